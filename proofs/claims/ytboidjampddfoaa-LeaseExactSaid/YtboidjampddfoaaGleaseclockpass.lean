import Derived.Test.YtboidjampddfoaaV10
import Derived.Test.YtboidjampddfoaaProg
namespace Go.Proofs.Ytboidjampddfoaa.V
open Go Go.RowKit
set_option linter.unusedVariables false
set_option maxRecDepth 100000
/-! (*tally/lease.clock).pass -/
def F_lease_clock_pass_of  (c1 : Option Addr) (h : Heap) (Q : Heap → Prop) : Prop :=
  nn c1 fun (a2 : Addr) =>
  ld [.int .i64] (a2.add 1) h fun (v3 : Int) =>
  nn c1 fun (a4 : Addr) =>
  ld [.int .i64] (a4.add 1) h fun (v5 : Int) =>
  nn c1 fun (a6 : Addr) =>
  st (a6.add 1) [.int .i64 (IntKind.i64.wrap (v3 + (if (IntKind.i64.wrap (9223372036854775807 - v5)) < 1 then (IntKind.i64.wrap (9223372036854775807 - v5)) else 1)))] h fun (h7 : Heap) =>
  nn c1 fun (a8 : Addr) =>
  ld [.int .i64] (a8.add 2) h7 fun (v9 : Int) =>
  nn c1 fun (a10 : Addr) =>
  ld [.int .i64] (a10.add 2) h7 fun (v11 : Int) =>
  nn c1 fun (a12 : Addr) =>
  st (a12.add 2) [.int .i64 (IntKind.i64.wrap (v9 + (if (IntKind.i64.wrap (9223372036854775807 - v11)) < 1 then (IntKind.i64.wrap (9223372036854775807 - v11)) else 1)))] h7 fun (h13 : Heap) =>
  Q h13
def F_lease_clock_pass (c1 : Option Addr) (h : Heap) (Q : Heap → Prop) : Prop := F_lease_clock_pass_of  c1 h Q
def plan68 : Plan := .s (.d [0, 1, 3, 7, 0, 16, 48, 112, 240, 496, 1023, 2047, 4095, 8191] [[0, 1, 2, 3, 4, 5, 6, 7, 8, 9, 10, 11, 12, 13]] [0]) (.d [0, 1, 3, 7, 0, 16, 48, 112, 240, 496, 1023, 2047, 4095, 8191] [[0, 1, 2, 3, 4, 5, 6, 7, 8, 9, 10, 11, 12, 13]] [])
theorem F_lease_clock_pass.eq  (c1 : Option Addr) (h : Heap) (K : Value → Heap → Prop) : F_lease_clock_pass_of  c1 h (fun  (h : Heap) => K (.tuple #[]) h) =
    den Try.prog noFns Try.f68.ntmps plan68 (bodyOf Try.f68) (args0 0 [(.pointer c1 : Value)]) h ⟨fun env h => dRes Try.prog Try.f68.results.toList env h K, fun _ _ _ => False, fun env h => dRes Try.prog Try.f68.results.toList env h K⟩ := by kernel_rfl
def E_lease_clock_pass_of (f : Option Addr → Heap → (Heap → Prop) → Prop) : List Value → Heap → (Value → Heap → Prop) → Prop
  | [v0], h, K => dec1 .ptr v0 fun (c1 : Option Addr) =>
  f c1 h (fun  (h : Heap) => K (.tuple #[]) h)
  | _, _, _ => False
abbrev E_lease_clock_pass := E_lease_clock_pass_of F_lease_clock_pass
theorem E_lease_clock_pass.right : IsRight Try.prog 68 E_lease_clock_pass := by
  refine isRight fun vs K w hh => ?_
  match vs, hh with
  | [v0], hh =>
    unfold E_lease_clock_pass E_lease_clock_pass_of at hh
    replace hh := dec1_sound hh; obtain ⟨c1, rfl, hh⟩ := hh
    unfold F_lease_clock_pass at hh
    exact calls_den noFns_right plan68 _ w K Try.func68 (by kernel_rfl) (by kernel_rfl) (Eq.mp (F_lease_clock_pass.eq  c1 w.heap K) hh)
theorem ok68 : okFn Try.prog 68 = true := by kernel_rfl
end Go.Proofs.Ytboidjampddfoaa.V
