import Derived.Test.YtboidjampddfoaaV10
import Derived.Test.YtboidjampddfoaaProg
namespace Go.Proofs.Ytboidjampddfoaa.V
open Go Go.RowKit
set_option linter.unusedVariables false
set_option maxRecDepth 100000
/-! (*tally/lease.Lease).Span -/
def F_lease_Lease_Span_of  (l1 : Option Addr) (h : Heap) (Q : Int → Heap → Prop) : Prop :=
  nn l1 fun (a2 : Addr) =>
  ld [.int .i64] (a2.add 6) h fun (v3 : Int) =>
  nn l1 fun (a4 : Addr) =>
  ld [.int .i64] (a4.add 6) h fun (v5 : Int) =>
  Q (IntKind.i64.wrap (v3 + (if (IntKind.i64.wrap (9223372036854775807 - v5)) < 1 then (IntKind.i64.wrap (9223372036854775807 - v5)) else 1))) h
def F_lease_Lease_Span (l1 : Option Addr) (h : Heap) (Q : Int → Heap → Prop) : Prop := F_lease_Lease_Span_of  l1 h Q
def plan40 : Plan := .s (.r [0]) (.s (.d [0, 1, 3, 7, 0, 16, 48, 112, 240, 496, 1023, 2047] [[0, 1, 2, 3, 4, 5, 6, 7, 8, 9, 10, 11]] [2]) .z)
theorem F_lease_Lease_Span.eq  (l1 : Option Addr) (h : Heap) (K : Value → Heap → Prop) : F_lease_Lease_Span_of  l1 h (fun (r0 : Int) (h : Heap) => K (.int .i64 r0) h) =
    den Try.prog noFns Try.f40.ntmps plan40 (bodyOf Try.f40) (args0 0 [(.pointer l1 : Value)]) h ⟨fun env h => dRes Try.prog Try.f40.results.toList env h K, fun _ _ _ => False, fun env h => dRes Try.prog Try.f40.results.toList env h K⟩ := by kernel_rfl
def E_lease_Lease_Span_of (f : Option Addr → Heap → (Int → Heap → Prop) → Prop) : List Value → Heap → (Value → Heap → Prop) → Prop
  | [v0], h, K => dec1 .ptr v0 fun (l1 : Option Addr) =>
  f l1 h (fun (r0 : Int) (h : Heap) => K (.int .i64 r0) h)
  | _, _, _ => False
abbrev E_lease_Lease_Span := E_lease_Lease_Span_of F_lease_Lease_Span
theorem E_lease_Lease_Span.right : IsRight Try.prog 40 E_lease_Lease_Span := by
  refine isRight fun vs K w hh => ?_
  match vs, hh with
  | [v0], hh =>
    unfold E_lease_Lease_Span E_lease_Lease_Span_of at hh
    replace hh := dec1_sound hh; obtain ⟨l1, rfl, hh⟩ := hh
    unfold F_lease_Lease_Span at hh
    exact calls_den noFns_right plan40 _ w K Try.func40 (by kernel_rfl) (by kernel_rfl) (Eq.mp (F_lease_Lease_Span.eq  l1 w.heap K) hh)
theorem ok40 : okFn Try.prog 40 = true := by kernel_rfl
end Go.Proofs.Ytboidjampddfoaa.V
