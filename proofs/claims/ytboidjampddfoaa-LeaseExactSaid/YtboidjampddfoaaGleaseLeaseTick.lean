import Derived.Test.YtboidjampddfoaaV10
import Derived.Test.YtboidjampddfoaaProg
import Derived.Test.YtboidjampddfoaaGleaseclockpass
import Derived.Test.YtboidjampddfoaaGleaseLeasebegin
namespace Go.Proofs.Ytboidjampddfoaa.V
open Go Go.RowKit
set_option linter.unusedVariables false
set_option maxRecDepth 100000
/-! (*tally/lease.Lease).Tick -/
def F_lease_Lease_Tick_of (f68_ : Option Addr → Heap → (Heap → Prop) → Prop) (f69_ : Option Addr → Heap → (Int → Heap → Prop) → Prop) (l1 : Option Addr) (phase2 : Int) (holds3 : Bool) (free4 : Bool) (h : Heap) (Q : Int → Bool → Heap → Prop) : Prop :=
  nn l1 fun (a5 : Addr) =>
  f68_ (some (a5.add 0)) h fun  (h6 : Heap) =>
  jn [(8, .one (.int .u64)), (9, .one .bool)] (fun (epoch29 : Int) (ends30 : Bool) (h31 : Heap) =>
  Q epoch29 ends30 h31) (fun (j7 : Int → Bool → Heap → Prop) =>
  brr holds3
  (nn l1 fun (a8 : Addr) =>
  ld [.int .i64] ((a8.add 0).add 2) h6 fun (v9 : Int) =>
  nn l1 fun (a10 : Addr) =>
  ld [.int .i64] (a10.add 6) h6 fun (v11 : Int) =>
  j7 0 (decide (v9 ≥ v11)) h6)
  (jn [(8, .one (.int .u64))] (fun (epoch27 : Int) (h28 : Heap) =>
  j7 epoch27 false h28) (fun (j12 : Int → Heap → Prop) =>
  brr (phase2 == 0)
  (nn l1 fun (a13 : Addr) =>
  ld [.int .i64] ((a13.add 0).add 0) h6 fun (v14 : Int) =>
  nn l1 fun (a15 : Addr) =>
  st ((a15.add 0).add 0) [.int .i64 (if (0 : Int) > (IntKind.i64.wrap (v14 - 1)) then 0 else (IntKind.i64.wrap (v14 - 1)))] h6 fun (h16 : Heap) =>
  jn [(48, .one .bool)] (fun (x20 : Bool) (h21 : Heap) =>
  jn [(8, .one (.int .u64))] (fun (epoch25 : Int) (h26 : Heap) =>
  j12 epoch25 h26) (fun (j22 : Int → Heap → Prop) =>
  brr x20
  (f69_ l1 h21 fun (r23 : Int) (h24 : Heap) =>
  j22 r23 h24)
  (j22 0 h21))) (fun (j17 : Bool → Heap → Prop) =>
  nn l1 fun (a18 : Addr) =>
  ld [.int .i64] ((a18.add 0).add 0) h16 fun (v19 : Int) =>
  brr (v19 == 0)
  (j17 free4 h16)
  (j17 false h16)))
  (j12 0 h6))))
def F_lease_Lease_Tick (l1 : Option Addr) (phase2 : Int) (holds3 : Bool) (free4 : Bool) (h : Heap) (Q : Int → Bool → Heap → Prop) : Prop := F_lease_Lease_Tick_of F_lease_clock_pass F_lease_Lease_begin l1 phase2 holds3 free4 h Q
def plan36 : Plan := .s (.r [0, 1, 2, 3, 8, 9]) (.s (.r [0, 1, 2, 3, 8, 9]) (.s (.b (.s (.r [0, 1, 3, 8, 9, 14]) (.cj [(8, .one (.int .u64)), (9, .one .bool)] [] (.d [0, 1, 3, 7, 15, 0, 32, 96, 224, 511, 1023] [[0, 1, 2, 3, 4, 5, 6, 7, 8, 9, 10]] [8, 9]) (.s (.r [0, 3, 8, 9, 26]) (.cj [(8, .one (.int .u64))] [9] (.s (.r [0, 3, 8, 9]) (.s (.rj [(48, .one .bool)] [0, 8, 9]) (.cj [(8, .one (.int .u64))] [9] (.r [8, 9]) .z))) .z))))) (.s (.r [8, 9]) .z)))
theorem F_lease_Lease_Tick.eq (f68_ : Option Addr → Heap → (Heap → Prop) → Prop) (f69_ : Option Addr → Heap → (Int → Heap → Prop) → Prop) (l1 : Option Addr) (phase2 : Int) (holds3 : Bool) (free4 : Bool) (h : Heap) (K : Value → Heap → Prop) : F_lease_Lease_Tick_of f68_ f69_ l1 phase2 holds3 free4 h (fun (r0 : Int) (r1 : Bool) (h : Heap) => K (.tuple #[.int .u64 r0, .bool r1]) h) =
    den Try.prog (fn1 68 (E_lease_clock_pass_of f68_) (fn1 69 (E_lease_Lease_begin_of f69_) noFns)) Try.f36.ntmps plan36 (bodyOf Try.f36) (args0 0 [(.pointer l1 : Value), (.int .i64 phase2 : Value), (.bool holds3 : Value), (.bool free4 : Value)]) h ⟨fun env h => dRes Try.prog Try.f36.results.toList env h K, fun _ _ _ => False, fun env h => dRes Try.prog Try.f36.results.toList env h K⟩ := by kernel_rfl
def E_lease_Lease_Tick_of (f : Option Addr → Int → Bool → Bool → Heap → (Int → Bool → Heap → Prop) → Prop) : List Value → Heap → (Value → Heap → Prop) → Prop
  | [v0, v1, v2, v3], h, K => dec1 .ptr v0 fun (l1 : Option Addr) =>
  dec1 (.int .i64) v1 fun (phase2 : Int) =>
  dec1 .bool v2 fun (holds3 : Bool) =>
  dec1 .bool v3 fun (free4 : Bool) =>
  f l1 phase2 holds3 free4 h (fun (r0 : Int) (r1 : Bool) (h : Heap) => K (.tuple #[.int .u64 r0, .bool r1]) h)
  | _, _, _ => False
abbrev E_lease_Lease_Tick := E_lease_Lease_Tick_of F_lease_Lease_Tick
theorem E_lease_Lease_Tick.right : IsRight Try.prog 36 E_lease_Lease_Tick := by
  refine isRight fun vs K w hh => ?_
  match vs, hh with
  | [v0, v1, v2, v3], hh =>
    unfold E_lease_Lease_Tick E_lease_Lease_Tick_of at hh
    replace hh := dec1_sound hh; obtain ⟨l1, rfl, hh⟩ := hh
    replace hh := dec1_sound hh; obtain ⟨phase2, rfl, hh⟩ := hh
    replace hh := dec1_sound hh; obtain ⟨holds3, rfl, hh⟩ := hh
    replace hh := dec1_sound hh; obtain ⟨free4, rfl, hh⟩ := hh
    unfold F_lease_Lease_Tick at hh
    exact calls_den (fn1_right ok68 E_lease_clock_pass.right (fn1_right ok69 E_lease_Lease_begin.right noFns_right)) plan36 _ w K Try.func36 (by kernel_rfl) (by kernel_rfl) (Eq.mp (F_lease_Lease_Tick.eq F_lease_clock_pass F_lease_Lease_begin l1 phase2 holds3 free4 w.heap K) hh)
theorem ok36 : okFn Try.prog 36 = true := by kernel_rfl
end Go.Proofs.Ytboidjampddfoaa.V
