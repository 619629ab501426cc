import Derived.Test.YtompmkmbppcadaaV10
import Derived.Test.YtompmkmbppcadaaProg
namespace Go.Proofs.Ytompmkmbppcadaa.V
open Go Go.RowKit
set_option linter.unusedVariables false
set_option maxRecDepth 100000
/-! tally/tallyref1.power -/
def F_ref1_power.l1 (k1 : Int) (j2 : Int → Heap → Prop) : Int → Int → Heap → Prop :=
  wl [(3, .one (.int .u32)), (4, .one (.int .i64))] (fun (next3 : Int → Int → Heap → Prop) (n4 : Int) (i5 : Int) (h6 : Heap) =>
  brr (decide (i5 < k1))
  (next3 (IntKind.u32.wrap (n4 * 2)) (IntKind.i64.wrap (i5 + 1)) h6)
  (j2 n4 h6))
def F_ref1_power_of  (k1 : Int) (h : Heap) (Q : Int → Heap → Prop) : Prop :=
  jn [(3, .one (.int .u32))] (fun (n7 : Int) (h8 : Heap) =>
  Q n7 h8) (fun (j2 : Int → Heap → Prop) =>
  F_ref1_power.l1 k1 j2 1 0 h)
def F_ref1_power (k1 : Int) (h : Heap) (Q : Int → Heap → Prop) : Prop := F_ref1_power_of  k1 h Q
def plan38 : Plan := .s (.r [0]) (.s (.r [0, 3]) (.s (.s (.r [0, 3, 4]) (.bj [(3, .one (.int .u32))] [] (.l [(3, .one (.int .u32)), (4, .one (.int .i64))] [0] (.s (.s (.r [0, 3, 4, 7]) (.c .z .z)) (.s (.b (.r [0, 3, 4])) (.r [0, 3, 4])))))) (.s (.r [2]) .z)))
theorem F_ref1_power.eq  (k1 : Int) (h : Heap) (K : Value → Heap → Prop) : F_ref1_power_of  k1 h (fun (r0 : Int) (h : Heap) => K (.int .u32 r0) h) =
    den Try.prog noFns Try.f38.ntmps plan38 (bodyOf Try.f38) (args0 0 [(.int .i64 k1 : Value)]) h ⟨fun env h => dRes Try.prog Try.f38.results.toList env h K, fun _ _ _ => False, fun env h => dRes Try.prog Try.f38.results.toList env h K⟩ := by kernel_rfl
def E_ref1_power_of (f : Int → Heap → (Int → Heap → Prop) → Prop) : List Value → Heap → (Value → Heap → Prop) → Prop
  | [v0], h, K => dec1 (.int .i64) v0 fun (k1 : Int) =>
  f k1 h (fun (r0 : Int) (h : Heap) => K (.int .u32 r0) h)
  | _, _, _ => False
abbrev E_ref1_power := E_ref1_power_of F_ref1_power
theorem E_ref1_power.right : IsRight Try.prog 38 E_ref1_power := by
  refine isRight fun vs K w hh => ?_
  match vs, hh with
  | [v0], hh =>
    unfold E_ref1_power E_ref1_power_of at hh
    replace hh := dec1_sound hh; obtain ⟨k1, rfl, hh⟩ := hh
    unfold F_ref1_power at hh
    exact calls_den noFns_right plan38 _ w K Try.func38 (by kernel_rfl) (by kernel_rfl) (Eq.mp (F_ref1_power.eq  k1 w.heap K) hh)
theorem ok38 : okFn Try.prog 38 = true := by kernel_rfl
end Go.Proofs.Ytompmkmbppcadaa.V
