import Derived.Test.YtompmkmbppcadaaV10
import Derived.Test.YtompmkmbppcadaaProg
namespace Go.Proofs.Ytompmkmbppcadaa.V
open Go Go.RowKit
set_option linter.unusedVariables false
set_option maxRecDepth 100000
/-! tally/tallyref1.mirrored -/
def F_ref1_mirrored.l1 (j2 : Int → Heap → Prop) : Int → Int → Int → Heap → Prop :=
  wl [(0, .one (.int .u32)), (3, .one (.int .u32)), (4, .one (.int .i64))] (fun (next3 : Int → Int → Int → Heap → Prop) (n4 : Int) (m5 : Int) (k6 : Int) (h7 : Heap) =>
  brr (decide (k6 < 32))
  ((2 : Int) ≠ 0 ∧
  (2 : Int) ≠ 0 ∧
  next3 (IntKind.u32.wrap (n4.tdiv 2)) (IntKind.u32.wrap ((IntKind.u32.wrap (m5 * 2)) + (n4.tmod 2))) (IntKind.i64.wrap (k6 + 1)) h7)
  (j2 m5 h7))
def F_ref1_mirrored_of  (n1 : Int) (h : Heap) (Q : Int → Heap → Prop) : Prop :=
  jn [(3, .one (.int .u32))] (fun (m8 : Int) (h9 : Heap) =>
  Q m8 h9) (fun (j2 : Int → Heap → Prop) =>
  F_ref1_mirrored.l1 j2 n1 0 0 h)
def F_ref1_mirrored (n1 : Int) (h : Heap) (Q : Int → Heap → Prop) : Prop := F_ref1_mirrored_of  n1 h Q
def plan39 : Plan := .s (.r [0]) (.s (.r [0, 3]) (.s (.s (.r [0, 3, 4]) (.bj [(3, .one (.int .u32))] [] (.l [(0, .one (.int .u32)), (3, .one (.int .u32)), (4, .one (.int .i64))] [] (.s (.s (.r [0, 3, 4, 6]) (.c .z .z)) (.s (.b (.s (.r [0, 3, 4]) (.r [0, 3, 4]))) (.r [0, 3, 4])))))) (.s (.r [2]) .z)))
theorem F_ref1_mirrored.eq  (n1 : Int) (h : Heap) (K : Value → Heap → Prop) : F_ref1_mirrored_of  n1 h (fun (r0 : Int) (h : Heap) => K (.int .u32 r0) h) =
    den Try.prog noFns Try.f39.ntmps plan39 (bodyOf Try.f39) (args0 0 [(.int .u32 n1 : Value)]) h ⟨fun env h => dRes Try.prog Try.f39.results.toList env h K, fun _ _ _ => False, fun env h => dRes Try.prog Try.f39.results.toList env h K⟩ := by kernel_rfl
def E_ref1_mirrored_of (f : Int → Heap → (Int → Heap → Prop) → Prop) : List Value → Heap → (Value → Heap → Prop) → Prop
  | [v0], h, K => dec1 (.int .u32) v0 fun (n1 : Int) =>
  f n1 h (fun (r0 : Int) (h : Heap) => K (.int .u32 r0) h)
  | _, _, _ => False
abbrev E_ref1_mirrored := E_ref1_mirrored_of F_ref1_mirrored
theorem E_ref1_mirrored.right : IsRight Try.prog 39 E_ref1_mirrored := by
  refine isRight fun vs K w hh => ?_
  match vs, hh with
  | [v0], hh =>
    unfold E_ref1_mirrored E_ref1_mirrored_of at hh
    replace hh := dec1_sound hh; obtain ⟨n1, rfl, hh⟩ := hh
    unfold F_ref1_mirrored at hh
    exact calls_den noFns_right plan39 _ w K Try.func39 (by kernel_rfl) (by kernel_rfl) (Eq.mp (F_ref1_mirrored.eq  n1 w.heap K) hh)
theorem ok39 : okFn Try.prog 39 = true := by kernel_rfl
end Go.Proofs.Ytompmkmbppcadaa.V
