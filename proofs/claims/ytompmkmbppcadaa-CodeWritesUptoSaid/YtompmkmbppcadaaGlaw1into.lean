import Derived.Test.YtompmkmbppcadaaV10
import Derived.Test.YtompmkmbppcadaaProg
namespace Go.Proofs.Ytompmkmbppcadaa.V
open Go Go.RowKit
set_option linter.unusedVariables false
set_option maxRecDepth 100000
/-! tally/tallylaw1.into -/
def F_law1_into_of  (n1 : Int) (m2 : Int) (h : Heap) (Q : Int → Heap → Prop) : Prop :=
  m2 ≠ 0 ∧
  jn [(5, .one (.int .i64))] (fun (k4 : Int) (h5 : Heap) =>
  Q k4 h5) (fun (j3 : Int → Heap → Prop) =>
  brr (decide ((n1.tmod m2) < 0))
  (j3 (IntKind.i64.wrap ((n1.tmod m2) + m2)) h)
  (j3 (n1.tmod m2) h))
def F_law1_into (n1 : Int) (m2 : Int) (h : Heap) (Q : Int → Heap → Prop) : Prop := F_law1_into_of  n1 m2 h Q
def plan19 : Plan := .s (.r [0, 1]) (.s (.r [1, 5]) (.s (.s (.r [1, 5, 10]) (.cj [(5, .one (.int .i64))] [] (.r [5]) .z)) (.s (.r [4]) .z)))
theorem F_law1_into.eq  (n1 : Int) (m2 : Int) (h : Heap) (K : Value → Heap → Prop) : F_law1_into_of  n1 m2 h (fun (r0 : Int) (h : Heap) => K (.int .i64 r0) h) =
    den Try.prog noFns Try.f19.ntmps plan19 (bodyOf Try.f19) (args0 0 [(.int .i64 n1 : Value), (.int .i64 m2 : Value)]) h ⟨fun env h => dRes Try.prog Try.f19.results.toList env h K, fun _ _ _ => False, fun env h => dRes Try.prog Try.f19.results.toList env h K⟩ := by kernel_rfl
def E_law1_into_of (f : Int → Int → Heap → (Int → Heap → Prop) → Prop) : List Value → Heap → (Value → Heap → Prop) → Prop
  | [v0, v1], h, K => dec1 (.int .i64) v0 fun (n1 : Int) =>
  dec1 (.int .i64) v1 fun (m2 : Int) =>
  f n1 m2 h (fun (r0 : Int) (h : Heap) => K (.int .i64 r0) h)
  | _, _, _ => False
abbrev E_law1_into := E_law1_into_of F_law1_into
theorem E_law1_into.right : IsRight Try.prog 19 E_law1_into := by
  refine isRight fun vs K w hh => ?_
  match vs, hh with
  | [v0, v1], hh =>
    unfold E_law1_into E_law1_into_of at hh
    replace hh := dec1_sound hh; obtain ⟨n1, rfl, hh⟩ := hh
    replace hh := dec1_sound hh; obtain ⟨m2, rfl, hh⟩ := hh
    unfold F_law1_into at hh
    exact calls_den noFns_right plan19 _ w K Try.func19 (by kernel_rfl) (by kernel_rfl) (Eq.mp (F_law1_into.eq  n1 m2 w.heap K) hh)
theorem ok19 : okFn Try.prog 19 = true := by kernel_rfl
end Go.Proofs.Ytompmkmbppcadaa.V
