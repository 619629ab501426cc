import Derived.Test.YtompmkmbppcadaaV10
import Derived.Test.YtompmkmbppcadaaProg
namespace Go.Proofs.Ytompmkmbppcadaa.V
open Go Go.RowKit
set_option linter.unusedVariables false
set_option maxRecDepth 100000
/-! tally/tallylaw1.place -/
def F_law1_place_of  (i1 : Int) (n2 : Int) (h : Heap) (Q : Int → Heap → Prop) : Prop :=
  n2 ≠ 0 ∧
  jn [(0, .one (.int .i64))] (fun (i4 : Int) (h5 : Heap) =>
  Q i4 h5) (fun (j3 : Int → Heap → Prop) =>
  brr (decide ((i1.tmod n2) < 0))
  (j3 (IntKind.i64.wrap ((i1.tmod n2) + n2)) h)
  (j3 (i1.tmod n2) h))
def F_law1_place (i1 : Int) (n2 : Int) (h : Heap) (Q : Int → Heap → Prop) : Prop := F_law1_place_of  i1 n2 h Q
def plan16 : Plan := .s (.r [0, 1]) (.s (.r [0, 1]) (.s (.s (.r [0, 1, 9]) (.cj [(0, .one (.int .i64))] [] (.r [0]) .z)) (.s (.r [4]) .z)))
theorem F_law1_place.eq  (i1 : Int) (n2 : Int) (h : Heap) (K : Value → Heap → Prop) : F_law1_place_of  i1 n2 h (fun (r0 : Int) (h : Heap) => K (.int .i64 r0) h) =
    den Try.prog noFns Try.f16.ntmps plan16 (bodyOf Try.f16) (args0 0 [(.int .i64 i1 : Value), (.int .i64 n2 : Value)]) h ⟨fun env h => dRes Try.prog Try.f16.results.toList env h K, fun _ _ _ => False, fun env h => dRes Try.prog Try.f16.results.toList env h K⟩ := by kernel_rfl
def E_law1_place_of (f : Int → Int → Heap → (Int → Heap → Prop) → Prop) : List Value → Heap → (Value → Heap → Prop) → Prop
  | [v0, v1], h, K => dec1 (.int .i64) v0 fun (i1 : Int) =>
  dec1 (.int .i64) v1 fun (n2 : Int) =>
  f i1 n2 h (fun (r0 : Int) (h : Heap) => K (.int .i64 r0) h)
  | _, _, _ => False
abbrev E_law1_place := E_law1_place_of F_law1_place
theorem E_law1_place.right : IsRight Try.prog 16 E_law1_place := by
  refine isRight fun vs K w hh => ?_
  match vs, hh with
  | [v0, v1], hh =>
    unfold E_law1_place E_law1_place_of at hh
    replace hh := dec1_sound hh; obtain ⟨i1, rfl, hh⟩ := hh
    replace hh := dec1_sound hh; obtain ⟨n2, rfl, hh⟩ := hh
    unfold F_law1_place at hh
    exact calls_den noFns_right plan16 _ w K Try.func16 (by kernel_rfl) (by kernel_rfl) (Eq.mp (F_law1_place.eq  i1 n2 w.heap K) hh)
theorem ok16 : okFn Try.prog 16 = true := by kernel_rfl
end Go.Proofs.Ytompmkmbppcadaa.V
