import Derived.Test.YtboidjampddfoaaV10
import Derived.Test.YtboidjampddfoaaProg
namespace Go.Proofs.Ytboidjampddfoaa.V
open Go Go.RowKit
set_option linter.unusedVariables false
set_option maxRecDepth 100000
/-! tally/tallylaw11.within -/
def F_law11_within_of  (n1 : Int) (m2 : Int) (h : Heap) (Q : Int → Heap → Prop) : Prop :=
  m2 ≠ 0 ∧
  m2 ≠ 0 ∧
  Q ((IntKind.i64.wrap ((n1.tmod m2) + m2)).tmod m2) h
def F_law11_within (n1 : Int) (m2 : Int) (h : Heap) (Q : Int → Heap → Prop) : Prop := F_law11_within_of  n1 m2 h Q
def plan35 : Plan := .s (.r [0, 1]) (.s (.r [4]) .z)
theorem F_law11_within.eq  (n1 : Int) (m2 : Int) (h : Heap) (K : Value → Heap → Prop) : F_law11_within_of  n1 m2 h (fun (r0 : Int) (h : Heap) => K (.int .i64 r0) h) =
    den Try.prog noFns Try.f35.ntmps plan35 (bodyOf Try.f35) (args0 0 [(.int .i64 n1 : Value), (.int .i64 m2 : Value)]) h ⟨fun env h => dRes Try.prog Try.f35.results.toList env h K, fun _ _ _ => False, fun env h => dRes Try.prog Try.f35.results.toList env h K⟩ := by kernel_rfl
def E_law11_within_of (f : Int → Int → Heap → (Int → Heap → Prop) → Prop) : List Value → Heap → (Value → Heap → Prop) → Prop
  | [v0, v1], h, K => dec1 (.int .i64) v0 fun (n1 : Int) =>
  dec1 (.int .i64) v1 fun (m2 : Int) =>
  f n1 m2 h (fun (r0 : Int) (h : Heap) => K (.int .i64 r0) h)
  | _, _, _ => False
abbrev E_law11_within := E_law11_within_of F_law11_within
theorem E_law11_within.right : IsRight Try.prog 35 E_law11_within := by
  refine isRight fun vs K w hh => ?_
  match vs, hh with
  | [v0, v1], hh =>
    unfold E_law11_within E_law11_within_of at hh
    replace hh := dec1_sound hh; obtain ⟨n1, rfl, hh⟩ := hh
    replace hh := dec1_sound hh; obtain ⟨m2, rfl, hh⟩ := hh
    unfold F_law11_within at hh
    exact calls_den noFns_right plan35 _ w K Try.func35 (by kernel_rfl) (by kernel_rfl) (Eq.mp (F_law11_within.eq  n1 m2 w.heap K) hh)
theorem ok35 : okFn Try.prog 35 = true := by kernel_rfl
end Go.Proofs.Ytboidjampddfoaa.V
