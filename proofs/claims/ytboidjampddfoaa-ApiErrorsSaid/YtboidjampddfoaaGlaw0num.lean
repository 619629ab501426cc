import Derived.Test.YtboidjampddfoaaV10
import Derived.Test.YtboidjampddfoaaProg
namespace Go.Proofs.Ytboidjampddfoaa.V
open Go Go.RowKit
set_option linter.unusedVariables false
set_option maxRecDepth 100000
/-! tally/tallylaw0.num -/
def F_law0_num_of  (e1 : Int) (h : Heap) (Q : Int → Heap → Prop) : Prop :=
  Q e1 h
def F_law0_num (e1 : Int) (h : Heap) (Q : Int → Heap → Prop) : Prop := F_law0_num_of  e1 h Q
def plan54 : Plan := .s (.r [0]) (.s (.r [2]) .z)
theorem F_law0_num.eq  (e1 : Int) (h : Heap) (K : Value → Heap → Prop) : F_law0_num_of  e1 h (fun (r0 : Int) (h : Heap) => K (.int .i64 r0) h) =
    den Try.prog noFns Try.f54.ntmps plan54 (bodyOf Try.f54) (args0 0 [(.int .i64 e1 : Value)]) h ⟨fun env h => dRes Try.prog Try.f54.results.toList env h K, fun _ _ _ => False, fun env h => dRes Try.prog Try.f54.results.toList env h K⟩ := by kernel_rfl
def E_law0_num_of (f : Int → Heap → (Int → Heap → Prop) → Prop) : List Value → Heap → (Value → Heap → Prop) → Prop
  | [v0], h, K => dec1 (.int .i64) v0 fun (e1 : Int) =>
  f e1 h (fun (r0 : Int) (h : Heap) => K (.int .i64 r0) h)
  | _, _, _ => False
abbrev E_law0_num := E_law0_num_of F_law0_num
theorem E_law0_num.right : IsRight Try.prog 54 E_law0_num := by
  refine isRight fun vs K w hh => ?_
  match vs, hh with
  | [v0], hh =>
    unfold E_law0_num E_law0_num_of at hh
    replace hh := dec1_sound hh; obtain ⟨e1, rfl, hh⟩ := hh
    unfold F_law0_num at hh
    exact calls_den noFns_right plan54 _ w K Try.func54 (by kernel_rfl) (by kernel_rfl) (Eq.mp (F_law0_num.eq  e1 w.heap K) hh)
theorem ok54 : okFn Try.prog 54 = true := by kernel_rfl
end Go.Proofs.Ytboidjampddfoaa.V
