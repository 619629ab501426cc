import Derived.Test.YtboidjampddfoaaV10
import Derived.Test.YtboidjampddfoaaProg
import Derived.Test.YtboidjampddfoaaGlaw0all
import Derived.Test.YtboidjampddfoaaGlaw0errors1
namespace Go.Proofs.Ytboidjampddfoaa.V
open Go Go.RowKit
set_option linter.unusedVariables false
set_option maxRecDepth 100000
/-! tally/tallylaw0.ApiErrors -/
def F_law0_ApiErrors_of (f14_ : Sl → Heap → (Bool → Heap → Prop) → Prop) (f15_ : Heap → (Sl → Heap → Prop) → Prop)  (h : Heap) (Q : Bool → Heap → Prop) : Prop :=
  f15_ h fun (r1 : Sl) (h2 : Heap) =>
  f14_ r1 h2 fun (r3 : Bool) (h4 : Heap) =>
  Q r3 h4
def F_law0_ApiErrors  (h : Heap) (Q : Bool → Heap → Prop) : Prop := F_law0_ApiErrors_of F_law0_all F_law0_errors1  h Q
def plan3 : Plan := .s (.r []) (.s (.r [0]) .z)
theorem F_law0_ApiErrors.eq (f14_ : Sl → Heap → (Bool → Heap → Prop) → Prop) (f15_ : Heap → (Sl → Heap → Prop) → Prop)  (h : Heap) (K : Value → Heap → Prop) : F_law0_ApiErrors_of f14_ f15_  h (fun (r0 : Bool) (h : Heap) => K (.bool r0) h) =
    den Try.prog (fn1 14 (E_law0_all_of f14_) (fn1 15 (E_law0_errors1_of f15_) noFns)) Try.f3.ntmps plan3 (bodyOf Try.f3) (args0 0 []) h ⟨fun env h => dRes Try.prog Try.f3.results.toList env h K, fun _ _ _ => False, fun env h => dRes Try.prog Try.f3.results.toList env h K⟩ := by kernel_rfl
def E_law0_ApiErrors_of (f : Heap → (Bool → Heap → Prop) → Prop) : List Value → Heap → (Value → Heap → Prop) → Prop
  | [], h, K => f  h (fun (r0 : Bool) (h : Heap) => K (.bool r0) h)
  | _, _, _ => False
abbrev E_law0_ApiErrors := E_law0_ApiErrors_of F_law0_ApiErrors
theorem E_law0_ApiErrors.nil (f : Heap → (Bool → Heap → Prop) → Prop) (h : Heap) (K : Value → Heap → Prop) : E_law0_ApiErrors_of f [] h K = f  h (fun (r0 : Bool) (h : Heap) => K (.bool r0) h) := rfl
theorem E_law0_ApiErrors.right : IsRight Try.prog 3 E_law0_ApiErrors := by
  refine isRight fun vs K w hh => ?_
  match vs, hh with
  | [], hh =>
    replace hh := Eq.mp (E_law0_ApiErrors.nil F_law0_ApiErrors w.heap K) hh
    unfold F_law0_ApiErrors at hh
    exact calls_den (fn1_right ok14 E_law0_all.right (fn1_right ok15 E_law0_errors1.right noFns_right)) plan3 _ w K Try.func3 (by kernel_rfl) (by kernel_rfl) (Eq.mp (F_law0_ApiErrors.eq F_law0_all F_law0_errors1  w.heap K) hh)
theorem ok3 : okFn Try.prog 3 = true := by kernel_rfl
end Go.Proofs.Ytboidjampddfoaa.V
