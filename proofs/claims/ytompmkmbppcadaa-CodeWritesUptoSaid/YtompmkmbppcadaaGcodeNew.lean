import Derived.Test.YtompmkmbppcadaaV10
import Derived.Test.YtompmkmbppcadaaProg
namespace Go.Proofs.Ytompmkmbppcadaa.V
open Go Go.RowKit
set_option linter.unusedVariables false
set_option maxRecDepth 100000
/-! tally/code.New -/
def F_code_New_of   (h : Heap) (Q : Option Addr → Heap → Prop) : Prop :=
  al 92 [.slice none 0 0] h fun (a1 : Addr) (h2 : Heap) =>
  Q (some a1) h2
def F_code_New  (h : Heap) (Q : Option Addr → Heap → Prop) : Prop := F_code_New_of   h Q
def plan18 : Plan := .s (.r []) (.s (.r [0]) .z)
theorem F_code_New.eq   (h : Heap) (K : Value → Heap → Prop) : F_code_New_of   h (fun (r0 : Option Addr) (h : Heap) => K (.pointer r0) h) =
    den Try.prog noFns Try.f18.ntmps plan18 (bodyOf Try.f18) (args0 0 []) h ⟨fun env h => dRes Try.prog Try.f18.results.toList env h K, fun _ _ _ => False, fun env h => dRes Try.prog Try.f18.results.toList env h K⟩ := by kernel_rfl
def E_code_New_of (f : Heap → (Option Addr → Heap → Prop) → Prop) : List Value → Heap → (Value → Heap → Prop) → Prop
  | [], h, K => f  h (fun (r0 : Option Addr) (h : Heap) => K (.pointer r0) h)
  | _, _, _ => False
abbrev E_code_New := E_code_New_of F_code_New
theorem E_code_New.nil (f : Heap → (Option Addr → Heap → Prop) → Prop) (h : Heap) (K : Value → Heap → Prop) : E_code_New_of f [] h K = f  h (fun (r0 : Option Addr) (h : Heap) => K (.pointer r0) h) := rfl
theorem E_code_New.right : IsRight Try.prog 18 E_code_New := by
  refine isRight fun vs K w hh => ?_
  match vs, hh with
  | [], hh =>
    replace hh := Eq.mp (E_code_New.nil F_code_New w.heap K) hh
    unfold F_code_New at hh
    exact calls_den noFns_right plan18 _ w K Try.func18 (by kernel_rfl) (by kernel_rfl) (Eq.mp (F_code_New.eq   w.heap K) hh)
theorem ok18 : okFn Try.prog 18 = true := by kernel_rfl
end Go.Proofs.Ytompmkmbppcadaa.V
