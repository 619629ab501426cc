import Derived.Test.YtompmkmbppcadaaV10
import Derived.Test.YtompmkmbppcadaaProg
import Derived.Test.YtompmkmbppcadaaGref1Var
namespace Go.Proofs.Ytompmkmbppcadaa.V
open Go Go.RowKit
set_option linter.unusedVariables false
set_option maxRecDepth 100000
/-! tally/tallyref1.Text -/
def F_ref1_Text_of (f45_ : Int → Heap → (Sl → Heap → Prop) → Prop) (b1 : Sl) (h : Heap) (Q : Sl → Heap → Prop) : Prop :=
  f45_ (IntKind.u64.wrap ((b1.len : Nat) : Int)) h fun (r2 : Sl) (h3 : Heap) =>
  app 5 1 1 (.int .u8 0) r2 b1.ptr b1.len h3 fun (s4 : Sl) (h5 : Heap) =>
  Q s4 h5
def F_ref1_Text (b1 : Sl) (h : Heap) (Q : Sl → Heap → Prop) : Prop := F_ref1_Text_of F_ref1_Var b1 h Q
def plan27 : Plan := .s (.r [0]) (.s (.r [0, 3]) (.s (.r [3]) (.s (.r [2]) .z)))
theorem F_ref1_Text.eq (f45_ : Int → Heap → (Sl → Heap → Prop) → Prop) (b1 : Sl) (h : Heap) (K : Value → Heap → Prop) : F_ref1_Text_of f45_ b1 h (fun (r0 : Sl) (h : Heap) => K (.slice r0.ptr r0.len r0.cap) h) =
    den Try.prog (fn1 45 (E_ref1_Var_of f45_) noFns) Try.f27.ntmps plan27 (bodyOf Try.f27) (args0 0 [(.slice b1.ptr b1.len b1.cap : Value)]) h ⟨fun env h => dRes Try.prog Try.f27.results.toList env h K, fun _ _ _ => False, fun env h => dRes Try.prog Try.f27.results.toList env h K⟩ := by kernel_rfl
def E_ref1_Text_of (f : Sl → Heap → (Sl → Heap → Prop) → Prop) : List Value → Heap → (Value → Heap → Prop) → Prop
  | [v0], h, K => dec1 .sl v0 fun (b1 : Sl) =>
  f b1 h (fun (r0 : Sl) (h : Heap) => K (.slice r0.ptr r0.len r0.cap) h)
  | _, _, _ => False
abbrev E_ref1_Text := E_ref1_Text_of F_ref1_Text
theorem E_ref1_Text.right : IsRight Try.prog 27 E_ref1_Text := by
  refine isRight fun vs K w hh => ?_
  match vs, hh with
  | [v0], hh =>
    unfold E_ref1_Text E_ref1_Text_of at hh
    replace hh := dec1_sound hh; obtain ⟨b1, rfl, hh⟩ := hh
    unfold F_ref1_Text at hh
    exact calls_den (fn1_right ok45 E_ref1_Var.right noFns_right) plan27 _ w K Try.func27 (by kernel_rfl) (by kernel_rfl) (Eq.mp (F_ref1_Text.eq F_ref1_Var b1 w.heap K) hh)
theorem ok27 : okFn Try.prog 27 = true := by kernel_rfl
end Go.Proofs.Ytompmkmbppcadaa.V
