import Derived.Test.YtompmkmbppcadaaV10
import Derived.Test.YtompmkmbppcadaaProg
import Derived.Test.YtompmkmbppcadaaGref0Cmp
namespace Go.Proofs.Ytompmkmbppcadaa.V
open Go Go.RowKit
set_option linter.unusedVariables false
set_option maxRecDepth 100000
/-! tally/tallyref0.Eq -/
def F_ref0_Eq_of (f47_ : Sl → Sl → Heap → (Int → Heap → Prop) → Prop) (a1 : Sl) (b2 : Sl) (h : Heap) (Q : Bool → Heap → Prop) : Prop :=
  f47_ a1 b2 h fun (r3 : Int) (h4 : Heap) =>
  Q (r3 == 0) h4
def F_ref0_Eq (a1 : Sl) (b2 : Sl) (h : Heap) (Q : Bool → Heap → Prop) : Prop := F_ref0_Eq_of F_ref0_Cmp a1 b2 h Q
def plan21 : Plan := .s (.r [0, 1]) (.s (.r [4]) .z)
theorem F_ref0_Eq.eq (f47_ : Sl → Sl → Heap → (Int → Heap → Prop) → Prop) (a1 : Sl) (b2 : Sl) (h : Heap) (K : Value → Heap → Prop) : F_ref0_Eq_of f47_ a1 b2 h (fun (r0 : Bool) (h : Heap) => K (.bool r0) h) =
    den Try.prog (fn1 47 (E_ref0_Cmp_of f47_) noFns) Try.f21.ntmps plan21 (bodyOf Try.f21) (args0 0 [(.slice a1.ptr a1.len a1.cap : Value), (.slice b2.ptr b2.len b2.cap : Value)]) h ⟨fun env h => dRes Try.prog Try.f21.results.toList env h K, fun _ _ _ => False, fun env h => dRes Try.prog Try.f21.results.toList env h K⟩ := by kernel_rfl
def E_ref0_Eq_of (f : Sl → Sl → Heap → (Bool → Heap → Prop) → Prop) : List Value → Heap → (Value → Heap → Prop) → Prop
  | [v0, v1], h, K => dec1 .sl v0 fun (a1 : Sl) =>
  dec1 .sl v1 fun (b2 : Sl) =>
  f a1 b2 h (fun (r0 : Bool) (h : Heap) => K (.bool r0) h)
  | _, _, _ => False
abbrev E_ref0_Eq := E_ref0_Eq_of F_ref0_Eq
theorem E_ref0_Eq.right : IsRight Try.prog 21 E_ref0_Eq := by
  refine isRight fun vs K w hh => ?_
  match vs, hh with
  | [v0, v1], hh =>
    unfold E_ref0_Eq E_ref0_Eq_of at hh
    replace hh := dec1_sound hh; obtain ⟨a1, rfl, hh⟩ := hh
    replace hh := dec1_sound hh; obtain ⟨b2, rfl, hh⟩ := hh
    unfold F_ref0_Eq at hh
    exact calls_den (fn1_right ok47 E_ref0_Cmp.right noFns_right) plan21 _ w K Try.func21 (by kernel_rfl) (by kernel_rfl) (Eq.mp (F_ref0_Eq.eq F_ref0_Cmp a1 b2 w.heap K) hh)
theorem ok21 : okFn Try.prog 21 = true := by kernel_rfl
end Go.Proofs.Ytompmkmbppcadaa.V
