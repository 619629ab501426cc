import Derived.Test.YtompmkmbppcadaaV10
import Derived.Test.YtompmkmbppcadaaProg
import Derived.Test.YtompmkmbppcadaaGref1fixed
namespace Go.Proofs.Ytompmkmbppcadaa.V
open Go Go.RowKit
set_option linter.unusedVariables false
set_option maxRecDepth 100000
/-! tally/tallyref1.U32 -/
def F_ref1_U32_of (f50_ : Int → Int → Heap → (Sl → Heap → Prop) → Prop) (n1 : Int) (h : Heap) (Q : Sl → Heap → Prop) : Prop :=
  f50_ (IntKind.u64.wrap n1) 4 h fun (r2 : Sl) (h3 : Heap) =>
  Q r2 h3
def F_ref1_U32 (n1 : Int) (h : Heap) (Q : Sl → Heap → Prop) : Prop := F_ref1_U32_of F_ref1_fixed n1 h Q
def plan25 : Plan := .s (.r [0]) (.s (.r [2]) .z)
theorem F_ref1_U32.eq (f50_ : Int → Int → Heap → (Sl → Heap → Prop) → Prop) (n1 : Int) (h : Heap) (K : Value → Heap → Prop) : F_ref1_U32_of f50_ n1 h (fun (r0 : Sl) (h : Heap) => K (.slice r0.ptr r0.len r0.cap) h) =
    den Try.prog (fn1 50 (E_ref1_fixed_of f50_) noFns) Try.f25.ntmps plan25 (bodyOf Try.f25) (args0 0 [(.int .u32 n1 : Value)]) h ⟨fun env h => dRes Try.prog Try.f25.results.toList env h K, fun _ _ _ => False, fun env h => dRes Try.prog Try.f25.results.toList env h K⟩ := by kernel_rfl
def E_ref1_U32_of (f : Int → Heap → (Sl → Heap → Prop) → Prop) : List Value → Heap → (Value → Heap → Prop) → Prop
  | [v0], h, K => dec1 (.int .u32) v0 fun (n1 : Int) =>
  f n1 h (fun (r0 : Sl) (h : Heap) => K (.slice r0.ptr r0.len r0.cap) h)
  | _, _, _ => False
abbrev E_ref1_U32 := E_ref1_U32_of F_ref1_U32
theorem E_ref1_U32.right : IsRight Try.prog 25 E_ref1_U32 := by
  refine isRight fun vs K w hh => ?_
  match vs, hh with
  | [v0], hh =>
    unfold E_ref1_U32 E_ref1_U32_of at hh
    replace hh := dec1_sound hh; obtain ⟨n1, rfl, hh⟩ := hh
    unfold F_ref1_U32 at hh
    exact calls_den (fn1_right ok50 E_ref1_fixed.right noFns_right) plan25 _ w K Try.func25 (by kernel_rfl) (by kernel_rfl) (Eq.mp (F_ref1_U32.eq F_ref1_fixed n1 w.heap K) hh)
theorem ok25 : okFn Try.prog 25 = true := by kernel_rfl
end Go.Proofs.Ytompmkmbppcadaa.V
