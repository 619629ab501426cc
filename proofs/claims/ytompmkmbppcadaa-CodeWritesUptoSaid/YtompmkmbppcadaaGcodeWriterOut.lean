import Derived.Test.YtompmkmbppcadaaV10
import Derived.Test.YtompmkmbppcadaaProg
import Derived.Test.YtompmkmbppcadaaGcodetaken
namespace Go.Proofs.Ytompmkmbppcadaa.V
open Go Go.RowKit
set_option linter.unusedVariables false
set_option maxRecDepth 100000
/-! (*tally/code.Writer).Out -/
def F_code_Writer_Out_of (f48_ : Sl → Heap → (Sl → Heap → Prop) → Prop) (w1 : Option Addr) (h : Heap) (Q : Sl → Heap → Prop) : Prop :=
  nn w1 fun (a2 : Addr) =>
  ld [.sl] (a2.add 0) h fun (v3 : Sl) =>
  f48_ v3 h fun (r4 : Sl) (h5 : Heap) =>
  Q r4 h5
def F_code_Writer_Out (w1 : Option Addr) (h : Heap) (Q : Sl → Heap → Prop) : Prop := F_code_Writer_Out_of F_code_taken w1 h Q
def plan22 : Plan := .s (.r [0]) (.s (.r [2]) .z)
theorem F_code_Writer_Out.eq (f48_ : Sl → Heap → (Sl → Heap → Prop) → Prop) (w1 : Option Addr) (h : Heap) (K : Value → Heap → Prop) : F_code_Writer_Out_of f48_ w1 h (fun (r0 : Sl) (h : Heap) => K (.slice r0.ptr r0.len r0.cap) h) =
    den Try.prog (fn1 48 (E_code_taken_of f48_) noFns) Try.f22.ntmps plan22 (bodyOf Try.f22) (args0 0 [(.pointer w1 : Value)]) h ⟨fun env h => dRes Try.prog Try.f22.results.toList env h K, fun _ _ _ => False, fun env h => dRes Try.prog Try.f22.results.toList env h K⟩ := by kernel_rfl
def E_code_Writer_Out_of (f : Option Addr → Heap → (Sl → Heap → Prop) → Prop) : List Value → Heap → (Value → Heap → Prop) → Prop
  | [v0], h, K => dec1 .ptr v0 fun (w1 : Option Addr) =>
  f w1 h (fun (r0 : Sl) (h : Heap) => K (.slice r0.ptr r0.len r0.cap) h)
  | _, _, _ => False
abbrev E_code_Writer_Out := E_code_Writer_Out_of F_code_Writer_Out
theorem E_code_Writer_Out.right : IsRight Try.prog 22 E_code_Writer_Out := by
  refine isRight fun vs K w hh => ?_
  match vs, hh with
  | [v0], hh =>
    unfold E_code_Writer_Out E_code_Writer_Out_of at hh
    replace hh := dec1_sound hh; obtain ⟨w1, rfl, hh⟩ := hh
    unfold F_code_Writer_Out at hh
    exact calls_den (fn1_right ok48 E_code_taken.right noFns_right) plan22 _ w K Try.func22 (by kernel_rfl) (by kernel_rfl) (Eq.mp (F_code_Writer_Out.eq F_code_taken w1 w.heap K) hh)
theorem ok22 : okFn Try.prog 22 = true := by kernel_rfl
end Go.Proofs.Ytompmkmbppcadaa.V
