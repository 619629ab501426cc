import Derived.Test.YtompmkmbppcadaaV10
import Derived.Test.YtompmkmbppcadaaProg
namespace Go.Proofs.Ytompmkmbppcadaa.V
open Go Go.RowKit
set_option linter.unusedVariables false
set_option maxRecDepth 100000
/-! tally/tallylaw1.Lend -/
def F_law1_Lend_of  (b1 : Sl) (h : Heap) (Q : Sl → Heap → Prop) : Prop :=
  app 5 1 1 (.int .u8 0) (⟨none, 0, 0⟩ : Sl) b1.ptr b1.len h fun (s2 : Sl) (h3 : Heap) =>
  al 5 [.int .u8 165, .int .u8 90, .int .u8 165] h3 fun (a4 : Addr) (h5 : Heap) =>
  app 5 1 1 (.int .u8 0) s2 (some a4) 3 h5 fun (s6 : Sl) (h7 : Heap) =>
  slTo s6 ((b1.len : Nat) : Int) fun (s8 : Sl) =>
  Q s8 h7
def F_law1_Lend (b1 : Sl) (h : Heap) (Q : Sl → Heap → Prop) : Prop := F_law1_Lend_of  b1 h Q
def plan10 : Plan := .s (.r [0]) (.s (.r [0, 3]) (.s (.r [0, 3]) (.s (.r [0, 3]) (.s (.r [2]) .z))))
theorem F_law1_Lend.eq  (b1 : Sl) (h : Heap) (K : Value → Heap → Prop) : F_law1_Lend_of  b1 h (fun (r0 : Sl) (h : Heap) => K (.slice r0.ptr r0.len r0.cap) h) =
    den Try.prog noFns Try.f10.ntmps plan10 (bodyOf Try.f10) (args0 0 [(.slice b1.ptr b1.len b1.cap : Value)]) h ⟨fun env h => dRes Try.prog Try.f10.results.toList env h K, fun _ _ _ => False, fun env h => dRes Try.prog Try.f10.results.toList env h K⟩ := by kernel_rfl
def E_law1_Lend_of (f : Sl → Heap → (Sl → Heap → Prop) → Prop) : List Value → Heap → (Value → Heap → Prop) → Prop
  | [v0], h, K => dec1 .sl v0 fun (b1 : Sl) =>
  f b1 h (fun (r0 : Sl) (h : Heap) => K (.slice r0.ptr r0.len r0.cap) h)
  | _, _, _ => False
abbrev E_law1_Lend := E_law1_Lend_of F_law1_Lend
theorem E_law1_Lend.right : IsRight Try.prog 10 E_law1_Lend := by
  refine isRight fun vs K w hh => ?_
  match vs, hh with
  | [v0], hh =>
    unfold E_law1_Lend E_law1_Lend_of at hh
    replace hh := dec1_sound hh; obtain ⟨b1, rfl, hh⟩ := hh
    unfold F_law1_Lend at hh
    exact calls_den noFns_right plan10 _ w K Try.func10 (by kernel_rfl) (by kernel_rfl) (Eq.mp (F_law1_Lend.eq  b1 w.heap K) hh)
theorem ok10 : okFn Try.prog 10 = true := by kernel_rfl
end Go.Proofs.Ytompmkmbppcadaa.V
