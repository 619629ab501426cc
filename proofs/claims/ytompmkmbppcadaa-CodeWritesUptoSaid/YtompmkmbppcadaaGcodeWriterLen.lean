import Derived.Test.YtompmkmbppcadaaV10
import Derived.Test.YtompmkmbppcadaaProg
namespace Go.Proofs.Ytompmkmbppcadaa.V
open Go Go.RowKit
set_option linter.unusedVariables false
set_option maxRecDepth 100000
/-! (*tally/code.Writer).Len -/
def F_code_Writer_Len_of  (w1 : Option Addr) (h : Heap) (Q : Int → Heap → Prop) : Prop :=
  nn w1 fun (a2 : Addr) =>
  ld [.sl] (a2.add 0) h fun (v3 : Sl) =>
  Q ((v3.len : Nat) : Int) h
def F_code_Writer_Len (w1 : Option Addr) (h : Heap) (Q : Int → Heap → Prop) : Prop := F_code_Writer_Len_of  w1 h Q
def plan23 : Plan := .s (.r [0]) (.s (.r [2]) .z)
theorem F_code_Writer_Len.eq  (w1 : Option Addr) (h : Heap) (K : Value → Heap → Prop) : F_code_Writer_Len_of  w1 h (fun (r0 : Int) (h : Heap) => K (.int .i64 r0) h) =
    den Try.prog noFns Try.f23.ntmps plan23 (bodyOf Try.f23) (args0 0 [(.pointer w1 : Value)]) h ⟨fun env h => dRes Try.prog Try.f23.results.toList env h K, fun _ _ _ => False, fun env h => dRes Try.prog Try.f23.results.toList env h K⟩ := by kernel_rfl
def E_code_Writer_Len_of (f : Option Addr → Heap → (Int → Heap → Prop) → Prop) : List Value → Heap → (Value → Heap → Prop) → Prop
  | [v0], h, K => dec1 .ptr v0 fun (w1 : Option Addr) =>
  f w1 h (fun (r0 : Int) (h : Heap) => K (.int .i64 r0) h)
  | _, _, _ => False
abbrev E_code_Writer_Len := E_code_Writer_Len_of F_code_Writer_Len
theorem E_code_Writer_Len.right : IsRight Try.prog 23 E_code_Writer_Len := by
  refine isRight fun vs K w hh => ?_
  match vs, hh with
  | [v0], hh =>
    unfold E_code_Writer_Len E_code_Writer_Len_of at hh
    replace hh := dec1_sound hh; obtain ⟨w1, rfl, hh⟩ := hh
    unfold F_code_Writer_Len at hh
    exact calls_den noFns_right plan23 _ w K Try.func23 (by kernel_rfl) (by kernel_rfl) (Eq.mp (F_code_Writer_Len.eq  w1 w.heap K) hh)
theorem ok23 : okFn Try.prog 23 = true := by kernel_rfl
end Go.Proofs.Ytompmkmbppcadaa.V
