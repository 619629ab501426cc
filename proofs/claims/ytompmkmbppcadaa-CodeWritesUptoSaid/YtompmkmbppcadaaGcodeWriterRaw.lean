import Derived.Test.YtompmkmbppcadaaV10
import Derived.Test.YtompmkmbppcadaaProg
namespace Go.Proofs.Ytompmkmbppcadaa.V
open Go Go.RowKit
set_option linter.unusedVariables false
set_option maxRecDepth 100000
/-! (*tally/code.Writer).Raw -/
def F_code_Writer_Raw_of  (w1 : Option Addr) (b2 : Sl) (h : Heap) (Q : Heap → Prop) : Prop :=
  nn w1 fun (a3 : Addr) =>
  ld [.sl] (a3.add 0) h fun (v4 : Sl) =>
  app 5 1 1 (.int .u8 0) v4 b2.ptr b2.len h fun (s5 : Sl) (h6 : Heap) =>
  nn w1 fun (a7 : Addr) =>
  st (a7.add 0) [.slice s5.ptr s5.len s5.cap] h6 fun (h8 : Heap) =>
  Q h8
def F_code_Writer_Raw (w1 : Option Addr) (b2 : Sl) (h : Heap) (Q : Heap → Prop) : Prop := F_code_Writer_Raw_of  w1 b2 h Q
def plan46 : Plan := .r []
theorem F_code_Writer_Raw.eq  (w1 : Option Addr) (b2 : Sl) (h : Heap) (K : Value → Heap → Prop) : F_code_Writer_Raw_of  w1 b2 h (fun  (h : Heap) => K (.tuple #[]) h) =
    den Try.prog noFns Try.f46.ntmps plan46 (bodyOf Try.f46) (args0 0 [(.pointer w1 : Value), (.slice b2.ptr b2.len b2.cap : Value)]) h ⟨fun env h => dRes Try.prog Try.f46.results.toList env h K, fun _ _ _ => False, fun env h => dRes Try.prog Try.f46.results.toList env h K⟩ := by kernel_rfl
def E_code_Writer_Raw_of (f : Option Addr → Sl → Heap → (Heap → Prop) → Prop) : List Value → Heap → (Value → Heap → Prop) → Prop
  | [v0, v1], h, K => dec1 .ptr v0 fun (w1 : Option Addr) =>
  dec1 .sl v1 fun (b2 : Sl) =>
  f w1 b2 h (fun  (h : Heap) => K (.tuple #[]) h)
  | _, _, _ => False
abbrev E_code_Writer_Raw := E_code_Writer_Raw_of F_code_Writer_Raw
theorem E_code_Writer_Raw.right : IsRight Try.prog 46 E_code_Writer_Raw := by
  refine isRight fun vs K w hh => ?_
  match vs, hh with
  | [v0, v1], hh =>
    unfold E_code_Writer_Raw E_code_Writer_Raw_of at hh
    replace hh := dec1_sound hh; obtain ⟨w1, rfl, hh⟩ := hh
    replace hh := dec1_sound hh; obtain ⟨b2, rfl, hh⟩ := hh
    unfold F_code_Writer_Raw at hh
    exact calls_den noFns_right plan46 _ w K Try.func46 (by kernel_rfl) (by kernel_rfl) (Eq.mp (F_code_Writer_Raw.eq  w1 b2 w.heap K) hh)
theorem ok46 : okFn Try.prog 46 = true := by kernel_rfl
end Go.Proofs.Ytompmkmbppcadaa.V
