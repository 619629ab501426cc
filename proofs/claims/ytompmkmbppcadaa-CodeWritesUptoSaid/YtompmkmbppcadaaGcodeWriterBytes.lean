import Derived.Test.YtompmkmbppcadaaV10
import Derived.Test.YtompmkmbppcadaaProg
import Derived.Test.YtompmkmbppcadaaGcodeWriterVar
import Derived.Test.YtompmkmbppcadaaGcodeWriterRaw
namespace Go.Proofs.Ytompmkmbppcadaa.V
open Go Go.RowKit
set_option linter.unusedVariables false
set_option maxRecDepth 100000
/-! (*tally/code.Writer).Bytes -/
def F_code_Writer_Bytes_of (f44_ : Option Addr → Int → Heap → (Heap → Prop) → Prop) (f46_ : Option Addr → Sl → Heap → (Heap → Prop) → Prop) (w1 : Option Addr) (b2 : Sl) (h : Heap) (Q : Heap → Prop) : Prop :=
  f44_ w1 (IntKind.u64.wrap ((b2.len : Nat) : Int)) h fun  (h3 : Heap) =>
  f46_ w1 b2 h3 fun  (h4 : Heap) =>
  Q h4
def F_code_Writer_Bytes (w1 : Option Addr) (b2 : Sl) (h : Heap) (Q : Heap → Prop) : Prop := F_code_Writer_Bytes_of F_code_Writer_Var F_code_Writer_Raw w1 b2 h Q
def plan26 : Plan := .s (.r [0, 1]) (.r [])
theorem F_code_Writer_Bytes.eq (f44_ : Option Addr → Int → Heap → (Heap → Prop) → Prop) (f46_ : Option Addr → Sl → Heap → (Heap → Prop) → Prop) (w1 : Option Addr) (b2 : Sl) (h : Heap) (K : Value → Heap → Prop) : F_code_Writer_Bytes_of f44_ f46_ w1 b2 h (fun  (h : Heap) => K (.tuple #[]) h) =
    den Try.prog (fn1 44 (E_code_Writer_Var_of f44_) (fn1 46 (E_code_Writer_Raw_of f46_) noFns)) Try.f26.ntmps plan26 (bodyOf Try.f26) (args0 0 [(.pointer w1 : Value), (.slice b2.ptr b2.len b2.cap : Value)]) h ⟨fun env h => dRes Try.prog Try.f26.results.toList env h K, fun _ _ _ => False, fun env h => dRes Try.prog Try.f26.results.toList env h K⟩ := by kernel_rfl
def E_code_Writer_Bytes_of (f : Option Addr → Sl → Heap → (Heap → Prop) → Prop) : List Value → Heap → (Value → Heap → Prop) → Prop
  | [v0, v1], h, K => dec1 .ptr v0 fun (w1 : Option Addr) =>
  dec1 .sl v1 fun (b2 : Sl) =>
  f w1 b2 h (fun  (h : Heap) => K (.tuple #[]) h)
  | _, _, _ => False
abbrev E_code_Writer_Bytes := E_code_Writer_Bytes_of F_code_Writer_Bytes
theorem E_code_Writer_Bytes.right : IsRight Try.prog 26 E_code_Writer_Bytes := by
  refine isRight fun vs K w hh => ?_
  match vs, hh with
  | [v0, v1], hh =>
    unfold E_code_Writer_Bytes E_code_Writer_Bytes_of at hh
    replace hh := dec1_sound hh; obtain ⟨w1, rfl, hh⟩ := hh
    replace hh := dec1_sound hh; obtain ⟨b2, rfl, hh⟩ := hh
    unfold F_code_Writer_Bytes at hh
    exact calls_den (fn1_right ok44 E_code_Writer_Var.right (fn1_right ok46 E_code_Writer_Raw.right noFns_right)) plan26 _ w K Try.func26 (by kernel_rfl) (by kernel_rfl) (Eq.mp (F_code_Writer_Bytes.eq F_code_Writer_Var F_code_Writer_Raw w1 b2 w.heap K) hh)
theorem ok26 : okFn Try.prog 26 = true := by kernel_rfl
end Go.Proofs.Ytompmkmbppcadaa.V
