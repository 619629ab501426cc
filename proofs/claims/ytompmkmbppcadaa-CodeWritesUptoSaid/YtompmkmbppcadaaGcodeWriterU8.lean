import Derived.Test.YtompmkmbppcadaaV10
import Derived.Test.YtompmkmbppcadaaProg
import Derived.Test.YtompmkmbppcadaaGcodeWriterfixed
namespace Go.Proofs.Ytompmkmbppcadaa.V
open Go Go.RowKit
set_option linter.unusedVariables false
set_option maxRecDepth 100000
/-! (*tally/code.Writer).U8 -/
def F_code_Writer_U8_of (f49_ : Option Addr → Int → Int → Heap → (Heap → Prop) → Prop) (w1 : Option Addr) (n2 : Int) (h : Heap) (Q : Heap → Prop) : Prop :=
  f49_ w1 (IntKind.u64.wrap n2) 1 h fun  (h3 : Heap) =>
  Q h3
def F_code_Writer_U8 (w1 : Option Addr) (n2 : Int) (h : Heap) (Q : Heap → Prop) : Prop := F_code_Writer_U8_of F_code_Writer_fixed w1 n2 h Q
def plan40 : Plan := .r []
theorem F_code_Writer_U8.eq (f49_ : Option Addr → Int → Int → Heap → (Heap → Prop) → Prop) (w1 : Option Addr) (n2 : Int) (h : Heap) (K : Value → Heap → Prop) : F_code_Writer_U8_of f49_ w1 n2 h (fun  (h : Heap) => K (.tuple #[]) h) =
    den Try.prog (fn1 49 (E_code_Writer_fixed_of f49_) noFns) Try.f40.ntmps plan40 (bodyOf Try.f40) (args0 0 [(.pointer w1 : Value), (.int .u8 n2 : Value)]) h ⟨fun env h => dRes Try.prog Try.f40.results.toList env h K, fun _ _ _ => False, fun env h => dRes Try.prog Try.f40.results.toList env h K⟩ := by kernel_rfl
def E_code_Writer_U8_of (f : Option Addr → Int → Heap → (Heap → Prop) → Prop) : List Value → Heap → (Value → Heap → Prop) → Prop
  | [v0, v1], h, K => dec1 .ptr v0 fun (w1 : Option Addr) =>
  dec1 (.int .u8) v1 fun (n2 : Int) =>
  f w1 n2 h (fun  (h : Heap) => K (.tuple #[]) h)
  | _, _, _ => False
abbrev E_code_Writer_U8 := E_code_Writer_U8_of F_code_Writer_U8
theorem E_code_Writer_U8.right : IsRight Try.prog 40 E_code_Writer_U8 := by
  refine isRight fun vs K w hh => ?_
  match vs, hh with
  | [v0, v1], hh =>
    unfold E_code_Writer_U8 E_code_Writer_U8_of at hh
    replace hh := dec1_sound hh; obtain ⟨w1, rfl, hh⟩ := hh
    replace hh := dec1_sound hh; obtain ⟨n2, rfl, hh⟩ := hh
    unfold F_code_Writer_U8 at hh
    exact calls_den (fn1_right ok49 E_code_Writer_fixed.right noFns_right) plan40 _ w K Try.func40 (by kernel_rfl) (by kernel_rfl) (Eq.mp (F_code_Writer_U8.eq F_code_Writer_fixed w1 n2 w.heap K) hh)
theorem ok40 : okFn Try.prog 40 = true := by kernel_rfl
end Go.Proofs.Ytompmkmbppcadaa.V
