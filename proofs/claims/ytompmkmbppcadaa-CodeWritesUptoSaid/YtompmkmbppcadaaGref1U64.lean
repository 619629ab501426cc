import Derived.Test.YtompmkmbppcadaaV10
import Derived.Test.YtompmkmbppcadaaProg
import Derived.Test.YtompmkmbppcadaaGref1fixed
namespace Go.Proofs.Ytompmkmbppcadaa.V
open Go Go.RowKit
set_option linter.unusedVariables false
set_option maxRecDepth 100000
/-! tally/tallyref1.U64 -/
def F_ref1_U64_of (f50_ : Int → Int → Heap → (Sl → Heap → Prop) → Prop) (n1 : Int) (h : Heap) (Q : Sl → Heap → Prop) : Prop :=
  f50_ n1 8 h fun (r2 : Sl) (h3 : Heap) =>
  Q r2 h3
def F_ref1_U64 (n1 : Int) (h : Heap) (Q : Sl → Heap → Prop) : Prop := F_ref1_U64_of F_ref1_fixed n1 h Q
def plan43 : Plan := .s (.r [0]) (.s (.r [2]) .z)
theorem F_ref1_U64.eq (f50_ : Int → Int → Heap → (Sl → Heap → Prop) → Prop) (n1 : Int) (h : Heap) (K : Value → Heap → Prop) : F_ref1_U64_of f50_ n1 h (fun (r0 : Sl) (h : Heap) => K (.slice r0.ptr r0.len r0.cap) h) =
    den Try.prog (fn1 50 (E_ref1_fixed_of f50_) noFns) Try.f43.ntmps plan43 (bodyOf Try.f43) (args0 0 [(.int .u64 n1 : Value)]) h ⟨fun env h => dRes Try.prog Try.f43.results.toList env h K, fun _ _ _ => False, fun env h => dRes Try.prog Try.f43.results.toList env h K⟩ := by kernel_rfl
def E_ref1_U64_of (f : Int → Heap → (Sl → Heap → Prop) → Prop) : List Value → Heap → (Value → Heap → Prop) → Prop
  | [v0], h, K => dec1 (.int .u64) v0 fun (n1 : Int) =>
  f n1 h (fun (r0 : Sl) (h : Heap) => K (.slice r0.ptr r0.len r0.cap) h)
  | _, _, _ => False
abbrev E_ref1_U64 := E_ref1_U64_of F_ref1_U64
theorem E_ref1_U64.right : IsRight Try.prog 43 E_ref1_U64 := by
  refine isRight fun vs K w hh => ?_
  match vs, hh with
  | [v0], hh =>
    unfold E_ref1_U64 E_ref1_U64_of at hh
    replace hh := dec1_sound hh; obtain ⟨n1, rfl, hh⟩ := hh
    unfold F_ref1_U64 at hh
    exact calls_den (fn1_right ok50 E_ref1_fixed.right noFns_right) plan43 _ w K Try.func43 (by kernel_rfl) (by kernel_rfl) (Eq.mp (F_ref1_U64.eq F_ref1_fixed n1 w.heap K) hh)
theorem ok43 : okFn Try.prog 43 = true := by kernel_rfl
end Go.Proofs.Ytompmkmbppcadaa.V
