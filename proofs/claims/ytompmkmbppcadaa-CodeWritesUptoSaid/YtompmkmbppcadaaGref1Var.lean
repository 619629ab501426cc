import Derived.Test.YtompmkmbppcadaaV10
import Derived.Test.YtompmkmbppcadaaProg
namespace Go.Proofs.Ytompmkmbppcadaa.V
open Go Go.RowKit
set_option linter.unusedVariables false
set_option maxRecDepth 100000
/-! tally/tallyref1.Var -/
def F_ref1_Var_of (f45_ : Int → Heap → (Sl → Heap → Prop) → Prop) (n1 : Int) (h : Heap) (Q : Sl → Heap → Prop) : Prop :=
  brr (decide (n1 < 128))
  (al 5 [.int .u8 (IntKind.u8.wrap n1)] h fun (a2 : Addr) (h3 : Heap) =>
  Q ⟨(some a2), 1, 1⟩ h3)
  ((128 : Int) ≠ 0 ∧
  al 5 [.int .u8 (IntKind.u8.wrap (IntKind.u64.wrap (128 + (n1.tmod 128))))] h fun (a4 : Addr) (h5 : Heap) =>
  (128 : Int) ≠ 0 ∧
  f45_ (IntKind.u64.wrap (n1.tdiv 128)) h5 fun (r6 : Sl) (h7 : Heap) =>
  app 5 1 1 (.int .u8 0) ⟨(some a4), 1, 1⟩ r6.ptr r6.len h7 fun (s8 : Sl) (h9 : Heap) =>
  Q s8 h9)
def F_ref1_Var_fuel : Nat → Int → Heap → (Sl → Heap → Prop) → Prop
  | 0 => fun _ _ _ => False
  | m + 1 => fun n1 h Q => F_ref1_Var_of (F_ref1_Var_fuel m) n1 h Q
def F_ref1_Var (n1 : Int) (h : Heap) (Q : Sl → Heap → Prop) : Prop := ∃ m, F_ref1_Var_fuel m n1 h Q
def plan45 : Plan := .s (.r [0]) (.s (.s (.r [0, 5]) (.c (.s (.r [2]) .z) .z)) (.s (.r [0, 3]) (.s (.r [3]) (.s (.r [2]) .z))))
def E_ref1_Var_of (f : Int → Heap → (Sl → Heap → Prop) → Prop) : List Value → Heap → (Value → Heap → Prop) → Prop
  | [v0], h, K => dec1 (.int .u64) v0 fun (n1 : Int) =>
  f n1 h (fun (r0 : Sl) (h : Heap) => K (.slice r0.ptr r0.len r0.cap) h)
  | _, _, _ => False
theorem F_ref1_Var.eq (f45_ : Int → Heap → (Sl → Heap → Prop) → Prop) (n1 : Int) (h : Heap) (K : Value → Heap → Prop) : F_ref1_Var_of f45_ n1 h (fun (r0 : Sl) (h : Heap) => K (.slice r0.ptr r0.len r0.cap) h) =
    den Try.prog (fn1 45 (E_ref1_Var_of f45_) noFns) Try.f45.ntmps plan45 (bodyOf Try.f45) (args0 0 [(.int .u64 n1 : Value)]) h ⟨fun env h => dRes Try.prog Try.f45.results.toList env h K, fun _ _ _ => False, fun env h => dRes Try.prog Try.f45.results.toList env h K⟩ := by kernel_rfl
abbrev E_ref1_Var := E_ref1_Var_of F_ref1_Var
theorem ok45 : okFn Try.prog 45 = true := by kernel_rfl
theorem E_ref1_Var.rightN : ∀ m, IsRight Try.prog 45 (E_ref1_Var_of (F_ref1_Var_fuel m))
  | 0 => isRight fun vs K w hh => by
    match vs, hh with
    | [v0], hh =>
      unfold E_ref1_Var_of at hh
      replace hh := dec1_sound hh; obtain ⟨n1, rfl, hh⟩ := hh
      exact (show False from hh).elim
  | m + 1 => isRight fun vs K w hh => by
    match vs, hh with
    | [v0], hh =>
      unfold E_ref1_Var_of at hh
      replace hh := dec1_sound hh; obtain ⟨n1, rfl, hh⟩ := hh
      exact calls_den (fn1_right ok45 (E_ref1_Var.rightN m) noFns_right) plan45 _ w K Try.func45 (by kernel_rfl) (by kernel_rfl) (Eq.mp (F_ref1_Var.eq (F_ref1_Var_fuel m) n1 w.heap K) hh)
theorem E_ref1_Var.right : IsRight Try.prog 45 E_ref1_Var := by
  refine isRight fun vs K w hh => ?_
  match vs, hh with
  | [v0], hh =>
    unfold E_ref1_Var E_ref1_Var_of at hh
    replace hh := dec1_sound hh; obtain ⟨n1, rfl, hh⟩ := hh
    unfold F_ref1_Var at hh
    obtain ⟨m, hh⟩ := hh
    cases m with
    | zero => exact (show False from hh).elim
    | succ m => exact calls_den (fn1_right ok45 (E_ref1_Var.rightN m) noFns_right) plan45 _ w K Try.func45 (by kernel_rfl) (by kernel_rfl) (Eq.mp (F_ref1_Var.eq (F_ref1_Var_fuel m) n1 w.heap K) hh)
end Go.Proofs.Ytompmkmbppcadaa.V
