import Derived.Test.YtompmkmbppcadaaV10
import Derived.Test.YtompmkmbppcadaaProg
import Derived.Test.YtompmkmbppcadaaGref0Copy
namespace Go.Proofs.Ytompmkmbppcadaa.V
open Go Go.RowKit
set_option linter.unusedVariables false
set_option maxRecDepth 100000
/-! tally/tallylaw1.turned -/
def F_law1_turned_of (f15_ : Sl → Heap → (Sl → Heap → Prop) → Prop) (b1 : Sl) (i2 : Int) (h : Heap) (Q : Sl → Heap → Prop) : Prop :=
  f15_ b1 h fun (r3 : Sl) (h4 : Heap) =>
  (8 : Int) ≠ 0 ∧
  (8 : Int) ≠ 0 ∧
  ixS 1 r3 (IntKind.i64.wrap (i2.tdiv 8)) fun (a5 : Addr) =>
  ld [.int .u8] a5 h4 fun (v6 : Int) =>
  (8 : Int) ≠ 0 ∧
  0 ≤ (IntKind.u64.wrap (i2.tmod 8)) ∧
  ixS 1 r3 (IntKind.i64.wrap (i2.tdiv 8)) fun (a7 : Addr) =>
  st a7 [.int .u8 (IntKind.u8.wrap (BitVec.ofInt IntKind.u8.bits v6 ^^^ BitVec.ofInt IntKind.u8.bits (IntKind.u8.wrap (1 * 2 ^ min (IntKind.u64.wrap (i2.tmod 8)).toNat IntKind.u8.bits))).toNat)] h4 fun (h8 : Heap) =>
  Q r3 h8
def F_law1_turned (b1 : Sl) (i2 : Int) (h : Heap) (Q : Sl → Heap → Prop) : Prop := F_law1_turned_of F_ref0_Copy b1 i2 h Q
def plan17 : Plan := .s (.r [0, 1]) (.s (.r [1, 5]) (.s (.r [5]) (.s (.r [4]) .z)))
theorem F_law1_turned.eq (f15_ : Sl → Heap → (Sl → Heap → Prop) → Prop) (b1 : Sl) (i2 : Int) (h : Heap) (K : Value → Heap → Prop) : F_law1_turned_of f15_ b1 i2 h (fun (r0 : Sl) (h : Heap) => K (.slice r0.ptr r0.len r0.cap) h) =
    den Try.prog (fn1 15 (E_ref0_Copy_of f15_) noFns) Try.f17.ntmps plan17 (bodyOf Try.f17) (args0 0 [(.slice b1.ptr b1.len b1.cap : Value), (.int .i64 i2 : Value)]) h ⟨fun env h => dRes Try.prog Try.f17.results.toList env h K, fun _ _ _ => False, fun env h => dRes Try.prog Try.f17.results.toList env h K⟩ := by kernel_rfl
def E_law1_turned_of (f : Sl → Int → Heap → (Sl → Heap → Prop) → Prop) : List Value → Heap → (Value → Heap → Prop) → Prop
  | [v0, v1], h, K => dec1 .sl v0 fun (b1 : Sl) =>
  dec1 (.int .i64) v1 fun (i2 : Int) =>
  f b1 i2 h (fun (r0 : Sl) (h : Heap) => K (.slice r0.ptr r0.len r0.cap) h)
  | _, _, _ => False
abbrev E_law1_turned := E_law1_turned_of F_law1_turned
theorem E_law1_turned.right : IsRight Try.prog 17 E_law1_turned := by
  refine isRight fun vs K w hh => ?_
  match vs, hh with
  | [v0, v1], hh =>
    unfold E_law1_turned E_law1_turned_of at hh
    replace hh := dec1_sound hh; obtain ⟨b1, rfl, hh⟩ := hh
    replace hh := dec1_sound hh; obtain ⟨i2, rfl, hh⟩ := hh
    unfold F_law1_turned at hh
    exact calls_den (fn1_right ok15 E_ref0_Copy.right noFns_right) plan17 _ w K Try.func17 (by kernel_rfl) (by kernel_rfl) (Eq.mp (F_law1_turned.eq F_ref0_Copy b1 i2 w.heap K) hh)
theorem ok17 : okFn Try.prog 17 = true := by kernel_rfl
end Go.Proofs.Ytompmkmbppcadaa.V
