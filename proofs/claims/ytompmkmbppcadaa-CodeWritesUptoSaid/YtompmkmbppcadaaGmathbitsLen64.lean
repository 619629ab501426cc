import Derived.Test.YtompmkmbppcadaaV10
import Derived.Test.YtompmkmbppcadaaProg
namespace Go.Proofs.Ytompmkmbppcadaa.V
open Go Go.RowKit
set_option linter.unusedVariables false
set_option maxRecDepth 100000
/-! math/bits.Len64 -/
def F_math_bits_Len64_of  (x1 : Int) (h : Heap) (Q : Int → Heap → Prop) : Prop :=
  jn [(0, .one (.int .u64)), (2, .one (.int .i64))] (fun (x3 : Int) (n4 : Int) (h5 : Heap) =>
  jn [(0, .one (.int .u64)), (2, .one (.int .i64))] (fun (x7 : Int) (n8 : Int) (h9 : Heap) =>
  jn [(0, .one (.int .u64)), (2, .one (.int .i64))] (fun (x11 : Int) (n12 : Int) (h13 : Heap) =>
  stAt (⟨#[0, 1, 2, 2, 3, 3, 3, 3, 4, 4, 4, 4, 4, 4, 4, 4, 5, 5, 5, 5, 5, 5, 5, 5, 5, 5, 5, 5, 5, 5, 5, 5, 6, 6, 6, 6, 6, 6, 6, 6, 6, 6, 6, 6, 6, 6, 6, 6, 6, 6, 6, 6, 6, 6, 6, 6, 6, 6, 6, 6, 6, 6, 6, 6, 7, 7, 7, 7, 7, 7, 7, 7, 7, 7, 7, 7, 7, 7, 7, 7, 7, 7, 7, 7, 7, 7, 7, 7, 7, 7, 7, 7, 7, 7, 7, 7, 7, 7, 7, 7, 7, 7, 7, 7, 7, 7, 7, 7, 7, 7, 7, 7, 7, 7, 7, 7, 7, 7, 7, 7, 7, 7, 7, 7, 7, 7, 7, 7, 8, 8, 8, 8, 8, 8, 8, 8, 8, 8, 8, 8, 8, 8, 8, 8, 8, 8, 8, 8, 8, 8, 8, 8, 8, 8, 8, 8, 8, 8, 8, 8, 8, 8, 8, 8, 8, 8, 8, 8, 8, 8, 8, 8, 8, 8, 8, 8, 8, 8, 8, 8, 8, 8, 8, 8, 8, 8, 8, 8, 8, 8, 8, 8, 8, 8, 8, 8, 8, 8, 8, 8, 8, 8, 8, 8, 8, 8, 8, 8, 8, 8, 8, 8, 8, 8, 8, 8, 8, 8, 8, 8, 8, 8, 8, 8, 8, 8, 8, 8, 8, 8, 8, 8, 8, 8, 8, 8, 8, 8, 8, 8, 8, 8, 8, 8, 8, 8, 8, 8, 8, 8, 8, 8, 8, 8, 8, 8]⟩ : ByteArray) (IntKind.u8.wrap x11) fun (b14 : Int) =>
  Q (IntKind.i64.wrap (n12 + (IntKind.i64.wrap b14))) h13) (fun (j10 : Int → Int → Heap → Prop) =>
  brr (decide (x7 ≥ 256))
  (0 ≤ (8 : Int) ∧
  j10 (x7.fdiv (2 ^ min (8 : Int).toNat IntKind.u64.bits)) (IntKind.i64.wrap (n8 + 8)) h9)
  (j10 x7 n8 h9))) (fun (j6 : Int → Int → Heap → Prop) =>
  brr (decide (x3 ≥ 65536))
  (0 ≤ (16 : Int) ∧
  j6 (x3.fdiv (2 ^ min (16 : Int).toNat IntKind.u64.bits)) (IntKind.i64.wrap (n4 + 16)) h5)
  (j6 x3 n4 h5))) (fun (j2 : Int → Int → Heap → Prop) =>
  brr (decide (x1 ≥ 4294967296))
  (0 ≤ (32 : Int) ∧
  j2 (x1.fdiv (2 ^ min (32 : Int).toNat IntKind.u64.bits)) 32 h)
  (j2 x1 0 h))
def F_math_bits_Len64 (x1 : Int) (h : Heap) (Q : Int → Heap → Prop) : Prop := F_math_bits_Len64_of  x1 h Q
def plan61 : Plan := .s (.r [0, 2]) (.s (.s (.r [0, 2, 4]) (.cj [(0, .one (.int .u64)), (2, .one (.int .i64))] [] (.s (.r [0]) (.r [0, 2])) .z)) (.s (.s (.r [0, 2, 8]) (.cj [(0, .one (.int .u64)), (2, .one (.int .i64))] [] (.s (.r [0, 2]) (.r [0, 2])) .z)) (.s (.s (.r [0, 2, 14]) (.cj [(0, .one (.int .u64)), (2, .one (.int .i64))] [] (.s (.r [0, 2]) (.r [0, 2])) .z)) (.s (.r [2]) .z))))
theorem F_math_bits_Len64.eq  (x1 : Int) (h : Heap) (K : Value → Heap → Prop) : F_math_bits_Len64_of  x1 h (fun (r0 : Int) (h : Heap) => K (.int .i64 r0) h) =
    den Try.prog noFns Try.f61.ntmps plan61 (bodyOf Try.f61) (args0 0 [(.int .u64 x1 : Value)]) h ⟨fun env h => dRes Try.prog Try.f61.results.toList env h K, fun _ _ _ => False, fun env h => dRes Try.prog Try.f61.results.toList env h K⟩ := by kernel_rfl
def E_math_bits_Len64_of (f : Int → Heap → (Int → Heap → Prop) → Prop) : List Value → Heap → (Value → Heap → Prop) → Prop
  | [v0], h, K => dec1 (.int .u64) v0 fun (x1 : Int) =>
  f x1 h (fun (r0 : Int) (h : Heap) => K (.int .i64 r0) h)
  | _, _, _ => False
abbrev E_math_bits_Len64 := E_math_bits_Len64_of F_math_bits_Len64
theorem E_math_bits_Len64.right : IsRight Try.prog 61 E_math_bits_Len64 := by
  refine isRight fun vs K w hh => ?_
  match vs, hh with
  | [v0], hh =>
    unfold E_math_bits_Len64 E_math_bits_Len64_of at hh
    replace hh := dec1_sound hh; obtain ⟨x1, rfl, hh⟩ := hh
    unfold F_math_bits_Len64 at hh
    exact calls_den noFns_right plan61 _ w K Try.func61 (by kernel_rfl) (by kernel_rfl) (Eq.mp (F_math_bits_Len64.eq  x1 w.heap K) hh)
theorem ok61 : okFn Try.prog 61 = true := by kernel_rfl
end Go.Proofs.Ytompmkmbppcadaa.V
