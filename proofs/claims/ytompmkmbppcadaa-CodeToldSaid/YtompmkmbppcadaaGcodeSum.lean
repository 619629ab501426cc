import Derived.Test.YtompmkmbppcadaaV10
import Derived.Test.YtompmkmbppcadaaProg
namespace Go.Proofs.Ytompmkmbppcadaa.V
open Go Go.RowKit
set_option linter.unusedVariables false
set_option maxRecDepth 100000
/-! tally/code.Sum -/
def F_code_Sum.l1 (j9 : Int → Heap → Prop) : Int → Int → Heap → Prop :=
  wl [(5, .one (.int .u32)), (14, .one (.int .i64))] (fun (next10 : Int → Int → Heap → Prop) (n11 : Int) (x12 : Int) (h13 : Heap) =>
  brr (decide (x12 < 4))
  (0 ≤ (1 : Int) ∧
  next10 (IntKind.u32.wrap (BitVec.ofInt IntKind.u32.bits (n11.fdiv (2 ^ min (1 : Int).toNat IntKind.u32.bits)) ^^^ BitVec.ofInt IntKind.u32.bits (IntKind.u32.wrap (BitVec.ofInt IntKind.u32.bits (IntKind.u32.wrap (0 - (IntKind.u32.wrap (BitVec.ofInt IntKind.u32.bits n11 &&& BitVec.ofInt IntKind.u32.bits 1).toNat))) &&& BitVec.ofInt IntKind.u32.bits 3988292384).toNat)).toNat) (IntKind.i64.wrap (x12 + 1)) h13)
  (j9 n11 h13))
def F_code_Sum.l2 (a2 : Addr) (j4 : Heap → Prop) : Int → Heap → Prop :=
  wl [(9, .one (.int .i64))] (fun (next5 : Int → Heap → Prop) (x6 : Int) (h7 : Heap) =>
  brr (decide (x6 < 16))
  (jn [] (fun  (h18 : Heap) =>
  next5 (IntKind.i64.wrap (x6 + 1)) h18) (fun (j8 : Heap → Prop) =>
  jn [(5, .one (.int .u32))] (fun (n14 : Int) (h15 : Heap) =>
  ixA 1 a2 16 x6 fun (a16 : Addr) =>
  st a16 [.int .u32 n14] h15 fun (h17 : Heap) =>
  j8 h17) (fun (j9 : Int → Heap → Prop) =>
  F_code_Sum.l1 j9 (IntKind.u32.wrap x6) 0 h7)))
  (j4 h7))
def F_code_Sum.l3 (b1 : Sl) (a2 : Addr) (j20 : Int → Heap → Prop) : Int → Int → Heap → Prop :=
  wl [(6, .one (.int .u32)), (30, .one (.int .i64))] (fun (next21 : Int → Int → Heap → Prop) (n22 : Int) (x23 : Int) (h24 : Heap) =>
  brr (decide (x23 < ((b1.len : Nat) : Int)))
  (ixS 1 b1 x23 fun (a25 : Addr) =>
  ld [.int .u8] a25 h24 fun (v26 : Int) =>
  0 ≤ (4 : Int) ∧
  ixA 1 a2 16 (IntKind.u32.wrap (BitVec.ofInt IntKind.u32.bits (IntKind.u32.wrap (BitVec.ofInt IntKind.u32.bits n22 ^^^ BitVec.ofInt IntKind.u32.bits (IntKind.u32.wrap v26)).toNat) &&& BitVec.ofInt IntKind.u32.bits 15).toNat) fun (a27 : Addr) =>
  ld [.int .u32] a27 h24 fun (v28 : Int) =>
  0 ≤ (4 : Int) ∧
  ixA 1 a2 16 (IntKind.u32.wrap (BitVec.ofInt IntKind.u32.bits (IntKind.u32.wrap (BitVec.ofInt IntKind.u32.bits ((IntKind.u32.wrap (BitVec.ofInt IntKind.u32.bits n22 ^^^ BitVec.ofInt IntKind.u32.bits (IntKind.u32.wrap v26)).toNat).fdiv (2 ^ min (4 : Int).toNat IntKind.u32.bits)) ^^^ BitVec.ofInt IntKind.u32.bits v28).toNat) &&& BitVec.ofInt IntKind.u32.bits 15).toNat) fun (a29 : Addr) =>
  ld [.int .u32] a29 h24 fun (v30 : Int) =>
  next21 (IntKind.u32.wrap (BitVec.ofInt IntKind.u32.bits ((IntKind.u32.wrap (BitVec.ofInt IntKind.u32.bits ((IntKind.u32.wrap (BitVec.ofInt IntKind.u32.bits n22 ^^^ BitVec.ofInt IntKind.u32.bits (IntKind.u32.wrap v26)).toNat).fdiv (2 ^ min (4 : Int).toNat IntKind.u32.bits)) ^^^ BitVec.ofInt IntKind.u32.bits v28).toNat).fdiv (2 ^ min (4 : Int).toNat IntKind.u32.bits)) ^^^ BitVec.ofInt IntKind.u32.bits v30).toNat) (IntKind.i64.wrap (x23 + 1)) h24)
  (j20 n22 h24))
def F_code_Sum_of  (b1 : Sl) (h : Heap) (Q : Int → Heap → Prop) : Prop :=
  al 88 [.int .u32 0, .int .u32 0, .int .u32 0, .int .u32 0, .int .u32 0, .int .u32 0, .int .u32 0, .int .u32 0, .int .u32 0, .int .u32 0, .int .u32 0, .int .u32 0, .int .u32 0, .int .u32 0, .int .u32 0, .int .u32 0] h fun (a2 : Addr) (h3 : Heap) =>
  jn [] (fun  (h19 : Heap) =>
  jn [(6, .one (.int .u32))] (fun (n31 : Int) (h32 : Heap) =>
  Q (IntKind.u32.wrap (BitVec.ofInt IntKind.u32.bits (if IntKind.u32.signed then -1 else IntKind.u32.max) ^^^ BitVec.ofInt IntKind.u32.bits n31).toNat) h32) (fun (j20 : Int → Heap → Prop) =>
  F_code_Sum.l3 b1 a2 j20 4294967295 0 h19)) (fun (j4 : Heap → Prop) =>
  F_code_Sum.l2 a2 j4 0 h3)
def F_code_Sum (b1 : Sl) (h : Heap) (Q : Int → Heap → Prop) : Prop := F_code_Sum_of  b1 h Q
def plan9 : Plan := .s (.r [0]) (.s (.r [0, 3]) (.s (.s (.r [0, 3, 9]) (.bj [] [0, 3] (.l [(9, .one (.int .i64))] [0, 3] (.s (.r [0, 3, 9, 10]) (.s (.c .z .z) (.s (.bj [] [0, 3, 9] (.s (.r [0, 3, 4, 9]) (.s (.r [0, 3, 4, 5, 9]) (.s (.s (.r [0, 3, 4, 5, 9, 14]) (.bj [(5, .one (.int .u32))] [0, 3, 4, 9] (.l [(5, .one (.int .u32)), (14, .one (.int .i64))] [0, 3, 4, 9] (.s (.r [0, 3, 4, 5, 9, 14, 15]) (.s (.c .z .z) (.s (.b (.r [0, 3, 4, 5, 9, 14])) (.r [0, 3, 4, 5, 9, 14]))))))) (.r [0, 3, 9]))))) (.r [0, 3, 9]))))))) (.s (.r [0, 3, 6]) (.s (.s (.r [3, 6, 28, 29, 30]) (.bj [(6, .one (.int .u32))] [] (.l [(6, .one (.int .u32)), (30, .one (.int .i64))] [3, 28, 29] (.s (.r [3, 6, 28, 29, 30, 31]) (.s (.c .z .z) (.s (.b (.s (.r [3, 6, 8, 28, 29, 30]) (.s (.r [3, 6, 28, 29, 30]) (.s (.r [3, 6, 28, 29, 30]) (.r [3, 6, 28, 29, 30]))))) (.r [3, 6, 28, 29, 30]))))))) (.s (.r [2]) .z)))))
theorem F_code_Sum.eq  (b1 : Sl) (h : Heap) (K : Value → Heap → Prop) : F_code_Sum_of  b1 h (fun (r0 : Int) (h : Heap) => K (.int .u32 r0) h) =
    den Try.prog noFns Try.f9.ntmps plan9 (bodyOf Try.f9) (args0 0 [(.slice b1.ptr b1.len b1.cap : Value)]) h ⟨fun env h => dRes Try.prog Try.f9.results.toList env h K, fun _ _ _ => False, fun env h => dRes Try.prog Try.f9.results.toList env h K⟩ := by kernel_rfl
def E_code_Sum_of (f : Sl → Heap → (Int → Heap → Prop) → Prop) : List Value → Heap → (Value → Heap → Prop) → Prop
  | [v0], h, K => dec1 .sl v0 fun (b1 : Sl) =>
  f b1 h (fun (r0 : Int) (h : Heap) => K (.int .u32 r0) h)
  | _, _, _ => False
abbrev E_code_Sum := E_code_Sum_of F_code_Sum
theorem E_code_Sum.right : IsRight Try.prog 9 E_code_Sum := by
  refine isRight fun vs K w hh => ?_
  match vs, hh with
  | [v0], hh =>
    unfold E_code_Sum E_code_Sum_of at hh
    replace hh := dec1_sound hh; obtain ⟨b1, rfl, hh⟩ := hh
    unfold F_code_Sum at hh
    exact calls_den noFns_right plan9 _ w K Try.func9 (by kernel_rfl) (by kernel_rfl) (Eq.mp (F_code_Sum.eq  b1 w.heap K) hh)
theorem ok9 : okFn Try.prog 9 = true := by kernel_rfl
end Go.Proofs.Ytompmkmbppcadaa.V
