import Derived.Test.YtompmkmbppcadaaV10
import Derived.Test.YtompmkmbppcadaaProg
import Derived.Test.YtompmkmbppcadaaGref1power
import Derived.Test.YtompmkmbppcadaaGref1mirrored
namespace Go.Proofs.Ytompmkmbppcadaa.V
open Go Go.RowKit
set_option linter.unusedVariables false
set_option maxRecDepth 100000
/-! tally/tallyref1.Sum -/
def F_ref1_Sum.l1 (f38_ : Int → Heap → (Int → Heap → Prop) → Prop) (b1 : Sl) (i5 : Int) (j8 : Int → Heap → Prop) : Int → Int → Heap → Prop :=
  wl [(3, .one (.int .u32)), (5, .one (.int .i64))] (fun (next9 : Int → Int → Heap → Prop) (rest10 : Int) (k11 : Int) (h12 : Heap) =>
  brr (decide (k11 < 8))
  (jn [(6, .one (.int .u32))] (fun (bit18 : Int) (h19 : Heap) =>
  jn [(6, .one (.int .u32))] (fun (bit21 : Int) (h22 : Heap) =>
  (2147483648 : Int) ≠ 0 ∧
  jn [(3, .one (.int .u32))] (fun (rest24 : Int) (h25 : Heap) =>
  next9 rest24 (IntKind.i64.wrap (k11 + 1)) h25) (fun (j23 : Int → Heap → Prop) =>
  brr ((IntKind.u32.wrap (rest10.tdiv 2147483648)) == 1)
  (j23 (IntKind.u32.wrap (BitVec.ofInt IntKind.u32.bits (IntKind.u32.wrap ((IntKind.u32.wrap (rest10 * 2)) + bit21)) ^^^ BitVec.ofInt IntKind.u32.bits 79764919).toNat) h22)
  (j23 (IntKind.u32.wrap ((IntKind.u32.wrap (rest10 * 2)) + bit21)) h22))) (fun (j20 : Int → Heap → Prop) =>
  brr (decide (i5 < 4))
  (j20 (IntKind.u32.wrap (1 - bit18)) h19)
  (j20 bit18 h19))) (fun (j13 : Int → Heap → Prop) =>
  brr (decide (i5 < ((b1.len : Nat) : Int)))
  (ixS 1 b1 i5 fun (a14 : Addr) =>
  ld [.int .u8] a14 h12 fun (v15 : Int) =>
  f38_ k11 h12 fun (r16 : Int) (h17 : Heap) =>
  cellsAre h17 a14 [.int .u8 v15] ∧
  r16 ≠ 0 ∧
  (2 : Int) ≠ 0 ∧
  j13 ((IntKind.u32.wrap ((IntKind.u32.wrap v15).tdiv r16)).tmod 2) h17)
  (j13 0 h12)))
  (j8 rest10 h12))
def F_ref1_Sum.l2 (f38_ : Int → Heap → (Int → Heap → Prop) → Prop) (b1 : Sl) (j2 : Int → Heap → Prop) : Int → Int → Heap → Prop :=
  wl [(3, .one (.int .u32)), (4, .one (.int .i64))] (fun (next3 : Int → Int → Heap → Prop) (rest4 : Int) (i5 : Int) (h6 : Heap) =>
  brr (decide (i5 < (IntKind.i64.wrap (((b1.len : Nat) : Int) + 4))))
  (jn [(3, .one (.int .u32))] (fun (rest28 : Int) (h29 : Heap) =>
  next3 rest28 (IntKind.i64.wrap (i5 + 1)) h29) (fun (j7 : Int → Heap → Prop) =>
  jn [(3, .one (.int .u32))] (fun (rest26 : Int) (h27 : Heap) =>
  j7 rest26 h27) (fun (j8 : Int → Heap → Prop) =>
  F_ref1_Sum.l1 f38_ b1 i5 j8 rest4 0 h6)))
  (j2 rest4 h6))
def F_ref1_Sum_of (f38_ : Int → Heap → (Int → Heap → Prop) → Prop) (f39_ : Int → Heap → (Int → Heap → Prop) → Prop) (b1 : Sl) (h : Heap) (Q : Int → Heap → Prop) : Prop :=
  jn [(3, .one (.int .u32))] (fun (rest30 : Int) (h31 : Heap) =>
  f39_ rest30 h31 fun (r32 : Int) (h33 : Heap) =>
  Q (IntKind.u32.wrap (BitVec.ofInt IntKind.u32.bits (if IntKind.u32.signed then -1 else IntKind.u32.max) ^^^ BitVec.ofInt IntKind.u32.bits r32).toNat) h33) (fun (j2 : Int → Heap → Prop) =>
  F_ref1_Sum.l2 f38_ b1 j2 0 0 h)
def F_ref1_Sum (b1 : Sl) (h : Heap) (Q : Int → Heap → Prop) : Prop := F_ref1_Sum_of F_ref1_power F_ref1_mirrored b1 h Q
def plan11 : Plan := .s (.r [0]) (.s (.r [0, 3]) (.s (.s (.r [0, 3, 4]) (.bj [(3, .one (.int .u32))] [] (.l [(3, .one (.int .u32)), (4, .one (.int .i64))] [0] (.s (.s (.r [0, 3, 4, 12]) (.c .z .z)) (.s (.bj [(3, .one (.int .u32))] [0, 4] (.s (.r [0, 3, 4, 5]) (.bj [(3, .one (.int .u32))] [0, 4] (.l [(3, .one (.int .u32)), (5, .one (.int .i64))] [0, 4] (.s (.s (.r [0, 3, 4, 5, 16]) (.c .z .z)) (.s (.b (.s (.r [0, 3, 4, 5, 6]) (.s (.s (.r [0, 3, 4, 5, 6, 22]) (.cj [(6, .one (.int .u32))] [0, 3, 4, 5] (.d [0, 0, 3, 7, 15, 0, 32, 127, 255, 511] [[0, 1, 2, 3, 4, 5, 6, 7, 8, 9]] [0, 3, 4, 5, 6]) .z)) (.s (.s (.r [0, 3, 4, 5, 6, 33]) (.cj [(6, .one (.int .u32))] [0, 3, 4, 5] (.r [0, 3, 4, 5, 6]) .z)) (.s (.r [0, 3, 4, 5, 6, 7]) (.s (.r [0, 3, 4, 5, 7]) (.s (.r [0, 3, 4, 5, 43]) (.cj [(3, .one (.int .u32))] [0, 4, 5] (.r [0, 3, 4, 5]) .z)))))))) (.r [0, 3, 4, 5]))))))) (.r [0, 3, 4])))))) (.s (.r [2]) .z)))
theorem F_ref1_Sum.eq (f38_ : Int → Heap → (Int → Heap → Prop) → Prop) (f39_ : Int → Heap → (Int → Heap → Prop) → Prop) (b1 : Sl) (h : Heap) (K : Value → Heap → Prop) : F_ref1_Sum_of f38_ f39_ b1 h (fun (r0 : Int) (h : Heap) => K (.int .u32 r0) h) =
    den Try.prog (fn1 38 (E_ref1_power_of f38_) (fn1 39 (E_ref1_mirrored_of f39_) noFns)) Try.f11.ntmps plan11 (bodyOf Try.f11) (args0 0 [(.slice b1.ptr b1.len b1.cap : Value)]) h ⟨fun env h => dRes Try.prog Try.f11.results.toList env h K, fun _ _ _ => False, fun env h => dRes Try.prog Try.f11.results.toList env h K⟩ := by kernel_rfl
def E_ref1_Sum_of (f : Sl → Heap → (Int → Heap → Prop) → Prop) : List Value → Heap → (Value → Heap → Prop) → Prop
  | [v0], h, K => dec1 .sl v0 fun (b1 : Sl) =>
  f b1 h (fun (r0 : Int) (h : Heap) => K (.int .u32 r0) h)
  | _, _, _ => False
abbrev E_ref1_Sum := E_ref1_Sum_of F_ref1_Sum
theorem E_ref1_Sum.right : IsRight Try.prog 11 E_ref1_Sum := by
  refine isRight fun vs K w hh => ?_
  match vs, hh with
  | [v0], hh =>
    unfold E_ref1_Sum E_ref1_Sum_of at hh
    replace hh := dec1_sound hh; obtain ⟨b1, rfl, hh⟩ := hh
    unfold F_ref1_Sum at hh
    exact calls_den (fn1_right ok38 E_ref1_power.right (fn1_right ok39 E_ref1_mirrored.right noFns_right)) plan11 _ w K Try.func11 (by kernel_rfl) (by kernel_rfl) (Eq.mp (F_ref1_Sum.eq F_ref1_power F_ref1_mirrored b1 w.heap K) hh)
theorem ok11 : okFn Try.prog 11 = true := by kernel_rfl
end Go.Proofs.Ytompmkmbppcadaa.V
