import Derived.Test.YtompmkmbppcadaaV10
import Derived.Test.YtompmkmbppcadaaProg
import Derived.Test.YtompmkmbppcadaaGcodeSum
import Derived.Test.YtompmkmbppcadaaGref0Copy
import Derived.Test.YtompmkmbppcadaaGlaw1place
import Derived.Test.YtompmkmbppcadaaGlaw1turned
namespace Go.Proofs.Ytompmkmbppcadaa.V
open Go Go.RowKit
set_option linter.unusedVariables false
set_option maxRecDepth 100000
/-! tally/tallylaw1.CodeTold -/
def F_law1_CodeTold.l1 (a6 : Addr) (v8 : Sl) (r24 : Int) (r27 : Sl) (j29 : Bool → Heap → Prop) : Bool → Int → Heap → Prop :=
  wl [(7, .one .bool), (8, .one (.int .i64))] (fun (next30 : Bool → Int → Heap → Prop) (any31 : Bool) (k32 : Int) (h33 : Heap) =>
  jn [(48, .one .bool)] (fun (x35 : Bool) (h36 : Heap) =>
  brr x35
  (ld [.int .u32] (a6.add 2) h36 fun (v37 : Int) =>
  0 ≤ (IntKind.u64.wrap k32) ∧
  jn [(7, .one .bool)] (fun (any43 : Bool) (h44 : Heap) =>
  next30 any43 (IntKind.i64.wrap (k32 + 1)) h44) (fun (j38 : Bool → Heap → Prop) =>
  brr ((IntKind.u32.wrap (BitVec.ofInt IntKind.u32.bits (v37.fdiv (2 ^ min (IntKind.u64.wrap k32).toNat IntKind.u32.bits)) &&& BitVec.ofInt IntKind.u32.bits 1).toNat) == 1)
  ((8 : Int) ≠ 0 ∧
  (8 : Int) ≠ 0 ∧
  ixS 1 r27 (IntKind.i64.wrap ((IntKind.i64.wrap (r24 + k32)).tdiv 8)) fun (a39 : Addr) =>
  ld [.int .u8] a39 h36 fun (v40 : Int) =>
  (8 : Int) ≠ 0 ∧
  0 ≤ (IntKind.u64.wrap ((IntKind.i64.wrap (r24 + k32)).tmod 8)) ∧
  ixS 1 r27 (IntKind.i64.wrap ((IntKind.i64.wrap (r24 + k32)).tdiv 8)) fun (a41 : Addr) =>
  st a41 [.int .u8 (IntKind.u8.wrap (BitVec.ofInt IntKind.u8.bits v40 ^^^ BitVec.ofInt IntKind.u8.bits (IntKind.u8.wrap (1 * 2 ^ min (IntKind.u64.wrap ((IntKind.i64.wrap (r24 + k32)).tmod 8)).toNat IntKind.u8.bits))).toNat)] h36 fun (h42 : Heap) =>
  j38 true h42)
  (j38 any31 h36)))
  (j29 any31 h36)) (fun (j34 : Bool → Heap → Prop) =>
  brr (decide (k32 < 32))
  (j34 (decide ((IntKind.i64.wrap (r24 + k32)) < (IntKind.i64.wrap (8 * ((v8.len : Nat) : Int))))) h33)
  (j34 false h33)))
def F_law1_CodeTold_of (f9_ : Sl → Heap → (Int → Heap → Prop) → Prop) (f15_ : Sl → Heap → (Sl → Heap → Prop) → Prop) (f16_ : Int → Int → Heap → (Int → Heap → Prop) → Prop) (f17_ : Sl → Int → Heap → (Sl → Heap → Prop) → Prop) (p1 : Sl) (p2 : Int) (p3 : Int) (p4 : Int) (p5 : Int) (h : Heap) (Q : Bool → Heap → Prop) : Prop :=
  al 33 [.slice p1.ptr p1.len p1.cap, .int .i64 p2, .int .u32 p3, .int .i64 p4, .int .i64 p5] h fun (a6 : Addr) (h7 : Heap) =>
  ld [.sl] (a6.add 0) h7 fun (v8 : Sl) =>
  al 5 [.int .u8 97] h7 fun (a9 : Addr) (h10 : Heap) =>
  frz (some a9) h10 fun (h11 : Heap) =>
  f9_ ⟨(some a9), 1, 1⟩ h11 fun (r12 : Int) (h13 : Heap) =>
  brr (r12 != 3904355907)
  (Q false h13)
  (jn [(28, .one .bool)] (fun (x16 : Bool) (h17 : Heap) =>
  brr x16
  (Q true h17)
  (ld [.sl] (a6.add 0) h17 fun (v18 : Sl) =>
  f15_ v18 h17 fun (r19 : Sl) (h20 : Heap) =>
  f9_ r19 h20 fun (r21 : Int) (h22 : Heap) =>
  ld [.int .i64] (a6.add 1) h22 fun (v23 : Int) =>
  f16_ v23 (IntKind.i64.wrap (8 * ((v8.len : Nat) : Int))) h22 fun (r24 : Int) (h25 : Heap) =>
  ld [.sl] (a6.add 0) h25 fun (v26 : Sl) =>
  f15_ v26 h25 fun (r27 : Sl) (h28 : Heap) =>
  jn [(7, .one .bool)] (fun (any45 : Bool) (h46 : Heap) =>
  f9_ r27 h46 fun (r47 : Int) (h48 : Heap) =>
  brr (!((r47 != r21) == any45))
  (Q false h48)
  (ld [.int .i64] (a6.add 3) h48 fun (v49 : Int) =>
  f16_ v49 (IntKind.i64.wrap (8 * ((v8.len : Nat) : Int))) h48 fun (r50 : Int) (h51 : Heap) =>
  ld [.int .i64] (a6.add 4) h51 fun (v52 : Int) =>
  f16_ v52 (IntKind.i64.wrap (8 * ((v8.len : Nat) : Int))) h51 fun (r53 : Int) (h54 : Heap) =>
  ld [.sl] (a6.add 0) h54 fun (v55 : Sl) =>
  f17_ v55 r50 h54 fun (r56 : Sl) (h57 : Heap) =>
  f17_ r56 r53 h57 fun (r58 : Sl) (h59 : Heap) =>
  jn [(2, .one .bool)] (fun (x65 : Bool) (h66 : Heap) =>
  Q x65 h66) (fun (j60 : Bool → Heap → Prop) =>
  f9_ r56 h59 fun (r61 : Int) (h62 : Heap) =>
  brr (r61 != r21)
  (f9_ r58 h62 fun (r63 : Int) (h64 : Heap) =>
  j60 ((r63 == r21) == (r50 == r53)) h64)
  (j60 false h62)))) (fun (j29 : Bool → Heap → Prop) =>
  F_law1_CodeTold.l1 a6 v8 r24 r27 j29 false 0 h28))) (fun (j14 : Bool → Heap → Prop) =>
  brr ((IntKind.i64.wrap (8 * ((v8.len : Nat) : Int))) == 0)
  (j14 true h13)
  (ld [.sl] (a6.add 0) h13 fun (v15 : Sl) =>
  j14 (decide (((v15.len : Nat) : Int) > 1048576)) h13)))
def F_law1_CodeTold (p1 : Sl) (p2 : Int) (p3 : Int) (p4 : Int) (p5 : Int) (h : Heap) (Q : Bool → Heap → Prop) : Prop := F_law1_CodeTold_of F_code_Sum F_ref0_Copy F_law1_place F_law1_turned p1 p2 p3 p4 p5 h Q
def plan4 : Plan := .s (.r [1]) (.s (.r [1, 3]) (.s (.s (.r [1, 3, 20]) (.c (.s (.r [2]) .z) .z)) (.s (.s (.rj [(28, .one .bool)] [1, 3]) (.c (.s (.r [2]) .z) .z)) (.s (.r [1, 3, 4]) (.s (.r [1, 3, 4, 5]) (.s (.r [1, 3, 4, 5, 6]) (.s (.r [1, 3, 4, 5, 6, 7]) (.s (.s (.r [1, 3, 4, 5, 6, 7, 8]) (.bj [(7, .one .bool)] [1, 3, 4, 6] (.l [(7, .one .bool), (8, .one (.int .i64))] [1, 3, 4, 5, 6] (.s (.s (.rj [(48, .one .bool)] [1, 3, 4, 5, 6, 7, 8]) (.c .z .z)) (.s (.b (.s (.r [1, 3, 4, 5, 6, 7, 8, 57]) (.cj [(7, .one .bool)] [1, 3, 4, 5, 6, 8] (.s (.r [1, 3, 4, 5, 6, 8]) (.r [1, 3, 4, 5, 6, 7, 8])) .z))) (.r [1, 3, 4, 5, 6, 7, 8])))))) (.s (.s (.r [1, 3, 4, 83]) (.c (.s (.r [2]) .z) .z)) (.s (.r [1, 3, 4, 9]) (.s (.r [1, 4, 9, 10]) (.s (.r [4, 9, 10, 11]) (.s (.r [4, 9, 10, 11, 12]) (.s (.rj [(2, .one .bool)] []) .z))))))))))))))
theorem F_law1_CodeTold.eq (f9_ : Sl → Heap → (Int → Heap → Prop) → Prop) (f15_ : Sl → Heap → (Sl → Heap → Prop) → Prop) (f16_ : Int → Int → Heap → (Int → Heap → Prop) → Prop) (f17_ : Sl → Int → Heap → (Sl → Heap → Prop) → Prop) (p1 : Sl) (p2 : Int) (p3 : Int) (p4 : Int) (p5 : Int) (h : Heap) (K : Value → Heap → Prop) : F_law1_CodeTold_of f9_ f15_ f16_ f17_ p1 p2 p3 p4 p5 h (fun (r0 : Bool) (h : Heap) => K (.bool r0) h) =
    den Try.prog (fn1 9 (E_code_Sum_of f9_) (fn1 15 (E_ref0_Copy_of f15_) (fn1 16 (E_law1_place_of f16_) (fn1 17 (E_law1_turned_of f17_) noFns)))) Try.f4.ntmps plan4 (bodyOf Try.f4) (args0 0 [(.agg #[.slice p1.ptr p1.len p1.cap, .int .i64 p2, .int .u32 p3, .int .i64 p4, .int .i64 p5] : Value)]) h ⟨fun env h => dRes Try.prog Try.f4.results.toList env h K, fun _ _ _ => False, fun env h => dRes Try.prog Try.f4.results.toList env h K⟩ := by kernel_rfl
def E_law1_CodeTold_of (f : Sl → Int → Int → Int → Int → Heap → (Bool → Heap → Prop) → Prop) : List Value → Heap → (Value → Heap → Prop) → Prop
  | [v0], h, K => vAgg v0 fun cs0 => decs [.sl, .int .i64, .int .u32, .int .i64, .int .i64] cs0.toList fun (p1 : Sl) (p2 : Int) (p3 : Int) (p4 : Int) (p5 : Int) =>
  f p1 p2 p3 p4 p5 h (fun (r0 : Bool) (h : Heap) => K (.bool r0) h)
  | _, _, _ => False
abbrev E_law1_CodeTold := E_law1_CodeTold_of F_law1_CodeTold
theorem E_law1_CodeTold.at (f : Sl → Int → Int → Int → Int → Heap → (Bool → Heap → Prop) → Prop) (p1 : Sl) (p2 : Int) (p3 : Int) (p4 : Int) (p5 : Int) (h : Heap) (K : Value → Heap → Prop) : E_law1_CodeTold_of f [.agg ([.slice p1.ptr p1.len p1.cap, .int .i64 p2, .int .u32 p3, .int .i64 p4, .int .i64 p5] : List Value).toArray] h K = f p1 p2 p3 p4 p5 h (fun (r0 : Bool) (h : Heap) => K (.bool r0) h) := rfl
theorem E_law1_CodeTold.right : IsRight Try.prog 4 E_law1_CodeTold := by
  refine isRight fun vs K w hh => ?_
  match vs, hh with
  | [v0], hh =>
    unfold E_law1_CodeTold E_law1_CodeTold_of at hh
    replace hh := vAgg_sound hh; obtain ⟨cs0, rfl, hh⟩ := hh
    replace hh := decs_cons hh; obtain ⟨p1, l0_0, e0_0, hh⟩ := hh
    replace hh := decs_cons hh; obtain ⟨p2, l0_1, e0_1, hh⟩ := hh
    replace hh := decs_cons hh; obtain ⟨p3, l0_2, e0_2, hh⟩ := hh
    replace hh := decs_cons hh; obtain ⟨p4, l0_3, e0_3, hh⟩ := hh
    replace hh := decs_cons hh; obtain ⟨p5, l0_4, e0_4, hh⟩ := hh
    replace hh := decs_nil hh; obtain ⟨rfl, hh⟩ := hh
    subst e0_4
    subst e0_3
    subst e0_2
    subst e0_1
    have ec0 := toArray_eq e0_0
    subst ec0
    unfold F_law1_CodeTold at hh
    exact calls_den (fn1_right ok9 E_code_Sum.right (fn1_right ok15 E_ref0_Copy.right (fn1_right ok16 E_law1_place.right (fn1_right ok17 E_law1_turned.right noFns_right)))) plan4 _ w K Try.func4 (by kernel_rfl) (by kernel_rfl) (Eq.mp (F_law1_CodeTold.eq F_code_Sum F_ref0_Copy F_law1_place F_law1_turned p1 p2 p3 p4 p5 w.heap K) hh)
theorem ok4 : okFn Try.prog 4 = true := by kernel_rfl
end Go.Proofs.Ytompmkmbppcadaa.V
