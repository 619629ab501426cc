import Derived.Test.YtompmkmbppcadaaV10
import Derived.Test.YtompmkmbppcadaaProg
import Derived.Test.YtompmkmbppcadaaGcodeSum
import Derived.Test.YtompmkmbppcadaaGlaw1Lend
import Derived.Test.YtompmkmbppcadaaGref1Sum
import Derived.Test.YtompmkmbppcadaaGlaw1Intact
import Derived.Test.YtompmkmbppcadaaGlaw1Other
import Derived.Test.YtompmkmbppcadaaGlaw1Into
namespace Go.Proofs.Ytompmkmbppcadaa.V
open Go Go.RowKit
set_option linter.unusedVariables false
set_option maxRecDepth 100000
/-! tally/tallylaw1.CodeSums -/
def F_law1_CodeSums.l1 (f9_ : Sl → Heap → (Int → Heap → Prop) → Prop) (f10_ : Sl → Heap → (Sl → Heap → Prop) → Prop) (f11_ : Sl → Heap → (Int → Heap → Prop) → Prop) (f12_ : Sl → Sl → Heap → (Bool → Heap → Prop) → Prop) (f13_ : Sl → Heap → (Sl → Heap → Prop) → Prop) (f14_ : Sl → Sl → Heap → (Heap → Prop) → Prop) (Q : Bool → Heap → Prop) (a2 : Addr) (j14 : Heap → Prop) : Int → Heap → Prop :=
  wl [(3, .one (.int .i64))] (fun (next15 : Int → Heap → Prop) (i16 : Int) (h17 : Heap) =>
  ld [.sl] (a2.add 0) h17 fun (v18 : Sl) =>
  brr (decide (i16 < ((v18.len : Nat) : Int)))
  (ld [.sl] (a2.add 0) h17 fun (v19 : Sl) =>
  ixS 1 v19 i16 fun (a20 : Addr) =>
  ld [.sl] a20 h17 fun (v21 : Sl) =>
  f10_ v21 h17 fun (r22 : Sl) (h23 : Heap) =>
  jn [(73, .one .bool)] (fun (x54 : Bool) (h55 : Heap) =>
  brr x54
  (Q false h55)
  (ld [.sl] (a2.add 0) h55 fun (v56 : Sl) =>
  ixS 1 v56 i16 fun (a57 : Addr) =>
  ld [.sl] a57 h55 fun (v58 : Sl) =>
  f13_ v58 h55 fun (r59 : Sl) (h60 : Heap) =>
  f14_ r22 r59 h60 fun  (h61 : Heap) =>
  f9_ r22 h61 fun (r62 : Int) (h63 : Heap) =>
  f11_ r59 h63 fun (r64 : Int) (h65 : Heap) =>
  brr (r62 != r64)
  (Q false h65)
  (next15 (IntKind.i64.wrap (i16 + 1)) h65))) (fun (j24 : Bool → Heap → Prop) =>
  ld [.sl] (a2.add 0) h23 fun (v25 : Sl) =>
  ixS 1 v25 i16 fun (a26 : Addr) =>
  ld [.sl] a26 h23 fun (v27 : Sl) =>
  f9_ r22 h23 fun (r28 : Int) (h29 : Heap) =>
  cellsAre h29 (a2.add 0) [.slice v25.ptr v25.len v25.cap] ∧
  cellsAre h29 a26 [.slice v27.ptr v27.len v27.cap] ∧
  f11_ v27 h29 fun (r30 : Int) (h31 : Heap) =>
  brr (r28 != r30)
  (j24 true h31)
  (ld [.sl] (a2.add 0) h31 fun (v32 : Sl) =>
  ixS 1 v32 i16 fun (a33 : Addr) =>
  ld [.sl] a33 h31 fun (v34 : Sl) =>
  f12_ r22 v34 h31 fun (r35 : Bool) (h36 : Heap) =>
  brr (!r35)
  (j24 true h36)
  (ld [.sl] (a2.add 0) h36 fun (v37 : Sl) =>
  (2 : Int) ≠ 0 ∧
  ixS 1 v37 (IntKind.i64.wrap (i16.tdiv 2)) fun (a38 : Addr) =>
  ld [.sl] a38 h36 fun (v39 : Sl) =>
  ld [.sl] (a2.add 0) h36 fun (v40 : Sl) =>
  (2 : Int) ≠ 0 ∧
  ixS 1 v40 (IntKind.i64.wrap (i16.tdiv 2)) fun (a41 : Addr) =>
  ld [.sl] a41 h36 fun (v42 : Sl) =>
  f9_ v39 h36 fun (r43 : Int) (h44 : Heap) =>
  cellsAre h44 (a2.add 0) [.slice v40.ptr v40.len v40.cap] ∧
  cellsAre h44 a41 [.slice v42.ptr v42.len v42.cap] ∧
  f11_ v42 h44 fun (r45 : Int) (h46 : Heap) =>
  brr (r43 != r45)
  (j24 true h46)
  (ld [.sl] (a2.add 0) h46 fun (v47 : Sl) =>
  ixS 1 v47 i16 fun (a48 : Addr) =>
  ld [.sl] a48 h46 fun (v49 : Sl) =>
  f9_ r22 h46 fun (r50 : Int) (h51 : Heap) =>
  cellsAre h51 (a2.add 0) [.slice v47.ptr v47.len v47.cap] ∧
  cellsAre h51 a48 [.slice v49.ptr v49.len v49.cap] ∧
  f11_ v49 h51 fun (r52 : Int) (h53 : Heap) =>
  j24 (r50 != r52) h53)))))
  (j14 h17))
def F_law1_CodeSums_of (f9_ : Sl → Heap → (Int → Heap → Prop) → Prop) (f10_ : Sl → Heap → (Sl → Heap → Prop) → Prop) (f11_ : Sl → Heap → (Int → Heap → Prop) → Prop) (f12_ : Sl → Sl → Heap → (Bool → Heap → Prop) → Prop) (f13_ : Sl → Heap → (Sl → Heap → Prop) → Prop) (f14_ : Sl → Sl → Heap → (Heap → Prop) → Prop) (p1 : Sl) (h : Heap) (Q : Bool → Heap → Prop) : Prop :=
  al 24 [.slice p1.ptr p1.len p1.cap] h fun (a2 : Addr) (h3 : Heap) =>
  jn [(13, .one .bool)] (fun (x12 : Bool) (h13 : Heap) =>
  brr x12
  (Q false h13)
  (jn [] (fun  (h66 : Heap) =>
  Q true h66) (fun (j14 : Heap → Prop) =>
  F_law1_CodeSums.l1 f9_ f10_ f11_ f12_ f13_ f14_ Q a2 j14 0 h13))) (fun (j4 : Bool → Heap → Prop) =>
  al 5 [.int .u8 49, .int .u8 50, .int .u8 51, .int .u8 52, .int .u8 53, .int .u8 54, .int .u8 55, .int .u8 56, .int .u8 57] h3 fun (a5 : Addr) (h6 : Heap) =>
  frz (some a5) h6 fun (h7 : Heap) =>
  f9_ ⟨(some a5), 9, 9⟩ h7 fun (r8 : Int) (h9 : Heap) =>
  brr (r8 != 3421780262)
  (j4 true h9)
  (f9_ (⟨none, 0, 0⟩ : Sl) h9 fun (r10 : Int) (h11 : Heap) =>
  j4 (r10 != 0) h11))
def F_law1_CodeSums (p1 : Sl) (h : Heap) (Q : Bool → Heap → Prop) : Prop := F_law1_CodeSums_of F_code_Sum F_law1_Lend F_ref1_Sum F_law1_Intact F_law1_Other F_law1_Into p1 h Q
def plan3 : Plan := .s (.r [1]) (.s (.s (.rj [(13, .one .bool)] [1]) (.c (.s (.r [2]) .z) .z)) (.s (.s (.r [1, 3]) (.bj [] [] (.l [(3, .one (.int .i64))] [1] (.s (.s (.r [1, 3, 18]) (.c .z .z)) (.s (.b (.s (.r [1, 3, 4]) (.s (.s (.dj [0, 1, 0, 4, 0, 28, 60, 127, 255, 511, 1023, 1023, 3071, 1023, 15359, 31743, 65535, 131071, 262143, 524287, 1048575, 2097151, 1048575, 5242879, 16777215, 33554431, 67108863, 1048575, 135266303, 1048575, 537919487, 2014314495, 4161798143, 8589934591, 17179869183, 34359738367, 68719476735, 137438953471, 274877906943, 137438953471, 687194767359, 137438953471, 3985729650687, 8383776161791, 17592186044415, 35184372088831, 70368744177663] [[0, 2, 3, 4, 5, 6, 1, 7, 8, 9, 10, 11, 12, 13, 14, 15, 16, 17, 18, 19, 20, 21, 22, 23, 24, 25, 27, 28, 29, 30, 31, 32, 26, 33, 34, 35, 36, 37, 39, 40, 41, 42, 43, 38, 44, 45, 46]] [(73, .one .bool)] [1, 3, 4]) (.c (.s (.r [2]) .z) .z)) (.s (.r [1, 3, 4, 5]) (.s (.r [1, 3, 4, 5]) (.s (.r [1, 3, 87]) (.c (.s (.r [2]) .z) .z))))))) (.r [1, 3])))))) (.s (.r [2]) .z)))
theorem F_law1_CodeSums.eq (f9_ : Sl → Heap → (Int → Heap → Prop) → Prop) (f10_ : Sl → Heap → (Sl → Heap → Prop) → Prop) (f11_ : Sl → Heap → (Int → Heap → Prop) → Prop) (f12_ : Sl → Sl → Heap → (Bool → Heap → Prop) → Prop) (f13_ : Sl → Heap → (Sl → Heap → Prop) → Prop) (f14_ : Sl → Sl → Heap → (Heap → Prop) → Prop) (p1 : Sl) (h : Heap) (K : Value → Heap → Prop) : F_law1_CodeSums_of f9_ f10_ f11_ f12_ f13_ f14_ p1 h (fun (r0 : Bool) (h : Heap) => K (.bool r0) h) =
    den Try.prog (fn1 9 (E_code_Sum_of f9_) (fn1 10 (E_law1_Lend_of f10_) (fn1 11 (E_ref1_Sum_of f11_) (fn1 12 (E_law1_Intact_of f12_) (fn1 13 (E_law1_Other_of f13_) (fn1 14 (E_law1_Into_of f14_) noFns)))))) Try.f3.ntmps plan3 (bodyOf Try.f3) (args0 0 [(.agg #[.slice p1.ptr p1.len p1.cap] : Value)]) h ⟨fun env h => dRes Try.prog Try.f3.results.toList env h K, fun _ _ _ => False, fun env h => dRes Try.prog Try.f3.results.toList env h K⟩ := by kernel_rfl
def E_law1_CodeSums_of (f : Sl → Heap → (Bool → Heap → Prop) → Prop) : List Value → Heap → (Value → Heap → Prop) → Prop
  | [v0], h, K => vAgg v0 fun cs0 => decs [.sl] cs0.toList fun (p1 : Sl) =>
  f p1 h (fun (r0 : Bool) (h : Heap) => K (.bool r0) h)
  | _, _, _ => False
abbrev E_law1_CodeSums := E_law1_CodeSums_of F_law1_CodeSums
theorem E_law1_CodeSums.at (f : Sl → Heap → (Bool → Heap → Prop) → Prop) (p1 : Sl) (h : Heap) (K : Value → Heap → Prop) : E_law1_CodeSums_of f [.agg ([.slice p1.ptr p1.len p1.cap] : List Value).toArray] h K = f p1 h (fun (r0 : Bool) (h : Heap) => K (.bool r0) h) := rfl
theorem E_law1_CodeSums.right : IsRight Try.prog 3 E_law1_CodeSums := by
  refine isRight fun vs K w hh => ?_
  match vs, hh with
  | [v0], hh =>
    unfold E_law1_CodeSums E_law1_CodeSums_of at hh
    replace hh := vAgg_sound hh; obtain ⟨cs0, rfl, hh⟩ := hh
    replace hh := decs_cons hh; obtain ⟨p1, l0_0, e0_0, hh⟩ := hh
    replace hh := decs_nil hh; obtain ⟨rfl, hh⟩ := hh
    have ec0 := toArray_eq e0_0
    subst ec0
    unfold F_law1_CodeSums at hh
    exact calls_den (fn1_right ok9 E_code_Sum.right (fn1_right ok10 E_law1_Lend.right (fn1_right ok11 E_ref1_Sum.right (fn1_right ok12 E_law1_Intact.right (fn1_right ok13 E_law1_Other.right (fn1_right ok14 E_law1_Into.right noFns_right)))))) plan3 _ w K Try.func3 (by kernel_rfl) (by kernel_rfl) (Eq.mp (F_law1_CodeSums.eq F_code_Sum F_law1_Lend F_ref1_Sum F_law1_Intact F_law1_Other F_law1_Into p1 w.heap K) hh)
theorem ok3 : okFn Try.prog 3 = true := by kernel_rfl
end Go.Proofs.Ytompmkmbppcadaa.V
