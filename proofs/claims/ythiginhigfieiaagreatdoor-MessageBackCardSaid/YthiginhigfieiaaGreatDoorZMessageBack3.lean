import Derived.Test.YthiginhigfieiaaGreatDoorZMessageBack2
import Derived.Test.YthiginhigfieiaaGreatDoorProg
namespace Go.Proofs.YthiginhigfieiaaGreatDoor.V
open Go Go.RowKit
set_option linter.unusedVariables false
set_option maxRecDepth 100000
def F_code_Sum.l1 (j9 : Int → Heap → Prop) : Int → Int → Heap → Prop :=
  wl [(5, .one (.int .u32)), (14, .one (.int .i64))] (fun (next10 : Int → Int → Heap → Prop) (n11 x12 : Int) (h13 : Heap) =>
  brr (decide (x12 < 4))
  (0 ≤ (1 : Int) ∧
  next10 (IntKind.u32.wrap (BitVec.ofInt IntKind.u32.bits (n11.fdiv (2 ^ min (1 : Int).toNat IntKind.u32.bits)) ^^^ BitVec.ofInt IntKind.u32.bits (IntKind.u32.wrap (BitVec.ofInt IntKind.u32.bits (IntKind.u32.wrap (0 - (IntKind.u32.wrap (BitVec.ofInt IntKind.u32.bits n11 &&& BitVec.ofInt IntKind.u32.bits 1).toNat))) &&& BitVec.ofInt IntKind.u32.bits 3988292384).toNat)).toNat) (IntKind.i64.wrap (x12 + 1)) h13)
  (j9 n11 h13))
def F_code_Sum.l2 (a2 : Addr) (j4 : Heap → Prop) : Int → Heap → Prop :=
  wl [(9, .one (.int .i64))] (fun (next5 : Int → Heap → Prop) (x6 : Int) (h7 : Heap) =>
  brr (decide (x6 < 16))
  (jn [] (fun  (h18 : Heap) =>
  next5 (IntKind.i64.wrap (x6 + 1)) h18) (fun (j8 : Heap → Prop) =>
  jn [(5, .one (.int .u32))] (fun (n14 : Int) (h15 : Heap) =>
  ixA 1 a2 16 x6 fun (a16 : Addr) =>
  st a16 [.int .u32 n14] h15 fun (h17 : Heap) =>
  j8 h17) (fun (j9 : Int → Heap → Prop) =>
  F_code_Sum.l1 j9 (IntKind.u32.wrap x6) 0 h7)))
  (j4 h7))
def F_code_Sum.l3 (b1 : Sl) (a2 : Addr) (j20 : Int → Heap → Prop) : Int → Int → Heap → Prop :=
  wl [(6, .one (.int .u32)), (30, .one (.int .i64))] (fun (next21 : Int → Int → Heap → Prop) (n22 x23 : Int) (h24 : Heap) =>
  brr (decide (x23 < ((b1.len : Nat) : Int)))
  (ixS 1 b1 x23 fun (a25 : Addr) =>
  ld [.int .u8] a25 h24 fun (v26 : Int) =>
  0 ≤ (4 : Int) ∧
  ixA 1 a2 16 (IntKind.u32.wrap (BitVec.ofInt IntKind.u32.bits (IntKind.u32.wrap (BitVec.ofInt IntKind.u32.bits n22 ^^^ BitVec.ofInt IntKind.u32.bits (IntKind.u32.wrap v26)).toNat) &&& BitVec.ofInt IntKind.u32.bits 15).toNat) fun (a27 : Addr) =>
  ld [.int .u32] a27 h24 fun (v28 : Int) =>
  0 ≤ (4 : Int) ∧
  ixA 1 a2 16 (IntKind.u32.wrap (BitVec.ofInt IntKind.u32.bits (IntKind.u32.wrap (BitVec.ofInt IntKind.u32.bits ((IntKind.u32.wrap (BitVec.ofInt IntKind.u32.bits n22 ^^^ BitVec.ofInt IntKind.u32.bits (IntKind.u32.wrap v26)).toNat).fdiv (2 ^ min (4 : Int).toNat IntKind.u32.bits)) ^^^ BitVec.ofInt IntKind.u32.bits v28).toNat) &&& BitVec.ofInt IntKind.u32.bits 15).toNat) fun (a29 : Addr) =>
  ld [.int .u32] a29 h24 fun (v30 : Int) =>
  next21 (IntKind.u32.wrap (BitVec.ofInt IntKind.u32.bits ((IntKind.u32.wrap (BitVec.ofInt IntKind.u32.bits ((IntKind.u32.wrap (BitVec.ofInt IntKind.u32.bits n22 ^^^ BitVec.ofInt IntKind.u32.bits (IntKind.u32.wrap v26)).toNat).fdiv (2 ^ min (4 : Int).toNat IntKind.u32.bits)) ^^^ BitVec.ofInt IntKind.u32.bits v28).toNat).fdiv (2 ^ min (4 : Int).toNat IntKind.u32.bits)) ^^^ BitVec.ofInt IntKind.u32.bits v30).toNat) (IntKind.i64.wrap (x23 + 1)) h24)
  (j20 n22 h24))
def F_code_Sum_of  (b1 : Sl) (h : Heap) (Q : Int → Heap → Prop) : Prop :=
  al 130 [.int .u32 0, .int .u32 0, .int .u32 0, .int .u32 0, .int .u32 0, .int .u32 0, .int .u32 0, .int .u32 0, .int .u32 0, .int .u32 0, .int .u32 0, .int .u32 0, .int .u32 0, .int .u32 0, .int .u32 0, .int .u32 0] h fun (a2 : Addr) (h3 : Heap) =>
  jn [] (fun  (h19 : Heap) =>
  jn [(6, .one (.int .u32))] (fun (n31 : Int) (h32 : Heap) =>
  Q (IntKind.u32.wrap (BitVec.ofInt IntKind.u32.bits (if IntKind.u32.signed then -1 else IntKind.u32.max) ^^^ BitVec.ofInt IntKind.u32.bits n31).toNat) h32) (fun (j20 : Int → Heap → Prop) =>
  F_code_Sum.l3 b1 a2 j20 4294967295 0 h19)) (fun (j4 : Heap → Prop) =>
  F_code_Sum.l2 a2 j4 0 h3)
def F_code_Sum (b1 : Sl) (h : Heap) (Q : Int → Heap → Prop) : Prop := F_code_Sum_of  b1 h Q
def plan34 : Plan := .s (.r [0]) (.s (.r [0, 3]) (.s (.s (.r [0, 3, 9]) (.bj [] [0, 3] (.l [(9, .one (.int .i64))] [0, 3] (.s (.r [0, 3, 9, 10]) (.s (.c .z .z) (.s (.bj [] [0, 3, 9] (.s (.r [0, 3, 4, 9]) (.s (.r [0, 3, 4, 5, 9]) (.s (.s (.r [0, 3, 4, 5, 9, 14]) (.bj [(5, .one (.int .u32))] [0, 3, 4, 9] (.l [(5, .one (.int .u32)), (14, .one (.int .i64))] [0, 3, 4, 9] (.s (.r [0, 3, 4, 5, 9, 14, 15]) (.s (.c .z .z) (.s (.b (.r [0, 3, 4, 5, 9, 14])) (.r [0, 3, 4, 5, 9, 14]))))))) (.r [0, 3, 9]))))) (.r [0, 3, 9]))))))) (.s (.r [0, 3, 6]) (.s (.s (.r [3, 6, 28, 29, 30]) (.bj [(6, .one (.int .u32))] [] (.l [(6, .one (.int .u32)), (30, .one (.int .i64))] [3, 28, 29] (.s (.r [3, 6, 28, 29, 30, 31]) (.s (.c .z .z) (.s (.b (.s (.r [3, 6, 8, 28, 29, 30]) (.s (.r [3, 6, 28, 29, 30]) (.s (.r [3, 6, 28, 29, 30]) (.r [3, 6, 28, 29, 30]))))) (.r [3, 6, 28, 29, 30]))))))) (.s (.r [2]) .z)))))
theorem F_code_Sum.eq  (b1 : Sl) (h : Heap) (K : Value → Heap → Prop) : F_code_Sum_of  b1 h (fun (r0 : Int) (h : Heap) => K (.int .u32 r0) h) =
    den Tryz.prog noFns Tryz.f34.ntmps plan34 (bodyOf Tryz.f34) (args0 0 [(.slice b1.ptr b1.len b1.cap : Value)]) h ⟨fun env h => dRes Tryz.prog Tryz.f34.results.toList env h K, fun _ _ _ => False, fun env h => dRes Tryz.prog Tryz.f34.results.toList env h K⟩ := by kernel_rfl
def E_code_Sum_of (f : Sl → Heap → (Int → Heap → Prop) → Prop) : List Value → Heap → (Value → Heap → Prop) → Prop
  | [v0], h, K => dec1 .sl v0 fun (b1 : Sl) =>
  f b1 h (fun (r0 : Int) (h : Heap) => K (.int .u32 r0) h)
  | _, _, _ => False
abbrev E_code_Sum := E_code_Sum_of F_code_Sum
theorem E_code_Sum.right : IsRight Tryz.prog 34 E_code_Sum := by
  refine isRight fun vs K w hh => ?_
  match vs, hh with
  | [v0], hh =>
    unfold E_code_Sum E_code_Sum_of at hh
    replace hh := dec1_sound hh; obtain ⟨b1, rfl, hh⟩ := hh
    unfold F_code_Sum at hh
    exact calls_den noFns_right plan34 _ w K Tryz.func34 (by kernel_rfl) (by kernel_rfl) (Eq.mp (F_code_Sum.eq  b1 w.heap K) hh)
theorem ok34 : okFn Tryz.prog 34 = true := by kernel_rfl
end Go.Proofs.YthiginhigfieiaaGreatDoor.V
namespace Go.Proofs.YthiginhigfieiaaGreatDoor.V
open Go Go.RowKit
set_option linter.unusedVariables false
set_option maxRecDepth 100000
def F_message_number_3_of (f56_ : Option Addr → Heap → (Option Addr → Heap → Prop) → Prop) (f58_ : Option Addr → Heap → (Option Addr → Heap → Prop) → Prop) (f59_ : Option Addr → Heap → (Option Addr → Heap → Prop) → Prop) (f60_ : Option Addr → Heap → (Option Addr → Heap → Prop) → Prop) (f64_ : Option Addr → Int → Heap → (Heap → Prop) → Prop) (f67_ : Option Addr → Heap → (Option Addr → Heap → Prop) → Prop) (f77_ : Option Addr → Heap → (Option Addr → Heap → Prop) → Prop) (f81_ : Option Addr → Heap → (Option Addr → Heap → Prop) → Prop) (f82_ : Option Addr → Heap → (Option Addr → Heap → Prop) → Prop) (f83_ : Option Addr → Heap → (Option Addr → Heap → Prop) → Prop) (Φ_ : Fns) (w1 m2 : Option Addr) (x3 : Addr) (h : Heap) (Q : Heap → Prop) : Prop :=
  ld [.fn] x3 h fun (v4 : Option FV) =>
  dyn1 .ptr Φ_ (Kd.enc .fn v4) [(.pointer m2 : Value)] h fun (r6 : Option Addr) (h5 : Heap) =>
  nn r6 fun (a7 : Addr) =>
  ld [.int .u64] a7 h5 fun (v8 : Int) =>
  f64_ w1 v8 h5 fun  (h9 : Heap) =>
  Q h9
def F_message_number_3 (w1 m2 : Option Addr) (x3 : Addr) (h : Heap) (Q : Heap → Prop) : Prop := F_message_number_3_of F_message_table_1 F_message_table_2 F_message_table_3 F_message_table_4 F_code_Writer_Var F_message_table_9 F_message_table_15 F_message_table_18 F_message_table_19 F_message_table_20 (fn1 56 E_message_table_1 (fn1 58 E_message_table_2 (fn1 59 E_message_table_3 (fn1 60 E_message_table_4 (fn1 64 E_code_Writer_Var (fn1 67 E_message_table_9 (fn1 77 E_message_table_15 (fn1 81 E_message_table_18 (fn1 82 E_message_table_19 (fn1 83 E_message_table_20 noFns)))))))))) w1 m2 x3 h Q
def plan124 : Plan := .r []
theorem F_message_number_3.eq (f56_ : Option Addr → Heap → (Option Addr → Heap → Prop) → Prop) (f58_ : Option Addr → Heap → (Option Addr → Heap → Prop) → Prop) (f59_ : Option Addr → Heap → (Option Addr → Heap → Prop) → Prop) (f60_ : Option Addr → Heap → (Option Addr → Heap → Prop) → Prop) (f64_ : Option Addr → Int → Heap → (Heap → Prop) → Prop) (f67_ : Option Addr → Heap → (Option Addr → Heap → Prop) → Prop) (f77_ : Option Addr → Heap → (Option Addr → Heap → Prop) → Prop) (f81_ : Option Addr → Heap → (Option Addr → Heap → Prop) → Prop) (f82_ : Option Addr → Heap → (Option Addr → Heap → Prop) → Prop) (f83_ : Option Addr → Heap → (Option Addr → Heap → Prop) → Prop) (w1 m2 : Option Addr) (x3 : Addr) (h : Heap) (K : Value → Heap → Prop) : F_message_number_3_of f56_ f58_ f59_ f60_ f64_ f67_ f77_ f81_ f82_ f83_ (fn1 56 (E_message_table_1_of f56_) (fn1 58 (E_message_table_2_of f58_) (fn1 59 (E_message_table_3_of f59_) (fn1 60 (E_message_table_4_of f60_) (fn1 64 (E_code_Writer_Var_of f64_) (fn1 67 (E_message_table_9_of f67_) (fn1 77 (E_message_table_15_of f77_) (fn1 81 (E_message_table_18_of f81_) (fn1 82 (E_message_table_19_of f82_) (fn1 83 (E_message_table_20_of f83_) noFns)))))))))) w1 m2 x3 h (fun  (h : Heap) => K (.tuple #[]) h) =
    den Tryz.prog (fn1 56 (E_message_table_1_of f56_) (fn1 58 (E_message_table_2_of f58_) (fn1 59 (E_message_table_3_of f59_) (fn1 60 (E_message_table_4_of f60_) (fn1 64 (E_code_Writer_Var_of f64_) (fn1 67 (E_message_table_9_of f67_) (fn1 77 (E_message_table_15_of f77_) (fn1 81 (E_message_table_18_of f81_) (fn1 82 (E_message_table_19_of f82_) (fn1 83 (E_message_table_20_of f83_) noFns)))))))))) Tryz.f124.ntmps plan124 (bodyOf Tryz.f124) (args0 0 [(.pointer w1 : Value), (.pointer m2 : Value), (.pointer (some x3) : Value)]) h ⟨fun env h => dRes Tryz.prog Tryz.f124.results.toList env h K, fun _ _ _ => False, fun env h => dRes Tryz.prog Tryz.f124.results.toList env h K⟩ := by kernel_rfl
def E_message_number_3_of (f : Option Addr → Option Addr → Addr → Heap → (Heap → Prop) → Prop) : List Value → Heap → (Value → Heap → Prop) → Prop
  | [v0, v1, v2], h, K => dec1 .ptr v0 fun (w1 : Option Addr) =>
  dec1 .ptr v1 fun (m2 : Option Addr) =>
  dec1 .addr v2 fun (x3 : Addr) =>
  f w1 m2 x3 h (fun  (h : Heap) => K (.tuple #[]) h)
  | _, _, _ => False
abbrev E_message_number_3 := E_message_number_3_of F_message_number_3
theorem E_message_number_3.at (f : Option Addr → Option Addr → Addr → Heap → (Heap → Prop) → Prop) (w1 m2 : Option Addr) (x3 : Addr) (h : Heap) (K : Value → Heap → Prop) : E_message_number_3_of f [.pointer w1, .pointer m2, .pointer (some x3)] h K = f w1 m2 x3 h (fun  (h : Heap) => K (.tuple #[]) h) := rfl
theorem E_message_number_3.right : IsRight Tryz.prog 124 E_message_number_3 := by
  refine isRight fun vs K w hh => ?_
  match vs, hh with
  | [v0, v1, v2], hh =>
    unfold E_message_number_3 E_message_number_3_of at hh
    replace hh := dec1_sound hh; obtain ⟨w1, rfl, hh⟩ := hh
    replace hh := dec1_sound hh; obtain ⟨m2, rfl, hh⟩ := hh
    replace hh := dec1_sound hh; obtain ⟨x3, rfl, hh⟩ := hh
    unfold F_message_number_3 at hh
    exact calls_den (fn1_right ok56 E_message_table_1.right (fn1_right ok58 E_message_table_2.right (fn1_right ok59 E_message_table_3.right (fn1_right ok60 E_message_table_4.right (fn1_right ok64 E_code_Writer_Var.right (fn1_right ok67 E_message_table_9.right (fn1_right ok77 E_message_table_15.right (fn1_right ok81 E_message_table_18.right (fn1_right ok82 E_message_table_19.right (fn1_right ok83 E_message_table_20.right noFns_right)))))))))) plan124 _ w K Tryz.func124 (by kernel_rfl) (by kernel_rfl) (Eq.mp (F_message_number_3.eq F_message_table_1 F_message_table_2 F_message_table_3 F_message_table_4 F_code_Writer_Var F_message_table_9 F_message_table_15 F_message_table_18 F_message_table_19 F_message_table_20 w1 m2 x3 w.heap K) hh)
theorem ok124 : okFn Tryz.prog 124 = true := by kernel_rfl
end Go.Proofs.YthiginhigfieiaaGreatDoor.V
namespace Go.Proofs.YthiginhigfieiaaGreatDoor.V
open Go Go.RowKit
set_option linter.unusedVariables false
set_option maxRecDepth 100000
def F_message_small_3_of (f31_ : Option Addr → Int → Heap → (Heap → Prop) → Prop) (f76_ : Option Addr → Heap → (Option Addr → Heap → Prop) → Prop) (f84_ : Option Addr → Heap → (Option Addr → Heap → Prop) → Prop) (f85_ : Option Addr → Heap → (Option Addr → Heap → Prop) → Prop) (f86_ : Option Addr → Heap → (Option Addr → Heap → Prop) → Prop) (Φ_ : Fns) (w1 m2 : Option Addr) (x3 : Addr) (h : Heap) (Q : Heap → Prop) : Prop :=
  ld [.fn] x3 h fun (v4 : Option FV) =>
  dyn1 .ptr Φ_ (Kd.enc .fn v4) [(.pointer m2 : Value)] h fun (r6 : Option Addr) (h5 : Heap) =>
  nn r6 fun (a7 : Addr) =>
  ld [.int .i64] a7 h5 fun (v8 : Int) =>
  f31_ w1 (IntKind.u8.wrap v8) h5 fun  (h9 : Heap) =>
  Q h9
def F_message_small_3 (w1 m2 : Option Addr) (x3 : Addr) (h : Heap) (Q : Heap → Prop) : Prop := F_message_small_3_of F_code_Writer_U8 F_message_table_14 F_message_table_21 F_message_table_22 F_message_table_23 (fn1 31 E_code_Writer_U8 (fn1 76 E_message_table_14 (fn1 84 E_message_table_21 (fn1 85 E_message_table_22 (fn1 86 E_message_table_23 noFns))))) w1 m2 x3 h Q
def plan136 : Plan := .r []
theorem F_message_small_3.eq (f31_ : Option Addr → Int → Heap → (Heap → Prop) → Prop) (f76_ : Option Addr → Heap → (Option Addr → Heap → Prop) → Prop) (f84_ : Option Addr → Heap → (Option Addr → Heap → Prop) → Prop) (f85_ : Option Addr → Heap → (Option Addr → Heap → Prop) → Prop) (f86_ : Option Addr → Heap → (Option Addr → Heap → Prop) → Prop) (w1 m2 : Option Addr) (x3 : Addr) (h : Heap) (K : Value → Heap → Prop) : F_message_small_3_of f31_ f76_ f84_ f85_ f86_ (fn1 31 (E_code_Writer_U8_of f31_) (fn1 76 (E_message_table_14_of f76_) (fn1 84 (E_message_table_21_of f84_) (fn1 85 (E_message_table_22_of f85_) (fn1 86 (E_message_table_23_of f86_) noFns))))) w1 m2 x3 h (fun  (h : Heap) => K (.tuple #[]) h) =
    den Tryz.prog (fn1 31 (E_code_Writer_U8_of f31_) (fn1 76 (E_message_table_14_of f76_) (fn1 84 (E_message_table_21_of f84_) (fn1 85 (E_message_table_22_of f85_) (fn1 86 (E_message_table_23_of f86_) noFns))))) Tryz.f136.ntmps plan136 (bodyOf Tryz.f136) (args0 0 [(.pointer w1 : Value), (.pointer m2 : Value), (.pointer (some x3) : Value)]) h ⟨fun env h => dRes Tryz.prog Tryz.f136.results.toList env h K, fun _ _ _ => False, fun env h => dRes Tryz.prog Tryz.f136.results.toList env h K⟩ := by kernel_rfl
def E_message_small_3_of (f : Option Addr → Option Addr → Addr → Heap → (Heap → Prop) → Prop) : List Value → Heap → (Value → Heap → Prop) → Prop
  | [v0, v1, v2], h, K => dec1 .ptr v0 fun (w1 : Option Addr) =>
  dec1 .ptr v1 fun (m2 : Option Addr) =>
  dec1 .addr v2 fun (x3 : Addr) =>
  f w1 m2 x3 h (fun  (h : Heap) => K (.tuple #[]) h)
  | _, _, _ => False
abbrev E_message_small_3 := E_message_small_3_of F_message_small_3
theorem E_message_small_3.at (f : Option Addr → Option Addr → Addr → Heap → (Heap → Prop) → Prop) (w1 m2 : Option Addr) (x3 : Addr) (h : Heap) (K : Value → Heap → Prop) : E_message_small_3_of f [.pointer w1, .pointer m2, .pointer (some x3)] h K = f w1 m2 x3 h (fun  (h : Heap) => K (.tuple #[]) h) := rfl
theorem E_message_small_3.right : IsRight Tryz.prog 136 E_message_small_3 := by
  refine isRight fun vs K w hh => ?_
  match vs, hh with
  | [v0, v1, v2], hh =>
    unfold E_message_small_3 E_message_small_3_of at hh
    replace hh := dec1_sound hh; obtain ⟨w1, rfl, hh⟩ := hh
    replace hh := dec1_sound hh; obtain ⟨m2, rfl, hh⟩ := hh
    replace hh := dec1_sound hh; obtain ⟨x3, rfl, hh⟩ := hh
    unfold F_message_small_3 at hh
    exact calls_den (fn1_right ok31 E_code_Writer_U8.right (fn1_right ok76 E_message_table_14.right (fn1_right ok84 E_message_table_21.right (fn1_right ok85 E_message_table_22.right (fn1_right ok86 E_message_table_23.right noFns_right))))) plan136 _ w K Tryz.func136 (by kernel_rfl) (by kernel_rfl) (Eq.mp (F_message_small_3.eq F_code_Writer_U8 F_message_table_14 F_message_table_21 F_message_table_22 F_message_table_23 w1 m2 x3 w.heap K) hh)
theorem ok136 : okFn Tryz.prog 136 = true := by kernel_rfl
end Go.Proofs.YthiginhigfieiaaGreatDoor.V
namespace Go.Proofs.YthiginhigfieiaaGreatDoor.V
open Go Go.RowKit
set_option linter.unusedVariables false
set_option maxRecDepth 100000
def F_message_name_3_of (f71_ : Option Addr → Sl → Heap → (Heap → Prop) → Prop) (f79_ : Option Addr → Heap → (Option Addr → Heap → Prop) → Prop) (f80_ : Option Addr → Heap → (Option Addr → Heap → Prop) → Prop) (Φ_ : Fns) (w1 m2 : Option Addr) (x3 : Addr) (h : Heap) (Q : Heap → Prop) : Prop :=
  ld [.fn] x3 h fun (v4 : Option FV) =>
  dyn1 .ptr Φ_ (Kd.enc .fn v4) [(.pointer m2 : Value)] h fun (r6 : Option Addr) (h5 : Heap) =>
  nn r6 fun (a7 : Addr) =>
  ld [.str] a7 h5 fun (v8 : ByteArray) =>
  s2b 5 v8 h5 fun (s9 : Sl) (h10 : Heap) =>
  f71_ w1 s9 h10 fun  (h11 : Heap) =>
  Q h11
def F_message_name_3 (w1 m2 : Option Addr) (x3 : Addr) (h : Heap) (Q : Heap → Prop) : Prop := F_message_name_3_of F_code_Writer_Bytes F_message_table_16 F_message_table_17 (fn1 71 E_code_Writer_Bytes (fn1 79 E_message_table_16 (fn1 80 E_message_table_17 noFns))) w1 m2 x3 h Q
def plan140 : Plan := .r []
theorem F_message_name_3.eq (f71_ : Option Addr → Sl → Heap → (Heap → Prop) → Prop) (f79_ : Option Addr → Heap → (Option Addr → Heap → Prop) → Prop) (f80_ : Option Addr → Heap → (Option Addr → Heap → Prop) → Prop) (w1 m2 : Option Addr) (x3 : Addr) (h : Heap) (K : Value → Heap → Prop) : F_message_name_3_of f71_ f79_ f80_ (fn1 71 (E_code_Writer_Bytes_of f71_) (fn1 79 (E_message_table_16_of f79_) (fn1 80 (E_message_table_17_of f80_) noFns))) w1 m2 x3 h (fun  (h : Heap) => K (.tuple #[]) h) =
    den Tryz.prog (fn1 71 (E_code_Writer_Bytes_of f71_) (fn1 79 (E_message_table_16_of f79_) (fn1 80 (E_message_table_17_of f80_) noFns))) Tryz.f140.ntmps plan140 (bodyOf Tryz.f140) (args0 0 [(.pointer w1 : Value), (.pointer m2 : Value), (.pointer (some x3) : Value)]) h ⟨fun env h => dRes Tryz.prog Tryz.f140.results.toList env h K, fun _ _ _ => False, fun env h => dRes Tryz.prog Tryz.f140.results.toList env h K⟩ := by kernel_rfl
def E_message_name_3_of (f : Option Addr → Option Addr → Addr → Heap → (Heap → Prop) → Prop) : List Value → Heap → (Value → Heap → Prop) → Prop
  | [v0, v1, v2], h, K => dec1 .ptr v0 fun (w1 : Option Addr) =>
  dec1 .ptr v1 fun (m2 : Option Addr) =>
  dec1 .addr v2 fun (x3 : Addr) =>
  f w1 m2 x3 h (fun  (h : Heap) => K (.tuple #[]) h)
  | _, _, _ => False
abbrev E_message_name_3 := E_message_name_3_of F_message_name_3
theorem E_message_name_3.at (f : Option Addr → Option Addr → Addr → Heap → (Heap → Prop) → Prop) (w1 m2 : Option Addr) (x3 : Addr) (h : Heap) (K : Value → Heap → Prop) : E_message_name_3_of f [.pointer w1, .pointer m2, .pointer (some x3)] h K = f w1 m2 x3 h (fun  (h : Heap) => K (.tuple #[]) h) := rfl
theorem E_message_name_3.right : IsRight Tryz.prog 140 E_message_name_3 := by
  refine isRight fun vs K w hh => ?_
  match vs, hh with
  | [v0, v1, v2], hh =>
    unfold E_message_name_3 E_message_name_3_of at hh
    replace hh := dec1_sound hh; obtain ⟨w1, rfl, hh⟩ := hh
    replace hh := dec1_sound hh; obtain ⟨m2, rfl, hh⟩ := hh
    replace hh := dec1_sound hh; obtain ⟨x3, rfl, hh⟩ := hh
    unfold F_message_name_3 at hh
    exact calls_den (fn1_right ok71 E_code_Writer_Bytes.right (fn1_right ok79 E_message_table_16.right (fn1_right ok80 E_message_table_17.right noFns_right))) plan140 _ w K Tryz.func140 (by kernel_rfl) (by kernel_rfl) (Eq.mp (F_message_name_3.eq F_code_Writer_Bytes F_message_table_16 F_message_table_17 w1 m2 x3 w.heap K) hh)
theorem ok140 : okFn Tryz.prog 140 = true := by kernel_rfl
end Go.Proofs.YthiginhigfieiaaGreatDoor.V
namespace Go.Proofs.YthiginhigfieiaaGreatDoor.V
open Go Go.RowKit
set_option linter.unusedVariables false
set_option maxRecDepth 100000
def F_message_both_3_of (f63_ : Option Addr → Option Addr → Heap → (Heap → Prop) → Prop) (f70_ : Option Addr → Option Addr → Heap → (Heap → Prop) → Prop) (f89_ : Option Addr → Option Addr → Heap → (Heap → Prop) → Prop) (f124_ : Option Addr → Option Addr → Addr → Heap → (Heap → Prop) → Prop) (f136_ : Option Addr → Option Addr → Addr → Heap → (Heap → Prop) → Prop) (f140_ : Option Addr → Option Addr → Addr → Heap → (Heap → Prop) → Prop) (Φ_ : Fns) (w1 m2 : Option Addr) (x3 x4 : Addr) (h : Heap) (Q : Heap → Prop) : Prop :=
  ld [.fn] (x3.add 2) h fun (v5 : Option FV) =>
  dyn0 Φ_ (Kd.enc .fn v5) [(.pointer w1 : Value), (.pointer m2 : Value)] h fun (h6 : Heap) =>
  ld [.fn] (x4.add 2) h6 fun (v7 : Option FV) =>
  dyn0 Φ_ (Kd.enc .fn v7) [(.pointer w1 : Value), (.pointer m2 : Value)] h6 fun (h8 : Heap) =>
  Q h8
def F_message_both_3 (w1 m2 : Option Addr) (x3 x4 : Addr) (h : Heap) (Q : Heap → Prop) : Prop := F_message_both_3_of F_message_table_7 F_message_table_12 F_message_table_26 F_message_number_3 F_message_small_3 F_message_name_3 (fn1 63 E_message_table_7 (fn1 70 E_message_table_12 (fn1 89 E_message_table_26 (fn1 124 E_message_number_3 (fn1 136 E_message_small_3 (fn1 140 E_message_name_3 noFns)))))) w1 m2 x3 x4 h Q
def plan128 : Plan := .s (.r [0, 1, 3]) (.r [])
theorem F_message_both_3.eq (f63_ : Option Addr → Option Addr → Heap → (Heap → Prop) → Prop) (f70_ : Option Addr → Option Addr → Heap → (Heap → Prop) → Prop) (f89_ : Option Addr → Option Addr → Heap → (Heap → Prop) → Prop) (f124_ : Option Addr → Option Addr → Addr → Heap → (Heap → Prop) → Prop) (f136_ : Option Addr → Option Addr → Addr → Heap → (Heap → Prop) → Prop) (f140_ : Option Addr → Option Addr → Addr → Heap → (Heap → Prop) → Prop) (w1 m2 : Option Addr) (x3 x4 : Addr) (h : Heap) (K : Value → Heap → Prop) : F_message_both_3_of f63_ f70_ f89_ f124_ f136_ f140_ (fn1 63 (E_message_table_7_of f63_) (fn1 70 (E_message_table_12_of f70_) (fn1 89 (E_message_table_26_of f89_) (fn1 124 (E_message_number_3_of f124_) (fn1 136 (E_message_small_3_of f136_) (fn1 140 (E_message_name_3_of f140_) noFns)))))) w1 m2 x3 x4 h (fun  (h : Heap) => K (.tuple #[]) h) =
    den Tryz.prog (fn1 63 (E_message_table_7_of f63_) (fn1 70 (E_message_table_12_of f70_) (fn1 89 (E_message_table_26_of f89_) (fn1 124 (E_message_number_3_of f124_) (fn1 136 (E_message_small_3_of f136_) (fn1 140 (E_message_name_3_of f140_) noFns)))))) Tryz.f128.ntmps plan128 (bodyOf Tryz.f128) (args0 0 [(.pointer w1 : Value), (.pointer m2 : Value), (.pointer (some x3) : Value), (.pointer (some x4) : Value)]) h ⟨fun env h => dRes Tryz.prog Tryz.f128.results.toList env h K, fun _ _ _ => False, fun env h => dRes Tryz.prog Tryz.f128.results.toList env h K⟩ := by kernel_rfl
def E_message_both_3_of (f : Option Addr → Option Addr → Addr → Addr → Heap → (Heap → Prop) → Prop) : List Value → Heap → (Value → Heap → Prop) → Prop
  | [v0, v1, v2, v3], h, K => dec1 .ptr v0 fun (w1 : Option Addr) =>
  dec1 .ptr v1 fun (m2 : Option Addr) =>
  dec1 .addr v2 fun (x3 : Addr) =>
  dec1 .addr v3 fun (x4 : Addr) =>
  f w1 m2 x3 x4 h (fun  (h : Heap) => K (.tuple #[]) h)
  | _, _, _ => False
abbrev E_message_both_3 := E_message_both_3_of F_message_both_3
theorem E_message_both_3.at (f : Option Addr → Option Addr → Addr → Addr → Heap → (Heap → Prop) → Prop) (w1 m2 : Option Addr) (x3 x4 : Addr) (h : Heap) (K : Value → Heap → Prop) : E_message_both_3_of f [.pointer w1, .pointer m2, .pointer (some x3), .pointer (some x4)] h K = f w1 m2 x3 x4 h (fun  (h : Heap) => K (.tuple #[]) h) := rfl
theorem E_message_both_3.right : IsRight Tryz.prog 128 E_message_both_3 := by
  refine isRight fun vs K w hh => ?_
  match vs, hh with
  | [v0, v1, v2, v3], hh =>
    unfold E_message_both_3 E_message_both_3_of at hh
    replace hh := dec1_sound hh; obtain ⟨w1, rfl, hh⟩ := hh
    replace hh := dec1_sound hh; obtain ⟨m2, rfl, hh⟩ := hh
    replace hh := dec1_sound hh; obtain ⟨x3, rfl, hh⟩ := hh
    replace hh := dec1_sound hh; obtain ⟨x4, rfl, hh⟩ := hh
    unfold F_message_both_3 at hh
    exact calls_den (fn1_right ok63 E_message_table_7.right (fn1_right ok70 E_message_table_12.right (fn1_right ok89 E_message_table_26.right (fn1_right ok124 E_message_number_3.right (fn1_right ok136 E_message_small_3.right (fn1_right ok140 E_message_name_3.right noFns_right)))))) plan128 _ w K Tryz.func128 (by kernel_rfl) (by kernel_rfl) (Eq.mp (F_message_both_3.eq F_message_table_7 F_message_table_12 F_message_table_26 F_message_number_3 F_message_small_3 F_message_name_3 w1 m2 x3 x4 w.heap K) hh)
theorem ok128 : okFn Tryz.prog 128 = true := by kernel_rfl
end Go.Proofs.YthiginhigfieiaaGreatDoor.V
namespace Go.Proofs.YthiginhigfieiaaGreatDoor.V
open Go Go.RowKit
set_option linter.unusedVariables false
set_option maxRecDepth 100000
def F_message_Encode.l1 (f31_ : Option Addr → Int → Heap → (Heap → Prop) → Prop) (r27 : Option Addr) (a33 : Addr) (j35 : Heap → Prop) : Int → Heap → Prop :=
  wl [(30, .one (.int .i64))] (fun (next36 : Int → Heap → Prop) (x37 : Int) (h38 : Heap) =>
  brr (decide (x37 < ((4 : Nat) : Int)))
  (ixS 1 ⟨(some a33), 4, 4⟩ x37 fun (a39 : Addr) =>
  ld [.int .i64] a39 h38 fun (v40 : Int) =>
  f31_ r27 (IntKind.u8.wrap v40) h38 fun  (h41 : Heap) =>
  next36 (IntKind.i64.wrap (x37 + 1)) h41)
  (j35 h38))
def F_message_Encode.l2 (Φ_ : Fns) (a23 : Addr) (r27 : Option Addr) (a108 : Addr) (v113 : Sl) (j114 : Heap → Prop) : Int → Heap → Prop :=
  wl [(46, .one (.int .i64))] (fun (next115 : Int → Heap → Prop) (x116 : Int) (h117 : Heap) =>
  brr (decide (x116 < ((v113.len : Nat) : Int)))
  (ixS 1 v113 x116 fun (a118 : Addr) =>
  ld [.int .i64] a118 h117 fun (v119 : Int) =>
  ixA 4 a108 16 v119 fun (a120 : Addr) =>
  ld [.fn] (a120.add 2) h117 fun (v121 : Option FV) =>
  dyn0 Φ_ (Kd.enc .fn v121) [(.pointer r27 : Value), (.pointer (some a23) : Value)] h117 fun (h122 : Heap) =>
  next115 (IntKind.i64.wrap (x116 + 1)) h122)
  (j114 h117))
def F_message_Encode_of (f29_ : Option Addr → Heap → (Int → Heap → Prop) → Prop) (f30_ : Heap → (Option Addr → Heap → Prop) → Prop) (f31_ : Option Addr → Int → Heap → (Heap → Prop) → Prop) (f32_ : Heap → (Option FV → Option FV → Option FV → Option FV → Option FV → Option FV → Option FV → Option FV → Option FV → Option FV → Option FV → Option FV → Option FV → Option FV → Option FV → Option FV → Option FV → Option FV → Option FV → Option FV → Option FV → Option FV → Option FV → Option FV → Option FV → Option FV → Option FV → Option FV → Option FV → Option FV → Option FV → Option FV → Option FV → Option FV → Option FV → Option FV → Option FV → Option FV → Option FV → Option FV → Option FV → Option FV → Option FV → Option FV → Option FV → Option FV → Option FV → Option FV → Option FV → Option FV → Option FV → Option FV → Option FV → Option FV → Option FV → Option FV → Option FV → Option FV → Option FV → Option FV → Option FV → Option FV → Option FV → Option FV → Heap → Prop) → Prop) (f33_ : Option Addr → Int → Heap → (Heap → Prop) → Prop) (f34_ : Sl → Heap → (Int → Heap → Prop) → Prop) (f35_ : Option Addr → Heap → (Sl → Heap → Prop) → Prop) (f63_ : Option Addr → Option Addr → Heap → (Heap → Prop) → Prop) (f70_ : Option Addr → Option Addr → Heap → (Heap → Prop) → Prop) (f89_ : Option Addr → Option Addr → Heap → (Heap → Prop) → Prop) (f124_ : Option Addr → Option Addr → Addr → Heap → (Heap → Prop) → Prop) (f128_ : Option Addr → Option Addr → Addr → Addr → Heap → (Heap → Prop) → Prop) (f136_ : Option Addr → Option Addr → Addr → Heap → (Heap → Prop) → Prop) (f140_ : Option Addr → Option Addr → Addr → Heap → (Heap → Prop) → Prop) (Φ_ : Fns) (m1 m2 m3 m4 m5 m6 m7 m8 m9 m10 : Int) (m11 : Sl) (m12 m13 : Int) (m14 m15 : ByteArray) (m16 m17 m18 m19 m20 m21 m22 : Int) (h : Heap) (Q : Sl → Int → Heap → Prop) : Prop :=
  al 52 [.int .i64 m1, .int .i64 m2, .int .i64 m3, .int .i64 m4, .int .u64 m5, .int .u64 m6, .int .u64 m7, .int .u64 m8, .int .i64 m9, .int .u64 m10, .slice m11.ptr m11.len m11.cap, .int .i64 m12, .int .u64 m13, .string m14, .string m15, .int .u64 m16, .int .u64 m17, .int .u64 m18, .int .i64 m19, .int .i64 m20, .int .i64 m21, .int .i64 m22] h fun (a23 : Addr) (h24 : Heap) =>
  f29_ (some a23) h24 fun (r25 : Int) (h26 : Heap) =>
  brr (r25 != 0)
  (Q (⟨none, 0, 0⟩ : Sl) r25 h26)
  (f30_ h26 fun (r27 : Option Addr) (h28 : Heap) =>
  ld [.int .i64] ((a23.add 0).add 0) h28 fun (v29 : Int) =>
  ld [.int .i64] ((a23.add 0).add 1) h28 fun (v30 : Int) =>
  ld [.int .i64] ((a23.add 0).add 2) h28 fun (v31 : Int) =>
  ld [.int .i64] ((a23.add 0).add 3) h28 fun (v32 : Int) =>
  al 3 [.int .i64 v29, .int .i64 v30, .int .i64 v31, .int .i64 v32] h28 fun (a33 : Addr) (h34 : Heap) =>
  jn [] (fun  (h42 : Heap) =>
  f32_ h42 fun (r43 r44 r45 r46 r47 r48 r49 r50 r51 r52 r53 r54 r55 r56 r57 r58 r59 r60 r61 r62 r63 r64 r65 r66 r67 r68 r69 r70 r71 r72 r73 r74 r75 r76 r77 r78 r79 r80 r81 r82 r83 r84 r85 r86 r87 r88 r89 r90 r91 r92 r93 r94 r95 r96 r97 r98 r99 r100 r101 r102 r103 r104 r105 r106 : Option FV) (h107 : Heap) =>
  al 90 (.nilFunc :: .nilFunc :: .nilFunc :: .nilFunc :: .nilFunc :: .nilFunc :: .nilFunc :: .nilFunc :: .nilFunc :: .nilFunc :: .nilFunc :: .nilFunc :: .nilFunc :: .nilFunc :: .nilFunc :: .nilFunc :: .nilFunc :: .nilFunc :: .nilFunc :: .nilFunc :: .nilFunc :: .nilFunc :: .nilFunc :: .nilFunc :: .nilFunc :: .nilFunc :: .nilFunc :: .nilFunc :: .nilFunc :: .nilFunc :: .nilFunc :: .nilFunc :: .nilFunc :: .nilFunc :: .nilFunc :: .nilFunc :: .nilFunc :: .nilFunc :: .nilFunc :: .nilFunc :: .nilFunc :: .nilFunc :: .nilFunc :: .nilFunc :: .nilFunc :: .nilFunc :: .nilFunc :: .nilFunc :: .nilFunc :: .nilFunc :: .nilFunc :: .nilFunc :: .nilFunc :: .nilFunc :: .nilFunc :: .nilFunc :: .nilFunc :: .nilFunc :: .nilFunc :: .nilFunc :: .nilFunc :: .nilFunc :: .nilFunc :: .nilFunc :: []) h107 fun (a108 : Addr) (h109 : Heap) =>
  st a108 ((Kd.enc .fn r43) :: (Kd.enc .fn r44) :: (Kd.enc .fn r45) :: (Kd.enc .fn r46) :: (Kd.enc .fn r47) :: (Kd.enc .fn r48) :: (Kd.enc .fn r49) :: (Kd.enc .fn r50) :: (Kd.enc .fn r51) :: (Kd.enc .fn r52) :: (Kd.enc .fn r53) :: (Kd.enc .fn r54) :: (Kd.enc .fn r55) :: (Kd.enc .fn r56) :: (Kd.enc .fn r57) :: (Kd.enc .fn r58) :: (Kd.enc .fn r59) :: (Kd.enc .fn r60) :: (Kd.enc .fn r61) :: (Kd.enc .fn r62) :: (Kd.enc .fn r63) :: (Kd.enc .fn r64) :: (Kd.enc .fn r65) :: (Kd.enc .fn r66) :: (Kd.enc .fn r67) :: (Kd.enc .fn r68) :: (Kd.enc .fn r69) :: (Kd.enc .fn r70) :: (Kd.enc .fn r71) :: (Kd.enc .fn r72) :: (Kd.enc .fn r73) :: (Kd.enc .fn r74) :: (Kd.enc .fn r75) :: (Kd.enc .fn r76) :: (Kd.enc .fn r77) :: (Kd.enc .fn r78) :: (Kd.enc .fn r79) :: (Kd.enc .fn r80) :: (Kd.enc .fn r81) :: (Kd.enc .fn r82) :: (Kd.enc .fn r83) :: (Kd.enc .fn r84) :: (Kd.enc .fn r85) :: (Kd.enc .fn r86) :: (Kd.enc .fn r87) :: (Kd.enc .fn r88) :: (Kd.enc .fn r89) :: (Kd.enc .fn r90) :: (Kd.enc .fn r91) :: (Kd.enc .fn r92) :: (Kd.enc .fn r93) :: (Kd.enc .fn r94) :: (Kd.enc .fn r95) :: (Kd.enc .fn r96) :: (Kd.enc .fn r97) :: (Kd.enc .fn r98) :: (Kd.enc .fn r99) :: (Kd.enc .fn r100) :: (Kd.enc .fn r101) :: (Kd.enc .fn r102) :: (Kd.enc .fn r103) :: (Kd.enc .fn r104) :: (Kd.enc .fn r105) :: (Kd.enc .fn r106) :: []) h109 fun (h110 : Heap) =>
  ld [.int .i64] ((a23.add 0).add 0) h110 fun (v111 : Int) =>
  ixA 1 (Addr.mk 0 0 none) 12 v111 fun (a112 : Addr) =>
  ld [.sl] a112 h110 fun (v113 : Sl) =>
  jn [] (fun  (h123 : Heap) =>
  f35_ r27 h123 fun (r124 : Sl) (h125 : Heap) =>
  f34_ r124 h125 fun (r126 : Int) (h127 : Heap) =>
  f33_ r27 r126 h127 fun  (h128 : Heap) =>
  f35_ r27 h128 fun (r129 : Sl) (h130 : Heap) =>
  Q r129 0 h130) (fun (j114 : Heap → Prop) =>
  F_message_Encode.l2 Φ_ a23 r27 a108 v113 j114 0 h110)) (fun (j35 : Heap → Prop) =>
  F_message_Encode.l1 f31_ r27 a33 j35 0 h34))
def F_message_Encode (m1 m2 m3 m4 m5 m6 m7 m8 m9 m10 : Int) (m11 : Sl) (m12 m13 : Int) (m14 m15 : ByteArray) (m16 m17 m18 m19 m20 m21 m22 : Int) (h : Heap) (Q : Sl → Int → Heap → Prop) : Prop := F_message_Encode_of F_message_wrong F_code_New F_code_Writer_U8 F_message_table F_code_Writer_U32 F_code_Sum F_code_Writer_Out F_message_table_7 F_message_table_12 F_message_table_26 F_message_number_3 F_message_both_3 F_message_small_3 F_message_name_3 (fn1 29 E_message_wrong (fn1 30 E_code_New (fn1 31 E_code_Writer_U8 (fn1 32 E_message_table (fn1 33 E_code_Writer_U32 (fn1 34 E_code_Sum (fn1 35 E_code_Writer_Out (fn1 63 E_message_table_7 (fn1 70 E_message_table_12 (fn1 89 E_message_table_26 (fn1 124 E_message_number_3 (fn1 128 E_message_both_3 (fn1 136 E_message_small_3 (fn1 140 E_message_name_3 noFns)))))))))))))) m1 m2 m3 m4 m5 m6 m7 m8 m9 m10 m11 m12 m13 m14 m15 m16 m17 m18 m19 m20 m21 m22 h Q
def plan9 : Plan := .s (.r [1]) (.s (.s (.r [1, 4]) (.s (.r [1, 4, 13]) (.c (.s (.r [2, 3]) .z) .z))) (.s (.r [1, 5]) (.s (.s (.r [1, 5, 28, 29, 30]) (.bj [] [1, 5] (.l [(30, .one (.int .i64))] [1, 5, 28, 29] (.s (.r [1, 5, 28, 29, 30, 31]) (.s (.c .z .z) (.s (.b (.s (.r [1, 5, 7, 28, 29, 30]) (.r [1, 5, 28, 29, 30]))) (.r [1, 5, 28, 29, 30]))))))) (.s (.r [1, 5, 8]) (.s (.s (.r [1, 5, 8, 44, 45, 46]) (.bj [] [5] (.l [(46, .one (.int .i64))] [1, 5, 8, 44, 45] (.s (.r [1, 5, 8, 44, 45, 46, 47]) (.s (.c .z .z) (.s (.b (.s (.r [1, 5, 8, 10, 44, 45, 46]) (.r [1, 5, 8, 44, 45, 46]))) (.r [1, 5, 8, 44, 45, 46]))))))) (.s (.r [5]) (.s (.r [2, 3]) .z)))))))
theorem F_message_Encode.eq (f29_ : Option Addr → Heap → (Int → Heap → Prop) → Prop) (f30_ : Heap → (Option Addr → Heap → Prop) → Prop) (f31_ : Option Addr → Int → Heap → (Heap → Prop) → Prop) (f32_ : Heap → (Option FV → Option FV → Option FV → Option FV → Option FV → Option FV → Option FV → Option FV → Option FV → Option FV → Option FV → Option FV → Option FV → Option FV → Option FV → Option FV → Option FV → Option FV → Option FV → Option FV → Option FV → Option FV → Option FV → Option FV → Option FV → Option FV → Option FV → Option FV → Option FV → Option FV → Option FV → Option FV → Option FV → Option FV → Option FV → Option FV → Option FV → Option FV → Option FV → Option FV → Option FV → Option FV → Option FV → Option FV → Option FV → Option FV → Option FV → Option FV → Option FV → Option FV → Option FV → Option FV → Option FV → Option FV → Option FV → Option FV → Option FV → Option FV → Option FV → Option FV → Option FV → Option FV → Option FV → Option FV → Heap → Prop) → Prop) (f33_ : Option Addr → Int → Heap → (Heap → Prop) → Prop) (f34_ : Sl → Heap → (Int → Heap → Prop) → Prop) (f35_ : Option Addr → Heap → (Sl → Heap → Prop) → Prop) (f63_ : Option Addr → Option Addr → Heap → (Heap → Prop) → Prop) (f70_ : Option Addr → Option Addr → Heap → (Heap → Prop) → Prop) (f89_ : Option Addr → Option Addr → Heap → (Heap → Prop) → Prop) (f124_ : Option Addr → Option Addr → Addr → Heap → (Heap → Prop) → Prop) (f128_ : Option Addr → Option Addr → Addr → Addr → Heap → (Heap → Prop) → Prop) (f136_ : Option Addr → Option Addr → Addr → Heap → (Heap → Prop) → Prop) (f140_ : Option Addr → Option Addr → Addr → Heap → (Heap → Prop) → Prop) (m1 m2 m3 m4 m5 m6 m7 m8 m9 m10 : Int) (m11 : Sl) (m12 m13 : Int) (m14 m15 : ByteArray) (m16 m17 m18 m19 m20 m21 m22 : Int) (h : Heap) (K : Value → Heap → Prop) : F_message_Encode_of f29_ f30_ f31_ f32_ f33_ f34_ f35_ f63_ f70_ f89_ f124_ f128_ f136_ f140_ (fn1 29 (E_message_wrong_of f29_) (fn1 30 (E_code_New_of f30_) (fn1 31 (E_code_Writer_U8_of f31_) (fn1 32 (E_message_table_of f32_) (fn1 33 (E_code_Writer_U32_of f33_) (fn1 34 (E_code_Sum_of f34_) (fn1 35 (E_code_Writer_Out_of f35_) (fn1 63 (E_message_table_7_of f63_) (fn1 70 (E_message_table_12_of f70_) (fn1 89 (E_message_table_26_of f89_) (fn1 124 (E_message_number_3_of f124_) (fn1 128 (E_message_both_3_of f128_) (fn1 136 (E_message_small_3_of f136_) (fn1 140 (E_message_name_3_of f140_) noFns)))))))))))))) m1 m2 m3 m4 m5 m6 m7 m8 m9 m10 m11 m12 m13 m14 m15 m16 m17 m18 m19 m20 m21 m22 h (fun (r0 : Sl) (r1 : Int) (h : Heap) => K (.tuple #[.slice r0.ptr r0.len r0.cap, .int .i64 r1]) h) =
    den Tryz.prog (fn1 29 (E_message_wrong_of f29_) (fn1 30 (E_code_New_of f30_) (fn1 31 (E_code_Writer_U8_of f31_) (fn1 32 (E_message_table_of f32_) (fn1 33 (E_code_Writer_U32_of f33_) (fn1 34 (E_code_Sum_of f34_) (fn1 35 (E_code_Writer_Out_of f35_) (fn1 63 (E_message_table_7_of f63_) (fn1 70 (E_message_table_12_of f70_) (fn1 89 (E_message_table_26_of f89_) (fn1 124 (E_message_number_3_of f124_) (fn1 128 (E_message_both_3_of f128_) (fn1 136 (E_message_small_3_of f136_) (fn1 140 (E_message_name_3_of f140_) noFns)))))))))))))) Tryz.f9.ntmps plan9 (bodyOf Tryz.f9) (args0 0 [(.agg #[.int .i64 m1, .int .i64 m2, .int .i64 m3, .int .i64 m4, .int .u64 m5, .int .u64 m6, .int .u64 m7, .int .u64 m8, .int .i64 m9, .int .u64 m10, .slice m11.ptr m11.len m11.cap, .int .i64 m12, .int .u64 m13, .string m14, .string m15, .int .u64 m16, .int .u64 m17, .int .u64 m18, .int .i64 m19, .int .i64 m20, .int .i64 m21, .int .i64 m22] : Value)]) h ⟨fun env h => dRes Tryz.prog Tryz.f9.results.toList env h K, fun _ _ _ => False, fun env h => dRes Tryz.prog Tryz.f9.results.toList env h K⟩ := by kernel_rfl
def E_message_Encode_of (f : Int → Int → Int → Int → Int → Int → Int → Int → Int → Int → Sl → Int → Int → ByteArray → ByteArray → Int → Int → Int → Int → Int → Int → Int → Heap → (Sl → Int → Heap → Prop) → Prop) : List Value → Heap → (Value → Heap → Prop) → Prop
  | [v0], h, K => vAgg v0 fun cs0 => decs [.int .i64, .int .i64, .int .i64, .int .i64, .int .u64, .int .u64, .int .u64, .int .u64, .int .i64, .int .u64, .sl, .int .i64, .int .u64, .str, .str, .int .u64, .int .u64, .int .u64, .int .i64, .int .i64, .int .i64, .int .i64] cs0.toList fun (m1 m2 m3 m4 m5 m6 m7 m8 m9 m10 : Int) (m11 : Sl) (m12 m13 : Int) (m14 m15 : ByteArray) (m16 m17 m18 m19 m20 m21 m22 : Int) =>
  f m1 m2 m3 m4 m5 m6 m7 m8 m9 m10 m11 m12 m13 m14 m15 m16 m17 m18 m19 m20 m21 m22 h (fun (r0 : Sl) (r1 : Int) (h : Heap) => K (.tuple #[.slice r0.ptr r0.len r0.cap, .int .i64 r1]) h)
  | _, _, _ => False
abbrev E_message_Encode := E_message_Encode_of F_message_Encode
theorem E_message_Encode.right : IsRight Tryz.prog 9 E_message_Encode := by
  refine isRight fun vs K w hh => ?_
  match vs, hh with
  | [v0], hh =>
    unfold E_message_Encode E_message_Encode_of at hh
    replace hh := vAgg_sound hh; obtain ⟨cs0, rfl, hh⟩ := hh
    replace hh := decs_cons hh; obtain ⟨m1, l0_0, e0_0, hh⟩ := hh
    replace hh := decs_cons hh; obtain ⟨m2, l0_1, e0_1, hh⟩ := hh
    replace hh := decs_cons hh; obtain ⟨m3, l0_2, e0_2, hh⟩ := hh
    replace hh := decs_cons hh; obtain ⟨m4, l0_3, e0_3, hh⟩ := hh
    replace hh := decs_cons hh; obtain ⟨m5, l0_4, e0_4, hh⟩ := hh
    replace hh := decs_cons hh; obtain ⟨m6, l0_5, e0_5, hh⟩ := hh
    replace hh := decs_cons hh; obtain ⟨m7, l0_6, e0_6, hh⟩ := hh
    replace hh := decs_cons hh; obtain ⟨m8, l0_7, e0_7, hh⟩ := hh
    replace hh := decs_cons hh; obtain ⟨m9, l0_8, e0_8, hh⟩ := hh
    replace hh := decs_cons hh; obtain ⟨m10, l0_9, e0_9, hh⟩ := hh
    replace hh := decs_cons hh; obtain ⟨m11, l0_10, e0_10, hh⟩ := hh
    replace hh := decs_cons hh; obtain ⟨m12, l0_11, e0_11, hh⟩ := hh
    replace hh := decs_cons hh; obtain ⟨m13, l0_12, e0_12, hh⟩ := hh
    replace hh := decs_cons hh; obtain ⟨m14, l0_13, e0_13, hh⟩ := hh
    replace hh := decs_cons hh; obtain ⟨m15, l0_14, e0_14, hh⟩ := hh
    replace hh := decs_cons hh; obtain ⟨m16, l0_15, e0_15, hh⟩ := hh
    replace hh := decs_cons hh; obtain ⟨m17, l0_16, e0_16, hh⟩ := hh
    replace hh := decs_cons hh; obtain ⟨m18, l0_17, e0_17, hh⟩ := hh
    replace hh := decs_cons hh; obtain ⟨m19, l0_18, e0_18, hh⟩ := hh
    replace hh := decs_cons hh; obtain ⟨m20, l0_19, e0_19, hh⟩ := hh
    replace hh := decs_cons hh; obtain ⟨m21, l0_20, e0_20, hh⟩ := hh
    replace hh := decs_cons hh; obtain ⟨m22, l0_21, e0_21, hh⟩ := hh
    replace hh := decs_nil hh; obtain ⟨rfl, hh⟩ := hh
    subst e0_21
    subst e0_20
    subst e0_19
    subst e0_18
    subst e0_17
    subst e0_16
    subst e0_15
    subst e0_14
    subst e0_13
    subst e0_12
    subst e0_11
    subst e0_10
    subst e0_9
    subst e0_8
    subst e0_7
    subst e0_6
    subst e0_5
    subst e0_4
    subst e0_3
    subst e0_2
    subst e0_1
    have ec0 := toArray_eq e0_0
    subst ec0
    unfold F_message_Encode at hh
    exact calls_den (fn1_right ok29 E_message_wrong.right (fn1_right ok30 E_code_New.right (fn1_right ok31 E_code_Writer_U8.right (fn1_right ok32 E_message_table.right (fn1_right ok33 E_code_Writer_U32.right (fn1_right ok34 E_code_Sum.right (fn1_right ok35 E_code_Writer_Out.right (fn1_right ok63 E_message_table_7.right (fn1_right ok70 E_message_table_12.right (fn1_right ok89 E_message_table_26.right (fn1_right ok124 E_message_number_3.right (fn1_right ok128 E_message_both_3.right (fn1_right ok136 E_message_small_3.right (fn1_right ok140 E_message_name_3.right noFns_right)))))))))))))) plan9 _ w K Tryz.func9 (by kernel_rfl) (by kernel_rfl) (Eq.mp (F_message_Encode.eq F_message_wrong F_code_New F_code_Writer_U8 F_message_table F_code_Writer_U32 F_code_Sum F_code_Writer_Out F_message_table_7 F_message_table_12 F_message_table_26 F_message_number_3 F_message_both_3 F_message_small_3 F_message_name_3 m1 m2 m3 m4 m5 m6 m7 m8 m9 m10 m11 m12 m13 m14 m15 m16 m17 m18 m19 m20 m21 m22 w.heap K) hh)
theorem ok9 : okFn Tryz.prog 9 = true := by kernel_rfl
end Go.Proofs.YthiginhigfieiaaGreatDoor.V
namespace Go.Proofs.YthiginhigfieiaaGreatDoor.V
open Go Go.RowKit
set_option linter.unusedVariables false
set_option maxRecDepth 100000
def F_message_number_4_of (f56_ : Option Addr → Heap → (Option Addr → Heap → Prop) → Prop) (f58_ : Option Addr → Heap → (Option Addr → Heap → Prop) → Prop) (f59_ : Option Addr → Heap → (Option Addr → Heap → Prop) → Prop) (f60_ : Option Addr → Heap → (Option Addr → Heap → Prop) → Prop) (f66_ : Option Addr → Int → Heap → (Int → Heap → Prop) → Prop) (f67_ : Option Addr → Heap → (Option Addr → Heap → Prop) → Prop) (f77_ : Option Addr → Heap → (Option Addr → Heap → Prop) → Prop) (f81_ : Option Addr → Heap → (Option Addr → Heap → Prop) → Prop) (f82_ : Option Addr → Heap → (Option Addr → Heap → Prop) → Prop) (f83_ : Option Addr → Heap → (Option Addr → Heap → Prop) → Prop) (Φ_ : Fns) (r1 m2 : Option Addr) (x3 x4 : Addr) (h : Heap) (Q : Heap → Prop) : Prop :=
  ld [.fn] x4 h fun (v5 : Option FV) =>
  ld [.int .u64] x3 h fun (v6 : Int) =>
  dyn1 .ptr Φ_ (Kd.enc .fn v5) [(.pointer m2 : Value)] h fun (r8 : Option Addr) (h7 : Heap) =>
  cellsAre h7 x3 [.int .u64 v6] ∧
  f66_ r1 v6 h7 fun (r9 : Int) (h10 : Heap) =>
  nn r8 fun (a11 : Addr) =>
  st a11 [.int .u64 r9] h10 fun (h12 : Heap) =>
  Q h12
def F_message_number_4 (r1 m2 : Option Addr) (x3 x4 : Addr) (h : Heap) (Q : Heap → Prop) : Prop := F_message_number_4_of F_message_table_1 F_message_table_2 F_message_table_3 F_message_table_4 F_code_Reader_Var F_message_table_9 F_message_table_15 F_message_table_18 F_message_table_19 F_message_table_20 (fn1 56 E_message_table_1 (fn1 58 E_message_table_2 (fn1 59 E_message_table_3 (fn1 60 E_message_table_4 (fn1 66 E_code_Reader_Var (fn1 67 E_message_table_9 (fn1 77 E_message_table_15 (fn1 81 E_message_table_18 (fn1 82 E_message_table_19 (fn1 83 E_message_table_20 noFns)))))))))) r1 m2 x3 x4 h Q
def plan125 : Plan := .d [0, 0, 3, 0, 0, 31, 63, 127] [[0, 1, 3, 4, 2, 5, 6, 7]] []
theorem F_message_number_4.eq (f56_ : Option Addr → Heap → (Option Addr → Heap → Prop) → Prop) (f58_ : Option Addr → Heap → (Option Addr → Heap → Prop) → Prop) (f59_ : Option Addr → Heap → (Option Addr → Heap → Prop) → Prop) (f60_ : Option Addr → Heap → (Option Addr → Heap → Prop) → Prop) (f66_ : Option Addr → Int → Heap → (Int → Heap → Prop) → Prop) (f67_ : Option Addr → Heap → (Option Addr → Heap → Prop) → Prop) (f77_ : Option Addr → Heap → (Option Addr → Heap → Prop) → Prop) (f81_ : Option Addr → Heap → (Option Addr → Heap → Prop) → Prop) (f82_ : Option Addr → Heap → (Option Addr → Heap → Prop) → Prop) (f83_ : Option Addr → Heap → (Option Addr → Heap → Prop) → Prop) (r1 m2 : Option Addr) (x3 x4 : Addr) (h : Heap) (K : Value → Heap → Prop) : F_message_number_4_of f56_ f58_ f59_ f60_ f66_ f67_ f77_ f81_ f82_ f83_ (fn1 56 (E_message_table_1_of f56_) (fn1 58 (E_message_table_2_of f58_) (fn1 59 (E_message_table_3_of f59_) (fn1 60 (E_message_table_4_of f60_) (fn1 66 (E_code_Reader_Var_of f66_) (fn1 67 (E_message_table_9_of f67_) (fn1 77 (E_message_table_15_of f77_) (fn1 81 (E_message_table_18_of f81_) (fn1 82 (E_message_table_19_of f82_) (fn1 83 (E_message_table_20_of f83_) noFns)))))))))) r1 m2 x3 x4 h (fun  (h : Heap) => K (.tuple #[]) h) =
    den Tryz.prog (fn1 56 (E_message_table_1_of f56_) (fn1 58 (E_message_table_2_of f58_) (fn1 59 (E_message_table_3_of f59_) (fn1 60 (E_message_table_4_of f60_) (fn1 66 (E_code_Reader_Var_of f66_) (fn1 67 (E_message_table_9_of f67_) (fn1 77 (E_message_table_15_of f77_) (fn1 81 (E_message_table_18_of f81_) (fn1 82 (E_message_table_19_of f82_) (fn1 83 (E_message_table_20_of f83_) noFns)))))))))) Tryz.f125.ntmps plan125 (bodyOf Tryz.f125) (args0 0 [(.pointer r1 : Value), (.pointer m2 : Value), (.pointer (some x3) : Value), (.pointer (some x4) : Value)]) h ⟨fun env h => dRes Tryz.prog Tryz.f125.results.toList env h K, fun _ _ _ => False, fun env h => dRes Tryz.prog Tryz.f125.results.toList env h K⟩ := by kernel_rfl
def E_message_number_4_of (f : Option Addr → Option Addr → Addr → Addr → Heap → (Heap → Prop) → Prop) : List Value → Heap → (Value → Heap → Prop) → Prop
  | [v0, v1, v2, v3], h, K => dec1 .ptr v0 fun (r1 : Option Addr) =>
  dec1 .ptr v1 fun (m2 : Option Addr) =>
  dec1 .addr v2 fun (x3 : Addr) =>
  dec1 .addr v3 fun (x4 : Addr) =>
  f r1 m2 x3 x4 h (fun  (h : Heap) => K (.tuple #[]) h)
  | _, _, _ => False
abbrev E_message_number_4 := E_message_number_4_of F_message_number_4
theorem E_message_number_4.at (f : Option Addr → Option Addr → Addr → Addr → Heap → (Heap → Prop) → Prop) (r1 m2 : Option Addr) (x3 x4 : Addr) (h : Heap) (K : Value → Heap → Prop) : E_message_number_4_of f [.pointer r1, .pointer m2, .pointer (some x3), .pointer (some x4)] h K = f r1 m2 x3 x4 h (fun  (h : Heap) => K (.tuple #[]) h) := rfl
theorem E_message_number_4.right : IsRight Tryz.prog 125 E_message_number_4 := by
  refine isRight fun vs K w hh => ?_
  match vs, hh with
  | [v0, v1, v2, v3], hh =>
    unfold E_message_number_4 E_message_number_4_of at hh
    replace hh := dec1_sound hh; obtain ⟨r1, rfl, hh⟩ := hh
    replace hh := dec1_sound hh; obtain ⟨m2, rfl, hh⟩ := hh
    replace hh := dec1_sound hh; obtain ⟨x3, rfl, hh⟩ := hh
    replace hh := dec1_sound hh; obtain ⟨x4, rfl, hh⟩ := hh
    unfold F_message_number_4 at hh
    exact calls_den (fn1_right ok56 E_message_table_1.right (fn1_right ok58 E_message_table_2.right (fn1_right ok59 E_message_table_3.right (fn1_right ok60 E_message_table_4.right (fn1_right ok66 E_code_Reader_Var.right (fn1_right ok67 E_message_table_9.right (fn1_right ok77 E_message_table_15.right (fn1_right ok81 E_message_table_18.right (fn1_right ok82 E_message_table_19.right (fn1_right ok83 E_message_table_20.right noFns_right)))))))))) plan125 _ w K Tryz.func125 (by kernel_rfl) (by kernel_rfl) (Eq.mp (F_message_number_4.eq F_message_table_1 F_message_table_2 F_message_table_3 F_message_table_4 F_code_Reader_Var F_message_table_9 F_message_table_15 F_message_table_18 F_message_table_19 F_message_table_20 r1 m2 x3 x4 w.heap K) hh)
theorem ok125 : okFn Tryz.prog 125 = true := by kernel_rfl
end Go.Proofs.YthiginhigfieiaaGreatDoor.V
namespace Go.Proofs.YthiginhigfieiaaGreatDoor.V
open Go Go.RowKit
set_option linter.unusedVariables false
set_option maxRecDepth 100000
def F_message_small_4_of (f44_ : Option Addr → Heap → (Int → Heap → Prop) → Prop) (f76_ : Option Addr → Heap → (Option Addr → Heap → Prop) → Prop) (f84_ : Option Addr → Heap → (Option Addr → Heap → Prop) → Prop) (f85_ : Option Addr → Heap → (Option Addr → Heap → Prop) → Prop) (f86_ : Option Addr → Heap → (Option Addr → Heap → Prop) → Prop) (Φ_ : Fns) (r1 m2 : Option Addr) (x3 : Addr) (h : Heap) (Q : Heap → Prop) : Prop :=
  ld [.fn] x3 h fun (v4 : Option FV) =>
  dyn1 .ptr Φ_ (Kd.enc .fn v4) [(.pointer m2 : Value)] h fun (r6 : Option Addr) (h5 : Heap) =>
  f44_ r1 h5 fun (r7 : Int) (h8 : Heap) =>
  nn r6 fun (a9 : Addr) =>
  st a9 [.int .i64 (IntKind.i64.wrap r7)] h8 fun (h10 : Heap) =>
  Q h10
def F_message_small_4 (r1 m2 : Option Addr) (x3 : Addr) (h : Heap) (Q : Heap → Prop) : Prop := F_message_small_4_of F_code_Reader_U8 F_message_table_14 F_message_table_21 F_message_table_22 F_message_table_23 (fn1 44 E_code_Reader_U8 (fn1 76 E_message_table_14 (fn1 84 E_message_table_21 (fn1 85 E_message_table_22 (fn1 86 E_message_table_23 noFns))))) r1 m2 x3 h Q
def plan137 : Plan := .r []
theorem F_message_small_4.eq (f44_ : Option Addr → Heap → (Int → Heap → Prop) → Prop) (f76_ : Option Addr → Heap → (Option Addr → Heap → Prop) → Prop) (f84_ : Option Addr → Heap → (Option Addr → Heap → Prop) → Prop) (f85_ : Option Addr → Heap → (Option Addr → Heap → Prop) → Prop) (f86_ : Option Addr → Heap → (Option Addr → Heap → Prop) → Prop) (r1 m2 : Option Addr) (x3 : Addr) (h : Heap) (K : Value → Heap → Prop) : F_message_small_4_of f44_ f76_ f84_ f85_ f86_ (fn1 44 (E_code_Reader_U8_of f44_) (fn1 76 (E_message_table_14_of f76_) (fn1 84 (E_message_table_21_of f84_) (fn1 85 (E_message_table_22_of f85_) (fn1 86 (E_message_table_23_of f86_) noFns))))) r1 m2 x3 h (fun  (h : Heap) => K (.tuple #[]) h) =
    den Tryz.prog (fn1 44 (E_code_Reader_U8_of f44_) (fn1 76 (E_message_table_14_of f76_) (fn1 84 (E_message_table_21_of f84_) (fn1 85 (E_message_table_22_of f85_) (fn1 86 (E_message_table_23_of f86_) noFns))))) Tryz.f137.ntmps plan137 (bodyOf Tryz.f137) (args0 0 [(.pointer r1 : Value), (.pointer m2 : Value), (.pointer (some x3) : Value)]) h ⟨fun env h => dRes Tryz.prog Tryz.f137.results.toList env h K, fun _ _ _ => False, fun env h => dRes Tryz.prog Tryz.f137.results.toList env h K⟩ := by kernel_rfl
def E_message_small_4_of (f : Option Addr → Option Addr → Addr → Heap → (Heap → Prop) → Prop) : List Value → Heap → (Value → Heap → Prop) → Prop
  | [v0, v1, v2], h, K => dec1 .ptr v0 fun (r1 : Option Addr) =>
  dec1 .ptr v1 fun (m2 : Option Addr) =>
  dec1 .addr v2 fun (x3 : Addr) =>
  f r1 m2 x3 h (fun  (h : Heap) => K (.tuple #[]) h)
  | _, _, _ => False
abbrev E_message_small_4 := E_message_small_4_of F_message_small_4
theorem E_message_small_4.at (f : Option Addr → Option Addr → Addr → Heap → (Heap → Prop) → Prop) (r1 m2 : Option Addr) (x3 : Addr) (h : Heap) (K : Value → Heap → Prop) : E_message_small_4_of f [.pointer r1, .pointer m2, .pointer (some x3)] h K = f r1 m2 x3 h (fun  (h : Heap) => K (.tuple #[]) h) := rfl
theorem E_message_small_4.right : IsRight Tryz.prog 137 E_message_small_4 := by
  refine isRight fun vs K w hh => ?_
  match vs, hh with
  | [v0, v1, v2], hh =>
    unfold E_message_small_4 E_message_small_4_of at hh
    replace hh := dec1_sound hh; obtain ⟨r1, rfl, hh⟩ := hh
    replace hh := dec1_sound hh; obtain ⟨m2, rfl, hh⟩ := hh
    replace hh := dec1_sound hh; obtain ⟨x3, rfl, hh⟩ := hh
    unfold F_message_small_4 at hh
    exact calls_den (fn1_right ok44 E_code_Reader_U8.right (fn1_right ok76 E_message_table_14.right (fn1_right ok84 E_message_table_21.right (fn1_right ok85 E_message_table_22.right (fn1_right ok86 E_message_table_23.right noFns_right))))) plan137 _ w K Tryz.func137 (by kernel_rfl) (by kernel_rfl) (Eq.mp (F_message_small_4.eq F_code_Reader_U8 F_message_table_14 F_message_table_21 F_message_table_22 F_message_table_23 r1 m2 x3 w.heap K) hh)
theorem ok137 : okFn Tryz.prog 137 = true := by kernel_rfl
end Go.Proofs.YthiginhigfieiaaGreatDoor.V
namespace Go.Proofs.YthiginhigfieiaaGreatDoor.V
open Go Go.RowKit
set_option linter.unusedVariables false
set_option maxRecDepth 100000
def F_message_name_4_of (f74_ : Option Addr → Int → Heap → (Sl → Heap → Prop) → Prop) (f79_ : Option Addr → Heap → (Option Addr → Heap → Prop) → Prop) (f80_ : Option Addr → Heap → (Option Addr → Heap → Prop) → Prop) (Φ_ : Fns) (r1 m2 : Option Addr) (x3 : Addr) (h : Heap) (Q : Heap → Prop) : Prop :=
  ld [.fn] x3 h fun (v4 : Option FV) =>
  dyn1 .ptr Φ_ (Kd.enc .fn v4) [(.pointer m2 : Value)] h fun (r6 : Option Addr) (h5 : Heap) =>
  f74_ r1 64 h5 fun (r7 : Sl) (h8 : Heap) =>
  b2s r7.ptr r7.len h8 fun (s9 : ByteArray) =>
  nn r6 fun (a10 : Addr) =>
  st a10 [.string s9] h8 fun (h11 : Heap) =>
  Q h11
def F_message_name_4 (r1 m2 : Option Addr) (x3 : Addr) (h : Heap) (Q : Heap → Prop) : Prop := F_message_name_4_of F_code_Reader_Bytes F_message_table_16 F_message_table_17 (fn1 74 E_code_Reader_Bytes (fn1 79 E_message_table_16 (fn1 80 E_message_table_17 noFns))) r1 m2 x3 h Q
def plan141 : Plan := .r []
theorem F_message_name_4.eq (f74_ : Option Addr → Int → Heap → (Sl → Heap → Prop) → Prop) (f79_ : Option Addr → Heap → (Option Addr → Heap → Prop) → Prop) (f80_ : Option Addr → Heap → (Option Addr → Heap → Prop) → Prop) (r1 m2 : Option Addr) (x3 : Addr) (h : Heap) (K : Value → Heap → Prop) : F_message_name_4_of f74_ f79_ f80_ (fn1 74 (E_code_Reader_Bytes_of f74_) (fn1 79 (E_message_table_16_of f79_) (fn1 80 (E_message_table_17_of f80_) noFns))) r1 m2 x3 h (fun  (h : Heap) => K (.tuple #[]) h) =
    den Tryz.prog (fn1 74 (E_code_Reader_Bytes_of f74_) (fn1 79 (E_message_table_16_of f79_) (fn1 80 (E_message_table_17_of f80_) noFns))) Tryz.f141.ntmps plan141 (bodyOf Tryz.f141) (args0 0 [(.pointer r1 : Value), (.pointer m2 : Value), (.pointer (some x3) : Value)]) h ⟨fun env h => dRes Tryz.prog Tryz.f141.results.toList env h K, fun _ _ _ => False, fun env h => dRes Tryz.prog Tryz.f141.results.toList env h K⟩ := by kernel_rfl
def E_message_name_4_of (f : Option Addr → Option Addr → Addr → Heap → (Heap → Prop) → Prop) : List Value → Heap → (Value → Heap → Prop) → Prop
  | [v0, v1, v2], h, K => dec1 .ptr v0 fun (r1 : Option Addr) =>
  dec1 .ptr v1 fun (m2 : Option Addr) =>
  dec1 .addr v2 fun (x3 : Addr) =>
  f r1 m2 x3 h (fun  (h : Heap) => K (.tuple #[]) h)
  | _, _, _ => False
abbrev E_message_name_4 := E_message_name_4_of F_message_name_4
theorem E_message_name_4.at (f : Option Addr → Option Addr → Addr → Heap → (Heap → Prop) → Prop) (r1 m2 : Option Addr) (x3 : Addr) (h : Heap) (K : Value → Heap → Prop) : E_message_name_4_of f [.pointer r1, .pointer m2, .pointer (some x3)] h K = f r1 m2 x3 h (fun  (h : Heap) => K (.tuple #[]) h) := rfl
theorem E_message_name_4.right : IsRight Tryz.prog 141 E_message_name_4 := by
  refine isRight fun vs K w hh => ?_
  match vs, hh with
  | [v0, v1, v2], hh =>
    unfold E_message_name_4 E_message_name_4_of at hh
    replace hh := dec1_sound hh; obtain ⟨r1, rfl, hh⟩ := hh
    replace hh := dec1_sound hh; obtain ⟨m2, rfl, hh⟩ := hh
    replace hh := dec1_sound hh; obtain ⟨x3, rfl, hh⟩ := hh
    unfold F_message_name_4 at hh
    exact calls_den (fn1_right ok74 E_code_Reader_Bytes.right (fn1_right ok79 E_message_table_16.right (fn1_right ok80 E_message_table_17.right noFns_right))) plan141 _ w K Tryz.func141 (by kernel_rfl) (by kernel_rfl) (Eq.mp (F_message_name_4.eq F_code_Reader_Bytes F_message_table_16 F_message_table_17 r1 m2 x3 w.heap K) hh)
theorem ok141 : okFn Tryz.prog 141 = true := by kernel_rfl
end Go.Proofs.YthiginhigfieiaaGreatDoor.V
namespace Go.Proofs.YthiginhigfieiaaGreatDoor.V
open Go Go.RowKit
set_option linter.unusedVariables false
set_option maxRecDepth 100000
def F_message_both_4_of (f65_ : Option Addr → Option Addr → Heap → (Heap → Prop) → Prop) (f72_ : Option Addr → Option Addr → Heap → (Heap → Prop) → Prop) (f90_ : Option Addr → Option Addr → Heap → (Heap → Prop) → Prop) (f125_ : Option Addr → Option Addr → Addr → Addr → Heap → (Heap → Prop) → Prop) (f137_ : Option Addr → Option Addr → Addr → Heap → (Heap → Prop) → Prop) (f141_ : Option Addr → Option Addr → Addr → Heap → (Heap → Prop) → Prop) (Φ_ : Fns) (r1 m2 : Option Addr) (x3 x4 : Addr) (h : Heap) (Q : Heap → Prop) : Prop :=
  ld [.fn] (x3.add 3) h fun (v5 : Option FV) =>
  dyn0 Φ_ (Kd.enc .fn v5) [(.pointer r1 : Value), (.pointer m2 : Value)] h fun (h6 : Heap) =>
  ld [.fn] (x4.add 3) h6 fun (v7 : Option FV) =>
  dyn0 Φ_ (Kd.enc .fn v7) [(.pointer r1 : Value), (.pointer m2 : Value)] h6 fun (h8 : Heap) =>
  Q h8
def F_message_both_4 (r1 m2 : Option Addr) (x3 x4 : Addr) (h : Heap) (Q : Heap → Prop) : Prop := F_message_both_4_of F_message_table_8 F_message_table_13 F_message_table_27 F_message_number_4 F_message_small_4 F_message_name_4 (fn1 65 E_message_table_8 (fn1 72 E_message_table_13 (fn1 90 E_message_table_27 (fn1 125 E_message_number_4 (fn1 137 E_message_small_4 (fn1 141 E_message_name_4 noFns)))))) r1 m2 x3 x4 h Q
def plan129 : Plan := .s (.r [0, 1, 3]) (.r [])
theorem F_message_both_4.eq (f65_ : Option Addr → Option Addr → Heap → (Heap → Prop) → Prop) (f72_ : Option Addr → Option Addr → Heap → (Heap → Prop) → Prop) (f90_ : Option Addr → Option Addr → Heap → (Heap → Prop) → Prop) (f125_ : Option Addr → Option Addr → Addr → Addr → Heap → (Heap → Prop) → Prop) (f137_ : Option Addr → Option Addr → Addr → Heap → (Heap → Prop) → Prop) (f141_ : Option Addr → Option Addr → Addr → Heap → (Heap → Prop) → Prop) (r1 m2 : Option Addr) (x3 x4 : Addr) (h : Heap) (K : Value → Heap → Prop) : F_message_both_4_of f65_ f72_ f90_ f125_ f137_ f141_ (fn1 65 (E_message_table_8_of f65_) (fn1 72 (E_message_table_13_of f72_) (fn1 90 (E_message_table_27_of f90_) (fn1 125 (E_message_number_4_of f125_) (fn1 137 (E_message_small_4_of f137_) (fn1 141 (E_message_name_4_of f141_) noFns)))))) r1 m2 x3 x4 h (fun  (h : Heap) => K (.tuple #[]) h) =
    den Tryz.prog (fn1 65 (E_message_table_8_of f65_) (fn1 72 (E_message_table_13_of f72_) (fn1 90 (E_message_table_27_of f90_) (fn1 125 (E_message_number_4_of f125_) (fn1 137 (E_message_small_4_of f137_) (fn1 141 (E_message_name_4_of f141_) noFns)))))) Tryz.f129.ntmps plan129 (bodyOf Tryz.f129) (args0 0 [(.pointer r1 : Value), (.pointer m2 : Value), (.pointer (some x3) : Value), (.pointer (some x4) : Value)]) h ⟨fun env h => dRes Tryz.prog Tryz.f129.results.toList env h K, fun _ _ _ => False, fun env h => dRes Tryz.prog Tryz.f129.results.toList env h K⟩ := by kernel_rfl
def E_message_both_4_of (f : Option Addr → Option Addr → Addr → Addr → Heap → (Heap → Prop) → Prop) : List Value → Heap → (Value → Heap → Prop) → Prop
  | [v0, v1, v2, v3], h, K => dec1 .ptr v0 fun (r1 : Option Addr) =>
  dec1 .ptr v1 fun (m2 : Option Addr) =>
  dec1 .addr v2 fun (x3 : Addr) =>
  dec1 .addr v3 fun (x4 : Addr) =>
  f r1 m2 x3 x4 h (fun  (h : Heap) => K (.tuple #[]) h)
  | _, _, _ => False
abbrev E_message_both_4 := E_message_both_4_of F_message_both_4
theorem E_message_both_4.at (f : Option Addr → Option Addr → Addr → Addr → Heap → (Heap → Prop) → Prop) (r1 m2 : Option Addr) (x3 x4 : Addr) (h : Heap) (K : Value → Heap → Prop) : E_message_both_4_of f [.pointer r1, .pointer m2, .pointer (some x3), .pointer (some x4)] h K = f r1 m2 x3 x4 h (fun  (h : Heap) => K (.tuple #[]) h) := rfl
theorem E_message_both_4.right : IsRight Tryz.prog 129 E_message_both_4 := by
  refine isRight fun vs K w hh => ?_
  match vs, hh with
  | [v0, v1, v2, v3], hh =>
    unfold E_message_both_4 E_message_both_4_of at hh
    replace hh := dec1_sound hh; obtain ⟨r1, rfl, hh⟩ := hh
    replace hh := dec1_sound hh; obtain ⟨m2, rfl, hh⟩ := hh
    replace hh := dec1_sound hh; obtain ⟨x3, rfl, hh⟩ := hh
    replace hh := dec1_sound hh; obtain ⟨x4, rfl, hh⟩ := hh
    unfold F_message_both_4 at hh
    exact calls_den (fn1_right ok65 E_message_table_8.right (fn1_right ok72 E_message_table_13.right (fn1_right ok90 E_message_table_27.right (fn1_right ok125 E_message_number_4.right (fn1_right ok137 E_message_small_4.right (fn1_right ok141 E_message_name_4.right noFns_right)))))) plan129 _ w K Tryz.func129 (by kernel_rfl) (by kernel_rfl) (Eq.mp (F_message_both_4.eq F_message_table_8 F_message_table_13 F_message_table_27 F_message_number_4 F_message_small_4 F_message_name_4 r1 m2 x3 x4 w.heap K) hh)
theorem ok129 : okFn Tryz.prog 129 = true := by kernel_rfl
end Go.Proofs.YthiginhigfieiaaGreatDoor.V
namespace Go.Proofs.YthiginhigfieiaaGreatDoor.V
open Go Go.RowKit
set_option linter.unusedVariables false
set_option maxRecDepth 100000
def F_message_Decode.l1 (f44_ : Option Addr → Heap → (Int → Heap → Prop) → Prop) (r62 : Option Addr) (a66 : Addr) (j68 : Heap → Prop) : Int → Heap → Prop :=
  wl [(48, .one (.int .i64))] (fun (next69 : Int → Heap → Prop) (x70 : Int) (h71 : Heap) =>
  brr (decide (x70 < ((4 : Nat) : Int)))
  (ixS 1 ⟨(some a66), 4, 4⟩ x70 fun (a72 : Addr) =>
  ld [.ptr] a72 h71 fun (v73 : Option Addr) =>
  f44_ r62 h71 fun (r74 : Int) (h75 : Heap) =>
  nn v73 fun (a76 : Addr) =>
  st a76 [.int .i64 (IntKind.i64.wrap r74)] h75 fun (h77 : Heap) =>
  next69 (IntKind.i64.wrap (x70 + 1)) h77)
  (j68 h71))
def F_message_Decode.l2 (Φ_ : Fns) (r62 : Option Addr) (a64 a168 : Addr) (v173 : Sl) (j174 : Heap → Prop) : Int → Heap → Prop :=
  wl [(70, .one (.int .i64))] (fun (next175 : Int → Heap → Prop) (x176 : Int) (h177 : Heap) =>
  brr (decide (x176 < ((v173.len : Nat) : Int)))
  (ixS 1 v173 x176 fun (a178 : Addr) =>
  ld [.int .i64] a178 h177 fun (v179 : Int) =>
  ixA 4 a168 16 v179 fun (a180 : Addr) =>
  ld [.fn] (a180.add 3) h177 fun (v181 : Option FV) =>
  dyn0 Φ_ (Kd.enc .fn v181) [(.pointer r62 : Value), (.pointer (some a64) : Value)] h177 fun (h182 : Heap) =>
  next175 (IntKind.i64.wrap (x176 + 1)) h182)
  (j174 h177))
def F_message_Decode_of (f29_ : Option Addr → Heap → (Int → Heap → Prop) → Prop) (f32_ : Heap → (Option FV → Option FV → Option FV → Option FV → Option FV → Option FV → Option FV → Option FV → Option FV → Option FV → Option FV → Option FV → Option FV → Option FV → Option FV → Option FV → Option FV → Option FV → Option FV → Option FV → Option FV → Option FV → Option FV → Option FV → Option FV → Option FV → Option FV → Option FV → Option FV → Option FV → Option FV → Option FV → Option FV → Option FV → Option FV → Option FV → Option FV → Option FV → Option FV → Option FV → Option FV → Option FV → Option FV → Option FV → Option FV → Option FV → Option FV → Option FV → Option FV → Option FV → Option FV → Option FV → Option FV → Option FV → Option FV → Option FV → Option FV → Option FV → Option FV → Option FV → Option FV → Option FV → Option FV → Option FV → Heap → Prop) → Prop) (f34_ : Sl → Heap → (Int → Heap → Prop) → Prop) (f42_ : Sl → Heap → (Option Addr → Heap → Prop) → Prop) (f43_ : Option Addr → Heap → (Int → Heap → Prop) → Prop) (f44_ : Option Addr → Heap → (Int → Heap → Prop) → Prop) (f45_ : Option Addr → Heap → (Int → Heap → Prop) → Prop) (f65_ : Option Addr → Option Addr → Heap → (Heap → Prop) → Prop) (f72_ : Option Addr → Option Addr → Heap → (Heap → Prop) → Prop) (f90_ : Option Addr → Option Addr → Heap → (Heap → Prop) → Prop) (f125_ : Option Addr → Option Addr → Addr → Addr → Heap → (Heap → Prop) → Prop) (f129_ : Option Addr → Option Addr → Addr → Addr → Heap → (Heap → Prop) → Prop) (f137_ : Option Addr → Option Addr → Addr → Heap → (Heap → Prop) → Prop) (f141_ : Option Addr → Option Addr → Addr → Heap → (Heap → Prop) → Prop) (Φ_ : Fns) (b1 : Sl) (h : Heap) (Q : Int → Int → Int → Int → Int → Int → Int → Int → Int → Int → Sl → Int → Int → ByteArray → ByteArray → Int → Int → Int → Int → Int → Int → Int → Int → Heap → Prop) : Prop :=
  al 52 [.int .i64 0, .int .i64 0, .int .i64 0, .int .i64 0, .int .u64 0, .int .u64 0, .int .u64 0, .int .u64 0, .int .i64 0, .int .u64 0, .slice none 0 0, .int .i64 0, .int .u64 0, .string (⟨#[]⟩ : ByteArray), .string (⟨#[]⟩ : ByteArray), .int .u64 0, .int .u64 0, .int .u64 0, .int .i64 0, .int .i64 0, .int .i64 0, .int .i64 0] h fun (a2 : Addr) (h3 : Heap) =>
  jn [(21, .one .bool)] (fun (x5 : Bool) (h6 : Heap) =>
  brr x5
  (st a2 [.int .i64 0, .int .i64 0, .int .i64 0, .int .i64 0, .int .u64 0, .int .u64 0, .int .u64 0, .int .u64 0, .int .i64 0, .int .u64 0, .slice none 0 0, .int .i64 0, .int .u64 0, .string (⟨#[]⟩ : ByteArray), .string (⟨#[]⟩ : ByteArray), .int .u64 0, .int .u64 0, .int .u64 0, .int .i64 0, .int .i64 0, .int .i64 0, .int .i64 0] h6 fun (h7 : Heap) =>
  ld [.int .i64, .int .i64, .int .i64, .int .i64, .int .u64, .int .u64, .int .u64, .int .u64, .int .i64, .int .u64, .sl, .int .i64, .int .u64, .str, .str, .int .u64, .int .u64, .int .u64, .int .i64, .int .i64, .int .i64, .int .i64] a2 h7 fun (v8 v9 v10 v11 v12 v13 v14 v15 v16 v17 : Int) (v18 : Sl) (v19 v20 : Int) (v21 v22 : ByteArray) (v23 v24 v25 v26 v27 v28 v29 : Int) =>
  Q v8 v9 v10 v11 v12 v13 v14 v15 v16 v17 v18 v19 v20 v21 v22 v23 v24 v25 v26 v27 v28 v29 81 h7)
  (slFrom 1 b1 (IntKind.i64.wrap (((b1.len : Nat) : Int) - 4)) fun (s30 : Sl) =>
  slTo b1 (IntKind.i64.wrap (((b1.len : Nat) : Int) - 4)) fun (s31 : Sl) =>
  f42_ s30 h6 fun (r32 : Option Addr) (h33 : Heap) =>
  f43_ r32 h33 fun (r34 : Int) (h35 : Heap) =>
  f34_ s31 h35 fun (r36 : Int) (h37 : Heap) =>
  brr (r34 != r36)
  (st a2 [.int .i64 0, .int .i64 0, .int .i64 0, .int .i64 0, .int .u64 0, .int .u64 0, .int .u64 0, .int .u64 0, .int .i64 0, .int .u64 0, .slice none 0 0, .int .i64 0, .int .u64 0, .string (⟨#[]⟩ : ByteArray), .string (⟨#[]⟩ : ByteArray), .int .u64 0, .int .u64 0, .int .u64 0, .int .i64 0, .int .i64 0, .int .i64 0, .int .i64 0] h37 fun (h38 : Heap) =>
  ld [.int .i64, .int .i64, .int .i64, .int .i64, .int .u64, .int .u64, .int .u64, .int .u64, .int .i64, .int .u64, .sl, .int .i64, .int .u64, .str, .str, .int .u64, .int .u64, .int .u64, .int .i64, .int .i64, .int .i64, .int .i64] a2 h38 fun (v39 v40 v41 v42 v43 v44 v45 v46 v47 v48 : Int) (v49 : Sl) (v50 v51 : Int) (v52 v53 : ByteArray) (v54 v55 v56 v57 v58 v59 v60 : Int) =>
  Q v39 v40 v41 v42 v43 v44 v45 v46 v47 v48 v49 v50 v51 v52 v53 v54 v55 v56 v57 v58 v59 v60 82 h38)
  (slTo b1 (IntKind.i64.wrap (((b1.len : Nat) : Int) - 4)) fun (s61 : Sl) =>
  f42_ s61 h37 fun (r62 : Option Addr) (h63 : Heap) =>
  al 52 [.int .i64 0, .int .i64 0, .int .i64 0, .int .i64 0, .int .u64 0, .int .u64 0, .int .u64 0, .int .u64 0, .int .i64 0, .int .u64 0, .slice none 0 0, .int .i64 0, .int .u64 0, .string (⟨#[]⟩ : ByteArray), .string (⟨#[]⟩ : ByteArray), .int .u64 0, .int .u64 0, .int .u64 0, .int .i64 0, .int .i64 0, .int .i64 0, .int .i64 0] h63 fun (a64 : Addr) (h65 : Heap) =>
  al 106 [.pointer (some ((a64.add 0).add 0)), .pointer (some ((a64.add 0).add 1)), .pointer (some ((a64.add 0).add 2)), .pointer (some ((a64.add 0).add 3))] h65 fun (a66 : Addr) (h67 : Heap) =>
  jn [] (fun  (h78 : Heap) =>
  ld [.int .i64] ((a64.add 0).add 0) h78 fun (v79 : Int) =>
  brr (decide (v79 > 11))
  (st a2 [.int .i64 0, .int .i64 0, .int .i64 0, .int .i64 0, .int .u64 0, .int .u64 0, .int .u64 0, .int .u64 0, .int .i64 0, .int .u64 0, .slice none 0 0, .int .i64 0, .int .u64 0, .string (⟨#[]⟩ : ByteArray), .string (⟨#[]⟩ : ByteArray), .int .u64 0, .int .u64 0, .int .u64 0, .int .i64 0, .int .i64 0, .int .i64 0, .int .i64 0] h78 fun (h80 : Heap) =>
  ld [.int .i64, .int .i64, .int .i64, .int .i64, .int .u64, .int .u64, .int .u64, .int .u64, .int .i64, .int .u64, .sl, .int .i64, .int .u64, .str, .str, .int .u64, .int .u64, .int .u64, .int .i64, .int .i64, .int .i64, .int .i64] a2 h80 fun (v81 v82 v83 v84 v85 v86 v87 v88 v89 v90 : Int) (v91 : Sl) (v92 v93 : Int) (v94 v95 : ByteArray) (v96 v97 v98 v99 v100 v101 v102 : Int) =>
  Q v81 v82 v83 v84 v85 v86 v87 v88 v89 v90 v91 v92 v93 v94 v95 v96 v97 v98 v99 v100 v101 v102 81 h80)
  (f32_ h78 fun (r103 r104 r105 r106 r107 r108 r109 r110 r111 r112 r113 r114 r115 r116 r117 r118 r119 r120 r121 r122 r123 r124 r125 r126 r127 r128 r129 r130 r131 r132 r133 r134 r135 r136 r137 r138 r139 r140 r141 r142 r143 r144 r145 r146 r147 r148 r149 r150 r151 r152 r153 r154 r155 r156 r157 r158 r159 r160 r161 r162 r163 r164 r165 r166 : Option FV) (h167 : Heap) =>
  al 90 (.nilFunc :: .nilFunc :: .nilFunc :: .nilFunc :: .nilFunc :: .nilFunc :: .nilFunc :: .nilFunc :: .nilFunc :: .nilFunc :: .nilFunc :: .nilFunc :: .nilFunc :: .nilFunc :: .nilFunc :: .nilFunc :: .nilFunc :: .nilFunc :: .nilFunc :: .nilFunc :: .nilFunc :: .nilFunc :: .nilFunc :: .nilFunc :: .nilFunc :: .nilFunc :: .nilFunc :: .nilFunc :: .nilFunc :: .nilFunc :: .nilFunc :: .nilFunc :: .nilFunc :: .nilFunc :: .nilFunc :: .nilFunc :: .nilFunc :: .nilFunc :: .nilFunc :: .nilFunc :: .nilFunc :: .nilFunc :: .nilFunc :: .nilFunc :: .nilFunc :: .nilFunc :: .nilFunc :: .nilFunc :: .nilFunc :: .nilFunc :: .nilFunc :: .nilFunc :: .nilFunc :: .nilFunc :: .nilFunc :: .nilFunc :: .nilFunc :: .nilFunc :: .nilFunc :: .nilFunc :: .nilFunc :: .nilFunc :: .nilFunc :: .nilFunc :: []) h167 fun (a168 : Addr) (h169 : Heap) =>
  st a168 ((Kd.enc .fn r103) :: (Kd.enc .fn r104) :: (Kd.enc .fn r105) :: (Kd.enc .fn r106) :: (Kd.enc .fn r107) :: (Kd.enc .fn r108) :: (Kd.enc .fn r109) :: (Kd.enc .fn r110) :: (Kd.enc .fn r111) :: (Kd.enc .fn r112) :: (Kd.enc .fn r113) :: (Kd.enc .fn r114) :: (Kd.enc .fn r115) :: (Kd.enc .fn r116) :: (Kd.enc .fn r117) :: (Kd.enc .fn r118) :: (Kd.enc .fn r119) :: (Kd.enc .fn r120) :: (Kd.enc .fn r121) :: (Kd.enc .fn r122) :: (Kd.enc .fn r123) :: (Kd.enc .fn r124) :: (Kd.enc .fn r125) :: (Kd.enc .fn r126) :: (Kd.enc .fn r127) :: (Kd.enc .fn r128) :: (Kd.enc .fn r129) :: (Kd.enc .fn r130) :: (Kd.enc .fn r131) :: (Kd.enc .fn r132) :: (Kd.enc .fn r133) :: (Kd.enc .fn r134) :: (Kd.enc .fn r135) :: (Kd.enc .fn r136) :: (Kd.enc .fn r137) :: (Kd.enc .fn r138) :: (Kd.enc .fn r139) :: (Kd.enc .fn r140) :: (Kd.enc .fn r141) :: (Kd.enc .fn r142) :: (Kd.enc .fn r143) :: (Kd.enc .fn r144) :: (Kd.enc .fn r145) :: (Kd.enc .fn r146) :: (Kd.enc .fn r147) :: (Kd.enc .fn r148) :: (Kd.enc .fn r149) :: (Kd.enc .fn r150) :: (Kd.enc .fn r151) :: (Kd.enc .fn r152) :: (Kd.enc .fn r153) :: (Kd.enc .fn r154) :: (Kd.enc .fn r155) :: (Kd.enc .fn r156) :: (Kd.enc .fn r157) :: (Kd.enc .fn r158) :: (Kd.enc .fn r159) :: (Kd.enc .fn r160) :: (Kd.enc .fn r161) :: (Kd.enc .fn r162) :: (Kd.enc .fn r163) :: (Kd.enc .fn r164) :: (Kd.enc .fn r165) :: (Kd.enc .fn r166) :: []) h169 fun (h170 : Heap) =>
  ld [.int .i64] ((a64.add 0).add 0) h170 fun (v171 : Int) =>
  ixA 1 (Addr.mk 0 0 none) 12 v171 fun (a172 : Addr) =>
  ld [.sl] a172 h170 fun (v173 : Sl) =>
  jn [] (fun  (h183 : Heap) =>
  jn [(87, .one .bool)] (fun (x189 : Bool) (h190 : Heap) =>
  brr x189
  (st a2 [.int .i64 0, .int .i64 0, .int .i64 0, .int .i64 0, .int .u64 0, .int .u64 0, .int .u64 0, .int .u64 0, .int .i64 0, .int .u64 0, .slice none 0 0, .int .i64 0, .int .u64 0, .string (⟨#[]⟩ : ByteArray), .string (⟨#[]⟩ : ByteArray), .int .u64 0, .int .u64 0, .int .u64 0, .int .i64 0, .int .i64 0, .int .i64 0, .int .i64 0] h190 fun (h191 : Heap) =>
  ld [.int .i64, .int .i64, .int .i64, .int .i64, .int .u64, .int .u64, .int .u64, .int .u64, .int .i64, .int .u64, .sl, .int .i64, .int .u64, .str, .str, .int .u64, .int .u64, .int .u64, .int .i64, .int .i64, .int .i64, .int .i64] a2 h191 fun (v192 v193 v194 v195 v196 v197 v198 v199 v200 v201 : Int) (v202 : Sl) (v203 v204 : Int) (v205 v206 : ByteArray) (v207 v208 v209 v210 v211 v212 v213 : Int) =>
  Q v192 v193 v194 v195 v196 v197 v198 v199 v200 v201 v202 v203 v204 v205 v206 v207 v208 v209 v210 v211 v212 v213 81 h191)
  (ld [.int .i64, .int .i64, .int .i64, .int .i64, .int .u64, .int .u64, .int .u64, .int .u64, .int .i64, .int .u64, .sl, .int .i64, .int .u64, .str, .str, .int .u64, .int .u64, .int .u64, .int .i64, .int .i64, .int .i64, .int .i64] a64 h190 fun (v214 v215 v216 v217 v218 v219 v220 v221 v222 v223 : Int) (v224 : Sl) (v225 v226 : Int) (v227 v228 : ByteArray) (v229 v230 v231 v232 v233 v234 v235 : Int) =>
  st a2 [.int .i64 v214, .int .i64 v215, .int .i64 v216, .int .i64 v217, .int .u64 v218, .int .u64 v219, .int .u64 v220, .int .u64 v221, .int .i64 v222, .int .u64 v223, .slice v224.ptr v224.len v224.cap, .int .i64 v225, .int .u64 v226, .string v227, .string v228, .int .u64 v229, .int .u64 v230, .int .u64 v231, .int .i64 v232, .int .i64 v233, .int .i64 v234, .int .i64 v235] h190 fun (h236 : Heap) =>
  ld [.int .i64, .int .i64, .int .i64, .int .i64, .int .u64, .int .u64, .int .u64, .int .u64, .int .i64, .int .u64, .sl, .int .i64, .int .u64, .str, .str, .int .u64, .int .u64, .int .u64, .int .i64, .int .i64, .int .i64, .int .i64] a2 h236 fun (v237 v238 v239 v240 v241 v242 v243 v244 v245 v246 : Int) (v247 : Sl) (v248 v249 : Int) (v250 v251 : ByteArray) (v252 v253 v254 v255 v256 v257 v258 : Int) =>
  Q v237 v238 v239 v240 v241 v242 v243 v244 v245 v246 v247 v248 v249 v250 v251 v252 v253 v254 v255 v256 v257 v258 0 h236)) (fun (j184 : Bool → Heap → Prop) =>
  f45_ r62 h183 fun (r185 : Int) (h186 : Heap) =>
  brr (r185 != 0)
  (j184 true h186)
  (f29_ (some a64) h186 fun (r187 : Int) (h188 : Heap) =>
  j184 (r187 != 0) h188))) (fun (j174 : Heap → Prop) =>
  F_message_Decode.l2 Φ_ r62 a64 a168 v173 j174 0 h170))) (fun (j68 : Heap → Prop) =>
  F_message_Decode.l1 f44_ r62 a66 j68 0 h67)))) (fun (j4 : Bool → Heap → Prop) =>
  brr (decide ((IntKind.i64.wrap (((b1.len : Nat) : Int) - 4)) < 0))
  (j4 true h3)
  (j4 (decide (((b1.len : Nat) : Int) > 17000)) h3))
def F_message_Decode (b1 : Sl) (h : Heap) (Q : Int → Int → Int → Int → Int → Int → Int → Int → Int → Int → Sl → Int → Int → ByteArray → ByteArray → Int → Int → Int → Int → Int → Int → Int → Int → Heap → Prop) : Prop := F_message_Decode_of F_message_wrong F_message_table F_code_Sum F_code_Read F_code_Reader_U32 F_code_Reader_U8 F_code_Reader_End F_message_table_8 F_message_table_13 F_message_table_27 F_message_number_4 F_message_both_4 F_message_small_4 F_message_name_4 (fn1 29 E_message_wrong (fn1 32 E_message_table (fn1 34 E_code_Sum (fn1 42 E_code_Read (fn1 43 E_code_Reader_U32 (fn1 44 E_code_Reader_U8 (fn1 45 E_code_Reader_End (fn1 65 E_message_table_8 (fn1 72 E_message_table_13 (fn1 90 E_message_table_27 (fn1 125 E_message_number_4 (fn1 129 E_message_both_4 (fn1 137 E_message_small_4 (fn1 141 E_message_name_4 noFns)))))))))))))) b1 h Q
def plan16 : Plan := .s (.r [0, 2]) (.s (.r [0, 2, 4]) (.s (.s (.rj [(21, .one .bool)] [0, 2, 4]) (.c (.s (.r [2, 3]) .z) .z)) (.s (.s (.d [0, 0, 3, 7, 15, 0, 0, 96, 255, 511] [[0, 1, 2, 5, 6, 7, 3, 4, 8, 9]] [0, 2, 4, 32]) (.c (.s (.r [2, 3]) .z) .z)) (.s (.r [2, 5]) (.s (.r [2, 5, 6]) (.s (.s (.r [2, 5, 6, 46, 47, 48]) (.bj [] [2, 5, 6] (.l [(48, .one (.int .i64))] [2, 5, 6, 46, 47] (.s (.r [2, 5, 6, 46, 47, 48, 49]) (.s (.c .z .z) (.s (.b (.s (.r [2, 5, 6, 8, 46, 47, 48]) (.r [2, 5, 6, 46, 47, 48]))) (.r [2, 5, 6, 46, 47, 48]))))))) (.s (.s (.r [2, 5, 6, 61]) (.c (.s (.r [2, 3]) .z) .z)) (.s (.r [2, 5, 6, 9]) (.s (.s (.r [2, 5, 6, 9, 68, 69, 70]) (.bj [] [2, 5, 6] (.l [(70, .one (.int .i64))] [2, 5, 6, 9, 68, 69] (.s (.r [2, 5, 6, 9, 68, 69, 70, 71]) (.s (.c .z .z) (.s (.b (.s (.r [2, 5, 6, 9, 11, 68, 69, 70]) (.r [2, 5, 6, 9, 68, 69, 70]))) (.r [2, 5, 6, 9, 68, 69, 70]))))))) (.s (.s (.rj [(87, .one .bool)] [2, 6]) (.c (.s (.r [2, 3]) .z) .z)) (.s (.r [2, 3]) .z)))))))))))
theorem F_message_Decode.eq (f29_ : Option Addr → Heap → (Int → Heap → Prop) → Prop) (f32_ : Heap → (Option FV → Option FV → Option FV → Option FV → Option FV → Option FV → Option FV → Option FV → Option FV → Option FV → Option FV → Option FV → Option FV → Option FV → Option FV → Option FV → Option FV → Option FV → Option FV → Option FV → Option FV → Option FV → Option FV → Option FV → Option FV → Option FV → Option FV → Option FV → Option FV → Option FV → Option FV → Option FV → Option FV → Option FV → Option FV → Option FV → Option FV → Option FV → Option FV → Option FV → Option FV → Option FV → Option FV → Option FV → Option FV → Option FV → Option FV → Option FV → Option FV → Option FV → Option FV → Option FV → Option FV → Option FV → Option FV → Option FV → Option FV → Option FV → Option FV → Option FV → Option FV → Option FV → Option FV → Option FV → Heap → Prop) → Prop) (f34_ : Sl → Heap → (Int → Heap → Prop) → Prop) (f42_ : Sl → Heap → (Option Addr → Heap → Prop) → Prop) (f43_ : Option Addr → Heap → (Int → Heap → Prop) → Prop) (f44_ : Option Addr → Heap → (Int → Heap → Prop) → Prop) (f45_ : Option Addr → Heap → (Int → Heap → Prop) → Prop) (f65_ : Option Addr → Option Addr → Heap → (Heap → Prop) → Prop) (f72_ : Option Addr → Option Addr → Heap → (Heap → Prop) → Prop) (f90_ : Option Addr → Option Addr → Heap → (Heap → Prop) → Prop) (f125_ : Option Addr → Option Addr → Addr → Addr → Heap → (Heap → Prop) → Prop) (f129_ : Option Addr → Option Addr → Addr → Addr → Heap → (Heap → Prop) → Prop) (f137_ : Option Addr → Option Addr → Addr → Heap → (Heap → Prop) → Prop) (f141_ : Option Addr → Option Addr → Addr → Heap → (Heap → Prop) → Prop) (b1 : Sl) (h : Heap) (K : Value → Heap → Prop) : F_message_Decode_of f29_ f32_ f34_ f42_ f43_ f44_ f45_ f65_ f72_ f90_ f125_ f129_ f137_ f141_ (fn1 29 (E_message_wrong_of f29_) (fn1 32 (E_message_table_of f32_) (fn1 34 (E_code_Sum_of f34_) (fn1 42 (E_code_Read_of f42_) (fn1 43 (E_code_Reader_U32_of f43_) (fn1 44 (E_code_Reader_U8_of f44_) (fn1 45 (E_code_Reader_End_of f45_) (fn1 65 (E_message_table_8_of f65_) (fn1 72 (E_message_table_13_of f72_) (fn1 90 (E_message_table_27_of f90_) (fn1 125 (E_message_number_4_of f125_) (fn1 129 (E_message_both_4_of f129_) (fn1 137 (E_message_small_4_of f137_) (fn1 141 (E_message_name_4_of f141_) noFns)))))))))))))) b1 h (fun (r0 r1 r2 r3 r4 r5 r6 r7 r8 r9 : Int) (r10 : Sl) (r11 r12 : Int) (r13 r14 : ByteArray) (r15 r16 r17 r18 r19 r20 r21 r22 : Int) (h : Heap) => K (.tuple #[.agg #[.int .i64 r0, .int .i64 r1, .int .i64 r2, .int .i64 r3, .int .u64 r4, .int .u64 r5, .int .u64 r6, .int .u64 r7, .int .i64 r8, .int .u64 r9, .slice r10.ptr r10.len r10.cap, .int .i64 r11, .int .u64 r12, .string r13, .string r14, .int .u64 r15, .int .u64 r16, .int .u64 r17, .int .i64 r18, .int .i64 r19, .int .i64 r20, .int .i64 r21], .int .i64 r22]) h) =
    den Tryz.prog (fn1 29 (E_message_wrong_of f29_) (fn1 32 (E_message_table_of f32_) (fn1 34 (E_code_Sum_of f34_) (fn1 42 (E_code_Read_of f42_) (fn1 43 (E_code_Reader_U32_of f43_) (fn1 44 (E_code_Reader_U8_of f44_) (fn1 45 (E_code_Reader_End_of f45_) (fn1 65 (E_message_table_8_of f65_) (fn1 72 (E_message_table_13_of f72_) (fn1 90 (E_message_table_27_of f90_) (fn1 125 (E_message_number_4_of f125_) (fn1 129 (E_message_both_4_of f129_) (fn1 137 (E_message_small_4_of f137_) (fn1 141 (E_message_name_4_of f141_) noFns)))))))))))))) Tryz.f16.ntmps plan16 (bodyOf Tryz.f16) (args0 0 [(.slice b1.ptr b1.len b1.cap : Value)]) h ⟨fun env h => dRes Tryz.prog Tryz.f16.results.toList env h K, fun _ _ _ => False, fun env h => dRes Tryz.prog Tryz.f16.results.toList env h K⟩ := by kernel_rfl
def E_message_Decode_of (f : Sl → Heap → (Int → Int → Int → Int → Int → Int → Int → Int → Int → Int → Sl → Int → Int → ByteArray → ByteArray → Int → Int → Int → Int → Int → Int → Int → Int → Heap → Prop) → Prop) : List Value → Heap → (Value → Heap → Prop) → Prop
  | [v0], h, K => dec1 .sl v0 fun (b1 : Sl) =>
  f b1 h (fun (r0 r1 r2 r3 r4 r5 r6 r7 r8 r9 : Int) (r10 : Sl) (r11 r12 : Int) (r13 r14 : ByteArray) (r15 r16 r17 r18 r19 r20 r21 r22 : Int) (h : Heap) => K (.tuple #[.agg #[.int .i64 r0, .int .i64 r1, .int .i64 r2, .int .i64 r3, .int .u64 r4, .int .u64 r5, .int .u64 r6, .int .u64 r7, .int .i64 r8, .int .u64 r9, .slice r10.ptr r10.len r10.cap, .int .i64 r11, .int .u64 r12, .string r13, .string r14, .int .u64 r15, .int .u64 r16, .int .u64 r17, .int .i64 r18, .int .i64 r19, .int .i64 r20, .int .i64 r21], .int .i64 r22]) h)
  | _, _, _ => False
abbrev E_message_Decode := E_message_Decode_of F_message_Decode
theorem E_message_Decode.right : IsRight Tryz.prog 16 E_message_Decode := by
  refine isRight fun vs K w hh => ?_
  match vs, hh with
  | [v0], hh =>
    unfold E_message_Decode E_message_Decode_of at hh
    replace hh := dec1_sound hh; obtain ⟨b1, rfl, hh⟩ := hh
    unfold F_message_Decode at hh
    exact calls_den (fn1_right ok29 E_message_wrong.right (fn1_right ok32 E_message_table.right (fn1_right ok34 E_code_Sum.right (fn1_right ok42 E_code_Read.right (fn1_right ok43 E_code_Reader_U32.right (fn1_right ok44 E_code_Reader_U8.right (fn1_right ok45 E_code_Reader_End.right (fn1_right ok65 E_message_table_8.right (fn1_right ok72 E_message_table_13.right (fn1_right ok90 E_message_table_27.right (fn1_right ok125 E_message_number_4.right (fn1_right ok129 E_message_both_4.right (fn1_right ok137 E_message_small_4.right (fn1_right ok141 E_message_name_4.right noFns_right)))))))))))))) plan16 _ w K Tryz.func16 (by kernel_rfl) (by kernel_rfl) (Eq.mp (F_message_Decode.eq F_message_wrong F_message_table F_code_Sum F_code_Read F_code_Reader_U32 F_code_Reader_U8 F_code_Reader_End F_message_table_8 F_message_table_13 F_message_table_27 F_message_number_4 F_message_both_4 F_message_small_4 F_message_name_4 b1 w.heap K) hh)
theorem ok16 : okFn Tryz.prog 16 = true := by kernel_rfl
end Go.Proofs.YthiginhigfieiaaGreatDoor.V
/- The table of the fields. -/
namespace Go.Proofs.YthiginhigfieiaaGreatDoor.V
open Go Go.RowKit
set_option linter.unusedVariables false
set_option linter.unusedSimpArgs false
def fv (n : Nat) (caps : List Value) : Option FV := some ⟨.func n, [], caps⟩
def pv (b : Nat) : Value := .pointer (some (pt b 0))
theorem dyn1_of {k : Kd} {Φ : Fns} {n : Nat} {caps vs : List Value} {h : Heap} {K : k.T → Heap → Prop} {E : List Value → Heap → (Value → Heap → Prop) → Prop} (hΦ : Φ n = E) (hE : E (vs ++ caps) h fun u h => dec1 k u fun x => K x h) : dyn1 k Φ (Kd.enc .fn (fv n caps)) vs h K :=
  ⟨_, _, rfl, rfl, by
    show Φ n ([] ++ vs ++ caps) h _
    rw [hΦ]
    exact hE⟩
theorem dyn0_of {Φ : Fns} {n : Nat} {caps vs : List Value} {h : Heap} {K : Heap → Prop} {E : List Value → Heap → (Value → Heap → Prop) → Prop} (hΦ : Φ n = E) (hE : E (vs ++ caps) h fun u h => u = .tuple #[] ∧ K h) : dyn0 Φ (Kd.enc .fn (fv n caps)) vs h K :=
  ⟨_, _, rfl, rfl, by
    show Φ n ([] ++ vs ++ caps) h _
    rw [hΦ]
    exact hE⟩
def atF : Nat → Nat
  | 0 => 56
  | 1 => 58
  | 2 => 59
  | 3 => 60
  | 5 => 67
  | 8 => 77
  | 11 => 81
  | 12 => 82
  | 13 => 83
  | 7 => 76
  | 14 => 84
  | 15 => 85
  | 16 => 86
  | 9 => 79
  | 10 => 80
  | _ => 0
/-- 0: a number, 1: a byte, 2: a name, 3: by itself. -/
def pc : Nat → Nat
  | 4 => 3
  | 6 => 3
  | 17 => 3
  | 7 => 1
  | 14 => 1
  | 15 => 1
  | 16 => 1
  | 9 => 2
  | 10 => 2
  | _ => 0
abbrev Bxs := List (Nat × List Value)
def Bx (h : Heap) (T : Bxs) : Prop := ∀ x ∈ T, cellsAre h (pt x.1 0) x.2
def atV (p : Nat) : Option FV := fv (atF p) []
structure PrimOk (T : Bxs) (p : Nat) (v1 v2 v3 v4 : Option FV) : Prop where
  num : pc p = 0 → ∃ a m, (a, [Kd.enc .fn (atV p)]) ∈ T ∧ (m, [.int .u64 (pmax p : Nat)]) ∈ T ∧ v1 = fv 122 [pv a, pv m] ∧ v2 = fv 123 [pv a] ∧ v3 = fv 124 [pv a] ∧ v4 = fv 125 [pv m, pv a]
  sml : pc p = 1 → ∃ a m, (a, [Kd.enc .fn (atV p)]) ∈ T ∧ (m, [.int .i64 (pmax p : Nat)]) ∈ T ∧ v1 = fv 134 [pv a, pv m] ∧ v2 = fv 135 [pv a] ∧ v3 = fv 136 [pv a] ∧ v4 = fv 137 [pv a]
  nam : pc p = 2 → ∃ a, (a, [Kd.enc .fn (atV p)]) ∈ T ∧ v1 = fv 138 [pv a] ∧ v2 = fv 139 [pv a] ∧ v3 = fv 140 [pv a] ∧ v4 = fv 141 [pv a]
  c4 : p = 4 → v1 = fv 61 [] ∧ v2 = fv 62 [] ∧ v3 = fv 63 [] ∧ v4 = fv 65 []
  c6 : p = 6 → v1 = fv 68 [] ∧ v2 = fv 69 [] ∧ v3 = fv 70 [] ∧ v4 = fv 72 []
  c17 : p = 17 → v1 = fv 87 [] ∧ v2 = fv 88 [] ∧ v3 = fv 89 [] ∧ v4 = fv 90 []
/-- A field's own numbers. -/
def fp : Nat → List Nat
  | 0 => [0]
  | 1 => [1, 2]
  | 2 => [3]
  | 3 => [4]
  | 4 => [5]
  | 5 => [6]
  | 6 => [7]
  | 7 => [8]
  | 8 => [9]
  | 9 => [10]
  | 10 => [11]
  | 11 => [12, 13]
  | 12 => [14]
  | 13 => [15]
  | 14 => [16]
  | 15 => [17]
  | _ => []
def FieldOk (T : Bxs) (f : Nat) (v1 v2 v3 v4 : Option FV) : Prop := (∃ p, p < 18 ∧ fp f = [p] ∧ PrimOk T p v1 v2 v3 v4) ∨ ∃ p q b c a1 a2 a3 a4 c1 c2 c3 c4, p < 18 ∧ q < 18 ∧ fp f = [p, q] ∧ (b, [Kd.enc .fn a1, Kd.enc .fn a2, Kd.enc .fn a3, Kd.enc .fn a4]) ∈ T ∧ (c, [Kd.enc .fn c1, Kd.enc .fn c2, Kd.enc .fn c3, Kd.enc .fn c4]) ∈ T ∧ PrimOk T p a1 a2 a3 a4 ∧ PrimOk T q c1 c2 c3 c4 ∧ v1 = fv 126 [pv b, pv c] ∧ v2 = fv 127 [pv b, pv c] ∧ v3 = fv 128 [pv b, pv c] ∧ v4 = fv 129 [pv b, pv c]
/-- A message that lies there. -/
def MsgAt (h : Heap) (b : Nat) (m : Mg) : Prop := cellsAre h (pt b 0) (mgC m) ∧ m.v.len = m.b.length
/-- Its numbers are what their types allow. -/
structure MgOk (m : Mg) : Prop where
  u : ∀ p, pc p = 0 → 0 ≤ pget p m ∧ pget p m ≤ 18446744073709551615
  i : ∀ p, -9223372036854775808 ≤ pget p m ∧ (pc p ≠ 0 → pget p m ≤ 9223372036854775807)
  b : m.b.length ≤ 140737488350000
  n : m.name.size ≤ 140737488350000
  o : m.other.size ≤ 140737488350000
  k : -9223372036854775808 ≤ m.kind ∧ m.kind ≤ 9223372036854775807
  f : -9223372036854775808 ≤ m.frm ∧ m.frm ≤ 9223372036854775807
  t : -9223372036854775808 ≤ m.to ∧ m.to ≤ 9223372036854775807
  s : -9223372036854775808 ≤ m.shard ∧ m.shard ≤ 9223372036854775807
def Pos (m : Mg) : Prop := ∀ p, pc p = 0 → 0 ≤ pget p m
theorem MgOk.pos {m : Mg} (o : MgOk m) : Pos m := fun p hp => (o.u p hp).1
structure AtN (Φ : Fns) : Prop where
  a0 : Φ 56 = E_message_table_1
  a1 : Φ 58 = E_message_table_2
  a2 : Φ 59 = E_message_table_3
  a3 : Φ 60 = E_message_table_4
  a5 : Φ 67 = E_message_table_9
  a8 : Φ 77 = E_message_table_15
  a11 : Φ 81 = E_message_table_18
  a12 : Φ 82 = E_message_table_19
  a13 : Φ 83 = E_message_table_20
structure AtS (Φ : Fns) : Prop where
  a7 : Φ 76 = E_message_table_14
  a14 : Φ 84 = E_message_table_21
  a15 : Φ 85 = E_message_table_22
  a16 : Φ 86 = E_message_table_23
structure AtA (Φ : Fns) : Prop where
  a9 : Φ 79 = E_message_table_16
  a10 : Φ 80 = E_message_table_17
section
variable {h0 h : Heap} {L : List Res} {b : Nat} {m : Mg} {T : Bxs}
theorem cas0 : ∀ p < 18, (pc p = 0 → p = 0 ∨ p = 1 ∨ p = 2 ∨ p = 3 ∨ p = 5 ∨ p = 8 ∨ p = 11 ∨ p = 12 ∨ p = 13) ∧ (pc p = 1 → p = 7 ∨ p = 14 ∨ p = 15 ∨ p = 16) ∧ (pc p = 2 → p = 9 ∨ p = 10) ∧ (pc p = 3 → p = 4 ∨ p = 6 ∨ p = 17) ∧ pc p < 4 := by
  intro p hp
  rcases (by omega : p = 0 ∨ p = 1 ∨ p = 2 ∨ p = 3 ∨ p = 4 ∨ p = 5 ∨ p = 6 ∨ p = 7 ∨ p = 8 ∨ p = 9 ∨ p = 10 ∨ p = 11 ∨ p = 12 ∨ p = 13 ∨ p = 14 ∨ p = 15 ∨ p = 16 ∨ p = 17) with rfl | rfl | rfl | rfl | rfl | rfl | rfl | rfl | rfl | rfl | rfl | rfl | rfl | rfl | rfl | rfl | rfl | rfl <;> decide
theorem cas {p c : Nat} (hp : p < 18) (hc : pc p = c) : (c = 0 → p = 0 ∨ p = 1 ∨ p = 2 ∨ p = 3 ∨ p = 5 ∨ p = 8 ∨ p = 11 ∨ p = 12 ∨ p = 13) ∧ (c = 1 → p = 7 ∨ p = 14 ∨ p = 15 ∨ p = 16) ∧ (c = 2 → p = 9 ∨ p = 10) ∧ (c = 3 → p = 4 ∨ p = 6 ∨ p = 17) ∧ c < 4 := by
  subst hc
  exact cas0 p hp
theorem at_num {Φ : Fns} {p : Nat} {K : Option Addr → Heap → Prop} (hp : p < 18) (hc : pc p = 0) (A : AtN Φ) (k : K (some (pt b (p + 4))) h) : dyn1 .ptr Φ (Kd.enc .fn (atV p)) [.pointer (some (pt b 0))] h K := by
  rcases (cas hp hc).1 rfl with rfl | rfl | rfl | rfl | rfl | rfl | rfl | rfl | rfl
  · refine dyn1_of A.a0 ?_
    refine Eq.mpr (E_message_table_1.at ..) ?_
    rw [F_message_table_1.eq_1, F_message_table_1_of.eq_1]
    simp only [nn_some, pt_add, Nat.zero_add, Nat.add_zero, Nat.reduceAdd, Nat.reduceMul, Int.toNat_zero, Int.toNat_one, Nat.zero_mul, Nat.one_mul]
    exact k
  · refine dyn1_of A.a1 ?_
    refine Eq.mpr (E_message_table_2.at ..) ?_
    rw [F_message_table_2.eq_1, F_message_table_2_of.eq_1]
    simp only [nn_some, pt_add, Nat.zero_add, Nat.add_zero, Nat.reduceAdd, Nat.reduceMul, Int.toNat_zero, Int.toNat_one, Nat.zero_mul, Nat.one_mul]
    exact k
  · refine dyn1_of A.a2 ?_
    refine Eq.mpr (E_message_table_3.at ..) ?_
    rw [F_message_table_3.eq_1, F_message_table_3_of.eq_1]
    simp only [nn_some, pt_add, Nat.zero_add, Nat.add_zero, Nat.reduceAdd, Nat.reduceMul, Int.toNat_zero, Int.toNat_one, Nat.zero_mul, Nat.one_mul]
    exact k
  · refine dyn1_of A.a3 ?_
    refine Eq.mpr (E_message_table_4.at ..) ?_
    rw [F_message_table_4.eq_1, F_message_table_4_of.eq_1]
    simp only [nn_some, pt_add, Nat.zero_add, Nat.add_zero, Nat.reduceAdd, Nat.reduceMul, Int.toNat_zero, Int.toNat_one, Nat.zero_mul, Nat.one_mul]
    exact k
  · refine dyn1_of A.a5 ?_
    refine Eq.mpr (E_message_table_9.at ..) ?_
    rw [F_message_table_9.eq_1, F_message_table_9_of.eq_1]
    simp only [nn_some, pt_add, Nat.zero_add, Nat.add_zero, Nat.reduceAdd, Nat.reduceMul, Int.toNat_zero, Int.toNat_one, Nat.zero_mul, Nat.one_mul]
    exact k
  · refine dyn1_of A.a8 ?_
    refine Eq.mpr (E_message_table_15.at ..) ?_
    rw [F_message_table_15.eq_1, F_message_table_15_of.eq_1]
    simp only [nn_some, pt_add, Nat.zero_add, Nat.add_zero, Nat.reduceAdd, Nat.reduceMul, Int.toNat_zero, Int.toNat_one, Nat.zero_mul, Nat.one_mul]
    exact k
  · refine dyn1_of A.a11 ?_
    refine Eq.mpr (E_message_table_18.at ..) ?_
    rw [F_message_table_18.eq_1, F_message_table_18_of.eq_1]
    simp only [nn_some, pt_add, Nat.zero_add, Nat.add_zero, Nat.reduceAdd, Nat.reduceMul, Int.toNat_zero, Int.toNat_one, Nat.zero_mul, Nat.one_mul]
    exact k
  · refine dyn1_of A.a12 ?_
    refine Eq.mpr (E_message_table_19.at ..) ?_
    rw [F_message_table_19.eq_1, F_message_table_19_of.eq_1]
    simp only [nn_some, pt_add, Nat.zero_add, Nat.add_zero, Nat.reduceAdd, Nat.reduceMul, Int.toNat_zero, Int.toNat_one, Nat.zero_mul, Nat.one_mul]
    exact k
  · refine dyn1_of A.a13 ?_
    refine Eq.mpr (E_message_table_20.at ..) ?_
    rw [F_message_table_20.eq_1, F_message_table_20_of.eq_1]
    simp only [nn_some, pt_add, Nat.zero_add, Nat.add_zero, Nat.reduceAdd, Nat.reduceMul, Int.toNat_zero, Int.toNat_one, Nat.zero_mul, Nat.one_mul]
    exact k
theorem at_sml {Φ : Fns} {p : Nat} {K : Option Addr → Heap → Prop} (hp : p < 18) (hc : pc p = 1) (A : AtS Φ) (k : K (some (pt b (p + 4))) h) : dyn1 .ptr Φ (Kd.enc .fn (atV p)) [.pointer (some (pt b 0))] h K := by
  rcases (cas hp hc).2.1 rfl with rfl | rfl | rfl | rfl
  · refine dyn1_of A.a7 ?_
    refine Eq.mpr (E_message_table_14.at ..) ?_
    rw [F_message_table_14.eq_1, F_message_table_14_of.eq_1]
    simp only [nn_some, pt_add, Nat.zero_add, Nat.add_zero, Nat.reduceAdd, Nat.reduceMul, Int.toNat_zero, Int.toNat_one, Nat.zero_mul, Nat.one_mul]
    exact k
  · refine dyn1_of A.a14 ?_
    refine Eq.mpr (E_message_table_21.at ..) ?_
    rw [F_message_table_21.eq_1, F_message_table_21_of.eq_1]
    simp only [nn_some, pt_add, Nat.zero_add, Nat.add_zero, Nat.reduceAdd, Nat.reduceMul, Int.toNat_zero, Int.toNat_one, Nat.zero_mul, Nat.one_mul]
    exact k
  · refine dyn1_of A.a15 ?_
    refine Eq.mpr (E_message_table_22.at ..) ?_
    rw [F_message_table_22.eq_1, F_message_table_22_of.eq_1]
    simp only [nn_some, pt_add, Nat.zero_add, Nat.add_zero, Nat.reduceAdd, Nat.reduceMul, Int.toNat_zero, Int.toNat_one, Nat.zero_mul, Nat.one_mul]
    exact k
  · refine dyn1_of A.a16 ?_
    refine Eq.mpr (E_message_table_23.at ..) ?_
    rw [F_message_table_23.eq_1, F_message_table_23_of.eq_1]
    simp only [nn_some, pt_add, Nat.zero_add, Nat.add_zero, Nat.reduceAdd, Nat.reduceMul, Int.toNat_zero, Int.toNat_one, Nat.zero_mul, Nat.one_mul]
    exact k
theorem at_nam {Φ : Fns} {p : Nat} {K : Option Addr → Heap → Prop} (hp : p < 18) (hc : pc p = 2) (A : AtA Φ) (k : K (some (pt b (p + 4))) h) : dyn1 .ptr Φ (Kd.enc .fn (atV p)) [.pointer (some (pt b 0))] h K := by
  rcases (cas hp hc).2.2.1 rfl with rfl | rfl
  · refine dyn1_of A.a9 ?_
    refine Eq.mpr (E_message_table_16.at ..) ?_
    rw [F_message_table_16.eq_1, F_message_table_16_of.eq_1]
    simp only [nn_some, pt_add, Nat.zero_add, Nat.add_zero, Nat.reduceAdd, Nat.reduceMul, Int.toNat_zero, Int.toNat_one, Nat.zero_mul, Nat.one_mul]
    exact k
  · refine dyn1_of A.a10 ?_
    refine Eq.mpr (E_message_table_17.at ..) ?_
    rw [F_message_table_17.eq_1, F_message_table_17_of.eq_1]
    simp only [nn_some, pt_add, Nat.zero_add, Nat.add_zero, Nat.reduceAdd, Nat.reduceMul, Int.toNat_zero, Int.toNat_one, Nat.zero_mul, Nat.one_mul]
    exact k
theorem ld_u {p : Nat} {K : Int → Prop} (hp : p < 18) (hc : pc p = 0) (C : cellsAre h (pt b 0) (mgC m)) (k : K (pget p m)) : ld [.int .u64] (pt b (p + 4)) h K := by
  have key : ∀ o, ldL [.int .u64] ((mgC m).drop o) K → ld [.int .u64] (pt b o) h K := fun o hl => by
    have := ld_drop C o hl
    rwa [pt_add, Nat.zero_add] at this
  rcases (cas hp hc).1 rfl with rfl | rfl | rfl | rfl | rfl | rfl | rfl | rfl | rfl <;> exact key _ (ldL_c (ldL_n k))
theorem ld_i {p : Nat} {K : Int → Prop} (hp : p < 18) (hc : pc p = 1) (C : cellsAre h (pt b 0) (mgC m)) (k : K (pget p m)) : ld [.int .i64] (pt b (p + 4)) h K := by
  have key : ∀ o, ldL [.int .i64] ((mgC m).drop o) K → ld [.int .i64] (pt b o) h K := fun o hl => by
    have := ld_drop C o hl
    rwa [pt_add, Nat.zero_add] at this
  rcases (cas hp hc).2.1 rfl with rfl | rfl | rfl | rfl <;> exact key _ (ldL_c (ldL_n k))
def pstr (p : Nat) (m : Mg) : ByteArray := if p = 9 then m.name else m.other
theorem pstr_txt {p : Nat} (hp : p < 18) (hc : pc p = 2) : (pstr p m).data.toList = ptxt p m := by
  rcases (cas hp hc).2.2.1 rfl with rfl | rfl <;> rfl
theorem pstr_len {p : Nat} (hp : p < 18) (hc : pc p = 2) : (pstr p m).size = (ptxt p m).length := by
  rw [← pstr_txt hp hc, Array.length_toList]
  rfl
theorem ld_a {p : Nat} {K : ByteArray → Prop} (hp : p < 18) (hc : pc p = 2) (C : cellsAre h (pt b 0) (mgC m)) (k : K (pstr p m)) : ld [.str] (pt b (p + 4)) h K := by
  have key : ∀ o, ldL [.str] ((mgC m).drop o) K → ld [.str] (pt b o) h K := fun o hl => by
    have := ld_drop C o hl
    rwa [pt_add, Nat.zero_add] at this
  rcases (cas hp hc).2.2.1 rfl with rfl | rfl <;> exact key _ (ldL_c (ldL_n k))
theorem may_u {p : Nat} (hp : p < 18) (hc : pc p = 0) (ok : Pos m) : decide (pget p m ≤ (pmax p : Nat)) = mayB p m := by
  have := ok p hc
  unfold mayB
  have h2 : pk p ≠ 2 := by rcases (cas hp hc).1 rfl with rfl | rfl | rfl | rfl | rfl | rfl | rfl | rfl | rfl <;> decide
  have h3 : p ≠ 17 := by intro e; subst e; exact absurd hc (by decide)
  rw [if_neg h2, if_neg h3]
  simp [this]
theorem zero_u {p : Nat} (hp : p < 18) (hc : pc p = 0 ∨ pc p = 1) : (pget p m == 0) = zeroB p m := by
  unfold zeroB
  have h2 : pk p ≠ 2 := by
    rcases hc with hc | hc
    · rcases (cas hp hc).1 rfl with rfl | rfl | rfl | rfl | rfl | rfl | rfl | rfl | rfl <;> decide
    · rcases (cas hp hc).2.1 rfl with rfl | rfl | rfl | rfl <;> decide
  rw [if_neg h2]
  rfl
theorem F_message_number_1.is {p x y : Nat} {Q : Bool → Heap → Prop} (hp : p < 18) (hc : pc p = 0) (ok : Pos m) (C : cellsAre h (pt b 0) (mgC m)) (c1 : cellsAre h (pt x 0) [Kd.enc .fn (atV p)]) (c2 : cellsAre h (pt y 0) [.int .u64 (pmax p : Nat)]) (k : Q (mayB p m) h) : F_message_number_1 (some (pt b 0)) (pt x 0) (pt y 0) h Q := by
  rw [F_message_number_1.eq_1, F_message_number_1_of.eq_1]
  refine ld_are c1 (ldL_c (ldL_n ?_))
  refine ld_are c2 (ldL_c (ldL_n ?_))
  refine at_num hp hc ⟨rfl, rfl, rfl, rfl, rfl, rfl, rfl, rfl, rfl⟩ ⟨c2, ?_⟩
  simp only [nn_some, pt_add, Nat.zero_add, Nat.add_zero, Nat.reduceAdd, Nat.reduceMul, Int.toNat_zero, Int.toNat_one, Nat.zero_mul, Nat.one_mul]
  refine ld_u hp hc C ?_
  rw [may_u hp hc ok]
  exact k
theorem F_message_number_2.is {p x : Nat} {Q : Bool → Heap → Prop} (hp : p < 18) (hc : pc p = 0) (C : cellsAre h (pt b 0) (mgC m)) (c1 : cellsAre h (pt x 0) [Kd.enc .fn (atV p)]) (k : Q (zeroB p m) h) : F_message_number_2 (some (pt b 0)) (pt x 0) h Q := by
  rw [F_message_number_2.eq_1, F_message_number_2_of.eq_1]
  refine ld_are c1 (ldL_c (ldL_n ?_))
  refine at_num hp hc ⟨rfl, rfl, rfl, rfl, rfl, rfl, rfl, rfl, rfl⟩ ?_
  simp only [nn_some, pt_add, Nat.zero_add, Nat.add_zero, Nat.reduceAdd, Nat.reduceMul, Int.toNat_zero, Int.toNat_one, Nat.zero_mul, Nat.one_mul]
  refine ld_u hp hc C ?_
  rw [zero_u hp (.inl hc)]
  exact k
theorem F_message_small_1.is {p x y : Nat} {Q : Bool → Heap → Prop} (hp : p < 18) (hc : pc p = 1) (C : cellsAre h (pt b 0) (mgC m)) (c1 : cellsAre h (pt x 0) [Kd.enc .fn (atV p)]) (c2 : cellsAre h (pt y 0) [.int .i64 (pmax p : Nat)]) (k : Q (mayB p m) h) : F_message_small_1 (some (pt b 0)) (pt x 0) (pt y 0) h Q := by
  rw [F_message_small_1.eq_1, F_message_small_1_of.eq_1]
  refine jn_go ?_
  have h2 : pk p ≠ 2 ∧ p ≠ 17 := by rcases (cas hp hc).2.1 rfl with rfl | rfl | rfl | rfl <;> decide
  have e : mayB p m = decide (0 ≤ pget p m ∧ pget p m ≤ (pmax p : Nat)) := by
    unfold mayB
    rw [if_neg h2.1, if_neg h2.2]
  refine ld_are c1 (ldL_c (ldL_n ?_))
  refine at_sml hp hc ⟨rfl, rfl, rfl, rfl⟩ ?_
  simp only [nn_some, pt_add, Nat.zero_add, Nat.add_zero, Nat.reduceAdd, Nat.reduceMul, Int.toNat_zero, Int.toNat_one, Nat.zero_mul, Nat.one_mul]
  refine ld_i hp hc C ?_
  refine brr_p (fun h1 => ?_) (fun h1 => ?_)
  · refine ld_are c1 (ldL_c (ldL_n ?_))
    refine ld_are c2 (ldL_c (ldL_n ?_))
    refine at_sml hp hc ⟨rfl, rfl, rfl, rfl⟩ ⟨c2, ?_⟩
    simp only [nn_some, pt_add, Nat.zero_add, Nat.add_zero, Nat.reduceAdd, Nat.reduceMul, Int.toNat_zero, Int.toNat_one, Nat.zero_mul, Nat.one_mul]
    refine ld_i hp hc C ?_
    rw [show decide (pget p m ≤ ((pmax p : Nat) : Int)) = mayB p m by rw [e]; simp; omega]
    exact k
  · rw [show false = mayB p m by rw [e]; simp; omega]
    exact k
theorem F_message_small_2.is {p x : Nat} {Q : Bool → Heap → Prop} (hp : p < 18) (hc : pc p = 1) (C : cellsAre h (pt b 0) (mgC m)) (c1 : cellsAre h (pt x 0) [Kd.enc .fn (atV p)]) (k : Q (zeroB p m) h) : F_message_small_2 (some (pt b 0)) (pt x 0) h Q := by
  rw [F_message_small_2.eq_1, F_message_small_2_of.eq_1]
  refine ld_are c1 (ldL_c (ldL_n ?_))
  refine at_sml hp hc ⟨rfl, rfl, rfl, rfl⟩ ?_
  simp only [nn_some, pt_add, Nat.zero_add, Nat.add_zero, Nat.reduceAdd, Nat.reduceMul, Int.toNat_zero, Int.toNat_one, Nat.zero_mul, Nat.one_mul]
  refine ld_i hp hc C ?_
  rw [zero_u hp (.inr hc)]
  exact k
theorem F_message_name_1.is {p x : Nat} {Q : Bool → Heap → Prop} (hp : p < 18) (hc : pc p = 2) (C : cellsAre h (pt b 0) (mgC m)) (c1 : cellsAre h (pt x 0) [Kd.enc .fn (atV p)]) (k : Q (mayB p m) h) : F_message_name_1 (some (pt b 0)) (pt x 0) h Q := by
  rw [F_message_name_1.eq_1, F_message_name_1_of.eq_1]
  refine ld_are c1 (ldL_c (ldL_n ?_))
  refine at_nam hp hc ⟨rfl, rfl⟩ ?_
  simp only [nn_some, pt_add, Nat.zero_add, Nat.add_zero, Nat.reduceAdd, Nat.reduceMul, Int.toNat_zero, Int.toNat_one, Nat.zero_mul, Nat.one_mul]
  refine ld_a hp hc C ?_
  have h2 : pk p = 2 ∧ pmax p = 64 := by rcases (cas hp hc).2.2.1 rfl with rfl | rfl <;> decide
  rw [show decide (((pstr p m).size : Int) ≤ 64) = mayB p m by
    unfold mayB
    rw [if_pos h2.1, h2.2, pstr_len hp hc]
    exact decide_eq_decide.2 (by omega)]
  exact k
theorem F_message_name_2.is {p x : Nat} {Q : Bool → Heap → Prop} (hp : p < 18) (hc : pc p = 2) (C : cellsAre h (pt b 0) (mgC m)) (c1 : cellsAre h (pt x 0) [Kd.enc .fn (atV p)]) (k : Q (zeroB p m) h) : F_message_name_2 (some (pt b 0)) (pt x 0) h Q := by
  rw [F_message_name_2.eq_1, F_message_name_2_of.eq_1]
  refine ld_are c1 (ldL_c (ldL_n ?_))
  refine at_nam hp hc ⟨rfl, rfl⟩ ?_
  simp only [nn_some, pt_add, Nat.zero_add, Nat.add_zero, Nat.reduceAdd, Nat.reduceMul, Int.toNat_zero, Int.toNat_one, Nat.zero_mul, Nat.one_mul]
  refine ld_a hp hc C ?_
  have h2 : pk p = 2 := by rcases (cas hp hc).2.2.1 rfl with rfl | rfl <;> decide
  rw [show ((pstr p m).toList == (⟨#[]⟩ : ByteArray).toList) = zeroB p m by
    unfold zeroB
    rw [if_pos h2, ByteArray.toList_eq, ByteArray.toList_eq, pstr_txt hp hc]
    show (ptxt p m == []) = _
    cases ptxt p m <;> rfl]
  exact k
theorem ldo {ks : List Kd} {o : Nat} {K : Fn ks Prop} (C : cellsAre h (pt b 0) (mgC m)) (hl : ldL ks ((mgC m).drop o) K) : ld ks (pt b o) h K := by
  have := ld_drop C o hl
  rwa [pt_add, Nat.zero_add] at this
theorem F_message_table_5.is {Q : Bool → Heap → Prop} (C : cellsAre h (pt b 0) (mgC m)) (k : Q (mayB 4 m) h) : F_message_table_5 (some (pt b 0)) h Q := by
  rw [F_message_table_5.eq_1, F_message_table_5_of.eq_1]
  refine jn_go ?_
  have e : mayB 4 m = decide (0 ≤ m.span ∧ m.span ≤ ((1025 : Nat) : Int)) := rfl
  simp only [nn_some, pt_add, Nat.zero_add, Nat.add_zero, Nat.reduceAdd, Nat.reduceMul, Int.toNat_zero, Int.toNat_one, Nat.zero_mul, Nat.one_mul]
  refine ldo C (ldL_c (ldL_n ?_))
  refine brr_p (fun h1 => ?_) (fun h1 => ?_)
  · refine ldo C (ldL_c (ldL_n ?_))
    rw [show decide (m.span ≤ 1025) = mayB 4 m by rw [e]; simp; omega]
    exact k
  · rw [show false = mayB 4 m by rw [e]; simp; omega]
    exact k
theorem F_message_table_6.is {Q : Bool → Heap → Prop} (C : cellsAre h (pt b 0) (mgC m)) (k : Q (zeroB 4 m) h) : F_message_table_6 (some (pt b 0)) h Q := by
  rw [F_message_table_6.eq_1, F_message_table_6_of.eq_1]
  simp only [nn_some, pt_add, Nat.zero_add, Nat.add_zero, Nat.reduceAdd, Nat.reduceMul, Int.toNat_zero, Int.toNat_one, Nat.zero_mul, Nat.one_mul]
  exact ldo C (ldL_c (ldL_n k))
theorem F_message_table_10.is {Q : Bool → Heap → Prop} (C : MsgAt h b m) (k : Q (mayB 6 m) h) : F_message_table_10 (some (pt b 0)) h Q := by
  rw [F_message_table_10.eq_1, F_message_table_10_of.eq_1]
  simp only [nn_some, pt_add, Nat.zero_add, Nat.add_zero, Nat.reduceAdd, Nat.reduceMul, Int.toNat_zero, Int.toNat_one, Nat.zero_mul, Nat.one_mul]
  refine ldo C.1 (ldL_s (ldL_n ?_))
  rw [show decide (((m.v.len : Nat) : Int) ≤ 16384) = mayB 6 m by
    show _ = decide (m.b.length ≤ 16384)
    rw [C.2]
    exact decide_eq_decide.2 (by omega)]
  exact k
theorem F_message_table_11.is {Q : Bool → Heap → Prop} (C : MsgAt h b m) (k : Q (zeroB 6 m) h) : F_message_table_11 (some (pt b 0)) h Q := by
  rw [F_message_table_11.eq_1, F_message_table_11_of.eq_1]
  simp only [nn_some, pt_add, Nat.zero_add, Nat.add_zero, Nat.reduceAdd, Nat.reduceMul, Int.toNat_zero, Int.toNat_one, Nat.zero_mul, Nat.one_mul]
  refine ldo C.1 (ldL_s (ldL_n ?_))
  rw [show (((m.v.len : Nat) : Int) == 0) = zeroB 6 m by
    show decide (((m.v.len : Nat) : Int) = 0) = decide (m.b.length = 0)
    rw [C.2]
    exact decide_eq_decide.2 (by omega)]
  exact k
theorem F_message_table_24.is {Q : Bool → Heap → Prop} (C : cellsAre h (pt b 0) (mgC m)) (k : Q (mayB 17 m) h) : F_message_table_24 (some (pt b 0)) h Q := by
  rw [F_message_table_24.eq_1, F_message_table_24_of.eq_1]
  refine jn_go ?_
  have e : mayB 17 m = decide (m.bad = 0 ∨ (300 ≤ m.bad ∧ m.bad ≤ 307)) := rfl
  simp only [nn_some, pt_add, Nat.zero_add, Nat.add_zero, Nat.reduceAdd, Nat.reduceMul, Int.toNat_zero, Int.toNat_one, Nat.zero_mul, Nat.one_mul]
  refine ldo C (ldL_c (ldL_n ?_))
  refine brr_eq (fun h1 => ?_) (fun h1 => ?_)
  · rw [show true = mayB 17 m by rw [e]; simp; omega]
    exact k
  · refine ldo C (ldL_c (ldL_n ?_))
    refine brr_p (fun h1 => ?_) (fun h1 => ?_)
    · refine ldo C (ldL_c (ldL_n ?_))
      rw [show decide (m.bad ≤ 307) = mayB 17 m by rw [e]; exact decide_eq_decide.2 (by omega)]
      exact k
    · rw [show false = mayB 17 m by rw [e]; simp; omega]
      exact k
theorem F_message_table_25.is {Q : Bool → Heap → Prop} (C : cellsAre h (pt b 0) (mgC m)) (k : Q (zeroB 17 m) h) : F_message_table_25 (some (pt b 0)) h Q := by
  rw [F_message_table_25.eq_1, F_message_table_25_of.eq_1]
  simp only [nn_some, pt_add, Nat.zero_add, Nat.add_zero, Nat.reduceAdd, Nat.reduceMul, Int.toNat_zero, Int.toNat_one, Nat.zero_mul, Nat.one_mul]
  exact ldo C (ldL_c (ldL_n k))
structure PureC (Φ : Fns) : Prop where
  table_5 : Φ 61 = E_message_table_5
  table_6 : Φ 62 = E_message_table_6
  table_10 : Φ 68 = E_message_table_10
  table_11 : Φ 69 = E_message_table_11
  table_24 : Φ 87 = E_message_table_24
  table_25 : Φ 88 = E_message_table_25
  number_1 : Φ 122 = E_message_number_1
  number_2 : Φ 123 = E_message_number_2
  small_1 : Φ 134 = E_message_small_1
  small_2 : Φ 135 = E_message_small_2
  name_1 : Φ 138 = E_message_name_1
  name_2 : Φ 139 = E_message_name_2
theorem pmay_is {Φ : Fns} {p : Nat} {v1 v2 v3 v4 : Option FV} {K : Bool → Heap → Prop} (A : PureC Φ) (hp : p < 18) (P : PrimOk T p v1 v2 v3 v4) (ok : Pos m) (C : MsgAt h b m) (B : Bx h T) (k : K (mayB p m) h) : dyn1 .bool Φ (Kd.enc .fn v1) [.pointer (some (pt b 0))] h K := by
  have h4 : pc p < 4 := (cas hp rfl).2.2.2.2
  rcases (by omega : pc p = 0 ∨ pc p = 1 ∨ pc p = 2 ∨ pc p = 3) with hc | hc | hc | hc
  · obtain ⟨x, y, e1, e2, q1, q2, q3, q4⟩ := P.num hc
    subst q1 q2 q3 q4
    refine dyn1_of A.number_1 ?_
    refine Eq.mpr (E_message_number_1.at ..) ?_
    exact F_message_number_1.is hp hc ok C.1 (B _ e1) (B _ e2) k
  · obtain ⟨x, y, e1, e2, q1, q2, q3, q4⟩ := P.sml hc
    subst q1 q2 q3 q4
    refine dyn1_of A.small_1 ?_
    refine Eq.mpr (E_message_small_1.at ..) ?_
    exact F_message_small_1.is hp hc C.1 (B _ e1) (B _ e2) k
  · obtain ⟨x, e1, q1, q2, q3, q4⟩ := P.nam hc
    subst q1 q2 q3 q4
    refine dyn1_of A.name_1 ?_
    refine Eq.mpr (E_message_name_1.at ..) ?_
    exact F_message_name_1.is hp hc C.1 (B _ e1) k
  · rcases (cas hp hc).2.2.2.1 rfl with rfl | rfl | rfl
    · obtain ⟨q1, q2, q3, q4⟩ := P.c4 rfl
      subst q1 q2 q3 q4
      refine dyn1_of A.table_5 ?_
      refine Eq.mpr (E_message_table_5.at ..) ?_
      exact F_message_table_5.is C.1 k
    · obtain ⟨q1, q2, q3, q4⟩ := P.c6 rfl
      subst q1 q2 q3 q4
      refine dyn1_of A.table_10 ?_
      refine Eq.mpr (E_message_table_10.at ..) ?_
      exact F_message_table_10.is C k
    · obtain ⟨q1, q2, q3, q4⟩ := P.c17 rfl
      subst q1 q2 q3 q4
      refine dyn1_of A.table_24 ?_
      refine Eq.mpr (E_message_table_24.at ..) ?_
      exact F_message_table_24.is C.1 k
theorem pzero_is {Φ : Fns} {p : Nat} {v1 v2 v3 v4 : Option FV} {K : Bool → Heap → Prop} (A : PureC Φ) (hp : p < 18) (P : PrimOk T p v1 v2 v3 v4) (ok : Pos m) (C : MsgAt h b m) (B : Bx h T) (k : K (zeroB p m) h) : dyn1 .bool Φ (Kd.enc .fn v2) [.pointer (some (pt b 0))] h K := by
  have h4 : pc p < 4 := (cas hp rfl).2.2.2.2
  rcases (by omega : pc p = 0 ∨ pc p = 1 ∨ pc p = 2 ∨ pc p = 3) with hc | hc | hc | hc
  · obtain ⟨x, y, e1, e2, q1, q2, q3, q4⟩ := P.num hc
    subst q1 q2 q3 q4
    refine dyn1_of A.number_2 ?_
    refine Eq.mpr (E_message_number_2.at ..) ?_
    exact F_message_number_2.is hp hc C.1 (B _ e1) k
  · obtain ⟨x, y, e1, e2, q1, q2, q3, q4⟩ := P.sml hc
    subst q1 q2 q3 q4
    refine dyn1_of A.small_2 ?_
    refine Eq.mpr (E_message_small_2.at ..) ?_
    exact F_message_small_2.is hp hc C.1 (B _ e1) k
  · obtain ⟨x, e1, q1, q2, q3, q4⟩ := P.nam hc
    subst q1 q2 q3 q4
    refine dyn1_of A.name_2 ?_
    refine Eq.mpr (E_message_name_2.at ..) ?_
    exact F_message_name_2.is hp hc C.1 (B _ e1) k
  · rcases (cas hp hc).2.2.2.1 rfl with rfl | rfl | rfl
    · obtain ⟨q1, q2, q3, q4⟩ := P.c4 rfl
      subst q1 q2 q3 q4
      refine dyn1_of A.table_6 ?_
      refine Eq.mpr (E_message_table_6.at ..) ?_
      exact F_message_table_6.is C.1 k
    · obtain ⟨q1, q2, q3, q4⟩ := P.c6 rfl
      subst q1 q2 q3 q4
      refine dyn1_of A.table_11 ?_
      refine Eq.mpr (E_message_table_11.at ..) ?_
      exact F_message_table_11.is C k
    · obtain ⟨q1, q2, q3, q4⟩ := P.c17 rfl
      subst q1 q2 q3 q4
      refine dyn1_of A.table_25 ?_
      refine Eq.mpr (E_message_table_25.at ..) ?_
      exact F_message_table_25.is C.1 k
structure BothC (Φ : Fns) : Prop where
  p : PureC Φ
  both_1 : Φ 126 = E_message_both_1
  both_2 : Φ 127 = E_message_both_2
theorem ld4 {a : Nat} {x0 x1 x2 x3 : Option FV} (C : cellsAre h (pt a 0) [Kd.enc .fn x0, Kd.enc .fn x1, Kd.enc .fn x2, Kd.enc .fn x3]) {K : Option FV → Prop} : (K x0 → ld [.fn] (pt a 0) h K) ∧ (K x1 → ld [.fn] (pt a 1) h K) ∧ (K x2 → ld [.fn] (pt a 2) h K) ∧ (K x3 → ld [.fn] (pt a 3) h K) := by
  have key : ∀ o, ldL [.fn] (([Kd.enc .fn x0, Kd.enc .fn x1, Kd.enc .fn x2, Kd.enc .fn x3] : List Value).drop o) K → ld [.fn] (pt a o) h K := fun o hl => by
    have := ld_drop C o hl
    rwa [pt_add, Nat.zero_add] at this
  exact ⟨fun k => key 0 (ldL_c (ldL_n k)), fun k => key 1 (ldL_c (ldL_n k)), fun k => key 2 (ldL_c (ldL_n k)), fun k => key 3 (ldL_c (ldL_n k))⟩
theorem F_message_both_1.is {p q x y : Nat} {a1 a2 a3 a4 c1 c2 c3 c4 : Option FV} {Q : Bool → Heap → Prop} (hp : p < 18) (hq : q < 18) (P : PrimOk T p a1 a2 a3 a4) (P2 : PrimOk T q c1 c2 c3 c4) (ok : Pos m) (C : MsgAt h b m) (B : Bx h T) (e1 : cellsAre h (pt x 0) [Kd.enc .fn a1, Kd.enc .fn a2, Kd.enc .fn a3, Kd.enc .fn a4]) (e2 : cellsAre h (pt y 0) [Kd.enc .fn c1, Kd.enc .fn c2, Kd.enc .fn c3, Kd.enc .fn c4]) (k : Q (mayB p m && mayB q m) h) : F_message_both_1 (some (pt b 0)) (pt x 0) (pt y 0) h Q := by
  rw [F_message_both_1.eq_1, F_message_both_1_of.eq_1]
  refine jn_go ?_
  simp only [nn_some, pt_add, Nat.zero_add, Nat.add_zero, Nat.reduceAdd, Nat.reduceMul, Int.toNat_zero, Int.toNat_one, Nat.zero_mul, Nat.one_mul]
  refine (ld4 e1).1 ?_
  refine pmay_is ⟨rfl, rfl, rfl, rfl, rfl, rfl, rfl, rfl, rfl, rfl, rfl, rfl⟩ hp P ok C B ?_
  refine brr_of (fun h1 => ?_) (fun h1 => ?_)
  · refine (ld4 e2).1 ?_
    refine pmay_is ⟨rfl, rfl, rfl, rfl, rfl, rfl, rfl, rfl, rfl, rfl, rfl, rfl⟩ hq P2 ok C B ?_
    rwa [h1, Bool.true_and] at k
  · rwa [h1, Bool.false_and] at k
theorem F_message_both_2.is {p q x y : Nat} {a1 a2 a3 a4 c1 c2 c3 c4 : Option FV} {Q : Bool → Heap → Prop} (hp : p < 18) (hq : q < 18) (P : PrimOk T p a1 a2 a3 a4) (P2 : PrimOk T q c1 c2 c3 c4) (ok : Pos m) (C : MsgAt h b m) (B : Bx h T) (e1 : cellsAre h (pt x 0) [Kd.enc .fn a1, Kd.enc .fn a2, Kd.enc .fn a3, Kd.enc .fn a4]) (e2 : cellsAre h (pt y 0) [Kd.enc .fn c1, Kd.enc .fn c2, Kd.enc .fn c3, Kd.enc .fn c4]) (k : Q (zeroB p m && zeroB q m) h) : F_message_both_2 (some (pt b 0)) (pt x 0) (pt y 0) h Q := by
  rw [F_message_both_2.eq_1, F_message_both_2_of.eq_1]
  refine jn_go ?_
  simp only [nn_some, pt_add, Nat.zero_add, Nat.add_zero, Nat.reduceAdd, Nat.reduceMul, Int.toNat_zero, Int.toNat_one, Nat.zero_mul, Nat.one_mul]
  refine (ld4 e1).2.1 ?_
  refine pzero_is ⟨rfl, rfl, rfl, rfl, rfl, rfl, rfl, rfl, rfl, rfl, rfl, rfl⟩ hp P ok C B ?_
  refine brr_of (fun h1 => ?_) (fun h1 => ?_)
  · refine (ld4 e2).2.1 ?_
    refine pzero_is ⟨rfl, rfl, rfl, rfl, rfl, rfl, rfl, rfl, rfl, rfl, rfl, rfl⟩ hq P2 ok C B ?_
    rwa [h1, Bool.true_and] at k
  · rwa [h1, Bool.false_and] at k
def mayF (f : Nat) (m : Mg) : Bool := (fp f).all fun p => mayB p m
theorem fmay_is {Φ : Fns} {f : Nat} {v1 v2 v3 v4 : Option FV} {K : Bool → Heap → Prop} (A : BothC Φ) (F : FieldOk T f v1 v2 v3 v4) (ok : Pos m) (C : MsgAt h b m) (B : Bx h T) (k : K (mayF f m) h) : dyn1 .bool Φ (Kd.enc .fn v1) [.pointer (some (pt b 0))] h K := by
  unfold mayF at k
  rcases F with ⟨p, hp, e, P⟩ | ⟨p, q, x, y, a1, a2, a3, a4, c1, c2, c3, c4, hp, hq, e, e1, e2, P, P2, q1, q2, q3, q4⟩
  · rw [e] at k
    refine pmay_is A.p hp P ok C B ?_
    simpa using k
  · subst q1 q2 q3 q4
    rw [e] at k
    refine dyn1_of A.both_1 ?_
    refine Eq.mpr (E_message_both_1.at ..) ?_
    have k2 : K (mayB p m && mayB q m) h := by simpa using k
    exact F_message_both_1.is hp hq P P2 ok C B (B _ e1) (B _ e2) k2
def zeroF (f : Nat) (m : Mg) : Bool := (fp f).all fun p => zeroB p m
theorem fzero_is {Φ : Fns} {f : Nat} {v1 v2 v3 v4 : Option FV} {K : Bool → Heap → Prop} (A : BothC Φ) (F : FieldOk T f v1 v2 v3 v4) (ok : Pos m) (C : MsgAt h b m) (B : Bx h T) (k : K (zeroF f m) h) : dyn1 .bool Φ (Kd.enc .fn v2) [.pointer (some (pt b 0))] h K := by
  unfold zeroF at k
  rcases F with ⟨p, hp, e, P⟩ | ⟨p, q, x, y, a1, a2, a3, a4, c1, c2, c3, c4, hp, hq, e, e1, e2, P, P2, q1, q2, q3, q4⟩
  · rw [e] at k
    refine pzero_is A.p hp P ok C B ?_
    simpa using k
  · subst q1 q2 q3 q4
    rw [e] at k
    refine dyn1_of A.both_2 ?_
    refine Eq.mpr (E_message_both_2.at ..) ?_
    have k2 : K (zeroB p m && zeroB q m) h := by simpa using k
    exact F_message_both_2.is hp hq P P2 ok C B (B _ e1) (B _ e2) k2
end
end Go.Proofs.YthiginhigfieiaaGreatDoor.V
/- What the fields' function values write and read. -/
namespace Go.Proofs.YthiginhigfieiaaGreatDoor.V
open Go Go.RowKit
set_option linter.unusedVariables false
set_option linter.unusedSimpArgs false
section
variable {h0 h : Heap} {L : List Res} {b w : Nat} {m : Mg} {T : Bxs}
theorem Sat.s2bM {T : Nat} {bs : ByteArray} {xs : List UInt8} {K : Sl → Heap → Prop} (O : Sat h0 h L) (hb : bs = ⟨xs.toArray⟩) (k : ∀ s h', Sat h0 h' (buf 1 u8 s xs :: L) → K s h') : V.s2b T bs h K := by
  subst hb
  intro c hc
  have hs : (⟨xs.toArray⟩ : ByteArray).size = xs.length := rfl
  rw [hs] at hc ⊢
  have fl : ∀ l : List UInt8, (l.map fun b => Value.int .u8 (b.toNat : Int)) = l.flatMap u8 := by
    intro l
    induction l with
    | nil => rfl
    | cons x l ih => rw [List.map_cons, List.flatMap_cons, ih]; rfl
  have e : (⟨xs.toArray⟩ : ByteArray).data.toList = xs := rfl
  rw [e, fl]
  have hl := flatMap_len u8_len xs
  have O' := O.push (xs.flatMap u8 ++ List.replicate (c - xs.length) (Value.int .u8 0)) T (c, c + 1) (.inr (by rw [List.length_append, hl, List.length_replicate]; omega))
  have O2 := (O'.own_buf (k := c - xs.length) (sz := 1) (by simp)).bufsI
  rw [show xs.length + (c - xs.length) = c by omega] at O2
  exact k _ _ O2
/-- What a writer of fields sees. -/
def Sees (h0 : Heap) (L : List Res) (b : Nat) (m : Mg) (T : Bxs) : Prop := Stays h0 L fun h => MsgAt h b m ∧ Bytes h m.v m.b ∧ Bx h T
theorem F_message_number_3.is {p x : Nat} {l : List UInt8} {Q : Heap → Prop} (hp : p < 18) (hc : pc p = 0) (hm : mayB p m = true) (S : Sees h0 L b m T) (e1 : (x, [Kd.enc .fn (atV p)]) ∈ T) (hl : l.length + 10 ≤ (140737488355328 : Nat)) (O : Sat h0 h (wrR w l :: L)) (k : ∀ h', Sat h0 h' (wrR w (l ++ bytP p m) :: L) → Q h') : F_message_number_3 (some (pt w 0)) (some (pt b 0)) (pt x 0) h Q := by
  rw [F_message_number_3.eq_1, F_message_number_3_of.eq_1]
  obtain ⟨C, _, B⟩ := S h O.drop
  refine ld_are (B _ e1) (ldL_c (ldL_n ?_))
  refine at_num hp hc ⟨rfl, rfl, rfl, rfl, rfl, rfl, rfl, rfl, rfl⟩ ?_
  simp only [nn_some, pt_add, Nat.zero_add, Nat.add_zero, Nat.reduceAdd, Nat.reduceMul, Int.toNat_zero, Int.toNat_one, Nat.zero_mul, Nat.one_mul]
  refine ld_u hp hc C.1 ?_
  have h2 : pk p = 0 := by rcases (cas hp hc).1 rfl with rfl | rfl | rfl | rfl | rfl | rfl | rfl | rfl | rfl <;> rfl
  obtain ⟨g1, g2⟩ := may_num hm (by omega)
  have g3 := pmax_le p
  have e : bytP p m = varB (pget p m).toNat := by unfold bytP; rw [if_neg (by omega), if_neg (by omega)]
  rw [e] at k
  have F := F_code_Writer_Var.is (n := (pget p m).toNat) (Q := Q) O (by omega) hl k
  rwa [show (((pget p m).toNat : Nat) : Int) = pget p m by omega] at F
theorem F_message_small_3.is {p x : Nat} {l : List UInt8} {Q : Heap → Prop} (hp : p < 18) (hc : pc p = 1) (hm : mayB p m = true) (S : Sees h0 L b m T) (e1 : (x, [Kd.enc .fn (atV p)]) ∈ T) (hl : l.length + 10 ≤ (140737488355328 : Nat)) (O : Sat h0 h (wrR w l :: L)) (k : ∀ h', Sat h0 h' (wrR w (l ++ bytP p m) :: L) → Q h') : F_message_small_3 (some (pt w 0)) (some (pt b 0)) (pt x 0) h Q := by
  rw [F_message_small_3.eq_1, F_message_small_3_of.eq_1]
  obtain ⟨C, _, B⟩ := S h O.drop
  refine ld_are (B _ e1) (ldL_c (ldL_n ?_))
  refine at_sml hp hc ⟨rfl, rfl, rfl, rfl⟩ ?_
  simp only [nn_some, pt_add, Nat.zero_add, Nat.add_zero, Nat.reduceAdd, Nat.reduceMul, Int.toNat_zero, Int.toNat_one, Nat.zero_mul, Nat.one_mul]
  refine ld_i hp hc C.1 ?_
  have h2 : pk p = 1 := by rcases (cas hp hc).2.1 rfl with rfl | rfl | rfl | rfl <;> rfl
  obtain ⟨g1, g2⟩ := may_num hm (by omega)
  have g3 := pmax_small h2
  have e : bytP p m = fixB (pget p m).toNat 1 := by unfold bytP; rw [if_neg (by omega), if_pos h2]
  rw [e] at k
  have F := F_code_Writer_U8.is (n := (pget p m).toNat) (Q := Q) O (by omega) (by omega) k
  rw [wrapu8 (x := pget p m) (by omega) (by omega)]
  rwa [show (((pget p m).toNat : Nat) : Int) = pget p m by omega] at F
theorem F_message_name_3.is {p x : Nat} {l : List UInt8} {Q : Heap → Prop} (hp : p < 18) (hc : pc p = 2) (hm : mayB p m = true) (S : Sees h0 L b m T) (e1 : (x, [Kd.enc .fn (atV p)]) ∈ T) (hl : l.length + 20000 ≤ (140737488355328 : Nat)) (O : Sat h0 h (wrR w l :: L)) (k : ∀ h', Sat h0 h' (wrR w (l ++ bytP p m) :: L) → Q h') : F_message_name_3 (some (pt w 0)) (some (pt b 0)) (pt x 0) h Q := by
  rw [F_message_name_3.eq_1, F_message_name_3_of.eq_1]
  obtain ⟨C, _, B⟩ := S h O.drop
  refine ld_are (B _ e1) (ldL_c (ldL_n ?_))
  refine at_nam hp hc ⟨rfl, rfl⟩ ?_
  simp only [nn_some, pt_add, Nat.zero_add, Nat.add_zero, Nat.reduceAdd, Nat.reduceMul, Int.toNat_zero, Int.toNat_one, Nat.zero_mul, Nat.one_mul]
  refine ld_a hp hc C.1 ?_
  have h2 : pk p = 2 ∧ pmax p = 64 := by rcases (cas hp hc).2.2.1 rfl with rfl | rfl <;> decide
  have g := may_txt hm h2.1
  have e : bytP p m = varB (ptxt p m).length ++ ptxt p m := by unfold bytP; rw [if_pos h2.1]
  rw [e] at k
  refine O.s2bM (xs := ptxt p m) (by rw [← pstr_txt hp hc]) fun s h O => ?_
  refine F_code_Writer_Bytes.is O.swap (fun h O => (O.view 0 u8_len (by simp) rfl).1) (by omega) fun h O => ?_
  exact k h O.swap.drop
theorem F_message_table_7.is {l : List UInt8} {Q : Heap → Prop} (hm : mayB 4 m = true) (S : Sees h0 L b m T) (hl : l.length + 10 ≤ (140737488355328 : Nat)) (O : Sat h0 h (wrR w l :: L)) (k : ∀ h', Sat h0 h' (wrR w (l ++ bytP 4 m) :: L) → Q h') : F_message_table_7 (some (pt w 0)) (some (pt b 0)) h Q := by
  rw [F_message_table_7.eq_1, F_message_table_7_of.eq_1]
  obtain ⟨C, _, B⟩ := S h O.drop
  simp only [nn_some, pt_add, Nat.zero_add, Nat.add_zero, Nat.reduceAdd, Nat.reduceMul, Int.toNat_zero, Int.toNat_one, Nat.zero_mul, Nat.one_mul]
  refine ldo C.1 (ldL_c (ldL_n ?_))
  obtain ⟨g1, g2⟩ := may_num hm (by decide)
  have g1 : 0 ≤ m.span := g1
  have g2 : m.span ≤ ((1025 : Nat) : Int) := g2
  have F := F_code_Writer_Var.is (n := m.span.toNat) (Q := Q) O (by omega) hl k
  rw [wrapu64 (x := m.span) (by omega) (by omega)]
  rwa [show ((m.span.toNat : Nat) : Int) = m.span by omega] at F
theorem F_message_table_26.is {l : List UInt8} {Q : Heap → Prop} (hm : mayB 17 m = true) (S : Sees h0 L b m T) (hl : l.length + 10 ≤ (140737488355328 : Nat)) (O : Sat h0 h (wrR w l :: L)) (k : ∀ h', Sat h0 h' (wrR w (l ++ bytP 17 m) :: L) → Q h') : F_message_table_26 (some (pt w 0)) (some (pt b 0)) h Q := by
  rw [F_message_table_26.eq_1, F_message_table_26_of.eq_1]
  obtain ⟨C, _, B⟩ := S h O.drop
  simp only [nn_some, pt_add, Nat.zero_add, Nat.add_zero, Nat.reduceAdd, Nat.reduceMul, Int.toNat_zero, Int.toNat_one, Nat.zero_mul, Nat.one_mul]
  refine ldo C.1 (ldL_c (ldL_n ?_))
  obtain ⟨g1, g2⟩ := may_num hm (by decide)
  have g1 : 0 ≤ m.bad := g1
  have g2 : m.bad ≤ ((307 : Nat) : Int) := g2
  have F := F_code_Writer_Var.is (n := m.bad.toNat) (Q := Q) O (by omega) hl k
  rw [wrapu64 (x := m.bad) (by omega) (by omega)]
  rwa [show ((m.bad.toNat : Nat) : Int) = m.bad by omega] at F
theorem F_message_table_12.is {l : List UInt8} {Q : Heap → Prop} (hm : mayB 6 m = true) (S : Sees h0 L b m T) (hl : l.length + 20000 ≤ (140737488355328 : Nat)) (O : Sat h0 h (wrR w l :: L)) (k : ∀ h', Sat h0 h' (wrR w (l ++ bytP 6 m) :: L) → Q h') : F_message_table_12 (some (pt w 0)) (some (pt b 0)) h Q := by
  rw [F_message_table_12.eq_1, F_message_table_12_of.eq_1]
  obtain ⟨C, _, B⟩ := S h O.drop
  simp only [nn_some, pt_add, Nat.zero_add, Nat.add_zero, Nat.reduceAdd, Nat.reduceMul, Int.toNat_zero, Int.toNat_one, Nat.zero_mul, Nat.one_mul]
  refine ldo C.1 (ldL_s (ldL_n ?_))
  have g : m.b.length ≤ 16384 := may_txt hm rfl
  exact F_code_Writer_Bytes.is O (fun h O => (S h O).2.1) (by omega) k
structure WrC (Φ : Fns) : Prop where
  table_7 : Φ 63 = E_message_table_7
  table_12 : Φ 70 = E_message_table_12
  table_26 : Φ 89 = E_message_table_26
  number_3 : Φ 124 = E_message_number_3
  small_3 : Φ 136 = E_message_small_3
  name_3 : Φ 140 = E_message_name_3
theorem pwrite_is {Φ : Fns} {p : Nat} {v1 v2 v3 v4 : Option FV} {l : List UInt8} {K : Heap → Prop} (A : WrC Φ) (hp : p < 18) (P : PrimOk T p v1 v2 v3 v4) (hm : mayB p m = true) (S : Sees h0 L b m T) (hl : l.length + 20000 ≤ (140737488355328 : Nat)) (O : Sat h0 h (wrR w l :: L)) (k : ∀ h', Sat h0 h' (wrR w (l ++ bytP p m) :: L) → K h') : dyn0 Φ (Kd.enc .fn v3) [.pointer (some (pt w 0)), .pointer (some (pt b 0))] h K := by
  have h4 : pc p < 4 := (cas hp rfl).2.2.2.2
  rcases (by omega : pc p = 0 ∨ pc p = 1 ∨ pc p = 2 ∨ pc p = 3) with hc | hc | hc | hc
  · obtain ⟨x, y, e1, e2, q1, q2, q3, q4⟩ := P.num hc
    subst q1 q2 q3 q4
    refine dyn0_of A.number_3 ?_
    refine Eq.mpr (E_message_number_3.at ..) ?_
    exact F_message_number_3.is hp hc hm S e1 (by omega) O fun h O => ⟨rfl, k h O⟩
  · obtain ⟨x, y, e1, e2, q1, q2, q3, q4⟩ := P.sml hc
    subst q1 q2 q3 q4
    refine dyn0_of A.small_3 ?_
    refine Eq.mpr (E_message_small_3.at ..) ?_
    exact F_message_small_3.is hp hc hm S e1 (by omega) O fun h O => ⟨rfl, k h O⟩
  · obtain ⟨x, e1, q1, q2, q3, q4⟩ := P.nam hc
    subst q1 q2 q3 q4
    refine dyn0_of A.name_3 ?_
    refine Eq.mpr (E_message_name_3.at ..) ?_
    exact F_message_name_3.is hp hc hm S e1 (by omega) O fun h O => ⟨rfl, k h O⟩
  · rcases (cas hp hc).2.2.2.1 rfl with rfl | rfl | rfl
    · obtain ⟨q1, q2, q3, q4⟩ := P.c4 rfl
      subst q1 q2 q3 q4
      refine dyn0_of A.table_7 ?_
      refine Eq.mpr (E_message_table_7.at ..) ?_
      exact F_message_table_7.is hm S (by omega) O fun h O => ⟨rfl, k h O⟩
    · obtain ⟨q1, q2, q3, q4⟩ := P.c6 rfl
      subst q1 q2 q3 q4
      refine dyn0_of A.table_12 ?_
      refine Eq.mpr (E_message_table_12.at ..) ?_
      exact F_message_table_12.is hm S (by omega) O fun h O => ⟨rfl, k h O⟩
    · obtain ⟨q1, q2, q3, q4⟩ := P.c17 rfl
      subst q1 q2 q3 q4
      refine dyn0_of A.table_26 ?_
      refine Eq.mpr (E_message_table_26.at ..) ?_
      exact F_message_table_26.is hm S (by omega) O fun h O => ⟨rfl, k h O⟩
theorem bytP_le {p : Nat} (hp : p < 18) (hm : mayB p m = true) : (bytP p m).length ≤ 16394 := by
  unfold bytP
  split
  · rename_i h2
    have g := may_txt hm h2
    have g2 : pmax p ≤ 16384 := by
      have h4 : pc p < 4 := (cas hp rfl).2.2.2.2
      unfold pk at h2
      split at h2 <;> first | (exact absurd h2 (by decide)) | decide
    rw [List.length_append]
    have := (varB_le (n := (ptxt p m).length) (by omega)).1
    omega
  · rename_i h2
    split
    · rw [fixB_len]; omega
    · obtain ⟨g1, g2⟩ := may_num hm h2
      have g3 := pmax_le p
      have := (varB_le (n := (pget p m).toNat) (by omega)).1
      omega
theorem F_message_both_3.is {p q x y : Nat} {a1 a2 a3 a4 c1 c2 c3 c4 : Option FV} {l : List UInt8} {Q : Heap → Prop} (hp : p < 18) (hq : q < 18) (P : PrimOk T p a1 a2 a3 a4) (P2 : PrimOk T q c1 c2 c3 c4) (hm : mayB p m = true) (hm2 : mayB q m = true) (S : Sees h0 L b m T) (e1 : (x, [Kd.enc .fn a1, Kd.enc .fn a2, Kd.enc .fn a3, Kd.enc .fn a4]) ∈ T) (e2 : (y, [Kd.enc .fn c1, Kd.enc .fn c2, Kd.enc .fn c3, Kd.enc .fn c4]) ∈ T) (hl : l.length + 40000 ≤ (140737488355328 : Nat)) (O : Sat h0 h (wrR w l :: L)) (k : ∀ h', Sat h0 h' (wrR w (l ++ (bytP p m ++ bytP q m)) :: L) → Q h') : F_message_both_3 (some (pt w 0)) (some (pt b 0)) (pt x 0) (pt y 0) h Q := by
  rw [F_message_both_3.eq_1, F_message_both_3_of.eq_1]
  simp only [nn_some, pt_add, Nat.zero_add, Nat.add_zero, Nat.reduceAdd, Nat.reduceMul, Int.toNat_zero, Int.toNat_one, Nat.zero_mul, Nat.one_mul]
  refine (ld4 ((S h O.drop).2.2 _ e1)).2.2.1 ?_
  refine pwrite_is ⟨rfl, rfl, rfl, rfl, rfl, rfl⟩ hp P hm S (by omega) O fun h O => ?_
  refine (ld4 ((S h O.drop).2.2 _ e2)).2.2.1 ?_
  have := bytP_le hp hm
  refine pwrite_is ⟨rfl, rfl, rfl, rfl, rfl, rfl⟩ hq P2 hm2 S (by rw [List.length_append]; omega) O fun h O => ?_
  refine k h ?_
  rw [← List.append_assoc]
  exact O
structure Wr2C (Φ : Fns) : Prop where
  p : WrC Φ
  both_3 : Φ 128 = E_message_both_3
def bytF (f : Nat) (m : Mg) : List UInt8 := (fp f).flatMap fun p => bytP p m
theorem fwrite_is {Φ : Fns} {f : Nat} {v1 v2 v3 v4 : Option FV} {l : List UInt8} {K : Heap → Prop} (A : Wr2C Φ) (F : FieldOk T f v1 v2 v3 v4) (hm : mayF f m = true) (S : Sees h0 L b m T) (hl : l.length + 40000 ≤ (140737488355328 : Nat)) (O : Sat h0 h (wrR w l :: L)) (k : ∀ h', Sat h0 h' (wrR w (l ++ bytF f m) :: L) → K h') : dyn0 Φ (Kd.enc .fn v3) [.pointer (some (pt w 0)), .pointer (some (pt b 0))] h K := by
  unfold bytF at k
  unfold mayF at hm
  rcases F with ⟨p, hp, e, P⟩ | ⟨p, q, x, y, a1, a2, a3, a4, c1, c2, c3, c4, hp, hq, e, e1, e2, P, P2, q1, q2, q3, q4⟩
  · rw [e] at k hm
    refine pwrite_is A.p hp P (by simpa using hm) S (by omega) O fun h O => k h ?_
    simpa using O
  · subst q1 q2 q3 q4
    rw [e] at k hm
    have hm : mayB p m = true ∧ mayB q m = true := by simpa using hm
    refine dyn0_of A.both_3 ?_
    refine Eq.mpr (E_message_both_3.at ..) ?_
    refine F_message_both_3.is hp hq P P2 hm.1 hm.2 S e1 e2 hl O fun h O => ⟨rfl, k h ?_⟩
    simpa using O
/-- A message that is being read: its value's bytes are its own. -/
def mdR (b : Nat) (m : Mg) : Res := ex fun s : Sl => sep (own b (mgC { m with v := s })) (buf 1 u8 s m.b)
theorem Sat.md {h0 h : Heap} {L : List Res} {b : Nat} {m : Mg} (O : Sat h0 h (mdR b m :: L)) : ∃ s : Sl, Sat h0 h (own b (mgC { m with v := s }) :: buf 1 u8 s m.b :: L) := by
  obtain ⟨s, O⟩ := O.ex
  exact ⟨s, O.sep⟩
theorem Sat.mdI {h0 h : Heap} {L : List Res} {b : Nat} {m : Mg} {s : Sl} (O : Sat h0 h (own b (mgC { m with v := s }) :: buf 1 u8 s m.b :: L)) : Sat h0 h (mdR b m :: L) := O.sepI.exI s
theorem pset_put {p : Nat} {n : Int} {s : Sl} (hp : p < 18) : (pc p = 0 → V.put (mgC { m with v := s }) (p + 4) [.int .u64 n] = mgC { pset p n [] m with v := s } ∧ (pset p n [] m).b = m.b) ∧ ((pc p = 1 ∨ p = 4 ∨ p = 17) → V.put (mgC { m with v := s }) (p + 4) [.int .i64 n] = mgC { pset p n [] m with v := s } ∧ (pset p n [] m).b = m.b) := by
  refine ⟨fun hc => ?_, fun hc => ?_⟩
  · rcases (cas hp hc).1 rfl with rfl | rfl | rfl | rfl | rfl | rfl | rfl | rfl | rfl <;> exact ⟨rfl, rfl⟩
  · rcases hc with hc | rfl | rfl
    · rcases (cas hp hc).2.1 rfl with rfl | rfl | rfl | rfl <;> exact ⟨rfl, rfl⟩
    · exact ⟨rfl, rfl⟩
    · exact ⟨rfl, rfl⟩
theorem pset_puta {p : Nat} {l : List UInt8} {s : Sl} (hp : p < 18) (hc : pc p = 2) : V.put (mgC { m with v := s }) (p + 4) [.string ⟨l.toArray⟩] = mgC { pset p 0 l m with v := s } ∧ (pset p 0 l m).b = m.b := by
  rcases (cas hp hc).2.2.1 rfl with rfl | rfl <;> exact ⟨rfl, rfl⟩
theorem mgC_le {p : Nat} (hp : p < 18) {vs : List Value} (h1 : vs.length = 1) (m : Mg) : p + 4 + vs.length ≤ (mgC m).length := by
  rw [mgC_len]; omega
theorem Sat.setU {p : Nat} {n : Int} {K : Heap → Prop} (hp : p < 18) (hc : pc p = 0) (O : Sat h0 h (mdR b m :: L)) (k : ∀ h', Sat h0 h' (mdR b (pset p n [] m) :: L) → K h') : V.st (pt b (p + 4)) [.int .u64 n] h K := by
  obtain ⟨s, O⟩ := O.md
  refine O.st 0 rfl (mgC_le hp rfl _) rfl fun h O => k h ?_
  dsimp only [List.set] at O
  obtain ⟨e1, e2⟩ := (pset_put (m := m) (n := n) (s := s) hp).1 hc
  rw [e1, ← e2] at O
  exact O.mdI
theorem Sat.setI {p : Nat} {n : Int} {K : Heap → Prop} (hp : p < 18) (hc : pc p = 1 ∨ p = 4 ∨ p = 17) (O : Sat h0 h (mdR b m :: L)) (k : ∀ h', Sat h0 h' (mdR b (pset p n [] m) :: L) → K h') : V.st (pt b (p + 4)) [.int .i64 n] h K := by
  obtain ⟨s, O⟩ := O.md
  refine O.st 0 rfl (mgC_le hp rfl _) rfl fun h O => k h ?_
  dsimp only [List.set] at O
  obtain ⟨e1, e2⟩ := (pset_put (m := m) (n := n) (s := s) hp).2 hc
  rw [e1, ← e2] at O
  exact O.mdI
theorem Sat.setA {p : Nat} {l : List UInt8} {K : Heap → Prop} (hp : p < 18) (hc : pc p = 2) (O : Sat h0 h (mdR b m :: L)) (k : ∀ h', Sat h0 h' (mdR b (pset p 0 l m) :: L) → K h') : V.st (pt b (p + 4)) [.string ⟨l.toArray⟩] h K := by
  obtain ⟨s, O⟩ := O.md
  refine O.st 0 rfl (mgC_le hp rfl _) rfl fun h O => k h ?_
  dsimp only [List.set] at O
  obtain ⟨e1, e2⟩ := pset_puta (m := m) (l := l) (s := s) hp hc
  rw [e1, ← e2] at O
  exact O.mdI
theorem Sat.setV {l : List UInt8} {s : Sl} {K : Heap → Prop} (O : Sat h0 h (buf 1 u8 s l :: mdR b m :: L)) (k : ∀ h', Sat h0 h' (mdR b (pset 6 0 l m) :: L) → K h') : V.st (pt b 10) [.slice s.ptr s.len s.cap] h K := by
  obtain ⟨s0, O⟩ := O.swap.md
  have O := O.sel [0, 2] 3 rfl (Nat.le_add_left _ _)
  simp only [selT, List.map, nth, List.drop, List.cons_append, List.nil_append] at O
  refine O.st 0 rfl (mgC_le (p := 6) (by decide) rfl _) rfl fun h O => k h ?_
  dsimp only [List.set] at O
  have O : Sat h0 h (own b (mgC { pset 6 0 l m with v := s }) :: buf 1 u8 s (pset 6 0 l m).b :: L) := O
  exact O.mdI
theorem at_of {p : Nat} (hp : p < 18) {x : RS × Mg} {lim : Nat → Nat} : (pc p = 0 → rdP1 lim x p = ((x.1.varP (lim p)).1, pset p (((x.1.varP (lim p)).2 : Nat) : Int) [] x.2)) ∧ (pc p = 1 → rdP1 lim x p = (x.1.next 1, pset p ((beN (x.1.nextB 1) : Nat) : Int) [] x.2)) ∧ (pc p = 2 → rdP1 lim x p = ((x.1.bytesP (lim p)).1, pset p 0 (x.1.bytesP (lim p)).2 x.2)) := by
  refine ⟨fun hc => ?_, fun hc => ?_, fun hc => ?_⟩
  · rcases (cas hp hc).1 rfl with rfl | rfl | rfl | rfl | rfl | rfl | rfl | rfl | rfl <;> rfl
  · rcases (cas hp hc).2.1 rfl with rfl | rfl | rfl | rfl <;> rfl
  · rcases (cas hp hc).2.2.1 rfl with rfl | rfl <;> rfl
variable {r : Nat} {x : RS}
theorem F_message_number_4.is {p y z : Nat} {Q : Heap → Prop} (hp : p < 18) (hc : pc p = 0) (S : Stays h0 L fun h => Bx h T) (e1 : (y, [Kd.enc .fn (atV p)]) ∈ T) (e2 : (z, [.int .u64 (pmax p : Nat)]) ∈ T) (o : x.Ok) (O : Sat h0 h (rdR r x :: mdR b m :: L)) (k : ∀ h', Sat h0 h' (rdR r (rdP1 pmax (x, m) p).1 :: mdR b (rdP1 pmax (x, m) p).2 :: L) → Q h') : F_message_number_4 (some (pt r 0)) (some (pt b 0)) (pt z 0) (pt y 0) h Q := by
  rw [F_message_number_4.eq_1, F_message_number_4_of.eq_1]
  have B := S h O.drop.drop
  refine ld_are (B _ e1) (ldL_c (ldL_n ?_))
  refine ld_are (B _ e2) (ldL_c (ldL_n ?_))
  refine at_num hp hc ⟨rfl, rfl, rfl, rfl, rfl, rfl, rfl, rfl, rfl⟩ ⟨B _ e2, ?_⟩
  refine F_code_Reader_Var.is (most := pmax p) o O fun h O => ?_
  simp only [nn_some, pt_add, Nat.zero_add, Nat.add_zero, Nat.reduceAdd, Nat.reduceMul, Int.toNat_zero, Int.toNat_one, Nat.zero_mul, Nat.one_mul]
  refine O.swap.setU hp hc fun h O => k h ?_
  rw [(at_of hp).1 hc]
  exact O.swap
theorem F_message_small_4.is {p y : Nat} {Q : Heap → Prop} (hp : p < 18) (hc : pc p = 1) (S : Stays h0 L fun h => Bx h T) (e1 : (y, [Kd.enc .fn (atV p)]) ∈ T) (o : x.Ok) (O : Sat h0 h (rdR r x :: mdR b m :: L)) (k : ∀ h', Sat h0 h' (rdR r (rdP1 pmax (x, m) p).1 :: mdR b (rdP1 pmax (x, m) p).2 :: L) → Q h') : F_message_small_4 (some (pt r 0)) (some (pt b 0)) (pt y 0) h Q := by
  rw [F_message_small_4.eq_1, F_message_small_4_of.eq_1]
  have B := S h O.drop.drop
  refine ld_are (B _ e1) (ldL_c (ldL_n ?_))
  refine at_sml hp hc ⟨rfl, rfl, rfl, rfl⟩ ?_
  refine F_code_Reader_U8.is o O fun h O => ?_
  simp only [nn_some, pt_add, Nat.zero_add, Nat.add_zero, Nat.reduceAdd, Nat.reduceMul, Int.toNat_zero, Int.toNat_one, Nat.zero_mul, Nat.one_mul]
  have hb := beN_lt (x.nextB 1)
  have hb1 : 256 ^ (x.nextB 1).length ≤ 256 ^ 1 := Nat.pow_le_pow_right (by decide) (nextB_len x 1)
  rw [wrap64 (by omega) (by omega)]
  refine O.swap.setI hp (.inl hc) fun h O => k h ?_
  rw [(at_of hp).2.1 hc]
  exact O.swap
theorem F_message_name_4.is {p y : Nat} {Q : Heap → Prop} (hp : p < 18) (hc : pc p = 2) (S : Stays h0 L fun h => Bx h T) (e1 : (y, [Kd.enc .fn (atV p)]) ∈ T) (o : x.Ok) (O : Sat h0 h (rdR r x :: mdR b m :: L)) (k : ∀ h', Sat h0 h' (rdR r (rdP1 pmax (x, m) p).1 :: mdR b (rdP1 pmax (x, m) p).2 :: L) → Q h') : F_message_name_4 (some (pt r 0)) (some (pt b 0)) (pt y 0) h Q := by
  rw [F_message_name_4.eq_1, F_message_name_4_of.eq_1]
  have B := S h O.drop.drop
  refine ld_are (B _ e1) (ldL_c (ldL_n ?_))
  refine at_nam hp hc ⟨rfl, rfl⟩ ?_
  refine F_code_Reader_Bytes.is (most := 64) o (by omega) O fun s h O => ?_
  refine b2s_view (O.view 0 u8_len (by simp) rfl).1 ?_
  simp only [nn_some, pt_add, Nat.zero_add, Nat.add_zero, Nat.reduceAdd, Nat.reduceMul, Int.toNat_zero, Int.toNat_one, Nat.zero_mul, Nat.one_mul]
  refine O.drop.swap.setA hp hc fun h O => k h ?_
  have h2 : pmax p = 64 := by rcases (cas hp hc).2.2.1 rfl with rfl | rfl <;> rfl
  rw [(at_of hp).2.2 hc, h2]
  exact O.swap
theorem F_message_table_8.is {Q : Heap → Prop} (o : x.Ok) (O : Sat h0 h (rdR r x :: mdR b m :: L)) (k : ∀ h', Sat h0 h' (rdR r (rdP1 pmax (x, m) 4).1 :: mdR b (rdP1 pmax (x, m) 4).2 :: L) → Q h') : F_message_table_8 (some (pt r 0)) (some (pt b 0)) h Q := by
  rw [F_message_table_8.eq_1, F_message_table_8_of.eq_1]
  refine F_code_Reader_Var.is (most := 1025) o O fun h O => ?_
  simp only [nn_some, pt_add, Nat.zero_add, Nat.add_zero, Nat.reduceAdd, Nat.reduceMul, Int.toNat_zero, Int.toNat_one, Nat.zero_mul, Nat.one_mul]
  refine O.swap.setI (p := 4) (by decide) (.inr (.inl rfl)) fun h O => k h ?_
  exact O.swap
theorem F_message_table_27.is {Q : Heap → Prop} (o : x.Ok) (O : Sat h0 h (rdR r x :: mdR b m :: L)) (k : ∀ h', Sat h0 h' (rdR r (rdP1 pmax (x, m) 17).1 :: mdR b (rdP1 pmax (x, m) 17).2 :: L) → Q h') : F_message_table_27 (some (pt r 0)) (some (pt b 0)) h Q := by
  rw [F_message_table_27.eq_1, F_message_table_27_of.eq_1]
  refine F_code_Reader_Var.is (most := 307) o O fun h O => ?_
  simp only [nn_some, pt_add, Nat.zero_add, Nat.add_zero, Nat.reduceAdd, Nat.reduceMul, Int.toNat_zero, Int.toNat_one, Nat.zero_mul, Nat.one_mul]
  refine O.swap.setI (p := 17) (by decide) (.inr (.inr rfl)) fun h O => k h ?_
  exact O.swap
theorem F_bytes_Clone.isM {a : Sl} {xs : List UInt8} {Q : Sl → Heap → Prop} (O : Sat h0 h L) (V1 : Stays h0 L fun h => Bytes h a xs) (hl : xs.length ≤ (140737488355325 : Nat)) (k : ∀ s h', Sat h0 h' (buf 1 u8 s xs :: L) → Q s h') : F_bytes_Clone a h Q := by
  rw [F_bytes_Clone.eq_1, F_bytes_Clone_of.eq_1]
  have hn := (V1 h O).len
  cases e : a.ptr with
  | none =>
    refine brr_tt rfl ?_
    have hx : xs = [] := by
      cases xs with
      | nil => rfl
      | cons x xs =>
        obtain ⟨p, cs, h1, _⟩ := (V1 h O).2 0 x rfl
        rw [e] at h1; cases h1
    subst hx
    exact k _ _ O.nil_buf
  | some p =>
    refine brr_ff rfl ?_
    refine O.al fun b h O => ?_
    have O : Sat h0 h (own b (([] : List UInt8).flatMap u8 ++ []) :: L) := O
    have O := O.own_buf (k := 0) (sz := 1) (by simp)
    have O : Sat h0 h (buf 1 u8 ⟨some (pt b 0), 0, 0⟩ [] :: L) := O.bufsI
    have V2 := V1 h O.drop
    rw [← e]
    refine O.app_buf u8_len u8_one rfl (ys := xs) hn ?_ (by simp; omega) fun s h O _ => ?_
    · have := V2.rd u8_len
      simpa using this
    · exact k _ _ (by rwa [List.nil_append] at O)
theorem F_message_table_13.is {Q : Heap → Prop} (o : x.Ok) (hx : x.b.length ≤ (140737488355325 : Nat)) (O : Sat h0 h (rdR r x :: mdR b m :: L)) (k : ∀ h', Sat h0 h' (rdR r (rdP1 pmax (x, m) 6).1 :: mdR b (rdP1 pmax (x, m) 6).2 :: L) → Q h') : F_message_table_13 (some (pt r 0)) (some (pt b 0)) h Q := by
  rw [F_message_table_13.eq_1, F_message_table_13_of.eq_1]
  refine F_code_Reader_Bytes.is (most := 16384) o (by omega) O fun s h O => ?_
  have hle := RS.bytesP_le (r := x) (n := 16384)
  refine F_bytes_Clone.isM O (fun h O => (O.view 0 u8_len (by simp) rfl).1) (by omega) fun s h O => ?_
  simp only [nn_some, pt_add, Nat.zero_add, Nat.add_zero, Nat.reduceAdd, Nat.reduceMul, Int.toNat_zero, Int.toNat_one, Nat.zero_mul, Nat.one_mul]
  have O := O.sel [0, 3, 2] 4 rfl (Nat.le_add_left _ _)
  simp only [selT, List.map, nth, List.drop, List.cons_append, List.nil_append] at O
  refine O.setV fun h O => k h ?_
  exact O.swap
structure RdC (Φ : Fns) : Prop where
  table_8 : Φ 65 = E_message_table_8
  table_13 : Φ 72 = E_message_table_13
  table_27 : Φ 90 = E_message_table_27
  number_4 : Φ 125 = E_message_number_4
  small_4 : Φ 137 = E_message_small_4
  name_4 : Φ 141 = E_message_name_4
theorem pread_is {Φ : Fns} {p : Nat} {v1 v2 v3 v4 : Option FV} {K : Heap → Prop} (A : RdC Φ) (hp : p < 18) (P : PrimOk T p v1 v2 v3 v4) (S : Stays h0 L fun h => Bx h T) (o : x.Ok) (hx : x.b.length ≤ (140737488355325 : Nat)) (O : Sat h0 h (rdR r x :: mdR b m :: L)) (k : ∀ h', Sat h0 h' (rdR r (rdP1 pmax (x, m) p).1 :: mdR b (rdP1 pmax (x, m) p).2 :: L) → K h') : dyn0 Φ (Kd.enc .fn v4) [.pointer (some (pt r 0)), .pointer (some (pt b 0))] h K := by
  have h4 : pc p < 4 := (cas hp rfl).2.2.2.2
  rcases (by omega : pc p = 0 ∨ pc p = 1 ∨ pc p = 2 ∨ pc p = 3) with hc | hc | hc | hc
  · obtain ⟨y, z, e1, e2, q1, q2, q3, q4⟩ := P.num hc
    subst q1 q2 q3 q4
    refine dyn0_of A.number_4 ?_
    refine Eq.mpr (E_message_number_4.at ..) ?_
    exact F_message_number_4.is hp hc S e1 e2 o O fun h O => ⟨rfl, k h O⟩
  · obtain ⟨y, z, e1, e2, q1, q2, q3, q4⟩ := P.sml hc
    subst q1 q2 q3 q4
    refine dyn0_of A.small_4 ?_
    refine Eq.mpr (E_message_small_4.at ..) ?_
    exact F_message_small_4.is hp hc S e1 o O fun h O => ⟨rfl, k h O⟩
  · obtain ⟨y, e1, q1, q2, q3, q4⟩ := P.nam hc
    subst q1 q2 q3 q4
    refine dyn0_of A.name_4 ?_
    refine Eq.mpr (E_message_name_4.at ..) ?_
    exact F_message_name_4.is hp hc S e1 o O fun h O => ⟨rfl, k h O⟩
  · rcases (cas hp hc).2.2.2.1 rfl with rfl | rfl | rfl
    · obtain ⟨q1, q2, q3, q4⟩ := P.c4 rfl
      subst q1 q2 q3 q4
      refine dyn0_of A.table_8 ?_
      refine Eq.mpr (E_message_table_8.at ..) ?_
      exact F_message_table_8.is o O fun h O => ⟨rfl, k h O⟩
    · obtain ⟨q1, q2, q3, q4⟩ := P.c6 rfl
      subst q1 q2 q3 q4
      refine dyn0_of A.table_13 ?_
      refine Eq.mpr (E_message_table_13.at ..) ?_
      exact F_message_table_13.is o hx O fun h O => ⟨rfl, k h O⟩
    · obtain ⟨q1, q2, q3, q4⟩ := P.c17 rfl
      subst q1 q2 q3 q4
      refine dyn0_of A.table_27 ?_
      refine Eq.mpr (E_message_table_27.at ..) ?_
      exact F_message_table_27.is o O fun h O => ⟨rfl, k h O⟩
theorem F_message_both_4.is {p q y z : Nat} {a1 a2 a3 a4 c1 c2 c3 c4 : Option FV} {Q : Heap → Prop} (hp : p < 18) (hq : q < 18) (P : PrimOk T p a1 a2 a3 a4) (P2 : PrimOk T q c1 c2 c3 c4) (S : Stays h0 L fun h => Bx h T) (e1 : (y, [Kd.enc .fn a1, Kd.enc .fn a2, Kd.enc .fn a3, Kd.enc .fn a4]) ∈ T) (e2 : (z, [Kd.enc .fn c1, Kd.enc .fn c2, Kd.enc .fn c3, Kd.enc .fn c4]) ∈ T) (o : x.Ok) (hx : x.b.length ≤ (140737488355325 : Nat)) (O : Sat h0 h (rdR r x :: mdR b m :: L)) (k : ∀ h', Sat h0 h' (rdR r (rdP1 pmax (rdP1 pmax (x, m) p) q).1 :: mdR b (rdP1 pmax (rdP1 pmax (x, m) p) q).2 :: L) → Q h') : F_message_both_4 (some (pt r 0)) (some (pt b 0)) (pt y 0) (pt z 0) h Q := by
  rw [F_message_both_4.eq_1, F_message_both_4_of.eq_1]
  simp only [nn_some, pt_add, Nat.zero_add, Nat.add_zero, Nat.reduceAdd, Nat.reduceMul, Int.toNat_zero, Int.toNat_one, Nat.zero_mul, Nat.one_mul]
  refine (ld4 (S h O.drop.drop _ e1)).2.2.2 ?_
  refine pread_is ⟨rfl, rfl, rfl, rfl, rfl, rfl⟩ hp P S o hx O fun h O => ?_
  refine (ld4 (S h O.drop.drop _ e2)).2.2.2 ?_
  have o2 := one_ok (lim := pmax) (x := (x, m)) (p := p) o
  exact pread_is ⟨rfl, rfl, rfl, rfl, rfl, rfl⟩ hq P2 S o2.1 (by rw [o2.2]; exact hx) O k
structure Rd2C (Φ : Fns) : Prop where
  p : RdC Φ
  both_4 : Φ 129 = E_message_both_4
theorem fread_is {Φ : Fns} {f : Nat} {v1 v2 v3 v4 : Option FV} {K : Heap → Prop} (A : Rd2C Φ) (F : FieldOk T f v1 v2 v3 v4) (S : Stays h0 L fun h => Bx h T) (o : x.Ok) (hx : x.b.length ≤ (140737488355325 : Nat)) (O : Sat h0 h (rdR r x :: mdR b m :: L)) (k : ∀ h', Sat h0 h' (rdR r ((fp f).foldl (rdP1 pmax) (x, m)).1 :: mdR b ((fp f).foldl (rdP1 pmax) (x, m)).2 :: L) → K h') : dyn0 Φ (Kd.enc .fn v4) [.pointer (some (pt r 0)), .pointer (some (pt b 0))] h K := by
  rcases F with ⟨p, hp, e, P⟩ | ⟨p, q, y, z, a1, a2, a3, a4, c1, c2, c3, c4, hp, hq, e, e1, e2, P, P2, q1, q2, q3, q4⟩
  · rw [e] at k
    exact pread_is A.p hp P S o hx O k
  · subst q1 q2 q3 q4
    rw [e] at k
    refine dyn0_of A.both_4 ?_
    refine Eq.mpr (E_message_both_4.at ..) ?_
    exact F_message_both_4.is hp hq P P2 S e1 e2 o hx O fun h O => ⟨rfl, k h O⟩
end
end Go.Proofs.YthiginhigfieiaaGreatDoor.V
/- The table of the fields; what speaks against a message. -/
namespace Go.Proofs.YthiginhigfieiaaGreatDoor.V
open Go Go.RowKit
set_option linter.unusedVariables false
set_option linter.unusedSimpArgs false
section
variable {h0 h : Heap} {L : List Res} {b : Nat} {m : Mg} {T : Bxs}
theorem dec1_fn {f : Option FV} {K : Option FV → Prop} (k : K f) : dec1 .fn (Kd.enc .fn f) K := by
  rw [dec1_enc]
  exact k
theorem oneV_fn (f : Option FV) : oneV (Kd.enc .fn f) = true := by cases f <;> rfl
theorem F_message_number.is {at_ : Option FV} {mx : Int} {Q : Option FV → Option FV → Option FV → Option FV → Heap → Prop} (O : Sat h0 h L) (k : ∀ a m h', Sat h0 h' (own a [Kd.enc .fn at_] :: own m [.int .u64 mx] :: L) → Q (fv 122 [pv a, pv m]) (fv 123 [pv a]) (fv 124 [pv a]) (fv 125 [pv m, pv a]) h') : F_message_number at_ mx h Q := by
  rw [F_message_number.eq_1, F_message_number_of.eq_1]
  refine boxF_of ?_
  refine O.al fun a h O => ?_
  refine O.al fun m h O => ?_
  refine O.al fun x h O => ?_
  refine O.st 0 rfl (by simp) rfl fun h O => ?_
  dsimp only [V.put, List.set] at O
  refine O.ld 0 rfl ⟨fv 122 [pv a, pv m], rfl, fv 123 [pv a], rfl, fv 124 [pv a], rfl, fv 125 [pv m, pv a], rfl, ldL_n ?_⟩
  exact k a m h O.drop.swap
theorem F_message_small.is {at_ : Option FV} {mx : Int} {Q : Option FV → Option FV → Option FV → Option FV → Heap → Prop} (O : Sat h0 h L) (k : ∀ a m h', Sat h0 h' (own a [Kd.enc .fn at_] :: own m [.int .i64 mx] :: L) → Q (fv 134 [pv a, pv m]) (fv 135 [pv a]) (fv 136 [pv a]) (fv 137 [pv a]) h') : F_message_small at_ mx h Q := by
  rw [F_message_small.eq_1, F_message_small_of.eq_1]
  refine boxF_of ?_
  refine O.al fun a h O => ?_
  refine O.al fun m h O => ?_
  refine O.al fun x h O => ?_
  refine O.st 0 rfl (by simp) rfl fun h O => ?_
  dsimp only [V.put, List.set] at O
  refine O.ld 0 rfl ⟨fv 134 [pv a, pv m], rfl, fv 135 [pv a], rfl, fv 136 [pv a], rfl, fv 137 [pv a], rfl, ldL_n ?_⟩
  exact k a m h O.drop.swap
theorem F_message_name.is {at_ : Option FV} {Q : Option FV → Option FV → Option FV → Option FV → Heap → Prop} (O : Sat h0 h L) (k : ∀ a h', Sat h0 h' (own a [Kd.enc .fn at_] :: L) → Q (fv 138 [pv a]) (fv 139 [pv a]) (fv 140 [pv a]) (fv 141 [pv a]) h') : F_message_name at_ h Q := by
  rw [F_message_name.eq_1, F_message_name_of.eq_1]
  refine boxF_of ?_
  refine O.al fun a h O => ?_
  refine O.al fun x h O => ?_
  refine O.st 0 rfl (by simp) rfl fun h O => ?_
  dsimp only [V.put, List.set] at O
  refine O.ld 0 rfl ⟨fv 138 [pv a], rfl, fv 139 [pv a], rfl, fv 140 [pv a], rfl, fv 141 [pv a], rfl, ldL_n ?_⟩
  exact k a h O.drop
theorem F_message_both.is {a1 a2 a3 a4 c1 c2 c3 c4 : Option FV} {Q : Option FV → Option FV → Option FV → Option FV → Heap → Prop} (O : Sat h0 h L) (k : ∀ a c h', Sat h0 h' (own a [Kd.enc .fn a1, Kd.enc .fn a2, Kd.enc .fn a3, Kd.enc .fn a4] :: own c [Kd.enc .fn c1, Kd.enc .fn c2, Kd.enc .fn c3, Kd.enc .fn c4] :: L) → Q (fv 126 [pv a, pv c]) (fv 127 [pv a, pv c]) (fv 128 [pv a, pv c]) (fv 129 [pv a, pv c]) h') : F_message_both a1 a2 a3 a4 c1 c2 c3 c4 h Q := by
  rw [F_message_both.eq_1, F_message_both_of.eq_1]
  refine O.al fun a h O => ?_
  refine O.al fun c h O => ?_
  refine O.al fun x h O => ?_
  refine O.st 0 rfl (by simp) rfl fun h O => ?_
  dsimp only [V.put, List.set] at O
  refine O.ld 0 rfl ⟨fv 126 [pv a, pv c], rfl, fv 127 [pv a, pv c], rfl, fv 128 [pv a, pv c], rfl, fv 129 [pv a, pv c], rfl, ldL_n ?_⟩
  exact k a c h O.drop.swap
/-- The boxes of a table. -/
def bxR (T : Bxs) : Res := many (fun x : Nat × List Value => own x.1 x.2) T
theorem Sat.pack {f : Nat × List Value → Res} : ∀ {T : Bxs} {L : List Res}, Sat h0 h (T.map f ++ L) → Sat h0 h (many f T :: L)
  | [], L, O => O.empI
  | x :: T, L, O => by
    have O : Sat h0 h (f x :: (T.map f ++ L)) := O
    obtain ⟨E, ⟨E1, E2, p, h1, h2⟩, O⟩ := O
    have key : ∀ {Rs L : List Res} {E : Blks}, star (Rs ++ L) E → star (star Rs :: L) E := by
      intro Rs
      induction Rs with
      | nil => intro L E hs; exact ⟨[], E, List.Perm.refl _, rfl, hs⟩
      | cons A Rs ih =>
        intro L E hs
        obtain ⟨F1, F2, q, g1, g2⟩ := hs
        obtain ⟨G1, G2, q2, g3, g4⟩ := ih g2
        exact ⟨F1 ++ G1, G2, q.trans ((q2.append_left _).trans (by rw [List.append_assoc])), ⟨F1, G1, List.Perm.refl _, g1, g3⟩, g4⟩
    exact ⟨E, key (Rs := (x :: T).map f) (L := L) ⟨E1, E2, p, h1, h2⟩, O⟩
theorem Sat.bx (O : Sat h0 h (bxR T :: L)) : Bx h T := by
  intro x hx
  obtain ⟨i, hi, e⟩ := List.mem_iff_getElem.1 hx
  have O := Sat.take O i (List.getElem?_eq_some_iff.2 ⟨hi, e⟩)
  have := O.cells 0 rfl 0 x.2.length
  rwa [List.drop_zero, List.take_length] at this
theorem primNum {p a m : Nat} (hc : pc p = 0) (e1 : (a, [Kd.enc .fn (atV p)]) ∈ T) (e2 : (m, [.int .u64 (pmax p : Nat)]) ∈ T) : PrimOk T p (fv 122 [pv a, pv m]) (fv 123 [pv a]) (fv 124 [pv a]) (fv 125 [pv m, pv a]) where
  num := fun _ => ⟨a, m, e1, e2, rfl, rfl, rfl, rfl⟩
  sml := fun g => absurd (hc.symm.trans g) (by decide)
  nam := fun g => absurd (hc.symm.trans g) (by decide)
  c4 := fun g => absurd (by rw [← hc, g]; rfl : (0 : Nat) = 3) (by decide)
  c6 := fun g => absurd (by rw [← hc, g]; rfl : (0 : Nat) = 3) (by decide)
  c17 := fun g => absurd (by rw [← hc, g]; rfl : (0 : Nat) = 3) (by decide)
theorem primSml {p a m : Nat} (hc : pc p = 1) (e1 : (a, [Kd.enc .fn (atV p)]) ∈ T) (e2 : (m, [.int .i64 (pmax p : Nat)]) ∈ T) : PrimOk T p (fv 134 [pv a, pv m]) (fv 135 [pv a]) (fv 136 [pv a]) (fv 137 [pv a]) where
  sml := fun _ => ⟨a, m, e1, e2, rfl, rfl, rfl, rfl⟩
  num := fun g => absurd (hc.symm.trans g) (by decide)
  nam := fun g => absurd (hc.symm.trans g) (by decide)
  c4 := fun g => absurd (by rw [← hc, g]; rfl : (1 : Nat) = 3) (by decide)
  c6 := fun g => absurd (by rw [← hc, g]; rfl : (1 : Nat) = 3) (by decide)
  c17 := fun g => absurd (by rw [← hc, g]; rfl : (1 : Nat) = 3) (by decide)
theorem primNam {p a : Nat} (hc : pc p = 2) (e1 : (a, [Kd.enc .fn (atV p)]) ∈ T) : PrimOk T p (fv 138 [pv a]) (fv 139 [pv a]) (fv 140 [pv a]) (fv 141 [pv a]) where
  nam := fun _ => ⟨a, e1, rfl, rfl, rfl, rfl⟩
  num := fun g => absurd (hc.symm.trans g) (by decide)
  sml := fun g => absurd (hc.symm.trans g) (by decide)
  c4 := fun g => absurd (by rw [← hc, g]; rfl : (2 : Nat) = 3) (by decide)
  c6 := fun g => absurd (by rw [← hc, g]; rfl : (2 : Nat) = 3) (by decide)
  c17 := fun g => absurd (by rw [← hc, g]; rfl : (2 : Nat) = 3) (by decide)
theorem prim4 : PrimOk T 4 (fv 61 []) (fv 62 []) (fv 63 []) (fv 65 []) where
  num := fun g => absurd g (by decide)
  sml := fun g => absurd g (by decide)
  nam := fun g => absurd g (by decide)
  c4 := fun g => ⟨rfl, rfl, rfl, rfl⟩
  c6 := fun g => absurd g (by decide)
  c17 := fun g => absurd g (by decide)
theorem prim6 : PrimOk T 6 (fv 68 []) (fv 69 []) (fv 70 []) (fv 72 []) where
  num := fun g => absurd g (by decide)
  sml := fun g => absurd g (by decide)
  nam := fun g => absurd g (by decide)
  c4 := fun g => absurd g (by decide)
  c6 := fun g => ⟨rfl, rfl, rfl, rfl⟩
  c17 := fun g => absurd g (by decide)
theorem prim17 : PrimOk T 17 (fv 87 []) (fv 88 []) (fv 89 []) (fv 90 []) where
  num := fun g => absurd g (by decide)
  sml := fun g => absurd g (by decide)
  nam := fun g => absurd g (by decide)
  c4 := fun g => absurd g (by decide)
  c6 := fun g => absurd g (by decide)
  c17 := fun g => ⟨rfl, rfl, rfl, rfl⟩
def tabC (v : Nat → Option FV) : List Value := Kd.enc .fn (v 0) :: Kd.enc .fn (v 1) :: Kd.enc .fn (v 2) :: Kd.enc .fn (v 3) :: Kd.enc .fn (v 4) :: Kd.enc .fn (v 5) :: Kd.enc .fn (v 6) :: Kd.enc .fn (v 7) :: Kd.enc .fn (v 8) :: Kd.enc .fn (v 9) :: Kd.enc .fn (v 10) :: Kd.enc .fn (v 11) :: Kd.enc .fn (v 12) :: Kd.enc .fn (v 13) :: Kd.enc .fn (v 14) :: Kd.enc .fn (v 15) :: Kd.enc .fn (v 16) :: Kd.enc .fn (v 17) :: Kd.enc .fn (v 18) :: Kd.enc .fn (v 19) :: Kd.enc .fn (v 20) :: Kd.enc .fn (v 21) :: Kd.enc .fn (v 22) :: Kd.enc .fn (v 23) :: Kd.enc .fn (v 24) :: Kd.enc .fn (v 25) :: Kd.enc .fn (v 26) :: Kd.enc .fn (v 27) :: Kd.enc .fn (v 28) :: Kd.enc .fn (v 29) :: Kd.enc .fn (v 30) :: Kd.enc .fn (v 31) :: Kd.enc .fn (v 32) :: Kd.enc .fn (v 33) :: Kd.enc .fn (v 34) :: Kd.enc .fn (v 35) :: Kd.enc .fn (v 36) :: Kd.enc .fn (v 37) :: Kd.enc .fn (v 38) :: Kd.enc .fn (v 39) :: Kd.enc .fn (v 40) :: Kd.enc .fn (v 41) :: Kd.enc .fn (v 42) :: Kd.enc .fn (v 43) :: Kd.enc .fn (v 44) :: Kd.enc .fn (v 45) :: Kd.enc .fn (v 46) :: Kd.enc .fn (v 47) :: Kd.enc .fn (v 48) :: Kd.enc .fn (v 49) :: Kd.enc .fn (v 50) :: Kd.enc .fn (v 51) :: Kd.enc .fn (v 52) :: Kd.enc .fn (v 53) :: Kd.enc .fn (v 54) :: Kd.enc .fn (v 55) :: Kd.enc .fn (v 56) :: Kd.enc .fn (v 57) :: Kd.enc .fn (v 58) :: Kd.enc .fn (v 59) :: Kd.enc .fn (v 60) :: Kd.enc .fn (v 61) :: Kd.enc .fn (v 62) :: Kd.enc .fn (v 63) :: []
def TabOk (T : Bxs) (v : Nat → Option FV) : Prop := ∀ f < 16, FieldOk T f (v (4 * f)) (v (4 * f + 1)) (v (4 * f + 2)) (v (4 * f + 3))
set_option maxRecDepth 20000 in
theorem F_message_table.is {Q : Option FV → Option FV → Option FV → Option FV → Option FV → Option FV → Option FV → Option FV → Option FV → Option FV → Option FV → Option FV → Option FV → Option FV → Option FV → Option FV → Option FV → Option FV → Option FV → Option FV → Option FV → Option FV → Option FV → Option FV → Option FV → Option FV → Option FV → Option FV → Option FV → Option FV → Option FV → Option FV → Option FV → Option FV → Option FV → Option FV → Option FV → Option FV → Option FV → Option FV → Option FV → Option FV → Option FV → Option FV → Option FV → Option FV → Option FV → Option FV → Option FV → Option FV → Option FV → Option FV → Option FV → Option FV → Option FV → Option FV → Option FV → Option FV → Option FV → Option FV → Option FV → Option FV → Option FV → Option FV → Heap → Prop} (O : Sat h0 h L) (k : ∀ (T : Bxs) (v : Nat → Option FV) h', Sat h0 h' (bxR T :: L) → TabOk T v → Q (v 0) (v 1) (v 2) (v 3) (v 4) (v 5) (v 6) (v 7) (v 8) (v 9) (v 10) (v 11) (v 12) (v 13) (v 14) (v 15) (v 16) (v 17) (v 18) (v 19) (v 20) (v 21) (v 22) (v 23) (v 24) (v 25) (v 26) (v 27) (v 28) (v 29) (v 30) (v 31) (v 32) (v 33) (v 34) (v 35) (v 36) (v 37) (v 38) (v 39) (v 40) (v 41) (v 42) (v 43) (v 44) (v 45) (v 46) (v 47) (v 48) (v 49) (v 50) (v 51) (v 52) (v 53) (v 54) (v 55) (v 56) (v 57) (v 58) (v 59) (v 60) (v 61) (v 62) (v 63) h') : F_message_table h Q := by
  rw [F_message_table.eq_1, F_message_table_of.eq_1]
  refine O.al fun a1 h O => ?_
  refine F_message_number.is O fun a0 m0 h O => ?_
  refine F_message_number.is O fun a1 m1 h O => ?_
  refine F_message_number.is O fun a2 m2 h O => ?_
  refine dec1_fn ?_
  refine dec1_fn ?_
  refine dec1_fn ?_
  refine dec1_fn ?_
  refine dec1_fn ?_
  refine dec1_fn ?_
  refine dec1_fn ?_
  refine dec1_fn ?_
  refine F_message_both.is O fun x1 y1 h O => ?_
  refine F_message_number.is O fun a3 m3 h O => ?_
  refine F_message_number.is O fun a5 m5 h O => ?_
  refine F_message_small.is O fun a7 m7 h O => ?_
  refine F_message_number.is O fun a8 m8 h O => ?_
  refine F_message_name.is O fun a9 h O => ?_
  refine F_message_name.is O fun a10 h O => ?_
  refine F_message_number.is O fun a11 m11 h O => ?_
  refine F_message_number.is O fun a12 m12 h O => ?_
  refine F_message_number.is O fun a13 m13 h O => ?_
  refine dec1_fn ?_
  refine dec1_fn ?_
  refine dec1_fn ?_
  refine dec1_fn ?_
  refine dec1_fn ?_
  refine dec1_fn ?_
  refine dec1_fn ?_
  refine dec1_fn ?_
  refine F_message_both.is O fun x12 y12 h O => ?_
  refine F_message_small.is O fun a14 m14 h O => ?_
  refine F_message_small.is O fun a15 m15 h O => ?_
  refine F_message_small.is O fun a16 m16 h O => ?_
  refine O.st 32 rfl (by simp only [List.length_cons, List.length_nil]; omega) rfl fun h O => ?_
  dsimp only [List.set] at O
  rw [put_all (by rfl)] at O
  refine O.ld 32 rfl ⟨fv 122 [pv a0, pv m0], rfl, fv 123 [pv a0], rfl, fv 124 [pv a0], rfl, fv 125 [pv m0, pv a0], rfl, fv 126 [pv x1, pv y1], rfl, fv 127 [pv x1, pv y1], rfl, fv 128 [pv x1, pv y1], rfl, fv 129 [pv x1, pv y1], rfl, fv 122 [pv a3, pv m3], rfl, fv 123 [pv a3], rfl, fv 124 [pv a3], rfl, fv 125 [pv m3, pv a3], rfl, fv 61 [], rfl, fv 62 [], rfl, fv 63 [], rfl, fv 65 [], rfl, fv 122 [pv a5, pv m5], rfl, fv 123 [pv a5], rfl, fv 124 [pv a5], rfl, fv 125 [pv m5, pv a5], rfl, fv 68 [], rfl, fv 69 [], rfl, fv 70 [], rfl, fv 72 [], rfl, fv 134 [pv a7, pv m7], rfl, fv 135 [pv a7], rfl, fv 136 [pv a7], rfl, fv 137 [pv a7], rfl, fv 122 [pv a8, pv m8], rfl, fv 123 [pv a8], rfl, fv 124 [pv a8], rfl, fv 125 [pv m8, pv a8], rfl, fv 138 [pv a9], rfl, fv 139 [pv a9], rfl, fv 140 [pv a9], rfl, fv 141 [pv a9], rfl, fv 138 [pv a10], rfl, fv 139 [pv a10], rfl, fv 140 [pv a10], rfl, fv 141 [pv a10], rfl, fv 122 [pv a11, pv m11], rfl, fv 123 [pv a11], rfl, fv 124 [pv a11], rfl, fv 125 [pv m11, pv a11], rfl, fv 126 [pv x12, pv y12], rfl, fv 127 [pv x12, pv y12], rfl, fv 128 [pv x12, pv y12], rfl, fv 129 [pv x12, pv y12], rfl, fv 134 [pv a14, pv m14], rfl, fv 135 [pv a14], rfl, fv 136 [pv a14], rfl, fv 137 [pv a14], rfl, fv 134 [pv a15, pv m15], rfl, fv 135 [pv a15], rfl, fv 136 [pv a15], rfl, fv 137 [pv a15], rfl, fv 134 [pv a16, pv m16], rfl, fv 135 [pv a16], rfl, fv 136 [pv a16], rfl, fv 137 [pv a16], rfl, fv 87 [], rfl, fv 88 [], rfl, fv 89 [], rfl, fv 90 [], rfl, ldL_n ?_⟩
  have O := O.sel [0, 1, 2, 3, 4, 5, 6, 7, 8, 9, 10, 11, 12, 13, 14, 15, 16, 17, 18, 19, 20, 21, 22, 23, 24, 25, 26, 27, 28, 29, 30, 31] 33 rfl (Nat.le_add_left _ _)
  have O := Sat.pack (f := fun x : Nat × List Value => own x.1 x.2) (T := [(a16, [Kd.enc .fn (atV 16)]), (m16, [.int .i64 (pmax 16 : Nat)]), (a15, [Kd.enc .fn (atV 15)]), (m15, [.int .i64 (pmax 15 : Nat)]), (a14, [Kd.enc .fn (atV 14)]), (m14, [.int .i64 (pmax 14 : Nat)]), (x12, [Kd.enc .fn (fv 122 [pv a12, pv m12]), Kd.enc .fn (fv 123 [pv a12]), Kd.enc .fn (fv 124 [pv a12]), Kd.enc .fn (fv 125 [pv m12, pv a12])]), (y12, [Kd.enc .fn (fv 122 [pv a13, pv m13]), Kd.enc .fn (fv 123 [pv a13]), Kd.enc .fn (fv 124 [pv a13]), Kd.enc .fn (fv 125 [pv m13, pv a13])]), (a13, [Kd.enc .fn (atV 13)]), (m13, [.int .u64 (pmax 13 : Nat)]), (a12, [Kd.enc .fn (atV 12)]), (m12, [.int .u64 (pmax 12 : Nat)]), (a11, [Kd.enc .fn (atV 11)]), (m11, [.int .u64 (pmax 11 : Nat)]), (a10, [Kd.enc .fn (atV 10)]), (a9, [Kd.enc .fn (atV 9)]), (a8, [Kd.enc .fn (atV 8)]), (m8, [.int .u64 (pmax 8 : Nat)]), (a7, [Kd.enc .fn (atV 7)]), (m7, [.int .i64 (pmax 7 : Nat)]), (a5, [Kd.enc .fn (atV 5)]), (m5, [.int .u64 (pmax 5 : Nat)]), (a3, [Kd.enc .fn (atV 3)]), (m3, [.int .u64 (pmax 3 : Nat)]), (x1, [Kd.enc .fn (fv 122 [pv a1, pv m1]), Kd.enc .fn (fv 123 [pv a1]), Kd.enc .fn (fv 124 [pv a1]), Kd.enc .fn (fv 125 [pv m1, pv a1])]), (y1, [Kd.enc .fn (fv 122 [pv a2, pv m2]), Kd.enc .fn (fv 123 [pv a2]), Kd.enc .fn (fv 124 [pv a2]), Kd.enc .fn (fv 125 [pv m2, pv a2])]), (a2, [Kd.enc .fn (atV 2)]), (m2, [.int .u64 (pmax 2 : Nat)]), (a1, [Kd.enc .fn (atV 1)]), (m1, [.int .u64 (pmax 1 : Nat)]), (a0, [Kd.enc .fn (atV 0)]), (m0, [.int .u64 (pmax 0 : Nat)])]) (L := L) O
  refine k _ (fun i => (fv 122 [pv a0, pv m0] :: fv 123 [pv a0] :: fv 124 [pv a0] :: fv 125 [pv m0, pv a0] :: fv 126 [pv x1, pv y1] :: fv 127 [pv x1, pv y1] :: fv 128 [pv x1, pv y1] :: fv 129 [pv x1, pv y1] :: fv 122 [pv a3, pv m3] :: fv 123 [pv a3] :: fv 124 [pv a3] :: fv 125 [pv m3, pv a3] :: fv 61 [] :: fv 62 [] :: fv 63 [] :: fv 65 [] :: fv 122 [pv a5, pv m5] :: fv 123 [pv a5] :: fv 124 [pv a5] :: fv 125 [pv m5, pv a5] :: fv 68 [] :: fv 69 [] :: fv 70 [] :: fv 72 [] :: fv 134 [pv a7, pv m7] :: fv 135 [pv a7] :: fv 136 [pv a7] :: fv 137 [pv a7] :: fv 122 [pv a8, pv m8] :: fv 123 [pv a8] :: fv 124 [pv a8] :: fv 125 [pv m8, pv a8] :: fv 138 [pv a9] :: fv 139 [pv a9] :: fv 140 [pv a9] :: fv 141 [pv a9] :: fv 138 [pv a10] :: fv 139 [pv a10] :: fv 140 [pv a10] :: fv 141 [pv a10] :: fv 122 [pv a11, pv m11] :: fv 123 [pv a11] :: fv 124 [pv a11] :: fv 125 [pv m11, pv a11] :: fv 126 [pv x12, pv y12] :: fv 127 [pv x12, pv y12] :: fv 128 [pv x12, pv y12] :: fv 129 [pv x12, pv y12] :: fv 134 [pv a14, pv m14] :: fv 135 [pv a14] :: fv 136 [pv a14] :: fv 137 [pv a14] :: fv 134 [pv a15, pv m15] :: fv 135 [pv a15] :: fv 136 [pv a15] :: fv 137 [pv a15] :: fv 134 [pv a16, pv m16] :: fv 135 [pv a16] :: fv 136 [pv a16] :: fv 137 [pv a16] :: fv 87 [] :: fv 88 [] :: fv 89 [] :: fv 90 [] :: []).getD i none) h O ?_
  intro f hf
  rcases (by omega : f = 0 ∨ f = 1 ∨ f = 2 ∨ f = 3 ∨ f = 4 ∨ f = 5 ∨ f = 6 ∨ f = 7 ∨ f = 8 ∨ f = 9 ∨ f = 10 ∨ f = 11 ∨ f = 12 ∨ f = 13 ∨ f = 14 ∨ f = 15) with rfl | rfl | rfl | rfl | rfl | rfl | rfl | rfl | rfl | rfl | rfl | rfl | rfl | rfl | rfl | rfl
  · exact .inl ⟨0, by decide, rfl, (primNum rfl (List.mem_of_getElem? (i := 30) rfl) (List.mem_of_getElem? (i := 31) rfl))⟩
  · exact .inr ⟨1, 2, x1, y1, _, _, _, _, _, _, _, _, by decide, by decide, rfl, (List.mem_of_getElem? (i := 24) rfl), (List.mem_of_getElem? (i := 25) rfl), (primNum rfl (List.mem_of_getElem? (i := 28) rfl) (List.mem_of_getElem? (i := 29) rfl)), (primNum rfl (List.mem_of_getElem? (i := 26) rfl) (List.mem_of_getElem? (i := 27) rfl)), rfl, rfl, rfl, rfl⟩
  · exact .inl ⟨3, by decide, rfl, (primNum rfl (List.mem_of_getElem? (i := 22) rfl) (List.mem_of_getElem? (i := 23) rfl))⟩
  · exact .inl ⟨4, by decide, rfl, prim4⟩
  · exact .inl ⟨5, by decide, rfl, (primNum rfl (List.mem_of_getElem? (i := 20) rfl) (List.mem_of_getElem? (i := 21) rfl))⟩
  · exact .inl ⟨6, by decide, rfl, prim6⟩
  · exact .inl ⟨7, by decide, rfl, (primSml rfl (List.mem_of_getElem? (i := 18) rfl) (List.mem_of_getElem? (i := 19) rfl))⟩
  · exact .inl ⟨8, by decide, rfl, (primNum rfl (List.mem_of_getElem? (i := 16) rfl) (List.mem_of_getElem? (i := 17) rfl))⟩
  · exact .inl ⟨9, by decide, rfl, (primNam rfl (List.mem_of_getElem? (i := 15) rfl))⟩
  · exact .inl ⟨10, by decide, rfl, (primNam rfl (List.mem_of_getElem? (i := 14) rfl))⟩
  · exact .inl ⟨11, by decide, rfl, (primNum rfl (List.mem_of_getElem? (i := 12) rfl) (List.mem_of_getElem? (i := 13) rfl))⟩
  · exact .inr ⟨12, 13, x12, y12, _, _, _, _, _, _, _, _, by decide, by decide, rfl, (List.mem_of_getElem? (i := 6) rfl), (List.mem_of_getElem? (i := 7) rfl), (primNum rfl (List.mem_of_getElem? (i := 10) rfl) (List.mem_of_getElem? (i := 11) rfl)), (primNum rfl (List.mem_of_getElem? (i := 8) rfl) (List.mem_of_getElem? (i := 9) rfl)), rfl, rfl, rfl, rfl⟩
  · exact .inl ⟨14, by decide, rfl, (primSml rfl (List.mem_of_getElem? (i := 4) rfl) (List.mem_of_getElem? (i := 5) rfl))⟩
  · exact .inl ⟨15, by decide, rfl, (primSml rfl (List.mem_of_getElem? (i := 2) rfl) (List.mem_of_getElem? (i := 3) rfl))⟩
  · exact .inl ⟨16, by decide, rfl, (primSml rfl (List.mem_of_getElem? (i := 0) rfl) (List.mem_of_getElem? (i := 1) rfl))⟩
  · exact .inl ⟨17, by decide, rfl, prim17⟩
end
end Go.Proofs.YthiginhigfieiaaGreatDoor.V
/- What speaks against a message. -/
namespace Go.Proofs.YthiginhigfieiaaGreatDoor.V
open Go Go.RowKit
set_option linter.unusedVariables false
set_option linter.unusedSimpArgs false
section
variable {h0 h : Heap} {L : List Res} {b : Nat} {m : Mg} {T : Bxs}
/-- The fields that a kind uses. -/
def usN : Nat → List Nat
  | 1 => [0]
  | 2 => [0, 1, 5]
  | 3 => [0, 4]
  | 4 => [1, 3, 5]
  | 5 => [1]
  | 6 => [0, 2, 3]
  | 7 => [0, 2]
  | 8 => [6, 7, 8, 10]
  | 9 => [6, 7]
  | 10 => [7, 8, 9, 10, 11, 12, 13]
  | 11 => [10, 11, 14, 15]
  | _ => []
def fo : Nat → Nat
  | 0 => 0
  | 1 => 1
  | 2 => 1
  | 3 => 2
  | 4 => 3
  | 5 => 4
  | 6 => 5
  | 7 => 6
  | 8 => 7
  | 9 => 8
  | 10 => 9
  | 11 => 10
  | 12 => 11
  | 13 => 11
  | 14 => 12
  | 15 => 13
  | 16 => 14
  | 17 => 15
  | _ => 0
def usC (x : Nat) : List Value := [.int .i64 (x : Int)]
structure Us (h : Heap) : Prop where
  at_ : ∀ k, k < 12 → ∃ s : Sl, cellsAre h (pt 0 k) [.slice s.ptr s.len s.cap] ∧ View h 1 (En usC) s (usN k)
theorem us_small (k : Nat) : (usN k).length ≤ 7 ∧ ∀ f ∈ usN k, f < 16 := by
  unfold usN
  split <;> simp
theorem kp_us : ∀ {k : Nat}, (usN k).flatMap fp = kpN k
  | 0 => rfl
  | 1 => rfl
  | 2 => rfl
  | 3 => rfl
  | 4 => rfl
  | 5 => rfl
  | 6 => rfl
  | 7 => rfl
  | 8 => rfl
  | 9 => rfl
  | 10 => rfl
  | 11 => rfl
  | _ + 12 => rfl
theorem fp_fo {p : Nat} (hp : p < 18) : fo p < 16 ∧ p ∈ fp (fo p) := by
  rcases (by omega : p = 0 ∨ p = 1 ∨ p = 2 ∨ p = 3 ∨ p = 4 ∨ p = 5 ∨ p = 6 ∨ p = 7 ∨ p = 8 ∨ p = 9 ∨ p = 10 ∨ p = 11 ∨ p = 12 ∨ p = 13 ∨ p = 14 ∨ p = 15 ∨ p = 16 ∨ p = 17) with rfl | rfl | rfl | rfl | rfl | rfl | rfl | rfl | rfl | rfl | rfl | rfl | rfl | rfl | rfl | rfl | rfl | rfl <;> exact ⟨by decide, by decide⟩
theorem fp_lt {f p : Nat} (h : p ∈ fp f) : p < 18 ∧ fo p = f := by
  unfold fp at h
  split at h <;> simp at h <;> first | (subst h; exact ⟨by decide, rfl⟩) | (rcases h with rfl | rfl <;> exact ⟨by decide, rfl⟩)
theorem fp_us {k f p : Nat} (h : p ∈ fp f) : p ∈ kpN k ↔ f ∈ usN k := by
  rw [← kp_us, List.mem_flatMap]
  constructor
  · rintro ⟨g, hg, hp⟩
    rw [← (fp_lt h).2, (fp_lt hp).2]
    exact hg
  · exact fun hf => ⟨f, hf, h⟩
def okF (fs : List Nat) (f : Nat) (m : Mg) : Bool := if f ∈ fs then mayF f m else zeroF f m
theorem fld_iff : fldB m = true ↔ ∀ f < 16, okF (usN m.kind.toNat) f m = true := by
  unfold fldB okF mayF zeroF kp
  rw [List.all_eq_true]
  constructor
  · intro h f hf
    split
    · rename_i hm
      rw [List.all_eq_true]
      intro p hp
      have := h p (List.mem_range.2 (fp_lt hp).1)
      rwa [if_pos ((fp_us hp).2 hm)] at this
    · rename_i hm
      rw [List.all_eq_true]
      intro p hp
      have := h p (List.mem_range.2 (fp_lt hp).1)
      rwa [if_neg (fun e => hm ((fp_us hp).1 e))] at this
  · intro h p hp
    obtain ⟨h1, h2⟩ := fp_fo (List.mem_range.1 hp)
    have := h _ h1
    split
    · rename_i hm
      rw [if_pos ((fp_us h2).1 hm), List.all_eq_true] at this
      exact this p h2
    · rename_i hm
      rw [if_neg (fun e => hm ((fp_us h2).2 e)), List.all_eq_true] at this
      exact this p h2
def boolC (x : Bool) : List Value := [.bool x]
def ubN (l : List Nat) : List Bool := (List.range 16).map fun f => decide (f ∈ l)
theorem ub_len (l : List Nat) : (ubN l).length = 16 := by simp [ubN]
theorem ub_at {l : List Nat} {f : Nat} (hf : f < 16) : (ubN l)[f]? = some (decide (f ∈ l)) := by simp [ubN, hf]
theorem ub_set {l : List Nat} {f : Nat} : (ubN l).set f true = ubN (l ++ [f]) := by
  apply List.ext_getElem (by simp [ubN])
  intro i h1 h2
  rw [List.getElem_set]
  unfold ubN
  simp only [List.getElem_map, List.getElem_range, List.mem_append, List.mem_singleton]
  by_cases e : f = i
  · rw [if_pos e]; simp [e]
  · rw [if_neg e]
    have : ¬ i = f := fun x => e x.symm
    simp [this]
theorem F_message_wrong.l1.is {a : Nat} {s : Sl} {fs : List Nat} {j : Heap → Prop} (O : Sat h0 h (own a ((ubN []).flatMap boolC) :: L)) (V : Stays h0 L fun h => View h 1 (En usC) s fs) (hf : ∀ f ∈ fs, f < 16) (hn : fs.length ≤ 7) (hj : ∀ h', Sat h0 h' (own a ((ubN fs).flatMap boolC) :: L) → j h') : F_message_wrong.l1 (pt a 0) s j 0 h := by
  rw [F_message_wrong.l1.eq_1]
  have hl : s.len = fs.length := (V h O.drop).len
  refine wl1 (k := .int .i64) (fun (m : Nat) (i : Int) (h' : Heap) => 0 ≤ i ∧ i + m = fs.length ∧ Sat h0 h' (own a ((ubN (fs.take i.toNat)).flatMap boolC) :: L)) ?_ (m := fs.length) ⟨by omega, by omega, by simpa using O⟩
  clear O
  intro m (i : Int) h next hnx ⟨hi0, him, O⟩
  rw [hl]
  refine brr_p (fun hlt => ?_) (fun hlt => ?_)
  · have hx : fs[i.toNat]? = some (fs[i.toNat]'(by omega)) := List.getElem?_eq_getElem (by omega)
    generalize fs[i.toNat]'(by omega) = x at hx
    have hx16 := hf x (List.mem_of_getElem? hx)
    refine (V h O.drop).get1 hi0 hx (fun x => (x : Int)) (fun _ => rfl) ?_
    refine O.putA (fun _ => rfl) (fun _ => rfl) (ub_len _).symm (by omega) (by rw [ub_len]; omega) true rfl fun h O => ?_
    rw [wrap64 (by omega) (by omega)]
    refine hnx (m - 1) _ _ (by omega) ⟨by omega, by omega, ?_⟩
    rw [show (i + 1).toNat = i.toNat + 1 by omega, take_succ_eq hx, ← ub_set]
    exact O
  · rw [List.take_of_length_le (by omega)] at O
    exact hj _ O
theorem decs4 {x0 x1 x2 x3 : Option FV} {K : Option FV → Option FV → Option FV → Option FV → Prop} (k : K x0 x1 x2 x3) : decs [.fn, .fn, .fn, .fn] [Kd.enc .fn x0, Kd.enc .fn x1, Kd.enc .fn x2, Kd.enc .fn x3] K := dec1_fn (dec1_fn (dec1_fn (dec1_fn k)))
theorem idx_tab {v : Nat → Option FV} {x : Int} (h0 : 0 ≤ x) (h1 : x < 16) {K : Option FV → Option FV → Option FV → Option FV → Prop} (k : K (v (4 * x.toNat)) (v (4 * x.toNat + 1)) (v (4 * x.toNat + 2)) (v (4 * x.toNat + 3))) : idxA [.fn, .fn, .fn, .fn] 4 (tabC v) (x.toNat * 4) K := by
  have hn : x.toNat < 16 := by omega
  generalize x.toNat = n at k hn
  rcases (by omega : n = 0 ∨ n = 1 ∨ n = 2 ∨ n = 3 ∨ n = 4 ∨ n = 5 ∨ n = 6 ∨ n = 7 ∨ n = 8 ∨ n = 9 ∨ n = 10 ∨ n = 11 ∨ n = 12 ∨ n = 13 ∨ n = 14 ∨ n = 15) with rfl | rfl | rfl | rfl | rfl | rfl | rfl | rfl | rfl | rfl | rfl | rfl | rfl | rfl | rfl | rfl <;> exact decs4 k
theorem tabC_at {v : Nat → Option FV} : ∀ i < 64, (tabC v)[i]? = some (Kd.enc .fn (v i)) := by
  have e : tabC v = (List.range 64).map fun i => Kd.enc .fn (v i) := rfl
  intro i hi
  rw [e]
  simp [hi]
theorem tabC_one {v : Nat → Option FV} : (tabC v).all oneV = true := by
  have e : tabC v = (List.range 64).map fun i => Kd.enc .fn (v i) := rfl
  rw [e, List.all_map, List.all_eq_true]
  intro i _
  exact oneV_fn _
theorem tab_ld {v : Nat → Option FV} {a i : Nat} (hi : i < 64) (C : cellsAre h (pt a 0) (tabC v)) {K : Option FV → Prop} (k : K (v i)) : ld [.fn] (pt a i) h K := by
  have hlt : i < (tabC v).length := by
    have := tabC_at (v := v) i hi
    exact (List.getElem?_eq_some_iff.1 this).1
  have e : (tabC v).drop i = Kd.enc .fn (v i) :: (tabC v).drop (i + 1) := by
    rw [List.drop_eq_getElem_cons hlt]
    congr 1
    have := tabC_at (v := v) i hi
    exact (List.getElem?_eq_some_iff.1 this).2
  have := ld_drop C i (ks := [.fn]) (K := K) (by rw [e]; exact ldL_c (ldL_n k))
  rwa [pt_add, Nat.zero_add] at this
set_option maxRecDepth 20000 in
theorem F_message_wrong.l2.is {v : Nat → Option FV} {fs : List Nat} {a : Nat} {Φ : Fns} {Q : Int → Heap → Prop} {j : Heap → Prop} (A : BothC Φ) (O : Sat h0 h (own a ((ubN fs).flatMap boolC) :: bxR T :: L)) (F : TabOk T v) (C : Stays h0 L fun h => MsgAt h b m) (ok : Pos m) (h83 : (∃ f < 16, okF fs f m = false) → ∀ h', Sat h0 h' L → Q 83 h') (hj : (∀ f < 16, okF fs f m = true) → ∀ h', Sat h0 h' L → j h') : F_message_wrong.l2 (some (pt b 0)) Φ Q (pt a 0) (v 0) (v 1) (v 2) (v 3) (v 4) (v 5) (v 6) (v 7) (v 8) (v 9) (v 10) (v 11) (v 12) (v 13) (v 14) (v 15) (v 16) (v 17) (v 18) (v 19) (v 20) (v 21) (v 22) (v 23) (v 24) (v 25) (v 26) (v 27) (v 28) (v 29) (v 30) (v 31) (v 32) (v 33) (v 34) (v 35) (v 36) (v 37) (v 38) (v 39) (v 40) (v 41) (v 42) (v 43) (v 44) (v 45) (v 46) (v 47) (v 48) (v 49) (v 50) (v 51) (v 52) (v 53) (v 54) (v 55) (v 56) (v 57) (v 58) (v 59) (v 60) (v 61) (v 62) (v 63) j 0 h := by
  rw [F_message_wrong.l2.eq_1]
  refine wl1 (k := .int .i64) (fun (n : Nat) (i : Int) (h' : Heap) => 0 ≤ i ∧ i + n = 16 ∧ (∀ f < i.toNat, okF fs f m = true) ∧ Sat h0 h' (own a ((ubN fs).flatMap boolC) :: bxR T :: L)) ?_ (m := 16) ⟨by omega, by omega, fun f hf => absurd hf (by simp), O⟩
  clear O
  intro n (i : Int) h next hnx ⟨hi0, him, hall, O⟩
  refine brr_p (fun hlt => ?_) (fun hlt => ?_)
  · refine ⟨hi0, by omega, idx_tab hi0 hlt ?_⟩
    have Ff := F i.toNat (by omega)
    obtain ⟨w1, hw1⟩ : ∃ w, w = v (4 * i.toNat) := ⟨_, rfl⟩
    obtain ⟨w2, hw2⟩ : ∃ w, w = v (4 * i.toNat + 1) := ⟨_, rfl⟩
    obtain ⟨w3, hw3⟩ : ∃ w, w = v (4 * i.toNat + 2) := ⟨_, rfl⟩
    obtain ⟨w4, hw4⟩ : ∃ w, w = v (4 * i.toNat + 3) := ⟨_, rfl⟩
    rw [← hw1, ← hw2, ← hw3, ← hw4] at Ff ⊢
    clear hw1 hw2 hw3 hw4
    refine O.al fun x h O => ?_
    refine O.st 0 rfl (by simp) (by simp only [List.all_cons, List.all_nil, oneV_fn, Bool.and_self]) fun h O => ?_
    dsimp only [V.put, List.set] at O
    refine jn1 (fun (z : Bool) h' => z = (!okF fs i.toNat m) ∧ Sat h0 h' (own a ((ubN fs).flatMap boolC) :: bxR T :: L)) ?_ ?_
    · clear O
      rintro z h ⟨rfl, O⟩
      refine brr_of (fun e => ?_) (fun e => ?_)
      · refine h83 ⟨i.toNat, by omega, by simpa using e⟩ h O.drop.drop
      · rw [wrap64 (by omega) (by omega)]
        refine hnx (n - 1) _ _ (by omega) ⟨by omega, by omega, fun f hf => ?_, O⟩
        by_cases ef : f = i.toNat
        · subst ef; simpa using e
        · exact hall f (by omega)
    · intro j' hj'
      have C1 := C h O.drop.drop.drop
      have B := O.drop.drop.bx
      have c4 := O.cells 0 rfl 0 4
      have hx := ub_at (l := fs) (f := i.toNat) (by omega)
      by_cases hm : i.toNat ∈ fs
      · have e : okF fs i.toNat m = mayF i.toNat m := by unfold okF; rw [if_pos hm]
        rw [decide_eq_true hm] at hx
        refine O.getA 1 (fun _ => rfl) rfl (ub_len _).symm hi0 hx (fun x => x) (fun _ => rfl) ?_
        refine brr_tt rfl ?_
        simp only [nn_some, pt_add, Nat.zero_add, Nat.add_zero, Nat.reduceAdd, Nat.reduceMul, Int.toNat_zero, Int.toNat_one, Nat.zero_mul, Nat.one_mul]
        refine (ld4 c4).1 ?_
        refine fmay_is A Ff ok C1 B ?_
        refine brr_of (fun e2 => ?_) (fun e2 => ?_)
        · exact hj' _ _ ⟨by rw [e, e2], O.drop⟩
        · refine O.getA 1 (fun _ => rfl) rfl (ub_len _).symm hi0 hx (fun x => x) (fun _ => rfl) ?_
          refine brr_ff rfl ?_
          exact hj' _ _ ⟨by rw [e, e2], O.drop⟩
      · have e : okF fs i.toNat m = zeroF i.toNat m := by unfold okF; rw [if_neg hm]
        rw [decide_eq_false hm] at hx
        refine O.getA 1 (fun _ => rfl) rfl (ub_len _).symm hi0 hx (fun x => x) (fun _ => rfl) ?_
        refine brr_ff rfl ?_
        refine O.getA 1 (fun _ => rfl) rfl (ub_len _).symm hi0 hx (fun x => x) (fun _ => rfl) ?_
        refine brr_tt rfl ?_
        simp only [nn_some, pt_add, Nat.zero_add, Nat.add_zero, Nat.reduceAdd, Nat.reduceMul, Int.toNat_zero, Int.toNat_one, Nat.zero_mul, Nat.one_mul]
        refine (ld4 c4).2.1 ?_
        refine fzero_is A Ff ok C1 B ?_
        exact hj' _ _ ⟨by rw [e], O.drop⟩
  · exact hj (fun f hf => hall f (by omega)) h O.drop.drop
theorem F_message_between.is {n mo : Int} {Q : Bool → Heap → Prop} (k : Q (decide (0 ≤ n ∧ n < mo)) h) : F_message_between n mo h Q := by
  rw [F_message_between.eq_1, F_message_between_of.eq_1]
  refine jn_go ?_
  refine brr_p (fun h1 => ?_) (fun h1 => ?_)
  · rw [show decide (n < mo) = decide (0 ≤ n ∧ n < mo) from decide_eq_decide.2 (by omega)]
    exact k
  · rw [show false = decide (0 ≤ n ∧ n < mo) by simp; omega]
    exact k
theorem F_message_wrong.is {Q : Int → Heap → Prop} (O : Sat h0 h L) (U : Us h0) (C : Stays h0 L fun h => MsgAt h b m) (ok : Pos m) (k : ∀ h', Sat h0 h' L → Q (wrongM m) h') : F_message_wrong (some (pt b 0)) h Q := by
  rw [F_message_wrong.eq_1, F_message_wrong_of.eq_1]
  have C1 := (C h O).1
  refine jn1 (fun (z : Bool) h' => h' = h ∧ z = !kindB m) ?_ ?_
  · rintro z h1 ⟨e, rfl⟩
    subst e
    refine brr_of (fun e => ?_) (fun e => ?_)
    · rw [show (80 : Int) = wrongM m by unfold wrongM; rw [if_neg (by simpa using e)]]
      exact k _ O
    have hk : 1 ≤ m.kind ∧ m.kind ≤ 11 := by
      have e : kindB m = true := by simpa using e
      exact of_decide_eq_true e
    have hk1 : kindB m = true := by simpa using e
    refine jn1 (fun (z : Bool) h' => h' = h1 ∧ z = !headB m) ?_ ?_
    · rintro z h2 ⟨e, rfl⟩
      subst e
      refine brr_of (fun e => ?_) (fun e => ?_)
      · rw [show (83 : Int) = wrongM m by unfold wrongM; rw [if_pos hk1, if_neg (fun g => by rw [g.1] at e; cases e)]]
        exact k _ O
      have hh : headB m = true := by simpa using e
      refine O.al fun a h O => ?_
      have C2 := (C h O.drop).1
      rw [nn_some]
      simp only [nn_some, pt_add, Nat.zero_add, Nat.add_zero, Nat.reduceAdd, Nat.reduceMul, Int.toNat_zero, Int.toNat_one, Nat.zero_mul, Nat.one_mul]
      refine ldo C2 (ldL_c (ldL_n ?_))
      obtain ⟨s, c1, hV⟩ := U.at_ m.kind.toNat (by omega)
      refine ⟨by omega, by omega, ?_⟩
      simp only [nn_some, pt_add, Nat.zero_add, Nat.add_zero, Nat.reduceAdd, Nat.reduceMul, Int.toNat_zero, Int.toNat_one, Nat.zero_mul, Nat.one_mul, Nat.mul_one]
      refine ld_are (cellsAre_kept O.kept c1) (ldL_s (ldL_n ?_))
      refine jn0 (fun h' => Sat h0 h' (own a ((ubN (usN m.kind.toNat)).flatMap boolC) :: L)) ?_ ?_
      · clear O C2
        intro h O
        refine F_message_table.is O fun T v h O F => ?_
        have O := O.swap
        refine jn0 (fun h' => fldB m = true ∧ Sat h0 h' L) ?_ ?_
        · rintro h ⟨e, O⟩
          rw [show (0 : Int) = wrongM m by unfold wrongM; rw [if_pos hk1, if_pos ⟨hh, e⟩]]
          exact k _ O
        · intro j hj
          refine F_message_wrong.l2.is ⟨⟨rfl, rfl, rfl, rfl, rfl, rfl, rfl, rfl, rfl, rfl, rfl, rfl⟩, rfl, rfl⟩ O F C ok ?_ ?_
          · rintro ⟨f, hf, e⟩ h O
            rw [show (83 : Int) = wrongM m by
              unfold wrongM
              rw [if_pos hk1, if_neg]
              intro g
              have := fld_iff.1 g.2 f hf
              rw [e] at this
              cases this]
            exact k _ O
          · intro e h O
            exact hj _ ⟨fld_iff.2 e, O⟩
      · intro j hj
        exact F_message_wrong.l1.is (s := s) (fs := usN m.kind.toNat) O (fun h O => hV.kept O.kept) (us_small _).2 (us_small _).1 hj
    · intro j hj
      simp only [nn_some, pt_add, Nat.zero_add, Nat.add_zero, Nat.reduceAdd, Nat.reduceMul, Int.toNat_zero, Int.toNat_one, Nat.zero_mul, Nat.one_mul]
      refine ldo C1 (ldL_c (ldL_n ?_))
      refine F_message_between.is ?_
      have hb : headB m = (decide (0 ≤ m.frm ∧ m.frm < 9) && (decide (0 ≤ m.to ∧ m.to < 9) && decide (0 ≤ m.shard ∧ m.shard < 8))) := by
        unfold headB
        simp only [Bool.decide_and, Bool.and_assoc]
      refine brr_of (fun e => ?_) (fun e => ?_)
      · refine hj _ _ ⟨rfl, ?_⟩
        rw [hb]
        rw [Bool.not_eq_true'] at e
        rw [e]; rfl
      rw [Bool.not_eq_false'] at e
      refine ldo C1 (ldL_c (ldL_n ?_))
      refine F_message_between.is ?_
      refine brr_of (fun e2 => ?_) (fun e2 => ?_)
      · refine hj _ _ ⟨rfl, ?_⟩
        rw [hb]
        rw [Bool.not_eq_true'] at e2
        rw [e, e2]; rfl
      rw [Bool.not_eq_false'] at e2
      refine ldo C1 (ldL_c (ldL_n ?_))
      refine F_message_between.is ?_
      refine hj _ _ ⟨rfl, ?_⟩
      rw [hb, e, e2]; rfl
  · intro j hj
    simp only [nn_some, pt_add, Nat.zero_add, Nat.add_zero, Nat.reduceAdd, Nat.reduceMul, Int.toNat_zero, Int.toNat_one, Nat.zero_mul, Nat.one_mul]
    refine ldo C1 (ldL_c (ldL_n ?_))
    refine brr_p (fun h1 => ?_) (fun h1 => ?_)
    · refine hj _ _ ⟨rfl, ?_⟩
      unfold kindB
      simp; omega
    · refine ldo C1 (ldL_c (ldL_n ?_))
      refine hj _ _ ⟨rfl, ?_⟩
      unfold kindB
      rw [← decide_not]
      exact decide_eq_decide.2 (by omega)
end
end Go.Proofs.YthiginhigfieiaaGreatDoor.V
/- What the check sum tells apart, in plain terms. -/
namespace Go.Proofs.YthiginhigfieiaaGreatDoor.V
open Go Go.RowKit
set_option linter.unusedVariables false
set_option linter.unusedSimpArgs false
def Rev (r m : W32) : Prop := ∀ i, i < 32 → r.getLsbD i = m.getLsbD (31 - i)
def refStep (r : W32) (b : Bool) : W32 := ((r <<< 1) ^^^ bitAt b 1#32) ^^^ (if r.getLsbD 31 then 0x04c11db7#32 else 0#32)
theorem Rev.xor {r m r' m' : W32} (h : Rev r m) (h' : Rev r' m') : Rev (r ^^^ r') (m ^^^ m') := by
  intro i hi
  rw [BitVec.getLsbD_xor, BitVec.getLsbD_xor, h i hi, h' i hi]
theorem Rev.shift {r m : W32} (h : Rev r m) : Rev (r <<< 1) (m >>> 1) := by
  intro i hi
  rw [BitVec.getLsbD_shiftLeft, BitVec.getLsbD_ushiftRight]
  by_cases h0 : i = 0
  · subst h0
    simp [BitVec.getLsbD_of_ge m 32 (by omega)]
  · rw [h (i - 1) (by omega)]
    simp [hi]
    rw [show 31 - (i - 1) = 1 + (31 - i) by omega]
    simp [h0]
theorem Rev.step {r m : W32} (h : Rev r m) (b : Bool) : Rev (refStep r b) (crcT m ^^^ bitAt b e31) := by
  unfold refStep crcT
  rw [BitVec.xor_assoc, BitVec.xor_assoc, BitVec.xor_comm (bitAt b 1#32)]
  refine h.shift.xor (Rev.xor ?_ ?_)
  · have := h 31 (by decide)
    rw [this]
    cases m.getLsbD (31 - 31) with
    | false => intro i hi; simp
    | true =>
      have : ∀ i : Fin 32, (0x04c11db7#32).getLsbD i = poly.getLsbD (31 - i) := by decide +kernel
      intro i hi
      exact this ⟨i, hi⟩
  · cases b with
    | false => intro i hi; simp [bitAt]
    | true =>
      have : ∀ i : Fin 32, (1#32).getLsbD i = e31.getLsbD (31 - i) := by decide +kernel
      intro i hi
      exact this ⟨i, hi⟩
theorem Rev.steps : ∀ (l : List Bool) {r m : W32}, Rev r m → Rev (l.foldl refStep r) (aug m l)
  | [], _, _, h => h
  | b :: l, _, _, h => Rev.steps l (h.step b)
theorem Rev.zero : Rev 0#32 0#32 := by intro i hi; simp
def mirr : Nat → W32 → W32 → W32
  | 0, _, m => m
  | k + 1, n, m => mirr k (n >>> 1) ((m <<< 1) ^^^ (n &&& 1#32))
theorem mirr_bits : ∀ (k : Nat) (n m : W32), k ≤ 32 → (∀ i, 32 - k ≤ i → m.getLsbD i = false) → ∀ i, i < 32 → (mirr k n m).getLsbD i = if i < k then n.getLsbD (k - 1 - i) else m.getLsbD (i - k)
  | 0, n, m, _, _, i, _ => by simp [mirr]
  | k + 1, n, m, hk, hm, i, hi => by
    rw [mirr, mirr_bits k (n >>> 1) ((m <<< 1) ^^^ (n &&& 1#32)) (by omega) ?_ i hi]
    · by_cases h : i < k
      · rw [if_pos h, if_pos (by omega), BitVec.getLsbD_ushiftRight]
        congr 1; omega
      · rw [if_neg h]
        by_cases h2 : i = k
        · subst h2
          rw [if_pos (by omega)]
          simp
        · rw [if_neg (by omega), BitVec.getLsbD_xor, BitVec.getLsbD_shiftLeft, BitVec.getLsbD_and]
          have : (1#32).getLsbD (i - k) = false := by
            rw [BitVec.getLsbD_one]
            simp; omega
          rw [this]
          simp
          rw [show i - k - 1 = i - (k + 1) by omega]
          have q1 : ¬ (i - k = 0) := by omega
          have q2 : i - k < 32 := by omega
          simp [q1, q2]
    · intro j hj
      rw [BitVec.getLsbD_xor, BitVec.getLsbD_shiftLeft, BitVec.getLsbD_and]
      have h1 : (1#32).getLsbD j = false ∨ k = 32 := by
        by_cases hk2 : k = 32
        · exact .inr hk2
        · left; rw [BitVec.getLsbD_one]; simp; omega
      rcases h1 with h1 | h1
      · rw [h1]
        by_cases hj2 : j < 1
        · simp [hj2]
        · rw [hm (j - 1) (by omega)]; simp
      · omega
theorem Rev.mirr {r m : W32} (h : Rev r m) : V.mirr 32 r 0#32 = m := by
  apply BitVec.eq_of_getLsbD_eq
  intro i hi
  rw [mirr_bits 32 r 0#32 (by decide) (by intro i _; simp) i hi, if_pos hi, h (31 - i) (by omega)]
  congr 1; omega
theorem crcT_inj0 {x : W32} (h : crcT x = 0#32) : x = 0#32 := by
  unfold crcT at h
  have h31 := congrArg (fun y => BitVec.getLsbD y 31) h
  simp only [BitVec.getLsbD_xor, BitVec.getLsbD_ushiftRight, BitVec.getLsbD_of_ge x (1 + 31) (by omega)] at h31
  have hl : x.getLsbD 0 = false := by
    cases hx : x.getLsbD 0 with
    | false => rfl
    | true => rw [hx] at h31; exact absurd h31 (by decide)
  rw [hl] at h
  simp at h
  apply BitVec.eq_of_getLsbD_eq
  intro i hi
  by_cases h0 : i = 0
  · subst h0; rw [hl]; simp
  · have := congrArg (fun y => BitVec.getLsbD y (i - 1)) h
    simp only [BitVec.getLsbD_ushiftRight] at this
    rw [show 1 + (i - 1) = i by omega] at this
    simpa using this
theorem iter_inj0 : ∀ (n : Nat) {x : W32}, iter n x = 0#32 → x = 0#32
  | 0, _, h => h
  | n + 1, x, h => crcT_inj0 (iter_inj0 n h)
theorem xor_eq_zero {x y : W32} (h : x ^^^ y = 0#32) : x = y := by
  have := congrArg (· ^^^ y) h
  simpa [BitVec.xor_assoc] using this
theorem iter_inj {n : Nat} {x y : W32} (h : iter n x = iter n y) : x = y := by
  refine xor_eq_zero (iter_inj0 n ?_)
  rw [iter_xor, h, BitVec.xor_self]
def crcS (x : W32) : W32 := (x <<< 1) ^^^ (if x.getLsbD 31 then 0xdb710641#32 else 0#32)
theorem crcS_xor (x y : W32) : crcS (x ^^^ y) = crcS x ^^^ crcS y := by
  unfold crcS
  rw [BitVec.shiftLeft_xor_distrib, BitVec.getLsbD_xor]
  have h : ∀ a b p : W32, a ^^^ b = a ^^^ (p ^^^ (b ^^^ p)) := by
    intro a b p
    apply BitVec.eq_of_getLsbD_eq
    intro i hi
    simp only [BitVec.getLsbD_xor]
    cases a.getLsbD i <;> cases b.getLsbD i <;> cases p.getLsbD i <;> rfl
  cases x.getLsbD 31 <;> cases y.getLsbD 31
  · simp
  · simp [BitVec.xor_assoc]
  · simp; ac_rfl
  · simp only [Bool.xor_self, Bool.false_eq_true, if_false, if_true, BitVec.xor_zero]
    rw [h (x <<< 1) (y <<< 1) 0xdb710641#32]
    ac_rfl
theorem shl_shr (x : W32) (h : x.getLsbD 31 = false) : (x <<< 1) >>> 1 = x := by
  apply BitVec.eq_of_getLsbD_eq
  intro i hi
  rw [BitVec.getLsbD_ushiftRight, BitVec.getLsbD_shiftLeft]
  by_cases h31 : i = 31
  · subst h31; rw [h]; simp
  · simp; omega
theorem crcT_S (x : W32) : crcT (crcS x) = x := by
  have hlow : ∀ y : W32, y.getLsbD 31 = false → crcT (y <<< 1) = y := fun y hy => by
    rw [crcT_even (by simp), shl_shr y hy]
  unfold crcS
  rw [crcT_xor]
  cases h : x.getLsbD 31 with
  | false => simp [crcT_zero, hlow x h]
  | true =>
    have hx : x = (x ^^^ e31) ^^^ e31 := by simp [BitVec.xor_assoc]
    have h2 : (x ^^^ e31).getLsbD 31 = false := by rw [BitVec.getLsbD_xor, h]; decide
    have h3 : x <<< 1 = (x ^^^ e31) <<< 1 := by
      conv => lhs; rw [hx]
      rw [BitVec.shiftLeft_xor_distrib, show e31 <<< 1 = 0#32 by decide, BitVec.xor_zero]
    rw [h3, hlow _ h2, if_pos rfl, show crcT 0xdb710641#32 = e31 by decide]
    exact hx.symm
theorem crcS_zero : crcS 0#32 = 0#32 := by decide
def iterS : Nat → W32 → W32
  | 0, x => x
  | n + 1, x => crcS (iterS n x)
theorem iterS_xor : ∀ (n : Nat) (x y : W32), iterS n (x ^^^ y) = iterS n x ^^^ iterS n y
  | 0, _, _ => rfl
  | n + 1, x, y => by simp only [iterS, iterS_xor n, crcS_xor]
theorem iterS_add : ∀ (n m : Nat) (x : W32), iterS (n + m) x = iterS n (iterS m x)
  | 0, m, x => by rw [Nat.zero_add]; rfl
  | n + 1, m, x => by rw [show n + 1 + m = (n + m) + 1 by omega, iterS, iterS_add n m, iterS]
theorem iter_iterS : ∀ (n : Nat) (x : W32), iter n (iterS n x) = x
  | 0, _ => rfl
  | n + 1, x => by rw [iter, iterS, crcT_S, iter_iterS n]
/-- A product: what the second's bits say of the first and its steps. -/
def mulK (a b : W32) : Nat → W32 → W32
  | 0, acc => acc
  | k + 1, acc => mulK a b k (crcS acc ^^^ bitAt (b.getLsbD k) a)
def mulW (a b : W32) : W32 := mulK a b 32 0#32
theorem mulK_S (a b : W32) : ∀ (k : Nat) (acc : W32), mulK (crcS a) b k (crcS acc) = crcS (mulK a b k acc)
  | 0, _ => rfl
  | k + 1, acc => by
    rw [mulK, mulK, ← mulK_S a b k, crcS_xor]
    cases b.getLsbD k <;> simp [bitAt, crcS_zero]
theorem mulW_S (a b : W32) : mulW (crcS a) b = crcS (mulW a b) := by
  unfold mulW
  rw [← mulK_S a b 32, crcS_zero]
theorem mulK_one (b : W32) : ∀ (k : Nat) (acc : W32), k ≤ 32 → acc = b >>> k → mulK e0 b k acc = b
  | 0, acc, _, h => by rw [h]; simp [mulK]
  | k + 1, acc, hk, h => by
    rw [mulK]
    refine mulK_one b k _ (by omega) ?_
    subst h
    have h31 : (b >>> (k + 1)).getLsbD 31 = false := by
      rw [BitVec.getLsbD_ushiftRight, BitVec.getLsbD_of_ge b (k + 1 + 31) (by omega)]
    unfold crcS
    rw [h31]
    apply BitVec.eq_of_getLsbD_eq
    intro i hi
    have hbit : (bitAt (b.getLsbD k) e0).getLsbD i = (decide (i = 0) && b.getLsbD k) := by
      cases b.getLsbD k with
      | false => simp [bitAt]
      | true => simp [bitAt]
    rw [BitVec.getLsbD_xor, hbit]
    simp only [Bool.false_eq_true, if_false, BitVec.xor_zero, BitVec.getLsbD_shiftLeft, BitVec.getLsbD_ushiftRight]
    by_cases h0 : i = 0
    · subst h0; simp
    · rw [show k + 1 + (i - 1) = k + i by omega]
      simp [h0, hi]
theorem mulW_one (b : W32) : mulW e0 b = b := mulK_one b 32 0#32 (Nat.le_refl _) (by
  apply BitVec.eq_of_getLsbD_eq
  intro i hi
  rw [BitVec.getLsbD_ushiftRight, BitVec.getLsbD_of_ge b (32 + i) (by omega)]
  simp)
theorem mulW_iter : ∀ (n : Nat) (b : W32), mulW (iterS n e0) b = iterS n b
  | 0, b => mulW_one b
  | n + 1, b => by rw [iterS, mulW_S, mulW_iter n]; rfl
def powW : Nat → Nat → W32
  | 0, _ => e0
  | f + 1, n => match n with
    | 0 => e0
    | n + 1 => let p := powW f ((n + 1) / 2); let q := mulW p p; if (n + 1) % 2 == 1 then crcS q else q
theorem powW_eq : ∀ (f n : Nat), n < 2 ^ f → powW f n = iterS n e0
  | 0, n, h => by simp at h; subst h; rfl
  | f + 1, 0, h => rfl
  | f + 1, n + 1, h => by
    have hlt : (n + 1) / 2 < 2 ^ f := by rw [Nat.pow_succ] at h; omega
    have hp := powW_eq f ((n + 1) / 2) hlt
    simp only [powW, hp, mulW_iter, ← iterS_add]
    by_cases h2 : (n + 1) % 2 = 1
    · rw [show ((n + 1) % 2 == 1) = true by simpa using h2, if_pos rfl]
      show iterS ((n + 1) / 2 + (n + 1) / 2 + 1) e0 = _
      congr 1; omega
    · rw [show ((n + 1) % 2 == 1) = false by simpa using h2, if_neg (by decide)]
      congr 1; omega
/-- So many steps bring the one back. -/
def Back (n : Nat) : Prop := iterS n e0 = e0
theorem Back.sub {a b : Nat} (ha : Back (a + b)) (hb : Back b) : Back a := by
  unfold Back at *
  rw [iterS_add, hb] at ha
  exact ha
theorem Back.mul {a : Nat} (ha : Back a) : ∀ k, Back (a * k)
  | 0 => rfl
  | k + 1 => by
    have := Back.mul ha k
    unfold Back at *
    rw [Nat.mul_succ, Nat.add_comm, iterS_add, this, ha]
theorem Back.mod {a b : Nat} (ha : Back a) (hb : Back b) : Back (a % b) := by
  have h := Nat.mod_add_div a b
  exact Back.sub (b := b * (a / b)) (by rw [h]; exact ha) (hb.mul _)
theorem Back.gcd {a b : Nat} (ha : Back a) (hb : Back b) : Back (Nat.gcd a b) := by
  induction a, b using Nat.gcd.induction with
  | H0 n => rw [Nat.gcd_zero_left]; exact hb
  | H1 m n hm ih =>
    rw [Nat.gcd_rec]
    exact ih (hb.mod ha) ha
theorem Back.dvd {a b : Nat} (ha : Back a) (h : a ∣ b) : Back b := by
  obtain ⟨k, rfl⟩ := h
  exact ha.mul k
theorem back_all : Back 4294967295 := by
  unfold Back
  rw [← powW_eq 32 4294967295 (by decide)]
  decide +kernel
theorem not_back (n : Nat) (hn : n < 2 ^ 32) (h : (powW 32 n == e0) = false) : ¬ Back n := by
  unfold Back
  rw [← powW_eq 32 n hn]
  simpa using h
theorem prime_dvd {p g k : Nat} (hp : ∀ m, m ∣ p → m = 1 ∨ m = p) (h : p ∣ g * k) : p ∣ g ∨ p ∣ k := by
  rcases hp (Nat.gcd p g) (Nat.gcd_dvd_left p g) with h1 | h1
  · exact .inr (Nat.Coprime.dvd_of_dvd_mul_left h1 h)
  · left
    rw [← h1]
    exact Nat.gcd_dvd_right p g
theorem prime_of {p : Nat} (r : Nat) (hr : p < (r + 1) * (r + 1)) (hp : 0 < p) (h : ∀ m, m < r + 1 → 1 < m → p % m ≠ 0) : ∀ m, m ∣ p → m = 1 ∨ m = p := by
  intro m hm
  obtain ⟨k, hk⟩ := hm
  have hm0 : 0 < m := by rcases Nat.eq_zero_or_pos m with h0 | h0; rw [h0] at hk; omega; exact h0
  have hk0 : 0 < k := by rcases Nat.eq_zero_or_pos k with h0 | h0; rw [h0] at hk; omega; exact h0
  by_cases h1 : m < r + 1
  · by_cases h2 : m = 1
    · exact .inl h2
    · exact absurd (by rw [hk]; exact Nat.mul_mod_right m k) (h m h1 (by omega))
  · by_cases h3 : k < r + 1
    · by_cases h4 : k = 1
      · right; rw [h4] at hk; omega
      · exact absurd (by rw [hk]; exact Nat.mul_mod_left m k) (h k h3 (by omega))
    · have : (r + 1) * (r + 1) ≤ m * k := Nat.mul_le_mul (by omega) (by omega)
      omega
theorem part_dvd {p g : Nat} (hp : ∀ m, m ∣ p → m = 1 ∨ m = p) (q : Nat) (hN : 4294967295 = p * q) (hp0 : 0 < p) (hg : g ∣ 4294967295) (hb : Back g) (hn : ¬ Back q) : p ∣ g := by
  obtain ⟨k, hk⟩ := hg
  have h1 : p ∣ g * k := ⟨q, by omega⟩
  rcases prime_dvd hp h1 with h | ⟨k', rfl⟩
  · exact h
  · exfalso
    apply hn
    refine hb.dvd ⟨k', ?_⟩
    have : p * q = p * (g * k') := by rw [← hN, hk, Nat.mul_left_comm]
    exact Nat.eq_of_mul_eq_mul_left hp0 this
theorem not3 : ¬ Back 1431655765 := not_back _ (by omega) (by decide +kernel)
theorem not5 : ¬ Back 858993459 := not_back _ (by omega) (by decide +kernel)
theorem not17 : ¬ Back 252645135 := not_back _ (by omega) (by decide +kernel)
theorem not257 : ¬ Back 16711935 := not_back _ (by omega) (by decide +kernel)
theorem not65537 : ¬ Back 65535 := not_back _ (by omega) (by decide +kernel)
theorem pr3 : ∀ m, m ∣ 3 → m = 1 ∨ m = 3 := prime_of 1 (by decide) (by decide) (by decide)
theorem pr5 : ∀ m, m ∣ 5 → m = 1 ∨ m = 5 := prime_of 2 (by decide) (by decide) (by decide)
theorem pr17 : ∀ m, m ∣ 17 → m = 1 ∨ m = 17 := prime_of 4 (by decide) (by decide) (by decide)
theorem pr257 : ∀ m, m ∣ 257 → m = 1 ∨ m = 257 := prime_of 16 (by decide) (by decide) (by decide)
theorem pr65537 : ∀ m, m ∣ 65537 → m = 1 ∨ m = 65537 := prime_of 256 (by decide) (by decide) (by decide +kernel)
theorem all_dvd {g : Nat} (hg : g ∣ 4294967295) (hb : Back g) : 3 * 5 * 17 * 257 * 65537 ∣ g := by
  have a1 : 3 ∣ g := part_dvd pr3 1431655765 (by omega) (by omega) hg hb not3
  have a2 : 5 ∣ g := part_dvd pr5 858993459 (by omega) (by omega) hg hb not5
  have a3 : 17 ∣ g := part_dvd pr17 252645135 (by omega) (by omega) hg hb not17
  have a4 : 257 ∣ g := part_dvd pr257 16711935 (by omega) (by omega) hg hb not257
  have a5 : 65537 ∣ g := part_dvd pr65537 65535 (by omega) (by omega) hg hb not65537
  have b2 := Nat.Coprime.mul_dvd_of_dvd_of_dvd (by decide +kernel : Nat.Coprime 3 5) a1 a2
  have b3 := Nat.Coprime.mul_dvd_of_dvd_of_dvd (by decide +kernel : Nat.Coprime (3 * 5) 17) b2 a3
  have b4 := Nat.Coprime.mul_dvd_of_dvd_of_dvd (by decide +kernel : Nat.Coprime (3 * 5 * 17) 257) b3 a4
  exact Nat.Coprime.mul_dvd_of_dvd_of_dvd (by decide +kernel : Nat.Coprime (3 * 5 * 17 * 257) 65537) b4 a5
theorem no_back {d : Nat} (h0 : 0 < d) (h1 : d < 4294967295) : ¬ Back d := by
  intro hd
  have hb := hd.gcd back_all
  have b5 := all_dvd (Nat.gcd_dvd_right d 4294967295) hb
  have := Nat.le_of_dvd h0 (Nat.dvd_trans b5 (Nat.gcd_dvd_left d 4294967295))
  omega
theorem iter_back {d : Nat} (h0 : 0 < d) (h1 : d < 4294967295) : iter d e0 ≠ e0 := by
  intro h
  refine no_back h0 h1 ?_
  have h2 := iter_iterS d e0
  unfold Back
  exact iter_inj (h2.trans h.symm)
end Go.Proofs.YthiginhigfieiaaGreatDoor.V
namespace Go.Proofs.YthiginhigfieiaaGreatDoor.V
open Go Go.RowKit
set_option linter.unusedVariables false
set_option maxRecDepth 100000
def F_ref1_power.l1 (k1 : Int) (j2 : Int → Heap → Prop) : Int → Int → Heap → Prop :=
  wl [(3, .one (.int .u32)), (4, .one (.int .i64))] (fun (next3 : Int → Int → Heap → Prop) (n4 i5 : Int) (h6 : Heap) =>
  brr (decide (i5 < k1))
  (next3 (IntKind.u32.wrap (n4 * 2)) (IntKind.i64.wrap (i5 + 1)) h6)
  (j2 n4 h6))
def F_ref1_power_of  (k1 : Int) (h : Heap) (Q : Int → Heap → Prop) : Prop :=
  jn [(3, .one (.int .u32))] (fun (n7 : Int) (h8 : Heap) =>
  Q n7 h8) (fun (j2 : Int → Heap → Prop) =>
  F_ref1_power.l1 k1 j2 1 0 h)
def F_ref1_power (k1 : Int) (h : Heap) (Q : Int → Heap → Prop) : Prop := F_ref1_power_of  k1 h Q
def plan120 : Plan := .s (.r [0]) (.s (.r [0, 3]) (.s (.s (.r [0, 3, 4]) (.bj [(3, .one (.int .u32))] [] (.l [(3, .one (.int .u32)), (4, .one (.int .i64))] [0] (.s (.s (.r [0, 3, 4, 7]) (.c .z .z)) (.s (.b (.r [0, 3, 4])) (.r [0, 3, 4])))))) (.s (.r [2]) .z)))
theorem F_ref1_power.eq  (k1 : Int) (h : Heap) (K : Value → Heap → Prop) : F_ref1_power_of  k1 h (fun (r0 : Int) (h : Heap) => K (.int .u32 r0) h) =
    den Tryz.prog noFns Tryz.f120.ntmps plan120 (bodyOf Tryz.f120) (args0 0 [(.int .i64 k1 : Value)]) h ⟨fun env h => dRes Tryz.prog Tryz.f120.results.toList env h K, fun _ _ _ => False, fun env h => dRes Tryz.prog Tryz.f120.results.toList env h K⟩ := by kernel_rfl
def E_ref1_power_of (f : Int → Heap → (Int → Heap → Prop) → Prop) : List Value → Heap → (Value → Heap → Prop) → Prop
  | [v0], h, K => dec1 (.int .i64) v0 fun (k1 : Int) =>
  f k1 h (fun (r0 : Int) (h : Heap) => K (.int .u32 r0) h)
  | _, _, _ => False
abbrev E_ref1_power := E_ref1_power_of F_ref1_power
theorem E_ref1_power.right : IsRight Tryz.prog 120 E_ref1_power := by
  refine isRight fun vs K w hh => ?_
  match vs, hh with
  | [v0], hh =>
    unfold E_ref1_power E_ref1_power_of at hh
    replace hh := dec1_sound hh; obtain ⟨k1, rfl, hh⟩ := hh
    unfold F_ref1_power at hh
    exact calls_den noFns_right plan120 _ w K Tryz.func120 (by kernel_rfl) (by kernel_rfl) (Eq.mp (F_ref1_power.eq  k1 w.heap K) hh)
theorem ok120 : okFn Tryz.prog 120 = true := by kernel_rfl
end Go.Proofs.YthiginhigfieiaaGreatDoor.V
namespace Go.Proofs.YthiginhigfieiaaGreatDoor.V
open Go Go.RowKit
set_option linter.unusedVariables false
set_option maxRecDepth 100000
def F_ref1_mirrored.l1 (j2 : Int → Heap → Prop) : Int → Int → Int → Heap → Prop :=
  wl [(0, .one (.int .u32)), (3, .one (.int .u32)), (4, .one (.int .i64))] (fun (next3 : Int → Int → Int → Heap → Prop) (n4 m5 k6 : Int) (h7 : Heap) =>
  brr (decide (k6 < 32))
  ((2 : Int) ≠ 0 ∧
  (2 : Int) ≠ 0 ∧
  next3 (IntKind.u32.wrap (n4.tdiv 2)) (IntKind.u32.wrap ((IntKind.u32.wrap (m5 * 2)) + (n4.tmod 2))) (IntKind.i64.wrap (k6 + 1)) h7)
  (j2 m5 h7))
def F_ref1_mirrored_of  (n1 : Int) (h : Heap) (Q : Int → Heap → Prop) : Prop :=
  jn [(3, .one (.int .u32))] (fun (m8 : Int) (h9 : Heap) =>
  Q m8 h9) (fun (j2 : Int → Heap → Prop) =>
  F_ref1_mirrored.l1 j2 n1 0 0 h)
def F_ref1_mirrored (n1 : Int) (h : Heap) (Q : Int → Heap → Prop) : Prop := F_ref1_mirrored_of  n1 h Q
def plan121 : Plan := .s (.r [0]) (.s (.r [0, 3]) (.s (.s (.r [0, 3, 4]) (.bj [(3, .one (.int .u32))] [] (.l [(0, .one (.int .u32)), (3, .one (.int .u32)), (4, .one (.int .i64))] [] (.s (.s (.r [0, 3, 4, 6]) (.c .z .z)) (.s (.b (.s (.r [0, 3, 4]) (.r [0, 3, 4]))) (.r [0, 3, 4])))))) (.s (.r [2]) .z)))
theorem F_ref1_mirrored.eq  (n1 : Int) (h : Heap) (K : Value → Heap → Prop) : F_ref1_mirrored_of  n1 h (fun (r0 : Int) (h : Heap) => K (.int .u32 r0) h) =
    den Tryz.prog noFns Tryz.f121.ntmps plan121 (bodyOf Tryz.f121) (args0 0 [(.int .u32 n1 : Value)]) h ⟨fun env h => dRes Tryz.prog Tryz.f121.results.toList env h K, fun _ _ _ => False, fun env h => dRes Tryz.prog Tryz.f121.results.toList env h K⟩ := by kernel_rfl
def E_ref1_mirrored_of (f : Int → Heap → (Int → Heap → Prop) → Prop) : List Value → Heap → (Value → Heap → Prop) → Prop
  | [v0], h, K => dec1 (.int .u32) v0 fun (n1 : Int) =>
  f n1 h (fun (r0 : Int) (h : Heap) => K (.int .u32 r0) h)
  | _, _, _ => False
abbrev E_ref1_mirrored := E_ref1_mirrored_of F_ref1_mirrored
theorem E_ref1_mirrored.right : IsRight Tryz.prog 121 E_ref1_mirrored := by
  refine isRight fun vs K w hh => ?_
  match vs, hh with
  | [v0], hh =>
    unfold E_ref1_mirrored E_ref1_mirrored_of at hh
    replace hh := dec1_sound hh; obtain ⟨n1, rfl, hh⟩ := hh
    unfold F_ref1_mirrored at hh
    exact calls_den noFns_right plan121 _ w K Tryz.func121 (by kernel_rfl) (by kernel_rfl) (Eq.mp (F_ref1_mirrored.eq  n1 w.heap K) hh)
theorem ok121 : okFn Tryz.prog 121 = true := by kernel_rfl
end Go.Proofs.YthiginhigfieiaaGreatDoor.V
namespace Go.Proofs.YthiginhigfieiaaGreatDoor.V
open Go Go.RowKit
set_option linter.unusedVariables false
set_option maxRecDepth 100000
def F_ref1_Sum.l1 (f120_ : Int → Heap → (Int → Heap → Prop) → Prop) (b1 : Sl) (i5 : Int) (j8 : Int → Heap → Prop) : Int → Int → Heap → Prop :=
  wl [(3, .one (.int .u32)), (5, .one (.int .i64))] (fun (next9 : Int → Int → Heap → Prop) (rest10 k11 : Int) (h12 : Heap) =>
  brr (decide (k11 < 8))
  (jn [(6, .one (.int .u32))] (fun (bit18 : Int) (h19 : Heap) =>
  jn [(6, .one (.int .u32))] (fun (bit21 : Int) (h22 : Heap) =>
  (2147483648 : Int) ≠ 0 ∧
  jn [(3, .one (.int .u32))] (fun (rest24 : Int) (h25 : Heap) =>
  next9 rest24 (IntKind.i64.wrap (k11 + 1)) h25) (fun (j23 : Int → Heap → Prop) =>
  brr ((IntKind.u32.wrap (rest10.tdiv 2147483648)) == 1)
  (j23 (IntKind.u32.wrap (BitVec.ofInt IntKind.u32.bits (IntKind.u32.wrap ((IntKind.u32.wrap (rest10 * 2)) + bit21)) ^^^ BitVec.ofInt IntKind.u32.bits 79764919).toNat) h22)
  (j23 (IntKind.u32.wrap ((IntKind.u32.wrap (rest10 * 2)) + bit21)) h22))) (fun (j20 : Int → Heap → Prop) =>
  brr (decide (i5 < 4))
  (j20 (IntKind.u32.wrap (1 - bit18)) h19)
  (j20 bit18 h19))) (fun (j13 : Int → Heap → Prop) =>
  brr (decide (i5 < ((b1.len : Nat) : Int)))
  (ixS 1 b1 i5 fun (a14 : Addr) =>
  ld [.int .u8] a14 h12 fun (v15 : Int) =>
  f120_ k11 h12 fun (r16 : Int) (h17 : Heap) =>
  cellsAre h17 a14 [.int .u8 v15] ∧
  r16 ≠ 0 ∧
  (2 : Int) ≠ 0 ∧
  j13 ((IntKind.u32.wrap ((IntKind.u32.wrap v15).tdiv r16)).tmod 2) h17)
  (j13 0 h12)))
  (j8 rest10 h12))
def F_ref1_Sum.l2 (f120_ : Int → Heap → (Int → Heap → Prop) → Prop) (b1 : Sl) (j2 : Int → Heap → Prop) : Int → Int → Heap → Prop :=
  wl [(3, .one (.int .u32)), (4, .one (.int .i64))] (fun (next3 : Int → Int → Heap → Prop) (rest4 i5 : Int) (h6 : Heap) =>
  brr (decide (i5 < (IntKind.i64.wrap (((b1.len : Nat) : Int) + 4))))
  (jn [(3, .one (.int .u32))] (fun (rest28 : Int) (h29 : Heap) =>
  next3 rest28 (IntKind.i64.wrap (i5 + 1)) h29) (fun (j7 : Int → Heap → Prop) =>
  jn [(3, .one (.int .u32))] (fun (rest26 : Int) (h27 : Heap) =>
  j7 rest26 h27) (fun (j8 : Int → Heap → Prop) =>
  F_ref1_Sum.l1 f120_ b1 i5 j8 rest4 0 h6)))
  (j2 rest4 h6))
def F_ref1_Sum_of (f120_ : Int → Heap → (Int → Heap → Prop) → Prop) (f121_ : Int → Heap → (Int → Heap → Prop) → Prop) (b1 : Sl) (h : Heap) (Q : Int → Heap → Prop) : Prop :=
  jn [(3, .one (.int .u32))] (fun (rest30 : Int) (h31 : Heap) =>
  f121_ rest30 h31 fun (r32 : Int) (h33 : Heap) =>
  Q (IntKind.u32.wrap (BitVec.ofInt IntKind.u32.bits (if IntKind.u32.signed then -1 else IntKind.u32.max) ^^^ BitVec.ofInt IntKind.u32.bits r32).toNat) h33) (fun (j2 : Int → Heap → Prop) =>
  F_ref1_Sum.l2 f120_ b1 j2 0 0 h)
def F_ref1_Sum (b1 : Sl) (h : Heap) (Q : Int → Heap → Prop) : Prop := F_ref1_Sum_of F_ref1_power F_ref1_mirrored b1 h Q
def plan52 : Plan := .s (.r [0]) (.s (.r [0, 3]) (.s (.s (.r [0, 3, 4]) (.bj [(3, .one (.int .u32))] [] (.l [(3, .one (.int .u32)), (4, .one (.int .i64))] [0] (.s (.s (.r [0, 3, 4, 12]) (.c .z .z)) (.s (.bj [(3, .one (.int .u32))] [0, 4] (.s (.r [0, 3, 4, 5]) (.bj [(3, .one (.int .u32))] [0, 4] (.l [(3, .one (.int .u32)), (5, .one (.int .i64))] [0, 4] (.s (.s (.r [0, 3, 4, 5, 16]) (.c .z .z)) (.s (.b (.s (.r [0, 3, 4, 5, 6]) (.s (.s (.r [0, 3, 4, 5, 6, 22]) (.cj [(6, .one (.int .u32))] [0, 3, 4, 5] (.d [0, 0, 3, 7, 15, 0, 32, 127, 255, 511] [[0, 1, 2, 3, 4, 5, 6, 7, 8, 9]] [0, 3, 4, 5, 6]) .z)) (.s (.s (.r [0, 3, 4, 5, 6, 33]) (.cj [(6, .one (.int .u32))] [0, 3, 4, 5] (.r [0, 3, 4, 5, 6]) .z)) (.s (.r [0, 3, 4, 5, 6, 7]) (.s (.r [0, 3, 4, 5, 7]) (.s (.r [0, 3, 4, 5, 43]) (.cj [(3, .one (.int .u32))] [0, 4, 5] (.r [0, 3, 4, 5]) .z)))))))) (.r [0, 3, 4, 5]))))))) (.r [0, 3, 4])))))) (.s (.r [2]) .z)))
theorem F_ref1_Sum.eq (f120_ : Int → Heap → (Int → Heap → Prop) → Prop) (f121_ : Int → Heap → (Int → Heap → Prop) → Prop) (b1 : Sl) (h : Heap) (K : Value → Heap → Prop) : F_ref1_Sum_of f120_ f121_ b1 h (fun (r0 : Int) (h : Heap) => K (.int .u32 r0) h) =
    den Tryz.prog (fn1 120 (E_ref1_power_of f120_) (fn1 121 (E_ref1_mirrored_of f121_) noFns)) Tryz.f52.ntmps plan52 (bodyOf Tryz.f52) (args0 0 [(.slice b1.ptr b1.len b1.cap : Value)]) h ⟨fun env h => dRes Tryz.prog Tryz.f52.results.toList env h K, fun _ _ _ => False, fun env h => dRes Tryz.prog Tryz.f52.results.toList env h K⟩ := by kernel_rfl
def E_ref1_Sum_of (f : Sl → Heap → (Int → Heap → Prop) → Prop) : List Value → Heap → (Value → Heap → Prop) → Prop
  | [v0], h, K => dec1 .sl v0 fun (b1 : Sl) =>
  f b1 h (fun (r0 : Int) (h : Heap) => K (.int .u32 r0) h)
  | _, _, _ => False
abbrev E_ref1_Sum := E_ref1_Sum_of F_ref1_Sum
theorem E_ref1_Sum.right : IsRight Tryz.prog 52 E_ref1_Sum := by
  refine isRight fun vs K w hh => ?_
  match vs, hh with
  | [v0], hh =>
    unfold E_ref1_Sum E_ref1_Sum_of at hh
    replace hh := dec1_sound hh; obtain ⟨b1, rfl, hh⟩ := hh
    unfold F_ref1_Sum at hh
    exact calls_den (fn1_right ok120 E_ref1_power.right (fn1_right ok121 E_ref1_mirrored.right noFns_right)) plan52 _ w K Tryz.func52 (by kernel_rfl) (by kernel_rfl) (Eq.mp (F_ref1_Sum.eq F_ref1_power F_ref1_mirrored b1 w.heap K) hh)
theorem ok52 : okFn Tryz.prog 52 = true := by kernel_rfl
end Go.Proofs.YthiginhigfieiaaGreatDoor.V
/- The program's check sum and the document's: both are the plain one. -/
namespace Go.Proofs.YthiginhigfieiaaGreatDoor.V
open Go Go.RowKit
set_option linter.unusedVariables false
set_option linter.unusedSimpArgs false
def w32c (x : W32) : List Value := [.int .u32 (x.toNat : Int)]
theorem w32c_len (x : W32) : (w32c x).length = 1 := rfl
theorem w32c_one (x : W32) : (w32c x).all oneV = true := rfl
theorem ofInt32 (x : W32) : BitVec.ofInt IntKind.u32.bits (x.toNat : Int) = x := by
  show BitVec.ofInt 32 (x.toNat : Int) = x
  apply BitVec.eq_of_toNat_eq
  have := x.isLt
  simp
theorem wrap32n {x : Int} (h1 : 0 ≤ x) (h2 : x < 4294967296) : IntKind.u32.wrap x = x := wrapu32 h1 h2
theorem wrap32 (x : W32) : IntKind.u32.wrap (x.toNat : Int) = x.toNat := by
  have := x.isLt
  exact wrapu32 (by omega) (by omega)
theorem xor32 (a b : W32) : IntKind.u32.wrap (BitVec.ofInt IntKind.u32.bits (a.toNat : Int) ^^^ BitVec.ofInt IntKind.u32.bits (b.toNat : Int)).toNat = ((a ^^^ b).toNat : Int) := by
  rw [ofInt32, ofInt32]; exact wrap32 (a ^^^ b)
theorem and32 (a b : W32) : IntKind.u32.wrap (BitVec.ofInt IntKind.u32.bits (a.toNat : Int) &&& BitVec.ofInt IntKind.u32.bits (b.toNat : Int)).toNat = ((a &&& b).toNat : Int) := by
  rw [ofInt32, ofInt32]; exact wrap32 (a &&& b)
theorem and32_1 (a : W32) : IntKind.u32.wrap (BitVec.ofInt IntKind.u32.bits (a.toNat : Int) &&& BitVec.ofInt IntKind.u32.bits 1).toNat = ((a &&& 1#32).toNat : Int) := and32 a 1#32
theorem and32_15 (a : W32) : IntKind.u32.wrap (BitVec.ofInt IntKind.u32.bits (a.toNat : Int) &&& BitVec.ofInt IntKind.u32.bits 15).toNat = ((a &&& 15#32).toNat : Int) := and32 a 15#32
theorem and32_poly (a : W32) : IntKind.u32.wrap (BitVec.ofInt IntKind.u32.bits (a.toNat : Int) &&& BitVec.ofInt IntKind.u32.bits 3988292384).toNat = ((a &&& poly).toNat : Int) := and32 a poly
theorem xor32_ref (a : W32) : IntKind.u32.wrap (BitVec.ofInt IntKind.u32.bits (a.toNat : Int) ^^^ BitVec.ofInt IntKind.u32.bits 79764919).toNat = ((a ^^^ 0x04c11db7#32).toNat : Int) := xor32 a 0x04c11db7#32
theorem not32 (a : W32) : IntKind.u32.wrap (BitVec.ofInt IntKind.u32.bits (if IntKind.u32.signed then -1 else IntKind.u32.max) ^^^ BitVec.ofInt IntKind.u32.bits (a.toNat : Int)).toNat = ((~~~ a).toNat : Int) := by
  have h : (if IntKind.u32.signed = true then -1 else IntKind.u32.max) = (((~~~ 0#32 : W32)).toNat : Int) := by decide
  have hx : (~~~ 0#32 : W32) ^^^ a = ~~~ a := by
    apply BitVec.eq_of_getLsbD_eq
    intro i hi
    rw [BitVec.getLsbD_xor, BitVec.getLsbD_not, BitVec.getLsbD_zero, BitVec.getLsbD_not]
    simp only [hi, decide_true, Bool.not_false, Bool.and_self, Bool.true_and]
    cases a.getLsbD i <;> rfl
  rw [h, xor32, hx]
theorem shr32 (a : W32) (k : Nat) (hk : k ≤ 32) : (a.toNat : Int).fdiv (2 ^ min (k : Int).toNat IntKind.u32.bits) = ((a >>> k).toNat : Int) := by
  have h : min (k : Int).toNat IntKind.u32.bits = k := by
    show min (k : Int).toNat 32 = k
    omega
  rw [h, BitVec.toNat_ushiftRight, Nat.shiftRight_eq_div_pow, Int.fdiv_eq_ediv_of_nonneg _ (Int.pow_nonneg (by omega))]
  simp
theorem shr32_1 (a : W32) : (a.toNat : Int).fdiv (2 ^ min (1 : Int).toNat IntKind.u32.bits) = ((a >>> 1).toNat : Int) := shr32 a 1 (by decide)
theorem shr32_4 (a : W32) : (a.toNat : Int).fdiv (2 ^ min (4 : Int).toNat IntKind.u32.bits) = ((a >>> 4).toNat : Int) := shr32 a 4 (by decide)
theorem neg32 (a : W32) : IntKind.u32.wrap (0 - (a.toNat : Int)) = ((0#32 - a).toNat : Int) := by
  have := a.isLt
  rw [BitVec.toNat_sub]
  unfold IntKind.wrap
  simp [IntKind.bits, IntKind.signed]
  omega
theorem crcT_machine (y : W32) : IntKind.u32.wrap (BitVec.ofInt IntKind.u32.bits ((y.toNat : Int).fdiv (2 ^ min (1 : Int).toNat IntKind.u32.bits)) ^^^ BitVec.ofInt IntKind.u32.bits (IntKind.u32.wrap (BitVec.ofInt IntKind.u32.bits (IntKind.u32.wrap (0 - (IntKind.u32.wrap (BitVec.ofInt IntKind.u32.bits (y.toNat : Int) &&& BitVec.ofInt IntKind.u32.bits 1).toNat))) &&& BitVec.ofInt IntKind.u32.bits 3988292384).toNat)).toNat = ((crcT y).toNat : Int) := by
  rw [shr32_1, and32_1, neg32, and32_poly, xor32]
  congr 2
  unfold crcT
  congr 1
  have h1 : y &&& 1#32 = if y.getLsbD 0 then 1#32 else 0#32 := by
    apply BitVec.eq_of_getLsbD_eq
    intro i hi
    rw [BitVec.getLsbD_and, BitVec.getLsbD_one]
    by_cases h0 : i = 0
    · subst h0; cases y.getLsbD 0 <;> simp
    · cases y.getLsbD 0 <;> simp [h0]
  rw [h1]
  cases y.getLsbD 0 with
  | false => simp
  | true => decide
theorem u8to32 (c : UInt8) : IntKind.u32.wrap (c.toNat : Int) = ((BitVec.ofNat 32 c.toNat).toNat : Int) := by
  have := c.toNat_lt
  rw [wrapu32 (by omega) (by omega), BitVec.toNat_ofNat]
  omega
theorem i32_ofNat {x : Int} (h0 : 0 ≤ x) (h1 : x < 16) : IntKind.u32.wrap x = ((BitVec.ofNat 32 x.toNat).toNat : Int) := by
  rw [wrapu32 h0 (by omega), BitVec.toNat_ofNat]
  omega
section
variable {h : Heap}
theorem F_code_Sum.is {s : Sl} {l : List UInt8} {Q : Int → Heap → Prop} (V : Bytes h s l) (hl : l.length < 4611686018427387904) (k : ∀ h', KeptH h h' → Q ((crc l).toNat : Int) h') : F_code_Sum s h Q := by
  rw [F_code_Sum.eq_1, F_code_Sum_of.eq_1]
  refine Sat.al (Sat.nil h) fun b h1 O => ?_
  refine jn0 (fun h' => ∃ ts : List W32, ts.length = 16 ∧ (∀ (k : Nat), k < 16 → ts[k]? = some (iter 4 (BitVec.ofNat 32 k))) ∧ Sat h h' [own b (ts.flatMap w32c)]) ?_ ?_
  · clear O
    rintro h1 ⟨ts, ht, htk, O⟩
    refine jn1 (fun (n : Int) h' => n = ((crcFrom (~~~ 0#32) l).toNat : Int) ∧ Sat h h' [own b (ts.flatMap w32c)]) ?_ ?_
    · rintro n h2 ⟨rfl, O⟩
      rw [not32]
      exact k _ O.kept
    · intro j hj
      rw [F_code_Sum.l3.eq_1]
      refine wl2 (k := .int .u32) (l := .int .i64) (fun (m : Nat) (n x : Int) (h' : Heap) => x + m = l.length ∧ 0 ≤ x ∧ h' = h1 ∧ n = ((crcFrom (~~~ 0#32) (l.take x.toNat)).toNat : Int)) ?_ (m := l.length) ⟨by omega, by omega, rfl, rfl⟩
      rintro m (n : Int) (x : Int) h1 next hn ⟨hx, hx0, rfl, rfl⟩
      rw [V.len]
      refine brr_p (fun hlt => ?_) (fun hlt => ?_)
      · refine Bytes.at (V.kept O.kept) hx0 hlt fun c hc => ?_
        have hc' : l.take (x.toNat + 1) = l.take x.toNat ++ [c] := by
          rw [List.take_add_one, hc]; rfl
        rw [u8to32, xor32, and32_15]
        generalize hz : crcFrom (~~~ 0#32) (l.take x.toNat) ^^^ BitVec.ofNat 32 c.toNat = z
        have h15 : ∀ y : W32, (y &&& 15#32).toNat < 16 := fun y => by
          rw [BitVec.toNat_and]
          exact Nat.lt_of_le_of_lt Nat.and_le_right (by decide)
        have hof : ∀ y : W32, BitVec.ofNat 32 (y &&& 15#32).toNat = y &&& 15#32 := fun y => by simp
        refine ⟨by decide, ?_⟩
        refine O.getA (k := .int .u32) 0 w32c_len rfl ht.symm (by omega) (x := iter 4 (z &&& 15#32)) (by have := htk _ (h15 z); rw [hof] at this; exact this) (fun x => (x.toNat : Int)) (fun _ => rfl) ?_
        rw [shr32_4, xor32, nib, and32_15]
        refine ⟨by decide, ?_⟩
        refine O.getA (k := .int .u32) 0 w32c_len rfl ht.symm (by omega) (x := iter 4 (iter 4 z &&& 15#32)) (by have := htk _ (h15 (iter 4 z)); rw [hof] at this; exact this) (fun x => (x.toNat : Int)) (fun _ => rfl) ?_
        rw [shr32_4, xor32, nib, wrap64 (by omega) (by omega)]
        refine hn (m - 1) _ _ _ (by omega) ⟨by omega, by omega, rfl, ?_⟩
        rw [show (x + 1).toNat = x.toNat + 1 by omega, hc']
        unfold crcFrom
        rw [List.foldl_append]
        show _ = ((crcByte (crcFrom (~~~ 0#32) (l.take x.toNat)) c).toNat : Int)
        unfold crcByte
        rw [hz, iter_add 4 4]
      · refine hj _ _ ⟨?_, O⟩
        rw [List.take_of_length_le (by omega)]
  · intro j hj
    rw [F_code_Sum.l2.eq_1]
    refine wl1 (k := .int .i64) (fun (m : Nat) (x : Int) (h' : Heap) => x + m = 16 ∧ 0 ≤ x ∧ ∃ ts : List W32, ts.length = 16 ∧ (∀ (k : Nat), (k : Int) < x → ts[k]? = some (iter 4 (BitVec.ofNat 32 k))) ∧ Sat h h' [own b (ts.flatMap w32c)]) ?_ (m := 16) ⟨by omega, by omega, List.replicate 16 0#32, by simp, by intro k hk; omega, O⟩
    clear O
    rintro m (x : Int) h1 next hn ⟨hx, hx0, ts, ht, htk, O⟩
    refine brr_p (fun hlt => ?_) (fun hlt => ?_)
    · refine jn0 (fun h' => ∃ ts : List W32, ts.length = 16 ∧ (∀ (k : Nat), (k : Int) < x + 1 → ts[k]? = some (iter 4 (BitVec.ofNat 32 k))) ∧ Sat h h' [own b (ts.flatMap w32c)]) ?_ ?_
      · rintro h2 ⟨ts, h3⟩
        rw [wrap64 (by omega) (by omega)]
        exact hn (m - 1) _ _ (by omega) ⟨by omega, by omega, ts, h3⟩
      · intro j2 hj2
        refine jn1 (fun (n : Int) h' => h' = h1 ∧ n = ((iter 4 (BitVec.ofNat 32 x.toNat)).toNat : Int)) ?_ ?_
        · rintro n h1 ⟨rfl, rfl⟩
          refine O.putA w32c_len w32c_one ht.symm hx0 (by omega) (iter 4 (BitVec.ofNat 32 x.toNat)) rfl fun h2 O => ?_
          refine hj2 _ ⟨_, by simp [ht], fun k hk => ?_, O⟩
          rw [List.getElem?_set]
          by_cases e : x.toNat = k
          · subst e
            rw [if_pos rfl, if_pos (by omega)]
          · rw [if_neg e]
            exact htk k (by omega)
        · intro j3 hj3
          rw [F_code_Sum.l1.eq_1, i32_ofNat hx0 hlt]
          refine wl2 (k := .int .u32) (l := .int .i64) (fun (m : Nat) (n y : Int) (h' : Heap) => y + m = 4 ∧ 0 ≤ y ∧ h' = h1 ∧ n = ((iter y.toNat (BitVec.ofNat 32 x.toNat)).toNat : Int)) ?_ (m := 4) ⟨by omega, by omega, rfl, rfl⟩
          rintro m (n : Int) (y : Int) h1 next2 hn2 ⟨hy, hy0, rfl, rfl⟩
          refine brr_p (fun hlt => ?_) (fun hlt => ?_)
          · refine ⟨by decide, ?_⟩
            rw [crcT_machine, wrap64 (by omega) (by omega)]
            refine hn2 (m - 1) _ _ _ (by omega) ⟨by omega, by omega, rfl, ?_⟩
            rw [show (y + 1).toNat = y.toNat + 1 by omega, iter_succ']
          · have : y = 4 := by omega
            subst this
            exact hj3 _ _ ⟨rfl, rfl⟩
    · refine hj _ ⟨ts, ht, fun k hk => htk k (by omega), O⟩
theorem F_ref1_power.is {n : Int} {Q : Int → Heap → Prop} (h0 : 0 ≤ n) (h1 : n < 32) (k : Q ((2 ^ n.toNat : Nat) : Int) h) : F_ref1_power n h Q := by
  rw [F_ref1_power.eq_1, F_ref1_power_of.eq_1]
  refine jn1 (fun (x : Int) h' => h' = h ∧ x = ((2 ^ n.toNat : Nat) : Int)) ?_ ?_
  · rintro x h ⟨rfl, rfl⟩
    exact k
  · intro j hj
    rw [F_ref1_power.l1.eq_1]
    refine wl2 (k := .int .u32) (l := .int .i64) (fun (m : Nat) (x i : Int) (h' : Heap) => i + m = n ∧ 0 ≤ i ∧ h' = h ∧ x = ((2 ^ i.toNat : Nat) : Int)) ?_ (m := n.toNat) ⟨by omega, by omega, rfl, rfl⟩
    rintro m (x : Int) (i : Int) h next hn ⟨hi, hi0, rfl, rfl⟩
    refine brr_p (fun hlt => ?_) (fun hlt => ?_)
    · have hp : 2 ^ (i.toNat + 1) ≤ 2 ^ 31 := Nat.pow_le_pow_right (by decide) (by omega)
      rw [Nat.pow_succ] at hp
      rw [wrapu32 (by omega) (by omega), wrap64 (by omega) (by omega)]
      refine hn (m - 1) _ _ _ (by omega) ⟨by omega, by omega, rfl, ?_⟩
      rw [show (i + 1).toNat = i.toNat + 1 by omega, Nat.pow_succ]
      simp
    · have : i = n := by omega
      subst this
      exact hj _ _ ⟨rfl, rfl⟩
theorem mirr_machine1 (n : W32) : IntKind.u32.wrap ((n.toNat : Int).tdiv 2) = ((n >>> 1).toNat : Int) := by
  have := n.isLt
  rw [Int.tdiv_eq_ediv_of_nonneg (by omega), wrapu32 (by omega) (by omega), BitVec.toNat_ushiftRight, Nat.shiftRight_eq_div_pow]
  simp
theorem dbl32 (m : W32) (b : Bool) : IntKind.u32.wrap ((IntKind.u32.wrap ((m.toNat : Int) * 2)) + (if b then 1 else 0)) = (((m <<< 1) ^^^ bitAt b 1#32).toNat : Int) := by
  have hm := m.isLt
  have h1 : IntKind.u32.wrap ((m.toNat : Int) * 2) = ((m <<< 1).toNat : Int) := by
    rw [BitVec.toNat_shiftLeft, Nat.shiftLeft_eq]
    unfold IntKind.wrap
    simp [IntKind.bits, IntKind.signed]
  rw [h1]
  have he : (m <<< 1).toNat % 2 = 0 := by
    rw [BitVec.toNat_shiftLeft, Nat.shiftLeft_eq]; omega
  have hlt := (m <<< 1).isLt
  cases b with
  | false => rw [if_neg (by decide), Int.add_zero, wrap32 (m <<< 1)]; simp [bitAt]
  | true =>
    rw [if_pos rfl, wrapu32 (by omega) (by omega)]
    simp only [bitAt, if_true, BitVec.toNat_xor]
    have : (m <<< 1).toNat ^^^ (1#32).toNat = (m <<< 1).toNat + 1 := by
      show (m <<< 1).toNat ^^^ 1 = _
      generalize (m <<< 1).toNat = n at *
      apply Nat.eq_of_testBit_eq
      intro i
      rw [Nat.testBit_xor]
      cases i with
      | zero => rw [Nat.testBit_zero, Nat.testBit_zero, Nat.testBit_zero, he, show (n + 1) % 2 = 1 by omega]; rfl
      | succ i => rw [Nat.testBit_succ, Nat.testBit_succ, Nat.testBit_succ, show (n + 1) / 2 = n / 2 by omega]; simp
    rw [this]
    simp
theorem mod2_bit (n : W32) : ((n.toNat : Int).tmod 2) = (if n.getLsbD 0 then 1 else 0) := by
  rw [Int.tmod_eq_emod_of_nonneg (by omega)]
  have h : n.getLsbD 0 = decide (n.toNat % 2 = 1) := by
    rw [← BitVec.testBit_toNat, Nat.testBit_zero]
  rw [h]
  by_cases e : n.toNat % 2 = 1
  · rw [if_pos (by simpa using e)]; omega
  · rw [if_neg (by simpa using e)]; omega
theorem and1_bitAt (n : W32) : n &&& 1#32 = bitAt (n.getLsbD 0) 1#32 := by
  apply BitVec.eq_of_getLsbD_eq
  intro i hi
  rw [BitVec.getLsbD_and, BitVec.getLsbD_one]
  by_cases h0 : i = 0
  · subst h0; cases n.getLsbD 0 <;> simp [bitAt]
  · cases n.getLsbD 0 <;> simp [bitAt, h0]
theorem F_ref1_mirrored.is {n : W32} {Q : Int → Heap → Prop} (k : Q ((mirr 32 n 0#32).toNat : Int) h) : F_ref1_mirrored (n.toNat : Int) h Q := by
  rw [F_ref1_mirrored.eq_1, F_ref1_mirrored_of.eq_1]
  refine jn1 (fun (x : Int) h' => h' = h ∧ x = ((mirr 32 n 0#32).toNat : Int)) ?_ ?_
  · rintro x h ⟨rfl, rfl⟩
    exact k
  · intro j hj
    rw [F_ref1_mirrored.l1.eq_1]
    refine wl3 (k := .int .u32) (l := .int .u32) (l3 := .int .i64) (fun (m : Nat) (x y i : Int) (h' : Heap) => i + m = 32 ∧ 0 ≤ i ∧ h' = h ∧ ∃ a c : W32, x = (a.toNat : Int) ∧ y = (c.toNat : Int) ∧ mirr m a c = mirr 32 n 0#32) ?_ (m := 32) ⟨by omega, by omega, rfl, n, 0#32, rfl, rfl, rfl⟩
    rintro m (x : Int) (y : Int) (i : Int) h next hn ⟨hi, hi0, rfl, a, c, rfl, rfl, he⟩
    refine brr_p (fun hlt => ?_) (fun hlt => ?_)
    · refine ⟨by decide, by decide, ?_⟩
      rw [mirr_machine1, mod2_bit, dbl32, wrap64 (by omega) (by omega)]
      obtain ⟨m, rfl⟩ : ∃ k, m = k + 1 := ⟨m - 1, by omega⟩
      refine hn m _ _ _ _ (by omega) ⟨by omega, by omega, rfl, _, _, rfl, rfl, ?_⟩
      rw [← he, mirr, and1_bitAt]
    · have : m = 0 := by omega
      subst this
      exact hj _ _ ⟨rfl, by rw [← he]; rfl⟩
/-- The bits in the order in which the document takes them: the first 32 turned over, 32 zeros behind. -/
def refBits (l : List UInt8) : List Bool := ((bitsOf l ++ List.replicate 32 false).take 32).map (!·) ++ (bitsOf l ++ List.replicate 32 false).drop 32
theorem bitsOf_len : ∀ (l : List UInt8), (bitsOf l).length = 8 * l.length
  | [] => rfl
  | c :: l => by
    unfold bitsOf
    rw [List.flatMap_cons, List.length_append, show (bits8 c).length = 8 by simp [bits8]]
    have := bitsOf_len l
    unfold bitsOf at this
    rw [this, List.length_cons]
    omega
theorem bitsOf_at : ∀ (l : List UInt8) (i k : Nat) (c : UInt8), l[i]? = some c → k < 8 → (bitsOf l)[8 * i + k]? = some (c.toNat.testBit k)
  | [], i, k, c, h, _ => by simp at h
  | d :: l, 0, k, c, h, hk => by
    simp at h; subst h
    unfold bitsOf
    rw [List.flatMap_cons, List.getElem?_append_left (by simp [bits8]; omega)]
    simp [bits8, hk]
  | d :: l, i + 1, k, c, h, hk => by
    unfold bitsOf
    rw [List.flatMap_cons, List.getElem?_append_right (by simp [bits8]; omega)]
    have := bitsOf_at l i k c (by simpa using h) hk
    unfold bitsOf at this
    rw [show 8 * (i + 1) + k - (bits8 d).length = 8 * i + k by simp [bits8]; omega]
    exact this
def refBit (l : List UInt8) (i k : Nat) : Bool := (match l[i]? with | some c => c.toNat.testBit k | none => false) ^^ decide (i < 4)
theorem refBits_at (l : List UInt8) (i k : Nat) (hi : i < l.length + 4) (hk : k < 8) : (refBits l)[8 * i + k]? = some (refBit l i k) := by
  have hz : (bitsOf l ++ List.replicate 32 false)[8 * i + k]? = some (match l[i]? with | some c => c.toNat.testBit k | none => false) := by
    by_cases h : i < l.length
    · have hc : l[i]? = some l[i] := List.getElem?_eq_getElem h
      rw [List.getElem?_append_left (by rw [bitsOf_len]; omega), hc, bitsOf_at l i k _ hc hk]
    · rw [List.getElem?_append_right (by rw [bitsOf_len]; omega), List.getElem?_eq_none (by omega : l.length ≤ i), bitsOf_len, List.getElem?_replicate, if_pos (by omega)]
  have hlen : ((bitsOf l ++ List.replicate 32 false).take 32).length = 32 := by simp
  unfold refBits refBit
  by_cases h4 : i < 4
  · rw [List.getElem?_append_left (by simp; omega), List.getElem?_map, List.getElem?_take, if_pos (by omega), hz]
    simp [h4]
  · rw [List.getElem?_append_right (by simp; omega), List.length_map, hlen, List.getElem?_drop, show 32 + (8 * i + k - 32) = 8 * i + k by omega, hz]
    simp [h4]
theorem refBits_len (l : List UInt8) : (refBits l).length = 8 * (l.length + 4) := by
  unfold refBits
  simp [bitsOf_len]
  omega
theorem ref_crc (l : List UInt8) : ~~~ (mirr 32 ((refBits l).foldl refStep 0#32) 0#32) = crc l := by
  rw [(Rev.zero.steps (refBits l)).mirr]
  unfold refBits crc
  rw [aug_turned (bitsOf l) ((bitsOf l ++ List.replicate 32 false).take 32) ((bitsOf l ++ List.replicate 32 false).drop 32) (List.take_append_drop _ _).symm (by simp), non_bits]
theorem take_snoc {α : Type} {l : List α} {j : Nat} {x : α} (h : l[j]? = some x) : l.take (j + 1) = l.take j ++ [x] := by
  rw [List.take_add_one, h]; rfl
theorem F_ref1_Sum.is {s : Sl} {l : List UInt8} {Q : Int → Heap → Prop} (V : Bytes h s l) (hl : l.length < 4611686018427387904) (kk : Q ((crc l).toNat : Int) h) : F_ref1_Sum s h Q := by
  rw [F_ref1_Sum.eq_1, F_ref1_Sum_of.eq_1]
  refine jn1 (fun (x : Int) h' => h' = h ∧ x = (((refBits l).foldl refStep 0#32).toNat : Int)) ?_ ?_
  · rintro x h ⟨rfl, rfl⟩
    refine F_ref1_mirrored.is ?_
    rw [not32, ref_crc]
    exact kk
  · intro j hj
    rw [F_ref1_Sum.l2.eq_1, V.len, wrap64 (by omega) (by omega)]
    refine wl2 (k := .int .u32) (l := .int .i64) (fun (m : Nat) (x i : Int) (h' : Heap) => i + m = l.length + 4 ∧ 0 ≤ i ∧ h' = h ∧ x = ((((refBits l).take (8 * i.toNat)).foldl refStep 0#32).toNat : Int)) ?_ (m := l.length + 4) ⟨by omega, by omega, rfl, rfl⟩
    rintro m (x : Int) (i : Int) h next hn ⟨hi, hi0, rfl, rfl⟩
    refine brr_p (fun hlt => ?_) (fun hlt => ?_)
    · refine jn1 (fun (x : Int) h' => h' = h ∧ x = ((((refBits l).take (8 * (i + 1).toNat)).foldl refStep 0#32).toNat : Int)) ?_ ?_
      · rintro x h ⟨rfl, rfl⟩
        rw [wrap64 (by omega) (by omega)]
        exact hn (m - 1) _ _ _ (by omega) ⟨by omega, by omega, rfl, rfl⟩
      · intro j2 hj2
        refine jn1 _ hj2 fun j3 hj3 => ?_
        rw [F_ref1_Sum.l1.eq_1, V.len]
        refine wl2 (k := .int .u32) (l := .int .i64) (fun (m : Nat) (x k : Int) (h' : Heap) => k + m = 8 ∧ 0 ≤ k ∧ h' = h ∧ x = ((((refBits l).take (8 * i.toNat + k.toNat)).foldl refStep 0#32).toNat : Int)) ?_ (m := 8) ⟨by omega, by omega, rfl, rfl⟩
        rintro m2 (x : Int) (k : Int) h next2 hn2 ⟨hk, hk0, rfl, rfl⟩
        refine brr_p (fun hlt8 => ?_) (fun hlt8 => ?_)
        · refine jn1 (fun (x : Int) h' => h' = h ∧ x = (if (match l[i.toNat]? with | some c => c.toNat.testBit k.toNat | none => false) then 1 else 0)) ?_ ?_
          · rintro x h ⟨rfl, rfl⟩
            refine jn1 (fun (x : Int) h' => h' = h ∧ x = (if refBit l i.toNat k.toNat then 1 else 0)) ?_ ?_
            · rintro x h ⟨rfl, rfl⟩
              refine ⟨by decide, ?_⟩
              have hb := refBits_at l i.toNat k.toNat (by omega) (by omega)
              have htk : (refBits l).take (8 * i.toNat + (k + 1).toNat) = (refBits l).take (8 * i.toNat + k.toNat) ++ [refBit l i.toNat k.toNat] := by
                rw [show 8 * i.toNat + (k + 1).toNat = 8 * i.toNat + k.toNat + 1 by omega]
                exact take_snoc hb
              generalize hr : ((refBits l).take (8 * i.toNat + k.toNat)).foldl refStep 0#32 = r at *
              have hnew : ((refBits l).take (8 * i.toNat + (k + 1).toNat)).foldl refStep 0#32 = refStep r (refBit l i.toNat k.toNat) := by
                rw [htk, List.foldl_append, hr]; rfl
              have htop : (IntKind.u32.wrap ((r.toNat : Int).tdiv 2147483648) == 1) = r.getLsbD 31 := by
                have hrl := r.isLt
                rw [Int.tdiv_eq_ediv_of_nonneg (by omega), wrapu32 (by omega) (by omega), ← BitVec.testBit_toNat, Nat.testBit_eq_decide_div_mod_eq]
                by_cases h : r.toNat / 2147483648 = 1
                · have h1 : ((r.toNat : Int) / 2147483648 == 1) = true := by simp; omega
                  rw [h1, show r.toNat / 2 ^ 31 % 2 = 1 by rw [show 2 ^ 31 = 2147483648 by decide, h]]
                  rfl
                · have h1 : ((r.toNat : Int) / 2147483648 == 1) = false := by simp; omega
                  rw [h1, show r.toNat / 2 ^ 31 % 2 = 0 by rw [show 2 ^ 31 = 2147483648 by decide]; omega]
                  rfl
              refine jn1 (fun (x : Int) h' => h' = h ∧ x = ((refStep r (refBit l i.toNat k.toNat)).toNat : Int)) ?_ ?_
              · rintro x h ⟨rfl, rfl⟩
                rw [wrap64 (by omega) (by omega)]
                exact hn2 (m2 - 1) _ _ _ (by omega) ⟨by omega, by omega, rfl, by rw [hnew]⟩
              · intro j4 hj4
                rw [htop, dbl32, xor32_ref]
                refine brr_of (fun ht => ?_) (fun ht => ?_)
                · refine hj4 _ _ ⟨rfl, ?_⟩
                  unfold refStep
                  rw [ht]; rfl
                · refine hj4 _ _ ⟨rfl, ?_⟩
                  unfold refStep
                  rw [ht]; simp
            · intro j4 hj4
              unfold refBit at hj4
              refine brr_p (fun h4 => ?_) (fun h4 => ?_)
              · refine hj4 _ _ ⟨rfl, ?_⟩
                rw [show decide (i.toNat < 4) = true by simp; omega]
                cases (match l[i.toNat]? with | some c => c.toNat.testBit k.toNat | none => false) <;> decide
              · refine hj4 _ _ ⟨rfl, ?_⟩
                rw [show decide (i.toNat < 4) = false by simp; omega]
                simp
          · intro j4 hj4
            refine brr_p (fun hil => ?_) (fun hil => ?_)
            · refine V.ix hi0 hil fun a cs c hc hlen hR hca => ?_
              subst hR
              refine ld_are hca (ldL_c (ldL_n ?_))
              refine F_ref1_power.is hk0 (by omega) ?_
              refine ⟨hca, ?_⟩
              have hp : 0 < 2 ^ k.toNat := Nat.pow_pos (by decide)
              refine ⟨by omega, by decide, ?_⟩
              refine hj4 _ _ ⟨rfl, ?_⟩
              have hcl := c.toNat_lt
              have hq : c.toNat / 2 ^ k.toNat ≤ c.toNat := Nat.div_le_self _ _
              have e1 : (c.toNat : Int) / ((2 ^ k.toNat : Nat) : Int) = ((c.toNat / 2 ^ k.toNat : Nat) : Int) := (Int.natCast_ediv _ _).symm
              rw [wrapu32 (x := (c.toNat : Int)) (by omega) (by omega), Int.tdiv_eq_ediv_of_nonneg (by omega), e1, hc]
              simp only [Nat.testBit_eq_decide_div_mod_eq]
              generalize c.toNat / 2 ^ k.toNat = q at *
              rw [wrapu32 (by omega) (by omega), Int.tmod_eq_emod_of_nonneg (by omega)]
              by_cases e : q % 2 = 1
              · rw [if_pos (by simpa using e)]; omega
              · rw [if_neg (by simpa using e)]; omega
            · refine hj4 _ _ ⟨rfl, ?_⟩
              rw [List.getElem?_eq_none (by omega)]
              rfl
        · have : k = 8 := by omega
          subst this
          refine hj3 _ _ ⟨rfl, ?_⟩
          rw [show 8 * i.toNat + (8 : Int).toNat = 8 * (i + 1).toNat by omega]
    · refine hj _ _ ⟨rfl, ?_⟩
      rw [List.take_of_length_le (by rw [refBits_len]; omega)]
end
end Go.Proofs.YthiginhigfieiaaGreatDoor.V
/- The program's Encode and Decode. -/
namespace Go.Proofs.YthiginhigfieiaaGreatDoor.V
open Go Go.RowKit
set_option linter.unusedVariables false
set_option linter.unusedSimpArgs false
section
variable {h0 h : Heap} {L : List Res} {b w : Nat} {m : Mg} {T : Bxs}
def encB (m : Mg) : List UInt8 := if wrongM m = 0 then sealB (bodyM m) else []
def hdB (ns : List Int) : List UInt8 := ns.flatMap fun n => fixB n.toNat 1
theorem hdB_len (ns : List Int) : (hdB ns).length = ns.length := by
  unfold hdB
  induction ns with
  | nil => rfl
  | cons n ns ih => rw [List.flatMap_cons, List.length_append, ih, fixB_len, List.length_cons]; omega
theorem F_message_Encode.l1.is {a : Nat} {ns : List Int} {j : Heap → Prop} (hn : ns.length = 4) (hb : ∀ n ∈ ns, 0 ≤ n ∧ n < 256) (O : Sat h0 h (wrR w [] :: own a (ns.flatMap i64c) :: L)) (hj : ∀ h', Sat h0 h' (wrR w (hdB ns) :: L) → j h') : F_message_Encode.l1 F_code_Writer_U8 (some (pt w 0)) (pt a 0) j 0 h := by
  rw [F_message_Encode.l1.eq_1]
  refine wl1 (k := .int .i64) (fun (n : Nat) (i : Int) (h' : Heap) => 0 ≤ i ∧ i + n = 4 ∧ Sat h0 h' (wrR w (hdB (ns.take i.toNat)) :: own a (ns.flatMap i64c) :: L)) ?_ (m := 4) ⟨by omega, by omega, by simpa [hdB] using O⟩
  clear O
  intro n (i : Int) h next hnx ⟨hi0, him, O⟩
  refine brr_p (fun hlt => ?_) (fun hlt => ?_)
  · have hx : ns[i.toNat]? = some (ns[i.toNat]'(by omega)) := List.getElem?_eq_getElem (by omega)
    generalize ns[i.toNat]'(by omega) = x at hx
    obtain ⟨g1, g2⟩ := hb x (List.mem_of_getElem? hx)
    have V := O.arr 1 i64c_len rfl
    rw [hn] at V
    refine V.get1 hi0 hx (fun x => x) (fun _ => rfl) ?_
    rw [wrapu8 (x := x) (by omega) (by omega)]
    have hl := hdB_len (ns.take i.toNat)
    have F := F_code_Writer_U8.is (n := x.toNat) (Q := fun h41 => next (IntKind.i64.wrap (i + 1)) h41) O (by omega) (by rw [hl, List.length_take]; omega) fun h O => ?_
    · rwa [show ((x.toNat : Nat) : Int) = x by omega] at F
    · rw [wrap64 (by omega) (by omega)]
      refine hnx (n - 1) _ _ (by omega) ⟨by omega, by omega, ?_⟩
      rw [show (i + 1).toNat = i.toNat + 1 by omega, take_succ_eq hx]
      unfold hdB at O ⊢
      rw [List.flatMap_append, List.flatMap_cons, List.flatMap_nil, List.append_nil]
      exact O
  · rw [List.take_of_length_le (by omega)] at O
    have O := O.swap.drop
    exact hj _ O
theorem bytF_le {f : Nat} (hm : mayF f m = true) : (bytF f m).length ≤ 32788 := by
  unfold mayF at hm
  rw [List.all_eq_true] at hm
  have key : ∀ p ∈ fp f, (bytP p m).length ≤ 16394 := fun p hp => bytP_le (fp_lt hp).1 (hm p hp)
  unfold bytF
  have h2 : ∀ l : List Nat, l.length ≤ 2 → (∀ p ∈ l, (bytP p m).length ≤ 16394) → (l.flatMap fun p => bytP p m).length ≤ 32788 := by
    intro l hl hk
    match l, hl with
    | [], _ => simp
    | [p], _ => have := hk p (by simp); simp; omega
    | [p, q], _ => have := hk p (by simp); have := hk q (by simp); simp; omega
  refine h2 _ ?_ key
  unfold fp
  split <;> simp
theorem fields_le {fs : List Nat} : (∀ f ∈ fs, mayF f m = true) → (fs.flatMap fun f => bytF f m).length ≤ fs.length * 32788 := by
  induction fs with
  | nil => intro _; simp
  | cons f fs ih =>
    intro hm
    have h1 := bytF_le (hm f List.mem_cons_self)
    have h2 := ih fun g hg => hm g (List.mem_cons_of_mem _ hg)
    rw [List.flatMap_cons, List.length_append, List.length_cons]
    omega
theorem F_message_Encode.l2.is {a : Nat} {v : Nat → Option FV} {s : Sl} {fs : List Nat} {l : List UInt8} {Φ : Fns} {j : Heap → Prop} (A : Wr2C Φ) (F : TabOk T v) (O : Sat h0 h (wrR w l :: own a (tabC v) :: bxR T :: L)) (S : Stays h0 L fun h => MsgAt h b m ∧ Bytes h m.v m.b) (V : Stays h0 L fun h => View h 1 (En usC) s fs) (hf : ∀ f ∈ fs, f < 16) (hn : fs.length ≤ 7) (hm : ∀ f ∈ fs, mayF f m = true) (hl : l.length ≤ 1000) (hj : ∀ h', Sat h0 h' (wrR w (l ++ fs.flatMap fun f => bytF f m) :: L) → j h') : F_message_Encode.l2 Φ (pt b 0) (some (pt w 0)) (pt a 0) s j 0 h := by
  rw [F_message_Encode.l2.eq_1]
  have hsl : s.len = fs.length := (V h O.drop.drop.drop).len
  refine wl1 (k := .int .i64) (fun (n : Nat) (i : Int) (h' : Heap) => 0 ≤ i ∧ i + n = fs.length ∧ Sat h0 h' (wrR w (l ++ (fs.take i.toNat).flatMap fun f => bytF f m) :: own a (tabC v) :: bxR T :: L)) ?_ (m := fs.length) ⟨by omega, by omega, by simpa using O⟩
  clear O
  intro n (i : Int) h next hnx ⟨hi0, him, O⟩
  rw [hsl]
  refine brr_p (fun hlt => ?_) (fun hlt => ?_)
  · have hx : fs[i.toNat]? = some (fs[i.toNat]'(by omega)) := List.getElem?_eq_getElem (by omega)
    generalize fs[i.toNat]'(by omega) = x at hx
    have hmx := hm x (List.mem_of_getElem? hx)
    have hx16 := hf x (List.mem_of_getElem? hx)
    refine (V h O.drop.drop.drop).get1 hi0 hx (fun x => (x : Int)) (fun _ => rfl) ?_
    refine ⟨by omega, by omega, ?_⟩
    simp only [pt_add, Nat.zero_add, Int.toNat_natCast]
    have c := O.cells 1 rfl 0 (tabC v).length
    rw [List.drop_zero, List.take_length] at c
    refine tab_ld (by omega) c ?_
    have Fx := F x hx16
    rw [show 4 * x + 2 = x * 4 + 2 by omega] at Fx
    have S2 : Sees h0 (own a (tabC v) :: bxR T :: L) b m T := fun h O => ⟨(S h O.drop.drop).1, (S h O.drop.drop).2, O.drop.bx⟩
    have hfl := fields_le (m := m) (fs := fs.take i.toNat) fun f hf => hm f (List.mem_of_mem_take hf)
    have htl : (fs.take i.toNat).length ≤ 7 := by rw [List.length_take]; omega
    refine fwrite_is A Fx hmx S2 (by rw [List.length_append]; omega) O fun h O => ?_
    rw [wrap64 (by omega) (by omega)]
    refine hnx (n - 1) _ _ (by omega) ⟨by omega, by omega, ?_⟩
    rw [show (i + 1).toNat = i.toNat + 1 by omega, take_succ_eq hx, List.flatMap_append, List.flatMap_cons, List.flatMap_nil, List.append_nil, ← List.append_assoc]
    exact O
  · rw [List.take_of_length_le (by omega)] at O
    have O := O.sel [0] 3 rfl (Nat.le_add_left _ _)
    simp only [selT, List.map, nth, List.drop, List.cons_append, List.nil_append] at O
    exact hj _ O
theorem flat_kp {k : Int} : ((usN k.toNat).flatMap fun f => bytF f m) = (kp k).flatMap fun p => bytP p m := by
  unfold kp bytF
  rw [← kp_us, List.flatMap_assoc]
set_option maxRecDepth 20000 in
theorem F_message_Encode.is {Q : Sl → Int → Heap → Prop} (O : Sat h0 h L) (U : Us h0) (V : Stays h0 L fun h => Bytes h m.v m.b) (ok : Pos m) (k : ∀ s h', Sat h0 h' (buf 1 u8 s (encB m) :: L) → Q s (wrongM m) h') : F_message_Encode m.kind m.frm m.to m.shard m.epoch m.te m.ts m.round m.span m.seen m.v m.peer m.num m.name m.other m.amount m.life m.id m.op m.client m.state m.bad h Q := by
  rw [F_message_Encode.eq_1, F_message_Encode_of.eq_1]
  refine O.al fun b h O => ?_
  have O : Sat h0 h (own b (mgC m) :: L) := O
  have C : Stays h0 (own b (mgC m) :: L) fun h => MsgAt h b m ∧ Bytes h m.v m.b := fun h O => by
    have c := O.cells 0 rfl 0 (mgC m).length
    rw [List.drop_zero, List.take_length] at c
    have V1 := V h O.drop
    exact ⟨⟨c, V1.len⟩, V1⟩
  refine F_message_wrong.is O U (fun h O => (C h O).1) ok fun h O => ?_
  refine brr_ne (fun e => ?_) (fun e => ?_)
  · refine k _ _ ?_
    unfold encB
    rw [if_neg e]
    exact O.drop.nil_buf
  obtain ⟨hk, hh, hf⟩ := wrong_zero e
  refine F_code_New.is O fun w h O => ?_
  have C1 := (C h O.drop).1.1
  simp only [nn_some, pt_add, Nat.zero_add, Nat.add_zero, Nat.reduceAdd, Nat.reduceMul, Int.toNat_zero, Int.toNat_one, Nat.zero_mul, Nat.one_mul]
  refine ldo C1 (ldL_c (ldL_n ?_))
  refine ldo C1 (ldL_c (ldL_n ?_))
  refine ldo C1 (ldL_c (ldL_n ?_))
  refine ldo C1 (ldL_c (ldL_n ?_))
  refine O.al fun a h O => ?_
  have O : Sat h0 h (own a ([m.kind, m.frm, m.to, m.shard].flatMap i64c) :: wrR w [] :: own b (mgC m) :: L) := O
  refine jn0 (fun h' => Sat h0 h' (wrR w (hdB [m.kind, m.frm, m.to, m.shard]) :: own b (mgC m) :: L)) ?_ ?_
  · clear O C1
    intro h O
    refine F_message_table.is O fun T v h O F => ?_
    refine O.al fun a h O => ?_
    refine O.st 0 rfl (by simp only [List.length_cons, List.length_nil]; omega) (tabC_one (v := v)) fun h O => ?_
    dsimp only [List.set] at O
    rw [put_all (by rfl)] at O
    have O : Sat h0 h (own a (tabC v) :: bxR T :: wrR w (hdB [m.kind, m.frm, m.to, m.shard]) :: own b (mgC m) :: L) := O
    have C1 := (C h O.drop.drop.drop).1.1
    refine ldo C1 (ldL_c (ldL_n ?_))
    obtain ⟨s, c1, hV⟩ := U.at_ m.kind.toNat (by omega)
    refine ⟨by omega, by omega, ?_⟩
    simp only [nn_some, pt_add, Nat.zero_add, Nat.add_zero, Nat.reduceAdd, Nat.reduceMul, Int.toNat_zero, Int.toNat_one, Nat.zero_mul, Nat.one_mul, Nat.mul_one]
    refine ld_are (cellsAre_kept O.kept c1) (ldL_s (ldL_n ?_))
    refine jn0 (fun h' => Sat h0 h' (wrR w (bodyM m) :: L)) ?_ ?_
    · clear O C1
      intro h O
      have hlen : (bodyM m).length ≤ 300000 := by
        have := fields_le (m := m) (fs := usN m.kind.toNat) fun f hfm => by
          unfold mayF
          rw [List.all_eq_true]
          intro p hp
          exact (hf p (fp_lt hp).1).1 ((fp_us hp).2 hfm)
        have h7 := (us_small m.kind.toNat).1
        rw [flat_kp] at this
        unfold bodyM bodyH
        simp only [List.length_append, fixB_len]
        omega
      refine F_code_Writer_Out.is O (by omega) fun s h O => ?_
      have V1 := (O.view 0 u8_len (by simp) rfl).1
      refine F_code_Sum.is V1 (by omega) fun h2 hk2 => ?_
      have O := O.kept2 hk2
      have O := O.drop
      have hlt := (crc (bodyM m)).isLt
      refine F_code_Writer_U32.is O (by omega) (by omega) fun h O => ?_
      refine F_code_Writer_Out.is O (by rw [List.length_append, fixB_len]; omega) fun s h O => ?_
      have O := O.sel [0] 2 rfl (Nat.le_add_left _ _)
      simp only [selT, List.map, nth, List.drop, List.cons_append, List.nil_append] at O
      have := k s h (by unfold encB; rw [if_pos e]; exact O)
      rwa [e] at this
    · intro j hj
      have O := O.sel [2, 0, 1] 3 rfl (Nat.le_add_left _ _)
      simp only [selT, List.map, nth, List.drop, List.cons_append, List.nil_append] at O
      refine F_message_Encode.l2.is (fs := usN m.kind.toNat) ⟨⟨rfl, rfl, rfl, rfl, rfl, rfl⟩, rfl⟩ F O C (fun h O => hV.kept O.kept) (us_small _).2 (us_small _).1 ?_ (by rw [hdB_len]; simp) ?_
      · intro f hfm
        unfold mayF
        rw [List.all_eq_true]
        intro p hp
        exact (hf p (fp_lt hp).1).1 ((fp_us hp).2 hfm)
      · intro h O
        refine hj h ?_
        rw [flat_kp] at O
        have O := O.swap.drop
        have e : hdB [m.kind, m.frm, m.to, m.shard] = bodyH m := by
          unfold hdB bodyH
          simp only [List.flatMap_cons, List.flatMap_nil, List.append_nil, List.append_assoc]
        rw [e] at O
        exact O
  · intro j hj
    refine F_message_Encode.l1.is (ns := [m.kind, m.frm, m.to, m.shard]) rfl ?_ O.swap ?_
    · intro n hn
      simp at hn
      rcases hn with rfl | rfl | rfl | rfl <;> omega
    · intro h O
      exact hj h O
end
end Go.Proofs.YthiginhigfieiaaGreatDoor.V
/- The program's Decode. -/
namespace Go.Proofs.YthiginhigfieiaaGreatDoor.V
open Go Go.RowKit
set_option linter.unusedVariables false
set_option linter.unusedSimpArgs false
section
variable {h0 h : Heap} {L : List Res} {b r : Nat} {m : Mg} {T : Bxs} {x : RS}
theorem fold_ok {lim : Nat → Nat} : ∀ (ps : List Nat) (x : RS × Mg), x.1.Ok → (ps.foldl (rdP1 lim) x).1.Ok ∧ (ps.foldl (rdP1 lim) x).1.b = x.1.b
  | [], x, o => ⟨o, rfl⟩
  | p :: ps, x, o => by
    have h1 := one_ok (lim := lim) (p := p) o
    have h2 := fold_ok (lim := lim) ps (rdP1 lim x p) h1.1
    exact ⟨h2.1, h2.2.trans h1.2⟩
theorem pos_one {lim : Nat → Nat} {x : RS × Mg} {p : Nat} (hp : p < 18) (h : Pos x.2) : Pos (rdP1 lim x p).2 := by
  intro q hq
  by_cases e : p = q
  · subst e
    rw [(at_of hp).1 hq]
    have h2 : pk p ≠ 2 := by rcases (cas hp hq).1 rfl with rfl | rfl | rfl | rfl | rfl | rfl | rfl | rfl | rfl <;> decide
    show 0 ≤ pget p (pset p _ [] x.2)
    rw [(pset_self hp).1 h2]
    exact Int.natCast_nonneg _
  · have : pget q (rdP1 lim x p).2 = pget q x.2 := by
      unfold rdP1
      split
      · exact (pset_get e).1
      split
      · exact (pset_get e).1
      · exact (pset_get e).1
    rw [this]
    exact h q hq
theorem pos_fold {lim : Nat → Nat} : ∀ (ps : List Nat) (x : RS × Mg), (∀ p ∈ ps, p < 18) → Pos x.2 → Pos (ps.foldl (rdP1 lim) x).2
  | [], x, _, o => o
  | p :: ps, x, hp, o => pos_fold ps _ (fun q hq => hp q (List.mem_cons_of_mem _ hq)) (pos_one (hp p List.mem_cons_self) o)
def hdSet (i : Nat) (n : Int) (m : Mg) : Mg := { m with kind := if i = 0 then n else m.kind, frm := if i = 1 then n else m.frm, to := if i = 2 then n else m.to, shard := if i = 3 then n else m.shard }
def hstep (x : RS × Mg) (i : Nat) : RS × Mg := (x.1.next 1, hdSet i ((beN (x.1.nextB 1) : Nat) : Int) x.2)
theorem rdH_fold (r : RS) : (List.range 4).foldl hstep (r, mgz) = rdH r := rfl
theorem hstep_ok : ∀ (ps : List Nat) (x : RS × Mg), x.1.Ok → (ps.foldl hstep x).1.Ok ∧ (ps.foldl hstep x).1.b = x.1.b
  | [], x, o => ⟨o, rfl⟩
  | p :: ps, x, o => by
    have h2 := hstep_ok ps (hstep x p) (o.next 1)
    exact ⟨h2.1, h2.2.trans RS.next_b⟩
theorem hdSet_put {i : Nat} {n : Int} {s : Sl} (hi : i < 4) : V.put (mgC { m with v := s }) i [.int .i64 n] = mgC { hdSet i n m with v := s } ∧ (hdSet i n m).b = m.b := by
  rcases (by omega : i = 0 ∨ i = 1 ∨ i = 2 ∨ i = 3) with rfl | rfl | rfl | rfl <;> exact ⟨rfl, rfl⟩
theorem Sat.setHd {i : Nat} {n : Int} {K : Heap → Prop} (hi : i < 4) (O : Sat h0 h (mdR b m :: L)) (k : ∀ h', Sat h0 h' (mdR b (hdSet i n m) :: L) → K h') : V.st (pt b i) [.int .i64 n] h K := by
  obtain ⟨s, O⟩ := O.md
  refine O.st 0 rfl (by rw [mgC_len]; simp; omega) rfl fun h O => k h ?_
  dsimp only [List.set] at O
  obtain ⟨e1, e2⟩ := hdSet_put (m := m) (n := n) (s := s) hi
  rw [e1, ← e2] at O
  exact O.mdI
def ptC (b : Nat) (i : Nat) : List Value := [.pointer (some (pt b i))]
theorem F_message_Decode.l1.is {a : Nat} {j : Heap → Prop} (o : x.Ok) (O : Sat h0 h (rdR r x :: mdR b mgz :: own a ((List.range 4).flatMap (ptC b)) :: L)) (hj : ∀ h', Sat h0 h' (rdR r (rdH x).1 :: mdR b (rdH x).2 :: L) → j h') : F_message_Decode.l1 F_code_Reader_U8 (some (pt r 0)) (pt a 0) j 0 h := by
  rw [F_message_Decode.l1.eq_1]
  refine wl1 (k := .int .i64) (fun (n : Nat) (i : Int) (h' : Heap) => 0 ≤ i ∧ i + n = 4 ∧ Sat h0 h' (rdR r ((List.range i.toNat).foldl hstep (x, mgz)).1 :: mdR b ((List.range i.toNat).foldl hstep (x, mgz)).2 :: own a ((List.range 4).flatMap (ptC b)) :: L)) ?_ (m := 4) ⟨by omega, by omega, O⟩
  clear O
  intro n (i : Int) h next hnx ⟨hi0, him, O⟩
  refine brr_p (fun hlt => ?_) (fun hlt => ?_)
  · have hx : (List.range 4)[i.toNat]? = some i.toNat := by rw [List.getElem?_range (by omega)]
    have V := O.arr (enc := ptC b) (xs := List.range 4) 2 (fun _ => rfl) rfl
    refine View.get1 (k := .ptr) V hi0 hx (fun i => some (pt b i)) (fun _ => rfl) ?_
    have o1 := hstep_ok (List.range i.toNat) (x, mgz) o
    generalize he : (List.range i.toNat).foldl hstep (x, mgz) = y at O o1
    refine F_code_Reader_U8.is o1.1 O fun h O => ?_
    have hb := beN_lt (y.1.nextB 1)
    have hb1 : 256 ^ (y.1.nextB 1).length ≤ 256 ^ 1 := Nat.pow_le_pow_right (by decide) (nextB_len y.1 1)
    rw [nn_some, wrap64 (by omega) (by omega), wrap64 (by omega) (by omega)]
    refine O.swap.setHd (by omega) fun h O => ?_
    refine hnx (n - 1) _ _ (by omega) ⟨by omega, by omega, ?_⟩
    rw [show (i + 1).toNat = i.toNat + 1 by omega, List.range_succ, List.foldl_append, he]
    exact O.swap
  · rw [show i.toNat = 4 by omega, rdH_fold] at O
    have O := O.sel [0, 1] 3 rfl (Nat.le_add_left _ _)
    simp only [selT, List.map, nth, List.drop, List.cons_append, List.nil_append] at O
    exact hj _ O
theorem F_message_Decode.l2.is {a : Nat} {v : Nat → Option FV} {s : Sl} {fs : List Nat} {Φ : Fns} {j : Heap → Prop} (A : Rd2C Φ) (F : TabOk T v) (o : x.Ok) (hx0 : x.b.length ≤ (140737488355325 : Nat)) (O : Sat h0 h (rdR r x :: mdR b m :: own a (tabC v) :: bxR T :: L)) (V : Stays h0 L fun h => View h 1 (En usC) s fs) (hf : ∀ f ∈ fs, f < 16) (hn : fs.length ≤ 7) (hj : ∀ h', Sat h0 h' (rdR r ((fs.flatMap fp).foldl (rdP1 pmax) (x, m)).1 :: mdR b ((fs.flatMap fp).foldl (rdP1 pmax) (x, m)).2 :: L) → j h') : F_message_Decode.l2 Φ (some (pt r 0)) (pt b 0) (pt a 0) s j 0 h := by
  rw [F_message_Decode.l2.eq_1]
  have hsl : s.len = fs.length := (V h O.drop.drop.drop.drop).len
  refine wl1 (k := .int .i64) (fun (n : Nat) (i : Int) (h' : Heap) => 0 ≤ i ∧ i + n = fs.length ∧ Sat h0 h' (rdR r (((fs.take i.toNat).flatMap fp).foldl (rdP1 pmax) (x, m)).1 :: mdR b (((fs.take i.toNat).flatMap fp).foldl (rdP1 pmax) (x, m)).2 :: own a (tabC v) :: bxR T :: L)) ?_ (m := fs.length) ⟨by omega, by omega, O⟩
  clear O
  intro n (i : Int) h next hnx ⟨hi0, him, O⟩
  rw [hsl]
  refine brr_p (fun hlt => ?_) (fun hlt => ?_)
  · have hx : fs[i.toNat]? = some (fs[i.toNat]'(by omega)) := List.getElem?_eq_getElem (by omega)
    generalize fs[i.toNat]'(by omega) = f at hx
    have hx16 := hf f (List.mem_of_getElem? hx)
    refine (V h O.drop.drop.drop.drop).get1 hi0 hx (fun x => (x : Int)) (fun _ => rfl) ?_
    refine ⟨by omega, by omega, ?_⟩
    simp only [pt_add, Nat.zero_add, Int.toNat_natCast]
    have c := O.cells 2 rfl 0 (tabC v).length
    rw [List.drop_zero, List.take_length] at c
    refine tab_ld (by omega) c ?_
    have Fx := F f hx16
    rw [show 4 * f + 3 = f * 4 + 3 by omega] at Fx
    have o1 := fold_ok (lim := pmax) ((fs.take i.toNat).flatMap fp) (x, m) o
    generalize he : ((fs.take i.toNat).flatMap fp).foldl (rdP1 pmax) (x, m) = y at O o1
    refine fread_is A Fx (fun h O => O.drop.bx) o1.1 (by rw [o1.2]; exact hx0) O fun h O => ?_
    rw [wrap64 (by omega) (by omega)]
    refine hnx (n - 1) _ _ (by omega) ⟨by omega, by omega, ?_⟩
    rw [show (i + 1).toNat = i.toNat + 1 by omega, take_succ_eq hx, List.flatMap_append, List.flatMap_cons, List.flatMap_nil, List.append_nil, List.foldl_append, he]
    exact O
  · rw [List.take_of_length_le (by omega)] at O
    have O := O.sel [0, 1] 4 rfl (Nat.le_add_left _ _)
    simp only [selT, List.map, nth, List.drop, List.cons_append, List.nil_append] at O
    exact hj _ O
/-- What Decode answers. -/
def decP (l : List UInt8) : Mg × Int := if l.length < 4 ∨ 17000 < l.length then (mgz, 81) else if beN (l.drop (l.length - 4)) = (crc (l.take (l.length - 4))).toNat then decX (l.take (l.length - 4)) else (mgz, 82)
def zC : List Value := mgC mgz
def nilS : Sl := ⟨none, 0, 0⟩
theorem zero_out {Q : Int → Int → Int → Int → Int → Int → Int → Int → Int → Int → Sl → Int → Int → ByteArray → ByteArray → Int → Int → Int → Int → Int → Int → Int → Heap → Prop} {a : Nat} (O : Sat h0 h (own a zC :: L)) (k : ∀ h', Sat h0 h' L → Q mgz.kind mgz.frm mgz.to mgz.shard mgz.epoch mgz.te mgz.ts mgz.round mgz.span mgz.seen nilS mgz.peer mgz.num mgz.name mgz.other mgz.amount mgz.life mgz.id mgz.op mgz.client mgz.state mgz.bad h') : V.st (pt a 0) zC h fun h7 => ld [.int .i64, .int .i64, .int .i64, .int .i64, .int .u64, .int .u64, .int .u64, .int .u64, .int .i64, .int .u64, .sl, .int .i64, .int .u64, .str, .str, .int .u64, .int .u64, .int .u64, .int .i64, .int .i64, .int .i64, .int .i64] (pt a 0) h7 fun (v8 : Int) (v9 : Int) (v10 : Int) (v11 : Int) (v12 : Int) (v13 : Int) (v14 : Int) (v15 : Int) (v16 : Int) (v17 : Int) (v18 : Sl) (v19 : Int) (v20 : Int) (v21 : ByteArray) (v22 : ByteArray) (v23 : Int) (v24 : Int) (v25 : Int) (v26 : Int) (v27 : Int) (v28 : Int) (v29 : Int) => Q v8 v9 v10 v11 v12 v13 v14 v15 v16 v17 v18 v19 v20 v21 v22 v23 v24 v25 v26 v27 v28 v29 h7 := by
  refine O.st 0 rfl (by simp) rfl fun h O => ?_
  dsimp only [List.set] at O
  rw [put_all rfl] at O
  refine O.ld 0 rfl (ldL_c (ldL_c (ldL_c (ldL_c (ldL_c (ldL_c (ldL_c (ldL_c (ldL_c (ldL_c (ldL_s (ldL_c (ldL_c (ldL_c (ldL_c (ldL_c (ldL_c (ldL_c (ldL_c (ldL_c (ldL_c (ldL_c (ldL_n ?_)))))))))))))))))))))))
  exact k h O.drop
theorem mgC_ld {s : Sl} {K : Int → Int → Int → Int → Int → Int → Int → Int → Int → Int → Sl → Int → Int → ByteArray → ByteArray → Int → Int → Int → Int → Int → Int → Int → Prop} (k : K m.kind m.frm m.to m.shard m.epoch m.te m.ts m.round m.span m.seen s m.peer m.num m.name m.other m.amount m.life m.id m.op m.client m.state m.bad) : ldL [.int .i64, .int .i64, .int .i64, .int .i64, .int .u64, .int .u64, .int .u64, .int .u64, .int .i64, .int .u64, .sl, .int .i64, .int .u64, .str, .str, .int .u64, .int .u64, .int .u64, .int .i64, .int .i64, .int .i64, .int .i64] (mgC { m with v := s }) K := (ldL_c (ldL_c (ldL_c (ldL_c (ldL_c (ldL_c (ldL_c (ldL_c (ldL_c (ldL_c (ldL_s (ldL_c (ldL_c (ldL_c (ldL_c (ldL_c (ldL_c (ldL_c (ldL_c (ldL_c (ldL_c (ldL_c (ldL_n k)))))))))))))))))))))))
set_option maxRecDepth 20000 in
theorem F_message_Decode.is {a : Sl} {xs : List UInt8} {Q : Int → Int → Int → Int → Int → Int → Int → Int → Int → Int → Sl → Int → Int → ByteArray → ByteArray → Int → Int → Int → Int → Int → Int → Int → Int → Heap → Prop} (O : Sat h0 h L) (U : Us h0) (E : Er h0) (Vx : Stays h0 L fun h => Bytes h a xs ∧ a.len ≤ a.cap) {d : Mg} {e : Int} (hx : xs.length ≤ (140737488355325 : Nat)) (hd : decP xs = (d, e)) (k : ∀ s h', Sat h0 h' (buf 1 u8 s d.b :: L) → Q d.kind d.frm d.to d.shard d.epoch d.te d.ts d.round d.span d.seen s d.peer d.num d.name d.other d.amount d.life d.id d.op d.client d.state d.bad e h') : F_message_Decode a h Q := by
  rw [F_message_Decode.eq_1, F_message_Decode_of.eq_1]
  have hlen := (Vx h O).1.len
  refine O.al fun z h O => ?_
  have O : Sat h0 h (own z zC :: L) := O
  have bad : ∀ (e : Int) (h : Heap), decP xs = (mgz, e) → Sat h0 h (own z zC :: L) → V.st (pt z 0) zC h fun h7 => ld [.int .i64, .int .i64, .int .i64, .int .i64, .int .u64, .int .u64, .int .u64, .int .u64, .int .i64, .int .u64, .sl, .int .i64, .int .u64, .str, .str, .int .u64, .int .u64, .int .u64, .int .i64, .int .i64, .int .i64, .int .i64] (pt z 0) h7 fun (v8 : Int) (v9 : Int) (v10 : Int) (v11 : Int) (v12 : Int) (v13 : Int) (v14 : Int) (v15 : Int) (v16 : Int) (v17 : Int) (v18 : Sl) (v19 : Int) (v20 : Int) (v21 : ByteArray) (v22 : ByteArray) (v23 : Int) (v24 : Int) (v25 : Int) (v26 : Int) (v27 : Int) (v28 : Int) (v29 : Int) => Q v8 v9 v10 v11 v12 v13 v14 v15 v16 v17 v18 v19 v20 v21 v22 v23 v24 v25 v26 v27 v28 v29 e h7 := by
    intro e h he O
    refine zero_out (Q := fun v8 v9 v10 v11 v12 v13 v14 v15 v16 v17 v18 v19 v20 v21 v22 v23 v24 v25 v26 v27 v28 v29 h7 => Q v8 v9 v10 v11 v12 v13 v14 v15 v16 v17 v18 v19 v20 v21 v22 v23 v24 v25 v26 v27 v28 v29 e h7) O fun h O => ?_
    obtain ⟨rfl, rfl⟩ := Prod.mk.inj (hd.symm.trans he)
    exact k nilS h O.nil_buf
  refine jn1 (fun (y : Bool) h' => h' = h ∧ y = decide (xs.length < 4 ∨ 17000 < xs.length)) ?_ ?_
  · rintro y h1 ⟨e, rfl⟩
    subst e
    refine brr_p (fun hb => ?_) (fun hb => ?_)
    · exact bad 81 _ (by unfold decP; rw [if_pos hb]) O
    obtain ⟨hV, hcap⟩ := Vx h1 O.drop
    rw [hlen, wrap64 (by omega) (by omega)]
    have et : (((xs.length : Nat) : Int) - 4).toNat = xs.length - 4 := by omega
    refine ⟨by omega, by omega, ?_⟩
    refine ⟨by omega, by omega, ?_⟩
    rw [et]
    have Vt : Stays h0 L fun h => Bytes h ⟨a.ptr, xs.length - 4, a.cap⟩ (xs.take (xs.length - 4)) := fun h O => (Vx h O).1.take _ _ (by omega)
    have Vd : Stays h0 L fun h => Bytes h ⟨slp 1 a (xs.length - 4), a.len - (xs.length - 4), a.cap - (xs.length - 4)⟩ (xs.drop (xs.length - 4)) := fun h O => by
      have := (Vx h O).1.slice (xs.length - 4) xs.length (a.cap - (xs.length - 4)) (by omega) (Nat.le_refl _) (Vx h O).2
      rw [List.take_of_length_le (by rw [List.length_drop]; omega)] at this
      rw [hlen]
      exact this
    refine F_code_Read.is O (Vd h1 O.drop) (by rw [List.length_drop]; omega) fun r h O => ?_
    have o0 : RS.Ok ⟨xs.drop (xs.length - 4), 0, 0⟩ := ⟨Nat.zero_le _, by show (xs.drop (xs.length - 4)).length ≤ _; rw [List.length_drop]; omega, Nat.zero_le _⟩
    refine F_code_Reader_U32.is o0 O fun h O => ?_
    refine F_code_Sum.is (Vt h O.drop.drop) (by rw [List.length_take]; omega) fun h2 hk2 => ?_
    have O := (O.kept2 hk2).drop
    have e4 : RS.nextB ⟨xs.drop (xs.length - 4), 0, 0⟩ 4 = xs.drop (xs.length - 4) := by
      unfold RS.nextB RS.left
      rw [if_neg (by simp), if_neg (by simp only [List.length_drop]; omega)]
      simp only [List.drop_zero]
      rw [List.take_of_length_le (by rw [List.length_drop]; omega)]
    rw [e4]
    refine brr_ne (fun he => ?_) (fun he => ?_)
    · exact bad 82 _ (by unfold decP; rw [if_neg hb, if_neg (by omega)]) O
    have hdec : decP xs = decX (xs.take (xs.length - 4)) := by unfold decP; rw [if_neg hb, if_pos (by omega)]
    generalize hys : xs.take (xs.length - 4) = ys at *
    have hyl : ys.length ≤ 17000 := by rw [← hys, List.length_take]; omega
    refine ⟨by omega, by omega, ?_⟩
    rw [et]
    refine F_code_Read.is O (Vt h2 O.drop) (by omega) fun r h O => ?_
    have o1 : RS.Ok ⟨ys, 0, 0⟩ := ⟨Nat.zero_le _, by show ys.length ≤ _; omega, Nat.zero_le _⟩
    refine O.al fun b h O => ?_
    have O : Sat h0 h (own b (mgC { mgz with v := ⟨none, 0, 0⟩ }) :: rdR r ⟨ys, 0, 0⟩ :: own z zC :: L) := O
    have O := (O.nil_buf (sz := 1) (enc := u8)).swap
    have O : Sat h0 h (mdR b mgz :: rdR r ⟨ys, 0, 0⟩ :: own z zC :: L) := O.mdI
    have O := O.swap
    refine O.al fun p h O => ?_
    simp only [nn_some, pt_add, Nat.zero_add, Nat.add_zero, Nat.reduceAdd, Nat.reduceMul, Int.toNat_zero, Int.toNat_one, Nat.zero_mul, Nat.one_mul]
    have O : Sat h0 h (own p ((List.range 4).flatMap (ptC b)) :: rdR r ⟨ys, 0, 0⟩ :: mdR b mgz :: own z zC :: L) := O
    have O := O.sel [1, 2, 0] 3 rfl (Nat.le_add_left _ _)
    simp only [selT, List.map, nth, List.drop, List.cons_append, List.nil_append] at O
    refine jn0 (fun h' => Sat h0 h' (rdR r (rdH ⟨ys, 0, 0⟩).1 :: mdR b (rdH ⟨ys, 0, 0⟩).2 :: own z zC :: L)) ?_ ?_
    · clear O
      intro h O
      obtain ⟨y, hy⟩ : ∃ y, y = rdH ⟨ys, 0, 0⟩ := ⟨_, rfl⟩
      have hkin : 0 ≤ y.2.kind := by rw [hy]; exact Int.natCast_nonneg _
      have oy : y.1.Ok ∧ y.1.b = ys := by rw [hy, ← rdH_fold]; exact hstep_ok _ _ o1
      have py : Pos y.2 := by
        rw [hy]
        intro q hq
        show 0 ≤ pget q mgz
        unfold pget
        split <;> decide
      have hall : rdAll pmax ⟨ys, 0, 0⟩ = (kp y.2.kind).foldl (rdP1 pmax) y := by unfold rdAll; rw [hy]
      rw [← hy] at O
      obtain ⟨s, O2⟩ := O.swap.md
      refine O2.ld 0 rfl (ldL_c (ldL_n ?_))
      show brr (decide (y.2.kind > 11)) _ _
      refine brr_p (fun hk => ?_) (fun hk => ?_)
      · refine bad 81 _ ?_ O.drop.drop
        rw [hdec]
        unfold decX
        rw [if_neg]
        rintro ⟨_, _, g⟩
        rw [hall] at g
        have := (wrong_zero g).1
        rw [(fold_head _ _).1] at this
        omega
      clear O2
      refine F_message_table.is O fun T v h O F => ?_
      refine O.al fun t h O => ?_
      refine O.st 0 rfl (by simp only [List.length_cons, List.length_nil]; omega) (tabC_one (v := v)) fun h O => ?_
      dsimp only [List.set] at O
      rw [put_all (by rfl)] at O
      have O : Sat h0 h (own t (tabC v) :: bxR T :: rdR r y.1 :: mdR b y.2 :: own z zC :: L) := O
      have O := O.sel [2, 3, 0, 1] 4 rfl (Nat.le_add_left _ _)
      simp only [selT, List.map, nth, List.drop, List.cons_append, List.nil_append] at O
      obtain ⟨s, O2⟩ := O.swap.md
      refine O2.ld 0 rfl (ldL_c (ldL_n ?_))
      clear O2
      obtain ⟨u, c1, hVu⟩ := U.at_ y.2.kind.toNat (by omega)
      show ixA 1 (pt 0 0) 12 y.2.kind _
      refine ⟨by omega, by omega, ?_⟩
      simp only [nn_some, pt_add, Nat.zero_add, Nat.add_zero, Nat.reduceAdd, Nat.reduceMul, Int.toNat_zero, Int.toNat_one, Nat.zero_mul, Nat.one_mul, Nat.mul_one]
      refine ld_are (cellsAre_kept O.kept c1) (ldL_s (ldL_n ?_))
      obtain ⟨w, hw⟩ : ∃ w, w = rdAll pmax ⟨ys, 0, 0⟩ := ⟨_, rfl⟩
      have hfl : (kp y.2.kind).foldl (rdP1 pmax) y = w := by rw [hw, hall]
      have ow : w.1.Ok ∧ w.1.b = ys := by
        have := fold_ok (lim := pmax) (kp y.2.kind) y oy.1
        rw [hfl] at this
        exact ⟨this.1, this.2.trans oy.2⟩
      have pw : Pos w.2 := by
        have := pos_fold (lim := pmax) (kp y.2.kind) y (kp_lt.2) py
        rwa [hfl] at this
      refine jn0 (fun h' => Sat h0 h' (rdR r w.1 :: mdR b w.2 :: own z zC :: L)) ?_ ?_
      · clear O
        intro h O
        obtain ⟨s, O⟩ := O.swap.md
        have hsl : s.len = w.2.b.length := (O.view 1 u8_len (by simp) rfl).1.len
        refine jn1 (fun (q : Bool) h' => q = !decide (w.1.met = 0 ∧ w.1.left = 0 ∧ wrongM w.2 = 0) ∧ Sat h0 h' (own b (mgC { w.2 with v := s }) :: buf 1 u8 s w.2.b :: rdR r w.1 :: own z zC :: L)) ?_ ?_
        · clear O
          rintro q h ⟨rfl, O⟩
          refine brr_not ?_
          refine brr_p (fun hg => ?_) (fun hg => ?_)
          · have hd2 : decP xs = (w.2, 0) := by
              rw [hdec]
              unfold decX
              rw [← hw, if_pos hg]
            obtain ⟨ed, ee⟩ := Prod.mk.inj (hd.symm.trans hd2)
            refine O.ld 0 rfl ?_
            refine mgC_ld ?_
            have O := O.sel [3, 0, 1] 4 rfl (Nat.le_add_left _ _)
            simp only [selT, List.map, nth, List.drop, List.cons_append, List.nil_append] at O
            refine O.st 0 rfl (by simp [zC, mgC]) rfl fun h O => ?_
            dsimp only [List.set] at O
            rw [put_all (by rfl)] at O
            have O : Sat h0 h (own z (mgC { w.2 with v := s }) :: own b (mgC { w.2 with v := s }) :: buf 1 u8 s w.2.b :: L) := O
            refine O.ld 0 rfl ?_
            refine mgC_ld ?_
            have k2 := k s h
            rw [ed, ee] at k2
            exact k2 O.drop.drop
          · refine bad 81 _ ?_ (O.sel [3] 4 rfl (Nat.le_add_left _ _))
            rw [hdec]
            unfold decX
            rw [← hw, if_neg hg]
        · intro j hj
          have O := O.sel [2, 0, 1] 3 rfl (Nat.le_add_left _ _)
          simp only [selT, List.map, nth, List.drop, List.cons_append, List.nil_append] at O
          refine F_code_Reader_End.is (E.sat O) ow.1 O ?_
          have hend : w.1.endN = 0 ↔ w.1.met = 0 ∧ w.1.left = 0 := by
            unfold RS.endN
            split
            · rename_i g
              exact ⟨fun e => absurd e (by decide), fun e => by omega⟩
            · rename_i g
              rw [erN_zero]
              exact ⟨fun e => ⟨e, by omega⟩, fun e => e.1⟩
          have O := O.sel [1, 2, 0] 3 rfl (Nat.le_add_left _ _)
          simp only [selT, List.map, nth, List.drop, List.cons_append, List.nil_append] at O
          refine brr_ne (fun e => ?_) (fun e => ?_)
          · refine hj _ _ ⟨?_, O⟩
            rw [decide_eq_false]
            · rfl
            · exact fun g => e (hend.2 ⟨g.1, g.2.1⟩)
          · have C : Stays h0 (own b (mgC { w.2 with v := s }) :: buf 1 u8 s w.2.b :: rdR r w.1 :: own z zC :: L) fun h => MsgAt h b { w.2 with v := s } := fun h O => by
              have c := O.cells 0 rfl 0 (mgC { w.2 with v := s }).length
              rw [List.drop_zero, List.take_length] at c
              exact ⟨c, hsl⟩
            refine F_message_wrong.is O U C pw fun h O => ?_
            refine hj _ _ ⟨?_, O⟩
            have e2 := hend.1 e
            show (wrongM w.2 != 0) = _
            by_cases e3 : wrongM w.2 = 0
            · rw [decide_eq_true ⟨e2.1, e2.2, e3⟩, e3]; rfl
            · rw [decide_eq_false fun g => e3 g.2.2]
              simpa using e3
      · intro j hj
        refine F_message_Decode.l2.is (fs := usN y.2.kind.toNat) ⟨⟨rfl, rfl, rfl, rfl, rfl, rfl⟩, rfl⟩ F oy.1 (by rw [oy.2]; omega) O (fun h O => hVu.kept O.kept) (us_small _).2 (us_small _).1 ?_
        intro h O
        rw [kp_us] at O
        have e : (kpN y.2.kind.toNat).foldl (rdP1 pmax) (y.1, y.2) = w := hfl
        rw [e] at O
        exact hj h O
    · intro j hj
      exact F_message_Decode.l1.is o1 O hj
  · intro j hj
    rw [hlen, wrap64 (by omega) (by omega)]
    refine brr_p (fun h1 => ?_) (fun h1 => ?_)
    · refine hj _ _ ⟨rfl, ?_⟩
      simp; omega
    · refine hj _ _ ⟨rfl, ?_⟩
      exact decide_eq_decide.2 (by omega)
end
end Go.Proofs.YthiginhigfieiaaGreatDoor.V
