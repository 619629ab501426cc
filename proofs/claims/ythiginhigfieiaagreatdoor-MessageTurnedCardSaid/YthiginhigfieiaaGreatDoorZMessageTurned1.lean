import Derived.Test.YthiginhigfieiaaGreatDoorZMessageTurned0
import Derived.Test.YthiginhigfieiaaGreatDoorProg
import Derived.Test.YthiginhigfieiaaGreatDoorRows
import Derived.Carry
import Derived.ProofKit
import Derived.SizedLaws
import Derived.ChangeOld
import Derived.Laws.Append
namespace Go.Proofs.YthiginhigfieiaaGreatDoor.V
open Go Go.RowKit
set_option linter.unusedVariables false
set_option maxRecDepth 100000
def F_code_Reader_fixed.l1 (r3 : Sl) (j5 : Int → Heap → Prop) : Int → Int → Heap → Prop :=
  wl [(5, .one (.int .u64)), (12, .one (.int .i64))] (fun (next6 : Int → Int → Heap → Prop) (n7 x8 : Int) (h9 : Heap) =>
  brr (decide (x8 < ((r3.len : Nat) : Int)))
  (ixS 1 r3 x8 fun (a10 : Addr) =>
  ld [.int .u8] a10 h9 fun (v11 : Int) =>
  0 ≤ (8 : Int) ∧
  next6 (IntKind.u64.wrap (BitVec.ofInt IntKind.u64.bits (IntKind.u64.wrap (n7 * 2 ^ min (8 : Int).toNat IntKind.u64.bits)) ||| BitVec.ofInt IntKind.u64.bits (IntKind.u64.wrap v11)).toNat) (IntKind.i64.wrap (x8 + 1)) h9)
  (j5 n7 h9))
def F_code_Reader_fixed_of (f133_ : Y11) (r1 : Option Addr) (size2 : Int) (h : Heap) (Q : Int → Heap → Prop) : Prop :=
  f133_ r1 size2 h fun (r3 : Sl) (h4 : Heap) =>
  jn [(5, .one (.int .u64))] (fun (n12 : Int) (h13 : Heap) =>
  Q n12 h13) (fun (j5 : Int → Heap → Prop) =>
  F_code_Reader_fixed.l1 r3 j5 0 0 h4)
def F_code_Reader_fixed (r1 : Option Addr) (size2 : Int) (h : Heap) (Q : Int → Heap → Prop) : Prop := F_code_Reader_fixed_of F_code_Reader_next r1 size2 h Q
def plan96 : Plan := .s (.r [0, 1]) (.s (.r [0, 1, 5]) (.s (.s (.r [5, 10, 11, 12]) (.bj [(5, .one (.int .u64))] [] (.l [(5, .one (.int .u64)), (12, .one (.int .i64))] [10, 11] (.s (.r [5, 10, 11, 12, 13]) (.s (.c .z .z) (.s (.b (.s (.r [5, 7, 10, 11, 12]) (.r [5, 10, 11, 12]))) (.r [5, 10, 11, 12]))))))) (.s (.r [4]) .z)))
theorem F_code_Reader_fixed.eq (f133_ : Y11) (r1 : Option Addr) (size2 : Int) (h : Heap) (K : YV) : F_code_Reader_fixed_of f133_ r1 size2 h (fun (r0 : Int) (h : Heap) => K (.int .u64 r0) h) =
    den Tryz.prog (fn1 133 (E_code_Reader_next_of f133_) noFns) Tryz.f96.ntmps plan96 (bodyOf Tryz.f96) (args0 0 [(.pointer r1 : Value), (.int .i64 size2 : Value)]) h (konF Tryz.f96 K) := by kernel_rfl
def E_code_Reader_fixed_of (f : Y10) : List Value → Heap → YV → Prop
  | [v0, v1], h, K => dec1 .ptr v0 fun (r1 : Option Addr) =>
  dec1 (.int .i64) v1 fun (size2 : Int) =>
  f r1 size2 h (fun (r0 : Int) (h : Heap) => K (.int .u64 r0) h)
  | _, _, _ => False
abbrev E_code_Reader_fixed := E_code_Reader_fixed_of F_code_Reader_fixed
theorem E_code_Reader_fixed.right : IsRight Tryz.prog 96 E_code_Reader_fixed := by
  refine isRight fun vs K w hh => ?_
  match vs, hh with
  | [v0, v1], hh =>
    unfold E_code_Reader_fixed E_code_Reader_fixed_of at hh
    replace hh := dec1_sound hh; obtain ⟨r1, rfl, hh⟩ := hh
    replace hh := dec1_sound hh; obtain ⟨size2, rfl, hh⟩ := hh
    unfold F_code_Reader_fixed at hh
    exact calls_den (fn1_right ok133 E_code_Reader_next.right noFns_right) plan96 _ w K Tryz.func96 (by kernel_rfl) (by kernel_rfl) (Eq.mp (F_code_Reader_fixed.eq F_code_Reader_next r1 size2 w.heap K) hh)
theorem ok96 : okFn Tryz.prog 96 = true := by kernel_rfl
def F_code_taken_of  (b1 : Sl) (h : Heap) (Q : Sl → Heap → Prop) : Prop :=
  mk 5 1 1 (.int .u8 0) ((b1.len : Nat) : Int) ((b1.len : Nat) : Int) h fun (s2 : Sl) (h3 : Heap) =>
  cpy 1 s2 b1.ptr b1.len h3 fun (h5 : Heap) =>
  Q s2 h5
def F_code_taken (b1 : Sl) (h : Heap) (Q : Sl → Heap → Prop) : Prop := F_code_taken_of  b1 h Q
def plan91 : Plan := .s (.r [0]) (.s (.r [0, 3]) (.s (.r [3]) (.s (.r [2]) .z)))
theorem F_code_taken.eq  (b1 : Sl) (h : Heap) (K : YV) : F_code_taken_of  b1 h (fun (r0 : Sl) (h : Heap) => K (.slice r0.ptr r0.len r0.cap) h) =
    den Tryz.prog noFns Tryz.f91.ntmps plan91 (bodyOf Tryz.f91) (args0 0 [(.slice b1.ptr b1.len b1.cap : Value)]) h (konF Tryz.f91 K) := by kernel_rfl
def E_code_taken_of (f : Y7) : List Value → Heap → YV → Prop
  | [v0], h, K => dec1 .sl v0 fun (b1 : Sl) =>
  f b1 h (fun (r0 : Sl) (h : Heap) => K (.slice r0.ptr r0.len r0.cap) h)
  | _, _, _ => False
abbrev E_code_taken := E_code_taken_of F_code_taken
theorem E_code_taken.right : IsRight Tryz.prog 91 E_code_taken := by
  refine isRight fun vs K w hh => ?_
  match vs, hh with
  | [v0], hh =>
    unfold E_code_taken E_code_taken_of at hh
    replace hh := dec1_sound hh; obtain ⟨b1, rfl, hh⟩ := hh
    unfold F_code_taken at hh
    exact calls_den noFns_right plan91 _ w K Tryz.func91 (by kernel_rfl) (by kernel_rfl) (Eq.mp (F_code_taken.eq  b1 w.heap K) hh)
theorem ok91 : okFn Tryz.prog 91 = true := by kernel_rfl
def F_code_Writer_Raw_of  (w1 : Option Addr) (b2 : Sl) (h : Heap) (Q : Heap → Prop) : Prop :=
  nn w1 fun (a3 : Addr) =>
  ld [.sl] (a3.add 0) h fun (v4 : Sl) =>
  app 5 1 1 (.int .u8 0) v4 b2.ptr b2.len h fun (s5 : Sl) (h6 : Heap) =>
  nn w1 fun (a7 : Addr) =>
  st (a7.add 0) [.slice s5.ptr s5.len s5.cap] h6 fun (h8 : Heap) =>
  Q h8
def F_code_Writer_Raw (w1 : Option Addr) (b2 : Sl) (h : Heap) (Q : Heap → Prop) : Prop := F_code_Writer_Raw_of  w1 b2 h Q
def plan132 : Plan := .r []
theorem F_code_Writer_Raw.eq  (w1 : Option Addr) (b2 : Sl) (h : Heap) (K : YV) : F_code_Writer_Raw_of  w1 b2 h (fun  (h : Heap) => K (.tuple #[]) h) =
    den Tryz.prog noFns Tryz.f132.ntmps plan132 (bodyOf Tryz.f132) (args0 0 [(.pointer w1 : Value), (.slice b2.ptr b2.len b2.cap : Value)]) h (konF Tryz.f132 K) := by kernel_rfl
def E_code_Writer_Raw_of (f : Y16) : List Value → Heap → YV → Prop
  | [v0, v1], h, K => dec1 .ptr v0 fun (w1 : Option Addr) =>
  dec1 .sl v1 fun (b2 : Sl) =>
  f w1 b2 h (fun  (h : Heap) => K (.tuple #[]) h)
  | _, _, _ => False
abbrev E_code_Writer_Raw := E_code_Writer_Raw_of F_code_Writer_Raw
theorem E_code_Writer_Raw.right : IsRight Tryz.prog 132 E_code_Writer_Raw := by
  refine isRight fun vs K w hh => ?_
  match vs, hh with
  | [v0, v1], hh =>
    unfold E_code_Writer_Raw E_code_Writer_Raw_of at hh
    replace hh := dec1_sound hh; obtain ⟨w1, rfl, hh⟩ := hh
    replace hh := dec1_sound hh; obtain ⟨b2, rfl, hh⟩ := hh
    unfold F_code_Writer_Raw at hh
    exact calls_den noFns_right plan132 _ w K Tryz.func132 (by kernel_rfl) (by kernel_rfl) (Eq.mp (F_code_Writer_Raw.eq  w1 b2 w.heap K) hh)
theorem ok132 : okFn Tryz.prog 132 = true := by kernel_rfl
def F_math_bits_Len64_of  (x1 : Int) (h : Heap) (Q : Int → Heap → Prop) : Prop :=
  jn [(0, .one (.int .u64)), (2, .one (.int .i64))] (fun (x3 n4 : Int) (h5 : Heap) =>
  jn [(0, .one (.int .u64)), (2, .one (.int .i64))] (fun (x7 n8 : Int) (h9 : Heap) =>
  jn [(0, .one (.int .u64)), (2, .one (.int .i64))] (fun (x11 n12 : Int) (h13 : Heap) =>
  stAt (⟨(List.toArray (0 :: 1 :: 2 :: 2 :: 3 :: 3 :: 3 :: 3 :: 4 :: 4 :: 4 :: 4 :: 4 :: 4 :: 4 :: 4 :: 5 :: 5 :: 5 :: 5 :: 5 :: 5 :: 5 :: 5 :: 5 :: 5 :: 5 :: 5 :: 5 :: 5 :: 5 :: 5 :: 6 :: 6 :: 6 :: 6 :: 6 :: 6 :: 6 :: 6 :: 6 :: 6 :: 6 :: 6 :: 6 :: 6 :: 6 :: 6 :: 6 :: 6 :: 6 :: 6 :: 6 :: 6 :: 6 :: 6 :: 6 :: 6 :: 6 :: 6 :: 6 :: 6 :: 6 :: 6 :: 7 :: 7 :: 7 :: 7 :: 7 :: 7 :: 7 :: 7 :: 7 :: 7 :: 7 :: 7 :: 7 :: 7 :: 7 :: 7 :: 7 :: 7 :: 7 :: 7 :: 7 :: 7 :: 7 :: 7 :: 7 :: 7 :: 7 :: 7 :: 7 :: 7 :: 7 :: 7 :: 7 :: 7 :: 7 :: 7 :: 7 :: 7 :: 7 :: 7 :: 7 :: 7 :: 7 :: 7 :: 7 :: 7 :: 7 :: 7 :: 7 :: 7 :: 7 :: 7 :: 7 :: 7 :: 7 :: 7 :: 7 :: 7 :: 7 :: 7 :: 7 :: 7 :: 7 :: 7 :: 8 :: 8 :: 8 :: 8 :: 8 :: 8 :: 8 :: 8 :: 8 :: 8 :: 8 :: 8 :: 8 :: 8 :: 8 :: 8 :: 8 :: 8 :: 8 :: 8 :: 8 :: 8 :: 8 :: 8 :: 8 :: 8 :: 8 :: 8 :: 8 :: 8 :: 8 :: 8 :: 8 :: 8 :: 8 :: 8 :: 8 :: 8 :: 8 :: 8 :: 8 :: 8 :: 8 :: 8 :: 8 :: 8 :: 8 :: 8 :: 8 :: 8 :: 8 :: 8 :: 8 :: 8 :: 8 :: 8 :: 8 :: 8 :: 8 :: 8 :: 8 :: 8 :: 8 :: 8 :: 8 :: 8 :: 8 :: 8 :: 8 :: 8 :: 8 :: 8 :: 8 :: 8 :: 8 :: 8 :: 8 :: 8 :: 8 :: 8 :: 8 :: 8 :: 8 :: 8 :: 8 :: 8 :: 8 :: 8 :: 8 :: 8 :: 8 :: 8 :: 8 :: 8 :: 8 :: 8 :: 8 :: 8 :: 8 :: 8 :: 8 :: 8 :: 8 :: 8 :: 8 :: 8 :: 8 :: 8 :: 8 :: 8 :: 8 :: 8 :: 8 :: 8 :: 8 :: 8 :: 8 :: 8 :: 8 :: 8 :: 8 :: 8 :: 8 :: 8 :: 8 :: 8 :: 8 :: 8 :: []))⟩ : ByteArray) (IntKind.u8.wrap x11) fun (b14 : Int) =>
  Q (IntKind.i64.wrap (n12 + (IntKind.i64.wrap b14))) h13) (fun (j10 : Int → Int → Heap → Prop) =>
  brr (decide (x7 ≥ 256))
  (0 ≤ (8 : Int) ∧
  j10 (x7.fdiv (2 ^ min (8 : Int).toNat IntKind.u64.bits)) (IntKind.i64.wrap (n8 + 8)) h9)
  (j10 x7 n8 h9))) (fun (j6 : Int → Int → Heap → Prop) =>
  brr (decide (x3 ≥ 65536))
  (0 ≤ (16 : Int) ∧
  j6 (x3.fdiv (2 ^ min (16 : Int).toNat IntKind.u64.bits)) (IntKind.i64.wrap (n4 + 16)) h5)
  (j6 x3 n4 h5))) (fun (j2 : Int → Int → Heap → Prop) =>
  brr (decide (x1 ≥ 4294967296))
  (0 ≤ (32 : Int) ∧
  j2 (x1.fdiv (2 ^ min (32 : Int).toNat IntKind.u64.bits)) 32 h)
  (j2 x1 0 h))
def F_math_bits_Len64 (x1 : Int) (h : Heap) (Q : Int → Heap → Prop) : Prop := F_math_bits_Len64_of  x1 h Q
def plan130 : Plan := .s (.r [0, 2]) (.s (.s (.r [0, 2, 4]) (.cj [(0, .one (.int .u64)), (2, .one (.int .i64))] [] (.s (.r [0]) (.r [0, 2])) .z)) (.s (.s (.r [0, 2, 8]) (.cj [(0, .one (.int .u64)), (2, .one (.int .i64))] [] (.s (.r [0, 2]) (.r [0, 2])) .z)) (.s (.s (.r [0, 2, 14]) (.cj [(0, .one (.int .u64)), (2, .one (.int .i64))] [] (.s (.r [0, 2]) (.r [0, 2])) .z)) (.s (.r [2]) .z))))
theorem F_math_bits_Len64.eq  (x1 : Int) (h : Heap) (K : YV) : F_math_bits_Len64_of  x1 h (fun (r0 : Int) (h : Heap) => K (.int .i64 r0) h) =
    den Tryz.prog noFns Tryz.f130.ntmps plan130 (bodyOf Tryz.f130) (args0 0 [(.int .u64 x1 : Value)]) h (konF Tryz.f130 K) := by kernel_rfl
def E_math_bits_Len64_of (f : Y12) : List Value → Heap → YV → Prop
  | [v0], h, K => dec1 (.int .u64) v0 fun (x1 : Int) =>
  f x1 h (fun (r0 : Int) (h : Heap) => K (.int .i64 r0) h)
  | _, _, _ => False
abbrev E_math_bits_Len64 := E_math_bits_Len64_of F_math_bits_Len64
theorem E_math_bits_Len64.right : IsRight Tryz.prog 130 E_math_bits_Len64 := by
  refine isRight fun vs K w hh => ?_
  match vs, hh with
  | [v0], hh =>
    unfold E_math_bits_Len64 E_math_bits_Len64_of at hh
    replace hh := dec1_sound hh; obtain ⟨x1, rfl, hh⟩ := hh
    unfold F_math_bits_Len64 at hh
    exact calls_den noFns_right plan130 _ w K Tryz.func130 (by kernel_rfl) (by kernel_rfl) (Eq.mp (F_math_bits_Len64.eq  x1 w.heap K) hh)
theorem ok130 : okFn Tryz.prog 130 = true := by kernel_rfl
def F_code_Writer_Var.l1 (w1 : Option Addr) (r3 : Int) (j5 : Int → Heap → Prop) : Int → Int → Heap → Prop :=
  wl [(1, .one (.int .u64)), (9, .one (.int .i64))] (fun (next6 : Int → Int → Heap → Prop) (n7 x8 : Int) (h9 : Heap) =>
  brr (decide (x8 < (IntKind.i64.wrap ((IntKind.i64.wrap ((if r3 > 1 then r3 else 1) - 1)).tdiv 7))))
  (nn w1 fun (a10 : Addr) =>
  ld [.sl] (a10.add 0) h9 fun (v11 : Sl) =>
  al 5 [.int .u8 (IntKind.u8.wrap (BitVec.ofInt IntKind.u8.bits (IntKind.u8.wrap n7) ||| BitVec.ofInt IntKind.u8.bits 128).toNat)] h9 fun (a12 : Addr) (h13 : Heap) =>
  app 5 1 1 (.int .u8 0) v11 (some a12) 1 h13 fun (s14 : Sl) (h15 : Heap) =>
  nn w1 fun (a16 : Addr) =>
  st (a16.add 0) [.slice s14.ptr s14.len s14.cap] h15 fun (h17 : Heap) =>
  0 ≤ (7 : Int) ∧
  next6 (n7.fdiv (2 ^ min (7 : Int).toNat IntKind.u64.bits)) (IntKind.i64.wrap (x8 + 1)) h17)
  (j5 n7 h9))
def F_code_Writer_Var_of (f130_ : Y12) (w1 : Option Addr) (n2 : Int) (h : Heap) (Q : Heap → Prop) : Prop :=
  f130_ n2 h fun (r3 : Int) (h4 : Heap) =>
  (7 : Int) ≠ 0 ∧
  jn [(1, .one (.int .u64))] (fun (n18 : Int) (h19 : Heap) =>
  nn w1 fun (a20 : Addr) =>
  ld [.sl] (a20.add 0) h19 fun (v21 : Sl) =>
  al 5 [.int .u8 (IntKind.u8.wrap n18)] h19 fun (a22 : Addr) (h23 : Heap) =>
  app 5 1 1 (.int .u8 0) v21 (some a22) 1 h23 fun (s24 : Sl) (h25 : Heap) =>
  nn w1 fun (a26 : Addr) =>
  st (a26.add 0) [.slice s24.ptr s24.len s24.cap] h25 fun (h27 : Heap) =>
  Q h27) (fun (j5 : Int → Heap → Prop) =>
  F_code_Writer_Var.l1 w1 r3 j5 n2 0 h4)
def F_code_Writer_Var (w1 : Option Addr) (n2 : Int) (h : Heap) (Q : Heap → Prop) : Prop := F_code_Writer_Var_of F_math_bits_Len64 w1 n2 h Q
def plan64 : Plan := .s (.s (.r [0, 1, 8, 9]) (.bj [(1, .one (.int .u64))] [0] (.l [(1, .one (.int .u64)), (9, .one (.int .i64))] [0, 8] (.s (.r [0, 1, 8, 9, 10]) (.s (.c .z .z) (.s (.b (.s (.r [0, 1, 8, 9]) (.r [0, 1, 8, 9]))) (.r [0, 1, 8, 9]))))))) (.r [])
theorem F_code_Writer_Var.eq (f130_ : Y12) (w1 : Option Addr) (n2 : Int) (h : Heap) (K : YV) : F_code_Writer_Var_of f130_ w1 n2 h (fun  (h : Heap) => K (.tuple #[]) h) =
    den Tryz.prog (fn1 130 (E_math_bits_Len64_of f130_) noFns) Tryz.f64.ntmps plan64 (bodyOf Tryz.f64) (args0 0 [(.pointer w1 : Value), (.int .u64 n2 : Value)]) h (konF Tryz.f64 K) := by kernel_rfl
def E_code_Writer_Var_of (f : Y8) : List Value → Heap → YV → Prop
  | [v0, v1], h, K => dec1 .ptr v0 fun (w1 : Option Addr) =>
  dec1 (.int .u64) v1 fun (n2 : Int) =>
  f w1 n2 h (fun  (h : Heap) => K (.tuple #[]) h)
  | _, _, _ => False
abbrev E_code_Writer_Var := E_code_Writer_Var_of F_code_Writer_Var
theorem E_code_Writer_Var.right : IsRight Tryz.prog 64 E_code_Writer_Var := by
  refine isRight fun vs K w hh => ?_
  match vs, hh with
  | [v0, v1], hh =>
    unfold E_code_Writer_Var E_code_Writer_Var_of at hh
    replace hh := dec1_sound hh; obtain ⟨w1, rfl, hh⟩ := hh
    replace hh := dec1_sound hh; obtain ⟨n2, rfl, hh⟩ := hh
    unfold F_code_Writer_Var at hh
    exact calls_den (fn1_right ok130 E_math_bits_Len64.right noFns_right) plan64 _ w K Tryz.func64 (by kernel_rfl) (by kernel_rfl) (Eq.mp (F_code_Writer_Var.eq F_math_bits_Len64 w1 n2 w.heap K) hh)
theorem ok64 : okFn Tryz.prog 64 = true := by kernel_rfl
def F_code_Writer_fixed.l1 (w1 : Option Addr) (n2 size3 : Int) (j4 : Heap → Prop) : Int → Heap → Prop :=
  wl [(8, .one (.int .i64))] (fun (next5 : Int → Heap → Prop) (x6 : Int) (h7 : Heap) =>
  brr (decide (x6 < size3))
  (nn w1 fun (a8 : Addr) =>
  ld [.sl] (a8.add 0) h7 fun (v9 : Sl) =>
  0 ≤ (IntKind.i64.wrap (8 * (IntKind.i64.wrap ((IntKind.i64.wrap (size3 - 1)) - x6)))) ∧
  al 5 [.int .u8 (IntKind.u8.wrap (n2.fdiv (2 ^ min (IntKind.i64.wrap (8 * (IntKind.i64.wrap ((IntKind.i64.wrap (size3 - 1)) - x6)))).toNat IntKind.u64.bits)))] h7 fun (a10 : Addr) (h11 : Heap) =>
  cellsAre h11 (a8.add 0) [.slice v9.ptr v9.len v9.cap] ∧
  app 5 1 1 (.int .u8 0) v9 (some a10) 1 h11 fun (s12 : Sl) (h13 : Heap) =>
  nn w1 fun (a14 : Addr) =>
  st (a14.add 0) [.slice s12.ptr s12.len s12.cap] h13 fun (h15 : Heap) =>
  next5 (IntKind.i64.wrap (x6 + 1)) h15)
  (j4 h7))
def F_code_Writer_fixed_of  (w1 : Option Addr) (n2 size3 : Int) (h : Heap) (Q : Heap → Prop) : Prop :=
  jn [] (fun  (h16 : Heap) =>
  Q h16) (fun (j4 : Heap → Prop) =>
  F_code_Writer_fixed.l1 w1 n2 size3 j4 0 h)
def F_code_Writer_fixed (w1 : Option Addr) (n2 size3 : Int) (h : Heap) (Q : Heap → Prop) : Prop := F_code_Writer_fixed_of  w1 n2 size3 h Q
def plan54 : Plan := .s (.r [0, 1, 2, 7, 8]) (.bj [] [] (.l [(8, .one (.int .i64))] [0, 1, 2, 7] (.s (.r [0, 1, 2, 7, 8, 9]) (.s (.c .z .z) (.s (.b (.s (.r [0, 1, 2, 6, 7, 8]) (.d [0, 0, 2, 6, 14, 0, 0, 64, 0, 448, 960, 2016, 4064, 8160, 16382, 32767, 65535, 131071] [[0, 1, 2, 3, 4, 5, 6, 7, 8, 9, 10, 11, 12, 13, 14, 15, 16, 17]] [0, 1, 2, 7, 8]))) (.r [0, 1, 2, 7, 8]))))))
theorem F_code_Writer_fixed.eq  (w1 : Option Addr) (n2 size3 : Int) (h : Heap) (K : YV) : F_code_Writer_fixed_of  w1 n2 size3 h (fun  (h : Heap) => K (.tuple #[]) h) =
    den Tryz.prog noFns Tryz.f54.ntmps plan54 (bodyOf Tryz.f54) (args0 0 [(.pointer w1 : Value), (.int .u64 n2 : Value), (.int .i64 size3 : Value)]) h (konF Tryz.f54 K) := by kernel_rfl
def E_code_Writer_fixed_of (f : Y14) : List Value → Heap → YV → Prop
  | [v0, v1, v2], h, K => dec1 .ptr v0 fun (w1 : Option Addr) =>
  dec1 (.int .u64) v1 fun (n2 : Int) =>
  dec1 (.int .i64) v2 fun (size3 : Int) =>
  f w1 n2 size3 h (fun  (h : Heap) => K (.tuple #[]) h)
  | _, _, _ => False
abbrev E_code_Writer_fixed := E_code_Writer_fixed_of F_code_Writer_fixed
theorem E_code_Writer_fixed.right : IsRight Tryz.prog 54 E_code_Writer_fixed := by
  refine isRight fun vs K w hh => ?_
  match vs, hh with
  | [v0, v1, v2], hh =>
    unfold E_code_Writer_fixed E_code_Writer_fixed_of at hh
    replace hh := dec1_sound hh; obtain ⟨w1, rfl, hh⟩ := hh
    replace hh := dec1_sound hh; obtain ⟨n2, rfl, hh⟩ := hh
    replace hh := dec1_sound hh; obtain ⟨size3, rfl, hh⟩ := hh
    unfold F_code_Writer_fixed at hh
    exact calls_den noFns_right plan54 _ w K Tryz.func54 (by kernel_rfl) (by kernel_rfl) (Eq.mp (F_code_Writer_fixed.eq  w1 n2 size3 w.heap K) hh)
theorem ok54 : okFn Tryz.prog 54 = true := by kernel_rfl
end Go.Proofs.YthiginhigfieiaaGreatDoor.V
/-
  FROM A LAW'S FORMULA TO ITS ROW: how an argument that can be read lies on the heap ('Rd'), and that a law whose formula answers true, with all that was there as it was, holds as its row says.
-/
namespace Go.Proofs.YthiginhigfieiaaGreatDoor.V
open Go Go.RowKit
set_option linter.unusedVariables false
set_option linter.unusedSimpArgs false

structure KeptH (h h' : Heap) : Prop where
  size : h.size ≤ h'.size
  at_ : ∀ k, k < h.size → h'[k]? = h[k]?
theorem KeptH.refl (h : Heap) : KeptH h h := ⟨Nat.le_refl _, fun _ _ => rfl⟩
theorem KeptH.trans {a b c : Heap} (h : KeptH a b) (k : KeptH b c) : KeptH a c :=
  ⟨Nat.le_trans h.size k.size, fun i hi => (k.at_ i (Nat.lt_of_lt_of_le hi h.size)).trans (h.at_ i hi)⟩
theorem mapM_at {α β : Type} {f : α → Option β} : ∀ {l : List α} {ys : List β}, l.mapM f = some ys → ys.length = l.length ∧ ∀ (i : Nat) (x : α), l[i]? = some x → ∃ y, f x = some y ∧ ys[i]? = some y
  | [], ys, h => by simp at h; subst h; simp
  | a :: l, ys, h => by
    simp only [List.mapM_cons, Option.bind_eq_bind, Option.pure_def] at h
    cases ha : f a with
    | none => simp [ha] at h
    | some b =>
      cases hl : l.mapM f with
      | none => simp [ha, hl] at h
      | some zs =>
        simp [ha, hl] at h
        subst h
        obtain ⟨h1, h2⟩ := mapM_at hl
        refine ⟨by simp [h1], fun i x hx => ?_⟩
        cases i with
        | zero => simp at hx; subst hx; exact ⟨b, ha, rfl⟩
        | succ i => obtain ⟨y, hy, hz⟩ := h2 i x (by simpa using hx); exact ⟨y, hy, by simpa using hz⟩
theorem cellsAre_of_get {h : Heap} : ∀ {cs : List Value} {a : Addr}, (∀ j v, cs[j]? = some v → cellH h (a.add j) = some v) → cellsAre h a cs
  | [], _, _ => trivial
  | c :: cs, a, hc => by
    refine ⟨by have := hc 0 c (by simp); rwa [Addr.add_zero'] at this, cellsAre_of_get fun j v hv => ?_⟩
    have := hc (j + 1) v (by simpa using hv)
    rwa [Addr_add_add, Nat.add_comm]
theorem cells_are {w : World} {a : Addr} {n : Nat} {cs : List Value} (h : w.cells? 0 a n = some cs) : cs.length = n ∧ cellsAre w.heap a cs := by
  unfold World.cells? at h
  rw [if_pos (Nat.zero_le _)] at h
  obtain ⟨h1, h2⟩ := mapM_at h
  refine ⟨by simpa using h1, cellsAre_of_get fun j v hv => ?_⟩
  have hj : j < n := by have := (List.getElem?_eq_some_iff.1 hv).1; rw [h1] at this; simpa using this
  obtain ⟨y, hy, hz⟩ := h2 j j (by simp [hj])
  rw [hv] at hz; simp at hz; subst hz
  exact hy
section
variable {H : Type} {enc : TypeId × Value → H} {P : Program} {w : World}
theorem weightsAll_mem {e : TypeId} {p : Nat → Prop} : ∀ {ds : List (DataW H)}, (∀ x ∈ DataW.weightsAll P e ds, p x) → ∀ d ∈ ds, ∀ x ∈ d.weights P e, p x
  | [], _, d, hd => by simp at hd
  | y :: ds, h, d, hd => by
    simp only [DataW.weightsAll, List.mem_append] at h
    rcases List.mem_cons.1 hd with rfl | hd
    · exact fun x hx => h x (.inl hx)
    · exact weightsAll_mem (fun x hx => h x (.inr hx)) d hd
theorem weightsEach_at {p : Nat → Prop} : ∀ {ts : List TypeId} {ds : List (DataW H)}, (∀ x ∈ DataW.weightsEach P ts ds, p x) → ∀ (i : Nat) (t : TypeId) (d : DataW H), ts[i]? = some t → ds[i]? = some d → ∀ x ∈ d.weights P t, p x
  | [], _, _, i, t, d, h1, _ => by simp at h1
  | _ :: _, [], _, i, t, d, _, h2 => by simp at h2
  | u :: ts, y :: ds, h, i, t, d, h1, h2 => by
    simp only [DataW.weightsEach, List.mem_append] at h
    cases i with
    | zero => simp at h1 h2; subst h1; subst h2; exact fun x hx => h x (.inl hx)
    | succ i => exact weightsEach_at (fun x hx => h x (.inr hx)) i t d (by simpa using h1) (by simpa using h2)
theorem bind_some {α β : Type} {x : Option α} {f : α → Option β} {b : β} (h : x.bind f = some b) : ∃ a, x = some a ∧ f a = some b := by
  cases x with
  | none => simp at h
  | some a => exact ⟨a, rfl, h⟩
theorem map_some' {α β : Type} {x : Option α} {f : α → β} {b : β} (h : x.map f = some b) : ∃ a, x = some a ∧ f a = b := by
  cases x with
  | none => simp at h
  | some a => exact ⟨a, rfl, by simpa using h⟩
end
def okv (P : Program) (t : TypeId) (v : Value) : Prop := match P.underlying t with
  | some (.struct _) | some (.array _ _) => ∃ cs, v = .agg cs
  | _ => ∀ cs, v ≠ .agg cs
theorem okv_of {P : Program} {W : World} {r : Reach} {base : Nat} {t : TypeId} {v : Value} (h : Value.okWide P W r base t v) : okv P t v := by
  unfold Value.okWide at h
  unfold okv
  split <;> simp_all
  · obtain ⟨cs, h, _⟩ := h; exact ⟨cs, h⟩
  · obtain ⟨cs, h, _⟩ := h; exact ⟨cs, h⟩
  · intro cs hc
    subst hc
    unfold Cell.okWide at h
    split at h <;> simp_all [Cell.ok]
def zeroOf (P : Program) (t : TypeId) : Value := (zeroT P t).getD undef
end Go.Proofs.YthiginhigfieiaaGreatDoor.V
/-
  THE HEAP BY BLOCKS: which blocks a part of the program has made for itself and what they hold ('Own'); the rules for making, reading, writing, appending and looping over such blocks.
-/
namespace Go.Proofs.YthiginhigfieiaaGreatDoor.V
open Go Go.RowKit
set_option linter.unusedVariables false
set_option linter.unusedSimpArgs false

abbrev pt (b o : Nat) : Addr := ⟨b, o, none⟩
theorem pt_add (b o i : Nat) : (pt b o).add i = pt b (o + i) := by
  unfold Addr.add
  split
  · rename_i h; subst h; rfl
  · rfl
def Blk (h : Heap) (b : Nat) (cs : List Value) : Prop := ∃ T f, h[b]? = some (.cells cs.toArray T f) ∧ (f.1 = f.2 ∨ cs.length ≤ f.1)
abbrev Ent := Option Nat × List Value
structure Own (h0 h : Heap) (L : List Ent) : Prop where
  kept : KeptH h0 h
  blk : ∀ p ∈ L, ∀ b, p.1 = some b → h0.size ≤ b ∧ Blk h b p.2
  dis : L.Pairwise fun p q => ∀ b, p.1 = some b → q.1 ≠ some b
theorem Own.none (h : Heap) : Own h h [] := ⟨KeptH.refl h, by simp, List.Pairwise.nil⟩
theorem Blk.lt {h : Heap} {b : Nat} {cs : List Value} (B : Blk h b cs) : b < h.size := by
  obtain ⟨T, f, e, _⟩ := B
  exact (Array.getElem?_eq_some_iff.1 e).1
theorem Own.at {h0 h : Heap} {L : List Ent} (O : Own h0 h L) {i b : Nat} {cs : List Value} (hi : L[i]? = some (some b, cs)) : h0.size ≤ b ∧ Blk h b cs :=
  O.blk _ (List.mem_of_getElem? hi) b rfl
theorem Own.sub {h0 h : Heap} {L M : List Ent} (O : Own h0 h L) (s : M.Sublist L) : Own h0 h M := ⟨O.kept, fun p hp => O.blk p (s.subset hp), O.dis.sublist s⟩
theorem Own.drop {h0 h : Heap} {L : List Ent} {e : Ent} (O : Own h0 h (e :: L)) : Own h0 h L := O.sub (List.sublist_cons_self e L)
theorem Own.perm {h0 h : Heap} {L M : List Ent} (O : Own h0 h L) (s : M.Perm L) : Own h0 h M :=
  ⟨O.kept, fun p hp => O.blk p (s.subset hp), (s.pairwise_iff fun {p q} hpq b hq hp => hpq b hp hq).2 O.dis⟩
theorem Own.push {h0 h : Heap} {L : List Ent} (O : Own h0 h L) (cs : List Value) (T : TypeId) (f : Nat × Nat) (hf : f.1 = f.2 ∨ cs.length ≤ f.1) : Own h0 (h.push (.cells cs.toArray T f)) ((some h.size, cs) :: L) := by
  refine ⟨⟨by simp; have := O.kept.size; omega, fun k hk => ?_⟩, ?_, List.pairwise_cons.2 ⟨?_, O.dis⟩⟩
  · have := O.kept.size
    rw [Array.getElem?_push, if_neg (by omega)]; exact O.kept.at_ k hk
  · intro p hp b hb
    rcases List.mem_cons.1 hp with rfl | hp
    · simp at hb; subst hb
      exact ⟨O.kept.size, T, f, by simp, hf⟩
    · obtain ⟨h1, h2⟩ := O.blk p hp b hb
      refine ⟨h1, ?_⟩
      have := h2.lt
      obtain ⟨T', f', e, hf'⟩ := h2
      exact ⟨T', f', by rw [Array.getElem?_push, if_neg (by omega)]; exact e, hf'⟩
  · intro q hq b hb hc
    simp at hb; subst hb
    exact absurd (O.blk q hq _ hc).2.lt (by omega)
theorem cellH_blk {h : Heap} {b o : Nat} {cs : List Value} (B : Blk h b cs) : cellH h (pt b o) = cs[o]? := by
  obtain ⟨T, f, e, _⟩ := B
  simp [cellH, e]
theorem cellsAre_blk {h : Heap} {b : Nat} {cs : List Value} (B : Blk h b cs) (o n : Nat) : cellsAre h (pt b o) ((cs.drop o).take n) := by
  refine cellsAre_of_get fun j v hv => ?_
  rw [pt_add, cellH_blk B]
  rw [List.getElem?_take] at hv
  split at hv
  · simpa using hv
  · simp at hv
def ldL : (ks : List Kd) → List Value → Fn ks Prop → Prop
  | [], _, K => K
  | k :: ks, v :: vs, K => ∃ x : k.T, v = k.enc x ∧ ldL ks vs (K x)
  | _ :: _, [], _ => False
theorem ld_are : ∀ {ks : List Kd} {cs : List Value} {a : Addr} {h : Heap} {K : Fn ks Prop}, cellsAre h a cs → ldL ks cs K → ld ks a h K
  | [], _, _, _, _, _, hl => hl
  | k :: ks, [], _, _, _, _, hl => hl.elim
  | k :: ks, v :: vs, a, h, K, hc, hl => by
    obtain ⟨x, rfl, hl⟩ := hl
    exact ⟨x, hc.1, ld_are hc.2 hl⟩
theorem Own.ld {h0 h : Heap} {L : List Ent} (O : Own h0 h L) (i : Nat) {b o : Nat} {cs : List Value} {ks : List Kd} {K : Fn ks Prop} (hi : L[i]? = some (some b, cs)) (hl : ldL ks (cs.drop o) K) : ld ks (pt b o) h K := by
  have := cellsAre_blk (O.at hi).2 o (cs.drop o).length
  rw [List.take_length] at this
  exact ld_are this hl
theorem cellH_kept {h0 h : Heap} {a : Addr} {v : Value} (k : KeptH h0 h) (hc : cellH h0 a = some v) : cellH h a = some v := by
  have hb : a.block < h0.size := by
    unfold cellH at hc
    split at hc
    · rename_i e; exact (Array.getElem?_eq_some_iff.1 e).1
    · simp at hc
  unfold cellH at hc ⊢
  rw [k.at_ _ hb]
  exact hc
theorem cellsAre_kept {h0 h : Heap} (k : KeptH h0 h) : ∀ {cs : List Value} {a : Addr}, cellsAre h0 a cs → cellsAre h a cs
  | [], _, _ => trivial
  | _ :: _, _, hc => ⟨cellH_kept k hc.1, cellsAre_kept k hc.2⟩
theorem rdL_are : ∀ {cs : List Value} {h : Heap} {a : Addr}, cellsAre h a cs → rdL h a cs.length = some cs
  | [], _, _, _ => rfl
  | v :: vs, h, a, hc => by simp [rdL, hc.1, rdL_are hc.2]
theorem cellsAre_take {h : Heap} : ∀ {cs : List Value} {a : Addr} (n : Nat), cellsAre h a cs → cellsAre h a (cs.take n)
  | [], _, n, _ => by simp [cellsAre]
  | v :: vs, a, 0, hc => trivial
  | v :: vs, a, n + 1, hc => ⟨hc.1, cellsAre_take n hc.2⟩
theorem cellsAre_append {h : Heap} : ∀ {cs ds : List Value} {a : Addr}, cellsAre h a cs → cellsAre h (a.add cs.length) ds → cellsAre h a (cs ++ ds)
  | [], _, a, _, hd => by simpa [Addr.add_zero'] using hd
  | v :: vs, ds, a, hc, hd => ⟨hc.1, cellsAre_append hc.2 (by rw [Addr_add_add]; rw [show 1 + vs.length = (v :: vs).length by simp; omega]; exact hd)⟩

def put : List Value → Nat → List Value → List Value
  | cs, 0, [] => cs
  | [], 0, _ :: _ => []
  | _ :: cs, 0, v :: vs => v :: put cs 0 vs
  | [], _ + 1, _ => []
  | c :: cs, o + 1, vs => c :: put cs o vs
theorem put_nil : ∀ (cs : List Value) (o : Nat), put cs o [] = cs
  | cs, 0 => by cases cs <;> rfl
  | [], _ + 1 => rfl
  | c :: cs, o + 1 => by simp [put, put_nil cs o]
theorem put_cons : ∀ (cs : List Value) (o : Nat) (v : Value) (vs : List Value), o < cs.length → put cs o (v :: vs) = put (cs.set o v) (o + 1) vs
  | [], o, v, vs, h => by simp at h
  | c :: cs, 0, v, vs, _ => by simp [put]
  | c :: cs, o + 1, v, vs, h => by simp only [put, List.set_cons_succ]; rw [put_cons cs o v vs (by simpa using h)]
theorem put_mid : ∀ (us bs cs vs : List Value), bs.length = vs.length → put (us ++ bs ++ cs) us.length vs = us ++ vs ++ cs
  | [], [], cs, [], _ => by cases cs <;> rfl
  | [], [], cs, _ :: _, h => by simp at h
  | [], _ :: _, cs, [], h => by simp at h
  | [], b :: bs, cs, v :: vs, h => by simp [put]; have := put_mid [] bs cs vs (by simpa using h); simpa using this
  | u :: us, bs, cs, vs, h => by simp [put]; have := put_mid us bs cs vs h; simpa using this
theorem setH_own {h0 h : Heap} {L : List Ent} (O : Own h0 h L) (i : Nat) {b o : Nat} {cs : List Value} {v : Value} (hi : L[i]? = some (some b, cs)) : Own h0 (setH h (pt b o) v) (L.set i (some b, cs.set o v)) := by
  obtain ⟨hb, B⟩ := O.at hi
  have hlt := B.lt
  obtain ⟨T, f, e, hf⟩ := B
  have hat : ∀ k, (setH h (pt b o) v)[k]? = if b = k then some (.cells (cs.set o v).toArray T f) else h[k]? := by
    intro k
    unfold setH
    rw [Array.getElem?_modify]
    split
    · rename_i hk; subst hk; simp [e]
    · rfl
  refine ⟨⟨?_, fun k hk => ?_⟩, ?_, ?_⟩
  · have := O.kept.size; simpa [setH] using this
  · rw [hat, if_neg (by omega)]; exact O.kept.at_ k hk
  · intro p hp b' hb'
    obtain ⟨j, hj⟩ := List.mem_iff_getElem?.1 hp
    rw [List.getElem?_set] at hj
    split at hj
    · split at hj
      · simp at hj; subst hj; simp at hb'; subst hb'
        exact ⟨hb, T, f, by rw [hat, if_pos rfl], by simpa using hf⟩
      · simp at hj
    · rename_i hij
      obtain ⟨h1, T', f', e', hf'⟩ := O.blk p (List.mem_of_getElem? hj) b' hb'
      refine ⟨h1, T', f', ?_, hf'⟩
      have hne : b ≠ b' := by
        intro hbb; subst hbb
        have hil := (List.getElem?_eq_some_iff.1 hi).1
        have hjl := (List.getElem?_eq_some_iff.1 hj).1
        have := List.pairwise_iff_getElem.1 O.dis
        rcases Nat.lt_or_gt_of_ne hij with hlt | hlt
        · have := this i j hil hjl hlt b (by rw [(List.getElem?_eq_some_iff.1 hi).2])
          rw [(List.getElem?_eq_some_iff.1 hj).2] at this; exact this hb'
        · have := this j i hjl hil hlt b (by rw [(List.getElem?_eq_some_iff.1 hj).2]; exact hb')
          rw [(List.getElem?_eq_some_iff.1 hi).2] at this; exact this rfl
      rw [hat, if_neg hne]; exact e'
  · have key : ∀ k (h1 : k < (L.set i (some b, cs.set o v)).length), ((L.set i (some b, cs.set o v))[k]).1 = (L[k]'(by simpa using h1)).1 := by
      intro k h1
      rw [List.getElem_set]
      split
      · rename_i hik; subst hik; rw [(List.getElem?_eq_some_iff.1 hi).2]
      · rfl
    rw [List.pairwise_iff_getElem]
    intro j k hj hk hjk b' hb'
    rw [key] at hb' ⊢
    exact List.pairwise_iff_getElem.1 O.dis j k (by simpa using hj) (by simpa using hk) hjk b' hb'
theorem wr_own {h0 h : Heap} {L : List Ent} (O : Own h0 h L) {i b o : Nat} {cs : List Value} {v : Value} (hi : L[i]? = some (some b, cs)) (ho : o < cs.length) (hv : oneV v = true) : wr h (pt b o) v := by
  obtain ⟨hb, B⟩ := O.at hi
  refine ⟨hv, ⟨cs[o], by rw [cellH_blk B]; simp [ho]⟩, ?_⟩
  obtain ⟨T, f, e, hf⟩ := B
  simp only [frozenH, e]
  simp only [Bool.and_eq_false_iff, decide_eq_false_iff_not]
  omega
theorem Own.st {h0 : Heap} (i : Nat) {b : Nat} : ∀ {vs : List Value} {h : Heap} {L : List Ent} {o : Nat} {cs : List Value} {K : Heap → Prop} (O : Own h0 h L) (hi : L[i]? = some (some b, cs)) (ho : o + vs.length ≤ cs.length) (hv : vs.all oneV = true)
    (k : ∀ h', Own h0 h' (L.set i (some b, put cs o vs)) → K h'), st (pt b o) vs h K
  | [], h, L, o, cs, K, O, hi, ho, hv, k => by
    refine k h ?_
    rw [put_nil]
    rw [show L.set i (some b, cs) = L by
      apply List.ext_getElem?
      intro j
      rw [List.getElem?_set]
      split
      · rename_i hij; subst hij
        have := (List.getElem?_eq_some_iff.1 hi).1
        rw [if_pos this, hi]
      · rfl]
    exact O
  | v :: vs, h, L, o, cs, K, O, hi, ho, hv, k => by
    simp only [List.length_cons] at ho
    simp only [List.all_cons, Bool.and_eq_true] at hv
    refine ⟨wr_own O hi (by omega) hv.1, ?_⟩
    rw [pt_add]
    refine Own.st i (setH_own O i hi) (cs := cs.set o v) (by rw [List.getElem?_set]; simp; exact (List.getElem?_eq_some_iff.1 hi).1) (by simp; omega) hv.2 ?_
    intro h' O'
    refine k h' ?_
    rw [put_cons _ _ _ _ (by omega)]
    simpa using O'

theorem wl1 {i : Nat} {k : Kd} {B : (k.T → Heap → Prop) → k.T → Heap → Prop} (I : Nat → k.T → Heap → Prop) (step : ∀ m x h (next : k.T → Heap → Prop), (∀ m' x' h', m' < m → I m' x' h' → next x' h') → I m x h → B next x h) {m : Nat} {x : k.T} {h : Heap} (hI : I m x h) : wl [(i, .one k)] B x h := by
  have key : ∀ n x h, (∃ m, m < n ∧ I m x h) → wit [(i, .one k)] B n x h := by
    intro n
    induction n with
    | zero => intro x h ⟨m, hm, _⟩; omega
    | succ n ih => intro x h ⟨m, hm, hI⟩; exact step m x h _ (fun m' x' h' hm' hI' => ih x' h' ⟨m', by omega, hI'⟩) hI
  exact ⟨m + 1, key (m + 1) x h ⟨m, by omega, hI⟩⟩
theorem wl2 {i j : Nat} {k l : Kd} {B : (k.T → l.T → Heap → Prop) → k.T → l.T → Heap → Prop} (I : Nat → k.T → l.T → Heap → Prop)
    (step : ∀ m x y h (next : k.T → l.T → Heap → Prop), (∀ m' x' y' h', m' < m → I m' x' y' h' → next x' y' h') → I m x y h → B next x y h) {m : Nat} {x : k.T} {y : l.T} {h : Heap} (hI : I m x y h) : wl [(i, .one k), (j, .one l)] B x y h := by
  have key : ∀ n x y h, (∃ m, m < n ∧ I m x y h) → wit [(i, .one k), (j, .one l)] B n x y h := by
    intro n
    induction n with
    | zero => intro x y h ⟨m, hm, _⟩; omega
    | succ n ih => intro x y h ⟨m, hm, hI⟩; exact step m x y h _ (fun m' x' y' h' hm' hI' => ih x' y' h' ⟨m', by omega, hI'⟩) hI
  exact ⟨m + 1, key (m + 1) x y h ⟨m, by omega, hI⟩⟩
theorem wl3 {i j j3 : Nat} {k l l3 : Kd} {B : (k.T → l.T → l3.T → Heap → Prop) → k.T → l.T → l3.T → Heap → Prop} (I : Nat → k.T → l.T → l3.T → Heap → Prop)
    (step : ∀ m x y z h (next : k.T → l.T → l3.T → Heap → Prop), (∀ m' x' y' z' h', m' < m → I m' x' y' z' h' → next x' y' z' h') → I m x y z h → B next x y z h) {m : Nat} {x : k.T} {y : l.T} {z : l3.T} {h : Heap} (hI : I m x y z h) : wl [(i, .one k), (j, .one l), (j3, .one l3)] B x y z h := by
  have key : ∀ n x y z h, (∃ m, m < n ∧ I m x y z h) → wit [(i, .one k), (j, .one l), (j3, .one l3)] B n x y z h := by
    intro n
    induction n with
    | zero => intro x y z h ⟨m, hm, _⟩; omega
    | succ n ih => intro x y z h ⟨m, hm, hI⟩; exact step m x y z h _ (fun m' x' y' z' h' hm' hI' => ih x' y' z' h' ⟨m', by omega, hI'⟩) hI
  exact ⟨m + 1, key (m + 1) x y z h ⟨m, by omega, hI⟩⟩
theorem wrap64 {x : Int} (h1 : -9223372036854775808 ≤ x) (h2 : x ≤ 9223372036854775807) : IntKind.i64.wrap x = x := by
  unfold IntKind.wrap; simp [IntKind.bits, IntKind.signed]; omega
theorem wrapu64 {x : Int} (h1 : 0 ≤ x) (h2 : x < 18446744073709551616) : IntKind.u64.wrap x = x := by
  unfold IntKind.wrap; simp [IntKind.bits, IntKind.signed]; omega
theorem wrapu8 {x : Int} (h1 : 0 ≤ x) (h2 : x < 256) : IntKind.u8.wrap x = x := by
  unfold IntKind.wrap; simp [IntKind.bits, IntKind.signed]; omega
theorem wrapu32 {x : Int} (h1 : 0 ≤ x) (h2 : x < 4294967296) : IntKind.u32.wrap x = x := by
  unfold IntKind.wrap; simp [IntKind.bits, IntKind.signed]; omega
theorem brr_dec {p : Prop} [Decidable p] {A B : Prop} : brr (decide p) A B = if p then A else B := by
  by_cases h : p <;> simp [h, brr]
theorem nn_some {a : Addr} {K : Addr → Prop} : nn (some a) K = K a := by simp [nn]
end Go.Proofs.YthiginhigfieiaaGreatDoor.V
/-
  THE HEAP BY RESOURCES: a list of assertions, each over blocks of its own ('Sat'); the rules for making, reading, writing, appending; lists that lie in memory ('View', 'buf').
-/
namespace Go.Proofs.YthiginhigfieiaaGreatDoor.V
open Go Go.RowKit
set_option linter.unusedVariables false
set_option linter.unusedSimpArgs false

abbrev Cnt := List Value ⊕ List Int
abbrev Blks := List (Nat × Cnt)
def MapIs (h : Heap) (r : Nat) (l : List Int) : Prop := ∃ es c, h[r]? = some (.map es c) ∧ es.toList.map (fun e => (e.key, e.val)) = l.map fun n => (Value.int .i64 n, Value.bool true)
def BlkX (h : Heap) (b : Nat) : Cnt → Prop
  | .inl cs => Blk h b cs
  | .inr l => MapIs h b l
theorem BlkX.lt {h : Heap} {b : Nat} {c : Cnt} (B : BlkX h b c) : b < h.size := by
  cases c with
  | inl cs => exact Blk.lt B
  | inr l => obtain ⟨es, k, e, _⟩ := B; exact (Array.getElem?_eq_some_iff.1 e).1
theorem BlkX.same {h h' : Heap} {b : Nat} {c : Cnt} (B : BlkX h b c) (e : h'[b]? = h[b]?) : BlkX h' b c := by
  cases c with
  | inl cs => obtain ⟨T, f, q, hf⟩ := B; exact ⟨T, f, e.trans q, hf⟩
  | inr l => obtain ⟨es, k, q, hm⟩ := B; exact ⟨es, k, e.trans q, hm⟩
structure Held (h0 h : Heap) (E : Blks) : Prop where
  kept : KeptH h0 h
  blk : ∀ p ∈ E, h0.size ≤ p.1 ∧ BlkX h p.1 p.2
  dis : (E.map (·.1)).Nodup
theorem Held.none (h : Heap) : Held h h [] := ⟨KeptH.refl h, by simp, by simp⟩
theorem Held.perm {h0 h : Heap} {E F : Blks} (O : Held h0 h E) (p : F.Perm E) : Held h0 h F :=
  ⟨O.kept, fun q hq => O.blk q (p.subset hq), (p.map _).nodup_iff.2 O.dis⟩
theorem Held.sub {h0 h : Heap} {E F : Blks} (O : Held h0 h E) (s : F.Sublist E) : Held h0 h F :=
  ⟨O.kept, fun q hq => O.blk q (s.subset hq), O.dis.sublist (s.map _)⟩
theorem Held.more {h0 h : Heap} {E : Blks} (O : Held h0 h E) (o : Obj) (c : Cnt) (B : BlkX (h.push o) h.size c) : Held h0 (h.push o) ((h.size, c) :: E) := by
  refine ⟨⟨by simp; have := O.kept.size; omega, fun k hk => ?_⟩, ?_, ?_⟩
  · have := O.kept.size
    rw [Array.getElem?_push, if_neg (by omega)]; exact O.kept.at_ k hk
  · intro p hp
    rcases List.mem_cons.1 hp with rfl | hp
    · exact ⟨O.kept.size, B⟩
    · obtain ⟨h1, h2⟩ := O.blk p hp
      have := h2.lt
      exact ⟨h1, h2.same (by rw [Array.getElem?_push, if_neg (by omega)])⟩
  · rw [List.map_cons, List.nodup_cons]
    refine ⟨fun hm => ?_, O.dis⟩
    obtain ⟨q, hq, e⟩ := List.mem_map.1 hm
    have := (O.blk q hq).2.lt
    omega
theorem Held.push {h0 h : Heap} {E : Blks} (O : Held h0 h E) (cs : List Value) (T : TypeId) (f : Nat × Nat) (hf : f.1 = f.2 ∨ cs.length ≤ f.1) : Held h0 (h.push (.cells cs.toArray T f)) ((h.size, .inl cs) :: E) :=
  O.more _ _ ⟨T, f, by simp, hf⟩
theorem Held.change {h0 h h' : Heap} {E : Blks} {b : Nat} {c c' : Cnt} (O : Held h0 h ((b, c) :: E)) (hs : h'.size = h.size) (ho : ∀ k, b ≠ k → h'[k]? = h[k]?) (B : BlkX h' b c') : Held h0 h' ((b, c') :: E) := by
  obtain ⟨hb, B0⟩ := O.blk _ (List.mem_cons_self)
  have hd := O.dis
  rw [List.map_cons, List.nodup_cons] at hd
  refine ⟨⟨by rw [hs]; exact O.kept.size, fun k hk => ?_⟩, ?_, ?_⟩
  · rw [ho k (by simp at hb; omega)]; exact O.kept.at_ k hk
  · intro p hp
    rcases List.mem_cons.1 hp with rfl | hp
    · exact ⟨hb, B⟩
    · obtain ⟨h1, h2⟩ := O.blk p (List.mem_cons_of_mem _ hp)
      exact ⟨h1, h2.same (ho _ fun hbb => hd.1 (List.mem_map.2 ⟨p, hp, hbb.symm⟩))⟩
  · rw [List.map_cons, List.nodup_cons]; exact hd
theorem setH_blk {h : Heap} {b o : Nat} {cs : List Value} {v : Value} {T : TypeId} {f : Nat × Nat} (e : h[b]? = some (.cells cs.toArray T f)) (k : Nat) :
    (setH h (pt b o) v)[k]? = if b = k then some (.cells (cs.set o v).toArray T f) else h[k]? := by
  unfold setH
  rw [Array.getElem?_modify]
  split
  · rename_i hk; subst hk; simp [e]
  · rfl
theorem Held.set {h0 h : Heap} {E : Blks} {b o : Nat} {cs : List Value} {v : Value} (O : Held h0 h ((b, .inl cs) :: E)) : Held h0 (setH h (pt b o) v) ((b, .inl (cs.set o v)) :: E) := by
  obtain ⟨hb, T, f, e, hf⟩ := O.blk _ (List.mem_cons_self)
  have hat := setH_blk (o := o) (v := v) e
  exact O.change (by simp [setH]) (fun k hk => by rw [hat, if_neg hk]) ⟨T, f, by rw [hat, if_pos rfl], by simpa using hf⟩
theorem Held.wr {h0 h : Heap} {E : Blks} {b o : Nat} {cs : List Value} {v : Value} (O : Held h0 h ((b, .inl cs) :: E)) (ho : o < cs.length) (hv : oneV v = true) : wr h (pt b o) v := by
  obtain ⟨hb, B⟩ := O.blk _ (List.mem_cons_self)
  have B : Blk h b cs := B
  refine ⟨hv, ⟨cs[o], by rw [cellH_blk B]; simp [ho]⟩, ?_⟩
  obtain ⟨T, f, e, hf⟩ := B
  simp only [frozenH, e]
  simp only [Bool.and_eq_false_iff, decide_eq_false_iff_not]
  omega
theorem Held.st {h0 : Heap} {E : Blks} {b : Nat} : ∀ {vs : List Value} {h : Heap} {o : Nat} {cs : List Value} {K : Heap → Prop} (O : Held h0 h ((b, .inl cs) :: E)) (ho : o + vs.length ≤ cs.length) (hv : vs.all oneV = true)
    (k : ∀ h', Held h0 h' ((b, .inl (V.put cs o vs)) :: E) → K h'), st (pt b o) vs h K
  | [], h, o, cs, K, O, ho, hv, k => k h (by rw [put_nil]; exact O)
  | v :: vs, h, o, cs, K, O, ho, hv, k => by
    simp only [List.length_cons] at ho
    simp only [List.all_cons, Bool.and_eq_true] at hv
    refine ⟨O.wr (by omega) hv.1, ?_⟩
    rw [pt_add]
    refine Held.st O.set (by simp; omega) hv.2 ?_
    intro h' O'
    refine k h' ?_
    rw [put_cons _ _ _ _ (by omega)]
    exact O'

theorem Held.mark {h0 h : Heap} {E : Blks} {b : Nat} {cs : List Value} (O : Held h0 h ((b, .inl cs) :: E)) : (∃ T f, h[b]? = some (.cells cs.toArray T f)) ∧ Held h0 (markH h b cs.length) ((b, .inl cs) :: E) := by
  obtain ⟨hb, T, f, e, hf⟩ := O.blk _ (List.mem_cons_self)
  refine ⟨⟨T, f, e⟩, ?_⟩
  have hat : ∀ k, (markH h b cs.length)[k]? = if b = k then some (.cells cs.toArray T (if f.1 == f.2 then (cs.length, cs.length + 1) else (min f.1 cs.length, max f.2 (cs.length + 1)))) else h[k]? := by
    intro k
    unfold markH
    rw [Array.getElem?_modify]
    split
    · rename_i hk; subst hk; rw [show h[b]? = _ from e]; rfl
    · rfl
  refine O.change (by simp [markH]) (fun k hk => by rw [hat, if_neg hk]) ⟨T, _, by rw [hat, if_pos rfl], ?_⟩
  by_cases h1 : f.1 = f.2
  · rw [if_pos (by simpa using h1)]; exact .inr (Nat.le_refl _)
  · rw [if_neg (by simpa using h1)]
    refine .inr ?_
    have h1 : ¬ f.1 = f.2 := h1
    rcases hf with hf | hf
    · exact absurd hf h1
    · have hf : cs.length ≤ f.1 := hf
      show cs.length ≤ min f.1 cs.length
      omega
abbrev Res := Blks → Prop
def emp : Res := fun E => E = []
def own (b : Nat) (cs : List Value) : Res := fun E => E = [(b, .inl cs)]
def sep (A B : Res) : Res := fun E => ∃ E1 E2, E.Perm (E1 ++ E2) ∧ A E1 ∧ B E2
def ex {α : Sort _} (A : α → Res) : Res := fun E => ∃ x, A x E
def star : List Res → Res
  | [] => emp
  | A :: L => sep A (star L)
def Sat (h0 h : Heap) (L : List Res) : Prop := ∃ E, star L E ∧ Held h0 h E
theorem Sat.nil (h : Heap) : Sat h h [] := ⟨[], rfl, Held.none h⟩
theorem Sat.kept {h0 h : Heap} {L : List Res} (O : Sat h0 h L) : KeptH h0 h := by obtain ⟨E, _, O⟩ := O; exact O.kept
theorem Sat.mono {h0 h : Heap} {A B : Res} {L : List Res} (O : Sat h0 h (A :: L)) (i : ∀ E, A E → B E) : Sat h0 h (B :: L) := by
  obtain ⟨E, ⟨E1, E2, p, h1, h2⟩, O⟩ := O
  exact ⟨E, ⟨E1, E2, p, i _ h1, h2⟩, O⟩
theorem Sat.ex {h0 h : Heap} {α : Sort _} {A : α → Res} {L : List Res} (O : Sat h0 h (V.ex A :: L)) : ∃ x, Sat h0 h (A x :: L) := by
  obtain ⟨E, ⟨E1, E2, p, ⟨x, h1⟩, h2⟩, O⟩ := O
  exact ⟨x, E, ⟨E1, E2, p, h1, h2⟩, O⟩
theorem Sat.exI {h0 h : Heap} {α : Sort _} {A : α → Res} {L : List Res} (x : α) (O : Sat h0 h (A x :: L)) : Sat h0 h (V.ex A :: L) := O.mono fun E h => ⟨x, h⟩
theorem perm_cons_app {E E1 E2 F1 F2 : Blks} (p : E.Perm (E1 ++ E2)) (q : E2.Perm (F1 ++ F2)) : E.Perm (F1 ++ (E1 ++ F2)) :=
  p.trans ((List.Perm.append_left _ q).trans (by
    rw [← List.append_assoc, ← List.append_assoc]
    exact List.perm_append_comm.append_right _))
theorem Sat.sep {h0 h : Heap} {A B : Res} {L : List Res} (O : Sat h0 h (V.sep A B :: L)) : Sat h0 h (A :: B :: L) := by
  obtain ⟨E, ⟨E1, E2, p, ⟨F1, F2, q, hA, hB⟩, h2⟩, O⟩ := O
  exact ⟨E, ⟨F1, F2 ++ E2, p.trans ((q.append_right _).trans (by rw [List.append_assoc])), hA, F2, E2, List.Perm.refl _, hB, h2⟩, O⟩
theorem Sat.sepI {h0 h : Heap} {A B : Res} {L : List Res} (O : Sat h0 h (A :: B :: L)) : Sat h0 h (V.sep A B :: L) := by
  obtain ⟨E, ⟨E1, E2, p, hA, F1, F2, q, hB, h2⟩, O⟩ := O
  exact ⟨E, ⟨E1 ++ F1, F2, p.trans ((q.append_left _).trans (by rw [List.append_assoc])), ⟨E1, F1, List.Perm.refl _, hA, hB⟩, h2⟩, O⟩
theorem Sat.emp {h0 h : Heap} {L : List Res} (O : Sat h0 h (V.emp :: L)) : Sat h0 h L := by
  obtain ⟨E, ⟨E1, E2, p, rfl, h2⟩, O⟩ := O
  exact ⟨E2, h2, O.perm p.symm⟩
theorem Sat.empI {h0 h : Heap} {L : List Res} (O : Sat h0 h L) : Sat h0 h (V.emp :: L) := by
  obtain ⟨E, h2, O⟩ := O
  exact ⟨E, ⟨[], E, List.Perm.refl _, rfl, h2⟩, O⟩
theorem Sat.drop {h0 h : Heap} {A : Res} {L : List Res} (O : Sat h0 h (A :: L)) : Sat h0 h L := by
  obtain ⟨E, ⟨E1, E2, p, _, h2⟩, O⟩ := O
  exact ⟨E2, h2, (O.perm p.symm).sub (List.sublist_append_right _ _)⟩
theorem Sat.swap {h0 h : Heap} {A B : Res} {L : List Res} (O : Sat h0 h (A :: B :: L)) : Sat h0 h (B :: A :: L) := by
  obtain ⟨E, ⟨E1, E2, p, hA, F1, F2, q, hB, h2⟩, O⟩ := O
  exact ⟨E, ⟨F1, E1 ++ F2, perm_cons_app p q, hB, E1, F2, List.Perm.refl _, hA, h2⟩, O⟩

def nth : Nat → List Res → Res
  | 0, A :: _ => A
  | i + 1, _ :: L => nth i L
  | _, [] => emp
theorem star_at : ∀ (i : Nat) {L : List Res} {E : Blks}, i < L.length → star L E → ∃ E1 E2, E.Perm (E1 ++ E2) ∧ nth i L E1 ∧ ∀ (B : Res) F, B F → star (L.set i B) (F ++ E2)
  | _, [], _, hi, _ => by simp at hi
  | 0, A :: L, E, _, ⟨E1, E2, p, hA, h2⟩ => ⟨E1, E2, p, hA, fun B F hB => ⟨F, E2, List.Perm.refl _, hB, h2⟩⟩
  | i + 1, A :: L, E, hi, ⟨E1, E2, p, hA, h2⟩ => by
    obtain ⟨F1, F2, q, h3, h4⟩ := star_at i (L := L) (by simpa using hi) h2
    refine ⟨F1, E1 ++ F2, perm_cons_app p q, h3, fun B F hB => ⟨E1, F ++ F2, ?_, hA, h4 B F hB⟩⟩
    rw [← List.append_assoc, ← List.append_assoc]
    exact List.perm_append_comm.append_right _
theorem Sat.at {h0 h : Heap} {L : List Res} (O : Sat h0 h L) (i : Nat) (hi : i < L.length) : ∃ E1 E2, nth i L E1 ∧ Held h0 h (E1 ++ E2) ∧ ∀ (B : Res) F h', B F → Held h0 h' (F ++ E2) → Sat h0 h' (L.set i B) := by
  obtain ⟨E, hs, O⟩ := O
  obtain ⟨E1, E2, p, h1, h2⟩ := star_at i hi hs
  exact ⟨E1, E2, h1, O.perm p.symm, fun B F h' hB O' => ⟨F ++ E2, h2 B F hB, O'⟩⟩
def selT (is : List Nat) (n : Nat) (L : List Res) : List Res := is.map (nth · L) ++ L.drop n
theorem star_pairs : ∀ {L : List Res} {E : Blks}, star L E ↔ ∃ Ps : List (Res × Blks), Ps.map (·.1) = L ∧ (∀ p ∈ Ps, p.1 p.2) ∧ E.Perm (Ps.flatMap (·.2))
  | [], E => by
    constructor
    · intro h; exact ⟨[], rfl, by simp, by rw [show E = [] from h]; exact List.Perm.refl _⟩
    · rintro ⟨Ps, h1, h2, h3⟩
      simp at h1; subst h1; simp at h3; exact h3
  | A :: L, E => by
    constructor
    · rintro ⟨E1, E2, p, hA, h2⟩
      obtain ⟨Ps, h3, h4, h5⟩ := star_pairs.1 h2
      refine ⟨(A, E1) :: Ps, by simp [h3], ?_, ?_⟩
      · intro q hq; rcases List.mem_cons.1 hq with rfl | hq; exact hA; exact h4 q hq
      · rw [List.flatMap_cons]; exact p.trans (h5.append_left _)
    · rintro ⟨Ps, h1, h2, h3⟩
      cases Ps with
      | nil => simp at h1
      | cons q Ps =>
        simp only [List.map_cons, List.cons.injEq] at h1
        obtain ⟨rfl, rfl⟩ := h1
        rw [List.flatMap_cons] at h3
        exact ⟨q.2, _, h3, h2 q List.mem_cons_self, star_pairs.2 ⟨Ps, rfl, fun p hp => h2 p (List.mem_cons_of_mem _ hp), List.Perm.refl _⟩⟩
theorem sel_aux {α : Type _} : ∀ (is : List Nat) (Ps : List α), is.Nodup → (∀ i ∈ is, i < Ps.length) → ∃ R, (is.filterMap (fun i => Ps.zipIdx[i]?) ++ R).Perm Ps.zipIdx
  | [], Ps, _, _ => ⟨Ps.zipIdx, by simp⟩
  | i :: is, Ps, hn, hi => by
    rw [List.nodup_cons] at hn
    obtain ⟨R, p⟩ := sel_aux is Ps hn.2 fun j hj => hi j (List.mem_cons_of_mem _ hj)
    have hil := hi i List.mem_cons_self
    have hq : Ps.zipIdx[i]? = some (Ps[i], i) := by simp [hil]
    have hm : (Ps[i], i) ∈ Ps.zipIdx := List.mem_of_getElem? hq
    rcases List.mem_append.1 (p.symm.subset hm) with h | h
    · obtain ⟨j, hj, e⟩ := List.mem_filterMap.1 h
      have hjl := hi j (List.mem_cons_of_mem _ hj)
      simp [hjl] at e
      rw [e.2] at hj
      exact absurd hj hn.1
    · obtain ⟨s, t, rfl⟩ := List.append_of_mem h
      refine ⟨s ++ t, ?_⟩
      rw [List.filterMap_cons, hq]
      refine List.Perm.trans ?_ p
      simp only [List.cons_append]
      rw [← List.append_assoc, ← List.append_assoc]
      exact List.perm_middle.symm
theorem nth_map : ∀ (Ps : List (Res × Blks)) (i : Nat) (hi : i < Ps.length), nth i (Ps.map (·.1)) = (Ps[i]).1
  | [], i, hi => by simp at hi
  | p :: Ps, 0, hi => rfl
  | p :: Ps, i + 1, hi => nth_map Ps i (by simpa using hi)
theorem filterMap_idx {α : Type _} (Ps : List α) (is : List Nat) (hi : ∀ i ∈ is, i < Ps.length) : (is.filterMap (fun i => Ps.zipIdx[i]?)).map (·.1) = is.filterMap (fun i => Ps[i]?) := by
  rw [List.map_filterMap]
  congr 1
  funext i
  simp [Function.comp_def]
theorem filterMap_nth (Ps : List (Res × Blks)) : ∀ (is : List Nat), (∀ i ∈ is, i < Ps.length) → (is.filterMap (fun i => Ps[i]?)).map (·.1) = is.map (nth · (Ps.map (·.1)))
  | [], _ => rfl
  | i :: is, hi => by
    have hil := hi i List.mem_cons_self
    simp only [List.filterMap_cons, List.getElem?_eq_getElem hil, List.map_cons, nth_map Ps i hil]
    congr 1
    exact filterMap_nth Ps is fun j hj => hi j (List.mem_cons_of_mem _ hj)
theorem filterMap_range' {α : Type _} : ∀ (k n : Nat) (Ps : List α), n + k = Ps.length → (List.range' n k).filterMap (fun i => Ps[i]?) = Ps.drop n
  | 0, n, Ps, h => by simp; omega
  | k + 1, n, Ps, h => by
    rw [List.range'_succ, List.filterMap_cons, List.getElem?_eq_getElem (by omega)]
    simp only
    rw [filterMap_range' k (n + 1) Ps (by omega), List.drop_eq_getElem_cons (i := n) (by omega)]
def okSel (is : List Nat) (n : Nat) : Bool := decide is.Nodup && is.all (fun i => decide (i < n))
theorem Sat.sel {h0 h : Heap} {L : List Res} (O : Sat h0 h L) (is : List Nat) (n : Nat) (c : okSel is n = true) (hl : n ≤ L.length) : Sat h0 h (selT is n L) := by
  obtain ⟨E, hs, O⟩ := O
  obtain ⟨Ps, rfl, h1, h2⟩ := star_pairs.1 hs
  simp only [okSel, Bool.and_eq_true, decide_eq_true_eq, List.all_eq_true] at c
  rw [List.length_map] at hl
  have hb : ∀ i ∈ is ++ List.range' n (Ps.length - n), i < Ps.length := by
    intro i hi
    rcases List.mem_append.1 hi with hi | hi
    · have := c.2 i hi; omega
    · have := List.mem_range'_1.1 hi; omega
  obtain ⟨R, p⟩ := sel_aux (is ++ List.range' n (Ps.length - n)) Ps (List.nodup_append.2 ⟨c.1, List.nodup_range', fun i hi j hj => by
    have := c.2 i hi
    have := List.mem_range'_1.1 hj
    omega⟩) hb
  have p1 := p.map (·.1)
  rw [List.map_append, filterMap_idx Ps _ hb, List.filterMap_append, filterMap_range' _ _ _ (by omega), show Ps.zipIdx.map (·.1) = Ps by simp] at p1
  have p2 := p1.flatMap_right (·.2)
  rw [List.flatMap_append] at p2
  have hsel : ∀ q ∈ is.filterMap (fun i => Ps[i]?) ++ Ps.drop n, q ∈ Ps := fun q hq => p1.subset (List.mem_append.2 (.inl hq))
  refine ⟨_, star_pairs.2 ⟨is.filterMap (fun i => Ps[i]?) ++ Ps.drop n, ?_, fun q hq => h1 q (hsel q hq), List.Perm.refl _⟩, (O.perm (p2.trans h2.symm)).sub (List.sublist_append_left _ _)⟩
  rw [List.map_append, filterMap_nth Ps is fun i hi => hb i (List.mem_append.2 (.inl hi)), selT, List.map_drop]
theorem Sat.stack {h0 h h' : Heap} {L M : List Res} (O : Sat h0 h L) (N : Sat h h' M) : Sat h0 h' (M ++ L) := by
  obtain ⟨E, hs, O⟩ := O
  obtain ⟨F, ht, N⟩ := N
  obtain ⟨Ps, rfl, h1, h2⟩ := star_pairs.1 hs
  obtain ⟨Qs, rfl, h3, h4⟩ := star_pairs.1 ht
  refine ⟨F ++ E, star_pairs.2 ⟨Qs ++ Ps, by simp, ?_, ?_⟩, O.kept.trans N.kept, ?_, ?_⟩
  · intro p hp; rcases List.mem_append.1 hp with hp | hp; exact h3 p hp; exact h1 p hp
  · rw [List.flatMap_append]; exact h4.append h2
  · intro p hp
    rcases List.mem_append.1 hp with hp | hp
    · obtain ⟨a, b⟩ := N.blk p hp
      exact ⟨Nat.le_trans O.kept.size a, b⟩
    · obtain ⟨a, b⟩ := O.blk p hp
      refine ⟨a, ?_⟩
      have hlt := b.lt
      exact b.same (N.kept.at_ _ hlt)
  · rw [List.map_append, List.nodup_append]
    refine ⟨N.dis, O.dis, ?_⟩
    intro a ha b hb
    obtain ⟨p, hp, rfl⟩ := List.mem_map.1 ha
    obtain ⟨q, hq, rfl⟩ := List.mem_map.1 hb
    have := (N.blk p hp).1
    have := (O.blk q hq).2.lt
    omega
theorem Sat.kept2 {h0 h h' : Heap} {L : List Res} (O : Sat h0 h L) (k : KeptH h h') : Sat h0 h' L := by
  have := O.stack (M := []) (h' := h') ⟨[], rfl, ⟨k, by simp, by simp⟩⟩
  exact this
theorem Sat.app {h0 h : Heap} {L M : List Res} (O : Sat h0 h (L ++ M)) : Sat h0 h M := by
  induction L with
  | nil => exact O
  | cons A L ih => exact ih O.drop

theorem Sat.push {h0 h : Heap} {L : List Res} (O : Sat h0 h L) (cs : List Value) (T : TypeId) (f : Nat × Nat) (hf : f.1 = f.2 ∨ cs.length ≤ f.1) : Sat h0 (h.push (.cells cs.toArray T f)) (own h.size cs :: L) := by
  obtain ⟨E, hs, O⟩ := O
  exact ⟨_, ⟨[(h.size, .inl cs)], E, List.Perm.refl _, rfl, hs⟩, O.push cs T f hf⟩
theorem Sat.al {h0 h : Heap} {L : List Res} {T : TypeId} {cs : List Value} {K : Addr → Heap → Prop} (O : Sat h0 h L) (k : ∀ b h', Sat h0 h' (own b cs :: L) → K (pt b 0) h') : al T cs h K :=
  k h.size _ (O.push cs T (0, 0) (.inl rfl))
theorem Sat.blk {h0 h : Heap} {L : List Res} (O : Sat h0 h L) {i b : Nat} {cs : List Value} (hl : i < L.length) (hi : nth i L = own b cs) : h0.size ≤ b ∧ Blk h b cs := by
  obtain ⟨E1, E2, h1, O', _⟩ := O.at i hl
  rw [hi] at h1
  rw [show E1 = [(b, .inl cs)] from h1] at O'
  exact O'.blk _ List.mem_cons_self
theorem Blk.ld {h : Heap} {b o : Nat} {cs : List Value} (B : Blk h b cs) {ks : List Kd} {K : Fn ks Prop} (hl : ldL ks (cs.drop o) K) : ld ks (pt b o) h K := by
  have := cellsAre_blk B o (cs.drop o).length
  rw [List.take_length] at this
  exact ld_are this hl
theorem nth_lt : ∀ {i : Nat} {L : List Res} {b : Nat} {cs : List Value}, nth i L = own b cs → i < L.length
  | 0, _ :: _, _, _, _ => by simp
  | i + 1, _ :: L, _, _, h => by have := nth_lt (i := i) (L := L) h; simpa using this
  | 0, [], b, cs, h => by
    have := congrFun h []
    simp [nth, emp, own] at this
  | i + 1, [], b, cs, h => by
    have := congrFun h []
    simp [nth, emp, own] at this
theorem Sat.ld {h0 h : Heap} {L : List Res} (O : Sat h0 h L) (i : Nat) {b o : Nat} {cs : List Value} {ks : List Kd} {K : Fn ks Prop} (hi : nth i L = own b cs) (hl : ldL ks (cs.drop o) K) : ld ks (pt b o) h K :=
  (O.blk (nth_lt hi) hi).2.ld hl
theorem Sat.st {h0 h : Heap} {L : List Res} (O : Sat h0 h L) (i : Nat) {b o : Nat} {cs vs : List Value} {K : Heap → Prop} (hi : nth i L = own b cs) (ho : o + vs.length ≤ cs.length) (hv : vs.all oneV = true)
    (k : ∀ h', Sat h0 h' (L.set i (own b (V.put cs o vs))) → K h') : st (pt b o) vs h K := by
  obtain ⟨E1, E2, h1, O', h2⟩ := O.at i (nth_lt hi)
  rw [hi] at h1
  rw [show E1 = [(b, .inl cs)] from h1] at O'
  exact Held.st O' ho hv fun h' O'' => k h' (h2 _ [(b, .inl (V.put cs o vs))] h' rfl O'')
theorem Sat.frz {h0 h : Heap} {L : List Res} {b o : Nat} {cs : List Value} {K : Heap → Prop} (O : Sat h0 h (own b cs :: L)) (k : ∀ h', Sat h0 h' (own b cs :: L) → K h') : V.frz (some (pt b o)) h K := by
  obtain ⟨E, ⟨E1, E2, p, hA, h2⟩, O⟩ := O
  have hA' : E1 = [(b, .inl cs)] := hA
  subst hA'
  obtain ⟨⟨T, f, e⟩, O'⟩ := (O.perm p.symm).mark
  refine ⟨_, _, T, f, rfl, e, ?_⟩
  rw [show cs.toArray.size = cs.length by simp]
  exact k _ ⟨_, ⟨[(b, .inl cs)], E2, List.Perm.refl _, rfl, h2⟩, O'⟩
end Go.Proofs.YthiginhigfieiaaGreatDoor.V
/-
  LISTS IN MEMORY: lists that can be read ('View'), slices that are a part's own ('bufs', 'buf'); making, appending, copying, slicing.
-/
namespace Go.Proofs.YthiginhigfieiaaGreatDoor.V
open Go Go.RowKit
set_option linter.unusedVariables false
set_option linter.unusedSimpArgs false

variable {α β : Type}
def View (h : Heap) (sz : Nat) (R : α → List Value → Prop) (s : Sl) (xs : List α) : Prop :=
  s.len = xs.length ∧ ∀ i x, xs[i]? = some x → ∃ a cs, s.ptr = some a ∧ cs.length = sz ∧ R x cs ∧ cellsAre h (a.add (i * sz)) cs
abbrev En (enc : α → List Value) : α → List Value → Prop := fun x cs => cs = enc x
def u8 (x : UInt8) : List Value := [.int .u8 (x.toNat : Int)]
abbrev Bytes (h : Heap) (s : Sl) (l : List UInt8) : Prop := View h 1 (En u8) s l
theorem View.mono {h h' : Heap} {sz : Nat} {R R' : α → List Value → Prop} {s : Sl} {xs : List α} (V : View h sz R s xs) (k : KeptH h h') (hR : ∀ x ∈ xs, ∀ cs, R x cs → R' x cs) : View h' sz R' s xs := by
  refine ⟨V.1, fun i x hx => ?_⟩
  obtain ⟨a, cs, h1, h2, h3, h4⟩ := V.2 i x hx
  exact ⟨a, cs, h1, h2, hR x (List.mem_of_getElem? hx) cs h3, cellsAre_kept k h4⟩
theorem View.kept {h h' : Heap} {sz : Nat} {R : α → List Value → Prop} {s : Sl} {xs : List α} (V : View h sz R s xs) (k : KeptH h h') : View h' sz R s xs := V.mono k fun _ _ _ h => h
theorem View.nil {h : Heap} {sz : Nat} {R : α → List Value → Prop} {p : Option Addr} {c : Nat} : View h sz R ⟨p, 0, c⟩ ([] : List α) := ⟨rfl, by simp⟩
theorem View.len {h : Heap} {sz : Nat} {R : α → List Value → Prop} {s : Sl} {xs : List α} (V : View h sz R s xs) : s.len = xs.length := V.1
theorem cellsAre_drop {h : Heap} : ∀ {cs : List Value} {a : Addr} (o : Nat), cellsAre h a cs → cellsAre h (a.add o) (cs.drop o)
  | cs, a, 0, hc => by rw [Addr.add_zero']; simpa using hc
  | [], a, o + 1, hc => by simp [cellsAre]
  | v :: vs, a, o + 1, hc => by
    have := cellsAre_drop (a := a.add 1) o hc.2
    rwa [Addr_add_add, Nat.add_comm] at this
theorem ld_drop {h : Heap} {cs : List Value} {a : Addr} {ks : List Kd} {K : Fn ks Prop} (c : cellsAre h a cs) (o : Nat) (hl : ldL ks (cs.drop o) K) : ld ks (a.add o) h K := ld_are (cellsAre_drop o c) hl
theorem View.ix {h : Heap} {sz : Nat} {R : α → List Value → Prop} {s : Sl} {xs : List α} {i : Int} {K : Addr → Prop} (V : View h sz R s xs) (h0 : 0 ≤ i) (h1 : i < (xs.length : Int))
    (k : ∀ a cs x, xs[i.toNat]? = some x → cs.length = sz → R x cs → cellsAre h a cs → K a) : ixS sz s i K := by
  have hi : i.toNat < xs.length := by omega
  obtain ⟨a, cs, h2, h3, h4, h5⟩ := V.2 i.toNat _ (List.getElem?_eq_getElem hi)
  refine ⟨a, h2, h0, by rw [V.1]; exact h1, ?_⟩
  exact k _ cs _ (List.getElem?_eq_getElem hi) h3 h4 h5
theorem Bytes.at {h : Heap} {s : Sl} {l : List UInt8} {i : Int} {K : Int → Prop} (V : Bytes h s l) (h0 : 0 ≤ i) (h1 : i < (l.length : Int)) (k : ∀ x, l[i.toNat]? = some x → K (x.toNat : Int)) : ixS 1 s i fun a => ld [.int .u8] a h K :=
  V.ix h0 h1 fun a cs x hx hl hR hc => by
    subst hR
    exact ld_are hc ⟨_, rfl, k x hx⟩
theorem View.cells {h : Heap} {sz : Nat} {R : α → List Value → Prop} {s : Sl} : ∀ {xs : List α} {o : Nat}, (∀ (i : Nat) x, xs[i]? = some x → ∃ a cs, s.ptr = some a ∧ cs.length = sz ∧ R x cs ∧ cellsAre h (a.add ((o + i) * sz)) cs) →
    ∀ a, s.ptr = some a → ∃ css : List (List Value), css.length = xs.length ∧ (∀ (i : Nat) x cs, xs[i]? = some x → css[i]? = some cs → cs.length = sz ∧ R x cs) ∧ cellsAre h (a.add (o * sz)) css.flatten
  | [], o, _, a, _ => ⟨[], rfl, by simp, trivial⟩
  | x :: xs, o, V, a, ha => by
    obtain ⟨a', cs, h1, h2, h3, h4⟩ := V 0 x rfl
    rw [ha] at h1; simp at h1; subst h1
    obtain ⟨css, h5, h6, h7⟩ := View.cells (h := h) (R := R) (s := s) (sz := sz) (xs := xs) (o := o + 1) (fun i y hy => by
      obtain ⟨a', cs, h1, h2, h3, h4⟩ := V (i + 1) y (by simpa using hy)
      exact ⟨a', cs, h1, h2, h3, by rw [show o + 1 + i = o + (i + 1) by omega]; exact h4⟩) a ha
    refine ⟨cs :: css, by simp [h5], ?_, ?_⟩
    · intro i y ds hy hd
      cases i with
      | zero => simp at hy hd; subst hy; subst hd; exact ⟨h2, h3⟩
      | succ i => exact h6 i y ds (by simpa using hy) (by simpa using hd)
    · rw [List.flatten_cons]
      refine cellsAre_append (by simpa using h4) ?_
      rw [Addr_add_add, h2, show o * sz + sz = (o + 1) * sz by rw [Nat.add_mul, Nat.one_mul]]
      exact h7
theorem flatten_enc {enc : α → List Value} : ∀ {xs : List α} {css : List (List Value)}, css.length = xs.length → (∀ (i : Nat) x cs, xs[i]? = some x → css[i]? = some cs → cs = enc x) → css.flatten = xs.flatMap enc
  | [], [], _, _ => rfl
  | [], _ :: _, h, _ => by simp at h
  | _ :: _, [], h, _ => by simp at h
  | x :: xs, c :: css, h, k => by
    rw [List.flatten_cons, List.flatMap_cons, k 0 x c rfl rfl, flatten_enc (by simpa using h) fun i y cs hy hc => k (i + 1) y cs (by simpa using hy) (by simpa using hc)]
theorem flatMap_len {enc : α → List Value} {sz : Nat} (he : ∀ x, (enc x).length = sz) : ∀ xs : List α, (xs.flatMap enc).length = xs.length * sz
  | [] => by simp
  | x :: xs => by rw [List.flatMap_cons, List.length_append, he, flatMap_len he xs, List.length_cons, Nat.add_mul, Nat.one_mul, Nat.add_comm]
theorem View.rd {h : Heap} {sz : Nat} {enc : α → List Value} {s : Sl} {xs : List α} (he : ∀ x, (enc x).length = sz) (V : View h sz (En enc) s xs) : rdP h s.ptr (s.len * sz) = some (xs.flatMap enc) := by
  rw [V.1, ← flatMap_len he]
  cases xs with
  | nil =>
    cases hp : s.ptr with
    | none => rfl
    | some a => rfl
  | cons x xs =>
    obtain ⟨a, cs, h1, _⟩ := V.2 0 x rfl
    obtain ⟨css, h2, h3, h4⟩ := View.cells (h := h) (R := En enc) (s := s) (sz := sz) (xs := x :: xs) (o := 0) (fun i y hy => by
      obtain ⟨a, cs, k1, k2, k3, k4⟩ := V.2 i y hy
      exact ⟨a, cs, k1, k2, k3, by rw [Nat.zero_add]; exact k4⟩) a h1
    rw [h1]
    have e := flatten_enc (enc := enc) h2 fun i y cs hy hc => (h3 i y cs hy hc).2
    rw [e, Nat.zero_mul, Addr.add_zero'] at h4
    exact rdL_are h4
theorem rdL_take {h : Heap} : ∀ {cs : List Value} {a : Addr} (n : Nat), n ≤ cs.length → cellsAre h a cs → rdL h a n = some (cs.take n)
  | cs, a, n, hn, hc => by
    have := rdL_are (cellsAre_take n hc)
    rwa [List.length_take, Nat.min_eq_left hn] at this
theorem View.slice {h : Heap} {sz : Nat} {R : α → List Value → Prop} {s : Sl} {xs : List α} (V : View h sz R s xs) (i j m : Nat) (hi : i ≤ j) (hj : j ≤ xs.length) (hc : s.len ≤ s.cap) : View h sz R ⟨slp sz s i, j - i, m⟩ ((xs.drop i).take (j - i)) := by
  refine ⟨by simp; omega, fun k x hx => ?_⟩
  rw [List.getElem?_take] at hx
  split at hx
  · rename_i hk
    rw [List.getElem?_drop] at hx
    obtain ⟨a, cs, h1, h2, h3, h4⟩ := V.2 (i + k) x hx
    have hl := V.1
    refine ⟨a.add (i * sz), cs, ?_, h2, h3, ?_⟩
    · unfold slp
      rw [if_neg (by omega), h1]; rfl
    · rw [Addr_add_add, ← Nat.add_mul]; exact h4
  · simp at hx
theorem View.take {h : Heap} {sz : Nat} {R : α → List Value → Prop} {s : Sl} {xs : List α} (V : View h sz R s xs) (j m : Nat) (hj : j ≤ xs.length) : View h sz R ⟨s.ptr, j, m⟩ (xs.take j) := by
  refine ⟨by simp [hj], fun k x hx => ?_⟩
  rw [List.getElem?_take] at hx
  split at hx
  · exact V.2 k x hx
  · simp at hx

def bufs (sz : Nat) (enc : α → List Value) (s : Sl) (xs : List α) (sp : List Value) : Res := fun E =>
  (s = ⟨none, 0, 0⟩ ∧ xs = [] ∧ sp = [] ∧ E = []) ∨ ∃ b k, s = ⟨some (pt b 0), xs.length, xs.length + k⟩ ∧ sp.length = k * sz ∧ E = [(b, .inl (xs.flatMap enc ++ sp))]
def buf (sz : Nat) (enc : α → List Value) (s : Sl) (xs : List α) : Res := ex fun sp => bufs sz enc s xs sp
theorem bufs.lens {sz : Nat} {enc : α → List Value} {s : Sl} {xs : List α} {sp : List Value} {E : Blks} (h : bufs sz enc s xs sp E) : s.len = xs.length ∧ s.len ≤ s.cap := by
  rcases h with ⟨rfl, rfl, _, _⟩ | ⟨b, k, rfl, _, _⟩ <;> simp
theorem flat_at {enc : α → List Value} {sz : Nat} (he : ∀ x, (enc x).length = sz) : ∀ {xs : List α} {i : Nat} {x : α} (sp : List Value), xs[i]? = some x → ((xs.flatMap enc ++ sp).drop (i * sz)).take sz = enc x
  | [], i, x, _, h => by simp at h
  | y :: ys, 0, x, sp, h => by
    simp at h; subst h
    rw [List.flatMap_cons, Nat.zero_mul, List.drop_zero, List.append_assoc, List.take_append_of_le_length (by rw [he]; exact Nat.le_refl _), List.take_of_length_le (by rw [he]; exact Nat.le_refl _)]
  | y :: ys, i + 1, x, sp, h => by
    have := flat_at he (xs := ys) (i := i) (x := x) sp (by simpa using h)
    rw [List.flatMap_cons, List.append_assoc, List.drop_append, List.drop_of_length_le (by rw [he, Nat.add_mul]; omega), he, List.nil_append, show (i + 1) * sz - sz = i * sz by rw [Nat.add_mul]; omega]
    exact this
theorem nth_set : ∀ {i : Nat} {L : List Res} (B : Res), i < L.length → nth i (L.set i B) = B
  | 0, _ :: _, _, _ => rfl
  | i + 1, _ :: L, B, h => nth_set (i := i) (L := L) B (by simpa using h)
  | _, [], _, h => by simp at h
theorem view_of_blk {h : Heap} {b k sz : Nat} {enc : α → List Value} (he : ∀ x, (enc x).length = sz) {xs : List α} {sp : List Value} (B : Blk h b (xs.flatMap enc ++ sp)) : View h sz (En enc) ⟨some (pt b 0), xs.length, k⟩ xs := by
  refine ⟨rfl, fun i x hx => ⟨_, _, rfl, he x, rfl, ?_⟩⟩
  rw [pt_add, Nat.zero_add, ← flat_at he sp hx]
  exact cellsAre_blk B _ _
theorem Sat.views {h0 h : Heap} {L : List Res} (O : Sat h0 h L) (i : Nat) {sz : Nat} {enc : α → List Value} {s : Sl} {xs : List α} {sp : List Value} (he : ∀ x, (enc x).length = sz) (hl : i < L.length) (hi : nth i L = bufs sz enc s xs sp) : View h sz (En enc) s xs ∧ s.len ≤ s.cap := by
  obtain ⟨E1, E2, h1, O', _⟩ := O.at i hl
  rw [hi] at h1
  refine ⟨?_, (bufs.lens h1).2⟩
  rcases h1 with ⟨rfl, rfl, rfl, rfl⟩ | ⟨b, k, rfl, hsp, rfl⟩
  · exact View.nil
  · exact view_of_blk he (O'.blk _ (List.mem_cons_self)).2
theorem Sat.view {h0 h : Heap} {L : List Res} (O : Sat h0 h L) (i : Nat) {sz : Nat} {enc : α → List Value} {s : Sl} {xs : List α} (he : ∀ x, (enc x).length = sz) (hl : i < L.length) (hi : nth i L = buf sz enc s xs) : View h sz (En enc) s xs ∧ s.len ≤ s.cap := by
  obtain ⟨E1, E2, h1, O', h2⟩ := O.at i hl
  rw [hi] at h1
  obtain ⟨sp, h1⟩ := h1
  have O2 := h2 (bufs sz enc s xs sp) E1 h h1 O'
  exact O2.views (sp := sp) i he (by simpa using hl) (nth_set _ hl)
def Stays (h0 : Heap) (L : List Res) (p : Heap → Prop) : Prop := ∀ h, Sat h0 h L → p h
theorem rdP_own {h0 h : Heap} {L : List Res} (O : Sat h0 h L) (i : Nat) {b : Nat} {cs : List Value} (hi : nth i L = own b cs) (n : Nat) (hn : n ≤ cs.length) : rdP h (some (pt b 0)) n = some (cs.take n) := by
  have := cellsAre_blk (O.blk (nth_lt hi) hi).2 0 cs.length
  rw [List.drop_zero, List.take_length] at this
  exact rdL_take n hn this
theorem put_app : ∀ (us ss ns : List Value) , ns.length ≤ ss.length → V.put (us ++ ss) us.length ns = us ++ ns ++ ss.drop ns.length := by
  intro us ss ns h
  have := put_mid us (ss.take ns.length) (ss.drop ns.length) ns (by simp [h])
  rw [List.append_assoc, List.take_append_drop] at this
  exact this
theorem Sat.app_buf {h0 h : Heap} {L : List Res} {sz bts T : Nat} {enc : α → List Value} {s : Sl} {xs : List α} {z : Value} {src : Option Addr} {m : Nat} {K : Sl → Heap → Prop} (O : Sat h0 h (buf sz enc s xs :: L))
    (he : ∀ x, (enc x).length = sz) (ho : ∀ x, (enc x).all oneV = true) (hz : z.cells.size = sz) {ys : List α} (hm : m = ys.length) (hr : rdP h src (m * sz) = some (ys.flatMap enc)) (hb : (xs.length + ys.length) * bts ≤ 140737488355328)
    (k : ∀ s' h', Sat h0 h' (buf sz enc s' (xs ++ ys) :: L) → s'.len = xs.length + ys.length → K s' h') : V.app T sz bts z s src m h K := by
  obtain ⟨sp, O⟩ := O.ex
  obtain ⟨E, ⟨E1, E2, p, hA, h2⟩, O⟩ := O
  have O := O.perm p.symm
  subst hm
  have hall : (ys.flatMap enc).all oneV = true := by simp only [List.all_eq_true, List.mem_flatMap]; rintro v ⟨x, _, hv⟩; exact List.all_eq_true.1 (ho x) v hv
  have hly : (ys.flatMap enc).length = ys.length * sz := flatMap_len he ys
  have hlx : (xs.flatMap enc).length = xs.length * sz := flatMap_len he xs
  have fresh : ∀ c, xs.length + ys.length ≤ c → Sat h0 (h.push (.cells (xs.flatMap enc ++ ys.flatMap enc ++ (Builtin.zeroCells z.cells (c - (xs.length + ys.length))).toList).toArray T)) (buf sz enc ⟨some (pt h.size 0), xs.length + ys.length, c⟩ (xs ++ ys) :: L) := by
    intro c hc
    have O' := (O.sub (List.sublist_append_right E1 E2)).push (xs.flatMap enc ++ ys.flatMap enc ++ (Builtin.zeroCells z.cells (c - (xs.length + ys.length))).toList) T (0, 0) (.inl rfl)
    refine ⟨_, ⟨[(h.size, .inl ((xs ++ ys).flatMap enc ++ (Builtin.zeroCells z.cells (c - (xs.length + ys.length))).toList))], E2, List.Perm.refl _, ⟨(Builtin.zeroCells z.cells (c - (xs.length + ys.length))).toList, .inr ⟨h.size, c - (xs.length + ys.length), ?_, ?_, rfl⟩⟩, h2⟩, ?_⟩
    · simp; omega
    · simp [Builtin.zeroCells, hz]
    · rw [List.flatMap_append]; exact O'
  refine ⟨_, hr, fun hcap => ?_, fun hcap => ⟨growslice_fits (by exact hcap) (by
    rcases hA with ⟨rfl, rfl, rfl, rfl⟩ | ⟨b, j, rfl, hsp, rfl⟩ <;> simpa using hb), ?_⟩⟩
  · rcases hA with ⟨rfl, rfl, rfl, rfl⟩ | ⟨b, j, rfl, hsp, rfl⟩
    · simp at hcap
      subst hcap
      refine k _ _ ⟨E2, ⟨[], E2, List.Perm.refl _, ⟨[], .inl ⟨by simp, by simp, rfl, rfl⟩⟩, h2⟩, O⟩ (by simp)
    · simp only [Option.map_some, stP, pt_add, Nat.zero_add]
      simp only at hcap
      have hj : ys.length ≤ j := by omega
      have hmul : ys.length * sz ≤ j * sz := Nat.mul_le_mul_right _ hj
      refine Held.st O (by simp [hlx, hly, hsp]; omega) hall fun h' O' => ?_
      rw [← hlx, put_app _ _ _ (by rw [hly, hsp]; exact hmul)] at O'
      refine k _ _ ⟨_, ⟨[(b, .inl ((xs ++ ys).flatMap enc ++ sp.drop (ys.flatMap enc).length))], E2, List.Perm.refl _, ⟨sp.drop (ys.flatMap enc).length, .inr ⟨b, j - ys.length, ?_, ?_, rfl⟩⟩, h2⟩, ?_⟩ rfl
      · simp; omega
      · rw [List.length_drop, hly, hsp, Nat.sub_mul]
      · rw [List.flatMap_append]; exact O'
  · rcases hA with ⟨rfl, rfl, rfl, rfl⟩ | ⟨b, j, rfl, hsp, rfl⟩
    · refine ⟨[], rfl, fun c hc => ?_⟩
      have := fresh c (by simpa using hc)
      simp only [List.length_nil, Nat.zero_add, List.nil_append, List.flatMap_nil] at this hc ⊢
      exact k _ _ this (by simp)
    · refine ⟨xs.flatMap enc, ?_, fun c hc => ?_⟩
      · simp only
        have := cellsAre_blk (b := b) (cs := xs.flatMap enc ++ sp) (O.blk _ (List.mem_cons_self)).2 0 (xs.flatMap enc ++ sp).length
        rw [List.drop_zero, List.take_length] at this
        simp only [rdP]
        have h3 := rdL_take (xs.length * sz) (by simp [hlx]) this
        rw [← hlx, List.take_left] at h3
        rw [← hlx]; exact h3
      · exact k _ _ (fresh c hc) rfl
theorem Sat.push_buf {h0 h : Heap} {L : List Res} {sz bts T T' : Nat} {enc : α → List Value} {s : Sl} {xs : List α} {z : Value} {K : Sl → Heap → Prop} (O : Sat h0 h (buf sz enc s xs :: L)) (y : α) {cs : List Value} (hcs : cs = enc y)
    (he : ∀ x, (enc x).length = sz) (ho : ∀ x, (enc x).all oneV = true) (hz : z.cells.size = sz) (hb : (xs.length + 1) * bts ≤ 140737488355328)
    (k : ∀ s' h', Sat h0 h' (buf sz enc s' (xs ++ [y]) :: L) → s'.len = xs.length + 1 → K s' h') : V.al T' cs h fun a h1 => V.app T sz bts z s (some a) 1 h1 K := by
  subst hcs
  refine O.al fun b h1 O1 => ?_
  have hr := rdP_own O1 0 rfl sz (by rw [he]; exact Nat.le_refl _)
  refine Sat.app_buf (O1.swap) he ho hz (ys := [y]) rfl (by rw [Nat.one_mul, hr]; simp; rw [List.take_of_length_le (by rw [he]; exact Nat.le_refl _)]) hb fun s' h' O' hl => k s' h' ?_ hl
  exact O'.swap.drop
theorem mkCells_len {z : Value} {n : Nat} : (mkCells z n).length = n := by simp [mkCells]
theorem Sat.mk_buf {h0 h : Heap} {L : List Res} {T sz bts : Nat} {z : Value} {l c : Int} {K : Sl → Heap → Prop} (O : Sat h0 h L) (h1 : 0 ≤ l) (h2 : l ≤ c) (h3 : (bts : Int) * c ≤ 281474976710656)
    (k : ∀ b h', Sat h0 h' (own b (mkCells z (c.toNat * sz)) :: L) → K ⟨some (pt b 0), l.toNat, c.toNat⟩ h') : V.mk T sz bts z l c h K :=
  ⟨h1, h2, h3, k h.size _ (O.push _ T (0, 0) (.inl rfl))⟩
theorem Sat.own_buf {h0 h : Heap} {L : List Res} {b k sz : Nat} {enc : α → List Value} {xs : List α} {sp : List Value} (O : Sat h0 h (own b (xs.flatMap enc ++ sp) :: L)) (hsp : sp.length = k * sz) : Sat h0 h (bufs sz enc ⟨some (pt b 0), xs.length, xs.length + k⟩ xs sp :: L) :=
  O.mono fun E h => .inr ⟨b, k, rfl, hsp, h⟩
theorem Sat.bufsI {h0 h : Heap} {L : List Res} {sz : Nat} {enc : α → List Value} {s : Sl} {xs : List α} {sp : List Value} (O : Sat h0 h (bufs sz enc s xs sp :: L)) : Sat h0 h (buf sz enc s xs :: L) := O.exI sp
theorem Sat.nil_buf {h0 h : Heap} {L : List Res} {sz : Nat} {enc : α → List Value} (O : Sat h0 h L) : Sat h0 h (buf sz enc ⟨none, 0, 0⟩ [] :: L) := O.empI.mono fun E h => ⟨[], .inl ⟨rfl, rfl, rfl, h⟩⟩
end Go.Proofs.YthiginhigfieiaaGreatDoor.V
/-
  WHAT AN ARGUMENT IS: from the form's reading of an argument ('trod') to typed cells ('Fits'), with bounds on lengths.
-/
namespace Go.Proofs.YthiginhigfieiaaGreatDoor.V
open Go Go.RowKit
set_option linter.unusedVariables false
set_option linter.unusedSimpArgs false

def SlN (h : Heap) (N size bytes : Nat) (s : Sl) (E : List Value → Prop) : Prop :=
  (s.ptr = none ∧ s.len = 0 ∧ s.cap = 0) ∨
  ∃ a, s.ptr = some a ∧ s.len ≤ s.cap ∧ s.cap * bytes ≤ 140737488351232 ∧ s.cap ≤ N ∧ ∀ i, i < s.cap → ∃ cs, cs.length = size ∧ cellsAre h (a.add (i * size)) cs ∧ E cs
def RdN (P : Program) (h : Heap) (N : Nat) : Nat → TypeId → List Value → Prop
  | 0, _, _ => False
  | n + 1, t, cs => match P.underlying t with
    | some .bool => ∃ b, cs = [.bool b]
    | some (.int k) => ∃ x, cs = [.int k x] ∧ k.min ≤ x ∧ x ≤ k.max
    | some .string => ∃ s : ByteArray, cs = [.string s] ∧ s.size ≤ N
    | some (.slice e) => ∃ s : Sl, cs = [.slice s.ptr s.len s.cap] ∧ (0 < P.bytesOf e → SlN h N (P.cellsOf e) (P.bytesOf e) s fun cs => RdN P h N n e cs)
    | some (.struct fs) => cs.length = P.cellsOf t ∧ ∀ f ∈ fs.toList, RdN P h N n f.type ((cs.drop f.offset).take (P.cellsOf f.type))
    | some (.array m e) => cs.length = P.cellsOf t ∧ ∀ i, i < m → RdN P h N n e ((cs.drop (i * P.cellsOf e)).take (P.cellsOf e))
    | _ => True
section
variable {H : Type} {enc : TypeId × Value → H} {P : Program} {w : World}
structure Bound (P : Program) (N : Nat) (B : TypeId → DataW H → Prop) : Prop where
  str : ∀ t b, P.underlying t = some .string → B t (.lit (.string b)) → b.length ≤ N
  sl : ∀ t e xs ys, P.underlying t = some (.slice e) → B t (.slice xs ys) → (xs.length + ys.length) * P.bytesOf e ≤ 140737488351232 ∧ (0 < P.bytesOf e → xs.length + ys.length ≤ N) ∧ (∀ d ∈ xs, B e d) ∧ ∀ d ∈ ys, B e d
  st : ∀ t fs ds, P.underlying t = some (.struct fs) → B t (.agg ds) → ∀ (i : Nat) f d, fs.toList[i]? = some f → ds[i]? = some d → B f.type d
  ar : ∀ t m e ds, P.underlying t = some (.array m e) → B t (.agg ds) → ∀ d ∈ ds, B e d
theorem bound_said {P : Program} : Bound (H := H) P 140737488351232 fun t d => ∀ x ∈ d.weights P t, x ≤ reachBytes := by
  refine ⟨?_, ?_, ?_, ?_⟩
  · intro t b hu h
    have := h b.length (by simp [DataW.weights])
    simpa [reachBytes] using this
  · intro t e xs ys hu h
    simp only [DataW.weights, hu] at h
    have h1 := h _ (List.mem_cons_self)
    simp only [reachBytes] at h1
    refine ⟨h1, fun hb => ?_, weightsAll_mem (p := (· ≤ reachBytes)) (fun x hx => h x (List.mem_cons_of_mem _ (List.mem_append.2 (.inl hx)))), weightsAll_mem (p := (· ≤ reachBytes)) (fun x hx => h x (List.mem_cons_of_mem _ (List.mem_append.2 (.inr hx))))⟩
    exact Nat.le_trans (Nat.le_mul_of_pos_right _ hb) h1
  · intro t fs ds hu h i f d hf hd
    simp only [DataW.weights, hu] at h
    exact weightsEach_at (p := (· ≤ reachBytes)) (ts := fs.toList.map (·.type)) (ds := ds) h i f.type d (by simp [hf]) hd
  · intro t m e ds hu h d hd
    simp only [DataW.weights, hu] at h
    exact weightsAll_mem (p := (· ≤ reachBytes)) h d hd
theorem bulk_mem {d : DataW H} : ∀ {l : List (DataW H)}, d ∈ l → Rows.uptoBulk d ≤ Rows.uptoBulkAll l
  | [], h => by simp at h
  | x :: l, h => by
    simp only [Rows.uptoBulkAll]
    rcases List.mem_cons.1 h with rfl | h
    · omega
    · have := bulk_mem h; omega
theorem bulk_pos (d : DataW H) : 1 ≤ Rows.uptoBulk d := by
  cases d with
  | lit l => cases l <;> simp [Rows.uptoBulk]
  | nil => simp [Rows.uptoBulk]
  | ptr d => simp [Rows.uptoBulk]
  | slice elems spare => simp [Rows.uptoBulk]
  | agg parts => simp [Rows.uptoBulk]
  | iface t d => simp [Rows.uptoBulk]
  | map entries => simp [Rows.uptoBulk]
  | held h => simp [Rows.uptoBulk]
theorem bulk_len : ∀ (l : List (DataW H)), l.length ≤ Rows.uptoBulkAll l
  | [] => by simp [Rows.uptoBulkAll]
  | x :: l => by have := bulk_pos x; have := bulk_len l; simp only [Rows.uptoBulkAll, List.length_cons]; omega
theorem bound_upto {P : Program} {N : Nat} (hN : N ≤ 1048576) : Bound (H := H) P N fun t d => (∀ x ∈ d.weights P t, x ≤ reachBytes) ∧ Rows.uptoBulk d ≤ N := by
  have s := bound_said (H := H) (P := P)
  refine ⟨?_, ?_, ?_, ?_⟩
  · intro t b hu h
    have := h.2
    simp only [Rows.uptoBulk] at this
    omega
  · intro t e xs ys hu h
    obtain ⟨h1, _, h3, h4⟩ := s.sl t e xs ys hu h.1
    have := h.2
    simp only [Rows.uptoBulk] at this
    have := bulk_len xs
    have := bulk_len ys
    refine ⟨h1, fun _ => by omega, fun d hd => ⟨h3 d hd, ?_⟩, fun d hd => ⟨h4 d hd, ?_⟩⟩
    · have := bulk_mem hd; omega
    · have := bulk_mem hd; omega
  · intro t fs ds hu h i f d hf hd
    refine ⟨s.st t fs ds hu h.1 i f d hf hd, ?_⟩
    have := h.2
    simp only [Rows.uptoBulk] at this
    have := bulk_mem (List.mem_of_getElem? hd)
    omega
  · intro t m e ds hu h d hd
    refine ⟨s.ar t m e ds hu h.1 d hd, ?_⟩
    have := h.2
    simp only [Rows.uptoBulk] at this
    have := bulk_mem hd
    omega
theorem trod_rdN {N : Nat} {B : TypeId → DataW H → Prop} (bd : Bound P N B) : ∀ (fuel : Nat) (t : TypeId) (cs : List Value) (d : DataW H) (ps : List MemPlace), DataW.trod enc P w 0 (fun _ => true) true fuel t cs = some (d, ps) →
    B t d → RdN P w.heap N fuel t cs
  | 0, _, _, _, _, h, _ => by simp [DataW.trod] at h
  | n + 1, t, cs, d, ps, h, hw => by
    unfold RdN
    unfold DataW.trod at h
    cases hu : P.underlying t with
    | none => trivial
    | some td =>
      rw [hu] at h
      cases td with
      | bool =>
        simp only
        split at h <;> simp_all
      | int k =>
        simp only
        split at h <;> simp_all [Lit.wf]
      | string =>
        simp only
        split at h <;> simp_all
        obtain ⟨_, rfl, _⟩ := h
        have := bd.str t _ hu hw
        simpa using this
      | slice e =>
        simp only
        split at h <;> simp_all
        · exact ⟨⟨none, 0, 0⟩, ⟨rfl, rfl, rfl⟩, fun _ => .inl ⟨rfl, rfl, rfl⟩⟩
        · rename_i e' a' a len cap hcs
          obtain ⟨⟨h1, h2⟩, h3⟩ := h
          replace h3 := bind_some h3; obtain ⟨elems, he, h3⟩ := h3
          replace h3 := map_some' h3; obtain ⟨rest, hr, h3⟩ := h3
          simp at h3
          obtain ⟨h3, _⟩ := h3
          subst h3
          obtain ⟨hw1, hwN, hwe, hwr⟩ := bd.sl t a' _ _ hu hw
          simp only [List.length_map] at hw1 hwN
          obtain ⟨le, ge⟩ := mapM_at he
          obtain ⟨lr, gr⟩ := mapM_at hr
          simp at le lr
          refine ⟨⟨some a, len, cap⟩, ⟨rfl, rfl, rfl⟩, fun hpos => .inr ⟨a, rfl, h1, ?_, ?_, fun i hi => ?_⟩⟩
          · rw [le, lr, show len + (cap - len) = cap by omega] at hw1
            exact hw1
          · have := hwN hpos
            rw [le, lr] at this
            simp only
            omega
          · simp only at hi
            have key : ∃ y : DataW H × List MemPlace, ((w.cells? 0 (a.add (i * P.cellsOf a')) (P.cellsOf a')).bind (DataW.trod enc P w 0 (fun x => true) true n a')) = some y ∧ B a' y.1 := by
              by_cases hil : i < len
              · obtain ⟨y, hy, hyi⟩ := ge i i (by simp [hil])
                exact ⟨y, hy, hwe y.1 (List.mem_map.2 ⟨y, List.mem_of_getElem? hyi, rfl⟩)⟩
              · obtain ⟨y, hy, hyi⟩ := gr (i - len) (i - len) (by rw [List.getElem?_range (by omega)])
                rw [show len + (i - len) = i by omega] at hy
                exact ⟨y, hy, hwr y.1 (List.mem_map.2 ⟨y, List.mem_of_getElem? hyi, rfl⟩)⟩
            obtain ⟨⟨yd, yp⟩, hy, hyw⟩ := key
            replace hy := bind_some hy; obtain ⟨cs', hcs', hy⟩ := hy
            obtain ⟨hl, hc⟩ := cells_are hcs'
            exact ⟨cs', hl, hc, trod_rdN bd n _ _ _ _ hy hyw⟩
      | struct fs =>
        simp only at h ⊢
        split at h
        · rename_i hl
          replace h := map_some' h; obtain ⟨xs, hx, h⟩ := h
          simp at h
          obtain ⟨h, _⟩ := h
          subst h
          obtain ⟨lx, gx⟩ := mapM_at hx
          refine ⟨hl, fun f hf => ?_⟩
          obtain ⟨i, hi⟩ := List.mem_iff_getElem?.1 hf
          obtain ⟨⟨yd, yp⟩, hy, hyi⟩ := gx i f hi
          exact trod_rdN bd n _ _ _ _ hy (bd.st t fs _ hu hw i f yd hi (by simp [hyi]))
        · simp at h
      | array m e =>
        simp only at h ⊢
        split at h
        · rename_i hl
          replace h := map_some' h; obtain ⟨xs, hx, h⟩ := h
          simp at h
          obtain ⟨h, _⟩ := h
          subst h
          obtain ⟨lx, gx⟩ := mapM_at hx
          refine ⟨hl, fun i hi => ?_⟩
          obtain ⟨⟨yd, yp⟩, hy, hyi⟩ := gx i i (by simp [hi])
          exact trod_rdN bd n _ _ _ _ hy (bd.ar t m e _ hu hw yd (List.mem_map.2 ⟨(yd, yp), List.mem_of_getElem? hyi, rfl⟩))
        · simp at h
      | _ => trivial
end

inductive Ty where
  | int (k : IntKind)
  | bool
  | str
  | sl (sz bts : Nat) (e : Ty)
  | nil
  | cons (a b : Ty)
def Ty.size : Ty → Nat
  | .nil => 0
  | .cons a b => a.size + b.size
  | _ => 1
def Ty.rep : Nat → Ty → Ty
  | 0, _ => .nil
  | n + 1, x => .cons x (Ty.rep n x)
def shapeFs (P : Program) (f : TypeId → Option Ty) : Nat → List Field → Option Ty
  | _, [] => some .nil
  | off, fd :: fs => match f fd.type, shapeFs P f (off + P.cellsOf fd.type) fs with
    | some a, some b => match Nat.beq fd.offset off && Nat.beq a.size (P.cellsOf fd.type) with
      | true => some (.cons a b)
      | false => none
    | _, _ => none
def shape (P : Program) : Nat → TypeId → Option Ty
  | 0, _ => none
  | n + 1, t => match P.underlying t with
    | some .bool => some .bool
    | some (.int k) => some (.int k)
    | some .string => some .str
    | some (.slice e) => match shape P n e with
      | some x => match Nat.beq x.size (P.cellsOf e) && Nat.blt 0 (P.bytesOf e) with
        | true => some (.sl (P.cellsOf e) (P.bytesOf e) x)
        | false => none
      | none => none
    | some (.struct fs) => match shapeFs P (shape P n) 0 fs.toList with
      | some x => match Nat.beq x.size (P.cellsOf t) with
        | true => some x
        | false => none
      | none => none
    | some (.array m e) => match shape P n e with
      | some x => match Nat.beq x.size (P.cellsOf e) && Nat.beq (P.cellsOf t) (m * P.cellsOf e) with
        | true => some (Ty.rep m x)
        | false => none
      | none => none
    | _ => none
def Fit (h : Heap) (N : Nat) : Ty → List Value → Prop
  | .int k, cs => ∃ x, cs = [.int k x] ∧ k.min ≤ x ∧ x ≤ k.max
  | .bool, cs => ∃ b, cs = [.bool b]
  | .str, cs => ∃ s : ByteArray, cs = [.string s] ∧ s.size ≤ N
  | .sl sz bts e, cs => ∃ s : Sl, cs = [.slice s.ptr s.len s.cap] ∧ SlN h N sz bts s fun cs => Fit h N e cs
  | .nil, cs => cs = []
  | .cons a b, cs => ∃ c1 c2, cs = c1 ++ c2 ∧ c1.length = a.size ∧ Fit h N a c1 ∧ Fit h N b c2
theorem fits_fs {P : Program} {h : Heap} {N : Nat} {f : TypeId → Option Ty} {R : TypeId → List Value → Prop} (hf : ∀ t x cs, f t = some x → R t cs → cs.length = x.size → Fit h N x cs) :
    ∀ {fs : List Field} {off : Nat} {x : Ty} {cs : List Value}, shapeFs P f off fs = some x → off + x.size = cs.length → (∀ fd ∈ fs, R fd.type ((cs.drop fd.offset).take (P.cellsOf fd.type))) → Fit h N x (cs.drop off)
  | [], off, x, cs, hs, hl, _ => by
    simp only [shapeFs, Option.some.injEq] at hs
    subst hs
    simp only [Ty.size] at hl
    simp [Fit]; omega
  | fd :: fs, off, x, cs, hs, hl, hR => by
    simp only [shapeFs] at hs
    split at hs
    · rename_i a b ha hb
      split at hs
      · rename_i hc
        simp only [Option.some.injEq] at hs
        subst hs
        simp only [Bool.and_eq_true, Nat.beq_eq] at hc
        obtain ⟨h1, h2⟩ := hc
        simp only [Ty.size] at hl
        have hd := hR fd List.mem_cons_self
        rw [h1, ← h2] at hd
        have hlen : ((cs.drop off).take a.size).length = a.size := by simp; omega
        refine ⟨(cs.drop off).take a.size, cs.drop (off + a.size), ?_, hlen, hf _ _ _ ha hd hlen, ?_⟩
        · rw [← List.drop_drop, List.take_append_drop]
        · have := fits_fs hf hb (cs := cs) (by rw [← h2]; omega) fun fd' hfd => hR fd' (List.mem_cons_of_mem _ hfd)
          rw [← h2] at this
          exact this
      · simp at hs
    · simp at hs
theorem fits_rep {h : Heap} {N : Nat} {x : Ty} : ∀ (m : Nat) {cs : List Value}, cs.length = m * x.size → (∀ i, i < m → Fit h N x ((cs.drop (i * x.size)).take x.size)) → Fit h N (Ty.rep m x) cs
  | 0, cs, hl, _ => by simp at hl; simp [Ty.rep, Fit, hl]
  | m + 1, cs, hl, hR => by
    rw [Nat.add_mul, Nat.one_mul] at hl
    refine ⟨cs.take x.size, cs.drop x.size, (List.take_append_drop _ _).symm, by simp; omega, by simpa using hR 0 (by omega), fits_rep m (by simp; omega) fun i hi => ?_⟩
    have := hR (i + 1) (by omega)
    rwa [List.drop_drop, show x.size + i * x.size = (i + 1) * x.size by rw [Nat.add_mul, Nat.one_mul, Nat.add_comm]]
theorem fits_of {P : Program} {h : Heap} {N : Nat} : ∀ (d : Nat) {n : Nat} {t : TypeId} {x : Ty} {cs : List Value}, shape P d t = some x → RdN P h N n t cs → (cs.length = x.size ∨ True) → Fit h N x cs
  | 0, n, t, x, cs, hs, _, _ => by simp [shape] at hs
  | d + 1, 0, t, x, cs, hs, hR, _ => hR.elim
  | d + 1, n + 1, t, x, cs, hs, hR, _ => by
    unfold shape at hs
    unfold RdN at hR
    cases hu : P.underlying t with
    | none => rw [hu] at hs; simp at hs
    | some td =>
      rw [hu] at hs hR
      cases td <;> simp only [Option.some.injEq, reduceCtorEq] at hs hR
      case bool => subst hs; exact hR
      case int k => subst hs; exact hR
      case string => subst hs; exact hR
      case slice e =>
        split at hs
        · rename_i y hy
          split at hs
          · rename_i hc
            simp only [Option.some.injEq] at hs
            subst hs
            simp only [Bool.and_eq_true, Nat.beq_eq] at hc
            obtain ⟨s, rfl, hS⟩ := hR
            have hpos : 0 < P.bytesOf e := Nat.le_of_ble_eq_true hc.2
            refine ⟨s, rfl, ?_⟩
            rcases hS hpos with hS | ⟨a, h1, h2, h3, h4, h5⟩
            · exact .inl hS
            · refine .inr ⟨a, h1, h2, h3, h4, fun i hi => ?_⟩
              obtain ⟨cs, k1, k2, k3⟩ := h5 i hi
              exact ⟨cs, k1, k2, fits_of d hy k3 (.inr trivial)⟩
          · simp at hs
        · simp at hs
      case struct fs =>
        split at hs
        · rename_i y hy
          split at hs
          · rename_i hc
            simp only [Option.some.injEq] at hs
            subst hs
            rw [Nat.beq_eq] at hc
            have := fits_fs (P := P) (h := h) (N := N) (R := fun t cs => RdN P h N n t cs) (fun t x cs h1 h2 _ => fits_of d h1 h2 (.inr trivial)) hy (cs := cs) (by rw [hR.1, hc]; omega) hR.2
            simpa using this
          · simp at hs
        · simp at hs
      case array m e =>
        split at hs
        · rename_i y hy
          split at hs
          · rename_i hc
            simp only [Option.some.injEq] at hs
            subst hs
            simp only [Bool.and_eq_true, Nat.beq_eq] at hc
            refine fits_rep m (by rw [hR.1, hc.1]; exact hc.2) fun i hi => ?_
            rw [hc.1]
            exact fits_of d hy (hR.2 i hi) (.inr trivial)
          · simp at hs
        · simp at hs
theorem SlN.view {α : Type} {h : Heap} {N sz bts : Nat} {s : Sl} {E : List Value → Prop} (S : SlN h N sz bts s E) (R : α → List Value → Prop) (hE : ∀ cs, E cs → ∃ x, R x cs) : s.len ≤ s.cap ∧ s.cap ≤ N ∧ s.cap * bts ≤ 140737488351232 ∧ ∃ xs : List α, View h sz R s xs := by
  rcases S with ⟨h1, h2, h3⟩ | ⟨a, h1, h2, h3, h4, h5⟩
  · exact ⟨by omega, by omega, by rw [h3]; omega, [], by rw [h2]; rfl, by simp⟩
  · refine ⟨h2, h4, h3, ?_⟩
    have : ∀ n, n ≤ s.cap → ∃ xs : List α, xs.length = n ∧ ∀ (i : Nat) x, xs[i]? = some x → ∃ a cs, s.ptr = some a ∧ cs.length = sz ∧ R x cs ∧ cellsAre h (a.add (i * sz)) cs := by
      intro n
      induction n with
      | zero => intro _; exact ⟨[], rfl, by simp⟩
      | succ n ih =>
        intro hn
        obtain ⟨xs, hl, hx⟩ := ih (by omega)
        obtain ⟨cs, k1, k2, k3⟩ := h5 n (by omega)
        obtain ⟨x, hR⟩ := hE cs k3
        refine ⟨xs ++ [x], by simp [hl], fun i y hy => ?_⟩
        rw [List.getElem?_append] at hy
        split at hy
        · exact hx i y hy
        · rename_i hi
          have : i = n := by
            rw [hl] at hi hy
            by_cases e : i - n = 0
            · omega
            · rw [List.getElem?_eq_none (by simp; omega)] at hy; simp at hy
          subst this
          rw [hl, Nat.sub_self] at hy
          simp at hy; subst hy
          exact ⟨a, cs, h1, k1, hR, k2⟩
    obtain ⟨xs, hl, hx⟩ := this s.len h2
    exact ⟨xs, hl.symm, hx⟩
theorem u8_of {cs : List Value} {h : Heap} {N : Nat} (hf : Fit h N (.int .u8) cs) : ∃ x : UInt8, En u8 x cs := by
  obtain ⟨x, rfl, h1, h2⟩ := hf
  simp [IntKind.min, IntKind.max, IntKind.bits, IntKind.signed] at h1 h2
  refine ⟨UInt8.ofNat x.toNat, ?_⟩
  simp only [En, u8, UInt8.toNat_ofNat', List.cons.injEq, Value.int.injEq, true_and, and_true]
  omega
theorem SlN.bytes {h : Heap} {N : Nat} {s : Sl} (S : SlN h N 1 1 s fun cs => Fit h N (.int .u8) cs) : s.len ≤ s.cap ∧ s.cap ≤ N ∧ ∃ l : List UInt8, Bytes h s l := by
  obtain ⟨h1, h2, _, xs, V⟩ := S.view (En u8) (fun cs hf => u8_of hf)
  exact ⟨h1, h2, xs, V⟩
end Go.Proofs.YthiginhigfieiaaGreatDoor.V
/-
  SMALL RULES: branches, joins, numbers; and the last step of a law.
-/
namespace Go.Proofs.YthiginhigfieiaaGreatDoor.V
open Go Go.RowKit
set_option linter.unusedVariables false
set_option linter.unusedSimpArgs false

theorem brr_p {p : Prop} [Decidable p] {A B : Prop} (h1 : p → A) (h2 : ¬ p → B) : brr (decide p) A B := by
  rw [brr_dec]; split
  · rename_i h; exact h1 h
  · rename_i h; exact h2 h
theorem brr_eq {a b : Int} {A B : Prop} (h1 : a = b → A) (h2 : a ≠ b → B) : brr (a == b) A B := by
  by_cases h : a = b
  · rw [show (a == b) = true by simpa using h]; exact h1 h
  · rw [show (a == b) = false by simpa using h]; exact h2 h
theorem brr_ne {a b : Int} {A B : Prop} (h1 : a ≠ b → A) (h2 : a = b → B) : brr (a != b) A B := by
  by_cases h : a = b
  · rw [show (a != b) = false by simpa using h]; exact h2 h
  · rw [show (a != b) = true by simpa using h]; exact h1 h
theorem brr_not {b : Bool} {A B : Prop} (h : brr b B A) : brr (!b) A B := by cases b <;> exact h
theorem brr_of {b : Bool} {A B : Prop} (h1 : b = true → A) (h2 : b = false → B) : brr b A B := by cases b; exact h2 rfl; exact h1 rfl
theorem brr_tt {b : Bool} {A B : Prop} (e : b = true) (h : A) : brr b A B := by subst e; exact h
theorem brr_ff {b : Bool} {A B : Prop} (e : b = false) (h : B) : brr b A B := by subst e; exact h
theorem ldL_n {vs : List Value} {K : Prop} (h : K) : ldL [] vs K := by cases vs <;> exact h
theorem ldL_c {k : Kd} {ks : List Kd} {x : k.T} {vs : List Value} {K : k.T → Fn ks Prop} (h : ldL ks vs (K x)) : ldL (k :: ks) (k.enc x :: vs) K := ⟨x, rfl, h⟩
theorem jn0 {rest : Heap → Prop} {body : (Heap → Prop) → Prop} (C : Heap → Prop) (h1 : ∀ h, C h → rest h) (h2 : ∀ j : Heap → Prop, (∀ h, C h → j h) → body j) : jn [] rest body := h2 rest h1
theorem jn1 {i : Nat} {k : Kd} {rest : k.T → Heap → Prop} {body : (k.T → Heap → Prop) → Prop} (C : k.T → Heap → Prop) (h1 : ∀ x h, C x h → rest x h) (h2 : ∀ j : k.T → Heap → Prop, (∀ x h, C x h → j x h) → body j) : jn [(i, .one k)] rest body := h2 rest h1
theorem jn2 {i i2 : Nat} {k k2 : Kd} {rest : k.T → k2.T → Heap → Prop} {body : (k.T → k2.T → Heap → Prop) → Prop} (C : k.T → k2.T → Heap → Prop) (h1 : ∀ x y h, C x y h → rest x y h) (h2 : ∀ j : k.T → k2.T → Heap → Prop, (∀ x y h, C x y h → j x y h) → body j) : jn [(i, .one k), (i2, .one k2)] rest body := h2 rest h1
theorem u64_min : IntKind.u64.min = 0 := by decide
theorem okv_agg {P : Program} {t : TypeId} {v : Value} (ha : aggT P t = some true) (h : okv P t v) : ∃ cs, v = .agg cs := by
  unfold aggT at ha
  unfold okv at h
  cases hu : P.underlying t with
  | none => simp [hu] at ha
  | some d =>
    rw [hu] at ha h
    cases d <;> first | exact h | simp at ha
end Go.Proofs.YthiginhigfieiaaGreatDoor.V
/-
  MANY RESOURCES AS ONE: a list of things of one kind, each in memory of its own; one of them is taken out and put back.
-/
namespace Go.Proofs.YthiginhigfieiaaGreatDoor.V
open Go Go.RowKit
set_option linter.unusedVariables false
set_option linter.unusedSimpArgs false
variable {α β : Type}
theorem star_app : ∀ {L M : List Res} {E F : Blks}, star L E → star M F → star (L ++ M) (E ++ F)
  | [], M, E, F, h, k => by
    have h' : E = [] := h
    subst h'
    exact k
  | A :: L, M, E, F, ⟨E1, E2, q, h1, h2⟩, k => ⟨E1, E2 ++ F, by rw [← List.append_assoc]; exact q.append_right F, h1, star_app h2 k⟩
theorem set_set_res : ∀ (L : List Res) (i : Nat) (A B : Res), (L.set i A).set i B = L.set i B
  | [], _, _, _ => rfl
  | _ :: _, 0, _, _ => rfl
  | _ :: L, i + 1, A, B => by simp [set_set_res L i A B]
theorem Sat.pull {h0 h : Heap} {Rs L : List Res} (O : Sat h0 h (star Rs :: L)) (i : Nat) (hi : i < Rs.length) : Sat h0 h (nth i Rs :: star (Rs.set i V.emp) :: L) := by
  obtain ⟨E, ⟨E1, E2, p, h1, h2⟩, O⟩ := O
  obtain ⟨F1, F2, q, h3, h4⟩ := star_at i hi h1
  exact ⟨E, ⟨F1, F2 ++ E2, p.trans ((q.append_right E2).trans (by rw [List.append_assoc])), h3, F2, E2, List.Perm.refl _, h4 V.emp [] rfl, h2⟩, O⟩
theorem Sat.back {h0 h : Heap} {Rs L : List Res} {B : Res} {i : Nat} (O : Sat h0 h (B :: star (Rs.set i V.emp) :: L)) (hi : i < Rs.length) : Sat h0 h (star (Rs.set i B) :: L) := by
  obtain ⟨E, ⟨E1, E2, p, h1, F1, F2, q, h2, h3⟩, O⟩ := O
  obtain ⟨G1, G2, r, h4, h5⟩ := star_at i (by simpa using hi) h2
  rw [nth_set _ hi] at h4
  have h4' : G1 = [] := h4
  subst h4'
  have := h5 B E1 h1
  rw [set_set_res] at this
  refine ⟨E, ⟨E1 ++ G2, F2, ?_, this, h3⟩, O⟩
  refine p.trans ((q.append_left E1).trans ?_)
  rw [List.append_assoc]
  exact (List.Perm.append_right F2 (by simpa using r)).append_left E1
theorem Sat.snoc {h0 h : Heap} {Rs L : List Res} {A : Res} (O : Sat h0 h (A :: star Rs :: L)) : Sat h0 h (star (Rs ++ [A]) :: L) := by
  obtain ⟨E, ⟨E1, E2, p, h1, F1, F2, q, h2, h3⟩, O⟩ := O
  refine ⟨E, ⟨F1 ++ E1, F2, ?_, ?_, h3⟩, O⟩
  · refine p.trans ((q.append_left E1).trans ?_)
    rw [← List.append_assoc]
    exact List.perm_append_comm.append_right F2
  · have h4 : star [A] E1 := ⟨E1, [], by simp, h1, rfl⟩
    exact star_app h2 h4
def many (f : α → Res) (xs : List α) : Res := star (xs.map f)
def hole (f : α → Res) (xs : List α) (i : Nat) : Res := star ((xs.map f).set i emp)
theorem nth_mapf {f : α → Res} : ∀ {xs : List α} {i : Nat} {x : α}, xs[i]? = some x → nth i (xs.map f) = f x
  | [], i, x, h => by simp at h
  | y :: ys, 0, x, h => by simp at h; subst h; rfl
  | y :: ys, i + 1, x, h => nth_mapf (xs := ys) (i := i) (by simpa using h)
theorem Sat.take {h0 h : Heap} {f : α → Res} {xs : List α} {L : List Res} (O : Sat h0 h (many f xs :: L)) (i : Nat) {x : α} (hi : xs[i]? = some x) : Sat h0 h (f x :: hole f xs i :: L) := by
  have hl := (List.getElem?_eq_some_iff.1 hi).1
  have := Sat.pull (Rs := xs.map f) O i (by simpa using hl)
  rw [nth_mapf hi] at this
  exact this
theorem Sat.give {h0 h : Heap} {f : α → Res} {xs : List α} {L : List Res} {i : Nat} {y : α} (O : Sat h0 h (f y :: hole f xs i :: L)) (hi : i < xs.length) : Sat h0 h (many f (xs.set i y) :: L) := by
  have := Sat.back (Rs := xs.map f) O (by simpa using hi)
  unfold many
  rw [List.map_set]
  exact this
theorem Sat.more {h0 h : Heap} {f : α → Res} {xs : List α} {L : List Res} {y : α} (O : Sat h0 h (f y :: many f xs :: L)) : Sat h0 h (many f (xs ++ [y]) :: L) := by
  have := Sat.snoc (Rs := xs.map f) O
  unfold many
  rw [List.map_append]
  exact this
theorem Sat.none {h0 h : Heap} {f : α → Res} {L : List Res} (O : Sat h0 h L) : Sat h0 h (many f [] :: L) := O.empI
def u64c (x : Int) : List Value := [.int .u64 x]
def i64c (x : Int) : List Value := [.int .i64 x]
theorem u64c_len (x : Int) : (u64c x).length = 1 := rfl
theorem i64c_len (x : Int) : (i64c x).length = 1 := rfl
theorem u8_len (x : UInt8) : (u8 x).length = 1 := rfl
theorem u8_one (x : UInt8) : (u8 x).all oneV = true := rfl
theorem set_flat1 {enc : α → List Value} (he : ∀ x, (enc x).length = 1) : ∀ (xs : List α) (sp : List Value) (i : Nat) (y : α), i < xs.length → V.put (xs.flatMap enc ++ sp) i (enc y) = (xs.set i y).flatMap enc ++ sp
  | [], sp, i, y, h => by simp at h
  | x :: xs, sp, 0, y, h => by
    have h1 := he x; have h2 := he y
    rw [List.flatMap_cons, List.set_cons_zero, List.flatMap_cons]
    match hx : enc x, hy : enc y with
    | [a], [c] => simp [V.put, put_nil]
    | [], _ => rw [hx] at h1; simp at h1
    | _ :: _ :: _, _ => rw [hx] at h1; simp at h1
    | _, [] => rw [hy] at h2; simp at h2
    | _, _ :: _ :: _ => rw [hy] at h2; simp at h2
  | x :: xs, sp, i + 1, y, h => by
    have h1 := he x
    rw [List.flatMap_cons, List.set_cons_succ, List.flatMap_cons]
    match hx : enc x with
    | [a] =>
      have := set_flat1 he xs sp i y (by simpa using h)
      simp [V.put]
      simpa using this
    | [] => rw [hx] at h1; simp at h1
    | _ :: _ :: _ => rw [hx] at h1; simp at h1
theorem Sat.put1 {h0 h : Heap} {L : List Res} {enc : α → List Value} {s : Sl} {xs : List α} {i : Int} {K : Heap → Prop} (O : Sat h0 h (buf 1 enc s xs :: L)) (he : ∀ x, (enc x).length = 1) (ho : ∀ x, (enc x).all oneV = true)
    (hi0 : 0 ≤ i) (hi1 : i < (xs.length : Int)) (y : α) {cs : List Value} (hcs : cs = enc y) (k : ∀ h', Sat h0 h' (buf 1 enc s (xs.set i.toNat y) :: L) → K h') : ixS 1 s i fun a => V.st a cs h K := by
  subst hcs
  obtain ⟨sp, O⟩ := O.ex
  obtain ⟨E, ⟨E1, E2, p, hA, h2⟩, O⟩ := O
  have O := O.perm p.symm
  rcases hA with ⟨rfl, rfl, _, _⟩ | ⟨b, j, rfl, hsp, rfl⟩
  · simp at hi1; omega
  · refine ⟨pt b 0, rfl, hi0, hi1, ?_⟩
    rw [pt_add, Nat.zero_add, Nat.mul_one]
    have hl := flatMap_len he xs
    refine Held.st O (by rw [he, List.length_append, hl]; omega) (ho y) fun h' O' => ?_
    rw [set_flat1 he _ _ _ _ (by omega)] at O'
    exact k _ ⟨_, ⟨[(b, _)], E2, List.Perm.refl _, ⟨sp, .inr ⟨b, j, by simp, hsp, rfl⟩⟩, h2⟩, O'⟩
theorem View.at1 {h : Heap} {enc : α → List Value} {s : Sl} {xs : List α} {i : Int} {k : Kd} {K : k.T → Prop} (V : View h 1 (En enc) s xs) (h0 : 0 ≤ i) (h1 : i < (xs.length : Int)) (f : α → k.T) (hf : ∀ x, enc x = [k.enc (f x)])
    (kk : ∀ x, xs[i.toNat]? = some x → K (f x)) : ixS 1 s i fun a => ld [k] a h K :=
  V.ix h0 h1 fun a cs x hx hl hR hc => by
    have e : cs = [k.enc (f x)] := hR.trans (hf x)
    rw [e] at hc
    exact ld_are hc (ldL_c (ldL_n (kk x hx)))
theorem View.get1 {h : Heap} {enc : α → List Value} {s : Sl} {xs : List α} {i : Int} {k : Kd} {K : k.T → Prop} {x : α} (V : View h 1 (En enc) s xs) (h0 : 0 ≤ i) (hx : xs[i.toNat]? = some x) (f : α → k.T) (hf : ∀ x, enc x = [k.enc (f x)])
    (kk : K (f x)) : ixS 1 s i fun a => ld [k] a h K :=
  V.at1 h0 (by have := (List.getElem?_eq_some_iff.1 hx).1; omega) f hf fun y hy => by
    rw [hx] at hy
    have e := Option.some.inj hy
    subst e
    exact kk
theorem Sat.cells {h0 h : Heap} {L : List Res} (O : Sat h0 h L) (i : Nat) {b : Nat} {cs : List Value} (hi : nth i L = own b cs) (o n : Nat) : cellsAre h (pt b o) ((cs.drop o).take n) := cellsAre_blk (O.blk (nth_lt hi) hi).2 o n
theorem ixA_of_ixS {sz n c : Nat} {a : Addr} {i : Int} {K : Addr → Prop} (h : ixS sz ⟨some a, n, c⟩ i K) : ixA sz a n i K := by
  obtain ⟨a', h1, h2, h3, h4⟩ := h
  have e : a = a' := Option.some.inj h1
  subst e
  exact ⟨h2, h3, h4⟩
theorem Sat.arr {h0 h : Heap} {L : List Res} (O : Sat h0 h L) (i : Nat) {sz b : Nat} {enc : α → List Value} {xs : List α} (he : ∀ x, (enc x).length = sz) (hi : nth i L = own b (xs.flatMap enc)) : View h sz (En enc) ⟨some (pt b 0), xs.length, xs.length⟩ xs := by
  have B := (O.blk (nth_lt hi) hi).2
  rw [← List.append_nil (xs.flatMap enc)] at B
  exact view_of_blk he B
theorem Sat.getA {h0 h : Heap} {L : List Res} (O : Sat h0 h L) (j : Nat) {b n : Nat} {enc : α → List Value} {xs : List α} {i : Int} {k : Kd} {K : k.T → Prop} {x : α} (he : ∀ x, (enc x).length = 1) (hj : nth j L = own b (xs.flatMap enc)) (hn : n = xs.length) (h0 : 0 ≤ i) (hx : xs[i.toNat]? = some x) (f : α → k.T) (hf : ∀ x, enc x = [k.enc (f x)])
    (kk : K (f x)) : ixA 1 (pt b 0) n i fun a => V.ld [k] a h K := by
  subst hn
  exact ixA_of_ixS ((O.arr j he hj).get1 h0 hx f hf kk)
theorem Sat.putA {h0 h : Heap} {L : List Res} {b n : Nat} {enc : α → List Value} {xs : List α} {i : Int} {K : Heap → Prop} (O : Sat h0 h (own b (xs.flatMap enc) :: L)) (he : ∀ x, (enc x).length = 1) (ho : ∀ x, (enc x).all oneV = true) (hn : n = xs.length)
    (hi0 : 0 ≤ i) (hi1 : i < (xs.length : Int)) (y : α) {cs : List Value} (hcs : cs = enc y) (k : ∀ h', Sat h0 h' (own b ((xs.set i.toNat y).flatMap enc) :: L) → K h') : ixA 1 (pt b 0) n i fun a => V.st a cs h K := by
  subst hcs hn
  refine ⟨hi0, hi1, ?_⟩
  rw [pt_add, Nat.zero_add, Nat.mul_one]
  have hl := flatMap_len he xs
  refine O.st 0 rfl (by rw [he, hl]; omega) (ho y) fun h' O => ?_
  have e := set_flat1 he xs [] i.toNat y (by omega)
  rw [List.append_nil, List.append_nil] at e
  rw [e] at O
  exact k _ O
theorem Fit.i {h : Heap} {N : Nat} {k : IntKind} {b : Ty} {cs : List Value} (F : Fit h N (.cons (.int k) b) cs) : ∃ x c, cs = .int k x :: c ∧ k.min ≤ x ∧ x ≤ k.max ∧ Fit h N b c := by
  obtain ⟨_, c, rfl, _, ⟨x, rfl, h1, h2⟩, F⟩ := F
  exact ⟨x, c, rfl, h1, h2, F⟩
theorem Fit.b {h : Heap} {N : Nat} {b : Ty} {cs : List Value} (F : Fit h N (.cons .bool b) cs) : ∃ x c, cs = .bool x :: c ∧ Fit h N b c := by
  obtain ⟨_, c, rfl, _, ⟨x, rfl⟩, F⟩ := F
  exact ⟨x, c, rfl, F⟩
theorem Fit.a {h : Heap} {N : Nat} {b : Ty} {cs : List Value} (F : Fit h N (.cons .str b) cs) : ∃ (x : ByteArray) (c : List Value), cs = .string x :: c ∧ x.size ≤ N ∧ Fit h N b c := by
  obtain ⟨_, c, rfl, _, ⟨x, rfl, h1⟩, F⟩ := F
  exact ⟨x, c, rfl, h1, F⟩
theorem Fit.s {h : Heap} {N sz bts : Nat} {e b : Ty} {cs : List Value} (F : Fit h N (.cons (.sl sz bts e) b) cs) : ∃ (s : Sl) (c : List Value), cs = .slice s.ptr s.len s.cap :: c ∧ (SlN h N sz bts s fun cs => Fit h N e cs) ∧ Fit h N b c := by
  obtain ⟨_, c, rfl, _, ⟨x, rfl, h1⟩, F⟩ := F
  exact ⟨x, c, rfl, h1, F⟩
theorem Fit.g {h : Heap} {N : Nat} {x y b : Ty} {cs : List Value} (F : Fit h N (.cons (.cons x y) b) cs) : Fit h N (.cons x (.cons y b)) cs := by
  obtain ⟨_, c, rfl, hl, ⟨c1, c2, rfl, h1, F1, F2⟩, F⟩ := F
  refine ⟨c1, c2 ++ c, by rw [List.append_assoc], h1, F1, c2, c, rfl, ?_, F2, F⟩
  rw [List.length_append, h1] at hl
  simp only [Ty.size] at hl
  omega
theorem Fit.z {h : Heap} {N : Nat} {b : Ty} {cs : List Value} (F : Fit h N (.cons .nil b) cs) : Fit h N b cs := by
  obtain ⟨_, c, rfl, _, rfl, F⟩ := F
  exact F
theorem Fit.e {h : Heap} {N : Nat} {cs : List Value} (F : Fit h N .nil cs) : cs = [] := F
theorem jn_go {L : Ls} {rest : FnL L} {body : FnL L → Prop} (h : body rest) : jn L rest body := h
theorem al_id {T : TypeId} {cs : List Value} {h : Heap} {K : Addr → Heap → Prop} (k : al T cs h K) : al T cs h K := k
theorem nn_id {p : Option Addr} {K : Addr → Prop} (k : nn p K) : nn p K := k
theorem ld_id {ks : List Kd} {a : Addr} {h : Heap} {K : Fn ks Prop} (k : ld ks a h K) : ld ks a h K := k
theorem st_ad {a : Addr} {b o : Nat} {vs : List Value} {h : Heap} {K : Heap → Prop} (e : a = pt b o) (k : st (pt b o) vs h K) : st a vs h K := e ▸ k
theorem ca_id {a : Addr} {vs : List Value} {h : Heap} {p : Prop} (k : cellsAre h a vs ∧ p) : cellsAre h a vs ∧ p := k
theorem Sat.ca {h0 h : Heap} {L : List Res} (O : Sat h0 h L) (i k : Nat) {b o : Nat} {cs : List Value} {p : Prop} (e : nth i L = own b cs) (hp : p) : cellsAre h (pt b o) ((cs.drop o).take k) ∧ p := ⟨cellsAre_blk (O.blk (nth_lt e) e).2 o k, hp⟩
theorem ldL_s {ks : List Kd} {p : Option Addr} {n c : Nat} {vs : List Value} {K : Sl → Fn ks Prop} (k : ldL ks vs (K ⟨p, n, c⟩)) : ldL (.sl :: ks) (.slice p n c :: vs) K := ldL_c (k := .sl) (x := ⟨p, n, c⟩) k
end Go.Proofs.YthiginhigfieiaaGreatDoor.V
namespace Go.Proofs.YthiginhigfieiaaGreatDoor.V
open Go Go.RowKit
set_option linter.unusedVariables false
set_option maxRecDepth 100000
end Go.Proofs.YthiginhigfieiaaGreatDoor.V
/- Lists of bytes: compared, copied, lent with marks in their spare room, laid over. -/
namespace Go.Proofs.YthiginhigfieiaaGreatDoor.V
open Go Go.RowKit
set_option linter.unusedVariables false
set_option linter.unusedSimpArgs false
variable {α : Type}
theorem take_succ_eq {xs : List α} {i : Nat} {x : α} (h : xs[i]? = some x) : xs.take (i + 1) = xs.take i ++ [x] := by rw [List.take_add_one, h]; rfl
theorem F_ref0_Cmp.is {h : Heap} {a b : Sl} {xs ys : List UInt8} {Q : Int → Heap → Prop} (V1 : Bytes h a xs) (V2 : Bytes h b ys) (h1 : xs.length < 4611686018427387904) (h2 : ys.length < 4611686018427387904) (k : ∀ r : Int, (r = 0 ↔ xs = ys) → Q r h) : F_ref0_Cmp a b h Q := by
  rw [F_ref0_Cmp.eq_1, F_ref0_Cmp_of.eq_1]
  rw [V1.len, V2.len]
  refine jn0 (fun h' => h' = h ∧ ∃ i, xs.take i = ys.take i ∧ (xs.length ≤ i ∨ ys.length ≤ i)) ?_ ?_
  · rintro h ⟨rfl, i, he, hi⟩
    refine brr_p (fun hlt => ?_) (fun hlt => ?_)
    · exact k _ ⟨fun h => (by cases h), fun h => by subst h; omega⟩
    · refine brr_p (fun hgt => ?_) (fun hgt => ?_)
      · exact k _ ⟨fun h => (by cases h), fun h => by subst h; omega⟩
      · refine k _ ⟨fun _ => ?_, fun _ => rfl⟩
        rw [List.take_of_length_le (by omega), List.take_of_length_le (by omega)] at he
        exact he
  · intro j hj
    rw [F_ref0_Cmp.l1.eq_1]
    refine wl1 (k := .int .i64) (fun (m : Nat) (i : Int) (h' : Heap) => h' = h ∧ 0 ≤ i ∧ i ≤ xs.length ∧ i + m = xs.length ∧ xs.take i.toNat = ys.take i.toNat) ?_ (m := xs.length) ⟨rfl, by omega, by omega, by omega, by simp⟩
    rintro m (i : Int) h next hn ⟨rfl, hi0, hi1, him, he⟩
    rw [V1.len, V2.len]
    refine jn1 (fun t h' => h' = h ∧ (t = true → i < xs.length ∧ i < ys.length) ∧ (t = false → (xs.length : Int) ≤ i ∨ (ys.length : Int) ≤ i)) ?_ ?_
    · rintro t h ⟨rfl, ht, hf⟩
      refine brr_of (fun e => ?_) (fun e => ?_)
      · obtain ⟨hx, hy⟩ := ht e
        refine Bytes.at V1 hi0 hx fun x hxx => ?_
        refine Bytes.at V2 hi0 hy fun y hyy => ?_
        have hne : x ≠ y → xs ≠ ys := fun hxy hs => by
          subst hs
          rw [hxx] at hyy
          exact hxy (Option.some.inj hyy)
        refine brr_p (fun hlt => ?_) (fun hlt => ?_)
        · exact k _ ⟨fun h => (by cases h), fun h => absurd h (hne (by intro h; subst h; omega))⟩
        · refine Bytes.at V1 hi0 hx fun x' hxx' => ?_
          refine Bytes.at V2 hi0 hy fun y' hyy' => ?_
          obtain rfl : x = x' := by rw [hxx] at hxx'; exact Option.some.inj hxx'
          obtain rfl : y = y' := by rw [hyy] at hyy'; exact Option.some.inj hyy'
          refine brr_p (fun hgt => ?_) (fun hgt => ?_)
          · exact k _ ⟨fun h => (by cases h), fun h => absurd h (hne (by intro h; subst h; omega))⟩
          · have hxy : x = y := UInt8.toNat.inj (by omega)
            rw [wrap64 (by omega) (by omega)]
            refine hn (m - 1) _ _ (by omega) ⟨rfl, by omega, by omega, by omega, ?_⟩
            rw [show (i + 1).toNat = i.toNat + 1 by omega, take_succ_eq hxx, take_succ_eq hyy, he, hxy]
      · refine hj _ ⟨rfl, i.toNat, he, ?_⟩
        rcases hf e with h | h
        · exact .inl (by omega)
        · exact .inr (by omega)
    · intro j2 hj2
      refine brr_p (fun hlt => ?_) (fun hlt => ?_)
      · refine hj2 _ _ ⟨rfl, fun e => ⟨hlt, by simpa using e⟩, fun e => .inr (by simpa using e)⟩
      · exact hj2 _ _ ⟨rfl, fun e => (by cases e), fun _ => .inl (by omega)⟩
theorem F_ref0_Eq.is {h : Heap} {a b : Sl} {xs ys : List UInt8} {Q : Bool → Heap → Prop} (V1 : Bytes h a xs) (V2 : Bytes h b ys) (h1 : xs.length < 4611686018427387904) (h2 : ys.length < 4611686018427387904) (k : Q (decide (xs = ys)) h) : F_ref0_Eq a b h Q := by
  rw [F_ref0_Eq.eq_1, F_ref0_Eq_of.eq_1]
  refine F_ref0_Cmp.is V1 V2 h1 h2 fun r hr => ?_
  have e : (r == 0) = decide (xs = ys) := by
    by_cases h : xs = ys
    · simp [h, hr.2 h]
    · have : r ≠ 0 := fun e => h (hr.1 e)
      simp [h, this]
  rw [e]
  exact k
theorem put_all {cs vs : List Value} (h : vs.length = cs.length) : V.put cs 0 vs = vs := by
  have := put_app [] cs vs (by omega)
  simp only [List.nil_append, List.length_nil] at this
  rw [this, h]; simp
theorem flat_u8 (l : List UInt8) : (l.flatMap u8).length = l.length := by rw [flatMap_len u8_len]; omega
theorem all_one {enc : α → List Value} (ho : ∀ x, (enc x).all oneV = true) (xs : List α) : (xs.flatMap enc).all oneV = true := by
  simp only [List.all_eq_true, List.mem_flatMap]
  rintro v ⟨x, _, hv⟩
  exact List.all_eq_true.1 (ho x) v hv
theorem F_ref0_Copy.is {h0 h : Heap} {L : List Res} {a : Sl} {xs : List UInt8} {Q : Sl → Heap → Prop} (O : Sat h0 h L) (V1 : Bytes h a xs) (h1 : xs.length ≤ 281474976710656) (k : ∀ s h', Sat h0 h' (buf 1 u8 s xs :: L) → s.len = xs.length → s.ptr ≠ none → Q s h') : F_ref0_Copy a h Q := by
  rw [F_ref0_Copy.eq_1, F_ref0_Copy_of.eq_1]
  have hl := V1.len
  refine (Sat.nil h).mk_buf (by omega) (by omega) (by omega) fun b h2 N => ?_
  refine ⟨xs.flatMap u8, ?_, ?_⟩
  · have := (V1.kept N.kept).rd u8_len
    rw [show Nat.min a.len ((a.len : Int).toNat) = a.len by simp]
    exact this
  · simp only [stP]
    have O := O.stack N
    refine O.st 0 rfl (by rw [flat_u8, mkCells_len]; omega) (all_one u8_one xs) fun h3 O => ?_
    have O : Sat h0 h3 (own b (V.put (mkCells (Value.int .u8 0) ((a.len : Int).toNat * 1)) 0 (xs.flatMap u8)) :: L) := O
    rw [put_all (by rw [flat_u8, mkCells_len]; omega)] at O
    have O : Sat h0 h3 (own b (xs.flatMap u8 ++ []) :: L) := by rw [List.append_nil]; exact O
    have O := O.own_buf (k := 0) (sz := 1) (by simp)
    refine k _ _ ?_ (by simp [hl]) (by simp)
    have e : (⟨some (pt b 0), (a.len : Int).toNat, (a.len : Int).toNat⟩ : Sl) = ⟨some (pt b 0), xs.length, xs.length + 0⟩ := by simp [hl]
    rw [e]
    exact O.bufsI
def marks : List UInt8 := [165, 90, 165]
def lent (s : Sl) (xs : List UInt8) : Res := ex fun sp => bufs 1 u8 s xs (marks.flatMap u8 ++ sp)
theorem lent.split {s : Sl} {xs : List UInt8} {E : Blks} (h : lent s xs E) : ∃ b k sp, s = ⟨some (pt b 0), xs.length, xs.length + k⟩ ∧ 3 ≤ k ∧ E = [(b, .inl ((xs ++ marks).flatMap u8 ++ sp))] ∧ sp.length + 3 = k := by
  obtain ⟨sp, h⟩ := h
  rcases h with ⟨_, _, h, _⟩ | ⟨b, k, rfl, h2, rfl⟩
  · simp [marks, u8] at h
  · rw [List.length_append, flat_u8] at h2
    have : marks.length = 3 := rfl
    exact ⟨b, k, sp, rfl, by omega, by rw [List.flatMap_append, List.append_assoc], by omega⟩
theorem Sat.lent {h0 h : Heap} {L : List Res} (O : Sat h0 h L) (i : Nat) {s : Sl} {xs : List UInt8} (hl : i < L.length) (hi : nth i L = V.lent s xs) : Bytes h s xs ∧ s.len + 3 ≤ s.cap ∧ Bytes h ⟨s.ptr, s.len + 3, s.cap⟩ (xs ++ marks) := by
  obtain ⟨E1, E2, h1, O', _⟩ := O.at i hl
  rw [hi] at h1
  obtain ⟨b, k, sp, rfl, hk, rfl, _⟩ := lent.split h1
  have B : Blk h b ((xs ++ marks).flatMap u8 ++ sp) := (O'.blk _ List.mem_cons_self).2
  have e : (xs ++ marks).length = xs.length + 3 := by simp [marks]
  have V3 := view_of_blk (k := xs.length + k) u8_len B
  rw [e] at V3
  refine ⟨?_, by simp; omega, V3⟩
  rw [List.flatMap_append, List.append_assoc] at B
  exact view_of_blk u8_len B
theorem b2s_view {h : Heap} {s : Sl} {l : List UInt8} {K : ByteArray → Prop} (V1 : Bytes h s l) (k : K ⟨l.toArray⟩) : b2s s.ptr s.len h K := by
  refine ⟨l.map fun x => (x.toNat : Int), ?_, ?_⟩
  · have := V1.rd u8_len
    rw [Nat.mul_one] at this
    rw [this]
    congr 1
    rw [List.map_map]
    induction l with
    | nil => rfl
    | cons x l ih =>
      rw [List.flatMap_cons, List.map_cons, ih' l]
      rfl
  · have e : bytesOfInts (l.map fun x => (x.toNat : Int)) = ⟨l.toArray⟩ := by
      unfold bytesOfInts
      congr 2
      rw [List.map_map]
      conv => rhs; rw [← List.map_id l]
      congr 1
      funext x
      simp
    rw [e]; exact k
where ih' : ∀ l : List UInt8, l.flatMap u8 = l.map (Value.int .u8 ∘ fun x => (x.toNat : Int))
  | [] => rfl
  | x :: l => by rw [List.flatMap_cons, List.map_cons, ih' l]; rfl
end Go.Proofs.YthiginhigfieiaaGreatDoor.V
namespace Go.Proofs.YthiginhigfieiaaGreatDoor.V
open Go Go.RowKit
set_option linter.unusedVariables false
set_option maxRecDepth 100000
def F_code_Writer_U8_of (f54_ : Y14) (w1 : Option Addr) (n2 : Int) (h : Heap) (Q : Heap → Prop) : Prop :=
  f54_ w1 (IntKind.u64.wrap n2) 1 h fun  (h3 : Heap) =>
  Q h3
def F_code_Writer_U8 (w1 : Option Addr) (n2 : Int) (h : Heap) (Q : Heap → Prop) : Prop := F_code_Writer_U8_of F_code_Writer_fixed w1 n2 h Q
def plan31 : Plan := .r []
theorem F_code_Writer_U8.eq (f54_ : Y14) (w1 : Option Addr) (n2 : Int) (h : Heap) (K : YV) : F_code_Writer_U8_of f54_ w1 n2 h (fun  (h : Heap) => K (.tuple #[]) h) =
    den Tryz.prog (fn1 54 (E_code_Writer_fixed_of f54_) noFns) Tryz.f31.ntmps plan31 (bodyOf Tryz.f31) (args0 0 [(.pointer w1 : Value), (.int .u8 n2 : Value)]) h (konF Tryz.f31 K) := by kernel_rfl
def E_code_Writer_U8_of (f : Y8) : List Value → Heap → YV → Prop
  | [v0, v1], h, K => dec1 .ptr v0 fun (w1 : Option Addr) =>
  dec1 (.int .u8) v1 fun (n2 : Int) =>
  f w1 n2 h (fun  (h : Heap) => K (.tuple #[]) h)
  | _, _, _ => False
abbrev E_code_Writer_U8 := E_code_Writer_U8_of F_code_Writer_U8
theorem E_code_Writer_U8.right : IsRight Tryz.prog 31 E_code_Writer_U8 := by
  refine isRight fun vs K w hh => ?_
  match vs, hh with
  | [v0, v1], hh =>
    unfold E_code_Writer_U8 E_code_Writer_U8_of at hh
    replace hh := dec1_sound hh; obtain ⟨w1, rfl, hh⟩ := hh
    replace hh := dec1_sound hh; obtain ⟨n2, rfl, hh⟩ := hh
    unfold F_code_Writer_U8 at hh
    exact calls_den (fn1_right ok54 E_code_Writer_fixed.right noFns_right) plan31 _ w K Tryz.func31 (by kernel_rfl) (by kernel_rfl) (Eq.mp (F_code_Writer_U8.eq F_code_Writer_fixed w1 n2 w.heap K) hh)
theorem ok31 : okFn Tryz.prog 31 = true := by kernel_rfl
def F_code_Writer_U32_of (f54_ : Y14) (w1 : Option Addr) (n2 : Int) (h : Heap) (Q : Heap → Prop) : Prop :=
  f54_ w1 (IntKind.u64.wrap n2) 4 h fun  (h3 : Heap) =>
  Q h3
def F_code_Writer_U32 (w1 : Option Addr) (n2 : Int) (h : Heap) (Q : Heap → Prop) : Prop := F_code_Writer_U32_of F_code_Writer_fixed w1 n2 h Q
def plan33 : Plan := .r []
theorem F_code_Writer_U32.eq (f54_ : Y14) (w1 : Option Addr) (n2 : Int) (h : Heap) (K : YV) : F_code_Writer_U32_of f54_ w1 n2 h (fun  (h : Heap) => K (.tuple #[]) h) =
    den Tryz.prog (fn1 54 (E_code_Writer_fixed_of f54_) noFns) Tryz.f33.ntmps plan33 (bodyOf Tryz.f33) (args0 0 [(.pointer w1 : Value), (.int .u32 n2 : Value)]) h (konF Tryz.f33 K) := by kernel_rfl
def E_code_Writer_U32_of (f : Y8) : List Value → Heap → YV → Prop
  | [v0, v1], h, K => dec1 .ptr v0 fun (w1 : Option Addr) =>
  dec1 (.int .u32) v1 fun (n2 : Int) =>
  f w1 n2 h (fun  (h : Heap) => K (.tuple #[]) h)
  | _, _, _ => False
abbrev E_code_Writer_U32 := E_code_Writer_U32_of F_code_Writer_U32
theorem E_code_Writer_U32.right : IsRight Tryz.prog 33 E_code_Writer_U32 := by
  refine isRight fun vs K w hh => ?_
  match vs, hh with
  | [v0, v1], hh =>
    unfold E_code_Writer_U32 E_code_Writer_U32_of at hh
    replace hh := dec1_sound hh; obtain ⟨w1, rfl, hh⟩ := hh
    replace hh := dec1_sound hh; obtain ⟨n2, rfl, hh⟩ := hh
    unfold F_code_Writer_U32 at hh
    exact calls_den (fn1_right ok54 E_code_Writer_fixed.right noFns_right) plan33 _ w K Tryz.func33 (by kernel_rfl) (by kernel_rfl) (Eq.mp (F_code_Writer_U32.eq F_code_Writer_fixed w1 n2 w.heap K) hh)
theorem ok33 : okFn Tryz.prog 33 = true := by kernel_rfl
def F_code_Writer_Bytes_of (f64_ : Y8) (f132_ : Y16) (w1 : Option Addr) (b2 : Sl) (h : Heap) (Q : Heap → Prop) : Prop :=
  f64_ w1 (IntKind.u64.wrap ((b2.len : Nat) : Int)) h fun  (h3 : Heap) =>
  f132_ w1 b2 h3 fun  (h4 : Heap) =>
  Q h4
def F_code_Writer_Bytes (w1 : Option Addr) (b2 : Sl) (h : Heap) (Q : Heap → Prop) : Prop := F_code_Writer_Bytes_of F_code_Writer_Var F_code_Writer_Raw w1 b2 h Q
def plan71 : Plan := .s (.r [0, 1]) (.r [])
theorem F_code_Writer_Bytes.eq (f64_ : Y8) (f132_ : Y16) (w1 : Option Addr) (b2 : Sl) (h : Heap) (K : YV) : F_code_Writer_Bytes_of f64_ f132_ w1 b2 h (fun  (h : Heap) => K (.tuple #[]) h) =
    den Tryz.prog (fn1 64 (E_code_Writer_Var_of f64_) (fn1 132 (E_code_Writer_Raw_of f132_) noFns)) Tryz.f71.ntmps plan71 (bodyOf Tryz.f71) (args0 0 [(.pointer w1 : Value), (.slice b2.ptr b2.len b2.cap : Value)]) h (konF Tryz.f71 K) := by kernel_rfl
def E_code_Writer_Bytes_of (f : Y16) : List Value → Heap → YV → Prop
  | [v0, v1], h, K => dec1 .ptr v0 fun (w1 : Option Addr) =>
  dec1 .sl v1 fun (b2 : Sl) =>
  f w1 b2 h (fun  (h : Heap) => K (.tuple #[]) h)
  | _, _, _ => False
abbrev E_code_Writer_Bytes := E_code_Writer_Bytes_of F_code_Writer_Bytes
theorem E_code_Writer_Bytes.right : IsRight Tryz.prog 71 E_code_Writer_Bytes := by
  refine isRight fun vs K w hh => ?_
  match vs, hh with
  | [v0, v1], hh =>
    unfold E_code_Writer_Bytes E_code_Writer_Bytes_of at hh
    replace hh := dec1_sound hh; obtain ⟨w1, rfl, hh⟩ := hh
    replace hh := dec1_sound hh; obtain ⟨b2, rfl, hh⟩ := hh
    unfold F_code_Writer_Bytes at hh
    exact calls_den (fn1_right ok64 E_code_Writer_Var.right (fn1_right ok132 E_code_Writer_Raw.right noFns_right)) plan71 _ w K Tryz.func71 (by kernel_rfl) (by kernel_rfl) (Eq.mp (F_code_Writer_Bytes.eq F_code_Writer_Var F_code_Writer_Raw w1 b2 w.heap K) hh)
theorem ok71 : okFn Tryz.prog 71 = true := by kernel_rfl
def F_code_Writer_Out_of (f91_ : Y7) (w1 : Option Addr) (h : Heap) (Q : Sl → Heap → Prop) : Prop :=
  nn w1 fun (a2 : Addr) =>
  ld [.sl] (a2.add 0) h fun (v3 : Sl) =>
  f91_ v3 h fun (r4 : Sl) (h5 : Heap) =>
  Q r4 h5
def F_code_Writer_Out (w1 : Option Addr) (h : Heap) (Q : Sl → Heap → Prop) : Prop := F_code_Writer_Out_of F_code_taken w1 h Q
def plan35 : Plan := .s (.r [0]) (.s (.r [2]) .z)
theorem F_code_Writer_Out.eq (f91_ : Y7) (w1 : Option Addr) (h : Heap) (K : YV) : F_code_Writer_Out_of f91_ w1 h (fun (r0 : Sl) (h : Heap) => K (.slice r0.ptr r0.len r0.cap) h) =
    den Tryz.prog (fn1 91 (E_code_taken_of f91_) noFns) Tryz.f35.ntmps plan35 (bodyOf Tryz.f35) (args0 0 [(.pointer w1 : Value)]) h (konF Tryz.f35 K) := by kernel_rfl
def E_code_Writer_Out_of (f : Y18) : List Value → Heap → YV → Prop
  | [v0], h, K => dec1 .ptr v0 fun (w1 : Option Addr) =>
  f w1 h (fun (r0 : Sl) (h : Heap) => K (.slice r0.ptr r0.len r0.cap) h)
  | _, _, _ => False
abbrev E_code_Writer_Out := E_code_Writer_Out_of F_code_Writer_Out
theorem E_code_Writer_Out.right : IsRight Tryz.prog 35 E_code_Writer_Out := by
  refine isRight fun vs K w hh => ?_
  match vs, hh with
  | [v0], hh =>
    unfold E_code_Writer_Out E_code_Writer_Out_of at hh
    replace hh := dec1_sound hh; obtain ⟨w1, rfl, hh⟩ := hh
    unfold F_code_Writer_Out at hh
    exact calls_den (fn1_right ok91 E_code_taken.right noFns_right) plan35 _ w K Tryz.func35 (by kernel_rfl) (by kernel_rfl) (Eq.mp (F_code_Writer_Out.eq F_code_taken w1 w.heap K) hh)
theorem ok35 : okFn Tryz.prog 35 = true := by kernel_rfl
def F_code_New_of   (h : Heap) (Q : Option Addr → Heap → Prop) : Prop :=
  al 116 [.slice none 0 0] h fun (a1 : Addr) (h2 : Heap) =>
  Q (some a1) h2
def F_code_New  (h : Heap) (Q : Option Addr → Heap → Prop) : Prop := F_code_New_of   h Q
def plan30 : Plan := .s (.r []) (.s (.r [0]) .z)
theorem F_code_New.eq   (h : Heap) (K : YV) : F_code_New_of   h (fun (r0 : Option Addr) (h : Heap) => K (.pointer r0) h) =
    den Tryz.prog noFns Tryz.f30.ntmps plan30 (bodyOf Tryz.f30) (args0 0 []) h (konF Tryz.f30 K) := by kernel_rfl
def E_code_New_of (f : Y26) : List Value → Heap → YV → Prop
  | [], h, K => f  h (fun (r0 : Option Addr) (h : Heap) => K (.pointer r0) h)
  | _, _, _ => False
abbrev E_code_New := E_code_New_of F_code_New
theorem E_code_New.nil (f : Y26) (h : Heap) (K : YV) : E_code_New_of f [] h K = f  h (fun (r0 : Option Addr) (h : Heap) => K (.pointer r0) h) := rfl
theorem E_code_New.right : IsRight Tryz.prog 30 E_code_New := by
  refine isRight fun vs K w hh => ?_
  match vs, hh with
  | [], hh =>
    replace hh := Eq.mp (E_code_New.nil F_code_New w.heap K) hh
    unfold F_code_New at hh
    exact calls_den noFns_right plan30 _ w K Tryz.func30 (by kernel_rfl) (by kernel_rfl) (Eq.mp (F_code_New.eq   w.heap K) hh)
theorem ok30 : okFn Tryz.prog 30 = true := by kernel_rfl
def F_ref1_Text_of (f142_ : Y15) (b1 : Sl) (h : Heap) (Q : Sl → Heap → Prop) : Prop :=
  f142_ (IntKind.u64.wrap ((b1.len : Nat) : Int)) h fun (r2 : Sl) (h3 : Heap) =>
  app 5 1 1 (.int .u8 0) r2 b1.ptr b1.len h3 fun (s4 : Sl) (h5 : Heap) =>
  Q s4 h5
def F_ref1_Text (b1 : Sl) (h : Heap) (Q : Sl → Heap → Prop) : Prop := F_ref1_Text_of F_ref1_Var b1 h Q
def plan143 : Plan := .s (.r [0]) (.s (.r [0, 3]) (.s (.r [3]) (.s (.r [2]) .z)))
theorem F_ref1_Text.eq (f142_ : Y15) (b1 : Sl) (h : Heap) (K : YV) : F_ref1_Text_of f142_ b1 h (fun (r0 : Sl) (h : Heap) => K (.slice r0.ptr r0.len r0.cap) h) =
    den Tryz.prog (fn1 142 (E_ref1_Var_of f142_) noFns) Tryz.f143.ntmps plan143 (bodyOf Tryz.f143) (args0 0 [(.slice b1.ptr b1.len b1.cap : Value)]) h (konF Tryz.f143 K) := by kernel_rfl
def E_ref1_Text_of (f : Y7) : List Value → Heap → YV → Prop
  | [v0], h, K => dec1 .sl v0 fun (b1 : Sl) =>
  f b1 h (fun (r0 : Sl) (h : Heap) => K (.slice r0.ptr r0.len r0.cap) h)
  | _, _, _ => False
abbrev E_ref1_Text := E_ref1_Text_of F_ref1_Text
theorem E_ref1_Text.right : IsRight Tryz.prog 143 E_ref1_Text := by
  refine isRight fun vs K w hh => ?_
  match vs, hh with
  | [v0], hh =>
    unfold E_ref1_Text E_ref1_Text_of at hh
    replace hh := dec1_sound hh; obtain ⟨b1, rfl, hh⟩ := hh
    unfold F_ref1_Text at hh
    exact calls_den (fn1_right ok142 E_ref1_Var.right noFns_right) plan143 _ w K Tryz.func143 (by kernel_rfl) (by kernel_rfl) (Eq.mp (F_ref1_Text.eq F_ref1_Var b1 w.heap K) hh)
theorem ok143 : okFn Tryz.prog 143 = true := by kernel_rfl
end Go.Proofs.YthiginhigfieiaaGreatDoor.V
/- The program's Writer and what the document writes. -/
namespace Go.Proofs.YthiginhigfieiaaGreatDoor.V
open Go Go.RowKit
set_option linter.unusedVariables false
set_option linter.unusedSimpArgs false
def varB (n : Nat) : List UInt8 := if n < 128 then [UInt8.ofNat n] else UInt8.ofNat (128 + n % 128) :: varB (n / 128)
decreasing_by omega
def fixB (n size : Nat) : List UInt8 := (List.range size).map fun i => UInt8.ofNat (n / 256 ^ (size - 1 - i))
theorem fixB_len (n size : Nat) : (fixB n size).length = size := by simp [fixB]
theorem varB_len : ∀ (k n : Nat), n < 128 ^ (k + 1) → (varB n).length ≤ k + 1 ∧ 1 ≤ (varB n).length
  | 0, n, h => by
    rw [varB, if_pos (by simpa using h)]
    simp
  | k + 1, n, h => by
    rw [varB]
    split
    · simp
    · have := varB_len k (n / 128) (by rw [Nat.div_lt_iff_lt_mul (by decide)]; rw [Nat.pow_succ] at h; exact h)
      simp only [List.length_cons]
      omega
theorem varB_le {n : Nat} (h : n < 18446744073709551616) : (varB n).length ≤ 10 ∧ 1 ≤ (varB n).length := varB_len 9 n (by omega)
def wrR (b : Nat) (l : List UInt8) : Res := ex fun s : Sl => sep (own b [.slice s.ptr s.len s.cap]) (buf 1 u8 s l)
theorem Sat.wr {h0 h : Heap} {L : List Res} {b : Nat} {l : List UInt8} (O : Sat h0 h (wrR b l :: L)) : ∃ s : Sl, Sat h0 h (own b [.slice s.ptr s.len s.cap] :: buf 1 u8 s l :: L) := by
  obtain ⟨s, O⟩ := O.ex
  exact ⟨s, O.sep⟩
theorem Sat.wrI {h0 h : Heap} {L : List Res} {b : Nat} {l : List UInt8} {s : Sl} (O : Sat h0 h (own b [.slice s.ptr s.len s.cap] :: buf 1 u8 s l :: L)) : Sat h0 h (wrR b l :: L) := O.sepI.exI s
def BL (n b : Nat) : Prop := n < 2 ^ b ∧ (b = 0 ∨ 2 ^ (b - 1) ≤ n)
theorem BL.shift {n b k : Nat} (h : BL (n / 2 ^ k) b) (hn : 2 ^ k ≤ n) : BL n (b + k) := by
  have hp : 0 < 2 ^ k := Nat.pow_pos (by decide)
  have h1 : 1 ≤ n / 2 ^ k := (Nat.le_div_iff_mul_le hp).2 (by omega)
  obtain ⟨h2, h3⟩ := h
  refine ⟨?_, .inr ?_⟩
  · rw [Nat.pow_add]
    exact (Nat.div_lt_iff_lt_mul hp).1 h2
  · rcases h3 with h3 | h3
    · subst h3; simp at h2; omega
    · have hb : b ≠ 0 := by intro e; subst e; simp at h2; omega
      rw [show b + k - 1 = (b - 1) + k by omega, Nat.pow_add]
      exact (Nat.le_div_iff_mul_le hp).1 h3
theorem BL.count {n b : Nat} (h : BL n b) : n < 128 ^ (((if b > 1 then b else 1) - 1) / 7 + 1) ∧ (((if b > 1 then b else 1) - 1) / 7 = 0 ∨ 128 ^ (((if b > 1 then b else 1) - 1) / 7) ≤ n) := by
  obtain ⟨h1, h2⟩ := h
  have e : ∀ c, 128 ^ c = 2 ^ (7 * c) := fun c => by rw [Nat.pow_mul]
  rw [e, e]
  refine ⟨Nat.lt_of_lt_of_le h1 (Nat.pow_le_pow_right (by decide) ?_), ?_⟩
  · split <;> omega
  · by_cases hb : b > 1
    · rw [if_pos hb]
      right
      rcases h2 with h2 | h2
      · omega
      · exact Nat.le_trans (Nat.pow_le_pow_right (by decide) (by omega)) h2
    · rw [if_neg hb]; left; rfl
section
variable {h0 h : Heap} {L : List Res}
theorem shr64 (a k : Nat) (hk : k ≤ 64) : (a : Int).fdiv (2 ^ min (k : Int).toNat IntKind.u64.bits) = ((a / 2 ^ k : Nat) : Int) := by
  have h : min (k : Int).toNat IntKind.u64.bits = k := by
    show min (k : Int).toNat 64 = k
    omega
  rw [h, Int.fdiv_eq_ediv_of_nonneg _ (Int.pow_nonneg (by omega))]
  simp
set_option maxRecDepth 20000 in
theorem F_math_bits_Len64.is {n : Nat} {Q : Int → Heap → Prop} (hn : n < 18446744073709551616) (k : ∀ b : Nat, b ≤ 64 → BL n b → Q b h) : F_math_bits_Len64 n h Q := by
  rw [F_math_bits_Len64.eq_1, F_math_bits_Len64_of.eq_1]
  refine jn2 (fun (x y : Int) h' => h' = h ∧ ∃ a c : Nat, x = a ∧ y = c ∧ a < 4294967296 ∧ c ≤ 32 ∧ ∀ b : Nat, BL a b → b ≤ 32 → BL n (b + c)) ?_ ?_
  · rintro x y h ⟨rfl, a, c, rfl, rfl, ha, hc, hb⟩
    refine jn2 (fun (x y : Int) h' => h' = h ∧ ∃ a c : Nat, x = a ∧ y = c ∧ a < 65536 ∧ c ≤ 48 ∧ ∀ b : Nat, BL a b → b ≤ 16 → BL n (b + c)) ?_ ?_
    · clear ha hc hb a c
      rintro x y h ⟨rfl, a, c, rfl, rfl, ha, hc, hb⟩
      refine jn2 (fun (x y : Int) h' => h' = h ∧ ∃ a c : Nat, x = a ∧ y = c ∧ a < 256 ∧ c ≤ 56 ∧ ∀ b : Nat, BL a b → b ≤ 8 → BL n (b + c)) ?_ ?_
      · clear ha hc hb a c
        rintro x y h ⟨rfl, a, c, rfl, rfl, ha, hc, hb⟩
        have key : ∀ a : Fin 256, ∃ b : Nat, b ≤ 8 ∧ BL a b ∧ (⟨#[0, 1, 2, 2, 3, 3, 3, 3, 4, 4, 4, 4, 4, 4, 4, 4, 5, 5, 5, 5, 5, 5, 5, 5, 5, 5, 5, 5, 5, 5, 5, 5, 6, 6, 6, 6, 6, 6, 6, 6, 6, 6, 6, 6, 6, 6, 6, 6, 6, 6, 6, 6, 6, 6, 6, 6, 6, 6, 6, 6, 6, 6, 6, 6, 7, 7, 7, 7, 7, 7, 7, 7, 7, 7, 7, 7, 7, 7, 7, 7, 7, 7, 7, 7, 7, 7, 7, 7, 7, 7, 7, 7, 7, 7, 7, 7, 7, 7, 7, 7, 7, 7, 7, 7, 7, 7, 7, 7, 7, 7, 7, 7, 7, 7, 7, 7, 7, 7, 7, 7, 7, 7, 7, 7, 7, 7, 7, 7, 8, 8, 8, 8, 8, 8, 8, 8, 8, 8, 8, 8, 8, 8, 8, 8, 8, 8, 8, 8, 8, 8, 8, 8, 8, 8, 8, 8, 8, 8, 8, 8, 8, 8, 8, 8, 8, 8, 8, 8, 8, 8, 8, 8, 8, 8, 8, 8, 8, 8, 8, 8, 8, 8, 8, 8, 8, 8, 8, 8, 8, 8, 8, 8, 8, 8, 8, 8, 8, 8, 8, 8, 8, 8, 8, 8, 8, 8, 8, 8, 8, 8, 8, 8, 8, 8, 8, 8, 8, 8, 8, 8, 8, 8, 8, 8, 8, 8, 8, 8, 8, 8, 8, 8, 8, 8, 8, 8, 8, 8, 8, 8, 8, 8, 8, 8, 8, 8, 8, 8, 8, 8, 8, 8, 8, 8, 8, 8]⟩ : ByteArray)[a.val]? = some (UInt8.ofNat b) := by
          have : ∀ a : Fin 256, (List.range 9).any (fun b => decide (a.val < 2 ^ b) && (decide (b = 0) || decide (2 ^ (b - 1) ≤ a.val)) && decide ((⟨#[0, 1, 2, 2, 3, 3, 3, 3, 4, 4, 4, 4, 4, 4, 4, 4, 5, 5, 5, 5, 5, 5, 5, 5, 5, 5, 5, 5, 5, 5, 5, 5, 6, 6, 6, 6, 6, 6, 6, 6, 6, 6, 6, 6, 6, 6, 6, 6, 6, 6, 6, 6, 6, 6, 6, 6, 6, 6, 6, 6, 6, 6, 6, 6, 7, 7, 7, 7, 7, 7, 7, 7, 7, 7, 7, 7, 7, 7, 7, 7, 7, 7, 7, 7, 7, 7, 7, 7, 7, 7, 7, 7, 7, 7, 7, 7, 7, 7, 7, 7, 7, 7, 7, 7, 7, 7, 7, 7, 7, 7, 7, 7, 7, 7, 7, 7, 7, 7, 7, 7, 7, 7, 7, 7, 7, 7, 7, 7, 8, 8, 8, 8, 8, 8, 8, 8, 8, 8, 8, 8, 8, 8, 8, 8, 8, 8, 8, 8, 8, 8, 8, 8, 8, 8, 8, 8, 8, 8, 8, 8, 8, 8, 8, 8, 8, 8, 8, 8, 8, 8, 8, 8, 8, 8, 8, 8, 8, 8, 8, 8, 8, 8, 8, 8, 8, 8, 8, 8, 8, 8, 8, 8, 8, 8, 8, 8, 8, 8, 8, 8, 8, 8, 8, 8, 8, 8, 8, 8, 8, 8, 8, 8, 8, 8, 8, 8, 8, 8, 8, 8, 8, 8, 8, 8, 8, 8, 8, 8, 8, 8, 8, 8, 8, 8, 8, 8, 8, 8, 8, 8, 8, 8, 8, 8, 8, 8, 8, 8, 8, 8, 8, 8, 8, 8, 8, 8]⟩ : ByteArray)[a.val]? = some (UInt8.ofNat b))) = true := by decide +kernel
          intro a
          have := this a
          obtain ⟨b, h1, h2⟩ := List.any_eq_true.1 this
          rw [Bool.and_eq_true, Bool.and_eq_true, Bool.or_eq_true] at h2
          obtain ⟨⟨h2, h3⟩, h4⟩ := h2
          exact ⟨b, by have := List.mem_range.1 h1; omega, ⟨of_decide_eq_true h2, h3.imp of_decide_eq_true of_decide_eq_true⟩, of_decide_eq_true h4⟩
        obtain ⟨b, hb8, hbl, hat⟩ := key ⟨a, ha⟩
        rw [wrapu8 (x := (a : Int)) (by omega) (by omega)]
        refine ⟨UInt8.ofNat b, by omega, hat, ?_⟩
        have hbn : (UInt8.ofNat b).toNat = b := by rw [UInt8.toNat_ofNat']; omega
        show Q (IntKind.i64.wrap ((c : Int) + IntKind.i64.wrap ((UInt8.ofNat b).toNat : Int))) h
        rw [hbn, wrap64 (x := (b : Int)) (by omega) (by omega), wrap64 (by omega) (by omega)]
        have := k (b + c) (by omega) (hb b hbl hb8)
        rw [show (c : Int) + (b : Int) = ((b + c : Nat) : Int) by omega]
        exact this
      · intro j hj
        refine brr_p (fun hlt => ?_) (fun hlt => ?_)
        · refine ⟨by decide, ?_⟩
          rw [show ((8 : Int)) = ((8 : Nat) : Int) from rfl, shr64 a 8 (by decide), wrap64 (by omega) (by omega)]
          refine hj _ _ _ ⟨rfl, a / 2 ^ 8, c + 8, rfl, by omega, by omega, by omega, fun b h1 h2 => ?_⟩
          have := hb _ (h1.shift (by omega)) (by omega)
          rwa [show b + (c + 8) = b + 8 + c by omega]
        · exact hj _ _ _ ⟨rfl, a, c, rfl, rfl, by omega, by omega, fun b h1 h2 => hb b h1 (by omega)⟩
    · intro j hj
      refine brr_p (fun hlt => ?_) (fun hlt => ?_)
      · refine ⟨by decide, ?_⟩
        rw [show ((16 : Int)) = ((16 : Nat) : Int) from rfl, shr64 a 16 (by decide), wrap64 (by omega) (by omega)]
        refine hj _ _ _ ⟨rfl, a / 2 ^ 16, c + 16, rfl, by omega, by omega, by omega, fun b h1 h2 => ?_⟩
        have := hb _ (h1.shift (by omega)) (by omega)
        rwa [show b + (c + 16) = b + 16 + c by omega]
      · exact hj _ _ _ ⟨rfl, a, c, rfl, rfl, by omega, by omega, fun b h1 h2 => hb b h1 (by omega)⟩
  · intro j hj
    refine brr_p (fun hlt => ?_) (fun hlt => ?_)
    · refine ⟨by decide, ?_⟩
      rw [show ((32 : Int)) = ((32 : Nat) : Int) from rfl, shr64 n 32 (by decide)]
      exact hj _ _ _ ⟨rfl, n / 2 ^ 32, 32, rfl, rfl, by omega, by omega, fun b h1 h2 => h1.shift (by omega)⟩
    · exact hj _ _ _ ⟨rfl, n, 0, rfl, rfl, by omega, by omega, fun b h1 h2 => h1⟩
theorem F_code_New.is {Q : Option Addr → Heap → Prop} (O : Sat h0 h L) (k : ∀ b h', Sat h0 h' (wrR b [] :: L) → Q (some (pt b 0)) h') : F_code_New h Q := by
  rw [F_code_New.eq_1, F_code_New_of.eq_1]
  refine O.al fun b h O => ?_
  refine k b h ?_
  have O := (O.nil_buf (sz := 1) (enc := u8)).swap
  exact O.wrI (s := ⟨none, 0, 0⟩)
theorem F_code_taken.is {a : Sl} {xs : List UInt8} {Q : Sl → Heap → Prop} (O : Sat h0 h L) (V1 : Bytes h a xs) (h1 : xs.length ≤ 281474976710656) (k : ∀ s h', Sat h0 h' (buf 1 u8 s xs :: L) → s.len = xs.length → s.ptr ≠ none → Q s h') : F_code_taken a h Q := by
  rw [F_code_taken.eq_1, F_code_taken_of.eq_1]
  have := F_ref0_Copy.is O V1 h1 k
  rw [F_ref0_Copy.eq_1, F_ref0_Copy_of.eq_1] at this
  exact this
theorem F_code_Writer_Out.is {b : Nat} {l : List UInt8} {Q : Sl → Heap → Prop} (O : Sat h0 h (wrR b l :: L)) (hl : l.length ≤ (140737488355328 : Nat)) (k : ∀ s h', Sat h0 h' (buf 1 u8 s l :: wrR b l :: L) → Q s h') : F_code_Writer_Out (some (pt b 0)) h Q := by
  rw [F_code_Writer_Out.eq_1, F_code_Writer_Out_of.eq_1]
  simp only [nn_some, pt_add, Nat.zero_add, Nat.add_zero, Nat.reduceAdd, Nat.reduceMul, Int.toNat_zero, Int.toNat_one, Nat.zero_mul, Nat.one_mul]
  obtain ⟨s, O⟩ := O.wr
  refine O.ld 0 rfl (ldL_c (ldL_n ?_))
  refine F_code_taken.is O (O.view 1 u8_len (by simp) rfl).1 (by omega) fun s2 h O _ _ => ?_
  refine k s2 h ?_
  have O := O.sel [1, 2, 0] 3 rfl (Nat.le_add_left _ _)
  simp only [selT, List.map, nth, List.drop, List.cons_append, List.nil_append] at O
  exact O.wrI.swap
theorem F_code_Writer_Raw.is {b : Nat} {l ys : List UInt8} {a : Sl} {Q : Heap → Prop} (O : Sat h0 h (wrR b l :: L)) (V1 : Bytes h a ys) (hl : l.length + ys.length ≤ (140737488355328 : Nat)) (k : ∀ h', Sat h0 h' (wrR b (l ++ ys) :: L) → Q h') : F_code_Writer_Raw (some (pt b 0)) a h Q := by
  rw [F_code_Writer_Raw.eq_1, F_code_Writer_Raw_of.eq_1]
  simp only [nn_some, pt_add, Nat.zero_add, Nat.add_zero, Nat.reduceAdd, Nat.reduceMul, Int.toNat_zero, Int.toNat_one, Nat.zero_mul, Nat.one_mul]
  obtain ⟨s, O⟩ := O.wr
  refine O.ld 0 rfl (ldL_c (ldL_n ?_))
  have O := O.swap
  refine O.app_buf u8_len u8_one rfl (ys := ys) V1.len (V1.len ▸ V1.rd u8_len) (by omega) fun s2 h O hs => ?_
  have O := O.swap
  refine O.st 0 rfl (by simp) rfl fun h O => ?_
  dsimp only [V.put, List.set] at O
  exact k _ (Sat.wrI (s := s2) O)
theorem wr_push {b : Nat} {l : List UInt8} {s : Sl} {T T' : Nat} {x : UInt8} {cs : List Value} {K : Heap → Prop} (O : Sat h0 h (own b [.slice s.ptr s.len s.cap] :: buf 1 u8 s l :: L)) (hc : cs = u8 x) (hl : l.length + 1 ≤ (140737488355328 : Nat)) (k : ∀ h', Sat h0 h' (wrR b (l ++ [x]) :: L) → K h') :
    al T' cs h fun a h1 => app T 1 1 (.int .u8 0) s (some a) 1 h1 fun s2 h2 => st (pt b 0) [.slice s2.ptr s2.len s2.cap] h2 K := by
  refine O.swap.push_buf x hc u8_len u8_one rfl (by omega) fun s2 h2 O hs => ?_
  have O := O.swap
  refine O.st 0 rfl (by simp) rfl fun h O => ?_
  dsimp only [V.put, List.set] at O
  exact k _ (Sat.wrI (s := s2) O)
theorem fixB_at {n size i : Nat} (hi : i < size) : (fixB n size)[i]? = some (UInt8.ofNat (n / 256 ^ (size - 1 - i))) := by simp [fixB, hi]
theorem pow256 (k : Nat) : 256 ^ k = 2 ^ (8 * k) := by rw [Nat.pow_mul]
theorem wrap8_ofNat (n : Nat) : IntKind.u8.wrap (n : Int) = ((UInt8.ofNat n).toNat : Int) := by
  unfold IntKind.wrap
  simp [IntKind.bits, IntKind.signed]
theorem F_code_Writer_fixed.is {b n size : Nat} {l : List UInt8} {Q : Heap → Prop} (O : Sat h0 h (wrR b l :: L)) (hs : 0 < size) (hs8 : size ≤ 8) (hl : l.length + 8 ≤ (140737488355328 : Nat)) (k : ∀ h', Sat h0 h' (wrR b (l ++ fixB n size) :: L) → Q h') : F_code_Writer_fixed (some (pt b 0)) n size h Q := by
  rw [F_code_Writer_fixed.eq_1, F_code_Writer_fixed_of.eq_1]
  refine jn0 (fun h' => Sat h0 h' (wrR b (l ++ fixB n size) :: L)) (fun h O => k h O) fun j hj => ?_
  rw [F_code_Writer_fixed.l1.eq_1]
  simp only [nn_some, pt_add, Nat.zero_add, Nat.add_zero, Nat.reduceAdd, Nat.reduceMul, Int.toNat_zero, Int.toNat_one, Nat.zero_mul, Nat.one_mul]
  refine wl1 (k := .int .i64) (fun (m : Nat) (i : Int) (h' : Heap) => 0 ≤ i ∧ i + m = size ∧ Sat h0 h' (wrR b (l ++ (fixB n size).take i.toNat) :: L)) ?_ (m := size) ⟨by omega, by omega, by simpa using O⟩
  clear O
  intro m (i : Int) h next hn ⟨hi0, him, O⟩
  refine brr_p (fun hlt => ?_) (fun hlt => ?_)
  · obtain ⟨s, O⟩ := O.wr
    refine O.ld 0 rfl (ldL_c (ldL_n ?_))
    rw [wrap64 (x := (size : Int) - 1) (by omega) (by omega), wrap64 (x := (size : Int) - 1 - i) (by omega) (by omega), wrap64 (x := 8 * ((size : Int) - 1 - i)) (by omega) (by omega)]
    refine ⟨by omega, ?_⟩
    have e8 : 8 * ((size : Int) - 1 - i) = ((8 * (size - 1 - i.toNat) : Nat) : Int) := by omega
    rw [e8, shr64 n _ (by omega), ← pow256, wrap8_ofNat]
    refine O.al fun b2 h2 O => ?_
    refine ⟨O.cells 1 rfl 0 1, ?_⟩
    have hlen : (l ++ (fixB n size).take i.toNat).length ≤ l.length + 7 := by
      rw [List.length_append, List.length_take, fixB_len]; omega
    have O := O.sel [2, 0, 1] 3 rfl (Nat.le_add_left _ _)
    simp only [selT, List.map, nth, List.drop, List.cons_append, List.nil_append] at O
    have hr := rdP_own O 1 rfl 1 (by simp)
    refine O.app_buf u8_len u8_one rfl (ys := [UInt8.ofNat (n / 256 ^ (size - 1 - i.toNat))]) rfl hr (by simp only [List.length_cons, List.length_nil]; omega) fun s2 h2 O hs2 => ?_
    have O := O.sel [2, 0] 3 rfl (Nat.le_add_left _ _)
    simp only [selT, List.map, nth, List.drop, List.cons_append, List.nil_append] at O
    refine O.st 0 rfl (by simp) rfl fun h O => ?_
    dsimp only [V.put, List.set] at O
    have O := Sat.wrI (s := s2) O
    rw [wrap64 (by omega) (by omega)]
    refine hn (m - 1) _ _ (by omega) ⟨by omega, by omega, ?_⟩
    rw [show (i + 1).toNat = i.toNat + 1 by omega, take_succ_eq (fixB_at (by omega)), ← List.append_assoc]
    exact O
  · refine hj _ ?_
    rw [List.take_of_length_le (by rw [fixB_len]; omega)] at O
    exact O
theorem F_code_Writer_U8.is {b n : Nat} {l : List UInt8} {Q : Heap → Prop} (O : Sat h0 h (wrR b l :: L)) (hn : n < 256) (hl : l.length + 8 ≤ (140737488355328 : Nat)) (k : ∀ h', Sat h0 h' (wrR b (l ++ fixB n 1) :: L) → Q h') : F_code_Writer_U8 (some (pt b 0)) n h Q := by
  rw [F_code_Writer_U8.eq_1, F_code_Writer_U8_of.eq_1]
  rw [wrapu64 (by omega) (by omega)]
  exact F_code_Writer_fixed.is (size := 1) O (by decide) (by decide) hl k
theorem F_code_Writer_U32.is {b n : Nat} {l : List UInt8} {Q : Heap → Prop} (O : Sat h0 h (wrR b l :: L)) (hn : n < 4294967296) (hl : l.length + 8 ≤ (140737488355328 : Nat)) (k : ∀ h', Sat h0 h' (wrR b (l ++ fixB n 4) :: L) → Q h') : F_code_Writer_U32 (some (pt b 0)) n h Q := by
  rw [F_code_Writer_U32.eq_1, F_code_Writer_U32_of.eq_1]
  rw [wrapu64 (by omega) (by omega)]
  exact F_code_Writer_fixed.is (size := 4) O (by decide) (by decide) hl k
theorem or128 (n : Nat) : IntKind.u8.wrap (BitVec.ofInt IntKind.u8.bits (IntKind.u8.wrap (n : Int)) ||| BitVec.ofInt IntKind.u8.bits 128).toNat = ((UInt8.ofNat (128 + n % 128)).toNat : Int) := by
  rw [wrap8_ofNat n]
  have key : ∀ c : Fin 256, IntKind.u8.wrap (BitVec.ofInt IntKind.u8.bits (c.val : Int) ||| BitVec.ofInt IntKind.u8.bits 128).toNat = ((UInt8.ofNat (128 + c.val % 128)).toNat : Int) := by decide +kernel
  have h := key ⟨(UInt8.ofNat n).toNat, (UInt8.ofNat n).toNat_lt⟩
  simp only at h
  rw [h]
  congr 3
  have : (UInt8.ofNat n).toNat = n % 256 := by simp
  rw [this]
  omega
theorem F_code_Writer_Var.is {b n : Nat} {l : List UInt8} {Q : Heap → Prop} (O : Sat h0 h (wrR b l :: L)) (hn : n < 18446744073709551616) (hl : l.length + 10 ≤ (140737488355328 : Nat)) (k : ∀ h', Sat h0 h' (wrR b (l ++ varB n) :: L) → Q h') : F_code_Writer_Var (some (pt b 0)) n h Q := by
  rw [F_code_Writer_Var.eq_1, F_code_Writer_Var_of.eq_1]
  simp only [nn_some, pt_add, Nat.zero_add, Nat.add_zero, Nat.reduceAdd, Nat.reduceMul, Int.toNat_zero, Int.toNat_one, Nat.zero_mul, Nat.one_mul]
  refine F_math_bits_Len64.is hn fun bl hb64 hbl => ?_
  refine ⟨by decide, ?_⟩
  obtain ⟨c1, c2⟩ := hbl.count
  have hc : ((if bl > 1 then bl else 1) - 1) / 7 ≤ 9 := by split <;> omega
  have ec : IntKind.i64.wrap ((IntKind.i64.wrap ((if (bl : Int) > 1 then (bl : Int) else 1) - 1)).tdiv 7) = ((((if bl > 1 then bl else 1) - 1) / 7 : Nat) : Int) := by
    rw [wrap64 (x := (if (bl : Int) > 1 then (bl : Int) else 1) - 1) (by split <;> omega) (by split <;> omega), Int.tdiv_eq_ediv_of_nonneg (by split <;> omega), wrap64 (by split <;> omega) (by split <;> omega)]
    split <;> split <;> omega
  generalize hcc : ((if bl > 1 then bl else 1) - 1) / 7 = c at *
  refine jn1 (fun (x : Int) h' => ∃ (pre : List UInt8) (n' : Nat), x = n' ∧ n' < 128 ∧ varB n = pre ++ varB n' ∧ pre.length ≤ 9 ∧ Sat h0 h' (wrR b (l ++ pre) :: L)) ?_ ?_
  · clear O
    rintro x h ⟨pre, n', rfl, hn', hv, hp, O⟩
    obtain ⟨s, O⟩ := O.wr
    refine O.ld 0 rfl (ldL_c (ldL_n ?_))
    refine wr_push O (x := UInt8.ofNat n') (by rw [wrap8_ofNat]; rfl) (by rw [List.length_append]; omega) fun h O => ?_
    refine k h ?_
    rw [hv, varB, if_pos hn', ← List.append_assoc]
    exact O
  · intro j hj
    rw [F_code_Writer_Var.l1.eq_1, ec]
    simp only [nn_some, pt_add, Nat.zero_add, Nat.add_zero, Nat.reduceAdd, Nat.reduceMul, Int.toNat_zero, Int.toNat_one, Nat.zero_mul, Nat.one_mul]
    refine wl2 (k := .int .u64) (l := .int .i64) (fun (m : Nat) (x i : Int) (h' : Heap) => 0 ≤ i ∧ i + m = c ∧ ∃ (pre : List UInt8) (n' : Nat), x = n' ∧ n' < 128 ^ (m + 1) ∧ (m = 0 ∨ 128 ^ m ≤ n') ∧ varB n = pre ++ varB n' ∧ pre.length = i.toNat ∧ Sat h0 h' (wrR b (l ++ pre) :: L)) ?_ (m := c) ⟨by omega, by omega, [], n, rfl, c1, c2, rfl, rfl, by simpa using O⟩
    clear O
    rintro m (x : Int) (i : Int) h next hn2 ⟨hi0, him, pre, n', rfl, h1, h2, hv, hp, O⟩
    refine brr_p (fun hlt => ?_) (fun hlt => ?_)
    · obtain ⟨m, rfl⟩ : ∃ q, m = q + 1 := ⟨m - 1, by omega⟩
      have hge : 128 ^ (m + 1) ≤ n' := by
        rcases h2 with h2 | h2
        · omega
        · exact h2
      have h128 : 128 ≤ n' := Nat.le_trans (by rw [Nat.pow_succ]; have : 0 < 128 ^ m := Nat.pow_pos (by decide); omega) hge
      obtain ⟨s, O⟩ := O.wr
      refine O.ld 0 rfl (ldL_c (ldL_n ?_))
      refine wr_push O (x := UInt8.ofNat (128 + n' % 128)) (by rw [or128]; rfl) (by rw [List.length_append]; omega) fun h O => ?_
      refine ⟨by decide, ?_⟩
      rw [show ((7 : Int)) = ((7 : Nat) : Int) from rfl, shr64 n' 7 (by decide), wrap64 (by omega) (by omega)]
      refine hn2 m _ _ _ (by omega) ⟨by omega, by omega, pre ++ [UInt8.ofNat (128 + n' % 128)], n' / 2 ^ 7, rfl, ?_, ?_, ?_, by simp; omega, by rw [← List.append_assoc]; exact O⟩
      · rw [Nat.div_lt_iff_lt_mul (by decide)]
        rw [Nat.pow_succ 128 (m + 1)] at h1
        exact h1
      · right
        rw [Nat.le_div_iff_mul_le (by decide)]
        rw [Nat.pow_succ] at hge
        exact hge
      · rw [hv, varB, if_neg (by omega), List.append_assoc]
        rfl
    · have hm : m = 0 := by omega
      subst hm
      exact hj _ _ ⟨pre, n', rfl, by simpa using h1, hv, by omega, O⟩
theorem F_code_Writer_Bytes.is {b : Nat} {l ys : List UInt8} {a : Sl} {Q : Heap → Prop} (O : Sat h0 h (wrR b l :: L)) (V1 : Stays h0 L fun h => Bytes h a ys) (hl : l.length + ys.length + 10 ≤ (140737488355328 : Nat)) (k : ∀ h', Sat h0 h' (wrR b (l ++ (varB ys.length ++ ys)) :: L) → Q h') : F_code_Writer_Bytes (some (pt b 0)) a h Q := by
  rw [F_code_Writer_Bytes.eq_1, F_code_Writer_Bytes_of.eq_1]
  have V0 := V1 h O.drop
  rw [V0.len, wrapu64 (by omega) (by omega)]
  refine F_code_Writer_Var.is O (by omega) (by omega) fun h O => ?_
  have hv := (varB_le (n := ys.length) (by omega)).1
  refine F_code_Writer_Raw.is O (V1 h O.drop) (by rw [List.length_append]; omega) fun h O => ?_
  refine k h ?_
  rw [← List.append_assoc]
  exact O
set_option maxRecDepth 100000 in
theorem F_ref1_Var_fuel.is (d : Nat) : ∀ (n : Nat) {h0 h : Heap} {L : List Res} {Q : Sl → Heap → Prop}, n < 128 ^ (d + 1) → d ≤ 9 → n < 18446744073709551616 → Sat h0 h L → (∀ s h', Sat h0 h' (buf 1 u8 s (varB n) :: L) → Q s h') → F_ref1_Var_fuel (d + 1) n h Q := by
  have key : ∀ d' n : Nat, d' ≤ d → ∀ {h0 h : Heap} {L : List Res} {Q : Sl → Heap → Prop}, n < 128 ^ (d' + 1) → d' ≤ 9 → n < 18446744073709551616 → Sat h0 h L → (∀ s h', Sat h0 h' (buf 1 u8 s (varB n) :: L) → Q s h') → F_ref1_Var_fuel (d' + 1) n h Q := by
    intro d'
    induction d' with
    | zero =>
      intro n _ h0 h L Q hn hd hn2 O k
      rw [F_ref1_Var_fuel.eq_2]
      show F_ref1_Var_of (F_ref1_Var_fuel 0) (n : Int) h Q
      rw [F_ref1_Var_of.eq_1]
      refine brr_tt (by simp at hn ⊢; omega) ?_
      refine O.al fun b h O => ?_
      rw [wrap8_ofNat] at O
      have O : Sat h0 h (own b ([UInt8.ofNat n].flatMap u8 ++ []) :: L) := O
      have O := (O.own_buf (k := 0) (sz := 1) (by simp)).bufsI
      refine k _ h ?_
      rw [varB, if_pos (by simpa using hn)]
      exact O
    | succ d ih =>
    intro n hdd h0 h L Q hn hd hn2 O k
    rw [F_ref1_Var_fuel.eq_2]
    show F_ref1_Var_of (F_ref1_Var_fuel (d + 1)) (n : Int) h Q
    rw [F_ref1_Var_of.eq_1]
    refine brr_p (fun hlt => ?_) (fun hlt => ?_)
    · refine O.al fun b h O => ?_
      rw [wrap8_ofNat] at O
      have O : Sat h0 h (own b ([UInt8.ofNat n].flatMap u8 ++ []) :: L) := O
      have O := (O.own_buf (k := 0) (sz := 1) (by simp)).bufsI
      refine k _ h ?_
      rw [varB, if_pos (by omega)]
      exact O
    · refine ⟨by decide, ?_⟩
      have hw : IntKind.u8.wrap (IntKind.u64.wrap (128 + ((n : Int).tmod 128))) = ((UInt8.ofNat (128 + n % 128)).toNat : Int) := by
        rw [Int.tmod_eq_emod_of_nonneg (by omega), wrapu64 (by omega) (by omega), show (128 : Int) + (n : Int) % 128 = ((128 + n % 128 : Nat) : Int) by omega, wrap8_ofNat]
      rw [hw]
      refine O.al fun b h O => ?_
      refine ⟨by decide, ?_⟩
      have O : Sat h0 h (own b ([UInt8.ofNat (128 + n % 128)].flatMap u8 ++ []) :: L) := O
      have O := (O.own_buf (k := 0) (sz := 1) (by simp)).bufsI
      rw [show IntKind.u64.wrap ((n : Int).tdiv 128) = ((n / 128 : Nat) : Int) by rw [Int.tdiv_eq_ediv_of_nonneg (by omega), wrapu64 (by omega) (by omega)]; omega]
      have hlt2 : n / 128 < 128 ^ (d + 1) := by rw [Nat.div_lt_iff_lt_mul (by decide)]; rw [Nat.pow_succ] at hn; exact hn
      refine ih (n / 128) (by omega) hlt2 (by omega) (by omega) O fun s h O => ?_
      have hlv := varB_len d (n / 128) hlt2
      have V2 := (O.view 0 u8_len (by simp) rfl).1
      have O := O.swap
      refine O.app_buf u8_len u8_one rfl (ys := varB (n / 128)) V2.len (V2.len ▸ V2.rd u8_len) (by simp only [List.length_cons, List.length_nil]; omega) fun s2 h O hs => ?_
      refine k s2 h ?_
      rw [varB, if_neg (by omega)]
      have O := O.sel [0] 2 rfl (Nat.le_add_left _ _)
      simp only [selT, List.map, nth, List.drop, List.cons_append, List.nil_append] at O
      exact O
  intro n h0 h L Q a b c e f
  exact key d n (Nat.le_refl _) a b c e f
set_option maxRecDepth 100000 in
theorem F_ref1_Var.is {n : Nat} {Q : Sl → Heap → Prop} (O : Sat h0 h L) (hn : n < 18446744073709551616) (k : ∀ s h', Sat h0 h' (buf 1 u8 s (varB n) :: L) → Q s h') : F_ref1_Var n h Q := by
  rw [F_ref1_Var.eq_1]
  exact Exists.intro (9 + 1) (F_ref1_Var_fuel.is 9 n (Nat.lt_of_lt_of_le hn (by decide)) (by decide) hn O k)
theorem F_ref1_Text.is {a : Sl} {ys : List UInt8} {Q : Sl → Heap → Prop} (O : Sat h0 h L) (V1 : Stays h0 L fun h => Bytes h a ys) (hl : ys.length + 10 ≤ (140737488355328 : Nat)) (k : ∀ s h', Sat h0 h' (buf 1 u8 s (varB ys.length ++ ys) :: L) → Q s h') : F_ref1_Text a h Q := by
  rw [F_ref1_Text.eq_1, F_ref1_Text_of.eq_1]
  have V0 := V1 h O
  rw [V0.len, wrapu64 (by omega) (by omega)]
  refine F_ref1_Var.is O (by omega) fun s h O => ?_
  have V2 := V1 h O.drop
  have hv := (varB_le (n := ys.length) (by omega)).1
  refine O.app_buf u8_len u8_one rfl (ys := ys) rfl (V2.len ▸ V2.rd u8_len) (by omega) fun s2 h O hs => ?_
  exact k s2 h O
end
end Go.Proofs.YthiginhigfieiaaGreatDoor.V
namespace Go.Proofs.YthiginhigfieiaaGreatDoor.V
open Go Go.RowKit
set_option linter.unusedVariables false
set_option maxRecDepth 100000
def F_code_Read_of (f91_ : Y7) (b1 : Sl) (h : Heap) (Q : Option Addr → Heap → Prop) : Prop :=
  f91_ b1 h fun (r2 : Sl) (h3 : Heap) =>
  al 137 [.slice r2.ptr r2.len r2.cap, .int .i64 0, .int .i64 0] h3 fun (a4 : Addr) (h5 : Heap) =>
  Q (some a4) h5
def F_code_Read (b1 : Sl) (h : Heap) (Q : Option Addr → Heap → Prop) : Prop := F_code_Read_of F_code_taken b1 h Q
def plan42 : Plan := .s (.r [0]) (.s (.r [2]) .z)
theorem F_code_Read.eq (f91_ : Y7) (b1 : Sl) (h : Heap) (K : YV) : F_code_Read_of f91_ b1 h (fun (r0 : Option Addr) (h : Heap) => K (.pointer r0) h) =
    den Tryz.prog (fn1 91 (E_code_taken_of f91_) noFns) Tryz.f42.ntmps plan42 (bodyOf Tryz.f42) (args0 0 [(.slice b1.ptr b1.len b1.cap : Value)]) h (konF Tryz.f42 K) := by kernel_rfl
def E_code_Read_of (f : Y28) : List Value → Heap → YV → Prop
  | [v0], h, K => dec1 .sl v0 fun (b1 : Sl) =>
  f b1 h (fun (r0 : Option Addr) (h : Heap) => K (.pointer r0) h)
  | _, _, _ => False
abbrev E_code_Read := E_code_Read_of F_code_Read
theorem E_code_Read.right : IsRight Tryz.prog 42 E_code_Read := by
  refine isRight fun vs K w hh => ?_
  match vs, hh with
  | [v0], hh =>
    unfold E_code_Read E_code_Read_of at hh
    replace hh := dec1_sound hh; obtain ⟨b1, rfl, hh⟩ := hh
    unfold F_code_Read at hh
    exact calls_den (fn1_right ok91 E_code_taken.right noFns_right) plan42 _ w K Tryz.func42 (by kernel_rfl) (by kernel_rfl) (Eq.mp (F_code_Read.eq F_code_taken b1 w.heap K) hh)
theorem ok42 : okFn Tryz.prog 42 = true := by kernel_rfl
def F_code_Reader_U32_of (f96_ : Y10) (r1 : Option Addr) (h : Heap) (Q : Int → Heap → Prop) : Prop :=
  f96_ r1 4 h fun (r2 : Int) (h3 : Heap) =>
  Q (IntKind.u32.wrap r2) h3
def F_code_Reader_U32 (r1 : Option Addr) (h : Heap) (Q : Int → Heap → Prop) : Prop := F_code_Reader_U32_of F_code_Reader_fixed r1 h Q
def plan43 : Plan := .s (.r [0]) (.s (.r [2]) .z)
theorem F_code_Reader_U32.eq (f96_ : Y10) (r1 : Option Addr) (h : Heap) (K : YV) : F_code_Reader_U32_of f96_ r1 h (fun (r0 : Int) (h : Heap) => K (.int .u32 r0) h) =
    den Tryz.prog (fn1 96 (E_code_Reader_fixed_of f96_) noFns) Tryz.f43.ntmps plan43 (bodyOf Tryz.f43) (args0 0 [(.pointer r1 : Value)]) h (konF Tryz.f43 K) := by kernel_rfl
def E_code_Reader_U32_of (f : Y2) : List Value → Heap → YV → Prop
  | [v0], h, K => dec1 .ptr v0 fun (r1 : Option Addr) =>
  f r1 h (fun (r0 : Int) (h : Heap) => K (.int .u32 r0) h)
  | _, _, _ => False
abbrev E_code_Reader_U32 := E_code_Reader_U32_of F_code_Reader_U32
theorem E_code_Reader_U32.right : IsRight Tryz.prog 43 E_code_Reader_U32 := by
  refine isRight fun vs K w hh => ?_
  match vs, hh with
  | [v0], hh =>
    unfold E_code_Reader_U32 E_code_Reader_U32_of at hh
    replace hh := dec1_sound hh; obtain ⟨r1, rfl, hh⟩ := hh
    unfold F_code_Reader_U32 at hh
    exact calls_den (fn1_right ok96 E_code_Reader_fixed.right noFns_right) plan43 _ w K Tryz.func43 (by kernel_rfl) (by kernel_rfl) (Eq.mp (F_code_Reader_U32.eq F_code_Reader_fixed r1 w.heap K) hh)
theorem ok43 : okFn Tryz.prog 43 = true := by kernel_rfl
end Go.Proofs.YthiginhigfieiaaGreatDoor.V
/- The program's Reader: its beginning, numbers of fixed size, how much is left. -/
namespace Go.Proofs.YthiginhigfieiaaGreatDoor.V
open Go Go.RowKit
set_option linter.unusedVariables false
set_option linter.unusedSimpArgs false
structure RS where
  b : List UInt8
  at_ : Nat
  met : Nat
structure RS.Ok (r : RS) : Prop where
  le : r.at_ ≤ r.b.length
  len : r.b.length ≤ 140737488355328
  met : r.met ≤ 4
def rdC (r : RS) (s : Sl) : List Value := [.slice s.ptr s.len s.cap, .int .i64 (r.at_ : Int), .int .i64 (r.met : Int)]
def rdR (p : Nat) (r : RS) : Res := ex fun s : Sl => sep (own p (rdC r s)) (buf 1 u8 s r.b)
theorem Sat.rd_ {h0 h : Heap} {L : List Res} {p : Nat} {r : RS} (O : Sat h0 h (rdR p r :: L)) : ∃ s : Sl, Sat h0 h (own p (rdC r s) :: buf 1 u8 s r.b :: L) := by
  obtain ⟨s, O⟩ := O.ex
  exact ⟨s, O.sep⟩
theorem Sat.rdI {h0 h : Heap} {L : List Res} {p : Nat} {r : RS} {s : Sl} (O : Sat h0 h (own p (rdC r s) :: buf 1 u8 s r.b :: L)) : Sat h0 h (rdR p r :: L) := O.sepI.exI s
def RS.left (r : RS) : Nat := r.b.length - r.at_
def RS.next (r : RS) (n : Nat) : RS := if r.met ≠ 0 then r else if n > r.left then { r with met := 1 } else { r with at_ := r.at_ + n }
def RS.nextB (r : RS) (n : Nat) : List UInt8 := if r.met ≠ 0 then [] else if n > r.left then [] else (r.b.drop r.at_).take n
theorem RS.Ok.next {r : RS} (o : r.Ok) (n : Nat) : (r.next n).Ok := by
  unfold RS.next
  have := o.le
  split
  · exact o
  · split
    · exact ⟨o.le, o.len, by show 1 ≤ 4; decide⟩
    · refine ⟨?_, o.len, o.met⟩
      show r.at_ + n ≤ r.b.length
      unfold RS.left at *
      omega
def beN (l : List UInt8) : Nat := l.foldl (fun n c => n * 256 + c.toNat) 0
theorem beN_snoc (l : List UInt8) (c : UInt8) : beN (l ++ [c]) = beN l * 256 + c.toNat := by simp [beN]
theorem beN_lt (l : List UInt8) : beN l < 256 ^ l.length := by
  have key : ∀ n (l : List UInt8), l.length = n → beN l < 256 ^ n := by
    intro n
    induction n with
    | zero => intro l hl; have := List.length_eq_zero_iff.1 hl; subst this; simp [beN]
    | succ n ih =>
      intro l hl
      have e := List.dropLast_concat_getLast (l := l) (by intro e; subst e; simp at hl)
      rw [← e, beN_snoc, Nat.pow_succ]
      have := (l.getLast (by intro e; subst e; simp at hl)).toNat_lt
      have := ih l.dropLast (by simp [hl])
      omega
  exact key _ l rfl
section
variable {h0 h : Heap} {L : List Res} {p : Nat} {r : RS}
theorem F_code_Read.is {a : Sl} {xs : List UInt8} {Q : Option Addr → Heap → Prop} (O : Sat h0 h L) (V1 : Bytes h a xs) (hl : xs.length ≤ 140737488355328) (k : ∀ p h', Sat h0 h' (rdR p ⟨xs, 0, 0⟩ :: L) → Q (some (pt p 0)) h') : F_code_Read a h Q := by
  rw [F_code_Read.eq_1, F_code_Read_of.eq_1]
  refine F_code_taken.is O V1 (by omega) fun s h O _ _ => ?_
  refine O.al fun p h O => ?_
  exact k p h (Sat.rdI (r := ⟨xs, 0, 0⟩) O)
theorem F_code_Reader_Left.is {Q : Int → Heap → Prop} (o : r.Ok) (O : Sat h0 h (rdR p r :: L)) (k : Q (r.left : Nat) h) : F_code_Reader_Left (some (pt p 0)) h Q := by
  rw [F_code_Reader_Left.eq_1, F_code_Reader_Left_of.eq_1]
  simp only [nn_some, pt_add, Nat.zero_add, Nat.add_zero, Nat.reduceAdd, Nat.reduceMul, Int.toNat_zero, Int.toNat_one, Nat.zero_mul, Nat.one_mul]
  obtain ⟨s, O⟩ := O.rd_
  have hv := (O.view 1 u8_len (by simp) rfl).1.len
  unfold rdC at O
  refine O.ld 0 rfl (ldL_c (ldL_n ?_))
  refine O.ld 0 rfl (ldL_c (ldL_n ?_))
  rw [hv]
  have h1 := o.le; have h2 := o.len
  rw [wrap64 (by omega) (by omega)]
  unfold RS.left at k
  rw [show ((r.b.length : Int) - (r.at_ : Int)) = ((r.b.length - r.at_ : Nat) : Int) by omega]
  exact k
theorem F_code_Reader_stop.is {a : Nat} {m : Nat} {Q : Heap → Prop} (O : Sat h0 h (rdR p r :: L)) (k : ∀ h', Sat h0 h' (rdR p { r with at_ := a, met := m } :: L) → Q h') : F_code_Reader_stop (some (pt p 0)) (a : Int) (m : Int) h Q := by
  rw [F_code_Reader_stop.eq_1, F_code_Reader_stop_of.eq_1]
  simp only [nn_some, pt_add, Nat.zero_add, Nat.add_zero, Nat.reduceAdd, Nat.reduceMul, Int.toNat_zero, Int.toNat_one, Nat.zero_mul, Nat.one_mul]
  obtain ⟨s, O⟩ := O.rd_
  unfold rdC at O
  refine O.st 0 rfl (by simp) rfl fun h O => ?_
  dsimp only [V.put, List.set] at O
  refine O.st 0 rfl (by simp) rfl fun h O => ?_
  dsimp only [V.put, List.set] at O
  exact k _ (Sat.rdI (r := { r with at_ := a, met := m }) (s := s) O)
theorem F_code_Reader_next.is {n : Nat} {Q : Sl → Heap → Prop} (o : r.Ok) (hn : n < 9223372036854775808) (O : Sat h0 h (rdR p r :: L)) (k : ∀ s h', Sat h0 h' (rdR p (r.next n) :: L) → Bytes h' s (r.nextB n) → Q s h') : F_code_Reader_next (some (pt p 0)) n h Q := by
  rw [F_code_Reader_next.eq_1, F_code_Reader_next_of.eq_1]
  simp only [nn_some, pt_add, Nat.zero_add, Nat.add_zero, Nat.reduceAdd, Nat.reduceMul, Int.toNat_zero, Int.toNat_one, Nat.zero_mul, Nat.one_mul]
  have h1 := o.le; have h2 := o.len
  unfold RS.next RS.nextB at k
  obtain ⟨s, O⟩ := O.rd_
  have O1 := O
  unfold rdC at O1
  refine O1.ld 0 rfl (ldL_c (ldL_n ?_))
  refine brr_ne (fun hm => ?_) (fun hm => ?_)
  · have hm : r.met ≠ 0 := by omega
    rw [if_pos hm, if_pos hm] at k
    exact k _ _ O.rdI View.nil
  · have hm : ¬ r.met ≠ 0 := by omega
    rw [if_neg hm, if_neg hm] at k
    refine F_code_Reader_Left.is o O.rdI ?_
    refine brr_p (fun hg => ?_) (fun hg => ?_)
    · have hg : n > r.left := by omega
      rw [if_pos hg, if_pos hg] at k
      refine O1.ld 0 rfl (ldL_c (ldL_n ?_))
      refine F_code_Reader_stop.is (a := r.at_) (m := 1) O.rdI fun h O => ?_
      exact k _ _ O View.nil
    · have hg : ¬ n > r.left := by omega
      rw [if_neg hg, if_neg hg] at k
      unfold RS.left at hg
      refine O1.ld 0 rfl (ldL_c (k := .sl) (x := s) (ldL_n ?_))
      refine O1.ld 0 rfl (ldL_c (ldL_n ?_))
      refine O1.ld 0 rfl (ldL_c (ldL_n ?_))
      have hv := O.view 1 u8_len (by simp) rfl
      have hsl := hv.1.len
      rw [wrap64 (by omega) (by omega)]
      refine ⟨by omega, by omega, by omega, ?_⟩
      refine O1.ld 0 rfl (ldL_c (ldL_n ?_))
      rw [wrap64 (by omega) (by omega)]
      unfold rdC at O
      refine O.st 0 rfl (by simp) rfl fun h O => ?_
      dsimp only [V.put, List.set] at O
      have V2 := (O.view 1 u8_len (by simp) rfl)
      refine k _ _ (Sat.rdI (r := { r with at_ := r.at_ + n }) (s := s) ?_) ?_
      · unfold rdC
        rw [show (((r.at_ + n : Nat)) : Int) = (r.at_ : Int) + n by omega]
        exact O
      · have := V2.1.slice r.at_ (r.at_ + n) (s.cap - r.at_) (by omega) (by omega) V2.2
        rw [show r.at_ + n - r.at_ = n by omega] at this
        rw [show ((r.at_ : Int) + n).toNat - (r.at_ : Int).toNat = n by omega, show (r.at_ : Int).toNat = r.at_ by omega]
        exact this
theorem or8 (n : Nat) (c : UInt8) (hn : n < 72057594037927936) : IntKind.u64.wrap (BitVec.ofInt IntKind.u64.bits (IntKind.u64.wrap ((n : Int) * 2 ^ min (8 : Int).toNat IntKind.u64.bits)) ||| BitVec.ofInt IntKind.u64.bits (IntKind.u64.wrap (c.toNat : Int))).toNat = ((n * 256 + c.toNat : Nat) : Int) := by
  have hc := c.toNat_lt
  have e1 : IntKind.u64.wrap ((n : Int) * 2 ^ min (8 : Int).toNat IntKind.u64.bits) = ((n * 256 : Nat) : Int) := by
    have h : min (8 : Int).toNat IntKind.u64.bits = 8 := by decide
    rw [h, wrapu64 (by omega) (by omega)]
    omega
  have e2 : IntKind.u64.wrap (c.toNat : Int) = ((c.toNat : Nat) : Int) := wrapu64 (by omega) (by omega)
  have hof : ∀ m : Nat, m < 18446744073709551616 → BitVec.ofInt IntKind.u64.bits (m : Int) = BitVec.ofNat 64 m := by
    intro m hm
    show BitVec.ofInt 64 (m : Int) = BitVec.ofNat 64 m
    exact BitVec.ofInt_natCast ..
  rw [e1, e2, hof _ (by omega), hof _ (by omega)]
  have : (BitVec.ofNat 64 (n * 256) ||| BitVec.ofNat 64 c.toNat).toNat = n * 256 + c.toNat := by
    rw [BitVec.toNat_or, BitVec.toNat_ofNat, BitVec.toNat_ofNat, Nat.mod_eq_of_lt (by omega), Nat.mod_eq_of_lt (by omega)]
    have := Nat.two_pow_add_eq_or_of_lt (i := 8) hc n
    rw [Nat.mul_comm] at this
    exact this.symm
  show IntKind.u64.wrap (((BitVec.ofNat 64 (n * 256) ||| BitVec.ofNat 64 c.toNat).toNat : Nat) : Int) = _
  rw [this, wrapu64 (by omega) (by omega)]
theorem nextB_len (r : RS) (n : Nat) : (r.nextB n).length ≤ n := by
  unfold RS.nextB
  split
  · simp
  · split
    · simp
    · rw [List.length_take]; omega
theorem F_code_Reader_fixed.is {n : Nat} {Q : Int → Heap → Prop} (o : r.Ok) (hn : n ≤ 8) (O : Sat h0 h (rdR p r :: L)) (k : ∀ h', Sat h0 h' (rdR p (r.next n) :: L) → Q ((beN (r.nextB n) : Nat) : Int) h') : F_code_Reader_fixed (some (pt p 0)) n h Q := by
  rw [F_code_Reader_fixed.eq_1, F_code_Reader_fixed_of.eq_1]
  refine F_code_Reader_next.is o (by omega) O fun s h O V1 => ?_
  have hlen := nextB_len r n
  generalize r.nextB n = ys at *
  refine jn1 (fun (x : Int) h' => x = ((beN ys : Nat) : Int) ∧ h' = h) ?_ ?_
  · rintro x h ⟨rfl, rfl⟩
    exact k _ O
  · intro j hj
    rw [F_code_Reader_fixed.l1.eq_1]
    refine wl2 (k := .int .u64) (l := .int .i64) (fun (m : Nat) (x i : Int) (h' : Heap) => 0 ≤ i ∧ i + m = ys.length ∧ h' = h ∧ x = ((beN (ys.take i.toNat) : Nat) : Int)) ?_ (m := ys.length) ⟨by omega, by omega, rfl, rfl⟩
    rintro m (x : Int) (i : Int) h next hn2 ⟨hi0, him, rfl, rfl⟩
    rw [V1.len]
    refine brr_p (fun hlt => ?_) (fun hlt => ?_)
    · refine Bytes.at V1 hi0 hlt fun c hc => ?_
      have hb := beN_lt (ys.take i.toNat)
      rw [List.length_take, Nat.min_eq_left (by omega)] at hb
      have h256 : 256 ^ i.toNat ≤ 256 ^ 7 := Nat.pow_le_pow_right (by decide) (by omega)
      have hb2 : beN (ys.take i.toNat) < 72057594037927936 := Nat.lt_of_lt_of_le hb h256
      refine ⟨by decide, ?_⟩
      rw [or8 _ c hb2, wrap64 (by omega) (by omega)]
      refine hn2 (m - 1) _ _ _ (by omega) ⟨by omega, by omega, rfl, ?_⟩
      rw [show (i + 1).toNat = i.toNat + 1 by omega, take_succ_eq hc, beN_snoc]
    · refine hj _ _ ⟨?_, rfl⟩
      rw [List.take_of_length_le (by omega)]
theorem F_code_Reader_U32.is {Q : Int → Heap → Prop} (o : r.Ok) (O : Sat h0 h (rdR p r :: L)) (k : ∀ h', Sat h0 h' (rdR p (r.next 4) :: L) → Q ((beN (r.nextB 4) : Nat) : Int) h') : F_code_Reader_U32 (some (pt p 0)) h Q := by
  rw [F_code_Reader_U32.eq_1, F_code_Reader_U32_of.eq_1]
  refine F_code_Reader_fixed.is (n := 4) o (by decide) O fun h O => ?_
  have hb := beN_lt (r.nextB 4)
  have hl := nextB_len r 4
  have h256 : 256 ^ (r.nextB 4).length ≤ 256 ^ 4 := Nat.pow_le_pow_right (by decide) hl
  rw [wrapu32 (by omega) (by omega)]
  exact k h O
end
theorem beN_fixB : ∀ (size n : Nat), n < 256 ^ size → beN (fixB n size) = n := by
  intro size
  induction size with
  | zero => intro n h; simp at h; subst h; rfl
  | succ size ih =>
    intro n h
    have e : fixB n (size + 1) = fixB (n / 256) size ++ [UInt8.ofNat n] := by
      unfold fixB
      rw [List.range_succ, List.map_append]
      congr 1
      · apply List.map_congr_left
        intro i hi
        have hi := List.mem_range.1 hi
        rw [show size + 1 - 1 - i = 1 + (size - 1 - i) by omega, Nat.pow_add, Nat.pow_one, Nat.div_div_eq_div_mul]
      · simp
    rw [e, beN_snoc, ih (n / 256) (by rw [Nat.pow_succ] at h; exact (Nat.div_lt_iff_lt_mul (by decide)).2 h)]
    simp
    omega
end Go.Proofs.YthiginhigfieiaaGreatDoor.V
/- Numbers in their shortest form, read: no program in sight. -/
namespace Go.Proofs.YthiginhigfieiaaGreatDoor.V
open Go Go.RowKit
set_option linter.unusedVariables false
set_option linter.unusedSimpArgs false
def vnum : List UInt8 → Nat
  | [] => 0
  | c :: t => c.toNat % 128 + 128 * vnum t
theorem vnum_snoc (a : List UInt8) (c : UInt8) : vnum (a ++ [c]) = vnum a + c.toNat % 128 * 128 ^ a.length := by
  induction a with
  | nil => simp [vnum]
  | cons x a ih =>
    show x.toNat % 128 + 128 * vnum (a ++ [c]) = x.toNat % 128 + 128 * vnum a + _
    rw [ih, List.length_cons, Nat.pow_succ, Nat.mul_add, Nat.add_assoc, Nat.mul_left_comm, Nat.mul_comm 128 (128 ^ a.length)]
theorem vnum_lt (l : List UInt8) : vnum l < 128 ^ l.length := by
  induction l with
  | nil => simp [vnum]
  | cons x a ih =>
    show x.toNat % 128 + 128 * vnum a < _
    rw [List.length_cons, Nat.pow_succ]
    have := Nat.mod_lt x.toNat (show 128 > 0 by decide)
    omega
def vlast : List UInt8 → Option Nat
  | [] => none
  | c :: t => if c.toNat < 128 then some 0 else (vlast t).map (· + 1)
theorem vlast_step {t : List UInt8} {i : Nat} {c : UInt8} (hc : t[i]? = some c) : vlast (t.drop i) = if c.toNat < 128 then some 0 else (vlast (t.drop (i + 1))).map (· + 1) := by
  obtain ⟨hi, e⟩ := List.getElem?_eq_some_iff.1 hc
  rw [List.drop_eq_getElem_cons hi, e, vlast]
theorem vlast_end {t : List UInt8} {i : Nat} (h : t.length ≤ i) : vlast (t.drop i) = none := by
  rw [List.drop_eq_nil_of_le h, vlast]
theorem vlast_some : ∀ {t : List UInt8} {k : Nat}, vlast t = some k → ∃ c, t[k]? = some c ∧ c.toNat < 128 ∧ ∀ (j : Nat) d, j < k → t[j]? = some d → 128 ≤ d.toNat
  | [], k, h => by cases h
  | c :: t, k, h => by
    rw [vlast] at h
    by_cases hc : c.toNat < 128
    · rw [if_pos hc] at h
      cases h
      exact ⟨c, rfl, hc, fun j d hj => by omega⟩
    · rw [if_neg hc] at h
      cases ht : vlast t with
      | none => rw [ht] at h; cases h
      | some k' =>
        rw [ht] at h
        cases h
        obtain ⟨d, h1, h2, h3⟩ := vlast_some ht
        refine ⟨d, h1, h2, fun j e hj he => ?_⟩
        cases j with
        | zero => cases he; omega
        | succ j => exact h3 j e (Nat.lt_of_succ_lt_succ hj) he
def badForm (t : List UInt8) (k : Nat) : Bool := (decide (k = 9) && decide (1 < (t.getD k 0).toNat)) || (decide (0 < k) && decide ((t.getD k 0).toNat = 0))
def RS.look (r : RS) : List UInt8 := (r.b.drop r.at_).take 10
theorem RS.look_len (r : RS) : r.look.length = min 10 r.left := by
  unfold RS.look RS.left; rw [List.length_take, List.length_drop]
def RS.varP (r : RS) (most : Nat) : RS × Nat :=
  if r.met ≠ 0 then (r, 0) else
  match vlast r.look with
  | none => ({ r with met := if r.look.length < 10 then 1 else 2 }, 0)
  | some k => if badForm r.look k then ({ r with met := 2 }, 0) else if vnum (r.look.take (k + 1)) > most then ({ r with met := 3 }, 0) else ({ r with at_ := r.at_ + (k + 1) }, vnum (r.look.take (k + 1)))
theorem take_snoc_at {t : List UInt8} {i : Nat} {c : UInt8} (hc : t[i]? = some c) : vnum (t.take (i + 1)) = vnum (t.take i) + c.toNat % 128 * 128 ^ i := by
  rw [take_succ_eq hc, vnum_snoc, List.length_take, Nat.min_eq_left]
  exact Nat.le_of_lt (List.getElem?_eq_some_iff.1 hc).1
theorem RS.Ok.varP {r : RS} (o : r.Ok) (most : Nat) : (r.varP most).1.Ok := by
  unfold RS.varP
  split
  · exact o
  · split
    · exact ⟨o.le, o.len, by show (if _ then 1 else 2) ≤ 4; split <;> decide⟩
    · rename_i k hk
      split
      · exact ⟨o.le, o.len, by show 2 ≤ 4; decide⟩
      · split
        · exact ⟨o.le, o.len, by show 3 ≤ 4; decide⟩
        · obtain ⟨c, hc, _⟩ := vlast_some hk
          have h1 := (List.getElem?_eq_some_iff.1 hc).1
          rw [RS.look_len] at h1
          refine ⟨?_, o.len, o.met⟩
          show r.at_ + (k + 1) ≤ r.b.length
          have := o.le
          unfold RS.left at h1
          omega
theorem RS.varP_le {r : RS} {most : Nat} : (r.varP most).2 ≤ most := by
  unfold RS.varP
  split
  · simp
  · split
    · simp
    · split
      · simp
      · split
        · simp
        · rename_i h; exact Nat.le_of_not_lt h
theorem RS.varP_met {r : RS} {most : Nat} (h : (r.varP most).1.met ≠ 0) : (r.varP most).2 = 0 ∧ (r.varP most).1.at_ = r.at_ := by
  unfold RS.varP at *
  split at h
  · rename_i hm; rw [if_pos hm]; exact ⟨rfl, rfl⟩
  · rename_i hm
    rw [if_neg hm]
    split at h
    · exact ⟨rfl, rfl⟩
    · rename_i k hk
      split at h
      · rename_i hb; rw [if_pos hb]; exact ⟨rfl, rfl⟩
      · rename_i hb
        rw [if_neg hb]
        split at h
        · rename_i hg; rw [if_pos hg]; exact ⟨rfl, rfl⟩
        · exact absurd h hm
theorem RS.varP_b {r : RS} {most : Nat} : (r.varP most).1.b = r.b := by
  unfold RS.varP
  split
  · rfl
  · split
    · rfl
    · split
      · rfl
      · split <;> rfl
theorem RS.varP_none {r : RS} {most : Nat} (hm : r.met = 0) (h : vlast r.look = none) : r.varP most = ({ r with met := if r.look.length < 10 then 1 else 2 }, 0) := by
  unfold RS.varP
  rw [if_neg (by omega), h]
theorem RS.varP_some {r : RS} {most k : Nat} (hm : r.met = 0) (h : vlast r.look = some k) : r.varP most = if badForm r.look k then ({ r with met := 2 }, 0) else if vnum (r.look.take (k + 1)) > most then ({ r with met := 3 }, 0) else ({ r with at_ := r.at_ + (k + 1) }, vnum (r.look.take (k + 1))) := by
  unfold RS.varP
  rw [if_neg (by omega), h]
theorem varB_vnum : ∀ {l : List UInt8} {k : Nat}, vlast l = some k → l.length = k + 1 → (k = 0 ∨ (l.getD k 0).toNat ≠ 0) → varB (vnum l) = l
  | [], k, h, _, _ => by cases h
  | c :: t, k, h, hl, hz => by
    rw [vlast] at h
    by_cases hc : c.toNat < 128
    · rw [if_pos hc] at h
      cases h
      have : t = [] := List.length_eq_zero_iff.1 (by simpa using hl)
      subst this
      show varB (c.toNat % 128 + 128 * 0) = _
      rw [Nat.mul_zero, Nat.add_zero, Nat.mod_eq_of_lt hc]
      unfold varB
      rw [if_pos hc]
      simp
    · rw [if_neg hc] at h
      cases ht : vlast t with
      | none => rw [ht] at h; cases h
      | some k' =>
        rw [ht] at h
        cases h
        have hz' : (t.getD k' 0).toNat ≠ 0 := by
          rcases hz with hz | hz
          · exact absurd hz (Nat.succ_ne_zero _)
          · simpa using hz
        have ih := varB_vnum ht (by simpa using hl) (.inr hz')
        have hpos : 0 < vnum t := by
          apply Nat.pos_of_ne_zero
          intro e
          rw [e] at ih
          have h0 : varB 0 = [0] := by unfold varB; rfl
          rw [h0] at ih
          subst ih
          obtain ⟨d, h1, h2, h3⟩ := vlast_some ht
          have : k' = 0 := by simpa using hl.symm
          subst this
          exact hz' rfl
        show varB (c.toNat % 128 + 128 * vnum t) = _
        have hlt := c.toNat_lt
        have hm := Nat.mod_lt c.toNat (show 128 > 0 by decide)
        rw [varB, if_neg (by omega), show (c.toNat % 128 + 128 * vnum t) / 128 = vnum t by omega, ih]
        congr 1
        rw [show 128 + (c.toNat % 128 + 128 * vnum t) % 128 = c.toNat by omega]
        simp
theorem varB_last : ∀ (k n : Nat), (varB n).length = k + 1 → 128 ^ k ≤ n ∨ k = 0
  | 0, n, _ => .inr rfl
  | k + 1, n, h => by
    left
    rw [varB] at h
    by_cases hn : n < 128
    · rw [if_pos hn] at h; simp at h
    · rw [if_neg hn] at h
      rw [Nat.pow_succ]
      rcases varB_last k (n / 128) (by simpa using h) with h1 | h1
      · omega
      · subst h1; omega
theorem vnum_varB : ∀ (n : Nat), vnum (varB n) = n := by
  intro n
  induction n using Nat.strongRecOn with
  | _ n ih =>
    rw [varB]
    by_cases hn : n < 128
    · rw [if_pos hn]
      show (UInt8.ofNat n).toNat % 128 + 128 * 0 = n
      simp
      omega
    · rw [if_neg hn]
      show (UInt8.ofNat (128 + n % 128)).toNat % 128 + 128 * vnum (varB (n / 128)) = n
      rw [ih _ (by omega)]
      have : (UInt8.ofNat (128 + n % 128)).toNat = 128 + n % 128 := by simp; omega
      rw [this]
      omega
theorem form_iff {t : List UInt8} {k : Nat} (h : vlast t = some k) (hk : k ≤ 9) : decide (varB (vnum (t.take (k + 1)) % 18446744073709551616) = t.take (k + 1)) = !badForm t k := by
  obtain ⟨c, hc, hc1, hj⟩ := vlast_some h
  have hlt := (List.getElem?_eq_some_iff.1 hc).1
  have hlen : (t.take (k + 1)).length = k + 1 := by rw [List.length_take]; omega
  have hg : t.getD k 0 = c := by rw [List.getD_eq_getElem?_getD, hc]; rfl
  have hs := take_snoc_at hc
  have hv := vnum_lt (t.take k)
  rw [List.length_take, Nat.min_eq_left (by omega)] at hv
  have hmod := Nat.mod_eq_of_lt hc1
  have hl : vlast (t.take (k + 1)) = some k := by
    have key : ∀ (t : List UInt8) (k : Nat), vlast t = some k → vlast (t.take (k + 1)) = some k := by
      intro t
      induction t with
      | nil => intro k h; cases h
      | cons x t ih =>
        intro k h
        rw [vlast] at h
        rw [List.take_succ_cons, vlast]
        by_cases hx : x.toNat < 128
        · rw [if_pos hx] at h ⊢; exact h
        · rw [if_neg hx] at h ⊢
          cases ht : vlast t with
          | none => rw [ht] at h; cases h
          | some k' => rw [ht] at h; cases h; rw [ih k' ht]; rfl
    exact key t k h
  have hg2 : (t.take (k + 1)).getD k 0 = c := by
    rw [List.getD_eq_getElem?_getD, List.getElem?_take, if_pos (by omega), hc]; rfl
  unfold badForm
  rw [hg]
  by_cases h1 : 0 < k ∧ c.toNat = 0
  · rw [show (decide (0 < k) && decide (c.toNat = 0)) = true by simp [h1], Bool.or_true]
    apply decide_eq_false
    intro e
    have e2 := vnum_varB (vnum (t.take (k + 1)) % 18446744073709551616)
    rw [e] at e2
    have := varB_last k _ (by rw [e]; exact hlen)
    rw [h1.2] at hs
    simp only [Nat.zero_mod, Nat.zero_mul, Nat.add_zero] at hs
    rw [← e2, hs] at this
    omega
  · rw [show (decide (0 < k) && decide (c.toNat = 0)) = false by
      rw [Bool.and_eq_false_iff]
      by_cases h2 : 0 < k
      · right; exact decide_eq_false fun e => h1 ⟨h2, e⟩
      · left; exact decide_eq_false h2, Bool.or_false]
    have full := varB_vnum hl hlen (by
      rw [hg2]
      by_cases h2 : 0 < k
      · right; intro e; exact h1 ⟨h2, e⟩
      · left; omega)
    by_cases h9 : k = 9 ∧ 1 < c.toNat
    · rw [show (decide (k = 9) && decide (1 < c.toNat)) = true by simp [h9]]
      apply decide_eq_false
      intro e
      have e2 := vnum_varB (vnum (t.take (k + 1)) % 18446744073709551616)
      rw [e] at e2
      have h3 : vnum (t.take (k + 1)) < 18446744073709551616 := by
        rw [e2]; exact Nat.mod_lt _ (by decide)
      obtain ⟨rfl, h4⟩ := h9
      rw [hs, hmod] at h3
      have : (128 : Nat) ^ 9 = 9223372036854775808 := by decide
      rw [this] at h3
      omega
    · rw [show (decide (k = 9) && decide (1 < c.toNat)) = false by
        rw [Bool.and_eq_false_iff]
        by_cases h2 : k = 9
        · right; exact decide_eq_false fun e => h9 ⟨h2, e⟩
        · left; exact decide_eq_false h2]
      apply decide_eq_true
      have h3 : vnum (t.take (k + 1)) < 18446744073709551616 := by
        rw [hs, hmod]
        by_cases h2 : k = 9
        · have : c.toNat ≤ 1 := by
            rcases Nat.lt_or_ge 1 c.toNat with h | h
            · exact absurd ⟨h2, h⟩ h9
            · exact h
          subst h2
          have e9 : (128 : Nat) ^ 9 = 9223372036854775808 := by decide
          rw [e9] at hv ⊢
          have : c.toNat * 9223372036854775808 ≤ 1 * 9223372036854775808 := Nat.mul_le_mul_right _ this
          omega
        · have h128 : (128 : Nat) ^ k ≤ 128 ^ 8 := Nat.pow_le_pow_right (by decide) (by omega)
          have e8 : (128 : Nat) ^ 8 = 72057594037927936 := by decide
          have : c.toNat * 128 ^ k ≤ 127 * 128 ^ 8 := Nat.mul_le_mul (by omega) h128
          omega
      rw [Nat.mod_eq_of_lt h3]
      exact full
end Go.Proofs.YthiginhigfieiaaGreatDoor.V
namespace Go.Proofs.YthiginhigfieiaaGreatDoor.V
open Go Go.RowKit
set_option linter.unusedVariables false
set_option maxRecDepth 100000
def F_code_Reader_U8_of (f96_ : Y10) (r1 : Option Addr) (h : Heap) (Q : Int → Heap → Prop) : Prop :=
  f96_ r1 1 h fun (r2 : Int) (h3 : Heap) =>
  Q (IntKind.u8.wrap r2) h3
def F_code_Reader_U8 (r1 : Option Addr) (h : Heap) (Q : Int → Heap → Prop) : Prop := F_code_Reader_U8_of F_code_Reader_fixed r1 h Q
def plan44 : Plan := .s (.r [0]) (.s (.r [2]) .z)
theorem F_code_Reader_U8.eq (f96_ : Y10) (r1 : Option Addr) (h : Heap) (K : YV) : F_code_Reader_U8_of f96_ r1 h (fun (r0 : Int) (h : Heap) => K (.int .u8 r0) h) =
    den Tryz.prog (fn1 96 (E_code_Reader_fixed_of f96_) noFns) Tryz.f44.ntmps plan44 (bodyOf Tryz.f44) (args0 0 [(.pointer r1 : Value)]) h (konF Tryz.f44 K) := by kernel_rfl
def E_code_Reader_U8_of (f : Y2) : List Value → Heap → YV → Prop
  | [v0], h, K => dec1 .ptr v0 fun (r1 : Option Addr) =>
  f r1 h (fun (r0 : Int) (h : Heap) => K (.int .u8 r0) h)
  | _, _, _ => False
abbrev E_code_Reader_U8 := E_code_Reader_U8_of F_code_Reader_U8
theorem E_code_Reader_U8.right : IsRight Tryz.prog 44 E_code_Reader_U8 := by
  refine isRight fun vs K w hh => ?_
  match vs, hh with
  | [v0], hh =>
    unfold E_code_Reader_U8 E_code_Reader_U8_of at hh
    replace hh := dec1_sound hh; obtain ⟨r1, rfl, hh⟩ := hh
    unfold F_code_Reader_U8 at hh
    exact calls_den (fn1_right ok96 E_code_Reader_fixed.right noFns_right) plan44 _ w K Tryz.func44 (by kernel_rfl) (by kernel_rfl) (Eq.mp (F_code_Reader_U8.eq F_code_Reader_fixed r1 w.heap K) hh)
theorem ok44 : okFn Tryz.prog 44 = true := by kernel_rfl
def F_code_Reader_Var.l1 (f131_ : Y14) (r1 : Option Addr) (most2 : Int) (Q : Int → Heap → Prop) (s13 : Sl) (j14 : Heap → Prop) : Int → Int → Heap → Prop :=
  wl [(5, .one (.int .u64)), (33, .one (.int .i64))] (fun (next15 : Int → Int → Heap → Prop) (n16 x17 : Int) (h18 : Heap) =>
  brr (decide (x17 < ((s13.len : Nat) : Int)))
  (ixS 1 s13 x17 fun (a19 : Addr) =>
  ld [.int .u8] a19 h18 fun (v20 : Int) =>
  jn [(43, .one .bool)] (fun (x22 : Bool) (h23 : Heap) =>
  brr x22
  (j14 h23)
  (0 ≤ (IntKind.i64.wrap (7 * x17)) ∧
  brr ((IntKind.u8.wrap (BitVec.ofInt IntKind.u8.bits v20 &&& BitVec.ofInt IntKind.u8.bits 128).toNat) != 0)
  (next15 (IntKind.u64.wrap (BitVec.ofInt IntKind.u64.bits n16 ||| BitVec.ofInt IntKind.u64.bits (IntKind.u64.wrap ((IntKind.u64.wrap (IntKind.u8.wrap (BitVec.ofInt IntKind.u8.bits v20 &&& BitVec.ofInt IntKind.u8.bits 127).toNat)) * 2 ^ min (IntKind.i64.wrap (7 * x17)).toNat IntKind.u64.bits))).toNat) (IntKind.i64.wrap (x17 + 1)) h23)
  (jn [(65, .one .bool)] (fun (x25 : Bool) (h26 : Heap) =>
  jn [] (fun  (h38 : Heap) =>
  Q 0 h38) (fun (j27 : Heap → Prop) =>
  brr x25
  (nn r1 fun (a28 : Addr) =>
  ld [.int .i64] (a28.add 1) h26 fun (v29 : Int) =>
  f131_ r1 v29 2 h26 fun  (h30 : Heap) =>
  j27 h30)
  (brr (decide ((IntKind.u64.wrap (BitVec.ofInt IntKind.u64.bits n16 ||| BitVec.ofInt IntKind.u64.bits (IntKind.u64.wrap ((IntKind.u64.wrap (IntKind.u8.wrap (BitVec.ofInt IntKind.u8.bits v20 &&& BitVec.ofInt IntKind.u8.bits 127).toNat)) * 2 ^ min (IntKind.i64.wrap (7 * x17)).toNat IntKind.u64.bits))).toNat) > most2))
  (nn r1 fun (a31 : Addr) =>
  ld [.int .i64] (a31.add 1) h26 fun (v32 : Int) =>
  f131_ r1 v32 3 h26 fun  (h33 : Heap) =>
  j27 h33)
  (nn r1 fun (a34 : Addr) =>
  ld [.int .i64] (a34.add 1) h26 fun (v35 : Int) =>
  nn r1 fun (a36 : Addr) =>
  st (a36.add 1) [.int .i64 (IntKind.i64.wrap (v35 + (IntKind.i64.wrap (x17 + 1))))] h26 fun (h37 : Heap) =>
  Q (IntKind.u64.wrap (BitVec.ofInt IntKind.u64.bits n16 ||| BitVec.ofInt IntKind.u64.bits (IntKind.u64.wrap ((IntKind.u64.wrap (IntKind.u8.wrap (BitVec.ofInt IntKind.u8.bits v20 &&& BitVec.ofInt IntKind.u8.bits 127).toNat)) * 2 ^ min (IntKind.i64.wrap (7 * x17)).toNat IntKind.u64.bits))).toNat) h37)))) (fun (j24 : Bool → Heap → Prop) =>
  brr (v20 == 0)
  (j24 (decide (x17 > 0)) h23)
  (j24 false h23))))) (fun (j21 : Bool → Heap → Prop) =>
  brr (x17 == 9)
  (j21 (decide (v20 > 1)) h18)
  (j21 false h18)))
  (j14 h18))
def F_code_Reader_Var_of (f97_ : Y2) (f131_ : Y14) (r1 : Option Addr) (most2 : Int) (h : Heap) (Q : Int → Heap → Prop) : Prop :=
  nn r1 fun (a3 : Addr) =>
  ld [.int .i64] (a3.add 2) h fun (v4 : Int) =>
  brr (v4 != 0)
  (Q 0 h)
  (nn r1 fun (a5 : Addr) =>
  ld [.sl] (a5.add 0) h fun (v6 : Sl) =>
  nn r1 fun (a7 : Addr) =>
  ld [.int .i64] (a7.add 1) h fun (v8 : Int) =>
  nn r1 fun (a9 : Addr) =>
  ld [.int .i64] (a9.add 1) h fun (v10 : Int) =>
  f97_ r1 h fun (r11 : Int) (h12 : Heap) =>
  cellsAre h12 (a5.add 0) [.slice v6.ptr v6.len v6.cap] ∧
  cellsAre h12 (a7.add 1) [.int .i64 v8] ∧
  cellsAre h12 (a9.add 1) [.int .i64 v10] ∧
  slFT 1 v6 v8 (IntKind.i64.wrap (v10 + (if r11 < 10 then r11 else 10))) fun (s13 : Sl) =>
  jn [] (fun  (h39 : Heap) =>
  jn [] (fun  (h47 : Heap) =>
  Q 0 h47) (fun (j40 : Heap → Prop) =>
  brr (decide (((s13.len : Nat) : Int) < 10))
  (nn r1 fun (a41 : Addr) =>
  ld [.int .i64] (a41.add 1) h39 fun (v42 : Int) =>
  f131_ r1 v42 1 h39 fun  (h43 : Heap) =>
  j40 h43)
  (nn r1 fun (a44 : Addr) =>
  ld [.int .i64] (a44.add 1) h39 fun (v45 : Int) =>
  f131_ r1 v45 2 h39 fun  (h46 : Heap) =>
  j40 h46))) (fun (j14 : Heap → Prop) =>
  F_code_Reader_Var.l1 f131_ r1 most2 Q s13 j14 0 0 h12))
def F_code_Reader_Var (r1 : Option Addr) (most2 : Int) (h : Heap) (Q : Int → Heap → Prop) : Prop := F_code_Reader_Var_of F_code_Reader_Left F_code_Reader_stop r1 most2 h Q
def plan66 : Plan := .s (.r [0, 1]) (.s (.s (.r [0, 1, 13]) (.c (.s (.r [4]) .z) .z)) (.s (.r [0, 1, 5]) (.s (.d [0, 1, 3, 7, 0, 16, 48, 112, 0, 256, 768, 1792, 0, 4096, 12288, 32512, 65535, 131071] [[0, 1, 2, 3, 4, 5, 6, 7, 8, 9, 10, 11, 12, 13, 14, 15, 16, 17]] [0, 1, 5, 6]) (.s (.s (.r [0, 1, 5, 6, 31, 32, 33]) (.bj [] [0, 6] (.l [(5, .one (.int .u64)), (33, .one (.int .i64))] [0, 1, 6, 31, 32] (.s (.r [0, 1, 5, 6, 31, 32, 33, 34]) (.s (.c .z .z) (.s (.b (.s (.r [0, 1, 5, 6, 7, 8, 31, 32, 33]) (.s (.s (.rj [(43, .one .bool)] [0, 1, 5, 6, 7, 8, 31, 32, 33]) (.c .z .z)) (.s (.r [0, 1, 5, 6, 7, 8, 31, 32, 33]) (.s (.s (.r [0, 1, 5, 6, 7, 8, 31, 32, 33, 54]) (.c .z .z)) (.s (.b (.s (.rj [(65, .one .bool)] [0, 1, 5, 7]) (.cj [] [] (.r []) (.s (.r [0, 5, 7, 78]) (.c (.r []) (.s (.r [5]) (.s (.r [4]) .z))))))) (.s (.r [4]) .z))))))) (.r [0, 1, 5, 6, 31, 32, 33]))))))) (.s (.s (.r [0, 91]) (.cj [] [] (.r []) (.r []))) (.s (.r [4]) .z))))))
theorem F_code_Reader_Var.eq (f97_ : Y2) (f131_ : Y14) (r1 : Option Addr) (most2 : Int) (h : Heap) (K : YV) : F_code_Reader_Var_of f97_ f131_ r1 most2 h (fun (r0 : Int) (h : Heap) => K (.int .u64 r0) h) =
    den Tryz.prog (fn1 97 (E_code_Reader_Left_of f97_) (fn1 131 (E_code_Reader_stop_of f131_) noFns)) Tryz.f66.ntmps plan66 (bodyOf Tryz.f66) (args0 0 [(.pointer r1 : Value), (.int .u64 most2 : Value)]) h (konF Tryz.f66 K) := by kernel_rfl
def E_code_Reader_Var_of (f : Y10) : List Value → Heap → YV → Prop
  | [v0, v1], h, K => dec1 .ptr v0 fun (r1 : Option Addr) =>
  dec1 (.int .u64) v1 fun (most2 : Int) =>
  f r1 most2 h (fun (r0 : Int) (h : Heap) => K (.int .u64 r0) h)
  | _, _, _ => False
abbrev E_code_Reader_Var := E_code_Reader_Var_of F_code_Reader_Var
theorem E_code_Reader_Var.right : IsRight Tryz.prog 66 E_code_Reader_Var := by
  refine isRight fun vs K w hh => ?_
  match vs, hh with
  | [v0, v1], hh =>
    unfold E_code_Reader_Var E_code_Reader_Var_of at hh
    replace hh := dec1_sound hh; obtain ⟨r1, rfl, hh⟩ := hh
    replace hh := dec1_sound hh; obtain ⟨most2, rfl, hh⟩ := hh
    unfold F_code_Reader_Var at hh
    exact calls_den (fn1_right ok97 E_code_Reader_Left.right (fn1_right ok131 E_code_Reader_stop.right noFns_right)) plan66 _ w K Tryz.func66 (by kernel_rfl) (by kernel_rfl) (Eq.mp (F_code_Reader_Var.eq F_code_Reader_Left F_code_Reader_stop r1 most2 w.heap K) hh)
theorem ok66 : okFn Tryz.prog 66 = true := by kernel_rfl
def F_code_Reader_Bytes_of (f66_ : Y10) (f91_ : Y7) (f97_ : Y2) (f131_ : Y14) (f133_ : Y11) (r1 : Option Addr) (most2 : Int) (h : Heap) (Q : Sl → Heap → Prop) : Prop :=
  nn r1 fun (a3 : Addr) =>
  ld [.int .i64] (a3.add 1) h fun (v4 : Int) =>
  f66_ r1 (IntKind.u64.wrap (if most2 > 0 then most2 else 0)) h fun (r5 : Int) (h6 : Heap) =>
  jn [(27, .one .bool)] (fun (x12 : Bool) (h13 : Heap) =>
  jn [] (fun  (h16 : Heap) =>
  f133_ r1 (IntKind.i64.wrap r5) h16 fun (r17 : Sl) (h18 : Heap) =>
  f91_ r17 h18 fun (r19 : Sl) (h20 : Heap) =>
  Q r19 h20) (fun (j14 : Heap → Prop) =>
  brr x12
  (f131_ r1 v4 1 h13 fun  (h15 : Heap) =>
  j14 h15)
  (j14 h13))) (fun (j7 : Bool → Heap → Prop) =>
  nn r1 fun (a8 : Addr) =>
  ld [.int .i64] (a8.add 2) h6 fun (v9 : Int) =>
  brr (v9 == 0)
  (f97_ r1 h6 fun (r10 : Int) (h11 : Heap) =>
  j7 (decide (r5 > (IntKind.u64.wrap r10))) h11)
  (j7 false h6))
def F_code_Reader_Bytes (r1 : Option Addr) (most2 : Int) (h : Heap) (Q : Sl → Heap → Prop) : Prop := F_code_Reader_Bytes_of F_code_Reader_Var F_code_taken F_code_Reader_Left F_code_Reader_stop F_code_Reader_next r1 most2 h Q
def plan74 : Plan := .s (.r [0, 1]) (.s (.r [0, 1, 5]) (.s (.r [0, 5, 6]) (.s (.s (.rj [(27, .one .bool)] [0, 5, 6]) (.cj [] [0, 6] (.r [0, 6]) .z)) (.s (.r [4]) .z))))
theorem F_code_Reader_Bytes.eq (f66_ : Y10) (f91_ : Y7) (f97_ : Y2) (f131_ : Y14) (f133_ : Y11) (r1 : Option Addr) (most2 : Int) (h : Heap) (K : YV) : F_code_Reader_Bytes_of f66_ f91_ f97_ f131_ f133_ r1 most2 h (fun (r0 : Sl) (h : Heap) => K (.slice r0.ptr r0.len r0.cap) h) =
    den Tryz.prog (fn1 66 (E_code_Reader_Var_of f66_) (fn1 91 (E_code_taken_of f91_) (fn1 97 (E_code_Reader_Left_of f97_) (fn1 131 (E_code_Reader_stop_of f131_) (fn1 133 (E_code_Reader_next_of f133_) noFns))))) Tryz.f74.ntmps plan74 (bodyOf Tryz.f74) (args0 0 [(.pointer r1 : Value), (.int .i64 most2 : Value)]) h (konF Tryz.f74 K) := by kernel_rfl
def E_code_Reader_Bytes_of (f : Y11) : List Value → Heap → YV → Prop
  | [v0, v1], h, K => dec1 .ptr v0 fun (r1 : Option Addr) =>
  dec1 (.int .i64) v1 fun (most2 : Int) =>
  f r1 most2 h (fun (r0 : Sl) (h : Heap) => K (.slice r0.ptr r0.len r0.cap) h)
  | _, _, _ => False
abbrev E_code_Reader_Bytes := E_code_Reader_Bytes_of F_code_Reader_Bytes
theorem E_code_Reader_Bytes.right : IsRight Tryz.prog 74 E_code_Reader_Bytes := by
  refine isRight fun vs K w hh => ?_
  match vs, hh with
  | [v0, v1], hh =>
    unfold E_code_Reader_Bytes E_code_Reader_Bytes_of at hh
    replace hh := dec1_sound hh; obtain ⟨r1, rfl, hh⟩ := hh
    replace hh := dec1_sound hh; obtain ⟨most2, rfl, hh⟩ := hh
    unfold F_code_Reader_Bytes at hh
    exact calls_den (fn1_right ok66 E_code_Reader_Var.right (fn1_right ok91 E_code_taken.right (fn1_right ok97 E_code_Reader_Left.right (fn1_right ok131 E_code_Reader_stop.right (fn1_right ok133 E_code_Reader_next.right noFns_right))))) plan74 _ w K Tryz.func74 (by kernel_rfl) (by kernel_rfl) (Eq.mp (F_code_Reader_Bytes.eq F_code_Reader_Var F_code_taken F_code_Reader_Left F_code_Reader_stop F_code_Reader_next r1 most2 w.heap K) hh)
theorem ok74 : okFn Tryz.prog 74 = true := by kernel_rfl
def F_code_Reader_Fault_of  (r1 : Option Addr) (h : Heap) (Q : Int → Heap → Prop) : Prop :=
  nn r1 fun (a2 : Addr) =>
  ld [.int .i64] (a2.add 2) h fun (v3 : Int) =>
  ixA 1 (Addr.mk 1 0 none) 5 v3 fun (a4 : Addr) =>
  ld [.int .i64] a4 h fun (v5 : Int) =>
  Q v5 h
def F_code_Reader_Fault (r1 : Option Addr) (h : Heap) (Q : Int → Heap → Prop) : Prop := F_code_Reader_Fault_of  r1 h Q
def plan98 : Plan := .s (.r [0]) (.s (.r [2]) .z)
theorem F_code_Reader_Fault.eq  (r1 : Option Addr) (h : Heap) (K : YV) : F_code_Reader_Fault_of  r1 h (fun (r0 : Int) (h : Heap) => K (.int .i64 r0) h) =
    den Tryz.prog noFns Tryz.f98.ntmps plan98 (bodyOf Tryz.f98) (args0 0 [(.pointer r1 : Value)]) h (konF Tryz.f98 K) := by kernel_rfl
def E_code_Reader_Fault_of (f : Y2) : List Value → Heap → YV → Prop
  | [v0], h, K => dec1 .ptr v0 fun (r1 : Option Addr) =>
  f r1 h (fun (r0 : Int) (h : Heap) => K (.int .i64 r0) h)
  | _, _, _ => False
abbrev E_code_Reader_Fault := E_code_Reader_Fault_of F_code_Reader_Fault
theorem E_code_Reader_Fault.right : IsRight Tryz.prog 98 E_code_Reader_Fault := by
  refine isRight fun vs K w hh => ?_
  match vs, hh with
  | [v0], hh =>
    unfold E_code_Reader_Fault E_code_Reader_Fault_of at hh
    replace hh := dec1_sound hh; obtain ⟨r1, rfl, hh⟩ := hh
    unfold F_code_Reader_Fault at hh
    exact calls_den noFns_right plan98 _ w K Tryz.func98 (by kernel_rfl) (by kernel_rfl) (Eq.mp (F_code_Reader_Fault.eq  r1 w.heap K) hh)
theorem ok98 : okFn Tryz.prog 98 = true := by kernel_rfl
def F_code_Reader_End_of (f97_ f98_ : Y2) (r1 : Option Addr) (h : Heap) (Q : Int → Heap → Prop) : Prop :=
  jn [(12, .one .bool)] (fun (x7 : Bool) (h8 : Heap) =>
  brr x7
  (Q 13 h8)
  (f98_ r1 h8 fun (r9 : Int) (h10 : Heap) =>
  Q r9 h10)) (fun (j2 : Bool → Heap → Prop) =>
  nn r1 fun (a3 : Addr) =>
  ld [.int .i64] (a3.add 2) h fun (v4 : Int) =>
  brr (v4 == 0)
  (f97_ r1 h fun (r5 : Int) (h6 : Heap) =>
  j2 (decide (r5 > 0)) h6)
  (j2 false h))
def F_code_Reader_End (r1 : Option Addr) (h : Heap) (Q : Int → Heap → Prop) : Prop := F_code_Reader_End_of F_code_Reader_Left F_code_Reader_Fault r1 h Q
def plan45 : Plan := .s (.r [0]) (.s (.s (.rj [(12, .one .bool)] [0]) (.c (.s (.r [2]) .z) .z)) (.s (.r [2]) .z))
theorem F_code_Reader_End.eq (f97_ f98_ : Y2) (r1 : Option Addr) (h : Heap) (K : YV) : F_code_Reader_End_of f97_ f98_ r1 h (fun (r0 : Int) (h : Heap) => K (.int .i64 r0) h) =
    den Tryz.prog (fn1 97 (E_code_Reader_Left_of f97_) (fn1 98 (E_code_Reader_Fault_of f98_) noFns)) Tryz.f45.ntmps plan45 (bodyOf Tryz.f45) (args0 0 [(.pointer r1 : Value)]) h (konF Tryz.f45 K) := by kernel_rfl
def E_code_Reader_End_of (f : Y2) : List Value → Heap → YV → Prop
  | [v0], h, K => dec1 .ptr v0 fun (r1 : Option Addr) =>
  f r1 h (fun (r0 : Int) (h : Heap) => K (.int .i64 r0) h)
  | _, _, _ => False
abbrev E_code_Reader_End := E_code_Reader_End_of F_code_Reader_End
theorem E_code_Reader_End.right : IsRight Tryz.prog 45 E_code_Reader_End := by
  refine isRight fun vs K w hh => ?_
  match vs, hh with
  | [v0], hh =>
    unfold E_code_Reader_End E_code_Reader_End_of at hh
    replace hh := dec1_sound hh; obtain ⟨r1, rfl, hh⟩ := hh
    unfold F_code_Reader_End at hh
    exact calls_den (fn1_right ok97 E_code_Reader_Left.right (fn1_right ok98 E_code_Reader_Fault.right noFns_right)) plan45 _ w K Tryz.func45 (by kernel_rfl) (by kernel_rfl) (Eq.mp (F_code_Reader_End.eq F_code_Reader_Left F_code_Reader_Fault r1 w.heap K) hh)
theorem ok45 : okFn Tryz.prog 45 = true := by kernel_rfl
end Go.Proofs.YthiginhigfieiaaGreatDoor.V
/- The program's Reader: its fault and end, numbers in their shortest form, bytes. -/
namespace Go.Proofs.YthiginhigfieiaaGreatDoor.V
open Go Go.RowKit
set_option linter.unusedVariables false
set_option linter.unusedSimpArgs false
def Er (h : Heap) : Prop := cellsAre h (pt 1 0) [.int .i64 0, .int .i64 10, .int .i64 11, .int .i64 12, .int .i64 14]
theorem Er.kept {h h' : Heap} (E : Er h) (k : KeptH h h') : Er h' := cellsAre_kept k E
theorem Er.sat {h0 h : Heap} {L : List Res} (E : Er h0) (O : Sat h0 h L) : Er h := E.kept O.kept
def erN : Nat → Int
  | 0 => 0
  | 1 => 10
  | 2 => 11
  | 3 => 12
  | _ => 14
def RS.endN (r : RS) : Int := if r.met = 0 ∧ r.left > 0 then 13 else erN r.met
def RS.bytesP (r : RS) (most : Int) : RS × List UInt8 :=
  if (r.varP (max 0 most).toNat).1.met = 0 ∧ (r.varP (max 0 most).toNat).2 > (r.varP (max 0 most).toNat).1.left then ({ (r.varP (max 0 most).toNat).1 with at_ := r.at_, met := 1 }, [])
  else ((r.varP (max 0 most).toNat).1.next (r.varP (max 0 most).toNat).2, (r.varP (max 0 most).toNat).1.nextB (r.varP (max 0 most).toNat).2)
def RS.rawP (r : RS) (n : Int) : RS × List UInt8 :=
  if n < 0 then (if r.met = 0 then { r with met := 4 } else r, []) else (r.next n.toNat, r.nextB n.toNat)
theorem RS.Ok.rawP {r : RS} (o : r.Ok) (n : Int) : (r.rawP n).1.Ok := by
  unfold RS.rawP
  split
  · split
    · exact ⟨o.le, o.len, by show 4 ≤ 4; decide⟩
    · exact o
  · exact o.next _
theorem RS.Ok.bytesP {r : RS} (o : r.Ok) (n : Int) : (r.bytesP n).1.Ok := by
  unfold RS.bytesP
  split
  · exact ⟨by show r.at_ ≤ (r.varP _).1.b.length; rw [RS.varP_b]; exact o.le, (o.varP _).len, by show 1 ≤ 4; decide⟩
  · exact (o.varP _).next _
theorem RS.stuck_next {r : RS} (hm : r.met ≠ 0) (n : Nat) : r.next n = r ∧ r.nextB n = [] := by
  unfold RS.next RS.nextB
  rw [if_pos hm, if_pos hm]
  exact ⟨rfl, rfl⟩
theorem RS.stuck_var {r : RS} (hm : r.met ≠ 0) (n : Nat) : r.varP n = (r, 0) := by
  unfold RS.varP
  rw [if_pos hm]
theorem RS.stuck_bytes {r : RS} (hm : r.met ≠ 0) (n : Int) : r.bytesP n = (r, []) := by
  unfold RS.bytesP
  rw [RS.stuck_var hm]
  rw [if_neg (fun e => hm e.1), (RS.stuck_next hm _).1, (RS.stuck_next hm _).2]
theorem and127 (c : UInt8) : IntKind.u8.wrap (BitVec.ofInt IntKind.u8.bits (c.toNat : Int) &&& BitVec.ofInt IntKind.u8.bits 127).toNat = ((c.toNat % 128 : Nat) : Int) := by
  have key : ∀ c : Fin 256, IntKind.u8.wrap (BitVec.ofInt IntKind.u8.bits (c.val : Int) &&& BitVec.ofInt IntKind.u8.bits 127).toNat = ((c.val % 128 : Nat) : Int) := by decide +kernel
  exact key ⟨c.toNat, c.toNat_lt⟩
theorem and128 (c : UInt8) : (IntKind.u8.wrap (BitVec.ofInt IntKind.u8.bits (c.toNat : Int) &&& BitVec.ofInt IntKind.u8.bits 128).toNat != 0) = decide (128 ≤ c.toNat) := by
  have key : ∀ c : Fin 256, (IntKind.u8.wrap (BitVec.ofInt IntKind.u8.bits (c.val : Int) &&& BitVec.ofInt IntKind.u8.bits 128).toNat != 0) = decide (128 ≤ c.val) := by decide +kernel
  exact key ⟨c.toNat, c.toNat_lt⟩
theorem or7 (n i : Nat) (c : UInt8) (hn : n < 128 ^ i) (hi : i ≤ 9) (hc : i = 9 → c.toNat ≤ 1) : IntKind.u64.wrap (BitVec.ofInt IntKind.u64.bits (n : Int) ||| BitVec.ofInt IntKind.u64.bits (IntKind.u64.wrap (((c.toNat % 128 : Nat) : Int) * 2 ^ min (((7 * i : Nat)) : Int).toNat IntKind.u64.bits))).toNat = ((n + c.toNat % 128 * 128 ^ i : Nat) : Int) := by
  have hm := Nat.mod_lt c.toNat (show 128 > 0 by decide)
  have e7 : (128 : Nat) ^ i = 2 ^ (7 * i) := by rw [Nat.pow_mul]
  have hpow : (128 : Nat) ^ i ≤ 128 ^ 9 := Nat.pow_le_pow_right (by decide) hi
  have e9 : (128 : Nat) ^ 9 = 9223372036854775808 := by decide
  have hb : c.toNat % 128 * 128 ^ i ≤ 127 * 72057594037927936 ∨ (i = 9 ∧ c.toNat % 128 * 128 ^ i ≤ 9223372036854775808) := by
    by_cases h9 : i = 9
    · right
      refine ⟨h9, ?_⟩
      have := hc h9
      rw [h9, e9]
      have : c.toNat % 128 ≤ 1 := by omega
      have := Nat.mul_le_mul_right 9223372036854775808 this
      omega
    · left
      have h8 : (128 : Nat) ^ i ≤ 128 ^ 8 := Nat.pow_le_pow_right (by decide) (by omega)
      have e8 : (128 : Nat) ^ 8 = 72057594037927936 := by decide
      exact Nat.mul_le_mul (by omega) (by omega)
  have h7 : min (((7 * i : Nat)) : Int).toNat IntKind.u64.bits = 7 * i := by
    show min (((7 * i : Nat)) : Int).toNat 64 = _
    omega
  have hn64 : n < 9223372036854775808 := by omega
  have hx : c.toNat % 128 * 128 ^ i < 18446744073709551616 := by omega
  rw [h7]
  have e2 : ((c.toNat % 128 : Nat) : Int) * 2 ^ (7 * i) = ((c.toNat % 128 * 128 ^ i : Nat) : Int) := by
    rw [e7, Int.natCast_mul]
    simp
  rw [e2]
  have hsum : n + c.toNat % 128 * 128 ^ i < 18446744073709551616 := by
    rcases hb with hb | ⟨h9, hb⟩ <;> omega
  have hof : ∀ m : Nat, BitVec.ofInt IntKind.u64.bits (m : Int) = BitVec.ofNat 64 m := by
    intro m
    show BitVec.ofInt 64 (m : Int) = BitVec.ofNat 64 m
    exact BitVec.ofInt_natCast ..
  rw [wrapu64 (x := ((c.toNat % 128 * 128 ^ i : Nat) : Int)) (by omega) (by omega), hof, hof]
  have : (BitVec.ofNat 64 n ||| BitVec.ofNat 64 (c.toNat % 128 * 128 ^ i)).toNat = n + c.toNat % 128 * 128 ^ i := by
    rw [BitVec.toNat_or, BitVec.toNat_ofNat, BitVec.toNat_ofNat, Nat.mod_eq_of_lt (by omega), Nat.mod_eq_of_lt (by omega)]
    have := Nat.two_pow_add_eq_or_of_lt (i := 7 * i) (by rw [← e7]; exact hn) (c.toNat % 128)
    rw [← e7, Nat.mul_comm] at this
    rw [Nat.or_comm, ← this, Nat.add_comm]
  show IntKind.u64.wrap (((BitVec.ofNat 64 n ||| BitVec.ofNat 64 (c.toNat % 128 * 128 ^ i)).toNat : Nat) : Int) = _
  rw [this, wrapu64 (by omega) (by omega)]
section
variable {h0 h : Heap} {L : List Res} {p : Nat} {r : RS}
theorem F_code_Reader_Fault.is {Q : Int → Heap → Prop} (E : Er h) (o : r.Ok) (O : Sat h0 h (rdR p r :: L)) (k : Q (erN r.met) h) : F_code_Reader_Fault (some (pt p 0)) h Q := by
  rw [F_code_Reader_Fault.eq_1, F_code_Reader_Fault_of.eq_1]
  simp only [nn_some, pt_add, Nat.zero_add, Nat.add_zero, Nat.reduceAdd, Nat.reduceMul, Int.toNat_zero, Int.toNat_one, Nat.zero_mul, Nat.one_mul]
  obtain ⟨s, O⟩ := O.rd_
  unfold rdC at O
  refine O.ld 0 rfl (ldL_c (ldL_n ?_))
  have hm := o.met
  refine ⟨by omega, by omega, ?_⟩
  simp only [nn_some, pt_add, Nat.zero_add, Nat.add_zero, Nat.reduceAdd, Nat.reduceMul, Int.toNat_zero, Int.toNat_one, Nat.zero_mul, Nat.one_mul]
  rw [show (r.met : Int).toNat * 1 = r.met by omega]
  generalize r.met = m at *
  have c : m = 0 ∨ m = 1 ∨ m = 2 ∨ m = 3 ∨ m = 4 := by omega
  have ep : (pt 1 0).add m = pt 1 m := by rw [pt_add, Nat.zero_add]
  rw [← ep]
  rcases c with rfl | rfl | rfl | rfl | rfl <;> exact ld_drop E _ (ldL_c (ldL_n k))
theorem F_code_Reader_End.is {Q : Int → Heap → Prop} (E : Er h) (o : r.Ok) (O : Sat h0 h (rdR p r :: L)) (k : Q r.endN h) : F_code_Reader_End (some (pt p 0)) h Q := by
  rw [F_code_Reader_End.eq_1, F_code_Reader_End_of.eq_1]
  simp only [nn_some, pt_add, Nat.zero_add, Nat.add_zero, Nat.reduceAdd, Nat.reduceMul, Int.toNat_zero, Int.toNat_one, Nat.zero_mul, Nat.one_mul]
  unfold RS.endN at k
  refine jn1 (fun (b : Bool) h' => b = decide (r.met = 0 ∧ r.left > 0) ∧ h' = h) ?_ ?_
  · rintro (b : Bool) h ⟨rfl, rfl⟩
    refine brr_p (fun hp => ?_) (fun hp => ?_)
    · rw [if_pos hp] at k; exact k
    · rw [if_neg hp] at k
      exact F_code_Reader_Fault.is E o O k
  · intro j hj
    have O1 := O
    obtain ⟨s, O1⟩ := O1.rd_
    unfold rdC at O1
    refine O1.ld 0 rfl (ldL_c (ldL_n ?_))
    refine brr_eq (fun hm => ?_) (fun hm => ?_)
    · refine F_code_Reader_Left.is o O ?_
      refine hj _ _ ⟨?_, rfl⟩
      have : r.met = 0 := by omega
      simp [this]
    · refine hj _ _ ⟨?_, rfl⟩
      have : r.met ≠ 0 := by omega
      simp [this]
theorem F_code_Reader_U8.is {Q : Int → Heap → Prop} (o : r.Ok) (O : Sat h0 h (rdR p r :: L)) (k : ∀ h', Sat h0 h' (rdR p (r.next 1) :: L) → Q ((beN (r.nextB 1) : Nat) : Int) h') : F_code_Reader_U8 (some (pt p 0)) h Q := by
  rw [F_code_Reader_U8.eq_1, F_code_Reader_U8_of.eq_1]
  refine F_code_Reader_fixed.is (n := 1) o (by decide) O fun h O => ?_
  have hb := beN_lt (r.nextB 1)
  have hl := nextB_len r 1
  have h256 : 256 ^ (r.nextB 1).length ≤ 256 ^ 1 := Nat.pow_le_pow_right (by decide) hl
  rw [wrap8_ofNat]
  have : (UInt8.ofNat (beN (r.nextB 1))).toNat = beN (r.nextB 1) := by simp; omega
  rw [this]
  exact k h O
theorem F_code_Reader_next.stuck {n : Int} {Q : Sl → Heap → Prop} (hm : r.met ≠ 0) (O : Sat h0 h (rdR p r :: L)) (k : ∀ s, Bytes h s [] → Q s h) : F_code_Reader_next (some (pt p 0)) n h Q := by
  rw [F_code_Reader_next.eq_1, F_code_Reader_next_of.eq_1]
  simp only [nn_some, pt_add, Nat.zero_add, Nat.add_zero, Nat.reduceAdd, Nat.reduceMul, Int.toNat_zero, Int.toNat_one, Nat.zero_mul, Nat.one_mul]
  obtain ⟨s, O⟩ := O.rd_
  unfold rdC at O
  refine O.ld 0 rfl (ldL_c (ldL_n ?_))
  refine brr_ne (fun _ => ?_) (fun hm => by omega)
  exact k _ View.nil
theorem F_code_Reader_Var.is {most : Nat} {Q : Int → Heap → Prop} (o : r.Ok) (O : Sat h0 h (rdR p r :: L)) (k : ∀ h', Sat h0 h' (rdR p (r.varP most).1 :: L) → Q (((r.varP most).2 : Nat) : Int) h') : F_code_Reader_Var (some (pt p 0)) most h Q := by
  rw [F_code_Reader_Var.eq_1, F_code_Reader_Var_of.eq_1]
  simp only [nn_some, pt_add, Nat.zero_add, Nat.add_zero, Nat.reduceAdd, Nat.reduceMul, Int.toNat_zero, Int.toNat_one, Nat.zero_mul, Nat.one_mul]
  have h1 := o.le; have h2 := o.len
  have O2 := O
  obtain ⟨s, O1⟩ := O.rd_
  unfold rdC at O1
  have hb := O1.view 1 u8_len (by simp) rfl
  refine O1.ld 0 rfl (ldL_c (ldL_n ?_))
  refine brr_ne (fun hm => ?_) (fun hm => ?_)
  · have e : r.varP most = (r, 0) := by unfold RS.varP; rw [if_pos (by omega)]
    rw [e] at k
    exact k h O
  have hm : r.met = 0 := by omega
  refine O1.ld 0 rfl (ldL_c (k := .sl) (x := s) (ldL_n ?_))
  refine O1.ld 0 rfl (ldL_c (ldL_n ?_))
  refine O1.ld 0 rfl (ldL_c (ldL_n ?_))
  refine F_code_Reader_Left.is o O ?_
  refine ⟨O1.cells 0 rfl 0 1, O1.cells 0 rfl 1 1, O1.cells 0 rfl 1 1, ?_⟩
  have hlen := r.look_len
  have hleft : r.left = r.b.length - r.at_ := rfl
  have hsl := hb.1.len
  have emin : (if ((r.left : Nat) : Int) < 10 then ((r.left : Nat) : Int) else 10) = ((r.look.length : Nat) : Int) := by
    rw [hlen]; split <;> omega
  rw [emin, wrap64 (by omega) (by omega)]
  have hcap := hb.2
  refine ⟨by omega, by omega, by omega, ?_⟩
  have V2 : Bytes h ⟨slp 1 s r.at_, r.look.length, s.cap - r.at_⟩ r.look := by
    have := hb.1.slice r.at_ (r.at_ + r.look.length) (s.cap - r.at_) (by omega) (by omega) hb.2
    rw [show r.at_ + r.look.length - r.at_ = r.look.length by omega] at this
    have e : (r.b.drop r.at_).take r.look.length = r.look := by
      show _ = (r.b.drop r.at_).take 10
      rw [List.take_eq_take_iff, List.length_drop]
      omega
    rw [e] at this
    exact this
  rw [show ((r.at_ : Int) + r.look.length).toNat - (r.at_ : Int).toNat = r.look.length by omega, show (r.at_ : Int).toNat = r.at_ by omega]
  have hl10 : r.look.length ≤ 10 := by omega
  have vN := RS.varP_none (r := r) (most := most) hm
  have vS := fun k => RS.varP_some (r := r) (most := most) (k := k) hm
  generalize r.look = t at *
  refine jn0 (fun h' => h' = h ∧ r.varP most = ({ r with met := if t.length < 10 then 1 else 2 }, 0)) ?_ ?_
  · rintro h ⟨rfl, e⟩
    rw [e] at k
    refine jn0 (fun h' => Sat h0 h' (rdR p { r with met := if t.length < 10 then 1 else 2 } :: L)) (fun h O => k h O) fun j hj => ?_
    refine brr_p (fun hlt => ?_) (fun hlt => ?_)
    · have hlt : t.length < 10 := by have hlt : ((t.length : Nat) : Int) < 10 := hlt; omega
      rw [if_pos hlt] at hj
      refine O1.ld 0 rfl (ldL_c (ldL_n ?_))
      exact F_code_Reader_stop.is (a := r.at_) (m := 1) O fun h O => hj h O
    · have hlt : ¬ t.length < 10 := by have hlt : ¬ ((t.length : Nat) : Int) < 10 := hlt; omega
      rw [if_neg hlt] at hj
      refine O1.ld 0 rfl (ldL_c (ldL_n ?_))
      exact F_code_Reader_stop.is (a := r.at_) (m := 2) O fun h O => hj h O
  intro j14 hj14
  rw [F_code_Reader_Var.l1.eq_1]
  simp only [nn_some, pt_add, Nat.zero_add, Nat.add_zero, Nat.reduceAdd, Nat.reduceMul, Int.toNat_zero, Int.toNat_one, Nat.zero_mul, Nat.one_mul]
  refine wl2 (k := .int .u64) (l := .int .i64) (fun (m : Nat) (x i : Int) (h' : Heap) => 0 ≤ i ∧ i + m = t.length ∧ h' = h ∧ x = ((vnum (t.take i.toNat) : Nat) : Int) ∧ vlast t = (vlast (t.drop i.toNat)).map (· + i.toNat)) ?_ (m := t.length) ⟨by omega, by omega, rfl, rfl, by simp⟩
  rintro m (x : Int) (i : Int) h next hn ⟨hi0, him, rfl, rfl, hv⟩
  refine brr_p (fun hlt => ?_) (fun hlt => ?_)
  case refine_2 =>
    have hlt : ¬ i < (t.length : Int) := hlt
    rw [vlast_end (by omega)] at hv
    exact hj14 _ ⟨rfl, vN hv⟩
  have hlt : i < (t.length : Int) := hlt
  obtain ⟨i, rfl⟩ := Int.eq_ofNat_of_zero_le hi0
  simp only [Int.toNat_natCast] at *
  refine Bytes.at V2 hi0 hlt fun c hc => ?_
  simp only [Int.toNat_natCast] at hc
  have hst := vlast_step hc
  have hlt7 := vnum_lt (t.take i)
  rw [List.length_take, Nat.min_eq_left (by omega)] at hlt7
  have hgD : t.getD i 0 = c := by rw [List.getD_eq_getElem?_getD, hc]; rfl
  refine jn1 (fun (b : Bool) h' => b = decide (i = 9 ∧ 1 < c.toNat) ∧ h' = h) ?_ ?_
  case refine_2 =>
    intro j hj
    refine brr_eq (fun h9 => ?_) (fun h9 => ?_)
    · have h9 : (i : Int) = 9 := h9
      refine hj _ _ ⟨?_, rfl⟩
      have : i = 9 := by omega
      simp [this]
      omega
    · refine hj _ _ ⟨?_, rfl⟩
      have : i ≠ 9 := by intro e; subst e; exact h9 rfl
      simp [this]
  rintro (b : Bool) h ⟨rfl, rfl⟩
  refine brr_p (fun h9 => ?_) (fun h9 => ?_)
  · refine hj14 _ ⟨rfl, ?_⟩
    obtain ⟨rfl, hc1⟩ := h9
    by_cases hc128 : c.toNat < 128
    · rw [hst, if_pos hc128] at hv
      rw [vS 9 (by rw [hv]; rfl), if_pos (by unfold badForm; rw [hgD]; simp [hc1])]
      rw [if_neg (by omega)]
    · rw [hst, if_neg hc128, vlast_end (by omega)] at hv
      exact vN hv
  have e7 : IntKind.i64.wrap (7 * (i : Int)) = ((7 * i : Nat) : Int) := by rw [wrap64 (by omega) (by omega)]; omega
  have ewr : IntKind.u64.wrap ((c.toNat % 128 : Nat) : Int) = ((c.toNat % 128 : Nat) : Int) := wrapu64 (by omega) (by omega)
  have hc9 : i = 9 → c.toNat ≤ 1 := fun e => by
    rcases Nat.lt_or_ge 1 c.toNat with h | h
    · exact absurd ⟨e, h⟩ h9
    · exact h
  have hsn := take_snoc_at hc
  have hor := or7 _ i c hlt7 (by omega) hc9
  rw [← hsn] at hor
  simp only [e7, and127, ewr, hor, and128]
  refine ⟨by omega, ?_⟩
  refine brr_p (fun h128 => ?_) (fun h128 => ?_)
  · rw [if_neg (by omega)] at hst
    rw [wrap64 (by omega) (by omega)]
    refine hn (m - 1) _ _ _ (by omega) ⟨by omega, by omega, rfl, by simp [show ((i : Int) + 1).toNat = i + 1 by omega], ?_⟩
    rw [hv, hst, show ((i : Int) + 1).toNat = i + 1 by omega]
    cases vlast (t.drop (i + 1)) with
    | none => rfl
    | some y => simp; omega
  · rw [if_pos (by omega)] at hst
    rw [hst] at hv
    have hv : vlast t = some i := by rw [hv]; simp
    have vS := vS i hv
    refine jn1 (fun (b : Bool) h' => b = decide (c.toNat = 0 ∧ 0 < i) ∧ h' = h) ?_ ?_
    case refine_2 =>
      intro j hj
      refine brr_eq (fun h9 => ?_) (fun h9 => ?_)
      · refine hj _ _ ⟨?_, rfl⟩
        have : c.toNat = 0 := by omega
        simp [this]
      · refine hj _ _ ⟨?_, rfl⟩
        have : c.toNat ≠ 0 := by omega
        simp [this]
    rintro (b : Bool) h ⟨rfl, rfl⟩
    have hbad : badForm t i = decide (c.toNat = 0 ∧ 0 < i) := by
      unfold badForm
      rw [hgD]
      have : (decide (i = 9) && decide (1 < c.toNat)) = false := by
        by_cases e : i = 9
        · have := hc9 e; simp; omega
        · simp [e]
      rw [this, Bool.false_or, ← Bool.decide_and]
      exact decide_eq_decide.2 And.comm
    rw [hbad] at vS
    refine jn0 (fun h' => Sat h0 h' (rdR p (r.varP most).1 :: L) ∧ (r.varP most).2 = 0) ?_ ?_
    · rintro h ⟨O, e⟩
      rw [e] at k
      exact k h O
    · intro j27 hj27
      refine brr_p (fun hz => ?_) (fun hz => ?_)
      · rw [if_pos (by simpa using hz)] at vS
        refine O1.ld 0 rfl (ldL_c (ldL_n ?_))
        refine F_code_Reader_stop.is (a := r.at_) (m := 2) O fun h O => hj27 h ?_
        rw [vS]
        exact ⟨O, rfl⟩
      · rw [if_neg (by simpa using hz)] at vS
        refine brr_p (fun hg => ?_) (fun hg => ?_)
        · rw [if_pos (by omega)] at vS
          refine O1.ld 0 rfl (ldL_c (ldL_n ?_))
          refine F_code_Reader_stop.is (a := r.at_) (m := 3) O fun h O => hj27 h ?_
          rw [vS]
          exact ⟨O, rfl⟩
        · rw [if_neg (by omega)] at vS
          refine O1.ld 0 rfl (ldL_c (ldL_n ?_))
          refine O1.st 0 rfl (by simp) rfl fun h O => ?_
          dsimp only [V.put, List.set] at O
          rw [vS] at k
          refine k h (Sat.rdI (s := s) ?_)
          unfold rdC
          rw [wrap64 (x := (i : Int) + 1) (by omega) (by omega), wrap64 (by omega) (by omega)] at O
          rw [show ((r.at_ + (i + 1) : Nat) : Int) = (r.at_ : Int) + ((i : Int) + 1) by omega]
          exact O
theorem F_code_Reader_Bytes.is {most : Int} {Q : Sl → Heap → Prop} (o : r.Ok) (hmo : most ≤ (9223372036854775807 : Int)) (O : Sat h0 h (rdR p r :: L)) (k : ∀ s h', Sat h0 h' (buf 1 u8 s (r.bytesP most).2 :: rdR p (r.bytesP most).1 :: L) → Q s h') : F_code_Reader_Bytes (some (pt p 0)) most h Q := by
  rw [F_code_Reader_Bytes.eq_1, F_code_Reader_Bytes_of.eq_1]
  simp only [nn_some, pt_add, Nat.zero_add, Nat.add_zero, Nat.reduceAdd, Nat.reduceMul, Int.toNat_zero, Int.toNat_one, Nat.zero_mul, Nat.one_mul]
  obtain ⟨s1, O1⟩ := O.rd_
  unfold rdC at O1
  refine O1.ld 0 rfl (ldL_c (ldL_n ?_))
  have emax : (if most > 0 then most else 0) = (((max 0 most).toNat : Nat) : Int) := by split <;> omega
  have hmx : (max 0 most).toNat ≤ 9223372036854775807 := by omega
  rw [emax, wrapu64 (by omega) (by omega)]
  have e : r.bytesP most = _ := RS.bytesP.eq_1 r most
  generalize (max 0 most).toNat = mo at *
  refine F_code_Reader_Var.is o O fun h O => ?_
  have o1 := o.varP mo
  have hn := RS.varP_le (r := r) (most := mo)
  have hb := RS.varP_b (r := r) (most := mo)
  generalize (r.varP mo).2 = n at *
  generalize (r.varP mo).1 = r1 at *
  have hb1 := o1.len
  have hle := o1.le
  have fin : ∀ {s : Sl} {h : Heap} {r' : RS} {xs : List UInt8}, xs.length ≤ 281474976710656 → Sat h0 h (rdR p r' :: L) → Bytes h s xs → r.bytesP most = (r', xs) → F_code_taken s h Q := by
    intro s h r' xs hx O V1 e
    rw [e] at k
    exact F_code_taken.is O V1 hx fun s h O _ _ => k s h O
  refine jn1 (fun (b : Bool) h' => b = decide (r1.met = 0 ∧ n > r1.left) ∧ h' = h) ?_ ?_
  · rintro (b : Bool) h ⟨rfl, rfl⟩
    refine jn0 (fun h' => ∃ r', Sat h0 h' (rdR p r' :: L) ∧ r' = (if r1.met = 0 ∧ n > r1.left then { r1 with at_ := r.at_, met := 1 } else r1)) ?_ ?_
    · rintro h ⟨r', O, rfl⟩
      rw [wrap64 (by omega) (by omega)]
      by_cases hp : r1.met = 0 ∧ n > r1.left
      · rw [if_pos hp] at O e
        refine F_code_Reader_next.stuck (r := { r1 with at_ := r.at_, met := 1 }) (by show 1 ≠ 0; decide) O fun s V1 => ?_
        exact fin (by simp) O V1 e
      · rw [if_neg hp] at O e
        refine F_code_Reader_next.is o1 (by omega) O fun s h O V1 => ?_
        refine fin ?_ O V1 e
        unfold RS.nextB
        split
        · simp
        · split
          · simp
          · rw [List.length_take, List.length_drop]; omega
    · intro j hj
      refine brr_p (fun hp => ?_) (fun hp => ?_)
      · refine F_code_Reader_stop.is (a := r.at_) (m := 1) O fun h O => hj h ⟨_, O, ?_⟩
        rw [if_pos hp]
      · exact hj _ ⟨_, O, by rw [if_neg hp]⟩
  · intro j hj
    obtain ⟨s, O1⟩ := O.rd_
    unfold rdC at O1
    refine O1.ld 0 rfl (ldL_c (ldL_n ?_))
    refine brr_eq (fun hm => ?_) (fun hm => ?_)
    · have hm : r1.met = 0 := by omega
      refine F_code_Reader_Left.is o1 O ?_
      have hleft : r1.left ≤ r1.b.length := by unfold RS.left; omega
      rw [wrapu64 (by omega) (by omega)]
      refine hj _ _ ⟨?_, rfl⟩
      apply decide_eq_decide.2
      omega
    · refine hj _ _ ⟨?_, rfl⟩
      have hm : r1.met ≠ 0 := by omega
      simp [hm]
end
end Go.Proofs.YthiginhigfieiaaGreatDoor.V
namespace Go.Proofs.YthiginhigfieiaaGreatDoor.V
open Go Go.RowKit
set_option linter.unusedVariables false
set_option maxRecDepth 100000
end Go.Proofs.YthiginhigfieiaaGreatDoor.V
/- Lists of texts as they come in; a text turned round; a text laid over another. -/
namespace Go.Proofs.YthiginhigfieiaaGreatDoor.V
open Go Go.RowKit
set_option linter.unusedVariables false
set_option linter.unusedSimpArgs false
abbrev tyBytes : Ty := .sl 1 1 (.int .u8)
def txR (H : Heap) (N : Nat) (x : Sl × List UInt8) (cs : List Value) : Prop := cs = [.slice x.1.ptr x.1.len x.1.cap] ∧ Bytes H x.1 x.2 ∧ x.2.length ≤ N ∧ x.1.len ≤ x.1.cap
theorem SlN.bytesN {h : Heap} {N : Nat} {s : Sl} (S : SlN h N 1 1 s fun cs => Fit h N (.int .u8) cs) : s.len ≤ s.cap ∧ ∃ l : List UInt8, Bytes h s l ∧ l.length ≤ N := by
  obtain ⟨h1, h2, l, V⟩ := S.bytes
  exact ⟨h1, l, V, by rw [← V.len]; omega⟩
theorem SlN.texts {h : Heap} {N : Nat} {s : Sl} (S : SlN h N 1 24 s fun cs => Fit h N tyBytes cs) : ∃ xs : List (Sl × List UInt8), View h 1 (txR h N) s xs ∧ xs.length ≤ N := by
  obtain ⟨h1, h2, _, xs, V⟩ := S.view (txR h N) (fun cs ⟨t, e, tS⟩ => by
    obtain ⟨h1, l, V, hl⟩ := tS.bytesN
    exact ⟨(t, l), e, V, hl, h1⟩)
  exact ⟨xs, V, by rw [← V.len]; omega⟩
end Go.Proofs.YthiginhigfieiaaGreatDoor.V
/- A step of a script on Writers and Readers. -/
namespace Go.Proofs.YthiginhigfieiaaGreatDoor.V
open Go Go.RowKit
set_option linter.unusedVariables false
set_option linter.unusedSimpArgs false
structure COp where
  kind : Int
  which : Int
  m : Int
  n : Nat
  s : Sl
  b : List UInt8
section
variable {h0 h : Heap} {L : List Res}
def laid (o : COp) : List UInt8 :=
  if o.kind = 1 then fixB (o.n % 256) 1 else if o.kind = 2 then fixB (o.n % 4294967296) 4 else if o.kind = 3 then fixB o.n 8 else if o.kind = 4 then varB o.n else if o.kind = 5 then varB o.b.length ++ o.b else if o.kind = 6 then o.b else []
end
end Go.Proofs.YthiginhigfieiaaGreatDoor.V
namespace Go.Proofs.YthiginhigfieiaaGreatDoor.V
open Go Go.RowKit
set_option linter.unusedVariables false
set_option maxRecDepth 100000
def F_ref1_Eye_U8_of (f158_ : Y10) (e1 : Option Addr) (h : Heap) (Q : Int → Heap → Prop) : Prop :=
  f158_ e1 1 h fun (r2 : Int) (h3 : Heap) =>
  Q (IntKind.u8.wrap r2) h3
def F_ref1_Eye_U8 (e1 : Option Addr) (h : Heap) (Q : Int → Heap → Prop) : Prop := F_ref1_Eye_U8_of F_ref1_Eye_fixed e1 h Q
def plan144 : Plan := .s (.r [0]) (.s (.r [2]) .z)
theorem F_ref1_Eye_U8.eq (f158_ : Y10) (e1 : Option Addr) (h : Heap) (K : YV) : F_ref1_Eye_U8_of f158_ e1 h (fun (r0 : Int) (h : Heap) => K (.int .u8 r0) h) =
    den Tryz.prog (fn1 158 (E_ref1_Eye_fixed_of f158_) noFns) Tryz.f144.ntmps plan144 (bodyOf Tryz.f144) (args0 0 [(.pointer e1 : Value)]) h (konF Tryz.f144 K) := by kernel_rfl
def E_ref1_Eye_U8_of (f : Y2) : List Value → Heap → YV → Prop
  | [v0], h, K => dec1 .ptr v0 fun (e1 : Option Addr) =>
  f e1 h (fun (r0 : Int) (h : Heap) => K (.int .u8 r0) h)
  | _, _, _ => False
abbrev E_ref1_Eye_U8 := E_ref1_Eye_U8_of F_ref1_Eye_U8
theorem E_ref1_Eye_U8.right : IsRight Tryz.prog 144 E_ref1_Eye_U8 := by
  refine isRight fun vs K w hh => ?_
  match vs, hh with
  | [v0], hh =>
    unfold E_ref1_Eye_U8 E_ref1_Eye_U8_of at hh
    replace hh := dec1_sound hh; obtain ⟨e1, rfl, hh⟩ := hh
    unfold F_ref1_Eye_U8 at hh
    exact calls_den (fn1_right ok158 E_ref1_Eye_fixed.right noFns_right) plan144 _ w K Tryz.func144 (by kernel_rfl) (by kernel_rfl) (Eq.mp (F_ref1_Eye_U8.eq F_ref1_Eye_fixed e1 w.heap K) hh)
theorem ok144 : okFn Tryz.prog 144 = true := by kernel_rfl
def F_ref1_Eye_Var.l1 (e1 : Option Addr) (j15 : Int → Heap → Prop) : Int → Int → Heap → Prop :=
  wl [(6, .one (.int .u64)), (7, .one (.int .i64))] (fun (next16 : Int → Int → Heap → Prop) (n17 i18 : Int) (h19 : Heap) =>
  nn e1 fun (a20 : Addr) =>
  ld [.int .i64] (a20.add 1) h19 fun (v21 : Int) =>
  brr (decide (i18 ≥ v21))
  (nn e1 fun (a22 : Addr) =>
  ld [.sl] (a22.add 0) h19 fun (v23 : Sl) =>
  ixS 1 v23 i18 fun (a24 : Addr) =>
  ld [.int .u8] a24 h19 fun (v25 : Int) =>
  (128 : Int) ≠ 0 ∧
  next16 (IntKind.u64.wrap ((IntKind.u64.wrap (n17 * 128)) + (IntKind.u64.wrap (v25.tmod 128)))) (IntKind.i64.wrap (i18 - 1)) h19)
  (j15 n17 h19))
def F_ref1_Eye_Var_of (f12_ : Y22) (f142_ : Y15) (f159_ f160_ : Y2) (e1 : Option Addr) (most2 : Int) (h : Heap) (Q : Int → Heap → Prop) : Prop :=
  nn e1 fun (a3 : Addr) =>
  ld [.int .i64] (a3.add 2) h fun (v4 : Int) =>
  brr (v4 != 0)
  (Q 0 h)
  (f159_ e1 h fun (r5 : Int) (h6 : Heap) =>
  brr (decide (r5 < 0))
  (nn e1 fun (a7 : Addr) =>
  st (a7.add 2) [.int .i64 11] h6 fun (h8 : Heap) =>
  f160_ e1 h8 fun (r9 : Int) (h10 : Heap) =>
  jn [] (fun  (h14 : Heap) =>
  Q 0 h14) (fun (j11 : Heap → Prop) =>
  brr (decide (r9 < 10))
  (nn e1 fun (a12 : Addr) =>
  st (a12.add 2) [.int .i64 10] h10 fun (h13 : Heap) =>
  j11 h13)
  (j11 h10)))
  (jn [(6, .one (.int .u64))] (fun (n26 : Int) (h27 : Heap) =>
  nn e1 fun (a28 : Addr) =>
  ld [.sl] (a28.add 0) h27 fun (v29 : Sl) =>
  nn e1 fun (a30 : Addr) =>
  ld [.int .i64] (a30.add 1) h27 fun (v31 : Int) =>
  slFT 1 v29 v31 (IntKind.i64.wrap (r5 + 1)) fun (s32 : Sl) =>
  f142_ n26 h27 fun (r33 : Sl) (h34 : Heap) =>
  cellsAre h34 (a28.add 0) [.slice v29.ptr v29.len v29.cap] ∧
  cellsAre h34 (a30.add 1) [.int .i64 v31] ∧
  f12_ r33 s32 h34 fun (r35 : Bool) (h36 : Heap) =>
  brr (!r35)
  (nn e1 fun (a37 : Addr) =>
  st (a37.add 2) [.int .i64 11] h36 fun (h38 : Heap) =>
  Q 0 h38)
  (brr (decide (n26 > most2))
  (nn e1 fun (a39 : Addr) =>
  st (a39.add 2) [.int .i64 12] h36 fun (h40 : Heap) =>
  Q 0 h40)
  (nn e1 fun (a41 : Addr) =>
  st (a41.add 1) [.int .i64 (IntKind.i64.wrap (r5 + 1))] h36 fun (h42 : Heap) =>
  Q n26 h42))) (fun (j15 : Int → Heap → Prop) =>
  F_ref1_Eye_Var.l1 e1 j15 0 r5 h6)))
def F_ref1_Eye_Var (e1 : Option Addr) (most2 : Int) (h : Heap) (Q : Int → Heap → Prop) : Prop := F_ref1_Eye_Var_of F_ref0_Eq F_ref1_Var F_ref1_Eye_last F_ref1_Eye_Left e1 most2 h Q
def plan145 : Plan := .s (.r [0, 1]) (.s (.s (.r [0, 1, 12]) (.c (.s (.r [4]) .z) .z)) (.s (.r [0, 1, 5]) (.s (.s (.r [0, 1, 5, 16]) (.c (.s (.r [0]) (.s (.s (.r [0, 22]) (.cj [] [] (.r []) .z)) (.s (.r [4]) .z))) .z)) (.s (.r [0, 1, 5, 6]) (.s (.s (.r [0, 1, 5, 6, 7]) (.bj [(6, .one (.int .u64))] [0, 1, 5] (.l [(6, .one (.int .u64)), (7, .one (.int .i64))] [0, 1, 5] (.s (.s (.r [0, 1, 5, 6, 7, 32]) (.c .z .z)) (.s (.b (.r [0, 1, 5, 6, 7])) (.r [0, 1, 5, 6, 7])))))) (.s (.s (.d [0, 1, 0, 4, 12, 28, 0, 64, 192, 448, 0, 1024, 4092, 8191, 16383] [[0, 2, 3, 4, 5, 6, 7, 8, 9, 10, 11, 12, 1, 13, 14]] [0, 1, 5, 6, 61]) (.c (.s (.r []) (.s (.r [4]) .z)) .z)) (.s (.s (.r [0, 5, 6, 67]) (.c (.s (.r []) (.s (.r [4]) .z)) .z)) (.s (.r [6]) (.s (.r [4]) .z)))))))))
theorem F_ref1_Eye_Var.eq (f12_ : Y22) (f142_ : Y15) (f159_ f160_ : Y2) (e1 : Option Addr) (most2 : Int) (h : Heap) (K : YV) : F_ref1_Eye_Var_of f12_ f142_ f159_ f160_ e1 most2 h (fun (r0 : Int) (h : Heap) => K (.int .u64 r0) h) =
    den Tryz.prog (fn1 12 (E_ref0_Eq_of f12_) (fn1 142 (E_ref1_Var_of f142_) (fn1 159 (E_ref1_Eye_last_of f159_) (fn1 160 (E_ref1_Eye_Left_of f160_) noFns)))) Tryz.f145.ntmps plan145 (bodyOf Tryz.f145) (args0 0 [(.pointer e1 : Value), (.int .u64 most2 : Value)]) h (konF Tryz.f145 K) := by kernel_rfl
def E_ref1_Eye_Var_of (f : Y10) : List Value → Heap → YV → Prop
  | [v0, v1], h, K => dec1 .ptr v0 fun (e1 : Option Addr) =>
  dec1 (.int .u64) v1 fun (most2 : Int) =>
  f e1 most2 h (fun (r0 : Int) (h : Heap) => K (.int .u64 r0) h)
  | _, _, _ => False
abbrev E_ref1_Eye_Var := E_ref1_Eye_Var_of F_ref1_Eye_Var
theorem E_ref1_Eye_Var.right : IsRight Tryz.prog 145 E_ref1_Eye_Var := by
  refine isRight fun vs K w hh => ?_
  match vs, hh with
  | [v0, v1], hh =>
    unfold E_ref1_Eye_Var E_ref1_Eye_Var_of at hh
    replace hh := dec1_sound hh; obtain ⟨e1, rfl, hh⟩ := hh
    replace hh := dec1_sound hh; obtain ⟨most2, rfl, hh⟩ := hh
    unfold F_ref1_Eye_Var at hh
    exact calls_den (fn1_right ok12 E_ref0_Eq.right (fn1_right ok142 E_ref1_Var.right (fn1_right ok159 E_ref1_Eye_last.right (fn1_right ok160 E_ref1_Eye_Left.right noFns_right)))) plan145 _ w K Tryz.func145 (by kernel_rfl) (by kernel_rfl) (Eq.mp (F_ref1_Eye_Var.eq F_ref0_Eq F_ref1_Var F_ref1_Eye_last F_ref1_Eye_Left e1 most2 w.heap K) hh)
theorem ok145 : okFn Tryz.prog 145 = true := by kernel_rfl
def F_ref1_Eye_Text_of (f145_ : Y10) (f161_ : Y11) (e1 : Option Addr) (most2 : Int) (h : Heap) (Q : Sl → Heap → Prop) : Prop :=
  jn [(1, .one (.int .i64))] (fun (most4 : Int) (h5 : Heap) =>
  nn e1 fun (a6 : Addr) =>
  ld [.int .i64] (a6.add 1) h5 fun (v7 : Int) =>
  f145_ e1 (IntKind.u64.wrap most4) h5 fun (r8 : Int) (h9 : Heap) =>
  f161_ e1 (IntKind.i64.wrap r8) h9 fun (r10 : Sl) (h11 : Heap) =>
  nn e1 fun (a12 : Addr) =>
  ld [.int .i64] (a12.add 2) h11 fun (v13 : Int) =>
  brr (v13 != 0)
  (nn e1 fun (a14 : Addr) =>
  st (a14.add 1) [.int .i64 v7] h11 fun (h15 : Heap) =>
  Q (⟨none, 0, 0⟩ : Sl) h15)
  (Q r10 h11)) (fun (j3 : Int → Heap → Prop) =>
  brr (decide (most2 < 0))
  (j3 0 h)
  (j3 most2 h))
def F_ref1_Eye_Text (e1 : Option Addr) (most2 : Int) (h : Heap) (Q : Sl → Heap → Prop) : Prop := F_ref1_Eye_Text_of F_ref1_Eye_Var F_ref1_Eye_Raw e1 most2 h Q
def plan146 : Plan := .s (.r [0, 1]) (.s (.s (.r [0, 1, 9]) (.cj [(1, .one (.int .i64))] [0] (.r [0, 1]) .z)) (.s (.r [0, 1, 5]) (.s (.r [0, 5, 6]) (.s (.r [0, 5, 7]) (.s (.s (.r [0, 5, 7, 26]) (.c (.s (.r []) (.s (.r [4]) .z)) .z)) (.s (.r [4]) .z))))))
theorem F_ref1_Eye_Text.eq (f145_ : Y10) (f161_ : Y11) (e1 : Option Addr) (most2 : Int) (h : Heap) (K : YV) : F_ref1_Eye_Text_of f145_ f161_ e1 most2 h (fun (r0 : Sl) (h : Heap) => K (.slice r0.ptr r0.len r0.cap) h) =
    den Tryz.prog (fn1 145 (E_ref1_Eye_Var_of f145_) (fn1 161 (E_ref1_Eye_Raw_of f161_) noFns)) Tryz.f146.ntmps plan146 (bodyOf Tryz.f146) (args0 0 [(.pointer e1 : Value), (.int .i64 most2 : Value)]) h (konF Tryz.f146 K) := by kernel_rfl
def E_ref1_Eye_Text_of (f : Y11) : List Value → Heap → YV → Prop
  | [v0, v1], h, K => dec1 .ptr v0 fun (e1 : Option Addr) =>
  dec1 (.int .i64) v1 fun (most2 : Int) =>
  f e1 most2 h (fun (r0 : Sl) (h : Heap) => K (.slice r0.ptr r0.len r0.cap) h)
  | _, _, _ => False
abbrev E_ref1_Eye_Text := E_ref1_Eye_Text_of F_ref1_Eye_Text
theorem E_ref1_Eye_Text.right : IsRight Tryz.prog 146 E_ref1_Eye_Text := by
  refine isRight fun vs K w hh => ?_
  match vs, hh with
  | [v0, v1], hh =>
    unfold E_ref1_Eye_Text E_ref1_Eye_Text_of at hh
    replace hh := dec1_sound hh; obtain ⟨e1, rfl, hh⟩ := hh
    replace hh := dec1_sound hh; obtain ⟨most2, rfl, hh⟩ := hh
    unfold F_ref1_Eye_Text at hh
    exact calls_den (fn1_right ok145 E_ref1_Eye_Var.right (fn1_right ok161 E_ref1_Eye_Raw.right noFns_right)) plan146 _ w K Tryz.func146 (by kernel_rfl) (by kernel_rfl) (Eq.mp (F_ref1_Eye_Text.eq F_ref1_Eye_Var F_ref1_Eye_Raw e1 most2 w.heap K) hh)
theorem ok146 : okFn Tryz.prog 146 = true := by kernel_rfl
end Go.Proofs.YthiginhigfieiaaGreatDoor.V
/- The document's Reader (Eye), beside the program's. -/
namespace Go.Proofs.YthiginhigfieiaaGreatDoor.V
open Go Go.RowKit
set_option linter.unusedVariables false
set_option linter.unusedSimpArgs false
def eyC (s : Sl) (r : RS) : List Value := [.slice s.ptr s.len s.cap, .int .i64 (r.at_ : Int), .int .i64 (erN r.met)]
theorem erN_zero (m : Nat) : erN m = 0 ↔ m = 0 := by
  match m with
  | 0 => simp [erN]
  | 1 => simp [erN]
  | 2 => simp [erN]
  | 3 => simp [erN]
  | m + 4 => simp [erN]
theorem wrapu64m (n : Nat) : IntKind.u64.wrap (n : Int) = ((n % 18446744073709551616 : Nat) : Int) := by
  unfold IntKind.wrap
  simp [IntKind.bits, IntKind.signed]
theorem RS.nextB_le {r : RS} (n : Nat) : (r.nextB n).length ≤ r.b.length := by
  unfold RS.nextB
  split
  · simp
  · split
    · simp
    · rw [List.length_take, List.length_drop]; omega
theorem RS.next_p {r : RS} {n : Nat} (hm : r.met = 0) (hg : n > r.left) : r.next n = { r with met := 1 } ∧ r.nextB n = [] := by
  unfold RS.next RS.nextB
  rw [if_neg (by omega), if_pos hg, if_neg (by omega), if_pos hg]
  exact ⟨rfl, rfl⟩
theorem RS.next_q {r : RS} {n : Nat} (hm : r.met = 0) (hg : ¬ n > r.left) : r.next n = { r with at_ := r.at_ + n } ∧ r.nextB n = (r.b.drop r.at_).take n := by
  unfold RS.next RS.nextB
  rw [if_neg (by omega), if_neg hg, if_neg (by omega), if_neg hg]
  exact ⟨rfl, rfl⟩
def Eyes (h0 : Heap) (L : List Res) (s : Sl) (b : List UInt8) : Prop := Stays h0 L fun h => Bytes h s b ∧ s.len ≤ s.cap
section
variable {h0 h : Heap} {L : List Res} {p : Nat} {r : RS} {s : Sl}
theorem F_ref1_Eye_Left.is {Q : Int → Heap → Prop} (o : r.Ok) (hs : s.len = r.b.length) (O : Sat h0 h (own p (eyC s r) :: L)) (k : Q (r.left : Nat) h) : F_ref1_Eye_Left (some (pt p 0)) h Q := by
  rw [F_ref1_Eye_Left.eq_1, F_ref1_Eye_Left_of.eq_1]
  simp only [nn_some, pt_add, Nat.zero_add, Nat.add_zero, Nat.reduceAdd, Nat.reduceMul, Int.toNat_zero, Int.toNat_one, Nat.zero_mul, Nat.one_mul]
  unfold eyC at O
  refine O.ld 0 rfl (ldL_c (ldL_n ?_))
  refine O.ld 0 rfl (ldL_c (ldL_n ?_))
  rw [hs]
  have h1 := o.le; have h2 := o.len
  rw [wrap64 (by omega) (by omega)]
  unfold RS.left at k
  rw [show ((r.b.length : Int) - (r.at_ : Int)) = ((r.b.length - r.at_ : Nat) : Int) by omega]
  exact k
theorem F_ref1_Eye_Raw.is {n : Int} {Q : Sl → Heap → Prop} (o : r.Ok) (E : Eyes h0 L s r.b) (hn : n ≤ (9223372036854775807 : Int)) (O : Sat h0 h (own p (eyC s r) :: L)) (k : ∀ t h', Sat h0 h' (buf 1 u8 t (r.rawP n).2 :: own p (eyC s (r.rawP n).1) :: L) → Q t h') : F_ref1_Eye_Raw (some (pt p 0)) n h Q := by
  rw [F_ref1_Eye_Raw.eq_1, F_ref1_Eye_Raw_of.eq_1]
  simp only [nn_some, pt_add, Nat.zero_add, Nat.add_zero, Nat.reduceAdd, Nat.reduceMul, Int.toNat_zero, Int.toNat_one, Nat.zero_mul, Nat.one_mul]
  have hs := (E h O.drop).1.len
  have fin : ∀ {t : Sl} {h : Heap} {r' : RS} {xs : List UInt8}, Sat h0 h (buf 1 u8 t xs :: own p (eyC s r') :: L) → r.rawP n = (r', xs) → Q t h := by
    intro t h r' xs O e
    rw [e] at k
    exact k t h O
  have O1 := O
  unfold eyC at O
  refine O.ld 0 rfl (ldL_c (ldL_n ?_))
  refine brr_ne (fun hm => ?_) (fun hm => ?_)
  · have hm : r.met ≠ 0 := fun e => hm ((erN_zero _).2 e)
    refine fin O1.nil_buf ?_
    unfold RS.rawP RS.next RS.nextB
    rw [if_pos hm, if_pos hm, if_neg hm]
    split <;> rfl
  have hm : r.met = 0 := (erN_zero _).1 hm
  refine brr_p (fun hneg => ?_) (fun hneg => ?_)
  · refine O.st 0 rfl (by simp) rfl fun h O => ?_
    dsimp only [V.put, List.set] at O
    refine fin (r' := { r with met := 4 }) O.nil_buf ?_
    unfold RS.rawP
    rw [if_pos hneg, if_pos hm]
  obtain ⟨n, rfl⟩ := Int.eq_ofNat_of_zero_le (by omega : 0 ≤ n)
  have e : r.rawP (n : Int) = (r.next n, r.nextB n) := by unfold RS.rawP; rw [if_neg hneg]; rfl
  refine F_ref1_Eye_Left.is o hs O1 ?_
  refine brr_p (fun hg => ?_) (fun hg => ?_)
  · rw [(RS.next_p hm (by omega)).1, (RS.next_p hm (by omega)).2] at e
    refine O.st 0 rfl (by simp) rfl fun h O => ?_
    dsimp only [V.put, List.set] at O
    exact fin (r' := { r with met := 1 }) O.nil_buf e
  have hg : ¬ n > r.left := by omega
  rw [(RS.next_q hm hg).1, (RS.next_q hm hg).2] at e
  unfold RS.left at hg
  have h1 := o.le; have h2 := o.len
  have hc := (E h O1.drop).2
  refine O.ld 0 rfl (ldL_c (k := .sl) (x := s) (ldL_n ?_))
  refine O.ld 0 rfl (ldL_c (ldL_n ?_))
  refine O.ld 0 rfl (ldL_c (ldL_n ?_))
  rw [wrap64 (by omega) (by omega)]
  refine ⟨by omega, by omega, by omega, ?_⟩
  have V2 := (E h O1.drop).1.slice r.at_ (r.at_ + n) (s.cap - r.at_) (by omega) (by omega) hc
  rw [show r.at_ + n - r.at_ = n by omega] at V2
  rw [show ((r.at_ : Int) + n).toNat - (r.at_ : Int).toNat = n by omega, show (r.at_ : Int).toNat = r.at_ by omega]
  refine F_ref0_Copy.is O V2 (by rw [List.length_take, List.length_drop]; omega) fun t h O _ _ => ?_
  refine O.ld 1 rfl (ldL_c (ldL_n ?_))
  have O := O.swap
  refine O.st 0 rfl (by simp) rfl fun h O => ?_
  dsimp only [V.put, List.set] at O
  rw [wrap64 (by omega) (by omega)] at O
  refine fin (r' := { r with at_ := r.at_ + n }) ?_ e
  unfold eyC
  rw [show (((r.at_ + n : Nat)) : Int) = (r.at_ : Int) + n by omega]
  exact O.swap
theorem F_ref1_Eye_fixed.is {n : Nat} {Q : Int → Heap → Prop} (o : r.Ok) (E : Eyes h0 L s r.b) (hn : n ≤ 8) (O : Sat h0 h (own p (eyC s r) :: L)) (k : ∀ h', Sat h0 h' (own p (eyC s (r.next n)) :: L) → Q ((beN (r.nextB n) : Nat) : Int) h') : F_ref1_Eye_fixed (some (pt p 0)) n h Q := by
  rw [F_ref1_Eye_fixed.eq_1, F_ref1_Eye_fixed_of.eq_1]
  refine F_ref1_Eye_Raw.is (n := n) o E (by omega) O fun t h O => ?_
  have e : r.rawP (n : Int) = (r.next n, r.nextB n) := by unfold RS.rawP; rw [if_neg (by omega)]; rfl
  rw [e] at O
  dsimp only at O
  have hlen := nextB_len r n
  generalize r.nextB n = ys at *
  have V1 := (O.view 0 u8_len (by simp) rfl).1
  refine jn1 (fun (x : Int) h' => x = ((beN ys : Nat) : Int) ∧ h' = h) ?_ ?_
  · rintro x h ⟨rfl, rfl⟩
    exact k _ O.drop
  · intro j hj
    rw [F_ref1_Eye_fixed.l1.eq_1]
    refine wl2 (k := .int .u64) (l := .int .i64) (fun (m : Nat) (x i : Int) (h' : Heap) => 0 ≤ i ∧ i + m = ys.length ∧ h' = h ∧ x = ((beN (ys.take i.toNat) : Nat) : Int)) ?_ (m := ys.length) ⟨by omega, by omega, rfl, rfl⟩
    rintro m (x : Int) (i : Int) h next hn2 ⟨hi0, him, rfl, rfl⟩
    rw [V1.len]
    refine brr_p (fun hlt => ?_) (fun hlt => ?_)
    · refine Bytes.at V1 hi0 hlt fun c hc => ?_
      have hb := beN_lt (ys.take i.toNat)
      rw [List.length_take, Nat.min_eq_left (by omega)] at hb
      have h256 : 256 ^ i.toNat ≤ 256 ^ 7 := Nat.pow_le_pow_right (by decide) (by omega)
      have hb2 : beN (ys.take i.toNat) < 72057594037927936 := Nat.lt_of_lt_of_le hb h256
      have hcl := c.toNat_lt
      rw [wrapu64 (x := ((beN (ys.take i.toNat) : Nat) : Int) * 256) (by omega) (by omega), wrapu64 (x := (c.toNat : Int)) (by omega) (by omega), wrapu64 (by omega) (by omega), wrap64 (by omega) (by omega)]
      refine hn2 (m - 1) _ _ _ (by omega) ⟨by omega, by omega, rfl, ?_⟩
      rw [show (i + 1).toNat = i.toNat + 1 by omega, take_succ_eq hc, beN_snoc]
      omega
    · refine hj _ _ ⟨?_, rfl⟩
      rw [List.take_of_length_le (by omega)]
theorem F_ref1_Eye_U8.is {Q : Int → Heap → Prop} (o : r.Ok) (E : Eyes h0 L s r.b) (O : Sat h0 h (own p (eyC s r) :: L)) (k : ∀ h', Sat h0 h' (own p (eyC s (r.next 1)) :: L) → Q ((beN (r.nextB 1) : Nat) : Int) h') : F_ref1_Eye_U8 (some (pt p 0)) h Q := by
  rw [F_ref1_Eye_U8.eq_1, F_ref1_Eye_U8_of.eq_1]
  refine F_ref1_Eye_fixed.is (n := 1) o E (by decide) O fun h O => ?_
  have hb := beN_lt (r.nextB 1)
  have hl := nextB_len r 1
  have h256 : 256 ^ (r.nextB 1).length ≤ 256 ^ 1 := Nat.pow_le_pow_right (by decide) hl
  rw [wrap8_ofNat]
  have : (UInt8.ofNat (beN (r.nextB 1))).toNat = beN (r.nextB 1) := by simp; omega
  rw [this]
  exact k h O
theorem look_at {b : List UInt8} {a i : Nat} (hi : i < 10) : ((b.drop a).take 10)[i]? = b[a + i]? := by
  rw [List.getElem?_take, if_pos hi, List.getElem?_drop]
theorem F_ref1_Eye_last.is {Q : Int → Heap → Prop} (o : r.Ok) (E : Eyes h0 L s r.b) (O : Sat h0 h (own p (eyC s r) :: L)) (k1 : vlast r.look = none → Q (-1) h) (k2 : ∀ k, vlast r.look = some k → Q ((r.at_ + k : Nat) : Int) h) : F_ref1_Eye_last (some (pt p 0)) h Q := by
  rw [F_ref1_Eye_last.eq_1, F_ref1_Eye_last_of.eq_1]
  have h1 := o.le; have h2 := o.len
  have hs := (E h O.drop).1.len
  have hlen := r.look_len
  have hleft : r.left = r.b.length - r.at_ := rfl
  unfold eyC at O
  refine jn0 (fun h' => h' = h ∧ vlast r.look = none) (fun h' ⟨e1, e2⟩ => e1 ▸ k1 e2) fun j hj => ?_
  rw [F_ref1_Eye_last.l1.eq_1]
  simp only [nn_some, pt_add, Nat.zero_add, Nat.add_zero, Nat.reduceAdd, Nat.reduceMul, Int.toNat_zero, Int.toNat_one, Nat.zero_mul, Nat.one_mul]
  refine wl1 (k := .int .i64) (fun (m : Nat) (i : Int) (h' : Heap) => 0 ≤ i ∧ i + m = r.look.length ∧ h' = h ∧ vlast r.look = (vlast (r.look.drop i.toNat)).map (· + i.toNat)) ?_ (m := r.look.length) ⟨by omega, by omega, rfl, by simp⟩
  rintro m (i : Int) h next hn ⟨hi0, him, rfl, hv⟩
  obtain ⟨i, rfl⟩ := Int.eq_ofNat_of_zero_le hi0
  simp only [Int.toNat_natCast] at *
  refine jn1 (fun (b : Bool) h' => b = decide (i < r.look.length) ∧ h' = h) ?_ ?_
  case refine_2 =>
    intro j2 hj2
    refine brr_p (fun h10 => ?_) (fun h10 => ?_)
    · refine O.ld 0 rfl (ldL_c (ldL_n ?_))
      refine O.ld 0 rfl (ldL_c (ldL_n ?_))
      refine hj2 _ _ ⟨?_, rfl⟩
      rw [wrap64 (by omega) (by omega)]
      apply decide_eq_decide.2
      show (r.at_ : Int) + i < ((s.len : Nat) : Int) ↔ _
      have : (i : Int) < 10 := h10
      omega
    · refine hj2 _ _ ⟨?_, rfl⟩
      have : ¬ (i : Int) < 10 := h10
      rw [decide_eq_false]
      omega
  rintro (b : Bool) h ⟨rfl, rfl⟩
  refine brr_p (fun hlt => ?_) (fun hlt => ?_)
  · refine O.ld 0 rfl (ldL_c (k := .sl) (x := s) (ldL_n ?_))
    refine O.ld 0 rfl (ldL_c (ldL_n ?_))
    rw [wrap64 (by omega) (by omega)]
    have hc : r.look[i]? = r.b[r.at_ + i]? := look_at (by omega)
    refine Bytes.at (E h O.drop).1 (by omega) (by omega) fun c hx => ?_
    rw [show ((r.at_ : Int) + i).toNat = r.at_ + i by omega, ← hc] at hx
    have hst := vlast_step hx
    generalize hcn : (c.toNat : Int) = cn
    refine brr_p (fun h128 => ?_) (fun h128 => ?_)
    · refine O.ld 0 rfl (ldL_c (ldL_n ?_))
      rw [if_pos (by omega)] at hst
      rw [wrap64 (by omega) (by omega), show ((r.at_ : Int) + i) = ((r.at_ + i : Nat) : Int) by omega]
      refine k2 i ?_
      rw [hv, hst]; simp
    · rw [if_neg (by omega)] at hst
      rw [wrap64 (by omega) (by omega)]
      refine hn (m - 1) _ _ (by omega) ⟨by omega, by omega, rfl, ?_⟩
      rw [hv, hst, show ((i : Int) + 1).toNat = i + 1 by omega]
      cases vlast (r.look.drop (i + 1)) with
      | none => rfl
      | some y => simp; omega
  · refine hj _ ⟨rfl, ?_⟩
    rw [vlast_end (by omega)] at hv
    exact hv
theorem F_ref1_Eye_Var.is {most : Nat} {Q : Int → Heap → Prop} (o : r.Ok) (E : Eyes h0 L s r.b) (O : Sat h0 h (own p (eyC s r) :: L)) (k : ∀ h', Sat h0 h' (own p (eyC s (r.varP most).1) :: L) → Q (((r.varP most).2 : Nat) : Int) h') : F_ref1_Eye_Var (some (pt p 0)) most h Q := by
  rw [F_ref1_Eye_Var.eq_1, F_ref1_Eye_Var_of.eq_1]
  simp only [nn_some, pt_add, Nat.zero_add, Nat.add_zero, Nat.reduceAdd, Nat.reduceMul, Int.toNat_zero, Int.toNat_one, Nat.zero_mul, Nat.one_mul]
  have h1 := o.le; have h2 := o.len
  have hs := (E h O.drop).1.len
  have hcap := (E h O.drop).2
  have hlen := r.look_len
  have hleft : r.left = r.b.length - r.at_ := rfl
  have O1 := O
  unfold eyC at O
  refine O.ld 0 rfl (ldL_c (ldL_n ?_))
  refine brr_ne (fun hm => ?_) (fun hm => ?_)
  · have hm : r.met ≠ 0 := fun e => hm ((erN_zero _).2 e)
    have e : r.varP most = (r, 0) := by unfold RS.varP; rw [if_pos hm]
    rw [e] at k
    exact k h O1
  have hm : r.met = 0 := (erN_zero _).1 hm
  refine F_ref1_Eye_last.is o E O1 (fun hv => ?_) (fun kk hv => ?_)
  · rw [RS.varP_none hm hv] at k
    refine brr_tt (by simp) ?_
    refine O.st 0 rfl (by simp) rfl fun h O => ?_
    dsimp only [V.put, List.set] at O
    refine F_ref1_Eye_Left.is (r := { r with met := 2 }) ⟨o.le, o.len, by show 2 ≤ 4; decide⟩ hs O ?_
    refine jn0 (fun h' => Sat h0 h' (own p (eyC s { r with met := if r.look.length < 10 then 1 else 2 }) :: L)) (fun h O => k h O) fun j hj => ?_
    have el : RS.left { r with met := 2 } = r.left := rfl
    rw [el]
    refine brr_p (fun hlt => ?_) (fun hlt => ?_)
    · rw [if_pos (by omega)] at hj
      refine O.st 0 rfl (by simp) rfl fun h O => ?_
      dsimp only [V.put, List.set] at O
      exact hj _ O
    · rw [if_neg (by omega)] at hj
      exact hj _ O
  obtain ⟨c0, hc0, hc1, _⟩ := vlast_some hv
  have hkl := (List.getElem?_eq_some_iff.1 hc0).1
  have vS := RS.varP_some (most := most) hm hv
  have hform := form_iff hv (by omega)
  have htk : (r.look.take (kk + 1)).length = kk + 1 := by rw [List.length_take]; omega
  refine brr_ff (decide_eq_false (by omega)) ?_
  refine jn1 (fun (x : Int) h' => x = ((vnum (r.look.take (kk + 1)) % 18446744073709551616 : Nat) : Int) ∧ h' = h) ?_ ?_
  case refine_2 =>
    intro j hj
    rw [F_ref1_Eye_Var.l1.eq_1]
    simp only [nn_some, pt_add, Nat.zero_add, Nat.add_zero, Nat.reduceAdd, Nat.reduceMul, Int.toNat_zero, Int.toNat_one, Nat.zero_mul, Nat.one_mul]
    refine wl2 (k := .int .u64) (l := .int .i64) (fun (m : Nat) (x i : Int) (h' : Heap) => i + 1 = r.at_ + m ∧ m ≤ kk + 1 ∧ h' = h ∧ x = ((vnum ((r.look.take (kk + 1)).drop m) % 18446744073709551616 : Nat) : Int)) ?_ (m := kk + 1) ⟨by omega, by omega, rfl, by rw [List.drop_eq_nil_of_le (by omega)]; rfl⟩
    rintro m (x : Int) (i : Int) h next hn ⟨him, hmk, rfl, rfl⟩
    refine O.ld 0 rfl (ldL_c (ldL_n ?_))
    refine brr_p (fun hge => ?_) (fun hge => ?_)
    · have hge : i ≥ (r.at_ : Int) := hge
      refine O.ld 0 rfl (ldL_c (k := .sl) (x := s) (ldL_n ?_))
      refine Bytes.at (E h O1.drop).1 (by omega) (by omega) fun c hx => ?_
      have hx2 : (r.look.take (kk + 1))[m - 1]? = some c := by
        rw [List.getElem?_take, if_pos (by omega), show r.look[m - 1]? = r.b[r.at_ + (m - 1)]? from look_at (by omega), show r.at_ + (m - 1) = i.toNat by omega]
        exact hx
      have hd : (r.look.take (kk + 1)).drop (m - 1) = c :: (r.look.take (kk + 1)).drop m := by
        obtain ⟨hl, e⟩ := List.getElem?_eq_some_iff.1 hx2
        rw [List.drop_eq_getElem_cons hl, e, show m - 1 + 1 = m by omega]
      refine ⟨by decide, ?_⟩
      have e3 : ((c.toNat : Int)).tmod 128 = ((c.toNat % 128 : Nat) : Int) := by rw [Int.tmod_eq_emod_of_nonneg (by omega)]; omega
      have e4 : ∀ v : Nat, ((v % 18446744073709551616 : Nat) : Int) * 128 = ((v % 18446744073709551616 * 128 : Nat) : Int) := fun v => by omega
      rw [e3, e4, wrapu64m, wrapu64m, ← Int.natCast_add, wrapu64m, wrap64 (by omega) (by omega)]
      refine hn (m - 1) _ _ _ (by omega) ⟨by omega, by omega, rfl, ?_⟩
      rw [hd]
      show _ = ((((c.toNat % 128 + 128 * vnum ((r.look.take (kk + 1)).drop m)) % 18446744073709551616 : Nat)) : Int)
      omega
    · refine hj _ _ ⟨?_, rfl⟩
      have : m = 0 := by
        have hge : ¬ i ≥ (r.at_ : Int) := hge
        omega
      subst this
      rfl
  rintro (x : Int) h ⟨rfl, rfl⟩
  refine O.ld 0 rfl (ldL_c (k := .sl) (x := s) (ldL_n ?_))
  refine O.ld 0 rfl (ldL_c (ldL_n ?_))
  rw [wrap64 (by omega) (by omega)]
  refine ⟨by omega, by omega, by omega, ?_⟩
  refine F_ref1_Var.is O (Nat.mod_lt _ (by decide)) fun t h O => ?_
  refine ⟨O.cells 1 rfl 0 1, O.cells 1 rfl 1 1, ?_⟩
  have V2 := (E h O.drop.drop).1.slice r.at_ (r.at_ + (kk + 1)) (s.cap - r.at_) (by omega) (by omega) hcap
  rw [show r.at_ + (kk + 1) - r.at_ = kk + 1 by omega] at V2
  have e5 : (r.b.drop r.at_).take (kk + 1) = r.look.take (kk + 1) := by
    show _ = ((r.b.drop r.at_).take 10).take (kk + 1)
    rw [List.take_take, Nat.min_eq_left (by omega)]
  rw [e5] at V2
  rw [show (((r.at_ + kk : Nat) : Int) + 1).toNat - (r.at_ : Int).toNat = kk + 1 by omega, show (r.at_ : Int).toNat = r.at_ by omega]
  have hvb := (varB_le (n := vnum (r.look.take (kk + 1)) % 18446744073709551616) (Nat.mod_lt _ (by decide))).1
  refine F_ref0_Eq.is (O.view 0 u8_len (by simp) rfl).1 V2 (by omega) (by omega) ?_
  rw [hform, Bool.not_not]
  have O := O.drop
  refine brr_of (fun hb => ?_) (fun hb => ?_)
  · rw [if_pos hb] at vS
    refine O.st 0 rfl (by simp) rfl fun h O => ?_
    dsimp only [V.put, List.set] at O
    rw [vS] at k
    exact k h O
  have e6 : vnum (r.look.take (kk + 1)) % 18446744073709551616 = vnum (r.look.take (kk + 1)) := by
    rw [hb] at hform
    have := of_decide_eq_true hform
    have e7 := vnum_varB (vnum (r.look.take (kk + 1)) % 18446744073709551616)
    rw [this] at e7
    exact e7.symm
  rw [hb] at vS
  simp only [Bool.false_eq_true, if_false] at vS
  rw [e6]
  refine brr_p (fun hg => ?_) (fun hg => ?_)
  · rw [if_pos (by omega)] at vS
    refine O.st 0 rfl (by simp) rfl fun h O => ?_
    dsimp only [V.put, List.set] at O
    rw [vS] at k
    exact k h O
  · rw [if_neg (by omega)] at vS
    refine O.st 0 rfl (by simp) rfl fun h O => ?_
    dsimp only [V.put, List.set] at O
    rw [vS] at k
    refine k h ?_
    unfold eyC
    rw [show ((r.at_ + (kk + 1) : Nat) : Int) = ((r.at_ + kk : Nat) : Int) + 1 by omega]
    exact O
end
end Go.Proofs.YthiginhigfieiaaGreatDoor.V
/- One call of a Reader, beside the document's. -/
namespace Go.Proofs.YthiginhigfieiaaGreatDoor.V
open Go Go.RowKit
set_option linter.unusedVariables false
set_option linter.unusedSimpArgs false
theorem Eyes.drop {h0 : Heap} {L : List Res} {s : Sl} {b : List UInt8} {A : Res} (E : Eyes h0 L s b) : Eyes h0 (A :: L) s b := fun h O => E h O.drop
theorem RS.next_b {r : RS} {n : Nat} : (r.next n).b = r.b := by
  unfold RS.next
  split
  · rfl
  · split <;> rfl
theorem RS.bytesP_b {r : RS} {n : Int} : (r.bytesP n).1.b = r.b := by
  unfold RS.bytesP
  split
  · exact RS.varP_b
  · show (RS.next _ _).b = _
    rw [RS.next_b, RS.varP_b]
theorem RS.bytesP_le {r : RS} {n : Int} : (r.bytesP n).2.length ≤ r.b.length := by
  unfold RS.bytesP
  split
  · simp
  · have := RS.nextB_le (r := (r.varP (max 0 n).toNat).1) (r.varP (max 0 n).toNat).2
    rw [RS.varP_b] at this
    exact this
section
variable {h0 h : Heap} {L : List Res} {p q : Nat} {r : RS} {s : Sl}
theorem F_ref1_Eye_Text.is {most : Int} {Q : Sl → Heap → Prop} (o : r.Ok) (E : Eyes h0 L s r.b) (hmo : most ≤ (9223372036854775807 : Int)) (O : Sat h0 h (own p (eyC s r) :: L)) (k : ∀ t h', Sat h0 h' (buf 1 u8 t (r.bytesP most).2 :: own p (eyC s (r.bytesP most).1) :: L) → Q t h') : F_ref1_Eye_Text (some (pt p 0)) most h Q := by
  rw [F_ref1_Eye_Text.eq_1, F_ref1_Eye_Text_of.eq_1]
  simp only [nn_some, pt_add, Nat.zero_add, Nat.add_zero, Nat.reduceAdd, Nat.reduceMul, Int.toNat_zero, Int.toNat_one, Nat.zero_mul, Nat.one_mul]
  have e : r.bytesP most = _ := RS.bytesP.eq_1 r most
  refine jn1 (fun (x : Int) h' => x = (((max 0 most).toNat : Nat) : Int) ∧ h' = h) ?_ ?_
  case refine_2 =>
    intro j hj
    refine brr_p (fun hlt => ?_) (fun hlt => ?_)
    · exact hj _ _ ⟨by omega, rfl⟩
    · exact hj _ _ ⟨by omega, rfl⟩
  rintro (x : Int) h ⟨rfl, rfl⟩
  have hmx : (max 0 most).toNat ≤ 9223372036854775807 := by omega
  generalize (max 0 most).toNat = mo at *
  have O1 := O
  unfold eyC at O1
  refine O1.ld 0 rfl (ldL_c (ldL_n ?_))
  rw [wrapu64 (by omega) (by omega)]
  refine F_ref1_Eye_Var.is o E O fun h O => ?_
  have o1 := o.varP mo
  have hn := RS.varP_le (r := r) (most := mo)
  have hb := RS.varP_b (r := r) (most := mo)
  have hmet := RS.varP_met (r := r) (most := mo)
  generalize (r.varP mo).2 = n at *
  generalize (r.varP mo).1 = r1 at *
  have E1 : Eyes h0 L s r1.b := by rw [hb]; exact E
  rw [wrap64 (by omega) (by omega)]
  refine F_ref1_Eye_Raw.is (n := n) o1 E1 (by omega) O fun t h O => ?_
  have er : r1.rawP (n : Int) = (r1.next n, r1.nextB n) := by unfold RS.rawP; rw [if_neg (by omega)]; rfl
  rw [er] at O
  dsimp only at O
  have O2 := O
  unfold eyC at O2
  refine O2.ld 1 rfl (ldL_c (ldL_n ?_))
  refine brr_ne (fun hm => ?_) (fun hm => ?_)
  · have hm : (r1.next n).met ≠ 0 := fun e => hm ((erN_zero _).2 e)
    have O := O2.drop
    refine O.st 0 rfl (by simp) rfl fun h O => ?_
    dsimp only [V.put, List.set] at O
    have eb : r.bytesP most = ({ r1.next n with at_ := r.at_ }, []) := by
      rw [e]
      by_cases h1 : r1.met = 0
      · by_cases h2 : n > r1.left
        · rw [if_pos ⟨h1, h2⟩, (RS.next_p h1 h2).1]
        · rw [(RS.next_q h1 h2).1] at hm
          exact absurd h1 hm
      · rw [if_neg (fun x => h1 x.1)]
        unfold RS.next RS.nextB
        rw [if_pos h1, if_pos h1, ← (hmet h1).2]
    rw [eb] at k
    exact k _ _ (O.nil_buf (sz := 1) (enc := u8))
  · have hm : (r1.next n).met = 0 := (erN_zero _).1 hm
    have eb : r.bytesP most = (r1.next n, r1.nextB n) := by
      rw [e]
      by_cases h1 : r1.met = 0
      · by_cases h2 : n > r1.left
        · rw [(RS.next_p h1 h2).1] at hm
          cases hm
        · rw [if_neg (fun x => h2 x.2)]
      · rw [if_neg (fun x => h1 x.1)]
    rw [eb] at k
    exact k _ _ O
end
end Go.Proofs.YthiginhigfieiaaGreatDoor.V
/- What is read without a fault, written anew, is what was read: no program in sight. -/
namespace Go.Proofs.YthiginhigfieiaaGreatDoor.V
open Go Go.RowKit
set_option linter.unusedVariables false
set_option linter.unusedSimpArgs false
theorem fixB_snoc (n size : Nat) : fixB n (size + 1) = fixB (n / 256) size ++ [UInt8.ofNat n] := by
  unfold fixB
  rw [List.range_succ, List.map_append]
  congr 1
  · apply List.map_congr_left
    intro i hi
    have hi := List.mem_range.1 hi
    rw [show size + 1 - 1 - i = 1 + (size - 1 - i) by omega, Nat.pow_add, Nat.pow_one, Nat.div_div_eq_div_mul]
  · simp
theorem fixB_beN : ∀ (size : Nat) (ys : List UInt8), ys.length = size → fixB (beN ys) size = ys := by
  intro size
  induction size with
  | zero => intro ys h; have := List.length_eq_zero_iff.1 h; subst this; rfl
  | succ size ih =>
    intro ys h
    have e := List.dropLast_concat_getLast (l := ys) (by intro e; subst e; simp at h)
    rw [← e, beN_snoc, fixB_snoc]
    have hc := (ys.getLast (by intro e; subst e; simp at h)).toNat_lt
    congr 1
    · rw [show (beN ys.dropLast * 256 + (ys.getLast (by intro e; subst e; simp at h)).toNat) / 256 = beN ys.dropLast by omega]
      exact ih _ (by simp [h])
    · congr 1
      apply UInt8.toNat_inj.1
      simp
def Took (r r' : RS) (ys : List UInt8) : Prop := if r'.met = 0 then r.at_ ≤ r'.at_ ∧ r'.at_ ≤ r.b.length ∧ ys = (r.b.drop r.at_).take (r'.at_ - r.at_) else r'.at_ = r.at_
theorem took_next {r : RS} (o : r.Ok) (hm : r.met = 0) (n : Nat) : Took r (r.next n) (r.nextB n) ∧ ((r.next n).met = 0 → (r.nextB n).length = n) := by
  unfold Took
  by_cases h : n > r.left
  · rw [(RS.next_p hm h).1]
    refine ⟨?_, fun e => by cases e⟩
    rw [if_neg (by show ¬ (1 = 0); decide)]
  · rw [(RS.next_q hm h).1, (RS.next_q hm h).2]
    unfold RS.left at h
    have := o.le
    have e : (r.b.drop r.at_).length = r.b.length - r.at_ := List.length_drop
    refine ⟨?_, fun _ => by rw [List.length_take]; omega⟩
    rw [if_pos hm]
    refine ⟨by show r.at_ ≤ r.at_ + n; omega, by show r.at_ + n ≤ _; omega, ?_⟩
    show _ = List.take (r.at_ + n - r.at_) _
    rw [show r.at_ + n - r.at_ = n by omega]
theorem took_fixed {r : RS} (o : r.Ok) (hm : r.met = 0) (n : Nat) : Took r (r.next n) (fixB (beN (r.nextB n)) n) := by
  obtain ⟨h1, h2⟩ := took_next o hm n
  by_cases h : (r.next n).met = 0
  · rw [fixB_beN n _ (h2 h)]; exact h1
  · unfold Took at h1 ⊢
    rw [if_neg h] at h1 ⊢
    exact h1
theorem took_var {r : RS} (o : r.Ok) (hm : r.met = 0) (most : Nat) : Took r (r.varP most).1 (varB (r.varP most).2) := by
  by_cases h : (r.varP most).1.met = 0
  · unfold Took
    rw [if_pos h]
    cases hv : vlast r.look with
    | none =>
      rw [RS.varP_none hm hv] at h
      revert h
      show (if _ then 1 else 2) = 0 → _
      split <;> intro h <;> cases h
    | some k =>
      have vS := RS.varP_some (most := most) hm hv
      obtain ⟨c, hc, _⟩ := vlast_some hv
      have hk := (List.getElem?_eq_some_iff.1 hc).1
      have hlen := r.look_len
      have hform := form_iff hv (by omega)
      rw [vS] at h ⊢
      by_cases hb : badForm r.look k = true
      · rw [if_pos hb] at h; cases h
      · rw [if_neg hb] at h ⊢
        have hb : badForm r.look k = false := by simpa using hb
        by_cases hg : vnum (r.look.take (k + 1)) > most
        · rw [if_pos hg] at h; cases h
        · rw [if_neg hg]
          rw [hb] at hform
          have e1 := of_decide_eq_true hform
          have e2 := vnum_varB (vnum (r.look.take (k + 1)) % 18446744073709551616)
          rw [e1] at e2
          rw [← e2] at e1
          have hl : r.left = r.b.length - r.at_ := rfl
          have := o.le
          refine ⟨by show r.at_ ≤ r.at_ + (k + 1); omega, by show r.at_ + (k + 1) ≤ _; omega, ?_⟩
          show varB (vnum (r.look.take (k + 1))) = List.take (r.at_ + (k + 1) - r.at_) _
          rw [show r.at_ + (k + 1) - r.at_ = k + 1 by omega]
          have e5 : (r.b.drop r.at_).take (k + 1) = r.look.take (k + 1) := by
            show _ = ((r.b.drop r.at_).take 10).take (k + 1)
            rw [List.take_take, Nat.min_eq_left (by omega)]
          rw [e5]
          exact e1
  · unfold Took
    rw [if_neg h]
    exact (RS.varP_met h).2
theorem took_bytes {r : RS} (o : r.Ok) (hm : r.met = 0) (n : Int) : Took r (r.bytesP n).1 (varB (r.bytesP n).2.length ++ (r.bytesP n).2) := by
  have t1 := took_var o hm (max 0 n).toNat
  have hmet := RS.varP_met (r := r) (most := (max 0 n).toNat)
  have o1 := o.varP (max 0 n).toNat
  have hb := RS.varP_b (r := r) (most := (max 0 n).toNat)
  have e : r.bytesP n = _ := RS.bytesP.eq_1 r n
  generalize (r.varP (max 0 n).toNat).2 = m at *
  generalize (r.varP (max 0 n).toNat).1 = r1 at *
  by_cases h1 : r1.met = 0
  · by_cases h2 : m > r1.left
    · rw [if_pos ⟨h1, h2⟩] at e
      rw [e]
      unfold Took
      rw [if_neg (by show ¬ (1 = 0); decide)]
    · rw [if_neg (fun x => h2 x.2)] at e
      rw [e]
      obtain ⟨t2, t3⟩ := took_next o1 h1 m
      have hmm : (r1.next m).met = 0 := by rw [(RS.next_q h1 h2).1]; exact h1
      have hl := t3 hmm
      unfold Took at t1 t2 ⊢
      rw [if_pos h1] at t1
      rw [if_pos hmm] at t2 ⊢
      obtain ⟨a1, a2, a3⟩ := t1
      obtain ⟨c1, c2, c3⟩ := t2
      refine ⟨by show r.at_ ≤ (r1.next m).at_; omega, by rw [hb] at c2; exact c2, ?_⟩
      show varB (r1.nextB m).length ++ r1.nextB m = _
      rw [hl, a3, c3, hb]
      show _ = List.take ((r1.next m).at_ - r.at_) _
      have hd : (r.b.drop r1.at_) = (r.b.drop r.at_).drop (r1.at_ - r.at_) := by rw [List.drop_drop]; congr 1; omega
      rw [hd, show (r1.next m).at_ - r.at_ = (r1.at_ - r.at_) + ((r1.next m).at_ - r1.at_) by omega, List.take_add]
  · rw [if_neg (fun x => h1 x.1)] at e
    rw [e]
    unfold RS.next RS.nextB
    rw [if_pos h1, if_pos h1]
    unfold Took
    rw [if_neg h1]
    exact (hmet h1).2
theorem took_take {r r' : RS} {ys : List UInt8} (t : Took r r' ys) (hm : r'.met = 0) : r.b.take r.at_ ++ ys = r.b.take r'.at_ := by
  unfold Took at t
  rw [if_pos hm] at t
  obtain ⟨h1, h2, h3⟩ := t
  rw [h3, show r'.at_ = r.at_ + (r'.at_ - r.at_) by omega, List.take_add]
  congr 2
  omega
end Go.Proofs.YthiginhigfieiaaGreatDoor.V
/- What is written is read: no program in sight. -/
namespace Go.Proofs.YthiginhigfieiaaGreatDoor.V
open Go Go.RowKit
set_option linter.unusedVariables false
set_option linter.unusedSimpArgs false
def Before (r : RS) (ys : List UInt8) : Prop := r.met = 0 ∧ (r.b.drop r.at_).take ys.length = ys
theorem Before.left {r : RS} {ys : List UInt8} (B : Before r ys) : ys.length ≤ r.left := by
  have := congrArg List.length B.2
  rw [List.length_take, List.length_drop] at this
  unfold RS.left
  omega
theorem Before.next {r : RS} {ys : List UInt8} (B : Before r ys) : r.next ys.length = { r with at_ := r.at_ + ys.length } ∧ r.nextB ys.length = ys := by
  have h := B.left
  have := RS.next_q B.1 (n := ys.length) (by omega)
  exact ⟨this.1, this.2.trans B.2⟩
theorem Before.pre {r : RS} {ys zs : List UInt8} (B : Before r (ys ++ zs)) : Before r ys := by
  refine ⟨B.1, ?_⟩
  have e := congrArg (List.take ys.length) B.2
  rw [List.take_take, List.take_left, List.length_append, Nat.min_eq_left (by omega)] at e
  exact e
theorem Before.suf {r : RS} {ys zs : List UInt8} (B : Before r (ys ++ zs)) : Before { r with at_ := r.at_ + ys.length } zs := by
  refine ⟨B.1, ?_⟩
  have e := congrArg (List.drop ys.length) B.2
  rw [List.drop_left, List.length_append, List.drop_take, List.drop_drop, Nat.add_sub_cancel_left] at e
  exact e
theorem varB_vlast : ∀ (n : Nat) (zs : List UInt8), vlast (varB n ++ zs) = some ((varB n).length - 1) := by
  intro n
  induction n using Nat.strongRecOn with
  | _ n ih =>
    intro zs
    rw [varB]
    by_cases hn : n < 128
    · rw [if_pos hn]
      show (if _ then _ else _) = _
      rw [if_pos (by simp; omega)]
      rfl
    · rw [if_neg hn]
      show (if _ then _ else _) = _
      have h1 : (UInt8.ofNat (128 + n % 128)).toNat = 128 + n % 128 := by simp; omega
      rw [if_neg (by omega)]
      have := ih (n / 128) (by omega) zs
      show (vlast (varB (n / 128) ++ zs)).map _ = _
      rw [this]
      have h2 : 1 ≤ (varB (n / 128)).length := by unfold varB; split <;> simp
      simp
      omega
theorem Before.look {r : RS} {ys : List UInt8} (B : Before r ys) (h : ys.length ≤ 10) : ∃ zs, r.look = ys ++ zs := by
  refine ⟨r.look.drop ys.length, ?_⟩
  have e : r.look.take ys.length = ys := by
    show ((r.b.drop r.at_).take 10).take _ = _
    rw [List.take_take, Nat.min_eq_left h]
    exact B.2
  rw [← List.take_append_drop ys.length r.look, e]
  congr 1
  rw [List.drop_left]
theorem Before.var {r : RS} {n most : Nat} (B : Before r (varB n)) (hn : n < 18446744073709551616) (hm : n ≤ most) : r.varP most = ({ r with at_ := r.at_ + (varB n).length }, n) := by
  have hl := varB_le hn
  obtain ⟨zs, e⟩ := B.look hl.1
  have hv := varB_vlast n zs
  rw [← e] at hv
  have vS := RS.varP_some (most := most) B.1 hv
  have hform := form_iff hv (by omega)
  rw [show (varB n).length - 1 + 1 = (varB n).length by omega] at vS hform
  have et : r.look.take (varB n).length = varB n := by rw [e, List.take_left]
  rw [et, vnum_varB] at vS hform
  rw [Nat.mod_eq_of_lt hn, decide_eq_true rfl] at hform
  have hb : badForm r.look ((varB n).length - 1) = false := by
    cases hc : badForm r.look ((varB n).length - 1) with
    | true => rw [hc] at hform; cases hform
    | false => rfl
  rw [hb, if_neg (by decide), if_neg (by omega)] at vS
  exact vS
theorem Before.bytes {r : RS} {ys : List UInt8} (B : Before r (varB ys.length ++ ys)) (hl : ys.length < 9223372036854775808) : r.bytesP ys.length = ({ r with at_ := r.at_ + (varB ys.length ++ ys).length }, ys) := by
  have e := RS.bytesP.eq_1 r ys.length
  rw [show (max 0 (ys.length : Int)).toNat = ys.length by omega, B.pre.var (by omega) (Nat.le_refl _)] at e
  have B2 := B.suf
  have h2 := B2.left
  rw [if_neg (fun x => by have h3 : ys.length > RS.left { r with at_ := r.at_ + (varB ys.length).length } := x.2; omega), B2.next.1, B2.next.2] at e
  rw [e, List.length_append, ← Nat.add_assoc]
end Go.Proofs.YthiginhigfieiaaGreatDoor.V
