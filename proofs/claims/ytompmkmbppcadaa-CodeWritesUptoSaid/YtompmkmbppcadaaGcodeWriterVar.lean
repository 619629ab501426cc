import Derived.Test.YtompmkmbppcadaaV10
import Derived.Test.YtompmkmbppcadaaProg
import Derived.Test.YtompmkmbppcadaaGmathbitsLen64
namespace Go.Proofs.Ytompmkmbppcadaa.V
open Go Go.RowKit
set_option linter.unusedVariables false
set_option maxRecDepth 100000
/-! (*tally/code.Writer).Var -/
def F_code_Writer_Var.l1 (w1 : Option Addr) (r3 : Int) (j5 : Int → Heap → Prop) : Int → Int → Heap → Prop :=
  wl [(1, .one (.int .u64)), (9, .one (.int .i64))] (fun (next6 : Int → Int → Heap → Prop) (n7 : Int) (x8 : Int) (h9 : Heap) =>
  brr (decide (x8 < (IntKind.i64.wrap ((IntKind.i64.wrap ((if r3 > 1 then r3 else 1) - 1)).tdiv 7))))
  (nn w1 fun (a10 : Addr) =>
  ld [.sl] (a10.add 0) h9 fun (v11 : Sl) =>
  al 5 [.int .u8 (IntKind.u8.wrap (BitVec.ofInt IntKind.u8.bits (IntKind.u8.wrap n7) ||| BitVec.ofInt IntKind.u8.bits 128).toNat)] h9 fun (a12 : Addr) (h13 : Heap) =>
  app 5 1 1 (.int .u8 0) v11 (some a12) 1 h13 fun (s14 : Sl) (h15 : Heap) =>
  nn w1 fun (a16 : Addr) =>
  st (a16.add 0) [.slice s14.ptr s14.len s14.cap] h15 fun (h17 : Heap) =>
  0 ≤ (7 : Int) ∧
  next6 (n7.fdiv (2 ^ min (7 : Int).toNat IntKind.u64.bits)) (IntKind.i64.wrap (x8 + 1)) h17)
  (j5 n7 h9))
def F_code_Writer_Var_of (f61_ : Int → Heap → (Int → Heap → Prop) → Prop) (w1 : Option Addr) (n2 : Int) (h : Heap) (Q : Heap → Prop) : Prop :=
  f61_ n2 h fun (r3 : Int) (h4 : Heap) =>
  (7 : Int) ≠ 0 ∧
  jn [(1, .one (.int .u64))] (fun (n18 : Int) (h19 : Heap) =>
  nn w1 fun (a20 : Addr) =>
  ld [.sl] (a20.add 0) h19 fun (v21 : Sl) =>
  al 5 [.int .u8 (IntKind.u8.wrap n18)] h19 fun (a22 : Addr) (h23 : Heap) =>
  app 5 1 1 (.int .u8 0) v21 (some a22) 1 h23 fun (s24 : Sl) (h25 : Heap) =>
  nn w1 fun (a26 : Addr) =>
  st (a26.add 0) [.slice s24.ptr s24.len s24.cap] h25 fun (h27 : Heap) =>
  Q h27) (fun (j5 : Int → Heap → Prop) =>
  F_code_Writer_Var.l1 w1 r3 j5 n2 0 h4)
def F_code_Writer_Var (w1 : Option Addr) (n2 : Int) (h : Heap) (Q : Heap → Prop) : Prop := F_code_Writer_Var_of F_math_bits_Len64 w1 n2 h Q
def plan44 : Plan := .s (.s (.r [0, 1, 8, 9]) (.bj [(1, .one (.int .u64))] [0] (.l [(1, .one (.int .u64)), (9, .one (.int .i64))] [0, 8] (.s (.r [0, 1, 8, 9, 10]) (.s (.c .z .z) (.s (.b (.s (.r [0, 1, 8, 9]) (.r [0, 1, 8, 9]))) (.r [0, 1, 8, 9]))))))) (.r [])
theorem F_code_Writer_Var.eq (f61_ : Int → Heap → (Int → Heap → Prop) → Prop) (w1 : Option Addr) (n2 : Int) (h : Heap) (K : Value → Heap → Prop) : F_code_Writer_Var_of f61_ w1 n2 h (fun  (h : Heap) => K (.tuple #[]) h) =
    den Try.prog (fn1 61 (E_math_bits_Len64_of f61_) noFns) Try.f44.ntmps plan44 (bodyOf Try.f44) (args0 0 [(.pointer w1 : Value), (.int .u64 n2 : Value)]) h ⟨fun env h => dRes Try.prog Try.f44.results.toList env h K, fun _ _ _ => False, fun env h => dRes Try.prog Try.f44.results.toList env h K⟩ := by kernel_rfl
def E_code_Writer_Var_of (f : Option Addr → Int → Heap → (Heap → Prop) → Prop) : List Value → Heap → (Value → Heap → Prop) → Prop
  | [v0, v1], h, K => dec1 .ptr v0 fun (w1 : Option Addr) =>
  dec1 (.int .u64) v1 fun (n2 : Int) =>
  f w1 n2 h (fun  (h : Heap) => K (.tuple #[]) h)
  | _, _, _ => False
abbrev E_code_Writer_Var := E_code_Writer_Var_of F_code_Writer_Var
theorem E_code_Writer_Var.right : IsRight Try.prog 44 E_code_Writer_Var := by
  refine isRight fun vs K w hh => ?_
  match vs, hh with
  | [v0, v1], hh =>
    unfold E_code_Writer_Var E_code_Writer_Var_of at hh
    replace hh := dec1_sound hh; obtain ⟨w1, rfl, hh⟩ := hh
    replace hh := dec1_sound hh; obtain ⟨n2, rfl, hh⟩ := hh
    unfold F_code_Writer_Var at hh
    exact calls_den (fn1_right ok61 E_math_bits_Len64.right noFns_right) plan44 _ w K Try.func44 (by kernel_rfl) (by kernel_rfl) (Eq.mp (F_code_Writer_Var.eq F_math_bits_Len64 w1 n2 w.heap K) hh)
theorem ok44 : okFn Try.prog 44 = true := by kernel_rfl
end Go.Proofs.Ytompmkmbppcadaa.V
