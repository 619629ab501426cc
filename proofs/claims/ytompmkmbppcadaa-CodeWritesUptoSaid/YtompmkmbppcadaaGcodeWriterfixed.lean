import Derived.Test.YtompmkmbppcadaaV10
import Derived.Test.YtompmkmbppcadaaProg
namespace Go.Proofs.Ytompmkmbppcadaa.V
open Go Go.RowKit
set_option linter.unusedVariables false
set_option maxRecDepth 100000
/-! (*tally/code.Writer).fixed -/
def F_code_Writer_fixed.l1 (w1 : Option Addr) (n2 : Int) (size3 : Int) (j4 : Heap → Prop) : Int → Heap → Prop :=
  wl [(8, .one (.int .i64))] (fun (next5 : Int → Heap → Prop) (x6 : Int) (h7 : Heap) =>
  brr (decide (x6 < size3))
  (nn w1 fun (a8 : Addr) =>
  ld [.sl] (a8.add 0) h7 fun (v9 : Sl) =>
  0 ≤ (IntKind.i64.wrap (8 * (IntKind.i64.wrap ((IntKind.i64.wrap (size3 - 1)) - x6)))) ∧
  al 5 [.int .u8 (IntKind.u8.wrap (n2.fdiv (2 ^ min (IntKind.i64.wrap (8 * (IntKind.i64.wrap ((IntKind.i64.wrap (size3 - 1)) - x6)))).toNat IntKind.u64.bits)))] h7 fun (a10 : Addr) (h11 : Heap) =>
  cellsAre h11 (a8.add 0) [.slice v9.ptr v9.len v9.cap] ∧
  app 5 1 1 (.int .u8 0) v9 (some a10) 1 h11 fun (s12 : Sl) (h13 : Heap) =>
  nn w1 fun (a14 : Addr) =>
  st (a14.add 0) [.slice s12.ptr s12.len s12.cap] h13 fun (h15 : Heap) =>
  next5 (IntKind.i64.wrap (x6 + 1)) h15)
  (j4 h7))
def F_code_Writer_fixed_of  (w1 : Option Addr) (n2 : Int) (size3 : Int) (h : Heap) (Q : Heap → Prop) : Prop :=
  jn [] (fun  (h16 : Heap) =>
  Q h16) (fun (j4 : Heap → Prop) =>
  F_code_Writer_fixed.l1 w1 n2 size3 j4 0 h)
def F_code_Writer_fixed (w1 : Option Addr) (n2 : Int) (size3 : Int) (h : Heap) (Q : Heap → Prop) : Prop := F_code_Writer_fixed_of  w1 n2 size3 h Q
def plan49 : Plan := .s (.r [0, 1, 2, 7, 8]) (.bj [] [] (.l [(8, .one (.int .i64))] [0, 1, 2, 7] (.s (.r [0, 1, 2, 7, 8, 9]) (.s (.c .z .z) (.s (.b (.s (.r [0, 1, 2, 6, 7, 8]) (.d [0, 0, 2, 6, 14, 0, 0, 64, 0, 448, 960, 2016, 4064, 8160, 16382, 32767, 65535, 131071] [[0, 1, 2, 3, 4, 5, 6, 7, 8, 9, 10, 11, 12, 13, 14, 15, 16, 17]] [0, 1, 2, 7, 8]))) (.r [0, 1, 2, 7, 8]))))))
theorem F_code_Writer_fixed.eq  (w1 : Option Addr) (n2 : Int) (size3 : Int) (h : Heap) (K : Value → Heap → Prop) : F_code_Writer_fixed_of  w1 n2 size3 h (fun  (h : Heap) => K (.tuple #[]) h) =
    den Try.prog noFns Try.f49.ntmps plan49 (bodyOf Try.f49) (args0 0 [(.pointer w1 : Value), (.int .u64 n2 : Value), (.int .i64 size3 : Value)]) h ⟨fun env h => dRes Try.prog Try.f49.results.toList env h K, fun _ _ _ => False, fun env h => dRes Try.prog Try.f49.results.toList env h K⟩ := by kernel_rfl
def E_code_Writer_fixed_of (f : Option Addr → Int → Int → Heap → (Heap → Prop) → Prop) : List Value → Heap → (Value → Heap → Prop) → Prop
  | [v0, v1, v2], h, K => dec1 .ptr v0 fun (w1 : Option Addr) =>
  dec1 (.int .u64) v1 fun (n2 : Int) =>
  dec1 (.int .i64) v2 fun (size3 : Int) =>
  f w1 n2 size3 h (fun  (h : Heap) => K (.tuple #[]) h)
  | _, _, _ => False
abbrev E_code_Writer_fixed := E_code_Writer_fixed_of F_code_Writer_fixed
theorem E_code_Writer_fixed.right : IsRight Try.prog 49 E_code_Writer_fixed := by
  refine isRight fun vs K w hh => ?_
  match vs, hh with
  | [v0, v1, v2], hh =>
    unfold E_code_Writer_fixed E_code_Writer_fixed_of at hh
    replace hh := dec1_sound hh; obtain ⟨w1, rfl, hh⟩ := hh
    replace hh := dec1_sound hh; obtain ⟨n2, rfl, hh⟩ := hh
    replace hh := dec1_sound hh; obtain ⟨size3, rfl, hh⟩ := hh
    unfold F_code_Writer_fixed at hh
    exact calls_den noFns_right plan49 _ w K Try.func49 (by kernel_rfl) (by kernel_rfl) (Eq.mp (F_code_Writer_fixed.eq  w1 n2 size3 w.heap K) hh)
theorem ok49 : okFn Try.prog 49 = true := by kernel_rfl
end Go.Proofs.Ytompmkmbppcadaa.V
