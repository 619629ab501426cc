import Derived.Test.YtompmkmbppcadaaV10
import Derived.Test.YtompmkmbppcadaaProg
namespace Go.Proofs.Ytompmkmbppcadaa.V
open Go Go.RowKit
set_option linter.unusedVariables false
set_option maxRecDepth 100000
/-! tally/tallyref1.fixed -/
def F_ref1_fixed.l1 (s3 : Sl) (j5 : Heap → Prop) : Int → Int → Heap → Prop :=
  wl [(0, .one (.int .u64)), (6, .one (.int .i64))] (fun (next6 : Int → Int → Heap → Prop) (n7 : Int) (i8 : Int) (h9 : Heap) =>
  brr (decide (i8 ≥ 0))
  ((256 : Int) ≠ 0 ∧
  ixS 1 s3 i8 fun (a10 : Addr) =>
  st a10 [.int .u8 (IntKind.u8.wrap (n7.tmod 256))] h9 fun (h11 : Heap) =>
  (256 : Int) ≠ 0 ∧
  next6 (IntKind.u64.wrap (n7.tdiv 256)) (IntKind.i64.wrap (i8 - 1)) h11)
  (j5 h9))
def F_ref1_fixed_of  (n1 : Int) (size2 : Int) (h : Heap) (Q : Sl → Heap → Prop) : Prop :=
  mk 5 1 1 (.int .u8 0) size2 size2 h fun (s3 : Sl) (h4 : Heap) =>
  jn [] (fun  (h12 : Heap) =>
  Q s3 h12) (fun (j5 : Heap → Prop) =>
  F_ref1_fixed.l1 s3 j5 n1 (IntKind.i64.wrap (size2 - 1)) h4)
def F_ref1_fixed (n1 : Int) (size2 : Int) (h : Heap) (Q : Sl → Heap → Prop) : Prop := F_ref1_fixed_of  n1 size2 h Q
def plan50 : Plan := .s (.r [0, 1]) (.s (.r [0, 1, 5]) (.s (.s (.r [0, 5, 6]) (.bj [] [5] (.l [(0, .one (.int .u64)), (6, .one (.int .i64))] [5] (.s (.s (.r [0, 5, 6, 12]) (.c .z .z)) (.s (.b (.s (.r [0, 5, 6]) (.r [0, 5, 6]))) (.r [0, 5, 6])))))) (.s (.r [4]) .z)))
theorem F_ref1_fixed.eq  (n1 : Int) (size2 : Int) (h : Heap) (K : Value → Heap → Prop) : F_ref1_fixed_of  n1 size2 h (fun (r0 : Sl) (h : Heap) => K (.slice r0.ptr r0.len r0.cap) h) =
    den Try.prog noFns Try.f50.ntmps plan50 (bodyOf Try.f50) (args0 0 [(.int .u64 n1 : Value), (.int .i64 size2 : Value)]) h ⟨fun env h => dRes Try.prog Try.f50.results.toList env h K, fun _ _ _ => False, fun env h => dRes Try.prog Try.f50.results.toList env h K⟩ := by kernel_rfl
def E_ref1_fixed_of (f : Int → Int → Heap → (Sl → Heap → Prop) → Prop) : List Value → Heap → (Value → Heap → Prop) → Prop
  | [v0, v1], h, K => dec1 (.int .u64) v0 fun (n1 : Int) =>
  dec1 (.int .i64) v1 fun (size2 : Int) =>
  f n1 size2 h (fun (r0 : Sl) (h : Heap) => K (.slice r0.ptr r0.len r0.cap) h)
  | _, _, _ => False
abbrev E_ref1_fixed := E_ref1_fixed_of F_ref1_fixed
theorem E_ref1_fixed.right : IsRight Try.prog 50 E_ref1_fixed := by
  refine isRight fun vs K w hh => ?_
  match vs, hh with
  | [v0, v1], hh =>
    unfold E_ref1_fixed E_ref1_fixed_of at hh
    replace hh := dec1_sound hh; obtain ⟨n1, rfl, hh⟩ := hh
    replace hh := dec1_sound hh; obtain ⟨size2, rfl, hh⟩ := hh
    unfold F_ref1_fixed at hh
    exact calls_den noFns_right plan50 _ w K Try.func50 (by kernel_rfl) (by kernel_rfl) (Eq.mp (F_ref1_fixed.eq  n1 size2 w.heap K) hh)
theorem ok50 : okFn Try.prog 50 = true := by kernel_rfl
end Go.Proofs.Ytompmkmbppcadaa.V
