import Derived.Test.YtompmkmbppcadaaV10
import Derived.Test.YtompmkmbppcadaaProg
namespace Go.Proofs.Ytompmkmbppcadaa.V
open Go Go.RowKit
set_option linter.unusedVariables false
set_option maxRecDepth 100000
/-! tally/tallylaw1.Other -/
def F_law1_Other.l1 (b1 : Sl) (j2 : Sl → Heap → Prop) : Sl → Int → Heap → Prop :=
  wl [(3, .one .sl), (4, .one (.int .i64))] (fun (next3 : Sl → Int → Heap → Prop) (l4 : Sl) (i5 : Int) (h6 : Heap) =>
  brr (decide (i5 ≥ 0))
  (ixS 1 b1 i5 fun (a7 : Addr) =>
  ld [.int .u8] a7 h6 fun (v8 : Int) =>
  al 5 [.int .u8 v8] h6 fun (a9 : Addr) (h10 : Heap) =>
  app 5 1 1 (.int .u8 0) l4 (some a9) 1 h10 fun (s11 : Sl) (h12 : Heap) =>
  next3 s11 (IntKind.i64.wrap (i5 - 1)) h12)
  (j2 l4 h6))
def F_law1_Other_of  (b1 : Sl) (h : Heap) (Q : Sl → Heap → Prop) : Prop :=
  jn [(3, .one .sl)] (fun (l13 : Sl) (h14 : Heap) =>
  jn [(28, .one .bool)] (fun (x18 : Bool) (h19 : Heap) =>
  jn [] (fun  (h25 : Heap) =>
  Q l13 h25) (fun (j20 : Heap → Prop) =>
  brr x18
  (ixS 1 l13 (IntKind.i64.wrap (((l13.len : Nat) : Int) - 1)) fun (a21 : Addr) =>
  ld [.int .u8] a21 h19 fun (v22 : Int) =>
  ixS 1 l13 (IntKind.i64.wrap (((l13.len : Nat) : Int) - 1)) fun (a23 : Addr) =>
  st a23 [.int .u8 (IntKind.u8.wrap (BitVec.ofInt IntKind.u8.bits v22 ^^^ BitVec.ofInt IntKind.u8.bits 1).toNat)] h19 fun (h24 : Heap) =>
  j20 h24)
  (j20 h19))) (fun (j15 : Bool → Heap → Prop) =>
  brr (decide (((b1.len : Nat) : Int) > 0))
  (b2s l13.ptr l13.len h14 fun (s16 : ByteArray) =>
  b2s b1.ptr b1.len h14 fun (s17 : ByteArray) =>
  j15 (s16.toList == s17.toList) h14)
  (j15 false h14))) (fun (j2 : Sl → Heap → Prop) =>
  F_law1_Other.l1 b1 j2 (⟨none, 0, 0⟩ : Sl) (IntKind.i64.wrap (((b1.len : Nat) : Int) - 1)) h)
def F_law1_Other (b1 : Sl) (h : Heap) (Q : Sl → Heap → Prop) : Prop := F_law1_Other_of  b1 h Q
def plan13 : Plan := .s (.r [0]) (.s (.r [0, 3]) (.s (.s (.r [0, 3, 4]) (.bj [(3, .one .sl)] [0] (.l [(3, .one .sl), (4, .one (.int .i64))] [0] (.s (.s (.r [0, 3, 4, 9]) (.c .z .z)) (.s (.b (.r [0, 3, 4])) (.r [0, 3, 4])))))) (.s (.s (.rj [(28, .one .bool)] [3]) (.cj [] [3] (.r [3]) .z)) (.s (.r [2]) .z))))
theorem F_law1_Other.eq  (b1 : Sl) (h : Heap) (K : Value → Heap → Prop) : F_law1_Other_of  b1 h (fun (r0 : Sl) (h : Heap) => K (.slice r0.ptr r0.len r0.cap) h) =
    den Try.prog noFns Try.f13.ntmps plan13 (bodyOf Try.f13) (args0 0 [(.slice b1.ptr b1.len b1.cap : Value)]) h ⟨fun env h => dRes Try.prog Try.f13.results.toList env h K, fun _ _ _ => False, fun env h => dRes Try.prog Try.f13.results.toList env h K⟩ := by kernel_rfl
def E_law1_Other_of (f : Sl → Heap → (Sl → Heap → Prop) → Prop) : List Value → Heap → (Value → Heap → Prop) → Prop
  | [v0], h, K => dec1 .sl v0 fun (b1 : Sl) =>
  f b1 h (fun (r0 : Sl) (h : Heap) => K (.slice r0.ptr r0.len r0.cap) h)
  | _, _, _ => False
abbrev E_law1_Other := E_law1_Other_of F_law1_Other
theorem E_law1_Other.right : IsRight Try.prog 13 E_law1_Other := by
  refine isRight fun vs K w hh => ?_
  match vs, hh with
  | [v0], hh =>
    unfold E_law1_Other E_law1_Other_of at hh
    replace hh := dec1_sound hh; obtain ⟨b1, rfl, hh⟩ := hh
    unfold F_law1_Other at hh
    exact calls_den noFns_right plan13 _ w K Try.func13 (by kernel_rfl) (by kernel_rfl) (Eq.mp (F_law1_Other.eq  b1 w.heap K) hh)
theorem ok13 : okFn Try.prog 13 = true := by kernel_rfl
end Go.Proofs.Ytompmkmbppcadaa.V
