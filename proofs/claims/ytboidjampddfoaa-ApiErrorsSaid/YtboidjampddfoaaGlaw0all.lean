import Derived.Test.YtboidjampddfoaaV10
import Derived.Test.YtboidjampddfoaaProg
namespace Go.Proofs.Ytboidjampddfoaa.V
open Go Go.RowKit
set_option linter.unusedVariables false
set_option maxRecDepth 100000
/-! tally/tallylaw0.all -/
def F_law0_all.l1 (l1 : Sl) (Q : Bool → Heap → Prop) (j2 : Heap → Prop) : Int → Heap → Prop :=
  wl [(3, .one (.int .i64))] (fun (next3 : Int → Heap → Prop) (i4 : Int) (h5 : Heap) =>
  brr (decide (i4 < ((l1.len : Nat) : Int)))
  (ixS 2 l1 i4 fun (a6 : Addr) =>
  ld [.int .i64] (a6.add 0) h5 fun (v7 : Int) =>
  ixS 2 l1 i4 fun (a8 : Addr) =>
  ld [.int .i64] (a8.add 1) h5 fun (v9 : Int) =>
  brr (v7 != v9)
  (Q false h5)
  (next3 (IntKind.i64.wrap (i4 + 1)) h5))
  (j2 h5))
def F_law0_all_of  (l1 : Sl) (h : Heap) (Q : Bool → Heap → Prop) : Prop :=
  jn [] (fun  (h10 : Heap) =>
  jn [(2, .one .bool)] (fun (x12 : Bool) (h13 : Heap) =>
  Q x12 h13) (fun (j11 : Bool → Heap → Prop) =>
  brr (decide (((l1.len : Nat) : Int) > 0))
  (j11 true h10)
  (j11 false h10))) (fun (j2 : Heap → Prop) =>
  F_law0_all.l1 l1 Q j2 0 h)
def F_law0_all (l1 : Sl) (h : Heap) (Q : Bool → Heap → Prop) : Prop := F_law0_all_of  l1 h Q
def plan14 : Plan := .s (.r [0]) (.s (.s (.r [0, 3]) (.bj [] [0] (.l [(3, .one (.int .i64))] [0] (.s (.s (.r [0, 3, 7]) (.c .z .z)) (.s (.b (.s (.d [0, 0, 3, 7, 15, 0, 0, 96, 224, 480, 1023] [[0, 1, 2, 3, 4, 5, 6, 7, 8, 9, 10]] [0, 3, 20]) (.c (.s (.r [2]) .z) .z))) (.r [0, 3])))))) (.s (.rj [(2, .one .bool)] []) .z))
theorem F_law0_all.eq  (l1 : Sl) (h : Heap) (K : Value → Heap → Prop) : F_law0_all_of  l1 h (fun (r0 : Bool) (h : Heap) => K (.bool r0) h) =
    den Try.prog noFns Try.f14.ntmps plan14 (bodyOf Try.f14) (args0 0 [(.slice l1.ptr l1.len l1.cap : Value)]) h ⟨fun env h => dRes Try.prog Try.f14.results.toList env h K, fun _ _ _ => False, fun env h => dRes Try.prog Try.f14.results.toList env h K⟩ := by kernel_rfl
def E_law0_all_of (f : Sl → Heap → (Bool → Heap → Prop) → Prop) : List Value → Heap → (Value → Heap → Prop) → Prop
  | [v0], h, K => dec1 .sl v0 fun (l1 : Sl) =>
  f l1 h (fun (r0 : Bool) (h : Heap) => K (.bool r0) h)
  | _, _, _ => False
abbrev E_law0_all := E_law0_all_of F_law0_all
theorem E_law0_all.right : IsRight Try.prog 14 E_law0_all := by
  refine isRight fun vs K w hh => ?_
  match vs, hh with
  | [v0], hh =>
    unfold E_law0_all E_law0_all_of at hh
    replace hh := dec1_sound hh; obtain ⟨l1, rfl, hh⟩ := hh
    unfold F_law0_all at hh
    exact calls_den noFns_right plan14 _ w K Try.func14 (by kernel_rfl) (by kernel_rfl) (Eq.mp (F_law0_all.eq  l1 w.heap K) hh)
theorem ok14 : okFn Try.prog 14 = true := by kernel_rfl
end Go.Proofs.Ytboidjampddfoaa.V
