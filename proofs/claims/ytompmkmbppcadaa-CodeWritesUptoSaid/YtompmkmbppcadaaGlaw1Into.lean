import Derived.Test.YtompmkmbppcadaaV10
import Derived.Test.YtompmkmbppcadaaProg
namespace Go.Proofs.Ytompmkmbppcadaa.V
open Go Go.RowKit
set_option linter.unusedVariables false
set_option maxRecDepth 100000
/-! tally/tallylaw1.Into -/
def F_law1_Into.l1 (l1 : Sl) (b2 : Sl) (j3 : Heap → Prop) : Int → Heap → Prop :=
  wl [(4, .one (.int .i64))] (fun (next4 : Int → Heap → Prop) (i5 : Int) (h6 : Heap) =>
  brr (decide (i5 < ((l1.len : Nat) : Int)))
  (ixS 1 b2 i5 fun (a7 : Addr) =>
  ld [.int .u8] a7 h6 fun (v8 : Int) =>
  ixS 1 l1 i5 fun (a9 : Addr) =>
  st a9 [.int .u8 v8] h6 fun (h10 : Heap) =>
  next4 (IntKind.i64.wrap (i5 + 1)) h10)
  (j3 h6))
def F_law1_Into_of  (l1 : Sl) (b2 : Sl) (h : Heap) (Q : Heap → Prop) : Prop :=
  jn [] (fun  (h11 : Heap) =>
  Q h11) (fun (j3 : Heap → Prop) =>
  F_law1_Into.l1 l1 b2 j3 0 h)
def F_law1_Into (l1 : Sl) (b2 : Sl) (h : Heap) (Q : Heap → Prop) : Prop := F_law1_Into_of  l1 b2 h Q
def plan14 : Plan := .s (.r [0, 1, 4]) (.bj [] [] (.l [(4, .one (.int .i64))] [0, 1] (.s (.s (.r [0, 1, 4, 8]) (.c .z .z)) (.s (.b (.r [0, 1, 4])) (.r [0, 1, 4])))))
theorem F_law1_Into.eq  (l1 : Sl) (b2 : Sl) (h : Heap) (K : Value → Heap → Prop) : F_law1_Into_of  l1 b2 h (fun  (h : Heap) => K (.tuple #[]) h) =
    den Try.prog noFns Try.f14.ntmps plan14 (bodyOf Try.f14) (args0 0 [(.slice l1.ptr l1.len l1.cap : Value), (.slice b2.ptr b2.len b2.cap : Value)]) h ⟨fun env h => dRes Try.prog Try.f14.results.toList env h K, fun _ _ _ => False, fun env h => dRes Try.prog Try.f14.results.toList env h K⟩ := by kernel_rfl
def E_law1_Into_of (f : Sl → Sl → Heap → (Heap → Prop) → Prop) : List Value → Heap → (Value → Heap → Prop) → Prop
  | [v0, v1], h, K => dec1 .sl v0 fun (l1 : Sl) =>
  dec1 .sl v1 fun (b2 : Sl) =>
  f l1 b2 h (fun  (h : Heap) => K (.tuple #[]) h)
  | _, _, _ => False
abbrev E_law1_Into := E_law1_Into_of F_law1_Into
theorem E_law1_Into.right : IsRight Try.prog 14 E_law1_Into := by
  refine isRight fun vs K w hh => ?_
  match vs, hh with
  | [v0, v1], hh =>
    unfold E_law1_Into E_law1_Into_of at hh
    replace hh := dec1_sound hh; obtain ⟨l1, rfl, hh⟩ := hh
    replace hh := dec1_sound hh; obtain ⟨b2, rfl, hh⟩ := hh
    unfold F_law1_Into at hh
    exact calls_den noFns_right plan14 _ w K Try.func14 (by kernel_rfl) (by kernel_rfl) (Eq.mp (F_law1_Into.eq  l1 b2 w.heap K) hh)
theorem ok14 : okFn Try.prog 14 = true := by kernel_rfl
end Go.Proofs.Ytompmkmbppcadaa.V
