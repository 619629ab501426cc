import Derived.Test.YtboidjampddfoaaV10
import Derived.Test.YtboidjampddfoaaProg
namespace Go.Proofs.Ytboidjampddfoaa.V
open Go Go.RowKit
set_option linter.unusedVariables false
set_option maxRecDepth 100000
/-! tally/tallylaw11.has -/
def F_law11_has.l1 (l1 : Sl) (e2 : Int) (Q : Bool → Heap → Prop) (j3 : Heap → Prop) : Int → Heap → Prop :=
  wl [(5, .one (.int .i64))] (fun (next4 : Int → Heap → Prop) (i5 : Int) (h6 : Heap) =>
  brr (decide (i5 < ((l1.len : Nat) : Int)))
  (ixS 1 l1 i5 fun (a7 : Addr) =>
  ld [.int .u64] a7 h6 fun (v8 : Int) =>
  brr (v8 == e2)
  (Q true h6)
  (next4 (IntKind.i64.wrap (i5 + 1)) h6))
  (j3 h6))
def F_law11_has_of  (l1 : Sl) (e2 : Int) (h : Heap) (Q : Bool → Heap → Prop) : Prop :=
  jn [] (fun  (h9 : Heap) =>
  Q false h9) (fun (j3 : Heap → Prop) =>
  F_law11_has.l1 l1 e2 Q j3 0 h)
def F_law11_has (l1 : Sl) (e2 : Int) (h : Heap) (Q : Bool → Heap → Prop) : Prop := F_law11_has_of  l1 e2 h Q
def plan45 : Plan := .s (.r [0, 1]) (.s (.s (.r [0, 1, 5]) (.bj [] [] (.l [(5, .one (.int .i64))] [0, 1] (.s (.s (.r [0, 1, 5, 9]) (.c .z .z)) (.s (.b (.s (.r [0, 1, 5, 17]) (.c (.s (.r [4]) .z) .z))) (.r [0, 1, 5])))))) (.s (.r [4]) .z))
theorem F_law11_has.eq  (l1 : Sl) (e2 : Int) (h : Heap) (K : Value → Heap → Prop) : F_law11_has_of  l1 e2 h (fun (r0 : Bool) (h : Heap) => K (.bool r0) h) =
    den Try.prog noFns Try.f45.ntmps plan45 (bodyOf Try.f45) (args0 0 [(.slice l1.ptr l1.len l1.cap : Value), (.int .u64 e2 : Value)]) h ⟨fun env h => dRes Try.prog Try.f45.results.toList env h K, fun _ _ _ => False, fun env h => dRes Try.prog Try.f45.results.toList env h K⟩ := by kernel_rfl
def E_law11_has_of (f : Sl → Int → Heap → (Bool → Heap → Prop) → Prop) : List Value → Heap → (Value → Heap → Prop) → Prop
  | [v0, v1], h, K => dec1 .sl v0 fun (l1 : Sl) =>
  dec1 (.int .u64) v1 fun (e2 : Int) =>
  f l1 e2 h (fun (r0 : Bool) (h : Heap) => K (.bool r0) h)
  | _, _, _ => False
abbrev E_law11_has := E_law11_has_of F_law11_has
theorem E_law11_has.right : IsRight Try.prog 45 E_law11_has := by
  refine isRight fun vs K w hh => ?_
  match vs, hh with
  | [v0, v1], hh =>
    unfold E_law11_has E_law11_has_of at hh
    replace hh := dec1_sound hh; obtain ⟨l1, rfl, hh⟩ := hh
    replace hh := dec1_sound hh; obtain ⟨e2, rfl, hh⟩ := hh
    unfold F_law11_has at hh
    exact calls_den noFns_right plan45 _ w K Try.func45 (by kernel_rfl) (by kernel_rfl) (Eq.mp (F_law11_has.eq  l1 e2 w.heap K) hh)
theorem ok45 : okFn Try.prog 45 = true := by kernel_rfl
end Go.Proofs.Ytboidjampddfoaa.V
