import Derived.Test.YtboidjampddfoaaV10
import Derived.Test.YtboidjampddfoaaProg
namespace Go.Proofs.Ytboidjampddfoaa.V
open Go Go.RowKit
set_option linter.unusedVariables false
set_option maxRecDepth 100000
/-! tally/tallyref11.up -/
def F_ref11_up_of  (n1 : Int) (h : Heap) (Q : Int → Heap → Prop) : Prop :=
  brr (decide (n1 < 9223372036854775807))
  (Q (IntKind.i64.wrap (n1 + 1)) h)
  (Q n1 h)
def F_ref11_up (n1 : Int) (h : Heap) (Q : Int → Heap → Prop) : Prop := F_ref11_up_of  n1 h Q
def plan70 : Plan := .s (.r [0]) (.s (.s (.r [0, 4]) (.c (.s (.r [2]) .z) .z)) (.s (.r [2]) .z))
theorem F_ref11_up.eq  (n1 : Int) (h : Heap) (K : Value → Heap → Prop) : F_ref11_up_of  n1 h (fun (r0 : Int) (h : Heap) => K (.int .i64 r0) h) =
    den Try.prog noFns Try.f70.ntmps plan70 (bodyOf Try.f70) (args0 0 [(.int .i64 n1 : Value)]) h ⟨fun env h => dRes Try.prog Try.f70.results.toList env h K, fun _ _ _ => False, fun env h => dRes Try.prog Try.f70.results.toList env h K⟩ := by kernel_rfl
def E_ref11_up_of (f : Int → Heap → (Int → Heap → Prop) → Prop) : List Value → Heap → (Value → Heap → Prop) → Prop
  | [v0], h, K => dec1 (.int .i64) v0 fun (n1 : Int) =>
  f n1 h (fun (r0 : Int) (h : Heap) => K (.int .i64 r0) h)
  | _, _, _ => False
abbrev E_ref11_up := E_ref11_up_of F_ref11_up
theorem E_ref11_up.right : IsRight Try.prog 70 E_ref11_up := by
  refine isRight fun vs K w hh => ?_
  match vs, hh with
  | [v0], hh =>
    unfold E_ref11_up E_ref11_up_of at hh
    replace hh := dec1_sound hh; obtain ⟨n1, rfl, hh⟩ := hh
    unfold F_ref11_up at hh
    exact calls_den noFns_right plan70 _ w K Try.func70 (by kernel_rfl) (by kernel_rfl) (Eq.mp (F_ref11_up.eq  n1 w.heap K) hh)
theorem ok70 : okFn Try.prog 70 = true := by kernel_rfl
end Go.Proofs.Ytboidjampddfoaa.V
