import Derived.Test.YtboidjampddfoaaV10
import Derived.Test.YtboidjampddfoaaProg
import Derived.Test.YtboidjampddfoaaGref11up
namespace Go.Proofs.Ytboidjampddfoaa.V
open Go Go.RowKit
set_option linter.unusedVariables false
set_option maxRecDepth 100000
/-! (*tally/tallyref11.Lease).Span -/
def F_ref11_Lease_Span_of (f70_ : Int → Heap → (Int → Heap → Prop) → Prop) (l1 : Option Addr) (h : Heap) (Q : Int → Heap → Prop) : Prop :=
  nn l1 fun (a2 : Addr) =>
  ld [.int .i64] (a2.add 3) h fun (v3 : Int) =>
  f70_ v3 h fun (r4 : Int) (h5 : Heap) =>
  Q r4 h5
def F_ref11_Lease_Span (l1 : Option Addr) (h : Heap) (Q : Int → Heap → Prop) : Prop := F_ref11_Lease_Span_of F_ref11_up l1 h Q
def plan72 : Plan := .s (.r [0]) (.s (.r [2]) .z)
theorem F_ref11_Lease_Span.eq (f70_ : Int → Heap → (Int → Heap → Prop) → Prop) (l1 : Option Addr) (h : Heap) (K : Value → Heap → Prop) : F_ref11_Lease_Span_of f70_ l1 h (fun (r0 : Int) (h : Heap) => K (.int .i64 r0) h) =
    den Try.prog (fn1 70 (E_ref11_up_of f70_) noFns) Try.f72.ntmps plan72 (bodyOf Try.f72) (args0 0 [(.pointer l1 : Value)]) h ⟨fun env h => dRes Try.prog Try.f72.results.toList env h K, fun _ _ _ => False, fun env h => dRes Try.prog Try.f72.results.toList env h K⟩ := by kernel_rfl
def E_ref11_Lease_Span_of (f : Option Addr → Heap → (Int → Heap → Prop) → Prop) : List Value → Heap → (Value → Heap → Prop) → Prop
  | [v0], h, K => dec1 .ptr v0 fun (l1 : Option Addr) =>
  f l1 h (fun (r0 : Int) (h : Heap) => K (.int .i64 r0) h)
  | _, _, _ => False
abbrev E_ref11_Lease_Span := E_ref11_Lease_Span_of F_ref11_Lease_Span
theorem E_ref11_Lease_Span.right : IsRight Try.prog 72 E_ref11_Lease_Span := by
  refine isRight fun vs K w hh => ?_
  match vs, hh with
  | [v0], hh =>
    unfold E_ref11_Lease_Span E_ref11_Lease_Span_of at hh
    replace hh := dec1_sound hh; obtain ⟨l1, rfl, hh⟩ := hh
    unfold F_ref11_Lease_Span at hh
    exact calls_den (fn1_right ok70 E_ref11_up.right noFns_right) plan72 _ w K Try.func72 (by kernel_rfl) (by kernel_rfl) (Eq.mp (F_ref11_Lease_Span.eq F_ref11_up l1 w.heap K) hh)
theorem ok72 : okFn Try.prog 72 = true := by kernel_rfl
end Go.Proofs.Ytboidjampddfoaa.V
