import Derived.Test.YtboidjampddfoaaV10
import Derived.Test.YtboidjampddfoaaProg
namespace Go.Proofs.Ytboidjampddfoaa.V
open Go Go.RowKit
set_option linter.unusedVariables false
set_option maxRecDepth 100000
/-! (*tally/lease.Lease).Patience -/
def F_lease_Lease_Patience_of  (l1 : Option Addr) (h : Heap) (Q : Int → Heap → Prop) : Prop :=
  nn l1 fun (a2 : Addr) =>
  ld [.int .i64] (a2.add 6) h fun (v3 : Int) =>
  Q v3 h
def F_lease_Lease_Patience (l1 : Option Addr) (h : Heap) (Q : Int → Heap → Prop) : Prop := F_lease_Lease_Patience_of  l1 h Q
def plan37 : Plan := .s (.r [0]) (.s (.r [2]) .z)
theorem F_lease_Lease_Patience.eq  (l1 : Option Addr) (h : Heap) (K : Value → Heap → Prop) : F_lease_Lease_Patience_of  l1 h (fun (r0 : Int) (h : Heap) => K (.int .i64 r0) h) =
    den Try.prog noFns Try.f37.ntmps plan37 (bodyOf Try.f37) (args0 0 [(.pointer l1 : Value)]) h ⟨fun env h => dRes Try.prog Try.f37.results.toList env h K, fun _ _ _ => False, fun env h => dRes Try.prog Try.f37.results.toList env h K⟩ := by kernel_rfl
def E_lease_Lease_Patience_of (f : Option Addr → Heap → (Int → Heap → Prop) → Prop) : List Value → Heap → (Value → Heap → Prop) → Prop
  | [v0], h, K => dec1 .ptr v0 fun (l1 : Option Addr) =>
  f l1 h (fun (r0 : Int) (h : Heap) => K (.int .i64 r0) h)
  | _, _, _ => False
abbrev E_lease_Lease_Patience := E_lease_Lease_Patience_of F_lease_Lease_Patience
theorem E_lease_Lease_Patience.right : IsRight Try.prog 37 E_lease_Lease_Patience := by
  refine isRight fun vs K w hh => ?_
  match vs, hh with
  | [v0], hh =>
    unfold E_lease_Lease_Patience E_lease_Lease_Patience_of at hh
    replace hh := dec1_sound hh; obtain ⟨l1, rfl, hh⟩ := hh
    unfold F_lease_Lease_Patience at hh
    exact calls_den noFns_right plan37 _ w K Try.func37 (by kernel_rfl) (by kernel_rfl) (Eq.mp (F_lease_Lease_Patience.eq  l1 w.heap K) hh)
theorem ok37 : okFn Try.prog 37 = true := by kernel_rfl
end Go.Proofs.Ytboidjampddfoaa.V
