import Derived.Test.YtboidjampddfoaaV10
import Derived.Test.YtboidjampddfoaaProg
namespace Go.Proofs.Ytboidjampddfoaa.V
open Go Go.RowKit
set_option linter.unusedVariables false
set_option maxRecDepth 100000
/-! (*tally/lease.Lease).Rest -/
def F_lease_Lease_Rest_of  (l1 : Option Addr) (h : Heap) (Q : Heap → Prop) : Prop :=
  nn l1 fun (a2 : Addr) =>
  ld [.int .i64] (a2.add 6) h fun (v3 : Int) =>
  nn l1 fun (a4 : Addr) =>
  st ((a4.add 0).add 0) [.int .i64 v3] h fun (h5 : Heap) =>
  Q h5
def F_lease_Lease_Rest (l1 : Option Addr) (h : Heap) (Q : Heap → Prop) : Prop := F_lease_Lease_Rest_of  l1 h Q
def plan44 : Plan := .r []
theorem F_lease_Lease_Rest.eq  (l1 : Option Addr) (h : Heap) (K : Value → Heap → Prop) : F_lease_Lease_Rest_of  l1 h (fun  (h : Heap) => K (.tuple #[]) h) =
    den Try.prog noFns Try.f44.ntmps plan44 (bodyOf Try.f44) (args0 0 [(.pointer l1 : Value)]) h ⟨fun env h => dRes Try.prog Try.f44.results.toList env h K, fun _ _ _ => False, fun env h => dRes Try.prog Try.f44.results.toList env h K⟩ := by kernel_rfl
def E_lease_Lease_Rest_of (f : Option Addr → Heap → (Heap → Prop) → Prop) : List Value → Heap → (Value → Heap → Prop) → Prop
  | [v0], h, K => dec1 .ptr v0 fun (l1 : Option Addr) =>
  f l1 h (fun  (h : Heap) => K (.tuple #[]) h)
  | _, _, _ => False
abbrev E_lease_Lease_Rest := E_lease_Lease_Rest_of F_lease_Lease_Rest
theorem E_lease_Lease_Rest.right : IsRight Try.prog 44 E_lease_Lease_Rest := by
  refine isRight fun vs K w hh => ?_
  match vs, hh with
  | [v0], hh =>
    unfold E_lease_Lease_Rest E_lease_Lease_Rest_of at hh
    replace hh := dec1_sound hh; obtain ⟨l1, rfl, hh⟩ := hh
    unfold F_lease_Lease_Rest at hh
    exact calls_den noFns_right plan44 _ w K Try.func44 (by kernel_rfl) (by kernel_rfl) (Eq.mp (F_lease_Lease_Rest.eq  l1 w.heap K) hh)
theorem ok44 : okFn Try.prog 44 = true := by kernel_rfl
end Go.Proofs.Ytboidjampddfoaa.V
