import Derived.Test.YtboidjampddfoaaV10
import Derived.Test.YtboidjampddfoaaProg
namespace Go.Proofs.Ytboidjampddfoaa.V
open Go Go.RowKit
set_option linter.unusedVariables false
set_option maxRecDepth 100000
/-! (*tally/tallyref11.Lease).Rest -/
def F_ref11_Lease_Rest_of  (l1 : Option Addr) (h : Heap) (Q : Heap → Prop) : Prop :=
  nn l1 fun (a2 : Addr) =>
  ld [.int .i64] (a2.add 3) h fun (v3 : Int) =>
  nn l1 fun (a4 : Addr) =>
  st (a4.add 4) [.int .i64 v3] h fun (h5 : Heap) =>
  Q h5
def F_ref11_Lease_Rest (l1 : Option Addr) (h : Heap) (Q : Heap → Prop) : Prop := F_ref11_Lease_Rest_of  l1 h Q
def plan49 : Plan := .r []
theorem F_ref11_Lease_Rest.eq  (l1 : Option Addr) (h : Heap) (K : Value → Heap → Prop) : F_ref11_Lease_Rest_of  l1 h (fun  (h : Heap) => K (.tuple #[]) h) =
    den Try.prog noFns Try.f49.ntmps plan49 (bodyOf Try.f49) (args0 0 [(.pointer l1 : Value)]) h ⟨fun env h => dRes Try.prog Try.f49.results.toList env h K, fun _ _ _ => False, fun env h => dRes Try.prog Try.f49.results.toList env h K⟩ := by kernel_rfl
def E_ref11_Lease_Rest_of (f : Option Addr → Heap → (Heap → Prop) → Prop) : List Value → Heap → (Value → Heap → Prop) → Prop
  | [v0], h, K => dec1 .ptr v0 fun (l1 : Option Addr) =>
  f l1 h (fun  (h : Heap) => K (.tuple #[]) h)
  | _, _, _ => False
abbrev E_ref11_Lease_Rest := E_ref11_Lease_Rest_of F_ref11_Lease_Rest
theorem E_ref11_Lease_Rest.right : IsRight Try.prog 49 E_ref11_Lease_Rest := by
  refine isRight fun vs K w hh => ?_
  match vs, hh with
  | [v0], hh =>
    unfold E_ref11_Lease_Rest E_ref11_Lease_Rest_of at hh
    replace hh := dec1_sound hh; obtain ⟨l1, rfl, hh⟩ := hh
    unfold F_ref11_Lease_Rest at hh
    exact calls_den noFns_right plan49 _ w K Try.func49 (by kernel_rfl) (by kernel_rfl) (Eq.mp (F_ref11_Lease_Rest.eq  l1 w.heap K) hh)
theorem ok49 : okFn Try.prog 49 = true := by kernel_rfl
end Go.Proofs.Ytboidjampddfoaa.V
