import Derived.Test.YtboidjampddfoaaV10
import Derived.Test.YtboidjampddfoaaProg
namespace Go.Proofs.Ytboidjampddfoaa.V
open Go Go.RowKit
set_option linter.unusedVariables false
set_option maxRecDepth 100000
/-! (*tally/tallyref11.Lease).Begun -/
def F_ref11_Lease_Begun_of  (l1 : Option Addr) (h : Heap) (Q : Heap → Prop) : Prop :=
  nn l1 fun (a2 : Addr) =>
  st (a2.add 5) [.int .i64 0] h fun (h3 : Heap) =>
  Q h3
def F_ref11_Lease_Begun (l1 : Option Addr) (h : Heap) (Q : Heap → Prop) : Prop := F_ref11_Lease_Begun_of  l1 h Q
def plan50 : Plan := .r []
theorem F_ref11_Lease_Begun.eq  (l1 : Option Addr) (h : Heap) (K : Value → Heap → Prop) : F_ref11_Lease_Begun_of  l1 h (fun  (h : Heap) => K (.tuple #[]) h) =
    den Try.prog noFns Try.f50.ntmps plan50 (bodyOf Try.f50) (args0 0 [(.pointer l1 : Value)]) h ⟨fun env h => dRes Try.prog Try.f50.results.toList env h K, fun _ _ _ => False, fun env h => dRes Try.prog Try.f50.results.toList env h K⟩ := by kernel_rfl
def E_ref11_Lease_Begun_of (f : Option Addr → Heap → (Heap → Prop) → Prop) : List Value → Heap → (Value → Heap → Prop) → Prop
  | [v0], h, K => dec1 .ptr v0 fun (l1 : Option Addr) =>
  f l1 h (fun  (h : Heap) => K (.tuple #[]) h)
  | _, _, _ => False
abbrev E_ref11_Lease_Begun := E_ref11_Lease_Begun_of F_ref11_Lease_Begun
theorem E_ref11_Lease_Begun.right : IsRight Try.prog 50 E_ref11_Lease_Begun := by
  refine isRight fun vs K w hh => ?_
  match vs, hh with
  | [v0], hh =>
    unfold E_ref11_Lease_Begun E_ref11_Lease_Begun_of at hh
    replace hh := dec1_sound hh; obtain ⟨l1, rfl, hh⟩ := hh
    unfold F_ref11_Lease_Begun at hh
    exact calls_den noFns_right plan50 _ w K Try.func50 (by kernel_rfl) (by kernel_rfl) (Eq.mp (F_ref11_Lease_Begun.eq  l1 w.heap K) hh)
theorem ok50 : okFn Try.prog 50 = true := by kernel_rfl
end Go.Proofs.Ytboidjampddfoaa.V
