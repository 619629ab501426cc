import Derived.Test.YtboidjampddfoaaV10
import Derived.Test.YtboidjampddfoaaProg
namespace Go.Proofs.Ytboidjampddfoaa.V
open Go Go.RowKit
set_option linter.unusedVariables false
set_option maxRecDepth 100000
/-! (*tally/lease.Lease).Left -/
def F_lease_Lease_Left_of  (l1 : Option Addr) (h : Heap) (Q : Int → Heap → Prop) : Prop :=
  nn l1 fun (a2 : Addr) =>
  ld [.int .i64] ((a2.add 0).add 0) h fun (v3 : Int) =>
  Q v3 h
def F_lease_Lease_Left (l1 : Option Addr) (h : Heap) (Q : Int → Heap → Prop) : Prop := F_lease_Lease_Left_of  l1 h Q
def plan43 : Plan := .s (.r [0]) (.s (.r [2]) .z)
theorem F_lease_Lease_Left.eq  (l1 : Option Addr) (h : Heap) (K : Value → Heap → Prop) : F_lease_Lease_Left_of  l1 h (fun (r0 : Int) (h : Heap) => K (.int .i64 r0) h) =
    den Try.prog noFns Try.f43.ntmps plan43 (bodyOf Try.f43) (args0 0 [(.pointer l1 : Value)]) h ⟨fun env h => dRes Try.prog Try.f43.results.toList env h K, fun _ _ _ => False, fun env h => dRes Try.prog Try.f43.results.toList env h K⟩ := by kernel_rfl
def E_lease_Lease_Left_of (f : Option Addr → Heap → (Int → Heap → Prop) → Prop) : List Value → Heap → (Value → Heap → Prop) → Prop
  | [v0], h, K => dec1 .ptr v0 fun (l1 : Option Addr) =>
  f l1 h (fun (r0 : Int) (h : Heap) => K (.int .i64 r0) h)
  | _, _, _ => False
abbrev E_lease_Lease_Left := E_lease_Lease_Left_of F_lease_Lease_Left
theorem E_lease_Lease_Left.right : IsRight Try.prog 43 E_lease_Lease_Left := by
  refine isRight fun vs K w hh => ?_
  match vs, hh with
  | [v0], hh =>
    unfold E_lease_Lease_Left E_lease_Lease_Left_of at hh
    replace hh := dec1_sound hh; obtain ⟨l1, rfl, hh⟩ := hh
    unfold F_lease_Lease_Left at hh
    exact calls_den noFns_right plan43 _ w K Try.func43 (by kernel_rfl) (by kernel_rfl) (Eq.mp (F_lease_Lease_Left.eq  l1 w.heap K) hh)
theorem ok43 : okFn Try.prog 43 = true := by kernel_rfl
end Go.Proofs.Ytboidjampddfoaa.V
