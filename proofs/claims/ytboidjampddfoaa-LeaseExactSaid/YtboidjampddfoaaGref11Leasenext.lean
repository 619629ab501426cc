import Derived.Test.YtboidjampddfoaaV10
import Derived.Test.YtboidjampddfoaaProg
namespace Go.Proofs.Ytboidjampddfoaa.V
open Go Go.RowKit
set_option linter.unusedVariables false
set_option maxRecDepth 100000
/-! (*tally/tallyref11.Lease).next -/
def F_ref11_Lease_next_of  (l1 : Option Addr) (h : Heap) (Q : Int → Heap → Prop) : Prop :=
  nn l1 fun (a2 : Addr) =>
  ld [.int .u64] (a2.add 7) h fun (v3 : Int) =>
  brr (decide (v3 ≥ 1099511627776))
  (Q 0 h)
  (nn l1 fun (a4 : Addr) =>
  ld [.int .i64] (a4.add 1) h fun (v5 : Int) =>
  nn l1 fun (a6 : Addr) =>
  ld [.int .i64] (a6.add 0) h fun (v7 : Int) =>
  brr (decide ((IntKind.u64.wrap v7) > 1099511627776))
  (Q 0 h)
  (nn l1 fun (a8 : Addr) =>
  ld [.int .u64] (a8.add 7) h fun (v9 : Int) =>
  (IntKind.u64.wrap v5) ≠ 0 ∧
  nn l1 fun (a10 : Addr) =>
  ld [.int .u64] (a10.add 7) h fun (v11 : Int) =>
  jn [(7, .one (.int .u64))] (fun (e13 : Int) (h14 : Heap) =>
  brr (decide (e13 > 1099511627776))
  (Q 0 h14)
  (Q e13 h14)) (fun (j12 : Int → Heap → Prop) =>
  brr (decide ((IntKind.u64.wrap ((IntKind.u64.wrap ((IntKind.u64.wrap (v9.tdiv (IntKind.u64.wrap v5))) * (IntKind.u64.wrap v5))) + (IntKind.u64.wrap v7))) ≤ v11))
  (brr (decide ((IntKind.u64.wrap v5) > 1099511627776))
  (Q 0 h)
  (j12 (IntKind.u64.wrap ((IntKind.u64.wrap ((IntKind.u64.wrap ((IntKind.u64.wrap (v9.tdiv (IntKind.u64.wrap v5))) * (IntKind.u64.wrap v5))) + (IntKind.u64.wrap v7))) + (IntKind.u64.wrap v5))) h))
  (j12 (IntKind.u64.wrap ((IntKind.u64.wrap ((IntKind.u64.wrap (v9.tdiv (IntKind.u64.wrap v5))) * (IntKind.u64.wrap v5))) + (IntKind.u64.wrap v7))) h))))
def F_ref11_Lease_next (l1 : Option Addr) (h : Heap) (Q : Int → Heap → Prop) : Prop := F_ref11_Lease_next_of  l1 h Q
def plan71 : Plan := .s (.r [0]) (.s (.r [0, 3]) (.s (.s (.r [0, 3, 13]) (.c (.s (.r [2]) .z) .z)) (.s (.r [0, 3, 4]) (.s (.r [0, 3, 4, 5]) (.s (.s (.r [0, 3, 4, 5, 26]) (.c (.s (.r [2]) .z) .z)) (.s (.r [0, 3, 4, 5, 6]) (.s (.r [0, 3, 4, 7]) (.s (.s (.r [3, 4, 7, 43]) (.cj [(7, .one (.int .u64))] [3] (.s (.s (.r [3, 4, 7, 46]) (.c (.s (.r [2]) .z) .z)) (.r [3, 7])) .z)) (.s (.s (.r [7, 52]) (.c (.s (.r [2]) .z) .z)) (.s (.r [2]) .z))))))))))
theorem F_ref11_Lease_next.eq  (l1 : Option Addr) (h : Heap) (K : Value → Heap → Prop) : F_ref11_Lease_next_of  l1 h (fun (r0 : Int) (h : Heap) => K (.int .u64 r0) h) =
    den Try.prog noFns Try.f71.ntmps plan71 (bodyOf Try.f71) (args0 0 [(.pointer l1 : Value)]) h ⟨fun env h => dRes Try.prog Try.f71.results.toList env h K, fun _ _ _ => False, fun env h => dRes Try.prog Try.f71.results.toList env h K⟩ := by kernel_rfl
def E_ref11_Lease_next_of (f : Option Addr → Heap → (Int → Heap → Prop) → Prop) : List Value → Heap → (Value → Heap → Prop) → Prop
  | [v0], h, K => dec1 .ptr v0 fun (l1 : Option Addr) =>
  f l1 h (fun (r0 : Int) (h : Heap) => K (.int .u64 r0) h)
  | _, _, _ => False
abbrev E_ref11_Lease_next := E_ref11_Lease_next_of F_ref11_Lease_next
theorem E_ref11_Lease_next.right : IsRight Try.prog 71 E_ref11_Lease_next := by
  refine isRight fun vs K w hh => ?_
  match vs, hh with
  | [v0], hh =>
    unfold E_ref11_Lease_next E_ref11_Lease_next_of at hh
    replace hh := dec1_sound hh; obtain ⟨l1, rfl, hh⟩ := hh
    unfold F_ref11_Lease_next at hh
    exact calls_den noFns_right plan71 _ w K Try.func71 (by kernel_rfl) (by kernel_rfl) (Eq.mp (F_ref11_Lease_next.eq  l1 w.heap K) hh)
theorem ok71 : okFn Try.prog 71 = true := by kernel_rfl
end Go.Proofs.Ytboidjampddfoaa.V
