import Derived.Test.YtboidjampddfoaaV10
import Derived.Test.YtboidjampddfoaaProg
namespace Go.Proofs.Ytboidjampddfoaa.V
open Go Go.RowKit
set_option linter.unusedVariables false
set_option maxRecDepth 100000
/-! (*tally/lease.Lease).next -/
def F_lease_Lease_next_of  (l1 : Option Addr) (h : Heap) (Q : Int → Heap → Prop) : Prop :=
  jn [(16, .one .bool)] (fun (x7 : Bool) (h8 : Heap) =>
  brr x7
  (Q 0 h8)
  (nn l1 fun (a9 : Addr) =>
  ld [.int .u64] (a9.add 7) h8 fun (v10 : Int) =>
  nn l1 fun (a11 : Addr) =>
  ld [.int .u64] (a11.add 4) h8 fun (v12 : Int) =>
  v12 ≠ 0 ∧
  nn l1 fun (a13 : Addr) =>
  ld [.int .u64] (a13.add 3) h8 fun (v14 : Int) =>
  nn l1 fun (a15 : Addr) =>
  ld [.int .u64] (a15.add 3) h8 fun (v16 : Int) =>
  jn [(4, .one (.int .u64))] (fun (step22 : Int) (h23 : Heap) =>
  nn l1 fun (a24 : Addr) =>
  ld [.int .u64] (a24.add 7) h23 fun (v25 : Int) =>
  brr (decide (step22 > (IntKind.u64.wrap (1099511627776 - v25))))
  (Q 0 h23)
  (nn l1 fun (a26 : Addr) =>
  ld [.int .u64] (a26.add 7) h23 fun (v27 : Int) =>
  Q (IntKind.u64.wrap (v27 + step22)) h23)) (fun (j17 : Int → Heap → Prop) =>
  brr (decide (v16 ≤ (v10.tmod v12)))
  (nn l1 fun (a18 : Addr) =>
  ld [.int .u64] (a18.add 4) h8 fun (v19 : Int) =>
  nn l1 fun (a20 : Addr) =>
  ld [.int .u64] (a20.add 3) h8 fun (v21 : Int) =>
  j17 (IntKind.u64.wrap ((IntKind.u64.wrap (v19 - (v10.tmod v12))) + v21)) h8)
  (j17 (IntKind.u64.wrap (v14 - (v10.tmod v12))) h8)))) (fun (j2 : Bool → Heap → Prop) =>
  nn l1 fun (a3 : Addr) =>
  ld [.int .u64] (a3.add 7) h fun (v4 : Int) =>
  brr (decide (v4 ≥ 1099511627776))
  (j2 true h)
  (nn l1 fun (a5 : Addr) =>
  ld [.int .u64] (a5.add 3) h fun (v6 : Int) =>
  j2 (decide (v6 > 1099511627776)) h))
def F_lease_Lease_next (l1 : Option Addr) (h : Heap) (Q : Int → Heap → Prop) : Prop := F_lease_Lease_next_of  l1 h Q
def plan93 : Plan := .s (.r [0]) (.s (.s (.rj [(16, .one .bool)] [0]) (.c (.s (.r [2]) .z) .z)) (.s (.d [0, 1, 3, 7, 0, 16, 48, 112, 255, 511] [[0, 1, 2, 3, 4, 5, 6, 7, 8, 9]] [0, 3]) (.s (.r [0, 3, 4]) (.s (.s (.r [0, 3, 4, 37]) (.cj [(4, .one (.int .u64))] [0] (.d [0, 1, 3, 7, 0, 31, 0, 64, 192, 448, 1023, 2047] [[0, 1, 2, 3, 4, 5, 6, 7, 8, 9, 10, 11]] [0, 4]) .z)) (.s (.s (.r [0, 4, 55]) (.c (.s (.r [2]) .z) .z)) (.s (.r [2]) .z))))))
theorem F_lease_Lease_next.eq  (l1 : Option Addr) (h : Heap) (K : Value → Heap → Prop) : F_lease_Lease_next_of  l1 h (fun (r0 : Int) (h : Heap) => K (.int .u64 r0) h) =
    den Try.prog noFns Try.f93.ntmps plan93 (bodyOf Try.f93) (args0 0 [(.pointer l1 : Value)]) h ⟨fun env h => dRes Try.prog Try.f93.results.toList env h K, fun _ _ _ => False, fun env h => dRes Try.prog Try.f93.results.toList env h K⟩ := by kernel_rfl
def E_lease_Lease_next_of (f : Option Addr → Heap → (Int → Heap → Prop) → Prop) : List Value → Heap → (Value → Heap → Prop) → Prop
  | [v0], h, K => dec1 .ptr v0 fun (l1 : Option Addr) =>
  f l1 h (fun (r0 : Int) (h : Heap) => K (.int .u64 r0) h)
  | _, _, _ => False
abbrev E_lease_Lease_next := E_lease_Lease_next_of F_lease_Lease_next
theorem E_lease_Lease_next.right : IsRight Try.prog 93 E_lease_Lease_next := by
  refine isRight fun vs K w hh => ?_
  match vs, hh with
  | [v0], hh =>
    unfold E_lease_Lease_next E_lease_Lease_next_of at hh
    replace hh := dec1_sound hh; obtain ⟨l1, rfl, hh⟩ := hh
    unfold F_lease_Lease_next at hh
    exact calls_den noFns_right plan93 _ w K Try.func93 (by kernel_rfl) (by kernel_rfl) (Eq.mp (F_lease_Lease_next.eq  l1 w.heap K) hh)
theorem ok93 : okFn Try.prog 93 = true := by kernel_rfl
end Go.Proofs.Ytboidjampddfoaa.V
