import Derived.Test.YtboidjampddfoaaV10
import Derived.Test.YtboidjampddfoaaProg
namespace Go.Proofs.Ytboidjampddfoaa.V
open Go Go.RowKit
set_option linter.unusedVariables false
set_option maxRecDepth 100000
/-! tally/lease.New -/
def F_lease_New_of  (place1 : Int) (copies2 : Int) (most3 : Int) (seen4 : Int) (h : Heap) (Q : Option Addr → Heap → Prop) : Prop :=
  (if (1 : Int) > copies2 then 1 else copies2) ≠ 0 ∧
  jn [(0, .one (.int .i64))] (fun (place6 : Int) (h7 : Heap) =>
  al 144 [.int .i64 0, .int .i64 0, .int .i64 0, .int .u64 (IntKind.u64.wrap place6), .int .u64 (IntKind.u64.wrap (if (1 : Int) > copies2 then 1 else copies2)), .int .i64 (if (4 : Int) > most3 then 4 else most3), .int .i64 4, .int .u64 seen4] h7 fun (a8 : Addr) (h9 : Heap) =>
  nn (some a8) fun (a10 : Addr) =>
  st ((a10.add 0).add 0) [.int .i64 (IntKind.i64.wrap (4 + (if (9223372036854775803 : Int) < place6 then 9223372036854775803 else place6)))] h9 fun (h11 : Heap) =>
  Q (some a8) h11) (fun (j5 : Int → Heap → Prop) =>
  brr (decide ((place1.tmod (if (1 : Int) > copies2 then 1 else copies2)) < 0))
  (j5 (IntKind.i64.wrap ((place1.tmod (if (1 : Int) > copies2 then 1 else copies2)) + (if (1 : Int) > copies2 then 1 else copies2))) h)
  (j5 (place1.tmod (if (1 : Int) > copies2 then 1 else copies2)) h))
def F_lease_New (place1 : Int) (copies2 : Int) (most3 : Int) (seen4 : Int) (h : Heap) (Q : Option Addr → Heap → Prop) : Prop := F_lease_New_of  place1 copies2 most3 seen4 h Q
def plan34 : Plan := .s (.r [0, 1, 2, 3]) (.s (.r [0, 1, 2, 3]) (.s (.r [0, 1, 2, 3]) (.s (.s (.r [0, 1, 2, 3, 16]) (.cj [(0, .one (.int .i64))] [1, 2, 3] (.r [0, 1, 2, 3]) .z)) (.s (.r [0, 9]) (.s (.r [9]) (.s (.r [8]) .z))))))
theorem F_lease_New.eq  (place1 : Int) (copies2 : Int) (most3 : Int) (seen4 : Int) (h : Heap) (K : Value → Heap → Prop) : F_lease_New_of  place1 copies2 most3 seen4 h (fun (r0 : Option Addr) (h : Heap) => K (.pointer r0) h) =
    den Try.prog noFns Try.f34.ntmps plan34 (bodyOf Try.f34) (args0 0 [(.int .i64 place1 : Value), (.int .i64 copies2 : Value), (.int .i64 most3 : Value), (.int .u64 seen4 : Value)]) h ⟨fun env h => dRes Try.prog Try.f34.results.toList env h K, fun _ _ _ => False, fun env h => dRes Try.prog Try.f34.results.toList env h K⟩ := by kernel_rfl
def E_lease_New_of (f : Int → Int → Int → Int → Heap → (Option Addr → Heap → Prop) → Prop) : List Value → Heap → (Value → Heap → Prop) → Prop
  | [v0, v1, v2, v3], h, K => dec1 (.int .i64) v0 fun (place1 : Int) =>
  dec1 (.int .i64) v1 fun (copies2 : Int) =>
  dec1 (.int .i64) v2 fun (most3 : Int) =>
  dec1 (.int .u64) v3 fun (seen4 : Int) =>
  f place1 copies2 most3 seen4 h (fun (r0 : Option Addr) (h : Heap) => K (.pointer r0) h)
  | _, _, _ => False
abbrev E_lease_New := E_lease_New_of F_lease_New
theorem E_lease_New.right : IsRight Try.prog 34 E_lease_New := by
  refine isRight fun vs K w hh => ?_
  match vs, hh with
  | [v0, v1, v2, v3], hh =>
    unfold E_lease_New E_lease_New_of at hh
    replace hh := dec1_sound hh; obtain ⟨place1, rfl, hh⟩ := hh
    replace hh := dec1_sound hh; obtain ⟨copies2, rfl, hh⟩ := hh
    replace hh := dec1_sound hh; obtain ⟨most3, rfl, hh⟩ := hh
    replace hh := dec1_sound hh; obtain ⟨seen4, rfl, hh⟩ := hh
    unfold F_lease_New at hh
    exact calls_den noFns_right plan34 _ w K Try.func34 (by kernel_rfl) (by kernel_rfl) (Eq.mp (F_lease_New.eq  place1 copies2 most3 seen4 w.heap K) hh)
theorem ok34 : okFn Try.prog 34 = true := by kernel_rfl
end Go.Proofs.Ytboidjampddfoaa.V
