import Derived.Test.YtboidjampddfoaaV10
import Derived.Test.YtboidjampddfoaaProg
namespace Go.Proofs.Ytboidjampddfoaa.V
open Go Go.RowKit
set_option linter.unusedVariables false
set_option maxRecDepth 100000
/-! tally/tallyref11.New -/
def F_ref11_New_of  (place1 : Int) (copies2 : Int) (most3 : Int) (seen4 : Int) (h : Heap) (Q : Option Addr → Heap → Prop) : Prop :=
  jn [(1, .one (.int .i64))] (fun (copies6 : Int) (h7 : Heap) =>
  copies6 ≠ 0 ∧
  jn [(0, .one (.int .i64))] (fun (place9 : Int) (h10 : Heap) =>
  jn [(2, .one (.int .i64))] (fun (most12 : Int) (h13 : Heap) =>
  al 146 [.int .i64 place9, .int .i64 copies6, .int .i64 most12, .int .i64 4, .int .i64 0, .int .i64 0, .int .i64 0, .int .u64 seen4] h13 fun (a14 : Addr) (h15 : Heap) =>
  nn (some a14) fun (a16 : Addr) =>
  st (a16.add 4) [.int .i64 9223372036854775807] h15 fun (h17 : Heap) =>
  jn [] (fun  (h21 : Heap) =>
  Q (some a14) h21) (fun (j18 : Heap → Prop) =>
  brr (decide (place9 < 9223372036854775803))
  (nn (some a14) fun (a19 : Addr) =>
  st (a19.add 4) [.int .i64 (IntKind.i64.wrap (4 + place9))] h17 fun (h20 : Heap) =>
  j18 h20)
  (j18 h17))) (fun (j11 : Int → Heap → Prop) =>
  brr (decide (most3 < 4))
  (j11 4 h10)
  (j11 most3 h10))) (fun (j8 : Int → Heap → Prop) =>
  brr (decide ((place1.tmod copies6) < 0))
  (j8 (IntKind.i64.wrap ((place1.tmod copies6) + copies6)) h7)
  (j8 (place1.tmod copies6) h7))) (fun (j5 : Int → Heap → Prop) =>
  brr (decide (copies2 < 1))
  (j5 1 h)
  (j5 copies2 h))
def F_ref11_New (place1 : Int) (copies2 : Int) (most3 : Int) (seen4 : Int) (h : Heap) (Q : Option Addr → Heap → Prop) : Prop := F_ref11_New_of  place1 copies2 most3 seen4 h Q
def plan47 : Plan := .s (.r [0, 1, 2, 3]) (.s (.s (.r [0, 1, 2, 3, 11]) (.cj [(1, .one (.int .i64))] [0, 2, 3] (.r [0, 1, 2, 3]) .z)) (.s (.r [0, 1, 2, 3]) (.s (.s (.r [0, 1, 2, 3, 16]) (.cj [(0, .one (.int .i64))] [1, 2, 3] (.r [0, 1, 2, 3]) .z)) (.s (.s (.r [0, 1, 2, 3, 21]) (.cj [(2, .one (.int .i64))] [0, 1, 3] (.r [0, 1, 2, 3]) .z)) (.s (.r [0, 9]) (.s (.r [0, 9]) (.s (.s (.r [0, 9, 32]) (.cj [] [9] (.r [9]) .z)) (.s (.r [8]) .z))))))))
theorem F_ref11_New.eq  (place1 : Int) (copies2 : Int) (most3 : Int) (seen4 : Int) (h : Heap) (K : Value → Heap → Prop) : F_ref11_New_of  place1 copies2 most3 seen4 h (fun (r0 : Option Addr) (h : Heap) => K (.pointer r0) h) =
    den Try.prog noFns Try.f47.ntmps plan47 (bodyOf Try.f47) (args0 0 [(.int .i64 place1 : Value), (.int .i64 copies2 : Value), (.int .i64 most3 : Value), (.int .u64 seen4 : Value)]) h ⟨fun env h => dRes Try.prog Try.f47.results.toList env h K, fun _ _ _ => False, fun env h => dRes Try.prog Try.f47.results.toList env h K⟩ := by kernel_rfl
def E_ref11_New_of (f : Int → Int → Int → Int → Heap → (Option Addr → Heap → Prop) → Prop) : List Value → Heap → (Value → Heap → Prop) → Prop
  | [v0, v1, v2, v3], h, K => dec1 (.int .i64) v0 fun (place1 : Int) =>
  dec1 (.int .i64) v1 fun (copies2 : Int) =>
  dec1 (.int .i64) v2 fun (most3 : Int) =>
  dec1 (.int .u64) v3 fun (seen4 : Int) =>
  f place1 copies2 most3 seen4 h (fun (r0 : Option Addr) (h : Heap) => K (.pointer r0) h)
  | _, _, _ => False
abbrev E_ref11_New := E_ref11_New_of F_ref11_New
theorem E_ref11_New.right : IsRight Try.prog 47 E_ref11_New := by
  refine isRight fun vs K w hh => ?_
  match vs, hh with
  | [v0, v1, v2, v3], hh =>
    unfold E_ref11_New E_ref11_New_of at hh
    replace hh := dec1_sound hh; obtain ⟨place1, rfl, hh⟩ := hh
    replace hh := dec1_sound hh; obtain ⟨copies2, rfl, hh⟩ := hh
    replace hh := dec1_sound hh; obtain ⟨most3, rfl, hh⟩ := hh
    replace hh := dec1_sound hh; obtain ⟨seen4, rfl, hh⟩ := hh
    unfold F_ref11_New at hh
    exact calls_den noFns_right plan47 _ w K Try.func47 (by kernel_rfl) (by kernel_rfl) (Eq.mp (F_ref11_New.eq  place1 copies2 most3 seen4 w.heap K) hh)
theorem ok47 : okFn Try.prog 47 = true := by kernel_rfl
end Go.Proofs.Ytboidjampddfoaa.V
