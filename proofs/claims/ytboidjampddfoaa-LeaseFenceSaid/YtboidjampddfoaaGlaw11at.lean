import Derived.Test.YtboidjampddfoaaV10
import Derived.Test.YtboidjampddfoaaProg
import Derived.Test.YtboidjampddfoaaGlaw11within
namespace Go.Proofs.Ytboidjampddfoaa.V
open Go Go.RowKit
set_option linter.unusedVariables false
set_option maxRecDepth 100000
/-! tally/tallylaw11.at -/
def F_law11_at_of (f35_ : Int → Int → Heap → (Int → Heap → Prop) → Prop) (l1 : Sl) (i2 : Int) (m3 : Int) (h : Heap) (Q : Int → Heap → Prop) : Prop :=
  brr (((l1.len : Nat) : Int) == 0)
  (Q 0 h)
  (((l1.len : Nat) : Int) ≠ 0 ∧
  ixS 1 l1 (i2.tmod ((l1.len : Nat) : Int)) fun (a4 : Addr) =>
  ld [.int .i64] a4 h fun (v5 : Int) =>
  f35_ v5 m3 h fun (r6 : Int) (h7 : Heap) =>
  Q r6 h7)
def F_law11_at (l1 : Sl) (i2 : Int) (m3 : Int) (h : Heap) (Q : Int → Heap → Prop) : Prop := F_law11_at_of F_law11_within l1 i2 m3 h Q
def plan41 : Plan := .s (.r [0, 1, 2]) (.s (.s (.r [0, 1, 2, 9]) (.c (.s (.r [6]) .z) .z)) (.s (.r [6]) .z))
theorem F_law11_at.eq (f35_ : Int → Int → Heap → (Int → Heap → Prop) → Prop) (l1 : Sl) (i2 : Int) (m3 : Int) (h : Heap) (K : Value → Heap → Prop) : F_law11_at_of f35_ l1 i2 m3 h (fun (r0 : Int) (h : Heap) => K (.int .i64 r0) h) =
    den Try.prog (fn1 35 (E_law11_within_of f35_) noFns) Try.f41.ntmps plan41 (bodyOf Try.f41) (args0 0 [(.slice l1.ptr l1.len l1.cap : Value), (.int .i64 i2 : Value), (.int .i64 m3 : Value)]) h ⟨fun env h => dRes Try.prog Try.f41.results.toList env h K, fun _ _ _ => False, fun env h => dRes Try.prog Try.f41.results.toList env h K⟩ := by kernel_rfl
def E_law11_at_of (f : Sl → Int → Int → Heap → (Int → Heap → Prop) → Prop) : List Value → Heap → (Value → Heap → Prop) → Prop
  | [v0, v1, v2], h, K => dec1 .sl v0 fun (l1 : Sl) =>
  dec1 (.int .i64) v1 fun (i2 : Int) =>
  dec1 (.int .i64) v2 fun (m3 : Int) =>
  f l1 i2 m3 h (fun (r0 : Int) (h : Heap) => K (.int .i64 r0) h)
  | _, _, _ => False
abbrev E_law11_at := E_law11_at_of F_law11_at
theorem E_law11_at.right : IsRight Try.prog 41 E_law11_at := by
  refine isRight fun vs K w hh => ?_
  match vs, hh with
  | [v0, v1, v2], hh =>
    unfold E_law11_at E_law11_at_of at hh
    replace hh := dec1_sound hh; obtain ⟨l1, rfl, hh⟩ := hh
    replace hh := dec1_sound hh; obtain ⟨i2, rfl, hh⟩ := hh
    replace hh := dec1_sound hh; obtain ⟨m3, rfl, hh⟩ := hh
    unfold F_law11_at at hh
    exact calls_den (fn1_right ok35 E_law11_within.right noFns_right) plan41 _ w K Try.func41 (by kernel_rfl) (by kernel_rfl) (Eq.mp (F_law11_at.eq F_law11_within l1 i2 m3 w.heap K) hh)
theorem ok41 : okFn Try.prog 41 = true := by kernel_rfl
end Go.Proofs.Ytboidjampddfoaa.V
