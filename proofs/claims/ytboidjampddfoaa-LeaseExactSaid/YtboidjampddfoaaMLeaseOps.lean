/- What the laws of the lease share: the operations as they come in; a tick of one that stands by. -/
import Derived.Test.YtboidjampddfoaaMLease
namespace Go.Proofs.Ytboidjampddfoaa.V
open Go Go.RowKit
set_option linter.unusedVariables false
set_option linter.unusedSimpArgs false
structure LOp where
  on : Int
  kind : Int
  epoch : Int
  phase : Int
  a : Bool
  b : Bool
  place : Int
  copies : Int
  most : Int
abbrev tyLOp : Ty := .cons (.int .i64) (.cons (.int .i64) (.cons (.int .u64) (.cons (.int .i64) (.cons .bool (.cons .bool (.cons (.int .i64) (.cons (.int .i64) (.cons (.int .i64) .nil))))))))
def lopC (o : LOp) : List Value := [.int .i64 o.on, .int .i64 o.kind, .int .u64 o.epoch, .int .i64 o.phase, .bool o.a, .bool o.b, .int .i64 o.place, .int .i64 o.copies, .int .i64 o.most]
def lopR (o : LOp) (cs : List Value) : Prop := cs = lopC o ∧ 0 ≤ o.epoch ∧ o.epoch < (18446744073709551616 : Int) ∧ IntKind.i64.min ≤ o.on ∧ o.on ≤ IntKind.i64.max ∧ IntKind.i64.min ≤ o.place ∧ o.place ≤ IntKind.i64.max ∧ IntKind.i64.min ≤ o.copies ∧ o.copies ≤ IntKind.i64.max ∧ IntKind.i64.min ≤ o.most ∧ o.most ≤ IntKind.i64.max
theorem SlN.lops {h : Heap} {N : Nat} {s : Sl} (S : SlN h N 9 64 s fun cs => Fit h N tyLOp cs) : ∃ l : List LOp, View h 9 lopR s l := by
  obtain ⟨_, _, _, xs, V⟩ := S.view lopR (fun cs F => by
    obtain ⟨_, _, rfl, _, ⟨t1, rfl, t1a, t1b⟩, _, _, rfl, _, ⟨t2, rfl, t2a, t2b⟩, _, _, rfl, _, ⟨t3, rfl, t3a, t3b⟩, _, _, rfl, _, ⟨t4, rfl, t4a, t4b⟩, _, _, rfl, _, ⟨t5, rfl⟩, _, _, rfl, _, ⟨t6, rfl⟩, _, _, rfl, _, ⟨t7, rfl, t7a, t7b⟩, _, _, rfl, _, ⟨t8, rfl, t8a, t8b⟩, _, _, rfl, _, ⟨t9, rfl, t9a, t9b⟩, rfl⟩ := F
    rw [u64_min] at t3a; rw [u64_max] at t3b
    exact ⟨⟨t1, t2, t3, t4, t5, t6, t7, t8, t9⟩, rfl, t3a, by show t3 < _; omega, t1a, t1b, t7a, t7b, t8a, t8b, t9a, t9b⟩)
  exact ⟨xs, V⟩
theorem LS.next_pos {l : LS} (o : l.Ok) (hs : l.seen ≤ 1000000) (hc : l.copies ≤ 9) : 0 < l.next := by
  unfold LS.next
  have h1 := o.place0; have h2 := o.place1; have h3 := o.seen0
  have h4 := Int.emod_nonneg l.seen (show l.copies ≠ 0 by omega)
  have h5 := Int.emod_lt_of_pos l.seen (show 0 < l.copies by omega)
  rw [if_neg (by omega)]
  simp only
  split
  · rw [if_neg (by omega)]; omega
  · rw [if_neg (by omega)]; omega
theorem LS.next_same {l l' : LS} (h1 : l.seen = l'.seen) (h2 : l.copies = l'.copies) (h3 : l.place = l'.place) : l.next = l'.next := by
  unfold LS.next
  rw [h1, h2, h3]
theorem LS.tick_stay {l : LS} {free : Bool} (h : ¬ (l.left ≤ 1 ∧ free = true)) (h0 : 0 ≤ l.left) : l.tickE 0 false free = 0 ∧ l.tick 0 false free = l.pass.down := by
  unfold LS.tickE LS.tick
  have e : l.pass.down.left = if l.left - 1 < 0 then 0 else l.left - 1 := rfl
  have hn : ¬ (l.pass.down.left = 0 ∧ free = true) := by
    rintro ⟨h1, h2⟩
    rw [e] at h1
    refine h ⟨?_, h2⟩
    split at h1 <;> omega
  simp only [Bool.false_eq_true, if_false, if_true, if_neg hn]
  exact ⟨trivial, trivial⟩
theorem LS.tick_begin {l : LS} (h : l.left ≤ 1) (h0 : 0 ≤ l.left) : l.tickE 0 false true = l.next ∧ l.tick 0 false true = l.pass.down.begin := by
  unfold LS.tickE LS.tick
  have e : l.pass.down.left = if l.left - 1 < 0 then 0 else l.left - 1 := rfl
  have hn : (l.pass.down.left = 0 ∧ true = true) := by
    rw [e]
    refine ⟨?_, rfl⟩
    split <;> omega
  simp only [Bool.false_eq_true, if_false, if_true, hn.1, and_self]
  exact ⟨LS.next_same rfl rfl rfl, trivial⟩
theorem LS.tickB_idle {l : LS} {free : Bool} : l.tickB 0 false free = false := by unfold LS.tickB; simp
theorem LS.begin_pos {l : LS} (h : 0 < l.next) : l.begin = { l with seen := l.next, patience := if 2 * l.patience > l.most then l.most else 2 * l.patience, left := if 2 * l.patience > l.most then l.most else 2 * l.patience } := by
  unfold LS.begin
  rw [if_pos h]
end Go.Proofs.Ytboidjampddfoaa.V
