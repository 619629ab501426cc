import Derived.Test.YtcbelendjpnmiaaZReplicaMeets0
import Derived.Laws.Append
import Derived.Test.YtcbelendjpnmiaaProg
/-
  THE HEAP BY RESOURCES: a list of assertions, each over blocks of its own ('Sat'); the rules for making, reading, writing, appending; lists that lie in memory ('View', 'buf').
-/
namespace Go.Proofs.Ytcbelendjpnmiaa.V
open Go Go.RowKit
set_option linter.unusedVariables false
set_option linter.unusedSimpArgs false

abbrev Blks := List (Nat × List Value)
/-- All that was there is as it was; these blocks are new, hold this, and are not one another. -/
structure Held (h0 h : Heap) (E : Blks) : Prop where
  kept : KeptH h0 h
  blk : ∀ p ∈ E, h0.size ≤ p.1 ∧ Blk h p.1 p.2
  dis : (E.map (·.1)).Nodup
theorem Held.none (h : Heap) : Held h h [] := ⟨KeptH.refl h, by simp, by simp⟩
theorem Held.perm {h0 h : Heap} {E F : Blks} (O : Held h0 h E) (p : F.Perm E) : Held h0 h F :=
  ⟨O.kept, fun q hq => O.blk q (p.subset hq), (p.map _).nodup_iff.2 O.dis⟩
theorem Held.sub {h0 h : Heap} {E F : Blks} (O : Held h0 h E) (s : F.Sublist E) : Held h0 h F :=
  ⟨O.kept, fun q hq => O.blk q (s.subset hq), O.dis.sublist (s.map _)⟩
theorem Held.push {h0 h : Heap} {E : Blks} (O : Held h0 h E) (cs : List Value) (T : TypeId) (f : Nat × Nat) (hf : f.1 = f.2 ∨ cs.length ≤ f.1) : Held h0 (h.push (.cells cs.toArray T f)) ((h.size, cs) :: E) := by
  refine ⟨⟨by simp; have := O.kept.size; omega, fun k hk => ?_⟩, ?_, ?_⟩
  · have := O.kept.size
    rw [Array.getElem?_push, if_neg (by omega)]; exact O.kept.at_ k hk
  · intro p hp
    rcases List.mem_cons.1 hp with rfl | hp
    · exact ⟨O.kept.size, T, f, by simp, hf⟩
    · obtain ⟨h1, h2⟩ := O.blk p hp
      refine ⟨h1, ?_⟩
      have := h2.lt
      obtain ⟨T', f', e, hf'⟩ := h2
      exact ⟨T', f', by rw [Array.getElem?_push, if_neg (by omega)]; exact e, hf'⟩
  · rw [List.map_cons, List.nodup_cons]
    refine ⟨fun hm => ?_, O.dis⟩
    obtain ⟨q, hq, e⟩ := List.mem_map.1 hm
    have := (O.blk q hq).2.lt
    omega
theorem setH_blk {h : Heap} {b o : Nat} {cs : List Value} {v : Value} {T : TypeId} {f : Nat × Nat} (e : h[b]? = some (.cells cs.toArray T f)) (k : Nat) :
    (setH h (pt b o) v)[k]? = if b = k then some (.cells (cs.set o v).toArray T f) else h[k]? := by
  unfold setH
  rw [Array.getElem?_modify]
  split
  · rename_i hk; subst hk; simp [e]
  · rfl
theorem Held.set {h0 h : Heap} {E : Blks} {b o : Nat} {cs : List Value} {v : Value} (O : Held h0 h ((b, cs) :: E)) : Held h0 (setH h (pt b o) v) ((b, cs.set o v) :: E) := by
  obtain ⟨hb, B⟩ := O.blk _ (List.mem_cons_self)
  have hlt := B.lt
  obtain ⟨T, f, e, hf⟩ := B
  have hat := setH_blk (o := o) (v := v) e
  have hd := O.dis
  rw [List.map_cons, List.nodup_cons] at hd
  refine ⟨⟨?_, fun k hk => ?_⟩, ?_, ?_⟩
  · have := O.kept.size; simpa [setH] using this
  · rw [hat, if_neg (by simp at hb; omega)]; exact O.kept.at_ k hk
  · intro p hp
    rcases List.mem_cons.1 hp with rfl | hp
    · exact ⟨hb, T, f, by rw [hat, if_pos rfl], by simpa using hf⟩
    · obtain ⟨h1, T', f', e', hf'⟩ := O.blk p (List.mem_cons_of_mem _ hp)
      refine ⟨h1, T', f', ?_, hf'⟩
      rw [hat, if_neg]
      · exact e'
      · intro hbb
        simp only at hbb
        exact hd.1 (List.mem_map.2 ⟨p, hp, hbb.symm⟩)
  · rw [List.map_cons, List.nodup_cons]; exact hd
theorem Held.wr {h0 h : Heap} {E : Blks} {b o : Nat} {cs : List Value} {v : Value} (O : Held h0 h ((b, cs) :: E)) (ho : o < cs.length) (hv : oneV v = true) : wr h (pt b o) v := by
  obtain ⟨hb, B⟩ := O.blk _ (List.mem_cons_self)
  refine ⟨hv, ⟨cs[o], by rw [cellH_blk B]; simp [ho]⟩, ?_⟩
  obtain ⟨T, f, e, hf⟩ := B
  simp only [frozenH, e]
  simp only [Bool.and_eq_false_iff, decide_eq_false_iff_not]
  simp only at hf
  omega
theorem Held.st {h0 : Heap} {E : Blks} {b : Nat} : ∀ {vs : List Value} {h : Heap} {o : Nat} {cs : List Value} {K : Heap → Prop} (O : Held h0 h ((b, cs) :: E)) (ho : o + vs.length ≤ cs.length) (hv : vs.all oneV = true)
    (k : ∀ h', Held h0 h' ((b, V.put cs o vs) :: E) → K h'), st (pt b o) vs h K
  | [], h, o, cs, K, O, ho, hv, k => k h (by rw [put_nil]; exact O)
  | v :: vs, h, o, cs, K, O, ho, hv, k => by
    simp only [List.length_cons] at ho
    simp only [List.all_cons, Bool.and_eq_true] at hv
    refine ⟨O.wr (by omega) hv.1, ?_⟩
    rw [pt_add]
    refine Held.st O.set (by simp; omega) hv.2 ?_
    intro h' O'
    refine k h' ?_
    rw [put_cons _ _ _ _ (by omega)]
    exact O'

theorem Held.mark {h0 h : Heap} {E : Blks} {b : Nat} {cs : List Value} (O : Held h0 h ((b, cs) :: E)) : (∃ T f, h[b]? = some (.cells cs.toArray T f)) ∧ Held h0 (markH h b cs.length) ((b, cs) :: E) := by
  obtain ⟨hb, B⟩ := O.blk _ (List.mem_cons_self)
  obtain ⟨T, f, e, hf⟩ := B
  refine ⟨⟨T, f, e⟩, ?_⟩
  have hat : ∀ k, (markH h b cs.length)[k]? = if b = k then some (.cells cs.toArray T (if f.1 == f.2 then (cs.length, cs.length + 1) else (min f.1 cs.length, max f.2 (cs.length + 1)))) else h[k]? := by
    intro k
    unfold markH
    rw [Array.getElem?_modify]
    split
    · rename_i hk; subst hk; rw [show h[b]? = _ from e]; rfl
    · rfl
  have hd := O.dis
  rw [List.map_cons, List.nodup_cons] at hd
  refine ⟨⟨?_, fun k hk => ?_⟩, ?_, O.dis⟩
  · have := O.kept.size; simpa [markH] using this
  · rw [hat, if_neg (by simp at hb; omega)]; exact O.kept.at_ k hk
  · intro p hp
    rcases List.mem_cons.1 hp with rfl | hp
    · refine ⟨hb, T, _, by rw [hat, if_pos rfl], ?_⟩
      by_cases h1 : f.1 = f.2
      · rw [if_pos (by simpa using h1)]; exact .inr (Nat.le_refl _)
      · rw [if_neg (by simpa using h1)]
        refine .inr ?_
        have h1 : ¬ f.1 = f.2 := h1
        rcases hf with hf | hf
        · exact absurd hf h1
        · have hf : cs.length ≤ f.1 := hf
          show cs.length ≤ min f.1 cs.length
          omega
    · obtain ⟨h1, T', f', e', hf'⟩ := O.blk p (List.mem_cons_of_mem _ hp)
      refine ⟨h1, T', f', ?_, hf'⟩
      rw [hat, if_neg]
      · exact e'
      · intro hbb
        exact hd.1 (List.mem_map.2 ⟨p, hp, hbb.symm⟩)
abbrev Res := Blks → Prop
def emp : Res := fun E => E = []
def own (b : Nat) (cs : List Value) : Res := fun E => E = [(b, cs)]
def sep (A B : Res) : Res := fun E => ∃ E1 E2, E.Perm (E1 ++ E2) ∧ A E1 ∧ B E2
/-- Under a condition. -/
def pr (p : Prop) (A : Res) : Res := fun E => p ∧ A E
def ex {α : Sort _} (A : α → Res) : Res := fun E => ∃ x, A x E
def star : List Res → Res
  | [] => emp
  | A :: L => sep A (star L)
/-- All that was there is as it was; beside it, each by itself, the list's resources. -/
def Sat (h0 h : Heap) (L : List Res) : Prop := ∃ E, star L E ∧ Held h0 h E
theorem Sat.nil (h : Heap) : Sat h h [] := ⟨[], rfl, Held.none h⟩
theorem Sat.kept {h0 h : Heap} {L : List Res} (O : Sat h0 h L) : KeptH h0 h := by obtain ⟨E, _, O⟩ := O; exact O.kept
theorem Sat.mono {h0 h : Heap} {A B : Res} {L : List Res} (O : Sat h0 h (A :: L)) (i : ∀ E, A E → B E) : Sat h0 h (B :: L) := by
  obtain ⟨E, ⟨E1, E2, p, h1, h2⟩, O⟩ := O
  exact ⟨E, ⟨E1, E2, p, i _ h1, h2⟩, O⟩
theorem Sat.ex {h0 h : Heap} {α : Sort _} {A : α → Res} {L : List Res} (O : Sat h0 h (V.ex A :: L)) : ∃ x, Sat h0 h (A x :: L) := by
  obtain ⟨E, ⟨E1, E2, p, ⟨x, h1⟩, h2⟩, O⟩ := O
  exact ⟨x, E, ⟨E1, E2, p, h1, h2⟩, O⟩
theorem Sat.exI {h0 h : Heap} {α : Sort _} {A : α → Res} {L : List Res} (x : α) (O : Sat h0 h (A x :: L)) : Sat h0 h (V.ex A :: L) := O.mono fun E h => ⟨x, h⟩
theorem Sat.pr {h0 h : Heap} {p : Prop} {A : Res} {L : List Res} (O : Sat h0 h (V.pr p A :: L)) : p ∧ Sat h0 h (A :: L) := by
  obtain ⟨E, ⟨E1, E2, q, ⟨hp, h1⟩, h2⟩, O⟩ := O
  exact ⟨hp, E, ⟨E1, E2, q, h1, h2⟩, O⟩
theorem Sat.prI {h0 h : Heap} {p : Prop} {A : Res} {L : List Res} (hp : p) (O : Sat h0 h (A :: L)) : Sat h0 h (V.pr p A :: L) := O.mono fun E h => ⟨hp, h⟩
theorem perm_cons_app {E E1 E2 F1 F2 : Blks} (p : E.Perm (E1 ++ E2)) (q : E2.Perm (F1 ++ F2)) : E.Perm (F1 ++ (E1 ++ F2)) :=
  p.trans ((List.Perm.append_left _ q).trans (by
    rw [← List.append_assoc, ← List.append_assoc]
    exact List.perm_append_comm.append_right _))
theorem Sat.sep {h0 h : Heap} {A B : Res} {L : List Res} (O : Sat h0 h (V.sep A B :: L)) : Sat h0 h (A :: B :: L) := by
  obtain ⟨E, ⟨E1, E2, p, ⟨F1, F2, q, hA, hB⟩, h2⟩, O⟩ := O
  exact ⟨E, ⟨F1, F2 ++ E2, p.trans ((q.append_right _).trans (by rw [List.append_assoc])), hA, F2, E2, List.Perm.refl _, hB, h2⟩, O⟩
theorem Sat.sepI {h0 h : Heap} {A B : Res} {L : List Res} (O : Sat h0 h (A :: B :: L)) : Sat h0 h (V.sep A B :: L) := by
  obtain ⟨E, ⟨E1, E2, p, hA, F1, F2, q, hB, h2⟩, O⟩ := O
  exact ⟨E, ⟨E1 ++ F1, F2, p.trans ((q.append_left _).trans (by rw [List.append_assoc])), ⟨E1, F1, List.Perm.refl _, hA, hB⟩, h2⟩, O⟩
theorem Sat.emp {h0 h : Heap} {L : List Res} (O : Sat h0 h (V.emp :: L)) : Sat h0 h L := by
  obtain ⟨E, ⟨E1, E2, p, rfl, h2⟩, O⟩ := O
  exact ⟨E2, h2, O.perm p.symm⟩
theorem Sat.empI {h0 h : Heap} {L : List Res} (O : Sat h0 h L) : Sat h0 h (V.emp :: L) := by
  obtain ⟨E, h2, O⟩ := O
  exact ⟨E, ⟨[], E, List.Perm.refl _, rfl, h2⟩, O⟩
theorem Sat.drop {h0 h : Heap} {A : Res} {L : List Res} (O : Sat h0 h (A :: L)) : Sat h0 h L := by
  obtain ⟨E, ⟨E1, E2, p, _, h2⟩, O⟩ := O
  exact ⟨E2, h2, (O.perm p.symm).sub (List.sublist_append_right _ _)⟩
theorem Sat.swap {h0 h : Heap} {A B : Res} {L : List Res} (O : Sat h0 h (A :: B :: L)) : Sat h0 h (B :: A :: L) := by
  obtain ⟨E, ⟨E1, E2, p, hA, F1, F2, q, hB, h2⟩, O⟩ := O
  exact ⟨E, ⟨F1, E1 ++ F2, perm_cons_app p q, hB, E1, F2, List.Perm.refl _, hA, h2⟩, O⟩

def nth : Nat → List Res → Res
  | 0, A :: _ => A
  | i + 1, _ :: L => nth i L
  | _, [] => emp
theorem star_at : ∀ (i : Nat) {L : List Res} {E : Blks}, i < L.length → star L E → ∃ E1 E2, E.Perm (E1 ++ E2) ∧ nth i L E1 ∧ ∀ (B : Res) F, B F → star (L.set i B) (F ++ E2)
  | _, [], _, hi, _ => by simp at hi
  | 0, A :: L, E, _, ⟨E1, E2, p, hA, h2⟩ => ⟨E1, E2, p, hA, fun B F hB => ⟨F, E2, List.Perm.refl _, hB, h2⟩⟩
  | i + 1, A :: L, E, hi, ⟨E1, E2, p, hA, h2⟩ => by
    obtain ⟨F1, F2, q, h3, h4⟩ := star_at i (L := L) (by simpa using hi) h2
    refine ⟨F1, E1 ++ F2, perm_cons_app p q, h3, fun B F hB => ⟨E1, F ++ F2, ?_, hA, h4 B F hB⟩⟩
    rw [← List.append_assoc, ← List.append_assoc]
    exact List.perm_append_comm.append_right _
theorem Sat.at {h0 h : Heap} {L : List Res} (O : Sat h0 h L) (i : Nat) (hi : i < L.length) : ∃ E1 E2, nth i L E1 ∧ Held h0 h (E1 ++ E2) ∧ ∀ (B : Res) F h', B F → Held h0 h' (F ++ E2) → Sat h0 h' (L.set i B) := by
  obtain ⟨E, hs, O⟩ := O
  obtain ⟨E1, E2, p, h1, h2⟩ := star_at i hi hs
  exact ⟨E1, E2, h1, O.perm p.symm, fun B F h' hB O' => ⟨F ++ E2, h2 B F hB, O'⟩⟩
/-- Resources chosen by their places, and all from a place on. -/
def selT (is : List Nat) (n : Nat) (L : List Res) : List Res := is.map (nth · L) ++ L.drop n
theorem star_pairs : ∀ {L : List Res} {E : Blks}, star L E ↔ ∃ Ps : List (Res × Blks), Ps.map (·.1) = L ∧ (∀ p ∈ Ps, p.1 p.2) ∧ E.Perm (Ps.flatMap (·.2))
  | [], E => by
    constructor
    · intro h; exact ⟨[], rfl, by simp, by rw [show E = [] from h]; exact List.Perm.refl _⟩
    · rintro ⟨Ps, h1, h2, h3⟩
      simp at h1; subst h1; simp at h3; exact h3
  | A :: L, E => by
    constructor
    · rintro ⟨E1, E2, p, hA, h2⟩
      obtain ⟨Ps, h3, h4, h5⟩ := star_pairs.1 h2
      refine ⟨(A, E1) :: Ps, by simp [h3], ?_, ?_⟩
      · intro q hq; rcases List.mem_cons.1 hq with rfl | hq; exact hA; exact h4 q hq
      · rw [List.flatMap_cons]; exact p.trans (h5.append_left _)
    · rintro ⟨Ps, h1, h2, h3⟩
      cases Ps with
      | nil => simp at h1
      | cons q Ps =>
        simp only [List.map_cons, List.cons.injEq] at h1
        obtain ⟨rfl, rfl⟩ := h1
        rw [List.flatMap_cons] at h3
        exact ⟨q.2, _, h3, h2 q List.mem_cons_self, star_pairs.2 ⟨Ps, rfl, fun p hp => h2 p (List.mem_cons_of_mem _ hp), List.Perm.refl _⟩⟩
theorem sel_aux {α : Type _} : ∀ (is : List Nat) (Ps : List α), is.Nodup → (∀ i ∈ is, i < Ps.length) → ∃ R, (is.filterMap (fun i => Ps.zipIdx[i]?) ++ R).Perm Ps.zipIdx
  | [], Ps, _, _ => ⟨Ps.zipIdx, by simp⟩
  | i :: is, Ps, hn, hi => by
    rw [List.nodup_cons] at hn
    obtain ⟨R, p⟩ := sel_aux is Ps hn.2 fun j hj => hi j (List.mem_cons_of_mem _ hj)
    have hil := hi i List.mem_cons_self
    have hq : Ps.zipIdx[i]? = some (Ps[i], i) := by simp [hil]
    have hm : (Ps[i], i) ∈ Ps.zipIdx := List.mem_of_getElem? hq
    rcases List.mem_append.1 (p.symm.subset hm) with h | h
    · obtain ⟨j, hj, e⟩ := List.mem_filterMap.1 h
      have hjl := hi j (List.mem_cons_of_mem _ hj)
      simp [hjl] at e
      rw [e.2] at hj
      exact absurd hj hn.1
    · obtain ⟨s, t, rfl⟩ := List.append_of_mem h
      refine ⟨s ++ t, ?_⟩
      rw [List.filterMap_cons, hq]
      refine List.Perm.trans ?_ p
      simp only [List.cons_append]
      rw [← List.append_assoc, ← List.append_assoc]
      exact List.perm_middle.symm
theorem nth_map : ∀ (Ps : List (Res × Blks)) (i : Nat) (hi : i < Ps.length), nth i (Ps.map (·.1)) = (Ps[i]).1
  | [], i, hi => by simp at hi
  | p :: Ps, 0, hi => rfl
  | p :: Ps, i + 1, hi => nth_map Ps i (by simpa using hi)
theorem filterMap_idx {α : Type _} (Ps : List α) (is : List Nat) (hi : ∀ i ∈ is, i < Ps.length) : (is.filterMap (fun i => Ps.zipIdx[i]?)).map (·.1) = is.filterMap (fun i => Ps[i]?) := by
  rw [List.map_filterMap]
  congr 1
  funext i
  simp [Function.comp_def]
theorem filterMap_nth (Ps : List (Res × Blks)) : ∀ (is : List Nat), (∀ i ∈ is, i < Ps.length) → (is.filterMap (fun i => Ps[i]?)).map (·.1) = is.map (nth · (Ps.map (·.1)))
  | [], _ => rfl
  | i :: is, hi => by
    have hil := hi i List.mem_cons_self
    simp only [List.filterMap_cons, List.getElem?_eq_getElem hil, List.map_cons, nth_map Ps i hil]
    congr 1
    exact filterMap_nth Ps is fun j hj => hi j (List.mem_cons_of_mem _ hj)
theorem filterMap_range' {α : Type _} : ∀ (k n : Nat) (Ps : List α), n + k = Ps.length → (List.range' n k).filterMap (fun i => Ps[i]?) = Ps.drop n
  | 0, n, Ps, h => by simp; omega
  | k + 1, n, Ps, h => by
    rw [List.range'_succ, List.filterMap_cons, List.getElem?_eq_getElem (by omega)]
    simp only
    rw [filterMap_range' k (n + 1) Ps (by omega), List.drop_eq_getElem_cons (i := n) (by omega)]
def okSel (is : List Nat) (n : Nat) : Bool := decide is.Nodup && is.all (fun i => decide (i < n))
theorem Sat.sel {h0 h : Heap} {L : List Res} (O : Sat h0 h L) (is : List Nat) (n : Nat) (c : okSel is n = true) (hl : n ≤ L.length) : Sat h0 h (selT is n L) := by
  obtain ⟨E, hs, O⟩ := O
  obtain ⟨Ps, rfl, h1, h2⟩ := star_pairs.1 hs
  simp only [okSel, Bool.and_eq_true, decide_eq_true_eq, List.all_eq_true] at c
  rw [List.length_map] at hl
  have hb : ∀ i ∈ is ++ List.range' n (Ps.length - n), i < Ps.length := by
    intro i hi
    rcases List.mem_append.1 hi with hi | hi
    · have := c.2 i hi; omega
    · have := List.mem_range'_1.1 hi; omega
  obtain ⟨R, p⟩ := sel_aux (is ++ List.range' n (Ps.length - n)) Ps (List.nodup_append.2 ⟨c.1, List.nodup_range', fun i hi j hj => by
    have := c.2 i hi
    have := List.mem_range'_1.1 hj
    omega⟩) hb
  have p1 := p.map (·.1)
  rw [List.map_append, filterMap_idx Ps _ hb, List.filterMap_append, filterMap_range' _ _ _ (by omega), show Ps.zipIdx.map (·.1) = Ps by simp] at p1
  have p2 := p1.flatMap_right (·.2)
  rw [List.flatMap_append] at p2
  have hsel : ∀ q ∈ is.filterMap (fun i => Ps[i]?) ++ Ps.drop n, q ∈ Ps := fun q hq => p1.subset (List.mem_append.2 (.inl hq))
  refine ⟨_, star_pairs.2 ⟨is.filterMap (fun i => Ps[i]?) ++ Ps.drop n, ?_, fun q hq => h1 q (hsel q hq), List.Perm.refl _⟩, (O.perm (p2.trans h2.symm)).sub (List.sublist_append_left _ _)⟩
  rw [List.map_append, filterMap_nth Ps is fun i hi => hb i (List.mem_append.2 (.inl hi)), selT, List.map_drop]
/-- What was made over a heap, beside what was there. -/
theorem Sat.stack {h0 h h' : Heap} {L M : List Res} (O : Sat h0 h L) (N : Sat h h' M) : Sat h0 h' (M ++ L) := by
  obtain ⟨E, hs, O⟩ := O
  obtain ⟨F, ht, N⟩ := N
  obtain ⟨Ps, rfl, h1, h2⟩ := star_pairs.1 hs
  obtain ⟨Qs, rfl, h3, h4⟩ := star_pairs.1 ht
  refine ⟨F ++ E, star_pairs.2 ⟨Qs ++ Ps, by simp, ?_, ?_⟩, O.kept.trans N.kept, ?_, ?_⟩
  · intro p hp; rcases List.mem_append.1 hp with hp | hp; exact h3 p hp; exact h1 p hp
  · rw [List.flatMap_append]; exact h4.append h2
  · intro p hp
    rcases List.mem_append.1 hp with hp | hp
    · obtain ⟨a, b⟩ := N.blk p hp
      exact ⟨Nat.le_trans O.kept.size a, b⟩
    · obtain ⟨a, b⟩ := O.blk p hp
      refine ⟨a, ?_⟩
      have hlt := b.lt
      obtain ⟨T, f, e, hf⟩ := b
      exact ⟨T, f, by rw [N.kept.at_ _ hlt]; exact e, hf⟩
  · rw [List.map_append, List.nodup_append]
    refine ⟨N.dis, O.dis, ?_⟩
    intro a ha b hb
    obtain ⟨p, hp, rfl⟩ := List.mem_map.1 ha
    obtain ⟨q, hq, rfl⟩ := List.mem_map.1 hb
    have := (N.blk p hp).1
    have := (O.blk q hq).2.lt
    omega
theorem Sat.kept2 {h0 h h' : Heap} {L : List Res} (O : Sat h0 h L) (k : KeptH h h') : Sat h0 h' L := by
  have := O.stack (M := []) (h' := h') ⟨[], rfl, ⟨k, by simp, by simp⟩⟩
  exact this
theorem Sat.app {h0 h : Heap} {L M : List Res} (O : Sat h0 h (L ++ M)) : Sat h0 h M := by
  induction L with
  | nil => exact O
  | cons A L ih => exact ih O.drop

theorem Sat.push {h0 h : Heap} {L : List Res} (O : Sat h0 h L) (cs : List Value) (T : TypeId) (f : Nat × Nat) (hf : f.1 = f.2 ∨ cs.length ≤ f.1) : Sat h0 (h.push (.cells cs.toArray T f)) (own h.size cs :: L) := by
  obtain ⟨E, hs, O⟩ := O
  exact ⟨_, ⟨[(h.size, cs)], E, List.Perm.refl _, rfl, hs⟩, O.push cs T f hf⟩
theorem Sat.al {h0 h : Heap} {L : List Res} {T : TypeId} {cs : List Value} {K : Addr → Heap → Prop} (O : Sat h0 h L) (k : ∀ b h', Sat h0 h' (own b cs :: L) → K (pt b 0) h') : al T cs h K :=
  k h.size _ (O.push cs T (0, 0) (.inl rfl))
theorem Sat.blk {h0 h : Heap} {L : List Res} (O : Sat h0 h L) {i b : Nat} {cs : List Value} (hl : i < L.length) (hi : nth i L = own b cs) : h0.size ≤ b ∧ Blk h b cs := by
  obtain ⟨E1, E2, h1, O', _⟩ := O.at i hl
  rw [hi] at h1
  rw [show E1 = [(b, cs)] from h1] at O'
  exact O'.blk _ List.mem_cons_self
theorem Blk.ld {h : Heap} {b o : Nat} {cs : List Value} (B : Blk h b cs) {ks : List Kd} {K : Fn ks Prop} (hl : ldL ks (cs.drop o) K) : ld ks (pt b o) h K := by
  have := cellsAre_blk B o (cs.drop o).length
  rw [List.take_length] at this
  exact ld_are this hl
theorem nth_lt : ∀ {i : Nat} {L : List Res} {b : Nat} {cs : List Value}, nth i L = own b cs → i < L.length
  | 0, _ :: _, _, _, _ => by simp
  | i + 1, _ :: L, _, _, h => by have := nth_lt (i := i) (L := L) h; simpa using this
  | 0, [], b, cs, h => by
    have := congrFun h []
    simp [nth, emp, own] at this
  | i + 1, [], b, cs, h => by
    have := congrFun h []
    simp [nth, emp, own] at this
theorem Sat.ld {h0 h : Heap} {L : List Res} (O : Sat h0 h L) (i : Nat) {b o : Nat} {cs : List Value} {ks : List Kd} {K : Fn ks Prop} (hi : nth i L = own b cs) (hl : ldL ks (cs.drop o) K) : ld ks (pt b o) h K :=
  (O.blk (nth_lt hi) hi).2.ld hl
theorem Sat.st {h0 h : Heap} {L : List Res} (O : Sat h0 h L) (i : Nat) {b o : Nat} {cs vs : List Value} {K : Heap → Prop} (hi : nth i L = own b cs) (ho : o + vs.length ≤ cs.length) (hv : vs.all oneV = true)
    (k : ∀ h', Sat h0 h' (L.set i (own b (V.put cs o vs))) → K h') : st (pt b o) vs h K := by
  obtain ⟨E1, E2, h1, O', h2⟩ := O.at i (nth_lt hi)
  rw [hi] at h1
  rw [show E1 = [(b, cs)] from h1] at O'
  exact Held.st O' ho hv fun h' O'' => k h' (h2 _ [(b, V.put cs o vs)] h' rfl O'')
theorem Sat.frz {h0 h : Heap} {L : List Res} {b o : Nat} {cs : List Value} {K : Heap → Prop} (O : Sat h0 h (own b cs :: L)) (k : ∀ h', Sat h0 h' (own b cs :: L) → K h') : V.frz (some (pt b o)) h K := by
  obtain ⟨E, ⟨E1, E2, p, hA, h2⟩, O⟩ := O
  have hA' : E1 = [(b, cs)] := hA
  subst hA'
  obtain ⟨⟨T, f, e⟩, O'⟩ := (O.perm p.symm).mark
  refine ⟨_, _, T, f, rfl, e, ?_⟩
  rw [show cs.toArray.size = cs.length by simp]
  exact k _ ⟨_, ⟨[(b, cs)], E2, List.Perm.refl _, rfl, h2⟩, O'⟩
end Go.Proofs.Ytcbelendjpnmiaa.V
/-
  LISTS IN MEMORY: lists that can be read ('View'), slices that are a part's own ('bufs', 'buf'); making, appending, copying, slicing.
-/
namespace Go.Proofs.Ytcbelendjpnmiaa.V
open Go Go.RowKit
set_option linter.unusedVariables false
set_option linter.unusedSimpArgs false

variable {α β : Type}
/-- A slice whose elements can be read: each in so many cells. -/
def View (h : Heap) (sz : Nat) (R : α → List Value → Prop) (s : Sl) (xs : List α) : Prop :=
  s.len = xs.length ∧ ∀ i x, xs[i]? = some x → ∃ a cs, s.ptr = some a ∧ cs.length = sz ∧ R x cs ∧ cellsAre h (a.add (i * sz)) cs
abbrev En (enc : α → List Value) : α → List Value → Prop := fun x cs => cs = enc x
def u8 (x : UInt8) : List Value := [.int .u8 (x.toNat : Int)]
abbrev Bytes (h : Heap) (s : Sl) (l : List UInt8) : Prop := View h 1 (En u8) s l
theorem View.mono {h h' : Heap} {sz : Nat} {R R' : α → List Value → Prop} {s : Sl} {xs : List α} (V : View h sz R s xs) (k : KeptH h h') (hR : ∀ x ∈ xs, ∀ cs, R x cs → R' x cs) : View h' sz R' s xs := by
  refine ⟨V.1, fun i x hx => ?_⟩
  obtain ⟨a, cs, h1, h2, h3, h4⟩ := V.2 i x hx
  exact ⟨a, cs, h1, h2, hR x (List.mem_of_getElem? hx) cs h3, cellsAre_kept k h4⟩
theorem View.kept {h h' : Heap} {sz : Nat} {R : α → List Value → Prop} {s : Sl} {xs : List α} (V : View h sz R s xs) (k : KeptH h h') : View h' sz R s xs := V.mono k fun _ _ _ h => h
theorem View.nil {h : Heap} {sz : Nat} {R : α → List Value → Prop} {p : Option Addr} {c : Nat} : View h sz R ⟨p, 0, c⟩ ([] : List α) := ⟨rfl, by simp⟩
theorem View.len {h : Heap} {sz : Nat} {R : α → List Value → Prop} {s : Sl} {xs : List α} (V : View h sz R s xs) : s.len = xs.length := V.1
theorem cellsAre_drop {h : Heap} : ∀ {cs : List Value} {a : Addr} (o : Nat), cellsAre h a cs → cellsAre h (a.add o) (cs.drop o)
  | cs, a, 0, hc => by rw [Addr.add_zero']; simpa using hc
  | [], a, o + 1, hc => by simp [cellsAre]
  | v :: vs, a, o + 1, hc => by
    have := cellsAre_drop (a := a.add 1) o hc.2
    rwa [Addr_add_add, Nat.add_comm] at this
theorem ld_drop {h : Heap} {cs : List Value} {a : Addr} {ks : List Kd} {K : Fn ks Prop} (c : cellsAre h a cs) (o : Nat) (hl : ldL ks (cs.drop o) K) : ld ks (a.add o) h K := ld_are (cellsAre_drop o c) hl
/-- An element's place. -/
theorem View.ix {h : Heap} {sz : Nat} {R : α → List Value → Prop} {s : Sl} {xs : List α} {i : Int} {K : Addr → Prop} (V : View h sz R s xs) (h0 : 0 ≤ i) (h1 : i < (xs.length : Int))
    (k : ∀ a cs x, xs[i.toNat]? = some x → cs.length = sz → R x cs → cellsAre h a cs → K a) : ixS sz s i K := by
  have hi : i.toNat < xs.length := by omega
  obtain ⟨a, cs, h2, h3, h4, h5⟩ := V.2 i.toNat _ (List.getElem?_eq_getElem hi)
  refine ⟨a, h2, h0, by rw [V.1]; exact h1, ?_⟩
  exact k _ cs _ (List.getElem?_eq_getElem hi) h3 h4 h5
/-- One byte. -/
theorem Bytes.at {h : Heap} {s : Sl} {l : List UInt8} {i : Int} {K : Int → Prop} (V : Bytes h s l) (h0 : 0 ≤ i) (h1 : i < (l.length : Int)) (k : ∀ x, l[i.toNat]? = some x → K (x.toNat : Int)) : ixS 1 s i fun a => ld [.int .u8] a h K :=
  V.ix h0 h1 fun a cs x hx hl hR hc => by
    subst hR
    exact ld_are hc ⟨_, rfl, k x hx⟩
theorem cellsAre_nil {h : Heap} {a : Addr} : cellsAre h a [] := trivial
theorem View.cells {h : Heap} {sz : Nat} {R : α → List Value → Prop} {s : Sl} : ∀ {xs : List α} {o : Nat}, (∀ (i : Nat) x, xs[i]? = some x → ∃ a cs, s.ptr = some a ∧ cs.length = sz ∧ R x cs ∧ cellsAre h (a.add ((o + i) * sz)) cs) →
    ∀ a, s.ptr = some a → ∃ css : List (List Value), css.length = xs.length ∧ (∀ (i : Nat) x cs, xs[i]? = some x → css[i]? = some cs → cs.length = sz ∧ R x cs) ∧ cellsAre h (a.add (o * sz)) css.flatten
  | [], o, _, a, _ => ⟨[], rfl, by simp, trivial⟩
  | x :: xs, o, V, a, ha => by
    obtain ⟨a', cs, h1, h2, h3, h4⟩ := V 0 x rfl
    rw [ha] at h1; simp at h1; subst h1
    obtain ⟨css, h5, h6, h7⟩ := View.cells (h := h) (R := R) (s := s) (sz := sz) (xs := xs) (o := o + 1) (fun i y hy => by
      obtain ⟨a', cs, h1, h2, h3, h4⟩ := V (i + 1) y (by simpa using hy)
      exact ⟨a', cs, h1, h2, h3, by rw [show o + 1 + i = o + (i + 1) by omega]; exact h4⟩) a ha
    refine ⟨cs :: css, by simp [h5], ?_, ?_⟩
    · intro i y ds hy hd
      cases i with
      | zero => simp at hy hd; subst hy; subst hd; exact ⟨h2, h3⟩
      | succ i => exact h6 i y ds (by simpa using hy) (by simpa using hd)
    · rw [List.flatten_cons]
      refine cellsAre_append (by simpa using h4) ?_
      rw [Addr_add_add, h2, show o * sz + sz = (o + 1) * sz by rw [Nat.add_mul, Nat.one_mul]]
      exact h7
theorem flatten_enc {enc : α → List Value} : ∀ {xs : List α} {css : List (List Value)}, css.length = xs.length → (∀ (i : Nat) x cs, xs[i]? = some x → css[i]? = some cs → cs = enc x) → css.flatten = xs.flatMap enc
  | [], [], _, _ => rfl
  | [], _ :: _, h, _ => by simp at h
  | _ :: _, [], h, _ => by simp at h
  | x :: xs, c :: css, h, k => by
    rw [List.flatten_cons, List.flatMap_cons, k 0 x c rfl rfl, flatten_enc (by simpa using h) fun i y cs hy hc => k (i + 1) y cs (by simpa using hy) (by simpa using hc)]
theorem flatMap_len {enc : α → List Value} {sz : Nat} (he : ∀ x, (enc x).length = sz) : ∀ xs : List α, (xs.flatMap enc).length = xs.length * sz
  | [] => by simp
  | x :: xs => by rw [List.flatMap_cons, List.length_append, he, flatMap_len he xs, List.length_cons, Nat.add_mul, Nat.one_mul, Nat.add_comm]
/-- All its cells, in a row. -/
theorem View.rd {h : Heap} {sz : Nat} {enc : α → List Value} {s : Sl} {xs : List α} (he : ∀ x, (enc x).length = sz) (V : View h sz (En enc) s xs) : rdP h s.ptr (s.len * sz) = some (xs.flatMap enc) := by
  rw [V.1, ← flatMap_len he]
  cases xs with
  | nil =>
    cases hp : s.ptr with
    | none => rfl
    | some a => rfl
  | cons x xs =>
    obtain ⟨a, cs, h1, _⟩ := V.2 0 x rfl
    obtain ⟨css, h2, h3, h4⟩ := View.cells (h := h) (R := En enc) (s := s) (sz := sz) (xs := x :: xs) (o := 0) (fun i y hy => by
      obtain ⟨a, cs, k1, k2, k3, k4⟩ := V.2 i y hy
      exact ⟨a, cs, k1, k2, k3, by rw [Nat.zero_add]; exact k4⟩) a h1
    rw [h1]
    have e := flatten_enc (enc := enc) h2 fun i y cs hy hc => (h3 i y cs hy hc).2
    rw [e, Nat.zero_mul, Addr.add_zero'] at h4
    exact rdL_are h4
theorem rdL_take {h : Heap} : ∀ {cs : List Value} {a : Addr} (n : Nat), n ≤ cs.length → cellsAre h a cs → rdL h a n = some (cs.take n)
  | cs, a, n, hn, hc => by
    have := rdL_are (cellsAre_take n hc)
    rwa [List.length_take, Nat.min_eq_left hn] at this
/-- The first so many elements' cells. -/
theorem View.rdn {h : Heap} {sz : Nat} {enc : α → List Value} {s : Sl} {xs : List α} (he : ∀ x, (enc x).length = sz) (V : View h sz (En enc) s xs) (n : Nat) (hn : n ≤ xs.length) : rdP h s.ptr (n * sz) = some ((xs.take n).flatMap enc) := by
  have : View h sz (En enc) ⟨s.ptr, n, n⟩ (xs.take n) := by
    refine ⟨by simp [hn], fun i x hx => ?_⟩
    rw [List.getElem?_take] at hx
    split at hx
    · exact V.2 i x hx
    · simp at hx
  exact this.rd he
theorem View.slice {h : Heap} {sz : Nat} {R : α → List Value → Prop} {s : Sl} {xs : List α} (V : View h sz R s xs) (i j m : Nat) (hi : i ≤ j) (hj : j ≤ xs.length) (hc : s.len ≤ s.cap) : View h sz R ⟨slp sz s i, j - i, m⟩ ((xs.drop i).take (j - i)) := by
  refine ⟨by simp; omega, fun k x hx => ?_⟩
  rw [List.getElem?_take] at hx
  split at hx
  · rename_i hk
    rw [List.getElem?_drop] at hx
    obtain ⟨a, cs, h1, h2, h3, h4⟩ := V.2 (i + k) x hx
    have hl := V.1
    refine ⟨a.add (i * sz), cs, ?_, h2, h3, ?_⟩
    · unfold slp
      rw [if_neg (by omega), h1]; rfl
    · rw [Addr_add_add, ← Nat.add_mul]; exact h4
  · simp at hx
theorem View.take {h : Heap} {sz : Nat} {R : α → List Value → Prop} {s : Sl} {xs : List α} (V : View h sz R s xs) (j m : Nat) (hj : j ≤ xs.length) : View h sz R ⟨s.ptr, j, m⟩ (xs.take j) := by
  refine ⟨by simp [hj], fun k x hx => ?_⟩
  rw [List.getElem?_take] at hx
  split at hx
  · exact V.2 k x hx
  · simp at hx

def bufs (sz : Nat) (enc : α → List Value) (s : Sl) (xs : List α) (sp : List Value) : Res := fun E =>
  (s = ⟨none, 0, 0⟩ ∧ xs = [] ∧ sp = [] ∧ E = []) ∨ ∃ b k, s = ⟨some (pt b 0), xs.length, xs.length + k⟩ ∧ sp.length = k * sz ∧ E = [(b, xs.flatMap enc ++ sp)]
def buf (sz : Nat) (enc : α → List Value) (s : Sl) (xs : List α) : Res := ex fun sp => bufs sz enc s xs sp
theorem bufs.lens {sz : Nat} {enc : α → List Value} {s : Sl} {xs : List α} {sp : List Value} {E : Blks} (h : bufs sz enc s xs sp E) : s.len = xs.length ∧ s.len ≤ s.cap := by
  rcases h with ⟨rfl, rfl, _, _⟩ | ⟨b, k, rfl, _, _⟩ <;> simp
theorem nth_mem : ∀ {i : Nat} {L : List Res}, i < L.length → nth i L ∈ L
  | 0, A :: _, _ => by simp [nth]
  | i + 1, _ :: L, h => by simp only [nth]; exact List.mem_cons_of_mem _ (nth_mem (by simpa using h))
  | _, [], h => by simp at h
theorem flat_at {enc : α → List Value} {sz : Nat} (he : ∀ x, (enc x).length = sz) : ∀ {xs : List α} {i : Nat} {x : α} (sp : List Value), xs[i]? = some x → ((xs.flatMap enc ++ sp).drop (i * sz)).take sz = enc x
  | [], i, x, _, h => by simp at h
  | y :: ys, 0, x, sp, h => by
    simp at h; subst h
    rw [List.flatMap_cons, Nat.zero_mul, List.drop_zero, List.append_assoc, List.take_append_of_le_length (by rw [he]; exact Nat.le_refl _), List.take_of_length_le (by rw [he]; exact Nat.le_refl _)]
  | y :: ys, i + 1, x, sp, h => by
    have := flat_at he (xs := ys) (i := i) (x := x) sp (by simpa using h)
    rw [List.flatMap_cons, List.append_assoc, List.drop_append, List.drop_of_length_le (by rw [he, Nat.add_mul]; omega), he, List.nil_append, show (i + 1) * sz - sz = i * sz by rw [Nat.add_mul]; omega]
    exact this
theorem nth_set : ∀ {i : Nat} {L : List Res} (B : Res), i < L.length → nth i (L.set i B) = B
  | 0, _ :: _, _, _ => rfl
  | i + 1, _ :: L, B, h => nth_set (i := i) (L := L) B (by simpa using h)
  | _, [], _, h => by simp at h
theorem view_of_blk {h : Heap} {b k sz : Nat} {enc : α → List Value} (he : ∀ x, (enc x).length = sz) {xs : List α} {sp : List Value} (B : Blk h b (xs.flatMap enc ++ sp)) : View h sz (En enc) ⟨some (pt b 0), xs.length, k⟩ xs := by
  refine ⟨rfl, fun i x hx => ⟨_, _, rfl, he x, rfl, ?_⟩⟩
  rw [pt_add, Nat.zero_add, ← flat_at he sp hx]
  exact cellsAre_blk B _ _
theorem Sat.views {h0 h : Heap} {L : List Res} (O : Sat h0 h L) (i : Nat) {sz : Nat} {enc : α → List Value} {s : Sl} {xs : List α} {sp : List Value} (he : ∀ x, (enc x).length = sz) (hl : i < L.length) (hi : nth i L = bufs sz enc s xs sp) : View h sz (En enc) s xs ∧ s.len ≤ s.cap := by
  obtain ⟨E1, E2, h1, O', _⟩ := O.at i hl
  rw [hi] at h1
  refine ⟨?_, (bufs.lens h1).2⟩
  rcases h1 with ⟨rfl, rfl, rfl, rfl⟩ | ⟨b, k, rfl, hsp, rfl⟩
  · exact View.nil
  · exact view_of_blk he (O'.blk _ (List.mem_cons_self)).2
theorem Sat.view {h0 h : Heap} {L : List Res} (O : Sat h0 h L) (i : Nat) {sz : Nat} {enc : α → List Value} {s : Sl} {xs : List α} (he : ∀ x, (enc x).length = sz) (hl : i < L.length) (hi : nth i L = buf sz enc s xs) : View h sz (En enc) s xs ∧ s.len ≤ s.cap := by
  obtain ⟨E1, E2, h1, O', h2⟩ := O.at i hl
  rw [hi] at h1
  obtain ⟨sp, h1⟩ := h1
  have O2 := h2 (bufs sz enc s xs sp) E1 h h1 O'
  exact O2.views (sp := sp) i he (by simpa using hl) (nth_set _ hl)
/-- A view that stays, whatever becomes of the others. -/
def Stays (h0 : Heap) (L : List Res) (p : Heap → Prop) : Prop := ∀ h, Sat h0 h L → p h
theorem rdP_own {h0 h : Heap} {L : List Res} (O : Sat h0 h L) (i : Nat) {b : Nat} {cs : List Value} (hi : nth i L = own b cs) (n : Nat) (hn : n ≤ cs.length) : rdP h (some (pt b 0)) n = some (cs.take n) := by
  have := cellsAre_blk (O.blk (nth_lt hi) hi).2 0 cs.length
  rw [List.drop_zero, List.take_length] at this
  exact rdL_take n hn this
/-- A cell list is laid over the first of others. -/
theorem put_app : ∀ (us ss ns : List Value) , ns.length ≤ ss.length → V.put (us ++ ss) us.length ns = us ++ ns ++ ss.drop ns.length := by
  intro us ss ns h
  have := put_mid us (ss.take ns.length) (ss.drop ns.length) ns (by simp [h])
  rw [List.append_assoc, List.take_append_drop] at this
  exact this
/-- APPEND: one's own slice grows. -/
theorem Sat.app_buf {h0 h : Heap} {L : List Res} {sz bts T : Nat} {enc : α → List Value} {s : Sl} {xs : List α} {z : Value} {src : Option Addr} {m : Nat} {K : Sl → Heap → Prop} (O : Sat h0 h (buf sz enc s xs :: L))
    (he : ∀ x, (enc x).length = sz) (ho : ∀ x, (enc x).all oneV = true) (hz : z.cells.size = sz) {ys : List α} (hm : m = ys.length) (hr : rdP h src (m * sz) = some (ys.flatMap enc)) (hb : (xs.length + ys.length) * bts ≤ 140737488355328)
    (k : ∀ s' h', Sat h0 h' (buf sz enc s' (xs ++ ys) :: L) → s'.len = xs.length + ys.length → K s' h') : V.app T sz bts z s src m h K := by
  obtain ⟨sp, O⟩ := O.ex
  obtain ⟨E, ⟨E1, E2, p, hA, h2⟩, O⟩ := O
  have O := O.perm p.symm
  subst hm
  have hall : (ys.flatMap enc).all oneV = true := by simp only [List.all_eq_true, List.mem_flatMap]; rintro v ⟨x, _, hv⟩; exact List.all_eq_true.1 (ho x) v hv
  have hly : (ys.flatMap enc).length = ys.length * sz := flatMap_len he ys
  have hlx : (xs.flatMap enc).length = xs.length * sz := flatMap_len he xs
  have fresh : ∀ c, xs.length + ys.length ≤ c → Sat h0 (h.push (.cells (xs.flatMap enc ++ ys.flatMap enc ++ (Builtin.zeroCells z.cells (c - (xs.length + ys.length))).toList).toArray T)) (buf sz enc ⟨some (pt h.size 0), xs.length + ys.length, c⟩ (xs ++ ys) :: L) := by
    intro c hc
    have O' := (O.sub (List.sublist_append_right E1 E2)).push (xs.flatMap enc ++ ys.flatMap enc ++ (Builtin.zeroCells z.cells (c - (xs.length + ys.length))).toList) T (0, 0) (.inl rfl)
    refine ⟨_, ⟨[(h.size, (xs ++ ys).flatMap enc ++ (Builtin.zeroCells z.cells (c - (xs.length + ys.length))).toList)], E2, List.Perm.refl _, ⟨(Builtin.zeroCells z.cells (c - (xs.length + ys.length))).toList, .inr ⟨h.size, c - (xs.length + ys.length), ?_, ?_, rfl⟩⟩, h2⟩, ?_⟩
    · simp; omega
    · simp [Builtin.zeroCells, hz]
    · rw [List.flatMap_append]; exact O'
  refine ⟨_, hr, fun hcap => ?_, fun hcap => ⟨growslice_fits (by exact hcap) (by
    rcases hA with ⟨rfl, rfl, rfl, rfl⟩ | ⟨b, j, rfl, hsp, rfl⟩ <;> simpa using hb), ?_⟩⟩
  · rcases hA with ⟨rfl, rfl, rfl, rfl⟩ | ⟨b, j, rfl, hsp, rfl⟩
    · simp at hcap
      subst hcap
      refine k _ _ ⟨E2, ⟨[], E2, List.Perm.refl _, ⟨[], .inl ⟨by simp, by simp, rfl, rfl⟩⟩, h2⟩, O⟩ (by simp)
    · simp only [Option.map_some, stP, pt_add, Nat.zero_add]
      simp only at hcap
      have hj : ys.length ≤ j := by omega
      have hmul : ys.length * sz ≤ j * sz := Nat.mul_le_mul_right _ hj
      refine Held.st O (by simp [hlx, hly, hsp]; omega) hall fun h' O' => ?_
      rw [← hlx, put_app _ _ _ (by rw [hly, hsp]; exact hmul)] at O'
      refine k _ _ ⟨_, ⟨[(b, (xs ++ ys).flatMap enc ++ sp.drop (ys.flatMap enc).length)], E2, List.Perm.refl _, ⟨sp.drop (ys.flatMap enc).length, .inr ⟨b, j - ys.length, ?_, ?_, rfl⟩⟩, h2⟩, ?_⟩ rfl
      · simp; omega
      · rw [List.length_drop, hly, hsp, Nat.sub_mul]
      · rw [List.flatMap_append]; exact O'
  · rcases hA with ⟨rfl, rfl, rfl, rfl⟩ | ⟨b, j, rfl, hsp, rfl⟩
    · refine ⟨[], rfl, fun c hc => ?_⟩
      have := fresh c (by simpa using hc)
      simp only [List.length_nil, Nat.zero_add, List.nil_append, List.flatMap_nil] at this hc ⊢
      exact k _ _ this (by simp)
    · refine ⟨xs.flatMap enc, ?_, fun c hc => ?_⟩
      · simp only
        have := cellsAre_blk (O.blk _ (List.mem_cons_self)).2 0 (xs.flatMap enc ++ sp).length
        rw [List.drop_zero, List.take_length] at this
        simp only [rdP]
        have h3 := rdL_take (xs.length * sz) (by simp [hlx]) this
        rw [← hlx, List.take_left] at h3
        rw [← hlx]; exact h3
      · exact k _ _ (fresh c hc) rfl
/-- One value is appended. -/
theorem Sat.push_buf {h0 h : Heap} {L : List Res} {sz bts T T' : Nat} {enc : α → List Value} {s : Sl} {xs : List α} {z : Value} {K : Sl → Heap → Prop} (O : Sat h0 h (buf sz enc s xs :: L)) (y : α) {cs : List Value} (hcs : cs = enc y)
    (he : ∀ x, (enc x).length = sz) (ho : ∀ x, (enc x).all oneV = true) (hz : z.cells.size = sz) (hb : (xs.length + 1) * bts ≤ 140737488355328)
    (k : ∀ s' h', Sat h0 h' (buf sz enc s' (xs ++ [y]) :: L) → s'.len = xs.length + 1 → K s' h') : V.al T' cs h fun a h1 => V.app T sz bts z s (some a) 1 h1 K := by
  subst hcs
  refine O.al fun b h1 O1 => ?_
  have hr := rdP_own O1 0 rfl sz (by rw [he]; exact Nat.le_refl _)
  refine Sat.app_buf (O1.swap) he ho hz (ys := [y]) rfl (by rw [Nat.one_mul, hr]; simp; rw [List.take_of_length_le (by rw [he]; exact Nat.le_refl _)]) hb fun s' h' O' hl => k s' h' ?_ hl
  exact O'.swap.drop
/-- MAKE. -/
theorem mkCells_len {z : Value} {n : Nat} : (mkCells z n).length = n := by simp [mkCells]
theorem Sat.mk_buf {h0 h : Heap} {L : List Res} {T sz bts : Nat} {z : Value} {l c : Int} {K : Sl → Heap → Prop} (O : Sat h0 h L) (h1 : 0 ≤ l) (h2 : l ≤ c) (h3 : (bts : Int) * c ≤ 281474976710656)
    (k : ∀ b h', Sat h0 h' (own b (mkCells z (c.toNat * sz)) :: L) → K ⟨some (pt b 0), l.toNat, c.toNat⟩ h') : V.mk T sz bts z l c h K :=
  ⟨h1, h2, h3, k h.size _ (O.push _ T (0, 0) (.inl rfl))⟩
/-- A view over one's own block. -/
theorem Sat.own_buf {h0 h : Heap} {L : List Res} {b k sz : Nat} {enc : α → List Value} {xs : List α} {sp : List Value} (O : Sat h0 h (own b (xs.flatMap enc ++ sp) :: L)) (hsp : sp.length = k * sz) : Sat h0 h (bufs sz enc ⟨some (pt b 0), xs.length, xs.length + k⟩ xs sp :: L) :=
  O.mono fun E h => .inr ⟨b, k, rfl, hsp, h⟩
theorem Sat.bufsI {h0 h : Heap} {L : List Res} {sz : Nat} {enc : α → List Value} {s : Sl} {xs : List α} {sp : List Value} (O : Sat h0 h (bufs sz enc s xs sp :: L)) : Sat h0 h (buf sz enc s xs :: L) := O.exI sp
theorem Sat.nil_buf {h0 h : Heap} {L : List Res} {sz : Nat} {enc : α → List Value} (O : Sat h0 h L) : Sat h0 h (buf sz enc ⟨none, 0, 0⟩ [] :: L) := O.empI.mono fun E h => ⟨[], .inl ⟨rfl, rfl, rfl, h⟩⟩
end Go.Proofs.Ytcbelendjpnmiaa.V
/-
  WHAT AN ARGUMENT IS: from the form's reading of an argument ('trod') to typed cells ('Fits'), with bounds on lengths.
-/
namespace Go.Proofs.Ytcbelendjpnmiaa.V
open Go Go.RowKit
set_option linter.unusedVariables false
set_option linter.unusedSimpArgs false

/-- A slice that came in, of at most so many places. -/
def SlN (h : Heap) (N size bytes : Nat) (s : Sl) (E : List Value → Prop) : Prop :=
  (s.ptr = none ∧ s.len = 0 ∧ s.cap = 0) ∨
  ∃ a, s.ptr = some a ∧ s.len ≤ s.cap ∧ s.cap * bytes ≤ 140737488351232 ∧ s.cap ≤ N ∧ ∀ i, i < s.cap → ∃ cs, cs.length = size ∧ cellsAre h (a.add (i * size)) cs ∧ E cs
def RdN (P : Program) (h : Heap) (N : Nat) : Nat → TypeId → List Value → Prop
  | 0, _, _ => False
  | n + 1, t, cs => match P.underlying t with
    | some .bool => ∃ b, cs = [.bool b]
    | some (.int k) => ∃ x, cs = [.int k x] ∧ k.min ≤ x ∧ x ≤ k.max
    | some .string => ∃ s : ByteArray, cs = [.string s] ∧ s.size ≤ N
    | some (.slice e) => ∃ s : Sl, cs = [.slice s.ptr s.len s.cap] ∧ (0 < P.bytesOf e → SlN h N (P.cellsOf e) (P.bytesOf e) s fun cs => RdN P h N n e cs)
    | some (.struct fs) => cs.length = P.cellsOf t ∧ ∀ f ∈ fs.toList, RdN P h N n f.type ((cs.drop f.offset).take (P.cellsOf f.type))
    | some (.array m e) => cs.length = P.cellsOf t ∧ ∀ i, i < m → RdN P h N n e ((cs.drop (i * P.cellsOf e)).take (P.cellsOf e))
    | _ => True
section
variable {H : Type} {enc : TypeId × Value → H} {P : Program} {w : World}
/-- A bound that its parts bear too. -/
structure Bound (P : Program) (N : Nat) (B : TypeId → DataW H → Prop) : Prop where
  str : ∀ t b, P.underlying t = some .string → B t (.lit (.string b)) → b.length ≤ N
  sl : ∀ t e xs ys, P.underlying t = some (.slice e) → B t (.slice xs ys) → (xs.length + ys.length) * P.bytesOf e ≤ 140737488351232 ∧ (0 < P.bytesOf e → xs.length + ys.length ≤ N) ∧ (∀ d ∈ xs, B e d) ∧ ∀ d ∈ ys, B e d
  st : ∀ t fs ds, P.underlying t = some (.struct fs) → B t (.agg ds) → ∀ (i : Nat) f d, fs.toList[i]? = some f → ds[i]? = some d → B f.type d
  ar : ∀ t m e ds, P.underlying t = some (.array m e) → B t (.agg ds) → ∀ d ∈ ds, B e d
theorem bound_said {P : Program} : Bound (H := H) P 140737488351232 fun t d => ∀ x ∈ d.weights P t, x ≤ reachBytes := by
  refine ⟨?_, ?_, ?_, ?_⟩
  · intro t b hu h
    have := h b.length (by simp [DataW.weights])
    simpa [reachBytes] using this
  · intro t e xs ys hu h
    simp only [DataW.weights, hu] at h
    have h1 := h _ (List.mem_cons_self)
    simp only [reachBytes] at h1
    refine ⟨h1, fun hb => ?_, weightsAll_mem (p := (· ≤ reachBytes)) (fun x hx => h x (List.mem_cons_of_mem _ (List.mem_append.2 (.inl hx)))), weightsAll_mem (p := (· ≤ reachBytes)) (fun x hx => h x (List.mem_cons_of_mem _ (List.mem_append.2 (.inr hx))))⟩
    exact Nat.le_trans (Nat.le_mul_of_pos_right _ hb) h1
  · intro t fs ds hu h i f d hf hd
    simp only [DataW.weights, hu] at h
    exact weightsEach_at (p := (· ≤ reachBytes)) (ts := fs.toList.map (·.type)) (ds := ds) h i f.type d (by simp [hf]) hd
  · intro t m e ds hu h d hd
    simp only [DataW.weights, hu] at h
    exact weightsAll_mem (p := (· ≤ reachBytes)) h d hd
theorem bulk_mem {d : DataW H} : ∀ {l : List (DataW H)}, d ∈ l → Rows.uptoBulk d ≤ Rows.uptoBulkAll l
  | [], h => by simp at h
  | x :: l, h => by
    simp only [Rows.uptoBulkAll]
    rcases List.mem_cons.1 h with rfl | h
    · omega
    · have := bulk_mem h; omega
theorem bulk_pos (d : DataW H) : 1 ≤ Rows.uptoBulk d := by
  cases d with
  | lit l => cases l <;> simp [Rows.uptoBulk]
  | nil => simp [Rows.uptoBulk]
  | ptr d => simp [Rows.uptoBulk]
  | slice elems spare => simp [Rows.uptoBulk]
  | agg parts => simp [Rows.uptoBulk]
  | iface t d => simp [Rows.uptoBulk]
  | map entries => simp [Rows.uptoBulk]
  | held h => simp [Rows.uptoBulk]
theorem bulk_len : ∀ (l : List (DataW H)), l.length ≤ Rows.uptoBulkAll l
  | [] => by simp [Rows.uptoBulkAll]
  | x :: l => by have := bulk_pos x; have := bulk_len l; simp only [Rows.uptoBulkAll, List.length_cons]; omega
theorem bound_upto {P : Program} {N : Nat} (hN : N ≤ 1048576) : Bound (H := H) P N fun t d => (∀ x ∈ d.weights P t, x ≤ reachBytes) ∧ Rows.uptoBulk d ≤ N := by
  have s := bound_said (H := H) (P := P)
  refine ⟨?_, ?_, ?_, ?_⟩
  · intro t b hu h
    have := h.2
    simp only [Rows.uptoBulk] at this
    omega
  · intro t e xs ys hu h
    obtain ⟨h1, _, h3, h4⟩ := s.sl t e xs ys hu h.1
    have := h.2
    simp only [Rows.uptoBulk] at this
    have := bulk_len xs
    have := bulk_len ys
    refine ⟨h1, fun _ => by omega, fun d hd => ⟨h3 d hd, ?_⟩, fun d hd => ⟨h4 d hd, ?_⟩⟩
    · have := bulk_mem hd; omega
    · have := bulk_mem hd; omega
  · intro t fs ds hu h i f d hf hd
    refine ⟨s.st t fs ds hu h.1 i f d hf hd, ?_⟩
    have := h.2
    simp only [Rows.uptoBulk] at this
    have := bulk_mem (List.mem_of_getElem? hd)
    omega
  · intro t m e ds hu h d hd
    refine ⟨s.ar t m e ds hu h.1 d hd, ?_⟩
    have := h.2
    simp only [Rows.uptoBulk] at this
    have := bulk_mem hd
    omega
theorem trod_rdN {N : Nat} {B : TypeId → DataW H → Prop} (bd : Bound P N B) : ∀ (fuel : Nat) (t : TypeId) (cs : List Value) (d : DataW H) (ps : List MemPlace), DataW.trod enc P w 0 (fun _ => true) true fuel t cs = some (d, ps) →
    B t d → RdN P w.heap N fuel t cs
  | 0, _, _, _, _, h, _ => by simp [DataW.trod] at h
  | n + 1, t, cs, d, ps, h, hw => by
    unfold RdN
    unfold DataW.trod at h
    cases hu : P.underlying t with
    | none => trivial
    | some td =>
      rw [hu] at h
      cases td with
      | bool =>
        simp only
        split at h <;> simp_all
      | int k =>
        simp only
        split at h <;> simp_all [Lit.wf]
      | string =>
        simp only
        split at h <;> simp_all
        obtain ⟨_, rfl, _⟩ := h
        have := bd.str t _ hu hw
        simpa using this
      | slice e =>
        simp only
        split at h <;> simp_all
        · exact ⟨⟨none, 0, 0⟩, ⟨rfl, rfl, rfl⟩, fun _ => .inl ⟨rfl, rfl, rfl⟩⟩
        · rename_i e' a' a len cap hcs
          obtain ⟨⟨h1, h2⟩, h3⟩ := h
          replace h3 := bind_some h3; obtain ⟨elems, he, h3⟩ := h3
          replace h3 := map_some' h3; obtain ⟨rest, hr, h3⟩ := h3
          simp at h3
          obtain ⟨h3, _⟩ := h3
          subst h3
          obtain ⟨hw1, hwN, hwe, hwr⟩ := bd.sl t a' _ _ hu hw
          simp only [List.length_map] at hw1 hwN
          obtain ⟨le, ge⟩ := mapM_at he
          obtain ⟨lr, gr⟩ := mapM_at hr
          simp at le lr
          refine ⟨⟨some a, len, cap⟩, ⟨rfl, rfl, rfl⟩, fun hpos => .inr ⟨a, rfl, h1, ?_, ?_, fun i hi => ?_⟩⟩
          · rw [le, lr, show len + (cap - len) = cap by omega] at hw1
            exact hw1
          · have := hwN hpos
            rw [le, lr] at this
            simp only
            omega
          · simp only at hi
            have key : ∃ y : DataW H × List MemPlace, ((w.cells? 0 (a.add (i * P.cellsOf a')) (P.cellsOf a')).bind (DataW.trod enc P w 0 (fun x => true) true n a')) = some y ∧ B a' y.1 := by
              by_cases hil : i < len
              · obtain ⟨y, hy, hyi⟩ := ge i i (by simp [hil])
                exact ⟨y, hy, hwe y.1 (List.mem_map.2 ⟨y, List.mem_of_getElem? hyi, rfl⟩)⟩
              · obtain ⟨y, hy, hyi⟩ := gr (i - len) (i - len) (by rw [List.getElem?_range (by omega)])
                rw [show len + (i - len) = i by omega] at hy
                exact ⟨y, hy, hwr y.1 (List.mem_map.2 ⟨y, List.mem_of_getElem? hyi, rfl⟩)⟩
            obtain ⟨⟨yd, yp⟩, hy, hyw⟩ := key
            replace hy := bind_some hy; obtain ⟨cs', hcs', hy⟩ := hy
            obtain ⟨hl, hc⟩ := cells_are hcs'
            exact ⟨cs', hl, hc, trod_rdN bd n _ _ _ _ hy hyw⟩
      | struct fs =>
        simp only at h ⊢
        split at h
        · rename_i hl
          replace h := map_some' h; obtain ⟨xs, hx, h⟩ := h
          simp at h
          obtain ⟨h, _⟩ := h
          subst h
          obtain ⟨lx, gx⟩ := mapM_at hx
          refine ⟨hl, fun f hf => ?_⟩
          obtain ⟨i, hi⟩ := List.mem_iff_getElem?.1 hf
          obtain ⟨⟨yd, yp⟩, hy, hyi⟩ := gx i f hi
          exact trod_rdN bd n _ _ _ _ hy (bd.st t fs _ hu hw i f yd hi (by simp [hyi]))
        · simp at h
      | array m e =>
        simp only at h ⊢
        split at h
        · rename_i hl
          replace h := map_some' h; obtain ⟨xs, hx, h⟩ := h
          simp at h
          obtain ⟨h, _⟩ := h
          subst h
          obtain ⟨lx, gx⟩ := mapM_at hx
          refine ⟨hl, fun i hi => ?_⟩
          obtain ⟨⟨yd, yp⟩, hy, hyi⟩ := gx i i (by simp [hi])
          exact trod_rdN bd n _ _ _ _ hy (bd.ar t m e _ hu hw yd (List.mem_map.2 ⟨(yd, yp), List.mem_of_getElem? hyi, rfl⟩))
        · simp at h
      | _ => trivial
end

inductive Ty where
  | int (k : IntKind)
  | bool
  | str
  | sl (sz bts : Nat) (e : Ty)
  | nil
  | cons (a b : Ty)
def Ty.size : Ty → Nat
  | .nil => 0
  | .cons a b => a.size + b.size
  | _ => 1
def Ty.rep : Nat → Ty → Ty
  | 0, _ => .nil
  | n + 1, x => .cons x (Ty.rep n x)
def shapeFs (P : Program) (f : TypeId → Option Ty) : Nat → List Field → Option Ty
  | _, [] => some .nil
  | off, fd :: fs => match f fd.type, shapeFs P f (off + P.cellsOf fd.type) fs with
    | some a, some b => match Nat.beq fd.offset off && Nat.beq a.size (P.cellsOf fd.type) with
      | true => some (.cons a b)
      | false => none
    | _, _ => none
def shape (P : Program) : Nat → TypeId → Option Ty
  | 0, _ => none
  | n + 1, t => match P.underlying t with
    | some .bool => some .bool
    | some (.int k) => some (.int k)
    | some .string => some .str
    | some (.slice e) => match shape P n e with
      | some x => match Nat.beq x.size (P.cellsOf e) && Nat.blt 0 (P.bytesOf e) with
        | true => some (.sl (P.cellsOf e) (P.bytesOf e) x)
        | false => none
      | none => none
    | some (.struct fs) => match shapeFs P (shape P n) 0 fs.toList with
      | some x => match Nat.beq x.size (P.cellsOf t) with
        | true => some x
        | false => none
      | none => none
    | some (.array m e) => match shape P n e with
      | some x => match Nat.beq x.size (P.cellsOf e) && Nat.beq (P.cellsOf t) (m * P.cellsOf e) with
        | true => some (Ty.rep m x)
        | false => none
      | none => none
    | _ => none
/-- Cells that are a value of that shape. -/
def Fit (h : Heap) (N : Nat) : Ty → List Value → Prop
  | .int k, cs => ∃ x, cs = [.int k x] ∧ k.min ≤ x ∧ x ≤ k.max
  | .bool, cs => ∃ b, cs = [.bool b]
  | .str, cs => ∃ s : ByteArray, cs = [.string s] ∧ s.size ≤ N
  | .sl sz bts e, cs => ∃ s : Sl, cs = [.slice s.ptr s.len s.cap] ∧ SlN h N sz bts s fun cs => Fit h N e cs
  | .nil, cs => cs = []
  | .cons a b, cs => ∃ c1 c2, cs = c1 ++ c2 ∧ c1.length = a.size ∧ Fit h N a c1 ∧ Fit h N b c2
theorem fits_fs {P : Program} {h : Heap} {N : Nat} {f : TypeId → Option Ty} {R : TypeId → List Value → Prop} (hf : ∀ t x cs, f t = some x → R t cs → cs.length = x.size → Fit h N x cs) :
    ∀ {fs : List Field} {off : Nat} {x : Ty} {cs : List Value}, shapeFs P f off fs = some x → off + x.size = cs.length → (∀ fd ∈ fs, R fd.type ((cs.drop fd.offset).take (P.cellsOf fd.type))) → Fit h N x (cs.drop off)
  | [], off, x, cs, hs, hl, _ => by
    simp only [shapeFs, Option.some.injEq] at hs
    subst hs
    simp only [Ty.size] at hl
    simp [Fit]; omega
  | fd :: fs, off, x, cs, hs, hl, hR => by
    simp only [shapeFs] at hs
    split at hs
    · rename_i a b ha hb
      split at hs
      · rename_i hc
        simp only [Option.some.injEq] at hs
        subst hs
        simp only [Bool.and_eq_true, Nat.beq_eq] at hc
        obtain ⟨h1, h2⟩ := hc
        simp only [Ty.size] at hl
        have hd := hR fd List.mem_cons_self
        rw [h1, ← h2] at hd
        have hlen : ((cs.drop off).take a.size).length = a.size := by simp; omega
        refine ⟨(cs.drop off).take a.size, cs.drop (off + a.size), ?_, hlen, hf _ _ _ ha hd hlen, ?_⟩
        · rw [← List.drop_drop, List.take_append_drop]
        · have := fits_fs hf hb (cs := cs) (by rw [← h2]; omega) fun fd' hfd => hR fd' (List.mem_cons_of_mem _ hfd)
          rw [← h2] at this
          exact this
      · simp at hs
    · simp at hs
theorem fits_rep {h : Heap} {N : Nat} {x : Ty} : ∀ (m : Nat) {cs : List Value}, cs.length = m * x.size → (∀ i, i < m → Fit h N x ((cs.drop (i * x.size)).take x.size)) → Fit h N (Ty.rep m x) cs
  | 0, cs, hl, _ => by simp at hl; simp [Ty.rep, Fit, hl]
  | m + 1, cs, hl, hR => by
    rw [Nat.add_mul, Nat.one_mul] at hl
    refine ⟨cs.take x.size, cs.drop x.size, (List.take_append_drop _ _).symm, by simp; omega, by simpa using hR 0 (by omega), fits_rep m (by simp; omega) fun i hi => ?_⟩
    have := hR (i + 1) (by omega)
    rwa [List.drop_drop, show x.size + i * x.size = (i + 1) * x.size by rw [Nat.add_mul, Nat.one_mul, Nat.add_comm]]
theorem fits_of {P : Program} {h : Heap} {N : Nat} : ∀ (d : Nat) {n : Nat} {t : TypeId} {x : Ty} {cs : List Value}, shape P d t = some x → RdN P h N n t cs → (cs.length = x.size ∨ True) → Fit h N x cs
  | 0, n, t, x, cs, hs, _, _ => by simp [shape] at hs
  | d + 1, 0, t, x, cs, hs, hR, _ => hR.elim
  | d + 1, n + 1, t, x, cs, hs, hR, _ => by
    unfold shape at hs
    unfold RdN at hR
    cases hu : P.underlying t with
    | none => rw [hu] at hs; simp at hs
    | some td =>
      rw [hu] at hs hR
      cases td <;> simp only [Option.some.injEq, reduceCtorEq] at hs hR
      case bool => subst hs; exact hR
      case int k => subst hs; exact hR
      case string => subst hs; exact hR
      case slice e =>
        split at hs
        · rename_i y hy
          split at hs
          · rename_i hc
            simp only [Option.some.injEq] at hs
            subst hs
            simp only [Bool.and_eq_true, Nat.beq_eq] at hc
            obtain ⟨s, rfl, hS⟩ := hR
            have hpos : 0 < P.bytesOf e := Nat.le_of_ble_eq_true hc.2
            refine ⟨s, rfl, ?_⟩
            rcases hS hpos with hS | ⟨a, h1, h2, h3, h4, h5⟩
            · exact .inl hS
            · refine .inr ⟨a, h1, h2, h3, h4, fun i hi => ?_⟩
              obtain ⟨cs, k1, k2, k3⟩ := h5 i hi
              exact ⟨cs, k1, k2, fits_of d hy k3 (.inr trivial)⟩
          · simp at hs
        · simp at hs
      case struct fs =>
        split at hs
        · rename_i y hy
          split at hs
          · rename_i hc
            simp only [Option.some.injEq] at hs
            subst hs
            rw [Nat.beq_eq] at hc
            have := fits_fs (P := P) (h := h) (N := N) (R := fun t cs => RdN P h N n t cs) (fun t x cs h1 h2 _ => fits_of d h1 h2 (.inr trivial)) hy (cs := cs) (by rw [hR.1, hc]; omega) hR.2
            simpa using this
          · simp at hs
        · simp at hs
      case array m e =>
        split at hs
        · rename_i y hy
          split at hs
          · rename_i hc
            simp only [Option.some.injEq] at hs
            subst hs
            simp only [Bool.and_eq_true, Nat.beq_eq] at hc
            refine fits_rep m (by rw [hR.1, hc.1]; exact hc.2) fun i hi => ?_
            rw [hc.1]
            exact fits_of d hy (hR.2 i hi) (.inr trivial)
          · simp at hs
        · simp at hs
/-- The elements of a slice that came in. -/
theorem SlN.view {α : Type} {h : Heap} {N sz bts : Nat} {s : Sl} {E : List Value → Prop} (S : SlN h N sz bts s E) (R : α → List Value → Prop) (hE : ∀ cs, E cs → ∃ x, R x cs) : s.len ≤ s.cap ∧ s.cap ≤ N ∧ s.cap * bts ≤ 140737488351232 ∧ ∃ xs : List α, View h sz R s xs := by
  rcases S with ⟨h1, h2, h3⟩ | ⟨a, h1, h2, h3, h4, h5⟩
  · exact ⟨by omega, by omega, by rw [h3]; omega, [], by rw [h2]; rfl, by simp⟩
  · refine ⟨h2, h4, h3, ?_⟩
    have : ∀ n, n ≤ s.cap → ∃ xs : List α, xs.length = n ∧ ∀ (i : Nat) x, xs[i]? = some x → ∃ a cs, s.ptr = some a ∧ cs.length = sz ∧ R x cs ∧ cellsAre h (a.add (i * sz)) cs := by
      intro n
      induction n with
      | zero => intro _; exact ⟨[], rfl, by simp⟩
      | succ n ih =>
        intro hn
        obtain ⟨xs, hl, hx⟩ := ih (by omega)
        obtain ⟨cs, k1, k2, k3⟩ := h5 n (by omega)
        obtain ⟨x, hR⟩ := hE cs k3
        refine ⟨xs ++ [x], by simp [hl], fun i y hy => ?_⟩
        rw [List.getElem?_append] at hy
        split at hy
        · exact hx i y hy
        · rename_i hi
          have : i = n := by
            rw [hl] at hi hy
            by_cases e : i - n = 0
            · omega
            · rw [List.getElem?_eq_none (by simp; omega)] at hy; simp at hy
          subst this
          rw [hl, Nat.sub_self] at hy
          simp at hy; subst hy
          exact ⟨a, cs, h1, k1, hR, k2⟩
    obtain ⟨xs, hl, hx⟩ := this s.len h2
    exact ⟨xs, hl.symm, hx⟩
theorem u8_of {cs : List Value} {h : Heap} {N : Nat} (hf : Fit h N (.int .u8) cs) : ∃ x : UInt8, En u8 x cs := by
  obtain ⟨x, rfl, h1, h2⟩ := hf
  simp [IntKind.min, IntKind.max, IntKind.bits, IntKind.signed] at h1 h2
  refine ⟨UInt8.ofNat x.toNat, ?_⟩
  simp only [En, u8, UInt8.toNat_ofNat', List.cons.injEq, Value.int.injEq, true_and, and_true]
  omega
/-- A list of bytes that came in. -/
theorem SlN.bytes {h : Heap} {N : Nat} {s : Sl} (S : SlN h N 1 1 s fun cs => Fit h N (.int .u8) cs) : s.len ≤ s.cap ∧ s.cap ≤ N ∧ ∃ l : List UInt8, Bytes h s l := by
  obtain ⟨h1, h2, _, xs, V⟩ := S.view (En u8) (fun cs hf => u8_of hf)
  exact ⟨h1, h2, xs, V⟩
end Go.Proofs.Ytcbelendjpnmiaa.V
/-
  SMALL RULES: branches, joins, numbers; and the last step of a law.
-/
namespace Go.Proofs.Ytcbelendjpnmiaa.V
open Go Go.RowKit
set_option linter.unusedVariables false
set_option linter.unusedSimpArgs false

theorem brr_p {p : Prop} [Decidable p] {A B : Prop} (h1 : p → A) (h2 : ¬ p → B) : brr (decide p) A B := by
  rw [brr_dec]; split
  · rename_i h; exact h1 h
  · rename_i h; exact h2 h
theorem brr_eq {a b : Int} {A B : Prop} (h1 : a = b → A) (h2 : a ≠ b → B) : brr (a == b) A B := by
  by_cases h : a = b
  · rw [show (a == b) = true by simpa using h]; exact h1 h
  · rw [show (a == b) = false by simpa using h]; exact h2 h
theorem brr_ne {a b : Int} {A B : Prop} (h1 : a ≠ b → A) (h2 : a = b → B) : brr (a != b) A B := by
  by_cases h : a = b
  · rw [show (a != b) = false by simpa using h]; exact h2 h
  · rw [show (a != b) = true by simpa using h]; exact h1 h
theorem brr_not {b : Bool} {A B : Prop} (h : brr b B A) : brr (!b) A B := by cases b <;> exact h
theorem brr_of {b : Bool} {A B : Prop} (h1 : b = true → A) (h2 : b = false → B) : brr b A B := by cases b; exact h2 rfl; exact h1 rfl
theorem brr_tt {b : Bool} {A B : Prop} (e : b = true) (h : A) : brr b A B := by subst e; exact h
theorem brr_ff {b : Bool} {A B : Prop} (e : b = false) (h : B) : brr b A B := by subst e; exact h
theorem ldL_n {vs : List Value} {K : Prop} (h : K) : ldL [] vs K := by cases vs <;> exact h
theorem ldL_c {k : Kd} {ks : List Kd} {x : k.T} {vs : List Value} {K : k.T → Fn ks Prop} (h : ldL ks vs (K x)) : ldL (k :: ks) (k.enc x :: vs) K := ⟨x, rfl, h⟩
theorem jn0 {rest : Heap → Prop} {body : (Heap → Prop) → Prop} (C : Heap → Prop) (h1 : ∀ h, C h → rest h) (h2 : ∀ j : Heap → Prop, (∀ h, C h → j h) → body j) : jn [] rest body := h2 rest h1
theorem jn1 {i : Nat} {k : Kd} {rest : k.T → Heap → Prop} {body : (k.T → Heap → Prop) → Prop} (C : k.T → Heap → Prop) (h1 : ∀ x h, C x h → rest x h) (h2 : ∀ j : k.T → Heap → Prop, (∀ x h, C x h → j x h) → body j) : jn [(i, .one k)] rest body := h2 rest h1
theorem jn2 {i i2 : Nat} {k k2 : Kd} {rest : k.T → k2.T → Heap → Prop} {body : (k.T → k2.T → Heap → Prop) → Prop} (C : k.T → k2.T → Heap → Prop) (h1 : ∀ x y h, C x y h → rest x y h) (h2 : ∀ j : k.T → k2.T → Heap → Prop, (∀ x y h, C x y h → j x y h) → body j) : jn [(i, .one k), (i2, .one k2)] rest body := h2 rest h1
theorem wl5 {i1 i2 i3 i4 i5 : Nat} {k1 k2 k3 k4 k5 : Kd} {B : (k1.T → k2.T → k3.T → k4.T → k5.T → Heap → Prop) → k1.T → k2.T → k3.T → k4.T → k5.T → Heap → Prop} (I : Nat → k1.T → k2.T → k3.T → k4.T → k5.T → Heap → Prop)
    (step : ∀ m x1 x2 x3 x4 x5 h (next : k1.T → k2.T → k3.T → k4.T → k5.T → Heap → Prop), (∀ m' x1' x2' x3' x4' x5' h', m' < m → I m' x1' x2' x3' x4' x5' h' → next x1' x2' x3' x4' x5' h') → I m x1 x2 x3 x4 x5 h → B next x1 x2 x3 x4 x5 h) {m : Nat} {x1 : k1.T} {x2 : k2.T} {x3 : k3.T} {x4 : k4.T} {x5 : k5.T} {h : Heap} (hI : I m x1 x2 x3 x4 x5 h) : wl [(i1, .one k1), (i2, .one k2), (i3, .one k3), (i4, .one k4), (i5, .one k5)] B x1 x2 x3 x4 x5 h := by
  have key : ∀ n x1 x2 x3 x4 x5 h, (∃ m, m < n ∧ I m x1 x2 x3 x4 x5 h) → wit [(i1, .one k1), (i2, .one k2), (i3, .one k3), (i4, .one k4), (i5, .one k5)] B n x1 x2 x3 x4 x5 h := by
    intro n
    induction n with
    | zero => intro x1 x2 x3 x4 x5 h ⟨m, hm, _⟩; omega
    | succ n ih => intro x1 x2 x3 x4 x5 h ⟨m, hm, hI⟩; exact step m x1 x2 x3 x4 x5 h _ (fun m' x1' x2' x3' x4' x5' h' hm' hI' => ih x1' x2' x3' x4' x5' h' ⟨m', by omega, hI'⟩) hI
  exact ⟨m + 1, key (m + 1) x1 x2 x3 x4 x5 h ⟨m, by omega, hI⟩⟩
theorem wl6 {i1 i2 i3 i4 i5 i6 : Nat} {k1 k2 k3 k4 k5 k6 : Kd} {B : (k1.T → k2.T → k3.T → k4.T → k5.T → k6.T → Heap → Prop) → k1.T → k2.T → k3.T → k4.T → k5.T → k6.T → Heap → Prop} (I : Nat → k1.T → k2.T → k3.T → k4.T → k5.T → k6.T → Heap → Prop)
    (step : ∀ m x1 x2 x3 x4 x5 x6 h (next : k1.T → k2.T → k3.T → k4.T → k5.T → k6.T → Heap → Prop), (∀ m' x1' x2' x3' x4' x5' x6' h', m' < m → I m' x1' x2' x3' x4' x5' x6' h' → next x1' x2' x3' x4' x5' x6' h') → I m x1 x2 x3 x4 x5 x6 h → B next x1 x2 x3 x4 x5 x6 h) {m : Nat} {x1 : k1.T} {x2 : k2.T} {x3 : k3.T} {x4 : k4.T} {x5 : k5.T} {x6 : k6.T} {h : Heap} (hI : I m x1 x2 x3 x4 x5 x6 h) : wl [(i1, .one k1), (i2, .one k2), (i3, .one k3), (i4, .one k4), (i5, .one k5), (i6, .one k6)] B x1 x2 x3 x4 x5 x6 h := by
  have key : ∀ n x1 x2 x3 x4 x5 x6 h, (∃ m, m < n ∧ I m x1 x2 x3 x4 x5 x6 h) → wit [(i1, .one k1), (i2, .one k2), (i3, .one k3), (i4, .one k4), (i5, .one k5), (i6, .one k6)] B n x1 x2 x3 x4 x5 x6 h := by
    intro n
    induction n with
    | zero => intro x1 x2 x3 x4 x5 x6 h ⟨m, hm, _⟩; omega
    | succ n ih => intro x1 x2 x3 x4 x5 x6 h ⟨m, hm, hI⟩; exact step m x1 x2 x3 x4 x5 x6 h _ (fun m' x1' x2' x3' x4' x5' x6' h' hm' hI' => ih x1' x2' x3' x4' x5' x6' h' ⟨m', by omega, hI'⟩) hI
  exact ⟨m + 1, key (m + 1) x1 x2 x3 x4 x5 x6 h ⟨m, by omega, hI⟩⟩
theorem wl7 {i1 i2 i3 i4 i5 i6 i7 : Nat} {k1 k2 k3 k4 k5 k6 k7 : Kd} {B : (k1.T → k2.T → k3.T → k4.T → k5.T → k6.T → k7.T → Heap → Prop) → k1.T → k2.T → k3.T → k4.T → k5.T → k6.T → k7.T → Heap → Prop} (I : Nat → k1.T → k2.T → k3.T → k4.T → k5.T → k6.T → k7.T → Heap → Prop)
    (step : ∀ m x1 x2 x3 x4 x5 x6 x7 h (next : k1.T → k2.T → k3.T → k4.T → k5.T → k6.T → k7.T → Heap → Prop), (∀ m' x1' x2' x3' x4' x5' x6' x7' h', m' < m → I m' x1' x2' x3' x4' x5' x6' x7' h' → next x1' x2' x3' x4' x5' x6' x7' h') → I m x1 x2 x3 x4 x5 x6 x7 h → B next x1 x2 x3 x4 x5 x6 x7 h) {m : Nat} {x1 : k1.T} {x2 : k2.T} {x3 : k3.T} {x4 : k4.T} {x5 : k5.T} {x6 : k6.T} {x7 : k7.T} {h : Heap} (hI : I m x1 x2 x3 x4 x5 x6 x7 h) : wl [(i1, .one k1), (i2, .one k2), (i3, .one k3), (i4, .one k4), (i5, .one k5), (i6, .one k6), (i7, .one k7)] B x1 x2 x3 x4 x5 x6 x7 h := by
  have key : ∀ n x1 x2 x3 x4 x5 x6 x7 h, (∃ m, m < n ∧ I m x1 x2 x3 x4 x5 x6 x7 h) → wit [(i1, .one k1), (i2, .one k2), (i3, .one k3), (i4, .one k4), (i5, .one k5), (i6, .one k6), (i7, .one k7)] B n x1 x2 x3 x4 x5 x6 x7 h := by
    intro n
    induction n with
    | zero => intro x1 x2 x3 x4 x5 x6 x7 h ⟨m, hm, _⟩; omega
    | succ n ih => intro x1 x2 x3 x4 x5 x6 x7 h ⟨m, hm, hI⟩; exact step m x1 x2 x3 x4 x5 x6 x7 h _ (fun m' x1' x2' x3' x4' x5' x6' x7' h' hm' hI' => ih x1' x2' x3' x4' x5' x6' x7' h' ⟨m', by omega, hI'⟩) hI
  exact ⟨m + 1, key (m + 1) x1 x2 x3 x4 x5 x6 x7 h ⟨m, by omega, hI⟩⟩
theorem wl8 {i1 i2 i3 i4 i5 i6 i7 i8 : Nat} {k1 k2 k3 k4 k5 k6 k7 k8 : Kd} {B : (k1.T → k2.T → k3.T → k4.T → k5.T → k6.T → k7.T → k8.T → Heap → Prop) → k1.T → k2.T → k3.T → k4.T → k5.T → k6.T → k7.T → k8.T → Heap → Prop} (I : Nat → k1.T → k2.T → k3.T → k4.T → k5.T → k6.T → k7.T → k8.T → Heap → Prop)
    (step : ∀ m x1 x2 x3 x4 x5 x6 x7 x8 h (next : k1.T → k2.T → k3.T → k4.T → k5.T → k6.T → k7.T → k8.T → Heap → Prop), (∀ m' x1' x2' x3' x4' x5' x6' x7' x8' h', m' < m → I m' x1' x2' x3' x4' x5' x6' x7' x8' h' → next x1' x2' x3' x4' x5' x6' x7' x8' h') → I m x1 x2 x3 x4 x5 x6 x7 x8 h → B next x1 x2 x3 x4 x5 x6 x7 x8 h) {m : Nat} {x1 : k1.T} {x2 : k2.T} {x3 : k3.T} {x4 : k4.T} {x5 : k5.T} {x6 : k6.T} {x7 : k7.T} {x8 : k8.T} {h : Heap} (hI : I m x1 x2 x3 x4 x5 x6 x7 x8 h) : wl [(i1, .one k1), (i2, .one k2), (i3, .one k3), (i4, .one k4), (i5, .one k5), (i6, .one k6), (i7, .one k7), (i8, .one k8)] B x1 x2 x3 x4 x5 x6 x7 x8 h := by
  have key : ∀ n x1 x2 x3 x4 x5 x6 x7 x8 h, (∃ m, m < n ∧ I m x1 x2 x3 x4 x5 x6 x7 x8 h) → wit [(i1, .one k1), (i2, .one k2), (i3, .one k3), (i4, .one k4), (i5, .one k5), (i6, .one k6), (i7, .one k7), (i8, .one k8)] B n x1 x2 x3 x4 x5 x6 x7 x8 h := by
    intro n
    induction n with
    | zero => intro x1 x2 x3 x4 x5 x6 x7 x8 h ⟨m, hm, _⟩; omega
    | succ n ih => intro x1 x2 x3 x4 x5 x6 x7 x8 h ⟨m, hm, hI⟩; exact step m x1 x2 x3 x4 x5 x6 x7 x8 h _ (fun m' x1' x2' x3' x4' x5' x6' x7' x8' h' hm' hI' => ih x1' x2' x3' x4' x5' x6' x7' x8' h' ⟨m', by omega, hI'⟩) hI
  exact ⟨m + 1, key (m + 1) x1 x2 x3 x4 x5 x6 x7 x8 h ⟨m, by omega, hI⟩⟩
theorem jn3 {i1 i2 i3 : Nat} {k1 k2 k3 : Kd} {rest : k1.T → k2.T → k3.T → Heap → Prop} {body : (k1.T → k2.T → k3.T → Heap → Prop) → Prop} (C : k1.T → k2.T → k3.T → Heap → Prop) (h1 : ∀ x1 x2 x3 h, C x1 x2 x3 h → rest x1 x2 x3 h) (h2 : ∀ j : k1.T → k2.T → k3.T → Heap → Prop, (∀ x1 x2 x3 h, C x1 x2 x3 h → j x1 x2 x3 h) → body j) : jn [(i1, .one k1), (i2, .one k2), (i3, .one k3)] rest body := h2 rest h1
theorem jn4 {i1 i2 i3 i4 : Nat} {k1 k2 k3 k4 : Kd} {rest : k1.T → k2.T → k3.T → k4.T → Heap → Prop} {body : (k1.T → k2.T → k3.T → k4.T → Heap → Prop) → Prop} (C : k1.T → k2.T → k3.T → k4.T → Heap → Prop) (h1 : ∀ x1 x2 x3 x4 h, C x1 x2 x3 x4 h → rest x1 x2 x3 x4 h) (h2 : ∀ j : k1.T → k2.T → k3.T → k4.T → Heap → Prop, (∀ x1 x2 x3 x4 h, C x1 x2 x3 x4 h → j x1 x2 x3 x4 h) → body j) : jn [(i1, .one k1), (i2, .one k2), (i3, .one k3), (i4, .one k4)] rest body := h2 rest h1
theorem jn5 {i1 i2 i3 i4 i5 : Nat} {k1 k2 k3 k4 k5 : Kd} {rest : k1.T → k2.T → k3.T → k4.T → k5.T → Heap → Prop} {body : (k1.T → k2.T → k3.T → k4.T → k5.T → Heap → Prop) → Prop} (C : k1.T → k2.T → k3.T → k4.T → k5.T → Heap → Prop) (h1 : ∀ x1 x2 x3 x4 x5 h, C x1 x2 x3 x4 x5 h → rest x1 x2 x3 x4 x5 h) (h2 : ∀ j : k1.T → k2.T → k3.T → k4.T → k5.T → Heap → Prop, (∀ x1 x2 x3 x4 x5 h, C x1 x2 x3 x4 x5 h → j x1 x2 x3 x4 x5 h) → body j) : jn [(i1, .one k1), (i2, .one k2), (i3, .one k3), (i4, .one k4), (i5, .one k5)] rest body := h2 rest h1
theorem jn6 {i1 i2 i3 i4 i5 i6 : Nat} {k1 k2 k3 k4 k5 k6 : Kd} {rest : k1.T → k2.T → k3.T → k4.T → k5.T → k6.T → Heap → Prop} {body : (k1.T → k2.T → k3.T → k4.T → k5.T → k6.T → Heap → Prop) → Prop} (C : k1.T → k2.T → k3.T → k4.T → k5.T → k6.T → Heap → Prop) (h1 : ∀ x1 x2 x3 x4 x5 x6 h, C x1 x2 x3 x4 x5 x6 h → rest x1 x2 x3 x4 x5 x6 h) (h2 : ∀ j : k1.T → k2.T → k3.T → k4.T → k5.T → k6.T → Heap → Prop, (∀ x1 x2 x3 x4 x5 x6 h, C x1 x2 x3 x4 x5 x6 h → j x1 x2 x3 x4 x5 x6 h) → body j) : jn [(i1, .one k1), (i2, .one k2), (i3, .one k3), (i4, .one k4), (i5, .one k5), (i6, .one k6)] rest body := h2 rest h1
theorem i64_min : IntKind.i64.min = -9223372036854775808 := by decide
theorem i64_max : IntKind.i64.max = 9223372036854775807 := by decide
theorem u64_min : IntKind.u64.min = 0 := by decide
theorem u64_max : IntKind.u64.max = 18446744073709551615 := by decide
theorem u32_min : IntKind.u32.min = 0 := by decide
theorem u32_max : IntKind.u32.max = 4294967295 := by decide
theorem u8_min : IntKind.u8.min = 0 := by decide
theorem u8_max : IntKind.u8.max = 255 := by decide
theorem tmod_fix {a c : Int} (hc : 0 < c) : (if a.tmod c < 0 then a.tmod c + c else a.tmod c) = a % c := by
  have h1 := Int.emod_nonneg a (show c ≠ 0 by omega)
  have h2 := Int.emod_lt_of_pos a hc
  have h3 := Int.tmod_eq_emod (a := a) (b := c)
  split at h3
  · rw [if_neg (by omega)]; omega
  · rw [if_pos (by omega)]; omega
theorem tmod_lt {a c : Int} (hc : 0 < c) : -c < a.tmod c ∧ a.tmod c < c := by
  have h1 := Int.emod_nonneg a (show c ≠ 0 by omega)
  have h2 := Int.emod_lt_of_pos a hc
  have h3 := Int.tmod_eq_emod (a := a) (b := c)
  by_cases h : c ∣ a
  · rw [if_pos (.inr h)] at h3
    omega
  · have : a % c ≠ 0 := fun e => h (Int.dvd_of_emod_eq_zero e)
    split at h3 <;> omega
theorem within_mod {n m : Int} (hm : 0 < m) : (n.tmod m + m).tmod m = n % m := by
  have h := tmod_lt (a := n) hm
  rw [Int.tmod_eq_emod_of_nonneg (by omega), Int.add_emod_right]
  have h3 := Int.tmod_eq_emod (a := n) (b := m)
  split at h3
  · rw [h3]; simp
  · rw [h3, Int.sub_emod, show ((m.natAbs : Nat) : Int) = m by omega]; simp
theorem okv_agg {P : Program} {t : TypeId} {v : Value} (ha : aggT P t = some true) (h : okv P t v) : ∃ cs, v = .agg cs := by
  unfold aggT at ha
  unfold okv at h
  cases hu : P.underlying t with
  | none => simp [hu] at ha
  | some d =>
    rw [hu] at ha h
    cases d <;> first | exact h | simp at ha
end Go.Proofs.Ytcbelendjpnmiaa.V
/-
  MANY RESOURCES AS ONE: a list of things of one kind, each in memory of its own; one of them is taken out and put back.
-/
namespace Go.Proofs.Ytcbelendjpnmiaa.V
open Go Go.RowKit
set_option linter.unusedVariables false
set_option linter.unusedSimpArgs false
variable {α β : Type}
theorem star_perm : ∀ {L : List Res} {E F : Blks}, star L E → F.Perm E → star L F
  | [], E, F, h, p => by
    have h' : E = [] := h
    subst h'
    exact List.Perm.eq_nil p
  | A :: L, E, F, ⟨E1, E2, q, h1, h2⟩, p => ⟨E1, E2, p.trans q, h1, h2⟩
theorem star_app : ∀ {L M : List Res} {E F : Blks}, star L E → star M F → star (L ++ M) (E ++ F)
  | [], M, E, F, h, k => by
    have h' : E = [] := h
    subst h'
    exact k
  | A :: L, M, E, F, ⟨E1, E2, q, h1, h2⟩, k => ⟨E1, E2 ++ F, by rw [← List.append_assoc]; exact q.append_right F, h1, star_app h2 k⟩
theorem set_set_res : ∀ (L : List Res) (i : Nat) (A B : Res), (L.set i A).set i B = L.set i B
  | [], _, _, _ => rfl
  | _ :: _, 0, _, _ => rfl
  | _ :: L, i + 1, A, B => by simp [set_set_res L i A B]
theorem Sat.pull {h0 h : Heap} {Rs L : List Res} (O : Sat h0 h (star Rs :: L)) (i : Nat) (hi : i < Rs.length) : Sat h0 h (nth i Rs :: star (Rs.set i V.emp) :: L) := by
  obtain ⟨E, ⟨E1, E2, p, h1, h2⟩, O⟩ := O
  obtain ⟨F1, F2, q, h3, h4⟩ := star_at i hi h1
  exact ⟨E, ⟨F1, F2 ++ E2, p.trans ((q.append_right E2).trans (by rw [List.append_assoc])), h3, F2, E2, List.Perm.refl _, h4 V.emp [] rfl, h2⟩, O⟩
theorem Sat.back {h0 h : Heap} {Rs L : List Res} {B : Res} {i : Nat} (O : Sat h0 h (B :: star (Rs.set i V.emp) :: L)) (hi : i < Rs.length) : Sat h0 h (star (Rs.set i B) :: L) := by
  obtain ⟨E, ⟨E1, E2, p, h1, F1, F2, q, h2, h3⟩, O⟩ := O
  obtain ⟨G1, G2, r, h4, h5⟩ := star_at i (by simpa using hi) h2
  rw [nth_set _ hi] at h4
  have h4' : G1 = [] := h4
  subst h4'
  have := h5 B E1 h1
  rw [set_set_res] at this
  refine ⟨E, ⟨E1 ++ G2, F2, ?_, this, h3⟩, O⟩
  refine p.trans ((q.append_left E1).trans ?_)
  rw [List.append_assoc]
  exact (List.Perm.append_right F2 (by simpa using r)).append_left E1
theorem Sat.snoc {h0 h : Heap} {Rs L : List Res} {A : Res} (O : Sat h0 h (A :: star Rs :: L)) : Sat h0 h (star (Rs ++ [A]) :: L) := by
  obtain ⟨E, ⟨E1, E2, p, h1, F1, F2, q, h2, h3⟩, O⟩ := O
  refine ⟨E, ⟨F1 ++ E1, F2, ?_, ?_, h3⟩, O⟩
  · refine p.trans ((q.append_left E1).trans ?_)
    rw [← List.append_assoc]
    exact List.perm_append_comm.append_right F2
  · have h4 : star [A] E1 := ⟨E1, [], by simp, h1, rfl⟩
    exact star_app h2 h4
/-- Things of one kind. -/
def many (f : α → Res) (xs : List α) : Res := star (xs.map f)
def hole (f : α → Res) (xs : List α) (i : Nat) : Res := star ((xs.map f).set i emp)
theorem nth_mapf {f : α → Res} : ∀ {xs : List α} {i : Nat} {x : α}, xs[i]? = some x → nth i (xs.map f) = f x
  | [], i, x, h => by simp at h
  | y :: ys, 0, x, h => by simp at h; subst h; rfl
  | y :: ys, i + 1, x, h => nth_mapf (xs := ys) (i := i) (by simpa using h)
theorem Sat.take {h0 h : Heap} {f : α → Res} {xs : List α} {L : List Res} (O : Sat h0 h (many f xs :: L)) (i : Nat) {x : α} (hi : xs[i]? = some x) : Sat h0 h (f x :: hole f xs i :: L) := by
  have hl := (List.getElem?_eq_some_iff.1 hi).1
  have := Sat.pull (Rs := xs.map f) O i (by simpa using hl)
  rw [nth_mapf hi] at this
  exact this
theorem Sat.give {h0 h : Heap} {f : α → Res} {xs : List α} {L : List Res} {i : Nat} {y : α} (O : Sat h0 h (f y :: hole f xs i :: L)) (hi : i < xs.length) : Sat h0 h (many f (xs.set i y) :: L) := by
  have := Sat.back (Rs := xs.map f) O (by simpa using hi)
  unfold many
  rw [List.map_set]
  exact this
theorem Sat.more {h0 h : Heap} {f : α → Res} {xs : List α} {L : List Res} {y : α} (O : Sat h0 h (f y :: many f xs :: L)) : Sat h0 h (many f (xs ++ [y]) :: L) := by
  have := Sat.snoc (Rs := xs.map f) O
  unfold many
  rw [List.map_append]
  exact this
theorem Sat.none {h0 h : Heap} {f : α → Res} {L : List Res} (O : Sat h0 h L) : Sat h0 h (many f [] :: L) := O.empI
def u64c (x : Int) : List Value := [.int .u64 x]
def i64c (x : Int) : List Value := [.int .i64 x]
def ptrc (b : Nat) : List Value := [.pointer (some (pt b 0))]
theorem u64c_len (x : Int) : (u64c x).length = 1 := rfl
theorem i64c_len (x : Int) : (i64c x).length = 1 := rfl
theorem ptrc_len (b : Nat) : (ptrc b).length = 1 := rfl
def slc (s : Sl) : List Value := [.slice s.ptr s.len s.cap]
theorem slc_len (s : Sl) : (slc s).length = 1 := rfl
theorem slc_one (s : Sl) : (slc s).all oneV = true := rfl
theorem u8_len (x : UInt8) : (u8 x).length = 1 := rfl
theorem u64c_one (x : Int) : (u64c x).all oneV = true := rfl
theorem i64c_one (x : Int) : (i64c x).all oneV = true := rfl
theorem ptrc_one (b : Nat) : (ptrc b).all oneV = true := rfl
theorem u8_one (x : UInt8) : (u8 x).all oneV = true := rfl
theorem set_flat1 {enc : α → List Value} (he : ∀ x, (enc x).length = 1) : ∀ (xs : List α) (sp : List Value) (i : Nat) (y : α), i < xs.length → V.put (xs.flatMap enc ++ sp) i (enc y) = (xs.set i y).flatMap enc ++ sp
  | [], sp, i, y, h => by simp at h
  | x :: xs, sp, 0, y, h => by
    have h1 := he x; have h2 := he y
    rw [List.flatMap_cons, List.set_cons_zero, List.flatMap_cons]
    match hx : enc x, hy : enc y with
    | [a], [c] => simp [V.put, put_nil]
    | [], _ => rw [hx] at h1; simp at h1
    | _ :: _ :: _, _ => rw [hx] at h1; simp at h1
    | _, [] => rw [hy] at h2; simp at h2
    | _, _ :: _ :: _ => rw [hy] at h2; simp at h2
  | x :: xs, sp, i + 1, y, h => by
    have h1 := he x
    rw [List.flatMap_cons, List.set_cons_succ, List.flatMap_cons]
    match hx : enc x with
    | [a] =>
      have := set_flat1 he xs sp i y (by simpa using h)
      simp [V.put]
      simpa using this
    | [] => rw [hx] at h1; simp at h1
    | _ :: _ :: _ => rw [hx] at h1; simp at h1
/-- An element of one's own list is written: elements of one cell. -/
theorem Sat.put1 {h0 h : Heap} {L : List Res} {enc : α → List Value} {s : Sl} {xs : List α} {i : Int} {K : Heap → Prop} (O : Sat h0 h (buf 1 enc s xs :: L)) (he : ∀ x, (enc x).length = 1) (ho : ∀ x, (enc x).all oneV = true)
    (hi0 : 0 ≤ i) (hi1 : i < (xs.length : Int)) (y : α) {cs : List Value} (hcs : cs = enc y) (k : ∀ h', Sat h0 h' (buf 1 enc s (xs.set i.toNat y) :: L) → K h') : ixS 1 s i fun a => V.st a cs h K := by
  subst hcs
  obtain ⟨sp, O⟩ := O.ex
  obtain ⟨E, ⟨E1, E2, p, hA, h2⟩, O⟩ := O
  have O := O.perm p.symm
  rcases hA with ⟨rfl, rfl, _, _⟩ | ⟨b, j, rfl, hsp, rfl⟩
  · simp at hi1; omega
  · refine ⟨pt b 0, rfl, hi0, hi1, ?_⟩
    rw [pt_add, Nat.zero_add, Nat.mul_one]
    have hl := flatMap_len he xs
    refine Held.st O (by rw [he, List.length_append, hl]; omega) (ho y) fun h' O' => ?_
    rw [set_flat1 he _ _ _ _ (by omega)] at O'
    exact k _ ⟨_, ⟨[(b, _)], E2, List.Perm.refl _, ⟨sp, .inr ⟨b, j, by simp, hsp, rfl⟩⟩, h2⟩, O'⟩
theorem View.at1 {h : Heap} {enc : α → List Value} {s : Sl} {xs : List α} {i : Int} {k : Kd} {K : k.T → Prop} (V : View h 1 (En enc) s xs) (h0 : 0 ≤ i) (h1 : i < (xs.length : Int)) (f : α → k.T) (hf : ∀ x, enc x = [k.enc (f x)])
    (kk : ∀ x, xs[i.toNat]? = some x → K (f x)) : ixS 1 s i fun a => ld [k] a h K :=
  V.ix h0 h1 fun a cs x hx hl hR hc => by
    have e : cs = [k.enc (f x)] := hR.trans (hf x)
    rw [e] at hc
    exact ld_are hc (ldL_c (ldL_n (kk x hx)))
theorem View.get1 {h : Heap} {enc : α → List Value} {s : Sl} {xs : List α} {i : Int} {k : Kd} {K : k.T → Prop} {x : α} (V : View h 1 (En enc) s xs) (h0 : 0 ≤ i) (hx : xs[i.toNat]? = some x) (f : α → k.T) (hf : ∀ x, enc x = [k.enc (f x)])
    (kk : K (f x)) : ixS 1 s i fun a => ld [k] a h K :=
  V.at1 h0 (by have := (List.getElem?_eq_some_iff.1 hx).1; omega) f hf fun y hy => by
    rw [hx] at hy
    have e := Option.some.inj hy
    subst e
    exact kk
/-- An element's place, and that it lies there for as long as the list does. -/
theorem View.getP {h : Heap} {sz : Nat} {enc : α → List Value} {s : Sl} {xs : List α} {i : Int} {K : Addr → Prop} {x : α} (V : View h sz (En enc) s xs) (h0 : 0 ≤ i) (hx : xs[i.toNat]? = some x)
    (kk : ∀ a, (∀ {h' : Heap}, View h' sz (En enc) s xs → cellsAre h' a (enc x)) → K a) : ixS sz s i K := by
  have hl := (List.getElem?_eq_some_iff.1 hx).1
  obtain ⟨a, cs, h1, _, _, _⟩ := V.2 i.toNat x hx
  refine ⟨a, h1, h0, by rw [V.1]; omega, kk _ fun {h'} V' => ?_⟩
  obtain ⟨a', cs', q1, _, q3, q4⟩ := V'.2 i.toNat x hx
  rw [h1] at q1
  have e := Option.some.inj q1
  subst e
  have e2 : cs' = enc x := q3
  subst e2
  exact q4
theorem set_same {xs : List α} {n : Nat} {x : α} (hx : xs[n]? = some x) : xs.set n x = xs := by
  obtain ⟨h, e⟩ := List.getElem?_eq_some_iff.1 hx
  rw [← e]
  exact List.set_getElem_self h
theorem map_set_fst {xs : List (Nat × β)} {n : Nat} {b : Nat} {x y : β} (hx : xs[n]? = some (b, x)) : (xs.set n (b, y)).map (·.1) = xs.map (·.1) := by
  rw [List.map_set]
  exact set_same (by simp [hx])
theorem Sat.cells {h0 h : Heap} {L : List Res} (O : Sat h0 h L) (i : Nat) {b : Nat} {cs : List Value} (hi : nth i L = own b cs) (o n : Nat) : cellsAre h (pt b o) ((cs.drop o).take n) := cellsAre_blk (O.blk (nth_lt hi) hi).2 o n
theorem ixA_of_ixS {sz n c : Nat} {a : Addr} {i : Int} {K : Addr → Prop} (h : ixS sz ⟨some a, n, c⟩ i K) : ixA sz a n i K := by
  obtain ⟨a', h1, h2, h3, h4⟩ := h
  have e : a = a' := Option.some.inj h1
  subst e
  exact ⟨h2, h3, h4⟩
theorem Sat.arr {h0 h : Heap} {L : List Res} (O : Sat h0 h L) (i : Nat) {sz b : Nat} {enc : α → List Value} {xs : List α} (he : ∀ x, (enc x).length = sz) (hi : nth i L = own b (xs.flatMap enc)) : View h sz (En enc) ⟨some (pt b 0), xs.length, xs.length⟩ xs := by
  have B := (O.blk (nth_lt hi) hi).2
  rw [← List.append_nil (xs.flatMap enc)] at B
  exact view_of_blk he B
/-- An array's element of one cell is read. -/
theorem Sat.getA {h0 h : Heap} {L : List Res} (O : Sat h0 h L) (j : Nat) {b n : Nat} {enc : α → List Value} {xs : List α} {i : Int} {k : Kd} {K : k.T → Prop} {x : α} (he : ∀ x, (enc x).length = 1) (hj : nth j L = own b (xs.flatMap enc)) (hn : n = xs.length) (h0 : 0 ≤ i) (hx : xs[i.toNat]? = some x) (f : α → k.T) (hf : ∀ x, enc x = [k.enc (f x)])
    (kk : K (f x)) : ixA 1 (pt b 0) n i fun a => V.ld [k] a h K := by
  subst hn
  exact ixA_of_ixS ((O.arr j he hj).get1 h0 hx f hf kk)
/-- An array's element of one cell is read, and lies there for as long as the array is kept. -/
theorem Sat.getA' {h0 h : Heap} {L : List Res} (O : Sat h0 h L) (j : Nat) {b n : Nat} {enc : α → List Value} {xs : List α} {i : Int} {k : Kd} {K : Addr → k.T → Prop} {x : α} (he : ∀ x, (enc x).length = 1) (hj : nth j L = own b (xs.flatMap enc)) (hn : n = xs.length) (h0 : 0 ≤ i) (hx : xs[i.toNat]? = some x) (f : α → k.T) (hf : ∀ x, enc x = [k.enc (f x)])
    (kk : ∀ a, (∀ {h0' h' : Heap} {L' : List Res}, Sat h0' h' L' → ∀ j', nth j' L' = own b (xs.flatMap enc) → cellsAre h' a (enc x)) → K a (f x)) : ixA 1 (pt b 0) n i fun a => V.ld [k] a h (K a) := by
  subst hn
  have hl := (List.getElem?_eq_some_iff.1 hx).1
  refine ⟨h0, by omega, ?_⟩
  have hc : ∀ {h0' h' : Heap} {L' : List Res}, Sat h0' h' L' → ∀ j', nth j' L' = own b (xs.flatMap enc) → cellsAre h' ((pt b 0).add (i.toNat * 1)) (enc x) := by
    intro h0' h' L' O' j' hj'
    obtain ⟨a, cs, h1, _, h3, h4⟩ := (O'.arr j' he hj').2 i.toNat x hx
    have e : pt b 0 = a := Option.some.inj h1
    subst e
    have e2 : cs = enc x := h3
    subst e2
    exact h4
  have h1 := hc O j hj
  rw [hf] at h1
  exact ld_are h1 (ldL_c (ldL_n (kk _ hc)))
/-- An array's element of one cell is written. -/
theorem Sat.putA {h0 h : Heap} {L : List Res} {b n : Nat} {enc : α → List Value} {xs : List α} {i : Int} {K : Heap → Prop} (O : Sat h0 h (own b (xs.flatMap enc) :: L)) (he : ∀ x, (enc x).length = 1) (ho : ∀ x, (enc x).all oneV = true) (hn : n = xs.length)
    (hi0 : 0 ≤ i) (hi1 : i < (xs.length : Int)) (y : α) {cs : List Value} (hcs : cs = enc y) (k : ∀ h', Sat h0 h' (own b ((xs.set i.toNat y).flatMap enc) :: L) → K h') : ixA 1 (pt b 0) n i fun a => V.st a cs h K := by
  subst hcs hn
  refine ⟨hi0, hi1, ?_⟩
  rw [pt_add, Nat.zero_add, Nat.mul_one]
  have hl := flatMap_len he xs
  refine O.st 0 rfl (by rw [he, hl]; omega) (ho y) fun h' O => ?_
  have e := set_flat1 he xs [] i.toNat y (by omega)
  rw [List.append_nil, List.append_nil] at e
  rw [e] at O
  exact k _ O
theorem Fit.i {h : Heap} {N : Nat} {k : IntKind} {b : Ty} {cs : List Value} (F : Fit h N (.cons (.int k) b) cs) : ∃ x c, cs = .int k x :: c ∧ k.min ≤ x ∧ x ≤ k.max ∧ Fit h N b c := by
  obtain ⟨_, c, rfl, _, ⟨x, rfl, h1, h2⟩, F⟩ := F
  exact ⟨x, c, rfl, h1, h2, F⟩
theorem Fit.b {h : Heap} {N : Nat} {b : Ty} {cs : List Value} (F : Fit h N (.cons .bool b) cs) : ∃ x c, cs = .bool x :: c ∧ Fit h N b c := by
  obtain ⟨_, c, rfl, _, ⟨x, rfl⟩, F⟩ := F
  exact ⟨x, c, rfl, F⟩
theorem Fit.a {h : Heap} {N : Nat} {b : Ty} {cs : List Value} (F : Fit h N (.cons .str b) cs) : ∃ (x : ByteArray) (c : List Value), cs = .string x :: c ∧ x.size ≤ N ∧ Fit h N b c := by
  obtain ⟨_, c, rfl, _, ⟨x, rfl, h1⟩, F⟩ := F
  exact ⟨x, c, rfl, h1, F⟩
theorem Fit.s {h : Heap} {N sz bts : Nat} {e b : Ty} {cs : List Value} (F : Fit h N (.cons (.sl sz bts e) b) cs) : ∃ (s : Sl) (c : List Value), cs = .slice s.ptr s.len s.cap :: c ∧ (SlN h N sz bts s fun cs => Fit h N e cs) ∧ Fit h N b c := by
  obtain ⟨_, c, rfl, _, ⟨x, rfl, h1⟩, F⟩ := F
  exact ⟨x, c, rfl, h1, F⟩
theorem Fit.g {h : Heap} {N : Nat} {x y b : Ty} {cs : List Value} (F : Fit h N (.cons (.cons x y) b) cs) : Fit h N (.cons x (.cons y b)) cs := by
  obtain ⟨_, c, rfl, hl, ⟨c1, c2, rfl, h1, F1, F2⟩, F⟩ := F
  refine ⟨c1, c2 ++ c, by rw [List.append_assoc], h1, F1, c2, c, rfl, ?_, F2, F⟩
  rw [List.length_append, h1] at hl
  simp only [Ty.size] at hl
  omega
theorem Fit.z {h : Heap} {N : Nat} {b : Ty} {cs : List Value} (F : Fit h N (.cons .nil b) cs) : Fit h N b cs := by
  obtain ⟨_, c, rfl, _, rfl, F⟩ := F
  exact F
theorem Fit.e {h : Heap} {N : Nat} {cs : List Value} (F : Fit h N .nil cs) : cs = [] := F
theorem okv_one {P : Program} {h : Heap} {N : Nat} {t : TypeId} {k : IntKind} {v : Value} (hu : P.underlying t = some (.int k)) (hv : okv P t v) (F : Fit h N (.int k) v.cells.toList) : ∃ x, v = .int k x ∧ k.min ≤ x ∧ x ≤ k.max := by
  obtain ⟨x, hx, h1, h2⟩ := F
  unfold okv at hv
  rw [hu] at hv
  refine ⟨x, ?_, h1, h2⟩
  cases v <;> simp [Value.cells] at hx <;> first | exact absurd rfl (hv _) | simp_all
theorem lit_buf {h0 h : Heap} {L : List Res} {b : Nat} {x : UInt8} (O : Sat h0 h (own b [.int .u8 (x.toNat : Int)] :: L)) : Sat h0 h (buf 1 u8 ⟨some (pt b 0), 1, 1⟩ [x] :: L) := by
  have O : Sat h0 h (own b ([x].flatMap u8 ++ []) :: L) := O
  exact (O.own_buf (k := 0) (sz := 1) rfl).bufsI
theorem jn_go {L : Ls} {rest : FnL L} {body : FnL L → Prop} (h : body rest) : jn L rest body := h
theorem al_id {T : TypeId} {cs : List Value} {h : Heap} {K : Addr → Heap → Prop} (k : al T cs h K) : al T cs h K := k
theorem nn_id {p : Option Addr} {K : Addr → Prop} (k : nn p K) : nn p K := k
theorem ld_id {ks : List Kd} {a : Addr} {h : Heap} {K : Fn ks Prop} (k : ld ks a h K) : ld ks a h K := k
theorem st_id {a : Addr} {vs : List Value} {h : Heap} {K : Heap → Prop} (k : st a vs h K) : st a vs h K := k
theorem st_ad {a : Addr} {b o : Nat} {vs : List Value} {h : Heap} {K : Heap → Prop} (e : a = pt b o) (k : st (pt b o) vs h K) : st a vs h K := e ▸ k
theorem ca_id {a : Addr} {vs : List Value} {h : Heap} {p : Prop} (k : cellsAre h a vs ∧ p) : cellsAre h a vs ∧ p := k
theorem Sat.ca {h0 h : Heap} {L : List Res} (O : Sat h0 h L) (i k : Nat) {b o : Nat} {cs : List Value} {p : Prop} (e : nth i L = own b cs) (hp : p) : cellsAre h (pt b o) ((cs.drop o).take k) ∧ p := ⟨cellsAre_blk (O.blk (nth_lt e) e).2 o k, hp⟩
theorem ldL_s {ks : List Kd} {p : Option Addr} {n c : Nat} {vs : List Value} {K : Sl → Fn ks Prop} (k : ldL ks vs (K ⟨p, n, c⟩)) : ldL (.sl :: ks) (.slice p n c :: vs) K := ldL_c (k := .sl) (x := ⟨p, n, c⟩) k
end Go.Proofs.Ytcbelendjpnmiaa.V
namespace Go.Proofs.Ytcbelendjpnmiaa.V
open Go Go.RowKit
set_option linter.unusedVariables false
set_option maxRecDepth 100000
def F_ref0_Cmp.l1 (a1 b2 : Sl) (Q : Int → Heap → Prop) (j3 : Heap → Prop) : Int → Heap → Prop :=
  wl [(5, .one (.int .i64))] (fun (next4 : Int → Heap → Prop) (i5 : Int) (h6 : Heap) =>
  jn [(15, .one .bool)] (fun (x8 : Bool) (h9 : Heap) =>
  brr x8
  (ixS 1 a1 i5 fun (a10 : Addr) =>
  ld [.int .u8] a10 h9 fun (v11 : Int) =>
  ixS 1 b2 i5 fun (a12 : Addr) =>
  ld [.int .u8] a12 h9 fun (v13 : Int) =>
  brr (decide (v11 < v13))
  (Q (-1) h9)
  (ixS 1 a1 i5 fun (a14 : Addr) =>
  ld [.int .u8] a14 h9 fun (v15 : Int) =>
  ixS 1 b2 i5 fun (a16 : Addr) =>
  ld [.int .u8] a16 h9 fun (v17 : Int) =>
  brr (decide (v15 > v17))
  (Q 1 h9)
  (next4 (IntKind.i64.wrap (i5 + 1)) h9)))
  (j3 h9)) (fun (j7 : Bool → Heap → Prop) =>
  brr (decide (i5 < ((a1.len : Nat) : Int)))
  (j7 (decide (i5 < ((b2.len : Nat) : Int))) h6)
  (j7 false h6)))
def F_ref0_Cmp_of  (a1 b2 : Sl) (h : Heap) (Q : Int → Heap → Prop) : Prop :=
  jn [] (fun  (h18 : Heap) =>
  brr (decide (((a1.len : Nat) : Int) < ((b2.len : Nat) : Int)))
  (Q (-1) h18)
  (brr (decide (((a1.len : Nat) : Int) > ((b2.len : Nat) : Int)))
  (Q 1 h18)
  (Q 0 h18))) (fun (j3 : Heap → Prop) =>
  F_ref0_Cmp.l1 a1 b2 Q j3 0 h)
def F_ref0_Cmp (a1 b2 : Sl) (h : Heap) (Q : Int → Heap → Prop) : Prop := F_ref0_Cmp_of  a1 b2 h Q
def plan43 : Plan := .s (.r [0, 1]) (.s (.s (.r [0, 1, 5]) (.bj [] [0, 1] (.l [(5, .one (.int .i64))] [0, 1] (.s (.s (.rj [(15, .one .bool)] [0, 1, 5]) (.c .z .z)) (.s (.b (.s (.s (.d [0, 0, 3, 7, 0, 0, 48, 112, 255] [[0, 1, 2, 3, 4, 5, 6, 7, 8]] [0, 1, 5, 26]) (.c (.s (.r [4]) .z) .z)) (.s (.d [0, 0, 3, 7, 0, 0, 48, 112, 255] [[0, 1, 2, 3, 4, 5, 6, 7, 8]] [0, 1, 5, 35]) (.c (.s (.r [4]) .z) .z)))) (.r [0, 1, 5])))))) (.s (.s (.r [0, 1, 40]) (.c (.s (.r [4]) .z) .z)) (.s (.s (.r [45]) (.c (.s (.r [4]) .z) .z)) (.s (.r [4]) .z))))
theorem F_ref0_Cmp.eq  (a1 b2 : Sl) (h : Heap) (K : Value → Heap → Prop) : F_ref0_Cmp_of  a1 b2 h (fun (r0 : Int) (h : Heap) => K (.int .i64 r0) h) =
    den Try.prog noFns Try.f43.ntmps plan43 (bodyOf Try.f43) (args0 0 [(.slice a1.ptr a1.len a1.cap : Value), (.slice b2.ptr b2.len b2.cap : Value)]) h ⟨fun env h => dRes Try.prog Try.f43.results.toList env h K, fun _ _ _ => False, fun env h => dRes Try.prog Try.f43.results.toList env h K⟩ := by kernel_rfl
def E_ref0_Cmp_of (f : Sl → Sl → Heap → (Int → Heap → Prop) → Prop) : List Value → Heap → (Value → Heap → Prop) → Prop
  | [v0, v1], h, K => dec1 .sl v0 fun (a1 : Sl) =>
  dec1 .sl v1 fun (b2 : Sl) =>
  f a1 b2 h (fun (r0 : Int) (h : Heap) => K (.int .i64 r0) h)
  | _, _, _ => False
abbrev E_ref0_Cmp := E_ref0_Cmp_of F_ref0_Cmp
theorem E_ref0_Cmp.right : IsRight Try.prog 43 E_ref0_Cmp := by
  refine isRight fun vs K w hh => ?_
  match vs, hh with
  | [v0, v1], hh =>
    unfold E_ref0_Cmp E_ref0_Cmp_of at hh
    replace hh := dec1_sound hh; obtain ⟨a1, rfl, hh⟩ := hh
    replace hh := dec1_sound hh; obtain ⟨b2, rfl, hh⟩ := hh
    unfold F_ref0_Cmp at hh
    exact calls_den noFns_right plan43 _ w K Try.func43 (by kernel_rfl) (by kernel_rfl) (Eq.mp (F_ref0_Cmp.eq  a1 b2 w.heap K) hh)
theorem ok43 : okFn Try.prog 43 = true := by kernel_rfl
end Go.Proofs.Ytcbelendjpnmiaa.V
namespace Go.Proofs.Ytcbelendjpnmiaa.V
open Go Go.RowKit
set_option linter.unusedVariables false
set_option maxRecDepth 100000
def F_ref0_Eq_of (f43_ : Sl → Sl → Heap → (Int → Heap → Prop) → Prop) (a1 b2 : Sl) (h : Heap) (Q : Bool → Heap → Prop) : Prop :=
  f43_ a1 b2 h fun (r3 : Int) (h4 : Heap) =>
  Q (r3 == 0) h4
def F_ref0_Eq (a1 b2 : Sl) (h : Heap) (Q : Bool → Heap → Prop) : Prop := F_ref0_Eq_of F_ref0_Cmp a1 b2 h Q
def plan25 : Plan := .s (.r [0, 1]) (.s (.r [4]) .z)
theorem F_ref0_Eq.eq (f43_ : Sl → Sl → Heap → (Int → Heap → Prop) → Prop) (a1 b2 : Sl) (h : Heap) (K : Value → Heap → Prop) : F_ref0_Eq_of f43_ a1 b2 h (fun (r0 : Bool) (h : Heap) => K (.bool r0) h) =
    den Try.prog (fn1 43 (E_ref0_Cmp_of f43_) noFns) Try.f25.ntmps plan25 (bodyOf Try.f25) (args0 0 [(.slice a1.ptr a1.len a1.cap : Value), (.slice b2.ptr b2.len b2.cap : Value)]) h ⟨fun env h => dRes Try.prog Try.f25.results.toList env h K, fun _ _ _ => False, fun env h => dRes Try.prog Try.f25.results.toList env h K⟩ := by kernel_rfl
def E_ref0_Eq_of (f : Sl → Sl → Heap → (Bool → Heap → Prop) → Prop) : List Value → Heap → (Value → Heap → Prop) → Prop
  | [v0, v1], h, K => dec1 .sl v0 fun (a1 : Sl) =>
  dec1 .sl v1 fun (b2 : Sl) =>
  f a1 b2 h (fun (r0 : Bool) (h : Heap) => K (.bool r0) h)
  | _, _, _ => False
abbrev E_ref0_Eq := E_ref0_Eq_of F_ref0_Eq
theorem E_ref0_Eq.right : IsRight Try.prog 25 E_ref0_Eq := by
  refine isRight fun vs K w hh => ?_
  match vs, hh with
  | [v0, v1], hh =>
    unfold E_ref0_Eq E_ref0_Eq_of at hh
    replace hh := dec1_sound hh; obtain ⟨a1, rfl, hh⟩ := hh
    replace hh := dec1_sound hh; obtain ⟨b2, rfl, hh⟩ := hh
    unfold F_ref0_Eq at hh
    exact calls_den (fn1_right ok43 E_ref0_Cmp.right noFns_right) plan25 _ w K Try.func25 (by kernel_rfl) (by kernel_rfl) (Eq.mp (F_ref0_Eq.eq F_ref0_Cmp a1 b2 w.heap K) hh)
theorem ok25 : okFn Try.prog 25 = true := by kernel_rfl
end Go.Proofs.Ytcbelendjpnmiaa.V
namespace Go.Proofs.Ytcbelendjpnmiaa.V
open Go Go.RowKit
set_option linter.unusedVariables false
set_option maxRecDepth 100000
def F_ref0_Copy_of  (b1 : Sl) (h : Heap) (Q : Sl → Heap → Prop) : Prop :=
  mk 5 1 1 (.int .u8 0) ((b1.len : Nat) : Int) ((b1.len : Nat) : Int) h fun (s2 : Sl) (h3 : Heap) =>
  cpy 1 s2 b1.ptr b1.len h3 fun (h5 : Heap) =>
  Q s2 h5
def F_ref0_Copy (b1 : Sl) (h : Heap) (Q : Sl → Heap → Prop) : Prop := F_ref0_Copy_of  b1 h Q
def plan22 : Plan := .s (.r [0]) (.s (.r [0, 3]) (.s (.r [3]) (.s (.r [2]) .z)))
theorem F_ref0_Copy.eq  (b1 : Sl) (h : Heap) (K : Value → Heap → Prop) : F_ref0_Copy_of  b1 h (fun (r0 : Sl) (h : Heap) => K (.slice r0.ptr r0.len r0.cap) h) =
    den Try.prog noFns Try.f22.ntmps plan22 (bodyOf Try.f22) (args0 0 [(.slice b1.ptr b1.len b1.cap : Value)]) h ⟨fun env h => dRes Try.prog Try.f22.results.toList env h K, fun _ _ _ => False, fun env h => dRes Try.prog Try.f22.results.toList env h K⟩ := by kernel_rfl
def E_ref0_Copy_of (f : Sl → Heap → (Sl → Heap → Prop) → Prop) : List Value → Heap → (Value → Heap → Prop) → Prop
  | [v0], h, K => dec1 .sl v0 fun (b1 : Sl) =>
  f b1 h (fun (r0 : Sl) (h : Heap) => K (.slice r0.ptr r0.len r0.cap) h)
  | _, _, _ => False
abbrev E_ref0_Copy := E_ref0_Copy_of F_ref0_Copy
theorem E_ref0_Copy.right : IsRight Try.prog 22 E_ref0_Copy := by
  refine isRight fun vs K w hh => ?_
  match vs, hh with
  | [v0], hh =>
    unfold E_ref0_Copy E_ref0_Copy_of at hh
    replace hh := dec1_sound hh; obtain ⟨b1, rfl, hh⟩ := hh
    unfold F_ref0_Copy at hh
    exact calls_den noFns_right plan22 _ w K Try.func22 (by kernel_rfl) (by kernel_rfl) (Eq.mp (F_ref0_Copy.eq  b1 w.heap K) hh)
theorem ok22 : okFn Try.prog 22 = true := by kernel_rfl
end Go.Proofs.Ytcbelendjpnmiaa.V
namespace Go.Proofs.Ytcbelendjpnmiaa.V
open Go Go.RowKit
set_option linter.unusedVariables false
set_option maxRecDepth 100000
def F_law1_Lend_of  (b1 : Sl) (h : Heap) (Q : Sl → Heap → Prop) : Prop :=
  app 5 1 1 (.int .u8 0) (⟨none, 0, 0⟩ : Sl) b1.ptr b1.len h fun (s2 : Sl) (h3 : Heap) =>
  al 5 [.int .u8 165, .int .u8 90, .int .u8 165] h3 fun (a4 : Addr) (h5 : Heap) =>
  app 5 1 1 (.int .u8 0) s2 (some a4) 3 h5 fun (s6 : Sl) (h7 : Heap) =>
  slTo s6 ((b1.len : Nat) : Int) fun (s8 : Sl) =>
  Q s8 h7
def F_law1_Lend (b1 : Sl) (h : Heap) (Q : Sl → Heap → Prop) : Prop := F_law1_Lend_of  b1 h Q
def plan47 : Plan := .s (.r [0]) (.s (.r [0, 3]) (.s (.r [0, 3]) (.s (.r [0, 3]) (.s (.r [2]) .z))))
theorem F_law1_Lend.eq  (b1 : Sl) (h : Heap) (K : Value → Heap → Prop) : F_law1_Lend_of  b1 h (fun (r0 : Sl) (h : Heap) => K (.slice r0.ptr r0.len r0.cap) h) =
    den Try.prog noFns Try.f47.ntmps plan47 (bodyOf Try.f47) (args0 0 [(.slice b1.ptr b1.len b1.cap : Value)]) h ⟨fun env h => dRes Try.prog Try.f47.results.toList env h K, fun _ _ _ => False, fun env h => dRes Try.prog Try.f47.results.toList env h K⟩ := by kernel_rfl
def E_law1_Lend_of (f : Sl → Heap → (Sl → Heap → Prop) → Prop) : List Value → Heap → (Value → Heap → Prop) → Prop
  | [v0], h, K => dec1 .sl v0 fun (b1 : Sl) =>
  f b1 h (fun (r0 : Sl) (h : Heap) => K (.slice r0.ptr r0.len r0.cap) h)
  | _, _, _ => False
abbrev E_law1_Lend := E_law1_Lend_of F_law1_Lend
theorem E_law1_Lend.right : IsRight Try.prog 47 E_law1_Lend := by
  refine isRight fun vs K w hh => ?_
  match vs, hh with
  | [v0], hh =>
    unfold E_law1_Lend E_law1_Lend_of at hh
    replace hh := dec1_sound hh; obtain ⟨b1, rfl, hh⟩ := hh
    unfold F_law1_Lend at hh
    exact calls_den noFns_right plan47 _ w K Try.func47 (by kernel_rfl) (by kernel_rfl) (Eq.mp (F_law1_Lend.eq  b1 w.heap K) hh)
theorem ok47 : okFn Try.prog 47 = true := by kernel_rfl
end Go.Proofs.Ytcbelendjpnmiaa.V
namespace Go.Proofs.Ytcbelendjpnmiaa.V
open Go Go.RowKit
set_option linter.unusedVariables false
set_option maxRecDepth 100000
def F_law1_Intact_of  (l1 b2 : Sl) (h : Heap) (Q : Bool → Heap → Prop) : Prop :=
  b2s l1.ptr l1.len h fun (s3 : ByteArray) =>
  b2s b2.ptr b2.len h fun (s4 : ByteArray) =>
  brr (!(s3.toList == s4.toList))
  (Q false h)
  (slTo l1 (IntKind.i64.wrap (((l1.len : Nat) : Int) + 3)) fun (s5 : Sl) =>
  jn [(4, .one .bool)] (fun (x13 : Bool) (h14 : Heap) =>
  Q x13 h14) (fun (j6 : Bool → Heap → Prop) =>
  ixS 1 s5 ((l1.len : Nat) : Int) fun (a7 : Addr) =>
  ld [.int .u8] a7 h fun (v8 : Int) =>
  brr (v8 == 165)
  (ixS 1 s5 (IntKind.i64.wrap (((l1.len : Nat) : Int) + 1)) fun (a9 : Addr) =>
  ld [.int .u8] a9 h fun (v10 : Int) =>
  brr (v10 == 90)
  (ixS 1 s5 (IntKind.i64.wrap (((l1.len : Nat) : Int) + 2)) fun (a11 : Addr) =>
  ld [.int .u8] a11 h fun (v12 : Int) =>
  j6 (v12 == 165) h)
  (j6 false h))
  (j6 false h)))
def F_law1_Intact (l1 b2 : Sl) (h : Heap) (Q : Bool → Heap → Prop) : Prop := F_law1_Intact_of  l1 b2 h Q
def plan49 : Plan := .s (.r [0, 1]) (.s (.s (.r [0, 10]) (.c (.s (.r [4]) .z) .z)) (.s (.r [0, 5]) (.s (.rj [(4, .one .bool)] []) .z)))
theorem F_law1_Intact.eq  (l1 b2 : Sl) (h : Heap) (K : Value → Heap → Prop) : F_law1_Intact_of  l1 b2 h (fun (r0 : Bool) (h : Heap) => K (.bool r0) h) =
    den Try.prog noFns Try.f49.ntmps plan49 (bodyOf Try.f49) (args0 0 [(.slice l1.ptr l1.len l1.cap : Value), (.slice b2.ptr b2.len b2.cap : Value)]) h ⟨fun env h => dRes Try.prog Try.f49.results.toList env h K, fun _ _ _ => False, fun env h => dRes Try.prog Try.f49.results.toList env h K⟩ := by kernel_rfl
def E_law1_Intact_of (f : Sl → Sl → Heap → (Bool → Heap → Prop) → Prop) : List Value → Heap → (Value → Heap → Prop) → Prop
  | [v0, v1], h, K => dec1 .sl v0 fun (l1 : Sl) =>
  dec1 .sl v1 fun (b2 : Sl) =>
  f l1 b2 h (fun (r0 : Bool) (h : Heap) => K (.bool r0) h)
  | _, _, _ => False
abbrev E_law1_Intact := E_law1_Intact_of F_law1_Intact
theorem E_law1_Intact.right : IsRight Try.prog 49 E_law1_Intact := by
  refine isRight fun vs K w hh => ?_
  match vs, hh with
  | [v0, v1], hh =>
    unfold E_law1_Intact E_law1_Intact_of at hh
    replace hh := dec1_sound hh; obtain ⟨l1, rfl, hh⟩ := hh
    replace hh := dec1_sound hh; obtain ⟨b2, rfl, hh⟩ := hh
    unfold F_law1_Intact at hh
    exact calls_den noFns_right plan49 _ w K Try.func49 (by kernel_rfl) (by kernel_rfl) (Eq.mp (F_law1_Intact.eq  l1 b2 w.heap K) hh)
theorem ok49 : okFn Try.prog 49 = true := by kernel_rfl
end Go.Proofs.Ytcbelendjpnmiaa.V
/- Lists of bytes: compared, copied, lent with marks in their spare room, laid over. -/
namespace Go.Proofs.Ytcbelendjpnmiaa.V
open Go Go.RowKit
set_option linter.unusedVariables false
set_option linter.unusedSimpArgs false
variable {α : Type}
theorem take_succ_eq {xs : List α} {i : Nat} {x : α} (h : xs[i]? = some x) : xs.take (i + 1) = xs.take i ++ [x] := by rw [List.take_add_one, h]; rfl
theorem F_ref0_Cmp.is {h : Heap} {a b : Sl} {xs ys : List UInt8} {Q : Int → Heap → Prop} (V1 : Bytes h a xs) (V2 : Bytes h b ys) (h1 : xs.length < 4611686018427387904) (h2 : ys.length < 4611686018427387904) (k : ∀ r : Int, (r = 0 ↔ xs = ys) → Q r h) : F_ref0_Cmp a b h Q := by
  rw [F_ref0_Cmp.eq_1, F_ref0_Cmp_of.eq_1]
  rw [V1.len, V2.len]
  refine jn0 (fun h' => h' = h ∧ ∃ i, xs.take i = ys.take i ∧ (xs.length ≤ i ∨ ys.length ≤ i)) ?_ ?_
  · rintro h ⟨rfl, i, he, hi⟩
    refine brr_p (fun hlt => ?_) (fun hlt => ?_)
    · exact k _ ⟨fun h => (by cases h), fun h => by subst h; omega⟩
    · refine brr_p (fun hgt => ?_) (fun hgt => ?_)
      · exact k _ ⟨fun h => (by cases h), fun h => by subst h; omega⟩
      · refine k _ ⟨fun _ => ?_, fun _ => rfl⟩
        rw [List.take_of_length_le (by omega), List.take_of_length_le (by omega)] at he
        exact he
  · intro j hj
    rw [F_ref0_Cmp.l1.eq_1]
    refine wl1 (k := .int .i64) (fun (m : Nat) (i : Int) (h' : Heap) => h' = h ∧ 0 ≤ i ∧ i ≤ xs.length ∧ i + m = xs.length ∧ xs.take i.toNat = ys.take i.toNat) ?_ (m := xs.length) ⟨rfl, by omega, by omega, by omega, by simp⟩
    rintro m (i : Int) h next hn ⟨rfl, hi0, hi1, him, he⟩
    rw [V1.len, V2.len]
    refine jn1 (fun t h' => h' = h ∧ (t = true → i < xs.length ∧ i < ys.length) ∧ (t = false → (xs.length : Int) ≤ i ∨ (ys.length : Int) ≤ i)) ?_ ?_
    · rintro t h ⟨rfl, ht, hf⟩
      refine brr_of (fun e => ?_) (fun e => ?_)
      · obtain ⟨hx, hy⟩ := ht e
        refine Bytes.at V1 hi0 hx fun x hxx => ?_
        refine Bytes.at V2 hi0 hy fun y hyy => ?_
        have hne : x ≠ y → xs ≠ ys := fun hxy hs => by
          subst hs
          rw [hxx] at hyy
          exact hxy (Option.some.inj hyy)
        refine brr_p (fun hlt => ?_) (fun hlt => ?_)
        · exact k _ ⟨fun h => (by cases h), fun h => absurd h (hne (by intro h; subst h; omega))⟩
        · refine Bytes.at V1 hi0 hx fun x' hxx' => ?_
          refine Bytes.at V2 hi0 hy fun y' hyy' => ?_
          obtain rfl : x = x' := by rw [hxx] at hxx'; exact Option.some.inj hxx'
          obtain rfl : y = y' := by rw [hyy] at hyy'; exact Option.some.inj hyy'
          refine brr_p (fun hgt => ?_) (fun hgt => ?_)
          · exact k _ ⟨fun h => (by cases h), fun h => absurd h (hne (by intro h; subst h; omega))⟩
          · have hxy : x = y := UInt8.toNat.inj (by omega)
            rw [wrap64 (by omega) (by omega)]
            refine hn (m - 1) _ _ (by omega) ⟨rfl, by omega, by omega, by omega, ?_⟩
            rw [show (i + 1).toNat = i.toNat + 1 by omega, take_succ_eq hxx, take_succ_eq hyy, he, hxy]
      · refine hj _ ⟨rfl, i.toNat, he, ?_⟩
        rcases hf e with h | h
        · exact .inl (by omega)
        · exact .inr (by omega)
    · intro j2 hj2
      refine brr_p (fun hlt => ?_) (fun hlt => ?_)
      · refine hj2 _ _ ⟨rfl, fun e => ⟨hlt, by simpa using e⟩, fun e => .inr (by simpa using e)⟩
      · exact hj2 _ _ ⟨rfl, fun e => (by cases e), fun _ => .inl (by omega)⟩
theorem F_ref0_Eq.is {h : Heap} {a b : Sl} {xs ys : List UInt8} {Q : Bool → Heap → Prop} (V1 : Bytes h a xs) (V2 : Bytes h b ys) (h1 : xs.length < 4611686018427387904) (h2 : ys.length < 4611686018427387904) (k : Q (decide (xs = ys)) h) : F_ref0_Eq a b h Q := by
  rw [F_ref0_Eq.eq_1, F_ref0_Eq_of.eq_1]
  refine F_ref0_Cmp.is V1 V2 h1 h2 fun r hr => ?_
  have e : (r == 0) = decide (xs = ys) := by
    by_cases h : xs = ys
    · simp [h, hr.2 h]
    · have : r ≠ 0 := fun e => h (hr.1 e)
      simp [h, this]
  rw [e]
  exact k
theorem put_all {cs vs : List Value} (h : vs.length = cs.length) : V.put cs 0 vs = vs := by
  have := put_app [] cs vs (by omega)
  simp only [List.nil_append, List.length_nil] at this
  rw [this, h]; simp
theorem flat_u8 (l : List UInt8) : (l.flatMap u8).length = l.length := by rw [flatMap_len u8_len]; omega
theorem all_one {enc : α → List Value} (ho : ∀ x, (enc x).all oneV = true) (xs : List α) : (xs.flatMap enc).all oneV = true := by
  simp only [List.all_eq_true, List.mem_flatMap]
  rintro v ⟨x, _, hv⟩
  exact List.all_eq_true.1 (ho x) v hv
theorem F_ref0_Copy.is {h0 h : Heap} {L : List Res} {a : Sl} {xs : List UInt8} {Q : Sl → Heap → Prop} (O : Sat h0 h L) (V1 : Bytes h a xs) (h1 : xs.length ≤ 281474976710656) (k : ∀ s h', Sat h0 h' (buf 1 u8 s xs :: L) → s.len = xs.length → s.ptr ≠ none → Q s h') : F_ref0_Copy a h Q := by
  rw [F_ref0_Copy.eq_1, F_ref0_Copy_of.eq_1]
  have hl := V1.len
  refine (Sat.nil h).mk_buf (by omega) (by omega) (by omega) fun b h2 N => ?_
  refine ⟨xs.flatMap u8, ?_, ?_⟩
  · have := (V1.kept N.kept).rd u8_len
    rw [show Nat.min a.len ((a.len : Int).toNat) = a.len by simp]
    exact this
  · simp only [stP]
    have O := O.stack N
    refine O.st 0 rfl (by rw [flat_u8, mkCells_len]; omega) (all_one u8_one xs) fun h3 O => ?_
    have O : Sat h0 h3 (own b (V.put (mkCells (Value.int .u8 0) ((a.len : Int).toNat * 1)) 0 (xs.flatMap u8)) :: L) := O
    rw [put_all (by rw [flat_u8, mkCells_len]; omega)] at O
    have O : Sat h0 h3 (own b (xs.flatMap u8 ++ []) :: L) := by rw [List.append_nil]; exact O
    have O := O.own_buf (k := 0) (sz := 1) (by simp)
    refine k _ _ ?_ (by simp [hl]) (by simp)
    have e : (⟨some (pt b 0), (a.len : Int).toNat, (a.len : Int).toNat⟩ : Sl) = ⟨some (pt b 0), xs.length, xs.length + 0⟩ := by simp [hl]
    rw [e]
    exact O.bufsI
def marks : List UInt8 := [165, 90, 165]
def lent (s : Sl) (xs : List UInt8) : Res := ex fun sp => bufs 1 u8 s xs (marks.flatMap u8 ++ sp)
theorem lent.split {s : Sl} {xs : List UInt8} {E : Blks} (h : lent s xs E) : ∃ b k sp, s = ⟨some (pt b 0), xs.length, xs.length + k⟩ ∧ 3 ≤ k ∧ E = [(b, (xs ++ marks).flatMap u8 ++ sp)] ∧ sp.length + 3 = k := by
  obtain ⟨sp, h⟩ := h
  rcases h with ⟨_, _, h, _⟩ | ⟨b, k, rfl, h2, rfl⟩
  · simp [marks, u8] at h
  · rw [List.length_append, flat_u8] at h2
    have : marks.length = 3 := rfl
    exact ⟨b, k, sp, rfl, by omega, by rw [List.flatMap_append, List.append_assoc], by omega⟩
theorem Sat.lent {h0 h : Heap} {L : List Res} (O : Sat h0 h L) (i : Nat) {s : Sl} {xs : List UInt8} (hl : i < L.length) (hi : nth i L = V.lent s xs) : Bytes h s xs ∧ s.len + 3 ≤ s.cap ∧ Bytes h ⟨s.ptr, s.len + 3, s.cap⟩ (xs ++ marks) := by
  obtain ⟨E1, E2, h1, O', _⟩ := O.at i hl
  rw [hi] at h1
  obtain ⟨b, k, sp, rfl, hk, rfl, _⟩ := lent.split h1
  have B := (O'.blk _ List.mem_cons_self).2
  have e : (xs ++ marks).length = xs.length + 3 := by simp [marks]
  have V3 := view_of_blk (k := xs.length + k) u8_len B
  rw [e] at V3
  refine ⟨?_, by simp; omega, V3⟩
  rw [List.flatMap_append, List.append_assoc] at B
  exact view_of_blk u8_len B
theorem b2s_view {h : Heap} {s : Sl} {l : List UInt8} {K : ByteArray → Prop} (V1 : Bytes h s l) (k : K ⟨l.toArray⟩) : b2s s.ptr s.len h K := by
  refine ⟨l.map fun x => (x.toNat : Int), ?_, ?_⟩
  · have := V1.rd u8_len
    rw [Nat.mul_one] at this
    rw [this]
    congr 1
    rw [List.map_map]
    induction l with
    | nil => rfl
    | cons x l ih =>
      rw [List.flatMap_cons, List.map_cons, ih' l]
      rfl
  · have e : bytesOfInts (l.map fun x => (x.toNat : Int)) = ⟨l.toArray⟩ := by
      unfold bytesOfInts
      congr 2
      rw [List.map_map]
      conv => rhs; rw [← List.map_id l]
      congr 1
      funext x
      simp
    rw [e]; exact k
where ih' : ∀ l : List UInt8, l.flatMap u8 = l.map (Value.int .u8 ∘ fun x => (x.toNat : Int))
  | [] => rfl
  | x :: l => by rw [List.flatMap_cons, List.map_cons, ih' l]; rfl
theorem bytes_toList (l : List UInt8) : (⟨l.toArray⟩ : ByteArray).toList = l := by rw [ByteArray.toList_eq]
theorem Sat.lendI {h0 h : Heap} {L : List Res} {s : Sl} {xs : List UInt8} (O : Sat h0 h (buf 1 u8 s (xs ++ marks) :: L)) : Sat h0 h (V.lent ⟨s.ptr, xs.length, s.cap⟩ xs :: L) := by
  refine O.mono fun E hE => ?_
  obtain ⟨sp, hE⟩ := hE
  rcases hE with ⟨_, h, _, _⟩ | ⟨b, k, rfl, h2, rfl⟩
  · simp [marks] at h
  · refine ⟨sp, .inr ⟨b, k + 3, ?_, ?_, ?_⟩⟩
    · simp [marks]; omega
    · rw [List.length_append, flat_u8, h2]
      show 3 + k * 1 = (k + 3) * 1
      omega
    · rw [List.flatMap_append, List.append_assoc]
theorem F_law1_Lend.is {h0 h : Heap} {L : List Res} {a : Sl} {xs : List UInt8} {Q : Sl → Heap → Prop} (O : Sat h0 h L) (V1 : Bytes h a xs) (h1 : xs.length + 3 ≤ 140737488355328) (k : ∀ s h', Sat h0 h' (lent s xs :: L) → s.len = xs.length → Q s h') : F_law1_Lend a h Q := by
  rw [F_law1_Lend.eq_1, F_law1_Lend_of.eq_1]
  have hl := V1.len
  have O := O.nil_buf (sz := 1) (enc := u8)
  refine O.app_buf u8_len u8_one rfl (ys := xs) hl (V1.rd u8_len) (by simp; omega) fun s2 h2 O hs2 => ?_
  have O := O
  rw [List.nil_append] at O
  refine O.al fun b h3 O => ?_
  have O := O.swap
  refine O.app_buf u8_len u8_one rfl (ys := marks) rfl ?_ (by simp [marks]; omega) fun s4 h4 O hs4 => ?_
  · have := rdP_own O.swap 0 rfl 3 (by simp)
    exact this
  · have O := O.swap.drop
    have hv := (O.view 0 u8_len (by simp) rfl).2
    have O := O.lendI
    refine ⟨by omega, ?_, ?_⟩
    · rw [hl, hs4] at *; simp [marks] at hv; omega
    · rw [hl]
      exact k _ _ O rfl
theorem F_law1_Intact.is {h0 h : Heap} {L : List Res} (O : Sat h0 h L) (i : Nat) {s b : Sl} {xs ys : List UInt8} {Q : Bool → Heap → Prop} (hi : i < L.length) (hn : nth i L = lent s xs) (V2 : Bytes h b ys) (h1 : xs.length < 4611686018427387904) (k : Q (decide (xs = ys)) h) : F_law1_Intact s b h Q := by
  rw [F_law1_Intact.eq_1, F_law1_Intact_of.eq_1]
  obtain ⟨V1, hc, V3⟩ := O.lent i hi hn
  have hl := V1.len
  refine b2s_view V1 ?_
  refine b2s_view V2 ?_
  rw [bytes_toList, bytes_toList]
  by_cases e : xs = ys
  · rw [show (xs == ys) = true by simpa using e]
    rw [show decide (xs = ys) = true by simpa using e] at k
    refine brr_ff rfl ?_
    rw [wrap64 (x := (s.len : Int) + 3) (by omega) (by omega), wrap64 (x := (s.len : Int) + 1) (by omega) (by omega), wrap64 (x := (s.len : Int) + 2) (by omega) (by omega)]
    refine ⟨by omega, by omega, ?_⟩
    have V3 : Bytes h ⟨s.ptr, ((s.len : Int) + 3).toNat, s.cap⟩ (xs ++ marks) := V3
    refine jn1 (fun t h' => t = true ∧ h' = h) ?_ ?_
    · rintro t h ⟨rfl, rfl⟩
      exact k
    · intro j hj
      have m3 : marks.length = 3 := rfl
      refine Bytes.at V3 (by omega) (by simp; omega) fun x hx => ?_
      have hx' : (xs ++ marks)[xs.length + 0]? = some x := by rw [← hx]; congr 1; omega
      rw [List.getElem?_append_right (by omega)] at hx'
      simp [marks] at hx'; subst hx'
      refine brr_tt (by decide) ?_
      refine Bytes.at V3 (by omega) (by simp; omega) fun x hx => ?_
      have hx' : (xs ++ marks)[xs.length + 1]? = some x := by rw [← hx]; congr 1; omega
      rw [List.getElem?_append_right (by omega)] at hx'
      simp [marks] at hx'; subst hx'
      refine brr_tt (by decide) ?_
      refine Bytes.at V3 (by omega) (by simp; omega) fun x hx => ?_
      have hx' : (xs ++ marks)[xs.length + 2]? = some x := by rw [← hx]; congr 1; omega
      rw [List.getElem?_append_right (by omega)] at hx'
      simp [marks] at hx'; subst hx'
      exact hj _ _ ⟨by decide, rfl⟩
  · rw [show (xs == ys) = false by simpa using e]
    rw [show decide (xs = ys) = false by simpa using e] at k
    exact brr_tt rfl k
/-- A byte of one's own list is written. -/
theorem Sat.putL {h0 h : Heap} {L : List Res} {s : Sl} {xs : List UInt8} {i : Int} {K : Heap → Prop} (O : Sat h0 h (V.lent s xs :: L)) (hi0 : 0 ≤ i) (hi1 : i < (xs.length : Int)) (y : UInt8) {cs : List Value} (hcs : cs = u8 y) (k : ∀ h', Sat h0 h' (V.lent s (xs.set i.toNat y) :: L) → K h') : ixS 1 s i fun a => V.st a cs h K := by
  subst hcs
  obtain ⟨E, ⟨E1, E2, p, hA, h2⟩, O⟩ := O
  have O := O.perm p.symm
  obtain ⟨sp, hA⟩ := hA
  rcases hA with ⟨_, _, h, _⟩ | ⟨b, j, rfl, hsp, rfl⟩
  · simp [marks, u8] at h
  · refine ⟨pt b 0, rfl, hi0, hi1, ?_⟩
    rw [pt_add, Nat.zero_add, Nat.mul_one]
    have hl := flatMap_len u8_len xs
    refine Held.st O (by rw [u8_len, List.length_append, hl]; omega) (u8_one y) fun h' O' => ?_
    rw [set_flat1 u8_len _ _ _ _ (by omega)] at O'
    exact k _ ⟨_, ⟨[(b, _)], E2, List.Perm.refl _, ⟨sp, .inr ⟨b, j, by simp, hsp, rfl⟩⟩, h2⟩, O'⟩
end Go.Proofs.Ytcbelendjpnmiaa.V
namespace Go.Proofs.Ytcbelendjpnmiaa.V
open Go Go.RowKit
set_option linter.unusedVariables false
set_option maxRecDepth 100000
def F_bytes_Clone_of  (b1 : Sl) (h : Heap) (Q : Sl → Heap → Prop) : Prop :=
  brr b1.ptr.isNone
  (Q (⟨none, 0, 0⟩ : Sl) h)
  (al 5 [] h fun (a2 : Addr) (h3 : Heap) =>
  app 5 1 1 (.int .u8 0) ⟨(some a2), 0, 0⟩ b1.ptr b1.len h3 fun (s4 : Sl) (h5 : Heap) =>
  Q s4 h5)
def F_bytes_Clone (b1 : Sl) (h : Heap) (Q : Sl → Heap → Prop) : Prop := F_bytes_Clone_of  b1 h Q
def plan30 : Plan := .s (.r [0]) (.s (.s (.r [0, 4]) (.c (.s (.r [2]) .z) .z)) (.s (.r [2]) .z))
theorem F_bytes_Clone.eq  (b1 : Sl) (h : Heap) (K : Value → Heap → Prop) : F_bytes_Clone_of  b1 h (fun (r0 : Sl) (h : Heap) => K (.slice r0.ptr r0.len r0.cap) h) =
    den Try.prog noFns Try.f30.ntmps plan30 (bodyOf Try.f30) (args0 0 [(.slice b1.ptr b1.len b1.cap : Value)]) h ⟨fun env h => dRes Try.prog Try.f30.results.toList env h K, fun _ _ _ => False, fun env h => dRes Try.prog Try.f30.results.toList env h K⟩ := by kernel_rfl
def E_bytes_Clone_of (f : Sl → Heap → (Sl → Heap → Prop) → Prop) : List Value → Heap → (Value → Heap → Prop) → Prop
  | [v0], h, K => dec1 .sl v0 fun (b1 : Sl) =>
  f b1 h (fun (r0 : Sl) (h : Heap) => K (.slice r0.ptr r0.len r0.cap) h)
  | _, _, _ => False
abbrev E_bytes_Clone := E_bytes_Clone_of F_bytes_Clone
theorem E_bytes_Clone.right : IsRight Try.prog 30 E_bytes_Clone := by
  refine isRight fun vs K w hh => ?_
  match vs, hh with
  | [v0], hh =>
    unfold E_bytes_Clone E_bytes_Clone_of at hh
    replace hh := dec1_sound hh; obtain ⟨b1, rfl, hh⟩ := hh
    unfold F_bytes_Clone at hh
    exact calls_den noFns_right plan30 _ w K Try.func30 (by kernel_rfl) (by kernel_rfl) (Eq.mp (F_bytes_Clone.eq  b1 w.heap K) hh)
theorem ok30 : okFn Try.prog 30 = true := by kernel_rfl
end Go.Proofs.Ytcbelendjpnmiaa.V
namespace Go.Proofs.Ytcbelendjpnmiaa.V
open Go Go.RowKit
set_option linter.unusedVariables false
set_option maxRecDepth 100000
def F_replica_Replica_Stored_of (f30_ : Sl → Heap → (Sl → Heap → Prop) → Prop) (r1 : Option Addr) (h : Heap) (Q : Int → Int → Int → Sl → Heap → Prop) : Prop :=
  al 44 [.int .u64 0, .int .u64 0, .int .u64 0, .slice none 0 0] h fun (a2 : Addr) (h3 : Heap) =>
  nn r1 fun (a4 : Addr) =>
  ld [.int .u64, .int .u64, .int .u64, .sl] (a4.add 0) h3 fun (v5 v6 v7 : Int) (v8 : Sl) =>
  al 44 [.int .u64 0, .int .u64 0, .int .u64 0, .slice none 0 0] h3 fun (a9 : Addr) (h10 : Heap) =>
  st a9 [.int .u64 v5, .int .u64 v6, .int .u64 v7, .slice v8.ptr v8.len v8.cap] h10 fun (h11 : Heap) =>
  ld [.sl] (a9.add 3) h11 fun (v12 : Sl) =>
  f30_ v12 h11 fun (r13 : Sl) (h14 : Heap) =>
  st (a9.add 3) [.slice r13.ptr r13.len r13.cap] h14 fun (h15 : Heap) =>
  ld [.int .u64, .int .u64, .int .u64, .sl] a9 h15 fun (v16 v17 v18 : Int) (v19 : Sl) =>
  st a2 [.int .u64 v16, .int .u64 v17, .int .u64 v18, .slice v19.ptr v19.len v19.cap] h15 fun (h20 : Heap) =>
  ld [.int .u64, .int .u64, .int .u64, .sl] a2 h20 fun (v21 v22 v23 : Int) (v24 : Sl) =>
  Q v21 v22 v23 v24 h20
def F_replica_Replica_Stored (r1 : Option Addr) (h : Heap) (Q : Int → Int → Int → Sl → Heap → Prop) : Prop := F_replica_Replica_Stored_of F_bytes_Clone r1 h Q
def plan23 : Plan := .s (.r [0, 2]) (.s (.r [2, 3]) (.s (.r [2, 3]) (.s (.r [2]) .z)))
theorem F_replica_Replica_Stored.eq (f30_ : Sl → Heap → (Sl → Heap → Prop) → Prop) (r1 : Option Addr) (h : Heap) (K : Value → Heap → Prop) : F_replica_Replica_Stored_of f30_ r1 h (fun (r0 r1 r2 : Int) (r3 : Sl) (h : Heap) => K (.agg #[.int .u64 r0, .int .u64 r1, .int .u64 r2, .slice r3.ptr r3.len r3.cap]) h) =
    den Try.prog (fn1 30 (E_bytes_Clone_of f30_) noFns) Try.f23.ntmps plan23 (bodyOf Try.f23) (args0 0 [(.pointer r1 : Value)]) h ⟨fun env h => dRes Try.prog Try.f23.results.toList env h K, fun _ _ _ => False, fun env h => dRes Try.prog Try.f23.results.toList env h K⟩ := by kernel_rfl
def E_replica_Replica_Stored_of (f : Option Addr → Heap → (Int → Int → Int → Sl → Heap → Prop) → Prop) : List Value → Heap → (Value → Heap → Prop) → Prop
  | [v0], h, K => dec1 .ptr v0 fun (r1 : Option Addr) =>
  f r1 h (fun (r0 r1 r2 : Int) (r3 : Sl) (h : Heap) => K (.agg #[.int .u64 r0, .int .u64 r1, .int .u64 r2, .slice r3.ptr r3.len r3.cap]) h)
  | _, _, _ => False
abbrev E_replica_Replica_Stored := E_replica_Replica_Stored_of F_replica_Replica_Stored
theorem E_replica_Replica_Stored.right : IsRight Try.prog 23 E_replica_Replica_Stored := by
  refine isRight fun vs K w hh => ?_
  match vs, hh with
  | [v0], hh =>
    unfold E_replica_Replica_Stored E_replica_Replica_Stored_of at hh
    replace hh := dec1_sound hh; obtain ⟨r1, rfl, hh⟩ := hh
    unfold F_replica_Replica_Stored at hh
    exact calls_den (fn1_right ok30 E_bytes_Clone.right noFns_right) plan23 _ w K Try.func23 (by kernel_rfl) (by kernel_rfl) (Eq.mp (F_replica_Replica_Stored.eq F_bytes_Clone r1 w.heap K) hh)
theorem ok23 : okFn Try.prog 23 = true := by kernel_rfl
end Go.Proofs.Ytcbelendjpnmiaa.V
namespace Go.Proofs.Ytcbelendjpnmiaa.V
open Go Go.RowKit
set_option linter.unusedVariables false
set_option maxRecDepth 100000
def F_replica_Replica_promise_of  (r1 : Option Addr) (epoch2 : Int) (h : Heap) (Q : Bool → Heap → Prop) : Prop :=
  nn r1 fun (a3 : Addr) =>
  ld [.int .u64] ((a3.add 0).add 0) h fun (v4 : Int) =>
  nn r1 fun (a5 : Addr) =>
  st ((a5.add 0).add 0) [.int .u64 epoch2] h fun (h6 : Heap) =>
  Q (v4 != epoch2) h6
def F_replica_Replica_promise (r1 : Option Addr) (epoch2 : Int) (h : Heap) (Q : Bool → Heap → Prop) : Prop := F_replica_Replica_promise_of  r1 epoch2 h Q
def plan65 : Plan := .s (.r [0, 1]) (.s (.r [0, 1, 5]) (.s (.r [1, 5]) (.s (.r [4]) .z)))
theorem F_replica_Replica_promise.eq  (r1 : Option Addr) (epoch2 : Int) (h : Heap) (K : Value → Heap → Prop) : F_replica_Replica_promise_of  r1 epoch2 h (fun (r0 : Bool) (h : Heap) => K (.bool r0) h) =
    den Try.prog noFns Try.f65.ntmps plan65 (bodyOf Try.f65) (args0 0 [(.pointer r1 : Value), (.int .u64 epoch2 : Value)]) h ⟨fun env h => dRes Try.prog Try.f65.results.toList env h K, fun _ _ _ => False, fun env h => dRes Try.prog Try.f65.results.toList env h K⟩ := by kernel_rfl
def E_replica_Replica_promise_of (f : Option Addr → Int → Heap → (Bool → Heap → Prop) → Prop) : List Value → Heap → (Value → Heap → Prop) → Prop
  | [v0, v1], h, K => dec1 .ptr v0 fun (r1 : Option Addr) =>
  dec1 (.int .u64) v1 fun (epoch2 : Int) =>
  f r1 epoch2 h (fun (r0 : Bool) (h : Heap) => K (.bool r0) h)
  | _, _, _ => False
abbrev E_replica_Replica_promise := E_replica_Replica_promise_of F_replica_Replica_promise
theorem E_replica_Replica_promise.right : IsRight Try.prog 65 E_replica_Replica_promise := by
  refine isRight fun vs K w hh => ?_
  match vs, hh with
  | [v0, v1], hh =>
    unfold E_replica_Replica_promise E_replica_Replica_promise_of at hh
    replace hh := dec1_sound hh; obtain ⟨r1, rfl, hh⟩ := hh
    replace hh := dec1_sound hh; obtain ⟨epoch2, rfl, hh⟩ := hh
    unfold F_replica_Replica_promise at hh
    exact calls_den noFns_right plan65 _ w K Try.func65 (by kernel_rfl) (by kernel_rfl) (Eq.mp (F_replica_Replica_promise.eq  r1 epoch2 w.heap K) hh)
theorem ok65 : okFn Try.prog 65 = true := by kernel_rfl
end Go.Proofs.Ytcbelendjpnmiaa.V
namespace Go.Proofs.Ytcbelendjpnmiaa.V
open Go Go.RowKit
set_option linter.unusedVariables false
set_option maxRecDepth 100000
def F_cmp_isNaN_beedc_of  (x1 : Int) (h : Heap) (Q : Bool → Heap → Prop) : Prop :=
  Q (x1 != x1) h
def F_cmp_isNaN_beedc (x1 : Int) (h : Heap) (Q : Bool → Heap → Prop) : Prop := F_cmp_isNaN_beedc_of  x1 h Q
def plan97 : Plan := .s (.r [0]) (.s (.r [2]) .z)
theorem F_cmp_isNaN_beedc.eq  (x1 : Int) (h : Heap) (K : Value → Heap → Prop) : F_cmp_isNaN_beedc_of  x1 h (fun (r0 : Bool) (h : Heap) => K (.bool r0) h) =
    den Try.prog noFns Try.f97.ntmps plan97 (bodyOf Try.f97) (args0 0 [(.int .u64 x1 : Value)]) h ⟨fun env h => dRes Try.prog Try.f97.results.toList env h K, fun _ _ _ => False, fun env h => dRes Try.prog Try.f97.results.toList env h K⟩ := by kernel_rfl
def E_cmp_isNaN_beedc_of (f : Int → Heap → (Bool → Heap → Prop) → Prop) : List Value → Heap → (Value → Heap → Prop) → Prop
  | [v0], h, K => dec1 (.int .u64) v0 fun (x1 : Int) =>
  f x1 h (fun (r0 : Bool) (h : Heap) => K (.bool r0) h)
  | _, _, _ => False
abbrev E_cmp_isNaN_beedc := E_cmp_isNaN_beedc_of F_cmp_isNaN_beedc
theorem E_cmp_isNaN_beedc.right : IsRight Try.prog 97 E_cmp_isNaN_beedc := by
  refine isRight fun vs K w hh => ?_
  match vs, hh with
  | [v0], hh =>
    unfold E_cmp_isNaN_beedc E_cmp_isNaN_beedc_of at hh
    replace hh := dec1_sound hh; obtain ⟨x1, rfl, hh⟩ := hh
    unfold F_cmp_isNaN_beedc at hh
    exact calls_den noFns_right plan97 _ w K Try.func97 (by kernel_rfl) (by kernel_rfl) (Eq.mp (F_cmp_isNaN_beedc.eq  x1 w.heap K) hh)
theorem ok97 : okFn Try.prog 97 = true := by kernel_rfl
end Go.Proofs.Ytcbelendjpnmiaa.V
namespace Go.Proofs.Ytcbelendjpnmiaa.V
open Go Go.RowKit
set_option linter.unusedVariables false
set_option maxRecDepth 100000
def F_cmp_Compare_fdced_of (f97_ : Int → Heap → (Bool → Heap → Prop) → Prop) (x1 y2 : Int) (h : Heap) (Q : Int → Heap → Prop) : Prop :=
  f97_ x1 h fun (r3 : Bool) (h4 : Heap) =>
  f97_ y2 h4 fun (r5 : Bool) (h6 : Heap) =>
  brr r3
  (brr r5
  (Q 0 h6)
  (Q (-1) h6))
  (brr r5
  (Q 1 h6)
  (brr (decide (x1 < y2))
  (Q (-1) h6)
  (brr (decide (x1 > y2))
  (Q 1 h6)
  (Q 0 h6))))
def F_cmp_Compare_fdced (x1 y2 : Int) (h : Heap) (Q : Int → Heap → Prop) : Prop := F_cmp_Compare_fdced_of F_cmp_isNaN_beedc x1 y2 h Q
def plan66 : Plan := .s (.r [0, 1]) (.s (.r [0, 1, 5]) (.s (.r [0, 1, 5, 6]) (.s (.s (.r [0, 1, 6, 11]) (.c (.s (.s (.r [12]) (.c (.s (.r [4]) .z) .z)) (.s (.r [4]) .z)) .z)) (.s (.s (.r [0, 1, 13]) (.c (.s (.r [4]) .z) .z)) (.s (.s (.r [0, 1, 16]) (.c (.s (.r [4]) .z) .z)) (.s (.s (.r [19]) (.c (.s (.r [4]) .z) .z)) (.s (.r [4]) .z)))))))
theorem F_cmp_Compare_fdced.eq (f97_ : Int → Heap → (Bool → Heap → Prop) → Prop) (x1 y2 : Int) (h : Heap) (K : Value → Heap → Prop) : F_cmp_Compare_fdced_of f97_ x1 y2 h (fun (r0 : Int) (h : Heap) => K (.int .i64 r0) h) =
    den Try.prog (fn1 97 (E_cmp_isNaN_beedc_of f97_) noFns) Try.f66.ntmps plan66 (bodyOf Try.f66) (args0 0 [(.int .u64 x1 : Value), (.int .u64 y2 : Value)]) h ⟨fun env h => dRes Try.prog Try.f66.results.toList env h K, fun _ _ _ => False, fun env h => dRes Try.prog Try.f66.results.toList env h K⟩ := by kernel_rfl
def E_cmp_Compare_fdced_of (f : Int → Int → Heap → (Int → Heap → Prop) → Prop) : List Value → Heap → (Value → Heap → Prop) → Prop
  | [v0, v1], h, K => dec1 (.int .u64) v0 fun (x1 : Int) =>
  dec1 (.int .u64) v1 fun (y2 : Int) =>
  f x1 y2 h (fun (r0 : Int) (h : Heap) => K (.int .i64 r0) h)
  | _, _, _ => False
abbrev E_cmp_Compare_fdced := E_cmp_Compare_fdced_of F_cmp_Compare_fdced
theorem E_cmp_Compare_fdced.right : IsRight Try.prog 66 E_cmp_Compare_fdced := by
  refine isRight fun vs K w hh => ?_
  match vs, hh with
  | [v0, v1], hh =>
    unfold E_cmp_Compare_fdced E_cmp_Compare_fdced_of at hh
    replace hh := dec1_sound hh; obtain ⟨x1, rfl, hh⟩ := hh
    replace hh := dec1_sound hh; obtain ⟨y2, rfl, hh⟩ := hh
    unfold F_cmp_Compare_fdced at hh
    exact calls_den (fn1_right ok97 E_cmp_isNaN_beedc.right noFns_right) plan66 _ w K Try.func66 (by kernel_rfl) (by kernel_rfl) (Eq.mp (F_cmp_Compare_fdced.eq F_cmp_isNaN_beedc x1 y2 w.heap K) hh)
theorem ok66 : okFn Try.prog 66 = true := by kernel_rfl
end Go.Proofs.Ytcbelendjpnmiaa.V
namespace Go.Proofs.Ytcbelendjpnmiaa.V
open Go Go.RowKit
set_option linter.unusedVariables false
set_option maxRecDepth 100000
def F_replica_answer_of  (kind1 : Int) (h : Heap) (Q : Int → Int → Int → Int → Int → Int → Int → Int → Int → Int → Sl → Int → Int → ByteArray → ByteArray → Int → Int → Int → Int → Int → Int → Int → Heap → Prop) : Prop :=
  al 42 [.int .i64 0, .int .i64 0, .int .i64 0, .int .i64 0, .int .u64 0, .int .u64 0, .int .u64 0, .int .u64 0, .int .i64 0, .int .u64 0, .slice none 0 0, .int .i64 0, .int .u64 0, .string (⟨#[]⟩ : ByteArray), .string (⟨#[]⟩ : ByteArray), .int .u64 0, .int .u64 0, .int .u64 0, .int .i64 0, .int .i64 0, .int .i64 0, .int .i64 0] h fun (a2 : Addr) (h3 : Heap) =>
  st a2 [.int .i64 kind1, .int .i64 0, .int .i64 0, .int .i64 0, .int .u64 0, .int .u64 0, .int .u64 0, .int .u64 0, .int .i64 0, .int .u64 0, .slice none 0 0, .int .i64 0, .int .u64 0, .string (⟨#[]⟩ : ByteArray), .string (⟨#[]⟩ : ByteArray), .int .u64 0, .int .u64 0, .int .u64 0, .int .i64 0, .int .i64 0, .int .i64 0, .int .i64 0] h3 fun (h4 : Heap) =>
  ld [.int .i64, .int .i64, .int .i64, .int .i64, .int .u64, .int .u64, .int .u64, .int .u64, .int .i64, .int .u64, .sl, .int .i64, .int .u64, .str, .str, .int .u64, .int .u64, .int .u64, .int .i64, .int .i64, .int .i64, .int .i64] a2 h4 fun (v5 v6 v7 v8 v9 v10 v11 v12 v13 v14 : Int) (v15 : Sl) (v16 v17 : Int) (v18 v19 : ByteArray) (v20 v21 v22 v23 v24 v25 v26 : Int) =>
  Q v5 v6 v7 v8 v9 v10 v11 v12 v13 v14 v15 v16 v17 v18 v19 v20 v21 v22 v23 v24 v25 v26 h4
def F_replica_answer (kind1 : Int) (h : Heap) (Q : Int → Int → Int → Int → Int → Int → Int → Int → Int → Int → Sl → Int → Int → ByteArray → ByteArray → Int → Int → Int → Int → Int → Int → Int → Heap → Prop) : Prop := F_replica_answer_of  kind1 h Q
def plan68 : Plan := .s (.r [0, 2]) (.s (.r [2]) .z)
theorem F_replica_answer.eq  (kind1 : Int) (h : Heap) (K : Value → Heap → Prop) : F_replica_answer_of  kind1 h (fun (r0 r1 r2 r3 r4 r5 r6 r7 r8 r9 : Int) (r10 : Sl) (r11 r12 : Int) (r13 r14 : ByteArray) (r15 r16 r17 r18 r19 r20 r21 : Int) (h : Heap) => K (.agg #[.int .i64 r0, .int .i64 r1, .int .i64 r2, .int .i64 r3, .int .u64 r4, .int .u64 r5, .int .u64 r6, .int .u64 r7, .int .i64 r8, .int .u64 r9, .slice r10.ptr r10.len r10.cap, .int .i64 r11, .int .u64 r12, .string r13, .string r14, .int .u64 r15, .int .u64 r16, .int .u64 r17, .int .i64 r18, .int .i64 r19, .int .i64 r20, .int .i64 r21]) h) =
    den Try.prog noFns Try.f68.ntmps plan68 (bodyOf Try.f68) (args0 0 [(.int .i64 kind1 : Value)]) h ⟨fun env h => dRes Try.prog Try.f68.results.toList env h K, fun _ _ _ => False, fun env h => dRes Try.prog Try.f68.results.toList env h K⟩ := by kernel_rfl
def E_replica_answer_of (f : Int → Heap → (Int → Int → Int → Int → Int → Int → Int → Int → Int → Int → Sl → Int → Int → ByteArray → ByteArray → Int → Int → Int → Int → Int → Int → Int → Heap → Prop) → Prop) : List Value → Heap → (Value → Heap → Prop) → Prop
  | [v0], h, K => dec1 (.int .i64) v0 fun (kind1 : Int) =>
  f kind1 h (fun (r0 r1 r2 r3 r4 r5 r6 r7 r8 r9 : Int) (r10 : Sl) (r11 r12 : Int) (r13 r14 : ByteArray) (r15 r16 r17 r18 r19 r20 r21 : Int) (h : Heap) => K (.agg #[.int .i64 r0, .int .i64 r1, .int .i64 r2, .int .i64 r3, .int .u64 r4, .int .u64 r5, .int .u64 r6, .int .u64 r7, .int .i64 r8, .int .u64 r9, .slice r10.ptr r10.len r10.cap, .int .i64 r11, .int .u64 r12, .string r13, .string r14, .int .u64 r15, .int .u64 r16, .int .u64 r17, .int .i64 r18, .int .i64 r19, .int .i64 r20, .int .i64 r21]) h)
  | _, _, _ => False
abbrev E_replica_answer := E_replica_answer_of F_replica_answer
theorem E_replica_answer.right : IsRight Try.prog 68 E_replica_answer := by
  refine isRight fun vs K w hh => ?_
  match vs, hh with
  | [v0], hh =>
    unfold E_replica_answer E_replica_answer_of at hh
    replace hh := dec1_sound hh; obtain ⟨kind1, rfl, hh⟩ := hh
    unfold F_replica_answer at hh
    exact calls_den noFns_right plan68 _ w K Try.func68 (by kernel_rfl) (by kernel_rfl) (Eq.mp (F_replica_answer.eq  kind1 w.heap K) hh)
theorem ok68 : okFn Try.prog 68 = true := by kernel_rfl
end Go.Proofs.Ytcbelendjpnmiaa.V
namespace Go.Proofs.Ytcbelendjpnmiaa.V
open Go Go.RowKit
set_option linter.unusedVariables false
set_option maxRecDepth 100000
def F_replica_Replica_refuse_of (f68_ : Int → Heap → (Int → Int → Int → Int → Int → Int → Int → Int → Int → Int → Sl → Int → Int → ByteArray → ByteArray → Int → Int → Int → Int → Int → Int → Int → Heap → Prop) → Prop) (r1 : Option Addr) (epoch2 : Int) (h : Heap) (Q : Int → Int → Int → Int → Int → Int → Int → Int → Int → Int → Sl → Int → Int → ByteArray → ByteArray → Int → Int → Int → Int → Int → Int → Int → Bool → Bool → Bool → Heap → Prop) : Prop :=
  al 49 [.int .i64 0, .int .i64 0, .int .i64 0, .int .i64 0, .int .u64 0, .int .u64 0, .int .u64 0, .int .u64 0, .int .i64 0, .int .u64 0, .slice none 0 0, .int .i64 0, .int .u64 0, .string (⟨#[]⟩ : ByteArray), .string (⟨#[]⟩ : ByteArray), .int .u64 0, .int .u64 0, .int .u64 0, .int .i64 0, .int .i64 0, .int .i64 0, .int .i64 0, .bool false, .bool false, .bool false] h fun (a3 : Addr) (h4 : Heap) =>
  f68_ 3 h4 fun (r5 r6 r7 r8 r9 r10 r11 r12 r13 r14 : Int) (r15 : Sl) (r16 r17 : Int) (r18 r19 : ByteArray) (r20 r21 r22 r23 r24 r25 r26 : Int) (h27 : Heap) =>
  al 42 [.int .i64 0, .int .i64 0, .int .i64 0, .int .i64 0, .int .u64 0, .int .u64 0, .int .u64 0, .int .u64 0, .int .i64 0, .int .u64 0, .slice none 0 0, .int .i64 0, .int .u64 0, .string (⟨#[]⟩ : ByteArray), .string (⟨#[]⟩ : ByteArray), .int .u64 0, .int .u64 0, .int .u64 0, .int .i64 0, .int .i64 0, .int .i64 0, .int .i64 0] h27 fun (a28 : Addr) (h29 : Heap) =>
  st a28 [.int .i64 r5, .int .i64 r6, .int .i64 r7, .int .i64 r8, .int .u64 r9, .int .u64 r10, .int .u64 r11, .int .u64 r12, .int .i64 r13, .int .u64 r14, .slice r15.ptr r15.len r15.cap, .int .i64 r16, .int .u64 r17, .string r18, .string r19, .int .u64 r20, .int .u64 r21, .int .u64 r22, .int .i64 r23, .int .i64 r24, .int .i64 r25, .int .i64 r26] h29 fun (h30 : Heap) =>
  nn r1 fun (a31 : Addr) =>
  ld [.int .u64] ((a31.add 0).add 0) h30 fun (v32 : Int) =>
  st (a28.add 4) [.int .u64 epoch2] h30 fun (h33 : Heap) =>
  cellsAre h33 ((a31.add 0).add 0) [.int .u64 v32] ∧
  st (a28.add 9) [.int .u64 v32] h33 fun (h34 : Heap) =>
  ld [.int .i64, .int .i64, .int .i64, .int .i64, .int .u64, .int .u64, .int .u64, .int .u64, .int .i64, .int .u64, .sl, .int .i64, .int .u64, .str, .str, .int .u64, .int .u64, .int .u64, .int .i64, .int .i64, .int .i64, .int .i64] a28 h34 fun (v35 v36 v37 v38 v39 v40 v41 v42 v43 v44 : Int) (v45 : Sl) (v46 v47 : Int) (v48 v49 : ByteArray) (v50 v51 v52 v53 v54 v55 v56 : Int) =>
  st a3 [.int .i64 v35, .int .i64 v36, .int .i64 v37, .int .i64 v38, .int .u64 v39, .int .u64 v40, .int .u64 v41, .int .u64 v42, .int .i64 v43, .int .u64 v44, .slice v45.ptr v45.len v45.cap, .int .i64 v46, .int .u64 v47, .string v48, .string v49, .int .u64 v50, .int .u64 v51, .int .u64 v52, .int .i64 v53, .int .i64 v54, .int .i64 v55, .int .i64 v56, .bool false, .bool false, .bool false] h34 fun (h57 : Heap) =>
  ld [.int .i64, .int .i64, .int .i64, .int .i64, .int .u64, .int .u64, .int .u64, .int .u64, .int .i64, .int .u64, .sl, .int .i64, .int .u64, .str, .str, .int .u64, .int .u64, .int .u64, .int .i64, .int .i64, .int .i64, .int .i64, .bool, .bool, .bool] a3 h57 fun (v58 v59 v60 v61 v62 v63 v64 v65 v66 v67 : Int) (v68 : Sl) (v69 v70 : Int) (v71 v72 : ByteArray) (v73 v74 v75 v76 v77 v78 v79 : Int) (v80 v81 v82 : Bool) =>
  Q v58 v59 v60 v61 v62 v63 v64 v65 v66 v67 v68 v69 v70 v71 v72 v73 v74 v75 v76 v77 v78 v79 v80 v81 v82 h57
def F_replica_Replica_refuse (r1 : Option Addr) (epoch2 : Int) (h : Heap) (Q : Int → Int → Int → Int → Int → Int → Int → Int → Int → Int → Sl → Int → Int → ByteArray → ByteArray → Int → Int → Int → Int → Int → Int → Int → Bool → Bool → Bool → Heap → Prop) : Prop := F_replica_Replica_refuse_of F_replica_answer r1 epoch2 h Q
def plan67 : Plan := .s (.r [0, 1, 4]) (.s (.r [0, 1, 4, 5]) (.s (.d [0, 0, 2, 6, 14, 30, 1, 65, 255, 511] [[0, 1, 2, 3, 4, 5, 6, 7, 8, 9]] [4, 5]) (.s (.r [4]) .z)))
theorem F_replica_Replica_refuse.eq (f68_ : Int → Heap → (Int → Int → Int → Int → Int → Int → Int → Int → Int → Int → Sl → Int → Int → ByteArray → ByteArray → Int → Int → Int → Int → Int → Int → Int → Heap → Prop) → Prop) (r1 : Option Addr) (epoch2 : Int) (h : Heap) (K : Value → Heap → Prop) : F_replica_Replica_refuse_of f68_ r1 epoch2 h (fun (r0 r1 r2 r3 r4 r5 r6 r7 r8 r9 : Int) (r10 : Sl) (r11 r12 : Int) (r13 r14 : ByteArray) (r15 r16 r17 r18 r19 r20 r21 : Int) (r22 r23 r24 : Bool) (h : Heap) => K (.agg #[.int .i64 r0, .int .i64 r1, .int .i64 r2, .int .i64 r3, .int .u64 r4, .int .u64 r5, .int .u64 r6, .int .u64 r7, .int .i64 r8, .int .u64 r9, .slice r10.ptr r10.len r10.cap, .int .i64 r11, .int .u64 r12, .string r13, .string r14, .int .u64 r15, .int .u64 r16, .int .u64 r17, .int .i64 r18, .int .i64 r19, .int .i64 r20, .int .i64 r21, .bool r22, .bool r23, .bool r24]) h) =
    den Try.prog (fn1 68 (E_replica_answer_of f68_) noFns) Try.f67.ntmps plan67 (bodyOf Try.f67) (args0 0 [(.pointer r1 : Value), (.int .u64 epoch2 : Value)]) h ⟨fun env h => dRes Try.prog Try.f67.results.toList env h K, fun _ _ _ => False, fun env h => dRes Try.prog Try.f67.results.toList env h K⟩ := by kernel_rfl
def E_replica_Replica_refuse_of (f : Option Addr → Int → Heap → (Int → Int → Int → Int → Int → Int → Int → Int → Int → Int → Sl → Int → Int → ByteArray → ByteArray → Int → Int → Int → Int → Int → Int → Int → Bool → Bool → Bool → Heap → Prop) → Prop) : List Value → Heap → (Value → Heap → Prop) → Prop
  | [v0, v1], h, K => dec1 .ptr v0 fun (r1 : Option Addr) =>
  dec1 (.int .u64) v1 fun (epoch2 : Int) =>
  f r1 epoch2 h (fun (r0 r1 r2 r3 r4 r5 r6 r7 r8 r9 : Int) (r10 : Sl) (r11 r12 : Int) (r13 r14 : ByteArray) (r15 r16 r17 r18 r19 r20 r21 : Int) (r22 r23 r24 : Bool) (h : Heap) => K (.agg #[.int .i64 r0, .int .i64 r1, .int .i64 r2, .int .i64 r3, .int .u64 r4, .int .u64 r5, .int .u64 r6, .int .u64 r7, .int .i64 r8, .int .u64 r9, .slice r10.ptr r10.len r10.cap, .int .i64 r11, .int .u64 r12, .string r13, .string r14, .int .u64 r15, .int .u64 r16, .int .u64 r17, .int .i64 r18, .int .i64 r19, .int .i64 r20, .int .i64 r21, .bool r22, .bool r23, .bool r24]) h)
  | _, _, _ => False
abbrev E_replica_Replica_refuse := E_replica_Replica_refuse_of F_replica_Replica_refuse
theorem E_replica_Replica_refuse.right : IsRight Try.prog 67 E_replica_Replica_refuse := by
  refine isRight fun vs K w hh => ?_
  match vs, hh with
  | [v0, v1], hh =>
    unfold E_replica_Replica_refuse E_replica_Replica_refuse_of at hh
    replace hh := dec1_sound hh; obtain ⟨r1, rfl, hh⟩ := hh
    replace hh := dec1_sound hh; obtain ⟨epoch2, rfl, hh⟩ := hh
    unfold F_replica_Replica_refuse at hh
    exact calls_den (fn1_right ok68 E_replica_answer.right noFns_right) plan67 _ w K Try.func67 (by kernel_rfl) (by kernel_rfl) (Eq.mp (F_replica_Replica_refuse.eq F_replica_answer r1 epoch2 w.heap K) hh)
theorem ok67 : okFn Try.prog 67 = true := by kernel_rfl
end Go.Proofs.Ytcbelendjpnmiaa.V
namespace Go.Proofs.Ytcbelendjpnmiaa.V
open Go Go.RowKit
set_option linter.unusedVariables false
set_option maxRecDepth 100000
def F_replica_Replica_prepare_of (f23_ : Option Addr → Heap → (Int → Int → Int → Sl → Heap → Prop) → Prop) (f65_ : Option Addr → Int → Heap → (Bool → Heap → Prop) → Prop) (f66_ : Int → Int → Heap → (Int → Heap → Prop) → Prop) (f67_ : Option Addr → Int → Heap → (Int → Int → Int → Int → Int → Int → Int → Int → Int → Int → Sl → Int → Int → ByteArray → ByteArray → Int → Int → Int → Int → Int → Int → Int → Bool → Bool → Bool → Heap → Prop) → Prop) (f68_ : Int → Heap → (Int → Int → Int → Int → Int → Int → Int → Int → Int → Int → Sl → Int → Int → ByteArray → ByteArray → Int → Int → Int → Int → Int → Int → Int → Heap → Prop) → Prop) (r1 : Option Addr) (m2 m3 m4 m5 m6 m7 m8 m9 m10 m11 : Int) (m12 : Sl) (m13 m14 : Int) (m15 m16 : ByteArray) (m17 m18 m19 m20 m21 m22 m23 : Int) (h : Heap) (Q : Int → Int → Int → Int → Int → Int → Int → Int → Int → Int → Sl → Int → Int → ByteArray → ByteArray → Int → Int → Int → Int → Int → Int → Int → Bool → Bool → Bool → Heap → Prop) : Prop :=
  al 42 [.int .i64 m2, .int .i64 m3, .int .i64 m4, .int .i64 m5, .int .u64 m6, .int .u64 m7, .int .u64 m8, .int .u64 m9, .int .i64 m10, .int .u64 m11, .slice m12.ptr m12.len m12.cap, .int .i64 m13, .int .u64 m14, .string m15, .string m16, .int .u64 m17, .int .u64 m18, .int .u64 m19, .int .i64 m20, .int .i64 m21, .int .i64 m22, .int .i64 m23] h fun (a24 : Addr) (h25 : Heap) =>
  al 49 [.int .i64 0, .int .i64 0, .int .i64 0, .int .i64 0, .int .u64 0, .int .u64 0, .int .u64 0, .int .u64 0, .int .i64 0, .int .u64 0, .slice none 0 0, .int .i64 0, .int .u64 0, .string (⟨#[]⟩ : ByteArray), .string (⟨#[]⟩ : ByteArray), .int .u64 0, .int .u64 0, .int .u64 0, .int .i64 0, .int .i64 0, .int .i64 0, .int .i64 0, .bool false, .bool false, .bool false] h25 fun (a26 : Addr) (h27 : Heap) =>
  ld [.int .u64] (a24.add 4) h27 fun (v28 : Int) =>
  nn r1 fun (a29 : Addr) =>
  ld [.int .u64] ((a29.add 0).add 0) h27 fun (v30 : Int) =>
  f66_ v28 v30 h27 fun (r31 : Int) (h32 : Heap) =>
  jn [(29, .one .bool)] (fun (x36 : Bool) (h37 : Heap) =>
  brr x36
  (ld [.int .u64] (a24.add 4) h37 fun (v38 : Int) =>
  f67_ r1 v38 h37 fun (r39 r40 r41 r42 r43 r44 r45 r46 r47 r48 : Int) (r49 : Sl) (r50 r51 : Int) (r52 r53 : ByteArray) (r54 r55 r56 r57 r58 r59 r60 : Int) (r61 r62 r63 : Bool) (h64 : Heap) =>
  st a26 [.int .i64 r39, .int .i64 r40, .int .i64 r41, .int .i64 r42, .int .u64 r43, .int .u64 r44, .int .u64 r45, .int .u64 r46, .int .i64 r47, .int .u64 r48, .slice r49.ptr r49.len r49.cap, .int .i64 r50, .int .u64 r51, .string r52, .string r53, .int .u64 r54, .int .u64 r55, .int .u64 r56, .int .i64 r57, .int .i64 r58, .int .i64 r59, .int .i64 r60, .bool r61, .bool r62, .bool r63] h64 fun (h65 : Heap) =>
  ld [.int .i64, .int .i64, .int .i64, .int .i64, .int .u64, .int .u64, .int .u64, .int .u64, .int .i64, .int .u64, .sl, .int .i64, .int .u64, .str, .str, .int .u64, .int .u64, .int .u64, .int .i64, .int .i64, .int .i64, .int .i64, .bool, .bool, .bool] a26 h65 fun (v66 v67 v68 v69 v70 v71 v72 v73 v74 v75 : Int) (v76 : Sl) (v77 v78 : Int) (v79 v80 : ByteArray) (v81 v82 v83 v84 v85 v86 v87 : Int) (v88 v89 v90 : Bool) =>
  Q v66 v67 v68 v69 v70 v71 v72 v73 v74 v75 v76 v77 v78 v79 v80 v81 v82 v83 v84 v85 v86 v87 v88 v89 v90 h65)
  (ld [.int .u64] (a24.add 4) h37 fun (v91 : Int) =>
  f65_ r1 v91 h37 fun (r92 : Bool) (h93 : Heap) =>
  f68_ 2 h93 fun (r94 r95 r96 r97 r98 r99 r100 r101 r102 r103 : Int) (r104 : Sl) (r105 r106 : Int) (r107 r108 : ByteArray) (r109 r110 r111 r112 r113 r114 r115 : Int) (h116 : Heap) =>
  al 42 [.int .i64 0, .int .i64 0, .int .i64 0, .int .i64 0, .int .u64 0, .int .u64 0, .int .u64 0, .int .u64 0, .int .i64 0, .int .u64 0, .slice none 0 0, .int .i64 0, .int .u64 0, .string (⟨#[]⟩ : ByteArray), .string (⟨#[]⟩ : ByteArray), .int .u64 0, .int .u64 0, .int .u64 0, .int .i64 0, .int .i64 0, .int .i64 0, .int .i64 0] h116 fun (a117 : Addr) (h118 : Heap) =>
  st a117 [.int .i64 r94, .int .i64 r95, .int .i64 r96, .int .i64 r97, .int .u64 r98, .int .u64 r99, .int .u64 r100, .int .u64 r101, .int .i64 r102, .int .u64 r103, .slice r104.ptr r104.len r104.cap, .int .i64 r105, .int .u64 r106, .string r107, .string r108, .int .u64 r109, .int .u64 r110, .int .u64 r111, .int .i64 r112, .int .i64 r113, .int .i64 r114, .int .i64 r115] h118 fun (h119 : Heap) =>
  f23_ r1 h119 fun (r120 r121 r122 : Int) (r123 : Sl) (h124 : Heap) =>
  al 44 [.int .u64 0, .int .u64 0, .int .u64 0, .slice none 0 0] h124 fun (a125 : Addr) (h126 : Heap) =>
  st a125 [.int .u64 r120, .int .u64 r121, .int .u64 r122, .slice r123.ptr r123.len r123.cap] h126 fun (h127 : Heap) =>
  ld [.int .u64] (a24.add 4) h127 fun (v128 : Int) =>
  ld [.int .u64, .int .u64] (a125.add 1) h127 fun (v129 v130 : Int) =>
  ld [.sl] (a125.add 3) h127 fun (v131 : Sl) =>
  st (a117.add 4) [.int .u64 v128] h127 fun (h132 : Heap) =>
  cellsAre h132 (a125.add 1) [.int .u64 v129, .int .u64 v130] ∧
  cellsAre h132 (a125.add 3) [.slice v131.ptr v131.len v131.cap] ∧
  st (a117.add 5) [.int .u64 v129, .int .u64 v130] h132 fun (h133 : Heap) =>
  cellsAre h133 (a125.add 3) [.slice v131.ptr v131.len v131.cap] ∧
  st (a117.add 10) [.slice v131.ptr v131.len v131.cap] h133 fun (h134 : Heap) =>
  ld [.int .i64, .int .i64, .int .i64, .int .i64, .int .u64, .int .u64, .int .u64, .int .u64, .int .i64, .int .u64, .sl, .int .i64, .int .u64, .str, .str, .int .u64, .int .u64, .int .u64, .int .i64, .int .i64, .int .i64, .int .i64] a117 h134 fun (v135 v136 v137 v138 v139 v140 v141 v142 v143 v144 : Int) (v145 : Sl) (v146 v147 : Int) (v148 v149 : ByteArray) (v150 v151 v152 v153 v154 v155 v156 : Int) =>
  st a26 [.int .i64 v135, .int .i64 v136, .int .i64 v137, .int .i64 v138, .int .u64 v139, .int .u64 v140, .int .u64 v141, .int .u64 v142, .int .i64 v143, .int .u64 v144, .slice v145.ptr v145.len v145.cap, .int .i64 v146, .int .u64 v147, .string v148, .string v149, .int .u64 v150, .int .u64 v151, .int .u64 v152, .int .i64 v153, .int .i64 v154, .int .i64 v155, .int .i64 v156, .bool false, .bool false, .bool r92] h134 fun (h157 : Heap) =>
  ld [.int .i64, .int .i64, .int .i64, .int .i64, .int .u64, .int .u64, .int .u64, .int .u64, .int .i64, .int .u64, .sl, .int .i64, .int .u64, .str, .str, .int .u64, .int .u64, .int .u64, .int .i64, .int .i64, .int .i64, .int .i64, .bool, .bool, .bool] a26 h157 fun (v158 v159 v160 v161 v162 v163 v164 v165 v166 v167 : Int) (v168 : Sl) (v169 v170 : Int) (v171 v172 : ByteArray) (v173 v174 v175 v176 v177 v178 v179 : Int) (v180 v181 v182 : Bool) =>
  Q v158 v159 v160 v161 v162 v163 v164 v165 v166 v167 v168 v169 v170 v171 v172 v173 v174 v175 v176 v177 v178 v179 v180 v181 v182 h157)) (fun (j33 : Bool → Heap → Prop) =>
  brr (decide (r31 < 0))
  (j33 true h32)
  (brr (decide (r31 > 0))
  (nn r1 fun (a34 : Addr) =>
  ld [.int .i64] (a34.add 4) h32 fun (v35 : Int) =>
  j33 (decide (v35 > 0)) h32)
  (j33 false h32)))
def F_replica_Replica_prepare (r1 : Option Addr) (m2 m3 m4 m5 m6 m7 m8 m9 m10 m11 : Int) (m12 : Sl) (m13 m14 : Int) (m15 m16 : ByteArray) (m17 m18 m19 m20 m21 m22 m23 : Int) (h : Heap) (Q : Int → Int → Int → Int → Int → Int → Int → Int → Int → Int → Sl → Int → Int → ByteArray → ByteArray → Int → Int → Int → Int → Int → Int → Int → Bool → Bool → Bool → Heap → Prop) : Prop := F_replica_Replica_prepare_of F_replica_Replica_Stored F_replica_Replica_promise F_cmp_Compare_fdced F_replica_Replica_refuse F_replica_answer r1 m2 m3 m4 m5 m6 m7 m8 m9 m10 m11 m12 m13 m14 m15 m16 m17 m18 m19 m20 m21 m22 m23 h Q
def plan44 : Plan := .s (.r [0, 3, 4]) (.s (.s (.d [0, 1, 0, 4, 12, 28, 60, 127, 255] [[0, 1, 2, 3, 4, 5, 6, 7, 8]] [0, 3, 4, 5]) (.s (.rj [(29, .one .bool)] [0, 3, 4]) (.c (.s (.r [4]) .z) .z))) (.s (.r [0, 3, 4, 6]) (.s (.r [0, 3, 4, 6, 7]) (.s (.r [3, 4, 6, 7, 8]) (.s (.d [0, 1, 0, 4, 0, 16, 3, 67, 207, 463, 1023, 2047] [[0, 1, 2, 3, 4, 5, 6, 7, 8, 9, 10, 11]] [4, 6, 7]) (.s (.r [4]) .z))))))
theorem F_replica_Replica_prepare.eq (f23_ : Option Addr → Heap → (Int → Int → Int → Sl → Heap → Prop) → Prop) (f65_ : Option Addr → Int → Heap → (Bool → Heap → Prop) → Prop) (f66_ : Int → Int → Heap → (Int → Heap → Prop) → Prop) (f67_ : Option Addr → Int → Heap → (Int → Int → Int → Int → Int → Int → Int → Int → Int → Int → Sl → Int → Int → ByteArray → ByteArray → Int → Int → Int → Int → Int → Int → Int → Bool → Bool → Bool → Heap → Prop) → Prop) (f68_ : Int → Heap → (Int → Int → Int → Int → Int → Int → Int → Int → Int → Int → Sl → Int → Int → ByteArray → ByteArray → Int → Int → Int → Int → Int → Int → Int → Heap → Prop) → Prop) (r1 : Option Addr) (m2 m3 m4 m5 m6 m7 m8 m9 m10 m11 : Int) (m12 : Sl) (m13 m14 : Int) (m15 m16 : ByteArray) (m17 m18 m19 m20 m21 m22 m23 : Int) (h : Heap) (K : Value → Heap → Prop) : F_replica_Replica_prepare_of f23_ f65_ f66_ f67_ f68_ r1 m2 m3 m4 m5 m6 m7 m8 m9 m10 m11 m12 m13 m14 m15 m16 m17 m18 m19 m20 m21 m22 m23 h (fun (r0 r1 r2 r3 r4 r5 r6 r7 r8 r9 : Int) (r10 : Sl) (r11 r12 : Int) (r13 r14 : ByteArray) (r15 r16 r17 r18 r19 r20 r21 : Int) (r22 r23 r24 : Bool) (h : Heap) => K (.agg #[.int .i64 r0, .int .i64 r1, .int .i64 r2, .int .i64 r3, .int .u64 r4, .int .u64 r5, .int .u64 r6, .int .u64 r7, .int .i64 r8, .int .u64 r9, .slice r10.ptr r10.len r10.cap, .int .i64 r11, .int .u64 r12, .string r13, .string r14, .int .u64 r15, .int .u64 r16, .int .u64 r17, .int .i64 r18, .int .i64 r19, .int .i64 r20, .int .i64 r21, .bool r22, .bool r23, .bool r24]) h) =
    den Try.prog (fn1 23 (E_replica_Replica_Stored_of f23_) (fn1 65 (E_replica_Replica_promise_of f65_) (fn1 66 (E_cmp_Compare_fdced_of f66_) (fn1 67 (E_replica_Replica_refuse_of f67_) (fn1 68 (E_replica_answer_of f68_) noFns))))) Try.f44.ntmps plan44 (bodyOf Try.f44) (args0 0 [(.pointer r1 : Value), (.agg #[.int .i64 m2, .int .i64 m3, .int .i64 m4, .int .i64 m5, .int .u64 m6, .int .u64 m7, .int .u64 m8, .int .u64 m9, .int .i64 m10, .int .u64 m11, .slice m12.ptr m12.len m12.cap, .int .i64 m13, .int .u64 m14, .string m15, .string m16, .int .u64 m17, .int .u64 m18, .int .u64 m19, .int .i64 m20, .int .i64 m21, .int .i64 m22, .int .i64 m23] : Value)]) h ⟨fun env h => dRes Try.prog Try.f44.results.toList env h K, fun _ _ _ => False, fun env h => dRes Try.prog Try.f44.results.toList env h K⟩ := by kernel_rfl
def E_replica_Replica_prepare_of (f : Option Addr → Int → Int → Int → Int → Int → Int → Int → Int → Int → Int → Sl → Int → Int → ByteArray → ByteArray → Int → Int → Int → Int → Int → Int → Int → Heap → (Int → Int → Int → Int → Int → Int → Int → Int → Int → Int → Sl → Int → Int → ByteArray → ByteArray → Int → Int → Int → Int → Int → Int → Int → Bool → Bool → Bool → Heap → Prop) → Prop) : List Value → Heap → (Value → Heap → Prop) → Prop
  | [v0, v1], h, K => dec1 .ptr v0 fun (r1 : Option Addr) =>
  vAgg v1 fun cs1 => decs [.int .i64, .int .i64, .int .i64, .int .i64, .int .u64, .int .u64, .int .u64, .int .u64, .int .i64, .int .u64, .sl, .int .i64, .int .u64, .str, .str, .int .u64, .int .u64, .int .u64, .int .i64, .int .i64, .int .i64, .int .i64] cs1.toList fun (m2 m3 m4 m5 m6 m7 m8 m9 m10 m11 : Int) (m12 : Sl) (m13 m14 : Int) (m15 m16 : ByteArray) (m17 m18 m19 m20 m21 m22 m23 : Int) =>
  f r1 m2 m3 m4 m5 m6 m7 m8 m9 m10 m11 m12 m13 m14 m15 m16 m17 m18 m19 m20 m21 m22 m23 h (fun (r0 r1 r2 r3 r4 r5 r6 r7 r8 r9 : Int) (r10 : Sl) (r11 r12 : Int) (r13 r14 : ByteArray) (r15 r16 r17 r18 r19 r20 r21 : Int) (r22 r23 r24 : Bool) (h : Heap) => K (.agg #[.int .i64 r0, .int .i64 r1, .int .i64 r2, .int .i64 r3, .int .u64 r4, .int .u64 r5, .int .u64 r6, .int .u64 r7, .int .i64 r8, .int .u64 r9, .slice r10.ptr r10.len r10.cap, .int .i64 r11, .int .u64 r12, .string r13, .string r14, .int .u64 r15, .int .u64 r16, .int .u64 r17, .int .i64 r18, .int .i64 r19, .int .i64 r20, .int .i64 r21, .bool r22, .bool r23, .bool r24]) h)
  | _, _, _ => False
abbrev E_replica_Replica_prepare := E_replica_Replica_prepare_of F_replica_Replica_prepare
theorem E_replica_Replica_prepare.right : IsRight Try.prog 44 E_replica_Replica_prepare := by
  refine isRight fun vs K w hh => ?_
  match vs, hh with
  | [v0, v1], hh =>
    unfold E_replica_Replica_prepare E_replica_Replica_prepare_of at hh
    replace hh := dec1_sound hh; obtain ⟨r1, rfl, hh⟩ := hh
    replace hh := vAgg_sound hh; obtain ⟨cs1, rfl, hh⟩ := hh
    replace hh := decs_cons hh; obtain ⟨m2, l1_0, e1_0, hh⟩ := hh
    replace hh := decs_cons hh; obtain ⟨m3, l1_1, e1_1, hh⟩ := hh
    replace hh := decs_cons hh; obtain ⟨m4, l1_2, e1_2, hh⟩ := hh
    replace hh := decs_cons hh; obtain ⟨m5, l1_3, e1_3, hh⟩ := hh
    replace hh := decs_cons hh; obtain ⟨m6, l1_4, e1_4, hh⟩ := hh
    replace hh := decs_cons hh; obtain ⟨m7, l1_5, e1_5, hh⟩ := hh
    replace hh := decs_cons hh; obtain ⟨m8, l1_6, e1_6, hh⟩ := hh
    replace hh := decs_cons hh; obtain ⟨m9, l1_7, e1_7, hh⟩ := hh
    replace hh := decs_cons hh; obtain ⟨m10, l1_8, e1_8, hh⟩ := hh
    replace hh := decs_cons hh; obtain ⟨m11, l1_9, e1_9, hh⟩ := hh
    replace hh := decs_cons hh; obtain ⟨m12, l1_10, e1_10, hh⟩ := hh
    replace hh := decs_cons hh; obtain ⟨m13, l1_11, e1_11, hh⟩ := hh
    replace hh := decs_cons hh; obtain ⟨m14, l1_12, e1_12, hh⟩ := hh
    replace hh := decs_cons hh; obtain ⟨m15, l1_13, e1_13, hh⟩ := hh
    replace hh := decs_cons hh; obtain ⟨m16, l1_14, e1_14, hh⟩ := hh
    replace hh := decs_cons hh; obtain ⟨m17, l1_15, e1_15, hh⟩ := hh
    replace hh := decs_cons hh; obtain ⟨m18, l1_16, e1_16, hh⟩ := hh
    replace hh := decs_cons hh; obtain ⟨m19, l1_17, e1_17, hh⟩ := hh
    replace hh := decs_cons hh; obtain ⟨m20, l1_18, e1_18, hh⟩ := hh
    replace hh := decs_cons hh; obtain ⟨m21, l1_19, e1_19, hh⟩ := hh
    replace hh := decs_cons hh; obtain ⟨m22, l1_20, e1_20, hh⟩ := hh
    replace hh := decs_cons hh; obtain ⟨m23, l1_21, e1_21, hh⟩ := hh
    replace hh := decs_nil hh; obtain ⟨rfl, hh⟩ := hh
    subst e1_21
    subst e1_20
    subst e1_19
    subst e1_18
    subst e1_17
    subst e1_16
    subst e1_15
    subst e1_14
    subst e1_13
    subst e1_12
    subst e1_11
    subst e1_10
    subst e1_9
    subst e1_8
    subst e1_7
    subst e1_6
    subst e1_5
    subst e1_4
    subst e1_3
    subst e1_2
    subst e1_1
    have ec1 := toArray_eq e1_0
    subst ec1
    unfold F_replica_Replica_prepare at hh
    exact calls_den (fn1_right ok23 E_replica_Replica_Stored.right (fn1_right ok65 E_replica_Replica_promise.right (fn1_right ok66 E_cmp_Compare_fdced.right (fn1_right ok67 E_replica_Replica_refuse.right (fn1_right ok68 E_replica_answer.right noFns_right))))) plan44 _ w K Try.func44 (by kernel_rfl) (by kernel_rfl) (Eq.mp (F_replica_Replica_prepare.eq F_replica_Replica_Stored F_replica_Replica_promise F_cmp_Compare_fdced F_replica_Replica_refuse F_replica_answer r1 m2 m3 m4 m5 m6 m7 m8 m9 m10 m11 m12 m13 m14 m15 m16 m17 m18 m19 m20 m21 m22 m23 w.heap K) hh)
theorem ok44 : okFn Try.prog 44 = true := by kernel_rfl
end Go.Proofs.Ytcbelendjpnmiaa.V
namespace Go.Proofs.Ytcbelendjpnmiaa.V
open Go Go.RowKit
set_option linter.unusedVariables false
set_option maxRecDepth 100000
def F_replica_Replica_taken_of (f65_ : Option Addr → Int → Heap → (Bool → Heap → Prop) → Prop) (f67_ : Option Addr → Int → Heap → (Int → Int → Int → Int → Int → Int → Int → Int → Int → Int → Sl → Int → Int → ByteArray → ByteArray → Int → Int → Int → Int → Int → Int → Int → Bool → Bool → Bool → Heap → Prop) → Prop) (r1 : Option Addr) (epoch2 span3 : Int) (h : Heap) (Q : Int → Int → Int → Int → Int → Int → Int → Int → Int → Int → Sl → Int → Int → ByteArray → ByteArray → Int → Int → Int → Int → Int → Int → Int → Bool → Bool → Bool → Bool → Heap → Prop) : Prop :=
  al 49 [.int .i64 0, .int .i64 0, .int .i64 0, .int .i64 0, .int .u64 0, .int .u64 0, .int .u64 0, .int .u64 0, .int .i64 0, .int .u64 0, .slice none 0 0, .int .i64 0, .int .u64 0, .string (⟨#[]⟩ : ByteArray), .string (⟨#[]⟩ : ByteArray), .int .u64 0, .int .u64 0, .int .u64 0, .int .i64 0, .int .i64 0, .int .i64 0, .int .i64 0, .bool false, .bool false, .bool false] h fun (a4 : Addr) (h5 : Heap) =>
  nn r1 fun (a6 : Addr) =>
  ld [.int .u64] ((a6.add 0).add 0) h5 fun (v7 : Int) =>
  brr (decide (epoch2 < v7))
  (f67_ r1 epoch2 h5 fun (r8 r9 r10 r11 r12 r13 r14 r15 r16 r17 : Int) (r18 : Sl) (r19 r20 : Int) (r21 r22 : ByteArray) (r23 r24 r25 r26 r27 r28 r29 : Int) (r30 r31 r32 : Bool) (h33 : Heap) =>
  st a4 [.int .i64 r8, .int .i64 r9, .int .i64 r10, .int .i64 r11, .int .u64 r12, .int .u64 r13, .int .u64 r14, .int .u64 r15, .int .i64 r16, .int .u64 r17, .slice r18.ptr r18.len r18.cap, .int .i64 r19, .int .u64 r20, .string r21, .string r22, .int .u64 r23, .int .u64 r24, .int .u64 r25, .int .i64 r26, .int .i64 r27, .int .i64 r28, .int .i64 r29, .bool r30, .bool r31, .bool r32] h33 fun (h34 : Heap) =>
  ld [.int .i64, .int .i64, .int .i64, .int .i64, .int .u64, .int .u64, .int .u64, .int .u64, .int .i64, .int .u64, .sl, .int .i64, .int .u64, .str, .str, .int .u64, .int .u64, .int .u64, .int .i64, .int .i64, .int .i64, .int .i64, .bool, .bool, .bool] a4 h34 fun (v35 v36 v37 v38 v39 v40 v41 v42 v43 v44 : Int) (v45 : Sl) (v46 v47 : Int) (v48 v49 : ByteArray) (v50 v51 v52 v53 v54 v55 v56 : Int) (v57 v58 v59 : Bool) =>
  Q v35 v36 v37 v38 v39 v40 v41 v42 v43 v44 v45 v46 v47 v48 v49 v50 v51 v52 v53 v54 v55 v56 v57 v58 v59 false h34)
  (nn r1 fun (a60 : Addr) =>
  st (a60.add 4) [.int .i64 (if (0 : Int) > span3 then 0 else span3)] h5 fun (h61 : Heap) =>
  f65_ r1 epoch2 h61 fun (r62 : Bool) (h63 : Heap) =>
  st a4 [.int .i64 0, .int .i64 0, .int .i64 0, .int .i64 0, .int .u64 0, .int .u64 0, .int .u64 0, .int .u64 0, .int .i64 0, .int .u64 0, .slice none 0 0, .int .i64 0, .int .u64 0, .string (⟨#[]⟩ : ByteArray), .string (⟨#[]⟩ : ByteArray), .int .u64 0, .int .u64 0, .int .u64 0, .int .i64 0, .int .i64 0, .int .i64 0, .int .i64 0, .bool false, .bool true, .bool r62] h63 fun (h64 : Heap) =>
  ld [.int .i64, .int .i64, .int .i64, .int .i64, .int .u64, .int .u64, .int .u64, .int .u64, .int .i64, .int .u64, .sl, .int .i64, .int .u64, .str, .str, .int .u64, .int .u64, .int .u64, .int .i64, .int .i64, .int .i64, .int .i64, .bool, .bool, .bool] a4 h64 fun (v65 v66 v67 v68 v69 v70 v71 v72 v73 v74 : Int) (v75 : Sl) (v76 v77 : Int) (v78 v79 : ByteArray) (v80 v81 v82 v83 v84 v85 v86 : Int) (v87 v88 v89 : Bool) =>
  Q v65 v66 v67 v68 v69 v70 v71 v72 v73 v74 v75 v76 v77 v78 v79 v80 v81 v82 v83 v84 v85 v86 v87 v88 v89 true h64)
def F_replica_Replica_taken (r1 : Option Addr) (epoch2 span3 : Int) (h : Heap) (Q : Int → Int → Int → Int → Int → Int → Int → Int → Int → Int → Sl → Int → Int → ByteArray → ByteArray → Int → Int → Int → Int → Int → Int → Int → Bool → Bool → Bool → Bool → Heap → Prop) : Prop := F_replica_Replica_taken_of F_replica_Replica_promise F_replica_Replica_refuse r1 epoch2 span3 h Q
def plan69 : Plan := .s (.r [0, 1, 2, 6]) (.s (.s (.r [0, 1, 2, 6, 14]) (.c (.s (.r [6, 7]) .z) .z)) (.s (.r [0, 1, 6]) (.s (.r [6, 7]) .z)))
theorem F_replica_Replica_taken.eq (f65_ : Option Addr → Int → Heap → (Bool → Heap → Prop) → Prop) (f67_ : Option Addr → Int → Heap → (Int → Int → Int → Int → Int → Int → Int → Int → Int → Int → Sl → Int → Int → ByteArray → ByteArray → Int → Int → Int → Int → Int → Int → Int → Bool → Bool → Bool → Heap → Prop) → Prop) (r1 : Option Addr) (epoch2 span3 : Int) (h : Heap) (K : Value → Heap → Prop) : F_replica_Replica_taken_of f65_ f67_ r1 epoch2 span3 h (fun (r0 r1 r2 r3 r4 r5 r6 r7 r8 r9 : Int) (r10 : Sl) (r11 r12 : Int) (r13 r14 : ByteArray) (r15 r16 r17 r18 r19 r20 r21 : Int) (r22 r23 r24 r25 : Bool) (h : Heap) => K (.tuple #[.agg #[.int .i64 r0, .int .i64 r1, .int .i64 r2, .int .i64 r3, .int .u64 r4, .int .u64 r5, .int .u64 r6, .int .u64 r7, .int .i64 r8, .int .u64 r9, .slice r10.ptr r10.len r10.cap, .int .i64 r11, .int .u64 r12, .string r13, .string r14, .int .u64 r15, .int .u64 r16, .int .u64 r17, .int .i64 r18, .int .i64 r19, .int .i64 r20, .int .i64 r21, .bool r22, .bool r23, .bool r24], .bool r25]) h) =
    den Try.prog (fn1 65 (E_replica_Replica_promise_of f65_) (fn1 67 (E_replica_Replica_refuse_of f67_) noFns)) Try.f69.ntmps plan69 (bodyOf Try.f69) (args0 0 [(.pointer r1 : Value), (.int .u64 epoch2 : Value), (.int .i64 span3 : Value)]) h ⟨fun env h => dRes Try.prog Try.f69.results.toList env h K, fun _ _ _ => False, fun env h => dRes Try.prog Try.f69.results.toList env h K⟩ := by kernel_rfl
def E_replica_Replica_taken_of (f : Option Addr → Int → Int → Heap → (Int → Int → Int → Int → Int → Int → Int → Int → Int → Int → Sl → Int → Int → ByteArray → ByteArray → Int → Int → Int → Int → Int → Int → Int → Bool → Bool → Bool → Bool → Heap → Prop) → Prop) : List Value → Heap → (Value → Heap → Prop) → Prop
  | [v0, v1, v2], h, K => dec1 .ptr v0 fun (r1 : Option Addr) =>
  dec1 (.int .u64) v1 fun (epoch2 : Int) =>
  dec1 (.int .i64) v2 fun (span3 : Int) =>
  f r1 epoch2 span3 h (fun (r0 r1 r2 r3 r4 r5 r6 r7 r8 r9 : Int) (r10 : Sl) (r11 r12 : Int) (r13 r14 : ByteArray) (r15 r16 r17 r18 r19 r20 r21 : Int) (r22 r23 r24 r25 : Bool) (h : Heap) => K (.tuple #[.agg #[.int .i64 r0, .int .i64 r1, .int .i64 r2, .int .i64 r3, .int .u64 r4, .int .u64 r5, .int .u64 r6, .int .u64 r7, .int .i64 r8, .int .u64 r9, .slice r10.ptr r10.len r10.cap, .int .i64 r11, .int .u64 r12, .string r13, .string r14, .int .u64 r15, .int .u64 r16, .int .u64 r17, .int .i64 r18, .int .i64 r19, .int .i64 r20, .int .i64 r21, .bool r22, .bool r23, .bool r24], .bool r25]) h)
  | _, _, _ => False
abbrev E_replica_Replica_taken := E_replica_Replica_taken_of F_replica_Replica_taken
theorem E_replica_Replica_taken.right : IsRight Try.prog 69 E_replica_Replica_taken := by
  refine isRight fun vs K w hh => ?_
  match vs, hh with
  | [v0, v1, v2], hh =>
    unfold E_replica_Replica_taken E_replica_Replica_taken_of at hh
    replace hh := dec1_sound hh; obtain ⟨r1, rfl, hh⟩ := hh
    replace hh := dec1_sound hh; obtain ⟨epoch2, rfl, hh⟩ := hh
    replace hh := dec1_sound hh; obtain ⟨span3, rfl, hh⟩ := hh
    unfold F_replica_Replica_taken at hh
    exact calls_den (fn1_right ok65 E_replica_Replica_promise.right (fn1_right ok67 E_replica_Replica_refuse.right noFns_right)) plan69 _ w K Try.func69 (by kernel_rfl) (by kernel_rfl) (Eq.mp (F_replica_Replica_taken.eq F_replica_Replica_promise F_replica_Replica_refuse r1 epoch2 span3 w.heap K) hh)
theorem ok69 : okFn Try.prog 69 = true := by kernel_rfl
end Go.Proofs.Ytcbelendjpnmiaa.V
namespace Go.Proofs.Ytcbelendjpnmiaa.V
open Go Go.RowKit
set_option linter.unusedVariables false
set_option maxRecDepth 100000
def F_cmp_Or_fdbce.l1 (vals1 : Sl) (Q : Int → Heap → Prop) (j2 : Heap → Prop) : Int → Heap → Prop :=
  wl [(8, .one (.int .i64))] (fun (next3 : Int → Heap → Prop) (x4 : Int) (h5 : Heap) =>
  brr (decide (x4 < ((vals1.len : Nat) : Int)))
  (ixS 1 vals1 x4 fun (a6 : Addr) =>
  ld [.int .i64] a6 h5 fun (v7 : Int) =>
  brr (v7 != 0)
  (Q v7 h5)
  (next3 (IntKind.i64.wrap (x4 + 1)) h5))
  (j2 h5))
def F_cmp_Or_fdbce_of  (vals1 : Sl) (h : Heap) (Q : Int → Heap → Prop) : Prop :=
  jn [] (fun  (h8 : Heap) =>
  Q 0 h8) (fun (j2 : Heap → Prop) =>
  F_cmp_Or_fdbce.l1 vals1 Q j2 0 h)
def F_cmp_Or_fdbce (vals1 : Sl) (h : Heap) (Q : Int → Heap → Prop) : Prop := F_cmp_Or_fdbce_of  vals1 h Q
def plan70 : Plan := .s (.r [0]) (.s (.r [0, 3]) (.s (.s (.r [3, 6, 7, 8]) (.bj [] [3] (.l [(8, .one (.int .i64))] [3, 6, 7] (.s (.r [3, 6, 7, 8, 9]) (.s (.c .z .z) (.s (.b (.s (.r [3, 5, 6, 7, 8]) (.s (.r [3, 5, 6, 7, 8, 14]) (.c (.s (.r [2]) .z) .z)))) (.r [3, 6, 7, 8]))))))) (.s (.r [2]) .z)))
theorem F_cmp_Or_fdbce.eq  (vals1 : Sl) (h : Heap) (K : Value → Heap → Prop) : F_cmp_Or_fdbce_of  vals1 h (fun (r0 : Int) (h : Heap) => K (.int .i64 r0) h) =
    den Try.prog noFns Try.f70.ntmps plan70 (bodyOf Try.f70) (args0 0 [(.slice vals1.ptr vals1.len vals1.cap : Value)]) h ⟨fun env h => dRes Try.prog Try.f70.results.toList env h K, fun _ _ _ => False, fun env h => dRes Try.prog Try.f70.results.toList env h K⟩ := by kernel_rfl
def E_cmp_Or_fdbce_of (f : Sl → Heap → (Int → Heap → Prop) → Prop) : List Value → Heap → (Value → Heap → Prop) → Prop
  | [v0], h, K => dec1 .sl v0 fun (vals1 : Sl) =>
  f vals1 h (fun (r0 : Int) (h : Heap) => K (.int .i64 r0) h)
  | _, _, _ => False
abbrev E_cmp_Or_fdbce := E_cmp_Or_fdbce_of F_cmp_Or_fdbce
theorem E_cmp_Or_fdbce.right : IsRight Try.prog 70 E_cmp_Or_fdbce := by
  refine isRight fun vs K w hh => ?_
  match vs, hh with
  | [v0], hh =>
    unfold E_cmp_Or_fdbce E_cmp_Or_fdbce_of at hh
    replace hh := dec1_sound hh; obtain ⟨vals1, rfl, hh⟩ := hh
    unfold F_cmp_Or_fdbce at hh
    exact calls_den noFns_right plan70 _ w K Try.func70 (by kernel_rfl) (by kernel_rfl) (Eq.mp (F_cmp_Or_fdbce.eq  vals1 w.heap K) hh)
theorem ok70 : okFn Try.prog 70 = true := by kernel_rfl
end Go.Proofs.Ytcbelendjpnmiaa.V
namespace Go.Proofs.Ytcbelendjpnmiaa.V
open Go Go.RowKit
set_option linter.unusedVariables false
set_option maxRecDepth 100000
def F_replica_Replica_write_of (f30_ : Sl → Heap → (Sl → Heap → Prop) → Prop) (f66_ : Int → Int → Heap → (Int → Heap → Prop) → Prop) (f68_ : Int → Heap → (Int → Int → Int → Int → Int → Int → Int → Int → Int → Int → Sl → Int → Int → ByteArray → ByteArray → Int → Int → Int → Int → Int → Int → Int → Heap → Prop) → Prop) (f69_ : Option Addr → Int → Int → Heap → (Int → Int → Int → Int → Int → Int → Int → Int → Int → Int → Sl → Int → Int → ByteArray → ByteArray → Int → Int → Int → Int → Int → Int → Int → Bool → Bool → Bool → Bool → Heap → Prop) → Prop) (f70_ : Sl → Heap → (Int → Heap → Prop) → Prop) (r1 : Option Addr) (m2 m3 m4 m5 m6 m7 m8 m9 m10 m11 : Int) (m12 : Sl) (m13 m14 : Int) (m15 m16 : ByteArray) (m17 m18 m19 m20 m21 m22 m23 : Int) (h : Heap) (Q : Int → Int → Int → Int → Int → Int → Int → Int → Int → Int → Sl → Int → Int → ByteArray → ByteArray → Int → Int → Int → Int → Int → Int → Int → Bool → Bool → Bool → Heap → Prop) : Prop :=
  al 42 [.int .i64 m2, .int .i64 m3, .int .i64 m4, .int .i64 m5, .int .u64 m6, .int .u64 m7, .int .u64 m8, .int .u64 m9, .int .i64 m10, .int .u64 m11, .slice m12.ptr m12.len m12.cap, .int .i64 m13, .int .u64 m14, .string m15, .string m16, .int .u64 m17, .int .u64 m18, .int .u64 m19, .int .i64 m20, .int .i64 m21, .int .i64 m22, .int .i64 m23] h fun (a24 : Addr) (h25 : Heap) =>
  al 49 [.int .i64 0, .int .i64 0, .int .i64 0, .int .i64 0, .int .u64 0, .int .u64 0, .int .u64 0, .int .u64 0, .int .i64 0, .int .u64 0, .slice none 0 0, .int .i64 0, .int .u64 0, .string (⟨#[]⟩ : ByteArray), .string (⟨#[]⟩ : ByteArray), .int .u64 0, .int .u64 0, .int .u64 0, .int .i64 0, .int .i64 0, .int .i64 0, .int .i64 0, .bool false, .bool false, .bool false] h25 fun (a26 : Addr) (h27 : Heap) =>
  ld [.int .u64] ((a24.add 5).add 0) h27 fun (v28 : Int) =>
  ld [.int .i64] (a24.add 8) h27 fun (v29 : Int) =>
  f69_ r1 v28 v29 h27 fun (r30 r31 r32 r33 r34 r35 r36 r37 r38 r39 : Int) (r40 : Sl) (r41 r42 : Int) (r43 r44 : ByteArray) (r45 r46 r47 r48 r49 r50 r51 : Int) (r52 r53 r54 r55 : Bool) (h56 : Heap) =>
  al 49 [.int .i64 0, .int .i64 0, .int .i64 0, .int .i64 0, .int .u64 0, .int .u64 0, .int .u64 0, .int .u64 0, .int .i64 0, .int .u64 0, .slice none 0 0, .int .i64 0, .int .u64 0, .string (⟨#[]⟩ : ByteArray), .string (⟨#[]⟩ : ByteArray), .int .u64 0, .int .u64 0, .int .u64 0, .int .i64 0, .int .i64 0, .int .i64 0, .int .i64 0, .bool false, .bool false, .bool false] h56 fun (a57 : Addr) (h58 : Heap) =>
  st a57 [.int .i64 r30, .int .i64 r31, .int .i64 r32, .int .i64 r33, .int .u64 r34, .int .u64 r35, .int .u64 r36, .int .u64 r37, .int .i64 r38, .int .u64 r39, .slice r40.ptr r40.len r40.cap, .int .i64 r41, .int .u64 r42, .string r43, .string r44, .int .u64 r45, .int .u64 r46, .int .u64 r47, .int .i64 r48, .int .i64 r49, .int .i64 r50, .int .i64 r51, .bool r52, .bool r53, .bool r54] h58 fun (h59 : Heap) =>
  brr (!r55)
  (ld [.int .i64, .int .i64, .int .i64, .int .i64, .int .u64, .int .u64, .int .u64, .int .u64, .int .i64, .int .u64, .sl, .int .i64, .int .u64, .str, .str, .int .u64, .int .u64, .int .u64, .int .i64, .int .i64, .int .i64, .int .i64, .bool, .bool, .bool] a57 h59 fun (v60 v61 v62 v63 v64 v65 v66 v67 v68 v69 : Int) (v70 : Sl) (v71 v72 : Int) (v73 v74 : ByteArray) (v75 v76 v77 v78 v79 v80 v81 : Int) (v82 v83 v84 : Bool) =>
  st a26 [.int .i64 v60, .int .i64 v61, .int .i64 v62, .int .i64 v63, .int .u64 v64, .int .u64 v65, .int .u64 v66, .int .u64 v67, .int .i64 v68, .int .u64 v69, .slice v70.ptr v70.len v70.cap, .int .i64 v71, .int .u64 v72, .string v73, .string v74, .int .u64 v75, .int .u64 v76, .int .u64 v77, .int .i64 v78, .int .i64 v79, .int .i64 v80, .int .i64 v81, .bool v82, .bool v83, .bool v84] h59 fun (h85 : Heap) =>
  ld [.int .i64, .int .i64, .int .i64, .int .i64, .int .u64, .int .u64, .int .u64, .int .u64, .int .i64, .int .u64, .sl, .int .i64, .int .u64, .str, .str, .int .u64, .int .u64, .int .u64, .int .i64, .int .i64, .int .i64, .int .i64, .bool, .bool, .bool] a26 h85 fun (v86 v87 v88 v89 v90 v91 v92 v93 v94 v95 : Int) (v96 : Sl) (v97 v98 : Int) (v99 v100 : ByteArray) (v101 v102 v103 v104 v105 v106 v107 : Int) (v108 v109 v110 : Bool) =>
  Q v86 v87 v88 v89 v90 v91 v92 v93 v94 v95 v96 v97 v98 v99 v100 v101 v102 v103 v104 v105 v106 v107 v108 v109 v110 h85)
  (ld [.int .u64] ((a24.add 5).add 0) h59 fun (v111 : Int) =>
  nn r1 fun (a112 : Addr) =>
  ld [.int .u64] (((a112.add 0).add 1).add 0) h59 fun (v113 : Int) =>
  ld [.int .u64] ((a24.add 5).add 1) h59 fun (v114 : Int) =>
  nn r1 fun (a115 : Addr) =>
  ld [.int .u64] (((a115.add 0).add 1).add 1) h59 fun (v116 : Int) =>
  f66_ v111 v113 h59 fun (r117 : Int) (h118 : Heap) =>
  cellsAre h118 ((a24.add 5).add 1) [.int .u64 v114] ∧
  cellsAre h118 (((a115.add 0).add 1).add 1) [.int .u64 v116] ∧
  f66_ v114 v116 h118 fun (r119 : Int) (h120 : Heap) =>
  al 3 [.int .i64 r117, .int .i64 r119] h120 fun (a121 : Addr) (h122 : Heap) =>
  f70_ ⟨(some a121), 2, 2⟩ h122 fun (r123 : Int) (h124 : Heap) =>
  brr (decide (r123 < 0))
  (ld [.int .i64, .int .i64, .int .i64, .int .i64, .int .u64, .int .u64, .int .u64, .int .u64, .int .i64, .int .u64, .sl, .int .i64, .int .u64, .str, .str, .int .u64, .int .u64, .int .u64, .int .i64, .int .i64, .int .i64, .int .i64, .bool, .bool, .bool] a57 h124 fun (v125 v126 v127 v128 v129 v130 v131 v132 v133 v134 : Int) (v135 : Sl) (v136 v137 : Int) (v138 v139 : ByteArray) (v140 v141 v142 v143 v144 v145 v146 : Int) (v147 v148 v149 : Bool) =>
  st a26 [.int .i64 v125, .int .i64 v126, .int .i64 v127, .int .i64 v128, .int .u64 v129, .int .u64 v130, .int .u64 v131, .int .u64 v132, .int .i64 v133, .int .u64 v134, .slice v135.ptr v135.len v135.cap, .int .i64 v136, .int .u64 v137, .string v138, .string v139, .int .u64 v140, .int .u64 v141, .int .u64 v142, .int .i64 v143, .int .i64 v144, .int .i64 v145, .int .i64 v146, .bool v147, .bool v148, .bool v149] h124 fun (h150 : Heap) =>
  ld [.int .i64, .int .i64, .int .i64, .int .i64, .int .u64, .int .u64, .int .u64, .int .u64, .int .i64, .int .u64, .sl, .int .i64, .int .u64, .str, .str, .int .u64, .int .u64, .int .u64, .int .i64, .int .i64, .int .i64, .int .i64, .bool, .bool, .bool] a26 h150 fun (v151 v152 v153 v154 v155 v156 v157 v158 v159 v160 : Int) (v161 : Sl) (v162 v163 : Int) (v164 v165 : ByteArray) (v166 v167 v168 v169 v170 v171 v172 : Int) (v173 v174 v175 : Bool) =>
  Q v151 v152 v153 v154 v155 v156 v157 v158 v159 v160 v161 v162 v163 v164 v165 v166 v167 v168 v169 v170 v171 v172 v173 v174 v175 h150)
  (jn [] (fun  (h187 : Heap) =>
  f68_ 5 h187 fun (r188 r189 r190 r191 r192 r193 r194 r195 r196 r197 : Int) (r198 : Sl) (r199 r200 : Int) (r201 r202 : ByteArray) (r203 r204 r205 r206 r207 r208 r209 : Int) (h210 : Heap) =>
  st (a57.add 0) [.int .i64 r188, .int .i64 r189, .int .i64 r190, .int .i64 r191, .int .u64 r192, .int .u64 r193, .int .u64 r194, .int .u64 r195, .int .i64 r196, .int .u64 r197, .slice r198.ptr r198.len r198.cap, .int .i64 r199, .int .u64 r200, .string r201, .string r202, .int .u64 r203, .int .u64 r204, .int .u64 r205, .int .i64 r206, .int .i64 r207, .int .i64 r208, .int .i64 r209] h210 fun (h211 : Heap) =>
  ld [.int .u64, .int .u64] (a24.add 5) h211 fun (v212 v213 : Int) =>
  st ((a57.add 0).add 5) [.int .u64 v212, .int .u64 v213] h211 fun (h214 : Heap) =>
  ld [.int .i64, .int .i64, .int .i64, .int .i64, .int .u64, .int .u64, .int .u64, .int .u64, .int .i64, .int .u64, .sl, .int .i64, .int .u64, .str, .str, .int .u64, .int .u64, .int .u64, .int .i64, .int .i64, .int .i64, .int .i64, .bool, .bool, .bool] a57 h214 fun (v215 v216 v217 v218 v219 v220 v221 v222 v223 v224 : Int) (v225 : Sl) (v226 v227 : Int) (v228 v229 : ByteArray) (v230 v231 v232 v233 v234 v235 v236 : Int) (v237 v238 v239 : Bool) =>
  st a26 [.int .i64 v215, .int .i64 v216, .int .i64 v217, .int .i64 v218, .int .u64 v219, .int .u64 v220, .int .u64 v221, .int .u64 v222, .int .i64 v223, .int .u64 v224, .slice v225.ptr v225.len v225.cap, .int .i64 v226, .int .u64 v227, .string v228, .string v229, .int .u64 v230, .int .u64 v231, .int .u64 v232, .int .i64 v233, .int .i64 v234, .int .i64 v235, .int .i64 v236, .bool v237, .bool v238, .bool v239] h214 fun (h240 : Heap) =>
  ld [.int .i64, .int .i64, .int .i64, .int .i64, .int .u64, .int .u64, .int .u64, .int .u64, .int .i64, .int .u64, .sl, .int .i64, .int .u64, .str, .str, .int .u64, .int .u64, .int .u64, .int .i64, .int .i64, .int .i64, .int .i64, .bool, .bool, .bool] a26 h240 fun (v241 v242 v243 v244 v245 v246 v247 v248 v249 v250 : Int) (v251 : Sl) (v252 v253 : Int) (v254 v255 : ByteArray) (v256 v257 v258 v259 v260 v261 v262 : Int) (v263 v264 v265 : Bool) =>
  Q v241 v242 v243 v244 v245 v246 v247 v248 v249 v250 v251 v252 v253 v254 v255 v256 v257 v258 v259 v260 v261 v262 v263 v264 v265 h240) (fun (j176 : Heap → Prop) =>
  brr (decide (r123 > 0))
  (ld [.int .u64, .int .u64] (a24.add 5) h124 fun (v177 v178 : Int) =>
  ld [.sl] (a24.add 10) h124 fun (v179 : Sl) =>
  f30_ v179 h124 fun (r180 : Sl) (h181 : Heap) =>
  cellsAre h181 (a24.add 5) [.int .u64 v177, .int .u64 v178] ∧
  nn r1 fun (a182 : Addr) =>
  st ((a182.add 0).add 1) [.int .u64 v177, .int .u64 v178] h181 fun (h183 : Heap) =>
  nn r1 fun (a184 : Addr) =>
  st ((a184.add 0).add 3) [.slice r180.ptr r180.len r180.cap] h183 fun (h185 : Heap) =>
  st (a57.add 24) [.bool true] h185 fun (h186 : Heap) =>
  j176 h186)
  (j176 h124))))
def F_replica_Replica_write (r1 : Option Addr) (m2 m3 m4 m5 m6 m7 m8 m9 m10 m11 : Int) (m12 : Sl) (m13 m14 : Int) (m15 m16 : ByteArray) (m17 m18 m19 m20 m21 m22 m23 : Int) (h : Heap) (Q : Int → Int → Int → Int → Int → Int → Int → Int → Int → Int → Sl → Int → Int → ByteArray → ByteArray → Int → Int → Int → Int → Int → Int → Int → Bool → Bool → Bool → Heap → Prop) : Prop := F_replica_Replica_write_of F_bytes_Clone F_cmp_Compare_fdced F_replica_answer F_replica_Replica_taken F_cmp_Or_fdbce r1 m2 m3 m4 m5 m6 m7 m8 m9 m10 m11 m12 m13 m14 m15 m16 m17 m18 m19 m20 m21 m22 m23 h Q
def plan45 : Plan := .s (.r [0, 3, 4]) (.s (.r [0, 3, 4, 5, 6]) (.s (.s (.r [0, 3, 4, 5, 19]) (.c (.s (.r [4]) .z) .z)) (.s (.s (.d [0, 1, 3, 0, 8, 24, 56, 120, 248, 511, 0, 1024, 3072, 0, 8192, 24576, 57344, 122880, 253952, 524287, 1048575, 2097151, 4194303] [[0, 1, 2, 3, 4, 5, 6, 7, 8, 10, 11, 12, 13, 14, 15, 16, 17, 18, 9, 19, 20, 21, 22]] [0, 3, 4, 5, 7]) (.b (.s (.r [0, 3, 4, 5, 7, 43]) (.c (.s (.r [4]) .z) (.s (.r [0, 3, 4, 5, 47]) (.cj [] [3, 4, 5] (.s (.d [0, 0, 0, 4, 0, 16, 48, 125, 253, 509, 1021, 2047, 4095, 8191, 16383] [[0, 1, 2, 3, 4, 5, 6, 7, 8, 9, 10, 11, 12, 13, 14]] [3, 4, 5]) (.r [3, 4, 5])) .z)))))) (.s (.r [3, 4, 5]) (.s (.r [4, 5]) (.s (.r [4]) .z))))))
theorem F_replica_Replica_write.eq (f30_ : Sl → Heap → (Sl → Heap → Prop) → Prop) (f66_ : Int → Int → Heap → (Int → Heap → Prop) → Prop) (f68_ : Int → Heap → (Int → Int → Int → Int → Int → Int → Int → Int → Int → Int → Sl → Int → Int → ByteArray → ByteArray → Int → Int → Int → Int → Int → Int → Int → Heap → Prop) → Prop) (f69_ : Option Addr → Int → Int → Heap → (Int → Int → Int → Int → Int → Int → Int → Int → Int → Int → Sl → Int → Int → ByteArray → ByteArray → Int → Int → Int → Int → Int → Int → Int → Bool → Bool → Bool → Bool → Heap → Prop) → Prop) (f70_ : Sl → Heap → (Int → Heap → Prop) → Prop) (r1 : Option Addr) (m2 m3 m4 m5 m6 m7 m8 m9 m10 m11 : Int) (m12 : Sl) (m13 m14 : Int) (m15 m16 : ByteArray) (m17 m18 m19 m20 m21 m22 m23 : Int) (h : Heap) (K : Value → Heap → Prop) : F_replica_Replica_write_of f30_ f66_ f68_ f69_ f70_ r1 m2 m3 m4 m5 m6 m7 m8 m9 m10 m11 m12 m13 m14 m15 m16 m17 m18 m19 m20 m21 m22 m23 h (fun (r0 r1 r2 r3 r4 r5 r6 r7 r8 r9 : Int) (r10 : Sl) (r11 r12 : Int) (r13 r14 : ByteArray) (r15 r16 r17 r18 r19 r20 r21 : Int) (r22 r23 r24 : Bool) (h : Heap) => K (.agg #[.int .i64 r0, .int .i64 r1, .int .i64 r2, .int .i64 r3, .int .u64 r4, .int .u64 r5, .int .u64 r6, .int .u64 r7, .int .i64 r8, .int .u64 r9, .slice r10.ptr r10.len r10.cap, .int .i64 r11, .int .u64 r12, .string r13, .string r14, .int .u64 r15, .int .u64 r16, .int .u64 r17, .int .i64 r18, .int .i64 r19, .int .i64 r20, .int .i64 r21, .bool r22, .bool r23, .bool r24]) h) =
    den Try.prog (fn1 30 (E_bytes_Clone_of f30_) (fn1 66 (E_cmp_Compare_fdced_of f66_) (fn1 68 (E_replica_answer_of f68_) (fn1 69 (E_replica_Replica_taken_of f69_) (fn1 70 (E_cmp_Or_fdbce_of f70_) noFns))))) Try.f45.ntmps plan45 (bodyOf Try.f45) (args0 0 [(.pointer r1 : Value), (.agg #[.int .i64 m2, .int .i64 m3, .int .i64 m4, .int .i64 m5, .int .u64 m6, .int .u64 m7, .int .u64 m8, .int .u64 m9, .int .i64 m10, .int .u64 m11, .slice m12.ptr m12.len m12.cap, .int .i64 m13, .int .u64 m14, .string m15, .string m16, .int .u64 m17, .int .u64 m18, .int .u64 m19, .int .i64 m20, .int .i64 m21, .int .i64 m22, .int .i64 m23] : Value)]) h ⟨fun env h => dRes Try.prog Try.f45.results.toList env h K, fun _ _ _ => False, fun env h => dRes Try.prog Try.f45.results.toList env h K⟩ := by kernel_rfl
def E_replica_Replica_write_of (f : Option Addr → Int → Int → Int → Int → Int → Int → Int → Int → Int → Int → Sl → Int → Int → ByteArray → ByteArray → Int → Int → Int → Int → Int → Int → Int → Heap → (Int → Int → Int → Int → Int → Int → Int → Int → Int → Int → Sl → Int → Int → ByteArray → ByteArray → Int → Int → Int → Int → Int → Int → Int → Bool → Bool → Bool → Heap → Prop) → Prop) : List Value → Heap → (Value → Heap → Prop) → Prop
  | [v0, v1], h, K => dec1 .ptr v0 fun (r1 : Option Addr) =>
  vAgg v1 fun cs1 => decs [.int .i64, .int .i64, .int .i64, .int .i64, .int .u64, .int .u64, .int .u64, .int .u64, .int .i64, .int .u64, .sl, .int .i64, .int .u64, .str, .str, .int .u64, .int .u64, .int .u64, .int .i64, .int .i64, .int .i64, .int .i64] cs1.toList fun (m2 m3 m4 m5 m6 m7 m8 m9 m10 m11 : Int) (m12 : Sl) (m13 m14 : Int) (m15 m16 : ByteArray) (m17 m18 m19 m20 m21 m22 m23 : Int) =>
  f r1 m2 m3 m4 m5 m6 m7 m8 m9 m10 m11 m12 m13 m14 m15 m16 m17 m18 m19 m20 m21 m22 m23 h (fun (r0 r1 r2 r3 r4 r5 r6 r7 r8 r9 : Int) (r10 : Sl) (r11 r12 : Int) (r13 r14 : ByteArray) (r15 r16 r17 r18 r19 r20 r21 : Int) (r22 r23 r24 : Bool) (h : Heap) => K (.agg #[.int .i64 r0, .int .i64 r1, .int .i64 r2, .int .i64 r3, .int .u64 r4, .int .u64 r5, .int .u64 r6, .int .u64 r7, .int .i64 r8, .int .u64 r9, .slice r10.ptr r10.len r10.cap, .int .i64 r11, .int .u64 r12, .string r13, .string r14, .int .u64 r15, .int .u64 r16, .int .u64 r17, .int .i64 r18, .int .i64 r19, .int .i64 r20, .int .i64 r21, .bool r22, .bool r23, .bool r24]) h)
  | _, _, _ => False
abbrev E_replica_Replica_write := E_replica_Replica_write_of F_replica_Replica_write
theorem E_replica_Replica_write.right : IsRight Try.prog 45 E_replica_Replica_write := by
  refine isRight fun vs K w hh => ?_
  match vs, hh with
  | [v0, v1], hh =>
    unfold E_replica_Replica_write E_replica_Replica_write_of at hh
    replace hh := dec1_sound hh; obtain ⟨r1, rfl, hh⟩ := hh
    replace hh := vAgg_sound hh; obtain ⟨cs1, rfl, hh⟩ := hh
    replace hh := decs_cons hh; obtain ⟨m2, l1_0, e1_0, hh⟩ := hh
    replace hh := decs_cons hh; obtain ⟨m3, l1_1, e1_1, hh⟩ := hh
    replace hh := decs_cons hh; obtain ⟨m4, l1_2, e1_2, hh⟩ := hh
    replace hh := decs_cons hh; obtain ⟨m5, l1_3, e1_3, hh⟩ := hh
    replace hh := decs_cons hh; obtain ⟨m6, l1_4, e1_4, hh⟩ := hh
    replace hh := decs_cons hh; obtain ⟨m7, l1_5, e1_5, hh⟩ := hh
    replace hh := decs_cons hh; obtain ⟨m8, l1_6, e1_6, hh⟩ := hh
    replace hh := decs_cons hh; obtain ⟨m9, l1_7, e1_7, hh⟩ := hh
    replace hh := decs_cons hh; obtain ⟨m10, l1_8, e1_8, hh⟩ := hh
    replace hh := decs_cons hh; obtain ⟨m11, l1_9, e1_9, hh⟩ := hh
    replace hh := decs_cons hh; obtain ⟨m12, l1_10, e1_10, hh⟩ := hh
    replace hh := decs_cons hh; obtain ⟨m13, l1_11, e1_11, hh⟩ := hh
    replace hh := decs_cons hh; obtain ⟨m14, l1_12, e1_12, hh⟩ := hh
    replace hh := decs_cons hh; obtain ⟨m15, l1_13, e1_13, hh⟩ := hh
    replace hh := decs_cons hh; obtain ⟨m16, l1_14, e1_14, hh⟩ := hh
    replace hh := decs_cons hh; obtain ⟨m17, l1_15, e1_15, hh⟩ := hh
    replace hh := decs_cons hh; obtain ⟨m18, l1_16, e1_16, hh⟩ := hh
    replace hh := decs_cons hh; obtain ⟨m19, l1_17, e1_17, hh⟩ := hh
    replace hh := decs_cons hh; obtain ⟨m20, l1_18, e1_18, hh⟩ := hh
    replace hh := decs_cons hh; obtain ⟨m21, l1_19, e1_19, hh⟩ := hh
    replace hh := decs_cons hh; obtain ⟨m22, l1_20, e1_20, hh⟩ := hh
    replace hh := decs_cons hh; obtain ⟨m23, l1_21, e1_21, hh⟩ := hh
    replace hh := decs_nil hh; obtain ⟨rfl, hh⟩ := hh
    subst e1_21
    subst e1_20
    subst e1_19
    subst e1_18
    subst e1_17
    subst e1_16
    subst e1_15
    subst e1_14
    subst e1_13
    subst e1_12
    subst e1_11
    subst e1_10
    subst e1_9
    subst e1_8
    subst e1_7
    subst e1_6
    subst e1_5
    subst e1_4
    subst e1_3
    subst e1_2
    subst e1_1
    have ec1 := toArray_eq e1_0
    subst ec1
    unfold F_replica_Replica_write at hh
    exact calls_den (fn1_right ok30 E_bytes_Clone.right (fn1_right ok66 E_cmp_Compare_fdced.right (fn1_right ok68 E_replica_answer.right (fn1_right ok69 E_replica_Replica_taken.right (fn1_right ok70 E_cmp_Or_fdbce.right noFns_right))))) plan45 _ w K Try.func45 (by kernel_rfl) (by kernel_rfl) (Eq.mp (F_replica_Replica_write.eq F_bytes_Clone F_cmp_Compare_fdced F_replica_answer F_replica_Replica_taken F_cmp_Or_fdbce r1 m2 m3 m4 m5 m6 m7 m8 m9 m10 m11 m12 m13 m14 m15 m16 m17 m18 m19 m20 m21 m22 m23 w.heap K) hh)
theorem ok45 : okFn Try.prog 45 = true := by kernel_rfl
end Go.Proofs.Ytcbelendjpnmiaa.V
namespace Go.Proofs.Ytcbelendjpnmiaa.V
open Go Go.RowKit
set_option linter.unusedVariables false
set_option maxRecDepth 100000
def F_replica_Replica_beat_of (f68_ : Int → Heap → (Int → Int → Int → Int → Int → Int → Int → Int → Int → Int → Sl → Int → Int → ByteArray → ByteArray → Int → Int → Int → Int → Int → Int → Int → Heap → Prop) → Prop) (f69_ : Option Addr → Int → Int → Heap → (Int → Int → Int → Int → Int → Int → Int → Int → Int → Int → Sl → Int → Int → ByteArray → ByteArray → Int → Int → Int → Int → Int → Int → Int → Bool → Bool → Bool → Bool → Heap → Prop) → Prop) (r1 : Option Addr) (m2 m3 m4 m5 m6 m7 m8 m9 m10 m11 : Int) (m12 : Sl) (m13 m14 : Int) (m15 m16 : ByteArray) (m17 m18 m19 m20 m21 m22 m23 : Int) (h : Heap) (Q : Int → Int → Int → Int → Int → Int → Int → Int → Int → Int → Sl → Int → Int → ByteArray → ByteArray → Int → Int → Int → Int → Int → Int → Int → Bool → Bool → Bool → Heap → Prop) : Prop :=
  al 42 [.int .i64 m2, .int .i64 m3, .int .i64 m4, .int .i64 m5, .int .u64 m6, .int .u64 m7, .int .u64 m8, .int .u64 m9, .int .i64 m10, .int .u64 m11, .slice m12.ptr m12.len m12.cap, .int .i64 m13, .int .u64 m14, .string m15, .string m16, .int .u64 m17, .int .u64 m18, .int .u64 m19, .int .i64 m20, .int .i64 m21, .int .i64 m22, .int .i64 m23] h fun (a24 : Addr) (h25 : Heap) =>
  al 49 [.int .i64 0, .int .i64 0, .int .i64 0, .int .i64 0, .int .u64 0, .int .u64 0, .int .u64 0, .int .u64 0, .int .i64 0, .int .u64 0, .slice none 0 0, .int .i64 0, .int .u64 0, .string (⟨#[]⟩ : ByteArray), .string (⟨#[]⟩ : ByteArray), .int .u64 0, .int .u64 0, .int .u64 0, .int .i64 0, .int .i64 0, .int .i64 0, .int .i64 0, .bool false, .bool false, .bool false] h25 fun (a26 : Addr) (h27 : Heap) =>
  ld [.int .u64] (a24.add 4) h27 fun (v28 : Int) =>
  ld [.int .i64] (a24.add 8) h27 fun (v29 : Int) =>
  f69_ r1 v28 v29 h27 fun (r30 r31 r32 r33 r34 r35 r36 r37 r38 r39 : Int) (r40 : Sl) (r41 r42 : Int) (r43 r44 : ByteArray) (r45 r46 r47 r48 r49 r50 r51 : Int) (r52 r53 r54 r55 : Bool) (h56 : Heap) =>
  al 49 [.int .i64 0, .int .i64 0, .int .i64 0, .int .i64 0, .int .u64 0, .int .u64 0, .int .u64 0, .int .u64 0, .int .i64 0, .int .u64 0, .slice none 0 0, .int .i64 0, .int .u64 0, .string (⟨#[]⟩ : ByteArray), .string (⟨#[]⟩ : ByteArray), .int .u64 0, .int .u64 0, .int .u64 0, .int .i64 0, .int .i64 0, .int .i64 0, .int .i64 0, .bool false, .bool false, .bool false] h56 fun (a57 : Addr) (h58 : Heap) =>
  st a57 [.int .i64 r30, .int .i64 r31, .int .i64 r32, .int .i64 r33, .int .u64 r34, .int .u64 r35, .int .u64 r36, .int .u64 r37, .int .i64 r38, .int .u64 r39, .slice r40.ptr r40.len r40.cap, .int .i64 r41, .int .u64 r42, .string r43, .string r44, .int .u64 r45, .int .u64 r46, .int .u64 r47, .int .i64 r48, .int .i64 r49, .int .i64 r50, .int .i64 r51, .bool r52, .bool r53, .bool r54] h58 fun (h59 : Heap) =>
  jn [] (fun  (h89 : Heap) =>
  ld [.int .i64, .int .i64, .int .i64, .int .i64, .int .u64, .int .u64, .int .u64, .int .u64, .int .i64, .int .u64, .sl, .int .i64, .int .u64, .str, .str, .int .u64, .int .u64, .int .u64, .int .i64, .int .i64, .int .i64, .int .i64, .bool, .bool, .bool] a57 h89 fun (v90 v91 v92 v93 v94 v95 v96 v97 v98 v99 : Int) (v100 : Sl) (v101 v102 : Int) (v103 v104 : ByteArray) (v105 v106 v107 v108 v109 v110 v111 : Int) (v112 v113 v114 : Bool) =>
  st a26 [.int .i64 v90, .int .i64 v91, .int .i64 v92, .int .i64 v93, .int .u64 v94, .int .u64 v95, .int .u64 v96, .int .u64 v97, .int .i64 v98, .int .u64 v99, .slice v100.ptr v100.len v100.cap, .int .i64 v101, .int .u64 v102, .string v103, .string v104, .int .u64 v105, .int .u64 v106, .int .u64 v107, .int .i64 v108, .int .i64 v109, .int .i64 v110, .int .i64 v111, .bool v112, .bool v113, .bool v114] h89 fun (h115 : Heap) =>
  ld [.int .i64, .int .i64, .int .i64, .int .i64, .int .u64, .int .u64, .int .u64, .int .u64, .int .i64, .int .u64, .sl, .int .i64, .int .u64, .str, .str, .int .u64, .int .u64, .int .u64, .int .i64, .int .i64, .int .i64, .int .i64, .bool, .bool, .bool] a26 h115 fun (v116 v117 v118 v119 v120 v121 v122 v123 v124 v125 : Int) (v126 : Sl) (v127 v128 : Int) (v129 v130 : ByteArray) (v131 v132 v133 v134 v135 v136 v137 : Int) (v138 v139 v140 : Bool) =>
  Q v116 v117 v118 v119 v120 v121 v122 v123 v124 v125 v126 v127 v128 v129 v130 v131 v132 v133 v134 v135 v136 v137 v138 v139 v140 h115) (fun (j60 : Heap → Prop) =>
  brr r55
  (f68_ 7 h59 fun (r61 r62 r63 r64 r65 r66 r67 r68 r69 r70 : Int) (r71 : Sl) (r72 r73 : Int) (r74 r75 : ByteArray) (r76 r77 r78 r79 r80 r81 r82 : Int) (h83 : Heap) =>
  st (a57.add 0) [.int .i64 r61, .int .i64 r62, .int .i64 r63, .int .i64 r64, .int .u64 r65, .int .u64 r66, .int .u64 r67, .int .u64 r68, .int .i64 r69, .int .u64 r70, .slice r71.ptr r71.len r71.cap, .int .i64 r72, .int .u64 r73, .string r74, .string r75, .int .u64 r76, .int .u64 r77, .int .u64 r78, .int .i64 r79, .int .i64 r80, .int .i64 r81, .int .i64 r82] h83 fun (h84 : Heap) =>
  ld [.int .u64] (a24.add 4) h84 fun (v85 : Int) =>
  ld [.int .u64] (a24.add 7) h84 fun (v86 : Int) =>
  st ((a57.add 0).add 4) [.int .u64 v85] h84 fun (h87 : Heap) =>
  cellsAre h87 (a24.add 7) [.int .u64 v86] ∧
  st ((a57.add 0).add 7) [.int .u64 v86] h87 fun (h88 : Heap) =>
  j60 h88)
  (j60 h59))
def F_replica_Replica_beat (r1 : Option Addr) (m2 m3 m4 m5 m6 m7 m8 m9 m10 m11 : Int) (m12 : Sl) (m13 m14 : Int) (m15 m16 : ByteArray) (m17 m18 m19 m20 m21 m22 m23 : Int) (h : Heap) (Q : Int → Int → Int → Int → Int → Int → Int → Int → Int → Int → Sl → Int → Int → ByteArray → ByteArray → Int → Int → Int → Int → Int → Int → Int → Bool → Bool → Bool → Heap → Prop) : Prop := F_replica_Replica_beat_of F_replica_answer F_replica_Replica_taken r1 m2 m3 m4 m5 m6 m7 m8 m9 m10 m11 m12 m13 m14 m15 m16 m17 m18 m19 m20 m21 m22 m23 h Q
def plan46 : Plan := .s (.r [0, 3, 4]) (.s (.r [3, 4, 5, 6]) (.s (.s (.r [3, 4, 5, 16]) (.cj [] [4, 5] (.s (.r [3, 4, 5]) (.d [0, 1, 0, 4, 3, 19, 51, 127, 255, 511] [[0, 1, 2, 3, 4, 5, 6, 7, 8, 9]] [4, 5])) .z)) (.s (.r [4]) .z)))
theorem F_replica_Replica_beat.eq (f68_ : Int → Heap → (Int → Int → Int → Int → Int → Int → Int → Int → Int → Int → Sl → Int → Int → ByteArray → ByteArray → Int → Int → Int → Int → Int → Int → Int → Heap → Prop) → Prop) (f69_ : Option Addr → Int → Int → Heap → (Int → Int → Int → Int → Int → Int → Int → Int → Int → Int → Sl → Int → Int → ByteArray → ByteArray → Int → Int → Int → Int → Int → Int → Int → Bool → Bool → Bool → Bool → Heap → Prop) → Prop) (r1 : Option Addr) (m2 m3 m4 m5 m6 m7 m8 m9 m10 m11 : Int) (m12 : Sl) (m13 m14 : Int) (m15 m16 : ByteArray) (m17 m18 m19 m20 m21 m22 m23 : Int) (h : Heap) (K : Value → Heap → Prop) : F_replica_Replica_beat_of f68_ f69_ r1 m2 m3 m4 m5 m6 m7 m8 m9 m10 m11 m12 m13 m14 m15 m16 m17 m18 m19 m20 m21 m22 m23 h (fun (r0 r1 r2 r3 r4 r5 r6 r7 r8 r9 : Int) (r10 : Sl) (r11 r12 : Int) (r13 r14 : ByteArray) (r15 r16 r17 r18 r19 r20 r21 : Int) (r22 r23 r24 : Bool) (h : Heap) => K (.agg #[.int .i64 r0, .int .i64 r1, .int .i64 r2, .int .i64 r3, .int .u64 r4, .int .u64 r5, .int .u64 r6, .int .u64 r7, .int .i64 r8, .int .u64 r9, .slice r10.ptr r10.len r10.cap, .int .i64 r11, .int .u64 r12, .string r13, .string r14, .int .u64 r15, .int .u64 r16, .int .u64 r17, .int .i64 r18, .int .i64 r19, .int .i64 r20, .int .i64 r21, .bool r22, .bool r23, .bool r24]) h) =
    den Try.prog (fn1 68 (E_replica_answer_of f68_) (fn1 69 (E_replica_Replica_taken_of f69_) noFns)) Try.f46.ntmps plan46 (bodyOf Try.f46) (args0 0 [(.pointer r1 : Value), (.agg #[.int .i64 m2, .int .i64 m3, .int .i64 m4, .int .i64 m5, .int .u64 m6, .int .u64 m7, .int .u64 m8, .int .u64 m9, .int .i64 m10, .int .u64 m11, .slice m12.ptr m12.len m12.cap, .int .i64 m13, .int .u64 m14, .string m15, .string m16, .int .u64 m17, .int .u64 m18, .int .u64 m19, .int .i64 m20, .int .i64 m21, .int .i64 m22, .int .i64 m23] : Value)]) h ⟨fun env h => dRes Try.prog Try.f46.results.toList env h K, fun _ _ _ => False, fun env h => dRes Try.prog Try.f46.results.toList env h K⟩ := by kernel_rfl
def E_replica_Replica_beat_of (f : Option Addr → Int → Int → Int → Int → Int → Int → Int → Int → Int → Int → Sl → Int → Int → ByteArray → ByteArray → Int → Int → Int → Int → Int → Int → Int → Heap → (Int → Int → Int → Int → Int → Int → Int → Int → Int → Int → Sl → Int → Int → ByteArray → ByteArray → Int → Int → Int → Int → Int → Int → Int → Bool → Bool → Bool → Heap → Prop) → Prop) : List Value → Heap → (Value → Heap → Prop) → Prop
  | [v0, v1], h, K => dec1 .ptr v0 fun (r1 : Option Addr) =>
  vAgg v1 fun cs1 => decs [.int .i64, .int .i64, .int .i64, .int .i64, .int .u64, .int .u64, .int .u64, .int .u64, .int .i64, .int .u64, .sl, .int .i64, .int .u64, .str, .str, .int .u64, .int .u64, .int .u64, .int .i64, .int .i64, .int .i64, .int .i64] cs1.toList fun (m2 m3 m4 m5 m6 m7 m8 m9 m10 m11 : Int) (m12 : Sl) (m13 m14 : Int) (m15 m16 : ByteArray) (m17 m18 m19 m20 m21 m22 m23 : Int) =>
  f r1 m2 m3 m4 m5 m6 m7 m8 m9 m10 m11 m12 m13 m14 m15 m16 m17 m18 m19 m20 m21 m22 m23 h (fun (r0 r1 r2 r3 r4 r5 r6 r7 r8 r9 : Int) (r10 : Sl) (r11 r12 : Int) (r13 r14 : ByteArray) (r15 r16 r17 r18 r19 r20 r21 : Int) (r22 r23 r24 : Bool) (h : Heap) => K (.agg #[.int .i64 r0, .int .i64 r1, .int .i64 r2, .int .i64 r3, .int .u64 r4, .int .u64 r5, .int .u64 r6, .int .u64 r7, .int .i64 r8, .int .u64 r9, .slice r10.ptr r10.len r10.cap, .int .i64 r11, .int .u64 r12, .string r13, .string r14, .int .u64 r15, .int .u64 r16, .int .u64 r17, .int .i64 r18, .int .i64 r19, .int .i64 r20, .int .i64 r21, .bool r22, .bool r23, .bool r24]) h)
  | _, _, _ => False
abbrev E_replica_Replica_beat := E_replica_Replica_beat_of F_replica_Replica_beat
theorem E_replica_Replica_beat.right : IsRight Try.prog 46 E_replica_Replica_beat := by
  refine isRight fun vs K w hh => ?_
  match vs, hh with
  | [v0, v1], hh =>
    unfold E_replica_Replica_beat E_replica_Replica_beat_of at hh
    replace hh := dec1_sound hh; obtain ⟨r1, rfl, hh⟩ := hh
    replace hh := vAgg_sound hh; obtain ⟨cs1, rfl, hh⟩ := hh
    replace hh := decs_cons hh; obtain ⟨m2, l1_0, e1_0, hh⟩ := hh
    replace hh := decs_cons hh; obtain ⟨m3, l1_1, e1_1, hh⟩ := hh
    replace hh := decs_cons hh; obtain ⟨m4, l1_2, e1_2, hh⟩ := hh
    replace hh := decs_cons hh; obtain ⟨m5, l1_3, e1_3, hh⟩ := hh
    replace hh := decs_cons hh; obtain ⟨m6, l1_4, e1_4, hh⟩ := hh
    replace hh := decs_cons hh; obtain ⟨m7, l1_5, e1_5, hh⟩ := hh
    replace hh := decs_cons hh; obtain ⟨m8, l1_6, e1_6, hh⟩ := hh
    replace hh := decs_cons hh; obtain ⟨m9, l1_7, e1_7, hh⟩ := hh
    replace hh := decs_cons hh; obtain ⟨m10, l1_8, e1_8, hh⟩ := hh
    replace hh := decs_cons hh; obtain ⟨m11, l1_9, e1_9, hh⟩ := hh
    replace hh := decs_cons hh; obtain ⟨m12, l1_10, e1_10, hh⟩ := hh
    replace hh := decs_cons hh; obtain ⟨m13, l1_11, e1_11, hh⟩ := hh
    replace hh := decs_cons hh; obtain ⟨m14, l1_12, e1_12, hh⟩ := hh
    replace hh := decs_cons hh; obtain ⟨m15, l1_13, e1_13, hh⟩ := hh
    replace hh := decs_cons hh; obtain ⟨m16, l1_14, e1_14, hh⟩ := hh
    replace hh := decs_cons hh; obtain ⟨m17, l1_15, e1_15, hh⟩ := hh
    replace hh := decs_cons hh; obtain ⟨m18, l1_16, e1_16, hh⟩ := hh
    replace hh := decs_cons hh; obtain ⟨m19, l1_17, e1_17, hh⟩ := hh
    replace hh := decs_cons hh; obtain ⟨m20, l1_18, e1_18, hh⟩ := hh
    replace hh := decs_cons hh; obtain ⟨m21, l1_19, e1_19, hh⟩ := hh
    replace hh := decs_cons hh; obtain ⟨m22, l1_20, e1_20, hh⟩ := hh
    replace hh := decs_cons hh; obtain ⟨m23, l1_21, e1_21, hh⟩ := hh
    replace hh := decs_nil hh; obtain ⟨rfl, hh⟩ := hh
    subst e1_21
    subst e1_20
    subst e1_19
    subst e1_18
    subst e1_17
    subst e1_16
    subst e1_15
    subst e1_14
    subst e1_13
    subst e1_12
    subst e1_11
    subst e1_10
    subst e1_9
    subst e1_8
    subst e1_7
    subst e1_6
    subst e1_5
    subst e1_4
    subst e1_3
    subst e1_2
    subst e1_1
    have ec1 := toArray_eq e1_0
    subst ec1
    unfold F_replica_Replica_beat at hh
    exact calls_den (fn1_right ok68 E_replica_answer.right (fn1_right ok69 E_replica_Replica_taken.right noFns_right)) plan46 _ w K Try.func46 (by kernel_rfl) (by kernel_rfl) (Eq.mp (F_replica_Replica_beat.eq F_replica_answer F_replica_Replica_taken r1 m2 m3 m4 m5 m6 m7 m8 m9 m10 m11 m12 m13 m14 m15 m16 m17 m18 m19 m20 m21 m22 m23 w.heap K) hh)
theorem ok46 : okFn Try.prog 46 = true := by kernel_rfl
end Go.Proofs.Ytcbelendjpnmiaa.V
namespace Go.Proofs.Ytcbelendjpnmiaa.V
open Go Go.RowKit
set_option linter.unusedVariables false
set_option maxRecDepth 100000
def F_replica_hears_of   (h : Heap) (Q : Option Nat → Heap → Prop) : Prop :=
  alM h fun (m1 : Nat) (h2 : Heap) =>
  mput .i64 (some m1) 1 (.func (.func 44) #[] #[]) h2 fun (h3 : Heap) =>
  mput .i64 (some m1) 4 (.func (.func 45) #[] #[]) h3 fun (h4 : Heap) =>
  mput .i64 (some m1) 6 (.func (.func 46) #[] #[]) h4 fun (h5 : Heap) =>
  Q (some m1) h5
def F_replica_hears  (h : Heap) (Q : Option Nat → Heap → Prop) : Prop := F_replica_hears_of   h Q
def plan31 : Plan := .s (.r []) (.s (.r [0]) .z)
theorem F_replica_hears.eq   (h : Heap) (K : Value → Heap → Prop) : F_replica_hears_of   h (fun (r0 : Option Nat) (h : Heap) => K (.map r0) h) =
    den Try.prog noFns Try.f31.ntmps plan31 (bodyOf Try.f31) (args0 0 []) h ⟨fun env h => dRes Try.prog Try.f31.results.toList env h K, fun _ _ _ => False, fun env h => dRes Try.prog Try.f31.results.toList env h K⟩ := by kernel_rfl
def E_replica_hears_of (f : Heap → (Option Nat → Heap → Prop) → Prop) : List Value → Heap → (Value → Heap → Prop) → Prop
  | [], h, K => f  h (fun (r0 : Option Nat) (h : Heap) => K (.map r0) h)
  | _, _, _ => False
abbrev E_replica_hears := E_replica_hears_of F_replica_hears
theorem E_replica_hears.nil (f : Heap → (Option Nat → Heap → Prop) → Prop) (h : Heap) (K : Value → Heap → Prop) : E_replica_hears_of f [] h K = f  h (fun (r0 : Option Nat) (h : Heap) => K (.map r0) h) := rfl
theorem E_replica_hears.right : IsRight Try.prog 31 E_replica_hears := by
  refine isRight fun vs K w hh => ?_
  match vs, hh with
  | [], hh =>
    replace hh := Eq.mp (E_replica_hears.nil F_replica_hears w.heap K) hh
    unfold F_replica_hears at hh
    exact calls_den noFns_right plan31 _ w K Try.func31 (by kernel_rfl) (by kernel_rfl) (Eq.mp (F_replica_hears.eq   w.heap K) hh)
theorem ok31 : okFn Try.prog 31 = true := by kernel_rfl
end Go.Proofs.Ytcbelendjpnmiaa.V
namespace Go.Proofs.Ytcbelendjpnmiaa.V
open Go Go.RowKit
set_option linter.unusedVariables false
set_option maxRecDepth 100000
def F_replica_Replica_Hear_of (f31_ : Heap → (Option Nat → Heap → Prop) → Prop) (f44_ : Option Addr → Int → Int → Int → Int → Int → Int → Int → Int → Int → Int → Sl → Int → Int → ByteArray → ByteArray → Int → Int → Int → Int → Int → Int → Int → Heap → (Int → Int → Int → Int → Int → Int → Int → Int → Int → Int → Sl → Int → Int → ByteArray → ByteArray → Int → Int → Int → Int → Int → Int → Int → Bool → Bool → Bool → Heap → Prop) → Prop) (f45_ : Option Addr → Int → Int → Int → Int → Int → Int → Int → Int → Int → Int → Sl → Int → Int → ByteArray → ByteArray → Int → Int → Int → Int → Int → Int → Int → Heap → (Int → Int → Int → Int → Int → Int → Int → Int → Int → Int → Sl → Int → Int → ByteArray → ByteArray → Int → Int → Int → Int → Int → Int → Int → Bool → Bool → Bool → Heap → Prop) → Prop) (f46_ : Option Addr → Int → Int → Int → Int → Int → Int → Int → Int → Int → Int → Sl → Int → Int → ByteArray → ByteArray → Int → Int → Int → Int → Int → Int → Int → Heap → (Int → Int → Int → Int → Int → Int → Int → Int → Int → Int → Sl → Int → Int → ByteArray → ByteArray → Int → Int → Int → Int → Int → Int → Int → Bool → Bool → Bool → Heap → Prop) → Prop) (Φ_ : Fns) (r1 : Option Addr) (m2 m3 m4 m5 m6 m7 m8 m9 m10 m11 : Int) (m12 : Sl) (m13 m14 : Int) (m15 m16 : ByteArray) (m17 m18 m19 m20 m21 m22 m23 : Int) (h : Heap) (Q : Int → Int → Int → Int → Int → Int → Int → Int → Int → Int → Sl → Int → Int → ByteArray → ByteArray → Int → Int → Int → Int → Int → Int → Int → Bool → Bool → Bool → Heap → Prop) : Prop :=
  al 42 [.int .i64 m2, .int .i64 m3, .int .i64 m4, .int .i64 m5, .int .u64 m6, .int .u64 m7, .int .u64 m8, .int .u64 m9, .int .i64 m10, .int .u64 m11, .slice m12.ptr m12.len m12.cap, .int .i64 m13, .int .u64 m14, .string m15, .string m16, .int .u64 m17, .int .u64 m18, .int .u64 m19, .int .i64 m20, .int .i64 m21, .int .i64 m22, .int .i64 m23] h fun (a24 : Addr) (h25 : Heap) =>
  al 49 [.int .i64 0, .int .i64 0, .int .i64 0, .int .i64 0, .int .u64 0, .int .u64 0, .int .u64 0, .int .u64 0, .int .i64 0, .int .u64 0, .slice none 0 0, .int .i64 0, .int .u64 0, .string (⟨#[]⟩ : ByteArray), .string (⟨#[]⟩ : ByteArray), .int .u64 0, .int .u64 0, .int .u64 0, .int .i64 0, .int .i64 0, .int .i64 0, .int .i64 0, .bool false, .bool false, .bool false] h25 fun (a26 : Addr) (h27 : Heap) =>
  ld [.int .i64] ((a24.add 0).add 0) h27 fun (v28 : Int) =>
  f31_ h27 fun (r29 : Option Nat) (h30 : Heap) =>
  cellsAre h30 ((a24.add 0).add 0) [.int .i64 v28] ∧
  mg .fn .i64 r29 v28 (.nilFunc) h30 fun (v31 : Option FV) (b32 : Bool) =>
  brr (!b32)
  (st a26 [.int .i64 0, .int .i64 0, .int .i64 0, .int .i64 0, .int .u64 0, .int .u64 0, .int .u64 0, .int .u64 0, .int .i64 0, .int .u64 0, .slice none 0 0, .int .i64 0, .int .u64 0, .string (⟨#[]⟩ : ByteArray), .string (⟨#[]⟩ : ByteArray), .int .u64 0, .int .u64 0, .int .u64 0, .int .i64 0, .int .i64 0, .int .i64 0, .int .i64 0, .bool false, .bool false, .bool false] h30 fun (h33 : Heap) =>
  ld [.int .i64, .int .i64, .int .i64, .int .i64, .int .u64, .int .u64, .int .u64, .int .u64, .int .i64, .int .u64, .sl, .int .i64, .int .u64, .str, .str, .int .u64, .int .u64, .int .u64, .int .i64, .int .i64, .int .i64, .int .i64, .bool, .bool, .bool] a26 h33 fun (v34 v35 v36 v37 v38 v39 v40 v41 v42 v43 : Int) (v44 : Sl) (v45 v46 : Int) (v47 v48 : ByteArray) (v49 v50 v51 v52 v53 v54 v55 : Int) (v56 v57 v58 : Bool) =>
  Q v34 v35 v36 v37 v38 v39 v40 v41 v42 v43 v44 v45 v46 v47 v48 v49 v50 v51 v52 v53 v54 v55 v56 v57 v58 h33)
  (ld [.int .i64, .int .i64, .int .i64, .int .i64, .int .u64, .int .u64, .int .u64, .int .u64, .int .i64, .int .u64, .sl, .int .i64, .int .u64, .str, .str, .int .u64, .int .u64, .int .u64, .int .i64, .int .i64, .int .i64, .int .i64] a24 h30 fun (v59 v60 v61 v62 v63 v64 v65 v66 v67 v68 : Int) (v69 : Sl) (v70 v71 : Int) (v72 v73 : ByteArray) (v74 v75 v76 v77 v78 v79 v80 : Int) =>
  dynA [.int .i64, .int .i64, .int .i64, .int .i64, .int .u64, .int .u64, .int .u64, .int .u64, .int .i64, .int .u64, .sl, .int .i64, .int .u64, .str, .str, .int .u64, .int .u64, .int .u64, .int .i64, .int .i64, .int .i64, .int .i64, .bool, .bool, .bool] Φ_ (Kd.enc .fn v31) [(.pointer r1 : Value), (.agg #[.int .i64 v59, .int .i64 v60, .int .i64 v61, .int .i64 v62, .int .u64 v63, .int .u64 v64, .int .u64 v65, .int .u64 v66, .int .i64 v67, .int .u64 v68, .slice v69.ptr v69.len v69.cap, .int .i64 v70, .int .u64 v71, .string v72, .string v73, .int .u64 v74, .int .u64 v75, .int .u64 v76, .int .i64 v77, .int .i64 v78, .int .i64 v79, .int .i64 v80] : Value)] h30 fun (r82 r83 r84 r85 r86 r87 r88 r89 r90 r91 : Int) (r92 : Sl) (r93 r94 : Int) (r95 r96 : ByteArray) (r97 r98 r99 r100 r101 r102 r103 : Int) (r104 r105 r106 : Bool) (h81 : Heap) =>
  al 49 [.int .i64 0, .int .i64 0, .int .i64 0, .int .i64 0, .int .u64 0, .int .u64 0, .int .u64 0, .int .u64 0, .int .i64 0, .int .u64 0, .slice none 0 0, .int .i64 0, .int .u64 0, .string (⟨#[]⟩ : ByteArray), .string (⟨#[]⟩ : ByteArray), .int .u64 0, .int .u64 0, .int .u64 0, .int .i64 0, .int .i64 0, .int .i64 0, .int .i64 0, .bool false, .bool false, .bool false] h81 fun (a107 : Addr) (h108 : Heap) =>
  st a107 [.int .i64 r82, .int .i64 r83, .int .i64 r84, .int .i64 r85, .int .u64 r86, .int .u64 r87, .int .u64 r88, .int .u64 r89, .int .i64 r90, .int .u64 r91, .slice r92.ptr r92.len r92.cap, .int .i64 r93, .int .u64 r94, .string r95, .string r96, .int .u64 r97, .int .u64 r98, .int .u64 r99, .int .i64 r100, .int .i64 r101, .int .i64 r102, .int .i64 r103, .bool r104, .bool r105, .bool r106] h108 fun (h109 : Heap) =>
  ld [.int .i64] (((a107.add 0).add 0).add 0) h109 fun (v110 : Int) =>
  st (a107.add 22) [.bool (v110 != 0)] h109 fun (h111 : Heap) =>
  ld [.bool] (a107.add 22) h111 fun (v112 : Bool) =>
  jn [] (fun  (h120 : Heap) =>
  ld [.int .i64, .int .i64, .int .i64, .int .i64, .int .u64, .int .u64, .int .u64, .int .u64, .int .i64, .int .u64, .sl, .int .i64, .int .u64, .str, .str, .int .u64, .int .u64, .int .u64, .int .i64, .int .i64, .int .i64, .int .i64, .bool, .bool, .bool] a107 h120 fun (v121 v122 v123 v124 v125 v126 v127 v128 v129 v130 : Int) (v131 : Sl) (v132 v133 : Int) (v134 v135 : ByteArray) (v136 v137 v138 v139 v140 v141 v142 : Int) (v143 v144 v145 : Bool) =>
  st a26 [.int .i64 v121, .int .i64 v122, .int .i64 v123, .int .i64 v124, .int .u64 v125, .int .u64 v126, .int .u64 v127, .int .u64 v128, .int .i64 v129, .int .u64 v130, .slice v131.ptr v131.len v131.cap, .int .i64 v132, .int .u64 v133, .string v134, .string v135, .int .u64 v136, .int .u64 v137, .int .u64 v138, .int .i64 v139, .int .i64 v140, .int .i64 v141, .int .i64 v142, .bool v143, .bool v144, .bool v145] h120 fun (h146 : Heap) =>
  ld [.int .i64, .int .i64, .int .i64, .int .i64, .int .u64, .int .u64, .int .u64, .int .u64, .int .i64, .int .u64, .sl, .int .i64, .int .u64, .str, .str, .int .u64, .int .u64, .int .u64, .int .i64, .int .i64, .int .i64, .int .i64, .bool, .bool, .bool] a26 h146 fun (v147 v148 v149 v150 v151 v152 v153 v154 v155 v156 : Int) (v157 : Sl) (v158 v159 : Int) (v160 v161 : ByteArray) (v162 v163 v164 v165 v166 v167 v168 : Int) (v169 v170 v171 : Bool) =>
  Q v147 v148 v149 v150 v151 v152 v153 v154 v155 v156 v157 v158 v159 v160 v161 v162 v163 v164 v165 v166 v167 v168 v169 v170 v171 h146) (fun (j113 : Heap → Prop) =>
  brr v112
  (ld [.int .i64] ((a24.add 0).add 2) h111 fun (v114 : Int) =>
  ld [.int .i64] ((a24.add 0).add 1) h111 fun (v115 : Int) =>
  ld [.int .i64] ((a24.add 0).add 3) h111 fun (v116 : Int) =>
  st (((a107.add 0).add 0).add 1) [.int .i64 v114] h111 fun (h117 : Heap) =>
  cellsAre h117 ((a24.add 0).add 1) [.int .i64 v115] ∧
  cellsAre h117 ((a24.add 0).add 3) [.int .i64 v116] ∧
  st (((a107.add 0).add 0).add 2) [.int .i64 v115] h117 fun (h118 : Heap) =>
  cellsAre h118 ((a24.add 0).add 3) [.int .i64 v116] ∧
  st (((a107.add 0).add 0).add 3) [.int .i64 v116] h118 fun (h119 : Heap) =>
  j113 h119)
  (j113 h111)))
def F_replica_Replica_Hear (r1 : Option Addr) (m2 m3 m4 m5 m6 m7 m8 m9 m10 m11 : Int) (m12 : Sl) (m13 m14 : Int) (m15 m16 : ByteArray) (m17 m18 m19 m20 m21 m22 m23 : Int) (h : Heap) (Q : Int → Int → Int → Int → Int → Int → Int → Int → Int → Int → Sl → Int → Int → ByteArray → ByteArray → Int → Int → Int → Int → Int → Int → Int → Bool → Bool → Bool → Heap → Prop) : Prop := F_replica_Replica_Hear_of F_replica_hears F_replica_Replica_prepare F_replica_Replica_write F_replica_Replica_beat (fn1 31 E_replica_hears (fn1 44 E_replica_Replica_prepare (fn1 45 E_replica_Replica_write (fn1 46 E_replica_Replica_beat noFns)))) r1 m2 m3 m4 m5 m6 m7 m8 m9 m10 m11 m12 m13 m14 m15 m16 m17 m18 m19 m20 m21 m22 m23 h Q
def plan13 : Plan := .s (.r [0, 3, 4]) (.s (.d [0, 0, 2, 6, 15, 31, 63, 63, 127, 511] [[1, 2, 3, 0, 4, 5, 6, 7, 8, 9]] [0, 3, 4, 5, 6]) (.s (.s (.r [0, 3, 4, 5, 17]) (.c (.s (.r [4]) .z) .z)) (.s (.r [3, 4, 7]) (.s (.r [3, 4, 7]) (.s (.s (.r [3, 4, 7, 30]) (.cj [] [4, 7] (.d [0, 1, 3, 0, 8, 24, 0, 64, 192, 7, 519, 1543, 3591, 7743, 15935, 32319, 65087, 131071, 262143, 524287, 1048575] [[0, 1, 2, 3, 4, 5, 6, 7, 8, 9, 10, 11, 12, 13, 14, 15, 16, 17, 18, 19, 20]] [4, 7]) .z)) (.s (.r [4]) .z))))))
theorem F_replica_Replica_Hear.eq (f31_ : Heap → (Option Nat → Heap → Prop) → Prop) (f44_ : Option Addr → Int → Int → Int → Int → Int → Int → Int → Int → Int → Int → Sl → Int → Int → ByteArray → ByteArray → Int → Int → Int → Int → Int → Int → Int → Heap → (Int → Int → Int → Int → Int → Int → Int → Int → Int → Int → Sl → Int → Int → ByteArray → ByteArray → Int → Int → Int → Int → Int → Int → Int → Bool → Bool → Bool → Heap → Prop) → Prop) (f45_ : Option Addr → Int → Int → Int → Int → Int → Int → Int → Int → Int → Int → Sl → Int → Int → ByteArray → ByteArray → Int → Int → Int → Int → Int → Int → Int → Heap → (Int → Int → Int → Int → Int → Int → Int → Int → Int → Int → Sl → Int → Int → ByteArray → ByteArray → Int → Int → Int → Int → Int → Int → Int → Bool → Bool → Bool → Heap → Prop) → Prop) (f46_ : Option Addr → Int → Int → Int → Int → Int → Int → Int → Int → Int → Int → Sl → Int → Int → ByteArray → ByteArray → Int → Int → Int → Int → Int → Int → Int → Heap → (Int → Int → Int → Int → Int → Int → Int → Int → Int → Int → Sl → Int → Int → ByteArray → ByteArray → Int → Int → Int → Int → Int → Int → Int → Bool → Bool → Bool → Heap → Prop) → Prop) (r1 : Option Addr) (m2 m3 m4 m5 m6 m7 m8 m9 m10 m11 : Int) (m12 : Sl) (m13 m14 : Int) (m15 m16 : ByteArray) (m17 m18 m19 m20 m21 m22 m23 : Int) (h : Heap) (K : Value → Heap → Prop) : F_replica_Replica_Hear_of f31_ f44_ f45_ f46_ (fn1 31 (E_replica_hears_of f31_) (fn1 44 (E_replica_Replica_prepare_of f44_) (fn1 45 (E_replica_Replica_write_of f45_) (fn1 46 (E_replica_Replica_beat_of f46_) noFns)))) r1 m2 m3 m4 m5 m6 m7 m8 m9 m10 m11 m12 m13 m14 m15 m16 m17 m18 m19 m20 m21 m22 m23 h (fun (r0 r1 r2 r3 r4 r5 r6 r7 r8 r9 : Int) (r10 : Sl) (r11 r12 : Int) (r13 r14 : ByteArray) (r15 r16 r17 r18 r19 r20 r21 : Int) (r22 r23 r24 : Bool) (h : Heap) => K (.agg #[.int .i64 r0, .int .i64 r1, .int .i64 r2, .int .i64 r3, .int .u64 r4, .int .u64 r5, .int .u64 r6, .int .u64 r7, .int .i64 r8, .int .u64 r9, .slice r10.ptr r10.len r10.cap, .int .i64 r11, .int .u64 r12, .string r13, .string r14, .int .u64 r15, .int .u64 r16, .int .u64 r17, .int .i64 r18, .int .i64 r19, .int .i64 r20, .int .i64 r21, .bool r22, .bool r23, .bool r24]) h) =
    den Try.prog (fn1 31 (E_replica_hears_of f31_) (fn1 44 (E_replica_Replica_prepare_of f44_) (fn1 45 (E_replica_Replica_write_of f45_) (fn1 46 (E_replica_Replica_beat_of f46_) noFns)))) Try.f13.ntmps plan13 (bodyOf Try.f13) (args0 0 [(.pointer r1 : Value), (.agg #[.int .i64 m2, .int .i64 m3, .int .i64 m4, .int .i64 m5, .int .u64 m6, .int .u64 m7, .int .u64 m8, .int .u64 m9, .int .i64 m10, .int .u64 m11, .slice m12.ptr m12.len m12.cap, .int .i64 m13, .int .u64 m14, .string m15, .string m16, .int .u64 m17, .int .u64 m18, .int .u64 m19, .int .i64 m20, .int .i64 m21, .int .i64 m22, .int .i64 m23] : Value)]) h ⟨fun env h => dRes Try.prog Try.f13.results.toList env h K, fun _ _ _ => False, fun env h => dRes Try.prog Try.f13.results.toList env h K⟩ := by kernel_rfl
def E_replica_Replica_Hear_of (f : Option Addr → Int → Int → Int → Int → Int → Int → Int → Int → Int → Int → Sl → Int → Int → ByteArray → ByteArray → Int → Int → Int → Int → Int → Int → Int → Heap → (Int → Int → Int → Int → Int → Int → Int → Int → Int → Int → Sl → Int → Int → ByteArray → ByteArray → Int → Int → Int → Int → Int → Int → Int → Bool → Bool → Bool → Heap → Prop) → Prop) : List Value → Heap → (Value → Heap → Prop) → Prop
  | [v0, v1], h, K => dec1 .ptr v0 fun (r1 : Option Addr) =>
  vAgg v1 fun cs1 => decs [.int .i64, .int .i64, .int .i64, .int .i64, .int .u64, .int .u64, .int .u64, .int .u64, .int .i64, .int .u64, .sl, .int .i64, .int .u64, .str, .str, .int .u64, .int .u64, .int .u64, .int .i64, .int .i64, .int .i64, .int .i64] cs1.toList fun (m2 m3 m4 m5 m6 m7 m8 m9 m10 m11 : Int) (m12 : Sl) (m13 m14 : Int) (m15 m16 : ByteArray) (m17 m18 m19 m20 m21 m22 m23 : Int) =>
  f r1 m2 m3 m4 m5 m6 m7 m8 m9 m10 m11 m12 m13 m14 m15 m16 m17 m18 m19 m20 m21 m22 m23 h (fun (r0 r1 r2 r3 r4 r5 r6 r7 r8 r9 : Int) (r10 : Sl) (r11 r12 : Int) (r13 r14 : ByteArray) (r15 r16 r17 r18 r19 r20 r21 : Int) (r22 r23 r24 : Bool) (h : Heap) => K (.agg #[.int .i64 r0, .int .i64 r1, .int .i64 r2, .int .i64 r3, .int .u64 r4, .int .u64 r5, .int .u64 r6, .int .u64 r7, .int .i64 r8, .int .u64 r9, .slice r10.ptr r10.len r10.cap, .int .i64 r11, .int .u64 r12, .string r13, .string r14, .int .u64 r15, .int .u64 r16, .int .u64 r17, .int .i64 r18, .int .i64 r19, .int .i64 r20, .int .i64 r21, .bool r22, .bool r23, .bool r24]) h)
  | _, _, _ => False
abbrev E_replica_Replica_Hear := E_replica_Replica_Hear_of F_replica_Replica_Hear
theorem E_replica_Replica_Hear.right : IsRight Try.prog 13 E_replica_Replica_Hear := by
  refine isRight fun vs K w hh => ?_
  match vs, hh with
  | [v0, v1], hh =>
    unfold E_replica_Replica_Hear E_replica_Replica_Hear_of at hh
    replace hh := dec1_sound hh; obtain ⟨r1, rfl, hh⟩ := hh
    replace hh := vAgg_sound hh; obtain ⟨cs1, rfl, hh⟩ := hh
    replace hh := decs_cons hh; obtain ⟨m2, l1_0, e1_0, hh⟩ := hh
    replace hh := decs_cons hh; obtain ⟨m3, l1_1, e1_1, hh⟩ := hh
    replace hh := decs_cons hh; obtain ⟨m4, l1_2, e1_2, hh⟩ := hh
    replace hh := decs_cons hh; obtain ⟨m5, l1_3, e1_3, hh⟩ := hh
    replace hh := decs_cons hh; obtain ⟨m6, l1_4, e1_4, hh⟩ := hh
    replace hh := decs_cons hh; obtain ⟨m7, l1_5, e1_5, hh⟩ := hh
    replace hh := decs_cons hh; obtain ⟨m8, l1_6, e1_6, hh⟩ := hh
    replace hh := decs_cons hh; obtain ⟨m9, l1_7, e1_7, hh⟩ := hh
    replace hh := decs_cons hh; obtain ⟨m10, l1_8, e1_8, hh⟩ := hh
    replace hh := decs_cons hh; obtain ⟨m11, l1_9, e1_9, hh⟩ := hh
    replace hh := decs_cons hh; obtain ⟨m12, l1_10, e1_10, hh⟩ := hh
    replace hh := decs_cons hh; obtain ⟨m13, l1_11, e1_11, hh⟩ := hh
    replace hh := decs_cons hh; obtain ⟨m14, l1_12, e1_12, hh⟩ := hh
    replace hh := decs_cons hh; obtain ⟨m15, l1_13, e1_13, hh⟩ := hh
    replace hh := decs_cons hh; obtain ⟨m16, l1_14, e1_14, hh⟩ := hh
    replace hh := decs_cons hh; obtain ⟨m17, l1_15, e1_15, hh⟩ := hh
    replace hh := decs_cons hh; obtain ⟨m18, l1_16, e1_16, hh⟩ := hh
    replace hh := decs_cons hh; obtain ⟨m19, l1_17, e1_17, hh⟩ := hh
    replace hh := decs_cons hh; obtain ⟨m20, l1_18, e1_18, hh⟩ := hh
    replace hh := decs_cons hh; obtain ⟨m21, l1_19, e1_19, hh⟩ := hh
    replace hh := decs_cons hh; obtain ⟨m22, l1_20, e1_20, hh⟩ := hh
    replace hh := decs_cons hh; obtain ⟨m23, l1_21, e1_21, hh⟩ := hh
    replace hh := decs_nil hh; obtain ⟨rfl, hh⟩ := hh
    subst e1_21
    subst e1_20
    subst e1_19
    subst e1_18
    subst e1_17
    subst e1_16
    subst e1_15
    subst e1_14
    subst e1_13
    subst e1_12
    subst e1_11
    subst e1_10
    subst e1_9
    subst e1_8
    subst e1_7
    subst e1_6
    subst e1_5
    subst e1_4
    subst e1_3
    subst e1_2
    subst e1_1
    have ec1 := toArray_eq e1_0
    subst ec1
    unfold F_replica_Replica_Hear at hh
    exact calls_den (fn1_right ok31 E_replica_hears.right (fn1_right ok44 E_replica_Replica_prepare.right (fn1_right ok45 E_replica_Replica_write.right (fn1_right ok46 E_replica_Replica_beat.right noFns_right)))) plan13 _ w K Try.func13 (by kernel_rfl) (by kernel_rfl) (Eq.mp (F_replica_Replica_Hear.eq F_replica_hears F_replica_Replica_prepare F_replica_Replica_write F_replica_Replica_beat r1 m2 m3 m4 m5 m6 m7 m8 m9 m10 m11 m12 m13 m14 m15 m16 m17 m18 m19 m20 m21 m22 m23 w.heap K) hh)
theorem ok13 : okFn Try.prog 13 = true := by kernel_rfl
end Go.Proofs.Ytcbelendjpnmiaa.V
namespace Go.Proofs.Ytcbelendjpnmiaa.V
open Go Go.RowKit
set_option linter.unusedVariables false
set_option maxRecDepth 100000
def F_replica_Replica_Own_of (f65_ : Option Addr → Int → Heap → (Bool → Heap → Prop) → Prop) (r1 : Option Addr) (epoch2 : Int) (h : Heap) (Q : Bool → Heap → Prop) : Prop :=
  nn r1 fun (a3 : Addr) =>
  ld [.int .u64] ((a3.add 0).add 0) h fun (v4 : Int) =>
  f65_ r1 (if v4 > epoch2 then v4 else epoch2) h fun (r5 : Bool) (h6 : Heap) =>
  Q r5 h6
def F_replica_Replica_Own (r1 : Option Addr) (epoch2 : Int) (h : Heap) (Q : Bool → Heap → Prop) : Prop := F_replica_Replica_Own_of F_replica_Replica_promise r1 epoch2 h Q
def plan42 : Plan := .s (.r [0, 1]) (.s (.r [4]) .z)
theorem F_replica_Replica_Own.eq (f65_ : Option Addr → Int → Heap → (Bool → Heap → Prop) → Prop) (r1 : Option Addr) (epoch2 : Int) (h : Heap) (K : Value → Heap → Prop) : F_replica_Replica_Own_of f65_ r1 epoch2 h (fun (r0 : Bool) (h : Heap) => K (.bool r0) h) =
    den Try.prog (fn1 65 (E_replica_Replica_promise_of f65_) noFns) Try.f42.ntmps plan42 (bodyOf Try.f42) (args0 0 [(.pointer r1 : Value), (.int .u64 epoch2 : Value)]) h ⟨fun env h => dRes Try.prog Try.f42.results.toList env h K, fun _ _ _ => False, fun env h => dRes Try.prog Try.f42.results.toList env h K⟩ := by kernel_rfl
def E_replica_Replica_Own_of (f : Option Addr → Int → Heap → (Bool → Heap → Prop) → Prop) : List Value → Heap → (Value → Heap → Prop) → Prop
  | [v0, v1], h, K => dec1 .ptr v0 fun (r1 : Option Addr) =>
  dec1 (.int .u64) v1 fun (epoch2 : Int) =>
  f r1 epoch2 h (fun (r0 : Bool) (h : Heap) => K (.bool r0) h)
  | _, _, _ => False
abbrev E_replica_Replica_Own := E_replica_Replica_Own_of F_replica_Replica_Own
theorem E_replica_Replica_Own.right : IsRight Try.prog 42 E_replica_Replica_Own := by
  refine isRight fun vs K w hh => ?_
  match vs, hh with
  | [v0, v1], hh =>
    unfold E_replica_Replica_Own E_replica_Replica_Own_of at hh
    replace hh := dec1_sound hh; obtain ⟨r1, rfl, hh⟩ := hh
    replace hh := dec1_sound hh; obtain ⟨epoch2, rfl, hh⟩ := hh
    unfold F_replica_Replica_Own at hh
    exact calls_den (fn1_right ok65 E_replica_Replica_promise.right noFns_right) plan42 _ w K Try.func42 (by kernel_rfl) (by kernel_rfl) (Eq.mp (F_replica_Replica_Own.eq F_replica_Replica_promise r1 epoch2 w.heap K) hh)
theorem ok42 : okFn Try.prog 42 = true := by kernel_rfl
end Go.Proofs.Ytcbelendjpnmiaa.V
namespace Go.Proofs.Ytcbelendjpnmiaa.V
open Go Go.RowKit
set_option linter.unusedVariables false
set_option maxRecDepth 100000
def F_replica_Replica_Tick_of  (r1 : Option Addr) (h : Heap) (Q : Heap → Prop) : Prop :=
  nn r1 fun (a2 : Addr) =>
  ld [.int .i64] (a2.add 4) h fun (v3 : Int) =>
  nn r1 fun (a4 : Addr) =>
  st (a4.add 4) [.int .i64 (if (0 : Int) > (IntKind.i64.wrap (v3 - 1)) then 0 else (IntKind.i64.wrap (v3 - 1)))] h fun (h5 : Heap) =>
  Q h5
def F_replica_Replica_Tick (r1 : Option Addr) (h : Heap) (Q : Heap → Prop) : Prop := F_replica_Replica_Tick_of  r1 h Q
def plan11 : Plan := .r []
theorem F_replica_Replica_Tick.eq  (r1 : Option Addr) (h : Heap) (K : Value → Heap → Prop) : F_replica_Replica_Tick_of  r1 h (fun  (h : Heap) => K (.tuple #[]) h) =
    den Try.prog noFns Try.f11.ntmps plan11 (bodyOf Try.f11) (args0 0 [(.pointer r1 : Value)]) h ⟨fun env h => dRes Try.prog Try.f11.results.toList env h K, fun _ _ _ => False, fun env h => dRes Try.prog Try.f11.results.toList env h K⟩ := by kernel_rfl
def E_replica_Replica_Tick_of (f : Option Addr → Heap → (Heap → Prop) → Prop) : List Value → Heap → (Value → Heap → Prop) → Prop
  | [v0], h, K => dec1 .ptr v0 fun (r1 : Option Addr) =>
  f r1 h (fun  (h : Heap) => K (.tuple #[]) h)
  | _, _, _ => False
abbrev E_replica_Replica_Tick := E_replica_Replica_Tick_of F_replica_Replica_Tick
theorem E_replica_Replica_Tick.right : IsRight Try.prog 11 E_replica_Replica_Tick := by
  refine isRight fun vs K w hh => ?_
  match vs, hh with
  | [v0], hh =>
    unfold E_replica_Replica_Tick E_replica_Replica_Tick_of at hh
    replace hh := dec1_sound hh; obtain ⟨r1, rfl, hh⟩ := hh
    unfold F_replica_Replica_Tick at hh
    exact calls_den noFns_right plan11 _ w K Try.func11 (by kernel_rfl) (by kernel_rfl) (Eq.mp (F_replica_Replica_Tick.eq  r1 w.heap K) hh)
theorem ok11 : okFn Try.prog 11 = true := by kernel_rfl
end Go.Proofs.Ytcbelendjpnmiaa.V
namespace Go.Proofs.Ytcbelendjpnmiaa.V
open Go Go.RowKit
set_option linter.unusedVariables false
set_option maxRecDepth 100000
def F_replica_Replica_Wait_of  (r1 : Option Addr) (h : Heap) (Q : Int → Heap → Prop) : Prop :=
  nn r1 fun (a2 : Addr) =>
  ld [.int .i64] (a2.add 4) h fun (v3 : Int) =>
  Q v3 h
def F_replica_Replica_Wait (r1 : Option Addr) (h : Heap) (Q : Int → Heap → Prop) : Prop := F_replica_Replica_Wait_of  r1 h Q
def plan28 : Plan := .s (.r [0]) (.s (.r [2]) .z)
theorem F_replica_Replica_Wait.eq  (r1 : Option Addr) (h : Heap) (K : Value → Heap → Prop) : F_replica_Replica_Wait_of  r1 h (fun (r0 : Int) (h : Heap) => K (.int .i64 r0) h) =
    den Try.prog noFns Try.f28.ntmps plan28 (bodyOf Try.f28) (args0 0 [(.pointer r1 : Value)]) h ⟨fun env h => dRes Try.prog Try.f28.results.toList env h K, fun _ _ _ => False, fun env h => dRes Try.prog Try.f28.results.toList env h K⟩ := by kernel_rfl
def E_replica_Replica_Wait_of (f : Option Addr → Heap → (Int → Heap → Prop) → Prop) : List Value → Heap → (Value → Heap → Prop) → Prop
  | [v0], h, K => dec1 .ptr v0 fun (r1 : Option Addr) =>
  f r1 h (fun (r0 : Int) (h : Heap) => K (.int .i64 r0) h)
  | _, _, _ => False
abbrev E_replica_Replica_Wait := E_replica_Replica_Wait_of F_replica_Replica_Wait
theorem E_replica_Replica_Wait.right : IsRight Try.prog 28 E_replica_Replica_Wait := by
  refine isRight fun vs K w hh => ?_
  match vs, hh with
  | [v0], hh =>
    unfold E_replica_Replica_Wait E_replica_Replica_Wait_of at hh
    replace hh := dec1_sound hh; obtain ⟨r1, rfl, hh⟩ := hh
    unfold F_replica_Replica_Wait at hh
    exact calls_den noFns_right plan28 _ w K Try.func28 (by kernel_rfl) (by kernel_rfl) (Eq.mp (F_replica_Replica_Wait.eq  r1 w.heap K) hh)
theorem ok28 : okFn Try.prog 28 = true := by kernel_rfl
end Go.Proofs.Ytcbelendjpnmiaa.V
namespace Go.Proofs.Ytcbelendjpnmiaa.V
open Go Go.RowKit
set_option linter.unusedVariables false
set_option maxRecDepth 100000
def F_replica_New_of (f30_ : Sl → Heap → (Sl → Heap → Prop) → Prop) (value1 : Sl) (h : Heap) (Q : Option Addr → Heap → Prop) : Prop :=
  f30_ value1 h fun (r2 : Sl) (h3 : Heap) =>
  al 77 [.int .u64 0, .int .u64 0, .int .u64 0, .slice r2.ptr r2.len r2.cap, .int .i64 0] h3 fun (a4 : Addr) (h5 : Heap) =>
  Q (some a4) h5
def F_replica_New (value1 : Sl) (h : Heap) (Q : Option Addr → Heap → Prop) : Prop := F_replica_New_of F_bytes_Clone value1 h Q
def plan10 : Plan := .s (.r [0]) (.s (.r [2]) .z)
theorem F_replica_New.eq (f30_ : Sl → Heap → (Sl → Heap → Prop) → Prop) (value1 : Sl) (h : Heap) (K : Value → Heap → Prop) : F_replica_New_of f30_ value1 h (fun (r0 : Option Addr) (h : Heap) => K (.pointer r0) h) =
    den Try.prog (fn1 30 (E_bytes_Clone_of f30_) noFns) Try.f10.ntmps plan10 (bodyOf Try.f10) (args0 0 [(.slice value1.ptr value1.len value1.cap : Value)]) h ⟨fun env h => dRes Try.prog Try.f10.results.toList env h K, fun _ _ _ => False, fun env h => dRes Try.prog Try.f10.results.toList env h K⟩ := by kernel_rfl
def E_replica_New_of (f : Sl → Heap → (Option Addr → Heap → Prop) → Prop) : List Value → Heap → (Value → Heap → Prop) → Prop
  | [v0], h, K => dec1 .sl v0 fun (value1 : Sl) =>
  f value1 h (fun (r0 : Option Addr) (h : Heap) => K (.pointer r0) h)
  | _, _, _ => False
abbrev E_replica_New := E_replica_New_of F_replica_New
theorem E_replica_New.right : IsRight Try.prog 10 E_replica_New := by
  refine isRight fun vs K w hh => ?_
  match vs, hh with
  | [v0], hh =>
    unfold E_replica_New E_replica_New_of at hh
    replace hh := dec1_sound hh; obtain ⟨value1, rfl, hh⟩ := hh
    unfold F_replica_New at hh
    exact calls_den (fn1_right ok30 E_bytes_Clone.right noFns_right) plan10 _ w K Try.func10 (by kernel_rfl) (by kernel_rfl) (Eq.mp (F_replica_New.eq F_bytes_Clone value1 w.heap K) hh)
theorem ok10 : okFn Try.prog 10 = true := by kernel_rfl
end Go.Proofs.Ytcbelendjpnmiaa.V
namespace Go.Proofs.Ytcbelendjpnmiaa.V
open Go Go.RowKit
set_option linter.unusedVariables false
set_option maxRecDepth 100000
def F_replica_Load_of (f30_ : Sl → Heap → (Sl → Heap → Prop) → Prop) (s1 s2 s3 : Int) (s4 : Sl) (span5 : Int) (h : Heap) (Q : Option Addr → Heap → Prop) : Prop :=
  al 44 [.int .u64 s1, .int .u64 s2, .int .u64 s3, .slice s4.ptr s4.len s4.cap] h fun (a6 : Addr) (h7 : Heap) =>
  ld [.sl] (a6.add 3) h7 fun (v8 : Sl) =>
  f30_ v8 h7 fun (r9 : Sl) (h10 : Heap) =>
  st (a6.add 3) [.slice r9.ptr r9.len r9.cap] h10 fun (h11 : Heap) =>
  ld [.int .u64, .int .u64, .int .u64, .sl] a6 h11 fun (v12 v13 v14 : Int) (v15 : Sl) =>
  al 77 [.int .u64 v12, .int .u64 v13, .int .u64 v14, .slice v15.ptr v15.len v15.cap, .int .i64 (if (0 : Int) > span5 then 0 else span5)] h11 fun (a16 : Addr) (h17 : Heap) =>
  Q (some a16) h17
def F_replica_Load (s1 s2 s3 : Int) (s4 : Sl) (span5 : Int) (h : Heap) (Q : Option Addr → Heap → Prop) : Prop := F_replica_Load_of F_bytes_Clone s1 s2 s3 s4 span5 h Q
def plan21 : Plan := .s (.r [1, 2]) (.s (.r [1, 2]) (.s (.r [4]) .z))
theorem F_replica_Load.eq (f30_ : Sl → Heap → (Sl → Heap → Prop) → Prop) (s1 s2 s3 : Int) (s4 : Sl) (span5 : Int) (h : Heap) (K : Value → Heap → Prop) : F_replica_Load_of f30_ s1 s2 s3 s4 span5 h (fun (r0 : Option Addr) (h : Heap) => K (.pointer r0) h) =
    den Try.prog (fn1 30 (E_bytes_Clone_of f30_) noFns) Try.f21.ntmps plan21 (bodyOf Try.f21) (args0 0 [(.agg #[.int .u64 s1, .int .u64 s2, .int .u64 s3, .slice s4.ptr s4.len s4.cap] : Value), (.int .i64 span5 : Value)]) h ⟨fun env h => dRes Try.prog Try.f21.results.toList env h K, fun _ _ _ => False, fun env h => dRes Try.prog Try.f21.results.toList env h K⟩ := by kernel_rfl
def E_replica_Load_of (f : Int → Int → Int → Sl → Int → Heap → (Option Addr → Heap → Prop) → Prop) : List Value → Heap → (Value → Heap → Prop) → Prop
  | [v0, v1], h, K => vAgg v0 fun cs0 => decs [.int .u64, .int .u64, .int .u64, .sl] cs0.toList fun (s1 s2 s3 : Int) (s4 : Sl) =>
  dec1 (.int .i64) v1 fun (span5 : Int) =>
  f s1 s2 s3 s4 span5 h (fun (r0 : Option Addr) (h : Heap) => K (.pointer r0) h)
  | _, _, _ => False
abbrev E_replica_Load := E_replica_Load_of F_replica_Load
theorem E_replica_Load.right : IsRight Try.prog 21 E_replica_Load := by
  refine isRight fun vs K w hh => ?_
  match vs, hh with
  | [v0, v1], hh =>
    unfold E_replica_Load E_replica_Load_of at hh
    replace hh := vAgg_sound hh; obtain ⟨cs0, rfl, hh⟩ := hh
    replace hh := decs_cons hh; obtain ⟨s1, l0_0, e0_0, hh⟩ := hh
    replace hh := decs_cons hh; obtain ⟨s2, l0_1, e0_1, hh⟩ := hh
    replace hh := decs_cons hh; obtain ⟨s3, l0_2, e0_2, hh⟩ := hh
    replace hh := decs_cons hh; obtain ⟨s4, l0_3, e0_3, hh⟩ := hh
    replace hh := decs_nil hh; obtain ⟨rfl, hh⟩ := hh
    subst e0_3
    subst e0_2
    subst e0_1
    have ec0 := toArray_eq e0_0
    subst ec0
    replace hh := dec1_sound hh; obtain ⟨span5, rfl, hh⟩ := hh
    unfold F_replica_Load at hh
    exact calls_den (fn1_right ok30 E_bytes_Clone.right noFns_right) plan21 _ w K Try.func21 (by kernel_rfl) (by kernel_rfl) (Eq.mp (F_replica_Load.eq F_bytes_Clone s1 s2 s3 s4 span5 w.heap K) hh)
theorem ok21 : okFn Try.prog 21 = true := by kernel_rfl
end Go.Proofs.Ytcbelendjpnmiaa.V
/- The program's replica: what it holds; its small functions. -/
namespace Go.Proofs.Ytcbelendjpnmiaa.V
open Go Go.RowKit
set_option linter.unusedVariables false
set_option linter.unusedSimpArgs false
/-- What a replica holds. -/
structure RS where
  prom : Int
  te : Int
  ts : Int
  val : List UInt8
  wait : Int
structure RS.Ok (r : RS) : Prop where
  v : r.val.length ≤ (140737488355325 : Nat)
  w0 : 0 ≤ r.wait
  w1 : r.wait ≤ (9223372036854775807 : Int)
def repR (p : Nat) (r : RS) : Res := ex fun s : Sl => sep (own p [.int .u64 r.prom, .int .u64 r.te, .int .u64 r.ts, .slice s.ptr s.len s.cap, .int .i64 r.wait]) (buf 1 u8 s r.val)
theorem Sat.rep {h0 h : Heap} {L : List Res} {p : Nat} {r : RS} (O : Sat h0 h (repR p r :: L)) : ∃ s, Sat h0 h (own p [.int .u64 r.prom, .int .u64 r.te, .int .u64 r.ts, .slice s.ptr s.len s.cap, .int .i64 r.wait] :: buf 1 u8 s r.val :: L) := by
  obtain ⟨s, O⟩ := O.ex
  exact ⟨s, O.sep⟩
theorem Sat.repI {h0 h : Heap} {L : List Res} {p : Nat} {r : RS} {s : Sl} (O : Sat h0 h (own p [.int .u64 r.prom, .int .u64 r.te, .int .u64 r.ts, .slice s.ptr s.len s.cap, .int .i64 r.wait] :: buf 1 u8 s r.val :: L)) : Sat h0 h (repR p r :: L) := Sat.exI s O.sepI
/-- A message; its value's bytes. -/
structure Mg where
  kind : Int
  frm : Int
  to : Int
  shard : Int
  epoch : Int
  te : Int
  ts : Int
  round : Int
  span : Int
  seen : Int
  v : Sl
  peer : Int
  num : Int
  name : ByteArray
  other : ByteArray
  amount : Int
  life : Int
  id : Int
  op : Int
  client : Int
  state : Int
  bad : Int
  b : List UInt8
def mgC (m : Mg) : List Value := [.int .i64 m.kind, .int .i64 m.frm, .int .i64 m.to, .int .i64 m.shard, .int .u64 m.epoch, .int .u64 m.te, .int .u64 m.ts, .int .u64 m.round, .int .i64 m.span, .int .u64 m.seen, .slice m.v.ptr m.v.len m.v.cap, .int .i64 m.peer, .int .u64 m.num, .string m.name, .string m.other, .int .u64 m.amount, .int .u64 m.life, .int .u64 m.id, .int .i64 m.op, .int .i64 m.client, .int .i64 m.state, .int .i64 m.bad]
/-- What became of a message. -/
structure HD where
  kind : Int
  frm : Int
  to : Int
  shard : Int
  epoch : Int
  te : Int
  ts : Int
  round : Int
  seen : Int
  val : List UInt8
  ans : Bool
  tak : Bool
  chg : Bool
def hd0 : HD := ⟨0, 0, 0, 0, 0, 0, 0, 0, 0, [], false, false, false⟩
def HD.seal (d : HD) (m : Mg) : HD := if d.kind = 0 then d else { d with frm := m.to, to := m.frm, shard := m.shard, ans := true }
def refusal (r : RS) (e : Int) : HD := { hd0 with kind := 3, epoch := e, seen := r.prom }
def spanOf (s : Int) : Int := if (0 : Int) > s then 0 else s
/-- Of a write or beat that may be. -/
def RS.take_ (r : RS) (e s : Int) : RS := { r with prom := e, wait := spanOf s }
def prep (r : RS) (m : Mg) : RS × HD :=
  if m.epoch < r.prom ∨ (r.prom < m.epoch ∧ 0 < r.wait) then (r, refusal r m.epoch)
  else ({ r with prom := m.epoch }, { hd0 with kind := 2, epoch := m.epoch, te := r.te, ts := r.ts, val := r.val, chg := r.prom != m.epoch })
def tagLt (a b c d : Int) : Prop := a < c ∨ (a = c ∧ b < d)
instance (a b c d : Int) : Decidable (tagLt a b c d) := by unfold tagLt; infer_instance
def writ (r : RS) (m : Mg) : RS × HD :=
  if m.te < r.prom then (r, refusal r m.te)
  else if tagLt m.te m.ts r.te r.ts then (r.take_ m.te m.span, { hd0 with tak := true, chg := r.prom != m.te })
  else if tagLt r.te r.ts m.te m.ts then ({ r.take_ m.te m.span with te := m.te, ts := m.ts, val := m.b }, { hd0 with kind := 5, te := m.te, ts := m.ts, tak := true, chg := true })
  else (r.take_ m.te m.span, { hd0 with kind := 5, te := m.te, ts := m.ts, tak := true, chg := r.prom != m.te })
def beats (r : RS) (m : Mg) : RS × HD :=
  if m.epoch < r.prom then (r, refusal r m.epoch)
  else (r.take_ m.epoch m.span, { hd0 with kind := 7, epoch := m.epoch, round := m.round, tak := true, chg := r.prom != m.epoch })
def act (r : RS) (m : Mg) : RS × HD := if m.kind = 1 then prep r m else if m.kind = 4 then writ r m else if m.kind = 6 then beats r m else (r, hd0)
def hearS (r : RS) (m : Mg) : RS × HD := ((act r m).1, (act r m).2.seal m)
section
variable {h0 h : Heap} {L : List Res}
theorem F_bytes_Clone.is {a : Sl} {xs : List UInt8} {Q : Sl → Heap → Prop} (O : Sat h0 h L) (V1 : Stays h0 L fun h => Bytes h a xs) (hl : xs.length ≤ (140737488355325 : Nat)) (k : ∀ s h', Sat h0 h' (buf 1 u8 s xs :: L) → Q s h') : F_bytes_Clone a h Q := by
  rw [F_bytes_Clone.eq_1, F_bytes_Clone_of.eq_1]
  have hn := (V1 h O).len
  cases e : a.ptr with
  | none =>
    refine brr_tt rfl ?_
    have hx : xs = [] := by
      cases xs with
      | nil => rfl
      | cons x xs =>
        obtain ⟨p, cs, h1, _⟩ := (V1 h O).2 0 x rfl
        rw [e] at h1; cases h1
    subst hx
    exact k _ _ O.nil_buf
  | some p =>
    refine brr_ff rfl ?_
    refine O.al fun b h O => ?_
    have O : Sat h0 h (own b (([] : List UInt8).flatMap u8 ++ []) :: L) := O
    have O := O.own_buf (k := 0) (sz := 1) (by simp)
    have O : Sat h0 h (buf 1 u8 ⟨some (pt b 0), 0, 0⟩ [] :: L) := O.bufsI
    have V2 := V1 h O.drop
    rw [← e]
    refine O.app_buf u8_len u8_one rfl (ys := xs) hn ?_ (by simp; omega) fun s h O _ => ?_
    · have := V2.rd u8_len
      simpa using this
    · exact k _ _ (by rwa [List.nil_append] at O)
theorem F_replica_Replica_Stored.is {p : Nat} {r : RS} {Q : Int → Int → Int → Sl → Heap → Prop} (ok : r.Ok) (O : Sat h0 h (repR p r :: L)) (k : ∀ s h', Sat h0 h' (buf 1 u8 s r.val :: repR p r :: L) → Q r.prom r.te r.ts s h') : F_replica_Replica_Stored (some (pt p 0)) h Q := by
  rw [F_replica_Replica_Stored.eq_1, F_replica_Replica_Stored_of.eq_1]
  obtain ⟨v, O⟩ := O.rep
  repeat (first | (with_reducible refine al_id ?_); refine O.al fun _ h O => ?_ | (with_reducible refine nn_id ?_); refine ⟨_, rfl, ?_⟩ | (with_reducible refine ld_id ?_); (first | refine O.ld 0 rfl ?_ | refine O.ld 1 rfl ?_ | refine O.ld 2 rfl ?_ | refine O.ld 3 rfl ?_); (repeat (first | (with_reducible refine ldL_n ?_) | refine ldL_s ?_ | refine ldL_c ?_)) | (with_reducible refine st_ad (by first | (with_reducible rfl) | (simp only [pt_add, Nat.zero_add, Nat.add_zero, Nat.reduceAdd]; with_reducible rfl)) ?_); (first | refine O.st 0 rfl (by simp) rfl fun h O => ?_ | refine O.st 1 rfl (by simp) rfl fun h O => ?_ | refine O.st 2 rfl (by simp) rfl fun h O => ?_ | refine O.st 3 rfl (by simp) rfl fun h O => ?_); (dsimp only [V.put, List.set, List.length_cons, List.length_nil] at O) | (with_reducible refine ca_id ?_); (first | refine O.ca 0 1 rfl ?_ | refine O.ca 0 2 rfl ?_ | refine O.ca 1 1 rfl ?_ | refine O.ca 1 2 rfl ?_ | refine O.ca 2 1 rfl ?_ | refine O.ca 2 2 rfl ?_ | refine O.ca 3 1 rfl ?_ | refine O.ca 3 2 rfl ?_))
  refine F_bytes_Clone.is O (fun h O => (O.view 3 u8_len (by simp) rfl).1) ok.v fun s h O => ?_
  repeat (first | (with_reducible refine al_id ?_); refine O.al fun _ h O => ?_ | (with_reducible refine nn_id ?_); refine ⟨_, rfl, ?_⟩ | (with_reducible refine ld_id ?_); (first | refine O.ld 0 rfl ?_ | refine O.ld 1 rfl ?_ | refine O.ld 2 rfl ?_ | refine O.ld 3 rfl ?_ | refine O.ld 4 rfl ?_); (repeat (first | (with_reducible refine ldL_n ?_) | refine ldL_s ?_ | refine ldL_c ?_)) | (with_reducible refine st_ad (by first | (with_reducible rfl) | (simp only [pt_add, Nat.zero_add, Nat.add_zero, Nat.reduceAdd]; with_reducible rfl)) ?_); (first | refine O.st 0 rfl (by simp) rfl fun h O => ?_ | refine O.st 1 rfl (by simp) rfl fun h O => ?_ | refine O.st 2 rfl (by simp) rfl fun h O => ?_ | refine O.st 3 rfl (by simp) rfl fun h O => ?_ | refine O.st 4 rfl (by simp) rfl fun h O => ?_); (dsimp only [V.put, List.set, List.length_cons, List.length_nil] at O) | (with_reducible refine ca_id ?_); (first | refine O.ca 0 1 rfl ?_ | refine O.ca 0 2 rfl ?_ | refine O.ca 1 1 rfl ?_ | refine O.ca 1 2 rfl ?_ | refine O.ca 2 1 rfl ?_ | refine O.ca 2 2 rfl ?_ | refine O.ca 3 1 rfl ?_ | refine O.ca 3 2 rfl ?_ | refine O.ca 4 1 rfl ?_ | refine O.ca 4 2 rfl ?_))
  refine k _ _ ?_
  have O := O.sel [3, 4, 0] 5 rfl (Nat.le_add_left _ _)
  exact O.repI.swap
theorem F_replica_Replica_Wait.is {p : Nat} {r : RS} {Q : Int → Heap → Prop} (O : Sat h0 h (repR p r :: L)) (k : Q r.wait h) : F_replica_Replica_Wait (some (pt p 0)) h Q := by
  rw [F_replica_Replica_Wait.eq_1, F_replica_Replica_Wait_of.eq_1]
  obtain ⟨v, O⟩ := O.rep
  repeat (first | (with_reducible refine al_id ?_); refine O.al fun _ h O => ?_ | (with_reducible refine nn_id ?_); refine ⟨_, rfl, ?_⟩ | (with_reducible refine ld_id ?_); (first | refine O.ld 0 rfl ?_); (repeat (first | (with_reducible refine ldL_n ?_) | refine ldL_s ?_ | refine ldL_c ?_)) | (with_reducible refine st_ad (by first | (with_reducible rfl) | (simp only [pt_add, Nat.zero_add, Nat.add_zero, Nat.reduceAdd]; with_reducible rfl)) ?_); (first | refine O.st 0 rfl (by simp) rfl fun h O => ?_); (dsimp only [V.put, List.set, List.length_cons, List.length_nil] at O) | (with_reducible refine ca_id ?_); (first | refine O.ca 0 1 rfl ?_ | refine O.ca 0 2 rfl ?_))
  exact k
theorem F_replica_Replica_Tick.is {p : Nat} {r : RS} {Q : Heap → Prop} (ok : r.Ok) (O : Sat h0 h (repR p r :: L)) (k : ∀ h', Sat h0 h' (repR p { r with wait := if r.wait = 0 then 0 else r.wait - 1 } :: L) → Q h') : F_replica_Replica_Tick (some (pt p 0)) h Q := by
  rw [F_replica_Replica_Tick.eq_1, F_replica_Replica_Tick_of.eq_1]
  obtain ⟨v, O⟩ := O.rep
  have h0 := ok.w0
  have h1 := ok.w1
  repeat (first | (with_reducible refine al_id ?_); refine O.al fun _ h O => ?_ | (with_reducible refine nn_id ?_); refine ⟨_, rfl, ?_⟩ | (with_reducible refine ld_id ?_); (first | refine O.ld 0 rfl ?_); (repeat (first | (with_reducible refine ldL_n ?_) | refine ldL_s ?_ | refine ldL_c ?_)) | (with_reducible refine st_ad (by first | (with_reducible rfl) | (simp only [pt_add, Nat.zero_add, Nat.add_zero, Nat.reduceAdd]; with_reducible rfl)) ?_); (first | refine O.st 0 rfl (by simp) rfl fun h O => ?_); (dsimp only [V.put, List.set, List.length_cons, List.length_nil] at O) | (with_reducible refine ca_id ?_); (first | refine O.ca 0 1 rfl ?_ | refine O.ca 0 2 rfl ?_))
  rw [wrap64 (by omega) (by omega)] at O
  refine k _ (Sat.repI (s := v) ?_)
  have e : (if (0 : Int) > r.wait - 1 then 0 else r.wait - 1) = if r.wait = 0 then 0 else r.wait - 1 := by split <;> split <;> omega
  rw [e] at O
  exact O
theorem F_replica_Replica_promise.is {p : Nat} {r : RS} {e : Int} {Q : Bool → Heap → Prop} (O : Sat h0 h (repR p r :: L)) (k : ∀ h', Sat h0 h' (repR p { r with prom := e } :: L) → Q (r.prom != e) h') : F_replica_Replica_promise (some (pt p 0)) e h Q := by
  rw [F_replica_Replica_promise.eq_1, F_replica_Replica_promise_of.eq_1]
  obtain ⟨v, O⟩ := O.rep
  repeat (first | (with_reducible refine al_id ?_); refine O.al fun _ h O => ?_ | (with_reducible refine nn_id ?_); refine ⟨_, rfl, ?_⟩ | (with_reducible refine ld_id ?_); (first | refine O.ld 0 rfl ?_); (repeat (first | (with_reducible refine ldL_n ?_) | refine ldL_s ?_ | refine ldL_c ?_)) | (with_reducible refine st_ad (by first | (with_reducible rfl) | (simp only [pt_add, Nat.zero_add, Nat.add_zero, Nat.reduceAdd]; with_reducible rfl)) ?_); (first | refine O.st 0 rfl (by simp) rfl fun h O => ?_); (dsimp only [V.put, List.set, List.length_cons, List.length_nil] at O) | (with_reducible refine ca_id ?_); (first | refine O.ca 0 1 rfl ?_ | refine O.ca 0 2 rfl ?_))
  exact k _ O.repI
theorem F_replica_Replica_Own.is {p : Nat} {r : RS} {e : Int} {Q : Bool → Heap → Prop} (O : Sat h0 h (repR p r :: L)) (k : ∀ h', Sat h0 h' (repR p { r with prom := if r.prom > e then r.prom else e } :: L) → Q (decide (r.prom < e)) h') : F_replica_Replica_Own (some (pt p 0)) e h Q := by
  rw [F_replica_Replica_Own.eq_1, F_replica_Replica_Own_of.eq_1]
  obtain ⟨v, O1⟩ := O.rep
  refine ⟨_, rfl, ?_⟩
  refine O1.ld 0 rfl (ldL_c (ldL_n ?_))
  refine F_replica_Replica_promise.is O fun h O => ?_
  have e2 : (r.prom != if r.prom > e then r.prom else e) = decide (r.prom < e) := by
    rw [bne, Bool.eq_iff_iff]; simp; omega
  rw [e2]
  exact k _ O
theorem F_replica_New.is {v : Sl} {xs : List UInt8} {Q : Option Addr → Heap → Prop} (O : Sat h0 h L) (V1 : Stays h0 L fun h => Bytes h v xs) (hl : xs.length ≤ (140737488355325 : Nat)) (k : ∀ p h', Sat h0 h' (repR p ⟨0, 0, 0, xs, 0⟩ :: L) → Q (some (pt p 0)) h') : F_replica_New v h Q := by
  rw [F_replica_New.eq_1, F_replica_New_of.eq_1]
  refine F_bytes_Clone.is O V1 hl fun s h O => ?_
  repeat (first | (with_reducible refine al_id ?_); refine O.al fun _ h O => ?_ | (with_reducible refine nn_id ?_); refine ⟨_, rfl, ?_⟩ | (with_reducible refine ld_id ?_); (first | refine O.ld 0 rfl ?_); (repeat (first | (with_reducible refine ldL_n ?_) | refine ldL_s ?_ | refine ldL_c ?_)) | (with_reducible refine st_ad (by first | (with_reducible rfl) | (simp only [pt_add, Nat.zero_add, Nat.add_zero, Nat.reduceAdd]; with_reducible rfl)) ?_); (first | refine O.st 0 rfl (by simp) rfl fun h O => ?_); (dsimp only [V.put, List.set, List.length_cons, List.length_nil] at O) | (with_reducible refine ca_id ?_); (first | refine O.ca 0 1 rfl ?_ | refine O.ca 0 2 rfl ?_))
  exact k _ _ O.repI
theorem F_replica_Load.is {a b c : Int} {v : Sl} {xs : List UInt8} {span : Int} {Q : Option Addr → Heap → Prop} (O : Sat h0 h L) (V1 : Stays h0 L fun h => Bytes h v xs) (hl : xs.length ≤ (140737488355325 : Nat)) (k : ∀ p h', Sat h0 h' (repR p ⟨a, b, c, xs, spanOf span⟩ :: L) → Q (some (pt p 0)) h') : F_replica_Load a b c v span h Q := by
  rw [F_replica_Load.eq_1, F_replica_Load_of.eq_1]
  repeat (first | (with_reducible refine al_id ?_); refine O.al fun _ h O => ?_ | (with_reducible refine nn_id ?_); refine ⟨_, rfl, ?_⟩ | (with_reducible refine ld_id ?_); (first | refine O.ld 0 rfl ?_); (repeat (first | (with_reducible refine ldL_n ?_) | refine ldL_s ?_ | refine ldL_c ?_)) | (with_reducible refine st_ad (by first | (with_reducible rfl) | (simp only [pt_add, Nat.zero_add, Nat.add_zero, Nat.reduceAdd]; with_reducible rfl)) ?_); (first | refine O.st 0 rfl (by simp) rfl fun h O => ?_); (dsimp only [V.put, List.set, List.length_cons, List.length_nil] at O) | (with_reducible refine ca_id ?_); (first | refine O.ca 0 1 rfl ?_ | refine O.ca 0 2 rfl ?_))
  refine F_bytes_Clone.is O (fun h O => V1 h O.drop) hl fun s h O => ?_
  repeat (first | (with_reducible refine al_id ?_); refine O.al fun _ h O => ?_ | (with_reducible refine nn_id ?_); refine ⟨_, rfl, ?_⟩ | (with_reducible refine ld_id ?_); (first | refine O.ld 0 rfl ?_ | refine O.ld 1 rfl ?_ | refine O.ld 2 rfl ?_); (repeat (first | (with_reducible refine ldL_n ?_) | refine ldL_s ?_ | refine ldL_c ?_)) | (with_reducible refine st_ad (by first | (with_reducible rfl) | (simp only [pt_add, Nat.zero_add, Nat.add_zero, Nat.reduceAdd]; with_reducible rfl)) ?_); (first | refine O.st 0 rfl (by simp) rfl fun h O => ?_ | refine O.st 1 rfl (by simp) rfl fun h O => ?_ | refine O.st 2 rfl (by simp) rfl fun h O => ?_); (dsimp only [V.put, List.set, List.length_cons, List.length_nil] at O) | (with_reducible refine ca_id ?_); (first | refine O.ca 0 1 rfl ?_ | refine O.ca 0 2 rfl ?_ | refine O.ca 1 1 rfl ?_ | refine O.ca 1 2 rfl ?_ | refine O.ca 2 1 rfl ?_ | refine O.ca 2 2 rfl ?_))
  refine k _ _ ?_
  have O := O.sel [0, 1] 3 rfl (Nat.le_add_left _ _)
  exact O.repI
end
end Go.Proofs.Ytcbelendjpnmiaa.V
