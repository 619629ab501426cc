import Derived.Test.YtdjhjpckefkolaaZCodeFresh0
import Derived.Laws.Append
import Derived.Test.YtdjhjpckefkolaaProg
/-
  THE HEAP BY RESOURCES: a list of assertions, each over blocks of its own ('Sat'); the rules for making, reading, writing, appending; lists that lie in memory ('View', 'buf').
-/
namespace Go.Proofs.Ytdjhjpckefkolaa.V
open Go Go.RowKit
set_option linter.unusedVariables false
set_option linter.unusedSimpArgs false

abbrev Blks := List (Nat × List Value)
/-- All that was there is as it was; these blocks are new, hold this, and are not one another. -/
structure Held (h0 h : Heap) (E : Blks) : Prop where
  kept : KeptH h0 h
  blk : ∀ p ∈ E, h0.size ≤ p.1 ∧ Blk h p.1 p.2
  dis : (E.map (·.1)).Nodup
theorem Held.none (h : Heap) : Held h h [] := ⟨KeptH.refl h, by simp, by simp⟩
theorem Held.perm {h0 h : Heap} {E F : Blks} (O : Held h0 h E) (p : F.Perm E) : Held h0 h F :=
  ⟨O.kept, fun q hq => O.blk q (p.subset hq), (p.map _).nodup_iff.2 O.dis⟩
theorem Held.sub {h0 h : Heap} {E F : Blks} (O : Held h0 h E) (s : F.Sublist E) : Held h0 h F :=
  ⟨O.kept, fun q hq => O.blk q (s.subset hq), O.dis.sublist (s.map _)⟩
theorem Held.push {h0 h : Heap} {E : Blks} (O : Held h0 h E) (cs : List Value) (T : TypeId) (f : Nat × Nat) (hf : f.1 = f.2 ∨ cs.length ≤ f.1) : Held h0 (h.push (.cells cs.toArray T f)) ((h.size, cs) :: E) := by
  refine ⟨⟨by simp; have := O.kept.size; omega, fun k hk => ?_⟩, ?_, ?_⟩
  · have := O.kept.size
    rw [Array.getElem?_push, if_neg (by omega)]; exact O.kept.at_ k hk
  · intro p hp
    rcases List.mem_cons.1 hp with rfl | hp
    · exact ⟨O.kept.size, T, f, by simp, hf⟩
    · obtain ⟨h1, h2⟩ := O.blk p hp
      refine ⟨h1, ?_⟩
      have := h2.lt
      obtain ⟨T', f', e, hf'⟩ := h2
      exact ⟨T', f', by rw [Array.getElem?_push, if_neg (by omega)]; exact e, hf'⟩
  · rw [List.map_cons, List.nodup_cons]
    refine ⟨fun hm => ?_, O.dis⟩
    obtain ⟨q, hq, e⟩ := List.mem_map.1 hm
    have := (O.blk q hq).2.lt
    omega
theorem setH_blk {h : Heap} {b o : Nat} {cs : List Value} {v : Value} {T : TypeId} {f : Nat × Nat} (e : h[b]? = some (.cells cs.toArray T f)) (k : Nat) :
    (setH h (pt b o) v)[k]? = if b = k then some (.cells (cs.set o v).toArray T f) else h[k]? := by
  unfold setH
  rw [Array.getElem?_modify]
  split
  · rename_i hk; subst hk; simp [e]
  · rfl
theorem Held.set {h0 h : Heap} {E : Blks} {b o : Nat} {cs : List Value} {v : Value} (O : Held h0 h ((b, cs) :: E)) : Held h0 (setH h (pt b o) v) ((b, cs.set o v) :: E) := by
  obtain ⟨hb, B⟩ := O.blk _ (List.mem_cons_self)
  have hlt := B.lt
  obtain ⟨T, f, e, hf⟩ := B
  have hat := setH_blk (o := o) (v := v) e
  have hd := O.dis
  rw [List.map_cons, List.nodup_cons] at hd
  refine ⟨⟨?_, fun k hk => ?_⟩, ?_, ?_⟩
  · have := O.kept.size; simpa [setH] using this
  · rw [hat, if_neg (by simp at hb; omega)]; exact O.kept.at_ k hk
  · intro p hp
    rcases List.mem_cons.1 hp with rfl | hp
    · exact ⟨hb, T, f, by rw [hat, if_pos rfl], by simpa using hf⟩
    · obtain ⟨h1, T', f', e', hf'⟩ := O.blk p (List.mem_cons_of_mem _ hp)
      refine ⟨h1, T', f', ?_, hf'⟩
      rw [hat, if_neg]
      · exact e'
      · intro hbb
        simp only at hbb
        exact hd.1 (List.mem_map.2 ⟨p, hp, hbb.symm⟩)
  · rw [List.map_cons, List.nodup_cons]; exact hd
theorem Held.wr {h0 h : Heap} {E : Blks} {b o : Nat} {cs : List Value} {v : Value} (O : Held h0 h ((b, cs) :: E)) (ho : o < cs.length) (hv : oneV v = true) : wr h (pt b o) v := by
  obtain ⟨hb, B⟩ := O.blk _ (List.mem_cons_self)
  refine ⟨hv, ⟨cs[o], by rw [cellH_blk B]; simp [ho]⟩, ?_⟩
  obtain ⟨T, f, e, hf⟩ := B
  simp only [frozenH, e]
  simp only [Bool.and_eq_false_iff, decide_eq_false_iff_not]
  simp only at hf
  omega
theorem Held.st {h0 : Heap} {E : Blks} {b : Nat} : ∀ {vs : List Value} {h : Heap} {o : Nat} {cs : List Value} {K : Heap → Prop} (O : Held h0 h ((b, cs) :: E)) (ho : o + vs.length ≤ cs.length) (hv : vs.all oneV = true)
    (k : ∀ h', Held h0 h' ((b, V.put cs o vs) :: E) → K h'), st (pt b o) vs h K
  | [], h, o, cs, K, O, ho, hv, k => k h (by rw [put_nil]; exact O)
  | v :: vs, h, o, cs, K, O, ho, hv, k => by
    simp only [List.length_cons] at ho
    simp only [List.all_cons, Bool.and_eq_true] at hv
    refine ⟨O.wr (by omega) hv.1, ?_⟩
    rw [pt_add]
    refine Held.st O.set (by simp; omega) hv.2 ?_
    intro h' O'
    refine k h' ?_
    rw [put_cons _ _ _ _ (by omega)]
    exact O'

theorem Held.mark {h0 h : Heap} {E : Blks} {b : Nat} {cs : List Value} (O : Held h0 h ((b, cs) :: E)) : (∃ T f, h[b]? = some (.cells cs.toArray T f)) ∧ Held h0 (markH h b cs.length) ((b, cs) :: E) := by
  obtain ⟨hb, B⟩ := O.blk _ (List.mem_cons_self)
  obtain ⟨T, f, e, hf⟩ := B
  refine ⟨⟨T, f, e⟩, ?_⟩
  have hat : ∀ k, (markH h b cs.length)[k]? = if b = k then some (.cells cs.toArray T (if f.1 == f.2 then (cs.length, cs.length + 1) else (min f.1 cs.length, max f.2 (cs.length + 1)))) else h[k]? := by
    intro k
    unfold markH
    rw [Array.getElem?_modify]
    split
    · rename_i hk; subst hk; rw [show h[b]? = _ from e]; rfl
    · rfl
  have hd := O.dis
  rw [List.map_cons, List.nodup_cons] at hd
  refine ⟨⟨?_, fun k hk => ?_⟩, ?_, O.dis⟩
  · have := O.kept.size; simpa [markH] using this
  · rw [hat, if_neg (by simp at hb; omega)]; exact O.kept.at_ k hk
  · intro p hp
    rcases List.mem_cons.1 hp with rfl | hp
    · refine ⟨hb, T, _, by rw [hat, if_pos rfl], ?_⟩
      by_cases h1 : f.1 = f.2
      · rw [if_pos (by simpa using h1)]; exact .inr (Nat.le_refl _)
      · rw [if_neg (by simpa using h1)]
        refine .inr ?_
        have h1 : ¬ f.1 = f.2 := h1
        rcases hf with hf | hf
        · exact absurd hf h1
        · have hf : cs.length ≤ f.1 := hf
          show cs.length ≤ min f.1 cs.length
          omega
    · obtain ⟨h1, T', f', e', hf'⟩ := O.blk p (List.mem_cons_of_mem _ hp)
      refine ⟨h1, T', f', ?_, hf'⟩
      rw [hat, if_neg]
      · exact e'
      · intro hbb
        exact hd.1 (List.mem_map.2 ⟨p, hp, hbb.symm⟩)
abbrev Res := Blks → Prop
def emp : Res := fun E => E = []
def own (b : Nat) (cs : List Value) : Res := fun E => E = [(b, cs)]
def sep (A B : Res) : Res := fun E => ∃ E1 E2, E.Perm (E1 ++ E2) ∧ A E1 ∧ B E2
/-- Under a condition. -/
def pr (p : Prop) (A : Res) : Res := fun E => p ∧ A E
def ex {α : Sort _} (A : α → Res) : Res := fun E => ∃ x, A x E
def star : List Res → Res
  | [] => emp
  | A :: L => sep A (star L)
/-- All that was there is as it was; beside it, each by itself, the list's resources. -/
def Sat (h0 h : Heap) (L : List Res) : Prop := ∃ E, star L E ∧ Held h0 h E
theorem Sat.nil (h : Heap) : Sat h h [] := ⟨[], rfl, Held.none h⟩
theorem Sat.kept {h0 h : Heap} {L : List Res} (O : Sat h0 h L) : KeptH h0 h := by obtain ⟨E, _, O⟩ := O; exact O.kept
theorem Sat.mono {h0 h : Heap} {A B : Res} {L : List Res} (O : Sat h0 h (A :: L)) (i : ∀ E, A E → B E) : Sat h0 h (B :: L) := by
  obtain ⟨E, ⟨E1, E2, p, h1, h2⟩, O⟩ := O
  exact ⟨E, ⟨E1, E2, p, i _ h1, h2⟩, O⟩
theorem Sat.ex {h0 h : Heap} {α : Sort _} {A : α → Res} {L : List Res} (O : Sat h0 h (V.ex A :: L)) : ∃ x, Sat h0 h (A x :: L) := by
  obtain ⟨E, ⟨E1, E2, p, ⟨x, h1⟩, h2⟩, O⟩ := O
  exact ⟨x, E, ⟨E1, E2, p, h1, h2⟩, O⟩
theorem Sat.exI {h0 h : Heap} {α : Sort _} {A : α → Res} {L : List Res} (x : α) (O : Sat h0 h (A x :: L)) : Sat h0 h (V.ex A :: L) := O.mono fun E h => ⟨x, h⟩
theorem Sat.pr {h0 h : Heap} {p : Prop} {A : Res} {L : List Res} (O : Sat h0 h (V.pr p A :: L)) : p ∧ Sat h0 h (A :: L) := by
  obtain ⟨E, ⟨E1, E2, q, ⟨hp, h1⟩, h2⟩, O⟩ := O
  exact ⟨hp, E, ⟨E1, E2, q, h1, h2⟩, O⟩
theorem Sat.prI {h0 h : Heap} {p : Prop} {A : Res} {L : List Res} (hp : p) (O : Sat h0 h (A :: L)) : Sat h0 h (V.pr p A :: L) := O.mono fun E h => ⟨hp, h⟩
theorem perm_cons_app {E E1 E2 F1 F2 : Blks} (p : E.Perm (E1 ++ E2)) (q : E2.Perm (F1 ++ F2)) : E.Perm (F1 ++ (E1 ++ F2)) :=
  p.trans ((List.Perm.append_left _ q).trans (by
    rw [← List.append_assoc, ← List.append_assoc]
    exact List.perm_append_comm.append_right _))
theorem Sat.sep {h0 h : Heap} {A B : Res} {L : List Res} (O : Sat h0 h (V.sep A B :: L)) : Sat h0 h (A :: B :: L) := by
  obtain ⟨E, ⟨E1, E2, p, ⟨F1, F2, q, hA, hB⟩, h2⟩, O⟩ := O
  exact ⟨E, ⟨F1, F2 ++ E2, p.trans ((q.append_right _).trans (by rw [List.append_assoc])), hA, F2, E2, List.Perm.refl _, hB, h2⟩, O⟩
theorem Sat.sepI {h0 h : Heap} {A B : Res} {L : List Res} (O : Sat h0 h (A :: B :: L)) : Sat h0 h (V.sep A B :: L) := by
  obtain ⟨E, ⟨E1, E2, p, hA, F1, F2, q, hB, h2⟩, O⟩ := O
  exact ⟨E, ⟨E1 ++ F1, F2, p.trans ((q.append_left _).trans (by rw [List.append_assoc])), ⟨E1, F1, List.Perm.refl _, hA, hB⟩, h2⟩, O⟩
theorem Sat.emp {h0 h : Heap} {L : List Res} (O : Sat h0 h (V.emp :: L)) : Sat h0 h L := by
  obtain ⟨E, ⟨E1, E2, p, rfl, h2⟩, O⟩ := O
  exact ⟨E2, h2, O.perm p.symm⟩
theorem Sat.empI {h0 h : Heap} {L : List Res} (O : Sat h0 h L) : Sat h0 h (V.emp :: L) := by
  obtain ⟨E, h2, O⟩ := O
  exact ⟨E, ⟨[], E, List.Perm.refl _, rfl, h2⟩, O⟩
theorem Sat.drop {h0 h : Heap} {A : Res} {L : List Res} (O : Sat h0 h (A :: L)) : Sat h0 h L := by
  obtain ⟨E, ⟨E1, E2, p, _, h2⟩, O⟩ := O
  exact ⟨E2, h2, (O.perm p.symm).sub (List.sublist_append_right _ _)⟩
theorem Sat.swap {h0 h : Heap} {A B : Res} {L : List Res} (O : Sat h0 h (A :: B :: L)) : Sat h0 h (B :: A :: L) := by
  obtain ⟨E, ⟨E1, E2, p, hA, F1, F2, q, hB, h2⟩, O⟩ := O
  exact ⟨E, ⟨F1, E1 ++ F2, perm_cons_app p q, hB, E1, F2, List.Perm.refl _, hA, h2⟩, O⟩

def nth : Nat → List Res → Res
  | 0, A :: _ => A
  | i + 1, _ :: L => nth i L
  | _, [] => emp
theorem star_at : ∀ (i : Nat) {L : List Res} {E : Blks}, i < L.length → star L E → ∃ E1 E2, E.Perm (E1 ++ E2) ∧ nth i L E1 ∧ ∀ (B : Res) F, B F → star (L.set i B) (F ++ E2)
  | _, [], _, hi, _ => by simp at hi
  | 0, A :: L, E, _, ⟨E1, E2, p, hA, h2⟩ => ⟨E1, E2, p, hA, fun B F hB => ⟨F, E2, List.Perm.refl _, hB, h2⟩⟩
  | i + 1, A :: L, E, hi, ⟨E1, E2, p, hA, h2⟩ => by
    obtain ⟨F1, F2, q, h3, h4⟩ := star_at i (L := L) (by simpa using hi) h2
    refine ⟨F1, E1 ++ F2, perm_cons_app p q, h3, fun B F hB => ⟨E1, F ++ F2, ?_, hA, h4 B F hB⟩⟩
    rw [← List.append_assoc, ← List.append_assoc]
    exact List.perm_append_comm.append_right _
theorem Sat.at {h0 h : Heap} {L : List Res} (O : Sat h0 h L) (i : Nat) (hi : i < L.length) : ∃ E1 E2, nth i L E1 ∧ Held h0 h (E1 ++ E2) ∧ ∀ (B : Res) F h', B F → Held h0 h' (F ++ E2) → Sat h0 h' (L.set i B) := by
  obtain ⟨E, hs, O⟩ := O
  obtain ⟨E1, E2, p, h1, h2⟩ := star_at i hi hs
  exact ⟨E1, E2, h1, O.perm p.symm, fun B F h' hB O' => ⟨F ++ E2, h2 B F hB, O'⟩⟩
/-- Resources chosen by their places, and all from a place on. -/
def selT (is : List Nat) (n : Nat) (L : List Res) : List Res := is.map (nth · L) ++ L.drop n
theorem star_pairs : ∀ {L : List Res} {E : Blks}, star L E ↔ ∃ Ps : List (Res × Blks), Ps.map (·.1) = L ∧ (∀ p ∈ Ps, p.1 p.2) ∧ E.Perm (Ps.flatMap (·.2))
  | [], E => by
    constructor
    · intro h; exact ⟨[], rfl, by simp, by rw [show E = [] from h]; exact List.Perm.refl _⟩
    · rintro ⟨Ps, h1, h2, h3⟩
      simp at h1; subst h1; simp at h3; exact h3
  | A :: L, E => by
    constructor
    · rintro ⟨E1, E2, p, hA, h2⟩
      obtain ⟨Ps, h3, h4, h5⟩ := star_pairs.1 h2
      refine ⟨(A, E1) :: Ps, by simp [h3], ?_, ?_⟩
      · intro q hq; rcases List.mem_cons.1 hq with rfl | hq; exact hA; exact h4 q hq
      · rw [List.flatMap_cons]; exact p.trans (h5.append_left _)
    · rintro ⟨Ps, h1, h2, h3⟩
      cases Ps with
      | nil => simp at h1
      | cons q Ps =>
        simp only [List.map_cons, List.cons.injEq] at h1
        obtain ⟨rfl, rfl⟩ := h1
        rw [List.flatMap_cons] at h3
        exact ⟨q.2, _, h3, h2 q List.mem_cons_self, star_pairs.2 ⟨Ps, rfl, fun p hp => h2 p (List.mem_cons_of_mem _ hp), List.Perm.refl _⟩⟩
theorem sel_aux {α : Type _} : ∀ (is : List Nat) (Ps : List α), is.Nodup → (∀ i ∈ is, i < Ps.length) → ∃ R, (is.filterMap (fun i => Ps.zipIdx[i]?) ++ R).Perm Ps.zipIdx
  | [], Ps, _, _ => ⟨Ps.zipIdx, by simp⟩
  | i :: is, Ps, hn, hi => by
    rw [List.nodup_cons] at hn
    obtain ⟨R, p⟩ := sel_aux is Ps hn.2 fun j hj => hi j (List.mem_cons_of_mem _ hj)
    have hil := hi i List.mem_cons_self
    have hq : Ps.zipIdx[i]? = some (Ps[i], i) := by simp [hil]
    have hm : (Ps[i], i) ∈ Ps.zipIdx := List.mem_of_getElem? hq
    rcases List.mem_append.1 (p.symm.subset hm) with h | h
    · obtain ⟨j, hj, e⟩ := List.mem_filterMap.1 h
      have hjl := hi j (List.mem_cons_of_mem _ hj)
      simp [hjl] at e
      rw [e.2] at hj
      exact absurd hj hn.1
    · obtain ⟨s, t, rfl⟩ := List.append_of_mem h
      refine ⟨s ++ t, ?_⟩
      rw [List.filterMap_cons, hq]
      refine List.Perm.trans ?_ p
      simp only [List.cons_append]
      rw [← List.append_assoc, ← List.append_assoc]
      exact List.perm_middle.symm
theorem nth_map : ∀ (Ps : List (Res × Blks)) (i : Nat) (hi : i < Ps.length), nth i (Ps.map (·.1)) = (Ps[i]).1
  | [], i, hi => by simp at hi
  | p :: Ps, 0, hi => rfl
  | p :: Ps, i + 1, hi => nth_map Ps i (by simpa using hi)
theorem filterMap_idx {α : Type _} (Ps : List α) (is : List Nat) (hi : ∀ i ∈ is, i < Ps.length) : (is.filterMap (fun i => Ps.zipIdx[i]?)).map (·.1) = is.filterMap (fun i => Ps[i]?) := by
  rw [List.map_filterMap]
  congr 1
  funext i
  simp [Function.comp_def]
theorem filterMap_nth (Ps : List (Res × Blks)) : ∀ (is : List Nat), (∀ i ∈ is, i < Ps.length) → (is.filterMap (fun i => Ps[i]?)).map (·.1) = is.map (nth · (Ps.map (·.1)))
  | [], _ => rfl
  | i :: is, hi => by
    have hil := hi i List.mem_cons_self
    simp only [List.filterMap_cons, List.getElem?_eq_getElem hil, List.map_cons, nth_map Ps i hil]
    congr 1
    exact filterMap_nth Ps is fun j hj => hi j (List.mem_cons_of_mem _ hj)
theorem filterMap_range' {α : Type _} : ∀ (k n : Nat) (Ps : List α), n + k = Ps.length → (List.range' n k).filterMap (fun i => Ps[i]?) = Ps.drop n
  | 0, n, Ps, h => by simp; omega
  | k + 1, n, Ps, h => by
    rw [List.range'_succ, List.filterMap_cons, List.getElem?_eq_getElem (by omega)]
    simp only
    rw [filterMap_range' k (n + 1) Ps (by omega), List.drop_eq_getElem_cons (i := n) (by omega)]
def okSel (is : List Nat) (n : Nat) : Bool := decide is.Nodup && is.all (fun i => decide (i < n))
theorem Sat.sel {h0 h : Heap} {L : List Res} (O : Sat h0 h L) (is : List Nat) (n : Nat) (c : okSel is n = true) (hl : n ≤ L.length) : Sat h0 h (selT is n L) := by
  obtain ⟨E, hs, O⟩ := O
  obtain ⟨Ps, rfl, h1, h2⟩ := star_pairs.1 hs
  simp only [okSel, Bool.and_eq_true, decide_eq_true_eq, List.all_eq_true] at c
  rw [List.length_map] at hl
  have hb : ∀ i ∈ is ++ List.range' n (Ps.length - n), i < Ps.length := by
    intro i hi
    rcases List.mem_append.1 hi with hi | hi
    · have := c.2 i hi; omega
    · have := List.mem_range'_1.1 hi; omega
  obtain ⟨R, p⟩ := sel_aux (is ++ List.range' n (Ps.length - n)) Ps (List.nodup_append.2 ⟨c.1, List.nodup_range', fun i hi j hj => by
    have := c.2 i hi
    have := List.mem_range'_1.1 hj
    omega⟩) hb
  have p1 := p.map (·.1)
  rw [List.map_append, filterMap_idx Ps _ hb, List.filterMap_append, filterMap_range' _ _ _ (by omega), show Ps.zipIdx.map (·.1) = Ps by simp] at p1
  have p2 := p1.flatMap_right (·.2)
  rw [List.flatMap_append] at p2
  have hsel : ∀ q ∈ is.filterMap (fun i => Ps[i]?) ++ Ps.drop n, q ∈ Ps := fun q hq => p1.subset (List.mem_append.2 (.inl hq))
  refine ⟨_, star_pairs.2 ⟨is.filterMap (fun i => Ps[i]?) ++ Ps.drop n, ?_, fun q hq => h1 q (hsel q hq), List.Perm.refl _⟩, (O.perm (p2.trans h2.symm)).sub (List.sublist_append_left _ _)⟩
  rw [List.map_append, filterMap_nth Ps is fun i hi => hb i (List.mem_append.2 (.inl hi)), selT, List.map_drop]
/-- What was made over a heap, beside what was there. -/
theorem Sat.stack {h0 h h' : Heap} {L M : List Res} (O : Sat h0 h L) (N : Sat h h' M) : Sat h0 h' (M ++ L) := by
  obtain ⟨E, hs, O⟩ := O
  obtain ⟨F, ht, N⟩ := N
  obtain ⟨Ps, rfl, h1, h2⟩ := star_pairs.1 hs
  obtain ⟨Qs, rfl, h3, h4⟩ := star_pairs.1 ht
  refine ⟨F ++ E, star_pairs.2 ⟨Qs ++ Ps, by simp, ?_, ?_⟩, O.kept.trans N.kept, ?_, ?_⟩
  · intro p hp; rcases List.mem_append.1 hp with hp | hp; exact h3 p hp; exact h1 p hp
  · rw [List.flatMap_append]; exact h4.append h2
  · intro p hp
    rcases List.mem_append.1 hp with hp | hp
    · obtain ⟨a, b⟩ := N.blk p hp
      exact ⟨Nat.le_trans O.kept.size a, b⟩
    · obtain ⟨a, b⟩ := O.blk p hp
      refine ⟨a, ?_⟩
      have hlt := b.lt
      obtain ⟨T, f, e, hf⟩ := b
      exact ⟨T, f, by rw [N.kept.at_ _ hlt]; exact e, hf⟩
  · rw [List.map_append, List.nodup_append]
    refine ⟨N.dis, O.dis, ?_⟩
    intro a ha b hb
    obtain ⟨p, hp, rfl⟩ := List.mem_map.1 ha
    obtain ⟨q, hq, rfl⟩ := List.mem_map.1 hb
    have := (N.blk p hp).1
    have := (O.blk q hq).2.lt
    omega
theorem Sat.kept2 {h0 h h' : Heap} {L : List Res} (O : Sat h0 h L) (k : KeptH h h') : Sat h0 h' L := by
  have := O.stack (M := []) (h' := h') ⟨[], rfl, ⟨k, by simp, by simp⟩⟩
  exact this
theorem Sat.app {h0 h : Heap} {L M : List Res} (O : Sat h0 h (L ++ M)) : Sat h0 h M := by
  induction L with
  | nil => exact O
  | cons A L ih => exact ih O.drop

theorem Sat.push {h0 h : Heap} {L : List Res} (O : Sat h0 h L) (cs : List Value) (T : TypeId) (f : Nat × Nat) (hf : f.1 = f.2 ∨ cs.length ≤ f.1) : Sat h0 (h.push (.cells cs.toArray T f)) (own h.size cs :: L) := by
  obtain ⟨E, hs, O⟩ := O
  exact ⟨_, ⟨[(h.size, cs)], E, List.Perm.refl _, rfl, hs⟩, O.push cs T f hf⟩
theorem Sat.al {h0 h : Heap} {L : List Res} {T : TypeId} {cs : List Value} {K : Addr → Heap → Prop} (O : Sat h0 h L) (k : ∀ b h', Sat h0 h' (own b cs :: L) → K (pt b 0) h') : al T cs h K :=
  k h.size _ (O.push cs T (0, 0) (.inl rfl))
theorem Sat.blk {h0 h : Heap} {L : List Res} (O : Sat h0 h L) {i b : Nat} {cs : List Value} (hl : i < L.length) (hi : nth i L = own b cs) : h0.size ≤ b ∧ Blk h b cs := by
  obtain ⟨E1, E2, h1, O', _⟩ := O.at i hl
  rw [hi] at h1
  rw [show E1 = [(b, cs)] from h1] at O'
  exact O'.blk _ List.mem_cons_self
theorem Blk.ld {h : Heap} {b o : Nat} {cs : List Value} (B : Blk h b cs) {ks : List Kd} {K : Fn ks Prop} (hl : ldL ks (cs.drop o) K) : ld ks (pt b o) h K := by
  have := cellsAre_blk B o (cs.drop o).length
  rw [List.take_length] at this
  exact ld_are this hl
theorem nth_lt : ∀ {i : Nat} {L : List Res} {b : Nat} {cs : List Value}, nth i L = own b cs → i < L.length
  | 0, _ :: _, _, _, _ => by simp
  | i + 1, _ :: L, _, _, h => by have := nth_lt (i := i) (L := L) h; simpa using this
  | 0, [], b, cs, h => by
    have := congrFun h []
    simp [nth, emp, own] at this
  | i + 1, [], b, cs, h => by
    have := congrFun h []
    simp [nth, emp, own] at this
theorem Sat.ld {h0 h : Heap} {L : List Res} (O : Sat h0 h L) (i : Nat) {b o : Nat} {cs : List Value} {ks : List Kd} {K : Fn ks Prop} (hi : nth i L = own b cs) (hl : ldL ks (cs.drop o) K) : ld ks (pt b o) h K :=
  (O.blk (nth_lt hi) hi).2.ld hl
theorem Sat.st {h0 h : Heap} {L : List Res} (O : Sat h0 h L) (i : Nat) {b o : Nat} {cs vs : List Value} {K : Heap → Prop} (hi : nth i L = own b cs) (ho : o + vs.length ≤ cs.length) (hv : vs.all oneV = true)
    (k : ∀ h', Sat h0 h' (L.set i (own b (V.put cs o vs))) → K h') : st (pt b o) vs h K := by
  obtain ⟨E1, E2, h1, O', h2⟩ := O.at i (nth_lt hi)
  rw [hi] at h1
  rw [show E1 = [(b, cs)] from h1] at O'
  exact Held.st O' ho hv fun h' O'' => k h' (h2 _ [(b, V.put cs o vs)] h' rfl O'')
theorem Sat.frz {h0 h : Heap} {L : List Res} {b o : Nat} {cs : List Value} {K : Heap → Prop} (O : Sat h0 h (own b cs :: L)) (k : ∀ h', Sat h0 h' (own b cs :: L) → K h') : V.frz (some (pt b o)) h K := by
  obtain ⟨E, ⟨E1, E2, p, hA, h2⟩, O⟩ := O
  have hA' : E1 = [(b, cs)] := hA
  subst hA'
  obtain ⟨⟨T, f, e⟩, O'⟩ := (O.perm p.symm).mark
  refine ⟨_, _, T, f, rfl, e, ?_⟩
  rw [show cs.toArray.size = cs.length by simp]
  exact k _ ⟨_, ⟨[(b, cs)], E2, List.Perm.refl _, rfl, h2⟩, O'⟩
end Go.Proofs.Ytdjhjpckefkolaa.V
/-
  LISTS IN MEMORY: lists that can be read ('View'), slices that are a part's own ('bufs', 'buf'); making, appending, copying, slicing.
-/
namespace Go.Proofs.Ytdjhjpckefkolaa.V
open Go Go.RowKit
set_option linter.unusedVariables false
set_option linter.unusedSimpArgs false

variable {α β : Type}
/-- A slice whose elements can be read: each in so many cells. -/
def View (h : Heap) (sz : Nat) (R : α → List Value → Prop) (s : Sl) (xs : List α) : Prop :=
  s.len = xs.length ∧ ∀ i x, xs[i]? = some x → ∃ a cs, s.ptr = some a ∧ cs.length = sz ∧ R x cs ∧ cellsAre h (a.add (i * sz)) cs
abbrev En (enc : α → List Value) : α → List Value → Prop := fun x cs => cs = enc x
def u8 (x : UInt8) : List Value := [.int .u8 (x.toNat : Int)]
abbrev Bytes (h : Heap) (s : Sl) (l : List UInt8) : Prop := View h 1 (En u8) s l
theorem View.mono {h h' : Heap} {sz : Nat} {R R' : α → List Value → Prop} {s : Sl} {xs : List α} (V : View h sz R s xs) (k : KeptH h h') (hR : ∀ x ∈ xs, ∀ cs, R x cs → R' x cs) : View h' sz R' s xs := by
  refine ⟨V.1, fun i x hx => ?_⟩
  obtain ⟨a, cs, h1, h2, h3, h4⟩ := V.2 i x hx
  exact ⟨a, cs, h1, h2, hR x (List.mem_of_getElem? hx) cs h3, cellsAre_kept k h4⟩
theorem View.kept {h h' : Heap} {sz : Nat} {R : α → List Value → Prop} {s : Sl} {xs : List α} (V : View h sz R s xs) (k : KeptH h h') : View h' sz R s xs := V.mono k fun _ _ _ h => h
theorem View.nil {h : Heap} {sz : Nat} {R : α → List Value → Prop} {p : Option Addr} {c : Nat} : View h sz R ⟨p, 0, c⟩ ([] : List α) := ⟨rfl, by simp⟩
theorem View.len {h : Heap} {sz : Nat} {R : α → List Value → Prop} {s : Sl} {xs : List α} (V : View h sz R s xs) : s.len = xs.length := V.1
theorem cellsAre_drop {h : Heap} : ∀ {cs : List Value} {a : Addr} (o : Nat), cellsAre h a cs → cellsAre h (a.add o) (cs.drop o)
  | cs, a, 0, hc => by rw [Addr.add_zero']; simpa using hc
  | [], a, o + 1, hc => by simp [cellsAre]
  | v :: vs, a, o + 1, hc => by
    have := cellsAre_drop (a := a.add 1) o hc.2
    rwa [Addr_add_add, Nat.add_comm] at this
theorem ld_drop {h : Heap} {cs : List Value} {a : Addr} {ks : List Kd} {K : Fn ks Prop} (c : cellsAre h a cs) (o : Nat) (hl : ldL ks (cs.drop o) K) : ld ks (a.add o) h K := ld_are (cellsAre_drop o c) hl
/-- An element's place. -/
theorem View.ix {h : Heap} {sz : Nat} {R : α → List Value → Prop} {s : Sl} {xs : List α} {i : Int} {K : Addr → Prop} (V : View h sz R s xs) (h0 : 0 ≤ i) (h1 : i < (xs.length : Int))
    (k : ∀ a cs x, xs[i.toNat]? = some x → cs.length = sz → R x cs → cellsAre h a cs → K a) : ixS sz s i K := by
  have hi : i.toNat < xs.length := by omega
  obtain ⟨a, cs, h2, h3, h4, h5⟩ := V.2 i.toNat _ (List.getElem?_eq_getElem hi)
  refine ⟨a, h2, h0, by rw [V.1]; exact h1, ?_⟩
  exact k _ cs _ (List.getElem?_eq_getElem hi) h3 h4 h5
/-- One byte. -/
theorem Bytes.at {h : Heap} {s : Sl} {l : List UInt8} {i : Int} {K : Int → Prop} (V : Bytes h s l) (h0 : 0 ≤ i) (h1 : i < (l.length : Int)) (k : ∀ x, l[i.toNat]? = some x → K (x.toNat : Int)) : ixS 1 s i fun a => ld [.int .u8] a h K :=
  V.ix h0 h1 fun a cs x hx hl hR hc => by
    subst hR
    exact ld_are hc ⟨_, rfl, k x hx⟩
theorem cellsAre_nil {h : Heap} {a : Addr} : cellsAre h a [] := trivial
theorem View.cells {h : Heap} {sz : Nat} {R : α → List Value → Prop} {s : Sl} : ∀ {xs : List α} {o : Nat}, (∀ (i : Nat) x, xs[i]? = some x → ∃ a cs, s.ptr = some a ∧ cs.length = sz ∧ R x cs ∧ cellsAre h (a.add ((o + i) * sz)) cs) →
    ∀ a, s.ptr = some a → ∃ css : List (List Value), css.length = xs.length ∧ (∀ (i : Nat) x cs, xs[i]? = some x → css[i]? = some cs → cs.length = sz ∧ R x cs) ∧ cellsAre h (a.add (o * sz)) css.flatten
  | [], o, _, a, _ => ⟨[], rfl, by simp, trivial⟩
  | x :: xs, o, V, a, ha => by
    obtain ⟨a', cs, h1, h2, h3, h4⟩ := V 0 x rfl
    rw [ha] at h1; simp at h1; subst h1
    obtain ⟨css, h5, h6, h7⟩ := View.cells (h := h) (R := R) (s := s) (sz := sz) (xs := xs) (o := o + 1) (fun i y hy => by
      obtain ⟨a', cs, h1, h2, h3, h4⟩ := V (i + 1) y (by simpa using hy)
      exact ⟨a', cs, h1, h2, h3, by rw [show o + 1 + i = o + (i + 1) by omega]; exact h4⟩) a ha
    refine ⟨cs :: css, by simp [h5], ?_, ?_⟩
    · intro i y ds hy hd
      cases i with
      | zero => simp at hy hd; subst hy; subst hd; exact ⟨h2, h3⟩
      | succ i => exact h6 i y ds (by simpa using hy) (by simpa using hd)
    · rw [List.flatten_cons]
      refine cellsAre_append (by simpa using h4) ?_
      rw [Addr_add_add, h2, show o * sz + sz = (o + 1) * sz by rw [Nat.add_mul, Nat.one_mul]]
      exact h7
theorem flatten_enc {enc : α → List Value} : ∀ {xs : List α} {css : List (List Value)}, css.length = xs.length → (∀ (i : Nat) x cs, xs[i]? = some x → css[i]? = some cs → cs = enc x) → css.flatten = xs.flatMap enc
  | [], [], _, _ => rfl
  | [], _ :: _, h, _ => by simp at h
  | _ :: _, [], h, _ => by simp at h
  | x :: xs, c :: css, h, k => by
    rw [List.flatten_cons, List.flatMap_cons, k 0 x c rfl rfl, flatten_enc (by simpa using h) fun i y cs hy hc => k (i + 1) y cs (by simpa using hy) (by simpa using hc)]
theorem flatMap_len {enc : α → List Value} {sz : Nat} (he : ∀ x, (enc x).length = sz) : ∀ xs : List α, (xs.flatMap enc).length = xs.length * sz
  | [] => by simp
  | x :: xs => by rw [List.flatMap_cons, List.length_append, he, flatMap_len he xs, List.length_cons, Nat.add_mul, Nat.one_mul, Nat.add_comm]
/-- All its cells, in a row. -/
theorem View.rd {h : Heap} {sz : Nat} {enc : α → List Value} {s : Sl} {xs : List α} (he : ∀ x, (enc x).length = sz) (V : View h sz (En enc) s xs) : rdP h s.ptr (s.len * sz) = some (xs.flatMap enc) := by
  rw [V.1, ← flatMap_len he]
  cases xs with
  | nil =>
    cases hp : s.ptr with
    | none => rfl
    | some a => rfl
  | cons x xs =>
    obtain ⟨a, cs, h1, _⟩ := V.2 0 x rfl
    obtain ⟨css, h2, h3, h4⟩ := View.cells (h := h) (R := En enc) (s := s) (sz := sz) (xs := x :: xs) (o := 0) (fun i y hy => by
      obtain ⟨a, cs, k1, k2, k3, k4⟩ := V.2 i y hy
      exact ⟨a, cs, k1, k2, k3, by rw [Nat.zero_add]; exact k4⟩) a h1
    rw [h1]
    have e := flatten_enc (enc := enc) h2 fun i y cs hy hc => (h3 i y cs hy hc).2
    rw [e, Nat.zero_mul, Addr.add_zero'] at h4
    exact rdL_are h4
theorem rdL_take {h : Heap} : ∀ {cs : List Value} {a : Addr} (n : Nat), n ≤ cs.length → cellsAre h a cs → rdL h a n = some (cs.take n)
  | cs, a, n, hn, hc => by
    have := rdL_are (cellsAre_take n hc)
    rwa [List.length_take, Nat.min_eq_left hn] at this
/-- The first so many elements' cells. -/
theorem View.rdn {h : Heap} {sz : Nat} {enc : α → List Value} {s : Sl} {xs : List α} (he : ∀ x, (enc x).length = sz) (V : View h sz (En enc) s xs) (n : Nat) (hn : n ≤ xs.length) : rdP h s.ptr (n * sz) = some ((xs.take n).flatMap enc) := by
  have : View h sz (En enc) ⟨s.ptr, n, n⟩ (xs.take n) := by
    refine ⟨by simp [hn], fun i x hx => ?_⟩
    rw [List.getElem?_take] at hx
    split at hx
    · exact V.2 i x hx
    · simp at hx
  exact this.rd he
theorem View.slice {h : Heap} {sz : Nat} {R : α → List Value → Prop} {s : Sl} {xs : List α} (V : View h sz R s xs) (i j m : Nat) (hi : i ≤ j) (hj : j ≤ xs.length) (hc : s.len ≤ s.cap) : View h sz R ⟨slp sz s i, j - i, m⟩ ((xs.drop i).take (j - i)) := by
  refine ⟨by simp; omega, fun k x hx => ?_⟩
  rw [List.getElem?_take] at hx
  split at hx
  · rename_i hk
    rw [List.getElem?_drop] at hx
    obtain ⟨a, cs, h1, h2, h3, h4⟩ := V.2 (i + k) x hx
    have hl := V.1
    refine ⟨a.add (i * sz), cs, ?_, h2, h3, ?_⟩
    · unfold slp
      rw [if_neg (by omega), h1]; rfl
    · rw [Addr_add_add, ← Nat.add_mul]; exact h4
  · simp at hx
theorem View.take {h : Heap} {sz : Nat} {R : α → List Value → Prop} {s : Sl} {xs : List α} (V : View h sz R s xs) (j m : Nat) (hj : j ≤ xs.length) : View h sz R ⟨s.ptr, j, m⟩ (xs.take j) := by
  refine ⟨by simp [hj], fun k x hx => ?_⟩
  rw [List.getElem?_take] at hx
  split at hx
  · exact V.2 k x hx
  · simp at hx

def bufs (sz : Nat) (enc : α → List Value) (s : Sl) (xs : List α) (sp : List Value) : Res := fun E =>
  (s = ⟨none, 0, 0⟩ ∧ xs = [] ∧ sp = [] ∧ E = []) ∨ ∃ b k, s = ⟨some (pt b 0), xs.length, xs.length + k⟩ ∧ sp.length = k * sz ∧ E = [(b, xs.flatMap enc ++ sp)]
def buf (sz : Nat) (enc : α → List Value) (s : Sl) (xs : List α) : Res := ex fun sp => bufs sz enc s xs sp
theorem bufs.lens {sz : Nat} {enc : α → List Value} {s : Sl} {xs : List α} {sp : List Value} {E : Blks} (h : bufs sz enc s xs sp E) : s.len = xs.length ∧ s.len ≤ s.cap := by
  rcases h with ⟨rfl, rfl, _, _⟩ | ⟨b, k, rfl, _, _⟩ <;> simp
theorem nth_mem : ∀ {i : Nat} {L : List Res}, i < L.length → nth i L ∈ L
  | 0, A :: _, _ => by simp [nth]
  | i + 1, _ :: L, h => by simp only [nth]; exact List.mem_cons_of_mem _ (nth_mem (by simpa using h))
  | _, [], h => by simp at h
theorem flat_at {enc : α → List Value} {sz : Nat} (he : ∀ x, (enc x).length = sz) : ∀ {xs : List α} {i : Nat} {x : α} (sp : List Value), xs[i]? = some x → ((xs.flatMap enc ++ sp).drop (i * sz)).take sz = enc x
  | [], i, x, _, h => by simp at h
  | y :: ys, 0, x, sp, h => by
    simp at h; subst h
    rw [List.flatMap_cons, Nat.zero_mul, List.drop_zero, List.append_assoc, List.take_append_of_le_length (by rw [he]; exact Nat.le_refl _), List.take_of_length_le (by rw [he]; exact Nat.le_refl _)]
  | y :: ys, i + 1, x, sp, h => by
    have := flat_at he (xs := ys) (i := i) (x := x) sp (by simpa using h)
    rw [List.flatMap_cons, List.append_assoc, List.drop_append, List.drop_of_length_le (by rw [he, Nat.add_mul]; omega), he, List.nil_append, show (i + 1) * sz - sz = i * sz by rw [Nat.add_mul]; omega]
    exact this
theorem nth_set : ∀ {i : Nat} {L : List Res} (B : Res), i < L.length → nth i (L.set i B) = B
  | 0, _ :: _, _, _ => rfl
  | i + 1, _ :: L, B, h => nth_set (i := i) (L := L) B (by simpa using h)
  | _, [], _, h => by simp at h
theorem view_of_blk {h : Heap} {b k sz : Nat} {enc : α → List Value} (he : ∀ x, (enc x).length = sz) {xs : List α} {sp : List Value} (B : Blk h b (xs.flatMap enc ++ sp)) : View h sz (En enc) ⟨some (pt b 0), xs.length, k⟩ xs := by
  refine ⟨rfl, fun i x hx => ⟨_, _, rfl, he x, rfl, ?_⟩⟩
  rw [pt_add, Nat.zero_add, ← flat_at he sp hx]
  exact cellsAre_blk B _ _
theorem Sat.views {h0 h : Heap} {L : List Res} (O : Sat h0 h L) (i : Nat) {sz : Nat} {enc : α → List Value} {s : Sl} {xs : List α} {sp : List Value} (he : ∀ x, (enc x).length = sz) (hl : i < L.length) (hi : nth i L = bufs sz enc s xs sp) : View h sz (En enc) s xs ∧ s.len ≤ s.cap := by
  obtain ⟨E1, E2, h1, O', _⟩ := O.at i hl
  rw [hi] at h1
  refine ⟨?_, (bufs.lens h1).2⟩
  rcases h1 with ⟨rfl, rfl, rfl, rfl⟩ | ⟨b, k, rfl, hsp, rfl⟩
  · exact View.nil
  · exact view_of_blk he (O'.blk _ (List.mem_cons_self)).2
theorem Sat.view {h0 h : Heap} {L : List Res} (O : Sat h0 h L) (i : Nat) {sz : Nat} {enc : α → List Value} {s : Sl} {xs : List α} (he : ∀ x, (enc x).length = sz) (hl : i < L.length) (hi : nth i L = buf sz enc s xs) : View h sz (En enc) s xs ∧ s.len ≤ s.cap := by
  obtain ⟨E1, E2, h1, O', h2⟩ := O.at i hl
  rw [hi] at h1
  obtain ⟨sp, h1⟩ := h1
  have O2 := h2 (bufs sz enc s xs sp) E1 h h1 O'
  exact O2.views (sp := sp) i he (by simpa using hl) (nth_set _ hl)
/-- A view that stays, whatever becomes of the others. -/
def Stays (h0 : Heap) (L : List Res) (p : Heap → Prop) : Prop := ∀ h, Sat h0 h L → p h
theorem rdP_own {h0 h : Heap} {L : List Res} (O : Sat h0 h L) (i : Nat) {b : Nat} {cs : List Value} (hi : nth i L = own b cs) (n : Nat) (hn : n ≤ cs.length) : rdP h (some (pt b 0)) n = some (cs.take n) := by
  have := cellsAre_blk (O.blk (nth_lt hi) hi).2 0 cs.length
  rw [List.drop_zero, List.take_length] at this
  exact rdL_take n hn this
/-- A cell list is laid over the first of others. -/
theorem put_app : ∀ (us ss ns : List Value) , ns.length ≤ ss.length → V.put (us ++ ss) us.length ns = us ++ ns ++ ss.drop ns.length := by
  intro us ss ns h
  have := put_mid us (ss.take ns.length) (ss.drop ns.length) ns (by simp [h])
  rw [List.append_assoc, List.take_append_drop] at this
  exact this
/-- APPEND: one's own slice grows. -/
theorem Sat.app_buf {h0 h : Heap} {L : List Res} {sz bts T : Nat} {enc : α → List Value} {s : Sl} {xs : List α} {z : Value} {src : Option Addr} {m : Nat} {K : Sl → Heap → Prop} (O : Sat h0 h (buf sz enc s xs :: L))
    (he : ∀ x, (enc x).length = sz) (ho : ∀ x, (enc x).all oneV = true) (hz : z.cells.size = sz) {ys : List α} (hm : m = ys.length) (hr : rdP h src (m * sz) = some (ys.flatMap enc)) (hb : (xs.length + ys.length) * bts ≤ 140737488355328)
    (k : ∀ s' h', Sat h0 h' (buf sz enc s' (xs ++ ys) :: L) → s'.len = xs.length + ys.length → K s' h') : V.app T sz bts z s src m h K := by
  obtain ⟨sp, O⟩ := O.ex
  obtain ⟨E, ⟨E1, E2, p, hA, h2⟩, O⟩ := O
  have O := O.perm p.symm
  subst hm
  have hall : (ys.flatMap enc).all oneV = true := by simp only [List.all_eq_true, List.mem_flatMap]; rintro v ⟨x, _, hv⟩; exact List.all_eq_true.1 (ho x) v hv
  have hly : (ys.flatMap enc).length = ys.length * sz := flatMap_len he ys
  have hlx : (xs.flatMap enc).length = xs.length * sz := flatMap_len he xs
  have fresh : ∀ c, xs.length + ys.length ≤ c → Sat h0 (h.push (.cells (xs.flatMap enc ++ ys.flatMap enc ++ (Builtin.zeroCells z.cells (c - (xs.length + ys.length))).toList).toArray T)) (buf sz enc ⟨some (pt h.size 0), xs.length + ys.length, c⟩ (xs ++ ys) :: L) := by
    intro c hc
    have O' := (O.sub (List.sublist_append_right E1 E2)).push (xs.flatMap enc ++ ys.flatMap enc ++ (Builtin.zeroCells z.cells (c - (xs.length + ys.length))).toList) T (0, 0) (.inl rfl)
    refine ⟨_, ⟨[(h.size, (xs ++ ys).flatMap enc ++ (Builtin.zeroCells z.cells (c - (xs.length + ys.length))).toList)], E2, List.Perm.refl _, ⟨(Builtin.zeroCells z.cells (c - (xs.length + ys.length))).toList, .inr ⟨h.size, c - (xs.length + ys.length), ?_, ?_, rfl⟩⟩, h2⟩, ?_⟩
    · simp; omega
    · simp [Builtin.zeroCells, hz]
    · rw [List.flatMap_append]; exact O'
  refine ⟨_, hr, fun hcap => ?_, fun hcap => ⟨growslice_fits (by exact hcap) (by
    rcases hA with ⟨rfl, rfl, rfl, rfl⟩ | ⟨b, j, rfl, hsp, rfl⟩ <;> simpa using hb), ?_⟩⟩
  · rcases hA with ⟨rfl, rfl, rfl, rfl⟩ | ⟨b, j, rfl, hsp, rfl⟩
    · simp at hcap
      subst hcap
      refine k _ _ ⟨E2, ⟨[], E2, List.Perm.refl _, ⟨[], .inl ⟨by simp, by simp, rfl, rfl⟩⟩, h2⟩, O⟩ (by simp)
    · simp only [Option.map_some, stP, pt_add, Nat.zero_add]
      simp only at hcap
      have hj : ys.length ≤ j := by omega
      have hmul : ys.length * sz ≤ j * sz := Nat.mul_le_mul_right _ hj
      refine Held.st O (by simp [hlx, hly, hsp]; omega) hall fun h' O' => ?_
      rw [← hlx, put_app _ _ _ (by rw [hly, hsp]; exact hmul)] at O'
      refine k _ _ ⟨_, ⟨[(b, (xs ++ ys).flatMap enc ++ sp.drop (ys.flatMap enc).length)], E2, List.Perm.refl _, ⟨sp.drop (ys.flatMap enc).length, .inr ⟨b, j - ys.length, ?_, ?_, rfl⟩⟩, h2⟩, ?_⟩ rfl
      · simp; omega
      · rw [List.length_drop, hly, hsp, Nat.sub_mul]
      · rw [List.flatMap_append]; exact O'
  · rcases hA with ⟨rfl, rfl, rfl, rfl⟩ | ⟨b, j, rfl, hsp, rfl⟩
    · refine ⟨[], rfl, fun c hc => ?_⟩
      have := fresh c (by simpa using hc)
      simp only [List.length_nil, Nat.zero_add, List.nil_append, List.flatMap_nil] at this hc ⊢
      exact k _ _ this (by simp)
    · refine ⟨xs.flatMap enc, ?_, fun c hc => ?_⟩
      · simp only
        have := cellsAre_blk (O.blk _ (List.mem_cons_self)).2 0 (xs.flatMap enc ++ sp).length
        rw [List.drop_zero, List.take_length] at this
        simp only [rdP]
        have h3 := rdL_take (xs.length * sz) (by simp [hlx]) this
        rw [← hlx, List.take_left] at h3
        rw [← hlx]; exact h3
      · exact k _ _ (fresh c hc) rfl
/-- One value is appended. -/
theorem Sat.push_buf {h0 h : Heap} {L : List Res} {sz bts T T' : Nat} {enc : α → List Value} {s : Sl} {xs : List α} {z : Value} {K : Sl → Heap → Prop} (O : Sat h0 h (buf sz enc s xs :: L)) (y : α) {cs : List Value} (hcs : cs = enc y)
    (he : ∀ x, (enc x).length = sz) (ho : ∀ x, (enc x).all oneV = true) (hz : z.cells.size = sz) (hb : (xs.length + 1) * bts ≤ 140737488355328)
    (k : ∀ s' h', Sat h0 h' (buf sz enc s' (xs ++ [y]) :: L) → s'.len = xs.length + 1 → K s' h') : V.al T' cs h fun a h1 => V.app T sz bts z s (some a) 1 h1 K := by
  subst hcs
  refine O.al fun b h1 O1 => ?_
  have hr := rdP_own O1 0 rfl sz (by rw [he]; exact Nat.le_refl _)
  refine Sat.app_buf (O1.swap) he ho hz (ys := [y]) rfl (by rw [Nat.one_mul, hr]; simp; rw [List.take_of_length_le (by rw [he]; exact Nat.le_refl _)]) hb fun s' h' O' hl => k s' h' ?_ hl
  exact O'.swap.drop
/-- MAKE. -/
theorem mkCells_len {z : Value} {n : Nat} : (mkCells z n).length = n := by simp [mkCells]
theorem Sat.mk_buf {h0 h : Heap} {L : List Res} {T sz bts : Nat} {z : Value} {l c : Int} {K : Sl → Heap → Prop} (O : Sat h0 h L) (h1 : 0 ≤ l) (h2 : l ≤ c) (h3 : (bts : Int) * c ≤ 281474976710656)
    (k : ∀ b h', Sat h0 h' (own b (mkCells z (c.toNat * sz)) :: L) → K ⟨some (pt b 0), l.toNat, c.toNat⟩ h') : V.mk T sz bts z l c h K :=
  ⟨h1, h2, h3, k h.size _ (O.push _ T (0, 0) (.inl rfl))⟩
/-- A view over one's own block. -/
theorem Sat.own_buf {h0 h : Heap} {L : List Res} {b k sz : Nat} {enc : α → List Value} {xs : List α} {sp : List Value} (O : Sat h0 h (own b (xs.flatMap enc ++ sp) :: L)) (hsp : sp.length = k * sz) : Sat h0 h (bufs sz enc ⟨some (pt b 0), xs.length, xs.length + k⟩ xs sp :: L) :=
  O.mono fun E h => .inr ⟨b, k, rfl, hsp, h⟩
theorem Sat.bufsI {h0 h : Heap} {L : List Res} {sz : Nat} {enc : α → List Value} {s : Sl} {xs : List α} {sp : List Value} (O : Sat h0 h (bufs sz enc s xs sp :: L)) : Sat h0 h (buf sz enc s xs :: L) := O.exI sp
theorem Sat.nil_buf {h0 h : Heap} {L : List Res} {sz : Nat} {enc : α → List Value} (O : Sat h0 h L) : Sat h0 h (buf sz enc ⟨none, 0, 0⟩ [] :: L) := O.empI.mono fun E h => ⟨[], .inl ⟨rfl, rfl, rfl, h⟩⟩
end Go.Proofs.Ytdjhjpckefkolaa.V
/-
  WHAT AN ARGUMENT IS: from the form's reading of an argument ('trod') to typed cells ('Fits'), with bounds on lengths.
-/
namespace Go.Proofs.Ytdjhjpckefkolaa.V
open Go Go.RowKit
set_option linter.unusedVariables false
set_option linter.unusedSimpArgs false

/-- A slice that came in, of at most so many places. -/
def SlN (h : Heap) (N size bytes : Nat) (s : Sl) (E : List Value → Prop) : Prop :=
  (s.ptr = none ∧ s.len = 0 ∧ s.cap = 0) ∨
  ∃ a, s.ptr = some a ∧ s.len ≤ s.cap ∧ s.cap * bytes ≤ 140737488351232 ∧ s.cap ≤ N ∧ ∀ i, i < s.cap → ∃ cs, cs.length = size ∧ cellsAre h (a.add (i * size)) cs ∧ E cs
def RdN (P : Program) (h : Heap) (N : Nat) : Nat → TypeId → List Value → Prop
  | 0, _, _ => False
  | n + 1, t, cs => match P.underlying t with
    | some .bool => ∃ b, cs = [.bool b]
    | some (.int k) => ∃ x, cs = [.int k x] ∧ k.min ≤ x ∧ x ≤ k.max
    | some .string => ∃ s : ByteArray, cs = [.string s] ∧ s.size ≤ N
    | some (.slice e) => ∃ s : Sl, cs = [.slice s.ptr s.len s.cap] ∧ (0 < P.bytesOf e → SlN h N (P.cellsOf e) (P.bytesOf e) s fun cs => RdN P h N n e cs)
    | some (.struct fs) => cs.length = P.cellsOf t ∧ ∀ f ∈ fs.toList, RdN P h N n f.type ((cs.drop f.offset).take (P.cellsOf f.type))
    | some (.array m e) => cs.length = P.cellsOf t ∧ ∀ i, i < m → RdN P h N n e ((cs.drop (i * P.cellsOf e)).take (P.cellsOf e))
    | _ => True
section
variable {H : Type} {enc : TypeId × Value → H} {P : Program} {w : World}
/-- A bound that its parts bear too. -/
structure Bound (P : Program) (N : Nat) (B : TypeId → DataW H → Prop) : Prop where
  str : ∀ t b, P.underlying t = some .string → B t (.lit (.string b)) → b.length ≤ N
  sl : ∀ t e xs ys, P.underlying t = some (.slice e) → B t (.slice xs ys) → (xs.length + ys.length) * P.bytesOf e ≤ 140737488351232 ∧ (0 < P.bytesOf e → xs.length + ys.length ≤ N) ∧ (∀ d ∈ xs, B e d) ∧ ∀ d ∈ ys, B e d
  st : ∀ t fs ds, P.underlying t = some (.struct fs) → B t (.agg ds) → ∀ (i : Nat) f d, fs.toList[i]? = some f → ds[i]? = some d → B f.type d
  ar : ∀ t m e ds, P.underlying t = some (.array m e) → B t (.agg ds) → ∀ d ∈ ds, B e d
theorem bound_said {P : Program} : Bound (H := H) P 140737488351232 fun t d => ∀ x ∈ d.weights P t, x ≤ reachBytes := by
  refine ⟨?_, ?_, ?_, ?_⟩
  · intro t b hu h
    have := h b.length (by simp [DataW.weights])
    simpa [reachBytes] using this
  · intro t e xs ys hu h
    simp only [DataW.weights, hu] at h
    have h1 := h _ (List.mem_cons_self)
    simp only [reachBytes] at h1
    refine ⟨h1, fun hb => ?_, weightsAll_mem (p := (· ≤ reachBytes)) (fun x hx => h x (List.mem_cons_of_mem _ (List.mem_append.2 (.inl hx)))), weightsAll_mem (p := (· ≤ reachBytes)) (fun x hx => h x (List.mem_cons_of_mem _ (List.mem_append.2 (.inr hx))))⟩
    exact Nat.le_trans (Nat.le_mul_of_pos_right _ hb) h1
  · intro t fs ds hu h i f d hf hd
    simp only [DataW.weights, hu] at h
    exact weightsEach_at (p := (· ≤ reachBytes)) (ts := fs.toList.map (·.type)) (ds := ds) h i f.type d (by simp [hf]) hd
  · intro t m e ds hu h d hd
    simp only [DataW.weights, hu] at h
    exact weightsAll_mem (p := (· ≤ reachBytes)) h d hd
theorem bulk_mem {d : DataW H} : ∀ {l : List (DataW H)}, d ∈ l → Rows.uptoBulk d ≤ Rows.uptoBulkAll l
  | [], h => by simp at h
  | x :: l, h => by
    simp only [Rows.uptoBulkAll]
    rcases List.mem_cons.1 h with rfl | h
    · omega
    · have := bulk_mem h; omega
theorem bulk_pos (d : DataW H) : 1 ≤ Rows.uptoBulk d := by
  cases d with
  | lit l => cases l <;> simp [Rows.uptoBulk]
  | nil => simp [Rows.uptoBulk]
  | ptr d => simp [Rows.uptoBulk]
  | slice elems spare => simp [Rows.uptoBulk]
  | agg parts => simp [Rows.uptoBulk]
  | iface t d => simp [Rows.uptoBulk]
  | map entries => simp [Rows.uptoBulk]
  | held h => simp [Rows.uptoBulk]
theorem bulk_len : ∀ (l : List (DataW H)), l.length ≤ Rows.uptoBulkAll l
  | [] => by simp [Rows.uptoBulkAll]
  | x :: l => by have := bulk_pos x; have := bulk_len l; simp only [Rows.uptoBulkAll, List.length_cons]; omega
theorem bound_upto {P : Program} {N : Nat} (hN : N ≤ 1048576) : Bound (H := H) P N fun t d => (∀ x ∈ d.weights P t, x ≤ reachBytes) ∧ Rows.uptoBulk d ≤ N := by
  have s := bound_said (H := H) (P := P)
  refine ⟨?_, ?_, ?_, ?_⟩
  · intro t b hu h
    have := h.2
    simp only [Rows.uptoBulk] at this
    omega
  · intro t e xs ys hu h
    obtain ⟨h1, _, h3, h4⟩ := s.sl t e xs ys hu h.1
    have := h.2
    simp only [Rows.uptoBulk] at this
    have := bulk_len xs
    have := bulk_len ys
    refine ⟨h1, fun _ => by omega, fun d hd => ⟨h3 d hd, ?_⟩, fun d hd => ⟨h4 d hd, ?_⟩⟩
    · have := bulk_mem hd; omega
    · have := bulk_mem hd; omega
  · intro t fs ds hu h i f d hf hd
    refine ⟨s.st t fs ds hu h.1 i f d hf hd, ?_⟩
    have := h.2
    simp only [Rows.uptoBulk] at this
    have := bulk_mem (List.mem_of_getElem? hd)
    omega
  · intro t m e ds hu h d hd
    refine ⟨s.ar t m e ds hu h.1 d hd, ?_⟩
    have := h.2
    simp only [Rows.uptoBulk] at this
    have := bulk_mem hd
    omega
theorem trod_rdN {N : Nat} {B : TypeId → DataW H → Prop} (bd : Bound P N B) : ∀ (fuel : Nat) (t : TypeId) (cs : List Value) (d : DataW H) (ps : List MemPlace), DataW.trod enc P w 0 (fun _ => true) true fuel t cs = some (d, ps) →
    B t d → RdN P w.heap N fuel t cs
  | 0, _, _, _, _, h, _ => by simp [DataW.trod] at h
  | n + 1, t, cs, d, ps, h, hw => by
    unfold RdN
    unfold DataW.trod at h
    cases hu : P.underlying t with
    | none => trivial
    | some td =>
      rw [hu] at h
      cases td with
      | bool =>
        simp only
        split at h <;> simp_all
      | int k =>
        simp only
        split at h <;> simp_all [Lit.wf]
      | string =>
        simp only
        split at h <;> simp_all
        obtain ⟨_, rfl, _⟩ := h
        have := bd.str t _ hu hw
        simpa using this
      | slice e =>
        simp only
        split at h <;> simp_all
        · exact ⟨⟨none, 0, 0⟩, ⟨rfl, rfl, rfl⟩, fun _ => .inl ⟨rfl, rfl, rfl⟩⟩
        · rename_i e' a' a len cap hcs
          obtain ⟨⟨h1, h2⟩, h3⟩ := h
          replace h3 := bind_some h3; obtain ⟨elems, he, h3⟩ := h3
          replace h3 := map_some' h3; obtain ⟨rest, hr, h3⟩ := h3
          simp at h3
          obtain ⟨h3, _⟩ := h3
          subst h3
          obtain ⟨hw1, hwN, hwe, hwr⟩ := bd.sl t a' _ _ hu hw
          simp only [List.length_map] at hw1 hwN
          obtain ⟨le, ge⟩ := mapM_at he
          obtain ⟨lr, gr⟩ := mapM_at hr
          simp at le lr
          refine ⟨⟨some a, len, cap⟩, ⟨rfl, rfl, rfl⟩, fun hpos => .inr ⟨a, rfl, h1, ?_, ?_, fun i hi => ?_⟩⟩
          · rw [le, lr, show len + (cap - len) = cap by omega] at hw1
            exact hw1
          · have := hwN hpos
            rw [le, lr] at this
            simp only
            omega
          · simp only at hi
            have key : ∃ y : DataW H × List MemPlace, ((w.cells? 0 (a.add (i * P.cellsOf a')) (P.cellsOf a')).bind (DataW.trod enc P w 0 (fun x => true) true n a')) = some y ∧ B a' y.1 := by
              by_cases hil : i < len
              · obtain ⟨y, hy, hyi⟩ := ge i i (by simp [hil])
                exact ⟨y, hy, hwe y.1 (List.mem_map.2 ⟨y, List.mem_of_getElem? hyi, rfl⟩)⟩
              · obtain ⟨y, hy, hyi⟩ := gr (i - len) (i - len) (by rw [List.getElem?_range (by omega)])
                rw [show len + (i - len) = i by omega] at hy
                exact ⟨y, hy, hwr y.1 (List.mem_map.2 ⟨y, List.mem_of_getElem? hyi, rfl⟩)⟩
            obtain ⟨⟨yd, yp⟩, hy, hyw⟩ := key
            replace hy := bind_some hy; obtain ⟨cs', hcs', hy⟩ := hy
            obtain ⟨hl, hc⟩ := cells_are hcs'
            exact ⟨cs', hl, hc, trod_rdN bd n _ _ _ _ hy hyw⟩
      | struct fs =>
        simp only at h ⊢
        split at h
        · rename_i hl
          replace h := map_some' h; obtain ⟨xs, hx, h⟩ := h
          simp at h
          obtain ⟨h, _⟩ := h
          subst h
          obtain ⟨lx, gx⟩ := mapM_at hx
          refine ⟨hl, fun f hf => ?_⟩
          obtain ⟨i, hi⟩ := List.mem_iff_getElem?.1 hf
          obtain ⟨⟨yd, yp⟩, hy, hyi⟩ := gx i f hi
          exact trod_rdN bd n _ _ _ _ hy (bd.st t fs _ hu hw i f yd hi (by simp [hyi]))
        · simp at h
      | array m e =>
        simp only at h ⊢
        split at h
        · rename_i hl
          replace h := map_some' h; obtain ⟨xs, hx, h⟩ := h
          simp at h
          obtain ⟨h, _⟩ := h
          subst h
          obtain ⟨lx, gx⟩ := mapM_at hx
          refine ⟨hl, fun i hi => ?_⟩
          obtain ⟨⟨yd, yp⟩, hy, hyi⟩ := gx i i (by simp [hi])
          exact trod_rdN bd n _ _ _ _ hy (bd.ar t m e _ hu hw yd (List.mem_map.2 ⟨(yd, yp), List.mem_of_getElem? hyi, rfl⟩))
        · simp at h
      | _ => trivial
end

inductive Ty where
  | int (k : IntKind)
  | bool
  | str
  | sl (sz bts : Nat) (e : Ty)
  | nil
  | cons (a b : Ty)
def Ty.size : Ty → Nat
  | .nil => 0
  | .cons a b => a.size + b.size
  | _ => 1
def Ty.rep : Nat → Ty → Ty
  | 0, _ => .nil
  | n + 1, x => .cons x (Ty.rep n x)
def shapeFs (P : Program) (f : TypeId → Option Ty) : Nat → List Field → Option Ty
  | _, [] => some .nil
  | off, fd :: fs => match f fd.type, shapeFs P f (off + P.cellsOf fd.type) fs with
    | some a, some b => match Nat.beq fd.offset off && Nat.beq a.size (P.cellsOf fd.type) with
      | true => some (.cons a b)
      | false => none
    | _, _ => none
def shape (P : Program) : Nat → TypeId → Option Ty
  | 0, _ => none
  | n + 1, t => match P.underlying t with
    | some .bool => some .bool
    | some (.int k) => some (.int k)
    | some .string => some .str
    | some (.slice e) => match shape P n e with
      | some x => match Nat.beq x.size (P.cellsOf e) && Nat.blt 0 (P.bytesOf e) with
        | true => some (.sl (P.cellsOf e) (P.bytesOf e) x)
        | false => none
      | none => none
    | some (.struct fs) => match shapeFs P (shape P n) 0 fs.toList with
      | some x => match Nat.beq x.size (P.cellsOf t) with
        | true => some x
        | false => none
      | none => none
    | some (.array m e) => match shape P n e with
      | some x => match Nat.beq x.size (P.cellsOf e) && Nat.beq (P.cellsOf t) (m * P.cellsOf e) with
        | true => some (Ty.rep m x)
        | false => none
      | none => none
    | _ => none
/-- Cells that are a value of that shape. -/
def Fit (h : Heap) (N : Nat) : Ty → List Value → Prop
  | .int k, cs => ∃ x, cs = [.int k x] ∧ k.min ≤ x ∧ x ≤ k.max
  | .bool, cs => ∃ b, cs = [.bool b]
  | .str, cs => ∃ s : ByteArray, cs = [.string s] ∧ s.size ≤ N
  | .sl sz bts e, cs => ∃ s : Sl, cs = [.slice s.ptr s.len s.cap] ∧ SlN h N sz bts s fun cs => Fit h N e cs
  | .nil, cs => cs = []
  | .cons a b, cs => ∃ c1 c2, cs = c1 ++ c2 ∧ c1.length = a.size ∧ Fit h N a c1 ∧ Fit h N b c2
theorem fits_fs {P : Program} {h : Heap} {N : Nat} {f : TypeId → Option Ty} {R : TypeId → List Value → Prop} (hf : ∀ t x cs, f t = some x → R t cs → cs.length = x.size → Fit h N x cs) :
    ∀ {fs : List Field} {off : Nat} {x : Ty} {cs : List Value}, shapeFs P f off fs = some x → off + x.size = cs.length → (∀ fd ∈ fs, R fd.type ((cs.drop fd.offset).take (P.cellsOf fd.type))) → Fit h N x (cs.drop off)
  | [], off, x, cs, hs, hl, _ => by
    simp only [shapeFs, Option.some.injEq] at hs
    subst hs
    simp only [Ty.size] at hl
    simp [Fit]; omega
  | fd :: fs, off, x, cs, hs, hl, hR => by
    simp only [shapeFs] at hs
    split at hs
    · rename_i a b ha hb
      split at hs
      · rename_i hc
        simp only [Option.some.injEq] at hs
        subst hs
        simp only [Bool.and_eq_true, Nat.beq_eq] at hc
        obtain ⟨h1, h2⟩ := hc
        simp only [Ty.size] at hl
        have hd := hR fd List.mem_cons_self
        rw [h1, ← h2] at hd
        have hlen : ((cs.drop off).take a.size).length = a.size := by simp; omega
        refine ⟨(cs.drop off).take a.size, cs.drop (off + a.size), ?_, hlen, hf _ _ _ ha hd hlen, ?_⟩
        · rw [← List.drop_drop, List.take_append_drop]
        · have := fits_fs hf hb (cs := cs) (by rw [← h2]; omega) fun fd' hfd => hR fd' (List.mem_cons_of_mem _ hfd)
          rw [← h2] at this
          exact this
      · simp at hs
    · simp at hs
theorem fits_rep {h : Heap} {N : Nat} {x : Ty} : ∀ (m : Nat) {cs : List Value}, cs.length = m * x.size → (∀ i, i < m → Fit h N x ((cs.drop (i * x.size)).take x.size)) → Fit h N (Ty.rep m x) cs
  | 0, cs, hl, _ => by simp at hl; simp [Ty.rep, Fit, hl]
  | m + 1, cs, hl, hR => by
    rw [Nat.add_mul, Nat.one_mul] at hl
    refine ⟨cs.take x.size, cs.drop x.size, (List.take_append_drop _ _).symm, by simp; omega, by simpa using hR 0 (by omega), fits_rep m (by simp; omega) fun i hi => ?_⟩
    have := hR (i + 1) (by omega)
    rwa [List.drop_drop, show x.size + i * x.size = (i + 1) * x.size by rw [Nat.add_mul, Nat.one_mul, Nat.add_comm]]
theorem fits_of {P : Program} {h : Heap} {N : Nat} : ∀ (d : Nat) {n : Nat} {t : TypeId} {x : Ty} {cs : List Value}, shape P d t = some x → RdN P h N n t cs → (cs.length = x.size ∨ True) → Fit h N x cs
  | 0, n, t, x, cs, hs, _, _ => by simp [shape] at hs
  | d + 1, 0, t, x, cs, hs, hR, _ => hR.elim
  | d + 1, n + 1, t, x, cs, hs, hR, _ => by
    unfold shape at hs
    unfold RdN at hR
    cases hu : P.underlying t with
    | none => rw [hu] at hs; simp at hs
    | some td =>
      rw [hu] at hs hR
      cases td <;> simp only [Option.some.injEq, reduceCtorEq] at hs hR
      case bool => subst hs; exact hR
      case int k => subst hs; exact hR
      case string => subst hs; exact hR
      case slice e =>
        split at hs
        · rename_i y hy
          split at hs
          · rename_i hc
            simp only [Option.some.injEq] at hs
            subst hs
            simp only [Bool.and_eq_true, Nat.beq_eq] at hc
            obtain ⟨s, rfl, hS⟩ := hR
            have hpos : 0 < P.bytesOf e := Nat.le_of_ble_eq_true hc.2
            refine ⟨s, rfl, ?_⟩
            rcases hS hpos with hS | ⟨a, h1, h2, h3, h4, h5⟩
            · exact .inl hS
            · refine .inr ⟨a, h1, h2, h3, h4, fun i hi => ?_⟩
              obtain ⟨cs, k1, k2, k3⟩ := h5 i hi
              exact ⟨cs, k1, k2, fits_of d hy k3 (.inr trivial)⟩
          · simp at hs
        · simp at hs
      case struct fs =>
        split at hs
        · rename_i y hy
          split at hs
          · rename_i hc
            simp only [Option.some.injEq] at hs
            subst hs
            rw [Nat.beq_eq] at hc
            have := fits_fs (P := P) (h := h) (N := N) (R := fun t cs => RdN P h N n t cs) (fun t x cs h1 h2 _ => fits_of d h1 h2 (.inr trivial)) hy (cs := cs) (by rw [hR.1, hc]; omega) hR.2
            simpa using this
          · simp at hs
        · simp at hs
      case array m e =>
        split at hs
        · rename_i y hy
          split at hs
          · rename_i hc
            simp only [Option.some.injEq] at hs
            subst hs
            simp only [Bool.and_eq_true, Nat.beq_eq] at hc
            refine fits_rep m (by rw [hR.1, hc.1]; exact hc.2) fun i hi => ?_
            rw [hc.1]
            exact fits_of d hy (hR.2 i hi) (.inr trivial)
          · simp at hs
        · simp at hs
/-- The elements of a slice that came in. -/
theorem SlN.view {α : Type} {h : Heap} {N sz bts : Nat} {s : Sl} {E : List Value → Prop} (S : SlN h N sz bts s E) (R : α → List Value → Prop) (hE : ∀ cs, E cs → ∃ x, R x cs) : s.len ≤ s.cap ∧ s.cap ≤ N ∧ s.cap * bts ≤ 140737488351232 ∧ ∃ xs : List α, View h sz R s xs := by
  rcases S with ⟨h1, h2, h3⟩ | ⟨a, h1, h2, h3, h4, h5⟩
  · exact ⟨by omega, by omega, by rw [h3]; omega, [], by rw [h2]; rfl, by simp⟩
  · refine ⟨h2, h4, h3, ?_⟩
    have : ∀ n, n ≤ s.cap → ∃ xs : List α, xs.length = n ∧ ∀ (i : Nat) x, xs[i]? = some x → ∃ a cs, s.ptr = some a ∧ cs.length = sz ∧ R x cs ∧ cellsAre h (a.add (i * sz)) cs := by
      intro n
      induction n with
      | zero => intro _; exact ⟨[], rfl, by simp⟩
      | succ n ih =>
        intro hn
        obtain ⟨xs, hl, hx⟩ := ih (by omega)
        obtain ⟨cs, k1, k2, k3⟩ := h5 n (by omega)
        obtain ⟨x, hR⟩ := hE cs k3
        refine ⟨xs ++ [x], by simp [hl], fun i y hy => ?_⟩
        rw [List.getElem?_append] at hy
        split at hy
        · exact hx i y hy
        · rename_i hi
          have : i = n := by
            rw [hl] at hi hy
            by_cases e : i - n = 0
            · omega
            · rw [List.getElem?_eq_none (by simp; omega)] at hy; simp at hy
          subst this
          rw [hl, Nat.sub_self] at hy
          simp at hy; subst hy
          exact ⟨a, cs, h1, k1, hR, k2⟩
    obtain ⟨xs, hl, hx⟩ := this s.len h2
    exact ⟨xs, hl.symm, hx⟩
theorem u8_of {cs : List Value} {h : Heap} {N : Nat} (hf : Fit h N (.int .u8) cs) : ∃ x : UInt8, En u8 x cs := by
  obtain ⟨x, rfl, h1, h2⟩ := hf
  simp [IntKind.min, IntKind.max, IntKind.bits, IntKind.signed] at h1 h2
  refine ⟨UInt8.ofNat x.toNat, ?_⟩
  simp only [En, u8, UInt8.toNat_ofNat', List.cons.injEq, Value.int.injEq, true_and, and_true]
  omega
/-- A list of bytes that came in. -/
theorem SlN.bytes {h : Heap} {N : Nat} {s : Sl} (S : SlN h N 1 1 s fun cs => Fit h N (.int .u8) cs) : s.len ≤ s.cap ∧ s.cap ≤ N ∧ ∃ l : List UInt8, Bytes h s l := by
  obtain ⟨h1, h2, _, xs, V⟩ := S.view (En u8) (fun cs hf => u8_of hf)
  exact ⟨h1, h2, xs, V⟩
end Go.Proofs.Ytdjhjpckefkolaa.V
/-
  SMALL RULES: branches, joins, numbers; and the last step of a law.
-/
namespace Go.Proofs.Ytdjhjpckefkolaa.V
open Go Go.RowKit
set_option linter.unusedVariables false
set_option linter.unusedSimpArgs false

theorem brr_p {p : Prop} [Decidable p] {A B : Prop} (h1 : p → A) (h2 : ¬ p → B) : brr (decide p) A B := by
  rw [brr_dec]; split
  · rename_i h; exact h1 h
  · rename_i h; exact h2 h
theorem brr_eq {a b : Int} {A B : Prop} (h1 : a = b → A) (h2 : a ≠ b → B) : brr (a == b) A B := by
  by_cases h : a = b
  · rw [show (a == b) = true by simpa using h]; exact h1 h
  · rw [show (a == b) = false by simpa using h]; exact h2 h
theorem brr_ne {a b : Int} {A B : Prop} (h1 : a ≠ b → A) (h2 : a = b → B) : brr (a != b) A B := by
  by_cases h : a = b
  · rw [show (a != b) = false by simpa using h]; exact h2 h
  · rw [show (a != b) = true by simpa using h]; exact h1 h
theorem brr_not {b : Bool} {A B : Prop} (h : brr b B A) : brr (!b) A B := by cases b <;> exact h
theorem brr_of {b : Bool} {A B : Prop} (h1 : b = true → A) (h2 : b = false → B) : brr b A B := by cases b; exact h2 rfl; exact h1 rfl
theorem brr_tt {b : Bool} {A B : Prop} (e : b = true) (h : A) : brr b A B := by subst e; exact h
theorem brr_ff {b : Bool} {A B : Prop} (e : b = false) (h : B) : brr b A B := by subst e; exact h
theorem ldL_n {vs : List Value} {K : Prop} (h : K) : ldL [] vs K := by cases vs <;> exact h
theorem ldL_c {k : Kd} {ks : List Kd} {x : k.T} {vs : List Value} {K : k.T → Fn ks Prop} (h : ldL ks vs (K x)) : ldL (k :: ks) (k.enc x :: vs) K := ⟨x, rfl, h⟩
theorem jn0 {rest : Heap → Prop} {body : (Heap → Prop) → Prop} (C : Heap → Prop) (h1 : ∀ h, C h → rest h) (h2 : ∀ j : Heap → Prop, (∀ h, C h → j h) → body j) : jn [] rest body := h2 rest h1
theorem jn1 {i : Nat} {k : Kd} {rest : k.T → Heap → Prop} {body : (k.T → Heap → Prop) → Prop} (C : k.T → Heap → Prop) (h1 : ∀ x h, C x h → rest x h) (h2 : ∀ j : k.T → Heap → Prop, (∀ x h, C x h → j x h) → body j) : jn [(i, .one k)] rest body := h2 rest h1
theorem jn2 {i i2 : Nat} {k k2 : Kd} {rest : k.T → k2.T → Heap → Prop} {body : (k.T → k2.T → Heap → Prop) → Prop} (C : k.T → k2.T → Heap → Prop) (h1 : ∀ x y h, C x y h → rest x y h) (h2 : ∀ j : k.T → k2.T → Heap → Prop, (∀ x y h, C x y h → j x y h) → body j) : jn [(i, .one k), (i2, .one k2)] rest body := h2 rest h1
theorem wl5 {i1 i2 i3 i4 i5 : Nat} {k1 k2 k3 k4 k5 : Kd} {B : (k1.T → k2.T → k3.T → k4.T → k5.T → Heap → Prop) → k1.T → k2.T → k3.T → k4.T → k5.T → Heap → Prop} (I : Nat → k1.T → k2.T → k3.T → k4.T → k5.T → Heap → Prop)
    (step : ∀ m x1 x2 x3 x4 x5 h (next : k1.T → k2.T → k3.T → k4.T → k5.T → Heap → Prop), (∀ m' x1' x2' x3' x4' x5' h', m' < m → I m' x1' x2' x3' x4' x5' h' → next x1' x2' x3' x4' x5' h') → I m x1 x2 x3 x4 x5 h → B next x1 x2 x3 x4 x5 h) {m : Nat} {x1 : k1.T} {x2 : k2.T} {x3 : k3.T} {x4 : k4.T} {x5 : k5.T} {h : Heap} (hI : I m x1 x2 x3 x4 x5 h) : wl [(i1, .one k1), (i2, .one k2), (i3, .one k3), (i4, .one k4), (i5, .one k5)] B x1 x2 x3 x4 x5 h := by
  have key : ∀ n x1 x2 x3 x4 x5 h, (∃ m, m < n ∧ I m x1 x2 x3 x4 x5 h) → wit [(i1, .one k1), (i2, .one k2), (i3, .one k3), (i4, .one k4), (i5, .one k5)] B n x1 x2 x3 x4 x5 h := by
    intro n
    induction n with
    | zero => intro x1 x2 x3 x4 x5 h ⟨m, hm, _⟩; omega
    | succ n ih => intro x1 x2 x3 x4 x5 h ⟨m, hm, hI⟩; exact step m x1 x2 x3 x4 x5 h _ (fun m' x1' x2' x3' x4' x5' h' hm' hI' => ih x1' x2' x3' x4' x5' h' ⟨m', by omega, hI'⟩) hI
  exact ⟨m + 1, key (m + 1) x1 x2 x3 x4 x5 h ⟨m, by omega, hI⟩⟩
theorem wl6 {i1 i2 i3 i4 i5 i6 : Nat} {k1 k2 k3 k4 k5 k6 : Kd} {B : (k1.T → k2.T → k3.T → k4.T → k5.T → k6.T → Heap → Prop) → k1.T → k2.T → k3.T → k4.T → k5.T → k6.T → Heap → Prop} (I : Nat → k1.T → k2.T → k3.T → k4.T → k5.T → k6.T → Heap → Prop)
    (step : ∀ m x1 x2 x3 x4 x5 x6 h (next : k1.T → k2.T → k3.T → k4.T → k5.T → k6.T → Heap → Prop), (∀ m' x1' x2' x3' x4' x5' x6' h', m' < m → I m' x1' x2' x3' x4' x5' x6' h' → next x1' x2' x3' x4' x5' x6' h') → I m x1 x2 x3 x4 x5 x6 h → B next x1 x2 x3 x4 x5 x6 h) {m : Nat} {x1 : k1.T} {x2 : k2.T} {x3 : k3.T} {x4 : k4.T} {x5 : k5.T} {x6 : k6.T} {h : Heap} (hI : I m x1 x2 x3 x4 x5 x6 h) : wl [(i1, .one k1), (i2, .one k2), (i3, .one k3), (i4, .one k4), (i5, .one k5), (i6, .one k6)] B x1 x2 x3 x4 x5 x6 h := by
  have key : ∀ n x1 x2 x3 x4 x5 x6 h, (∃ m, m < n ∧ I m x1 x2 x3 x4 x5 x6 h) → wit [(i1, .one k1), (i2, .one k2), (i3, .one k3), (i4, .one k4), (i5, .one k5), (i6, .one k6)] B n x1 x2 x3 x4 x5 x6 h := by
    intro n
    induction n with
    | zero => intro x1 x2 x3 x4 x5 x6 h ⟨m, hm, _⟩; omega
    | succ n ih => intro x1 x2 x3 x4 x5 x6 h ⟨m, hm, hI⟩; exact step m x1 x2 x3 x4 x5 x6 h _ (fun m' x1' x2' x3' x4' x5' x6' h' hm' hI' => ih x1' x2' x3' x4' x5' x6' h' ⟨m', by omega, hI'⟩) hI
  exact ⟨m + 1, key (m + 1) x1 x2 x3 x4 x5 x6 h ⟨m, by omega, hI⟩⟩
theorem wl7 {i1 i2 i3 i4 i5 i6 i7 : Nat} {k1 k2 k3 k4 k5 k6 k7 : Kd} {B : (k1.T → k2.T → k3.T → k4.T → k5.T → k6.T → k7.T → Heap → Prop) → k1.T → k2.T → k3.T → k4.T → k5.T → k6.T → k7.T → Heap → Prop} (I : Nat → k1.T → k2.T → k3.T → k4.T → k5.T → k6.T → k7.T → Heap → Prop)
    (step : ∀ m x1 x2 x3 x4 x5 x6 x7 h (next : k1.T → k2.T → k3.T → k4.T → k5.T → k6.T → k7.T → Heap → Prop), (∀ m' x1' x2' x3' x4' x5' x6' x7' h', m' < m → I m' x1' x2' x3' x4' x5' x6' x7' h' → next x1' x2' x3' x4' x5' x6' x7' h') → I m x1 x2 x3 x4 x5 x6 x7 h → B next x1 x2 x3 x4 x5 x6 x7 h) {m : Nat} {x1 : k1.T} {x2 : k2.T} {x3 : k3.T} {x4 : k4.T} {x5 : k5.T} {x6 : k6.T} {x7 : k7.T} {h : Heap} (hI : I m x1 x2 x3 x4 x5 x6 x7 h) : wl [(i1, .one k1), (i2, .one k2), (i3, .one k3), (i4, .one k4), (i5, .one k5), (i6, .one k6), (i7, .one k7)] B x1 x2 x3 x4 x5 x6 x7 h := by
  have key : ∀ n x1 x2 x3 x4 x5 x6 x7 h, (∃ m, m < n ∧ I m x1 x2 x3 x4 x5 x6 x7 h) → wit [(i1, .one k1), (i2, .one k2), (i3, .one k3), (i4, .one k4), (i5, .one k5), (i6, .one k6), (i7, .one k7)] B n x1 x2 x3 x4 x5 x6 x7 h := by
    intro n
    induction n with
    | zero => intro x1 x2 x3 x4 x5 x6 x7 h ⟨m, hm, _⟩; omega
    | succ n ih => intro x1 x2 x3 x4 x5 x6 x7 h ⟨m, hm, hI⟩; exact step m x1 x2 x3 x4 x5 x6 x7 h _ (fun m' x1' x2' x3' x4' x5' x6' x7' h' hm' hI' => ih x1' x2' x3' x4' x5' x6' x7' h' ⟨m', by omega, hI'⟩) hI
  exact ⟨m + 1, key (m + 1) x1 x2 x3 x4 x5 x6 x7 h ⟨m, by omega, hI⟩⟩
theorem wl8 {i1 i2 i3 i4 i5 i6 i7 i8 : Nat} {k1 k2 k3 k4 k5 k6 k7 k8 : Kd} {B : (k1.T → k2.T → k3.T → k4.T → k5.T → k6.T → k7.T → k8.T → Heap → Prop) → k1.T → k2.T → k3.T → k4.T → k5.T → k6.T → k7.T → k8.T → Heap → Prop} (I : Nat → k1.T → k2.T → k3.T → k4.T → k5.T → k6.T → k7.T → k8.T → Heap → Prop)
    (step : ∀ m x1 x2 x3 x4 x5 x6 x7 x8 h (next : k1.T → k2.T → k3.T → k4.T → k5.T → k6.T → k7.T → k8.T → Heap → Prop), (∀ m' x1' x2' x3' x4' x5' x6' x7' x8' h', m' < m → I m' x1' x2' x3' x4' x5' x6' x7' x8' h' → next x1' x2' x3' x4' x5' x6' x7' x8' h') → I m x1 x2 x3 x4 x5 x6 x7 x8 h → B next x1 x2 x3 x4 x5 x6 x7 x8 h) {m : Nat} {x1 : k1.T} {x2 : k2.T} {x3 : k3.T} {x4 : k4.T} {x5 : k5.T} {x6 : k6.T} {x7 : k7.T} {x8 : k8.T} {h : Heap} (hI : I m x1 x2 x3 x4 x5 x6 x7 x8 h) : wl [(i1, .one k1), (i2, .one k2), (i3, .one k3), (i4, .one k4), (i5, .one k5), (i6, .one k6), (i7, .one k7), (i8, .one k8)] B x1 x2 x3 x4 x5 x6 x7 x8 h := by
  have key : ∀ n x1 x2 x3 x4 x5 x6 x7 x8 h, (∃ m, m < n ∧ I m x1 x2 x3 x4 x5 x6 x7 x8 h) → wit [(i1, .one k1), (i2, .one k2), (i3, .one k3), (i4, .one k4), (i5, .one k5), (i6, .one k6), (i7, .one k7), (i8, .one k8)] B n x1 x2 x3 x4 x5 x6 x7 x8 h := by
    intro n
    induction n with
    | zero => intro x1 x2 x3 x4 x5 x6 x7 x8 h ⟨m, hm, _⟩; omega
    | succ n ih => intro x1 x2 x3 x4 x5 x6 x7 x8 h ⟨m, hm, hI⟩; exact step m x1 x2 x3 x4 x5 x6 x7 x8 h _ (fun m' x1' x2' x3' x4' x5' x6' x7' x8' h' hm' hI' => ih x1' x2' x3' x4' x5' x6' x7' x8' h' ⟨m', by omega, hI'⟩) hI
  exact ⟨m + 1, key (m + 1) x1 x2 x3 x4 x5 x6 x7 x8 h ⟨m, by omega, hI⟩⟩
theorem jn3 {i1 i2 i3 : Nat} {k1 k2 k3 : Kd} {rest : k1.T → k2.T → k3.T → Heap → Prop} {body : (k1.T → k2.T → k3.T → Heap → Prop) → Prop} (C : k1.T → k2.T → k3.T → Heap → Prop) (h1 : ∀ x1 x2 x3 h, C x1 x2 x3 h → rest x1 x2 x3 h) (h2 : ∀ j : k1.T → k2.T → k3.T → Heap → Prop, (∀ x1 x2 x3 h, C x1 x2 x3 h → j x1 x2 x3 h) → body j) : jn [(i1, .one k1), (i2, .one k2), (i3, .one k3)] rest body := h2 rest h1
theorem jn4 {i1 i2 i3 i4 : Nat} {k1 k2 k3 k4 : Kd} {rest : k1.T → k2.T → k3.T → k4.T → Heap → Prop} {body : (k1.T → k2.T → k3.T → k4.T → Heap → Prop) → Prop} (C : k1.T → k2.T → k3.T → k4.T → Heap → Prop) (h1 : ∀ x1 x2 x3 x4 h, C x1 x2 x3 x4 h → rest x1 x2 x3 x4 h) (h2 : ∀ j : k1.T → k2.T → k3.T → k4.T → Heap → Prop, (∀ x1 x2 x3 x4 h, C x1 x2 x3 x4 h → j x1 x2 x3 x4 h) → body j) : jn [(i1, .one k1), (i2, .one k2), (i3, .one k3), (i4, .one k4)] rest body := h2 rest h1
theorem jn5 {i1 i2 i3 i4 i5 : Nat} {k1 k2 k3 k4 k5 : Kd} {rest : k1.T → k2.T → k3.T → k4.T → k5.T → Heap → Prop} {body : (k1.T → k2.T → k3.T → k4.T → k5.T → Heap → Prop) → Prop} (C : k1.T → k2.T → k3.T → k4.T → k5.T → Heap → Prop) (h1 : ∀ x1 x2 x3 x4 x5 h, C x1 x2 x3 x4 x5 h → rest x1 x2 x3 x4 x5 h) (h2 : ∀ j : k1.T → k2.T → k3.T → k4.T → k5.T → Heap → Prop, (∀ x1 x2 x3 x4 x5 h, C x1 x2 x3 x4 x5 h → j x1 x2 x3 x4 x5 h) → body j) : jn [(i1, .one k1), (i2, .one k2), (i3, .one k3), (i4, .one k4), (i5, .one k5)] rest body := h2 rest h1
theorem jn6 {i1 i2 i3 i4 i5 i6 : Nat} {k1 k2 k3 k4 k5 k6 : Kd} {rest : k1.T → k2.T → k3.T → k4.T → k5.T → k6.T → Heap → Prop} {body : (k1.T → k2.T → k3.T → k4.T → k5.T → k6.T → Heap → Prop) → Prop} (C : k1.T → k2.T → k3.T → k4.T → k5.T → k6.T → Heap → Prop) (h1 : ∀ x1 x2 x3 x4 x5 x6 h, C x1 x2 x3 x4 x5 x6 h → rest x1 x2 x3 x4 x5 x6 h) (h2 : ∀ j : k1.T → k2.T → k3.T → k4.T → k5.T → k6.T → Heap → Prop, (∀ x1 x2 x3 x4 x5 x6 h, C x1 x2 x3 x4 x5 x6 h → j x1 x2 x3 x4 x5 x6 h) → body j) : jn [(i1, .one k1), (i2, .one k2), (i3, .one k3), (i4, .one k4), (i5, .one k5), (i6, .one k6)] rest body := h2 rest h1
theorem i64_min : IntKind.i64.min = -9223372036854775808 := by decide
theorem i64_max : IntKind.i64.max = 9223372036854775807 := by decide
theorem u64_min : IntKind.u64.min = 0 := by decide
theorem u64_max : IntKind.u64.max = 18446744073709551615 := by decide
theorem u32_min : IntKind.u32.min = 0 := by decide
theorem u32_max : IntKind.u32.max = 4294967295 := by decide
theorem u8_min : IntKind.u8.min = 0 := by decide
theorem u8_max : IntKind.u8.max = 255 := by decide
theorem tmod_fix {a c : Int} (hc : 0 < c) : (if a.tmod c < 0 then a.tmod c + c else a.tmod c) = a % c := by
  have h1 := Int.emod_nonneg a (show c ≠ 0 by omega)
  have h2 := Int.emod_lt_of_pos a hc
  have h3 := Int.tmod_eq_emod (a := a) (b := c)
  split at h3
  · rw [if_neg (by omega)]; omega
  · rw [if_pos (by omega)]; omega
theorem tmod_lt {a c : Int} (hc : 0 < c) : -c < a.tmod c ∧ a.tmod c < c := by
  have h1 := Int.emod_nonneg a (show c ≠ 0 by omega)
  have h2 := Int.emod_lt_of_pos a hc
  have h3 := Int.tmod_eq_emod (a := a) (b := c)
  by_cases h : c ∣ a
  · rw [if_pos (.inr h)] at h3
    omega
  · have : a % c ≠ 0 := fun e => h (Int.dvd_of_emod_eq_zero e)
    split at h3 <;> omega
theorem within_mod {n m : Int} (hm : 0 < m) : (n.tmod m + m).tmod m = n % m := by
  have h := tmod_lt (a := n) hm
  rw [Int.tmod_eq_emod_of_nonneg (by omega), Int.add_emod_right]
  have h3 := Int.tmod_eq_emod (a := n) (b := m)
  split at h3
  · rw [h3]; simp
  · rw [h3, Int.sub_emod, show ((m.natAbs : Nat) : Int) = m by omega]; simp
theorem okv_agg {P : Program} {t : TypeId} {v : Value} (ha : aggT P t = some true) (h : okv P t v) : ∃ cs, v = .agg cs := by
  unfold aggT at ha
  unfold okv at h
  cases hu : P.underlying t with
  | none => simp [hu] at ha
  | some d =>
    rw [hu] at ha h
    cases d <;> first | exact h | simp at ha
end Go.Proofs.Ytdjhjpckefkolaa.V
/-
  MANY RESOURCES AS ONE: a list of things of one kind, each in memory of its own; one of them is taken out and put back.
-/
namespace Go.Proofs.Ytdjhjpckefkolaa.V
open Go Go.RowKit
set_option linter.unusedVariables false
set_option linter.unusedSimpArgs false
variable {α β : Type}
theorem star_perm : ∀ {L : List Res} {E F : Blks}, star L E → F.Perm E → star L F
  | [], E, F, h, p => by
    have h' : E = [] := h
    subst h'
    exact List.Perm.eq_nil p
  | A :: L, E, F, ⟨E1, E2, q, h1, h2⟩, p => ⟨E1, E2, p.trans q, h1, h2⟩
theorem star_app : ∀ {L M : List Res} {E F : Blks}, star L E → star M F → star (L ++ M) (E ++ F)
  | [], M, E, F, h, k => by
    have h' : E = [] := h
    subst h'
    exact k
  | A :: L, M, E, F, ⟨E1, E2, q, h1, h2⟩, k => ⟨E1, E2 ++ F, by rw [← List.append_assoc]; exact q.append_right F, h1, star_app h2 k⟩
theorem set_set_res : ∀ (L : List Res) (i : Nat) (A B : Res), (L.set i A).set i B = L.set i B
  | [], _, _, _ => rfl
  | _ :: _, 0, _, _ => rfl
  | _ :: L, i + 1, A, B => by simp [set_set_res L i A B]
theorem Sat.pull {h0 h : Heap} {Rs L : List Res} (O : Sat h0 h (star Rs :: L)) (i : Nat) (hi : i < Rs.length) : Sat h0 h (nth i Rs :: star (Rs.set i V.emp) :: L) := by
  obtain ⟨E, ⟨E1, E2, p, h1, h2⟩, O⟩ := O
  obtain ⟨F1, F2, q, h3, h4⟩ := star_at i hi h1
  exact ⟨E, ⟨F1, F2 ++ E2, p.trans ((q.append_right E2).trans (by rw [List.append_assoc])), h3, F2, E2, List.Perm.refl _, h4 V.emp [] rfl, h2⟩, O⟩
theorem Sat.back {h0 h : Heap} {Rs L : List Res} {B : Res} {i : Nat} (O : Sat h0 h (B :: star (Rs.set i V.emp) :: L)) (hi : i < Rs.length) : Sat h0 h (star (Rs.set i B) :: L) := by
  obtain ⟨E, ⟨E1, E2, p, h1, F1, F2, q, h2, h3⟩, O⟩ := O
  obtain ⟨G1, G2, r, h4, h5⟩ := star_at i (by simpa using hi) h2
  rw [nth_set _ hi] at h4
  have h4' : G1 = [] := h4
  subst h4'
  have := h5 B E1 h1
  rw [set_set_res] at this
  refine ⟨E, ⟨E1 ++ G2, F2, ?_, this, h3⟩, O⟩
  refine p.trans ((q.append_left E1).trans ?_)
  rw [List.append_assoc]
  exact (List.Perm.append_right F2 (by simpa using r)).append_left E1
theorem Sat.snoc {h0 h : Heap} {Rs L : List Res} {A : Res} (O : Sat h0 h (A :: star Rs :: L)) : Sat h0 h (star (Rs ++ [A]) :: L) := by
  obtain ⟨E, ⟨E1, E2, p, h1, F1, F2, q, h2, h3⟩, O⟩ := O
  refine ⟨E, ⟨F1 ++ E1, F2, ?_, ?_, h3⟩, O⟩
  · refine p.trans ((q.append_left E1).trans ?_)
    rw [← List.append_assoc]
    exact List.perm_append_comm.append_right F2
  · have h4 : star [A] E1 := ⟨E1, [], by simp, h1, rfl⟩
    exact star_app h2 h4
/-- Things of one kind. -/
def many (f : α → Res) (xs : List α) : Res := star (xs.map f)
def hole (f : α → Res) (xs : List α) (i : Nat) : Res := star ((xs.map f).set i emp)
theorem nth_mapf {f : α → Res} : ∀ {xs : List α} {i : Nat} {x : α}, xs[i]? = some x → nth i (xs.map f) = f x
  | [], i, x, h => by simp at h
  | y :: ys, 0, x, h => by simp at h; subst h; rfl
  | y :: ys, i + 1, x, h => nth_mapf (xs := ys) (i := i) (by simpa using h)
theorem Sat.take {h0 h : Heap} {f : α → Res} {xs : List α} {L : List Res} (O : Sat h0 h (many f xs :: L)) (i : Nat) {x : α} (hi : xs[i]? = some x) : Sat h0 h (f x :: hole f xs i :: L) := by
  have hl := (List.getElem?_eq_some_iff.1 hi).1
  have := Sat.pull (Rs := xs.map f) O i (by simpa using hl)
  rw [nth_mapf hi] at this
  exact this
theorem Sat.give {h0 h : Heap} {f : α → Res} {xs : List α} {L : List Res} {i : Nat} {y : α} (O : Sat h0 h (f y :: hole f xs i :: L)) (hi : i < xs.length) : Sat h0 h (many f (xs.set i y) :: L) := by
  have := Sat.back (Rs := xs.map f) O (by simpa using hi)
  unfold many
  rw [List.map_set]
  exact this
theorem Sat.more {h0 h : Heap} {f : α → Res} {xs : List α} {L : List Res} {y : α} (O : Sat h0 h (f y :: many f xs :: L)) : Sat h0 h (many f (xs ++ [y]) :: L) := by
  have := Sat.snoc (Rs := xs.map f) O
  unfold many
  rw [List.map_append]
  exact this
theorem Sat.none {h0 h : Heap} {f : α → Res} {L : List Res} (O : Sat h0 h L) : Sat h0 h (many f [] :: L) := O.empI
def u64c (x : Int) : List Value := [.int .u64 x]
def i64c (x : Int) : List Value := [.int .i64 x]
def ptrc (b : Nat) : List Value := [.pointer (some (pt b 0))]
theorem u64c_len (x : Int) : (u64c x).length = 1 := rfl
theorem i64c_len (x : Int) : (i64c x).length = 1 := rfl
theorem ptrc_len (b : Nat) : (ptrc b).length = 1 := rfl
def slc (s : Sl) : List Value := [.slice s.ptr s.len s.cap]
theorem slc_len (s : Sl) : (slc s).length = 1 := rfl
theorem slc_one (s : Sl) : (slc s).all oneV = true := rfl
theorem u8_len (x : UInt8) : (u8 x).length = 1 := rfl
theorem u64c_one (x : Int) : (u64c x).all oneV = true := rfl
theorem i64c_one (x : Int) : (i64c x).all oneV = true := rfl
theorem ptrc_one (b : Nat) : (ptrc b).all oneV = true := rfl
theorem u8_one (x : UInt8) : (u8 x).all oneV = true := rfl
theorem set_flat1 {enc : α → List Value} (he : ∀ x, (enc x).length = 1) : ∀ (xs : List α) (sp : List Value) (i : Nat) (y : α), i < xs.length → V.put (xs.flatMap enc ++ sp) i (enc y) = (xs.set i y).flatMap enc ++ sp
  | [], sp, i, y, h => by simp at h
  | x :: xs, sp, 0, y, h => by
    have h1 := he x; have h2 := he y
    rw [List.flatMap_cons, List.set_cons_zero, List.flatMap_cons]
    match hx : enc x, hy : enc y with
    | [a], [c] => simp [V.put, put_nil]
    | [], _ => rw [hx] at h1; simp at h1
    | _ :: _ :: _, _ => rw [hx] at h1; simp at h1
    | _, [] => rw [hy] at h2; simp at h2
    | _, _ :: _ :: _ => rw [hy] at h2; simp at h2
  | x :: xs, sp, i + 1, y, h => by
    have h1 := he x
    rw [List.flatMap_cons, List.set_cons_succ, List.flatMap_cons]
    match hx : enc x with
    | [a] =>
      have := set_flat1 he xs sp i y (by simpa using h)
      simp [V.put]
      simpa using this
    | [] => rw [hx] at h1; simp at h1
    | _ :: _ :: _ => rw [hx] at h1; simp at h1
/-- An element of one's own list is written: elements of one cell. -/
theorem Sat.put1 {h0 h : Heap} {L : List Res} {enc : α → List Value} {s : Sl} {xs : List α} {i : Int} {K : Heap → Prop} (O : Sat h0 h (buf 1 enc s xs :: L)) (he : ∀ x, (enc x).length = 1) (ho : ∀ x, (enc x).all oneV = true)
    (hi0 : 0 ≤ i) (hi1 : i < (xs.length : Int)) (y : α) {cs : List Value} (hcs : cs = enc y) (k : ∀ h', Sat h0 h' (buf 1 enc s (xs.set i.toNat y) :: L) → K h') : ixS 1 s i fun a => V.st a cs h K := by
  subst hcs
  obtain ⟨sp, O⟩ := O.ex
  obtain ⟨E, ⟨E1, E2, p, hA, h2⟩, O⟩ := O
  have O := O.perm p.symm
  rcases hA with ⟨rfl, rfl, _, _⟩ | ⟨b, j, rfl, hsp, rfl⟩
  · simp at hi1; omega
  · refine ⟨pt b 0, rfl, hi0, hi1, ?_⟩
    rw [pt_add, Nat.zero_add, Nat.mul_one]
    have hl := flatMap_len he xs
    refine Held.st O (by rw [he, List.length_append, hl]; omega) (ho y) fun h' O' => ?_
    rw [set_flat1 he _ _ _ _ (by omega)] at O'
    exact k _ ⟨_, ⟨[(b, _)], E2, List.Perm.refl _, ⟨sp, .inr ⟨b, j, by simp, hsp, rfl⟩⟩, h2⟩, O'⟩
theorem View.at1 {h : Heap} {enc : α → List Value} {s : Sl} {xs : List α} {i : Int} {k : Kd} {K : k.T → Prop} (V : View h 1 (En enc) s xs) (h0 : 0 ≤ i) (h1 : i < (xs.length : Int)) (f : α → k.T) (hf : ∀ x, enc x = [k.enc (f x)])
    (kk : ∀ x, xs[i.toNat]? = some x → K (f x)) : ixS 1 s i fun a => ld [k] a h K :=
  V.ix h0 h1 fun a cs x hx hl hR hc => by
    have e : cs = [k.enc (f x)] := hR.trans (hf x)
    rw [e] at hc
    exact ld_are hc (ldL_c (ldL_n (kk x hx)))
theorem View.get1 {h : Heap} {enc : α → List Value} {s : Sl} {xs : List α} {i : Int} {k : Kd} {K : k.T → Prop} {x : α} (V : View h 1 (En enc) s xs) (h0 : 0 ≤ i) (hx : xs[i.toNat]? = some x) (f : α → k.T) (hf : ∀ x, enc x = [k.enc (f x)])
    (kk : K (f x)) : ixS 1 s i fun a => ld [k] a h K :=
  V.at1 h0 (by have := (List.getElem?_eq_some_iff.1 hx).1; omega) f hf fun y hy => by
    rw [hx] at hy
    have e := Option.some.inj hy
    subst e
    exact kk
/-- An element's place, and that it lies there for as long as the list does. -/
theorem View.getP {h : Heap} {sz : Nat} {enc : α → List Value} {s : Sl} {xs : List α} {i : Int} {K : Addr → Prop} {x : α} (V : View h sz (En enc) s xs) (h0 : 0 ≤ i) (hx : xs[i.toNat]? = some x)
    (kk : ∀ a, (∀ {h' : Heap}, View h' sz (En enc) s xs → cellsAre h' a (enc x)) → K a) : ixS sz s i K := by
  have hl := (List.getElem?_eq_some_iff.1 hx).1
  obtain ⟨a, cs, h1, _, _, _⟩ := V.2 i.toNat x hx
  refine ⟨a, h1, h0, by rw [V.1]; omega, kk _ fun {h'} V' => ?_⟩
  obtain ⟨a', cs', q1, _, q3, q4⟩ := V'.2 i.toNat x hx
  rw [h1] at q1
  have e := Option.some.inj q1
  subst e
  have e2 : cs' = enc x := q3
  subst e2
  exact q4
theorem set_same {xs : List α} {n : Nat} {x : α} (hx : xs[n]? = some x) : xs.set n x = xs := by
  obtain ⟨h, e⟩ := List.getElem?_eq_some_iff.1 hx
  rw [← e]
  exact List.set_getElem_self h
theorem map_set_fst {xs : List (Nat × β)} {n : Nat} {b : Nat} {x y : β} (hx : xs[n]? = some (b, x)) : (xs.set n (b, y)).map (·.1) = xs.map (·.1) := by
  rw [List.map_set]
  exact set_same (by simp [hx])
theorem Sat.cells {h0 h : Heap} {L : List Res} (O : Sat h0 h L) (i : Nat) {b : Nat} {cs : List Value} (hi : nth i L = own b cs) (o n : Nat) : cellsAre h (pt b o) ((cs.drop o).take n) := cellsAre_blk (O.blk (nth_lt hi) hi).2 o n
theorem ixA_of_ixS {sz n c : Nat} {a : Addr} {i : Int} {K : Addr → Prop} (h : ixS sz ⟨some a, n, c⟩ i K) : ixA sz a n i K := by
  obtain ⟨a', h1, h2, h3, h4⟩ := h
  have e : a = a' := Option.some.inj h1
  subst e
  exact ⟨h2, h3, h4⟩
theorem Sat.arr {h0 h : Heap} {L : List Res} (O : Sat h0 h L) (i : Nat) {sz b : Nat} {enc : α → List Value} {xs : List α} (he : ∀ x, (enc x).length = sz) (hi : nth i L = own b (xs.flatMap enc)) : View h sz (En enc) ⟨some (pt b 0), xs.length, xs.length⟩ xs := by
  have B := (O.blk (nth_lt hi) hi).2
  rw [← List.append_nil (xs.flatMap enc)] at B
  exact view_of_blk he B
/-- An array's element of one cell is read. -/
theorem Sat.getA {h0 h : Heap} {L : List Res} (O : Sat h0 h L) (j : Nat) {b n : Nat} {enc : α → List Value} {xs : List α} {i : Int} {k : Kd} {K : k.T → Prop} {x : α} (he : ∀ x, (enc x).length = 1) (hj : nth j L = own b (xs.flatMap enc)) (hn : n = xs.length) (h0 : 0 ≤ i) (hx : xs[i.toNat]? = some x) (f : α → k.T) (hf : ∀ x, enc x = [k.enc (f x)])
    (kk : K (f x)) : ixA 1 (pt b 0) n i fun a => V.ld [k] a h K := by
  subst hn
  exact ixA_of_ixS ((O.arr j he hj).get1 h0 hx f hf kk)
/-- An array's element of one cell is read, and lies there for as long as the array is kept. -/
theorem Sat.getA' {h0 h : Heap} {L : List Res} (O : Sat h0 h L) (j : Nat) {b n : Nat} {enc : α → List Value} {xs : List α} {i : Int} {k : Kd} {K : Addr → k.T → Prop} {x : α} (he : ∀ x, (enc x).length = 1) (hj : nth j L = own b (xs.flatMap enc)) (hn : n = xs.length) (h0 : 0 ≤ i) (hx : xs[i.toNat]? = some x) (f : α → k.T) (hf : ∀ x, enc x = [k.enc (f x)])
    (kk : ∀ a, (∀ {h0' h' : Heap} {L' : List Res}, Sat h0' h' L' → ∀ j', nth j' L' = own b (xs.flatMap enc) → cellsAre h' a (enc x)) → K a (f x)) : ixA 1 (pt b 0) n i fun a => V.ld [k] a h (K a) := by
  subst hn
  have hl := (List.getElem?_eq_some_iff.1 hx).1
  refine ⟨h0, by omega, ?_⟩
  have hc : ∀ {h0' h' : Heap} {L' : List Res}, Sat h0' h' L' → ∀ j', nth j' L' = own b (xs.flatMap enc) → cellsAre h' ((pt b 0).add (i.toNat * 1)) (enc x) := by
    intro h0' h' L' O' j' hj'
    obtain ⟨a, cs, h1, _, h3, h4⟩ := (O'.arr j' he hj').2 i.toNat x hx
    have e : pt b 0 = a := Option.some.inj h1
    subst e
    have e2 : cs = enc x := h3
    subst e2
    exact h4
  have h1 := hc O j hj
  rw [hf] at h1
  exact ld_are h1 (ldL_c (ldL_n (kk _ hc)))
/-- An array's element of one cell is written. -/
theorem Sat.putA {h0 h : Heap} {L : List Res} {b n : Nat} {enc : α → List Value} {xs : List α} {i : Int} {K : Heap → Prop} (O : Sat h0 h (own b (xs.flatMap enc) :: L)) (he : ∀ x, (enc x).length = 1) (ho : ∀ x, (enc x).all oneV = true) (hn : n = xs.length)
    (hi0 : 0 ≤ i) (hi1 : i < (xs.length : Int)) (y : α) {cs : List Value} (hcs : cs = enc y) (k : ∀ h', Sat h0 h' (own b ((xs.set i.toNat y).flatMap enc) :: L) → K h') : ixA 1 (pt b 0) n i fun a => V.st a cs h K := by
  subst hcs hn
  refine ⟨hi0, hi1, ?_⟩
  rw [pt_add, Nat.zero_add, Nat.mul_one]
  have hl := flatMap_len he xs
  refine O.st 0 rfl (by rw [he, hl]; omega) (ho y) fun h' O => ?_
  have e := set_flat1 he xs [] i.toNat y (by omega)
  rw [List.append_nil, List.append_nil] at e
  rw [e] at O
  exact k _ O
theorem Fit.i {h : Heap} {N : Nat} {k : IntKind} {b : Ty} {cs : List Value} (F : Fit h N (.cons (.int k) b) cs) : ∃ x c, cs = .int k x :: c ∧ k.min ≤ x ∧ x ≤ k.max ∧ Fit h N b c := by
  obtain ⟨_, c, rfl, _, ⟨x, rfl, h1, h2⟩, F⟩ := F
  exact ⟨x, c, rfl, h1, h2, F⟩
theorem Fit.b {h : Heap} {N : Nat} {b : Ty} {cs : List Value} (F : Fit h N (.cons .bool b) cs) : ∃ x c, cs = .bool x :: c ∧ Fit h N b c := by
  obtain ⟨_, c, rfl, _, ⟨x, rfl⟩, F⟩ := F
  exact ⟨x, c, rfl, F⟩
theorem Fit.a {h : Heap} {N : Nat} {b : Ty} {cs : List Value} (F : Fit h N (.cons .str b) cs) : ∃ (x : ByteArray) (c : List Value), cs = .string x :: c ∧ x.size ≤ N ∧ Fit h N b c := by
  obtain ⟨_, c, rfl, _, ⟨x, rfl, h1⟩, F⟩ := F
  exact ⟨x, c, rfl, h1, F⟩
theorem Fit.s {h : Heap} {N sz bts : Nat} {e b : Ty} {cs : List Value} (F : Fit h N (.cons (.sl sz bts e) b) cs) : ∃ (s : Sl) (c : List Value), cs = .slice s.ptr s.len s.cap :: c ∧ (SlN h N sz bts s fun cs => Fit h N e cs) ∧ Fit h N b c := by
  obtain ⟨_, c, rfl, _, ⟨x, rfl, h1⟩, F⟩ := F
  exact ⟨x, c, rfl, h1, F⟩
theorem Fit.g {h : Heap} {N : Nat} {x y b : Ty} {cs : List Value} (F : Fit h N (.cons (.cons x y) b) cs) : Fit h N (.cons x (.cons y b)) cs := by
  obtain ⟨_, c, rfl, hl, ⟨c1, c2, rfl, h1, F1, F2⟩, F⟩ := F
  refine ⟨c1, c2 ++ c, by rw [List.append_assoc], h1, F1, c2, c, rfl, ?_, F2, F⟩
  rw [List.length_append, h1] at hl
  simp only [Ty.size] at hl
  omega
theorem Fit.z {h : Heap} {N : Nat} {b : Ty} {cs : List Value} (F : Fit h N (.cons .nil b) cs) : Fit h N b cs := by
  obtain ⟨_, c, rfl, _, rfl, F⟩ := F
  exact F
theorem Fit.e {h : Heap} {N : Nat} {cs : List Value} (F : Fit h N .nil cs) : cs = [] := F
theorem okv_one {P : Program} {h : Heap} {N : Nat} {t : TypeId} {k : IntKind} {v : Value} (hu : P.underlying t = some (.int k)) (hv : okv P t v) (F : Fit h N (.int k) v.cells.toList) : ∃ x, v = .int k x ∧ k.min ≤ x ∧ x ≤ k.max := by
  obtain ⟨x, hx, h1, h2⟩ := F
  unfold okv at hv
  rw [hu] at hv
  refine ⟨x, ?_, h1, h2⟩
  cases v <;> simp [Value.cells] at hx <;> first | exact absurd rfl (hv _) | simp_all
theorem lit_buf {h0 h : Heap} {L : List Res} {b : Nat} {x : UInt8} (O : Sat h0 h (own b [.int .u8 (x.toNat : Int)] :: L)) : Sat h0 h (buf 1 u8 ⟨some (pt b 0), 1, 1⟩ [x] :: L) := by
  have O : Sat h0 h (own b ([x].flatMap u8 ++ []) :: L) := O
  exact (O.own_buf (k := 0) (sz := 1) rfl).bufsI
theorem jn_go {L : Ls} {rest : FnL L} {body : FnL L → Prop} (h : body rest) : jn L rest body := h
theorem al_id {T : TypeId} {cs : List Value} {h : Heap} {K : Addr → Heap → Prop} (k : al T cs h K) : al T cs h K := k
theorem nn_id {p : Option Addr} {K : Addr → Prop} (k : nn p K) : nn p K := k
theorem ld_id {ks : List Kd} {a : Addr} {h : Heap} {K : Fn ks Prop} (k : ld ks a h K) : ld ks a h K := k
theorem st_id {a : Addr} {vs : List Value} {h : Heap} {K : Heap → Prop} (k : st a vs h K) : st a vs h K := k
theorem st_ad {a : Addr} {b o : Nat} {vs : List Value} {h : Heap} {K : Heap → Prop} (e : a = pt b o) (k : st (pt b o) vs h K) : st a vs h K := e ▸ k
theorem ca_id {a : Addr} {vs : List Value} {h : Heap} {p : Prop} (k : cellsAre h a vs ∧ p) : cellsAre h a vs ∧ p := k
theorem Sat.ca {h0 h : Heap} {L : List Res} (O : Sat h0 h L) (i k : Nat) {b o : Nat} {cs : List Value} {p : Prop} (e : nth i L = own b cs) (hp : p) : cellsAre h (pt b o) ((cs.drop o).take k) ∧ p := ⟨cellsAre_blk (O.blk (nth_lt e) e).2 o k, hp⟩
theorem ldL_s {ks : List Kd} {p : Option Addr} {n c : Nat} {vs : List Value} {K : Sl → Fn ks Prop} (k : ldL ks vs (K ⟨p, n, c⟩)) : ldL (.sl :: ks) (.slice p n c :: vs) K := ldL_c (k := .sl) (x := ⟨p, n, c⟩) k
end Go.Proofs.Ytdjhjpckefkolaa.V
namespace Go.Proofs.Ytdjhjpckefkolaa.V
open Go Go.RowKit
set_option linter.unusedVariables false
set_option maxRecDepth 100000
def F_ref0_Cmp.l1 (a1 b2 : Sl) (Q : Int → Heap → Prop) (j3 : Heap → Prop) : Int → Heap → Prop :=
  wl [(5, .one (.int .i64))] (fun (next4 : Int → Heap → Prop) (i5 : Int) (h6 : Heap) =>
  jn [(15, .one .bool)] (fun (x8 : Bool) (h9 : Heap) =>
  brr x8
  (ixS 1 a1 i5 fun (a10 : Addr) =>
  ld [.int .u8] a10 h9 fun (v11 : Int) =>
  ixS 1 b2 i5 fun (a12 : Addr) =>
  ld [.int .u8] a12 h9 fun (v13 : Int) =>
  brr (decide (v11 < v13))
  (Q (-1) h9)
  (ixS 1 a1 i5 fun (a14 : Addr) =>
  ld [.int .u8] a14 h9 fun (v15 : Int) =>
  ixS 1 b2 i5 fun (a16 : Addr) =>
  ld [.int .u8] a16 h9 fun (v17 : Int) =>
  brr (decide (v15 > v17))
  (Q 1 h9)
  (next4 (IntKind.i64.wrap (i5 + 1)) h9)))
  (j3 h9)) (fun (j7 : Bool → Heap → Prop) =>
  brr (decide (i5 < ((a1.len : Nat) : Int)))
  (j7 (decide (i5 < ((b2.len : Nat) : Int))) h6)
  (j7 false h6)))
def F_ref0_Cmp_of  (a1 b2 : Sl) (h : Heap) (Q : Int → Heap → Prop) : Prop :=
  jn [] (fun  (h18 : Heap) =>
  brr (decide (((a1.len : Nat) : Int) < ((b2.len : Nat) : Int)))
  (Q (-1) h18)
  (brr (decide (((a1.len : Nat) : Int) > ((b2.len : Nat) : Int)))
  (Q 1 h18)
  (Q 0 h18))) (fun (j3 : Heap → Prop) =>
  F_ref0_Cmp.l1 a1 b2 Q j3 0 h)
def F_ref0_Cmp (a1 b2 : Sl) (h : Heap) (Q : Int → Heap → Prop) : Prop := F_ref0_Cmp_of  a1 b2 h Q
def plan43 : Plan := .s (.r [0, 1]) (.s (.s (.r [0, 1, 5]) (.bj [] [0, 1] (.l [(5, .one (.int .i64))] [0, 1] (.s (.s (.rj [(15, .one .bool)] [0, 1, 5]) (.c .z .z)) (.s (.b (.s (.s (.d [0, 0, 3, 7, 0, 0, 48, 112, 255] [[0, 1, 2, 3, 4, 5, 6, 7, 8]] [0, 1, 5, 26]) (.c (.s (.r [4]) .z) .z)) (.s (.d [0, 0, 3, 7, 0, 0, 48, 112, 255] [[0, 1, 2, 3, 4, 5, 6, 7, 8]] [0, 1, 5, 35]) (.c (.s (.r [4]) .z) .z)))) (.r [0, 1, 5])))))) (.s (.s (.r [0, 1, 40]) (.c (.s (.r [4]) .z) .z)) (.s (.s (.r [45]) (.c (.s (.r [4]) .z) .z)) (.s (.r [4]) .z))))
theorem F_ref0_Cmp.eq  (a1 b2 : Sl) (h : Heap) (K : Value → Heap → Prop) : F_ref0_Cmp_of  a1 b2 h (fun (r0 : Int) (h : Heap) => K (.int .i64 r0) h) =
    den Try.prog noFns Try.f43.ntmps plan43 (bodyOf Try.f43) (args0 0 [(.slice a1.ptr a1.len a1.cap : Value), (.slice b2.ptr b2.len b2.cap : Value)]) h ⟨fun env h => dRes Try.prog Try.f43.results.toList env h K, fun _ _ _ => False, fun env h => dRes Try.prog Try.f43.results.toList env h K⟩ := by kernel_rfl
def E_ref0_Cmp_of (f : Sl → Sl → Heap → (Int → Heap → Prop) → Prop) : List Value → Heap → (Value → Heap → Prop) → Prop
  | [v0, v1], h, K => dec1 .sl v0 fun (a1 : Sl) =>
  dec1 .sl v1 fun (b2 : Sl) =>
  f a1 b2 h (fun (r0 : Int) (h : Heap) => K (.int .i64 r0) h)
  | _, _, _ => False
abbrev E_ref0_Cmp := E_ref0_Cmp_of F_ref0_Cmp
theorem E_ref0_Cmp.right : IsRight Try.prog 43 E_ref0_Cmp := by
  refine isRight fun vs K w hh => ?_
  match vs, hh with
  | [v0, v1], hh =>
    unfold E_ref0_Cmp E_ref0_Cmp_of at hh
    replace hh := dec1_sound hh; obtain ⟨a1, rfl, hh⟩ := hh
    replace hh := dec1_sound hh; obtain ⟨b2, rfl, hh⟩ := hh
    unfold F_ref0_Cmp at hh
    exact calls_den noFns_right plan43 _ w K Try.func43 (by kernel_rfl) (by kernel_rfl) (Eq.mp (F_ref0_Cmp.eq  a1 b2 w.heap K) hh)
theorem ok43 : okFn Try.prog 43 = true := by kernel_rfl
end Go.Proofs.Ytdjhjpckefkolaa.V
namespace Go.Proofs.Ytdjhjpckefkolaa.V
open Go Go.RowKit
set_option linter.unusedVariables false
set_option maxRecDepth 100000
def F_ref0_Eq_of (f43_ : Sl → Sl → Heap → (Int → Heap → Prop) → Prop) (a1 b2 : Sl) (h : Heap) (Q : Bool → Heap → Prop) : Prop :=
  f43_ a1 b2 h fun (r3 : Int) (h4 : Heap) =>
  Q (r3 == 0) h4
def F_ref0_Eq (a1 b2 : Sl) (h : Heap) (Q : Bool → Heap → Prop) : Prop := F_ref0_Eq_of F_ref0_Cmp a1 b2 h Q
def plan17 : Plan := .s (.r [0, 1]) (.s (.r [4]) .z)
theorem F_ref0_Eq.eq (f43_ : Sl → Sl → Heap → (Int → Heap → Prop) → Prop) (a1 b2 : Sl) (h : Heap) (K : Value → Heap → Prop) : F_ref0_Eq_of f43_ a1 b2 h (fun (r0 : Bool) (h : Heap) => K (.bool r0) h) =
    den Try.prog (fn1 43 (E_ref0_Cmp_of f43_) noFns) Try.f17.ntmps plan17 (bodyOf Try.f17) (args0 0 [(.slice a1.ptr a1.len a1.cap : Value), (.slice b2.ptr b2.len b2.cap : Value)]) h ⟨fun env h => dRes Try.prog Try.f17.results.toList env h K, fun _ _ _ => False, fun env h => dRes Try.prog Try.f17.results.toList env h K⟩ := by kernel_rfl
def E_ref0_Eq_of (f : Sl → Sl → Heap → (Bool → Heap → Prop) → Prop) : List Value → Heap → (Value → Heap → Prop) → Prop
  | [v0, v1], h, K => dec1 .sl v0 fun (a1 : Sl) =>
  dec1 .sl v1 fun (b2 : Sl) =>
  f a1 b2 h (fun (r0 : Bool) (h : Heap) => K (.bool r0) h)
  | _, _, _ => False
abbrev E_ref0_Eq := E_ref0_Eq_of F_ref0_Eq
theorem E_ref0_Eq.right : IsRight Try.prog 17 E_ref0_Eq := by
  refine isRight fun vs K w hh => ?_
  match vs, hh with
  | [v0, v1], hh =>
    unfold E_ref0_Eq E_ref0_Eq_of at hh
    replace hh := dec1_sound hh; obtain ⟨a1, rfl, hh⟩ := hh
    replace hh := dec1_sound hh; obtain ⟨b2, rfl, hh⟩ := hh
    unfold F_ref0_Eq at hh
    exact calls_den (fn1_right ok43 E_ref0_Cmp.right noFns_right) plan17 _ w K Try.func17 (by kernel_rfl) (by kernel_rfl) (Eq.mp (F_ref0_Eq.eq F_ref0_Cmp a1 b2 w.heap K) hh)
theorem ok17 : okFn Try.prog 17 = true := by kernel_rfl
end Go.Proofs.Ytdjhjpckefkolaa.V
namespace Go.Proofs.Ytdjhjpckefkolaa.V
open Go Go.RowKit
set_option linter.unusedVariables false
set_option maxRecDepth 100000
def F_ref0_Copy_of  (b1 : Sl) (h : Heap) (Q : Sl → Heap → Prop) : Prop :=
  mk 5 1 1 (.int .u8 0) ((b1.len : Nat) : Int) ((b1.len : Nat) : Int) h fun (s2 : Sl) (h3 : Heap) =>
  cpy 1 s2 b1.ptr b1.len h3 fun (h5 : Heap) =>
  Q s2 h5
def F_ref0_Copy (b1 : Sl) (h : Heap) (Q : Sl → Heap → Prop) : Prop := F_ref0_Copy_of  b1 h Q
def plan6 : Plan := .s (.r [0]) (.s (.r [0, 3]) (.s (.r [3]) (.s (.r [2]) .z)))
theorem F_ref0_Copy.eq  (b1 : Sl) (h : Heap) (K : Value → Heap → Prop) : F_ref0_Copy_of  b1 h (fun (r0 : Sl) (h : Heap) => K (.slice r0.ptr r0.len r0.cap) h) =
    den Try.prog noFns Try.f6.ntmps plan6 (bodyOf Try.f6) (args0 0 [(.slice b1.ptr b1.len b1.cap : Value)]) h ⟨fun env h => dRes Try.prog Try.f6.results.toList env h K, fun _ _ _ => False, fun env h => dRes Try.prog Try.f6.results.toList env h K⟩ := by kernel_rfl
def E_ref0_Copy_of (f : Sl → Heap → (Sl → Heap → Prop) → Prop) : List Value → Heap → (Value → Heap → Prop) → Prop
  | [v0], h, K => dec1 .sl v0 fun (b1 : Sl) =>
  f b1 h (fun (r0 : Sl) (h : Heap) => K (.slice r0.ptr r0.len r0.cap) h)
  | _, _, _ => False
abbrev E_ref0_Copy := E_ref0_Copy_of F_ref0_Copy
theorem E_ref0_Copy.right : IsRight Try.prog 6 E_ref0_Copy := by
  refine isRight fun vs K w hh => ?_
  match vs, hh with
  | [v0], hh =>
    unfold E_ref0_Copy E_ref0_Copy_of at hh
    replace hh := dec1_sound hh; obtain ⟨b1, rfl, hh⟩ := hh
    unfold F_ref0_Copy at hh
    exact calls_den noFns_right plan6 _ w K Try.func6 (by kernel_rfl) (by kernel_rfl) (Eq.mp (F_ref0_Copy.eq  b1 w.heap K) hh)
theorem ok6 : okFn Try.prog 6 = true := by kernel_rfl
end Go.Proofs.Ytdjhjpckefkolaa.V
namespace Go.Proofs.Ytdjhjpckefkolaa.V
open Go Go.RowKit
set_option linter.unusedVariables false
set_option maxRecDepth 100000
def F_law1_Lend_of  (b1 : Sl) (h : Heap) (Q : Sl → Heap → Prop) : Prop :=
  app 5 1 1 (.int .u8 0) (⟨none, 0, 0⟩ : Sl) b1.ptr b1.len h fun (s2 : Sl) (h3 : Heap) =>
  al 5 [.int .u8 165, .int .u8 90, .int .u8 165] h3 fun (a4 : Addr) (h5 : Heap) =>
  app 5 1 1 (.int .u8 0) s2 (some a4) 3 h5 fun (s6 : Sl) (h7 : Heap) =>
  slTo s6 ((b1.len : Nat) : Int) fun (s8 : Sl) =>
  Q s8 h7
def F_law1_Lend (b1 : Sl) (h : Heap) (Q : Sl → Heap → Prop) : Prop := F_law1_Lend_of  b1 h Q
def plan19 : Plan := .s (.r [0]) (.s (.r [0, 3]) (.s (.r [0, 3]) (.s (.r [0, 3]) (.s (.r [2]) .z))))
theorem F_law1_Lend.eq  (b1 : Sl) (h : Heap) (K : Value → Heap → Prop) : F_law1_Lend_of  b1 h (fun (r0 : Sl) (h : Heap) => K (.slice r0.ptr r0.len r0.cap) h) =
    den Try.prog noFns Try.f19.ntmps plan19 (bodyOf Try.f19) (args0 0 [(.slice b1.ptr b1.len b1.cap : Value)]) h ⟨fun env h => dRes Try.prog Try.f19.results.toList env h K, fun _ _ _ => False, fun env h => dRes Try.prog Try.f19.results.toList env h K⟩ := by kernel_rfl
def E_law1_Lend_of (f : Sl → Heap → (Sl → Heap → Prop) → Prop) : List Value → Heap → (Value → Heap → Prop) → Prop
  | [v0], h, K => dec1 .sl v0 fun (b1 : Sl) =>
  f b1 h (fun (r0 : Sl) (h : Heap) => K (.slice r0.ptr r0.len r0.cap) h)
  | _, _, _ => False
abbrev E_law1_Lend := E_law1_Lend_of F_law1_Lend
theorem E_law1_Lend.right : IsRight Try.prog 19 E_law1_Lend := by
  refine isRight fun vs K w hh => ?_
  match vs, hh with
  | [v0], hh =>
    unfold E_law1_Lend E_law1_Lend_of at hh
    replace hh := dec1_sound hh; obtain ⟨b1, rfl, hh⟩ := hh
    unfold F_law1_Lend at hh
    exact calls_den noFns_right plan19 _ w K Try.func19 (by kernel_rfl) (by kernel_rfl) (Eq.mp (F_law1_Lend.eq  b1 w.heap K) hh)
theorem ok19 : okFn Try.prog 19 = true := by kernel_rfl
end Go.Proofs.Ytdjhjpckefkolaa.V
namespace Go.Proofs.Ytdjhjpckefkolaa.V
open Go Go.RowKit
set_option linter.unusedVariables false
set_option maxRecDepth 100000
def F_law1_Intact_of  (l1 b2 : Sl) (h : Heap) (Q : Bool → Heap → Prop) : Prop :=
  b2s l1.ptr l1.len h fun (s3 : ByteArray) =>
  b2s b2.ptr b2.len h fun (s4 : ByteArray) =>
  brr (!(s3.toList == s4.toList))
  (Q false h)
  (slTo l1 (IntKind.i64.wrap (((l1.len : Nat) : Int) + 3)) fun (s5 : Sl) =>
  jn [(4, .one .bool)] (fun (x13 : Bool) (h14 : Heap) =>
  Q x13 h14) (fun (j6 : Bool → Heap → Prop) =>
  ixS 1 s5 ((l1.len : Nat) : Int) fun (a7 : Addr) =>
  ld [.int .u8] a7 h fun (v8 : Int) =>
  brr (v8 == 165)
  (ixS 1 s5 (IntKind.i64.wrap (((l1.len : Nat) : Int) + 1)) fun (a9 : Addr) =>
  ld [.int .u8] a9 h fun (v10 : Int) =>
  brr (v10 == 90)
  (ixS 1 s5 (IntKind.i64.wrap (((l1.len : Nat) : Int) + 2)) fun (a11 : Addr) =>
  ld [.int .u8] a11 h fun (v12 : Int) =>
  j6 (v12 == 165) h)
  (j6 false h))
  (j6 false h)))
def F_law1_Intact (l1 b2 : Sl) (h : Heap) (Q : Bool → Heap → Prop) : Prop := F_law1_Intact_of  l1 b2 h Q
def plan32 : Plan := .s (.r [0, 1]) (.s (.s (.r [0, 10]) (.c (.s (.r [4]) .z) .z)) (.s (.r [0, 5]) (.s (.rj [(4, .one .bool)] []) .z)))
theorem F_law1_Intact.eq  (l1 b2 : Sl) (h : Heap) (K : Value → Heap → Prop) : F_law1_Intact_of  l1 b2 h (fun (r0 : Bool) (h : Heap) => K (.bool r0) h) =
    den Try.prog noFns Try.f32.ntmps plan32 (bodyOf Try.f32) (args0 0 [(.slice l1.ptr l1.len l1.cap : Value), (.slice b2.ptr b2.len b2.cap : Value)]) h ⟨fun env h => dRes Try.prog Try.f32.results.toList env h K, fun _ _ _ => False, fun env h => dRes Try.prog Try.f32.results.toList env h K⟩ := by kernel_rfl
def E_law1_Intact_of (f : Sl → Sl → Heap → (Bool → Heap → Prop) → Prop) : List Value → Heap → (Value → Heap → Prop) → Prop
  | [v0, v1], h, K => dec1 .sl v0 fun (l1 : Sl) =>
  dec1 .sl v1 fun (b2 : Sl) =>
  f l1 b2 h (fun (r0 : Bool) (h : Heap) => K (.bool r0) h)
  | _, _, _ => False
abbrev E_law1_Intact := E_law1_Intact_of F_law1_Intact
theorem E_law1_Intact.right : IsRight Try.prog 32 E_law1_Intact := by
  refine isRight fun vs K w hh => ?_
  match vs, hh with
  | [v0, v1], hh =>
    unfold E_law1_Intact E_law1_Intact_of at hh
    replace hh := dec1_sound hh; obtain ⟨l1, rfl, hh⟩ := hh
    replace hh := dec1_sound hh; obtain ⟨b2, rfl, hh⟩ := hh
    unfold F_law1_Intact at hh
    exact calls_den noFns_right plan32 _ w K Try.func32 (by kernel_rfl) (by kernel_rfl) (Eq.mp (F_law1_Intact.eq  l1 b2 w.heap K) hh)
theorem ok32 : okFn Try.prog 32 = true := by kernel_rfl
end Go.Proofs.Ytdjhjpckefkolaa.V
/- Lists of bytes: compared, copied, lent with marks in their spare room, laid over. -/
namespace Go.Proofs.Ytdjhjpckefkolaa.V
open Go Go.RowKit
set_option linter.unusedVariables false
set_option linter.unusedSimpArgs false
variable {α : Type}
theorem take_succ_eq {xs : List α} {i : Nat} {x : α} (h : xs[i]? = some x) : xs.take (i + 1) = xs.take i ++ [x] := by rw [List.take_add_one, h]; rfl
theorem F_ref0_Cmp.is {h : Heap} {a b : Sl} {xs ys : List UInt8} {Q : Int → Heap → Prop} (V1 : Bytes h a xs) (V2 : Bytes h b ys) (h1 : xs.length < 4611686018427387904) (h2 : ys.length < 4611686018427387904) (k : ∀ r : Int, (r = 0 ↔ xs = ys) → Q r h) : F_ref0_Cmp a b h Q := by
  rw [F_ref0_Cmp.eq_1, F_ref0_Cmp_of.eq_1]
  rw [V1.len, V2.len]
  refine jn0 (fun h' => h' = h ∧ ∃ i, xs.take i = ys.take i ∧ (xs.length ≤ i ∨ ys.length ≤ i)) ?_ ?_
  · rintro h ⟨rfl, i, he, hi⟩
    refine brr_p (fun hlt => ?_) (fun hlt => ?_)
    · exact k _ ⟨fun h => (by cases h), fun h => by subst h; omega⟩
    · refine brr_p (fun hgt => ?_) (fun hgt => ?_)
      · exact k _ ⟨fun h => (by cases h), fun h => by subst h; omega⟩
      · refine k _ ⟨fun _ => ?_, fun _ => rfl⟩
        rw [List.take_of_length_le (by omega), List.take_of_length_le (by omega)] at he
        exact he
  · intro j hj
    rw [F_ref0_Cmp.l1.eq_1]
    refine wl1 (k := .int .i64) (fun (m : Nat) (i : Int) (h' : Heap) => h' = h ∧ 0 ≤ i ∧ i ≤ xs.length ∧ i + m = xs.length ∧ xs.take i.toNat = ys.take i.toNat) ?_ (m := xs.length) ⟨rfl, by omega, by omega, by omega, by simp⟩
    rintro m (i : Int) h next hn ⟨rfl, hi0, hi1, him, he⟩
    rw [V1.len, V2.len]
    refine jn1 (fun t h' => h' = h ∧ (t = true → i < xs.length ∧ i < ys.length) ∧ (t = false → (xs.length : Int) ≤ i ∨ (ys.length : Int) ≤ i)) ?_ ?_
    · rintro t h ⟨rfl, ht, hf⟩
      refine brr_of (fun e => ?_) (fun e => ?_)
      · obtain ⟨hx, hy⟩ := ht e
        refine Bytes.at V1 hi0 hx fun x hxx => ?_
        refine Bytes.at V2 hi0 hy fun y hyy => ?_
        have hne : x ≠ y → xs ≠ ys := fun hxy hs => by
          subst hs
          rw [hxx] at hyy
          exact hxy (Option.some.inj hyy)
        refine brr_p (fun hlt => ?_) (fun hlt => ?_)
        · exact k _ ⟨fun h => (by cases h), fun h => absurd h (hne (by intro h; subst h; omega))⟩
        · refine Bytes.at V1 hi0 hx fun x' hxx' => ?_
          refine Bytes.at V2 hi0 hy fun y' hyy' => ?_
          obtain rfl : x = x' := by rw [hxx] at hxx'; exact Option.some.inj hxx'
          obtain rfl : y = y' := by rw [hyy] at hyy'; exact Option.some.inj hyy'
          refine brr_p (fun hgt => ?_) (fun hgt => ?_)
          · exact k _ ⟨fun h => (by cases h), fun h => absurd h (hne (by intro h; subst h; omega))⟩
          · have hxy : x = y := UInt8.toNat.inj (by omega)
            rw [wrap64 (by omega) (by omega)]
            refine hn (m - 1) _ _ (by omega) ⟨rfl, by omega, by omega, by omega, ?_⟩
            rw [show (i + 1).toNat = i.toNat + 1 by omega, take_succ_eq hxx, take_succ_eq hyy, he, hxy]
      · refine hj _ ⟨rfl, i.toNat, he, ?_⟩
        rcases hf e with h | h
        · exact .inl (by omega)
        · exact .inr (by omega)
    · intro j2 hj2
      refine brr_p (fun hlt => ?_) (fun hlt => ?_)
      · refine hj2 _ _ ⟨rfl, fun e => ⟨hlt, by simpa using e⟩, fun e => .inr (by simpa using e)⟩
      · exact hj2 _ _ ⟨rfl, fun e => (by cases e), fun _ => .inl (by omega)⟩
theorem F_ref0_Eq.is {h : Heap} {a b : Sl} {xs ys : List UInt8} {Q : Bool → Heap → Prop} (V1 : Bytes h a xs) (V2 : Bytes h b ys) (h1 : xs.length < 4611686018427387904) (h2 : ys.length < 4611686018427387904) (k : Q (decide (xs = ys)) h) : F_ref0_Eq a b h Q := by
  rw [F_ref0_Eq.eq_1, F_ref0_Eq_of.eq_1]
  refine F_ref0_Cmp.is V1 V2 h1 h2 fun r hr => ?_
  have e : (r == 0) = decide (xs = ys) := by
    by_cases h : xs = ys
    · simp [h, hr.2 h]
    · have : r ≠ 0 := fun e => h (hr.1 e)
      simp [h, this]
  rw [e]
  exact k
theorem put_all {cs vs : List Value} (h : vs.length = cs.length) : V.put cs 0 vs = vs := by
  have := put_app [] cs vs (by omega)
  simp only [List.nil_append, List.length_nil] at this
  rw [this, h]; simp
theorem flat_u8 (l : List UInt8) : (l.flatMap u8).length = l.length := by rw [flatMap_len u8_len]; omega
theorem all_one {enc : α → List Value} (ho : ∀ x, (enc x).all oneV = true) (xs : List α) : (xs.flatMap enc).all oneV = true := by
  simp only [List.all_eq_true, List.mem_flatMap]
  rintro v ⟨x, _, hv⟩
  exact List.all_eq_true.1 (ho x) v hv
theorem F_ref0_Copy.is {h0 h : Heap} {L : List Res} {a : Sl} {xs : List UInt8} {Q : Sl → Heap → Prop} (O : Sat h0 h L) (V1 : Bytes h a xs) (h1 : xs.length ≤ 281474976710656) (k : ∀ s h', Sat h0 h' (buf 1 u8 s xs :: L) → s.len = xs.length → s.ptr ≠ none → Q s h') : F_ref0_Copy a h Q := by
  rw [F_ref0_Copy.eq_1, F_ref0_Copy_of.eq_1]
  have hl := V1.len
  refine (Sat.nil h).mk_buf (by omega) (by omega) (by omega) fun b h2 N => ?_
  refine ⟨xs.flatMap u8, ?_, ?_⟩
  · have := (V1.kept N.kept).rd u8_len
    rw [show Nat.min a.len ((a.len : Int).toNat) = a.len by simp]
    exact this
  · simp only [stP]
    have O := O.stack N
    refine O.st 0 rfl (by rw [flat_u8, mkCells_len]; omega) (all_one u8_one xs) fun h3 O => ?_
    have O : Sat h0 h3 (own b (V.put (mkCells (Value.int .u8 0) ((a.len : Int).toNat * 1)) 0 (xs.flatMap u8)) :: L) := O
    rw [put_all (by rw [flat_u8, mkCells_len]; omega)] at O
    have O : Sat h0 h3 (own b (xs.flatMap u8 ++ []) :: L) := by rw [List.append_nil]; exact O
    have O := O.own_buf (k := 0) (sz := 1) (by simp)
    refine k _ _ ?_ (by simp [hl]) (by simp)
    have e : (⟨some (pt b 0), (a.len : Int).toNat, (a.len : Int).toNat⟩ : Sl) = ⟨some (pt b 0), xs.length, xs.length + 0⟩ := by simp [hl]
    rw [e]
    exact O.bufsI
def marks : List UInt8 := [165, 90, 165]
def lent (s : Sl) (xs : List UInt8) : Res := ex fun sp => bufs 1 u8 s xs (marks.flatMap u8 ++ sp)
theorem lent.split {s : Sl} {xs : List UInt8} {E : Blks} (h : lent s xs E) : ∃ b k sp, s = ⟨some (pt b 0), xs.length, xs.length + k⟩ ∧ 3 ≤ k ∧ E = [(b, (xs ++ marks).flatMap u8 ++ sp)] ∧ sp.length + 3 = k := by
  obtain ⟨sp, h⟩ := h
  rcases h with ⟨_, _, h, _⟩ | ⟨b, k, rfl, h2, rfl⟩
  · simp [marks, u8] at h
  · rw [List.length_append, flat_u8] at h2
    have : marks.length = 3 := rfl
    exact ⟨b, k, sp, rfl, by omega, by rw [List.flatMap_append, List.append_assoc], by omega⟩
theorem Sat.lent {h0 h : Heap} {L : List Res} (O : Sat h0 h L) (i : Nat) {s : Sl} {xs : List UInt8} (hl : i < L.length) (hi : nth i L = V.lent s xs) : Bytes h s xs ∧ s.len + 3 ≤ s.cap ∧ Bytes h ⟨s.ptr, s.len + 3, s.cap⟩ (xs ++ marks) := by
  obtain ⟨E1, E2, h1, O', _⟩ := O.at i hl
  rw [hi] at h1
  obtain ⟨b, k, sp, rfl, hk, rfl, _⟩ := lent.split h1
  have B := (O'.blk _ List.mem_cons_self).2
  have e : (xs ++ marks).length = xs.length + 3 := by simp [marks]
  have V3 := view_of_blk (k := xs.length + k) u8_len B
  rw [e] at V3
  refine ⟨?_, by simp; omega, V3⟩
  rw [List.flatMap_append, List.append_assoc] at B
  exact view_of_blk u8_len B
theorem b2s_view {h : Heap} {s : Sl} {l : List UInt8} {K : ByteArray → Prop} (V1 : Bytes h s l) (k : K ⟨l.toArray⟩) : b2s s.ptr s.len h K := by
  refine ⟨l.map fun x => (x.toNat : Int), ?_, ?_⟩
  · have := V1.rd u8_len
    rw [Nat.mul_one] at this
    rw [this]
    congr 1
    rw [List.map_map]
    induction l with
    | nil => rfl
    | cons x l ih =>
      rw [List.flatMap_cons, List.map_cons, ih' l]
      rfl
  · have e : bytesOfInts (l.map fun x => (x.toNat : Int)) = ⟨l.toArray⟩ := by
      unfold bytesOfInts
      congr 2
      rw [List.map_map]
      conv => rhs; rw [← List.map_id l]
      congr 1
      funext x
      simp
    rw [e]; exact k
where ih' : ∀ l : List UInt8, l.flatMap u8 = l.map (Value.int .u8 ∘ fun x => (x.toNat : Int))
  | [] => rfl
  | x :: l => by rw [List.flatMap_cons, List.map_cons, ih' l]; rfl
theorem bytes_toList (l : List UInt8) : (⟨l.toArray⟩ : ByteArray).toList = l := by rw [ByteArray.toList_eq]
theorem Sat.lendI {h0 h : Heap} {L : List Res} {s : Sl} {xs : List UInt8} (O : Sat h0 h (buf 1 u8 s (xs ++ marks) :: L)) : Sat h0 h (V.lent ⟨s.ptr, xs.length, s.cap⟩ xs :: L) := by
  refine O.mono fun E hE => ?_
  obtain ⟨sp, hE⟩ := hE
  rcases hE with ⟨_, h, _, _⟩ | ⟨b, k, rfl, h2, rfl⟩
  · simp [marks] at h
  · refine ⟨sp, .inr ⟨b, k + 3, ?_, ?_, ?_⟩⟩
    · simp [marks]; omega
    · rw [List.length_append, flat_u8, h2]
      show 3 + k * 1 = (k + 3) * 1
      omega
    · rw [List.flatMap_append, List.append_assoc]
theorem F_law1_Lend.is {h0 h : Heap} {L : List Res} {a : Sl} {xs : List UInt8} {Q : Sl → Heap → Prop} (O : Sat h0 h L) (V1 : Bytes h a xs) (h1 : xs.length + 3 ≤ 140737488355328) (k : ∀ s h', Sat h0 h' (lent s xs :: L) → s.len = xs.length → Q s h') : F_law1_Lend a h Q := by
  rw [F_law1_Lend.eq_1, F_law1_Lend_of.eq_1]
  have hl := V1.len
  have O := O.nil_buf (sz := 1) (enc := u8)
  refine O.app_buf u8_len u8_one rfl (ys := xs) hl (V1.rd u8_len) (by simp; omega) fun s2 h2 O hs2 => ?_
  have O := O
  rw [List.nil_append] at O
  refine O.al fun b h3 O => ?_
  have O := O.swap
  refine O.app_buf u8_len u8_one rfl (ys := marks) rfl ?_ (by simp [marks]; omega) fun s4 h4 O hs4 => ?_
  · have := rdP_own O.swap 0 rfl 3 (by simp)
    exact this
  · have O := O.swap.drop
    have hv := (O.view 0 u8_len (by simp) rfl).2
    have O := O.lendI
    refine ⟨by omega, ?_, ?_⟩
    · rw [hl, hs4] at *; simp [marks] at hv; omega
    · rw [hl]
      exact k _ _ O rfl
theorem F_law1_Intact.is {h0 h : Heap} {L : List Res} (O : Sat h0 h L) (i : Nat) {s b : Sl} {xs ys : List UInt8} {Q : Bool → Heap → Prop} (hi : i < L.length) (hn : nth i L = lent s xs) (V2 : Bytes h b ys) (h1 : xs.length < 4611686018427387904) (k : Q (decide (xs = ys)) h) : F_law1_Intact s b h Q := by
  rw [F_law1_Intact.eq_1, F_law1_Intact_of.eq_1]
  obtain ⟨V1, hc, V3⟩ := O.lent i hi hn
  have hl := V1.len
  refine b2s_view V1 ?_
  refine b2s_view V2 ?_
  rw [bytes_toList, bytes_toList]
  by_cases e : xs = ys
  · rw [show (xs == ys) = true by simpa using e]
    rw [show decide (xs = ys) = true by simpa using e] at k
    refine brr_ff rfl ?_
    rw [wrap64 (x := (s.len : Int) + 3) (by omega) (by omega), wrap64 (x := (s.len : Int) + 1) (by omega) (by omega), wrap64 (x := (s.len : Int) + 2) (by omega) (by omega)]
    refine ⟨by omega, by omega, ?_⟩
    have V3 : Bytes h ⟨s.ptr, ((s.len : Int) + 3).toNat, s.cap⟩ (xs ++ marks) := V3
    refine jn1 (fun t h' => t = true ∧ h' = h) ?_ ?_
    · rintro t h ⟨rfl, rfl⟩
      exact k
    · intro j hj
      have m3 : marks.length = 3 := rfl
      refine Bytes.at V3 (by omega) (by simp; omega) fun x hx => ?_
      have hx' : (xs ++ marks)[xs.length + 0]? = some x := by rw [← hx]; congr 1; omega
      rw [List.getElem?_append_right (by omega)] at hx'
      simp [marks] at hx'; subst hx'
      refine brr_tt (by decide) ?_
      refine Bytes.at V3 (by omega) (by simp; omega) fun x hx => ?_
      have hx' : (xs ++ marks)[xs.length + 1]? = some x := by rw [← hx]; congr 1; omega
      rw [List.getElem?_append_right (by omega)] at hx'
      simp [marks] at hx'; subst hx'
      refine brr_tt (by decide) ?_
      refine Bytes.at V3 (by omega) (by simp; omega) fun x hx => ?_
      have hx' : (xs ++ marks)[xs.length + 2]? = some x := by rw [← hx]; congr 1; omega
      rw [List.getElem?_append_right (by omega)] at hx'
      simp [marks] at hx'; subst hx'
      exact hj _ _ ⟨by decide, rfl⟩
  · rw [show (xs == ys) = false by simpa using e]
    rw [show decide (xs = ys) = false by simpa using e] at k
    exact brr_tt rfl k
/-- A byte of one's own list is written. -/
theorem Sat.putL {h0 h : Heap} {L : List Res} {s : Sl} {xs : List UInt8} {i : Int} {K : Heap → Prop} (O : Sat h0 h (V.lent s xs :: L)) (hi0 : 0 ≤ i) (hi1 : i < (xs.length : Int)) (y : UInt8) {cs : List Value} (hcs : cs = u8 y) (k : ∀ h', Sat h0 h' (V.lent s (xs.set i.toNat y) :: L) → K h') : ixS 1 s i fun a => V.st a cs h K := by
  subst hcs
  obtain ⟨E, ⟨E1, E2, p, hA, h2⟩, O⟩ := O
  have O := O.perm p.symm
  obtain ⟨sp, hA⟩ := hA
  rcases hA with ⟨_, _, h, _⟩ | ⟨b, j, rfl, hsp, rfl⟩
  · simp [marks, u8] at h
  · refine ⟨pt b 0, rfl, hi0, hi1, ?_⟩
    rw [pt_add, Nat.zero_add, Nat.mul_one]
    have hl := flatMap_len u8_len xs
    refine Held.st O (by rw [u8_len, List.length_append, hl]; omega) (u8_one y) fun h' O' => ?_
    rw [set_flat1 u8_len _ _ _ _ (by omega)] at O'
    exact k _ ⟨_, ⟨[(b, _)], E2, List.Perm.refl _, ⟨sp, .inr ⟨b, j, by simp, hsp, rfl⟩⟩, h2⟩, O'⟩
end Go.Proofs.Ytdjhjpckefkolaa.V
/- Arrays that are filled one by one; an array at the head of a struct. -/
namespace Go.Proofs.Ytdjhjpckefkolaa.V
open Go Go.RowKit
set_option linter.unusedVariables false
set_option linter.unusedSimpArgs false
variable {α β : Type}
def optc (o : Option Addr) : List Value := [.pointer o]
theorem optc_len (x : Option Addr) : (optc x).length = 1 := rfl
theorem optc_one (x : Option Addr) : (optc x).all oneV = true := rfl
def natc (x : Nat) : List Value := [.int .i64 (x : Int)]
theorem natc_len (x : Nat) : (natc x).length = 1 := rfl
theorem natc_one (x : Nat) : (natc x).all oneV = true := rfl
theorem set_stage (f : α → β) (xs : List α) (n : Nat) (y : α) (z : β) (h : xs.length < n) : (xs.map f ++ List.replicate (n - xs.length) z).set xs.length (f y) = (xs ++ [y]).map f ++ List.replicate (n - (xs ++ [y]).length) z := by
  obtain ⟨k, hk⟩ : ∃ k, n - xs.length = k + 1 := ⟨n - xs.length - 1, by omega⟩
  have e : n - (xs ++ [y]).length = k := by rw [List.length_append]; simp; omega
  rw [hk, e, List.replicate_succ, List.map_append, List.append_assoc]
  have := List.set_append_right (s := xs.map f) (t := z :: List.replicate k z) xs.length (f y) (by simp)
  rw [this]
  simp
/-- An element of one cell at the head of a block is read, and lies there for as long as the block is kept. -/
theorem Sat.getN {h0 h : Heap} {L : List Res} (O : Sat h0 h L) (j : Nat) {b n : Nat} {enc : α → List Value} {xs : List α} {ys : List Value} {i : Int} {k : Kd} {K : Addr → k.T → Prop} {x : α} (he : ∀ x, (enc x).length = 1) (hj : nth j L = own b (xs.flatMap enc ++ ys)) (h0 : 0 ≤ i) (h1 : i < (n : Int)) (hx : xs[i.toNat]? = some x) (f : α → k.T) (hf : ∀ x, enc x = [k.enc (f x)])
    (kk : ∀ a, (∀ {h0' h' : Heap} {L' : List Res}, Sat h0' h' L' → ∀ j', nth j' L' = own b (xs.flatMap enc ++ ys) → cellsAre h' a (enc x)) → K a (f x)) : ixA 1 (pt b 0) n i fun a => V.ld [k] a h (K a) := by
  have hl := (List.getElem?_eq_some_iff.1 hx).1
  refine ⟨h0, h1, ?_⟩
  have hc : ∀ {h0' h' : Heap} {L' : List Res}, Sat h0' h' L' → ∀ j', nth j' L' = own b (xs.flatMap enc ++ ys) → cellsAre h' ((pt b 0).add (i.toNat * 1)) (enc x) := by
    intro h0' h' L' O' j' hj'
    have V := view_of_blk (k := 0) he (O'.blk (nth_lt hj') hj').2
    obtain ⟨a, cs, h1, _, h3, h4⟩ := V.2 i.toNat x hx
    have e : pt b 0 = a := Option.some.inj h1
    subst e
    have e2 : cs = enc x := h3
    subst e2
    exact h4
  have h1 := hc O j hj
  rw [hf] at h1
  exact ld_are h1 (ldL_c (ldL_n (kk _ hc)))
/-- A lent list is written full. -/
theorem fill_lent {h0 h : Heap} {L : List Res} {s : Sl} {zs : List UInt8} {Q : Heap → Prop} {ii : Nat} (O : Sat h0 h (lent s zs :: L)) (hs : s.len = zs.length) (hz : zs.length ≤ 4611686018427387904) (k : ∀ zs' h', zs'.length = zs.length → Sat h0 h' (lent s zs' :: L) → Q h') :
    wl [(ii, .one (.int .i64))] (fun (next : Int → Heap → Prop) (i : Int) (h : Heap) => brr (decide (i < ((s.len : Nat) : Int))) (ixS 1 s i fun (a : Addr) => st a [.int .u8 238] h fun (h' : Heap) => next (IntKind.i64.wrap (i + 1)) h') (Q h)) 0 h := by
  refine wl1 (k := .int .i64) (fun (m : Nat) (i : Int) (h' : Heap) => 0 ≤ i ∧ i + m = zs.length ∧ ∃ ys : List UInt8, ys.length = zs.length ∧ Sat h0 h' (lent s ys :: L)) ?_ (m := zs.length) ⟨by omega, by omega, zs, rfl, O⟩
  clear O
  intro m (i : Int) h next hn ⟨hi0, him, ys, hy, O⟩
  rw [hs]
  refine brr_p (fun hlt => ?_) (fun hlt => k ys _ hy O)
  refine O.putL hi0 (by omega) 238 rfl fun h O => ?_
  rw [wrap64 (by omega) (by omega)]
  exact hn (m - 1) _ _ (by omega) ⟨by omega, by omega, _, by simp [hy], O⟩
end Go.Proofs.Ytdjhjpckefkolaa.V
namespace Go.Proofs.Ytdjhjpckefkolaa.V
open Go Go.RowKit
set_option linter.unusedVariables false
set_option maxRecDepth 100000
def F_law1_at_of  (n1 k2 : Int) (h : Heap) (Q : Int → Heap → Prop) : Prop :=
  (2 : Int) ≠ 0 ∧
  brr ((k2.tmod 2) == 0)
  ((251 : Int) ≠ 0 ∧
  Q (IntKind.u8.wrap (IntKind.i64.wrap (1 + (n1.tmod 251)))) h)
  ((251 : Int) ≠ 0 ∧
  (251 : Int) ≠ 0 ∧
  Q (IntKind.u8.wrap (IntKind.i64.wrap (1 + ((IntKind.i64.wrap ((IntKind.i64.wrap (7 * n1)) + (IntKind.i64.wrap (n1.tdiv 251)))).tmod 251)))) h)
def F_law1_at (n1 k2 : Int) (h : Heap) (Q : Int → Heap → Prop) : Prop := F_law1_at_of  n1 k2 h Q
def plan48 : Plan := .s (.r [0, 1]) (.s (.s (.r [0, 7]) (.c (.s (.r [4]) .z) .z)) (.s (.r [4]) .z))
theorem F_law1_at.eq  (n1 k2 : Int) (h : Heap) (K : Value → Heap → Prop) : F_law1_at_of  n1 k2 h (fun (r0 : Int) (h : Heap) => K (.int .u8 r0) h) =
    den Try.prog noFns Try.f48.ntmps plan48 (bodyOf Try.f48) (args0 0 [(.int .i64 n1 : Value), (.int .i64 k2 : Value)]) h ⟨fun env h => dRes Try.prog Try.f48.results.toList env h K, fun _ _ _ => False, fun env h => dRes Try.prog Try.f48.results.toList env h K⟩ := by kernel_rfl
def E_law1_at_of (f : Int → Int → Heap → (Int → Heap → Prop) → Prop) : List Value → Heap → (Value → Heap → Prop) → Prop
  | [v0, v1], h, K => dec1 (.int .i64) v0 fun (n1 : Int) =>
  dec1 (.int .i64) v1 fun (k2 : Int) =>
  f n1 k2 h (fun (r0 : Int) (h : Heap) => K (.int .u8 r0) h)
  | _, _, _ => False
abbrev E_law1_at := E_law1_at_of F_law1_at
theorem E_law1_at.right : IsRight Try.prog 48 E_law1_at := by
  refine isRight fun vs K w hh => ?_
  match vs, hh with
  | [v0, v1], hh =>
    unfold E_law1_at E_law1_at_of at hh
    replace hh := dec1_sound hh; obtain ⟨n1, rfl, hh⟩ := hh
    replace hh := dec1_sound hh; obtain ⟨k2, rfl, hh⟩ := hh
    unfold F_law1_at at hh
    exact calls_den noFns_right plan48 _ w K Try.func48 (by kernel_rfl) (by kernel_rfl) (Eq.mp (F_law1_at.eq  n1 k2 w.heap K) hh)
theorem ok48 : okFn Try.prog 48 = true := by kernel_rfl
end Go.Proofs.Ytdjhjpckefkolaa.V
namespace Go.Proofs.Ytdjhjpckefkolaa.V
open Go Go.RowKit
set_option linter.unusedVariables false
set_option maxRecDepth 100000
def F_law1_two_of (f48_ : Int → Int → Heap → (Int → Heap → Prop) → Prop) (x1 : Sl) (m2 : Int) (h : Heap) (Q : Bool → Heap → Prop) : Prop :=
  jn [(4, .one .bool)] (fun (x12 : Bool) (h13 : Heap) =>
  Q x12 h13) (fun (j3 : Bool → Heap → Prop) =>
  brr (((x1.len : Nat) : Int) == 2)
  (ixS 1 x1 0 fun (a4 : Addr) =>
  ld [.int .u8] a4 h fun (v5 : Int) =>
  f48_ m2 0 h fun (r6 : Int) (h7 : Heap) =>
  cellsAre h7 a4 [.int .u8 v5] ∧
  brr (v5 == r6)
  (ixS 1 x1 1 fun (a8 : Addr) =>
  ld [.int .u8] a8 h7 fun (v9 : Int) =>
  f48_ m2 1 h7 fun (r10 : Int) (h11 : Heap) =>
  cellsAre h11 a8 [.int .u8 v9] ∧
  j3 (v9 == r10) h11)
  (j3 false h7))
  (j3 false h))
def F_law1_two (x1 : Sl) (m2 : Int) (h : Heap) (Q : Bool → Heap → Prop) : Prop := F_law1_two_of F_law1_at x1 m2 h Q
def plan66 : Plan := .s (.r [0, 1]) (.s (.dj [0, 1, 3, 7, 15, 31, 63, 15, 143, 511, 1023, 2047, 4095, 8191, 16383, 4095, 36863, 131071, 262143, 524287] [[0, 1, 2, 3, 4, 5, 6, 7, 8, 9, 10, 11, 12, 13, 14, 15, 16, 17, 18, 19]] [(4, .one .bool)] []) .z)
theorem F_law1_two.eq (f48_ : Int → Int → Heap → (Int → Heap → Prop) → Prop) (x1 : Sl) (m2 : Int) (h : Heap) (K : Value → Heap → Prop) : F_law1_two_of f48_ x1 m2 h (fun (r0 : Bool) (h : Heap) => K (.bool r0) h) =
    den Try.prog (fn1 48 (E_law1_at_of f48_) noFns) Try.f66.ntmps plan66 (bodyOf Try.f66) (args0 0 [(.slice x1.ptr x1.len x1.cap : Value), (.int .i64 m2 : Value)]) h ⟨fun env h => dRes Try.prog Try.f66.results.toList env h K, fun _ _ _ => False, fun env h => dRes Try.prog Try.f66.results.toList env h K⟩ := by kernel_rfl
def E_law1_two_of (f : Sl → Int → Heap → (Bool → Heap → Prop) → Prop) : List Value → Heap → (Value → Heap → Prop) → Prop
  | [v0, v1], h, K => dec1 .sl v0 fun (x1 : Sl) =>
  dec1 (.int .i64) v1 fun (m2 : Int) =>
  f x1 m2 h (fun (r0 : Bool) (h : Heap) => K (.bool r0) h)
  | _, _, _ => False
abbrev E_law1_two := E_law1_two_of F_law1_two
theorem E_law1_two.right : IsRight Try.prog 66 E_law1_two := by
  refine isRight fun vs K w hh => ?_
  match vs, hh with
  | [v0, v1], hh =>
    unfold E_law1_two E_law1_two_of at hh
    replace hh := dec1_sound hh; obtain ⟨x1, rfl, hh⟩ := hh
    replace hh := dec1_sound hh; obtain ⟨m2, rfl, hh⟩ := hh
    unfold F_law1_two at hh
    exact calls_den (fn1_right ok48 E_law1_at.right noFns_right) plan66 _ w K Try.func66 (by kernel_rfl) (by kernel_rfl) (Eq.mp (F_law1_two.eq F_law1_at x1 m2 w.heap K) hh)
theorem ok66 : okFn Try.prog 66 = true := by kernel_rfl
end Go.Proofs.Ytdjhjpckefkolaa.V
namespace Go.Proofs.Ytdjhjpckefkolaa.V
open Go Go.RowKit
set_option linter.unusedVariables false
set_option maxRecDepth 100000
def F_law1_Book_plain.l1 (f48_ : Int → Int → Heap → (Int → Heap → Prop) → Prop) (b1 : Option Addr) (Q : Bool → Heap → Prop) (i4 : Int) (j9 : Heap → Prop) : Int → Heap → Prop :=
  wl [(4, .one (.int .i64))] (fun (next10 : Int → Heap → Prop) (k11 : Int) (h12 : Heap) =>
  nn b1 fun (a13 : Addr) =>
  ld [.sl] (a13.add 0) h12 fun (v14 : Sl) =>
  ixS 1 v14 i4 fun (a15 : Addr) =>
  ld [.sl] a15 h12 fun (v16 : Sl) =>
  brr (decide (k11 < ((v16.len : Nat) : Int)))
  (nn b1 fun (a17 : Addr) =>
  ld [.sl] (a17.add 0) h12 fun (v18 : Sl) =>
  ixS 1 v18 i4 fun (a19 : Addr) =>
  ld [.sl] a19 h12 fun (v20 : Sl) =>
  ixS 1 v20 k11 fun (a21 : Addr) =>
  ld [.int .u8] a21 h12 fun (v22 : Int) =>
  nn b1 fun (a23 : Addr) =>
  ld [.sl] (a23.add 1) h12 fun (v24 : Sl) =>
  ixS 1 v24 i4 fun (a25 : Addr) =>
  ld [.int .i64] a25 h12 fun (v26 : Int) =>
  f48_ v26 k11 h12 fun (r27 : Int) (h28 : Heap) =>
  cellsAre h28 (a17.add 0) [.slice v18.ptr v18.len v18.cap] ∧
  cellsAre h28 a19 [.slice v20.ptr v20.len v20.cap] ∧
  cellsAre h28 a21 [.int .u8 v22] ∧
  brr (v22 != r27)
  (Q false h28)
  (next10 (IntKind.i64.wrap (k11 + 1)) h28))
  (j9 h12))
def F_law1_Book_plain.l2 (f48_ : Int → Int → Heap → (Int → Heap → Prop) → Prop) (b1 : Option Addr) (Q : Bool → Heap → Prop) (j2 : Heap → Prop) : Int → Heap → Prop :=
  wl [(3, .one (.int .i64))] (fun (next3 : Int → Heap → Prop) (i4 : Int) (h5 : Heap) =>
  nn b1 fun (a6 : Addr) =>
  ld [.sl] (a6.add 0) h5 fun (v7 : Sl) =>
  brr (decide (i4 < ((v7.len : Nat) : Int)))
  (jn [] (fun  (h30 : Heap) =>
  next3 (IntKind.i64.wrap (i4 + 1)) h30) (fun (j8 : Heap → Prop) =>
  jn [] (fun  (h29 : Heap) =>
  j8 h29) (fun (j9 : Heap → Prop) =>
  F_law1_Book_plain.l1 f48_ b1 Q i4 j9 0 h5)))
  (j2 h5))
def F_law1_Book_plain.l3 (f66_ : Sl → Int → Heap → (Bool → Heap → Prop) → Prop) (b1 : Option Addr) (Q : Bool → Heap → Prop) (i34 : Int) (j39 : Heap → Prop) : Int → Heap → Prop :=
  wl [(6, .one (.int .i64))] (fun (next40 : Int → Heap → Prop) (k41 : Int) (h42 : Heap) =>
  nn b1 fun (a43 : Addr) =>
  ld [.sl] (a43.add 3) h42 fun (v44 : Sl) =>
  ixS 1 v44 i34 fun (a45 : Addr) =>
  ld [.sl] a45 h42 fun (v46 : Sl) =>
  brr (decide (k41 < ((v46.len : Nat) : Int)))
  (nn b1 fun (a47 : Addr) =>
  ld [.sl] (a47.add 3) h42 fun (v48 : Sl) =>
  ixS 1 v48 i34 fun (a49 : Addr) =>
  ld [.sl] a49 h42 fun (v50 : Sl) =>
  ixS 1 v50 k41 fun (a51 : Addr) =>
  ld [.sl] a51 h42 fun (v52 : Sl) =>
  nn b1 fun (a53 : Addr) =>
  ld [.sl] (a53.add 4) h42 fun (v54 : Sl) =>
  ixS 1 v54 i34 fun (a55 : Addr) =>
  ld [.int .i64] a55 h42 fun (v56 : Int) =>
  f66_ v52 v56 h42 fun (r57 : Bool) (h58 : Heap) =>
  brr (!r57)
  (Q false h58)
  (next40 (IntKind.i64.wrap (k41 + 1)) h58))
  (j39 h42))
def F_law1_Book_plain.l4 (f66_ : Sl → Int → Heap → (Bool → Heap → Prop) → Prop) (b1 : Option Addr) (Q : Bool → Heap → Prop) (j32 : Heap → Prop) : Int → Heap → Prop :=
  wl [(5, .one (.int .i64))] (fun (next33 : Int → Heap → Prop) (i34 : Int) (h35 : Heap) =>
  nn b1 fun (a36 : Addr) =>
  ld [.sl] (a36.add 3) h35 fun (v37 : Sl) =>
  brr (decide (i34 < ((v37.len : Nat) : Int)))
  (jn [] (fun  (h60 : Heap) =>
  next33 (IntKind.i64.wrap (i34 + 1)) h60) (fun (j38 : Heap → Prop) =>
  jn [] (fun  (h59 : Heap) =>
  j38 h59) (fun (j39 : Heap → Prop) =>
  F_law1_Book_plain.l3 f66_ b1 Q i34 j39 0 h35)))
  (j32 h35))
def F_law1_Book_plain_of (f48_ : Int → Int → Heap → (Int → Heap → Prop) → Prop) (f66_ : Sl → Int → Heap → (Bool → Heap → Prop) → Prop) (b1 : Option Addr) (h : Heap) (Q : Bool → Heap → Prop) : Prop :=
  jn [] (fun  (h31 : Heap) =>
  jn [] (fun  (h61 : Heap) =>
  Q true h61) (fun (j32 : Heap → Prop) =>
  F_law1_Book_plain.l4 f66_ b1 Q j32 0 h31)) (fun (j2 : Heap → Prop) =>
  F_law1_Book_plain.l2 f48_ b1 Q j2 0 h)
def F_law1_Book_plain (b1 : Option Addr) (h : Heap) (Q : Bool → Heap → Prop) : Prop := F_law1_Book_plain_of F_law1_at F_law1_two b1 h Q
def plan50 : Plan := .s (.r [0]) (.s (.s (.r [0, 3]) (.bj [] [0] (.l [(3, .one (.int .i64))] [0] (.s (.s (.r [0, 3, 13]) (.c .z .z)) (.s (.bj [] [0, 3] (.s (.r [0, 3, 4]) (.bj [] [0, 3] (.l [(4, .one (.int .i64))] [0, 3] (.s (.s (.r [0, 3, 4, 25]) (.c .z .z)) (.s (.b (.s (.d [0, 1, 3, 7, 0, 31, 63, 0, 255, 511, 0, 1024, 3072, 7168, 0, 31744, 64512, 0, 261120, 524287] [[0, 1, 2, 3, 4, 5, 6, 7, 8, 9, 10, 11, 12, 13, 14, 15, 16, 17, 18, 19]] [0, 3, 4, 47]) (.c (.s (.r [2]) .z) .z))) (.r [0, 3, 4]))))))) (.r [0, 3])))))) (.s (.s (.r [0, 5]) (.bj [] [] (.l [(5, .one (.int .i64))] [0] (.s (.s (.r [0, 5, 54]) (.c .z .z)) (.s (.bj [] [0, 5] (.s (.r [0, 5, 6]) (.bj [] [0, 5] (.l [(6, .one (.int .i64))] [0, 5] (.s (.s (.r [0, 5, 6, 66]) (.c .z .z)) (.s (.b (.s (.d [0, 1, 3, 7, 0, 31, 63, 0, 255, 511, 0, 1024, 3072, 7168, 0, 31744, 64512, 131071, 262143] [[0, 1, 2, 3, 4, 5, 6, 7, 8, 9, 10, 11, 12, 13, 14, 15, 16, 17, 18]] [0, 5, 6, 87]) (.c (.s (.r [2]) .z) .z))) (.r [0, 5, 6]))))))) (.r [0, 5])))))) (.s (.r [2]) .z)))
theorem F_law1_Book_plain.eq (f48_ : Int → Int → Heap → (Int → Heap → Prop) → Prop) (f66_ : Sl → Int → Heap → (Bool → Heap → Prop) → Prop) (b1 : Option Addr) (h : Heap) (K : Value → Heap → Prop) : F_law1_Book_plain_of f48_ f66_ b1 h (fun (r0 : Bool) (h : Heap) => K (.bool r0) h) =
    den Try.prog (fn1 48 (E_law1_at_of f48_) (fn1 66 (E_law1_two_of f66_) noFns)) Try.f50.ntmps plan50 (bodyOf Try.f50) (args0 0 [(.pointer b1 : Value)]) h ⟨fun env h => dRes Try.prog Try.f50.results.toList env h K, fun _ _ _ => False, fun env h => dRes Try.prog Try.f50.results.toList env h K⟩ := by kernel_rfl
def E_law1_Book_plain_of (f : Option Addr → Heap → (Bool → Heap → Prop) → Prop) : List Value → Heap → (Value → Heap → Prop) → Prop
  | [v0], h, K => dec1 .ptr v0 fun (b1 : Option Addr) =>
  f b1 h (fun (r0 : Bool) (h : Heap) => K (.bool r0) h)
  | _, _, _ => False
abbrev E_law1_Book_plain := E_law1_Book_plain_of F_law1_Book_plain
theorem E_law1_Book_plain.right : IsRight Try.prog 50 E_law1_Book_plain := by
  refine isRight fun vs K w hh => ?_
  match vs, hh with
  | [v0], hh =>
    unfold E_law1_Book_plain E_law1_Book_plain_of at hh
    replace hh := dec1_sound hh; obtain ⟨b1, rfl, hh⟩ := hh
    unfold F_law1_Book_plain at hh
    exact calls_den (fn1_right ok48 E_law1_at.right (fn1_right ok66 E_law1_two.right noFns_right)) plan50 _ w K Try.func50 (by kernel_rfl) (by kernel_rfl) (Eq.mp (F_law1_Book_plain.eq F_law1_at F_law1_two b1 w.heap K) hh)
theorem ok50 : okFn Try.prog 50 = true := by kernel_rfl
end Go.Proofs.Ytdjhjpckefkolaa.V
namespace Go.Proofs.Ytdjhjpckefkolaa.V
open Go Go.RowKit
set_option linter.unusedVariables false
set_option maxRecDepth 100000
def F_law1_textsMark_of (f48_ : Int → Int → Heap → (Int → Heap → Prop) → Prop) (m1 : Int) (h : Heap) (Q : ByteArray → Heap → Prop) : Prop :=
  f48_ m1 0 h fun (r2 : Int) (h3 : Heap) =>
  f48_ m1 1 h3 fun (r4 : Int) (h5 : Heap) =>
  al 5 [.int .u8 r2, .int .u8 r4, .int .u8 33] h5 fun (a6 : Addr) (h7 : Heap) =>
  b2s (some a6) 3 h7 fun (s8 : ByteArray) =>
  Q s8 h7
def F_law1_textsMark (m1 : Int) (h : Heap) (Q : ByteArray → Heap → Prop) : Prop := F_law1_textsMark_of F_law1_at m1 h Q
def plan67 : Plan := .s (.r [0]) (.s (.r [2]) .z)
theorem F_law1_textsMark.eq (f48_ : Int → Int → Heap → (Int → Heap → Prop) → Prop) (m1 : Int) (h : Heap) (K : Value → Heap → Prop) : F_law1_textsMark_of f48_ m1 h (fun (r0 : ByteArray) (h : Heap) => K (.string r0) h) =
    den Try.prog (fn1 48 (E_law1_at_of f48_) noFns) Try.f67.ntmps plan67 (bodyOf Try.f67) (args0 0 [(.int .i64 m1 : Value)]) h ⟨fun env h => dRes Try.prog Try.f67.results.toList env h K, fun _ _ _ => False, fun env h => dRes Try.prog Try.f67.results.toList env h K⟩ := by kernel_rfl
def E_law1_textsMark_of (f : Int → Heap → (ByteArray → Heap → Prop) → Prop) : List Value → Heap → (Value → Heap → Prop) → Prop
  | [v0], h, K => dec1 (.int .i64) v0 fun (m1 : Int) =>
  f m1 h (fun (r0 : ByteArray) (h : Heap) => K (.string r0) h)
  | _, _, _ => False
abbrev E_law1_textsMark := E_law1_textsMark_of F_law1_textsMark
theorem E_law1_textsMark.right : IsRight Try.prog 67 E_law1_textsMark := by
  refine isRight fun vs K w hh => ?_
  match vs, hh with
  | [v0], hh =>
    unfold E_law1_textsMark E_law1_textsMark_of at hh
    replace hh := dec1_sound hh; obtain ⟨m1, rfl, hh⟩ := hh
    unfold F_law1_textsMark at hh
    exact calls_den (fn1_right ok48 E_law1_at.right noFns_right) plan67 _ w K Try.func67 (by kernel_rfl) (by kernel_rfl) (Eq.mp (F_law1_textsMark.eq F_law1_at m1 w.heap K) hh)
theorem ok67 : okFn Try.prog 67 = true := by kernel_rfl
end Go.Proofs.Ytdjhjpckefkolaa.V
namespace Go.Proofs.Ytdjhjpckefkolaa.V
open Go Go.RowKit
set_option linter.unusedVariables false
set_option maxRecDepth 100000
def F_law1_intsMark_of  (m1 : Int) (h : Heap) (Q : Int → Heap → Prop) : Prop :=
  Q (IntKind.i64.wrap (1000 + m1)) h
def F_law1_intsMark (m1 : Int) (h : Heap) (Q : Int → Heap → Prop) : Prop := F_law1_intsMark_of  m1 h Q
def plan68 : Plan := .s (.r [0]) (.s (.r [2]) .z)
theorem F_law1_intsMark.eq  (m1 : Int) (h : Heap) (K : Value → Heap → Prop) : F_law1_intsMark_of  m1 h (fun (r0 : Int) (h : Heap) => K (.int .i64 r0) h) =
    den Try.prog noFns Try.f68.ntmps plan68 (bodyOf Try.f68) (args0 0 [(.int .i64 m1 : Value)]) h ⟨fun env h => dRes Try.prog Try.f68.results.toList env h K, fun _ _ _ => False, fun env h => dRes Try.prog Try.f68.results.toList env h K⟩ := by kernel_rfl
def E_law1_intsMark_of (f : Int → Heap → (Int → Heap → Prop) → Prop) : List Value → Heap → (Value → Heap → Prop) → Prop
  | [v0], h, K => dec1 (.int .i64) v0 fun (m1 : Int) =>
  f m1 h (fun (r0 : Int) (h : Heap) => K (.int .i64 r0) h)
  | _, _, _ => False
abbrev E_law1_intsMark := E_law1_intsMark_of F_law1_intsMark
theorem E_law1_intsMark.right : IsRight Try.prog 68 E_law1_intsMark := by
  refine isRight fun vs K w hh => ?_
  match vs, hh with
  | [v0], hh =>
    unfold E_law1_intsMark E_law1_intsMark_of at hh
    replace hh := dec1_sound hh; obtain ⟨m1, rfl, hh⟩ := hh
    unfold F_law1_intsMark at hh
    exact calls_den noFns_right plan68 _ w K Try.func68 (by kernel_rfl) (by kernel_rfl) (Eq.mp (F_law1_intsMark.eq  m1 w.heap K) hh)
theorem ok68 : okFn Try.prog 68 = true := by kernel_rfl
end Go.Proofs.Ytdjhjpckefkolaa.V
namespace Go.Proofs.Ytdjhjpckefkolaa.V
open Go Go.RowKit
set_option linter.unusedVariables false
set_option maxRecDepth 100000
def F_law1_wordsMark_of  (m1 : Int) (h : Heap) (Q : Int → Heap → Prop) : Prop :=
  0 ≤ (20 : Int) ∧
  Q (IntKind.u64.wrap ((IntKind.u64.wrap m1) * 2 ^ min (20 : Int).toNat IntKind.u64.bits)) h
def F_law1_wordsMark (m1 : Int) (h : Heap) (Q : Int → Heap → Prop) : Prop := F_law1_wordsMark_of  m1 h Q
def plan69 : Plan := .s (.r [0]) (.s (.r [2]) .z)
theorem F_law1_wordsMark.eq  (m1 : Int) (h : Heap) (K : Value → Heap → Prop) : F_law1_wordsMark_of  m1 h (fun (r0 : Int) (h : Heap) => K (.int .u64 r0) h) =
    den Try.prog noFns Try.f69.ntmps plan69 (bodyOf Try.f69) (args0 0 [(.int .i64 m1 : Value)]) h ⟨fun env h => dRes Try.prog Try.f69.results.toList env h K, fun _ _ _ => False, fun env h => dRes Try.prog Try.f69.results.toList env h K⟩ := by kernel_rfl
def E_law1_wordsMark_of (f : Int → Heap → (Int → Heap → Prop) → Prop) : List Value → Heap → (Value → Heap → Prop) → Prop
  | [v0], h, K => dec1 (.int .i64) v0 fun (m1 : Int) =>
  f m1 h (fun (r0 : Int) (h : Heap) => K (.int .u64 r0) h)
  | _, _, _ => False
abbrev E_law1_wordsMark := E_law1_wordsMark_of F_law1_wordsMark
theorem E_law1_wordsMark.right : IsRight Try.prog 69 E_law1_wordsMark := by
  refine isRight fun vs K w hh => ?_
  match vs, hh with
  | [v0], hh =>
    unfold E_law1_wordsMark E_law1_wordsMark_of at hh
    replace hh := dec1_sound hh; obtain ⟨m1, rfl, hh⟩ := hh
    unfold F_law1_wordsMark at hh
    exact calls_den noFns_right plan69 _ w K Try.func69 (by kernel_rfl) (by kernel_rfl) (Eq.mp (F_law1_wordsMark.eq  m1 w.heap K) hh)
theorem ok69 : okFn Try.prog 69 = true := by kernel_rfl
end Go.Proofs.Ytdjhjpckefkolaa.V
namespace Go.Proofs.Ytdjhjpckefkolaa.V
open Go Go.RowKit
set_option linter.unusedVariables false
set_option maxRecDepth 100000
def F_law1_donesMark_of  (m1 : Int) (h : Heap) (Q : Int → Int → Int → Int → Int → Heap → Prop) : Prop :=
  al 98 [.int .i64 0, .int .u64 0, .int .i64 0, .int .i64 0, .int .u64 0] h fun (a2 : Addr) (h3 : Heap) =>
  0 ≤ (20 : Int) ∧
  st a2 [.int .i64 0, .int .u64 (IntKind.u64.wrap ((IntKind.u64.wrap m1) * 2 ^ min (20 : Int).toNat IntKind.u64.bits)), .int .i64 0, .int .i64 0, .int .u64 0] h3 fun (h4 : Heap) =>
  ld [.int .i64, .int .u64, .int .i64, .int .i64, .int .u64] a2 h4 fun (v5 v6 v7 v8 v9 : Int) =>
  Q v5 v6 v7 v8 v9 h4
def F_law1_donesMark (m1 : Int) (h : Heap) (Q : Int → Int → Int → Int → Int → Heap → Prop) : Prop := F_law1_donesMark_of  m1 h Q
def plan70 : Plan := .s (.r [0, 2]) (.s (.r [2]) .z)
theorem F_law1_donesMark.eq  (m1 : Int) (h : Heap) (K : Value → Heap → Prop) : F_law1_donesMark_of  m1 h (fun (r0 r1 r2 r3 r4 : Int) (h : Heap) => K (.agg #[.int .i64 r0, .int .u64 r1, .int .i64 r2, .int .i64 r3, .int .u64 r4]) h) =
    den Try.prog noFns Try.f70.ntmps plan70 (bodyOf Try.f70) (args0 0 [(.int .i64 m1 : Value)]) h ⟨fun env h => dRes Try.prog Try.f70.results.toList env h K, fun _ _ _ => False, fun env h => dRes Try.prog Try.f70.results.toList env h K⟩ := by kernel_rfl
def E_law1_donesMark_of (f : Int → Heap → (Int → Int → Int → Int → Int → Heap → Prop) → Prop) : List Value → Heap → (Value → Heap → Prop) → Prop
  | [v0], h, K => dec1 (.int .i64) v0 fun (m1 : Int) =>
  f m1 h (fun (r0 r1 r2 r3 r4 : Int) (h : Heap) => K (.agg #[.int .i64 r0, .int .u64 r1, .int .i64 r2, .int .i64 r3, .int .u64 r4]) h)
  | _, _, _ => False
abbrev E_law1_donesMark := E_law1_donesMark_of F_law1_donesMark
theorem E_law1_donesMark.right : IsRight Try.prog 70 E_law1_donesMark := by
  refine isRight fun vs K w hh => ?_
  match vs, hh with
  | [v0], hh =>
    unfold E_law1_donesMark E_law1_donesMark_of at hh
    replace hh := dec1_sound hh; obtain ⟨m1, rfl, hh⟩ := hh
    unfold F_law1_donesMark at hh
    exact calls_den noFns_right plan70 _ w K Try.func70 (by kernel_rfl) (by kernel_rfl) (Eq.mp (F_law1_donesMark.eq  m1 w.heap K) hh)
theorem ok70 : okFn Try.prog 70 = true := by kernel_rfl
end Go.Proofs.Ytdjhjpckefkolaa.V
namespace Go.Proofs.Ytdjhjpckefkolaa.V
open Go Go.RowKit
set_option linter.unusedVariables false
set_option maxRecDepth 100000
def F_law1_Book_kept.l1 (f67_ : Int → Heap → (ByteArray → Heap → Prop) → Prop) (b1 : Option Addr) (Q : Bool → Heap → Prop) (i4 : Int) (j9 : Heap → Prop) : Int → Heap → Prop :=
  wl [(4, .one (.int .i64))] (fun (next10 : Int → Heap → Prop) (k11 : Int) (h12 : Heap) =>
  nn b1 fun (a13 : Addr) =>
  ld [.sl] (a13.add 6) h12 fun (v14 : Sl) =>
  ixS 1 v14 i4 fun (a15 : Addr) =>
  ld [.sl] a15 h12 fun (v16 : Sl) =>
  brr (decide (k11 < ((v16.len : Nat) : Int)))
  (nn b1 fun (a17 : Addr) =>
  ld [.sl] (a17.add 6) h12 fun (v18 : Sl) =>
  ixS 1 v18 i4 fun (a19 : Addr) =>
  ld [.sl] a19 h12 fun (v20 : Sl) =>
  ixS 1 v20 k11 fun (a21 : Addr) =>
  ld [.str] a21 h12 fun (v22 : ByteArray) =>
  nn b1 fun (a23 : Addr) =>
  ld [.sl] (a23.add 7) h12 fun (v24 : Sl) =>
  ixS 1 v24 i4 fun (a25 : Addr) =>
  ld [.int .i64] a25 h12 fun (v26 : Int) =>
  f67_ v26 h12 fun (r27 : ByteArray) (h28 : Heap) =>
  cellsAre h28 (a17.add 6) [.slice v18.ptr v18.len v18.cap] ∧
  cellsAre h28 a19 [.slice v20.ptr v20.len v20.cap] ∧
  cellsAre h28 a21 [.string v22] ∧
  brr (!(v22.toList == r27.toList))
  (Q false h28)
  (next10 (IntKind.i64.wrap (k11 + 1)) h28))
  (j9 h12))
def F_law1_Book_kept.l2 (f67_ : Int → Heap → (ByteArray → Heap → Prop) → Prop) (b1 : Option Addr) (Q : Bool → Heap → Prop) (j2 : Heap → Prop) : Int → Heap → Prop :=
  wl [(3, .one (.int .i64))] (fun (next3 : Int → Heap → Prop) (i4 : Int) (h5 : Heap) =>
  nn b1 fun (a6 : Addr) =>
  ld [.sl] (a6.add 6) h5 fun (v7 : Sl) =>
  brr (decide (i4 < ((v7.len : Nat) : Int)))
  (jn [] (fun  (h30 : Heap) =>
  next3 (IntKind.i64.wrap (i4 + 1)) h30) (fun (j8 : Heap → Prop) =>
  jn [] (fun  (h29 : Heap) =>
  j8 h29) (fun (j9 : Heap → Prop) =>
  F_law1_Book_kept.l1 f67_ b1 Q i4 j9 0 h5)))
  (j2 h5))
def F_law1_Book_kept.l3 (f68_ : Int → Heap → (Int → Heap → Prop) → Prop) (b1 : Option Addr) (Q : Bool → Heap → Prop) (i34 : Int) (j39 : Heap → Prop) : Int → Heap → Prop :=
  wl [(6, .one (.int .i64))] (fun (next40 : Int → Heap → Prop) (k41 : Int) (h42 : Heap) =>
  nn b1 fun (a43 : Addr) =>
  ld [.sl] (a43.add 9) h42 fun (v44 : Sl) =>
  ixS 1 v44 i34 fun (a45 : Addr) =>
  ld [.sl] a45 h42 fun (v46 : Sl) =>
  brr (decide (k41 < ((v46.len : Nat) : Int)))
  (nn b1 fun (a47 : Addr) =>
  ld [.sl] (a47.add 9) h42 fun (v48 : Sl) =>
  ixS 1 v48 i34 fun (a49 : Addr) =>
  ld [.sl] a49 h42 fun (v50 : Sl) =>
  ixS 1 v50 k41 fun (a51 : Addr) =>
  ld [.int .i64] a51 h42 fun (v52 : Int) =>
  nn b1 fun (a53 : Addr) =>
  ld [.sl] (a53.add 10) h42 fun (v54 : Sl) =>
  ixS 1 v54 i34 fun (a55 : Addr) =>
  ld [.int .i64] a55 h42 fun (v56 : Int) =>
  f68_ v56 h42 fun (r57 : Int) (h58 : Heap) =>
  cellsAre h58 (a47.add 9) [.slice v48.ptr v48.len v48.cap] ∧
  cellsAre h58 a49 [.slice v50.ptr v50.len v50.cap] ∧
  cellsAre h58 a51 [.int .i64 v52] ∧
  brr (v52 != r57)
  (Q false h58)
  (next40 (IntKind.i64.wrap (k41 + 1)) h58))
  (j39 h42))
def F_law1_Book_kept.l4 (f68_ : Int → Heap → (Int → Heap → Prop) → Prop) (b1 : Option Addr) (Q : Bool → Heap → Prop) (j32 : Heap → Prop) : Int → Heap → Prop :=
  wl [(5, .one (.int .i64))] (fun (next33 : Int → Heap → Prop) (i34 : Int) (h35 : Heap) =>
  nn b1 fun (a36 : Addr) =>
  ld [.sl] (a36.add 9) h35 fun (v37 : Sl) =>
  brr (decide (i34 < ((v37.len : Nat) : Int)))
  (jn [] (fun  (h60 : Heap) =>
  next33 (IntKind.i64.wrap (i34 + 1)) h60) (fun (j38 : Heap → Prop) =>
  jn [] (fun  (h59 : Heap) =>
  j38 h59) (fun (j39 : Heap → Prop) =>
  F_law1_Book_kept.l3 f68_ b1 Q i34 j39 0 h35)))
  (j32 h35))
def F_law1_Book_kept.l5 (f69_ : Int → Heap → (Int → Heap → Prop) → Prop) (b1 : Option Addr) (Q : Bool → Heap → Prop) (i64 : Int) (j69 : Heap → Prop) : Int → Heap → Prop :=
  wl [(8, .one (.int .i64))] (fun (next70 : Int → Heap → Prop) (k71 : Int) (h72 : Heap) =>
  nn b1 fun (a73 : Addr) =>
  ld [.sl] (a73.add 12) h72 fun (v74 : Sl) =>
  ixS 1 v74 i64 fun (a75 : Addr) =>
  ld [.sl] a75 h72 fun (v76 : Sl) =>
  brr (decide (k71 < ((v76.len : Nat) : Int)))
  (nn b1 fun (a77 : Addr) =>
  ld [.sl] (a77.add 12) h72 fun (v78 : Sl) =>
  ixS 1 v78 i64 fun (a79 : Addr) =>
  ld [.sl] a79 h72 fun (v80 : Sl) =>
  ixS 1 v80 k71 fun (a81 : Addr) =>
  ld [.int .u64] a81 h72 fun (v82 : Int) =>
  nn b1 fun (a83 : Addr) =>
  ld [.sl] (a83.add 13) h72 fun (v84 : Sl) =>
  ixS 1 v84 i64 fun (a85 : Addr) =>
  ld [.int .i64] a85 h72 fun (v86 : Int) =>
  f69_ v86 h72 fun (r87 : Int) (h88 : Heap) =>
  cellsAre h88 (a77.add 12) [.slice v78.ptr v78.len v78.cap] ∧
  cellsAre h88 a79 [.slice v80.ptr v80.len v80.cap] ∧
  cellsAre h88 a81 [.int .u64 v82] ∧
  brr (v82 != r87)
  (Q false h88)
  (next70 (IntKind.i64.wrap (k71 + 1)) h88))
  (j69 h72))
def F_law1_Book_kept.l6 (f69_ : Int → Heap → (Int → Heap → Prop) → Prop) (b1 : Option Addr) (Q : Bool → Heap → Prop) (j62 : Heap → Prop) : Int → Heap → Prop :=
  wl [(7, .one (.int .i64))] (fun (next63 : Int → Heap → Prop) (i64 : Int) (h65 : Heap) =>
  nn b1 fun (a66 : Addr) =>
  ld [.sl] (a66.add 12) h65 fun (v67 : Sl) =>
  brr (decide (i64 < ((v67.len : Nat) : Int)))
  (jn [] (fun  (h90 : Heap) =>
  next63 (IntKind.i64.wrap (i64 + 1)) h90) (fun (j68 : Heap → Prop) =>
  jn [] (fun  (h89 : Heap) =>
  j68 h89) (fun (j69 : Heap → Prop) =>
  F_law1_Book_kept.l5 f69_ b1 Q i64 j69 0 h65)))
  (j62 h65))
def F_law1_Book_kept.l7 (f70_ : Int → Heap → (Int → Int → Int → Int → Int → Heap → Prop) → Prop) (b1 : Option Addr) (Q : Bool → Heap → Prop) (i94 : Int) (j99 : Heap → Prop) : Int → Heap → Prop :=
  wl [(10, .one (.int .i64))] (fun (next100 : Int → Heap → Prop) (k101 : Int) (h102 : Heap) =>
  nn b1 fun (a103 : Addr) =>
  ld [.sl] (a103.add 15) h102 fun (v104 : Sl) =>
  ixS 1 v104 i94 fun (a105 : Addr) =>
  ld [.sl] a105 h102 fun (v106 : Sl) =>
  brr (decide (k101 < ((v106.len : Nat) : Int)))
  (nn b1 fun (a107 : Addr) =>
  ld [.sl] (a107.add 15) h102 fun (v108 : Sl) =>
  ixS 1 v108 i94 fun (a109 : Addr) =>
  ld [.sl] a109 h102 fun (v110 : Sl) =>
  ixS 5 v110 k101 fun (a111 : Addr) =>
  ld [.int .i64, .int .u64, .int .i64, .int .i64, .int .u64] a111 h102 fun (v112 v113 v114 v115 v116 : Int) =>
  nn b1 fun (a117 : Addr) =>
  ld [.sl] (a117.add 16) h102 fun (v118 : Sl) =>
  ixS 1 v118 i94 fun (a119 : Addr) =>
  ld [.int .i64] a119 h102 fun (v120 : Int) =>
  f70_ v120 h102 fun (r121 r122 r123 r124 r125 : Int) (h126 : Heap) =>
  cellsAre h126 (a107.add 15) [.slice v108.ptr v108.len v108.cap] ∧
  cellsAre h126 a109 [.slice v110.ptr v110.len v110.cap] ∧
  cellsAre h126 a111 [.int .i64 v112, .int .u64 v113, .int .i64 v114, .int .i64 v115, .int .u64 v116] ∧
  brr (!((v112 == r121) && ((v113 == r122) && ((v114 == r123) && ((v115 == r124) && ((v116 == r125) && (true)))))))
  (Q false h126)
  (next100 (IntKind.i64.wrap (k101 + 1)) h126))
  (j99 h102))
def F_law1_Book_kept.l8 (f70_ : Int → Heap → (Int → Int → Int → Int → Int → Heap → Prop) → Prop) (b1 : Option Addr) (Q : Bool → Heap → Prop) (j92 : Heap → Prop) : Int → Heap → Prop :=
  wl [(9, .one (.int .i64))] (fun (next93 : Int → Heap → Prop) (i94 : Int) (h95 : Heap) =>
  nn b1 fun (a96 : Addr) =>
  ld [.sl] (a96.add 15) h95 fun (v97 : Sl) =>
  brr (decide (i94 < ((v97.len : Nat) : Int)))
  (jn [] (fun  (h128 : Heap) =>
  next93 (IntKind.i64.wrap (i94 + 1)) h128) (fun (j98 : Heap → Prop) =>
  jn [] (fun  (h127 : Heap) =>
  j98 h127) (fun (j99 : Heap → Prop) =>
  F_law1_Book_kept.l7 f70_ b1 Q i94 j99 0 h95)))
  (j92 h95))
def F_law1_Book_kept_of (f67_ : Int → Heap → (ByteArray → Heap → Prop) → Prop) (f68_ : Int → Heap → (Int → Heap → Prop) → Prop) (f69_ : Int → Heap → (Int → Heap → Prop) → Prop) (f70_ : Int → Heap → (Int → Int → Int → Int → Int → Heap → Prop) → Prop) (b1 : Option Addr) (h : Heap) (Q : Bool → Heap → Prop) : Prop :=
  jn [] (fun  (h31 : Heap) =>
  jn [] (fun  (h61 : Heap) =>
  jn [] (fun  (h91 : Heap) =>
  jn [] (fun  (h129 : Heap) =>
  Q true h129) (fun (j92 : Heap → Prop) =>
  F_law1_Book_kept.l8 f70_ b1 Q j92 0 h91)) (fun (j62 : Heap → Prop) =>
  F_law1_Book_kept.l6 f69_ b1 Q j62 0 h61)) (fun (j32 : Heap → Prop) =>
  F_law1_Book_kept.l4 f68_ b1 Q j32 0 h31)) (fun (j2 : Heap → Prop) =>
  F_law1_Book_kept.l2 f67_ b1 Q j2 0 h)
def F_law1_Book_kept (b1 : Option Addr) (h : Heap) (Q : Bool → Heap → Prop) : Prop := F_law1_Book_kept_of F_law1_textsMark F_law1_intsMark F_law1_wordsMark F_law1_donesMark b1 h Q
def plan51 : Plan := .s (.r [0]) (.s (.s (.r [0, 3]) (.bj [] [0] (.l [(3, .one (.int .i64))] [0] (.s (.s (.r [0, 3, 17]) (.c .z .z)) (.s (.bj [] [0, 3] (.s (.r [0, 3, 4]) (.bj [] [0, 3] (.l [(4, .one (.int .i64))] [0, 3] (.s (.s (.r [0, 3, 4, 29]) (.c .z .z)) (.s (.b (.s (.d [0, 1, 3, 7, 0, 31, 63, 0, 255, 511, 0, 1024, 3072, 7168, 0, 31744, 64512, 130048, 262143] [[0, 1, 2, 3, 4, 5, 6, 7, 8, 9, 10, 11, 12, 13, 14, 15, 16, 17, 18]] [0, 3, 4, 50]) (.c (.s (.r [2]) .z) .z))) (.r [0, 3, 4]))))))) (.r [0, 3])))))) (.s (.s (.r [0, 5]) (.bj [] [0] (.l [(5, .one (.int .i64))] [0] (.s (.s (.r [0, 5, 57]) (.c .z .z)) (.s (.bj [] [0, 5] (.s (.r [0, 5, 6]) (.bj [] [0, 5] (.l [(6, .one (.int .i64))] [0, 5] (.s (.s (.r [0, 5, 6, 69]) (.c .z .z)) (.s (.b (.s (.d [0, 1, 3, 7, 0, 31, 63, 0, 255, 511, 0, 1024, 3072, 7168, 0, 31744, 64512, 130048, 262143] [[0, 1, 2, 3, 4, 5, 6, 7, 8, 9, 10, 11, 12, 13, 14, 15, 16, 17, 18]] [0, 5, 6, 90]) (.c (.s (.r [2]) .z) .z))) (.r [0, 5, 6]))))))) (.r [0, 5])))))) (.s (.s (.r [0, 7]) (.bj [] [0] (.l [(7, .one (.int .i64))] [0] (.s (.s (.r [0, 7, 97]) (.c .z .z)) (.s (.bj [] [0, 7] (.s (.r [0, 7, 8]) (.bj [] [0, 7] (.l [(8, .one (.int .i64))] [0, 7] (.s (.s (.r [0, 7, 8, 109]) (.c .z .z)) (.s (.b (.s (.d [0, 1, 3, 7, 0, 31, 63, 0, 255, 511, 0, 1024, 3072, 7168, 0, 31744, 64512, 130048, 262143] [[0, 1, 2, 3, 4, 5, 6, 7, 8, 9, 10, 11, 12, 13, 14, 15, 16, 17, 18]] [0, 7, 8, 130]) (.c (.s (.r [2]) .z) .z))) (.r [0, 7, 8]))))))) (.r [0, 7])))))) (.s (.s (.r [0, 9]) (.bj [] [] (.l [(9, .one (.int .i64))] [0] (.s (.s (.r [0, 9, 137]) (.c .z .z)) (.s (.bj [] [0, 9] (.s (.r [0, 9, 10]) (.bj [] [0, 9] (.l [(10, .one (.int .i64))] [0, 9] (.s (.s (.r [0, 9, 10, 149]) (.c .z .z)) (.s (.b (.s (.d [0, 1, 3, 7, 0, 31, 63, 0, 255, 511, 0, 1024, 3072, 7168, 0, 31744, 64512, 130048, 262143] [[0, 1, 2, 3, 4, 5, 6, 7, 8, 9, 10, 11, 12, 13, 14, 15, 16, 17, 18]] [0, 9, 10, 170]) (.c (.s (.r [2]) .z) .z))) (.r [0, 9, 10]))))))) (.r [0, 9])))))) (.s (.r [2]) .z)))))
theorem F_law1_Book_kept.eq (f67_ : Int → Heap → (ByteArray → Heap → Prop) → Prop) (f68_ : Int → Heap → (Int → Heap → Prop) → Prop) (f69_ : Int → Heap → (Int → Heap → Prop) → Prop) (f70_ : Int → Heap → (Int → Int → Int → Int → Int → Heap → Prop) → Prop) (b1 : Option Addr) (h : Heap) (K : Value → Heap → Prop) : F_law1_Book_kept_of f67_ f68_ f69_ f70_ b1 h (fun (r0 : Bool) (h : Heap) => K (.bool r0) h) =
    den Try.prog (fn1 67 (E_law1_textsMark_of f67_) (fn1 68 (E_law1_intsMark_of f68_) (fn1 69 (E_law1_wordsMark_of f69_) (fn1 70 (E_law1_donesMark_of f70_) noFns)))) Try.f51.ntmps plan51 (bodyOf Try.f51) (args0 0 [(.pointer b1 : Value)]) h ⟨fun env h => dRes Try.prog Try.f51.results.toList env h K, fun _ _ _ => False, fun env h => dRes Try.prog Try.f51.results.toList env h K⟩ := by kernel_rfl
def E_law1_Book_kept_of (f : Option Addr → Heap → (Bool → Heap → Prop) → Prop) : List Value → Heap → (Value → Heap → Prop) → Prop
  | [v0], h, K => dec1 .ptr v0 fun (b1 : Option Addr) =>
  f b1 h (fun (r0 : Bool) (h : Heap) => K (.bool r0) h)
  | _, _, _ => False
abbrev E_law1_Book_kept := E_law1_Book_kept_of F_law1_Book_kept
theorem E_law1_Book_kept.right : IsRight Try.prog 51 E_law1_Book_kept := by
  refine isRight fun vs K w hh => ?_
  match vs, hh with
  | [v0], hh =>
    unfold E_law1_Book_kept E_law1_Book_kept_of at hh
    replace hh := dec1_sound hh; obtain ⟨b1, rfl, hh⟩ := hh
    unfold F_law1_Book_kept at hh
    exact calls_den (fn1_right ok67 E_law1_textsMark.right (fn1_right ok68 E_law1_intsMark.right (fn1_right ok69 E_law1_wordsMark.right (fn1_right ok70 E_law1_donesMark.right noFns_right)))) plan51 _ w K Try.func51 (by kernel_rfl) (by kernel_rfl) (Eq.mp (F_law1_Book_kept.eq F_law1_textsMark F_law1_intsMark F_law1_wordsMark F_law1_donesMark b1 w.heap K) hh)
theorem ok51 : okFn Try.prog 51 = true := by kernel_rfl
end Go.Proofs.Ytdjhjpckefkolaa.V
namespace Go.Proofs.Ytdjhjpckefkolaa.V
open Go Go.RowKit
set_option linter.unusedVariables false
set_option maxRecDepth 100000
def F_law1_acctsMark_of  (m1 : Int) (h : Heap) (Q : ByteArray → Int → Heap → Prop) : Prop :=
  al 102 [.string (⟨#[]⟩ : ByteArray), .int .u64 0] h fun (a2 : Addr) (h3 : Heap) =>
  0 ≤ (20 : Int) ∧
  st a2 [.string (⟨#[]⟩ : ByteArray), .int .u64 (IntKind.u64.wrap ((IntKind.u64.wrap m1) * 2 ^ min (20 : Int).toNat IntKind.u64.bits))] h3 fun (h4 : Heap) =>
  ld [.str, .int .u64] a2 h4 fun (v5 : ByteArray) (v6 : Int) =>
  Q v5 v6 h4
def F_law1_acctsMark (m1 : Int) (h : Heap) (Q : ByteArray → Int → Heap → Prop) : Prop := F_law1_acctsMark_of  m1 h Q
def plan71 : Plan := .s (.r [0, 2]) (.s (.r [2]) .z)
theorem F_law1_acctsMark.eq  (m1 : Int) (h : Heap) (K : Value → Heap → Prop) : F_law1_acctsMark_of  m1 h (fun (r0 : ByteArray) (r1 : Int) (h : Heap) => K (.agg #[.string r0, .int .u64 r1]) h) =
    den Try.prog noFns Try.f71.ntmps plan71 (bodyOf Try.f71) (args0 0 [(.int .i64 m1 : Value)]) h ⟨fun env h => dRes Try.prog Try.f71.results.toList env h K, fun _ _ _ => False, fun env h => dRes Try.prog Try.f71.results.toList env h K⟩ := by kernel_rfl
def E_law1_acctsMark_of (f : Int → Heap → (ByteArray → Int → Heap → Prop) → Prop) : List Value → Heap → (Value → Heap → Prop) → Prop
  | [v0], h, K => dec1 (.int .i64) v0 fun (m1 : Int) =>
  f m1 h (fun (r0 : ByteArray) (r1 : Int) (h : Heap) => K (.agg #[.string r0, .int .u64 r1]) h)
  | _, _, _ => False
abbrev E_law1_acctsMark := E_law1_acctsMark_of F_law1_acctsMark
theorem E_law1_acctsMark.right : IsRight Try.prog 71 E_law1_acctsMark := by
  refine isRight fun vs K w hh => ?_
  match vs, hh with
  | [v0], hh =>
    unfold E_law1_acctsMark E_law1_acctsMark_of at hh
    replace hh := dec1_sound hh; obtain ⟨m1, rfl, hh⟩ := hh
    unfold F_law1_acctsMark at hh
    exact calls_den noFns_right plan71 _ w K Try.func71 (by kernel_rfl) (by kernel_rfl) (Eq.mp (F_law1_acctsMark.eq  m1 w.heap K) hh)
theorem ok71 : okFn Try.prog 71 = true := by kernel_rfl
end Go.Proofs.Ytdjhjpckefkolaa.V
namespace Go.Proofs.Ytdjhjpckefkolaa.V
open Go Go.RowKit
set_option linter.unusedVariables false
set_option maxRecDepth 100000
def F_law1_queueMark_of  (m1 : Int) (h : Heap) (Q : Int → Int → ByteArray → Int → Heap → Prop) : Prop :=
  al 106 [.int .i64 0, .int .u64 0, .string (⟨#[]⟩ : ByteArray), .int .u64 0] h fun (a2 : Addr) (h3 : Heap) =>
  0 ≤ (20 : Int) ∧
  st a2 [.int .i64 0, .int .u64 (IntKind.u64.wrap ((IntKind.u64.wrap m1) * 2 ^ min (20 : Int).toNat IntKind.u64.bits)), .string (⟨#[]⟩ : ByteArray), .int .u64 0] h3 fun (h4 : Heap) =>
  ld [.int .i64, .int .u64, .str, .int .u64] a2 h4 fun (v5 v6 : Int) (v7 : ByteArray) (v8 : Int) =>
  Q v5 v6 v7 v8 h4
def F_law1_queueMark (m1 : Int) (h : Heap) (Q : Int → Int → ByteArray → Int → Heap → Prop) : Prop := F_law1_queueMark_of  m1 h Q
def plan72 : Plan := .s (.r [0, 2]) (.s (.r [2]) .z)
theorem F_law1_queueMark.eq  (m1 : Int) (h : Heap) (K : Value → Heap → Prop) : F_law1_queueMark_of  m1 h (fun (r0 r1 : Int) (r2 : ByteArray) (r3 : Int) (h : Heap) => K (.agg #[.int .i64 r0, .int .u64 r1, .string r2, .int .u64 r3]) h) =
    den Try.prog noFns Try.f72.ntmps plan72 (bodyOf Try.f72) (args0 0 [(.int .i64 m1 : Value)]) h ⟨fun env h => dRes Try.prog Try.f72.results.toList env h K, fun _ _ _ => False, fun env h => dRes Try.prog Try.f72.results.toList env h K⟩ := by kernel_rfl
def E_law1_queueMark_of (f : Int → Heap → (Int → Int → ByteArray → Int → Heap → Prop) → Prop) : List Value → Heap → (Value → Heap → Prop) → Prop
  | [v0], h, K => dec1 (.int .i64) v0 fun (m1 : Int) =>
  f m1 h (fun (r0 r1 : Int) (r2 : ByteArray) (r3 : Int) (h : Heap) => K (.agg #[.int .i64 r0, .int .u64 r1, .string r2, .int .u64 r3]) h)
  | _, _, _ => False
abbrev E_law1_queueMark := E_law1_queueMark_of F_law1_queueMark
theorem E_law1_queueMark.right : IsRight Try.prog 72 E_law1_queueMark := by
  refine isRight fun vs K w hh => ?_
  match vs, hh with
  | [v0], hh =>
    unfold E_law1_queueMark E_law1_queueMark_of at hh
    replace hh := dec1_sound hh; obtain ⟨m1, rfl, hh⟩ := hh
    unfold F_law1_queueMark at hh
    exact calls_den noFns_right plan72 _ w K Try.func72 (by kernel_rfl) (by kernel_rfl) (Eq.mp (F_law1_queueMark.eq  m1 w.heap K) hh)
theorem ok72 : okFn Try.prog 72 = true := by kernel_rfl
end Go.Proofs.Ytdjhjpckefkolaa.V
namespace Go.Proofs.Ytdjhjpckefkolaa.V
open Go Go.RowKit
set_option linter.unusedVariables false
set_option maxRecDepth 100000
def F_law1_slotsMark_of  (m1 : Int) (h : Heap) (Q : Int → Int → Int → Int → Heap → Prop) : Prop :=
  al 110 [.int .u64 0, .int .i64 0, .int .i64 0, .int .u64 0] h fun (a2 : Addr) (h3 : Heap) =>
  0 ≤ (20 : Int) ∧
  st a2 [.int .u64 (IntKind.u64.wrap ((IntKind.u64.wrap m1) * 2 ^ min (20 : Int).toNat IntKind.u64.bits)), .int .i64 0, .int .i64 0, .int .u64 0] h3 fun (h4 : Heap) =>
  ld [.int .u64, .int .i64, .int .i64, .int .u64] a2 h4 fun (v5 v6 v7 v8 : Int) =>
  Q v5 v6 v7 v8 h4
def F_law1_slotsMark (m1 : Int) (h : Heap) (Q : Int → Int → Int → Int → Heap → Prop) : Prop := F_law1_slotsMark_of  m1 h Q
def plan73 : Plan := .s (.r [0, 2]) (.s (.r [2]) .z)
theorem F_law1_slotsMark.eq  (m1 : Int) (h : Heap) (K : Value → Heap → Prop) : F_law1_slotsMark_of  m1 h (fun (r0 r1 r2 r3 : Int) (h : Heap) => K (.agg #[.int .u64 r0, .int .i64 r1, .int .i64 r2, .int .u64 r3]) h) =
    den Try.prog noFns Try.f73.ntmps plan73 (bodyOf Try.f73) (args0 0 [(.int .i64 m1 : Value)]) h ⟨fun env h => dRes Try.prog Try.f73.results.toList env h K, fun _ _ _ => False, fun env h => dRes Try.prog Try.f73.results.toList env h K⟩ := by kernel_rfl
def E_law1_slotsMark_of (f : Int → Heap → (Int → Int → Int → Int → Heap → Prop) → Prop) : List Value → Heap → (Value → Heap → Prop) → Prop
  | [v0], h, K => dec1 (.int .i64) v0 fun (m1 : Int) =>
  f m1 h (fun (r0 r1 r2 r3 : Int) (h : Heap) => K (.agg #[.int .u64 r0, .int .i64 r1, .int .i64 r2, .int .u64 r3]) h)
  | _, _, _ => False
abbrev E_law1_slotsMark := E_law1_slotsMark_of F_law1_slotsMark
theorem E_law1_slotsMark.right : IsRight Try.prog 73 E_law1_slotsMark := by
  refine isRight fun vs K w hh => ?_
  match vs, hh with
  | [v0], hh =>
    unfold E_law1_slotsMark E_law1_slotsMark_of at hh
    replace hh := dec1_sound hh; obtain ⟨m1, rfl, hh⟩ := hh
    unfold F_law1_slotsMark at hh
    exact calls_den noFns_right plan73 _ w K Try.func73 (by kernel_rfl) (by kernel_rfl) (Eq.mp (F_law1_slotsMark.eq  m1 w.heap K) hh)
theorem ok73 : okFn Try.prog 73 = true := by kernel_rfl
end Go.Proofs.Ytdjhjpckefkolaa.V
namespace Go.Proofs.Ytdjhjpckefkolaa.V
open Go Go.RowKit
set_option linter.unusedVariables false
set_option maxRecDepth 100000
def F_law1_Book_told.l1 (f71_ : Int → Heap → (ByteArray → Int → Heap → Prop) → Prop) (b1 : Option Addr) (Q : Bool → Heap → Prop) (i4 : Int) (j9 : Heap → Prop) : Int → Heap → Prop :=
  wl [(4, .one (.int .i64))] (fun (next10 : Int → Heap → Prop) (k11 : Int) (h12 : Heap) =>
  nn b1 fun (a13 : Addr) =>
  ld [.sl] (a13.add 18) h12 fun (v14 : Sl) =>
  ixS 1 v14 i4 fun (a15 : Addr) =>
  ld [.sl] a15 h12 fun (v16 : Sl) =>
  brr (decide (k11 < ((v16.len : Nat) : Int)))
  (nn b1 fun (a17 : Addr) =>
  ld [.sl] (a17.add 18) h12 fun (v18 : Sl) =>
  ixS 1 v18 i4 fun (a19 : Addr) =>
  ld [.sl] a19 h12 fun (v20 : Sl) =>
  ixS 2 v20 k11 fun (a21 : Addr) =>
  ld [.str, .int .u64] a21 h12 fun (v22 : ByteArray) (v23 : Int) =>
  nn b1 fun (a24 : Addr) =>
  ld [.sl] (a24.add 19) h12 fun (v25 : Sl) =>
  ixS 1 v25 i4 fun (a26 : Addr) =>
  ld [.int .i64] a26 h12 fun (v27 : Int) =>
  f71_ v27 h12 fun (r28 : ByteArray) (r29 : Int) (h30 : Heap) =>
  cellsAre h30 (a17.add 18) [.slice v18.ptr v18.len v18.cap] ∧
  cellsAre h30 a19 [.slice v20.ptr v20.len v20.cap] ∧
  cellsAre h30 a21 [.string v22, .int .u64 v23] ∧
  brr (!((v22.toList == r28.toList) && ((v23 == r29) && (true))))
  (Q false h30)
  (next10 (IntKind.i64.wrap (k11 + 1)) h30))
  (j9 h12))
def F_law1_Book_told.l2 (f71_ : Int → Heap → (ByteArray → Int → Heap → Prop) → Prop) (b1 : Option Addr) (Q : Bool → Heap → Prop) (j2 : Heap → Prop) : Int → Heap → Prop :=
  wl [(3, .one (.int .i64))] (fun (next3 : Int → Heap → Prop) (i4 : Int) (h5 : Heap) =>
  nn b1 fun (a6 : Addr) =>
  ld [.sl] (a6.add 18) h5 fun (v7 : Sl) =>
  brr (decide (i4 < ((v7.len : Nat) : Int)))
  (jn [] (fun  (h32 : Heap) =>
  next3 (IntKind.i64.wrap (i4 + 1)) h32) (fun (j8 : Heap → Prop) =>
  jn [] (fun  (h31 : Heap) =>
  j8 h31) (fun (j9 : Heap → Prop) =>
  F_law1_Book_told.l1 f71_ b1 Q i4 j9 0 h5)))
  (j2 h5))
def F_law1_Book_told.l3 (f72_ : Int → Heap → (Int → Int → ByteArray → Int → Heap → Prop) → Prop) (b1 : Option Addr) (Q : Bool → Heap → Prop) (i36 : Int) (j41 : Heap → Prop) : Int → Heap → Prop :=
  wl [(6, .one (.int .i64))] (fun (next42 : Int → Heap → Prop) (k43 : Int) (h44 : Heap) =>
  nn b1 fun (a45 : Addr) =>
  ld [.sl] (a45.add 21) h44 fun (v46 : Sl) =>
  ixS 1 v46 i36 fun (a47 : Addr) =>
  ld [.sl] a47 h44 fun (v48 : Sl) =>
  brr (decide (k43 < ((v48.len : Nat) : Int)))
  (nn b1 fun (a49 : Addr) =>
  ld [.sl] (a49.add 21) h44 fun (v50 : Sl) =>
  ixS 1 v50 i36 fun (a51 : Addr) =>
  ld [.sl] a51 h44 fun (v52 : Sl) =>
  ixS 4 v52 k43 fun (a53 : Addr) =>
  ld [.int .i64, .int .u64, .str, .int .u64] a53 h44 fun (v54 v55 : Int) (v56 : ByteArray) (v57 : Int) =>
  nn b1 fun (a58 : Addr) =>
  ld [.sl] (a58.add 22) h44 fun (v59 : Sl) =>
  ixS 1 v59 i36 fun (a60 : Addr) =>
  ld [.int .i64] a60 h44 fun (v61 : Int) =>
  f72_ v61 h44 fun (r62 r63 : Int) (r64 : ByteArray) (r65 : Int) (h66 : Heap) =>
  cellsAre h66 (a49.add 21) [.slice v50.ptr v50.len v50.cap] ∧
  cellsAre h66 a51 [.slice v52.ptr v52.len v52.cap] ∧
  cellsAre h66 a53 [.int .i64 v54, .int .u64 v55, .string v56, .int .u64 v57] ∧
  brr (!((v54 == r62) && ((v55 == r63) && ((v56.toList == r64.toList) && ((v57 == r65) && (true))))))
  (Q false h66)
  (next42 (IntKind.i64.wrap (k43 + 1)) h66))
  (j41 h44))
def F_law1_Book_told.l4 (f72_ : Int → Heap → (Int → Int → ByteArray → Int → Heap → Prop) → Prop) (b1 : Option Addr) (Q : Bool → Heap → Prop) (j34 : Heap → Prop) : Int → Heap → Prop :=
  wl [(5, .one (.int .i64))] (fun (next35 : Int → Heap → Prop) (i36 : Int) (h37 : Heap) =>
  nn b1 fun (a38 : Addr) =>
  ld [.sl] (a38.add 21) h37 fun (v39 : Sl) =>
  brr (decide (i36 < ((v39.len : Nat) : Int)))
  (jn [] (fun  (h68 : Heap) =>
  next35 (IntKind.i64.wrap (i36 + 1)) h68) (fun (j40 : Heap → Prop) =>
  jn [] (fun  (h67 : Heap) =>
  j40 h67) (fun (j41 : Heap → Prop) =>
  F_law1_Book_told.l3 f72_ b1 Q i36 j41 0 h37)))
  (j34 h37))
def F_law1_Book_told.l5 (f73_ : Int → Heap → (Int → Int → Int → Int → Heap → Prop) → Prop) (b1 : Option Addr) (Q : Bool → Heap → Prop) (i72 : Int) (j77 : Heap → Prop) : Int → Heap → Prop :=
  wl [(8, .one (.int .i64))] (fun (next78 : Int → Heap → Prop) (k79 : Int) (h80 : Heap) =>
  nn b1 fun (a81 : Addr) =>
  ld [.sl] (a81.add 24) h80 fun (v82 : Sl) =>
  ixS 1 v82 i72 fun (a83 : Addr) =>
  ld [.sl] a83 h80 fun (v84 : Sl) =>
  brr (decide (k79 < ((v84.len : Nat) : Int)))
  (nn b1 fun (a85 : Addr) =>
  ld [.sl] (a85.add 24) h80 fun (v86 : Sl) =>
  ixS 1 v86 i72 fun (a87 : Addr) =>
  ld [.sl] a87 h80 fun (v88 : Sl) =>
  ixS 4 v88 k79 fun (a89 : Addr) =>
  ld [.int .u64, .int .i64, .int .i64, .int .u64] a89 h80 fun (v90 v91 v92 v93 : Int) =>
  nn b1 fun (a94 : Addr) =>
  ld [.sl] (a94.add 25) h80 fun (v95 : Sl) =>
  ixS 1 v95 i72 fun (a96 : Addr) =>
  ld [.int .i64] a96 h80 fun (v97 : Int) =>
  f73_ v97 h80 fun (r98 r99 r100 r101 : Int) (h102 : Heap) =>
  cellsAre h102 (a85.add 24) [.slice v86.ptr v86.len v86.cap] ∧
  cellsAre h102 a87 [.slice v88.ptr v88.len v88.cap] ∧
  cellsAre h102 a89 [.int .u64 v90, .int .i64 v91, .int .i64 v92, .int .u64 v93] ∧
  brr (!((v90 == r98) && ((v91 == r99) && ((v92 == r100) && ((v93 == r101) && (true))))))
  (Q false h102)
  (next78 (IntKind.i64.wrap (k79 + 1)) h102))
  (j77 h80))
def F_law1_Book_told.l6 (f73_ : Int → Heap → (Int → Int → Int → Int → Heap → Prop) → Prop) (b1 : Option Addr) (Q : Bool → Heap → Prop) (j70 : Heap → Prop) : Int → Heap → Prop :=
  wl [(7, .one (.int .i64))] (fun (next71 : Int → Heap → Prop) (i72 : Int) (h73 : Heap) =>
  nn b1 fun (a74 : Addr) =>
  ld [.sl] (a74.add 24) h73 fun (v75 : Sl) =>
  brr (decide (i72 < ((v75.len : Nat) : Int)))
  (jn [] (fun  (h104 : Heap) =>
  next71 (IntKind.i64.wrap (i72 + 1)) h104) (fun (j76 : Heap → Prop) =>
  jn [] (fun  (h103 : Heap) =>
  j76 h103) (fun (j77 : Heap → Prop) =>
  F_law1_Book_told.l5 f73_ b1 Q i72 j77 0 h73)))
  (j70 h73))
def F_law1_Book_told.l7 (b1 : Option Addr) (Q : Bool → Heap → Prop) (i108 v116 : Int) (j117 : Heap → Prop) : Int → Heap → Prop :=
  wl [(11, .one (.int .i64))] (fun (next118 : Int → Heap → Prop) (k119 : Int) (h120 : Heap) =>
  nn b1 fun (a121 : Addr) =>
  ld [.sl] (a121.add 27) h120 fun (v122 : Sl) =>
  ixS 1 v122 i108 fun (a123 : Addr) =>
  ld [.sl] a123 h120 fun (v124 : Sl) =>
  brr (decide (k119 < ((v124.len : Nat) : Int)))
  (nn b1 fun (a125 : Addr) =>
  ld [.sl] (a125.add 27) h120 fun (v126 : Sl) =>
  ixS 1 v126 i108 fun (a127 : Addr) =>
  ld [.sl] a127 h120 fun (v128 : Sl) =>
  ixS 22 v128 k119 fun (a129 : Addr) =>
  ld [.int .i64, .int .i64, .int .i64, .int .i64, .int .u64, .int .u64, .int .u64, .int .u64, .int .i64, .int .u64, .sl, .int .i64, .int .u64, .str, .str, .int .u64, .int .u64, .int .u64, .int .i64, .int .i64, .int .i64, .int .i64] a129 h120 fun (v130 v131 v132 v133 v134 v135 v136 v137 v138 v139 : Int) (v140 : Sl) (v141 v142 : Int) (v143 v144 : ByteArray) (v145 v146 v147 v148 v149 v150 v151 : Int) =>
  al 120 [.int .i64 0, .int .i64 0, .int .i64 0, .int .i64 0, .int .u64 0, .int .u64 0, .int .u64 0, .int .u64 0, .int .i64 0, .int .u64 0, .slice none 0 0, .int .i64 0, .int .u64 0, .string (⟨#[]⟩ : ByteArray), .string (⟨#[]⟩ : ByteArray), .int .u64 0, .int .u64 0, .int .u64 0, .int .i64 0, .int .i64 0, .int .i64 0, .int .i64 0] h120 fun (a152 : Addr) (h153 : Heap) =>
  st a152 [.int .i64 v130, .int .i64 v131, .int .i64 v132, .int .i64 v133, .int .u64 v134, .int .u64 v135, .int .u64 v136, .int .u64 v137, .int .i64 v138, .int .u64 v139, .slice v140.ptr v140.len v140.cap, .int .i64 v141, .int .u64 v142, .string v143, .string v144, .int .u64 v145, .int .u64 v146, .int .u64 v147, .int .i64 v148, .int .i64 v149, .int .i64 v150, .int .i64 v151] h153 fun (h154 : Heap) =>
  jn [(193, .one .bool)] (fun (x160 : Bool) (h161 : Heap) =>
  brr x160
  (Q false h161)
  (next118 (IntKind.i64.wrap (k119 + 1)) h161)) (fun (j155 : Bool → Heap → Prop) =>
  ld [.int .i64] ((a152.add 0).add 0) h154 fun (v156 : Int) =>
  brr (v156 == (IntKind.i64.wrap (1000 + v116)))
  (ld [.sl] (a152.add 10) h154 fun (v157 : Sl) =>
  brr (((v157.len : Nat) : Int) == 0)
  (ld [.int .u64] (a152.add 4) h154 fun (v158 : Int) =>
  brr (v158 == 0)
  (ld [.str] (a152.add 13) h154 fun (v159 : ByteArray) =>
  j155 (!(v159.toList == (⟨#[]⟩ : ByteArray).toList)) h154)
  (j155 (!false) h154))
  (j155 (!false) h154))
  (j155 (!false) h154)))
  (j117 h120))
def F_law1_Book_told.l8 (b1 : Option Addr) (Q : Bool → Heap → Prop) (j106 : Heap → Prop) : Int → Heap → Prop :=
  wl [(9, .one (.int .i64))] (fun (next107 : Int → Heap → Prop) (i108 : Int) (h109 : Heap) =>
  nn b1 fun (a110 : Addr) =>
  ld [.sl] (a110.add 27) h109 fun (v111 : Sl) =>
  brr (decide (i108 < ((v111.len : Nat) : Int)))
  (jn [] (fun  (h163 : Heap) =>
  next107 (IntKind.i64.wrap (i108 + 1)) h163) (fun (j112 : Heap → Prop) =>
  nn b1 fun (a113 : Addr) =>
  ld [.sl] (a113.add 28) h109 fun (v114 : Sl) =>
  ixS 1 v114 i108 fun (a115 : Addr) =>
  ld [.int .i64] a115 h109 fun (v116 : Int) =>
  jn [] (fun  (h162 : Heap) =>
  j112 h162) (fun (j117 : Heap → Prop) =>
  F_law1_Book_told.l7 b1 Q i108 v116 j117 0 h109)))
  (j106 h109))
def F_law1_Book_told_of (f71_ : Int → Heap → (ByteArray → Int → Heap → Prop) → Prop) (f72_ : Int → Heap → (Int → Int → ByteArray → Int → Heap → Prop) → Prop) (f73_ : Int → Heap → (Int → Int → Int → Int → Heap → Prop) → Prop) (b1 : Option Addr) (h : Heap) (Q : Bool → Heap → Prop) : Prop :=
  jn [] (fun  (h33 : Heap) =>
  jn [] (fun  (h69 : Heap) =>
  jn [] (fun  (h105 : Heap) =>
  jn [] (fun  (h164 : Heap) =>
  Q true h164) (fun (j106 : Heap → Prop) =>
  F_law1_Book_told.l8 b1 Q j106 0 h105)) (fun (j70 : Heap → Prop) =>
  F_law1_Book_told.l6 f73_ b1 Q j70 0 h69)) (fun (j34 : Heap → Prop) =>
  F_law1_Book_told.l4 f72_ b1 Q j34 0 h33)) (fun (j2 : Heap → Prop) =>
  F_law1_Book_told.l2 f71_ b1 Q j2 0 h)
def F_law1_Book_told (b1 : Option Addr) (h : Heap) (Q : Bool → Heap → Prop) : Prop := F_law1_Book_told_of F_law1_acctsMark F_law1_queueMark F_law1_slotsMark b1 h Q
def plan52 : Plan := .s (.r [0]) (.s (.s (.r [0, 3]) (.bj [] [0] (.l [(3, .one (.int .i64))] [0] (.s (.s (.r [0, 3, 19]) (.c .z .z)) (.s (.bj [] [0, 3] (.s (.r [0, 3, 4]) (.bj [] [0, 3] (.l [(4, .one (.int .i64))] [0, 3] (.s (.s (.r [0, 3, 4, 31]) (.c .z .z)) (.s (.b (.s (.d [0, 1, 3, 7, 0, 31, 63, 0, 255, 511, 0, 1024, 3072, 7168, 0, 31744, 64512, 130048, 262143] [[0, 1, 2, 3, 4, 5, 6, 7, 8, 9, 10, 11, 12, 13, 14, 15, 16, 17, 18]] [0, 3, 4, 52]) (.c (.s (.r [2]) .z) .z))) (.r [0, 3, 4]))))))) (.r [0, 3])))))) (.s (.s (.r [0, 5]) (.bj [] [0] (.l [(5, .one (.int .i64))] [0] (.s (.s (.r [0, 5, 59]) (.c .z .z)) (.s (.bj [] [0, 5] (.s (.r [0, 5, 6]) (.bj [] [0, 5] (.l [(6, .one (.int .i64))] [0, 5] (.s (.s (.r [0, 5, 6, 71]) (.c .z .z)) (.s (.b (.s (.d [0, 1, 3, 7, 0, 31, 63, 0, 255, 511, 0, 1024, 3072, 7168, 0, 31744, 64512, 130048, 262143] [[0, 1, 2, 3, 4, 5, 6, 7, 8, 9, 10, 11, 12, 13, 14, 15, 16, 17, 18]] [0, 5, 6, 92]) (.c (.s (.r [2]) .z) .z))) (.r [0, 5, 6]))))))) (.r [0, 5])))))) (.s (.s (.r [0, 7]) (.bj [] [0] (.l [(7, .one (.int .i64))] [0] (.s (.s (.r [0, 7, 99]) (.c .z .z)) (.s (.bj [] [0, 7] (.s (.r [0, 7, 8]) (.bj [] [0, 7] (.l [(8, .one (.int .i64))] [0, 7] (.s (.s (.r [0, 7, 8, 111]) (.c .z .z)) (.s (.b (.s (.d [0, 1, 3, 7, 0, 31, 63, 0, 255, 511, 0, 1024, 3072, 7168, 0, 31744, 64512, 130048, 262143] [[0, 1, 2, 3, 4, 5, 6, 7, 8, 9, 10, 11, 12, 13, 14, 15, 16, 17, 18]] [0, 7, 8, 132]) (.c (.s (.r [2]) .z) .z))) (.r [0, 7, 8]))))))) (.r [0, 7])))))) (.s (.s (.r [0, 9]) (.bj [] [] (.l [(9, .one (.int .i64))] [0] (.s (.s (.r [0, 9, 139]) (.c .z .z)) (.s (.bj [] [0, 9] (.s (.r [0, 9, 10]) (.s (.r [0, 9, 10, 11]) (.bj [] [0, 9] (.l [(11, .one (.int .i64))] [0, 9, 10] (.s (.s (.r [0, 9, 10, 11, 158]) (.c .z .z)) (.s (.b (.s (.r [0, 9, 10, 11, 12]) (.s (.rj [(193, .one .bool)] [0, 9, 10, 11]) (.c (.s (.r [2]) .z) .z)))) (.r [0, 9, 10, 11])))))))) (.r [0, 9])))))) (.s (.r [2]) .z)))))
theorem F_law1_Book_told.eq (f71_ : Int → Heap → (ByteArray → Int → Heap → Prop) → Prop) (f72_ : Int → Heap → (Int → Int → ByteArray → Int → Heap → Prop) → Prop) (f73_ : Int → Heap → (Int → Int → Int → Int → Heap → Prop) → Prop) (b1 : Option Addr) (h : Heap) (K : Value → Heap → Prop) : F_law1_Book_told_of f71_ f72_ f73_ b1 h (fun (r0 : Bool) (h : Heap) => K (.bool r0) h) =
    den Try.prog (fn1 71 (E_law1_acctsMark_of f71_) (fn1 72 (E_law1_queueMark_of f72_) (fn1 73 (E_law1_slotsMark_of f73_) noFns))) Try.f52.ntmps plan52 (bodyOf Try.f52) (args0 0 [(.pointer b1 : Value)]) h ⟨fun env h => dRes Try.prog Try.f52.results.toList env h K, fun _ _ _ => False, fun env h => dRes Try.prog Try.f52.results.toList env h K⟩ := by kernel_rfl
def E_law1_Book_told_of (f : Option Addr → Heap → (Bool → Heap → Prop) → Prop) : List Value → Heap → (Value → Heap → Prop) → Prop
  | [v0], h, K => dec1 .ptr v0 fun (b1 : Option Addr) =>
  f b1 h (fun (r0 : Bool) (h : Heap) => K (.bool r0) h)
  | _, _, _ => False
abbrev E_law1_Book_told := E_law1_Book_told_of F_law1_Book_told
theorem E_law1_Book_told.right : IsRight Try.prog 52 E_law1_Book_told := by
  refine isRight fun vs K w hh => ?_
  match vs, hh with
  | [v0], hh =>
    unfold E_law1_Book_told E_law1_Book_told_of at hh
    replace hh := dec1_sound hh; obtain ⟨b1, rfl, hh⟩ := hh
    unfold F_law1_Book_told at hh
    exact calls_den (fn1_right ok71 E_law1_acctsMark.right (fn1_right ok72 E_law1_queueMark.right (fn1_right ok73 E_law1_slotsMark.right noFns_right))) plan52 _ w K Try.func52 (by kernel_rfl) (by kernel_rfl) (Eq.mp (F_law1_Book_told.eq F_law1_acctsMark F_law1_queueMark F_law1_slotsMark b1 w.heap K) hh)
theorem ok52 : okFn Try.prog 52 = true := by kernel_rfl
end Go.Proofs.Ytdjhjpckefkolaa.V
namespace Go.Proofs.Ytdjhjpckefkolaa.V
open Go Go.RowKit
set_option linter.unusedVariables false
set_option maxRecDepth 100000
def F_law1_filesMark_of (f48_ : Int → Int → Heap → (Int → Heap → Prop) → Prop) (m1 : Int) (h : Heap) (Q : ByteArray → Sl → Heap → Prop) : Prop :=
  al 126 [.string (⟨#[]⟩ : ByteArray), .slice none 0 0] h fun (a2 : Addr) (h3 : Heap) =>
  f48_ m1 0 h3 fun (r4 : Int) (h5 : Heap) =>
  f48_ m1 1 h5 fun (r6 : Int) (h7 : Heap) =>
  al 5 [.int .u8 r4, .int .u8 r6, .int .u8 33] h7 fun (a8 : Addr) (h9 : Heap) =>
  b2s (some a8) 3 h9 fun (s10 : ByteArray) =>
  st a2 [.string s10, .slice none 0 0] h9 fun (h11 : Heap) =>
  ld [.str, .sl] a2 h11 fun (v12 : ByteArray) (v13 : Sl) =>
  Q v12 v13 h11
def F_law1_filesMark (m1 : Int) (h : Heap) (Q : ByteArray → Sl → Heap → Prop) : Prop := F_law1_filesMark_of F_law1_at m1 h Q
def plan74 : Plan := .s (.r [0, 2]) (.s (.r [2]) .z)
theorem F_law1_filesMark.eq (f48_ : Int → Int → Heap → (Int → Heap → Prop) → Prop) (m1 : Int) (h : Heap) (K : Value → Heap → Prop) : F_law1_filesMark_of f48_ m1 h (fun (r0 : ByteArray) (r1 : Sl) (h : Heap) => K (.agg #[.string r0, .slice r1.ptr r1.len r1.cap]) h) =
    den Try.prog (fn1 48 (E_law1_at_of f48_) noFns) Try.f74.ntmps plan74 (bodyOf Try.f74) (args0 0 [(.int .i64 m1 : Value)]) h ⟨fun env h => dRes Try.prog Try.f74.results.toList env h K, fun _ _ _ => False, fun env h => dRes Try.prog Try.f74.results.toList env h K⟩ := by kernel_rfl
def E_law1_filesMark_of (f : Int → Heap → (ByteArray → Sl → Heap → Prop) → Prop) : List Value → Heap → (Value → Heap → Prop) → Prop
  | [v0], h, K => dec1 (.int .i64) v0 fun (m1 : Int) =>
  f m1 h (fun (r0 : ByteArray) (r1 : Sl) (h : Heap) => K (.agg #[.string r0, .slice r1.ptr r1.len r1.cap]) h)
  | _, _, _ => False
abbrev E_law1_filesMark := E_law1_filesMark_of F_law1_filesMark
theorem E_law1_filesMark.right : IsRight Try.prog 74 E_law1_filesMark := by
  refine isRight fun vs K w hh => ?_
  match vs, hh with
  | [v0], hh =>
    unfold E_law1_filesMark E_law1_filesMark_of at hh
    replace hh := dec1_sound hh; obtain ⟨m1, rfl, hh⟩ := hh
    unfold F_law1_filesMark at hh
    exact calls_den (fn1_right ok48 E_law1_at.right noFns_right) plan74 _ w K Try.func74 (by kernel_rfl) (by kernel_rfl) (Eq.mp (F_law1_filesMark.eq F_law1_at m1 w.heap K) hh)
theorem ok74 : okFn Try.prog 74 = true := by kernel_rfl
end Go.Proofs.Ytdjhjpckefkolaa.V
namespace Go.Proofs.Ytdjhjpckefkolaa.V
open Go Go.RowKit
set_option linter.unusedVariables false
set_option maxRecDepth 100000
def F_law1_Book_held.l1 (b1 : Option Addr) (Q : Bool → Heap → Prop) (i4 v12 : Int) (j13 : Heap → Prop) : Int → Heap → Prop :=
  wl [(5, .one (.int .i64))] (fun (next14 : Int → Heap → Prop) (k15 : Int) (h16 : Heap) =>
  nn b1 fun (a17 : Addr) =>
  ld [.sl] (a17.add 30) h16 fun (v18 : Sl) =>
  ixS 1 v18 i4 fun (a19 : Addr) =>
  ld [.sl] a19 h16 fun (v20 : Sl) =>
  brr (decide (k15 < ((v20.len : Nat) : Int)))
  (nn b1 fun (a21 : Addr) =>
  ld [.sl] (a21.add 30) h16 fun (v22 : Sl) =>
  ixS 1 v22 i4 fun (a23 : Addr) =>
  ld [.sl] a23 h16 fun (v24 : Sl) =>
  ixS 2 v24 k15 fun (a25 : Addr) =>
  ld [.int .i64, .sl] a25 h16 fun (v26 : Int) (v27 : Sl) =>
  al 123 [.int .i64 0, .slice none 0 0] h16 fun (a28 : Addr) (h29 : Heap) =>
  st a28 [.int .i64 v26, .slice v27.ptr v27.len v27.cap] h29 fun (h30 : Heap) =>
  jn [(60, .one .bool)] (fun (x34 : Bool) (h35 : Heap) =>
  brr x34
  (Q false h35)
  (next14 (IntKind.i64.wrap (k15 + 1)) h35)) (fun (j31 : Bool → Heap → Prop) =>
  ld [.int .i64] (a28.add 0) h30 fun (v32 : Int) =>
  brr (v32 == (IntKind.i64.wrap (1000 + v12)))
  (ld [.sl] (a28.add 1) h30 fun (v33 : Sl) =>
  j31 (!(((v33.len : Nat) : Int) == 0)) h30)
  (j31 (!false) h30)))
  (j13 h16))
def F_law1_Book_held.l2 (b1 : Option Addr) (Q : Bool → Heap → Prop) (j2 : Heap → Prop) : Int → Heap → Prop :=
  wl [(3, .one (.int .i64))] (fun (next3 : Int → Heap → Prop) (i4 : Int) (h5 : Heap) =>
  nn b1 fun (a6 : Addr) =>
  ld [.sl] (a6.add 30) h5 fun (v7 : Sl) =>
  brr (decide (i4 < ((v7.len : Nat) : Int)))
  (jn [] (fun  (h37 : Heap) =>
  next3 (IntKind.i64.wrap (i4 + 1)) h37) (fun (j8 : Heap → Prop) =>
  nn b1 fun (a9 : Addr) =>
  ld [.sl] (a9.add 31) h5 fun (v10 : Sl) =>
  ixS 1 v10 i4 fun (a11 : Addr) =>
  ld [.int .i64] a11 h5 fun (v12 : Int) =>
  jn [] (fun  (h36 : Heap) =>
  j8 h36) (fun (j13 : Heap → Prop) =>
  F_law1_Book_held.l1 b1 Q i4 v12 j13 0 h5)))
  (j2 h5))
def F_law1_Book_held.l3 (f74_ : Int → Heap → (ByteArray → Sl → Heap → Prop) → Prop) (b1 : Option Addr) (Q : Bool → Heap → Prop) (i41 v49 : Int) (j50 : Heap → Prop) : Int → Heap → Prop :=
  wl [(9, .one (.int .i64))] (fun (next51 : Int → Heap → Prop) (k52 : Int) (h53 : Heap) =>
  nn b1 fun (a54 : Addr) =>
  ld [.sl] (a54.add 33) h53 fun (v55 : Sl) =>
  ixS 1 v55 i41 fun (a56 : Addr) =>
  ld [.sl] a56 h53 fun (v57 : Sl) =>
  brr (decide (k52 < ((v57.len : Nat) : Int)))
  (nn b1 fun (a58 : Addr) =>
  ld [.sl] (a58.add 33) h53 fun (v59 : Sl) =>
  ixS 1 v59 i41 fun (a60 : Addr) =>
  ld [.sl] a60 h53 fun (v61 : Sl) =>
  ixS 2 v61 k52 fun (a62 : Addr) =>
  ld [.str, .sl] a62 h53 fun (v63 : ByteArray) (v64 : Sl) =>
  al 126 [.string (⟨#[]⟩ : ByteArray), .slice none 0 0] h53 fun (a65 : Addr) (h66 : Heap) =>
  st a65 [.string v63, .slice v64.ptr v64.len v64.cap] h66 fun (h67 : Heap) =>
  jn [(111, .one .bool)] (fun (x74 : Bool) (h75 : Heap) =>
  brr x74
  (Q false h75)
  (next51 (IntKind.i64.wrap (k52 + 1)) h75)) (fun (j68 : Bool → Heap → Prop) =>
  ld [.str] (a65.add 0) h67 fun (v69 : ByteArray) =>
  f74_ v49 h67 fun (r70 : ByteArray) (r71 : Sl) (h72 : Heap) =>
  cellsAre h72 (a65.add 0) [.string v69] ∧
  brr (v69.toList == r70.toList)
  (ld [.sl] (a65.add 1) h72 fun (v73 : Sl) =>
  j68 (!(((v73.len : Nat) : Int) == 0)) h72)
  (j68 (!false) h72)))
  (j50 h53))
def F_law1_Book_held.l4 (f74_ : Int → Heap → (ByteArray → Sl → Heap → Prop) → Prop) (b1 : Option Addr) (Q : Bool → Heap → Prop) (j39 : Heap → Prop) : Int → Heap → Prop :=
  wl [(7, .one (.int .i64))] (fun (next40 : Int → Heap → Prop) (i41 : Int) (h42 : Heap) =>
  nn b1 fun (a43 : Addr) =>
  ld [.sl] (a43.add 33) h42 fun (v44 : Sl) =>
  brr (decide (i41 < ((v44.len : Nat) : Int)))
  (jn [] (fun  (h77 : Heap) =>
  next40 (IntKind.i64.wrap (i41 + 1)) h77) (fun (j45 : Heap → Prop) =>
  nn b1 fun (a46 : Addr) =>
  ld [.sl] (a46.add 34) h42 fun (v47 : Sl) =>
  ixS 1 v47 i41 fun (a48 : Addr) =>
  ld [.int .i64] a48 h42 fun (v49 : Int) =>
  jn [] (fun  (h76 : Heap) =>
  j45 h76) (fun (j50 : Heap → Prop) =>
  F_law1_Book_held.l3 f74_ b1 Q i41 v49 j50 0 h42)))
  (j39 h42))
def F_law1_Book_held_of (f74_ : Int → Heap → (ByteArray → Sl → Heap → Prop) → Prop) (b1 : Option Addr) (h : Heap) (Q : Bool → Heap → Prop) : Prop :=
  jn [] (fun  (h38 : Heap) =>
  jn [] (fun  (h78 : Heap) =>
  Q true h78) (fun (j39 : Heap → Prop) =>
  F_law1_Book_held.l4 f74_ b1 Q j39 0 h38)) (fun (j2 : Heap → Prop) =>
  F_law1_Book_held.l2 b1 Q j2 0 h)
def F_law1_Book_held (b1 : Option Addr) (h : Heap) (Q : Bool → Heap → Prop) : Prop := F_law1_Book_held_of F_law1_filesMark b1 h Q
def plan53 : Plan := .s (.r [0]) (.s (.s (.r [0, 3]) (.bj [] [0] (.l [(3, .one (.int .i64))] [0] (.s (.s (.r [0, 3, 17]) (.c .z .z)) (.s (.bj [] [0, 3] (.s (.r [0, 3, 4]) (.s (.r [0, 3, 4, 5]) (.bj [] [0, 3] (.l [(5, .one (.int .i64))] [0, 3, 4] (.s (.s (.r [0, 3, 4, 5, 36]) (.c .z .z)) (.s (.b (.s (.r [0, 3, 4, 5, 6]) (.s (.rj [(60, .one .bool)] [0, 3, 4, 5]) (.c (.s (.r [2]) .z) .z)))) (.r [0, 3, 4, 5])))))))) (.r [0, 3])))))) (.s (.s (.r [0, 7]) (.bj [] [] (.l [(7, .one (.int .i64))] [0] (.s (.s (.r [0, 7, 67]) (.c .z .z)) (.s (.bj [] [0, 7] (.s (.r [0, 7, 8]) (.s (.r [0, 7, 8, 9]) (.bj [] [0, 7] (.l [(9, .one (.int .i64))] [0, 7, 8] (.s (.s (.r [0, 7, 8, 9, 86]) (.c .z .z)) (.s (.b (.s (.r [0, 7, 8, 9, 10]) (.s (.dj [0, 1, 0, 4, 12, 31, 63, 127, 255, 511, 1023, 2047, 4095] [[0, 1, 2, 3, 4, 5, 6, 7, 8, 9, 10, 11, 12]] [(111, .one .bool)] [0, 7, 8, 9]) (.c (.s (.r [2]) .z) .z)))) (.r [0, 7, 8, 9])))))))) (.r [0, 7])))))) (.s (.r [2]) .z)))
theorem F_law1_Book_held.eq (f74_ : Int → Heap → (ByteArray → Sl → Heap → Prop) → Prop) (b1 : Option Addr) (h : Heap) (K : Value → Heap → Prop) : F_law1_Book_held_of f74_ b1 h (fun (r0 : Bool) (h : Heap) => K (.bool r0) h) =
    den Try.prog (fn1 74 (E_law1_filesMark_of f74_) noFns) Try.f53.ntmps plan53 (bodyOf Try.f53) (args0 0 [(.pointer b1 : Value)]) h ⟨fun env h => dRes Try.prog Try.f53.results.toList env h K, fun _ _ _ => False, fun env h => dRes Try.prog Try.f53.results.toList env h K⟩ := by kernel_rfl
def E_law1_Book_held_of (f : Option Addr → Heap → (Bool → Heap → Prop) → Prop) : List Value → Heap → (Value → Heap → Prop) → Prop
  | [v0], h, K => dec1 .ptr v0 fun (b1 : Option Addr) =>
  f b1 h (fun (r0 : Bool) (h : Heap) => K (.bool r0) h)
  | _, _, _ => False
abbrev E_law1_Book_held := E_law1_Book_held_of F_law1_Book_held
theorem E_law1_Book_held.right : IsRight Try.prog 53 E_law1_Book_held := by
  refine isRight fun vs K w hh => ?_
  match vs, hh with
  | [v0], hh =>
    unfold E_law1_Book_held E_law1_Book_held_of at hh
    replace hh := dec1_sound hh; obtain ⟨b1, rfl, hh⟩ := hh
    unfold F_law1_Book_held at hh
    exact calls_den (fn1_right ok74 E_law1_filesMark.right noFns_right) plan53 _ w K Try.func53 (by kernel_rfl) (by kernel_rfl) (Eq.mp (F_law1_Book_held.eq F_law1_filesMark b1 w.heap K) hh)
theorem ok53 : okFn Try.prog 53 = true := by kernel_rfl
end Go.Proofs.Ytdjhjpckefkolaa.V
namespace Go.Proofs.Ytdjhjpckefkolaa.V
open Go Go.RowKit
set_option linter.unusedVariables false
set_option maxRecDepth 100000
def F_law1_Book_holds_of (f50_ : Option Addr → Heap → (Bool → Heap → Prop) → Prop) (f51_ : Option Addr → Heap → (Bool → Heap → Prop) → Prop) (f52_ : Option Addr → Heap → (Bool → Heap → Prop) → Prop) (f53_ : Option Addr → Heap → (Bool → Heap → Prop) → Prop) (b1 : Option Addr) (h : Heap) (Q : Bool → Heap → Prop) : Prop :=
  jn [(2, .one .bool)] (fun (x11 : Bool) (h12 : Heap) =>
  Q x11 h12) (fun (j2 : Bool → Heap → Prop) =>
  f50_ b1 h fun (r3 : Bool) (h4 : Heap) =>
  brr r3
  (f51_ b1 h4 fun (r5 : Bool) (h6 : Heap) =>
  brr r5
  (f52_ b1 h6 fun (r7 : Bool) (h8 : Heap) =>
  brr r7
  (f53_ b1 h8 fun (r9 : Bool) (h10 : Heap) =>
  j2 r9 h10)
  (j2 false h8))
  (j2 false h6))
  (j2 false h4))
def F_law1_Book_holds (b1 : Option Addr) (h : Heap) (Q : Bool → Heap → Prop) : Prop := F_law1_Book_holds_of F_law1_Book_plain F_law1_Book_kept F_law1_Book_told F_law1_Book_held b1 h Q
def plan41 : Plan := .s (.r [0]) (.s (.rj [(2, .one .bool)] []) .z)
theorem F_law1_Book_holds.eq (f50_ : Option Addr → Heap → (Bool → Heap → Prop) → Prop) (f51_ : Option Addr → Heap → (Bool → Heap → Prop) → Prop) (f52_ : Option Addr → Heap → (Bool → Heap → Prop) → Prop) (f53_ : Option Addr → Heap → (Bool → Heap → Prop) → Prop) (b1 : Option Addr) (h : Heap) (K : Value → Heap → Prop) : F_law1_Book_holds_of f50_ f51_ f52_ f53_ b1 h (fun (r0 : Bool) (h : Heap) => K (.bool r0) h) =
    den Try.prog (fn1 50 (E_law1_Book_plain_of f50_) (fn1 51 (E_law1_Book_kept_of f51_) (fn1 52 (E_law1_Book_told_of f52_) (fn1 53 (E_law1_Book_held_of f53_) noFns)))) Try.f41.ntmps plan41 (bodyOf Try.f41) (args0 0 [(.pointer b1 : Value)]) h ⟨fun env h => dRes Try.prog Try.f41.results.toList env h K, fun _ _ _ => False, fun env h => dRes Try.prog Try.f41.results.toList env h K⟩ := by kernel_rfl
def E_law1_Book_holds_of (f : Option Addr → Heap → (Bool → Heap → Prop) → Prop) : List Value → Heap → (Value → Heap → Prop) → Prop
  | [v0], h, K => dec1 .ptr v0 fun (b1 : Option Addr) =>
  f b1 h (fun (r0 : Bool) (h : Heap) => K (.bool r0) h)
  | _, _, _ => False
abbrev E_law1_Book_holds := E_law1_Book_holds_of F_law1_Book_holds
theorem E_law1_Book_holds.right : IsRight Try.prog 41 E_law1_Book_holds := by
  refine isRight fun vs K w hh => ?_
  match vs, hh with
  | [v0], hh =>
    unfold E_law1_Book_holds E_law1_Book_holds_of at hh
    replace hh := dec1_sound hh; obtain ⟨b1, rfl, hh⟩ := hh
    unfold F_law1_Book_holds at hh
    exact calls_den (fn1_right ok50 E_law1_Book_plain.right (fn1_right ok51 E_law1_Book_kept.right (fn1_right ok52 E_law1_Book_told.right (fn1_right ok53 E_law1_Book_held.right noFns_right)))) plan41 _ w K Try.func41 (by kernel_rfl) (by kernel_rfl) (Eq.mp (F_law1_Book_holds.eq F_law1_Book_plain F_law1_Book_kept F_law1_Book_told F_law1_Book_held b1 w.heap K) hh)
theorem ok41 : okFn Try.prog 41 = true := by kernel_rfl
end Go.Proofs.Ytdjhjpckefkolaa.V
namespace Go.Proofs.Ytdjhjpckefkolaa.V
open Go Go.RowKit
set_option linter.unusedVariables false
set_option maxRecDepth 100000
def F_law1_Book_growBytes.l1 (f48_ : Int → Int → Heap → (Int → Heap → Prop) → Prop) (b1 : Option Addr) (v18 : Int) (j19 : Heap → Prop) : Sl → Int → Heap → Prop :=
  wl [(4, .one .sl), (6, .one (.int .i64))] (fun (next20 : Sl → Int → Heap → Prop) (g21 : Sl) (i22 : Int) (h23 : Heap) =>
  brr (decide (i22 ≤ 96))
  (f48_ v18 ((g21.len : Nat) : Int) h23 fun (r24 : Int) (h25 : Heap) =>
  al 5 [.int .u8 r24] h25 fun (a26 : Addr) (h27 : Heap) =>
  app 5 1 1 (.int .u8 0) g21 (some a26) 1 h27 fun (s28 : Sl) (h29 : Heap) =>
  jn [(52, .one .bool)] (fun (x31 : Bool) (h32 : Heap) =>
  jn [] (fun  (h50 : Heap) =>
  next20 s28 (IntKind.i64.wrap (i22 + 1)) h50) (fun (j33 : Heap → Prop) =>
  brr x31
  (nn b1 fun (a34 : Addr) =>
  ld [.sl] (a34.add 0) h32 fun (v35 : Sl) =>
  al 22 [.slice s28.ptr s28.len s28.cap] h32 fun (a36 : Addr) (h37 : Heap) =>
  app 22 1 24 (.slice none 0 0) v35 (some a36) 1 h37 fun (s38 : Sl) (h39 : Heap) =>
  nn b1 fun (a40 : Addr) =>
  st (a40.add 0) [.slice s38.ptr s38.len s38.cap] h39 fun (h41 : Heap) =>
  nn b1 fun (a42 : Addr) =>
  ld [.sl] (a42.add 1) h41 fun (v43 : Sl) =>
  al 3 [.int .i64 v18] h41 fun (a44 : Addr) (h45 : Heap) =>
  app 3 1 8 (.int .i64 0) v43 (some a44) 1 h45 fun (s46 : Sl) (h47 : Heap) =>
  nn b1 fun (a48 : Addr) =>
  st (a48.add 1) [.slice s46.ptr s46.len s46.cap] h47 fun (h49 : Heap) =>
  j33 h49)
  (j33 h32))) (fun (j30 : Bool → Heap → Prop) =>
  brr (decide (i22 < 4))
  (j30 true h29)
  ((16 : Int) ≠ 0 ∧
  j30 ((i22.tmod 16) == 0) h29)))
  (j19 h23))
def F_law1_Book_growBytes.l2 (f48_ : Int → Int → Heap → (Int → Heap → Prop) → Prop) (b1 : Option Addr) (v3 : Sl) (j6 : Heap → Prop) : Int → Heap → Prop :=
  wl [(3, .one (.int .i64))] (fun (next7 : Int → Heap → Prop) (k8 : Int) (h9 : Heap) =>
  brr (decide (k8 < ((v3.len : Nat) : Int)))
  (jn [] (fun  (h52 : Heap) =>
  next7 (IntKind.i64.wrap (k8 + 1)) h52) (fun (j10 : Heap → Prop) =>
  nn b1 fun (a11 : Addr) =>
  ld [.sl] (a11.add 0) h9 fun (v12 : Sl) =>
  ixS 1 v12 k8 fun (a13 : Addr) =>
  ld [.sl] a13 h9 fun (v14 : Sl) =>
  nn b1 fun (a15 : Addr) =>
  ld [.sl] (a15.add 1) h9 fun (v16 : Sl) =>
  ixS 1 v16 k8 fun (a17 : Addr) =>
  ld [.int .i64] a17 h9 fun (v18 : Int) =>
  jn [] (fun  (h51 : Heap) =>
  j10 h51) (fun (j19 : Heap → Prop) =>
  F_law1_Book_growBytes.l1 f48_ b1 v18 j19 v14 1 h9)))
  (j6 h9))
def F_law1_Book_growBytes_of (f48_ : Int → Int → Heap → (Int → Heap → Prop) → Prop) (b1 : Option Addr) (h : Heap) (Q : Heap → Prop) : Prop :=
  nn b1 fun (a2 : Addr) =>
  ld [.sl] (a2.add 0) h fun (v3 : Sl) =>
  nn b1 fun (a4 : Addr) =>
  ld [.int .i64] (a4.add 2) h fun (v5 : Int) =>
  jn [] (fun  (h53 : Heap) =>
  nn b1 fun (a54 : Addr) =>
  ld [.sl] (a54.add 0) h53 fun (v55 : Sl) =>
  nn b1 fun (a56 : Addr) =>
  st (a56.add 2) [.int .i64 ((v55.len : Nat) : Int)] h53 fun (h57 : Heap) =>
  Q h57) (fun (j6 : Heap → Prop) =>
  F_law1_Book_growBytes.l2 f48_ b1 v3 j6 v5 h)
def F_law1_Book_growBytes (b1 : Option Addr) (h : Heap) (Q : Heap → Prop) : Prop := F_law1_Book_growBytes_of F_law1_at b1 h Q
def plan54 : Plan := .s (.r [0, 2]) (.s (.s (.r [0, 2, 3]) (.bj [] [0] (.l [(3, .one (.int .i64))] [0, 2] (.s (.s (.r [0, 2, 3, 18]) (.c .z .z)) (.s (.bj [] [0, 2, 3] (.s (.r [0, 2, 3, 4]) (.s (.r [0, 2, 3, 4, 5]) (.s (.r [0, 2, 3, 4, 5, 6]) (.bj [] [0, 2, 3] (.l [(4, .one .sl), (6, .one (.int .i64))] [0, 2, 3, 5] (.s (.s (.r [0, 2, 3, 4, 5, 6, 36]) (.c .z .z)) (.s (.b (.s (.r [0, 2, 3, 4, 5, 6]) (.s (.rj [(52, .one .bool)] [0, 2, 3, 4, 5, 6]) (.cj [] [0, 2, 3, 4, 5, 6] (.s (.r [0, 2, 3, 4, 5, 6]) (.r [0, 2, 3, 4, 5, 6])) .z)))) (.r [0, 2, 3, 4, 5, 6]))))))))) (.r [0, 2, 3])))))) (.r []))
theorem F_law1_Book_growBytes.eq (f48_ : Int → Int → Heap → (Int → Heap → Prop) → Prop) (b1 : Option Addr) (h : Heap) (K : Value → Heap → Prop) : F_law1_Book_growBytes_of f48_ b1 h (fun  (h : Heap) => K (.tuple #[]) h) =
    den Try.prog (fn1 48 (E_law1_at_of f48_) noFns) Try.f54.ntmps plan54 (bodyOf Try.f54) (args0 0 [(.pointer b1 : Value)]) h ⟨fun env h => dRes Try.prog Try.f54.results.toList env h K, fun _ _ _ => False, fun env h => dRes Try.prog Try.f54.results.toList env h K⟩ := by kernel_rfl
def E_law1_Book_growBytes_of (f : Option Addr → Heap → (Heap → Prop) → Prop) : List Value → Heap → (Value → Heap → Prop) → Prop
  | [v0], h, K => dec1 .ptr v0 fun (b1 : Option Addr) =>
  f b1 h (fun  (h : Heap) => K (.tuple #[]) h)
  | _, _, _ => False
abbrev E_law1_Book_growBytes := E_law1_Book_growBytes_of F_law1_Book_growBytes
theorem E_law1_Book_growBytes.right : IsRight Try.prog 54 E_law1_Book_growBytes := by
  refine isRight fun vs K w hh => ?_
  match vs, hh with
  | [v0], hh =>
    unfold E_law1_Book_growBytes E_law1_Book_growBytes_of at hh
    replace hh := dec1_sound hh; obtain ⟨b1, rfl, hh⟩ := hh
    unfold F_law1_Book_growBytes at hh
    exact calls_den (fn1_right ok48 E_law1_at.right noFns_right) plan54 _ w K Try.func54 (by kernel_rfl) (by kernel_rfl) (Eq.mp (F_law1_Book_growBytes.eq F_law1_at b1 w.heap K) hh)
theorem ok54 : okFn Try.prog 54 = true := by kernel_rfl
end Go.Proofs.Ytdjhjpckefkolaa.V
namespace Go.Proofs.Ytdjhjpckefkolaa.V
open Go Go.RowKit
set_option linter.unusedVariables false
set_option maxRecDepth 100000
def F_law1_Book_growRows.l1 (f48_ : Int → Int → Heap → (Int → Heap → Prop) → Prop) (b1 : Option Addr) (v18 : Int) (j19 : Heap → Prop) : Sl → Int → Heap → Prop :=
  wl [(4, .one .sl), (6, .one (.int .i64))] (fun (next20 : Sl → Int → Heap → Prop) (g21 : Sl) (i22 : Int) (h23 : Heap) =>
  brr (decide (i22 ≤ 32))
  (f48_ v18 0 h23 fun (r24 : Int) (h25 : Heap) =>
  f48_ v18 1 h25 fun (r26 : Int) (h27 : Heap) =>
  al 5 [.int .u8 r24, .int .u8 r26] h27 fun (a28 : Addr) (h29 : Heap) =>
  al 22 [.slice (some a28) 2 2] h29 fun (a30 : Addr) (h31 : Heap) =>
  app 22 1 24 (.slice none 0 0) g21 (some a30) 1 h31 fun (s32 : Sl) (h33 : Heap) =>
  jn [(53, .one .bool)] (fun (x35 : Bool) (h36 : Heap) =>
  jn [] (fun  (h54 : Heap) =>
  next20 s32 (IntKind.i64.wrap (i22 + 1)) h54) (fun (j37 : Heap → Prop) =>
  brr x35
  (nn b1 fun (a38 : Addr) =>
  ld [.sl] (a38.add 3) h36 fun (v39 : Sl) =>
  al 36 [.slice s32.ptr s32.len s32.cap] h36 fun (a40 : Addr) (h41 : Heap) =>
  app 36 1 24 (.slice none 0 0) v39 (some a40) 1 h41 fun (s42 : Sl) (h43 : Heap) =>
  nn b1 fun (a44 : Addr) =>
  st (a44.add 3) [.slice s42.ptr s42.len s42.cap] h43 fun (h45 : Heap) =>
  nn b1 fun (a46 : Addr) =>
  ld [.sl] (a46.add 4) h45 fun (v47 : Sl) =>
  al 3 [.int .i64 v18] h45 fun (a48 : Addr) (h49 : Heap) =>
  app 3 1 8 (.int .i64 0) v47 (some a48) 1 h49 fun (s50 : Sl) (h51 : Heap) =>
  nn b1 fun (a52 : Addr) =>
  st (a52.add 4) [.slice s50.ptr s50.len s50.cap] h51 fun (h53 : Heap) =>
  j37 h53)
  (j37 h36))) (fun (j34 : Bool → Heap → Prop) =>
  brr (decide (i22 < 4))
  (j34 true h33)
  ((16 : Int) ≠ 0 ∧
  j34 ((i22.tmod 16) == 0) h33)))
  (j19 h23))
def F_law1_Book_growRows.l2 (f48_ : Int → Int → Heap → (Int → Heap → Prop) → Prop) (b1 : Option Addr) (v3 : Sl) (j6 : Heap → Prop) : Int → Heap → Prop :=
  wl [(3, .one (.int .i64))] (fun (next7 : Int → Heap → Prop) (k8 : Int) (h9 : Heap) =>
  brr (decide (k8 < ((v3.len : Nat) : Int)))
  (jn [] (fun  (h56 : Heap) =>
  next7 (IntKind.i64.wrap (k8 + 1)) h56) (fun (j10 : Heap → Prop) =>
  nn b1 fun (a11 : Addr) =>
  ld [.sl] (a11.add 3) h9 fun (v12 : Sl) =>
  ixS 1 v12 k8 fun (a13 : Addr) =>
  ld [.sl] a13 h9 fun (v14 : Sl) =>
  nn b1 fun (a15 : Addr) =>
  ld [.sl] (a15.add 4) h9 fun (v16 : Sl) =>
  ixS 1 v16 k8 fun (a17 : Addr) =>
  ld [.int .i64] a17 h9 fun (v18 : Int) =>
  jn [] (fun  (h55 : Heap) =>
  j10 h55) (fun (j19 : Heap → Prop) =>
  F_law1_Book_growRows.l1 f48_ b1 v18 j19 v14 1 h9)))
  (j6 h9))
def F_law1_Book_growRows_of (f48_ : Int → Int → Heap → (Int → Heap → Prop) → Prop) (b1 : Option Addr) (h : Heap) (Q : Heap → Prop) : Prop :=
  nn b1 fun (a2 : Addr) =>
  ld [.sl] (a2.add 3) h fun (v3 : Sl) =>
  nn b1 fun (a4 : Addr) =>
  ld [.int .i64] (a4.add 5) h fun (v5 : Int) =>
  jn [] (fun  (h57 : Heap) =>
  nn b1 fun (a58 : Addr) =>
  ld [.sl] (a58.add 3) h57 fun (v59 : Sl) =>
  nn b1 fun (a60 : Addr) =>
  st (a60.add 5) [.int .i64 ((v59.len : Nat) : Int)] h57 fun (h61 : Heap) =>
  Q h61) (fun (j6 : Heap → Prop) =>
  F_law1_Book_growRows.l2 f48_ b1 v3 j6 v5 h)
def F_law1_Book_growRows (b1 : Option Addr) (h : Heap) (Q : Heap → Prop) : Prop := F_law1_Book_growRows_of F_law1_at b1 h Q
def plan55 : Plan := .s (.r [0, 2]) (.s (.s (.r [0, 2, 3]) (.bj [] [0] (.l [(3, .one (.int .i64))] [0, 2] (.s (.s (.r [0, 2, 3, 18]) (.c .z .z)) (.s (.bj [] [0, 2, 3] (.s (.r [0, 2, 3, 4]) (.s (.r [0, 2, 3, 4, 5]) (.s (.r [0, 2, 3, 4, 5, 6]) (.bj [] [0, 2, 3] (.l [(4, .one .sl), (6, .one (.int .i64))] [0, 2, 3, 5] (.s (.s (.r [0, 2, 3, 4, 5, 6, 36]) (.c .z .z)) (.s (.b (.s (.r [0, 2, 3, 4, 5, 6]) (.s (.rj [(53, .one .bool)] [0, 2, 3, 4, 5, 6]) (.cj [] [0, 2, 3, 4, 5, 6] (.s (.r [0, 2, 3, 4, 5, 6]) (.r [0, 2, 3, 4, 5, 6])) .z)))) (.r [0, 2, 3, 4, 5, 6]))))))))) (.r [0, 2, 3])))))) (.r []))
theorem F_law1_Book_growRows.eq (f48_ : Int → Int → Heap → (Int → Heap → Prop) → Prop) (b1 : Option Addr) (h : Heap) (K : Value → Heap → Prop) : F_law1_Book_growRows_of f48_ b1 h (fun  (h : Heap) => K (.tuple #[]) h) =
    den Try.prog (fn1 48 (E_law1_at_of f48_) noFns) Try.f55.ntmps plan55 (bodyOf Try.f55) (args0 0 [(.pointer b1 : Value)]) h ⟨fun env h => dRes Try.prog Try.f55.results.toList env h K, fun _ _ _ => False, fun env h => dRes Try.prog Try.f55.results.toList env h K⟩ := by kernel_rfl
def E_law1_Book_growRows_of (f : Option Addr → Heap → (Heap → Prop) → Prop) : List Value → Heap → (Value → Heap → Prop) → Prop
  | [v0], h, K => dec1 .ptr v0 fun (b1 : Option Addr) =>
  f b1 h (fun  (h : Heap) => K (.tuple #[]) h)
  | _, _, _ => False
abbrev E_law1_Book_growRows := E_law1_Book_growRows_of F_law1_Book_growRows
theorem E_law1_Book_growRows.right : IsRight Try.prog 55 E_law1_Book_growRows := by
  refine isRight fun vs K w hh => ?_
  match vs, hh with
  | [v0], hh =>
    unfold E_law1_Book_growRows E_law1_Book_growRows_of at hh
    replace hh := dec1_sound hh; obtain ⟨b1, rfl, hh⟩ := hh
    unfold F_law1_Book_growRows at hh
    exact calls_den (fn1_right ok48 E_law1_at.right noFns_right) plan55 _ w K Try.func55 (by kernel_rfl) (by kernel_rfl) (Eq.mp (F_law1_Book_growRows.eq F_law1_at b1 w.heap K) hh)
theorem ok55 : okFn Try.prog 55 = true := by kernel_rfl
end Go.Proofs.Ytdjhjpckefkolaa.V
namespace Go.Proofs.Ytdjhjpckefkolaa.V
open Go Go.RowKit
set_option linter.unusedVariables false
set_option maxRecDepth 100000
def F_law1_Book_growTexts.l1 (f67_ : Int → Heap → (ByteArray → Heap → Prop) → Prop) (b1 : Option Addr) (v18 : Int) (j19 : Heap → Prop) : Sl → Int → Heap → Prop :=
  wl [(4, .one .sl), (6, .one (.int .i64))] (fun (next20 : Sl → Int → Heap → Prop) (g21 : Sl) (i22 : Int) (h23 : Heap) =>
  brr (decide (i22 ≤ 32))
  (f67_ v18 h23 fun (r24 : ByteArray) (h25 : Heap) =>
  al 9 [.string r24] h25 fun (a26 : Addr) (h27 : Heap) =>
  app 9 1 16 (.string (⟨#[]⟩ : ByteArray)) g21 (some a26) 1 h27 fun (s28 : Sl) (h29 : Heap) =>
  jn [(50, .one .bool)] (fun (x31 : Bool) (h32 : Heap) =>
  jn [] (fun  (h50 : Heap) =>
  next20 s28 (IntKind.i64.wrap (i22 + 1)) h50) (fun (j33 : Heap → Prop) =>
  brr x31
  (nn b1 fun (a34 : Addr) =>
  ld [.sl] (a34.add 6) h32 fun (v35 : Sl) =>
  al 90 [.slice s28.ptr s28.len s28.cap] h32 fun (a36 : Addr) (h37 : Heap) =>
  app 90 1 24 (.slice none 0 0) v35 (some a36) 1 h37 fun (s38 : Sl) (h39 : Heap) =>
  nn b1 fun (a40 : Addr) =>
  st (a40.add 6) [.slice s38.ptr s38.len s38.cap] h39 fun (h41 : Heap) =>
  nn b1 fun (a42 : Addr) =>
  ld [.sl] (a42.add 7) h41 fun (v43 : Sl) =>
  al 3 [.int .i64 v18] h41 fun (a44 : Addr) (h45 : Heap) =>
  app 3 1 8 (.int .i64 0) v43 (some a44) 1 h45 fun (s46 : Sl) (h47 : Heap) =>
  nn b1 fun (a48 : Addr) =>
  st (a48.add 7) [.slice s46.ptr s46.len s46.cap] h47 fun (h49 : Heap) =>
  j33 h49)
  (j33 h32))) (fun (j30 : Bool → Heap → Prop) =>
  brr (decide (i22 < 4))
  (j30 true h29)
  ((16 : Int) ≠ 0 ∧
  j30 ((i22.tmod 16) == 0) h29)))
  (j19 h23))
def F_law1_Book_growTexts.l2 (f67_ : Int → Heap → (ByteArray → Heap → Prop) → Prop) (b1 : Option Addr) (v3 : Sl) (j6 : Heap → Prop) : Int → Heap → Prop :=
  wl [(3, .one (.int .i64))] (fun (next7 : Int → Heap → Prop) (k8 : Int) (h9 : Heap) =>
  brr (decide (k8 < ((v3.len : Nat) : Int)))
  (jn [] (fun  (h52 : Heap) =>
  next7 (IntKind.i64.wrap (k8 + 1)) h52) (fun (j10 : Heap → Prop) =>
  nn b1 fun (a11 : Addr) =>
  ld [.sl] (a11.add 6) h9 fun (v12 : Sl) =>
  ixS 1 v12 k8 fun (a13 : Addr) =>
  ld [.sl] a13 h9 fun (v14 : Sl) =>
  nn b1 fun (a15 : Addr) =>
  ld [.sl] (a15.add 7) h9 fun (v16 : Sl) =>
  ixS 1 v16 k8 fun (a17 : Addr) =>
  ld [.int .i64] a17 h9 fun (v18 : Int) =>
  jn [] (fun  (h51 : Heap) =>
  j10 h51) (fun (j19 : Heap → Prop) =>
  F_law1_Book_growTexts.l1 f67_ b1 v18 j19 v14 1 h9)))
  (j6 h9))
def F_law1_Book_growTexts_of (f67_ : Int → Heap → (ByteArray → Heap → Prop) → Prop) (b1 : Option Addr) (h : Heap) (Q : Heap → Prop) : Prop :=
  nn b1 fun (a2 : Addr) =>
  ld [.sl] (a2.add 6) h fun (v3 : Sl) =>
  nn b1 fun (a4 : Addr) =>
  ld [.int .i64] (a4.add 8) h fun (v5 : Int) =>
  jn [] (fun  (h53 : Heap) =>
  nn b1 fun (a54 : Addr) =>
  ld [.sl] (a54.add 6) h53 fun (v55 : Sl) =>
  nn b1 fun (a56 : Addr) =>
  st (a56.add 8) [.int .i64 ((v55.len : Nat) : Int)] h53 fun (h57 : Heap) =>
  Q h57) (fun (j6 : Heap → Prop) =>
  F_law1_Book_growTexts.l2 f67_ b1 v3 j6 v5 h)
def F_law1_Book_growTexts (b1 : Option Addr) (h : Heap) (Q : Heap → Prop) : Prop := F_law1_Book_growTexts_of F_law1_textsMark b1 h Q
def plan56 : Plan := .s (.r [0, 2]) (.s (.s (.r [0, 2, 3]) (.bj [] [0] (.l [(3, .one (.int .i64))] [0, 2] (.s (.s (.r [0, 2, 3, 18]) (.c .z .z)) (.s (.bj [] [0, 2, 3] (.s (.r [0, 2, 3, 4]) (.s (.r [0, 2, 3, 4, 5]) (.s (.r [0, 2, 3, 4, 5, 6]) (.bj [] [0, 2, 3] (.l [(4, .one .sl), (6, .one (.int .i64))] [0, 2, 3, 5] (.s (.s (.r [0, 2, 3, 4, 5, 6, 36]) (.c .z .z)) (.s (.b (.s (.r [0, 2, 3, 4, 5, 6]) (.s (.rj [(50, .one .bool)] [0, 2, 3, 4, 5, 6]) (.cj [] [0, 2, 3, 4, 5, 6] (.s (.r [0, 2, 3, 4, 5, 6]) (.r [0, 2, 3, 4, 5, 6])) .z)))) (.r [0, 2, 3, 4, 5, 6]))))))))) (.r [0, 2, 3])))))) (.r []))
theorem F_law1_Book_growTexts.eq (f67_ : Int → Heap → (ByteArray → Heap → Prop) → Prop) (b1 : Option Addr) (h : Heap) (K : Value → Heap → Prop) : F_law1_Book_growTexts_of f67_ b1 h (fun  (h : Heap) => K (.tuple #[]) h) =
    den Try.prog (fn1 67 (E_law1_textsMark_of f67_) noFns) Try.f56.ntmps plan56 (bodyOf Try.f56) (args0 0 [(.pointer b1 : Value)]) h ⟨fun env h => dRes Try.prog Try.f56.results.toList env h K, fun _ _ _ => False, fun env h => dRes Try.prog Try.f56.results.toList env h K⟩ := by kernel_rfl
def E_law1_Book_growTexts_of (f : Option Addr → Heap → (Heap → Prop) → Prop) : List Value → Heap → (Value → Heap → Prop) → Prop
  | [v0], h, K => dec1 .ptr v0 fun (b1 : Option Addr) =>
  f b1 h (fun  (h : Heap) => K (.tuple #[]) h)
  | _, _, _ => False
abbrev E_law1_Book_growTexts := E_law1_Book_growTexts_of F_law1_Book_growTexts
theorem E_law1_Book_growTexts.right : IsRight Try.prog 56 E_law1_Book_growTexts := by
  refine isRight fun vs K w hh => ?_
  match vs, hh with
  | [v0], hh =>
    unfold E_law1_Book_growTexts E_law1_Book_growTexts_of at hh
    replace hh := dec1_sound hh; obtain ⟨b1, rfl, hh⟩ := hh
    unfold F_law1_Book_growTexts at hh
    exact calls_den (fn1_right ok67 E_law1_textsMark.right noFns_right) plan56 _ w K Try.func56 (by kernel_rfl) (by kernel_rfl) (Eq.mp (F_law1_Book_growTexts.eq F_law1_textsMark b1 w.heap K) hh)
theorem ok56 : okFn Try.prog 56 = true := by kernel_rfl
end Go.Proofs.Ytdjhjpckefkolaa.V
namespace Go.Proofs.Ytdjhjpckefkolaa.V
open Go Go.RowKit
set_option linter.unusedVariables false
set_option maxRecDepth 100000
def F_law1_Book_growInts.l1 (f68_ : Int → Heap → (Int → Heap → Prop) → Prop) (b1 : Option Addr) (v18 : Int) (j19 : Heap → Prop) : Sl → Int → Heap → Prop :=
  wl [(4, .one .sl), (6, .one (.int .i64))] (fun (next20 : Sl → Int → Heap → Prop) (g21 : Sl) (i22 : Int) (h23 : Heap) =>
  brr (decide (i22 ≤ 32))
  (f68_ v18 h23 fun (r24 : Int) (h25 : Heap) =>
  al 3 [.int .i64 r24] h25 fun (a26 : Addr) (h27 : Heap) =>
  app 3 1 8 (.int .i64 0) g21 (some a26) 1 h27 fun (s28 : Sl) (h29 : Heap) =>
  jn [(50, .one .bool)] (fun (x31 : Bool) (h32 : Heap) =>
  jn [] (fun  (h50 : Heap) =>
  next20 s28 (IntKind.i64.wrap (i22 + 1)) h50) (fun (j33 : Heap → Prop) =>
  brr x31
  (nn b1 fun (a34 : Addr) =>
  ld [.sl] (a34.add 9) h32 fun (v35 : Sl) =>
  al 37 [.slice s28.ptr s28.len s28.cap] h32 fun (a36 : Addr) (h37 : Heap) =>
  app 37 1 24 (.slice none 0 0) v35 (some a36) 1 h37 fun (s38 : Sl) (h39 : Heap) =>
  nn b1 fun (a40 : Addr) =>
  st (a40.add 9) [.slice s38.ptr s38.len s38.cap] h39 fun (h41 : Heap) =>
  nn b1 fun (a42 : Addr) =>
  ld [.sl] (a42.add 10) h41 fun (v43 : Sl) =>
  al 3 [.int .i64 v18] h41 fun (a44 : Addr) (h45 : Heap) =>
  app 3 1 8 (.int .i64 0) v43 (some a44) 1 h45 fun (s46 : Sl) (h47 : Heap) =>
  nn b1 fun (a48 : Addr) =>
  st (a48.add 10) [.slice s46.ptr s46.len s46.cap] h47 fun (h49 : Heap) =>
  j33 h49)
  (j33 h32))) (fun (j30 : Bool → Heap → Prop) =>
  brr (decide (i22 < 4))
  (j30 true h29)
  ((16 : Int) ≠ 0 ∧
  j30 ((i22.tmod 16) == 0) h29)))
  (j19 h23))
def F_law1_Book_growInts.l2 (f68_ : Int → Heap → (Int → Heap → Prop) → Prop) (b1 : Option Addr) (v3 : Sl) (j6 : Heap → Prop) : Int → Heap → Prop :=
  wl [(3, .one (.int .i64))] (fun (next7 : Int → Heap → Prop) (k8 : Int) (h9 : Heap) =>
  brr (decide (k8 < ((v3.len : Nat) : Int)))
  (jn [] (fun  (h52 : Heap) =>
  next7 (IntKind.i64.wrap (k8 + 1)) h52) (fun (j10 : Heap → Prop) =>
  nn b1 fun (a11 : Addr) =>
  ld [.sl] (a11.add 9) h9 fun (v12 : Sl) =>
  ixS 1 v12 k8 fun (a13 : Addr) =>
  ld [.sl] a13 h9 fun (v14 : Sl) =>
  nn b1 fun (a15 : Addr) =>
  ld [.sl] (a15.add 10) h9 fun (v16 : Sl) =>
  ixS 1 v16 k8 fun (a17 : Addr) =>
  ld [.int .i64] a17 h9 fun (v18 : Int) =>
  jn [] (fun  (h51 : Heap) =>
  j10 h51) (fun (j19 : Heap → Prop) =>
  F_law1_Book_growInts.l1 f68_ b1 v18 j19 v14 1 h9)))
  (j6 h9))
def F_law1_Book_growInts_of (f68_ : Int → Heap → (Int → Heap → Prop) → Prop) (b1 : Option Addr) (h : Heap) (Q : Heap → Prop) : Prop :=
  nn b1 fun (a2 : Addr) =>
  ld [.sl] (a2.add 9) h fun (v3 : Sl) =>
  nn b1 fun (a4 : Addr) =>
  ld [.int .i64] (a4.add 11) h fun (v5 : Int) =>
  jn [] (fun  (h53 : Heap) =>
  nn b1 fun (a54 : Addr) =>
  ld [.sl] (a54.add 9) h53 fun (v55 : Sl) =>
  nn b1 fun (a56 : Addr) =>
  st (a56.add 11) [.int .i64 ((v55.len : Nat) : Int)] h53 fun (h57 : Heap) =>
  Q h57) (fun (j6 : Heap → Prop) =>
  F_law1_Book_growInts.l2 f68_ b1 v3 j6 v5 h)
def F_law1_Book_growInts (b1 : Option Addr) (h : Heap) (Q : Heap → Prop) : Prop := F_law1_Book_growInts_of F_law1_intsMark b1 h Q
def plan57 : Plan := .s (.r [0, 2]) (.s (.s (.r [0, 2, 3]) (.bj [] [0] (.l [(3, .one (.int .i64))] [0, 2] (.s (.s (.r [0, 2, 3, 18]) (.c .z .z)) (.s (.bj [] [0, 2, 3] (.s (.r [0, 2, 3, 4]) (.s (.r [0, 2, 3, 4, 5]) (.s (.r [0, 2, 3, 4, 5, 6]) (.bj [] [0, 2, 3] (.l [(4, .one .sl), (6, .one (.int .i64))] [0, 2, 3, 5] (.s (.s (.r [0, 2, 3, 4, 5, 6, 36]) (.c .z .z)) (.s (.b (.s (.r [0, 2, 3, 4, 5, 6]) (.s (.rj [(50, .one .bool)] [0, 2, 3, 4, 5, 6]) (.cj [] [0, 2, 3, 4, 5, 6] (.s (.r [0, 2, 3, 4, 5, 6]) (.r [0, 2, 3, 4, 5, 6])) .z)))) (.r [0, 2, 3, 4, 5, 6]))))))))) (.r [0, 2, 3])))))) (.r []))
theorem F_law1_Book_growInts.eq (f68_ : Int → Heap → (Int → Heap → Prop) → Prop) (b1 : Option Addr) (h : Heap) (K : Value → Heap → Prop) : F_law1_Book_growInts_of f68_ b1 h (fun  (h : Heap) => K (.tuple #[]) h) =
    den Try.prog (fn1 68 (E_law1_intsMark_of f68_) noFns) Try.f57.ntmps plan57 (bodyOf Try.f57) (args0 0 [(.pointer b1 : Value)]) h ⟨fun env h => dRes Try.prog Try.f57.results.toList env h K, fun _ _ _ => False, fun env h => dRes Try.prog Try.f57.results.toList env h K⟩ := by kernel_rfl
def E_law1_Book_growInts_of (f : Option Addr → Heap → (Heap → Prop) → Prop) : List Value → Heap → (Value → Heap → Prop) → Prop
  | [v0], h, K => dec1 .ptr v0 fun (b1 : Option Addr) =>
  f b1 h (fun  (h : Heap) => K (.tuple #[]) h)
  | _, _, _ => False
abbrev E_law1_Book_growInts := E_law1_Book_growInts_of F_law1_Book_growInts
theorem E_law1_Book_growInts.right : IsRight Try.prog 57 E_law1_Book_growInts := by
  refine isRight fun vs K w hh => ?_
  match vs, hh with
  | [v0], hh =>
    unfold E_law1_Book_growInts E_law1_Book_growInts_of at hh
    replace hh := dec1_sound hh; obtain ⟨b1, rfl, hh⟩ := hh
    unfold F_law1_Book_growInts at hh
    exact calls_den (fn1_right ok68 E_law1_intsMark.right noFns_right) plan57 _ w K Try.func57 (by kernel_rfl) (by kernel_rfl) (Eq.mp (F_law1_Book_growInts.eq F_law1_intsMark b1 w.heap K) hh)
theorem ok57 : okFn Try.prog 57 = true := by kernel_rfl
end Go.Proofs.Ytdjhjpckefkolaa.V
namespace Go.Proofs.Ytdjhjpckefkolaa.V
open Go Go.RowKit
set_option linter.unusedVariables false
set_option maxRecDepth 100000
def F_law1_Book_growWords.l1 (f69_ : Int → Heap → (Int → Heap → Prop) → Prop) (b1 : Option Addr) (v18 : Int) (j19 : Heap → Prop) : Sl → Int → Heap → Prop :=
  wl [(4, .one .sl), (6, .one (.int .i64))] (fun (next20 : Sl → Int → Heap → Prop) (g21 : Sl) (i22 : Int) (h23 : Heap) =>
  brr (decide (i22 ≤ 32))
  (f69_ v18 h23 fun (r24 : Int) (h25 : Heap) =>
  al 54 [.int .u64 r24] h25 fun (a26 : Addr) (h27 : Heap) =>
  app 54 1 8 (.int .u64 0) g21 (some a26) 1 h27 fun (s28 : Sl) (h29 : Heap) =>
  jn [(50, .one .bool)] (fun (x31 : Bool) (h32 : Heap) =>
  jn [] (fun  (h50 : Heap) =>
  next20 s28 (IntKind.i64.wrap (i22 + 1)) h50) (fun (j33 : Heap → Prop) =>
  brr x31
  (nn b1 fun (a34 : Addr) =>
  ld [.sl] (a34.add 12) h32 fun (v35 : Sl) =>
  al 93 [.slice s28.ptr s28.len s28.cap] h32 fun (a36 : Addr) (h37 : Heap) =>
  app 93 1 24 (.slice none 0 0) v35 (some a36) 1 h37 fun (s38 : Sl) (h39 : Heap) =>
  nn b1 fun (a40 : Addr) =>
  st (a40.add 12) [.slice s38.ptr s38.len s38.cap] h39 fun (h41 : Heap) =>
  nn b1 fun (a42 : Addr) =>
  ld [.sl] (a42.add 13) h41 fun (v43 : Sl) =>
  al 3 [.int .i64 v18] h41 fun (a44 : Addr) (h45 : Heap) =>
  app 3 1 8 (.int .i64 0) v43 (some a44) 1 h45 fun (s46 : Sl) (h47 : Heap) =>
  nn b1 fun (a48 : Addr) =>
  st (a48.add 13) [.slice s46.ptr s46.len s46.cap] h47 fun (h49 : Heap) =>
  j33 h49)
  (j33 h32))) (fun (j30 : Bool → Heap → Prop) =>
  brr (decide (i22 < 4))
  (j30 true h29)
  ((16 : Int) ≠ 0 ∧
  j30 ((i22.tmod 16) == 0) h29)))
  (j19 h23))
def F_law1_Book_growWords.l2 (f69_ : Int → Heap → (Int → Heap → Prop) → Prop) (b1 : Option Addr) (v3 : Sl) (j6 : Heap → Prop) : Int → Heap → Prop :=
  wl [(3, .one (.int .i64))] (fun (next7 : Int → Heap → Prop) (k8 : Int) (h9 : Heap) =>
  brr (decide (k8 < ((v3.len : Nat) : Int)))
  (jn [] (fun  (h52 : Heap) =>
  next7 (IntKind.i64.wrap (k8 + 1)) h52) (fun (j10 : Heap → Prop) =>
  nn b1 fun (a11 : Addr) =>
  ld [.sl] (a11.add 12) h9 fun (v12 : Sl) =>
  ixS 1 v12 k8 fun (a13 : Addr) =>
  ld [.sl] a13 h9 fun (v14 : Sl) =>
  nn b1 fun (a15 : Addr) =>
  ld [.sl] (a15.add 13) h9 fun (v16 : Sl) =>
  ixS 1 v16 k8 fun (a17 : Addr) =>
  ld [.int .i64] a17 h9 fun (v18 : Int) =>
  jn [] (fun  (h51 : Heap) =>
  j10 h51) (fun (j19 : Heap → Prop) =>
  F_law1_Book_growWords.l1 f69_ b1 v18 j19 v14 1 h9)))
  (j6 h9))
def F_law1_Book_growWords_of (f69_ : Int → Heap → (Int → Heap → Prop) → Prop) (b1 : Option Addr) (h : Heap) (Q : Heap → Prop) : Prop :=
  nn b1 fun (a2 : Addr) =>
  ld [.sl] (a2.add 12) h fun (v3 : Sl) =>
  nn b1 fun (a4 : Addr) =>
  ld [.int .i64] (a4.add 14) h fun (v5 : Int) =>
  jn [] (fun  (h53 : Heap) =>
  nn b1 fun (a54 : Addr) =>
  ld [.sl] (a54.add 12) h53 fun (v55 : Sl) =>
  nn b1 fun (a56 : Addr) =>
  st (a56.add 14) [.int .i64 ((v55.len : Nat) : Int)] h53 fun (h57 : Heap) =>
  Q h57) (fun (j6 : Heap → Prop) =>
  F_law1_Book_growWords.l2 f69_ b1 v3 j6 v5 h)
def F_law1_Book_growWords (b1 : Option Addr) (h : Heap) (Q : Heap → Prop) : Prop := F_law1_Book_growWords_of F_law1_wordsMark b1 h Q
def plan58 : Plan := .s (.r [0, 2]) (.s (.s (.r [0, 2, 3]) (.bj [] [0] (.l [(3, .one (.int .i64))] [0, 2] (.s (.s (.r [0, 2, 3, 18]) (.c .z .z)) (.s (.bj [] [0, 2, 3] (.s (.r [0, 2, 3, 4]) (.s (.r [0, 2, 3, 4, 5]) (.s (.r [0, 2, 3, 4, 5, 6]) (.bj [] [0, 2, 3] (.l [(4, .one .sl), (6, .one (.int .i64))] [0, 2, 3, 5] (.s (.s (.r [0, 2, 3, 4, 5, 6, 36]) (.c .z .z)) (.s (.b (.s (.r [0, 2, 3, 4, 5, 6]) (.s (.rj [(50, .one .bool)] [0, 2, 3, 4, 5, 6]) (.cj [] [0, 2, 3, 4, 5, 6] (.s (.r [0, 2, 3, 4, 5, 6]) (.r [0, 2, 3, 4, 5, 6])) .z)))) (.r [0, 2, 3, 4, 5, 6]))))))))) (.r [0, 2, 3])))))) (.r []))
theorem F_law1_Book_growWords.eq (f69_ : Int → Heap → (Int → Heap → Prop) → Prop) (b1 : Option Addr) (h : Heap) (K : Value → Heap → Prop) : F_law1_Book_growWords_of f69_ b1 h (fun  (h : Heap) => K (.tuple #[]) h) =
    den Try.prog (fn1 69 (E_law1_wordsMark_of f69_) noFns) Try.f58.ntmps plan58 (bodyOf Try.f58) (args0 0 [(.pointer b1 : Value)]) h ⟨fun env h => dRes Try.prog Try.f58.results.toList env h K, fun _ _ _ => False, fun env h => dRes Try.prog Try.f58.results.toList env h K⟩ := by kernel_rfl
def E_law1_Book_growWords_of (f : Option Addr → Heap → (Heap → Prop) → Prop) : List Value → Heap → (Value → Heap → Prop) → Prop
  | [v0], h, K => dec1 .ptr v0 fun (b1 : Option Addr) =>
  f b1 h (fun  (h : Heap) => K (.tuple #[]) h)
  | _, _, _ => False
abbrev E_law1_Book_growWords := E_law1_Book_growWords_of F_law1_Book_growWords
theorem E_law1_Book_growWords.right : IsRight Try.prog 58 E_law1_Book_growWords := by
  refine isRight fun vs K w hh => ?_
  match vs, hh with
  | [v0], hh =>
    unfold E_law1_Book_growWords E_law1_Book_growWords_of at hh
    replace hh := dec1_sound hh; obtain ⟨b1, rfl, hh⟩ := hh
    unfold F_law1_Book_growWords at hh
    exact calls_den (fn1_right ok69 E_law1_wordsMark.right noFns_right) plan58 _ w K Try.func58 (by kernel_rfl) (by kernel_rfl) (Eq.mp (F_law1_Book_growWords.eq F_law1_wordsMark b1 w.heap K) hh)
theorem ok58 : okFn Try.prog 58 = true := by kernel_rfl
end Go.Proofs.Ytdjhjpckefkolaa.V
namespace Go.Proofs.Ytdjhjpckefkolaa.V
open Go Go.RowKit
set_option linter.unusedVariables false
set_option maxRecDepth 100000
def F_law1_Book_growDones.l1 (f70_ : Int → Heap → (Int → Int → Int → Int → Int → Heap → Prop) → Prop) (b1 : Option Addr) (v18 : Int) (j19 : Heap → Prop) : Sl → Int → Heap → Prop :=
  wl [(4, .one .sl), (6, .one (.int .i64))] (fun (next20 : Sl → Int → Heap → Prop) (g21 : Sl) (i22 : Int) (h23 : Heap) =>
  brr (decide (i22 ≤ 32))
  (f70_ v18 h23 fun (r24 r25 r26 r27 r28 : Int) (h29 : Heap) =>
  al 98 [.int .i64 r24, .int .u64 r25, .int .i64 r26, .int .i64 r27, .int .u64 r28] h29 fun (a30 : Addr) (h31 : Heap) =>
  app 98 5 40 (.agg #[.int .i64 0, .int .u64 0, .int .i64 0, .int .i64 0, .int .u64 0]) g21 (some a30) 1 h31 fun (s32 : Sl) (h33 : Heap) =>
  jn [(50, .one .bool)] (fun (x35 : Bool) (h36 : Heap) =>
  jn [] (fun  (h54 : Heap) =>
  next20 s32 (IntKind.i64.wrap (i22 + 1)) h54) (fun (j37 : Heap → Prop) =>
  brr x35
  (nn b1 fun (a38 : Addr) =>
  ld [.sl] (a38.add 15) h36 fun (v39 : Sl) =>
  al 95 [.slice s32.ptr s32.len s32.cap] h36 fun (a40 : Addr) (h41 : Heap) =>
  app 95 1 24 (.slice none 0 0) v39 (some a40) 1 h41 fun (s42 : Sl) (h43 : Heap) =>
  nn b1 fun (a44 : Addr) =>
  st (a44.add 15) [.slice s42.ptr s42.len s42.cap] h43 fun (h45 : Heap) =>
  nn b1 fun (a46 : Addr) =>
  ld [.sl] (a46.add 16) h45 fun (v47 : Sl) =>
  al 3 [.int .i64 v18] h45 fun (a48 : Addr) (h49 : Heap) =>
  app 3 1 8 (.int .i64 0) v47 (some a48) 1 h49 fun (s50 : Sl) (h51 : Heap) =>
  nn b1 fun (a52 : Addr) =>
  st (a52.add 16) [.slice s50.ptr s50.len s50.cap] h51 fun (h53 : Heap) =>
  j37 h53)
  (j37 h36))) (fun (j34 : Bool → Heap → Prop) =>
  brr (decide (i22 < 4))
  (j34 true h33)
  ((16 : Int) ≠ 0 ∧
  j34 ((i22.tmod 16) == 0) h33)))
  (j19 h23))
def F_law1_Book_growDones.l2 (f70_ : Int → Heap → (Int → Int → Int → Int → Int → Heap → Prop) → Prop) (b1 : Option Addr) (v3 : Sl) (j6 : Heap → Prop) : Int → Heap → Prop :=
  wl [(3, .one (.int .i64))] (fun (next7 : Int → Heap → Prop) (k8 : Int) (h9 : Heap) =>
  brr (decide (k8 < ((v3.len : Nat) : Int)))
  (jn [] (fun  (h56 : Heap) =>
  next7 (IntKind.i64.wrap (k8 + 1)) h56) (fun (j10 : Heap → Prop) =>
  nn b1 fun (a11 : Addr) =>
  ld [.sl] (a11.add 15) h9 fun (v12 : Sl) =>
  ixS 1 v12 k8 fun (a13 : Addr) =>
  ld [.sl] a13 h9 fun (v14 : Sl) =>
  nn b1 fun (a15 : Addr) =>
  ld [.sl] (a15.add 16) h9 fun (v16 : Sl) =>
  ixS 1 v16 k8 fun (a17 : Addr) =>
  ld [.int .i64] a17 h9 fun (v18 : Int) =>
  jn [] (fun  (h55 : Heap) =>
  j10 h55) (fun (j19 : Heap → Prop) =>
  F_law1_Book_growDones.l1 f70_ b1 v18 j19 v14 1 h9)))
  (j6 h9))
def F_law1_Book_growDones_of (f70_ : Int → Heap → (Int → Int → Int → Int → Int → Heap → Prop) → Prop) (b1 : Option Addr) (h : Heap) (Q : Heap → Prop) : Prop :=
  nn b1 fun (a2 : Addr) =>
  ld [.sl] (a2.add 15) h fun (v3 : Sl) =>
  nn b1 fun (a4 : Addr) =>
  ld [.int .i64] (a4.add 17) h fun (v5 : Int) =>
  jn [] (fun  (h57 : Heap) =>
  nn b1 fun (a58 : Addr) =>
  ld [.sl] (a58.add 15) h57 fun (v59 : Sl) =>
  nn b1 fun (a60 : Addr) =>
  st (a60.add 17) [.int .i64 ((v59.len : Nat) : Int)] h57 fun (h61 : Heap) =>
  Q h61) (fun (j6 : Heap → Prop) =>
  F_law1_Book_growDones.l2 f70_ b1 v3 j6 v5 h)
def F_law1_Book_growDones (b1 : Option Addr) (h : Heap) (Q : Heap → Prop) : Prop := F_law1_Book_growDones_of F_law1_donesMark b1 h Q
def plan59 : Plan := .s (.r [0, 2]) (.s (.s (.r [0, 2, 3]) (.bj [] [0] (.l [(3, .one (.int .i64))] [0, 2] (.s (.s (.r [0, 2, 3, 18]) (.c .z .z)) (.s (.bj [] [0, 2, 3] (.s (.r [0, 2, 3, 4]) (.s (.r [0, 2, 3, 4, 5]) (.s (.r [0, 2, 3, 4, 5, 6]) (.bj [] [0, 2, 3] (.l [(4, .one .sl), (6, .one (.int .i64))] [0, 2, 3, 5] (.s (.s (.r [0, 2, 3, 4, 5, 6, 36]) (.c .z .z)) (.s (.b (.s (.r [0, 2, 3, 4, 5, 6]) (.s (.rj [(50, .one .bool)] [0, 2, 3, 4, 5, 6]) (.cj [] [0, 2, 3, 4, 5, 6] (.s (.r [0, 2, 3, 4, 5, 6]) (.r [0, 2, 3, 4, 5, 6])) .z)))) (.r [0, 2, 3, 4, 5, 6]))))))))) (.r [0, 2, 3])))))) (.r []))
theorem F_law1_Book_growDones.eq (f70_ : Int → Heap → (Int → Int → Int → Int → Int → Heap → Prop) → Prop) (b1 : Option Addr) (h : Heap) (K : Value → Heap → Prop) : F_law1_Book_growDones_of f70_ b1 h (fun  (h : Heap) => K (.tuple #[]) h) =
    den Try.prog (fn1 70 (E_law1_donesMark_of f70_) noFns) Try.f59.ntmps plan59 (bodyOf Try.f59) (args0 0 [(.pointer b1 : Value)]) h ⟨fun env h => dRes Try.prog Try.f59.results.toList env h K, fun _ _ _ => False, fun env h => dRes Try.prog Try.f59.results.toList env h K⟩ := by kernel_rfl
def E_law1_Book_growDones_of (f : Option Addr → Heap → (Heap → Prop) → Prop) : List Value → Heap → (Value → Heap → Prop) → Prop
  | [v0], h, K => dec1 .ptr v0 fun (b1 : Option Addr) =>
  f b1 h (fun  (h : Heap) => K (.tuple #[]) h)
  | _, _, _ => False
abbrev E_law1_Book_growDones := E_law1_Book_growDones_of F_law1_Book_growDones
theorem E_law1_Book_growDones.right : IsRight Try.prog 59 E_law1_Book_growDones := by
  refine isRight fun vs K w hh => ?_
  match vs, hh with
  | [v0], hh =>
    unfold E_law1_Book_growDones E_law1_Book_growDones_of at hh
    replace hh := dec1_sound hh; obtain ⟨b1, rfl, hh⟩ := hh
    unfold F_law1_Book_growDones at hh
    exact calls_den (fn1_right ok70 E_law1_donesMark.right noFns_right) plan59 _ w K Try.func59 (by kernel_rfl) (by kernel_rfl) (Eq.mp (F_law1_Book_growDones.eq F_law1_donesMark b1 w.heap K) hh)
theorem ok59 : okFn Try.prog 59 = true := by kernel_rfl
end Go.Proofs.Ytdjhjpckefkolaa.V
namespace Go.Proofs.Ytdjhjpckefkolaa.V
open Go Go.RowKit
set_option linter.unusedVariables false
set_option maxRecDepth 100000
def F_law1_Book_growAccts.l1 (f71_ : Int → Heap → (ByteArray → Int → Heap → Prop) → Prop) (b1 : Option Addr) (v18 : Int) (j19 : Heap → Prop) : Sl → Int → Heap → Prop :=
  wl [(4, .one .sl), (6, .one (.int .i64))] (fun (next20 : Sl → Int → Heap → Prop) (g21 : Sl) (i22 : Int) (h23 : Heap) =>
  brr (decide (i22 ≤ 32))
  (f71_ v18 h23 fun (r24 : ByteArray) (r25 : Int) (h26 : Heap) =>
  al 102 [.string r24, .int .u64 r25] h26 fun (a27 : Addr) (h28 : Heap) =>
  app 102 2 24 (.agg #[.string (⟨#[]⟩ : ByteArray), .int .u64 0]) g21 (some a27) 1 h28 fun (s29 : Sl) (h30 : Heap) =>
  jn [(50, .one .bool)] (fun (x32 : Bool) (h33 : Heap) =>
  jn [] (fun  (h51 : Heap) =>
  next20 s29 (IntKind.i64.wrap (i22 + 1)) h51) (fun (j34 : Heap → Prop) =>
  brr x32
  (nn b1 fun (a35 : Addr) =>
  ld [.sl] (a35.add 18) h33 fun (v36 : Sl) =>
  al 100 [.slice s29.ptr s29.len s29.cap] h33 fun (a37 : Addr) (h38 : Heap) =>
  app 100 1 24 (.slice none 0 0) v36 (some a37) 1 h38 fun (s39 : Sl) (h40 : Heap) =>
  nn b1 fun (a41 : Addr) =>
  st (a41.add 18) [.slice s39.ptr s39.len s39.cap] h40 fun (h42 : Heap) =>
  nn b1 fun (a43 : Addr) =>
  ld [.sl] (a43.add 19) h42 fun (v44 : Sl) =>
  al 3 [.int .i64 v18] h42 fun (a45 : Addr) (h46 : Heap) =>
  app 3 1 8 (.int .i64 0) v44 (some a45) 1 h46 fun (s47 : Sl) (h48 : Heap) =>
  nn b1 fun (a49 : Addr) =>
  st (a49.add 19) [.slice s47.ptr s47.len s47.cap] h48 fun (h50 : Heap) =>
  j34 h50)
  (j34 h33))) (fun (j31 : Bool → Heap → Prop) =>
  brr (decide (i22 < 4))
  (j31 true h30)
  ((16 : Int) ≠ 0 ∧
  j31 ((i22.tmod 16) == 0) h30)))
  (j19 h23))
def F_law1_Book_growAccts.l2 (f71_ : Int → Heap → (ByteArray → Int → Heap → Prop) → Prop) (b1 : Option Addr) (v3 : Sl) (j6 : Heap → Prop) : Int → Heap → Prop :=
  wl [(3, .one (.int .i64))] (fun (next7 : Int → Heap → Prop) (k8 : Int) (h9 : Heap) =>
  brr (decide (k8 < ((v3.len : Nat) : Int)))
  (jn [] (fun  (h53 : Heap) =>
  next7 (IntKind.i64.wrap (k8 + 1)) h53) (fun (j10 : Heap → Prop) =>
  nn b1 fun (a11 : Addr) =>
  ld [.sl] (a11.add 18) h9 fun (v12 : Sl) =>
  ixS 1 v12 k8 fun (a13 : Addr) =>
  ld [.sl] a13 h9 fun (v14 : Sl) =>
  nn b1 fun (a15 : Addr) =>
  ld [.sl] (a15.add 19) h9 fun (v16 : Sl) =>
  ixS 1 v16 k8 fun (a17 : Addr) =>
  ld [.int .i64] a17 h9 fun (v18 : Int) =>
  jn [] (fun  (h52 : Heap) =>
  j10 h52) (fun (j19 : Heap → Prop) =>
  F_law1_Book_growAccts.l1 f71_ b1 v18 j19 v14 1 h9)))
  (j6 h9))
def F_law1_Book_growAccts_of (f71_ : Int → Heap → (ByteArray → Int → Heap → Prop) → Prop) (b1 : Option Addr) (h : Heap) (Q : Heap → Prop) : Prop :=
  nn b1 fun (a2 : Addr) =>
  ld [.sl] (a2.add 18) h fun (v3 : Sl) =>
  nn b1 fun (a4 : Addr) =>
  ld [.int .i64] (a4.add 20) h fun (v5 : Int) =>
  jn [] (fun  (h54 : Heap) =>
  nn b1 fun (a55 : Addr) =>
  ld [.sl] (a55.add 18) h54 fun (v56 : Sl) =>
  nn b1 fun (a57 : Addr) =>
  st (a57.add 20) [.int .i64 ((v56.len : Nat) : Int)] h54 fun (h58 : Heap) =>
  Q h58) (fun (j6 : Heap → Prop) =>
  F_law1_Book_growAccts.l2 f71_ b1 v3 j6 v5 h)
def F_law1_Book_growAccts (b1 : Option Addr) (h : Heap) (Q : Heap → Prop) : Prop := F_law1_Book_growAccts_of F_law1_acctsMark b1 h Q
def plan60 : Plan := .s (.r [0, 2]) (.s (.s (.r [0, 2, 3]) (.bj [] [0] (.l [(3, .one (.int .i64))] [0, 2] (.s (.s (.r [0, 2, 3, 18]) (.c .z .z)) (.s (.bj [] [0, 2, 3] (.s (.r [0, 2, 3, 4]) (.s (.r [0, 2, 3, 4, 5]) (.s (.r [0, 2, 3, 4, 5, 6]) (.bj [] [0, 2, 3] (.l [(4, .one .sl), (6, .one (.int .i64))] [0, 2, 3, 5] (.s (.s (.r [0, 2, 3, 4, 5, 6, 36]) (.c .z .z)) (.s (.b (.s (.r [0, 2, 3, 4, 5, 6]) (.s (.rj [(50, .one .bool)] [0, 2, 3, 4, 5, 6]) (.cj [] [0, 2, 3, 4, 5, 6] (.s (.r [0, 2, 3, 4, 5, 6]) (.r [0, 2, 3, 4, 5, 6])) .z)))) (.r [0, 2, 3, 4, 5, 6]))))))))) (.r [0, 2, 3])))))) (.r []))
theorem F_law1_Book_growAccts.eq (f71_ : Int → Heap → (ByteArray → Int → Heap → Prop) → Prop) (b1 : Option Addr) (h : Heap) (K : Value → Heap → Prop) : F_law1_Book_growAccts_of f71_ b1 h (fun  (h : Heap) => K (.tuple #[]) h) =
    den Try.prog (fn1 71 (E_law1_acctsMark_of f71_) noFns) Try.f60.ntmps plan60 (bodyOf Try.f60) (args0 0 [(.pointer b1 : Value)]) h ⟨fun env h => dRes Try.prog Try.f60.results.toList env h K, fun _ _ _ => False, fun env h => dRes Try.prog Try.f60.results.toList env h K⟩ := by kernel_rfl
def E_law1_Book_growAccts_of (f : Option Addr → Heap → (Heap → Prop) → Prop) : List Value → Heap → (Value → Heap → Prop) → Prop
  | [v0], h, K => dec1 .ptr v0 fun (b1 : Option Addr) =>
  f b1 h (fun  (h : Heap) => K (.tuple #[]) h)
  | _, _, _ => False
abbrev E_law1_Book_growAccts := E_law1_Book_growAccts_of F_law1_Book_growAccts
theorem E_law1_Book_growAccts.right : IsRight Try.prog 60 E_law1_Book_growAccts := by
  refine isRight fun vs K w hh => ?_
  match vs, hh with
  | [v0], hh =>
    unfold E_law1_Book_growAccts E_law1_Book_growAccts_of at hh
    replace hh := dec1_sound hh; obtain ⟨b1, rfl, hh⟩ := hh
    unfold F_law1_Book_growAccts at hh
    exact calls_den (fn1_right ok71 E_law1_acctsMark.right noFns_right) plan60 _ w K Try.func60 (by kernel_rfl) (by kernel_rfl) (Eq.mp (F_law1_Book_growAccts.eq F_law1_acctsMark b1 w.heap K) hh)
theorem ok60 : okFn Try.prog 60 = true := by kernel_rfl
end Go.Proofs.Ytdjhjpckefkolaa.V
namespace Go.Proofs.Ytdjhjpckefkolaa.V
open Go Go.RowKit
set_option linter.unusedVariables false
set_option maxRecDepth 100000
def F_law1_Book_growQueue.l1 (f72_ : Int → Heap → (Int → Int → ByteArray → Int → Heap → Prop) → Prop) (b1 : Option Addr) (v18 : Int) (j19 : Heap → Prop) : Sl → Int → Heap → Prop :=
  wl [(4, .one .sl), (6, .one (.int .i64))] (fun (next20 : Sl → Int → Heap → Prop) (g21 : Sl) (i22 : Int) (h23 : Heap) =>
  brr (decide (i22 ≤ 32))
  (f72_ v18 h23 fun (r24 r25 : Int) (r26 : ByteArray) (r27 : Int) (h28 : Heap) =>
  al 106 [.int .i64 r24, .int .u64 r25, .string r26, .int .u64 r27] h28 fun (a29 : Addr) (h30 : Heap) =>
  app 106 4 40 (.agg #[.int .i64 0, .int .u64 0, .string (⟨#[]⟩ : ByteArray), .int .u64 0]) g21 (some a29) 1 h30 fun (s31 : Sl) (h32 : Heap) =>
  jn [(50, .one .bool)] (fun (x34 : Bool) (h35 : Heap) =>
  jn [] (fun  (h53 : Heap) =>
  next20 s31 (IntKind.i64.wrap (i22 + 1)) h53) (fun (j36 : Heap → Prop) =>
  brr x34
  (nn b1 fun (a37 : Addr) =>
  ld [.sl] (a37.add 21) h35 fun (v38 : Sl) =>
  al 104 [.slice s31.ptr s31.len s31.cap] h35 fun (a39 : Addr) (h40 : Heap) =>
  app 104 1 24 (.slice none 0 0) v38 (some a39) 1 h40 fun (s41 : Sl) (h42 : Heap) =>
  nn b1 fun (a43 : Addr) =>
  st (a43.add 21) [.slice s41.ptr s41.len s41.cap] h42 fun (h44 : Heap) =>
  nn b1 fun (a45 : Addr) =>
  ld [.sl] (a45.add 22) h44 fun (v46 : Sl) =>
  al 3 [.int .i64 v18] h44 fun (a47 : Addr) (h48 : Heap) =>
  app 3 1 8 (.int .i64 0) v46 (some a47) 1 h48 fun (s49 : Sl) (h50 : Heap) =>
  nn b1 fun (a51 : Addr) =>
  st (a51.add 22) [.slice s49.ptr s49.len s49.cap] h50 fun (h52 : Heap) =>
  j36 h52)
  (j36 h35))) (fun (j33 : Bool → Heap → Prop) =>
  brr (decide (i22 < 4))
  (j33 true h32)
  ((16 : Int) ≠ 0 ∧
  j33 ((i22.tmod 16) == 0) h32)))
  (j19 h23))
def F_law1_Book_growQueue.l2 (f72_ : Int → Heap → (Int → Int → ByteArray → Int → Heap → Prop) → Prop) (b1 : Option Addr) (v3 : Sl) (j6 : Heap → Prop) : Int → Heap → Prop :=
  wl [(3, .one (.int .i64))] (fun (next7 : Int → Heap → Prop) (k8 : Int) (h9 : Heap) =>
  brr (decide (k8 < ((v3.len : Nat) : Int)))
  (jn [] (fun  (h55 : Heap) =>
  next7 (IntKind.i64.wrap (k8 + 1)) h55) (fun (j10 : Heap → Prop) =>
  nn b1 fun (a11 : Addr) =>
  ld [.sl] (a11.add 21) h9 fun (v12 : Sl) =>
  ixS 1 v12 k8 fun (a13 : Addr) =>
  ld [.sl] a13 h9 fun (v14 : Sl) =>
  nn b1 fun (a15 : Addr) =>
  ld [.sl] (a15.add 22) h9 fun (v16 : Sl) =>
  ixS 1 v16 k8 fun (a17 : Addr) =>
  ld [.int .i64] a17 h9 fun (v18 : Int) =>
  jn [] (fun  (h54 : Heap) =>
  j10 h54) (fun (j19 : Heap → Prop) =>
  F_law1_Book_growQueue.l1 f72_ b1 v18 j19 v14 1 h9)))
  (j6 h9))
def F_law1_Book_growQueue_of (f72_ : Int → Heap → (Int → Int → ByteArray → Int → Heap → Prop) → Prop) (b1 : Option Addr) (h : Heap) (Q : Heap → Prop) : Prop :=
  nn b1 fun (a2 : Addr) =>
  ld [.sl] (a2.add 21) h fun (v3 : Sl) =>
  nn b1 fun (a4 : Addr) =>
  ld [.int .i64] (a4.add 23) h fun (v5 : Int) =>
  jn [] (fun  (h56 : Heap) =>
  nn b1 fun (a57 : Addr) =>
  ld [.sl] (a57.add 21) h56 fun (v58 : Sl) =>
  nn b1 fun (a59 : Addr) =>
  st (a59.add 23) [.int .i64 ((v58.len : Nat) : Int)] h56 fun (h60 : Heap) =>
  Q h60) (fun (j6 : Heap → Prop) =>
  F_law1_Book_growQueue.l2 f72_ b1 v3 j6 v5 h)
def F_law1_Book_growQueue (b1 : Option Addr) (h : Heap) (Q : Heap → Prop) : Prop := F_law1_Book_growQueue_of F_law1_queueMark b1 h Q
def plan61 : Plan := .s (.r [0, 2]) (.s (.s (.r [0, 2, 3]) (.bj [] [0] (.l [(3, .one (.int .i64))] [0, 2] (.s (.s (.r [0, 2, 3, 18]) (.c .z .z)) (.s (.bj [] [0, 2, 3] (.s (.r [0, 2, 3, 4]) (.s (.r [0, 2, 3, 4, 5]) (.s (.r [0, 2, 3, 4, 5, 6]) (.bj [] [0, 2, 3] (.l [(4, .one .sl), (6, .one (.int .i64))] [0, 2, 3, 5] (.s (.s (.r [0, 2, 3, 4, 5, 6, 36]) (.c .z .z)) (.s (.b (.s (.r [0, 2, 3, 4, 5, 6]) (.s (.rj [(50, .one .bool)] [0, 2, 3, 4, 5, 6]) (.cj [] [0, 2, 3, 4, 5, 6] (.s (.r [0, 2, 3, 4, 5, 6]) (.r [0, 2, 3, 4, 5, 6])) .z)))) (.r [0, 2, 3, 4, 5, 6]))))))))) (.r [0, 2, 3])))))) (.r []))
theorem F_law1_Book_growQueue.eq (f72_ : Int → Heap → (Int → Int → ByteArray → Int → Heap → Prop) → Prop) (b1 : Option Addr) (h : Heap) (K : Value → Heap → Prop) : F_law1_Book_growQueue_of f72_ b1 h (fun  (h : Heap) => K (.tuple #[]) h) =
    den Try.prog (fn1 72 (E_law1_queueMark_of f72_) noFns) Try.f61.ntmps plan61 (bodyOf Try.f61) (args0 0 [(.pointer b1 : Value)]) h ⟨fun env h => dRes Try.prog Try.f61.results.toList env h K, fun _ _ _ => False, fun env h => dRes Try.prog Try.f61.results.toList env h K⟩ := by kernel_rfl
def E_law1_Book_growQueue_of (f : Option Addr → Heap → (Heap → Prop) → Prop) : List Value → Heap → (Value → Heap → Prop) → Prop
  | [v0], h, K => dec1 .ptr v0 fun (b1 : Option Addr) =>
  f b1 h (fun  (h : Heap) => K (.tuple #[]) h)
  | _, _, _ => False
abbrev E_law1_Book_growQueue := E_law1_Book_growQueue_of F_law1_Book_growQueue
theorem E_law1_Book_growQueue.right : IsRight Try.prog 61 E_law1_Book_growQueue := by
  refine isRight fun vs K w hh => ?_
  match vs, hh with
  | [v0], hh =>
    unfold E_law1_Book_growQueue E_law1_Book_growQueue_of at hh
    replace hh := dec1_sound hh; obtain ⟨b1, rfl, hh⟩ := hh
    unfold F_law1_Book_growQueue at hh
    exact calls_den (fn1_right ok72 E_law1_queueMark.right noFns_right) plan61 _ w K Try.func61 (by kernel_rfl) (by kernel_rfl) (Eq.mp (F_law1_Book_growQueue.eq F_law1_queueMark b1 w.heap K) hh)
theorem ok61 : okFn Try.prog 61 = true := by kernel_rfl
end Go.Proofs.Ytdjhjpckefkolaa.V
namespace Go.Proofs.Ytdjhjpckefkolaa.V
open Go Go.RowKit
set_option linter.unusedVariables false
set_option maxRecDepth 100000
def F_law1_Book_growSlots.l1 (f73_ : Int → Heap → (Int → Int → Int → Int → Heap → Prop) → Prop) (b1 : Option Addr) (v18 : Int) (j19 : Heap → Prop) : Sl → Int → Heap → Prop :=
  wl [(4, .one .sl), (6, .one (.int .i64))] (fun (next20 : Sl → Int → Heap → Prop) (g21 : Sl) (i22 : Int) (h23 : Heap) =>
  brr (decide (i22 ≤ 32))
  (f73_ v18 h23 fun (r24 r25 r26 r27 : Int) (h28 : Heap) =>
  al 110 [.int .u64 r24, .int .i64 r25, .int .i64 r26, .int .u64 r27] h28 fun (a29 : Addr) (h30 : Heap) =>
  app 110 4 32 (.agg #[.int .u64 0, .int .i64 0, .int .i64 0, .int .u64 0]) g21 (some a29) 1 h30 fun (s31 : Sl) (h32 : Heap) =>
  jn [(50, .one .bool)] (fun (x34 : Bool) (h35 : Heap) =>
  jn [] (fun  (h53 : Heap) =>
  next20 s31 (IntKind.i64.wrap (i22 + 1)) h53) (fun (j36 : Heap → Prop) =>
  brr x34
  (nn b1 fun (a37 : Addr) =>
  ld [.sl] (a37.add 24) h35 fun (v38 : Sl) =>
  al 108 [.slice s31.ptr s31.len s31.cap] h35 fun (a39 : Addr) (h40 : Heap) =>
  app 108 1 24 (.slice none 0 0) v38 (some a39) 1 h40 fun (s41 : Sl) (h42 : Heap) =>
  nn b1 fun (a43 : Addr) =>
  st (a43.add 24) [.slice s41.ptr s41.len s41.cap] h42 fun (h44 : Heap) =>
  nn b1 fun (a45 : Addr) =>
  ld [.sl] (a45.add 25) h44 fun (v46 : Sl) =>
  al 3 [.int .i64 v18] h44 fun (a47 : Addr) (h48 : Heap) =>
  app 3 1 8 (.int .i64 0) v46 (some a47) 1 h48 fun (s49 : Sl) (h50 : Heap) =>
  nn b1 fun (a51 : Addr) =>
  st (a51.add 25) [.slice s49.ptr s49.len s49.cap] h50 fun (h52 : Heap) =>
  j36 h52)
  (j36 h35))) (fun (j33 : Bool → Heap → Prop) =>
  brr (decide (i22 < 4))
  (j33 true h32)
  ((16 : Int) ≠ 0 ∧
  j33 ((i22.tmod 16) == 0) h32)))
  (j19 h23))
def F_law1_Book_growSlots.l2 (f73_ : Int → Heap → (Int → Int → Int → Int → Heap → Prop) → Prop) (b1 : Option Addr) (v3 : Sl) (j6 : Heap → Prop) : Int → Heap → Prop :=
  wl [(3, .one (.int .i64))] (fun (next7 : Int → Heap → Prop) (k8 : Int) (h9 : Heap) =>
  brr (decide (k8 < ((v3.len : Nat) : Int)))
  (jn [] (fun  (h55 : Heap) =>
  next7 (IntKind.i64.wrap (k8 + 1)) h55) (fun (j10 : Heap → Prop) =>
  nn b1 fun (a11 : Addr) =>
  ld [.sl] (a11.add 24) h9 fun (v12 : Sl) =>
  ixS 1 v12 k8 fun (a13 : Addr) =>
  ld [.sl] a13 h9 fun (v14 : Sl) =>
  nn b1 fun (a15 : Addr) =>
  ld [.sl] (a15.add 25) h9 fun (v16 : Sl) =>
  ixS 1 v16 k8 fun (a17 : Addr) =>
  ld [.int .i64] a17 h9 fun (v18 : Int) =>
  jn [] (fun  (h54 : Heap) =>
  j10 h54) (fun (j19 : Heap → Prop) =>
  F_law1_Book_growSlots.l1 f73_ b1 v18 j19 v14 1 h9)))
  (j6 h9))
def F_law1_Book_growSlots_of (f73_ : Int → Heap → (Int → Int → Int → Int → Heap → Prop) → Prop) (b1 : Option Addr) (h : Heap) (Q : Heap → Prop) : Prop :=
  nn b1 fun (a2 : Addr) =>
  ld [.sl] (a2.add 24) h fun (v3 : Sl) =>
  nn b1 fun (a4 : Addr) =>
  ld [.int .i64] (a4.add 26) h fun (v5 : Int) =>
  jn [] (fun  (h56 : Heap) =>
  nn b1 fun (a57 : Addr) =>
  ld [.sl] (a57.add 24) h56 fun (v58 : Sl) =>
  nn b1 fun (a59 : Addr) =>
  st (a59.add 26) [.int .i64 ((v58.len : Nat) : Int)] h56 fun (h60 : Heap) =>
  Q h60) (fun (j6 : Heap → Prop) =>
  F_law1_Book_growSlots.l2 f73_ b1 v3 j6 v5 h)
def F_law1_Book_growSlots (b1 : Option Addr) (h : Heap) (Q : Heap → Prop) : Prop := F_law1_Book_growSlots_of F_law1_slotsMark b1 h Q
def plan62 : Plan := .s (.r [0, 2]) (.s (.s (.r [0, 2, 3]) (.bj [] [0] (.l [(3, .one (.int .i64))] [0, 2] (.s (.s (.r [0, 2, 3, 18]) (.c .z .z)) (.s (.bj [] [0, 2, 3] (.s (.r [0, 2, 3, 4]) (.s (.r [0, 2, 3, 4, 5]) (.s (.r [0, 2, 3, 4, 5, 6]) (.bj [] [0, 2, 3] (.l [(4, .one .sl), (6, .one (.int .i64))] [0, 2, 3, 5] (.s (.s (.r [0, 2, 3, 4, 5, 6, 36]) (.c .z .z)) (.s (.b (.s (.r [0, 2, 3, 4, 5, 6]) (.s (.rj [(50, .one .bool)] [0, 2, 3, 4, 5, 6]) (.cj [] [0, 2, 3, 4, 5, 6] (.s (.r [0, 2, 3, 4, 5, 6]) (.r [0, 2, 3, 4, 5, 6])) .z)))) (.r [0, 2, 3, 4, 5, 6]))))))))) (.r [0, 2, 3])))))) (.r []))
theorem F_law1_Book_growSlots.eq (f73_ : Int → Heap → (Int → Int → Int → Int → Heap → Prop) → Prop) (b1 : Option Addr) (h : Heap) (K : Value → Heap → Prop) : F_law1_Book_growSlots_of f73_ b1 h (fun  (h : Heap) => K (.tuple #[]) h) =
    den Try.prog (fn1 73 (E_law1_slotsMark_of f73_) noFns) Try.f62.ntmps plan62 (bodyOf Try.f62) (args0 0 [(.pointer b1 : Value)]) h ⟨fun env h => dRes Try.prog Try.f62.results.toList env h K, fun _ _ _ => False, fun env h => dRes Try.prog Try.f62.results.toList env h K⟩ := by kernel_rfl
def E_law1_Book_growSlots_of (f : Option Addr → Heap → (Heap → Prop) → Prop) : List Value → Heap → (Value → Heap → Prop) → Prop
  | [v0], h, K => dec1 .ptr v0 fun (b1 : Option Addr) =>
  f b1 h (fun  (h : Heap) => K (.tuple #[]) h)
  | _, _, _ => False
abbrev E_law1_Book_growSlots := E_law1_Book_growSlots_of F_law1_Book_growSlots
theorem E_law1_Book_growSlots.right : IsRight Try.prog 62 E_law1_Book_growSlots := by
  refine isRight fun vs K w hh => ?_
  match vs, hh with
  | [v0], hh =>
    unfold E_law1_Book_growSlots E_law1_Book_growSlots_of at hh
    replace hh := dec1_sound hh; obtain ⟨b1, rfl, hh⟩ := hh
    unfold F_law1_Book_growSlots at hh
    exact calls_den (fn1_right ok73 E_law1_slotsMark.right noFns_right) plan62 _ w K Try.func62 (by kernel_rfl) (by kernel_rfl) (Eq.mp (F_law1_Book_growSlots.eq F_law1_slotsMark b1 w.heap K) hh)
theorem ok62 : okFn Try.prog 62 = true := by kernel_rfl
end Go.Proofs.Ytdjhjpckefkolaa.V
namespace Go.Proofs.Ytdjhjpckefkolaa.V
open Go Go.RowKit
set_option linter.unusedVariables false
set_option maxRecDepth 100000
def F_law1_msgsMark_of  (m1 : Int) (h : Heap) (Q : Int → Int → Int → Int → Int → Int → Int → Int → Int → Int → Sl → Int → Int → ByteArray → ByteArray → Int → Int → Int → Int → Int → Int → Int → Heap → Prop) : Prop :=
  al 120 [.int .i64 0, .int .i64 0, .int .i64 0, .int .i64 0, .int .u64 0, .int .u64 0, .int .u64 0, .int .u64 0, .int .i64 0, .int .u64 0, .slice none 0 0, .int .i64 0, .int .u64 0, .string (⟨#[]⟩ : ByteArray), .string (⟨#[]⟩ : ByteArray), .int .u64 0, .int .u64 0, .int .u64 0, .int .i64 0, .int .i64 0, .int .i64 0, .int .i64 0] h fun (a2 : Addr) (h3 : Heap) =>
  st a2 [.int .i64 (IntKind.i64.wrap (1000 + m1)), .int .i64 0, .int .i64 0, .int .i64 0, .int .u64 0, .int .u64 0, .int .u64 0, .int .u64 0, .int .i64 0, .int .u64 0, .slice none 0 0, .int .i64 0, .int .u64 0, .string (⟨#[]⟩ : ByteArray), .string (⟨#[]⟩ : ByteArray), .int .u64 0, .int .u64 0, .int .u64 0, .int .i64 0, .int .i64 0, .int .i64 0, .int .i64 0] h3 fun (h4 : Heap) =>
  ld [.int .i64, .int .i64, .int .i64, .int .i64, .int .u64, .int .u64, .int .u64, .int .u64, .int .i64, .int .u64, .sl, .int .i64, .int .u64, .str, .str, .int .u64, .int .u64, .int .u64, .int .i64, .int .i64, .int .i64, .int .i64] a2 h4 fun (v5 v6 v7 v8 v9 v10 v11 v12 v13 v14 : Int) (v15 : Sl) (v16 v17 : Int) (v18 v19 : ByteArray) (v20 v21 v22 v23 v24 v25 v26 : Int) =>
  Q v5 v6 v7 v8 v9 v10 v11 v12 v13 v14 v15 v16 v17 v18 v19 v20 v21 v22 v23 v24 v25 v26 h4
def F_law1_msgsMark (m1 : Int) (h : Heap) (Q : Int → Int → Int → Int → Int → Int → Int → Int → Int → Int → Sl → Int → Int → ByteArray → ByteArray → Int → Int → Int → Int → Int → Int → Int → Heap → Prop) : Prop := F_law1_msgsMark_of  m1 h Q
def plan75 : Plan := .s (.r [0, 2]) (.s (.r [2]) .z)
theorem F_law1_msgsMark.eq  (m1 : Int) (h : Heap) (K : Value → Heap → Prop) : F_law1_msgsMark_of  m1 h (fun (r0 r1 r2 r3 r4 r5 r6 r7 r8 r9 : Int) (r10 : Sl) (r11 r12 : Int) (r13 r14 : ByteArray) (r15 r16 r17 r18 r19 r20 r21 : Int) (h : Heap) => K (.agg #[.int .i64 r0, .int .i64 r1, .int .i64 r2, .int .i64 r3, .int .u64 r4, .int .u64 r5, .int .u64 r6, .int .u64 r7, .int .i64 r8, .int .u64 r9, .slice r10.ptr r10.len r10.cap, .int .i64 r11, .int .u64 r12, .string r13, .string r14, .int .u64 r15, .int .u64 r16, .int .u64 r17, .int .i64 r18, .int .i64 r19, .int .i64 r20, .int .i64 r21]) h) =
    den Try.prog noFns Try.f75.ntmps plan75 (bodyOf Try.f75) (args0 0 [(.int .i64 m1 : Value)]) h ⟨fun env h => dRes Try.prog Try.f75.results.toList env h K, fun _ _ _ => False, fun env h => dRes Try.prog Try.f75.results.toList env h K⟩ := by kernel_rfl
def E_law1_msgsMark_of (f : Int → Heap → (Int → Int → Int → Int → Int → Int → Int → Int → Int → Int → Sl → Int → Int → ByteArray → ByteArray → Int → Int → Int → Int → Int → Int → Int → Heap → Prop) → Prop) : List Value → Heap → (Value → Heap → Prop) → Prop
  | [v0], h, K => dec1 (.int .i64) v0 fun (m1 : Int) =>
  f m1 h (fun (r0 r1 r2 r3 r4 r5 r6 r7 r8 r9 : Int) (r10 : Sl) (r11 r12 : Int) (r13 r14 : ByteArray) (r15 r16 r17 r18 r19 r20 r21 : Int) (h : Heap) => K (.agg #[.int .i64 r0, .int .i64 r1, .int .i64 r2, .int .i64 r3, .int .u64 r4, .int .u64 r5, .int .u64 r6, .int .u64 r7, .int .i64 r8, .int .u64 r9, .slice r10.ptr r10.len r10.cap, .int .i64 r11, .int .u64 r12, .string r13, .string r14, .int .u64 r15, .int .u64 r16, .int .u64 r17, .int .i64 r18, .int .i64 r19, .int .i64 r20, .int .i64 r21]) h)
  | _, _, _ => False
abbrev E_law1_msgsMark := E_law1_msgsMark_of F_law1_msgsMark
theorem E_law1_msgsMark.right : IsRight Try.prog 75 E_law1_msgsMark := by
  refine isRight fun vs K w hh => ?_
  match vs, hh with
  | [v0], hh =>
    unfold E_law1_msgsMark E_law1_msgsMark_of at hh
    replace hh := dec1_sound hh; obtain ⟨m1, rfl, hh⟩ := hh
    unfold F_law1_msgsMark at hh
    exact calls_den noFns_right plan75 _ w K Try.func75 (by kernel_rfl) (by kernel_rfl) (Eq.mp (F_law1_msgsMark.eq  m1 w.heap K) hh)
theorem ok75 : okFn Try.prog 75 = true := by kernel_rfl
end Go.Proofs.Ytdjhjpckefkolaa.V
namespace Go.Proofs.Ytdjhjpckefkolaa.V
open Go Go.RowKit
set_option linter.unusedVariables false
set_option maxRecDepth 100000
def F_law1_Book_growMsgs.l1 (f75_ : Int → Heap → (Int → Int → Int → Int → Int → Int → Int → Int → Int → Int → Sl → Int → Int → ByteArray → ByteArray → Int → Int → Int → Int → Int → Int → Int → Heap → Prop) → Prop) (b1 : Option Addr) (v18 : Int) (j19 : Heap → Prop) : Sl → Int → Heap → Prop :=
  wl [(4, .one .sl), (6, .one (.int .i64))] (fun (next20 : Sl → Int → Heap → Prop) (g21 : Sl) (i22 : Int) (h23 : Heap) =>
  brr (decide (i22 ≤ 32))
  (f75_ v18 h23 fun (r24 r25 r26 r27 r28 r29 r30 r31 r32 r33 : Int) (r34 : Sl) (r35 r36 : Int) (r37 r38 : ByteArray) (r39 r40 r41 r42 r43 r44 r45 : Int) (h46 : Heap) =>
  al 120 [.int .i64 r24, .int .i64 r25, .int .i64 r26, .int .i64 r27, .int .u64 r28, .int .u64 r29, .int .u64 r30, .int .u64 r31, .int .i64 r32, .int .u64 r33, .slice r34.ptr r34.len r34.cap, .int .i64 r35, .int .u64 r36, .string r37, .string r38, .int .u64 r39, .int .u64 r40, .int .u64 r41, .int .i64 r42, .int .i64 r43, .int .i64 r44, .int .i64 r45] h46 fun (a47 : Addr) (h48 : Heap) =>
  app 120 22 208 (.agg #[.int .i64 0, .int .i64 0, .int .i64 0, .int .i64 0, .int .u64 0, .int .u64 0, .int .u64 0, .int .u64 0, .int .i64 0, .int .u64 0, .slice none 0 0, .int .i64 0, .int .u64 0, .string (⟨#[]⟩ : ByteArray), .string (⟨#[]⟩ : ByteArray), .int .u64 0, .int .u64 0, .int .u64 0, .int .i64 0, .int .i64 0, .int .i64 0, .int .i64 0]) g21 (some a47) 1 h48 fun (s49 : Sl) (h50 : Heap) =>
  jn [(50, .one .bool)] (fun (x52 : Bool) (h53 : Heap) =>
  jn [] (fun  (h71 : Heap) =>
  next20 s49 (IntKind.i64.wrap (i22 + 1)) h71) (fun (j54 : Heap → Prop) =>
  brr x52
  (nn b1 fun (a55 : Addr) =>
  ld [.sl] (a55.add 27) h53 fun (v56 : Sl) =>
  al 112 [.slice s49.ptr s49.len s49.cap] h53 fun (a57 : Addr) (h58 : Heap) =>
  app 112 1 24 (.slice none 0 0) v56 (some a57) 1 h58 fun (s59 : Sl) (h60 : Heap) =>
  nn b1 fun (a61 : Addr) =>
  st (a61.add 27) [.slice s59.ptr s59.len s59.cap] h60 fun (h62 : Heap) =>
  nn b1 fun (a63 : Addr) =>
  ld [.sl] (a63.add 28) h62 fun (v64 : Sl) =>
  al 3 [.int .i64 v18] h62 fun (a65 : Addr) (h66 : Heap) =>
  app 3 1 8 (.int .i64 0) v64 (some a65) 1 h66 fun (s67 : Sl) (h68 : Heap) =>
  nn b1 fun (a69 : Addr) =>
  st (a69.add 28) [.slice s67.ptr s67.len s67.cap] h68 fun (h70 : Heap) =>
  j54 h70)
  (j54 h53))) (fun (j51 : Bool → Heap → Prop) =>
  brr (decide (i22 < 4))
  (j51 true h50)
  ((16 : Int) ≠ 0 ∧
  j51 ((i22.tmod 16) == 0) h50)))
  (j19 h23))
def F_law1_Book_growMsgs.l2 (f75_ : Int → Heap → (Int → Int → Int → Int → Int → Int → Int → Int → Int → Int → Sl → Int → Int → ByteArray → ByteArray → Int → Int → Int → Int → Int → Int → Int → Heap → Prop) → Prop) (b1 : Option Addr) (v3 : Sl) (j6 : Heap → Prop) : Int → Heap → Prop :=
  wl [(3, .one (.int .i64))] (fun (next7 : Int → Heap → Prop) (k8 : Int) (h9 : Heap) =>
  brr (decide (k8 < ((v3.len : Nat) : Int)))
  (jn [] (fun  (h73 : Heap) =>
  next7 (IntKind.i64.wrap (k8 + 1)) h73) (fun (j10 : Heap → Prop) =>
  nn b1 fun (a11 : Addr) =>
  ld [.sl] (a11.add 27) h9 fun (v12 : Sl) =>
  ixS 1 v12 k8 fun (a13 : Addr) =>
  ld [.sl] a13 h9 fun (v14 : Sl) =>
  nn b1 fun (a15 : Addr) =>
  ld [.sl] (a15.add 28) h9 fun (v16 : Sl) =>
  ixS 1 v16 k8 fun (a17 : Addr) =>
  ld [.int .i64] a17 h9 fun (v18 : Int) =>
  jn [] (fun  (h72 : Heap) =>
  j10 h72) (fun (j19 : Heap → Prop) =>
  F_law1_Book_growMsgs.l1 f75_ b1 v18 j19 v14 1 h9)))
  (j6 h9))
def F_law1_Book_growMsgs_of (f75_ : Int → Heap → (Int → Int → Int → Int → Int → Int → Int → Int → Int → Int → Sl → Int → Int → ByteArray → ByteArray → Int → Int → Int → Int → Int → Int → Int → Heap → Prop) → Prop) (b1 : Option Addr) (h : Heap) (Q : Heap → Prop) : Prop :=
  nn b1 fun (a2 : Addr) =>
  ld [.sl] (a2.add 27) h fun (v3 : Sl) =>
  nn b1 fun (a4 : Addr) =>
  ld [.int .i64] (a4.add 29) h fun (v5 : Int) =>
  jn [] (fun  (h74 : Heap) =>
  nn b1 fun (a75 : Addr) =>
  ld [.sl] (a75.add 27) h74 fun (v76 : Sl) =>
  nn b1 fun (a77 : Addr) =>
  st (a77.add 29) [.int .i64 ((v76.len : Nat) : Int)] h74 fun (h78 : Heap) =>
  Q h78) (fun (j6 : Heap → Prop) =>
  F_law1_Book_growMsgs.l2 f75_ b1 v3 j6 v5 h)
def F_law1_Book_growMsgs (b1 : Option Addr) (h : Heap) (Q : Heap → Prop) : Prop := F_law1_Book_growMsgs_of F_law1_msgsMark b1 h Q
def plan63 : Plan := .s (.r [0, 2]) (.s (.s (.r [0, 2, 3]) (.bj [] [0] (.l [(3, .one (.int .i64))] [0, 2] (.s (.s (.r [0, 2, 3, 18]) (.c .z .z)) (.s (.bj [] [0, 2, 3] (.s (.r [0, 2, 3, 4]) (.s (.r [0, 2, 3, 4, 5]) (.s (.r [0, 2, 3, 4, 5, 6]) (.bj [] [0, 2, 3] (.l [(4, .one .sl), (6, .one (.int .i64))] [0, 2, 3, 5] (.s (.s (.r [0, 2, 3, 4, 5, 6, 36]) (.c .z .z)) (.s (.b (.s (.r [0, 2, 3, 4, 5, 6]) (.s (.rj [(50, .one .bool)] [0, 2, 3, 4, 5, 6]) (.cj [] [0, 2, 3, 4, 5, 6] (.s (.r [0, 2, 3, 4, 5, 6]) (.r [0, 2, 3, 4, 5, 6])) .z)))) (.r [0, 2, 3, 4, 5, 6]))))))))) (.r [0, 2, 3])))))) (.r []))
theorem F_law1_Book_growMsgs.eq (f75_ : Int → Heap → (Int → Int → Int → Int → Int → Int → Int → Int → Int → Int → Sl → Int → Int → ByteArray → ByteArray → Int → Int → Int → Int → Int → Int → Int → Heap → Prop) → Prop) (b1 : Option Addr) (h : Heap) (K : Value → Heap → Prop) : F_law1_Book_growMsgs_of f75_ b1 h (fun  (h : Heap) => K (.tuple #[]) h) =
    den Try.prog (fn1 75 (E_law1_msgsMark_of f75_) noFns) Try.f63.ntmps plan63 (bodyOf Try.f63) (args0 0 [(.pointer b1 : Value)]) h ⟨fun env h => dRes Try.prog Try.f63.results.toList env h K, fun _ _ _ => False, fun env h => dRes Try.prog Try.f63.results.toList env h K⟩ := by kernel_rfl
def E_law1_Book_growMsgs_of (f : Option Addr → Heap → (Heap → Prop) → Prop) : List Value → Heap → (Value → Heap → Prop) → Prop
  | [v0], h, K => dec1 .ptr v0 fun (b1 : Option Addr) =>
  f b1 h (fun  (h : Heap) => K (.tuple #[]) h)
  | _, _, _ => False
abbrev E_law1_Book_growMsgs := E_law1_Book_growMsgs_of F_law1_Book_growMsgs
theorem E_law1_Book_growMsgs.right : IsRight Try.prog 63 E_law1_Book_growMsgs := by
  refine isRight fun vs K w hh => ?_
  match vs, hh with
  | [v0], hh =>
    unfold E_law1_Book_growMsgs E_law1_Book_growMsgs_of at hh
    replace hh := dec1_sound hh; obtain ⟨b1, rfl, hh⟩ := hh
    unfold F_law1_Book_growMsgs at hh
    exact calls_den (fn1_right ok75 E_law1_msgsMark.right noFns_right) plan63 _ w K Try.func63 (by kernel_rfl) (by kernel_rfl) (Eq.mp (F_law1_Book_growMsgs.eq F_law1_msgsMark b1 w.heap K) hh)
theorem ok63 : okFn Try.prog 63 = true := by kernel_rfl
end Go.Proofs.Ytdjhjpckefkolaa.V
namespace Go.Proofs.Ytdjhjpckefkolaa.V
open Go Go.RowKit
set_option linter.unusedVariables false
set_option maxRecDepth 100000
def F_law1_flightsMark_of  (m1 : Int) (h : Heap) (Q : Int → Sl → Heap → Prop) : Prop :=
  al 123 [.int .i64 0, .slice none 0 0] h fun (a2 : Addr) (h3 : Heap) =>
  st a2 [.int .i64 (IntKind.i64.wrap (1000 + m1)), .slice none 0 0] h3 fun (h4 : Heap) =>
  ld [.int .i64, .sl] a2 h4 fun (v5 : Int) (v6 : Sl) =>
  Q v5 v6 h4
def F_law1_flightsMark (m1 : Int) (h : Heap) (Q : Int → Sl → Heap → Prop) : Prop := F_law1_flightsMark_of  m1 h Q
def plan76 : Plan := .s (.r [0, 2]) (.s (.r [2]) .z)
theorem F_law1_flightsMark.eq  (m1 : Int) (h : Heap) (K : Value → Heap → Prop) : F_law1_flightsMark_of  m1 h (fun (r0 : Int) (r1 : Sl) (h : Heap) => K (.agg #[.int .i64 r0, .slice r1.ptr r1.len r1.cap]) h) =
    den Try.prog noFns Try.f76.ntmps plan76 (bodyOf Try.f76) (args0 0 [(.int .i64 m1 : Value)]) h ⟨fun env h => dRes Try.prog Try.f76.results.toList env h K, fun _ _ _ => False, fun env h => dRes Try.prog Try.f76.results.toList env h K⟩ := by kernel_rfl
def E_law1_flightsMark_of (f : Int → Heap → (Int → Sl → Heap → Prop) → Prop) : List Value → Heap → (Value → Heap → Prop) → Prop
  | [v0], h, K => dec1 (.int .i64) v0 fun (m1 : Int) =>
  f m1 h (fun (r0 : Int) (r1 : Sl) (h : Heap) => K (.agg #[.int .i64 r0, .slice r1.ptr r1.len r1.cap]) h)
  | _, _, _ => False
abbrev E_law1_flightsMark := E_law1_flightsMark_of F_law1_flightsMark
theorem E_law1_flightsMark.right : IsRight Try.prog 76 E_law1_flightsMark := by
  refine isRight fun vs K w hh => ?_
  match vs, hh with
  | [v0], hh =>
    unfold E_law1_flightsMark E_law1_flightsMark_of at hh
    replace hh := dec1_sound hh; obtain ⟨m1, rfl, hh⟩ := hh
    unfold F_law1_flightsMark at hh
    exact calls_den noFns_right plan76 _ w K Try.func76 (by kernel_rfl) (by kernel_rfl) (Eq.mp (F_law1_flightsMark.eq  m1 w.heap K) hh)
theorem ok76 : okFn Try.prog 76 = true := by kernel_rfl
end Go.Proofs.Ytdjhjpckefkolaa.V
namespace Go.Proofs.Ytdjhjpckefkolaa.V
open Go Go.RowKit
set_option linter.unusedVariables false
set_option maxRecDepth 100000
def F_law1_Book_growFlights.l1 (f76_ : Int → Heap → (Int → Sl → Heap → Prop) → Prop) (b1 : Option Addr) (v18 : Int) (j19 : Heap → Prop) : Sl → Int → Heap → Prop :=
  wl [(4, .one .sl), (6, .one (.int .i64))] (fun (next20 : Sl → Int → Heap → Prop) (g21 : Sl) (i22 : Int) (h23 : Heap) =>
  brr (decide (i22 ≤ 32))
  (f76_ v18 h23 fun (r24 : Int) (r25 : Sl) (h26 : Heap) =>
  al 123 [.int .i64 r24, .slice r25.ptr r25.len r25.cap] h26 fun (a27 : Addr) (h28 : Heap) =>
  app 123 2 32 (.agg #[.int .i64 0, .slice none 0 0]) g21 (some a27) 1 h28 fun (s29 : Sl) (h30 : Heap) =>
  jn [(50, .one .bool)] (fun (x32 : Bool) (h33 : Heap) =>
  jn [] (fun  (h51 : Heap) =>
  next20 s29 (IntKind.i64.wrap (i22 + 1)) h51) (fun (j34 : Heap → Prop) =>
  brr x32
  (nn b1 fun (a35 : Addr) =>
  ld [.sl] (a35.add 30) h33 fun (v36 : Sl) =>
  al 121 [.slice s29.ptr s29.len s29.cap] h33 fun (a37 : Addr) (h38 : Heap) =>
  app 121 1 24 (.slice none 0 0) v36 (some a37) 1 h38 fun (s39 : Sl) (h40 : Heap) =>
  nn b1 fun (a41 : Addr) =>
  st (a41.add 30) [.slice s39.ptr s39.len s39.cap] h40 fun (h42 : Heap) =>
  nn b1 fun (a43 : Addr) =>
  ld [.sl] (a43.add 31) h42 fun (v44 : Sl) =>
  al 3 [.int .i64 v18] h42 fun (a45 : Addr) (h46 : Heap) =>
  app 3 1 8 (.int .i64 0) v44 (some a45) 1 h46 fun (s47 : Sl) (h48 : Heap) =>
  nn b1 fun (a49 : Addr) =>
  st (a49.add 31) [.slice s47.ptr s47.len s47.cap] h48 fun (h50 : Heap) =>
  j34 h50)
  (j34 h33))) (fun (j31 : Bool → Heap → Prop) =>
  brr (decide (i22 < 4))
  (j31 true h30)
  ((16 : Int) ≠ 0 ∧
  j31 ((i22.tmod 16) == 0) h30)))
  (j19 h23))
def F_law1_Book_growFlights.l2 (f76_ : Int → Heap → (Int → Sl → Heap → Prop) → Prop) (b1 : Option Addr) (v3 : Sl) (j6 : Heap → Prop) : Int → Heap → Prop :=
  wl [(3, .one (.int .i64))] (fun (next7 : Int → Heap → Prop) (k8 : Int) (h9 : Heap) =>
  brr (decide (k8 < ((v3.len : Nat) : Int)))
  (jn [] (fun  (h53 : Heap) =>
  next7 (IntKind.i64.wrap (k8 + 1)) h53) (fun (j10 : Heap → Prop) =>
  nn b1 fun (a11 : Addr) =>
  ld [.sl] (a11.add 30) h9 fun (v12 : Sl) =>
  ixS 1 v12 k8 fun (a13 : Addr) =>
  ld [.sl] a13 h9 fun (v14 : Sl) =>
  nn b1 fun (a15 : Addr) =>
  ld [.sl] (a15.add 31) h9 fun (v16 : Sl) =>
  ixS 1 v16 k8 fun (a17 : Addr) =>
  ld [.int .i64] a17 h9 fun (v18 : Int) =>
  jn [] (fun  (h52 : Heap) =>
  j10 h52) (fun (j19 : Heap → Prop) =>
  F_law1_Book_growFlights.l1 f76_ b1 v18 j19 v14 1 h9)))
  (j6 h9))
def F_law1_Book_growFlights_of (f76_ : Int → Heap → (Int → Sl → Heap → Prop) → Prop) (b1 : Option Addr) (h : Heap) (Q : Heap → Prop) : Prop :=
  nn b1 fun (a2 : Addr) =>
  ld [.sl] (a2.add 30) h fun (v3 : Sl) =>
  nn b1 fun (a4 : Addr) =>
  ld [.int .i64] (a4.add 32) h fun (v5 : Int) =>
  jn [] (fun  (h54 : Heap) =>
  nn b1 fun (a55 : Addr) =>
  ld [.sl] (a55.add 30) h54 fun (v56 : Sl) =>
  nn b1 fun (a57 : Addr) =>
  st (a57.add 32) [.int .i64 ((v56.len : Nat) : Int)] h54 fun (h58 : Heap) =>
  Q h58) (fun (j6 : Heap → Prop) =>
  F_law1_Book_growFlights.l2 f76_ b1 v3 j6 v5 h)
def F_law1_Book_growFlights (b1 : Option Addr) (h : Heap) (Q : Heap → Prop) : Prop := F_law1_Book_growFlights_of F_law1_flightsMark b1 h Q
def plan64 : Plan := .s (.r [0, 2]) (.s (.s (.r [0, 2, 3]) (.bj [] [0] (.l [(3, .one (.int .i64))] [0, 2] (.s (.s (.r [0, 2, 3, 18]) (.c .z .z)) (.s (.bj [] [0, 2, 3] (.s (.r [0, 2, 3, 4]) (.s (.r [0, 2, 3, 4, 5]) (.s (.r [0, 2, 3, 4, 5, 6]) (.bj [] [0, 2, 3] (.l [(4, .one .sl), (6, .one (.int .i64))] [0, 2, 3, 5] (.s (.s (.r [0, 2, 3, 4, 5, 6, 36]) (.c .z .z)) (.s (.b (.s (.r [0, 2, 3, 4, 5, 6]) (.s (.rj [(50, .one .bool)] [0, 2, 3, 4, 5, 6]) (.cj [] [0, 2, 3, 4, 5, 6] (.s (.r [0, 2, 3, 4, 5, 6]) (.r [0, 2, 3, 4, 5, 6])) .z)))) (.r [0, 2, 3, 4, 5, 6]))))))))) (.r [0, 2, 3])))))) (.r []))
theorem F_law1_Book_growFlights.eq (f76_ : Int → Heap → (Int → Sl → Heap → Prop) → Prop) (b1 : Option Addr) (h : Heap) (K : Value → Heap → Prop) : F_law1_Book_growFlights_of f76_ b1 h (fun  (h : Heap) => K (.tuple #[]) h) =
    den Try.prog (fn1 76 (E_law1_flightsMark_of f76_) noFns) Try.f64.ntmps plan64 (bodyOf Try.f64) (args0 0 [(.pointer b1 : Value)]) h ⟨fun env h => dRes Try.prog Try.f64.results.toList env h K, fun _ _ _ => False, fun env h => dRes Try.prog Try.f64.results.toList env h K⟩ := by kernel_rfl
def E_law1_Book_growFlights_of (f : Option Addr → Heap → (Heap → Prop) → Prop) : List Value → Heap → (Value → Heap → Prop) → Prop
  | [v0], h, K => dec1 .ptr v0 fun (b1 : Option Addr) =>
  f b1 h (fun  (h : Heap) => K (.tuple #[]) h)
  | _, _, _ => False
abbrev E_law1_Book_growFlights := E_law1_Book_growFlights_of F_law1_Book_growFlights
theorem E_law1_Book_growFlights.right : IsRight Try.prog 64 E_law1_Book_growFlights := by
  refine isRight fun vs K w hh => ?_
  match vs, hh with
  | [v0], hh =>
    unfold E_law1_Book_growFlights E_law1_Book_growFlights_of at hh
    replace hh := dec1_sound hh; obtain ⟨b1, rfl, hh⟩ := hh
    unfold F_law1_Book_growFlights at hh
    exact calls_den (fn1_right ok76 E_law1_flightsMark.right noFns_right) plan64 _ w K Try.func64 (by kernel_rfl) (by kernel_rfl) (Eq.mp (F_law1_Book_growFlights.eq F_law1_flightsMark b1 w.heap K) hh)
theorem ok64 : okFn Try.prog 64 = true := by kernel_rfl
end Go.Proofs.Ytdjhjpckefkolaa.V
namespace Go.Proofs.Ytdjhjpckefkolaa.V
open Go Go.RowKit
set_option linter.unusedVariables false
set_option maxRecDepth 100000
def F_law1_Book_growFiles.l1 (f74_ : Int → Heap → (ByteArray → Sl → Heap → Prop) → Prop) (b1 : Option Addr) (v18 : Int) (j19 : Heap → Prop) : Sl → Int → Heap → Prop :=
  wl [(4, .one .sl), (6, .one (.int .i64))] (fun (next20 : Sl → Int → Heap → Prop) (g21 : Sl) (i22 : Int) (h23 : Heap) =>
  brr (decide (i22 ≤ 32))
  (f74_ v18 h23 fun (r24 : ByteArray) (r25 : Sl) (h26 : Heap) =>
  al 126 [.string r24, .slice r25.ptr r25.len r25.cap] h26 fun (a27 : Addr) (h28 : Heap) =>
  app 126 2 40 (.agg #[.string (⟨#[]⟩ : ByteArray), .slice none 0 0]) g21 (some a27) 1 h28 fun (s29 : Sl) (h30 : Heap) =>
  jn [(50, .one .bool)] (fun (x32 : Bool) (h33 : Heap) =>
  jn [] (fun  (h51 : Heap) =>
  next20 s29 (IntKind.i64.wrap (i22 + 1)) h51) (fun (j34 : Heap → Prop) =>
  brr x32
  (nn b1 fun (a35 : Addr) =>
  ld [.sl] (a35.add 33) h33 fun (v36 : Sl) =>
  al 124 [.slice s29.ptr s29.len s29.cap] h33 fun (a37 : Addr) (h38 : Heap) =>
  app 124 1 24 (.slice none 0 0) v36 (some a37) 1 h38 fun (s39 : Sl) (h40 : Heap) =>
  nn b1 fun (a41 : Addr) =>
  st (a41.add 33) [.slice s39.ptr s39.len s39.cap] h40 fun (h42 : Heap) =>
  nn b1 fun (a43 : Addr) =>
  ld [.sl] (a43.add 34) h42 fun (v44 : Sl) =>
  al 3 [.int .i64 v18] h42 fun (a45 : Addr) (h46 : Heap) =>
  app 3 1 8 (.int .i64 0) v44 (some a45) 1 h46 fun (s47 : Sl) (h48 : Heap) =>
  nn b1 fun (a49 : Addr) =>
  st (a49.add 34) [.slice s47.ptr s47.len s47.cap] h48 fun (h50 : Heap) =>
  j34 h50)
  (j34 h33))) (fun (j31 : Bool → Heap → Prop) =>
  brr (decide (i22 < 4))
  (j31 true h30)
  ((16 : Int) ≠ 0 ∧
  j31 ((i22.tmod 16) == 0) h30)))
  (j19 h23))
def F_law1_Book_growFiles.l2 (f74_ : Int → Heap → (ByteArray → Sl → Heap → Prop) → Prop) (b1 : Option Addr) (v3 : Sl) (j6 : Heap → Prop) : Int → Heap → Prop :=
  wl [(3, .one (.int .i64))] (fun (next7 : Int → Heap → Prop) (k8 : Int) (h9 : Heap) =>
  brr (decide (k8 < ((v3.len : Nat) : Int)))
  (jn [] (fun  (h53 : Heap) =>
  next7 (IntKind.i64.wrap (k8 + 1)) h53) (fun (j10 : Heap → Prop) =>
  nn b1 fun (a11 : Addr) =>
  ld [.sl] (a11.add 33) h9 fun (v12 : Sl) =>
  ixS 1 v12 k8 fun (a13 : Addr) =>
  ld [.sl] a13 h9 fun (v14 : Sl) =>
  nn b1 fun (a15 : Addr) =>
  ld [.sl] (a15.add 34) h9 fun (v16 : Sl) =>
  ixS 1 v16 k8 fun (a17 : Addr) =>
  ld [.int .i64] a17 h9 fun (v18 : Int) =>
  jn [] (fun  (h52 : Heap) =>
  j10 h52) (fun (j19 : Heap → Prop) =>
  F_law1_Book_growFiles.l1 f74_ b1 v18 j19 v14 1 h9)))
  (j6 h9))
def F_law1_Book_growFiles_of (f74_ : Int → Heap → (ByteArray → Sl → Heap → Prop) → Prop) (b1 : Option Addr) (h : Heap) (Q : Heap → Prop) : Prop :=
  nn b1 fun (a2 : Addr) =>
  ld [.sl] (a2.add 33) h fun (v3 : Sl) =>
  nn b1 fun (a4 : Addr) =>
  ld [.int .i64] (a4.add 35) h fun (v5 : Int) =>
  jn [] (fun  (h54 : Heap) =>
  nn b1 fun (a55 : Addr) =>
  ld [.sl] (a55.add 33) h54 fun (v56 : Sl) =>
  nn b1 fun (a57 : Addr) =>
  st (a57.add 35) [.int .i64 ((v56.len : Nat) : Int)] h54 fun (h58 : Heap) =>
  Q h58) (fun (j6 : Heap → Prop) =>
  F_law1_Book_growFiles.l2 f74_ b1 v3 j6 v5 h)
def F_law1_Book_growFiles (b1 : Option Addr) (h : Heap) (Q : Heap → Prop) : Prop := F_law1_Book_growFiles_of F_law1_filesMark b1 h Q
def plan65 : Plan := .s (.r [0, 2]) (.s (.s (.r [0, 2, 3]) (.bj [] [0] (.l [(3, .one (.int .i64))] [0, 2] (.s (.s (.r [0, 2, 3, 18]) (.c .z .z)) (.s (.bj [] [0, 2, 3] (.s (.r [0, 2, 3, 4]) (.s (.r [0, 2, 3, 4, 5]) (.s (.r [0, 2, 3, 4, 5, 6]) (.bj [] [0, 2, 3] (.l [(4, .one .sl), (6, .one (.int .i64))] [0, 2, 3, 5] (.s (.s (.r [0, 2, 3, 4, 5, 6, 36]) (.c .z .z)) (.s (.b (.s (.r [0, 2, 3, 4, 5, 6]) (.s (.rj [(50, .one .bool)] [0, 2, 3, 4, 5, 6]) (.cj [] [0, 2, 3, 4, 5, 6] (.s (.r [0, 2, 3, 4, 5, 6]) (.r [0, 2, 3, 4, 5, 6])) .z)))) (.r [0, 2, 3, 4, 5, 6]))))))))) (.r [0, 2, 3])))))) (.r []))
theorem F_law1_Book_growFiles.eq (f74_ : Int → Heap → (ByteArray → Sl → Heap → Prop) → Prop) (b1 : Option Addr) (h : Heap) (K : Value → Heap → Prop) : F_law1_Book_growFiles_of f74_ b1 h (fun  (h : Heap) => K (.tuple #[]) h) =
    den Try.prog (fn1 74 (E_law1_filesMark_of f74_) noFns) Try.f65.ntmps plan65 (bodyOf Try.f65) (args0 0 [(.pointer b1 : Value)]) h ⟨fun env h => dRes Try.prog Try.f65.results.toList env h K, fun _ _ _ => False, fun env h => dRes Try.prog Try.f65.results.toList env h K⟩ := by kernel_rfl
def E_law1_Book_growFiles_of (f : Option Addr → Heap → (Heap → Prop) → Prop) : List Value → Heap → (Value → Heap → Prop) → Prop
  | [v0], h, K => dec1 .ptr v0 fun (b1 : Option Addr) =>
  f b1 h (fun  (h : Heap) => K (.tuple #[]) h)
  | _, _, _ => False
abbrev E_law1_Book_growFiles := E_law1_Book_growFiles_of F_law1_Book_growFiles
theorem E_law1_Book_growFiles.right : IsRight Try.prog 65 E_law1_Book_growFiles := by
  refine isRight fun vs K w hh => ?_
  match vs, hh with
  | [v0], hh =>
    unfold E_law1_Book_growFiles E_law1_Book_growFiles_of at hh
    replace hh := dec1_sound hh; obtain ⟨b1, rfl, hh⟩ := hh
    unfold F_law1_Book_growFiles at hh
    exact calls_den (fn1_right ok74 E_law1_filesMark.right noFns_right) plan65 _ w K Try.func65 (by kernel_rfl) (by kernel_rfl) (Eq.mp (F_law1_Book_growFiles.eq F_law1_filesMark b1 w.heap K) hh)
theorem ok65 : okFn Try.prog 65 = true := by kernel_rfl
end Go.Proofs.Ytdjhjpckefkolaa.V
namespace Go.Proofs.Ytdjhjpckefkolaa.V
open Go Go.RowKit
set_option linter.unusedVariables false
set_option maxRecDepth 100000
def F_law1_Book_grow_of (f54_ : Option Addr → Heap → (Heap → Prop) → Prop) (f55_ : Option Addr → Heap → (Heap → Prop) → Prop) (f56_ : Option Addr → Heap → (Heap → Prop) → Prop) (f57_ : Option Addr → Heap → (Heap → Prop) → Prop) (f58_ : Option Addr → Heap → (Heap → Prop) → Prop) (f59_ : Option Addr → Heap → (Heap → Prop) → Prop) (f60_ : Option Addr → Heap → (Heap → Prop) → Prop) (f61_ : Option Addr → Heap → (Heap → Prop) → Prop) (f62_ : Option Addr → Heap → (Heap → Prop) → Prop) (f63_ : Option Addr → Heap → (Heap → Prop) → Prop) (f64_ : Option Addr → Heap → (Heap → Prop) → Prop) (f65_ : Option Addr → Heap → (Heap → Prop) → Prop) (b1 : Option Addr) (h : Heap) (Q : Heap → Prop) : Prop :=
  f54_ b1 h fun  (h2 : Heap) =>
  f55_ b1 h2 fun  (h3 : Heap) =>
  f56_ b1 h3 fun  (h4 : Heap) =>
  f57_ b1 h4 fun  (h5 : Heap) =>
  f58_ b1 h5 fun  (h6 : Heap) =>
  f59_ b1 h6 fun  (h7 : Heap) =>
  f60_ b1 h7 fun  (h8 : Heap) =>
  f61_ b1 h8 fun  (h9 : Heap) =>
  f62_ b1 h9 fun  (h10 : Heap) =>
  f63_ b1 h10 fun  (h11 : Heap) =>
  f64_ b1 h11 fun  (h12 : Heap) =>
  f65_ b1 h12 fun  (h13 : Heap) =>
  nn b1 fun (a14 : Addr) =>
  ld [.int .i64] (a14.add 36) h13 fun (v15 : Int) =>
  nn b1 fun (a16 : Addr) =>
  st (a16.add 37) [.int .i64 v15] h13 fun (h17 : Heap) =>
  Q h17
def F_law1_Book_grow (b1 : Option Addr) (h : Heap) (Q : Heap → Prop) : Prop := F_law1_Book_grow_of F_law1_Book_growBytes F_law1_Book_growRows F_law1_Book_growTexts F_law1_Book_growInts F_law1_Book_growWords F_law1_Book_growDones F_law1_Book_growAccts F_law1_Book_growQueue F_law1_Book_growSlots F_law1_Book_growMsgs F_law1_Book_growFlights F_law1_Book_growFiles b1 h Q
def plan42 : Plan := .s (.r [0]) (.s (.r [0]) (.s (.r [0]) (.s (.r [0]) (.s (.r [0]) (.s (.r [0]) (.s (.r [0]) (.s (.r [0]) (.s (.r [0]) (.s (.r [0]) (.s (.r [0]) (.s (.r [0]) (.r []))))))))))))
theorem F_law1_Book_grow.eq (f54_ : Option Addr → Heap → (Heap → Prop) → Prop) (f55_ : Option Addr → Heap → (Heap → Prop) → Prop) (f56_ : Option Addr → Heap → (Heap → Prop) → Prop) (f57_ : Option Addr → Heap → (Heap → Prop) → Prop) (f58_ : Option Addr → Heap → (Heap → Prop) → Prop) (f59_ : Option Addr → Heap → (Heap → Prop) → Prop) (f60_ : Option Addr → Heap → (Heap → Prop) → Prop) (f61_ : Option Addr → Heap → (Heap → Prop) → Prop) (f62_ : Option Addr → Heap → (Heap → Prop) → Prop) (f63_ : Option Addr → Heap → (Heap → Prop) → Prop) (f64_ : Option Addr → Heap → (Heap → Prop) → Prop) (f65_ : Option Addr → Heap → (Heap → Prop) → Prop) (b1 : Option Addr) (h : Heap) (K : Value → Heap → Prop) : F_law1_Book_grow_of f54_ f55_ f56_ f57_ f58_ f59_ f60_ f61_ f62_ f63_ f64_ f65_ b1 h (fun  (h : Heap) => K (.tuple #[]) h) =
    den Try.prog (fn1 54 (E_law1_Book_growBytes_of f54_) (fn1 55 (E_law1_Book_growRows_of f55_) (fn1 56 (E_law1_Book_growTexts_of f56_) (fn1 57 (E_law1_Book_growInts_of f57_) (fn1 58 (E_law1_Book_growWords_of f58_) (fn1 59 (E_law1_Book_growDones_of f59_) (fn1 60 (E_law1_Book_growAccts_of f60_) (fn1 61 (E_law1_Book_growQueue_of f61_) (fn1 62 (E_law1_Book_growSlots_of f62_) (fn1 63 (E_law1_Book_growMsgs_of f63_) (fn1 64 (E_law1_Book_growFlights_of f64_) (fn1 65 (E_law1_Book_growFiles_of f65_) noFns)))))))))))) Try.f42.ntmps plan42 (bodyOf Try.f42) (args0 0 [(.pointer b1 : Value)]) h ⟨fun env h => dRes Try.prog Try.f42.results.toList env h K, fun _ _ _ => False, fun env h => dRes Try.prog Try.f42.results.toList env h K⟩ := by kernel_rfl
def E_law1_Book_grow_of (f : Option Addr → Heap → (Heap → Prop) → Prop) : List Value → Heap → (Value → Heap → Prop) → Prop
  | [v0], h, K => dec1 .ptr v0 fun (b1 : Option Addr) =>
  f b1 h (fun  (h : Heap) => K (.tuple #[]) h)
  | _, _, _ => False
abbrev E_law1_Book_grow := E_law1_Book_grow_of F_law1_Book_grow
theorem E_law1_Book_grow.right : IsRight Try.prog 42 E_law1_Book_grow := by
  refine isRight fun vs K w hh => ?_
  match vs, hh with
  | [v0], hh =>
    unfold E_law1_Book_grow E_law1_Book_grow_of at hh
    replace hh := dec1_sound hh; obtain ⟨b1, rfl, hh⟩ := hh
    unfold F_law1_Book_grow at hh
    exact calls_den (fn1_right ok54 E_law1_Book_growBytes.right (fn1_right ok55 E_law1_Book_growRows.right (fn1_right ok56 E_law1_Book_growTexts.right (fn1_right ok57 E_law1_Book_growInts.right (fn1_right ok58 E_law1_Book_growWords.right (fn1_right ok59 E_law1_Book_growDones.right (fn1_right ok60 E_law1_Book_growAccts.right (fn1_right ok61 E_law1_Book_growQueue.right (fn1_right ok62 E_law1_Book_growSlots.right (fn1_right ok63 E_law1_Book_growMsgs.right (fn1_right ok64 E_law1_Book_growFlights.right (fn1_right ok65 E_law1_Book_growFiles.right noFns_right)))))))))))) plan42 _ w K Try.func42 (by kernel_rfl) (by kernel_rfl) (Eq.mp (F_law1_Book_grow.eq F_law1_Book_growBytes F_law1_Book_growRows F_law1_Book_growTexts F_law1_Book_growInts F_law1_Book_growWords F_law1_Book_growDones F_law1_Book_growAccts F_law1_Book_growQueue F_law1_Book_growSlots F_law1_Book_growMsgs F_law1_Book_growFlights F_law1_Book_growFiles b1 w.heap K) hh)
theorem ok42 : okFn Try.prog 42 = true := by kernel_rfl
end Go.Proofs.Ytdjhjpckefkolaa.V
namespace Go.Proofs.Ytdjhjpckefkolaa.V
open Go Go.RowKit
set_option linter.unusedVariables false
set_option maxRecDepth 100000
def F_law1_Book_Look_of (f41_ : Option Addr → Heap → (Bool → Heap → Prop) → Prop) (f42_ : Option Addr → Heap → (Heap → Prop) → Prop) (b1 : Option Addr) (h : Heap) (Q : Bool → Heap → Prop) : Prop :=
  f41_ b1 h fun (r2 : Bool) (h3 : Heap) =>
  brr (!r2)
  (Q false h3)
  (nn b1 fun (a4 : Addr) =>
  ld [.int .i64] (a4.add 37) h3 fun (v5 : Int) =>
  nn b1 fun (a6 : Addr) =>
  ld [.int .i64] (a6.add 36) h3 fun (v7 : Int) =>
  brr (v5 == v7)
  (Q true h3)
  (f42_ b1 h3 fun  (h8 : Heap) =>
  f41_ b1 h8 fun (r9 : Bool) (h10 : Heap) =>
  Q r9 h10))
def F_law1_Book_Look (b1 : Option Addr) (h : Heap) (Q : Bool → Heap → Prop) : Prop := F_law1_Book_Look_of F_law1_Book_holds F_law1_Book_grow b1 h Q
def plan16 : Plan := .s (.r [0]) (.s (.s (.r [0, 5]) (.c (.s (.r [2]) .z) .z)) (.s (.s (.d [0, 1, 3, 7, 0, 16, 48, 112, 255] [[0, 1, 2, 3, 4, 5, 6, 7, 8]] [0, 14]) (.c (.s (.r [2]) .z) .z)) (.s (.r [0]) (.s (.r [2]) .z))))
theorem F_law1_Book_Look.eq (f41_ : Option Addr → Heap → (Bool → Heap → Prop) → Prop) (f42_ : Option Addr → Heap → (Heap → Prop) → Prop) (b1 : Option Addr) (h : Heap) (K : Value → Heap → Prop) : F_law1_Book_Look_of f41_ f42_ b1 h (fun (r0 : Bool) (h : Heap) => K (.bool r0) h) =
    den Try.prog (fn1 41 (E_law1_Book_holds_of f41_) (fn1 42 (E_law1_Book_grow_of f42_) noFns)) Try.f16.ntmps plan16 (bodyOf Try.f16) (args0 0 [(.pointer b1 : Value)]) h ⟨fun env h => dRes Try.prog Try.f16.results.toList env h K, fun _ _ _ => False, fun env h => dRes Try.prog Try.f16.results.toList env h K⟩ := by kernel_rfl
def E_law1_Book_Look_of (f : Option Addr → Heap → (Bool → Heap → Prop) → Prop) : List Value → Heap → (Value → Heap → Prop) → Prop
  | [v0], h, K => dec1 .ptr v0 fun (b1 : Option Addr) =>
  f b1 h (fun (r0 : Bool) (h : Heap) => K (.bool r0) h)
  | _, _, _ => False
abbrev E_law1_Book_Look := E_law1_Book_Look_of F_law1_Book_Look
theorem E_law1_Book_Look.right : IsRight Try.prog 16 E_law1_Book_Look := by
  refine isRight fun vs K w hh => ?_
  match vs, hh with
  | [v0], hh =>
    unfold E_law1_Book_Look E_law1_Book_Look_of at hh
    replace hh := dec1_sound hh; obtain ⟨b1, rfl, hh⟩ := hh
    unfold F_law1_Book_Look at hh
    exact calls_den (fn1_right ok41 E_law1_Book_holds.right (fn1_right ok42 E_law1_Book_grow.right noFns_right)) plan16 _ w K Try.func16 (by kernel_rfl) (by kernel_rfl) (Eq.mp (F_law1_Book_Look.eq F_law1_Book_holds F_law1_Book_grow b1 w.heap K) hh)
theorem ok16 : okFn Try.prog 16 = true := by kernel_rfl
end Go.Proofs.Ytdjhjpckefkolaa.V
namespace Go.Proofs.Ytdjhjpckefkolaa.V
open Go Go.RowKit
set_option linter.unusedVariables false
set_option maxRecDepth 100000
def F_law1_Book_tight_of  (b1 : Option Addr) (n2 : Int) (h : Heap) (Q : Bool → Heap → Prop) : Prop :=
  nn b1 fun (a3 : Addr) =>
  ld [.int .i64] (a3.add 38) h fun (v4 : Int) =>
  brr (decide ((IntKind.i64.wrap (v4 + n2)) > 16777216))
  (Q true h)
  (nn b1 fun (a5 : Addr) =>
  ld [.int .i64] (a5.add 38) h fun (v6 : Int) =>
  nn b1 fun (a7 : Addr) =>
  st (a7.add 38) [.int .i64 (IntKind.i64.wrap (v6 + n2))] h fun (h8 : Heap) =>
  Q false h8)
def F_law1_Book_tight (b1 : Option Addr) (n2 : Int) (h : Heap) (Q : Bool → Heap → Prop) : Prop := F_law1_Book_tight_of  b1 n2 h Q
def plan49 : Plan := .s (.r [0, 1]) (.s (.s (.r [0, 1, 11]) (.c (.s (.r [4]) .z) .z)) (.s (.r []) (.s (.r [4]) .z)))
theorem F_law1_Book_tight.eq  (b1 : Option Addr) (n2 : Int) (h : Heap) (K : Value → Heap → Prop) : F_law1_Book_tight_of  b1 n2 h (fun (r0 : Bool) (h : Heap) => K (.bool r0) h) =
    den Try.prog noFns Try.f49.ntmps plan49 (bodyOf Try.f49) (args0 0 [(.pointer b1 : Value), (.int .i64 n2 : Value)]) h ⟨fun env h => dRes Try.prog Try.f49.results.toList env h K, fun _ _ _ => False, fun env h => dRes Try.prog Try.f49.results.toList env h K⟩ := by kernel_rfl
def E_law1_Book_tight_of (f : Option Addr → Int → Heap → (Bool → Heap → Prop) → Prop) : List Value → Heap → (Value → Heap → Prop) → Prop
  | [v0, v1], h, K => dec1 .ptr v0 fun (b1 : Option Addr) =>
  dec1 (.int .i64) v1 fun (n2 : Int) =>
  f b1 n2 h (fun (r0 : Bool) (h : Heap) => K (.bool r0) h)
  | _, _, _ => False
abbrev E_law1_Book_tight := E_law1_Book_tight_of F_law1_Book_tight
theorem E_law1_Book_tight.right : IsRight Try.prog 49 E_law1_Book_tight := by
  refine isRight fun vs K w hh => ?_
  match vs, hh with
  | [v0, v1], hh =>
    unfold E_law1_Book_tight E_law1_Book_tight_of at hh
    replace hh := dec1_sound hh; obtain ⟨b1, rfl, hh⟩ := hh
    replace hh := dec1_sound hh; obtain ⟨n2, rfl, hh⟩ := hh
    unfold F_law1_Book_tight at hh
    exact calls_den noFns_right plan49 _ w K Try.func49 (by kernel_rfl) (by kernel_rfl) (Eq.mp (F_law1_Book_tight.eq  b1 n2 w.heap K) hh)
theorem ok49 : okFn Try.prog 49 = true := by kernel_rfl
end Go.Proofs.Ytdjhjpckefkolaa.V
