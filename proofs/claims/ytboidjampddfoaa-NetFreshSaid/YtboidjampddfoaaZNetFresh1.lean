import Derived.Test.YtboidjampddfoaaZNetFresh0
import Derived.Laws.Append
import Derived.Test.YtboidjampddfoaaProg
/-
  THE HEAP BY RESOURCES: a list of assertions, each over blocks of its own ('Sat'); the rules for making, reading, writing, appending; lists that lie in memory ('View', 'buf').
-/
namespace Go.Proofs.Ytboidjampddfoaa.V
open Go Go.RowKit
set_option linter.unusedVariables false
set_option linter.unusedSimpArgs false

abbrev Blks := List (Nat × List Value)
/-- All that was there is as it was; these blocks are new, hold this, and are not one another. -/
structure Held (h0 h : Heap) (E : Blks) : Prop where
  kept : KeptH h0 h
  blk : ∀ p ∈ E, h0.size ≤ p.1 ∧ Blk h p.1 p.2
  dis : (E.map (·.1)).Nodup
theorem Held.none (h : Heap) : Held h h [] := ⟨KeptH.refl h, by simp, by simp⟩
theorem Held.perm {h0 h : Heap} {E F : Blks} (O : Held h0 h E) (p : F.Perm E) : Held h0 h F :=
  ⟨O.kept, fun q hq => O.blk q (p.subset hq), (p.map _).nodup_iff.2 O.dis⟩
theorem Held.sub {h0 h : Heap} {E F : Blks} (O : Held h0 h E) (s : F.Sublist E) : Held h0 h F :=
  ⟨O.kept, fun q hq => O.blk q (s.subset hq), O.dis.sublist (s.map _)⟩
theorem Held.push {h0 h : Heap} {E : Blks} (O : Held h0 h E) (cs : List Value) (T : TypeId) (f : Nat × Nat) (hf : f.1 = f.2 ∨ cs.length ≤ f.1) : Held h0 (h.push (.cells cs.toArray T f)) ((h.size, cs) :: E) := by
  refine ⟨⟨by simp; have := O.kept.size; omega, fun k hk => ?_⟩, ?_, ?_⟩
  · have := O.kept.size
    rw [Array.getElem?_push, if_neg (by omega)]; exact O.kept.at_ k hk
  · intro p hp
    rcases List.mem_cons.1 hp with rfl | hp
    · exact ⟨O.kept.size, T, f, by simp, hf⟩
    · obtain ⟨h1, h2⟩ := O.blk p hp
      refine ⟨h1, ?_⟩
      have := h2.lt
      obtain ⟨T', f', e, hf'⟩ := h2
      exact ⟨T', f', by rw [Array.getElem?_push, if_neg (by omega)]; exact e, hf'⟩
  · rw [List.map_cons, List.nodup_cons]
    refine ⟨fun hm => ?_, O.dis⟩
    obtain ⟨q, hq, e⟩ := List.mem_map.1 hm
    have := (O.blk q hq).2.lt
    omega
theorem setH_blk {h : Heap} {b o : Nat} {cs : List Value} {v : Value} {T : TypeId} {f : Nat × Nat} (e : h[b]? = some (.cells cs.toArray T f)) (k : Nat) :
    (setH h (pt b o) v)[k]? = if b = k then some (.cells (cs.set o v).toArray T f) else h[k]? := by
  unfold setH
  rw [Array.getElem?_modify]
  split
  · rename_i hk; subst hk; simp [e]
  · rfl
theorem Held.set {h0 h : Heap} {E : Blks} {b o : Nat} {cs : List Value} {v : Value} (O : Held h0 h ((b, cs) :: E)) : Held h0 (setH h (pt b o) v) ((b, cs.set o v) :: E) := by
  obtain ⟨hb, B⟩ := O.blk _ (List.mem_cons_self)
  have hlt := B.lt
  obtain ⟨T, f, e, hf⟩ := B
  have hat := setH_blk (o := o) (v := v) e
  have hd := O.dis
  rw [List.map_cons, List.nodup_cons] at hd
  refine ⟨⟨?_, fun k hk => ?_⟩, ?_, ?_⟩
  · have := O.kept.size; simpa [setH] using this
  · rw [hat, if_neg (by simp at hb; omega)]; exact O.kept.at_ k hk
  · intro p hp
    rcases List.mem_cons.1 hp with rfl | hp
    · exact ⟨hb, T, f, by rw [hat, if_pos rfl], by simpa using hf⟩
    · obtain ⟨h1, T', f', e', hf'⟩ := O.blk p (List.mem_cons_of_mem _ hp)
      refine ⟨h1, T', f', ?_, hf'⟩
      rw [hat, if_neg]
      · exact e'
      · intro hbb
        simp only at hbb
        exact hd.1 (List.mem_map.2 ⟨p, hp, hbb.symm⟩)
  · rw [List.map_cons, List.nodup_cons]; exact hd
theorem Held.wr {h0 h : Heap} {E : Blks} {b o : Nat} {cs : List Value} {v : Value} (O : Held h0 h ((b, cs) :: E)) (ho : o < cs.length) (hv : oneV v = true) : wr h (pt b o) v := by
  obtain ⟨hb, B⟩ := O.blk _ (List.mem_cons_self)
  refine ⟨hv, ⟨cs[o], by rw [cellH_blk B]; simp [ho]⟩, ?_⟩
  obtain ⟨T, f, e, hf⟩ := B
  simp only [frozenH, e]
  simp only [Bool.and_eq_false_iff, decide_eq_false_iff_not]
  simp only at hf
  omega
theorem Held.st {h0 : Heap} {E : Blks} {b : Nat} : ∀ {vs : List Value} {h : Heap} {o : Nat} {cs : List Value} {K : Heap → Prop} (O : Held h0 h ((b, cs) :: E)) (ho : o + vs.length ≤ cs.length) (hv : vs.all oneV = true)
    (k : ∀ h', Held h0 h' ((b, V.put cs o vs) :: E) → K h'), st (pt b o) vs h K
  | [], h, o, cs, K, O, ho, hv, k => k h (by rw [put_nil]; exact O)
  | v :: vs, h, o, cs, K, O, ho, hv, k => by
    simp only [List.length_cons] at ho
    simp only [List.all_cons, Bool.and_eq_true] at hv
    refine ⟨O.wr (by omega) hv.1, ?_⟩
    rw [pt_add]
    refine Held.st O.set (by simp; omega) hv.2 ?_
    intro h' O'
    refine k h' ?_
    rw [put_cons _ _ _ _ (by omega)]
    exact O'

theorem Held.mark {h0 h : Heap} {E : Blks} {b : Nat} {cs : List Value} (O : Held h0 h ((b, cs) :: E)) : (∃ T f, h[b]? = some (.cells cs.toArray T f)) ∧ Held h0 (markH h b cs.length) ((b, cs) :: E) := by
  obtain ⟨hb, B⟩ := O.blk _ (List.mem_cons_self)
  obtain ⟨T, f, e, hf⟩ := B
  refine ⟨⟨T, f, e⟩, ?_⟩
  have hat : ∀ k, (markH h b cs.length)[k]? = if b = k then some (.cells cs.toArray T (if f.1 == f.2 then (cs.length, cs.length + 1) else (min f.1 cs.length, max f.2 (cs.length + 1)))) else h[k]? := by
    intro k
    unfold markH
    rw [Array.getElem?_modify]
    split
    · rename_i hk; subst hk; rw [show h[b]? = _ from e]; rfl
    · rfl
  have hd := O.dis
  rw [List.map_cons, List.nodup_cons] at hd
  refine ⟨⟨?_, fun k hk => ?_⟩, ?_, O.dis⟩
  · have := O.kept.size; simpa [markH] using this
  · rw [hat, if_neg (by simp at hb; omega)]; exact O.kept.at_ k hk
  · intro p hp
    rcases List.mem_cons.1 hp with rfl | hp
    · refine ⟨hb, T, _, by rw [hat, if_pos rfl], ?_⟩
      by_cases h1 : f.1 = f.2
      · rw [if_pos (by simpa using h1)]; exact .inr (Nat.le_refl _)
      · rw [if_neg (by simpa using h1)]
        refine .inr ?_
        have h1 : ¬ f.1 = f.2 := h1
        rcases hf with hf | hf
        · exact absurd hf h1
        · have hf : cs.length ≤ f.1 := hf
          show cs.length ≤ min f.1 cs.length
          omega
    · obtain ⟨h1, T', f', e', hf'⟩ := O.blk p (List.mem_cons_of_mem _ hp)
      refine ⟨h1, T', f', ?_, hf'⟩
      rw [hat, if_neg]
      · exact e'
      · intro hbb
        exact hd.1 (List.mem_map.2 ⟨p, hp, hbb.symm⟩)
abbrev Res := Blks → Prop
def emp : Res := fun E => E = []
def own (b : Nat) (cs : List Value) : Res := fun E => E = [(b, cs)]
def sep (A B : Res) : Res := fun E => ∃ E1 E2, E.Perm (E1 ++ E2) ∧ A E1 ∧ B E2
/-- Under a condition. -/
def pr (p : Prop) (A : Res) : Res := fun E => p ∧ A E
def ex {α : Sort _} (A : α → Res) : Res := fun E => ∃ x, A x E
def star : List Res → Res
  | [] => emp
  | A :: L => sep A (star L)
/-- All that was there is as it was; beside it, each by itself, the list's resources. -/
def Sat (h0 h : Heap) (L : List Res) : Prop := ∃ E, star L E ∧ Held h0 h E
theorem Sat.nil (h : Heap) : Sat h h [] := ⟨[], rfl, Held.none h⟩
theorem Sat.kept {h0 h : Heap} {L : List Res} (O : Sat h0 h L) : KeptH h0 h := by obtain ⟨E, _, O⟩ := O; exact O.kept
theorem Sat.mono {h0 h : Heap} {A B : Res} {L : List Res} (O : Sat h0 h (A :: L)) (i : ∀ E, A E → B E) : Sat h0 h (B :: L) := by
  obtain ⟨E, ⟨E1, E2, p, h1, h2⟩, O⟩ := O
  exact ⟨E, ⟨E1, E2, p, i _ h1, h2⟩, O⟩
theorem Sat.ex {h0 h : Heap} {α : Sort _} {A : α → Res} {L : List Res} (O : Sat h0 h (V.ex A :: L)) : ∃ x, Sat h0 h (A x :: L) := by
  obtain ⟨E, ⟨E1, E2, p, ⟨x, h1⟩, h2⟩, O⟩ := O
  exact ⟨x, E, ⟨E1, E2, p, h1, h2⟩, O⟩
theorem Sat.exI {h0 h : Heap} {α : Sort _} {A : α → Res} {L : List Res} (x : α) (O : Sat h0 h (A x :: L)) : Sat h0 h (V.ex A :: L) := O.mono fun E h => ⟨x, h⟩
theorem Sat.pr {h0 h : Heap} {p : Prop} {A : Res} {L : List Res} (O : Sat h0 h (V.pr p A :: L)) : p ∧ Sat h0 h (A :: L) := by
  obtain ⟨E, ⟨E1, E2, q, ⟨hp, h1⟩, h2⟩, O⟩ := O
  exact ⟨hp, E, ⟨E1, E2, q, h1, h2⟩, O⟩
theorem Sat.prI {h0 h : Heap} {p : Prop} {A : Res} {L : List Res} (hp : p) (O : Sat h0 h (A :: L)) : Sat h0 h (V.pr p A :: L) := O.mono fun E h => ⟨hp, h⟩
theorem perm_cons_app {E E1 E2 F1 F2 : Blks} (p : E.Perm (E1 ++ E2)) (q : E2.Perm (F1 ++ F2)) : E.Perm (F1 ++ (E1 ++ F2)) :=
  p.trans ((List.Perm.append_left _ q).trans (by
    rw [← List.append_assoc, ← List.append_assoc]
    exact List.perm_append_comm.append_right _))
theorem Sat.sep {h0 h : Heap} {A B : Res} {L : List Res} (O : Sat h0 h (V.sep A B :: L)) : Sat h0 h (A :: B :: L) := by
  obtain ⟨E, ⟨E1, E2, p, ⟨F1, F2, q, hA, hB⟩, h2⟩, O⟩ := O
  exact ⟨E, ⟨F1, F2 ++ E2, p.trans ((q.append_right _).trans (by rw [List.append_assoc])), hA, F2, E2, List.Perm.refl _, hB, h2⟩, O⟩
theorem Sat.sepI {h0 h : Heap} {A B : Res} {L : List Res} (O : Sat h0 h (A :: B :: L)) : Sat h0 h (V.sep A B :: L) := by
  obtain ⟨E, ⟨E1, E2, p, hA, F1, F2, q, hB, h2⟩, O⟩ := O
  exact ⟨E, ⟨E1 ++ F1, F2, p.trans ((q.append_left _).trans (by rw [List.append_assoc])), ⟨E1, F1, List.Perm.refl _, hA, hB⟩, h2⟩, O⟩
theorem Sat.emp {h0 h : Heap} {L : List Res} (O : Sat h0 h (V.emp :: L)) : Sat h0 h L := by
  obtain ⟨E, ⟨E1, E2, p, rfl, h2⟩, O⟩ := O
  exact ⟨E2, h2, O.perm p.symm⟩
theorem Sat.empI {h0 h : Heap} {L : List Res} (O : Sat h0 h L) : Sat h0 h (V.emp :: L) := by
  obtain ⟨E, h2, O⟩ := O
  exact ⟨E, ⟨[], E, List.Perm.refl _, rfl, h2⟩, O⟩
theorem Sat.drop {h0 h : Heap} {A : Res} {L : List Res} (O : Sat h0 h (A :: L)) : Sat h0 h L := by
  obtain ⟨E, ⟨E1, E2, p, _, h2⟩, O⟩ := O
  exact ⟨E2, h2, (O.perm p.symm).sub (List.sublist_append_right _ _)⟩
theorem Sat.swap {h0 h : Heap} {A B : Res} {L : List Res} (O : Sat h0 h (A :: B :: L)) : Sat h0 h (B :: A :: L) := by
  obtain ⟨E, ⟨E1, E2, p, hA, F1, F2, q, hB, h2⟩, O⟩ := O
  exact ⟨E, ⟨F1, E1 ++ F2, perm_cons_app p q, hB, E1, F2, List.Perm.refl _, hA, h2⟩, O⟩

def nth : Nat → List Res → Res
  | 0, A :: _ => A
  | i + 1, _ :: L => nth i L
  | _, [] => emp
theorem star_at : ∀ (i : Nat) {L : List Res} {E : Blks}, i < L.length → star L E → ∃ E1 E2, E.Perm (E1 ++ E2) ∧ nth i L E1 ∧ ∀ (B : Res) F, B F → star (L.set i B) (F ++ E2)
  | _, [], _, hi, _ => by simp at hi
  | 0, A :: L, E, _, ⟨E1, E2, p, hA, h2⟩ => ⟨E1, E2, p, hA, fun B F hB => ⟨F, E2, List.Perm.refl _, hB, h2⟩⟩
  | i + 1, A :: L, E, hi, ⟨E1, E2, p, hA, h2⟩ => by
    obtain ⟨F1, F2, q, h3, h4⟩ := star_at i (L := L) (by simpa using hi) h2
    refine ⟨F1, E1 ++ F2, perm_cons_app p q, h3, fun B F hB => ⟨E1, F ++ F2, ?_, hA, h4 B F hB⟩⟩
    rw [← List.append_assoc, ← List.append_assoc]
    exact List.perm_append_comm.append_right _
theorem Sat.at {h0 h : Heap} {L : List Res} (O : Sat h0 h L) (i : Nat) (hi : i < L.length) : ∃ E1 E2, nth i L E1 ∧ Held h0 h (E1 ++ E2) ∧ ∀ (B : Res) F h', B F → Held h0 h' (F ++ E2) → Sat h0 h' (L.set i B) := by
  obtain ⟨E, hs, O⟩ := O
  obtain ⟨E1, E2, p, h1, h2⟩ := star_at i hi hs
  exact ⟨E1, E2, h1, O.perm p.symm, fun B F h' hB O' => ⟨F ++ E2, h2 B F hB, O'⟩⟩
/-- Resources chosen by their places, and all from a place on. -/
def selT (is : List Nat) (n : Nat) (L : List Res) : List Res := is.map (nth · L) ++ L.drop n
theorem star_pairs : ∀ {L : List Res} {E : Blks}, star L E ↔ ∃ Ps : List (Res × Blks), Ps.map (·.1) = L ∧ (∀ p ∈ Ps, p.1 p.2) ∧ E.Perm (Ps.flatMap (·.2))
  | [], E => by
    constructor
    · intro h; exact ⟨[], rfl, by simp, by rw [show E = [] from h]; exact List.Perm.refl _⟩
    · rintro ⟨Ps, h1, h2, h3⟩
      simp at h1; subst h1; simp at h3; exact h3
  | A :: L, E => by
    constructor
    · rintro ⟨E1, E2, p, hA, h2⟩
      obtain ⟨Ps, h3, h4, h5⟩ := star_pairs.1 h2
      refine ⟨(A, E1) :: Ps, by simp [h3], ?_, ?_⟩
      · intro q hq; rcases List.mem_cons.1 hq with rfl | hq; exact hA; exact h4 q hq
      · rw [List.flatMap_cons]; exact p.trans (h5.append_left _)
    · rintro ⟨Ps, h1, h2, h3⟩
      cases Ps with
      | nil => simp at h1
      | cons q Ps =>
        simp only [List.map_cons, List.cons.injEq] at h1
        obtain ⟨rfl, rfl⟩ := h1
        rw [List.flatMap_cons] at h3
        exact ⟨q.2, _, h3, h2 q List.mem_cons_self, star_pairs.2 ⟨Ps, rfl, fun p hp => h2 p (List.mem_cons_of_mem _ hp), List.Perm.refl _⟩⟩
theorem sel_aux {α : Type _} : ∀ (is : List Nat) (Ps : List α), is.Nodup → (∀ i ∈ is, i < Ps.length) → ∃ R, (is.filterMap (fun i => Ps.zipIdx[i]?) ++ R).Perm Ps.zipIdx
  | [], Ps, _, _ => ⟨Ps.zipIdx, by simp⟩
  | i :: is, Ps, hn, hi => by
    rw [List.nodup_cons] at hn
    obtain ⟨R, p⟩ := sel_aux is Ps hn.2 fun j hj => hi j (List.mem_cons_of_mem _ hj)
    have hil := hi i List.mem_cons_self
    have hq : Ps.zipIdx[i]? = some (Ps[i], i) := by simp [hil]
    have hm : (Ps[i], i) ∈ Ps.zipIdx := List.mem_of_getElem? hq
    rcases List.mem_append.1 (p.symm.subset hm) with h | h
    · obtain ⟨j, hj, e⟩ := List.mem_filterMap.1 h
      have hjl := hi j (List.mem_cons_of_mem _ hj)
      simp [hjl] at e
      rw [e.2] at hj
      exact absurd hj hn.1
    · obtain ⟨s, t, rfl⟩ := List.append_of_mem h
      refine ⟨s ++ t, ?_⟩
      rw [List.filterMap_cons, hq]
      refine List.Perm.trans ?_ p
      simp only [List.cons_append]
      rw [← List.append_assoc, ← List.append_assoc]
      exact List.perm_middle.symm
theorem nth_map : ∀ (Ps : List (Res × Blks)) (i : Nat) (hi : i < Ps.length), nth i (Ps.map (·.1)) = (Ps[i]).1
  | [], i, hi => by simp at hi
  | p :: Ps, 0, hi => rfl
  | p :: Ps, i + 1, hi => nth_map Ps i (by simpa using hi)
theorem filterMap_idx {α : Type _} (Ps : List α) (is : List Nat) (hi : ∀ i ∈ is, i < Ps.length) : (is.filterMap (fun i => Ps.zipIdx[i]?)).map (·.1) = is.filterMap (fun i => Ps[i]?) := by
  rw [List.map_filterMap]
  congr 1
  funext i
  simp [Function.comp_def]
theorem filterMap_nth (Ps : List (Res × Blks)) : ∀ (is : List Nat), (∀ i ∈ is, i < Ps.length) → (is.filterMap (fun i => Ps[i]?)).map (·.1) = is.map (nth · (Ps.map (·.1)))
  | [], _ => rfl
  | i :: is, hi => by
    have hil := hi i List.mem_cons_self
    simp only [List.filterMap_cons, List.getElem?_eq_getElem hil, List.map_cons, nth_map Ps i hil]
    congr 1
    exact filterMap_nth Ps is fun j hj => hi j (List.mem_cons_of_mem _ hj)
theorem filterMap_range' {α : Type _} : ∀ (k n : Nat) (Ps : List α), n + k = Ps.length → (List.range' n k).filterMap (fun i => Ps[i]?) = Ps.drop n
  | 0, n, Ps, h => by simp; omega
  | k + 1, n, Ps, h => by
    rw [List.range'_succ, List.filterMap_cons, List.getElem?_eq_getElem (by omega)]
    simp only
    rw [filterMap_range' k (n + 1) Ps (by omega), List.drop_eq_getElem_cons (i := n) (by omega)]
def okSel (is : List Nat) (n : Nat) : Bool := decide is.Nodup && is.all (fun i => decide (i < n))
theorem Sat.sel {h0 h : Heap} {L : List Res} (O : Sat h0 h L) (is : List Nat) (n : Nat) (c : okSel is n = true) (hl : n ≤ L.length) : Sat h0 h (selT is n L) := by
  obtain ⟨E, hs, O⟩ := O
  obtain ⟨Ps, rfl, h1, h2⟩ := star_pairs.1 hs
  simp only [okSel, Bool.and_eq_true, decide_eq_true_eq, List.all_eq_true] at c
  rw [List.length_map] at hl
  have hb : ∀ i ∈ is ++ List.range' n (Ps.length - n), i < Ps.length := by
    intro i hi
    rcases List.mem_append.1 hi with hi | hi
    · have := c.2 i hi; omega
    · have := List.mem_range'_1.1 hi; omega
  obtain ⟨R, p⟩ := sel_aux (is ++ List.range' n (Ps.length - n)) Ps (List.nodup_append.2 ⟨c.1, List.nodup_range', fun i hi j hj => by
    have := c.2 i hi
    have := List.mem_range'_1.1 hj
    omega⟩) hb
  have p1 := p.map (·.1)
  rw [List.map_append, filterMap_idx Ps _ hb, List.filterMap_append, filterMap_range' _ _ _ (by omega), show Ps.zipIdx.map (·.1) = Ps by simp] at p1
  have p2 := p1.flatMap_right (·.2)
  rw [List.flatMap_append] at p2
  have hsel : ∀ q ∈ is.filterMap (fun i => Ps[i]?) ++ Ps.drop n, q ∈ Ps := fun q hq => p1.subset (List.mem_append.2 (.inl hq))
  refine ⟨_, star_pairs.2 ⟨is.filterMap (fun i => Ps[i]?) ++ Ps.drop n, ?_, fun q hq => h1 q (hsel q hq), List.Perm.refl _⟩, (O.perm (p2.trans h2.symm)).sub (List.sublist_append_left _ _)⟩
  rw [List.map_append, filterMap_nth Ps is fun i hi => hb i (List.mem_append.2 (.inl hi)), selT, List.map_drop]
/-- What was made over a heap, beside what was there. -/
theorem Sat.stack {h0 h h' : Heap} {L M : List Res} (O : Sat h0 h L) (N : Sat h h' M) : Sat h0 h' (M ++ L) := by
  obtain ⟨E, hs, O⟩ := O
  obtain ⟨F, ht, N⟩ := N
  obtain ⟨Ps, rfl, h1, h2⟩ := star_pairs.1 hs
  obtain ⟨Qs, rfl, h3, h4⟩ := star_pairs.1 ht
  refine ⟨F ++ E, star_pairs.2 ⟨Qs ++ Ps, by simp, ?_, ?_⟩, O.kept.trans N.kept, ?_, ?_⟩
  · intro p hp; rcases List.mem_append.1 hp with hp | hp; exact h3 p hp; exact h1 p hp
  · rw [List.flatMap_append]; exact h4.append h2
  · intro p hp
    rcases List.mem_append.1 hp with hp | hp
    · obtain ⟨a, b⟩ := N.blk p hp
      exact ⟨Nat.le_trans O.kept.size a, b⟩
    · obtain ⟨a, b⟩ := O.blk p hp
      refine ⟨a, ?_⟩
      have hlt := b.lt
      obtain ⟨T, f, e, hf⟩ := b
      exact ⟨T, f, by rw [N.kept.at_ _ hlt]; exact e, hf⟩
  · rw [List.map_append, List.nodup_append]
    refine ⟨N.dis, O.dis, ?_⟩
    intro a ha b hb
    obtain ⟨p, hp, rfl⟩ := List.mem_map.1 ha
    obtain ⟨q, hq, rfl⟩ := List.mem_map.1 hb
    have := (N.blk p hp).1
    have := (O.blk q hq).2.lt
    omega
theorem Sat.kept2 {h0 h h' : Heap} {L : List Res} (O : Sat h0 h L) (k : KeptH h h') : Sat h0 h' L := by
  have := O.stack (M := []) (h' := h') ⟨[], rfl, ⟨k, by simp, by simp⟩⟩
  exact this
theorem Sat.app {h0 h : Heap} {L M : List Res} (O : Sat h0 h (L ++ M)) : Sat h0 h M := by
  induction L with
  | nil => exact O
  | cons A L ih => exact ih O.drop

theorem Sat.push {h0 h : Heap} {L : List Res} (O : Sat h0 h L) (cs : List Value) (T : TypeId) (f : Nat × Nat) (hf : f.1 = f.2 ∨ cs.length ≤ f.1) : Sat h0 (h.push (.cells cs.toArray T f)) (own h.size cs :: L) := by
  obtain ⟨E, hs, O⟩ := O
  exact ⟨_, ⟨[(h.size, cs)], E, List.Perm.refl _, rfl, hs⟩, O.push cs T f hf⟩
theorem Sat.al {h0 h : Heap} {L : List Res} {T : TypeId} {cs : List Value} {K : Addr → Heap → Prop} (O : Sat h0 h L) (k : ∀ b h', Sat h0 h' (own b cs :: L) → K (pt b 0) h') : al T cs h K :=
  k h.size _ (O.push cs T (0, 0) (.inl rfl))
theorem Sat.blk {h0 h : Heap} {L : List Res} (O : Sat h0 h L) {i b : Nat} {cs : List Value} (hl : i < L.length) (hi : nth i L = own b cs) : h0.size ≤ b ∧ Blk h b cs := by
  obtain ⟨E1, E2, h1, O', _⟩ := O.at i hl
  rw [hi] at h1
  rw [show E1 = [(b, cs)] from h1] at O'
  exact O'.blk _ List.mem_cons_self
theorem Blk.ld {h : Heap} {b o : Nat} {cs : List Value} (B : Blk h b cs) {ks : List Kd} {K : Fn ks Prop} (hl : ldL ks (cs.drop o) K) : ld ks (pt b o) h K := by
  have := cellsAre_blk B o (cs.drop o).length
  rw [List.take_length] at this
  exact ld_are this hl
theorem nth_lt : ∀ {i : Nat} {L : List Res} {b : Nat} {cs : List Value}, nth i L = own b cs → i < L.length
  | 0, _ :: _, _, _, _ => by simp
  | i + 1, _ :: L, _, _, h => by have := nth_lt (i := i) (L := L) h; simpa using this
  | 0, [], b, cs, h => by
    have := congrFun h []
    simp [nth, emp, own] at this
  | i + 1, [], b, cs, h => by
    have := congrFun h []
    simp [nth, emp, own] at this
theorem Sat.ld {h0 h : Heap} {L : List Res} (O : Sat h0 h L) (i : Nat) {b o : Nat} {cs : List Value} {ks : List Kd} {K : Fn ks Prop} (hi : nth i L = own b cs) (hl : ldL ks (cs.drop o) K) : ld ks (pt b o) h K :=
  (O.blk (nth_lt hi) hi).2.ld hl
theorem Sat.st {h0 h : Heap} {L : List Res} (O : Sat h0 h L) (i : Nat) {b o : Nat} {cs vs : List Value} {K : Heap → Prop} (hi : nth i L = own b cs) (ho : o + vs.length ≤ cs.length) (hv : vs.all oneV = true)
    (k : ∀ h', Sat h0 h' (L.set i (own b (V.put cs o vs))) → K h') : st (pt b o) vs h K := by
  obtain ⟨E1, E2, h1, O', h2⟩ := O.at i (nth_lt hi)
  rw [hi] at h1
  rw [show E1 = [(b, cs)] from h1] at O'
  exact Held.st O' ho hv fun h' O'' => k h' (h2 _ [(b, V.put cs o vs)] h' rfl O'')
theorem Sat.frz {h0 h : Heap} {L : List Res} {b o : Nat} {cs : List Value} {K : Heap → Prop} (O : Sat h0 h (own b cs :: L)) (k : ∀ h', Sat h0 h' (own b cs :: L) → K h') : V.frz (some (pt b o)) h K := by
  obtain ⟨E, ⟨E1, E2, p, hA, h2⟩, O⟩ := O
  have hA' : E1 = [(b, cs)] := hA
  subst hA'
  obtain ⟨⟨T, f, e⟩, O'⟩ := (O.perm p.symm).mark
  refine ⟨_, _, T, f, rfl, e, ?_⟩
  rw [show cs.toArray.size = cs.length by simp]
  exact k _ ⟨_, ⟨[(b, cs)], E2, List.Perm.refl _, rfl, h2⟩, O'⟩
end Go.Proofs.Ytboidjampddfoaa.V
/-
  LISTS IN MEMORY: lists that can be read ('View'), slices that are a part's own ('bufs', 'buf'); making, appending, copying, slicing.
-/
namespace Go.Proofs.Ytboidjampddfoaa.V
open Go Go.RowKit
set_option linter.unusedVariables false
set_option linter.unusedSimpArgs false

variable {α β : Type}
/-- A slice whose elements can be read: each in so many cells. -/
def View (h : Heap) (sz : Nat) (R : α → List Value → Prop) (s : Sl) (xs : List α) : Prop :=
  s.len = xs.length ∧ ∀ i x, xs[i]? = some x → ∃ a cs, s.ptr = some a ∧ cs.length = sz ∧ R x cs ∧ cellsAre h (a.add (i * sz)) cs
abbrev En (enc : α → List Value) : α → List Value → Prop := fun x cs => cs = enc x
def u8 (x : UInt8) : List Value := [.int .u8 (x.toNat : Int)]
abbrev Bytes (h : Heap) (s : Sl) (l : List UInt8) : Prop := View h 1 (En u8) s l
theorem View.mono {h h' : Heap} {sz : Nat} {R R' : α → List Value → Prop} {s : Sl} {xs : List α} (V : View h sz R s xs) (k : KeptH h h') (hR : ∀ x ∈ xs, ∀ cs, R x cs → R' x cs) : View h' sz R' s xs := by
  refine ⟨V.1, fun i x hx => ?_⟩
  obtain ⟨a, cs, h1, h2, h3, h4⟩ := V.2 i x hx
  exact ⟨a, cs, h1, h2, hR x (List.mem_of_getElem? hx) cs h3, cellsAre_kept k h4⟩
theorem View.kept {h h' : Heap} {sz : Nat} {R : α → List Value → Prop} {s : Sl} {xs : List α} (V : View h sz R s xs) (k : KeptH h h') : View h' sz R s xs := V.mono k fun _ _ _ h => h
theorem View.nil {h : Heap} {sz : Nat} {R : α → List Value → Prop} {p : Option Addr} {c : Nat} : View h sz R ⟨p, 0, c⟩ ([] : List α) := ⟨rfl, by simp⟩
theorem View.len {h : Heap} {sz : Nat} {R : α → List Value → Prop} {s : Sl} {xs : List α} (V : View h sz R s xs) : s.len = xs.length := V.1
theorem cellsAre_drop {h : Heap} : ∀ {cs : List Value} {a : Addr} (o : Nat), cellsAre h a cs → cellsAre h (a.add o) (cs.drop o)
  | cs, a, 0, hc => by rw [Addr.add_zero']; simpa using hc
  | [], a, o + 1, hc => by simp [cellsAre]
  | v :: vs, a, o + 1, hc => by
    have := cellsAre_drop (a := a.add 1) o hc.2
    rwa [Addr_add_add, Nat.add_comm] at this
theorem ld_drop {h : Heap} {cs : List Value} {a : Addr} {ks : List Kd} {K : Fn ks Prop} (c : cellsAre h a cs) (o : Nat) (hl : ldL ks (cs.drop o) K) : ld ks (a.add o) h K := ld_are (cellsAre_drop o c) hl
/-- An element's place. -/
theorem View.ix {h : Heap} {sz : Nat} {R : α → List Value → Prop} {s : Sl} {xs : List α} {i : Int} {K : Addr → Prop} (V : View h sz R s xs) (h0 : 0 ≤ i) (h1 : i < (xs.length : Int))
    (k : ∀ a cs x, xs[i.toNat]? = some x → cs.length = sz → R x cs → cellsAre h a cs → K a) : ixS sz s i K := by
  have hi : i.toNat < xs.length := by omega
  obtain ⟨a, cs, h2, h3, h4, h5⟩ := V.2 i.toNat _ (List.getElem?_eq_getElem hi)
  refine ⟨a, h2, h0, by rw [V.1]; exact h1, ?_⟩
  exact k _ cs _ (List.getElem?_eq_getElem hi) h3 h4 h5
/-- One byte. -/
theorem Bytes.at {h : Heap} {s : Sl} {l : List UInt8} {i : Int} {K : Int → Prop} (V : Bytes h s l) (h0 : 0 ≤ i) (h1 : i < (l.length : Int)) (k : ∀ x, l[i.toNat]? = some x → K (x.toNat : Int)) : ixS 1 s i fun a => ld [.int .u8] a h K :=
  V.ix h0 h1 fun a cs x hx hl hR hc => by
    subst hR
    exact ld_are hc ⟨_, rfl, k x hx⟩
theorem cellsAre_nil {h : Heap} {a : Addr} : cellsAre h a [] := trivial
theorem View.cells {h : Heap} {sz : Nat} {R : α → List Value → Prop} {s : Sl} : ∀ {xs : List α} {o : Nat}, (∀ (i : Nat) x, xs[i]? = some x → ∃ a cs, s.ptr = some a ∧ cs.length = sz ∧ R x cs ∧ cellsAre h (a.add ((o + i) * sz)) cs) →
    ∀ a, s.ptr = some a → ∃ css : List (List Value), css.length = xs.length ∧ (∀ (i : Nat) x cs, xs[i]? = some x → css[i]? = some cs → cs.length = sz ∧ R x cs) ∧ cellsAre h (a.add (o * sz)) css.flatten
  | [], o, _, a, _ => ⟨[], rfl, by simp, trivial⟩
  | x :: xs, o, V, a, ha => by
    obtain ⟨a', cs, h1, h2, h3, h4⟩ := V 0 x rfl
    rw [ha] at h1; simp at h1; subst h1
    obtain ⟨css, h5, h6, h7⟩ := View.cells (h := h) (R := R) (s := s) (sz := sz) (xs := xs) (o := o + 1) (fun i y hy => by
      obtain ⟨a', cs, h1, h2, h3, h4⟩ := V (i + 1) y (by simpa using hy)
      exact ⟨a', cs, h1, h2, h3, by rw [show o + 1 + i = o + (i + 1) by omega]; exact h4⟩) a ha
    refine ⟨cs :: css, by simp [h5], ?_, ?_⟩
    · intro i y ds hy hd
      cases i with
      | zero => simp at hy hd; subst hy; subst hd; exact ⟨h2, h3⟩
      | succ i => exact h6 i y ds (by simpa using hy) (by simpa using hd)
    · rw [List.flatten_cons]
      refine cellsAre_append (by simpa using h4) ?_
      rw [Addr_add_add, h2, show o * sz + sz = (o + 1) * sz by rw [Nat.add_mul, Nat.one_mul]]
      exact h7
theorem flatten_enc {enc : α → List Value} : ∀ {xs : List α} {css : List (List Value)}, css.length = xs.length → (∀ (i : Nat) x cs, xs[i]? = some x → css[i]? = some cs → cs = enc x) → css.flatten = xs.flatMap enc
  | [], [], _, _ => rfl
  | [], _ :: _, h, _ => by simp at h
  | _ :: _, [], h, _ => by simp at h
  | x :: xs, c :: css, h, k => by
    rw [List.flatten_cons, List.flatMap_cons, k 0 x c rfl rfl, flatten_enc (by simpa using h) fun i y cs hy hc => k (i + 1) y cs (by simpa using hy) (by simpa using hc)]
theorem flatMap_len {enc : α → List Value} {sz : Nat} (he : ∀ x, (enc x).length = sz) : ∀ xs : List α, (xs.flatMap enc).length = xs.length * sz
  | [] => by simp
  | x :: xs => by rw [List.flatMap_cons, List.length_append, he, flatMap_len he xs, List.length_cons, Nat.add_mul, Nat.one_mul, Nat.add_comm]
/-- All its cells, in a row. -/
theorem View.rd {h : Heap} {sz : Nat} {enc : α → List Value} {s : Sl} {xs : List α} (he : ∀ x, (enc x).length = sz) (V : View h sz (En enc) s xs) : rdP h s.ptr (s.len * sz) = some (xs.flatMap enc) := by
  rw [V.1, ← flatMap_len he]
  cases xs with
  | nil =>
    cases hp : s.ptr with
    | none => rfl
    | some a => rfl
  | cons x xs =>
    obtain ⟨a, cs, h1, _⟩ := V.2 0 x rfl
    obtain ⟨css, h2, h3, h4⟩ := View.cells (h := h) (R := En enc) (s := s) (sz := sz) (xs := x :: xs) (o := 0) (fun i y hy => by
      obtain ⟨a, cs, k1, k2, k3, k4⟩ := V.2 i y hy
      exact ⟨a, cs, k1, k2, k3, by rw [Nat.zero_add]; exact k4⟩) a h1
    rw [h1]
    have e := flatten_enc (enc := enc) h2 fun i y cs hy hc => (h3 i y cs hy hc).2
    rw [e, Nat.zero_mul, Addr.add_zero'] at h4
    exact rdL_are h4
theorem rdL_take {h : Heap} : ∀ {cs : List Value} {a : Addr} (n : Nat), n ≤ cs.length → cellsAre h a cs → rdL h a n = some (cs.take n)
  | cs, a, n, hn, hc => by
    have := rdL_are (cellsAre_take n hc)
    rwa [List.length_take, Nat.min_eq_left hn] at this
/-- The first so many elements' cells. -/
theorem View.rdn {h : Heap} {sz : Nat} {enc : α → List Value} {s : Sl} {xs : List α} (he : ∀ x, (enc x).length = sz) (V : View h sz (En enc) s xs) (n : Nat) (hn : n ≤ xs.length) : rdP h s.ptr (n * sz) = some ((xs.take n).flatMap enc) := by
  have : View h sz (En enc) ⟨s.ptr, n, n⟩ (xs.take n) := by
    refine ⟨by simp [hn], fun i x hx => ?_⟩
    rw [List.getElem?_take] at hx
    split at hx
    · exact V.2 i x hx
    · simp at hx
  exact this.rd he
theorem View.slice {h : Heap} {sz : Nat} {R : α → List Value → Prop} {s : Sl} {xs : List α} (V : View h sz R s xs) (i j m : Nat) (hi : i ≤ j) (hj : j ≤ xs.length) (hc : s.len ≤ s.cap) : View h sz R ⟨slp sz s i, j - i, m⟩ ((xs.drop i).take (j - i)) := by
  refine ⟨by simp; omega, fun k x hx => ?_⟩
  rw [List.getElem?_take] at hx
  split at hx
  · rename_i hk
    rw [List.getElem?_drop] at hx
    obtain ⟨a, cs, h1, h2, h3, h4⟩ := V.2 (i + k) x hx
    have hl := V.1
    refine ⟨a.add (i * sz), cs, ?_, h2, h3, ?_⟩
    · unfold slp
      rw [if_neg (by omega), h1]; rfl
    · rw [Addr_add_add, ← Nat.add_mul]; exact h4
  · simp at hx
theorem View.take {h : Heap} {sz : Nat} {R : α → List Value → Prop} {s : Sl} {xs : List α} (V : View h sz R s xs) (j m : Nat) (hj : j ≤ xs.length) : View h sz R ⟨s.ptr, j, m⟩ (xs.take j) := by
  refine ⟨by simp [hj], fun k x hx => ?_⟩
  rw [List.getElem?_take] at hx
  split at hx
  · exact V.2 k x hx
  · simp at hx

def bufs (sz : Nat) (enc : α → List Value) (s : Sl) (xs : List α) (sp : List Value) : Res := fun E =>
  (s = ⟨none, 0, 0⟩ ∧ xs = [] ∧ sp = [] ∧ E = []) ∨ ∃ b k, s = ⟨some (pt b 0), xs.length, xs.length + k⟩ ∧ sp.length = k * sz ∧ E = [(b, xs.flatMap enc ++ sp)]
def buf (sz : Nat) (enc : α → List Value) (s : Sl) (xs : List α) : Res := ex fun sp => bufs sz enc s xs sp
theorem bufs.lens {sz : Nat} {enc : α → List Value} {s : Sl} {xs : List α} {sp : List Value} {E : Blks} (h : bufs sz enc s xs sp E) : s.len = xs.length ∧ s.len ≤ s.cap := by
  rcases h with ⟨rfl, rfl, _, _⟩ | ⟨b, k, rfl, _, _⟩ <;> simp
theorem nth_mem : ∀ {i : Nat} {L : List Res}, i < L.length → nth i L ∈ L
  | 0, A :: _, _ => by simp [nth]
  | i + 1, _ :: L, h => by simp only [nth]; exact List.mem_cons_of_mem _ (nth_mem (by simpa using h))
  | _, [], h => by simp at h
theorem flat_at {enc : α → List Value} {sz : Nat} (he : ∀ x, (enc x).length = sz) : ∀ {xs : List α} {i : Nat} {x : α} (sp : List Value), xs[i]? = some x → ((xs.flatMap enc ++ sp).drop (i * sz)).take sz = enc x
  | [], i, x, _, h => by simp at h
  | y :: ys, 0, x, sp, h => by
    simp at h; subst h
    rw [List.flatMap_cons, Nat.zero_mul, List.drop_zero, List.append_assoc, List.take_append_of_le_length (by rw [he]; exact Nat.le_refl _), List.take_of_length_le (by rw [he]; exact Nat.le_refl _)]
  | y :: ys, i + 1, x, sp, h => by
    have := flat_at he (xs := ys) (i := i) (x := x) sp (by simpa using h)
    rw [List.flatMap_cons, List.append_assoc, List.drop_append, List.drop_of_length_le (by rw [he, Nat.add_mul]; omega), he, List.nil_append, show (i + 1) * sz - sz = i * sz by rw [Nat.add_mul]; omega]
    exact this
theorem nth_set : ∀ {i : Nat} {L : List Res} (B : Res), i < L.length → nth i (L.set i B) = B
  | 0, _ :: _, _, _ => rfl
  | i + 1, _ :: L, B, h => nth_set (i := i) (L := L) B (by simpa using h)
  | _, [], _, h => by simp at h
theorem view_of_blk {h : Heap} {b k sz : Nat} {enc : α → List Value} (he : ∀ x, (enc x).length = sz) {xs : List α} {sp : List Value} (B : Blk h b (xs.flatMap enc ++ sp)) : View h sz (En enc) ⟨some (pt b 0), xs.length, k⟩ xs := by
  refine ⟨rfl, fun i x hx => ⟨_, _, rfl, he x, rfl, ?_⟩⟩
  rw [pt_add, Nat.zero_add, ← flat_at he sp hx]
  exact cellsAre_blk B _ _
theorem Sat.views {h0 h : Heap} {L : List Res} (O : Sat h0 h L) (i : Nat) {sz : Nat} {enc : α → List Value} {s : Sl} {xs : List α} {sp : List Value} (he : ∀ x, (enc x).length = sz) (hl : i < L.length) (hi : nth i L = bufs sz enc s xs sp) : View h sz (En enc) s xs ∧ s.len ≤ s.cap := by
  obtain ⟨E1, E2, h1, O', _⟩ := O.at i hl
  rw [hi] at h1
  refine ⟨?_, (bufs.lens h1).2⟩
  rcases h1 with ⟨rfl, rfl, rfl, rfl⟩ | ⟨b, k, rfl, hsp, rfl⟩
  · exact View.nil
  · exact view_of_blk he (O'.blk _ (List.mem_cons_self)).2
theorem Sat.view {h0 h : Heap} {L : List Res} (O : Sat h0 h L) (i : Nat) {sz : Nat} {enc : α → List Value} {s : Sl} {xs : List α} (he : ∀ x, (enc x).length = sz) (hl : i < L.length) (hi : nth i L = buf sz enc s xs) : View h sz (En enc) s xs ∧ s.len ≤ s.cap := by
  obtain ⟨E1, E2, h1, O', h2⟩ := O.at i hl
  rw [hi] at h1
  obtain ⟨sp, h1⟩ := h1
  have O2 := h2 (bufs sz enc s xs sp) E1 h h1 O'
  exact O2.views (sp := sp) i he (by simpa using hl) (nth_set _ hl)
/-- A view that stays, whatever becomes of the others. -/
def Stays (h0 : Heap) (L : List Res) (p : Heap → Prop) : Prop := ∀ h, Sat h0 h L → p h
theorem rdP_own {h0 h : Heap} {L : List Res} (O : Sat h0 h L) (i : Nat) {b : Nat} {cs : List Value} (hi : nth i L = own b cs) (n : Nat) (hn : n ≤ cs.length) : rdP h (some (pt b 0)) n = some (cs.take n) := by
  have := cellsAre_blk (O.blk (nth_lt hi) hi).2 0 cs.length
  rw [List.drop_zero, List.take_length] at this
  exact rdL_take n hn this
/-- A cell list is laid over the first of others. -/
theorem put_app : ∀ (us ss ns : List Value) , ns.length ≤ ss.length → V.put (us ++ ss) us.length ns = us ++ ns ++ ss.drop ns.length := by
  intro us ss ns h
  have := put_mid us (ss.take ns.length) (ss.drop ns.length) ns (by simp [h])
  rw [List.append_assoc, List.take_append_drop] at this
  exact this
/-- APPEND: one's own slice grows. -/
theorem Sat.app_buf {h0 h : Heap} {L : List Res} {sz bts T : Nat} {enc : α → List Value} {s : Sl} {xs : List α} {z : Value} {src : Option Addr} {m : Nat} {K : Sl → Heap → Prop} (O : Sat h0 h (buf sz enc s xs :: L))
    (he : ∀ x, (enc x).length = sz) (ho : ∀ x, (enc x).all oneV = true) (hz : z.cells.size = sz) {ys : List α} (hm : m = ys.length) (hr : rdP h src (m * sz) = some (ys.flatMap enc)) (hb : (xs.length + ys.length) * bts ≤ 140737488355328)
    (k : ∀ s' h', Sat h0 h' (buf sz enc s' (xs ++ ys) :: L) → s'.len = xs.length + ys.length → K s' h') : V.app T sz bts z s src m h K := by
  obtain ⟨sp, O⟩ := O.ex
  obtain ⟨E, ⟨E1, E2, p, hA, h2⟩, O⟩ := O
  have O := O.perm p.symm
  subst hm
  have hall : (ys.flatMap enc).all oneV = true := by simp only [List.all_eq_true, List.mem_flatMap]; rintro v ⟨x, _, hv⟩; exact List.all_eq_true.1 (ho x) v hv
  have hly : (ys.flatMap enc).length = ys.length * sz := flatMap_len he ys
  have hlx : (xs.flatMap enc).length = xs.length * sz := flatMap_len he xs
  have fresh : ∀ c, xs.length + ys.length ≤ c → Sat h0 (h.push (.cells (xs.flatMap enc ++ ys.flatMap enc ++ (Builtin.zeroCells z.cells (c - (xs.length + ys.length))).toList).toArray T)) (buf sz enc ⟨some (pt h.size 0), xs.length + ys.length, c⟩ (xs ++ ys) :: L) := by
    intro c hc
    have O' := (O.sub (List.sublist_append_right E1 E2)).push (xs.flatMap enc ++ ys.flatMap enc ++ (Builtin.zeroCells z.cells (c - (xs.length + ys.length))).toList) T (0, 0) (.inl rfl)
    refine ⟨_, ⟨[(h.size, (xs ++ ys).flatMap enc ++ (Builtin.zeroCells z.cells (c - (xs.length + ys.length))).toList)], E2, List.Perm.refl _, ⟨(Builtin.zeroCells z.cells (c - (xs.length + ys.length))).toList, .inr ⟨h.size, c - (xs.length + ys.length), ?_, ?_, rfl⟩⟩, h2⟩, ?_⟩
    · simp; omega
    · simp [Builtin.zeroCells, hz]
    · rw [List.flatMap_append]; exact O'
  refine ⟨_, hr, fun hcap => ?_, fun hcap => ⟨growslice_fits (by exact hcap) (by
    rcases hA with ⟨rfl, rfl, rfl, rfl⟩ | ⟨b, j, rfl, hsp, rfl⟩ <;> simpa using hb), ?_⟩⟩
  · rcases hA with ⟨rfl, rfl, rfl, rfl⟩ | ⟨b, j, rfl, hsp, rfl⟩
    · simp at hcap
      subst hcap
      refine k _ _ ⟨E2, ⟨[], E2, List.Perm.refl _, ⟨[], .inl ⟨by simp, by simp, rfl, rfl⟩⟩, h2⟩, O⟩ (by simp)
    · simp only [Option.map_some, stP, pt_add, Nat.zero_add]
      simp only at hcap
      have hj : ys.length ≤ j := by omega
      have hmul : ys.length * sz ≤ j * sz := Nat.mul_le_mul_right _ hj
      refine Held.st O (by simp [hlx, hly, hsp]; omega) hall fun h' O' => ?_
      rw [← hlx, put_app _ _ _ (by rw [hly, hsp]; exact hmul)] at O'
      refine k _ _ ⟨_, ⟨[(b, (xs ++ ys).flatMap enc ++ sp.drop (ys.flatMap enc).length)], E2, List.Perm.refl _, ⟨sp.drop (ys.flatMap enc).length, .inr ⟨b, j - ys.length, ?_, ?_, rfl⟩⟩, h2⟩, ?_⟩ rfl
      · simp; omega
      · rw [List.length_drop, hly, hsp, Nat.sub_mul]
      · rw [List.flatMap_append]; exact O'
  · rcases hA with ⟨rfl, rfl, rfl, rfl⟩ | ⟨b, j, rfl, hsp, rfl⟩
    · refine ⟨[], rfl, fun c hc => ?_⟩
      have := fresh c (by simpa using hc)
      simp only [List.length_nil, Nat.zero_add, List.nil_append, List.flatMap_nil] at this hc ⊢
      exact k _ _ this (by simp)
    · refine ⟨xs.flatMap enc, ?_, fun c hc => ?_⟩
      · simp only
        have := cellsAre_blk (O.blk _ (List.mem_cons_self)).2 0 (xs.flatMap enc ++ sp).length
        rw [List.drop_zero, List.take_length] at this
        simp only [rdP]
        have h3 := rdL_take (xs.length * sz) (by simp [hlx]) this
        rw [← hlx, List.take_left] at h3
        rw [← hlx]; exact h3
      · exact k _ _ (fresh c hc) rfl
/-- One value is appended. -/
theorem Sat.push_buf {h0 h : Heap} {L : List Res} {sz bts T T' : Nat} {enc : α → List Value} {s : Sl} {xs : List α} {z : Value} {K : Sl → Heap → Prop} (O : Sat h0 h (buf sz enc s xs :: L)) (y : α) {cs : List Value} (hcs : cs = enc y)
    (he : ∀ x, (enc x).length = sz) (ho : ∀ x, (enc x).all oneV = true) (hz : z.cells.size = sz) (hb : (xs.length + 1) * bts ≤ 140737488355328)
    (k : ∀ s' h', Sat h0 h' (buf sz enc s' (xs ++ [y]) :: L) → s'.len = xs.length + 1 → K s' h') : V.al T' cs h fun a h1 => V.app T sz bts z s (some a) 1 h1 K := by
  subst hcs
  refine O.al fun b h1 O1 => ?_
  have hr := rdP_own O1 0 rfl sz (by rw [he]; exact Nat.le_refl _)
  refine Sat.app_buf (O1.swap) he ho hz (ys := [y]) rfl (by rw [Nat.one_mul, hr]; simp; rw [List.take_of_length_le (by rw [he]; exact Nat.le_refl _)]) hb fun s' h' O' hl => k s' h' ?_ hl
  exact O'.swap.drop
/-- MAKE. -/
theorem mkCells_len {z : Value} {n : Nat} : (mkCells z n).length = n := by simp [mkCells]
theorem Sat.mk_buf {h0 h : Heap} {L : List Res} {T sz bts : Nat} {z : Value} {l c : Int} {K : Sl → Heap → Prop} (O : Sat h0 h L) (h1 : 0 ≤ l) (h2 : l ≤ c) (h3 : (bts : Int) * c ≤ 281474976710656)
    (k : ∀ b h', Sat h0 h' (own b (mkCells z (c.toNat * sz)) :: L) → K ⟨some (pt b 0), l.toNat, c.toNat⟩ h') : V.mk T sz bts z l c h K :=
  ⟨h1, h2, h3, k h.size _ (O.push _ T (0, 0) (.inl rfl))⟩
/-- A view over one's own block. -/
theorem Sat.own_buf {h0 h : Heap} {L : List Res} {b k sz : Nat} {enc : α → List Value} {xs : List α} {sp : List Value} (O : Sat h0 h (own b (xs.flatMap enc ++ sp) :: L)) (hsp : sp.length = k * sz) : Sat h0 h (bufs sz enc ⟨some (pt b 0), xs.length, xs.length + k⟩ xs sp :: L) :=
  O.mono fun E h => .inr ⟨b, k, rfl, hsp, h⟩
theorem Sat.bufsI {h0 h : Heap} {L : List Res} {sz : Nat} {enc : α → List Value} {s : Sl} {xs : List α} {sp : List Value} (O : Sat h0 h (bufs sz enc s xs sp :: L)) : Sat h0 h (buf sz enc s xs :: L) := O.exI sp
theorem Sat.nil_buf {h0 h : Heap} {L : List Res} {sz : Nat} {enc : α → List Value} (O : Sat h0 h L) : Sat h0 h (buf sz enc ⟨none, 0, 0⟩ [] :: L) := O.empI.mono fun E h => ⟨[], .inl ⟨rfl, rfl, rfl, h⟩⟩
end Go.Proofs.Ytboidjampddfoaa.V
/-
  WHAT AN ARGUMENT IS: from the form's reading of an argument ('trod') to typed cells ('Fits'), with bounds on lengths.
-/
namespace Go.Proofs.Ytboidjampddfoaa.V
open Go Go.RowKit
set_option linter.unusedVariables false
set_option linter.unusedSimpArgs false

/-- A slice that came in, of at most so many places. -/
def SlN (h : Heap) (N size bytes : Nat) (s : Sl) (E : List Value → Prop) : Prop :=
  (s.ptr = none ∧ s.len = 0 ∧ s.cap = 0) ∨
  ∃ a, s.ptr = some a ∧ s.len ≤ s.cap ∧ s.cap * bytes ≤ 140737488351232 ∧ s.cap ≤ N ∧ ∀ i, i < s.cap → ∃ cs, cs.length = size ∧ cellsAre h (a.add (i * size)) cs ∧ E cs
def RdN (P : Program) (h : Heap) (N : Nat) : Nat → TypeId → List Value → Prop
  | 0, _, _ => False
  | n + 1, t, cs => match P.underlying t with
    | some .bool => ∃ b, cs = [.bool b]
    | some (.int k) => ∃ x, cs = [.int k x] ∧ k.min ≤ x ∧ x ≤ k.max
    | some .string => ∃ s : ByteArray, cs = [.string s] ∧ s.size ≤ N
    | some (.slice e) => ∃ s : Sl, cs = [.slice s.ptr s.len s.cap] ∧ (0 < P.bytesOf e → SlN h N (P.cellsOf e) (P.bytesOf e) s fun cs => RdN P h N n e cs)
    | some (.struct fs) => cs.length = P.cellsOf t ∧ ∀ f ∈ fs.toList, RdN P h N n f.type ((cs.drop f.offset).take (P.cellsOf f.type))
    | some (.array m e) => cs.length = P.cellsOf t ∧ ∀ i, i < m → RdN P h N n e ((cs.drop (i * P.cellsOf e)).take (P.cellsOf e))
    | _ => True
section
variable {H : Type} {enc : TypeId × Value → H} {P : Program} {w : World}
/-- A bound that its parts bear too. -/
structure Bound (P : Program) (N : Nat) (B : TypeId → DataW H → Prop) : Prop where
  str : ∀ t b, P.underlying t = some .string → B t (.lit (.string b)) → b.length ≤ N
  sl : ∀ t e xs ys, P.underlying t = some (.slice e) → B t (.slice xs ys) → (xs.length + ys.length) * P.bytesOf e ≤ 140737488351232 ∧ (0 < P.bytesOf e → xs.length + ys.length ≤ N) ∧ (∀ d ∈ xs, B e d) ∧ ∀ d ∈ ys, B e d
  st : ∀ t fs ds, P.underlying t = some (.struct fs) → B t (.agg ds) → ∀ (i : Nat) f d, fs.toList[i]? = some f → ds[i]? = some d → B f.type d
  ar : ∀ t m e ds, P.underlying t = some (.array m e) → B t (.agg ds) → ∀ d ∈ ds, B e d
theorem bound_said {P : Program} : Bound (H := H) P 140737488351232 fun t d => ∀ x ∈ d.weights P t, x ≤ reachBytes := by
  refine ⟨?_, ?_, ?_, ?_⟩
  · intro t b hu h
    have := h b.length (by simp [DataW.weights])
    simpa [reachBytes] using this
  · intro t e xs ys hu h
    simp only [DataW.weights, hu] at h
    have h1 := h _ (List.mem_cons_self)
    simp only [reachBytes] at h1
    refine ⟨h1, fun hb => ?_, weightsAll_mem (p := (· ≤ reachBytes)) (fun x hx => h x (List.mem_cons_of_mem _ (List.mem_append.2 (.inl hx)))), weightsAll_mem (p := (· ≤ reachBytes)) (fun x hx => h x (List.mem_cons_of_mem _ (List.mem_append.2 (.inr hx))))⟩
    exact Nat.le_trans (Nat.le_mul_of_pos_right _ hb) h1
  · intro t fs ds hu h i f d hf hd
    simp only [DataW.weights, hu] at h
    exact weightsEach_at (p := (· ≤ reachBytes)) (ts := fs.toList.map (·.type)) (ds := ds) h i f.type d (by simp [hf]) hd
  · intro t m e ds hu h d hd
    simp only [DataW.weights, hu] at h
    exact weightsAll_mem (p := (· ≤ reachBytes)) h d hd
theorem bulk_mem {d : DataW H} : ∀ {l : List (DataW H)}, d ∈ l → Rows.uptoBulk d ≤ Rows.uptoBulkAll l
  | [], h => by simp at h
  | x :: l, h => by
    simp only [Rows.uptoBulkAll]
    rcases List.mem_cons.1 h with rfl | h
    · omega
    · have := bulk_mem h; omega
theorem bulk_pos (d : DataW H) : 1 ≤ Rows.uptoBulk d := by
  cases d with
  | lit l => cases l <;> simp [Rows.uptoBulk]
  | nil => simp [Rows.uptoBulk]
  | ptr d => simp [Rows.uptoBulk]
  | slice elems spare => simp [Rows.uptoBulk]
  | agg parts => simp [Rows.uptoBulk]
  | iface t d => simp [Rows.uptoBulk]
  | map entries => simp [Rows.uptoBulk]
  | held h => simp [Rows.uptoBulk]
theorem bulk_len : ∀ (l : List (DataW H)), l.length ≤ Rows.uptoBulkAll l
  | [] => by simp [Rows.uptoBulkAll]
  | x :: l => by have := bulk_pos x; have := bulk_len l; simp only [Rows.uptoBulkAll, List.length_cons]; omega
theorem bound_upto {P : Program} {N : Nat} (hN : N ≤ 1048576) : Bound (H := H) P N fun t d => (∀ x ∈ d.weights P t, x ≤ reachBytes) ∧ Rows.uptoBulk d ≤ N := by
  have s := bound_said (H := H) (P := P)
  refine ⟨?_, ?_, ?_, ?_⟩
  · intro t b hu h
    have := h.2
    simp only [Rows.uptoBulk] at this
    omega
  · intro t e xs ys hu h
    obtain ⟨h1, _, h3, h4⟩ := s.sl t e xs ys hu h.1
    have := h.2
    simp only [Rows.uptoBulk] at this
    have := bulk_len xs
    have := bulk_len ys
    refine ⟨h1, fun _ => by omega, fun d hd => ⟨h3 d hd, ?_⟩, fun d hd => ⟨h4 d hd, ?_⟩⟩
    · have := bulk_mem hd; omega
    · have := bulk_mem hd; omega
  · intro t fs ds hu h i f d hf hd
    refine ⟨s.st t fs ds hu h.1 i f d hf hd, ?_⟩
    have := h.2
    simp only [Rows.uptoBulk] at this
    have := bulk_mem (List.mem_of_getElem? hd)
    omega
  · intro t m e ds hu h d hd
    refine ⟨s.ar t m e ds hu h.1 d hd, ?_⟩
    have := h.2
    simp only [Rows.uptoBulk] at this
    have := bulk_mem hd
    omega
theorem trod_rdN {N : Nat} {B : TypeId → DataW H → Prop} (bd : Bound P N B) : ∀ (fuel : Nat) (t : TypeId) (cs : List Value) (d : DataW H) (ps : List MemPlace), DataW.trod enc P w 0 (fun _ => true) true fuel t cs = some (d, ps) →
    B t d → RdN P w.heap N fuel t cs
  | 0, _, _, _, _, h, _ => by simp [DataW.trod] at h
  | n + 1, t, cs, d, ps, h, hw => by
    unfold RdN
    unfold DataW.trod at h
    cases hu : P.underlying t with
    | none => trivial
    | some td =>
      rw [hu] at h
      cases td with
      | bool =>
        simp only
        split at h <;> simp_all
      | int k =>
        simp only
        split at h <;> simp_all [Lit.wf]
      | string =>
        simp only
        split at h <;> simp_all
        obtain ⟨_, rfl, _⟩ := h
        have := bd.str t _ hu hw
        simpa using this
      | slice e =>
        simp only
        split at h <;> simp_all
        · exact ⟨⟨none, 0, 0⟩, ⟨rfl, rfl, rfl⟩, fun _ => .inl ⟨rfl, rfl, rfl⟩⟩
        · rename_i e' a' a len cap hcs
          obtain ⟨⟨h1, h2⟩, h3⟩ := h
          replace h3 := bind_some h3; obtain ⟨elems, he, h3⟩ := h3
          replace h3 := map_some' h3; obtain ⟨rest, hr, h3⟩ := h3
          simp at h3
          obtain ⟨h3, _⟩ := h3
          subst h3
          obtain ⟨hw1, hwN, hwe, hwr⟩ := bd.sl t a' _ _ hu hw
          simp only [List.length_map] at hw1 hwN
          obtain ⟨le, ge⟩ := mapM_at he
          obtain ⟨lr, gr⟩ := mapM_at hr
          simp at le lr
          refine ⟨⟨some a, len, cap⟩, ⟨rfl, rfl, rfl⟩, fun hpos => .inr ⟨a, rfl, h1, ?_, ?_, fun i hi => ?_⟩⟩
          · rw [le, lr, show len + (cap - len) = cap by omega] at hw1
            exact hw1
          · have := hwN hpos
            rw [le, lr] at this
            simp only
            omega
          · simp only at hi
            have key : ∃ y : DataW H × List MemPlace, ((w.cells? 0 (a.add (i * P.cellsOf a')) (P.cellsOf a')).bind (DataW.trod enc P w 0 (fun x => true) true n a')) = some y ∧ B a' y.1 := by
              by_cases hil : i < len
              · obtain ⟨y, hy, hyi⟩ := ge i i (by simp [hil])
                exact ⟨y, hy, hwe y.1 (List.mem_map.2 ⟨y, List.mem_of_getElem? hyi, rfl⟩)⟩
              · obtain ⟨y, hy, hyi⟩ := gr (i - len) (i - len) (by rw [List.getElem?_range (by omega)])
                rw [show len + (i - len) = i by omega] at hy
                exact ⟨y, hy, hwr y.1 (List.mem_map.2 ⟨y, List.mem_of_getElem? hyi, rfl⟩)⟩
            obtain ⟨⟨yd, yp⟩, hy, hyw⟩ := key
            replace hy := bind_some hy; obtain ⟨cs', hcs', hy⟩ := hy
            obtain ⟨hl, hc⟩ := cells_are hcs'
            exact ⟨cs', hl, hc, trod_rdN bd n _ _ _ _ hy hyw⟩
      | struct fs =>
        simp only at h ⊢
        split at h
        · rename_i hl
          replace h := map_some' h; obtain ⟨xs, hx, h⟩ := h
          simp at h
          obtain ⟨h, _⟩ := h
          subst h
          obtain ⟨lx, gx⟩ := mapM_at hx
          refine ⟨hl, fun f hf => ?_⟩
          obtain ⟨i, hi⟩ := List.mem_iff_getElem?.1 hf
          obtain ⟨⟨yd, yp⟩, hy, hyi⟩ := gx i f hi
          exact trod_rdN bd n _ _ _ _ hy (bd.st t fs _ hu hw i f yd hi (by simp [hyi]))
        · simp at h
      | array m e =>
        simp only at h ⊢
        split at h
        · rename_i hl
          replace h := map_some' h; obtain ⟨xs, hx, h⟩ := h
          simp at h
          obtain ⟨h, _⟩ := h
          subst h
          obtain ⟨lx, gx⟩ := mapM_at hx
          refine ⟨hl, fun i hi => ?_⟩
          obtain ⟨⟨yd, yp⟩, hy, hyi⟩ := gx i i (by simp [hi])
          exact trod_rdN bd n _ _ _ _ hy (bd.ar t m e _ hu hw yd (List.mem_map.2 ⟨(yd, yp), List.mem_of_getElem? hyi, rfl⟩))
        · simp at h
      | _ => trivial
end

inductive Ty where
  | int (k : IntKind)
  | bool
  | str
  | sl (sz bts : Nat) (e : Ty)
  | nil
  | cons (a b : Ty)
def Ty.size : Ty → Nat
  | .nil => 0
  | .cons a b => a.size + b.size
  | _ => 1
def Ty.rep : Nat → Ty → Ty
  | 0, _ => .nil
  | n + 1, x => .cons x (Ty.rep n x)
def shapeFs (P : Program) (f : TypeId → Option Ty) : Nat → List Field → Option Ty
  | _, [] => some .nil
  | off, fd :: fs => match f fd.type, shapeFs P f (off + P.cellsOf fd.type) fs with
    | some a, some b => match Nat.beq fd.offset off && Nat.beq a.size (P.cellsOf fd.type) with
      | true => some (.cons a b)
      | false => none
    | _, _ => none
def shape (P : Program) : Nat → TypeId → Option Ty
  | 0, _ => none
  | n + 1, t => match P.underlying t with
    | some .bool => some .bool
    | some (.int k) => some (.int k)
    | some .string => some .str
    | some (.slice e) => match shape P n e with
      | some x => match Nat.beq x.size (P.cellsOf e) && Nat.blt 0 (P.bytesOf e) with
        | true => some (.sl (P.cellsOf e) (P.bytesOf e) x)
        | false => none
      | none => none
    | some (.struct fs) => match shapeFs P (shape P n) 0 fs.toList with
      | some x => match Nat.beq x.size (P.cellsOf t) with
        | true => some x
        | false => none
      | none => none
    | some (.array m e) => match shape P n e with
      | some x => match Nat.beq x.size (P.cellsOf e) && Nat.beq (P.cellsOf t) (m * P.cellsOf e) with
        | true => some (Ty.rep m x)
        | false => none
      | none => none
    | _ => none
/-- Cells that are a value of that shape. -/
def Fit (h : Heap) (N : Nat) : Ty → List Value → Prop
  | .int k, cs => ∃ x, cs = [.int k x] ∧ k.min ≤ x ∧ x ≤ k.max
  | .bool, cs => ∃ b, cs = [.bool b]
  | .str, cs => ∃ s : ByteArray, cs = [.string s] ∧ s.size ≤ N
  | .sl sz bts e, cs => ∃ s : Sl, cs = [.slice s.ptr s.len s.cap] ∧ SlN h N sz bts s fun cs => Fit h N e cs
  | .nil, cs => cs = []
  | .cons a b, cs => ∃ c1 c2, cs = c1 ++ c2 ∧ c1.length = a.size ∧ Fit h N a c1 ∧ Fit h N b c2
theorem fits_fs {P : Program} {h : Heap} {N : Nat} {f : TypeId → Option Ty} {R : TypeId → List Value → Prop} (hf : ∀ t x cs, f t = some x → R t cs → cs.length = x.size → Fit h N x cs) :
    ∀ {fs : List Field} {off : Nat} {x : Ty} {cs : List Value}, shapeFs P f off fs = some x → off + x.size = cs.length → (∀ fd ∈ fs, R fd.type ((cs.drop fd.offset).take (P.cellsOf fd.type))) → Fit h N x (cs.drop off)
  | [], off, x, cs, hs, hl, _ => by
    simp only [shapeFs, Option.some.injEq] at hs
    subst hs
    simp only [Ty.size] at hl
    simp [Fit]; omega
  | fd :: fs, off, x, cs, hs, hl, hR => by
    simp only [shapeFs] at hs
    split at hs
    · rename_i a b ha hb
      split at hs
      · rename_i hc
        simp only [Option.some.injEq] at hs
        subst hs
        simp only [Bool.and_eq_true, Nat.beq_eq] at hc
        obtain ⟨h1, h2⟩ := hc
        simp only [Ty.size] at hl
        have hd := hR fd List.mem_cons_self
        rw [h1, ← h2] at hd
        have hlen : ((cs.drop off).take a.size).length = a.size := by simp; omega
        refine ⟨(cs.drop off).take a.size, cs.drop (off + a.size), ?_, hlen, hf _ _ _ ha hd hlen, ?_⟩
        · rw [← List.drop_drop, List.take_append_drop]
        · have := fits_fs hf hb (cs := cs) (by rw [← h2]; omega) fun fd' hfd => hR fd' (List.mem_cons_of_mem _ hfd)
          rw [← h2] at this
          exact this
      · simp at hs
    · simp at hs
theorem fits_rep {h : Heap} {N : Nat} {x : Ty} : ∀ (m : Nat) {cs : List Value}, cs.length = m * x.size → (∀ i, i < m → Fit h N x ((cs.drop (i * x.size)).take x.size)) → Fit h N (Ty.rep m x) cs
  | 0, cs, hl, _ => by simp at hl; simp [Ty.rep, Fit, hl]
  | m + 1, cs, hl, hR => by
    rw [Nat.add_mul, Nat.one_mul] at hl
    refine ⟨cs.take x.size, cs.drop x.size, (List.take_append_drop _ _).symm, by simp; omega, by simpa using hR 0 (by omega), fits_rep m (by simp; omega) fun i hi => ?_⟩
    have := hR (i + 1) (by omega)
    rwa [List.drop_drop, show x.size + i * x.size = (i + 1) * x.size by rw [Nat.add_mul, Nat.one_mul, Nat.add_comm]]
theorem fits_of {P : Program} {h : Heap} {N : Nat} : ∀ (d : Nat) {n : Nat} {t : TypeId} {x : Ty} {cs : List Value}, shape P d t = some x → RdN P h N n t cs → (cs.length = x.size ∨ True) → Fit h N x cs
  | 0, n, t, x, cs, hs, _, _ => by simp [shape] at hs
  | d + 1, 0, t, x, cs, hs, hR, _ => hR.elim
  | d + 1, n + 1, t, x, cs, hs, hR, _ => by
    unfold shape at hs
    unfold RdN at hR
    cases hu : P.underlying t with
    | none => rw [hu] at hs; simp at hs
    | some td =>
      rw [hu] at hs hR
      cases td <;> simp only [Option.some.injEq, reduceCtorEq] at hs hR
      case bool => subst hs; exact hR
      case int k => subst hs; exact hR
      case string => subst hs; exact hR
      case slice e =>
        split at hs
        · rename_i y hy
          split at hs
          · rename_i hc
            simp only [Option.some.injEq] at hs
            subst hs
            simp only [Bool.and_eq_true, Nat.beq_eq] at hc
            obtain ⟨s, rfl, hS⟩ := hR
            have hpos : 0 < P.bytesOf e := Nat.le_of_ble_eq_true hc.2
            refine ⟨s, rfl, ?_⟩
            rcases hS hpos with hS | ⟨a, h1, h2, h3, h4, h5⟩
            · exact .inl hS
            · refine .inr ⟨a, h1, h2, h3, h4, fun i hi => ?_⟩
              obtain ⟨cs, k1, k2, k3⟩ := h5 i hi
              exact ⟨cs, k1, k2, fits_of d hy k3 (.inr trivial)⟩
          · simp at hs
        · simp at hs
      case struct fs =>
        split at hs
        · rename_i y hy
          split at hs
          · rename_i hc
            simp only [Option.some.injEq] at hs
            subst hs
            rw [Nat.beq_eq] at hc
            have := fits_fs (P := P) (h := h) (N := N) (R := fun t cs => RdN P h N n t cs) (fun t x cs h1 h2 _ => fits_of d h1 h2 (.inr trivial)) hy (cs := cs) (by rw [hR.1, hc]; omega) hR.2
            simpa using this
          · simp at hs
        · simp at hs
      case array m e =>
        split at hs
        · rename_i y hy
          split at hs
          · rename_i hc
            simp only [Option.some.injEq] at hs
            subst hs
            simp only [Bool.and_eq_true, Nat.beq_eq] at hc
            refine fits_rep m (by rw [hR.1, hc.1]; exact hc.2) fun i hi => ?_
            rw [hc.1]
            exact fits_of d hy (hR.2 i hi) (.inr trivial)
          · simp at hs
        · simp at hs
/-- The elements of a slice that came in. -/
theorem SlN.view {α : Type} {h : Heap} {N sz bts : Nat} {s : Sl} {E : List Value → Prop} (S : SlN h N sz bts s E) (R : α → List Value → Prop) (hE : ∀ cs, E cs → ∃ x, R x cs) : s.len ≤ s.cap ∧ s.cap ≤ N ∧ s.cap * bts ≤ 140737488351232 ∧ ∃ xs : List α, View h sz R s xs := by
  rcases S with ⟨h1, h2, h3⟩ | ⟨a, h1, h2, h3, h4, h5⟩
  · exact ⟨by omega, by omega, by rw [h3]; omega, [], by rw [h2]; rfl, by simp⟩
  · refine ⟨h2, h4, h3, ?_⟩
    have : ∀ n, n ≤ s.cap → ∃ xs : List α, xs.length = n ∧ ∀ (i : Nat) x, xs[i]? = some x → ∃ a cs, s.ptr = some a ∧ cs.length = sz ∧ R x cs ∧ cellsAre h (a.add (i * sz)) cs := by
      intro n
      induction n with
      | zero => intro _; exact ⟨[], rfl, by simp⟩
      | succ n ih =>
        intro hn
        obtain ⟨xs, hl, hx⟩ := ih (by omega)
        obtain ⟨cs, k1, k2, k3⟩ := h5 n (by omega)
        obtain ⟨x, hR⟩ := hE cs k3
        refine ⟨xs ++ [x], by simp [hl], fun i y hy => ?_⟩
        rw [List.getElem?_append] at hy
        split at hy
        · exact hx i y hy
        · rename_i hi
          have : i = n := by
            rw [hl] at hi hy
            by_cases e : i - n = 0
            · omega
            · rw [List.getElem?_eq_none (by simp; omega)] at hy; simp at hy
          subst this
          rw [hl, Nat.sub_self] at hy
          simp at hy; subst hy
          exact ⟨a, cs, h1, k1, hR, k2⟩
    obtain ⟨xs, hl, hx⟩ := this s.len h2
    exact ⟨xs, hl.symm, hx⟩
theorem u8_of {cs : List Value} {h : Heap} {N : Nat} (hf : Fit h N (.int .u8) cs) : ∃ x : UInt8, En u8 x cs := by
  obtain ⟨x, rfl, h1, h2⟩ := hf
  simp [IntKind.min, IntKind.max, IntKind.bits, IntKind.signed] at h1 h2
  refine ⟨UInt8.ofNat x.toNat, ?_⟩
  simp only [En, u8, UInt8.toNat_ofNat', List.cons.injEq, Value.int.injEq, true_and, and_true]
  omega
/-- A list of bytes that came in. -/
theorem SlN.bytes {h : Heap} {N : Nat} {s : Sl} (S : SlN h N 1 1 s fun cs => Fit h N (.int .u8) cs) : s.len ≤ s.cap ∧ s.cap ≤ N ∧ ∃ l : List UInt8, Bytes h s l := by
  obtain ⟨h1, h2, _, xs, V⟩ := S.view (En u8) (fun cs hf => u8_of hf)
  exact ⟨h1, h2, xs, V⟩
end Go.Proofs.Ytboidjampddfoaa.V
/-
  SMALL RULES: branches, joins, numbers; and the last step of a law.
-/
namespace Go.Proofs.Ytboidjampddfoaa.V
open Go Go.RowKit
set_option linter.unusedVariables false
set_option linter.unusedSimpArgs false

theorem brr_p {p : Prop} [Decidable p] {A B : Prop} (h1 : p → A) (h2 : ¬ p → B) : brr (decide p) A B := by
  rw [brr_dec]; split
  · rename_i h; exact h1 h
  · rename_i h; exact h2 h
theorem brr_eq {a b : Int} {A B : Prop} (h1 : a = b → A) (h2 : a ≠ b → B) : brr (a == b) A B := by
  by_cases h : a = b
  · rw [show (a == b) = true by simpa using h]; exact h1 h
  · rw [show (a == b) = false by simpa using h]; exact h2 h
theorem brr_ne {a b : Int} {A B : Prop} (h1 : a ≠ b → A) (h2 : a = b → B) : brr (a != b) A B := by
  by_cases h : a = b
  · rw [show (a != b) = false by simpa using h]; exact h2 h
  · rw [show (a != b) = true by simpa using h]; exact h1 h
theorem brr_not {b : Bool} {A B : Prop} (h : brr b B A) : brr (!b) A B := by cases b <;> exact h
theorem brr_of {b : Bool} {A B : Prop} (h1 : b = true → A) (h2 : b = false → B) : brr b A B := by cases b; exact h2 rfl; exact h1 rfl
theorem brr_tt {b : Bool} {A B : Prop} (e : b = true) (h : A) : brr b A B := by subst e; exact h
theorem brr_ff {b : Bool} {A B : Prop} (e : b = false) (h : B) : brr b A B := by subst e; exact h
theorem ldL_n {vs : List Value} {K : Prop} (h : K) : ldL [] vs K := by cases vs <;> exact h
theorem ldL_c {k : Kd} {ks : List Kd} {x : k.T} {vs : List Value} {K : k.T → Fn ks Prop} (h : ldL ks vs (K x)) : ldL (k :: ks) (k.enc x :: vs) K := ⟨x, rfl, h⟩
theorem jn0 {rest : Heap → Prop} {body : (Heap → Prop) → Prop} (C : Heap → Prop) (h1 : ∀ h, C h → rest h) (h2 : ∀ j : Heap → Prop, (∀ h, C h → j h) → body j) : jn [] rest body := h2 rest h1
theorem jn1 {i : Nat} {k : Kd} {rest : k.T → Heap → Prop} {body : (k.T → Heap → Prop) → Prop} (C : k.T → Heap → Prop) (h1 : ∀ x h, C x h → rest x h) (h2 : ∀ j : k.T → Heap → Prop, (∀ x h, C x h → j x h) → body j) : jn [(i, .one k)] rest body := h2 rest h1
theorem jn2 {i i2 : Nat} {k k2 : Kd} {rest : k.T → k2.T → Heap → Prop} {body : (k.T → k2.T → Heap → Prop) → Prop} (C : k.T → k2.T → Heap → Prop) (h1 : ∀ x y h, C x y h → rest x y h) (h2 : ∀ j : k.T → k2.T → Heap → Prop, (∀ x y h, C x y h → j x y h) → body j) : jn [(i, .one k), (i2, .one k2)] rest body := h2 rest h1
theorem wl5 {i1 i2 i3 i4 i5 : Nat} {k1 k2 k3 k4 k5 : Kd} {B : (k1.T → k2.T → k3.T → k4.T → k5.T → Heap → Prop) → k1.T → k2.T → k3.T → k4.T → k5.T → Heap → Prop} (I : Nat → k1.T → k2.T → k3.T → k4.T → k5.T → Heap → Prop)
    (step : ∀ m x1 x2 x3 x4 x5 h (next : k1.T → k2.T → k3.T → k4.T → k5.T → Heap → Prop), (∀ m' x1' x2' x3' x4' x5' h', m' < m → I m' x1' x2' x3' x4' x5' h' → next x1' x2' x3' x4' x5' h') → I m x1 x2 x3 x4 x5 h → B next x1 x2 x3 x4 x5 h) {m : Nat} {x1 : k1.T} {x2 : k2.T} {x3 : k3.T} {x4 : k4.T} {x5 : k5.T} {h : Heap} (hI : I m x1 x2 x3 x4 x5 h) : wl [(i1, .one k1), (i2, .one k2), (i3, .one k3), (i4, .one k4), (i5, .one k5)] B x1 x2 x3 x4 x5 h := by
  have key : ∀ n x1 x2 x3 x4 x5 h, (∃ m, m < n ∧ I m x1 x2 x3 x4 x5 h) → wit [(i1, .one k1), (i2, .one k2), (i3, .one k3), (i4, .one k4), (i5, .one k5)] B n x1 x2 x3 x4 x5 h := by
    intro n
    induction n with
    | zero => intro x1 x2 x3 x4 x5 h ⟨m, hm, _⟩; omega
    | succ n ih => intro x1 x2 x3 x4 x5 h ⟨m, hm, hI⟩; exact step m x1 x2 x3 x4 x5 h _ (fun m' x1' x2' x3' x4' x5' h' hm' hI' => ih x1' x2' x3' x4' x5' h' ⟨m', by omega, hI'⟩) hI
  exact ⟨m + 1, key (m + 1) x1 x2 x3 x4 x5 h ⟨m, by omega, hI⟩⟩
theorem wl6 {i1 i2 i3 i4 i5 i6 : Nat} {k1 k2 k3 k4 k5 k6 : Kd} {B : (k1.T → k2.T → k3.T → k4.T → k5.T → k6.T → Heap → Prop) → k1.T → k2.T → k3.T → k4.T → k5.T → k6.T → Heap → Prop} (I : Nat → k1.T → k2.T → k3.T → k4.T → k5.T → k6.T → Heap → Prop)
    (step : ∀ m x1 x2 x3 x4 x5 x6 h (next : k1.T → k2.T → k3.T → k4.T → k5.T → k6.T → Heap → Prop), (∀ m' x1' x2' x3' x4' x5' x6' h', m' < m → I m' x1' x2' x3' x4' x5' x6' h' → next x1' x2' x3' x4' x5' x6' h') → I m x1 x2 x3 x4 x5 x6 h → B next x1 x2 x3 x4 x5 x6 h) {m : Nat} {x1 : k1.T} {x2 : k2.T} {x3 : k3.T} {x4 : k4.T} {x5 : k5.T} {x6 : k6.T} {h : Heap} (hI : I m x1 x2 x3 x4 x5 x6 h) : wl [(i1, .one k1), (i2, .one k2), (i3, .one k3), (i4, .one k4), (i5, .one k5), (i6, .one k6)] B x1 x2 x3 x4 x5 x6 h := by
  have key : ∀ n x1 x2 x3 x4 x5 x6 h, (∃ m, m < n ∧ I m x1 x2 x3 x4 x5 x6 h) → wit [(i1, .one k1), (i2, .one k2), (i3, .one k3), (i4, .one k4), (i5, .one k5), (i6, .one k6)] B n x1 x2 x3 x4 x5 x6 h := by
    intro n
    induction n with
    | zero => intro x1 x2 x3 x4 x5 x6 h ⟨m, hm, _⟩; omega
    | succ n ih => intro x1 x2 x3 x4 x5 x6 h ⟨m, hm, hI⟩; exact step m x1 x2 x3 x4 x5 x6 h _ (fun m' x1' x2' x3' x4' x5' x6' h' hm' hI' => ih x1' x2' x3' x4' x5' x6' h' ⟨m', by omega, hI'⟩) hI
  exact ⟨m + 1, key (m + 1) x1 x2 x3 x4 x5 x6 h ⟨m, by omega, hI⟩⟩
theorem wl7 {i1 i2 i3 i4 i5 i6 i7 : Nat} {k1 k2 k3 k4 k5 k6 k7 : Kd} {B : (k1.T → k2.T → k3.T → k4.T → k5.T → k6.T → k7.T → Heap → Prop) → k1.T → k2.T → k3.T → k4.T → k5.T → k6.T → k7.T → Heap → Prop} (I : Nat → k1.T → k2.T → k3.T → k4.T → k5.T → k6.T → k7.T → Heap → Prop)
    (step : ∀ m x1 x2 x3 x4 x5 x6 x7 h (next : k1.T → k2.T → k3.T → k4.T → k5.T → k6.T → k7.T → Heap → Prop), (∀ m' x1' x2' x3' x4' x5' x6' x7' h', m' < m → I m' x1' x2' x3' x4' x5' x6' x7' h' → next x1' x2' x3' x4' x5' x6' x7' h') → I m x1 x2 x3 x4 x5 x6 x7 h → B next x1 x2 x3 x4 x5 x6 x7 h) {m : Nat} {x1 : k1.T} {x2 : k2.T} {x3 : k3.T} {x4 : k4.T} {x5 : k5.T} {x6 : k6.T} {x7 : k7.T} {h : Heap} (hI : I m x1 x2 x3 x4 x5 x6 x7 h) : wl [(i1, .one k1), (i2, .one k2), (i3, .one k3), (i4, .one k4), (i5, .one k5), (i6, .one k6), (i7, .one k7)] B x1 x2 x3 x4 x5 x6 x7 h := by
  have key : ∀ n x1 x2 x3 x4 x5 x6 x7 h, (∃ m, m < n ∧ I m x1 x2 x3 x4 x5 x6 x7 h) → wit [(i1, .one k1), (i2, .one k2), (i3, .one k3), (i4, .one k4), (i5, .one k5), (i6, .one k6), (i7, .one k7)] B n x1 x2 x3 x4 x5 x6 x7 h := by
    intro n
    induction n with
    | zero => intro x1 x2 x3 x4 x5 x6 x7 h ⟨m, hm, _⟩; omega
    | succ n ih => intro x1 x2 x3 x4 x5 x6 x7 h ⟨m, hm, hI⟩; exact step m x1 x2 x3 x4 x5 x6 x7 h _ (fun m' x1' x2' x3' x4' x5' x6' x7' h' hm' hI' => ih x1' x2' x3' x4' x5' x6' x7' h' ⟨m', by omega, hI'⟩) hI
  exact ⟨m + 1, key (m + 1) x1 x2 x3 x4 x5 x6 x7 h ⟨m, by omega, hI⟩⟩
theorem wl8 {i1 i2 i3 i4 i5 i6 i7 i8 : Nat} {k1 k2 k3 k4 k5 k6 k7 k8 : Kd} {B : (k1.T → k2.T → k3.T → k4.T → k5.T → k6.T → k7.T → k8.T → Heap → Prop) → k1.T → k2.T → k3.T → k4.T → k5.T → k6.T → k7.T → k8.T → Heap → Prop} (I : Nat → k1.T → k2.T → k3.T → k4.T → k5.T → k6.T → k7.T → k8.T → Heap → Prop)
    (step : ∀ m x1 x2 x3 x4 x5 x6 x7 x8 h (next : k1.T → k2.T → k3.T → k4.T → k5.T → k6.T → k7.T → k8.T → Heap → Prop), (∀ m' x1' x2' x3' x4' x5' x6' x7' x8' h', m' < m → I m' x1' x2' x3' x4' x5' x6' x7' x8' h' → next x1' x2' x3' x4' x5' x6' x7' x8' h') → I m x1 x2 x3 x4 x5 x6 x7 x8 h → B next x1 x2 x3 x4 x5 x6 x7 x8 h) {m : Nat} {x1 : k1.T} {x2 : k2.T} {x3 : k3.T} {x4 : k4.T} {x5 : k5.T} {x6 : k6.T} {x7 : k7.T} {x8 : k8.T} {h : Heap} (hI : I m x1 x2 x3 x4 x5 x6 x7 x8 h) : wl [(i1, .one k1), (i2, .one k2), (i3, .one k3), (i4, .one k4), (i5, .one k5), (i6, .one k6), (i7, .one k7), (i8, .one k8)] B x1 x2 x3 x4 x5 x6 x7 x8 h := by
  have key : ∀ n x1 x2 x3 x4 x5 x6 x7 x8 h, (∃ m, m < n ∧ I m x1 x2 x3 x4 x5 x6 x7 x8 h) → wit [(i1, .one k1), (i2, .one k2), (i3, .one k3), (i4, .one k4), (i5, .one k5), (i6, .one k6), (i7, .one k7), (i8, .one k8)] B n x1 x2 x3 x4 x5 x6 x7 x8 h := by
    intro n
    induction n with
    | zero => intro x1 x2 x3 x4 x5 x6 x7 x8 h ⟨m, hm, _⟩; omega
    | succ n ih => intro x1 x2 x3 x4 x5 x6 x7 x8 h ⟨m, hm, hI⟩; exact step m x1 x2 x3 x4 x5 x6 x7 x8 h _ (fun m' x1' x2' x3' x4' x5' x6' x7' x8' h' hm' hI' => ih x1' x2' x3' x4' x5' x6' x7' x8' h' ⟨m', by omega, hI'⟩) hI
  exact ⟨m + 1, key (m + 1) x1 x2 x3 x4 x5 x6 x7 x8 h ⟨m, by omega, hI⟩⟩
theorem jn3 {i1 i2 i3 : Nat} {k1 k2 k3 : Kd} {rest : k1.T → k2.T → k3.T → Heap → Prop} {body : (k1.T → k2.T → k3.T → Heap → Prop) → Prop} (C : k1.T → k2.T → k3.T → Heap → Prop) (h1 : ∀ x1 x2 x3 h, C x1 x2 x3 h → rest x1 x2 x3 h) (h2 : ∀ j : k1.T → k2.T → k3.T → Heap → Prop, (∀ x1 x2 x3 h, C x1 x2 x3 h → j x1 x2 x3 h) → body j) : jn [(i1, .one k1), (i2, .one k2), (i3, .one k3)] rest body := h2 rest h1
theorem jn4 {i1 i2 i3 i4 : Nat} {k1 k2 k3 k4 : Kd} {rest : k1.T → k2.T → k3.T → k4.T → Heap → Prop} {body : (k1.T → k2.T → k3.T → k4.T → Heap → Prop) → Prop} (C : k1.T → k2.T → k3.T → k4.T → Heap → Prop) (h1 : ∀ x1 x2 x3 x4 h, C x1 x2 x3 x4 h → rest x1 x2 x3 x4 h) (h2 : ∀ j : k1.T → k2.T → k3.T → k4.T → Heap → Prop, (∀ x1 x2 x3 x4 h, C x1 x2 x3 x4 h → j x1 x2 x3 x4 h) → body j) : jn [(i1, .one k1), (i2, .one k2), (i3, .one k3), (i4, .one k4)] rest body := h2 rest h1
theorem jn5 {i1 i2 i3 i4 i5 : Nat} {k1 k2 k3 k4 k5 : Kd} {rest : k1.T → k2.T → k3.T → k4.T → k5.T → Heap → Prop} {body : (k1.T → k2.T → k3.T → k4.T → k5.T → Heap → Prop) → Prop} (C : k1.T → k2.T → k3.T → k4.T → k5.T → Heap → Prop) (h1 : ∀ x1 x2 x3 x4 x5 h, C x1 x2 x3 x4 x5 h → rest x1 x2 x3 x4 x5 h) (h2 : ∀ j : k1.T → k2.T → k3.T → k4.T → k5.T → Heap → Prop, (∀ x1 x2 x3 x4 x5 h, C x1 x2 x3 x4 x5 h → j x1 x2 x3 x4 x5 h) → body j) : jn [(i1, .one k1), (i2, .one k2), (i3, .one k3), (i4, .one k4), (i5, .one k5)] rest body := h2 rest h1
theorem jn6 {i1 i2 i3 i4 i5 i6 : Nat} {k1 k2 k3 k4 k5 k6 : Kd} {rest : k1.T → k2.T → k3.T → k4.T → k5.T → k6.T → Heap → Prop} {body : (k1.T → k2.T → k3.T → k4.T → k5.T → k6.T → Heap → Prop) → Prop} (C : k1.T → k2.T → k3.T → k4.T → k5.T → k6.T → Heap → Prop) (h1 : ∀ x1 x2 x3 x4 x5 x6 h, C x1 x2 x3 x4 x5 x6 h → rest x1 x2 x3 x4 x5 x6 h) (h2 : ∀ j : k1.T → k2.T → k3.T → k4.T → k5.T → k6.T → Heap → Prop, (∀ x1 x2 x3 x4 x5 x6 h, C x1 x2 x3 x4 x5 x6 h → j x1 x2 x3 x4 x5 x6 h) → body j) : jn [(i1, .one k1), (i2, .one k2), (i3, .one k3), (i4, .one k4), (i5, .one k5), (i6, .one k6)] rest body := h2 rest h1
theorem i64_min : IntKind.i64.min = -9223372036854775808 := by decide
theorem i64_max : IntKind.i64.max = 9223372036854775807 := by decide
theorem u64_min : IntKind.u64.min = 0 := by decide
theorem u64_max : IntKind.u64.max = 18446744073709551615 := by decide
theorem u32_min : IntKind.u32.min = 0 := by decide
theorem u32_max : IntKind.u32.max = 4294967295 := by decide
theorem u8_min : IntKind.u8.min = 0 := by decide
theorem u8_max : IntKind.u8.max = 255 := by decide
theorem tmod_fix {a c : Int} (hc : 0 < c) : (if a.tmod c < 0 then a.tmod c + c else a.tmod c) = a % c := by
  have h1 := Int.emod_nonneg a (show c ≠ 0 by omega)
  have h2 := Int.emod_lt_of_pos a hc
  have h3 := Int.tmod_eq_emod (a := a) (b := c)
  split at h3
  · rw [if_neg (by omega)]; omega
  · rw [if_pos (by omega)]; omega
theorem tmod_lt {a c : Int} (hc : 0 < c) : -c < a.tmod c ∧ a.tmod c < c := by
  have h1 := Int.emod_nonneg a (show c ≠ 0 by omega)
  have h2 := Int.emod_lt_of_pos a hc
  have h3 := Int.tmod_eq_emod (a := a) (b := c)
  by_cases h : c ∣ a
  · rw [if_pos (.inr h)] at h3
    omega
  · have : a % c ≠ 0 := fun e => h (Int.dvd_of_emod_eq_zero e)
    split at h3 <;> omega
theorem within_mod {n m : Int} (hm : 0 < m) : (n.tmod m + m).tmod m = n % m := by
  have h := tmod_lt (a := n) hm
  rw [Int.tmod_eq_emod_of_nonneg (by omega), Int.add_emod_right]
  have h3 := Int.tmod_eq_emod (a := n) (b := m)
  split at h3
  · rw [h3]; simp
  · rw [h3, Int.sub_emod, show ((m.natAbs : Nat) : Int) = m by omega]; simp
theorem okv_agg {P : Program} {t : TypeId} {v : Value} (ha : aggT P t = some true) (h : okv P t v) : ∃ cs, v = .agg cs := by
  unfold aggT at ha
  unfold okv at h
  cases hu : P.underlying t with
  | none => simp [hu] at ha
  | some d =>
    rw [hu] at ha h
    cases d <;> first | exact h | simp at ha
end Go.Proofs.Ytboidjampddfoaa.V
/-
  MANY RESOURCES AS ONE: a list of things of one kind, each in memory of its own; one of them is taken out and put back.
-/
namespace Go.Proofs.Ytboidjampddfoaa.V
open Go Go.RowKit
set_option linter.unusedVariables false
set_option linter.unusedSimpArgs false
variable {α β : Type}
theorem star_perm : ∀ {L : List Res} {E F : Blks}, star L E → F.Perm E → star L F
  | [], E, F, h, p => by
    have h' : E = [] := h
    subst h'
    exact List.Perm.eq_nil p
  | A :: L, E, F, ⟨E1, E2, q, h1, h2⟩, p => ⟨E1, E2, p.trans q, h1, h2⟩
theorem star_app : ∀ {L M : List Res} {E F : Blks}, star L E → star M F → star (L ++ M) (E ++ F)
  | [], M, E, F, h, k => by
    have h' : E = [] := h
    subst h'
    exact k
  | A :: L, M, E, F, ⟨E1, E2, q, h1, h2⟩, k => ⟨E1, E2 ++ F, by rw [← List.append_assoc]; exact q.append_right F, h1, star_app h2 k⟩
theorem set_set_res : ∀ (L : List Res) (i : Nat) (A B : Res), (L.set i A).set i B = L.set i B
  | [], _, _, _ => rfl
  | _ :: _, 0, _, _ => rfl
  | _ :: L, i + 1, A, B => by simp [set_set_res L i A B]
theorem Sat.pull {h0 h : Heap} {Rs L : List Res} (O : Sat h0 h (star Rs :: L)) (i : Nat) (hi : i < Rs.length) : Sat h0 h (nth i Rs :: star (Rs.set i V.emp) :: L) := by
  obtain ⟨E, ⟨E1, E2, p, h1, h2⟩, O⟩ := O
  obtain ⟨F1, F2, q, h3, h4⟩ := star_at i hi h1
  exact ⟨E, ⟨F1, F2 ++ E2, p.trans ((q.append_right E2).trans (by rw [List.append_assoc])), h3, F2, E2, List.Perm.refl _, h4 V.emp [] rfl, h2⟩, O⟩
theorem Sat.back {h0 h : Heap} {Rs L : List Res} {B : Res} {i : Nat} (O : Sat h0 h (B :: star (Rs.set i V.emp) :: L)) (hi : i < Rs.length) : Sat h0 h (star (Rs.set i B) :: L) := by
  obtain ⟨E, ⟨E1, E2, p, h1, F1, F2, q, h2, h3⟩, O⟩ := O
  obtain ⟨G1, G2, r, h4, h5⟩ := star_at i (by simpa using hi) h2
  rw [nth_set _ hi] at h4
  have h4' : G1 = [] := h4
  subst h4'
  have := h5 B E1 h1
  rw [set_set_res] at this
  refine ⟨E, ⟨E1 ++ G2, F2, ?_, this, h3⟩, O⟩
  refine p.trans ((q.append_left E1).trans ?_)
  rw [List.append_assoc]
  exact (List.Perm.append_right F2 (by simpa using r)).append_left E1
theorem Sat.snoc {h0 h : Heap} {Rs L : List Res} {A : Res} (O : Sat h0 h (A :: star Rs :: L)) : Sat h0 h (star (Rs ++ [A]) :: L) := by
  obtain ⟨E, ⟨E1, E2, p, h1, F1, F2, q, h2, h3⟩, O⟩ := O
  refine ⟨E, ⟨F1 ++ E1, F2, ?_, ?_, h3⟩, O⟩
  · refine p.trans ((q.append_left E1).trans ?_)
    rw [← List.append_assoc]
    exact List.perm_append_comm.append_right F2
  · have h4 : star [A] E1 := ⟨E1, [], by simp, h1, rfl⟩
    exact star_app h2 h4
/-- Things of one kind. -/
def many (f : α → Res) (xs : List α) : Res := star (xs.map f)
def hole (f : α → Res) (xs : List α) (i : Nat) : Res := star ((xs.map f).set i emp)
theorem nth_mapf {f : α → Res} : ∀ {xs : List α} {i : Nat} {x : α}, xs[i]? = some x → nth i (xs.map f) = f x
  | [], i, x, h => by simp at h
  | y :: ys, 0, x, h => by simp at h; subst h; rfl
  | y :: ys, i + 1, x, h => nth_mapf (xs := ys) (i := i) (by simpa using h)
theorem Sat.take {h0 h : Heap} {f : α → Res} {xs : List α} {L : List Res} (O : Sat h0 h (many f xs :: L)) (i : Nat) {x : α} (hi : xs[i]? = some x) : Sat h0 h (f x :: hole f xs i :: L) := by
  have hl := (List.getElem?_eq_some_iff.1 hi).1
  have := Sat.pull (Rs := xs.map f) O i (by simpa using hl)
  rw [nth_mapf hi] at this
  exact this
theorem Sat.give {h0 h : Heap} {f : α → Res} {xs : List α} {L : List Res} {i : Nat} {y : α} (O : Sat h0 h (f y :: hole f xs i :: L)) (hi : i < xs.length) : Sat h0 h (many f (xs.set i y) :: L) := by
  have := Sat.back (Rs := xs.map f) O (by simpa using hi)
  unfold many
  rw [List.map_set]
  exact this
theorem Sat.more {h0 h : Heap} {f : α → Res} {xs : List α} {L : List Res} {y : α} (O : Sat h0 h (f y :: many f xs :: L)) : Sat h0 h (many f (xs ++ [y]) :: L) := by
  have := Sat.snoc (Rs := xs.map f) O
  unfold many
  rw [List.map_append]
  exact this
theorem Sat.none {h0 h : Heap} {f : α → Res} {L : List Res} (O : Sat h0 h L) : Sat h0 h (many f [] :: L) := O.empI
def u64c (x : Int) : List Value := [.int .u64 x]
def i64c (x : Int) : List Value := [.int .i64 x]
def ptrc (b : Nat) : List Value := [.pointer (some (pt b 0))]
theorem u64c_len (x : Int) : (u64c x).length = 1 := rfl
theorem i64c_len (x : Int) : (i64c x).length = 1 := rfl
theorem ptrc_len (b : Nat) : (ptrc b).length = 1 := rfl
def slc (s : Sl) : List Value := [.slice s.ptr s.len s.cap]
theorem slc_len (s : Sl) : (slc s).length = 1 := rfl
theorem slc_one (s : Sl) : (slc s).all oneV = true := rfl
theorem u8_len (x : UInt8) : (u8 x).length = 1 := rfl
theorem u64c_one (x : Int) : (u64c x).all oneV = true := rfl
theorem i64c_one (x : Int) : (i64c x).all oneV = true := rfl
theorem ptrc_one (b : Nat) : (ptrc b).all oneV = true := rfl
theorem u8_one (x : UInt8) : (u8 x).all oneV = true := rfl
theorem set_flat1 {enc : α → List Value} (he : ∀ x, (enc x).length = 1) : ∀ (xs : List α) (sp : List Value) (i : Nat) (y : α), i < xs.length → V.put (xs.flatMap enc ++ sp) i (enc y) = (xs.set i y).flatMap enc ++ sp
  | [], sp, i, y, h => by simp at h
  | x :: xs, sp, 0, y, h => by
    have h1 := he x; have h2 := he y
    rw [List.flatMap_cons, List.set_cons_zero, List.flatMap_cons]
    match hx : enc x, hy : enc y with
    | [a], [c] => simp [V.put, put_nil]
    | [], _ => rw [hx] at h1; simp at h1
    | _ :: _ :: _, _ => rw [hx] at h1; simp at h1
    | _, [] => rw [hy] at h2; simp at h2
    | _, _ :: _ :: _ => rw [hy] at h2; simp at h2
  | x :: xs, sp, i + 1, y, h => by
    have h1 := he x
    rw [List.flatMap_cons, List.set_cons_succ, List.flatMap_cons]
    match hx : enc x with
    | [a] =>
      have := set_flat1 he xs sp i y (by simpa using h)
      simp [V.put]
      simpa using this
    | [] => rw [hx] at h1; simp at h1
    | _ :: _ :: _ => rw [hx] at h1; simp at h1
/-- An element of one's own list is written: elements of one cell. -/
theorem Sat.put1 {h0 h : Heap} {L : List Res} {enc : α → List Value} {s : Sl} {xs : List α} {i : Int} {K : Heap → Prop} (O : Sat h0 h (buf 1 enc s xs :: L)) (he : ∀ x, (enc x).length = 1) (ho : ∀ x, (enc x).all oneV = true)
    (hi0 : 0 ≤ i) (hi1 : i < (xs.length : Int)) (y : α) {cs : List Value} (hcs : cs = enc y) (k : ∀ h', Sat h0 h' (buf 1 enc s (xs.set i.toNat y) :: L) → K h') : ixS 1 s i fun a => V.st a cs h K := by
  subst hcs
  obtain ⟨sp, O⟩ := O.ex
  obtain ⟨E, ⟨E1, E2, p, hA, h2⟩, O⟩ := O
  have O := O.perm p.symm
  rcases hA with ⟨rfl, rfl, _, _⟩ | ⟨b, j, rfl, hsp, rfl⟩
  · simp at hi1; omega
  · refine ⟨pt b 0, rfl, hi0, hi1, ?_⟩
    rw [pt_add, Nat.zero_add, Nat.mul_one]
    have hl := flatMap_len he xs
    refine Held.st O (by rw [he, List.length_append, hl]; omega) (ho y) fun h' O' => ?_
    rw [set_flat1 he _ _ _ _ (by omega)] at O'
    exact k _ ⟨_, ⟨[(b, _)], E2, List.Perm.refl _, ⟨sp, .inr ⟨b, j, by simp, hsp, rfl⟩⟩, h2⟩, O'⟩
theorem View.at1 {h : Heap} {enc : α → List Value} {s : Sl} {xs : List α} {i : Int} {k : Kd} {K : k.T → Prop} (V : View h 1 (En enc) s xs) (h0 : 0 ≤ i) (h1 : i < (xs.length : Int)) (f : α → k.T) (hf : ∀ x, enc x = [k.enc (f x)])
    (kk : ∀ x, xs[i.toNat]? = some x → K (f x)) : ixS 1 s i fun a => ld [k] a h K :=
  V.ix h0 h1 fun a cs x hx hl hR hc => by
    have e : cs = [k.enc (f x)] := hR.trans (hf x)
    rw [e] at hc
    exact ld_are hc (ldL_c (ldL_n (kk x hx)))
theorem View.get1 {h : Heap} {enc : α → List Value} {s : Sl} {xs : List α} {i : Int} {k : Kd} {K : k.T → Prop} {x : α} (V : View h 1 (En enc) s xs) (h0 : 0 ≤ i) (hx : xs[i.toNat]? = some x) (f : α → k.T) (hf : ∀ x, enc x = [k.enc (f x)])
    (kk : K (f x)) : ixS 1 s i fun a => ld [k] a h K :=
  V.at1 h0 (by have := (List.getElem?_eq_some_iff.1 hx).1; omega) f hf fun y hy => by
    rw [hx] at hy
    have e := Option.some.inj hy
    subst e
    exact kk
/-- An element's place, and that it lies there for as long as the list does. -/
theorem View.getP {h : Heap} {sz : Nat} {enc : α → List Value} {s : Sl} {xs : List α} {i : Int} {K : Addr → Prop} {x : α} (V : View h sz (En enc) s xs) (h0 : 0 ≤ i) (hx : xs[i.toNat]? = some x)
    (kk : ∀ a, (∀ {h' : Heap}, View h' sz (En enc) s xs → cellsAre h' a (enc x)) → K a) : ixS sz s i K := by
  have hl := (List.getElem?_eq_some_iff.1 hx).1
  obtain ⟨a, cs, h1, _, _, _⟩ := V.2 i.toNat x hx
  refine ⟨a, h1, h0, by rw [V.1]; omega, kk _ fun {h'} V' => ?_⟩
  obtain ⟨a', cs', q1, _, q3, q4⟩ := V'.2 i.toNat x hx
  rw [h1] at q1
  have e := Option.some.inj q1
  subst e
  have e2 : cs' = enc x := q3
  subst e2
  exact q4
theorem set_same {xs : List α} {n : Nat} {x : α} (hx : xs[n]? = some x) : xs.set n x = xs := by
  obtain ⟨h, e⟩ := List.getElem?_eq_some_iff.1 hx
  rw [← e]
  exact List.set_getElem_self h
theorem map_set_fst {xs : List (Nat × β)} {n : Nat} {b : Nat} {x y : β} (hx : xs[n]? = some (b, x)) : (xs.set n (b, y)).map (·.1) = xs.map (·.1) := by
  rw [List.map_set]
  exact set_same (by simp [hx])
theorem Sat.cells {h0 h : Heap} {L : List Res} (O : Sat h0 h L) (i : Nat) {b : Nat} {cs : List Value} (hi : nth i L = own b cs) (o n : Nat) : cellsAre h (pt b o) ((cs.drop o).take n) := cellsAre_blk (O.blk (nth_lt hi) hi).2 o n
theorem ixA_of_ixS {sz n c : Nat} {a : Addr} {i : Int} {K : Addr → Prop} (h : ixS sz ⟨some a, n, c⟩ i K) : ixA sz a n i K := by
  obtain ⟨a', h1, h2, h3, h4⟩ := h
  have e : a = a' := Option.some.inj h1
  subst e
  exact ⟨h2, h3, h4⟩
theorem Sat.arr {h0 h : Heap} {L : List Res} (O : Sat h0 h L) (i : Nat) {sz b : Nat} {enc : α → List Value} {xs : List α} (he : ∀ x, (enc x).length = sz) (hi : nth i L = own b (xs.flatMap enc)) : View h sz (En enc) ⟨some (pt b 0), xs.length, xs.length⟩ xs := by
  have B := (O.blk (nth_lt hi) hi).2
  rw [← List.append_nil (xs.flatMap enc)] at B
  exact view_of_blk he B
/-- An array's element of one cell is read. -/
theorem Sat.getA {h0 h : Heap} {L : List Res} (O : Sat h0 h L) (j : Nat) {b n : Nat} {enc : α → List Value} {xs : List α} {i : Int} {k : Kd} {K : k.T → Prop} {x : α} (he : ∀ x, (enc x).length = 1) (hj : nth j L = own b (xs.flatMap enc)) (hn : n = xs.length) (h0 : 0 ≤ i) (hx : xs[i.toNat]? = some x) (f : α → k.T) (hf : ∀ x, enc x = [k.enc (f x)])
    (kk : K (f x)) : ixA 1 (pt b 0) n i fun a => V.ld [k] a h K := by
  subst hn
  exact ixA_of_ixS ((O.arr j he hj).get1 h0 hx f hf kk)
/-- An array's element of one cell is read, and lies there for as long as the array is kept. -/
theorem Sat.getA' {h0 h : Heap} {L : List Res} (O : Sat h0 h L) (j : Nat) {b n : Nat} {enc : α → List Value} {xs : List α} {i : Int} {k : Kd} {K : Addr → k.T → Prop} {x : α} (he : ∀ x, (enc x).length = 1) (hj : nth j L = own b (xs.flatMap enc)) (hn : n = xs.length) (h0 : 0 ≤ i) (hx : xs[i.toNat]? = some x) (f : α → k.T) (hf : ∀ x, enc x = [k.enc (f x)])
    (kk : ∀ a, (∀ {h0' h' : Heap} {L' : List Res}, Sat h0' h' L' → ∀ j', nth j' L' = own b (xs.flatMap enc) → cellsAre h' a (enc x)) → K a (f x)) : ixA 1 (pt b 0) n i fun a => V.ld [k] a h (K a) := by
  subst hn
  have hl := (List.getElem?_eq_some_iff.1 hx).1
  refine ⟨h0, by omega, ?_⟩
  have hc : ∀ {h0' h' : Heap} {L' : List Res}, Sat h0' h' L' → ∀ j', nth j' L' = own b (xs.flatMap enc) → cellsAre h' ((pt b 0).add (i.toNat * 1)) (enc x) := by
    intro h0' h' L' O' j' hj'
    obtain ⟨a, cs, h1, _, h3, h4⟩ := (O'.arr j' he hj').2 i.toNat x hx
    have e : pt b 0 = a := Option.some.inj h1
    subst e
    have e2 : cs = enc x := h3
    subst e2
    exact h4
  have h1 := hc O j hj
  rw [hf] at h1
  exact ld_are h1 (ldL_c (ldL_n (kk _ hc)))
/-- An array's element of one cell is written. -/
theorem Sat.putA {h0 h : Heap} {L : List Res} {b n : Nat} {enc : α → List Value} {xs : List α} {i : Int} {K : Heap → Prop} (O : Sat h0 h (own b (xs.flatMap enc) :: L)) (he : ∀ x, (enc x).length = 1) (ho : ∀ x, (enc x).all oneV = true) (hn : n = xs.length)
    (hi0 : 0 ≤ i) (hi1 : i < (xs.length : Int)) (y : α) {cs : List Value} (hcs : cs = enc y) (k : ∀ h', Sat h0 h' (own b ((xs.set i.toNat y).flatMap enc) :: L) → K h') : ixA 1 (pt b 0) n i fun a => V.st a cs h K := by
  subst hcs hn
  refine ⟨hi0, hi1, ?_⟩
  rw [pt_add, Nat.zero_add, Nat.mul_one]
  have hl := flatMap_len he xs
  refine O.st 0 rfl (by rw [he, hl]; omega) (ho y) fun h' O => ?_
  have e := set_flat1 he xs [] i.toNat y (by omega)
  rw [List.append_nil, List.append_nil] at e
  rw [e] at O
  exact k _ O
theorem Fit.i {h : Heap} {N : Nat} {k : IntKind} {b : Ty} {cs : List Value} (F : Fit h N (.cons (.int k) b) cs) : ∃ x c, cs = .int k x :: c ∧ k.min ≤ x ∧ x ≤ k.max ∧ Fit h N b c := by
  obtain ⟨_, c, rfl, _, ⟨x, rfl, h1, h2⟩, F⟩ := F
  exact ⟨x, c, rfl, h1, h2, F⟩
theorem Fit.b {h : Heap} {N : Nat} {b : Ty} {cs : List Value} (F : Fit h N (.cons .bool b) cs) : ∃ x c, cs = .bool x :: c ∧ Fit h N b c := by
  obtain ⟨_, c, rfl, _, ⟨x, rfl⟩, F⟩ := F
  exact ⟨x, c, rfl, F⟩
theorem Fit.a {h : Heap} {N : Nat} {b : Ty} {cs : List Value} (F : Fit h N (.cons .str b) cs) : ∃ (x : ByteArray) (c : List Value), cs = .string x :: c ∧ x.size ≤ N ∧ Fit h N b c := by
  obtain ⟨_, c, rfl, _, ⟨x, rfl, h1⟩, F⟩ := F
  exact ⟨x, c, rfl, h1, F⟩
theorem Fit.s {h : Heap} {N sz bts : Nat} {e b : Ty} {cs : List Value} (F : Fit h N (.cons (.sl sz bts e) b) cs) : ∃ (s : Sl) (c : List Value), cs = .slice s.ptr s.len s.cap :: c ∧ (SlN h N sz bts s fun cs => Fit h N e cs) ∧ Fit h N b c := by
  obtain ⟨_, c, rfl, _, ⟨x, rfl, h1⟩, F⟩ := F
  exact ⟨x, c, rfl, h1, F⟩
theorem Fit.g {h : Heap} {N : Nat} {x y b : Ty} {cs : List Value} (F : Fit h N (.cons (.cons x y) b) cs) : Fit h N (.cons x (.cons y b)) cs := by
  obtain ⟨_, c, rfl, hl, ⟨c1, c2, rfl, h1, F1, F2⟩, F⟩ := F
  refine ⟨c1, c2 ++ c, by rw [List.append_assoc], h1, F1, c2, c, rfl, ?_, F2, F⟩
  rw [List.length_append, h1] at hl
  simp only [Ty.size] at hl
  omega
theorem Fit.z {h : Heap} {N : Nat} {b : Ty} {cs : List Value} (F : Fit h N (.cons .nil b) cs) : Fit h N b cs := by
  obtain ⟨_, c, rfl, _, rfl, F⟩ := F
  exact F
theorem Fit.e {h : Heap} {N : Nat} {cs : List Value} (F : Fit h N .nil cs) : cs = [] := F
theorem okv_one {P : Program} {h : Heap} {N : Nat} {t : TypeId} {k : IntKind} {v : Value} (hu : P.underlying t = some (.int k)) (hv : okv P t v) (F : Fit h N (.int k) v.cells.toList) : ∃ x, v = .int k x ∧ k.min ≤ x ∧ x ≤ k.max := by
  obtain ⟨x, hx, h1, h2⟩ := F
  unfold okv at hv
  rw [hu] at hv
  refine ⟨x, ?_, h1, h2⟩
  cases v <;> simp [Value.cells] at hx <;> first | exact absurd rfl (hv _) | simp_all
theorem lit_buf {h0 h : Heap} {L : List Res} {b : Nat} {x : UInt8} (O : Sat h0 h (own b [.int .u8 (x.toNat : Int)] :: L)) : Sat h0 h (buf 1 u8 ⟨some (pt b 0), 1, 1⟩ [x] :: L) := by
  have O : Sat h0 h (own b ([x].flatMap u8 ++ []) :: L) := O
  exact (O.own_buf (k := 0) (sz := 1) rfl).bufsI
theorem jn_go {L : Ls} {rest : FnL L} {body : FnL L → Prop} (h : body rest) : jn L rest body := h
theorem al_id {T : TypeId} {cs : List Value} {h : Heap} {K : Addr → Heap → Prop} (k : al T cs h K) : al T cs h K := k
theorem nn_id {p : Option Addr} {K : Addr → Prop} (k : nn p K) : nn p K := k
theorem ld_id {ks : List Kd} {a : Addr} {h : Heap} {K : Fn ks Prop} (k : ld ks a h K) : ld ks a h K := k
theorem st_id {a : Addr} {vs : List Value} {h : Heap} {K : Heap → Prop} (k : st a vs h K) : st a vs h K := k
theorem st_ad {a : Addr} {b o : Nat} {vs : List Value} {h : Heap} {K : Heap → Prop} (e : a = pt b o) (k : st (pt b o) vs h K) : st a vs h K := e ▸ k
theorem ca_id {a : Addr} {vs : List Value} {h : Heap} {p : Prop} (k : cellsAre h a vs ∧ p) : cellsAre h a vs ∧ p := k
theorem Sat.ca {h0 h : Heap} {L : List Res} (O : Sat h0 h L) (i k : Nat) {b o : Nat} {cs : List Value} {p : Prop} (e : nth i L = own b cs) (hp : p) : cellsAre h (pt b o) ((cs.drop o).take k) ∧ p := ⟨cellsAre_blk (O.blk (nth_lt e) e).2 o k, hp⟩
theorem ldL_s {ks : List Kd} {p : Option Addr} {n c : Nat} {vs : List Value} {K : Sl → Fn ks Prop} (k : ldL ks vs (K ⟨p, n, c⟩)) : ldL (.sl :: ks) (.slice p n c :: vs) K := ldL_c (k := .sl) (x := ⟨p, n, c⟩) k
end Go.Proofs.Ytboidjampddfoaa.V
namespace Go.Proofs.Ytboidjampddfoaa.V
open Go Go.RowKit
set_option linter.unusedVariables false
set_option maxRecDepth 100000
def F_ref0_Cmp.l1 (a1 b2 : Sl) (Q : Int → Heap → Prop) (j3 : Heap → Prop) : Int → Heap → Prop :=
  wl [(5, .one (.int .i64))] (fun (next4 : Int → Heap → Prop) (i5 : Int) (h6 : Heap) =>
  jn [(15, .one .bool)] (fun (x8 : Bool) (h9 : Heap) =>
  brr x8
  (ixS 1 a1 i5 fun (a10 : Addr) =>
  ld [.int .u8] a10 h9 fun (v11 : Int) =>
  ixS 1 b2 i5 fun (a12 : Addr) =>
  ld [.int .u8] a12 h9 fun (v13 : Int) =>
  brr (decide (v11 < v13))
  (Q (-1) h9)
  (ixS 1 a1 i5 fun (a14 : Addr) =>
  ld [.int .u8] a14 h9 fun (v15 : Int) =>
  ixS 1 b2 i5 fun (a16 : Addr) =>
  ld [.int .u8] a16 h9 fun (v17 : Int) =>
  brr (decide (v15 > v17))
  (Q 1 h9)
  (next4 (IntKind.i64.wrap (i5 + 1)) h9)))
  (j3 h9)) (fun (j7 : Bool → Heap → Prop) =>
  brr (decide (i5 < ((a1.len : Nat) : Int)))
  (j7 (decide (i5 < ((b2.len : Nat) : Int))) h6)
  (j7 false h6)))
def F_ref0_Cmp_of  (a1 b2 : Sl) (h : Heap) (Q : Int → Heap → Prop) : Prop :=
  jn [] (fun  (h18 : Heap) =>
  brr (decide (((a1.len : Nat) : Int) < ((b2.len : Nat) : Int)))
  (Q (-1) h18)
  (brr (decide (((a1.len : Nat) : Int) > ((b2.len : Nat) : Int)))
  (Q 1 h18)
  (Q 0 h18))) (fun (j3 : Heap → Prop) =>
  F_ref0_Cmp.l1 a1 b2 Q j3 0 h)
def F_ref0_Cmp (a1 b2 : Sl) (h : Heap) (Q : Int → Heap → Prop) : Prop := F_ref0_Cmp_of  a1 b2 h Q
def plan112 : Plan := .s (.r [0, 1]) (.s (.s (.r [0, 1, 5]) (.bj [] [0, 1] (.l [(5, .one (.int .i64))] [0, 1] (.s (.s (.rj [(15, .one .bool)] [0, 1, 5]) (.c .z .z)) (.s (.b (.s (.s (.d [0, 0, 3, 7, 0, 0, 48, 112, 255] [[0, 1, 2, 3, 4, 5, 6, 7, 8]] [0, 1, 5, 26]) (.c (.s (.r [4]) .z) .z)) (.s (.d [0, 0, 3, 7, 0, 0, 48, 112, 255] [[0, 1, 2, 3, 4, 5, 6, 7, 8]] [0, 1, 5, 35]) (.c (.s (.r [4]) .z) .z)))) (.r [0, 1, 5])))))) (.s (.s (.r [0, 1, 40]) (.c (.s (.r [4]) .z) .z)) (.s (.s (.r [45]) (.c (.s (.r [4]) .z) .z)) (.s (.r [4]) .z))))
theorem F_ref0_Cmp.eq  (a1 b2 : Sl) (h : Heap) (K : Value → Heap → Prop) : F_ref0_Cmp_of  a1 b2 h (fun (r0 : Int) (h : Heap) => K (.int .i64 r0) h) =
    den Try.prog noFns Try.f112.ntmps plan112 (bodyOf Try.f112) (args0 0 [(.slice a1.ptr a1.len a1.cap : Value), (.slice b2.ptr b2.len b2.cap : Value)]) h ⟨fun env h => dRes Try.prog Try.f112.results.toList env h K, fun _ _ _ => False, fun env h => dRes Try.prog Try.f112.results.toList env h K⟩ := by kernel_rfl
def E_ref0_Cmp_of (f : Sl → Sl → Heap → (Int → Heap → Prop) → Prop) : List Value → Heap → (Value → Heap → Prop) → Prop
  | [v0, v1], h, K => dec1 .sl v0 fun (a1 : Sl) =>
  dec1 .sl v1 fun (b2 : Sl) =>
  f a1 b2 h (fun (r0 : Int) (h : Heap) => K (.int .i64 r0) h)
  | _, _, _ => False
abbrev E_ref0_Cmp := E_ref0_Cmp_of F_ref0_Cmp
theorem E_ref0_Cmp.right : IsRight Try.prog 112 E_ref0_Cmp := by
  refine isRight fun vs K w hh => ?_
  match vs, hh with
  | [v0, v1], hh =>
    unfold E_ref0_Cmp E_ref0_Cmp_of at hh
    replace hh := dec1_sound hh; obtain ⟨a1, rfl, hh⟩ := hh
    replace hh := dec1_sound hh; obtain ⟨b2, rfl, hh⟩ := hh
    unfold F_ref0_Cmp at hh
    exact calls_den noFns_right plan112 _ w K Try.func112 (by kernel_rfl) (by kernel_rfl) (Eq.mp (F_ref0_Cmp.eq  a1 b2 w.heap K) hh)
theorem ok112 : okFn Try.prog 112 = true := by kernel_rfl
end Go.Proofs.Ytboidjampddfoaa.V
namespace Go.Proofs.Ytboidjampddfoaa.V
open Go Go.RowKit
set_option linter.unusedVariables false
set_option maxRecDepth 100000
def F_ref0_Eq_of (f112_ : Sl → Sl → Heap → (Int → Heap → Prop) → Prop) (a1 b2 : Sl) (h : Heap) (Q : Bool → Heap → Prop) : Prop :=
  f112_ a1 b2 h fun (r3 : Int) (h4 : Heap) =>
  Q (r3 == 0) h4
def F_ref0_Eq (a1 b2 : Sl) (h : Heap) (Q : Bool → Heap → Prop) : Prop := F_ref0_Eq_of F_ref0_Cmp a1 b2 h Q
def plan88 : Plan := .s (.r [0, 1]) (.s (.r [4]) .z)
theorem F_ref0_Eq.eq (f112_ : Sl → Sl → Heap → (Int → Heap → Prop) → Prop) (a1 b2 : Sl) (h : Heap) (K : Value → Heap → Prop) : F_ref0_Eq_of f112_ a1 b2 h (fun (r0 : Bool) (h : Heap) => K (.bool r0) h) =
    den Try.prog (fn1 112 (E_ref0_Cmp_of f112_) noFns) Try.f88.ntmps plan88 (bodyOf Try.f88) (args0 0 [(.slice a1.ptr a1.len a1.cap : Value), (.slice b2.ptr b2.len b2.cap : Value)]) h ⟨fun env h => dRes Try.prog Try.f88.results.toList env h K, fun _ _ _ => False, fun env h => dRes Try.prog Try.f88.results.toList env h K⟩ := by kernel_rfl
def E_ref0_Eq_of (f : Sl → Sl → Heap → (Bool → Heap → Prop) → Prop) : List Value → Heap → (Value → Heap → Prop) → Prop
  | [v0, v1], h, K => dec1 .sl v0 fun (a1 : Sl) =>
  dec1 .sl v1 fun (b2 : Sl) =>
  f a1 b2 h (fun (r0 : Bool) (h : Heap) => K (.bool r0) h)
  | _, _, _ => False
abbrev E_ref0_Eq := E_ref0_Eq_of F_ref0_Eq
theorem E_ref0_Eq.right : IsRight Try.prog 88 E_ref0_Eq := by
  refine isRight fun vs K w hh => ?_
  match vs, hh with
  | [v0, v1], hh =>
    unfold E_ref0_Eq E_ref0_Eq_of at hh
    replace hh := dec1_sound hh; obtain ⟨a1, rfl, hh⟩ := hh
    replace hh := dec1_sound hh; obtain ⟨b2, rfl, hh⟩ := hh
    unfold F_ref0_Eq at hh
    exact calls_den (fn1_right ok112 E_ref0_Cmp.right noFns_right) plan88 _ w K Try.func88 (by kernel_rfl) (by kernel_rfl) (Eq.mp (F_ref0_Eq.eq F_ref0_Cmp a1 b2 w.heap K) hh)
theorem ok88 : okFn Try.prog 88 = true := by kernel_rfl
end Go.Proofs.Ytboidjampddfoaa.V
namespace Go.Proofs.Ytboidjampddfoaa.V
open Go Go.RowKit
set_option linter.unusedVariables false
set_option maxRecDepth 100000
def F_ref0_Copy_of  (b1 : Sl) (h : Heap) (Q : Sl → Heap → Prop) : Prop :=
  mk 5 1 1 (.int .u8 0) ((b1.len : Nat) : Int) ((b1.len : Nat) : Int) h fun (s2 : Sl) (h3 : Heap) =>
  cpy 1 s2 b1.ptr b1.len h3 fun (h5 : Heap) =>
  Q s2 h5
def F_ref0_Copy (b1 : Sl) (h : Heap) (Q : Sl → Heap → Prop) : Prop := F_ref0_Copy_of  b1 h Q
def plan85 : Plan := .s (.r [0]) (.s (.r [0, 3]) (.s (.r [3]) (.s (.r [2]) .z)))
theorem F_ref0_Copy.eq  (b1 : Sl) (h : Heap) (K : Value → Heap → Prop) : F_ref0_Copy_of  b1 h (fun (r0 : Sl) (h : Heap) => K (.slice r0.ptr r0.len r0.cap) h) =
    den Try.prog noFns Try.f85.ntmps plan85 (bodyOf Try.f85) (args0 0 [(.slice b1.ptr b1.len b1.cap : Value)]) h ⟨fun env h => dRes Try.prog Try.f85.results.toList env h K, fun _ _ _ => False, fun env h => dRes Try.prog Try.f85.results.toList env h K⟩ := by kernel_rfl
def E_ref0_Copy_of (f : Sl → Heap → (Sl → Heap → Prop) → Prop) : List Value → Heap → (Value → Heap → Prop) → Prop
  | [v0], h, K => dec1 .sl v0 fun (b1 : Sl) =>
  f b1 h (fun (r0 : Sl) (h : Heap) => K (.slice r0.ptr r0.len r0.cap) h)
  | _, _, _ => False
abbrev E_ref0_Copy := E_ref0_Copy_of F_ref0_Copy
theorem E_ref0_Copy.right : IsRight Try.prog 85 E_ref0_Copy := by
  refine isRight fun vs K w hh => ?_
  match vs, hh with
  | [v0], hh =>
    unfold E_ref0_Copy E_ref0_Copy_of at hh
    replace hh := dec1_sound hh; obtain ⟨b1, rfl, hh⟩ := hh
    unfold F_ref0_Copy at hh
    exact calls_den noFns_right plan85 _ w K Try.func85 (by kernel_rfl) (by kernel_rfl) (Eq.mp (F_ref0_Copy.eq  b1 w.heap K) hh)
theorem ok85 : okFn Try.prog 85 = true := by kernel_rfl
end Go.Proofs.Ytboidjampddfoaa.V
namespace Go.Proofs.Ytboidjampddfoaa.V
open Go Go.RowKit
set_option linter.unusedVariables false
set_option maxRecDepth 100000
def F_law1_Lend_of  (b1 : Sl) (h : Heap) (Q : Sl → Heap → Prop) : Prop :=
  app 5 1 1 (.int .u8 0) (⟨none, 0, 0⟩ : Sl) b1.ptr b1.len h fun (s2 : Sl) (h3 : Heap) =>
  al 5 [.int .u8 165, .int .u8 90, .int .u8 165] h3 fun (a4 : Addr) (h5 : Heap) =>
  app 5 1 1 (.int .u8 0) s2 (some a4) 3 h5 fun (s6 : Sl) (h7 : Heap) =>
  slTo s6 ((b1.len : Nat) : Int) fun (s8 : Sl) =>
  Q s8 h7
def F_law1_Lend (b1 : Sl) (h : Heap) (Q : Sl → Heap → Prop) : Prop := F_law1_Lend_of  b1 h Q
def plan74 : Plan := .s (.r [0]) (.s (.r [0, 3]) (.s (.r [0, 3]) (.s (.r [0, 3]) (.s (.r [2]) .z))))
theorem F_law1_Lend.eq  (b1 : Sl) (h : Heap) (K : Value → Heap → Prop) : F_law1_Lend_of  b1 h (fun (r0 : Sl) (h : Heap) => K (.slice r0.ptr r0.len r0.cap) h) =
    den Try.prog noFns Try.f74.ntmps plan74 (bodyOf Try.f74) (args0 0 [(.slice b1.ptr b1.len b1.cap : Value)]) h ⟨fun env h => dRes Try.prog Try.f74.results.toList env h K, fun _ _ _ => False, fun env h => dRes Try.prog Try.f74.results.toList env h K⟩ := by kernel_rfl
def E_law1_Lend_of (f : Sl → Heap → (Sl → Heap → Prop) → Prop) : List Value → Heap → (Value → Heap → Prop) → Prop
  | [v0], h, K => dec1 .sl v0 fun (b1 : Sl) =>
  f b1 h (fun (r0 : Sl) (h : Heap) => K (.slice r0.ptr r0.len r0.cap) h)
  | _, _, _ => False
abbrev E_law1_Lend := E_law1_Lend_of F_law1_Lend
theorem E_law1_Lend.right : IsRight Try.prog 74 E_law1_Lend := by
  refine isRight fun vs K w hh => ?_
  match vs, hh with
  | [v0], hh =>
    unfold E_law1_Lend E_law1_Lend_of at hh
    replace hh := dec1_sound hh; obtain ⟨b1, rfl, hh⟩ := hh
    unfold F_law1_Lend at hh
    exact calls_den noFns_right plan74 _ w K Try.func74 (by kernel_rfl) (by kernel_rfl) (Eq.mp (F_law1_Lend.eq  b1 w.heap K) hh)
theorem ok74 : okFn Try.prog 74 = true := by kernel_rfl
end Go.Proofs.Ytboidjampddfoaa.V
namespace Go.Proofs.Ytboidjampddfoaa.V
open Go Go.RowKit
set_option linter.unusedVariables false
set_option maxRecDepth 100000
def F_law1_Intact_of  (l1 b2 : Sl) (h : Heap) (Q : Bool → Heap → Prop) : Prop :=
  b2s l1.ptr l1.len h fun (s3 : ByteArray) =>
  b2s b2.ptr b2.len h fun (s4 : ByteArray) =>
  brr (!(s3.toList == s4.toList))
  (Q false h)
  (slTo l1 (IntKind.i64.wrap (((l1.len : Nat) : Int) + 3)) fun (s5 : Sl) =>
  jn [(4, .one .bool)] (fun (x13 : Bool) (h14 : Heap) =>
  Q x13 h14) (fun (j6 : Bool → Heap → Prop) =>
  ixS 1 s5 ((l1.len : Nat) : Int) fun (a7 : Addr) =>
  ld [.int .u8] a7 h fun (v8 : Int) =>
  brr (v8 == 165)
  (ixS 1 s5 (IntKind.i64.wrap (((l1.len : Nat) : Int) + 1)) fun (a9 : Addr) =>
  ld [.int .u8] a9 h fun (v10 : Int) =>
  brr (v10 == 90)
  (ixS 1 s5 (IntKind.i64.wrap (((l1.len : Nat) : Int) + 2)) fun (a11 : Addr) =>
  ld [.int .u8] a11 h fun (v12 : Int) =>
  j6 (v12 == 165) h)
  (j6 false h))
  (j6 false h)))
def F_law1_Intact (l1 b2 : Sl) (h : Heap) (Q : Bool → Heap → Prop) : Prop := F_law1_Intact_of  l1 b2 h Q
def plan75 : Plan := .s (.r [0, 1]) (.s (.s (.r [0, 10]) (.c (.s (.r [4]) .z) .z)) (.s (.r [0, 5]) (.s (.rj [(4, .one .bool)] []) .z)))
theorem F_law1_Intact.eq  (l1 b2 : Sl) (h : Heap) (K : Value → Heap → Prop) : F_law1_Intact_of  l1 b2 h (fun (r0 : Bool) (h : Heap) => K (.bool r0) h) =
    den Try.prog noFns Try.f75.ntmps plan75 (bodyOf Try.f75) (args0 0 [(.slice l1.ptr l1.len l1.cap : Value), (.slice b2.ptr b2.len b2.cap : Value)]) h ⟨fun env h => dRes Try.prog Try.f75.results.toList env h K, fun _ _ _ => False, fun env h => dRes Try.prog Try.f75.results.toList env h K⟩ := by kernel_rfl
def E_law1_Intact_of (f : Sl → Sl → Heap → (Bool → Heap → Prop) → Prop) : List Value → Heap → (Value → Heap → Prop) → Prop
  | [v0, v1], h, K => dec1 .sl v0 fun (l1 : Sl) =>
  dec1 .sl v1 fun (b2 : Sl) =>
  f l1 b2 h (fun (r0 : Bool) (h : Heap) => K (.bool r0) h)
  | _, _, _ => False
abbrev E_law1_Intact := E_law1_Intact_of F_law1_Intact
theorem E_law1_Intact.right : IsRight Try.prog 75 E_law1_Intact := by
  refine isRight fun vs K w hh => ?_
  match vs, hh with
  | [v0, v1], hh =>
    unfold E_law1_Intact E_law1_Intact_of at hh
    replace hh := dec1_sound hh; obtain ⟨l1, rfl, hh⟩ := hh
    replace hh := dec1_sound hh; obtain ⟨b2, rfl, hh⟩ := hh
    unfold F_law1_Intact at hh
    exact calls_den noFns_right plan75 _ w K Try.func75 (by kernel_rfl) (by kernel_rfl) (Eq.mp (F_law1_Intact.eq  l1 b2 w.heap K) hh)
theorem ok75 : okFn Try.prog 75 = true := by kernel_rfl
end Go.Proofs.Ytboidjampddfoaa.V
/- Lists of bytes: compared, copied, lent with marks in their spare room, laid over. -/
namespace Go.Proofs.Ytboidjampddfoaa.V
open Go Go.RowKit
set_option linter.unusedVariables false
set_option linter.unusedSimpArgs false
variable {α : Type}
theorem take_succ_eq {xs : List α} {i : Nat} {x : α} (h : xs[i]? = some x) : xs.take (i + 1) = xs.take i ++ [x] := by rw [List.take_add_one, h]; rfl
theorem F_ref0_Cmp.is {h : Heap} {a b : Sl} {xs ys : List UInt8} {Q : Int → Heap → Prop} (V1 : Bytes h a xs) (V2 : Bytes h b ys) (h1 : xs.length < 4611686018427387904) (h2 : ys.length < 4611686018427387904) (k : ∀ r : Int, (r = 0 ↔ xs = ys) → Q r h) : F_ref0_Cmp a b h Q := by
  rw [F_ref0_Cmp.eq_1, F_ref0_Cmp_of.eq_1]
  rw [V1.len, V2.len]
  refine jn0 (fun h' => h' = h ∧ ∃ i, xs.take i = ys.take i ∧ (xs.length ≤ i ∨ ys.length ≤ i)) ?_ ?_
  · rintro h ⟨rfl, i, he, hi⟩
    refine brr_p (fun hlt => ?_) (fun hlt => ?_)
    · exact k _ ⟨fun h => (by cases h), fun h => by subst h; omega⟩
    · refine brr_p (fun hgt => ?_) (fun hgt => ?_)
      · exact k _ ⟨fun h => (by cases h), fun h => by subst h; omega⟩
      · refine k _ ⟨fun _ => ?_, fun _ => rfl⟩
        rw [List.take_of_length_le (by omega), List.take_of_length_le (by omega)] at he
        exact he
  · intro j hj
    rw [F_ref0_Cmp.l1.eq_1]
    refine wl1 (k := .int .i64) (fun (m : Nat) (i : Int) (h' : Heap) => h' = h ∧ 0 ≤ i ∧ i ≤ xs.length ∧ i + m = xs.length ∧ xs.take i.toNat = ys.take i.toNat) ?_ (m := xs.length) ⟨rfl, by omega, by omega, by omega, by simp⟩
    rintro m (i : Int) h next hn ⟨rfl, hi0, hi1, him, he⟩
    rw [V1.len, V2.len]
    refine jn1 (fun t h' => h' = h ∧ (t = true → i < xs.length ∧ i < ys.length) ∧ (t = false → (xs.length : Int) ≤ i ∨ (ys.length : Int) ≤ i)) ?_ ?_
    · rintro t h ⟨rfl, ht, hf⟩
      refine brr_of (fun e => ?_) (fun e => ?_)
      · obtain ⟨hx, hy⟩ := ht e
        refine Bytes.at V1 hi0 hx fun x hxx => ?_
        refine Bytes.at V2 hi0 hy fun y hyy => ?_
        have hne : x ≠ y → xs ≠ ys := fun hxy hs => by
          subst hs
          rw [hxx] at hyy
          exact hxy (Option.some.inj hyy)
        refine brr_p (fun hlt => ?_) (fun hlt => ?_)
        · exact k _ ⟨fun h => (by cases h), fun h => absurd h (hne (by intro h; subst h; omega))⟩
        · refine Bytes.at V1 hi0 hx fun x' hxx' => ?_
          refine Bytes.at V2 hi0 hy fun y' hyy' => ?_
          obtain rfl : x = x' := by rw [hxx] at hxx'; exact Option.some.inj hxx'
          obtain rfl : y = y' := by rw [hyy] at hyy'; exact Option.some.inj hyy'
          refine brr_p (fun hgt => ?_) (fun hgt => ?_)
          · exact k _ ⟨fun h => (by cases h), fun h => absurd h (hne (by intro h; subst h; omega))⟩
          · have hxy : x = y := UInt8.toNat.inj (by omega)
            rw [wrap64 (by omega) (by omega)]
            refine hn (m - 1) _ _ (by omega) ⟨rfl, by omega, by omega, by omega, ?_⟩
            rw [show (i + 1).toNat = i.toNat + 1 by omega, take_succ_eq hxx, take_succ_eq hyy, he, hxy]
      · refine hj _ ⟨rfl, i.toNat, he, ?_⟩
        rcases hf e with h | h
        · exact .inl (by omega)
        · exact .inr (by omega)
    · intro j2 hj2
      refine brr_p (fun hlt => ?_) (fun hlt => ?_)
      · refine hj2 _ _ ⟨rfl, fun e => ⟨hlt, by simpa using e⟩, fun e => .inr (by simpa using e)⟩
      · exact hj2 _ _ ⟨rfl, fun e => (by cases e), fun _ => .inl (by omega)⟩
theorem F_ref0_Eq.is {h : Heap} {a b : Sl} {xs ys : List UInt8} {Q : Bool → Heap → Prop} (V1 : Bytes h a xs) (V2 : Bytes h b ys) (h1 : xs.length < 4611686018427387904) (h2 : ys.length < 4611686018427387904) (k : Q (decide (xs = ys)) h) : F_ref0_Eq a b h Q := by
  rw [F_ref0_Eq.eq_1, F_ref0_Eq_of.eq_1]
  refine F_ref0_Cmp.is V1 V2 h1 h2 fun r hr => ?_
  have e : (r == 0) = decide (xs = ys) := by
    by_cases h : xs = ys
    · simp [h, hr.2 h]
    · have : r ≠ 0 := fun e => h (hr.1 e)
      simp [h, this]
  rw [e]
  exact k
theorem put_all {cs vs : List Value} (h : vs.length = cs.length) : V.put cs 0 vs = vs := by
  have := put_app [] cs vs (by omega)
  simp only [List.nil_append, List.length_nil] at this
  rw [this, h]; simp
theorem flat_u8 (l : List UInt8) : (l.flatMap u8).length = l.length := by rw [flatMap_len u8_len]; omega
theorem all_one {enc : α → List Value} (ho : ∀ x, (enc x).all oneV = true) (xs : List α) : (xs.flatMap enc).all oneV = true := by
  simp only [List.all_eq_true, List.mem_flatMap]
  rintro v ⟨x, _, hv⟩
  exact List.all_eq_true.1 (ho x) v hv
theorem F_ref0_Copy.is {h0 h : Heap} {L : List Res} {a : Sl} {xs : List UInt8} {Q : Sl → Heap → Prop} (O : Sat h0 h L) (V1 : Bytes h a xs) (h1 : xs.length ≤ 281474976710656) (k : ∀ s h', Sat h0 h' (buf 1 u8 s xs :: L) → s.len = xs.length → s.ptr ≠ none → Q s h') : F_ref0_Copy a h Q := by
  rw [F_ref0_Copy.eq_1, F_ref0_Copy_of.eq_1]
  have hl := V1.len
  refine (Sat.nil h).mk_buf (by omega) (by omega) (by omega) fun b h2 N => ?_
  refine ⟨xs.flatMap u8, ?_, ?_⟩
  · have := (V1.kept N.kept).rd u8_len
    rw [show Nat.min a.len ((a.len : Int).toNat) = a.len by simp]
    exact this
  · simp only [stP]
    have O := O.stack N
    refine O.st 0 rfl (by rw [flat_u8, mkCells_len]; omega) (all_one u8_one xs) fun h3 O => ?_
    have O : Sat h0 h3 (own b (V.put (mkCells (Value.int .u8 0) ((a.len : Int).toNat * 1)) 0 (xs.flatMap u8)) :: L) := O
    rw [put_all (by rw [flat_u8, mkCells_len]; omega)] at O
    have O : Sat h0 h3 (own b (xs.flatMap u8 ++ []) :: L) := by rw [List.append_nil]; exact O
    have O := O.own_buf (k := 0) (sz := 1) (by simp)
    refine k _ _ ?_ (by simp [hl]) (by simp)
    have e : (⟨some (pt b 0), (a.len : Int).toNat, (a.len : Int).toNat⟩ : Sl) = ⟨some (pt b 0), xs.length, xs.length + 0⟩ := by simp [hl]
    rw [e]
    exact O.bufsI
def marks : List UInt8 := [165, 90, 165]
def lent (s : Sl) (xs : List UInt8) : Res := ex fun sp => bufs 1 u8 s xs (marks.flatMap u8 ++ sp)
theorem lent.split {s : Sl} {xs : List UInt8} {E : Blks} (h : lent s xs E) : ∃ b k sp, s = ⟨some (pt b 0), xs.length, xs.length + k⟩ ∧ 3 ≤ k ∧ E = [(b, (xs ++ marks).flatMap u8 ++ sp)] ∧ sp.length + 3 = k := by
  obtain ⟨sp, h⟩ := h
  rcases h with ⟨_, _, h, _⟩ | ⟨b, k, rfl, h2, rfl⟩
  · simp [marks, u8] at h
  · rw [List.length_append, flat_u8] at h2
    have : marks.length = 3 := rfl
    exact ⟨b, k, sp, rfl, by omega, by rw [List.flatMap_append, List.append_assoc], by omega⟩
theorem Sat.lent {h0 h : Heap} {L : List Res} (O : Sat h0 h L) (i : Nat) {s : Sl} {xs : List UInt8} (hl : i < L.length) (hi : nth i L = V.lent s xs) : Bytes h s xs ∧ s.len + 3 ≤ s.cap ∧ Bytes h ⟨s.ptr, s.len + 3, s.cap⟩ (xs ++ marks) := by
  obtain ⟨E1, E2, h1, O', _⟩ := O.at i hl
  rw [hi] at h1
  obtain ⟨b, k, sp, rfl, hk, rfl, _⟩ := lent.split h1
  have B := (O'.blk _ List.mem_cons_self).2
  have e : (xs ++ marks).length = xs.length + 3 := by simp [marks]
  have V3 := view_of_blk (k := xs.length + k) u8_len B
  rw [e] at V3
  refine ⟨?_, by simp; omega, V3⟩
  rw [List.flatMap_append, List.append_assoc] at B
  exact view_of_blk u8_len B
theorem b2s_view {h : Heap} {s : Sl} {l : List UInt8} {K : ByteArray → Prop} (V1 : Bytes h s l) (k : K ⟨l.toArray⟩) : b2s s.ptr s.len h K := by
  refine ⟨l.map fun x => (x.toNat : Int), ?_, ?_⟩
  · have := V1.rd u8_len
    rw [Nat.mul_one] at this
    rw [this]
    congr 1
    rw [List.map_map]
    induction l with
    | nil => rfl
    | cons x l ih =>
      rw [List.flatMap_cons, List.map_cons, ih' l]
      rfl
  · have e : bytesOfInts (l.map fun x => (x.toNat : Int)) = ⟨l.toArray⟩ := by
      unfold bytesOfInts
      congr 2
      rw [List.map_map]
      conv => rhs; rw [← List.map_id l]
      congr 1
      funext x
      simp
    rw [e]; exact k
where ih' : ∀ l : List UInt8, l.flatMap u8 = l.map (Value.int .u8 ∘ fun x => (x.toNat : Int))
  | [] => rfl
  | x :: l => by rw [List.flatMap_cons, List.map_cons, ih' l]; rfl
theorem bytes_toList (l : List UInt8) : (⟨l.toArray⟩ : ByteArray).toList = l := by rw [ByteArray.toList_eq]
theorem Sat.lendI {h0 h : Heap} {L : List Res} {s : Sl} {xs : List UInt8} (O : Sat h0 h (buf 1 u8 s (xs ++ marks) :: L)) : Sat h0 h (V.lent ⟨s.ptr, xs.length, s.cap⟩ xs :: L) := by
  refine O.mono fun E hE => ?_
  obtain ⟨sp, hE⟩ := hE
  rcases hE with ⟨_, h, _, _⟩ | ⟨b, k, rfl, h2, rfl⟩
  · simp [marks] at h
  · refine ⟨sp, .inr ⟨b, k + 3, ?_, ?_, ?_⟩⟩
    · simp [marks]; omega
    · rw [List.length_append, flat_u8, h2]
      show 3 + k * 1 = (k + 3) * 1
      omega
    · rw [List.flatMap_append, List.append_assoc]
theorem F_law1_Lend.is {h0 h : Heap} {L : List Res} {a : Sl} {xs : List UInt8} {Q : Sl → Heap → Prop} (O : Sat h0 h L) (V1 : Bytes h a xs) (h1 : xs.length + 3 ≤ 140737488355328) (k : ∀ s h', Sat h0 h' (lent s xs :: L) → s.len = xs.length → Q s h') : F_law1_Lend a h Q := by
  rw [F_law1_Lend.eq_1, F_law1_Lend_of.eq_1]
  have hl := V1.len
  have O := O.nil_buf (sz := 1) (enc := u8)
  refine O.app_buf u8_len u8_one rfl (ys := xs) hl (V1.rd u8_len) (by simp; omega) fun s2 h2 O hs2 => ?_
  have O := O
  rw [List.nil_append] at O
  refine O.al fun b h3 O => ?_
  have O := O.swap
  refine O.app_buf u8_len u8_one rfl (ys := marks) rfl ?_ (by simp [marks]; omega) fun s4 h4 O hs4 => ?_
  · have := rdP_own O.swap 0 rfl 3 (by simp)
    exact this
  · have O := O.swap.drop
    have hv := (O.view 0 u8_len (by simp) rfl).2
    have O := O.lendI
    refine ⟨by omega, ?_, ?_⟩
    · rw [hl, hs4] at *; simp [marks] at hv; omega
    · rw [hl]
      exact k _ _ O rfl
theorem F_law1_Intact.is {h0 h : Heap} {L : List Res} (O : Sat h0 h L) (i : Nat) {s b : Sl} {xs ys : List UInt8} {Q : Bool → Heap → Prop} (hi : i < L.length) (hn : nth i L = lent s xs) (V2 : Bytes h b ys) (h1 : xs.length < 4611686018427387904) (k : Q (decide (xs = ys)) h) : F_law1_Intact s b h Q := by
  rw [F_law1_Intact.eq_1, F_law1_Intact_of.eq_1]
  obtain ⟨V1, hc, V3⟩ := O.lent i hi hn
  have hl := V1.len
  refine b2s_view V1 ?_
  refine b2s_view V2 ?_
  rw [bytes_toList, bytes_toList]
  by_cases e : xs = ys
  · rw [show (xs == ys) = true by simpa using e]
    rw [show decide (xs = ys) = true by simpa using e] at k
    refine brr_ff rfl ?_
    rw [wrap64 (x := (s.len : Int) + 3) (by omega) (by omega), wrap64 (x := (s.len : Int) + 1) (by omega) (by omega), wrap64 (x := (s.len : Int) + 2) (by omega) (by omega)]
    refine ⟨by omega, by omega, ?_⟩
    have V3 : Bytes h ⟨s.ptr, ((s.len : Int) + 3).toNat, s.cap⟩ (xs ++ marks) := V3
    refine jn1 (fun t h' => t = true ∧ h' = h) ?_ ?_
    · rintro t h ⟨rfl, rfl⟩
      exact k
    · intro j hj
      have m3 : marks.length = 3 := rfl
      refine Bytes.at V3 (by omega) (by simp; omega) fun x hx => ?_
      have hx' : (xs ++ marks)[xs.length + 0]? = some x := by rw [← hx]; congr 1; omega
      rw [List.getElem?_append_right (by omega)] at hx'
      simp [marks] at hx'; subst hx'
      refine brr_tt (by decide) ?_
      refine Bytes.at V3 (by omega) (by simp; omega) fun x hx => ?_
      have hx' : (xs ++ marks)[xs.length + 1]? = some x := by rw [← hx]; congr 1; omega
      rw [List.getElem?_append_right (by omega)] at hx'
      simp [marks] at hx'; subst hx'
      refine brr_tt (by decide) ?_
      refine Bytes.at V3 (by omega) (by simp; omega) fun x hx => ?_
      have hx' : (xs ++ marks)[xs.length + 2]? = some x := by rw [← hx]; congr 1; omega
      rw [List.getElem?_append_right (by omega)] at hx'
      simp [marks] at hx'; subst hx'
      exact hj _ _ ⟨by decide, rfl⟩
  · rw [show (xs == ys) = false by simpa using e]
    rw [show decide (xs = ys) = false by simpa using e] at k
    exact brr_tt rfl k
/-- A byte of one's own list is written. -/
theorem Sat.putL {h0 h : Heap} {L : List Res} {s : Sl} {xs : List UInt8} {i : Int} {K : Heap → Prop} (O : Sat h0 h (V.lent s xs :: L)) (hi0 : 0 ≤ i) (hi1 : i < (xs.length : Int)) (y : UInt8) {cs : List Value} (hcs : cs = u8 y) (k : ∀ h', Sat h0 h' (V.lent s (xs.set i.toNat y) :: L) → K h') : ixS 1 s i fun a => V.st a cs h K := by
  subst hcs
  obtain ⟨E, ⟨E1, E2, p, hA, h2⟩, O⟩ := O
  have O := O.perm p.symm
  obtain ⟨sp, hA⟩ := hA
  rcases hA with ⟨_, _, h, _⟩ | ⟨b, j, rfl, hsp, rfl⟩
  · simp [marks, u8] at h
  · refine ⟨pt b 0, rfl, hi0, hi1, ?_⟩
    rw [pt_add, Nat.zero_add, Nat.mul_one]
    have hl := flatMap_len u8_len xs
    refine Held.st O (by rw [u8_len, List.length_append, hl]; omega) (u8_one y) fun h' O' => ?_
    rw [set_flat1 u8_len _ _ _ _ (by omega)] at O'
    exact k _ ⟨_, ⟨[(b, _)], E2, List.Perm.refl _, ⟨sp, .inr ⟨b, j, by simp, hsp, rfl⟩⟩, h2⟩, O'⟩
end Go.Proofs.Ytboidjampddfoaa.V
namespace Go.Proofs.Ytboidjampddfoaa.V
open Go Go.RowKit
set_option linter.unusedVariables false
set_option maxRecDepth 100000
def F_net_New_of  (flight1 : Int) (h : Heap) (Q : Option Addr → Int → Heap → Prop) : Prop :=
  jn [(9, .one .bool)] (fun (x3 : Bool) (h4 : Heap) =>
  brr x3
  (Q none 60 h4)
  (al 61 [.slice none 0 0, .int .i64 flight1, .int .u64 0] h4 fun (a5 : Addr) (h6 : Heap) =>
  Q (some a5) 0 h6)) (fun (j2 : Bool → Heap → Prop) =>
  brr (decide (flight1 < 1))
  (j2 true h)
  (j2 (decide (flight1 > 8192)) h))
def F_net_New (flight1 : Int) (h : Heap) (Q : Option Addr → Int → Heap → Prop) : Prop := F_net_New_of  flight1 h Q
def plan21 : Plan := .s (.r [0]) (.s (.s (.rj [(9, .one .bool)] [0]) (.c (.s (.r [2, 3]) .z) .z)) (.s (.r [2, 3]) .z))
theorem F_net_New.eq  (flight1 : Int) (h : Heap) (K : Value → Heap → Prop) : F_net_New_of  flight1 h (fun (r0 : Option Addr) (r1 : Int) (h : Heap) => K (.tuple #[.pointer r0, .int .i64 r1]) h) =
    den Try.prog noFns Try.f21.ntmps plan21 (bodyOf Try.f21) (args0 0 [(.int .i64 flight1 : Value)]) h ⟨fun env h => dRes Try.prog Try.f21.results.toList env h K, fun _ _ _ => False, fun env h => dRes Try.prog Try.f21.results.toList env h K⟩ := by kernel_rfl
def E_net_New_of (f : Int → Heap → (Option Addr → Int → Heap → Prop) → Prop) : List Value → Heap → (Value → Heap → Prop) → Prop
  | [v0], h, K => dec1 (.int .i64) v0 fun (flight1 : Int) =>
  f flight1 h (fun (r0 : Option Addr) (r1 : Int) (h : Heap) => K (.tuple #[.pointer r0, .int .i64 r1]) h)
  | _, _, _ => False
abbrev E_net_New := E_net_New_of F_net_New
theorem E_net_New.right : IsRight Try.prog 21 E_net_New := by
  refine isRight fun vs K w hh => ?_
  match vs, hh with
  | [v0], hh =>
    unfold E_net_New E_net_New_of at hh
    replace hh := dec1_sound hh; obtain ⟨flight1, rfl, hh⟩ := hh
    unfold F_net_New at hh
    exact calls_den noFns_right plan21 _ w K Try.func21 (by kernel_rfl) (by kernel_rfl) (Eq.mp (F_net_New.eq  flight1 w.heap K) hh)
theorem ok21 : okFn Try.prog 21 = true := by kernel_rfl
end Go.Proofs.Ytboidjampddfoaa.V
namespace Go.Proofs.Ytboidjampddfoaa.V
open Go Go.RowKit
set_option linter.unusedVariables false
set_option maxRecDepth 100000
def F_net_row_put_of  (r1 : Option Addr) (m2 : Int) (m3 : ByteArray) (h : Heap) (Q : Bool → Heap → Prop) : Prop :=
  al 137 [.int .i64 m2, .string m3] h fun (a4 : Addr) (h5 : Heap) =>
  nn r1 fun (a6 : Addr) =>
  ld [.sl] (a6.add 0) h5 fun (v7 : Sl) =>
  nn r1 fun (a8 : Addr) =>
  ld [.int .i64] (a8.add 1) h5 fun (v9 : Int) =>
  brr (decide (((v7.len : Nat) : Int) ≥ v9))
  (Q false h5)
  (nn r1 fun (a10 : Addr) =>
  ld [.sl] (a10.add 0) h5 fun (v11 : Sl) =>
  ld [.int .i64, .str] a4 h5 fun (v12 : Int) (v13 : ByteArray) =>
  al 137 [.int .i64 v12, .string v13] h5 fun (a14 : Addr) (h15 : Heap) =>
  cellsAre h15 (a10.add 0) [.slice v11.ptr v11.len v11.cap] ∧
  app 137 2 24 (.agg #[.int .i64 0, .string (⟨#[]⟩ : ByteArray)]) v11 (some a14) 1 h15 fun (s16 : Sl) (h17 : Heap) =>
  nn r1 fun (a18 : Addr) =>
  st (a18.add 0) [.slice s16.ptr s16.len s16.cap] h17 fun (h19 : Heap) =>
  Q true h19)
def F_net_row_put (r1 : Option Addr) (m2 : Int) (m3 : ByteArray) (h : Heap) (Q : Bool → Heap → Prop) : Prop := F_net_row_put_of  r1 m2 m3 h Q
def plan66 : Plan := .s (.r [0, 3]) (.s (.s (.d [0, 1, 3, 7, 15, 0, 32, 96, 224, 511] [[0, 1, 2, 3, 4, 5, 6, 7, 8, 9]] [0, 3, 14]) (.c (.s (.r [4]) .z) .z)) (.s (.d [0, 0, 2, 6, 14, 0, 32, 126, 255, 511, 1023] [[0, 1, 2, 3, 4, 5, 6, 7, 8, 9, 10]] []) (.s (.r [4]) .z)))
theorem F_net_row_put.eq  (r1 : Option Addr) (m2 : Int) (m3 : ByteArray) (h : Heap) (K : Value → Heap → Prop) : F_net_row_put_of  r1 m2 m3 h (fun (r0 : Bool) (h : Heap) => K (.bool r0) h) =
    den Try.prog noFns Try.f66.ntmps plan66 (bodyOf Try.f66) (args0 0 [(.pointer r1 : Value), (.agg #[.int .i64 m2, .string m3] : Value)]) h ⟨fun env h => dRes Try.prog Try.f66.results.toList env h K, fun _ _ _ => False, fun env h => dRes Try.prog Try.f66.results.toList env h K⟩ := by kernel_rfl
def E_net_row_put_of (f : Option Addr → Int → ByteArray → Heap → (Bool → Heap → Prop) → Prop) : List Value → Heap → (Value → Heap → Prop) → Prop
  | [v0, v1], h, K => dec1 .ptr v0 fun (r1 : Option Addr) =>
  vAgg v1 fun cs1 => decs [.int .i64, .str] cs1.toList fun (m2 : Int) (m3 : ByteArray) =>
  f r1 m2 m3 h (fun (r0 : Bool) (h : Heap) => K (.bool r0) h)
  | _, _, _ => False
abbrev E_net_row_put := E_net_row_put_of F_net_row_put
theorem E_net_row_put.right : IsRight Try.prog 66 E_net_row_put := by
  refine isRight fun vs K w hh => ?_
  match vs, hh with
  | [v0, v1], hh =>
    unfold E_net_row_put E_net_row_put_of at hh
    replace hh := dec1_sound hh; obtain ⟨r1, rfl, hh⟩ := hh
    replace hh := vAgg_sound hh; obtain ⟨cs1, rfl, hh⟩ := hh
    replace hh := decs_cons hh; obtain ⟨m2, l1_0, e1_0, hh⟩ := hh
    replace hh := decs_cons hh; obtain ⟨m3, l1_1, e1_1, hh⟩ := hh
    replace hh := decs_nil hh; obtain ⟨rfl, hh⟩ := hh
    subst e1_1
    have ec1 := toArray_eq e1_0
    subst ec1
    unfold F_net_row_put at hh
    exact calls_den noFns_right plan66 _ w K Try.func66 (by kernel_rfl) (by kernel_rfl) (Eq.mp (F_net_row_put.eq  r1 m2 m3 w.heap K) hh)
theorem ok66 : okFn Try.prog 66 = true := by kernel_rfl
end Go.Proofs.Ytboidjampddfoaa.V
namespace Go.Proofs.Ytboidjampddfoaa.V
open Go Go.RowKit
set_option linter.unusedVariables false
set_option maxRecDepth 100000
def F_net_Net_Send_of (f66_ : Option Addr → Int → ByteArray → Heap → (Bool → Heap → Prop) → Prop) (n1 : Option Addr) (to_2 : Int) (b3 : Sl) (h : Heap) (Q : Bool → Heap → Prop) : Prop :=
  nn n1 fun (a4 : Addr) =>
  b2s b3.ptr b3.len h fun (s5 : ByteArray) =>
  f66_ (some (a4.add 0)) to_2 s5 h fun (r6 : Bool) (h7 : Heap) =>
  jn [(24, .one .bool)] (fun (x11 : Bool) (h12 : Heap) =>
  jn [] (fun  (h18 : Heap) =>
  Q r6 h18) (fun (j13 : Heap → Prop) =>
  brr x11
  (nn n1 fun (a14 : Addr) =>
  ld [.int .u64] (a14.add 2) h12 fun (v15 : Int) =>
  nn n1 fun (a16 : Addr) =>
  st (a16.add 2) [.int .u64 (IntKind.u64.wrap (v15 + 1))] h12 fun (h17 : Heap) =>
  j13 h17)
  (j13 h12))) (fun (j8 : Bool → Heap → Prop) =>
  brr (!r6)
  (nn n1 fun (a9 : Addr) =>
  ld [.int .u64] (a9.add 2) h7 fun (v10 : Int) =>
  j8 (decide (v10 < 18446744073709551615)) h7)
  (j8 false h7))
def F_net_Net_Send (n1 : Option Addr) (to_2 : Int) (b3 : Sl) (h : Heap) (Q : Bool → Heap → Prop) : Prop := F_net_Net_Send_of F_net_row_put n1 to_2 b3 h Q
def plan24 : Plan := .s (.r [0, 1, 2]) (.s (.d [0, 1, 3, 0, 0, 16, 56, 127, 255] [[0, 1, 2, 3, 4, 5, 6, 7, 8]] [0, 7]) (.s (.s (.rj [(24, .one .bool)] [0, 7]) (.cj [] [7] (.r [7]) .z)) (.s (.r [6]) .z)))
theorem F_net_Net_Send.eq (f66_ : Option Addr → Int → ByteArray → Heap → (Bool → Heap → Prop) → Prop) (n1 : Option Addr) (to_2 : Int) (b3 : Sl) (h : Heap) (K : Value → Heap → Prop) : F_net_Net_Send_of f66_ n1 to_2 b3 h (fun (r0 : Bool) (h : Heap) => K (.bool r0) h) =
    den Try.prog (fn1 66 (E_net_row_put_of f66_) noFns) Try.f24.ntmps plan24 (bodyOf Try.f24) (args0 0 [(.pointer n1 : Value), (.int .i64 to_2 : Value), (.slice b3.ptr b3.len b3.cap : Value)]) h ⟨fun env h => dRes Try.prog Try.f24.results.toList env h K, fun _ _ _ => False, fun env h => dRes Try.prog Try.f24.results.toList env h K⟩ := by kernel_rfl
def E_net_Net_Send_of (f : Option Addr → Int → Sl → Heap → (Bool → Heap → Prop) → Prop) : List Value → Heap → (Value → Heap → Prop) → Prop
  | [v0, v1, v2], h, K => dec1 .ptr v0 fun (n1 : Option Addr) =>
  dec1 (.int .i64) v1 fun (to_2 : Int) =>
  dec1 .sl v2 fun (b3 : Sl) =>
  f n1 to_2 b3 h (fun (r0 : Bool) (h : Heap) => K (.bool r0) h)
  | _, _, _ => False
abbrev E_net_Net_Send := E_net_Net_Send_of F_net_Net_Send
theorem E_net_Net_Send.right : IsRight Try.prog 24 E_net_Net_Send := by
  refine isRight fun vs K w hh => ?_
  match vs, hh with
  | [v0, v1, v2], hh =>
    unfold E_net_Net_Send E_net_Net_Send_of at hh
    replace hh := dec1_sound hh; obtain ⟨n1, rfl, hh⟩ := hh
    replace hh := dec1_sound hh; obtain ⟨to_2, rfl, hh⟩ := hh
    replace hh := dec1_sound hh; obtain ⟨b3, rfl, hh⟩ := hh
    unfold F_net_Net_Send at hh
    exact calls_den (fn1_right ok66 E_net_row_put.right noFns_right) plan24 _ w K Try.func24 (by kernel_rfl) (by kernel_rfl) (Eq.mp (F_net_Net_Send.eq F_net_row_put n1 to_2 b3 w.heap K) hh)
theorem ok24 : okFn Try.prog 24 = true := by kernel_rfl
end Go.Proofs.Ytboidjampddfoaa.V
namespace Go.Proofs.Ytboidjampddfoaa.V
open Go Go.RowKit
set_option linter.unusedVariables false
set_option maxRecDepth 100000
def F_net_Net_Lost_of  (n1 : Option Addr) (h : Heap) (Q : Int → Heap → Prop) : Prop :=
  nn n1 fun (a2 : Addr) =>
  ld [.int .u64] (a2.add 2) h fun (v3 : Int) =>
  Q v3 h
def F_net_Net_Lost (n1 : Option Addr) (h : Heap) (Q : Int → Heap → Prop) : Prop := F_net_Net_Lost_of  n1 h Q
def plan31 : Plan := .s (.r [0]) (.s (.r [2]) .z)
theorem F_net_Net_Lost.eq  (n1 : Option Addr) (h : Heap) (K : Value → Heap → Prop) : F_net_Net_Lost_of  n1 h (fun (r0 : Int) (h : Heap) => K (.int .u64 r0) h) =
    den Try.prog noFns Try.f31.ntmps plan31 (bodyOf Try.f31) (args0 0 [(.pointer n1 : Value)]) h ⟨fun env h => dRes Try.prog Try.f31.results.toList env h K, fun _ _ _ => False, fun env h => dRes Try.prog Try.f31.results.toList env h K⟩ := by kernel_rfl
def E_net_Net_Lost_of (f : Option Addr → Heap → (Int → Heap → Prop) → Prop) : List Value → Heap → (Value → Heap → Prop) → Prop
  | [v0], h, K => dec1 .ptr v0 fun (n1 : Option Addr) =>
  f n1 h (fun (r0 : Int) (h : Heap) => K (.int .u64 r0) h)
  | _, _, _ => False
abbrev E_net_Net_Lost := E_net_Net_Lost_of F_net_Net_Lost
theorem E_net_Net_Lost.right : IsRight Try.prog 31 E_net_Net_Lost := by
  refine isRight fun vs K w hh => ?_
  match vs, hh with
  | [v0], hh =>
    unfold E_net_Net_Lost E_net_Net_Lost_of at hh
    replace hh := dec1_sound hh; obtain ⟨n1, rfl, hh⟩ := hh
    unfold F_net_Net_Lost at hh
    exact calls_den noFns_right plan31 _ w K Try.func31 (by kernel_rfl) (by kernel_rfl) (Eq.mp (F_net_Net_Lost.eq  n1 w.heap K) hh)
theorem ok31 : okFn Try.prog 31 = true := by kernel_rfl
end Go.Proofs.Ytboidjampddfoaa.V
namespace Go.Proofs.Ytboidjampddfoaa.V
open Go Go.RowKit
set_option linter.unusedVariables false
set_option maxRecDepth 100000
def F_net_row_Len_of  (r1 : Option Addr) (h : Heap) (Q : Int → Heap → Prop) : Prop :=
  nn r1 fun (a2 : Addr) =>
  ld [.sl] (a2.add 0) h fun (v3 : Sl) =>
  Q ((v3.len : Nat) : Int) h
def F_net_row_Len (r1 : Option Addr) (h : Heap) (Q : Int → Heap → Prop) : Prop := F_net_row_Len_of  r1 h Q
def plan30 : Plan := .s (.r [0]) (.s (.r [2]) .z)
theorem F_net_row_Len.eq  (r1 : Option Addr) (h : Heap) (K : Value → Heap → Prop) : F_net_row_Len_of  r1 h (fun (r0 : Int) (h : Heap) => K (.int .i64 r0) h) =
    den Try.prog noFns Try.f30.ntmps plan30 (bodyOf Try.f30) (args0 0 [(.pointer r1 : Value)]) h ⟨fun env h => dRes Try.prog Try.f30.results.toList env h K, fun _ _ _ => False, fun env h => dRes Try.prog Try.f30.results.toList env h K⟩ := by kernel_rfl
def E_net_row_Len_of (f : Option Addr → Heap → (Int → Heap → Prop) → Prop) : List Value → Heap → (Value → Heap → Prop) → Prop
  | [v0], h, K => dec1 .ptr v0 fun (r1 : Option Addr) =>
  f r1 h (fun (r0 : Int) (h : Heap) => K (.int .i64 r0) h)
  | _, _, _ => False
abbrev E_net_row_Len := E_net_row_Len_of F_net_row_Len
theorem E_net_row_Len.right : IsRight Try.prog 30 E_net_row_Len := by
  refine isRight fun vs K w hh => ?_
  match vs, hh with
  | [v0], hh =>
    unfold E_net_row_Len E_net_row_Len_of at hh
    replace hh := dec1_sound hh; obtain ⟨r1, rfl, hh⟩ := hh
    unfold F_net_row_Len at hh
    exact calls_den noFns_right plan30 _ w K Try.func30 (by kernel_rfl) (by kernel_rfl) (Eq.mp (F_net_row_Len.eq  r1 w.heap K) hh)
theorem ok30 : okFn Try.prog 30 = true := by kernel_rfl
end Go.Proofs.Ytboidjampddfoaa.V
namespace Go.Proofs.Ytboidjampddfoaa.V
open Go Go.RowKit
set_option linter.unusedVariables false
set_option maxRecDepth 100000
def F_net_message_told_of  (m1 : Int) (m2 : ByteArray) (h : Heap) (Q : Int → Sl → Heap → Prop) : Prop :=
  al 137 [.int .i64 m1, .string m2] h fun (a3 : Addr) (h4 : Heap) =>
  al 63 [.int .i64 0, .slice none 0 0] h4 fun (a5 : Addr) (h6 : Heap) =>
  ld [.int .i64] (a3.add 0) h6 fun (v7 : Int) =>
  ld [.str] (a3.add 1) h6 fun (v8 : ByteArray) =>
  s2b 5 v8 h6 fun (s9 : Sl) (h10 : Heap) =>
  st a5 [.int .i64 v7, .slice s9.ptr s9.len s9.cap] h10 fun (h11 : Heap) =>
  ld [.int .i64, .sl] a5 h11 fun (v12 : Int) (v13 : Sl) =>
  Q v12 v13 h11
def F_net_message_told (m1 : Int) (m2 : ByteArray) (h : Heap) (Q : Int → Sl → Heap → Prop) : Prop := F_net_message_told_of  m1 m2 h Q
def plan86 : Plan := .s (.r [1, 2]) (.s (.r [2]) .z)
theorem F_net_message_told.eq  (m1 : Int) (m2 : ByteArray) (h : Heap) (K : Value → Heap → Prop) : F_net_message_told_of  m1 m2 h (fun (r0 : Int) (r1 : Sl) (h : Heap) => K (.agg #[.int .i64 r0, .slice r1.ptr r1.len r1.cap]) h) =
    den Try.prog noFns Try.f86.ntmps plan86 (bodyOf Try.f86) (args0 0 [(.agg #[.int .i64 m1, .string m2] : Value)]) h ⟨fun env h => dRes Try.prog Try.f86.results.toList env h K, fun _ _ _ => False, fun env h => dRes Try.prog Try.f86.results.toList env h K⟩ := by kernel_rfl
def E_net_message_told_of (f : Int → ByteArray → Heap → (Int → Sl → Heap → Prop) → Prop) : List Value → Heap → (Value → Heap → Prop) → Prop
  | [v0], h, K => vAgg v0 fun cs0 => decs [.int .i64, .str] cs0.toList fun (m1 : Int) (m2 : ByteArray) =>
  f m1 m2 h (fun (r0 : Int) (r1 : Sl) (h : Heap) => K (.agg #[.int .i64 r0, .slice r1.ptr r1.len r1.cap]) h)
  | _, _, _ => False
abbrev E_net_message_told := E_net_message_told_of F_net_message_told
theorem E_net_message_told.right : IsRight Try.prog 86 E_net_message_told := by
  refine isRight fun vs K w hh => ?_
  match vs, hh with
  | [v0], hh =>
    unfold E_net_message_told E_net_message_told_of at hh
    replace hh := vAgg_sound hh; obtain ⟨cs0, rfl, hh⟩ := hh
    replace hh := decs_cons hh; obtain ⟨m1, l0_0, e0_0, hh⟩ := hh
    replace hh := decs_cons hh; obtain ⟨m2, l0_1, e0_1, hh⟩ := hh
    replace hh := decs_nil hh; obtain ⟨rfl, hh⟩ := hh
    subst e0_1
    have ec0 := toArray_eq e0_0
    subst ec0
    unfold F_net_message_told at hh
    exact calls_den noFns_right plan86 _ w K Try.func86 (by kernel_rfl) (by kernel_rfl) (Eq.mp (F_net_message_told.eq  m1 m2 w.heap K) hh)
theorem ok86 : okFn Try.prog 86 = true := by kernel_rfl
end Go.Proofs.Ytboidjampddfoaa.V
namespace Go.Proofs.Ytboidjampddfoaa.V
open Go Go.RowKit
set_option linter.unusedVariables false
set_option maxRecDepth 100000
def F_net_row_Look_of (f86_ : Int → ByteArray → Heap → (Int → Sl → Heap → Prop) → Prop) (r1 : Option Addr) (i2 : Int) (h : Heap) (Q : Int → Sl → Bool → Heap → Prop) : Prop :=
  al 63 [.int .i64 0, .slice none 0 0] h fun (a3 : Addr) (h4 : Heap) =>
  jn [(16, .one .bool)] (fun (x8 : Bool) (h9 : Heap) =>
  brr x8
  (st a3 [.int .i64 0, .slice none 0 0] h9 fun (h10 : Heap) =>
  ld [.int .i64, .sl] a3 h10 fun (v11 : Int) (v12 : Sl) =>
  Q v11 v12 false h10)
  (nn r1 fun (a13 : Addr) =>
  ld [.sl] (a13.add 0) h9 fun (v14 : Sl) =>
  ixS 2 v14 i2 fun (a15 : Addr) =>
  ld [.int .i64, .str] a15 h9 fun (v16 : Int) (v17 : ByteArray) =>
  f86_ v16 v17 h9 fun (r18 : Int) (r19 : Sl) (h20 : Heap) =>
  st a3 [.int .i64 r18, .slice r19.ptr r19.len r19.cap] h20 fun (h21 : Heap) =>
  ld [.int .i64, .sl] a3 h21 fun (v22 : Int) (v23 : Sl) =>
  Q v22 v23 true h21)) (fun (j5 : Bool → Heap → Prop) =>
  brr (decide (i2 < 0))
  (j5 true h4)
  (nn r1 fun (a6 : Addr) =>
  ld [.sl] (a6.add 0) h4 fun (v7 : Sl) =>
  j5 (decide (i2 ≥ ((v7.len : Nat) : Int))) h4))
def F_net_row_Look (r1 : Option Addr) (i2 : Int) (h : Heap) (Q : Int → Sl → Bool → Heap → Prop) : Prop := F_net_row_Look_of F_net_message_told r1 i2 h Q
def plan61 : Plan := .s (.r [0, 1, 4]) (.s (.s (.rj [(16, .one .bool)] [0, 1, 4]) (.c (.s (.r [4, 5]) .z) .z)) (.s (.r [4, 5]) .z))
theorem F_net_row_Look.eq (f86_ : Int → ByteArray → Heap → (Int → Sl → Heap → Prop) → Prop) (r1 : Option Addr) (i2 : Int) (h : Heap) (K : Value → Heap → Prop) : F_net_row_Look_of f86_ r1 i2 h (fun (r0 : Int) (r1 : Sl) (r2 : Bool) (h : Heap) => K (.tuple #[.agg #[.int .i64 r0, .slice r1.ptr r1.len r1.cap], .bool r2]) h) =
    den Try.prog (fn1 86 (E_net_message_told_of f86_) noFns) Try.f61.ntmps plan61 (bodyOf Try.f61) (args0 0 [(.pointer r1 : Value), (.int .i64 i2 : Value)]) h ⟨fun env h => dRes Try.prog Try.f61.results.toList env h K, fun _ _ _ => False, fun env h => dRes Try.prog Try.f61.results.toList env h K⟩ := by kernel_rfl
def E_net_row_Look_of (f : Option Addr → Int → Heap → (Int → Sl → Bool → Heap → Prop) → Prop) : List Value → Heap → (Value → Heap → Prop) → Prop
  | [v0, v1], h, K => dec1 .ptr v0 fun (r1 : Option Addr) =>
  dec1 (.int .i64) v1 fun (i2 : Int) =>
  f r1 i2 h (fun (r0 : Int) (r1 : Sl) (r2 : Bool) (h : Heap) => K (.tuple #[.agg #[.int .i64 r0, .slice r1.ptr r1.len r1.cap], .bool r2]) h)
  | _, _, _ => False
abbrev E_net_row_Look := E_net_row_Look_of F_net_row_Look
theorem E_net_row_Look.right : IsRight Try.prog 61 E_net_row_Look := by
  refine isRight fun vs K w hh => ?_
  match vs, hh with
  | [v0, v1], hh =>
    unfold E_net_row_Look E_net_row_Look_of at hh
    replace hh := dec1_sound hh; obtain ⟨r1, rfl, hh⟩ := hh
    replace hh := dec1_sound hh; obtain ⟨i2, rfl, hh⟩ := hh
    unfold F_net_row_Look at hh
    exact calls_den (fn1_right ok86 E_net_message_told.right noFns_right) plan61 _ w K Try.func61 (by kernel_rfl) (by kernel_rfl) (Eq.mp (F_net_row_Look.eq F_net_message_told r1 i2 w.heap K) hh)
theorem ok61 : okFn Try.prog 61 = true := by kernel_rfl
end Go.Proofs.Ytboidjampddfoaa.V
namespace Go.Proofs.Ytboidjampddfoaa.V
open Go Go.RowKit
set_option linter.unusedVariables false
set_option maxRecDepth 100000
def F_slices_Delete_caaac_of  (s1 : Sl) (i2 j3 : Int) (h : Heap) (Q : Sl → Heap → Prop) : Prop :=
  slM 2 s1 i2 j3 ((s1.len : Nat) : Int) fun (s4 : Sl) =>
  brr (i2 == j3)
  (Q s1 h)
  (slTo s1 i2 fun (s5 : Sl) =>
  slFrom 2 s1 j3 fun (s6 : Sl) =>
  app 137 2 24 (.agg #[.int .i64 0, .string (⟨#[]⟩ : ByteArray)]) s5 s6.ptr s6.len h fun (s7 : Sl) (h8 : Heap) =>
  slFT 2 s7 ((s7.len : Nat) : Int) ((s1.len : Nat) : Int) fun (s9 : Sl) =>
  clr (.agg #[.int .i64 0, .string (⟨#[]⟩ : ByteArray)]) s9 h8 fun (h11 : Heap) =>
  Q s7 h11)
def F_slices_Delete_caaac (s1 : Sl) (i2 j3 : Int) (h : Heap) (Q : Sl → Heap → Prop) : Prop := F_slices_Delete_caaac_of  s1 i2 j3 h Q
def plan67 : Plan := .s (.r [0, 1, 2]) (.s (.r [0, 1, 2]) (.s (.s (.r [0, 1, 2, 16]) (.c (.s (.r [6]) .z) .z)) (.s (.r [0, 1, 2, 7]) (.s (.d [0, 0, 3, 0, 0, 24, 63, 127] [[0, 1, 2, 3, 4, 5, 6, 7]] [0, 7]) (.s (.r [0]) (.s (.r [6]) .z))))))
theorem F_slices_Delete_caaac.eq  (s1 : Sl) (i2 j3 : Int) (h : Heap) (K : Value → Heap → Prop) : F_slices_Delete_caaac_of  s1 i2 j3 h (fun (r0 : Sl) (h : Heap) => K (.slice r0.ptr r0.len r0.cap) h) =
    den Try.prog noFns Try.f67.ntmps plan67 (bodyOf Try.f67) (args0 0 [(.slice s1.ptr s1.len s1.cap : Value), (.int .i64 i2 : Value), (.int .i64 j3 : Value)]) h ⟨fun env h => dRes Try.prog Try.f67.results.toList env h K, fun _ _ _ => False, fun env h => dRes Try.prog Try.f67.results.toList env h K⟩ := by kernel_rfl
def E_slices_Delete_caaac_of (f : Sl → Int → Int → Heap → (Sl → Heap → Prop) → Prop) : List Value → Heap → (Value → Heap → Prop) → Prop
  | [v0, v1, v2], h, K => dec1 .sl v0 fun (s1 : Sl) =>
  dec1 (.int .i64) v1 fun (i2 : Int) =>
  dec1 (.int .i64) v2 fun (j3 : Int) =>
  f s1 i2 j3 h (fun (r0 : Sl) (h : Heap) => K (.slice r0.ptr r0.len r0.cap) h)
  | _, _, _ => False
abbrev E_slices_Delete_caaac := E_slices_Delete_caaac_of F_slices_Delete_caaac
theorem E_slices_Delete_caaac.right : IsRight Try.prog 67 E_slices_Delete_caaac := by
  refine isRight fun vs K w hh => ?_
  match vs, hh with
  | [v0, v1, v2], hh =>
    unfold E_slices_Delete_caaac E_slices_Delete_caaac_of at hh
    replace hh := dec1_sound hh; obtain ⟨s1, rfl, hh⟩ := hh
    replace hh := dec1_sound hh; obtain ⟨i2, rfl, hh⟩ := hh
    replace hh := dec1_sound hh; obtain ⟨j3, rfl, hh⟩ := hh
    unfold F_slices_Delete_caaac at hh
    exact calls_den noFns_right plan67 _ w K Try.func67 (by kernel_rfl) (by kernel_rfl) (Eq.mp (F_slices_Delete_caaac.eq  s1 i2 j3 w.heap K) hh)
theorem ok67 : okFn Try.prog 67 = true := by kernel_rfl
end Go.Proofs.Ytboidjampddfoaa.V
namespace Go.Proofs.Ytboidjampddfoaa.V
open Go Go.RowKit
set_option linter.unusedVariables false
set_option maxRecDepth 100000
def F_net_row_Drop_of (f67_ : Sl → Int → Int → Heap → (Sl → Heap → Prop) → Prop) (r1 : Option Addr) (i2 : Int) (h : Heap) (Q : Bool → Heap → Prop) : Prop :=
  jn [(15, .one .bool)] (fun (x6 : Bool) (h7 : Heap) =>
  brr x6
  (Q false h7)
  (nn r1 fun (a8 : Addr) =>
  ld [.sl] (a8.add 0) h7 fun (v9 : Sl) =>
  f67_ v9 i2 (IntKind.i64.wrap (i2 + 1)) h7 fun (r10 : Sl) (h11 : Heap) =>
  nn r1 fun (a12 : Addr) =>
  st (a12.add 0) [.slice r10.ptr r10.len r10.cap] h11 fun (h13 : Heap) =>
  Q true h13)) (fun (j3 : Bool → Heap → Prop) =>
  brr (decide (i2 < 0))
  (j3 true h)
  (nn r1 fun (a4 : Addr) =>
  ld [.sl] (a4.add 0) h fun (v5 : Sl) =>
  j3 (decide (i2 ≥ ((v5.len : Nat) : Int))) h))
def F_net_row_Drop (r1 : Option Addr) (i2 : Int) (h : Heap) (Q : Bool → Heap → Prop) : Prop := F_net_row_Drop_of F_slices_Delete_caaac r1 i2 h Q
def plan26 : Plan := .s (.r [0, 1]) (.s (.s (.rj [(15, .one .bool)] [0, 1]) (.c (.s (.r [4]) .z) .z)) (.s (.r []) (.s (.r [4]) .z)))
theorem F_net_row_Drop.eq (f67_ : Sl → Int → Int → Heap → (Sl → Heap → Prop) → Prop) (r1 : Option Addr) (i2 : Int) (h : Heap) (K : Value → Heap → Prop) : F_net_row_Drop_of f67_ r1 i2 h (fun (r0 : Bool) (h : Heap) => K (.bool r0) h) =
    den Try.prog (fn1 67 (E_slices_Delete_caaac_of f67_) noFns) Try.f26.ntmps plan26 (bodyOf Try.f26) (args0 0 [(.pointer r1 : Value), (.int .i64 i2 : Value)]) h ⟨fun env h => dRes Try.prog Try.f26.results.toList env h K, fun _ _ _ => False, fun env h => dRes Try.prog Try.f26.results.toList env h K⟩ := by kernel_rfl
def E_net_row_Drop_of (f : Option Addr → Int → Heap → (Bool → Heap → Prop) → Prop) : List Value → Heap → (Value → Heap → Prop) → Prop
  | [v0, v1], h, K => dec1 .ptr v0 fun (r1 : Option Addr) =>
  dec1 (.int .i64) v1 fun (i2 : Int) =>
  f r1 i2 h (fun (r0 : Bool) (h : Heap) => K (.bool r0) h)
  | _, _, _ => False
abbrev E_net_row_Drop := E_net_row_Drop_of F_net_row_Drop
theorem E_net_row_Drop.right : IsRight Try.prog 26 E_net_row_Drop := by
  refine isRight fun vs K w hh => ?_
  match vs, hh with
  | [v0, v1], hh =>
    unfold E_net_row_Drop E_net_row_Drop_of at hh
    replace hh := dec1_sound hh; obtain ⟨r1, rfl, hh⟩ := hh
    replace hh := dec1_sound hh; obtain ⟨i2, rfl, hh⟩ := hh
    unfold F_net_row_Drop at hh
    exact calls_den (fn1_right ok67 E_slices_Delete_caaac.right noFns_right) plan26 _ w K Try.func26 (by kernel_rfl) (by kernel_rfl) (Eq.mp (F_net_row_Drop.eq F_slices_Delete_caaac r1 i2 w.heap K) hh)
theorem ok26 : okFn Try.prog 26 = true := by kernel_rfl
end Go.Proofs.Ytboidjampddfoaa.V
namespace Go.Proofs.Ytboidjampddfoaa.V
open Go Go.RowKit
set_option linter.unusedVariables false
set_option maxRecDepth 100000
def F_net_row_Take_of (f26_ : Option Addr → Int → Heap → (Bool → Heap → Prop) → Prop) (f61_ : Option Addr → Int → Heap → (Int → Sl → Bool → Heap → Prop) → Prop) (r1 : Option Addr) (i2 : Int) (h : Heap) (Q : Int → Sl → Bool → Heap → Prop) : Prop :=
  al 63 [.int .i64 0, .slice none 0 0] h fun (a3 : Addr) (h4 : Heap) =>
  f61_ r1 i2 h4 fun (r5 : Int) (r6 : Sl) (r7 : Bool) (h8 : Heap) =>
  al 63 [.int .i64 0, .slice none 0 0] h8 fun (a9 : Addr) (h10 : Heap) =>
  st a9 [.int .i64 r5, .slice r6.ptr r6.len r6.cap] h10 fun (h11 : Heap) =>
  jn [(5, .one .bool)] (fun (x19 : Bool) (h20 : Heap) =>
  ld [.int .i64, .sl] a3 h20 fun (v21 : Int) (v22 : Sl) =>
  Q v21 v22 x19 h20) (fun (j12 : Bool → Heap → Prop) =>
  ld [.int .i64, .sl] a9 h11 fun (v13 : Int) (v14 : Sl) =>
  brr r7
  (f26_ r1 i2 h11 fun (r15 : Bool) (h16 : Heap) =>
  cellsAre h16 a9 [.int .i64 v13, .slice v14.ptr v14.len v14.cap] ∧
  st a3 [.int .i64 v13, .slice v14.ptr v14.len v14.cap] h16 fun (h17 : Heap) =>
  j12 r15 h17)
  (st a3 [.int .i64 v13, .slice v14.ptr v14.len v14.cap] h11 fun (h18 : Heap) =>
  j12 false h18))
def F_net_row_Take (r1 : Option Addr) (i2 : Int) (h : Heap) (Q : Int → Sl → Bool → Heap → Prop) : Prop := F_net_row_Take_of F_net_row_Drop F_net_row_Look r1 i2 h Q
def plan27 : Plan := .s (.r [0, 1, 4]) (.s (.r [0, 1, 4, 6, 7]) (.s (.dj [0, 0, 2, 6, 6, 30, 62, 63, 255] [[0, 1, 2, 3, 4, 5, 6, 7, 8]] [(5, .one .bool)] [4]) .z))
theorem F_net_row_Take.eq (f26_ : Option Addr → Int → Heap → (Bool → Heap → Prop) → Prop) (f61_ : Option Addr → Int → Heap → (Int → Sl → Bool → Heap → Prop) → Prop) (r1 : Option Addr) (i2 : Int) (h : Heap) (K : Value → Heap → Prop) : F_net_row_Take_of f26_ f61_ r1 i2 h (fun (r0 : Int) (r1 : Sl) (r2 : Bool) (h : Heap) => K (.tuple #[.agg #[.int .i64 r0, .slice r1.ptr r1.len r1.cap], .bool r2]) h) =
    den Try.prog (fn1 26 (E_net_row_Drop_of f26_) (fn1 61 (E_net_row_Look_of f61_) noFns)) Try.f27.ntmps plan27 (bodyOf Try.f27) (args0 0 [(.pointer r1 : Value), (.int .i64 i2 : Value)]) h ⟨fun env h => dRes Try.prog Try.f27.results.toList env h K, fun _ _ _ => False, fun env h => dRes Try.prog Try.f27.results.toList env h K⟩ := by kernel_rfl
def E_net_row_Take_of (f : Option Addr → Int → Heap → (Int → Sl → Bool → Heap → Prop) → Prop) : List Value → Heap → (Value → Heap → Prop) → Prop
  | [v0, v1], h, K => dec1 .ptr v0 fun (r1 : Option Addr) =>
  dec1 (.int .i64) v1 fun (i2 : Int) =>
  f r1 i2 h (fun (r0 : Int) (r1 : Sl) (r2 : Bool) (h : Heap) => K (.tuple #[.agg #[.int .i64 r0, .slice r1.ptr r1.len r1.cap], .bool r2]) h)
  | _, _, _ => False
abbrev E_net_row_Take := E_net_row_Take_of F_net_row_Take
theorem E_net_row_Take.right : IsRight Try.prog 27 E_net_row_Take := by
  refine isRight fun vs K w hh => ?_
  match vs, hh with
  | [v0, v1], hh =>
    unfold E_net_row_Take E_net_row_Take_of at hh
    replace hh := dec1_sound hh; obtain ⟨r1, rfl, hh⟩ := hh
    replace hh := dec1_sound hh; obtain ⟨i2, rfl, hh⟩ := hh
    unfold F_net_row_Take at hh
    exact calls_den (fn1_right ok26 E_net_row_Drop.right (fn1_right ok61 E_net_row_Look.right noFns_right)) plan27 _ w K Try.func27 (by kernel_rfl) (by kernel_rfl) (Eq.mp (F_net_row_Take.eq F_net_row_Drop F_net_row_Look r1 i2 w.heap K) hh)
theorem ok27 : okFn Try.prog 27 = true := by kernel_rfl
end Go.Proofs.Ytboidjampddfoaa.V
namespace Go.Proofs.Ytboidjampddfoaa.V
open Go Go.RowKit
set_option linter.unusedVariables false
set_option maxRecDepth 100000
def F_net_row_Double_of (f66_ : Option Addr → Int → ByteArray → Heap → (Bool → Heap → Prop) → Prop) (r1 : Option Addr) (i2 : Int) (h : Heap) (Q : Bool → Heap → Prop) : Prop :=
  jn [(4, .one .bool)] (fun (x13 : Bool) (h14 : Heap) =>
  Q x13 h14) (fun (j3 : Bool → Heap → Prop) =>
  brr (decide (i2 ≥ 0))
  (nn r1 fun (a4 : Addr) =>
  ld [.sl] (a4.add 0) h fun (v5 : Sl) =>
  brr (decide (i2 < ((v5.len : Nat) : Int)))
  (nn r1 fun (a6 : Addr) =>
  ld [.sl] (a6.add 0) h fun (v7 : Sl) =>
  ixS 2 v7 i2 fun (a8 : Addr) =>
  ld [.int .i64, .str] a8 h fun (v9 : Int) (v10 : ByteArray) =>
  f66_ r1 v9 v10 h fun (r11 : Bool) (h12 : Heap) =>
  j3 r11 h12)
  (j3 false h))
  (j3 false h))
def F_net_row_Double (r1 : Option Addr) (i2 : Int) (h : Heap) (Q : Bool → Heap → Prop) : Prop := F_net_row_Double_of F_net_row_put r1 i2 h Q
def plan29 : Plan := .s (.r [0, 1]) (.s (.rj [(4, .one .bool)] []) .z)
theorem F_net_row_Double.eq (f66_ : Option Addr → Int → ByteArray → Heap → (Bool → Heap → Prop) → Prop) (r1 : Option Addr) (i2 : Int) (h : Heap) (K : Value → Heap → Prop) : F_net_row_Double_of f66_ r1 i2 h (fun (r0 : Bool) (h : Heap) => K (.bool r0) h) =
    den Try.prog (fn1 66 (E_net_row_put_of f66_) noFns) Try.f29.ntmps plan29 (bodyOf Try.f29) (args0 0 [(.pointer r1 : Value), (.int .i64 i2 : Value)]) h ⟨fun env h => dRes Try.prog Try.f29.results.toList env h K, fun _ _ _ => False, fun env h => dRes Try.prog Try.f29.results.toList env h K⟩ := by kernel_rfl
def E_net_row_Double_of (f : Option Addr → Int → Heap → (Bool → Heap → Prop) → Prop) : List Value → Heap → (Value → Heap → Prop) → Prop
  | [v0, v1], h, K => dec1 .ptr v0 fun (r1 : Option Addr) =>
  dec1 (.int .i64) v1 fun (i2 : Int) =>
  f r1 i2 h (fun (r0 : Bool) (h : Heap) => K (.bool r0) h)
  | _, _, _ => False
abbrev E_net_row_Double := E_net_row_Double_of F_net_row_Double
theorem E_net_row_Double.right : IsRight Try.prog 29 E_net_row_Double := by
  refine isRight fun vs K w hh => ?_
  match vs, hh with
  | [v0, v1], hh =>
    unfold E_net_row_Double E_net_row_Double_of at hh
    replace hh := dec1_sound hh; obtain ⟨r1, rfl, hh⟩ := hh
    replace hh := dec1_sound hh; obtain ⟨i2, rfl, hh⟩ := hh
    unfold F_net_row_Double at hh
    exact calls_den (fn1_right ok66 E_net_row_put.right noFns_right) plan29 _ w K Try.func29 (by kernel_rfl) (by kernel_rfl) (Eq.mp (F_net_row_Double.eq F_net_row_put r1 i2 w.heap K) hh)
theorem ok29 : okFn Try.prog 29 = true := by kernel_rfl
end Go.Proofs.Ytboidjampddfoaa.V
/- The program's net: a row of messages. -/
namespace Go.Proofs.Ytboidjampddfoaa.V
open Go Go.RowKit
set_option linter.unusedVariables false
set_option linter.unusedSimpArgs false
section
variable {α : Type}
/-- One's own list that is not empty lies in a block. -/
theorem Sat.buf_own {h0 h : Heap} {L : List Res} {sz : Nat} {enc : α → List Value} {s : Sl} {xs : List α} (O : Sat h0 h (buf sz enc s xs :: L)) (hne : xs ≠ []) : ∃ b k sp, s = ⟨some (pt b 0), xs.length, xs.length + k⟩ ∧ sp.length = k * sz ∧ Sat h0 h (own b (xs.flatMap enc ++ sp) :: L) := by
  obtain ⟨sp, O1⟩ := O.ex
  obtain ⟨E, ⟨E1, E2, p, hA, h2⟩, O2⟩ := O1
  rcases hA with ⟨rfl, rfl, _, _⟩ | ⟨b, j, rfl, hsp, rfl⟩
  · exact absurd rfl hne
  · exact ⟨b, j, sp, rfl, hsp, E, ⟨[(b, _)], E2, p, rfl, h2⟩, O2⟩
end
/-- Bytes made of a text. -/
theorem Sat.s2b {h0 h : Heap} {L : List Res} {T : Nat} {bs : ByteArray} {xs : List UInt8} {K : Sl → Heap → Prop} (O : Sat h0 h L) (hb : bs = ⟨xs.toArray⟩) (k : ∀ s h', Sat h0 h' (buf 1 u8 s xs :: L) → K s h') : V.s2b T bs h K := by
  subst hb
  intro c hc
  have hs : (⟨xs.toArray⟩ : ByteArray).size = xs.length := rfl
  rw [hs] at hc ⊢
  have fl : ∀ l : List UInt8, (l.map fun b => Value.int .u8 (b.toNat : Int)) = l.flatMap u8 := by
    intro l
    induction l with
    | nil => rfl
    | cons x l ih => rw [List.map_cons, List.flatMap_cons, ih]; rfl
  have e : (⟨xs.toArray⟩ : ByteArray).data.toList = xs := rfl
  rw [e, fl]
  have hl := flatMap_len u8_len xs
  have O' := O.push (xs.flatMap u8 ++ List.replicate (c - xs.length) (Value.int .u8 0)) T (c, c + 1) (.inr (by rw [List.length_append, hl, List.length_replicate]; omega))
  have O2 := (O'.own_buf (k := c - xs.length) (sz := 1) (by simp)).bufsI
  rw [show xs.length + (c - xs.length) = c by omega] at O2
  exact k _ _ O2
abbrev NM := Int × List UInt8
def msgE (m : NM) : List Value := [.int .i64 m.1, .string ⟨m.2.toArray⟩]
theorem msgE_len (m : NM) : (msgE m).length = 2 := rfl
theorem msgE_one (m : NM) : (msgE m).all oneV = true := rfl
structure NS where
  l : List NM
  room : Nat
  lost : Nat
structure NS.Ok (n : NS) : Prop where
  le : n.l.length ≤ n.room
  room : n.room ≤ 8192
  lost : n.lost ≤ 1000000
def netR (p : Nat) (n : NS) : Res := ex fun s : Sl => sep (own p [.slice s.ptr s.len s.cap, .int .i64 (n.room : Int), .int .u64 (n.lost : Int)]) (buf 2 msgE s n.l)
theorem Sat.net {h0 h : Heap} {L : List Res} {p : Nat} {n : NS} (O : Sat h0 h (netR p n :: L)) : ∃ s : Sl, Sat h0 h (own p [.slice s.ptr s.len s.cap, .int .i64 (n.room : Int), .int .u64 (n.lost : Int)] :: buf 2 msgE s n.l :: L) := by
  obtain ⟨s, O⟩ := O.ex
  exact ⟨s, O.sep⟩
theorem Sat.netI {h0 h : Heap} {L : List Res} {p : Nat} {n : NS} {s : Sl} (O : Sat h0 h (own p [.slice s.ptr s.len s.cap, .int .i64 (n.room : Int), .int .u64 (n.lost : Int)] :: buf 2 msgE s n.l :: L)) : Sat h0 h (netR p n :: L) := O.sepI.exI s
def NS.has (n : NS) (i : Int) : Bool := decide (0 ≤ i ∧ i < n.l.length)
def NS.at_ (n : NS) (i : Int) : NM := if n.has i then n.l.getD i.toNat (0, []) else (0, [])
def NS.put (n : NS) (m : NM) : NS := if n.l.length < n.room then { n with l := n.l ++ [m] } else n
def NS.send (n : NS) (m : NM) : NS := if n.l.length < n.room then { n with l := n.l ++ [m] } else { n with lost := n.lost + 1 }
def NS.drop (n : NS) (i : Int) : NS := if n.has i then { n with l := n.l.eraseIdx i.toNat } else n
def NS.double (n : NS) (i : Int) : NS := if n.has i then n.put (n.at_ i) else n
theorem NS.Ok.put {n : NS} (o : n.Ok) (m : NM) : (n.put m).Ok := by
  unfold NS.put
  split
  · exact ⟨by show (n.l ++ [m]).length ≤ n.room; rw [List.length_append, List.length_singleton]; omega, o.room, o.lost⟩
  · exact o
theorem NS.Ok.drop {n : NS} (o : n.Ok) (i : Int) : (n.drop i).Ok := by
  unfold NS.drop
  split
  · refine ⟨?_, o.room, o.lost⟩
    have := o.le
    show (n.l.eraseIdx i.toNat).length ≤ n.room
    rw [List.length_eraseIdx]
    split <;> omega
  · exact o
theorem NS.Ok.double {n : NS} (o : n.Ok) (i : Int) : (n.double i).Ok := by
  unfold NS.double
  split
  · exact o.put _
  · exact o
section
variable {h0 h : Heap} {L : List Res} {p : Nat} {n : NS}
theorem F_net_New.is {f : Int} {Q : Option Addr → Int → Heap → Prop} (O : Sat h0 h L) (k1 : ¬ (1 ≤ f ∧ f ≤ 8192) → Q none 60 h) (k2 : 1 ≤ f → f ≤ 8192 → ∀ p h', Sat h0 h' (netR p ⟨[], f.toNat, 0⟩ :: L) → Q (some (pt p 0)) 0 h') : F_net_New f h Q := by
  rw [F_net_New.eq_1, F_net_New_of.eq_1]
  refine jn1 (fun t h' => t = decide (¬ (1 ≤ f ∧ f ≤ 8192)) ∧ h' = h) ?_ ?_
  · rintro t h ⟨rfl, rfl⟩
    refine brr_p (fun hp => k1 hp) (fun hp => ?_)
    have hp : 1 ≤ f ∧ f ≤ 8192 := Decidable.not_not.1 hp
    refine O.al fun p h O => ?_
    have O := (O.nil_buf (sz := 2) (enc := msgE)).swap
    refine k2 hp.1 hp.2 p h (Sat.netI (s := ⟨none, 0, 0⟩) ?_)
    rw [show ((f.toNat : Nat) : Int) = f by omega]
    exact O
  · intro j hj
    refine brr_p (fun hp => ?_) (fun hp => ?_)
    · exact hj _ _ ⟨by rw [decide_eq_true]; omega, rfl⟩
    · exact hj _ _ ⟨decide_eq_decide.2 (by omega), rfl⟩
theorem F_net_row_Len.is {Q : Int → Heap → Prop} (O : Sat h0 h (netR p n :: L)) (k : Q (n.l.length : Nat) h) : F_net_row_Len (some (pt p 0)) h Q := by
  rw [F_net_row_Len.eq_1, F_net_row_Len_of.eq_1]
  simp only [nn_some, pt_add, Nat.zero_add, Nat.add_zero, Nat.reduceAdd, Nat.reduceMul, Int.toNat_zero, Int.toNat_one, Nat.zero_mul, Nat.one_mul]
  obtain ⟨s, O⟩ := O.net
  refine O.ld 0 rfl (ldL_c (k := .sl) (x := s) (ldL_n ?_))
  rw [(O.view 1 msgE_len (by simp) rfl).1.len]
  exact k
theorem F_net_Net_Lost.is {Q : Int → Heap → Prop} (O : Sat h0 h (netR p n :: L)) (k : Q (n.lost : Nat) h) : F_net_Net_Lost (some (pt p 0)) h Q := by
  rw [F_net_Net_Lost.eq_1, F_net_Net_Lost_of.eq_1]
  simp only [nn_some, pt_add, Nat.zero_add, Nat.add_zero, Nat.reduceAdd, Nat.reduceMul, Int.toNat_zero, Int.toNat_one, Nat.zero_mul, Nat.one_mul]
  obtain ⟨s, O⟩ := O.net
  refine O.ld 0 rfl (ldL_c (ldL_n ?_))
  exact k
theorem F_net_row_put.is {t : Int} {xs : List UInt8} {bs : ByteArray} {Q : Bool → Heap → Prop} (hb : bs = ⟨xs.toArray⟩) (o : n.Ok) (O : Sat h0 h (netR p n :: L)) (k : ∀ h', Sat h0 h' (netR p (n.put (t, xs)) :: L) → Q (decide (n.l.length < n.room)) h') : F_net_row_put (some (pt p 0)) t bs h Q := by
  subst hb
  rw [F_net_row_put.eq_1, F_net_row_put_of.eq_1]
  have h1 := o.le; have h2 := o.room
  obtain ⟨s, O⟩ := O.net
  refine O.al fun a h O => ?_
  simp only [nn_some, pt_add, Nat.zero_add, Nat.add_zero, Nat.reduceAdd, Nat.reduceMul, Int.toNat_zero, Int.toNat_one, Nat.zero_mul, Nat.one_mul]
  refine O.ld 1 rfl (ldL_c (k := .sl) (x := s) (ldL_n ?_))
  refine O.ld 1 rfl (ldL_c (ldL_n ?_))
  have hl := (O.view 2 msgE_len (by simp) rfl).1.len
  rw [hl]
  unfold NS.put at k
  refine brr_p (fun hp => ?_) (fun hp => ?_)
  · rw [decide_eq_false (by omega), if_neg (by omega)] at k
    exact k h (Sat.netI O.drop)
  · rw [decide_eq_true (by omega), if_pos (by omega)] at k
    refine O.ld 1 rfl (ldL_c (k := .sl) (x := s) (ldL_n ?_))
    refine O.ld 0 rfl (ldL_c (ldL_c (k := .str) (x := (⟨xs.toArray⟩ : ByteArray)) (ldL_n ?_)))
    refine O.al fun c h O => ?_
    refine ⟨O.cells 2 rfl 0 1, ?_⟩
    have hr := rdP_own O 0 rfl 2 (by simp)
    replace O := O.sel [3, 2, 0] 4 rfl (Nat.le_add_left _ _)
    simp only [selT, List.map, nth, List.drop, List.cons_append, List.nil_append] at O
    refine O.app_buf msgE_len msgE_one rfl (ys := [(t, xs)]) rfl hr (by simp only [List.length_cons, List.length_nil]; omega) fun s2 h O hs2 => ?_
    have O := O.swap
    refine O.st 0 rfl (by simp) rfl fun h O => ?_
    dsimp only [V.put, List.set] at O
    have O := O.sel [0, 1] 3 rfl (Nat.le_add_left _ _)
    exact k h (Sat.netI (n := { n with l := n.l ++ [(t, xs)] }) (s := s2) O)
theorem F_net_Net_Send.is {t : Int} {b : Sl} {xs : List UInt8} {Q : Bool → Heap → Prop} (o : n.Ok) (V1 : Bytes h b xs) (O : Sat h0 h (netR p n :: L)) (k : ∀ h', Sat h0 h' (netR p (n.send (t, xs)) :: L) → Q (decide (n.l.length < n.room)) h') : F_net_Net_Send (some (pt p 0)) t b h Q := by
  rw [F_net_Net_Send.eq_1, F_net_Net_Send_of.eq_1]
  simp only [nn_some, pt_add, Nat.zero_add, Nat.add_zero, Nat.reduceAdd, Nat.reduceMul, Int.toNat_zero, Int.toNat_one, Nat.zero_mul, Nat.one_mul]
  refine b2s_view V1 ?_
  refine F_net_row_put.is rfl o O fun h O => ?_
  have hl := o.lost
  unfold NS.send at k
  unfold NS.put at O
  refine jn1 (fun z h' => z = decide (¬ n.l.length < n.room) ∧ h' = h) ?_ ?_
  · rintro z h ⟨rfl, rfl⟩
    refine jn0 (fun h' => Sat h0 h' (netR p (if n.l.length < n.room then { n with l := n.l ++ [(t, xs)] } else { n with lost := n.lost + 1 }) :: L)) (fun h O => k h O) fun j hj => ?_
    refine brr_p (fun hp => ?_) (fun hp => ?_)
    · rw [if_neg hp] at O hj
      obtain ⟨s, O⟩ := O.net
      refine O.ld 0 rfl (ldL_c (ldL_n ?_))
      refine O.st 0 rfl (by simp) rfl fun h O => ?_
      dsimp only [V.put, List.set] at O
      rw [wrapu64 (by omega) (by omega)] at O
      exact hj h (Sat.netI (n := { n with lost := n.lost + 1 }) (s := s) O)
    · have hp : n.l.length < n.room := Decidable.not_not.1 hp
      rw [if_pos hp] at O hj
      exact hj h O
  · intro j hj
    by_cases hp : n.l.length < n.room
    · rw [decide_eq_true hp]
      refine brr_ff rfl ?_
      exact hj _ _ ⟨by simp [hp], rfl⟩
    · rw [decide_eq_false hp]
      refine brr_tt rfl ?_
      rw [if_neg hp] at O
      obtain ⟨s, O⟩ := O.net
      refine O.ld 0 rfl (ldL_c (ldL_n ?_))
      refine hj _ _ ⟨decide_eq_decide.2 ⟨fun _ => hp, fun _ => by omega⟩, rfl⟩
theorem F_net_message_told.is {t : Int} {xs : List UInt8} {bs : ByteArray} {Q : Int → Sl → Heap → Prop} (hb : bs = ⟨xs.toArray⟩) (O : Sat h0 h L) (k : ∀ s h', Sat h0 h' (buf 1 u8 s xs :: L) → Q t s h') : F_net_message_told t bs h Q := by
  rw [F_net_message_told.eq_1, F_net_message_told_of.eq_1]
  refine O.al fun a h O => ?_
  refine O.al fun c h O => ?_
  simp only [nn_some, pt_add, Nat.zero_add, Nat.add_zero, Nat.reduceAdd, Nat.reduceMul, Int.toNat_zero, Int.toNat_one, Nat.zero_mul, Nat.one_mul]
  refine O.ld 1 rfl (ldL_c (ldL_n ?_))
  refine O.ld 1 rfl (ldL_c (k := .str) (x := bs) (ldL_n ?_))
  refine O.s2b hb fun s h O => ?_
  have O := O.swap
  refine O.st 0 rfl (by simp) rfl fun h O => ?_
  dsimp only [V.put, List.set] at O
  refine O.ld 0 rfl (ldL_c (ldL_c (k := .sl) (x := s) (ldL_n ?_)))
  exact k s h (O.drop.swap.drop)
theorem NS.has_get {i : Int} (hi : n.has i = true) : 0 ≤ i ∧ i < n.l.length ∧ n.l[i.toNat]? = some (n.at_ i) := by
  have h := of_decide_eq_true hi
  refine ⟨h.1, h.2, ?_⟩
  unfold NS.at_
  rw [if_pos hi, List.getD_eq_getElem?_getD, List.getElem?_eq_getElem (by omega)]
  rfl
theorem F_net_row_Look.is {i : Int} {Q : Int → Sl → Bool → Heap → Prop} (O : Sat h0 h (netR p n :: L)) (k : ∀ s h', Sat h0 h' (buf 1 u8 s (n.at_ i).2 :: netR p n :: L) → Q (n.at_ i).1 s (n.has i) h') : F_net_row_Look (some (pt p 0)) i h Q := by
  rw [F_net_row_Look.eq_1, F_net_row_Look_of.eq_1]
  obtain ⟨s, O⟩ := O.net
  refine O.al fun a h O => ?_
  simp only [nn_some, pt_add, Nat.zero_add, Nat.add_zero, Nat.reduceAdd, Nat.reduceMul, Int.toNat_zero, Int.toNat_one, Nat.zero_mul, Nat.one_mul]
  have hv := (O.view 2 msgE_len (by simp) rfl).1
  have hl := hv.len
  refine jn1 (fun z h' => z = (!n.has i) ∧ h' = h) ?_ ?_
  · rintro z h ⟨rfl, rfl⟩
    cases hh : n.has i with
    | false =>
      refine brr_tt rfl ?_
      refine O.st 0 rfl (by simp) rfl fun h O => ?_
      dsimp only [V.put, List.set] at O
      refine O.ld 0 rfl (ldL_c (ldL_c (k := .sl) (x := (⟨none, 0, 0⟩ : Sl)) (ldL_n ?_)))
      have e : n.at_ i = (0, []) := by unfold NS.at_; rw [hh]; rfl
      rw [e, hh] at k
      exact k _ h (Sat.nil_buf (Sat.netI (s := s) O.drop))
    | true =>
      refine brr_ff rfl ?_
      obtain ⟨h1, h2, h3⟩ := NS.has_get hh
      rw [hh] at k
      generalize n.at_ i = m at *
      refine O.ld 1 rfl (ldL_c (k := .sl) (x := s) (ldL_n ?_))
      refine hv.getP h1 h3 fun c hca => ?_
      refine ld_are (hca hv) (ldL_c (ldL_c (k := .str) (x := (⟨m.2.toArray⟩ : ByteArray)) (ldL_n ?_)))
      refine F_net_message_told.is rfl O fun s2 h O => ?_
      have O := O.swap
      refine O.st 0 rfl (by simp) rfl fun h O => ?_
      dsimp only [V.put, List.set] at O
      refine O.ld 0 rfl (ldL_c (ldL_c (k := .sl) (x := s2) (ldL_n ?_)))
      replace O := O.sel [2, 3, 1] 4 rfl (Nat.le_add_left _ _)
      simp only [selT, List.map, nth, List.drop, List.cons_append, List.nil_append] at O
      exact k s2 h (Sat.swap (Sat.netI (s := s) (O.sel [0, 1, 2] 3 rfl (Nat.le_add_left _ _))) |> fun x => x)
  · intro j hj
    refine brr_p (fun hp => ?_) (fun hp => ?_)
    · refine hj _ _ ⟨?_, rfl⟩
      unfold NS.has
      rw [decide_eq_false (by omega)]; rfl
    · refine O.ld 1 rfl (ldL_c (k := .sl) (x := s) (ldL_n ?_))
      refine hj _ _ ⟨?_, rfl⟩
      unfold NS.has
      rw [hl, ← decide_not]
      exact decide_eq_decide.2 (by omega)
theorem F_slices_Delete_caaac.is {s : Sl} {l : List NM} {i : Int} {Q : Sl → Heap → Prop} (hi0 : 0 ≤ i) (hi1 : i < l.length) (O : Sat h0 h (buf 2 msgE s l :: L)) (k : ∀ s' h', Sat h0 h' (buf 2 msgE s' (l.eraseIdx i.toNat) :: L) → Q s' h') : F_slices_Delete_caaac s i (i + 1) h Q := by
  rw [F_slices_Delete_caaac.eq_1, F_slices_Delete_caaac_of.eq_1]
  obtain ⟨b, kk, sp, rfl, hsp, O⟩ := O.buf_own (by intro e; subst e; simp at hi1; omega)
  obtain ⟨i, rfl⟩ := Int.eq_ofNat_of_zero_le hi0
  simp only [Int.toNat_natCast] at *
  have hi : i < l.length := by omega
  refine ⟨by omega, by omega, by omega, by dsimp only; omega, ?_⟩
  refine brr_eq (fun e => by omega) (fun _ => ?_)
  refine ⟨by omega, by dsimp only; omega, ?_⟩
  refine ⟨by omega, by dsimp only; omega, ?_⟩
  simp only [Int.toNat_natCast, show ((i : Int) + 1).toNat = i + 1 by omega]
  have el : l.flatMap msgE = (l.take i).flatMap msgE ++ (msgE (l[i]) ++ (l.drop (i + 1)).flatMap msgE) := by
    rw [← List.flatMap_cons, ← List.flatMap_append]
    congr 1
    rw [← List.drop_eq_getElem_cons hi, List.take_append_drop]
  have hA : ((l.take i).flatMap msgE).length = i * 2 := by rw [flatMap_len msgE_len, List.length_take, Nat.min_eq_left (by omega)]
  have hR : ((l.drop (i + 1)).flatMap msgE).length = (l.length - (i + 1)) * 2 := by rw [flatMap_len msgE_len, List.length_drop]
  have e1 : l.flatMap msgE ++ sp = (l.take i).flatMap msgE ++ (msgE (l[i]) ++ ((l.drop (i + 1)).flatMap msgE ++ sp)) := by rw [el]; simp only [List.append_assoc]
  have hrd : rdP h (slp 2 ⟨some (pt b 0), l.length, l.length + kk⟩ (i + 1)) ((l.length - (i + 1)) * 2) = some ((l.drop (i + 1)).flatMap msgE) := by
    have B := (O.blk (i := 0) (by simp) rfl).2
    by_cases hz : l.length - (i + 1) = 0
    · have : l.drop (i + 1) = [] := List.drop_eq_nil_of_le (by omega)
      rw [hz, this]
      simp only [slp]
      split <;> rfl
    · unfold slp
      rw [if_neg (by show ¬ l.length + kk = i + 1; omega)]
      show rdL h ((pt b 0).add ((i + 1) * 2)) _ = _
      have h1 := cellsAre_blk B ((i + 1) * 2) ((l.flatMap msgE ++ sp).length)
      have e2 : ((l.flatMap msgE ++ sp).drop ((i + 1) * 2)) = (l.drop (i + 1)).flatMap msgE ++ sp := by
        rw [e1, show (i + 1) * 2 = ((l.take i).flatMap msgE).length + 2 by omega, ← List.drop_drop, List.drop_left]
        rfl
      rw [e2, List.take_of_length_le (by rw [List.length_append, List.length_append, hR]; have := flatMap_len msgE_len l; omega)] at h1
      have h2 := rdL_take ((l.length - (i + 1)) * 2) (by rw [List.length_append, hR]; omega) h1
      rw [← hR, List.take_left, hR] at h2
      rw [pt_add, Nat.zero_add]
      exact h2
  have hm1 : ((l.drop (i + 1)).flatMap msgE).all oneV = true := by simp only [List.all_eq_true, List.mem_flatMap]; rintro v ⟨x, _, hv⟩; exact List.all_eq_true.1 (msgE_one x) v hv
  refine ⟨_, hrd, fun _ => ?_, fun hc => by simp only at hc; omega⟩
  simp only [Option.map_some, stP, pt_add, Nat.zero_add]
  refine O.st 0 rfl (by rw [e1]; simp only [List.length_append, hA, hR]; have : (msgE l[i]).length = 2 := rfl; omega) hm1 fun h O => ?_
  have e3 : V.put (l.flatMap msgE ++ sp) (i * 2) ((l.drop (i + 1)).flatMap msgE) = ((l.eraseIdx i).flatMap msgE ++ ((msgE (l[i]) ++ ((l.drop (i + 1)).flatMap msgE ++ sp)).drop ((l.drop (i + 1)).flatMap msgE).length)) := by
    rw [e1, ← hA, put_app _ _ _ (by simp only [List.length_append]; omega)]
    rw [List.eraseIdx_eq_take_drop_succ, List.flatMap_append]
  have hsl2 : l.length - 1 = i + (l.length - (i + 1)) := by omega
  have he : (l.eraseIdx i).length = l.length - 1 := by rw [List.length_eraseIdx_of_lt hi]
  have O : Sat h0 h (own b ((l.eraseIdx i).flatMap msgE ++ ((msgE (l[i]) ++ ((l.drop (i + 1)).flatMap msgE ++ sp)).drop ((l.drop (i + 1)).flatMap msgE).length)) :: L) := by
    rw [← e3]; exact O
  generalize htl : (msgE (l[i]) ++ ((l.drop (i + 1)).flatMap msgE ++ sp)).drop ((l.drop (i + 1)).flatMap msgE).length = tl at O
  have htll : tl.length = (kk + 1) * 2 := by
    rw [← htl, List.length_drop, List.length_append, List.length_append, hsp]
    have : (msgE l[i]).length = 2 := rfl
    omega
  refine ⟨by omega, by omega, by dsimp only; omega, ?_⟩
  simp only [Int.toNat_natCast]
  have hne : ¬ l.length + kk = i + (l.length - (i + 1)) := by omega
  refine ⟨fun e => by exfalso; simp only at e; omega, fun _ => ?_⟩
  have hone : l.length - (i + (l.length - (i + 1))) = 1 := by omega
  rw [hone]
  unfold slp
  rw [if_neg hne]
  simp only [Option.map_some, stP, pt_add, Nat.zero_add]
  have hz : (Builtin.zeroCells (Value.agg #[.int .i64 0, .string (⟨#[]⟩ : ByteArray)]).cells 1).toList = msgE (0, []) := by simp [Builtin.zeroCells, Value.cells, msgE]; rfl
  rw [hz]
  have hel : ((l.eraseIdx i).flatMap msgE).length = (i + (l.length - (i + 1))) * 2 := by rw [flatMap_len msgE_len, he]; omega
  refine O.st 0 rfl (by rw [List.length_append, hel, htll]; have : (msgE (0, [])).length = 2 := rfl; omega) rfl fun h O => ?_
  rw [← hel, put_app _ _ _ (by rw [htll]; show 2 ≤ _; omega)] at O
  rw [List.append_assoc] at O
  have O := (O.own_buf (k := kk + 1) (sz := 2) (by rw [List.length_append, List.length_drop, htll]; show 2 + _ = _; have : (msgE (0, [])).length = 2 := rfl; omega)).bufsI
  rw [he] at O
  refine k _ h ?_
  rw [show i + (l.length - (i + 1)) = l.length - 1 by omega, show l.length + kk = l.length - 1 + (kk + 1) by omega]
  exact O
theorem F_net_row_Drop.is {i : Int} {Q : Bool → Heap → Prop} (hi : n.l.length ≤ 9223372036854775806) (O : Sat h0 h (netR p n :: L)) (k : ∀ h', Sat h0 h' (netR p (n.drop i) :: L) → Q (n.has i) h') : F_net_row_Drop (some (pt p 0)) i h Q := by
  rw [F_net_row_Drop.eq_1, F_net_row_Drop_of.eq_1]
  simp only [nn_some, pt_add, Nat.zero_add, Nat.add_zero, Nat.reduceAdd, Nat.reduceMul, Int.toNat_zero, Int.toNat_one, Nat.zero_mul, Nat.one_mul]
  obtain ⟨s, O⟩ := O.net
  have hl := (O.view 1 msgE_len (by simp) rfl).1.len
  refine jn1 (fun z h' => z = (!n.has i) ∧ h' = h) ?_ ?_
  · rintro z h ⟨rfl, rfl⟩
    unfold NS.drop at k
    cases hh : n.has i with
    | false =>
      refine brr_tt rfl ?_
      rw [hh] at k
      exact k h (Sat.netI (s := s) O)
    | true =>
      refine brr_ff rfl ?_
      obtain ⟨h1, h2, h3⟩ := NS.has_get hh
      rw [hh] at k
      refine O.ld 0 rfl (ldL_c (k := .sl) (x := s) (ldL_n ?_))
      rw [wrap64 (by omega) (by omega)]
      refine F_slices_Delete_caaac.is h1 h2 O.swap fun s2 h O => ?_
      have O := O.swap
      refine O.st 0 rfl (by simp) rfl fun h O => ?_
      dsimp only [V.put, List.set] at O
      exact k h (Sat.netI (n := { n with l := n.l.eraseIdx i.toNat }) (s := s2) O)
  · intro j hj
    refine brr_p (fun hp => ?_) (fun hp => ?_)
    · refine hj _ _ ⟨?_, rfl⟩
      unfold NS.has
      rw [decide_eq_false (by omega)]; rfl
    · refine O.ld 0 rfl (ldL_c (k := .sl) (x := s) (ldL_n ?_))
      refine hj _ _ ⟨?_, rfl⟩
      unfold NS.has
      rw [hl, ← decide_not]
      exact decide_eq_decide.2 (by omega)
theorem F_net_row_Take.is {i : Int} {Q : Int → Sl → Bool → Heap → Prop} (hi : i ≤ (9223372036854775807 : Int)) (o : n.Ok) (O : Sat h0 h (netR p n :: L)) (k : ∀ s h', Sat h0 h' (buf 1 u8 s (n.at_ i).2 :: netR p (n.drop i) :: L) → Q (n.at_ i).1 s (n.has i) h') : F_net_row_Take (some (pt p 0)) i h Q := by
  rw [F_net_row_Take.eq_1, F_net_row_Take_of.eq_1]
  refine O.al fun a h O => ?_
  refine F_net_row_Look.is O.swap fun s h O => ?_
  refine O.al fun c h O => ?_
  refine O.st 0 rfl (by simp) rfl fun h O => ?_
  dsimp only [V.put, List.set] at O
  refine jn1 (fun z h' => z = n.has i ∧ Sat h0 h' (own a [.int .i64 (n.at_ i).1, .slice s.ptr s.len s.cap] :: buf 1 u8 s (n.at_ i).2 :: netR p (n.drop i) :: L)) ?_ ?_
  · clear O
    rintro z h ⟨rfl, O⟩
    refine O.ld 0 rfl (ldL_c (ldL_c (k := .sl) (x := s) (ldL_n ?_)))
    exact k s h O.drop
  · intro j hj
    refine O.ld 0 rfl (ldL_c (ldL_c (k := .sl) (x := s) (ldL_n ?_)))
    cases hh : n.has i with
    | false =>
      rw [hh] at hj
      refine brr_ff rfl ?_
      replace O := O.sel [3, 1, 2] 4 rfl (Nat.le_add_left _ _)
      simp only [selT, List.map, nth, List.drop, List.cons_append, List.nil_append] at O
      refine O.st 0 rfl (by simp) rfl fun h O => ?_
      dsimp only [V.put, List.set] at O
      have e : n.drop i = n := by unfold NS.drop; rw [hh]; rfl
      rw [e] at hj
      exact hj _ _ ⟨rfl, O⟩
    | true =>
      rw [hh] at hj
      refine brr_tt rfl ?_
      replace O := O.sel [2, 0, 1, 3] 4 rfl (Nat.le_add_left _ _)
      simp only [selT, List.map, nth, List.drop, List.cons_append, List.nil_append] at O
      have h2 := (NS.has_get hh).2.1
      have := o.le; have := o.room
      refine F_net_row_Drop.is (by omega) O fun h O => ?_
      refine ⟨O.cells 1 rfl 0 2, ?_⟩
      replace O := O.sel [3, 2, 0] 4 rfl (Nat.le_add_left _ _)
      simp only [selT, List.map, nth, List.drop, List.cons_append, List.nil_append] at O
      refine O.st 0 rfl (by simp) rfl fun h O => ?_
      dsimp only [V.put, List.set] at O
      exact hj _ _ ⟨hh, O⟩
theorem F_net_row_Double.is {i : Int} {Q : Bool → Heap → Prop} (o : n.Ok) (O : Sat h0 h (netR p n :: L)) (k : ∀ h', Sat h0 h' (netR p (n.double i) :: L) → Q (n.has i && decide (n.l.length < n.room)) h') : F_net_row_Double (some (pt p 0)) i h Q := by
  rw [F_net_row_Double.eq_1, F_net_row_Double_of.eq_1]
  simp only [nn_some, pt_add, Nat.zero_add, Nat.add_zero, Nat.reduceAdd, Nat.reduceMul, Int.toNat_zero, Int.toNat_one, Nat.zero_mul, Nat.one_mul]
  have O0 := O
  obtain ⟨s, O⟩ := O.net
  have hv := (O.view 1 msgE_len (by simp) rfl).1
  have hl := hv.len
  refine jn1 (fun z h' => z = (n.has i && decide (n.l.length < n.room)) ∧ Sat h0 h' (netR p (n.double i) :: L)) ?_ ?_
  · rintro z h ⟨rfl, O⟩
    exact k h O
  · intro j hj
    unfold NS.double at hj
    refine brr_p (fun hp => ?_) (fun hp => ?_)
    · refine O.ld 0 rfl (ldL_c (k := .sl) (x := s) (ldL_n ?_))
      rw [hl]
      refine brr_p (fun hp2 => ?_) (fun hp2 => ?_)
      · have hh : n.has i = true := decide_eq_true ⟨hp, hp2⟩
        obtain ⟨h1, h2, h3⟩ := NS.has_get hh
        rw [hh] at hj
        generalize n.at_ i = m at *
        refine O.ld 0 rfl (ldL_c (k := .sl) (x := s) (ldL_n ?_))
        refine hv.getP h1 h3 fun c hca => ?_
        refine ld_are (hca hv) (ldL_c (ldL_c (k := .str) (x := (⟨m.2.toArray⟩ : ByteArray)) (ldL_n ?_)))
        refine F_net_row_put.is rfl o O0 fun h O => ?_
        exact hj _ _ ⟨by simp, O⟩
      · have hh : n.has i = false := decide_eq_false (by omega)
        rw [hh] at hj
        exact hj _ _ ⟨rfl, O0⟩
    · have hh : n.has i = false := decide_eq_false (by omega)
      rw [hh] at hj
      exact hj _ _ ⟨rfl, O0⟩
end
end Go.Proofs.Ytboidjampddfoaa.V
/- Arrays that are filled one by one; an array at the head of a struct. -/
namespace Go.Proofs.Ytboidjampddfoaa.V
open Go Go.RowKit
set_option linter.unusedVariables false
set_option linter.unusedSimpArgs false
variable {α β : Type}
def optc (o : Option Addr) : List Value := [.pointer o]
theorem optc_len (x : Option Addr) : (optc x).length = 1 := rfl
theorem optc_one (x : Option Addr) : (optc x).all oneV = true := rfl
def natc (x : Nat) : List Value := [.int .i64 (x : Int)]
theorem natc_len (x : Nat) : (natc x).length = 1 := rfl
theorem natc_one (x : Nat) : (natc x).all oneV = true := rfl
theorem set_stage (f : α → β) (xs : List α) (n : Nat) (y : α) (z : β) (h : xs.length < n) : (xs.map f ++ List.replicate (n - xs.length) z).set xs.length (f y) = (xs ++ [y]).map f ++ List.replicate (n - (xs ++ [y]).length) z := by
  obtain ⟨k, hk⟩ : ∃ k, n - xs.length = k + 1 := ⟨n - xs.length - 1, by omega⟩
  have e : n - (xs ++ [y]).length = k := by rw [List.length_append]; simp; omega
  rw [hk, e, List.replicate_succ, List.map_append, List.append_assoc]
  have := List.set_append_right (s := xs.map f) (t := z :: List.replicate k z) xs.length (f y) (by simp)
  rw [this]
  simp
/-- An element of one cell at the head of a block is read, and lies there for as long as the block is kept. -/
theorem Sat.getN {h0 h : Heap} {L : List Res} (O : Sat h0 h L) (j : Nat) {b n : Nat} {enc : α → List Value} {xs : List α} {ys : List Value} {i : Int} {k : Kd} {K : Addr → k.T → Prop} {x : α} (he : ∀ x, (enc x).length = 1) (hj : nth j L = own b (xs.flatMap enc ++ ys)) (h0 : 0 ≤ i) (h1 : i < (n : Int)) (hx : xs[i.toNat]? = some x) (f : α → k.T) (hf : ∀ x, enc x = [k.enc (f x)])
    (kk : ∀ a, (∀ {h0' h' : Heap} {L' : List Res}, Sat h0' h' L' → ∀ j', nth j' L' = own b (xs.flatMap enc ++ ys) → cellsAre h' a (enc x)) → K a (f x)) : ixA 1 (pt b 0) n i fun a => V.ld [k] a h (K a) := by
  have hl := (List.getElem?_eq_some_iff.1 hx).1
  refine ⟨h0, h1, ?_⟩
  have hc : ∀ {h0' h' : Heap} {L' : List Res}, Sat h0' h' L' → ∀ j', nth j' L' = own b (xs.flatMap enc ++ ys) → cellsAre h' ((pt b 0).add (i.toNat * 1)) (enc x) := by
    intro h0' h' L' O' j' hj'
    have V := view_of_blk (k := 0) he (O'.blk (nth_lt hj') hj').2
    obtain ⟨a, cs, h1, _, h3, h4⟩ := V.2 i.toNat x hx
    have e : pt b 0 = a := Option.some.inj h1
    subst e
    have e2 : cs = enc x := h3
    subst e2
    exact h4
  have h1 := hc O j hj
  rw [hf] at h1
  exact ld_are h1 (ldL_c (ldL_n (kk _ hc)))
/-- A lent list is written full. -/
theorem fill_lent {h0 h : Heap} {L : List Res} {s : Sl} {zs : List UInt8} {Q : Heap → Prop} {ii : Nat} (O : Sat h0 h (lent s zs :: L)) (hs : s.len = zs.length) (hz : zs.length ≤ 4611686018427387904) (k : ∀ zs' h', zs'.length = zs.length → Sat h0 h' (lent s zs' :: L) → Q h') :
    wl [(ii, .one (.int .i64))] (fun (next : Int → Heap → Prop) (i : Int) (h : Heap) => brr (decide (i < ((s.len : Nat) : Int))) (ixS 1 s i fun (a : Addr) => st a [.int .u8 238] h fun (h' : Heap) => next (IntKind.i64.wrap (i + 1)) h') (Q h)) 0 h := by
  refine wl1 (k := .int .i64) (fun (m : Nat) (i : Int) (h' : Heap) => 0 ≤ i ∧ i + m = zs.length ∧ ∃ ys : List UInt8, ys.length = zs.length ∧ Sat h0 h' (lent s ys :: L)) ?_ (m := zs.length) ⟨by omega, by omega, zs, rfl, O⟩
  clear O
  intro m (i : Int) h next hn ⟨hi0, him, ys, hy, O⟩
  rw [hs]
  refine brr_p (fun hlt => ?_) (fun hlt => k ys _ hy O)
  refine O.putL hi0 (by omega) 238 rfl fun h O => ?_
  rw [wrap64 (by omega) (by omega)]
  exact hn (m - 1) _ _ (by omega) ⟨by omega, by omega, _, by simp [hy], O⟩
end Go.Proofs.Ytboidjampddfoaa.V
/- Lists of bytes that are kept and never written again. -/
namespace Go.Proofs.Ytboidjampddfoaa.V
open Go Go.RowKit
set_option linter.unusedVariables false
set_option linter.unusedSimpArgs false
abbrev PE := Sl × List UInt8
def inPool (E : Blks) (m : PE) : Prop := (m.1.len = 0 ∧ m.2 = []) ∨ ∃ b cs, (b, cs) ∈ E ∧ m.1.ptr = some (pt b 0) ∧ m.1.len = m.2.length ∧ ∀ (i : Nat) x, m.2[i]? = some x → cs[i]? = some (.int .u8 (x.toNat : Int))
def poolR (ms : List PE) : Res := fun E => ∀ m ∈ ms, inPool E m
theorem pool_sub {h0 h : Heap} {L : List Res} {ms fs : List PE} (O : Sat h0 h (poolR ms :: L)) (s : ∀ e ∈ fs, e ∈ ms) : Sat h0 h (poolR fs :: L) :=
  O.mono fun E k e he => k e (s e he)
theorem pool_none {h0 h : Heap} {L : List Res} (O : Sat h0 h L) : Sat h0 h (poolR [] :: L) := O.empI.mono fun E _ e he => by cases he
theorem pool_view {h0 h : Heap} {L : List Res} (O : Sat h0 h L) (i : Nat) {ms : List PE} {e : PE} (hi : i < L.length) (hn : nth i L = poolR ms) (he : e ∈ ms) : Bytes h e.1 e.2 := by
  obtain ⟨E1, E2, h1, O', _⟩ := O.at i hi
  rw [hn] at h1
  rcases h1 e he with ⟨h2, h3⟩ | ⟨b, cs, hm, hp, hl, ha⟩
  · rw [h3]
    refine ⟨h2, fun j x hj => by simp at hj⟩
  · have B := (O'.blk _ (List.mem_append.2 (.inl hm))).2
    refine ⟨hl, fun j x hj => ⟨pt b 0, u8 x, hp, rfl, rfl, ?_⟩⟩
    have hcell := ha j x hj
    have h2 := cellsAre_blk B j 1
    have e3 : (cs.drop j).take 1 = u8 x := by
      obtain ⟨hlt, e4⟩ := List.getElem?_eq_some_iff.1 hcell
      rw [List.drop_eq_getElem_cons hlt, e4]
      rfl
    rw [e3] at h2
    rw [pt_add, Nat.zero_add, Nat.mul_one]
    exact h2
theorem flat_u8_at : ∀ (l : List UInt8) (i : Nat), (l.flatMap u8)[i]? = (l[i]?).map fun x => Value.int .u8 (x.toNat : Int) := by
  intro l
  induction l with
  | nil => intro i; simp
  | cons x l ih =>
    intro i
    rw [List.flatMap_cons]
    cases i with
    | zero => rfl
    | succ i => exact ih i
/-- A list of one's own is kept from now on. -/
theorem pool_take {h0 h : Heap} {L : List Res} {ms : List PE} {s : Sl} {xs : List UInt8} (O : Sat h0 h (buf 1 u8 s xs :: poolR ms :: L)) : Sat h0 h (poolR (ms ++ [(s, xs)]) :: L) := by
  obtain ⟨sp, O⟩ := O.ex
  obtain ⟨E, ⟨E1, E2, p, hA, F1, F2, p2, k, h2⟩, O'⟩ := O
  rcases hA with ⟨rfl, rfl, _, rfl⟩ | ⟨b, j, rfl, hsp, rfl⟩
  · refine ⟨E, ⟨F1, F2, p.trans p2, fun e he => ?_, h2⟩, O'⟩
    rcases List.mem_append.1 he with he | he
    · exact k e he
    · rw [List.mem_singleton.1 he]; exact .inl ⟨rfl, rfl⟩
  · refine ⟨E, ⟨(b, xs.flatMap u8 ++ sp) :: F1, F2, p.trans (List.Perm.cons _ p2), fun e he => ?_, h2⟩, O'⟩
    rcases List.mem_append.1 he with he | he
    · rcases k e he with h | ⟨b', cs', hm, hp, hl, ha⟩
      · exact .inl h
      · exact .inr ⟨b', cs', List.mem_cons_of_mem _ hm, hp, hl, ha⟩
    · rw [List.mem_singleton.1 he]
      refine .inr ⟨b, _, List.mem_cons_self, rfl, rfl, fun i x hx => ?_⟩
      have hx : xs[i]? = some x := hx
      have hl := flatMap_len u8_len xs
      have hi := (List.getElem?_eq_some_iff.1 hx).1
      rw [List.getElem?_append_left (by omega), flat_u8_at, hx]
      rfl
end Go.Proofs.Ytboidjampddfoaa.V
namespace Go.Proofs.Ytboidjampddfoaa.V
open Go Go.RowKit
set_option linter.unusedVariables false
set_option maxRecDepth 100000
def F_ref6_New_of  (flight1 : Int) (h : Heap) (Q : Option Addr → Int → Heap → Prop) : Prop :=
  jn [(9, .one .bool)] (fun (x3 : Bool) (h4 : Heap) =>
  brr x3
  (Q none 60 h4)
  (al 154 [.slice none 0 0, .int .i64 flight1, .int .u64 0] h4 fun (a5 : Addr) (h6 : Heap) =>
  Q (some a5) 0 h6)) (fun (j2 : Bool → Heap → Prop) =>
  brr (decide (flight1 < 1))
  (j2 true h)
  (j2 (decide (flight1 > 8192)) h))
def F_ref6_New (flight1 : Int) (h : Heap) (Q : Option Addr → Int → Heap → Prop) : Prop := F_ref6_New_of  flight1 h Q
def plan73 : Plan := .s (.r [0]) (.s (.s (.rj [(9, .one .bool)] [0]) (.c (.s (.r [2, 3]) .z) .z)) (.s (.r [2, 3]) .z))
theorem F_ref6_New.eq  (flight1 : Int) (h : Heap) (K : Value → Heap → Prop) : F_ref6_New_of  flight1 h (fun (r0 : Option Addr) (r1 : Int) (h : Heap) => K (.tuple #[.pointer r0, .int .i64 r1]) h) =
    den Try.prog noFns Try.f73.ntmps plan73 (bodyOf Try.f73) (args0 0 [(.int .i64 flight1 : Value)]) h ⟨fun env h => dRes Try.prog Try.f73.results.toList env h K, fun _ _ _ => False, fun env h => dRes Try.prog Try.f73.results.toList env h K⟩ := by kernel_rfl
def E_ref6_New_of (f : Int → Heap → (Option Addr → Int → Heap → Prop) → Prop) : List Value → Heap → (Value → Heap → Prop) → Prop
  | [v0], h, K => dec1 (.int .i64) v0 fun (flight1 : Int) =>
  f flight1 h (fun (r0 : Option Addr) (r1 : Int) (h : Heap) => K (.tuple #[.pointer r0, .int .i64 r1]) h)
  | _, _, _ => False
abbrev E_ref6_New := E_ref6_New_of F_ref6_New
theorem E_ref6_New.right : IsRight Try.prog 73 E_ref6_New := by
  refine isRight fun vs K w hh => ?_
  match vs, hh with
  | [v0], hh =>
    unfold E_ref6_New E_ref6_New_of at hh
    replace hh := dec1_sound hh; obtain ⟨flight1, rfl, hh⟩ := hh
    unfold F_ref6_New at hh
    exact calls_den noFns_right plan73 _ w K Try.func73 (by kernel_rfl) (by kernel_rfl) (Eq.mp (F_ref6_New.eq  flight1 w.heap K) hh)
theorem ok73 : okFn Try.prog 73 = true := by kernel_rfl
end Go.Proofs.Ytboidjampddfoaa.V
namespace Go.Proofs.Ytboidjampddfoaa.V
open Go Go.RowKit
set_option linter.unusedVariables false
set_option maxRecDepth 100000
def F_ref6_Net_Send_of (f85_ : Sl → Heap → (Sl → Heap → Prop) → Prop) (n1 : Option Addr) (to_2 : Int) (b3 : Sl) (h : Heap) (Q : Bool → Heap → Prop) : Prop :=
  nn n1 fun (a4 : Addr) =>
  ld [.sl] (a4.add 0) h fun (v5 : Sl) =>
  nn n1 fun (a6 : Addr) =>
  ld [.int .i64] (a6.add 1) h fun (v7 : Int) =>
  brr (decide (((v5.len : Nat) : Int) ≥ v7))
  (nn n1 fun (a8 : Addr) =>
  ld [.int .u64] (a8.add 2) h fun (v9 : Int) =>
  nn n1 fun (a10 : Addr) =>
  st (a10.add 2) [.int .u64 (IntKind.u64.wrap (v9 + 1))] h fun (h11 : Heap) =>
  Q false h11)
  (nn n1 fun (a12 : Addr) =>
  ld [.sl] (a12.add 0) h fun (v13 : Sl) =>
  f85_ b3 h fun (r14 : Sl) (h15 : Heap) =>
  cellsAre h15 (a12.add 0) [.slice v13.ptr v13.len v13.cap] ∧
  al 63 [.int .i64 to_2, .slice r14.ptr r14.len r14.cap] h15 fun (a16 : Addr) (h17 : Heap) =>
  cellsAre h17 (a12.add 0) [.slice v13.ptr v13.len v13.cap] ∧
  app 63 2 32 (.agg #[.int .i64 0, .slice none 0 0]) v13 (some a16) 1 h17 fun (s18 : Sl) (h19 : Heap) =>
  nn n1 fun (a20 : Addr) =>
  st (a20.add 0) [.slice s18.ptr s18.len s18.cap] h19 fun (h21 : Heap) =>
  Q true h21)
def F_ref6_Net_Send (n1 : Option Addr) (to_2 : Int) (b3 : Sl) (h : Heap) (Q : Bool → Heap → Prop) : Prop := F_ref6_Net_Send_of F_ref0_Copy n1 to_2 b3 h Q
def plan60 : Plan := .s (.r [0, 1, 2]) (.s (.s (.d [0, 1, 3, 7, 15, 0, 32, 96, 224, 511] [[0, 1, 2, 3, 4, 5, 6, 7, 8, 9]] [0, 1, 2, 16]) (.c (.s (.r []) (.s (.r [6]) .z)) .z)) (.s (.d [0, 0, 2, 6, 14, 0, 0, 64, 224, 480, 1022, 2047, 4095, 8191] [[0, 1, 2, 3, 4, 5, 6, 7, 8, 9, 10, 11, 12, 13]] []) (.s (.r [6]) .z)))
theorem F_ref6_Net_Send.eq (f85_ : Sl → Heap → (Sl → Heap → Prop) → Prop) (n1 : Option Addr) (to_2 : Int) (b3 : Sl) (h : Heap) (K : Value → Heap → Prop) : F_ref6_Net_Send_of f85_ n1 to_2 b3 h (fun (r0 : Bool) (h : Heap) => K (.bool r0) h) =
    den Try.prog (fn1 85 (E_ref0_Copy_of f85_) noFns) Try.f60.ntmps plan60 (bodyOf Try.f60) (args0 0 [(.pointer n1 : Value), (.int .i64 to_2 : Value), (.slice b3.ptr b3.len b3.cap : Value)]) h ⟨fun env h => dRes Try.prog Try.f60.results.toList env h K, fun _ _ _ => False, fun env h => dRes Try.prog Try.f60.results.toList env h K⟩ := by kernel_rfl
def E_ref6_Net_Send_of (f : Option Addr → Int → Sl → Heap → (Bool → Heap → Prop) → Prop) : List Value → Heap → (Value → Heap → Prop) → Prop
  | [v0, v1, v2], h, K => dec1 .ptr v0 fun (n1 : Option Addr) =>
  dec1 (.int .i64) v1 fun (to_2 : Int) =>
  dec1 .sl v2 fun (b3 : Sl) =>
  f n1 to_2 b3 h (fun (r0 : Bool) (h : Heap) => K (.bool r0) h)
  | _, _, _ => False
abbrev E_ref6_Net_Send := E_ref6_Net_Send_of F_ref6_Net_Send
theorem E_ref6_Net_Send.right : IsRight Try.prog 60 E_ref6_Net_Send := by
  refine isRight fun vs K w hh => ?_
  match vs, hh with
  | [v0, v1, v2], hh =>
    unfold E_ref6_Net_Send E_ref6_Net_Send_of at hh
    replace hh := dec1_sound hh; obtain ⟨n1, rfl, hh⟩ := hh
    replace hh := dec1_sound hh; obtain ⟨to_2, rfl, hh⟩ := hh
    replace hh := dec1_sound hh; obtain ⟨b3, rfl, hh⟩ := hh
    unfold F_ref6_Net_Send at hh
    exact calls_den (fn1_right ok85 E_ref0_Copy.right noFns_right) plan60 _ w K Try.func60 (by kernel_rfl) (by kernel_rfl) (Eq.mp (F_ref6_Net_Send.eq F_ref0_Copy n1 to_2 b3 w.heap K) hh)
theorem ok60 : okFn Try.prog 60 = true := by kernel_rfl
end Go.Proofs.Ytboidjampddfoaa.V
namespace Go.Proofs.Ytboidjampddfoaa.V
open Go Go.RowKit
set_option linter.unusedVariables false
set_option maxRecDepth 100000
def F_ref6_Net_Lost_of  (n1 : Option Addr) (h : Heap) (Q : Int → Heap → Prop) : Prop :=
  nn n1 fun (a2 : Addr) =>
  ld [.int .u64] (a2.add 2) h fun (v3 : Int) =>
  Q v3 h
def F_ref6_Net_Lost (n1 : Option Addr) (h : Heap) (Q : Int → Heap → Prop) : Prop := F_ref6_Net_Lost_of  n1 h Q
def plan82 : Plan := .s (.r [0]) (.s (.r [2]) .z)
theorem F_ref6_Net_Lost.eq  (n1 : Option Addr) (h : Heap) (K : Value → Heap → Prop) : F_ref6_Net_Lost_of  n1 h (fun (r0 : Int) (h : Heap) => K (.int .u64 r0) h) =
    den Try.prog noFns Try.f82.ntmps plan82 (bodyOf Try.f82) (args0 0 [(.pointer n1 : Value)]) h ⟨fun env h => dRes Try.prog Try.f82.results.toList env h K, fun _ _ _ => False, fun env h => dRes Try.prog Try.f82.results.toList env h K⟩ := by kernel_rfl
def E_ref6_Net_Lost_of (f : Option Addr → Heap → (Int → Heap → Prop) → Prop) : List Value → Heap → (Value → Heap → Prop) → Prop
  | [v0], h, K => dec1 .ptr v0 fun (n1 : Option Addr) =>
  f n1 h (fun (r0 : Int) (h : Heap) => K (.int .u64 r0) h)
  | _, _, _ => False
abbrev E_ref6_Net_Lost := E_ref6_Net_Lost_of F_ref6_Net_Lost
theorem E_ref6_Net_Lost.right : IsRight Try.prog 82 E_ref6_Net_Lost := by
  refine isRight fun vs K w hh => ?_
  match vs, hh with
  | [v0], hh =>
    unfold E_ref6_Net_Lost E_ref6_Net_Lost_of at hh
    replace hh := dec1_sound hh; obtain ⟨n1, rfl, hh⟩ := hh
    unfold F_ref6_Net_Lost at hh
    exact calls_den noFns_right plan82 _ w K Try.func82 (by kernel_rfl) (by kernel_rfl) (Eq.mp (F_ref6_Net_Lost.eq  n1 w.heap K) hh)
theorem ok82 : okFn Try.prog 82 = true := by kernel_rfl
end Go.Proofs.Ytboidjampddfoaa.V
namespace Go.Proofs.Ytboidjampddfoaa.V
open Go Go.RowKit
set_option linter.unusedVariables false
set_option maxRecDepth 100000
def F_ref6_Net_Len_of  (n1 : Option Addr) (h : Heap) (Q : Int → Heap → Prop) : Prop :=
  nn n1 fun (a2 : Addr) =>
  ld [.sl] (a2.add 0) h fun (v3 : Sl) =>
  Q ((v3.len : Nat) : Int) h
def F_ref6_Net_Len (n1 : Option Addr) (h : Heap) (Q : Int → Heap → Prop) : Prop := F_ref6_Net_Len_of  n1 h Q
def plan62 : Plan := .s (.r [0]) (.s (.r [2]) .z)
theorem F_ref6_Net_Len.eq  (n1 : Option Addr) (h : Heap) (K : Value → Heap → Prop) : F_ref6_Net_Len_of  n1 h (fun (r0 : Int) (h : Heap) => K (.int .i64 r0) h) =
    den Try.prog noFns Try.f62.ntmps plan62 (bodyOf Try.f62) (args0 0 [(.pointer n1 : Value)]) h ⟨fun env h => dRes Try.prog Try.f62.results.toList env h K, fun _ _ _ => False, fun env h => dRes Try.prog Try.f62.results.toList env h K⟩ := by kernel_rfl
def E_ref6_Net_Len_of (f : Option Addr → Heap → (Int → Heap → Prop) → Prop) : List Value → Heap → (Value → Heap → Prop) → Prop
  | [v0], h, K => dec1 .ptr v0 fun (n1 : Option Addr) =>
  f n1 h (fun (r0 : Int) (h : Heap) => K (.int .i64 r0) h)
  | _, _, _ => False
abbrev E_ref6_Net_Len := E_ref6_Net_Len_of F_ref6_Net_Len
theorem E_ref6_Net_Len.right : IsRight Try.prog 62 E_ref6_Net_Len := by
  refine isRight fun vs K w hh => ?_
  match vs, hh with
  | [v0], hh =>
    unfold E_ref6_Net_Len E_ref6_Net_Len_of at hh
    replace hh := dec1_sound hh; obtain ⟨n1, rfl, hh⟩ := hh
    unfold F_ref6_Net_Len at hh
    exact calls_den noFns_right plan62 _ w K Try.func62 (by kernel_rfl) (by kernel_rfl) (Eq.mp (F_ref6_Net_Len.eq  n1 w.heap K) hh)
theorem ok62 : okFn Try.prog 62 = true := by kernel_rfl
end Go.Proofs.Ytboidjampddfoaa.V
namespace Go.Proofs.Ytboidjampddfoaa.V
open Go Go.RowKit
set_option linter.unusedVariables false
set_option maxRecDepth 100000
def F_ref6_Twin_of (f85_ : Sl → Heap → (Sl → Heap → Prop) → Prop) (f1 : Int) (f2 : Sl) (h : Heap) (Q : Int → Sl → Heap → Prop) : Prop :=
  al 63 [.int .i64 f1, .slice f2.ptr f2.len f2.cap] h fun (a3 : Addr) (h4 : Heap) =>
  al 63 [.int .i64 0, .slice none 0 0] h4 fun (a5 : Addr) (h6 : Heap) =>
  ld [.int .i64] (a3.add 0) h6 fun (v7 : Int) =>
  ld [.sl] (a3.add 1) h6 fun (v8 : Sl) =>
  f85_ v8 h6 fun (r9 : Sl) (h10 : Heap) =>
  cellsAre h10 (a3.add 0) [.int .i64 v7] ∧
  st a5 [.int .i64 v7, .slice r9.ptr r9.len r9.cap] h10 fun (h11 : Heap) =>
  ld [.int .i64, .sl] a5 h11 fun (v12 : Int) (v13 : Sl) =>
  Q v12 v13 h11
def F_ref6_Twin (f1 : Int) (f2 : Sl) (h : Heap) (Q : Int → Sl → Heap → Prop) : Prop := F_ref6_Twin_of F_ref0_Copy f1 f2 h Q
def plan94 : Plan := .s (.r [1, 2]) (.s (.d [0, 1, 0, 4, 12, 31, 63] [[0, 1, 2, 3, 4, 5, 6]] [2]) .z)
theorem F_ref6_Twin.eq (f85_ : Sl → Heap → (Sl → Heap → Prop) → Prop) (f1 : Int) (f2 : Sl) (h : Heap) (K : Value → Heap → Prop) : F_ref6_Twin_of f85_ f1 f2 h (fun (r0 : Int) (r1 : Sl) (h : Heap) => K (.agg #[.int .i64 r0, .slice r1.ptr r1.len r1.cap]) h) =
    den Try.prog (fn1 85 (E_ref0_Copy_of f85_) noFns) Try.f94.ntmps plan94 (bodyOf Try.f94) (args0 0 [(.agg #[.int .i64 f1, .slice f2.ptr f2.len f2.cap] : Value)]) h ⟨fun env h => dRes Try.prog Try.f94.results.toList env h K, fun _ _ _ => False, fun env h => dRes Try.prog Try.f94.results.toList env h K⟩ := by kernel_rfl
def E_ref6_Twin_of (f : Int → Sl → Heap → (Int → Sl → Heap → Prop) → Prop) : List Value → Heap → (Value → Heap → Prop) → Prop
  | [v0], h, K => vAgg v0 fun cs0 => decs [.int .i64, .sl] cs0.toList fun (f1 : Int) (f2 : Sl) =>
  f f1 f2 h (fun (r0 : Int) (r1 : Sl) (h : Heap) => K (.agg #[.int .i64 r0, .slice r1.ptr r1.len r1.cap]) h)
  | _, _, _ => False
abbrev E_ref6_Twin := E_ref6_Twin_of F_ref6_Twin
theorem E_ref6_Twin.right : IsRight Try.prog 94 E_ref6_Twin := by
  refine isRight fun vs K w hh => ?_
  match vs, hh with
  | [v0], hh =>
    unfold E_ref6_Twin E_ref6_Twin_of at hh
    replace hh := vAgg_sound hh; obtain ⟨cs0, rfl, hh⟩ := hh
    replace hh := decs_cons hh; obtain ⟨f1, l0_0, e0_0, hh⟩ := hh
    replace hh := decs_cons hh; obtain ⟨f2, l0_1, e0_1, hh⟩ := hh
    replace hh := decs_nil hh; obtain ⟨rfl, hh⟩ := hh
    subst e0_1
    have ec0 := toArray_eq e0_0
    subst ec0
    unfold F_ref6_Twin at hh
    exact calls_den (fn1_right ok85 E_ref0_Copy.right noFns_right) plan94 _ w K Try.func94 (by kernel_rfl) (by kernel_rfl) (Eq.mp (F_ref6_Twin.eq F_ref0_Copy f1 f2 w.heap K) hh)
theorem ok94 : okFn Try.prog 94 = true := by kernel_rfl
end Go.Proofs.Ytboidjampddfoaa.V
namespace Go.Proofs.Ytboidjampddfoaa.V
open Go Go.RowKit
set_option linter.unusedVariables false
set_option maxRecDepth 100000
def F_ref6_Net_Look_of (f94_ : Int → Sl → Heap → (Int → Sl → Heap → Prop) → Prop) (n1 : Option Addr) (i2 : Int) (h : Heap) (Q : Int → Sl → Bool → Heap → Prop) : Prop :=
  al 63 [.int .i64 0, .slice none 0 0] h fun (a3 : Addr) (h4 : Heap) =>
  jn [(16, .one .bool)] (fun (x8 : Bool) (h9 : Heap) =>
  brr x8
  (st a3 [.int .i64 0, .slice none 0 0] h9 fun (h10 : Heap) =>
  ld [.int .i64, .sl] a3 h10 fun (v11 : Int) (v12 : Sl) =>
  Q v11 v12 false h10)
  (nn n1 fun (a13 : Addr) =>
  ld [.sl] (a13.add 0) h9 fun (v14 : Sl) =>
  ixS 2 v14 i2 fun (a15 : Addr) =>
  ld [.int .i64, .sl] a15 h9 fun (v16 : Int) (v17 : Sl) =>
  f94_ v16 v17 h9 fun (r18 : Int) (r19 : Sl) (h20 : Heap) =>
  st a3 [.int .i64 r18, .slice r19.ptr r19.len r19.cap] h20 fun (h21 : Heap) =>
  ld [.int .i64, .sl] a3 h21 fun (v22 : Int) (v23 : Sl) =>
  Q v22 v23 true h21)) (fun (j5 : Bool → Heap → Prop) =>
  brr (decide (i2 < 0))
  (j5 true h4)
  (nn n1 fun (a6 : Addr) =>
  ld [.sl] (a6.add 0) h4 fun (v7 : Sl) =>
  j5 (decide (i2 ≥ ((v7.len : Nat) : Int))) h4))
def F_ref6_Net_Look (n1 : Option Addr) (i2 : Int) (h : Heap) (Q : Int → Sl → Bool → Heap → Prop) : Prop := F_ref6_Net_Look_of F_ref6_Twin n1 i2 h Q
def plan77 : Plan := .s (.r [0, 1, 4]) (.s (.s (.rj [(16, .one .bool)] [0, 1, 4]) (.c (.s (.r [4, 5]) .z) .z)) (.s (.r [4, 5]) .z))
theorem F_ref6_Net_Look.eq (f94_ : Int → Sl → Heap → (Int → Sl → Heap → Prop) → Prop) (n1 : Option Addr) (i2 : Int) (h : Heap) (K : Value → Heap → Prop) : F_ref6_Net_Look_of f94_ n1 i2 h (fun (r0 : Int) (r1 : Sl) (r2 : Bool) (h : Heap) => K (.tuple #[.agg #[.int .i64 r0, .slice r1.ptr r1.len r1.cap], .bool r2]) h) =
    den Try.prog (fn1 94 (E_ref6_Twin_of f94_) noFns) Try.f77.ntmps plan77 (bodyOf Try.f77) (args0 0 [(.pointer n1 : Value), (.int .i64 i2 : Value)]) h ⟨fun env h => dRes Try.prog Try.f77.results.toList env h K, fun _ _ _ => False, fun env h => dRes Try.prog Try.f77.results.toList env h K⟩ := by kernel_rfl
def E_ref6_Net_Look_of (f : Option Addr → Int → Heap → (Int → Sl → Bool → Heap → Prop) → Prop) : List Value → Heap → (Value → Heap → Prop) → Prop
  | [v0, v1], h, K => dec1 .ptr v0 fun (n1 : Option Addr) =>
  dec1 (.int .i64) v1 fun (i2 : Int) =>
  f n1 i2 h (fun (r0 : Int) (r1 : Sl) (r2 : Bool) (h : Heap) => K (.tuple #[.agg #[.int .i64 r0, .slice r1.ptr r1.len r1.cap], .bool r2]) h)
  | _, _, _ => False
abbrev E_ref6_Net_Look := E_ref6_Net_Look_of F_ref6_Net_Look
theorem E_ref6_Net_Look.right : IsRight Try.prog 77 E_ref6_Net_Look := by
  refine isRight fun vs K w hh => ?_
  match vs, hh with
  | [v0, v1], hh =>
    unfold E_ref6_Net_Look E_ref6_Net_Look_of at hh
    replace hh := dec1_sound hh; obtain ⟨n1, rfl, hh⟩ := hh
    replace hh := dec1_sound hh; obtain ⟨i2, rfl, hh⟩ := hh
    unfold F_ref6_Net_Look at hh
    exact calls_den (fn1_right ok94 E_ref6_Twin.right noFns_right) plan77 _ w K Try.func77 (by kernel_rfl) (by kernel_rfl) (Eq.mp (F_ref6_Net_Look.eq F_ref6_Twin n1 i2 w.heap K) hh)
theorem ok77 : okFn Try.prog 77 = true := by kernel_rfl
end Go.Proofs.Ytboidjampddfoaa.V
namespace Go.Proofs.Ytboidjampddfoaa.V
open Go Go.RowKit
set_option linter.unusedVariables false
set_option maxRecDepth 100000
def F_ref6_Net_Drop.l1 (n1 : Option Addr) (i2 : Int) (j8 : Sl → Heap → Prop) : Sl → Int → Heap → Prop :=
  wl [(5, .one .sl), (6, .one (.int .i64))] (fun (next9 : Sl → Int → Heap → Prop) (l10 : Sl) (k11 : Int) (h12 : Heap) =>
  nn n1 fun (a13 : Addr) =>
  ld [.sl] (a13.add 0) h12 fun (v14 : Sl) =>
  brr (decide (k11 < ((v14.len : Nat) : Int)))
  (jn [(5, .one .sl)] (fun (l25 : Sl) (h26 : Heap) =>
  next9 l25 (IntKind.i64.wrap (k11 + 1)) h26) (fun (j15 : Sl → Heap → Prop) =>
  brr (k11 != i2)
  (nn n1 fun (a16 : Addr) =>
  ld [.sl] (a16.add 0) h12 fun (v17 : Sl) =>
  ixS 2 v17 k11 fun (a18 : Addr) =>
  ld [.int .i64, .sl] a18 h12 fun (v19 : Int) (v20 : Sl) =>
  al 63 [.int .i64 v19, .slice v20.ptr v20.len v20.cap] h12 fun (a21 : Addr) (h22 : Heap) =>
  app 63 2 32 (.agg #[.int .i64 0, .slice none 0 0]) l10 (some a21) 1 h22 fun (s23 : Sl) (h24 : Heap) =>
  j15 s23 h24)
  (j15 l10 h12)))
  (j8 l10 h12))
def F_ref6_Net_Drop_of  (n1 : Option Addr) (i2 : Int) (h : Heap) (Q : Bool → Heap → Prop) : Prop :=
  jn [(17, .one .bool)] (fun (x6 : Bool) (h7 : Heap) =>
  brr x6
  (Q false h7)
  (jn [(5, .one .sl)] (fun (l27 : Sl) (h28 : Heap) =>
  nn n1 fun (a29 : Addr) =>
  st (a29.add 0) [.slice l27.ptr l27.len l27.cap] h28 fun (h30 : Heap) =>
  Q true h30) (fun (j8 : Sl → Heap → Prop) =>
  F_ref6_Net_Drop.l1 n1 i2 j8 (⟨none, 0, 0⟩ : Sl) 0 h7))) (fun (j3 : Bool → Heap → Prop) =>
  brr (decide (i2 < 0))
  (j3 true h)
  (nn n1 fun (a4 : Addr) =>
  ld [.sl] (a4.add 0) h fun (v5 : Sl) =>
  j3 (decide (i2 ≥ ((v5.len : Nat) : Int))) h))
def F_ref6_Net_Drop (n1 : Option Addr) (i2 : Int) (h : Heap) (Q : Bool → Heap → Prop) : Prop := F_ref6_Net_Drop_of  n1 i2 h Q
def plan80 : Plan := .s (.r [0, 1]) (.s (.s (.rj [(17, .one .bool)] [0, 1]) (.c (.s (.r [4]) .z) .z)) (.s (.r [0, 1, 5]) (.s (.s (.r [0, 1, 5, 6]) (.bj [(5, .one .sl)] [0] (.l [(5, .one .sl), (6, .one (.int .i64))] [0, 1] (.s (.s (.r [0, 1, 5, 6, 24]) (.c .z .z)) (.s (.b (.s (.r [0, 1, 5, 6, 29]) (.cj [(5, .one .sl)] [0, 1, 6] (.r [0, 1, 5, 6]) .z))) (.r [0, 1, 5, 6])))))) (.s (.r []) (.s (.r [4]) .z)))))
theorem F_ref6_Net_Drop.eq  (n1 : Option Addr) (i2 : Int) (h : Heap) (K : Value → Heap → Prop) : F_ref6_Net_Drop_of  n1 i2 h (fun (r0 : Bool) (h : Heap) => K (.bool r0) h) =
    den Try.prog noFns Try.f80.ntmps plan80 (bodyOf Try.f80) (args0 0 [(.pointer n1 : Value), (.int .i64 i2 : Value)]) h ⟨fun env h => dRes Try.prog Try.f80.results.toList env h K, fun _ _ _ => False, fun env h => dRes Try.prog Try.f80.results.toList env h K⟩ := by kernel_rfl
def E_ref6_Net_Drop_of (f : Option Addr → Int → Heap → (Bool → Heap → Prop) → Prop) : List Value → Heap → (Value → Heap → Prop) → Prop
  | [v0, v1], h, K => dec1 .ptr v0 fun (n1 : Option Addr) =>
  dec1 (.int .i64) v1 fun (i2 : Int) =>
  f n1 i2 h (fun (r0 : Bool) (h : Heap) => K (.bool r0) h)
  | _, _, _ => False
abbrev E_ref6_Net_Drop := E_ref6_Net_Drop_of F_ref6_Net_Drop
theorem E_ref6_Net_Drop.right : IsRight Try.prog 80 E_ref6_Net_Drop := by
  refine isRight fun vs K w hh => ?_
  match vs, hh with
  | [v0, v1], hh =>
    unfold E_ref6_Net_Drop E_ref6_Net_Drop_of at hh
    replace hh := dec1_sound hh; obtain ⟨n1, rfl, hh⟩ := hh
    replace hh := dec1_sound hh; obtain ⟨i2, rfl, hh⟩ := hh
    unfold F_ref6_Net_Drop at hh
    exact calls_den noFns_right plan80 _ w K Try.func80 (by kernel_rfl) (by kernel_rfl) (Eq.mp (F_ref6_Net_Drop.eq  n1 i2 w.heap K) hh)
theorem ok80 : okFn Try.prog 80 = true := by kernel_rfl
end Go.Proofs.Ytboidjampddfoaa.V
namespace Go.Proofs.Ytboidjampddfoaa.V
open Go Go.RowKit
set_option linter.unusedVariables false
set_option maxRecDepth 100000
def F_ref6_Net_Take_of (f77_ : Option Addr → Int → Heap → (Int → Sl → Bool → Heap → Prop) → Prop) (f80_ : Option Addr → Int → Heap → (Bool → Heap → Prop) → Prop) (n1 : Option Addr) (i2 : Int) (h : Heap) (Q : Int → Sl → Bool → Heap → Prop) : Prop :=
  al 63 [.int .i64 0, .slice none 0 0] h fun (a3 : Addr) (h4 : Heap) =>
  f77_ n1 i2 h4 fun (r5 : Int) (r6 : Sl) (r7 : Bool) (h8 : Heap) =>
  al 63 [.int .i64 0, .slice none 0 0] h8 fun (a9 : Addr) (h10 : Heap) =>
  st a9 [.int .i64 r5, .slice r6.ptr r6.len r6.cap] h10 fun (h11 : Heap) =>
  f80_ n1 i2 h11 fun (r12 : Bool) (h13 : Heap) =>
  ld [.int .i64, .sl] a9 h13 fun (v14 : Int) (v15 : Sl) =>
  st a3 [.int .i64 v14, .slice v15.ptr v15.len v15.cap] h13 fun (h16 : Heap) =>
  ld [.int .i64, .sl] a3 h16 fun (v17 : Int) (v18 : Sl) =>
  Q v17 v18 r7 h16
def F_ref6_Net_Take (n1 : Option Addr) (i2 : Int) (h : Heap) (Q : Int → Sl → Bool → Heap → Prop) : Prop := F_ref6_Net_Take_of F_ref6_Net_Look F_ref6_Net_Drop n1 i2 h Q
def plan79 : Plan := .s (.r [0, 1, 4]) (.s (.r [0, 1, 4, 6, 7]) (.s (.r [4, 6, 7]) (.s (.r [4, 5]) .z)))
theorem F_ref6_Net_Take.eq (f77_ : Option Addr → Int → Heap → (Int → Sl → Bool → Heap → Prop) → Prop) (f80_ : Option Addr → Int → Heap → (Bool → Heap → Prop) → Prop) (n1 : Option Addr) (i2 : Int) (h : Heap) (K : Value → Heap → Prop) : F_ref6_Net_Take_of f77_ f80_ n1 i2 h (fun (r0 : Int) (r1 : Sl) (r2 : Bool) (h : Heap) => K (.tuple #[.agg #[.int .i64 r0, .slice r1.ptr r1.len r1.cap], .bool r2]) h) =
    den Try.prog (fn1 77 (E_ref6_Net_Look_of f77_) (fn1 80 (E_ref6_Net_Drop_of f80_) noFns)) Try.f79.ntmps plan79 (bodyOf Try.f79) (args0 0 [(.pointer n1 : Value), (.int .i64 i2 : Value)]) h ⟨fun env h => dRes Try.prog Try.f79.results.toList env h K, fun _ _ _ => False, fun env h => dRes Try.prog Try.f79.results.toList env h K⟩ := by kernel_rfl
def E_ref6_Net_Take_of (f : Option Addr → Int → Heap → (Int → Sl → Bool → Heap → Prop) → Prop) : List Value → Heap → (Value → Heap → Prop) → Prop
  | [v0, v1], h, K => dec1 .ptr v0 fun (n1 : Option Addr) =>
  dec1 (.int .i64) v1 fun (i2 : Int) =>
  f n1 i2 h (fun (r0 : Int) (r1 : Sl) (r2 : Bool) (h : Heap) => K (.tuple #[.agg #[.int .i64 r0, .slice r1.ptr r1.len r1.cap], .bool r2]) h)
  | _, _, _ => False
abbrev E_ref6_Net_Take := E_ref6_Net_Take_of F_ref6_Net_Take
theorem E_ref6_Net_Take.right : IsRight Try.prog 79 E_ref6_Net_Take := by
  refine isRight fun vs K w hh => ?_
  match vs, hh with
  | [v0, v1], hh =>
    unfold E_ref6_Net_Take E_ref6_Net_Take_of at hh
    replace hh := dec1_sound hh; obtain ⟨n1, rfl, hh⟩ := hh
    replace hh := dec1_sound hh; obtain ⟨i2, rfl, hh⟩ := hh
    unfold F_ref6_Net_Take at hh
    exact calls_den (fn1_right ok77 E_ref6_Net_Look.right (fn1_right ok80 E_ref6_Net_Drop.right noFns_right)) plan79 _ w K Try.func79 (by kernel_rfl) (by kernel_rfl) (Eq.mp (F_ref6_Net_Take.eq F_ref6_Net_Look F_ref6_Net_Drop n1 i2 w.heap K) hh)
theorem ok79 : okFn Try.prog 79 = true := by kernel_rfl
end Go.Proofs.Ytboidjampddfoaa.V
namespace Go.Proofs.Ytboidjampddfoaa.V
open Go Go.RowKit
set_option linter.unusedVariables false
set_option maxRecDepth 100000
def F_ref6_Net_Double_of (f94_ : Int → Sl → Heap → (Int → Sl → Heap → Prop) → Prop) (n1 : Option Addr) (i2 : Int) (h : Heap) (Q : Bool → Heap → Prop) : Prop :=
  jn [(27, .one .bool)] (fun (x10 : Bool) (h11 : Heap) =>
  brr x10
  (Q false h11)
  (nn n1 fun (a12 : Addr) =>
  ld [.sl] (a12.add 0) h11 fun (v13 : Sl) =>
  nn n1 fun (a14 : Addr) =>
  ld [.sl] (a14.add 0) h11 fun (v15 : Sl) =>
  ixS 2 v15 i2 fun (a16 : Addr) =>
  ld [.int .i64, .sl] a16 h11 fun (v17 : Int) (v18 : Sl) =>
  f94_ v17 v18 h11 fun (r19 : Int) (r20 : Sl) (h21 : Heap) =>
  cellsAre h21 (a12.add 0) [.slice v13.ptr v13.len v13.cap] ∧
  al 63 [.int .i64 r19, .slice r20.ptr r20.len r20.cap] h21 fun (a22 : Addr) (h23 : Heap) =>
  cellsAre h23 (a12.add 0) [.slice v13.ptr v13.len v13.cap] ∧
  app 63 2 32 (.agg #[.int .i64 0, .slice none 0 0]) v13 (some a22) 1 h23 fun (s24 : Sl) (h25 : Heap) =>
  nn n1 fun (a26 : Addr) =>
  st (a26.add 0) [.slice s24.ptr s24.len s24.cap] h25 fun (h27 : Heap) =>
  Q true h27)) (fun (j3 : Bool → Heap → Prop) =>
  brr (decide (i2 < 0))
  (j3 true h)
  (nn n1 fun (a4 : Addr) =>
  ld [.sl] (a4.add 0) h fun (v5 : Sl) =>
  brr (decide (i2 ≥ ((v5.len : Nat) : Int)))
  (j3 true h)
  (nn n1 fun (a6 : Addr) =>
  ld [.sl] (a6.add 0) h fun (v7 : Sl) =>
  nn n1 fun (a8 : Addr) =>
  ld [.int .i64] (a8.add 1) h fun (v9 : Int) =>
  j3 (decide (((v7.len : Nat) : Int) ≥ v9)) h)))
def F_ref6_Net_Double (n1 : Option Addr) (i2 : Int) (h : Heap) (Q : Bool → Heap → Prop) : Prop := F_ref6_Net_Double_of F_ref6_Twin n1 i2 h Q
def plan81 : Plan := .s (.r [0, 1]) (.s (.s (.dj [0, 1, 3, 7, 7, 23, 55, 119, 247, 511, 1023, 2047, 4095, 8191, 16383, 32767, 65535, 4095, 135167, 397311, 921599, 2097151, 4194303] [[0, 1, 2, 3, 4, 5, 6, 7, 8, 9, 10, 11, 12, 13, 14, 15, 16, 17, 18, 19, 20, 21, 22]] [(27, .one .bool)] [0, 1]) (.c (.s (.r [4]) .z) .z)) (.s (.d [0, 0, 2, 6, 14, 0, 32, 96, 224, 0, 992, 2016, 4064, 8160, 16382, 32767, 65535, 131071] [[0, 1, 2, 3, 4, 5, 6, 7, 8, 9, 10, 11, 12, 13, 14, 15, 16, 17]] []) (.s (.r [4]) .z)))
theorem F_ref6_Net_Double.eq (f94_ : Int → Sl → Heap → (Int → Sl → Heap → Prop) → Prop) (n1 : Option Addr) (i2 : Int) (h : Heap) (K : Value → Heap → Prop) : F_ref6_Net_Double_of f94_ n1 i2 h (fun (r0 : Bool) (h : Heap) => K (.bool r0) h) =
    den Try.prog (fn1 94 (E_ref6_Twin_of f94_) noFns) Try.f81.ntmps plan81 (bodyOf Try.f81) (args0 0 [(.pointer n1 : Value), (.int .i64 i2 : Value)]) h ⟨fun env h => dRes Try.prog Try.f81.results.toList env h K, fun _ _ _ => False, fun env h => dRes Try.prog Try.f81.results.toList env h K⟩ := by kernel_rfl
def E_ref6_Net_Double_of (f : Option Addr → Int → Heap → (Bool → Heap → Prop) → Prop) : List Value → Heap → (Value → Heap → Prop) → Prop
  | [v0, v1], h, K => dec1 .ptr v0 fun (n1 : Option Addr) =>
  dec1 (.int .i64) v1 fun (i2 : Int) =>
  f n1 i2 h (fun (r0 : Bool) (h : Heap) => K (.bool r0) h)
  | _, _, _ => False
abbrev E_ref6_Net_Double := E_ref6_Net_Double_of F_ref6_Net_Double
theorem E_ref6_Net_Double.right : IsRight Try.prog 81 E_ref6_Net_Double := by
  refine isRight fun vs K w hh => ?_
  match vs, hh with
  | [v0, v1], hh =>
    unfold E_ref6_Net_Double E_ref6_Net_Double_of at hh
    replace hh := dec1_sound hh; obtain ⟨n1, rfl, hh⟩ := hh
    replace hh := dec1_sound hh; obtain ⟨i2, rfl, hh⟩ := hh
    unfold F_ref6_Net_Double at hh
    exact calls_den (fn1_right ok94 E_ref6_Twin.right noFns_right) plan81 _ w K Try.func81 (by kernel_rfl) (by kernel_rfl) (Eq.mp (F_ref6_Net_Double.eq F_ref6_Twin n1 i2 w.heap K) hh)
theorem ok81 : okFn Try.prog 81 = true := by kernel_rfl
end Go.Proofs.Ytboidjampddfoaa.V
/- The document's net. -/
namespace Go.Proofs.Ytboidjampddfoaa.V
open Go Go.RowKit
set_option linter.unusedVariables false
set_option linter.unusedSimpArgs false
abbrev RM := NM × Sl
def flE (m : Int × Sl) : List Value := [.int .i64 m.1, .slice m.2.ptr m.2.len m.2.cap]
theorem flE_len (m : Int × Sl) : (flE m).length = 2 := rfl
theorem flE_one (m : Int × Sl) : (flE m).all oneV = true := rfl
def rmF (x : RM) : Int × Sl := (x.1.1, x.2)
def rmP (x : RM) : PE := (x.2, x.1.2)
def rnR (p : Nat) (n : NS) : Res := ex fun x : Sl × List RM => pr (x.2.map (·.1) = n.l) (sep (own p [.slice x.1.ptr x.1.len x.1.cap, .int .i64 (n.room : Int), .int .u64 (n.lost : Int)]) (sep (buf 2 flE x.1 (x.2.map rmF)) (poolR (x.2.map rmP))))
theorem Sat.rn {h0 h : Heap} {L : List Res} {p : Nat} {n : NS} (O : Sat h0 h (rnR p n :: L)) : ∃ (s : Sl) (rs : List RM), rs.map (·.1) = n.l ∧ Sat h0 h (own p [.slice s.ptr s.len s.cap, .int .i64 (n.room : Int), .int .u64 (n.lost : Int)] :: buf 2 flE s (rs.map rmF) :: poolR (rs.map rmP) :: L) := by
  obtain ⟨⟨s, rs⟩, O⟩ := O.ex
  obtain ⟨e, O⟩ := O.pr
  exact ⟨s, rs, e, O.sep.swap.sep.sel [2, 0, 1] 3 rfl (Nat.le_add_left _ _)⟩
theorem Sat.rnI {h0 h : Heap} {L : List Res} {p : Nat} {n : NS} {s : Sl} {rs : List RM} (e : rs.map (·.1) = n.l) (O : Sat h0 h (own p [.slice s.ptr s.len s.cap, .int .i64 (n.room : Int), .int .u64 (n.lost : Int)] :: buf 2 flE s (rs.map rmF) :: poolR (rs.map rmP) :: L)) : Sat h0 h (rnR p n :: L) := by
  have O := (O.sel [1, 2, 0] 3 rfl (Nat.le_add_left _ _)).sepI
  exact (Sat.prI e (O.swap.sepI)).exI (s, rs)
section
variable {h0 h : Heap} {L : List Res} {p : Nat} {n : NS}
theorem F_ref6_New.is {f : Int} {Q : Option Addr → Int → Heap → Prop} (O : Sat h0 h L) (k1 : ¬ (1 ≤ f ∧ f ≤ 8192) → Q none 60 h) (k2 : 1 ≤ f → f ≤ 8192 → ∀ p h', Sat h0 h' (rnR p ⟨[], f.toNat, 0⟩ :: L) → Q (some (pt p 0)) 0 h') : F_ref6_New f h Q := by
  rw [F_ref6_New.eq_1, F_ref6_New_of.eq_1]
  refine jn1 (fun t h' => t = decide (¬ (1 ≤ f ∧ f ≤ 8192)) ∧ h' = h) ?_ ?_
  · rintro t h ⟨rfl, rfl⟩
    refine brr_p (fun hp => k1 hp) (fun hp => ?_)
    have hp : 1 ≤ f ∧ f ≤ 8192 := Decidable.not_not.1 hp
    refine O.al fun p h O => ?_
    have O := (pool_none O)
    have O := (O.nil_buf (sz := 2) (enc := flE))
    replace O := O.sel [2, 0, 1] 3 rfl (Nat.le_add_left _ _)
    simp only [selT, List.map, nth, List.drop, List.cons_append, List.nil_append] at O
    refine k2 hp.1 hp.2 p h (Sat.rnI (s := ⟨none, 0, 0⟩) (rs := []) rfl ?_)
    rw [show ((f.toNat : Nat) : Int) = f by omega]
    exact O
  · intro j hj
    refine brr_p (fun hp => ?_) (fun hp => ?_)
    · exact hj _ _ ⟨by rw [decide_eq_true]; omega, rfl⟩
    · exact hj _ _ ⟨decide_eq_decide.2 (by omega), rfl⟩
theorem F_ref6_Net_Len.is {Q : Int → Heap → Prop} (O : Sat h0 h (rnR p n :: L)) (k : Q (n.l.length : Nat) h) : F_ref6_Net_Len (some (pt p 0)) h Q := by
  rw [F_ref6_Net_Len.eq_1, F_ref6_Net_Len_of.eq_1]
  simp only [nn_some, pt_add, Nat.zero_add, Nat.add_zero, Nat.reduceAdd, Nat.reduceMul, Int.toNat_zero, Int.toNat_one, Nat.zero_mul, Nat.one_mul]
  obtain ⟨s, rs, e, O⟩ := O.rn
  refine O.ld 0 rfl (ldL_c (k := .sl) (x := s) (ldL_n ?_))
  have el : rs.length = n.l.length := by rw [← e, List.length_map]
  rw [(O.view 1 flE_len (by simp) rfl).1.len, List.length_map, el]
  exact k
theorem F_ref6_Net_Lost.is {Q : Int → Heap → Prop} (O : Sat h0 h (rnR p n :: L)) (k : Q (n.lost : Nat) h) : F_ref6_Net_Lost (some (pt p 0)) h Q := by
  rw [F_ref6_Net_Lost.eq_1, F_ref6_Net_Lost_of.eq_1]
  simp only [nn_some, pt_add, Nat.zero_add, Nat.add_zero, Nat.reduceAdd, Nat.reduceMul, Int.toNat_zero, Int.toNat_one, Nat.zero_mul, Nat.one_mul]
  obtain ⟨s, rs, e, O⟩ := O.rn
  refine O.ld 0 rfl (ldL_c (ldL_n ?_))
  exact k
theorem F_ref6_Twin.is {t : Int} {a : Sl} {xs : List UInt8} {Q : Int → Sl → Heap → Prop} (V1 : Stays h0 L fun h => Bytes h a xs) (hl : xs.length ≤ 281474976710656) (O : Sat h0 h L) (k : ∀ s h', Sat h0 h' (buf 1 u8 s xs :: L) → Q t s h') : F_ref6_Twin t a h Q := by
  rw [F_ref6_Twin.eq_1, F_ref6_Twin_of.eq_1]
  refine O.al fun c h O => ?_
  refine O.al fun d h O => ?_
  simp only [nn_some, pt_add, Nat.zero_add, Nat.add_zero, Nat.reduceAdd, Nat.reduceMul, Int.toNat_zero, Int.toNat_one, Nat.zero_mul, Nat.one_mul]
  refine O.ld 1 rfl (ldL_c (ldL_n ?_))
  refine O.ld 1 rfl (ldL_c (k := .sl) (x := a) (ldL_n ?_))
  refine F_ref0_Copy.is O (V1 h O.drop.drop) hl fun s h O _ _ => ?_
  refine ⟨O.cells 2 rfl 0 1, ?_⟩
  have O := O.swap
  refine O.st 0 rfl (by simp) rfl fun h O => ?_
  dsimp only [V.put, List.set] at O
  refine O.ld 0 rfl (ldL_c (ldL_c (k := .sl) (x := s) (ldL_n ?_)))
  exact k s h (O.drop.swap.drop)
theorem rm_at {rs : List RM} {n : NS} (e : rs.map (·.1) = n.l) {i : Int} (hi : n.has i = true) : ∃ x, rs[i.toNat]? = some x ∧ x.1 = n.at_ i ∧ 0 ≤ i ∧ i.toNat < rs.length := by
  obtain ⟨h1, h2, h3⟩ := NS.has_get hi
  rw [← e, List.getElem?_map] at h3
  cases hx : rs[i.toNat]? with
  | none => rw [hx] at h3; cases h3
  | some x =>
    rw [hx] at h3
    exact ⟨x, rfl, Option.some.inj h3, h1, (List.getElem?_eq_some_iff.1 hx).1⟩
/-- No message is longer than this. -/
def NS.Short (n : NS) : Prop := ∀ m ∈ n.l, m.2.length ≤ 281474976710656
theorem F_ref6_Net_Look.is {i : Int} {Q : Int → Sl → Bool → Heap → Prop} (sh : n.Short) (O : Sat h0 h (rnR p n :: L)) (k : ∀ s h', Sat h0 h' (buf 1 u8 s (n.at_ i).2 :: rnR p n :: L) → Q (n.at_ i).1 s (n.has i) h') : F_ref6_Net_Look (some (pt p 0)) i h Q := by
  rw [F_ref6_Net_Look.eq_1, F_ref6_Net_Look_of.eq_1]
  obtain ⟨s, rs, e, O⟩ := O.rn
  refine O.al fun a h O => ?_
  simp only [nn_some, pt_add, Nat.zero_add, Nat.add_zero, Nat.reduceAdd, Nat.reduceMul, Int.toNat_zero, Int.toNat_one, Nat.zero_mul, Nat.one_mul]
  have hv := (O.view 2 flE_len (by simp) rfl).1
  have hl := hv.len
  have el : rs.length = n.l.length := by rw [← e, List.length_map]
  rw [List.length_map] at hl
  refine jn1 (fun z h' => z = (!n.has i) ∧ h' = h) ?_ ?_
  · rintro z h ⟨rfl, rfl⟩
    cases hh : n.has i with
    | false =>
      refine brr_tt rfl ?_
      refine O.st 0 rfl (by simp) rfl fun h O => ?_
      dsimp only [V.put, List.set] at O
      refine O.ld 0 rfl (ldL_c (ldL_c (k := .sl) (x := (⟨none, 0, 0⟩ : Sl)) (ldL_n ?_)))
      have e2 : n.at_ i = (0, []) := by unfold NS.at_; rw [hh]; rfl
      rw [e2, hh] at k
      exact k _ h (Sat.nil_buf (Sat.rnI e O.drop))
    | true =>
      refine brr_ff rfl ?_
      obtain ⟨x, hx, hxe, hi0, hil⟩ := rm_at e hh
      rw [hh] at k
      refine O.ld 1 rfl (ldL_c (k := .sl) (x := s) (ldL_n ?_))
      refine hv.getP (x := rmF x) hi0 (by rw [List.getElem?_map, hx]; rfl) fun c hca => ?_
      refine ld_are (hca hv) (ldL_c (ldL_c (k := .sl) (x := x.2) (ldL_n ?_)))
      have hxm := List.mem_of_getElem? hx
      have hsx : x.1.2.length ≤ 281474976710656 := sh x.1 (by rw [← e]; exact List.mem_map.2 ⟨x, hxm, rfl⟩)
      refine F_ref6_Twin.is (xs := x.1.2) (fun h O => pool_view O 3 (by simp) rfl (List.mem_map.2 ⟨x, hxm, rfl⟩)) hsx O fun s2 h O => ?_
      have O := O.swap
      refine O.st 0 rfl (by simp) rfl fun h O => ?_
      dsimp only [V.put, List.set] at O
      refine O.ld 0 rfl (ldL_c (ldL_c (k := .sl) (x := s2) (ldL_n ?_)))
      replace O := O.sel [2, 3, 4, 1] 5 rfl (Nat.le_add_left _ _)
      simp only [selT, List.map, nth, List.drop, List.cons_append, List.nil_append] at O
      have O := Sat.rnI e O
      rw [← hxe] at k
      exact k s2 h O.swap
  · intro j hj
    refine brr_p (fun hp => ?_) (fun hp => ?_)
    · refine hj _ _ ⟨?_, rfl⟩
      unfold NS.has
      rw [decide_eq_false (by omega)]; rfl
    · refine O.ld 1 rfl (ldL_c (k := .sl) (x := s) (ldL_n ?_))
      refine hj _ _ ⟨?_, rfl⟩
      unfold NS.has
      rw [hl, ← decide_not]
      exact decide_eq_decide.2 (by omega)
end
end Go.Proofs.Ytboidjampddfoaa.V
/- The document's net: sending, dropping, taking, doubling. -/
namespace Go.Proofs.Ytboidjampddfoaa.V
open Go Go.RowKit
set_option linter.unusedVariables false
set_option linter.unusedSimpArgs false
section
variable {h0 h : Heap} {L : List Res} {p : Nat} {n : NS}
theorem F_ref6_Net_Send.is {t : Int} {b : Sl} {xs : List UInt8} {Q : Bool → Heap → Prop} (o : n.Ok) (V1 : Stays h0 L fun h => Bytes h b xs) (hxs : xs.length ≤ 281474976710656) (O : Sat h0 h (rnR p n :: L)) (k : ∀ h', Sat h0 h' (rnR p (n.send (t, xs)) :: L) → Q (decide (n.l.length < n.room)) h') : F_ref6_Net_Send (some (pt p 0)) t b h Q := by
  rw [F_ref6_Net_Send.eq_1, F_ref6_Net_Send_of.eq_1]
  simp only [nn_some, pt_add, Nat.zero_add, Nat.add_zero, Nat.reduceAdd, Nat.reduceMul, Int.toNat_zero, Int.toNat_one, Nat.zero_mul, Nat.one_mul]
  have h1 := o.le; have h2 := o.room; have h3 := o.lost
  obtain ⟨s, rs, e, O⟩ := O.rn
  have el : rs.length = n.l.length := by rw [← e, List.length_map]
  have hl := (O.view 1 flE_len (by simp) rfl).1.len
  rw [List.length_map] at hl
  unfold NS.send at k
  refine O.ld 0 rfl (ldL_c (k := .sl) (x := s) (ldL_n ?_))
  refine O.ld 0 rfl (ldL_c (ldL_n ?_))
  rw [hl]
  refine brr_p (fun hp => ?_) (fun hp => ?_)
  · rw [decide_eq_false (by omega), if_neg (by omega)] at k
    refine O.ld 0 rfl (ldL_c (ldL_n ?_))
    refine O.st 0 rfl (by simp) rfl fun h O => ?_
    dsimp only [V.put, List.set] at O
    rw [wrapu64 (by omega) (by omega)] at O
    exact k h (Sat.rnI (n := { n with lost := n.lost + 1 }) e O)
  · rw [decide_eq_true (by omega), if_pos (by omega)] at k
    refine O.ld 0 rfl (ldL_c (k := .sl) (x := s) (ldL_n ?_))
    refine F_ref0_Copy.is O (V1 h O.drop.drop.drop) hxs fun t2 h O _ _ => ?_
    refine ⟨O.cells 1 rfl 0 1, ?_⟩
    refine O.al fun c h O => ?_
    refine ⟨O.cells 2 rfl 0 1, ?_⟩
    have hr := rdP_own O 0 rfl 2 (by simp)
    replace O := O.sel [3, 0, 2, 1, 4] 5 rfl (Nat.le_add_left _ _)
    simp only [selT, List.map, nth, List.drop, List.cons_append, List.nil_append] at O
    refine O.app_buf flE_len flE_one rfl (ys := [(t, t2)]) rfl hr (by rw [List.length_map]; simp only [List.length_cons, List.length_nil]; omega) fun s2 h O _ => ?_
    replace O := O.sel [2, 0, 3, 4] 5 rfl (Nat.le_add_left _ _)
    simp only [selT, List.map, nth, List.drop, List.cons_append, List.nil_append] at O
    refine O.st 0 rfl (by simp) rfl fun h O => ?_
    dsimp only [V.put, List.set] at O
    have O := pool_take (O.sel [2, 3, 0, 1] 4 rfl (Nat.le_add_left _ _))
    have e1 : rs.map rmF ++ [(t, t2)] = (rs ++ [((t, xs), t2)]).map rmF := by simp [rmF]
    have e2 : rs.map rmP ++ [(t2, xs)] = (rs ++ [((t, xs), t2)]).map rmP := by simp [rmP]
    rw [e2] at O
    have O := O.sel [1, 2, 0] 3 rfl (Nat.le_add_left _ _)
    simp only [selT, List.map, nth, List.drop, List.cons_append, List.nil_append] at O
    rw [e1] at O
    exact k h (Sat.rnI (n := { n with l := n.l ++ [(t, xs)] }) (by show (rs ++ [((t, xs), t2)]).map (·.1) = n.l ++ [(t, xs)]; simp [e]) O)
theorem eraseIdx_take_succ {α : Type} {xs : List α} {k i : Nat} {x : α} (hx : xs[k]? = some x) : (xs.take (k + 1)).eraseIdx i = if k = i then (xs.take k).eraseIdx i else (xs.take k).eraseIdx i ++ [x] := by
  have hk := (List.getElem?_eq_some_iff.1 hx).1
  rw [take_succ_eq hx]
  have hlt : (xs.take k).length = k := by rw [List.length_take]; omega
  by_cases e : k = i
  · subst e
    have e2 : (xs.take k).eraseIdx k = xs.take k := List.eraseIdx_of_length_le (by omega)
    rw [if_pos rfl, List.eraseIdx_append_of_length_le (by omega), hlt, Nat.sub_self, e2]
    simp
  · rw [if_neg e]
    rcases Nat.lt_or_ge i k with h | h
    · rw [List.eraseIdx_append_of_lt_length (by omega)]
    · rw [List.eraseIdx_of_length_le (by rw [List.length_append, hlt, List.length_singleton]; omega), List.eraseIdx_of_length_le (by omega)]
theorem F_ref6_Net_Drop.is {i : Int} {Q : Bool → Heap → Prop} (o : n.Ok) (O : Sat h0 h (rnR p n :: L)) (k : ∀ h', Sat h0 h' (rnR p (n.drop i) :: L) → Q (n.has i) h') : F_ref6_Net_Drop (some (pt p 0)) i h Q := by
  rw [F_ref6_Net_Drop.eq_1, F_ref6_Net_Drop_of.eq_1]
  simp only [nn_some, pt_add, Nat.zero_add, Nat.add_zero, Nat.reduceAdd, Nat.reduceMul, Int.toNat_zero, Int.toNat_one, Nat.zero_mul, Nat.one_mul]
  have h1 := o.le; have h2 := o.room
  obtain ⟨s, rs, e, O⟩ := O.rn
  have el : rs.length = n.l.length := by rw [← e, List.length_map]
  have hl := (O.view 1 flE_len (by simp) rfl).1.len
  rw [List.length_map] at hl
  refine jn1 (fun z h' => z = (!n.has i) ∧ h' = h) ?_ ?_
  case refine_2 =>
    intro j hj
    refine brr_p (fun hp => ?_) (fun hp => ?_)
    · refine hj _ _ ⟨?_, rfl⟩
      unfold NS.has
      rw [decide_eq_false (by omega)]; rfl
    · refine O.ld 0 rfl (ldL_c (k := .sl) (x := s) (ldL_n ?_))
      refine hj _ _ ⟨?_, rfl⟩
      unfold NS.has
      rw [hl, ← decide_not]
      exact decide_eq_decide.2 (by omega)
  rintro z h ⟨rfl, rfl⟩
  unfold NS.drop at k
  cases hh : n.has i with
  | false =>
    refine brr_tt rfl ?_
    rw [hh] at k
    exact k h (Sat.rnI e O)
  | true =>
    refine brr_ff rfl ?_
    obtain ⟨x, hx, hxe, hi0, hil⟩ := rm_at e hh
    rw [hh] at k
    obtain ⟨i, rfl⟩ := Int.eq_ofNat_of_zero_le hi0
    rw [Int.toNat_natCast] at hil k
    refine jn1 (fun (s2 : Sl) h' => Sat h0 h' (buf 2 flE s2 ((rs.eraseIdx i).map rmF) :: own p [.slice s.ptr s.len s.cap, .int .i64 (n.room : Int), .int .u64 (n.lost : Int)] :: buf 2 flE s (rs.map rmF) :: poolR (rs.map rmP) :: L)) ?_ ?_
    · clear O
      intro (s2 : Sl) h O
      replace O := O.sel [1, 0, 3] 4 rfl (Nat.le_add_left _ _)
      simp only [selT, List.map, nth, List.drop, List.cons_append, List.nil_append] at O
      refine O.st 0 rfl (by simp) rfl fun h O => ?_
      dsimp only [V.put, List.set] at O
      have O2 := O.sel [2, 0, 1] 3 rfl (Nat.le_add_left _ _)
      have O3 := pool_sub (fs := (rs.eraseIdx i).map rmP) O2 (fun m hm => by
        obtain ⟨y, hy, rfl⟩ := List.mem_map.1 hm
        exact List.mem_map.2 ⟨y, List.mem_of_mem_eraseIdx hy, rfl⟩)
      have O4 := O3.sel [1, 2, 0] 3 rfl (Nat.le_add_left _ _)
      refine k h (Sat.rnI (n := { n with l := n.l.eraseIdx i }) (rs := rs.eraseIdx i) ?_ O4)
      show (rs.eraseIdx i).map (·.1) = n.l.eraseIdx i
      rw [← e, List.eraseIdx_eq_take_drop_succ, List.eraseIdx_eq_take_drop_succ, List.map_append, List.map_take, List.map_drop]
    · intro j hj
      rw [F_ref6_Net_Drop.l1.eq_1]
      simp only [nn_some, pt_add, Nat.zero_add, Nat.add_zero, Nat.reduceAdd, Nat.reduceMul, Int.toNat_zero, Int.toNat_one, Nat.zero_mul, Nat.one_mul]
      have O := O.nil_buf (sz := 2) (enc := flE)
      refine wl2 (k := .sl) (l := .int .i64) (fun (m : Nat) (s2 : Sl) (kk : Int) (h' : Heap) => 0 ≤ kk ∧ kk + m = rs.length ∧ Sat h0 h' (buf 2 flE s2 (((rs.take kk.toNat).eraseIdx i).map rmF) :: own p [.slice s.ptr s.len s.cap, .int .i64 (n.room : Int), .int .u64 (n.lost : Int)] :: buf 2 flE s (rs.map rmF) :: poolR (rs.map rmP) :: L)) ?_ (m := rs.length) ⟨by omega, by omega, by simpa using O⟩
      clear O
      rintro m (s2 : Sl) (kk : Int) h next hn ⟨hk0, hkm, O⟩
      obtain ⟨kk, rfl⟩ := Int.eq_ofNat_of_zero_le hk0
      rw [Int.toNat_natCast] at O
      refine O.ld 1 rfl (ldL_c (k := .sl) (x := s) (ldL_n ?_))
      rw [hl]
      refine brr_p (fun hlt => ?_) (fun hlt => ?_)
      case refine_2 =>
        rw [List.take_of_length_le (by omega)] at O
        exact hj _ _ O
      obtain ⟨y, hy⟩ : ∃ y, rs[kk]? = some y := ⟨_, List.getElem?_eq_getElem (by omega)⟩
      have es := eraseIdx_take_succ (i := i) hy
      refine jn1 (fun (s2 : Sl) h' => Sat h0 h' (buf 2 flE s2 (((rs.take (kk + 1)).eraseIdx i).map rmF) :: own p [.slice s.ptr s.len s.cap, .int .i64 (n.room : Int), .int .u64 (n.lost : Int)] :: buf 2 flE s (rs.map rmF) :: poolR (rs.map rmP) :: L)) ?_ ?_
      · clear O
        intro (s2 : Sl) h O
        rw [wrap64 (by omega) (by omega)]
        refine hn (m - 1) _ _ _ (by omega) ⟨by omega, by omega, ?_⟩
        rw [show ((kk : Int) + 1).toNat = kk + 1 by omega]
        exact O
      · intro j2 hj2
        rw [es] at hj2
        refine brr_ne (fun hne => ?_) (fun heq => ?_)
        · rw [if_neg (by omega)] at hj2
          refine O.ld 1 rfl (ldL_c (k := .sl) (x := s) (ldL_n ?_))
          have hv := (O.view 2 flE_len (by simp) rfl).1
          refine hv.getP (x := rmF y) (by omega) (by rw [Int.toNat_natCast, List.getElem?_map, hy]; rfl) fun c hca => ?_
          refine ld_are (hca hv) (ldL_c (ldL_c (k := .sl) (x := y.2) (ldL_n ?_)))
          refine O.push_buf (rmF y) rfl flE_len flE_one rfl (by rw [List.length_map]; have : ((rs.take kk).eraseIdx i).length ≤ (rs.take kk).length := List.length_eraseIdx_le ..; rw [List.length_take] at this; omega) fun s3 h O _ => ?_
          rw [List.map_append] at hj2
          exact hj2 _ _ O
        · rw [if_pos (by omega)] at hj2
          exact hj2 _ _ O
end
end Go.Proofs.Ytboidjampddfoaa.V
/- The document's net: taking and doubling. -/
namespace Go.Proofs.Ytboidjampddfoaa.V
open Go Go.RowKit
set_option linter.unusedVariables false
set_option linter.unusedSimpArgs false
section
variable {h0 h : Heap} {L : List Res} {p : Nat} {n : NS}
theorem F_ref6_Net_Take.is {i : Int} {Q : Int → Sl → Bool → Heap → Prop} (o : n.Ok) (sh : n.Short) (O : Sat h0 h (rnR p n :: L)) (k : ∀ s h', Sat h0 h' (buf 1 u8 s (n.at_ i).2 :: rnR p (n.drop i) :: L) → Q (n.at_ i).1 s (n.has i) h') : F_ref6_Net_Take (some (pt p 0)) i h Q := by
  rw [F_ref6_Net_Take.eq_1, F_ref6_Net_Take_of.eq_1]
  refine O.al fun a h O => ?_
  refine F_ref6_Net_Look.is sh O.swap fun s h O => ?_
  refine O.al fun c h O => ?_
  refine O.st 0 rfl (by simp) rfl fun h O => ?_
  dsimp only [V.put, List.set] at O
  replace O := O.sel [2, 0, 1, 3] 4 rfl (Nat.le_add_left _ _)
  simp only [selT, List.map, nth, List.drop, List.cons_append, List.nil_append] at O
  refine F_ref6_Net_Drop.is o O fun h O => ?_
  refine O.ld 1 rfl (ldL_c (ldL_c (k := .sl) (x := s) (ldL_n ?_)))
  replace O := O.sel [3, 2, 0] 4 rfl (Nat.le_add_left _ _)
  simp only [selT, List.map, nth, List.drop, List.cons_append, List.nil_append] at O
  refine O.st 0 rfl (by simp) rfl fun h O => ?_
  dsimp only [V.put, List.set] at O
  refine O.ld 0 rfl (ldL_c (ldL_c (k := .sl) (x := s) (ldL_n ?_)))
  exact k s h O.drop
theorem F_ref6_Net_Double.is {i : Int} {Q : Bool → Heap → Prop} (o : n.Ok) (sh : n.Short) (O : Sat h0 h (rnR p n :: L)) (k : ∀ h', Sat h0 h' (rnR p (n.double i) :: L) → Q (n.has i && decide (n.l.length < n.room)) h') : F_ref6_Net_Double (some (pt p 0)) i h Q := by
  rw [F_ref6_Net_Double.eq_1, F_ref6_Net_Double_of.eq_1]
  simp only [nn_some, pt_add, Nat.zero_add, Nat.add_zero, Nat.reduceAdd, Nat.reduceMul, Int.toNat_zero, Int.toNat_one, Nat.zero_mul, Nat.one_mul]
  have h1 := o.le; have h2 := o.room; have h3 := o.lost
  have O0 := O
  obtain ⟨s, rs, e, O⟩ := O.rn
  have el : rs.length = n.l.length := by rw [← e, List.length_map]
  have hl := (O.view 1 flE_len (by simp) rfl).1.len
  rw [List.length_map] at hl
  refine jn1 (fun z h' => z = !(n.has i && decide (n.l.length < n.room)) ∧ h' = h) ?_ ?_
  case refine_2 =>
    intro j hj
    refine brr_p (fun hp => ?_) (fun hp => ?_)
    · refine hj _ _ ⟨?_, rfl⟩
      unfold NS.has
      rw [decide_eq_false (by omega)]; rfl
    · refine O.ld 0 rfl (ldL_c (k := .sl) (x := s) (ldL_n ?_))
      rw [hl]
      refine brr_p (fun hp2 => ?_) (fun hp2 => ?_)
      · refine hj _ _ ⟨?_, rfl⟩
        unfold NS.has
        rw [decide_eq_false (by omega)]; rfl
      · refine O.ld 0 rfl (ldL_c (k := .sl) (x := s) (ldL_n ?_))
        refine O.ld 0 rfl (ldL_c (ldL_n ?_))
        refine hj _ _ ⟨?_, rfl⟩
        unfold NS.has
        have hd : decide (0 ≤ i ∧ i < (n.l.length : Int)) = true := decide_eq_true ⟨by omega, by omega⟩
        rw [hl, hd, Bool.true_and, ← decide_not]
        exact decide_eq_decide.2 (by omega)
  rintro z h ⟨rfl, rfl⟩
  unfold NS.double at k
  cases hh : n.has i with
  | false =>
    rw [hh] at k
    refine brr_tt rfl ?_
    exact k h O0
  | true =>
    rw [hh] at k
    simp only [Bool.true_and, if_true] at k ⊢
    unfold NS.put at k
    by_cases hr : n.l.length < n.room
    · rw [decide_eq_true hr] at k ⊢
      rw [if_pos hr] at k
      refine brr_ff rfl ?_
      obtain ⟨x, hx, hxe, hi0, hil⟩ := rm_at e hh
      rw [← hxe] at k
      have hxm := List.mem_of_getElem? hx
      have hsx : x.1.2.length ≤ 281474976710656 := sh x.1 (by rw [← e]; exact List.mem_map.2 ⟨x, hxm, rfl⟩)
      have hv := (O.view 1 flE_len (by simp) rfl).1
      refine O.ld 0 rfl (ldL_c (k := .sl) (x := s) (ldL_n ?_))
      refine O.ld 0 rfl (ldL_c (k := .sl) (x := s) (ldL_n ?_))
      refine hv.getP (x := rmF x) hi0 (by rw [List.getElem?_map, hx]; rfl) fun c hca => ?_
      refine ld_are (hca hv) (ldL_c (ldL_c (k := .sl) (x := x.2) (ldL_n ?_)))
      refine F_ref6_Twin.is (xs := x.1.2) (fun h O => pool_view O 2 (by simp) rfl (List.mem_map.2 ⟨x, hxm, rfl⟩)) hsx O fun t2 h O => ?_
      refine ⟨O.cells 1 rfl 0 1, ?_⟩
      refine O.al fun c h O => ?_
      refine ⟨O.cells 2 rfl 0 1, ?_⟩
      have hr2 := rdP_own O 0 rfl 2 (by simp)
      replace O := O.sel [3, 0, 2, 1, 4] 5 rfl (Nat.le_add_left _ _)
      simp only [selT, List.map, nth, List.drop, List.cons_append, List.nil_append] at O
      refine O.app_buf flE_len flE_one rfl (ys := [(x.1.1, t2)]) rfl hr2 (by rw [List.length_map]; simp only [List.length_cons, List.length_nil]; omega) fun s2 h O _ => ?_
      replace O := O.sel [2, 0, 3, 4] 5 rfl (Nat.le_add_left _ _)
      simp only [selT, List.map, nth, List.drop, List.cons_append, List.nil_append] at O
      refine O.st 0 rfl (by simp) rfl fun h O => ?_
      dsimp only [V.put, List.set] at O
      have O := pool_take (O.sel [2, 3, 0, 1] 4 rfl (Nat.le_add_left _ _))
      have e1 : rs.map rmF ++ [(x.1.1, t2)] = (rs ++ [(x.1, t2)]).map rmF := by simp [rmF]
      have e2 : rs.map rmP ++ [(t2, x.1.2)] = (rs ++ [(x.1, t2)]).map rmP := by simp [rmP]
      rw [e2] at O
      have O := O.sel [1, 2, 0] 3 rfl (Nat.le_add_left _ _)
      simp only [selT, List.map, nth, List.drop, List.cons_append, List.nil_append] at O
      rw [e1] at O
      exact k h (Sat.rnI (n := { n with l := n.l ++ [x.1] }) (by show (rs ++ [(x.1, t2)]).map (·.1) = n.l ++ [x.1]; simp [e]) O)
    · rw [decide_eq_false hr] at k ⊢
      rw [if_neg hr] at k
      refine brr_tt rfl ?_
      exact k h O0
end
end Go.Proofs.Ytboidjampddfoaa.V
namespace Go.Proofs.Ytboidjampddfoaa.V
open Go Go.RowKit
set_option linter.unusedVariables false
set_option maxRecDepth 100000
def F_law6_into_of  (n1 m2 : Int) (h : Heap) (Q : Int → Heap → Prop) : Prop :=
  m2 ≠ 0 ∧
  jn [(5, .one (.int .i64))] (fun (k4 : Int) (h5 : Heap) =>
  Q k4 h5) (fun (j3 : Int → Heap → Prop) =>
  brr (decide ((n1.tmod m2) < 0))
  (j3 (IntKind.i64.wrap ((n1.tmod m2) + m2)) h)
  (j3 (n1.tmod m2) h))
def F_law6_into (n1 m2 : Int) (h : Heap) (Q : Int → Heap → Prop) : Prop := F_law6_into_of  n1 m2 h Q
def plan20 : Plan := .s (.r [0, 1]) (.s (.r [1, 5]) (.s (.s (.r [1, 5, 10]) (.cj [(5, .one (.int .i64))] [] (.r [5]) .z)) (.s (.r [4]) .z)))
theorem F_law6_into.eq  (n1 m2 : Int) (h : Heap) (K : Value → Heap → Prop) : F_law6_into_of  n1 m2 h (fun (r0 : Int) (h : Heap) => K (.int .i64 r0) h) =
    den Try.prog noFns Try.f20.ntmps plan20 (bodyOf Try.f20) (args0 0 [(.int .i64 n1 : Value), (.int .i64 m2 : Value)]) h ⟨fun env h => dRes Try.prog Try.f20.results.toList env h K, fun _ _ _ => False, fun env h => dRes Try.prog Try.f20.results.toList env h K⟩ := by kernel_rfl
def E_law6_into_of (f : Int → Int → Heap → (Int → Heap → Prop) → Prop) : List Value → Heap → (Value → Heap → Prop) → Prop
  | [v0, v1], h, K => dec1 (.int .i64) v0 fun (n1 : Int) =>
  dec1 (.int .i64) v1 fun (m2 : Int) =>
  f n1 m2 h (fun (r0 : Int) (h : Heap) => K (.int .i64 r0) h)
  | _, _, _ => False
abbrev E_law6_into := E_law6_into_of F_law6_into
theorem E_law6_into.right : IsRight Try.prog 20 E_law6_into := by
  refine isRight fun vs K w hh => ?_
  match vs, hh with
  | [v0, v1], hh =>
    unfold E_law6_into E_law6_into_of at hh
    replace hh := dec1_sound hh; obtain ⟨n1, rfl, hh⟩ := hh
    replace hh := dec1_sound hh; obtain ⟨m2, rfl, hh⟩ := hh
    unfold F_law6_into at hh
    exact calls_den noFns_right plan20 _ w K Try.func20 (by kernel_rfl) (by kernel_rfl) (Eq.mp (F_law6_into.eq  n1 m2 w.heap K) hh)
theorem ok20 : okFn Try.prog 20 = true := by kernel_rfl
end Go.Proofs.Ytboidjampddfoaa.V
namespace Go.Proofs.Ytboidjampddfoaa.V
open Go Go.RowKit
set_option linter.unusedVariables false
set_option maxRecDepth 100000
def F_law6_num_of  (e1 : Int) (h : Heap) (Q : Int → Heap → Prop) : Prop :=
  Q e1 h
def F_law6_num (e1 : Int) (h : Heap) (Q : Int → Heap → Prop) : Prop := F_law6_num_of  e1 h Q
def plan22 : Plan := .s (.r [0]) (.s (.r [2]) .z)
theorem F_law6_num.eq  (e1 : Int) (h : Heap) (K : Value → Heap → Prop) : F_law6_num_of  e1 h (fun (r0 : Int) (h : Heap) => K (.int .i64 r0) h) =
    den Try.prog noFns Try.f22.ntmps plan22 (bodyOf Try.f22) (args0 0 [(.int .i64 e1 : Value)]) h ⟨fun env h => dRes Try.prog Try.f22.results.toList env h K, fun _ _ _ => False, fun env h => dRes Try.prog Try.f22.results.toList env h K⟩ := by kernel_rfl
def E_law6_num_of (f : Int → Heap → (Int → Heap → Prop) → Prop) : List Value → Heap → (Value → Heap → Prop) → Prop
  | [v0], h, K => dec1 (.int .i64) v0 fun (e1 : Int) =>
  f e1 h (fun (r0 : Int) (h : Heap) => K (.int .i64 r0) h)
  | _, _, _ => False
abbrev E_law6_num := E_law6_num_of F_law6_num
theorem E_law6_num.right : IsRight Try.prog 22 E_law6_num := by
  refine isRight fun vs K w hh => ?_
  match vs, hh with
  | [v0], hh =>
    unfold E_law6_num E_law6_num_of at hh
    replace hh := dec1_sound hh; obtain ⟨e1, rfl, hh⟩ := hh
    unfold F_law6_num at hh
    exact calls_den noFns_right plan22 _ w K Try.func22 (by kernel_rfl) (by kernel_rfl) (Eq.mp (F_law6_num.eq  e1 w.heap K) hh)
theorem ok22 : okFn Try.prog 22 = true := by kernel_rfl
end Go.Proofs.Ytboidjampddfoaa.V
namespace Go.Proofs.Ytboidjampddfoaa.V
open Go Go.RowKit
set_option linter.unusedVariables false
set_option maxRecDepth 100000
def F_law6_same_of (f88_ : Sl → Sl → Heap → (Bool → Heap → Prop) → Prop) (a1 : Int) (a2 : Sl) (b3 : Int) (b4 : Sl) (h : Heap) (Q : Bool → Heap → Prop) : Prop :=
  al 63 [.int .i64 a1, .slice a2.ptr a2.len a2.cap] h fun (a5 : Addr) (h6 : Heap) =>
  al 63 [.int .i64 b3, .slice b4.ptr b4.len b4.cap] h6 fun (a7 : Addr) (h8 : Heap) =>
  jn [(4, .one .bool)] (fun (x16 : Bool) (h17 : Heap) =>
  Q x16 h17) (fun (j9 : Bool → Heap → Prop) =>
  ld [.int .i64] (a5.add 0) h8 fun (v10 : Int) =>
  ld [.int .i64] (a7.add 0) h8 fun (v11 : Int) =>
  brr (v10 == v11)
  (ld [.sl] (a5.add 1) h8 fun (v12 : Sl) =>
  ld [.sl] (a7.add 1) h8 fun (v13 : Sl) =>
  f88_ v12 v13 h8 fun (r14 : Bool) (h15 : Heap) =>
  j9 r14 h15)
  (j9 false h8))
def F_law6_same (a1 : Int) (a2 : Sl) (b3 : Int) (b4 : Sl) (h : Heap) (Q : Bool → Heap → Prop) : Prop := F_law6_same_of F_ref0_Eq a1 a2 b3 b4 h Q
def plan64 : Plan := .s (.r [2, 3]) (.s (.rj [(4, .one .bool)] []) .z)
theorem F_law6_same.eq (f88_ : Sl → Sl → Heap → (Bool → Heap → Prop) → Prop) (a1 : Int) (a2 : Sl) (b3 : Int) (b4 : Sl) (h : Heap) (K : Value → Heap → Prop) : F_law6_same_of f88_ a1 a2 b3 b4 h (fun (r0 : Bool) (h : Heap) => K (.bool r0) h) =
    den Try.prog (fn1 88 (E_ref0_Eq_of f88_) noFns) Try.f64.ntmps plan64 (bodyOf Try.f64) (args0 0 [(.agg #[.int .i64 a1, .slice a2.ptr a2.len a2.cap] : Value), (.agg #[.int .i64 b3, .slice b4.ptr b4.len b4.cap] : Value)]) h ⟨fun env h => dRes Try.prog Try.f64.results.toList env h K, fun _ _ _ => False, fun env h => dRes Try.prog Try.f64.results.toList env h K⟩ := by kernel_rfl
def E_law6_same_of (f : Int → Sl → Int → Sl → Heap → (Bool → Heap → Prop) → Prop) : List Value → Heap → (Value → Heap → Prop) → Prop
  | [v0, v1], h, K => vAgg v0 fun cs0 => decs [.int .i64, .sl] cs0.toList fun (a1 : Int) (a2 : Sl) =>
  vAgg v1 fun cs1 => decs [.int .i64, .sl] cs1.toList fun (b3 : Int) (b4 : Sl) =>
  f a1 a2 b3 b4 h (fun (r0 : Bool) (h : Heap) => K (.bool r0) h)
  | _, _, _ => False
abbrev E_law6_same := E_law6_same_of F_law6_same
theorem E_law6_same.right : IsRight Try.prog 64 E_law6_same := by
  refine isRight fun vs K w hh => ?_
  match vs, hh with
  | [v0, v1], hh =>
    unfold E_law6_same E_law6_same_of at hh
    replace hh := vAgg_sound hh; obtain ⟨cs0, rfl, hh⟩ := hh
    replace hh := decs_cons hh; obtain ⟨a1, l0_0, e0_0, hh⟩ := hh
    replace hh := decs_cons hh; obtain ⟨a2, l0_1, e0_1, hh⟩ := hh
    replace hh := decs_nil hh; obtain ⟨rfl, hh⟩ := hh
    subst e0_1
    have ec0 := toArray_eq e0_0
    subst ec0
    replace hh := vAgg_sound hh; obtain ⟨cs1, rfl, hh⟩ := hh
    replace hh := decs_cons hh; obtain ⟨b3, l1_0, e1_0, hh⟩ := hh
    replace hh := decs_cons hh; obtain ⟨b4, l1_1, e1_1, hh⟩ := hh
    replace hh := decs_nil hh; obtain ⟨rfl, hh⟩ := hh
    subst e1_1
    have ec1 := toArray_eq e1_0
    subst ec1
    unfold F_law6_same at hh
    exact calls_den (fn1_right ok88 E_ref0_Eq.right noFns_right) plan64 _ w K Try.func64 (by kernel_rfl) (by kernel_rfl) (Eq.mp (F_law6_same.eq F_ref0_Eq a1 a2 b3 b4 w.heap K) hh)
theorem ok64 : okFn Try.prog 64 = true := by kernel_rfl
end Go.Proofs.Ytboidjampddfoaa.V
namespace Go.Proofs.Ytboidjampddfoaa.V
open Go Go.RowKit
set_option linter.unusedVariables false
set_option maxRecDepth 100000
def F_law6_lives_of (f21_ : Int → Heap → (Option Addr → Int → Heap → Prop) → Prop) (f22_ : Int → Heap → (Int → Heap → Prop) → Prop) (f24_ : Option Addr → Int → Sl → Heap → (Bool → Heap → Prop) → Prop) (f27_ : Option Addr → Int → Heap → (Int → Sl → Bool → Heap → Prop) → Prop) (f30_ : Option Addr → Heap → (Int → Heap → Prop) → Prop) (f31_ : Option Addr → Heap → (Int → Heap → Prop) → Prop) (f64_ : Int → Sl → Int → Sl → Heap → (Bool → Heap → Prop) → Prop)  (h : Heap) (Q : Bool → Heap → Prop) : Prop :=
  f21_ 1 h fun (r1 : Option Addr) (r2 : Int) (h3 : Heap) =>
  jn [(31, .one .bool)] (fun (x16 : Bool) (h17 : Heap) =>
  brr x16
  (Q false h17)
  (nn r1 fun (a18 : Addr) =>
  f27_ (some (a18.add 0)) 0 h17 fun (r19 : Int) (r20 : Sl) (r21 : Bool) (h22 : Heap) =>
  al 63 [.int .i64 0, .slice none 0 0] h22 fun (a23 : Addr) (h24 : Heap) =>
  st a23 [.int .i64 r19, .slice r20.ptr r20.len r20.cap] h24 fun (h25 : Heap) =>
  jn [(0, .one .bool)] (fun (x37 : Bool) (h38 : Heap) =>
  Q x37 h38) (fun (j26 : Bool → Heap → Prop) =>
  brr r21
  (ld [.int .i64, .sl] a23 h25 fun (v27 : Int) (v28 : Sl) =>
  al 5 [.int .u8 120] h25 fun (a29 : Addr) (h30 : Heap) =>
  frz (some a29) h30 fun (h31 : Heap) =>
  f64_ v27 v28 3 ⟨(some a29), 1, 1⟩ h31 fun (r32 : Bool) (h33 : Heap) =>
  brr r32
  (nn r1 fun (a34 : Addr) =>
  f30_ (some (a34.add 0)) h33 fun (r35 : Int) (h36 : Heap) =>
  j26 (r35 == 0) h36)
  (j26 false h33))
  (j26 false h25)))) (fun (j4 : Bool → Heap → Prop) =>
  f22_ r2 h3 fun (r5 : Int) (h6 : Heap) =>
  brr (r5 != 0)
  (j4 true h6)
  (brr r1.isNone
  (j4 true h6)
  (al 5 [.int .u8 120] h6 fun (a7 : Addr) (h8 : Heap) =>
  frz (some a7) h8 fun (h9 : Heap) =>
  f24_ r1 3 ⟨(some a7), 1, 1⟩ h9 fun (r10 : Bool) (h11 : Heap) =>
  brr (!r10)
  (j4 true h11)
  (f24_ r1 4 (⟨none, 0, 0⟩ : Sl) h11 fun (r12 : Bool) (h13 : Heap) =>
  brr r12
  (j4 true h13)
  (f31_ r1 h13 fun (r14 : Int) (h15 : Heap) =>
  j4 (r14 != 1) h15)))))
def F_law6_lives  (h : Heap) (Q : Bool → Heap → Prop) : Prop := F_law6_lives_of F_net_New F_law6_num F_net_Net_Send F_net_row_Take F_net_row_Len F_net_Net_Lost F_law6_same  h Q
def plan23 : Plan := .s (.r []) (.s (.r [1, 2]) (.s (.s (.rj [(31, .one .bool)] [1]) (.c (.s (.r [0]) .z) .z)) (.s (.r [1, 3, 4]) (.s (.rj [(0, .one .bool)] []) .z))))
theorem F_law6_lives.eq (f21_ : Int → Heap → (Option Addr → Int → Heap → Prop) → Prop) (f22_ : Int → Heap → (Int → Heap → Prop) → Prop) (f24_ : Option Addr → Int → Sl → Heap → (Bool → Heap → Prop) → Prop) (f27_ : Option Addr → Int → Heap → (Int → Sl → Bool → Heap → Prop) → Prop) (f30_ : Option Addr → Heap → (Int → Heap → Prop) → Prop) (f31_ : Option Addr → Heap → (Int → Heap → Prop) → Prop) (f64_ : Int → Sl → Int → Sl → Heap → (Bool → Heap → Prop) → Prop)  (h : Heap) (K : Value → Heap → Prop) : F_law6_lives_of f21_ f22_ f24_ f27_ f30_ f31_ f64_  h (fun (r0 : Bool) (h : Heap) => K (.bool r0) h) =
    den Try.prog (fn1 21 (E_net_New_of f21_) (fn1 22 (E_law6_num_of f22_) (fn1 24 (E_net_Net_Send_of f24_) (fn1 27 (E_net_row_Take_of f27_) (fn1 30 (E_net_row_Len_of f30_) (fn1 31 (E_net_Net_Lost_of f31_) (fn1 64 (E_law6_same_of f64_) noFns))))))) Try.f23.ntmps plan23 (bodyOf Try.f23) (args0 0 []) h ⟨fun env h => dRes Try.prog Try.f23.results.toList env h K, fun _ _ _ => False, fun env h => dRes Try.prog Try.f23.results.toList env h K⟩ := by kernel_rfl
def E_law6_lives_of (f : Heap → (Bool → Heap → Prop) → Prop) : List Value → Heap → (Value → Heap → Prop) → Prop
  | [], h, K => f  h (fun (r0 : Bool) (h : Heap) => K (.bool r0) h)
  | _, _, _ => False
abbrev E_law6_lives := E_law6_lives_of F_law6_lives
theorem E_law6_lives.nil (f : Heap → (Bool → Heap → Prop) → Prop) (h : Heap) (K : Value → Heap → Prop) : E_law6_lives_of f [] h K = f  h (fun (r0 : Bool) (h : Heap) => K (.bool r0) h) := rfl
theorem E_law6_lives.right : IsRight Try.prog 23 E_law6_lives := by
  refine isRight fun vs K w hh => ?_
  match vs, hh with
  | [], hh =>
    replace hh := Eq.mp (E_law6_lives.nil F_law6_lives w.heap K) hh
    unfold F_law6_lives at hh
    exact calls_den (fn1_right ok21 E_net_New.right (fn1_right ok22 E_law6_num.right (fn1_right ok24 E_net_Net_Send.right (fn1_right ok27 E_net_row_Take.right (fn1_right ok30 E_net_row_Len.right (fn1_right ok31 E_net_Net_Lost.right (fn1_right ok64 E_law6_same.right noFns_right))))))) plan23 _ w K Try.func23 (by kernel_rfl) (by kernel_rfl) (Eq.mp (F_law6_lives.eq F_net_New F_law6_num F_net_Net_Send F_net_row_Take F_net_row_Len F_net_Net_Lost F_law6_same  w.heap K) hh)
theorem ok23 : okFn Try.prog 23 = true := by kernel_rfl
end Go.Proofs.Ytboidjampddfoaa.V
namespace Go.Proofs.Ytboidjampddfoaa.V
open Go Go.RowKit
set_option linter.unusedVariables false
set_option maxRecDepth 100000
def F_law6_tag_of  (i1 : Int) (h : Heap) (Q : Sl → Heap → Prop) : Prop :=
  0 ≤ (8 : Int) ∧
  al 5 [.int .u8 (IntKind.u8.wrap i1), .int .u8 (IntKind.u8.wrap (i1.fdiv (2 ^ min (8 : Int).toNat IntKind.i64.bits)))] h fun (a2 : Addr) (h3 : Heap) =>
  Q ⟨(some a2), 2, 2⟩ h3
def F_law6_tag (i1 : Int) (h : Heap) (Q : Sl → Heap → Prop) : Prop := F_law6_tag_of  i1 h Q
def plan25 : Plan := .s (.r [0]) (.s (.r [2]) .z)
theorem F_law6_tag.eq  (i1 : Int) (h : Heap) (K : Value → Heap → Prop) : F_law6_tag_of  i1 h (fun (r0 : Sl) (h : Heap) => K (.slice r0.ptr r0.len r0.cap) h) =
    den Try.prog noFns Try.f25.ntmps plan25 (bodyOf Try.f25) (args0 0 [(.int .i64 i1 : Value)]) h ⟨fun env h => dRes Try.prog Try.f25.results.toList env h K, fun _ _ _ => False, fun env h => dRes Try.prog Try.f25.results.toList env h K⟩ := by kernel_rfl
def E_law6_tag_of (f : Int → Heap → (Sl → Heap → Prop) → Prop) : List Value → Heap → (Value → Heap → Prop) → Prop
  | [v0], h, K => dec1 (.int .i64) v0 fun (i1 : Int) =>
  f i1 h (fun (r0 : Sl) (h : Heap) => K (.slice r0.ptr r0.len r0.cap) h)
  | _, _, _ => False
abbrev E_law6_tag := E_law6_tag_of F_law6_tag
theorem E_law6_tag.right : IsRight Try.prog 25 E_law6_tag := by
  refine isRight fun vs K w hh => ?_
  match vs, hh with
  | [v0], hh =>
    unfold E_law6_tag E_law6_tag_of at hh
    replace hh := dec1_sound hh; obtain ⟨i1, rfl, hh⟩ := hh
    unfold F_law6_tag at hh
    exact calls_den noFns_right plan25 _ w K Try.func25 (by kernel_rfl) (by kernel_rfl) (Eq.mp (F_law6_tag.eq  i1 w.heap K) hh)
theorem ok25 : okFn Try.prog 25 = true := by kernel_rfl
end Go.Proofs.Ytboidjampddfoaa.V
namespace Go.Proofs.Ytboidjampddfoaa.V
open Go Go.RowKit
set_option linter.unusedVariables false
set_option maxRecDepth 100000
def F_law6_which_of  (f1 : Int) (f2 : Sl) (h : Heap) (Q : Int → Heap → Prop) : Prop :=
  al 63 [.int .i64 f1, .slice f2.ptr f2.len f2.cap] h fun (a3 : Addr) (h4 : Heap) =>
  ld [.sl] (a3.add 1) h4 fun (v5 : Sl) =>
  brr (((v5.len : Nat) : Int) != 2)
  (Q (-1) h4)
  (ld [.sl] (a3.add 1) h4 fun (v6 : Sl) =>
  ixS 1 v6 0 fun (a7 : Addr) =>
  ld [.int .u8] a7 h4 fun (v8 : Int) =>
  ld [.sl] (a3.add 1) h4 fun (v9 : Sl) =>
  ixS 1 v9 1 fun (a10 : Addr) =>
  ld [.int .u8] a10 h4 fun (v11 : Int) =>
  Q (IntKind.i64.wrap ((IntKind.i64.wrap v8) + (IntKind.i64.wrap (256 * (IntKind.i64.wrap v11))))) h4)
def F_law6_which (f1 : Int) (f2 : Sl) (h : Heap) (Q : Int → Heap → Prop) : Prop := F_law6_which_of  f1 f2 h Q
def plan28 : Plan := .s (.r [1]) (.s (.s (.r [1, 6]) (.c (.s (.r [2]) .z) .z)) (.s (.d [0, 1, 3, 7, 15, 0, 32, 96, 224, 480, 992, 2047, 4095] [[0, 1, 2, 3, 4, 5, 6, 7, 8, 9, 10, 11, 12]] [2]) .z))
theorem F_law6_which.eq  (f1 : Int) (f2 : Sl) (h : Heap) (K : Value → Heap → Prop) : F_law6_which_of  f1 f2 h (fun (r0 : Int) (h : Heap) => K (.int .i64 r0) h) =
    den Try.prog noFns Try.f28.ntmps plan28 (bodyOf Try.f28) (args0 0 [(.agg #[.int .i64 f1, .slice f2.ptr f2.len f2.cap] : Value)]) h ⟨fun env h => dRes Try.prog Try.f28.results.toList env h K, fun _ _ _ => False, fun env h => dRes Try.prog Try.f28.results.toList env h K⟩ := by kernel_rfl
def E_law6_which_of (f : Int → Sl → Heap → (Int → Heap → Prop) → Prop) : List Value → Heap → (Value → Heap → Prop) → Prop
  | [v0], h, K => vAgg v0 fun cs0 => decs [.int .i64, .sl] cs0.toList fun (f1 : Int) (f2 : Sl) =>
  f f1 f2 h (fun (r0 : Int) (h : Heap) => K (.int .i64 r0) h)
  | _, _, _ => False
abbrev E_law6_which := E_law6_which_of F_law6_which
theorem E_law6_which.right : IsRight Try.prog 28 E_law6_which := by
  refine isRight fun vs K w hh => ?_
  match vs, hh with
  | [v0], hh =>
    unfold E_law6_which E_law6_which_of at hh
    replace hh := vAgg_sound hh; obtain ⟨cs0, rfl, hh⟩ := hh
    replace hh := decs_cons hh; obtain ⟨f1, l0_0, e0_0, hh⟩ := hh
    replace hh := decs_cons hh; obtain ⟨f2, l0_1, e0_1, hh⟩ := hh
    replace hh := decs_nil hh; obtain ⟨rfl, hh⟩ := hh
    subst e0_1
    have ec0 := toArray_eq e0_0
    subst ec0
    unfold F_law6_which at hh
    exact calls_den noFns_right plan28 _ w K Try.func28 (by kernel_rfl) (by kernel_rfl) (Eq.mp (F_law6_which.eq  f1 f2 w.heap K) hh)
theorem ok28 : okFn Try.prog 28 = true := by kernel_rfl
end Go.Proofs.Ytboidjampddfoaa.V
namespace Go.Proofs.Ytboidjampddfoaa.V
open Go Go.RowKit
set_option linter.unusedVariables false
set_option maxRecDepth 100000
def F_law6_drains.l1 (f27_ : Option Addr → Int → Heap → (Int → Sl → Bool → Heap → Prop) → Prop) (f28_ : Int → Sl → Heap → (Int → Heap → Prop) → Prop) (n1 : Option Addr) (row2 : Sl) (Q : Bool → Heap → Prop) (j3 : Heap → Prop) : Int → Heap → Prop :=
  wl [(5, .one (.int .i64))] (fun (next4 : Int → Heap → Prop) (i5 : Int) (h6 : Heap) =>
  brr (decide (i5 < ((row2.len : Nat) : Int)))
  (nn n1 fun (a7 : Addr) =>
  f27_ (some (a7.add 0)) 0 h6 fun (r8 : Int) (r9 : Sl) (r10 : Bool) (h11 : Heap) =>
  al 63 [.int .i64 0, .slice none 0 0] h11 fun (a12 : Addr) (h13 : Heap) =>
  st a12 [.int .i64 r8, .slice r9.ptr r9.len r9.cap] h13 fun (h14 : Heap) =>
  jn [(43, .one .bool)] (fun (x25 : Bool) (h26 : Heap) =>
  brr x25
  (Q false h26)
  (next4 (IntKind.i64.wrap (i5 + 1)) h26)) (fun (j15 : Bool → Heap → Prop) =>
  brr (!r10)
  (j15 true h14)
  (ld [.int .i64, .sl] a12 h14 fun (v16 : Int) (v17 : Sl) =>
  ixS 1 row2 i5 fun (a18 : Addr) =>
  ld [.int .i64] a18 h14 fun (v19 : Int) =>
  f28_ v16 v17 h14 fun (r20 : Int) (h21 : Heap) =>
  cellsAre h21 a18 [.int .i64 v19] ∧
  brr (r20 != v19)
  (j15 true h21)
  (ld [.int .i64] (a12.add 0) h21 fun (v22 : Int) =>
  ixS 1 row2 i5 fun (a23 : Addr) =>
  ld [.int .i64] a23 h21 fun (v24 : Int) =>
  (7 : Int) ≠ 0 ∧
  j15 (v22 != (v24.tmod 7)) h21))))
  (j3 h6))
def F_law6_drains_of (f27_ : Option Addr → Int → Heap → (Int → Sl → Bool → Heap → Prop) → Prop) (f28_ : Int → Sl → Heap → (Int → Heap → Prop) → Prop) (f30_ : Option Addr → Heap → (Int → Heap → Prop) → Prop) (f61_ : Option Addr → Int → Heap → (Int → Sl → Bool → Heap → Prop) → Prop) (n1 : Option Addr) (row2 : Sl) (h : Heap) (Q : Bool → Heap → Prop) : Prop :=
  jn [] (fun  (h27 : Heap) =>
  nn n1 fun (a28 : Addr) =>
  f61_ (some (a28.add 0)) 0 h27 fun (r29 : Int) (r30 : Sl) (r31 : Bool) (h32 : Heap) =>
  al 63 [.int .i64 0, .slice none 0 0] h32 fun (a33 : Addr) (h34 : Heap) =>
  st a33 [.int .i64 r29, .slice r30.ptr r30.len r30.cap] h34 fun (h35 : Heap) =>
  jn [(4, .one .bool)] (fun (x40 : Bool) (h41 : Heap) =>
  Q x40 h41) (fun (j36 : Bool → Heap → Prop) =>
  brr (!r31)
  (nn n1 fun (a37 : Addr) =>
  f30_ (some (a37.add 0)) h35 fun (r38 : Int) (h39 : Heap) =>
  j36 (r38 == 0) h39)
  (j36 false h35))) (fun (j3 : Heap → Prop) =>
  F_law6_drains.l1 f27_ f28_ n1 row2 Q j3 0 h)
def F_law6_drains (n1 : Option Addr) (row2 : Sl) (h : Heap) (Q : Bool → Heap → Prop) : Prop := F_law6_drains_of F_net_row_Take F_law6_which F_net_row_Len F_net_row_Look n1 row2 h Q
def plan32 : Plan := .s (.r [0, 1]) (.s (.s (.r [0, 1, 5]) (.bj [] [0] (.l [(5, .one (.int .i64))] [0, 1] (.s (.s (.r [0, 1, 5, 13]) (.c .z .z)) (.s (.b (.s (.r [0, 1, 5, 6, 7]) (.s (.dj [0, 1, 3, 7, 15, 7, 7, 103, 231, 511, 1023, 2047, 4095, 8191, 4095, 4095, 53247, 118783, 249855, 524287, 1048575] [[0, 1, 2, 3, 5, 6, 7, 8, 4, 9, 10, 11, 12, 13, 14, 15, 16, 17, 18, 19, 20]] [(43, .one .bool)] [0, 1, 5]) (.c (.s (.r [4]) .z) .z)))) (.r [0, 1, 5])))))) (.s (.r [0, 9]) (.s (.rj [(4, .one .bool)] []) .z)))
theorem F_law6_drains.eq (f27_ : Option Addr → Int → Heap → (Int → Sl → Bool → Heap → Prop) → Prop) (f28_ : Int → Sl → Heap → (Int → Heap → Prop) → Prop) (f30_ : Option Addr → Heap → (Int → Heap → Prop) → Prop) (f61_ : Option Addr → Int → Heap → (Int → Sl → Bool → Heap → Prop) → Prop) (n1 : Option Addr) (row2 : Sl) (h : Heap) (K : Value → Heap → Prop) : F_law6_drains_of f27_ f28_ f30_ f61_ n1 row2 h (fun (r0 : Bool) (h : Heap) => K (.bool r0) h) =
    den Try.prog (fn1 27 (E_net_row_Take_of f27_) (fn1 28 (E_law6_which_of f28_) (fn1 30 (E_net_row_Len_of f30_) (fn1 61 (E_net_row_Look_of f61_) noFns)))) Try.f32.ntmps plan32 (bodyOf Try.f32) (args0 0 [(.pointer n1 : Value), (.slice row2.ptr row2.len row2.cap : Value)]) h ⟨fun env h => dRes Try.prog Try.f32.results.toList env h K, fun _ _ _ => False, fun env h => dRes Try.prog Try.f32.results.toList env h K⟩ := by kernel_rfl
def E_law6_drains_of (f : Option Addr → Sl → Heap → (Bool → Heap → Prop) → Prop) : List Value → Heap → (Value → Heap → Prop) → Prop
  | [v0, v1], h, K => dec1 .ptr v0 fun (n1 : Option Addr) =>
  dec1 .sl v1 fun (row2 : Sl) =>
  f n1 row2 h (fun (r0 : Bool) (h : Heap) => K (.bool r0) h)
  | _, _, _ => False
abbrev E_law6_drains := E_law6_drains_of F_law6_drains
theorem E_law6_drains.right : IsRight Try.prog 32 E_law6_drains := by
  refine isRight fun vs K w hh => ?_
  match vs, hh with
  | [v0, v1], hh =>
    unfold E_law6_drains E_law6_drains_of at hh
    replace hh := dec1_sound hh; obtain ⟨n1, rfl, hh⟩ := hh
    replace hh := dec1_sound hh; obtain ⟨row2, rfl, hh⟩ := hh
    unfold F_law6_drains at hh
    exact calls_den (fn1_right ok27 E_net_row_Take.right (fn1_right ok28 E_law6_which.right (fn1_right ok30 E_net_row_Len.right (fn1_right ok61 E_net_row_Look.right noFns_right)))) plan32 _ w K Try.func32 (by kernel_rfl) (by kernel_rfl) (Eq.mp (F_law6_drains.eq F_net_row_Take F_law6_which F_net_row_Len F_net_row_Look n1 row2 w.heap K) hh)
theorem ok32 : okFn Try.prog 32 = true := by kernel_rfl
end Go.Proofs.Ytboidjampddfoaa.V
namespace Go.Proofs.Ytboidjampddfoaa.V
open Go Go.RowKit
set_option linter.unusedVariables false
set_option maxRecDepth 100000
def F_law6_NetKeeps.l1 (f24_ : Option Addr → Int → Sl → Heap → (Bool → Heap → Prop) → Prop) (f25_ : Int → Heap → (Sl → Heap → Prop) → Prop) (f26_ : Option Addr → Int → Heap → (Bool → Heap → Prop) → Prop) (f27_ : Option Addr → Int → Heap → (Int → Sl → Bool → Heap → Prop) → Prop) (f28_ : Int → Sl → Heap → (Int → Heap → Prop) → Prop) (f29_ : Option Addr → Int → Heap → (Bool → Heap → Prop) → Prop) (f30_ : Option Addr → Heap → (Int → Heap → Prop) → Prop) (f31_ : Option Addr → Heap → (Int → Heap → Prop) → Prop) (Q : Bool → Heap → Prop) (a3 : Addr) (r6 : Int) (r8 : Option Addr) (j18 : Sl → Heap → Prop) : Sl → Int → Int → Heap → Prop :=
  wl [(6, .one .sl), (7, .one (.int .u64)), (8, .one (.int .i64))] (fun (next19 : Sl → Int → Int → Heap → Prop) (row20 : Sl) (lost21 i22 : Int) (h23 : Heap) =>
  jn [(44, .one .bool)] (fun (x26 : Bool) (h27 : Heap) =>
  brr x26
  (ld [.sl] (a3.add 1) h27 fun (v28 : Sl) =>
  ixS 2 v28 i22 fun (a29 : Addr) =>
  ld [.int .i64] (a29.add 1) h27 fun (v30 : Int) =>
  jn [(10, .one .bool)] (fun (in_32 : Bool) (h33 : Heap) =>
  ld [.sl] (a3.add 1) h33 fun (v34 : Sl) =>
  ixS 2 v34 i22 fun (a35 : Addr) =>
  ld [.int .i64] (a35.add 0) h33 fun (v36 : Int) =>
  jn [(6, .one .sl), (7, .one (.int .u64))] (fun (row114 : Sl) (lost115 : Int) (h116 : Heap) =>
  jn [(185, .one .bool)] (fun (x123 : Bool) (h124 : Heap) =>
  brr x123
  (Q false h124)
  (next19 row114 lost115 (IntKind.i64.wrap (i22 + 1)) h124)) (fun (j117 : Bool → Heap → Prop) =>
  nn r8 fun (a118 : Addr) =>
  f30_ (some (a118.add 0)) h116 fun (r119 : Int) (h120 : Heap) =>
  brr (r119 != ((row114.len : Nat) : Int))
  (j117 true h120)
  (f31_ r8 h120 fun (r121 : Int) (h122 : Heap) =>
  j117 (r121 != lost115) h122))) (fun (j37 : Sl → Int → Heap → Prop) =>
  brr (v36 == 1)
  ((7 : Int) ≠ 0 ∧
  f25_ i22 h33 fun (r38 : Sl) (h39 : Heap) =>
  f24_ r8 (i22.tmod 7) r38 h39 fun (r40 : Bool) (h41 : Heap) =>
  brr (!(r40 == (decide (((row20.len : Nat) : Int) < (IntKind.i64.wrap (1 + r6))))))
  (Q false h41)
  (jn [(6, .one .sl), (7, .one (.int .u64))] (fun (row47 : Sl) (lost48 : Int) (h49 : Heap) =>
  j37 row47 lost48 h49) (fun (j42 : Sl → Int → Heap → Prop) =>
  brr r40
  (al 3 [.int .i64 i22] h41 fun (a43 : Addr) (h44 : Heap) =>
  app 3 1 8 (.int .i64 0) row20 (some a43) 1 h44 fun (s45 : Sl) (h46 : Heap) =>
  j42 s45 lost21 h46)
  (j42 row20 (IntKind.u64.wrap (lost21 + 1)) h41))))
  (jn [(88, .one .bool)] (fun (x51 : Bool) (h52 : Heap) =>
  jn [(6, .one .sl)] (fun (row112 : Sl) (h113 : Heap) =>
  j37 row112 lost21 h113) (fun (j53 : Sl → Heap → Prop) =>
  brr x51
  (ld [.sl] (a3.add 1) h52 fun (v54 : Sl) =>
  ixS 2 v54 i22 fun (a55 : Addr) =>
  ld [.int .i64] (a55.add 0) h52 fun (v56 : Int) =>
  jn [(12, .one .bool)] (fun (ok81 : Bool) (h82 : Heap) =>
  brr (!(ok81 == in_32))
  (Q false h82)
  (jn [(6, .one .sl)] (fun (row92 : Sl) (h93 : Heap) =>
  j53 row92 h93) (fun (j83 : Sl → Heap → Prop) =>
  brr ok81
  (slTo row20 v30 fun (s84 : Sl) =>
  slFrom 1 row20 (IntKind.i64.wrap (v30 + 1)) fun (s85 : Sl) =>
  al 3 [] h82 fun (a86 : Addr) (h87 : Heap) =>
  app 3 1 8 (.int .i64 0) ⟨(some a86), 0, 0⟩ s84.ptr s84.len h87 fun (s88 : Sl) (h89 : Heap) =>
  app 3 1 8 (.int .i64 0) s88 s85.ptr s85.len h89 fun (s90 : Sl) (h91 : Heap) =>
  j83 s90 h91)
  (j83 row20 h82)))) (fun (j57 : Bool → Heap → Prop) =>
  brr (v56 == 3)
  (nn r8 fun (a58 : Addr) =>
  f26_ (some (a58.add 0)) v30 h52 fun (r59 : Bool) (h60 : Heap) =>
  j57 r59 h60)
  (nn r8 fun (a61 : Addr) =>
  f27_ (some (a61.add 0)) v30 h52 fun (r62 : Int) (r63 : Sl) (r64 : Bool) (h65 : Heap) =>
  al 63 [.int .i64 0, .slice none 0 0] h65 fun (a66 : Addr) (h67 : Heap) =>
  st a66 [.int .i64 r62, .slice r63.ptr r63.len r63.cap] h67 fun (h68 : Heap) =>
  jn [(134, .one .bool)] (fun (x79 : Bool) (h80 : Heap) =>
  brr x79
  (Q false h80)
  (j57 r64 h80)) (fun (j69 : Bool → Heap → Prop) =>
  brr r64
  (brr in_32
  (ld [.int .i64, .sl] a66 h68 fun (v70 : Int) (v71 : Sl) =>
  ixS 1 row20 v30 fun (a72 : Addr) =>
  ld [.int .i64] a72 h68 fun (v73 : Int) =>
  f28_ v70 v71 h68 fun (r74 : Int) (h75 : Heap) =>
  cellsAre h75 a72 [.int .i64 v73] ∧
  brr (r74 != v73)
  (j69 true h75)
  (ld [.int .i64] (a66.add 0) h75 fun (v76 : Int) =>
  ixS 1 row20 v30 fun (a77 : Addr) =>
  ld [.int .i64] a77 h75 fun (v78 : Int) =>
  (7 : Int) ≠ 0 ∧
  j69 (v76 != (v78.tmod 7)) h75))
  (j69 false h68))
  (j69 false h68)))))
  (jn [(6, .one .sl)] (fun (row110 : Sl) (h111 : Heap) =>
  j53 row110 h111) (fun (j94 : Sl → Heap → Prop) =>
  brr (v36 == 4)
  (nn r8 fun (a95 : Addr) =>
  f29_ (some (a95.add 0)) v30 h52 fun (r96 : Bool) (h97 : Heap) =>
  jn [(164, .one .bool)] (fun (x99 : Bool) (h100 : Heap) =>
  brr x99
  (Q false h100)
  (jn [(6, .one .sl)] (fun (row108 : Sl) (h109 : Heap) =>
  j94 row108 h109) (fun (j101 : Sl → Heap → Prop) =>
  brr r96
  (ixS 1 row20 v30 fun (a102 : Addr) =>
  ld [.int .i64] a102 h100 fun (v103 : Int) =>
  al 3 [.int .i64 v103] h100 fun (a104 : Addr) (h105 : Heap) =>
  app 3 1 8 (.int .i64 0) row20 (some a104) 1 h105 fun (s106 : Sl) (h107 : Heap) =>
  j101 s106 h107)
  (j101 row20 h100)))) (fun (j98 : Bool → Heap → Prop) =>
  brr in_32
  (j98 (!(r96 == (decide (((row20.len : Nat) : Int) < (IntKind.i64.wrap (1 + r6)))))) h97)
  (j98 (!(r96 == false)) h97)))
  (j94 row20 h52))))) (fun (j50 : Bool → Heap → Prop) =>
  brr (v36 == 2)
  (j50 (v36 == 2) h33)
  (j50 (v36 == 3) h33))))) (fun (j31 : Bool → Heap → Prop) =>
  brr (decide (v30 ≥ 0))
  (j31 (decide (v30 < ((row20.len : Nat) : Int))) h27)
  (j31 false h27)))
  (j18 row20 h27)) (fun (j24 : Bool → Heap → Prop) =>
  ld [.sl] (a3.add 1) h23 fun (v25 : Sl) =>
  brr (decide (i22 < ((v25.len : Nat) : Int)))
  (j24 (decide (i22 < 300)) h23)
  (j24 false h23)))
def F_law6_NetKeeps_of (f20_ : Int → Int → Heap → (Int → Heap → Prop) → Prop) (f21_ : Int → Heap → (Option Addr → Int → Heap → Prop) → Prop) (f22_ : Int → Heap → (Int → Heap → Prop) → Prop) (f23_ : Heap → (Bool → Heap → Prop) → Prop) (f24_ : Option Addr → Int → Sl → Heap → (Bool → Heap → Prop) → Prop) (f25_ : Int → Heap → (Sl → Heap → Prop) → Prop) (f26_ : Option Addr → Int → Heap → (Bool → Heap → Prop) → Prop) (f27_ : Option Addr → Int → Heap → (Int → Sl → Bool → Heap → Prop) → Prop) (f28_ : Int → Sl → Heap → (Int → Heap → Prop) → Prop) (f29_ : Option Addr → Int → Heap → (Bool → Heap → Prop) → Prop) (f30_ : Option Addr → Heap → (Int → Heap → Prop) → Prop) (f31_ : Option Addr → Heap → (Int → Heap → Prop) → Prop) (f32_ : Option Addr → Sl → Heap → (Bool → Heap → Prop) → Prop) (s1 : Int) (s2 : Sl) (h : Heap) (Q : Bool → Heap → Prop) : Prop :=
  al 45 [.int .i64 s1, .slice s2.ptr s2.len s2.cap] h fun (a3 : Addr) (h4 : Heap) =>
  ld [.int .i64] (a3.add 0) h4 fun (v5 : Int) =>
  f20_ v5 40 h4 fun (r6 : Int) (h7 : Heap) =>
  f21_ (IntKind.i64.wrap (1 + r6)) h7 fun (r8 : Option Addr) (r9 : Int) (h10 : Heap) =>
  jn [(35, .one .bool)] (fun (x16 : Bool) (h17 : Heap) =>
  brr x16
  (Q false h17)
  (jn [(6, .one .sl)] (fun (row125 : Sl) (h126 : Heap) =>
  f32_ r8 row125 h126 fun (r127 : Bool) (h128 : Heap) =>
  Q r127 h128) (fun (j18 : Sl → Heap → Prop) =>
  F_law6_NetKeeps.l1 f24_ f25_ f26_ f27_ f28_ f29_ f30_ f31_ Q a3 r6 r8 j18 (⟨none, 0, 0⟩ : Sl) 0 0 h17))) (fun (j11 : Bool → Heap → Prop) =>
  f22_ r9 h10 fun (r12 : Int) (h13 : Heap) =>
  brr (r12 != 0)
  (j11 true h13)
  (brr r8.isNone
  (j11 true h13)
  (f23_ h13 fun (r14 : Bool) (h15 : Heap) =>
  j11 (!r14) h15)))
def F_law6_NetKeeps (s1 : Int) (s2 : Sl) (h : Heap) (Q : Bool → Heap → Prop) : Prop := F_law6_NetKeeps_of F_law6_into F_net_New F_law6_num F_law6_lives F_net_Net_Send F_law6_tag F_net_row_Drop F_net_row_Take F_law6_which F_net_row_Double F_net_row_Len F_net_Net_Lost F_law6_drains s1 s2 h Q
def plan9 : Plan := .s (.r [1]) (.s (.r [1, 3]) (.s (.r [1, 3, 4, 5]) (.s (.s (.rj [(35, .one .bool)] [1, 3, 4]) (.c (.s (.r [2]) .z) .z)) (.s (.r [1, 3, 4, 6]) (.s (.r [1, 3, 4, 6, 7]) (.s (.s (.r [1, 3, 4, 6, 7, 8]) (.bj [(6, .one .sl)] [4] (.l [(6, .one .sl), (7, .one (.int .u64)), (8, .one (.int .i64))] [1, 3, 4] (.s (.s (.rj [(44, .one .bool)] [1, 3, 4, 6, 7, 8]) (.c .z .z)) (.s (.b (.s (.r [1, 3, 4, 6, 7, 8, 9]) (.s (.rj [(10, .one .bool)] [1, 3, 4, 6, 7, 8, 9]) (.s (.s (.r [1, 3, 4, 6, 7, 8, 9, 10, 66]) (.b (.s (.r [1, 3, 4, 6, 7, 8, 9, 10, 66, 67]) (.cj [(6, .one .sl), (7, .one (.int .u64))] [1, 3, 4, 8] (.s (.r [1, 3, 4, 6, 7, 8, 11]) (.s (.s (.r [1, 3, 4, 6, 7, 8, 11, 80]) (.c (.s (.r [2]) .z) .z)) (.s (.r [1, 3, 4, 6, 7, 8, 81]) (.cj [(6, .one .sl), (7, .one (.int .u64))] [1, 3, 4, 8] (.r [1, 3, 4, 6, 7, 8]) (.r [1, 3, 4, 6, 7, 8]))))) (.s (.s (.r [1, 3, 4, 6, 7, 8, 9, 10, 66, 88]) (.cj [(88, .one .bool)] [1, 3, 4, 6, 7, 8, 9, 10, 66] .z (.r [1, 3, 4, 6, 7, 8, 9, 10, 66, 88]))) (.cj [(6, .one .sl)] [1, 3, 4, 7, 8] (.s (.r [1, 3, 4, 6, 7, 8, 9, 10]) (.s (.s (.r [1, 3, 4, 6, 7, 8, 9, 10, 97]) (.cj [(12, .one .bool)] [1, 3, 4, 6, 7, 8, 9, 10] (.r [1, 3, 4, 6, 7, 8, 9, 10, 12]) (.s (.r [1, 3, 4, 6, 7, 8, 9, 10, 13, 14]) (.s (.r [1, 3, 4, 6, 7, 8, 9, 10, 12, 13, 14]) (.s (.dj [0, 1, 3, 7, 15, 31, 63, 31, 31, 415, 927, 2047, 4095, 8191, 16383, 8191, 8191, 106495, 237567, 499711, 1048575, 2097151, 4194303] [[0, 1, 2, 3, 4, 5, 7, 8, 9, 10, 6, 11, 12, 13, 14, 15, 16, 17, 18, 19, 20, 21, 22]] [(134, .one .bool)] [1, 3, 4, 6, 7, 8, 9, 10, 12]) (.c (.s (.r [2]) .z) .z)))))) (.s (.s (.r [1, 3, 4, 6, 7, 8, 9, 12, 137]) (.c (.s (.r [2]) .z) .z)) (.s (.r [1, 3, 4, 6, 7, 8, 9, 138]) (.cj [(6, .one .sl)] [1, 3, 4, 7, 8] (.d [0, 0, 0, 6, 15, 0, 0, 64, 224, 511, 1023] [[1, 2, 3, 5, 6, 7, 8, 0, 4, 9, 10]] [1, 3, 4, 6, 7, 8]) .z))))) (.s (.r [1, 3, 4, 6, 7, 8, 9, 10, 149]) (.cj [(6, .one .sl)] [1, 3, 4, 7, 8] (.s (.r [1, 3, 4, 6, 7, 8, 9, 10, 15]) (.s (.s (.rj [(164, .one .bool)] [1, 3, 4, 6, 7, 8, 9, 15]) (.c (.s (.r [2]) .z) .z)) (.s (.r [1, 3, 4, 6, 7, 8, 9, 165]) (.cj [(6, .one .sl)] [1, 3, 4, 7, 8] (.r [1, 3, 4, 6, 7, 8]) .z)))) .z)))))))) (.s (.rj [(185, .one .bool)] [1, 3, 4, 6, 7, 8]) (.c (.s (.r [2]) .z) .z)))))) (.r [1, 3, 4, 6, 7, 8])))))) (.s (.r [2]) .z)))))))
theorem F_law6_NetKeeps.eq (f20_ : Int → Int → Heap → (Int → Heap → Prop) → Prop) (f21_ : Int → Heap → (Option Addr → Int → Heap → Prop) → Prop) (f22_ : Int → Heap → (Int → Heap → Prop) → Prop) (f23_ : Heap → (Bool → Heap → Prop) → Prop) (f24_ : Option Addr → Int → Sl → Heap → (Bool → Heap → Prop) → Prop) (f25_ : Int → Heap → (Sl → Heap → Prop) → Prop) (f26_ : Option Addr → Int → Heap → (Bool → Heap → Prop) → Prop) (f27_ : Option Addr → Int → Heap → (Int → Sl → Bool → Heap → Prop) → Prop) (f28_ : Int → Sl → Heap → (Int → Heap → Prop) → Prop) (f29_ : Option Addr → Int → Heap → (Bool → Heap → Prop) → Prop) (f30_ : Option Addr → Heap → (Int → Heap → Prop) → Prop) (f31_ : Option Addr → Heap → (Int → Heap → Prop) → Prop) (f32_ : Option Addr → Sl → Heap → (Bool → Heap → Prop) → Prop) (s1 : Int) (s2 : Sl) (h : Heap) (K : Value → Heap → Prop) : F_law6_NetKeeps_of f20_ f21_ f22_ f23_ f24_ f25_ f26_ f27_ f28_ f29_ f30_ f31_ f32_ s1 s2 h (fun (r0 : Bool) (h : Heap) => K (.bool r0) h) =
    den Try.prog (fn1 20 (E_law6_into_of f20_) (fn1 21 (E_net_New_of f21_) (fn1 22 (E_law6_num_of f22_) (fn1 23 (E_law6_lives_of f23_) (fn1 24 (E_net_Net_Send_of f24_) (fn1 25 (E_law6_tag_of f25_) (fn1 26 (E_net_row_Drop_of f26_) (fn1 27 (E_net_row_Take_of f27_) (fn1 28 (E_law6_which_of f28_) (fn1 29 (E_net_row_Double_of f29_) (fn1 30 (E_net_row_Len_of f30_) (fn1 31 (E_net_Net_Lost_of f31_) (fn1 32 (E_law6_drains_of f32_) noFns))))))))))))) Try.f9.ntmps plan9 (bodyOf Try.f9) (args0 0 [(.agg #[.int .i64 s1, .slice s2.ptr s2.len s2.cap] : Value)]) h ⟨fun env h => dRes Try.prog Try.f9.results.toList env h K, fun _ _ _ => False, fun env h => dRes Try.prog Try.f9.results.toList env h K⟩ := by kernel_rfl
def E_law6_NetKeeps_of (f : Int → Sl → Heap → (Bool → Heap → Prop) → Prop) : List Value → Heap → (Value → Heap → Prop) → Prop
  | [v0], h, K => vAgg v0 fun cs0 => decs [.int .i64, .sl] cs0.toList fun (s1 : Int) (s2 : Sl) =>
  f s1 s2 h (fun (r0 : Bool) (h : Heap) => K (.bool r0) h)
  | _, _, _ => False
abbrev E_law6_NetKeeps := E_law6_NetKeeps_of F_law6_NetKeeps
theorem E_law6_NetKeeps.at (f : Int → Sl → Heap → (Bool → Heap → Prop) → Prop) (s1 : Int) (s2 : Sl) (h : Heap) (K : Value → Heap → Prop) : E_law6_NetKeeps_of f [.agg ([.int .i64 s1, .slice s2.ptr s2.len s2.cap] : List Value).toArray] h K = f s1 s2 h (fun (r0 : Bool) (h : Heap) => K (.bool r0) h) := rfl
theorem E_law6_NetKeeps.right : IsRight Try.prog 9 E_law6_NetKeeps := by
  refine isRight fun vs K w hh => ?_
  match vs, hh with
  | [v0], hh =>
    unfold E_law6_NetKeeps E_law6_NetKeeps_of at hh
    replace hh := vAgg_sound hh; obtain ⟨cs0, rfl, hh⟩ := hh
    replace hh := decs_cons hh; obtain ⟨s1, l0_0, e0_0, hh⟩ := hh
    replace hh := decs_cons hh; obtain ⟨s2, l0_1, e0_1, hh⟩ := hh
    replace hh := decs_nil hh; obtain ⟨rfl, hh⟩ := hh
    subst e0_1
    have ec0 := toArray_eq e0_0
    subst ec0
    unfold F_law6_NetKeeps at hh
    exact calls_den (fn1_right ok20 E_law6_into.right (fn1_right ok21 E_net_New.right (fn1_right ok22 E_law6_num.right (fn1_right ok23 E_law6_lives.right (fn1_right ok24 E_net_Net_Send.right (fn1_right ok25 E_law6_tag.right (fn1_right ok26 E_net_row_Drop.right (fn1_right ok27 E_net_row_Take.right (fn1_right ok28 E_law6_which.right (fn1_right ok29 E_net_row_Double.right (fn1_right ok30 E_net_row_Len.right (fn1_right ok31 E_net_Net_Lost.right (fn1_right ok32 E_law6_drains.right noFns_right))))))))))))) plan9 _ w K Try.func9 (by kernel_rfl) (by kernel_rfl) (Eq.mp (F_law6_NetKeeps.eq F_law6_into F_net_New F_law6_num F_law6_lives F_net_Net_Send F_law6_tag F_net_row_Drop F_net_row_Take F_law6_which F_net_row_Double F_net_row_Len F_net_Net_Lost F_law6_drains s1 s2 w.heap K) hh)
theorem ok9 : okFn Try.prog 9 = true := by kernel_rfl
end Go.Proofs.Ytboidjampddfoaa.V
