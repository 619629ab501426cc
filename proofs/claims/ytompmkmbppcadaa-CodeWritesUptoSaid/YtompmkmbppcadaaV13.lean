/-
  THE HEAP BY RESOURCES: a list of assertions, each over blocks of its own ('Sat'); the rules for making, reading, writing, appending; lists that lie in memory ('View', 'buf').
-/
import Derived.Test.YtompmkmbppcadaaV12
namespace Go.Proofs.Ytompmkmbppcadaa.V
open Go Go.RowKit
set_option linter.unusedVariables false
set_option linter.unusedSimpArgs false

abbrev Blks := List (Nat × List Value)
/-- All that was there is as it was; these blocks are new, hold this, and are not one another. -/
structure Held (h0 h : Heap) (E : Blks) : Prop where
  kept : KeptH h0 h
  blk : ∀ p ∈ E, h0.size ≤ p.1 ∧ Blk h p.1 p.2
  dis : (E.map (·.1)).Nodup
theorem Held.none (h : Heap) : Held h h [] := ⟨KeptH.refl h, by simp, by simp⟩
theorem Held.perm {h0 h : Heap} {E F : Blks} (O : Held h0 h E) (p : F.Perm E) : Held h0 h F :=
  ⟨O.kept, fun q hq => O.blk q (p.subset hq), (p.map _).nodup_iff.2 O.dis⟩
theorem Held.sub {h0 h : Heap} {E F : Blks} (O : Held h0 h E) (s : F.Sublist E) : Held h0 h F :=
  ⟨O.kept, fun q hq => O.blk q (s.subset hq), O.dis.sublist (s.map _)⟩
theorem Held.push {h0 h : Heap} {E : Blks} (O : Held h0 h E) (cs : List Value) (T : TypeId) (f : Nat × Nat) (hf : f.1 = f.2 ∨ cs.length ≤ f.1) : Held h0 (h.push (.cells cs.toArray T f)) ((h.size, cs) :: E) := by
  refine ⟨⟨by simp; have := O.kept.size; omega, fun k hk => ?_⟩, ?_, ?_⟩
  · have := O.kept.size
    rw [Array.getElem?_push, if_neg (by omega)]; exact O.kept.at_ k hk
  · intro p hp
    rcases List.mem_cons.1 hp with rfl | hp
    · exact ⟨O.kept.size, T, f, by simp, hf⟩
    · obtain ⟨h1, h2⟩ := O.blk p hp
      refine ⟨h1, ?_⟩
      have := h2.lt
      obtain ⟨T', f', e, hf'⟩ := h2
      exact ⟨T', f', by rw [Array.getElem?_push, if_neg (by omega)]; exact e, hf'⟩
  · rw [List.map_cons, List.nodup_cons]
    refine ⟨fun hm => ?_, O.dis⟩
    obtain ⟨q, hq, e⟩ := List.mem_map.1 hm
    have := (O.blk q hq).2.lt
    omega
theorem setH_blk {h : Heap} {b o : Nat} {cs : List Value} {v : Value} {T : TypeId} {f : Nat × Nat} (e : h[b]? = some (.cells cs.toArray T f)) (k : Nat) :
    (setH h (pt b o) v)[k]? = if b = k then some (.cells (cs.set o v).toArray T f) else h[k]? := by
  unfold setH
  rw [Array.getElem?_modify]
  split
  · rename_i hk; subst hk; simp [e]
  · rfl
theorem Held.set {h0 h : Heap} {E : Blks} {b o : Nat} {cs : List Value} {v : Value} (O : Held h0 h ((b, cs) :: E)) : Held h0 (setH h (pt b o) v) ((b, cs.set o v) :: E) := by
  obtain ⟨hb, B⟩ := O.blk _ (List.mem_cons_self)
  have hlt := B.lt
  obtain ⟨T, f, e, hf⟩ := B
  have hat := setH_blk (o := o) (v := v) e
  have hd := O.dis
  rw [List.map_cons, List.nodup_cons] at hd
  refine ⟨⟨?_, fun k hk => ?_⟩, ?_, ?_⟩
  · have := O.kept.size; simpa [setH] using this
  · rw [hat, if_neg (by simp at hb; omega)]; exact O.kept.at_ k hk
  · intro p hp
    rcases List.mem_cons.1 hp with rfl | hp
    · exact ⟨hb, T, f, by rw [hat, if_pos rfl], by simpa using hf⟩
    · obtain ⟨h1, T', f', e', hf'⟩ := O.blk p (List.mem_cons_of_mem _ hp)
      refine ⟨h1, T', f', ?_, hf'⟩
      rw [hat, if_neg]
      · exact e'
      · intro hbb
        simp only at hbb
        exact hd.1 (List.mem_map.2 ⟨p, hp, hbb.symm⟩)
  · rw [List.map_cons, List.nodup_cons]; exact hd
theorem Held.wr {h0 h : Heap} {E : Blks} {b o : Nat} {cs : List Value} {v : Value} (O : Held h0 h ((b, cs) :: E)) (ho : o < cs.length) (hv : oneV v = true) : wr h (pt b o) v := by
  obtain ⟨hb, B⟩ := O.blk _ (List.mem_cons_self)
  refine ⟨hv, ⟨cs[o], by rw [cellH_blk B]; simp [ho]⟩, ?_⟩
  obtain ⟨T, f, e, hf⟩ := B
  simp only [frozenH, e]
  simp only [Bool.and_eq_false_iff, decide_eq_false_iff_not]
  simp only at hf
  omega
theorem Held.st {h0 : Heap} {E : Blks} {b : Nat} : ∀ {vs : List Value} {h : Heap} {o : Nat} {cs : List Value} {K : Heap → Prop} (O : Held h0 h ((b, cs) :: E)) (ho : o + vs.length ≤ cs.length) (hv : vs.all oneV = true)
    (k : ∀ h', Held h0 h' ((b, V.put cs o vs) :: E) → K h'), st (pt b o) vs h K
  | [], h, o, cs, K, O, ho, hv, k => k h (by rw [put_nil]; exact O)
  | v :: vs, h, o, cs, K, O, ho, hv, k => by
    simp only [List.length_cons] at ho
    simp only [List.all_cons, Bool.and_eq_true] at hv
    refine ⟨O.wr (by omega) hv.1, ?_⟩
    rw [pt_add]
    refine Held.st O.set (by simp; omega) hv.2 ?_
    intro h' O'
    refine k h' ?_
    rw [put_cons _ _ _ _ (by omega)]
    exact O'

theorem Held.mark {h0 h : Heap} {E : Blks} {b : Nat} {cs : List Value} (O : Held h0 h ((b, cs) :: E)) : (∃ T f, h[b]? = some (.cells cs.toArray T f)) ∧ Held h0 (markH h b cs.length) ((b, cs) :: E) := by
  obtain ⟨hb, B⟩ := O.blk _ (List.mem_cons_self)
  obtain ⟨T, f, e, hf⟩ := B
  refine ⟨⟨T, f, e⟩, ?_⟩
  have hat : ∀ k, (markH h b cs.length)[k]? = if b = k then some (.cells cs.toArray T (if f.1 == f.2 then (cs.length, cs.length + 1) else (min f.1 cs.length, max f.2 (cs.length + 1)))) else h[k]? := by
    intro k
    unfold markH
    rw [Array.getElem?_modify]
    split
    · rename_i hk; subst hk; rw [show h[b]? = _ from e]; rfl
    · rfl
  have hd := O.dis
  rw [List.map_cons, List.nodup_cons] at hd
  refine ⟨⟨?_, fun k hk => ?_⟩, ?_, O.dis⟩
  · have := O.kept.size; simpa [markH] using this
  · rw [hat, if_neg (by simp at hb; omega)]; exact O.kept.at_ k hk
  · intro p hp
    rcases List.mem_cons.1 hp with rfl | hp
    · refine ⟨hb, T, _, by rw [hat, if_pos rfl], ?_⟩
      by_cases h1 : f.1 = f.2
      · rw [if_pos (by simpa using h1)]; exact .inr (Nat.le_refl _)
      · rw [if_neg (by simpa using h1)]
        refine .inr ?_
        have h1 : ¬ f.1 = f.2 := h1
        rcases hf with hf | hf
        · exact absurd hf h1
        · have hf : cs.length ≤ f.1 := hf
          show cs.length ≤ min f.1 cs.length
          omega
    · obtain ⟨h1, T', f', e', hf'⟩ := O.blk p (List.mem_cons_of_mem _ hp)
      refine ⟨h1, T', f', ?_, hf'⟩
      rw [hat, if_neg]
      · exact e'
      · intro hbb
        exact hd.1 (List.mem_map.2 ⟨p, hp, hbb.symm⟩)
/-! ### resources -/
abbrev Res := Blks → Prop
def emp : Res := fun E => E = []
def own (b : Nat) (cs : List Value) : Res := fun E => E = [(b, cs)]
def sep (A B : Res) : Res := fun E => ∃ E1 E2, E.Perm (E1 ++ E2) ∧ A E1 ∧ B E2
/-- Under a condition. -/
def pr (p : Prop) (A : Res) : Res := fun E => p ∧ A E
def ex {α : Sort _} (A : α → Res) : Res := fun E => ∃ x, A x E
def star : List Res → Res
  | [] => emp
  | A :: L => sep A (star L)
/-- All that was there is as it was; beside it, each by itself, the list's resources. -/
def Sat (h0 h : Heap) (L : List Res) : Prop := ∃ E, star L E ∧ Held h0 h E
theorem Sat.nil (h : Heap) : Sat h h [] := ⟨[], rfl, Held.none h⟩
theorem Sat.kept {h0 h : Heap} {L : List Res} (O : Sat h0 h L) : KeptH h0 h := by obtain ⟨E, _, O⟩ := O; exact O.kept
theorem Sat.mono {h0 h : Heap} {A B : Res} {L : List Res} (O : Sat h0 h (A :: L)) (i : ∀ E, A E → B E) : Sat h0 h (B :: L) := by
  obtain ⟨E, ⟨E1, E2, p, h1, h2⟩, O⟩ := O
  exact ⟨E, ⟨E1, E2, p, i _ h1, h2⟩, O⟩
theorem Sat.ex {h0 h : Heap} {α : Sort _} {A : α → Res} {L : List Res} (O : Sat h0 h (V.ex A :: L)) : ∃ x, Sat h0 h (A x :: L) := by
  obtain ⟨E, ⟨E1, E2, p, ⟨x, h1⟩, h2⟩, O⟩ := O
  exact ⟨x, E, ⟨E1, E2, p, h1, h2⟩, O⟩
theorem Sat.exI {h0 h : Heap} {α : Sort _} {A : α → Res} {L : List Res} (x : α) (O : Sat h0 h (A x :: L)) : Sat h0 h (V.ex A :: L) := O.mono fun E h => ⟨x, h⟩
theorem Sat.pr {h0 h : Heap} {p : Prop} {A : Res} {L : List Res} (O : Sat h0 h (V.pr p A :: L)) : p ∧ Sat h0 h (A :: L) := by
  obtain ⟨E, ⟨E1, E2, q, ⟨hp, h1⟩, h2⟩, O⟩ := O
  exact ⟨hp, E, ⟨E1, E2, q, h1, h2⟩, O⟩
theorem Sat.prI {h0 h : Heap} {p : Prop} {A : Res} {L : List Res} (hp : p) (O : Sat h0 h (A :: L)) : Sat h0 h (V.pr p A :: L) := O.mono fun E h => ⟨hp, h⟩
theorem perm_cons_app {E E1 E2 F1 F2 : Blks} (p : E.Perm (E1 ++ E2)) (q : E2.Perm (F1 ++ F2)) : E.Perm (F1 ++ (E1 ++ F2)) :=
  p.trans ((List.Perm.append_left _ q).trans (by
    rw [← List.append_assoc, ← List.append_assoc]
    exact List.perm_append_comm.append_right _))
theorem Sat.sep {h0 h : Heap} {A B : Res} {L : List Res} (O : Sat h0 h (V.sep A B :: L)) : Sat h0 h (A :: B :: L) := by
  obtain ⟨E, ⟨E1, E2, p, ⟨F1, F2, q, hA, hB⟩, h2⟩, O⟩ := O
  exact ⟨E, ⟨F1, F2 ++ E2, p.trans ((q.append_right _).trans (by rw [List.append_assoc])), hA, F2, E2, List.Perm.refl _, hB, h2⟩, O⟩
theorem Sat.sepI {h0 h : Heap} {A B : Res} {L : List Res} (O : Sat h0 h (A :: B :: L)) : Sat h0 h (V.sep A B :: L) := by
  obtain ⟨E, ⟨E1, E2, p, hA, F1, F2, q, hB, h2⟩, O⟩ := O
  exact ⟨E, ⟨E1 ++ F1, F2, p.trans ((q.append_left _).trans (by rw [List.append_assoc])), ⟨E1, F1, List.Perm.refl _, hA, hB⟩, h2⟩, O⟩
theorem Sat.emp {h0 h : Heap} {L : List Res} (O : Sat h0 h (V.emp :: L)) : Sat h0 h L := by
  obtain ⟨E, ⟨E1, E2, p, rfl, h2⟩, O⟩ := O
  exact ⟨E2, h2, O.perm p.symm⟩
theorem Sat.empI {h0 h : Heap} {L : List Res} (O : Sat h0 h L) : Sat h0 h (V.emp :: L) := by
  obtain ⟨E, h2, O⟩ := O
  exact ⟨E, ⟨[], E, List.Perm.refl _, rfl, h2⟩, O⟩
theorem Sat.drop {h0 h : Heap} {A : Res} {L : List Res} (O : Sat h0 h (A :: L)) : Sat h0 h L := by
  obtain ⟨E, ⟨E1, E2, p, _, h2⟩, O⟩ := O
  exact ⟨E2, h2, (O.perm p.symm).sub (List.sublist_append_right _ _)⟩
theorem Sat.swap {h0 h : Heap} {A B : Res} {L : List Res} (O : Sat h0 h (A :: B :: L)) : Sat h0 h (B :: A :: L) := by
  obtain ⟨E, ⟨E1, E2, p, hA, F1, F2, q, hB, h2⟩, O⟩ := O
  exact ⟨E, ⟨F1, E1 ++ F2, perm_cons_app p q, hB, E1, F2, List.Perm.refl _, hA, h2⟩, O⟩

/-! ### the list's places -/
def nth : Nat → List Res → Res
  | 0, A :: _ => A
  | i + 1, _ :: L => nth i L
  | _, [] => emp
theorem star_at : ∀ (i : Nat) {L : List Res} {E : Blks}, i < L.length → star L E → ∃ E1 E2, E.Perm (E1 ++ E2) ∧ nth i L E1 ∧ ∀ (B : Res) F, B F → star (L.set i B) (F ++ E2)
  | _, [], _, hi, _ => by simp at hi
  | 0, A :: L, E, _, ⟨E1, E2, p, hA, h2⟩ => ⟨E1, E2, p, hA, fun B F hB => ⟨F, E2, List.Perm.refl _, hB, h2⟩⟩
  | i + 1, A :: L, E, hi, ⟨E1, E2, p, hA, h2⟩ => by
    obtain ⟨F1, F2, q, h3, h4⟩ := star_at i (L := L) (by simpa using hi) h2
    refine ⟨F1, E1 ++ F2, perm_cons_app p q, h3, fun B F hB => ⟨E1, F ++ F2, ?_, hA, h4 B F hB⟩⟩
    rw [← List.append_assoc, ← List.append_assoc]
    exact List.perm_append_comm.append_right _
theorem Sat.at {h0 h : Heap} {L : List Res} (O : Sat h0 h L) (i : Nat) (hi : i < L.length) : ∃ E1 E2, nth i L E1 ∧ Held h0 h (E1 ++ E2) ∧ ∀ (B : Res) F h', B F → Held h0 h' (F ++ E2) → Sat h0 h' (L.set i B) := by
  obtain ⟨E, hs, O⟩ := O
  obtain ⟨E1, E2, p, h1, h2⟩ := star_at i hi hs
  exact ⟨E1, E2, h1, O.perm p.symm, fun B F h' hB O' => ⟨F ++ E2, h2 B F hB, O'⟩⟩
/-- Resources chosen by their places, and all from a place on. -/
def selT (is : List Nat) (n : Nat) (L : List Res) : List Res := is.map (nth · L) ++ L.drop n
theorem star_pairs : ∀ {L : List Res} {E : Blks}, star L E ↔ ∃ Ps : List (Res × Blks), Ps.map (·.1) = L ∧ (∀ p ∈ Ps, p.1 p.2) ∧ E.Perm (Ps.flatMap (·.2))
  | [], E => by
    constructor
    · intro h; exact ⟨[], rfl, by simp, by rw [show E = [] from h]; exact List.Perm.refl _⟩
    · rintro ⟨Ps, h1, h2, h3⟩
      simp at h1; subst h1; simp at h3; exact h3
  | A :: L, E => by
    constructor
    · rintro ⟨E1, E2, p, hA, h2⟩
      obtain ⟨Ps, h3, h4, h5⟩ := star_pairs.1 h2
      refine ⟨(A, E1) :: Ps, by simp [h3], ?_, ?_⟩
      · intro q hq; rcases List.mem_cons.1 hq with rfl | hq; exact hA; exact h4 q hq
      · rw [List.flatMap_cons]; exact p.trans (h5.append_left _)
    · rintro ⟨Ps, h1, h2, h3⟩
      cases Ps with
      | nil => simp at h1
      | cons q Ps =>
        simp only [List.map_cons, List.cons.injEq] at h1
        obtain ⟨rfl, rfl⟩ := h1
        rw [List.flatMap_cons] at h3
        exact ⟨q.2, _, h3, h2 q List.mem_cons_self, star_pairs.2 ⟨Ps, rfl, fun p hp => h2 p (List.mem_cons_of_mem _ hp), List.Perm.refl _⟩⟩
theorem sel_aux {α : Type _} : ∀ (is : List Nat) (Ps : List α), is.Nodup → (∀ i ∈ is, i < Ps.length) → ∃ R, (is.filterMap (fun i => Ps.zipIdx[i]?) ++ R).Perm Ps.zipIdx
  | [], Ps, _, _ => ⟨Ps.zipIdx, by simp⟩
  | i :: is, Ps, hn, hi => by
    rw [List.nodup_cons] at hn
    obtain ⟨R, p⟩ := sel_aux is Ps hn.2 fun j hj => hi j (List.mem_cons_of_mem _ hj)
    have hil := hi i List.mem_cons_self
    have hq : Ps.zipIdx[i]? = some (Ps[i], i) := by simp [hil]
    have hm : (Ps[i], i) ∈ Ps.zipIdx := List.mem_of_getElem? hq
    rcases List.mem_append.1 (p.symm.subset hm) with h | h
    · obtain ⟨j, hj, e⟩ := List.mem_filterMap.1 h
      have hjl := hi j (List.mem_cons_of_mem _ hj)
      simp [hjl] at e
      rw [e.2] at hj
      exact absurd hj hn.1
    · obtain ⟨s, t, rfl⟩ := List.append_of_mem h
      refine ⟨s ++ t, ?_⟩
      rw [List.filterMap_cons, hq]
      refine List.Perm.trans ?_ p
      simp only [List.cons_append]
      rw [← List.append_assoc, ← List.append_assoc]
      exact List.perm_middle.symm
theorem nth_map : ∀ (Ps : List (Res × Blks)) (i : Nat) (hi : i < Ps.length), nth i (Ps.map (·.1)) = (Ps[i]).1
  | [], i, hi => by simp at hi
  | p :: Ps, 0, hi => rfl
  | p :: Ps, i + 1, hi => nth_map Ps i (by simpa using hi)
theorem filterMap_idx {α : Type _} (Ps : List α) (is : List Nat) (hi : ∀ i ∈ is, i < Ps.length) : (is.filterMap (fun i => Ps.zipIdx[i]?)).map (·.1) = is.filterMap (fun i => Ps[i]?) := by
  rw [List.map_filterMap]
  congr 1
  funext i
  simp [Function.comp_def]
theorem filterMap_nth (Ps : List (Res × Blks)) : ∀ (is : List Nat), (∀ i ∈ is, i < Ps.length) → (is.filterMap (fun i => Ps[i]?)).map (·.1) = is.map (nth · (Ps.map (·.1)))
  | [], _ => rfl
  | i :: is, hi => by
    have hil := hi i List.mem_cons_self
    simp only [List.filterMap_cons, List.getElem?_eq_getElem hil, List.map_cons, nth_map Ps i hil]
    congr 1
    exact filterMap_nth Ps is fun j hj => hi j (List.mem_cons_of_mem _ hj)
theorem filterMap_range' {α : Type _} : ∀ (k n : Nat) (Ps : List α), n + k = Ps.length → (List.range' n k).filterMap (fun i => Ps[i]?) = Ps.drop n
  | 0, n, Ps, h => by simp; omega
  | k + 1, n, Ps, h => by
    rw [List.range'_succ, List.filterMap_cons, List.getElem?_eq_getElem (by omega)]
    simp only
    rw [filterMap_range' k (n + 1) Ps (by omega), List.drop_eq_getElem_cons (i := n) (by omega)]
def okSel (is : List Nat) (n : Nat) : Bool := decide is.Nodup && is.all (fun i => decide (i < n))
theorem Sat.sel {h0 h : Heap} {L : List Res} (O : Sat h0 h L) (is : List Nat) (n : Nat) (c : okSel is n = true) (hl : n ≤ L.length) : Sat h0 h (selT is n L) := by
  obtain ⟨E, hs, O⟩ := O
  obtain ⟨Ps, rfl, h1, h2⟩ := star_pairs.1 hs
  simp only [okSel, Bool.and_eq_true, decide_eq_true_eq, List.all_eq_true] at c
  rw [List.length_map] at hl
  have hb : ∀ i ∈ is ++ List.range' n (Ps.length - n), i < Ps.length := by
    intro i hi
    rcases List.mem_append.1 hi with hi | hi
    · have := c.2 i hi; omega
    · have := List.mem_range'_1.1 hi; omega
  obtain ⟨R, p⟩ := sel_aux (is ++ List.range' n (Ps.length - n)) Ps (List.nodup_append.2 ⟨c.1, List.nodup_range', fun i hi j hj => by
    have := c.2 i hi
    have := List.mem_range'_1.1 hj
    omega⟩) hb
  have p1 := p.map (·.1)
  rw [List.map_append, filterMap_idx Ps _ hb, List.filterMap_append, filterMap_range' _ _ _ (by omega), show Ps.zipIdx.map (·.1) = Ps by simp] at p1
  have p2 := p1.flatMap_right (·.2)
  rw [List.flatMap_append] at p2
  have hsel : ∀ q ∈ is.filterMap (fun i => Ps[i]?) ++ Ps.drop n, q ∈ Ps := fun q hq => p1.subset (List.mem_append.2 (.inl hq))
  refine ⟨_, star_pairs.2 ⟨is.filterMap (fun i => Ps[i]?) ++ Ps.drop n, ?_, fun q hq => h1 q (hsel q hq), List.Perm.refl _⟩, (O.perm (p2.trans h2.symm)).sub (List.sublist_append_left _ _)⟩
  rw [List.map_append, filterMap_nth Ps is fun i hi => hb i (List.mem_append.2 (.inl hi)), selT, List.map_drop]
/-- What was made over a heap, beside what was there. -/
theorem Sat.stack {h0 h h' : Heap} {L M : List Res} (O : Sat h0 h L) (N : Sat h h' M) : Sat h0 h' (M ++ L) := by
  obtain ⟨E, hs, O⟩ := O
  obtain ⟨F, ht, N⟩ := N
  obtain ⟨Ps, rfl, h1, h2⟩ := star_pairs.1 hs
  obtain ⟨Qs, rfl, h3, h4⟩ := star_pairs.1 ht
  refine ⟨F ++ E, star_pairs.2 ⟨Qs ++ Ps, by simp, ?_, ?_⟩, O.kept.trans N.kept, ?_, ?_⟩
  · intro p hp; rcases List.mem_append.1 hp with hp | hp; exact h3 p hp; exact h1 p hp
  · rw [List.flatMap_append]; exact h4.append h2
  · intro p hp
    rcases List.mem_append.1 hp with hp | hp
    · obtain ⟨a, b⟩ := N.blk p hp
      exact ⟨Nat.le_trans O.kept.size a, b⟩
    · obtain ⟨a, b⟩ := O.blk p hp
      refine ⟨a, ?_⟩
      have hlt := b.lt
      obtain ⟨T, f, e, hf⟩ := b
      exact ⟨T, f, by rw [N.kept.at_ _ hlt]; exact e, hf⟩
  · rw [List.map_append, List.nodup_append]
    refine ⟨N.dis, O.dis, ?_⟩
    intro a ha b hb
    obtain ⟨p, hp, rfl⟩ := List.mem_map.1 ha
    obtain ⟨q, hq, rfl⟩ := List.mem_map.1 hb
    have := (N.blk p hp).1
    have := (O.blk q hq).2.lt
    omega
theorem Sat.kept2 {h0 h h' : Heap} {L : List Res} (O : Sat h0 h L) (k : KeptH h h') : Sat h0 h' L := by
  have := O.stack (M := []) (h' := h') ⟨[], rfl, ⟨k, by simp, by simp⟩⟩
  exact this
theorem Sat.app {h0 h : Heap} {L M : List Res} (O : Sat h0 h (L ++ M)) : Sat h0 h M := by
  induction L with
  | nil => exact O
  | cons A L ih => exact ih O.drop

/-! ### making, reading, writing -/
theorem Sat.push {h0 h : Heap} {L : List Res} (O : Sat h0 h L) (cs : List Value) (T : TypeId) (f : Nat × Nat) (hf : f.1 = f.2 ∨ cs.length ≤ f.1) : Sat h0 (h.push (.cells cs.toArray T f)) (own h.size cs :: L) := by
  obtain ⟨E, hs, O⟩ := O
  exact ⟨_, ⟨[(h.size, cs)], E, List.Perm.refl _, rfl, hs⟩, O.push cs T f hf⟩
theorem Sat.al {h0 h : Heap} {L : List Res} {T : TypeId} {cs : List Value} {K : Addr → Heap → Prop} (O : Sat h0 h L) (k : ∀ b h', Sat h0 h' (own b cs :: L) → K (pt b 0) h') : al T cs h K :=
  k h.size _ (O.push cs T (0, 0) (.inl rfl))
theorem Sat.blk {h0 h : Heap} {L : List Res} (O : Sat h0 h L) {i b : Nat} {cs : List Value} (hl : i < L.length) (hi : nth i L = own b cs) : h0.size ≤ b ∧ Blk h b cs := by
  obtain ⟨E1, E2, h1, O', _⟩ := O.at i hl
  rw [hi] at h1
  rw [show E1 = [(b, cs)] from h1] at O'
  exact O'.blk _ List.mem_cons_self
theorem Blk.ld {h : Heap} {b o : Nat} {cs : List Value} (B : Blk h b cs) {ks : List Kd} {K : Fn ks Prop} (hl : ldL ks (cs.drop o) K) : ld ks (pt b o) h K := by
  have := cellsAre_blk B o (cs.drop o).length
  rw [List.take_length] at this
  exact ld_are this hl
theorem nth_lt : ∀ {i : Nat} {L : List Res} {b : Nat} {cs : List Value}, nth i L = own b cs → i < L.length
  | 0, _ :: _, _, _, _ => by simp
  | i + 1, _ :: L, _, _, h => by have := nth_lt (i := i) (L := L) h; simpa using this
  | 0, [], b, cs, h => by
    have := congrFun h []
    simp [nth, emp, own] at this
  | i + 1, [], b, cs, h => by
    have := congrFun h []
    simp [nth, emp, own] at this
theorem Sat.ld {h0 h : Heap} {L : List Res} (O : Sat h0 h L) (i : Nat) {b o : Nat} {cs : List Value} {ks : List Kd} {K : Fn ks Prop} (hi : nth i L = own b cs) (hl : ldL ks (cs.drop o) K) : ld ks (pt b o) h K :=
  (O.blk (nth_lt hi) hi).2.ld hl
theorem Sat.st {h0 h : Heap} {L : List Res} (O : Sat h0 h L) (i : Nat) {b o : Nat} {cs vs : List Value} {K : Heap → Prop} (hi : nth i L = own b cs) (ho : o + vs.length ≤ cs.length) (hv : vs.all oneV = true)
    (k : ∀ h', Sat h0 h' (L.set i (own b (V.put cs o vs))) → K h') : st (pt b o) vs h K := by
  obtain ⟨E1, E2, h1, O', h2⟩ := O.at i (nth_lt hi)
  rw [hi] at h1
  rw [show E1 = [(b, cs)] from h1] at O'
  exact Held.st O' ho hv fun h' O'' => k h' (h2 _ [(b, V.put cs o vs)] h' rfl O'')
theorem Sat.frz {h0 h : Heap} {L : List Res} {b o : Nat} {cs : List Value} {K : Heap → Prop} (O : Sat h0 h (own b cs :: L)) (k : ∀ h', Sat h0 h' (own b cs :: L) → K h') : V.frz (some (pt b o)) h K := by
  obtain ⟨E, ⟨E1, E2, p, hA, h2⟩, O⟩ := O
  have hA' : E1 = [(b, cs)] := hA
  subst hA'
  obtain ⟨⟨T, f, e⟩, O'⟩ := (O.perm p.symm).mark
  refine ⟨_, _, T, f, rfl, e, ?_⟩
  rw [show cs.toArray.size = cs.length by simp]
  exact k _ ⟨_, ⟨[(b, cs)], E2, List.Perm.refl _, rfl, h2⟩, O'⟩
end Go.Proofs.Ytompmkmbppcadaa.V
