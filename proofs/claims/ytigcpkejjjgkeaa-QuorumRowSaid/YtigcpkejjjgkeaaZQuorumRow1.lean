import Derived.Test.YtigcpkejjjgkeaaZQuorumRow0
import Derived.Laws.Append
import Derived.Test.YtigcpkejjjgkeaaProg
/-
  THE HEAP BY RESOURCES: a list of assertions, each over blocks of its own ('Sat'); the rules for making, reading, writing, appending; lists that lie in memory ('View', 'buf').
-/
namespace Go.Proofs.Ytigcpkejjjgkeaa.V
open Go Go.RowKit
set_option linter.unusedVariables false
set_option linter.unusedSimpArgs false

/-- A block's content: cells, or a map whose keys (whole numbers) stand for true. -/
abbrev Cnt := List Value ⊕ List Int
abbrev Blks := List (Nat × Cnt)
def MapIs (h : Heap) (r : Nat) (l : List Int) : Prop := ∃ es c, h[r]? = some (.map es c) ∧ es.toList.map (fun e => (e.key, e.val)) = l.map fun n => (Value.int .i64 n, Value.bool true)
def BlkX (h : Heap) (b : Nat) : Cnt → Prop
  | .inl cs => Blk h b cs
  | .inr l => MapIs h b l
theorem BlkX.lt {h : Heap} {b : Nat} {c : Cnt} (B : BlkX h b c) : b < h.size := by
  cases c with
  | inl cs => exact Blk.lt B
  | inr l => obtain ⟨es, k, e, _⟩ := B; exact (Array.getElem?_eq_some_iff.1 e).1
theorem BlkX.same {h h' : Heap} {b : Nat} {c : Cnt} (B : BlkX h b c) (e : h'[b]? = h[b]?) : BlkX h' b c := by
  cases c with
  | inl cs => obtain ⟨T, f, q, hf⟩ := B; exact ⟨T, f, e.trans q, hf⟩
  | inr l => obtain ⟨es, k, q, hm⟩ := B; exact ⟨es, k, e.trans q, hm⟩
/-- All that was there is as it was; these blocks are new, hold this, and are not one another. -/
structure Held (h0 h : Heap) (E : Blks) : Prop where
  kept : KeptH h0 h
  blk : ∀ p ∈ E, h0.size ≤ p.1 ∧ BlkX h p.1 p.2
  dis : (E.map (·.1)).Nodup
theorem Held.none (h : Heap) : Held h h [] := ⟨KeptH.refl h, by simp, by simp⟩
theorem Held.perm {h0 h : Heap} {E F : Blks} (O : Held h0 h E) (p : F.Perm E) : Held h0 h F :=
  ⟨O.kept, fun q hq => O.blk q (p.subset hq), (p.map _).nodup_iff.2 O.dis⟩
theorem Held.sub {h0 h : Heap} {E F : Blks} (O : Held h0 h E) (s : F.Sublist E) : Held h0 h F :=
  ⟨O.kept, fun q hq => O.blk q (s.subset hq), O.dis.sublist (s.map _)⟩
theorem Held.more {h0 h : Heap} {E : Blks} (O : Held h0 h E) (o : Obj) (c : Cnt) (B : BlkX (h.push o) h.size c) : Held h0 (h.push o) ((h.size, c) :: E) := by
  refine ⟨⟨by simp; have := O.kept.size; omega, fun k hk => ?_⟩, ?_, ?_⟩
  · have := O.kept.size
    rw [Array.getElem?_push, if_neg (by omega)]; exact O.kept.at_ k hk
  · intro p hp
    rcases List.mem_cons.1 hp with rfl | hp
    · exact ⟨O.kept.size, B⟩
    · obtain ⟨h1, h2⟩ := O.blk p hp
      have := h2.lt
      exact ⟨h1, h2.same (by rw [Array.getElem?_push, if_neg (by omega)])⟩
  · rw [List.map_cons, List.nodup_cons]
    refine ⟨fun hm => ?_, O.dis⟩
    obtain ⟨q, hq, e⟩ := List.mem_map.1 hm
    have := (O.blk q hq).2.lt
    omega
theorem Held.push {h0 h : Heap} {E : Blks} (O : Held h0 h E) (cs : List Value) (T : TypeId) (f : Nat × Nat) (hf : f.1 = f.2 ∨ cs.length ≤ f.1) : Held h0 (h.push (.cells cs.toArray T f)) ((h.size, .inl cs) :: E) :=
  O.more _ _ ⟨T, f, by simp, hf⟩
/-- One block alone becomes another. -/
theorem Held.change {h0 h h' : Heap} {E : Blks} {b : Nat} {c c' : Cnt} (O : Held h0 h ((b, c) :: E)) (hs : h'.size = h.size) (ho : ∀ k, b ≠ k → h'[k]? = h[k]?) (B : BlkX h' b c') : Held h0 h' ((b, c') :: E) := by
  obtain ⟨hb, B0⟩ := O.blk _ (List.mem_cons_self)
  have hd := O.dis
  rw [List.map_cons, List.nodup_cons] at hd
  refine ⟨⟨by rw [hs]; exact O.kept.size, fun k hk => ?_⟩, ?_, ?_⟩
  · rw [ho k (by simp at hb; omega)]; exact O.kept.at_ k hk
  · intro p hp
    rcases List.mem_cons.1 hp with rfl | hp
    · exact ⟨hb, B⟩
    · obtain ⟨h1, h2⟩ := O.blk p (List.mem_cons_of_mem _ hp)
      exact ⟨h1, h2.same (ho _ fun hbb => hd.1 (List.mem_map.2 ⟨p, hp, hbb.symm⟩))⟩
  · rw [List.map_cons, List.nodup_cons]; exact hd
theorem setH_blk {h : Heap} {b o : Nat} {cs : List Value} {v : Value} {T : TypeId} {f : Nat × Nat} (e : h[b]? = some (.cells cs.toArray T f)) (k : Nat) :
    (setH h (pt b o) v)[k]? = if b = k then some (.cells (cs.set o v).toArray T f) else h[k]? := by
  unfold setH
  rw [Array.getElem?_modify]
  split
  · rename_i hk; subst hk; simp [e]
  · rfl
theorem Held.set {h0 h : Heap} {E : Blks} {b o : Nat} {cs : List Value} {v : Value} (O : Held h0 h ((b, .inl cs) :: E)) : Held h0 (setH h (pt b o) v) ((b, .inl (cs.set o v)) :: E) := by
  obtain ⟨hb, T, f, e, hf⟩ := O.blk _ (List.mem_cons_self)
  have hat := setH_blk (o := o) (v := v) e
  exact O.change (by simp [setH]) (fun k hk => by rw [hat, if_neg hk]) ⟨T, f, by rw [hat, if_pos rfl], by simpa using hf⟩
theorem Held.wr {h0 h : Heap} {E : Blks} {b o : Nat} {cs : List Value} {v : Value} (O : Held h0 h ((b, .inl cs) :: E)) (ho : o < cs.length) (hv : oneV v = true) : wr h (pt b o) v := by
  obtain ⟨hb, B⟩ := O.blk _ (List.mem_cons_self)
  have B : Blk h b cs := B
  refine ⟨hv, ⟨cs[o], by rw [cellH_blk B]; simp [ho]⟩, ?_⟩
  obtain ⟨T, f, e, hf⟩ := B
  simp only [frozenH, e]
  simp only [Bool.and_eq_false_iff, decide_eq_false_iff_not]
  omega
theorem Held.st {h0 : Heap} {E : Blks} {b : Nat} : ∀ {vs : List Value} {h : Heap} {o : Nat} {cs : List Value} {K : Heap → Prop} (O : Held h0 h ((b, .inl cs) :: E)) (ho : o + vs.length ≤ cs.length) (hv : vs.all oneV = true)
    (k : ∀ h', Held h0 h' ((b, .inl (V.put cs o vs)) :: E) → K h'), st (pt b o) vs h K
  | [], h, o, cs, K, O, ho, hv, k => k h (by rw [put_nil]; exact O)
  | v :: vs, h, o, cs, K, O, ho, hv, k => by
    simp only [List.length_cons] at ho
    simp only [List.all_cons, Bool.and_eq_true] at hv
    refine ⟨O.wr (by omega) hv.1, ?_⟩
    rw [pt_add]
    refine Held.st O.set (by simp; omega) hv.2 ?_
    intro h' O'
    refine k h' ?_
    rw [put_cons _ _ _ _ (by omega)]
    exact O'

theorem Held.mark {h0 h : Heap} {E : Blks} {b : Nat} {cs : List Value} (O : Held h0 h ((b, .inl cs) :: E)) : (∃ T f, h[b]? = some (.cells cs.toArray T f)) ∧ Held h0 (markH h b cs.length) ((b, .inl cs) :: E) := by
  obtain ⟨hb, T, f, e, hf⟩ := O.blk _ (List.mem_cons_self)
  refine ⟨⟨T, f, e⟩, ?_⟩
  have hat : ∀ k, (markH h b cs.length)[k]? = if b = k then some (.cells cs.toArray T (if f.1 == f.2 then (cs.length, cs.length + 1) else (min f.1 cs.length, max f.2 (cs.length + 1)))) else h[k]? := by
    intro k
    unfold markH
    rw [Array.getElem?_modify]
    split
    · rename_i hk; subst hk; rw [show h[b]? = _ from e]; rfl
    · rfl
  refine O.change (by simp [markH]) (fun k hk => by rw [hat, if_neg hk]) ⟨T, _, by rw [hat, if_pos rfl], ?_⟩
  by_cases h1 : f.1 = f.2
  · rw [if_pos (by simpa using h1)]; exact .inr (Nat.le_refl _)
  · rw [if_neg (by simpa using h1)]
    refine .inr ?_
    have h1 : ¬ f.1 = f.2 := h1
    rcases hf with hf | hf
    · exact absurd hf h1
    · have hf : cs.length ≤ f.1 := hf
      show cs.length ≤ min f.1 cs.length
      omega
abbrev Res := Blks → Prop
def emp : Res := fun E => E = []
def own (b : Nat) (cs : List Value) : Res := fun E => E = [(b, .inl cs)]
/-- A map whose keys stand for true, in the order in which they came. -/
def mapR (r : Nat) (l : List Int) : Res := fun E => E = [(r, .inr l)]
def sep (A B : Res) : Res := fun E => ∃ E1 E2, E.Perm (E1 ++ E2) ∧ A E1 ∧ B E2
/-- Under a condition. -/
def pr (p : Prop) (A : Res) : Res := fun E => p ∧ A E
def ex {α : Sort _} (A : α → Res) : Res := fun E => ∃ x, A x E
def star : List Res → Res
  | [] => emp
  | A :: L => sep A (star L)
/-- All that was there is as it was; beside it, each by itself, the list's resources. -/
def Sat (h0 h : Heap) (L : List Res) : Prop := ∃ E, star L E ∧ Held h0 h E
theorem Sat.nil (h : Heap) : Sat h h [] := ⟨[], rfl, Held.none h⟩
theorem Sat.kept {h0 h : Heap} {L : List Res} (O : Sat h0 h L) : KeptH h0 h := by obtain ⟨E, _, O⟩ := O; exact O.kept
theorem Sat.mono {h0 h : Heap} {A B : Res} {L : List Res} (O : Sat h0 h (A :: L)) (i : ∀ E, A E → B E) : Sat h0 h (B :: L) := by
  obtain ⟨E, ⟨E1, E2, p, h1, h2⟩, O⟩ := O
  exact ⟨E, ⟨E1, E2, p, i _ h1, h2⟩, O⟩
theorem Sat.ex {h0 h : Heap} {α : Sort _} {A : α → Res} {L : List Res} (O : Sat h0 h (V.ex A :: L)) : ∃ x, Sat h0 h (A x :: L) := by
  obtain ⟨E, ⟨E1, E2, p, ⟨x, h1⟩, h2⟩, O⟩ := O
  exact ⟨x, E, ⟨E1, E2, p, h1, h2⟩, O⟩
theorem Sat.exI {h0 h : Heap} {α : Sort _} {A : α → Res} {L : List Res} (x : α) (O : Sat h0 h (A x :: L)) : Sat h0 h (V.ex A :: L) := O.mono fun E h => ⟨x, h⟩
theorem Sat.pr {h0 h : Heap} {p : Prop} {A : Res} {L : List Res} (O : Sat h0 h (V.pr p A :: L)) : p ∧ Sat h0 h (A :: L) := by
  obtain ⟨E, ⟨E1, E2, q, ⟨hp, h1⟩, h2⟩, O⟩ := O
  exact ⟨hp, E, ⟨E1, E2, q, h1, h2⟩, O⟩
theorem Sat.prI {h0 h : Heap} {p : Prop} {A : Res} {L : List Res} (hp : p) (O : Sat h0 h (A :: L)) : Sat h0 h (V.pr p A :: L) := O.mono fun E h => ⟨hp, h⟩
theorem perm_cons_app {E E1 E2 F1 F2 : Blks} (p : E.Perm (E1 ++ E2)) (q : E2.Perm (F1 ++ F2)) : E.Perm (F1 ++ (E1 ++ F2)) :=
  p.trans ((List.Perm.append_left _ q).trans (by
    rw [← List.append_assoc, ← List.append_assoc]
    exact List.perm_append_comm.append_right _))
theorem Sat.sep {h0 h : Heap} {A B : Res} {L : List Res} (O : Sat h0 h (V.sep A B :: L)) : Sat h0 h (A :: B :: L) := by
  obtain ⟨E, ⟨E1, E2, p, ⟨F1, F2, q, hA, hB⟩, h2⟩, O⟩ := O
  exact ⟨E, ⟨F1, F2 ++ E2, p.trans ((q.append_right _).trans (by rw [List.append_assoc])), hA, F2, E2, List.Perm.refl _, hB, h2⟩, O⟩
theorem Sat.sepI {h0 h : Heap} {A B : Res} {L : List Res} (O : Sat h0 h (A :: B :: L)) : Sat h0 h (V.sep A B :: L) := by
  obtain ⟨E, ⟨E1, E2, p, hA, F1, F2, q, hB, h2⟩, O⟩ := O
  exact ⟨E, ⟨E1 ++ F1, F2, p.trans ((q.append_left _).trans (by rw [List.append_assoc])), ⟨E1, F1, List.Perm.refl _, hA, hB⟩, h2⟩, O⟩
theorem Sat.emp {h0 h : Heap} {L : List Res} (O : Sat h0 h (V.emp :: L)) : Sat h0 h L := by
  obtain ⟨E, ⟨E1, E2, p, rfl, h2⟩, O⟩ := O
  exact ⟨E2, h2, O.perm p.symm⟩
theorem Sat.empI {h0 h : Heap} {L : List Res} (O : Sat h0 h L) : Sat h0 h (V.emp :: L) := by
  obtain ⟨E, h2, O⟩ := O
  exact ⟨E, ⟨[], E, List.Perm.refl _, rfl, h2⟩, O⟩
theorem Sat.drop {h0 h : Heap} {A : Res} {L : List Res} (O : Sat h0 h (A :: L)) : Sat h0 h L := by
  obtain ⟨E, ⟨E1, E2, p, _, h2⟩, O⟩ := O
  exact ⟨E2, h2, (O.perm p.symm).sub (List.sublist_append_right _ _)⟩
theorem Sat.swap {h0 h : Heap} {A B : Res} {L : List Res} (O : Sat h0 h (A :: B :: L)) : Sat h0 h (B :: A :: L) := by
  obtain ⟨E, ⟨E1, E2, p, hA, F1, F2, q, hB, h2⟩, O⟩ := O
  exact ⟨E, ⟨F1, E1 ++ F2, perm_cons_app p q, hB, E1, F2, List.Perm.refl _, hA, h2⟩, O⟩

def nth : Nat → List Res → Res
  | 0, A :: _ => A
  | i + 1, _ :: L => nth i L
  | _, [] => emp
theorem star_at : ∀ (i : Nat) {L : List Res} {E : Blks}, i < L.length → star L E → ∃ E1 E2, E.Perm (E1 ++ E2) ∧ nth i L E1 ∧ ∀ (B : Res) F, B F → star (L.set i B) (F ++ E2)
  | _, [], _, hi, _ => by simp at hi
  | 0, A :: L, E, _, ⟨E1, E2, p, hA, h2⟩ => ⟨E1, E2, p, hA, fun B F hB => ⟨F, E2, List.Perm.refl _, hB, h2⟩⟩
  | i + 1, A :: L, E, hi, ⟨E1, E2, p, hA, h2⟩ => by
    obtain ⟨F1, F2, q, h3, h4⟩ := star_at i (L := L) (by simpa using hi) h2
    refine ⟨F1, E1 ++ F2, perm_cons_app p q, h3, fun B F hB => ⟨E1, F ++ F2, ?_, hA, h4 B F hB⟩⟩
    rw [← List.append_assoc, ← List.append_assoc]
    exact List.perm_append_comm.append_right _
theorem Sat.at {h0 h : Heap} {L : List Res} (O : Sat h0 h L) (i : Nat) (hi : i < L.length) : ∃ E1 E2, nth i L E1 ∧ Held h0 h (E1 ++ E2) ∧ ∀ (B : Res) F h', B F → Held h0 h' (F ++ E2) → Sat h0 h' (L.set i B) := by
  obtain ⟨E, hs, O⟩ := O
  obtain ⟨E1, E2, p, h1, h2⟩ := star_at i hi hs
  exact ⟨E1, E2, h1, O.perm p.symm, fun B F h' hB O' => ⟨F ++ E2, h2 B F hB, O'⟩⟩
/-- Resources chosen by their places, and all from a place on. -/
def selT (is : List Nat) (n : Nat) (L : List Res) : List Res := is.map (nth · L) ++ L.drop n
theorem star_pairs : ∀ {L : List Res} {E : Blks}, star L E ↔ ∃ Ps : List (Res × Blks), Ps.map (·.1) = L ∧ (∀ p ∈ Ps, p.1 p.2) ∧ E.Perm (Ps.flatMap (·.2))
  | [], E => by
    constructor
    · intro h; exact ⟨[], rfl, by simp, by rw [show E = [] from h]; exact List.Perm.refl _⟩
    · rintro ⟨Ps, h1, h2, h3⟩
      simp at h1; subst h1; simp at h3; exact h3
  | A :: L, E => by
    constructor
    · rintro ⟨E1, E2, p, hA, h2⟩
      obtain ⟨Ps, h3, h4, h5⟩ := star_pairs.1 h2
      refine ⟨(A, E1) :: Ps, by simp [h3], ?_, ?_⟩
      · intro q hq; rcases List.mem_cons.1 hq with rfl | hq; exact hA; exact h4 q hq
      · rw [List.flatMap_cons]; exact p.trans (h5.append_left _)
    · rintro ⟨Ps, h1, h2, h3⟩
      cases Ps with
      | nil => simp at h1
      | cons q Ps =>
        simp only [List.map_cons, List.cons.injEq] at h1
        obtain ⟨rfl, rfl⟩ := h1
        rw [List.flatMap_cons] at h3
        exact ⟨q.2, _, h3, h2 q List.mem_cons_self, star_pairs.2 ⟨Ps, rfl, fun p hp => h2 p (List.mem_cons_of_mem _ hp), List.Perm.refl _⟩⟩
theorem sel_aux {α : Type _} : ∀ (is : List Nat) (Ps : List α), is.Nodup → (∀ i ∈ is, i < Ps.length) → ∃ R, (is.filterMap (fun i => Ps.zipIdx[i]?) ++ R).Perm Ps.zipIdx
  | [], Ps, _, _ => ⟨Ps.zipIdx, by simp⟩
  | i :: is, Ps, hn, hi => by
    rw [List.nodup_cons] at hn
    obtain ⟨R, p⟩ := sel_aux is Ps hn.2 fun j hj => hi j (List.mem_cons_of_mem _ hj)
    have hil := hi i List.mem_cons_self
    have hq : Ps.zipIdx[i]? = some (Ps[i], i) := by simp [hil]
    have hm : (Ps[i], i) ∈ Ps.zipIdx := List.mem_of_getElem? hq
    rcases List.mem_append.1 (p.symm.subset hm) with h | h
    · obtain ⟨j, hj, e⟩ := List.mem_filterMap.1 h
      have hjl := hi j (List.mem_cons_of_mem _ hj)
      simp [hjl] at e
      rw [e.2] at hj
      exact absurd hj hn.1
    · obtain ⟨s, t, rfl⟩ := List.append_of_mem h
      refine ⟨s ++ t, ?_⟩
      rw [List.filterMap_cons, hq]
      refine List.Perm.trans ?_ p
      simp only [List.cons_append]
      rw [← List.append_assoc, ← List.append_assoc]
      exact List.perm_middle.symm
theorem nth_map : ∀ (Ps : List (Res × Blks)) (i : Nat) (hi : i < Ps.length), nth i (Ps.map (·.1)) = (Ps[i]).1
  | [], i, hi => by simp at hi
  | p :: Ps, 0, hi => rfl
  | p :: Ps, i + 1, hi => nth_map Ps i (by simpa using hi)
theorem filterMap_idx {α : Type _} (Ps : List α) (is : List Nat) (hi : ∀ i ∈ is, i < Ps.length) : (is.filterMap (fun i => Ps.zipIdx[i]?)).map (·.1) = is.filterMap (fun i => Ps[i]?) := by
  rw [List.map_filterMap]
  congr 1
  funext i
  simp [Function.comp_def]
theorem filterMap_nth (Ps : List (Res × Blks)) : ∀ (is : List Nat), (∀ i ∈ is, i < Ps.length) → (is.filterMap (fun i => Ps[i]?)).map (·.1) = is.map (nth · (Ps.map (·.1)))
  | [], _ => rfl
  | i :: is, hi => by
    have hil := hi i List.mem_cons_self
    simp only [List.filterMap_cons, List.getElem?_eq_getElem hil, List.map_cons, nth_map Ps i hil]
    congr 1
    exact filterMap_nth Ps is fun j hj => hi j (List.mem_cons_of_mem _ hj)
theorem filterMap_range' {α : Type _} : ∀ (k n : Nat) (Ps : List α), n + k = Ps.length → (List.range' n k).filterMap (fun i => Ps[i]?) = Ps.drop n
  | 0, n, Ps, h => by simp; omega
  | k + 1, n, Ps, h => by
    rw [List.range'_succ, List.filterMap_cons, List.getElem?_eq_getElem (by omega)]
    simp only
    rw [filterMap_range' k (n + 1) Ps (by omega), List.drop_eq_getElem_cons (i := n) (by omega)]
def okSel (is : List Nat) (n : Nat) : Bool := decide is.Nodup && is.all (fun i => decide (i < n))
theorem Sat.sel {h0 h : Heap} {L : List Res} (O : Sat h0 h L) (is : List Nat) (n : Nat) (c : okSel is n = true) (hl : n ≤ L.length) : Sat h0 h (selT is n L) := by
  obtain ⟨E, hs, O⟩ := O
  obtain ⟨Ps, rfl, h1, h2⟩ := star_pairs.1 hs
  simp only [okSel, Bool.and_eq_true, decide_eq_true_eq, List.all_eq_true] at c
  rw [List.length_map] at hl
  have hb : ∀ i ∈ is ++ List.range' n (Ps.length - n), i < Ps.length := by
    intro i hi
    rcases List.mem_append.1 hi with hi | hi
    · have := c.2 i hi; omega
    · have := List.mem_range'_1.1 hi; omega
  obtain ⟨R, p⟩ := sel_aux (is ++ List.range' n (Ps.length - n)) Ps (List.nodup_append.2 ⟨c.1, List.nodup_range', fun i hi j hj => by
    have := c.2 i hi
    have := List.mem_range'_1.1 hj
    omega⟩) hb
  have p1 := p.map (·.1)
  rw [List.map_append, filterMap_idx Ps _ hb, List.filterMap_append, filterMap_range' _ _ _ (by omega), show Ps.zipIdx.map (·.1) = Ps by simp] at p1
  have p2 := p1.flatMap_right (·.2)
  rw [List.flatMap_append] at p2
  have hsel : ∀ q ∈ is.filterMap (fun i => Ps[i]?) ++ Ps.drop n, q ∈ Ps := fun q hq => p1.subset (List.mem_append.2 (.inl hq))
  refine ⟨_, star_pairs.2 ⟨is.filterMap (fun i => Ps[i]?) ++ Ps.drop n, ?_, fun q hq => h1 q (hsel q hq), List.Perm.refl _⟩, (O.perm (p2.trans h2.symm)).sub (List.sublist_append_left _ _)⟩
  rw [List.map_append, filterMap_nth Ps is fun i hi => hb i (List.mem_append.2 (.inl hi)), selT, List.map_drop]
/-- What was made over a heap, beside what was there. -/
theorem Sat.stack {h0 h h' : Heap} {L M : List Res} (O : Sat h0 h L) (N : Sat h h' M) : Sat h0 h' (M ++ L) := by
  obtain ⟨E, hs, O⟩ := O
  obtain ⟨F, ht, N⟩ := N
  obtain ⟨Ps, rfl, h1, h2⟩ := star_pairs.1 hs
  obtain ⟨Qs, rfl, h3, h4⟩ := star_pairs.1 ht
  refine ⟨F ++ E, star_pairs.2 ⟨Qs ++ Ps, by simp, ?_, ?_⟩, O.kept.trans N.kept, ?_, ?_⟩
  · intro p hp; rcases List.mem_append.1 hp with hp | hp; exact h3 p hp; exact h1 p hp
  · rw [List.flatMap_append]; exact h4.append h2
  · intro p hp
    rcases List.mem_append.1 hp with hp | hp
    · obtain ⟨a, b⟩ := N.blk p hp
      exact ⟨Nat.le_trans O.kept.size a, b⟩
    · obtain ⟨a, b⟩ := O.blk p hp
      refine ⟨a, ?_⟩
      have hlt := b.lt
      exact b.same (N.kept.at_ _ hlt)
  · rw [List.map_append, List.nodup_append]
    refine ⟨N.dis, O.dis, ?_⟩
    intro a ha b hb
    obtain ⟨p, hp, rfl⟩ := List.mem_map.1 ha
    obtain ⟨q, hq, rfl⟩ := List.mem_map.1 hb
    have := (N.blk p hp).1
    have := (O.blk q hq).2.lt
    omega
theorem Sat.kept2 {h0 h h' : Heap} {L : List Res} (O : Sat h0 h L) (k : KeptH h h') : Sat h0 h' L := by
  have := O.stack (M := []) (h' := h') ⟨[], rfl, ⟨k, by simp, by simp⟩⟩
  exact this
theorem Sat.app {h0 h : Heap} {L M : List Res} (O : Sat h0 h (L ++ M)) : Sat h0 h M := by
  induction L with
  | nil => exact O
  | cons A L ih => exact ih O.drop

theorem Sat.push {h0 h : Heap} {L : List Res} (O : Sat h0 h L) (cs : List Value) (T : TypeId) (f : Nat × Nat) (hf : f.1 = f.2 ∨ cs.length ≤ f.1) : Sat h0 (h.push (.cells cs.toArray T f)) (own h.size cs :: L) := by
  obtain ⟨E, hs, O⟩ := O
  exact ⟨_, ⟨[(h.size, .inl cs)], E, List.Perm.refl _, rfl, hs⟩, O.push cs T f hf⟩
theorem Sat.al {h0 h : Heap} {L : List Res} {T : TypeId} {cs : List Value} {K : Addr → Heap → Prop} (O : Sat h0 h L) (k : ∀ b h', Sat h0 h' (own b cs :: L) → K (pt b 0) h') : al T cs h K :=
  k h.size _ (O.push cs T (0, 0) (.inl rfl))
theorem Sat.blk {h0 h : Heap} {L : List Res} (O : Sat h0 h L) {i b : Nat} {cs : List Value} (hl : i < L.length) (hi : nth i L = own b cs) : h0.size ≤ b ∧ Blk h b cs := by
  obtain ⟨E1, E2, h1, O', _⟩ := O.at i hl
  rw [hi] at h1
  rw [show E1 = [(b, .inl cs)] from h1] at O'
  exact O'.blk _ List.mem_cons_self
theorem Blk.ld {h : Heap} {b o : Nat} {cs : List Value} (B : Blk h b cs) {ks : List Kd} {K : Fn ks Prop} (hl : ldL ks (cs.drop o) K) : ld ks (pt b o) h K := by
  have := cellsAre_blk B o (cs.drop o).length
  rw [List.take_length] at this
  exact ld_are this hl
theorem nth_lt : ∀ {i : Nat} {L : List Res} {b : Nat} {cs : List Value}, nth i L = own b cs → i < L.length
  | 0, _ :: _, _, _, _ => by simp
  | i + 1, _ :: L, _, _, h => by have := nth_lt (i := i) (L := L) h; simpa using this
  | 0, [], b, cs, h => by
    have := congrFun h []
    simp [nth, emp, own] at this
  | i + 1, [], b, cs, h => by
    have := congrFun h []
    simp [nth, emp, own] at this
theorem Sat.ld {h0 h : Heap} {L : List Res} (O : Sat h0 h L) (i : Nat) {b o : Nat} {cs : List Value} {ks : List Kd} {K : Fn ks Prop} (hi : nth i L = own b cs) (hl : ldL ks (cs.drop o) K) : ld ks (pt b o) h K :=
  (O.blk (nth_lt hi) hi).2.ld hl
theorem Sat.st {h0 h : Heap} {L : List Res} (O : Sat h0 h L) (i : Nat) {b o : Nat} {cs vs : List Value} {K : Heap → Prop} (hi : nth i L = own b cs) (ho : o + vs.length ≤ cs.length) (hv : vs.all oneV = true)
    (k : ∀ h', Sat h0 h' (L.set i (own b (V.put cs o vs))) → K h') : st (pt b o) vs h K := by
  obtain ⟨E1, E2, h1, O', h2⟩ := O.at i (nth_lt hi)
  rw [hi] at h1
  rw [show E1 = [(b, .inl cs)] from h1] at O'
  exact Held.st O' ho hv fun h' O'' => k h' (h2 _ [(b, .inl (V.put cs o vs))] h' rfl O'')
theorem Sat.frz {h0 h : Heap} {L : List Res} {b o : Nat} {cs : List Value} {K : Heap → Prop} (O : Sat h0 h (own b cs :: L)) (k : ∀ h', Sat h0 h' (own b cs :: L) → K h') : V.frz (some (pt b o)) h K := by
  obtain ⟨E, ⟨E1, E2, p, hA, h2⟩, O⟩ := O
  have hA' : E1 = [(b, .inl cs)] := hA
  subst hA'
  obtain ⟨⟨T, f, e⟩, O'⟩ := (O.perm p.symm).mark
  refine ⟨_, _, T, f, rfl, e, ?_⟩
  rw [show cs.toArray.size = cs.length by simp]
  exact k _ ⟨_, ⟨[(b, .inl cs)], E2, List.Perm.refl _, rfl, h2⟩, O'⟩
end Go.Proofs.Ytigcpkejjjgkeaa.V
/-
  LISTS IN MEMORY: lists that can be read ('View'), slices that are a part's own ('bufs', 'buf'); making, appending, copying, slicing.
-/
namespace Go.Proofs.Ytigcpkejjjgkeaa.V
open Go Go.RowKit
set_option linter.unusedVariables false
set_option linter.unusedSimpArgs false

variable {α β : Type}
/-- A slice whose elements can be read: each in so many cells. -/
def View (h : Heap) (sz : Nat) (R : α → List Value → Prop) (s : Sl) (xs : List α) : Prop :=
  s.len = xs.length ∧ ∀ i x, xs[i]? = some x → ∃ a cs, s.ptr = some a ∧ cs.length = sz ∧ R x cs ∧ cellsAre h (a.add (i * sz)) cs
abbrev En (enc : α → List Value) : α → List Value → Prop := fun x cs => cs = enc x
def u8 (x : UInt8) : List Value := [.int .u8 (x.toNat : Int)]
abbrev Bytes (h : Heap) (s : Sl) (l : List UInt8) : Prop := View h 1 (En u8) s l
theorem View.mono {h h' : Heap} {sz : Nat} {R R' : α → List Value → Prop} {s : Sl} {xs : List α} (V : View h sz R s xs) (k : KeptH h h') (hR : ∀ x ∈ xs, ∀ cs, R x cs → R' x cs) : View h' sz R' s xs := by
  refine ⟨V.1, fun i x hx => ?_⟩
  obtain ⟨a, cs, h1, h2, h3, h4⟩ := V.2 i x hx
  exact ⟨a, cs, h1, h2, hR x (List.mem_of_getElem? hx) cs h3, cellsAre_kept k h4⟩
theorem View.kept {h h' : Heap} {sz : Nat} {R : α → List Value → Prop} {s : Sl} {xs : List α} (V : View h sz R s xs) (k : KeptH h h') : View h' sz R s xs := V.mono k fun _ _ _ h => h
theorem View.nil {h : Heap} {sz : Nat} {R : α → List Value → Prop} {p : Option Addr} {c : Nat} : View h sz R ⟨p, 0, c⟩ ([] : List α) := ⟨rfl, by simp⟩
theorem View.len {h : Heap} {sz : Nat} {R : α → List Value → Prop} {s : Sl} {xs : List α} (V : View h sz R s xs) : s.len = xs.length := V.1
theorem cellsAre_drop {h : Heap} : ∀ {cs : List Value} {a : Addr} (o : Nat), cellsAre h a cs → cellsAre h (a.add o) (cs.drop o)
  | cs, a, 0, hc => by rw [Addr.add_zero']; simpa using hc
  | [], a, o + 1, hc => by simp [cellsAre]
  | v :: vs, a, o + 1, hc => by
    have := cellsAre_drop (a := a.add 1) o hc.2
    rwa [Addr_add_add, Nat.add_comm] at this
theorem ld_drop {h : Heap} {cs : List Value} {a : Addr} {ks : List Kd} {K : Fn ks Prop} (c : cellsAre h a cs) (o : Nat) (hl : ldL ks (cs.drop o) K) : ld ks (a.add o) h K := ld_are (cellsAre_drop o c) hl
/-- An element's place. -/
theorem View.ix {h : Heap} {sz : Nat} {R : α → List Value → Prop} {s : Sl} {xs : List α} {i : Int} {K : Addr → Prop} (V : View h sz R s xs) (h0 : 0 ≤ i) (h1 : i < (xs.length : Int))
    (k : ∀ a cs x, xs[i.toNat]? = some x → cs.length = sz → R x cs → cellsAre h a cs → K a) : ixS sz s i K := by
  have hi : i.toNat < xs.length := by omega
  obtain ⟨a, cs, h2, h3, h4, h5⟩ := V.2 i.toNat _ (List.getElem?_eq_getElem hi)
  refine ⟨a, h2, h0, by rw [V.1]; exact h1, ?_⟩
  exact k _ cs _ (List.getElem?_eq_getElem hi) h3 h4 h5
/-- One byte. -/
theorem Bytes.at {h : Heap} {s : Sl} {l : List UInt8} {i : Int} {K : Int → Prop} (V : Bytes h s l) (h0 : 0 ≤ i) (h1 : i < (l.length : Int)) (k : ∀ x, l[i.toNat]? = some x → K (x.toNat : Int)) : ixS 1 s i fun a => ld [.int .u8] a h K :=
  V.ix h0 h1 fun a cs x hx hl hR hc => by
    subst hR
    exact ld_are hc ⟨_, rfl, k x hx⟩
theorem cellsAre_nil {h : Heap} {a : Addr} : cellsAre h a [] := trivial
theorem View.cells {h : Heap} {sz : Nat} {R : α → List Value → Prop} {s : Sl} : ∀ {xs : List α} {o : Nat}, (∀ (i : Nat) x, xs[i]? = some x → ∃ a cs, s.ptr = some a ∧ cs.length = sz ∧ R x cs ∧ cellsAre h (a.add ((o + i) * sz)) cs) →
    ∀ a, s.ptr = some a → ∃ css : List (List Value), css.length = xs.length ∧ (∀ (i : Nat) x cs, xs[i]? = some x → css[i]? = some cs → cs.length = sz ∧ R x cs) ∧ cellsAre h (a.add (o * sz)) css.flatten
  | [], o, _, a, _ => ⟨[], rfl, by simp, trivial⟩
  | x :: xs, o, V, a, ha => by
    obtain ⟨a', cs, h1, h2, h3, h4⟩ := V 0 x rfl
    rw [ha] at h1; simp at h1; subst h1
    obtain ⟨css, h5, h6, h7⟩ := View.cells (h := h) (R := R) (s := s) (sz := sz) (xs := xs) (o := o + 1) (fun i y hy => by
      obtain ⟨a', cs, h1, h2, h3, h4⟩ := V (i + 1) y (by simpa using hy)
      exact ⟨a', cs, h1, h2, h3, by rw [show o + 1 + i = o + (i + 1) by omega]; exact h4⟩) a ha
    refine ⟨cs :: css, by simp [h5], ?_, ?_⟩
    · intro i y ds hy hd
      cases i with
      | zero => simp at hy hd; subst hy; subst hd; exact ⟨h2, h3⟩
      | succ i => exact h6 i y ds (by simpa using hy) (by simpa using hd)
    · rw [List.flatten_cons]
      refine cellsAre_append (by simpa using h4) ?_
      rw [Addr_add_add, h2, show o * sz + sz = (o + 1) * sz by rw [Nat.add_mul, Nat.one_mul]]
      exact h7
theorem flatten_enc {enc : α → List Value} : ∀ {xs : List α} {css : List (List Value)}, css.length = xs.length → (∀ (i : Nat) x cs, xs[i]? = some x → css[i]? = some cs → cs = enc x) → css.flatten = xs.flatMap enc
  | [], [], _, _ => rfl
  | [], _ :: _, h, _ => by simp at h
  | _ :: _, [], h, _ => by simp at h
  | x :: xs, c :: css, h, k => by
    rw [List.flatten_cons, List.flatMap_cons, k 0 x c rfl rfl, flatten_enc (by simpa using h) fun i y cs hy hc => k (i + 1) y cs (by simpa using hy) (by simpa using hc)]
theorem flatMap_len {enc : α → List Value} {sz : Nat} (he : ∀ x, (enc x).length = sz) : ∀ xs : List α, (xs.flatMap enc).length = xs.length * sz
  | [] => by simp
  | x :: xs => by rw [List.flatMap_cons, List.length_append, he, flatMap_len he xs, List.length_cons, Nat.add_mul, Nat.one_mul, Nat.add_comm]
/-- All its cells, in a row. -/
theorem View.rd {h : Heap} {sz : Nat} {enc : α → List Value} {s : Sl} {xs : List α} (he : ∀ x, (enc x).length = sz) (V : View h sz (En enc) s xs) : rdP h s.ptr (s.len * sz) = some (xs.flatMap enc) := by
  rw [V.1, ← flatMap_len he]
  cases xs with
  | nil =>
    cases hp : s.ptr with
    | none => rfl
    | some a => rfl
  | cons x xs =>
    obtain ⟨a, cs, h1, _⟩ := V.2 0 x rfl
    obtain ⟨css, h2, h3, h4⟩ := View.cells (h := h) (R := En enc) (s := s) (sz := sz) (xs := x :: xs) (o := 0) (fun i y hy => by
      obtain ⟨a, cs, k1, k2, k3, k4⟩ := V.2 i y hy
      exact ⟨a, cs, k1, k2, k3, by rw [Nat.zero_add]; exact k4⟩) a h1
    rw [h1]
    have e := flatten_enc (enc := enc) h2 fun i y cs hy hc => (h3 i y cs hy hc).2
    rw [e, Nat.zero_mul, Addr.add_zero'] at h4
    exact rdL_are h4
theorem rdL_take {h : Heap} : ∀ {cs : List Value} {a : Addr} (n : Nat), n ≤ cs.length → cellsAre h a cs → rdL h a n = some (cs.take n)
  | cs, a, n, hn, hc => by
    have := rdL_are (cellsAre_take n hc)
    rwa [List.length_take, Nat.min_eq_left hn] at this
/-- The first so many elements' cells. -/
theorem View.rdn {h : Heap} {sz : Nat} {enc : α → List Value} {s : Sl} {xs : List α} (he : ∀ x, (enc x).length = sz) (V : View h sz (En enc) s xs) (n : Nat) (hn : n ≤ xs.length) : rdP h s.ptr (n * sz) = some ((xs.take n).flatMap enc) := by
  have : View h sz (En enc) ⟨s.ptr, n, n⟩ (xs.take n) := by
    refine ⟨by simp [hn], fun i x hx => ?_⟩
    rw [List.getElem?_take] at hx
    split at hx
    · exact V.2 i x hx
    · simp at hx
  exact this.rd he
theorem View.slice {h : Heap} {sz : Nat} {R : α → List Value → Prop} {s : Sl} {xs : List α} (V : View h sz R s xs) (i j m : Nat) (hi : i ≤ j) (hj : j ≤ xs.length) (hc : s.len ≤ s.cap) : View h sz R ⟨slp sz s i, j - i, m⟩ ((xs.drop i).take (j - i)) := by
  refine ⟨by simp; omega, fun k x hx => ?_⟩
  rw [List.getElem?_take] at hx
  split at hx
  · rename_i hk
    rw [List.getElem?_drop] at hx
    obtain ⟨a, cs, h1, h2, h3, h4⟩ := V.2 (i + k) x hx
    have hl := V.1
    refine ⟨a.add (i * sz), cs, ?_, h2, h3, ?_⟩
    · unfold slp
      rw [if_neg (by omega), h1]; rfl
    · rw [Addr_add_add, ← Nat.add_mul]; exact h4
  · simp at hx
theorem View.take {h : Heap} {sz : Nat} {R : α → List Value → Prop} {s : Sl} {xs : List α} (V : View h sz R s xs) (j m : Nat) (hj : j ≤ xs.length) : View h sz R ⟨s.ptr, j, m⟩ (xs.take j) := by
  refine ⟨by simp [hj], fun k x hx => ?_⟩
  rw [List.getElem?_take] at hx
  split at hx
  · exact V.2 k x hx
  · simp at hx

def bufs (sz : Nat) (enc : α → List Value) (s : Sl) (xs : List α) (sp : List Value) : Res := fun E =>
  (s = ⟨none, 0, 0⟩ ∧ xs = [] ∧ sp = [] ∧ E = []) ∨ ∃ b k, s = ⟨some (pt b 0), xs.length, xs.length + k⟩ ∧ sp.length = k * sz ∧ E = [(b, .inl (xs.flatMap enc ++ sp))]
def buf (sz : Nat) (enc : α → List Value) (s : Sl) (xs : List α) : Res := ex fun sp => bufs sz enc s xs sp
theorem bufs.lens {sz : Nat} {enc : α → List Value} {s : Sl} {xs : List α} {sp : List Value} {E : Blks} (h : bufs sz enc s xs sp E) : s.len = xs.length ∧ s.len ≤ s.cap := by
  rcases h with ⟨rfl, rfl, _, _⟩ | ⟨b, k, rfl, _, _⟩ <;> simp
theorem nth_mem : ∀ {i : Nat} {L : List Res}, i < L.length → nth i L ∈ L
  | 0, A :: _, _ => by simp [nth]
  | i + 1, _ :: L, h => by simp only [nth]; exact List.mem_cons_of_mem _ (nth_mem (by simpa using h))
  | _, [], h => by simp at h
theorem flat_at {enc : α → List Value} {sz : Nat} (he : ∀ x, (enc x).length = sz) : ∀ {xs : List α} {i : Nat} {x : α} (sp : List Value), xs[i]? = some x → ((xs.flatMap enc ++ sp).drop (i * sz)).take sz = enc x
  | [], i, x, _, h => by simp at h
  | y :: ys, 0, x, sp, h => by
    simp at h; subst h
    rw [List.flatMap_cons, Nat.zero_mul, List.drop_zero, List.append_assoc, List.take_append_of_le_length (by rw [he]; exact Nat.le_refl _), List.take_of_length_le (by rw [he]; exact Nat.le_refl _)]
  | y :: ys, i + 1, x, sp, h => by
    have := flat_at he (xs := ys) (i := i) (x := x) sp (by simpa using h)
    rw [List.flatMap_cons, List.append_assoc, List.drop_append, List.drop_of_length_le (by rw [he, Nat.add_mul]; omega), he, List.nil_append, show (i + 1) * sz - sz = i * sz by rw [Nat.add_mul]; omega]
    exact this
theorem nth_set : ∀ {i : Nat} {L : List Res} (B : Res), i < L.length → nth i (L.set i B) = B
  | 0, _ :: _, _, _ => rfl
  | i + 1, _ :: L, B, h => nth_set (i := i) (L := L) B (by simpa using h)
  | _, [], _, h => by simp at h
theorem view_of_blk {h : Heap} {b k sz : Nat} {enc : α → List Value} (he : ∀ x, (enc x).length = sz) {xs : List α} {sp : List Value} (B : Blk h b (xs.flatMap enc ++ sp)) : View h sz (En enc) ⟨some (pt b 0), xs.length, k⟩ xs := by
  refine ⟨rfl, fun i x hx => ⟨_, _, rfl, he x, rfl, ?_⟩⟩
  rw [pt_add, Nat.zero_add, ← flat_at he sp hx]
  exact cellsAre_blk B _ _
theorem Sat.views {h0 h : Heap} {L : List Res} (O : Sat h0 h L) (i : Nat) {sz : Nat} {enc : α → List Value} {s : Sl} {xs : List α} {sp : List Value} (he : ∀ x, (enc x).length = sz) (hl : i < L.length) (hi : nth i L = bufs sz enc s xs sp) : View h sz (En enc) s xs ∧ s.len ≤ s.cap := by
  obtain ⟨E1, E2, h1, O', _⟩ := O.at i hl
  rw [hi] at h1
  refine ⟨?_, (bufs.lens h1).2⟩
  rcases h1 with ⟨rfl, rfl, rfl, rfl⟩ | ⟨b, k, rfl, hsp, rfl⟩
  · exact View.nil
  · exact view_of_blk he (O'.blk _ (List.mem_cons_self)).2
theorem Sat.view {h0 h : Heap} {L : List Res} (O : Sat h0 h L) (i : Nat) {sz : Nat} {enc : α → List Value} {s : Sl} {xs : List α} (he : ∀ x, (enc x).length = sz) (hl : i < L.length) (hi : nth i L = buf sz enc s xs) : View h sz (En enc) s xs ∧ s.len ≤ s.cap := by
  obtain ⟨E1, E2, h1, O', h2⟩ := O.at i hl
  rw [hi] at h1
  obtain ⟨sp, h1⟩ := h1
  have O2 := h2 (bufs sz enc s xs sp) E1 h h1 O'
  exact O2.views (sp := sp) i he (by simpa using hl) (nth_set _ hl)
/-- A view that stays, whatever becomes of the others. -/
def Stays (h0 : Heap) (L : List Res) (p : Heap → Prop) : Prop := ∀ h, Sat h0 h L → p h
theorem rdP_own {h0 h : Heap} {L : List Res} (O : Sat h0 h L) (i : Nat) {b : Nat} {cs : List Value} (hi : nth i L = own b cs) (n : Nat) (hn : n ≤ cs.length) : rdP h (some (pt b 0)) n = some (cs.take n) := by
  have := cellsAre_blk (O.blk (nth_lt hi) hi).2 0 cs.length
  rw [List.drop_zero, List.take_length] at this
  exact rdL_take n hn this
/-- A cell list is laid over the first of others. -/
theorem put_app : ∀ (us ss ns : List Value) , ns.length ≤ ss.length → V.put (us ++ ss) us.length ns = us ++ ns ++ ss.drop ns.length := by
  intro us ss ns h
  have := put_mid us (ss.take ns.length) (ss.drop ns.length) ns (by simp [h])
  rw [List.append_assoc, List.take_append_drop] at this
  exact this
/-- APPEND: one's own slice grows. -/
theorem Sat.app_buf {h0 h : Heap} {L : List Res} {sz bts T : Nat} {enc : α → List Value} {s : Sl} {xs : List α} {z : Value} {src : Option Addr} {m : Nat} {K : Sl → Heap → Prop} (O : Sat h0 h (buf sz enc s xs :: L))
    (he : ∀ x, (enc x).length = sz) (ho : ∀ x, (enc x).all oneV = true) (hz : z.cells.size = sz) {ys : List α} (hm : m = ys.length) (hr : rdP h src (m * sz) = some (ys.flatMap enc)) (hb : (xs.length + ys.length) * bts ≤ 140737488355328)
    (k : ∀ s' h', Sat h0 h' (buf sz enc s' (xs ++ ys) :: L) → s'.len = xs.length + ys.length → K s' h') : V.app T sz bts z s src m h K := by
  obtain ⟨sp, O⟩ := O.ex
  obtain ⟨E, ⟨E1, E2, p, hA, h2⟩, O⟩ := O
  have O := O.perm p.symm
  subst hm
  have hall : (ys.flatMap enc).all oneV = true := by simp only [List.all_eq_true, List.mem_flatMap]; rintro v ⟨x, _, hv⟩; exact List.all_eq_true.1 (ho x) v hv
  have hly : (ys.flatMap enc).length = ys.length * sz := flatMap_len he ys
  have hlx : (xs.flatMap enc).length = xs.length * sz := flatMap_len he xs
  have fresh : ∀ c, xs.length + ys.length ≤ c → Sat h0 (h.push (.cells (xs.flatMap enc ++ ys.flatMap enc ++ (Builtin.zeroCells z.cells (c - (xs.length + ys.length))).toList).toArray T)) (buf sz enc ⟨some (pt h.size 0), xs.length + ys.length, c⟩ (xs ++ ys) :: L) := by
    intro c hc
    have O' := (O.sub (List.sublist_append_right E1 E2)).push (xs.flatMap enc ++ ys.flatMap enc ++ (Builtin.zeroCells z.cells (c - (xs.length + ys.length))).toList) T (0, 0) (.inl rfl)
    refine ⟨_, ⟨[(h.size, .inl ((xs ++ ys).flatMap enc ++ (Builtin.zeroCells z.cells (c - (xs.length + ys.length))).toList))], E2, List.Perm.refl _, ⟨(Builtin.zeroCells z.cells (c - (xs.length + ys.length))).toList, .inr ⟨h.size, c - (xs.length + ys.length), ?_, ?_, rfl⟩⟩, h2⟩, ?_⟩
    · simp; omega
    · simp [Builtin.zeroCells, hz]
    · rw [List.flatMap_append]; exact O'
  refine ⟨_, hr, fun hcap => ?_, fun hcap => ⟨growslice_fits (by exact hcap) (by
    rcases hA with ⟨rfl, rfl, rfl, rfl⟩ | ⟨b, j, rfl, hsp, rfl⟩ <;> simpa using hb), ?_⟩⟩
  · rcases hA with ⟨rfl, rfl, rfl, rfl⟩ | ⟨b, j, rfl, hsp, rfl⟩
    · simp at hcap
      subst hcap
      refine k _ _ ⟨E2, ⟨[], E2, List.Perm.refl _, ⟨[], .inl ⟨by simp, by simp, rfl, rfl⟩⟩, h2⟩, O⟩ (by simp)
    · simp only [Option.map_some, stP, pt_add, Nat.zero_add]
      simp only at hcap
      have hj : ys.length ≤ j := by omega
      have hmul : ys.length * sz ≤ j * sz := Nat.mul_le_mul_right _ hj
      refine Held.st O (by simp [hlx, hly, hsp]; omega) hall fun h' O' => ?_
      rw [← hlx, put_app _ _ _ (by rw [hly, hsp]; exact hmul)] at O'
      refine k _ _ ⟨_, ⟨[(b, .inl ((xs ++ ys).flatMap enc ++ sp.drop (ys.flatMap enc).length))], E2, List.Perm.refl _, ⟨sp.drop (ys.flatMap enc).length, .inr ⟨b, j - ys.length, ?_, ?_, rfl⟩⟩, h2⟩, ?_⟩ rfl
      · simp; omega
      · rw [List.length_drop, hly, hsp, Nat.sub_mul]
      · rw [List.flatMap_append]; exact O'
  · rcases hA with ⟨rfl, rfl, rfl, rfl⟩ | ⟨b, j, rfl, hsp, rfl⟩
    · refine ⟨[], rfl, fun c hc => ?_⟩
      have := fresh c (by simpa using hc)
      simp only [List.length_nil, Nat.zero_add, List.nil_append, List.flatMap_nil] at this hc ⊢
      exact k _ _ this (by simp)
    · refine ⟨xs.flatMap enc, ?_, fun c hc => ?_⟩
      · simp only
        have := cellsAre_blk (b := b) (cs := xs.flatMap enc ++ sp) (O.blk _ (List.mem_cons_self)).2 0 (xs.flatMap enc ++ sp).length
        rw [List.drop_zero, List.take_length] at this
        simp only [rdP]
        have h3 := rdL_take (xs.length * sz) (by simp [hlx]) this
        rw [← hlx, List.take_left] at h3
        rw [← hlx]; exact h3
      · exact k _ _ (fresh c hc) rfl
/-- One value is appended. -/
theorem Sat.push_buf {h0 h : Heap} {L : List Res} {sz bts T T' : Nat} {enc : α → List Value} {s : Sl} {xs : List α} {z : Value} {K : Sl → Heap → Prop} (O : Sat h0 h (buf sz enc s xs :: L)) (y : α) {cs : List Value} (hcs : cs = enc y)
    (he : ∀ x, (enc x).length = sz) (ho : ∀ x, (enc x).all oneV = true) (hz : z.cells.size = sz) (hb : (xs.length + 1) * bts ≤ 140737488355328)
    (k : ∀ s' h', Sat h0 h' (buf sz enc s' (xs ++ [y]) :: L) → s'.len = xs.length + 1 → K s' h') : V.al T' cs h fun a h1 => V.app T sz bts z s (some a) 1 h1 K := by
  subst hcs
  refine O.al fun b h1 O1 => ?_
  have hr := rdP_own O1 0 rfl sz (by rw [he]; exact Nat.le_refl _)
  refine Sat.app_buf (O1.swap) he ho hz (ys := [y]) rfl (by rw [Nat.one_mul, hr]; simp; rw [List.take_of_length_le (by rw [he]; exact Nat.le_refl _)]) hb fun s' h' O' hl => k s' h' ?_ hl
  exact O'.swap.drop
/-- MAKE. -/
theorem mkCells_len {z : Value} {n : Nat} : (mkCells z n).length = n := by simp [mkCells]
theorem Sat.mk_buf {h0 h : Heap} {L : List Res} {T sz bts : Nat} {z : Value} {l c : Int} {K : Sl → Heap → Prop} (O : Sat h0 h L) (h1 : 0 ≤ l) (h2 : l ≤ c) (h3 : (bts : Int) * c ≤ 281474976710656)
    (k : ∀ b h', Sat h0 h' (own b (mkCells z (c.toNat * sz)) :: L) → K ⟨some (pt b 0), l.toNat, c.toNat⟩ h') : V.mk T sz bts z l c h K :=
  ⟨h1, h2, h3, k h.size _ (O.push _ T (0, 0) (.inl rfl))⟩
/-- A view over one's own block. -/
theorem Sat.own_buf {h0 h : Heap} {L : List Res} {b k sz : Nat} {enc : α → List Value} {xs : List α} {sp : List Value} (O : Sat h0 h (own b (xs.flatMap enc ++ sp) :: L)) (hsp : sp.length = k * sz) : Sat h0 h (bufs sz enc ⟨some (pt b 0), xs.length, xs.length + k⟩ xs sp :: L) :=
  O.mono fun E h => .inr ⟨b, k, rfl, hsp, h⟩
theorem Sat.bufsI {h0 h : Heap} {L : List Res} {sz : Nat} {enc : α → List Value} {s : Sl} {xs : List α} {sp : List Value} (O : Sat h0 h (bufs sz enc s xs sp :: L)) : Sat h0 h (buf sz enc s xs :: L) := O.exI sp
theorem Sat.nil_buf {h0 h : Heap} {L : List Res} {sz : Nat} {enc : α → List Value} (O : Sat h0 h L) : Sat h0 h (buf sz enc ⟨none, 0, 0⟩ [] :: L) := O.empI.mono fun E h => ⟨[], .inl ⟨rfl, rfl, rfl, h⟩⟩
end Go.Proofs.Ytigcpkejjjgkeaa.V
/-
  WHAT AN ARGUMENT IS: from the form's reading of an argument ('trod') to typed cells ('Fits'), with bounds on lengths.
-/
namespace Go.Proofs.Ytigcpkejjjgkeaa.V
open Go Go.RowKit
set_option linter.unusedVariables false
set_option linter.unusedSimpArgs false

/-- A slice that came in, of at most so many places. -/
def SlN (h : Heap) (N size bytes : Nat) (s : Sl) (E : List Value → Prop) : Prop :=
  (s.ptr = none ∧ s.len = 0 ∧ s.cap = 0) ∨
  ∃ a, s.ptr = some a ∧ s.len ≤ s.cap ∧ s.cap * bytes ≤ 140737488351232 ∧ s.cap ≤ N ∧ ∀ i, i < s.cap → ∃ cs, cs.length = size ∧ cellsAre h (a.add (i * size)) cs ∧ E cs
def RdN (P : Program) (h : Heap) (N : Nat) : Nat → TypeId → List Value → Prop
  | 0, _, _ => False
  | n + 1, t, cs => match P.underlying t with
    | some .bool => ∃ b, cs = [.bool b]
    | some (.int k) => ∃ x, cs = [.int k x] ∧ k.min ≤ x ∧ x ≤ k.max
    | some .string => ∃ s : ByteArray, cs = [.string s] ∧ s.size ≤ N
    | some (.slice e) => ∃ s : Sl, cs = [.slice s.ptr s.len s.cap] ∧ (0 < P.bytesOf e → SlN h N (P.cellsOf e) (P.bytesOf e) s fun cs => RdN P h N n e cs)
    | some (.struct fs) => cs.length = P.cellsOf t ∧ ∀ f ∈ fs.toList, RdN P h N n f.type ((cs.drop f.offset).take (P.cellsOf f.type))
    | some (.array m e) => cs.length = P.cellsOf t ∧ ∀ i, i < m → RdN P h N n e ((cs.drop (i * P.cellsOf e)).take (P.cellsOf e))
    | _ => True
section
variable {H : Type} {enc : TypeId × Value → H} {P : Program} {w : World}
/-- A bound that its parts bear too. -/
structure Bound (P : Program) (N : Nat) (B : TypeId → DataW H → Prop) : Prop where
  str : ∀ t b, P.underlying t = some .string → B t (.lit (.string b)) → b.length ≤ N
  sl : ∀ t e xs ys, P.underlying t = some (.slice e) → B t (.slice xs ys) → (xs.length + ys.length) * P.bytesOf e ≤ 140737488351232 ∧ (0 < P.bytesOf e → xs.length + ys.length ≤ N) ∧ (∀ d ∈ xs, B e d) ∧ ∀ d ∈ ys, B e d
  st : ∀ t fs ds, P.underlying t = some (.struct fs) → B t (.agg ds) → ∀ (i : Nat) f d, fs.toList[i]? = some f → ds[i]? = some d → B f.type d
  ar : ∀ t m e ds, P.underlying t = some (.array m e) → B t (.agg ds) → ∀ d ∈ ds, B e d
theorem bound_said {P : Program} : Bound (H := H) P 140737488351232 fun t d => ∀ x ∈ d.weights P t, x ≤ reachBytes := by
  refine ⟨?_, ?_, ?_, ?_⟩
  · intro t b hu h
    have := h b.length (by simp [DataW.weights])
    simpa [reachBytes] using this
  · intro t e xs ys hu h
    simp only [DataW.weights, hu] at h
    have h1 := h _ (List.mem_cons_self)
    simp only [reachBytes] at h1
    refine ⟨h1, fun hb => ?_, weightsAll_mem (p := (· ≤ reachBytes)) (fun x hx => h x (List.mem_cons_of_mem _ (List.mem_append.2 (.inl hx)))), weightsAll_mem (p := (· ≤ reachBytes)) (fun x hx => h x (List.mem_cons_of_mem _ (List.mem_append.2 (.inr hx))))⟩
    exact Nat.le_trans (Nat.le_mul_of_pos_right _ hb) h1
  · intro t fs ds hu h i f d hf hd
    simp only [DataW.weights, hu] at h
    exact weightsEach_at (p := (· ≤ reachBytes)) (ts := fs.toList.map (·.type)) (ds := ds) h i f.type d (by simp [hf]) hd
  · intro t m e ds hu h d hd
    simp only [DataW.weights, hu] at h
    exact weightsAll_mem (p := (· ≤ reachBytes)) h d hd
theorem bulk_mem {d : DataW H} : ∀ {l : List (DataW H)}, d ∈ l → Rows.uptoBulk d ≤ Rows.uptoBulkAll l
  | [], h => by simp at h
  | x :: l, h => by
    simp only [Rows.uptoBulkAll]
    rcases List.mem_cons.1 h with rfl | h
    · omega
    · have := bulk_mem h; omega
theorem bulk_pos (d : DataW H) : 1 ≤ Rows.uptoBulk d := by
  cases d with
  | lit l => cases l <;> simp [Rows.uptoBulk]
  | nil => simp [Rows.uptoBulk]
  | ptr d => simp [Rows.uptoBulk]
  | slice elems spare => simp [Rows.uptoBulk]
  | agg parts => simp [Rows.uptoBulk]
  | iface t d => simp [Rows.uptoBulk]
  | map entries => simp [Rows.uptoBulk]
  | held h => simp [Rows.uptoBulk]
theorem bulk_len : ∀ (l : List (DataW H)), l.length ≤ Rows.uptoBulkAll l
  | [] => by simp [Rows.uptoBulkAll]
  | x :: l => by have := bulk_pos x; have := bulk_len l; simp only [Rows.uptoBulkAll, List.length_cons]; omega
theorem bound_upto {P : Program} {N : Nat} (hN : N ≤ 1048576) : Bound (H := H) P N fun t d => (∀ x ∈ d.weights P t, x ≤ reachBytes) ∧ Rows.uptoBulk d ≤ N := by
  have s := bound_said (H := H) (P := P)
  refine ⟨?_, ?_, ?_, ?_⟩
  · intro t b hu h
    have := h.2
    simp only [Rows.uptoBulk] at this
    omega
  · intro t e xs ys hu h
    obtain ⟨h1, _, h3, h4⟩ := s.sl t e xs ys hu h.1
    have := h.2
    simp only [Rows.uptoBulk] at this
    have := bulk_len xs
    have := bulk_len ys
    refine ⟨h1, fun _ => by omega, fun d hd => ⟨h3 d hd, ?_⟩, fun d hd => ⟨h4 d hd, ?_⟩⟩
    · have := bulk_mem hd; omega
    · have := bulk_mem hd; omega
  · intro t fs ds hu h i f d hf hd
    refine ⟨s.st t fs ds hu h.1 i f d hf hd, ?_⟩
    have := h.2
    simp only [Rows.uptoBulk] at this
    have := bulk_mem (List.mem_of_getElem? hd)
    omega
  · intro t m e ds hu h d hd
    refine ⟨s.ar t m e ds hu h.1 d hd, ?_⟩
    have := h.2
    simp only [Rows.uptoBulk] at this
    have := bulk_mem hd
    omega
theorem trod_rdN {N : Nat} {B : TypeId → DataW H → Prop} (bd : Bound P N B) : ∀ (fuel : Nat) (t : TypeId) (cs : List Value) (d : DataW H) (ps : List MemPlace), DataW.trod enc P w 0 (fun _ => true) true fuel t cs = some (d, ps) →
    B t d → RdN P w.heap N fuel t cs
  | 0, _, _, _, _, h, _ => by simp [DataW.trod] at h
  | n + 1, t, cs, d, ps, h, hw => by
    unfold RdN
    unfold DataW.trod at h
    cases hu : P.underlying t with
    | none => trivial
    | some td =>
      rw [hu] at h
      cases td with
      | bool =>
        simp only
        split at h <;> simp_all
      | int k =>
        simp only
        split at h <;> simp_all [Lit.wf]
      | string =>
        simp only
        split at h <;> simp_all
        obtain ⟨_, rfl, _⟩ := h
        have := bd.str t _ hu hw
        simpa using this
      | slice e =>
        simp only
        split at h <;> simp_all
        · exact ⟨⟨none, 0, 0⟩, ⟨rfl, rfl, rfl⟩, fun _ => .inl ⟨rfl, rfl, rfl⟩⟩
        · rename_i e' a' a len cap hcs
          obtain ⟨⟨h1, h2⟩, h3⟩ := h
          replace h3 := bind_some h3; obtain ⟨elems, he, h3⟩ := h3
          replace h3 := map_some' h3; obtain ⟨rest, hr, h3⟩ := h3
          simp at h3
          obtain ⟨h3, _⟩ := h3
          subst h3
          obtain ⟨hw1, hwN, hwe, hwr⟩ := bd.sl t a' _ _ hu hw
          simp only [List.length_map] at hw1 hwN
          obtain ⟨le, ge⟩ := mapM_at he
          obtain ⟨lr, gr⟩ := mapM_at hr
          simp at le lr
          refine ⟨⟨some a, len, cap⟩, ⟨rfl, rfl, rfl⟩, fun hpos => .inr ⟨a, rfl, h1, ?_, ?_, fun i hi => ?_⟩⟩
          · rw [le, lr, show len + (cap - len) = cap by omega] at hw1
            exact hw1
          · have := hwN hpos
            rw [le, lr] at this
            simp only
            omega
          · simp only at hi
            have key : ∃ y : DataW H × List MemPlace, ((w.cells? 0 (a.add (i * P.cellsOf a')) (P.cellsOf a')).bind (DataW.trod enc P w 0 (fun x => true) true n a')) = some y ∧ B a' y.1 := by
              by_cases hil : i < len
              · obtain ⟨y, hy, hyi⟩ := ge i i (by simp [hil])
                exact ⟨y, hy, hwe y.1 (List.mem_map.2 ⟨y, List.mem_of_getElem? hyi, rfl⟩)⟩
              · obtain ⟨y, hy, hyi⟩ := gr (i - len) (i - len) (by rw [List.getElem?_range (by omega)])
                rw [show len + (i - len) = i by omega] at hy
                exact ⟨y, hy, hwr y.1 (List.mem_map.2 ⟨y, List.mem_of_getElem? hyi, rfl⟩)⟩
            obtain ⟨⟨yd, yp⟩, hy, hyw⟩ := key
            replace hy := bind_some hy; obtain ⟨cs', hcs', hy⟩ := hy
            obtain ⟨hl, hc⟩ := cells_are hcs'
            exact ⟨cs', hl, hc, trod_rdN bd n _ _ _ _ hy hyw⟩
      | struct fs =>
        simp only at h ⊢
        split at h
        · rename_i hl
          replace h := map_some' h; obtain ⟨xs, hx, h⟩ := h
          simp at h
          obtain ⟨h, _⟩ := h
          subst h
          obtain ⟨lx, gx⟩ := mapM_at hx
          refine ⟨hl, fun f hf => ?_⟩
          obtain ⟨i, hi⟩ := List.mem_iff_getElem?.1 hf
          obtain ⟨⟨yd, yp⟩, hy, hyi⟩ := gx i f hi
          exact trod_rdN bd n _ _ _ _ hy (bd.st t fs _ hu hw i f yd hi (by simp [hyi]))
        · simp at h
      | array m e =>
        simp only at h ⊢
        split at h
        · rename_i hl
          replace h := map_some' h; obtain ⟨xs, hx, h⟩ := h
          simp at h
          obtain ⟨h, _⟩ := h
          subst h
          obtain ⟨lx, gx⟩ := mapM_at hx
          refine ⟨hl, fun i hi => ?_⟩
          obtain ⟨⟨yd, yp⟩, hy, hyi⟩ := gx i i (by simp [hi])
          exact trod_rdN bd n _ _ _ _ hy (bd.ar t m e _ hu hw yd (List.mem_map.2 ⟨(yd, yp), List.mem_of_getElem? hyi, rfl⟩))
        · simp at h
      | _ => trivial
end

inductive Ty where
  | int (k : IntKind)
  | bool
  | str
  | sl (sz bts : Nat) (e : Ty)
  | nil
  | cons (a b : Ty)
def Ty.size : Ty → Nat
  | .nil => 0
  | .cons a b => a.size + b.size
  | _ => 1
def Ty.rep : Nat → Ty → Ty
  | 0, _ => .nil
  | n + 1, x => .cons x (Ty.rep n x)
def shapeFs (P : Program) (f : TypeId → Option Ty) : Nat → List Field → Option Ty
  | _, [] => some .nil
  | off, fd :: fs => match f fd.type, shapeFs P f (off + P.cellsOf fd.type) fs with
    | some a, some b => match Nat.beq fd.offset off && Nat.beq a.size (P.cellsOf fd.type) with
      | true => some (.cons a b)
      | false => none
    | _, _ => none
def shape (P : Program) : Nat → TypeId → Option Ty
  | 0, _ => none
  | n + 1, t => match P.underlying t with
    | some .bool => some .bool
    | some (.int k) => some (.int k)
    | some .string => some .str
    | some (.slice e) => match shape P n e with
      | some x => match Nat.beq x.size (P.cellsOf e) && Nat.blt 0 (P.bytesOf e) with
        | true => some (.sl (P.cellsOf e) (P.bytesOf e) x)
        | false => none
      | none => none
    | some (.struct fs) => match shapeFs P (shape P n) 0 fs.toList with
      | some x => match Nat.beq x.size (P.cellsOf t) with
        | true => some x
        | false => none
      | none => none
    | some (.array m e) => match shape P n e with
      | some x => match Nat.beq x.size (P.cellsOf e) && Nat.beq (P.cellsOf t) (m * P.cellsOf e) with
        | true => some (Ty.rep m x)
        | false => none
      | none => none
    | _ => none
/-- Cells that are a value of that shape. -/
def Fit (h : Heap) (N : Nat) : Ty → List Value → Prop
  | .int k, cs => ∃ x, cs = [.int k x] ∧ k.min ≤ x ∧ x ≤ k.max
  | .bool, cs => ∃ b, cs = [.bool b]
  | .str, cs => ∃ s : ByteArray, cs = [.string s] ∧ s.size ≤ N
  | .sl sz bts e, cs => ∃ s : Sl, cs = [.slice s.ptr s.len s.cap] ∧ SlN h N sz bts s fun cs => Fit h N e cs
  | .nil, cs => cs = []
  | .cons a b, cs => ∃ c1 c2, cs = c1 ++ c2 ∧ c1.length = a.size ∧ Fit h N a c1 ∧ Fit h N b c2
theorem fits_fs {P : Program} {h : Heap} {N : Nat} {f : TypeId → Option Ty} {R : TypeId → List Value → Prop} (hf : ∀ t x cs, f t = some x → R t cs → cs.length = x.size → Fit h N x cs) :
    ∀ {fs : List Field} {off : Nat} {x : Ty} {cs : List Value}, shapeFs P f off fs = some x → off + x.size = cs.length → (∀ fd ∈ fs, R fd.type ((cs.drop fd.offset).take (P.cellsOf fd.type))) → Fit h N x (cs.drop off)
  | [], off, x, cs, hs, hl, _ => by
    simp only [shapeFs, Option.some.injEq] at hs
    subst hs
    simp only [Ty.size] at hl
    simp [Fit]; omega
  | fd :: fs, off, x, cs, hs, hl, hR => by
    simp only [shapeFs] at hs
    split at hs
    · rename_i a b ha hb
      split at hs
      · rename_i hc
        simp only [Option.some.injEq] at hs
        subst hs
        simp only [Bool.and_eq_true, Nat.beq_eq] at hc
        obtain ⟨h1, h2⟩ := hc
        simp only [Ty.size] at hl
        have hd := hR fd List.mem_cons_self
        rw [h1, ← h2] at hd
        have hlen : ((cs.drop off).take a.size).length = a.size := by simp; omega
        refine ⟨(cs.drop off).take a.size, cs.drop (off + a.size), ?_, hlen, hf _ _ _ ha hd hlen, ?_⟩
        · rw [← List.drop_drop, List.take_append_drop]
        · have := fits_fs hf hb (cs := cs) (by rw [← h2]; omega) fun fd' hfd => hR fd' (List.mem_cons_of_mem _ hfd)
          rw [← h2] at this
          exact this
      · simp at hs
    · simp at hs
theorem fits_rep {h : Heap} {N : Nat} {x : Ty} : ∀ (m : Nat) {cs : List Value}, cs.length = m * x.size → (∀ i, i < m → Fit h N x ((cs.drop (i * x.size)).take x.size)) → Fit h N (Ty.rep m x) cs
  | 0, cs, hl, _ => by simp at hl; simp [Ty.rep, Fit, hl]
  | m + 1, cs, hl, hR => by
    rw [Nat.add_mul, Nat.one_mul] at hl
    refine ⟨cs.take x.size, cs.drop x.size, (List.take_append_drop _ _).symm, by simp; omega, by simpa using hR 0 (by omega), fits_rep m (by simp; omega) fun i hi => ?_⟩
    have := hR (i + 1) (by omega)
    rwa [List.drop_drop, show x.size + i * x.size = (i + 1) * x.size by rw [Nat.add_mul, Nat.one_mul, Nat.add_comm]]
theorem fits_of {P : Program} {h : Heap} {N : Nat} : ∀ (d : Nat) {n : Nat} {t : TypeId} {x : Ty} {cs : List Value}, shape P d t = some x → RdN P h N n t cs → (cs.length = x.size ∨ True) → Fit h N x cs
  | 0, n, t, x, cs, hs, _, _ => by simp [shape] at hs
  | d + 1, 0, t, x, cs, hs, hR, _ => hR.elim
  | d + 1, n + 1, t, x, cs, hs, hR, _ => by
    unfold shape at hs
    unfold RdN at hR
    cases hu : P.underlying t with
    | none => rw [hu] at hs; simp at hs
    | some td =>
      rw [hu] at hs hR
      cases td <;> simp only [Option.some.injEq, reduceCtorEq] at hs hR
      case bool => subst hs; exact hR
      case int k => subst hs; exact hR
      case string => subst hs; exact hR
      case slice e =>
        split at hs
        · rename_i y hy
          split at hs
          · rename_i hc
            simp only [Option.some.injEq] at hs
            subst hs
            simp only [Bool.and_eq_true, Nat.beq_eq] at hc
            obtain ⟨s, rfl, hS⟩ := hR
            have hpos : 0 < P.bytesOf e := Nat.le_of_ble_eq_true hc.2
            refine ⟨s, rfl, ?_⟩
            rcases hS hpos with hS | ⟨a, h1, h2, h3, h4, h5⟩
            · exact .inl hS
            · refine .inr ⟨a, h1, h2, h3, h4, fun i hi => ?_⟩
              obtain ⟨cs, k1, k2, k3⟩ := h5 i hi
              exact ⟨cs, k1, k2, fits_of d hy k3 (.inr trivial)⟩
          · simp at hs
        · simp at hs
      case struct fs =>
        split at hs
        · rename_i y hy
          split at hs
          · rename_i hc
            simp only [Option.some.injEq] at hs
            subst hs
            rw [Nat.beq_eq] at hc
            have := fits_fs (P := P) (h := h) (N := N) (R := fun t cs => RdN P h N n t cs) (fun t x cs h1 h2 _ => fits_of d h1 h2 (.inr trivial)) hy (cs := cs) (by rw [hR.1, hc]; omega) hR.2
            simpa using this
          · simp at hs
        · simp at hs
      case array m e =>
        split at hs
        · rename_i y hy
          split at hs
          · rename_i hc
            simp only [Option.some.injEq] at hs
            subst hs
            simp only [Bool.and_eq_true, Nat.beq_eq] at hc
            refine fits_rep m (by rw [hR.1, hc.1]; exact hc.2) fun i hi => ?_
            rw [hc.1]
            exact fits_of d hy (hR.2 i hi) (.inr trivial)
          · simp at hs
        · simp at hs
/-- The elements of a slice that came in. -/
theorem SlN.view {α : Type} {h : Heap} {N sz bts : Nat} {s : Sl} {E : List Value → Prop} (S : SlN h N sz bts s E) (R : α → List Value → Prop) (hE : ∀ cs, E cs → ∃ x, R x cs) : s.len ≤ s.cap ∧ s.cap ≤ N ∧ s.cap * bts ≤ 140737488351232 ∧ ∃ xs : List α, View h sz R s xs := by
  rcases S with ⟨h1, h2, h3⟩ | ⟨a, h1, h2, h3, h4, h5⟩
  · exact ⟨by omega, by omega, by rw [h3]; omega, [], by rw [h2]; rfl, by simp⟩
  · refine ⟨h2, h4, h3, ?_⟩
    have : ∀ n, n ≤ s.cap → ∃ xs : List α, xs.length = n ∧ ∀ (i : Nat) x, xs[i]? = some x → ∃ a cs, s.ptr = some a ∧ cs.length = sz ∧ R x cs ∧ cellsAre h (a.add (i * sz)) cs := by
      intro n
      induction n with
      | zero => intro _; exact ⟨[], rfl, by simp⟩
      | succ n ih =>
        intro hn
        obtain ⟨xs, hl, hx⟩ := ih (by omega)
        obtain ⟨cs, k1, k2, k3⟩ := h5 n (by omega)
        obtain ⟨x, hR⟩ := hE cs k3
        refine ⟨xs ++ [x], by simp [hl], fun i y hy => ?_⟩
        rw [List.getElem?_append] at hy
        split at hy
        · exact hx i y hy
        · rename_i hi
          have : i = n := by
            rw [hl] at hi hy
            by_cases e : i - n = 0
            · omega
            · rw [List.getElem?_eq_none (by simp; omega)] at hy; simp at hy
          subst this
          rw [hl, Nat.sub_self] at hy
          simp at hy; subst hy
          exact ⟨a, cs, h1, k1, hR, k2⟩
    obtain ⟨xs, hl, hx⟩ := this s.len h2
    exact ⟨xs, hl.symm, hx⟩
theorem u8_of {cs : List Value} {h : Heap} {N : Nat} (hf : Fit h N (.int .u8) cs) : ∃ x : UInt8, En u8 x cs := by
  obtain ⟨x, rfl, h1, h2⟩ := hf
  simp [IntKind.min, IntKind.max, IntKind.bits, IntKind.signed] at h1 h2
  refine ⟨UInt8.ofNat x.toNat, ?_⟩
  simp only [En, u8, UInt8.toNat_ofNat', List.cons.injEq, Value.int.injEq, true_and, and_true]
  omega
/-- A list of bytes that came in. -/
theorem SlN.bytes {h : Heap} {N : Nat} {s : Sl} (S : SlN h N 1 1 s fun cs => Fit h N (.int .u8) cs) : s.len ≤ s.cap ∧ s.cap ≤ N ∧ ∃ l : List UInt8, Bytes h s l := by
  obtain ⟨h1, h2, _, xs, V⟩ := S.view (En u8) (fun cs hf => u8_of hf)
  exact ⟨h1, h2, xs, V⟩
end Go.Proofs.Ytigcpkejjjgkeaa.V
/-
  SMALL RULES: branches, joins, numbers; and the last step of a law.
-/
namespace Go.Proofs.Ytigcpkejjjgkeaa.V
open Go Go.RowKit
set_option linter.unusedVariables false
set_option linter.unusedSimpArgs false

theorem brr_p {p : Prop} [Decidable p] {A B : Prop} (h1 : p → A) (h2 : ¬ p → B) : brr (decide p) A B := by
  rw [brr_dec]; split
  · rename_i h; exact h1 h
  · rename_i h; exact h2 h
theorem brr_eq {a b : Int} {A B : Prop} (h1 : a = b → A) (h2 : a ≠ b → B) : brr (a == b) A B := by
  by_cases h : a = b
  · rw [show (a == b) = true by simpa using h]; exact h1 h
  · rw [show (a == b) = false by simpa using h]; exact h2 h
theorem brr_ne {a b : Int} {A B : Prop} (h1 : a ≠ b → A) (h2 : a = b → B) : brr (a != b) A B := by
  by_cases h : a = b
  · rw [show (a != b) = false by simpa using h]; exact h2 h
  · rw [show (a != b) = true by simpa using h]; exact h1 h
theorem brr_not {b : Bool} {A B : Prop} (h : brr b B A) : brr (!b) A B := by cases b <;> exact h
theorem brr_of {b : Bool} {A B : Prop} (h1 : b = true → A) (h2 : b = false → B) : brr b A B := by cases b; exact h2 rfl; exact h1 rfl
theorem brr_tt {b : Bool} {A B : Prop} (e : b = true) (h : A) : brr b A B := by subst e; exact h
theorem brr_ff {b : Bool} {A B : Prop} (e : b = false) (h : B) : brr b A B := by subst e; exact h
theorem ldL_n {vs : List Value} {K : Prop} (h : K) : ldL [] vs K := by cases vs <;> exact h
theorem ldL_c {k : Kd} {ks : List Kd} {x : k.T} {vs : List Value} {K : k.T → Fn ks Prop} (h : ldL ks vs (K x)) : ldL (k :: ks) (k.enc x :: vs) K := ⟨x, rfl, h⟩
theorem jn0 {rest : Heap → Prop} {body : (Heap → Prop) → Prop} (C : Heap → Prop) (h1 : ∀ h, C h → rest h) (h2 : ∀ j : Heap → Prop, (∀ h, C h → j h) → body j) : jn [] rest body := h2 rest h1
theorem jn1 {i : Nat} {k : Kd} {rest : k.T → Heap → Prop} {body : (k.T → Heap → Prop) → Prop} (C : k.T → Heap → Prop) (h1 : ∀ x h, C x h → rest x h) (h2 : ∀ j : k.T → Heap → Prop, (∀ x h, C x h → j x h) → body j) : jn [(i, .one k)] rest body := h2 rest h1
theorem jn2 {i i2 : Nat} {k k2 : Kd} {rest : k.T → k2.T → Heap → Prop} {body : (k.T → k2.T → Heap → Prop) → Prop} (C : k.T → k2.T → Heap → Prop) (h1 : ∀ x y h, C x y h → rest x y h) (h2 : ∀ j : k.T → k2.T → Heap → Prop, (∀ x y h, C x y h → j x y h) → body j) : jn [(i, .one k), (i2, .one k2)] rest body := h2 rest h1
theorem wl5 {i1 i2 i3 i4 i5 : Nat} {k1 k2 k3 k4 k5 : Kd} {B : (k1.T → k2.T → k3.T → k4.T → k5.T → Heap → Prop) → k1.T → k2.T → k3.T → k4.T → k5.T → Heap → Prop} (I : Nat → k1.T → k2.T → k3.T → k4.T → k5.T → Heap → Prop)
    (step : ∀ m x1 x2 x3 x4 x5 h (next : k1.T → k2.T → k3.T → k4.T → k5.T → Heap → Prop), (∀ m' x1' x2' x3' x4' x5' h', m' < m → I m' x1' x2' x3' x4' x5' h' → next x1' x2' x3' x4' x5' h') → I m x1 x2 x3 x4 x5 h → B next x1 x2 x3 x4 x5 h) {m : Nat} {x1 : k1.T} {x2 : k2.T} {x3 : k3.T} {x4 : k4.T} {x5 : k5.T} {h : Heap} (hI : I m x1 x2 x3 x4 x5 h) : wl [(i1, .one k1), (i2, .one k2), (i3, .one k3), (i4, .one k4), (i5, .one k5)] B x1 x2 x3 x4 x5 h := by
  have key : ∀ n x1 x2 x3 x4 x5 h, (∃ m, m < n ∧ I m x1 x2 x3 x4 x5 h) → wit [(i1, .one k1), (i2, .one k2), (i3, .one k3), (i4, .one k4), (i5, .one k5)] B n x1 x2 x3 x4 x5 h := by
    intro n
    induction n with
    | zero => intro x1 x2 x3 x4 x5 h ⟨m, hm, _⟩; omega
    | succ n ih => intro x1 x2 x3 x4 x5 h ⟨m, hm, hI⟩; exact step m x1 x2 x3 x4 x5 h _ (fun m' x1' x2' x3' x4' x5' h' hm' hI' => ih x1' x2' x3' x4' x5' h' ⟨m', by omega, hI'⟩) hI
  exact ⟨m + 1, key (m + 1) x1 x2 x3 x4 x5 h ⟨m, by omega, hI⟩⟩
theorem wl6 {i1 i2 i3 i4 i5 i6 : Nat} {k1 k2 k3 k4 k5 k6 : Kd} {B : (k1.T → k2.T → k3.T → k4.T → k5.T → k6.T → Heap → Prop) → k1.T → k2.T → k3.T → k4.T → k5.T → k6.T → Heap → Prop} (I : Nat → k1.T → k2.T → k3.T → k4.T → k5.T → k6.T → Heap → Prop)
    (step : ∀ m x1 x2 x3 x4 x5 x6 h (next : k1.T → k2.T → k3.T → k4.T → k5.T → k6.T → Heap → Prop), (∀ m' x1' x2' x3' x4' x5' x6' h', m' < m → I m' x1' x2' x3' x4' x5' x6' h' → next x1' x2' x3' x4' x5' x6' h') → I m x1 x2 x3 x4 x5 x6 h → B next x1 x2 x3 x4 x5 x6 h) {m : Nat} {x1 : k1.T} {x2 : k2.T} {x3 : k3.T} {x4 : k4.T} {x5 : k5.T} {x6 : k6.T} {h : Heap} (hI : I m x1 x2 x3 x4 x5 x6 h) : wl [(i1, .one k1), (i2, .one k2), (i3, .one k3), (i4, .one k4), (i5, .one k5), (i6, .one k6)] B x1 x2 x3 x4 x5 x6 h := by
  have key : ∀ n x1 x2 x3 x4 x5 x6 h, (∃ m, m < n ∧ I m x1 x2 x3 x4 x5 x6 h) → wit [(i1, .one k1), (i2, .one k2), (i3, .one k3), (i4, .one k4), (i5, .one k5), (i6, .one k6)] B n x1 x2 x3 x4 x5 x6 h := by
    intro n
    induction n with
    | zero => intro x1 x2 x3 x4 x5 x6 h ⟨m, hm, _⟩; omega
    | succ n ih => intro x1 x2 x3 x4 x5 x6 h ⟨m, hm, hI⟩; exact step m x1 x2 x3 x4 x5 x6 h _ (fun m' x1' x2' x3' x4' x5' x6' h' hm' hI' => ih x1' x2' x3' x4' x5' x6' h' ⟨m', by omega, hI'⟩) hI
  exact ⟨m + 1, key (m + 1) x1 x2 x3 x4 x5 x6 h ⟨m, by omega, hI⟩⟩
theorem wl7 {i1 i2 i3 i4 i5 i6 i7 : Nat} {k1 k2 k3 k4 k5 k6 k7 : Kd} {B : (k1.T → k2.T → k3.T → k4.T → k5.T → k6.T → k7.T → Heap → Prop) → k1.T → k2.T → k3.T → k4.T → k5.T → k6.T → k7.T → Heap → Prop} (I : Nat → k1.T → k2.T → k3.T → k4.T → k5.T → k6.T → k7.T → Heap → Prop)
    (step : ∀ m x1 x2 x3 x4 x5 x6 x7 h (next : k1.T → k2.T → k3.T → k4.T → k5.T → k6.T → k7.T → Heap → Prop), (∀ m' x1' x2' x3' x4' x5' x6' x7' h', m' < m → I m' x1' x2' x3' x4' x5' x6' x7' h' → next x1' x2' x3' x4' x5' x6' x7' h') → I m x1 x2 x3 x4 x5 x6 x7 h → B next x1 x2 x3 x4 x5 x6 x7 h) {m : Nat} {x1 : k1.T} {x2 : k2.T} {x3 : k3.T} {x4 : k4.T} {x5 : k5.T} {x6 : k6.T} {x7 : k7.T} {h : Heap} (hI : I m x1 x2 x3 x4 x5 x6 x7 h) : wl [(i1, .one k1), (i2, .one k2), (i3, .one k3), (i4, .one k4), (i5, .one k5), (i6, .one k6), (i7, .one k7)] B x1 x2 x3 x4 x5 x6 x7 h := by
  have key : ∀ n x1 x2 x3 x4 x5 x6 x7 h, (∃ m, m < n ∧ I m x1 x2 x3 x4 x5 x6 x7 h) → wit [(i1, .one k1), (i2, .one k2), (i3, .one k3), (i4, .one k4), (i5, .one k5), (i6, .one k6), (i7, .one k7)] B n x1 x2 x3 x4 x5 x6 x7 h := by
    intro n
    induction n with
    | zero => intro x1 x2 x3 x4 x5 x6 x7 h ⟨m, hm, _⟩; omega
    | succ n ih => intro x1 x2 x3 x4 x5 x6 x7 h ⟨m, hm, hI⟩; exact step m x1 x2 x3 x4 x5 x6 x7 h _ (fun m' x1' x2' x3' x4' x5' x6' x7' h' hm' hI' => ih x1' x2' x3' x4' x5' x6' x7' h' ⟨m', by omega, hI'⟩) hI
  exact ⟨m + 1, key (m + 1) x1 x2 x3 x4 x5 x6 x7 h ⟨m, by omega, hI⟩⟩
theorem wl8 {i1 i2 i3 i4 i5 i6 i7 i8 : Nat} {k1 k2 k3 k4 k5 k6 k7 k8 : Kd} {B : (k1.T → k2.T → k3.T → k4.T → k5.T → k6.T → k7.T → k8.T → Heap → Prop) → k1.T → k2.T → k3.T → k4.T → k5.T → k6.T → k7.T → k8.T → Heap → Prop} (I : Nat → k1.T → k2.T → k3.T → k4.T → k5.T → k6.T → k7.T → k8.T → Heap → Prop)
    (step : ∀ m x1 x2 x3 x4 x5 x6 x7 x8 h (next : k1.T → k2.T → k3.T → k4.T → k5.T → k6.T → k7.T → k8.T → Heap → Prop), (∀ m' x1' x2' x3' x4' x5' x6' x7' x8' h', m' < m → I m' x1' x2' x3' x4' x5' x6' x7' x8' h' → next x1' x2' x3' x4' x5' x6' x7' x8' h') → I m x1 x2 x3 x4 x5 x6 x7 x8 h → B next x1 x2 x3 x4 x5 x6 x7 x8 h) {m : Nat} {x1 : k1.T} {x2 : k2.T} {x3 : k3.T} {x4 : k4.T} {x5 : k5.T} {x6 : k6.T} {x7 : k7.T} {x8 : k8.T} {h : Heap} (hI : I m x1 x2 x3 x4 x5 x6 x7 x8 h) : wl [(i1, .one k1), (i2, .one k2), (i3, .one k3), (i4, .one k4), (i5, .one k5), (i6, .one k6), (i7, .one k7), (i8, .one k8)] B x1 x2 x3 x4 x5 x6 x7 x8 h := by
  have key : ∀ n x1 x2 x3 x4 x5 x6 x7 x8 h, (∃ m, m < n ∧ I m x1 x2 x3 x4 x5 x6 x7 x8 h) → wit [(i1, .one k1), (i2, .one k2), (i3, .one k3), (i4, .one k4), (i5, .one k5), (i6, .one k6), (i7, .one k7), (i8, .one k8)] B n x1 x2 x3 x4 x5 x6 x7 x8 h := by
    intro n
    induction n with
    | zero => intro x1 x2 x3 x4 x5 x6 x7 x8 h ⟨m, hm, _⟩; omega
    | succ n ih => intro x1 x2 x3 x4 x5 x6 x7 x8 h ⟨m, hm, hI⟩; exact step m x1 x2 x3 x4 x5 x6 x7 x8 h _ (fun m' x1' x2' x3' x4' x5' x6' x7' x8' h' hm' hI' => ih x1' x2' x3' x4' x5' x6' x7' x8' h' ⟨m', by omega, hI'⟩) hI
  exact ⟨m + 1, key (m + 1) x1 x2 x3 x4 x5 x6 x7 x8 h ⟨m, by omega, hI⟩⟩
theorem jn3 {i1 i2 i3 : Nat} {k1 k2 k3 : Kd} {rest : k1.T → k2.T → k3.T → Heap → Prop} {body : (k1.T → k2.T → k3.T → Heap → Prop) → Prop} (C : k1.T → k2.T → k3.T → Heap → Prop) (h1 : ∀ x1 x2 x3 h, C x1 x2 x3 h → rest x1 x2 x3 h) (h2 : ∀ j : k1.T → k2.T → k3.T → Heap → Prop, (∀ x1 x2 x3 h, C x1 x2 x3 h → j x1 x2 x3 h) → body j) : jn [(i1, .one k1), (i2, .one k2), (i3, .one k3)] rest body := h2 rest h1
theorem jn4 {i1 i2 i3 i4 : Nat} {k1 k2 k3 k4 : Kd} {rest : k1.T → k2.T → k3.T → k4.T → Heap → Prop} {body : (k1.T → k2.T → k3.T → k4.T → Heap → Prop) → Prop} (C : k1.T → k2.T → k3.T → k4.T → Heap → Prop) (h1 : ∀ x1 x2 x3 x4 h, C x1 x2 x3 x4 h → rest x1 x2 x3 x4 h) (h2 : ∀ j : k1.T → k2.T → k3.T → k4.T → Heap → Prop, (∀ x1 x2 x3 x4 h, C x1 x2 x3 x4 h → j x1 x2 x3 x4 h) → body j) : jn [(i1, .one k1), (i2, .one k2), (i3, .one k3), (i4, .one k4)] rest body := h2 rest h1
theorem jn5 {i1 i2 i3 i4 i5 : Nat} {k1 k2 k3 k4 k5 : Kd} {rest : k1.T → k2.T → k3.T → k4.T → k5.T → Heap → Prop} {body : (k1.T → k2.T → k3.T → k4.T → k5.T → Heap → Prop) → Prop} (C : k1.T → k2.T → k3.T → k4.T → k5.T → Heap → Prop) (h1 : ∀ x1 x2 x3 x4 x5 h, C x1 x2 x3 x4 x5 h → rest x1 x2 x3 x4 x5 h) (h2 : ∀ j : k1.T → k2.T → k3.T → k4.T → k5.T → Heap → Prop, (∀ x1 x2 x3 x4 x5 h, C x1 x2 x3 x4 x5 h → j x1 x2 x3 x4 x5 h) → body j) : jn [(i1, .one k1), (i2, .one k2), (i3, .one k3), (i4, .one k4), (i5, .one k5)] rest body := h2 rest h1
theorem jn6 {i1 i2 i3 i4 i5 i6 : Nat} {k1 k2 k3 k4 k5 k6 : Kd} {rest : k1.T → k2.T → k3.T → k4.T → k5.T → k6.T → Heap → Prop} {body : (k1.T → k2.T → k3.T → k4.T → k5.T → k6.T → Heap → Prop) → Prop} (C : k1.T → k2.T → k3.T → k4.T → k5.T → k6.T → Heap → Prop) (h1 : ∀ x1 x2 x3 x4 x5 x6 h, C x1 x2 x3 x4 x5 x6 h → rest x1 x2 x3 x4 x5 x6 h) (h2 : ∀ j : k1.T → k2.T → k3.T → k4.T → k5.T → k6.T → Heap → Prop, (∀ x1 x2 x3 x4 x5 x6 h, C x1 x2 x3 x4 x5 x6 h → j x1 x2 x3 x4 x5 x6 h) → body j) : jn [(i1, .one k1), (i2, .one k2), (i3, .one k3), (i4, .one k4), (i5, .one k5), (i6, .one k6)] rest body := h2 rest h1
theorem i64_min : IntKind.i64.min = -9223372036854775808 := by decide
theorem i64_max : IntKind.i64.max = 9223372036854775807 := by decide
theorem u64_min : IntKind.u64.min = 0 := by decide
theorem u64_max : IntKind.u64.max = 18446744073709551615 := by decide
theorem u32_min : IntKind.u32.min = 0 := by decide
theorem u32_max : IntKind.u32.max = 4294967295 := by decide
theorem u8_min : IntKind.u8.min = 0 := by decide
theorem u8_max : IntKind.u8.max = 255 := by decide
theorem tmod_fix {a c : Int} (hc : 0 < c) : (if a.tmod c < 0 then a.tmod c + c else a.tmod c) = a % c := by
  have h1 := Int.emod_nonneg a (show c ≠ 0 by omega)
  have h2 := Int.emod_lt_of_pos a hc
  have h3 := Int.tmod_eq_emod (a := a) (b := c)
  split at h3
  · rw [if_neg (by omega)]; omega
  · rw [if_pos (by omega)]; omega
theorem tmod_lt {a c : Int} (hc : 0 < c) : -c < a.tmod c ∧ a.tmod c < c := by
  have h1 := Int.emod_nonneg a (show c ≠ 0 by omega)
  have h2 := Int.emod_lt_of_pos a hc
  have h3 := Int.tmod_eq_emod (a := a) (b := c)
  by_cases h : c ∣ a
  · rw [if_pos (.inr h)] at h3
    omega
  · have : a % c ≠ 0 := fun e => h (Int.dvd_of_emod_eq_zero e)
    split at h3 <;> omega
theorem within_mod {n m : Int} (hm : 0 < m) : (n.tmod m + m).tmod m = n % m := by
  have h := tmod_lt (a := n) hm
  rw [Int.tmod_eq_emod_of_nonneg (by omega), Int.add_emod_right]
  have h3 := Int.tmod_eq_emod (a := n) (b := m)
  split at h3
  · rw [h3]; simp
  · rw [h3, Int.sub_emod, show ((m.natAbs : Nat) : Int) = m by omega]; simp
theorem okv_agg {P : Program} {t : TypeId} {v : Value} (ha : aggT P t = some true) (h : okv P t v) : ∃ cs, v = .agg cs := by
  unfold aggT at ha
  unfold okv at h
  cases hu : P.underlying t with
  | none => simp [hu] at ha
  | some d =>
    rw [hu] at ha h
    cases d <;> first | exact h | simp at ha
end Go.Proofs.Ytigcpkejjjgkeaa.V
/-
  MANY RESOURCES AS ONE: a list of things of one kind, each in memory of its own; one of them is taken out and put back.
-/
namespace Go.Proofs.Ytigcpkejjjgkeaa.V
open Go Go.RowKit
set_option linter.unusedVariables false
set_option linter.unusedSimpArgs false
variable {α β : Type}
theorem star_perm : ∀ {L : List Res} {E F : Blks}, star L E → F.Perm E → star L F
  | [], E, F, h, p => by
    have h' : E = [] := h
    subst h'
    exact List.Perm.eq_nil p
  | A :: L, E, F, ⟨E1, E2, q, h1, h2⟩, p => ⟨E1, E2, p.trans q, h1, h2⟩
theorem star_app : ∀ {L M : List Res} {E F : Blks}, star L E → star M F → star (L ++ M) (E ++ F)
  | [], M, E, F, h, k => by
    have h' : E = [] := h
    subst h'
    exact k
  | A :: L, M, E, F, ⟨E1, E2, q, h1, h2⟩, k => ⟨E1, E2 ++ F, by rw [← List.append_assoc]; exact q.append_right F, h1, star_app h2 k⟩
theorem set_set_res : ∀ (L : List Res) (i : Nat) (A B : Res), (L.set i A).set i B = L.set i B
  | [], _, _, _ => rfl
  | _ :: _, 0, _, _ => rfl
  | _ :: L, i + 1, A, B => by simp [set_set_res L i A B]
theorem Sat.pull {h0 h : Heap} {Rs L : List Res} (O : Sat h0 h (star Rs :: L)) (i : Nat) (hi : i < Rs.length) : Sat h0 h (nth i Rs :: star (Rs.set i V.emp) :: L) := by
  obtain ⟨E, ⟨E1, E2, p, h1, h2⟩, O⟩ := O
  obtain ⟨F1, F2, q, h3, h4⟩ := star_at i hi h1
  exact ⟨E, ⟨F1, F2 ++ E2, p.trans ((q.append_right E2).trans (by rw [List.append_assoc])), h3, F2, E2, List.Perm.refl _, h4 V.emp [] rfl, h2⟩, O⟩
theorem Sat.back {h0 h : Heap} {Rs L : List Res} {B : Res} {i : Nat} (O : Sat h0 h (B :: star (Rs.set i V.emp) :: L)) (hi : i < Rs.length) : Sat h0 h (star (Rs.set i B) :: L) := by
  obtain ⟨E, ⟨E1, E2, p, h1, F1, F2, q, h2, h3⟩, O⟩ := O
  obtain ⟨G1, G2, r, h4, h5⟩ := star_at i (by simpa using hi) h2
  rw [nth_set _ hi] at h4
  have h4' : G1 = [] := h4
  subst h4'
  have := h5 B E1 h1
  rw [set_set_res] at this
  refine ⟨E, ⟨E1 ++ G2, F2, ?_, this, h3⟩, O⟩
  refine p.trans ((q.append_left E1).trans ?_)
  rw [List.append_assoc]
  exact (List.Perm.append_right F2 (by simpa using r)).append_left E1
theorem Sat.snoc {h0 h : Heap} {Rs L : List Res} {A : Res} (O : Sat h0 h (A :: star Rs :: L)) : Sat h0 h (star (Rs ++ [A]) :: L) := by
  obtain ⟨E, ⟨E1, E2, p, h1, F1, F2, q, h2, h3⟩, O⟩ := O
  refine ⟨E, ⟨F1 ++ E1, F2, ?_, ?_, h3⟩, O⟩
  · refine p.trans ((q.append_left E1).trans ?_)
    rw [← List.append_assoc]
    exact List.perm_append_comm.append_right F2
  · have h4 : star [A] E1 := ⟨E1, [], by simp, h1, rfl⟩
    exact star_app h2 h4
/-- Things of one kind. -/
def many (f : α → Res) (xs : List α) : Res := star (xs.map f)
def hole (f : α → Res) (xs : List α) (i : Nat) : Res := star ((xs.map f).set i emp)
theorem nth_mapf {f : α → Res} : ∀ {xs : List α} {i : Nat} {x : α}, xs[i]? = some x → nth i (xs.map f) = f x
  | [], i, x, h => by simp at h
  | y :: ys, 0, x, h => by simp at h; subst h; rfl
  | y :: ys, i + 1, x, h => nth_mapf (xs := ys) (i := i) (by simpa using h)
theorem Sat.take {h0 h : Heap} {f : α → Res} {xs : List α} {L : List Res} (O : Sat h0 h (many f xs :: L)) (i : Nat) {x : α} (hi : xs[i]? = some x) : Sat h0 h (f x :: hole f xs i :: L) := by
  have hl := (List.getElem?_eq_some_iff.1 hi).1
  have := Sat.pull (Rs := xs.map f) O i (by simpa using hl)
  rw [nth_mapf hi] at this
  exact this
theorem Sat.give {h0 h : Heap} {f : α → Res} {xs : List α} {L : List Res} {i : Nat} {y : α} (O : Sat h0 h (f y :: hole f xs i :: L)) (hi : i < xs.length) : Sat h0 h (many f (xs.set i y) :: L) := by
  have := Sat.back (Rs := xs.map f) O (by simpa using hi)
  unfold many
  rw [List.map_set]
  exact this
theorem Sat.more {h0 h : Heap} {f : α → Res} {xs : List α} {L : List Res} {y : α} (O : Sat h0 h (f y :: many f xs :: L)) : Sat h0 h (many f (xs ++ [y]) :: L) := by
  have := Sat.snoc (Rs := xs.map f) O
  unfold many
  rw [List.map_append]
  exact this
theorem Sat.none {h0 h : Heap} {f : α → Res} {L : List Res} (O : Sat h0 h L) : Sat h0 h (many f [] :: L) := O.empI
def u64c (x : Int) : List Value := [.int .u64 x]
def i64c (x : Int) : List Value := [.int .i64 x]
def ptrc (b : Nat) : List Value := [.pointer (some (pt b 0))]
theorem u64c_len (x : Int) : (u64c x).length = 1 := rfl
theorem i64c_len (x : Int) : (i64c x).length = 1 := rfl
theorem ptrc_len (b : Nat) : (ptrc b).length = 1 := rfl
def slc (s : Sl) : List Value := [.slice s.ptr s.len s.cap]
theorem slc_len (s : Sl) : (slc s).length = 1 := rfl
theorem slc_one (s : Sl) : (slc s).all oneV = true := rfl
theorem u8_len (x : UInt8) : (u8 x).length = 1 := rfl
theorem u64c_one (x : Int) : (u64c x).all oneV = true := rfl
theorem i64c_one (x : Int) : (i64c x).all oneV = true := rfl
theorem ptrc_one (b : Nat) : (ptrc b).all oneV = true := rfl
theorem u8_one (x : UInt8) : (u8 x).all oneV = true := rfl
theorem set_flat1 {enc : α → List Value} (he : ∀ x, (enc x).length = 1) : ∀ (xs : List α) (sp : List Value) (i : Nat) (y : α), i < xs.length → V.put (xs.flatMap enc ++ sp) i (enc y) = (xs.set i y).flatMap enc ++ sp
  | [], sp, i, y, h => by simp at h
  | x :: xs, sp, 0, y, h => by
    have h1 := he x; have h2 := he y
    rw [List.flatMap_cons, List.set_cons_zero, List.flatMap_cons]
    match hx : enc x, hy : enc y with
    | [a], [c] => simp [V.put, put_nil]
    | [], _ => rw [hx] at h1; simp at h1
    | _ :: _ :: _, _ => rw [hx] at h1; simp at h1
    | _, [] => rw [hy] at h2; simp at h2
    | _, _ :: _ :: _ => rw [hy] at h2; simp at h2
  | x :: xs, sp, i + 1, y, h => by
    have h1 := he x
    rw [List.flatMap_cons, List.set_cons_succ, List.flatMap_cons]
    match hx : enc x with
    | [a] =>
      have := set_flat1 he xs sp i y (by simpa using h)
      simp [V.put]
      simpa using this
    | [] => rw [hx] at h1; simp at h1
    | _ :: _ :: _ => rw [hx] at h1; simp at h1
/-- An element of one's own list is written: elements of one cell. -/
theorem Sat.put1 {h0 h : Heap} {L : List Res} {enc : α → List Value} {s : Sl} {xs : List α} {i : Int} {K : Heap → Prop} (O : Sat h0 h (buf 1 enc s xs :: L)) (he : ∀ x, (enc x).length = 1) (ho : ∀ x, (enc x).all oneV = true)
    (hi0 : 0 ≤ i) (hi1 : i < (xs.length : Int)) (y : α) {cs : List Value} (hcs : cs = enc y) (k : ∀ h', Sat h0 h' (buf 1 enc s (xs.set i.toNat y) :: L) → K h') : ixS 1 s i fun a => V.st a cs h K := by
  subst hcs
  obtain ⟨sp, O⟩ := O.ex
  obtain ⟨E, ⟨E1, E2, p, hA, h2⟩, O⟩ := O
  have O := O.perm p.symm
  rcases hA with ⟨rfl, rfl, _, _⟩ | ⟨b, j, rfl, hsp, rfl⟩
  · simp at hi1; omega
  · refine ⟨pt b 0, rfl, hi0, hi1, ?_⟩
    rw [pt_add, Nat.zero_add, Nat.mul_one]
    have hl := flatMap_len he xs
    refine Held.st O (by rw [he, List.length_append, hl]; omega) (ho y) fun h' O' => ?_
    rw [set_flat1 he _ _ _ _ (by omega)] at O'
    exact k _ ⟨_, ⟨[(b, _)], E2, List.Perm.refl _, ⟨sp, .inr ⟨b, j, by simp, hsp, rfl⟩⟩, h2⟩, O'⟩
theorem View.at1 {h : Heap} {enc : α → List Value} {s : Sl} {xs : List α} {i : Int} {k : Kd} {K : k.T → Prop} (V : View h 1 (En enc) s xs) (h0 : 0 ≤ i) (h1 : i < (xs.length : Int)) (f : α → k.T) (hf : ∀ x, enc x = [k.enc (f x)])
    (kk : ∀ x, xs[i.toNat]? = some x → K (f x)) : ixS 1 s i fun a => ld [k] a h K :=
  V.ix h0 h1 fun a cs x hx hl hR hc => by
    have e : cs = [k.enc (f x)] := hR.trans (hf x)
    rw [e] at hc
    exact ld_are hc (ldL_c (ldL_n (kk x hx)))
theorem View.get1 {h : Heap} {enc : α → List Value} {s : Sl} {xs : List α} {i : Int} {k : Kd} {K : k.T → Prop} {x : α} (V : View h 1 (En enc) s xs) (h0 : 0 ≤ i) (hx : xs[i.toNat]? = some x) (f : α → k.T) (hf : ∀ x, enc x = [k.enc (f x)])
    (kk : K (f x)) : ixS 1 s i fun a => ld [k] a h K :=
  V.at1 h0 (by have := (List.getElem?_eq_some_iff.1 hx).1; omega) f hf fun y hy => by
    rw [hx] at hy
    have e := Option.some.inj hy
    subst e
    exact kk
/-- An element's place, and that it lies there for as long as the list does. -/
theorem View.getP {h : Heap} {sz : Nat} {enc : α → List Value} {s : Sl} {xs : List α} {i : Int} {K : Addr → Prop} {x : α} (V : View h sz (En enc) s xs) (h0 : 0 ≤ i) (hx : xs[i.toNat]? = some x)
    (kk : ∀ a, (∀ {h' : Heap}, View h' sz (En enc) s xs → cellsAre h' a (enc x)) → K a) : ixS sz s i K := by
  have hl := (List.getElem?_eq_some_iff.1 hx).1
  obtain ⟨a, cs, h1, _, _, _⟩ := V.2 i.toNat x hx
  refine ⟨a, h1, h0, by rw [V.1]; omega, kk _ fun {h'} V' => ?_⟩
  obtain ⟨a', cs', q1, _, q3, q4⟩ := V'.2 i.toNat x hx
  rw [h1] at q1
  have e := Option.some.inj q1
  subst e
  have e2 : cs' = enc x := q3
  subst e2
  exact q4
theorem set_same {xs : List α} {n : Nat} {x : α} (hx : xs[n]? = some x) : xs.set n x = xs := by
  obtain ⟨h, e⟩ := List.getElem?_eq_some_iff.1 hx
  rw [← e]
  exact List.set_getElem_self h
theorem map_set_fst {xs : List (Nat × β)} {n : Nat} {b : Nat} {x y : β} (hx : xs[n]? = some (b, x)) : (xs.set n (b, y)).map (·.1) = xs.map (·.1) := by
  rw [List.map_set]
  exact set_same (by simp [hx])
theorem Sat.cells {h0 h : Heap} {L : List Res} (O : Sat h0 h L) (i : Nat) {b : Nat} {cs : List Value} (hi : nth i L = own b cs) (o n : Nat) : cellsAre h (pt b o) ((cs.drop o).take n) := cellsAre_blk (O.blk (nth_lt hi) hi).2 o n
theorem ixA_of_ixS {sz n c : Nat} {a : Addr} {i : Int} {K : Addr → Prop} (h : ixS sz ⟨some a, n, c⟩ i K) : ixA sz a n i K := by
  obtain ⟨a', h1, h2, h3, h4⟩ := h
  have e : a = a' := Option.some.inj h1
  subst e
  exact ⟨h2, h3, h4⟩
theorem Sat.arr {h0 h : Heap} {L : List Res} (O : Sat h0 h L) (i : Nat) {sz b : Nat} {enc : α → List Value} {xs : List α} (he : ∀ x, (enc x).length = sz) (hi : nth i L = own b (xs.flatMap enc)) : View h sz (En enc) ⟨some (pt b 0), xs.length, xs.length⟩ xs := by
  have B := (O.blk (nth_lt hi) hi).2
  rw [← List.append_nil (xs.flatMap enc)] at B
  exact view_of_blk he B
/-- An array's element of one cell is read. -/
theorem Sat.getA {h0 h : Heap} {L : List Res} (O : Sat h0 h L) (j : Nat) {b n : Nat} {enc : α → List Value} {xs : List α} {i : Int} {k : Kd} {K : k.T → Prop} {x : α} (he : ∀ x, (enc x).length = 1) (hj : nth j L = own b (xs.flatMap enc)) (hn : n = xs.length) (h0 : 0 ≤ i) (hx : xs[i.toNat]? = some x) (f : α → k.T) (hf : ∀ x, enc x = [k.enc (f x)])
    (kk : K (f x)) : ixA 1 (pt b 0) n i fun a => V.ld [k] a h K := by
  subst hn
  exact ixA_of_ixS ((O.arr j he hj).get1 h0 hx f hf kk)
/-- An array's element of one cell is read, and lies there for as long as the array is kept. -/
theorem Sat.getA' {h0 h : Heap} {L : List Res} (O : Sat h0 h L) (j : Nat) {b n : Nat} {enc : α → List Value} {xs : List α} {i : Int} {k : Kd} {K : Addr → k.T → Prop} {x : α} (he : ∀ x, (enc x).length = 1) (hj : nth j L = own b (xs.flatMap enc)) (hn : n = xs.length) (h0 : 0 ≤ i) (hx : xs[i.toNat]? = some x) (f : α → k.T) (hf : ∀ x, enc x = [k.enc (f x)])
    (kk : ∀ a, (∀ {h0' h' : Heap} {L' : List Res}, Sat h0' h' L' → ∀ j', nth j' L' = own b (xs.flatMap enc) → cellsAre h' a (enc x)) → K a (f x)) : ixA 1 (pt b 0) n i fun a => V.ld [k] a h (K a) := by
  subst hn
  have hl := (List.getElem?_eq_some_iff.1 hx).1
  refine ⟨h0, by omega, ?_⟩
  have hc : ∀ {h0' h' : Heap} {L' : List Res}, Sat h0' h' L' → ∀ j', nth j' L' = own b (xs.flatMap enc) → cellsAre h' ((pt b 0).add (i.toNat * 1)) (enc x) := by
    intro h0' h' L' O' j' hj'
    obtain ⟨a, cs, h1, _, h3, h4⟩ := (O'.arr j' he hj').2 i.toNat x hx
    have e : pt b 0 = a := Option.some.inj h1
    subst e
    have e2 : cs = enc x := h3
    subst e2
    exact h4
  have h1 := hc O j hj
  rw [hf] at h1
  exact ld_are h1 (ldL_c (ldL_n (kk _ hc)))
/-- An array's element of one cell is written. -/
theorem Sat.putA {h0 h : Heap} {L : List Res} {b n : Nat} {enc : α → List Value} {xs : List α} {i : Int} {K : Heap → Prop} (O : Sat h0 h (own b (xs.flatMap enc) :: L)) (he : ∀ x, (enc x).length = 1) (ho : ∀ x, (enc x).all oneV = true) (hn : n = xs.length)
    (hi0 : 0 ≤ i) (hi1 : i < (xs.length : Int)) (y : α) {cs : List Value} (hcs : cs = enc y) (k : ∀ h', Sat h0 h' (own b ((xs.set i.toNat y).flatMap enc) :: L) → K h') : ixA 1 (pt b 0) n i fun a => V.st a cs h K := by
  subst hcs hn
  refine ⟨hi0, hi1, ?_⟩
  rw [pt_add, Nat.zero_add, Nat.mul_one]
  have hl := flatMap_len he xs
  refine O.st 0 rfl (by rw [he, hl]; omega) (ho y) fun h' O => ?_
  have e := set_flat1 he xs [] i.toNat y (by omega)
  rw [List.append_nil, List.append_nil] at e
  rw [e] at O
  exact k _ O
theorem Fit.i {h : Heap} {N : Nat} {k : IntKind} {b : Ty} {cs : List Value} (F : Fit h N (.cons (.int k) b) cs) : ∃ x c, cs = .int k x :: c ∧ k.min ≤ x ∧ x ≤ k.max ∧ Fit h N b c := by
  obtain ⟨_, c, rfl, _, ⟨x, rfl, h1, h2⟩, F⟩ := F
  exact ⟨x, c, rfl, h1, h2, F⟩
theorem Fit.b {h : Heap} {N : Nat} {b : Ty} {cs : List Value} (F : Fit h N (.cons .bool b) cs) : ∃ x c, cs = .bool x :: c ∧ Fit h N b c := by
  obtain ⟨_, c, rfl, _, ⟨x, rfl⟩, F⟩ := F
  exact ⟨x, c, rfl, F⟩
theorem Fit.a {h : Heap} {N : Nat} {b : Ty} {cs : List Value} (F : Fit h N (.cons .str b) cs) : ∃ (x : ByteArray) (c : List Value), cs = .string x :: c ∧ x.size ≤ N ∧ Fit h N b c := by
  obtain ⟨_, c, rfl, _, ⟨x, rfl, h1⟩, F⟩ := F
  exact ⟨x, c, rfl, h1, F⟩
theorem Fit.s {h : Heap} {N sz bts : Nat} {e b : Ty} {cs : List Value} (F : Fit h N (.cons (.sl sz bts e) b) cs) : ∃ (s : Sl) (c : List Value), cs = .slice s.ptr s.len s.cap :: c ∧ (SlN h N sz bts s fun cs => Fit h N e cs) ∧ Fit h N b c := by
  obtain ⟨_, c, rfl, _, ⟨x, rfl, h1⟩, F⟩ := F
  exact ⟨x, c, rfl, h1, F⟩
theorem Fit.g {h : Heap} {N : Nat} {x y b : Ty} {cs : List Value} (F : Fit h N (.cons (.cons x y) b) cs) : Fit h N (.cons x (.cons y b)) cs := by
  obtain ⟨_, c, rfl, hl, ⟨c1, c2, rfl, h1, F1, F2⟩, F⟩ := F
  refine ⟨c1, c2 ++ c, by rw [List.append_assoc], h1, F1, c2, c, rfl, ?_, F2, F⟩
  rw [List.length_append, h1] at hl
  simp only [Ty.size] at hl
  omega
theorem Fit.z {h : Heap} {N : Nat} {b : Ty} {cs : List Value} (F : Fit h N (.cons .nil b) cs) : Fit h N b cs := by
  obtain ⟨_, c, rfl, _, rfl, F⟩ := F
  exact F
theorem Fit.e {h : Heap} {N : Nat} {cs : List Value} (F : Fit h N .nil cs) : cs = [] := F
theorem okv_one {P : Program} {h : Heap} {N : Nat} {t : TypeId} {k : IntKind} {v : Value} (hu : P.underlying t = some (.int k)) (hv : okv P t v) (F : Fit h N (.int k) v.cells.toList) : ∃ x, v = .int k x ∧ k.min ≤ x ∧ x ≤ k.max := by
  obtain ⟨x, hx, h1, h2⟩ := F
  unfold okv at hv
  rw [hu] at hv
  refine ⟨x, ?_, h1, h2⟩
  cases v <;> simp [Value.cells] at hx <;> first | exact absurd rfl (hv _) | simp_all
theorem lit_buf {h0 h : Heap} {L : List Res} {b : Nat} {x : UInt8} (O : Sat h0 h (own b [.int .u8 (x.toNat : Int)] :: L)) : Sat h0 h (buf 1 u8 ⟨some (pt b 0), 1, 1⟩ [x] :: L) := by
  have O : Sat h0 h (own b ([x].flatMap u8 ++ []) :: L) := O
  exact (O.own_buf (k := 0) (sz := 1) rfl).bufsI
theorem jn_go {L : Ls} {rest : FnL L} {body : FnL L → Prop} (h : body rest) : jn L rest body := h
theorem al_id {T : TypeId} {cs : List Value} {h : Heap} {K : Addr → Heap → Prop} (k : al T cs h K) : al T cs h K := k
theorem nn_id {p : Option Addr} {K : Addr → Prop} (k : nn p K) : nn p K := k
theorem ld_id {ks : List Kd} {a : Addr} {h : Heap} {K : Fn ks Prop} (k : ld ks a h K) : ld ks a h K := k
theorem st_id {a : Addr} {vs : List Value} {h : Heap} {K : Heap → Prop} (k : st a vs h K) : st a vs h K := k
theorem st_ad {a : Addr} {b o : Nat} {vs : List Value} {h : Heap} {K : Heap → Prop} (e : a = pt b o) (k : st (pt b o) vs h K) : st a vs h K := e ▸ k
theorem ca_id {a : Addr} {vs : List Value} {h : Heap} {p : Prop} (k : cellsAre h a vs ∧ p) : cellsAre h a vs ∧ p := k
theorem Sat.ca {h0 h : Heap} {L : List Res} (O : Sat h0 h L) (i k : Nat) {b o : Nat} {cs : List Value} {p : Prop} (e : nth i L = own b cs) (hp : p) : cellsAre h (pt b o) ((cs.drop o).take k) ∧ p := ⟨cellsAre_blk (O.blk (nth_lt e) e).2 o k, hp⟩
theorem ldL_s {ks : List Kd} {p : Option Addr} {n c : Nat} {vs : List Value} {K : Sl → Fn ks Prop} (k : ldL ks vs (K ⟨p, n, c⟩)) : ldL (.sl :: ks) (.slice p n c :: vs) K := ldL_c (k := .sl) (x := ⟨p, n, c⟩) k
end Go.Proofs.Ytigcpkejjjgkeaa.V
namespace Go.Proofs.Ytigcpkejjjgkeaa.V
open Go Go.RowKit
set_option linter.unusedVariables false
set_option maxRecDepth 100000
def F_ref0_Eq_of (f60_ : Sl → Sl → Heap → (Int → Heap → Prop) → Prop) (a1 b2 : Sl) (h : Heap) (Q : Bool → Heap → Prop) : Prop :=
  f60_ a1 b2 h fun (r3 : Int) (h4 : Heap) =>
  Q (r3 == 0) h4
def F_ref0_Eq (a1 b2 : Sl) (h : Heap) (Q : Bool → Heap → Prop) : Prop := F_ref0_Eq_of F_ref0_Cmp a1 b2 h Q
def plan46 : Plan := .s (.r [0, 1]) (.s (.r [4]) .z)
theorem F_ref0_Eq.eq (f60_ : Sl → Sl → Heap → (Int → Heap → Prop) → Prop) (a1 b2 : Sl) (h : Heap) (K : Value → Heap → Prop) : F_ref0_Eq_of f60_ a1 b2 h (fun (r0 : Bool) (h : Heap) => K (.bool r0) h) =
    den Try.prog (fn1 60 (E_ref0_Cmp_of f60_) noFns) Try.f46.ntmps plan46 (bodyOf Try.f46) (args0 0 [(.slice a1.ptr a1.len a1.cap : Value), (.slice b2.ptr b2.len b2.cap : Value)]) h ⟨fun env h => dRes Try.prog Try.f46.results.toList env h K, fun _ _ _ => False, fun env h => dRes Try.prog Try.f46.results.toList env h K⟩ := by kernel_rfl
def E_ref0_Eq_of (f : Sl → Sl → Heap → (Bool → Heap → Prop) → Prop) : List Value → Heap → (Value → Heap → Prop) → Prop
  | [v0, v1], h, K => dec1 .sl v0 fun (a1 : Sl) =>
  dec1 .sl v1 fun (b2 : Sl) =>
  f a1 b2 h (fun (r0 : Bool) (h : Heap) => K (.bool r0) h)
  | _, _, _ => False
abbrev E_ref0_Eq := E_ref0_Eq_of F_ref0_Eq
theorem E_ref0_Eq.right : IsRight Try.prog 46 E_ref0_Eq := by
  refine isRight fun vs K w hh => ?_
  match vs, hh with
  | [v0, v1], hh =>
    unfold E_ref0_Eq E_ref0_Eq_of at hh
    replace hh := dec1_sound hh; obtain ⟨a1, rfl, hh⟩ := hh
    replace hh := dec1_sound hh; obtain ⟨b2, rfl, hh⟩ := hh
    unfold F_ref0_Eq at hh
    exact calls_den (fn1_right ok60 E_ref0_Cmp.right noFns_right) plan46 _ w K Try.func46 (by kernel_rfl) (by kernel_rfl) (Eq.mp (F_ref0_Eq.eq F_ref0_Cmp a1 b2 w.heap K) hh)
theorem ok46 : okFn Try.prog 46 = true := by kernel_rfl
end Go.Proofs.Ytigcpkejjjgkeaa.V
namespace Go.Proofs.Ytigcpkejjjgkeaa.V
open Go Go.RowKit
set_option linter.unusedVariables false
set_option maxRecDepth 100000
def F_ref0_Copy_of  (b1 : Sl) (h : Heap) (Q : Sl → Heap → Prop) : Prop :=
  mk 5 1 1 (.int .u8 0) ((b1.len : Nat) : Int) ((b1.len : Nat) : Int) h fun (s2 : Sl) (h3 : Heap) =>
  cpy 1 s2 b1.ptr b1.len h3 fun (h5 : Heap) =>
  Q s2 h5
def F_ref0_Copy (b1 : Sl) (h : Heap) (Q : Sl → Heap → Prop) : Prop := F_ref0_Copy_of  b1 h Q
def plan56 : Plan := .s (.r [0]) (.s (.r [0, 3]) (.s (.r [3]) (.s (.r [2]) .z)))
theorem F_ref0_Copy.eq  (b1 : Sl) (h : Heap) (K : Value → Heap → Prop) : F_ref0_Copy_of  b1 h (fun (r0 : Sl) (h : Heap) => K (.slice r0.ptr r0.len r0.cap) h) =
    den Try.prog noFns Try.f56.ntmps plan56 (bodyOf Try.f56) (args0 0 [(.slice b1.ptr b1.len b1.cap : Value)]) h ⟨fun env h => dRes Try.prog Try.f56.results.toList env h K, fun _ _ _ => False, fun env h => dRes Try.prog Try.f56.results.toList env h K⟩ := by kernel_rfl
def E_ref0_Copy_of (f : Sl → Heap → (Sl → Heap → Prop) → Prop) : List Value → Heap → (Value → Heap → Prop) → Prop
  | [v0], h, K => dec1 .sl v0 fun (b1 : Sl) =>
  f b1 h (fun (r0 : Sl) (h : Heap) => K (.slice r0.ptr r0.len r0.cap) h)
  | _, _, _ => False
abbrev E_ref0_Copy := E_ref0_Copy_of F_ref0_Copy
theorem E_ref0_Copy.right : IsRight Try.prog 56 E_ref0_Copy := by
  refine isRight fun vs K w hh => ?_
  match vs, hh with
  | [v0], hh =>
    unfold E_ref0_Copy E_ref0_Copy_of at hh
    replace hh := dec1_sound hh; obtain ⟨b1, rfl, hh⟩ := hh
    unfold F_ref0_Copy at hh
    exact calls_den noFns_right plan56 _ w K Try.func56 (by kernel_rfl) (by kernel_rfl) (Eq.mp (F_ref0_Copy.eq  b1 w.heap K) hh)
theorem ok56 : okFn Try.prog 56 = true := by kernel_rfl
end Go.Proofs.Ytigcpkejjjgkeaa.V
/- Lists of bytes: compared, copied, lent with marks in their spare room, laid over. -/
namespace Go.Proofs.Ytigcpkejjjgkeaa.V
open Go Go.RowKit
set_option linter.unusedVariables false
set_option linter.unusedSimpArgs false
variable {α : Type}
theorem take_succ_eq {xs : List α} {i : Nat} {x : α} (h : xs[i]? = some x) : xs.take (i + 1) = xs.take i ++ [x] := by rw [List.take_add_one, h]; rfl
theorem F_ref0_Cmp.is {h : Heap} {a b : Sl} {xs ys : List UInt8} {Q : Int → Heap → Prop} (V1 : Bytes h a xs) (V2 : Bytes h b ys) (h1 : xs.length < 4611686018427387904) (h2 : ys.length < 4611686018427387904) (k : ∀ r : Int, (r = 0 ↔ xs = ys) → Q r h) : F_ref0_Cmp a b h Q := by
  rw [F_ref0_Cmp.eq_1, F_ref0_Cmp_of.eq_1]
  rw [V1.len, V2.len]
  refine jn0 (fun h' => h' = h ∧ ∃ i, xs.take i = ys.take i ∧ (xs.length ≤ i ∨ ys.length ≤ i)) ?_ ?_
  · rintro h ⟨rfl, i, he, hi⟩
    refine brr_p (fun hlt => ?_) (fun hlt => ?_)
    · exact k _ ⟨fun h => (by cases h), fun h => by subst h; omega⟩
    · refine brr_p (fun hgt => ?_) (fun hgt => ?_)
      · exact k _ ⟨fun h => (by cases h), fun h => by subst h; omega⟩
      · refine k _ ⟨fun _ => ?_, fun _ => rfl⟩
        rw [List.take_of_length_le (by omega), List.take_of_length_le (by omega)] at he
        exact he
  · intro j hj
    rw [F_ref0_Cmp.l1.eq_1]
    refine wl1 (k := .int .i64) (fun (m : Nat) (i : Int) (h' : Heap) => h' = h ∧ 0 ≤ i ∧ i ≤ xs.length ∧ i + m = xs.length ∧ xs.take i.toNat = ys.take i.toNat) ?_ (m := xs.length) ⟨rfl, by omega, by omega, by omega, by simp⟩
    rintro m (i : Int) h next hn ⟨rfl, hi0, hi1, him, he⟩
    rw [V1.len, V2.len]
    refine jn1 (fun t h' => h' = h ∧ (t = true → i < xs.length ∧ i < ys.length) ∧ (t = false → (xs.length : Int) ≤ i ∨ (ys.length : Int) ≤ i)) ?_ ?_
    · rintro t h ⟨rfl, ht, hf⟩
      refine brr_of (fun e => ?_) (fun e => ?_)
      · obtain ⟨hx, hy⟩ := ht e
        refine Bytes.at V1 hi0 hx fun x hxx => ?_
        refine Bytes.at V2 hi0 hy fun y hyy => ?_
        have hne : x ≠ y → xs ≠ ys := fun hxy hs => by
          subst hs
          rw [hxx] at hyy
          exact hxy (Option.some.inj hyy)
        refine brr_p (fun hlt => ?_) (fun hlt => ?_)
        · exact k _ ⟨fun h => (by cases h), fun h => absurd h (hne (by intro h; subst h; omega))⟩
        · refine Bytes.at V1 hi0 hx fun x' hxx' => ?_
          refine Bytes.at V2 hi0 hy fun y' hyy' => ?_
          obtain rfl : x = x' := by rw [hxx] at hxx'; exact Option.some.inj hxx'
          obtain rfl : y = y' := by rw [hyy] at hyy'; exact Option.some.inj hyy'
          refine brr_p (fun hgt => ?_) (fun hgt => ?_)
          · exact k _ ⟨fun h => (by cases h), fun h => absurd h (hne (by intro h; subst h; omega))⟩
          · have hxy : x = y := UInt8.toNat.inj (by omega)
            rw [wrap64 (by omega) (by omega)]
            refine hn (m - 1) _ _ (by omega) ⟨rfl, by omega, by omega, by omega, ?_⟩
            rw [show (i + 1).toNat = i.toNat + 1 by omega, take_succ_eq hxx, take_succ_eq hyy, he, hxy]
      · refine hj _ ⟨rfl, i.toNat, he, ?_⟩
        rcases hf e with h | h
        · exact .inl (by omega)
        · exact .inr (by omega)
    · intro j2 hj2
      refine brr_p (fun hlt => ?_) (fun hlt => ?_)
      · refine hj2 _ _ ⟨rfl, fun e => ⟨hlt, by simpa using e⟩, fun e => .inr (by simpa using e)⟩
      · exact hj2 _ _ ⟨rfl, fun e => (by cases e), fun _ => .inl (by omega)⟩
theorem F_ref0_Eq.is {h : Heap} {a b : Sl} {xs ys : List UInt8} {Q : Bool → Heap → Prop} (V1 : Bytes h a xs) (V2 : Bytes h b ys) (h1 : xs.length < 4611686018427387904) (h2 : ys.length < 4611686018427387904) (k : Q (decide (xs = ys)) h) : F_ref0_Eq a b h Q := by
  rw [F_ref0_Eq.eq_1, F_ref0_Eq_of.eq_1]
  refine F_ref0_Cmp.is V1 V2 h1 h2 fun r hr => ?_
  have e : (r == 0) = decide (xs = ys) := by
    by_cases h : xs = ys
    · simp [h, hr.2 h]
    · have : r ≠ 0 := fun e => h (hr.1 e)
      simp [h, this]
  rw [e]
  exact k
theorem put_all {cs vs : List Value} (h : vs.length = cs.length) : V.put cs 0 vs = vs := by
  have := put_app [] cs vs (by omega)
  simp only [List.nil_append, List.length_nil] at this
  rw [this, h]; simp
theorem flat_u8 (l : List UInt8) : (l.flatMap u8).length = l.length := by rw [flatMap_len u8_len]; omega
theorem all_one {enc : α → List Value} (ho : ∀ x, (enc x).all oneV = true) (xs : List α) : (xs.flatMap enc).all oneV = true := by
  simp only [List.all_eq_true, List.mem_flatMap]
  rintro v ⟨x, _, hv⟩
  exact List.all_eq_true.1 (ho x) v hv
theorem F_ref0_Copy.is {h0 h : Heap} {L : List Res} {a : Sl} {xs : List UInt8} {Q : Sl → Heap → Prop} (O : Sat h0 h L) (V1 : Bytes h a xs) (h1 : xs.length ≤ 281474976710656) (k : ∀ s h', Sat h0 h' (buf 1 u8 s xs :: L) → s.len = xs.length → s.ptr ≠ none → Q s h') : F_ref0_Copy a h Q := by
  rw [F_ref0_Copy.eq_1, F_ref0_Copy_of.eq_1]
  have hl := V1.len
  refine (Sat.nil h).mk_buf (by omega) (by omega) (by omega) fun b h2 N => ?_
  refine ⟨xs.flatMap u8, ?_, ?_⟩
  · have := (V1.kept N.kept).rd u8_len
    rw [show Nat.min a.len ((a.len : Int).toNat) = a.len by simp]
    exact this
  · simp only [stP]
    have O := O.stack N
    refine O.st 0 rfl (by rw [flat_u8, mkCells_len]; omega) (all_one u8_one xs) fun h3 O => ?_
    have O : Sat h0 h3 (own b (V.put (mkCells (Value.int .u8 0) ((a.len : Int).toNat * 1)) 0 (xs.flatMap u8)) :: L) := O
    rw [put_all (by rw [flat_u8, mkCells_len]; omega)] at O
    have O : Sat h0 h3 (own b (xs.flatMap u8 ++ []) :: L) := by rw [List.append_nil]; exact O
    have O := O.own_buf (k := 0) (sz := 1) (by simp)
    refine k _ _ ?_ (by simp [hl]) (by simp)
    have e : (⟨some (pt b 0), (a.len : Int).toNat, (a.len : Int).toNat⟩ : Sl) = ⟨some (pt b 0), xs.length, xs.length + 0⟩ := by simp [hl]
    rw [e]
    exact O.bufsI
def marks : List UInt8 := [165, 90, 165]
def lent (s : Sl) (xs : List UInt8) : Res := ex fun sp => bufs 1 u8 s xs (marks.flatMap u8 ++ sp)
theorem lent.split {s : Sl} {xs : List UInt8} {E : Blks} (h : lent s xs E) : ∃ b k sp, s = ⟨some (pt b 0), xs.length, xs.length + k⟩ ∧ 3 ≤ k ∧ E = [(b, .inl ((xs ++ marks).flatMap u8 ++ sp))] ∧ sp.length + 3 = k := by
  obtain ⟨sp, h⟩ := h
  rcases h with ⟨_, _, h, _⟩ | ⟨b, k, rfl, h2, rfl⟩
  · simp [marks, u8] at h
  · rw [List.length_append, flat_u8] at h2
    have : marks.length = 3 := rfl
    exact ⟨b, k, sp, rfl, by omega, by rw [List.flatMap_append, List.append_assoc], by omega⟩
theorem Sat.lent {h0 h : Heap} {L : List Res} (O : Sat h0 h L) (i : Nat) {s : Sl} {xs : List UInt8} (hl : i < L.length) (hi : nth i L = V.lent s xs) : Bytes h s xs ∧ s.len + 3 ≤ s.cap ∧ Bytes h ⟨s.ptr, s.len + 3, s.cap⟩ (xs ++ marks) := by
  obtain ⟨E1, E2, h1, O', _⟩ := O.at i hl
  rw [hi] at h1
  obtain ⟨b, k, sp, rfl, hk, rfl, _⟩ := lent.split h1
  have B : Blk h b ((xs ++ marks).flatMap u8 ++ sp) := (O'.blk _ List.mem_cons_self).2
  have e : (xs ++ marks).length = xs.length + 3 := by simp [marks]
  have V3 := view_of_blk (k := xs.length + k) u8_len B
  rw [e] at V3
  refine ⟨?_, by simp; omega, V3⟩
  rw [List.flatMap_append, List.append_assoc] at B
  exact view_of_blk u8_len B
theorem b2s_view {h : Heap} {s : Sl} {l : List UInt8} {K : ByteArray → Prop} (V1 : Bytes h s l) (k : K ⟨l.toArray⟩) : b2s s.ptr s.len h K := by
  refine ⟨l.map fun x => (x.toNat : Int), ?_, ?_⟩
  · have := V1.rd u8_len
    rw [Nat.mul_one] at this
    rw [this]
    congr 1
    rw [List.map_map]
    induction l with
    | nil => rfl
    | cons x l ih =>
      rw [List.flatMap_cons, List.map_cons, ih' l]
      rfl
  · have e : bytesOfInts (l.map fun x => (x.toNat : Int)) = ⟨l.toArray⟩ := by
      unfold bytesOfInts
      congr 2
      rw [List.map_map]
      conv => rhs; rw [← List.map_id l]
      congr 1
      funext x
      simp
    rw [e]; exact k
where ih' : ∀ l : List UInt8, l.flatMap u8 = l.map (Value.int .u8 ∘ fun x => (x.toNat : Int))
  | [] => rfl
  | x :: l => by rw [List.flatMap_cons, List.map_cons, ih' l]; rfl
theorem bytes_toList (l : List UInt8) : (⟨l.toArray⟩ : ByteArray).toList = l := by rw [ByteArray.toList_eq]
theorem Sat.lendI {h0 h : Heap} {L : List Res} {s : Sl} {xs : List UInt8} (O : Sat h0 h (buf 1 u8 s (xs ++ marks) :: L)) : Sat h0 h (V.lent ⟨s.ptr, xs.length, s.cap⟩ xs :: L) := by
  refine O.mono fun E hE => ?_
  obtain ⟨sp, hE⟩ := hE
  rcases hE with ⟨_, h, _, _⟩ | ⟨b, k, rfl, h2, rfl⟩
  · simp [marks] at h
  · refine ⟨sp, .inr ⟨b, k + 3, ?_, ?_, ?_⟩⟩
    · simp [marks]; omega
    · rw [List.length_append, flat_u8, h2]
      show 3 + k * 1 = (k + 3) * 1
      omega
    · rw [List.flatMap_append, List.append_assoc]
/-- A byte of one's own list is written. -/
theorem Sat.putL {h0 h : Heap} {L : List Res} {s : Sl} {xs : List UInt8} {i : Int} {K : Heap → Prop} (O : Sat h0 h (V.lent s xs :: L)) (hi0 : 0 ≤ i) (hi1 : i < (xs.length : Int)) (y : UInt8) {cs : List Value} (hcs : cs = u8 y) (k : ∀ h', Sat h0 h' (V.lent s (xs.set i.toNat y) :: L) → K h') : ixS 1 s i fun a => V.st a cs h K := by
  subst hcs
  obtain ⟨E, ⟨E1, E2, p, hA, h2⟩, O⟩ := O
  have O := O.perm p.symm
  obtain ⟨sp, hA⟩ := hA
  rcases hA with ⟨_, _, h, _⟩ | ⟨b, j, rfl, hsp, rfl⟩
  · simp [marks, u8] at h
  · refine ⟨pt b 0, rfl, hi0, hi1, ?_⟩
    rw [pt_add, Nat.zero_add, Nat.mul_one]
    have hl := flatMap_len u8_len xs
    refine Held.st O (by rw [u8_len, List.length_append, hl]; omega) (u8_one y) fun h' O' => ?_
    rw [set_flat1 u8_len _ _ _ _ (by omega)] at O'
    exact k _ ⟨_, ⟨[(b, _)], E2, List.Perm.refl _, ⟨sp, .inr ⟨b, j, by simp, hsp, rfl⟩⟩, h2⟩, O'⟩
end Go.Proofs.Ytigcpkejjjgkeaa.V
/- The program's replica: what it holds; its small functions. -/
namespace Go.Proofs.Ytigcpkejjjgkeaa.V
open Go Go.RowKit
set_option linter.unusedVariables false
set_option linter.unusedSimpArgs false
/-- What a replica holds. -/
structure RS where
  prom : Int
  te : Int
  ts : Int
  val : List UInt8
  wait : Int
structure RS.Ok (r : RS) : Prop where
  v : r.val.length ≤ (140737488355325 : Nat)
  w0 : 0 ≤ r.wait
  w1 : r.wait ≤ (9223372036854775807 : Int)
def repR (p : Nat) (r : RS) : Res := ex fun s : Sl => sep (own p [.int .u64 r.prom, .int .u64 r.te, .int .u64 r.ts, .slice s.ptr s.len s.cap, .int .i64 r.wait]) (buf 1 u8 s r.val)
theorem Sat.rep {h0 h : Heap} {L : List Res} {p : Nat} {r : RS} (O : Sat h0 h (repR p r :: L)) : ∃ s, Sat h0 h (own p [.int .u64 r.prom, .int .u64 r.te, .int .u64 r.ts, .slice s.ptr s.len s.cap, .int .i64 r.wait] :: buf 1 u8 s r.val :: L) := by
  obtain ⟨s, O⟩ := O.ex
  exact ⟨s, O.sep⟩
theorem Sat.repI {h0 h : Heap} {L : List Res} {p : Nat} {r : RS} {s : Sl} (O : Sat h0 h (own p [.int .u64 r.prom, .int .u64 r.te, .int .u64 r.ts, .slice s.ptr s.len s.cap, .int .i64 r.wait] :: buf 1 u8 s r.val :: L)) : Sat h0 h (repR p r :: L) := Sat.exI s O.sepI
/-- A message; its value's bytes. -/
structure Mg where
  kind : Int
  frm : Int
  to : Int
  shard : Int
  epoch : Int
  te : Int
  ts : Int
  round : Int
  span : Int
  seen : Int
  v : Sl
  peer : Int
  num : Int
  name : ByteArray
  other : ByteArray
  amount : Int
  life : Int
  id : Int
  op : Int
  client : Int
  state : Int
  bad : Int
  b : List UInt8
def mgC (m : Mg) : List Value := [.int .i64 m.kind, .int .i64 m.frm, .int .i64 m.to, .int .i64 m.shard, .int .u64 m.epoch, .int .u64 m.te, .int .u64 m.ts, .int .u64 m.round, .int .i64 m.span, .int .u64 m.seen, .slice m.v.ptr m.v.len m.v.cap, .int .i64 m.peer, .int .u64 m.num, .string m.name, .string m.other, .int .u64 m.amount, .int .u64 m.life, .int .u64 m.id, .int .i64 m.op, .int .i64 m.client, .int .i64 m.state, .int .i64 m.bad]
/-- What became of a message. -/
structure HD where
  kind : Int
  frm : Int
  to : Int
  shard : Int
  epoch : Int
  te : Int
  ts : Int
  round : Int
  seen : Int
  val : List UInt8
  ans : Bool
  tak : Bool
  chg : Bool
def hd0 : HD := ⟨0, 0, 0, 0, 0, 0, 0, 0, 0, [], false, false, false⟩
def HD.seal (d : HD) (m : Mg) : HD := if d.kind = 0 then d else { d with frm := m.to, to := m.frm, shard := m.shard, ans := true }
def refusal (r : RS) (e : Int) : HD := { hd0 with kind := 3, epoch := e, seen := r.prom }
def spanOf (s : Int) : Int := if (0 : Int) > s then 0 else s
/-- Of a write or beat that may be. -/
def RS.take_ (r : RS) (e s : Int) : RS := { r with prom := e, wait := spanOf s }
def prep (r : RS) (m : Mg) : RS × HD :=
  if m.epoch < r.prom ∨ (r.prom < m.epoch ∧ 0 < r.wait) then (r, refusal r m.epoch)
  else ({ r with prom := m.epoch }, { hd0 with kind := 2, epoch := m.epoch, te := r.te, ts := r.ts, val := r.val, chg := r.prom != m.epoch })
def tagLt (a b c d : Int) : Prop := a < c ∨ (a = c ∧ b < d)
instance (a b c d : Int) : Decidable (tagLt a b c d) := by unfold tagLt; infer_instance
def writ (r : RS) (m : Mg) : RS × HD :=
  if m.te < r.prom then (r, refusal r m.te)
  else if tagLt m.te m.ts r.te r.ts then (r.take_ m.te m.span, { hd0 with tak := true, chg := r.prom != m.te })
  else if tagLt r.te r.ts m.te m.ts then ({ r.take_ m.te m.span with te := m.te, ts := m.ts, val := m.b }, { hd0 with kind := 5, te := m.te, ts := m.ts, tak := true, chg := true })
  else (r.take_ m.te m.span, { hd0 with kind := 5, te := m.te, ts := m.ts, tak := true, chg := r.prom != m.te })
def beats (r : RS) (m : Mg) : RS × HD :=
  if m.epoch < r.prom then (r, refusal r m.epoch)
  else (r.take_ m.epoch m.span, { hd0 with kind := 7, epoch := m.epoch, round := m.round, tak := true, chg := r.prom != m.epoch })
def act (r : RS) (m : Mg) : RS × HD := if m.kind = 1 then prep r m else if m.kind = 4 then writ r m else if m.kind = 6 then beats r m else (r, hd0)
def hearS (r : RS) (m : Mg) : RS × HD := ((act r m).1, (act r m).2.seal m)
section
variable {h0 h : Heap} {L : List Res}
end
end Go.Proofs.Ytigcpkejjjgkeaa.V
/-
  MAPS AMONG THE RESOURCES: made, asked, written, cleared; their keys are whole numbers, and stand for true.
-/
namespace Go.Proofs.Ytigcpkejjjgkeaa.V
open Go Go.RowKit
set_option linter.unusedVariables false
set_option linter.unusedSimpArgs false
theorem sameI (a b : Int) : Instr.sameNow (.int .i64) (.int .i64 a) (.int .i64 b) = some (a == b) := rfl
theorem findNow_is (n : Int) : ∀ (l : List Int) (es : List MapEntry) (j : Nat), es.map (fun e => (e.key, e.val)) = l.map (fun n => (Value.int .i64 n, Value.bool true)) → (n ∈ l → ∃ i, Instr.findNow (.int .i64) (.int .i64 n) es j = some (some (j + i, .bool true)) ∧ ∃ e, es[i]? = some e ∧ e.key = .int .i64 n ∧ e.val = .bool true) ∧ (n ∉ l → Instr.findNow (.int .i64) (.int .i64 n) es j = some none)
  | [], es, j, h => by
    have : es = [] := by simpa using h
    subst this
    exact ⟨fun h => absurd h List.not_mem_nil, fun _ => rfl⟩
  | x :: l, [], j, h => by simp at h
  | x :: l, e :: es, j, h => by
    simp only [List.map_cons, List.cons.injEq, Prod.mk.injEq] at h
    obtain ⟨⟨h1, h2⟩, h3⟩ := h
    have ih := findNow_is n l es (j + 1) h3
    have hs : Instr.sameNow (.int .i64) e.key (.int .i64 n) = some (x == n) := by rw [h1]; exact sameI x n
    have hs2 : Instr.sameNow (.int .i64) (.int .i64 n) e.key = some (n == x) := by rw [h1]; exact sameI n x
    by_cases hx : n = x
    · subst hx
      refine ⟨fun _ => ⟨0, ?_, e, rfl, h1, h2⟩, fun hn => absurd List.mem_cons_self hn⟩
      unfold Instr.findNow
      simp [hs, hs2, h2]
    · have hx2 : ¬ x = n := fun q => hx q.symm
      have st : Instr.findNow (.int .i64) (.int .i64 n) (e :: es) j = Instr.findNow (.int .i64) (.int .i64 n) es (j + 1) := by
        conv => lhs; unfold Instr.findNow
        rw [hs2, show (n == x) = false by simp [hx]]
      rw [st]
      refine ⟨fun hm => ?_, fun hm => ih.2 fun q => hm (List.mem_cons_of_mem _ q)⟩
      rcases List.mem_cons.1 hm with q | q
      · exact absurd q hx
      · obtain ⟨i, q1, e', q2, q3⟩ := ih.1 q
        exact ⟨i + 1, by rw [q1, show j + 1 + i = j + (i + 1) by omega], e', by simpa using q2, q3⟩
section
variable {h0 h : Heap} {L : List Res}
theorem nth_ltM : ∀ {i : Nat} {L : List Res} {b : Nat} {l : List Int}, nth i L = mapR b l → i < L.length
  | 0, _ :: _, _, _, _ => by simp
  | i + 1, _ :: L, _, _, h => by have := nth_ltM (i := i) (L := L) h; simpa using this
  | 0, [], b, cs, h => by
    have := congrFun h []
    simp [nth, emp, mapR] at this
  | i + 1, [], b, cs, h => by
    have := congrFun h []
    simp [nth, emp, mapR] at this
theorem Sat.alm {K : Nat → Heap → Prop} (O : Sat h0 h L) (k : ∀ r h', Sat h0 h' (mapR r [] :: L) → K r h') : V.alM h K := by
  obtain ⟨E, hs, O⟩ := O
  exact k h.size _ ⟨_, ⟨[(h.size, .inr [])], E, List.Perm.refl _, rfl, hs⟩, O.more _ _ ⟨#[], 0, by simp, rfl⟩⟩
theorem Sat.isM (O : Sat h0 h L) (i : Nat) {r : Nat} {l : List Int} (hi : nth i L = mapR r l) : MapIs h r l := by
  obtain ⟨E1, E2, h1, O', _⟩ := O.at i (nth_ltM hi)
  rw [hi] at h1
  rw [show E1 = [(r, .inr l)] from h1] at O'
  exact (O'.blk _ List.mem_cons_self).2
theorem Sat.mg (O : Sat h0 h L) (i : Nat) {r : Nat} {l : List Int} {n : Int} {K : Bool → Bool → Prop} (hi : nth i L = mapR r l) (k : K (decide (n ∈ l)) (decide (n ∈ l))) : V.mg .bool .i64 (some r) n (.bool false) h K := by
  obtain ⟨es, c, e, hm⟩ := O.isM i hi
  have F := findNow_is n l es.toList 0 hm
  by_cases hn : n ∈ l
  · obtain ⟨j, q1, _⟩ := F.1 hn
    rw [show decide (n ∈ l) = true from decide_eq_true hn] at k
    exact ⟨es, c, _, e, q1, k⟩
  · rw [show decide (n ∈ l) = false from decide_eq_false hn] at k
    exact ⟨es, c, Option.none, e, F.2 hn, k⟩
theorem Sat.mlen (O : Sat h0 h L) (i : Nat) {r : Nat} {l : List Int} {K : Int → Prop} (hi : nth i L = mapR r l) (k : K ((l.length : Nat) : Int)) : V.mlen (some r) h K := by
  obtain ⟨es, c, e, hm⟩ := O.isM i hi
  have hl : es.size = l.length := by
    have := congrArg List.length hm
    simpa using this
  exact ⟨es, c, e, by rw [hl]; exact k⟩
/-- The keys behind a writing. -/
def putK (l : List Int) (n : Int) : List Int := if n ∈ l then l else l ++ [n]
theorem Sat.mput (O : Sat h0 h L) (i : Nat) {r : Nat} {l : List Int} {n : Int} {K : Heap → Prop} (hi : nth i L = mapR r l) (k : ∀ h', Sat h0 h' (L.set i (mapR r (putK l n))) → K h') : V.mput .i64 (some r) n (.bool true) h K := by
  obtain ⟨E1, E2, h1, O', h2⟩ := O.at i (nth_ltM hi)
  rw [hi] at h1
  rw [show E1 = [(r, .inr l)] from h1] at O'
  obtain ⟨es, c, e, hm⟩ := (O'.blk _ List.mem_cons_self).2
  have e : h[r]? = some (.map es c) := e
  have hr := (Array.getElem?_eq_some_iff.1 e).1
  have F := findNow_is n l es.toList 0 hm
  have fin : ∀ (o : Obj) (l' : List Int), (∃ es c, o = .map es c ∧ es.toList.map (fun e => (e.key, e.val)) = l'.map fun n => (Value.int .i64 n, Value.bool true)) → Sat h0 (h.setIfInBounds r o) (L.set i (mapR r l')) := by
    intro o l' ⟨es', c', ho, hm'⟩
    refine h2 (mapR r l') [(r, .inr l')] _ rfl (O'.change (by simp) (fun k hk => by rw [Array.getElem?_setIfInBounds, if_neg hk]) ⟨es', c', ?_, hm'⟩)
    rw [Array.getElem?_setIfInBounds, if_pos rfl, if_pos hr, ho]
  by_cases hn : n ∈ l
  · obtain ⟨j, q1, e', q2, q3, q4⟩ := F.1 hn
    rw [Nat.zero_add] at q1
    refine ⟨es, c, _, e, q1, k _ ?_⟩
    rw [putK, if_pos hn]
    refine fin _ _ ⟨_, _, rfl, ?_⟩
    rw [Array.getElem?_toList] at q2
    have es2 : (es.modify j fun e => { e with key := .int .i64 n, val := .bool true }) = es := by
      apply Array.ext
      · simp
      · intro a b1 b2
        rw [Array.getElem_modify]
        split
        · rename_i hj
          subst hj
          obtain ⟨b3, b4⟩ := Array.getElem?_eq_some_iff.1 q2
          rw [b4, ← q3, ← q4]
        · rfl
    rw [es2]
    exact hm
  · refine ⟨es, c, Option.none, e, F.2 hn, k _ ?_⟩
    rw [putK, if_neg hn]
    refine fin _ _ ⟨_, _, rfl, ?_⟩
    rw [Array.toList_push, List.map_append, List.map_append, hm]
    rfl
theorem Sat.mclr (O : Sat h0 h L) (i : Nat) {r : Nat} {l : List Int} {K : Heap → Prop} (hi : nth i L = mapR r l) (k : ∀ h', Sat h0 h' (L.set i (mapR r [])) → K h') : V.mclr (some r) h K := by
  obtain ⟨E1, E2, h1, O', h2⟩ := O.at i (nth_ltM hi)
  rw [hi] at h1
  rw [show E1 = [(r, .inr l)] from h1] at O'
  obtain ⟨es, c, e, hm⟩ := (O'.blk _ List.mem_cons_self).2
  have e : h[r]? = some (.map es c) := e
  have hr := (Array.getElem?_eq_some_iff.1 e).1
  refine ⟨es, c, e, k _ (h2 (mapR r []) [(r, .inr [])] _ rfl (O'.change (by simp) (fun k hk => by rw [Array.getElem?_setIfInBounds, if_neg hk]) ⟨#[], c, ?_, rfl⟩))⟩
  rw [Array.getElem?_setIfInBounds, if_pos rfl, if_pos hr]
end
end Go.Proofs.Ytigcpkejjjgkeaa.V
/- A quorum's steps as plain functions; a message that is heard twice. -/
namespace Go.Proofs.Ytigcpkejjjgkeaa.V
open Go Go.RowKit
set_option linter.unusedVariables false
set_option linter.unusedSimpArgs false
abbrev Tg := Int × Int
structure QS where
  node : Int
  shard : Int
  cop : List Int
  phase : Int
  epoch : Int
  seen : Int
  best : Tg
  tag : Tg
  val : List UInt8
  chosen : Tg
  what : List UInt8
  begun : Int
  done : Int
  pm : List Int
  wr : List Int
  rf : List Int
  bt : List Int
def mgz : Mg := ⟨0, 0, 0, 0, 0, 0, 0, 0, 0, 0, ⟨none, 0, 0⟩, 0, 0, ⟨#[]⟩, ⟨#[]⟩, 0, 0, 0, 0, 0, 0, 0, []⟩
def QS.most (q : QS) (n : Int) : Bool := decide ((q.cop.length / 2 : Int) < n)
def QS.holds (q : QS) : Bool := q.phase == 3 || (q.phase == 2 && decide (1 < q.tag.2))
def QS.stop (q : QS) : QS := { q with phase := 0, epoch := 0, tag := (0, 0), chosen := (0, 0), val := [], what := [], begun := 0, done := 0, pm := [], wr := [], rf := [], bt := [] }
def QS.send (q : QS) (x : Mg) (out : Int → Bool) : List Mg := (q.cop.filter fun c => !out c).map fun c => { x with frm := q.node, to := c, shard := q.shard }
def QS.prepares (q : QS) : List Mg := q.send { mgz with kind := 1, epoch := q.epoch } fun c => c == q.node
def QS.writes (q : QS) (span : Int) : List Mg := q.send { mgz with kind := 4, te := q.tag.1, ts := q.tag.2, span := span, b := q.val } fun c => decide (c ∈ q.wr)
def QS.beats (q : QS) (span : Int) : List Mg := q.send { mgz with kind := 6, epoch := q.epoch, round := q.begun, span := span } fun c => decide (c ∈ q.bt)
def QS.wrt (q : QS) (seq : Int) : QS := { q with phase := 2, tag := (q.epoch, seq), wr := [] }
def QS.start0 (q : QS) (epoch te ts : Int) (b : List UInt8) : QS := { q.stop with phase := 1, epoch := epoch, best := (te, ts), val := b, pm := [q.node] }
def QS.start (q : QS) (epoch te ts : Int) (b : List UInt8) (span : Int) : QS × List Mg :=
  if (q.start0 epoch te ts b).most 1 then ((q.start0 epoch te ts b).wrt 1, ((q.start0 epoch te ts b).wrt 1).writes span) else (q.start0 epoch te ts b, (q.start0 epoch te ts b).prepares)
def QS.prom (q : QS) (m : Mg) : QS := if tagLt q.best.1 q.best.2 m.te m.ts then { q with pm := putK q.pm m.frm, best := (m.te, m.ts), val := m.b } else { q with pm := putK q.pm m.frm }
def QS.promise (q : QS) (m : Mg) (span : Int) : QS × List Mg :=
  if q.phase ≠ 1 ∨ m.epoch ≠ q.epoch ∨ m.frm ∈ q.pm then (q, [])
  else if (q.prom m).most ((q.prom m).pm.length : Nat) then ((q.prom m).wrt 1, ((q.prom m).wrt 1).writes span) else (q.prom m, [])
def QS.stored (q : QS) (m : Mg) : QS :=
  if q.phase = 2 ∧ m.te = q.tag.1 ∧ m.ts = q.tag.2 then
    if q.most ((putK q.wr m.frm).length : Nat) then { q with wr := putK q.wr m.frm, phase := 3, chosen := q.tag, what := q.val } else { q with wr := putK q.wr m.frm }
  else q
def QS.heed (q : QS) (m : Mg) : QS := { q with seen := if q.seen < m.seen then m.seen else q.seen }
def QS.refuse (q : QS) (m : Mg) : QS :=
  if q.phase = 0 ∨ m.epoch ≠ q.epoch ∨ m.seen ≤ q.epoch then q.heed m
  else if q.holds = true ∧ q.most ((q.cop.length : Int) - ((putK q.rf m.frm).length : Nat)) = true then { q.heed m with rf := putK q.rf m.frm } else (q.heed m).stop
def QS.beat (q : QS) (m : Mg) : QS :=
  if q.holds = true ∧ q.begun ≠ q.done ∧ m.epoch = q.epoch ∧ m.round = q.begun then
    if q.most ((putK q.bt m.frm).length : Nat) then { q with bt := putK q.bt m.frm, done := q.begun } else { q with bt := putK q.bt m.frm }
  else q
def QS.hear (q : QS) (m : Mg) (span : Int) : QS × List Mg :=
  if m.to ≠ q.node ∨ m.shard ≠ q.shard ∨ m.frm ∉ q.cop then (q, [])
  else if m.kind = 2 then q.promise m span else if m.kind = 5 then (q.stored m, []) else if m.kind = 3 then (q.refuse m, []) else if m.kind = 7 then (q.beat m, []) else (q, [])
def QS.propose (q : QS) (b : List UInt8) (span : Int) : QS × List Mg × Bool :=
  if q.phase ≠ 3 ∨ (1099511627776 : Int) ≤ q.tag.2 then (q, [], false) else (({ q with val := b } : QS).wrt (q.tag.2 + 1), (({ q with val := b } : QS).wrt (q.tag.2 + 1)).writes span, true)
def QS.tick0 (q : QS) (span : Int) : List Mg := if q.phase = 1 then q.prepares else if q.phase = 2 then q.writes span else []
def QS.rise (q : QS) : QS := { q with begun := q.begun + 1, bt := [] }
def QS.tick (q : QS) (span : Int) : QS × List Mg :=
  if q.holds = false then (q, q.tick0 span)
  else if q.begun = q.done then if (1099511627776 : Int) ≤ q.begun then (q, q.tick0 span) else (q.rise, q.tick0 span ++ q.rise.beats span)
  else (q, q.tick0 span ++ q.beats span)
theorem putK_mem {l : List Int} {n : Int} : n ∈ putK l n := by unfold putK; split; assumption; simp
theorem putK_twice {l : List Int} {n : Int} : putK (putK l n) n = putK l n := by
  exact if_pos (putK_mem (l := l) (n := n))
theorem prom_same {q : QS} {m : Mg} : (q.prom m).node = q.node ∧ (q.prom m).shard = q.shard ∧ (q.prom m).cop = q.cop ∧ (q.prom m).phase = q.phase ∧ (q.prom m).epoch = q.epoch ∧ (q.prom m).pm = putK q.pm m.frm := by
  unfold QS.prom; split <;> exact ⟨rfl, rfl, rfl, rfl, rfl, rfl⟩
theorem promise_twice (q : QS) (m : Mg) (span : Int) : (q.promise m span).1.promise m span = ((q.promise m span).1, []) ∧ (q.promise m span).1.node = q.node ∧ (q.promise m span).1.shard = q.shard ∧ (q.promise m span).1.cop = q.cop := by
  obtain ⟨e1, e2, e3, e4, e5, e6⟩ := prom_same (q := q) (m := m)
  unfold QS.promise
  by_cases h : q.phase ≠ 1 ∨ m.epoch ≠ q.epoch ∨ m.frm ∈ q.pm
  · simp only [if_pos h, and_self]
  · rw [if_neg h]
    by_cases h2 : (q.prom m).most ((q.prom m).pm.length : Nat) = true
    · rw [if_pos h2]
      exact ⟨if_pos (.inl (by show (2 : Int) ≠ 1; decide)), e1, e2, e3⟩
    · rw [if_neg h2]
      exact ⟨if_pos (.inr (.inr (by rw [e6]; exact putK_mem))), e1, e2, e3⟩
theorem stored_twice (q : QS) (m : Mg) : (q.stored m).stored m = q.stored m ∧ (q.stored m).node = q.node ∧ (q.stored m).shard = q.shard ∧ (q.stored m).cop = q.cop := by
  unfold QS.stored
  by_cases h : q.phase = 2 ∧ m.te = q.tag.1 ∧ m.ts = q.tag.2
  · rw [if_pos h]
    by_cases h2 : q.most ((putK q.wr m.frm).length : Nat) = true
    · rw [if_pos h2]
      exact ⟨if_neg (fun a => absurd a.1 (by show ¬ (3 : Int) = 2; decide)), rfl, rfl, rfl⟩
    · rw [if_neg h2]
      refine ⟨?_, rfl, rfl, rfl⟩
      rw [if_pos h]
      simp only [putK_twice]
      exact if_neg h2
  · simp only [if_neg h, and_self]
theorem heed_twice (q : QS) (m : Mg) : (q.heed m).heed m = q.heed m := by
  unfold QS.heed
  congr 1
  show (if (if q.seen < m.seen then m.seen else q.seen) < m.seen then m.seen else (if q.seen < m.seen then m.seen else q.seen)) = _
  by_cases a : q.seen < m.seen
  · rw [if_pos a]; split <;> rfl
  · rw [if_neg a, if_neg a]
theorem refuse_twice (q : QS) (m : Mg) : (q.refuse m).refuse m = q.refuse m ∧ (q.refuse m).node = q.node ∧ (q.refuse m).shard = q.shard ∧ (q.refuse m).cop = q.cop := by
  unfold QS.refuse
  by_cases h : q.phase = 0 ∨ m.epoch ≠ q.epoch ∨ m.seen ≤ q.epoch
  · rw [if_pos h]
    exact ⟨(if_pos h).trans (heed_twice q m), rfl, rfl, rfl⟩
  · rw [if_neg h]
    by_cases h2 : q.holds = true ∧ q.most ((q.cop.length : Int) - ((putK q.rf m.frm).length : Nat)) = true
    · rw [if_pos h2]
      refine ⟨?_, rfl, rfl, rfl⟩
      have hh := heed_twice q m
      refine (if_neg h).trans ?_
      simp only [putK_twice]
      refine (if_pos h2).trans ?_
      unfold QS.heed at hh ⊢
      simp only [QS.mk.injEq] at hh
      simp only [hh.2.2.2.2.2.1]
    · rw [if_neg h2]
      refine ⟨(if_pos (.inl rfl)).trans ?_, rfl, rfl, rfl⟩
      have hh := heed_twice q m
      unfold QS.heed QS.stop at *
      simp only [QS.mk.injEq] at hh
      simp only [hh.2.2.2.2.2.1]
theorem beat_twice (q : QS) (m : Mg) : (q.beat m).beat m = q.beat m ∧ (q.beat m).node = q.node ∧ (q.beat m).shard = q.shard ∧ (q.beat m).cop = q.cop := by
  unfold QS.beat
  by_cases h : q.holds = true ∧ q.begun ≠ q.done ∧ m.epoch = q.epoch ∧ m.round = q.begun
  · rw [if_pos h]
    by_cases h2 : q.most ((putK q.bt m.frm).length : Nat) = true
    · rw [if_pos h2]
      exact ⟨if_neg (fun a => a.2.1 rfl), rfl, rfl, rfl⟩
    · rw [if_neg h2]
      refine ⟨?_, rfl, rfl, rfl⟩
      refine (if_pos h).trans ?_
      simp only [putK_twice]
      exact if_neg h2
  · simp only [if_neg h, and_self]
theorem hear_twice (q : QS) (m : Mg) (span : Int) : (q.hear m span).1.hear m span = ((q.hear m span).1, []) := by
  unfold QS.hear
  by_cases h : m.to ≠ q.node ∨ m.shard ≠ q.shard ∨ m.frm ∉ q.cop
  · simp only [if_pos h]
  rw [if_neg h]
  by_cases k2 : m.kind = 2
  · simp only [if_pos k2]
    obtain ⟨a, b, c, d⟩ := promise_twice q m span
    rw [b, c, d, if_neg h]
    exact a
  simp only [if_neg k2]
  by_cases k5 : m.kind = 5
  · simp only [if_pos k5]
    obtain ⟨a, b, c, d⟩ := stored_twice q m
    rw [b, c, d, if_neg h, a]
  simp only [if_neg k5]
  by_cases k3 : m.kind = 3
  · simp only [if_pos k3]
    obtain ⟨a, b, c, d⟩ := refuse_twice q m
    rw [b, c, d, if_neg h, a]
  simp only [if_neg k3]
  by_cases k7 : m.kind = 7
  · simp only [if_pos k7]
    obtain ⟨a, b, c, d⟩ := beat_twice q m
    rw [b, c, d, if_neg h, a]
  simp only [if_neg k7, if_neg h]
end Go.Proofs.Ytigcpkejjjgkeaa.V
/- Arrays that are filled one by one; an array at the head of a struct. -/
namespace Go.Proofs.Ytigcpkejjjgkeaa.V
open Go Go.RowKit
set_option linter.unusedVariables false
set_option linter.unusedSimpArgs false
variable {α β : Type}
def optc (o : Option Addr) : List Value := [.pointer o]
theorem optc_len (x : Option Addr) : (optc x).length = 1 := rfl
theorem optc_one (x : Option Addr) : (optc x).all oneV = true := rfl
def natc (x : Nat) : List Value := [.int .i64 (x : Int)]
theorem natc_len (x : Nat) : (natc x).length = 1 := rfl
theorem natc_one (x : Nat) : (natc x).all oneV = true := rfl
theorem set_stage (f : α → β) (xs : List α) (n : Nat) (y : α) (z : β) (h : xs.length < n) : (xs.map f ++ List.replicate (n - xs.length) z).set xs.length (f y) = (xs ++ [y]).map f ++ List.replicate (n - (xs ++ [y]).length) z := by
  obtain ⟨k, hk⟩ : ∃ k, n - xs.length = k + 1 := ⟨n - xs.length - 1, by omega⟩
  have e : n - (xs ++ [y]).length = k := by rw [List.length_append]; simp; omega
  rw [hk, e, List.replicate_succ, List.map_append, List.append_assoc]
  have := List.set_append_right (s := xs.map f) (t := z :: List.replicate k z) xs.length (f y) (by simp)
  rw [this]
  simp
/-- An element of one cell at the head of a block is read, and lies there for as long as the block is kept. -/
theorem Sat.getN {h0 h : Heap} {L : List Res} (O : Sat h0 h L) (j : Nat) {b n : Nat} {enc : α → List Value} {xs : List α} {ys : List Value} {i : Int} {k : Kd} {K : Addr → k.T → Prop} {x : α} (he : ∀ x, (enc x).length = 1) (hj : nth j L = own b (xs.flatMap enc ++ ys)) (h0 : 0 ≤ i) (h1 : i < (n : Int)) (hx : xs[i.toNat]? = some x) (f : α → k.T) (hf : ∀ x, enc x = [k.enc (f x)])
    (kk : ∀ a, (∀ {h0' h' : Heap} {L' : List Res}, Sat h0' h' L' → ∀ j', nth j' L' = own b (xs.flatMap enc ++ ys) → cellsAre h' a (enc x)) → K a (f x)) : ixA 1 (pt b 0) n i fun a => V.ld [k] a h (K a) := by
  have hl := (List.getElem?_eq_some_iff.1 hx).1
  refine ⟨h0, h1, ?_⟩
  have hc : ∀ {h0' h' : Heap} {L' : List Res}, Sat h0' h' L' → ∀ j', nth j' L' = own b (xs.flatMap enc ++ ys) → cellsAre h' ((pt b 0).add (i.toNat * 1)) (enc x) := by
    intro h0' h' L' O' j' hj'
    have V := view_of_blk (k := 0) he (O'.blk (nth_lt hj') hj').2
    obtain ⟨a, cs, h1, _, h3, h4⟩ := V.2 i.toNat x hx
    have e : pt b 0 = a := Option.some.inj h1
    subst e
    have e2 : cs = enc x := h3
    subst e2
    exact h4
  have h1 := hc O j hj
  rw [hf] at h1
  exact ld_are h1 (ldL_c (ldL_n (kk _ hc)))
/-- A lent list is written full. -/
theorem fill_lent {h0 h : Heap} {L : List Res} {s : Sl} {zs : List UInt8} {Q : Heap → Prop} {ii : Nat} (O : Sat h0 h (lent s zs :: L)) (hs : s.len = zs.length) (hz : zs.length ≤ 4611686018427387904) (k : ∀ zs' h', zs'.length = zs.length → Sat h0 h' (lent s zs' :: L) → Q h') :
    wl [(ii, .one (.int .i64))] (fun (next : Int → Heap → Prop) (i : Int) (h : Heap) => brr (decide (i < ((s.len : Nat) : Int))) (ixS 1 s i fun (a : Addr) => st a [.int .u8 238] h fun (h' : Heap) => next (IntKind.i64.wrap (i + 1)) h') (Q h)) 0 h := by
  refine wl1 (k := .int .i64) (fun (m : Nat) (i : Int) (h' : Heap) => 0 ≤ i ∧ i + m = zs.length ∧ ∃ ys : List UInt8, ys.length = zs.length ∧ Sat h0 h' (lent s ys :: L)) ?_ (m := zs.length) ⟨by omega, by omega, zs, rfl, O⟩
  clear O
  intro m (i : Int) h next hn ⟨hi0, him, ys, hy, O⟩
  rw [hs]
  refine brr_p (fun hlt => ?_) (fun hlt => k ys _ hy O)
  refine O.putL hi0 (by omega) 238 rfl fun h O => ?_
  rw [wrap64 (by omega) (by omega)]
  exact hn (m - 1) _ _ (by omega) ⟨by omega, by omega, _, by simp [hy], O⟩
end Go.Proofs.Ytigcpkejjjgkeaa.V
/- Lists of bytes that are kept and never written again. -/
namespace Go.Proofs.Ytigcpkejjjgkeaa.V
open Go Go.RowKit
set_option linter.unusedVariables false
set_option linter.unusedSimpArgs false
abbrev PE := Sl × List UInt8
def inPool (E : Blks) (m : PE) : Prop := (m.1.len = 0 ∧ m.2 = []) ∨ ∃ b cs, (b, .inl cs) ∈ E ∧ m.1.ptr = some (pt b 0) ∧ m.1.len = m.2.length ∧ ∀ (i : Nat) x, m.2[i]? = some x → cs[i]? = some (.int .u8 (x.toNat : Int))
def poolR (ms : List PE) : Res := fun E => ∀ m ∈ ms, inPool E m
theorem pool_sub {h0 h : Heap} {L : List Res} {ms fs : List PE} (O : Sat h0 h (poolR ms :: L)) (s : ∀ e ∈ fs, e ∈ ms) : Sat h0 h (poolR fs :: L) :=
  O.mono fun E k e he => k e (s e he)
theorem pool_none {h0 h : Heap} {L : List Res} (O : Sat h0 h L) : Sat h0 h (poolR [] :: L) := O.empI.mono fun E _ e he => by cases he
theorem pool_view {h0 h : Heap} {L : List Res} (O : Sat h0 h L) (i : Nat) {ms : List PE} {e : PE} (hi : i < L.length) (hn : nth i L = poolR ms) (he : e ∈ ms) : Bytes h e.1 e.2 := by
  obtain ⟨E1, E2, h1, O', _⟩ := O.at i hi
  rw [hn] at h1
  rcases h1 e he with ⟨h2, h3⟩ | ⟨b, cs, hm, hp, hl, ha⟩
  · rw [h3]
    refine ⟨h2, fun j x hj => by simp at hj⟩
  · have B : Blk h b cs := (O'.blk _ (List.mem_append.2 (.inl hm))).2
    refine ⟨hl, fun j x hj => ⟨pt b 0, u8 x, hp, rfl, rfl, ?_⟩⟩
    have hcell := ha j x hj
    have h2 := cellsAre_blk B j 1
    have e3 : (cs.drop j).take 1 = u8 x := by
      obtain ⟨hlt, e4⟩ := List.getElem?_eq_some_iff.1 hcell
      rw [List.drop_eq_getElem_cons hlt, e4]
      rfl
    rw [e3] at h2
    rw [pt_add, Nat.zero_add, Nat.mul_one]
    exact h2
theorem flat_u8_at : ∀ (l : List UInt8) (i : Nat), (l.flatMap u8)[i]? = (l[i]?).map fun x => Value.int .u8 (x.toNat : Int) := by
  intro l
  induction l with
  | nil => intro i; simp
  | cons x l ih =>
    intro i
    rw [List.flatMap_cons]
    cases i with
    | zero => rfl
    | succ i => exact ih i
/-- A list of one's own is kept from now on. -/
theorem pool_take {h0 h : Heap} {L : List Res} {ms : List PE} {s : Sl} {xs : List UInt8} (O : Sat h0 h (buf 1 u8 s xs :: poolR ms :: L)) : Sat h0 h (poolR (ms ++ [(s, xs)]) :: L) := by
  obtain ⟨sp, O⟩ := O.ex
  obtain ⟨E, ⟨E1, E2, p, hA, F1, F2, p2, k, h2⟩, O'⟩ := O
  rcases hA with ⟨rfl, rfl, _, rfl⟩ | ⟨b, j, rfl, hsp, rfl⟩
  · refine ⟨E, ⟨F1, F2, p.trans p2, fun e he => ?_, h2⟩, O'⟩
    rcases List.mem_append.1 he with he | he
    · exact k e he
    · rw [List.mem_singleton.1 he]; exact .inl ⟨rfl, rfl⟩
  · refine ⟨E, ⟨(b, .inl (xs.flatMap u8 ++ sp)) :: F1, F2, p.trans (List.Perm.cons _ p2), fun e he => ?_, h2⟩, O'⟩
    rcases List.mem_append.1 he with he | he
    · rcases k e he with h | ⟨b', cs', hm, hp, hl, ha⟩
      · exact .inl h
      · exact .inr ⟨b', cs', List.mem_cons_of_mem _ hm, hp, hl, ha⟩
    · rw [List.mem_singleton.1 he]
      refine .inr ⟨b, _, List.mem_cons_self, rfl, rfl, fun i x hx => ?_⟩
      have hx : xs[i]? = some x := hx
      have hl := flatMap_len u8_len xs
      have hi := (List.getElem?_eq_some_iff.1 hx).1
      rw [List.getElem?_append_left (by omega), flat_u8_at, hx]
      rfl
end Go.Proofs.Ytigcpkejjjgkeaa.V
namespace Go.Proofs.Ytigcpkejjjgkeaa.V
open Go Go.RowKit
set_option linter.unusedVariables false
set_option maxRecDepth 100000
def F_slices_Clone_abbee_of  (s1 : Sl) (h : Heap) (Q : Sl → Heap → Prop) : Prop :=
  brr s1.ptr.isNone
  (Q (⟨none, 0, 0⟩ : Sl) h)
  (al 3 [] h fun (a2 : Addr) (h3 : Heap) =>
  app 3 1 8 (.int .i64 0) ⟨(some a2), 0, 0⟩ s1.ptr s1.len h3 fun (s4 : Sl) (h5 : Heap) =>
  Q s4 h5)
def F_slices_Clone_abbee (s1 : Sl) (h : Heap) (Q : Sl → Heap → Prop) : Prop := F_slices_Clone_abbee_of  s1 h Q
def plan24 : Plan := .s (.r [0]) (.s (.s (.r [0, 4]) (.c (.s (.r [2]) .z) .z)) (.s (.r [2]) .z))
theorem F_slices_Clone_abbee.eq  (s1 : Sl) (h : Heap) (K : Value → Heap → Prop) : F_slices_Clone_abbee_of  s1 h (fun (r0 : Sl) (h : Heap) => K (.slice r0.ptr r0.len r0.cap) h) =
    den Try.prog noFns Try.f24.ntmps plan24 (bodyOf Try.f24) (args0 0 [(.slice s1.ptr s1.len s1.cap : Value)]) h ⟨fun env h => dRes Try.prog Try.f24.results.toList env h K, fun _ _ _ => False, fun env h => dRes Try.prog Try.f24.results.toList env h K⟩ := by kernel_rfl
def E_slices_Clone_abbee_of (f : Sl → Heap → (Sl → Heap → Prop) → Prop) : List Value → Heap → (Value → Heap → Prop) → Prop
  | [v0], h, K => dec1 .sl v0 fun (s1 : Sl) =>
  f s1 h (fun (r0 : Sl) (h : Heap) => K (.slice r0.ptr r0.len r0.cap) h)
  | _, _, _ => False
abbrev E_slices_Clone_abbee := E_slices_Clone_abbee_of F_slices_Clone_abbee
theorem E_slices_Clone_abbee.right : IsRight Try.prog 24 E_slices_Clone_abbee := by
  refine isRight fun vs K w hh => ?_
  match vs, hh with
  | [v0], hh =>
    unfold E_slices_Clone_abbee E_slices_Clone_abbee_of at hh
    replace hh := dec1_sound hh; obtain ⟨s1, rfl, hh⟩ := hh
    unfold F_slices_Clone_abbee at hh
    exact calls_den noFns_right plan24 _ w K Try.func24 (by kernel_rfl) (by kernel_rfl) (Eq.mp (F_slices_Clone_abbee.eq  s1 w.heap K) hh)
theorem ok24 : okFn Try.prog 24 = true := by kernel_rfl
end Go.Proofs.Ytigcpkejjjgkeaa.V
namespace Go.Proofs.Ytigcpkejjjgkeaa.V
open Go Go.RowKit
set_option linter.unusedVariables false
set_option maxRecDepth 100000
def F_quorum_New_of (f24_ : Sl → Heap → (Sl → Heap → Prop) → Prop) (node1 shard2 : Int) (copies3 : Sl) (h : Heap) (Q : Option Addr → Heap → Prop) : Prop :=
  f24_ copies3 h fun (r4 : Sl) (h5 : Heap) =>
  alM h5 fun (m6 : Nat) (h7 : Heap) =>
  alM h7 fun (m8 : Nat) (h9 : Heap) =>
  alM h9 fun (m10 : Nat) (h11 : Heap) =>
  alM h11 fun (m12 : Nat) (h13 : Heap) =>
  al 80 [.int .i64 node1, .int .i64 shard2, .slice r4.ptr r4.len r4.cap, .int .i64 0, .int .u64 0, .int .u64 0, .int .u64 0, .int .u64 0, .int .u64 0, .int .u64 0, .slice none 0 0, .int .u64 0, .int .u64 0, .slice none 0 0, .int .u64 0, .int .u64 0, .map (some m6), .map (some m8), .map (some m10), .map (some m12)] h13 fun (a14 : Addr) (h15 : Heap) =>
  Q (some a14) h15
def F_quorum_New (node1 shard2 : Int) (copies3 : Sl) (h : Heap) (Q : Option Addr → Heap → Prop) : Prop := F_quorum_New_of F_slices_Clone_abbee node1 shard2 copies3 h Q
def plan8 : Plan := .s (.r [0, 1, 2]) (.s (.r [6]) .z)
theorem F_quorum_New.eq (f24_ : Sl → Heap → (Sl → Heap → Prop) → Prop) (node1 shard2 : Int) (copies3 : Sl) (h : Heap) (K : Value → Heap → Prop) : F_quorum_New_of f24_ node1 shard2 copies3 h (fun (r0 : Option Addr) (h : Heap) => K (.pointer r0) h) =
    den Try.prog (fn1 24 (E_slices_Clone_abbee_of f24_) noFns) Try.f8.ntmps plan8 (bodyOf Try.f8) (args0 0 [(.int .i64 node1 : Value), (.int .i64 shard2 : Value), (.slice copies3.ptr copies3.len copies3.cap : Value)]) h ⟨fun env h => dRes Try.prog Try.f8.results.toList env h K, fun _ _ _ => False, fun env h => dRes Try.prog Try.f8.results.toList env h K⟩ := by kernel_rfl
def E_quorum_New_of (f : Int → Int → Sl → Heap → (Option Addr → Heap → Prop) → Prop) : List Value → Heap → (Value → Heap → Prop) → Prop
  | [v0, v1, v2], h, K => dec1 (.int .i64) v0 fun (node1 : Int) =>
  dec1 (.int .i64) v1 fun (shard2 : Int) =>
  dec1 .sl v2 fun (copies3 : Sl) =>
  f node1 shard2 copies3 h (fun (r0 : Option Addr) (h : Heap) => K (.pointer r0) h)
  | _, _, _ => False
abbrev E_quorum_New := E_quorum_New_of F_quorum_New
theorem E_quorum_New.right : IsRight Try.prog 8 E_quorum_New := by
  refine isRight fun vs K w hh => ?_
  match vs, hh with
  | [v0, v1, v2], hh =>
    unfold E_quorum_New E_quorum_New_of at hh
    replace hh := dec1_sound hh; obtain ⟨node1, rfl, hh⟩ := hh
    replace hh := dec1_sound hh; obtain ⟨shard2, rfl, hh⟩ := hh
    replace hh := dec1_sound hh; obtain ⟨copies3, rfl, hh⟩ := hh
    unfold F_quorum_New at hh
    exact calls_den (fn1_right ok24 E_slices_Clone_abbee.right noFns_right) plan8 _ w K Try.func8 (by kernel_rfl) (by kernel_rfl) (Eq.mp (F_quorum_New.eq F_slices_Clone_abbee node1 shard2 copies3 w.heap K) hh)
theorem ok8 : okFn Try.prog 8 = true := by kernel_rfl
end Go.Proofs.Ytigcpkejjjgkeaa.V
namespace Go.Proofs.Ytigcpkejjjgkeaa.V
open Go Go.RowKit
set_option linter.unusedVariables false
set_option maxRecDepth 100000
def F_slices_Clone_cbaad_of  (s1 : Sl) (h : Heap) (Q : Sl → Heap → Prop) : Prop :=
  brr s1.ptr.isNone
  (Q (⟨none, 0, 0⟩ : Sl) h)
  (al 5 [] h fun (a2 : Addr) (h3 : Heap) =>
  app 5 1 1 (.int .u8 0) ⟨(some a2), 0, 0⟩ s1.ptr s1.len h3 fun (s4 : Sl) (h5 : Heap) =>
  Q s4 h5)
def F_slices_Clone_cbaad (s1 : Sl) (h : Heap) (Q : Sl → Heap → Prop) : Prop := F_slices_Clone_cbaad_of  s1 h Q
def plan25 : Plan := .s (.r [0]) (.s (.s (.r [0, 4]) (.c (.s (.r [2]) .z) .z)) (.s (.r [2]) .z))
theorem F_slices_Clone_cbaad.eq  (s1 : Sl) (h : Heap) (K : Value → Heap → Prop) : F_slices_Clone_cbaad_of  s1 h (fun (r0 : Sl) (h : Heap) => K (.slice r0.ptr r0.len r0.cap) h) =
    den Try.prog noFns Try.f25.ntmps plan25 (bodyOf Try.f25) (args0 0 [(.slice s1.ptr s1.len s1.cap : Value)]) h ⟨fun env h => dRes Try.prog Try.f25.results.toList env h K, fun _ _ _ => False, fun env h => dRes Try.prog Try.f25.results.toList env h K⟩ := by kernel_rfl
def E_slices_Clone_cbaad_of (f : Sl → Heap → (Sl → Heap → Prop) → Prop) : List Value → Heap → (Value → Heap → Prop) → Prop
  | [v0], h, K => dec1 .sl v0 fun (s1 : Sl) =>
  f s1 h (fun (r0 : Sl) (h : Heap) => K (.slice r0.ptr r0.len r0.cap) h)
  | _, _, _ => False
abbrev E_slices_Clone_cbaad := E_slices_Clone_cbaad_of F_slices_Clone_cbaad
theorem E_slices_Clone_cbaad.right : IsRight Try.prog 25 E_slices_Clone_cbaad := by
  refine isRight fun vs K w hh => ?_
  match vs, hh with
  | [v0], hh =>
    unfold E_slices_Clone_cbaad E_slices_Clone_cbaad_of at hh
    replace hh := dec1_sound hh; obtain ⟨s1, rfl, hh⟩ := hh
    unfold F_slices_Clone_cbaad at hh
    exact calls_den noFns_right plan25 _ w K Try.func25 (by kernel_rfl) (by kernel_rfl) (Eq.mp (F_slices_Clone_cbaad.eq  s1 w.heap K) hh)
theorem ok25 : okFn Try.prog 25 = true := by kernel_rfl
end Go.Proofs.Ytigcpkejjjgkeaa.V
namespace Go.Proofs.Ytigcpkejjjgkeaa.V
open Go Go.RowKit
set_option linter.unusedVariables false
set_option maxRecDepth 100000
def F_quorum_Quorum_most_of  (q1 : Option Addr) (n2 : Int) (h : Heap) (Q : Bool → Heap → Prop) : Prop :=
  nn q1 fun (a3 : Addr) =>
  ld [.sl] (a3.add 2) h fun (v4 : Sl) =>
  (2 : Int) ≠ 0 ∧
  Q (decide (n2 > (IntKind.i64.wrap (((v4.len : Nat) : Int).tdiv 2)))) h
def F_quorum_Quorum_most (q1 : Option Addr) (n2 : Int) (h : Heap) (Q : Bool → Heap → Prop) : Prop := F_quorum_Quorum_most_of  q1 n2 h Q
def plan26 : Plan := .s (.r [0, 1]) (.s (.r [4]) .z)
theorem F_quorum_Quorum_most.eq  (q1 : Option Addr) (n2 : Int) (h : Heap) (K : Value → Heap → Prop) : F_quorum_Quorum_most_of  q1 n2 h (fun (r0 : Bool) (h : Heap) => K (.bool r0) h) =
    den Try.prog noFns Try.f26.ntmps plan26 (bodyOf Try.f26) (args0 0 [(.pointer q1 : Value), (.int .i64 n2 : Value)]) h ⟨fun env h => dRes Try.prog Try.f26.results.toList env h K, fun _ _ _ => False, fun env h => dRes Try.prog Try.f26.results.toList env h K⟩ := by kernel_rfl
def E_quorum_Quorum_most_of (f : Option Addr → Int → Heap → (Bool → Heap → Prop) → Prop) : List Value → Heap → (Value → Heap → Prop) → Prop
  | [v0, v1], h, K => dec1 .ptr v0 fun (q1 : Option Addr) =>
  dec1 (.int .i64) v1 fun (n2 : Int) =>
  f q1 n2 h (fun (r0 : Bool) (h : Heap) => K (.bool r0) h)
  | _, _, _ => False
abbrev E_quorum_Quorum_most := E_quorum_Quorum_most_of F_quorum_Quorum_most
theorem E_quorum_Quorum_most.right : IsRight Try.prog 26 E_quorum_Quorum_most := by
  refine isRight fun vs K w hh => ?_
  match vs, hh with
  | [v0, v1], hh =>
    unfold E_quorum_Quorum_most E_quorum_Quorum_most_of at hh
    replace hh := dec1_sound hh; obtain ⟨q1, rfl, hh⟩ := hh
    replace hh := dec1_sound hh; obtain ⟨n2, rfl, hh⟩ := hh
    unfold F_quorum_Quorum_most at hh
    exact calls_den noFns_right plan26 _ w K Try.func26 (by kernel_rfl) (by kernel_rfl) (Eq.mp (F_quorum_Quorum_most.eq  q1 n2 w.heap K) hh)
theorem ok26 : okFn Try.prog 26 = true := by kernel_rfl
end Go.Proofs.Ytigcpkejjjgkeaa.V
namespace Go.Proofs.Ytigcpkejjjgkeaa.V
open Go Go.RowKit
set_option linter.unusedVariables false
set_option maxRecDepth 100000
def F_quorum_Quorum_mine_of  (q1 : Option Addr) (node2 : Int) (h : Heap) (Q : Bool → Heap → Prop) : Prop :=
  nn q1 fun (a3 : Addr) =>
  ld [.int .i64] (a3.add 0) h fun (v4 : Int) =>
  Q (node2 == v4) h
def F_quorum_Quorum_mine (q1 : Option Addr) (node2 : Int) (h : Heap) (Q : Bool → Heap → Prop) : Prop := F_quorum_Quorum_mine_of  q1 node2 h Q
def plan53 : Plan := .s (.r [0, 1]) (.s (.r [4]) .z)
theorem F_quorum_Quorum_mine.eq  (q1 : Option Addr) (node2 : Int) (h : Heap) (K : Value → Heap → Prop) : F_quorum_Quorum_mine_of  q1 node2 h (fun (r0 : Bool) (h : Heap) => K (.bool r0) h) =
    den Try.prog noFns Try.f53.ntmps plan53 (bodyOf Try.f53) (args0 0 [(.pointer q1 : Value), (.int .i64 node2 : Value)]) h ⟨fun env h => dRes Try.prog Try.f53.results.toList env h K, fun _ _ _ => False, fun env h => dRes Try.prog Try.f53.results.toList env h K⟩ := by kernel_rfl
def E_quorum_Quorum_mine_of (f : Option Addr → Int → Heap → (Bool → Heap → Prop) → Prop) : List Value → Heap → (Value → Heap → Prop) → Prop
  | [v0, v1], h, K => dec1 .ptr v0 fun (q1 : Option Addr) =>
  dec1 (.int .i64) v1 fun (node2 : Int) =>
  f q1 node2 h (fun (r0 : Bool) (h : Heap) => K (.bool r0) h)
  | _, _, _ => False
abbrev E_quorum_Quorum_mine := E_quorum_Quorum_mine_of F_quorum_Quorum_mine
theorem E_quorum_Quorum_mine.right : IsRight Try.prog 53 E_quorum_Quorum_mine := by
  refine isRight fun vs K w hh => ?_
  match vs, hh with
  | [v0, v1], hh =>
    unfold E_quorum_Quorum_mine E_quorum_Quorum_mine_of at hh
    replace hh := dec1_sound hh; obtain ⟨q1, rfl, hh⟩ := hh
    replace hh := dec1_sound hh; obtain ⟨node2, rfl, hh⟩ := hh
    unfold F_quorum_Quorum_mine at hh
    exact calls_den noFns_right plan53 _ w K Try.func53 (by kernel_rfl) (by kernel_rfl) (Eq.mp (F_quorum_Quorum_mine.eq  q1 node2 w.heap K) hh)
theorem ok53 : okFn Try.prog 53 = true := by kernel_rfl
end Go.Proofs.Ytigcpkejjjgkeaa.V
namespace Go.Proofs.Ytigcpkejjjgkeaa.V
open Go Go.RowKit
set_option linter.unusedVariables false
set_option maxRecDepth 100000
def F_quorum_nodes_in_of  (n1 : Option Nat) (node2 : Int) (h : Heap) (Q : Bool → Heap → Prop) : Prop :=
  mg .bool .i64 n1 node2 (.bool false) h fun (v3 b4 : Bool) =>
  Q v3 h
def F_quorum_nodes_in (n1 : Option Nat) (node2 : Int) (h : Heap) (Q : Bool → Heap → Prop) : Prop := F_quorum_nodes_in_of  n1 node2 h Q
def plan54 : Plan := .s (.r [0, 1]) (.s (.r [4]) .z)
theorem F_quorum_nodes_in.eq  (n1 : Option Nat) (node2 : Int) (h : Heap) (K : Value → Heap → Prop) : F_quorum_nodes_in_of  n1 node2 h (fun (r0 : Bool) (h : Heap) => K (.bool r0) h) =
    den Try.prog noFns Try.f54.ntmps plan54 (bodyOf Try.f54) (args0 0 [(.map n1 : Value), (.int .i64 node2 : Value)]) h ⟨fun env h => dRes Try.prog Try.f54.results.toList env h K, fun _ _ _ => False, fun env h => dRes Try.prog Try.f54.results.toList env h K⟩ := by kernel_rfl
def E_quorum_nodes_in_of (f : Option Nat → Int → Heap → (Bool → Heap → Prop) → Prop) : List Value → Heap → (Value → Heap → Prop) → Prop
  | [v0, v1], h, K => dec1 .map v0 fun (n1 : Option Nat) =>
  dec1 (.int .i64) v1 fun (node2 : Int) =>
  f n1 node2 h (fun (r0 : Bool) (h : Heap) => K (.bool r0) h)
  | _, _, _ => False
abbrev E_quorum_nodes_in := E_quorum_nodes_in_of F_quorum_nodes_in
theorem E_quorum_nodes_in.right : IsRight Try.prog 54 E_quorum_nodes_in := by
  refine isRight fun vs K w hh => ?_
  match vs, hh with
  | [v0, v1], hh =>
    unfold E_quorum_nodes_in E_quorum_nodes_in_of at hh
    replace hh := dec1_sound hh; obtain ⟨n1, rfl, hh⟩ := hh
    replace hh := dec1_sound hh; obtain ⟨node2, rfl, hh⟩ := hh
    unfold F_quorum_nodes_in at hh
    exact calls_den noFns_right plan54 _ w K Try.func54 (by kernel_rfl) (by kernel_rfl) (Eq.mp (F_quorum_nodes_in.eq  n1 node2 w.heap K) hh)
theorem ok54 : okFn Try.prog 54 = true := by kernel_rfl
end Go.Proofs.Ytigcpkejjjgkeaa.V
namespace Go.Proofs.Ytigcpkejjjgkeaa.V
open Go Go.RowKit
set_option linter.unusedVariables false
set_option maxRecDepth 100000
def F_quorum_Quorum_send.l1 (f25_ : Sl → Heap → (Sl → Heap → Prop) → Prop) (q1 : Option Addr) (out24 : Option FV) (Φ_ : Fns) (a25 : Addr) (v28 : Sl) (j29 : Sl → Heap → Prop) : Sl → Int → Heap → Prop :=
  wl [(7, .one .sl), (16, .one (.int .i64))] (fun (next30 : Sl → Int → Heap → Prop) (l31 : Sl) (x32 : Int) (h33 : Heap) =>
  brr (decide (x32 < ((v28.len : Nat) : Int)))
  (jn [(7, .one .sl)] (fun (l101 : Sl) (h102 : Heap) =>
  next30 l101 (IntKind.i64.wrap (x32 + 1)) h102) (fun (j34 : Sl → Heap → Prop) =>
  ixS 1 v28 x32 fun (a35 : Addr) =>
  ld [.int .i64] a35 h33 fun (v36 : Int) =>
  dyn1 .bool Φ_ (Kd.enc .fn out24) [(.int .i64 v36 : Value)] h33 fun (r38 : Bool) (h37 : Heap) =>
  brr r38
  (j34 l31 h37)
  (ld [.int .i64, .int .i64, .int .i64, .int .i64, .int .u64, .int .u64, .int .u64, .int .u64, .int .i64, .int .u64, .sl, .int .i64, .int .u64, .str, .str, .int .u64, .int .u64, .int .u64, .int .i64, .int .i64, .int .i64, .int .i64] a25 h37 fun (v39 v40 v41 v42 v43 v44 v45 v46 v47 v48 : Int) (v49 : Sl) (v50 v51 : Int) (v52 v53 : ByteArray) (v54 v55 v56 v57 v58 v59 v60 : Int) =>
  al 66 [.int .i64 0, .int .i64 0, .int .i64 0, .int .i64 0, .int .u64 0, .int .u64 0, .int .u64 0, .int .u64 0, .int .i64 0, .int .u64 0, .slice none 0 0, .int .i64 0, .int .u64 0, .string (⟨#[]⟩ : ByteArray), .string (⟨#[]⟩ : ByteArray), .int .u64 0, .int .u64 0, .int .u64 0, .int .i64 0, .int .i64 0, .int .i64 0, .int .i64 0] h37 fun (a61 : Addr) (h62 : Heap) =>
  st a61 [.int .i64 v39, .int .i64 v40, .int .i64 v41, .int .i64 v42, .int .u64 v43, .int .u64 v44, .int .u64 v45, .int .u64 v46, .int .i64 v47, .int .u64 v48, .slice v49.ptr v49.len v49.cap, .int .i64 v50, .int .u64 v51, .string v52, .string v53, .int .u64 v54, .int .u64 v55, .int .u64 v56, .int .i64 v57, .int .i64 v58, .int .i64 v59, .int .i64 v60] h62 fun (h63 : Heap) =>
  nn q1 fun (a64 : Addr) =>
  ld [.int .i64] (a64.add 0) h63 fun (v65 : Int) =>
  nn q1 fun (a66 : Addr) =>
  ld [.int .i64] (a66.add 1) h63 fun (v67 : Int) =>
  ld [.sl] (a25.add 10) h63 fun (v68 : Sl) =>
  f25_ v68 h63 fun (r69 : Sl) (h70 : Heap) =>
  cellsAre h70 (a64.add 0) [.int .i64 v65] ∧
  cellsAre h70 (a66.add 1) [.int .i64 v67] ∧
  st ((a61.add 0).add 1) [.int .i64 v65] h70 fun (h71 : Heap) =>
  cellsAre h71 (a66.add 1) [.int .i64 v67] ∧
  st ((a61.add 0).add 2) [.int .i64 v36] h71 fun (h72 : Heap) =>
  cellsAre h72 (a66.add 1) [.int .i64 v67] ∧
  st ((a61.add 0).add 3) [.int .i64 v67] h72 fun (h73 : Heap) =>
  st (a61.add 10) [.slice r69.ptr r69.len r69.cap] h73 fun (h74 : Heap) =>
  ld [.int .i64, .int .i64, .int .i64, .int .i64, .int .u64, .int .u64, .int .u64, .int .u64, .int .i64, .int .u64, .sl, .int .i64, .int .u64, .str, .str, .int .u64, .int .u64, .int .u64, .int .i64, .int .i64, .int .i64, .int .i64] a61 h74 fun (v75 v76 v77 v78 v79 v80 v81 v82 v83 v84 : Int) (v85 : Sl) (v86 v87 : Int) (v88 v89 : ByteArray) (v90 v91 v92 v93 v94 v95 v96 : Int) =>
  al 66 [.int .i64 v75, .int .i64 v76, .int .i64 v77, .int .i64 v78, .int .u64 v79, .int .u64 v80, .int .u64 v81, .int .u64 v82, .int .i64 v83, .int .u64 v84, .slice v85.ptr v85.len v85.cap, .int .i64 v86, .int .u64 v87, .string v88, .string v89, .int .u64 v90, .int .u64 v91, .int .u64 v92, .int .i64 v93, .int .i64 v94, .int .i64 v95, .int .i64 v96] h74 fun (a97 : Addr) (h98 : Heap) =>
  app 66 22 208 (.agg #[.int .i64 0, .int .i64 0, .int .i64 0, .int .i64 0, .int .u64 0, .int .u64 0, .int .u64 0, .int .u64 0, .int .i64 0, .int .u64 0, .slice none 0 0, .int .i64 0, .int .u64 0, .string (⟨#[]⟩ : ByteArray), .string (⟨#[]⟩ : ByteArray), .int .u64 0, .int .u64 0, .int .u64 0, .int .i64 0, .int .i64 0, .int .i64 0, .int .i64 0]) l31 (some a97) 1 h98 fun (s99 : Sl) (h100 : Heap) =>
  j34 s99 h100)))
  (j29 l31 h33))
def F_quorum_Quorum_send_of (f25_ : Sl → Heap → (Sl → Heap → Prop) → Prop) (f53_ : Option Addr → Int → Heap → (Bool → Heap → Prop) → Prop) (f54_ : Option Nat → Int → Heap → (Bool → Heap → Prop) → Prop) (Φ_ : Fns) (q1 : Option Addr) (x2 x3 x4 x5 x6 x7 x8 x9 x10 x11 : Int) (x12 : Sl) (x13 x14 : Int) (x15 x16 : ByteArray) (x17 x18 x19 x20 x21 x22 x23 : Int) (out24 : Option FV) (h : Heap) (Q : Sl → Heap → Prop) : Prop :=
  al 66 [.int .i64 x2, .int .i64 x3, .int .i64 x4, .int .i64 x5, .int .u64 x6, .int .u64 x7, .int .u64 x8, .int .u64 x9, .int .i64 x10, .int .u64 x11, .slice x12.ptr x12.len x12.cap, .int .i64 x13, .int .u64 x14, .string x15, .string x16, .int .u64 x17, .int .u64 x18, .int .u64 x19, .int .i64 x20, .int .i64 x21, .int .i64 x22, .int .i64 x23] h fun (a25 : Addr) (h26 : Heap) =>
  nn q1 fun (a27 : Addr) =>
  ld [.sl] (a27.add 2) h26 fun (v28 : Sl) =>
  jn [(7, .one .sl)] (fun (l103 : Sl) (h104 : Heap) =>
  Q l103 h104) (fun (j29 : Sl → Heap → Prop) =>
  F_quorum_Quorum_send.l1 f25_ q1 out24 Φ_ a25 v28 j29 (⟨none, 0, 0⟩ : Sl) 0 h26)
def F_quorum_Quorum_send (q1 : Option Addr) (x2 x3 x4 x5 x6 x7 x8 x9 x10 x11 : Int) (x12 : Sl) (x13 x14 : Int) (x15 x16 : ByteArray) (x17 x18 x19 x20 x21 x22 x23 : Int) (out24 : Option FV) (h : Heap) (Q : Sl → Heap → Prop) : Prop := F_quorum_Quorum_send_of F_slices_Clone_cbaad F_quorum_Quorum_mine F_quorum_nodes_in (fn1 25 E_slices_Clone_cbaad (fn1 53 E_quorum_Quorum_mine (fn1 54 E_quorum_nodes_in noFns))) q1 x2 x3 x4 x5 x6 x7 x8 x9 x10 x11 x12 x13 x14 x15 x16 x17 x18 x19 x20 x21 x22 x23 out24 h Q
def plan52 : Plan := .s (.r [0, 2, 4]) (.s (.r [0, 2, 4, 7]) (.s (.s (.r [0, 2, 4, 7, 14, 15, 16]) (.bj [(7, .one .sl)] [] (.l [(7, .one .sl), (16, .one (.int .i64))] [0, 2, 4, 14, 15] (.s (.r [0, 2, 4, 7, 14, 15, 16, 17]) (.s (.c .z .z) (.s (.bj [(7, .one .sl)] [0, 2, 4, 14, 15, 16] (.s (.r [0, 2, 4, 7, 9, 14, 15, 16]) (.s (.s (.r [0, 2, 4, 7, 9, 14, 15, 16, 22]) (.c .z .z)) (.s (.r [0, 2, 4, 7, 9, 10, 14, 15, 16]) (.s (.d [0, 1, 3, 7, 0, 0, 32, 96, 224, 0, 512, 1536, 15, 4111, 15887, 32287, 65055, 130591, 262143, 524287, 1048575, 2097151, 4194303] [[0, 1, 2, 3, 4, 5, 6, 7, 8, 9, 10, 12, 13, 11, 14, 15, 16, 17, 18, 19, 20, 21, 22]] [0, 2, 4, 7, 10, 14, 15, 16]) (.r [0, 2, 4, 7, 14, 15, 16])))))) (.r [0, 2, 4, 7, 14, 15, 16]))))))) (.s (.r [6]) .z)))
theorem F_quorum_Quorum_send.eq (f25_ : Sl → Heap → (Sl → Heap → Prop) → Prop) (f53_ : Option Addr → Int → Heap → (Bool → Heap → Prop) → Prop) (f54_ : Option Nat → Int → Heap → (Bool → Heap → Prop) → Prop) (q1 : Option Addr) (x2 x3 x4 x5 x6 x7 x8 x9 x10 x11 : Int) (x12 : Sl) (x13 x14 : Int) (x15 x16 : ByteArray) (x17 x18 x19 x20 x21 x22 x23 : Int) (out24 : Option FV) (h : Heap) (K : Value → Heap → Prop) : F_quorum_Quorum_send_of f25_ f53_ f54_ (fn1 25 (E_slices_Clone_cbaad_of f25_) (fn1 53 (E_quorum_Quorum_mine_of f53_) (fn1 54 (E_quorum_nodes_in_of f54_) noFns))) q1 x2 x3 x4 x5 x6 x7 x8 x9 x10 x11 x12 x13 x14 x15 x16 x17 x18 x19 x20 x21 x22 x23 out24 h (fun (r0 : Sl) (h : Heap) => K (.slice r0.ptr r0.len r0.cap) h) =
    den Try.prog (fn1 25 (E_slices_Clone_cbaad_of f25_) (fn1 53 (E_quorum_Quorum_mine_of f53_) (fn1 54 (E_quorum_nodes_in_of f54_) noFns))) Try.f52.ntmps plan52 (bodyOf Try.f52) (args0 0 [(.pointer q1 : Value), (.agg #[.int .i64 x2, .int .i64 x3, .int .i64 x4, .int .i64 x5, .int .u64 x6, .int .u64 x7, .int .u64 x8, .int .u64 x9, .int .i64 x10, .int .u64 x11, .slice x12.ptr x12.len x12.cap, .int .i64 x13, .int .u64 x14, .string x15, .string x16, .int .u64 x17, .int .u64 x18, .int .u64 x19, .int .i64 x20, .int .i64 x21, .int .i64 x22, .int .i64 x23] : Value), (Kd.enc .fn out24 : Value)]) h ⟨fun env h => dRes Try.prog Try.f52.results.toList env h K, fun _ _ _ => False, fun env h => dRes Try.prog Try.f52.results.toList env h K⟩ := by kernel_rfl
def E_quorum_Quorum_send_of (f : Option Addr → Int → Int → Int → Int → Int → Int → Int → Int → Int → Int → Sl → Int → Int → ByteArray → ByteArray → Int → Int → Int → Int → Int → Int → Int → Option FV → Heap → (Sl → Heap → Prop) → Prop) : List Value → Heap → (Value → Heap → Prop) → Prop
  | [v0, v1, v2], h, K => dec1 .ptr v0 fun (q1 : Option Addr) =>
  vAgg v1 fun cs1 => decs [.int .i64, .int .i64, .int .i64, .int .i64, .int .u64, .int .u64, .int .u64, .int .u64, .int .i64, .int .u64, .sl, .int .i64, .int .u64, .str, .str, .int .u64, .int .u64, .int .u64, .int .i64, .int .i64, .int .i64, .int .i64] cs1.toList fun (x2 x3 x4 x5 x6 x7 x8 x9 x10 x11 : Int) (x12 : Sl) (x13 x14 : Int) (x15 x16 : ByteArray) (x17 x18 x19 x20 x21 x22 x23 : Int) =>
  dec1 .fn v2 fun (out24 : Option FV) =>
  f q1 x2 x3 x4 x5 x6 x7 x8 x9 x10 x11 x12 x13 x14 x15 x16 x17 x18 x19 x20 x21 x22 x23 out24 h (fun (r0 : Sl) (h : Heap) => K (.slice r0.ptr r0.len r0.cap) h)
  | _, _, _ => False
abbrev E_quorum_Quorum_send := E_quorum_Quorum_send_of F_quorum_Quorum_send
theorem E_quorum_Quorum_send.right : IsRight Try.prog 52 E_quorum_Quorum_send := by
  refine isRight fun vs K w hh => ?_
  match vs, hh with
  | [v0, v1, v2], hh =>
    unfold E_quorum_Quorum_send E_quorum_Quorum_send_of at hh
    replace hh := dec1_sound hh; obtain ⟨q1, rfl, hh⟩ := hh
    replace hh := vAgg_sound hh; obtain ⟨cs1, rfl, hh⟩ := hh
    replace hh := decs_cons hh; obtain ⟨x2, l1_0, e1_0, hh⟩ := hh
    replace hh := decs_cons hh; obtain ⟨x3, l1_1, e1_1, hh⟩ := hh
    replace hh := decs_cons hh; obtain ⟨x4, l1_2, e1_2, hh⟩ := hh
    replace hh := decs_cons hh; obtain ⟨x5, l1_3, e1_3, hh⟩ := hh
    replace hh := decs_cons hh; obtain ⟨x6, l1_4, e1_4, hh⟩ := hh
    replace hh := decs_cons hh; obtain ⟨x7, l1_5, e1_5, hh⟩ := hh
    replace hh := decs_cons hh; obtain ⟨x8, l1_6, e1_6, hh⟩ := hh
    replace hh := decs_cons hh; obtain ⟨x9, l1_7, e1_7, hh⟩ := hh
    replace hh := decs_cons hh; obtain ⟨x10, l1_8, e1_8, hh⟩ := hh
    replace hh := decs_cons hh; obtain ⟨x11, l1_9, e1_9, hh⟩ := hh
    replace hh := decs_cons hh; obtain ⟨x12, l1_10, e1_10, hh⟩ := hh
    replace hh := decs_cons hh; obtain ⟨x13, l1_11, e1_11, hh⟩ := hh
    replace hh := decs_cons hh; obtain ⟨x14, l1_12, e1_12, hh⟩ := hh
    replace hh := decs_cons hh; obtain ⟨x15, l1_13, e1_13, hh⟩ := hh
    replace hh := decs_cons hh; obtain ⟨x16, l1_14, e1_14, hh⟩ := hh
    replace hh := decs_cons hh; obtain ⟨x17, l1_15, e1_15, hh⟩ := hh
    replace hh := decs_cons hh; obtain ⟨x18, l1_16, e1_16, hh⟩ := hh
    replace hh := decs_cons hh; obtain ⟨x19, l1_17, e1_17, hh⟩ := hh
    replace hh := decs_cons hh; obtain ⟨x20, l1_18, e1_18, hh⟩ := hh
    replace hh := decs_cons hh; obtain ⟨x21, l1_19, e1_19, hh⟩ := hh
    replace hh := decs_cons hh; obtain ⟨x22, l1_20, e1_20, hh⟩ := hh
    replace hh := decs_cons hh; obtain ⟨x23, l1_21, e1_21, hh⟩ := hh
    replace hh := decs_nil hh; obtain ⟨rfl, hh⟩ := hh
    subst e1_21
    subst e1_20
    subst e1_19
    subst e1_18
    subst e1_17
    subst e1_16
    subst e1_15
    subst e1_14
    subst e1_13
    subst e1_12
    subst e1_11
    subst e1_10
    subst e1_9
    subst e1_8
    subst e1_7
    subst e1_6
    subst e1_5
    subst e1_4
    subst e1_3
    subst e1_2
    subst e1_1
    have ec1 := toArray_eq e1_0
    subst ec1
    replace hh := dec1_sound hh; obtain ⟨out24, rfl, hh⟩ := hh
    unfold F_quorum_Quorum_send at hh
    exact calls_den (fn1_right ok25 E_slices_Clone_cbaad.right (fn1_right ok53 E_quorum_Quorum_mine.right (fn1_right ok54 E_quorum_nodes_in.right noFns_right))) plan52 _ w K Try.func52 (by kernel_rfl) (by kernel_rfl) (Eq.mp (F_quorum_Quorum_send.eq F_slices_Clone_cbaad F_quorum_Quorum_mine F_quorum_nodes_in q1 x2 x3 x4 x5 x6 x7 x8 x9 x10 x11 x12 x13 x14 x15 x16 x17 x18 x19 x20 x21 x22 x23 out24 w.heap K) hh)
theorem ok52 : okFn Try.prog 52 = true := by kernel_rfl
end Go.Proofs.Ytigcpkejjjgkeaa.V
namespace Go.Proofs.Ytigcpkejjjgkeaa.V
open Go Go.RowKit
set_option linter.unusedVariables false
set_option maxRecDepth 100000
def F_quorum_Quorum_writes_of (f52_ : Option Addr → Int → Int → Int → Int → Int → Int → Int → Int → Int → Int → Sl → Int → Int → ByteArray → ByteArray → Int → Int → Int → Int → Int → Int → Int → Option FV → Heap → (Sl → Heap → Prop) → Prop) (q1 : Option Addr) (span2 : Int) (h : Heap) (Q : Sl → Heap → Prop) : Prop :=
  nn q1 fun (a3 : Addr) =>
  ld [.int .u64, .int .u64] (a3.add 8) h fun (v4 v5 : Int) =>
  nn q1 fun (a6 : Addr) =>
  ld [.sl] (a6.add 10) h fun (v7 : Sl) =>
  nn q1 fun (a8 : Addr) =>
  ld [.map] (a8.add 17) h fun (v9 : Option Nat) =>
  f52_ q1 4 0 0 0 0 v4 v5 0 span2 0 v7 0 0 (⟨#[]⟩ : ByteArray) (⟨#[]⟩ : ByteArray) 0 0 0 0 0 0 0 (some (⟨.func 54, [.map v9], []⟩ : FV)) h fun (r10 : Sl) (h11 : Heap) =>
  Q r10 h11
def F_quorum_Quorum_writes (q1 : Option Addr) (span2 : Int) (h : Heap) (Q : Sl → Heap → Prop) : Prop := F_quorum_Quorum_writes_of F_quorum_Quorum_send q1 span2 h Q
def plan29 : Plan := .s (.r [0, 1]) (.s (.d [0, 0, 0, 4, 12, 28, 0, 64, 192, 448, 0, 2046, 0, 4096, 12288, 28672, 61440, 131071, 262143] [[0, 1, 2, 3, 4, 5, 6, 7, 8, 9, 10, 11, 12, 13, 14, 15, 16, 17, 18]] [4]) .z)
theorem F_quorum_Quorum_writes.eq (f52_ : Option Addr → Int → Int → Int → Int → Int → Int → Int → Int → Int → Int → Sl → Int → Int → ByteArray → ByteArray → Int → Int → Int → Int → Int → Int → Int → Option FV → Heap → (Sl → Heap → Prop) → Prop) (q1 : Option Addr) (span2 : Int) (h : Heap) (K : Value → Heap → Prop) : F_quorum_Quorum_writes_of f52_ q1 span2 h (fun (r0 : Sl) (h : Heap) => K (.slice r0.ptr r0.len r0.cap) h) =
    den Try.prog (fn1 52 (E_quorum_Quorum_send_of f52_) noFns) Try.f29.ntmps plan29 (bodyOf Try.f29) (args0 0 [(.pointer q1 : Value), (.int .i64 span2 : Value)]) h ⟨fun env h => dRes Try.prog Try.f29.results.toList env h K, fun _ _ _ => False, fun env h => dRes Try.prog Try.f29.results.toList env h K⟩ := by kernel_rfl
def E_quorum_Quorum_writes_of (f : Option Addr → Int → Heap → (Sl → Heap → Prop) → Prop) : List Value → Heap → (Value → Heap → Prop) → Prop
  | [v0, v1], h, K => dec1 .ptr v0 fun (q1 : Option Addr) =>
  dec1 (.int .i64) v1 fun (span2 : Int) =>
  f q1 span2 h (fun (r0 : Sl) (h : Heap) => K (.slice r0.ptr r0.len r0.cap) h)
  | _, _, _ => False
abbrev E_quorum_Quorum_writes := E_quorum_Quorum_writes_of F_quorum_Quorum_writes
theorem E_quorum_Quorum_writes.right : IsRight Try.prog 29 E_quorum_Quorum_writes := by
  refine isRight fun vs K w hh => ?_
  match vs, hh with
  | [v0, v1], hh =>
    unfold E_quorum_Quorum_writes E_quorum_Quorum_writes_of at hh
    replace hh := dec1_sound hh; obtain ⟨q1, rfl, hh⟩ := hh
    replace hh := dec1_sound hh; obtain ⟨span2, rfl, hh⟩ := hh
    unfold F_quorum_Quorum_writes at hh
    exact calls_den (fn1_right ok52 E_quorum_Quorum_send.right noFns_right) plan29 _ w K Try.func29 (by kernel_rfl) (by kernel_rfl) (Eq.mp (F_quorum_Quorum_writes.eq F_quorum_Quorum_send q1 span2 w.heap K) hh)
theorem ok29 : okFn Try.prog 29 = true := by kernel_rfl
end Go.Proofs.Ytigcpkejjjgkeaa.V
namespace Go.Proofs.Ytigcpkejjjgkeaa.V
open Go Go.RowKit
set_option linter.unusedVariables false
set_option maxRecDepth 100000
def F_quorum_Quorum_write_of (f29_ : Option Addr → Int → Heap → (Sl → Heap → Prop) → Prop) (q1 : Option Addr) (seq2 span3 : Int) (h : Heap) (Q : Sl → Heap → Prop) : Prop :=
  nn q1 fun (a4 : Addr) =>
  ld [.int .u64] (a4.add 4) h fun (v5 : Int) =>
  nn q1 fun (a6 : Addr) =>
  st (a6.add 3) [.int .i64 2] h fun (h7 : Heap) =>
  nn q1 fun (a8 : Addr) =>
  st (a8.add 8) [.int .u64 v5, .int .u64 seq2] h7 fun (h9 : Heap) =>
  nn q1 fun (a10 : Addr) =>
  ld [.map] (a10.add 17) h9 fun (v11 : Option Nat) =>
  mclr v11 h9 fun (h13 : Heap) =>
  f29_ q1 span3 h13 fun (r14 : Sl) (h15 : Heap) =>
  Q r14 h15
def F_quorum_Quorum_write (q1 : Option Addr) (seq2 span3 : Int) (h : Heap) (Q : Sl → Heap → Prop) : Prop := F_quorum_Quorum_write_of F_quorum_Quorum_writes q1 seq2 span3 h Q
def plan27 : Plan := .s (.r [0, 1, 2]) (.s (.r [0, 2]) (.s (.r [0, 2]) (.s (.r [6]) .z)))
theorem F_quorum_Quorum_write.eq (f29_ : Option Addr → Int → Heap → (Sl → Heap → Prop) → Prop) (q1 : Option Addr) (seq2 span3 : Int) (h : Heap) (K : Value → Heap → Prop) : F_quorum_Quorum_write_of f29_ q1 seq2 span3 h (fun (r0 : Sl) (h : Heap) => K (.slice r0.ptr r0.len r0.cap) h) =
    den Try.prog (fn1 29 (E_quorum_Quorum_writes_of f29_) noFns) Try.f27.ntmps plan27 (bodyOf Try.f27) (args0 0 [(.pointer q1 : Value), (.int .u64 seq2 : Value), (.int .i64 span3 : Value)]) h ⟨fun env h => dRes Try.prog Try.f27.results.toList env h K, fun _ _ _ => False, fun env h => dRes Try.prog Try.f27.results.toList env h K⟩ := by kernel_rfl
def E_quorum_Quorum_write_of (f : Option Addr → Int → Int → Heap → (Sl → Heap → Prop) → Prop) : List Value → Heap → (Value → Heap → Prop) → Prop
  | [v0, v1, v2], h, K => dec1 .ptr v0 fun (q1 : Option Addr) =>
  dec1 (.int .u64) v1 fun (seq2 : Int) =>
  dec1 (.int .i64) v2 fun (span3 : Int) =>
  f q1 seq2 span3 h (fun (r0 : Sl) (h : Heap) => K (.slice r0.ptr r0.len r0.cap) h)
  | _, _, _ => False
abbrev E_quorum_Quorum_write := E_quorum_Quorum_write_of F_quorum_Quorum_write
theorem E_quorum_Quorum_write.right : IsRight Try.prog 27 E_quorum_Quorum_write := by
  refine isRight fun vs K w hh => ?_
  match vs, hh with
  | [v0, v1, v2], hh =>
    unfold E_quorum_Quorum_write E_quorum_Quorum_write_of at hh
    replace hh := dec1_sound hh; obtain ⟨q1, rfl, hh⟩ := hh
    replace hh := dec1_sound hh; obtain ⟨seq2, rfl, hh⟩ := hh
    replace hh := dec1_sound hh; obtain ⟨span3, rfl, hh⟩ := hh
    unfold F_quorum_Quorum_write at hh
    exact calls_den (fn1_right ok29 E_quorum_Quorum_writes.right noFns_right) plan27 _ w K Try.func27 (by kernel_rfl) (by kernel_rfl) (Eq.mp (F_quorum_Quorum_write.eq F_quorum_Quorum_writes q1 seq2 span3 w.heap K) hh)
theorem ok27 : okFn Try.prog 27 = true := by kernel_rfl
end Go.Proofs.Ytigcpkejjjgkeaa.V
namespace Go.Proofs.Ytigcpkejjjgkeaa.V
open Go Go.RowKit
set_option linter.unusedVariables false
set_option maxRecDepth 100000
def F_quorum_above_of  (a1 a2 b3 b4 : Int) (h : Heap) (Q : Bool → Heap → Prop) : Prop :=
  al 35 [.int .u64 a1, .int .u64 a2] h fun (a5 : Addr) (h6 : Heap) =>
  al 35 [.int .u64 b3, .int .u64 b4] h6 fun (a7 : Addr) (h8 : Heap) =>
  jn [(4, .one .bool)] (fun (x16 : Bool) (h17 : Heap) =>
  Q x16 h17) (fun (j9 : Bool → Heap → Prop) =>
  ld [.int .u64] (a5.add 0) h8 fun (v10 : Int) =>
  ld [.int .u64] (a7.add 0) h8 fun (v11 : Int) =>
  brr (decide (v10 > v11))
  (j9 true h8)
  (ld [.int .u64] (a5.add 0) h8 fun (v12 : Int) =>
  ld [.int .u64] (a7.add 0) h8 fun (v13 : Int) =>
  brr (v12 == v13)
  (ld [.int .u64] (a5.add 1) h8 fun (v14 : Int) =>
  ld [.int .u64] (a7.add 1) h8 fun (v15 : Int) =>
  j9 (decide (v14 > v15)) h8)
  (j9 false h8)))
def F_quorum_above (a1 a2 b3 b4 : Int) (h : Heap) (Q : Bool → Heap → Prop) : Prop := F_quorum_above_of  a1 a2 b3 b4 h Q
def plan67 : Plan := .s (.r [2, 3]) (.s (.rj [(4, .one .bool)] []) .z)
theorem F_quorum_above.eq  (a1 a2 b3 b4 : Int) (h : Heap) (K : Value → Heap → Prop) : F_quorum_above_of  a1 a2 b3 b4 h (fun (r0 : Bool) (h : Heap) => K (.bool r0) h) =
    den Try.prog noFns Try.f67.ntmps plan67 (bodyOf Try.f67) (args0 0 [(.agg #[.int .u64 a1, .int .u64 a2] : Value), (.agg #[.int .u64 b3, .int .u64 b4] : Value)]) h ⟨fun env h => dRes Try.prog Try.f67.results.toList env h K, fun _ _ _ => False, fun env h => dRes Try.prog Try.f67.results.toList env h K⟩ := by kernel_rfl
def E_quorum_above_of (f : Int → Int → Int → Int → Heap → (Bool → Heap → Prop) → Prop) : List Value → Heap → (Value → Heap → Prop) → Prop
  | [v0, v1], h, K => vAgg v0 fun cs0 => decs [.int .u64, .int .u64] cs0.toList fun (a1 a2 : Int) =>
  vAgg v1 fun cs1 => decs [.int .u64, .int .u64] cs1.toList fun (b3 b4 : Int) =>
  f a1 a2 b3 b4 h (fun (r0 : Bool) (h : Heap) => K (.bool r0) h)
  | _, _, _ => False
abbrev E_quorum_above := E_quorum_above_of F_quorum_above
theorem E_quorum_above.right : IsRight Try.prog 67 E_quorum_above := by
  refine isRight fun vs K w hh => ?_
  match vs, hh with
  | [v0, v1], hh =>
    unfold E_quorum_above E_quorum_above_of at hh
    replace hh := vAgg_sound hh; obtain ⟨cs0, rfl, hh⟩ := hh
    replace hh := decs_cons hh; obtain ⟨a1, l0_0, e0_0, hh⟩ := hh
    replace hh := decs_cons hh; obtain ⟨a2, l0_1, e0_1, hh⟩ := hh
    replace hh := decs_nil hh; obtain ⟨rfl, hh⟩ := hh
    subst e0_1
    have ec0 := toArray_eq e0_0
    subst ec0
    replace hh := vAgg_sound hh; obtain ⟨cs1, rfl, hh⟩ := hh
    replace hh := decs_cons hh; obtain ⟨b3, l1_0, e1_0, hh⟩ := hh
    replace hh := decs_cons hh; obtain ⟨b4, l1_1, e1_1, hh⟩ := hh
    replace hh := decs_nil hh; obtain ⟨rfl, hh⟩ := hh
    subst e1_1
    have ec1 := toArray_eq e1_0
    subst ec1
    unfold F_quorum_above at hh
    exact calls_den noFns_right plan67 _ w K Try.func67 (by kernel_rfl) (by kernel_rfl) (Eq.mp (F_quorum_above.eq  a1 a2 b3 b4 w.heap K) hh)
theorem ok67 : okFn Try.prog 67 = true := by kernel_rfl
end Go.Proofs.Ytigcpkejjjgkeaa.V
namespace Go.Proofs.Ytigcpkejjjgkeaa.V
open Go Go.RowKit
set_option linter.unusedVariables false
set_option maxRecDepth 100000
def F_quorum_Quorum_promise_of (f25_ : Sl → Heap → (Sl → Heap → Prop) → Prop) (f26_ : Option Addr → Int → Heap → (Bool → Heap → Prop) → Prop) (f27_ : Option Addr → Int → Int → Heap → (Sl → Heap → Prop) → Prop) (f67_ : Int → Int → Int → Int → Heap → (Bool → Heap → Prop) → Prop) (q1 : Option Addr) (m2 m3 m4 m5 m6 m7 m8 m9 m10 m11 : Int) (m12 : Sl) (m13 m14 : Int) (m15 m16 : ByteArray) (m17 m18 m19 m20 m21 m22 m23 span24 : Int) (h : Heap) (Q : Sl → Heap → Prop) : Prop :=
  al 66 [.int .i64 m2, .int .i64 m3, .int .i64 m4, .int .i64 m5, .int .u64 m6, .int .u64 m7, .int .u64 m8, .int .u64 m9, .int .i64 m10, .int .u64 m11, .slice m12.ptr m12.len m12.cap, .int .i64 m13, .int .u64 m14, .string m15, .string m16, .int .u64 m17, .int .u64 m18, .int .u64 m19, .int .i64 m20, .int .i64 m21, .int .i64 m22, .int .i64 m23] h fun (a25 : Addr) (h26 : Heap) =>
  jn [(30, .one .bool)] (fun (x38 : Bool) (h39 : Heap) =>
  brr x38
  (Q (⟨none, 0, 0⟩ : Sl) h39)
  (nn q1 fun (a40 : Addr) =>
  ld [.map] (a40.add 16) h39 fun (v41 : Option Nat) =>
  ld [.int .i64] ((a25.add 0).add 1) h39 fun (v42 : Int) =>
  mput .i64 v41 v42 (.bool true) h39 fun (h43 : Heap) =>
  ld [.int .u64, .int .u64] (a25.add 5) h43 fun (v44 v45 : Int) =>
  nn q1 fun (a46 : Addr) =>
  ld [.int .u64, .int .u64] (a46.add 6) h43 fun (v47 v48 : Int) =>
  f67_ v44 v45 v47 v48 h43 fun (r49 : Bool) (h50 : Heap) =>
  jn [] (fun  (h61 : Heap) =>
  nn q1 fun (a62 : Addr) =>
  ld [.map] (a62.add 16) h61 fun (v63 : Option Nat) =>
  mlen v63 h61 fun (n64 : Int) =>
  f26_ q1 n64 h61 fun (r65 : Bool) (h66 : Heap) =>
  brr r65
  (f27_ q1 1 span24 h66 fun (r67 : Sl) (h68 : Heap) =>
  Q r67 h68)
  (Q (⟨none, 0, 0⟩ : Sl) h66)) (fun (j51 : Heap → Prop) =>
  brr r49
  (ld [.int .u64, .int .u64] (a25.add 5) h50 fun (v52 v53 : Int) =>
  ld [.sl] (a25.add 10) h50 fun (v54 : Sl) =>
  f25_ v54 h50 fun (r55 : Sl) (h56 : Heap) =>
  cellsAre h56 (a25.add 5) [.int .u64 v52, .int .u64 v53] ∧
  nn q1 fun (a57 : Addr) =>
  st (a57.add 6) [.int .u64 v52, .int .u64 v53] h56 fun (h58 : Heap) =>
  nn q1 fun (a59 : Addr) =>
  st (a59.add 10) [.slice r55.ptr r55.len r55.cap] h58 fun (h60 : Heap) =>
  j51 h60)
  (j51 h50)))) (fun (j27 : Bool → Heap → Prop) =>
  nn q1 fun (a28 : Addr) =>
  ld [.int .i64] (a28.add 3) h26 fun (v29 : Int) =>
  brr (v29 != 1)
  (j27 true h26)
  (ld [.int .u64] (a25.add 4) h26 fun (v30 : Int) =>
  nn q1 fun (a31 : Addr) =>
  ld [.int .u64] (a31.add 4) h26 fun (v32 : Int) =>
  brr (v30 != v32)
  (j27 true h26)
  (nn q1 fun (a33 : Addr) =>
  ld [.map] (a33.add 16) h26 fun (v34 : Option Nat) =>
  ld [.int .i64] ((a25.add 0).add 1) h26 fun (v35 : Int) =>
  mg .bool .i64 v34 v35 (.bool false) h26 fun (v36 b37 : Bool) =>
  j27 v36 h26)))
def F_quorum_Quorum_promise (q1 : Option Addr) (m2 m3 m4 m5 m6 m7 m8 m9 m10 m11 : Int) (m12 : Sl) (m13 m14 : Int) (m15 m16 : ByteArray) (m17 m18 m19 m20 m21 m22 m23 span24 : Int) (h : Heap) (Q : Sl → Heap → Prop) : Prop := F_quorum_Quorum_promise_of F_slices_Clone_cbaad F_quorum_Quorum_most F_quorum_Quorum_write F_quorum_above q1 m2 m3 m4 m5 m6 m7 m8 m9 m10 m11 m12 m13 m14 m15 m16 m17 m18 m19 m20 m21 m22 m23 span24 h Q
def plan61 : Plan := .s (.r [0, 2, 4]) (.s (.s (.dj [0, 1, 3, 7, 15, 31, 63, 127, 63, 319, 831, 1855, 4095, 8191, 16383, 32767, 65535, 131071, 262143, 32767, 557055, 1605631, 4194303, 8388607] [[0, 1, 2, 3, 4, 5, 6, 7, 8, 9, 10, 11, 12, 13, 14, 15, 16, 17, 18, 19, 20, 21, 22, 23]] [(30, .one .bool)] [0, 2, 4]) (.c (.s (.r [6]) .z) .z)) (.s (.d [0, 1, 3, 7, 0, 16, 48, 127] [[0, 1, 2, 3, 4, 5, 6, 7]] [0, 2, 4]) (.s (.s (.d [0, 1, 0, 4, 12, 28, 63] [[0, 1, 2, 3, 4, 5, 6]] [0, 2, 4, 44]) (.cj [] [0, 2] (.d [0, 0, 0, 4, 0, 16, 48, 125, 253, 509, 1023, 2047, 4095] [[0, 1, 2, 3, 4, 5, 6, 7, 8, 9, 10, 11, 12]] [0, 2]) .z)) (.s (.s (.r [0, 2, 62]) (.c (.s (.r [6]) .z) .z)) (.s (.r [6]) .z)))))
theorem F_quorum_Quorum_promise.eq (f25_ : Sl → Heap → (Sl → Heap → Prop) → Prop) (f26_ : Option Addr → Int → Heap → (Bool → Heap → Prop) → Prop) (f27_ : Option Addr → Int → Int → Heap → (Sl → Heap → Prop) → Prop) (f67_ : Int → Int → Int → Int → Heap → (Bool → Heap → Prop) → Prop) (q1 : Option Addr) (m2 m3 m4 m5 m6 m7 m8 m9 m10 m11 : Int) (m12 : Sl) (m13 m14 : Int) (m15 m16 : ByteArray) (m17 m18 m19 m20 m21 m22 m23 span24 : Int) (h : Heap) (K : Value → Heap → Prop) : F_quorum_Quorum_promise_of f25_ f26_ f27_ f67_ q1 m2 m3 m4 m5 m6 m7 m8 m9 m10 m11 m12 m13 m14 m15 m16 m17 m18 m19 m20 m21 m22 m23 span24 h (fun (r0 : Sl) (h : Heap) => K (.slice r0.ptr r0.len r0.cap) h) =
    den Try.prog (fn1 25 (E_slices_Clone_cbaad_of f25_) (fn1 26 (E_quorum_Quorum_most_of f26_) (fn1 27 (E_quorum_Quorum_write_of f27_) (fn1 67 (E_quorum_above_of f67_) noFns)))) Try.f61.ntmps plan61 (bodyOf Try.f61) (args0 0 [(.pointer q1 : Value), (.agg #[.int .i64 m2, .int .i64 m3, .int .i64 m4, .int .i64 m5, .int .u64 m6, .int .u64 m7, .int .u64 m8, .int .u64 m9, .int .i64 m10, .int .u64 m11, .slice m12.ptr m12.len m12.cap, .int .i64 m13, .int .u64 m14, .string m15, .string m16, .int .u64 m17, .int .u64 m18, .int .u64 m19, .int .i64 m20, .int .i64 m21, .int .i64 m22, .int .i64 m23] : Value), (.int .i64 span24 : Value)]) h ⟨fun env h => dRes Try.prog Try.f61.results.toList env h K, fun _ _ _ => False, fun env h => dRes Try.prog Try.f61.results.toList env h K⟩ := by kernel_rfl
def E_quorum_Quorum_promise_of (f : Option Addr → Int → Int → Int → Int → Int → Int → Int → Int → Int → Int → Sl → Int → Int → ByteArray → ByteArray → Int → Int → Int → Int → Int → Int → Int → Int → Heap → (Sl → Heap → Prop) → Prop) : List Value → Heap → (Value → Heap → Prop) → Prop
  | [v0, v1, v2], h, K => dec1 .ptr v0 fun (q1 : Option Addr) =>
  vAgg v1 fun cs1 => decs [.int .i64, .int .i64, .int .i64, .int .i64, .int .u64, .int .u64, .int .u64, .int .u64, .int .i64, .int .u64, .sl, .int .i64, .int .u64, .str, .str, .int .u64, .int .u64, .int .u64, .int .i64, .int .i64, .int .i64, .int .i64] cs1.toList fun (m2 m3 m4 m5 m6 m7 m8 m9 m10 m11 : Int) (m12 : Sl) (m13 m14 : Int) (m15 m16 : ByteArray) (m17 m18 m19 m20 m21 m22 m23 : Int) =>
  dec1 (.int .i64) v2 fun (span24 : Int) =>
  f q1 m2 m3 m4 m5 m6 m7 m8 m9 m10 m11 m12 m13 m14 m15 m16 m17 m18 m19 m20 m21 m22 m23 span24 h (fun (r0 : Sl) (h : Heap) => K (.slice r0.ptr r0.len r0.cap) h)
  | _, _, _ => False
abbrev E_quorum_Quorum_promise := E_quorum_Quorum_promise_of F_quorum_Quorum_promise
theorem E_quorum_Quorum_promise.right : IsRight Try.prog 61 E_quorum_Quorum_promise := by
  refine isRight fun vs K w hh => ?_
  match vs, hh with
  | [v0, v1, v2], hh =>
    unfold E_quorum_Quorum_promise E_quorum_Quorum_promise_of at hh
    replace hh := dec1_sound hh; obtain ⟨q1, rfl, hh⟩ := hh
    replace hh := vAgg_sound hh; obtain ⟨cs1, rfl, hh⟩ := hh
    replace hh := decs_cons hh; obtain ⟨m2, l1_0, e1_0, hh⟩ := hh
    replace hh := decs_cons hh; obtain ⟨m3, l1_1, e1_1, hh⟩ := hh
    replace hh := decs_cons hh; obtain ⟨m4, l1_2, e1_2, hh⟩ := hh
    replace hh := decs_cons hh; obtain ⟨m5, l1_3, e1_3, hh⟩ := hh
    replace hh := decs_cons hh; obtain ⟨m6, l1_4, e1_4, hh⟩ := hh
    replace hh := decs_cons hh; obtain ⟨m7, l1_5, e1_5, hh⟩ := hh
    replace hh := decs_cons hh; obtain ⟨m8, l1_6, e1_6, hh⟩ := hh
    replace hh := decs_cons hh; obtain ⟨m9, l1_7, e1_7, hh⟩ := hh
    replace hh := decs_cons hh; obtain ⟨m10, l1_8, e1_8, hh⟩ := hh
    replace hh := decs_cons hh; obtain ⟨m11, l1_9, e1_9, hh⟩ := hh
    replace hh := decs_cons hh; obtain ⟨m12, l1_10, e1_10, hh⟩ := hh
    replace hh := decs_cons hh; obtain ⟨m13, l1_11, e1_11, hh⟩ := hh
    replace hh := decs_cons hh; obtain ⟨m14, l1_12, e1_12, hh⟩ := hh
    replace hh := decs_cons hh; obtain ⟨m15, l1_13, e1_13, hh⟩ := hh
    replace hh := decs_cons hh; obtain ⟨m16, l1_14, e1_14, hh⟩ := hh
    replace hh := decs_cons hh; obtain ⟨m17, l1_15, e1_15, hh⟩ := hh
    replace hh := decs_cons hh; obtain ⟨m18, l1_16, e1_16, hh⟩ := hh
    replace hh := decs_cons hh; obtain ⟨m19, l1_17, e1_17, hh⟩ := hh
    replace hh := decs_cons hh; obtain ⟨m20, l1_18, e1_18, hh⟩ := hh
    replace hh := decs_cons hh; obtain ⟨m21, l1_19, e1_19, hh⟩ := hh
    replace hh := decs_cons hh; obtain ⟨m22, l1_20, e1_20, hh⟩ := hh
    replace hh := decs_cons hh; obtain ⟨m23, l1_21, e1_21, hh⟩ := hh
    replace hh := decs_nil hh; obtain ⟨rfl, hh⟩ := hh
    subst e1_21
    subst e1_20
    subst e1_19
    subst e1_18
    subst e1_17
    subst e1_16
    subst e1_15
    subst e1_14
    subst e1_13
    subst e1_12
    subst e1_11
    subst e1_10
    subst e1_9
    subst e1_8
    subst e1_7
    subst e1_6
    subst e1_5
    subst e1_4
    subst e1_3
    subst e1_2
    subst e1_1
    have ec1 := toArray_eq e1_0
    subst ec1
    replace hh := dec1_sound hh; obtain ⟨span24, rfl, hh⟩ := hh
    unfold F_quorum_Quorum_promise at hh
    exact calls_den (fn1_right ok25 E_slices_Clone_cbaad.right (fn1_right ok26 E_quorum_Quorum_most.right (fn1_right ok27 E_quorum_Quorum_write.right (fn1_right ok67 E_quorum_above.right noFns_right)))) plan61 _ w K Try.func61 (by kernel_rfl) (by kernel_rfl) (Eq.mp (F_quorum_Quorum_promise.eq F_slices_Clone_cbaad F_quorum_Quorum_most F_quorum_Quorum_write F_quorum_above q1 m2 m3 m4 m5 m6 m7 m8 m9 m10 m11 m12 m13 m14 m15 m16 m17 m18 m19 m20 m21 m22 m23 span24 w.heap K) hh)
theorem ok61 : okFn Try.prog 61 = true := by kernel_rfl
end Go.Proofs.Ytigcpkejjjgkeaa.V
namespace Go.Proofs.Ytigcpkejjjgkeaa.V
open Go Go.RowKit
set_option linter.unusedVariables false
set_option maxRecDepth 100000
def F_quorum_Quorum_stored_of (f26_ : Option Addr → Int → Heap → (Bool → Heap → Prop) → Prop) (q1 : Option Addr) (m2 m3 m4 m5 m6 m7 m8 m9 m10 m11 : Int) (m12 : Sl) (m13 m14 : Int) (m15 m16 : ByteArray) (m17 m18 m19 m20 m21 m22 m23 x24 : Int) (h : Heap) (Q : Sl → Heap → Prop) : Prop :=
  al 66 [.int .i64 m2, .int .i64 m3, .int .i64 m4, .int .i64 m5, .int .u64 m6, .int .u64 m7, .int .u64 m8, .int .u64 m9, .int .i64 m10, .int .u64 m11, .slice m12.ptr m12.len m12.cap, .int .i64 m13, .int .u64 m14, .string m15, .string m16, .int .u64 m17, .int .u64 m18, .int .u64 m19, .int .i64 m20, .int .i64 m21, .int .i64 m22, .int .i64 m23] h fun (a25 : Addr) (h26 : Heap) =>
  jn [(20, .one .bool)] (fun (x35 : Bool) (h36 : Heap) =>
  jn [] (fun  (h60 : Heap) =>
  Q (⟨none, 0, 0⟩ : Sl) h60) (fun (j37 : Heap → Prop) =>
  brr x35
  (nn q1 fun (a38 : Addr) =>
  ld [.map] (a38.add 17) h36 fun (v39 : Option Nat) =>
  ld [.int .i64] ((a25.add 0).add 1) h36 fun (v40 : Int) =>
  mput .i64 v39 v40 (.bool true) h36 fun (h41 : Heap) =>
  nn q1 fun (a42 : Addr) =>
  ld [.map] (a42.add 17) h41 fun (v43 : Option Nat) =>
  mlen v43 h41 fun (n44 : Int) =>
  f26_ q1 n44 h41 fun (r45 : Bool) (h46 : Heap) =>
  jn [] (fun  (h59 : Heap) =>
  j37 h59) (fun (j47 : Heap → Prop) =>
  brr r45
  (nn q1 fun (a48 : Addr) =>
  ld [.int .u64, .int .u64] (a48.add 8) h46 fun (v49 v50 : Int) =>
  nn q1 fun (a51 : Addr) =>
  ld [.sl] (a51.add 10) h46 fun (v52 : Sl) =>
  nn q1 fun (a53 : Addr) =>
  st (a53.add 3) [.int .i64 3] h46 fun (h54 : Heap) =>
  nn q1 fun (a55 : Addr) =>
  st (a55.add 11) [.int .u64 v49, .int .u64 v50] h54 fun (h56 : Heap) =>
  nn q1 fun (a57 : Addr) =>
  st (a57.add 13) [.slice v52.ptr v52.len v52.cap] h56 fun (h58 : Heap) =>
  j47 h58)
  (j47 h46)))
  (j37 h36))) (fun (j27 : Bool → Heap → Prop) =>
  nn q1 fun (a28 : Addr) =>
  ld [.int .i64] (a28.add 3) h26 fun (v29 : Int) =>
  brr (v29 == 2)
  (ld [.int .u64, .int .u64] (a25.add 5) h26 fun (v30 v31 : Int) =>
  nn q1 fun (a32 : Addr) =>
  ld [.int .u64, .int .u64] (a32.add 8) h26 fun (v33 v34 : Int) =>
  j27 ((v30 == v33) && ((v31 == v34) && (true))) h26)
  (j27 false h26))
def F_quorum_Quorum_stored (q1 : Option Addr) (m2 m3 m4 m5 m6 m7 m8 m9 m10 m11 : Int) (m12 : Sl) (m13 m14 : Int) (m15 m16 : ByteArray) (m17 m18 m19 m20 m21 m22 m23 x24 : Int) (h : Heap) (Q : Sl → Heap → Prop) : Prop := F_quorum_Quorum_stored_of F_quorum_Quorum_most q1 m2 m3 m4 m5 m6 m7 m8 m9 m10 m11 m12 m13 m14 m15 m16 m17 m18 m19 m20 m21 m22 m23 x24 h Q
def plan62 : Plan := .s (.r [0, 4]) (.s (.s (.dj [0, 1, 3, 7, 15, 31, 63, 127, 63, 319, 831, 1855, 4095, 8191] [[0, 1, 2, 3, 4, 5, 6, 7, 8, 9, 10, 11, 12, 13]] [(20, .one .bool)] [0, 4]) (.cj [] [] (.s (.d [0, 1, 3, 7, 0, 16, 48, 127] [[0, 1, 2, 3, 4, 5, 6, 7]] [0]) (.s (.r [0, 34]) (.cj [] [] (.d [0, 0, 0, 0, 8, 24, 56, 0, 128, 384, 896, 2041, 4089, 8185, 16379, 32763, 65531, 131071, 262143, 524287] [[0, 1, 2, 3, 4, 5, 6, 7, 8, 9, 10, 11, 12, 13, 14, 15, 16, 17, 18, 19]] []) .z))) .z)) (.s (.r [6]) .z))
theorem F_quorum_Quorum_stored.eq (f26_ : Option Addr → Int → Heap → (Bool → Heap → Prop) → Prop) (q1 : Option Addr) (m2 m3 m4 m5 m6 m7 m8 m9 m10 m11 : Int) (m12 : Sl) (m13 m14 : Int) (m15 m16 : ByteArray) (m17 m18 m19 m20 m21 m22 m23 x24 : Int) (h : Heap) (K : Value → Heap → Prop) : F_quorum_Quorum_stored_of f26_ q1 m2 m3 m4 m5 m6 m7 m8 m9 m10 m11 m12 m13 m14 m15 m16 m17 m18 m19 m20 m21 m22 m23 x24 h (fun (r0 : Sl) (h : Heap) => K (.slice r0.ptr r0.len r0.cap) h) =
    den Try.prog (fn1 26 (E_quorum_Quorum_most_of f26_) noFns) Try.f62.ntmps plan62 (bodyOf Try.f62) (args0 0 [(.pointer q1 : Value), (.agg #[.int .i64 m2, .int .i64 m3, .int .i64 m4, .int .i64 m5, .int .u64 m6, .int .u64 m7, .int .u64 m8, .int .u64 m9, .int .i64 m10, .int .u64 m11, .slice m12.ptr m12.len m12.cap, .int .i64 m13, .int .u64 m14, .string m15, .string m16, .int .u64 m17, .int .u64 m18, .int .u64 m19, .int .i64 m20, .int .i64 m21, .int .i64 m22, .int .i64 m23] : Value), (.int .i64 x24 : Value)]) h ⟨fun env h => dRes Try.prog Try.f62.results.toList env h K, fun _ _ _ => False, fun env h => dRes Try.prog Try.f62.results.toList env h K⟩ := by kernel_rfl
def E_quorum_Quorum_stored_of (f : Option Addr → Int → Int → Int → Int → Int → Int → Int → Int → Int → Int → Sl → Int → Int → ByteArray → ByteArray → Int → Int → Int → Int → Int → Int → Int → Int → Heap → (Sl → Heap → Prop) → Prop) : List Value → Heap → (Value → Heap → Prop) → Prop
  | [v0, v1, v2], h, K => dec1 .ptr v0 fun (q1 : Option Addr) =>
  vAgg v1 fun cs1 => decs [.int .i64, .int .i64, .int .i64, .int .i64, .int .u64, .int .u64, .int .u64, .int .u64, .int .i64, .int .u64, .sl, .int .i64, .int .u64, .str, .str, .int .u64, .int .u64, .int .u64, .int .i64, .int .i64, .int .i64, .int .i64] cs1.toList fun (m2 m3 m4 m5 m6 m7 m8 m9 m10 m11 : Int) (m12 : Sl) (m13 m14 : Int) (m15 m16 : ByteArray) (m17 m18 m19 m20 m21 m22 m23 : Int) =>
  dec1 (.int .i64) v2 fun (x24 : Int) =>
  f q1 m2 m3 m4 m5 m6 m7 m8 m9 m10 m11 m12 m13 m14 m15 m16 m17 m18 m19 m20 m21 m22 m23 x24 h (fun (r0 : Sl) (h : Heap) => K (.slice r0.ptr r0.len r0.cap) h)
  | _, _, _ => False
abbrev E_quorum_Quorum_stored := E_quorum_Quorum_stored_of F_quorum_Quorum_stored
theorem E_quorum_Quorum_stored.right : IsRight Try.prog 62 E_quorum_Quorum_stored := by
  refine isRight fun vs K w hh => ?_
  match vs, hh with
  | [v0, v1, v2], hh =>
    unfold E_quorum_Quorum_stored E_quorum_Quorum_stored_of at hh
    replace hh := dec1_sound hh; obtain ⟨q1, rfl, hh⟩ := hh
    replace hh := vAgg_sound hh; obtain ⟨cs1, rfl, hh⟩ := hh
    replace hh := decs_cons hh; obtain ⟨m2, l1_0, e1_0, hh⟩ := hh
    replace hh := decs_cons hh; obtain ⟨m3, l1_1, e1_1, hh⟩ := hh
    replace hh := decs_cons hh; obtain ⟨m4, l1_2, e1_2, hh⟩ := hh
    replace hh := decs_cons hh; obtain ⟨m5, l1_3, e1_3, hh⟩ := hh
    replace hh := decs_cons hh; obtain ⟨m6, l1_4, e1_4, hh⟩ := hh
    replace hh := decs_cons hh; obtain ⟨m7, l1_5, e1_5, hh⟩ := hh
    replace hh := decs_cons hh; obtain ⟨m8, l1_6, e1_6, hh⟩ := hh
    replace hh := decs_cons hh; obtain ⟨m9, l1_7, e1_7, hh⟩ := hh
    replace hh := decs_cons hh; obtain ⟨m10, l1_8, e1_8, hh⟩ := hh
    replace hh := decs_cons hh; obtain ⟨m11, l1_9, e1_9, hh⟩ := hh
    replace hh := decs_cons hh; obtain ⟨m12, l1_10, e1_10, hh⟩ := hh
    replace hh := decs_cons hh; obtain ⟨m13, l1_11, e1_11, hh⟩ := hh
    replace hh := decs_cons hh; obtain ⟨m14, l1_12, e1_12, hh⟩ := hh
    replace hh := decs_cons hh; obtain ⟨m15, l1_13, e1_13, hh⟩ := hh
    replace hh := decs_cons hh; obtain ⟨m16, l1_14, e1_14, hh⟩ := hh
    replace hh := decs_cons hh; obtain ⟨m17, l1_15, e1_15, hh⟩ := hh
    replace hh := decs_cons hh; obtain ⟨m18, l1_16, e1_16, hh⟩ := hh
    replace hh := decs_cons hh; obtain ⟨m19, l1_17, e1_17, hh⟩ := hh
    replace hh := decs_cons hh; obtain ⟨m20, l1_18, e1_18, hh⟩ := hh
    replace hh := decs_cons hh; obtain ⟨m21, l1_19, e1_19, hh⟩ := hh
    replace hh := decs_cons hh; obtain ⟨m22, l1_20, e1_20, hh⟩ := hh
    replace hh := decs_cons hh; obtain ⟨m23, l1_21, e1_21, hh⟩ := hh
    replace hh := decs_nil hh; obtain ⟨rfl, hh⟩ := hh
    subst e1_21
    subst e1_20
    subst e1_19
    subst e1_18
    subst e1_17
    subst e1_16
    subst e1_15
    subst e1_14
    subst e1_13
    subst e1_12
    subst e1_11
    subst e1_10
    subst e1_9
    subst e1_8
    subst e1_7
    subst e1_6
    subst e1_5
    subst e1_4
    subst e1_3
    subst e1_2
    subst e1_1
    have ec1 := toArray_eq e1_0
    subst ec1
    replace hh := dec1_sound hh; obtain ⟨x24, rfl, hh⟩ := hh
    unfold F_quorum_Quorum_stored at hh
    exact calls_den (fn1_right ok26 E_quorum_Quorum_most.right noFns_right) plan62 _ w K Try.func62 (by kernel_rfl) (by kernel_rfl) (Eq.mp (F_quorum_Quorum_stored.eq F_quorum_Quorum_most q1 m2 m3 m4 m5 m6 m7 m8 m9 m10 m11 m12 m13 m14 m15 m16 m17 m18 m19 m20 m21 m22 m23 x24 w.heap K) hh)
theorem ok62 : okFn Try.prog 62 = true := by kernel_rfl
end Go.Proofs.Ytigcpkejjjgkeaa.V
namespace Go.Proofs.Ytigcpkejjjgkeaa.V
open Go Go.RowKit
set_option linter.unusedVariables false
set_option maxRecDepth 100000
def F_quorum_Quorum_Stop.l1 (a26 : Addr) (j28 : Heap → Prop) : Int → Heap → Prop :=
  wl [(48, .one (.int .i64))] (fun (next29 : Int → Heap → Prop) (x30 : Int) (h31 : Heap) =>
  brr (decide (x30 < ((4 : Nat) : Int)))
  (ixS 1 ⟨(some a26), 4, 4⟩ x30 fun (a32 : Addr) =>
  ld [.map] a32 h31 fun (v33 : Option Nat) =>
  mclr v33 h31 fun (h35 : Heap) =>
  next29 (IntKind.i64.wrap (x30 + 1)) h35)
  (j28 h31))
def F_quorum_Quorum_Stop_of  (q1 : Option Addr) (h : Heap) (Q : Heap → Prop) : Prop :=
  nn q1 fun (a2 : Addr) =>
  st (a2.add 3) [.int .i64 0] h fun (h3 : Heap) =>
  nn q1 fun (a4 : Addr) =>
  st (a4.add 4) [.int .u64 0] h3 fun (h5 : Heap) =>
  nn q1 fun (a6 : Addr) =>
  st (a6.add 8) [.int .u64 0, .int .u64 0] h5 fun (h7 : Heap) =>
  nn q1 fun (a8 : Addr) =>
  st (a8.add 11) [.int .u64 0, .int .u64 0] h7 fun (h9 : Heap) =>
  nn q1 fun (a10 : Addr) =>
  st (a10.add 10) [.slice none 0 0] h9 fun (h11 : Heap) =>
  nn q1 fun (a12 : Addr) =>
  st (a12.add 13) [.slice none 0 0] h11 fun (h13 : Heap) =>
  nn q1 fun (a14 : Addr) =>
  st (a14.add 14) [.int .u64 0] h13 fun (h15 : Heap) =>
  nn q1 fun (a16 : Addr) =>
  st (a16.add 15) [.int .u64 0] h15 fun (h17 : Heap) =>
  nn q1 fun (a18 : Addr) =>
  ld [.map] (a18.add 16) h17 fun (v19 : Option Nat) =>
  nn q1 fun (a20 : Addr) =>
  ld [.map] (a20.add 17) h17 fun (v21 : Option Nat) =>
  nn q1 fun (a22 : Addr) =>
  ld [.map] (a22.add 18) h17 fun (v23 : Option Nat) =>
  nn q1 fun (a24 : Addr) =>
  ld [.map] (a24.add 19) h17 fun (v25 : Option Nat) =>
  al 78 [.map v19, .map v21, .map v23, .map v25] h17 fun (a26 : Addr) (h27 : Heap) =>
  jn [] (fun  (h36 : Heap) =>
  Q h36) (fun (j28 : Heap → Prop) =>
  F_quorum_Quorum_Stop.l1 a26 j28 0 h27)
def F_quorum_Quorum_Stop (q1 : Option Addr) (h : Heap) (Q : Heap → Prop) : Prop := F_quorum_Quorum_Stop_of  q1 h Q
def plan22 : Plan := .s (.r [0]) (.s (.r [0]) (.s (.r [0]) (.s (.d [0, 1, 3, 7, 0, 16, 48, 112, 0, 256, 768, 1792, 0, 4096, 12288, 28672, 65535, 131071, 0] [[0, 1, 2, 3, 4, 5, 6, 7, 8, 9, 10, 11, 12, 13, 14, 15, 18, 16, 17]] [46, 47, 48]) (.bj [] [] (.l [(48, .one (.int .i64))] [46, 47] (.s (.r [46, 47, 48, 49]) (.s (.c .z .z) (.s (.b (.s (.r [3, 46, 47, 48]) (.r [46, 47, 48]))) (.r [46, 47, 48])))))))))
theorem F_quorum_Quorum_Stop.eq  (q1 : Option Addr) (h : Heap) (K : Value → Heap → Prop) : F_quorum_Quorum_Stop_of  q1 h (fun  (h : Heap) => K (.tuple #[]) h) =
    den Try.prog noFns Try.f22.ntmps plan22 (bodyOf Try.f22) (args0 0 [(.pointer q1 : Value)]) h ⟨fun env h => dRes Try.prog Try.f22.results.toList env h K, fun _ _ _ => False, fun env h => dRes Try.prog Try.f22.results.toList env h K⟩ := by kernel_rfl
def E_quorum_Quorum_Stop_of (f : Option Addr → Heap → (Heap → Prop) → Prop) : List Value → Heap → (Value → Heap → Prop) → Prop
  | [v0], h, K => dec1 .ptr v0 fun (q1 : Option Addr) =>
  f q1 h (fun  (h : Heap) => K (.tuple #[]) h)
  | _, _, _ => False
abbrev E_quorum_Quorum_Stop := E_quorum_Quorum_Stop_of F_quorum_Quorum_Stop
theorem E_quorum_Quorum_Stop.right : IsRight Try.prog 22 E_quorum_Quorum_Stop := by
  refine isRight fun vs K w hh => ?_
  match vs, hh with
  | [v0], hh =>
    unfold E_quorum_Quorum_Stop E_quorum_Quorum_Stop_of at hh
    replace hh := dec1_sound hh; obtain ⟨q1, rfl, hh⟩ := hh
    unfold F_quorum_Quorum_Stop at hh
    exact calls_den noFns_right plan22 _ w K Try.func22 (by kernel_rfl) (by kernel_rfl) (Eq.mp (F_quorum_Quorum_Stop.eq  q1 w.heap K) hh)
theorem ok22 : okFn Try.prog 22 = true := by kernel_rfl
end Go.Proofs.Ytigcpkejjjgkeaa.V
namespace Go.Proofs.Ytigcpkejjjgkeaa.V
open Go Go.RowKit
set_option linter.unusedVariables false
set_option maxRecDepth 100000
def F_quorum_Quorum_Holds_of  (q1 : Option Addr) (h : Heap) (Q : Bool → Heap → Prop) : Prop :=
  jn [(2, .one .bool)] (fun (x9 : Bool) (h10 : Heap) =>
  Q x9 h10) (fun (j2 : Bool → Heap → Prop) =>
  nn q1 fun (a3 : Addr) =>
  ld [.int .i64] (a3.add 3) h fun (v4 : Int) =>
  brr (v4 == 3)
  (j2 true h)
  (nn q1 fun (a5 : Addr) =>
  ld [.int .i64] (a5.add 3) h fun (v6 : Int) =>
  brr (v6 == 2)
  (nn q1 fun (a7 : Addr) =>
  ld [.int .u64] ((a7.add 8).add 1) h fun (v8 : Int) =>
  j2 (decide (v8 > 1)) h)
  (j2 false h)))
def F_quorum_Quorum_Holds (q1 : Option Addr) (h : Heap) (Q : Bool → Heap → Prop) : Prop := F_quorum_Quorum_Holds_of  q1 h Q
def plan30 : Plan := .s (.r [0]) (.s (.rj [(2, .one .bool)] []) .z)
theorem F_quorum_Quorum_Holds.eq  (q1 : Option Addr) (h : Heap) (K : Value → Heap → Prop) : F_quorum_Quorum_Holds_of  q1 h (fun (r0 : Bool) (h : Heap) => K (.bool r0) h) =
    den Try.prog noFns Try.f30.ntmps plan30 (bodyOf Try.f30) (args0 0 [(.pointer q1 : Value)]) h ⟨fun env h => dRes Try.prog Try.f30.results.toList env h K, fun _ _ _ => False, fun env h => dRes Try.prog Try.f30.results.toList env h K⟩ := by kernel_rfl
def E_quorum_Quorum_Holds_of (f : Option Addr → Heap → (Bool → Heap → Prop) → Prop) : List Value → Heap → (Value → Heap → Prop) → Prop
  | [v0], h, K => dec1 .ptr v0 fun (q1 : Option Addr) =>
  f q1 h (fun (r0 : Bool) (h : Heap) => K (.bool r0) h)
  | _, _, _ => False
abbrev E_quorum_Quorum_Holds := E_quorum_Quorum_Holds_of F_quorum_Quorum_Holds
theorem E_quorum_Quorum_Holds.right : IsRight Try.prog 30 E_quorum_Quorum_Holds := by
  refine isRight fun vs K w hh => ?_
  match vs, hh with
  | [v0], hh =>
    unfold E_quorum_Quorum_Holds E_quorum_Quorum_Holds_of at hh
    replace hh := dec1_sound hh; obtain ⟨q1, rfl, hh⟩ := hh
    unfold F_quorum_Quorum_Holds at hh
    exact calls_den noFns_right plan30 _ w K Try.func30 (by kernel_rfl) (by kernel_rfl) (Eq.mp (F_quorum_Quorum_Holds.eq  q1 w.heap K) hh)
theorem ok30 : okFn Try.prog 30 = true := by kernel_rfl
end Go.Proofs.Ytigcpkejjjgkeaa.V
namespace Go.Proofs.Ytigcpkejjjgkeaa.V
open Go Go.RowKit
set_option linter.unusedVariables false
set_option maxRecDepth 100000
def F_quorum_Quorum_refuse_of (f22_ : Option Addr → Heap → (Heap → Prop) → Prop) (f26_ : Option Addr → Int → Heap → (Bool → Heap → Prop) → Prop) (f30_ : Option Addr → Heap → (Bool → Heap → Prop) → Prop) (q1 : Option Addr) (m2 m3 m4 m5 m6 m7 m8 m9 m10 m11 : Int) (m12 : Sl) (m13 m14 : Int) (m15 m16 : ByteArray) (m17 m18 m19 m20 m21 m22 m23 x24 : Int) (h : Heap) (Q : Sl → Heap → Prop) : Prop :=
  al 66 [.int .i64 m2, .int .i64 m3, .int .i64 m4, .int .i64 m5, .int .u64 m6, .int .u64 m7, .int .u64 m8, .int .u64 m9, .int .i64 m10, .int .u64 m11, .slice m12.ptr m12.len m12.cap, .int .i64 m13, .int .u64 m14, .string m15, .string m16, .int .u64 m17, .int .u64 m18, .int .u64 m19, .int .i64 m20, .int .i64 m21, .int .i64 m22, .int .i64 m23] h fun (a25 : Addr) (h26 : Heap) =>
  nn q1 fun (a27 : Addr) =>
  ld [.int .u64] (a27.add 5) h26 fun (v28 : Int) =>
  ld [.int .u64] (a25.add 9) h26 fun (v29 : Int) =>
  nn q1 fun (a30 : Addr) =>
  st (a30.add 5) [.int .u64 (if v29 > v28 then v29 else v28)] h26 fun (h31 : Heap) =>
  jn [(39, .one .bool)] (fun (x41 : Bool) (h42 : Heap) =>
  brr x41
  (Q (⟨none, 0, 0⟩ : Sl) h42)
  (nn q1 fun (a43 : Addr) =>
  ld [.map] (a43.add 18) h42 fun (v44 : Option Nat) =>
  ld [.int .i64] ((a25.add 0).add 1) h42 fun (v45 : Int) =>
  mput .i64 v44 v45 (.bool true) h42 fun (h46 : Heap) =>
  jn [(65, .one .bool)] (fun (x57 : Bool) (h58 : Heap) =>
  jn [] (fun  (h61 : Heap) =>
  Q (⟨none, 0, 0⟩ : Sl) h61) (fun (j59 : Heap → Prop) =>
  brr x57
  (f22_ q1 h58 fun  (h60 : Heap) =>
  j59 h60)
  (j59 h58))) (fun (j47 : Bool → Heap → Prop) =>
  f30_ q1 h46 fun (r48 : Bool) (h49 : Heap) =>
  brr (!r48)
  (j47 true h49)
  (nn q1 fun (a50 : Addr) =>
  ld [.sl] (a50.add 2) h49 fun (v51 : Sl) =>
  nn q1 fun (a52 : Addr) =>
  ld [.map] (a52.add 18) h49 fun (v53 : Option Nat) =>
  mlen v53 h49 fun (n54 : Int) =>
  f26_ q1 (IntKind.i64.wrap (((v51.len : Nat) : Int) - n54)) h49 fun (r55 : Bool) (h56 : Heap) =>
  j47 (!r55) h56)))) (fun (j32 : Bool → Heap → Prop) =>
  nn q1 fun (a33 : Addr) =>
  ld [.int .i64] (a33.add 3) h31 fun (v34 : Int) =>
  brr (v34 == 0)
  (j32 true h31)
  (ld [.int .u64] (a25.add 4) h31 fun (v35 : Int) =>
  nn q1 fun (a36 : Addr) =>
  ld [.int .u64] (a36.add 4) h31 fun (v37 : Int) =>
  brr (v35 != v37)
  (j32 true h31)
  (ld [.int .u64] (a25.add 9) h31 fun (v38 : Int) =>
  nn q1 fun (a39 : Addr) =>
  ld [.int .u64] (a39.add 4) h31 fun (v40 : Int) =>
  j32 (decide (v38 ≤ v40)) h31)))
def F_quorum_Quorum_refuse (q1 : Option Addr) (m2 m3 m4 m5 m6 m7 m8 m9 m10 m11 : Int) (m12 : Sl) (m13 m14 : Int) (m15 m16 : ByteArray) (m17 m18 m19 m20 m21 m22 m23 x24 : Int) (h : Heap) (Q : Sl → Heap → Prop) : Prop := F_quorum_Quorum_refuse_of F_quorum_Quorum_Stop F_quorum_Quorum_most F_quorum_Quorum_Holds q1 m2 m3 m4 m5 m6 m7 m8 m9 m10 m11 m12 m13 m14 m15 m16 m17 m18 m19 m20 m21 m22 m23 x24 h Q
def plan63 : Plan := .s (.r [0, 4]) (.s (.d [0, 0, 2, 6, 14, 0, 32, 126, 255, 511, 1023] [[0, 1, 2, 3, 4, 5, 6, 7, 8, 9, 10]] [0, 4]) (.s (.s (.dj [0, 1, 3, 7, 15, 31, 63, 127, 63, 319, 831, 1855, 4095, 8191, 16383, 32767, 65535, 32767, 163839, 425983, 950271, 2097151, 4194303] [[0, 1, 2, 3, 4, 5, 6, 7, 8, 9, 10, 11, 12, 13, 14, 15, 16, 17, 18, 19, 20, 21, 22]] [(39, .one .bool)] [0, 4]) (.c (.s (.r [6]) .z) .z)) (.s (.d [0, 1, 3, 7, 0, 16, 48, 127] [[0, 1, 2, 3, 4, 5, 6, 7]] [0]) (.s (.s (.dj [0, 1, 3, 7, 15, 15, 47, 111, 239, 495, 15, 1039, 3087, 7183, 15375, 32751, 65535, 131071, 262143] [[0, 1, 2, 3, 4, 5, 6, 7, 8, 9, 10, 11, 12, 13, 14, 15, 16, 17, 18]] [(65, .one .bool)] [0]) (.cj [] [] (.r []) .z)) (.s (.r [6]) .z)))))
theorem F_quorum_Quorum_refuse.eq (f22_ : Option Addr → Heap → (Heap → Prop) → Prop) (f26_ : Option Addr → Int → Heap → (Bool → Heap → Prop) → Prop) (f30_ : Option Addr → Heap → (Bool → Heap → Prop) → Prop) (q1 : Option Addr) (m2 m3 m4 m5 m6 m7 m8 m9 m10 m11 : Int) (m12 : Sl) (m13 m14 : Int) (m15 m16 : ByteArray) (m17 m18 m19 m20 m21 m22 m23 x24 : Int) (h : Heap) (K : Value → Heap → Prop) : F_quorum_Quorum_refuse_of f22_ f26_ f30_ q1 m2 m3 m4 m5 m6 m7 m8 m9 m10 m11 m12 m13 m14 m15 m16 m17 m18 m19 m20 m21 m22 m23 x24 h (fun (r0 : Sl) (h : Heap) => K (.slice r0.ptr r0.len r0.cap) h) =
    den Try.prog (fn1 22 (E_quorum_Quorum_Stop_of f22_) (fn1 26 (E_quorum_Quorum_most_of f26_) (fn1 30 (E_quorum_Quorum_Holds_of f30_) noFns))) Try.f63.ntmps plan63 (bodyOf Try.f63) (args0 0 [(.pointer q1 : Value), (.agg #[.int .i64 m2, .int .i64 m3, .int .i64 m4, .int .i64 m5, .int .u64 m6, .int .u64 m7, .int .u64 m8, .int .u64 m9, .int .i64 m10, .int .u64 m11, .slice m12.ptr m12.len m12.cap, .int .i64 m13, .int .u64 m14, .string m15, .string m16, .int .u64 m17, .int .u64 m18, .int .u64 m19, .int .i64 m20, .int .i64 m21, .int .i64 m22, .int .i64 m23] : Value), (.int .i64 x24 : Value)]) h ⟨fun env h => dRes Try.prog Try.f63.results.toList env h K, fun _ _ _ => False, fun env h => dRes Try.prog Try.f63.results.toList env h K⟩ := by kernel_rfl
def E_quorum_Quorum_refuse_of (f : Option Addr → Int → Int → Int → Int → Int → Int → Int → Int → Int → Int → Sl → Int → Int → ByteArray → ByteArray → Int → Int → Int → Int → Int → Int → Int → Int → Heap → (Sl → Heap → Prop) → Prop) : List Value → Heap → (Value → Heap → Prop) → Prop
  | [v0, v1, v2], h, K => dec1 .ptr v0 fun (q1 : Option Addr) =>
  vAgg v1 fun cs1 => decs [.int .i64, .int .i64, .int .i64, .int .i64, .int .u64, .int .u64, .int .u64, .int .u64, .int .i64, .int .u64, .sl, .int .i64, .int .u64, .str, .str, .int .u64, .int .u64, .int .u64, .int .i64, .int .i64, .int .i64, .int .i64] cs1.toList fun (m2 m3 m4 m5 m6 m7 m8 m9 m10 m11 : Int) (m12 : Sl) (m13 m14 : Int) (m15 m16 : ByteArray) (m17 m18 m19 m20 m21 m22 m23 : Int) =>
  dec1 (.int .i64) v2 fun (x24 : Int) =>
  f q1 m2 m3 m4 m5 m6 m7 m8 m9 m10 m11 m12 m13 m14 m15 m16 m17 m18 m19 m20 m21 m22 m23 x24 h (fun (r0 : Sl) (h : Heap) => K (.slice r0.ptr r0.len r0.cap) h)
  | _, _, _ => False
abbrev E_quorum_Quorum_refuse := E_quorum_Quorum_refuse_of F_quorum_Quorum_refuse
theorem E_quorum_Quorum_refuse.right : IsRight Try.prog 63 E_quorum_Quorum_refuse := by
  refine isRight fun vs K w hh => ?_
  match vs, hh with
  | [v0, v1, v2], hh =>
    unfold E_quorum_Quorum_refuse E_quorum_Quorum_refuse_of at hh
    replace hh := dec1_sound hh; obtain ⟨q1, rfl, hh⟩ := hh
    replace hh := vAgg_sound hh; obtain ⟨cs1, rfl, hh⟩ := hh
    replace hh := decs_cons hh; obtain ⟨m2, l1_0, e1_0, hh⟩ := hh
    replace hh := decs_cons hh; obtain ⟨m3, l1_1, e1_1, hh⟩ := hh
    replace hh := decs_cons hh; obtain ⟨m4, l1_2, e1_2, hh⟩ := hh
    replace hh := decs_cons hh; obtain ⟨m5, l1_3, e1_3, hh⟩ := hh
    replace hh := decs_cons hh; obtain ⟨m6, l1_4, e1_4, hh⟩ := hh
    replace hh := decs_cons hh; obtain ⟨m7, l1_5, e1_5, hh⟩ := hh
    replace hh := decs_cons hh; obtain ⟨m8, l1_6, e1_6, hh⟩ := hh
    replace hh := decs_cons hh; obtain ⟨m9, l1_7, e1_7, hh⟩ := hh
    replace hh := decs_cons hh; obtain ⟨m10, l1_8, e1_8, hh⟩ := hh
    replace hh := decs_cons hh; obtain ⟨m11, l1_9, e1_9, hh⟩ := hh
    replace hh := decs_cons hh; obtain ⟨m12, l1_10, e1_10, hh⟩ := hh
    replace hh := decs_cons hh; obtain ⟨m13, l1_11, e1_11, hh⟩ := hh
    replace hh := decs_cons hh; obtain ⟨m14, l1_12, e1_12, hh⟩ := hh
    replace hh := decs_cons hh; obtain ⟨m15, l1_13, e1_13, hh⟩ := hh
    replace hh := decs_cons hh; obtain ⟨m16, l1_14, e1_14, hh⟩ := hh
    replace hh := decs_cons hh; obtain ⟨m17, l1_15, e1_15, hh⟩ := hh
    replace hh := decs_cons hh; obtain ⟨m18, l1_16, e1_16, hh⟩ := hh
    replace hh := decs_cons hh; obtain ⟨m19, l1_17, e1_17, hh⟩ := hh
    replace hh := decs_cons hh; obtain ⟨m20, l1_18, e1_18, hh⟩ := hh
    replace hh := decs_cons hh; obtain ⟨m21, l1_19, e1_19, hh⟩ := hh
    replace hh := decs_cons hh; obtain ⟨m22, l1_20, e1_20, hh⟩ := hh
    replace hh := decs_cons hh; obtain ⟨m23, l1_21, e1_21, hh⟩ := hh
    replace hh := decs_nil hh; obtain ⟨rfl, hh⟩ := hh
    subst e1_21
    subst e1_20
    subst e1_19
    subst e1_18
    subst e1_17
    subst e1_16
    subst e1_15
    subst e1_14
    subst e1_13
    subst e1_12
    subst e1_11
    subst e1_10
    subst e1_9
    subst e1_8
    subst e1_7
    subst e1_6
    subst e1_5
    subst e1_4
    subst e1_3
    subst e1_2
    subst e1_1
    have ec1 := toArray_eq e1_0
    subst ec1
    replace hh := dec1_sound hh; obtain ⟨x24, rfl, hh⟩ := hh
    unfold F_quorum_Quorum_refuse at hh
    exact calls_den (fn1_right ok22 E_quorum_Quorum_Stop.right (fn1_right ok26 E_quorum_Quorum_most.right (fn1_right ok30 E_quorum_Quorum_Holds.right noFns_right))) plan63 _ w K Try.func63 (by kernel_rfl) (by kernel_rfl) (Eq.mp (F_quorum_Quorum_refuse.eq F_quorum_Quorum_Stop F_quorum_Quorum_most F_quorum_Quorum_Holds q1 m2 m3 m4 m5 m6 m7 m8 m9 m10 m11 m12 m13 m14 m15 m16 m17 m18 m19 m20 m21 m22 m23 x24 w.heap K) hh)
theorem ok63 : okFn Try.prog 63 = true := by kernel_rfl
end Go.Proofs.Ytigcpkejjjgkeaa.V
namespace Go.Proofs.Ytigcpkejjjgkeaa.V
open Go Go.RowKit
set_option linter.unusedVariables false
set_option maxRecDepth 100000
def F_quorum_Quorum_beat_of (f26_ : Option Addr → Int → Heap → (Bool → Heap → Prop) → Prop) (f30_ : Option Addr → Heap → (Bool → Heap → Prop) → Prop) (q1 : Option Addr) (m2 m3 m4 m5 m6 m7 m8 m9 m10 m11 : Int) (m12 : Sl) (m13 m14 : Int) (m15 m16 : ByteArray) (m17 m18 m19 m20 m21 m22 m23 x24 : Int) (h : Heap) (Q : Sl → Heap → Prop) : Prop :=
  al 66 [.int .i64 m2, .int .i64 m3, .int .i64 m4, .int .i64 m5, .int .u64 m6, .int .u64 m7, .int .u64 m8, .int .u64 m9, .int .i64 m10, .int .u64 m11, .slice m12.ptr m12.len m12.cap, .int .i64 m13, .int .u64 m14, .string m15, .string m16, .int .u64 m17, .int .u64 m18, .int .u64 m19, .int .i64 m20, .int .i64 m21, .int .i64 m22, .int .i64 m23] h fun (a25 : Addr) (h26 : Heap) =>
  jn [(37, .one .bool)] (fun (x40 : Bool) (h41 : Heap) =>
  jn [] (fun  (h58 : Heap) =>
  Q (⟨none, 0, 0⟩ : Sl) h58) (fun (j42 : Heap → Prop) =>
  brr x40
  (nn q1 fun (a43 : Addr) =>
  ld [.map] (a43.add 19) h41 fun (v44 : Option Nat) =>
  ld [.int .i64] ((a25.add 0).add 1) h41 fun (v45 : Int) =>
  mput .i64 v44 v45 (.bool true) h41 fun (h46 : Heap) =>
  nn q1 fun (a47 : Addr) =>
  ld [.map] (a47.add 19) h46 fun (v48 : Option Nat) =>
  mlen v48 h46 fun (n49 : Int) =>
  f26_ q1 n49 h46 fun (r50 : Bool) (h51 : Heap) =>
  jn [] (fun  (h57 : Heap) =>
  j42 h57) (fun (j52 : Heap → Prop) =>
  brr r50
  (nn q1 fun (a53 : Addr) =>
  ld [.int .u64] (a53.add 14) h51 fun (v54 : Int) =>
  nn q1 fun (a55 : Addr) =>
  st (a55.add 15) [.int .u64 v54] h51 fun (h56 : Heap) =>
  j52 h56)
  (j52 h51)))
  (j42 h41))) (fun (j27 : Bool → Heap → Prop) =>
  f30_ q1 h26 fun (r28 : Bool) (h29 : Heap) =>
  brr r28
  (nn q1 fun (a30 : Addr) =>
  ld [.int .u64] (a30.add 14) h29 fun (v31 : Int) =>
  nn q1 fun (a32 : Addr) =>
  ld [.int .u64] (a32.add 15) h29 fun (v33 : Int) =>
  brr (v31 != v33)
  (ld [.int .u64] (a25.add 4) h29 fun (v34 : Int) =>
  nn q1 fun (a35 : Addr) =>
  ld [.int .u64] (a35.add 4) h29 fun (v36 : Int) =>
  brr (v34 == v36)
  (ld [.int .u64] (a25.add 7) h29 fun (v37 : Int) =>
  nn q1 fun (a38 : Addr) =>
  ld [.int .u64] (a38.add 14) h29 fun (v39 : Int) =>
  j27 (v37 == v39) h29)
  (j27 false h29))
  (j27 false h29))
  (j27 false h29))
def F_quorum_Quorum_beat (q1 : Option Addr) (m2 m3 m4 m5 m6 m7 m8 m9 m10 m11 : Int) (m12 : Sl) (m13 m14 : Int) (m15 m16 : ByteArray) (m17 m18 m19 m20 m21 m22 m23 x24 : Int) (h : Heap) (Q : Sl → Heap → Prop) : Prop := F_quorum_Quorum_beat_of F_quorum_Quorum_most F_quorum_Quorum_Holds q1 m2 m3 m4 m5 m6 m7 m8 m9 m10 m11 m12 m13 m14 m15 m16 m17 m18 m19 m20 m21 m22 m23 x24 h Q
def plan64 : Plan := .s (.r [0, 4]) (.s (.s (.dj [0, 1, 3, 7, 15, 31, 63, 7, 135, 391, 903, 2047, 4095, 8191, 16383, 32767, 16383, 81919, 212991, 475135, 1048575, 2097151, 4194303, 8388607, 16777215, 8388607, 41943039, 109051903, 243269631, 536870911, 1073741823] [[0, 1, 2, 3, 4, 5, 6, 7, 8, 9, 10, 11, 12, 13, 14, 15, 16, 17, 18, 19, 20, 21, 22, 23, 24, 25, 26, 27, 28, 29, 30]] [(37, .one .bool)] [0, 4]) (.cj [] [] (.s (.d [0, 1, 3, 7, 0, 16, 48, 127] [[0, 1, 2, 3, 4, 5, 6, 7]] [0]) (.s (.r [0, 51]) (.cj [] [] (.r []) .z))) .z)) (.s (.r [6]) .z))
theorem F_quorum_Quorum_beat.eq (f26_ : Option Addr → Int → Heap → (Bool → Heap → Prop) → Prop) (f30_ : Option Addr → Heap → (Bool → Heap → Prop) → Prop) (q1 : Option Addr) (m2 m3 m4 m5 m6 m7 m8 m9 m10 m11 : Int) (m12 : Sl) (m13 m14 : Int) (m15 m16 : ByteArray) (m17 m18 m19 m20 m21 m22 m23 x24 : Int) (h : Heap) (K : Value → Heap → Prop) : F_quorum_Quorum_beat_of f26_ f30_ q1 m2 m3 m4 m5 m6 m7 m8 m9 m10 m11 m12 m13 m14 m15 m16 m17 m18 m19 m20 m21 m22 m23 x24 h (fun (r0 : Sl) (h : Heap) => K (.slice r0.ptr r0.len r0.cap) h) =
    den Try.prog (fn1 26 (E_quorum_Quorum_most_of f26_) (fn1 30 (E_quorum_Quorum_Holds_of f30_) noFns)) Try.f64.ntmps plan64 (bodyOf Try.f64) (args0 0 [(.pointer q1 : Value), (.agg #[.int .i64 m2, .int .i64 m3, .int .i64 m4, .int .i64 m5, .int .u64 m6, .int .u64 m7, .int .u64 m8, .int .u64 m9, .int .i64 m10, .int .u64 m11, .slice m12.ptr m12.len m12.cap, .int .i64 m13, .int .u64 m14, .string m15, .string m16, .int .u64 m17, .int .u64 m18, .int .u64 m19, .int .i64 m20, .int .i64 m21, .int .i64 m22, .int .i64 m23] : Value), (.int .i64 x24 : Value)]) h ⟨fun env h => dRes Try.prog Try.f64.results.toList env h K, fun _ _ _ => False, fun env h => dRes Try.prog Try.f64.results.toList env h K⟩ := by kernel_rfl
def E_quorum_Quorum_beat_of (f : Option Addr → Int → Int → Int → Int → Int → Int → Int → Int → Int → Int → Sl → Int → Int → ByteArray → ByteArray → Int → Int → Int → Int → Int → Int → Int → Int → Heap → (Sl → Heap → Prop) → Prop) : List Value → Heap → (Value → Heap → Prop) → Prop
  | [v0, v1, v2], h, K => dec1 .ptr v0 fun (q1 : Option Addr) =>
  vAgg v1 fun cs1 => decs [.int .i64, .int .i64, .int .i64, .int .i64, .int .u64, .int .u64, .int .u64, .int .u64, .int .i64, .int .u64, .sl, .int .i64, .int .u64, .str, .str, .int .u64, .int .u64, .int .u64, .int .i64, .int .i64, .int .i64, .int .i64] cs1.toList fun (m2 m3 m4 m5 m6 m7 m8 m9 m10 m11 : Int) (m12 : Sl) (m13 m14 : Int) (m15 m16 : ByteArray) (m17 m18 m19 m20 m21 m22 m23 : Int) =>
  dec1 (.int .i64) v2 fun (x24 : Int) =>
  f q1 m2 m3 m4 m5 m6 m7 m8 m9 m10 m11 m12 m13 m14 m15 m16 m17 m18 m19 m20 m21 m22 m23 x24 h (fun (r0 : Sl) (h : Heap) => K (.slice r0.ptr r0.len r0.cap) h)
  | _, _, _ => False
abbrev E_quorum_Quorum_beat := E_quorum_Quorum_beat_of F_quorum_Quorum_beat
theorem E_quorum_Quorum_beat.right : IsRight Try.prog 64 E_quorum_Quorum_beat := by
  refine isRight fun vs K w hh => ?_
  match vs, hh with
  | [v0, v1, v2], hh =>
    unfold E_quorum_Quorum_beat E_quorum_Quorum_beat_of at hh
    replace hh := dec1_sound hh; obtain ⟨q1, rfl, hh⟩ := hh
    replace hh := vAgg_sound hh; obtain ⟨cs1, rfl, hh⟩ := hh
    replace hh := decs_cons hh; obtain ⟨m2, l1_0, e1_0, hh⟩ := hh
    replace hh := decs_cons hh; obtain ⟨m3, l1_1, e1_1, hh⟩ := hh
    replace hh := decs_cons hh; obtain ⟨m4, l1_2, e1_2, hh⟩ := hh
    replace hh := decs_cons hh; obtain ⟨m5, l1_3, e1_3, hh⟩ := hh
    replace hh := decs_cons hh; obtain ⟨m6, l1_4, e1_4, hh⟩ := hh
    replace hh := decs_cons hh; obtain ⟨m7, l1_5, e1_5, hh⟩ := hh
    replace hh := decs_cons hh; obtain ⟨m8, l1_6, e1_6, hh⟩ := hh
    replace hh := decs_cons hh; obtain ⟨m9, l1_7, e1_7, hh⟩ := hh
    replace hh := decs_cons hh; obtain ⟨m10, l1_8, e1_8, hh⟩ := hh
    replace hh := decs_cons hh; obtain ⟨m11, l1_9, e1_9, hh⟩ := hh
    replace hh := decs_cons hh; obtain ⟨m12, l1_10, e1_10, hh⟩ := hh
    replace hh := decs_cons hh; obtain ⟨m13, l1_11, e1_11, hh⟩ := hh
    replace hh := decs_cons hh; obtain ⟨m14, l1_12, e1_12, hh⟩ := hh
    replace hh := decs_cons hh; obtain ⟨m15, l1_13, e1_13, hh⟩ := hh
    replace hh := decs_cons hh; obtain ⟨m16, l1_14, e1_14, hh⟩ := hh
    replace hh := decs_cons hh; obtain ⟨m17, l1_15, e1_15, hh⟩ := hh
    replace hh := decs_cons hh; obtain ⟨m18, l1_16, e1_16, hh⟩ := hh
    replace hh := decs_cons hh; obtain ⟨m19, l1_17, e1_17, hh⟩ := hh
    replace hh := decs_cons hh; obtain ⟨m20, l1_18, e1_18, hh⟩ := hh
    replace hh := decs_cons hh; obtain ⟨m21, l1_19, e1_19, hh⟩ := hh
    replace hh := decs_cons hh; obtain ⟨m22, l1_20, e1_20, hh⟩ := hh
    replace hh := decs_cons hh; obtain ⟨m23, l1_21, e1_21, hh⟩ := hh
    replace hh := decs_nil hh; obtain ⟨rfl, hh⟩ := hh
    subst e1_21
    subst e1_20
    subst e1_19
    subst e1_18
    subst e1_17
    subst e1_16
    subst e1_15
    subst e1_14
    subst e1_13
    subst e1_12
    subst e1_11
    subst e1_10
    subst e1_9
    subst e1_8
    subst e1_7
    subst e1_6
    subst e1_5
    subst e1_4
    subst e1_3
    subst e1_2
    subst e1_1
    have ec1 := toArray_eq e1_0
    subst ec1
    replace hh := dec1_sound hh; obtain ⟨x24, rfl, hh⟩ := hh
    unfold F_quorum_Quorum_beat at hh
    exact calls_den (fn1_right ok26 E_quorum_Quorum_most.right (fn1_right ok30 E_quorum_Quorum_Holds.right noFns_right)) plan64 _ w K Try.func64 (by kernel_rfl) (by kernel_rfl) (Eq.mp (F_quorum_Quorum_beat.eq F_quorum_Quorum_most F_quorum_Quorum_Holds q1 m2 m3 m4 m5 m6 m7 m8 m9 m10 m11 m12 m13 m14 m15 m16 m17 m18 m19 m20 m21 m22 m23 x24 w.heap K) hh)
theorem ok64 : okFn Try.prog 64 = true := by kernel_rfl
end Go.Proofs.Ytigcpkejjjgkeaa.V
namespace Go.Proofs.Ytigcpkejjjgkeaa.V
open Go Go.RowKit
set_option linter.unusedVariables false
set_option maxRecDepth 100000
def F_quorum_kinds_of   (h : Heap) (Q : Option Nat → Heap → Prop) : Prop :=
  alM h fun (m1 : Nat) (h2 : Heap) =>
  mput .i64 (some m1) 2 (.func (.func 61) #[] #[]) h2 fun (h3 : Heap) =>
  mput .i64 (some m1) 5 (.func (.func 62) #[] #[]) h3 fun (h4 : Heap) =>
  mput .i64 (some m1) 3 (.func (.func 63) #[] #[]) h4 fun (h5 : Heap) =>
  mput .i64 (some m1) 7 (.func (.func 64) #[] #[]) h5 fun (h6 : Heap) =>
  Q (some m1) h6
def F_quorum_kinds  (h : Heap) (Q : Option Nat → Heap → Prop) : Prop := F_quorum_kinds_of   h Q
def plan48 : Plan := .s (.r []) (.s (.r [0]) .z)
theorem F_quorum_kinds.eq   (h : Heap) (K : Value → Heap → Prop) : F_quorum_kinds_of   h (fun (r0 : Option Nat) (h : Heap) => K (.map r0) h) =
    den Try.prog noFns Try.f48.ntmps plan48 (bodyOf Try.f48) (args0 0 []) h ⟨fun env h => dRes Try.prog Try.f48.results.toList env h K, fun _ _ _ => False, fun env h => dRes Try.prog Try.f48.results.toList env h K⟩ := by kernel_rfl
def E_quorum_kinds_of (f : Heap → (Option Nat → Heap → Prop) → Prop) : List Value → Heap → (Value → Heap → Prop) → Prop
  | [], h, K => f  h (fun (r0 : Option Nat) (h : Heap) => K (.map r0) h)
  | _, _, _ => False
abbrev E_quorum_kinds := E_quorum_kinds_of F_quorum_kinds
theorem E_quorum_kinds.nil (f : Heap → (Option Nat → Heap → Prop) → Prop) (h : Heap) (K : Value → Heap → Prop) : E_quorum_kinds_of f [] h K = f  h (fun (r0 : Option Nat) (h : Heap) => K (.map r0) h) := rfl
theorem E_quorum_kinds.right : IsRight Try.prog 48 E_quorum_kinds := by
  refine isRight fun vs K w hh => ?_
  match vs, hh with
  | [], hh =>
    replace hh := Eq.mp (E_quorum_kinds.nil F_quorum_kinds w.heap K) hh
    unfold F_quorum_kinds at hh
    exact calls_den noFns_right plan48 _ w K Try.func48 (by kernel_rfl) (by kernel_rfl) (Eq.mp (F_quorum_kinds.eq   w.heap K) hh)
theorem ok48 : okFn Try.prog 48 = true := by kernel_rfl
end Go.Proofs.Ytigcpkejjjgkeaa.V
namespace Go.Proofs.Ytigcpkejjjgkeaa.V
open Go Go.RowKit
set_option linter.unusedVariables false
set_option maxRecDepth 100000
def F_slices_Index_fbcab.l1 (s1 : Sl) (v2 : Int) (Q : Int → Heap → Prop) (j3 : Heap → Prop) : Int → Heap → Prop :=
  wl [(8, .one (.int .i64))] (fun (next4 : Int → Heap → Prop) (x5 : Int) (h6 : Heap) =>
  brr (decide (x5 < ((s1.len : Nat) : Int)))
  (ixS 1 s1 x5 fun (a7 : Addr) =>
  ld [.int .i64] a7 h6 fun (v8 : Int) =>
  brr (v2 == v8)
  (Q x5 h6)
  (next4 (IntKind.i64.wrap (x5 + 1)) h6))
  (j3 h6))
def F_slices_Index_fbcab_of  (s1 : Sl) (v2 : Int) (h : Heap) (Q : Int → Heap → Prop) : Prop :=
  jn [] (fun  (h9 : Heap) =>
  Q (-1) h9) (fun (j3 : Heap → Prop) =>
  F_slices_Index_fbcab.l1 s1 v2 Q j3 0 h)
def F_slices_Index_fbcab (s1 : Sl) (v2 : Int) (h : Heap) (Q : Int → Heap → Prop) : Prop := F_slices_Index_fbcab_of  s1 v2 h Q
def plan65 : Plan := .s (.r [0, 1]) (.s (.s (.r [0, 1, 7, 8]) (.bj [] [] (.l [(8, .one (.int .i64))] [0, 1, 7] (.s (.r [0, 1, 7, 8, 9]) (.s (.c .z .z) (.s (.b (.s (.r [0, 1, 5, 7, 8]) (.s (.r [0, 1, 5, 7, 8, 16]) (.c (.s (.r [4]) .z) .z)))) (.r [0, 1, 7, 8]))))))) (.s (.r [4]) .z))
theorem F_slices_Index_fbcab.eq  (s1 : Sl) (v2 : Int) (h : Heap) (K : Value → Heap → Prop) : F_slices_Index_fbcab_of  s1 v2 h (fun (r0 : Int) (h : Heap) => K (.int .i64 r0) h) =
    den Try.prog noFns Try.f65.ntmps plan65 (bodyOf Try.f65) (args0 0 [(.slice s1.ptr s1.len s1.cap : Value), (.int .i64 v2 : Value)]) h ⟨fun env h => dRes Try.prog Try.f65.results.toList env h K, fun _ _ _ => False, fun env h => dRes Try.prog Try.f65.results.toList env h K⟩ := by kernel_rfl
def E_slices_Index_fbcab_of (f : Sl → Int → Heap → (Int → Heap → Prop) → Prop) : List Value → Heap → (Value → Heap → Prop) → Prop
  | [v0, v1], h, K => dec1 .sl v0 fun (s1 : Sl) =>
  dec1 (.int .i64) v1 fun (v2 : Int) =>
  f s1 v2 h (fun (r0 : Int) (h : Heap) => K (.int .i64 r0) h)
  | _, _, _ => False
abbrev E_slices_Index_fbcab := E_slices_Index_fbcab_of F_slices_Index_fbcab
theorem E_slices_Index_fbcab.right : IsRight Try.prog 65 E_slices_Index_fbcab := by
  refine isRight fun vs K w hh => ?_
  match vs, hh with
  | [v0, v1], hh =>
    unfold E_slices_Index_fbcab E_slices_Index_fbcab_of at hh
    replace hh := dec1_sound hh; obtain ⟨s1, rfl, hh⟩ := hh
    replace hh := dec1_sound hh; obtain ⟨v2, rfl, hh⟩ := hh
    unfold F_slices_Index_fbcab at hh
    exact calls_den noFns_right plan65 _ w K Try.func65 (by kernel_rfl) (by kernel_rfl) (Eq.mp (F_slices_Index_fbcab.eq  s1 v2 w.heap K) hh)
theorem ok65 : okFn Try.prog 65 = true := by kernel_rfl
end Go.Proofs.Ytigcpkejjjgkeaa.V
namespace Go.Proofs.Ytigcpkejjjgkeaa.V
open Go Go.RowKit
set_option linter.unusedVariables false
set_option maxRecDepth 100000
def F_slices_Contains_cfbaf_of (f65_ : Sl → Int → Heap → (Int → Heap → Prop) → Prop) (s1 : Sl) (v2 : Int) (h : Heap) (Q : Bool → Heap → Prop) : Prop :=
  f65_ s1 v2 h fun (r3 : Int) (h4 : Heap) =>
  Q (decide (r3 ≥ 0)) h4
def F_slices_Contains_cfbaf (s1 : Sl) (v2 : Int) (h : Heap) (Q : Bool → Heap → Prop) : Prop := F_slices_Contains_cfbaf_of F_slices_Index_fbcab s1 v2 h Q
def plan49 : Plan := .s (.r [0, 1]) (.s (.r [4]) .z)
theorem F_slices_Contains_cfbaf.eq (f65_ : Sl → Int → Heap → (Int → Heap → Prop) → Prop) (s1 : Sl) (v2 : Int) (h : Heap) (K : Value → Heap → Prop) : F_slices_Contains_cfbaf_of f65_ s1 v2 h (fun (r0 : Bool) (h : Heap) => K (.bool r0) h) =
    den Try.prog (fn1 65 (E_slices_Index_fbcab_of f65_) noFns) Try.f49.ntmps plan49 (bodyOf Try.f49) (args0 0 [(.slice s1.ptr s1.len s1.cap : Value), (.int .i64 v2 : Value)]) h ⟨fun env h => dRes Try.prog Try.f49.results.toList env h K, fun _ _ _ => False, fun env h => dRes Try.prog Try.f49.results.toList env h K⟩ := by kernel_rfl
def E_slices_Contains_cfbaf_of (f : Sl → Int → Heap → (Bool → Heap → Prop) → Prop) : List Value → Heap → (Value → Heap → Prop) → Prop
  | [v0, v1], h, K => dec1 .sl v0 fun (s1 : Sl) =>
  dec1 (.int .i64) v1 fun (v2 : Int) =>
  f s1 v2 h (fun (r0 : Bool) (h : Heap) => K (.bool r0) h)
  | _, _, _ => False
abbrev E_slices_Contains_cfbaf := E_slices_Contains_cfbaf_of F_slices_Contains_cfbaf
theorem E_slices_Contains_cfbaf.right : IsRight Try.prog 49 E_slices_Contains_cfbaf := by
  refine isRight fun vs K w hh => ?_
  match vs, hh with
  | [v0, v1], hh =>
    unfold E_slices_Contains_cfbaf E_slices_Contains_cfbaf_of at hh
    replace hh := dec1_sound hh; obtain ⟨s1, rfl, hh⟩ := hh
    replace hh := dec1_sound hh; obtain ⟨v2, rfl, hh⟩ := hh
    unfold F_slices_Contains_cfbaf at hh
    exact calls_den (fn1_right ok65 E_slices_Index_fbcab.right noFns_right) plan49 _ w K Try.func49 (by kernel_rfl) (by kernel_rfl) (Eq.mp (F_slices_Contains_cfbaf.eq F_slices_Index_fbcab s1 v2 w.heap K) hh)
theorem ok49 : okFn Try.prog 49 = true := by kernel_rfl
end Go.Proofs.Ytigcpkejjjgkeaa.V
namespace Go.Proofs.Ytigcpkejjjgkeaa.V
open Go Go.RowKit
set_option linter.unusedVariables false
set_option maxRecDepth 100000
def F_quorum_Quorum_Hear_of (f48_ : Heap → (Option Nat → Heap → Prop) → Prop) (f49_ : Sl → Int → Heap → (Bool → Heap → Prop) → Prop) (f61_ : Option Addr → Int → Int → Int → Int → Int → Int → Int → Int → Int → Int → Sl → Int → Int → ByteArray → ByteArray → Int → Int → Int → Int → Int → Int → Int → Int → Heap → (Sl → Heap → Prop) → Prop) (f62_ : Option Addr → Int → Int → Int → Int → Int → Int → Int → Int → Int → Int → Sl → Int → Int → ByteArray → ByteArray → Int → Int → Int → Int → Int → Int → Int → Int → Heap → (Sl → Heap → Prop) → Prop) (f63_ : Option Addr → Int → Int → Int → Int → Int → Int → Int → Int → Int → Int → Sl → Int → Int → ByteArray → ByteArray → Int → Int → Int → Int → Int → Int → Int → Int → Heap → (Sl → Heap → Prop) → Prop) (f64_ : Option Addr → Int → Int → Int → Int → Int → Int → Int → Int → Int → Int → Sl → Int → Int → ByteArray → ByteArray → Int → Int → Int → Int → Int → Int → Int → Int → Heap → (Sl → Heap → Prop) → Prop) (Φ_ : Fns) (q1 : Option Addr) (m2 m3 m4 m5 m6 m7 m8 m9 m10 m11 : Int) (m12 : Sl) (m13 m14 : Int) (m15 m16 : ByteArray) (m17 m18 m19 m20 m21 m22 m23 span24 : Int) (h : Heap) (Q : Sl → Heap → Prop) : Prop :=
  al 66 [.int .i64 m2, .int .i64 m3, .int .i64 m4, .int .i64 m5, .int .u64 m6, .int .u64 m7, .int .u64 m8, .int .u64 m9, .int .i64 m10, .int .u64 m11, .slice m12.ptr m12.len m12.cap, .int .i64 m13, .int .u64 m14, .string m15, .string m16, .int .u64 m17, .int .u64 m18, .int .u64 m19, .int .i64 m20, .int .i64 m21, .int .i64 m22, .int .i64 m23] h fun (a25 : Addr) (h26 : Heap) =>
  ld [.int .i64] ((a25.add 0).add 0) h26 fun (v27 : Int) =>
  f48_ h26 fun (r28 : Option Nat) (h29 : Heap) =>
  cellsAre h29 ((a25.add 0).add 0) [.int .i64 v27] ∧
  mg .fn .i64 r28 v27 (.nilFunc) h29 fun (v30 : Option FV) (b31 : Bool) =>
  jn [(45, .one .bool)] (fun (x45 : Bool) (h46 : Heap) =>
  brr x45
  (Q (⟨none, 0, 0⟩ : Sl) h46)
  (ld [.int .i64, .int .i64, .int .i64, .int .i64, .int .u64, .int .u64, .int .u64, .int .u64, .int .i64, .int .u64, .sl, .int .i64, .int .u64, .str, .str, .int .u64, .int .u64, .int .u64, .int .i64, .int .i64, .int .i64, .int .i64] a25 h46 fun (v47 v48 v49 v50 v51 v52 v53 v54 v55 v56 : Int) (v57 : Sl) (v58 v59 : Int) (v60 v61 : ByteArray) (v62 v63 v64 v65 v66 v67 v68 : Int) =>
  dyn1 .sl Φ_ (Kd.enc .fn v30) [(.pointer q1 : Value), (.agg #[.int .i64 v47, .int .i64 v48, .int .i64 v49, .int .i64 v50, .int .u64 v51, .int .u64 v52, .int .u64 v53, .int .u64 v54, .int .i64 v55, .int .u64 v56, .slice v57.ptr v57.len v57.cap, .int .i64 v58, .int .u64 v59, .string v60, .string v61, .int .u64 v62, .int .u64 v63, .int .u64 v64, .int .i64 v65, .int .i64 v66, .int .i64 v67, .int .i64 v68] : Value), (.int .i64 span24 : Value)] h46 fun (r70 : Sl) (h69 : Heap) =>
  Q r70 h69)) (fun (j32 : Bool → Heap → Prop) =>
  dec1 .fn (Kd.enc .fn v30) fun (f33 : Option FV) =>
  brr f33.isNone
  (j32 true h29)
  (ld [.int .i64] ((a25.add 0).add 2) h29 fun (v34 : Int) =>
  nn q1 fun (a35 : Addr) =>
  ld [.int .i64] (a35.add 0) h29 fun (v36 : Int) =>
  brr (v34 != v36)
  (j32 true h29)
  (ld [.int .i64] ((a25.add 0).add 3) h29 fun (v37 : Int) =>
  nn q1 fun (a38 : Addr) =>
  ld [.int .i64] (a38.add 1) h29 fun (v39 : Int) =>
  brr (v37 != v39)
  (j32 true h29)
  (nn q1 fun (a40 : Addr) =>
  ld [.sl] (a40.add 2) h29 fun (v41 : Sl) =>
  ld [.int .i64] ((a25.add 0).add 1) h29 fun (v42 : Int) =>
  f49_ v41 v42 h29 fun (r43 : Bool) (h44 : Heap) =>
  j32 (!r43) h44))))
def F_quorum_Quorum_Hear (q1 : Option Addr) (m2 m3 m4 m5 m6 m7 m8 m9 m10 m11 : Int) (m12 : Sl) (m13 m14 : Int) (m15 m16 : ByteArray) (m17 m18 m19 m20 m21 m22 m23 span24 : Int) (h : Heap) (Q : Sl → Heap → Prop) : Prop := F_quorum_Quorum_Hear_of F_quorum_kinds F_slices_Contains_cfbaf F_quorum_Quorum_promise F_quorum_Quorum_stored F_quorum_Quorum_refuse F_quorum_Quorum_beat (fn1 48 E_quorum_kinds (fn1 49 E_slices_Contains_cfbaf (fn1 61 E_quorum_Quorum_promise (fn1 62 E_quorum_Quorum_stored (fn1 63 E_quorum_Quorum_refuse (fn1 64 E_quorum_Quorum_beat noFns)))))) q1 m2 m3 m4 m5 m6 m7 m8 m9 m10 m11 m12 m13 m14 m15 m16 m17 m18 m19 m20 m21 m22 m23 span24 h Q
def plan20 : Plan := .s (.r [0, 2, 4]) (.s (.d [0, 0, 2, 6, 15, 31] [[1, 2, 3, 0, 4, 5]] [0, 2, 4, 7]) (.s (.s (.dj [0, 1, 3, 7, 15, 31, 7, 71, 199, 455, 1023, 2047, 4095, 8191, 16383, 32767, 8191, 73727, 204799, 466943, 1048575, 2097151, 4194303, 8388607, 16777215, 33554431, 67108863, 8388607, 142606335, 411041791, 1073741823, 2147483647, 4294967295] [[0, 1, 2, 3, 4, 5, 6, 7, 8, 9, 10, 11, 12, 13, 14, 15, 16, 17, 18, 19, 20, 21, 22, 23, 24, 25, 26, 27, 28, 29, 30, 31, 32]] [(45, .one .bool)] [0, 2, 4, 7]) (.c (.s (.r [6]) .z) .z)) (.s (.r [6]) .z)))
theorem F_quorum_Quorum_Hear.eq (f48_ : Heap → (Option Nat → Heap → Prop) → Prop) (f49_ : Sl → Int → Heap → (Bool → Heap → Prop) → Prop) (f61_ : Option Addr → Int → Int → Int → Int → Int → Int → Int → Int → Int → Int → Sl → Int → Int → ByteArray → ByteArray → Int → Int → Int → Int → Int → Int → Int → Int → Heap → (Sl → Heap → Prop) → Prop) (f62_ : Option Addr → Int → Int → Int → Int → Int → Int → Int → Int → Int → Int → Sl → Int → Int → ByteArray → ByteArray → Int → Int → Int → Int → Int → Int → Int → Int → Heap → (Sl → Heap → Prop) → Prop) (f63_ : Option Addr → Int → Int → Int → Int → Int → Int → Int → Int → Int → Int → Sl → Int → Int → ByteArray → ByteArray → Int → Int → Int → Int → Int → Int → Int → Int → Heap → (Sl → Heap → Prop) → Prop) (f64_ : Option Addr → Int → Int → Int → Int → Int → Int → Int → Int → Int → Int → Sl → Int → Int → ByteArray → ByteArray → Int → Int → Int → Int → Int → Int → Int → Int → Heap → (Sl → Heap → Prop) → Prop) (q1 : Option Addr) (m2 m3 m4 m5 m6 m7 m8 m9 m10 m11 : Int) (m12 : Sl) (m13 m14 : Int) (m15 m16 : ByteArray) (m17 m18 m19 m20 m21 m22 m23 span24 : Int) (h : Heap) (K : Value → Heap → Prop) : F_quorum_Quorum_Hear_of f48_ f49_ f61_ f62_ f63_ f64_ (fn1 48 (E_quorum_kinds_of f48_) (fn1 49 (E_slices_Contains_cfbaf_of f49_) (fn1 61 (E_quorum_Quorum_promise_of f61_) (fn1 62 (E_quorum_Quorum_stored_of f62_) (fn1 63 (E_quorum_Quorum_refuse_of f63_) (fn1 64 (E_quorum_Quorum_beat_of f64_) noFns)))))) q1 m2 m3 m4 m5 m6 m7 m8 m9 m10 m11 m12 m13 m14 m15 m16 m17 m18 m19 m20 m21 m22 m23 span24 h (fun (r0 : Sl) (h : Heap) => K (.slice r0.ptr r0.len r0.cap) h) =
    den Try.prog (fn1 48 (E_quorum_kinds_of f48_) (fn1 49 (E_slices_Contains_cfbaf_of f49_) (fn1 61 (E_quorum_Quorum_promise_of f61_) (fn1 62 (E_quorum_Quorum_stored_of f62_) (fn1 63 (E_quorum_Quorum_refuse_of f63_) (fn1 64 (E_quorum_Quorum_beat_of f64_) noFns)))))) Try.f20.ntmps plan20 (bodyOf Try.f20) (args0 0 [(.pointer q1 : Value), (.agg #[.int .i64 m2, .int .i64 m3, .int .i64 m4, .int .i64 m5, .int .u64 m6, .int .u64 m7, .int .u64 m8, .int .u64 m9, .int .i64 m10, .int .u64 m11, .slice m12.ptr m12.len m12.cap, .int .i64 m13, .int .u64 m14, .string m15, .string m16, .int .u64 m17, .int .u64 m18, .int .u64 m19, .int .i64 m20, .int .i64 m21, .int .i64 m22, .int .i64 m23] : Value), (.int .i64 span24 : Value)]) h ⟨fun env h => dRes Try.prog Try.f20.results.toList env h K, fun _ _ _ => False, fun env h => dRes Try.prog Try.f20.results.toList env h K⟩ := by kernel_rfl
def E_quorum_Quorum_Hear_of (f : Option Addr → Int → Int → Int → Int → Int → Int → Int → Int → Int → Int → Sl → Int → Int → ByteArray → ByteArray → Int → Int → Int → Int → Int → Int → Int → Int → Heap → (Sl → Heap → Prop) → Prop) : List Value → Heap → (Value → Heap → Prop) → Prop
  | [v0, v1, v2], h, K => dec1 .ptr v0 fun (q1 : Option Addr) =>
  vAgg v1 fun cs1 => decs [.int .i64, .int .i64, .int .i64, .int .i64, .int .u64, .int .u64, .int .u64, .int .u64, .int .i64, .int .u64, .sl, .int .i64, .int .u64, .str, .str, .int .u64, .int .u64, .int .u64, .int .i64, .int .i64, .int .i64, .int .i64] cs1.toList fun (m2 m3 m4 m5 m6 m7 m8 m9 m10 m11 : Int) (m12 : Sl) (m13 m14 : Int) (m15 m16 : ByteArray) (m17 m18 m19 m20 m21 m22 m23 : Int) =>
  dec1 (.int .i64) v2 fun (span24 : Int) =>
  f q1 m2 m3 m4 m5 m6 m7 m8 m9 m10 m11 m12 m13 m14 m15 m16 m17 m18 m19 m20 m21 m22 m23 span24 h (fun (r0 : Sl) (h : Heap) => K (.slice r0.ptr r0.len r0.cap) h)
  | _, _, _ => False
abbrev E_quorum_Quorum_Hear := E_quorum_Quorum_Hear_of F_quorum_Quorum_Hear
theorem E_quorum_Quorum_Hear.right : IsRight Try.prog 20 E_quorum_Quorum_Hear := by
  refine isRight fun vs K w hh => ?_
  match vs, hh with
  | [v0, v1, v2], hh =>
    unfold E_quorum_Quorum_Hear E_quorum_Quorum_Hear_of at hh
    replace hh := dec1_sound hh; obtain ⟨q1, rfl, hh⟩ := hh
    replace hh := vAgg_sound hh; obtain ⟨cs1, rfl, hh⟩ := hh
    replace hh := decs_cons hh; obtain ⟨m2, l1_0, e1_0, hh⟩ := hh
    replace hh := decs_cons hh; obtain ⟨m3, l1_1, e1_1, hh⟩ := hh
    replace hh := decs_cons hh; obtain ⟨m4, l1_2, e1_2, hh⟩ := hh
    replace hh := decs_cons hh; obtain ⟨m5, l1_3, e1_3, hh⟩ := hh
    replace hh := decs_cons hh; obtain ⟨m6, l1_4, e1_4, hh⟩ := hh
    replace hh := decs_cons hh; obtain ⟨m7, l1_5, e1_5, hh⟩ := hh
    replace hh := decs_cons hh; obtain ⟨m8, l1_6, e1_6, hh⟩ := hh
    replace hh := decs_cons hh; obtain ⟨m9, l1_7, e1_7, hh⟩ := hh
    replace hh := decs_cons hh; obtain ⟨m10, l1_8, e1_8, hh⟩ := hh
    replace hh := decs_cons hh; obtain ⟨m11, l1_9, e1_9, hh⟩ := hh
    replace hh := decs_cons hh; obtain ⟨m12, l1_10, e1_10, hh⟩ := hh
    replace hh := decs_cons hh; obtain ⟨m13, l1_11, e1_11, hh⟩ := hh
    replace hh := decs_cons hh; obtain ⟨m14, l1_12, e1_12, hh⟩ := hh
    replace hh := decs_cons hh; obtain ⟨m15, l1_13, e1_13, hh⟩ := hh
    replace hh := decs_cons hh; obtain ⟨m16, l1_14, e1_14, hh⟩ := hh
    replace hh := decs_cons hh; obtain ⟨m17, l1_15, e1_15, hh⟩ := hh
    replace hh := decs_cons hh; obtain ⟨m18, l1_16, e1_16, hh⟩ := hh
    replace hh := decs_cons hh; obtain ⟨m19, l1_17, e1_17, hh⟩ := hh
    replace hh := decs_cons hh; obtain ⟨m20, l1_18, e1_18, hh⟩ := hh
    replace hh := decs_cons hh; obtain ⟨m21, l1_19, e1_19, hh⟩ := hh
    replace hh := decs_cons hh; obtain ⟨m22, l1_20, e1_20, hh⟩ := hh
    replace hh := decs_cons hh; obtain ⟨m23, l1_21, e1_21, hh⟩ := hh
    replace hh := decs_nil hh; obtain ⟨rfl, hh⟩ := hh
    subst e1_21
    subst e1_20
    subst e1_19
    subst e1_18
    subst e1_17
    subst e1_16
    subst e1_15
    subst e1_14
    subst e1_13
    subst e1_12
    subst e1_11
    subst e1_10
    subst e1_9
    subst e1_8
    subst e1_7
    subst e1_6
    subst e1_5
    subst e1_4
    subst e1_3
    subst e1_2
    subst e1_1
    have ec1 := toArray_eq e1_0
    subst ec1
    replace hh := dec1_sound hh; obtain ⟨span24, rfl, hh⟩ := hh
    unfold F_quorum_Quorum_Hear at hh
    exact calls_den (fn1_right ok48 E_quorum_kinds.right (fn1_right ok49 E_slices_Contains_cfbaf.right (fn1_right ok61 E_quorum_Quorum_promise.right (fn1_right ok62 E_quorum_Quorum_stored.right (fn1_right ok63 E_quorum_Quorum_refuse.right (fn1_right ok64 E_quorum_Quorum_beat.right noFns_right)))))) plan20 _ w K Try.func20 (by kernel_rfl) (by kernel_rfl) (Eq.mp (F_quorum_Quorum_Hear.eq F_quorum_kinds F_slices_Contains_cfbaf F_quorum_Quorum_promise F_quorum_Quorum_stored F_quorum_Quorum_refuse F_quorum_Quorum_beat q1 m2 m3 m4 m5 m6 m7 m8 m9 m10 m11 m12 m13 m14 m15 m16 m17 m18 m19 m20 m21 m22 m23 span24 w.heap K) hh)
theorem ok20 : okFn Try.prog 20 = true := by kernel_rfl
end Go.Proofs.Ytigcpkejjjgkeaa.V
namespace Go.Proofs.Ytigcpkejjjgkeaa.V
open Go Go.RowKit
set_option linter.unusedVariables false
set_option maxRecDepth 100000
def F_quorum_Quorum_prepares_of (f52_ : Option Addr → Int → Int → Int → Int → Int → Int → Int → Int → Int → Int → Sl → Int → Int → ByteArray → ByteArray → Int → Int → Int → Int → Int → Int → Int → Option FV → Heap → (Sl → Heap → Prop) → Prop) (q1 : Option Addr) (h : Heap) (Q : Sl → Heap → Prop) : Prop :=
  nn q1 fun (a2 : Addr) =>
  ld [.int .u64] (a2.add 4) h fun (v3 : Int) =>
  f52_ q1 1 0 0 0 v3 0 0 0 0 0 (⟨none, 0, 0⟩ : Sl) 0 0 (⟨#[]⟩ : ByteArray) (⟨#[]⟩ : ByteArray) 0 0 0 0 0 0 0 (some (⟨.func 53, [.pointer q1], []⟩ : FV)) h fun (r4 : Sl) (h5 : Heap) =>
  Q r4 h5
def F_quorum_Quorum_prepares (q1 : Option Addr) (h : Heap) (Q : Sl → Heap → Prop) : Prop := F_quorum_Quorum_prepares_of F_quorum_Quorum_send q1 h Q
def plan28 : Plan := .s (.r [0]) (.s (.r [2]) .z)
theorem F_quorum_Quorum_prepares.eq (f52_ : Option Addr → Int → Int → Int → Int → Int → Int → Int → Int → Int → Int → Sl → Int → Int → ByteArray → ByteArray → Int → Int → Int → Int → Int → Int → Int → Option FV → Heap → (Sl → Heap → Prop) → Prop) (q1 : Option Addr) (h : Heap) (K : Value → Heap → Prop) : F_quorum_Quorum_prepares_of f52_ q1 h (fun (r0 : Sl) (h : Heap) => K (.slice r0.ptr r0.len r0.cap) h) =
    den Try.prog (fn1 52 (E_quorum_Quorum_send_of f52_) noFns) Try.f28.ntmps plan28 (bodyOf Try.f28) (args0 0 [(.pointer q1 : Value)]) h ⟨fun env h => dRes Try.prog Try.f28.results.toList env h K, fun _ _ _ => False, fun env h => dRes Try.prog Try.f28.results.toList env h K⟩ := by kernel_rfl
def E_quorum_Quorum_prepares_of (f : Option Addr → Heap → (Sl → Heap → Prop) → Prop) : List Value → Heap → (Value → Heap → Prop) → Prop
  | [v0], h, K => dec1 .ptr v0 fun (q1 : Option Addr) =>
  f q1 h (fun (r0 : Sl) (h : Heap) => K (.slice r0.ptr r0.len r0.cap) h)
  | _, _, _ => False
abbrev E_quorum_Quorum_prepares := E_quorum_Quorum_prepares_of F_quorum_Quorum_prepares
theorem E_quorum_Quorum_prepares.right : IsRight Try.prog 28 E_quorum_Quorum_prepares := by
  refine isRight fun vs K w hh => ?_
  match vs, hh with
  | [v0], hh =>
    unfold E_quorum_Quorum_prepares E_quorum_Quorum_prepares_of at hh
    replace hh := dec1_sound hh; obtain ⟨q1, rfl, hh⟩ := hh
    unfold F_quorum_Quorum_prepares at hh
    exact calls_den (fn1_right ok52 E_quorum_Quorum_send.right noFns_right) plan28 _ w K Try.func28 (by kernel_rfl) (by kernel_rfl) (Eq.mp (F_quorum_Quorum_prepares.eq F_quorum_Quorum_send q1 w.heap K) hh)
theorem ok28 : okFn Try.prog 28 = true := by kernel_rfl
end Go.Proofs.Ytigcpkejjjgkeaa.V
namespace Go.Proofs.Ytigcpkejjjgkeaa.V
open Go Go.RowKit
set_option linter.unusedVariables false
set_option maxRecDepth 100000
def F_quorum_Quorum_Start_of (f22_ : Option Addr → Heap → (Heap → Prop) → Prop) (f25_ : Sl → Heap → (Sl → Heap → Prop) → Prop) (f26_ : Option Addr → Int → Heap → (Bool → Heap → Prop) → Prop) (f27_ : Option Addr → Int → Int → Heap → (Sl → Heap → Prop) → Prop) (f28_ : Option Addr → Heap → (Sl → Heap → Prop) → Prop) (q1 : Option Addr) (epoch2 own3 own4 own5 : Int) (own6 : Sl) (span7 : Int) (h : Heap) (Q : Sl → Heap → Prop) : Prop :=
  al 38 [.int .u64 own3, .int .u64 own4, .int .u64 own5, .slice own6.ptr own6.len own6.cap] h fun (a8 : Addr) (h9 : Heap) =>
  f22_ q1 h9 fun  (h10 : Heap) =>
  nn q1 fun (a11 : Addr) =>
  st (a11.add 3) [.int .i64 1] h10 fun (h12 : Heap) =>
  nn q1 fun (a13 : Addr) =>
  st (a13.add 4) [.int .u64 epoch2] h12 fun (h14 : Heap) =>
  ld [.int .u64, .int .u64] (a8.add 1) h14 fun (v15 v16 : Int) =>
  ld [.sl] (a8.add 3) h14 fun (v17 : Sl) =>
  f25_ v17 h14 fun (r18 : Sl) (h19 : Heap) =>
  cellsAre h19 (a8.add 1) [.int .u64 v15, .int .u64 v16] ∧
  nn q1 fun (a20 : Addr) =>
  st (a20.add 6) [.int .u64 v15, .int .u64 v16] h19 fun (h21 : Heap) =>
  nn q1 fun (a22 : Addr) =>
  st (a22.add 10) [.slice r18.ptr r18.len r18.cap] h21 fun (h23 : Heap) =>
  nn q1 fun (a24 : Addr) =>
  ld [.map] (a24.add 16) h23 fun (v25 : Option Nat) =>
  nn q1 fun (a26 : Addr) =>
  ld [.int .i64] (a26.add 0) h23 fun (v27 : Int) =>
  mput .i64 v25 v27 (.bool true) h23 fun (h28 : Heap) =>
  f26_ q1 1 h28 fun (r29 : Bool) (h30 : Heap) =>
  brr r29
  (f27_ q1 1 span7 h30 fun (r31 : Sl) (h32 : Heap) =>
  Q r31 h32)
  (f28_ q1 h30 fun (r33 : Sl) (h34 : Heap) =>
  Q r33 h34)
def F_quorum_Quorum_Start (q1 : Option Addr) (epoch2 own3 own4 own5 : Int) (own6 : Sl) (span7 : Int) (h : Heap) (Q : Sl → Heap → Prop) : Prop := F_quorum_Quorum_Start_of F_quorum_Quorum_Stop F_slices_Clone_cbaad F_quorum_Quorum_most F_quorum_Quorum_write F_quorum_Quorum_prepares q1 epoch2 own3 own4 own5 own6 span7 h Q
def plan10 : Plan := .s (.r [0, 1, 3, 6]) (.s (.r [0, 1, 3, 6]) (.s (.r [0, 3, 6]) (.s (.d [0, 0, 0, 4, 0, 16, 48, 125, 253, 509, 1023, 2047, 4095] [[0, 1, 2, 3, 4, 5, 6, 7, 8, 9, 10, 11, 12]] [0, 3]) (.s (.d [0, 1, 3, 7, 0, 16, 48, 112, 255] [[0, 1, 2, 3, 4, 5, 6, 7, 8]] [0, 3]) (.s (.s (.r [0, 3, 38]) (.c (.s (.r [8]) .z) .z)) (.s (.r [8]) .z))))))
theorem F_quorum_Quorum_Start.eq (f22_ : Option Addr → Heap → (Heap → Prop) → Prop) (f25_ : Sl → Heap → (Sl → Heap → Prop) → Prop) (f26_ : Option Addr → Int → Heap → (Bool → Heap → Prop) → Prop) (f27_ : Option Addr → Int → Int → Heap → (Sl → Heap → Prop) → Prop) (f28_ : Option Addr → Heap → (Sl → Heap → Prop) → Prop) (q1 : Option Addr) (epoch2 own3 own4 own5 : Int) (own6 : Sl) (span7 : Int) (h : Heap) (K : Value → Heap → Prop) : F_quorum_Quorum_Start_of f22_ f25_ f26_ f27_ f28_ q1 epoch2 own3 own4 own5 own6 span7 h (fun (r0 : Sl) (h : Heap) => K (.slice r0.ptr r0.len r0.cap) h) =
    den Try.prog (fn1 22 (E_quorum_Quorum_Stop_of f22_) (fn1 25 (E_slices_Clone_cbaad_of f25_) (fn1 26 (E_quorum_Quorum_most_of f26_) (fn1 27 (E_quorum_Quorum_write_of f27_) (fn1 28 (E_quorum_Quorum_prepares_of f28_) noFns))))) Try.f10.ntmps plan10 (bodyOf Try.f10) (args0 0 [(.pointer q1 : Value), (.int .u64 epoch2 : Value), (.agg #[.int .u64 own3, .int .u64 own4, .int .u64 own5, .slice own6.ptr own6.len own6.cap] : Value), (.int .i64 span7 : Value)]) h ⟨fun env h => dRes Try.prog Try.f10.results.toList env h K, fun _ _ _ => False, fun env h => dRes Try.prog Try.f10.results.toList env h K⟩ := by kernel_rfl
def E_quorum_Quorum_Start_of (f : Option Addr → Int → Int → Int → Int → Sl → Int → Heap → (Sl → Heap → Prop) → Prop) : List Value → Heap → (Value → Heap → Prop) → Prop
  | [v0, v1, v2, v3], h, K => dec1 .ptr v0 fun (q1 : Option Addr) =>
  dec1 (.int .u64) v1 fun (epoch2 : Int) =>
  vAgg v2 fun cs2 => decs [.int .u64, .int .u64, .int .u64, .sl] cs2.toList fun (own3 own4 own5 : Int) (own6 : Sl) =>
  dec1 (.int .i64) v3 fun (span7 : Int) =>
  f q1 epoch2 own3 own4 own5 own6 span7 h (fun (r0 : Sl) (h : Heap) => K (.slice r0.ptr r0.len r0.cap) h)
  | _, _, _ => False
abbrev E_quorum_Quorum_Start := E_quorum_Quorum_Start_of F_quorum_Quorum_Start
theorem E_quorum_Quorum_Start.right : IsRight Try.prog 10 E_quorum_Quorum_Start := by
  refine isRight fun vs K w hh => ?_
  match vs, hh with
  | [v0, v1, v2, v3], hh =>
    unfold E_quorum_Quorum_Start E_quorum_Quorum_Start_of at hh
    replace hh := dec1_sound hh; obtain ⟨q1, rfl, hh⟩ := hh
    replace hh := dec1_sound hh; obtain ⟨epoch2, rfl, hh⟩ := hh
    replace hh := vAgg_sound hh; obtain ⟨cs2, rfl, hh⟩ := hh
    replace hh := decs_cons hh; obtain ⟨own3, l2_0, e2_0, hh⟩ := hh
    replace hh := decs_cons hh; obtain ⟨own4, l2_1, e2_1, hh⟩ := hh
    replace hh := decs_cons hh; obtain ⟨own5, l2_2, e2_2, hh⟩ := hh
    replace hh := decs_cons hh; obtain ⟨own6, l2_3, e2_3, hh⟩ := hh
    replace hh := decs_nil hh; obtain ⟨rfl, hh⟩ := hh
    subst e2_3
    subst e2_2
    subst e2_1
    have ec2 := toArray_eq e2_0
    subst ec2
    replace hh := dec1_sound hh; obtain ⟨span7, rfl, hh⟩ := hh
    unfold F_quorum_Quorum_Start at hh
    exact calls_den (fn1_right ok22 E_quorum_Quorum_Stop.right (fn1_right ok25 E_slices_Clone_cbaad.right (fn1_right ok26 E_quorum_Quorum_most.right (fn1_right ok27 E_quorum_Quorum_write.right (fn1_right ok28 E_quorum_Quorum_prepares.right noFns_right))))) plan10 _ w K Try.func10 (by kernel_rfl) (by kernel_rfl) (Eq.mp (F_quorum_Quorum_Start.eq F_quorum_Quorum_Stop F_slices_Clone_cbaad F_quorum_Quorum_most F_quorum_Quorum_write F_quorum_Quorum_prepares q1 epoch2 own3 own4 own5 own6 span7 w.heap K) hh)
theorem ok10 : okFn Try.prog 10 = true := by kernel_rfl
end Go.Proofs.Ytigcpkejjjgkeaa.V
namespace Go.Proofs.Ytigcpkejjjgkeaa.V
open Go Go.RowKit
set_option linter.unusedVariables false
set_option maxRecDepth 100000
def F_quorum_Quorum_beats_of (f52_ : Option Addr → Int → Int → Int → Int → Int → Int → Int → Int → Int → Int → Sl → Int → Int → ByteArray → ByteArray → Int → Int → Int → Int → Int → Int → Int → Option FV → Heap → (Sl → Heap → Prop) → Prop) (q1 : Option Addr) (span2 : Int) (h : Heap) (Q : Sl → Heap → Prop) : Prop :=
  nn q1 fun (a3 : Addr) =>
  ld [.int .u64] (a3.add 4) h fun (v4 : Int) =>
  nn q1 fun (a5 : Addr) =>
  ld [.int .u64] (a5.add 14) h fun (v6 : Int) =>
  nn q1 fun (a7 : Addr) =>
  ld [.map] (a7.add 19) h fun (v8 : Option Nat) =>
  f52_ q1 6 0 0 0 v4 0 0 v6 span2 0 (⟨none, 0, 0⟩ : Sl) 0 0 (⟨#[]⟩ : ByteArray) (⟨#[]⟩ : ByteArray) 0 0 0 0 0 0 0 (some (⟨.func 54, [.map v8], []⟩ : FV)) h fun (r9 : Sl) (h10 : Heap) =>
  Q r9 h10
def F_quorum_Quorum_beats (q1 : Option Addr) (span2 : Int) (h : Heap) (Q : Sl → Heap → Prop) : Prop := F_quorum_Quorum_beats_of F_quorum_Quorum_send q1 span2 h Q
def plan31 : Plan := .s (.r [0, 1]) (.s (.d [0, 0, 0, 4, 12, 28, 0, 64, 192, 448, 0, 2046, 0, 4096, 12288, 28672, 61440, 131071, 262143] [[0, 1, 2, 3, 4, 5, 6, 7, 8, 9, 10, 11, 12, 13, 14, 15, 16, 17, 18]] [4]) .z)
theorem F_quorum_Quorum_beats.eq (f52_ : Option Addr → Int → Int → Int → Int → Int → Int → Int → Int → Int → Int → Sl → Int → Int → ByteArray → ByteArray → Int → Int → Int → Int → Int → Int → Int → Option FV → Heap → (Sl → Heap → Prop) → Prop) (q1 : Option Addr) (span2 : Int) (h : Heap) (K : Value → Heap → Prop) : F_quorum_Quorum_beats_of f52_ q1 span2 h (fun (r0 : Sl) (h : Heap) => K (.slice r0.ptr r0.len r0.cap) h) =
    den Try.prog (fn1 52 (E_quorum_Quorum_send_of f52_) noFns) Try.f31.ntmps plan31 (bodyOf Try.f31) (args0 0 [(.pointer q1 : Value), (.int .i64 span2 : Value)]) h ⟨fun env h => dRes Try.prog Try.f31.results.toList env h K, fun _ _ _ => False, fun env h => dRes Try.prog Try.f31.results.toList env h K⟩ := by kernel_rfl
def E_quorum_Quorum_beats_of (f : Option Addr → Int → Heap → (Sl → Heap → Prop) → Prop) : List Value → Heap → (Value → Heap → Prop) → Prop
  | [v0, v1], h, K => dec1 .ptr v0 fun (q1 : Option Addr) =>
  dec1 (.int .i64) v1 fun (span2 : Int) =>
  f q1 span2 h (fun (r0 : Sl) (h : Heap) => K (.slice r0.ptr r0.len r0.cap) h)
  | _, _, _ => False
abbrev E_quorum_Quorum_beats := E_quorum_Quorum_beats_of F_quorum_Quorum_beats
theorem E_quorum_Quorum_beats.right : IsRight Try.prog 31 E_quorum_Quorum_beats := by
  refine isRight fun vs K w hh => ?_
  match vs, hh with
  | [v0, v1], hh =>
    unfold E_quorum_Quorum_beats E_quorum_Quorum_beats_of at hh
    replace hh := dec1_sound hh; obtain ⟨q1, rfl, hh⟩ := hh
    replace hh := dec1_sound hh; obtain ⟨span2, rfl, hh⟩ := hh
    unfold F_quorum_Quorum_beats at hh
    exact calls_den (fn1_right ok52 E_quorum_Quorum_send.right noFns_right) plan31 _ w K Try.func31 (by kernel_rfl) (by kernel_rfl) (Eq.mp (F_quorum_Quorum_beats.eq F_quorum_Quorum_send q1 span2 w.heap K) hh)
theorem ok31 : okFn Try.prog 31 = true := by kernel_rfl
end Go.Proofs.Ytigcpkejjjgkeaa.V
namespace Go.Proofs.Ytigcpkejjjgkeaa.V
open Go Go.RowKit
set_option linter.unusedVariables false
set_option maxRecDepth 100000
def F_quorum_Quorum_Tick_of (f28_ : Option Addr → Heap → (Sl → Heap → Prop) → Prop) (f29_ : Option Addr → Int → Heap → (Sl → Heap → Prop) → Prop) (f30_ : Option Addr → Heap → (Bool → Heap → Prop) → Prop) (f31_ : Option Addr → Int → Heap → (Sl → Heap → Prop) → Prop) (q1 : Option Addr) (span2 : Int) (h : Heap) (Q : Sl → Heap → Prop) : Prop :=
  nn q1 fun (a3 : Addr) =>
  ld [.int .i64] (a3.add 3) h fun (v4 : Int) =>
  jn [(5, .one .sl)] (fun (l13 : Sl) (h14 : Heap) =>
  f30_ q1 h14 fun (r15 : Bool) (h16 : Heap) =>
  brr (!r15)
  (Q l13 h16)
  (nn q1 fun (a17 : Addr) =>
  ld [.int .u64] (a17.add 14) h16 fun (v18 : Int) =>
  nn q1 fun (a19 : Addr) =>
  ld [.int .u64] (a19.add 15) h16 fun (v20 : Int) =>
  jn [] (fun  (h32 : Heap) =>
  f31_ q1 span2 h32 fun (r33 : Sl) (h34 : Heap) =>
  app 66 22 208 (.agg #[.int .i64 0, .int .i64 0, .int .i64 0, .int .i64 0, .int .u64 0, .int .u64 0, .int .u64 0, .int .u64 0, .int .i64 0, .int .u64 0, .slice none 0 0, .int .i64 0, .int .u64 0, .string (⟨#[]⟩ : ByteArray), .string (⟨#[]⟩ : ByteArray), .int .u64 0, .int .u64 0, .int .u64 0, .int .i64 0, .int .i64 0, .int .i64 0, .int .i64 0]) l13 r33.ptr r33.len h34 fun (s35 : Sl) (h36 : Heap) =>
  Q s35 h36) (fun (j21 : Heap → Prop) =>
  brr (v18 == v20)
  (nn q1 fun (a22 : Addr) =>
  ld [.int .u64] (a22.add 14) h16 fun (v23 : Int) =>
  brr (decide (v23 ≥ 1099511627776))
  (Q l13 h16)
  (nn q1 fun (a24 : Addr) =>
  ld [.int .u64] (a24.add 14) h16 fun (v25 : Int) =>
  nn q1 fun (a26 : Addr) =>
  st (a26.add 14) [.int .u64 (IntKind.u64.wrap (v25 + 1))] h16 fun (h27 : Heap) =>
  nn q1 fun (a28 : Addr) =>
  ld [.map] (a28.add 19) h27 fun (v29 : Option Nat) =>
  mclr v29 h27 fun (h31 : Heap) =>
  j21 h31))
  (j21 h16)))) (fun (j5 : Sl → Heap → Prop) =>
  brr (v4 == 1)
  (f28_ q1 h fun (r6 : Sl) (h7 : Heap) =>
  j5 r6 h7)
  (jn [(5, .one .sl)] (fun (l11 : Sl) (h12 : Heap) =>
  j5 l11 h12) (fun (j8 : Sl → Heap → Prop) =>
  brr (v4 == 2)
  (f29_ q1 span2 h fun (r9 : Sl) (h10 : Heap) =>
  j8 r9 h10)
  (j8 (⟨none, 0, 0⟩ : Sl) h))))
def F_quorum_Quorum_Tick (q1 : Option Addr) (span2 : Int) (h : Heap) (Q : Sl → Heap → Prop) : Prop := F_quorum_Quorum_Tick_of F_quorum_Quorum_prepares F_quorum_Quorum_writes F_quorum_Quorum_Holds F_quorum_Quorum_beats q1 span2 h Q
def plan11 : Plan := .s (.r [0, 1]) (.s (.r [0, 1, 5]) (.s (.s (.r [0, 1, 5, 9]) (.b (.s (.r [0, 1, 5, 9, 10]) (.cj [(5, .one .sl)] [0, 1] (.r [0, 1, 5]) (.s (.r [0, 1, 5, 14]) (.cj [(5, .one .sl)] [0, 1] (.r [0, 1, 5]) .z)))))) (.s (.s (.r [0, 1, 5, 21]) (.c (.s (.r [4]) .z) .z)) (.s (.s (.d [0, 1, 3, 7, 0, 16, 48, 112, 255] [[0, 1, 2, 3, 4, 5, 6, 7, 8]] [0, 1, 5, 31]) (.cj [] [0, 1, 5] (.s (.s (.r [0, 1, 5, 36]) (.c (.s (.r [4]) .z) .z)) (.s (.r [0, 1, 5]) (.r [0, 1, 5]))) .z)) (.s (.r [4]) .z)))))
theorem F_quorum_Quorum_Tick.eq (f28_ : Option Addr → Heap → (Sl → Heap → Prop) → Prop) (f29_ : Option Addr → Int → Heap → (Sl → Heap → Prop) → Prop) (f30_ : Option Addr → Heap → (Bool → Heap → Prop) → Prop) (f31_ : Option Addr → Int → Heap → (Sl → Heap → Prop) → Prop) (q1 : Option Addr) (span2 : Int) (h : Heap) (K : Value → Heap → Prop) : F_quorum_Quorum_Tick_of f28_ f29_ f30_ f31_ q1 span2 h (fun (r0 : Sl) (h : Heap) => K (.slice r0.ptr r0.len r0.cap) h) =
    den Try.prog (fn1 28 (E_quorum_Quorum_prepares_of f28_) (fn1 29 (E_quorum_Quorum_writes_of f29_) (fn1 30 (E_quorum_Quorum_Holds_of f30_) (fn1 31 (E_quorum_Quorum_beats_of f31_) noFns)))) Try.f11.ntmps plan11 (bodyOf Try.f11) (args0 0 [(.pointer q1 : Value), (.int .i64 span2 : Value)]) h ⟨fun env h => dRes Try.prog Try.f11.results.toList env h K, fun _ _ _ => False, fun env h => dRes Try.prog Try.f11.results.toList env h K⟩ := by kernel_rfl
def E_quorum_Quorum_Tick_of (f : Option Addr → Int → Heap → (Sl → Heap → Prop) → Prop) : List Value → Heap → (Value → Heap → Prop) → Prop
  | [v0, v1], h, K => dec1 .ptr v0 fun (q1 : Option Addr) =>
  dec1 (.int .i64) v1 fun (span2 : Int) =>
  f q1 span2 h (fun (r0 : Sl) (h : Heap) => K (.slice r0.ptr r0.len r0.cap) h)
  | _, _, _ => False
abbrev E_quorum_Quorum_Tick := E_quorum_Quorum_Tick_of F_quorum_Quorum_Tick
theorem E_quorum_Quorum_Tick.right : IsRight Try.prog 11 E_quorum_Quorum_Tick := by
  refine isRight fun vs K w hh => ?_
  match vs, hh with
  | [v0, v1], hh =>
    unfold E_quorum_Quorum_Tick E_quorum_Quorum_Tick_of at hh
    replace hh := dec1_sound hh; obtain ⟨q1, rfl, hh⟩ := hh
    replace hh := dec1_sound hh; obtain ⟨span2, rfl, hh⟩ := hh
    unfold F_quorum_Quorum_Tick at hh
    exact calls_den (fn1_right ok28 E_quorum_Quorum_prepares.right (fn1_right ok29 E_quorum_Quorum_writes.right (fn1_right ok30 E_quorum_Quorum_Holds.right (fn1_right ok31 E_quorum_Quorum_beats.right noFns_right)))) plan11 _ w K Try.func11 (by kernel_rfl) (by kernel_rfl) (Eq.mp (F_quorum_Quorum_Tick.eq F_quorum_Quorum_prepares F_quorum_Quorum_writes F_quorum_Quorum_Holds F_quorum_Quorum_beats q1 span2 w.heap K) hh)
theorem ok11 : okFn Try.prog 11 = true := by kernel_rfl
end Go.Proofs.Ytigcpkejjjgkeaa.V
namespace Go.Proofs.Ytigcpkejjjgkeaa.V
open Go Go.RowKit
set_option linter.unusedVariables false
set_option maxRecDepth 100000
def F_quorum_Quorum_Propose_of (f25_ : Sl → Heap → (Sl → Heap → Prop) → Prop) (f27_ : Option Addr → Int → Int → Heap → (Sl → Heap → Prop) → Prop) (q1 : Option Addr) (value2 : Sl) (span3 : Int) (h : Heap) (Q : Sl → Bool → Heap → Prop) : Prop :=
  jn [(20, .one .bool)] (fun (x9 : Bool) (h10 : Heap) =>
  brr x9
  (Q (⟨none, 0, 0⟩ : Sl) false h10)
  (f25_ value2 h10 fun (r11 : Sl) (h12 : Heap) =>
  nn q1 fun (a13 : Addr) =>
  st (a13.add 10) [.slice r11.ptr r11.len r11.cap] h12 fun (h14 : Heap) =>
  nn q1 fun (a15 : Addr) =>
  ld [.int .u64] ((a15.add 8).add 1) h14 fun (v16 : Int) =>
  f27_ q1 (IntKind.u64.wrap (v16 + 1)) span3 h14 fun (r17 : Sl) (h18 : Heap) =>
  Q r17 true h18)) (fun (j4 : Bool → Heap → Prop) =>
  nn q1 fun (a5 : Addr) =>
  ld [.int .i64] (a5.add 3) h fun (v6 : Int) =>
  brr (v6 != 3)
  (j4 true h)
  (nn q1 fun (a7 : Addr) =>
  ld [.int .u64] ((a7.add 8).add 1) h fun (v8 : Int) =>
  j4 (decide (v8 ≥ 1099511627776)) h))
def F_quorum_Quorum_Propose (q1 : Option Addr) (value2 : Sl) (span3 : Int) (h : Heap) (Q : Sl → Bool → Heap → Prop) : Prop := F_quorum_Quorum_Propose_of F_slices_Clone_cbaad F_quorum_Quorum_write q1 value2 span3 h Q
def plan21 : Plan := .s (.r [0, 1, 2]) (.s (.s (.rj [(20, .one .bool)] [0, 1, 2]) (.c (.s (.r [6, 7]) .z) .z)) (.s (.r [0, 2]) (.s (.r [6, 7]) .z)))
theorem F_quorum_Quorum_Propose.eq (f25_ : Sl → Heap → (Sl → Heap → Prop) → Prop) (f27_ : Option Addr → Int → Int → Heap → (Sl → Heap → Prop) → Prop) (q1 : Option Addr) (value2 : Sl) (span3 : Int) (h : Heap) (K : Value → Heap → Prop) : F_quorum_Quorum_Propose_of f25_ f27_ q1 value2 span3 h (fun (r0 : Sl) (r1 : Bool) (h : Heap) => K (.tuple #[.slice r0.ptr r0.len r0.cap, .bool r1]) h) =
    den Try.prog (fn1 25 (E_slices_Clone_cbaad_of f25_) (fn1 27 (E_quorum_Quorum_write_of f27_) noFns)) Try.f21.ntmps plan21 (bodyOf Try.f21) (args0 0 [(.pointer q1 : Value), (.slice value2.ptr value2.len value2.cap : Value), (.int .i64 span3 : Value)]) h ⟨fun env h => dRes Try.prog Try.f21.results.toList env h K, fun _ _ _ => False, fun env h => dRes Try.prog Try.f21.results.toList env h K⟩ := by kernel_rfl
def E_quorum_Quorum_Propose_of (f : Option Addr → Sl → Int → Heap → (Sl → Bool → Heap → Prop) → Prop) : List Value → Heap → (Value → Heap → Prop) → Prop
  | [v0, v1, v2], h, K => dec1 .ptr v0 fun (q1 : Option Addr) =>
  dec1 .sl v1 fun (value2 : Sl) =>
  dec1 (.int .i64) v2 fun (span3 : Int) =>
  f q1 value2 span3 h (fun (r0 : Sl) (r1 : Bool) (h : Heap) => K (.tuple #[.slice r0.ptr r0.len r0.cap, .bool r1]) h)
  | _, _, _ => False
abbrev E_quorum_Quorum_Propose := E_quorum_Quorum_Propose_of F_quorum_Quorum_Propose
theorem E_quorum_Quorum_Propose.right : IsRight Try.prog 21 E_quorum_Quorum_Propose := by
  refine isRight fun vs K w hh => ?_
  match vs, hh with
  | [v0, v1, v2], hh =>
    unfold E_quorum_Quorum_Propose E_quorum_Quorum_Propose_of at hh
    replace hh := dec1_sound hh; obtain ⟨q1, rfl, hh⟩ := hh
    replace hh := dec1_sound hh; obtain ⟨value2, rfl, hh⟩ := hh
    replace hh := dec1_sound hh; obtain ⟨span3, rfl, hh⟩ := hh
    unfold F_quorum_Quorum_Propose at hh
    exact calls_den (fn1_right ok25 E_slices_Clone_cbaad.right (fn1_right ok27 E_quorum_Quorum_write.right noFns_right)) plan21 _ w K Try.func21 (by kernel_rfl) (by kernel_rfl) (Eq.mp (F_quorum_Quorum_Propose.eq F_slices_Clone_cbaad F_quorum_Quorum_write q1 value2 span3 w.heap K) hh)
theorem ok21 : okFn Try.prog 21 = true := by kernel_rfl
end Go.Proofs.Ytigcpkejjjgkeaa.V
namespace Go.Proofs.Ytigcpkejjjgkeaa.V
open Go Go.RowKit
set_option linter.unusedVariables false
set_option maxRecDepth 100000
def F_quorum_Quorum_Chosen_of (f25_ : Sl → Heap → (Sl → Heap → Prop) → Prop) (q1 : Option Addr) (h : Heap) (Q : Int → Int → Sl → Heap → Prop) : Prop :=
  al 35 [.int .u64 0, .int .u64 0] h fun (a2 : Addr) (h3 : Heap) =>
  nn q1 fun (a4 : Addr) =>
  ld [.int .u64, .int .u64] (a4.add 11) h3 fun (v5 v6 : Int) =>
  nn q1 fun (a7 : Addr) =>
  ld [.sl] (a7.add 13) h3 fun (v8 : Sl) =>
  f25_ v8 h3 fun (r9 : Sl) (h10 : Heap) =>
  cellsAre h10 (a4.add 11) [.int .u64 v5, .int .u64 v6] ∧
  st a2 [.int .u64 v5, .int .u64 v6] h10 fun (h11 : Heap) =>
  ld [.int .u64, .int .u64] a2 h11 fun (v12 v13 : Int) =>
  Q v12 v13 r9 h11
def F_quorum_Quorum_Chosen (q1 : Option Addr) (h : Heap) (Q : Int → Int → Sl → Heap → Prop) : Prop := F_quorum_Quorum_Chosen_of F_slices_Clone_cbaad q1 h Q
def plan45 : Plan := .s (.r [0, 2]) (.s (.d [0, 1, 3, 7, 0, 16, 48, 112, 240, 511, 1023] [[0, 1, 2, 3, 4, 5, 6, 7, 8, 9, 10]] [2, 3]) .z)
theorem F_quorum_Quorum_Chosen.eq (f25_ : Sl → Heap → (Sl → Heap → Prop) → Prop) (q1 : Option Addr) (h : Heap) (K : Value → Heap → Prop) : F_quorum_Quorum_Chosen_of f25_ q1 h (fun (r0 r1 : Int) (r2 : Sl) (h : Heap) => K (.tuple #[.agg #[.int .u64 r0, .int .u64 r1], .slice r2.ptr r2.len r2.cap]) h) =
    den Try.prog (fn1 25 (E_slices_Clone_cbaad_of f25_) noFns) Try.f45.ntmps plan45 (bodyOf Try.f45) (args0 0 [(.pointer q1 : Value)]) h ⟨fun env h => dRes Try.prog Try.f45.results.toList env h K, fun _ _ _ => False, fun env h => dRes Try.prog Try.f45.results.toList env h K⟩ := by kernel_rfl
def E_quorum_Quorum_Chosen_of (f : Option Addr → Heap → (Int → Int → Sl → Heap → Prop) → Prop) : List Value → Heap → (Value → Heap → Prop) → Prop
  | [v0], h, K => dec1 .ptr v0 fun (q1 : Option Addr) =>
  f q1 h (fun (r0 r1 : Int) (r2 : Sl) (h : Heap) => K (.tuple #[.agg #[.int .u64 r0, .int .u64 r1], .slice r2.ptr r2.len r2.cap]) h)
  | _, _, _ => False
abbrev E_quorum_Quorum_Chosen := E_quorum_Quorum_Chosen_of F_quorum_Quorum_Chosen
theorem E_quorum_Quorum_Chosen.right : IsRight Try.prog 45 E_quorum_Quorum_Chosen := by
  refine isRight fun vs K w hh => ?_
  match vs, hh with
  | [v0], hh =>
    unfold E_quorum_Quorum_Chosen E_quorum_Quorum_Chosen_of at hh
    replace hh := dec1_sound hh; obtain ⟨q1, rfl, hh⟩ := hh
    unfold F_quorum_Quorum_Chosen at hh
    exact calls_den (fn1_right ok25 E_slices_Clone_cbaad.right noFns_right) plan45 _ w K Try.func45 (by kernel_rfl) (by kernel_rfl) (Eq.mp (F_quorum_Quorum_Chosen.eq F_slices_Clone_cbaad q1 w.heap K) hh)
theorem ok45 : okFn Try.prog 45 = true := by kernel_rfl
end Go.Proofs.Ytigcpkejjjgkeaa.V
namespace Go.Proofs.Ytigcpkejjjgkeaa.V
open Go Go.RowKit
set_option linter.unusedVariables false
set_option maxRecDepth 100000
def F_quorum_Quorum_Round_of  (q1 : Option Addr) (h : Heap) (Q : Int → Int → Heap → Prop) : Prop :=
  nn q1 fun (a2 : Addr) =>
  ld [.int .u64] (a2.add 14) h fun (v3 : Int) =>
  nn q1 fun (a4 : Addr) =>
  ld [.int .u64] (a4.add 15) h fun (v5 : Int) =>
  Q v3 v5 h
def F_quorum_Quorum_Round (q1 : Option Addr) (h : Heap) (Q : Int → Int → Heap → Prop) : Prop := F_quorum_Quorum_Round_of  q1 h Q
def plan34 : Plan := .s (.r [0]) (.s (.d [0, 1, 3, 7, 0, 16, 48, 112, 15, 511] [[0, 1, 2, 3, 4, 5, 6, 7, 8, 9]] [2, 3]) .z)
theorem F_quorum_Quorum_Round.eq  (q1 : Option Addr) (h : Heap) (K : Value → Heap → Prop) : F_quorum_Quorum_Round_of  q1 h (fun (r0 r1 : Int) (h : Heap) => K (.tuple #[.int .u64 r0, .int .u64 r1]) h) =
    den Try.prog noFns Try.f34.ntmps plan34 (bodyOf Try.f34) (args0 0 [(.pointer q1 : Value)]) h ⟨fun env h => dRes Try.prog Try.f34.results.toList env h K, fun _ _ _ => False, fun env h => dRes Try.prog Try.f34.results.toList env h K⟩ := by kernel_rfl
def E_quorum_Quorum_Round_of (f : Option Addr → Heap → (Int → Int → Heap → Prop) → Prop) : List Value → Heap → (Value → Heap → Prop) → Prop
  | [v0], h, K => dec1 .ptr v0 fun (q1 : Option Addr) =>
  f q1 h (fun (r0 r1 : Int) (h : Heap) => K (.tuple #[.int .u64 r0, .int .u64 r1]) h)
  | _, _, _ => False
abbrev E_quorum_Quorum_Round := E_quorum_Quorum_Round_of F_quorum_Quorum_Round
theorem E_quorum_Quorum_Round.right : IsRight Try.prog 34 E_quorum_Quorum_Round := by
  refine isRight fun vs K w hh => ?_
  match vs, hh with
  | [v0], hh =>
    unfold E_quorum_Quorum_Round E_quorum_Quorum_Round_of at hh
    replace hh := dec1_sound hh; obtain ⟨q1, rfl, hh⟩ := hh
    unfold F_quorum_Quorum_Round at hh
    exact calls_den noFns_right plan34 _ w K Try.func34 (by kernel_rfl) (by kernel_rfl) (Eq.mp (F_quorum_Quorum_Round.eq  q1 w.heap K) hh)
theorem ok34 : okFn Try.prog 34 = true := by kernel_rfl
end Go.Proofs.Ytigcpkejjjgkeaa.V
namespace Go.Proofs.Ytigcpkejjjgkeaa.V
open Go Go.RowKit
set_option linter.unusedVariables false
set_option maxRecDepth 100000
def F_quorum_Quorum_Phase_of  (q1 : Option Addr) (h : Heap) (Q : Int → Heap → Prop) : Prop :=
  nn q1 fun (a2 : Addr) =>
  ld [.int .i64] (a2.add 3) h fun (v3 : Int) =>
  Q v3 h
def F_quorum_Quorum_Phase (q1 : Option Addr) (h : Heap) (Q : Int → Heap → Prop) : Prop := F_quorum_Quorum_Phase_of  q1 h Q
def plan13 : Plan := .s (.r [0]) (.s (.r [2]) .z)
theorem F_quorum_Quorum_Phase.eq  (q1 : Option Addr) (h : Heap) (K : Value → Heap → Prop) : F_quorum_Quorum_Phase_of  q1 h (fun (r0 : Int) (h : Heap) => K (.int .i64 r0) h) =
    den Try.prog noFns Try.f13.ntmps plan13 (bodyOf Try.f13) (args0 0 [(.pointer q1 : Value)]) h ⟨fun env h => dRes Try.prog Try.f13.results.toList env h K, fun _ _ _ => False, fun env h => dRes Try.prog Try.f13.results.toList env h K⟩ := by kernel_rfl
def E_quorum_Quorum_Phase_of (f : Option Addr → Heap → (Int → Heap → Prop) → Prop) : List Value → Heap → (Value → Heap → Prop) → Prop
  | [v0], h, K => dec1 .ptr v0 fun (q1 : Option Addr) =>
  f q1 h (fun (r0 : Int) (h : Heap) => K (.int .i64 r0) h)
  | _, _, _ => False
abbrev E_quorum_Quorum_Phase := E_quorum_Quorum_Phase_of F_quorum_Quorum_Phase
theorem E_quorum_Quorum_Phase.right : IsRight Try.prog 13 E_quorum_Quorum_Phase := by
  refine isRight fun vs K w hh => ?_
  match vs, hh with
  | [v0], hh =>
    unfold E_quorum_Quorum_Phase E_quorum_Quorum_Phase_of at hh
    replace hh := dec1_sound hh; obtain ⟨q1, rfl, hh⟩ := hh
    unfold F_quorum_Quorum_Phase at hh
    exact calls_den noFns_right plan13 _ w K Try.func13 (by kernel_rfl) (by kernel_rfl) (Eq.mp (F_quorum_Quorum_Phase.eq  q1 w.heap K) hh)
theorem ok13 : okFn Try.prog 13 = true := by kernel_rfl
end Go.Proofs.Ytigcpkejjjgkeaa.V
namespace Go.Proofs.Ytigcpkejjjgkeaa.V
open Go Go.RowKit
set_option linter.unusedVariables false
set_option maxRecDepth 100000
def F_quorum_Quorum_Epoch_of  (q1 : Option Addr) (h : Heap) (Q : Int → Heap → Prop) : Prop :=
  nn q1 fun (a2 : Addr) =>
  ld [.int .u64] (a2.add 4) h fun (v3 : Int) =>
  Q v3 h
def F_quorum_Quorum_Epoch (q1 : Option Addr) (h : Heap) (Q : Int → Heap → Prop) : Prop := F_quorum_Quorum_Epoch_of  q1 h Q
def plan50 : Plan := .s (.r [0]) (.s (.r [2]) .z)
theorem F_quorum_Quorum_Epoch.eq  (q1 : Option Addr) (h : Heap) (K : Value → Heap → Prop) : F_quorum_Quorum_Epoch_of  q1 h (fun (r0 : Int) (h : Heap) => K (.int .u64 r0) h) =
    den Try.prog noFns Try.f50.ntmps plan50 (bodyOf Try.f50) (args0 0 [(.pointer q1 : Value)]) h ⟨fun env h => dRes Try.prog Try.f50.results.toList env h K, fun _ _ _ => False, fun env h => dRes Try.prog Try.f50.results.toList env h K⟩ := by kernel_rfl
def E_quorum_Quorum_Epoch_of (f : Option Addr → Heap → (Int → Heap → Prop) → Prop) : List Value → Heap → (Value → Heap → Prop) → Prop
  | [v0], h, K => dec1 .ptr v0 fun (q1 : Option Addr) =>
  f q1 h (fun (r0 : Int) (h : Heap) => K (.int .u64 r0) h)
  | _, _, _ => False
abbrev E_quorum_Quorum_Epoch := E_quorum_Quorum_Epoch_of F_quorum_Quorum_Epoch
theorem E_quorum_Quorum_Epoch.right : IsRight Try.prog 50 E_quorum_Quorum_Epoch := by
  refine isRight fun vs K w hh => ?_
  match vs, hh with
  | [v0], hh =>
    unfold E_quorum_Quorum_Epoch E_quorum_Quorum_Epoch_of at hh
    replace hh := dec1_sound hh; obtain ⟨q1, rfl, hh⟩ := hh
    unfold F_quorum_Quorum_Epoch at hh
    exact calls_den noFns_right plan50 _ w K Try.func50 (by kernel_rfl) (by kernel_rfl) (Eq.mp (F_quorum_Quorum_Epoch.eq  q1 w.heap K) hh)
theorem ok50 : okFn Try.prog 50 = true := by kernel_rfl
end Go.Proofs.Ytigcpkejjjgkeaa.V
namespace Go.Proofs.Ytigcpkejjjgkeaa.V
open Go Go.RowKit
set_option linter.unusedVariables false
set_option maxRecDepth 100000
def F_quorum_Quorum_Seen_of  (q1 : Option Addr) (h : Heap) (Q : Int → Heap → Prop) : Prop :=
  nn q1 fun (a2 : Addr) =>
  ld [.int .u64] (a2.add 5) h fun (v3 : Int) =>
  Q v3 h
def F_quorum_Quorum_Seen (q1 : Option Addr) (h : Heap) (Q : Int → Heap → Prop) : Prop := F_quorum_Quorum_Seen_of  q1 h Q
def plan51 : Plan := .s (.r [0]) (.s (.r [2]) .z)
theorem F_quorum_Quorum_Seen.eq  (q1 : Option Addr) (h : Heap) (K : Value → Heap → Prop) : F_quorum_Quorum_Seen_of  q1 h (fun (r0 : Int) (h : Heap) => K (.int .u64 r0) h) =
    den Try.prog noFns Try.f51.ntmps plan51 (bodyOf Try.f51) (args0 0 [(.pointer q1 : Value)]) h ⟨fun env h => dRes Try.prog Try.f51.results.toList env h K, fun _ _ _ => False, fun env h => dRes Try.prog Try.f51.results.toList env h K⟩ := by kernel_rfl
def E_quorum_Quorum_Seen_of (f : Option Addr → Heap → (Int → Heap → Prop) → Prop) : List Value → Heap → (Value → Heap → Prop) → Prop
  | [v0], h, K => dec1 .ptr v0 fun (q1 : Option Addr) =>
  f q1 h (fun (r0 : Int) (h : Heap) => K (.int .u64 r0) h)
  | _, _, _ => False
abbrev E_quorum_Quorum_Seen := E_quorum_Quorum_Seen_of F_quorum_Quorum_Seen
theorem E_quorum_Quorum_Seen.right : IsRight Try.prog 51 E_quorum_Quorum_Seen := by
  refine isRight fun vs K w hh => ?_
  match vs, hh with
  | [v0], hh =>
    unfold E_quorum_Quorum_Seen E_quorum_Quorum_Seen_of at hh
    replace hh := dec1_sound hh; obtain ⟨q1, rfl, hh⟩ := hh
    unfold F_quorum_Quorum_Seen at hh
    exact calls_den noFns_right plan51 _ w K Try.func51 (by kernel_rfl) (by kernel_rfl) (Eq.mp (F_quorum_Quorum_Seen.eq  q1 w.heap K) hh)
theorem ok51 : okFn Try.prog 51 = true := by kernel_rfl
end Go.Proofs.Ytigcpkejjjgkeaa.V
