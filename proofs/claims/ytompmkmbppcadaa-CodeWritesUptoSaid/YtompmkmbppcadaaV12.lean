/-
  THE HEAP BY BLOCKS: which blocks a part of the program has made for itself and what they hold ('Own'); the rules for making, reading, writing, appending and looping over such blocks.
-/
import Derived.Test.YtompmkmbppcadaaV11
namespace Go.Proofs.Ytompmkmbppcadaa.V
open Go Go.RowKit
set_option linter.unusedVariables false
set_option linter.unusedSimpArgs false

abbrev pt (b o : Nat) : Addr := ⟨b, o, none⟩
theorem pt_add (b o i : Nat) : (pt b o).add i = pt b (o + i) := by
  unfold Addr.add
  split
  · rename_i h; subst h; rfl
  · rfl
/-- A block's cells; none of them may not be written. -/
def Blk (h : Heap) (b : Nat) (cs : List Value) : Prop := ∃ T f, h[b]? = some (.cells cs.toArray T f) ∧ (f.1 = f.2 ∨ cs.length ≤ f.1)
abbrev Ent := Option Nat × List Value
/-- All that was there is as it was; the blocks of the list are new, hold this, and are not one another. -/
structure Own (h0 h : Heap) (L : List Ent) : Prop where
  kept : KeptH h0 h
  blk : ∀ p ∈ L, ∀ b, p.1 = some b → h0.size ≤ b ∧ Blk h b p.2
  dis : L.Pairwise fun p q => ∀ b, p.1 = some b → q.1 ≠ some b
theorem Own.none (h : Heap) : Own h h [] := ⟨KeptH.refl h, by simp, List.Pairwise.nil⟩
theorem Blk.lt {h : Heap} {b : Nat} {cs : List Value} (B : Blk h b cs) : b < h.size := by
  obtain ⟨T, f, e, _⟩ := B
  exact (Array.getElem?_eq_some_iff.1 e).1
theorem Own.at {h0 h : Heap} {L : List Ent} (O : Own h0 h L) {i b : Nat} {cs : List Value} (hi : L[i]? = some (some b, cs)) : h0.size ≤ b ∧ Blk h b cs :=
  O.blk _ (List.mem_of_getElem? hi) b rfl
theorem Own.sub {h0 h : Heap} {L M : List Ent} (O : Own h0 h L) (s : M.Sublist L) : Own h0 h M := ⟨O.kept, fun p hp => O.blk p (s.subset hp), O.dis.sublist s⟩
theorem Own.drop {h0 h : Heap} {L : List Ent} {e : Ent} (O : Own h0 h (e :: L)) : Own h0 h L := O.sub (List.sublist_cons_self e L)
theorem Own.nilAt {h0 h : Heap} {L : List Ent} (O : Own h0 h L) (cs : List Value) : Own h0 h ((.none, cs) :: L) :=
  ⟨O.kept, by intro p hp b hb; rcases List.mem_cons.1 hp with rfl | hp; · simp at hb
              · exact O.blk p hp b hb, List.pairwise_cons.2 ⟨fun _ _ b hb => by simp at hb, O.dis⟩⟩
theorem Own.perm {h0 h : Heap} {L M : List Ent} (O : Own h0 h L) (s : M.Perm L) : Own h0 h M :=
  ⟨O.kept, fun p hp => O.blk p (s.subset hp), (s.pairwise_iff fun {p q} hpq b hq hp => hpq b hp hq).2 O.dis⟩
theorem Own.push {h0 h : Heap} {L : List Ent} (O : Own h0 h L) (cs : List Value) (T : TypeId) (f : Nat × Nat) (hf : f.1 = f.2 ∨ cs.length ≤ f.1) : Own h0 (h.push (.cells cs.toArray T f)) ((some h.size, cs) :: L) := by
  refine ⟨⟨by simp; have := O.kept.size; omega, fun k hk => ?_⟩, ?_, List.pairwise_cons.2 ⟨?_, O.dis⟩⟩
  · have := O.kept.size
    rw [Array.getElem?_push, if_neg (by omega)]; exact O.kept.at_ k hk
  · intro p hp b hb
    rcases List.mem_cons.1 hp with rfl | hp
    · simp at hb; subst hb
      exact ⟨O.kept.size, T, f, by simp, hf⟩
    · obtain ⟨h1, h2⟩ := O.blk p hp b hb
      refine ⟨h1, ?_⟩
      have := h2.lt
      obtain ⟨T', f', e, hf'⟩ := h2
      exact ⟨T', f', by rw [Array.getElem?_push, if_neg (by omega)]; exact e, hf'⟩
  · intro q hq b hb hc
    simp at hb; subst hb
    exact absurd (O.blk q hq _ hc).2.lt (by omega)
theorem al_own {T : TypeId} {cs : List Value} {h : Heap} {K : Addr → Heap → Prop} {h0 : Heap} {L : List Ent} (O : Own h0 h L)
    (k : ∀ b h', Own h0 h' ((some b, cs) :: L) → K (pt b 0) h') : al T cs h K := k h.size _ (O.push cs T (0, 0) (.inl rfl))

/-! ### reading -/
theorem cellH_blk {h : Heap} {b o : Nat} {cs : List Value} (B : Blk h b cs) : cellH h (pt b o) = cs[o]? := by
  obtain ⟨T, f, e, _⟩ := B
  simp [cellH, e]
theorem cellsAre_blk {h : Heap} {b : Nat} {cs : List Value} (B : Blk h b cs) (o n : Nat) : cellsAre h (pt b o) ((cs.drop o).take n) := by
  refine cellsAre_of_get fun j v hv => ?_
  rw [pt_add, cellH_blk B]
  rw [List.getElem?_take] at hv
  split at hv
  · simpa using hv
  · simp at hv
/-- What a typed reading gives, by the cells themselves. -/
def ldL : (ks : List Kd) → List Value → Fn ks Prop → Prop
  | [], _, K => K
  | k :: ks, v :: vs, K => ∃ x : k.T, v = k.enc x ∧ ldL ks vs (K x)
  | _ :: _, [], _ => False
theorem ld_are : ∀ {ks : List Kd} {cs : List Value} {a : Addr} {h : Heap} {K : Fn ks Prop}, cellsAre h a cs → ldL ks cs K → ld ks a h K
  | [], _, _, _, _, _, hl => hl
  | k :: ks, [], _, _, _, _, hl => hl.elim
  | k :: ks, v :: vs, a, h, K, hc, hl => by
    obtain ⟨x, rfl, hl⟩ := hl
    exact ⟨x, hc.1, ld_are hc.2 hl⟩
theorem Own.ld {h0 h : Heap} {L : List Ent} (O : Own h0 h L) (i : Nat) {b o : Nat} {cs : List Value} {ks : List Kd} {K : Fn ks Prop} (hi : L[i]? = some (some b, cs)) (hl : ldL ks (cs.drop o) K) : ld ks (pt b o) h K := by
  have := cellsAre_blk (O.at hi).2 o (cs.drop o).length
  rw [List.take_length] at this
  exact ld_are this hl
theorem cellH_kept {h0 h : Heap} {a : Addr} {v : Value} (k : KeptH h0 h) (hc : cellH h0 a = some v) : cellH h a = some v := by
  have hb : a.block < h0.size := by
    unfold cellH at hc
    split at hc
    · rename_i e; exact (Array.getElem?_eq_some_iff.1 e).1
    · simp at hc
  unfold cellH at hc ⊢
  rw [k.at_ _ hb]
  exact hc
theorem cellsAre_kept {h0 h : Heap} (k : KeptH h0 h) : ∀ {cs : List Value} {a : Addr}, cellsAre h0 a cs → cellsAre h a cs
  | [], _, _ => trivial
  | _ :: _, _, hc => ⟨cellH_kept k hc.1, cellsAre_kept k hc.2⟩
theorem rdL_are : ∀ {cs : List Value} {h : Heap} {a : Addr}, cellsAre h a cs → rdL h a cs.length = some cs
  | [], _, _, _ => rfl
  | v :: vs, h, a, hc => by simp [rdL, hc.1, rdL_are hc.2]
theorem cellsAre_take {h : Heap} : ∀ {cs : List Value} {a : Addr} (n : Nat), cellsAre h a cs → cellsAre h a (cs.take n)
  | [], _, n, _ => by simp [cellsAre]
  | v :: vs, a, 0, hc => trivial
  | v :: vs, a, n + 1, hc => ⟨hc.1, cellsAre_take n hc.2⟩
theorem cellsAre_append {h : Heap} : ∀ {cs ds : List Value} {a : Addr}, cellsAre h a cs → cellsAre h (a.add cs.length) ds → cellsAre h a (cs ++ ds)
  | [], _, a, _, hd => by simpa [Addr.add_zero'] using hd
  | v :: vs, ds, a, hc, hd => ⟨hc.1, cellsAre_append hc.2 (by rw [Addr_add_add]; rw [show 1 + vs.length = (v :: vs).length by simp; omega]; exact hd)⟩

/-! ### writing -/
def put : List Value → Nat → List Value → List Value
  | cs, 0, [] => cs
  | [], 0, _ :: _ => []
  | _ :: cs, 0, v :: vs => v :: put cs 0 vs
  | [], _ + 1, _ => []
  | c :: cs, o + 1, vs => c :: put cs o vs
theorem put_nil : ∀ (cs : List Value) (o : Nat), put cs o [] = cs
  | cs, 0 => by cases cs <;> rfl
  | [], _ + 1 => rfl
  | c :: cs, o + 1 => by simp [put, put_nil cs o]
theorem put_cons : ∀ (cs : List Value) (o : Nat) (v : Value) (vs : List Value), o < cs.length → put cs o (v :: vs) = put (cs.set o v) (o + 1) vs
  | [], o, v, vs, h => by simp at h
  | c :: cs, 0, v, vs, _ => by simp [put]
  | c :: cs, o + 1, v, vs, h => by simp only [put, List.set_cons_succ]; rw [put_cons cs o v vs (by simpa using h)]
theorem put_length : ∀ (cs : List Value) (o : Nat) (vs : List Value), (put cs o vs).length = cs.length
  | cs, 0, [] => by cases cs <;> rfl
  | [], 0, _ :: _ => rfl
  | _ :: cs, 0, v :: vs => by simp [put, put_length cs 0 vs]
  | [], _ + 1, vs => by cases vs <;> rfl
  | c :: cs, o + 1, vs => by simp [put, put_length cs o vs]
theorem put_mid : ∀ (us bs cs vs : List Value), bs.length = vs.length → put (us ++ bs ++ cs) us.length vs = us ++ vs ++ cs
  | [], [], cs, [], _ => by cases cs <;> rfl
  | [], [], cs, _ :: _, h => by simp at h
  | [], _ :: _, cs, [], h => by simp at h
  | [], b :: bs, cs, v :: vs, h => by simp [put]; have := put_mid [] bs cs vs (by simpa using h); simpa using this
  | u :: us, bs, cs, vs, h => by simp [put]; have := put_mid us bs cs vs h; simpa using this
theorem setH_own {h0 h : Heap} {L : List Ent} (O : Own h0 h L) (i : Nat) {b o : Nat} {cs : List Value} {v : Value} (hi : L[i]? = some (some b, cs)) : Own h0 (setH h (pt b o) v) (L.set i (some b, cs.set o v)) := by
  obtain ⟨hb, B⟩ := O.at hi
  have hlt := B.lt
  obtain ⟨T, f, e, hf⟩ := B
  have hat : ∀ k, (setH h (pt b o) v)[k]? = if b = k then some (.cells (cs.set o v).toArray T f) else h[k]? := by
    intro k
    unfold setH
    rw [Array.getElem?_modify]
    split
    · rename_i hk; subst hk; simp [e]
    · rfl
  refine ⟨⟨?_, fun k hk => ?_⟩, ?_, ?_⟩
  · have := O.kept.size; simpa [setH] using this
  · rw [hat, if_neg (by omega)]; exact O.kept.at_ k hk
  · intro p hp b' hb'
    obtain ⟨j, hj⟩ := List.mem_iff_getElem?.1 hp
    rw [List.getElem?_set] at hj
    split at hj
    · split at hj
      · simp at hj; subst hj; simp at hb'; subst hb'
        exact ⟨hb, T, f, by rw [hat, if_pos rfl], by simpa using hf⟩
      · simp at hj
    · rename_i hij
      obtain ⟨h1, T', f', e', hf'⟩ := O.blk p (List.mem_of_getElem? hj) b' hb'
      refine ⟨h1, T', f', ?_, hf'⟩
      have hne : b ≠ b' := by
        intro hbb; subst hbb
        have hil := (List.getElem?_eq_some_iff.1 hi).1
        have hjl := (List.getElem?_eq_some_iff.1 hj).1
        have := List.pairwise_iff_getElem.1 O.dis
        rcases Nat.lt_or_gt_of_ne hij with hlt | hlt
        · have := this i j hil hjl hlt b (by rw [(List.getElem?_eq_some_iff.1 hi).2])
          rw [(List.getElem?_eq_some_iff.1 hj).2] at this; exact this hb'
        · have := this j i hjl hil hlt b (by rw [(List.getElem?_eq_some_iff.1 hj).2]; exact hb')
          rw [(List.getElem?_eq_some_iff.1 hi).2] at this; exact this rfl
      rw [hat, if_neg hne]; exact e'
  · have key : ∀ k (h1 : k < (L.set i (some b, cs.set o v)).length), ((L.set i (some b, cs.set o v))[k]).1 = (L[k]'(by simpa using h1)).1 := by
      intro k h1
      rw [List.getElem_set]
      split
      · rename_i hik; subst hik; rw [(List.getElem?_eq_some_iff.1 hi).2]
      · rfl
    rw [List.pairwise_iff_getElem]
    intro j k hj hk hjk b' hb'
    rw [key] at hb' ⊢
    exact List.pairwise_iff_getElem.1 O.dis j k (by simpa using hj) (by simpa using hk) hjk b' hb'
theorem wr_own {h0 h : Heap} {L : List Ent} (O : Own h0 h L) {i b o : Nat} {cs : List Value} {v : Value} (hi : L[i]? = some (some b, cs)) (ho : o < cs.length) (hv : oneV v = true) : wr h (pt b o) v := by
  obtain ⟨hb, B⟩ := O.at hi
  refine ⟨hv, ⟨cs[o], by rw [cellH_blk B]; simp [ho]⟩, ?_⟩
  obtain ⟨T, f, e, hf⟩ := B
  simp only [frozenH, e]
  simp only [Bool.and_eq_false_iff, decide_eq_false_iff_not]
  omega
theorem Own.st {h0 : Heap} (i : Nat) {b : Nat} : ∀ {vs : List Value} {h : Heap} {L : List Ent} {o : Nat} {cs : List Value} {K : Heap → Prop} (O : Own h0 h L) (hi : L[i]? = some (some b, cs)) (ho : o + vs.length ≤ cs.length) (hv : vs.all oneV = true)
    (k : ∀ h', Own h0 h' (L.set i (some b, put cs o vs)) → K h'), st (pt b o) vs h K
  | [], h, L, o, cs, K, O, hi, ho, hv, k => by
    refine k h ?_
    rw [put_nil]
    rw [show L.set i (some b, cs) = L by
      apply List.ext_getElem?
      intro j
      rw [List.getElem?_set]
      split
      · rename_i hij; subst hij
        have := (List.getElem?_eq_some_iff.1 hi).1
        rw [if_pos this, hi]
      · rfl]
    exact O
  | v :: vs, h, L, o, cs, K, O, hi, ho, hv, k => by
    simp only [List.length_cons] at ho
    simp only [List.all_cons, Bool.and_eq_true] at hv
    refine ⟨wr_own O hi (by omega) hv.1, ?_⟩
    rw [pt_add]
    refine Own.st i (setH_own O i hi) (cs := cs.set o v) (by rw [List.getElem?_set]; simp; exact (List.getElem?_eq_some_iff.1 hi).1) (by simp; omega) hv.2 ?_
    intro h' O'
    refine k h' ?_
    rw [put_cons _ _ _ _ (by omega)]
    simpa using O'

/-! ### loops -/
theorem wl0 {B : (Heap → Prop) → Heap → Prop} (I : Nat → Heap → Prop) (step : ∀ m h (next : Heap → Prop), (∀ m' h', m' < m → I m' h' → next h') → I m h → B next h) {m : Nat} {h : Heap} (hI : I m h) : wl [] B h := by
  have key : ∀ n h, (∃ m, m < n ∧ I m h) → wit [] B n h := by
    intro n
    induction n with
    | zero => intro h ⟨m, hm, _⟩; omega
    | succ n ih => intro h ⟨m, hm, hI⟩; exact step m h _ (fun m' h' hm' hI' => ih h' ⟨m', by omega, hI'⟩) hI
  exact ⟨m + 1, key (m + 1) h ⟨m, by omega, hI⟩⟩
theorem wl1 {i : Nat} {k : Kd} {B : (k.T → Heap → Prop) → k.T → Heap → Prop} (I : Nat → k.T → Heap → Prop) (step : ∀ m x h (next : k.T → Heap → Prop), (∀ m' x' h', m' < m → I m' x' h' → next x' h') → I m x h → B next x h) {m : Nat} {x : k.T} {h : Heap} (hI : I m x h) : wl [(i, .one k)] B x h := by
  have key : ∀ n x h, (∃ m, m < n ∧ I m x h) → wit [(i, .one k)] B n x h := by
    intro n
    induction n with
    | zero => intro x h ⟨m, hm, _⟩; omega
    | succ n ih => intro x h ⟨m, hm, hI⟩; exact step m x h _ (fun m' x' h' hm' hI' => ih x' h' ⟨m', by omega, hI'⟩) hI
  exact ⟨m + 1, key (m + 1) x h ⟨m, by omega, hI⟩⟩
theorem wl2 {i j : Nat} {k l : Kd} {B : (k.T → l.T → Heap → Prop) → k.T → l.T → Heap → Prop} (I : Nat → k.T → l.T → Heap → Prop)
    (step : ∀ m x y h (next : k.T → l.T → Heap → Prop), (∀ m' x' y' h', m' < m → I m' x' y' h' → next x' y' h') → I m x y h → B next x y h) {m : Nat} {x : k.T} {y : l.T} {h : Heap} (hI : I m x y h) : wl [(i, .one k), (j, .one l)] B x y h := by
  have key : ∀ n x y h, (∃ m, m < n ∧ I m x y h) → wit [(i, .one k), (j, .one l)] B n x y h := by
    intro n
    induction n with
    | zero => intro x y h ⟨m, hm, _⟩; omega
    | succ n ih => intro x y h ⟨m, hm, hI⟩; exact step m x y h _ (fun m' x' y' h' hm' hI' => ih x' y' h' ⟨m', by omega, hI'⟩) hI
  exact ⟨m + 1, key (m + 1) x y h ⟨m, by omega, hI⟩⟩
theorem wl3 {i j j3 : Nat} {k l l3 : Kd} {B : (k.T → l.T → l3.T → Heap → Prop) → k.T → l.T → l3.T → Heap → Prop} (I : Nat → k.T → l.T → l3.T → Heap → Prop)
    (step : ∀ m x y z h (next : k.T → l.T → l3.T → Heap → Prop), (∀ m' x' y' z' h', m' < m → I m' x' y' z' h' → next x' y' z' h') → I m x y z h → B next x y z h) {m : Nat} {x : k.T} {y : l.T} {z : l3.T} {h : Heap} (hI : I m x y z h) : wl [(i, .one k), (j, .one l), (j3, .one l3)] B x y z h := by
  have key : ∀ n x y z h, (∃ m, m < n ∧ I m x y z h) → wit [(i, .one k), (j, .one l), (j3, .one l3)] B n x y z h := by
    intro n
    induction n with
    | zero => intro x y z h ⟨m, hm, _⟩; omega
    | succ n ih => intro x y z h ⟨m, hm, hI⟩; exact step m x y z h _ (fun m' x' y' z' h' hm' hI' => ih x' y' z' h' ⟨m', by omega, hI'⟩) hI
  exact ⟨m + 1, key (m + 1) x y z h ⟨m, by omega, hI⟩⟩
theorem wl4 {i j j3 j4 : Nat} {k l l3 l4 : Kd} {B : (k.T → l.T → l3.T → l4.T → Heap → Prop) → k.T → l.T → l3.T → l4.T → Heap → Prop} (I : Nat → k.T → l.T → l3.T → l4.T → Heap → Prop)
    (step : ∀ m x y z u h (next : k.T → l.T → l3.T → l4.T → Heap → Prop), (∀ m' x' y' z' u' h', m' < m → I m' x' y' z' u' h' → next x' y' z' u' h') → I m x y z u h → B next x y z u h) {m : Nat} {x : k.T} {y : l.T} {z : l3.T} {u : l4.T} {h : Heap} (hI : I m x y z u h) : wl [(i, .one k), (j, .one l), (j3, .one l3), (j4, .one l4)] B x y z u h := by
  have key : ∀ n x y z u h, (∃ m, m < n ∧ I m x y z u h) → wit [(i, .one k), (j, .one l), (j3, .one l3), (j4, .one l4)] B n x y z u h := by
    intro n
    induction n with
    | zero => intro x y z u h ⟨m, hm, _⟩; omega
    | succ n ih => intro x y z u h ⟨m, hm, hI⟩; exact step m x y z u h _ (fun m' x' y' z' u' h' hm' hI' => ih x' y' z' u' h' ⟨m', by omega, hI'⟩) hI
  exact ⟨m + 1, key (m + 1) x y z u h ⟨m, by omega, hI⟩⟩

/-! ### numbers -/
theorem wrap64 {x : Int} (h1 : -9223372036854775808 ≤ x) (h2 : x ≤ 9223372036854775807) : IntKind.i64.wrap x = x := by
  unfold IntKind.wrap; simp [IntKind.bits, IntKind.signed]; omega
theorem wrapu64 {x : Int} (h1 : 0 ≤ x) (h2 : x < 18446744073709551616) : IntKind.u64.wrap x = x := by
  unfold IntKind.wrap; simp [IntKind.bits, IntKind.signed]; omega
theorem wrapu8 {x : Int} (h1 : 0 ≤ x) (h2 : x < 256) : IntKind.u8.wrap x = x := by
  unfold IntKind.wrap; simp [IntKind.bits, IntKind.signed]; omega
theorem wrapu32 {x : Int} (h1 : 0 ≤ x) (h2 : x < 4294967296) : IntKind.u32.wrap x = x := by
  unfold IntKind.wrap; simp [IntKind.bits, IntKind.signed]; omega
theorem brr_t {A B : Prop} (h : A) : brr true A B := h
theorem brr_f {A B : Prop} (h : B) : brr false A B := h
theorem brr_i {b : Bool} {A B : Prop} (h1 : b = true → A) (h2 : b = false → B) : brr b A B := by cases b; exact h2 rfl; exact h1 rfl
theorem brr_true {A B : Prop} : brr true A B = A := rfl
theorem brr_false {A B : Prop} : brr false A B = B := rfl
theorem brr_dec {p : Prop} [Decidable p] {A B : Prop} : brr (decide p) A B = if p then A else B := by
  by_cases h : p <;> simp [h, brr]
theorem nn_some {a : Addr} {K : Addr → Prop} : nn (some a) K = K a := by simp [nn]
theorem jn_nil {rest : Heap → Prop} {body : (Heap → Prop) → Prop} : jn [] rest body = body rest := rfl
end Go.Proofs.Ytompmkmbppcadaa.V
