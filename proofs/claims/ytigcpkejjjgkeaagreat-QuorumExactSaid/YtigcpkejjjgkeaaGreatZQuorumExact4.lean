import Derived.Test.YtigcpkejjjgkeaaGreatZQuorumExact3
import Derived.Test.YtigcpkejjjgkeaaGreatProg
/- The Book over lists of bytes: it finds its marks, always. -/
namespace Go.Proofs.YtigcpkejjjgkeaaGreat.V
open Go Go.RowKit
set_option linter.unusedVariables false
set_option linter.unusedSimpArgs false
theorem wrap8K (n : Nat) : IntKind.u8.wrap (n : Int) = ((UInt8.ofNat n).toNat : Int) := by
  unfold IntKind.wrap
  simp [IntKind.bits, IntKind.signed]
theorem F_law1_at.is {h : Heap} {m k : Nat} {Q : Int → Heap → Prop} (hm : m ≤ 1099511627776) (hq : Q ((atB m k).toNat : Int) h) : F_law1_at m k h Q := by
  rw [F_law1_at.eq_1, F_law1_at_of.eq_1]
  have e2 : ((k : Int)).tmod 2 = ((k % 2 : Nat) : Int) := by rw [Int.tmod_eq_emod_of_nonneg (by omega)]; omega
  have e3 : ((m : Int)).tmod 251 = ((m % 251 : Nat) : Int) := by rw [Int.tmod_eq_emod_of_nonneg (by omega)]; omega
  have e4 : ((m : Int)).tdiv 251 = ((m / 251 : Nat) : Int) := by rw [Int.tdiv_eq_ediv_of_nonneg (by omega)]; omega
  unfold atB at hq
  refine ⟨by decide, ?_⟩
  rw [e2, e3, e4]
  refine brr_eq (fun e => ?_) (fun e => ?_)
  · rw [if_pos (by omega)] at hq
    refine ⟨by decide, ?_⟩
    rw [wrap64 (by omega) (by omega), show (1 + ((m % 251 : Nat) : Int)) = ((1 + m % 251 : Nat) : Int) by omega, wrap8K]
    exact hq
  · rw [if_neg (by omega)] at hq
    refine ⟨by decide, by decide, ?_⟩
    rw [wrap64 (x := 7 * (m : Int)) (by omega) (by omega), wrap64 (x := ((m / 251 : Nat) : Int)) (by omega) (by omega), wrap64 (x := 7 * (m : Int) + ((m / 251 : Nat) : Int)) (by omega) (by omega)]
    have e5 : (7 * (m : Int) + ((m / 251 : Nat) : Int)).tmod 251 = (((7 * m + m / 251) % 251 : Nat) : Int) := by rw [Int.tmod_eq_emod_of_nonneg (by omega)]; omega
    rw [e5, wrap64 (by omega) (by omega), show (1 + (((7 * m + m / 251) % 251 : Nat) : Int)) = ((1 + (7 * m + m / 251) % 251 : Nat) : Int) by omega, wrap8K]
    exact hq
section
variable {h0 h : Heap} {L : List Res} {bk : Nat} {s0 s1 : Sl} {n t d u : Int} {es : List BE}
theorem F_law1_Book_plain.is {Q : Bool → Heap → Prop} (hb : ∀ e ∈ es, e.1.len ≤ 1099511627776 ∧ e.2 ≤ 1099511627776) (hn : es.length ≤ 1099511627776) (O : Sat h0 h (own bk (bkC s0 s1 n t d u) :: buf 1 slc s0 (es.map (·.1)) :: buf 1 natc s1 (es.map (·.2)) :: famR es :: L)) (k : Q true h) : F_law1_Book_plain (some (pt bk 0)) h Q := by
  rw [F_law1_Book_plain.eq_1, F_law1_Book_plain_of.eq_1]
  have v0 := (O.view 1 slc_len (by simp) rfl).1
  have v1 := (O.view 2 natc_len (by simp) rfl).1
  have O1 := O
  unfold bkC at O
  refine jn0 (fun h' => h' = h) ?_ ?_
  · rintro h rfl
    refine jn_go ?_
    rw [F_law1_Book_plain.l4.eq_1]
    refine wl_now1 fun next => ?_
    simp only [nn_some, pt_add, Nat.zero_add, Nat.add_zero, Nat.reduceAdd, Nat.reduceMul, Int.toNat_zero, Int.toNat_one, Nat.zero_mul, Nat.one_mul]
    refine O.ld 0 rfl (ldL_c (k := .sl) (x := (⟨none, 0, 0⟩ : Sl)) (ldL_n ?_))
    refine brr_ff (by decide) ?_
    exact k
  intro j hj
  rw [F_law1_Book_plain.l2.eq_1]
  simp only [nn_some, pt_add, Nat.zero_add, Nat.add_zero, Nat.reduceAdd, Nat.reduceMul, Int.toNat_zero, Int.toNat_one, Nat.zero_mul, Nat.one_mul]
  refine wl1 (k := .int .i64) (fun (m : Nat) (i : Int) (h' : Heap) => 0 ≤ i ∧ i + m = es.length ∧ h' = h) ?_ (m := es.length) ⟨by omega, by omega, rfl⟩
  rintro m (i : Int) h2 next hnx ⟨hi0, him, rfl⟩
  refine O.ld 0 rfl (ldL_c (k := .sl) (x := s0) (ldL_n ?_))
  rw [v0.len, List.length_map]
  refine brr_p (fun hlt => ?_) (fun hlt => hj _ rfl)
  have hil : i.toNat < es.length := by omega
  obtain ⟨e, he⟩ : ∃ e, es[i.toNat]? = some e := ⟨_, List.getElem?_eq_getElem hil⟩
  have hem := List.mem_of_getElem? he
  have hbe := hb e hem
  have ve := fam_view O1 3 (by simp) rfl hem
  have q0 : (es.map (·.1))[i.toNat]? = some e.1 := by rw [List.getElem?_map, he]; rfl
  have q1 : (es.map (·.2))[i.toNat]? = some e.2 := by rw [List.getElem?_map, he]; rfl
  refine jn_go ?_
  refine jn_go ?_
  rw [F_law1_Book_plain.l1.eq_1]
  simp only [nn_some, pt_add, Nat.zero_add, Nat.add_zero, Nat.reduceAdd, Nat.reduceMul, Int.toNat_zero, Int.toNat_one, Nat.zero_mul, Nat.one_mul]
  refine wl1 (k := .int .i64) (fun (m' : Nat) (i' : Int) (h' : Heap) => 0 ≤ i' ∧ i' + m' = e.1.len ∧ h' = h2) ?_ (m := e.1.len) ⟨by omega, by omega, rfl⟩
  rintro m' (i' : Int) h3 next' hnx' ⟨hi0', him', rfl⟩
  refine O.ld 0 rfl (ldL_c (k := .sl) (x := s0) (ldL_n ?_))
  refine v0.getP hi0 q0 fun a hca => ?_
  refine ld_are (hca v0) (ldL_c (k := .sl) (x := e.1) (ldL_n ?_))
  refine brr_p (fun hlt' => ?_) (fun hlt' => ?_)
  · refine O.ld 0 rfl (ldL_c (k := .sl) (x := s0) (ldL_n ?_))
    refine v0.getP hi0 q0 fun a hca => ?_
    refine ld_are (hca v0) (ldL_c (k := .sl) (x := e.1) (ldL_n ?_))
    have hlt2 : i' < (e.1.len : Int) := hlt'
    refine ve.getP (x := atB e.2 i'.toNat) hi0' (marksB_at (by omega)) fun b hcb => ?_
    refine ld_are (hcb ve) (ldL_c (k := .int .u8) (x := ((atB e.2 i'.toNat).toNat : Int)) (ldL_n ?_))
    refine O.ld 0 rfl (ldL_c (k := .sl) (x := s1) (ldL_n ?_))
    refine v1.getP hi0 q1 fun c hcc => ?_
    refine ld_are (hcc v1) (ldL_c (ldL_n ?_))
    obtain ⟨kN, rfl⟩ := Int.eq_ofNat_of_zero_le hi0'
    refine F_law1_at.is hbe.2 ?_
    refine ⟨O.cells 0 rfl 0 1, hca v0, hcb ve, ?_⟩
    refine brr_ne (fun e => absurd rfl e) (fun _ => ?_)
    rw [wrap64 (by omega) (by omega)]
    exact hnx' (m' - 1) _ _ (by omega) ⟨by omega, by omega, rfl⟩
  · rw [wrap64 (by omega) (by omega)]
    exact hnx (m - 1) _ _ (by omega) ⟨by omega, by omega, rfl⟩
theorem F_law1_Book_growBytes.is {nN T : Nat} {Q : Heap → Prop} (hb : ∀ (i : Nat) e, es[i]? = some e → e.1.len ≤ (if i < nN then 5600096 else 5600000) ∧ e.2 ≤ T) (hT : T ≤ 1099511627776) (hn : nN ≤ es.length) (hes : es.length ≤ 1000000)
    (O : Sat h0 h (own bk (bkC s0 s1 nN t d u) :: buf 1 slc s0 (es.map (·.1)) :: buf 1 natc s1 (es.map (·.2)) :: famR es :: L))
    (k : ∀ s0 s1 (fs : List BE) h', fs.length ≤ es.length + 9 * (es.length - nN) → (∀ e ∈ fs, e.1.len ≤ 5600096 ∧ e.2 ≤ T) → Sat h0 h' (own bk (bkC s0 s1 fs.length t d u) :: buf 1 slc s0 (fs.map (·.1)) :: buf 1 natc s1 (fs.map (·.2)) :: famR fs :: L) → Q h') : F_law1_Book_growBytes (some (pt bk 0)) h Q := by
  rw [F_law1_Book_growBytes.eq_1, F_law1_Book_growBytes_of.eq_1]
  have v0 := (O.view 1 slc_len (by simp) rfl).1
  have hs0 := v0.len
  rw [List.length_map] at hs0
  have ld0 : ∀ {h : Heap} {M : List Res} {s0 s1 : Sl} {n : Int} {K : Sl → Prop}, Sat h0 h (own bk (bkC s0 s1 n t d u) :: M) → K s0 → ld [.sl] (pt bk 0) h K := fun O k => O.ld 0 rfl (ldL_c (k := .sl) (ldL_n k))
  have ld1 : ∀ {h : Heap} {M : List Res} {s0 s1 : Sl} {n : Int} {K : Sl → Prop}, Sat h0 h (own bk (bkC s0 s1 n t d u) :: M) → K s1 → ld [.sl] (pt bk 1) h K := fun O k => O.ld 0 rfl (ldL_c (k := .sl) (ldL_n k))
  have ld2 : ∀ {h : Heap} {M : List Res} {s0 s1 : Sl} {n : Int} {K : Int → Prop}, Sat h0 h (own bk (bkC s0 s1 n t d u) :: M) → K n → ld [.int .i64] (pt bk 2) h K := fun O k => O.ld 0 rfl (ldL_c (ldL_n k))
  have st0 : ∀ {h : Heap} {M : List Res} {s0 s1 s : Sl} {n : Int} {K : Heap → Prop}, Sat h0 h (own bk (bkC s0 s1 n t d u) :: M) → (∀ h', Sat h0 h' (own bk (bkC s s1 n t d u) :: M) → K h') → st (pt bk 0) [.slice s.ptr s.len s.cap] h K := by
    intro h M s0 s1 s n K O k
    unfold bkC at O
    refine O.st 0 rfl (by simp) rfl fun h O => ?_
    dsimp only [V.put, List.set] at O
    exact k h O
  have st1 : ∀ {h : Heap} {M : List Res} {s0 s1 s : Sl} {n : Int} {K : Heap → Prop}, Sat h0 h (own bk (bkC s0 s1 n t d u) :: M) → (∀ h', Sat h0 h' (own bk (bkC s0 s n t d u) :: M) → K h') → st (pt bk 1) [.slice s.ptr s.len s.cap] h K := by
    intro h M s0 s1 s n K O k
    unfold bkC at O
    refine O.st 0 rfl (by simp) rfl fun h O => ?_
    dsimp only [V.put, List.set] at O
    exact k h O
  have st2 : ∀ {h : Heap} {M : List Res} {s0 s1 : Sl} {n n' : Int} {K : Heap → Prop}, Sat h0 h (own bk (bkC s0 s1 n t d u) :: M) → (∀ h', Sat h0 h' (own bk (bkC s0 s1 n' t d u) :: M) → K h') → st (pt bk 2) [.int .i64 n'] h K := by
    intro h M s0 s1 n n' K O k
    unfold bkC at O
    refine O.st 0 rfl (by simp) rfl fun h O => ?_
    dsimp only [V.put, List.set] at O
    exact k h O
  simp only [nn_some, pt_add, Nat.zero_add, Nat.add_zero, Nat.reduceAdd, Nat.reduceMul, Int.toNat_zero, Int.toNat_one, Nat.zero_mul, Nat.one_mul]
  refine ld0 O ?_
  refine ld2 O ?_
  refine jn0 (fun h' => ∃ (s0 s1 : Sl) (X : List BE), X.length ≤ 9 * (es.length - nN) ∧ (∀ e ∈ X, e.1.len ≤ 5600096 ∧ e.2 ≤ T) ∧ Sat h0 h' (own bk (bkC s0 s1 nN t d u) :: buf 1 slc s0 ((es ++ X).map (·.1)) :: buf 1 natc s1 ((es ++ X).map (·.2)) :: famR (es ++ X) :: L)) ?_ ?_
  · clear O v0
    rintro h ⟨s0, s1, X, hX, hXb, O⟩
    refine ld0 O ?_
    have hl := (O.view 1 slc_len (by simp) rfl).1.len
    rw [List.length_map] at hl
    rw [hl]
    refine st2 O fun h O => ?_
    refine k s0 s1 (es ++ X) h (by rw [List.length_append]; omega) (fun e he => ?_) O
    rcases List.mem_append.1 he with he | he
    · obtain ⟨i, hi⟩ := List.getElem?_of_mem he
      have := hb i e hi
      refine ⟨?_, this.2⟩
      have h2 := this.1
      split at h2 <;> omega
    · exact hXb e he
  intro j6 hj6
  rw [F_law1_Book_growBytes.l2.eq_1, hs0]
  simp only [nn_some, pt_add, Nat.zero_add, Nat.add_zero, Nat.reduceAdd, Nat.reduceMul, Int.toNat_zero, Int.toNat_one, Nat.zero_mul, Nat.one_mul]
  refine wl1 (k := .int .i64) (fun (m : Nat) (kk : Int) (h' : Heap) => (nN : Int) ≤ kk ∧ kk + m = es.length ∧ ∃ (s0 s1 : Sl) (X : List BE), (X.length : Int) ≤ 9 * (kk - nN) ∧ (∀ e ∈ X, e.1.len ≤ 5600096 ∧ e.2 ≤ T) ∧ Sat h0 h' (own bk (bkC s0 s1 nN t d u) :: buf 1 slc s0 ((es ++ X).map (·.1)) :: buf 1 natc s1 ((es ++ X).map (·.2)) :: famR (es ++ X) :: L)) ?_ (m := es.length - nN) ⟨by omega, by omega, s0, s1, [], by simp, by simp, by rw [List.append_nil]; exact O⟩
  clear O v0 hs0
  rintro m (kk : Int) h next hnx ⟨hk0, hkm, s0, s1, X, hX, hXb, O⟩
  refine brr_p (fun hlt => ?_) (fun hlt => hj6 _ ⟨s0, s1, X, by omega, hXb, O⟩)
  obtain ⟨kN, rfl⟩ := Int.eq_ofNat_of_zero_le (show 0 ≤ kk by omega)
  have hlt : kN < es.length := by
    have hlt : (kN : Int) < (es.length : Int) := hlt
    omega
  obtain ⟨⟨g0, m0⟩, he⟩ : ∃ e, es[kN]? = some e := ⟨_, List.getElem?_eq_getElem hlt⟩
  obtain ⟨hg0, hm0⟩ := hb kN _ he
  rw [if_neg (by omega)] at hg0
  simp only at hg0 hm0
  have he2 : (es ++ X)[((kN : Nat) : Int).toNat]? = some (g0, m0) := by rw [Int.toNat_natCast, List.getElem?_append_left hlt]; exact he
  refine ld0 O ?_
  have v0 := (O.view 1 slc_len (by simp) rfl).1
  have v1 := (O.view 2 natc_len (by simp) rfl).1
  refine v0.get1 (k := .sl) (by omega) (x := g0) (by rw [List.getElem?_map, he2]; rfl) id (fun _ => rfl) ?_
  refine ld1 O ?_
  refine v1.get1 (k := .int .i64) (by omega) (x := m0) (by rw [List.getElem?_map, he2]; rfl) (fun x => (x : Int)) (fun _ => rfl) ?_
  simp only [id_eq]
  clear v0 v1
  refine jn_go ?_
  rw [F_law1_Book_growBytes.l1.eq_1]
  simp only [nn_some, pt_add, Nat.zero_add, Nat.add_zero, Nat.reduceAdd, Nat.reduceMul, Int.toNat_zero, Int.toNat_one, Nat.zero_mul, Nat.one_mul]
  have O : Sat h0 h (own bk (bkC s0 s1 nN t d u) :: buf 1 slc s0 ((es ++ X).map (·.1)) :: buf 1 natc s1 ((es ++ X).map (·.2)) :: famR (es ++ X ++ [(g0, m0)]) :: L) := by
    have O2 := O.sel [3, 0, 1, 2] 4 rfl (Nat.le_add_left _ _)
    have O3 := famR.sub (fs := es ++ X ++ [(g0, m0)]) O2 (fun e hx => by
      rcases List.mem_append.1 hx with hx | hx
      · exact hx
      · rw [List.mem_singleton.1 hx]; exact List.mem_append.2 (.inl (List.mem_of_getElem? he)))
    exact O3.sel [1, 2, 3, 0] 4 rfl (Nat.le_add_left _ _)
  refine wl2 (k := .sl) (l := .int .i64) (fun (M : Nat) (g : Sl) (i : Int) (h' : Heap) => i + M = 97 ∧ 1 ≤ i ∧ (g.len : Int) = g0.len + (i - 1) ∧ ∃ (s0 s1 : Sl) (X : List BE), (X.length : Int) ≤ 9 * ((kN : Int) - nN) + (if i - 1 < 3 then i - 1 else 3) + (i - 1) / 16 ∧ (∀ e ∈ X, e.1.len ≤ 5600096 ∧ e.2 ≤ T) ∧ Sat h0 h' (own bk (bkC s0 s1 nN t d u) :: buf 1 slc s0 ((es ++ X).map (·.1)) :: buf 1 natc s1 ((es ++ X).map (·.2)) :: famR (es ++ X ++ [(g, m0)]) :: L)) ?_ (m := 96) ⟨by omega, by omega, by omega, s0, s1, X, by split <;> omega, hXb, O⟩
  clear O hXb hX he2
  rintro M (g : Sl) (i : Int) h next' hnx' ⟨hiM, hi1, hgl, s0, s1, X, hX, hXb, O⟩
  refine brr_p (fun hlt2 => ?_) (fun hlt2 => ?_)
  case refine_2 =>
    have h97 : i = 97 := by
      have hlt2 : ¬ i ≤ 96 := hlt2
      omega
    subst h97
    rw [wrap64 (by omega) (by omega)]
    refine hnx (m - 1) _ _ (by omega) ⟨by omega, by omega, s0, s1, X, by split at hX <;> omega, hXb, ?_⟩
    have O2 := O.sel [3, 0, 1, 2] 4 rfl (Nat.le_add_left _ _)
    have O3 := famR.sub (fs := es ++ X) O2 (fun e hx => List.mem_append.2 (.inl hx))
    exact O3.sel [1, 2, 3, 0] 4 rfl (Nat.le_add_left _ _)
  have hlt2 : i ≤ 96 := hlt2
  refine F_law1_at.is (by omega) ?_
  refine O.al fun a h O => ?_
  replace O := O.sel [0, 4, 1, 2, 3] 5 rfl (Nat.le_add_left _ _)
  simp only [selT, List.map, nth, List.drop, List.cons_append, List.nil_append] at O
  refine fam_app (by omega) O fun g' h hg' O => ?_
  refine jn1 (fun z h' => z = decide (i < 4 ∨ i % 16 = 0) ∧ h' = h) ?_ ?_
  case refine_2 =>
    intro j30 hj30
    refine brr_p (fun h4 => ?_) (fun h4 => ?_)
    · exact hj30 _ _ ⟨(decide_eq_true (.inl h4)).symm, rfl⟩
    · refine ⟨by decide, hj30 _ _ ⟨?_, rfl⟩⟩
      rw [Int.tmod_eq_emod_of_nonneg (by omega)]
      by_cases h16 : i % 16 = 0
      · rw [decide_eq_true (.inr h16), h16]; rfl
      · rw [decide_eq_false (fun x => x.elim h4 h16)]
        exact beq_eq_false_iff_ne.2 h16
  rintro z h2 ⟨rfl, rfl⟩
  refine jn0 (fun h' => ∃ (s0 s1 : Sl) (X : List BE), (X.length : Int) ≤ 9 * ((kN : Int) - nN) + (if i < 3 then i else 3) + i / 16 ∧ (∀ e ∈ X, e.1.len ≤ 5600096 ∧ e.2 ≤ T) ∧ Sat h0 h' (own bk (bkC s0 s1 nN t d u) :: buf 1 slc s0 ((es ++ X).map (·.1)) :: buf 1 natc s1 ((es ++ X).map (·.2)) :: famR (es ++ X ++ [(g', m0)]) :: L)) ?_ ?_
  · clear O
    rintro h ⟨s0, s1, X, hX', hXb, O⟩
    rw [wrap64 (by omega) (by omega)]
    refine hnx' (M - 1) _ _ _ (by omega) ⟨by omega, by omega, by omega, s0, s1, X, by rw [show i + 1 - 1 = i by omega]; exact hX', hXb, O⟩
  intro j33 hj33
  refine brr_p (fun hp => ?_) (fun hp => ?_)
  case refine_2 =>
    refine hj33 _ ⟨s0, s1, X, ?_, hXb, O.sel [1, 2, 3, 0] 4 rfl (Nat.le_add_left _ _)⟩
    split at hX <;> split <;> omega
  have hXl : X.length ≤ 9000100 := by split at hX <;> omega
  have hesX : (es ++ X).length ≤ 10000100 := by rw [List.length_append]; omega
  have O : Sat h0 h2 (own bk (bkC s0 s1 nN t d u) :: buf 1 slc s0 ((es ++ X).map (·.1)) :: buf 1 natc s1 ((es ++ X).map (·.2)) :: famR (es ++ X ++ [(g', m0)]) :: L) := O.sel [1, 2, 3, 0] 4 rfl (Nat.le_add_left _ _)
  refine ld0 O ?_
  have O := O.swap
  refine O.push_buf g' rfl slc_len slc_one rfl (by rw [List.length_map]; omega) fun s38 h O _ => ?_
  refine st0 O.swap fun h O => ?_
  refine ld1 O ?_
  replace O := O.sel [2, 0, 1, 3] 4 rfl (Nat.le_add_left _ _)
  simp only [selT, List.map, nth, List.drop, List.cons_append, List.nil_append] at O
  refine O.push_buf m0 rfl natc_len natc_one rfl (by rw [List.length_map]; omega) fun s46 h O _ => ?_
  refine st1 O.swap fun h O => ?_
  have e1 : (es ++ X).map (·.1) ++ [g'] = (es ++ (X ++ [(g', m0)])).map (·.1) := by simp
  have e2 : (es ++ X).map (·.2) ++ [m0] = (es ++ (X ++ [(g', m0)])).map (·.2) := by simp
  rw [e1, e2] at O
  refine hj33 _ ⟨s38, s46, X ++ [(g', m0)], ?_, ?_, ?_⟩
  · rw [List.length_append, List.length_singleton]
    split at hX <;> split <;> omega
  · intro e hx
    rcases List.mem_append.1 hx with hx | hx
    · exact hXb e hx
    · rw [List.mem_singleton.1 hx]
      exact ⟨by show g'.len ≤ _; omega, hm0⟩
  · have O2 := O.sel [3, 0, 1, 2] 4 rfl (Nat.le_add_left _ _)
    have O3 := famR.sub (fs := es ++ (X ++ [(g', m0)]) ++ [(g', m0)]) O2 (fun e hx => by
      rcases List.mem_append.1 hx with hx | hx
      · rw [← List.append_assoc] at hx; exact hx
      · exact List.mem_append.2 (.inr hx))
    exact O3.sel [1, 3, 2, 0] 4 rfl (Nat.le_add_left _ _)
end
end Go.Proofs.YtigcpkejjjgkeaaGreat.V
/- The Book over lists of bytes: what is given to it, what it answers. -/
namespace Go.Proofs.YtigcpkejjjgkeaaGreat.V
open Go Go.RowKit
set_option linter.unusedVariables false
set_option linter.unusedSimpArgs false
structure BkS where
  s0 : Sl
  s1 : Sl
  es : List BE
  n : Nat
  t : Nat
  d : Nat
  u : Nat
structure BkS.Ok (x : BkS) (T : Nat) : Prop where
  t : x.t ≤ T
  n : x.n ≤ x.es.length
  room : 120 * (x.es.length + 9 * (x.es.length - x.n)) ≤ x.u
  u : x.u ≤ 16777216
  len : ∀ (i : Nat) e, x.es[i]? = some e → e.1.len ≤ (if i < x.n then 5600096 else 5600000) ∧ e.2 ≤ T
def bkR (bk T : Nat) : Res := ex fun x : BkS => pr (x.Ok T) (sep (own bk (bkC x.s0 x.s1 x.n x.t x.d x.u)) (sep (buf 1 slc x.s0 (x.es.map (·.1))) (sep (buf 1 natc x.s1 (x.es.map (·.2))) (famR x.es))))
theorem Sat.book {h0 h : Heap} {L : List Res} {bk T : Nat} (O : Sat h0 h (bkR bk T :: L)) : ∃ x : BkS, x.Ok T ∧ Sat h0 h (own bk (bkC x.s0 x.s1 x.n x.t x.d x.u) :: buf 1 slc x.s0 (x.es.map (·.1)) :: buf 1 natc x.s1 (x.es.map (·.2)) :: famR x.es :: L) := by
  obtain ⟨x, O⟩ := O.ex
  obtain ⟨o, O⟩ := O.pr
  have O := O.sep.swap.sep.swap.sep
  exact ⟨x, o, O.sel [3, 2, 0, 1] 4 rfl (Nat.le_add_left _ _)⟩
theorem Sat.bookI {h0 h : Heap} {L : List Res} {bk T : Nat} {x : BkS} (o : x.Ok T) (O : Sat h0 h (own bk (bkC x.s0 x.s1 x.n x.t x.d x.u) :: buf 1 slc x.s0 (x.es.map (·.1)) :: buf 1 natc x.s1 (x.es.map (·.2)) :: famR x.es :: L)) : Sat h0 h (bkR bk T :: L) := by
  have O := (O.sel [2, 3, 0, 1] 4 rfl (Nat.le_add_left _ _)).sepI
  have O := (O.sel [2, 0, 1] 3 rfl (Nat.le_add_left _ _)).sepI
  exact (Sat.prI o (O.swap.sepI)).exI x
section
variable {h0 h : Heap} {L : List Res} {bk T : Nat}
theorem F_law1_Book_holds.is {x : BkS} {Q : Bool → Heap → Prop} (hb : ∀ e ∈ x.es, e.1.len ≤ 1099511627776 ∧ e.2 ≤ 1099511627776) (hn : x.es.length ≤ 1099511627776) (O : Sat h0 h (own bk (bkC x.s0 x.s1 x.n x.t x.d x.u) :: buf 1 slc x.s0 (x.es.map (·.1)) :: buf 1 natc x.s1 (x.es.map (·.2)) :: famR x.es :: L)) (k : Q true h) : F_law1_Book_holds (some (pt bk 0)) h Q := by
  rw [F_law1_Book_holds.eq_1, F_law1_Book_holds_of.eq_1]
  refine jn1 (fun z h' => z = true ∧ h' = h) ?_ ?_
  · rintro z h ⟨rfl, rfl⟩
    exact k
  · intro j hj
    refine F_law1_Book_plain.is hb hn O ?_
    refine brr_tt rfl ?_
    refine F_law1_Book_kept.is O ?_
    refine brr_tt rfl ?_
    refine F_law1_Book_told.is O ?_
    refine brr_tt rfl ?_
    refine F_law1_Book_held.is O ?_
    exact hj _ _ ⟨rfl, rfl⟩
theorem BkS.Ok.lens {x : BkS} (o : x.Ok T) (hT : T ≤ 1099511627776) : ∀ e ∈ x.es, e.1.len ≤ 1099511627776 ∧ e.2 ≤ 1099511627776 := by
  intro e he
  obtain ⟨i, hi⟩ := List.getElem?_of_mem he
  have := o.len i e hi
  refine ⟨?_, by omega⟩
  have h2 := this.1
  split at h2 <;> omega
theorem F_law1_Book_Look.is {Q : Bool → Heap → Prop} (hT : T ≤ 1099511627776) (O : Sat h0 h (bkR bk T :: L)) (k : ∀ h', Sat h0 h' (bkR bk T :: L) → Q true h') : F_law1_Book_Look (some (pt bk 0)) h Q := by
  rw [F_law1_Book_Look.eq_1, F_law1_Book_Look_of.eq_1]
  obtain ⟨x, o, O⟩ := O.book
  have h1 := o.room; have h2 := o.u; have h3 := o.n
  refine F_law1_Book_holds.is (o.lens hT) (by omega) O ?_
  refine brr_ff rfl ?_
  simp only [nn_some, pt_add, Nat.zero_add, Nat.add_zero, Nat.reduceAdd, Nat.reduceMul, Int.toNat_zero, Int.toNat_one, Nat.zero_mul, Nat.one_mul]
  have O1 := O
  unfold bkC at O1
  refine O1.ld 0 rfl (ldL_c (ldL_n ?_))
  refine O1.ld 0 rfl (ldL_c (ldL_n ?_))
  refine brr_eq (fun _ => k h (Sat.bookI o O)) (fun _ => ?_)
  rw [F_law1_Book_grow.eq_1, F_law1_Book_grow_of.eq_1]
  refine F_law1_Book_growBytes.is o.len hT o.n (by omega) O fun s0 s1 fs h hfs hfb O => ?_
  refine F_law1_Book_growRows.is O fun h O => ?_
  refine F_law1_Book_growTexts.is O fun h O => ?_
  refine F_law1_Book_growInts.is O fun h O => ?_
  refine F_law1_Book_growWords.is O fun h O => ?_
  refine F_law1_Book_growDones.is O fun h O => ?_
  refine F_law1_Book_growAccts.is O fun h O => ?_
  refine F_law1_Book_growQueue.is O fun h O => ?_
  refine F_law1_Book_growSlots.is O fun h O => ?_
  refine F_law1_Book_growMsgs.is O fun h O => ?_
  refine F_law1_Book_growFlights.is O fun h O => ?_
  refine F_law1_Book_growFiles.is O fun h O => ?_
  simp only [nn_some, pt_add, Nat.zero_add, Nat.add_zero, Nat.reduceAdd, Nat.reduceMul, Int.toNat_zero, Int.toNat_one, Nat.zero_mul, Nat.one_mul]
  have O1 := O
  unfold bkC at O1
  refine O1.ld 0 rfl (ldL_c (ldL_n ?_))
  refine O1.st 0 rfl (by simp) rfl fun h O => ?_
  dsimp only [V.put, List.set] at O
  have O : Sat h0 h (own bk (bkC s0 s1 fs.length x.t x.t x.u) :: buf 1 slc s0 (fs.map (·.1)) :: buf 1 natc s1 (fs.map (·.2)) :: famR fs :: L) := O
  have o2 : BkS.Ok ⟨s0, s1, fs, fs.length, x.t, x.t, x.u⟩ T := by
    refine ⟨o.t, Nat.le_refl _, ?_, o.u, fun i e hi => ?_⟩
    · show 120 * (fs.length + 9 * (fs.length - fs.length)) ≤ x.u
      omega
    · have hl := (List.getElem?_eq_some_iff.1 hi).1
      rw [if_pos hl]
      exact hfb e (List.mem_of_getElem? hi)
  refine F_law1_Book_holds.is (x := ⟨s0, s1, fs, fs.length, x.t, x.t, x.u⟩) (o2.lens hT) (by show fs.length ≤ _; omega) O ?_
  exact k h (Sat.bookI o2 O)
theorem marks_set {m i : Nat} {xs : List UInt8} (hi : i < xs.length) : (marksB m i ++ xs.drop i).set i (atB m i) = marksB m (i + 1) ++ xs.drop (i + 1) := by
  have e1 : xs.drop i = xs[i] :: xs.drop (i + 1) := List.drop_eq_getElem_cons hi
  rw [e1, List.set_append_right _ _ (by rw [marksB_len]; exact Nat.le_refl _), marksB_len, Nat.sub_self, List.set_cons_zero]
  have e2 : marksB m (i + 1) = marksB m i ++ [atB m i] := by unfold marksB; rw [List.range_succ, List.map_append]; rfl
  rw [e2, List.append_assoc]
  rfl
theorem F_law1_Book_Bytes.is {s : Sl} {xs : List UInt8} {Q : Heap → Prop} (hT : T ≤ 1099511627) (hx : xs.length ≤ 281474976710656) (O : Sat h0 h (buf 1 u8 s xs :: bkR bk T :: L)) (k : ∀ h', Sat h0 h' (bkR bk (T + 1) :: L) → Q h') : F_law1_Book_Bytes (some (pt bk 0)) s h Q := by
  rw [F_law1_Book_Bytes.eq_1, F_law1_Book_Bytes_of.eq_1]
  obtain ⟨x, o, O⟩ := O.swap.book
  have h1 := o.room; have h2 := o.u; have h3 := o.n; have h4 := o.t
  have hsl := (O.view 4 u8_len (by simp) rfl).1.len
  simp only [nn_some, pt_add, Nat.zero_add, Nat.add_zero, Nat.reduceAdd, Nat.reduceMul, Int.toNat_zero, Int.toNat_one, Nat.zero_mul, Nat.one_mul]
  unfold bkC at O
  refine O.ld 0 rfl (ldL_c (ldL_n ?_))
  refine O.st 0 rfl (by simp) rfl fun h O => ?_
  dsimp only [V.put, List.set] at O
  rw [wrap64 (by omega) (by omega)] at O
  refine O.ld 0 rfl (ldL_c (ldL_n ?_))
  have em : (x.t : Int) + 1 = ((x.t + 1 : Nat) : Int) := by omega
  rw [em] at O ⊢
  have O : Sat h0 h (own bk (bkC x.s0 x.s1 x.n (x.t + 1 : Nat) x.d x.u) :: buf 1 slc x.s0 (x.es.map (·.1)) :: buf 1 natc x.s1 (x.es.map (·.2)) :: famR x.es :: buf 1 u8 s xs :: L) := O
  replace O := O.sel [4, 0, 1, 2, 3] 5 rfl (Nat.le_add_left _ _)
  simp only [selT, List.map, nth, List.drop, List.cons_append, List.nil_append] at O
  refine jn0 (fun h' => Sat h0 h' (buf 1 u8 s (marksB (x.t + 1) s.len) :: own bk (bkC x.s0 x.s1 x.n (x.t + 1 : Nat) x.d x.u) :: buf 1 slc x.s0 (x.es.map (·.1)) :: buf 1 natc x.s1 (x.es.map (·.2)) :: famR x.es :: L)) ?_ ?_
  case refine_2 =>
    intro j hj
    rw [F_law1_Book_Bytes.l1.eq_1, hsl]
    rw [hsl] at hj
    refine wl1 (k := .int .i64) (fun (m : Nat) (i : Int) (h' : Heap) => 0 ≤ i ∧ i + m = xs.length ∧ Sat h0 h' (buf 1 u8 s (marksB (x.t + 1) i.toNat ++ xs.drop i.toNat) :: own bk (bkC x.s0 x.s1 x.n (x.t + 1 : Nat) x.d x.u) :: buf 1 slc x.s0 (x.es.map (·.1)) :: buf 1 natc x.s1 (x.es.map (·.2)) :: famR x.es :: L)) ?_ (m := xs.length) ⟨by omega, by omega, by rw [show marksB (x.t + 1) (0 : Int).toNat = [] from rfl]; exact O⟩
    clear O
    rintro m (i : Int) h next hn ⟨hi0, him, O⟩
    obtain ⟨i, rfl⟩ := Int.eq_ofNat_of_zero_le hi0
    simp only [Int.toNat_natCast] at O
    refine brr_p (fun hlt => ?_) (fun hlt => ?_)
    · have hil : i < xs.length := by omega
      refine F_law1_at.is (by omega) ?_
      refine O.put1 u8_len u8_one (by omega) (by rw [List.length_append, marksB_len, List.length_drop]; omega) (atB (x.t + 1) i) rfl fun h O => ?_
      rw [Int.toNat_natCast, marks_set hil] at O
      rw [wrap64 (by omega) (by omega)]
      refine hn (m - 1) _ _ (by omega) ⟨by omega, by omega, ?_⟩
      rw [show ((i : Int) + 1).toNat = i + 1 by omega]
      exact O
    · rw [List.drop_eq_nil_of_le (by omega), List.append_nil, show i = xs.length by omega] at O
      exact hj _ O
  clear O
  intro h O
  rw [F_law1_Book_tight.eq_1, F_law1_Book_tight_of.eq_1]
  simp only [nn_some, pt_add, Nat.zero_add, Nat.add_zero, Nat.reduceAdd, Nat.reduceMul, Int.toNat_zero, Int.toNat_one, Nat.zero_mul, Nat.one_mul]
  replace O := O.sel [1, 2, 3, 4, 0] 5 rfl (Nat.le_add_left _ _)
  simp only [selT, List.map, nth, List.drop, List.cons_append, List.nil_append] at O
  unfold bkC at O
  refine O.ld 0 rfl (ldL_c (ldL_n ?_))
  have ew : IntKind.i64.wrap (1200 + IntKind.i64.wrap (3 * ((s.len : Nat) : Int))) = 1200 + 3 * (xs.length : Int) := by
    rw [hsl, wrap64 (x := 3 * (xs.length : Int)) (by omega) (by omega), wrap64 (by omega) (by omega)]
  rw [ew, wrap64 (x := (x.u : Int) + (1200 + 3 * (xs.length : Int))) (by omega) (by omega)]
  have olen : ∀ (i : Nat) e, x.es[i]? = some e → e.1.len ≤ (if i < x.n then 5600096 else 5600000) ∧ e.2 ≤ T + 1 := fun i e hi => ⟨(o.len i e hi).1, Nat.le_succ_of_le (o.len i e hi).2⟩
  refine brr_p (fun hp => ?_) (fun hp => ?_)
  · refine brr_tt rfl ?_
    have O := O.sel [0, 1, 2, 3] 5 rfl (Nat.le_add_left _ _)
    exact k h (Sat.bookI (x := ⟨x.s0, x.s1, x.es, x.n, x.t + 1, x.d, x.u⟩) ⟨by show x.t + 1 ≤ T + 1; omega, o.n, o.room, o.u, olen⟩ O)
  · have hp : ¬ (x.u : Int) + (1200 + 3 * (xs.length : Int)) > 16777216 := hp
    refine O.ld 0 rfl (ldL_c (ldL_n ?_))
    refine O.st 0 rfl (by simp) rfl fun h O => ?_
    dsimp only [V.put, List.set] at O
    rw [show (x.u : Int) + (1200 + 3 * (xs.length : Int)) = ((x.u + (1200 + 3 * xs.length) : Nat) : Int) by omega, wrap64 (by omega) (by omega)] at O
    refine brr_ff rfl ?_
    refine O.ld 0 rfl (ldL_c (k := .sl) (x := x.s0) (ldL_n ?_))
    have O := O.swap
    refine O.push_buf s rfl slc_len slc_one rfl (by rw [List.length_map]; omega) fun s2 h O _ => ?_
    have O := O.swap
    refine O.st 0 rfl (by simp) rfl fun h O => ?_
    dsimp only [V.put, List.set] at O
    refine O.ld 0 rfl (ldL_c (k := .sl) (x := x.s1) (ldL_n ?_))
    replace O := O.sel [2, 0, 1, 3, 4] 5 rfl (Nat.le_add_left _ _)
    simp only [selT, List.map, nth, List.drop, List.cons_append, List.nil_append] at O
    refine O.push_buf (x.t + 1) rfl natc_len natc_one rfl (by rw [List.length_map]; omega) fun s3 h O _ => ?_
    have O := O.swap
    refine O.st 0 rfl (by simp) rfl fun h O => ?_
    dsimp only [V.put, List.set] at O
    replace O := O.sel [4, 3, 0, 2, 1] 5 rfl (Nat.le_add_left _ _)
    simp only [selT, List.map, nth, List.drop, List.cons_append, List.nil_append] at O
    have O := fam_take O
    have O : Sat h0 h (famR (x.es ++ [(s, x.t + 1)]) :: own bk (bkC s2 s3 x.n (x.t + 1 : Nat) x.d (x.u + (1200 + 3 * xs.length) : Nat)) :: buf 1 slc s2 (x.es.map (·.1) ++ [s]) :: buf 1 natc s3 (x.es.map (·.2) ++ [x.t + 1]) :: L) := O
    have e1 : x.es.map (·.1) ++ [s] = (x.es ++ [(s, x.t + 1)]).map (·.1) := by simp
    have e2 : x.es.map (·.2) ++ [x.t + 1] = (x.es ++ [(s, x.t + 1)]).map (·.2) := by simp
    rw [e1, e2] at O
    replace O := O.sel [1, 2, 3, 0] 4 rfl (Nat.le_add_left _ _)
    simp only [selT, List.map, nth, List.drop, List.cons_append, List.nil_append] at O
    have el : (x.es ++ [(s, x.t + 1)]).length = x.es.length + 1 := by simp
    refine k h (Sat.bookI (x := ⟨s2, s3, x.es ++ [(s, x.t + 1)], x.n, x.t + 1, x.d, x.u + (1200 + 3 * xs.length)⟩) ⟨by show x.t + 1 ≤ T + 1; omega, by show x.n ≤ (x.es ++ [(s, x.t + 1)]).length; omega, by show 120 * ((x.es ++ [(s, x.t + 1)]).length + 9 * ((x.es ++ [(s, x.t + 1)]).length - x.n)) ≤ x.u + (1200 + 3 * xs.length); omega, by show x.u + (1200 + 3 * xs.length) ≤ _; omega, fun i e hi => ?_⟩ O)
    have hi : (x.es ++ [(s, x.t + 1)])[i]? = some e := hi
    by_cases hlt : i < x.es.length
    · rw [List.getElem?_append_left hlt] at hi
      exact olen i e hi
    · rw [List.getElem?_append_right (by omega)] at hi
      have hi0 : i - x.es.length = 0 := by
        have := (List.getElem?_eq_some_iff.1 hi).1
        simp at this
        omega
      rw [hi0] at hi
      cases hi
      refine ⟨?_, by show x.t + 1 ≤ T + 1; omega⟩
      rw [if_neg (by show ¬ i < x.n; omega)]
      show s.len ≤ _
      omega
end
end Go.Proofs.YtigcpkejjjgkeaaGreat.V
namespace Go.Proofs.YtigcpkejjjgkeaaGreat.V
open Go Go.RowKit
set_option linter.unusedVariables false
set_option maxRecDepth 100000
def F_ref0_EqInts.l1 (a1 b2 : Sl) (Q : Bool → Heap → Prop) (j3 : Heap → Prop) : Int → Heap → Prop :=
  wl [(5, .one (.int .i64))] (fun (next4 : Int → Heap → Prop) (i5 : Int) (h6 : Heap) =>
  brr (decide (i5 < ((a1.len : Nat) : Int)))
  (ixS 1 a1 i5 fun (a7 : Addr) =>
  ld [.int .i64] a7 h6 fun (v8 : Int) =>
  ixS 1 b2 i5 fun (a9 : Addr) =>
  ld [.int .i64] a9 h6 fun (v10 : Int) =>
  brr (v8 != v10)
  (Q false h6)
  (next4 (IntKind.i64.wrap (i5 + 1)) h6))
  (j3 h6))
def F_ref0_EqInts_of  (a1 b2 : Sl) (h : Heap) (Q : Bool → Heap → Prop) : Prop :=
  brr (((a1.len : Nat) : Int) != ((b2.len : Nat) : Int))
  (Q false h)
  (jn [] (fun  (h11 : Heap) =>
  Q true h11) (fun (j3 : Heap → Prop) =>
  F_ref0_EqInts.l1 a1 b2 Q j3 0 h))
def F_ref0_EqInts (a1 b2 : Sl) (h : Heap) (Q : Bool → Heap → Prop) : Prop := F_ref0_EqInts_of  a1 b2 h Q
def plan15 : Plan := .s (.r [0, 1]) (.s (.s (.r [0, 1, 10]) (.c (.s (.r [4]) .z) .z)) (.s (.s (.r [0, 1, 5]) (.bj [] [] (.l [(5, .one (.int .i64))] [0, 1] (.s (.s (.r [0, 1, 5, 14]) (.c .z .z)) (.s (.b (.s (.d [0, 0, 3, 7, 0, 0, 48, 112, 255] [[0, 1, 2, 3, 4, 5, 6, 7, 8]] [0, 1, 5, 25]) (.c (.s (.r [4]) .z) .z))) (.r [0, 1, 5])))))) (.s (.r [4]) .z)))
theorem F_ref0_EqInts.eq  (a1 b2 : Sl) (h : Heap) (K : Value → Heap → Prop) : F_ref0_EqInts_of  a1 b2 h (fun (r0 : Bool) (h : Heap) => K (.bool r0) h) =
    den Tryz.prog noFns Tryz.f15.ntmps plan15 (bodyOf Tryz.f15) (args0 0 [(.slice a1.ptr a1.len a1.cap : Value), (.slice b2.ptr b2.len b2.cap : Value)]) h ⟨fun env h => dRes Tryz.prog Tryz.f15.results.toList env h K, fun _ _ _ => False, fun env h => dRes Tryz.prog Tryz.f15.results.toList env h K⟩ := by kernel_rfl
def E_ref0_EqInts_of (f : Sl → Sl → Heap → (Bool → Heap → Prop) → Prop) : List Value → Heap → (Value → Heap → Prop) → Prop
  | [v0, v1], h, K => dec1 .sl v0 fun (a1 : Sl) =>
  dec1 .sl v1 fun (b2 : Sl) =>
  f a1 b2 h (fun (r0 : Bool) (h : Heap) => K (.bool r0) h)
  | _, _, _ => False
abbrev E_ref0_EqInts := E_ref0_EqInts_of F_ref0_EqInts
theorem E_ref0_EqInts.right : IsRight Tryz.prog 15 E_ref0_EqInts := by
  refine isRight fun vs K w hh => ?_
  match vs, hh with
  | [v0, v1], hh =>
    unfold E_ref0_EqInts E_ref0_EqInts_of at hh
    replace hh := dec1_sound hh; obtain ⟨a1, rfl, hh⟩ := hh
    replace hh := dec1_sound hh; obtain ⟨b2, rfl, hh⟩ := hh
    unfold F_ref0_EqInts at hh
    exact calls_den noFns_right plan15 _ w K Tryz.func15 (by kernel_rfl) (by kernel_rfl) (Eq.mp (F_ref0_EqInts.eq  a1 b2 w.heap K) hh)
theorem ok15 : okFn Tryz.prog 15 = true := by kernel_rfl
end Go.Proofs.YtigcpkejjjgkeaaGreat.V
namespace Go.Proofs.YtigcpkejjjgkeaaGreat.V
open Go Go.RowKit
set_option linter.unusedVariables false
set_option maxRecDepth 100000
def F_law10_begin.l1 (s18 : Sl) (j37 : Heap → Prop) : Int → Heap → Prop :=
  wl [(15, .one (.int .i64))] (fun (next38 : Int → Heap → Prop) (i39 : Int) (h40 : Heap) =>
  brr (decide (i39 < ((s18.len : Nat) : Int)))
  (ixS 1 s18 i39 fun (a41 : Addr) =>
  st a41 [.int .i64 (-9)] h40 fun (h42 : Heap) =>
  next38 (IntKind.i64.wrap (i39 + 1)) h42)
  (j37 h40))
def F_law10_begin_of (f8_ : Int → Int → Heap → (Int → Heap → Prop) → Prop) (f12_ : Int → Heap → (Sl → Heap → Prop) → Prop) (f13_ : Int → Int → Sl → Heap → (Option Addr → Heap → Prop) → Prop) (f14_ : Int → Int → Sl → Heap → (Option Addr → Heap → Prop) → Prop) (f15_ : Sl → Sl → Heap → (Bool → Heap → Prop) → Prop) (place1 shard2 many3 : Int) (book4 : Option Addr) (mark5 : Bool) (h : Heap) (Q : Option Addr → Heap → Prop) : Prop :=
  f12_ many3 h fun (r6 : Sl) (h7 : Heap) =>
  f8_ place1 ((r6.len : Nat) : Int) h7 fun (r8 : Int) (h9 : Heap) =>
  ixS 1 r6 r8 fun (a10 : Addr) =>
  ld [.int .i64] a10 h9 fun (v11 : Int) =>
  al 3 [] h9 fun (a12 : Addr) (h13 : Heap) =>
  app 3 1 8 (.int .i64 0) ⟨(some a12), 0, 0⟩ r6.ptr r6.len h13 fun (s14 : Sl) (h15 : Heap) =>
  al 3 [.int .i64 (-7)] h15 fun (a16 : Addr) (h17 : Heap) =>
  app 3 1 8 (.int .i64 0) s14 (some a16) 1 h17 fun (s18 : Sl) (h19 : Heap) =>
  slTo s18 ((r6.len : Nat) : Int) fun (s20 : Sl) =>
  f13_ v11 shard2 s20 h19 fun (r21 : Option Addr) (h22 : Heap) =>
  f14_ v11 shard2 r6 h22 fun (r23 : Option Addr) (h24 : Heap) =>
  al 73 [.pointer r21, .pointer r23, .int .i64 v11, .int .i64 shard2, .slice r6.ptr r6.len r6.cap, .pointer book4, .bool mark5, .slice none 0 0, .slice none 0 0, .int .i64 0] h24 fun (a25 : Addr) (h26 : Heap) =>
  jn [(70, .one .bool)] (fun (x35 : Bool) (h36 : Heap) =>
  brr x35
  (Q none h36)
  (jn [] (fun  (h43 : Heap) =>
  Q (some a25) h43) (fun (j37 : Heap → Prop) =>
  F_law10_begin.l1 s18 j37 0 h36))) (fun (j27 : Bool → Heap → Prop) =>
  nn (some a25) fun (a28 : Addr) =>
  ld [.ptr] (a28.add 0) h26 fun (v29 : Option Addr) =>
  brr v29.isNone
  (j27 true h26)
  (ixS 1 s18 ((r6.len : Nat) : Int) fun (a30 : Addr) =>
  ld [.int .i64] a30 h26 fun (v31 : Int) =>
  brr (v31 != (-7))
  (j27 true h26)
  (slTo s18 ((r6.len : Nat) : Int) fun (s32 : Sl) =>
  f15_ s32 r6 h26 fun (r33 : Bool) (h34 : Heap) =>
  j27 (!r33) h34)))
def F_law10_begin (place1 shard2 many3 : Int) (book4 : Option Addr) (mark5 : Bool) (h : Heap) (Q : Option Addr → Heap → Prop) : Prop := F_law10_begin_of F_law10_into F_law10_copiesOf F_quorum_New F_ref10_New F_ref0_EqInts place1 shard2 many3 book4 mark5 h Q
def plan6 : Plan := .s (.r [0, 1, 2, 3, 4]) (.s (.r [0, 1, 3, 4, 11]) (.s (.r [1, 3, 4, 11, 12]) (.s (.r [1, 3, 4, 11, 12, 13]) (.s (.r [1, 3, 4, 11, 12, 13]) (.s (.r [11, 13, 14]) (.s (.s (.rj [(70, .one .bool)] [13, 14]) (.c (.s (.r [10]) .z) .z)) (.s (.s (.r [13, 14, 15]) (.bj [] [14] (.l [(15, .one (.int .i64))] [13, 14] (.s (.s (.r [13, 14, 15, 74]) (.c .z .z)) (.s (.b (.r [13, 14, 15])) (.r [13, 14, 15])))))) (.s (.r [10]) .z))))))))
theorem F_law10_begin.eq (f8_ : Int → Int → Heap → (Int → Heap → Prop) → Prop) (f12_ : Int → Heap → (Sl → Heap → Prop) → Prop) (f13_ : Int → Int → Sl → Heap → (Option Addr → Heap → Prop) → Prop) (f14_ : Int → Int → Sl → Heap → (Option Addr → Heap → Prop) → Prop) (f15_ : Sl → Sl → Heap → (Bool → Heap → Prop) → Prop) (place1 shard2 many3 : Int) (book4 : Option Addr) (mark5 : Bool) (h : Heap) (K : Value → Heap → Prop) : F_law10_begin_of f8_ f12_ f13_ f14_ f15_ place1 shard2 many3 book4 mark5 h (fun (r0 : Option Addr) (h : Heap) => K (.pointer r0) h) =
    den Tryz.prog (fn1 8 (E_law10_into_of f8_) (fn1 12 (E_law10_copiesOf_of f12_) (fn1 13 (E_quorum_New_of f13_) (fn1 14 (E_ref10_New_of f14_) (fn1 15 (E_ref0_EqInts_of f15_) noFns))))) Tryz.f6.ntmps plan6 (bodyOf Tryz.f6) (args0 0 [(.int .i64 place1 : Value), (.int .i64 shard2 : Value), (.int .i64 many3 : Value), (.pointer book4 : Value), (.bool mark5 : Value)]) h ⟨fun env h => dRes Tryz.prog Tryz.f6.results.toList env h K, fun _ _ _ => False, fun env h => dRes Tryz.prog Tryz.f6.results.toList env h K⟩ := by kernel_rfl
def E_law10_begin_of (f : Int → Int → Int → Option Addr → Bool → Heap → (Option Addr → Heap → Prop) → Prop) : List Value → Heap → (Value → Heap → Prop) → Prop
  | [v0, v1, v2, v3, v4], h, K => dec1 (.int .i64) v0 fun (place1 : Int) =>
  dec1 (.int .i64) v1 fun (shard2 : Int) =>
  dec1 (.int .i64) v2 fun (many3 : Int) =>
  dec1 .ptr v3 fun (book4 : Option Addr) =>
  dec1 .bool v4 fun (mark5 : Bool) =>
  f place1 shard2 many3 book4 mark5 h (fun (r0 : Option Addr) (h : Heap) => K (.pointer r0) h)
  | _, _, _ => False
abbrev E_law10_begin := E_law10_begin_of F_law10_begin
theorem E_law10_begin.right : IsRight Tryz.prog 6 E_law10_begin := by
  refine isRight fun vs K w hh => ?_
  match vs, hh with
  | [v0, v1, v2, v3, v4], hh =>
    unfold E_law10_begin E_law10_begin_of at hh
    replace hh := dec1_sound hh; obtain ⟨place1, rfl, hh⟩ := hh
    replace hh := dec1_sound hh; obtain ⟨shard2, rfl, hh⟩ := hh
    replace hh := dec1_sound hh; obtain ⟨many3, rfl, hh⟩ := hh
    replace hh := dec1_sound hh; obtain ⟨book4, rfl, hh⟩ := hh
    replace hh := dec1_sound hh; obtain ⟨mark5, rfl, hh⟩ := hh
    unfold F_law10_begin at hh
    exact calls_den (fn1_right ok8 E_law10_into.right (fn1_right ok12 E_law10_copiesOf.right (fn1_right ok13 E_quorum_New.right (fn1_right ok14 E_ref10_New.right (fn1_right ok15 E_ref0_EqInts.right noFns_right))))) plan6 _ w K Tryz.func6 (by kernel_rfl) (by kernel_rfl) (Eq.mp (F_law10_begin.eq F_law10_into F_law10_copiesOf F_quorum_New F_ref10_New F_ref0_EqInts place1 shard2 many3 book4 mark5 w.heap K) hh)
theorem ok6 : okFn Tryz.prog 6 = true := by kernel_rfl
end Go.Proofs.YtigcpkejjjgkeaaGreat.V
namespace Go.Proofs.YtigcpkejjjgkeaaGreat.V
open Go Go.RowKit
set_option linter.unusedVariables false
set_option maxRecDepth 100000
def F_law10_Play_looks_of (f16_ : Option Addr → Heap → (Int → Int → Sl → Heap → Prop) → Prop) (f17_ : Option Addr → Heap → (Int → Int → Heap → Prop) → Prop) (f18_ : Option Addr → Heap → (Int → Heap → Prop) → Prop) (f19_ : Option Addr → Heap → (Int → Heap → Prop) → Prop) (f20_ : Option Addr → Heap → (Int → Heap → Prop) → Prop) (f21_ : Option Addr → Heap → (Bool → Heap → Prop) → Prop) (f22_ : Option Addr → Heap → (Bool → Heap → Prop) → Prop) (f23_ : Sl → Sl → Heap → (Bool → Heap → Prop) → Prop) (f24_ : Option Addr → Sl → Heap → (Heap → Prop) → Prop) (t1 : Option Addr) (h : Heap) (Q : Bool → Heap → Prop) : Prop :=
  nn t1 fun (a2 : Addr) =>
  ld [.ptr] (a2.add 0) h fun (v3 : Option Addr) =>
  f16_ v3 h fun (r4 r5 : Int) (r6 : Sl) (h7 : Heap) =>
  al 51 [.int .u64 0, .int .u64 0] h7 fun (a8 : Addr) (h9 : Heap) =>
  st a8 [.int .u64 r4, .int .u64 r5] h9 fun (h10 : Heap) =>
  nn t1 fun (a11 : Addr) =>
  ld [.ptr] (a11.add 0) h10 fun (v12 : Option Addr) =>
  f16_ v12 h10 fun (r13 r14 : Int) (r15 : Sl) (h16 : Heap) =>
  al 51 [.int .u64 0, .int .u64 0] h16 fun (a17 : Addr) (h18 : Heap) =>
  st a17 [.int .u64 r13, .int .u64 r14] h18 fun (h19 : Heap) =>
  nn t1 fun (a20 : Addr) =>
  ld [.ptr] (a20.add 0) h19 fun (v21 : Option Addr) =>
  f17_ v21 h19 fun (r22 r23 : Int) (h24 : Heap) =>
  jn [(9, .one .bool)] (fun (ok79 : Bool) (h80 : Heap) =>
  nn t1 fun (a81 : Addr) =>
  ld [.bool] (a81.add 6) h80 fun (v82 : Bool) =>
  jn [] (fun  (h87 : Heap) =>
  jn [(9, .one .bool)] (fun (ok99 : Bool) (h100 : Heap) =>
  nn t1 fun (a101 : Addr) =>
  ld [.bool] (a101.add 6) h100 fun (v102 : Bool) =>
  jn [] (fun  (h107 : Heap) =>
  Q ok99 h107) (fun (j103 : Heap → Prop) =>
  brr v102
  (nn t1 fun (a104 : Addr) =>
  ld [.ptr] (a104.add 5) h100 fun (v105 : Option Addr) =>
  f24_ v105 r15 h100 fun  (h106 : Heap) =>
  j103 h106)
  (j103 h100))) (fun (j88 : Bool → Heap → Prop) =>
  brr ok79
  (ld [.int .u64, .int .u64] a17 h87 fun (v89 v90 : Int) =>
  ld [.int .u64, .int .u64] a8 h87 fun (v91 v92 : Int) =>
  brr ((v89 == v91) && ((v90 == v92) && (true)))
  (nn t1 fun (a93 : Addr) =>
  ld [.ptr] (a93.add 1) h87 fun (v94 : Option Addr) =>
  nn v94 fun (a95 : Addr) =>
  ld [.sl] (a95.add 14) h87 fun (v96 : Sl) =>
  f23_ r15 v96 h87 fun (r97 : Bool) (h98 : Heap) =>
  j88 r97 h98)
  (j88 false h87))
  (j88 false h87))) (fun (j83 : Heap → Prop) =>
  brr v82
  (nn t1 fun (a84 : Addr) =>
  ld [.ptr] (a84.add 5) h80 fun (v85 : Option Addr) =>
  f24_ v85 r6 h80 fun  (h86 : Heap) =>
  j83 h86)
  (j83 h80))) (fun (j25 : Bool → Heap → Prop) =>
  nn t1 fun (a26 : Addr) =>
  ld [.ptr] (a26.add 0) h24 fun (v27 : Option Addr) =>
  nn t1 fun (a28 : Addr) =>
  ld [.ptr] (a28.add 1) h24 fun (v29 : Option Addr) =>
  nn v29 fun (a30 : Addr) =>
  ld [.int .i64] (a30.add 3) h24 fun (v31 : Int) =>
  f18_ v27 h24 fun (r32 : Int) (h33 : Heap) =>
  cellsAre h33 (a28.add 1) [.pointer v29] ∧
  cellsAre h33 (a30.add 3) [.int .i64 v31] ∧
  brr (r32 == v31)
  (nn t1 fun (a34 : Addr) =>
  ld [.ptr] (a34.add 0) h33 fun (v35 : Option Addr) =>
  nn t1 fun (a36 : Addr) =>
  ld [.ptr] (a36.add 1) h33 fun (v37 : Option Addr) =>
  nn v37 fun (a38 : Addr) =>
  ld [.int .u64] (a38.add 4) h33 fun (v39 : Int) =>
  f19_ v35 h33 fun (r40 : Int) (h41 : Heap) =>
  cellsAre h41 (a36.add 1) [.pointer v37] ∧
  cellsAre h41 (a38.add 4) [.int .u64 v39] ∧
  brr (r40 == v39)
  (nn t1 fun (a42 : Addr) =>
  ld [.ptr] (a42.add 0) h41 fun (v43 : Option Addr) =>
  nn t1 fun (a44 : Addr) =>
  ld [.ptr] (a44.add 1) h41 fun (v45 : Option Addr) =>
  nn v45 fun (a46 : Addr) =>
  ld [.int .u64] (a46.add 18) h41 fun (v47 : Int) =>
  f20_ v43 h41 fun (r48 : Int) (h49 : Heap) =>
  cellsAre h49 (a44.add 1) [.pointer v45] ∧
  cellsAre h49 (a46.add 18) [.int .u64 v47] ∧
  brr (r48 == v47)
  (nn t1 fun (a50 : Addr) =>
  ld [.ptr] (a50.add 0) h49 fun (v51 : Option Addr) =>
  nn t1 fun (a52 : Addr) =>
  ld [.ptr] (a52.add 1) h49 fun (v53 : Option Addr) =>
  f21_ v51 h49 fun (r54 : Bool) (h55 : Heap) =>
  cellsAre h55 (a52.add 1) [.pointer v53] ∧
  f22_ v53 h55 fun (r56 : Bool) (h57 : Heap) =>
  brr (r54 == r56)
  (ld [.int .u64, .int .u64] a8 h57 fun (v58 v59 : Int) =>
  nn t1 fun (a60 : Addr) =>
  ld [.ptr] (a60.add 1) h57 fun (v61 : Option Addr) =>
  nn v61 fun (a62 : Addr) =>
  ld [.int .u64, .int .u64] (a62.add 12) h57 fun (v63 v64 : Int) =>
  brr ((v58 == v63) && ((v59 == v64) && (true)))
  (nn t1 fun (a65 : Addr) =>
  ld [.ptr] (a65.add 1) h57 fun (v66 : Option Addr) =>
  nn v66 fun (a67 : Addr) =>
  ld [.sl] (a67.add 14) h57 fun (v68 : Sl) =>
  f23_ r6 v68 h57 fun (r69 : Bool) (h70 : Heap) =>
  brr r69
  (nn t1 fun (a71 : Addr) =>
  ld [.ptr] (a71.add 1) h70 fun (v72 : Option Addr) =>
  nn v72 fun (a73 : Addr) =>
  ld [.int .u64] (a73.add 15) h70 fun (v74 : Int) =>
  brr (r22 == v74)
  (nn t1 fun (a75 : Addr) =>
  ld [.ptr] (a75.add 1) h70 fun (v76 : Option Addr) =>
  nn v76 fun (a77 : Addr) =>
  ld [.int .u64] (a77.add 16) h70 fun (v78 : Int) =>
  j25 (r23 == v78) h70)
  (j25 false h70))
  (j25 false h70))
  (j25 false h57))
  (j25 false h57))
  (j25 false h49))
  (j25 false h41))
  (j25 false h33))
def F_law10_Play_looks (t1 : Option Addr) (h : Heap) (Q : Bool → Heap → Prop) : Prop := F_law10_Play_looks_of F_quorum_Quorum_Chosen F_quorum_Quorum_Round F_quorum_Quorum_Phase F_quorum_Quorum_Epoch F_quorum_Quorum_Seen F_quorum_Quorum_Holds F_ref10_Quorum_Holds F_ref0_Eq F_law1_Book_Bytes t1 h Q
def plan7 : Plan := .s (.r [0]) (.s (.r [0, 3, 4]) (.s (.r [0, 3, 4, 5, 6]) (.s (.r [0, 3, 4, 5, 6, 7, 8]) (.s (.dj [0, 1, 3, 7, 15, 0, 32, 96, 224, 480, 992, 2016, 4095, 8191, 16383, 32767, 65535, 131071, 262143, 16383, 540671, 1589247, 3686399, 7880703, 16269311, 33046527, 67108863, 134217727, 268435455, 536870911, 1073741823, 2147483647, 4294967295, 8589934591, 536870911, 17716740095, 52076478463, 120795955199, 258234908671, 533112815615, 1082868629503, 2199023255551, 4398046511103, 8796093022207, 17592186044415, 35184372088831, 70368744177663, 140737488355327, 281474976710655, 17592186044415, 580542139465727, 1706442046308351, 3958241859993599, 9007199254740991, 18014398509481983, 36028797018963967, 72057594037927935, 144115188075855871, 144115188075855871, 432345564227567615, 1008806316530991103, 2161727821137838079, 4467570830351532031, 9079256848778919935, 18302628885633695743, 36893488147419103231, 73786976294838206463, 147573952589676412927, 295147905179352825855, 295147905179352825855, 885443715538058477567, 2066035336255469780991, 4427218577690292387839, 9149585060559937601535, 18594318026299228028927, 37483783957777808883711, 75557863725914323419135, 151115727451828646838271, 302231454903657293676543, 604462909807314587353087, 604462909807314587353087, 1813388729421943762059263, 4231240368651202111471615, 9066943647109718810296319, 18738350204026752207945727, 38081163317860819003244543, 76766789545528952593842175, 154742504910672534362390527, 309485009821345068724781055, 618970019642690137449562111, 1237940039285380274899124223, 1237940039285380274899124223, 3713820117856140824697372671, 8665580274997661924293869567, 18569100589280704123486863359, 38376141217846788521872850943, 77990222474978957318644826111, 157218384989243294912188776447, 316912650057057350374175801343, 633825300114114700748351602687, 1267650600228229401496703205375] [[0, 1, 2, 3, 5, 6, 7, 8, 9, 10, 11, 4, 12, 13, 14, 15, 16, 17, 19, 20, 21, 22, 23, 24, 25, 18, 26, 27, 28, 29, 30, 31, 32, 34, 35, 36, 37, 38, 39, 40, 33, 41, 42, 43, 44, 45, 46, 47, 49, 50, 51, 52, 48, 53, 54, 55, 56, 57, 58, 59, 60, 61, 62, 63, 64, 65, 66, 67, 68, 69, 70, 71, 72, 73, 74, 75, 76, 77, 78, 79, 80, 81, 82, 83, 84, 85, 86, 87, 88, 89, 90, 91, 92, 93, 94, 95, 96, 97, 98, 99, 100]] [(9, .one .bool)] [0, 3, 4, 5, 6]) (.s (.s (.r [0, 3, 4, 5, 6, 9, 137]) (.cj [] [0, 3, 5, 6, 9] (.r [0, 3, 5, 6, 9]) .z)) (.s (.rj [(9, .one .bool)] [0, 6]) (.s (.s (.r [0, 6, 9, 164]) (.cj [] [9] (.r [9]) .z)) (.s (.r [2]) .z))))))))
theorem F_law10_Play_looks.eq (f16_ : Option Addr → Heap → (Int → Int → Sl → Heap → Prop) → Prop) (f17_ : Option Addr → Heap → (Int → Int → Heap → Prop) → Prop) (f18_ : Option Addr → Heap → (Int → Heap → Prop) → Prop) (f19_ : Option Addr → Heap → (Int → Heap → Prop) → Prop) (f20_ : Option Addr → Heap → (Int → Heap → Prop) → Prop) (f21_ : Option Addr → Heap → (Bool → Heap → Prop) → Prop) (f22_ : Option Addr → Heap → (Bool → Heap → Prop) → Prop) (f23_ : Sl → Sl → Heap → (Bool → Heap → Prop) → Prop) (f24_ : Option Addr → Sl → Heap → (Heap → Prop) → Prop) (t1 : Option Addr) (h : Heap) (K : Value → Heap → Prop) : F_law10_Play_looks_of f16_ f17_ f18_ f19_ f20_ f21_ f22_ f23_ f24_ t1 h (fun (r0 : Bool) (h : Heap) => K (.bool r0) h) =
    den Tryz.prog (fn1 16 (E_quorum_Quorum_Chosen_of f16_) (fn1 17 (E_quorum_Quorum_Round_of f17_) (fn1 18 (E_quorum_Quorum_Phase_of f18_) (fn1 19 (E_quorum_Quorum_Epoch_of f19_) (fn1 20 (E_quorum_Quorum_Seen_of f20_) (fn1 21 (E_quorum_Quorum_Holds_of f21_) (fn1 22 (E_ref10_Quorum_Holds_of f22_) (fn1 23 (E_ref0_Eq_of f23_) (fn1 24 (E_law1_Book_Bytes_of f24_) noFns))))))))) Tryz.f7.ntmps plan7 (bodyOf Tryz.f7) (args0 0 [(.pointer t1 : Value)]) h ⟨fun env h => dRes Tryz.prog Tryz.f7.results.toList env h K, fun _ _ _ => False, fun env h => dRes Tryz.prog Tryz.f7.results.toList env h K⟩ := by kernel_rfl
def E_law10_Play_looks_of (f : Option Addr → Heap → (Bool → Heap → Prop) → Prop) : List Value → Heap → (Value → Heap → Prop) → Prop
  | [v0], h, K => dec1 .ptr v0 fun (t1 : Option Addr) =>
  f t1 h (fun (r0 : Bool) (h : Heap) => K (.bool r0) h)
  | _, _, _ => False
abbrev E_law10_Play_looks := E_law10_Play_looks_of F_law10_Play_looks
theorem E_law10_Play_looks.right : IsRight Tryz.prog 7 E_law10_Play_looks := by
  refine isRight fun vs K w hh => ?_
  match vs, hh with
  | [v0], hh =>
    unfold E_law10_Play_looks E_law10_Play_looks_of at hh
    replace hh := dec1_sound hh; obtain ⟨t1, rfl, hh⟩ := hh
    unfold F_law10_Play_looks at hh
    exact calls_den (fn1_right ok16 E_quorum_Quorum_Chosen.right (fn1_right ok17 E_quorum_Quorum_Round.right (fn1_right ok18 E_quorum_Quorum_Phase.right (fn1_right ok19 E_quorum_Quorum_Epoch.right (fn1_right ok20 E_quorum_Quorum_Seen.right (fn1_right ok21 E_quorum_Quorum_Holds.right (fn1_right ok22 E_ref10_Quorum_Holds.right (fn1_right ok23 E_ref0_Eq.right (fn1_right ok24 E_law1_Book_Bytes.right noFns_right))))))))) plan7 _ w K Tryz.func7 (by kernel_rfl) (by kernel_rfl) (Eq.mp (F_law10_Play_looks.eq F_quorum_Quorum_Chosen F_quorum_Quorum_Round F_quorum_Quorum_Phase F_quorum_Quorum_Epoch F_quorum_Quorum_Seen F_quorum_Quorum_Holds F_ref10_Quorum_Holds F_ref0_Eq F_law1_Book_Bytes t1 w.heap K) hh)
theorem ok7 : okFn Tryz.prog 7 = true := by kernel_rfl
end Go.Proofs.YtigcpkejjjgkeaaGreat.V
namespace Go.Proofs.YtigcpkejjjgkeaaGreat.V
open Go Go.RowKit
set_option linter.unusedVariables false
set_option maxRecDepth 100000
def F_law1_Place_Rows.l1 (p1 : Option Addr) (l2 : Sl) (j8 : Heap → Prop) : Int → Heap → Prop :=
  wl [(5, .one (.int .i64))] (fun (next9 : Int → Heap → Prop) (i10 : Int) (h11 : Heap) =>
  brr (decide (i10 < ((l2.len : Nat) : Int)))
  (nn p1 fun (a12 : Addr) =>
  ld [.sl] (a12.add 1) h11 fun (v13 : Sl) =>
  jn [] (fun  (h23 : Heap) =>
  nn p1 fun (a24 : Addr) =>
  ld [.sl] (a24.add 1) h23 fun (v25 : Sl) =>
  ixS 1 v25 i10 fun (a26 : Addr) =>
  ld [.sl] a26 h23 fun (v27 : Sl) =>
  slTo v27 0 fun (s28 : Sl) =>
  ixS 1 l2 i10 fun (a29 : Addr) =>
  ld [.sl] a29 h23 fun (v30 : Sl) =>
  app 5 1 1 (.int .u8 0) s28 v30.ptr v30.len h23 fun (s31 : Sl) (h32 : Heap) =>
  nn p1 fun (a33 : Addr) =>
  ld [.sl] (a33.add 1) h32 fun (v34 : Sl) =>
  ixS 1 v34 i10 fun (a35 : Addr) =>
  st a35 [.slice s31.ptr s31.len s31.cap] h32 fun (h36 : Heap) =>
  nn p1 fun (a37 : Addr) =>
  ld [.sl] (a37.add 0) h36 fun (v38 : Sl) =>
  al 52 [.slice s31.ptr s31.len s31.cap] h36 fun (a39 : Addr) (h40 : Heap) =>
  app 52 1 24 (.slice none 0 0) v38 (some a39) 1 h40 fun (s41 : Sl) (h42 : Heap) =>
  nn p1 fun (a43 : Addr) =>
  st (a43.add 0) [.slice s41.ptr s41.len s41.cap] h42 fun (h44 : Heap) =>
  next9 (IntKind.i64.wrap (i10 + 1)) h44) (fun (j14 : Heap → Prop) =>
  brr (i10 == ((v13.len : Nat) : Int))
  (nn p1 fun (a15 : Addr) =>
  ld [.sl] (a15.add 1) h11 fun (v16 : Sl) =>
  al 52 [.slice none 0 0] h11 fun (a17 : Addr) (h18 : Heap) =>
  app 52 1 24 (.slice none 0 0) v16 (some a17) 1 h18 fun (s19 : Sl) (h20 : Heap) =>
  nn p1 fun (a21 : Addr) =>
  st (a21.add 1) [.slice s19.ptr s19.len s19.cap] h20 fun (h22 : Heap) =>
  j14 h22)
  (j14 h11)))
  (j8 h11))
def F_law1_Place_Rows_of  (p1 : Option Addr) (l2 : Sl) (h : Heap) (Q : Sl → Heap → Prop) : Prop :=
  nn p1 fun (a3 : Addr) =>
  ld [.sl] (a3.add 0) h fun (v4 : Sl) =>
  slTo v4 0 fun (s5 : Sl) =>
  nn p1 fun (a6 : Addr) =>
  st (a6.add 0) [.slice s5.ptr s5.len s5.cap] h fun (h7 : Heap) =>
  jn [] (fun  (h45 : Heap) =>
  nn p1 fun (a46 : Addr) =>
  ld [.sl] (a46.add 0) h45 fun (v47 : Sl) =>
  Q v47 h45) (fun (j8 : Heap → Prop) =>
  F_law1_Place_Rows.l1 p1 l2 j8 0 h7)
def F_law1_Place_Rows (p1 : Option Addr) (l2 : Sl) (h : Heap) (Q : Sl → Heap → Prop) : Prop := F_law1_Place_Rows_of  p1 l2 h Q
def plan84 : Plan := .s (.r [0, 1]) (.s (.r [0, 1]) (.s (.s (.r [0, 1, 5]) (.bj [] [0] (.l [(5, .one (.int .i64))] [0, 1] (.s (.s (.r [0, 1, 5, 18]) (.c .z .z)) (.s (.b (.s (.s (.r [0, 1, 5, 27]) (.cj [] [0, 1, 5] (.r [0, 1, 5]) .z)) (.s (.d [0, 1, 3, 7, 0, 31, 63, 127, 0, 0, 768, 1792, 4095, 8191] [[0, 1, 2, 3, 4, 5, 6, 7, 8, 9, 10, 11, 12, 13]] [0, 1, 5, 6]) (.s (.r [0, 1, 5, 6]) (.r [0, 1, 5]))))) (.r [0, 1, 5])))))) (.s (.r [4]) .z)))
theorem F_law1_Place_Rows.eq  (p1 : Option Addr) (l2 : Sl) (h : Heap) (K : Value → Heap → Prop) : F_law1_Place_Rows_of  p1 l2 h (fun (r0 : Sl) (h : Heap) => K (.slice r0.ptr r0.len r0.cap) h) =
    den Tryz.prog noFns Tryz.f84.ntmps plan84 (bodyOf Tryz.f84) (args0 0 [(.pointer p1 : Value), (.slice l2.ptr l2.len l2.cap : Value)]) h ⟨fun env h => dRes Tryz.prog Tryz.f84.results.toList env h K, fun _ _ _ => False, fun env h => dRes Tryz.prog Tryz.f84.results.toList env h K⟩ := by kernel_rfl
def E_law1_Place_Rows_of (f : Option Addr → Sl → Heap → (Sl → Heap → Prop) → Prop) : List Value → Heap → (Value → Heap → Prop) → Prop
  | [v0, v1], h, K => dec1 .ptr v0 fun (p1 : Option Addr) =>
  dec1 .sl v1 fun (l2 : Sl) =>
  f p1 l2 h (fun (r0 : Sl) (h : Heap) => K (.slice r0.ptr r0.len r0.cap) h)
  | _, _, _ => False
abbrev E_law1_Place_Rows := E_law1_Place_Rows_of F_law1_Place_Rows
theorem E_law1_Place_Rows.right : IsRight Tryz.prog 84 E_law1_Place_Rows := by
  refine isRight fun vs K w hh => ?_
  match vs, hh with
  | [v0, v1], hh =>
    unfold E_law1_Place_Rows E_law1_Place_Rows_of at hh
    replace hh := dec1_sound hh; obtain ⟨p1, rfl, hh⟩ := hh
    replace hh := dec1_sound hh; obtain ⟨l2, rfl, hh⟩ := hh
    unfold F_law1_Place_Rows at hh
    exact calls_den noFns_right plan84 _ w K Tryz.func84 (by kernel_rfl) (by kernel_rfl) (Eq.mp (F_law1_Place_Rows.eq  p1 l2 w.heap K) hh)
theorem ok84 : okFn Tryz.prog 84 = true := by kernel_rfl
end Go.Proofs.YtigcpkejjjgkeaaGreat.V
namespace Go.Proofs.YtigcpkejjjgkeaaGreat.V
open Go Go.RowKit
set_option linter.unusedVariables false
set_option maxRecDepth 100000
def F_law1_Place_Bytes_of (f84_ : Option Addr → Sl → Heap → (Sl → Heap → Prop) → Prop) (p1 : Option Addr) (b2 : Sl) (h : Heap) (Q : Sl → Heap → Prop) : Prop :=
  al 52 [.slice b2.ptr b2.len b2.cap] h fun (a3 : Addr) (h4 : Heap) =>
  f84_ p1 ⟨(some a3), 1, 1⟩ h4 fun (r5 : Sl) (h6 : Heap) =>
  ixS 1 r5 0 fun (a7 : Addr) =>
  ld [.sl] a7 h6 fun (v8 : Sl) =>
  Q v8 h6
def F_law1_Place_Bytes (p1 : Option Addr) (b2 : Sl) (h : Heap) (Q : Sl → Heap → Prop) : Prop := F_law1_Place_Bytes_of F_law1_Place_Rows p1 b2 h Q
def plan46 : Plan := .s (.r [0, 1]) (.s (.r [5]) (.s (.r [4]) .z))
theorem F_law1_Place_Bytes.eq (f84_ : Option Addr → Sl → Heap → (Sl → Heap → Prop) → Prop) (p1 : Option Addr) (b2 : Sl) (h : Heap) (K : Value → Heap → Prop) : F_law1_Place_Bytes_of f84_ p1 b2 h (fun (r0 : Sl) (h : Heap) => K (.slice r0.ptr r0.len r0.cap) h) =
    den Tryz.prog (fn1 84 (E_law1_Place_Rows_of f84_) noFns) Tryz.f46.ntmps plan46 (bodyOf Tryz.f46) (args0 0 [(.pointer p1 : Value), (.slice b2.ptr b2.len b2.cap : Value)]) h ⟨fun env h => dRes Tryz.prog Tryz.f46.results.toList env h K, fun _ _ _ => False, fun env h => dRes Tryz.prog Tryz.f46.results.toList env h K⟩ := by kernel_rfl
def E_law1_Place_Bytes_of (f : Option Addr → Sl → Heap → (Sl → Heap → Prop) → Prop) : List Value → Heap → (Value → Heap → Prop) → Prop
  | [v0, v1], h, K => dec1 .ptr v0 fun (p1 : Option Addr) =>
  dec1 .sl v1 fun (b2 : Sl) =>
  f p1 b2 h (fun (r0 : Sl) (h : Heap) => K (.slice r0.ptr r0.len r0.cap) h)
  | _, _, _ => False
abbrev E_law1_Place_Bytes := E_law1_Place_Bytes_of F_law1_Place_Bytes
theorem E_law1_Place_Bytes.right : IsRight Tryz.prog 46 E_law1_Place_Bytes := by
  refine isRight fun vs K w hh => ?_
  match vs, hh with
  | [v0, v1], hh =>
    unfold E_law1_Place_Bytes E_law1_Place_Bytes_of at hh
    replace hh := dec1_sound hh; obtain ⟨p1, rfl, hh⟩ := hh
    replace hh := dec1_sound hh; obtain ⟨b2, rfl, hh⟩ := hh
    unfold F_law1_Place_Bytes at hh
    exact calls_den (fn1_right ok84 E_law1_Place_Rows.right noFns_right) plan46 _ w K Tryz.func46 (by kernel_rfl) (by kernel_rfl) (Eq.mp (F_law1_Place_Bytes.eq F_law1_Place_Rows p1 b2 w.heap K) hh)
theorem ok46 : okFn Tryz.prog 46 = true := by kernel_rfl
end Go.Proofs.YtigcpkejjjgkeaaGreat.V
namespace Go.Proofs.YtigcpkejjjgkeaaGreat.V
open Go Go.RowKit
set_option linter.unusedVariables false
set_option maxRecDepth 100000
def F_law10_Play_given_of (f46_ : Option Addr → Sl → Heap → (Sl → Heap → Prop) → Prop) (f47_ : Sl → Heap → (Sl → Heap → Prop) → Prop) (t1 : Option Addr) (b2 : Sl) (h : Heap) (Q : Sl → Heap → Prop) : Prop :=
  nn t1 fun (a3 : Addr) =>
  ld [.int .i64] (a3.add 9) h fun (v4 : Int) =>
  nn t1 fun (a5 : Addr) =>
  st (a5.add 9) [.int .i64 (IntKind.i64.wrap (v4 + 1))] h fun (h6 : Heap) =>
  nn t1 fun (a7 : Addr) =>
  ld [.int .i64] (a7.add 9) h6 fun (v8 : Int) =>
  (2 : Int) ≠ 0 ∧
  brr ((v8.tmod 2) == 0)
  (nn t1 fun (a9 : Addr) =>
  f46_ (some (a9.add 7)) b2 h6 fun (r10 : Sl) (h11 : Heap) =>
  Q r10 h11)
  (f47_ b2 h6 fun (r12 : Sl) (h13 : Heap) =>
  Q r12 h13)
def F_law10_Play_given (t1 : Option Addr) (b2 : Sl) (h : Heap) (Q : Sl → Heap → Prop) : Prop := F_law10_Play_given_of F_law1_Place_Bytes F_law1_Lend t1 b2 h Q
def plan25 : Plan := .s (.r [0, 1]) (.s (.r [0, 1]) (.s (.s (.r [0, 1, 17]) (.c (.s (.r [4]) .z) .z)) (.s (.r [4]) .z)))
theorem F_law10_Play_given.eq (f46_ : Option Addr → Sl → Heap → (Sl → Heap → Prop) → Prop) (f47_ : Sl → Heap → (Sl → Heap → Prop) → Prop) (t1 : Option Addr) (b2 : Sl) (h : Heap) (K : Value → Heap → Prop) : F_law10_Play_given_of f46_ f47_ t1 b2 h (fun (r0 : Sl) (h : Heap) => K (.slice r0.ptr r0.len r0.cap) h) =
    den Tryz.prog (fn1 46 (E_law1_Place_Bytes_of f46_) (fn1 47 (E_law1_Lend_of f47_) noFns)) Tryz.f25.ntmps plan25 (bodyOf Tryz.f25) (args0 0 [(.pointer t1 : Value), (.slice b2.ptr b2.len b2.cap : Value)]) h ⟨fun env h => dRes Tryz.prog Tryz.f25.results.toList env h K, fun _ _ _ => False, fun env h => dRes Tryz.prog Tryz.f25.results.toList env h K⟩ := by kernel_rfl
def E_law10_Play_given_of (f : Option Addr → Sl → Heap → (Sl → Heap → Prop) → Prop) : List Value → Heap → (Value → Heap → Prop) → Prop
  | [v0, v1], h, K => dec1 .ptr v0 fun (t1 : Option Addr) =>
  dec1 .sl v1 fun (b2 : Sl) =>
  f t1 b2 h (fun (r0 : Sl) (h : Heap) => K (.slice r0.ptr r0.len r0.cap) h)
  | _, _, _ => False
abbrev E_law10_Play_given := E_law10_Play_given_of F_law10_Play_given
theorem E_law10_Play_given.right : IsRight Tryz.prog 25 E_law10_Play_given := by
  refine isRight fun vs K w hh => ?_
  match vs, hh with
  | [v0, v1], hh =>
    unfold E_law10_Play_given E_law10_Play_given_of at hh
    replace hh := dec1_sound hh; obtain ⟨t1, rfl, hh⟩ := hh
    replace hh := dec1_sound hh; obtain ⟨b2, rfl, hh⟩ := hh
    unfold F_law10_Play_given at hh
    exact calls_den (fn1_right ok46 E_law1_Place_Bytes.right (fn1_right ok47 E_law1_Lend.right noFns_right)) plan25 _ w K Tryz.func25 (by kernel_rfl) (by kernel_rfl) (Eq.mp (F_law10_Play_given.eq F_law1_Place_Bytes F_law1_Lend t1 b2 w.heap K) hh)
theorem ok25 : okFn Tryz.prog 25 = true := by kernel_rfl
end Go.Proofs.YtigcpkejjjgkeaaGreat.V
namespace Go.Proofs.YtigcpkejjjgkeaaGreat.V
open Go Go.RowKit
set_option linter.unusedVariables false
set_option maxRecDepth 100000
def F_law1_Over.l1 (l1 : Sl) (j2 : Heap → Prop) : Int → Heap → Prop :=
  wl [(2, .one (.int .i64))] (fun (next3 : Int → Heap → Prop) (i4 : Int) (h5 : Heap) =>
  brr (decide (i4 < ((l1.len : Nat) : Int)))
  (ixS 1 l1 i4 fun (a6 : Addr) =>
  st a6 [.int .u8 238] h5 fun (h7 : Heap) =>
  next3 (IntKind.i64.wrap (i4 + 1)) h7)
  (j2 h5))
def F_law1_Over_of  (l1 : Sl) (h : Heap) (Q : Heap → Prop) : Prop :=
  jn [] (fun  (h8 : Heap) =>
  Q h8) (fun (j2 : Heap → Prop) =>
  F_law1_Over.l1 l1 j2 0 h)
def F_law1_Over (l1 : Sl) (h : Heap) (Q : Heap → Prop) : Prop := F_law1_Over_of  l1 h Q
def plan52 : Plan := .s (.r [0, 2]) (.bj [] [] (.l [(2, .one (.int .i64))] [0] (.s (.s (.r [0, 2, 6]) (.c .z .z)) (.s (.b (.r [0, 2])) (.r [0, 2])))))
theorem F_law1_Over.eq  (l1 : Sl) (h : Heap) (K : Value → Heap → Prop) : F_law1_Over_of  l1 h (fun  (h : Heap) => K (.tuple #[]) h) =
    den Tryz.prog noFns Tryz.f52.ntmps plan52 (bodyOf Tryz.f52) (args0 0 [(.slice l1.ptr l1.len l1.cap : Value)]) h ⟨fun env h => dRes Tryz.prog Tryz.f52.results.toList env h K, fun _ _ _ => False, fun env h => dRes Tryz.prog Tryz.f52.results.toList env h K⟩ := by kernel_rfl
def E_law1_Over_of (f : Sl → Heap → (Heap → Prop) → Prop) : List Value → Heap → (Value → Heap → Prop) → Prop
  | [v0], h, K => dec1 .sl v0 fun (l1 : Sl) =>
  f l1 h (fun  (h : Heap) => K (.tuple #[]) h)
  | _, _, _ => False
abbrev E_law1_Over := E_law1_Over_of F_law1_Over
theorem E_law1_Over.right : IsRight Tryz.prog 52 E_law1_Over := by
  refine isRight fun vs K w hh => ?_
  match vs, hh with
  | [v0], hh =>
    unfold E_law1_Over E_law1_Over_of at hh
    replace hh := dec1_sound hh; obtain ⟨l1, rfl, hh⟩ := hh
    unfold F_law1_Over at hh
    exact calls_den noFns_right plan52 _ w K Tryz.func52 (by kernel_rfl) (by kernel_rfl) (Eq.mp (F_law1_Over.eq  l1 w.heap K) hh)
theorem ok52 : okFn Tryz.prog 52 = true := by kernel_rfl
end Go.Proofs.YtigcpkejjjgkeaaGreat.V
namespace Go.Proofs.YtigcpkejjjgkeaaGreat.V
open Go Go.RowKit
set_option linter.unusedVariables false
set_option maxRecDepth 100000
def F_law10_Play_kept_of (f23_ : Sl → Sl → Heap → (Bool → Heap → Prop) → Prop) (f51_ : Sl → Sl → Heap → (Bool → Heap → Prop) → Prop) (f52_ : Sl → Heap → (Heap → Prop) → Prop) (t1 : Option Addr) (l2 b3 : Sl) (h : Heap) (Q : Bool → Heap → Prop) : Prop :=
  f23_ l2 b3 h fun (r4 : Bool) (h5 : Heap) =>
  nn t1 fun (a6 : Addr) =>
  ld [.int .i64] (a6.add 9) h5 fun (v7 : Int) =>
  (2 : Int) ≠ 0 ∧
  jn [(7, .one .bool)] (fun (ok11 : Bool) (h12 : Heap) =>
  f52_ l2 h12 fun  (h13 : Heap) =>
  Q ok11 h13) (fun (j8 : Bool → Heap → Prop) =>
  brr ((v7.tmod 2) == 1)
  (f51_ l2 b3 h5 fun (r9 : Bool) (h10 : Heap) =>
  j8 r9 h10)
  (j8 r4 h5))
def F_law10_Play_kept (t1 : Option Addr) (l2 b3 : Sl) (h : Heap) (Q : Bool → Heap → Prop) : Prop := F_law10_Play_kept_of F_ref0_Eq F_law1_Intact F_law1_Over t1 l2 b3 h Q
def plan27 : Plan := .s (.r [0, 1, 2]) (.s (.r [0, 1, 2, 7]) (.s (.s (.r [1, 2, 7, 16]) (.cj [(7, .one .bool)] [1] (.r [1, 7]) .z)) (.s (.r [7]) (.s (.r [6]) .z))))
theorem F_law10_Play_kept.eq (f23_ : Sl → Sl → Heap → (Bool → Heap → Prop) → Prop) (f51_ : Sl → Sl → Heap → (Bool → Heap → Prop) → Prop) (f52_ : Sl → Heap → (Heap → Prop) → Prop) (t1 : Option Addr) (l2 b3 : Sl) (h : Heap) (K : Value → Heap → Prop) : F_law10_Play_kept_of f23_ f51_ f52_ t1 l2 b3 h (fun (r0 : Bool) (h : Heap) => K (.bool r0) h) =
    den Tryz.prog (fn1 23 (E_ref0_Eq_of f23_) (fn1 51 (E_law1_Intact_of f51_) (fn1 52 (E_law1_Over_of f52_) noFns))) Tryz.f27.ntmps plan27 (bodyOf Tryz.f27) (args0 0 [(.pointer t1 : Value), (.slice l2.ptr l2.len l2.cap : Value), (.slice b3.ptr b3.len b3.cap : Value)]) h ⟨fun env h => dRes Tryz.prog Tryz.f27.results.toList env h K, fun _ _ _ => False, fun env h => dRes Tryz.prog Tryz.f27.results.toList env h K⟩ := by kernel_rfl
def E_law10_Play_kept_of (f : Option Addr → Sl → Sl → Heap → (Bool → Heap → Prop) → Prop) : List Value → Heap → (Value → Heap → Prop) → Prop
  | [v0, v1, v2], h, K => dec1 .ptr v0 fun (t1 : Option Addr) =>
  dec1 .sl v1 fun (l2 : Sl) =>
  dec1 .sl v2 fun (b3 : Sl) =>
  f t1 l2 b3 h (fun (r0 : Bool) (h : Heap) => K (.bool r0) h)
  | _, _, _ => False
abbrev E_law10_Play_kept := E_law10_Play_kept_of F_law10_Play_kept
theorem E_law10_Play_kept.right : IsRight Tryz.prog 27 E_law10_Play_kept := by
  refine isRight fun vs K w hh => ?_
  match vs, hh with
  | [v0, v1, v2], hh =>
    unfold E_law10_Play_kept E_law10_Play_kept_of at hh
    replace hh := dec1_sound hh; obtain ⟨t1, rfl, hh⟩ := hh
    replace hh := dec1_sound hh; obtain ⟨l2, rfl, hh⟩ := hh
    replace hh := dec1_sound hh; obtain ⟨b3, rfl, hh⟩ := hh
    unfold F_law10_Play_kept at hh
    exact calls_den (fn1_right ok23 E_ref0_Eq.right (fn1_right ok51 E_law1_Intact.right (fn1_right ok52 E_law1_Over.right noFns_right))) plan27 _ w K Tryz.func27 (by kernel_rfl) (by kernel_rfl) (Eq.mp (F_law10_Play_kept.eq F_ref0_Eq F_law1_Intact F_law1_Over t1 l2 b3 w.heap K) hh)
theorem ok27 : okFn Tryz.prog 27 = true := by kernel_rfl
end Go.Proofs.YtigcpkejjjgkeaaGreat.V
namespace Go.Proofs.YtigcpkejjjgkeaaGreat.V
open Go Go.RowKit
set_option linter.unusedVariables false
set_option maxRecDepth 100000
def F_law1_Book_Msgs.l1 (f24_ : Option Addr → Sl → Heap → (Heap → Prop) → Prop) (b1 : Option Addr) (l2 : Sl) (j3 : Heap → Prop) : Int → Heap → Prop :=
  wl [(4, .one (.int .i64))] (fun (next4 : Int → Heap → Prop) (i5 : Int) (h6 : Heap) =>
  brr (decide (i5 < ((l2.len : Nat) : Int)))
  (ixS 22 l2 i5 fun (a7 : Addr) =>
  ld [.sl] (a7.add 10) h6 fun (v8 : Sl) =>
  f24_ b1 v8 h6 fun  (h9 : Heap) =>
  next4 (IntKind.i64.wrap (i5 + 1)) h9)
  (j3 h6))
def F_law1_Book_Msgs.l2 (l2 : Sl) (a40 : Addr) (j43 : Heap → Prop) : Int → Heap → Prop :=
  wl [(7, .one (.int .i64))] (fun (next44 : Int → Heap → Prop) (i45 : Int) (h46 : Heap) =>
  brr (decide (i45 < ((l2.len : Nat) : Int)))
  (ld [.int .i64, .int .i64, .int .i64, .int .i64, .int .u64, .int .u64, .int .u64, .int .u64, .int .i64, .int .u64, .sl, .int .i64, .int .u64, .str, .str, .int .u64, .int .u64, .int .u64, .int .i64, .int .i64, .int .i64, .int .i64] a40 h46 fun (v47 v48 v49 v50 v51 v52 v53 v54 v55 v56 : Int) (v57 : Sl) (v58 v59 : Int) (v60 v61 : ByteArray) (v62 v63 v64 v65 v66 v67 v68 : Int) =>
  ixS 22 l2 i45 fun (a69 : Addr) =>
  st a69 [.int .i64 v47, .int .i64 v48, .int .i64 v49, .int .i64 v50, .int .u64 v51, .int .u64 v52, .int .u64 v53, .int .u64 v54, .int .i64 v55, .int .u64 v56, .slice v57.ptr v57.len v57.cap, .int .i64 v58, .int .u64 v59, .string v60, .string v61, .int .u64 v62, .int .u64 v63, .int .u64 v64, .int .i64 v65, .int .i64 v66, .int .i64 v67, .int .i64 v68] h46 fun (h70 : Heap) =>
  next44 (IntKind.i64.wrap (i45 + 1)) h70)
  (j43 h46))
def F_law1_Book_Msgs_of (f24_ : Option Addr → Sl → Heap → (Heap → Prop) → Prop) (f45_ : Option Addr → Int → Heap → (Bool → Heap → Prop) → Prop) (f88_ : Int → Heap → (Int → Int → Int → Int → Int → Int → Int → Int → Int → Int → Sl → Int → Int → ByteArray → ByteArray → Int → Int → Int → Int → Int → Int → Int → Heap → Prop) → Prop) (b1 : Option Addr) (l2 : Sl) (h : Heap) (Q : Heap → Prop) : Prop :=
  jn [] (fun  (h10 : Heap) =>
  nn b1 fun (a11 : Addr) =>
  ld [.int .i64] (a11.add 36) h10 fun (v12 : Int) =>
  nn b1 fun (a13 : Addr) =>
  st (a13.add 36) [.int .i64 (IntKind.i64.wrap (v12 + 1))] h10 fun (h14 : Heap) =>
  nn b1 fun (a15 : Addr) =>
  ld [.int .i64] (a15.add 36) h14 fun (v16 : Int) =>
  f88_ v16 h14 fun (r17 r18 r19 r20 r21 r22 r23 r24 r25 r26 : Int) (r27 : Sl) (r28 r29 : Int) (r30 r31 : ByteArray) (r32 r33 r34 r35 r36 r37 r38 : Int) (h39 : Heap) =>
  al 61 [.int .i64 0, .int .i64 0, .int .i64 0, .int .i64 0, .int .u64 0, .int .u64 0, .int .u64 0, .int .u64 0, .int .i64 0, .int .u64 0, .slice none 0 0, .int .i64 0, .int .u64 0, .string (⟨#[]⟩ : ByteArray), .string (⟨#[]⟩ : ByteArray), .int .u64 0, .int .u64 0, .int .u64 0, .int .i64 0, .int .i64 0, .int .i64 0, .int .i64 0] h39 fun (a40 : Addr) (h41 : Heap) =>
  st a40 [.int .i64 r17, .int .i64 r18, .int .i64 r19, .int .i64 r20, .int .u64 r21, .int .u64 r22, .int .u64 r23, .int .u64 r24, .int .i64 r25, .int .u64 r26, .slice r27.ptr r27.len r27.cap, .int .i64 r28, .int .u64 r29, .string r30, .string r31, .int .u64 r32, .int .u64 r33, .int .u64 r34, .int .i64 r35, .int .i64 r36, .int .i64 r37, .int .i64 r38] h41 fun (h42 : Heap) =>
  jn [] (fun  (h71 : Heap) =>
  f45_ b1 (IntKind.i64.wrap (8000 + (IntKind.i64.wrap (300 * ((l2.len : Nat) : Int))))) h71 fun (r72 : Bool) (h73 : Heap) =>
  brr r72
  (Q h73)
  (nn b1 fun (a74 : Addr) =>
  ld [.sl] (a74.add 27) h73 fun (v75 : Sl) =>
  al 87 [.slice l2.ptr l2.len l2.cap] h73 fun (a76 : Addr) (h77 : Heap) =>
  app 87 1 24 (.slice none 0 0) v75 (some a76) 1 h77 fun (s78 : Sl) (h79 : Heap) =>
  nn b1 fun (a80 : Addr) =>
  st (a80.add 27) [.slice s78.ptr s78.len s78.cap] h79 fun (h81 : Heap) =>
  nn b1 fun (a82 : Addr) =>
  ld [.sl] (a82.add 28) h81 fun (v83 : Sl) =>
  al 3 [.int .i64 v16] h81 fun (a84 : Addr) (h85 : Heap) =>
  app 3 1 8 (.int .i64 0) v83 (some a84) 1 h85 fun (s86 : Sl) (h87 : Heap) =>
  nn b1 fun (a88 : Addr) =>
  st (a88.add 28) [.slice s86.ptr s86.len s86.cap] h87 fun (h89 : Heap) =>
  Q h89)) (fun (j43 : Heap → Prop) =>
  F_law1_Book_Msgs.l2 l2 a40 j43 0 h42)) (fun (j3 : Heap → Prop) =>
  F_law1_Book_Msgs.l1 f24_ b1 l2 j3 0 h)
def F_law1_Book_Msgs (b1 : Option Addr) (l2 : Sl) (h : Heap) (Q : Heap → Prop) : Prop := F_law1_Book_Msgs_of F_law1_Book_Bytes F_law1_Book_tight F_law1_msgsMark b1 l2 h Q
def plan54 : Plan := .s (.s (.r [0, 1, 4]) (.bj [] [0, 1] (.l [(4, .one (.int .i64))] [0, 1] (.s (.s (.r [0, 1, 4, 11]) (.c .z .z)) (.s (.b (.r [0, 1, 4])) (.r [0, 1, 4])))))) (.s (.r [0, 1]) (.s (.r [0, 1, 5]) (.s (.r [0, 1, 5, 6]) (.s (.s (.r [0, 1, 5, 6, 7]) (.bj [] [0, 1, 5] (.l [(7, .one (.int .i64))] [0, 1, 5, 6] (.s (.s (.r [0, 1, 5, 6, 7, 37]) (.c .z .z)) (.s (.b (.r [0, 1, 5, 6, 7])) (.r [0, 1, 5, 6, 7])))))) (.s (.s (.r [0, 1, 5, 49]) (.c .z .z)) (.s (.r [0, 5]) (.r [])))))))
theorem F_law1_Book_Msgs.eq (f24_ : Option Addr → Sl → Heap → (Heap → Prop) → Prop) (f45_ : Option Addr → Int → Heap → (Bool → Heap → Prop) → Prop) (f88_ : Int → Heap → (Int → Int → Int → Int → Int → Int → Int → Int → Int → Int → Sl → Int → Int → ByteArray → ByteArray → Int → Int → Int → Int → Int → Int → Int → Heap → Prop) → Prop) (b1 : Option Addr) (l2 : Sl) (h : Heap) (K : Value → Heap → Prop) : F_law1_Book_Msgs_of f24_ f45_ f88_ b1 l2 h (fun  (h : Heap) => K (.tuple #[]) h) =
    den Tryz.prog (fn1 24 (E_law1_Book_Bytes_of f24_) (fn1 45 (E_law1_Book_tight_of f45_) (fn1 88 (E_law1_msgsMark_of f88_) noFns))) Tryz.f54.ntmps plan54 (bodyOf Tryz.f54) (args0 0 [(.pointer b1 : Value), (.slice l2.ptr l2.len l2.cap : Value)]) h ⟨fun env h => dRes Tryz.prog Tryz.f54.results.toList env h K, fun _ _ _ => False, fun env h => dRes Tryz.prog Tryz.f54.results.toList env h K⟩ := by kernel_rfl
def E_law1_Book_Msgs_of (f : Option Addr → Sl → Heap → (Heap → Prop) → Prop) : List Value → Heap → (Value → Heap → Prop) → Prop
  | [v0, v1], h, K => dec1 .ptr v0 fun (b1 : Option Addr) =>
  dec1 .sl v1 fun (l2 : Sl) =>
  f b1 l2 h (fun  (h : Heap) => K (.tuple #[]) h)
  | _, _, _ => False
abbrev E_law1_Book_Msgs := E_law1_Book_Msgs_of F_law1_Book_Msgs
theorem E_law1_Book_Msgs.right : IsRight Tryz.prog 54 E_law1_Book_Msgs := by
  refine isRight fun vs K w hh => ?_
  match vs, hh with
  | [v0, v1], hh =>
    unfold E_law1_Book_Msgs E_law1_Book_Msgs_of at hh
    replace hh := dec1_sound hh; obtain ⟨b1, rfl, hh⟩ := hh
    replace hh := dec1_sound hh; obtain ⟨l2, rfl, hh⟩ := hh
    unfold F_law1_Book_Msgs at hh
    exact calls_den (fn1_right ok24 E_law1_Book_Bytes.right (fn1_right ok45 E_law1_Book_tight.right (fn1_right ok88 E_law1_msgsMark.right noFns_right))) plan54 _ w K Tryz.func54 (by kernel_rfl) (by kernel_rfl) (Eq.mp (F_law1_Book_Msgs.eq F_law1_Book_Bytes F_law1_Book_tight F_law1_msgsMark b1 l2 w.heap K) hh)
theorem ok54 : okFn Tryz.prog 54 = true := by kernel_rfl
end Go.Proofs.YtigcpkejjjgkeaaGreat.V
namespace Go.Proofs.YtigcpkejjjgkeaaGreat.V
open Go Go.RowKit
set_option linter.unusedVariables false
set_option maxRecDepth 100000
def F_law10_Play_told_of (f53_ : Sl → Sl → Heap → (Bool → Heap → Prop) → Prop) (f54_ : Option Addr → Sl → Heap → (Heap → Prop) → Prop) (t1 : Option Addr) (a2 b3 : Sl) (h : Heap) (Q : Bool → Heap → Prop) : Prop :=
  f53_ a2 b3 h fun (r4 : Bool) (h5 : Heap) =>
  nn t1 fun (a6 : Addr) =>
  ld [.bool] (a6.add 6) h5 fun (v7 : Bool) =>
  jn [] (fun  (h12 : Heap) =>
  Q r4 h12) (fun (j8 : Heap → Prop) =>
  brr v7
  (nn t1 fun (a9 : Addr) =>
  ld [.ptr] (a9.add 5) h5 fun (v10 : Option Addr) =>
  f54_ v10 a2 h5 fun  (h11 : Heap) =>
  j8 h11)
  (j8 h5))
def F_law10_Play_told (t1 : Option Addr) (a2 b3 : Sl) (h : Heap) (Q : Bool → Heap → Prop) : Prop := F_law10_Play_told_of F_ref0_EqMsgs F_law1_Book_Msgs t1 a2 b3 h Q
def plan28 : Plan := .s (.r [0, 1, 2]) (.s (.r [0, 1, 7]) (.s (.s (.r [0, 1, 7, 14]) (.cj [] [7] (.r [7]) .z)) (.s (.r [6]) .z)))
theorem F_law10_Play_told.eq (f53_ : Sl → Sl → Heap → (Bool → Heap → Prop) → Prop) (f54_ : Option Addr → Sl → Heap → (Heap → Prop) → Prop) (t1 : Option Addr) (a2 b3 : Sl) (h : Heap) (K : Value → Heap → Prop) : F_law10_Play_told_of f53_ f54_ t1 a2 b3 h (fun (r0 : Bool) (h : Heap) => K (.bool r0) h) =
    den Tryz.prog (fn1 53 (E_ref0_EqMsgs_of f53_) (fn1 54 (E_law1_Book_Msgs_of f54_) noFns)) Tryz.f28.ntmps plan28 (bodyOf Tryz.f28) (args0 0 [(.pointer t1 : Value), (.slice a2.ptr a2.len a2.cap : Value), (.slice b3.ptr b3.len b3.cap : Value)]) h ⟨fun env h => dRes Tryz.prog Tryz.f28.results.toList env h K, fun _ _ _ => False, fun env h => dRes Tryz.prog Tryz.f28.results.toList env h K⟩ := by kernel_rfl
def E_law10_Play_told_of (f : Option Addr → Sl → Sl → Heap → (Bool → Heap → Prop) → Prop) : List Value → Heap → (Value → Heap → Prop) → Prop
  | [v0, v1, v2], h, K => dec1 .ptr v0 fun (t1 : Option Addr) =>
  dec1 .sl v1 fun (a2 : Sl) =>
  dec1 .sl v2 fun (b3 : Sl) =>
  f t1 a2 b3 h (fun (r0 : Bool) (h : Heap) => K (.bool r0) h)
  | _, _, _ => False
abbrev E_law10_Play_told := E_law10_Play_told_of F_law10_Play_told
theorem E_law10_Play_told.right : IsRight Tryz.prog 28 E_law10_Play_told := by
  refine isRight fun vs K w hh => ?_
  match vs, hh with
  | [v0, v1, v2], hh =>
    unfold E_law10_Play_told E_law10_Play_told_of at hh
    replace hh := dec1_sound hh; obtain ⟨t1, rfl, hh⟩ := hh
    replace hh := dec1_sound hh; obtain ⟨a2, rfl, hh⟩ := hh
    replace hh := dec1_sound hh; obtain ⟨b3, rfl, hh⟩ := hh
    unfold F_law10_Play_told at hh
    exact calls_den (fn1_right ok53 E_ref0_EqMsgs.right (fn1_right ok54 E_law1_Book_Msgs.right noFns_right)) plan28 _ w K Tryz.func28 (by kernel_rfl) (by kernel_rfl) (Eq.mp (F_law10_Play_told.eq F_ref0_EqMsgs F_law1_Book_Msgs t1 a2 b3 w.heap K) hh)
theorem ok28 : okFn Tryz.prog 28 = true := by kernel_rfl
end Go.Proofs.YtigcpkejjjgkeaaGreat.V
namespace Go.Proofs.YtigcpkejjjgkeaaGreat.V
open Go Go.RowKit
set_option linter.unusedVariables false
set_option maxRecDepth 100000
def F_law10_Play_message_of (f8_ : Int → Int → Heap → (Int → Heap → Prop) → Prop) (t1 : Option Addr) (o2 o3 o4 o5 o6 o7 : Int) (o8 : Sl) (o9 o10 o11 o12 o13 o14 o15 o16 o17 o18 o19 : Int) (o20 : Sl) (o21 o22 : Int) (o23 o24 : ByteArray) (o25 o26 o27 o28 o29 o30 o31 o32 : Int) (o33 : Sl) (h : Heap) (Q : Int → Int → Int → Int → Int → Int → Int → Int → Int → Int → Sl → Int → Int → ByteArray → ByteArray → Int → Int → Int → Int → Int → Int → Int → Heap → Prop) : Prop :=
  al 63 [.int .i64 o2, .int .i64 o3, .int .u64 o4, .int .u64 o5, .int .u64 o6, .int .u64 o7, .slice o8.ptr o8.len o8.cap, .int .i64 o9, .int .i64 o10, .int .i64 o11, .int .i64 o12, .int .i64 o13, .int .u64 o14, .int .u64 o15, .int .u64 o16, .int .u64 o17, .int .i64 o18, .int .u64 o19, .slice o20.ptr o20.len o20.cap, .int .i64 o21, .int .u64 o22, .string o23, .string o24, .int .u64 o25, .int .u64 o26, .int .u64 o27, .int .i64 o28, .int .i64 o29, .int .i64 o30, .int .i64 o31, .int .i64 o32, .slice o33.ptr o33.len o33.cap] h fun (a34 : Addr) (h35 : Heap) =>
  al 61 [.int .i64 0, .int .i64 0, .int .i64 0, .int .i64 0, .int .u64 0, .int .u64 0, .int .u64 0, .int .u64 0, .int .i64 0, .int .u64 0, .slice none 0 0, .int .i64 0, .int .u64 0, .string (⟨#[]⟩ : ByteArray), .string (⟨#[]⟩ : ByteArray), .int .u64 0, .int .u64 0, .int .u64 0, .int .i64 0, .int .i64 0, .int .i64 0, .int .i64 0] h35 fun (a36 : Addr) (h37 : Heap) =>
  ld [.int .i64, .int .i64, .int .i64, .int .i64, .int .u64, .int .u64, .int .u64, .int .u64, .int .i64, .int .u64, .sl, .int .i64, .int .u64, .str, .str, .int .u64, .int .u64, .int .u64, .int .i64, .int .i64, .int .i64, .int .i64] (a34.add 8) h37 fun (v38 v39 v40 v41 v42 v43 v44 v45 v46 v47 : Int) (v48 : Sl) (v49 v50 : Int) (v51 v52 : ByteArray) (v53 v54 v55 v56 v57 v58 v59 : Int) =>
  al 61 [.int .i64 0, .int .i64 0, .int .i64 0, .int .i64 0, .int .u64 0, .int .u64 0, .int .u64 0, .int .u64 0, .int .i64 0, .int .u64 0, .slice none 0 0, .int .i64 0, .int .u64 0, .string (⟨#[]⟩ : ByteArray), .string (⟨#[]⟩ : ByteArray), .int .u64 0, .int .u64 0, .int .u64 0, .int .i64 0, .int .i64 0, .int .i64 0, .int .i64 0] h37 fun (a60 : Addr) (h61 : Heap) =>
  st a60 [.int .i64 v38, .int .i64 v39, .int .i64 v40, .int .i64 v41, .int .u64 v42, .int .u64 v43, .int .u64 v44, .int .u64 v45, .int .i64 v46, .int .u64 v47, .slice v48.ptr v48.len v48.cap, .int .i64 v49, .int .u64 v50, .string v51, .string v52, .int .u64 v53, .int .u64 v54, .int .u64 v55, .int .i64 v56, .int .i64 v57, .int .i64 v58, .int .i64 v59] h61 fun (h62 : Heap) =>
  ld [.int .i64] (a34.add 30) h62 fun (v63 : Int) =>
  jn [] (fun  (h81 : Heap) =>
  ld [.int .i64, .int .i64, .int .i64, .int .i64, .int .u64, .int .u64, .int .u64, .int .u64, .int .i64, .int .u64, .sl, .int .i64, .int .u64, .str, .str, .int .u64, .int .u64, .int .u64, .int .i64, .int .i64, .int .i64, .int .i64] a60 h81 fun (v82 v83 v84 v85 v86 v87 v88 v89 v90 v91 : Int) (v92 : Sl) (v93 v94 : Int) (v95 v96 : ByteArray) (v97 v98 v99 v100 v101 v102 v103 : Int) =>
  st a36 [.int .i64 v82, .int .i64 v83, .int .i64 v84, .int .i64 v85, .int .u64 v86, .int .u64 v87, .int .u64 v88, .int .u64 v89, .int .i64 v90, .int .u64 v91, .slice v92.ptr v92.len v92.cap, .int .i64 v93, .int .u64 v94, .string v95, .string v96, .int .u64 v97, .int .u64 v98, .int .u64 v99, .int .i64 v100, .int .i64 v101, .int .i64 v102, .int .i64 v103] h81 fun (h104 : Heap) =>
  ld [.int .i64, .int .i64, .int .i64, .int .i64, .int .u64, .int .u64, .int .u64, .int .u64, .int .i64, .int .u64, .sl, .int .i64, .int .u64, .str, .str, .int .u64, .int .u64, .int .u64, .int .i64, .int .i64, .int .i64, .int .i64] a36 h104 fun (v105 v106 v107 v108 v109 v110 v111 v112 v113 v114 : Int) (v115 : Sl) (v116 v117 : Int) (v118 v119 : ByteArray) (v120 v121 v122 v123 v124 v125 v126 : Int) =>
  Q v105 v106 v107 v108 v109 v110 v111 v112 v113 v114 v115 v116 v117 v118 v119 v120 v121 v122 v123 v124 v125 v126 h104) (fun (j64 : Heap → Prop) =>
  brr (decide (v63 > 0))
  (nn t1 fun (a65 : Addr) =>
  ld [.int .i64] (a65.add 2) h62 fun (v66 : Int) =>
  st ((a60.add 0).add 2) [.int .i64 v66] h62 fun (h67 : Heap) =>
  nn t1 fun (a68 : Addr) =>
  ld [.int .i64] (a68.add 3) h67 fun (v69 : Int) =>
  st ((a60.add 0).add 3) [.int .i64 v69] h67 fun (h70 : Heap) =>
  nn t1 fun (a71 : Addr) =>
  ld [.sl] (a71.add 4) h70 fun (v72 : Sl) =>
  ld [.int .i64] (a34.add 30) h70 fun (v73 : Int) =>
  nn t1 fun (a74 : Addr) =>
  ld [.sl] (a74.add 4) h70 fun (v75 : Sl) =>
  f8_ v73 ((v75.len : Nat) : Int) h70 fun (r76 : Int) (h77 : Heap) =>
  cellsAre h77 (a71.add 4) [.slice v72.ptr v72.len v72.cap] ∧
  ixS 1 v72 r76 fun (a78 : Addr) =>
  ld [.int .i64] a78 h77 fun (v79 : Int) =>
  st ((a60.add 0).add 1) [.int .i64 v79] h77 fun (h80 : Heap) =>
  j64 h80)
  (j64 h62))
def F_law10_Play_message (t1 : Option Addr) (o2 o3 o4 o5 o6 o7 : Int) (o8 : Sl) (o9 o10 o11 o12 o13 o14 o15 o16 o17 o18 o19 : Int) (o20 : Sl) (o21 o22 : Int) (o23 o24 : ByteArray) (o25 o26 o27 o28 o29 o30 o31 o32 : Int) (o33 : Sl) (h : Heap) (Q : Int → Int → Int → Int → Int → Int → Int → Int → Int → Int → Sl → Int → Int → ByteArray → ByteArray → Int → Int → Int → Int → Int → Int → Int → Heap → Prop) : Prop := F_law10_Play_message_of F_law10_into t1 o2 o3 o4 o5 o6 o7 o8 o9 o10 o11 o12 o13 o14 o15 o16 o17 o18 o19 o20 o21 o22 o23 o24 o25 o26 o27 o28 o29 o30 o31 o32 o33 h Q
def plan30 : Plan := .s (.r [0, 3, 4]) (.s (.r [0, 3, 4, 5]) (.s (.s (.r [0, 3, 4, 5, 10]) (.cj [] [4, 5] (.s (.r [0, 3, 4, 5]) (.s (.r [0, 3, 4, 5]) (.d [0, 1, 3, 7, 0, 16, 0, 64, 192, 448, 960, 2032, 4095, 8191, 16383, 32767, 65535] [[0, 1, 2, 3, 4, 5, 6, 7, 8, 9, 10, 11, 12, 13, 14, 15, 16]] [4, 5]))) .z)) (.s (.r [4]) .z)))
theorem F_law10_Play_message.eq (f8_ : Int → Int → Heap → (Int → Heap → Prop) → Prop) (t1 : Option Addr) (o2 o3 o4 o5 o6 o7 : Int) (o8 : Sl) (o9 o10 o11 o12 o13 o14 o15 o16 o17 o18 o19 : Int) (o20 : Sl) (o21 o22 : Int) (o23 o24 : ByteArray) (o25 o26 o27 o28 o29 o30 o31 o32 : Int) (o33 : Sl) (h : Heap) (K : Value → Heap → Prop) : F_law10_Play_message_of f8_ t1 o2 o3 o4 o5 o6 o7 o8 o9 o10 o11 o12 o13 o14 o15 o16 o17 o18 o19 o20 o21 o22 o23 o24 o25 o26 o27 o28 o29 o30 o31 o32 o33 h (fun (r0 r1 r2 r3 r4 r5 r6 r7 r8 r9 : Int) (r10 : Sl) (r11 r12 : Int) (r13 r14 : ByteArray) (r15 r16 r17 r18 r19 r20 r21 : Int) (h : Heap) => K (.agg #[.int .i64 r0, .int .i64 r1, .int .i64 r2, .int .i64 r3, .int .u64 r4, .int .u64 r5, .int .u64 r6, .int .u64 r7, .int .i64 r8, .int .u64 r9, .slice r10.ptr r10.len r10.cap, .int .i64 r11, .int .u64 r12, .string r13, .string r14, .int .u64 r15, .int .u64 r16, .int .u64 r17, .int .i64 r18, .int .i64 r19, .int .i64 r20, .int .i64 r21]) h) =
    den Tryz.prog (fn1 8 (E_law10_into_of f8_) noFns) Tryz.f30.ntmps plan30 (bodyOf Tryz.f30) (args0 0 [(.pointer t1 : Value), (.agg #[.int .i64 o2, .int .i64 o3, .int .u64 o4, .int .u64 o5, .int .u64 o6, .int .u64 o7, .slice o8.ptr o8.len o8.cap, .int .i64 o9, .int .i64 o10, .int .i64 o11, .int .i64 o12, .int .i64 o13, .int .u64 o14, .int .u64 o15, .int .u64 o16, .int .u64 o17, .int .i64 o18, .int .u64 o19, .slice o20.ptr o20.len o20.cap, .int .i64 o21, .int .u64 o22, .string o23, .string o24, .int .u64 o25, .int .u64 o26, .int .u64 o27, .int .i64 o28, .int .i64 o29, .int .i64 o30, .int .i64 o31, .int .i64 o32, .slice o33.ptr o33.len o33.cap] : Value)]) h ⟨fun env h => dRes Tryz.prog Tryz.f30.results.toList env h K, fun _ _ _ => False, fun env h => dRes Tryz.prog Tryz.f30.results.toList env h K⟩ := by kernel_rfl
def E_law10_Play_message_of (f : Option Addr → Int → Int → Int → Int → Int → Int → Sl → Int → Int → Int → Int → Int → Int → Int → Int → Int → Int → Int → Sl → Int → Int → ByteArray → ByteArray → Int → Int → Int → Int → Int → Int → Int → Int → Sl → Heap → (Int → Int → Int → Int → Int → Int → Int → Int → Int → Int → Sl → Int → Int → ByteArray → ByteArray → Int → Int → Int → Int → Int → Int → Int → Heap → Prop) → Prop) : List Value → Heap → (Value → Heap → Prop) → Prop
  | [v0, v1], h, K => dec1 .ptr v0 fun (t1 : Option Addr) =>
  vAgg v1 fun cs1 => decs [.int .i64, .int .i64, .int .u64, .int .u64, .int .u64, .int .u64, .sl, .int .i64, .int .i64, .int .i64, .int .i64, .int .i64, .int .u64, .int .u64, .int .u64, .int .u64, .int .i64, .int .u64, .sl, .int .i64, .int .u64, .str, .str, .int .u64, .int .u64, .int .u64, .int .i64, .int .i64, .int .i64, .int .i64, .int .i64, .sl] cs1.toList fun (o2 o3 o4 o5 o6 o7 : Int) (o8 : Sl) (o9 o10 o11 o12 o13 o14 o15 o16 o17 o18 o19 : Int) (o20 : Sl) (o21 o22 : Int) (o23 o24 : ByteArray) (o25 o26 o27 o28 o29 o30 o31 o32 : Int) (o33 : Sl) =>
  f t1 o2 o3 o4 o5 o6 o7 o8 o9 o10 o11 o12 o13 o14 o15 o16 o17 o18 o19 o20 o21 o22 o23 o24 o25 o26 o27 o28 o29 o30 o31 o32 o33 h (fun (r0 r1 r2 r3 r4 r5 r6 r7 r8 r9 : Int) (r10 : Sl) (r11 r12 : Int) (r13 r14 : ByteArray) (r15 r16 r17 r18 r19 r20 r21 : Int) (h : Heap) => K (.agg #[.int .i64 r0, .int .i64 r1, .int .i64 r2, .int .i64 r3, .int .u64 r4, .int .u64 r5, .int .u64 r6, .int .u64 r7, .int .i64 r8, .int .u64 r9, .slice r10.ptr r10.len r10.cap, .int .i64 r11, .int .u64 r12, .string r13, .string r14, .int .u64 r15, .int .u64 r16, .int .u64 r17, .int .i64 r18, .int .i64 r19, .int .i64 r20, .int .i64 r21]) h)
  | _, _, _ => False
abbrev E_law10_Play_message := E_law10_Play_message_of F_law10_Play_message
theorem E_law10_Play_message.right : IsRight Tryz.prog 30 E_law10_Play_message := by
  refine isRight fun vs K w hh => ?_
  match vs, hh with
  | [v0, v1], hh =>
    unfold E_law10_Play_message E_law10_Play_message_of at hh
    replace hh := dec1_sound hh; obtain ⟨t1, rfl, hh⟩ := hh
    replace hh := vAgg_sound hh; obtain ⟨cs1, rfl, hh⟩ := hh
    replace hh := decs_cons hh; obtain ⟨o2, l1_0, e1_0, hh⟩ := hh
    replace hh := decs_cons hh; obtain ⟨o3, l1_1, e1_1, hh⟩ := hh
    replace hh := decs_cons hh; obtain ⟨o4, l1_2, e1_2, hh⟩ := hh
    replace hh := decs_cons hh; obtain ⟨o5, l1_3, e1_3, hh⟩ := hh
    replace hh := decs_cons hh; obtain ⟨o6, l1_4, e1_4, hh⟩ := hh
    replace hh := decs_cons hh; obtain ⟨o7, l1_5, e1_5, hh⟩ := hh
    replace hh := decs_cons hh; obtain ⟨o8, l1_6, e1_6, hh⟩ := hh
    replace hh := decs_cons hh; obtain ⟨o9, l1_7, e1_7, hh⟩ := hh
    replace hh := decs_cons hh; obtain ⟨o10, l1_8, e1_8, hh⟩ := hh
    replace hh := decs_cons hh; obtain ⟨o11, l1_9, e1_9, hh⟩ := hh
    replace hh := decs_cons hh; obtain ⟨o12, l1_10, e1_10, hh⟩ := hh
    replace hh := decs_cons hh; obtain ⟨o13, l1_11, e1_11, hh⟩ := hh
    replace hh := decs_cons hh; obtain ⟨o14, l1_12, e1_12, hh⟩ := hh
    replace hh := decs_cons hh; obtain ⟨o15, l1_13, e1_13, hh⟩ := hh
    replace hh := decs_cons hh; obtain ⟨o16, l1_14, e1_14, hh⟩ := hh
    replace hh := decs_cons hh; obtain ⟨o17, l1_15, e1_15, hh⟩ := hh
    replace hh := decs_cons hh; obtain ⟨o18, l1_16, e1_16, hh⟩ := hh
    replace hh := decs_cons hh; obtain ⟨o19, l1_17, e1_17, hh⟩ := hh
    replace hh := decs_cons hh; obtain ⟨o20, l1_18, e1_18, hh⟩ := hh
    replace hh := decs_cons hh; obtain ⟨o21, l1_19, e1_19, hh⟩ := hh
    replace hh := decs_cons hh; obtain ⟨o22, l1_20, e1_20, hh⟩ := hh
    replace hh := decs_cons hh; obtain ⟨o23, l1_21, e1_21, hh⟩ := hh
    replace hh := decs_cons hh; obtain ⟨o24, l1_22, e1_22, hh⟩ := hh
    replace hh := decs_cons hh; obtain ⟨o25, l1_23, e1_23, hh⟩ := hh
    replace hh := decs_cons hh; obtain ⟨o26, l1_24, e1_24, hh⟩ := hh
    replace hh := decs_cons hh; obtain ⟨o27, l1_25, e1_25, hh⟩ := hh
    replace hh := decs_cons hh; obtain ⟨o28, l1_26, e1_26, hh⟩ := hh
    replace hh := decs_cons hh; obtain ⟨o29, l1_27, e1_27, hh⟩ := hh
    replace hh := decs_cons hh; obtain ⟨o30, l1_28, e1_28, hh⟩ := hh
    replace hh := decs_cons hh; obtain ⟨o31, l1_29, e1_29, hh⟩ := hh
    replace hh := decs_cons hh; obtain ⟨o32, l1_30, e1_30, hh⟩ := hh
    replace hh := decs_cons hh; obtain ⟨o33, l1_31, e1_31, hh⟩ := hh
    replace hh := decs_nil hh; obtain ⟨rfl, hh⟩ := hh
    subst e1_31
    subst e1_30
    subst e1_29
    subst e1_28
    subst e1_27
    subst e1_26
    subst e1_25
    subst e1_24
    subst e1_23
    subst e1_22
    subst e1_21
    subst e1_20
    subst e1_19
    subst e1_18
    subst e1_17
    subst e1_16
    subst e1_15
    subst e1_14
    subst e1_13
    subst e1_12
    subst e1_11
    subst e1_10
    subst e1_9
    subst e1_8
    subst e1_7
    subst e1_6
    subst e1_5
    subst e1_4
    subst e1_3
    subst e1_2
    subst e1_1
    have ec1 := toArray_eq e1_0
    subst ec1
    unfold F_law10_Play_message at hh
    exact calls_den (fn1_right ok8 E_law10_into.right noFns_right) plan30 _ w K Tryz.func30 (by kernel_rfl) (by kernel_rfl) (Eq.mp (F_law10_Play_message.eq F_law10_into t1 o2 o3 o4 o5 o6 o7 o8 o9 o10 o11 o12 o13 o14 o15 o16 o17 o18 o19 o20 o21 o22 o23 o24 o25 o26 o27 o28 o29 o30 o31 o32 o33 w.heap K) hh)
theorem ok30 : okFn Tryz.prog 30 = true := by kernel_rfl
end Go.Proofs.YtigcpkejjjgkeaaGreat.V
namespace Go.Proofs.YtigcpkejjjgkeaaGreat.V
open Go Go.RowKit
set_option linter.unusedVariables false
set_option maxRecDepth 100000
def F_law10_Play_plays_of (f7_ : Option Addr → Heap → (Bool → Heap → Prop) → Prop) (f25_ : Option Addr → Sl → Heap → (Sl → Heap → Prop) → Prop) (f26_ : Option Addr → Int → Int → Int → Int → Sl → Int → Heap → (Sl → Heap → Prop) → Prop) (f27_ : Option Addr → Sl → Sl → Heap → (Bool → Heap → Prop) → Prop) (f28_ : Option Addr → Sl → Sl → Heap → (Bool → Heap → Prop) → Prop) (f29_ : Option Addr → Int → Int → Int → Int → Sl → Int → Heap → (Sl → Heap → Prop) → Prop) (f30_ : Option Addr → Int → Int → Int → Int → Int → Int → Sl → Int → Int → Int → Int → Int → Int → Int → Int → Int → Int → Int → Sl → Int → Int → ByteArray → ByteArray → Int → Int → Int → Int → Int → Int → Int → Int → Sl → Heap → (Int → Int → Int → Int → Int → Int → Int → Int → Int → Int → Sl → Int → Int → ByteArray → ByteArray → Int → Int → Int → Int → Int → Int → Int → Heap → Prop) → Prop) (f31_ : Option Addr → Int → Int → Int → Int → Int → Int → Int → Int → Int → Int → Sl → Int → Int → ByteArray → ByteArray → Int → Int → Int → Int → Int → Int → Int → Int → Heap → (Sl → Heap → Prop) → Prop) (f32_ : Option Addr → Int → Int → Int → Int → Int → Int → Int → Int → Int → Int → Sl → Int → Int → ByteArray → ByteArray → Int → Int → Int → Int → Int → Int → Int → Int → Heap → (Sl → Heap → Prop) → Prop) (f33_ : Option Addr → Sl → Int → Heap → (Sl → Bool → Heap → Prop) → Prop) (f34_ : Option Addr → Sl → Int → Heap → (Sl → Bool → Heap → Prop) → Prop) (f35_ : Option Addr → Int → Heap → (Sl → Heap → Prop) → Prop) (f36_ : Option Addr → Int → Heap → (Sl → Heap → Prop) → Prop) (f37_ : Option Addr → Heap → (Heap → Prop) → Prop) (f38_ : Option Addr → Heap → (Heap → Prop) → Prop) (t1 : Option Addr) (o2 o3 o4 o5 o6 o7 : Int) (o8 : Sl) (o9 o10 o11 o12 o13 o14 o15 o16 o17 o18 o19 : Int) (o20 : Sl) (o21 o22 : Int) (o23 o24 : ByteArray) (o25 o26 o27 o28 o29 o30 o31 o32 : Int) (o33 : Sl) (h : Heap) (Q : Bool → Heap → Prop) : Prop :=
  al 63 [.int .i64 o2, .int .i64 o3, .int .u64 o4, .int .u64 o5, .int .u64 o6, .int .u64 o7, .slice o8.ptr o8.len o8.cap, .int .i64 o9, .int .i64 o10, .int .i64 o11, .int .i64 o12, .int .i64 o13, .int .u64 o14, .int .u64 o15, .int .u64 o16, .int .u64 o17, .int .i64 o18, .int .u64 o19, .slice o20.ptr o20.len o20.cap, .int .i64 o21, .int .u64 o22, .string o23, .string o24, .int .u64 o25, .int .u64 o26, .int .u64 o27, .int .i64 o28, .int .i64 o29, .int .i64 o30, .int .i64 o31, .int .i64 o32, .slice o33.ptr o33.len o33.cap] h fun (a34 : Addr) (h35 : Heap) =>
  ld [.int .i64] (a34.add 0) h35 fun (v36 : Int) =>
  brr (v36 == 1)
  (ld [.int .u64, .int .u64, .int .u64, .sl] (a34.add 3) h35 fun (v37 v38 v39 : Int) (v40 : Sl) =>
  al 54 [.int .u64 0, .int .u64 0, .int .u64 0, .slice none 0 0] h35 fun (a41 : Addr) (h42 : Heap) =>
  st a41 [.int .u64 v37, .int .u64 v38, .int .u64 v39, .slice v40.ptr v40.len v40.cap] h42 fun (h43 : Heap) =>
  ld [.sl] ((a34.add 3).add 3) h43 fun (v44 : Sl) =>
  f25_ t1 v44 h43 fun (r45 : Sl) (h46 : Heap) =>
  st (a41.add 3) [.slice r45.ptr r45.len r45.cap] h46 fun (h47 : Heap) =>
  nn t1 fun (a48 : Addr) =>
  ld [.ptr] (a48.add 0) h47 fun (v49 : Option Addr) =>
  ld [.int .u64] (a34.add 2) h47 fun (v50 : Int) =>
  ld [.int .u64, .int .u64, .int .u64, .sl] a41 h47 fun (v51 v52 v53 : Int) (v54 : Sl) =>
  ld [.int .i64] (a34.add 7) h47 fun (v55 : Int) =>
  f26_ v49 v50 v51 v52 v53 v54 v55 h47 fun (r56 : Sl) (h57 : Heap) =>
  ld [.sl] (a41.add 3) h57 fun (v58 : Sl) =>
  ld [.sl] ((a34.add 3).add 3) h57 fun (v59 : Sl) =>
  f27_ t1 v58 v59 h57 fun (r60 : Bool) (h61 : Heap) =>
  jn [(4, .one .bool)] (fun (x75 : Bool) (h76 : Heap) =>
  Q x75 h76) (fun (j62 : Bool → Heap → Prop) =>
  brr r60
  (nn t1 fun (a63 : Addr) =>
  ld [.ptr] (a63.add 1) h61 fun (v64 : Option Addr) =>
  ld [.int .u64] (a34.add 2) h61 fun (v65 : Int) =>
  ld [.int .u64, .int .u64, .int .u64, .sl] (a34.add 3) h61 fun (v66 v67 v68 : Int) (v69 : Sl) =>
  ld [.int .i64] (a34.add 7) h61 fun (v70 : Int) =>
  f29_ v64 v65 v66 v67 v68 v69 v70 h61 fun (r71 : Sl) (h72 : Heap) =>
  f28_ t1 r56 r71 h72 fun (r73 : Bool) (h74 : Heap) =>
  j62 r73 h74)
  (j62 false h61)))
  (brr (v36 == 2)
  (ld [.int .i64, .int .i64, .int .u64, .int .u64, .int .u64, .int .u64, .sl, .int .i64, .int .i64, .int .i64, .int .i64, .int .i64, .int .u64, .int .u64, .int .u64, .int .u64, .int .i64, .int .u64, .sl, .int .i64, .int .u64, .str, .str, .int .u64, .int .u64, .int .u64, .int .i64, .int .i64, .int .i64, .int .i64, .int .i64, .sl] a34 h35 fun (v77 v78 v79 v80 v81 v82 : Int) (v83 : Sl) (v84 v85 v86 v87 v88 v89 v90 v91 v92 v93 v94 : Int) (v95 : Sl) (v96 v97 : Int) (v98 v99 : ByteArray) (v100 v101 v102 v103 v104 v105 v106 v107 : Int) (v108 : Sl) =>
  f30_ t1 v77 v78 v79 v80 v81 v82 v83 v84 v85 v86 v87 v88 v89 v90 v91 v92 v93 v94 v95 v96 v97 v98 v99 v100 v101 v102 v103 v104 v105 v106 v107 v108 h35 fun (r109 r110 r111 r112 r113 r114 r115 r116 r117 r118 : Int) (r119 : Sl) (r120 r121 : Int) (r122 r123 : ByteArray) (r124 r125 r126 r127 r128 r129 r130 : Int) (h131 : Heap) =>
  al 61 [.int .i64 0, .int .i64 0, .int .i64 0, .int .i64 0, .int .u64 0, .int .u64 0, .int .u64 0, .int .u64 0, .int .i64 0, .int .u64 0, .slice none 0 0, .int .i64 0, .int .u64 0, .string (⟨#[]⟩ : ByteArray), .string (⟨#[]⟩ : ByteArray), .int .u64 0, .int .u64 0, .int .u64 0, .int .i64 0, .int .i64 0, .int .i64 0, .int .i64 0] h131 fun (a132 : Addr) (h133 : Heap) =>
  st a132 [.int .i64 r109, .int .i64 r110, .int .i64 r111, .int .i64 r112, .int .u64 r113, .int .u64 r114, .int .u64 r115, .int .u64 r116, .int .i64 r117, .int .u64 r118, .slice r119.ptr r119.len r119.cap, .int .i64 r120, .int .u64 r121, .string r122, .string r123, .int .u64 r124, .int .u64 r125, .int .u64 r126, .int .i64 r127, .int .i64 r128, .int .i64 r129, .int .i64 r130] h133 fun (h134 : Heap) =>
  ld [.int .i64, .int .i64, .int .i64, .int .i64, .int .u64, .int .u64, .int .u64, .int .u64, .int .i64, .int .u64, .sl, .int .i64, .int .u64, .str, .str, .int .u64, .int .u64, .int .u64, .int .i64, .int .i64, .int .i64, .int .i64] a132 h134 fun (v135 v136 v137 v138 v139 v140 v141 v142 v143 v144 : Int) (v145 : Sl) (v146 v147 : Int) (v148 v149 : ByteArray) (v150 v151 v152 v153 v154 v155 v156 : Int) =>
  al 61 [.int .i64 0, .int .i64 0, .int .i64 0, .int .i64 0, .int .u64 0, .int .u64 0, .int .u64 0, .int .u64 0, .int .i64 0, .int .u64 0, .slice none 0 0, .int .i64 0, .int .u64 0, .string (⟨#[]⟩ : ByteArray), .string (⟨#[]⟩ : ByteArray), .int .u64 0, .int .u64 0, .int .u64 0, .int .i64 0, .int .i64 0, .int .i64 0, .int .i64 0] h134 fun (a157 : Addr) (h158 : Heap) =>
  st a157 [.int .i64 v135, .int .i64 v136, .int .i64 v137, .int .i64 v138, .int .u64 v139, .int .u64 v140, .int .u64 v141, .int .u64 v142, .int .i64 v143, .int .u64 v144, .slice v145.ptr v145.len v145.cap, .int .i64 v146, .int .u64 v147, .string v148, .string v149, .int .u64 v150, .int .u64 v151, .int .u64 v152, .int .i64 v153, .int .i64 v154, .int .i64 v155, .int .i64 v156] h158 fun (h159 : Heap) =>
  ld [.sl] (a132.add 10) h159 fun (v160 : Sl) =>
  f25_ t1 v160 h159 fun (r161 : Sl) (h162 : Heap) =>
  st (a157.add 10) [.slice r161.ptr r161.len r161.cap] h162 fun (h163 : Heap) =>
  nn t1 fun (a164 : Addr) =>
  ld [.ptr] (a164.add 0) h163 fun (v165 : Option Addr) =>
  ld [.int .i64, .int .i64, .int .i64, .int .i64, .int .u64, .int .u64, .int .u64, .int .u64, .int .i64, .int .u64, .sl, .int .i64, .int .u64, .str, .str, .int .u64, .int .u64, .int .u64, .int .i64, .int .i64, .int .i64, .int .i64] a157 h163 fun (v166 v167 v168 v169 v170 v171 v172 v173 v174 v175 : Int) (v176 : Sl) (v177 v178 : Int) (v179 v180 : ByteArray) (v181 v182 v183 v184 v185 v186 v187 : Int) =>
  ld [.int .i64] (a34.add 7) h163 fun (v188 : Int) =>
  f31_ v165 v166 v167 v168 v169 v170 v171 v172 v173 v174 v175 v176 v177 v178 v179 v180 v181 v182 v183 v184 v185 v186 v187 v188 h163 fun (r189 : Sl) (h190 : Heap) =>
  ld [.sl] (a157.add 10) h190 fun (v191 : Sl) =>
  ld [.sl] (a132.add 10) h190 fun (v192 : Sl) =>
  f27_ t1 v191 v192 h190 fun (r193 : Bool) (h194 : Heap) =>
  jn [(4, .one .bool)] (fun (x225 : Bool) (h226 : Heap) =>
  Q x225 h226) (fun (j195 : Bool → Heap → Prop) =>
  brr r193
  (nn t1 fun (a196 : Addr) =>
  ld [.ptr] (a196.add 1) h194 fun (v197 : Option Addr) =>
  ld [.int .i64, .int .i64, .int .i64, .int .i64, .int .u64, .int .u64, .int .u64, .int .u64, .int .i64, .int .u64, .sl, .int .i64, .int .u64, .str, .str, .int .u64, .int .u64, .int .u64, .int .i64, .int .i64, .int .i64, .int .i64] a132 h194 fun (v198 v199 v200 v201 v202 v203 v204 v205 v206 v207 : Int) (v208 : Sl) (v209 v210 : Int) (v211 v212 : ByteArray) (v213 v214 v215 v216 v217 v218 v219 : Int) =>
  ld [.int .i64] (a34.add 7) h194 fun (v220 : Int) =>
  f32_ v197 v198 v199 v200 v201 v202 v203 v204 v205 v206 v207 v208 v209 v210 v211 v212 v213 v214 v215 v216 v217 v218 v219 v220 h194 fun (r221 : Sl) (h222 : Heap) =>
  f28_ t1 r189 r221 h222 fun (r223 : Bool) (h224 : Heap) =>
  j195 r223 h224)
  (j195 false h194)))
  (brr (v36 == 3)
  (ld [.sl] (a34.add 31) h35 fun (v227 : Sl) =>
  f25_ t1 v227 h35 fun (r228 : Sl) (h229 : Heap) =>
  nn t1 fun (a230 : Addr) =>
  ld [.ptr] (a230.add 0) h229 fun (v231 : Option Addr) =>
  ld [.int .i64] (a34.add 7) h229 fun (v232 : Int) =>
  f33_ v231 r228 v232 h229 fun (r233 : Sl) (r234 : Bool) (h235 : Heap) =>
  ld [.sl] (a34.add 31) h235 fun (v236 : Sl) =>
  f27_ t1 r228 v236 h235 fun (r237 : Bool) (h238 : Heap) =>
  nn t1 fun (a239 : Addr) =>
  ld [.ptr] (a239.add 1) h238 fun (v240 : Option Addr) =>
  ld [.sl] (a34.add 31) h238 fun (v241 : Sl) =>
  ld [.int .i64] (a34.add 7) h238 fun (v242 : Int) =>
  f34_ v240 v241 v242 h238 fun (r243 : Sl) (r244 : Bool) (h245 : Heap) =>
  jn [(4, .one .bool)] (fun (x249 : Bool) (h250 : Heap) =>
  Q x249 h250) (fun (j246 : Bool → Heap → Prop) =>
  brr r237
  (brr (r234 == r244)
  (f28_ t1 r233 r243 h245 fun (r247 : Bool) (h248 : Heap) =>
  j246 r247 h248)
  (j246 false h245))
  (j246 false h245)))
  (brr (v36 == 4)
  (nn t1 fun (a251 : Addr) =>
  ld [.ptr] (a251.add 0) h35 fun (v252 : Option Addr) =>
  ld [.int .i64] (a34.add 7) h35 fun (v253 : Int) =>
  f35_ v252 v253 h35 fun (r254 : Sl) (h255 : Heap) =>
  nn t1 fun (a256 : Addr) =>
  ld [.ptr] (a256.add 1) h255 fun (v257 : Option Addr) =>
  ld [.int .i64] (a34.add 7) h255 fun (v258 : Int) =>
  f36_ v257 v258 h255 fun (r259 : Sl) (h260 : Heap) =>
  f28_ t1 r254 r259 h260 fun (r261 : Bool) (h262 : Heap) =>
  Q r261 h262)
  (jn [] (fun  (h272 : Heap) =>
  Q true h272) (fun (j263 : Heap → Prop) =>
  brr (v36 == 5)
  (nn t1 fun (a264 : Addr) =>
  ld [.ptr] (a264.add 0) h35 fun (v265 : Option Addr) =>
  f37_ v265 h35 fun  (h266 : Heap) =>
  nn t1 fun (a267 : Addr) =>
  ld [.ptr] (a267.add 1) h266 fun (v268 : Option Addr) =>
  f38_ v268 h266 fun  (h269 : Heap) =>
  j263 h269)
  (brr (v36 == 6)
  (f7_ t1 h35 fun (r270 : Bool) (h271 : Heap) =>
  Q r270 h271)
  (j263 h35)))))))
def F_law10_Play_plays (t1 : Option Addr) (o2 o3 o4 o5 o6 o7 : Int) (o8 : Sl) (o9 o10 o11 o12 o13 o14 o15 o16 o17 o18 o19 : Int) (o20 : Sl) (o21 o22 : Int) (o23 o24 : ByteArray) (o25 o26 o27 o28 o29 o30 o31 o32 : Int) (o33 : Sl) (h : Heap) (Q : Bool → Heap → Prop) : Prop := F_law10_Play_plays_of F_law10_Play_looks F_law10_Play_given F_quorum_Quorum_Start F_law10_Play_kept F_law10_Play_told F_ref10_Quorum_Start F_law10_Play_message F_quorum_Quorum_Hear F_ref10_Quorum_Hear F_quorum_Quorum_Propose F_ref10_Quorum_Propose F_quorum_Quorum_Tick F_ref10_Quorum_Tick F_quorum_Quorum_Stop F_ref10_Quorum_Stop t1 o2 o3 o4 o5 o6 o7 o8 o9 o10 o11 o12 o13 o14 o15 o16 o17 o18 o19 o20 o21 o22 o23 o24 o25 o26 o27 o28 o29 o30 o31 o32 o33 h Q
def plan9 : Plan := .s (.r [0, 3]) (.s (.s (.r [0, 3, 20]) (.b (.s (.r [0, 3, 20, 21]) (.c (.s (.r [0, 3, 5]) (.s (.r [0, 3, 5]) (.s (.d [0, 1, 3, 7, 0, 16, 0, 0, 128, 511, 1023] [[0, 1, 2, 3, 4, 5, 6, 7, 8, 9, 10]] [0, 3, 5, 6]) (.s (.r [0, 3, 6, 7]) (.s (.dj [0, 1, 3, 3, 3, 19, 51, 115, 3, 259, 3, 1027, 3, 4099, 16371, 32767, 65535, 131071] [[0, 1, 2, 3, 4, 5, 6, 7, 8, 9, 10, 11, 12, 13, 14, 15, 16, 17]] [(4, .one .bool)] []) .z))))) (.s (.r [0, 3, 20, 65]) (.c (.s (.r [0, 3, 8]) (.s (.r [0, 3, 8, 9]) (.s (.r [0, 3, 8, 9]) (.s (.d [0, 1, 3, 7, 0, 0, 32, 127, 255] [[0, 1, 2, 3, 4, 5, 6, 7, 8]] [0, 3, 8, 9, 10]) (.s (.r [0, 3, 8, 10, 11]) (.s (.dj [0, 1, 3, 3, 3, 19, 51, 115, 3, 3, 515, 2035, 4095, 8191, 16383] [[0, 1, 2, 3, 4, 5, 6, 7, 8, 9, 10, 11, 12, 13, 14]] [(4, .one .bool)] []) .z)))))) (.s (.r [0, 3, 20, 104]) (.c (.s (.r [0, 3, 12]) (.s (.d [0, 1, 3, 7, 0, 0, 32, 127, 255, 511, 511, 1023, 4095] [[0, 1, 2, 3, 4, 5, 6, 7, 8, 9, 10, 11, 12]] [0, 3, 12, 13, 14]) (.s (.r [0, 3, 13, 14, 15]) (.s (.d [0, 1, 3, 7, 0, 16, 0, 64, 255, 511, 1023, 1023, 2047, 8191] [[0, 1, 2, 3, 4, 5, 6, 7, 8, 9, 10, 11, 12, 13]] [0, 13, 14, 15, 16, 17]) (.s (.rj [(4, .one .bool)] []) .z))))) (.s (.r [0, 3, 20, 150]) (.c (.s (.d [0, 1, 3, 7, 0, 16, 63, 127] [[0, 1, 2, 3, 4, 5, 6, 7]] [0, 3, 18]) (.s (.d [0, 0, 0, 4, 12, 28, 0, 64, 252, 511, 1023] [[0, 1, 2, 3, 4, 5, 6, 7, 8, 9, 10]] [4]) .z)) (.s (.r [0, 20, 169]) (.cj [] [] (.s (.r [0]) (.r [])) (.s (.r [0, 181]) (.c (.s (.r [4]) .z) .z)))))))))))))) (.s (.r [4]) .z))
theorem F_law10_Play_plays.eq (f7_ : Option Addr → Heap → (Bool → Heap → Prop) → Prop) (f25_ : Option Addr → Sl → Heap → (Sl → Heap → Prop) → Prop) (f26_ : Option Addr → Int → Int → Int → Int → Sl → Int → Heap → (Sl → Heap → Prop) → Prop) (f27_ : Option Addr → Sl → Sl → Heap → (Bool → Heap → Prop) → Prop) (f28_ : Option Addr → Sl → Sl → Heap → (Bool → Heap → Prop) → Prop) (f29_ : Option Addr → Int → Int → Int → Int → Sl → Int → Heap → (Sl → Heap → Prop) → Prop) (f30_ : Option Addr → Int → Int → Int → Int → Int → Int → Sl → Int → Int → Int → Int → Int → Int → Int → Int → Int → Int → Int → Sl → Int → Int → ByteArray → ByteArray → Int → Int → Int → Int → Int → Int → Int → Int → Sl → Heap → (Int → Int → Int → Int → Int → Int → Int → Int → Int → Int → Sl → Int → Int → ByteArray → ByteArray → Int → Int → Int → Int → Int → Int → Int → Heap → Prop) → Prop) (f31_ : Option Addr → Int → Int → Int → Int → Int → Int → Int → Int → Int → Int → Sl → Int → Int → ByteArray → ByteArray → Int → Int → Int → Int → Int → Int → Int → Int → Heap → (Sl → Heap → Prop) → Prop) (f32_ : Option Addr → Int → Int → Int → Int → Int → Int → Int → Int → Int → Int → Sl → Int → Int → ByteArray → ByteArray → Int → Int → Int → Int → Int → Int → Int → Int → Heap → (Sl → Heap → Prop) → Prop) (f33_ : Option Addr → Sl → Int → Heap → (Sl → Bool → Heap → Prop) → Prop) (f34_ : Option Addr → Sl → Int → Heap → (Sl → Bool → Heap → Prop) → Prop) (f35_ : Option Addr → Int → Heap → (Sl → Heap → Prop) → Prop) (f36_ : Option Addr → Int → Heap → (Sl → Heap → Prop) → Prop) (f37_ : Option Addr → Heap → (Heap → Prop) → Prop) (f38_ : Option Addr → Heap → (Heap → Prop) → Prop) (t1 : Option Addr) (o2 o3 o4 o5 o6 o7 : Int) (o8 : Sl) (o9 o10 o11 o12 o13 o14 o15 o16 o17 o18 o19 : Int) (o20 : Sl) (o21 o22 : Int) (o23 o24 : ByteArray) (o25 o26 o27 o28 o29 o30 o31 o32 : Int) (o33 : Sl) (h : Heap) (K : Value → Heap → Prop) : F_law10_Play_plays_of f7_ f25_ f26_ f27_ f28_ f29_ f30_ f31_ f32_ f33_ f34_ f35_ f36_ f37_ f38_ t1 o2 o3 o4 o5 o6 o7 o8 o9 o10 o11 o12 o13 o14 o15 o16 o17 o18 o19 o20 o21 o22 o23 o24 o25 o26 o27 o28 o29 o30 o31 o32 o33 h (fun (r0 : Bool) (h : Heap) => K (.bool r0) h) =
    den Tryz.prog (fn1 7 (E_law10_Play_looks_of f7_) (fn1 25 (E_law10_Play_given_of f25_) (fn1 26 (E_quorum_Quorum_Start_of f26_) (fn1 27 (E_law10_Play_kept_of f27_) (fn1 28 (E_law10_Play_told_of f28_) (fn1 29 (E_ref10_Quorum_Start_of f29_) (fn1 30 (E_law10_Play_message_of f30_) (fn1 31 (E_quorum_Quorum_Hear_of f31_) (fn1 32 (E_ref10_Quorum_Hear_of f32_) (fn1 33 (E_quorum_Quorum_Propose_of f33_) (fn1 34 (E_ref10_Quorum_Propose_of f34_) (fn1 35 (E_quorum_Quorum_Tick_of f35_) (fn1 36 (E_ref10_Quorum_Tick_of f36_) (fn1 37 (E_quorum_Quorum_Stop_of f37_) (fn1 38 (E_ref10_Quorum_Stop_of f38_) noFns))))))))))))))) Tryz.f9.ntmps plan9 (bodyOf Tryz.f9) (args0 0 [(.pointer t1 : Value), (.agg #[.int .i64 o2, .int .i64 o3, .int .u64 o4, .int .u64 o5, .int .u64 o6, .int .u64 o7, .slice o8.ptr o8.len o8.cap, .int .i64 o9, .int .i64 o10, .int .i64 o11, .int .i64 o12, .int .i64 o13, .int .u64 o14, .int .u64 o15, .int .u64 o16, .int .u64 o17, .int .i64 o18, .int .u64 o19, .slice o20.ptr o20.len o20.cap, .int .i64 o21, .int .u64 o22, .string o23, .string o24, .int .u64 o25, .int .u64 o26, .int .u64 o27, .int .i64 o28, .int .i64 o29, .int .i64 o30, .int .i64 o31, .int .i64 o32, .slice o33.ptr o33.len o33.cap] : Value)]) h ⟨fun env h => dRes Tryz.prog Tryz.f9.results.toList env h K, fun _ _ _ => False, fun env h => dRes Tryz.prog Tryz.f9.results.toList env h K⟩ := by kernel_rfl
def E_law10_Play_plays_of (f : Option Addr → Int → Int → Int → Int → Int → Int → Sl → Int → Int → Int → Int → Int → Int → Int → Int → Int → Int → Int → Sl → Int → Int → ByteArray → ByteArray → Int → Int → Int → Int → Int → Int → Int → Int → Sl → Heap → (Bool → Heap → Prop) → Prop) : List Value → Heap → (Value → Heap → Prop) → Prop
  | [v0, v1], h, K => dec1 .ptr v0 fun (t1 : Option Addr) =>
  vAgg v1 fun cs1 => decs [.int .i64, .int .i64, .int .u64, .int .u64, .int .u64, .int .u64, .sl, .int .i64, .int .i64, .int .i64, .int .i64, .int .i64, .int .u64, .int .u64, .int .u64, .int .u64, .int .i64, .int .u64, .sl, .int .i64, .int .u64, .str, .str, .int .u64, .int .u64, .int .u64, .int .i64, .int .i64, .int .i64, .int .i64, .int .i64, .sl] cs1.toList fun (o2 o3 o4 o5 o6 o7 : Int) (o8 : Sl) (o9 o10 o11 o12 o13 o14 o15 o16 o17 o18 o19 : Int) (o20 : Sl) (o21 o22 : Int) (o23 o24 : ByteArray) (o25 o26 o27 o28 o29 o30 o31 o32 : Int) (o33 : Sl) =>
  f t1 o2 o3 o4 o5 o6 o7 o8 o9 o10 o11 o12 o13 o14 o15 o16 o17 o18 o19 o20 o21 o22 o23 o24 o25 o26 o27 o28 o29 o30 o31 o32 o33 h (fun (r0 : Bool) (h : Heap) => K (.bool r0) h)
  | _, _, _ => False
abbrev E_law10_Play_plays := E_law10_Play_plays_of F_law10_Play_plays
theorem E_law10_Play_plays.right : IsRight Tryz.prog 9 E_law10_Play_plays := by
  refine isRight fun vs K w hh => ?_
  match vs, hh with
  | [v0, v1], hh =>
    unfold E_law10_Play_plays E_law10_Play_plays_of at hh
    replace hh := dec1_sound hh; obtain ⟨t1, rfl, hh⟩ := hh
    replace hh := vAgg_sound hh; obtain ⟨cs1, rfl, hh⟩ := hh
    replace hh := decs_cons hh; obtain ⟨o2, l1_0, e1_0, hh⟩ := hh
    replace hh := decs_cons hh; obtain ⟨o3, l1_1, e1_1, hh⟩ := hh
    replace hh := decs_cons hh; obtain ⟨o4, l1_2, e1_2, hh⟩ := hh
    replace hh := decs_cons hh; obtain ⟨o5, l1_3, e1_3, hh⟩ := hh
    replace hh := decs_cons hh; obtain ⟨o6, l1_4, e1_4, hh⟩ := hh
    replace hh := decs_cons hh; obtain ⟨o7, l1_5, e1_5, hh⟩ := hh
    replace hh := decs_cons hh; obtain ⟨o8, l1_6, e1_6, hh⟩ := hh
    replace hh := decs_cons hh; obtain ⟨o9, l1_7, e1_7, hh⟩ := hh
    replace hh := decs_cons hh; obtain ⟨o10, l1_8, e1_8, hh⟩ := hh
    replace hh := decs_cons hh; obtain ⟨o11, l1_9, e1_9, hh⟩ := hh
    replace hh := decs_cons hh; obtain ⟨o12, l1_10, e1_10, hh⟩ := hh
    replace hh := decs_cons hh; obtain ⟨o13, l1_11, e1_11, hh⟩ := hh
    replace hh := decs_cons hh; obtain ⟨o14, l1_12, e1_12, hh⟩ := hh
    replace hh := decs_cons hh; obtain ⟨o15, l1_13, e1_13, hh⟩ := hh
    replace hh := decs_cons hh; obtain ⟨o16, l1_14, e1_14, hh⟩ := hh
    replace hh := decs_cons hh; obtain ⟨o17, l1_15, e1_15, hh⟩ := hh
    replace hh := decs_cons hh; obtain ⟨o18, l1_16, e1_16, hh⟩ := hh
    replace hh := decs_cons hh; obtain ⟨o19, l1_17, e1_17, hh⟩ := hh
    replace hh := decs_cons hh; obtain ⟨o20, l1_18, e1_18, hh⟩ := hh
    replace hh := decs_cons hh; obtain ⟨o21, l1_19, e1_19, hh⟩ := hh
    replace hh := decs_cons hh; obtain ⟨o22, l1_20, e1_20, hh⟩ := hh
    replace hh := decs_cons hh; obtain ⟨o23, l1_21, e1_21, hh⟩ := hh
    replace hh := decs_cons hh; obtain ⟨o24, l1_22, e1_22, hh⟩ := hh
    replace hh := decs_cons hh; obtain ⟨o25, l1_23, e1_23, hh⟩ := hh
    replace hh := decs_cons hh; obtain ⟨o26, l1_24, e1_24, hh⟩ := hh
    replace hh := decs_cons hh; obtain ⟨o27, l1_25, e1_25, hh⟩ := hh
    replace hh := decs_cons hh; obtain ⟨o28, l1_26, e1_26, hh⟩ := hh
    replace hh := decs_cons hh; obtain ⟨o29, l1_27, e1_27, hh⟩ := hh
    replace hh := decs_cons hh; obtain ⟨o30, l1_28, e1_28, hh⟩ := hh
    replace hh := decs_cons hh; obtain ⟨o31, l1_29, e1_29, hh⟩ := hh
    replace hh := decs_cons hh; obtain ⟨o32, l1_30, e1_30, hh⟩ := hh
    replace hh := decs_cons hh; obtain ⟨o33, l1_31, e1_31, hh⟩ := hh
    replace hh := decs_nil hh; obtain ⟨rfl, hh⟩ := hh
    subst e1_31
    subst e1_30
    subst e1_29
    subst e1_28
    subst e1_27
    subst e1_26
    subst e1_25
    subst e1_24
    subst e1_23
    subst e1_22
    subst e1_21
    subst e1_20
    subst e1_19
    subst e1_18
    subst e1_17
    subst e1_16
    subst e1_15
    subst e1_14
    subst e1_13
    subst e1_12
    subst e1_11
    subst e1_10
    subst e1_9
    subst e1_8
    subst e1_7
    subst e1_6
    subst e1_5
    subst e1_4
    subst e1_3
    subst e1_2
    subst e1_1
    have ec1 := toArray_eq e1_0
    subst ec1
    unfold F_law10_Play_plays at hh
    exact calls_den (fn1_right ok7 E_law10_Play_looks.right (fn1_right ok25 E_law10_Play_given.right (fn1_right ok26 E_quorum_Quorum_Start.right (fn1_right ok27 E_law10_Play_kept.right (fn1_right ok28 E_law10_Play_told.right (fn1_right ok29 E_ref10_Quorum_Start.right (fn1_right ok30 E_law10_Play_message.right (fn1_right ok31 E_quorum_Quorum_Hear.right (fn1_right ok32 E_ref10_Quorum_Hear.right (fn1_right ok33 E_quorum_Quorum_Propose.right (fn1_right ok34 E_ref10_Quorum_Propose.right (fn1_right ok35 E_quorum_Quorum_Tick.right (fn1_right ok36 E_ref10_Quorum_Tick.right (fn1_right ok37 E_quorum_Quorum_Stop.right (fn1_right ok38 E_ref10_Quorum_Stop.right noFns_right))))))))))))))) plan9 _ w K Tryz.func9 (by kernel_rfl) (by kernel_rfl) (Eq.mp (F_law10_Play_plays.eq F_law10_Play_looks F_law10_Play_given F_quorum_Quorum_Start F_law10_Play_kept F_law10_Play_told F_ref10_Quorum_Start F_law10_Play_message F_quorum_Quorum_Hear F_ref10_Quorum_Hear F_quorum_Quorum_Propose F_ref10_Quorum_Propose F_quorum_Quorum_Tick F_ref10_Quorum_Tick F_quorum_Quorum_Stop F_ref10_Quorum_Stop t1 o2 o3 o4 o5 o6 o7 o8 o9 o10 o11 o12 o13 o14 o15 o16 o17 o18 o19 o20 o21 o22 o23 o24 o25 o26 o27 o28 o29 o30 o31 o32 o33 w.heap K) hh)
theorem ok9 : okFn Tryz.prog 9 = true := by kernel_rfl
end Go.Proofs.YtigcpkejjjgkeaaGreat.V
namespace Go.Proofs.YtigcpkejjjgkeaaGreat.V
open Go Go.RowKit
set_option linter.unusedVariables false
set_option maxRecDepth 100000
def F_law10_exact.l1 (f6_ : Int → Int → Int → Option Addr → Bool → Heap → (Option Addr → Heap → Prop) → Prop) (f7_ : Option Addr → Heap → (Bool → Heap → Prop) → Prop) (mark8 : Bool) (Q : Bool → Heap → Prop) (a9 a11 a13 : Addr) (j15 : Heap → Prop) : Int → Heap → Prop :=
  wl [(7, .one (.int .i64))] (fun (next16 : Int → Heap → Prop) (i17 : Int) (h18 : Heap) =>
  brr (decide (i17 < 8))
  ((2 : Int) ≠ 0 ∧
  ixA 1 (a9.add 0) 2 (i17.tmod 2) fun (a19 : Addr) =>
  ld [.int .i64] a19 h18 fun (v20 : Int) =>
  (2 : Int) ≠ 0 ∧
  ixA 1 (a9.add 2) 2 (i17.tmod 2) fun (a21 : Addr) =>
  ld [.int .i64] a21 h18 fun (v22 : Int) =>
  (2 : Int) ≠ 0 ∧
  ixA 1 (a9.add 4) 2 (i17.tmod 2) fun (a23 : Addr) =>
  ld [.int .i64] a23 h18 fun (v24 : Int) =>
  f6_ v20 v22 v24 (some a11) mark8 h18 fun (r25 : Option Addr) (h26 : Heap) =>
  ixA 1 a13 8 i17 fun (a27 : Addr) =>
  st a27 [.pointer r25] h26 fun (h28 : Heap) =>
  jn [(46, .one .bool)] (fun (x36 : Bool) (h37 : Heap) =>
  brr x36
  (Q false h37)
  (next16 (IntKind.i64.wrap (i17 + 1)) h37)) (fun (j29 : Bool → Heap → Prop) =>
  ixA 1 a13 8 i17 fun (a30 : Addr) =>
  ld [.ptr] a30 h28 fun (v31 : Option Addr) =>
  brr v31.isNone
  (j29 true h28)
  (ixA 1 a13 8 i17 fun (a32 : Addr) =>
  ld [.ptr] a32 h28 fun (v33 : Option Addr) =>
  f7_ v33 h28 fun (r34 : Bool) (h35 : Heap) =>
  j29 (!r34) h35)))
  (j15 h18))
def F_law10_exact.l2 (f8_ : Int → Int → Heap → (Int → Heap → Prop) → Prop) (f9_ : Option Addr → Int → Int → Int → Int → Int → Int → Sl → Int → Int → Int → Int → Int → Int → Int → Int → Int → Int → Int → Sl → Int → Int → ByteArray → ByteArray → Int → Int → Int → Int → Int → Int → Int → Int → Sl → Heap → (Bool → Heap → Prop) → Prop) (f10_ : Option Addr → Heap → (Bool → Heap → Prop) → Prop) (Q : Bool → Heap → Prop) (a9 a11 a13 : Addr) (j39 : Heap → Prop) : Int → Heap → Prop :=
  wl [(8, .one (.int .i64))] (fun (next40 : Int → Heap → Prop) (i41 : Int) (h42 : Heap) =>
  jn [(55, .one .bool)] (fun (x45 : Bool) (h46 : Heap) =>
  brr x45
  (jn [(78, .one .bool)] (fun (x93 : Bool) (h94 : Heap) =>
  brr x93
  (Q false h94)
  (next40 (IntKind.i64.wrap (i41 + 1)) h94)) (fun (j47 : Bool → Heap → Prop) =>
  ld [.sl] (a9.add 6) h46 fun (v48 : Sl) =>
  ixS 32 v48 i41 fun (a49 : Addr) =>
  ld [.int .i64] (a49.add 1) h46 fun (v50 : Int) =>
  ld [.sl] (a9.add 6) h46 fun (v51 : Sl) =>
  ixS 32 v51 i41 fun (a52 : Addr) =>
  ld [.int .i64, .int .i64, .int .u64, .int .u64, .int .u64, .int .u64, .sl, .int .i64, .int .i64, .int .i64, .int .i64, .int .i64, .int .u64, .int .u64, .int .u64, .int .u64, .int .i64, .int .u64, .sl, .int .i64, .int .u64, .str, .str, .int .u64, .int .u64, .int .u64, .int .i64, .int .i64, .int .i64, .int .i64, .int .i64, .sl] a52 h46 fun (v53 v54 v55 v56 v57 v58 : Int) (v59 : Sl) (v60 v61 v62 v63 v64 v65 v66 v67 v68 v69 v70 : Int) (v71 : Sl) (v72 v73 : Int) (v74 v75 : ByteArray) (v76 v77 v78 v79 v80 v81 v82 v83 : Int) (v84 : Sl) =>
  f8_ v50 8 h46 fun (r85 : Int) (h86 : Heap) =>
  cellsAre h86 (a9.add 6) [.slice v51.ptr v51.len v51.cap] ∧
  cellsAre h86 a52 [.int .i64 v53, .int .i64 v54, .int .u64 v55, .int .u64 v56, .int .u64 v57, .int .u64 v58, .slice v59.ptr v59.len v59.cap, .int .i64 v60, .int .i64 v61, .int .i64 v62, .int .i64 v63, .int .i64 v64, .int .u64 v65, .int .u64 v66, .int .u64 v67, .int .u64 v68, .int .i64 v69, .int .u64 v70, .slice v71.ptr v71.len v71.cap, .int .i64 v72, .int .u64 v73, .string v74, .string v75, .int .u64 v76, .int .u64 v77, .int .u64 v78, .int .i64 v79, .int .i64 v80, .int .i64 v81, .int .i64 v82, .int .i64 v83, .slice v84.ptr v84.len v84.cap] ∧
  ixA 1 a13 8 r85 fun (a87 : Addr) =>
  ld [.ptr] a87 h86 fun (v88 : Option Addr) =>
  f9_ v88 v53 v54 v55 v56 v57 v58 v59 v60 v61 v62 v63 v64 v65 v66 v67 v68 v69 v70 v71 v72 v73 v74 v75 v76 v77 v78 v79 v80 v81 v82 v83 v84 h86 fun (r89 : Bool) (h90 : Heap) =>
  brr (!r89)
  (j47 true h90)
  (f10_ (some a11) h90 fun (r91 : Bool) (h92 : Heap) =>
  j47 (!r91) h92)))
  (j39 h46)) (fun (j43 : Bool → Heap → Prop) =>
  ld [.sl] (a9.add 6) h42 fun (v44 : Sl) =>
  brr (decide (i41 < ((v44.len : Nat) : Int)))
  (j43 (decide (i41 < 600)) h42)
  (j43 false h42)))
def F_law10_exact.l3 (f7_ : Option Addr → Heap → (Bool → Heap → Prop) → Prop) (Q : Bool → Heap → Prop) (a13 : Addr) (j96 : Heap → Prop) : Int → Heap → Prop :=
  wl [(9, .one (.int .i64))] (fun (next97 : Int → Heap → Prop) (i98 : Int) (h99 : Heap) =>
  brr (decide (i98 < 8))
  (ixA 1 a13 8 i98 fun (a100 : Addr) =>
  ld [.ptr] a100 h99 fun (v101 : Option Addr) =>
  f7_ v101 h99 fun (r102 : Bool) (h103 : Heap) =>
  brr (!r102)
  (Q false h103)
  (next97 (IntKind.i64.wrap (i98 + 1)) h103))
  (j96 h99))
def F_law10_exact_of (f6_ : Int → Int → Int → Option Addr → Bool → Heap → (Option Addr → Heap → Prop) → Prop) (f7_ : Option Addr → Heap → (Bool → Heap → Prop) → Prop) (f8_ : Int → Int → Heap → (Int → Heap → Prop) → Prop) (f9_ : Option Addr → Int → Int → Int → Int → Int → Int → Sl → Int → Int → Int → Int → Int → Int → Int → Int → Int → Int → Int → Sl → Int → Int → ByteArray → ByteArray → Int → Int → Int → Int → Int → Int → Int → Int → Sl → Heap → (Bool → Heap → Prop) → Prop) (f10_ : Option Addr → Heap → (Bool → Heap → Prop) → Prop) (f11_ : Heap → (Bool → Heap → Prop) → Prop) (s1 s2 s3 s4 s5 s6 : Int) (s7 : Sl) (mark8 : Bool) (h : Heap) (Q : Bool → Heap → Prop) : Prop :=
  al 25 [.int .i64 s1, .int .i64 s2, .int .i64 s3, .int .i64 s4, .int .i64 s5, .int .i64 s6, .slice s7.ptr s7.len s7.cap] h fun (a9 : Addr) (h10 : Heap) =>
  al 43 [.slice none 0 0, .slice none 0 0, .int .i64 0, .slice none 0 0, .slice none 0 0, .int .i64 0, .slice none 0 0, .slice none 0 0, .int .i64 0, .slice none 0 0, .slice none 0 0, .int .i64 0, .slice none 0 0, .slice none 0 0, .int .i64 0, .slice none 0 0, .slice none 0 0, .int .i64 0, .slice none 0 0, .slice none 0 0, .int .i64 0, .slice none 0 0, .slice none 0 0, .int .i64 0, .slice none 0 0, .slice none 0 0, .int .i64 0, .slice none 0 0, .slice none 0 0, .int .i64 0, .slice none 0 0, .slice none 0 0, .int .i64 0, .slice none 0 0, .slice none 0 0, .int .i64 0, .int .i64 0, .int .i64 0, .int .i64 0] h10 fun (a11 : Addr) (h12 : Heap) =>
  al 45 [.pointer none, .pointer none, .pointer none, .pointer none, .pointer none, .pointer none, .pointer none, .pointer none] h12 fun (a13 : Addr) (h14 : Heap) =>
  jn [] (fun  (h38 : Heap) =>
  jn [] (fun  (h95 : Heap) =>
  jn [] (fun  (h104 : Heap) =>
  jn [(4, .one .bool)] (fun (x110 : Bool) (h111 : Heap) =>
  Q x110 h111) (fun (j105 : Bool → Heap → Prop) =>
  f11_ h104 fun (r106 : Bool) (h107 : Heap) =>
  brr r106
  (f10_ (some a11) h107 fun (r108 : Bool) (h109 : Heap) =>
  j105 r108 h109)
  (j105 false h107))) (fun (j96 : Heap → Prop) =>
  F_law10_exact.l3 f7_ Q a13 j96 0 h95)) (fun (j39 : Heap → Prop) =>
  F_law10_exact.l2 f8_ f9_ f10_ Q a9 a11 a13 j39 0 h38)) (fun (j15 : Heap → Prop) =>
  F_law10_exact.l1 f6_ f7_ mark8 Q a9 a11 a13 j15 0 h14)
def F_law10_exact (s1 s2 s3 s4 s5 s6 : Int) (s7 : Sl) (mark8 : Bool) (h : Heap) (Q : Bool → Heap → Prop) : Prop := F_law10_exact_of F_law10_begin F_law10_Play_looks F_law10_into F_law10_Play_plays F_law1_Book_Look F_law10_wakes s1 s2 s3 s4 s5 s6 s7 mark8 h Q
def plan5 : Plan := .s (.r [1, 2]) (.s (.r [1, 2, 5]) (.s (.r [1, 2, 5, 6]) (.s (.s (.r [1, 2, 5, 6, 7]) (.bj [] [2, 5, 6] (.l [(7, .one (.int .i64))] [1, 2, 5, 6] (.s (.s (.r [1, 2, 5, 6, 7, 13]) (.c .z .z)) (.s (.b (.s (.d [0, 0, 2, 0, 14, 30, 0, 64, 0, 448, 960, 0, 2048, 0, 14336, 30720, 0, 0, 262142, 524287, 1048575] [[0, 1, 2, 3, 4, 5, 6, 7, 8, 9, 10, 11, 12, 13, 14, 15, 16, 17, 18, 19, 20]] [1, 2, 5, 6, 7]) (.s (.rj [(46, .one .bool)] [1, 2, 5, 6, 7]) (.c (.s (.r [4]) .z) .z)))) (.r [1, 2, 5, 6, 7])))))) (.s (.s (.r [2, 5, 6, 8]) (.bj [] [5, 6] (.l [(8, .one (.int .i64))] [2, 5, 6] (.s (.s (.rj [(55, .one .bool)] [2, 5, 6, 8]) (.c .z .z)) (.s (.b (.s (.dj [0, 1, 0, 7, 15, 31, 63, 127, 255, 0, 512, 0, 3584, 7680, 16383, 32767, 65535, 131071, 262143, 524287, 1048575] [[0, 1, 2, 3, 4, 5, 9, 10, 11, 12, 13, 6, 7, 8, 14, 15, 16, 17, 18, 19, 20]] [(78, .one .bool)] [2, 5, 6, 8]) (.c (.s (.r [4]) .z) .z))) (.r [2, 5, 6, 8])))))) (.s (.s (.r [5, 6, 9]) (.bj [] [5] (.l [(9, .one (.int .i64))] [5, 6] (.s (.s (.r [5, 6, 9, 80]) (.c .z .z)) (.s (.b (.s (.r [5, 6, 9, 87]) (.c (.s (.r [4]) .z) .z))) (.r [5, 6, 9])))))) (.s (.rj [(4, .one .bool)] []) .z))))))
theorem F_law10_exact.eq (f6_ : Int → Int → Int → Option Addr → Bool → Heap → (Option Addr → Heap → Prop) → Prop) (f7_ : Option Addr → Heap → (Bool → Heap → Prop) → Prop) (f8_ : Int → Int → Heap → (Int → Heap → Prop) → Prop) (f9_ : Option Addr → Int → Int → Int → Int → Int → Int → Sl → Int → Int → Int → Int → Int → Int → Int → Int → Int → Int → Int → Sl → Int → Int → ByteArray → ByteArray → Int → Int → Int → Int → Int → Int → Int → Int → Sl → Heap → (Bool → Heap → Prop) → Prop) (f10_ : Option Addr → Heap → (Bool → Heap → Prop) → Prop) (f11_ : Heap → (Bool → Heap → Prop) → Prop) (s1 s2 s3 s4 s5 s6 : Int) (s7 : Sl) (mark8 : Bool) (h : Heap) (K : Value → Heap → Prop) : F_law10_exact_of f6_ f7_ f8_ f9_ f10_ f11_ s1 s2 s3 s4 s5 s6 s7 mark8 h (fun (r0 : Bool) (h : Heap) => K (.bool r0) h) =
    den Tryz.prog (fn1 6 (E_law10_begin_of f6_) (fn1 7 (E_law10_Play_looks_of f7_) (fn1 8 (E_law10_into_of f8_) (fn1 9 (E_law10_Play_plays_of f9_) (fn1 10 (E_law1_Book_Look_of f10_) (fn1 11 (E_law10_wakes_of f11_) noFns)))))) Tryz.f5.ntmps plan5 (bodyOf Tryz.f5) (args0 0 [(.agg #[.int .i64 s1, .int .i64 s2, .int .i64 s3, .int .i64 s4, .int .i64 s5, .int .i64 s6, .slice s7.ptr s7.len s7.cap] : Value), (.bool mark8 : Value)]) h ⟨fun env h => dRes Tryz.prog Tryz.f5.results.toList env h K, fun _ _ _ => False, fun env h => dRes Tryz.prog Tryz.f5.results.toList env h K⟩ := by kernel_rfl
def E_law10_exact_of (f : Int → Int → Int → Int → Int → Int → Sl → Bool → Heap → (Bool → Heap → Prop) → Prop) : List Value → Heap → (Value → Heap → Prop) → Prop
  | [v0, v1], h, K => vAgg v0 fun cs0 => decs [.int .i64, .int .i64, .int .i64, .int .i64, .int .i64, .int .i64, .sl] cs0.toList fun (s1 s2 s3 s4 s5 s6 : Int) (s7 : Sl) =>
  dec1 .bool v1 fun (mark8 : Bool) =>
  f s1 s2 s3 s4 s5 s6 s7 mark8 h (fun (r0 : Bool) (h : Heap) => K (.bool r0) h)
  | _, _, _ => False
abbrev E_law10_exact := E_law10_exact_of F_law10_exact
theorem E_law10_exact.right : IsRight Tryz.prog 5 E_law10_exact := by
  refine isRight fun vs K w hh => ?_
  match vs, hh with
  | [v0, v1], hh =>
    unfold E_law10_exact E_law10_exact_of at hh
    replace hh := vAgg_sound hh; obtain ⟨cs0, rfl, hh⟩ := hh
    replace hh := decs_cons hh; obtain ⟨s1, l0_0, e0_0, hh⟩ := hh
    replace hh := decs_cons hh; obtain ⟨s2, l0_1, e0_1, hh⟩ := hh
    replace hh := decs_cons hh; obtain ⟨s3, l0_2, e0_2, hh⟩ := hh
    replace hh := decs_cons hh; obtain ⟨s4, l0_3, e0_3, hh⟩ := hh
    replace hh := decs_cons hh; obtain ⟨s5, l0_4, e0_4, hh⟩ := hh
    replace hh := decs_cons hh; obtain ⟨s6, l0_5, e0_5, hh⟩ := hh
    replace hh := decs_cons hh; obtain ⟨s7, l0_6, e0_6, hh⟩ := hh
    replace hh := decs_nil hh; obtain ⟨rfl, hh⟩ := hh
    subst e0_6
    subst e0_5
    subst e0_4
    subst e0_3
    subst e0_2
    subst e0_1
    have ec0 := toArray_eq e0_0
    subst ec0
    replace hh := dec1_sound hh; obtain ⟨mark8, rfl, hh⟩ := hh
    unfold F_law10_exact at hh
    exact calls_den (fn1_right ok6 E_law10_begin.right (fn1_right ok7 E_law10_Play_looks.right (fn1_right ok8 E_law10_into.right (fn1_right ok9 E_law10_Play_plays.right (fn1_right ok10 E_law1_Book_Look.right (fn1_right ok11 E_law10_wakes.right noFns_right)))))) plan5 _ w K Tryz.func5 (by kernel_rfl) (by kernel_rfl) (Eq.mp (F_law10_exact.eq F_law10_begin F_law10_Play_looks F_law10_into F_law10_Play_plays F_law1_Book_Look F_law10_wakes s1 s2 s3 s4 s5 s6 s7 mark8 w.heap K) hh)
theorem ok5 : okFn Tryz.prog 5 = true := by kernel_rfl
end Go.Proofs.YtigcpkejjjgkeaaGreat.V
/- What a play hands in and takes back: lent bytes, a place, messages told. -/
namespace Go.Proofs.YtigcpkejjjgkeaaGreat.V
open Go Go.RowKit
set_option linter.unusedVariables false
set_option linter.unusedSimpArgs false

theorem eq_ints_len {xs : List Int} {s t : Sl} {h : Heap} (V1 : View h 1 (En i64c) s xs) (V2 : View h 1 (En i64c) t xs) : s.len = t.len := by rw [V1.len, V2.len]
def bufE (e : Sl × List UInt8) : Res := buf 1 u8 e.1 e.2
def plR2 (so si : Sl) : Res := ex fun y : List Sl × List (Sl × List UInt8) => pr (y.2.length ≤ 1) (sep (buf 1 slc so y.1) (sep (buf 1 slc si (y.2.map (·.1))) (many bufE y.2)))
def plH (so si s : Sl) (b : List UInt8) : Res := sep (buf 1 slc so [s]) (sep (buf 1 slc si [s]) (buf 1 u8 s b))
def gvR (so si s : Sl) (b : List UInt8) (tn : Int) : Res := if tn % 2 = 1 then sep (lent s b) (plR2 so si) else plH so si s b
theorem buf_cutN {α : Type} {h0 h : Heap} {L : List Res} {sz : Nat} {enc : α → List Value} {s : Sl} {zs : List α} (he : ∀ x, (enc x).length = sz) (O : Sat h0 h (buf sz enc s zs :: L)) : Sat h0 h (buf sz enc ⟨s.ptr, 0, s.cap⟩ ([] : List α) :: L) := by
  refine O.mono fun E h => ?_
  obtain ⟨sp, h⟩ := h
  rcases h with ⟨rfl, rfl, rfl, rfl⟩ | ⟨b, k, rfl, hs, rfl⟩
  · exact ⟨[], .inl ⟨rfl, rfl, rfl, rfl⟩⟩
  · refine ⟨zs.flatMap enc ++ sp, .inr ⟨b, zs.length + k, by simp, ?_, by simp⟩⟩
    rw [List.length_append, hs, flatMap_len he, Nat.add_mul]
theorem sl_buf {h0 h : Heap} {L : List Res} {b : Nat} {x : Sl} (O : Sat h0 h (own b [.slice x.ptr x.len x.cap] :: L)) : Sat h0 h (buf 1 slc ⟨some (pt b 0), 1, 1⟩ [x] :: L) := by
  have O : Sat h0 h (own b ([x].flatMap slc ++ []) :: L) := O
  exact (O.own_buf (k := 0) (sz := 1) rfl).bufsI
theorem View.slQ {h : Heap} {s : Sl} {xs : List Sl} {i : Int} {K : Sl → Prop} {x : Sl} (V : View h 1 (En slc) s xs) (h0 : 0 ≤ i) (hx : xs[i.toNat]? = some x) (kk : K x) : ixS 1 s i fun a => ld [.sl] a h K := V.get1 (k := .sl) h0 hx (fun x => x) (fun _ => rfl) kk
section
variable {h0 h : Heap} {L : List Res} {t p r bk : Nat} {nd sh tn : Int} {sc so si s v : Sl} {mark : Bool} {b : List UInt8} {q : QS}
theorem F_ref0_EqInts.is {s u : Sl} {xs : List Int} {Q : Bool → Heap → Prop} (V1 : View h 1 (En i64c) s xs) (V2 : View h 1 (En i64c) u xs) (hl : xs.length ≤ 1000000) (k : Q true h) : F_ref0_EqInts s u h Q := by
  rw [F_ref0_EqInts.eq_1, F_ref0_EqInts_of.eq_1]
  refine brr_ne (fun hne => absurd (by rw [V1.len, V2.len]) hne) (fun _ => ?_)
  refine jn0 (fun h' => h = h') (fun h' e => by subst e; exact k) fun j hj => ?_
  rw [F_ref0_EqInts.l1.eq_1]
  refine wl1 (k := .int .i64) (fun (m : Nat) (i : Int) (h' : Heap) => h = h' ∧ i + m = xs.length ∧ 0 ≤ i) ?_ (m := xs.length) ⟨rfl, by omega, by omega⟩
  rintro m (i : Int) h2 next hnx ⟨rfl, him, hi0⟩
  rw [V1.len]
  refine brr_p (fun hlt => ?_) (fun hlt => hj _ rfl)
  obtain ⟨x, hx⟩ : ∃ x, xs[i.toNat]? = some x := ⟨_, List.getElem?_eq_getElem (by omega)⟩
  refine V1.i6 hi0 hx ?_
  refine V2.i6 hi0 hx ?_
  refine brr_ff (by simp) ?_
  rw [wrap64 (by omega) (by omega)]
  exact hnx (m - 1) _ _ (by omega) ⟨rfl, by omega, by omega⟩
theorem F_law1_Place_Rows.is {a3 : Nat} {Q : Sl → Heap → Prop} (hb : b.length ≤ (140737488355325 : Nat)) (Vv : Stays h0 L fun h => Bytes h v b) (O : Sat h0 h (own t [.pointer (some (pt p 0)), .pointer (some (pt r 0)), .int .i64 nd, .int .i64 sh, .slice sc.ptr sc.len sc.cap, .pointer (some (pt bk 0)), .bool mark, .slice so.ptr so.len so.cap, .slice si.ptr si.len si.cap, .int .i64 tn] :: plR2 so si :: buf 1 slc ⟨some (pt a3 0), 1, 1⟩ [v] :: L))
    (k : ∀ so si s h', Sat h0 h' (own t [.pointer (some (pt p 0)), .pointer (some (pt r 0)), .int .i64 nd, .int .i64 sh, .slice sc.ptr sc.len sc.cap, .pointer (some (pt bk 0)), .bool mark, .slice so.ptr so.len so.cap, .slice si.ptr si.len si.cap, .int .i64 tn] :: plH so si s b :: L) → ∀ V : View h' 1 (En slc) so [s], Q so h') : F_law1_Place_Rows (some (pt t 7)) ⟨some (pt a3 0), 1, 1⟩ h Q := by
  rw [F_law1_Place_Rows.eq_1, F_law1_Place_Rows_of.eq_1]
  obtain ⟨⟨os, es⟩, O⟩ := O.swap.ex
  obtain ⟨hes, O⟩ := O.pr
  have O := O.sep
  have O : Sat h0 h (buf 1 slc so os :: sep (buf 1 slc si (es.map (·.1))) (many bufE es) :: own t [.pointer (some (pt p 0)), .pointer (some (pt r 0)), .int .i64 nd, .int .i64 sh, .slice sc.ptr sc.len sc.cap, .pointer (some (pt bk 0)), .bool mark, .slice so.ptr so.len so.cap, .slice si.ptr si.len si.cap, .int .i64 tn] :: buf 1 slc ⟨some (pt a3 0), 1, 1⟩ [v] :: L) := O
  have O := O.swap.sep
  have O : Sat h0 h (buf 1 slc si (es.map (·.1)) :: many bufE es :: buf 1 slc so os :: own t [.pointer (some (pt p 0)), .pointer (some (pt r 0)), .int .i64 nd, .int .i64 sh, .slice sc.ptr sc.len sc.cap, .pointer (some (pt bk 0)), .bool mark, .slice so.ptr so.len so.cap, .slice si.ptr si.len si.cap, .int .i64 tn] :: buf 1 slc ⟨some (pt a3 0), 1, 1⟩ [v] :: L) := O
  refine ⟨_, rfl, ?_⟩
  refine O.ld 3 rfl (ldL_c (k := .sl) (x := so) (ldL_n ?_))
  refine ⟨Int.le_refl _, by show (0 : Int) ≤ (so.cap : Int); omega, ?_⟩
  refine ⟨_, rfl, ?_⟩
  refine st_ad (b := t) (o := 7) rfl ?_
  refine O.st 3 rfl (by simp) rfl fun h O => ?_
  dsimp only [V.put, List.set] at O
  have O := buf_cutN slc_len (O.sel [2, 3, 0, 1, 4] 5 rfl (Nat.le_add_left _ _))
  obtain ⟨so5, hso5⟩ : ∃ s : Sl, s = ⟨so.ptr, 0, so.cap⟩ := ⟨_, rfl⟩
  have O : Sat h0 h (buf 1 slc so5 [] :: own t [.pointer (some (pt p 0)), .pointer (some (pt r 0)), .int .i64 nd, .int .i64 sh, .slice sc.ptr sc.len sc.cap, .pointer (some (pt bk 0)), .bool mark, .slice so5.ptr so5.len so5.cap, .slice si.ptr si.len si.cap, .int .i64 tn] :: buf 1 slc si (es.map (·.1)) :: many bufE es :: buf 1 slc ⟨some (pt a3 0), 1, 1⟩ [v] :: L) := by
    subst hso5; exact O
  clear hso5
  refine jn0 (fun h' => ∃ so si s, Sat h0 h' (own t [.pointer (some (pt p 0)), .pointer (some (pt r 0)), .int .i64 nd, .int .i64 sh, .slice sc.ptr sc.len sc.cap, .pointer (some (pt bk 0)), .bool mark, .slice so.ptr so.len so.cap, .slice si.ptr si.len si.cap, .int .i64 tn] :: plH so si s b :: L)) ?_ ?_
  · clear O
    rintro h ⟨so, si, s, O⟩
    refine ⟨_, rfl, ?_⟩
    refine O.ld 0 rfl (ldL_c (k := .sl) (x := so) (ldL_n ?_))
    have O2 := O.swap.sep
    exact k so si s _ O ((O2.view 0 slc_len (by simp) rfl).1)
  intro j hj
  rw [F_law1_Place_Rows.l1.eq_1]
  refine wl1 (k := .int .i64) (fun (m : Nat) (i : Int) (h' : Heap) => (m = 1 ∧ i = 0 ∧ Sat h0 h' (buf 1 slc so5 [] :: own t [.pointer (some (pt p 0)), .pointer (some (pt r 0)), .int .i64 nd, .int .i64 sh, .slice sc.ptr sc.len sc.cap, .pointer (some (pt bk 0)), .bool mark, .slice so5.ptr so5.len so5.cap, .slice si.ptr si.len si.cap, .int .i64 tn] :: buf 1 slc si (es.map (·.1)) :: many bufE es :: buf 1 slc ⟨some (pt a3 0), 1, 1⟩ [v] :: L)) ∨ (i = 1 ∧ ∃ so si s, Sat h0 h' (own t [.pointer (some (pt p 0)), .pointer (some (pt r 0)), .int .i64 nd, .int .i64 sh, .slice sc.ptr sc.len sc.cap, .pointer (some (pt bk 0)), .bool mark, .slice so.ptr so.len so.cap, .slice si.ptr si.len si.cap, .int .i64 tn] :: plH so si s b :: L))) ?_ (m := 1) (.inl ⟨rfl, rfl, O⟩)
  clear O
  rintro m (i : Int) h next hnx (⟨rfl, rfl, O⟩ | ⟨rfl, so, si, s, O⟩)
  case inr => exact brr_ff rfl (hj _ ⟨so, si, s, O⟩)
  refine brr_tt rfl ?_
  refine ⟨_, rfl, ?_⟩
  refine O.ld 1 rfl (ldL_c (k := .sl) (x := si) (ldL_n ?_))
  refine jn0 (fun h' => ∃ (si1 s0 : Sl) (zs : List UInt8), Sat h0 h' (buf 1 slc si1 [s0] :: buf 1 u8 s0 zs :: buf 1 slc so5 [] :: own t [.pointer (some (pt p 0)), .pointer (some (pt r 0)), .int .i64 nd, .int .i64 sh, .slice sc.ptr sc.len sc.cap, .pointer (some (pt bk 0)), .bool mark, .slice so5.ptr so5.len so5.cap, .slice si1.ptr si1.len si1.cap, .int .i64 tn] :: buf 1 slc ⟨some (pt a3 0), 1, 1⟩ [v] :: L)) ?_ ?_
  case refine_2 =>
    intro j2 hj2
    have hlen := (O.view 2 slc_len (by simp) rfl).1.len
    rw [hlen]
    cases es with
    | nil =>
      refine brr_tt rfl ?_
      refine ⟨_, rfl, ?_⟩
      refine O.ld 1 rfl (ldL_c (k := .sl) (x := si) (ldL_n ?_))
      have O : Sat h0 h (buf 1 slc si ([] : List Sl) :: buf 1 slc so5 [] :: own t [.pointer (some (pt p 0)), .pointer (some (pt r 0)), .int .i64 nd, .int .i64 sh, .slice sc.ptr sc.len sc.cap, .pointer (some (pt bk 0)), .bool mark, .slice so5.ptr so5.len so5.cap, .slice si.ptr si.len si.cap, .int .i64 tn] :: buf 1 slc ⟨some (pt a3 0), 1, 1⟩ [v] :: L) := O.sel [2, 0, 1, 4] 5 rfl (Nat.le_add_left _ _)
      refine Sat.push_buf (enc := slc) O (⟨none, 0, 0⟩ : Sl) rfl slc_len slc_one rfl (by simp) fun s2 h O _ => ?_
      refine ⟨_, rfl, ?_⟩
      refine st_ad (b := t) (o := 8) rfl ?_
      refine O.st 2 rfl (by simp) rfl fun h O => ?_
      dsimp only [V.put, List.set] at O
      have O := O.nil_buf (sz := 1) (enc := u8)
      exact hj2 _ ⟨s2, ⟨none, 0, 0⟩, [], O.sel [1, 0, 2, 3, 4] 5 rfl (Nat.le_add_left _ _)⟩
    | cons e es =>
      have he : es = [] := by
        cases es with
        | nil => rfl
        | cons _ _ => simp at hes
      subst he
      refine brr_ff (by simp) ?_
      have O3 : Sat h0 h (sep (bufE e) V.emp :: buf 1 slc si [e.1] :: buf 1 slc so5 [] :: own t [.pointer (some (pt p 0)), .pointer (some (pt r 0)), .int .i64 nd, .int .i64 sh, .slice sc.ptr sc.len sc.cap, .pointer (some (pt bk 0)), .bool mark, .slice so5.ptr so5.len so5.cap, .slice si.ptr si.len si.cap, .int .i64 tn] :: buf 1 slc ⟨some (pt a3 0), 1, 1⟩ [v] :: L) := O.sel [3, 2, 0, 1, 4] 5 rfl (Nat.le_add_left _ _)
      have O4 := O3.sep
      exact hj2 _ ⟨si, e.1, e.2, O4.sel [2, 0, 3, 4, 5] 6 rfl (Nat.le_add_left _ _)⟩
  clear O hes
  rintro h ⟨si1, s0, zs, O⟩
  refine ⟨_, rfl, ?_⟩
  refine O.ld 3 rfl (ldL_c (k := .sl) (x := si1) (ldL_n ?_))
  refine (O.view 0 slc_len (by simp) rfl).1.slQ (x := s0) (Int.le_refl _) rfl ?_
  refine ⟨Int.le_refl _, by show (0 : Int) ≤ (s0.cap : Int); omega, ?_⟩
  refine (O.view 4 slc_len (by simp) rfl).1.slQ (x := v) (Int.le_refl _) rfl ?_
  have V2 := Vv h (O.sel [] 5 rfl (Nat.le_add_left _ _))
  have O2 := buf_cutN u8_len O.swap
  refine Sat.app_buf O2 u8_len u8_one rfl (ys := b) V2.len (V2.rd u8_len) (by simp; omega) fun s31 h O _ => ?_
  rw [List.nil_append] at O
  refine ⟨_, rfl, ?_⟩
  refine O.ld 3 rfl (ldL_c (k := .sl) (x := si1) (ldL_n ?_))
  refine Sat.put1 O.swap slc_len slc_one (Int.le_refl _) (by simp) s31 rfl fun h O => ?_
  have O : Sat h0 h (buf 1 slc si1 [s31] :: buf 1 u8 s31 b :: buf 1 slc so5 [] :: own t [.pointer (some (pt p 0)), .pointer (some (pt r 0)), .int .i64 nd, .int .i64 sh, .slice sc.ptr sc.len sc.cap, .pointer (some (pt bk 0)), .bool mark, .slice so5.ptr so5.len so5.cap, .slice si1.ptr si1.len si1.cap, .int .i64 tn] :: buf 1 slc ⟨some (pt a3 0), 1, 1⟩ [v] :: L) := O
  refine ⟨_, rfl, ?_⟩
  refine O.ld 3 rfl (ldL_c (k := .sl) (x := so5) (ldL_n ?_))
  refine Sat.push_buf (enc := slc) (O.sel [2, 0, 1, 3] 5 rfl (Nat.le_add_left _ _)) s31 rfl slc_len slc_one rfl (by simp) fun s41 h O _ => ?_
  have O : Sat h0 h (buf 1 slc s41 [s31] :: buf 1 slc si1 [s31] :: buf 1 u8 s31 b :: own t [.pointer (some (pt p 0)), .pointer (some (pt r 0)), .int .i64 nd, .int .i64 sh, .slice sc.ptr sc.len sc.cap, .pointer (some (pt bk 0)), .bool mark, .slice so5.ptr so5.len so5.cap, .slice si1.ptr si1.len si1.cap, .int .i64 tn] :: L) := O
  refine ⟨_, rfl, ?_⟩
  refine st_ad (b := t) (o := 7) rfl ?_
  refine O.st 3 rfl (by simp) rfl fun h O => ?_
  dsimp only [V.put, List.set] at O
  refine hnx 0 _ _ (by omega) (.inr ⟨rfl, s41, si1, s31, ?_⟩)
  have O := (O.sel [1, 2, 0, 3] 4 rfl (Nat.le_add_left _ _)).sepI
  have O := O.swap.sepI
  exact O.swap
theorem F_law1_Place_Bytes.is {Q : Sl → Heap → Prop} (hb : b.length ≤ (140737488355325 : Nat)) (Vv : Stays h0 L fun h => Bytes h v b) (O : Sat h0 h (own t [.pointer (some (pt p 0)), .pointer (some (pt r 0)), .int .i64 nd, .int .i64 sh, .slice sc.ptr sc.len sc.cap, .pointer (some (pt bk 0)), .bool mark, .slice so.ptr so.len so.cap, .slice si.ptr si.len si.cap, .int .i64 tn] :: plR2 so si :: L))
    (k : ∀ so si s h', Sat h0 h' (own t [.pointer (some (pt p 0)), .pointer (some (pt r 0)), .int .i64 nd, .int .i64 sh, .slice sc.ptr sc.len sc.cap, .pointer (some (pt bk 0)), .bool mark, .slice so.ptr so.len so.cap, .slice si.ptr si.len si.cap, .int .i64 tn] :: plH so si s b :: L) → Q s h') : F_law1_Place_Bytes (some (pt t 7)) v h Q := by
  rw [F_law1_Place_Bytes.eq_1, F_law1_Place_Bytes_of.eq_1]
  refine O.al fun a3 h O => ?_
  have O := sl_buf O
  refine F_law1_Place_Rows.is hb Vv (O.sel [1, 2, 0] 3 rfl (Nat.le_add_left _ _)) fun so si s h O V => ?_
  exact V.slQ (x := s) (Int.le_refl _) rfl (k so si s _ O)
theorem F_law10_Play_given.is {Q : Sl → Heap → Prop} (ht0 : 0 ≤ tn) (ht : tn ≤ 1000000) (hb : b.length ≤ (140737488355325 : Nat)) (Vv : Stays h0 L fun h => Bytes h v b) (O : Sat h0 h (own t [.pointer (some (pt p 0)), .pointer (some (pt r 0)), .int .i64 nd, .int .i64 sh, .slice sc.ptr sc.len sc.cap, .pointer (some (pt bk 0)), .bool mark, .slice so.ptr so.len so.cap, .slice si.ptr si.len si.cap, .int .i64 tn] :: plR2 so si :: L))
    (k : ∀ so si s h', Sat h0 h' (own t [.pointer (some (pt p 0)), .pointer (some (pt r 0)), .int .i64 nd, .int .i64 sh, .slice sc.ptr sc.len sc.cap, .pointer (some (pt bk 0)), .bool mark, .slice so.ptr so.len so.cap, .slice si.ptr si.len si.cap, .int .i64 (tn + 1)] :: gvR so si s b (tn + 1) :: L) → Q s h') : F_law10_Play_given (some (pt t 0)) v h Q := by
  rw [F_law10_Play_given.eq_1, F_law10_Play_given_of.eq_1]
  refine ⟨_, rfl, ?_⟩
  refine O.ld 0 rfl (ldL_c (ldL_n ?_))
  refine ⟨_, rfl, ?_⟩
  refine st_ad (b := t) (o := 9) rfl ?_
  refine O.st 0 rfl (by simp) rfl fun h O => ?_
  dsimp only [V.put, List.set] at O
  rw [wrap64 (by omega) (by omega)] at O
  refine ⟨_, rfl, ?_⟩
  refine O.ld 0 rfl (ldL_c (ldL_n ?_))
  refine ⟨by decide, ?_⟩
  rw [Int.tmod_eq_emod_of_nonneg (by omega)]
  refine brr_eq (fun he => ?_) (fun he => ?_)
  · refine ⟨_, rfl, ?_⟩
    refine F_law1_Place_Bytes.is hb Vv O fun so si s h O => k so si s h ?_
    unfold gvR
    rw [if_neg (by omega)]
    exact O
  · refine F_law1_Lend.is O (Vv h O.drop.drop) (by omega) fun s h O hs => k so si s h ?_
    unfold gvR
    rw [if_pos (by omega)]
    have O := (O.sel [0, 2, 1] 3 rfl (Nat.le_add_left _ _)).sepI
    exact O.swap
theorem lent_len (O : Sat h0 h (lent s b :: L)) : s.len = b.length := (O.lent 0 (by simp) rfl).1.len
theorem gv_view (O : Sat h0 h (gvR so si s b tn :: L)) : Bytes h s b := by
  unfold gvR at O
  split at O
  · exact (O.sep.lent 0 (by simp) rfl).1
  · have O := O.sep
    have O := O.swap.sep
    exact (O.view 1 u8_len (by simp) rfl).1
theorem fill_buf {zs : List UInt8} {Q : Heap → Prop} {ii : Nat} (O : Sat h0 h (buf 1 u8 s zs :: L)) (hz : zs.length ≤ 4611686018427387904) (k : ∀ zs' h', Sat h0 h' (buf 1 u8 s zs' :: L) → Q h') :
    wl [(ii, .one (.int .i64))] (fun (next : Int → Heap → Prop) (i : Int) (h : Heap) => brr (decide (i < ((s.len : Nat) : Int))) (ixS 1 s i fun (a : Addr) => st a [.int .u8 238] h fun (h' : Heap) => next (IntKind.i64.wrap (i + 1)) h') (Q h)) 0 h := by
  refine wl1 (k := .int .i64) (fun (m : Nat) (i : Int) (h' : Heap) => 0 ≤ i ∧ i + m = zs.length ∧ ∃ ys : List UInt8, ys.length = zs.length ∧ Sat h0 h' (buf 1 u8 s ys :: L)) ?_ (m := zs.length) ⟨by omega, by omega, zs, rfl, O⟩
  clear O
  rintro m (i : Int) h next hn ⟨hi0, him, ys, hy, O⟩
  rw [(O.view 0 u8_len (by simp) rfl).1.len]
  refine brr_p (fun hlt => ?_) (fun hlt => k ys _ O)
  refine O.put1 u8_len u8_one hi0 (by omega) 238 rfl fun h O => ?_
  rw [wrap64 (by omega) (by omega)]
  exact hn (m - 1) _ _ (by omega) ⟨by omega, by omega, _, by simp [hy], O⟩
theorem F_law10_Play_kept.is {Q : Bool → Heap → Prop} (ht0 : 0 ≤ tn) (hb : b.length ≤ (140737488355325 : Nat)) (Vv : Stays h0 L fun h => Bytes h v b) (O : Sat h0 h (own t [.pointer (some (pt p 0)), .pointer (some (pt r 0)), .int .i64 nd, .int .i64 sh, .slice sc.ptr sc.len sc.cap, .pointer (some (pt bk 0)), .bool mark, .slice so.ptr so.len so.cap, .slice si.ptr si.len si.cap, .int .i64 tn] :: gvR so si s b tn :: L))
    (k : ∀ h', Sat h0 h' (own t [.pointer (some (pt p 0)), .pointer (some (pt r 0)), .int .i64 nd, .int .i64 sh, .slice sc.ptr sc.len sc.cap, .pointer (some (pt bk 0)), .bool mark, .slice so.ptr so.len so.cap, .slice si.ptr si.len si.cap, .int .i64 tn] :: plR2 so si :: L) → Q true h') : F_law10_Play_kept (some (pt t 0)) s v h Q := by
  rw [F_law10_Play_kept.eq_1, F_law10_Play_kept_of.eq_1]
  have V1 := gv_view O.swap
  have V2 := Vv h O.drop.drop
  refine F_ref0_Eq.is V1 V2 (by omega) (by omega) ?_
  refine ⟨_, rfl, ?_⟩
  refine O.ld 0 rfl (ldL_c (ldL_n ?_))
  refine ⟨by decide, ?_⟩
  rw [Int.tmod_eq_emod_of_nonneg ht0]
  refine jn1 (fun z h' => z = true ∧ h' = h) ?_ ?_
  case refine_2 =>
    intro j hj
    refine brr_eq (fun he => ?_) (fun he => hj _ _ ⟨by simp, rfl⟩)
    unfold gvR at O
    rw [if_pos he] at O
    refine F_law1_Intact.is O.swap.sep 0 (by simp) rfl V2 (by omega) ?_
    exact hj _ _ ⟨by simp, rfl⟩
  rintro z h' ⟨rfl, rfl⟩
  unfold gvR at O
  rw [F_law1_Over.eq_1, F_law1_Over_of.eq_1]
  refine jn_go ?_
  rw [F_law1_Over.l1.eq_1]
  by_cases he : tn % 2 = 1
  · rw [if_pos he] at O
    have O := O.swap.sep
    refine fill_lent O (lent_len O) (by omega) fun zs' h' _ O => k h' ?_
    exact O.sel [2, 1] 3 rfl (Nat.le_add_left _ _)
  · rw [if_neg he] at O
    have O := O.swap.sep
    have O := O.swap.sep
    have O : Sat h0 h' (buf 1 slc si [s] :: buf 1 u8 s b :: buf 1 slc so [s] :: own t [.pointer (some (pt p 0)), .pointer (some (pt r 0)), .int .i64 nd, .int .i64 sh, .slice sc.ptr sc.len sc.cap, .pointer (some (pt bk 0)), .bool mark, .slice so.ptr so.len so.cap, .slice si.ptr si.len si.cap, .int .i64 tn] :: L) := O
    refine fill_buf O.swap (by omega) fun zs' h' O => k h' ?_
    have O := (O.none (f := bufE))
    have O : Sat h0 h' (bufE (s, zs') :: many bufE [] :: buf 1 slc si [s] :: buf 1 slc so [s] :: own t [.pointer (some (pt p 0)), .pointer (some (pt r 0)), .int .i64 nd, .int .i64 sh, .slice sc.ptr sc.len sc.cap, .pointer (some (pt bk 0)), .bool mark, .slice so.ptr so.len so.cap, .slice si.ptr si.len si.cap, .int .i64 tn] :: L) := O.swap
    have O := O.more
    have O := (O.swap).sepI
    have O := (O.swap).sepI
    exact (Sat.exI ([s], [(s, zs')]) (Sat.prI (by simp) O)).swap
theorem play_message.is {c0 c1 : Value} {C : List Value} {cop : List Int} {o : QOp} {Q : Int → Int → Int → Int → Int → Int → Int → Int → Int → Int → Sl → Int → Int → ByteArray → ByteArray → Int → Int → Int → Int → Int → Int → Int → Heap → Prop} (hc0 : cop ≠ []) (hc : cop.length ≤ 1000000) (O : Sat h0 h (own t (c0 :: c1 :: .int .i64 nd :: .int .i64 sh :: .slice sc.ptr sc.len sc.cap :: C) :: buf 1 i64c sc cop :: L)) (k : ∀ (m2 : Mg) h', m2.v = o.m.v → m2.b = o.m.b → Sat h0 h' (own t (c0 :: c1 :: .int .i64 nd :: .int .i64 sh :: .slice sc.ptr sc.len sc.cap :: C) :: buf 1 i64c sc cop :: L) → Q m2.kind m2.frm m2.to m2.shard m2.epoch m2.te m2.ts m2.round m2.span m2.seen m2.v m2.peer m2.num m2.name m2.other m2.amount m2.life m2.id m2.op m2.client m2.state m2.bad h') : F_law10_Play_message (some (pt t 0)) o.kind o.which o.epoch o.o1 o.te o.ts o.ov o.span (o.m).kind (o.m).frm (o.m).to (o.m).shard (o.m).epoch (o.m).te (o.m).ts (o.m).round (o.m).span (o.m).seen (o.m).v (o.m).peer (o.m).num (o.m).name (o.m).other (o.m).amount (o.m).life (o.m).id (o.m).op (o.m).client (o.m).state (o.m).bad o.aim o.v h Q := by
  rw [F_law10_Play_message.eq_1, F_law10_Play_message_of.eq_1]
  have hpos : 0 < cop.length := List.length_pos_iff.2 hc0
  refine O.al fun a34 h O => ?_
  refine O.al fun a36 h O => ?_
  refine O.ld 1 rfl ?_
  repeat (first | (with_reducible refine ldL_n ?_) | refine ldL_s ?_ | refine ldL_c ?_)
  refine O.al fun a60 h O => ?_
  refine O.st 0 rfl (by simp) rfl fun h O => ?_
  dsimp only [V.put, List.set] at O
  refine O.ld 2 rfl (ldL_c (ldL_n ?_))
  have O : Sat h0 h (own a60 (mgC o.m) :: own a36 [.int .i64 0, .int .i64 0, .int .i64 0, .int .i64 0, .int .u64 0, .int .u64 0, .int .u64 0, .int .u64 0, .int .i64 0, .int .u64 0, .slice none 0 0, .int .i64 0, .int .u64 0, .string (⟨#[]⟩ : ByteArray), .string (⟨#[]⟩ : ByteArray), .int .u64 0, .int .u64 0, .int .u64 0, .int .i64 0, .int .i64 0, .int .i64 0, .int .i64 0] :: own a34 (qopC o) :: own t (c0 :: c1 :: .int .i64 nd :: .int .i64 sh :: .slice sc.ptr sc.len sc.cap :: C) :: buf 1 i64c sc cop :: L) := O
  refine jn0 (fun h' => ∃ m2 : Mg, m2.v = o.m.v ∧ m2.b = o.m.b ∧ Sat h0 h' (own a60 (mgC m2) :: own a36 [.int .i64 0, .int .i64 0, .int .i64 0, .int .i64 0, .int .u64 0, .int .u64 0, .int .u64 0, .int .u64 0, .int .i64 0, .int .u64 0, .slice none 0 0, .int .i64 0, .int .u64 0, .string (⟨#[]⟩ : ByteArray), .string (⟨#[]⟩ : ByteArray), .int .u64 0, .int .u64 0, .int .u64 0, .int .i64 0, .int .i64 0, .int .i64 0, .int .i64 0] :: own a34 (qopC o) :: own t (c0 :: c1 :: .int .i64 nd :: .int .i64 sh :: .slice sc.ptr sc.len sc.cap :: C) :: buf 1 i64c sc cop :: L)) ?_ ?_
  · clear O
    rintro h ⟨m2, e1, e2, O⟩
    refine O.ld 0 rfl ?_
    repeat (first | (with_reducible refine ldL_n ?_) | refine ldL_s ?_ | refine ldL_c ?_)
    refine O.st 1 rfl (by simp) rfl fun h O => ?_
    dsimp only [V.put, List.set] at O
    refine O.ld 1 rfl ?_
    repeat (first | (with_reducible refine ldL_n ?_) | refine ldL_s ?_ | refine ldL_c ?_)
    exact k m2 _ e1 e2 (O.sel [3, 4] 5 rfl (Nat.le_add_left _ _))
  · intro j hj
    refine brr_p (fun ha => ?_) (fun ha => hj _ ⟨o.m, rfl, rfl, O⟩)
    unfold mgC at O
    refine ⟨_, rfl, ?_⟩
    refine O.ld 3 rfl (ldL_c (ldL_n ?_))
    refine st_ad (b := a60) (o := 2) rfl ?_
    refine O.st 0 rfl (by simp) rfl fun h O => ?_
    dsimp only [V.put, List.set] at O
    refine ⟨_, rfl, ?_⟩
    refine O.ld 3 rfl (ldL_c (ldL_n ?_))
    refine st_ad (b := a60) (o := 3) rfl ?_
    refine O.st 0 rfl (by simp) rfl fun h O => ?_
    dsimp only [V.put, List.set] at O
    refine ⟨_, rfl, ?_⟩
    refine O.ld 3 rfl (ldL_c (k := .sl) (x := sc) (ldL_n ?_))
    refine O.ld 2 rfl (ldL_c (ldL_n ?_))
    refine ⟨_, rfl, ?_⟩
    refine O.ld 3 rfl (ldL_c (k := .sl) (x := sc) (ldL_n ?_))
    have W := (O.view 4 i64c_len (by simp) rfl).1
    rw [show ((sc.len : Nat) : Int) = ((cop.length : Nat) : Int) by rw [W.len]]
    refine F_law10_into.is (by omega) (by omega) ?_
    refine O.ca 3 1 rfl ?_
    have m0 := Int.emod_nonneg o.aim (show ((cop.length : Nat) : Int) ≠ 0 by omega)
    have m1 := Int.emod_lt_of_pos o.aim (show (0 : Int) < ((cop.length : Nat) : Int) by omega)
    obtain ⟨c, hcx⟩ : ∃ c, cop[(o.aim % ((cop.length : Nat) : Int)).toNat]? = some c := ⟨_, List.getElem?_eq_getElem (by omega)⟩
    refine W.i6 m0 hcx ?_
    refine st_ad (b := a60) (o := 1) rfl ?_
    refine O.st 0 rfl (by simp) rfl fun h O => ?_
    dsimp only [V.put, List.set] at O
    exact hj _ ⟨{ o.m with frm := c, to := nd, shard := sh }, rfl, rfl, O⟩
/-- What a book of handed out lists must do. -/
structure BkOk (H : Heap) (bk : Nat) (mark : Bool) (B : Nat → Res) : Prop where
  up : ∀ {h : Heap} {L : List Res} {T T' : Nat}, T ≤ T' → Sat H h (B T :: L) → Sat H h (B T' :: L)
  look : ∀ {h : Heap} {L : List Res} {T : Nat} {Q : Bool → Heap → Prop}, T ≤ 100000000 → Sat H h (B T :: L) → (∀ h', Sat H h' (B T :: L) → Q true h') → F_law1_Book_Look (some (pt bk 0)) h Q
  bytes : mark = true → ∀ {h : Heap} {L : List Res} {T : Nat} {s : Sl} {xs : List UInt8} {Q : Heap → Prop}, T ≤ 100000000 → xs.length ≤ (140737488355325 : Nat) → Sat H h (buf 1 u8 s xs :: B T :: L) → (∀ h', Sat H h' (B (T + 1) :: L) → Q h') → F_law1_Book_Bytes (some (pt bk 0)) s h Q
  msgs : mark = true → ∀ {h : Heap} {L : List Res} {T : Nat} {s : Sl} {ms : List Mg} {Q : Heap → Prop}, T ≤ 100000000 → ms.length ≤ 16 → (∀ m ∈ ms, m.b.length ≤ (140737488355325 : Nat)) → Sat H h (msgsR s ms :: B T :: L) → (∀ h', Sat H h' (B (T + 20) :: L) → Q h') → F_law1_Book_Msgs (some (pt bk 0)) s h Q
theorem F_law10_Play_told.is {B : Nat → Res} {T : Nat} {s u : Sl} {ms : List Mg} {Q : Bool → Heap → Prop} (K : BkOk h0 bk mark B) (hT : T ≤ 100000000) (hl : ms.length ≤ 16) (hm : ∀ m ∈ ms, m.b.length ≤ (140737488355325 : Nat)) (O : Sat h0 h (msgsR s ms :: msgsR u ms :: own t [.pointer (some (pt p 0)), .pointer (some (pt r 0)), .int .i64 nd, .int .i64 sh, .slice sc.ptr sc.len sc.cap, .pointer (some (pt bk 0)), .bool mark, .slice so.ptr so.len so.cap, .slice si.ptr si.len si.cap, .int .i64 tn] :: B T :: L)) (k : ∀ h', Sat h0 h' (own t [.pointer (some (pt p 0)), .pointer (some (pt r 0)), .int .i64 nd, .int .i64 sh, .slice sc.ptr sc.len sc.cap, .pointer (some (pt bk 0)), .bool mark, .slice so.ptr so.len so.cap, .slice si.ptr si.len si.cap, .int .i64 tn] :: B (T + 20) :: L) → Q true h') : F_law10_Play_told (some (pt t 0)) s u h Q := by
  rw [F_law10_Play_told.eq_1, F_law10_Play_told_of.eq_1]
  refine F_ref0_EqMsgs.is hm (by omega) O fun h O => ?_
  refine ⟨_, rfl, ?_⟩
  refine O.ld 2 rfl (ldL_c (ldL_n ?_))
  refine jn0 (fun h' => Sat h0 h' (own t [.pointer (some (pt p 0)), .pointer (some (pt r 0)), .int .i64 nd, .int .i64 sh, .slice sc.ptr sc.len sc.cap, .pointer (some (pt bk 0)), .bool mark, .slice so.ptr so.len so.cap, .slice si.ptr si.len si.cap, .int .i64 tn] :: B (T + 20) :: L)) (fun h O => k h O) fun j hj => ?_
  refine brr_of (fun hk => ?_) (fun hk => ?_)
  · refine ⟨_, rfl, ?_⟩
    refine O.ld 2 rfl (ldL_c (ldL_n ?_))
    refine K.msgs hk hT hl hm (O.sel [0, 3, 2] 4 rfl (Nat.le_add_left _ _)) fun h O => hj _ O.swap
  · exact hj _ (K.up (by omega) (O.sel [3, 2] 4 rfl (Nat.le_add_left _ _))).swap
end
end Go.Proofs.YtigcpkejjjgkeaaGreat.V
/- One play: it begins, it is looked at, a step is played. -/
namespace Go.Proofs.YtigcpkejjjgkeaaGreat.V
open Go Go.RowKit
set_option linter.unusedVariables false
set_option linter.unusedSimpArgs false

structure PX where
  t : Nat
  q : QS
  tn : Int
structure PY where
  p : Nat
  r : Nat
  sc : Sl
  so : Sl
  si : Sl
def playR (bk : Nat) (mark : Bool) (x : PX) : Res := ex fun y : PY => star [own x.t [.pointer (some (pt y.p 0)), .pointer (some (pt y.r 0)), .int .i64 x.q.node, .int .i64 x.q.shard, .slice y.sc.ptr y.sc.len y.sc.cap, .pointer (some (pt bk 0)), .bool mark, .slice y.so.ptr y.so.len y.so.cap, .slice y.si.ptr y.si.len y.si.cap, .int .i64 x.tn], quR y.p x.q, rfR y.r x.q, buf 1 i64c y.sc x.q.cop, plR2 y.so y.si]
structure PX.Ok (x : PX) (n : Int) : Prop where
  iv : x.q.Inv
  c : x.q.cop.length ≤ 7
  c0 : x.q.cop ≠ []
  t0 : 0 ≤ x.tn
  t1 : x.tn ≤ n
theorem PX.Ok.more {x : PX} {n m : Int} (o : x.Ok n) (h : n ≤ m) : x.Ok m := ⟨o.iv, o.c, o.c0, o.t0, Int.le_trans o.t1 h⟩
section
variable {h0 h : Heap} {L : List Res} {bk : Nat} {mark : Bool} {x : PX} {B : Nat → Res} {T : Nat}
theorem Sat.play (O : Sat h0 h (playR bk mark x :: L)) : ∃ y : PY, Sat h0 h (own x.t [.pointer (some (pt y.p 0)), .pointer (some (pt y.r 0)), .int .i64 x.q.node, .int .i64 x.q.shard, .slice y.sc.ptr y.sc.len y.sc.cap, .pointer (some (pt bk 0)), .bool mark, .slice y.so.ptr y.so.len y.so.cap, .slice y.si.ptr y.si.len y.si.cap, .int .i64 x.tn] :: quR y.p x.q :: rfR y.r x.q :: buf 1 i64c y.sc x.q.cop :: plR2 y.so y.si :: L) := by
  obtain ⟨y, O⟩ := O.ex
  exact ⟨y, O.starE⟩
theorem Sat.playI (x : PX) (y : PY) (O : Sat h0 h (own x.t [.pointer (some (pt y.p 0)), .pointer (some (pt y.r 0)), .int .i64 x.q.node, .int .i64 x.q.shard, .slice y.sc.ptr y.sc.len y.sc.cap, .pointer (some (pt bk 0)), .bool mark, .slice y.so.ptr y.so.len y.so.cap, .slice y.si.ptr y.si.len y.si.cap, .int .i64 x.tn] :: quR y.p x.q :: rfR y.r x.q :: buf 1 i64c y.sc x.q.cop :: plR2 y.so y.si :: L)) : Sat h0 h (playR bk mark x :: L) :=
  Sat.exI y (Sat.starI (Rs := [own x.t [.pointer (some (pt y.p 0)), .pointer (some (pt y.r 0)), .int .i64 x.q.node, .int .i64 x.q.shard, .slice y.sc.ptr y.sc.len y.sc.cap, .pointer (some (pt bk 0)), .bool mark, .slice y.so.ptr y.so.len y.so.cap, .slice y.si.ptr y.si.len y.si.cap, .int .i64 x.tn], quR y.p x.q, rfR y.r x.q, buf 1 i64c y.sc x.q.cop, plR2 y.so y.si]) O)
theorem F_law10_begin.is {place shard many : Int} {Q : Option Addr → Heap → Prop} (O : Sat h0 h L) (k : ∀ (x : PX) h', x.Ok 0 → Sat h0 h' (playR bk mark x :: L) → Q (some (pt x.t 0)) h') : F_law10_begin place shard many (some (pt bk 0)) mark h Q := by
  rw [F_law10_begin.eq_1, F_law10_begin_of.eq_1]
  refine F_law10_copiesOf.is O fun sc h n hn O => ?_
  have W := (O.view 0 i64c_len (by simp) rfl).1
  have cl := copyN_len n
  have hsl : sc.len = n := by rw [W.len, cl]
  rw [hsl]
  refine F_law10_into.is (by omega) (by omega) ?_
  have m0 := Int.emod_nonneg place (show (n : Int) ≠ 0 by omega)
  have m1 := Int.emod_lt_of_pos place (show (0 : Int) < (n : Int) by omega)
  obtain ⟨nd, hnd⟩ : ∃ c, (copyN n)[(place % (n : Int)).toNat]? = some c := ⟨_, List.getElem?_eq_getElem (by omega)⟩
  refine W.i6 m0 hnd ?_
  refine O.al fun a12 h O => ?_
  have O : Sat h0 h (own a12 (([] : List Int).flatMap i64c ++ []) :: buf 1 i64c sc (copyN n) :: L) := O
  have O := O.own_buf (k := 0) (sz := 1) (by simp)
  have O : Sat h0 h (buf 1 i64c ⟨some (pt a12 0), 0, 0⟩ [] :: buf 1 i64c sc (copyN n) :: L) := O.bufsI
  have W2 := (O.view 1 i64c_len (by simp) rfl).1
  refine O.app_buf i64c_len i64c_one rfl (ys := copyN n) (by rw [cl]) (by have := W2.rd i64c_len; rw [hsl] at this; exact this) (by simp; omega) fun s14 h O _ => ?_
  rw [List.nil_append] at O
  refine Sat.push_buf (enc := i64c) O (-7 : Int) rfl i64c_len i64c_one rfl (by omega) fun s18 h O hs18 => ?_
  have W3 := (O.view 0 i64c_len (by simp) rfl)
  have hs : s18.len = n + 1 := by rw [hs18, cl]
  refine ⟨by omega, by have := W3.2; omega, ?_⟩
  have tk : ∀ {h : Heap} {L : List Res}, Sat h0 h (buf 1 i64c s18 (copyN n ++ [-7]) :: L) → View h 1 (En i64c) ⟨s18.ptr, (n : Int).toNat, s18.cap⟩ (copyN n) := by
    intro h L O
    have := (O.view 0 i64c_len (by simp) rfl).1.take n s18.cap (by simp [cl])
    have e : (copyN n ++ [(-7 : Int)]).take n = copyN n := by rw [List.take_append_of_le_length (by omega), List.take_of_length_le (by omega)]
    rw [e] at this
    rw [Int.toNat_natCast]
    exact this
  refine F_quorum_New.is (cop := copyN n) (fun h O => tk O) (by omega) O fun p h O => ?_
  refine F_ref10_New.is (cop := copyN n) (fun h O => (O.view 2 i64c_len (by simp) rfl).1) (by omega) O fun r h O => ?_
  refine O.al fun t h O => ?_
  have O : Sat h0 h (buf 1 i64c s18 (copyN n ++ [-7]) :: own t [.pointer (some (pt p 0)), .pointer (some (pt r 0)), .int .i64 nd, .int .i64 shard, .slice sc.ptr n sc.cap, .pointer (some (pt bk 0)), .bool mark, .slice none 0 0, .slice none 0 0, .int .i64 0] :: quR p (QS.fresh nd shard (copyN n)) :: rfR r (QS.fresh nd shard (copyN n)) :: buf 1 i64c sc (copyN n) :: L) := O.sel [3, 0, 2, 1, 4] 5 rfl (Nat.le_add_left _ _)
  refine jn1 (fun z h' => z = false ∧ h' = h) ?_ ?_
  case refine_2 =>
    intro j hj
    refine ⟨_, rfl, ?_⟩
    refine O.ld 1 rfl (ldL_c (ldL_n ?_))
    refine brr_ff rfl ?_
    have W4 := (O.view 0 i64c_len (by simp) rfl).1
    refine W4.i6 (x := -7) (by omega) (by rw [Int.toNat_natCast, List.getElem?_append_right (by omega), cl]; simp) ?_
    refine brr_ff rfl ?_
    refine ⟨by omega, by have := (O.view 0 i64c_len (by simp) rfl).2; omega, ?_⟩
    refine F_ref0_EqInts.is (tk O) (O.view 4 i64c_len (by simp) rfl).1 (by omega) ?_
    exact hj _ _ ⟨rfl, rfl⟩
  rintro z h' ⟨rfl, rfl⟩
  refine brr_ff rfl ?_
  refine jn0 (fun h' => Sat h0 h' (own t [.pointer (some (pt p 0)), .pointer (some (pt r 0)), .int .i64 nd, .int .i64 shard, .slice sc.ptr n sc.cap, .pointer (some (pt bk 0)), .bool mark, .slice none 0 0, .slice none 0 0, .int .i64 0] :: quR p (QS.fresh nd shard (copyN n)) :: rfR r (QS.fresh nd shard (copyN n)) :: buf 1 i64c sc (copyN n) :: L)) ?_ ?_
  · clear O
    intro h O
    have Op : Sat h0 h (plR2 ⟨none, 0, 0⟩ ⟨none, 0, 0⟩ :: _) := Sat.exI ([], []) (Sat.prI (by simp) (((O.none (f := bufE)).nil_buf (sz := 1) (enc := slc)).sepI.nil_buf (sz := 1) (enc := slc)).sepI)
    refine k ⟨t, QS.fresh nd shard (copyN n), 0⟩ h ⟨inv_fresh (by omega), by show (copyN n).length ≤ 7; omega, fun e => by have := congrArg List.length (show copyN n = [] from e); rw [cl] at this; simp at this; omega, Int.le_refl _, Int.le_refl _⟩ ?_
    refine Sat.playI ⟨t, QS.fresh nd shard (copyN n), 0⟩ ⟨p, r, sc, ⟨none, 0, 0⟩, ⟨none, 0, 0⟩⟩ ?_
    have O2 : Sat h0 h (own t [.pointer (some (pt p 0)), .pointer (some (pt r 0)), .int .i64 nd, .int .i64 shard, .slice sc.ptr sc.len sc.cap, .pointer (some (pt bk 0)), .bool mark, .slice none 0 0, .slice none 0 0, .int .i64 0] :: quR p (QS.fresh nd shard (copyN n)) :: rfR r (QS.fresh nd shard (copyN n)) :: buf 1 i64c sc (copyN n) :: plR2 ⟨none, 0, 0⟩ ⟨none, 0, 0⟩ :: L) := by rw [hsl]; exact Op.sel [1, 2, 3, 4, 0] 5 rfl (Nat.le_add_left _ _)
    exact O2
  intro j hj
  rw [F_law10_begin.l1.eq_1]
  refine wl1 (k := .int .i64) (fun (m : Nat) (i : Int) (h' : Heap) => i + m = n + 1 ∧ 0 ≤ i ∧ ∃ zs : List Int, zs.length = n + 1 ∧ Sat h0 h' (buf 1 i64c s18 zs :: own t [.pointer (some (pt p 0)), .pointer (some (pt r 0)), .int .i64 nd, .int .i64 shard, .slice sc.ptr n sc.cap, .pointer (some (pt bk 0)), .bool mark, .slice none 0 0, .slice none 0 0, .int .i64 0] :: quR p (QS.fresh nd shard (copyN n)) :: rfR r (QS.fresh nd shard (copyN n)) :: buf 1 i64c sc (copyN n) :: L)) ?_ (m := n + 1) ⟨by omega, by omega, _, by simp [cl], O⟩
  clear O
  rintro m (i : Int) h next hnx ⟨him, hi0, zs, hz, O⟩
  rw [hs]
  refine brr_p (fun hlt => ?_) (fun hlt => hj _ O.drop)
  refine O.put1 i64c_len i64c_one hi0 (by omega) (-9 : Int) rfl fun h O => ?_
  rw [wrap64 (by omega) (by omega)]
  exact hnx (m - 1) _ _ (by omega) ⟨by omega, by omega, _, by simp [hz], O⟩
theorem F_law10_Play_looks.is {Q : Bool → Heap → Prop} (K : BkOk h0 bk mark B) (hT : T ≤ 10000000) (iv : x.q.Inv) (O : Sat h0 h (playR bk mark x :: B T :: L)) (k : ∀ h', Sat h0 h' (playR bk mark x :: B (T + 2) :: L) → Q true h') : F_law10_Play_looks (some (pt x.t 0)) h Q := by
  rw [F_law10_Play_looks.eq_1, F_law10_Play_looks_of.eq_1]
  obtain ⟨y, O⟩ := O.play
  have hw := iv.ok.w
  refine ⟨_, rfl, ?_⟩
  refine O.ld 0 rfl (ldL_c (ldL_n ?_))
  refine F_quorum_Quorum_Chosen.is iv.ok (O.sel [1, 0, 2, 3, 4, 5] 6 rfl (Nat.le_add_left _ _)) fun s1 h O => ?_
  refine O.al fun a8 h O => ?_
  refine O.st 0 rfl (by simp) rfl fun h O => ?_
  dsimp only [V.put, List.set] at O
  refine ⟨_, rfl, ?_⟩
  refine O.ld 3 rfl (ldL_c (ldL_n ?_))
  refine F_quorum_Quorum_Chosen.is iv.ok (O.sel [2, 0, 1, 3, 4, 5, 6, 7] 8 rfl (Nat.le_add_left _ _)) fun s2 h O => ?_
  refine O.al fun a17 h O => ?_
  refine O.st 0 rfl (by simp) rfl fun h O => ?_
  dsimp only [V.put, List.set] at O
  have O : Sat h0 h (quR y.p x.q :: own a17 [.int .u64 x.q.chosen.1, .int .u64 x.q.chosen.2] :: buf 1 u8 s2 x.q.what :: own a8 [.int .u64 x.q.chosen.1, .int .u64 x.q.chosen.2] :: buf 1 u8 s1 x.q.what :: own x.t [.pointer (some (pt y.p 0)), .pointer (some (pt y.r 0)), .int .i64 x.q.node, .int .i64 x.q.shard, .slice y.sc.ptr y.sc.len y.sc.cap, .pointer (some (pt bk 0)), .bool mark, .slice y.so.ptr y.so.len y.so.cap, .slice y.si.ptr y.si.len y.si.cap, .int .i64 x.tn] :: rfR y.r x.q :: buf 1 i64c y.sc x.q.cop :: plR2 y.so y.si :: B T :: L) := O.sel [2, 0, 1, 3, 4, 5, 6, 7, 8, 9] 10 rfl (Nat.le_add_left _ _)
  refine ⟨_, rfl, ?_⟩
  refine O.ld 5 rfl (ldL_c (ldL_n ?_))
  refine F_quorum_Quorum_Round.is O ?_
  have REF : ∀ {h : Heap} {L : List Res}, Sat h0 h (rfR y.r x.q :: L) → ∃ a : RA, Sat h0 h (own y.r [.int .i64 x.q.node, .int .i64 x.q.shard, .slice a.sc.ptr a.sc.len a.sc.cap, .int .i64 x.q.phase, .int .u64 x.q.epoch, .slice a.sp.ptr a.sp.len a.sp.cap, .int .u64 x.q.tag.1, .int .u64 x.q.tag.2, .slice a.sv.ptr a.sv.len a.sv.cap, .slice a.sw.ptr a.sw.len a.sw.cap, .slice a.sr.ptr a.sr.len a.sr.cap, .bool a.any, .int .u64 x.q.chosen.1, .int .u64 x.q.chosen.2, .slice a.sh.ptr a.sh.len a.sh.cap, .int .u64 x.q.begun, .int .u64 x.q.done, .slice a.sb.ptr a.sb.len a.sb.cap, .int .u64 x.q.seen] :: L) ∧ Sat h0 h (own y.r [.int .i64 x.q.node, .int .i64 x.q.shard, .slice a.sc.ptr a.sc.len a.sc.cap, .int .i64 x.q.phase, .int .u64 x.q.epoch, .slice a.sp.ptr a.sp.len a.sp.cap, .int .u64 x.q.tag.1, .int .u64 x.q.tag.2, .slice a.sv.ptr a.sv.len a.sv.cap, .slice a.sw.ptr a.sw.len a.sw.cap, .slice a.sr.ptr a.sr.len a.sr.cap, .bool a.any, .int .u64 x.q.chosen.1, .int .u64 x.q.chosen.2, .slice a.sh.ptr a.sh.len a.sh.cap, .int .u64 x.q.begun, .int .u64 x.q.done, .slice a.sb.ptr a.sb.len a.sb.cap, .int .u64 x.q.seen] :: poolR (refP x.q a) :: L) := by
    intro h L O
    obtain ⟨a, ep, O⟩ := O.rf
    exact ⟨a, O.sel [0] 7 rfl (Nat.le_add_left _ _), O.sel [0, 6] 7 rfl (Nat.le_add_left _ _)⟩
  obtain ⟨a, O1, O2⟩ := REF (O.sel [6, 0, 1, 2, 3, 4, 5] 7 rfl (Nat.le_add_left _ _))
  have O1 : Sat h0 h (own y.r [.int .i64 x.q.node, .int .i64 x.q.shard, .slice a.sc.ptr a.sc.len a.sc.cap, .int .i64 x.q.phase, .int .u64 x.q.epoch, .slice a.sp.ptr a.sp.len a.sp.cap, .int .u64 x.q.tag.1, .int .u64 x.q.tag.2, .slice a.sv.ptr a.sv.len a.sv.cap, .slice a.sw.ptr a.sw.len a.sw.cap, .slice a.sr.ptr a.sr.len a.sr.cap, .bool a.any, .int .u64 x.q.chosen.1, .int .u64 x.q.chosen.2, .slice a.sh.ptr a.sh.len a.sh.cap, .int .u64 x.q.begun, .int .u64 x.q.done, .slice a.sb.ptr a.sb.len a.sb.cap, .int .u64 x.q.seen] :: quR y.p x.q :: own a17 [.int .u64 x.q.chosen.1, .int .u64 x.q.chosen.2] :: buf 1 u8 s2 x.q.what :: own a8 [.int .u64 x.q.chosen.1, .int .u64 x.q.chosen.2] :: buf 1 u8 s1 x.q.what :: own x.t [.pointer (some (pt y.p 0)), .pointer (some (pt y.r 0)), .int .i64 x.q.node, .int .i64 x.q.shard, .slice y.sc.ptr y.sc.len y.sc.cap, .pointer (some (pt bk 0)), .bool mark, .slice y.so.ptr y.so.len y.so.cap, .slice y.si.ptr y.si.len y.si.cap, .int .i64 x.tn] :: _) := O1
  have Oq : Sat h0 h (quR y.p x.q :: _) := O1.sel [1, 0, 2, 3, 4, 5, 6] 7 rfl (Nat.le_add_left _ _)
  have Vr := pool_view O2 1 (by simp) rfl (e := (a.sh, x.q.what)) (by simp [refP])
  have V1 := (O1.view 5 u8_len (by simp) rfl).1
  have V2 := (O1.view 3 u8_len (by simp) rfl).1
  refine jn1 (fun z h' => z = true ∧ h' = h) ?_ ?_
  case refine_2 =>
    intro j hj
    refine ⟨_, rfl, ?_⟩
    refine O1.ld 6 rfl (ldL_c (ldL_n ?_))
    refine ⟨_, rfl, ?_⟩
    refine O1.ld 6 rfl (ldL_c (ldL_n ?_))
    refine ⟨_, rfl, ?_⟩
    refine O1.ld 0 rfl (ldL_c (ldL_n ?_))
    refine F_quorum_Quorum_Phase.is Oq ?_
    refine O1.ca 6 1 rfl ?_
    refine O1.ca 0 1 rfl ?_
    refine brr_tt (by simp) ?_
    refine ⟨_, rfl, ?_⟩
    refine O1.ld 6 rfl (ldL_c (ldL_n ?_))
    refine ⟨_, rfl, ?_⟩
    refine O1.ld 6 rfl (ldL_c (ldL_n ?_))
    refine ⟨_, rfl, ?_⟩
    refine O1.ld 0 rfl (ldL_c (ldL_n ?_))
    refine F_quorum_Quorum_Epoch.is Oq ?_
    refine O1.ca 6 1 rfl ?_
    refine O1.ca 0 1 rfl ?_
    refine brr_tt (by simp) ?_
    refine ⟨_, rfl, ?_⟩
    refine O1.ld 6 rfl (ldL_c (ldL_n ?_))
    refine ⟨_, rfl, ?_⟩
    refine O1.ld 6 rfl (ldL_c (ldL_n ?_))
    refine ⟨_, rfl, ?_⟩
    refine O1.ld 0 rfl (ldL_c (ldL_n ?_))
    refine F_quorum_Quorum_Seen.is Oq ?_
    refine O1.ca 6 1 rfl ?_
    refine O1.ca 0 1 rfl ?_
    refine brr_tt (by simp) ?_
    refine ⟨_, rfl, ?_⟩
    refine O1.ld 6 rfl (ldL_c (ldL_n ?_))
    refine ⟨_, rfl, ?_⟩
    refine O1.ld 6 rfl (ldL_c (ldL_n ?_))
    refine F_quorum_Quorum_Holds.is Oq ?_
    refine O1.ca 6 1 rfl ?_
    refine F_ref10_Quorum_Holds.is (q := x.q) (a := a) O1 ?_
    refine brr_tt (by simp) ?_
    refine O1.ld 4 rfl (ldL_c (ldL_c (ldL_n ?_)))
    refine ⟨_, rfl, ?_⟩
    refine O1.ld 6 rfl (ldL_c (ldL_n ?_))
    refine ⟨_, rfl, ?_⟩
    refine O1.ld 0 rfl (ldL_c (ldL_c (ldL_n ?_)))
    refine brr_tt (by simp) ?_
    refine ⟨_, rfl, ?_⟩
    refine O1.ld 6 rfl (ldL_c (ldL_n ?_))
    refine ⟨_, rfl, ?_⟩
    refine O1.ld 0 rfl (ldL_c (k := .sl) (x := a.sh) (ldL_n ?_))
    refine F_ref0_Eq.is (ys := x.q.what) V1 Vr (by omega) (by omega) ?_
    refine brr_tt (by simp) ?_
    refine ⟨_, rfl, ?_⟩
    refine O1.ld 6 rfl (ldL_c (ldL_n ?_))
    refine ⟨_, rfl, ?_⟩
    refine O1.ld 0 rfl (ldL_c (ldL_n ?_))
    refine brr_tt (by simp) ?_
    refine ⟨_, rfl, ?_⟩
    refine O1.ld 6 rfl (ldL_c (ldL_n ?_))
    refine ⟨_, rfl, ?_⟩
    refine O1.ld 0 rfl (ldL_c (ldL_n ?_))
    exact hj _ _ ⟨by simp, rfl⟩
  clear REF O1 O2 Oq Vr V1 V2
  rintro z h' ⟨rfl, rfl⟩
  refine ⟨_, rfl, ?_⟩
  refine O.ld 5 rfl (ldL_c (ldL_n ?_))
  refine jn0 (fun h' => Sat h0 h' (quR y.p x.q :: own a17 [.int .u64 x.q.chosen.1, .int .u64 x.q.chosen.2] :: buf 1 u8 s2 x.q.what :: own a8 [.int .u64 x.q.chosen.1, .int .u64 x.q.chosen.2] :: own x.t [.pointer (some (pt y.p 0)), .pointer (some (pt y.r 0)), .int .i64 x.q.node, .int .i64 x.q.shard, .slice y.sc.ptr y.sc.len y.sc.cap, .pointer (some (pt bk 0)), .bool mark, .slice y.so.ptr y.so.len y.so.cap, .slice y.si.ptr y.si.len y.si.cap, .int .i64 x.tn] :: rfR y.r x.q :: buf 1 i64c y.sc x.q.cop :: plR2 y.so y.si :: B (T + 1) :: L)) ?_ ?_
  case refine_2 =>
    intro j hj
    refine brr_of (fun hm => ?_) (fun hm => ?_)
    · refine ⟨_, rfl, ?_⟩
      refine O.ld 5 rfl (ldL_c (ldL_n ?_))
      refine K.bytes hm (by omega) hw (O.sel [4, 9, 0, 1, 2, 3, 5, 6, 7, 8] 10 rfl (Nat.le_add_left _ _)) fun h O => hj _ ?_
      exact O.sel [1, 2, 3, 4, 5, 6, 7, 8, 0] 9 rfl (Nat.le_add_left _ _)
    · have O2 := K.up (T' := T + 1) (by omega) (O.sel [9, 0, 1, 2, 3, 5, 6, 7, 8] 10 rfl (Nat.le_add_left _ _))
      exact hj _ (O2.sel [1, 2, 3, 4, 5, 6, 7, 8, 0] 9 rfl (Nat.le_add_left _ _))
  clear O
  intro h O
  refine jn1 (fun z h' => z = true ∧ h' = h) ?_ ?_
  case refine_2 =>
    intro j hj
    refine brr_tt rfl ?_
    refine O.ld 1 rfl (ldL_c (ldL_c (ldL_n ?_)))
    refine O.ld 3 rfl (ldL_c (ldL_c (ldL_n ?_)))
    refine brr_tt (by simp) ?_
    refine ⟨_, rfl, ?_⟩
    refine O.ld 4 rfl (ldL_c (ldL_n ?_))
    refine ⟨_, rfl, ?_⟩
    obtain ⟨a, ep, O2⟩ := (O.sel [5, 2] 9 rfl (Nat.le_add_left _ _)).rf
    refine O2.ld 0 rfl (ldL_c (k := .sl) (x := a.sh) (ldL_n ?_))
    have Vr := pool_view O2 6 (by simp) rfl (e := (a.sh, x.q.what)) (by simp [refP])
    refine F_ref0_Eq.is (ys := x.q.what) (O2.view 7 u8_len (by simp) rfl).1 Vr (by omega) (by omega) ?_
    exact hj _ _ ⟨by simp, rfl⟩
  rintro z h' ⟨rfl, rfl⟩
  refine ⟨_, rfl, ?_⟩
  refine O.ld 4 rfl (ldL_c (ldL_n ?_))
  refine jn0 (fun h' => Sat h0 h' (playR bk mark x :: B (T + 2) :: L)) (fun h O => k h O) fun j hj => ?_
  refine brr_of (fun hm => ?_) (fun hm => ?_)
  · refine ⟨_, rfl, ?_⟩
    refine O.ld 4 rfl (ldL_c (ldL_n ?_))
    refine K.bytes hm (by omega) hw (O.sel [2, 8, 0, 4, 5, 6, 7] 9 rfl (Nat.le_add_left _ _)) fun h O => hj _ ?_
    exact Sat.playI x y (O.sel [2, 1, 3, 4, 5, 0] 6 rfl (Nat.le_add_left _ _))
  · have O2 := K.up (T' := T + 2) (by omega) (O.sel [8, 0, 4, 5, 6, 7] 9 rfl (Nat.le_add_left _ _))
    exact hj _ (Sat.playI x y (O2.sel [2, 1, 3, 4, 5, 0] 6 rfl (Nat.le_add_left _ _)))
end
end Go.Proofs.YtigcpkejjjgkeaaGreat.V
/- A step of a play. -/
namespace Go.Proofs.YtigcpkejjjgkeaaGreat.V
open Go Go.RowKit
set_option linter.unusedVariables false
set_option linter.unusedSimpArgs false

section
variable {h0 h : Heap} {L : List Res} {bk : Nat} {mark : Bool} {x : PX} {B : Nat → Res} {T : Nat} {q : QS} {m : Mg}
theorem start_cop {e te ts span : Int} {b : List UInt8} : (q.start e te ts b span).1.cop = q.cop ∧ (q.start e te ts b span).1.node = q.node ∧ (q.start e te ts b span).1.shard = q.shard := by unfold QS.start; split <;> exact ⟨rfl, rfl, rfl⟩
theorem start_len {e te ts span : Int} {b : List UInt8} : (q.start e te ts b span).2.length ≤ q.cop.length := by unfold QS.start; split <;> exact send_len
theorem promise_cop {span : Int} : (q.promise m span).1.cop = q.cop ∧ (q.promise m span).1.node = q.node ∧ (q.promise m span).1.shard = q.shard ∧ (q.promise m span).2.length ≤ q.cop.length := by
  obtain ⟨e1, e2, e3, _⟩ := prom_same (q := q) (m := m)
  unfold QS.promise
  split
  · exact ⟨rfl, rfl, rfl, Nat.zero_le _⟩
  split
  · exact ⟨e3, e1, e2, by rw [← e3]; exact send_len⟩
  · exact ⟨e3, e1, e2, Nat.zero_le _⟩
theorem hear_cop {span : Int} : (q.hear m span).1.cop = q.cop ∧ (q.hear m span).1.node = q.node ∧ (q.hear m span).1.shard = q.shard ∧ (q.hear m span).2.length ≤ q.cop.length := by
  unfold QS.hear
  split
  · exact ⟨rfl, rfl, rfl, Nat.zero_le _⟩
  split
  · exact promise_cop
  split
  · unfold QS.stored
    refine ⟨?_, ?_, ?_, Nat.zero_le _⟩ <;> (split <;> first | rfl | (split <;> rfl))
  split
  · unfold QS.refuse
    refine ⟨?_, ?_, ?_, Nat.zero_le _⟩ <;> (split <;> first | rfl | (split <;> rfl))
  split
  · unfold QS.beat
    refine ⟨?_, ?_, ?_, Nat.zero_le _⟩ <;> (split <;> first | rfl | (split <;> rfl))
  · exact ⟨rfl, rfl, rfl, Nat.zero_le _⟩
theorem propose_cop {b : List UInt8} {span : Int} : (q.propose b span).1.cop = q.cop ∧ (q.propose b span).1.node = q.node ∧ (q.propose b span).1.shard = q.shard ∧ (q.propose b span).2.1.length ≤ q.cop.length := by
  unfold QS.propose
  split
  · exact ⟨rfl, rfl, rfl, Nat.zero_le _⟩
  · exact ⟨rfl, rfl, rfl, send_len (q := ({ q with val := b } : QS).wrt (q.tag.2 + 1))⟩
theorem tick_cop {span : Int} : (q.tick span).1.cop = q.cop ∧ (q.tick span).1.node = q.node ∧ (q.tick span).1.shard = q.shard ∧ (q.tick span).2.length ≤ 2 * q.cop.length := by
  have h1 := tick0_len (q := q) (span := span)
  have h2 : (q.beats span).length ≤ q.cop.length := send_len
  have h3 : (q.rise.beats span).length ≤ q.cop.length := send_len (q := q.rise)
  unfold QS.tick
  split
  · exact ⟨rfl, rfl, rfl, by show (q.tick0 span).length ≤ _; omega⟩
  split
  · split
    · exact ⟨rfl, rfl, rfl, by show (q.tick0 span).length ≤ _; omega⟩
    · exact ⟨rfl, rfl, rfl, by rw [List.length_append]; omega⟩
  · exact ⟨rfl, rfl, rfl, by rw [List.length_append]; omega⟩
theorem gv_at {so si s : Sl} {b : List UInt8} {tn : Int} (O : Sat h0 h L) (i : Nat) (hi : i < L.length) (e : nth i L = gvR so si s b tn) : Bytes h s b := by
  obtain ⟨E1, E2, h1, O', _⟩ := O.at i hi
  rw [e] at h1
  exact gv_view (L := []) ⟨E1, ⟨E1, [], by rw [List.append_nil], h1, rfl⟩, O'.sub (List.sublist_append_left E1 E2)⟩
theorem F_law10_Play_plays.is {o : QOp} {n : Int} {Q : Bool → Heap → Prop} (K : BkOk h0 bk mark B) (hT : T ≤ 10000000) (xo : x.Ok n) (hn : n ≤ 900000) (oo : o.Ok h0) (O : Sat h0 h (playR bk mark x :: B T :: L))
    (k : ∀ (x2 : PX) h', x2.t = x.t → x2.Ok (n + 1) → Sat h0 h' (playR bk mark x2 :: B (T + 20) :: L) → Q true h') : F_law10_Play_plays (some (pt x.t 0)) o.kind o.which o.epoch o.o1 o.te o.ts o.ov o.span (o.m).kind (o.m).frm (o.m).to (o.m).shard (o.m).epoch (o.m).te (o.m).ts (o.m).round (o.m).span (o.m).seen (o.m).v (o.m).peer (o.m).num (o.m).name (o.m).other (o.m).amount (o.m).life (o.m).id (o.m).op (o.m).client (o.m).state (o.m).bad o.aim o.v h Q := by
  rw [F_law10_Play_plays.eq_1, F_law10_Play_plays_of.eq_1]
  have ok := xo.iv.ok
  have hc7 := xo.c
  have htn0 := xo.t0
  have htn1 := xo.t1
  refine O.al fun a34 h O => ?_
  have O : Sat h0 h (own a34 (qopC o) :: playR bk mark x :: B T :: L) := O
  refine O.ld 0 rfl (ldL_c (ldL_n ?_))
  refine brr_eq (fun k1 => ?_) (fun k1 => ?_)
  · refine O.ld 0 rfl (ldL_c (ldL_c (ldL_c (ldL_c (k := .sl) (x := o.ov) (ldL_n ?_)))))
    refine O.al fun a41 h O => ?_
    refine O.st 0 rfl (by simp) rfl fun h O => ?_
    dsimp only [V.put, List.set] at O
    refine O.ld 1 rfl (ldL_c (k := .sl) (x := o.ov) (ldL_n ?_))
    obtain ⟨y, O⟩ := (O.sel [2, 0, 1, 3] 4 rfl (Nat.le_add_left _ _)).play
    have O : Sat h0 h (own x.t [.pointer (some (pt y.p 0)), .pointer (some (pt y.r 0)), .int .i64 x.q.node, .int .i64 x.q.shard, .slice y.sc.ptr y.sc.len y.sc.cap, .pointer (some (pt bk 0)), .bool mark, .slice y.so.ptr y.so.len y.so.cap, .slice y.si.ptr y.si.len y.si.cap, .int .i64 x.tn] :: quR y.p x.q :: rfR y.r x.q :: buf 1 i64c y.sc x.q.cop :: plR2 y.so y.si :: own a41 [.int .u64 o.o1, .int .u64 o.te, .int .u64 o.ts, .slice o.ov.ptr o.ov.len o.ov.cap] :: own a34 (qopC o) :: B T :: L) := O
    refine F_law10_Play_given.is htn0 (by omega) oo.ob (fun h O => oo.ov.kept O.kept) (O.sel [0, 4, 1, 2, 3, 5, 6, 7] 8 rfl (Nat.le_add_left _ _)) fun so si s h O => ?_
    have O : Sat h0 h (own x.t [.pointer (some (pt y.p 0)), .pointer (some (pt y.r 0)), .int .i64 x.q.node, .int .i64 x.q.shard, .slice y.sc.ptr y.sc.len y.sc.cap, .pointer (some (pt bk 0)), .bool mark, .slice so.ptr so.len so.cap, .slice si.ptr si.len si.cap, .int .i64 (x.tn + 1)] :: gvR so si s o.ob (x.tn + 1) :: quR y.p x.q :: rfR y.r x.q :: buf 1 i64c y.sc x.q.cop :: own a41 [.int .u64 o.o1, .int .u64 o.te, .int .u64 o.ts, .slice o.ov.ptr o.ov.len o.ov.cap] :: own a34 (qopC o) :: B T :: L) := O
    refine st_ad (b := a41) (o := 3) rfl ?_
    refine O.st 5 rfl (by simp) rfl fun h O => ?_
    dsimp only [V.put, List.set] at O
    refine ⟨_, rfl, ?_⟩
    refine O.ld 0 rfl (ldL_c (ldL_n ?_))
    refine O.ld 6 rfl (ldL_c (ldL_n ?_))
    refine O.ld 5 rfl (ldL_c (ldL_c (ldL_c (ldL_c (k := .sl) (x := s) (ldL_n ?_)))))
    refine O.ld 6 rfl (ldL_c (ldL_n ?_))
    have sb := start_b (e := o.epoch) (te := o.te) (ts := o.ts) (span := o.span) ok oo.ob
    have sl := start_len (q := x.q) (e := o.epoch) (te := o.te) (ts := o.ts) (span := o.span) (b := o.ob)
    have sc := start_cop (q := x.q) (e := o.epoch) (te := o.te) (ts := o.ts) (span := o.span) (b := o.ob)
    have si2 := inv_start (e := o.epoch) (te := o.te) (ts := o.ts) (span := o.span) ok oo.ob
    refine F_quorum_Quorum_Start.is ok oo.ob (fun h O => gv_at O 1 (by simp) rfl) (O.sel [2, 0, 1, 3, 4, 5, 6, 7] 8 rfl (Nat.le_add_left _ _)) fun s1 h O => ?_
    refine O.ld 6 rfl (ldL_c (k := .sl) (x := s) (ldL_n ?_))
    refine O.ld 7 rfl (ldL_c (k := .sl) (x := o.ov) (ldL_n ?_))
    refine F_law10_Play_kept.is (by omega) oo.ob (fun h O => oo.ov.kept O.kept) (O.sel [2, 3, 0, 1, 4, 5, 7, 8] 9 rfl (Nat.le_add_left _ _)) fun h O => ?_
    refine jn_go ?_
    refine brr_tt rfl ?_
    refine ⟨_, rfl, ?_⟩
    refine O.ld 0 rfl (ldL_c (ldL_n ?_))
    refine O.ld 6 rfl (ldL_c (ldL_n ?_))
    refine O.ld 6 rfl (ldL_c (ldL_c (ldL_c (ldL_c (k := .sl) (x := o.ov) (ldL_n ?_)))))
    refine O.ld 6 rfl (ldL_c (ldL_n ?_))
    refine F_ref10_Quorum_Start.is ok oo.ob (fun h O => oo.ov.kept O.kept) (O.sel [4, 0, 1, 2, 3, 5, 7] 8 rfl (Nat.le_add_left _ _)) fun s2 h O => ?_
    -- ms2, rf, PN, pl, ms1, qu, buf, B
    refine F_law10_Play_told.is K (by omega) (by omega) sb.1 (O.sel [4, 0, 2, 7, 1, 3, 5, 6] 8 rfl (Nat.le_add_left _ _)) fun h O => ?_
    -- PN, B, rf, pl, qu, buf
    refine k ⟨x.t, (x.q.start o.epoch o.te o.ts o.ob o.span).1, x.tn + 1⟩ h rfl ⟨si2, by show (x.q.start _ _ _ _ _).1.cop.length ≤ 7; rw [sc.1]; exact hc7, by show (x.q.start _ _ _ _ _).1.cop ≠ []; rw [sc.1]; exact xo.c0, by show 0 ≤ x.tn + 1; omega, by show x.tn + 1 ≤ n + 1; omega⟩ ?_
    refine Sat.playI _ ⟨y.p, y.r, y.sc, so, si⟩ ?_
    show Sat h0 h (own x.t [.pointer (some (pt y.p 0)), .pointer (some (pt y.r 0)), .int .i64 (x.q.start o.epoch o.te o.ts o.ob o.span).1.node, .int .i64 (x.q.start o.epoch o.te o.ts o.ob o.span).1.shard, .slice y.sc.ptr y.sc.len y.sc.cap, .pointer (some (pt bk 0)), .bool mark, .slice so.ptr so.len so.cap, .slice si.ptr si.len si.cap, .int .i64 (x.tn + 1)] :: quR y.p (x.q.start o.epoch o.te o.ts o.ob o.span).1 :: rfR y.r (x.q.start o.epoch o.te o.ts o.ob o.span).1 :: buf 1 i64c y.sc (x.q.start o.epoch o.te o.ts o.ob o.span).1.cop :: plR2 so si :: B (T + 20) :: L)
    rw [sc.1, sc.2.1, sc.2.2]
    exact O.sel [0, 4, 2, 5, 3, 1] 6 rfl (Nat.le_add_left _ _)
  refine brr_eq (fun k2 => ?_) (fun k2 => ?_)
  · refine O.ld 0 rfl ?_
    unfold qopC
    repeat (first | (with_reducible refine ldL_n ?_) | refine ldL_s ?_ | refine ldL_c ?_)
    obtain ⟨y, O⟩ := (O.sel [1, 0, 2] 3 rfl (Nat.le_add_left _ _)).play
    have O : Sat h0 h (own x.t [.pointer (some (pt y.p 0)), .pointer (some (pt y.r 0)), .int .i64 x.q.node, .int .i64 x.q.shard, .slice y.sc.ptr y.sc.len y.sc.cap, .pointer (some (pt bk 0)), .bool mark, .slice y.so.ptr y.so.len y.so.cap, .slice y.si.ptr y.si.len y.si.cap, .int .i64 x.tn] :: quR y.p x.q :: rfR y.r x.q :: buf 1 i64c y.sc x.q.cop :: plR2 y.so y.si :: own a34 (qopC o) :: B T :: L) := O
    refine play_message.is (o := o) xo.c0 (by omega) (O.sel [0, 3, 1, 2, 4, 5, 6] 7 rfl (Nat.le_add_left _ _)) fun m2 h ev eb O => ?_
    have O : Sat h0 h (own x.t [.pointer (some (pt y.p 0)), .pointer (some (pt y.r 0)), .int .i64 x.q.node, .int .i64 x.q.shard, .slice y.sc.ptr y.sc.len y.sc.cap, .pointer (some (pt bk 0)), .bool mark, .slice y.so.ptr y.so.len y.so.cap, .slice y.si.ptr y.si.len y.si.cap, .int .i64 x.tn] :: buf 1 i64c y.sc x.q.cop :: quR y.p x.q :: rfR y.r x.q :: plR2 y.so y.si :: own a34 (qopC o) :: B T :: L) := O
    have mb : m2.b.length ≤ (140737488355325 : Nat) := by rw [eb]; exact oo.mb
    have mv : ∀ {h : Heap}, KeptH h0 h → Bytes h m2.v m2.b := fun hk => by rw [ev, eb]; exact oo.mv.kept hk
    refine O.al fun a132 h O => ?_
    refine O.st 0 rfl (by simp) rfl fun h O => ?_
    dsimp only [V.put, List.set] at O
    have O : Sat h0 h (own a132 (mgC m2) :: own x.t [.pointer (some (pt y.p 0)), .pointer (some (pt y.r 0)), .int .i64 x.q.node, .int .i64 x.q.shard, .slice y.sc.ptr y.sc.len y.sc.cap, .pointer (some (pt bk 0)), .bool mark, .slice y.so.ptr y.so.len y.so.cap, .slice y.si.ptr y.si.len y.si.cap, .int .i64 x.tn] :: buf 1 i64c y.sc x.q.cop :: quR y.p x.q :: rfR y.r x.q :: plR2 y.so y.si :: own a34 (qopC o) :: B T :: L) := O
    refine O.ld 0 rfl ?_
    unfold mgC
    repeat (first | (with_reducible refine ldL_n ?_) | refine ldL_s ?_ | refine ldL_c ?_)
    refine O.al fun a157 h O => ?_
    refine O.st 0 rfl (by simp) rfl fun h O => ?_
    dsimp only [V.put, List.set] at O
    have O : Sat h0 h (own a157 (mgC m2) :: own a132 (mgC m2) :: own x.t [.pointer (some (pt y.p 0)), .pointer (some (pt y.r 0)), .int .i64 x.q.node, .int .i64 x.q.shard, .slice y.sc.ptr y.sc.len y.sc.cap, .pointer (some (pt bk 0)), .bool mark, .slice y.so.ptr y.so.len y.so.cap, .slice y.si.ptr y.si.len y.si.cap, .int .i64 x.tn] :: buf 1 i64c y.sc x.q.cop :: quR y.p x.q :: rfR y.r x.q :: plR2 y.so y.si :: own a34 (qopC o) :: B T :: L) := O
    refine O.ld 1 rfl (ldL_c (k := .sl) (x := m2.v) (ldL_n ?_))
    refine F_law10_Play_given.is htn0 (by omega) mb (fun h O => mv O.kept) (O.sel [2, 6, 0, 1, 3, 4, 5, 7, 8] 9 rfl (Nat.le_add_left _ _)) fun so si s h O => ?_
    have O : Sat h0 h (own x.t [.pointer (some (pt y.p 0)), .pointer (some (pt y.r 0)), .int .i64 x.q.node, .int .i64 x.q.shard, .slice y.sc.ptr y.sc.len y.sc.cap, .pointer (some (pt bk 0)), .bool mark, .slice so.ptr so.len so.cap, .slice si.ptr si.len si.cap, .int .i64 (x.tn + 1)] :: gvR so si s m2.b (x.tn + 1) :: own a157 (mgC m2) :: own a132 (mgC m2) :: buf 1 i64c y.sc x.q.cop :: quR y.p x.q :: rfR y.r x.q :: own a34 (qopC o) :: B T :: L) := O
    unfold mgC at O
    refine st_ad (b := a157) (o := 10) rfl ?_
    refine O.st 2 rfl (by simp) rfl fun h O => ?_
    dsimp only [V.put, List.set] at O
    have O : Sat h0 h (own x.t [.pointer (some (pt y.p 0)), .pointer (some (pt y.r 0)), .int .i64 x.q.node, .int .i64 x.q.shard, .slice y.sc.ptr y.sc.len y.sc.cap, .pointer (some (pt bk 0)), .bool mark, .slice so.ptr so.len so.cap, .slice si.ptr si.len si.cap, .int .i64 (x.tn + 1)] :: gvR so si s m2.b (x.tn + 1) :: own a157 (mgC { m2 with v := s }) :: own a132 (mgC m2) :: buf 1 i64c y.sc x.q.cop :: quR y.p x.q :: rfR y.r x.q :: own a34 (qopC o) :: B T :: L) := O
    refine ⟨_, rfl, ?_⟩
    refine O.ld 0 rfl (ldL_c (ldL_n ?_))
    refine O.ld 2 rfl ?_
    unfold mgC
    repeat (first | (with_reducible refine ldL_n ?_) | refine ldL_s ?_ | refine ldL_c ?_)
    refine O.ld 7 rfl (ldL_c (ldL_n ?_))
    have sb := hear_b (span := o.span) ok mb
    have sc := hear_cop (q := x.q) (m := m2) (span := o.span)
    have si2 := inv_hear xo.iv mb o.span
    have hv : x.q.hear { m2 with v := s } o.span = x.q.hear m2 o.span := rfl
    refine F_quorum_Quorum_Hear.is (m := { m2 with v := s }) ok mb (fun h O => gv_at O 1 (by simp) rfl) (O.sel [5, 0, 1, 2, 3, 4, 6, 7, 8] 9 rfl (Nat.le_add_left _ _)) fun s1 h O => ?_
    rw [hv] at O
    -- ms1, qu, PN, gv, a157, a132, buf, rf, a34, B
    refine O.ld 4 rfl (ldL_c (k := .sl) (x := s) (ldL_n ?_))
    refine O.ld 5 rfl (ldL_c (k := .sl) (x := m2.v) (ldL_n ?_))
    refine F_law10_Play_kept.is (by omega) mb (fun h O => mv O.kept) (O.sel [2, 3, 0, 1, 5, 6, 7, 8, 9] 10 rfl (Nat.le_add_left _ _)) fun h O => ?_
    -- PN, pl, ms1, qu, a132, buf, rf, a34, B
    refine jn_go ?_
    refine brr_tt rfl ?_
    refine ⟨_, rfl, ?_⟩
    refine O.ld 0 rfl (ldL_c (ldL_n ?_))
    refine O.ld 4 rfl ?_
    unfold mgC
    repeat (first | (with_reducible refine ldL_n ?_) | refine ldL_s ?_ | refine ldL_c ?_)
    refine O.ld 7 rfl (ldL_c (ldL_n ?_))
    refine F_ref10_Quorum_Hear.is (m := m2) xo.iv mb (fun h O => mv O.kept) (O.sel [6, 0, 1, 2, 3, 5, 8] 9 rfl (Nat.le_add_left _ _)) fun s2 h O => ?_
    -- ms2, rf, PN, pl, ms1, qu, buf, B
    refine F_law10_Play_told.is K (by omega) (by omega) sb.1 (O.sel [4, 0, 2, 7, 1, 3, 5, 6] 8 rfl (Nat.le_add_left _ _)) fun h O => ?_
    -- PN, B, rf, pl, qu, buf
    refine k ⟨x.t, (x.q.hear m2 o.span).1, x.tn + 1⟩ h rfl ⟨si2, by show (x.q.hear _ _).1.cop.length ≤ 7; rw [sc.1]; exact hc7, by show (x.q.hear _ _).1.cop ≠ []; rw [sc.1]; exact xo.c0, by show 0 ≤ x.tn + 1; omega, by show x.tn + 1 ≤ n + 1; omega⟩ ?_
    refine Sat.playI _ ⟨y.p, y.r, y.sc, so, si⟩ ?_
    show Sat h0 h (own x.t [.pointer (some (pt y.p 0)), .pointer (some (pt y.r 0)), .int .i64 (x.q.hear m2 o.span).1.node, .int .i64 (x.q.hear m2 o.span).1.shard, .slice y.sc.ptr y.sc.len y.sc.cap, .pointer (some (pt bk 0)), .bool mark, .slice so.ptr so.len so.cap, .slice si.ptr si.len si.cap, .int .i64 (x.tn + 1)] :: quR y.p (x.q.hear m2 o.span).1 :: rfR y.r (x.q.hear m2 o.span).1 :: buf 1 i64c y.sc (x.q.hear m2 o.span).1.cop :: plR2 so si :: B (T + 20) :: L)
    rw [sc.1, sc.2.1, sc.2.2.1]
    exact O.sel [0, 4, 2, 5, 3, 1] 6 rfl (Nat.le_add_left _ _)
  refine brr_eq (fun k3 => ?_) (fun k3 => ?_)
  · refine O.ld 0 rfl (ldL_c (k := .sl) (x := o.v) (ldL_n ?_))
    obtain ⟨y, O⟩ := (O.sel [1, 0, 2] 3 rfl (Nat.le_add_left _ _)).play
    have O : Sat h0 h (own x.t [.pointer (some (pt y.p 0)), .pointer (some (pt y.r 0)), .int .i64 x.q.node, .int .i64 x.q.shard, .slice y.sc.ptr y.sc.len y.sc.cap, .pointer (some (pt bk 0)), .bool mark, .slice y.so.ptr y.so.len y.so.cap, .slice y.si.ptr y.si.len y.si.cap, .int .i64 x.tn] :: quR y.p x.q :: rfR y.r x.q :: buf 1 i64c y.sc x.q.cop :: plR2 y.so y.si :: own a34 (qopC o) :: B T :: L) := O
    refine F_law10_Play_given.is htn0 (by omega) oo.vb (fun h O => oo.v.kept O.kept) (O.sel [0, 4, 1, 2, 3, 5, 6] 7 rfl (Nat.le_add_left _ _)) fun so si s h O => ?_
    have O : Sat h0 h (own x.t [.pointer (some (pt y.p 0)), .pointer (some (pt y.r 0)), .int .i64 x.q.node, .int .i64 x.q.shard, .slice y.sc.ptr y.sc.len y.sc.cap, .pointer (some (pt bk 0)), .bool mark, .slice so.ptr so.len so.cap, .slice si.ptr si.len si.cap, .int .i64 (x.tn + 1)] :: gvR so si s o.vb (x.tn + 1) :: quR y.p x.q :: rfR y.r x.q :: buf 1 i64c y.sc x.q.cop :: own a34 (qopC o) :: B T :: L) := O
    refine ⟨_, rfl, ?_⟩
    refine O.ld 0 rfl (ldL_c (ldL_n ?_))
    refine O.ld 5 rfl (ldL_c (ldL_n ?_))
    have sb := propose_b (span := o.span) ok oo.vb
    have sc := propose_cop (q := x.q) (span := o.span) (b := o.vb)
    have si2 := inv_propose xo.iv oo.vb o.span
    refine F_quorum_Quorum_Propose.is ok oo.vb (fun h O => gv_at O 1 (by simp) rfl) (O.sel [2, 0, 1, 3, 4, 5, 6] 7 rfl (Nat.le_add_left _ _)) fun s1 h O => ?_
    -- ms1, qu, PN, gv, rf, buf, a34, B
    refine O.ld 6 rfl (ldL_c (k := .sl) (x := o.v) (ldL_n ?_))
    refine F_law10_Play_kept.is (by omega) oo.vb (fun h O => oo.v.kept O.kept) (O.sel [2, 3, 0, 1, 4, 5, 6, 7] 8 rfl (Nat.le_add_left _ _)) fun h O => ?_
    -- PN, pl, ms1, qu, rf, buf, a34, B
    refine ⟨_, rfl, ?_⟩
    refine O.ld 0 rfl (ldL_c (ldL_n ?_))
    refine O.ld 6 rfl (ldL_c (k := .sl) (x := o.v) (ldL_n ?_))
    refine O.ld 6 rfl (ldL_c (ldL_n ?_))
    refine F_ref10_Quorum_Propose.is xo.iv oo.vb (fun h O => oo.v.kept O.kept) (O.sel [4, 0, 1, 2, 3, 5, 7] 8 rfl (Nat.le_add_left _ _)) fun s2 h O => ?_
    -- ms2, rf, PN, pl, ms1, qu, buf, B
    refine jn_go ?_
    refine brr_tt rfl ?_
    refine brr_tt (by simp) ?_
    refine F_law10_Play_told.is K (by omega) (by omega) sb.1 (O.sel [4, 0, 2, 7, 1, 3, 5, 6] 8 rfl (Nat.le_add_left _ _)) fun h O => ?_
    -- PN, B, rf, pl, qu, buf
    refine k ⟨x.t, (x.q.propose o.vb o.span).1, x.tn + 1⟩ h rfl ⟨si2, by show (x.q.propose _ _).1.cop.length ≤ 7; rw [sc.1]; exact hc7, by show (x.q.propose _ _).1.cop ≠ []; rw [sc.1]; exact xo.c0, by show 0 ≤ x.tn + 1; omega, by show x.tn + 1 ≤ n + 1; omega⟩ ?_
    refine Sat.playI _ ⟨y.p, y.r, y.sc, so, si⟩ ?_
    show Sat h0 h (own x.t [.pointer (some (pt y.p 0)), .pointer (some (pt y.r 0)), .int .i64 (x.q.propose o.vb o.span).1.node, .int .i64 (x.q.propose o.vb o.span).1.shard, .slice y.sc.ptr y.sc.len y.sc.cap, .pointer (some (pt bk 0)), .bool mark, .slice so.ptr so.len so.cap, .slice si.ptr si.len si.cap, .int .i64 (x.tn + 1)] :: quR y.p (x.q.propose o.vb o.span).1 :: rfR y.r (x.q.propose o.vb o.span).1 :: buf 1 i64c y.sc (x.q.propose o.vb o.span).1.cop :: plR2 so si :: B (T + 20) :: L)
    rw [sc.1, sc.2.1, sc.2.2.1]
    exact O.sel [0, 4, 2, 5, 3, 1] 6 rfl (Nat.le_add_left _ _)
  refine brr_eq (fun k4 => ?_) (fun k4 => ?_)
  · obtain ⟨y, O⟩ := (O.sel [1, 0, 2] 3 rfl (Nat.le_add_left _ _)).play
    have O : Sat h0 h (own x.t [.pointer (some (pt y.p 0)), .pointer (some (pt y.r 0)), .int .i64 x.q.node, .int .i64 x.q.shard, .slice y.sc.ptr y.sc.len y.sc.cap, .pointer (some (pt bk 0)), .bool mark, .slice y.so.ptr y.so.len y.so.cap, .slice y.si.ptr y.si.len y.si.cap, .int .i64 x.tn] :: quR y.p x.q :: rfR y.r x.q :: buf 1 i64c y.sc x.q.cop :: plR2 y.so y.si :: own a34 (qopC o) :: B T :: L) := O
    refine ⟨_, rfl, ?_⟩
    refine O.ld 0 rfl (ldL_c (ldL_n ?_))
    refine O.ld 5 rfl (ldL_c (ldL_n ?_))
    have sb := tick_b (span := o.span) ok
    have sc := tick_cop (q := x.q) (span := o.span)
    have si2 := inv_tick xo.iv o.span
    refine F_quorum_Quorum_Tick.is ok (O.sel [1, 0, 2, 3, 4, 5, 6] 7 rfl (Nat.le_add_left _ _)) fun s1 h O => ?_
    -- ms1, qu, PQ, rf, buf, pl, a34, B
    refine ⟨_, rfl, ?_⟩
    refine O.ld 2 rfl (ldL_c (ldL_n ?_))
    refine O.ld 6 rfl (ldL_c (ldL_n ?_))
    refine F_ref10_Quorum_Tick.is xo.iv (O.sel [3, 0, 1, 2, 4, 5, 7] 8 rfl (Nat.le_add_left _ _)) fun s2 h O => ?_
    -- ms2, rf, ms1, qu, PQ, buf, pl, B
    refine F_law10_Play_told.is K (by omega) (by omega) sb.1 (O.sel [2, 0, 4, 7, 1, 3, 5, 6] 8 rfl (Nat.le_add_left _ _)) fun h O => ?_
    -- PQ, B, rf, qu, buf, pl
    refine k ⟨x.t, (x.q.tick o.span).1, x.tn⟩ h rfl ⟨si2, by show (x.q.tick _).1.cop.length ≤ 7; rw [sc.1]; exact hc7, by show (x.q.tick _).1.cop ≠ []; rw [sc.1]; exact xo.c0, xo.t0, by show x.tn ≤ n + 1; omega⟩ ?_
    refine Sat.playI _ y ?_
    show Sat h0 h (own x.t [.pointer (some (pt y.p 0)), .pointer (some (pt y.r 0)), .int .i64 (x.q.tick o.span).1.node, .int .i64 (x.q.tick o.span).1.shard, .slice y.sc.ptr y.sc.len y.sc.cap, .pointer (some (pt bk 0)), .bool mark, .slice y.so.ptr y.so.len y.so.cap, .slice y.si.ptr y.si.len y.si.cap, .int .i64 x.tn] :: quR y.p (x.q.tick o.span).1 :: rfR y.r (x.q.tick o.span).1 :: buf 1 i64c y.sc (x.q.tick o.span).1.cop :: plR2 y.so y.si :: B (T + 20) :: L)
    rw [sc.1, sc.2.1, sc.2.2.1]
    exact O.sel [0, 3, 2, 4, 5, 1] 6 rfl (Nat.le_add_left _ _)
  refine jn0 (fun h' => ∃ x2 : PX, x2.t = x.t ∧ x2.Ok (n + 1) ∧ Sat h0 h' (playR bk mark x2 :: B (T + 20) :: L)) (fun h ⟨x2, e, o2, O⟩ => k x2 h e o2 O) fun j hj => ?_
  refine brr_eq (fun k5 => ?_) (fun k5 => ?_)
  · obtain ⟨y, O⟩ := (O.sel [1, 2] 3 rfl (Nat.le_add_left _ _)).play
    have O : Sat h0 h (own x.t [.pointer (some (pt y.p 0)), .pointer (some (pt y.r 0)), .int .i64 x.q.node, .int .i64 x.q.shard, .slice y.sc.ptr y.sc.len y.sc.cap, .pointer (some (pt bk 0)), .bool mark, .slice y.so.ptr y.so.len y.so.cap, .slice y.si.ptr y.si.len y.si.cap, .int .i64 x.tn] :: quR y.p x.q :: rfR y.r x.q :: buf 1 i64c y.sc x.q.cop :: plR2 y.so y.si :: B T :: L) := O
    refine ⟨_, rfl, ?_⟩
    refine O.ld 0 rfl (ldL_c (ldL_n ?_))
    refine F_quorum_Quorum_Stop.is (O.sel [1, 0, 2, 3, 4, 5] 6 rfl (Nat.le_add_left _ _)) fun h O => ?_
    have O : Sat h0 h (rfR y.r x.q :: quR y.p x.q.stop :: own x.t [.pointer (some (pt y.p 0)), .pointer (some (pt y.r 0)), .int .i64 x.q.node, .int .i64 x.q.shard, .slice y.sc.ptr y.sc.len y.sc.cap, .pointer (some (pt bk 0)), .bool mark, .slice y.so.ptr y.so.len y.so.cap, .slice y.si.ptr y.si.len y.si.cap, .int .i64 x.tn] :: buf 1 i64c y.sc x.q.cop :: plR2 y.so y.si :: B T :: L) := O.sel [2, 0, 1, 3, 4, 5] 6 rfl (Nat.le_add_left _ _)
    refine ⟨_, rfl, ?_⟩
    refine O.ld 2 rfl (ldL_c (ldL_n ?_))
    obtain ⟨a, ep, O⟩ := O.rf
    refine F_ref10_Quorum_Stop.is (O.sel [0, 1, 7, 8, 9, 10, 11] 12 rfl (Nat.le_add_left _ _)) fun h O => ?_
    -- rf, qu, PQ, buf, pl, B
    have O2 := K.up (T' := T + 20) (by omega) (O.sel [5, 0, 1, 2, 3, 4] 6 rfl (Nat.le_add_left _ _))
    refine hj _ ⟨⟨x.t, x.q.stop, x.tn⟩, rfl, ⟨inv_stop ok, hc7, xo.c0, xo.t0, by show x.tn ≤ n + 1; omega⟩, ?_⟩
    exact Sat.playI ⟨x.t, x.q.stop, x.tn⟩ y (O2.sel [3, 2, 1, 4, 5, 0] 6 rfl (Nat.le_add_left _ _))
  refine brr_eq (fun k6 => ?_) (fun k6 => ?_)
  · refine F_law10_Play_looks.is K hT xo.iv (O.sel [1, 2] 3 rfl (Nat.le_add_left _ _)) fun h O => ?_
    exact k x _ rfl (xo.more (by omega)) (K.up (by omega) O.swap).swap
  · exact hj _ ⟨x, rfl, xo.more (by omega), (K.up (by omega) (O.sel [2, 1] 3 rfl (Nat.le_add_left _ _))).swap⟩
end
end Go.Proofs.YtigcpkejjjgkeaaGreat.V
namespace Go.Proofs.YtigcpkejjjgkeaaGreat.V
open Go Go.RowKit
set_option linter.unusedVariables false
set_option maxRecDepth 100000
def F_law10_QuorumExact_of (f5_ : Int → Int → Int → Int → Int → Int → Sl → Bool → Heap → (Bool → Heap → Prop) → Prop) (s1 s2 s3 s4 s5 s6 : Int) (s7 : Sl) (h : Heap) (Q : Bool → Heap → Prop) : Prop :=
  al 25 [.int .i64 s1, .int .i64 s2, .int .i64 s3, .int .i64 s4, .int .i64 s5, .int .i64 s6, .slice s7.ptr s7.len s7.cap] h fun (a8 : Addr) (h9 : Heap) =>
  ld [.int .i64, .int .i64, .int .i64, .int .i64, .int .i64, .int .i64, .sl] a8 h9 fun (v10 v11 v12 v13 v14 v15 : Int) (v16 : Sl) =>
  f5_ v10 v11 v12 v13 v14 v15 v16 false h9 fun (r17 : Bool) (h18 : Heap) =>
  Q r17 h18
def F_law10_QuorumExact (s1 s2 s3 s4 s5 s6 : Int) (s7 : Sl) (h : Heap) (Q : Bool → Heap → Prop) : Prop := F_law10_QuorumExact_of F_law10_exact s1 s2 s3 s4 s5 s6 s7 h Q
def plan3 : Plan := .s (.r [1]) (.s (.r [2]) .z)
theorem F_law10_QuorumExact.eq (f5_ : Int → Int → Int → Int → Int → Int → Sl → Bool → Heap → (Bool → Heap → Prop) → Prop) (s1 s2 s3 s4 s5 s6 : Int) (s7 : Sl) (h : Heap) (K : Value → Heap → Prop) : F_law10_QuorumExact_of f5_ s1 s2 s3 s4 s5 s6 s7 h (fun (r0 : Bool) (h : Heap) => K (.bool r0) h) =
    den Tryz.prog (fn1 5 (E_law10_exact_of f5_) noFns) Tryz.f3.ntmps plan3 (bodyOf Tryz.f3) (args0 0 [(.agg #[.int .i64 s1, .int .i64 s2, .int .i64 s3, .int .i64 s4, .int .i64 s5, .int .i64 s6, .slice s7.ptr s7.len s7.cap] : Value)]) h ⟨fun env h => dRes Tryz.prog Tryz.f3.results.toList env h K, fun _ _ _ => False, fun env h => dRes Tryz.prog Tryz.f3.results.toList env h K⟩ := by kernel_rfl
def E_law10_QuorumExact_of (f : Int → Int → Int → Int → Int → Int → Sl → Heap → (Bool → Heap → Prop) → Prop) : List Value → Heap → (Value → Heap → Prop) → Prop
  | [v0], h, K => vAgg v0 fun cs0 => decs [.int .i64, .int .i64, .int .i64, .int .i64, .int .i64, .int .i64, .sl] cs0.toList fun (s1 s2 s3 s4 s5 s6 : Int) (s7 : Sl) =>
  f s1 s2 s3 s4 s5 s6 s7 h (fun (r0 : Bool) (h : Heap) => K (.bool r0) h)
  | _, _, _ => False
abbrev E_law10_QuorumExact := E_law10_QuorumExact_of F_law10_QuorumExact
theorem E_law10_QuorumExact.at (f : Int → Int → Int → Int → Int → Int → Sl → Heap → (Bool → Heap → Prop) → Prop) (s1 s2 s3 s4 s5 s6 : Int) (s7 : Sl) (h : Heap) (K : Value → Heap → Prop) : E_law10_QuorumExact_of f [.agg ([.int .i64 s1, .int .i64 s2, .int .i64 s3, .int .i64 s4, .int .i64 s5, .int .i64 s6, .slice s7.ptr s7.len s7.cap] : List Value).toArray] h K = f s1 s2 s3 s4 s5 s6 s7 h (fun (r0 : Bool) (h : Heap) => K (.bool r0) h) := rfl
theorem E_law10_QuorumExact.right : IsRight Tryz.prog 3 E_law10_QuorumExact := by
  refine isRight fun vs K w hh => ?_
  match vs, hh with
  | [v0], hh =>
    unfold E_law10_QuorumExact E_law10_QuorumExact_of at hh
    replace hh := vAgg_sound hh; obtain ⟨cs0, rfl, hh⟩ := hh
    replace hh := decs_cons hh; obtain ⟨s1, l0_0, e0_0, hh⟩ := hh
    replace hh := decs_cons hh; obtain ⟨s2, l0_1, e0_1, hh⟩ := hh
    replace hh := decs_cons hh; obtain ⟨s3, l0_2, e0_2, hh⟩ := hh
    replace hh := decs_cons hh; obtain ⟨s4, l0_3, e0_3, hh⟩ := hh
    replace hh := decs_cons hh; obtain ⟨s5, l0_4, e0_4, hh⟩ := hh
    replace hh := decs_cons hh; obtain ⟨s6, l0_5, e0_5, hh⟩ := hh
    replace hh := decs_cons hh; obtain ⟨s7, l0_6, e0_6, hh⟩ := hh
    replace hh := decs_nil hh; obtain ⟨rfl, hh⟩ := hh
    subst e0_6
    subst e0_5
    subst e0_4
    subst e0_3
    subst e0_2
    subst e0_1
    have ec0 := toArray_eq e0_0
    subst ec0
    unfold F_law10_QuorumExact at hh
    exact calls_den (fn1_right ok5 E_law10_exact.right noFns_right) plan3 _ w K Tryz.func3 (by kernel_rfl) (by kernel_rfl) (Eq.mp (F_law10_QuorumExact.eq F_law10_exact s1 s2 s3 s4 s5 s6 s7 w.heap K) hh)
theorem ok3 : okFn Tryz.prog 3 = true := by kernel_rfl
end Go.Proofs.YtigcpkejjjgkeaaGreat.V
/- Eight quorums played in turns. -/
namespace Go.Proofs.YtigcpkejjjgkeaaGreat.V
open Go Go.RowKit
set_option linter.unusedVariables false
set_option linter.unusedSimpArgs false

def pxA (x : PX) : Option Addr := some (pt x.t 0)
theorem slots_set {xs : List PX} {x : PX} (h : xs.length < 8) : (xs.map pxA ++ List.replicate (8 - xs.length) none).set xs.length (pxA x) = (xs ++ [x]).map pxA ++ List.replicate (8 - (xs ++ [x]).length) none := by
  rw [List.set_append_right _ _ (by simp), List.length_map, Nat.sub_self, show 8 - xs.length = (8 - (xs.length + 1)) + 1 by omega, List.replicate_succ, List.set_cons_zero, List.map_append, List.length_append]
  simp
theorem slots_len {xs : List PX} (h : xs.length ≤ 8) : (xs.map pxA ++ List.replicate (8 - xs.length) (none : Option Addr)).length = 8 := by simp; omega
section
variable {H : Heap} {B : Nat → Nat → Res} {mark : Bool}
theorem script_ix {h0 h : Heap} {L : List Res} {a9 o : Nat} {i s1 s2 s3 s4 s5 s6 : Int} {s7 : Sl} {K : Int → Prop} (j : Nat) (O : Sat h0 h L) (hj : nth j L = own a9 [.int .i64 s1, .int .i64 s2, .int .i64 s3, .int .i64 s4, .int .i64 s5, .int .i64 s6, .slice s7.ptr s7.len s7.cap]) (ho : o = 0 ∨ o = 2 ∨ o = 4) (hi : 0 ≤ i) (k : ∀ v, K v) : ixA 1 ((pt a9 0).add o) 2 (i.tmod 2) fun a => ld [.int .i64] a h fun v => K v := by
  have e : i.tmod 2 = i % 2 := Int.tmod_eq_emod_of_nonneg hi
  rw [e]
  have h1 : i % 2 = 0 ∨ i % 2 = 1 := by omega
  refine ⟨by omega, by omega, ?_⟩
  rcases h1 with h1 | h1 <;> rw [h1] <;> rcases ho with rfl | rfl | rfl
  · exact O.ld j hj (o := 0) (ldL_c (ldL_n (k _)))
  · exact O.ld j hj (o := 2) (ldL_c (ldL_n (k _)))
  · exact O.ld j hj (o := 4) (ldL_c (ldL_n (k _)))
  · exact O.ld j hj (o := 1) (ldL_c (ldL_n (k _)))
  · exact O.ld j hj (o := 3) (ldL_c (ldL_n (k _)))
  · exact O.ld j hj (o := 5) (ldL_c (ldL_n (k _)))
theorem F_law10_exact.is {h : Heap} {L : List Res} {s1 s2 s3 s4 s5 s6 : Int} {s7 : Sl} {ops : List QOp} {Q : Bool → Heap → Prop} (K : ∀ bk, BkOk H bk mark (B bk)) (new : ∀ {bk : Nat} {h : Heap} {L : List Res}, Sat H h (own bk ([.slice none 0 0, .slice none 0 0, .int .i64 0, .slice none 0 0, .slice none 0 0, .int .i64 0, .slice none 0 0, .slice none 0 0, .int .i64 0, .slice none 0 0, .slice none 0 0, .int .i64 0, .slice none 0 0, .slice none 0 0, .int .i64 0, .slice none 0 0, .slice none 0 0, .int .i64 0, .slice none 0 0, .slice none 0 0, .int .i64 0, .slice none 0 0, .slice none 0 0, .int .i64 0, .slice none 0 0, .slice none 0 0, .int .i64 0, .slice none 0 0, .slice none 0 0, .int .i64 0, .slice none 0 0, .slice none 0 0, .int .i64 0, .slice none 0 0, .slice none 0 0, .int .i64 0, .int .i64 0, .int .i64 0, .int .i64 0]) :: L) → Sat H h (B bk 0 :: L)) (Vo : View H 32 (qopR H) s7 ops) (O : Sat H h L) (k : ∀ h', KeptH H h' → Q true h') : F_law10_exact s1 s2 s3 s4 s5 s6 s7 mark h Q := by
  rw [F_law10_exact.eq_1, F_law10_exact_of.eq_1]
  refine O.al fun a9 h O => ?_
  refine O.al fun bk h O => ?_
  have O := new O
  refine O.al fun a13 h O => ?_
  have O : Sat H h (own a13 ((([] : List PX).map pxA ++ List.replicate (8 - ([] : List PX).length) none).flatMap optc) :: B bk (2 * ([] : List PX).length) :: own a9 [.int .i64 s1, .int .i64 s2, .int .i64 s3, .int .i64 s4, .int .i64 s5, .int .i64 s6, .slice s7.ptr s7.len s7.cap] :: L) := O
  have K := K bk
  refine jn0 (fun h' => ∃ xs : List PX, xs.length = 8 ∧ (∀ x ∈ xs, x.Ok 0) ∧ Sat H h' (own a13 ((xs.map pxA).flatMap optc) :: many (playR bk mark) xs :: B bk 20 :: own a9 [.int .i64 s1, .int .i64 s2, .int .i64 s3, .int .i64 s4, .int .i64 s5, .int .i64 s6, .slice s7.ptr s7.len s7.cap] :: L)) ?_ ?_
  case refine_2 =>
    intro j hj
    rw [F_law10_exact.l1.eq_1]
    refine wl1 (k := .int .i64) (fun (m : Nat) (i : Int) (h' : Heap) => ∃ xs : List PX, i = (xs.length : Int) ∧ xs.length + m = 8 ∧ (∀ x ∈ xs, x.Ok 0) ∧ Sat H h' (own a13 ((xs.map pxA ++ List.replicate (8 - xs.length) none).flatMap optc) :: many (playR bk mark) xs :: B bk (2 * xs.length) :: own a9 [.int .i64 s1, .int .i64 s2, .int .i64 s3, .int .i64 s4, .int .i64 s5, .int .i64 s6, .slice s7.ptr s7.len s7.cap] :: L)) ?_ (m := 8) ⟨[], rfl, rfl, fun x hx => absurd hx List.not_mem_nil, (O.none (f := playR bk mark)).swap⟩
    clear O
    rintro m (i : Int) h next hnx ⟨xs, rfl, hxm, hall, O⟩
    refine brr_p (fun hlt => ?_) (fun hlt => ?_)
    case refine_2 =>
      have h8 : xs.length = 8 := by omega
      refine hj _ ⟨xs, h8, hall, ?_⟩
      rw [h8, Nat.sub_self, List.replicate_zero, List.append_nil] at O
      exact (K.up (T' := 20) (by omega) (O.sel [2, 0, 1, 3] 4 rfl (Nat.le_add_left _ _))).sel [1, 2, 0, 3] 4 rfl (Nat.le_add_left _ _)
    refine ⟨by decide, ?_⟩
    refine script_ix 3 O rfl (.inl rfl) (by omega) fun v20 => ?_
    refine ⟨by decide, ?_⟩
    refine script_ix 3 O rfl (.inr (.inl rfl)) (by omega) fun v22 => ?_
    refine ⟨by decide, ?_⟩
    refine script_ix 3 O rfl (.inr (.inr rfl)) (by omega) fun v24 => ?_
    refine F_law10_begin.is O fun x h xo O => ?_
    have sl := slots_len (xs := xs) (by omega)
    refine Sat.putA O.swap optc_len optc_one sl.symm (by omega) (by omega) (pxA x) rfl fun h O => ?_
    have es := slots_set (xs := xs) (x := x) (by omega)
    rw [Int.toNat_natCast, es] at O
    have hx : (((xs ++ [x]).map pxA ++ List.replicate (8 - (xs ++ [x]).length) none))[((xs.length : Nat) : Int).toNat]? = some (pxA x) := by
      rw [Int.toNat_natCast, List.getElem?_append_left (by simp), List.map_append, List.getElem?_append_right (by simp)]
      simp
    have sl2 := slots_len (xs := xs ++ [x]) (by simp; omega)
    refine jn1 (fun z h' => z = false ∧ Sat H h' (own a13 (((xs ++ [x]).map pxA ++ List.replicate (8 - (xs ++ [x]).length) none).flatMap optc) :: playR bk mark x :: many (playR bk mark) xs :: B bk (2 * xs.length + 2) :: own a9 [.int .i64 s1, .int .i64 s2, .int .i64 s3, .int .i64 s4, .int .i64 s5, .int .i64 s6, .slice s7.ptr s7.len s7.cap] :: L)) ?_ ?_
    case refine_2 =>
      intro j2 hj2
      refine O.getA (k := .ptr) 0 optc_len rfl sl2.symm (by omega) hx id (fun _ => rfl) ?_
      refine brr_ff rfl ?_
      refine O.getA (k := .ptr) 0 optc_len rfl sl2.symm (by omega) hx id (fun _ => rfl) ?_
      refine F_law10_Play_looks.is K (by omega) xo.iv (O.sel [1, 3, 0, 2, 4] 5 rfl (Nat.le_add_left _ _)) fun h O => ?_
      exact hj2 _ _ ⟨rfl, O.sel [2, 0, 3, 1, 4] 5 rfl (Nat.le_add_left _ _)⟩
    clear O
    rintro z h ⟨rfl, O⟩
    refine brr_ff rfl ?_
    have O2 : Sat H h (playR bk mark x :: many (playR bk mark) xs :: own a13 (((xs ++ [x]).map pxA ++ List.replicate (8 - (xs ++ [x]).length) none).flatMap optc) :: B bk (2 * xs.length + 2) :: own a9 [.int .i64 s1, .int .i64 s2, .int .i64 s3, .int .i64 s4, .int .i64 s5, .int .i64 s6, .slice s7.ptr s7.len s7.cap] :: L) := O.sel [1, 2, 0, 3, 4] 5 rfl (Nat.le_add_left _ _)
    have O2 := O2.more
    rw [wrap64 (by omega) (by omega)]
    refine hnx (m - 1) _ _ (by omega) ⟨xs ++ [x], by simp, by simp; omega, fun y hy => ?_, ?_⟩
    · rcases List.mem_append.1 hy with hy | hy
      · exact hall y hy
      · rw [List.mem_singleton.1 hy]; exact xo
    · rw [show 2 * (xs ++ [x]).length = 2 * xs.length + 2 by simp; omega]
      exact O2.swap
  clear O
  rintro h ⟨xs, h8, hall, O⟩
  have mset : ∀ {xs : List PX} {i : Nat} {x x2 : PX}, xs[i]? = some x → x2.t = x.t → (xs.set i x2).map pxA = xs.map pxA := by
    intro xs i x x2 hx e
    rw [List.map_set]
    refine set_same ?_
    rw [List.getElem?_map, hx]
    show some (pxA x) = some (pxA x2)
    unfold pxA
    rw [e]
  refine jn0 (fun h' => ∃ xs : List PX, xs.length = 8 ∧ (∀ x ∈ xs, x.Ok 600) ∧ Sat H h' (own a13 ((xs.map pxA).flatMap optc) :: many (playR bk mark) xs :: B bk 13000 :: own a9 [.int .i64 s1, .int .i64 s2, .int .i64 s3, .int .i64 s4, .int .i64 s5, .int .i64 s6, .slice s7.ptr s7.len s7.cap] :: L)) ?_ ?_
  case refine_2 =>
    intro j hj
    rw [F_law10_exact.l2.eq_1]
    refine wl1 (k := .int .i64) (fun (m : Nat) (i : Int) (h' : Heap) => i + m = ops.length ∧ 0 ≤ i ∧ i ≤ 600 ∧ ∃ xs : List PX, xs.length = 8 ∧ (∀ x ∈ xs, x.Ok i) ∧ Sat H h' (own a13 ((xs.map pxA).flatMap optc) :: many (playR bk mark) xs :: B bk (20 + 20 * i.toNat) :: own a9 [.int .i64 s1, .int .i64 s2, .int .i64 s3, .int .i64 s4, .int .i64 s5, .int .i64 s6, .slice s7.ptr s7.len s7.cap] :: L)) ?_ (m := ops.length) ⟨by omega, by omega, by omega, xs, h8, hall, O⟩
    clear O hall h8 xs
    rintro m (i : Int) h next hnx ⟨him, hi0, hi6, xs, h8, hall, O⟩
    refine jn1 (fun z h' => h = h' ∧ z = decide (i < ops.length ∧ i < 600)) ?_ ?_
    case refine_2 =>
      intro j2 hj2
      refine O.ld 3 rfl (ldL_c (k := .sl) (x := s7) (ldL_n ?_))
      rw [Vo.len]
      refine brr_p (fun hlt => ?_) (fun hlt => ?_)
      · exact hj2 _ _ ⟨rfl, by simp [hlt]⟩
      · exact hj2 _ _ ⟨rfl, by simp; intro h; omega⟩
    rintro z h' ⟨rfl, rfl⟩
    refine brr_p (fun hg => ?_) (fun hg => ?_)
    case refine_2 =>
      refine hj _ ⟨xs, h8, fun x hx => (hall x hx).more hi6, ?_⟩
      exact (K.up (T' := 13000) (by omega) (O.sel [2, 0, 1, 3] 4 rfl (Nat.le_add_left _ _))).sel [1, 2, 0, 3] 4 rfl (Nat.le_add_left _ _)
    obtain ⟨hlt, hlt6⟩ := hg
    refine jn1 (fun z h' => z = false ∧ ∃ xs : List PX, xs.length = 8 ∧ (∀ x ∈ xs, x.Ok (i + 1)) ∧ Sat H h' (own a13 ((xs.map pxA).flatMap optc) :: many (playR bk mark) xs :: B bk (20 + 20 * (i + 1).toNat) :: own a9 [.int .i64 s1, .int .i64 s2, .int .i64 s3, .int .i64 s4, .int .i64 s5, .int .i64 s6, .slice s7.ptr s7.len s7.cap] :: L)) ?_ ?_
    · clear O hall h8 xs
      rintro z h ⟨rfl, xs, h8, hall, O⟩
      refine brr_ff rfl ?_
      rw [wrap64 (by omega) (by omega)]
      exact hnx (m - 1) _ _ (by omega) ⟨by omega, by omega, by omega, xs, h8, hall, O⟩
    intro j47 hj47
    refine O.ld 3 rfl (ldL_c (k := .sl) (x := s7) (ldL_n ?_))
    refine (Vo.kept O.kept).ix hi0 hlt fun a cs o hx hlen hR hc => ?_
    obtain ⟨rfl, oo⟩ := hR
    refine ld_drop hc 1 (ldL_c (ldL_n ?_))
    refine O.ld 3 rfl (ldL_c (k := .sl) (x := s7) (ldL_n ?_))
    refine (Vo.kept O.kept).ix hi0 hlt fun a2 cs o2 hx2 hlen2 hR2 hc2 => ?_
    obtain ⟨rfl, oo2⟩ := hR2
    have eo : o2 = o := Option.some.inj (hx2.symm.trans hx)
    subst eo
    refine ld_are hc2 ?_
    unfold qopC
    repeat (first | (with_reducible refine ldL_n ?_) | refine ldL_s ?_ | refine ldL_c ?_)
    refine F_law10_into.is (by decide) (by decide) ?_
    refine O.ca 3 1 rfl ?_
    refine ⟨by unfold qopC at hc2; exact hc2, ?_⟩
    have m0 := Int.emod_nonneg o2.which (show (8 : Int) ≠ 0 by omega)
    have m1 := Int.emod_lt_of_pos o2.which (show (0 : Int) < 8 by omega)
    obtain ⟨w, hw⟩ : ∃ w : Nat, o2.which % 8 = (w : Int) := ⟨(o2.which % 8).toNat, by omega⟩
    rw [hw]
    obtain ⟨x, hxw⟩ : ∃ x, xs[w]? = some x := ⟨_, List.getElem?_eq_getElem (by omega)⟩
    have xo := hall x (List.mem_of_getElem? hxw)
    refine O.getA (k := .ptr) (x := pxA x) 0 optc_len rfl (by rw [List.length_map]; exact h8.symm) (by omega) (by rw [Int.toNat_natCast, List.getElem?_map, hxw]; rfl) id (fun _ => rfl) ?_
    have O := (O.sel [1, 0, 2, 3] 4 rfl (Nat.le_add_left _ _)).take w hxw
    have O : Sat H h (playR bk mark x :: B bk (20 + 20 * i.toNat) :: hole (playR bk mark) xs w :: own a13 ((xs.map pxA).flatMap optc) :: own a9 [.int .i64 s1, .int .i64 s2, .int .i64 s3, .int .i64 s4, .int .i64 s5, .int .i64 s6, .slice s7.ptr s7.len s7.cap] :: L) := O.sel [0, 3, 1, 2, 4] 5 rfl (Nat.le_add_left _ _)
    refine F_law10_Play_plays.is K (by omega) xo (by omega) oo2 O fun x2 h e2 xo2 O => ?_
    refine brr_ff rfl ?_
    have O2 : Sat H h (playR bk mark x2 :: hole (playR bk mark) xs w :: B bk (20 + 20 * i.toNat + 20) :: own a13 ((xs.map pxA).flatMap optc) :: own a9 [.int .i64 s1, .int .i64 s2, .int .i64 s3, .int .i64 s4, .int .i64 s5, .int .i64 s6, .slice s7.ptr s7.len s7.cap] :: L) := O.sel [0, 2, 1, 3, 4] 5 rfl (Nat.le_add_left _ _)
    have O2 := O2.give (by omega)
    have O2 : Sat H h (B bk (20 + 20 * i.toNat + 20) :: many (playR bk mark) (xs.set w x2) :: own a13 ((xs.map pxA).flatMap optc) :: own a9 [.int .i64 s1, .int .i64 s2, .int .i64 s3, .int .i64 s4, .int .i64 s5, .int .i64 s6, .slice s7.ptr s7.len s7.cap] :: L) := O2.swap
    refine K.look (by omega) O2 fun h O => ?_
    refine hj47 _ _ ⟨rfl, xs.set w x2, by rw [List.length_set]; exact h8, fun y hy => ?_, ?_⟩
    · rcases List.mem_or_eq_of_mem_set hy with hy | rfl
      · exact (hall y hy).more (by omega)
      · exact xo2
    · rw [mset hxw e2, show 20 + 20 * (i + 1).toNat = 20 + 20 * i.toNat + 20 by omega]
      exact O.sel [2, 1, 0, 3] 4 rfl (Nat.le_add_left _ _)
  clear O hall h8 xs
  rintro h ⟨xs, h8, hall, O⟩
  refine jn0 (fun h' => Sat H h' (B bk 13020 :: L)) ?_ ?_
  case refine_2 =>
    intro j hj
    rw [F_law10_exact.l3.eq_1]
    refine wl1 (k := .int .i64) (fun (m : Nat) (i : Int) (h' : Heap) => i + m = 8 ∧ 0 ≤ i ∧ Sat H h' (own a13 ((xs.map pxA).flatMap optc) :: many (playR bk mark) xs :: B bk (13000 + 2 * i.toNat) :: own a9 [.int .i64 s1, .int .i64 s2, .int .i64 s3, .int .i64 s4, .int .i64 s5, .int .i64 s6, .slice s7.ptr s7.len s7.cap] :: L)) ?_ (m := 8) ⟨by omega, by omega, O⟩
    clear O
    rintro m (i : Int) h next hnx ⟨him, hi0, O⟩
    refine brr_p (fun hlt => ?_) (fun hlt => hj _ (K.up (T' := 13020) (by omega) (O.sel [2] 4 rfl (Nat.le_add_left _ _))))
    obtain ⟨x, hxw⟩ : ∃ x, xs[i.toNat]? = some x := ⟨_, List.getElem?_eq_getElem (by omega)⟩
    have xo := hall x (List.mem_of_getElem? hxw)
    refine O.getA (k := .ptr) (x := pxA x) 0 optc_len rfl (by rw [List.length_map]; exact h8.symm) (by omega) (by rw [List.getElem?_map, hxw]; rfl) id (fun _ => rfl) ?_
    have O := (O.sel [1, 0, 2, 3] 4 rfl (Nat.le_add_left _ _)).take i.toNat hxw
    refine F_law10_Play_looks.is K (by omega) xo.iv (O.sel [0, 3, 1, 2, 4] 5 rfl (Nat.le_add_left _ _)) fun h O => ?_
    refine brr_ff rfl ?_
    have O2 : Sat H h (playR bk mark x :: hole (playR bk mark) xs i.toNat :: B bk (13000 + 2 * i.toNat + 2) :: own a13 ((xs.map pxA).flatMap optc) :: own a9 [.int .i64 s1, .int .i64 s2, .int .i64 s3, .int .i64 s4, .int .i64 s5, .int .i64 s6, .slice s7.ptr s7.len s7.cap] :: L) := O.sel [0, 2, 1, 3, 4] 5 rfl (Nat.le_add_left _ _)
    have O2 := O2.give (by omega)
    rw [set_same hxw] at O2
    rw [wrap64 (by omega) (by omega)]
    refine hnx (m - 1) _ _ (by omega) ⟨by omega, by omega, ?_⟩
    rw [show 13000 + 2 * (i + 1).toNat = 13000 + 2 * i.toNat + 2 by omega]
    exact O2.sel [2, 0, 1, 3] 4 rfl (Nat.le_add_left _ _)
  clear O
  intro h O
  refine jn1 (fun z h' => z = true ∧ KeptH H h') (fun z h' hh => by obtain ⟨rfl, hk⟩ := hh; exact k _ hk) fun j hj => ?_
  refine F_law10_wakes.is O fun h O => ?_
  refine brr_tt rfl ?_
  exact K.look (by omega) O fun h O => hj _ _ ⟨rfl, O.kept⟩
end
end Go.Proofs.YtigcpkejjjgkeaaGreat.V
/- QuorumExact. -/
namespace Go.Proofs.YtigcpkejjjgkeaaGreat.V
open Go Go.RowKit
set_option linter.unusedVariables false
set_option linter.unusedSimpArgs false

theorem bk_start {H h : Heap} {L : List Res} {bk : Nat} (O : Sat H h (own bk ([.slice none 0 0, .slice none 0 0, .int .i64 0, .slice none 0 0, .slice none 0 0, .int .i64 0, .slice none 0 0, .slice none 0 0, .int .i64 0, .slice none 0 0, .slice none 0 0, .int .i64 0, .slice none 0 0, .slice none 0 0, .int .i64 0, .slice none 0 0, .slice none 0 0, .int .i64 0, .slice none 0 0, .slice none 0 0, .int .i64 0, .slice none 0 0, .slice none 0 0, .int .i64 0, .slice none 0 0, .slice none 0 0, .int .i64 0, .slice none 0 0, .slice none 0 0, .int .i64 0, .slice none 0 0, .slice none 0 0, .int .i64 0, .slice none 0 0, .slice none 0 0, .int .i64 0, .int .i64 0, .int .i64 0, .int .i64 0]) :: L)) : Sat H h (bkR bk 0 :: L) := by
  have O : Sat H h (own bk (bkC ⟨none, 0, 0⟩ ⟨none, 0, 0⟩ 0 0 0 0) :: L) := O
  have O := famR.none O
  have O := O.nil_buf (sz := 1) (enc := natc)
  have O := O.nil_buf (sz := 1) (enc := slc)
  replace O := O.sel [3, 0, 1, 2] 4 rfl (Nat.le_add_left _ _)
  simp only [selT, List.map, nth, List.drop, List.cons_append, List.nil_append] at O
  exact Sat.bookI (x := ⟨⟨none, 0, 0⟩, ⟨none, 0, 0⟩, [], 0, 0, 0, 0⟩) ⟨Nat.le_refl _, Nat.le_refl _, by simp, by decide, fun i e hi => by simp at hi⟩ O
theorem bkS_up {x : BkS} {T T' : Nat} (o : x.Ok T) (h : T ≤ T') : x.Ok T' := ⟨Nat.le_trans o.t h, o.n, o.room, o.u, fun i e hi => ⟨(o.len i e hi).1, Nat.le_trans (o.len i e hi).2 h⟩⟩
theorem bkQ_up {h0 h : Heap} {L : List Res} {bk T T' : Nat} (ht : T ≤ T') (O : Sat h0 h (bkR bk T :: L)) : Sat h0 h (bkR bk T' :: L) := by
  obtain ⟨x, o, O⟩ := O.book
  exact Sat.bookI (bkS_up o ht) O
theorem bk_exact {H : Heap} (bk : Nat) : BkOk H bk false (bkR bk) where
  up ht O := bkQ_up ht O
  look hT O k := F_law1_Book_Look.is (by omega) O k
  bytes h := absurd h (by decide)
  msgs h := absurd h (by decide)
theorem quorumExact_main (H : Heap) (cs : List Value) (F : Fit H 140737488351232 tyQScript cs) : E_law10_QuorumExact [.agg cs.toArray] H (fun r h' => r = .bool true ∧ KeptH H h') := by
  replace F := Fit.g F
  obtain ⟨t1, _, rfl, t1a, t1b, F⟩ := Fit.i F
  replace F := Fit.g F
  obtain ⟨t2, _, rfl, t2a, t2b, F⟩ := Fit.i F
  replace F := Fit.z F
  replace F := Fit.g F
  obtain ⟨t3, _, rfl, t3a, t3b, F⟩ := Fit.i F
  replace F := Fit.g F
  obtain ⟨t4, _, rfl, t4a, t4b, F⟩ := Fit.i F
  replace F := Fit.z F
  replace F := Fit.g F
  obtain ⟨t5, _, rfl, t5a, t5b, F⟩ := Fit.i F
  replace F := Fit.g F
  obtain ⟨t6, _, rfl, t6a, t6b, F⟩ := Fit.i F
  replace F := Fit.z F
  obtain ⟨t7, _, rfl, t7S, F⟩ := Fit.s F
  obtain rfl := Fit.e F
  refine Eq.mpr (E_law10_QuorumExact.at F_law10_QuorumExact t1 t2 t3 t4 t5 t6 t7 H _) ?_
  obtain ⟨ops, Vo⟩ := t7S.qops
  rw [F_law10_QuorumExact.eq_1, F_law10_QuorumExact_of.eq_1]
  refine Sat.al (Sat.nil H) fun a8 h1 O => ?_
  refine O.ld 0 rfl (ldL_c (ldL_c (ldL_c (ldL_c (ldL_c (ldL_c (ldL_c (k := .sl) (x := t7) (ldL_n ?_))))))))
  exact F_law10_exact.is (B := bkR) bk_exact bk_start Vo O fun h' hk => ⟨rfl, hk⟩
end Go.Proofs.YtigcpkejjjgkeaaGreat.V
