import Derived.Test.YtompmkmbppcadaaZCodeMany1
/- Any number of Writers and Readers side by side: what CodeMany plays. -/
namespace Go.Proofs.Ytompmkmbppcadaa.V
open Go Go.RowKit
set_option linter.unusedVariables false
set_option linter.unusedSimpArgs false
abbrev tyCrowd : Ty := .cons (.int .i64) (.cons (.sl 1 24 tyBytes) .nil)
abbrev slsOf (xs : List WX) : List Sl := xs.map (fun x => x.2.1)
abbrev ptsOf (rs : List (Nat × RS)) : List Nat := rs.map (fun x => x.1)
def rxR (x : Nat × RS) : Res := rdR x.1 x.2
/-- Each holds its own number and what was laid in behind it. -/
structure ManyOk (xs : List WX) (bs : List Nat) (B : Nat) : Prop where
  bs_ : xs.map (·.1) = bs
  num : ∀ (k : Nat) x, xs[k]? = some x → ∃ r, x.2.2 = fixB k 4 ++ r ∧ r.length ≤ B
theorem codeMany_main (H : Heap) (cs : List Value) (F : Fit H 1048576 tyCrowd cs) : E_law1_CodeMany [.agg cs.toArray] H (fun r h' => r = .bool true ∧ KeptH H h') := by
  obtain ⟨_, _, rfl, _, ⟨t1, rfl, t1a, t1b⟩, _, _, rfl, _, ⟨t2, rfl, t2S⟩, rfl⟩ := F
  simp only [List.cons_append, List.nil_append, List.append_nil]
  refine Eq.mpr (E_law1_CodeMany.at F_law1_CodeMany t1 t2 H _) ?_
  obtain ⟨ts, Vt, htl⟩ := t2S.texts
  rw [F_law1_CodeMany.eq_1, F_law1_CodeMany_of.eq_1]
  refine Sat.al (Sat.nil H) fun ba h1 O => ?_
  simp only [nn_some, pt_add, Nat.zero_add, Nat.add_zero, Nat.reduceAdd, Nat.reduceMul, Int.toNat_zero, Int.toNat_one, Nat.zero_mul, Nat.one_mul]
  refine O.ld 0 rfl (ldL_c (ldL_n ?_))
  refine F_law1_into.is (by decide) (by decide) ?_
  have n0 := Int.emod_nonneg t1 (show (64 : Int) ≠ 0 by decide)
  have n1 := Int.emod_lt_of_pos t1 (show (0 : Int) < 64 by decide)
  have w1 : IntKind.i64.wrap (1 + t1 % 64) = 1 + t1 % 64 := wrap64 (by omega) (by omega)
  have hN : 1 ≤ 1 + t1 % 64 ∧ 1 + t1 % 64 ≤ 64 := by omega
  refine jn2 (fun (w hd : Sl) h' => ∃ (xs : List WX) (bs : List Nat), (xs.length : Int) = 1 + t1 % 64 ∧ ManyOk xs bs 0 ∧ Sat H h' [many wxR xs, buf 1 ptrc w bs, buf 1 slc hd (slsOf xs), own ba [.int .i64 t1, .slice t2.ptr t2.len t2.cap]]) ?_ ?_
  · clear O
    rintro (w : Sl) (hd : Sl) h ⟨xs, bs, hxl, ok, O⟩
    refine jn0 (fun h' => ∃ xs : List WX, (xs.length : Int) = 1 + t1 % 64 ∧ ManyOk xs bs (400 * 1048600) ∧ Sat H h' [many wxR xs, buf 1 ptrc w bs, buf 1 slc hd (slsOf xs), own ba [.int .i64 t1, .slice t2.ptr t2.len t2.cap]]) ?_ ?_
    · clear O ok hxl xs
      rintro h ⟨xs, hxl, ok, O⟩
      have hbl : bs.length = xs.length := by rw [← ok.bs_]; simp
      refine jn1 (fun (r : Sl) h' => ∃ (rs : List (Nat × RS)), rs.length = xs.length ∧ (∀ (k : Nat) x y, xs[k]? = some x → rs[k]? = some y → y.2 = ⟨x.2.2, 0, 0⟩) ∧ Sat H h' [many rxR rs, buf 1 ptrc r (ptsOf rs), many wxR xs, buf 1 ptrc w bs, buf 1 slc hd (slsOf xs), own ba [.int .i64 t1, .slice t2.ptr t2.len t2.cap]]) ?_ ?_
      · clear O
        rintro (r : Sl) h ⟨rs, hrl, hrs, O⟩
        refine jn0 (fun h' => KeptH H h') (fun h k => And.intro (by first | rfl | trivial) k) fun j hj => ?_
        rw [F_law1_CodeMany.l4.eq_1, w1]
        refine wl1 (k := .int .i64) (fun (m : Nat) (i : Int) (h' : Heap) => 0 ≤ i ∧ i + m = xs.length ∧ ∃ (rs : List (Nat × RS)), rs.length = xs.length ∧ (∀ (k : Nat) x y, i ≤ (k : Int) → xs[k]? = some x → rs[k]? = some y → y.2 = ⟨x.2.2, 0, 0⟩) ∧ Sat H h' [many rxR rs, buf 1 ptrc r (ptsOf rs), many wxR xs, buf 1 ptrc w bs, buf 1 slc hd (slsOf xs), own ba [.int .i64 t1, .slice t2.ptr t2.len t2.cap]]) ?_ (m := xs.length) ⟨by omega, by omega, rs, hrl, fun k x y _ => hrs k x y, O⟩
        clear O hrs hrl rs
        intro m (i : Int) h next hn ⟨hi0, him, rs, hrl, hrs, O⟩
        refine brr_p (fun hlt => ?_) (fun hlt => hj _ O.kept)
        obtain ⟨x, hx⟩ : ∃ x, xs[i.toNat]? = some x := ⟨_, List.getElem?_eq_getElem (by omega)⟩
        obtain ⟨y, hy⟩ : ∃ y, rs[i.toNat]? = some y := ⟨_, List.getElem?_eq_getElem (by omega)⟩
        have hxy := hrs _ x y (by omega) hx hy
        obtain ⟨rest, hxe, hrest⟩ := ok.num _ x hx
        have hxlen : x.2.2.length = 4 + rest.length := by rw [hxe, List.length_append, fixB_len]
        have hb : bs[i.toNat]? = some x.1 := by rw [← ok.bs_, List.getElem?_map, hx]; rfl
        have hsl : (slsOf xs)[i.toNat]? = some x.2.1 := by rw [List.getElem?_map, hx]; rfl
        have hp : (ptsOf rs)[i.toNat]? = some y.1 := by rw [List.getElem?_map, hy]; rfl
        refine jn1 (fun t h' => t = false ∧ ∃ (rs : List (Nat × RS)), rs.length = xs.length ∧ (∀ (k : Nat) x y, i + 1 ≤ (k : Int) → xs[k]? = some x → rs[k]? = some y → y.2 = ⟨x.2.2, 0, 0⟩) ∧ Sat H h' [many rxR rs, buf 1 ptrc r (ptsOf rs), many wxR xs, buf 1 ptrc w bs, buf 1 slc hd (slsOf xs), own ba [.int .i64 t1, .slice t2.ptr t2.len t2.cap]]) ?_ ?_
        · rintro t h ⟨rfl, rs, g1, g2, g3⟩
          refine brr_ff rfl ?_
          rw [wrap64 (by omega) (by omega)]
          exact hn (m - 1) _ _ (by omega) ⟨by omega, by omega, rs, g1, g2, g3⟩
        · intro j2 hj2
          refine View.get1 (k := .ptr) (O.view 3 ptrc_len (by simp) rfl).1 hi0 hb (fun b => some (pt b 0)) (fun _ => rfl) ?_
          refine (O.view 4 slc_len (by simp) rfl).1.getP hi0 hsl fun a hca => ?_
          refine ld_are (hca (O.view 4 slc_len (by simp) rfl).1) (ldL_c (k := .sl) (x := x.2.1) (ldL_n ?_))
          replace O := O.sel [2, 0, 1, 3, 4, 5] 6 rfl (Nat.le_add_left _ _)
          simp only [selT, List.map, nth, List.drop, List.cons_append, List.nil_append] at O
          have O := (O.take _ hx).sep
          refine F_code_Writer_Out.is O (by omega) fun s h O => ?_
          refine ⟨hca (O.view 7 slc_len (by simp) rfl).1, ?_⟩
          refine F_ref0_Eq.is (O.view 0 u8_len (by simp) rfl).1 (O.view 2 u8_len (by simp) rfl).1 (by omega) (by omega) ?_
          refine brr_ff (by simp) ?_
          have O := O.drop
          have O : Sat H h (wxR x :: _) := O.sepI
          have O := O.give (List.getElem?_eq_some_iff.1 hx).1
          rw [set_same hx] at O
          refine View.get1 (k := .ptr) (O.view 2 ptrc_len (by simp) rfl).1 hi0 hp (fun b => some (pt b 0)) (fun _ => rfl) ?_
          replace O := O.sel [1, 2, 0, 3, 4, 5] 6 rfl (Nat.le_add_left _ _)
          simp only [selT, List.map, nth, List.drop, List.cons_append, List.nil_append] at O
          have O := O.take _ hy
          obtain ⟨yp, yr⟩ := y
          simp only at hxy
          subst hxy
          have oy : (⟨x.2.2, 0, 0⟩ : RS).Ok := ⟨Nat.zero_le _, by show x.2.2.length ≤ _; omega, Nat.zero_le _⟩
          have O : Sat H h (rdR yp ⟨x.2.2, 0, 0⟩ :: _) := O
          refine F_code_Reader_U32.is oy O fun h O => ?_
          have hnx : (⟨x.2.2, 0, 0⟩ : RS).next 4 = ⟨x.2.2, 4, 0⟩ := by
            unfold RS.next RS.left
            simp only [ne_eq, not_true_eq_false, if_false]
            rw [if_neg (by omega)]
          have hnb : (⟨x.2.2, 0, 0⟩ : RS).nextB 4 = fixB i.toNat 4 := by
            unfold RS.nextB RS.left
            simp only [ne_eq, not_true_eq_false, if_false]
            rw [if_neg (by omega), hxe, List.drop_zero, List.take_append_of_le_length (by rw [fixB_len]; exact Nat.le_refl _), List.take_of_length_le (by rw [fixB_len]; exact Nat.le_refl _)]
          rw [hnb, beN_fixB 4 i.toNat (by omega), wrapu32 (by omega) (by omega)]
          rw [hnx] at O
          refine brr_ff (by simp; omega) ?_
          refine View.get1 (k := .ptr) (O.view 2 ptrc_len (by simp) rfl).1 hi0 hp (fun b => some (pt b 0)) (fun _ => rfl) ?_
          refine (O.view 5 slc_len (by simp) rfl).1.getP hi0 hsl fun a hca => ?_
          refine ld_are (hca (O.view 5 slc_len (by simp) rfl).1) (ldL_c (k := .sl) (x := x.2.1) (ldL_n ?_))
          have oy2 : (⟨x.2.2, 4, 0⟩ : RS).Ok := ⟨by show 4 ≤ x.2.2.length; omega, by show x.2.2.length ≤ _; omega, Nat.zero_le _⟩
          refine F_code_Reader_Left.is oy2 O ?_
          refine ⟨hca (O.view 5 slc_len (by simp) rfl).1, ?_⟩
          have O : Sat H h (rxR (yp, ⟨x.2.2, 4, 0⟩) :: _) := O
          have O := O.give (List.getElem?_eq_some_iff.1 hy).1
          have hsx : x.2.1.len = x.2.2.length := by
            replace O := O.sel [2, 0, 1, 3, 4, 5] 6 rfl (Nat.le_add_left _ _)
            simp only [selT, List.map, nth, List.drop, List.cons_append, List.nil_append] at O
            exact ((O.take _ hx).sep.view 1 u8_len (by simp) rfl).1.len
          refine hj2 _ _ ⟨?_, rs.set i.toNat (yp, ⟨x.2.2, 4, 0⟩), by simp [hrl], fun k x' y' hk hx' hy' => ?_, ?_⟩
          · rw [hsx, wrap64 (by omega) (by omega)]
            have : (⟨x.2.2, 4, 0⟩ : RS).left = x.2.2.length - 4 := rfl
            rw [this]
            simp; omega
          · rw [List.getElem?_set_ne (by omega)] at hy'
            exact hrs k x' y' (by omega) hx' hy'
          · unfold ptsOf
            rw [List.map_set, set_same hp]
            exact O
      · intro j hj
        rw [F_law1_CodeMany.l3.eq_1, w1]
        have O := ((O.nil_buf (sz := 1) (enc := ptrc)).none (f := rxR))
        refine wl2 (k := .sl) (l := .int .i64) (fun (m : Nat) (r : Sl) (i : Int) (h' : Heap) => 0 ≤ i ∧ i + m = xs.length ∧ ∃ (rs : List (Nat × RS)), (rs.length : Int) = i ∧ (∀ (k : Nat) x y, xs[k]? = some x → rs[k]? = some y → y.2 = ⟨x.2.2, 0, 0⟩) ∧ Sat H h' [many rxR rs, buf 1 ptrc r (ptsOf rs), many wxR xs, buf 1 ptrc w bs, buf 1 slc hd (slsOf xs), own ba [.int .i64 t1, .slice t2.ptr t2.len t2.cap]]) ?_ (m := xs.length) ⟨by omega, by omega, [], rfl, by simp, O⟩
        clear O
        intro m (r : Sl) (i : Int) h next hn ⟨hi0, him, rs, hrl, hrs, O⟩
        refine brr_p (fun hlt => ?_) (fun hlt => hj _ _ ⟨rs, by omega, hrs, O⟩)
        obtain ⟨x, hx⟩ : ∃ x, xs[i.toNat]? = some x := ⟨_, List.getElem?_eq_getElem (by omega)⟩
        have hsl : (slsOf xs)[i.toNat]? = some x.2.1 := by rw [List.getElem?_map, hx]; rfl
        obtain ⟨rest, hxe, hrest⟩ := ok.num _ x hx
        have hxlen : x.2.2.length = 4 + rest.length := by rw [hxe, List.length_append, fixB_len]
        refine (O.view 4 slc_len (by simp) rfl).1.getP hi0 hsl fun a hca => ?_
        refine ld_are (hca (O.view 4 slc_len (by simp) rfl).1) (ldL_c (k := .sl) (x := x.2.1) (ldL_n ?_))
        replace O := O.sel [2, 0, 1, 3, 4, 5] 6 rfl (Nat.le_add_left _ _)
        simp only [selT, List.map, nth, List.drop, List.cons_append, List.nil_append] at O
        have O := (O.take _ hx).sep
        refine F_ref0_Copy.is O (O.view 1 u8_len (by simp) rfl).1 (by omega) fun s h O _ _ => ?_
        refine F_code_Read.is O (O.view 0 u8_len (by simp) rfl).1 (by omega) fun p h O => ?_
        replace O := O.sel [2, 3, 4, 0, 5, 6, 7, 8, 9] 10 rfl (Nat.le_add_left _ _)
        simp only [selT, List.map, nth, List.drop, List.cons_append, List.nil_append] at O
        have O : Sat H h (wxR x :: _) := O.sepI
        have O := O.give (List.getElem?_eq_some_iff.1 hx).1
        rw [set_same hx] at O
        replace O := O.sel [3, 0, 1, 2, 4, 5, 6] 7 rfl (Nat.le_add_left _ _)
        simp only [selT, List.map, nth, List.drop, List.cons_append, List.nil_append] at O
        refine O.push_buf p rfl ptrc_len ptrc_one rfl (by rw [List.length_map]; omega) fun s2 h O hs2 => ?_
        have hps : (rs.map (·.1) ++ [p])[i.toNat]? = some p := by
          rw [List.getElem?_append_right (by rw [List.length_map]; omega), List.length_map, show i.toNat - rs.length = 0 by omega]
          rfl
        refine View.get1 (k := .ptr) (O.view 0 ptrc_len (by simp) rfl).1 hi0 hps (fun b => some (pt b 0)) (fun _ => rfl) ?_
        refine brr_ff rfl ?_
        replace O := O.sel [2, 3, 0, 1, 4, 5, 6] 7 rfl (Nat.le_add_left _ _)
        simp only [selT, List.map, nth, List.drop, List.cons_append, List.nil_append] at O
        have O : Sat H h (rxR (p, ⟨x.2.2, 0, 0⟩) :: many rxR rs :: _) := O
        have O := O.more
        rw [wrap64 (by omega) (by omega)]
        refine hn (m - 1) _ _ _ (by omega) ⟨by omega, by omega, rs ++ [(p, ⟨x.2.2, 0, 0⟩)], by simp; omega, fun k x' y' hx' hy' => ?_, by unfold ptsOf; rw [List.map_append]; exact O⟩
        rw [List.getElem?_append] at hy'
        split at hy'
        · exact hrs k x' y' hx' hy'
        · rename_i hk
          by_cases e : k - rs.length = 0
          · rw [e] at hy'; simp at hy'; subst hy'
            have : k = i.toNat := by omega
            subst this
            rw [hx] at hx'
            have := Option.some.inj hx'
            subst this
            rfl
          · rw [List.getElem?_eq_none (by simp; omega)] at hy'; simp at hy'
    · intro j hj
      rw [F_law1_CodeMany.l2.eq_1, w1]
      simp only [nn_some, pt_add, Nat.zero_add, Nat.add_zero, Nat.reduceAdd, Nat.reduceMul, Int.toNat_zero, Int.toNat_one, Nat.zero_mul, Nat.one_mul]
      have hxn : xs.length ≠ 0 := by omega
      refine wl1 (k := .int .i64) (fun (m : Nat) (i : Int) (h' : Heap) => 0 ≤ i ∧ i + m = ts.length ∧ i ≤ 400 ∧ ∃ xs : List WX, (xs.length : Int) = 1 + t1 % 64 ∧ ManyOk xs bs (i.toNat * 1048600) ∧ Sat H h' [many wxR xs, buf 1 ptrc w bs, buf 1 slc hd (slsOf xs), own ba [.int .i64 t1, .slice t2.ptr t2.len t2.cap]]) ?_ (m := ts.length) ⟨by omega, by omega, by omega, xs, hxl, by simpa using ok, O⟩
      clear O hxn ok hxl xs
      intro m (i : Int) h2 next hn ⟨hi0, him, hi4, xs, hxl, ok, O⟩
      have weak : ManyOk xs bs (400 * 1048600) := ⟨ok.bs_, fun k x hx => by
        obtain ⟨r, h1, h2⟩ := ok.num k x hx
        exact ⟨r, h1, Nat.le_trans h2 (Nat.mul_le_mul_right _ (by omega))⟩⟩
      refine jn1 (fun t h' => h' = h2 ∧ (t = true → i < ts.length ∧ i < 400)) ?_ ?_
      · rintro t h2 ⟨rfl, ht⟩
        refine brr_of (fun ht' => ?_) (fun ht' => hj _ ⟨xs, hxl, weak, O⟩)
        obtain ⟨hlt, hlt4⟩ := ht ht'
        have q0 := Int.emod_nonneg i (show 1 + t1 % 64 ≠ 0 by omega)
        have q1 := Int.emod_lt_of_pos i (show 0 < 1 + t1 % 64 by omega)
        have htm : i.tmod (1 + t1 % 64) = i % (1 + t1 % 64) := Int.tmod_eq_emod_of_nonneg hi0
        rw [htm]
        generalize i % (1 + t1 % 64) = n at *
        obtain ⟨⟨b, hs, l⟩, hx⟩ : ∃ x, xs[n.toNat]? = some x := ⟨_, List.getElem?_eq_getElem (by omega)⟩
        have hnl := (List.getElem?_eq_some_iff.1 hx).1
        obtain ⟨rest, hxe, hrest⟩ := ok.num _ _ hx
        simp only at hxe
        have hll : l.length = 4 + rest.length := by rw [hxe, List.length_append, fixB_len]
        have hb : bs[n.toNat]? = some b := by rw [← ok.bs_, List.getElem?_map, hx]; rfl
        have hsl : (slsOf xs)[n.toNat]? = some hs := by rw [List.getElem?_map, hx]; rfl
        have hmul : i.toNat * 1048600 ≤ 400 * 1048600 := Nat.mul_le_mul_right _ (by omega)
        refine ⟨by omega, ?_⟩
        refine View.get1 (k := .ptr) (O.view 1 ptrc_len (by simp) rfl).1 q0 hb (fun b => some (pt b 0)) (fun _ => rfl) ?_
        refine O.ld 3 rfl (ldL_c (ldL_n ?_))
        refine (Vt.kept O.kept).ix hi0 hlt fun a cs tx htx hlen hR hc => ?_
        obtain ⟨rfl, r2, r3, r4⟩ := hR
        refine ld_are hc (ldL_c (k := .sl) (x := tx.1) (ldL_n ?_))
        have O := (O.take _ hx).sep
        simp only at O
        refine F_code_Writer_Bytes.is O (fun h O => r2.kept O.kept) (by omega) fun h O => ?_
        have hv := (varB_le (n := tx.2.length) (by omega)).1
        refine (O.view 4 slc_len (by simp) rfl).1.getP q0 hsl fun a2 hca => ?_
        refine ld_are (hca (O.view 4 slc_len (by simp) rfl).1) (ldL_c (k := .sl) (x := hs) (ldL_n ?_))
        refine O.ld 5 rfl (ldL_c (ldL_n ?_))
        refine (Vt.kept O.kept).ix hi0 hlt fun a3 cs tx' htx' hlen' hR' hc' => ?_
        obtain rfl : tx' = tx := by rw [htx] at htx'; exact (Option.some.inj htx').symm
        obtain ⟨rfl, _, _, _⟩ := hR'
        refine ld_are hc' (ldL_c (k := .sl) (x := tx'.1) (ldL_n ?_))
        refine F_ref1_Text.is O (fun h O => r2.kept O.kept) (by omega) fun s2 h O => ?_
        refine ⟨hca (O.view 5 slc_len (by simp) rfl).1, ?_⟩
        have V2 := (O.view 0 u8_len (by simp) rfl).1
        replace O := O.sel [2, 1, 3, 4, 5, 6] 7 rfl (Nat.le_add_left _ _)
        simp only [selT, List.map, nth, List.drop, List.cons_append, List.nil_append] at O
        refine app_held' O V2 (by rw [List.length_append]; omega) fun s3 h O => ?_
        replace O := O.sel [4, 0, 1, 2, 3, 5] 6 rfl (Nat.le_add_left _ _)
        simp only [selT, List.map, nth, List.drop, List.cons_append, List.nil_append] at O
        refine O.put1 slc_len slc_one q0 (by simp; omega) s3 rfl fun h O => ?_
        replace O := O.sel [2, 1, 3, 4, 0, 5] 6 rfl (Nat.le_add_left _ _)
        simp only [selT, List.map, nth, List.drop, List.cons_append, List.nil_append] at O
        have O : Sat H h (wxR (b, s3, l ++ (varB tx'.2.length ++ tx'.2)) :: hole wxR xs n.toNat :: _) := O.sepI
        have O := O.give hnl
        rw [wrap64 (by omega) (by omega)]
        refine hn (m - 1) _ _ (by omega) ⟨by omega, by omega, by omega, xs.set n.toNat (b, s3, l ++ (varB tx'.2.length ++ tx'.2)), by simp; omega, ⟨?_, fun k x' hk => ?_⟩, ?_⟩
        · rw [map_set_fst hx]; exact ok.bs_
        · rw [List.getElem?_set] at hk
          by_cases e : n.toNat = k
          · subst e
            rw [if_pos rfl, if_pos hnl] at hk
            have := Option.some.inj hk
            subst this
            refine ⟨rest ++ (varB tx'.2.length ++ tx'.2), by show l ++ _ = _; rw [hxe, List.append_assoc], ?_⟩
            rw [List.length_append, List.length_append, show (i + 1).toNat = i.toNat + 1 by omega, Nat.add_mul]
            omega
          · rw [if_neg e] at hk
            obtain ⟨r, h1, h2⟩ := ok.num k x' hk
            exact ⟨r, h1, Nat.le_trans h2 (Nat.mul_le_mul_right _ (by omega))⟩
        · unfold slsOf
          rw [List.map_set]
          exact O
      · intro j2 hj2
        refine O.ld 3 rfl (ldL_c (ldL_n ?_))
        rw [Vt.len]
        refine brr_p (fun hlt => ?_) (fun hlt => ?_)
        · exact hj2 _ _ ⟨rfl, fun e => ⟨hlt, by simpa using e⟩⟩
        · exact hj2 _ _ ⟨rfl, fun e => by cases e⟩
  · intro j hj
    rw [F_law1_CodeMany.l1.eq_1, w1]
    have O := (((O.nil_buf (sz := 1) (enc := slc)).nil_buf (sz := 1) (enc := ptrc)).none (f := wxR))
    refine wl3 (k := .sl) (l := .sl) (l3 := .int .i64) (fun (m : Nat) (w hd : Sl) (i : Int) (h' : Heap) => 0 ≤ i ∧ i + m = 1 + t1 % 64 ∧ ∃ (xs : List WX) (bs : List Nat), (xs.length : Int) = i ∧ ManyOk xs bs 0 ∧ Sat H h' [many wxR xs, buf 1 ptrc w bs, buf 1 slc hd (slsOf xs), own ba [.int .i64 t1, .slice t2.ptr t2.len t2.cap]]) ?_ (m := (1 + t1 % 64).toNat) ⟨by omega, by omega, [], [], rfl, ⟨rfl, by simp⟩, O⟩
    clear O
    intro m (w : Sl) (hd : Sl) (i : Int) h next hn ⟨hi0, him, xs, bs, hxl, ok, O⟩
    refine brr_p (fun hlt => ?_) (fun hlt => hj _ _ _ ⟨xs, bs, by omega, ok, O⟩)
    have hbl : bs.length = xs.length := by rw [← ok.bs_]; simp
    refine F_code_New.is O fun b h O => ?_
    replace O := O.sel [2, 0, 1, 3, 4] 5 rfl (Nat.le_add_left _ _)
    simp only [selT, List.map, nth, List.drop, List.cons_append, List.nil_append] at O
    refine O.push_buf b rfl ptrc_len ptrc_one rfl (by omega) fun s1 h O hs1 => ?_
    replace O := O.sel [3, 0, 1, 2, 4] 5 rfl (Nat.le_add_left _ _)
    simp only [selT, List.map, nth, List.drop, List.cons_append, List.nil_append] at O
    refine O.push_buf (⟨none, 0, 0⟩ : Sl) rfl slc_len slc_one rfl (by simp; omega) fun s2 h O hs2 => ?_
    have hbb : (bs ++ [b])[i.toNat]? = some b := by
      rw [List.getElem?_append_right (by omega), show i.toNat - bs.length = 0 by omega]
      rfl
    refine View.get1 (k := .ptr) (O.view 1 ptrc_len (by simp) rfl).1 hi0 hbb (fun b => some (pt b 0)) (fun _ => rfl) ?_
    refine brr_ff rfl ?_
    refine View.get1 (k := .ptr) (O.view 1 ptrc_len (by simp) rfl).1 hi0 hbb (fun b => some (pt b 0)) (fun _ => rfl) ?_
    rw [wrapu32 (x := i) (by omega) (by omega)]
    replace O := O.sel [2, 0, 1, 3, 4] 5 rfl (Nat.le_add_left _ _)
    simp only [selT, List.map, nth, List.drop, List.cons_append, List.nil_append] at O
    rw [show i = ((i.toNat : Nat) : Int) by omega]
    refine F_code_Writer_U32.is O (by omega) (by decide) fun h O => ?_
    rw [F_ref1_U32.eq_1, F_ref1_U32_of.eq_1, wrapu64 (by omega) (by omega)]
    refine F_ref1_fixed.is (size := 4) O (by decide) (by decide) (by omega) fun s3 h O => ?_
    replace O := O.sel [2, 0, 1, 3, 4, 5] 6 rfl (Nat.le_add_left _ _)
    simp only [selT, List.map, nth, List.drop, List.cons_append, List.nil_append] at O
    refine O.put1 slc_len slc_one (by omega) (by simp; omega) s3 rfl fun h O => ?_
    replace O := O.sel [2, 1, 4, 3, 0, 5] 6 rfl (Nat.le_add_left _ _)
    simp only [selT, List.map, nth, List.drop, List.cons_append, List.nil_append] at O
    have O : Sat H h (wxR (b, s3, fixB i.toNat 4) :: many wxR xs :: _) := O.sepI
    have O := O.more
    rw [wrap64 (by omega) (by omega)]
    refine hn (m - 1) _ _ _ _ (by omega) ⟨by omega, by omega, xs ++ [(b, s3, fixB i.toNat 4)], bs ++ [b], by simp; omega, ⟨by rw [List.map_append, ok.bs_]; rfl, fun k x hk => ?_⟩, ?_⟩
    · rw [List.getElem?_append] at hk
      split at hk
      · exact ok.num k x hk
      · rename_i hk2
        by_cases e : k - xs.length = 0
        · rw [e] at hk; simp at hk; subst hk
          have : k = i.toNat := by omega
          subst this
          exact ⟨[], by simp, by simp⟩
        · rw [List.getElem?_eq_none (by simp; omega)] at hk; simp at hk
    · have e : (slsOf xs ++ [(⟨none, 0, 0⟩ : Sl)]).set ((i.toNat : Int)).toNat s3 = slsOf (xs ++ [(b, s3, fixB i.toNat 4)]) := by
        unfold slsOf
        rw [List.map_append, List.set_append_right _ _ (by simp; omega), List.length_map, show ((i.toNat : Int)).toNat - xs.length = 0 by omega]
        rfl
      rw [e] at O
      exact O
end Go.Proofs.Ytompmkmbppcadaa.V
