import Derived.Test.YtboidjampddfoaaZNetExact2
/- Two nets in turns: one call is as the document says. -/
namespace Go.Proofs.Ytboidjampddfoaa.V
open Go Go.RowKit
set_option linter.unusedVariables false
set_option linter.unusedSimpArgs false
theorem stC_same {xs : List PN} {k p q bk : Nat} {n n' : NS} {mark : Bool} (hx : xs[k]? = some (some (p, q, n))) : stC (xs.set k (some (p, q, n'))) bk mark = stC xs bk mark := by
  unfold stC
  rw [List.map_set, List.map_set, set_same (show (xs.map pnN)[k]? = some (pnN (some (p, q, n'))) by rw [List.getElem?_map, hx]; rfl), set_same (show (xs.map pnW)[k]? = some (pnW (some (p, q, n'))) by rw [List.getElem?_map, hx]; rfl)]
section
variable {h0 h : Heap} {L : List Res}
theorem F_law6_stage_plays.is {a bk T c : Nat} {mark : Bool} {xs : List PN} {o : NOp} {Q : Bool → Heap → Prop} (h2 : xs.length = 2) (hc : c ≤ 100000) (hT : T ≤ 100000000) (hpn : ∀ x ∈ xs, pnC c x) (Vb : Bytes h0 o.s o.b) (hb : o.b.length + 3 ≤ 140737488355328) (hat : o.at_ ≤ (9223372036854775807 : Int))
    (O : Sat h0 h (own a (stC xs bk mark) :: bkR bk T :: many pnR xs :: L)) (kk : ∀ (ys : List PN) h', ys.length = 2 → (∀ x ∈ ys, pnC (c + 1) x) → Sat h0 h' (own a (stC ys bk mark) :: bkR bk (T + 1) :: many pnR ys :: L) → Q true h') : F_law6_stage_plays (some (pt a 0)) o.do_ o.which o.at_ o.to o.s h Q := by
  rw [F_law6_stage_plays.eq_1, F_law6_stage_plays_of.eq_1]
  refine O.al fun b h O => ?_
  simp only [nn_some, pt_add, Nat.zero_add, Nat.add_zero, Nat.reduceAdd, Nat.reduceMul, Int.toNat_zero, Int.toNat_one, Nat.zero_mul, Nat.one_mul]
  refine O.ld 0 rfl (ldL_c (ldL_n ?_))
  refine F_law6_into.is (by decide) (by decide) ?_
  have n0 := Int.emod_nonneg o.which (show (2 : Int) ≠ 0 by decide)
  have n1 := Int.emod_lt_of_pos o.which (show (0 : Int) < 2 by decide)
  obtain ⟨k, hkk⟩ : ∃ k : Nat, o.which % 2 = k := ⟨(o.which % 2).toNat, by omega⟩
  rw [hkk] at n0 n1 ⊢
  have hk : k < 2 := by omega
  obtain ⟨x, hx⟩ : ∃ x, xs[k]? = some x := ⟨_, List.getElem?_eq_getElem (by omega)⟩
  refine O.ld 0 rfl (ldL_c (ldL_n ?_))
  refine brr_eq (fun _ => ?_) (fun h6 => ?_)
  · refine O.ld 0 rfl (ldL_c (ldL_n ?_))
    replace O := O.sel [1, 3, 2] 4 rfl (Nat.le_add_left _ _)
    simp only [selT, List.map, nth, List.drop, List.cons_append, List.nil_append] at O
    refine F_law6_stage_fresh.is h2 hk O fun y h hy hz O => ?_
    refine kk (xs.set k y) h (by simp [h2]) (fun z hzz => ?_) ((bk_up (O.sel [2, 0, 1] 3 rfl (Nat.le_add_left _ _)) (Nat.le_succ T)).swap)
    rcases List.mem_or_eq_of_mem_set hzz with hzz | rfl
    · exact pnC_up (hpn z hzz) (Nat.le_succ c)
    · match z, hy 0, hz with
      | none, _, _ => trivial
      | some z, hy, hz => exact ⟨hy.1, hy.2, by rw [(hz z rfl).2]; omega⟩
  refine st_n hx hk O 1 rfl fun c1 _ => ?_
  refine st_w h2 hx hk O 1 rfl fun c2 _ => ?_
  match x, hx with
  | none, hx =>
    refine brr_tt rfl ?_
    have O := O.drop
    exact kk xs h h2 (fun z hz => pnC_up (hpn z hz) (Nat.le_succ c)) (bk_up O.swap (Nat.le_succ T)).swap
  | some (p, q, n), hx =>
    refine brr_ff rfl ?_
    have hpx := hpn _ (List.mem_of_getElem? hx)
    have ok : n.Ok := hpx.1
    have sh : n.Short := hpx.2.1
    refine O.ld 0 rfl (ldL_c (ldL_n ?_))
    have O := ((O.sel [3, 0, 1, 2] 4 rfl (Nat.le_add_left _ _)).take k hx).sep
    have O : Sat h0 h (netR p n :: rnR q n :: hole pnR xs k :: own b (nopC o) :: own a (stC xs bk mark) :: bkR bk T :: L) := O
    show jn _ _ _
    simp only [pnN, pnW]
    refine jn1 (fun z h' => z = true ∧ ∃ n', pnC (c + 1) (some (p, q, n')) ∧ Sat h0 h' (netR p n' :: rnR q n' :: hole pnR xs k :: own b (nopC o) :: own a (stC xs bk mark) :: bkR bk (T + 1) :: L)) ?_ ?_
    · clear O
      rintro z h ⟨rfl, n', hn', O⟩
      refine jn1 (fun z h' => z = true ∧ h' = h) ?_ ?_
      · rintro z h ⟨rfl, rfl⟩
        have O := Sat.give (f := pnR) (y := some (p, q, n')) O.sepI (List.getElem?_eq_some_iff.1 hx).1
        have O : Sat h0 h (many pnR (xs.set k (some (p, q, n'))) :: own b (nopC o) :: own a (stC xs bk mark) :: bkR bk (T + 1) :: L) := O
        rw [← stC_same (n' := n') hx] at O
        replace O := O.sel [2, 3, 0] 4 rfl (Nat.le_add_left _ _)
        simp only [selT, List.map, nth, List.drop, List.cons_append, List.nil_append] at O
        refine kk _ h (by simp [h2]) (fun z hzz => ?_) O
        rcases List.mem_or_eq_of_mem_set hzz with hzz | rfl
        · exact pnC_up (hpn z hzz) (Nat.le_succ c)
        · exact hn'
      · intro j hj
        refine brr_tt rfl ?_
        simp only [nn_some, pt_add, Nat.zero_add, Nat.add_zero, Nat.reduceAdd, Nat.reduceMul, Int.toNat_zero, Int.toNat_one, Nat.zero_mul, Nat.one_mul]
        refine F_net_row_Len.is O ?_
        refine F_ref6_Net_Len.is O.swap ?_
        refine brr_eq (fun _ => ?_) (fun e => absurd rfl e)
        refine F_net_Net_Lost.is O ?_
        refine F_ref6_Net_Lost.is O.swap ?_
        exact hj _ _ ⟨by simp, rfl⟩
    intro j23 hj23
    have fin : ∀ {j : Bool → Heap → Prop}, (∀ z h', (z = true ∧ ∃ n', pnC (c + 1) (some (p, q, n')) ∧ Sat h0 h' (netR p n' :: rnR q n' :: hole pnR xs k :: own b (nopC o) :: own a (stC xs bk mark) :: bkR bk (T + 1) :: L)) → j z h') → ∀ {z : Bool} {n' : NS} {h : Heap}, z = true → pnC (c + 1) (some (p, q, n')) → Sat h0 h (netR p n' :: rnR q n' :: hole pnR xs k :: own b (nopC o) :: own a (stC xs bk mark) :: bkR bk (T + 1) :: L) → j z h := fun hj _ _ _ hz hn O => hj _ _ ⟨hz, _, hn, O⟩
    clear kk
    have up1 : ∀ {h : Heap} {n' : NS}, Sat h0 h (netR p n' :: rnR q n' :: hole pnR xs k :: own b (nopC o) :: own a (stC xs bk mark) :: bkR bk T :: L) → Sat h0 h (netR p n' :: rnR q n' :: hole pnR xs k :: own b (nopC o) :: own a (stC xs bk mark) :: bkR bk (T + 1) :: L) := fun O =>
      (bk_up (O.sel [5, 0, 1, 2, 3, 4] 6 rfl (Nat.le_add_left _ _)) (Nat.le_succ T)).sel [1, 2, 3, 4, 5, 0] 6 rfl (Nat.le_add_left _ _)
    have ca : ∀ {h : Heap} {M : List Res} (O : Sat h0 h M) (i : Nat) (hl : i < M.length) (hi : nth i M = own b (nopC o)) (j m : Nat), cellsAre h (pt b j) (((nopC o).drop j).take m) := fun O i hl hi j m => cellsAre_blk (O.blk hl hi).2 j m
    refine brr_eq (fun h1 => ?_) (fun h1 => ?_)
    · refine O.ld 3 rfl (ldL_c (ldL_n ?_))
      replace O := O.sel [3, 0, 1, 2, 4, 5] 6 rfl (Nat.le_add_left _ _)
      simp only [selT, List.map, nth, List.drop, List.cons_append, List.nil_append] at O
      refine F_law1_Lend.is O (Vb.kept O.kept) hb fun r h O hr => ?_
      refine jn1 (fun z h' => z = true ∧ Sat h0 h' (lent r o.b :: netR p (n.send (o.to, o.b)) :: rnR q (n.send (o.to, o.b)) :: hole pnR xs k :: own b (nopC o) :: own a (stC xs bk mark) :: bkR bk T :: L)) ?_ ?_
      · clear O
        rintro z h ⟨rfl, O⟩
        refine F_law1_Over.is O hr (by omega) fun h O => ?_
        exact fin hj23 rfl (pnC_send hc hpx (by show o.b.length ≤ _; omega)) (up1 O)
      · intro j hj
        refine O.ld 1 rfl (ldL_c (ldL_n ?_))
        refine O.ld 1 rfl (ldL_c (ldL_n ?_))
        refine O.ld 1 rfl (ldL_c (ldL_n ?_))
        replace O := O.sel [2, 0, 1, 3, 4, 5, 6] 7 rfl (Nat.le_add_left _ _)
        simp only [selT, List.map, nth, List.drop, List.cons_append, List.nil_append] at O
        refine F_net_Net_Send.is ok (O.lent 1 (by simp) rfl).1 O fun h O => ?_
        refine ⟨ca O 2 (by simp) rfl 3 1, ca O 2 (by simp) rfl 4 1, ?_⟩
        replace O := O.sel [3, 0, 1, 2, 4, 5, 6] 7 rfl (Nat.le_add_left _ _)
        simp only [selT, List.map, nth, List.drop, List.cons_append, List.nil_append] at O
        refine F_ref6_Net_Send.is ok (fun h O => Vb.kept O.kept) (by omega) O fun h O => ?_
        refine brr_tt (by simp) ?_
        refine O.ld 3 rfl (ldL_c (ldL_n ?_))
        refine F_law1_Intact.is O 2 (by simp) rfl (Vb.kept O.kept) (by omega) ?_
        refine hj _ _ ⟨by simp, ?_⟩
        exact O.sel [2, 1, 0, 4, 3, 5, 6] 7 rfl (Nat.le_add_left _ _)
    refine jn1 _ hj23 ?_
    intro j41 hj41
    refine brr_eq (fun g2 => ?_) (fun g2 => ?_)
    · refine jn2 (fun (f : Addr) (z : Bool) h' => ∃ c s, f = pt c 0 ∧ z = n.has o.at_ ∧ Sat h0 h' (own c [.int .i64 (n.at_ o.at_).1, .slice s.ptr s.len s.cap] :: buf 1 u8 s (n.at_ o.at_).2 :: netR p n :: rnR q n :: hole pnR xs k :: own b (nopC o) :: own a (stC xs bk mark) :: bkR bk T :: L)) ?_ ?_
      · clear O
        rintro f z h ⟨c1, s, rfl, rfl, O⟩
        refine O.ld 5 rfl (ldL_c (ldL_n ?_))
        replace O := O.sel [3, 0, 1, 2, 4, 5, 6, 7] 8 rfl (Nat.le_add_left _ _)
        simp only [selT, List.map, nth, List.drop, List.cons_append, List.nil_append] at O
        refine F_ref6_Net_Look.is sh O fun s2 h O => ?_
        refine O.al fun d2 h O => ?_
        refine O.st 0 rfl (by simp) rfl fun h O => ?_
        dsimp only [V.put, List.set] at O
        refine O.ld 3 rfl (ldL_c (ldL_c (k := .sl) (x := s) (ldL_n ?_)))
        refine O.ld 0 rfl (ldL_c (ldL_c (k := .sl) (x := s2) (ldL_n ?_)))
        replace O := O.sel [4, 1, 8, 9, 5, 2, 6, 7] 10 rfl (Nat.le_add_left _ _)
        simp only [selT, List.map, nth, List.drop, List.cons_append, List.nil_append] at O
        refine F_law6_stage_told.is h2 (by omega) (at_short sh) O fun h O => ?_
        refine fin hj41 rfl (pnC_up hpx (Nat.le_succ c)) ?_
        exact O.sel [2, 3, 4, 5, 0, 1] 6 rfl (Nat.le_add_left _ _)
      · intro j hj
        refine ⟨?_, ?_⟩
        · show nn (some (pt p 0)) _
          simp only [nn_some, pt_add, Nat.zero_add, Nat.add_zero, Nat.reduceAdd, Nat.reduceMul, Int.toNat_zero, Int.toNat_one, Nat.zero_mul, Nat.one_mul]
          refine O.ld 3 rfl (ldL_c (ldL_n ?_))
          refine F_net_row_Look.is O fun s h O => ?_
          refine O.al fun d h O => ?_
          refine ⟨ca O 5 (by simp) rfl 2 1, ?_⟩
          refine O.st 0 rfl (by simp) rfl fun h O => ?_
          dsimp only [V.put, List.set] at O
          exact hj _ _ _ ⟨d, s, rfl, rfl, O⟩
        · show nn (some (pt p 0)) _
          simp only [nn_some, pt_add, Nat.zero_add, Nat.add_zero, Nat.reduceAdd, Nat.reduceMul, Int.toNat_zero, Int.toNat_one, Nat.zero_mul, Nat.one_mul]
          refine O.ld 3 rfl (ldL_c (ldL_n ?_))
          refine O.al fun d h O => ?_
          refine ⟨ca O 4 (by simp) rfl 2 1, ?_⟩
          replace O := O.sel [1, 2, 3, 4, 5, 6, 0] 7 rfl (Nat.le_add_left _ _)
          simp only [selT, List.map, nth, List.drop, List.cons_append, List.nil_append] at O
          refine F_net_row_Look.is O fun s h O => ?_
          replace O := O.sel [7, 0, 1, 2, 3, 4, 5, 6] 8 rfl (Nat.le_add_left _ _)
          simp only [selT, List.map, nth, List.drop, List.cons_append, List.nil_append] at O
          refine O.st 0 rfl (by simp) rfl fun h O => ?_
          dsimp only [V.put, List.set] at O
          exact hj _ _ _ ⟨d, s, rfl, rfl, O⟩
    refine jn1 _ hj41 ?_
    intro j78 hj78
    refine brr_eq (fun h3 => ?_) (fun h3 => ?_)
    · refine jn2 (fun (f : Addr) (z : Bool) h' => ∃ c s, f = pt c 0 ∧ z = n.has o.at_ ∧ Sat h0 h' (own c [.int .i64 (n.at_ o.at_).1, .slice s.ptr s.len s.cap] :: buf 1 u8 s (n.at_ o.at_).2 :: netR p (n.drop o.at_) :: rnR q n :: hole pnR xs k :: own b (nopC o) :: own a (stC xs bk mark) :: bkR bk T :: L)) ?_ ?_
      · clear O
        rintro f z h ⟨c1, s, rfl, rfl, O⟩
        refine O.ld 5 rfl (ldL_c (ldL_n ?_))
        replace O := O.sel [3, 0, 1, 2, 4, 5, 6, 7] 8 rfl (Nat.le_add_left _ _)
        simp only [selT, List.map, nth, List.drop, List.cons_append, List.nil_append] at O
        refine F_ref6_Net_Take.is ok sh O fun s2 h O => ?_
        refine O.al fun d2 h O => ?_
        refine O.st 0 rfl (by simp) rfl fun h O => ?_
        dsimp only [V.put, List.set] at O
        refine O.ld 3 rfl (ldL_c (ldL_c (k := .sl) (x := s) (ldL_n ?_)))
        refine O.ld 0 rfl (ldL_c (ldL_c (k := .sl) (x := s2) (ldL_n ?_)))
        replace O := O.sel [4, 1, 8, 9, 5, 2, 6, 7] 10 rfl (Nat.le_add_left _ _)
        simp only [selT, List.map, nth, List.drop, List.cons_append, List.nil_append] at O
        refine F_law6_stage_told.is h2 (by omega) (at_short sh) O fun h O => ?_
        refine fin hj78 rfl (pnC_drop (i := o.at_) hpx) ?_
        exact O.sel [2, 3, 4, 5, 0, 1] 6 rfl (Nat.le_add_left _ _)
      · intro j hj
        refine ⟨?_, ?_⟩
        · show nn (some (pt p 0)) _
          simp only [nn_some, pt_add, Nat.zero_add, Nat.add_zero, Nat.reduceAdd, Nat.reduceMul, Int.toNat_zero, Int.toNat_one, Nat.zero_mul, Nat.one_mul]
          refine O.ld 3 rfl (ldL_c (ldL_n ?_))
          refine F_net_row_Take.is hat ok O fun s h O => ?_
          refine O.al fun d h O => ?_
          refine ⟨ca O 5 (by simp) rfl 2 1, ?_⟩
          refine O.st 0 rfl (by simp) rfl fun h O => ?_
          dsimp only [V.put, List.set] at O
          exact hj _ _ _ ⟨d, s, rfl, rfl, O⟩
        · show nn (some (pt p 0)) _
          simp only [nn_some, pt_add, Nat.zero_add, Nat.add_zero, Nat.reduceAdd, Nat.reduceMul, Int.toNat_zero, Int.toNat_one, Nat.zero_mul, Nat.one_mul]
          refine O.ld 3 rfl (ldL_c (ldL_n ?_))
          refine O.al fun d h O => ?_
          refine ⟨ca O 4 (by simp) rfl 2 1, ?_⟩
          replace O := O.sel [1, 2, 3, 4, 5, 6, 0] 7 rfl (Nat.le_add_left _ _)
          simp only [selT, List.map, nth, List.drop, List.cons_append, List.nil_append] at O
          refine F_net_row_Take.is hat ok O fun s h O => ?_
          replace O := O.sel [7, 0, 1, 2, 3, 4, 5, 6] 8 rfl (Nat.le_add_left _ _)
          simp only [selT, List.map, nth, List.drop, List.cons_append, List.nil_append] at O
          refine O.st 0 rfl (by simp) rfl fun h O => ?_
          dsimp only [V.put, List.set] at O
          exact hj _ _ _ ⟨d, s, rfl, rfl, O⟩
    refine jn1 _ hj78 ?_
    intro j115 hj115
    refine brr_eq (fun h4 => ?_) (fun h4 => ?_)
    · show nn (some (pt p 0)) _
      simp only [nn_some, pt_add, Nat.zero_add, Nat.add_zero, Nat.reduceAdd, Nat.reduceMul, Int.toNat_zero, Int.toNat_one, Nat.zero_mul, Nat.one_mul]
      refine O.ld 3 rfl (ldL_c (ldL_n ?_))
      refine O.ld 3 rfl (ldL_c (ldL_n ?_))
      refine F_net_row_Drop.is (by have := ok.le; have := ok.room; omega) O fun h O => ?_
      refine ⟨ca O 3 (by simp) rfl 2 1, ?_⟩
      refine F_ref6_Net_Drop.is ok O.swap fun h O => ?_
      exact fin hj115 (by simp) (pnC_drop (i := o.at_) hpx) (up1 O.swap)
    refine jn1 _ hj115 ?_
    intro j123 hj123
    refine brr_eq (fun h5 => ?_) (fun h5 => ?_)
    · show nn (some (pt p 0)) _
      simp only [nn_some, pt_add, Nat.zero_add, Nat.add_zero, Nat.reduceAdd, Nat.reduceMul, Int.toNat_zero, Int.toNat_one, Nat.zero_mul, Nat.one_mul]
      refine O.ld 3 rfl (ldL_c (ldL_n ?_))
      refine O.ld 3 rfl (ldL_c (ldL_n ?_))
      refine F_net_row_Double.is ok O fun h O => ?_
      refine ⟨ca O 3 (by simp) rfl 2 1, ?_⟩
      refine F_ref6_Net_Double.is ok sh O.swap fun h O => ?_
      exact fin hj123 (by simp) (pnC_double (i := o.at_) hpx) (up1 O.swap)
    exact fin hj123 rfl (pnC_up hpx (Nat.le_succ c)) (up1 O)
end
end Go.Proofs.Ytboidjampddfoaa.V
/- Two nets in turns: the whole play; NetExact. -/
namespace Go.Proofs.Ytboidjampddfoaa.V
open Go Go.RowKit
set_option linter.unusedVariables false
set_option linter.unusedSimpArgs false
abbrev tyNOp : Ty := .cons (.int .i64) (.cons (.int .i64) (.cons (.int .i64) (.cons (.int .i64) (.cons (.sl 1 1 (.int .u8)) .nil))))
abbrev tyNScript : Ty := .cons (.cons (.int .i64) (.cons (.int .i64) .nil)) (.cons (.sl 5 56 tyNOp) .nil)
def nopR (H : Heap) (o : NOp) (cs : List Value) : Prop := cs = nopC o ∧ Bytes H o.s o.b ∧ o.b.length + 3 ≤ 140737488355328 ∧ o.at_ ≤ (9223372036854775807 : Int)
theorem SlN.nops {h : Heap} {s : Sl} (S : SlN h 140737488351232 5 56 s fun cs => Fit h 140737488351232 tyNOp cs) : ∃ l : List NOp, View h 5 (nopR h) s l := by
  obtain ⟨h1, h2, _, xs, V⟩ := S.view (nopR h) (fun cs F => by
    obtain ⟨_, _, rfl, _, ⟨t1, rfl, t1a, t1b⟩, _, _, rfl, _, ⟨t2, rfl, t2a, t2b⟩, _, _, rfl, _, ⟨t3, rfl, t3a, t3b⟩, _, _, rfl, _, ⟨t4, rfl, t4a, t4b⟩, _, _, rfl, _, ⟨t5, rfl, t5S⟩, rfl⟩ := F
    rw [i64_max] at t3b
    obtain ⟨hc, hc2, l, Vl⟩ := t5S.bytes
    have hl := Vl.len
    refine ⟨⟨t1, t2, t3, t4, t5, l⟩, ?_, Vl, by show l.length + 3 ≤ _; omega, t3b⟩
    show _ = [_, _, _, _, _]
    rfl)
  exact ⟨xs, V⟩
section
variable {h0 h : Heap} {L : List Res}
theorem book_new {bk : Nat} (O : Sat h0 h (own bk (bkC ⟨none, 0, 0⟩ ⟨none, 0, 0⟩ 0 0 0 0) :: L)) : Sat h0 h (bkR bk 0 :: L) := by
  have O := famR.none O
  have O := O.nil_buf (sz := 1) (enc := natc)
  have O := O.nil_buf (sz := 1) (enc := slc)
  replace O := O.sel [3, 0, 1, 2] 4 rfl (Nat.le_add_left _ _)
  simp only [selT, List.map, nth, List.drop, List.cons_append, List.nil_append] at O
  exact Sat.bookI (x := ⟨⟨none, 0, 0⟩, ⟨none, 0, 0⟩, [], 0, 0, 0, 0⟩) ⟨Nat.le_refl _, Nat.le_refl _, by simp, by decide, fun i e hi => by simp at hi⟩ O
theorem pnOk_of {c : Nat} {x : PN} (h : pnC c x) : pnOk 0 x := by
  match x, h with
  | none, _ => trivial
  | some x, h => exact ⟨h.1, h.2.1⟩
theorem pnC_new {c : Nat} {y : PN} (hy : ∀ N, pnOk N y) (hz : ∀ z, y = some z → z.2.2.l = [] ∧ z.2.2.lost = 0) : pnC c y := by
  match y, hy 0, hz with
  | none, _, _ => trivial
  | some z, hy, hz => exact ⟨hy.1, hy.2, by rw [(hz z rfl).2]; omega⟩
/-- The stage as it is made. -/
theorem stage0 {bk a : Nat} {mark : Bool} {r0 r1 : Int} {c5 : Nat} {s3 : Sl} {j : Bool → Heap → Prop} (O : Sat h0 h (own a [.pointer none, .pointer none, .pointer none, .pointer none, .pointer (some (pt bk 0)), .bool mark] :: own bk (bkC ⟨none, 0, 0⟩ ⟨none, 0, 0⟩ 0 0 0 0) :: own c5 [.int .i64 r0, .int .i64 r1, .slice s3.ptr s3.len s3.cap] :: L))
    (kk : ∀ (xs : List PN) h', xs.length = 2 → (∀ x ∈ xs, pnC 0 x) → Sat h0 h' (own a (stC xs bk mark) :: bkR bk 0 :: many pnR xs :: own c5 [.int .i64 r0, .int .i64 r1, .slice s3.ptr s3.len s3.cap] :: L) → j false h') :
    ixA 1 (pt c5 0) 2 0 fun a12 => ld [.int .i64] a12 h fun v13 => F_law6_stage_fresh (some (pt a 0)) 0 v13 h fun r14 h15 => brr (!r14) (j true h15) (ixA 1 (pt c5 0) 2 1 fun a16 => ld [.int .i64] a16 h15 fun v17 => F_law6_stage_fresh (some (pt a 0)) 1 v17 h15 fun r18 h19 => j (!r18) h19) := by
  have O : Sat h0 h (own a (stC [none, none] bk mark) :: own bk (bkC ⟨none, 0, 0⟩ ⟨none, 0, 0⟩ 0 0 0 0) :: own c5 [.int .i64 r0, .int .i64 r1, .slice s3.ptr s3.len s3.cap] :: L) := O
  have O := (book_new O.swap).swap
  have O : Sat h0 h (many pnR [] :: own a (stC [none, none] bk mark) :: bkR bk 0 :: own c5 [.int .i64 r0, .int .i64 r1, .slice s3.ptr s3.len s3.cap] :: L) := O.none (f := pnR)
  have O : Sat h0 h (pnR none :: many pnR [] :: own a (stC [none, none] bk mark) :: bkR bk 0 :: own c5 [.int .i64 r0, .int .i64 r1, .slice s3.ptr s3.len s3.cap] :: L) := O.empI
  have O := O.more
  have O : Sat h0 h (pnR none :: many pnR [none] :: own a (stC [none, none] bk mark) :: bkR bk 0 :: own c5 [.int .i64 r0, .int .i64 r1, .slice s3.ptr s3.len s3.cap] :: L) := O.empI
  have O := O.more
  have O : Sat h0 h (many pnR [none, none] :: own a (stC [none, none] bk mark) :: bkR bk 0 :: own c5 [.int .i64 r0, .int .i64 r1, .slice s3.ptr s3.len s3.cap] :: L) := O
  refine ⟨by decide, by decide, ?_⟩
  simp only [pt_add, Int.toNat_zero, Nat.zero_mul, Nat.add_zero]
  refine O.ld 3 rfl (ldL_c (ldL_n ?_))
  replace O := O.sel [1, 0, 2, 3] 4 rfl (Nat.le_add_left _ _)
  simp only [selT, List.map, nth, List.drop, List.cons_append, List.nil_append] at O
  refine F_law6_stage_fresh.is (k := 0) rfl (by decide) O fun y0 h hy0 hz0 O => ?_
  refine brr_ff rfl ?_
  refine ⟨by decide, by decide, ?_⟩
  simp only [pt_add, Int.toNat_one, Nat.one_mul, Nat.zero_add]
  refine O.ld 3 rfl (ldL_c (ldL_n ?_))
  refine F_law6_stage_fresh.is (k := 1) rfl (by decide) O fun y1 h hy1 hz1 O => ?_
  refine kk [y0, y1] h rfl (fun x hx => ?_) (O.sel [0, 2, 1, 3] 4 rfl (Nat.le_add_left _ _))
  simp only [List.mem_cons, List.not_mem_nil, or_false] at hx
  rcases hx with rfl | rfl
  · exact pnC_new hy0 hz0
  · exact pnC_new hy1 hz1
theorem F_law6_play.is {r0 r1 : Int} {s3 : Sl} {mark : Bool} {ops : List NOp} {Q : Bool → Heap → Prop} (Vo : View h0 5 (nopR h0) s3 ops) (O : Sat h0 h L) (kk : ∀ h', Sat h0 h' L → Q true h') : F_law6_play r0 r1 s3 mark h Q := by
  rw [F_law6_play.eq_1, F_law6_play_of.eq_1]
  refine O.al fun c5 h O => ?_
  refine O.al fun bk h O => ?_
  refine O.al fun a h O => ?_
  refine jn1 (fun z h' => z = false ∧ ∃ xs : List PN, xs.length = 2 ∧ (∀ x ∈ xs, pnC 0 x) ∧ Sat h0 h' (own a (stC xs bk mark) :: bkR bk 0 :: many pnR xs :: own c5 [.int .i64 r0, .int .i64 r1, .slice s3.ptr s3.len s3.cap] :: L)) ?_ ?_
  case refine_2 =>
    intro j hj
    exact stage0 O fun xs h h2 hx O => hj _ _ ⟨rfl, xs, h2, hx, O⟩
  clear O
  rintro z h ⟨rfl, xs, h2, hx, O⟩
  refine brr_ff rfl ?_
  refine jn0 (fun h' => ∃ xs : List PN, xs.length = 2 ∧ (∀ x ∈ xs, pnOk 0 x) ∧ Sat h0 h' (own a (stC xs bk mark) :: many pnR xs :: L)) ?_ ?_
  · clear O hx h2 xs
    rintro h ⟨xs, h2, hx, O⟩
    refine jn1 (fun z h' => z = true ∧ Sat h0 h' L) (fun z h' ⟨e, O⟩ => e ▸ kk h' O) fun j hj => ?_
    refine F_law6_stage_all.is (k := 0) h2 (by decide) hx O fun h O => ?_
    refine brr_tt rfl ?_
    refine F_law6_stage_all.is (k := 1) h2 (by decide) hx O fun h O => ?_
    refine brr_tt rfl ?_
    refine F_law6_lives.is O.drop.drop fun h O => ?_
    exact hj _ _ ⟨rfl, O⟩
  intro j22 hj22
  rw [F_law6_play.l1.eq_1]
  refine wl1 (k := .int .i64) (fun (m : Nat) (i : Int) (h' : Heap) => i + m = ops.length ∧ 0 ≤ i ∧ i ≤ 400 ∧ ∃ xs : List PN, xs.length = 2 ∧ (∀ x ∈ xs, pnC i.toNat x) ∧ Sat h0 h' (own a (stC xs bk mark) :: bkR bk i.toNat :: many pnR xs :: own c5 [.int .i64 r0, .int .i64 r1, .slice s3.ptr s3.len s3.cap] :: L)) ?_ (m := ops.length) ⟨by omega, by omega, by omega, xs, h2, hx, O⟩
  clear O hx h2 xs
  rintro m (i : Int) h next hn ⟨hi, hi0, hi4, xs, h2, hx, O⟩
  refine jn1 (fun t h' => h' = h ∧ t = decide (i < ops.length ∧ i < 400)) ?_ ?_
  case refine_2 =>
    intro j2 hj2
    simp only [nn_some, pt_add, Nat.zero_add, Nat.add_zero, Nat.reduceAdd, Nat.reduceMul, Int.toNat_zero, Int.toNat_one, Nat.zero_mul, Nat.one_mul]
    refine O.ld 3 rfl (ldL_c (k := .sl) (x := s3) (ldL_n ?_))
    rw [Vo.len]
    refine brr_p (fun hlt => ?_) (fun hlt => ?_)
    · exact hj2 _ _ ⟨rfl, by simp [hlt]⟩
    · exact hj2 _ _ ⟨rfl, by simp; intro h; omega⟩
  rintro t h ⟨rfl, rfl⟩
  refine brr_p (fun ht => ?_) (fun ht => hj22 _ ⟨xs, h2, fun x hm => pnOk_of (hx x hm), O.sel [0, 2] 4 rfl (Nat.le_add_left _ _)⟩)
  obtain ⟨hlt, hlt4⟩ := ht
  refine jn1 (fun z h' => z = false ∧ ∃ xs : List PN, xs.length = 2 ∧ (∀ x ∈ xs, pnC (i.toNat + 1) x) ∧ Sat h0 h' (own a (stC xs bk mark) :: bkR bk (i.toNat + 1) :: many pnR xs :: own c5 [.int .i64 r0, .int .i64 r1, .slice s3.ptr s3.len s3.cap] :: L)) ?_ ?_
  · clear O hx h2 xs
    rintro z h ⟨rfl, xs, h2, hx, O⟩
    refine brr_ff rfl ?_
    have e1 : (i + 1).toNat = i.toNat + 1 := by omega
    rw [wrap64 (by omega) (by omega)]
    exact hn (m - 1) _ _ (by omega) ⟨by omega, by omega, by omega, xs, h2, by rw [e1]; exact hx, by rw [e1]; exact O⟩
  intro j30 hj30
  simp only [nn_some, pt_add, Nat.zero_add, Nat.add_zero, Nat.reduceAdd, Nat.reduceMul, Int.toNat_zero, Int.toNat_one, Nat.zero_mul, Nat.one_mul]
  refine O.ld 3 rfl (ldL_c (k := .sl) (x := s3) (ldL_n ?_))
  refine (Vo.kept O.kept).ix hi0 hlt fun a2 cs o ho hlen hR hc => ?_
  obtain ⟨rfl, Vb, hb, hat⟩ := hR
  refine ld_are hc (ldL_c (ldL_c (ldL_c (ldL_c (ldL_c (k := .sl) (x := o.s) (ldL_n ?_))))))
  refine F_law6_stage_plays.is h2 (by omega) (by omega) hx Vb hb hat O fun ys h h2 hy O => ?_
  refine brr_ff rfl ?_
  have e4 : ∀ {h : Heap} {K : Option Addr → Prop}, Sat h0 h (own a (stC ys bk mark) :: bkR bk (i.toNat + 1) :: many pnR ys :: own c5 [.int .i64 r0, .int .i64 r1, .slice s3.ptr s3.len s3.cap] :: L) → K (some (pt bk 0)) → ld [.ptr] (pt a 4) h K := by
    intro h K O k
    refine O.ld 0 rfl ?_
    rw [stC_tail h2]
    exact ldL_c (k := .ptr) (ldL_n k)
  refine e4 O ?_
  refine F_law1_Book_Look.is (by omega) O.swap fun h O => ?_
  exact hj30 _ _ ⟨rfl, ys, h2, hy, O.swap⟩
end
theorem netExact_main (H : Heap) (cs : List Value) (F : Fit H 140737488351232 tyNScript cs) : E_law6_NetExact [.agg cs.toArray] H (fun r h' => r = .bool true ∧ KeptH H h') := by
  obtain ⟨_, _, rfl, _, ⟨_, _, rfl, _, ⟨t1, rfl, _, _⟩, _, _, rfl, _, ⟨t2, rfl, _, _⟩, rfl⟩, _, _, rfl, _, ⟨t3, rfl, t3S⟩, rfl⟩ := F
  simp only [List.cons_append, List.nil_append, List.append_nil]
  refine Eq.mpr (E_law6_NetExact.at F_law6_NetExact t1 t2 t3 H _) ?_
  obtain ⟨ops, Vo⟩ := t3S.nops
  rw [F_law6_NetExact.eq_1, F_law6_NetExact_of.eq_1]
  refine Sat.al (Sat.nil H) fun c4 h1 O => ?_
  refine O.ld 0 rfl (ldL_c (ldL_c (ldL_c (k := .sl) (x := t3) (ldL_n ?_))))
  refine F_law6_play.is Vo O fun h O => ?_
  exact ⟨rfl, O.kept⟩
end Go.Proofs.Ytboidjampddfoaa.V
