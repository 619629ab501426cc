/- A lease keeps its fence: what LeaseFence plays. -/
import Derived.Test.YtboidjampddfoaaMLease
import Derived.Test.YtboidjampddfoaaGlaw11LeaseFence
namespace Go.Proofs.Ytboidjampddfoaa.V
open Go Go.RowKit
set_option linter.unusedVariables false
set_option linter.unusedSimpArgs false
abbrev tyInts : Ty := .sl 1 8 (.int .i64)
abbrev tyHold : Ty := .cons (.int .i64) (.cons (.int .i64) (.cons tyInts (.cons tyInts (.cons tyInts .nil))))
def i64c (x : Int) : List Value := [.int .i64 x]
theorem SlN.ints {h : Heap} {N : Nat} {s : Sl} (S : SlN h N 1 8 s fun cs => Fit h N (.int .i64) cs) : ∃ l : List Int, View h 1 (En i64c) s l := by
  obtain ⟨_, _, _, xs, V⟩ := S.view (En i64c) (fun cs ⟨x, e, _, _⟩ => ⟨x, e⟩)
  exact ⟨xs, V⟩
section
variable {h0 h : Heap} {L : List Res} {b : Nat} {l : LS}
theorem F_law11_at.is {s : Sl} {xs : List Int} {i m : Int} {Q : Int → Heap → Prop} (V : View h 1 (En i64c) s xs) (hi : 0 ≤ i) (hm : 0 < m) (hm2 : m < 4611686018427387904) (k : ∀ r, 0 ≤ r → r < m → Q r h) : F_law11_at s i m h Q := by
  rw [F_law11_at.eq_1, F_law11_at_of.eq_1]
  rw [V.len]
  refine brr_eq (fun hl => k 0 (by omega) hm) (fun hl => ⟨hl, ?_⟩)
  have hp : (0 : Int) < (xs.length : Int) := by omega
  rw [Int.tmod_eq_emod_of_nonneg hi]
  refine V.ix (Int.emod_nonneg _ hl) (Int.emod_lt_of_pos _ hp) fun a cs x hx hlen hR hc => ?_
  subst hR
  refine ld_are hc (ldL_c (ldL_n ?_))
  refine F_law11_within.is hm hm2 ?_
  exact k _ (Int.emod_nonneg _ (by omega)) (Int.emod_lt_of_pos _ hm)
theorem LS.next1 {l : LS} (o : l.Ok) (hc : l.copies = 1) (hs : l.seen < (1099511627776 : Int)) : l.next = l.seen + 1 := by
  unfold LS.next
  have h1 := o.place0; have h2 := o.place1; have h3 := o.seen0
  have hp : l.place = 0 := by omega
  rw [if_neg (by omega)]
  simp only [hc, hp, Int.emod_one, Int.le_refl, if_true]
  rw [if_neg (by omega)]
  omega
theorem LS.tick_free {l : LS} (o : l.Ok) (hc : l.copies = 1) (hs : l.seen < 100) :
    (l.tick 0 false true).copies = 1 ∧ (l.tick 0 false true).most = l.most ∧ ((l.tickE 0 false true ≠ 0 ∧ (l.tick 0 false true).seen = l.seen + 1 ∧ (l.tick 0 false true).left ≤ l.most) ∨
      (l.tickE 0 false true = 0 ∧ (l.tick 0 false true).seen = l.seen ∧ (l.tick 0 false true).left = l.left - 1 ∧ 2 ≤ l.left)) := by
  unfold LS.tick LS.tickE
  have on := LS.next1 o.pass.down hc (show l.seen < (1099511627776 : Int) by omega)
  have hl0 := o.left0; have hs0 := o.seen0; have hp := o.pat1
  have e : l.pass.down.left = if l.left - 1 < 0 then 0 else l.left - 1 := rfl
  have es : l.pass.down.seen = l.seen := rfl
  simp only [Bool.false_eq_true, if_false, if_true, and_true]
  by_cases h0 : l.left ≤ 1
  · have e0 : l.pass.down.left = 0 := by rw [e]; split <;> omega
    rw [if_pos e0, if_pos e0]
    unfold LS.begin
    rw [if_pos (by omega), on, es]
    refine ⟨hc, rfl, .inl ⟨by omega, rfl, ?_⟩⟩
    show (if 2 * l.patience > l.most then l.most else 2 * l.patience) ≤ l.most
    split <;> omega
  · have e0 : ¬ l.pass.down.left = 0 := by rw [e]; split <;> omega
    rw [if_neg e0, if_neg e0]
    refine ⟨hc, rfl, .inr ⟨rfl, rfl, ?_, by omega⟩⟩
    rw [e, if_neg (by omega)]
end
theorem leaseFence_main (h : Heap) (cs : List Value) (F : Fit h 140737488351232 tyHold cs) : E_law11_LeaseFence [.agg cs.toArray] h (fun r h' => r = .bool true ∧ KeptH h h') := by
  obtain ⟨_, _, rfl, _, ⟨t1, rfl, t1a, t1b⟩, _, _, rfl, _, ⟨t2, rfl, t2a, t2b⟩, _, _, rfl, _, ⟨t3, rfl, t3S⟩, _, _, rfl, _, ⟨t4, rfl, t4S⟩, _, _, rfl, _, ⟨t5, rfl, t5S⟩, rfl⟩ := F
  simp only [List.cons_append, List.nil_append, List.append_nil]
  refine Eq.mpr (E_law11_LeaseFence.at F_law11_LeaseFence t1 t2 t3 t4 t5 h _) ?_
  obtain ⟨x3, V3⟩ := t3S.ints
  obtain ⟨x4, V4⟩ := t4S.ints
  obtain ⟨x5, V5⟩ := t5S.ints
  rw [F_law11_LeaseFence.eq_1, F_law11_LeaseFence_of.eq_1]
  refine Sat.al (Sat.nil h) fun ba h1 O => ?_
  simp only [nn_some, pt_add, Nat.zero_add, Nat.add_zero, Nat.reduceAdd, Nat.reduceMul, Int.toNat_zero, Int.toNat_one, Nat.zero_mul, Nat.one_mul]
  refine F_law11_begun.is O fun h1 O => ?_
  refine brr_ff rfl ?_
  refine O.ld 0 rfl (ldL_c (ldL_n ?_))
  refine F_law11_within.is (by decide) (by decide) ?_
  have m0 := Int.emod_nonneg t1 (show (100 : Int) ≠ 0 by decide)
  have m1 := Int.emod_lt_of_pos t1 (show (0 : Int) < 100 by decide)
  rw [wrap64 (by omega) (by omega)]
  refine F_lease_New.is O (by decide) (by decide) (by decide) (by rw [i64_max]; omega) fun b h1 O => ?_
  have o : (LS.new 0 1 (4 + t1 % 100) 0).Ok := LS.new_ok (by decide) (by omega) (by decide) (by decide)
  refine jn0 (fun h' => ∃ l : LS, l.Ok ∧ l.most ≤ 103 ∧ Sat h h' [own b (leaseC l), own ba [.int .i64 t1, .int .i64 t2, .slice t3.ptr t3.len t3.cap, .slice t4.ptr t4.len t4.cap, .slice t5.ptr t5.len t5.cap]]) ?_ ?_
  · rintro h1 ⟨l, o, hm, O⟩
    refine F_lease_Lease_Patience.is O ?_
    refine F_lease_Lease_Begun.is O fun h1 O => ?_
    refine F_lease_Lease_Done.is O fun h1 O => ?_
    refine F_lease_Lease_Span.is o.begun.done O ?_
    have hp1 := o.pat0; have hp2 := o.pat1; have hmm := o.most1
    have hup : up l.begun.done.patience = l.patience + 1 := by
      show up l.patience = _
      unfold up
      rw [if_pos (by omega)]
    rw [hup]
    refine jn0 (fun h' => KeptH h h') ?_ ?_
    · intro h2 k
      refine F_law11_begun.is ((Sat.nil h).kept2 k) fun h3 O => ?_
      exact ⟨rfl, O.kept⟩
    · intro j hj
      rw [F_law11_LeaseFence.l3.eq_1]
      have hl : l.begun.done.patience = l.patience := rfl
      have inv : ∃ l' : LS, l'.Ok ∧ l'.patience = l.patience ∧ l'.quiet = 0 - 0 ∧ Sat h h1 [own b (leaseC l'), own ba [.int .i64 t1, .int .i64 t2, .slice t3.ptr t3.len t3.cap, .slice t4.ptr t4.len t4.cap, .slice t5.ptr t5.len t5.cap]] := ⟨l.begun.done, o.begun.done, rfl, rfl, O⟩
      generalize l.patience = p at *
      clear O
      refine wl4 (k := .int .i64) (l := .int .i64) (l3 := .int .i64) (l4 := .int .i64) (fun (m : Nat) (wait now begin i : Int) (h' : Heap) => i + m = 40 ∧ 0 ≤ i ∧ 0 ≤ begin ∧ begin ≤ now ∧ now ≤ i * 40 ∧ 0 ≤ wait ∧ wait ≤ p + 1 ∧ wait + (now - begin) ≥ p + 1 ∧
        ∃ l' : LS, l'.Ok ∧ l'.patience = p ∧ l'.quiet = now - begin ∧ Sat h h' [own b (leaseC l'), own ba [.int .i64 t1, .int .i64 t2, .slice t3.ptr t3.len t3.cap, .slice t4.ptr t4.len t4.cap, .slice t5.ptr t5.len t5.cap]]) ?_ (m := 40) ⟨rfl, by omega, by omega, by omega, by omega, by omega, by omega, by omega, inv⟩
      clear inv
      intro m (wait : Int) (now : Int) (begin : Int) (i : Int) h2 next hn ⟨hi, hi0, hb0, hbn, hni, hw0, hw1, hw, l', o', hp', hq, O⟩
      refine brr_p (fun hlt => ?_) (fun hlt => ?_)
      · refine jn3 (fun (wait now' begin : Int) (h' : Heap) => 0 ≤ begin ∧ begin ≤ now' ∧ now' ≤ now + 40 ∧ 0 ≤ wait ∧ wait ≤ p + 1 ∧ wait + (now' - begin) ≥ p + 1 ∧
          ∃ l' : LS, l'.Ok ∧ l'.patience = p ∧ l'.quiet = now' - begin ∧ Sat h h' [own b (leaseC l'), own ba [.int .i64 t1, .int .i64 t2, .slice t3.ptr t3.len t3.cap, .slice t4.ptr t4.len t4.cap, .slice t5.ptr t5.len t5.cap]]) ?_ ?_
        · intro (wait : Int) (now' : Int) (begin : Int) h3 ⟨k1, k2, k3, k4, k5, k6, k7⟩
          rw [wrap64 (by omega) (by omega)]
          exact hn (m - 1) _ _ _ _ _ (by omega) ⟨by omega, by omega, k1, k2, by omega, k4, k5, k6, k7⟩
        · intro j2 hj2
          refine O.ld 1 rfl (ldL_c (ldL_n ?_))
          refine F_law11_at.is (V3.kept O.kept) (by omega) (by decide) (by decide) fun gap g0 g1 => ?_
          refine O.ld 1 rfl (ldL_c (ldL_n ?_))
          refine F_law11_at.is (V4.kept O.kept) (by omega) (by decide) (by decide) fun last s0 s1 => ?_
          refine O.ld 1 rfl (ldL_c (ldL_n ?_))
          rw [wrap64 (x := last + 1) (by omega) (by omega)]
          refine F_law11_at.is (V5.kept O.kept) (by omega) (by omega) (by omega) fun take a0 a1 => ?_
          refine jn3 _ (fun _ _ _ _ => hj2 _ _ _ _) fun j3 hj3 => ?_
          rw [F_law11_LeaseFence.l2.eq_1]
          rw [wrap64 (x := 1 + gap) (by omega) (by omega), wrap64 (x := 1 + gap + last) (by omega) (by omega), wrap64 (x := 1 + gap + take) (by omega) (by omega)]
          refine wl5 (k1 := .int .i64) (k2 := .int .i64) (k3 := .int .i64) (k4 := .int .i64) (k5 := .int .i64) (fun (m : Nat) (wait now' begin from_ x : Int) (h' : Heap) => x + m = 1 + gap + last ∧ 0 ≤ x ∧ now' = now + x ∧ 0 ≤ begin ∧ begin ≤ now' ∧ 0 ≤ wait ∧ wait ≤ p + 1 ∧ wait + (now' - begin) ≥ p + 1 ∧
            ∃ l' : LS, l'.Ok ∧ l'.patience = p ∧ l'.quiet = now' - begin ∧ (x > 1 + gap → l'.since = now' - from_ ∧ begin ≤ from_ ∧ from_ ≤ now') ∧ (x > 1 + gap + take → wait + (now' - from_) ≥ p + 1) ∧
              Sat h h' [own b (leaseC l'), own ba [.int .i64 t1, .int .i64 t2, .slice t3.ptr t3.len t3.cap, .slice t4.ptr t4.len t4.cap, .slice t5.ptr t5.len t5.cap]]) ?_ (m := (1 + gap + last).toNat)
              ⟨by omega, by omega, by omega, hb0, by omega, hw0, hw1, by omega, l', o', hp', by omega, fun h => by omega, fun h => by omega, O⟩
          clear O hq hp' o' hw hw1 hw0 l' hbn hb0 wait begin
          intro m2 (wait : Int) (now' : Int) (begin : Int) (from_ : Int) (x : Int) h3 next2 hn2 ⟨hx, hx0, hnow, hb0, hbn, hw0, hw1, hw, l', o', hp', hq, hs1, hs2, O⟩
          refine brr_tt (by simp; omega) ?_
          refine jn1 (fun (from' : Int) (h' : Heap) => ∃ l' : LS, l'.Ok ∧ l'.patience = p ∧ l'.quiet = now' - begin ∧ (x ≥ 1 + gap → l'.since = now' - from' ∧ begin ≤ from' ∧ from' ≤ now') ∧ (x > 1 + gap + take → wait + (now' - from') ≥ p + 1) ∧
              Sat h h' [own b (leaseC l'), own ba [.int .i64 t1, .int .i64 t2, .slice t3.ptr t3.len t3.cap, .slice t4.ptr t4.len t4.cap, .slice t5.ptr t5.len t5.cap]]) ?_ ?_
          · clear O hs2 hs1 hq hp' o' l'
            intro (from' : Int) h4 ⟨l', o', hp', hq, hs1, hs2, O⟩
            refine jn1 (fun (wait : Int) (h' : Heap) => h' = h4 ∧ 0 ≤ wait ∧ wait ≤ p + 1 ∧ wait + (now' - begin) ≥ p + 1 ∧ (x ≥ 1 + gap + take → wait + (now' - from') ≥ p + 1)) ?_ ?_
            · clear hs2 hw hw0 hw1 wait
              rintro (wait : Int) h4 ⟨rfl, hw0, hw1, hw, hs2⟩
              refine brr_eq (fun hxe => ?_) (fun hxe => ?_)
              · refine F_lease_Lease_Done.is O fun h5 O => ?_
                obtain ⟨q1, q2, q3⟩ := hs1 (by omega)
                exact hj3 _ _ _ _ ⟨by omega, by omega, by omega, hw0, hw1, hs2 (by omega), l'.done, o'.done, hp', q1, O⟩
              · refine jn1 (fun (w : Int) (h' : Heap) => h' = h4 ∧ 0 ≤ w ∧ (w = wait - 1 ∨ (w = 0 ∧ wait = 0))) ?_ ?_
                · rintro (w : Int) h4 ⟨rfl, hw2, hw3⟩
                  refine F_lease_Lease_Tick.is o' O fun h5 O => ?_
                  have et : l'.tick 3 true false = l'.pass := by unfold LS.tick; simp
                  have eb : l'.tickB 3 true false = decide (l'.pass.quiet ≥ l'.patience) := by unfold LS.tickB; simp
                  have eq1 : l'.pass.quiet = now' + 1 - begin := by
                    show up l'.quiet = _
                    unfold up
                    rw [if_pos (by omega)]; omega
                  have es1 : x ≥ 1 + gap → l'.pass.since = now' + 1 - from' := fun hge => by
                    obtain ⟨q1, q2, q3⟩ := hs1 hge
                    show up l'.since = _
                    unfold up
                    rw [if_pos (by omega)]; omega
                  rw [eb, eq1, hp', wrap64 (x := now' + 1) (by omega) (by omega), wrap64 (x := now' + 1 - begin) (by omega) (by omega)]
                  rw [et] at O
                  refine brr_ff (by simp) ?_
                  refine brr_p (fun he => ?_) (fun he => ?_)
                  · refine F_law11_begun.is O fun h6 O => ?_
                    exact ⟨rfl, O.kept⟩
                  · refine brr_ff (by simp; omega) ?_
                    rw [wrap64 (by omega) (by omega)]
                    refine hn2 (m2 - 1) _ _ _ _ _ _ (by omega) ⟨by omega, by omega, by omega, hb0, by omega, hw2, by omega, by omega, l'.pass, o'.pass, hp', eq1, fun hgt => ?_, fun hgt => ?_, O⟩
                    · obtain ⟨q1, q2, q3⟩ := hs1 (by omega)
                      exact ⟨es1 (by omega), q2, by omega⟩
                    · have := hs2 (by omega); omega
                · intro j4 hj4
                  refine brr_p (fun hwp => ?_) (fun hwp => ?_)
                  · rw [wrap64 (by omega) (by omega)]
                    exact hj4 _ _ ⟨rfl, by omega, .inl rfl⟩
                  · exact hj4 _ _ ⟨rfl, hw0, .inr ⟨by omega, by omega⟩⟩
            · intro j4 hj4
              refine brr_eq (fun hxe => ?_) (fun hxe => ?_)
              · refine F_lease_Lease_Span.is o' O ?_
                have e : up l'.patience = p + 1 := by unfold up; rw [if_pos (by omega)]; omega
                rw [e]
                obtain ⟨q1, q2, q3⟩ := hs1 (by omega)
                exact hj4 _ _ ⟨rfl, by omega, by omega, by omega, fun _ => by omega⟩
              · exact hj4 _ _ ⟨rfl, hw0, hw1, hw, fun hge => hs2 (by omega)⟩
          · intro j4 hj4
            refine brr_eq (fun hxe => ?_) (fun hxe => ?_)
            · refine F_lease_Lease_Begun.is O fun h4 O => ?_
              exact hj4 _ _ ⟨l'.begun, o'.begun, hp', hq, fun _ => ⟨by show (0 : Int) = _; omega, by omega, by omega⟩, fun hgt => by omega, O⟩
            · exact hj4 _ _ ⟨l', o', hp', hq, fun hge => hs1 (by omega), hs2, O⟩
      · exact hj _ O.kept
  · intro j hj
    rw [F_law11_LeaseFence.l1.eq_1]
    refine wl1 (k := .int .i64) (fun (m : Nat) (i : Int) (h' : Heap) => ∃ l : LS, l.Ok ∧ l.most ≤ 103 ∧ l.copies = 1 ∧ 0 ≤ i ∧ l.seen ≤ i ∧ (m : Int) = (8 - i) * 200 + l.left ∧ i ≤ 7 ∧ l.left ≤ 107 ∧
      Sat h h' [own b (leaseC l), own ba [.int .i64 t1, .int .i64 t2, .slice t3.ptr t3.len t3.cap, .slice t4.ptr t4.len t4.cap, .slice t5.ptr t5.len t5.cap]]) ?_ (m := ((8 : Int) * 200 + (LS.new 0 1 (4 + t1 % 100) 0).left).toNat) ⟨_, o, ?_, ?_, by omega, ?_, ?_, by omega, ?_, O⟩
    · intro m (i : Int) h2 next hn ⟨l, o, hm, hc, hi, hs, hmm, hi7, hl, O⟩
      refine O.ld 1 rfl (ldL_c (ldL_n ?_))
      refine F_law11_within.is (by decide) (by decide) ?_
      have n0 := Int.emod_nonneg t2 (show (7 : Int) ≠ 0 by decide)
      have n1 := Int.emod_lt_of_pos t2 (show (0 : Int) < 7 by decide)
      refine brr_p (fun hlt => ?_) (fun hlt => ?_)
      · refine F_lease_Lease_Tick.is o O fun h3 O => ?_
        obtain ⟨f1, f2, f3⟩ := LS.tick_free o hc (by omega)
        have ot := o.tick (ph := 0) (a := false) (b := true)
        have hl0 := ot.left0; have hl1 := o.left0
        refine jn1 (fun (i' : Int) (h' : Heap) => h' = h3 ∧ ((l.tickE 0 false true ≠ 0 ∧ i' = i + 1) ∨ (l.tickE 0 false true = 0 ∧ i' = i))) ?_ ?_
        · rintro (i' : Int) h3 ⟨rfl, hi'⟩
          have hm0 : ((8 - i') * 200 + (l.tick 0 false true).left).toNat < m := by
            rcases f3 with ⟨g1, g2, g3⟩ | ⟨g1, g2, g3, g4⟩ <;> rcases hi' with ⟨g5, g6⟩ | ⟨g5, g6⟩ <;> omega
          refine hn _ _ _ hm0 ⟨_, ot, by omega, f1, by omega, ?_, ?_, by omega, ?_, O⟩
          · rcases f3 with ⟨g1, g2, g3⟩ | ⟨g1, g2, g3, g4⟩ <;> rcases hi' with ⟨g5, g6⟩ | ⟨g5, g6⟩ <;> omega
          · omega
          · rcases f3 with ⟨g1, g2, g3⟩ | ⟨g1, g2, g3, g4⟩ <;> omega
        · intro j2 hj2
          refine brr_ne (fun hne => ?_) (fun he => ?_)
          · rw [wrap64 (by omega) (by omega)]
            exact hj2 _ _ ⟨rfl, .inl ⟨hne, rfl⟩⟩
          · exact hj2 _ _ ⟨rfl, .inr ⟨he, rfl⟩⟩
      · exact hj _ ⟨l, o, hm, O⟩
    all_goals have e1 : (LS.new 0 1 (4 + t1 % 100) 0).left = 4 := rfl
    all_goals have e2 : (LS.new 0 1 (4 + t1 % 100) 0).most = if 4 > 4 + t1 % 100 then 4 else 4 + t1 % 100 := rfl
    all_goals have e3 : (LS.new 0 1 (4 + t1 % 100) 0).copies = 1 := rfl
    all_goals have e4 : (LS.new 0 1 (4 + t1 % 100) 0).seen = 0 := rfl
    · rw [e2]; split <;> omega
    · exact e3
    · omega
    · omega
    · omega
end Go.Proofs.Ytboidjampddfoaa.V
