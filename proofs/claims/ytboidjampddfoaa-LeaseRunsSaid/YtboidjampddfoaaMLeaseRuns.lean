/- When a lease begins an epoch: what LeaseRuns plays. -/
import Derived.Test.YtboidjampddfoaaMLeaseOps
import Derived.Test.YtboidjampddfoaaGlaw11LeaseRuns
namespace Go.Proofs.Ytboidjampddfoaa.V
open Go Go.RowKit
set_option linter.unusedVariables false
set_option linter.unusedSimpArgs false
abbrev tyWait : Ty := .cons (.int .i64) (.cons (.int .i64) (.cons (.int .i64) (.cons (.sl 9 64 tyLOp) (.cons (.int .i64) (.cons (.int .i64) .nil)))))
theorem leaseRuns_main (h : Heap) (cs : List Value) (F : Fit h 140737488351232 tyWait cs) : E_law11_LeaseRuns [.agg cs.toArray] h (fun r h' => r = .bool true ∧ KeptH h h') := by
  obtain ⟨_, _, rfl, _, ⟨t1, rfl, t1a, t1b⟩, _, _, rfl, _, ⟨t2, rfl, t2a, t2b⟩, _, _, rfl, _, ⟨t3, rfl, t3a, t3b⟩, _, _, rfl, _, ⟨t4, rfl, t4S⟩, _, _, rfl, _, ⟨t5, rfl, t5a, t5b⟩, _, _, rfl, _, ⟨t6, rfl, t6a, t6b⟩, rfl⟩ := F
  simp only [List.cons_append, List.nil_append, List.append_nil]
  refine Eq.mpr (E_law11_LeaseRuns.at F_law11_LeaseRuns t1 t2 t3 t4 t5 t6 h _) ?_
  obtain ⟨ops, V⟩ := t4S.lops
  rw [F_law11_LeaseRuns.eq_1, F_law11_LeaseRuns_of.eq_1]
  refine Sat.al (Sat.nil h) fun ba h1 O => ?_
  simp only [nn_some, pt_add, Nat.zero_add, Nat.add_zero, Nat.reduceAdd, Nat.reduceMul, Int.toNat_zero, Int.toNat_one, Nat.zero_mul, Nat.one_mul]
  refine F_law11_begun.is O fun h1 O => ?_
  refine brr_ff rfl ?_
  refine O.ld 0 rfl (ldL_c (ldL_n ?_))
  refine F_law11_within.is (by decide) (by decide) ?_
  refine O.ld 0 rfl (ldL_c (ldL_n ?_))
  refine F_law11_within.is (by decide) (by decide) ?_
  refine O.ld 0 rfl (ldL_c (ldL_n ?_))
  have c0 := Int.emod_nonneg t2 (show (9 : Int) ≠ 0 by decide)
  have c1 := Int.emod_lt_of_pos t2 (show (0 : Int) < 9 by decide)
  have m0 := Int.emod_nonneg t3 (show (60 : Int) ≠ 0 by decide)
  have m1 := Int.emod_lt_of_pos t3 (show (0 : Int) < 60 by decide)
  rw [wrap64 (x := 1 + t2 % 9) (by omega) (by omega), wrap64 (x := 4 + t3 % 60) (by omega) (by omega)]
  refine F_law11_within.is (by omega) (by omega) ?_
  have p0 := Int.emod_nonneg t1 (show 1 + t2 % 9 ≠ 0 by omega)
  have p1 := Int.emod_lt_of_pos t1 (show 0 < 1 + t2 % 9 by omega)
  generalize hcop : 1 + t2 % 9 = cop at *
  generalize hmost : 4 + t3 % 60 = mst at *
  generalize t1 % cop = plc at *
  refine F_lease_New.is O (by rw [i64_min]; omega) (by rw [i64_max]; omega) (by rw [i64_max]; omega) (by rw [i64_max]; omega) fun b h1 O => ?_
  have hnew : LS.new plc cop mst 0 = ⟨4 + plc, 0, 0, plc, cop, mst, 4, 0⟩ := by
    unfold LS.new
    simp only [if_neg (show ¬ (1 : Int) > cop by omega), if_neg (show ¬ (4 : Int) > mst by omega), Int.emod_eq_of_lt p0 p1]
    rw [if_pos (by omega)]
  have o : (LS.new plc cop mst 0).Ok := LS.new_ok (by omega) (by omega) (by decide) (by decide)
  rw [hnew] at o O
  refine jn0 (fun h' => ∃ l : LS, l.Ok ∧ l.copies = cop ∧ l.most = mst ∧ l.patience = 4 ∧ l.seen ≤ 1000 ∧ l.left ≤ 100 ∧ Sat h h' [own b (leaseC l), own ba [.int .i64 t1, .int .i64 t2, .int .i64 t3, .slice t4.ptr t4.len t4.cap, .int .i64 t5, .int .i64 t6]]) ?_ ?_
  · rintro h1 ⟨l, o, hc, hm, hp, hs, hl, O⟩
    refine jn0 (fun h' => KeptH h h') ?_ ?_
    · intro h2 k
      refine F_law11_begun.is ((Sat.nil h).kept2 k) fun h3 O => ?_
      exact ⟨rfl, O.kept⟩
    · intro j hj
      rw [F_law11_LeaseRuns.l3.eq_1]
      refine wl2 (k := .int .i64) (l := .int .i64) (fun (m : Nat) (pat round : Int) (h' : Heap) => round + m = 8 ∧ 0 ≤ round ∧ ∃ l : LS, l.Ok ∧ l.copies = cop ∧ l.most = mst ∧ l.patience = pat ∧ l.seen ≤ 1000 + 9 * round ∧ l.left ≤ 100 ∧ Sat h h' [own b (leaseC l), own ba [.int .i64 t1, .int .i64 t2, .int .i64 t3, .slice t4.ptr t4.len t4.cap, .int .i64 t5, .int .i64 t6]]) ?_ (m := 8) ⟨by omega, by omega, l, o, hc, hm, hp, by omega, hl, O⟩
      clear O hl hs hp hm hc o l
      intro m (pat : Int) (round : Int) h2 next hn ⟨hr, hr0, l, o, hc, hm, hp, hs, hl, O⟩
      refine brr_p (fun hlt => ?_) (fun hlt => ?_)
      · refine jn1 (fun (pat : Int) (h' : Heap) => ∃ l : LS, l.Ok ∧ l.copies = cop ∧ l.most = mst ∧ l.patience = pat ∧ l.seen ≤ 1000 + 9 * (round + 1) ∧ l.left ≤ 100 ∧ Sat h h' [own b (leaseC l), own ba [.int .i64 t1, .int .i64 t2, .int .i64 t3, .slice t4.ptr t4.len t4.cap, .int .i64 t5, .int .i64 t6]]) ?_ ?_
        · rintro (pat : Int) h3 ⟨l, k1, k2, k3, k4, k5, k6, k7⟩
          rw [wrap64 (by omega) (by omega)]
          exact hn (m - 1) _ _ _ (by omega) ⟨by omega, by omega, l, k1, k2, k3, k4, k5, k6, k7⟩
        · intro j2 hj2
          have hleft0 := o.left0
          refine F_lease_Lease_Left.is O ?_
          refine O.ld 1 rfl (ldL_c (ldL_n ?_))
          refine F_law11_within.is (by decide) (by decide) ?_
          refine jn1 (fun (kept : Int) (h' : Heap) => h' = h2 ∧ 0 ≤ kept ∧ kept < 200) ?_ ?_
          · rintro (kept : Int) h2 ⟨rfl, kp0, kp1⟩
            rw [wrap64 (x := kept + 1) (by omega) (by omega)]
            refine jn1 (fun (due : Int) (h' : Heap) => h' = h2 ∧ ((due = kept + 1 ∧ l.left < kept + 1) ∨ (due = l.left ∧ kept + 1 ≤ l.left))) ?_ ?_
            · rintro (due : Int) h2 ⟨rfl, hd⟩
              refine jn1 (fun (due' : Int) (h' : Heap) => h' = h2 ∧ due' = due) ?_ ?_
              · rintro (due' : Int) h2 ⟨rfl, rfl⟩
                refine jn0 (fun h' => ∃ l' : LS, l'.Ok ∧ l'.copies = cop ∧ l'.most = mst ∧ l'.patience = pat ∧ l'.seen = l.seen ∧ l'.left ≤ 1 ∧ Sat h h' [own b (leaseC l'), own ba [.int .i64 t1, .int .i64 t2, .int .i64 t3, .slice t4.ptr t4.len t4.cap, .int .i64 t5, .int .i64 t6]]) ?_ ?_
                · rintro h3 ⟨l', o', hc', hm', hp', hs', hl', O⟩
                  refine F_lease_Lease_Tick.is o' O fun h4 O => ?_
                  obtain ⟨e1, e2⟩ := LS.tick_begin hl' o'.left0
                  have hpos := LS.next_pos o' (by omega) (by omega)
                  have hnx := o'.next
                  have hnn : l'.pass.down.next = l'.next := LS.next_same rfl rfl rfl
                  have hpos' : 0 < l'.pass.down.next := by rw [hnn]; exact hpos
                  have ot := o'.tick (ph := 0) (a := false) (b := true)
                  have he2 : l'.tick 0 false true = ⟨if 2 * l'.patience > l'.most then l'.most else 2 * l'.patience, l'.pass.since, l'.pass.quiet, l'.place, l'.copies, l'.most, if 2 * l'.patience > l'.most then l'.most else 2 * l'.patience, l'.pass.down.next⟩ := by
                    rw [e2, LS.begin_pos hpos']; rfl
                  have hp4 := o'.pat1
                  have hp3 := o'.pat0
                  refine jn1 (fun (p2 : Int) (h' : Heap) => h' = h4 ∧ p2 = if 2 * l'.patience > l'.most then l'.most else 2 * l'.patience) ?_ ?_
                  · rintro (p2 : Int) h4 ⟨rfl, rfl⟩
                    refine jn1 (fun t h' => h' = h4 ∧ t = false) ?_ ?_
                    · rintro t h4 ⟨rfl, rfl⟩
                      refine brr_ff rfl ?_
                      refine hj2 _ _ ⟨_, ot, ?_, ?_, ?_, ?_, ?_, O⟩
                      · rw [he2]; exact hc'
                      · rw [he2]; exact hm'
                      · rw [he2]
                      · rw [he2]
                        show l'.pass.down.next ≤ _
                        rw [hnn]; omega
                      · rw [he2]
                        show (if 2 * l'.patience > l'.most then l'.most else 2 * l'.patience) ≤ _
                        split <;> omega
                    · intro j3 hj3
                      refine brr_ff (by rw [e1]; simp; omega) ?_
                      refine F_lease_Lease_Patience.is O ?_
                      refine brr_ff (by rw [he2]; simp) ?_
                      refine F_lease_Lease_Left.is O ?_
                      exact hj3 _ _ ⟨rfl, by rw [he2]; simp⟩
                  · intro j3 hj3
                    rw [hmost, wrap64 (x := 2 * pat) (by omega) (by omega), wrap64 (x := mst) (by omega) (by omega)]
                    refine brr_p (fun hgt => ?_) (fun hgt => ?_)
                    · exact hj3 _ _ ⟨rfl, by rw [hp', hm', if_pos hgt]⟩
                    · exact hj3 _ _ ⟨rfl, by rw [hp', hm', if_neg hgt]⟩
                · intro j3 hj3
                  rw [F_law11_LeaseRuns.l2.eq_1]
                  refine wl1 (k := .int .i64) (fun (m : Nat) (i : Int) (h' : Heap) => i + m = due' ∧ 1 ≤ i ∧ ∃ l' : LS, l'.Ok ∧ l'.copies = cop ∧ l'.most = mst ∧ l'.patience = pat ∧ l'.seen = l.seen ∧ l'.left = (if l.left - (i - 1) < 0 then 0 else l.left - (i - 1)) ∧ Sat h h' [own b (leaseC l'), own ba [.int .i64 t1, .int .i64 t2, .int .i64 t3, .slice t4.ptr t4.len t4.cap, .int .i64 t5, .int .i64 t6]]) ?_ (m := (due' - 1).toNat) ⟨by omega, by omega, l, o, hc, hm, hp, rfl, by rw [if_neg (by omega)]; omega, O⟩
                  clear O
                  intro m (i : Int) h3 next hn ⟨hi, hi1, l', o', hc', hm', hp', hs', hl', O⟩
                  refine brr_p (fun hlt => ?_) (fun hlt => ?_)
                  · refine F_lease_Lease_Tick.is o' O fun h4 O => ?_
                    obtain ⟨e1, e2⟩ := LS.tick_stay (l := l') (free := decide (i > kept)) (by
                      rintro ⟨g1, g2⟩
                      simp at g2
                      rw [hl'] at g1
                      split at g1 <;> omega) o'.left0
                    rw [e1]
                    rw [e2] at O
                    refine brr_ff rfl ?_
                    rw [wrap64 (by omega) (by omega)]
                    refine hn (m - 1) _ _ (by omega) ⟨by omega, by omega, _, o'.pass.down, hc', hm', hp', hs', ?_, O⟩
                    show (if l'.left - 1 < 0 then 0 else l'.left - 1) = _
                    rw [hl']
                    split <;> split <;> omega
                  · exact hj3 _ ⟨l', o', hc', hm', hp', hs', by rw [hl']; split <;> omega, O⟩
              · intro j3 hj3
                refine brr_p (fun hd1 => ?_) (fun hd1 => ?_)
                · omega
                · exact hj3 _ _ ⟨rfl, rfl⟩
            · intro j3 hj3
              refine brr_p (fun hd => ?_) (fun hd => ?_)
              · exact hj3 _ _ ⟨rfl, .inl ⟨rfl, hd⟩⟩
              · exact hj3 _ _ ⟨rfl, .inr ⟨rfl, by omega⟩⟩
          · intro j3 hj3
            refine brr_eq (fun hd => ?_) (fun hd => ?_)
            · refine O.ld 1 rfl (ldL_c (ldL_n ?_))
              refine F_law11_within.is (by decide) (by decide) ?_
              exact hj3 _ _ ⟨rfl, Int.emod_nonneg _ (by decide), Int.emod_lt_of_pos _ (by decide)⟩
            · exact hj3 _ _ ⟨rfl, by decide, by decide⟩
      · exact hj _ O.kept
  · intro j hj
    rw [F_law11_LeaseRuns.l1.eq_1]
    refine wl1 (k := .int .i64) (fun (m : Nat) (i : Int) (h' : Heap) => i + m = ops.length ∧ 0 ≤ i ∧ ∃ l : LS, l.Ok ∧ l.copies = cop ∧ l.most = mst ∧ l.patience = 4 ∧ l.seen ≤ 1000 ∧ l.left ≤ 100 ∧
      Sat h h' [own b (leaseC l), own ba [.int .i64 t1, .int .i64 t2, .int .i64 t3, .slice t4.ptr t4.len t4.cap, .int .i64 t5, .int .i64 t6]]) ?_ (m := ops.length) ⟨by omega, by omega, _, o, rfl, rfl, rfl, by show (0 : Int) ≤ 1000; omega, by show 4 + plc ≤ 100; omega, O⟩
    clear O o hnew
    intro m (i : Int) h2 next hn ⟨hi, hi0, l, o, hc, hm, hp, hs, hl, O⟩
    refine jn1 (fun t h' => h' = h2 ∧ (t = true → i < ops.length ∧ i < 50)) ?_ ?_
    · rintro t h2 ⟨rfl, ht⟩
      refine brr_of (fun ht' => ?_) (fun ht' => ?_)
      · obtain ⟨hlt, hlt50⟩ := ht ht'
        have V' := V.kept O.kept
        refine O.ld 1 rfl (ldL_c (ldL_n ?_))
        refine V'.ix hi0 hlt fun a cs x hx hlen hR hc' => ?_
        obtain ⟨rfl, hR⟩ := hR
        refine ld_drop hc' 2 (ldL_c (ldL_n ?_))
        refine ⟨by decide, ?_⟩
        refine O.ld 1 rfl (ldL_c (ldL_n ?_))
        refine V'.ix hi0 hlt fun a cs x' hx' hlen hR' hc' => ?_
        obtain ⟨rfl, hR'⟩ := hR'
        refine ld_drop hc' 4 (ldL_c (ldL_n ?_))
        refine O.ld 1 rfl (ldL_c (ldL_n ?_))
        refine V'.ix hi0 hlt fun a cs x'' hx'' hlen hR'' hc' => ?_
        obtain ⟨rfl, hR''⟩ := hR''
        refine ld_drop hc' 5 (ldL_c (ldL_n ?_))
        rw [Int.tmod_eq_emod_of_nonneg hR.1]
        have e0 := Int.emod_nonneg x.epoch (show (1000 : Int) ≠ 0 by decide)
        have e1 := Int.emod_lt_of_pos x.epoch (show (0 : Int) < 1000 by decide)
        refine F_lease_Lease_Heard.is O fun h3 O => ?_
        rw [wrap64 (by omega) (by omega)]
        refine hn (m - 1) _ _ (by omega) ⟨by omega, by omega, _, o.heard e0 (by omega), hc, hm, hp, ?_, ?_, O⟩
        · unfold LS.heard
          simp only
          split <;> omega
        · show (if _ then _ else _) ≤ _
          have := o.pat1
          split <;> omega
      · exact hj _ ⟨l, o, hc, hm, hp, hs, hl, O⟩
    · intro j2 hj2
      refine O.ld 1 rfl (ldL_c (ldL_n ?_))
      rw [V.len]
      refine brr_p (fun hlt => ?_) (fun hlt => ?_)
      · exact hj2 _ _ ⟨rfl, fun e => ⟨hlt, by simpa using e⟩⟩
      · exact hj2 _ _ ⟨rfl, fun e => by cases e⟩
end Go.Proofs.Ytboidjampddfoaa.V
