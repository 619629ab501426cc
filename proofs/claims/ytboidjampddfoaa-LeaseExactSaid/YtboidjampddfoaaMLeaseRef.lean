/- The document's lease: what each of its functions does to what it keeps: the same as the program's. -/
import Derived.Test.YtboidjampddfoaaMLease
import Derived.Test.YtboidjampddfoaaGref11New
import Derived.Test.YtboidjampddfoaaGref11LeaseHeard
import Derived.Test.YtboidjampddfoaaGref11LeaseRest
import Derived.Test.YtboidjampddfoaaGref11LeaseBegun
import Derived.Test.YtboidjampddfoaaGref11LeaseDone
import Derived.Test.YtboidjampddfoaaGref11LeaseTick
import Derived.Test.YtboidjampddfoaaGref11LeaseSpan
namespace Go.Proofs.Ytboidjampddfoaa.V
open Go Go.RowKit
set_option linter.unusedVariables false
set_option linter.unusedSimpArgs false
def refC (l : LS) : List Value := [.int .i64 l.place, .int .i64 l.copies, .int .i64 l.most, .int .i64 l.patience, .int .i64 l.left, .int .i64 l.since, .int .i64 l.quiet, .int .u64 l.seen]
section
variable {h0 h : Heap} {L : List Res} {b : Nat} {l : LS}
theorem F_ref11_New.is {p c m s : Int} {Q : Option Addr → Heap → Prop} (O : Sat h0 h L) (c1 : c ≤ IntKind.i64.max) (m1 : m ≤ IntKind.i64.max)
    (k : ∀ b h', Sat h0 h' (own b (refC (LS.new p c m s)) :: L) → Q (some (pt b 0)) h') : F_ref11_New p c m s h Q := by
  rw [i64_max] at c1 m1
  rw [F_ref11_New.eq_1, F_ref11_New_of.eq_1]
  have hc : (0 : Int) < (if 1 > c then 1 else c) := by split <;> omega
  have hc1 : (if 1 > c then 1 else c) ≤ (9223372036854775807 : Int) := by split <;> omega
  unfold LS.new at k
  simp only at k
  refine jn1 (fun x h' => x = (if 1 > c then 1 else c) ∧ h' = h) ?_ ?_
  · rintro x h ⟨rfl, rfl⟩
    generalize (if (1 : Int) > c then 1 else c) = C at *
    have h1 := Int.emod_nonneg p (show C ≠ 0 by omega)
    have h2 := Int.emod_lt_of_pos p hc
    have hf := tmod_fix (a := p) hc
    have hl := tmod_lt (a := p) hc
    refine ⟨by omega, ?_⟩
    refine jn1 (fun x h' => x = p % C ∧ h' = h) ?_ ?_
    · rintro x h ⟨rfl, rfl⟩
      refine jn1 (fun x h' => x = (if 4 > m then 4 else m) ∧ h' = h) ?_ ?_
      · rintro x h ⟨rfl, rfl⟩
        refine O.al fun b h O => ?_
        simp only [nn_some, pt_add, Nat.zero_add, Nat.add_zero, Nat.reduceAdd, Nat.reduceMul, Int.toNat_zero, Int.toNat_one, Nat.zero_mul, Nat.one_mul]
        refine O.st 0 rfl (by simp) rfl fun h O => ?_
        dsimp only [V.put, List.set] at O
        refine jn0 (fun h' => Sat h0 h' (own b (refC ⟨if p % C < 9223372036854775803 then 4 + p % C else (9223372036854775807 : Int), 0, 0, p % C, C, if 4 > m then 4 else m, 4, s⟩) :: L)) ?_ ?_
        · intro h O
          exact k b h O
        · intro j hj
          refine brr_p (fun hlt => ?_) (fun hlt => ?_)
          · rw [wrap64 (by omega) (by omega)]
            refine O.st 0 rfl (by simp) rfl fun h O => ?_
            dsimp only [V.put, List.set] at O
            refine hj _ ?_
            rw [if_pos hlt]
            exact O
          · refine hj _ ?_
            rw [if_neg hlt]
            exact O
      · intro j hj
        refine brr_p (fun hlt => ?_) (fun hlt => ?_)
        · exact hj _ _ ⟨by rw [if_pos (by omega)], rfl⟩
        · exact hj _ _ ⟨by rw [if_neg (by omega)], rfl⟩
    · intro j hj
      refine brr_p (fun hlt => ?_) (fun hlt => ?_)
      · rw [if_pos hlt] at hf
        rw [wrap64 (by omega) (by omega)]
        exact hj _ _ ⟨hf, rfl⟩
      · rw [if_neg hlt] at hf
        exact hj _ _ ⟨hf, rfl⟩
  · intro j hj
    refine brr_p (fun hlt => ?_) (fun hlt => ?_)
    · exact hj _ _ ⟨by rw [if_pos (by omega)], rfl⟩
    · exact hj _ _ ⟨by rw [if_neg (by omega)], rfl⟩
theorem F_ref11_Lease_Heard.is {e : Int} {x y : Bool} {Q : Heap → Prop} (O : Sat h0 h (own b (refC l) :: L)) (k : ∀ h', Sat h0 h' (own b (refC (l.heard e x y)) :: L) → Q h') : F_ref11_Lease_Heard (some (pt b 0)) e x y h Q := by
  rw [F_ref11_Lease_Heard.eq_1, F_ref11_Lease_Heard_of.eq_1]
  simp only [nn_some, pt_add, Nat.zero_add, Nat.add_zero, Nat.reduceAdd, Nat.reduceMul, Int.toNat_zero, Int.toNat_one, Nat.zero_mul, Nat.one_mul]
  unfold refC at O
  refine jn1 (fun t h' => h' = h ∧ (t = true ↔ (y = true ∨ (x = true ∧ e ≥ l.seen)))) ?_ ?_
  · rintro t h ⟨rfl, ht⟩
    unfold LS.heard at k
    refine jn0 (fun h' => Sat h0 h' (own b (refC { l with left := if y = true ∨ (x = true ∧ e ≥ l.seen) then l.patience else l.left }) :: L)) ?_ ?_
    · intro h O
      unfold refC at O
      refine O.ld 0 rfl (ldL_c (ldL_n ?_))
      refine jn0 (fun h' => Sat h0 h' (own b (refC { l with left := if y = true ∨ (x = true ∧ e ≥ l.seen) then l.patience else l.left, seen := if e > l.seen then e else l.seen }) :: L)) ?_ ?_
      · intro h O
        exact k _ O
      · intro j hj
        refine brr_p (fun hg => ?_) (fun hg => ?_)
        · have hg : e > l.seen := hg
          refine O.st 0 rfl (by simp) rfl fun h O => ?_
          dsimp only [V.put, List.set] at O
          refine hj _ ?_
          rw [if_pos hg]
          exact O
        · have hg : ¬ e > l.seen := hg
          refine hj _ ?_
          rw [if_neg hg]
          exact O
    · intro j hj
      refine brr_of (fun ht' => ?_) (fun ht' => ?_)
      · refine O.ld 0 rfl (ldL_c (ldL_n ?_))
        refine O.st 0 rfl (by simp) rfl fun h O => ?_
        dsimp only [V.put, List.set] at O
        refine hj _ ?_
        rw [if_pos (ht.1 ht')]
        exact O
      · refine hj _ ?_
        rw [if_neg (by intro hc; rw [ht.2 hc] at ht'; cases ht')]
        exact O
  · intro j hj
    refine brr_of (fun hy => ?_) (fun hy => ?_)
    · exact hj _ _ ⟨rfl, by simp [hy]⟩
    · refine brr_of (fun hx => ?_) (fun hx => ?_)
      · refine O.ld 0 rfl (ldL_c (ldL_n ?_))
        exact hj _ _ ⟨rfl, by simp [hy, hx]⟩
      · exact hj _ _ ⟨rfl, by simp [hy, hx]⟩
theorem F_ref11_Lease_Rest.is {Q : Heap → Prop} (O : Sat h0 h (own b (refC l) :: L)) (k : ∀ h', Sat h0 h' (own b (refC l.rest) :: L) → Q h') : F_ref11_Lease_Rest (some (pt b 0)) h Q := by
  rw [F_ref11_Lease_Rest.eq_1, F_ref11_Lease_Rest_of.eq_1]
  simp only [nn_some, pt_add, Nat.zero_add, Nat.add_zero, Nat.reduceAdd, Nat.reduceMul, Int.toNat_zero, Int.toNat_one, Nat.zero_mul, Nat.one_mul]
  unfold refC at O
  refine O.ld 0 rfl (ldL_c (ldL_n ?_))
  refine O.st 0 rfl (by simp) rfl fun h O => ?_
  dsimp only [V.put, List.set] at O
  exact k _ O
theorem F_ref11_Lease_Begun.is {Q : Heap → Prop} (O : Sat h0 h (own b (refC l) :: L)) (k : ∀ h', Sat h0 h' (own b (refC l.begun) :: L) → Q h') : F_ref11_Lease_Begun (some (pt b 0)) h Q := by
  rw [F_ref11_Lease_Begun.eq_1, F_ref11_Lease_Begun_of.eq_1]
  simp only [nn_some, pt_add, Nat.zero_add, Nat.add_zero, Nat.reduceAdd, Nat.reduceMul, Int.toNat_zero, Int.toNat_one, Nat.zero_mul, Nat.one_mul]
  unfold refC at O
  refine O.st 0 rfl (by simp) rfl fun h O => ?_
  dsimp only [V.put, List.set] at O
  exact k _ O
theorem F_ref11_Lease_Done.is {Q : Heap → Prop} (O : Sat h0 h (own b (refC l) :: L)) (k : ∀ h', Sat h0 h' (own b (refC l.done) :: L) → Q h') : F_ref11_Lease_Done (some (pt b 0)) h Q := by
  rw [F_ref11_Lease_Done.eq_1, F_ref11_Lease_Done_of.eq_1]
  simp only [nn_some, pt_add, Nat.zero_add, Nat.add_zero, Nat.reduceAdd, Nat.reduceMul, Int.toNat_zero, Int.toNat_one, Nat.zero_mul, Nat.one_mul]
  unfold refC at O
  refine O.ld 0 rfl (ldL_c (ldL_n ?_))
  refine O.st 0 rfl (by simp) rfl fun h O => ?_
  dsimp only [V.put, List.set] at O
  exact k _ O
theorem F_ref11_up.is {n : Int} {Q : Int → Heap → Prop} (h1 : 0 ≤ n) (k : Q (up n) h) : F_ref11_up n h Q := by
  rw [F_ref11_up.eq_1, F_ref11_up_of.eq_1]
  unfold up at k
  refine brr_p (fun hg => ?_) (fun hg => ?_)
  · rw [if_pos hg] at k
    rw [wrap64 (by omega) (by omega)]
    exact k
  · rw [if_neg hg] at k
    exact k
theorem F_ref11_Lease_Span.is {Q : Int → Heap → Prop} (o : l.Ok) (O : Sat h0 h (own b (refC l) :: L)) (k : Q (up l.patience) h) : F_ref11_Lease_Span (some (pt b 0)) h Q := by
  rw [F_ref11_Lease_Span.eq_1, F_ref11_Lease_Span_of.eq_1]
  simp only [nn_some, pt_add, Nat.zero_add, Nat.add_zero, Nat.reduceAdd, Nat.reduceMul, Int.toNat_zero, Int.toNat_one, Nat.zero_mul, Nat.one_mul]
  unfold refC at O
  refine O.ld 0 rfl (ldL_c (ldL_n ?_))
  exact F_ref11_up.is (by have := o.pat0; omega) k
theorem F_ref11_Lease_next.is {Q : Int → Heap → Prop} (o : l.Ok) (O : Sat h0 h (own b (refC l) :: L)) (k : Q l.next h) : F_ref11_Lease_next (some (pt b 0)) h Q := by
  rw [F_ref11_Lease_next.eq_1, F_ref11_Lease_next_of.eq_1]
  simp only [nn_some, pt_add, Nat.zero_add, Nat.add_zero, Nat.reduceAdd, Nat.reduceMul, Int.toNat_zero, Int.toNat_one, Nat.zero_mul, Nat.one_mul]
  unfold refC at O
  unfold LS.next at k
  have o' := o
  cases o
  have h1 := Int.emod_nonneg l.seen (show l.copies ≠ 0 by omega)
  have h2 := Int.emod_lt_of_pos l.seen (show 0 < l.copies by omega)
  have h3 := Int.mul_ediv_add_emod l.seen l.copies
  refine O.ld 0 rfl (ldL_c (ldL_n ?_))
  refine brr_p (fun hs => ?_) (fun hs => ?_)
  · rw [if_pos (.inl hs)] at k; exact k
  · refine O.ld 0 rfl (ldL_c (ldL_n ?_))
    refine O.ld 0 rfl (ldL_c (ldL_n ?_))
    rw [wrapu64 (x := l.place) (by omega) (by omega), wrapu64 (x := l.copies) (by omega) (by omega)]
    refine brr_p (fun hp => ?_) (fun hp => ?_)
    · rw [if_pos (.inr hp)] at k; exact k
    · rw [if_neg (by omega)] at k
      simp only at k
      refine O.ld 0 rfl (ldL_c (ldL_n ?_))
      refine ⟨by omega, ?_⟩
      refine O.ld 0 rfl (ldL_c (ldL_n ?_))
      have hq : l.seen.tdiv l.copies = l.seen / l.copies := Int.tdiv_eq_ediv_of_nonneg (by omega)
      have hq0 : 0 ≤ l.seen / l.copies := Int.ediv_nonneg (by omega) (by omega)
      have hqc : l.seen / l.copies * l.copies = l.seen - l.seen % l.copies := by rw [Int.mul_comm]; omega
      have hql : l.seen / l.copies ≤ l.seen := Int.ediv_le_self _ (by omega)
      have h4 : 0 ≤ l.copies * (l.seen / l.copies) := Int.mul_nonneg (by omega) hq0
      rw [hq, wrapu64 (x := l.seen / l.copies) (by omega) (by omega), hqc, wrapu64 (x := l.seen - l.seen % l.copies) (by omega) (by omega), wrapu64 (x := l.seen - l.seen % l.copies + l.place) (by omega) (by omega)]
      refine jn1 (fun (e : Int) h' => h' = h ∧ ((e > (1099511627776 : Int) ∧ Q 0 h) ∨ (e ≤ (1099511627776 : Int) ∧ Q e h))) ?_ ?_
      · rintro (e : Int) h ⟨rfl, he⟩
        refine brr_p (fun hg => ?_) (fun hg => ?_)
        · rcases he with ⟨_, he⟩ | ⟨_, he⟩
          · exact he
          · have hg : e > (1099511627776 : Int) := hg
            omega
        · have hg : ¬ e > (1099511627776 : Int) := hg
          rcases he with ⟨_, he⟩ | ⟨_, he⟩
          · omega
          · exact he
      · intro j hj
        refine brr_p (fun hle => ?_) (fun hle => ?_)
        · rw [if_pos (show l.place ≤ l.seen % l.copies by omega)] at k
          refine brr_p (fun hc => ?_) (fun hc => ?_)
          · have hsm : l.seen % l.copies = l.seen := Int.emod_eq_of_lt (by omega) (by omega)
            rw [if_pos (by omega)] at k
            exact k
          · rw [wrapu64 (by omega) (by omega)]
            refine hj _ _ ⟨rfl, ?_⟩
            by_cases hg : l.seen - l.seen % l.copies + l.place + l.copies > (1099511627776 : Int)
            · rw [if_pos (by omega)] at k
              exact .inl ⟨hg, k⟩
            · rw [if_neg (by omega), show l.seen + (l.copies - l.seen % l.copies + l.place) = l.seen - l.seen % l.copies + l.place + l.copies by omega] at k
              exact .inr ⟨by omega, k⟩
        · rw [if_neg (show ¬ l.place ≤ l.seen % l.copies by omega)] at k
          refine hj _ _ ⟨rfl, ?_⟩
          by_cases hg : l.seen - l.seen % l.copies + l.place > (1099511627776 : Int)
          · rw [if_pos (by omega)] at k
            exact .inl ⟨hg, k⟩
          · rw [if_neg (by omega), show l.seen + (l.place - l.seen % l.copies) = l.seen - l.seen % l.copies + l.place by omega] at k
            exact .inr ⟨by omega, k⟩
theorem F_ref11_Lease_Tick.is {ph : Int} {x y : Bool} {Q : Int → Bool → Heap → Prop} (o : l.Ok) (O : Sat h0 h (own b (refC l) :: L)) (k : ∀ h', Sat h0 h' (own b (refC (l.tick ph x y)) :: L) → Q (l.tickE ph x y) (l.tickB ph x y) h') : F_ref11_Lease_Tick (some (pt b 0)) ph x y h Q := by
  rw [F_ref11_Lease_Tick.eq_1, F_ref11_Lease_Tick_of.eq_1]
  simp only [nn_some, pt_add, Nat.zero_add, Nat.add_zero, Nat.reduceAdd, Nat.reduceMul, Int.toNat_zero, Int.toNat_one, Nat.zero_mul, Nat.one_mul]
  unfold refC at O
  refine O.ld 0 rfl (ldL_c (ldL_n ?_))
  refine F_ref11_up.is o.since0 ?_
  refine O.st 0 rfl (by simp) rfl fun h O => ?_
  dsimp only [V.put, List.set] at O
  refine O.ld 0 rfl (ldL_c (ldL_n ?_))
  refine F_ref11_up.is o.quiet0 ?_
  refine O.st 0 rfl (by simp) rfl fun h O => ?_
  dsimp only [V.put, List.set] at O
  replace O : Sat h0 h (own b (refC l.pass) :: L) := O
  unfold LS.tick LS.tickE LS.tickB at k
  have op := o.pass
  rw [show l.patience = l.pass.patience from rfl] at k
  generalize l.pass = l at *
  clear o
  refine brr_of (fun hx => ?_) (fun hx => ?_)
  · simp only [hx, if_true] at k
    have O' := O
    unfold refC at O
    refine O.ld 0 rfl (ldL_c (ldL_n ?_))
    refine O.ld 0 rfl (ldL_c (ldL_n ?_))
    exact k _ O'
  · simp only [hx, Bool.false_eq_true, if_false] at k
    refine brr_ne (fun hp => ?_) (fun hp => ?_)
    · simp only [if_neg hp] at k
      exact k _ O
    · have hp : ph = 0 := hp
      simp only [hp, if_true] at k
      have l0 := op.left0; have l1 := op.left1
      have O2 := O
      unfold refC at O2
      refine O2.ld 0 rfl (ldL_c (ldL_n ?_))
      refine jn0 (fun h' => Sat h0 h' (own b (refC l.down) :: L)) ?_ ?_
      · intro h O
        have od := op.down
        generalize l.down = l at *
        refine jn1 (fun t h' => h' = h ∧ (t = true ↔ ¬ (l.left = 0 ∧ y = true))) ?_ ?_
        · rintro t h ⟨rfl, ht⟩
          refine brr_of (fun ht' => ?_) (fun ht' => ?_)
          · simp only [if_neg (ht.1 ht')] at k
            exact k _ O
          · have hn : l.left = 0 ∧ y = true := Classical.byContradiction fun hc => by rw [ht.2 hc] at ht'; cases ht'
            simp only [if_pos hn] at k
            refine F_ref11_Lease_next.is od O ?_
            have hnx := od.next
            have q0 := od.pat0; have q1 := od.pat1; have q2 := od.most1
            unfold LS.begin at k
            generalize l.next = n at *
            refine jn0 (fun h' => Sat h0 h' (own b (refC (if n > 0 then { l with seen := n, patience := if 2 * l.patience > l.most then l.most else 2 * l.patience } else l)) :: L)) ?_ ?_
            · intro h O
              by_cases hpn : n > 0
              · rw [if_pos hpn] at O k
                unfold refC at O
                refine O.ld 0 rfl (ldL_c (ldL_n ?_))
                refine O.st 0 rfl (by simp) rfl fun h O => ?_
                dsimp only [V.put, List.set] at O
                exact k _ O
              · rw [if_neg hpn] at O k
                unfold refC at O
                refine O.ld 0 rfl (ldL_c (ldL_n ?_))
                refine O.st 0 rfl (by simp) rfl fun h O => ?_
                dsimp only [V.put, List.set] at O
                exact k _ O
            · intro j hj
              refine brr_ne (fun hpn => ?_) (fun hpn => ?_)
              · rw [if_pos (show n > 0 by omega)] at hj
                unfold refC at O
                refine O.st 0 rfl (by simp) rfl fun h O => ?_
                dsimp only [V.put, List.set] at O
                refine O.ld 0 rfl (ldL_c (ldL_n ?_))
                refine O.ld 0 rfl (ldL_c (ldL_n ?_))
                refine ⟨by decide, ?_⟩
                rw [Int.tdiv_eq_ediv_of_nonneg (by omega), wrap64 (x := l.most / 2) (by omega) (by omega)]
                refine jn0 _ hj fun j hj => ?_
                refine brr_p (fun hg => ?_) (fun hg => ?_)
                · refine O.ld 0 rfl (ldL_c (ldL_n ?_))
                  refine O.st 0 rfl (by simp) rfl fun h O => ?_
                  dsimp only [V.put, List.set] at O
                  refine hj _ ?_
                  rw [if_pos (show 2 * l.patience > l.most by omega)]
                  exact O
                · refine O.ld 0 rfl (ldL_c (ldL_n ?_))
                  rw [wrap64 (by omega) (by omega)]
                  refine O.st 0 rfl (by simp) rfl fun h O => ?_
                  dsimp only [V.put, List.set] at O
                  refine hj _ ?_
                  rw [if_neg (show ¬ 2 * l.patience > l.most by omega)]
                  exact O
              · have hpn : n = 0 := hpn
                refine hj _ ?_
                rw [if_neg (show ¬ n > 0 by omega)]
                exact O
        · intro j hj
          unfold refC at O
          refine O.ld 0 rfl (ldL_c (ldL_n ?_))
          have := od.left0
          refine brr_p (fun hl => ?_) (fun hl => ?_)
          · exact hj _ _ ⟨rfl, by simp; omega⟩
          · exact hj _ _ ⟨rfl, by have : l.left = 0 := by omega
                                  simp [this]⟩
      · intro j hj
        have e : l.down.left = if l.left - 1 < 0 then 0 else l.left - 1 := rfl
        unfold refC at O
        refine brr_p (fun hl => ?_) (fun hl => ?_)
        · refine O.ld 0 rfl (ldL_c (ldL_n ?_))
          rw [wrap64 (by omega) (by omega)]
          refine O.st 0 rfl (by simp) rfl fun h O => ?_
          dsimp only [V.put, List.set] at O
          refine hj _ ?_
          unfold LS.down
          rw [if_neg (by omega)]
          exact O
        · refine hj _ ?_
          unfold LS.down
          rw [if_pos (by omega)]
          have : l.left = 0 := by omega
          rw [this] at O
          exact O
end
end Go.Proofs.Ytboidjampddfoaa.V
