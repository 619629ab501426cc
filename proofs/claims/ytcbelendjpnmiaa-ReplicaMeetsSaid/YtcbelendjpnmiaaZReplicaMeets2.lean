import Derived.Test.YtcbelendjpnmiaaZReplicaMeets1
import Derived.Test.YtcbelendjpnmiaaProg
/- The program's replica: what it does with a message of each kind. -/
namespace Go.Proofs.Ytcbelendjpnmiaa.V
open Go Go.RowKit
set_option linter.unusedVariables false
set_option linter.unusedSimpArgs false
section
variable {h0 h : Heap} {L : List Res}
theorem F_replica_answer.is {kd : Int} {Q : Int → Int → Int → Int → Int → Int → Int → Int → Int → Int → Sl → Int → Int → ByteArray → ByteArray → Int → Int → Int → Int → Int → Int → Int → Heap → Prop} (O : Sat h0 h L) (k : ∀ h', Sat h0 h' L → Q kd 0 0 0 0 0 0 0 0 0 ⟨none, 0, 0⟩ 0 0 ⟨#[]⟩ ⟨#[]⟩ 0 0 0 0 0 0 0 h') : F_replica_answer kd h Q := by
  rw [F_replica_answer.eq_1, F_replica_answer_of.eq_1]
  repeat (first | (with_reducible refine al_id ?_); refine O.al fun _ h O => ?_ | (with_reducible refine nn_id ?_); refine ⟨_, rfl, ?_⟩ | (with_reducible refine ld_id ?_); (first | refine O.ld 0 rfl ?_); (repeat (first | (with_reducible refine ldL_n ?_) | refine ldL_s ?_ | refine ldL_c ?_)) | (with_reducible refine st_ad (by first | (with_reducible rfl) | (simp only [pt_add, Nat.zero_add, Nat.add_zero, Nat.reduceAdd]; with_reducible rfl)) ?_); (first | refine O.st 0 rfl (by simp) rfl fun h O => ?_); (dsimp only [V.put, List.set, List.length_cons, List.length_nil] at O) | (with_reducible refine ca_id ?_); (first | refine O.ca 0 1 rfl ?_ | refine O.ca 0 2 rfl ?_))
  exact k _ O.drop
theorem F_replica_Replica_refuse.is {p : Nat} {r : RS} {e : Int} {Q : Int → Int → Int → Int → Int → Int → Int → Int → Int → Int → Sl → Int → Int → ByteArray → ByteArray → Int → Int → Int → Int → Int → Int → Int → Bool → Bool → Bool → Heap → Prop} (O : Sat h0 h (repR p r :: L)) (k : ∀ h', Sat h0 h' (repR p r :: L) → Q (refusal r e).kind (refusal r e).frm (refusal r e).to (refusal r e).shard (refusal r e).epoch (refusal r e).te (refusal r e).ts (refusal r e).round 0 (refusal r e).seen (⟨none, 0, 0⟩ : Sl) 0 0 ⟨#[]⟩ ⟨#[]⟩ 0 0 0 0 0 0 0 (refusal r e).ans (refusal r e).tak (refusal r e).chg h') : F_replica_Replica_refuse (some (pt p 0)) e h Q := by
  rw [F_replica_Replica_refuse.eq_1, F_replica_Replica_refuse_of.eq_1]
  refine O.al fun _ h O => ?_
  refine F_replica_answer.is O fun h O => ?_
  refine O.al fun _ h O => ?_
  refine O.st 0 rfl (by simp) rfl fun h O => ?_
  dsimp only [V.put, List.set] at O
  obtain ⟨v, O⟩ := (O.sel [2, 0, 1] 3 rfl (Nat.le_add_left _ _)).rep
  repeat (first | (with_reducible refine al_id ?_); refine O.al fun _ h O => ?_ | (with_reducible refine nn_id ?_); refine ⟨_, rfl, ?_⟩ | (with_reducible refine ld_id ?_); (first | refine O.ld 0 rfl ?_ | refine O.ld 1 rfl ?_ | refine O.ld 2 rfl ?_ | refine O.ld 3 rfl ?_); (repeat (first | (with_reducible refine ldL_n ?_) | refine ldL_s ?_ | refine ldL_c ?_)) | (with_reducible refine st_ad (by first | (with_reducible rfl) | (simp only [pt_add, Nat.zero_add, Nat.add_zero, Nat.reduceAdd]; with_reducible rfl)) ?_); (first | refine O.st 0 rfl (by simp) rfl fun h O => ?_ | refine O.st 1 rfl (by simp) rfl fun h O => ?_ | refine O.st 2 rfl (by simp) rfl fun h O => ?_ | refine O.st 3 rfl (by simp) rfl fun h O => ?_); (dsimp only [V.put, List.set, List.length_cons, List.length_nil] at O) | (with_reducible refine ca_id ?_); (first | refine O.ca 0 1 rfl ?_ | refine O.ca 0 2 rfl ?_ | refine O.ca 1 1 rfl ?_ | refine O.ca 1 2 rfl ?_ | refine O.ca 2 1 rfl ?_ | refine O.ca 2 2 rfl ?_ | refine O.ca 3 1 rfl ?_ | refine O.ca 3 2 rfl ?_))
  exact k _ (O.sel [0, 1] 4 rfl (Nat.le_add_left _ _)).repI
theorem F_cmp_Compare_fdced.is {x y : Int} {Q : Int → Heap → Prop} (k : Q (if x < y then -1 else if y < x then 1 else 0) h) : F_cmp_Compare_fdced x y h Q := by
  rw [F_cmp_Compare_fdced.eq_1, F_cmp_Compare_fdced_of.eq_1]
  rw [F_cmp_isNaN_beedc.eq_1, F_cmp_isNaN_beedc_of.eq_1, F_cmp_isNaN_beedc.eq_1, F_cmp_isNaN_beedc_of.eq_1]
  refine brr_ff (by simp) ?_
  refine brr_ff (by simp) ?_
  refine brr_p (fun h1 => ?_) (fun h1 => ?_)
  · rwa [if_pos h1] at k
  rw [if_neg h1] at k
  refine brr_p (fun h2 => ?_) (fun h2 => ?_)
  · rwa [if_pos h2] at k
  · rwa [if_neg h2] at k
theorem F_cmp_Or_fdbce.is {b : Nat} {x y : Int} {Q : Int → Heap → Prop} (O : Sat h0 h (own b [.int .i64 x, .int .i64 y] :: L)) (k : Q (if x = 0 then y else x) h) : F_cmp_Or_fdbce ⟨some (pt b 0), 2, 2⟩ h Q := by
  rw [F_cmp_Or_fdbce.eq_1, F_cmp_Or_fdbce_of.eq_1]
  refine jn0 (fun h' => h' = h ∧ x = 0 ∧ y = 0) ?_ ?_
  · rintro h ⟨rfl, rfl, rfl⟩
    exact k
  · intro j hj
    rw [F_cmp_Or_fdbce.l1.eq_1]
    refine wl1 (k := .int .i64) (fun (m : Nat) (i : Int) (h' : Heap) => 0 ≤ i ∧ i + m = 2 ∧ h' = h ∧ (0 < i → x = 0) ∧ (1 < i → y = 0)) ?_ (m := 2) ⟨by omega, by omega, rfl, by omega, by omega⟩
    rintro m (i : Int) h2 next hn ⟨hi0, him, rfl, hx, hy⟩
    refine brr_p (fun hlt => ?_) (fun hlt => ?_)
    · have hlt : i < 2 := hlt
      have hi : i = 0 ∨ i = 1 := by omega
      rcases hi with rfl | rfl
      · refine ⟨_, rfl, Int.le_refl _, hlt, ?_⟩
        refine O.ld 0 rfl (ldL_c (ldL_n ?_))
        refine brr_of (fun h1 => ?_) (fun h1 => ?_)
        · rwa [if_neg (by simpa using h1)] at k
        · exact hn 1 _ _ (by omega) ⟨by decide, by decide, rfl, fun _ => by simpa using h1, fun hq => absurd hq (by decide)⟩
      · refine ⟨_, rfl, by omega, hlt, ?_⟩
        refine O.ld 0 rfl (ldL_c (ldL_n ?_))
        refine brr_of (fun h1 => ?_) (fun h1 => ?_)
        · rwa [if_pos (hx (by decide))] at k
        · exact hn 0 _ _ (by omega) ⟨by decide, by decide, rfl, fun _ => hx (by decide), fun _ => by simpa using h1⟩
    · have hlt : ¬ i < 2 := hlt
      exact hj _ ⟨rfl, hx (by omega), hy (by omega)⟩
theorem F_replica_Replica_prepare.is {p : Nat} {r : RS} {m : Mg} {Q : Int → Int → Int → Int → Int → Int → Int → Int → Int → Int → Sl → Int → Int → ByteArray → ByteArray → Int → Int → Int → Int → Int → Int → Int → Bool → Bool → Bool → Heap → Prop} (ok : r.Ok) (O : Sat h0 h (repR p r :: L)) (k : ∀ s h', Sat h0 h' (buf 1 u8 s (prep r m).2.val :: repR p (prep r m).1 :: L) → Q (prep r m).2.kind (prep r m).2.frm (prep r m).2.to (prep r m).2.shard (prep r m).2.epoch (prep r m).2.te (prep r m).2.ts (prep r m).2.round 0 (prep r m).2.seen s 0 0 ⟨#[]⟩ ⟨#[]⟩ 0 0 0 0 0 0 0 (prep r m).2.ans (prep r m).2.tak (prep r m).2.chg h') : F_replica_Replica_prepare (some (pt p 0)) m.kind m.frm m.to m.shard m.epoch m.te m.ts m.round m.span m.seen m.v m.peer m.num m.name m.other m.amount m.life m.id m.op m.client m.state m.bad h Q := by
  rw [F_replica_Replica_prepare.eq_1, F_replica_Replica_prepare_of.eq_1]
  refine O.al fun _ h O => ?_
  refine O.al fun _ h O => ?_
  refine O.ld 1 rfl (ldL_c (ldL_n ?_))
  obtain ⟨v, O1⟩ := (O.sel [2, 0, 1] 3 rfl (Nat.le_add_left _ _)).rep
  refine ⟨_, rfl, ?_⟩
  refine O1.ld 0 rfl (ldL_c (ldL_n ?_))
  refine F_cmp_Compare_fdced.is ?_
  refine jn1 (fun z h' => h' = h ∧ z = decide (m.epoch < r.prom ∨ (r.prom < m.epoch ∧ 0 < r.wait))) ?_ ?_
  · clear O1
    rintro z h ⟨rfl, rfl⟩
    refine brr_p (fun hc => ?_) (fun hc => ?_)
    · have e : prep r m = (r, refusal r m.epoch) := by unfold prep; rw [if_pos hc]
      rw [e] at k
      repeat (first | (with_reducible refine al_id ?_); refine O.al fun _ h O => ?_ | (with_reducible refine nn_id ?_); refine ⟨_, rfl, ?_⟩ | (with_reducible refine ld_id ?_); (first | refine O.ld 0 rfl ?_ | refine O.ld 1 rfl ?_); (repeat (first | (with_reducible refine ldL_n ?_) | refine ldL_s ?_ | refine ldL_c ?_)) | (with_reducible refine st_ad (by first | (with_reducible rfl) | (simp only [pt_add, Nat.zero_add, Nat.add_zero, Nat.reduceAdd]; with_reducible rfl)) ?_); (first | refine O.st 0 rfl (by simp) rfl fun h O => ?_ | refine O.st 1 rfl (by simp) rfl fun h O => ?_); (dsimp only [V.put, List.set, List.length_cons, List.length_nil] at O) | (with_reducible refine ca_id ?_); (first | refine O.ca 0 1 rfl ?_ | refine O.ca 0 2 rfl ?_ | refine O.ca 1 1 rfl ?_ | refine O.ca 1 2 rfl ?_))
      replace O := O.sel [2, 0, 1] 3 rfl (Nat.le_add_left _ _)
      simp only [selT, List.map, nth, List.drop, List.cons_append, List.nil_append] at O
      refine F_replica_Replica_refuse.is O fun h O => ?_
      repeat (first | (with_reducible refine al_id ?_); refine O.al fun _ h O => ?_ | (with_reducible refine nn_id ?_); refine ⟨_, rfl, ?_⟩ | (with_reducible refine ld_id ?_); (first | refine O.ld 0 rfl ?_ | refine O.ld 1 rfl ?_ | refine O.ld 2 rfl ?_); (repeat (first | (with_reducible refine ldL_n ?_) | refine ldL_s ?_ | refine ldL_c ?_)) | (with_reducible refine st_ad (by first | (with_reducible rfl) | (simp only [pt_add, Nat.zero_add, Nat.add_zero, Nat.reduceAdd]; with_reducible rfl)) ?_); (first | refine O.st 0 rfl (by simp) rfl fun h O => ?_ | refine O.st 1 rfl (by simp) rfl fun h O => ?_ | refine O.st 2 rfl (by simp) rfl fun h O => ?_); (dsimp only [V.put, List.set, List.length_cons, List.length_nil] at O) | (with_reducible refine ca_id ?_); (first | refine O.ca 0 1 rfl ?_ | refine O.ca 0 2 rfl ?_ | refine O.ca 1 1 rfl ?_ | refine O.ca 1 2 rfl ?_ | refine O.ca 2 1 rfl ?_ | refine O.ca 2 2 rfl ?_))
      exact k _ _ (O.sel [0] 3 rfl (Nat.le_add_left _ _)).nil_buf
    · have e : prep r m = ({ r with prom := m.epoch }, { hd0 with kind := 2, epoch := m.epoch, te := r.te, ts := r.ts, val := r.val, chg := r.prom != m.epoch }) := by unfold prep; rw [if_neg hc]
      rw [e] at k
      repeat (first | (with_reducible refine al_id ?_); refine O.al fun _ h O => ?_ | (with_reducible refine nn_id ?_); refine ⟨_, rfl, ?_⟩ | (with_reducible refine ld_id ?_); (first | refine O.ld 0 rfl ?_ | refine O.ld 1 rfl ?_); (repeat (first | (with_reducible refine ldL_n ?_) | refine ldL_s ?_ | refine ldL_c ?_)) | (with_reducible refine st_ad (by first | (with_reducible rfl) | (simp only [pt_add, Nat.zero_add, Nat.add_zero, Nat.reduceAdd]; with_reducible rfl)) ?_); (first | refine O.st 0 rfl (by simp) rfl fun h O => ?_ | refine O.st 1 rfl (by simp) rfl fun h O => ?_); (dsimp only [V.put, List.set, List.length_cons, List.length_nil] at O) | (with_reducible refine ca_id ?_); (first | refine O.ca 0 1 rfl ?_ | refine O.ca 0 2 rfl ?_ | refine O.ca 1 1 rfl ?_ | refine O.ca 1 2 rfl ?_))
      replace O := O.sel [2, 0, 1] 3 rfl (Nat.le_add_left _ _)
      simp only [selT, List.map, nth, List.drop, List.cons_append, List.nil_append] at O
      refine F_replica_Replica_promise.is O fun h O => ?_
      refine F_replica_answer.is O fun h O => ?_
      repeat (first | (with_reducible refine al_id ?_); refine O.al fun _ h O => ?_ | (with_reducible refine nn_id ?_); refine ⟨_, rfl, ?_⟩ | (with_reducible refine ld_id ?_); (first | refine O.ld 0 rfl ?_ | refine O.ld 1 rfl ?_); (repeat (first | (with_reducible refine ldL_n ?_) | refine ldL_s ?_ | refine ldL_c ?_)) | (with_reducible refine st_ad (by first | (with_reducible rfl) | (simp only [pt_add, Nat.zero_add, Nat.add_zero, Nat.reduceAdd]; with_reducible rfl)) ?_); (first | refine O.st 0 rfl (by simp) rfl fun h O => ?_ | refine O.st 1 rfl (by simp) rfl fun h O => ?_); (dsimp only [V.put, List.set, List.length_cons, List.length_nil] at O) | (with_reducible refine ca_id ?_); (first | refine O.ca 0 1 rfl ?_ | refine O.ca 0 2 rfl ?_ | refine O.ca 1 1 rfl ?_ | refine O.ca 1 2 rfl ?_))
      replace O := O.sel [1, 0, 2, 3] 4 rfl (Nat.le_add_left _ _)
      simp only [selT, List.map, nth, List.drop, List.cons_append, List.nil_append] at O
      refine F_replica_Replica_Stored.is (r := { r with prom := m.epoch }) ⟨ok.v, ok.w0, ok.w1⟩ O fun s h O => ?_
      repeat (first | (with_reducible refine al_id ?_); refine O.al fun _ h O => ?_ | (with_reducible refine nn_id ?_); refine ⟨_, rfl, ?_⟩ | (with_reducible refine ld_id ?_); (first | refine O.ld 0 rfl ?_ | refine O.ld 1 rfl ?_ | refine O.ld 2 rfl ?_ | refine O.ld 3 rfl ?_ | refine O.ld 4 rfl ?_ | refine O.ld 5 rfl ?_); (repeat (first | (with_reducible refine ldL_n ?_) | refine ldL_s ?_ | refine ldL_c ?_)) | (with_reducible refine st_ad (by first | (with_reducible rfl) | (simp only [pt_add, Nat.zero_add, Nat.add_zero, Nat.reduceAdd]; with_reducible rfl)) ?_); (first | refine O.st 0 rfl (by simp) rfl fun h O => ?_ | refine O.st 1 rfl (by simp) rfl fun h O => ?_ | refine O.st 2 rfl (by simp) rfl fun h O => ?_ | refine O.st 3 rfl (by simp) rfl fun h O => ?_ | refine O.st 4 rfl (by simp) rfl fun h O => ?_ | refine O.st 5 rfl (by simp) rfl fun h O => ?_); (dsimp only [V.put, List.set, List.length_cons, List.length_nil] at O) | (with_reducible refine ca_id ?_); (first | refine O.ca 0 1 rfl ?_ | refine O.ca 0 2 rfl ?_ | refine O.ca 1 1 rfl ?_ | refine O.ca 1 2 rfl ?_ | refine O.ca 2 1 rfl ?_ | refine O.ca 2 2 rfl ?_ | refine O.ca 3 1 rfl ?_ | refine O.ca 3 2 rfl ?_ | refine O.ca 4 1 rfl ?_ | refine O.ca 4 2 rfl ?_ | refine O.ca 5 1 rfl ?_ | refine O.ca 5 2 rfl ?_))
      exact k _ _ (O.sel [1, 2] 6 rfl (Nat.le_add_left _ _))
  · intro j hj
    refine brr_p (fun c1 => ?_) (fun c1 => ?_)
    · exact hj _ _ ⟨rfl, by rw [eq_comm, decide_eq_true_iff]; split at c1 <;> first | omega | (split at c1 <;> omega)⟩
    refine brr_p (fun c2 => ?_) (fun c2 => ?_)
    · refine ⟨_, rfl, ?_⟩
      refine O1.ld 0 rfl (ldL_c (ldL_n ?_))
      exact hj _ _ ⟨rfl, decide_eq_decide.2 (by split at c2 <;> first | omega | (split at c2 <;> omega))⟩
    · exact hj _ _ ⟨rfl, by rw [eq_comm, decide_eq_false_iff_not]; split at c1 <;> first | omega | (split at c1 <;> first | omega | (split at c2 <;> first | omega | (split at c2 <;> omega)))⟩
theorem F_replica_Replica_taken.is {p : Nat} {r : RS} {e s : Int} {Q : Int → Int → Int → Int → Int → Int → Int → Int → Int → Int → Sl → Int → Int → ByteArray → ByteArray → Int → Int → Int → Int → Int → Int → Int → Bool → Bool → Bool → Bool → Heap → Prop} (O : Sat h0 h (repR p r :: L)) (k1 : e < r.prom → ∀ h', Sat h0 h' (repR p r :: L) → Q (refusal r e).kind (refusal r e).frm (refusal r e).to (refusal r e).shard (refusal r e).epoch (refusal r e).te (refusal r e).ts (refusal r e).round 0 (refusal r e).seen (⟨none, 0, 0⟩ : Sl) 0 0 ⟨#[]⟩ ⟨#[]⟩ 0 0 0 0 0 0 0 (refusal r e).ans (refusal r e).tak (refusal r e).chg false h') (k2 : ¬ e < r.prom → ∀ h', Sat h0 h' (repR p (r.take_ e s) :: L) → Q 0 0 0 0 0 0 0 0 0 0 ⟨none, 0, 0⟩ 0 0 ⟨#[]⟩ ⟨#[]⟩ 0 0 0 0 0 0 0 false true (r.prom != e) true h') : F_replica_Replica_taken (some (pt p 0)) e s h Q := by
  rw [F_replica_Replica_taken.eq_1, F_replica_Replica_taken_of.eq_1]
  refine O.al fun _ h O => ?_
  refine ⟨_, rfl, ?_⟩
  obtain ⟨v, O1⟩ := O.swap.rep
  refine O1.ld 0 rfl (ldL_c (ldL_n ?_))
  refine brr_p (fun hc => ?_) (fun hc => ?_)
  · refine F_replica_Replica_refuse.is O.swap fun h O => ?_
    repeat (first | (with_reducible refine al_id ?_); refine O.al fun _ h O => ?_ | (with_reducible refine nn_id ?_); refine ⟨_, rfl, ?_⟩ | (with_reducible refine ld_id ?_); (first | refine O.ld 0 rfl ?_ | refine O.ld 1 rfl ?_); (repeat (first | (with_reducible refine ldL_n ?_) | refine ldL_s ?_ | refine ldL_c ?_)) | (with_reducible refine st_ad (by first | (with_reducible rfl) | (simp only [pt_add, Nat.zero_add, Nat.add_zero, Nat.reduceAdd]; with_reducible rfl)) ?_); (first | refine O.st 0 rfl (by simp) rfl fun h O => ?_ | refine O.st 1 rfl (by simp) rfl fun h O => ?_); (dsimp only [V.put, List.set, List.length_cons, List.length_nil] at O) | (with_reducible refine ca_id ?_); (first | refine O.ca 0 1 rfl ?_ | refine O.ca 0 2 rfl ?_ | refine O.ca 1 1 rfl ?_ | refine O.ca 1 2 rfl ?_))
    exact k1 hc _ (O.sel [0] 2 rfl (Nat.le_add_left _ _))
  · replace O := O1
    clear O1
    repeat (first | (with_reducible refine al_id ?_); refine O.al fun _ h O => ?_ | (with_reducible refine nn_id ?_); refine ⟨_, rfl, ?_⟩ | (with_reducible refine ld_id ?_); (first | refine O.ld 0 rfl ?_); (repeat (first | (with_reducible refine ldL_n ?_) | refine ldL_s ?_ | refine ldL_c ?_)) | (with_reducible refine st_ad (by first | (with_reducible rfl) | (simp only [pt_add, Nat.zero_add, Nat.add_zero, Nat.reduceAdd]; with_reducible rfl)) ?_); (first | refine O.st 0 rfl (by simp) rfl fun h O => ?_); (dsimp only [V.put, List.set, List.length_cons, List.length_nil] at O) | (with_reducible refine ca_id ?_); (first | refine O.ca 0 1 rfl ?_ | refine O.ca 0 2 rfl ?_))
    have O : Sat h0 h (repR p { r with wait := spanOf s } :: _) := Sat.repI O
    refine F_replica_Replica_promise.is O fun h O => ?_
    repeat (first | (with_reducible refine al_id ?_); refine O.al fun _ h O => ?_ | (with_reducible refine nn_id ?_); refine ⟨_, rfl, ?_⟩ | (with_reducible refine ld_id ?_); (first | refine O.ld 0 rfl ?_ | refine O.ld 1 rfl ?_); (repeat (first | (with_reducible refine ldL_n ?_) | refine ldL_s ?_ | refine ldL_c ?_)) | (with_reducible refine st_ad (by first | (with_reducible rfl) | (simp only [pt_add, Nat.zero_add, Nat.add_zero, Nat.reduceAdd]; with_reducible rfl)) ?_); (first | refine O.st 0 rfl (by simp) rfl fun h O => ?_ | refine O.st 1 rfl (by simp) rfl fun h O => ?_); (dsimp only [V.put, List.set, List.length_cons, List.length_nil] at O) | (with_reducible refine ca_id ?_); (first | refine O.ca 0 1 rfl ?_ | refine O.ca 0 2 rfl ?_ | refine O.ca 1 1 rfl ?_ | refine O.ca 1 2 rfl ?_))
    exact k2 hc _ (O.sel [0] 2 rfl (Nat.le_add_left _ _))
theorem orCmp {a b c d : Int} : let x := if a < c then (-1 : Int) else if c < a then 1 else 0; let y := if b < d then (-1 : Int) else if d < b then 1 else 0; ((if x = 0 then y else x) < 0 ↔ tagLt a b c d) ∧ ((if x = 0 then y else x) > 0 ↔ tagLt c d a b) := by
  intro x y
  unfold tagLt
  have hx : x = if a < c then (-1 : Int) else if c < a then 1 else 0 := rfl
  have hy : y = if b < d then (-1 : Int) else if d < b then 1 else 0 := rfl
  clear_value x y
  split at hx <;> (try split at hx) <;> split at hy <;> (try split at hy) <;> subst hx <;> subst hy <;> constructor <;> simp <;> omega
theorem F_replica_Replica_write.is {p : Nat} {r : RS} {m : Mg} {Q : Int → Int → Int → Int → Int → Int → Int → Int → Int → Int → Sl → Int → Int → ByteArray → ByteArray → Int → Int → Int → Int → Int → Int → Int → Bool → Bool → Bool → Heap → Prop} (V1 : Stays h0 L fun h => Bytes h m.v m.b) (hb : m.b.length ≤ (140737488355325 : Nat)) (O : Sat h0 h (repR p r :: L)) (k : ∀ s h', Sat h0 h' (buf 1 u8 s (writ r m).2.val :: repR p (writ r m).1 :: L) → Q (writ r m).2.kind (writ r m).2.frm (writ r m).2.to (writ r m).2.shard (writ r m).2.epoch (writ r m).2.te (writ r m).2.ts (writ r m).2.round 0 (writ r m).2.seen s 0 0 ⟨#[]⟩ ⟨#[]⟩ 0 0 0 0 0 0 0 (writ r m).2.ans (writ r m).2.tak (writ r m).2.chg h') : F_replica_Replica_write (some (pt p 0)) m.kind m.frm m.to m.shard m.epoch m.te m.ts m.round m.span m.seen m.v m.peer m.num m.name m.other m.amount m.life m.id m.op m.client m.state m.bad h Q := by
  rw [F_replica_Replica_write.eq_1, F_replica_Replica_write_of.eq_1]
  refine O.al fun x24 h O => ?_
  refine O.al fun x26 h O => ?_
  repeat (first | (with_reducible refine al_id ?_); refine O.al fun _ h O => ?_ | (with_reducible refine nn_id ?_); refine ⟨_, rfl, ?_⟩ | (with_reducible refine ld_id ?_); (first | refine O.ld 0 rfl ?_ | refine O.ld 1 rfl ?_); (repeat (first | (with_reducible refine ldL_n ?_) | refine ldL_s ?_ | refine ldL_c ?_)) | (with_reducible refine st_ad (by first | (with_reducible rfl) | (simp only [pt_add, Nat.zero_add, Nat.add_zero, Nat.reduceAdd]; with_reducible rfl)) ?_); (first | refine O.st 0 rfl (by simp) rfl fun h O => ?_ | refine O.st 1 rfl (by simp) rfl fun h O => ?_); (dsimp only [V.put, List.set, List.length_cons, List.length_nil] at O) | (with_reducible refine ca_id ?_); (first | refine O.ca 0 1 rfl ?_ | refine O.ca 0 2 rfl ?_ | refine O.ca 1 1 rfl ?_ | refine O.ca 1 2 rfl ?_))
  replace O := O.sel [2, 0, 1] 3 rfl (Nat.le_add_left _ _)
  simp only [selT, List.map, nth, List.drop, List.cons_append, List.nil_append] at O
  refine F_replica_Replica_taken.is O (fun hc h O => ?_) (fun hc h O => ?_)
  · have e : writ r m = (r, refusal r m.te) := by unfold writ; rw [if_pos hc]
    rw [e] at k
    repeat (first | (with_reducible refine al_id ?_); refine O.al fun _ h O => ?_ | (with_reducible refine nn_id ?_); refine ⟨_, rfl, ?_⟩ | (with_reducible refine ld_id ?_); (first | refine O.ld 0 rfl ?_ | refine O.ld 1 rfl ?_ | refine O.ld 2 rfl ?_); (repeat (first | (with_reducible refine ldL_n ?_) | refine ldL_s ?_ | refine ldL_c ?_)) | (with_reducible refine st_ad (by first | (with_reducible rfl) | (simp only [pt_add, Nat.zero_add, Nat.add_zero, Nat.reduceAdd]; with_reducible rfl)) ?_); (first | refine O.st 0 rfl (by simp) rfl fun h O => ?_ | refine O.st 1 rfl (by simp) rfl fun h O => ?_ | refine O.st 2 rfl (by simp) rfl fun h O => ?_); (dsimp only [V.put, List.set, List.length_cons, List.length_nil] at O) | (with_reducible refine ca_id ?_); (first | refine O.ca 0 1 rfl ?_ | refine O.ca 0 2 rfl ?_ | refine O.ca 1 1 rfl ?_ | refine O.ca 1 2 rfl ?_ | refine O.ca 2 1 rfl ?_ | refine O.ca 2 2 rfl ?_))
    refine brr_tt rfl ?_
    repeat (first | (with_reducible refine al_id ?_); refine O.al fun _ h O => ?_ | (with_reducible refine nn_id ?_); refine ⟨_, rfl, ?_⟩ | (with_reducible refine ld_id ?_); (first | refine O.ld 0 rfl ?_ | refine O.ld 1 rfl ?_ | refine O.ld 2 rfl ?_ | refine O.ld 3 rfl ?_); (repeat (first | (with_reducible refine ldL_n ?_) | refine ldL_s ?_ | refine ldL_c ?_)) | (with_reducible refine st_ad (by first | (with_reducible rfl) | (simp only [pt_add, Nat.zero_add, Nat.add_zero, Nat.reduceAdd]; with_reducible rfl)) ?_); (first | refine O.st 0 rfl (by simp) rfl fun h O => ?_ | refine O.st 1 rfl (by simp) rfl fun h O => ?_ | refine O.st 2 rfl (by simp) rfl fun h O => ?_ | refine O.st 3 rfl (by simp) rfl fun h O => ?_); (dsimp only [V.put, List.set, List.length_cons, List.length_nil] at O) | (with_reducible refine ca_id ?_); (first | refine O.ca 0 1 rfl ?_ | refine O.ca 0 2 rfl ?_ | refine O.ca 1 1 rfl ?_ | refine O.ca 1 2 rfl ?_ | refine O.ca 2 1 rfl ?_ | refine O.ca 2 2 rfl ?_ | refine O.ca 3 1 rfl ?_ | refine O.ca 3 2 rfl ?_))
    exact k _ _ (O.sel [1] 4 rfl (Nat.le_add_left _ _)).nil_buf
  · refine O.al fun x57 h O => ?_
    repeat (first | (with_reducible refine al_id ?_); refine O.al fun _ h O => ?_ | (with_reducible refine nn_id ?_); refine ⟨_, rfl, ?_⟩ | (with_reducible refine ld_id ?_); (first | refine O.ld 0 rfl ?_ | refine O.ld 1 rfl ?_ | refine O.ld 2 rfl ?_); (repeat (first | (with_reducible refine ldL_n ?_) | refine ldL_s ?_ | refine ldL_c ?_)) | (with_reducible refine st_ad (by first | (with_reducible rfl) | (simp only [pt_add, Nat.zero_add, Nat.add_zero, Nat.reduceAdd]; with_reducible rfl)) ?_); (first | refine O.st 0 rfl (by simp) rfl fun h O => ?_ | refine O.st 1 rfl (by simp) rfl fun h O => ?_ | refine O.st 2 rfl (by simp) rfl fun h O => ?_); (dsimp only [V.put, List.set, List.length_cons, List.length_nil] at O) | (with_reducible refine ca_id ?_); (first | refine O.ca 0 1 rfl ?_ | refine O.ca 0 2 rfl ?_ | refine O.ca 1 1 rfl ?_ | refine O.ca 1 2 rfl ?_ | refine O.ca 2 1 rfl ?_ | refine O.ca 2 2 rfl ?_))
    refine brr_ff rfl ?_
    replace O := O.sel [1, 0, 2, 3] 4 rfl (Nat.le_add_left _ _)
    simp only [selT, List.map, nth, List.drop, List.cons_append, List.nil_append] at O
    obtain ⟨v, O⟩ := O.rep
    repeat (first | (with_reducible refine al_id ?_); refine O.al fun _ h O => ?_ | (with_reducible refine nn_id ?_); refine ⟨_, rfl, ?_⟩ | (with_reducible refine ld_id ?_); (first | refine O.ld 0 rfl ?_ | refine O.ld 1 rfl ?_ | refine O.ld 2 rfl ?_ | refine O.ld 3 rfl ?_ | refine O.ld 4 rfl ?_); (repeat (first | (with_reducible refine ldL_n ?_) | refine ldL_s ?_ | refine ldL_c ?_)) | (with_reducible refine st_ad (by first | (with_reducible rfl) | (simp only [pt_add, Nat.zero_add, Nat.add_zero, Nat.reduceAdd]; with_reducible rfl)) ?_); (first | refine O.st 0 rfl (by simp) rfl fun h O => ?_ | refine O.st 1 rfl (by simp) rfl fun h O => ?_ | refine O.st 2 rfl (by simp) rfl fun h O => ?_ | refine O.st 3 rfl (by simp) rfl fun h O => ?_ | refine O.st 4 rfl (by simp) rfl fun h O => ?_); (dsimp only [V.put, List.set, List.length_cons, List.length_nil] at O) | (with_reducible refine ca_id ?_); (first | refine O.ca 0 1 rfl ?_ | refine O.ca 0 2 rfl ?_ | refine O.ca 1 1 rfl ?_ | refine O.ca 1 2 rfl ?_ | refine O.ca 2 1 rfl ?_ | refine O.ca 2 2 rfl ?_ | refine O.ca 3 1 rfl ?_ | refine O.ca 3 2 rfl ?_ | refine O.ca 4 1 rfl ?_ | refine O.ca 4 2 rfl ?_))
    refine F_cmp_Compare_fdced.is ?_
    repeat (first | (with_reducible refine al_id ?_); refine O.al fun _ h O => ?_ | (with_reducible refine nn_id ?_); refine ⟨_, rfl, ?_⟩ | (with_reducible refine ld_id ?_); (first | refine O.ld 0 rfl ?_ | refine O.ld 1 rfl ?_ | refine O.ld 2 rfl ?_ | refine O.ld 3 rfl ?_ | refine O.ld 4 rfl ?_); (repeat (first | (with_reducible refine ldL_n ?_) | refine ldL_s ?_ | refine ldL_c ?_)) | (with_reducible refine st_ad (by first | (with_reducible rfl) | (simp only [pt_add, Nat.zero_add, Nat.add_zero, Nat.reduceAdd]; with_reducible rfl)) ?_); (first | refine O.st 0 rfl (by simp) rfl fun h O => ?_ | refine O.st 1 rfl (by simp) rfl fun h O => ?_ | refine O.st 2 rfl (by simp) rfl fun h O => ?_ | refine O.st 3 rfl (by simp) rfl fun h O => ?_ | refine O.st 4 rfl (by simp) rfl fun h O => ?_); (dsimp only [V.put, List.set, List.length_cons, List.length_nil] at O) | (with_reducible refine ca_id ?_); (first | refine O.ca 0 1 rfl ?_ | refine O.ca 0 2 rfl ?_ | refine O.ca 1 1 rfl ?_ | refine O.ca 1 2 rfl ?_ | refine O.ca 2 1 rfl ?_ | refine O.ca 2 2 rfl ?_ | refine O.ca 3 1 rfl ?_ | refine O.ca 3 2 rfl ?_ | refine O.ca 4 1 rfl ?_ | refine O.ca 4 2 rfl ?_))
    refine F_cmp_Compare_fdced.is ?_
    refine O.al fun _ h O => ?_
    refine F_cmp_Or_fdbce.is O ?_
    obtain ⟨c1, c2⟩ := orCmp (a := m.te) (b := m.ts) (c := r.te) (d := r.ts)
    refine brr_p (fun hl => ?_) (fun hl => ?_)
    · have hl := c1.1 hl
      have e : writ r m = (r.take_ m.te m.span, { hd0 with tak := true, chg := r.prom != m.te }) := by unfold writ; rw [if_neg hc, if_pos hl]
      rw [e] at k
      repeat (first | (with_reducible refine al_id ?_); refine O.al fun _ h O => ?_ | (with_reducible refine nn_id ?_); refine ⟨_, rfl, ?_⟩ | (with_reducible refine ld_id ?_); (first | refine O.ld 0 rfl ?_ | refine O.ld 1 rfl ?_ | refine O.ld 2 rfl ?_ | refine O.ld 3 rfl ?_ | refine O.ld 4 rfl ?_ | refine O.ld 5 rfl ?_); (repeat (first | (with_reducible refine ldL_n ?_) | refine ldL_s ?_ | refine ldL_c ?_)) | (with_reducible refine st_ad (by first | (with_reducible rfl) | (simp only [pt_add, Nat.zero_add, Nat.add_zero, Nat.reduceAdd]; with_reducible rfl)) ?_); (first | refine O.st 0 rfl (by simp) rfl fun h O => ?_ | refine O.st 1 rfl (by simp) rfl fun h O => ?_ | refine O.st 2 rfl (by simp) rfl fun h O => ?_ | refine O.st 3 rfl (by simp) rfl fun h O => ?_ | refine O.st 4 rfl (by simp) rfl fun h O => ?_ | refine O.st 5 rfl (by simp) rfl fun h O => ?_); (dsimp only [V.put, List.set, List.length_cons, List.length_nil] at O) | (with_reducible refine ca_id ?_); (first | refine O.ca 0 1 rfl ?_ | refine O.ca 0 2 rfl ?_ | refine O.ca 1 1 rfl ?_ | refine O.ca 1 2 rfl ?_ | refine O.ca 2 1 rfl ?_ | refine O.ca 2 2 rfl ?_ | refine O.ca 3 1 rfl ?_ | refine O.ca 3 2 rfl ?_ | refine O.ca 4 1 rfl ?_ | refine O.ca 4 2 rfl ?_ | refine O.ca 5 1 rfl ?_ | refine O.ca 5 2 rfl ?_))
      exact k _ _ (Sat.repI (O.sel [1, 2] 6 rfl (Nat.le_add_left _ _))).nil_buf
    have hl := fun q => hl (c1.2 q)
    have O := O.drop
    refine jn0 (fun h' => ∃ r' c, writ r m = (r', { hd0 with kind := 5, te := m.te, ts := m.ts, tak := true, chg := c }) ∧ Sat h0 h' (repR p r' :: own x57 [.int .i64 0, .int .i64 0, .int .i64 0, .int .i64 0, .int .u64 0, .int .u64 0, .int .u64 0, .int .u64 0, .int .i64 0, .int .u64 0, .slice none 0 0, .int .i64 0, .int .u64 0, .string (⟨#[]⟩ : ByteArray), .string (⟨#[]⟩ : ByteArray), .int .u64 0, .int .u64 0, .int .u64 0, .int .i64 0, .int .i64 0, .int .i64 0, .int .i64 0, .bool false, .bool true, .bool c] :: own x26 [.int .i64 0, .int .i64 0, .int .i64 0, .int .i64 0, .int .u64 0, .int .u64 0, .int .u64 0, .int .u64 0, .int .i64 0, .int .u64 0, .slice none 0 0, .int .i64 0, .int .u64 0, .string (⟨#[]⟩ : ByteArray), .string (⟨#[]⟩ : ByteArray), .int .u64 0, .int .u64 0, .int .u64 0, .int .i64 0, .int .i64 0, .int .i64 0, .int .i64 0, .bool false, .bool false, .bool false] :: own x24 (mgC m) :: L)) ?_ ?_
    · clear O
      rintro h ⟨r', c, e, O⟩
      rw [e] at k
      refine F_replica_answer.is O fun h O => ?_
      repeat (first | (with_reducible refine al_id ?_); refine O.al fun _ h O => ?_ | (with_reducible refine nn_id ?_); refine ⟨_, rfl, ?_⟩ | (with_reducible refine ld_id ?_); (first | refine O.ld 0 rfl ?_ | refine O.ld 1 rfl ?_ | refine O.ld 2 rfl ?_ | refine O.ld 3 rfl ?_); (repeat (first | (with_reducible refine ldL_n ?_) | refine ldL_s ?_ | refine ldL_c ?_)) | (with_reducible refine st_ad (by first | (with_reducible rfl) | (simp only [pt_add, Nat.zero_add, Nat.add_zero, Nat.reduceAdd]; with_reducible rfl)) ?_); (first | refine O.st 0 rfl (by simp) rfl fun h O => ?_ | refine O.st 1 rfl (by simp) rfl fun h O => ?_ | refine O.st 2 rfl (by simp) rfl fun h O => ?_ | refine O.st 3 rfl (by simp) rfl fun h O => ?_); (dsimp only [V.put, List.set, List.length_cons, List.length_nil] at O) | (with_reducible refine ca_id ?_); (first | refine O.ca 0 1 rfl ?_ | refine O.ca 0 2 rfl ?_ | refine O.ca 1 1 rfl ?_ | refine O.ca 1 2 rfl ?_ | refine O.ca 2 1 rfl ?_ | refine O.ca 2 2 rfl ?_ | refine O.ca 3 1 rfl ?_ | refine O.ca 3 2 rfl ?_))
      exact k _ _ (O.sel [0] 4 rfl (Nat.le_add_left _ _)).nil_buf
    · intro j hj
      refine brr_p (fun hg => ?_) (fun hg => ?_)
      · have hg := c2.1 hg
        repeat (first | (with_reducible refine al_id ?_); refine O.al fun _ h O => ?_ | (with_reducible refine nn_id ?_); refine ⟨_, rfl, ?_⟩ | (with_reducible refine ld_id ?_); (first | refine O.ld 0 rfl ?_ | refine O.ld 1 rfl ?_ | refine O.ld 2 rfl ?_ | refine O.ld 3 rfl ?_ | refine O.ld 4 rfl ?_); (repeat (first | (with_reducible refine ldL_n ?_) | refine ldL_s ?_ | refine ldL_c ?_)) | (with_reducible refine st_ad (by first | (with_reducible rfl) | (simp only [pt_add, Nat.zero_add, Nat.add_zero, Nat.reduceAdd]; with_reducible rfl)) ?_); (first | refine O.st 0 rfl (by simp) rfl fun h O => ?_ | refine O.st 1 rfl (by simp) rfl fun h O => ?_ | refine O.st 2 rfl (by simp) rfl fun h O => ?_ | refine O.st 3 rfl (by simp) rfl fun h O => ?_ | refine O.st 4 rfl (by simp) rfl fun h O => ?_); (dsimp only [V.put, List.set, List.length_cons, List.length_nil] at O) | (with_reducible refine ca_id ?_); (first | refine O.ca 0 1 rfl ?_ | refine O.ca 0 2 rfl ?_ | refine O.ca 1 1 rfl ?_ | refine O.ca 1 2 rfl ?_ | refine O.ca 2 1 rfl ?_ | refine O.ca 2 2 rfl ?_ | refine O.ca 3 1 rfl ?_ | refine O.ca 3 2 rfl ?_ | refine O.ca 4 1 rfl ?_ | refine O.ca 4 2 rfl ?_))
        refine F_bytes_Clone.is O (fun h O => V1 h (O.sel [] 5 rfl (Nat.le_add_left _ _))) hb fun s h O => ?_
        repeat (first | (with_reducible refine al_id ?_); refine O.al fun _ h O => ?_ | (with_reducible refine nn_id ?_); refine ⟨_, rfl, ?_⟩ | (with_reducible refine ld_id ?_); (first | refine O.ld 0 rfl ?_ | refine O.ld 1 rfl ?_ | refine O.ld 2 rfl ?_ | refine O.ld 3 rfl ?_ | refine O.ld 4 rfl ?_ | refine O.ld 5 rfl ?_); (repeat (first | (with_reducible refine ldL_n ?_) | refine ldL_s ?_ | refine ldL_c ?_)) | (with_reducible refine st_ad (by first | (with_reducible rfl) | (simp only [pt_add, Nat.zero_add, Nat.add_zero, Nat.reduceAdd]; with_reducible rfl)) ?_); (first | refine O.st 0 rfl (by simp) rfl fun h O => ?_ | refine O.st 1 rfl (by simp) rfl fun h O => ?_ | refine O.st 2 rfl (by simp) rfl fun h O => ?_ | refine O.st 3 rfl (by simp) rfl fun h O => ?_ | refine O.st 4 rfl (by simp) rfl fun h O => ?_ | refine O.st 5 rfl (by simp) rfl fun h O => ?_); (dsimp only [V.put, List.set, List.length_cons, List.length_nil] at O) | (with_reducible refine ca_id ?_); (first | refine O.ca 0 1 rfl ?_ | refine O.ca 0 2 rfl ?_ | refine O.ca 1 1 rfl ?_ | refine O.ca 1 2 rfl ?_ | refine O.ca 2 1 rfl ?_ | refine O.ca 2 2 rfl ?_ | refine O.ca 3 1 rfl ?_ | refine O.ca 3 2 rfl ?_ | refine O.ca 4 1 rfl ?_ | refine O.ca 4 2 rfl ?_ | refine O.ca 5 1 rfl ?_ | refine O.ca 5 2 rfl ?_))
        refine hj _ ⟨_, _, by unfold writ; rw [if_neg hc, if_neg hl, if_pos hg], ?_⟩
        exact Sat.repI (O.sel [1, 0, 3, 4, 5] 6 rfl (Nat.le_add_left _ _))
      · have hg := fun q => hg (c2.2 q)
        refine hj _ ⟨_, _, by unfold writ; rw [if_neg hc, if_neg hl, if_neg hg], ?_⟩
        exact Sat.repI (s := v) O
theorem F_replica_Replica_beat.is {p : Nat} {r : RS} {m : Mg} {Q : Int → Int → Int → Int → Int → Int → Int → Int → Int → Int → Sl → Int → Int → ByteArray → ByteArray → Int → Int → Int → Int → Int → Int → Int → Bool → Bool → Bool → Heap → Prop} (O : Sat h0 h (repR p r :: L)) (k : ∀ s h', Sat h0 h' (buf 1 u8 s (beats r m).2.val :: repR p (beats r m).1 :: L) → Q (beats r m).2.kind (beats r m).2.frm (beats r m).2.to (beats r m).2.shard (beats r m).2.epoch (beats r m).2.te (beats r m).2.ts (beats r m).2.round 0 (beats r m).2.seen s 0 0 ⟨#[]⟩ ⟨#[]⟩ 0 0 0 0 0 0 0 (beats r m).2.ans (beats r m).2.tak (beats r m).2.chg h') : F_replica_Replica_beat (some (pt p 0)) m.kind m.frm m.to m.shard m.epoch m.te m.ts m.round m.span m.seen m.v m.peer m.num m.name m.other m.amount m.life m.id m.op m.client m.state m.bad h Q := by
  rw [F_replica_Replica_beat.eq_1, F_replica_Replica_beat_of.eq_1]
  refine O.al fun x24 h O => ?_
  refine O.al fun x26 h O => ?_
  repeat (first | (with_reducible refine al_id ?_); refine O.al fun _ h O => ?_ | (with_reducible refine nn_id ?_); refine ⟨_, rfl, ?_⟩ | (with_reducible refine ld_id ?_); (first | refine O.ld 0 rfl ?_ | refine O.ld 1 rfl ?_); (repeat (first | (with_reducible refine ldL_n ?_) | refine ldL_s ?_ | refine ldL_c ?_)) | (with_reducible refine st_ad (by first | (with_reducible rfl) | (simp only [pt_add, Nat.zero_add, Nat.add_zero, Nat.reduceAdd]; with_reducible rfl)) ?_); (first | refine O.st 0 rfl (by simp) rfl fun h O => ?_ | refine O.st 1 rfl (by simp) rfl fun h O => ?_); (dsimp only [V.put, List.set, List.length_cons, List.length_nil] at O) | (with_reducible refine ca_id ?_); (first | refine O.ca 0 1 rfl ?_ | refine O.ca 0 2 rfl ?_ | refine O.ca 1 1 rfl ?_ | refine O.ca 1 2 rfl ?_))
  replace O := O.sel [2, 0, 1] 3 rfl (Nat.le_add_left _ _)
  simp only [selT, List.map, nth, List.drop, List.cons_append, List.nil_append] at O
  refine F_replica_Replica_taken.is O (fun hc h O => ?_) (fun hc h O => ?_)
  · have e : beats r m = (r, refusal r m.epoch) := by unfold beats; rw [if_pos hc]
    rw [e] at k
    repeat (first | (with_reducible refine al_id ?_); refine O.al fun _ h O => ?_ | (with_reducible refine nn_id ?_); refine ⟨_, rfl, ?_⟩ | (with_reducible refine ld_id ?_); (first | refine O.ld 0 rfl ?_ | refine O.ld 1 rfl ?_ | refine O.ld 2 rfl ?_); (repeat (first | (with_reducible refine ldL_n ?_) | refine ldL_s ?_ | refine ldL_c ?_)) | (with_reducible refine st_ad (by first | (with_reducible rfl) | (simp only [pt_add, Nat.zero_add, Nat.add_zero, Nat.reduceAdd]; with_reducible rfl)) ?_); (first | refine O.st 0 rfl (by simp) rfl fun h O => ?_ | refine O.st 1 rfl (by simp) rfl fun h O => ?_ | refine O.st 2 rfl (by simp) rfl fun h O => ?_); (dsimp only [V.put, List.set, List.length_cons, List.length_nil] at O) | (with_reducible refine ca_id ?_); (first | refine O.ca 0 1 rfl ?_ | refine O.ca 0 2 rfl ?_ | refine O.ca 1 1 rfl ?_ | refine O.ca 1 2 rfl ?_ | refine O.ca 2 1 rfl ?_ | refine O.ca 2 2 rfl ?_))
    refine jn_go ?_
    refine brr_ff rfl ?_
    repeat (first | (with_reducible refine al_id ?_); refine O.al fun _ h O => ?_ | (with_reducible refine nn_id ?_); refine ⟨_, rfl, ?_⟩ | (with_reducible refine ld_id ?_); (first | refine O.ld 0 rfl ?_ | refine O.ld 1 rfl ?_ | refine O.ld 2 rfl ?_ | refine O.ld 3 rfl ?_); (repeat (first | (with_reducible refine ldL_n ?_) | refine ldL_s ?_ | refine ldL_c ?_)) | (with_reducible refine st_ad (by first | (with_reducible rfl) | (simp only [pt_add, Nat.zero_add, Nat.add_zero, Nat.reduceAdd]; with_reducible rfl)) ?_); (first | refine O.st 0 rfl (by simp) rfl fun h O => ?_ | refine O.st 1 rfl (by simp) rfl fun h O => ?_ | refine O.st 2 rfl (by simp) rfl fun h O => ?_ | refine O.st 3 rfl (by simp) rfl fun h O => ?_); (dsimp only [V.put, List.set, List.length_cons, List.length_nil] at O) | (with_reducible refine ca_id ?_); (first | refine O.ca 0 1 rfl ?_ | refine O.ca 0 2 rfl ?_ | refine O.ca 1 1 rfl ?_ | refine O.ca 1 2 rfl ?_ | refine O.ca 2 1 rfl ?_ | refine O.ca 2 2 rfl ?_ | refine O.ca 3 1 rfl ?_ | refine O.ca 3 2 rfl ?_))
    exact k _ _ (O.sel [1] 4 rfl (Nat.le_add_left _ _)).nil_buf
  · have e : beats r m = (r.take_ m.epoch m.span, { hd0 with kind := 7, epoch := m.epoch, round := m.round, tak := true, chg := r.prom != m.epoch }) := by unfold beats; rw [if_neg hc]
    rw [e] at k
    repeat (first | (with_reducible refine al_id ?_); refine O.al fun _ h O => ?_ | (with_reducible refine nn_id ?_); refine ⟨_, rfl, ?_⟩ | (with_reducible refine ld_id ?_); (first | refine O.ld 0 rfl ?_ | refine O.ld 1 rfl ?_ | refine O.ld 2 rfl ?_); (repeat (first | (with_reducible refine ldL_n ?_) | refine ldL_s ?_ | refine ldL_c ?_)) | (with_reducible refine st_ad (by first | (with_reducible rfl) | (simp only [pt_add, Nat.zero_add, Nat.add_zero, Nat.reduceAdd]; with_reducible rfl)) ?_); (first | refine O.st 0 rfl (by simp) rfl fun h O => ?_ | refine O.st 1 rfl (by simp) rfl fun h O => ?_ | refine O.st 2 rfl (by simp) rfl fun h O => ?_); (dsimp only [V.put, List.set, List.length_cons, List.length_nil] at O) | (with_reducible refine ca_id ?_); (first | refine O.ca 0 1 rfl ?_ | refine O.ca 0 2 rfl ?_ | refine O.ca 1 1 rfl ?_ | refine O.ca 1 2 rfl ?_ | refine O.ca 2 1 rfl ?_ | refine O.ca 2 2 rfl ?_))
    refine jn_go ?_
    refine brr_tt rfl ?_
    refine F_replica_answer.is O fun h O => ?_
    repeat (first | (with_reducible refine al_id ?_); refine O.al fun _ h O => ?_ | (with_reducible refine nn_id ?_); refine ⟨_, rfl, ?_⟩ | (with_reducible refine ld_id ?_); (first | refine O.ld 0 rfl ?_ | refine O.ld 1 rfl ?_ | refine O.ld 2 rfl ?_ | refine O.ld 3 rfl ?_); (repeat (first | (with_reducible refine ldL_n ?_) | refine ldL_s ?_ | refine ldL_c ?_)) | (with_reducible refine st_ad (by first | (with_reducible rfl) | (simp only [pt_add, Nat.zero_add, Nat.add_zero, Nat.reduceAdd]; with_reducible rfl)) ?_); (first | refine O.st 0 rfl (by simp) rfl fun h O => ?_ | refine O.st 1 rfl (by simp) rfl fun h O => ?_ | refine O.st 2 rfl (by simp) rfl fun h O => ?_ | refine O.st 3 rfl (by simp) rfl fun h O => ?_); (dsimp only [V.put, List.set, List.length_cons, List.length_nil] at O) | (with_reducible refine ca_id ?_); (first | refine O.ca 0 1 rfl ?_ | refine O.ca 0 2 rfl ?_ | refine O.ca 1 1 rfl ?_ | refine O.ca 1 2 rfl ?_ | refine O.ca 2 1 rfl ?_ | refine O.ca 2 2 rfl ?_ | refine O.ca 3 1 rfl ?_ | refine O.ca 3 2 rfl ?_))
    exact k _ _ (O.sel [1] 4 rfl (Nat.le_add_left _ _)).nil_buf
end
end Go.Proofs.Ytcbelendjpnmiaa.V
/- The program's replica: Hear. -/
namespace Go.Proofs.Ytcbelendjpnmiaa.V
open Go Go.RowKit
set_option linter.unusedVariables false
set_option linter.unusedSimpArgs false
theorem push_set {h : Heap} {o o' : Obj} : (h.push o).setIfInBounds h.size o' = h.push o' := by
  apply Array.ext_getElem?
  intro i
  rw [Array.getElem?_setIfInBounds, Array.getElem?_push, Array.getElem?_push]
  by_cases hi : h.size = i
  · subst hi; simp
  · rw [if_neg hi, if_neg (Ne.symm hi), if_neg (Ne.symm hi)]
theorem KeptH.push (h : Heap) (o : Obj) : KeptH h (h.push o) := ⟨by simp, fun k hk => by rw [Array.getElem?_push, if_neg (by omega)]⟩
def hearsM : Array MapEntry := #[⟨.int .i64 1, .func (.func 44) #[] #[], 0⟩, ⟨.int .i64 4, .func (.func 45) #[] #[], 1⟩, ⟨.int .i64 6, .func (.func 46) #[] #[], 2⟩]
theorem mput_push {kk : IntKind} {n : Int} {v : Value} {h : Heap} {es : Array MapEntry} {c : Nat} {q : Option (Nat × Value)} {K : Heap → Prop} (hq : findM kk n es = some q) (k : K (h.push (putM es c q (.int kk n) v))) : mput kk (some h.size) n v (h.push (.map es c)) K :=
  ⟨es, c, q, by simp, hq, by rw [push_set]; exact k⟩
theorem F_replica_hears.is {h : Heap} {Q : Option Nat → Heap → Prop} (k : Q (some h.size) (h.push (.map hearsM 3))) : F_replica_hears h Q := by
  rw [F_replica_hears.eq_1, F_replica_hears_of.eq_1]
  unfold alM
  refine mput_push (q := none) rfl ?_
  refine mput_push (q := none) rfl ?_
  refine mput_push (q := none) rfl ?_
  exact k
theorem find_hears {n : Int} {h : Heap} {K : Option FV → Bool → Prop} (k1 : n = 1 → K (some ⟨.func 44, [], []⟩) true) (k4 : n = 4 → K (some ⟨.func 45, [], []⟩) true) (k6 : n = 6 → K (some ⟨.func 46, [], []⟩) true) (k0 : n ≠ 1 → n ≠ 4 → n ≠ 6 → K none false) : mg .fn .i64 (some h.size) n .nilFunc (h.push (.map hearsM 3)) K := by
  by_cases h1 : n = 1
  · exact ⟨hearsM, 3, some (0, .func (.func 44) #[] #[]), by simp, by subst h1; rfl, k1 h1⟩
  by_cases h4 : n = 4
  · exact ⟨hearsM, 3, some (1, .func (.func 45) #[] #[]), by simp, by subst h4; rfl, k4 h4⟩
  by_cases h6 : n = 6
  · exact ⟨hearsM, 3, some (2, .func (.func 46) #[] #[]), by simp, by subst h6; rfl, k6 h6⟩
  · refine ⟨hearsM, 3, none, by simp, ?_, k0 h1 h4 h6⟩
    have e1 : (n == 1) = false := by simpa using h1
    have e4 : (n == 4) = false := by simpa using h4
    have e6 : (n == 6) = false := by simpa using h6
    simp [findM, hearsM, Instr.findNow, Instr.sameNow, e1, e4, e6]
abbrev HK : List Kd := [.int .i64, .int .i64, .int .i64, .int .i64, .int .u64, .int .u64, .int .u64, .int .u64, .int .i64, .int .u64, .sl, .int .i64, .int .u64, .str, .str, .int .u64, .int .u64, .int .u64, .int .i64, .int .i64, .int .i64, .int .i64, .bool, .bool, .bool]
abbrev hearF : Fns := fn1 31 E_replica_hears (fn1 44 E_replica_Replica_prepare (fn1 45 E_replica_Replica_write (fn1 46 E_replica_Replica_beat noFns)))
theorem dyn_at {ks : List Kd} {Φ : Fns} {id : Nat} {vs : List Value} {h : Heap} {K : Fn ks (Heap → Prop)} (k : Φ id vs h fun u h => vAgg u fun cs => decsH ks cs.toList K h) : dynA ks Φ (Kd.enc .fn (some ⟨.func id, [], []⟩)) vs h K :=
  ⟨_, id, rfl, rfl, by simpa using k⟩
theorem call_prep {p : Option Addr} {m : Mg} {h : Heap} {K : Int → Int → Int → Int → Int → Int → Int → Int → Int → Int → Sl → Int → Int → ByteArray → ByteArray → Int → Int → Int → Int → Int → Int → Int → Bool → Bool → Bool → Heap → Prop} : (hearF 44 [.pointer p, .agg (mgC m).toArray] h fun u h => vAgg u fun cs => decsH HK cs.toList K h) = F_replica_Replica_prepare p m.kind m.frm m.to m.shard m.epoch m.te m.ts m.round m.span m.seen m.v m.peer m.num m.name m.other m.amount m.life m.id m.op m.client m.state m.bad h K := by kernel_rfl
theorem call_writ {p : Option Addr} {m : Mg} {h : Heap} {K : Int → Int → Int → Int → Int → Int → Int → Int → Int → Int → Sl → Int → Int → ByteArray → ByteArray → Int → Int → Int → Int → Int → Int → Int → Bool → Bool → Bool → Heap → Prop} : (hearF 45 [.pointer p, .agg (mgC m).toArray] h fun u h => vAgg u fun cs => decsH HK cs.toList K h) = F_replica_Replica_write p m.kind m.frm m.to m.shard m.epoch m.te m.ts m.round m.span m.seen m.v m.peer m.num m.name m.other m.amount m.life m.id m.op m.client m.state m.bad h K := by kernel_rfl
theorem call_beat {p : Option Addr} {m : Mg} {h : Heap} {K : Int → Int → Int → Int → Int → Int → Int → Int → Int → Int → Sl → Int → Int → ByteArray → ByteArray → Int → Int → Int → Int → Int → Int → Int → Bool → Bool → Bool → Heap → Prop} : (hearF 46 [.pointer p, .agg (mgC m).toArray] h fun u h => vAgg u fun cs => decsH HK cs.toList K h) = F_replica_Replica_beat p m.kind m.frm m.to m.shard m.epoch m.te m.ts m.round m.span m.seen m.v m.peer m.num m.name m.other m.amount m.life m.id m.op m.client m.state m.bad h K := by kernel_rfl
theorem prep_ans {r : RS} {m : Mg} : (prep r m).2.ans = false := by unfold prep; split <;> rfl
theorem writ_ans {r : RS} {m : Mg} : (writ r m).2.ans = false := by unfold writ; split; rfl; split; rfl; split <;> rfl
theorem beats_ans {r : RS} {m : Mg} : (beats r m).2.ans = false := by unfold beats; split <;> rfl
section
variable {h0 h : Heap} {L : List Res}
theorem F_replica_Replica_Hear.is {p : Nat} {r : RS} {m : Mg} {Q : Int → Int → Int → Int → Int → Int → Int → Int → Int → Int → Sl → Int → Int → ByteArray → ByteArray → Int → Int → Int → Int → Int → Int → Int → Bool → Bool → Bool → Heap → Prop} (ok : r.Ok) (V1 : Stays h0 L fun h => Bytes h m.v m.b) (hb : m.b.length ≤ (140737488355325 : Nat)) (O : Sat h0 h (repR p r :: L)) (k : ∀ s h', Sat h0 h' (buf 1 u8 s (hearS r m).2.val :: repR p (hearS r m).1 :: L) → Q (hearS r m).2.kind (hearS r m).2.frm (hearS r m).2.to (hearS r m).2.shard (hearS r m).2.epoch (hearS r m).2.te (hearS r m).2.ts (hearS r m).2.round 0 (hearS r m).2.seen s 0 0 ⟨#[]⟩ ⟨#[]⟩ 0 0 0 0 0 0 0 (hearS r m).2.ans (hearS r m).2.tak (hearS r m).2.chg h') : F_replica_Replica_Hear (some (pt p 0)) m.kind m.frm m.to m.shard m.epoch m.te m.ts m.round m.span m.seen m.v m.peer m.num m.name m.other m.amount m.life m.id m.op m.client m.state m.bad h Q := by
  rw [F_replica_Replica_Hear.eq_1, F_replica_Replica_Hear_of.eq_1]
  refine O.al fun x24 h O => ?_
  refine O.al fun x26 h O => ?_
  refine O.ld 1 rfl (ldL_c (ldL_n ?_))
  refine F_replica_hears.is ?_
  have O := O.kept2 (KeptH.push h (.map hearsM 3))
  refine ⟨cellsAre_blk (O.blk (i := 1) (by simp) rfl).2 _ 1, ?_⟩
  refine find_hears (fun h1 => ?_) (fun h4 => ?_) (fun h6 => ?_) (fun h1 h4 h6 => ?_)
  · have e : hearS r m = ((prep r m).1, (prep r m).2.seal m) := by unfold hearS act; rw [if_pos h1]
    rw [e] at k
    have hz := prep_ans (r := r) (m := m)
    refine brr_ff rfl ?_
    repeat (first | (with_reducible refine al_id ?_); refine O.al fun _ h O => ?_ | (with_reducible refine nn_id ?_); refine ⟨_, rfl, ?_⟩ | (with_reducible refine ld_id ?_); (first | refine O.ld 0 rfl ?_ | refine O.ld 1 rfl ?_); (repeat (first | (with_reducible refine ldL_n ?_) | refine ldL_s ?_ | refine ldL_c ?_)) | (with_reducible refine st_ad (by first | (with_reducible rfl) | (simp only [pt_add, Nat.zero_add, Nat.add_zero, Nat.reduceAdd]; with_reducible rfl)) ?_); (first | refine O.st 0 rfl (by simp) rfl fun h O => ?_ | refine O.st 1 rfl (by simp) rfl fun h O => ?_); (dsimp only [V.put, List.set, List.length_cons, List.length_nil] at O) | (with_reducible refine ca_id ?_); (first | refine O.ca 0 1 rfl ?_ | refine O.ca 0 2 rfl ?_ | refine O.ca 1 1 rfl ?_ | refine O.ca 1 2 rfl ?_))
    refine dyn_at ?_
    refine Eq.mpr (call_prep (m := m)) ?_
    replace O := O.sel [2, 0, 1] 3 rfl (Nat.le_add_left _ _)
    simp only [selT, List.map, nth, List.drop, List.cons_append, List.nil_append] at O
    refine F_replica_Replica_prepare.is ok O fun s h O => ?_
    generalize prep r m = z at k O hz ⊢
    refine O.al fun x107 h O => ?_
    repeat (first | (with_reducible refine al_id ?_); refine O.al fun _ h O => ?_ | (with_reducible refine nn_id ?_); refine ⟨_, rfl, ?_⟩ | (with_reducible refine ld_id ?_); (first | refine O.ld 0 rfl ?_ | refine O.ld 1 rfl ?_); (repeat (first | (with_reducible refine ldL_n ?_) | refine ldL_s ?_ | refine ldL_c ?_)) | (with_reducible refine st_ad (by first | (with_reducible rfl) | (simp only [pt_add, Nat.zero_add, Nat.add_zero, Nat.reduceAdd]; with_reducible rfl)) ?_); (first | refine O.st 0 rfl (by simp) rfl fun h O => ?_ | refine O.st 1 rfl (by simp) rfl fun h O => ?_); (dsimp only [V.put, List.set, List.length_cons, List.length_nil] at O) | (with_reducible refine ca_id ?_); (first | refine O.ca 0 1 rfl ?_ | refine O.ca 0 2 rfl ?_ | refine O.ca 1 1 rfl ?_ | refine O.ca 1 2 rfl ?_))
    refine jn0 (fun h' => Sat h0 h' (own x107 [.int .i64 (z.2.seal m).kind, .int .i64 (z.2.seal m).frm, .int .i64 (z.2.seal m).to, .int .i64 (z.2.seal m).shard, .int .u64 (z.2.seal m).epoch, .int .u64 (z.2.seal m).te, .int .u64 (z.2.seal m).ts, .int .u64 (z.2.seal m).round, .int .i64 0, .int .u64 (z.2.seal m).seen, .slice s.ptr s.len s.cap, .int .i64 0, .int .u64 0, .string (⟨#[]⟩ : ByteArray), .string (⟨#[]⟩ : ByteArray), .int .u64 0, .int .u64 0, .int .u64 0, .int .i64 0, .int .i64 0, .int .i64 0, .int .i64 0, .bool (z.2.seal m).ans, .bool (z.2.seal m).tak, .bool (z.2.seal m).chg] :: buf 1 u8 s (z.2.seal m).val :: repR p z.1 :: own x26 [.int .i64 0, .int .i64 0, .int .i64 0, .int .i64 0, .int .u64 0, .int .u64 0, .int .u64 0, .int .u64 0, .int .i64 0, .int .u64 0, .slice none 0 0, .int .i64 0, .int .u64 0, .string (⟨#[]⟩ : ByteArray), .string (⟨#[]⟩ : ByteArray), .int .u64 0, .int .u64 0, .int .u64 0, .int .i64 0, .int .i64 0, .int .i64 0, .int .i64 0, .bool false, .bool false, .bool false] :: own x24 (mgC m) :: L)) ?_ ?_
    · clear O
      intro h O
      repeat (first | (with_reducible refine al_id ?_); refine O.al fun _ h O => ?_ | (with_reducible refine nn_id ?_); refine ⟨_, rfl, ?_⟩ | (with_reducible refine ld_id ?_); (first | refine O.ld 0 rfl ?_ | refine O.ld 1 rfl ?_ | refine O.ld 2 rfl ?_ | refine O.ld 3 rfl ?_); (repeat (first | (with_reducible refine ldL_n ?_) | refine ldL_s ?_ | refine ldL_c ?_)) | (with_reducible refine st_ad (by first | (with_reducible rfl) | (simp only [pt_add, Nat.zero_add, Nat.add_zero, Nat.reduceAdd]; with_reducible rfl)) ?_); (first | refine O.st 0 rfl (by simp) rfl fun h O => ?_ | refine O.st 1 rfl (by simp) rfl fun h O => ?_ | refine O.st 2 rfl (by simp) rfl fun h O => ?_ | refine O.st 3 rfl (by simp) rfl fun h O => ?_); (dsimp only [V.put, List.set, List.length_cons, List.length_nil] at O) | (with_reducible refine ca_id ?_); (first | refine O.ca 0 1 rfl ?_ | refine O.ca 0 2 rfl ?_ | refine O.ca 1 1 rfl ?_ | refine O.ca 1 2 rfl ?_ | refine O.ca 2 1 rfl ?_ | refine O.ca 2 2 rfl ?_ | refine O.ca 3 1 rfl ?_ | refine O.ca 3 2 rfl ?_))
      exact k _ _ (O.sel [1, 2] 5 rfl (Nat.le_add_left _ _))
    · intro j hj
      refine brr_of (fun hk => ?_) (fun hk => ?_)
      · have e2 : z.2.seal m = { z.2 with frm := m.to, to := m.frm, shard := m.shard, ans := true } := by unfold HD.seal; rw [if_neg (by simpa using hk)]
        repeat (first | (with_reducible refine al_id ?_); refine O.al fun _ h O => ?_ | (with_reducible refine nn_id ?_); refine ⟨_, rfl, ?_⟩ | (with_reducible refine ld_id ?_); (first | refine O.ld 0 rfl ?_ | refine O.ld 1 rfl ?_ | refine O.ld 2 rfl ?_ | refine O.ld 3 rfl ?_ | refine O.ld 4 rfl ?_); (repeat (first | (with_reducible refine ldL_n ?_) | refine ldL_s ?_ | refine ldL_c ?_)) | (with_reducible refine st_ad (by first | (with_reducible rfl) | (simp only [pt_add, Nat.zero_add, Nat.add_zero, Nat.reduceAdd]; with_reducible rfl)) ?_); (first | refine O.st 0 rfl (by simp) rfl fun h O => ?_ | refine O.st 1 rfl (by simp) rfl fun h O => ?_ | refine O.st 2 rfl (by simp) rfl fun h O => ?_ | refine O.st 3 rfl (by simp) rfl fun h O => ?_ | refine O.st 4 rfl (by simp) rfl fun h O => ?_); (dsimp only [V.put, List.set, List.length_cons, List.length_nil] at O) | (with_reducible refine ca_id ?_); (first | refine O.ca 0 1 rfl ?_ | refine O.ca 0 2 rfl ?_ | refine O.ca 1 1 rfl ?_ | refine O.ca 1 2 rfl ?_ | refine O.ca 2 1 rfl ?_ | refine O.ca 2 2 rfl ?_ | refine O.ca 3 1 rfl ?_ | refine O.ca 3 2 rfl ?_ | refine O.ca 4 1 rfl ?_ | refine O.ca 4 2 rfl ?_))
        refine hj _ ?_
        rw [e2]
        rw [hk] at O
        exact O
      · have e2 : z.2.seal m = z.2 := by unfold HD.seal; rw [if_pos (by simpa using hk)]
        refine hj _ ?_
        rw [e2]
        rw [hk] at O
        rw [hz]
        exact O
  · have e : hearS r m = ((writ r m).1, (writ r m).2.seal m) := by unfold hearS act; rw [if_neg (by omega), if_pos h4]
    rw [e] at k
    have hz := writ_ans (r := r) (m := m)
    refine brr_ff rfl ?_
    repeat (first | (with_reducible refine al_id ?_); refine O.al fun _ h O => ?_ | (with_reducible refine nn_id ?_); refine ⟨_, rfl, ?_⟩ | (with_reducible refine ld_id ?_); (first | refine O.ld 0 rfl ?_ | refine O.ld 1 rfl ?_); (repeat (first | (with_reducible refine ldL_n ?_) | refine ldL_s ?_ | refine ldL_c ?_)) | (with_reducible refine st_ad (by first | (with_reducible rfl) | (simp only [pt_add, Nat.zero_add, Nat.add_zero, Nat.reduceAdd]; with_reducible rfl)) ?_); (first | refine O.st 0 rfl (by simp) rfl fun h O => ?_ | refine O.st 1 rfl (by simp) rfl fun h O => ?_); (dsimp only [V.put, List.set, List.length_cons, List.length_nil] at O) | (with_reducible refine ca_id ?_); (first | refine O.ca 0 1 rfl ?_ | refine O.ca 0 2 rfl ?_ | refine O.ca 1 1 rfl ?_ | refine O.ca 1 2 rfl ?_))
    refine dyn_at ?_
    refine Eq.mpr (call_writ (m := m)) ?_
    replace O := O.sel [2, 0, 1] 3 rfl (Nat.le_add_left _ _)
    simp only [selT, List.map, nth, List.drop, List.cons_append, List.nil_append] at O
    refine F_replica_Replica_write.is (fun h O => V1 h (O.sel [] 2 rfl (Nat.le_add_left _ _))) hb O fun s h O => ?_
    generalize writ r m = z at k O hz ⊢
    refine O.al fun x107 h O => ?_
    repeat (first | (with_reducible refine al_id ?_); refine O.al fun _ h O => ?_ | (with_reducible refine nn_id ?_); refine ⟨_, rfl, ?_⟩ | (with_reducible refine ld_id ?_); (first | refine O.ld 0 rfl ?_ | refine O.ld 1 rfl ?_); (repeat (first | (with_reducible refine ldL_n ?_) | refine ldL_s ?_ | refine ldL_c ?_)) | (with_reducible refine st_ad (by first | (with_reducible rfl) | (simp only [pt_add, Nat.zero_add, Nat.add_zero, Nat.reduceAdd]; with_reducible rfl)) ?_); (first | refine O.st 0 rfl (by simp) rfl fun h O => ?_ | refine O.st 1 rfl (by simp) rfl fun h O => ?_); (dsimp only [V.put, List.set, List.length_cons, List.length_nil] at O) | (with_reducible refine ca_id ?_); (first | refine O.ca 0 1 rfl ?_ | refine O.ca 0 2 rfl ?_ | refine O.ca 1 1 rfl ?_ | refine O.ca 1 2 rfl ?_))
    refine jn0 (fun h' => Sat h0 h' (own x107 [.int .i64 (z.2.seal m).kind, .int .i64 (z.2.seal m).frm, .int .i64 (z.2.seal m).to, .int .i64 (z.2.seal m).shard, .int .u64 (z.2.seal m).epoch, .int .u64 (z.2.seal m).te, .int .u64 (z.2.seal m).ts, .int .u64 (z.2.seal m).round, .int .i64 0, .int .u64 (z.2.seal m).seen, .slice s.ptr s.len s.cap, .int .i64 0, .int .u64 0, .string (⟨#[]⟩ : ByteArray), .string (⟨#[]⟩ : ByteArray), .int .u64 0, .int .u64 0, .int .u64 0, .int .i64 0, .int .i64 0, .int .i64 0, .int .i64 0, .bool (z.2.seal m).ans, .bool (z.2.seal m).tak, .bool (z.2.seal m).chg] :: buf 1 u8 s (z.2.seal m).val :: repR p z.1 :: own x26 [.int .i64 0, .int .i64 0, .int .i64 0, .int .i64 0, .int .u64 0, .int .u64 0, .int .u64 0, .int .u64 0, .int .i64 0, .int .u64 0, .slice none 0 0, .int .i64 0, .int .u64 0, .string (⟨#[]⟩ : ByteArray), .string (⟨#[]⟩ : ByteArray), .int .u64 0, .int .u64 0, .int .u64 0, .int .i64 0, .int .i64 0, .int .i64 0, .int .i64 0, .bool false, .bool false, .bool false] :: own x24 (mgC m) :: L)) ?_ ?_
    · clear O
      intro h O
      repeat (first | (with_reducible refine al_id ?_); refine O.al fun _ h O => ?_ | (with_reducible refine nn_id ?_); refine ⟨_, rfl, ?_⟩ | (with_reducible refine ld_id ?_); (first | refine O.ld 0 rfl ?_ | refine O.ld 1 rfl ?_ | refine O.ld 2 rfl ?_ | refine O.ld 3 rfl ?_); (repeat (first | (with_reducible refine ldL_n ?_) | refine ldL_s ?_ | refine ldL_c ?_)) | (with_reducible refine st_ad (by first | (with_reducible rfl) | (simp only [pt_add, Nat.zero_add, Nat.add_zero, Nat.reduceAdd]; with_reducible rfl)) ?_); (first | refine O.st 0 rfl (by simp) rfl fun h O => ?_ | refine O.st 1 rfl (by simp) rfl fun h O => ?_ | refine O.st 2 rfl (by simp) rfl fun h O => ?_ | refine O.st 3 rfl (by simp) rfl fun h O => ?_); (dsimp only [V.put, List.set, List.length_cons, List.length_nil] at O) | (with_reducible refine ca_id ?_); (first | refine O.ca 0 1 rfl ?_ | refine O.ca 0 2 rfl ?_ | refine O.ca 1 1 rfl ?_ | refine O.ca 1 2 rfl ?_ | refine O.ca 2 1 rfl ?_ | refine O.ca 2 2 rfl ?_ | refine O.ca 3 1 rfl ?_ | refine O.ca 3 2 rfl ?_))
      exact k _ _ (O.sel [1, 2] 5 rfl (Nat.le_add_left _ _))
    · intro j hj
      refine brr_of (fun hk => ?_) (fun hk => ?_)
      · have e2 : z.2.seal m = { z.2 with frm := m.to, to := m.frm, shard := m.shard, ans := true } := by unfold HD.seal; rw [if_neg (by simpa using hk)]
        repeat (first | (with_reducible refine al_id ?_); refine O.al fun _ h O => ?_ | (with_reducible refine nn_id ?_); refine ⟨_, rfl, ?_⟩ | (with_reducible refine ld_id ?_); (first | refine O.ld 0 rfl ?_ | refine O.ld 1 rfl ?_ | refine O.ld 2 rfl ?_ | refine O.ld 3 rfl ?_ | refine O.ld 4 rfl ?_); (repeat (first | (with_reducible refine ldL_n ?_) | refine ldL_s ?_ | refine ldL_c ?_)) | (with_reducible refine st_ad (by first | (with_reducible rfl) | (simp only [pt_add, Nat.zero_add, Nat.add_zero, Nat.reduceAdd]; with_reducible rfl)) ?_); (first | refine O.st 0 rfl (by simp) rfl fun h O => ?_ | refine O.st 1 rfl (by simp) rfl fun h O => ?_ | refine O.st 2 rfl (by simp) rfl fun h O => ?_ | refine O.st 3 rfl (by simp) rfl fun h O => ?_ | refine O.st 4 rfl (by simp) rfl fun h O => ?_); (dsimp only [V.put, List.set, List.length_cons, List.length_nil] at O) | (with_reducible refine ca_id ?_); (first | refine O.ca 0 1 rfl ?_ | refine O.ca 0 2 rfl ?_ | refine O.ca 1 1 rfl ?_ | refine O.ca 1 2 rfl ?_ | refine O.ca 2 1 rfl ?_ | refine O.ca 2 2 rfl ?_ | refine O.ca 3 1 rfl ?_ | refine O.ca 3 2 rfl ?_ | refine O.ca 4 1 rfl ?_ | refine O.ca 4 2 rfl ?_))
        refine hj _ ?_
        rw [e2]
        rw [hk] at O
        exact O
      · have e2 : z.2.seal m = z.2 := by unfold HD.seal; rw [if_pos (by simpa using hk)]
        refine hj _ ?_
        rw [e2]
        rw [hk] at O
        rw [hz]
        exact O
  · have e : hearS r m = ((beats r m).1, (beats r m).2.seal m) := by unfold hearS act; rw [if_neg (by omega), if_neg (by omega), if_pos h6]
    rw [e] at k
    have hz := beats_ans (r := r) (m := m)
    refine brr_ff rfl ?_
    repeat (first | (with_reducible refine al_id ?_); refine O.al fun _ h O => ?_ | (with_reducible refine nn_id ?_); refine ⟨_, rfl, ?_⟩ | (with_reducible refine ld_id ?_); (first | refine O.ld 0 rfl ?_ | refine O.ld 1 rfl ?_); (repeat (first | (with_reducible refine ldL_n ?_) | refine ldL_s ?_ | refine ldL_c ?_)) | (with_reducible refine st_ad (by first | (with_reducible rfl) | (simp only [pt_add, Nat.zero_add, Nat.add_zero, Nat.reduceAdd]; with_reducible rfl)) ?_); (first | refine O.st 0 rfl (by simp) rfl fun h O => ?_ | refine O.st 1 rfl (by simp) rfl fun h O => ?_); (dsimp only [V.put, List.set, List.length_cons, List.length_nil] at O) | (with_reducible refine ca_id ?_); (first | refine O.ca 0 1 rfl ?_ | refine O.ca 0 2 rfl ?_ | refine O.ca 1 1 rfl ?_ | refine O.ca 1 2 rfl ?_))
    refine dyn_at ?_
    refine Eq.mpr (call_beat (m := m)) ?_
    replace O := O.sel [2, 0, 1] 3 rfl (Nat.le_add_left _ _)
    simp only [selT, List.map, nth, List.drop, List.cons_append, List.nil_append] at O
    refine F_replica_Replica_beat.is O fun s h O => ?_
    generalize beats r m = z at k O hz ⊢
    refine O.al fun x107 h O => ?_
    repeat (first | (with_reducible refine al_id ?_); refine O.al fun _ h O => ?_ | (with_reducible refine nn_id ?_); refine ⟨_, rfl, ?_⟩ | (with_reducible refine ld_id ?_); (first | refine O.ld 0 rfl ?_ | refine O.ld 1 rfl ?_); (repeat (first | (with_reducible refine ldL_n ?_) | refine ldL_s ?_ | refine ldL_c ?_)) | (with_reducible refine st_ad (by first | (with_reducible rfl) | (simp only [pt_add, Nat.zero_add, Nat.add_zero, Nat.reduceAdd]; with_reducible rfl)) ?_); (first | refine O.st 0 rfl (by simp) rfl fun h O => ?_ | refine O.st 1 rfl (by simp) rfl fun h O => ?_); (dsimp only [V.put, List.set, List.length_cons, List.length_nil] at O) | (with_reducible refine ca_id ?_); (first | refine O.ca 0 1 rfl ?_ | refine O.ca 0 2 rfl ?_ | refine O.ca 1 1 rfl ?_ | refine O.ca 1 2 rfl ?_))
    refine jn0 (fun h' => Sat h0 h' (own x107 [.int .i64 (z.2.seal m).kind, .int .i64 (z.2.seal m).frm, .int .i64 (z.2.seal m).to, .int .i64 (z.2.seal m).shard, .int .u64 (z.2.seal m).epoch, .int .u64 (z.2.seal m).te, .int .u64 (z.2.seal m).ts, .int .u64 (z.2.seal m).round, .int .i64 0, .int .u64 (z.2.seal m).seen, .slice s.ptr s.len s.cap, .int .i64 0, .int .u64 0, .string (⟨#[]⟩ : ByteArray), .string (⟨#[]⟩ : ByteArray), .int .u64 0, .int .u64 0, .int .u64 0, .int .i64 0, .int .i64 0, .int .i64 0, .int .i64 0, .bool (z.2.seal m).ans, .bool (z.2.seal m).tak, .bool (z.2.seal m).chg] :: buf 1 u8 s (z.2.seal m).val :: repR p z.1 :: own x26 [.int .i64 0, .int .i64 0, .int .i64 0, .int .i64 0, .int .u64 0, .int .u64 0, .int .u64 0, .int .u64 0, .int .i64 0, .int .u64 0, .slice none 0 0, .int .i64 0, .int .u64 0, .string (⟨#[]⟩ : ByteArray), .string (⟨#[]⟩ : ByteArray), .int .u64 0, .int .u64 0, .int .u64 0, .int .i64 0, .int .i64 0, .int .i64 0, .int .i64 0, .bool false, .bool false, .bool false] :: own x24 (mgC m) :: L)) ?_ ?_
    · clear O
      intro h O
      repeat (first | (with_reducible refine al_id ?_); refine O.al fun _ h O => ?_ | (with_reducible refine nn_id ?_); refine ⟨_, rfl, ?_⟩ | (with_reducible refine ld_id ?_); (first | refine O.ld 0 rfl ?_ | refine O.ld 1 rfl ?_ | refine O.ld 2 rfl ?_ | refine O.ld 3 rfl ?_); (repeat (first | (with_reducible refine ldL_n ?_) | refine ldL_s ?_ | refine ldL_c ?_)) | (with_reducible refine st_ad (by first | (with_reducible rfl) | (simp only [pt_add, Nat.zero_add, Nat.add_zero, Nat.reduceAdd]; with_reducible rfl)) ?_); (first | refine O.st 0 rfl (by simp) rfl fun h O => ?_ | refine O.st 1 rfl (by simp) rfl fun h O => ?_ | refine O.st 2 rfl (by simp) rfl fun h O => ?_ | refine O.st 3 rfl (by simp) rfl fun h O => ?_); (dsimp only [V.put, List.set, List.length_cons, List.length_nil] at O) | (with_reducible refine ca_id ?_); (first | refine O.ca 0 1 rfl ?_ | refine O.ca 0 2 rfl ?_ | refine O.ca 1 1 rfl ?_ | refine O.ca 1 2 rfl ?_ | refine O.ca 2 1 rfl ?_ | refine O.ca 2 2 rfl ?_ | refine O.ca 3 1 rfl ?_ | refine O.ca 3 2 rfl ?_))
      exact k _ _ (O.sel [1, 2] 5 rfl (Nat.le_add_left _ _))
    · intro j hj
      refine brr_of (fun hk => ?_) (fun hk => ?_)
      · have e2 : z.2.seal m = { z.2 with frm := m.to, to := m.frm, shard := m.shard, ans := true } := by unfold HD.seal; rw [if_neg (by simpa using hk)]
        repeat (first | (with_reducible refine al_id ?_); refine O.al fun _ h O => ?_ | (with_reducible refine nn_id ?_); refine ⟨_, rfl, ?_⟩ | (with_reducible refine ld_id ?_); (first | refine O.ld 0 rfl ?_ | refine O.ld 1 rfl ?_ | refine O.ld 2 rfl ?_ | refine O.ld 3 rfl ?_ | refine O.ld 4 rfl ?_); (repeat (first | (with_reducible refine ldL_n ?_) | refine ldL_s ?_ | refine ldL_c ?_)) | (with_reducible refine st_ad (by first | (with_reducible rfl) | (simp only [pt_add, Nat.zero_add, Nat.add_zero, Nat.reduceAdd]; with_reducible rfl)) ?_); (first | refine O.st 0 rfl (by simp) rfl fun h O => ?_ | refine O.st 1 rfl (by simp) rfl fun h O => ?_ | refine O.st 2 rfl (by simp) rfl fun h O => ?_ | refine O.st 3 rfl (by simp) rfl fun h O => ?_ | refine O.st 4 rfl (by simp) rfl fun h O => ?_); (dsimp only [V.put, List.set, List.length_cons, List.length_nil] at O) | (with_reducible refine ca_id ?_); (first | refine O.ca 0 1 rfl ?_ | refine O.ca 0 2 rfl ?_ | refine O.ca 1 1 rfl ?_ | refine O.ca 1 2 rfl ?_ | refine O.ca 2 1 rfl ?_ | refine O.ca 2 2 rfl ?_ | refine O.ca 3 1 rfl ?_ | refine O.ca 3 2 rfl ?_ | refine O.ca 4 1 rfl ?_ | refine O.ca 4 2 rfl ?_))
        refine hj _ ?_
        rw [e2]
        rw [hk] at O
        exact O
      · have e2 : z.2.seal m = z.2 := by unfold HD.seal; rw [if_pos (by simpa using hk)]
        refine hj _ ?_
        rw [e2]
        rw [hk] at O
        rw [hz]
        exact O
  · have e : hearS r m = (r, hd0) := by unfold hearS act; rw [if_neg h1, if_neg h4, if_neg h6]; rfl
    rw [e] at k
    refine brr_tt rfl ?_
    repeat (first | (with_reducible refine al_id ?_); refine O.al fun _ h O => ?_ | (with_reducible refine nn_id ?_); refine ⟨_, rfl, ?_⟩ | (with_reducible refine ld_id ?_); (first | refine O.ld 0 rfl ?_ | refine O.ld 1 rfl ?_); (repeat (first | (with_reducible refine ldL_n ?_) | refine ldL_s ?_ | refine ldL_c ?_)) | (with_reducible refine st_ad (by first | (with_reducible rfl) | (simp only [pt_add, Nat.zero_add, Nat.add_zero, Nat.reduceAdd]; with_reducible rfl)) ?_); (first | refine O.st 0 rfl (by simp) rfl fun h O => ?_ | refine O.st 1 rfl (by simp) rfl fun h O => ?_); (dsimp only [V.put, List.set, List.length_cons, List.length_nil] at O) | (with_reducible refine ca_id ?_); (first | refine O.ca 0 1 rfl ?_ | refine O.ca 0 2 rfl ?_ | refine O.ca 1 1 rfl ?_ | refine O.ca 1 2 rfl ?_))
    exact k _ _ (O.sel [2] 3 rfl (Nat.le_add_left _ _)).nil_buf
end
end Go.Proofs.Ytcbelendjpnmiaa.V
namespace Go.Proofs.Ytcbelendjpnmiaa.V
open Go Go.RowKit
set_option linter.unusedVariables false
set_option maxRecDepth 100000
def F_ref0_CmpTag_of  (a1 a2 b3 b4 : Int) (h : Heap) (Q : Int → Heap → Prop) : Prop :=
  al 37 [.int .u64 a1, .int .u64 a2] h fun (a5 : Addr) (h6 : Heap) =>
  al 37 [.int .u64 b3, .int .u64 b4] h6 fun (a7 : Addr) (h8 : Heap) =>
  jn [(5, .one .bool)] (fun (x16 : Bool) (h17 : Heap) =>
  brr x16
  (Q (-1) h17)
  (ld [.int .u64, .int .u64] a5 h17 fun (v18 v19 : Int) =>
  ld [.int .u64, .int .u64] a7 h17 fun (v20 v21 : Int) =>
  brr ((v18 == v20) && ((v19 == v21) && (true)))
  (Q 0 h17)
  (Q 1 h17))) (fun (j9 : Bool → Heap → Prop) =>
  ld [.int .u64] (a5.add 0) h8 fun (v10 : Int) =>
  ld [.int .u64] (a7.add 0) h8 fun (v11 : Int) =>
  brr (decide (v10 < v11))
  (j9 true h8)
  (ld [.int .u64] (a5.add 0) h8 fun (v12 : Int) =>
  ld [.int .u64] (a7.add 0) h8 fun (v13 : Int) =>
  brr (v12 == v13)
  (ld [.int .u64] (a5.add 1) h8 fun (v14 : Int) =>
  ld [.int .u64] (a7.add 1) h8 fun (v15 : Int) =>
  j9 (decide (v14 < v15)) h8)
  (j9 false h8)))
def F_ref0_CmpTag (a1 a2 b3 b4 : Int) (h : Heap) (Q : Int → Heap → Prop) : Prop := F_ref0_CmpTag_of  a1 a2 b3 b4 h Q
def plan32 : Plan := .s (.r [2, 3]) (.s (.b (.s (.rj [(5, .one .bool)] [2, 3]) (.c (.s (.r [4]) .z) (.s (.r [25]) (.c (.s (.r [4]) .z) .z))))) (.s (.r [4]) .z))
theorem F_ref0_CmpTag.eq  (a1 a2 b3 b4 : Int) (h : Heap) (K : Value → Heap → Prop) : F_ref0_CmpTag_of  a1 a2 b3 b4 h (fun (r0 : Int) (h : Heap) => K (.int .i64 r0) h) =
    den Try.prog noFns Try.f32.ntmps plan32 (bodyOf Try.f32) (args0 0 [(.agg #[.int .u64 a1, .int .u64 a2] : Value), (.agg #[.int .u64 b3, .int .u64 b4] : Value)]) h ⟨fun env h => dRes Try.prog Try.f32.results.toList env h K, fun _ _ _ => False, fun env h => dRes Try.prog Try.f32.results.toList env h K⟩ := by kernel_rfl
def E_ref0_CmpTag_of (f : Int → Int → Int → Int → Heap → (Int → Heap → Prop) → Prop) : List Value → Heap → (Value → Heap → Prop) → Prop
  | [v0, v1], h, K => vAgg v0 fun cs0 => decs [.int .u64, .int .u64] cs0.toList fun (a1 a2 : Int) =>
  vAgg v1 fun cs1 => decs [.int .u64, .int .u64] cs1.toList fun (b3 b4 : Int) =>
  f a1 a2 b3 b4 h (fun (r0 : Int) (h : Heap) => K (.int .i64 r0) h)
  | _, _, _ => False
abbrev E_ref0_CmpTag := E_ref0_CmpTag_of F_ref0_CmpTag
theorem E_ref0_CmpTag.right : IsRight Try.prog 32 E_ref0_CmpTag := by
  refine isRight fun vs K w hh => ?_
  match vs, hh with
  | [v0, v1], hh =>
    unfold E_ref0_CmpTag E_ref0_CmpTag_of at hh
    replace hh := vAgg_sound hh; obtain ⟨cs0, rfl, hh⟩ := hh
    replace hh := decs_cons hh; obtain ⟨a1, l0_0, e0_0, hh⟩ := hh
    replace hh := decs_cons hh; obtain ⟨a2, l0_1, e0_1, hh⟩ := hh
    replace hh := decs_nil hh; obtain ⟨rfl, hh⟩ := hh
    subst e0_1
    have ec0 := toArray_eq e0_0
    subst ec0
    replace hh := vAgg_sound hh; obtain ⟨cs1, rfl, hh⟩ := hh
    replace hh := decs_cons hh; obtain ⟨b3, l1_0, e1_0, hh⟩ := hh
    replace hh := decs_cons hh; obtain ⟨b4, l1_1, e1_1, hh⟩ := hh
    replace hh := decs_nil hh; obtain ⟨rfl, hh⟩ := hh
    subst e1_1
    have ec1 := toArray_eq e1_0
    subst ec1
    unfold F_ref0_CmpTag at hh
    exact calls_den noFns_right plan32 _ w K Try.func32 (by kernel_rfl) (by kernel_rfl) (Eq.mp (F_ref0_CmpTag.eq  a1 a2 b3 b4 w.heap K) hh)
theorem ok32 : okFn Try.prog 32 = true := by kernel_rfl
end Go.Proofs.Ytcbelendjpnmiaa.V
namespace Go.Proofs.Ytcbelendjpnmiaa.V
open Go Go.RowKit
set_option linter.unusedVariables false
set_option maxRecDepth 100000
def F_ref9_Replica_Stored_of (f22_ : Sl → Heap → (Sl → Heap → Prop) → Prop) (r1 : Option Addr) (h : Heap) (Q : Int → Int → Int → Sl → Heap → Prop) : Prop :=
  al 44 [.int .u64 0, .int .u64 0, .int .u64 0, .slice none 0 0] h fun (a2 : Addr) (h3 : Heap) =>
  nn r1 fun (a4 : Addr) =>
  ld [.int .u64, .int .u64, .int .u64, .sl] (a4.add 0) h3 fun (v5 v6 v7 : Int) (v8 : Sl) =>
  al 44 [.int .u64 0, .int .u64 0, .int .u64 0, .slice none 0 0] h3 fun (a9 : Addr) (h10 : Heap) =>
  st a9 [.int .u64 v5, .int .u64 v6, .int .u64 v7, .slice v8.ptr v8.len v8.cap] h10 fun (h11 : Heap) =>
  ld [.sl] (a9.add 3) h11 fun (v12 : Sl) =>
  f22_ v12 h11 fun (r13 : Sl) (h14 : Heap) =>
  st (a9.add 3) [.slice r13.ptr r13.len r13.cap] h14 fun (h15 : Heap) =>
  ld [.int .u64, .int .u64, .int .u64, .sl] a9 h15 fun (v16 v17 v18 : Int) (v19 : Sl) =>
  st a2 [.int .u64 v16, .int .u64 v17, .int .u64 v18, .slice v19.ptr v19.len v19.cap] h15 fun (h20 : Heap) =>
  ld [.int .u64, .int .u64, .int .u64, .sl] a2 h20 fun (v21 v22 v23 : Int) (v24 : Sl) =>
  Q v21 v22 v23 v24 h20
def F_ref9_Replica_Stored (r1 : Option Addr) (h : Heap) (Q : Int → Int → Int → Sl → Heap → Prop) : Prop := F_ref9_Replica_Stored_of F_ref0_Copy r1 h Q
def plan40 : Plan := .s (.r [0, 2]) (.s (.r [2, 3]) (.s (.r [2, 3]) (.s (.r [2]) .z)))
theorem F_ref9_Replica_Stored.eq (f22_ : Sl → Heap → (Sl → Heap → Prop) → Prop) (r1 : Option Addr) (h : Heap) (K : Value → Heap → Prop) : F_ref9_Replica_Stored_of f22_ r1 h (fun (r0 r1 r2 : Int) (r3 : Sl) (h : Heap) => K (.agg #[.int .u64 r0, .int .u64 r1, .int .u64 r2, .slice r3.ptr r3.len r3.cap]) h) =
    den Try.prog (fn1 22 (E_ref0_Copy_of f22_) noFns) Try.f40.ntmps plan40 (bodyOf Try.f40) (args0 0 [(.pointer r1 : Value)]) h ⟨fun env h => dRes Try.prog Try.f40.results.toList env h K, fun _ _ _ => False, fun env h => dRes Try.prog Try.f40.results.toList env h K⟩ := by kernel_rfl
def E_ref9_Replica_Stored_of (f : Option Addr → Heap → (Int → Int → Int → Sl → Heap → Prop) → Prop) : List Value → Heap → (Value → Heap → Prop) → Prop
  | [v0], h, K => dec1 .ptr v0 fun (r1 : Option Addr) =>
  f r1 h (fun (r0 r1 r2 : Int) (r3 : Sl) (h : Heap) => K (.agg #[.int .u64 r0, .int .u64 r1, .int .u64 r2, .slice r3.ptr r3.len r3.cap]) h)
  | _, _, _ => False
abbrev E_ref9_Replica_Stored := E_ref9_Replica_Stored_of F_ref9_Replica_Stored
theorem E_ref9_Replica_Stored.right : IsRight Try.prog 40 E_ref9_Replica_Stored := by
  refine isRight fun vs K w hh => ?_
  match vs, hh with
  | [v0], hh =>
    unfold E_ref9_Replica_Stored E_ref9_Replica_Stored_of at hh
    replace hh := dec1_sound hh; obtain ⟨r1, rfl, hh⟩ := hh
    unfold F_ref9_Replica_Stored at hh
    exact calls_den (fn1_right ok22 E_ref0_Copy.right noFns_right) plan40 _ w K Try.func40 (by kernel_rfl) (by kernel_rfl) (Eq.mp (F_ref9_Replica_Stored.eq F_ref0_Copy r1 w.heap K) hh)
theorem ok40 : okFn Try.prog 40 = true := by kernel_rfl
end Go.Proofs.Ytcbelendjpnmiaa.V
namespace Go.Proofs.Ytcbelendjpnmiaa.V
open Go Go.RowKit
set_option linter.unusedVariables false
set_option maxRecDepth 100000
def F_ref9_Replica_refuse_of  (r1 : Option Addr) (a2 a3 a4 a5 a6 a7 a8 a9 a10 a11 : Int) (a12 : Sl) (a13 a14 : Int) (a15 a16 : ByteArray) (a17 a18 a19 a20 a21 a22 a23 epoch24 : Int) (h : Heap) (Q : Int → Int → Int → Int → Int → Int → Int → Int → Int → Int → Sl → Int → Int → ByteArray → ByteArray → Int → Int → Int → Int → Int → Int → Int → Bool → Bool → Bool → Heap → Prop) : Prop :=
  al 42 [.int .i64 a2, .int .i64 a3, .int .i64 a4, .int .i64 a5, .int .u64 a6, .int .u64 a7, .int .u64 a8, .int .u64 a9, .int .i64 a10, .int .u64 a11, .slice a12.ptr a12.len a12.cap, .int .i64 a13, .int .u64 a14, .string a15, .string a16, .int .u64 a17, .int .u64 a18, .int .u64 a19, .int .i64 a20, .int .i64 a21, .int .i64 a22, .int .i64 a23] h fun (a25 : Addr) (h26 : Heap) =>
  al 115 [.int .i64 0, .int .i64 0, .int .i64 0, .int .i64 0, .int .u64 0, .int .u64 0, .int .u64 0, .int .u64 0, .int .i64 0, .int .u64 0, .slice none 0 0, .int .i64 0, .int .u64 0, .string (⟨#[]⟩ : ByteArray), .string (⟨#[]⟩ : ByteArray), .int .u64 0, .int .u64 0, .int .u64 0, .int .i64 0, .int .i64 0, .int .i64 0, .int .i64 0, .bool false, .bool false, .bool false] h26 fun (a27 : Addr) (h28 : Heap) =>
  st ((a25.add 0).add 0) [.int .i64 3] h28 fun (h29 : Heap) =>
  st (a25.add 4) [.int .u64 epoch24] h29 fun (h30 : Heap) =>
  nn r1 fun (a31 : Addr) =>
  ld [.int .u64] ((a31.add 0).add 0) h30 fun (v32 : Int) =>
  st (a25.add 9) [.int .u64 v32] h30 fun (h33 : Heap) =>
  ld [.int .i64, .int .i64, .int .i64, .int .i64, .int .u64, .int .u64, .int .u64, .int .u64, .int .i64, .int .u64, .sl, .int .i64, .int .u64, .str, .str, .int .u64, .int .u64, .int .u64, .int .i64, .int .i64, .int .i64, .int .i64] a25 h33 fun (v34 v35 v36 v37 v38 v39 v40 v41 v42 v43 : Int) (v44 : Sl) (v45 v46 : Int) (v47 v48 : ByteArray) (v49 v50 v51 v52 v53 v54 v55 : Int) =>
  st a27 [.int .i64 v34, .int .i64 v35, .int .i64 v36, .int .i64 v37, .int .u64 v38, .int .u64 v39, .int .u64 v40, .int .u64 v41, .int .i64 v42, .int .u64 v43, .slice v44.ptr v44.len v44.cap, .int .i64 v45, .int .u64 v46, .string v47, .string v48, .int .u64 v49, .int .u64 v50, .int .u64 v51, .int .i64 v52, .int .i64 v53, .int .i64 v54, .int .i64 v55, .bool true, .bool false, .bool false] h33 fun (h56 : Heap) =>
  ld [.int .i64, .int .i64, .int .i64, .int .i64, .int .u64, .int .u64, .int .u64, .int .u64, .int .i64, .int .u64, .sl, .int .i64, .int .u64, .str, .str, .int .u64, .int .u64, .int .u64, .int .i64, .int .i64, .int .i64, .int .i64, .bool, .bool, .bool] a27 h56 fun (v57 v58 v59 v60 v61 v62 v63 v64 v65 v66 : Int) (v67 : Sl) (v68 v69 : Int) (v70 v71 : ByteArray) (v72 v73 v74 v75 v76 v77 v78 : Int) (v79 v80 v81 : Bool) =>
  Q v57 v58 v59 v60 v61 v62 v63 v64 v65 v66 v67 v68 v69 v70 v71 v72 v73 v74 v75 v76 v77 v78 v79 v80 v81 h56
def F_ref9_Replica_refuse (r1 : Option Addr) (a2 a3 a4 a5 a6 a7 a8 a9 a10 a11 : Int) (a12 : Sl) (a13 a14 : Int) (a15 a16 : ByteArray) (a17 a18 a19 a20 a21 a22 a23 epoch24 : Int) (h : Heap) (Q : Int → Int → Int → Int → Int → Int → Int → Int → Int → Int → Sl → Int → Int → ByteArray → ByteArray → Int → Int → Int → Int → Int → Int → Int → Bool → Bool → Bool → Heap → Prop) : Prop := F_ref9_Replica_refuse_of  r1 a2 a3 a4 a5 a6 a7 a8 a9 a10 a11 a12 a13 a14 a15 a16 a17 a18 a19 a20 a21 a22 a23 epoch24 h Q
def plan59 : Plan := .s (.r [0, 2, 4, 6]) (.s (.r [0, 2, 4, 6]) (.s (.r [0, 4, 6]) (.s (.r [4, 6]) (.s (.r [6]) .z))))
theorem F_ref9_Replica_refuse.eq  (r1 : Option Addr) (a2 a3 a4 a5 a6 a7 a8 a9 a10 a11 : Int) (a12 : Sl) (a13 a14 : Int) (a15 a16 : ByteArray) (a17 a18 a19 a20 a21 a22 a23 epoch24 : Int) (h : Heap) (K : Value → Heap → Prop) : F_ref9_Replica_refuse_of  r1 a2 a3 a4 a5 a6 a7 a8 a9 a10 a11 a12 a13 a14 a15 a16 a17 a18 a19 a20 a21 a22 a23 epoch24 h (fun (r0 r1 r2 r3 r4 r5 r6 r7 r8 r9 : Int) (r10 : Sl) (r11 r12 : Int) (r13 r14 : ByteArray) (r15 r16 r17 r18 r19 r20 r21 : Int) (r22 r23 r24 : Bool) (h : Heap) => K (.agg #[.int .i64 r0, .int .i64 r1, .int .i64 r2, .int .i64 r3, .int .u64 r4, .int .u64 r5, .int .u64 r6, .int .u64 r7, .int .i64 r8, .int .u64 r9, .slice r10.ptr r10.len r10.cap, .int .i64 r11, .int .u64 r12, .string r13, .string r14, .int .u64 r15, .int .u64 r16, .int .u64 r17, .int .i64 r18, .int .i64 r19, .int .i64 r20, .int .i64 r21, .bool r22, .bool r23, .bool r24]) h) =
    den Try.prog noFns Try.f59.ntmps plan59 (bodyOf Try.f59) (args0 0 [(.pointer r1 : Value), (.agg #[.int .i64 a2, .int .i64 a3, .int .i64 a4, .int .i64 a5, .int .u64 a6, .int .u64 a7, .int .u64 a8, .int .u64 a9, .int .i64 a10, .int .u64 a11, .slice a12.ptr a12.len a12.cap, .int .i64 a13, .int .u64 a14, .string a15, .string a16, .int .u64 a17, .int .u64 a18, .int .u64 a19, .int .i64 a20, .int .i64 a21, .int .i64 a22, .int .i64 a23] : Value), (.int .u64 epoch24 : Value)]) h ⟨fun env h => dRes Try.prog Try.f59.results.toList env h K, fun _ _ _ => False, fun env h => dRes Try.prog Try.f59.results.toList env h K⟩ := by kernel_rfl
def E_ref9_Replica_refuse_of (f : Option Addr → Int → Int → Int → Int → Int → Int → Int → Int → Int → Int → Sl → Int → Int → ByteArray → ByteArray → Int → Int → Int → Int → Int → Int → Int → Int → Heap → (Int → Int → Int → Int → Int → Int → Int → Int → Int → Int → Sl → Int → Int → ByteArray → ByteArray → Int → Int → Int → Int → Int → Int → Int → Bool → Bool → Bool → Heap → Prop) → Prop) : List Value → Heap → (Value → Heap → Prop) → Prop
  | [v0, v1, v2], h, K => dec1 .ptr v0 fun (r1 : Option Addr) =>
  vAgg v1 fun cs1 => decs [.int .i64, .int .i64, .int .i64, .int .i64, .int .u64, .int .u64, .int .u64, .int .u64, .int .i64, .int .u64, .sl, .int .i64, .int .u64, .str, .str, .int .u64, .int .u64, .int .u64, .int .i64, .int .i64, .int .i64, .int .i64] cs1.toList fun (a2 a3 a4 a5 a6 a7 a8 a9 a10 a11 : Int) (a12 : Sl) (a13 a14 : Int) (a15 a16 : ByteArray) (a17 a18 a19 a20 a21 a22 a23 : Int) =>
  dec1 (.int .u64) v2 fun (epoch24 : Int) =>
  f r1 a2 a3 a4 a5 a6 a7 a8 a9 a10 a11 a12 a13 a14 a15 a16 a17 a18 a19 a20 a21 a22 a23 epoch24 h (fun (r0 r1 r2 r3 r4 r5 r6 r7 r8 r9 : Int) (r10 : Sl) (r11 r12 : Int) (r13 r14 : ByteArray) (r15 r16 r17 r18 r19 r20 r21 : Int) (r22 r23 r24 : Bool) (h : Heap) => K (.agg #[.int .i64 r0, .int .i64 r1, .int .i64 r2, .int .i64 r3, .int .u64 r4, .int .u64 r5, .int .u64 r6, .int .u64 r7, .int .i64 r8, .int .u64 r9, .slice r10.ptr r10.len r10.cap, .int .i64 r11, .int .u64 r12, .string r13, .string r14, .int .u64 r15, .int .u64 r16, .int .u64 r17, .int .i64 r18, .int .i64 r19, .int .i64 r20, .int .i64 r21, .bool r22, .bool r23, .bool r24]) h)
  | _, _, _ => False
abbrev E_ref9_Replica_refuse := E_ref9_Replica_refuse_of F_ref9_Replica_refuse
theorem E_ref9_Replica_refuse.right : IsRight Try.prog 59 E_ref9_Replica_refuse := by
  refine isRight fun vs K w hh => ?_
  match vs, hh with
  | [v0, v1, v2], hh =>
    unfold E_ref9_Replica_refuse E_ref9_Replica_refuse_of at hh
    replace hh := dec1_sound hh; obtain ⟨r1, rfl, hh⟩ := hh
    replace hh := vAgg_sound hh; obtain ⟨cs1, rfl, hh⟩ := hh
    replace hh := decs_cons hh; obtain ⟨a2, l1_0, e1_0, hh⟩ := hh
    replace hh := decs_cons hh; obtain ⟨a3, l1_1, e1_1, hh⟩ := hh
    replace hh := decs_cons hh; obtain ⟨a4, l1_2, e1_2, hh⟩ := hh
    replace hh := decs_cons hh; obtain ⟨a5, l1_3, e1_3, hh⟩ := hh
    replace hh := decs_cons hh; obtain ⟨a6, l1_4, e1_4, hh⟩ := hh
    replace hh := decs_cons hh; obtain ⟨a7, l1_5, e1_5, hh⟩ := hh
    replace hh := decs_cons hh; obtain ⟨a8, l1_6, e1_6, hh⟩ := hh
    replace hh := decs_cons hh; obtain ⟨a9, l1_7, e1_7, hh⟩ := hh
    replace hh := decs_cons hh; obtain ⟨a10, l1_8, e1_8, hh⟩ := hh
    replace hh := decs_cons hh; obtain ⟨a11, l1_9, e1_9, hh⟩ := hh
    replace hh := decs_cons hh; obtain ⟨a12, l1_10, e1_10, hh⟩ := hh
    replace hh := decs_cons hh; obtain ⟨a13, l1_11, e1_11, hh⟩ := hh
    replace hh := decs_cons hh; obtain ⟨a14, l1_12, e1_12, hh⟩ := hh
    replace hh := decs_cons hh; obtain ⟨a15, l1_13, e1_13, hh⟩ := hh
    replace hh := decs_cons hh; obtain ⟨a16, l1_14, e1_14, hh⟩ := hh
    replace hh := decs_cons hh; obtain ⟨a17, l1_15, e1_15, hh⟩ := hh
    replace hh := decs_cons hh; obtain ⟨a18, l1_16, e1_16, hh⟩ := hh
    replace hh := decs_cons hh; obtain ⟨a19, l1_17, e1_17, hh⟩ := hh
    replace hh := decs_cons hh; obtain ⟨a20, l1_18, e1_18, hh⟩ := hh
    replace hh := decs_cons hh; obtain ⟨a21, l1_19, e1_19, hh⟩ := hh
    replace hh := decs_cons hh; obtain ⟨a22, l1_20, e1_20, hh⟩ := hh
    replace hh := decs_cons hh; obtain ⟨a23, l1_21, e1_21, hh⟩ := hh
    replace hh := decs_nil hh; obtain ⟨rfl, hh⟩ := hh
    subst e1_21
    subst e1_20
    subst e1_19
    subst e1_18
    subst e1_17
    subst e1_16
    subst e1_15
    subst e1_14
    subst e1_13
    subst e1_12
    subst e1_11
    subst e1_10
    subst e1_9
    subst e1_8
    subst e1_7
    subst e1_6
    subst e1_5
    subst e1_4
    subst e1_3
    subst e1_2
    subst e1_1
    have ec1 := toArray_eq e1_0
    subst ec1
    replace hh := dec1_sound hh; obtain ⟨epoch24, rfl, hh⟩ := hh
    unfold F_ref9_Replica_refuse at hh
    exact calls_den noFns_right plan59 _ w K Try.func59 (by kernel_rfl) (by kernel_rfl) (Eq.mp (F_ref9_Replica_refuse.eq  r1 a2 a3 a4 a5 a6 a7 a8 a9 a10 a11 a12 a13 a14 a15 a16 a17 a18 a19 a20 a21 a22 a23 epoch24 w.heap K) hh)
theorem ok59 : okFn Try.prog 59 = true := by kernel_rfl
end Go.Proofs.Ytcbelendjpnmiaa.V
namespace Go.Proofs.Ytcbelendjpnmiaa.V
open Go Go.RowKit
set_option linter.unusedVariables false
set_option maxRecDepth 100000
def F_ref9_Replica_Hear_of (f22_ : Sl → Heap → (Sl → Heap → Prop) → Prop) (f32_ : Int → Int → Int → Int → Heap → (Int → Heap → Prop) → Prop) (f40_ : Option Addr → Heap → (Int → Int → Int → Sl → Heap → Prop) → Prop) (f59_ : Option Addr → Int → Int → Int → Int → Int → Int → Int → Int → Int → Int → Sl → Int → Int → ByteArray → ByteArray → Int → Int → Int → Int → Int → Int → Int → Int → Heap → (Int → Int → Int → Int → Int → Int → Int → Int → Int → Int → Sl → Int → Int → ByteArray → ByteArray → Int → Int → Int → Int → Int → Int → Int → Bool → Bool → Bool → Heap → Prop) → Prop) (r1 : Option Addr) (m2 m3 m4 m5 m6 m7 m8 m9 m10 m11 : Int) (m12 : Sl) (m13 m14 : Int) (m15 m16 : ByteArray) (m17 m18 m19 m20 m21 m22 m23 : Int) (h : Heap) (Q : Int → Int → Int → Int → Int → Int → Int → Int → Int → Int → Sl → Int → Int → ByteArray → ByteArray → Int → Int → Int → Int → Int → Int → Int → Bool → Bool → Bool → Heap → Prop) : Prop :=
  al 42 [.int .i64 m2, .int .i64 m3, .int .i64 m4, .int .i64 m5, .int .u64 m6, .int .u64 m7, .int .u64 m8, .int .u64 m9, .int .i64 m10, .int .u64 m11, .slice m12.ptr m12.len m12.cap, .int .i64 m13, .int .u64 m14, .string m15, .string m16, .int .u64 m17, .int .u64 m18, .int .u64 m19, .int .i64 m20, .int .i64 m21, .int .i64 m22, .int .i64 m23] h fun (a24 : Addr) (h25 : Heap) =>
  al 115 [.int .i64 0, .int .i64 0, .int .i64 0, .int .i64 0, .int .u64 0, .int .u64 0, .int .u64 0, .int .u64 0, .int .i64 0, .int .u64 0, .slice none 0 0, .int .i64 0, .int .u64 0, .string (⟨#[]⟩ : ByteArray), .string (⟨#[]⟩ : ByteArray), .int .u64 0, .int .u64 0, .int .u64 0, .int .i64 0, .int .i64 0, .int .i64 0, .int .i64 0, .bool false, .bool false, .bool false] h25 fun (a26 : Addr) (h27 : Heap) =>
  ld [.int .i64] ((a24.add 0).add 2) h27 fun (v28 : Int) =>
  ld [.int .i64] ((a24.add 0).add 1) h27 fun (v29 : Int) =>
  ld [.int .i64] ((a24.add 0).add 3) h27 fun (v30 : Int) =>
  al 42 [.int .i64 0, .int .i64 0, .int .i64 0, .int .i64 0, .int .u64 0, .int .u64 0, .int .u64 0, .int .u64 0, .int .i64 0, .int .u64 0, .slice none 0 0, .int .i64 0, .int .u64 0, .string (⟨#[]⟩ : ByteArray), .string (⟨#[]⟩ : ByteArray), .int .u64 0, .int .u64 0, .int .u64 0, .int .i64 0, .int .i64 0, .int .i64 0, .int .i64 0] h27 fun (a31 : Addr) (h32 : Heap) =>
  st a31 [.int .i64 0, .int .i64 v28, .int .i64 v29, .int .i64 v30, .int .u64 0, .int .u64 0, .int .u64 0, .int .u64 0, .int .i64 0, .int .u64 0, .slice none 0 0, .int .i64 0, .int .u64 0, .string (⟨#[]⟩ : ByteArray), .string (⟨#[]⟩ : ByteArray), .int .u64 0, .int .u64 0, .int .u64 0, .int .i64 0, .int .i64 0, .int .i64 0, .int .i64 0] h32 fun (h33 : Heap) =>
  f40_ r1 h33 fun (r34 r35 r36 : Int) (r37 : Sl) (h38 : Heap) =>
  al 44 [.int .u64 0, .int .u64 0, .int .u64 0, .slice none 0 0] h38 fun (a39 : Addr) (h40 : Heap) =>
  st a39 [.int .u64 r34, .int .u64 r35, .int .u64 r36, .slice r37.ptr r37.len r37.cap] h40 fun (h41 : Heap) =>
  ld [.int .i64] ((a24.add 0).add 0) h41 fun (v42 : Int) =>
  brr (v42 == 1)
  (jn [(44, .one .bool)] (fun (x50 : Bool) (h51 : Heap) =>
  brr x50
  (ld [.int .i64, .int .i64, .int .i64, .int .i64, .int .u64, .int .u64, .int .u64, .int .u64, .int .i64, .int .u64, .sl, .int .i64, .int .u64, .str, .str, .int .u64, .int .u64, .int .u64, .int .i64, .int .i64, .int .i64, .int .i64] a31 h51 fun (v52 v53 v54 v55 v56 v57 v58 v59 v60 v61 : Int) (v62 : Sl) (v63 v64 : Int) (v65 v66 : ByteArray) (v67 v68 v69 v70 v71 v72 v73 : Int) =>
  ld [.int .u64] (a24.add 4) h51 fun (v74 : Int) =>
  f59_ r1 v52 v53 v54 v55 v56 v57 v58 v59 v60 v61 v62 v63 v64 v65 v66 v67 v68 v69 v70 v71 v72 v73 v74 h51 fun (r75 r76 r77 r78 r79 r80 r81 r82 r83 r84 : Int) (r85 : Sl) (r86 r87 : Int) (r88 r89 : ByteArray) (r90 r91 r92 r93 r94 r95 r96 : Int) (r97 r98 r99 : Bool) (h100 : Heap) =>
  st a26 [.int .i64 r75, .int .i64 r76, .int .i64 r77, .int .i64 r78, .int .u64 r79, .int .u64 r80, .int .u64 r81, .int .u64 r82, .int .i64 r83, .int .u64 r84, .slice r85.ptr r85.len r85.cap, .int .i64 r86, .int .u64 r87, .string r88, .string r89, .int .u64 r90, .int .u64 r91, .int .u64 r92, .int .i64 r93, .int .i64 r94, .int .i64 r95, .int .i64 r96, .bool r97, .bool r98, .bool r99] h100 fun (h101 : Heap) =>
  ld [.int .i64, .int .i64, .int .i64, .int .i64, .int .u64, .int .u64, .int .u64, .int .u64, .int .i64, .int .u64, .sl, .int .i64, .int .u64, .str, .str, .int .u64, .int .u64, .int .u64, .int .i64, .int .i64, .int .i64, .int .i64, .bool, .bool, .bool] a26 h101 fun (v102 v103 v104 v105 v106 v107 v108 v109 v110 v111 : Int) (v112 : Sl) (v113 v114 : Int) (v115 v116 : ByteArray) (v117 v118 v119 v120 v121 v122 v123 : Int) (v124 v125 v126 : Bool) =>
  Q v102 v103 v104 v105 v106 v107 v108 v109 v110 v111 v112 v113 v114 v115 v116 v117 v118 v119 v120 v121 v122 v123 v124 v125 v126 h101)
  (ld [.int .u64] (a24.add 4) h51 fun (v127 : Int) =>
  nn r1 fun (a128 : Addr) =>
  st ((a128.add 0).add 0) [.int .u64 v127] h51 fun (h129 : Heap) =>
  st ((a31.add 0).add 0) [.int .i64 2] h129 fun (h130 : Heap) =>
  ld [.int .u64] (a24.add 4) h130 fun (v131 : Int) =>
  st (a31.add 4) [.int .u64 v131] h130 fun (h132 : Heap) =>
  ld [.int .u64, .int .u64] (a39.add 1) h132 fun (v133 v134 : Int) =>
  st (a31.add 5) [.int .u64 v133, .int .u64 v134] h132 fun (h135 : Heap) =>
  ld [.sl] (a39.add 3) h135 fun (v136 : Sl) =>
  st (a31.add 10) [.slice v136.ptr v136.len v136.cap] h135 fun (h137 : Heap) =>
  ld [.int .i64, .int .i64, .int .i64, .int .i64, .int .u64, .int .u64, .int .u64, .int .u64, .int .i64, .int .u64, .sl, .int .i64, .int .u64, .str, .str, .int .u64, .int .u64, .int .u64, .int .i64, .int .i64, .int .i64, .int .i64] a31 h137 fun (v138 v139 v140 v141 v142 v143 v144 v145 v146 v147 : Int) (v148 : Sl) (v149 v150 : Int) (v151 v152 : ByteArray) (v153 v154 v155 v156 v157 v158 v159 : Int) =>
  ld [.int .u64] (a24.add 4) h137 fun (v160 : Int) =>
  ld [.int .u64] (a39.add 0) h137 fun (v161 : Int) =>
  st a26 [.int .i64 v138, .int .i64 v139, .int .i64 v140, .int .i64 v141, .int .u64 v142, .int .u64 v143, .int .u64 v144, .int .u64 v145, .int .i64 v146, .int .u64 v147, .slice v148.ptr v148.len v148.cap, .int .i64 v149, .int .u64 v150, .string v151, .string v152, .int .u64 v153, .int .u64 v154, .int .u64 v155, .int .i64 v156, .int .i64 v157, .int .i64 v158, .int .i64 v159, .bool true, .bool false, .bool (v160 != v161)] h137 fun (h162 : Heap) =>
  ld [.int .i64, .int .i64, .int .i64, .int .i64, .int .u64, .int .u64, .int .u64, .int .u64, .int .i64, .int .u64, .sl, .int .i64, .int .u64, .str, .str, .int .u64, .int .u64, .int .u64, .int .i64, .int .i64, .int .i64, .int .i64, .bool, .bool, .bool] a26 h162 fun (v163 v164 v165 v166 v167 v168 v169 v170 v171 v172 : Int) (v173 : Sl) (v174 v175 : Int) (v176 v177 : ByteArray) (v178 v179 v180 v181 v182 v183 v184 : Int) (v185 v186 v187 : Bool) =>
  Q v163 v164 v165 v166 v167 v168 v169 v170 v171 v172 v173 v174 v175 v176 v177 v178 v179 v180 v181 v182 v183 v184 v185 v186 v187 h162)) (fun (j43 : Bool → Heap → Prop) =>
  ld [.int .u64] (a24.add 4) h41 fun (v44 : Int) =>
  ld [.int .u64] (a39.add 0) h41 fun (v45 : Int) =>
  brr (decide (v44 < v45))
  (j43 true h41)
  (ld [.int .u64] (a24.add 4) h41 fun (v46 : Int) =>
  ld [.int .u64] (a39.add 0) h41 fun (v47 : Int) =>
  brr (decide (v46 > v47))
  (nn r1 fun (a48 : Addr) =>
  ld [.int .i64] (a48.add 4) h41 fun (v49 : Int) =>
  j43 (decide (v49 > 0)) h41)
  (j43 false h41))))
  (brr (v42 == 4)
  (ld [.int .u64] ((a24.add 5).add 0) h41 fun (v188 : Int) =>
  ld [.int .u64] (a39.add 0) h41 fun (v189 : Int) =>
  brr (decide (v188 < v189))
  (ld [.int .i64, .int .i64, .int .i64, .int .i64, .int .u64, .int .u64, .int .u64, .int .u64, .int .i64, .int .u64, .sl, .int .i64, .int .u64, .str, .str, .int .u64, .int .u64, .int .u64, .int .i64, .int .i64, .int .i64, .int .i64] a31 h41 fun (v190 v191 v192 v193 v194 v195 v196 v197 v198 v199 : Int) (v200 : Sl) (v201 v202 : Int) (v203 v204 : ByteArray) (v205 v206 v207 v208 v209 v210 v211 : Int) =>
  ld [.int .u64] ((a24.add 5).add 0) h41 fun (v212 : Int) =>
  f59_ r1 v190 v191 v192 v193 v194 v195 v196 v197 v198 v199 v200 v201 v202 v203 v204 v205 v206 v207 v208 v209 v210 v211 v212 h41 fun (r213 r214 r215 r216 r217 r218 r219 r220 r221 r222 : Int) (r223 : Sl) (r224 r225 : Int) (r226 r227 : ByteArray) (r228 r229 r230 r231 r232 r233 r234 : Int) (r235 r236 r237 : Bool) (h238 : Heap) =>
  st a26 [.int .i64 r213, .int .i64 r214, .int .i64 r215, .int .i64 r216, .int .u64 r217, .int .u64 r218, .int .u64 r219, .int .u64 r220, .int .i64 r221, .int .u64 r222, .slice r223.ptr r223.len r223.cap, .int .i64 r224, .int .u64 r225, .string r226, .string r227, .int .u64 r228, .int .u64 r229, .int .u64 r230, .int .i64 r231, .int .i64 r232, .int .i64 r233, .int .i64 r234, .bool r235, .bool r236, .bool r237] h238 fun (h239 : Heap) =>
  ld [.int .i64, .int .i64, .int .i64, .int .i64, .int .u64, .int .u64, .int .u64, .int .u64, .int .i64, .int .u64, .sl, .int .i64, .int .u64, .str, .str, .int .u64, .int .u64, .int .u64, .int .i64, .int .i64, .int .i64, .int .i64, .bool, .bool, .bool] a26 h239 fun (v240 v241 v242 v243 v244 v245 v246 v247 v248 v249 : Int) (v250 : Sl) (v251 v252 : Int) (v253 v254 : ByteArray) (v255 v256 v257 v258 v259 v260 v261 : Int) (v262 v263 v264 : Bool) =>
  Q v240 v241 v242 v243 v244 v245 v246 v247 v248 v249 v250 v251 v252 v253 v254 v255 v256 v257 v258 v259 v260 v261 v262 v263 v264 h239)
  (ld [.int .u64] ((a24.add 5).add 0) h41 fun (v265 : Int) =>
  nn r1 fun (a266 : Addr) =>
  st ((a266.add 0).add 0) [.int .u64 v265] h41 fun (h267 : Heap) =>
  nn r1 fun (a268 : Addr) =>
  st (a268.add 4) [.int .i64 0] h267 fun (h269 : Heap) =>
  ld [.int .i64] (a24.add 8) h269 fun (v270 : Int) =>
  jn [] (fun  (h275 : Heap) =>
  ld [.int .u64] ((a24.add 5).add 0) h275 fun (v276 : Int) =>
  ld [.int .u64] (a39.add 0) h275 fun (v277 : Int) =>
  al 115 [.int .i64 0, .int .i64 0, .int .i64 0, .int .i64 0, .int .u64 0, .int .u64 0, .int .u64 0, .int .u64 0, .int .i64 0, .int .u64 0, .slice none 0 0, .int .i64 0, .int .u64 0, .string (⟨#[]⟩ : ByteArray), .string (⟨#[]⟩ : ByteArray), .int .u64 0, .int .u64 0, .int .u64 0, .int .i64 0, .int .i64 0, .int .i64 0, .int .i64 0, .bool false, .bool false, .bool false] h275 fun (a278 : Addr) (h279 : Heap) =>
  st a278 [.int .i64 0, .int .i64 0, .int .i64 0, .int .i64 0, .int .u64 0, .int .u64 0, .int .u64 0, .int .u64 0, .int .i64 0, .int .u64 0, .slice none 0 0, .int .i64 0, .int .u64 0, .string (⟨#[]⟩ : ByteArray), .string (⟨#[]⟩ : ByteArray), .int .u64 0, .int .u64 0, .int .u64 0, .int .i64 0, .int .i64 0, .int .i64 0, .int .i64 0, .bool false, .bool true, .bool (v276 != v277)] h279 fun (h280 : Heap) =>
  ld [.int .u64, .int .u64] (a24.add 5) h280 fun (v281 v282 : Int) =>
  ld [.int .u64, .int .u64] (a39.add 1) h280 fun (v283 v284 : Int) =>
  f32_ v281 v282 v283 v284 h280 fun (r285 : Int) (h286 : Heap) =>
  jn [] (fun  (h298 : Heap) =>
  nn r1 fun (a299 : Addr) =>
  ld [.int .u64, .int .u64] ((a299.add 0).add 1) h298 fun (v300 v301 : Int) =>
  ld [.int .u64, .int .u64] (a24.add 5) h298 fun (v302 v303 : Int) =>
  jn [] (fun  (h333 : Heap) =>
  ld [.int .i64, .int .i64, .int .i64, .int .i64, .int .u64, .int .u64, .int .u64, .int .u64, .int .i64, .int .u64, .sl, .int .i64, .int .u64, .str, .str, .int .u64, .int .u64, .int .u64, .int .i64, .int .i64, .int .i64, .int .i64, .bool, .bool, .bool] a278 h333 fun (v334 v335 v336 v337 v338 v339 v340 v341 v342 v343 : Int) (v344 : Sl) (v345 v346 : Int) (v347 v348 : ByteArray) (v349 v350 v351 v352 v353 v354 v355 : Int) (v356 v357 v358 : Bool) =>
  st a26 [.int .i64 v334, .int .i64 v335, .int .i64 v336, .int .i64 v337, .int .u64 v338, .int .u64 v339, .int .u64 v340, .int .u64 v341, .int .i64 v342, .int .u64 v343, .slice v344.ptr v344.len v344.cap, .int .i64 v345, .int .u64 v346, .string v347, .string v348, .int .u64 v349, .int .u64 v350, .int .u64 v351, .int .i64 v352, .int .i64 v353, .int .i64 v354, .int .i64 v355, .bool v356, .bool v357, .bool v358] h333 fun (h359 : Heap) =>
  ld [.int .i64, .int .i64, .int .i64, .int .i64, .int .u64, .int .u64, .int .u64, .int .u64, .int .i64, .int .u64, .sl, .int .i64, .int .u64, .str, .str, .int .u64, .int .u64, .int .u64, .int .i64, .int .i64, .int .i64, .int .i64, .bool, .bool, .bool] a26 h359 fun (v360 v361 v362 v363 v364 v365 v366 v367 v368 v369 : Int) (v370 : Sl) (v371 v372 : Int) (v373 v374 : ByteArray) (v375 v376 v377 v378 v379 v380 v381 : Int) (v382 v383 v384 : Bool) =>
  Q v360 v361 v362 v363 v364 v365 v366 v367 v368 v369 v370 v371 v372 v373 v374 v375 v376 v377 v378 v379 v380 v381 v382 v383 v384 h359) (fun (j304 : Heap → Prop) =>
  brr ((v300 == v302) && ((v301 == v303) && (true)))
  (st ((a31.add 0).add 0) [.int .i64 5] h298 fun (h305 : Heap) =>
  ld [.int .u64, .int .u64] (a24.add 5) h305 fun (v306 v307 : Int) =>
  st (a31.add 5) [.int .u64 v306, .int .u64 v307] h305 fun (h308 : Heap) =>
  ld [.int .i64, .int .i64, .int .i64, .int .i64, .int .u64, .int .u64, .int .u64, .int .u64, .int .i64, .int .u64, .sl, .int .i64, .int .u64, .str, .str, .int .u64, .int .u64, .int .u64, .int .i64, .int .i64, .int .i64, .int .i64] a31 h308 fun (v309 v310 v311 v312 v313 v314 v315 v316 v317 v318 : Int) (v319 : Sl) (v320 v321 : Int) (v322 v323 : ByteArray) (v324 v325 v326 v327 v328 v329 v330 : Int) =>
  st (a278.add 0) [.int .i64 v309, .int .i64 v310, .int .i64 v311, .int .i64 v312, .int .u64 v313, .int .u64 v314, .int .u64 v315, .int .u64 v316, .int .i64 v317, .int .u64 v318, .slice v319.ptr v319.len v319.cap, .int .i64 v320, .int .u64 v321, .string v322, .string v323, .int .u64 v324, .int .u64 v325, .int .u64 v326, .int .i64 v327, .int .i64 v328, .int .i64 v329, .int .i64 v330] h308 fun (h331 : Heap) =>
  st (a278.add 22) [.bool true] h331 fun (h332 : Heap) =>
  j304 h332)
  (j304 h298))) (fun (j287 : Heap → Prop) =>
  brr (decide (r285 > 0))
  (ld [.int .u64, .int .u64] (a24.add 5) h286 fun (v288 v289 : Int) =>
  nn r1 fun (a290 : Addr) =>
  st ((a290.add 0).add 1) [.int .u64 v288, .int .u64 v289] h286 fun (h291 : Heap) =>
  ld [.sl] (a24.add 10) h291 fun (v292 : Sl) =>
  f22_ v292 h291 fun (r293 : Sl) (h294 : Heap) =>
  nn r1 fun (a295 : Addr) =>
  st ((a295.add 0).add 3) [.slice r293.ptr r293.len r293.cap] h294 fun (h296 : Heap) =>
  st (a278.add 24) [.bool true] h296 fun (h297 : Heap) =>
  j287 h297)
  (j287 h286))) (fun (j271 : Heap → Prop) =>
  brr (decide (v270 > 0))
  (ld [.int .i64] (a24.add 8) h269 fun (v272 : Int) =>
  nn r1 fun (a273 : Addr) =>
  st (a273.add 4) [.int .i64 v272] h269 fun (h274 : Heap) =>
  j271 h274)
  (j271 h269))))
  (brr (v42 == 6)
  (ld [.int .u64] (a24.add 4) h41 fun (v385 : Int) =>
  ld [.int .u64] (a39.add 0) h41 fun (v386 : Int) =>
  brr (decide (v385 < v386))
  (ld [.int .i64, .int .i64, .int .i64, .int .i64, .int .u64, .int .u64, .int .u64, .int .u64, .int .i64, .int .u64, .sl, .int .i64, .int .u64, .str, .str, .int .u64, .int .u64, .int .u64, .int .i64, .int .i64, .int .i64, .int .i64] a31 h41 fun (v387 v388 v389 v390 v391 v392 v393 v394 v395 v396 : Int) (v397 : Sl) (v398 v399 : Int) (v400 v401 : ByteArray) (v402 v403 v404 v405 v406 v407 v408 : Int) =>
  ld [.int .u64] (a24.add 4) h41 fun (v409 : Int) =>
  f59_ r1 v387 v388 v389 v390 v391 v392 v393 v394 v395 v396 v397 v398 v399 v400 v401 v402 v403 v404 v405 v406 v407 v408 v409 h41 fun (r410 r411 r412 r413 r414 r415 r416 r417 r418 r419 : Int) (r420 : Sl) (r421 r422 : Int) (r423 r424 : ByteArray) (r425 r426 r427 r428 r429 r430 r431 : Int) (r432 r433 r434 : Bool) (h435 : Heap) =>
  st a26 [.int .i64 r410, .int .i64 r411, .int .i64 r412, .int .i64 r413, .int .u64 r414, .int .u64 r415, .int .u64 r416, .int .u64 r417, .int .i64 r418, .int .u64 r419, .slice r420.ptr r420.len r420.cap, .int .i64 r421, .int .u64 r422, .string r423, .string r424, .int .u64 r425, .int .u64 r426, .int .u64 r427, .int .i64 r428, .int .i64 r429, .int .i64 r430, .int .i64 r431, .bool r432, .bool r433, .bool r434] h435 fun (h436 : Heap) =>
  ld [.int .i64, .int .i64, .int .i64, .int .i64, .int .u64, .int .u64, .int .u64, .int .u64, .int .i64, .int .u64, .sl, .int .i64, .int .u64, .str, .str, .int .u64, .int .u64, .int .u64, .int .i64, .int .i64, .int .i64, .int .i64, .bool, .bool, .bool] a26 h436 fun (v437 v438 v439 v440 v441 v442 v443 v444 v445 v446 : Int) (v447 : Sl) (v448 v449 : Int) (v450 v451 : ByteArray) (v452 v453 v454 v455 v456 v457 v458 : Int) (v459 v460 v461 : Bool) =>
  Q v437 v438 v439 v440 v441 v442 v443 v444 v445 v446 v447 v448 v449 v450 v451 v452 v453 v454 v455 v456 v457 v458 v459 v460 v461 h436)
  (ld [.int .u64] (a24.add 4) h41 fun (v462 : Int) =>
  nn r1 fun (a463 : Addr) =>
  st ((a463.add 0).add 0) [.int .u64 v462] h41 fun (h464 : Heap) =>
  nn r1 fun (a465 : Addr) =>
  st (a465.add 4) [.int .i64 0] h464 fun (h466 : Heap) =>
  ld [.int .i64] (a24.add 8) h466 fun (v467 : Int) =>
  jn [] (fun  (h472 : Heap) =>
  st ((a31.add 0).add 0) [.int .i64 7] h472 fun (h473 : Heap) =>
  ld [.int .u64] (a24.add 4) h473 fun (v474 : Int) =>
  st (a31.add 4) [.int .u64 v474] h473 fun (h475 : Heap) =>
  ld [.int .u64] (a24.add 7) h475 fun (v476 : Int) =>
  st (a31.add 7) [.int .u64 v476] h475 fun (h477 : Heap) =>
  ld [.int .i64, .int .i64, .int .i64, .int .i64, .int .u64, .int .u64, .int .u64, .int .u64, .int .i64, .int .u64, .sl, .int .i64, .int .u64, .str, .str, .int .u64, .int .u64, .int .u64, .int .i64, .int .i64, .int .i64, .int .i64] a31 h477 fun (v478 v479 v480 v481 v482 v483 v484 v485 v486 v487 : Int) (v488 : Sl) (v489 v490 : Int) (v491 v492 : ByteArray) (v493 v494 v495 v496 v497 v498 v499 : Int) =>
  ld [.int .u64] (a24.add 4) h477 fun (v500 : Int) =>
  ld [.int .u64] (a39.add 0) h477 fun (v501 : Int) =>
  st a26 [.int .i64 v478, .int .i64 v479, .int .i64 v480, .int .i64 v481, .int .u64 v482, .int .u64 v483, .int .u64 v484, .int .u64 v485, .int .i64 v486, .int .u64 v487, .slice v488.ptr v488.len v488.cap, .int .i64 v489, .int .u64 v490, .string v491, .string v492, .int .u64 v493, .int .u64 v494, .int .u64 v495, .int .i64 v496, .int .i64 v497, .int .i64 v498, .int .i64 v499, .bool true, .bool true, .bool (v500 != v501)] h477 fun (h502 : Heap) =>
  ld [.int .i64, .int .i64, .int .i64, .int .i64, .int .u64, .int .u64, .int .u64, .int .u64, .int .i64, .int .u64, .sl, .int .i64, .int .u64, .str, .str, .int .u64, .int .u64, .int .u64, .int .i64, .int .i64, .int .i64, .int .i64, .bool, .bool, .bool] a26 h502 fun (v503 v504 v505 v506 v507 v508 v509 v510 v511 v512 : Int) (v513 : Sl) (v514 v515 : Int) (v516 v517 : ByteArray) (v518 v519 v520 v521 v522 v523 v524 : Int) (v525 v526 v527 : Bool) =>
  Q v503 v504 v505 v506 v507 v508 v509 v510 v511 v512 v513 v514 v515 v516 v517 v518 v519 v520 v521 v522 v523 v524 v525 v526 v527 h502) (fun (j468 : Heap → Prop) =>
  brr (decide (v467 > 0))
  (ld [.int .i64] (a24.add 8) h466 fun (v469 : Int) =>
  nn r1 fun (a470 : Addr) =>
  st (a470.add 4) [.int .i64 v469] h466 fun (h471 : Heap) =>
  j468 h471)
  (j468 h466))))
  (st a26 [.int .i64 0, .int .i64 0, .int .i64 0, .int .i64 0, .int .u64 0, .int .u64 0, .int .u64 0, .int .u64 0, .int .i64 0, .int .u64 0, .slice none 0 0, .int .i64 0, .int .u64 0, .string (⟨#[]⟩ : ByteArray), .string (⟨#[]⟩ : ByteArray), .int .u64 0, .int .u64 0, .int .u64 0, .int .i64 0, .int .i64 0, .int .i64 0, .int .i64 0, .bool false, .bool false, .bool false] h41 fun (h528 : Heap) =>
  ld [.int .i64, .int .i64, .int .i64, .int .i64, .int .u64, .int .u64, .int .u64, .int .u64, .int .i64, .int .u64, .sl, .int .i64, .int .u64, .str, .str, .int .u64, .int .u64, .int .u64, .int .i64, .int .i64, .int .i64, .int .i64, .bool, .bool, .bool] a26 h528 fun (v529 v530 v531 v532 v533 v534 v535 v536 v537 v538 : Int) (v539 : Sl) (v540 v541 : Int) (v542 v543 : ByteArray) (v544 v545 v546 v547 v548 v549 v550 : Int) (v551 v552 v553 : Bool) =>
  Q v529 v530 v531 v532 v533 v534 v535 v536 v537 v538 v539 v540 v541 v542 v543 v544 v545 v546 v547 v548 v549 v550 v551 v552 v553 h528)))
def F_ref9_Replica_Hear (r1 : Option Addr) (m2 m3 m4 m5 m6 m7 m8 m9 m10 m11 : Int) (m12 : Sl) (m13 m14 : Int) (m15 m16 : ByteArray) (m17 m18 m19 m20 m21 m22 m23 : Int) (h : Heap) (Q : Int → Int → Int → Int → Int → Int → Int → Int → Int → Int → Sl → Int → Int → ByteArray → ByteArray → Int → Int → Int → Int → Int → Int → Int → Bool → Bool → Bool → Heap → Prop) : Prop := F_ref9_Replica_Hear_of F_ref0_Copy F_ref0_CmpTag F_ref9_Replica_Stored F_ref9_Replica_refuse r1 m2 m3 m4 m5 m6 m7 m8 m9 m10 m11 m12 m13 m14 m15 m16 m17 m18 m19 m20 m21 m22 m23 h Q
def plan38 : Plan := .s (.r [0, 3, 4]) (.s (.r [0, 3, 4, 5]) (.s (.r [0, 3, 4, 5, 6]) (.s (.s (.r [0, 3, 4, 5, 6, 23]) (.b (.s (.r [0, 3, 4, 5, 6, 23, 24]) (.c (.s (.s (.rj [(44, .one .bool)] [0, 3, 4, 5, 6]) (.c (.s (.r [4]) .z) .z)) (.s (.r [3, 4, 5, 6]) (.s (.r [3, 4, 5, 6]) (.s (.r [3, 4, 5, 6]) (.s (.r [3, 4, 5, 6]) (.s (.r [3, 4, 5, 6]) (.s (.r [4]) .z))))))) (.s (.r [0, 3, 4, 5, 6, 23, 74]) (.c (.s (.s (.r [0, 3, 4, 5, 6, 81]) (.c (.s (.r [4]) .z) .z)) (.s (.r [0, 3, 4, 5, 6]) (.s (.r [0, 3, 4, 5, 6]) (.s (.s (.r [0, 3, 4, 5, 6, 100]) (.cj [] [0, 3, 4, 5, 6] (.r [0, 3, 4, 5, 6]) .z)) (.s (.r [0, 3, 4, 5, 6, 7]) (.s (.s (.r [0, 3, 4, 5, 7, 118]) (.cj [] [0, 3, 4, 5, 7] (.s (.r [0, 3, 4, 5, 7]) (.s (.r [0, 3, 4, 5, 7]) (.r [0, 3, 4, 5, 7]))) .z)) (.s (.s (.d [0, 1, 3, 7, 15, 0, 32, 127] [[0, 1, 2, 3, 4, 5, 6, 7]] [3, 4, 5, 7, 140]) (.cj [] [4, 7] (.s (.r [3, 4, 5, 7]) (.s (.r [4, 5, 7]) (.s (.r [4, 7]) (.r [4, 7])))) .z)) (.s (.r [4]) .z)))))))) (.s (.r [0, 3, 4, 5, 6, 150]) (.c (.s (.s (.r [0, 3, 4, 5, 6, 156]) (.c (.s (.r [4]) .z) .z)) (.s (.r [0, 3, 4, 5, 6]) (.s (.r [0, 3, 4, 5, 6]) (.s (.s (.r [0, 3, 4, 5, 6, 173]) (.cj [] [3, 4, 5, 6] (.r [3, 4, 5, 6]) .z)) (.s (.r [3, 4, 5, 6]) (.s (.r [3, 4, 5, 6]) (.s (.r [3, 4, 5, 6]) (.s (.r [4]) .z)))))))) .z)))))))) (.s (.r [4]) .z))))
theorem F_ref9_Replica_Hear.eq (f22_ : Sl → Heap → (Sl → Heap → Prop) → Prop) (f32_ : Int → Int → Int → Int → Heap → (Int → Heap → Prop) → Prop) (f40_ : Option Addr → Heap → (Int → Int → Int → Sl → Heap → Prop) → Prop) (f59_ : Option Addr → Int → Int → Int → Int → Int → Int → Int → Int → Int → Int → Sl → Int → Int → ByteArray → ByteArray → Int → Int → Int → Int → Int → Int → Int → Int → Heap → (Int → Int → Int → Int → Int → Int → Int → Int → Int → Int → Sl → Int → Int → ByteArray → ByteArray → Int → Int → Int → Int → Int → Int → Int → Bool → Bool → Bool → Heap → Prop) → Prop) (r1 : Option Addr) (m2 m3 m4 m5 m6 m7 m8 m9 m10 m11 : Int) (m12 : Sl) (m13 m14 : Int) (m15 m16 : ByteArray) (m17 m18 m19 m20 m21 m22 m23 : Int) (h : Heap) (K : Value → Heap → Prop) : F_ref9_Replica_Hear_of f22_ f32_ f40_ f59_ r1 m2 m3 m4 m5 m6 m7 m8 m9 m10 m11 m12 m13 m14 m15 m16 m17 m18 m19 m20 m21 m22 m23 h (fun (r0 r1 r2 r3 r4 r5 r6 r7 r8 r9 : Int) (r10 : Sl) (r11 r12 : Int) (r13 r14 : ByteArray) (r15 r16 r17 r18 r19 r20 r21 : Int) (r22 r23 r24 : Bool) (h : Heap) => K (.agg #[.int .i64 r0, .int .i64 r1, .int .i64 r2, .int .i64 r3, .int .u64 r4, .int .u64 r5, .int .u64 r6, .int .u64 r7, .int .i64 r8, .int .u64 r9, .slice r10.ptr r10.len r10.cap, .int .i64 r11, .int .u64 r12, .string r13, .string r14, .int .u64 r15, .int .u64 r16, .int .u64 r17, .int .i64 r18, .int .i64 r19, .int .i64 r20, .int .i64 r21, .bool r22, .bool r23, .bool r24]) h) =
    den Try.prog (fn1 22 (E_ref0_Copy_of f22_) (fn1 32 (E_ref0_CmpTag_of f32_) (fn1 40 (E_ref9_Replica_Stored_of f40_) (fn1 59 (E_ref9_Replica_refuse_of f59_) noFns)))) Try.f38.ntmps plan38 (bodyOf Try.f38) (args0 0 [(.pointer r1 : Value), (.agg #[.int .i64 m2, .int .i64 m3, .int .i64 m4, .int .i64 m5, .int .u64 m6, .int .u64 m7, .int .u64 m8, .int .u64 m9, .int .i64 m10, .int .u64 m11, .slice m12.ptr m12.len m12.cap, .int .i64 m13, .int .u64 m14, .string m15, .string m16, .int .u64 m17, .int .u64 m18, .int .u64 m19, .int .i64 m20, .int .i64 m21, .int .i64 m22, .int .i64 m23] : Value)]) h ⟨fun env h => dRes Try.prog Try.f38.results.toList env h K, fun _ _ _ => False, fun env h => dRes Try.prog Try.f38.results.toList env h K⟩ := by kernel_rfl
def E_ref9_Replica_Hear_of (f : Option Addr → Int → Int → Int → Int → Int → Int → Int → Int → Int → Int → Sl → Int → Int → ByteArray → ByteArray → Int → Int → Int → Int → Int → Int → Int → Heap → (Int → Int → Int → Int → Int → Int → Int → Int → Int → Int → Sl → Int → Int → ByteArray → ByteArray → Int → Int → Int → Int → Int → Int → Int → Bool → Bool → Bool → Heap → Prop) → Prop) : List Value → Heap → (Value → Heap → Prop) → Prop
  | [v0, v1], h, K => dec1 .ptr v0 fun (r1 : Option Addr) =>
  vAgg v1 fun cs1 => decs [.int .i64, .int .i64, .int .i64, .int .i64, .int .u64, .int .u64, .int .u64, .int .u64, .int .i64, .int .u64, .sl, .int .i64, .int .u64, .str, .str, .int .u64, .int .u64, .int .u64, .int .i64, .int .i64, .int .i64, .int .i64] cs1.toList fun (m2 m3 m4 m5 m6 m7 m8 m9 m10 m11 : Int) (m12 : Sl) (m13 m14 : Int) (m15 m16 : ByteArray) (m17 m18 m19 m20 m21 m22 m23 : Int) =>
  f r1 m2 m3 m4 m5 m6 m7 m8 m9 m10 m11 m12 m13 m14 m15 m16 m17 m18 m19 m20 m21 m22 m23 h (fun (r0 r1 r2 r3 r4 r5 r6 r7 r8 r9 : Int) (r10 : Sl) (r11 r12 : Int) (r13 r14 : ByteArray) (r15 r16 r17 r18 r19 r20 r21 : Int) (r22 r23 r24 : Bool) (h : Heap) => K (.agg #[.int .i64 r0, .int .i64 r1, .int .i64 r2, .int .i64 r3, .int .u64 r4, .int .u64 r5, .int .u64 r6, .int .u64 r7, .int .i64 r8, .int .u64 r9, .slice r10.ptr r10.len r10.cap, .int .i64 r11, .int .u64 r12, .string r13, .string r14, .int .u64 r15, .int .u64 r16, .int .u64 r17, .int .i64 r18, .int .i64 r19, .int .i64 r20, .int .i64 r21, .bool r22, .bool r23, .bool r24]) h)
  | _, _, _ => False
abbrev E_ref9_Replica_Hear := E_ref9_Replica_Hear_of F_ref9_Replica_Hear
theorem E_ref9_Replica_Hear.right : IsRight Try.prog 38 E_ref9_Replica_Hear := by
  refine isRight fun vs K w hh => ?_
  match vs, hh with
  | [v0, v1], hh =>
    unfold E_ref9_Replica_Hear E_ref9_Replica_Hear_of at hh
    replace hh := dec1_sound hh; obtain ⟨r1, rfl, hh⟩ := hh
    replace hh := vAgg_sound hh; obtain ⟨cs1, rfl, hh⟩ := hh
    replace hh := decs_cons hh; obtain ⟨m2, l1_0, e1_0, hh⟩ := hh
    replace hh := decs_cons hh; obtain ⟨m3, l1_1, e1_1, hh⟩ := hh
    replace hh := decs_cons hh; obtain ⟨m4, l1_2, e1_2, hh⟩ := hh
    replace hh := decs_cons hh; obtain ⟨m5, l1_3, e1_3, hh⟩ := hh
    replace hh := decs_cons hh; obtain ⟨m6, l1_4, e1_4, hh⟩ := hh
    replace hh := decs_cons hh; obtain ⟨m7, l1_5, e1_5, hh⟩ := hh
    replace hh := decs_cons hh; obtain ⟨m8, l1_6, e1_6, hh⟩ := hh
    replace hh := decs_cons hh; obtain ⟨m9, l1_7, e1_7, hh⟩ := hh
    replace hh := decs_cons hh; obtain ⟨m10, l1_8, e1_8, hh⟩ := hh
    replace hh := decs_cons hh; obtain ⟨m11, l1_9, e1_9, hh⟩ := hh
    replace hh := decs_cons hh; obtain ⟨m12, l1_10, e1_10, hh⟩ := hh
    replace hh := decs_cons hh; obtain ⟨m13, l1_11, e1_11, hh⟩ := hh
    replace hh := decs_cons hh; obtain ⟨m14, l1_12, e1_12, hh⟩ := hh
    replace hh := decs_cons hh; obtain ⟨m15, l1_13, e1_13, hh⟩ := hh
    replace hh := decs_cons hh; obtain ⟨m16, l1_14, e1_14, hh⟩ := hh
    replace hh := decs_cons hh; obtain ⟨m17, l1_15, e1_15, hh⟩ := hh
    replace hh := decs_cons hh; obtain ⟨m18, l1_16, e1_16, hh⟩ := hh
    replace hh := decs_cons hh; obtain ⟨m19, l1_17, e1_17, hh⟩ := hh
    replace hh := decs_cons hh; obtain ⟨m20, l1_18, e1_18, hh⟩ := hh
    replace hh := decs_cons hh; obtain ⟨m21, l1_19, e1_19, hh⟩ := hh
    replace hh := decs_cons hh; obtain ⟨m22, l1_20, e1_20, hh⟩ := hh
    replace hh := decs_cons hh; obtain ⟨m23, l1_21, e1_21, hh⟩ := hh
    replace hh := decs_nil hh; obtain ⟨rfl, hh⟩ := hh
    subst e1_21
    subst e1_20
    subst e1_19
    subst e1_18
    subst e1_17
    subst e1_16
    subst e1_15
    subst e1_14
    subst e1_13
    subst e1_12
    subst e1_11
    subst e1_10
    subst e1_9
    subst e1_8
    subst e1_7
    subst e1_6
    subst e1_5
    subst e1_4
    subst e1_3
    subst e1_2
    subst e1_1
    have ec1 := toArray_eq e1_0
    subst ec1
    unfold F_ref9_Replica_Hear at hh
    exact calls_den (fn1_right ok22 E_ref0_Copy.right (fn1_right ok32 E_ref0_CmpTag.right (fn1_right ok40 E_ref9_Replica_Stored.right (fn1_right ok59 E_ref9_Replica_refuse.right noFns_right)))) plan38 _ w K Try.func38 (by kernel_rfl) (by kernel_rfl) (Eq.mp (F_ref9_Replica_Hear.eq F_ref0_Copy F_ref0_CmpTag F_ref9_Replica_Stored F_ref9_Replica_refuse r1 m2 m3 m4 m5 m6 m7 m8 m9 m10 m11 m12 m13 m14 m15 m16 m17 m18 m19 m20 m21 m22 m23 w.heap K) hh)
theorem ok38 : okFn Try.prog 38 = true := by kernel_rfl
end Go.Proofs.Ytcbelendjpnmiaa.V
namespace Go.Proofs.Ytcbelendjpnmiaa.V
open Go Go.RowKit
set_option linter.unusedVariables false
set_option maxRecDepth 100000
def F_ref9_Replica_Own_of  (r1 : Option Addr) (epoch2 : Int) (h : Heap) (Q : Bool → Heap → Prop) : Prop :=
  nn r1 fun (a3 : Addr) =>
  ld [.int .u64] ((a3.add 0).add 0) h fun (v4 : Int) =>
  brr (decide (epoch2 ≤ v4))
  (Q false h)
  (nn r1 fun (a5 : Addr) =>
  st ((a5.add 0).add 0) [.int .u64 epoch2] h fun (h6 : Heap) =>
  Q true h6)
def F_ref9_Replica_Own (r1 : Option Addr) (epoch2 : Int) (h : Heap) (Q : Bool → Heap → Prop) : Prop := F_ref9_Replica_Own_of  r1 epoch2 h Q
def plan53 : Plan := .s (.r [0, 1]) (.s (.s (.r [0, 1, 11]) (.c (.s (.r [4]) .z) .z)) (.s (.r []) (.s (.r [4]) .z)))
theorem F_ref9_Replica_Own.eq  (r1 : Option Addr) (epoch2 : Int) (h : Heap) (K : Value → Heap → Prop) : F_ref9_Replica_Own_of  r1 epoch2 h (fun (r0 : Bool) (h : Heap) => K (.bool r0) h) =
    den Try.prog noFns Try.f53.ntmps plan53 (bodyOf Try.f53) (args0 0 [(.pointer r1 : Value), (.int .u64 epoch2 : Value)]) h ⟨fun env h => dRes Try.prog Try.f53.results.toList env h K, fun _ _ _ => False, fun env h => dRes Try.prog Try.f53.results.toList env h K⟩ := by kernel_rfl
def E_ref9_Replica_Own_of (f : Option Addr → Int → Heap → (Bool → Heap → Prop) → Prop) : List Value → Heap → (Value → Heap → Prop) → Prop
  | [v0, v1], h, K => dec1 .ptr v0 fun (r1 : Option Addr) =>
  dec1 (.int .u64) v1 fun (epoch2 : Int) =>
  f r1 epoch2 h (fun (r0 : Bool) (h : Heap) => K (.bool r0) h)
  | _, _, _ => False
abbrev E_ref9_Replica_Own := E_ref9_Replica_Own_of F_ref9_Replica_Own
theorem E_ref9_Replica_Own.right : IsRight Try.prog 53 E_ref9_Replica_Own := by
  refine isRight fun vs K w hh => ?_
  match vs, hh with
  | [v0, v1], hh =>
    unfold E_ref9_Replica_Own E_ref9_Replica_Own_of at hh
    replace hh := dec1_sound hh; obtain ⟨r1, rfl, hh⟩ := hh
    replace hh := dec1_sound hh; obtain ⟨epoch2, rfl, hh⟩ := hh
    unfold F_ref9_Replica_Own at hh
    exact calls_den noFns_right plan53 _ w K Try.func53 (by kernel_rfl) (by kernel_rfl) (Eq.mp (F_ref9_Replica_Own.eq  r1 epoch2 w.heap K) hh)
theorem ok53 : okFn Try.prog 53 = true := by kernel_rfl
end Go.Proofs.Ytcbelendjpnmiaa.V
namespace Go.Proofs.Ytcbelendjpnmiaa.V
open Go Go.RowKit
set_option linter.unusedVariables false
set_option maxRecDepth 100000
def F_ref9_Replica_Tick_of  (r1 : Option Addr) (h : Heap) (Q : Heap → Prop) : Prop :=
  nn r1 fun (a2 : Addr) =>
  ld [.int .i64] (a2.add 4) h fun (v3 : Int) =>
  jn [] (fun  (h9 : Heap) =>
  Q h9) (fun (j4 : Heap → Prop) =>
  brr (decide (v3 > 0))
  (nn r1 fun (a5 : Addr) =>
  ld [.int .i64] (a5.add 4) h fun (v6 : Int) =>
  nn r1 fun (a7 : Addr) =>
  st (a7.add 4) [.int .i64 (IntKind.i64.wrap (v6 - 1))] h fun (h8 : Heap) =>
  j4 h8)
  (j4 h))
def F_ref9_Replica_Tick (r1 : Option Addr) (h : Heap) (Q : Heap → Prop) : Prop := F_ref9_Replica_Tick_of  r1 h Q
def plan52 : Plan := .s (.r [0, 6]) (.cj [] [] (.r []) .z)
theorem F_ref9_Replica_Tick.eq  (r1 : Option Addr) (h : Heap) (K : Value → Heap → Prop) : F_ref9_Replica_Tick_of  r1 h (fun  (h : Heap) => K (.tuple #[]) h) =
    den Try.prog noFns Try.f52.ntmps plan52 (bodyOf Try.f52) (args0 0 [(.pointer r1 : Value)]) h ⟨fun env h => dRes Try.prog Try.f52.results.toList env h K, fun _ _ _ => False, fun env h => dRes Try.prog Try.f52.results.toList env h K⟩ := by kernel_rfl
def E_ref9_Replica_Tick_of (f : Option Addr → Heap → (Heap → Prop) → Prop) : List Value → Heap → (Value → Heap → Prop) → Prop
  | [v0], h, K => dec1 .ptr v0 fun (r1 : Option Addr) =>
  f r1 h (fun  (h : Heap) => K (.tuple #[]) h)
  | _, _, _ => False
abbrev E_ref9_Replica_Tick := E_ref9_Replica_Tick_of F_ref9_Replica_Tick
theorem E_ref9_Replica_Tick.right : IsRight Try.prog 52 E_ref9_Replica_Tick := by
  refine isRight fun vs K w hh => ?_
  match vs, hh with
  | [v0], hh =>
    unfold E_ref9_Replica_Tick E_ref9_Replica_Tick_of at hh
    replace hh := dec1_sound hh; obtain ⟨r1, rfl, hh⟩ := hh
    unfold F_ref9_Replica_Tick at hh
    exact calls_den noFns_right plan52 _ w K Try.func52 (by kernel_rfl) (by kernel_rfl) (Eq.mp (F_ref9_Replica_Tick.eq  r1 w.heap K) hh)
theorem ok52 : okFn Try.prog 52 = true := by kernel_rfl
end Go.Proofs.Ytcbelendjpnmiaa.V
namespace Go.Proofs.Ytcbelendjpnmiaa.V
open Go Go.RowKit
set_option linter.unusedVariables false
set_option maxRecDepth 100000
def F_ref9_Replica_Wait_of  (r1 : Option Addr) (h : Heap) (Q : Int → Heap → Prop) : Prop :=
  nn r1 fun (a2 : Addr) =>
  ld [.int .i64] (a2.add 4) h fun (v3 : Int) =>
  Q v3 h
def F_ref9_Replica_Wait (r1 : Option Addr) (h : Heap) (Q : Int → Heap → Prop) : Prop := F_ref9_Replica_Wait_of  r1 h Q
def plan57 : Plan := .s (.r [0]) (.s (.r [2]) .z)
theorem F_ref9_Replica_Wait.eq  (r1 : Option Addr) (h : Heap) (K : Value → Heap → Prop) : F_ref9_Replica_Wait_of  r1 h (fun (r0 : Int) (h : Heap) => K (.int .i64 r0) h) =
    den Try.prog noFns Try.f57.ntmps plan57 (bodyOf Try.f57) (args0 0 [(.pointer r1 : Value)]) h ⟨fun env h => dRes Try.prog Try.f57.results.toList env h K, fun _ _ _ => False, fun env h => dRes Try.prog Try.f57.results.toList env h K⟩ := by kernel_rfl
def E_ref9_Replica_Wait_of (f : Option Addr → Heap → (Int → Heap → Prop) → Prop) : List Value → Heap → (Value → Heap → Prop) → Prop
  | [v0], h, K => dec1 .ptr v0 fun (r1 : Option Addr) =>
  f r1 h (fun (r0 : Int) (h : Heap) => K (.int .i64 r0) h)
  | _, _, _ => False
abbrev E_ref9_Replica_Wait := E_ref9_Replica_Wait_of F_ref9_Replica_Wait
theorem E_ref9_Replica_Wait.right : IsRight Try.prog 57 E_ref9_Replica_Wait := by
  refine isRight fun vs K w hh => ?_
  match vs, hh with
  | [v0], hh =>
    unfold E_ref9_Replica_Wait E_ref9_Replica_Wait_of at hh
    replace hh := dec1_sound hh; obtain ⟨r1, rfl, hh⟩ := hh
    unfold F_ref9_Replica_Wait at hh
    exact calls_den noFns_right plan57 _ w K Try.func57 (by kernel_rfl) (by kernel_rfl) (Eq.mp (F_ref9_Replica_Wait.eq  r1 w.heap K) hh)
theorem ok57 : okFn Try.prog 57 = true := by kernel_rfl
end Go.Proofs.Ytcbelendjpnmiaa.V
namespace Go.Proofs.Ytcbelendjpnmiaa.V
open Go Go.RowKit
set_option linter.unusedVariables false
set_option maxRecDepth 100000
def F_ref9_New_of (f22_ : Sl → Heap → (Sl → Heap → Prop) → Prop) (value1 : Sl) (h : Heap) (Q : Option Addr → Heap → Prop) : Prop :=
  f22_ value1 h fun (r2 : Sl) (h3 : Heap) =>
  al 124 [.int .u64 0, .int .u64 0, .int .u64 0, .slice r2.ptr r2.len r2.cap, .int .i64 0] h3 fun (a4 : Addr) (h5 : Heap) =>
  Q (some a4) h5
def F_ref9_New (value1 : Sl) (h : Heap) (Q : Option Addr → Heap → Prop) : Prop := F_ref9_New_of F_ref0_Copy value1 h Q
def plan48 : Plan := .s (.r [0]) (.s (.r [2]) .z)
theorem F_ref9_New.eq (f22_ : Sl → Heap → (Sl → Heap → Prop) → Prop) (value1 : Sl) (h : Heap) (K : Value → Heap → Prop) : F_ref9_New_of f22_ value1 h (fun (r0 : Option Addr) (h : Heap) => K (.pointer r0) h) =
    den Try.prog (fn1 22 (E_ref0_Copy_of f22_) noFns) Try.f48.ntmps plan48 (bodyOf Try.f48) (args0 0 [(.slice value1.ptr value1.len value1.cap : Value)]) h ⟨fun env h => dRes Try.prog Try.f48.results.toList env h K, fun _ _ _ => False, fun env h => dRes Try.prog Try.f48.results.toList env h K⟩ := by kernel_rfl
def E_ref9_New_of (f : Sl → Heap → (Option Addr → Heap → Prop) → Prop) : List Value → Heap → (Value → Heap → Prop) → Prop
  | [v0], h, K => dec1 .sl v0 fun (value1 : Sl) =>
  f value1 h (fun (r0 : Option Addr) (h : Heap) => K (.pointer r0) h)
  | _, _, _ => False
abbrev E_ref9_New := E_ref9_New_of F_ref9_New
theorem E_ref9_New.right : IsRight Try.prog 48 E_ref9_New := by
  refine isRight fun vs K w hh => ?_
  match vs, hh with
  | [v0], hh =>
    unfold E_ref9_New E_ref9_New_of at hh
    replace hh := dec1_sound hh; obtain ⟨value1, rfl, hh⟩ := hh
    unfold F_ref9_New at hh
    exact calls_den (fn1_right ok22 E_ref0_Copy.right noFns_right) plan48 _ w K Try.func48 (by kernel_rfl) (by kernel_rfl) (Eq.mp (F_ref9_New.eq F_ref0_Copy value1 w.heap K) hh)
theorem ok48 : okFn Try.prog 48 = true := by kernel_rfl
end Go.Proofs.Ytcbelendjpnmiaa.V
namespace Go.Proofs.Ytcbelendjpnmiaa.V
open Go Go.RowKit
set_option linter.unusedVariables false
set_option maxRecDepth 100000
def F_ref9_Load_of (f22_ : Sl → Heap → (Sl → Heap → Prop) → Prop) (s1 s2 s3 : Int) (s4 : Sl) (span5 : Int) (h : Heap) (Q : Option Addr → Heap → Prop) : Prop :=
  al 44 [.int .u64 s1, .int .u64 s2, .int .u64 s3, .slice s4.ptr s4.len s4.cap] h fun (a6 : Addr) (h7 : Heap) =>
  ld [.int .u64, .int .u64, .int .u64, .sl] a6 h7 fun (v8 v9 v10 : Int) (v11 : Sl) =>
  al 124 [.int .u64 v8, .int .u64 v9, .int .u64 v10, .slice v11.ptr v11.len v11.cap, .int .i64 0] h7 fun (a12 : Addr) (h13 : Heap) =>
  ld [.sl] (a6.add 3) h13 fun (v14 : Sl) =>
  f22_ v14 h13 fun (r15 : Sl) (h16 : Heap) =>
  nn (some a12) fun (a17 : Addr) =>
  st ((a17.add 0).add 3) [.slice r15.ptr r15.len r15.cap] h16 fun (h18 : Heap) =>
  jn [] (fun  (h22 : Heap) =>
  Q (some a12) h22) (fun (j19 : Heap → Prop) =>
  brr (decide (span5 > 0))
  (nn (some a12) fun (a20 : Addr) =>
  st (a20.add 4) [.int .i64 span5] h18 fun (h21 : Heap) =>
  j19 h21)
  (j19 h18))
def F_ref9_Load (s1 s2 s3 : Int) (s4 : Sl) (span5 : Int) (h : Heap) (Q : Option Addr → Heap → Prop) : Prop := F_ref9_Load_of F_ref0_Copy s1 s2 s3 s4 span5 h Q
def plan71 : Plan := .s (.r [1, 2]) (.s (.r [1, 2, 5]) (.s (.r [1, 5]) (.s (.s (.r [1, 5, 17]) (.cj [] [5] (.r [5]) .z)) (.s (.r [4]) .z))))
theorem F_ref9_Load.eq (f22_ : Sl → Heap → (Sl → Heap → Prop) → Prop) (s1 s2 s3 : Int) (s4 : Sl) (span5 : Int) (h : Heap) (K : Value → Heap → Prop) : F_ref9_Load_of f22_ s1 s2 s3 s4 span5 h (fun (r0 : Option Addr) (h : Heap) => K (.pointer r0) h) =
    den Try.prog (fn1 22 (E_ref0_Copy_of f22_) noFns) Try.f71.ntmps plan71 (bodyOf Try.f71) (args0 0 [(.agg #[.int .u64 s1, .int .u64 s2, .int .u64 s3, .slice s4.ptr s4.len s4.cap] : Value), (.int .i64 span5 : Value)]) h ⟨fun env h => dRes Try.prog Try.f71.results.toList env h K, fun _ _ _ => False, fun env h => dRes Try.prog Try.f71.results.toList env h K⟩ := by kernel_rfl
def E_ref9_Load_of (f : Int → Int → Int → Sl → Int → Heap → (Option Addr → Heap → Prop) → Prop) : List Value → Heap → (Value → Heap → Prop) → Prop
  | [v0, v1], h, K => vAgg v0 fun cs0 => decs [.int .u64, .int .u64, .int .u64, .sl] cs0.toList fun (s1 s2 s3 : Int) (s4 : Sl) =>
  dec1 (.int .i64) v1 fun (span5 : Int) =>
  f s1 s2 s3 s4 span5 h (fun (r0 : Option Addr) (h : Heap) => K (.pointer r0) h)
  | _, _, _ => False
abbrev E_ref9_Load := E_ref9_Load_of F_ref9_Load
theorem E_ref9_Load.right : IsRight Try.prog 71 E_ref9_Load := by
  refine isRight fun vs K w hh => ?_
  match vs, hh with
  | [v0, v1], hh =>
    unfold E_ref9_Load E_ref9_Load_of at hh
    replace hh := vAgg_sound hh; obtain ⟨cs0, rfl, hh⟩ := hh
    replace hh := decs_cons hh; obtain ⟨s1, l0_0, e0_0, hh⟩ := hh
    replace hh := decs_cons hh; obtain ⟨s2, l0_1, e0_1, hh⟩ := hh
    replace hh := decs_cons hh; obtain ⟨s3, l0_2, e0_2, hh⟩ := hh
    replace hh := decs_cons hh; obtain ⟨s4, l0_3, e0_3, hh⟩ := hh
    replace hh := decs_nil hh; obtain ⟨rfl, hh⟩ := hh
    subst e0_3
    subst e0_2
    subst e0_1
    have ec0 := toArray_eq e0_0
    subst ec0
    replace hh := dec1_sound hh; obtain ⟨span5, rfl, hh⟩ := hh
    unfold F_ref9_Load at hh
    exact calls_den (fn1_right ok22 E_ref0_Copy.right noFns_right) plan71 _ w K Try.func71 (by kernel_rfl) (by kernel_rfl) (Eq.mp (F_ref9_Load.eq F_ref0_Copy s1 s2 s3 s4 span5 w.heap K) hh)
theorem ok71 : okFn Try.prog 71 = true := by kernel_rfl
end Go.Proofs.Ytcbelendjpnmiaa.V
namespace Go.Proofs.Ytcbelendjpnmiaa.V
open Go Go.RowKit
set_option linter.unusedVariables false
set_option maxRecDepth 100000
def F_ref0_EqMsg_of (f43_ : Sl → Sl → Heap → (Int → Heap → Prop) → Prop) (a1 a2 a3 a4 a5 a6 a7 a8 a9 a10 : Int) (a11 : Sl) (a12 a13 : Int) (a14 a15 : ByteArray) (a16 a17 a18 a19 a20 a21 a22 b23 b24 b25 b26 b27 b28 b29 b30 b31 b32 : Int) (b33 : Sl) (b34 b35 : Int) (b36 b37 : ByteArray) (b38 b39 b40 b41 b42 b43 b44 : Int) (h : Heap) (Q : Bool → Heap → Prop) : Prop :=
  al 42 [.int .i64 a1, .int .i64 a2, .int .i64 a3, .int .i64 a4, .int .u64 a5, .int .u64 a6, .int .u64 a7, .int .u64 a8, .int .i64 a9, .int .u64 a10, .slice a11.ptr a11.len a11.cap, .int .i64 a12, .int .u64 a13, .string a14, .string a15, .int .u64 a16, .int .u64 a17, .int .u64 a18, .int .i64 a19, .int .i64 a20, .int .i64 a21, .int .i64 a22] h fun (a45 : Addr) (h46 : Heap) =>
  al 42 [.int .i64 b23, .int .i64 b24, .int .i64 b25, .int .i64 b26, .int .u64 b27, .int .u64 b28, .int .u64 b29, .int .u64 b30, .int .i64 b31, .int .u64 b32, .slice b33.ptr b33.len b33.cap, .int .i64 b34, .int .u64 b35, .string b36, .string b37, .int .u64 b38, .int .u64 b39, .int .u64 b40, .int .i64 b41, .int .i64 b42, .int .i64 b43, .int .i64 b44] h46 fun (a47 : Addr) (h48 : Heap) =>
  jn [(4, .one .bool)] (fun (x96 : Bool) (h97 : Heap) =>
  Q x96 h97) (fun (j49 : Bool → Heap → Prop) =>
  ld [.int .i64, .int .i64, .int .i64, .int .i64] (a45.add 0) h48 fun (v50 v51 v52 v53 : Int) =>
  ld [.int .i64, .int .i64, .int .i64, .int .i64] (a47.add 0) h48 fun (v54 v55 v56 v57 : Int) =>
  brr ((v50 == v54) && ((v51 == v55) && ((v52 == v56) && ((v53 == v57) && (true)))))
  (ld [.int .u64] (a45.add 4) h48 fun (v58 : Int) =>
  ld [.int .u64] (a47.add 4) h48 fun (v59 : Int) =>
  brr (v58 == v59)
  (ld [.int .u64, .int .u64] (a45.add 5) h48 fun (v60 v61 : Int) =>
  ld [.int .u64, .int .u64] (a47.add 5) h48 fun (v62 v63 : Int) =>
  brr ((v60 == v62) && ((v61 == v63) && (true)))
  (ld [.int .u64] (a45.add 7) h48 fun (v64 : Int) =>
  ld [.int .u64] (a47.add 7) h48 fun (v65 : Int) =>
  brr (v64 == v65)
  (ld [.int .i64] (a45.add 8) h48 fun (v66 : Int) =>
  ld [.int .i64] (a47.add 8) h48 fun (v67 : Int) =>
  brr (v66 == v67)
  (ld [.int .u64] (a45.add 9) h48 fun (v68 : Int) =>
  ld [.int .u64] (a47.add 9) h48 fun (v69 : Int) =>
  brr (v68 == v69)
  (ld [.sl] (a45.add 10) h48 fun (v70 : Sl) =>
  ld [.sl] (a47.add 10) h48 fun (v71 : Sl) =>
  f43_ v70 v71 h48 fun (r72 : Int) (h73 : Heap) =>
  brr (r72 == 0)
  (ld [.int .i64] (a45.add 11) h73 fun (v74 : Int) =>
  ld [.int .i64] (a47.add 11) h73 fun (v75 : Int) =>
  brr (v74 == v75)
  (ld [.int .u64] (a45.add 12) h73 fun (v76 : Int) =>
  ld [.int .u64] (a47.add 12) h73 fun (v77 : Int) =>
  brr (v76 == v77)
  (ld [.str] (a45.add 13) h73 fun (v78 : ByteArray) =>
  ld [.str] (a47.add 13) h73 fun (v79 : ByteArray) =>
  brr (v78.toList == v79.toList)
  (ld [.str] (a45.add 14) h73 fun (v80 : ByteArray) =>
  ld [.str] (a47.add 14) h73 fun (v81 : ByteArray) =>
  brr (v80.toList == v81.toList)
  (ld [.int .u64] (a45.add 15) h73 fun (v82 : Int) =>
  ld [.int .u64] (a47.add 15) h73 fun (v83 : Int) =>
  brr (v82 == v83)
  (ld [.int .u64, .int .u64] (a45.add 16) h73 fun (v84 v85 : Int) =>
  ld [.int .u64, .int .u64] (a47.add 16) h73 fun (v86 v87 : Int) =>
  brr ((v84 == v86) && ((v85 == v87) && (true)))
  (ld [.int .i64] (a45.add 18) h73 fun (v88 : Int) =>
  ld [.int .i64] (a47.add 18) h73 fun (v89 : Int) =>
  brr (v88 == v89)
  (ld [.int .i64] (a45.add 19) h73 fun (v90 : Int) =>
  ld [.int .i64] (a47.add 19) h73 fun (v91 : Int) =>
  brr (v90 == v91)
  (ld [.int .i64] (a45.add 20) h73 fun (v92 : Int) =>
  ld [.int .i64] (a47.add 20) h73 fun (v93 : Int) =>
  brr (v92 == v93)
  (ld [.int .i64] (a45.add 21) h73 fun (v94 : Int) =>
  ld [.int .i64] (a47.add 21) h73 fun (v95 : Int) =>
  j49 (v94 == v95) h73)
  (j49 false h73))
  (j49 false h73))
  (j49 false h73))
  (j49 false h73))
  (j49 false h73))
  (j49 false h73))
  (j49 false h73))
  (j49 false h73))
  (j49 false h73))
  (j49 false h73))
  (j49 false h48))
  (j49 false h48))
  (j49 false h48))
  (j49 false h48))
  (j49 false h48))
  (j49 false h48))
def F_ref0_EqMsg (a1 a2 a3 a4 a5 a6 a7 a8 a9 a10 : Int) (a11 : Sl) (a12 a13 : Int) (a14 a15 : ByteArray) (a16 a17 a18 a19 a20 a21 a22 b23 b24 b25 b26 b27 b28 b29 b30 b31 b32 : Int) (b33 : Sl) (b34 b35 : Int) (b36 b37 : ByteArray) (b38 b39 b40 b41 b42 b43 b44 : Int) (h : Heap) (Q : Bool → Heap → Prop) : Prop := F_ref0_EqMsg_of F_ref0_Cmp a1 a2 a3 a4 a5 a6 a7 a8 a9 a10 a11 a12 a13 a14 a15 a16 a17 a18 a19 a20 a21 a22 b23 b24 b25 b26 b27 b28 b29 b30 b31 b32 b33 b34 b35 b36 b37 b38 b39 b40 b41 b42 b43 b44 h Q
def plan29 : Plan := .s (.r [2, 3]) (.s (.rj [(4, .one .bool)] []) .z)
theorem F_ref0_EqMsg.eq (f43_ : Sl → Sl → Heap → (Int → Heap → Prop) → Prop) (a1 a2 a3 a4 a5 a6 a7 a8 a9 a10 : Int) (a11 : Sl) (a12 a13 : Int) (a14 a15 : ByteArray) (a16 a17 a18 a19 a20 a21 a22 b23 b24 b25 b26 b27 b28 b29 b30 b31 b32 : Int) (b33 : Sl) (b34 b35 : Int) (b36 b37 : ByteArray) (b38 b39 b40 b41 b42 b43 b44 : Int) (h : Heap) (K : Value → Heap → Prop) : F_ref0_EqMsg_of f43_ a1 a2 a3 a4 a5 a6 a7 a8 a9 a10 a11 a12 a13 a14 a15 a16 a17 a18 a19 a20 a21 a22 b23 b24 b25 b26 b27 b28 b29 b30 b31 b32 b33 b34 b35 b36 b37 b38 b39 b40 b41 b42 b43 b44 h (fun (r0 : Bool) (h : Heap) => K (.bool r0) h) =
    den Try.prog (fn1 43 (E_ref0_Cmp_of f43_) noFns) Try.f29.ntmps plan29 (bodyOf Try.f29) (args0 0 [(.agg #[.int .i64 a1, .int .i64 a2, .int .i64 a3, .int .i64 a4, .int .u64 a5, .int .u64 a6, .int .u64 a7, .int .u64 a8, .int .i64 a9, .int .u64 a10, .slice a11.ptr a11.len a11.cap, .int .i64 a12, .int .u64 a13, .string a14, .string a15, .int .u64 a16, .int .u64 a17, .int .u64 a18, .int .i64 a19, .int .i64 a20, .int .i64 a21, .int .i64 a22] : Value), (.agg #[.int .i64 b23, .int .i64 b24, .int .i64 b25, .int .i64 b26, .int .u64 b27, .int .u64 b28, .int .u64 b29, .int .u64 b30, .int .i64 b31, .int .u64 b32, .slice b33.ptr b33.len b33.cap, .int .i64 b34, .int .u64 b35, .string b36, .string b37, .int .u64 b38, .int .u64 b39, .int .u64 b40, .int .i64 b41, .int .i64 b42, .int .i64 b43, .int .i64 b44] : Value)]) h ⟨fun env h => dRes Try.prog Try.f29.results.toList env h K, fun _ _ _ => False, fun env h => dRes Try.prog Try.f29.results.toList env h K⟩ := by kernel_rfl
def E_ref0_EqMsg_of (f : Int → Int → Int → Int → Int → Int → Int → Int → Int → Int → Sl → Int → Int → ByteArray → ByteArray → Int → Int → Int → Int → Int → Int → Int → Int → Int → Int → Int → Int → Int → Int → Int → Int → Int → Sl → Int → Int → ByteArray → ByteArray → Int → Int → Int → Int → Int → Int → Int → Heap → (Bool → Heap → Prop) → Prop) : List Value → Heap → (Value → Heap → Prop) → Prop
  | [v0, v1], h, K => vAgg v0 fun cs0 => decs [.int .i64, .int .i64, .int .i64, .int .i64, .int .u64, .int .u64, .int .u64, .int .u64, .int .i64, .int .u64, .sl, .int .i64, .int .u64, .str, .str, .int .u64, .int .u64, .int .u64, .int .i64, .int .i64, .int .i64, .int .i64] cs0.toList fun (a1 a2 a3 a4 a5 a6 a7 a8 a9 a10 : Int) (a11 : Sl) (a12 a13 : Int) (a14 a15 : ByteArray) (a16 a17 a18 a19 a20 a21 a22 : Int) =>
  vAgg v1 fun cs1 => decs [.int .i64, .int .i64, .int .i64, .int .i64, .int .u64, .int .u64, .int .u64, .int .u64, .int .i64, .int .u64, .sl, .int .i64, .int .u64, .str, .str, .int .u64, .int .u64, .int .u64, .int .i64, .int .i64, .int .i64, .int .i64] cs1.toList fun (b23 b24 b25 b26 b27 b28 b29 b30 b31 b32 : Int) (b33 : Sl) (b34 b35 : Int) (b36 b37 : ByteArray) (b38 b39 b40 b41 b42 b43 b44 : Int) =>
  f a1 a2 a3 a4 a5 a6 a7 a8 a9 a10 a11 a12 a13 a14 a15 a16 a17 a18 a19 a20 a21 a22 b23 b24 b25 b26 b27 b28 b29 b30 b31 b32 b33 b34 b35 b36 b37 b38 b39 b40 b41 b42 b43 b44 h (fun (r0 : Bool) (h : Heap) => K (.bool r0) h)
  | _, _, _ => False
abbrev E_ref0_EqMsg := E_ref0_EqMsg_of F_ref0_EqMsg
theorem E_ref0_EqMsg.right : IsRight Try.prog 29 E_ref0_EqMsg := by
  refine isRight fun vs K w hh => ?_
  match vs, hh with
  | [v0, v1], hh =>
    unfold E_ref0_EqMsg E_ref0_EqMsg_of at hh
    replace hh := vAgg_sound hh; obtain ⟨cs0, rfl, hh⟩ := hh
    replace hh := decs_cons hh; obtain ⟨a1, l0_0, e0_0, hh⟩ := hh
    replace hh := decs_cons hh; obtain ⟨a2, l0_1, e0_1, hh⟩ := hh
    replace hh := decs_cons hh; obtain ⟨a3, l0_2, e0_2, hh⟩ := hh
    replace hh := decs_cons hh; obtain ⟨a4, l0_3, e0_3, hh⟩ := hh
    replace hh := decs_cons hh; obtain ⟨a5, l0_4, e0_4, hh⟩ := hh
    replace hh := decs_cons hh; obtain ⟨a6, l0_5, e0_5, hh⟩ := hh
    replace hh := decs_cons hh; obtain ⟨a7, l0_6, e0_6, hh⟩ := hh
    replace hh := decs_cons hh; obtain ⟨a8, l0_7, e0_7, hh⟩ := hh
    replace hh := decs_cons hh; obtain ⟨a9, l0_8, e0_8, hh⟩ := hh
    replace hh := decs_cons hh; obtain ⟨a10, l0_9, e0_9, hh⟩ := hh
    replace hh := decs_cons hh; obtain ⟨a11, l0_10, e0_10, hh⟩ := hh
    replace hh := decs_cons hh; obtain ⟨a12, l0_11, e0_11, hh⟩ := hh
    replace hh := decs_cons hh; obtain ⟨a13, l0_12, e0_12, hh⟩ := hh
    replace hh := decs_cons hh; obtain ⟨a14, l0_13, e0_13, hh⟩ := hh
    replace hh := decs_cons hh; obtain ⟨a15, l0_14, e0_14, hh⟩ := hh
    replace hh := decs_cons hh; obtain ⟨a16, l0_15, e0_15, hh⟩ := hh
    replace hh := decs_cons hh; obtain ⟨a17, l0_16, e0_16, hh⟩ := hh
    replace hh := decs_cons hh; obtain ⟨a18, l0_17, e0_17, hh⟩ := hh
    replace hh := decs_cons hh; obtain ⟨a19, l0_18, e0_18, hh⟩ := hh
    replace hh := decs_cons hh; obtain ⟨a20, l0_19, e0_19, hh⟩ := hh
    replace hh := decs_cons hh; obtain ⟨a21, l0_20, e0_20, hh⟩ := hh
    replace hh := decs_cons hh; obtain ⟨a22, l0_21, e0_21, hh⟩ := hh
    replace hh := decs_nil hh; obtain ⟨rfl, hh⟩ := hh
    subst e0_21
    subst e0_20
    subst e0_19
    subst e0_18
    subst e0_17
    subst e0_16
    subst e0_15
    subst e0_14
    subst e0_13
    subst e0_12
    subst e0_11
    subst e0_10
    subst e0_9
    subst e0_8
    subst e0_7
    subst e0_6
    subst e0_5
    subst e0_4
    subst e0_3
    subst e0_2
    subst e0_1
    have ec0 := toArray_eq e0_0
    subst ec0
    replace hh := vAgg_sound hh; obtain ⟨cs1, rfl, hh⟩ := hh
    replace hh := decs_cons hh; obtain ⟨b23, l1_0, e1_0, hh⟩ := hh
    replace hh := decs_cons hh; obtain ⟨b24, l1_1, e1_1, hh⟩ := hh
    replace hh := decs_cons hh; obtain ⟨b25, l1_2, e1_2, hh⟩ := hh
    replace hh := decs_cons hh; obtain ⟨b26, l1_3, e1_3, hh⟩ := hh
    replace hh := decs_cons hh; obtain ⟨b27, l1_4, e1_4, hh⟩ := hh
    replace hh := decs_cons hh; obtain ⟨b28, l1_5, e1_5, hh⟩ := hh
    replace hh := decs_cons hh; obtain ⟨b29, l1_6, e1_6, hh⟩ := hh
    replace hh := decs_cons hh; obtain ⟨b30, l1_7, e1_7, hh⟩ := hh
    replace hh := decs_cons hh; obtain ⟨b31, l1_8, e1_8, hh⟩ := hh
    replace hh := decs_cons hh; obtain ⟨b32, l1_9, e1_9, hh⟩ := hh
    replace hh := decs_cons hh; obtain ⟨b33, l1_10, e1_10, hh⟩ := hh
    replace hh := decs_cons hh; obtain ⟨b34, l1_11, e1_11, hh⟩ := hh
    replace hh := decs_cons hh; obtain ⟨b35, l1_12, e1_12, hh⟩ := hh
    replace hh := decs_cons hh; obtain ⟨b36, l1_13, e1_13, hh⟩ := hh
    replace hh := decs_cons hh; obtain ⟨b37, l1_14, e1_14, hh⟩ := hh
    replace hh := decs_cons hh; obtain ⟨b38, l1_15, e1_15, hh⟩ := hh
    replace hh := decs_cons hh; obtain ⟨b39, l1_16, e1_16, hh⟩ := hh
    replace hh := decs_cons hh; obtain ⟨b40, l1_17, e1_17, hh⟩ := hh
    replace hh := decs_cons hh; obtain ⟨b41, l1_18, e1_18, hh⟩ := hh
    replace hh := decs_cons hh; obtain ⟨b42, l1_19, e1_19, hh⟩ := hh
    replace hh := decs_cons hh; obtain ⟨b43, l1_20, e1_20, hh⟩ := hh
    replace hh := decs_cons hh; obtain ⟨b44, l1_21, e1_21, hh⟩ := hh
    replace hh := decs_nil hh; obtain ⟨rfl, hh⟩ := hh
    subst e1_21
    subst e1_20
    subst e1_19
    subst e1_18
    subst e1_17
    subst e1_16
    subst e1_15
    subst e1_14
    subst e1_13
    subst e1_12
    subst e1_11
    subst e1_10
    subst e1_9
    subst e1_8
    subst e1_7
    subst e1_6
    subst e1_5
    subst e1_4
    subst e1_3
    subst e1_2
    subst e1_1
    have ec1 := toArray_eq e1_0
    subst ec1
    unfold F_ref0_EqMsg at hh
    exact calls_den (fn1_right ok43 E_ref0_Cmp.right noFns_right) plan29 _ w K Try.func29 (by kernel_rfl) (by kernel_rfl) (Eq.mp (F_ref0_EqMsg.eq F_ref0_Cmp a1 a2 a3 a4 a5 a6 a7 a8 a9 a10 a11 a12 a13 a14 a15 a16 a17 a18 a19 a20 a21 a22 b23 b24 b25 b26 b27 b28 b29 b30 b31 b32 b33 b34 b35 b36 b37 b38 b39 b40 b41 b42 b43 b44 w.heap K) hh)
theorem ok29 : okFn Try.prog 29 = true := by kernel_rfl
end Go.Proofs.Ytcbelendjpnmiaa.V
namespace Go.Proofs.Ytcbelendjpnmiaa.V
open Go Go.RowKit
set_option linter.unusedVariables false
set_option maxRecDepth 100000
def F_ref0_EqStored_of (f43_ : Sl → Sl → Heap → (Int → Heap → Prop) → Prop) (a1 a2 a3 : Int) (a4 : Sl) (b5 b6 b7 : Int) (b8 : Sl) (h : Heap) (Q : Bool → Heap → Prop) : Prop :=
  al 44 [.int .u64 a1, .int .u64 a2, .int .u64 a3, .slice a4.ptr a4.len a4.cap] h fun (a9 : Addr) (h10 : Heap) =>
  al 44 [.int .u64 b5, .int .u64 b6, .int .u64 b7, .slice b8.ptr b8.len b8.cap] h10 fun (a11 : Addr) (h12 : Heap) =>
  jn [(4, .one .bool)] (fun (x24 : Bool) (h25 : Heap) =>
  Q x24 h25) (fun (j13 : Bool → Heap → Prop) =>
  ld [.int .u64] (a9.add 0) h12 fun (v14 : Int) =>
  ld [.int .u64] (a11.add 0) h12 fun (v15 : Int) =>
  brr (v14 == v15)
  (ld [.int .u64, .int .u64] (a9.add 1) h12 fun (v16 v17 : Int) =>
  ld [.int .u64, .int .u64] (a11.add 1) h12 fun (v18 v19 : Int) =>
  brr ((v16 == v18) && ((v17 == v19) && (true)))
  (ld [.sl] (a9.add 3) h12 fun (v20 : Sl) =>
  ld [.sl] (a11.add 3) h12 fun (v21 : Sl) =>
  f43_ v20 v21 h12 fun (r22 : Int) (h23 : Heap) =>
  j13 (r22 == 0) h23)
  (j13 false h12))
  (j13 false h12))
def F_ref0_EqStored (a1 a2 a3 : Int) (a4 : Sl) (b5 b6 b7 : Int) (b8 : Sl) (h : Heap) (Q : Bool → Heap → Prop) : Prop := F_ref0_EqStored_of F_ref0_Cmp a1 a2 a3 a4 b5 b6 b7 b8 h Q
def plan26 : Plan := .s (.r [2, 3]) (.s (.rj [(4, .one .bool)] []) .z)
theorem F_ref0_EqStored.eq (f43_ : Sl → Sl → Heap → (Int → Heap → Prop) → Prop) (a1 a2 a3 : Int) (a4 : Sl) (b5 b6 b7 : Int) (b8 : Sl) (h : Heap) (K : Value → Heap → Prop) : F_ref0_EqStored_of f43_ a1 a2 a3 a4 b5 b6 b7 b8 h (fun (r0 : Bool) (h : Heap) => K (.bool r0) h) =
    den Try.prog (fn1 43 (E_ref0_Cmp_of f43_) noFns) Try.f26.ntmps plan26 (bodyOf Try.f26) (args0 0 [(.agg #[.int .u64 a1, .int .u64 a2, .int .u64 a3, .slice a4.ptr a4.len a4.cap] : Value), (.agg #[.int .u64 b5, .int .u64 b6, .int .u64 b7, .slice b8.ptr b8.len b8.cap] : Value)]) h ⟨fun env h => dRes Try.prog Try.f26.results.toList env h K, fun _ _ _ => False, fun env h => dRes Try.prog Try.f26.results.toList env h K⟩ := by kernel_rfl
def E_ref0_EqStored_of (f : Int → Int → Int → Sl → Int → Int → Int → Sl → Heap → (Bool → Heap → Prop) → Prop) : List Value → Heap → (Value → Heap → Prop) → Prop
  | [v0, v1], h, K => vAgg v0 fun cs0 => decs [.int .u64, .int .u64, .int .u64, .sl] cs0.toList fun (a1 a2 a3 : Int) (a4 : Sl) =>
  vAgg v1 fun cs1 => decs [.int .u64, .int .u64, .int .u64, .sl] cs1.toList fun (b5 b6 b7 : Int) (b8 : Sl) =>
  f a1 a2 a3 a4 b5 b6 b7 b8 h (fun (r0 : Bool) (h : Heap) => K (.bool r0) h)
  | _, _, _ => False
abbrev E_ref0_EqStored := E_ref0_EqStored_of F_ref0_EqStored
theorem E_ref0_EqStored.right : IsRight Try.prog 26 E_ref0_EqStored := by
  refine isRight fun vs K w hh => ?_
  match vs, hh with
  | [v0, v1], hh =>
    unfold E_ref0_EqStored E_ref0_EqStored_of at hh
    replace hh := vAgg_sound hh; obtain ⟨cs0, rfl, hh⟩ := hh
    replace hh := decs_cons hh; obtain ⟨a1, l0_0, e0_0, hh⟩ := hh
    replace hh := decs_cons hh; obtain ⟨a2, l0_1, e0_1, hh⟩ := hh
    replace hh := decs_cons hh; obtain ⟨a3, l0_2, e0_2, hh⟩ := hh
    replace hh := decs_cons hh; obtain ⟨a4, l0_3, e0_3, hh⟩ := hh
    replace hh := decs_nil hh; obtain ⟨rfl, hh⟩ := hh
    subst e0_3
    subst e0_2
    subst e0_1
    have ec0 := toArray_eq e0_0
    subst ec0
    replace hh := vAgg_sound hh; obtain ⟨cs1, rfl, hh⟩ := hh
    replace hh := decs_cons hh; obtain ⟨b5, l1_0, e1_0, hh⟩ := hh
    replace hh := decs_cons hh; obtain ⟨b6, l1_1, e1_1, hh⟩ := hh
    replace hh := decs_cons hh; obtain ⟨b7, l1_2, e1_2, hh⟩ := hh
    replace hh := decs_cons hh; obtain ⟨b8, l1_3, e1_3, hh⟩ := hh
    replace hh := decs_nil hh; obtain ⟨rfl, hh⟩ := hh
    subst e1_3
    subst e1_2
    subst e1_1
    have ec1 := toArray_eq e1_0
    subst ec1
    unfold F_ref0_EqStored at hh
    exact calls_den (fn1_right ok43 E_ref0_Cmp.right noFns_right) plan26 _ w K Try.func26 (by kernel_rfl) (by kernel_rfl) (Eq.mp (F_ref0_EqStored.eq F_ref0_Cmp a1 a2 a3 a4 b5 b6 b7 b8 w.heap K) hh)
theorem ok26 : okFn Try.prog 26 = true := by kernel_rfl
end Go.Proofs.Ytcbelendjpnmiaa.V
namespace Go.Proofs.Ytcbelendjpnmiaa.V
open Go Go.RowKit
set_option linter.unusedVariables false
set_option maxRecDepth 100000
def F_ref0_CopyMsg_of (f22_ : Sl → Heap → (Sl → Heap → Prop) → Prop) (m1 m2 m3 m4 m5 m6 m7 m8 m9 m10 : Int) (m11 : Sl) (m12 m13 : Int) (m14 m15 : ByteArray) (m16 m17 m18 m19 m20 m21 m22 : Int) (h : Heap) (Q : Int → Int → Int → Int → Int → Int → Int → Int → Int → Int → Sl → Int → Int → ByteArray → ByteArray → Int → Int → Int → Int → Int → Int → Int → Heap → Prop) : Prop :=
  al 42 [.int .i64 m1, .int .i64 m2, .int .i64 m3, .int .i64 m4, .int .u64 m5, .int .u64 m6, .int .u64 m7, .int .u64 m8, .int .i64 m9, .int .u64 m10, .slice m11.ptr m11.len m11.cap, .int .i64 m12, .int .u64 m13, .string m14, .string m15, .int .u64 m16, .int .u64 m17, .int .u64 m18, .int .i64 m19, .int .i64 m20, .int .i64 m21, .int .i64 m22] h fun (a23 : Addr) (h24 : Heap) =>
  al 42 [.int .i64 0, .int .i64 0, .int .i64 0, .int .i64 0, .int .u64 0, .int .u64 0, .int .u64 0, .int .u64 0, .int .i64 0, .int .u64 0, .slice none 0 0, .int .i64 0, .int .u64 0, .string (⟨#[]⟩ : ByteArray), .string (⟨#[]⟩ : ByteArray), .int .u64 0, .int .u64 0, .int .u64 0, .int .i64 0, .int .i64 0, .int .i64 0, .int .i64 0] h24 fun (a25 : Addr) (h26 : Heap) =>
  ld [.sl] (a23.add 10) h26 fun (v27 : Sl) =>
  f22_ v27 h26 fun (r28 : Sl) (h29 : Heap) =>
  st (a23.add 10) [.slice r28.ptr r28.len r28.cap] h29 fun (h30 : Heap) =>
  ld [.int .i64, .int .i64, .int .i64, .int .i64, .int .u64, .int .u64, .int .u64, .int .u64, .int .i64, .int .u64, .sl, .int .i64, .int .u64, .str, .str, .int .u64, .int .u64, .int .u64, .int .i64, .int .i64, .int .i64, .int .i64] a23 h30 fun (v31 v32 v33 v34 v35 v36 v37 v38 v39 v40 : Int) (v41 : Sl) (v42 v43 : Int) (v44 v45 : ByteArray) (v46 v47 v48 v49 v50 v51 v52 : Int) =>
  st a25 [.int .i64 v31, .int .i64 v32, .int .i64 v33, .int .i64 v34, .int .u64 v35, .int .u64 v36, .int .u64 v37, .int .u64 v38, .int .i64 v39, .int .u64 v40, .slice v41.ptr v41.len v41.cap, .int .i64 v42, .int .u64 v43, .string v44, .string v45, .int .u64 v46, .int .u64 v47, .int .u64 v48, .int .i64 v49, .int .i64 v50, .int .i64 v51, .int .i64 v52] h30 fun (h53 : Heap) =>
  ld [.int .i64, .int .i64, .int .i64, .int .i64, .int .u64, .int .u64, .int .u64, .int .u64, .int .i64, .int .u64, .sl, .int .i64, .int .u64, .str, .str, .int .u64, .int .u64, .int .u64, .int .i64, .int .i64, .int .i64, .int .i64] a25 h53 fun (v54 v55 v56 v57 v58 v59 v60 v61 v62 v63 : Int) (v64 : Sl) (v65 v66 : Int) (v67 v68 : ByteArray) (v69 v70 v71 v72 v73 v74 v75 : Int) =>
  Q v54 v55 v56 v57 v58 v59 v60 v61 v62 v63 v64 v65 v66 v67 v68 v69 v70 v71 v72 v73 v74 v75 h53
def F_ref0_CopyMsg (m1 m2 m3 m4 m5 m6 m7 m8 m9 m10 : Int) (m11 : Sl) (m12 m13 : Int) (m14 m15 : ByteArray) (m16 m17 m18 m19 m20 m21 m22 : Int) (h : Heap) (Q : Int → Int → Int → Int → Int → Int → Int → Int → Int → Int → Sl → Int → Int → ByteArray → ByteArray → Int → Int → Int → Int → Int → Int → Int → Heap → Prop) : Prop := F_ref0_CopyMsg_of F_ref0_Copy m1 m2 m3 m4 m5 m6 m7 m8 m9 m10 m11 m12 m13 m14 m15 m16 m17 m18 m19 m20 m21 m22 h Q
def plan12 : Plan := .s (.r [1, 2]) (.s (.r [1, 2]) (.s (.r [2]) .z))
theorem F_ref0_CopyMsg.eq (f22_ : Sl → Heap → (Sl → Heap → Prop) → Prop) (m1 m2 m3 m4 m5 m6 m7 m8 m9 m10 : Int) (m11 : Sl) (m12 m13 : Int) (m14 m15 : ByteArray) (m16 m17 m18 m19 m20 m21 m22 : Int) (h : Heap) (K : Value → Heap → Prop) : F_ref0_CopyMsg_of f22_ m1 m2 m3 m4 m5 m6 m7 m8 m9 m10 m11 m12 m13 m14 m15 m16 m17 m18 m19 m20 m21 m22 h (fun (r0 r1 r2 r3 r4 r5 r6 r7 r8 r9 : Int) (r10 : Sl) (r11 r12 : Int) (r13 r14 : ByteArray) (r15 r16 r17 r18 r19 r20 r21 : Int) (h : Heap) => K (.agg #[.int .i64 r0, .int .i64 r1, .int .i64 r2, .int .i64 r3, .int .u64 r4, .int .u64 r5, .int .u64 r6, .int .u64 r7, .int .i64 r8, .int .u64 r9, .slice r10.ptr r10.len r10.cap, .int .i64 r11, .int .u64 r12, .string r13, .string r14, .int .u64 r15, .int .u64 r16, .int .u64 r17, .int .i64 r18, .int .i64 r19, .int .i64 r20, .int .i64 r21]) h) =
    den Try.prog (fn1 22 (E_ref0_Copy_of f22_) noFns) Try.f12.ntmps plan12 (bodyOf Try.f12) (args0 0 [(.agg #[.int .i64 m1, .int .i64 m2, .int .i64 m3, .int .i64 m4, .int .u64 m5, .int .u64 m6, .int .u64 m7, .int .u64 m8, .int .i64 m9, .int .u64 m10, .slice m11.ptr m11.len m11.cap, .int .i64 m12, .int .u64 m13, .string m14, .string m15, .int .u64 m16, .int .u64 m17, .int .u64 m18, .int .i64 m19, .int .i64 m20, .int .i64 m21, .int .i64 m22] : Value)]) h ⟨fun env h => dRes Try.prog Try.f12.results.toList env h K, fun _ _ _ => False, fun env h => dRes Try.prog Try.f12.results.toList env h K⟩ := by kernel_rfl
def E_ref0_CopyMsg_of (f : Int → Int → Int → Int → Int → Int → Int → Int → Int → Int → Sl → Int → Int → ByteArray → ByteArray → Int → Int → Int → Int → Int → Int → Int → Heap → (Int → Int → Int → Int → Int → Int → Int → Int → Int → Int → Sl → Int → Int → ByteArray → ByteArray → Int → Int → Int → Int → Int → Int → Int → Heap → Prop) → Prop) : List Value → Heap → (Value → Heap → Prop) → Prop
  | [v0], h, K => vAgg v0 fun cs0 => decs [.int .i64, .int .i64, .int .i64, .int .i64, .int .u64, .int .u64, .int .u64, .int .u64, .int .i64, .int .u64, .sl, .int .i64, .int .u64, .str, .str, .int .u64, .int .u64, .int .u64, .int .i64, .int .i64, .int .i64, .int .i64] cs0.toList fun (m1 m2 m3 m4 m5 m6 m7 m8 m9 m10 : Int) (m11 : Sl) (m12 m13 : Int) (m14 m15 : ByteArray) (m16 m17 m18 m19 m20 m21 m22 : Int) =>
  f m1 m2 m3 m4 m5 m6 m7 m8 m9 m10 m11 m12 m13 m14 m15 m16 m17 m18 m19 m20 m21 m22 h (fun (r0 r1 r2 r3 r4 r5 r6 r7 r8 r9 : Int) (r10 : Sl) (r11 r12 : Int) (r13 r14 : ByteArray) (r15 r16 r17 r18 r19 r20 r21 : Int) (h : Heap) => K (.agg #[.int .i64 r0, .int .i64 r1, .int .i64 r2, .int .i64 r3, .int .u64 r4, .int .u64 r5, .int .u64 r6, .int .u64 r7, .int .i64 r8, .int .u64 r9, .slice r10.ptr r10.len r10.cap, .int .i64 r11, .int .u64 r12, .string r13, .string r14, .int .u64 r15, .int .u64 r16, .int .u64 r17, .int .i64 r18, .int .i64 r19, .int .i64 r20, .int .i64 r21]) h)
  | _, _, _ => False
abbrev E_ref0_CopyMsg := E_ref0_CopyMsg_of F_ref0_CopyMsg
theorem E_ref0_CopyMsg.right : IsRight Try.prog 12 E_ref0_CopyMsg := by
  refine isRight fun vs K w hh => ?_
  match vs, hh with
  | [v0], hh =>
    unfold E_ref0_CopyMsg E_ref0_CopyMsg_of at hh
    replace hh := vAgg_sound hh; obtain ⟨cs0, rfl, hh⟩ := hh
    replace hh := decs_cons hh; obtain ⟨m1, l0_0, e0_0, hh⟩ := hh
    replace hh := decs_cons hh; obtain ⟨m2, l0_1, e0_1, hh⟩ := hh
    replace hh := decs_cons hh; obtain ⟨m3, l0_2, e0_2, hh⟩ := hh
    replace hh := decs_cons hh; obtain ⟨m4, l0_3, e0_3, hh⟩ := hh
    replace hh := decs_cons hh; obtain ⟨m5, l0_4, e0_4, hh⟩ := hh
    replace hh := decs_cons hh; obtain ⟨m6, l0_5, e0_5, hh⟩ := hh
    replace hh := decs_cons hh; obtain ⟨m7, l0_6, e0_6, hh⟩ := hh
    replace hh := decs_cons hh; obtain ⟨m8, l0_7, e0_7, hh⟩ := hh
    replace hh := decs_cons hh; obtain ⟨m9, l0_8, e0_8, hh⟩ := hh
    replace hh := decs_cons hh; obtain ⟨m10, l0_9, e0_9, hh⟩ := hh
    replace hh := decs_cons hh; obtain ⟨m11, l0_10, e0_10, hh⟩ := hh
    replace hh := decs_cons hh; obtain ⟨m12, l0_11, e0_11, hh⟩ := hh
    replace hh := decs_cons hh; obtain ⟨m13, l0_12, e0_12, hh⟩ := hh
    replace hh := decs_cons hh; obtain ⟨m14, l0_13, e0_13, hh⟩ := hh
    replace hh := decs_cons hh; obtain ⟨m15, l0_14, e0_14, hh⟩ := hh
    replace hh := decs_cons hh; obtain ⟨m16, l0_15, e0_15, hh⟩ := hh
    replace hh := decs_cons hh; obtain ⟨m17, l0_16, e0_16, hh⟩ := hh
    replace hh := decs_cons hh; obtain ⟨m18, l0_17, e0_17, hh⟩ := hh
    replace hh := decs_cons hh; obtain ⟨m19, l0_18, e0_18, hh⟩ := hh
    replace hh := decs_cons hh; obtain ⟨m20, l0_19, e0_19, hh⟩ := hh
    replace hh := decs_cons hh; obtain ⟨m21, l0_20, e0_20, hh⟩ := hh
    replace hh := decs_cons hh; obtain ⟨m22, l0_21, e0_21, hh⟩ := hh
    replace hh := decs_nil hh; obtain ⟨rfl, hh⟩ := hh
    subst e0_21
    subst e0_20
    subst e0_19
    subst e0_18
    subst e0_17
    subst e0_16
    subst e0_15
    subst e0_14
    subst e0_13
    subst e0_12
    subst e0_11
    subst e0_10
    subst e0_9
    subst e0_8
    subst e0_7
    subst e0_6
    subst e0_5
    subst e0_4
    subst e0_3
    subst e0_2
    subst e0_1
    have ec0 := toArray_eq e0_0
    subst ec0
    unfold F_ref0_CopyMsg at hh
    exact calls_den (fn1_right ok22 E_ref0_Copy.right noFns_right) plan12 _ w K Try.func12 (by kernel_rfl) (by kernel_rfl) (Eq.mp (F_ref0_CopyMsg.eq F_ref0_Copy m1 m2 m3 m4 m5 m6 m7 m8 m9 m10 m11 m12 m13 m14 m15 m16 m17 m18 m19 m20 m21 m22 w.heap K) hh)
theorem ok12 : okFn Try.prog 12 = true := by kernel_rfl
end Go.Proofs.Ytcbelendjpnmiaa.V
/- The document's replica; messages and what is stored, compared and copied. -/
namespace Go.Proofs.Ytcbelendjpnmiaa.V
open Go Go.RowKit
set_option linter.unusedVariables false
set_option linter.unusedSimpArgs false
section
variable {h0 h : Heap} {L : List Res}
theorem F_ref9_Replica_Stored.is {p : Nat} {r : RS} {Q : Int → Int → Int → Sl → Heap → Prop} (ok : r.Ok) (O : Sat h0 h (repR p r :: L)) (k : ∀ s h', Sat h0 h' (buf 1 u8 s r.val :: repR p r :: L) → Q r.prom r.te r.ts s h') : F_ref9_Replica_Stored (some (pt p 0)) h Q := by
  rw [F_ref9_Replica_Stored.eq_1, F_ref9_Replica_Stored_of.eq_1]
  obtain ⟨v, O⟩ := O.rep
  repeat (first | (with_reducible refine al_id ?_); refine O.al fun _ h O => ?_ | (with_reducible refine nn_id ?_); refine ⟨_, rfl, ?_⟩ | (with_reducible refine ld_id ?_); (first | refine O.ld 0 rfl ?_ | refine O.ld 1 rfl ?_ | refine O.ld 2 rfl ?_ | refine O.ld 3 rfl ?_); (repeat (first | (with_reducible refine ldL_n ?_) | refine ldL_s ?_ | refine ldL_c ?_)) | (with_reducible refine st_ad (by first | (with_reducible rfl) | (simp only [pt_add, Nat.zero_add, Nat.add_zero, Nat.reduceAdd]; with_reducible rfl)) ?_); (first | refine O.st 0 rfl (by simp) rfl fun h O => ?_ | refine O.st 1 rfl (by simp) rfl fun h O => ?_ | refine O.st 2 rfl (by simp) rfl fun h O => ?_ | refine O.st 3 rfl (by simp) rfl fun h O => ?_); (dsimp only [V.put, List.set, List.length_cons, List.length_nil] at O) | (with_reducible refine ca_id ?_); (first | refine O.ca 0 1 rfl ?_ | refine O.ca 0 2 rfl ?_ | refine O.ca 1 1 rfl ?_ | refine O.ca 1 2 rfl ?_ | refine O.ca 2 1 rfl ?_ | refine O.ca 2 2 rfl ?_ | refine O.ca 3 1 rfl ?_ | refine O.ca 3 2 rfl ?_))
  have hv := ok.v
  refine F_ref0_Copy.is O (O.view 3 u8_len (by simp) rfl).1 (by omega) fun s h O _ _ => ?_
  repeat (first | (with_reducible refine al_id ?_); refine O.al fun _ h O => ?_ | (with_reducible refine nn_id ?_); refine ⟨_, rfl, ?_⟩ | (with_reducible refine ld_id ?_); (first | refine O.ld 0 rfl ?_ | refine O.ld 1 rfl ?_ | refine O.ld 2 rfl ?_ | refine O.ld 3 rfl ?_ | refine O.ld 4 rfl ?_); (repeat (first | (with_reducible refine ldL_n ?_) | refine ldL_s ?_ | refine ldL_c ?_)) | (with_reducible refine st_ad (by first | (with_reducible rfl) | (simp only [pt_add, Nat.zero_add, Nat.add_zero, Nat.reduceAdd]; with_reducible rfl)) ?_); (first | refine O.st 0 rfl (by simp) rfl fun h O => ?_ | refine O.st 1 rfl (by simp) rfl fun h O => ?_ | refine O.st 2 rfl (by simp) rfl fun h O => ?_ | refine O.st 3 rfl (by simp) rfl fun h O => ?_ | refine O.st 4 rfl (by simp) rfl fun h O => ?_); (dsimp only [V.put, List.set, List.length_cons, List.length_nil] at O) | (with_reducible refine ca_id ?_); (first | refine O.ca 0 1 rfl ?_ | refine O.ca 0 2 rfl ?_ | refine O.ca 1 1 rfl ?_ | refine O.ca 1 2 rfl ?_ | refine O.ca 2 1 rfl ?_ | refine O.ca 2 2 rfl ?_ | refine O.ca 3 1 rfl ?_ | refine O.ca 3 2 rfl ?_ | refine O.ca 4 1 rfl ?_ | refine O.ca 4 2 rfl ?_))
  refine k _ _ ?_
  have O := O.sel [3, 4, 0] 5 rfl (Nat.le_add_left _ _)
  exact O.repI.swap
theorem F_ref9_Replica_Wait.is {p : Nat} {r : RS} {Q : Int → Heap → Prop} (O : Sat h0 h (repR p r :: L)) (k : Q r.wait h) : F_ref9_Replica_Wait (some (pt p 0)) h Q := by
  rw [F_ref9_Replica_Wait.eq_1, F_ref9_Replica_Wait_of.eq_1]
  obtain ⟨v, O⟩ := O.rep
  repeat (first | (with_reducible refine al_id ?_); refine O.al fun _ h O => ?_ | (with_reducible refine nn_id ?_); refine ⟨_, rfl, ?_⟩ | (with_reducible refine ld_id ?_); (first | refine O.ld 0 rfl ?_); (repeat (first | (with_reducible refine ldL_n ?_) | refine ldL_s ?_ | refine ldL_c ?_)) | (with_reducible refine st_ad (by first | (with_reducible rfl) | (simp only [pt_add, Nat.zero_add, Nat.add_zero, Nat.reduceAdd]; with_reducible rfl)) ?_); (first | refine O.st 0 rfl (by simp) rfl fun h O => ?_); (dsimp only [V.put, List.set, List.length_cons, List.length_nil] at O) | (with_reducible refine ca_id ?_); (first | refine O.ca 0 1 rfl ?_ | refine O.ca 0 2 rfl ?_))
  exact k
theorem F_ref9_Replica_Tick.is {p : Nat} {r : RS} {Q : Heap → Prop} (ok : r.Ok) (O : Sat h0 h (repR p r :: L)) (k : ∀ h', Sat h0 h' (repR p { r with wait := if r.wait = 0 then 0 else r.wait - 1 } :: L) → Q h') : F_ref9_Replica_Tick (some (pt p 0)) h Q := by
  rw [F_ref9_Replica_Tick.eq_1, F_ref9_Replica_Tick_of.eq_1]
  obtain ⟨v, O⟩ := O.rep
  have h0 := ok.w0
  have h1 := ok.w1
  repeat (first | (with_reducible refine al_id ?_); refine O.al fun _ h O => ?_ | (with_reducible refine nn_id ?_); refine ⟨_, rfl, ?_⟩ | (with_reducible refine ld_id ?_); (first | refine O.ld 0 rfl ?_); (repeat (first | (with_reducible refine ldL_n ?_) | refine ldL_s ?_ | refine ldL_c ?_)) | (with_reducible refine st_ad (by first | (with_reducible rfl) | (simp only [pt_add, Nat.zero_add, Nat.add_zero, Nat.reduceAdd]; with_reducible rfl)) ?_); (first | refine O.st 0 rfl (by simp) rfl fun h O => ?_); (dsimp only [V.put, List.set, List.length_cons, List.length_nil] at O) | (with_reducible refine ca_id ?_); (first | refine O.ca 0 1 rfl ?_ | refine O.ca 0 2 rfl ?_))
  refine jn0 (fun h' => Sat _ h' (repR p { r with wait := if r.wait = 0 then 0 else r.wait - 1 } :: L)) (fun h O => k h O) fun j hj => ?_
  refine brr_p (fun hp => ?_) (fun hp => ?_)
  · repeat (first | (with_reducible refine al_id ?_); refine O.al fun _ h O => ?_ | (with_reducible refine nn_id ?_); refine ⟨_, rfl, ?_⟩ | (with_reducible refine ld_id ?_); (first | refine O.ld 0 rfl ?_); (repeat (first | (with_reducible refine ldL_n ?_) | refine ldL_s ?_ | refine ldL_c ?_)) | (with_reducible refine st_ad (by first | (with_reducible rfl) | (simp only [pt_add, Nat.zero_add, Nat.add_zero, Nat.reduceAdd]; with_reducible rfl)) ?_); (first | refine O.st 0 rfl (by simp) rfl fun h O => ?_); (dsimp only [V.put, List.set, List.length_cons, List.length_nil] at O) | (with_reducible refine ca_id ?_); (first | refine O.ca 0 1 rfl ?_ | refine O.ca 0 2 rfl ?_))
    rw [wrap64 (by omega) (by omega)] at O
    refine hj _ (Sat.repI (s := v) ?_)
    have e : (if r.wait = 0 then 0 else r.wait - 1) = r.wait - 1 := by split <;> omega
    rw [e]
    exact O
  · refine hj _ (Sat.repI (s := v) ?_)
    have e : (if r.wait = 0 then 0 else r.wait - 1) = r.wait := by split <;> omega
    rw [e]
    exact O
theorem F_ref9_Replica_Own.is {p : Nat} {r : RS} {e : Int} {Q : Bool → Heap → Prop} (O : Sat h0 h (repR p r :: L)) (k : ∀ h', Sat h0 h' (repR p { r with prom := if r.prom > e then r.prom else e } :: L) → Q (decide (r.prom < e)) h') : F_ref9_Replica_Own (some (pt p 0)) e h Q := by
  rw [F_ref9_Replica_Own.eq_1, F_ref9_Replica_Own_of.eq_1]
  obtain ⟨v, O⟩ := O.rep
  repeat (first | (with_reducible refine al_id ?_); refine O.al fun _ h O => ?_ | (with_reducible refine nn_id ?_); refine ⟨_, rfl, ?_⟩ | (with_reducible refine ld_id ?_); (first | refine O.ld 0 rfl ?_); (repeat (first | (with_reducible refine ldL_n ?_) | refine ldL_s ?_ | refine ldL_c ?_)) | (with_reducible refine st_ad (by first | (with_reducible rfl) | (simp only [pt_add, Nat.zero_add, Nat.add_zero, Nat.reduceAdd]; with_reducible rfl)) ?_); (first | refine O.st 0 rfl (by simp) rfl fun h O => ?_); (dsimp only [V.put, List.set, List.length_cons, List.length_nil] at O) | (with_reducible refine ca_id ?_); (first | refine O.ca 0 1 rfl ?_ | refine O.ca 0 2 rfl ?_))
  refine brr_p (fun hp => ?_) (fun hp => ?_)
  · have e1 : decide (r.prom < e) = false := by rw [decide_eq_false_iff_not]; omega
    have e2 : (if r.prom > e then r.prom else e) = r.prom := by split <;> omega
    rw [e1, e2] at k
    exact k _ O.repI
  · have e1 : decide (r.prom < e) = true := by rw [decide_eq_true_iff]; omega
    have e2 : (if r.prom > e then r.prom else e) = e := by split <;> omega
    rw [e1, e2] at k
    repeat (first | (with_reducible refine al_id ?_); refine O.al fun _ h O => ?_ | (with_reducible refine nn_id ?_); refine ⟨_, rfl, ?_⟩ | (with_reducible refine ld_id ?_); (first | refine O.ld 0 rfl ?_); (repeat (first | (with_reducible refine ldL_n ?_) | refine ldL_s ?_ | refine ldL_c ?_)) | (with_reducible refine st_ad (by first | (with_reducible rfl) | (simp only [pt_add, Nat.zero_add, Nat.add_zero, Nat.reduceAdd]; with_reducible rfl)) ?_); (first | refine O.st 0 rfl (by simp) rfl fun h O => ?_); (dsimp only [V.put, List.set, List.length_cons, List.length_nil] at O) | (with_reducible refine ca_id ?_); (first | refine O.ca 0 1 rfl ?_ | refine O.ca 0 2 rfl ?_))
    exact k _ (Sat.repI (s := v) O)
theorem F_ref9_New.is {v : Sl} {xs : List UInt8} {Q : Option Addr → Heap → Prop} (O : Sat h0 h L) (V1 : Bytes h v xs) (hl : xs.length ≤ (140737488355325 : Nat)) (k : ∀ p h', Sat h0 h' (repR p ⟨0, 0, 0, xs, 0⟩ :: L) → Q (some (pt p 0)) h') : F_ref9_New v h Q := by
  rw [F_ref9_New.eq_1, F_ref9_New_of.eq_1]
  refine F_ref0_Copy.is O V1 (by omega) fun s h O _ _ => ?_
  repeat (first | (with_reducible refine al_id ?_); refine O.al fun _ h O => ?_ | (with_reducible refine nn_id ?_); refine ⟨_, rfl, ?_⟩ | (with_reducible refine ld_id ?_); (first | refine O.ld 0 rfl ?_); (repeat (first | (with_reducible refine ldL_n ?_) | refine ldL_s ?_ | refine ldL_c ?_)) | (with_reducible refine st_ad (by first | (with_reducible rfl) | (simp only [pt_add, Nat.zero_add, Nat.add_zero, Nat.reduceAdd]; with_reducible rfl)) ?_); (first | refine O.st 0 rfl (by simp) rfl fun h O => ?_); (dsimp only [V.put, List.set, List.length_cons, List.length_nil] at O) | (with_reducible refine ca_id ?_); (first | refine O.ca 0 1 rfl ?_ | refine O.ca 0 2 rfl ?_))
  exact k _ _ O.repI
theorem F_ref9_Load.is {a b c : Int} {v : Sl} {xs : List UInt8} {span : Int} {Q : Option Addr → Heap → Prop} (O : Sat h0 h L) (V1 : Stays h0 L fun h => Bytes h v xs) (hl : xs.length ≤ (140737488355325 : Nat)) (k : ∀ p h', Sat h0 h' (repR p ⟨a, b, c, xs, spanOf span⟩ :: L) → Q (some (pt p 0)) h') : F_ref9_Load a b c v span h Q := by
  rw [F_ref9_Load.eq_1, F_ref9_Load_of.eq_1]
  refine O.al fun x6 h O => ?_
  repeat (first | (with_reducible refine al_id ?_); refine O.al fun _ h O => ?_ | (with_reducible refine nn_id ?_); refine ⟨_, rfl, ?_⟩ | (with_reducible refine ld_id ?_); (first | refine O.ld 0 rfl ?_ | refine O.ld 1 rfl ?_); (repeat (first | (with_reducible refine ldL_n ?_) | refine ldL_s ?_ | refine ldL_c ?_)) | (with_reducible refine st_ad (by first | (with_reducible rfl) | (simp only [pt_add, Nat.zero_add, Nat.add_zero, Nat.reduceAdd]; with_reducible rfl)) ?_); (first | refine O.st 0 rfl (by simp) rfl fun h O => ?_ | refine O.st 1 rfl (by simp) rfl fun h O => ?_); (dsimp only [V.put, List.set, List.length_cons, List.length_nil] at O) | (with_reducible refine ca_id ?_); (first | refine O.ca 0 1 rfl ?_ | refine O.ca 0 2 rfl ?_ | refine O.ca 1 1 rfl ?_ | refine O.ca 1 2 rfl ?_))
  refine F_ref0_Copy.is O (V1 h O.drop.drop) (by omega) fun s h O _ _ => ?_
  repeat (first | (with_reducible refine al_id ?_); refine O.al fun _ h O => ?_ | (with_reducible refine nn_id ?_); refine ⟨_, rfl, ?_⟩ | (with_reducible refine ld_id ?_); (first | refine O.ld 0 rfl ?_ | refine O.ld 1 rfl ?_); (repeat (first | (with_reducible refine ldL_n ?_) | refine ldL_s ?_ | refine ldL_c ?_)) | (with_reducible refine st_ad (by first | (with_reducible rfl) | (simp only [pt_add, Nat.zero_add, Nat.add_zero, Nat.reduceAdd]; with_reducible rfl)) ?_); (first | refine O.st 0 rfl (by simp) rfl fun h O => ?_ | refine O.st 1 rfl (by simp) rfl fun h O => ?_); (dsimp only [V.put, List.set, List.length_cons, List.length_nil] at O) | (with_reducible refine ca_id ?_); (first | refine O.ca 0 1 rfl ?_ | refine O.ca 0 2 rfl ?_ | refine O.ca 1 1 rfl ?_ | refine O.ca 1 2 rfl ?_))
  refine jn0 (fun h' => Sat h0 h' (repR _ ⟨a, b, c, xs, spanOf span⟩ :: L)) (fun h O => k _ h O) fun j hj => ?_
  refine brr_p (fun hp => ?_) (fun hp => ?_)
  · repeat (first | (with_reducible refine al_id ?_); refine O.al fun _ h O => ?_ | (with_reducible refine nn_id ?_); refine ⟨_, rfl, ?_⟩ | (with_reducible refine ld_id ?_); (first | refine O.ld 0 rfl ?_ | refine O.ld 1 rfl ?_); (repeat (first | (with_reducible refine ldL_n ?_) | refine ldL_s ?_ | refine ldL_c ?_)) | (with_reducible refine st_ad (by first | (with_reducible rfl) | (simp only [pt_add, Nat.zero_add, Nat.add_zero, Nat.reduceAdd]; with_reducible rfl)) ?_); (first | refine O.st 0 rfl (by simp) rfl fun h O => ?_ | refine O.st 1 rfl (by simp) rfl fun h O => ?_); (dsimp only [V.put, List.set, List.length_cons, List.length_nil] at O) | (with_reducible refine ca_id ?_); (first | refine O.ca 0 1 rfl ?_ | refine O.ca 0 2 rfl ?_ | refine O.ca 1 1 rfl ?_ | refine O.ca 1 2 rfl ?_))
    have e : spanOf span = span := by unfold spanOf; split <;> omega
    rw [e] at hj
    exact hj _ (Sat.repI (s := s) (O.sel [1, 0] 3 rfl (Nat.le_add_left _ _)))
  · have e : spanOf span = 0 := by unfold spanOf; split <;> omega
    rw [e] at hj
    exact hj _ (Sat.repI (s := s) (O.sel [1, 0] 3 rfl (Nat.le_add_left _ _)))
theorem F_ref9_Replica_refuse.is {p : Nat} {r : RS} {f t s e : Int} {Q : Int → Int → Int → Int → Int → Int → Int → Int → Int → Int → Sl → Int → Int → ByteArray → ByteArray → Int → Int → Int → Int → Int → Int → Int → Bool → Bool → Bool → Heap → Prop} (O : Sat h0 h (repR p r :: L)) (k : ∀ h', Sat h0 h' (repR p r :: L) → Q 3 f t s e 0 0 0 0 r.prom ⟨none, 0, 0⟩ 0 0 ⟨#[]⟩ ⟨#[]⟩ 0 0 0 0 0 0 0 true false false h') : F_ref9_Replica_refuse (some (pt p 0)) 0 f t s 0 0 0 0 0 0 ⟨none, 0, 0⟩ 0 0 ⟨#[]⟩ ⟨#[]⟩ 0 0 0 0 0 0 0 e h Q := by
  rw [F_ref9_Replica_refuse.eq_1, F_ref9_Replica_refuse_of.eq_1]
  obtain ⟨v, O⟩ := O.rep
  repeat (first | (with_reducible refine al_id ?_); refine O.al fun _ h O => ?_ | (with_reducible refine nn_id ?_); refine ⟨_, rfl, ?_⟩ | (with_reducible refine ld_id ?_); (first | refine O.ld 0 rfl ?_ | refine O.ld 1 rfl ?_ | refine O.ld 2 rfl ?_); (repeat (first | (with_reducible refine ldL_n ?_) | refine ldL_s ?_ | refine ldL_c ?_)) | (with_reducible refine st_ad (by first | (with_reducible rfl) | (simp only [pt_add, Nat.zero_add, Nat.add_zero, Nat.reduceAdd]; with_reducible rfl)) ?_); (first | refine O.st 0 rfl (by simp) rfl fun h O => ?_ | refine O.st 1 rfl (by simp) rfl fun h O => ?_ | refine O.st 2 rfl (by simp) rfl fun h O => ?_); (dsimp only [V.put, List.set, List.length_cons, List.length_nil] at O) | (with_reducible refine ca_id ?_); (first | refine O.ca 0 1 rfl ?_ | refine O.ca 0 2 rfl ?_ | refine O.ca 1 1 rfl ?_ | refine O.ca 1 2 rfl ?_ | refine O.ca 2 1 rfl ?_ | refine O.ca 2 2 rfl ?_))
  exact k _ (O.sel [2, 3] 4 rfl (Nat.le_add_left _ _)).repI
theorem F_ref0_CmpTag.is {a b c d : Int} {Q : Int → Heap → Prop} (O : Sat h0 h L) (k : ∀ h', Sat h0 h' L → Q (if tagLt a b c d then -1 else if a = c ∧ b = d then 0 else 1) h') : F_ref0_CmpTag a b c d h Q := by
  rw [F_ref0_CmpTag.eq_1, F_ref0_CmpTag_of.eq_1]
  refine O.al fun x5 h O => ?_
  refine O.al fun x7 h O => ?_
  refine jn1 (fun z h' => h' = h ∧ z = decide (tagLt a b c d)) ?_ ?_
  · rintro z h ⟨rfl, rfl⟩
    refine brr_p (fun hc => ?_) (fun hc => ?_)
    · rw [if_pos hc] at k
      exact k _ O.drop.drop
    · rw [if_neg hc] at k
      repeat (first | (with_reducible refine al_id ?_); refine O.al fun _ h O => ?_ | (with_reducible refine nn_id ?_); refine ⟨_, rfl, ?_⟩ | (with_reducible refine ld_id ?_); (first | refine O.ld 0 rfl ?_ | refine O.ld 1 rfl ?_); (repeat (first | (with_reducible refine ldL_n ?_) | refine ldL_s ?_ | refine ldL_c ?_)) | (with_reducible refine st_ad (by first | (with_reducible rfl) | (simp only [pt_add, Nat.zero_add, Nat.add_zero, Nat.reduceAdd]; with_reducible rfl)) ?_); (first | refine O.st 0 rfl (by simp) rfl fun h O => ?_ | refine O.st 1 rfl (by simp) rfl fun h O => ?_); (dsimp only [V.put, List.set, List.length_cons, List.length_nil] at O) | (with_reducible refine ca_id ?_); (first | refine O.ca 0 1 rfl ?_ | refine O.ca 0 2 rfl ?_ | refine O.ca 1 1 rfl ?_ | refine O.ca 1 2 rfl ?_))
      refine brr_of (fun h1 => ?_) (fun h1 => ?_)
      · rw [if_pos (by simpa using h1)] at k
        exact k _ O.drop.drop
      · rw [if_neg (by simpa using h1)] at k
        exact k _ O.drop.drop
  · intro j hj
    repeat (first | (with_reducible refine al_id ?_); refine O.al fun _ h O => ?_ | (with_reducible refine nn_id ?_); refine ⟨_, rfl, ?_⟩ | (with_reducible refine ld_id ?_); (first | refine O.ld 0 rfl ?_ | refine O.ld 1 rfl ?_); (repeat (first | (with_reducible refine ldL_n ?_) | refine ldL_s ?_ | refine ldL_c ?_)) | (with_reducible refine st_ad (by first | (with_reducible rfl) | (simp only [pt_add, Nat.zero_add, Nat.add_zero, Nat.reduceAdd]; with_reducible rfl)) ?_); (first | refine O.st 0 rfl (by simp) rfl fun h O => ?_ | refine O.st 1 rfl (by simp) rfl fun h O => ?_); (dsimp only [V.put, List.set, List.length_cons, List.length_nil] at O) | (with_reducible refine ca_id ?_); (first | refine O.ca 0 1 rfl ?_ | refine O.ca 0 2 rfl ?_ | refine O.ca 1 1 rfl ?_ | refine O.ca 1 2 rfl ?_))
    have ht : tagLt a b c d ↔ (a < c ∨ (a = c ∧ b < d)) := Iff.rfl
    refine brr_p (fun h1 => ?_) (fun h1 => ?_)
    · exact hj _ _ ⟨rfl, (decide_eq_true (ht.2 (by omega))).symm⟩
    repeat (first | (with_reducible refine al_id ?_); refine O.al fun _ h O => ?_ | (with_reducible refine nn_id ?_); refine ⟨_, rfl, ?_⟩ | (with_reducible refine ld_id ?_); (first | refine O.ld 0 rfl ?_ | refine O.ld 1 rfl ?_); (repeat (first | (with_reducible refine ldL_n ?_) | refine ldL_s ?_ | refine ldL_c ?_)) | (with_reducible refine st_ad (by first | (with_reducible rfl) | (simp only [pt_add, Nat.zero_add, Nat.add_zero, Nat.reduceAdd]; with_reducible rfl)) ?_); (first | refine O.st 0 rfl (by simp) rfl fun h O => ?_ | refine O.st 1 rfl (by simp) rfl fun h O => ?_); (dsimp only [V.put, List.set, List.length_cons, List.length_nil] at O) | (with_reducible refine ca_id ?_); (first | refine O.ca 0 1 rfl ?_ | refine O.ca 0 2 rfl ?_ | refine O.ca 1 1 rfl ?_ | refine O.ca 1 2 rfl ?_))
    refine brr_eq (fun h2 => ?_) (fun h2 => ?_)
    · repeat (first | (with_reducible refine al_id ?_); refine O.al fun _ h O => ?_ | (with_reducible refine nn_id ?_); refine ⟨_, rfl, ?_⟩ | (with_reducible refine ld_id ?_); (first | refine O.ld 0 rfl ?_ | refine O.ld 1 rfl ?_); (repeat (first | (with_reducible refine ldL_n ?_) | refine ldL_s ?_ | refine ldL_c ?_)) | (with_reducible refine st_ad (by first | (with_reducible rfl) | (simp only [pt_add, Nat.zero_add, Nat.add_zero, Nat.reduceAdd]; with_reducible rfl)) ?_); (first | refine O.st 0 rfl (by simp) rfl fun h O => ?_ | refine O.st 1 rfl (by simp) rfl fun h O => ?_); (dsimp only [V.put, List.set, List.length_cons, List.length_nil] at O) | (with_reducible refine ca_id ?_); (first | refine O.ca 0 1 rfl ?_ | refine O.ca 0 2 rfl ?_ | refine O.ca 1 1 rfl ?_ | refine O.ca 1 2 rfl ?_))
      exact hj _ _ ⟨rfl, decide_eq_decide.2 (by rw [ht]; omega)⟩
    · exact hj _ _ ⟨rfl, (decide_eq_false (by rw [ht]; omega)).symm⟩
theorem F_ref0_EqStored.is {a1 a2 a3 b1 b2 b3 : Int} {s t : Sl} {xs ys : List UInt8} {Q : Bool → Heap → Prop} (O : Sat h0 h L) (V1 : Stays h0 L fun h => Bytes h s xs) (V2 : Stays h0 L fun h => Bytes h t ys) (h1 : xs.length ≤ (140737488355325 : Nat)) (h2 : ys.length ≤ (140737488355325 : Nat)) (k : ∀ h', Sat h0 h' L → Q (decide (a1 = b1 ∧ a2 = b2 ∧ a3 = b3 ∧ xs = ys)) h') : F_ref0_EqStored a1 a2 a3 s b1 b2 b3 t h Q := by
  rw [F_ref0_EqStored.eq_1, F_ref0_EqStored_of.eq_1]
  refine O.al fun x9 h O => ?_
  refine O.al fun x11 h O => ?_
  refine jn1 (fun z h' => h' = h ∧ z = decide (a1 = b1 ∧ a2 = b2 ∧ a3 = b3 ∧ xs = ys)) (fun z h' ⟨e, e2⟩ => by subst e; subst e2; exact k _ O.drop.drop) fun j hj => ?_
  repeat (first | (with_reducible refine al_id ?_); refine O.al fun _ h O => ?_ | (with_reducible refine nn_id ?_); refine ⟨_, rfl, ?_⟩ | (with_reducible refine ld_id ?_); (first | refine O.ld 0 rfl ?_ | refine O.ld 1 rfl ?_); (repeat (first | (with_reducible refine ldL_n ?_) | refine ldL_s ?_ | refine ldL_c ?_)) | (with_reducible refine st_ad (by first | (with_reducible rfl) | (simp only [pt_add, Nat.zero_add, Nat.add_zero, Nat.reduceAdd]; with_reducible rfl)) ?_); (first | refine O.st 0 rfl (by simp) rfl fun h O => ?_ | refine O.st 1 rfl (by simp) rfl fun h O => ?_); (dsimp only [V.put, List.set, List.length_cons, List.length_nil] at O) | (with_reducible refine ca_id ?_); (first | refine O.ca 0 1 rfl ?_ | refine O.ca 0 2 rfl ?_ | refine O.ca 1 1 rfl ?_ | refine O.ca 1 2 rfl ?_))
  refine brr_eq (fun c1 => ?_) (fun c1 => hj _ _ ⟨rfl, by rw [eq_comm, decide_eq_false_iff_not]; exact fun q => c1 q.1⟩)
  repeat (first | (with_reducible refine al_id ?_); refine O.al fun _ h O => ?_ | (with_reducible refine nn_id ?_); refine ⟨_, rfl, ?_⟩ | (with_reducible refine ld_id ?_); (first | refine O.ld 0 rfl ?_ | refine O.ld 1 rfl ?_); (repeat (first | (with_reducible refine ldL_n ?_) | refine ldL_s ?_ | refine ldL_c ?_)) | (with_reducible refine st_ad (by first | (with_reducible rfl) | (simp only [pt_add, Nat.zero_add, Nat.add_zero, Nat.reduceAdd]; with_reducible rfl)) ?_); (first | refine O.st 0 rfl (by simp) rfl fun h O => ?_ | refine O.st 1 rfl (by simp) rfl fun h O => ?_); (dsimp only [V.put, List.set, List.length_cons, List.length_nil] at O) | (with_reducible refine ca_id ?_); (first | refine O.ca 0 1 rfl ?_ | refine O.ca 0 2 rfl ?_ | refine O.ca 1 1 rfl ?_ | refine O.ca 1 2 rfl ?_))
  refine brr_of (fun c2 => ?_) (fun c2 => hj _ _ ⟨rfl, by rw [eq_comm, decide_eq_false_iff_not]; rintro ⟨_, q1, q2, _⟩; simp [q1, q2] at c2⟩)
  repeat (first | (with_reducible refine al_id ?_); refine O.al fun _ h O => ?_ | (with_reducible refine nn_id ?_); refine ⟨_, rfl, ?_⟩ | (with_reducible refine ld_id ?_); (first | refine O.ld 0 rfl ?_ | refine O.ld 1 rfl ?_); (repeat (first | (with_reducible refine ldL_n ?_) | refine ldL_s ?_ | refine ldL_c ?_)) | (with_reducible refine st_ad (by first | (with_reducible rfl) | (simp only [pt_add, Nat.zero_add, Nat.add_zero, Nat.reduceAdd]; with_reducible rfl)) ?_); (first | refine O.st 0 rfl (by simp) rfl fun h O => ?_ | refine O.st 1 rfl (by simp) rfl fun h O => ?_); (dsimp only [V.put, List.set, List.length_cons, List.length_nil] at O) | (with_reducible refine ca_id ?_); (first | refine O.ca 0 1 rfl ?_ | refine O.ca 0 2 rfl ?_ | refine O.ca 1 1 rfl ?_ | refine O.ca 1 2 rfl ?_))
  simp only [Bool.and_eq_true, beq_iff_eq, and_true] at c2
  refine F_ref0_Cmp.is (V1 h O.drop.drop) (V2 h O.drop.drop) (by omega) (by omega) fun r hr => ?_
  refine hj _ _ ⟨rfl, ?_⟩
  rw [Bool.eq_iff_iff]
  simp only [beq_iff_eq, decide_eq_true_eq]
  rw [hr]
  exact ⟨fun q => ⟨c1, c2.1, c2.2, q⟩, fun q => q.2.2.2⟩
theorem F_ref0_CopyMsg.is {m : Mg} {Q : Int → Int → Int → Int → Int → Int → Int → Int → Int → Int → Sl → Int → Int → ByteArray → ByteArray → Int → Int → Int → Int → Int → Int → Int → Heap → Prop} (O : Sat h0 h L) (V1 : Stays h0 L fun h => Bytes h m.v m.b) (hb : m.b.length ≤ (140737488355325 : Nat)) (k : ∀ s h', Sat h0 h' (buf 1 u8 s m.b :: L) → Q m.kind m.frm m.to m.shard m.epoch m.te m.ts m.round m.span m.seen s m.peer m.num m.name m.other m.amount m.life m.id m.op m.client m.state m.bad h') : F_ref0_CopyMsg m.kind m.frm m.to m.shard m.epoch m.te m.ts m.round m.span m.seen m.v m.peer m.num m.name m.other m.amount m.life m.id m.op m.client m.state m.bad h Q := by
  rw [F_ref0_CopyMsg.eq_1, F_ref0_CopyMsg_of.eq_1]
  repeat (first | (with_reducible refine al_id ?_); refine O.al fun _ h O => ?_ | (with_reducible refine nn_id ?_); refine ⟨_, rfl, ?_⟩ | (with_reducible refine ld_id ?_); (first | refine O.ld 0 rfl ?_ | refine O.ld 1 rfl ?_); (repeat (first | (with_reducible refine ldL_n ?_) | refine ldL_s ?_ | refine ldL_c ?_)) | (with_reducible refine st_ad (by first | (with_reducible rfl) | (simp only [pt_add, Nat.zero_add, Nat.add_zero, Nat.reduceAdd]; with_reducible rfl)) ?_); (first | refine O.st 0 rfl (by simp) rfl fun h O => ?_ | refine O.st 1 rfl (by simp) rfl fun h O => ?_); (dsimp only [V.put, List.set, List.length_cons, List.length_nil] at O) | (with_reducible refine ca_id ?_); (first | refine O.ca 0 1 rfl ?_ | refine O.ca 0 2 rfl ?_ | refine O.ca 1 1 rfl ?_ | refine O.ca 1 2 rfl ?_))
  refine F_ref0_Copy.is O (V1 h O.drop.drop) (by omega) fun s h O _ _ => ?_
  repeat (first | (with_reducible refine al_id ?_); refine O.al fun _ h O => ?_ | (with_reducible refine nn_id ?_); refine ⟨_, rfl, ?_⟩ | (with_reducible refine ld_id ?_); (first | refine O.ld 0 rfl ?_ | refine O.ld 1 rfl ?_ | refine O.ld 2 rfl ?_); (repeat (first | (with_reducible refine ldL_n ?_) | refine ldL_s ?_ | refine ldL_c ?_)) | (with_reducible refine st_ad (by first | (with_reducible rfl) | (simp only [pt_add, Nat.zero_add, Nat.add_zero, Nat.reduceAdd]; with_reducible rfl)) ?_); (first | refine O.st 0 rfl (by simp) rfl fun h O => ?_ | refine O.st 1 rfl (by simp) rfl fun h O => ?_ | refine O.st 2 rfl (by simp) rfl fun h O => ?_); (dsimp only [V.put, List.set, List.length_cons, List.length_nil] at O) | (with_reducible refine ca_id ?_); (first | refine O.ca 0 1 rfl ?_ | refine O.ca 0 2 rfl ?_ | refine O.ca 1 1 rfl ?_ | refine O.ca 1 2 rfl ?_ | refine O.ca 2 1 rfl ?_ | refine O.ca 2 2 rfl ?_))
  exact k _ _ (O.sel [0] 3 rfl (Nat.le_add_left _ _))
theorem F_ref0_EqMsg.is {m : Mg} {t : Sl} {Q : Bool → Heap → Prop} (O : Sat h0 h L) (V1 : Stays h0 L fun h => Bytes h m.v m.b) (V2 : Stays h0 L fun h => Bytes h t m.b) (h1 : m.b.length ≤ (140737488355325 : Nat)) (k : ∀ h', Sat h0 h' L → Q true h') : F_ref0_EqMsg m.kind m.frm m.to m.shard m.epoch m.te m.ts m.round m.span m.seen m.v m.peer m.num m.name m.other m.amount m.life m.id m.op m.client m.state m.bad m.kind m.frm m.to m.shard m.epoch m.te m.ts m.round m.span m.seen t m.peer m.num m.name m.other m.amount m.life m.id m.op m.client m.state m.bad h Q := by
  rw [F_ref0_EqMsg.eq_1, F_ref0_EqMsg_of.eq_1]
  refine O.al fun x45 h O => ?_
  refine O.al fun x47 h O => ?_
  refine jn1 (fun z h' => h' = h ∧ z = true) (fun z h' ⟨e, e2⟩ => by subst e; subst e2; exact k _ O.drop.drop) fun j hj => ?_
  repeat (first | (with_reducible refine al_id ?_); refine O.al fun _ h O => ?_ | (with_reducible refine nn_id ?_); refine ⟨_, rfl, ?_⟩ | (with_reducible refine ld_id ?_); (first | refine O.ld 0 rfl ?_ | refine O.ld 1 rfl ?_); (repeat (first | (with_reducible refine ldL_n ?_) | refine ldL_s ?_ | refine ldL_c ?_)) | (with_reducible refine st_ad (by first | (with_reducible rfl) | (simp only [pt_add, Nat.zero_add, Nat.add_zero, Nat.reduceAdd]; with_reducible rfl)) ?_); (first | refine O.st 0 rfl (by simp) rfl fun h O => ?_ | refine O.st 1 rfl (by simp) rfl fun h O => ?_); (dsimp only [V.put, List.set, List.length_cons, List.length_nil] at O) | (with_reducible refine ca_id ?_); (first | refine O.ca 0 1 rfl ?_ | refine O.ca 0 2 rfl ?_ | refine O.ca 1 1 rfl ?_ | refine O.ca 1 2 rfl ?_))
  refine brr_tt (by simp) ?_
  repeat (first | (with_reducible refine al_id ?_); refine O.al fun _ h O => ?_ | (with_reducible refine nn_id ?_); refine ⟨_, rfl, ?_⟩ | (with_reducible refine ld_id ?_); (first | refine O.ld 0 rfl ?_ | refine O.ld 1 rfl ?_); (repeat (first | (with_reducible refine ldL_n ?_) | refine ldL_s ?_ | refine ldL_c ?_)) | (with_reducible refine st_ad (by first | (with_reducible rfl) | (simp only [pt_add, Nat.zero_add, Nat.add_zero, Nat.reduceAdd]; with_reducible rfl)) ?_); (first | refine O.st 0 rfl (by simp) rfl fun h O => ?_ | refine O.st 1 rfl (by simp) rfl fun h O => ?_); (dsimp only [V.put, List.set, List.length_cons, List.length_nil] at O) | (with_reducible refine ca_id ?_); (first | refine O.ca 0 1 rfl ?_ | refine O.ca 0 2 rfl ?_ | refine O.ca 1 1 rfl ?_ | refine O.ca 1 2 rfl ?_))
  refine brr_tt (by simp) ?_
  repeat (first | (with_reducible refine al_id ?_); refine O.al fun _ h O => ?_ | (with_reducible refine nn_id ?_); refine ⟨_, rfl, ?_⟩ | (with_reducible refine ld_id ?_); (first | refine O.ld 0 rfl ?_ | refine O.ld 1 rfl ?_); (repeat (first | (with_reducible refine ldL_n ?_) | refine ldL_s ?_ | refine ldL_c ?_)) | (with_reducible refine st_ad (by first | (with_reducible rfl) | (simp only [pt_add, Nat.zero_add, Nat.add_zero, Nat.reduceAdd]; with_reducible rfl)) ?_); (first | refine O.st 0 rfl (by simp) rfl fun h O => ?_ | refine O.st 1 rfl (by simp) rfl fun h O => ?_); (dsimp only [V.put, List.set, List.length_cons, List.length_nil] at O) | (with_reducible refine ca_id ?_); (first | refine O.ca 0 1 rfl ?_ | refine O.ca 0 2 rfl ?_ | refine O.ca 1 1 rfl ?_ | refine O.ca 1 2 rfl ?_))
  refine brr_tt (by simp) ?_
  repeat (first | (with_reducible refine al_id ?_); refine O.al fun _ h O => ?_ | (with_reducible refine nn_id ?_); refine ⟨_, rfl, ?_⟩ | (with_reducible refine ld_id ?_); (first | refine O.ld 0 rfl ?_ | refine O.ld 1 rfl ?_); (repeat (first | (with_reducible refine ldL_n ?_) | refine ldL_s ?_ | refine ldL_c ?_)) | (with_reducible refine st_ad (by first | (with_reducible rfl) | (simp only [pt_add, Nat.zero_add, Nat.add_zero, Nat.reduceAdd]; with_reducible rfl)) ?_); (first | refine O.st 0 rfl (by simp) rfl fun h O => ?_ | refine O.st 1 rfl (by simp) rfl fun h O => ?_); (dsimp only [V.put, List.set, List.length_cons, List.length_nil] at O) | (with_reducible refine ca_id ?_); (first | refine O.ca 0 1 rfl ?_ | refine O.ca 0 2 rfl ?_ | refine O.ca 1 1 rfl ?_ | refine O.ca 1 2 rfl ?_))
  refine brr_tt (by simp) ?_
  repeat (first | (with_reducible refine al_id ?_); refine O.al fun _ h O => ?_ | (with_reducible refine nn_id ?_); refine ⟨_, rfl, ?_⟩ | (with_reducible refine ld_id ?_); (first | refine O.ld 0 rfl ?_ | refine O.ld 1 rfl ?_); (repeat (first | (with_reducible refine ldL_n ?_) | refine ldL_s ?_ | refine ldL_c ?_)) | (with_reducible refine st_ad (by first | (with_reducible rfl) | (simp only [pt_add, Nat.zero_add, Nat.add_zero, Nat.reduceAdd]; with_reducible rfl)) ?_); (first | refine O.st 0 rfl (by simp) rfl fun h O => ?_ | refine O.st 1 rfl (by simp) rfl fun h O => ?_); (dsimp only [V.put, List.set, List.length_cons, List.length_nil] at O) | (with_reducible refine ca_id ?_); (first | refine O.ca 0 1 rfl ?_ | refine O.ca 0 2 rfl ?_ | refine O.ca 1 1 rfl ?_ | refine O.ca 1 2 rfl ?_))
  refine brr_tt (by simp) ?_
  repeat (first | (with_reducible refine al_id ?_); refine O.al fun _ h O => ?_ | (with_reducible refine nn_id ?_); refine ⟨_, rfl, ?_⟩ | (with_reducible refine ld_id ?_); (first | refine O.ld 0 rfl ?_ | refine O.ld 1 rfl ?_); (repeat (first | (with_reducible refine ldL_n ?_) | refine ldL_s ?_ | refine ldL_c ?_)) | (with_reducible refine st_ad (by first | (with_reducible rfl) | (simp only [pt_add, Nat.zero_add, Nat.add_zero, Nat.reduceAdd]; with_reducible rfl)) ?_); (first | refine O.st 0 rfl (by simp) rfl fun h O => ?_ | refine O.st 1 rfl (by simp) rfl fun h O => ?_); (dsimp only [V.put, List.set, List.length_cons, List.length_nil] at O) | (with_reducible refine ca_id ?_); (first | refine O.ca 0 1 rfl ?_ | refine O.ca 0 2 rfl ?_ | refine O.ca 1 1 rfl ?_ | refine O.ca 1 2 rfl ?_))
  refine brr_tt (by simp) ?_
  repeat (first | (with_reducible refine al_id ?_); refine O.al fun _ h O => ?_ | (with_reducible refine nn_id ?_); refine ⟨_, rfl, ?_⟩ | (with_reducible refine ld_id ?_); (first | refine O.ld 0 rfl ?_ | refine O.ld 1 rfl ?_); (repeat (first | (with_reducible refine ldL_n ?_) | refine ldL_s ?_ | refine ldL_c ?_)) | (with_reducible refine st_ad (by first | (with_reducible rfl) | (simp only [pt_add, Nat.zero_add, Nat.add_zero, Nat.reduceAdd]; with_reducible rfl)) ?_); (first | refine O.st 0 rfl (by simp) rfl fun h O => ?_ | refine O.st 1 rfl (by simp) rfl fun h O => ?_); (dsimp only [V.put, List.set, List.length_cons, List.length_nil] at O) | (with_reducible refine ca_id ?_); (first | refine O.ca 0 1 rfl ?_ | refine O.ca 0 2 rfl ?_ | refine O.ca 1 1 rfl ?_ | refine O.ca 1 2 rfl ?_))
  refine F_ref0_Cmp.is (V1 h O.drop.drop) (V2 h O.drop.drop) (by omega) (by omega) fun r hr => ?_
  refine brr_tt (by simp [hr]) ?_
  repeat (first | (with_reducible refine al_id ?_); refine O.al fun _ h O => ?_ | (with_reducible refine nn_id ?_); refine ⟨_, rfl, ?_⟩ | (with_reducible refine ld_id ?_); (first | refine O.ld 0 rfl ?_ | refine O.ld 1 rfl ?_); (repeat (first | (with_reducible refine ldL_n ?_) | refine ldL_s ?_ | refine ldL_c ?_)) | (with_reducible refine st_ad (by first | (with_reducible rfl) | (simp only [pt_add, Nat.zero_add, Nat.add_zero, Nat.reduceAdd]; with_reducible rfl)) ?_); (first | refine O.st 0 rfl (by simp) rfl fun h O => ?_ | refine O.st 1 rfl (by simp) rfl fun h O => ?_); (dsimp only [V.put, List.set, List.length_cons, List.length_nil] at O) | (with_reducible refine ca_id ?_); (first | refine O.ca 0 1 rfl ?_ | refine O.ca 0 2 rfl ?_ | refine O.ca 1 1 rfl ?_ | refine O.ca 1 2 rfl ?_))
  refine brr_tt (by simp) ?_
  repeat (first | (with_reducible refine al_id ?_); refine O.al fun _ h O => ?_ | (with_reducible refine nn_id ?_); refine ⟨_, rfl, ?_⟩ | (with_reducible refine ld_id ?_); (first | refine O.ld 0 rfl ?_ | refine O.ld 1 rfl ?_); (repeat (first | (with_reducible refine ldL_n ?_) | refine ldL_s ?_ | refine ldL_c ?_)) | (with_reducible refine st_ad (by first | (with_reducible rfl) | (simp only [pt_add, Nat.zero_add, Nat.add_zero, Nat.reduceAdd]; with_reducible rfl)) ?_); (first | refine O.st 0 rfl (by simp) rfl fun h O => ?_ | refine O.st 1 rfl (by simp) rfl fun h O => ?_); (dsimp only [V.put, List.set, List.length_cons, List.length_nil] at O) | (with_reducible refine ca_id ?_); (first | refine O.ca 0 1 rfl ?_ | refine O.ca 0 2 rfl ?_ | refine O.ca 1 1 rfl ?_ | refine O.ca 1 2 rfl ?_))
  refine brr_tt (by simp) ?_
  repeat (first | (with_reducible refine al_id ?_); refine O.al fun _ h O => ?_ | (with_reducible refine nn_id ?_); refine ⟨_, rfl, ?_⟩ | (with_reducible refine ld_id ?_); (first | refine O.ld 0 rfl ?_ | refine O.ld 1 rfl ?_); (repeat (first | (with_reducible refine ldL_n ?_) | refine ldL_s ?_ | refine ldL_c ?_)) | (with_reducible refine st_ad (by first | (with_reducible rfl) | (simp only [pt_add, Nat.zero_add, Nat.add_zero, Nat.reduceAdd]; with_reducible rfl)) ?_); (first | refine O.st 0 rfl (by simp) rfl fun h O => ?_ | refine O.st 1 rfl (by simp) rfl fun h O => ?_); (dsimp only [V.put, List.set, List.length_cons, List.length_nil] at O) | (with_reducible refine ca_id ?_); (first | refine O.ca 0 1 rfl ?_ | refine O.ca 0 2 rfl ?_ | refine O.ca 1 1 rfl ?_ | refine O.ca 1 2 rfl ?_))
  refine brr_tt (by simp) ?_
  repeat (first | (with_reducible refine al_id ?_); refine O.al fun _ h O => ?_ | (with_reducible refine nn_id ?_); refine ⟨_, rfl, ?_⟩ | (with_reducible refine ld_id ?_); (first | refine O.ld 0 rfl ?_ | refine O.ld 1 rfl ?_); (repeat (first | (with_reducible refine ldL_n ?_) | refine ldL_s ?_ | refine ldL_c ?_)) | (with_reducible refine st_ad (by first | (with_reducible rfl) | (simp only [pt_add, Nat.zero_add, Nat.add_zero, Nat.reduceAdd]; with_reducible rfl)) ?_); (first | refine O.st 0 rfl (by simp) rfl fun h O => ?_ | refine O.st 1 rfl (by simp) rfl fun h O => ?_); (dsimp only [V.put, List.set, List.length_cons, List.length_nil] at O) | (with_reducible refine ca_id ?_); (first | refine O.ca 0 1 rfl ?_ | refine O.ca 0 2 rfl ?_ | refine O.ca 1 1 rfl ?_ | refine O.ca 1 2 rfl ?_))
  refine brr_tt (by simp) ?_
  repeat (first | (with_reducible refine al_id ?_); refine O.al fun _ h O => ?_ | (with_reducible refine nn_id ?_); refine ⟨_, rfl, ?_⟩ | (with_reducible refine ld_id ?_); (first | refine O.ld 0 rfl ?_ | refine O.ld 1 rfl ?_); (repeat (first | (with_reducible refine ldL_n ?_) | refine ldL_s ?_ | refine ldL_c ?_)) | (with_reducible refine st_ad (by first | (with_reducible rfl) | (simp only [pt_add, Nat.zero_add, Nat.add_zero, Nat.reduceAdd]; with_reducible rfl)) ?_); (first | refine O.st 0 rfl (by simp) rfl fun h O => ?_ | refine O.st 1 rfl (by simp) rfl fun h O => ?_); (dsimp only [V.put, List.set, List.length_cons, List.length_nil] at O) | (with_reducible refine ca_id ?_); (first | refine O.ca 0 1 rfl ?_ | refine O.ca 0 2 rfl ?_ | refine O.ca 1 1 rfl ?_ | refine O.ca 1 2 rfl ?_))
  refine brr_tt (by simp) ?_
  repeat (first | (with_reducible refine al_id ?_); refine O.al fun _ h O => ?_ | (with_reducible refine nn_id ?_); refine ⟨_, rfl, ?_⟩ | (with_reducible refine ld_id ?_); (first | refine O.ld 0 rfl ?_ | refine O.ld 1 rfl ?_); (repeat (first | (with_reducible refine ldL_n ?_) | refine ldL_s ?_ | refine ldL_c ?_)) | (with_reducible refine st_ad (by first | (with_reducible rfl) | (simp only [pt_add, Nat.zero_add, Nat.add_zero, Nat.reduceAdd]; with_reducible rfl)) ?_); (first | refine O.st 0 rfl (by simp) rfl fun h O => ?_ | refine O.st 1 rfl (by simp) rfl fun h O => ?_); (dsimp only [V.put, List.set, List.length_cons, List.length_nil] at O) | (with_reducible refine ca_id ?_); (first | refine O.ca 0 1 rfl ?_ | refine O.ca 0 2 rfl ?_ | refine O.ca 1 1 rfl ?_ | refine O.ca 1 2 rfl ?_))
  refine brr_tt (by simp) ?_
  repeat (first | (with_reducible refine al_id ?_); refine O.al fun _ h O => ?_ | (with_reducible refine nn_id ?_); refine ⟨_, rfl, ?_⟩ | (with_reducible refine ld_id ?_); (first | refine O.ld 0 rfl ?_ | refine O.ld 1 rfl ?_); (repeat (first | (with_reducible refine ldL_n ?_) | refine ldL_s ?_ | refine ldL_c ?_)) | (with_reducible refine st_ad (by first | (with_reducible rfl) | (simp only [pt_add, Nat.zero_add, Nat.add_zero, Nat.reduceAdd]; with_reducible rfl)) ?_); (first | refine O.st 0 rfl (by simp) rfl fun h O => ?_ | refine O.st 1 rfl (by simp) rfl fun h O => ?_); (dsimp only [V.put, List.set, List.length_cons, List.length_nil] at O) | (with_reducible refine ca_id ?_); (first | refine O.ca 0 1 rfl ?_ | refine O.ca 0 2 rfl ?_ | refine O.ca 1 1 rfl ?_ | refine O.ca 1 2 rfl ?_))
  refine brr_tt (by simp) ?_
  repeat (first | (with_reducible refine al_id ?_); refine O.al fun _ h O => ?_ | (with_reducible refine nn_id ?_); refine ⟨_, rfl, ?_⟩ | (with_reducible refine ld_id ?_); (first | refine O.ld 0 rfl ?_ | refine O.ld 1 rfl ?_); (repeat (first | (with_reducible refine ldL_n ?_) | refine ldL_s ?_ | refine ldL_c ?_)) | (with_reducible refine st_ad (by first | (with_reducible rfl) | (simp only [pt_add, Nat.zero_add, Nat.add_zero, Nat.reduceAdd]; with_reducible rfl)) ?_); (first | refine O.st 0 rfl (by simp) rfl fun h O => ?_ | refine O.st 1 rfl (by simp) rfl fun h O => ?_); (dsimp only [V.put, List.set, List.length_cons, List.length_nil] at O) | (with_reducible refine ca_id ?_); (first | refine O.ca 0 1 rfl ?_ | refine O.ca 0 2 rfl ?_ | refine O.ca 1 1 rfl ?_ | refine O.ca 1 2 rfl ?_))
  refine brr_tt (by simp) ?_
  repeat (first | (with_reducible refine al_id ?_); refine O.al fun _ h O => ?_ | (with_reducible refine nn_id ?_); refine ⟨_, rfl, ?_⟩ | (with_reducible refine ld_id ?_); (first | refine O.ld 0 rfl ?_ | refine O.ld 1 rfl ?_); (repeat (first | (with_reducible refine ldL_n ?_) | refine ldL_s ?_ | refine ldL_c ?_)) | (with_reducible refine st_ad (by first | (with_reducible rfl) | (simp only [pt_add, Nat.zero_add, Nat.add_zero, Nat.reduceAdd]; with_reducible rfl)) ?_); (first | refine O.st 0 rfl (by simp) rfl fun h O => ?_ | refine O.st 1 rfl (by simp) rfl fun h O => ?_); (dsimp only [V.put, List.set, List.length_cons, List.length_nil] at O) | (with_reducible refine ca_id ?_); (first | refine O.ca 0 1 rfl ?_ | refine O.ca 0 2 rfl ?_ | refine O.ca 1 1 rfl ?_ | refine O.ca 1 2 rfl ?_))
  refine brr_tt (by simp) ?_
  repeat (first | (with_reducible refine al_id ?_); refine O.al fun _ h O => ?_ | (with_reducible refine nn_id ?_); refine ⟨_, rfl, ?_⟩ | (with_reducible refine ld_id ?_); (first | refine O.ld 0 rfl ?_ | refine O.ld 1 rfl ?_); (repeat (first | (with_reducible refine ldL_n ?_) | refine ldL_s ?_ | refine ldL_c ?_)) | (with_reducible refine st_ad (by first | (with_reducible rfl) | (simp only [pt_add, Nat.zero_add, Nat.add_zero, Nat.reduceAdd]; with_reducible rfl)) ?_); (first | refine O.st 0 rfl (by simp) rfl fun h O => ?_ | refine O.st 1 rfl (by simp) rfl fun h O => ?_); (dsimp only [V.put, List.set, List.length_cons, List.length_nil] at O) | (with_reducible refine ca_id ?_); (first | refine O.ca 0 1 rfl ?_ | refine O.ca 0 2 rfl ?_ | refine O.ca 1 1 rfl ?_ | refine O.ca 1 2 rfl ?_))
  exact hj _ _ ⟨rfl, by simp⟩
end
end Go.Proofs.Ytcbelendjpnmiaa.V
namespace Go.Proofs.Ytcbelendjpnmiaa.V
open Go Go.RowKit
set_option linter.unusedVariables false
set_option maxRecDepth 100000
def F_law9_Life_at_of (f11_ : Option Addr → Heap → (Heap → Prop) → Prop) (f12_ : Int → Int → Int → Int → Int → Int → Int → Int → Int → Int → Sl → Int → Int → ByteArray → ByteArray → Int → Int → Int → Int → Int → Int → Int → Heap → (Int → Int → Int → Int → Int → Int → Int → Int → Int → Int → Sl → Int → Int → ByteArray → ByteArray → Int → Int → Int → Int → Int → Int → Int → Heap → Prop) → Prop) (f13_ : Option Addr → Int → Int → Int → Int → Int → Int → Int → Int → Int → Int → Sl → Int → Int → ByteArray → ByteArray → Int → Int → Int → Int → Int → Int → Int → Heap → (Int → Int → Int → Int → Int → Int → Int → Int → Int → Int → Sl → Int → Int → ByteArray → ByteArray → Int → Int → Int → Int → Int → Int → Int → Bool → Bool → Bool → Heap → Prop) → Prop) (f42_ : Option Addr → Int → Heap → (Bool → Heap → Prop) → Prop) (l1 l2 l3 : Int) (l4 : Sl) (l5 : Int) (l6 : Sl) (r7 : Option Addr) (i8 : Int) (h : Heap) (Q : Int → Int → Int → Int → Int → Int → Int → Int → Int → Int → Sl → Int → Int → ByteArray → ByteArray → Int → Int → Int → Int → Int → Int → Int → Int → Int → Int → Int → Int → Int → Int → Int → Int → Int → Sl → Int → Int → ByteArray → ByteArray → Int → Int → Int → Int → Int → Int → Int → Bool → Bool → Bool → Heap → Prop) : Prop :=
  al 63 [.int .u64 l1, .int .u64 l2, .int .u64 l3, .slice l4.ptr l4.len l4.cap, .int .i64 l5, .slice l6.ptr l6.len l6.cap] h fun (a9 : Addr) (h10 : Heap) =>
  al 42 [.int .i64 0, .int .i64 0, .int .i64 0, .int .i64 0, .int .u64 0, .int .u64 0, .int .u64 0, .int .u64 0, .int .i64 0, .int .u64 0, .slice none 0 0, .int .i64 0, .int .u64 0, .string (⟨#[]⟩ : ByteArray), .string (⟨#[]⟩ : ByteArray), .int .u64 0, .int .u64 0, .int .u64 0, .int .i64 0, .int .i64 0, .int .i64 0, .int .i64 0] h10 fun (a11 : Addr) (h12 : Heap) =>
  al 49 [.int .i64 0, .int .i64 0, .int .i64 0, .int .i64 0, .int .u64 0, .int .u64 0, .int .u64 0, .int .u64 0, .int .i64 0, .int .u64 0, .slice none 0 0, .int .i64 0, .int .u64 0, .string (⟨#[]⟩ : ByteArray), .string (⟨#[]⟩ : ByteArray), .int .u64 0, .int .u64 0, .int .u64 0, .int .i64 0, .int .i64 0, .int .i64 0, .int .i64 0, .bool false, .bool false, .bool false] h12 fun (a13 : Addr) (h14 : Heap) =>
  ld [.sl] (a9.add 5) h14 fun (v15 : Sl) =>
  ixS 30 v15 i8 fun (a16 : Addr) =>
  ld [.int .i64, .int .i64, .int .i64, .int .u64, .int .i64, .int .i64, .int .i64, .int .i64, .int .u64, .int .u64, .int .u64, .int .u64, .int .i64, .int .u64, .sl, .int .i64, .int .u64, .str, .str, .int .u64, .int .u64, .int .u64, .int .i64, .int .i64, .int .i64, .int .i64, .int .u64, .int .u64, .int .u64, .sl] a16 h14 fun (v17 v18 v19 v20 v21 v22 v23 v24 v25 v26 v27 v28 v29 v30 : Int) (v31 : Sl) (v32 v33 : Int) (v34 v35 : ByteArray) (v36 v37 v38 v39 v40 v41 v42 v43 v44 v45 : Int) (v46 : Sl) =>
  al 46 [.int .i64 0, .int .i64 0, .int .i64 0, .int .u64 0, .int .i64 0, .int .i64 0, .int .i64 0, .int .i64 0, .int .u64 0, .int .u64 0, .int .u64 0, .int .u64 0, .int .i64 0, .int .u64 0, .slice none 0 0, .int .i64 0, .int .u64 0, .string (⟨#[]⟩ : ByteArray), .string (⟨#[]⟩ : ByteArray), .int .u64 0, .int .u64 0, .int .u64 0, .int .i64 0, .int .i64 0, .int .i64 0, .int .i64 0, .int .u64 0, .int .u64 0, .int .u64 0, .slice none 0 0] h14 fun (a47 : Addr) (h48 : Heap) =>
  st a47 [.int .i64 v17, .int .i64 v18, .int .i64 v19, .int .u64 v20, .int .i64 v21, .int .i64 v22, .int .i64 v23, .int .i64 v24, .int .u64 v25, .int .u64 v26, .int .u64 v27, .int .u64 v28, .int .i64 v29, .int .u64 v30, .slice v31.ptr v31.len v31.cap, .int .i64 v32, .int .u64 v33, .string v34, .string v35, .int .u64 v36, .int .u64 v37, .int .u64 v38, .int .i64 v39, .int .i64 v40, .int .i64 v41, .int .i64 v42, .int .u64 v43, .int .u64 v44, .int .u64 v45, .slice v46.ptr v46.len v46.cap] h48 fun (h49 : Heap) =>
  ld [.int .i64] (a47.add 0) h49 fun (v50 : Int) =>
  brr (v50 == 1)
  (ld [.int .i64, .int .i64, .int .i64, .int .i64, .int .u64, .int .u64, .int .u64, .int .u64, .int .i64, .int .u64, .sl, .int .i64, .int .u64, .str, .str, .int .u64, .int .u64, .int .u64, .int .i64, .int .i64, .int .i64, .int .i64] (a47.add 4) h49 fun (v51 v52 v53 v54 v55 v56 v57 v58 v59 v60 : Int) (v61 : Sl) (v62 v63 : Int) (v64 v65 : ByteArray) (v66 v67 v68 v69 v70 v71 v72 : Int) =>
  ld [.int .i64, .int .i64, .int .i64, .int .i64, .int .u64, .int .u64, .int .u64, .int .u64, .int .i64, .int .u64, .sl, .int .i64, .int .u64, .str, .str, .int .u64, .int .u64, .int .u64, .int .i64, .int .i64, .int .i64, .int .i64] (a47.add 4) h49 fun (v73 v74 v75 v76 v77 v78 v79 v80 v81 v82 : Int) (v83 : Sl) (v84 v85 : Int) (v86 v87 : ByteArray) (v88 v89 v90 v91 v92 v93 v94 : Int) =>
  f12_ v73 v74 v75 v76 v77 v78 v79 v80 v81 v82 v83 v84 v85 v86 v87 v88 v89 v90 v91 v92 v93 v94 h49 fun (r95 r96 r97 r98 r99 r100 r101 r102 r103 r104 : Int) (r105 : Sl) (r106 r107 : Int) (r108 r109 : ByteArray) (r110 r111 r112 r113 r114 r115 r116 : Int) (h117 : Heap) =>
  cellsAre h117 (a47.add 4) [.int .i64 v51, .int .i64 v52, .int .i64 v53, .int .i64 v54, .int .u64 v55, .int .u64 v56, .int .u64 v57, .int .u64 v58, .int .i64 v59, .int .u64 v60, .slice v61.ptr v61.len v61.cap, .int .i64 v62, .int .u64 v63, .string v64, .string v65, .int .u64 v66, .int .u64 v67, .int .u64 v68, .int .i64 v69, .int .i64 v70, .int .i64 v71, .int .i64 v72] ∧
  f13_ r7 r95 r96 r97 r98 r99 r100 r101 r102 r103 r104 r105 r106 r107 r108 r109 r110 r111 r112 r113 r114 r115 r116 h117 fun (r118 r119 r120 r121 r122 r123 r124 r125 r126 r127 : Int) (r128 : Sl) (r129 r130 : Int) (r131 r132 : ByteArray) (r133 r134 r135 r136 r137 r138 r139 : Int) (r140 r141 r142 : Bool) (h143 : Heap) =>
  cellsAre h143 (a47.add 4) [.int .i64 v51, .int .i64 v52, .int .i64 v53, .int .i64 v54, .int .u64 v55, .int .u64 v56, .int .u64 v57, .int .u64 v58, .int .i64 v59, .int .u64 v60, .slice v61.ptr v61.len v61.cap, .int .i64 v62, .int .u64 v63, .string v64, .string v65, .int .u64 v66, .int .u64 v67, .int .u64 v68, .int .i64 v69, .int .i64 v70, .int .i64 v71, .int .i64 v72] ∧
  st a11 [.int .i64 v51, .int .i64 v52, .int .i64 v53, .int .i64 v54, .int .u64 v55, .int .u64 v56, .int .u64 v57, .int .u64 v58, .int .i64 v59, .int .u64 v60, .slice v61.ptr v61.len v61.cap, .int .i64 v62, .int .u64 v63, .string v64, .string v65, .int .u64 v66, .int .u64 v67, .int .u64 v68, .int .i64 v69, .int .i64 v70, .int .i64 v71, .int .i64 v72] h143 fun (h144 : Heap) =>
  st a13 [.int .i64 r118, .int .i64 r119, .int .i64 r120, .int .i64 r121, .int .u64 r122, .int .u64 r123, .int .u64 r124, .int .u64 r125, .int .i64 r126, .int .u64 r127, .slice r128.ptr r128.len r128.cap, .int .i64 r129, .int .u64 r130, .string r131, .string r132, .int .u64 r133, .int .u64 r134, .int .u64 r135, .int .i64 r136, .int .i64 r137, .int .i64 r138, .int .i64 r139, .bool r140, .bool r141, .bool r142] h144 fun (h145 : Heap) =>
  ld [.int .i64, .int .i64, .int .i64, .int .i64, .int .u64, .int .u64, .int .u64, .int .u64, .int .i64, .int .u64, .sl, .int .i64, .int .u64, .str, .str, .int .u64, .int .u64, .int .u64, .int .i64, .int .i64, .int .i64, .int .i64] a11 h145 fun (v146 v147 v148 v149 v150 v151 v152 v153 v154 v155 : Int) (v156 : Sl) (v157 v158 : Int) (v159 v160 : ByteArray) (v161 v162 v163 v164 v165 v166 v167 : Int) =>
  ld [.int .i64, .int .i64, .int .i64, .int .i64, .int .u64, .int .u64, .int .u64, .int .u64, .int .i64, .int .u64, .sl, .int .i64, .int .u64, .str, .str, .int .u64, .int .u64, .int .u64, .int .i64, .int .i64, .int .i64, .int .i64, .bool, .bool, .bool] a13 h145 fun (v168 v169 v170 v171 v172 v173 v174 v175 v176 v177 : Int) (v178 : Sl) (v179 v180 : Int) (v181 v182 : ByteArray) (v183 v184 v185 v186 v187 v188 v189 : Int) (v190 v191 v192 : Bool) =>
  Q v146 v147 v148 v149 v150 v151 v152 v153 v154 v155 v156 v157 v158 v159 v160 v161 v162 v163 v164 v165 v166 v167 v168 v169 v170 v171 v172 v173 v174 v175 v176 v177 v178 v179 v180 v181 v182 v183 v184 v185 v186 v187 v188 v189 v190 v191 v192 h145)
  (jn [] (fun  (h200 : Heap) =>
  st a11 [.int .i64 0, .int .i64 0, .int .i64 0, .int .i64 0, .int .u64 0, .int .u64 0, .int .u64 0, .int .u64 0, .int .i64 0, .int .u64 0, .slice none 0 0, .int .i64 0, .int .u64 0, .string (⟨#[]⟩ : ByteArray), .string (⟨#[]⟩ : ByteArray), .int .u64 0, .int .u64 0, .int .u64 0, .int .i64 0, .int .i64 0, .int .i64 0, .int .i64 0] h200 fun (h201 : Heap) =>
  st a13 [.int .i64 0, .int .i64 0, .int .i64 0, .int .i64 0, .int .u64 0, .int .u64 0, .int .u64 0, .int .u64 0, .int .i64 0, .int .u64 0, .slice none 0 0, .int .i64 0, .int .u64 0, .string (⟨#[]⟩ : ByteArray), .string (⟨#[]⟩ : ByteArray), .int .u64 0, .int .u64 0, .int .u64 0, .int .i64 0, .int .i64 0, .int .i64 0, .int .i64 0, .bool false, .bool false, .bool false] h201 fun (h202 : Heap) =>
  ld [.int .i64, .int .i64, .int .i64, .int .i64, .int .u64, .int .u64, .int .u64, .int .u64, .int .i64, .int .u64, .sl, .int .i64, .int .u64, .str, .str, .int .u64, .int .u64, .int .u64, .int .i64, .int .i64, .int .i64, .int .i64] a11 h202 fun (v203 v204 v205 v206 v207 v208 v209 v210 v211 v212 : Int) (v213 : Sl) (v214 v215 : Int) (v216 v217 : ByteArray) (v218 v219 v220 v221 v222 v223 v224 : Int) =>
  ld [.int .i64, .int .i64, .int .i64, .int .i64, .int .u64, .int .u64, .int .u64, .int .u64, .int .i64, .int .u64, .sl, .int .i64, .int .u64, .str, .str, .int .u64, .int .u64, .int .u64, .int .i64, .int .i64, .int .i64, .int .i64, .bool, .bool, .bool] a13 h202 fun (v225 v226 v227 v228 v229 v230 v231 v232 v233 v234 : Int) (v235 : Sl) (v236 v237 : Int) (v238 v239 : ByteArray) (v240 v241 v242 v243 v244 v245 v246 : Int) (v247 v248 v249 : Bool) =>
  Q v203 v204 v205 v206 v207 v208 v209 v210 v211 v212 v213 v214 v215 v216 v217 v218 v219 v220 v221 v222 v223 v224 v225 v226 v227 v228 v229 v230 v231 v232 v233 v234 v235 v236 v237 v238 v239 v240 v241 v242 v243 v244 v245 v246 v247 v248 v249 h202) (fun (j193 : Heap → Prop) =>
  brr (v50 == 2)
  (f11_ r7 h49 fun  (h194 : Heap) =>
  j193 h194)
  (jn [] (fun  (h199 : Heap) =>
  j193 h199) (fun (j195 : Heap → Prop) =>
  brr (v50 == 3)
  (ld [.int .u64] (a47.add 3) h49 fun (v196 : Int) =>
  f42_ r7 v196 h49 fun (r197 : Bool) (h198 : Heap) =>
  j195 h198)
  (j195 h49)))))
def F_law9_Life_at (l1 l2 l3 : Int) (l4 : Sl) (l5 : Int) (l6 : Sl) (r7 : Option Addr) (i8 : Int) (h : Heap) (Q : Int → Int → Int → Int → Int → Int → Int → Int → Int → Int → Sl → Int → Int → ByteArray → ByteArray → Int → Int → Int → Int → Int → Int → Int → Int → Int → Int → Int → Int → Int → Int → Int → Int → Int → Sl → Int → Int → ByteArray → ByteArray → Int → Int → Int → Int → Int → Int → Int → Bool → Bool → Bool → Heap → Prop) : Prop := F_law9_Life_at_of F_replica_Replica_Tick F_ref0_CopyMsg F_replica_Replica_Hear F_replica_Replica_Own l1 l2 l3 l4 l5 l6 r7 i8 h Q
def plan24 : Plan := .s (.r [1, 2, 3, 6, 7]) (.s (.r [1, 6, 7, 8]) (.s (.s (.r [1, 6, 7, 8, 15]) (.b (.s (.r [1, 6, 7, 8, 15, 16]) (.c (.s (.d [0, 1, 0, 0, 8, 24, 60, 127, 255] [[0, 1, 2, 3, 4, 5, 6, 7, 8]] [6, 7]) .z) (.s (.r [1, 6, 7, 8, 15, 25]) (.cj [] [6, 7] (.r [6, 7]) (.s (.r [1, 6, 7, 8, 29]) (.cj [] [6, 7] (.r [6, 7]) .z)))))))) (.s (.r [6, 7]) .z)))
theorem F_law9_Life_at.eq (f11_ : Option Addr → Heap → (Heap → Prop) → Prop) (f12_ : Int → Int → Int → Int → Int → Int → Int → Int → Int → Int → Sl → Int → Int → ByteArray → ByteArray → Int → Int → Int → Int → Int → Int → Int → Heap → (Int → Int → Int → Int → Int → Int → Int → Int → Int → Int → Sl → Int → Int → ByteArray → ByteArray → Int → Int → Int → Int → Int → Int → Int → Heap → Prop) → Prop) (f13_ : Option Addr → Int → Int → Int → Int → Int → Int → Int → Int → Int → Int → Sl → Int → Int → ByteArray → ByteArray → Int → Int → Int → Int → Int → Int → Int → Heap → (Int → Int → Int → Int → Int → Int → Int → Int → Int → Int → Sl → Int → Int → ByteArray → ByteArray → Int → Int → Int → Int → Int → Int → Int → Bool → Bool → Bool → Heap → Prop) → Prop) (f42_ : Option Addr → Int → Heap → (Bool → Heap → Prop) → Prop) (l1 l2 l3 : Int) (l4 : Sl) (l5 : Int) (l6 : Sl) (r7 : Option Addr) (i8 : Int) (h : Heap) (K : Value → Heap → Prop) : F_law9_Life_at_of f11_ f12_ f13_ f42_ l1 l2 l3 l4 l5 l6 r7 i8 h (fun (r0 r1 r2 r3 r4 r5 r6 r7 r8 r9 : Int) (r10 : Sl) (r11 r12 : Int) (r13 r14 : ByteArray) (r15 r16 r17 r18 r19 r20 r21 r22 r23 r24 r25 r26 r27 r28 r29 r30 r31 : Int) (r32 : Sl) (r33 r34 : Int) (r35 r36 : ByteArray) (r37 r38 r39 r40 r41 r42 r43 : Int) (r44 r45 r46 : Bool) (h : Heap) => K (.tuple #[.agg #[.int .i64 r0, .int .i64 r1, .int .i64 r2, .int .i64 r3, .int .u64 r4, .int .u64 r5, .int .u64 r6, .int .u64 r7, .int .i64 r8, .int .u64 r9, .slice r10.ptr r10.len r10.cap, .int .i64 r11, .int .u64 r12, .string r13, .string r14, .int .u64 r15, .int .u64 r16, .int .u64 r17, .int .i64 r18, .int .i64 r19, .int .i64 r20, .int .i64 r21], .agg #[.int .i64 r22, .int .i64 r23, .int .i64 r24, .int .i64 r25, .int .u64 r26, .int .u64 r27, .int .u64 r28, .int .u64 r29, .int .i64 r30, .int .u64 r31, .slice r32.ptr r32.len r32.cap, .int .i64 r33, .int .u64 r34, .string r35, .string r36, .int .u64 r37, .int .u64 r38, .int .u64 r39, .int .i64 r40, .int .i64 r41, .int .i64 r42, .int .i64 r43, .bool r44, .bool r45, .bool r46]]) h) =
    den Try.prog (fn1 11 (E_replica_Replica_Tick_of f11_) (fn1 12 (E_ref0_CopyMsg_of f12_) (fn1 13 (E_replica_Replica_Hear_of f13_) (fn1 42 (E_replica_Replica_Own_of f42_) noFns)))) Try.f24.ntmps plan24 (bodyOf Try.f24) (args0 0 [(.agg #[.int .u64 l1, .int .u64 l2, .int .u64 l3, .slice l4.ptr l4.len l4.cap, .int .i64 l5, .slice l6.ptr l6.len l6.cap] : Value), (.pointer r7 : Value), (.int .i64 i8 : Value)]) h ⟨fun env h => dRes Try.prog Try.f24.results.toList env h K, fun _ _ _ => False, fun env h => dRes Try.prog Try.f24.results.toList env h K⟩ := by kernel_rfl
def E_law9_Life_at_of (f : Int → Int → Int → Sl → Int → Sl → Option Addr → Int → Heap → (Int → Int → Int → Int → Int → Int → Int → Int → Int → Int → Sl → Int → Int → ByteArray → ByteArray → Int → Int → Int → Int → Int → Int → Int → Int → Int → Int → Int → Int → Int → Int → Int → Int → Int → Sl → Int → Int → ByteArray → ByteArray → Int → Int → Int → Int → Int → Int → Int → Bool → Bool → Bool → Heap → Prop) → Prop) : List Value → Heap → (Value → Heap → Prop) → Prop
  | [v0, v1, v2], h, K => vAgg v0 fun cs0 => decs [.int .u64, .int .u64, .int .u64, .sl, .int .i64, .sl] cs0.toList fun (l1 l2 l3 : Int) (l4 : Sl) (l5 : Int) (l6 : Sl) =>
  dec1 .ptr v1 fun (r7 : Option Addr) =>
  dec1 (.int .i64) v2 fun (i8 : Int) =>
  f l1 l2 l3 l4 l5 l6 r7 i8 h (fun (r0 r1 r2 r3 r4 r5 r6 r7 r8 r9 : Int) (r10 : Sl) (r11 r12 : Int) (r13 r14 : ByteArray) (r15 r16 r17 r18 r19 r20 r21 r22 r23 r24 r25 r26 r27 r28 r29 r30 r31 : Int) (r32 : Sl) (r33 r34 : Int) (r35 r36 : ByteArray) (r37 r38 r39 r40 r41 r42 r43 : Int) (r44 r45 r46 : Bool) (h : Heap) => K (.tuple #[.agg #[.int .i64 r0, .int .i64 r1, .int .i64 r2, .int .i64 r3, .int .u64 r4, .int .u64 r5, .int .u64 r6, .int .u64 r7, .int .i64 r8, .int .u64 r9, .slice r10.ptr r10.len r10.cap, .int .i64 r11, .int .u64 r12, .string r13, .string r14, .int .u64 r15, .int .u64 r16, .int .u64 r17, .int .i64 r18, .int .i64 r19, .int .i64 r20, .int .i64 r21], .agg #[.int .i64 r22, .int .i64 r23, .int .i64 r24, .int .i64 r25, .int .u64 r26, .int .u64 r27, .int .u64 r28, .int .u64 r29, .int .i64 r30, .int .u64 r31, .slice r32.ptr r32.len r32.cap, .int .i64 r33, .int .u64 r34, .string r35, .string r36, .int .u64 r37, .int .u64 r38, .int .u64 r39, .int .i64 r40, .int .i64 r41, .int .i64 r42, .int .i64 r43, .bool r44, .bool r45, .bool r46]]) h)
  | _, _, _ => False
abbrev E_law9_Life_at := E_law9_Life_at_of F_law9_Life_at
theorem E_law9_Life_at.right : IsRight Try.prog 24 E_law9_Life_at := by
  refine isRight fun vs K w hh => ?_
  match vs, hh with
  | [v0, v1, v2], hh =>
    unfold E_law9_Life_at E_law9_Life_at_of at hh
    replace hh := vAgg_sound hh; obtain ⟨cs0, rfl, hh⟩ := hh
    replace hh := decs_cons hh; obtain ⟨l1, l0_0, e0_0, hh⟩ := hh
    replace hh := decs_cons hh; obtain ⟨l2, l0_1, e0_1, hh⟩ := hh
    replace hh := decs_cons hh; obtain ⟨l3, l0_2, e0_2, hh⟩ := hh
    replace hh := decs_cons hh; obtain ⟨l4, l0_3, e0_3, hh⟩ := hh
    replace hh := decs_cons hh; obtain ⟨l5, l0_4, e0_4, hh⟩ := hh
    replace hh := decs_cons hh; obtain ⟨l6, l0_5, e0_5, hh⟩ := hh
    replace hh := decs_nil hh; obtain ⟨rfl, hh⟩ := hh
    subst e0_5
    subst e0_4
    subst e0_3
    subst e0_2
    subst e0_1
    have ec0 := toArray_eq e0_0
    subst ec0
    replace hh := dec1_sound hh; obtain ⟨r7, rfl, hh⟩ := hh
    replace hh := dec1_sound hh; obtain ⟨i8, rfl, hh⟩ := hh
    unfold F_law9_Life_at at hh
    exact calls_den (fn1_right ok11 E_replica_Replica_Tick.right (fn1_right ok12 E_ref0_CopyMsg.right (fn1_right ok13 E_replica_Replica_Hear.right (fn1_right ok42 E_replica_Replica_Own.right noFns_right)))) plan24 _ w K Try.func24 (by kernel_rfl) (by kernel_rfl) (Eq.mp (F_law9_Life_at.eq F_replica_Replica_Tick F_ref0_CopyMsg F_replica_Replica_Hear F_replica_Replica_Own l1 l2 l3 l4 l5 l6 r7 i8 w.heap K) hh)
theorem ok24 : okFn Try.prog 24 = true := by kernel_rfl
end Go.Proofs.Ytcbelendjpnmiaa.V
namespace Go.Proofs.Ytcbelendjpnmiaa.V
open Go Go.RowKit
set_option linter.unusedVariables false
set_option maxRecDepth 100000
def F_law9_lives_of (f10_ : Sl → Heap → (Option Addr → Heap → Prop) → Prop) (f13_ : Option Addr → Int → Int → Int → Int → Int → Int → Int → Int → Int → Int → Sl → Int → Int → ByteArray → ByteArray → Int → Int → Int → Int → Int → Int → Int → Heap → (Int → Int → Int → Int → Int → Int → Int → Int → Int → Int → Sl → Int → Int → ByteArray → ByteArray → Int → Int → Int → Int → Int → Int → Int → Bool → Bool → Bool → Heap → Prop) → Prop) (f23_ : Option Addr → Heap → (Int → Int → Int → Sl → Heap → Prop) → Prop) (f25_ : Sl → Sl → Heap → (Bool → Heap → Prop) → Prop) (f28_ : Option Addr → Heap → (Int → Heap → Prop) → Prop)  (h : Heap) (Q : Bool → Heap → Prop) : Prop :=
  al 5 [.int .u8 118] h fun (a1 : Addr) (h2 : Heap) =>
  frz (some a1) h2 fun (h3 : Heap) =>
  f10_ ⟨(some a1), 1, 1⟩ h3 fun (r4 : Option Addr) (h5 : Heap) =>
  brr r4.isNone
  (Q false h5)
  (f13_ r4 1 2 1 0 5 0 0 0 0 0 (⟨none, 0, 0⟩ : Sl) 0 0 (⟨#[]⟩ : ByteArray) (⟨#[]⟩ : ByteArray) 0 0 0 0 0 0 0 h5 fun (r6 r7 r8 r9 r10 r11 r12 r13 r14 r15 : Int) (r16 : Sl) (r17 r18 : Int) (r19 r20 : ByteArray) (r21 r22 r23 r24 r25 r26 r27 : Int) (r28 r29 r30 : Bool) (h31 : Heap) =>
  al 49 [.int .i64 0, .int .i64 0, .int .i64 0, .int .i64 0, .int .u64 0, .int .u64 0, .int .u64 0, .int .u64 0, .int .i64 0, .int .u64 0, .slice none 0 0, .int .i64 0, .int .u64 0, .string (⟨#[]⟩ : ByteArray), .string (⟨#[]⟩ : ByteArray), .int .u64 0, .int .u64 0, .int .u64 0, .int .i64 0, .int .i64 0, .int .i64 0, .int .i64 0, .bool false, .bool false, .bool false] h31 fun (a32 : Addr) (h33 : Heap) =>
  st a32 [.int .i64 r6, .int .i64 r7, .int .i64 r8, .int .i64 r9, .int .u64 r10, .int .u64 r11, .int .u64 r12, .int .u64 r13, .int .i64 r14, .int .u64 r15, .slice r16.ptr r16.len r16.cap, .int .i64 r17, .int .u64 r18, .string r19, .string r20, .int .u64 r21, .int .u64 r22, .int .u64 r23, .int .i64 r24, .int .i64 r25, .int .i64 r26, .int .i64 r27, .bool r28, .bool r29, .bool r30] h33 fun (h34 : Heap) =>
  al 5 [.int .u8 119] h34 fun (a35 : Addr) (h36 : Heap) =>
  frz (some a35) h36 fun (h37 : Heap) =>
  f13_ r4 4 2 1 0 0 5 1 0 3 0 ⟨(some a35), 1, 1⟩ 0 0 (⟨#[]⟩ : ByteArray) (⟨#[]⟩ : ByteArray) 0 0 0 0 0 0 0 h37 fun (r38 r39 r40 r41 r42 r43 r44 r45 r46 r47 : Int) (r48 : Sl) (r49 r50 : Int) (r51 r52 : ByteArray) (r53 r54 r55 r56 r57 r58 r59 : Int) (r60 r61 r62 : Bool) (h63 : Heap) =>
  al 49 [.int .i64 0, .int .i64 0, .int .i64 0, .int .i64 0, .int .u64 0, .int .u64 0, .int .u64 0, .int .u64 0, .int .i64 0, .int .u64 0, .slice none 0 0, .int .i64 0, .int .u64 0, .string (⟨#[]⟩ : ByteArray), .string (⟨#[]⟩ : ByteArray), .int .u64 0, .int .u64 0, .int .u64 0, .int .i64 0, .int .i64 0, .int .i64 0, .int .i64 0, .bool false, .bool false, .bool false] h63 fun (a64 : Addr) (h65 : Heap) =>
  st a64 [.int .i64 r38, .int .i64 r39, .int .i64 r40, .int .i64 r41, .int .u64 r42, .int .u64 r43, .int .u64 r44, .int .u64 r45, .int .i64 r46, .int .u64 r47, .slice r48.ptr r48.len r48.cap, .int .i64 r49, .int .u64 r50, .string r51, .string r52, .int .u64 r53, .int .u64 r54, .int .u64 r55, .int .i64 r56, .int .i64 r57, .int .i64 r58, .int .i64 r59, .bool r60, .bool r61, .bool r62] h65 fun (h66 : Heap) =>
  f23_ r4 h66 fun (r67 r68 r69 : Int) (r70 : Sl) (h71 : Heap) =>
  al 44 [.int .u64 0, .int .u64 0, .int .u64 0, .slice none 0 0] h71 fun (a72 : Addr) (h73 : Heap) =>
  st a72 [.int .u64 r67, .int .u64 r68, .int .u64 r69, .slice r70.ptr r70.len r70.cap] h73 fun (h74 : Heap) =>
  jn [(0, .one .bool)] (fun (x96 : Bool) (h97 : Heap) =>
  Q x96 h97) (fun (j75 : Bool → Heap → Prop) =>
  ld [.bool] (a32.add 22) h74 fun (v76 : Bool) =>
  brr v76
  (ld [.int .i64] (((a32.add 0).add 0).add 0) h74 fun (v77 : Int) =>
  brr (v77 == 2)
  (ld [.sl] ((a32.add 0).add 10) h74 fun (v78 : Sl) =>
  al 5 [.int .u8 118] h74 fun (a79 : Addr) (h80 : Heap) =>
  frz (some a79) h80 fun (h81 : Heap) =>
  f25_ v78 ⟨(some a79), 1, 1⟩ h81 fun (r82 : Bool) (h83 : Heap) =>
  brr r82
  (ld [.bool] (a64.add 23) h83 fun (v84 : Bool) =>
  brr v84
  (ld [.bool] (a64.add 24) h83 fun (v85 : Bool) =>
  brr v85
  (ld [.int .i64] (((a64.add 0).add 0).add 0) h83 fun (v86 : Int) =>
  brr (v86 == 5)
  (ld [.int .u64] (a72.add 0) h83 fun (v87 : Int) =>
  brr (v87 == 5)
  (ld [.sl] (a72.add 3) h83 fun (v88 : Sl) =>
  al 5 [.int .u8 119] h83 fun (a89 : Addr) (h90 : Heap) =>
  frz (some a89) h90 fun (h91 : Heap) =>
  f25_ v88 ⟨(some a89), 1, 1⟩ h91 fun (r92 : Bool) (h93 : Heap) =>
  brr r92
  (f28_ r4 h93 fun (r94 : Int) (h95 : Heap) =>
  j75 (r94 == 3) h95)
  (j75 false h93))
  (j75 false h83))
  (j75 false h83))
  (j75 false h83))
  (j75 false h83))
  (j75 false h83))
  (j75 false h74))
  (j75 false h74)))
def F_law9_lives  (h : Heap) (Q : Bool → Heap → Prop) : Prop := F_law9_lives_of F_replica_New F_replica_Replica_Hear F_replica_Replica_Stored F_ref0_Eq F_replica_Replica_Wait  h Q
def plan18 : Plan := .s (.r []) (.s (.r [1]) (.s (.s (.r [1, 9]) (.c (.s (.r [0]) .z) .z)) (.s (.r [1, 2]) (.s (.r [1, 2, 3]) (.s (.r [1, 2, 3, 4]) (.s (.rj [(0, .one .bool)] []) .z))))))
theorem F_law9_lives.eq (f10_ : Sl → Heap → (Option Addr → Heap → Prop) → Prop) (f13_ : Option Addr → Int → Int → Int → Int → Int → Int → Int → Int → Int → Int → Sl → Int → Int → ByteArray → ByteArray → Int → Int → Int → Int → Int → Int → Int → Heap → (Int → Int → Int → Int → Int → Int → Int → Int → Int → Int → Sl → Int → Int → ByteArray → ByteArray → Int → Int → Int → Int → Int → Int → Int → Bool → Bool → Bool → Heap → Prop) → Prop) (f23_ : Option Addr → Heap → (Int → Int → Int → Sl → Heap → Prop) → Prop) (f25_ : Sl → Sl → Heap → (Bool → Heap → Prop) → Prop) (f28_ : Option Addr → Heap → (Int → Heap → Prop) → Prop)  (h : Heap) (K : Value → Heap → Prop) : F_law9_lives_of f10_ f13_ f23_ f25_ f28_  h (fun (r0 : Bool) (h : Heap) => K (.bool r0) h) =
    den Try.prog (fn1 10 (E_replica_New_of f10_) (fn1 13 (E_replica_Replica_Hear_of f13_) (fn1 23 (E_replica_Replica_Stored_of f23_) (fn1 25 (E_ref0_Eq_of f25_) (fn1 28 (E_replica_Replica_Wait_of f28_) noFns))))) Try.f18.ntmps plan18 (bodyOf Try.f18) (args0 0 []) h ⟨fun env h => dRes Try.prog Try.f18.results.toList env h K, fun _ _ _ => False, fun env h => dRes Try.prog Try.f18.results.toList env h K⟩ := by kernel_rfl
def E_law9_lives_of (f : Heap → (Bool → Heap → Prop) → Prop) : List Value → Heap → (Value → Heap → Prop) → Prop
  | [], h, K => f  h (fun (r0 : Bool) (h : Heap) => K (.bool r0) h)
  | _, _, _ => False
abbrev E_law9_lives := E_law9_lives_of F_law9_lives
theorem E_law9_lives.nil (f : Heap → (Bool → Heap → Prop) → Prop) (h : Heap) (K : Value → Heap → Prop) : E_law9_lives_of f [] h K = f  h (fun (r0 : Bool) (h : Heap) => K (.bool r0) h) := rfl
theorem E_law9_lives.right : IsRight Try.prog 18 E_law9_lives := by
  refine isRight fun vs K w hh => ?_
  match vs, hh with
  | [], hh =>
    replace hh := Eq.mp (E_law9_lives.nil F_law9_lives w.heap K) hh
    unfold F_law9_lives at hh
    exact calls_den (fn1_right ok10 E_replica_New.right (fn1_right ok13 E_replica_Replica_Hear.right (fn1_right ok23 E_replica_Replica_Stored.right (fn1_right ok25 E_ref0_Eq.right (fn1_right ok28 E_replica_Replica_Wait.right noFns_right))))) plan18 _ w K Try.func18 (by kernel_rfl) (by kernel_rfl) (Eq.mp (F_law9_lives.eq F_replica_New F_replica_Replica_Hear F_replica_Replica_Stored F_ref0_Eq F_replica_Replica_Wait  w.heap K) hh)
theorem ok18 : okFn Try.prog 18 = true := by kernel_rfl
end Go.Proofs.Ytcbelendjpnmiaa.V
namespace Go.Proofs.Ytcbelendjpnmiaa.V
open Go Go.RowKit
set_option linter.unusedVariables false
set_option maxRecDepth 100000
def F_law9_less_of (f32_ : Int → Int → Int → Int → Heap → (Int → Heap → Prop) → Prop) (a1 a2 b3 b4 : Int) (h : Heap) (Q : Bool → Heap → Prop) : Prop :=
  al 37 [.int .u64 a1, .int .u64 a2] h fun (a5 : Addr) (h6 : Heap) =>
  al 37 [.int .u64 b3, .int .u64 b4] h6 fun (a7 : Addr) (h8 : Heap) =>
  ld [.int .u64, .int .u64] a5 h8 fun (v9 v10 : Int) =>
  ld [.int .u64, .int .u64] a7 h8 fun (v11 v12 : Int) =>
  f32_ v9 v10 v11 v12 h8 fun (r13 : Int) (h14 : Heap) =>
  Q (decide (r13 < 0)) h14
def F_law9_less (a1 a2 b3 b4 : Int) (h : Heap) (Q : Bool → Heap → Prop) : Prop := F_law9_less_of F_ref0_CmpTag a1 a2 b3 b4 h Q
def plan14 : Plan := .s (.r [2, 3]) (.s (.r [4]) .z)
theorem F_law9_less.eq (f32_ : Int → Int → Int → Int → Heap → (Int → Heap → Prop) → Prop) (a1 a2 b3 b4 : Int) (h : Heap) (K : Value → Heap → Prop) : F_law9_less_of f32_ a1 a2 b3 b4 h (fun (r0 : Bool) (h : Heap) => K (.bool r0) h) =
    den Try.prog (fn1 32 (E_ref0_CmpTag_of f32_) noFns) Try.f14.ntmps plan14 (bodyOf Try.f14) (args0 0 [(.agg #[.int .u64 a1, .int .u64 a2] : Value), (.agg #[.int .u64 b3, .int .u64 b4] : Value)]) h ⟨fun env h => dRes Try.prog Try.f14.results.toList env h K, fun _ _ _ => False, fun env h => dRes Try.prog Try.f14.results.toList env h K⟩ := by kernel_rfl
def E_law9_less_of (f : Int → Int → Int → Int → Heap → (Bool → Heap → Prop) → Prop) : List Value → Heap → (Value → Heap → Prop) → Prop
  | [v0, v1], h, K => vAgg v0 fun cs0 => decs [.int .u64, .int .u64] cs0.toList fun (a1 a2 : Int) =>
  vAgg v1 fun cs1 => decs [.int .u64, .int .u64] cs1.toList fun (b3 b4 : Int) =>
  f a1 a2 b3 b4 h (fun (r0 : Bool) (h : Heap) => K (.bool r0) h)
  | _, _, _ => False
abbrev E_law9_less := E_law9_less_of F_law9_less
theorem E_law9_less.right : IsRight Try.prog 14 E_law9_less := by
  refine isRight fun vs K w hh => ?_
  match vs, hh with
  | [v0, v1], hh =>
    unfold E_law9_less E_law9_less_of at hh
    replace hh := vAgg_sound hh; obtain ⟨cs0, rfl, hh⟩ := hh
    replace hh := decs_cons hh; obtain ⟨a1, l0_0, e0_0, hh⟩ := hh
    replace hh := decs_cons hh; obtain ⟨a2, l0_1, e0_1, hh⟩ := hh
    replace hh := decs_nil hh; obtain ⟨rfl, hh⟩ := hh
    subst e0_1
    have ec0 := toArray_eq e0_0
    subst ec0
    replace hh := vAgg_sound hh; obtain ⟨cs1, rfl, hh⟩ := hh
    replace hh := decs_cons hh; obtain ⟨b3, l1_0, e1_0, hh⟩ := hh
    replace hh := decs_cons hh; obtain ⟨b4, l1_1, e1_1, hh⟩ := hh
    replace hh := decs_nil hh; obtain ⟨rfl, hh⟩ := hh
    subst e1_1
    have ec1 := toArray_eq e1_0
    subst ec1
    unfold F_law9_less at hh
    exact calls_den (fn1_right ok32 E_ref0_CmpTag.right noFns_right) plan14 _ w K Try.func14 (by kernel_rfl) (by kernel_rfl) (Eq.mp (F_law9_less.eq F_ref0_CmpTag a1 a2 b3 b4 w.heap K) hh)
theorem ok14 : okFn Try.prog 14 = true := by kernel_rfl
end Go.Proofs.Ytcbelendjpnmiaa.V
/- The replica's laws: the calls of a life; a replica promises and stores. -/
namespace Go.Proofs.Ytcbelendjpnmiaa.V
open Go Go.RowKit
set_option linter.unusedVariables false
set_option linter.unusedSimpArgs false
structure ROp where
  do_ : Int
  which : Int
  span : Int
  epoch : Int
  m : Mg
  sp : Int
  ste : Int
  sts : Int
  sv : Sl
  sb : List UInt8
def ropC (o : ROp) : List Value := [.int .i64 o.do_, .int .i64 o.which, .int .i64 o.span, .int .u64 o.epoch, .int .i64 o.m.kind, .int .i64 o.m.frm, .int .i64 o.m.to, .int .i64 o.m.shard, .int .u64 o.m.epoch, .int .u64 o.m.te, .int .u64 o.m.ts, .int .u64 o.m.round, .int .i64 o.m.span, .int .u64 o.m.seen, .slice o.m.v.ptr o.m.v.len o.m.v.cap, .int .i64 o.m.peer, .int .u64 o.m.num, .string o.m.name, .string o.m.other, .int .u64 o.m.amount, .int .u64 o.m.life, .int .u64 o.m.id, .int .i64 o.m.op, .int .i64 o.m.client, .int .i64 o.m.state, .int .i64 o.m.bad, .int .u64 o.sp, .int .u64 o.ste, .int .u64 o.sts, .slice o.sv.ptr o.sv.len o.sv.cap]
abbrev tyB : Ty := .sl 1 1 (.int .u8)
abbrev tyMsg : Ty := .cons (.cons (.int .i64) (.cons (.int .i64) (.cons (.int .i64) (.cons (.int .i64) .nil)))) (.cons (.int .u64) (.cons (.cons (.int .u64) (.cons (.int .u64) .nil)) (.cons (.int .u64) (.cons (.int .i64) (.cons (.int .u64) (.cons tyB (.cons (.int .i64) (.cons (.int .u64) (.cons .str (.cons .str (.cons (.int .u64) (.cons (.cons (.int .u64) (.cons (.int .u64) .nil)) (.cons (.int .i64) (.cons (.int .i64) (.cons (.int .i64) (.cons (.int .i64) .nil))))))))))))))))
abbrev tyStored : Ty := .cons (.int .u64) (.cons (.cons (.int .u64) (.cons (.int .u64) .nil)) (.cons tyB .nil))
abbrev tyROp : Ty := .cons (.int .i64) (.cons (.int .i64) (.cons (.int .i64) (.cons (.int .u64) (.cons tyMsg (.cons tyStored .nil)))))
abbrev tyLife : Ty := .cons tyStored (.cons (.int .i64) (.cons (.sl 30 288 tyROp) .nil))
structure ROp.Ok (h : Heap) (o : ROp) : Prop where
  mv : Bytes h o.m.v o.m.b
  mb : o.m.b.length ≤ (140737488355325 : Nat)
  mspan : o.m.span ≤ (9223372036854775807 : Int)
  me : 0 ≤ o.m.epoch ∧ o.m.epoch ≤ (18446744073709551615 : Int)
  mte : 0 ≤ o.m.te ∧ o.m.te ≤ (18446744073709551615 : Int)
  ep : 0 ≤ o.epoch ∧ o.epoch ≤ (18446744073709551615 : Int)
  span : o.span ≤ (9223372036854775807 : Int)
  sv : Bytes h o.sv o.sb
  sb : o.sb.length ≤ (140737488355325 : Nat)
  spr : 0 ≤ o.sp ∧ o.sp ≤ (18446744073709551615 : Int)
def ropR (h : Heap) (o : ROp) (cs : List Value) : Prop := cs = ropC o ∧ o.Ok h
theorem SlN.rops {h : Heap} {s : Sl} (S : SlN h 140737488351232 30 288 s fun cs => Fit h 140737488351232 tyROp cs) : ∃ l : List ROp, View h 30 (ropR h) s l := by
  obtain ⟨h1, h2, _, xs, V⟩ := S.view (ropR h) (fun cs F => by
    obtain ⟨t1, _, rfl, t1a, t1b, F⟩ := Fit.i F
    obtain ⟨t2, _, rfl, t2a, t2b, F⟩ := Fit.i F
    obtain ⟨t3, _, rfl, t3a, t3b, F⟩ := Fit.i F
    obtain ⟨t4, _, rfl, t4a, t4b, F⟩ := Fit.i F
    replace F := Fit.g F
    replace F := Fit.g F
    obtain ⟨m1, _, rfl, m1a, m1b, F⟩ := Fit.i F
    replace F := Fit.g F
    obtain ⟨m2, _, rfl, m2a, m2b, F⟩ := Fit.i F
    replace F := Fit.g F
    obtain ⟨m3, _, rfl, m3a, m3b, F⟩ := Fit.i F
    replace F := Fit.g F
    obtain ⟨m4, _, rfl, m4a, m4b, F⟩ := Fit.i F
    replace F := Fit.z F
    replace F := Fit.g F
    obtain ⟨m5, _, rfl, m5a, m5b, F⟩ := Fit.i F
    replace F := Fit.g F
    replace F := Fit.g F
    obtain ⟨m6, _, rfl, m6a, m6b, F⟩ := Fit.i F
    replace F := Fit.g F
    obtain ⟨m7, _, rfl, m7a, m7b, F⟩ := Fit.i F
    replace F := Fit.z F
    replace F := Fit.g F
    obtain ⟨m8, _, rfl, m8a, m8b, F⟩ := Fit.i F
    replace F := Fit.g F
    obtain ⟨m9, _, rfl, m9a, m9b, F⟩ := Fit.i F
    replace F := Fit.g F
    obtain ⟨m10, _, rfl, m10a, m10b, F⟩ := Fit.i F
    replace F := Fit.g F
    obtain ⟨m11, _, rfl, m11S, F⟩ := Fit.s F
    replace F := Fit.g F
    obtain ⟨m12, _, rfl, m12a, m12b, F⟩ := Fit.i F
    replace F := Fit.g F
    obtain ⟨m13, _, rfl, m13a, m13b, F⟩ := Fit.i F
    replace F := Fit.g F
    obtain ⟨m14, _, rfl, m14l, F⟩ := Fit.a F
    replace F := Fit.g F
    obtain ⟨m15, _, rfl, m15l, F⟩ := Fit.a F
    replace F := Fit.g F
    obtain ⟨m16, _, rfl, m16a, m16b, F⟩ := Fit.i F
    replace F := Fit.g F
    replace F := Fit.g F
    obtain ⟨m17, _, rfl, m17a, m17b, F⟩ := Fit.i F
    replace F := Fit.g F
    obtain ⟨m18, _, rfl, m18a, m18b, F⟩ := Fit.i F
    replace F := Fit.z F
    replace F := Fit.g F
    obtain ⟨m19, _, rfl, m19a, m19b, F⟩ := Fit.i F
    replace F := Fit.g F
    obtain ⟨m20, _, rfl, m20a, m20b, F⟩ := Fit.i F
    replace F := Fit.g F
    obtain ⟨m21, _, rfl, m21a, m21b, F⟩ := Fit.i F
    replace F := Fit.g F
    obtain ⟨m22, _, rfl, m22a, m22b, F⟩ := Fit.i F
    replace F := Fit.z F
    replace F := Fit.g F
    obtain ⟨s1, _, rfl, s1a, s1b, F⟩ := Fit.i F
    replace F := Fit.g F
    replace F := Fit.g F
    obtain ⟨s2, _, rfl, s2a, s2b, F⟩ := Fit.i F
    replace F := Fit.g F
    obtain ⟨s3, _, rfl, s3a, s3b, F⟩ := Fit.i F
    replace F := Fit.z F
    replace F := Fit.g F
    obtain ⟨s4, _, rfl, s4S, F⟩ := Fit.s F
    replace F := Fit.z F
    obtain rfl := Fit.e F
    obtain ⟨_, a2, l, Vl⟩ := m11S.bytes
    obtain ⟨_, b2, l2, Vl2⟩ := s4S.bytes
    have hl := Vl.len
    have hl2 := Vl2.len
    rw [u64_min] at m5a m6a t4a s1a; rw [u64_max] at m5b m6b t4b s1b; rw [i64_max] at m9b t3b
    refine ⟨⟨t1, t2, t3, t4, ⟨m1, m2, m3, m4, m5, m6, m7, m8, m9, m10, m11, m12, m13, m14, m15, m16, m17, m18, m19, m20, m21, m22, l⟩, s1, s2, s3, s4, l2⟩, rfl, Vl, ?_, m9b, ⟨m5a, m5b⟩, ⟨m6a, m6b⟩, ⟨t4a, t4b⟩, t3b, Vl2, ?_, ⟨s1a, s1b⟩⟩
    · show l.length ≤ _; omega
    · show l2.length ≤ _; omega)
  exact ⟨xs, V⟩
theorem spanOf_ok {s : Int} (h : s ≤ (9223372036854775807 : Int)) : 0 ≤ spanOf s ∧ spanOf s ≤ (9223372036854775807 : Int) := by unfold spanOf; split <;> omega
theorem spanOf_id {s : Int} (h : 0 ≤ s) : spanOf s = s := by unfold spanOf; split <;> omega
theorem hearS_ok {r : RS} {m : Mg} (ok : r.Ok) (hb : m.b.length ≤ (140737488355325 : Nat)) (hs : m.span ≤ (9223372036854775807 : Int)) : (hearS r m).1.Ok := by
  have hsp := spanOf_ok hs
  have h1 : ∀ e, (r.take_ e m.span).Ok := fun e => ⟨ok.v, hsp.1, hsp.2⟩
  unfold hearS act
  dsimp only
  split
  · unfold prep; split
    · exact ok
    · exact ⟨ok.v, ok.w0, ok.w1⟩
  split
  · unfold writ; split
    · exact ok
    split
    · exact h1 _
    split
    · exact ⟨hb, hsp.1, hsp.2⟩
    · exact h1 _
  split
  · unfold beats; split
    · exact ok
    · exact h1 _
  · exact ok
def mg0 : Mg := ⟨0, 0, 0, 0, 0, 0, 0, 0, 0, 0, ⟨none, 0, 0⟩, 0, 0, ⟨#[]⟩, ⟨#[]⟩, 0, 0, 0, 0, 0, 0, 0, []⟩
def lifeM (o : ROp) : Mg := if o.do_ = 1 then o.m else mg0
def lifeD (r : RS) (o : ROp) : HD := if o.do_ = 1 then (hearS r o.m).2 else hd0
def tickS (r : RS) : RS := { r with wait := if r.wait = 0 then 0 else r.wait - 1 }
def ownS (r : RS) (e : Int) : RS := { r with prom := if r.prom > e then r.prom else e }
def lifeS (r : RS) (o : ROp) : RS := if o.do_ = 1 then (hearS r o.m).1 else if o.do_ = 2 then tickS r else if o.do_ = 3 then ownS r o.epoch else r
theorem tickS_ok {r : RS} (ok : r.Ok) : (tickS r).Ok := ⟨ok.v, by have := ok.w0; show 0 ≤ (if r.wait = 0 then 0 else r.wait - 1); split <;> omega, by have := ok.w0; have := ok.w1; show (if r.wait = 0 then 0 else r.wait - 1) ≤ _; split <;> omega⟩
theorem lifeS_ok {h : Heap} {r : RS} {o : ROp} (ok : r.Ok) (oo : o.Ok h) : (lifeS r o).Ok := by
  unfold lifeS
  split
  · exact hearS_ok ok oo.mb oo.mspan
  split
  · exact tickS_ok ok
  split
  · exact ⟨ok.v, ok.w0, ok.w1⟩
  · exact ok
theorem lifeM_b {h : Heap} {o : ROp} (oo : o.Ok h) : Bytes h (lifeM o).v (lifeM o).b ∧ (lifeM o).b.length ≤ (140737488355325 : Nat) := by
  unfold lifeM
  split
  · exact ⟨oo.mv, oo.mb⟩
  · exact ⟨View.nil (p := none) (c := 0), by simp [mg0]⟩
section
variable {h0 h : Heap} {L : List Res}
theorem F_law9_Life_at.is {p : Nat} {r : RS} {o : ROp} {ops : List ROp} {a b c d i : Int} {v ls : Sl} {Q : Int → Int → Int → Int → Int → Int → Int → Int → Int → Int → Sl → Int → Int → ByteArray → ByteArray → Int → Int → Int → Int → Int → Int → Int → Int → Int → Int → Int → Int → Int → Int → Int → Int → Int → Sl → Int → Int → ByteArray → ByteArray → Int → Int → Int → Int → Int → Int → Int → Bool → Bool → Bool → Heap → Prop} (Vo : View h0 30 (ropR h0) ls ops) (hi : 0 ≤ i) (ho : ops[i.toNat]? = some o) (ok : r.Ok) (O : Sat h0 h (repR p r :: L))
    (k : ∀ s h', Sat h0 h' (buf 1 u8 s (lifeD r o).val :: repR p (lifeS r o) :: L) → Q (lifeM o).kind (lifeM o).frm (lifeM o).to (lifeM o).shard (lifeM o).epoch (lifeM o).te (lifeM o).ts (lifeM o).round (lifeM o).span (lifeM o).seen (lifeM o).v (lifeM o).peer (lifeM o).num (lifeM o).name (lifeM o).other (lifeM o).amount (lifeM o).life (lifeM o).id (lifeM o).op (lifeM o).client (lifeM o).state (lifeM o).bad (lifeD r o).kind (lifeD r o).frm (lifeD r o).to (lifeD r o).shard (lifeD r o).epoch (lifeD r o).te (lifeD r o).ts (lifeD r o).round 0 (lifeD r o).seen s 0 0 ⟨#[]⟩ ⟨#[]⟩ 0 0 0 0 0 0 0 (lifeD r o).ans (lifeD r o).tak (lifeD r o).chg h') : F_law9_Life_at a b c v d ls (some (pt p 0)) i h Q := by
  rw [F_law9_Life_at.eq_1, F_law9_Life_at_of.eq_1]
  refine O.al fun x9 h O => ?_
  refine O.al fun x11 h O => ?_
  refine O.al fun x13 h O => ?_
  repeat (first | (with_reducible refine al_id ?_); refine O.al fun _ h O => ?_ | (with_reducible refine nn_id ?_); refine ⟨_, rfl, ?_⟩ | (with_reducible refine ld_id ?_); (first | refine O.ld 0 rfl ?_ | refine O.ld 1 rfl ?_ | refine O.ld 2 rfl ?_); (repeat (first | (with_reducible refine ldL_n ?_) | refine ldL_s ?_ | refine ldL_c ?_)) | (with_reducible refine st_ad (by first | (with_reducible rfl) | (simp only [pt_add, Nat.zero_add, Nat.add_zero, Nat.reduceAdd]; with_reducible rfl)) ?_); (first | refine O.st 0 rfl (by simp) rfl fun h O => ?_ | refine O.st 1 rfl (by simp) rfl fun h O => ?_ | refine O.st 2 rfl (by simp) rfl fun h O => ?_); (dsimp only [V.put, List.set, List.length_cons, List.length_nil] at O) | (with_reducible refine ca_id ?_); (first | refine O.ca 0 1 rfl ?_ | refine O.ca 0 2 rfl ?_ | refine O.ca 1 1 rfl ?_ | refine O.ca 1 2 rfl ?_ | refine O.ca 2 1 rfl ?_ | refine O.ca 2 2 rfl ?_))
  refine (Vo.kept O.kept).ix hi (by have := (List.getElem?_eq_some_iff.1 ho).1; omega) fun a2 cs o2 ho2 hlen hR hc => ?_
  rw [ho] at ho2; cases ho2
  obtain ⟨rfl, oo⟩ := hR
  refine ld_are hc ?_
  unfold ropC
  repeat (first | (with_reducible refine ldL_n ?_) | refine ldL_s ?_ | refine ldL_c ?_)
  refine O.al fun x47 h O => ?_
  repeat (first | (with_reducible refine al_id ?_); refine O.al fun _ h O => ?_ | (with_reducible refine nn_id ?_); refine ⟨_, rfl, ?_⟩ | (with_reducible refine ld_id ?_); (first | refine O.ld 0 rfl ?_); (repeat (first | (with_reducible refine ldL_n ?_) | refine ldL_s ?_ | refine ldL_c ?_)) | (with_reducible refine st_ad (by first | (with_reducible rfl) | (simp only [pt_add, Nat.zero_add, Nat.add_zero, Nat.reduceAdd]; with_reducible rfl)) ?_); (first | refine O.st 0 rfl (by simp) rfl fun h O => ?_); (dsimp only [V.put, List.set, List.length_cons, List.length_nil] at O) | (with_reducible refine ca_id ?_); (first | refine O.ca 0 1 rfl ?_ | refine O.ca 0 2 rfl ?_))
  -- own x47, x13, x11, x9, repR
  refine brr_eq (fun h1 => ?_) (fun h1 => ?_)
  · have e1 : lifeM o = o.m := by unfold lifeM; rw [if_pos h1]
    have e2 : lifeD r o = (hearS r o.m).2 := by unfold lifeD; rw [if_pos h1]
    have e3 : lifeS r o = (hearS r o.m).1 := by unfold lifeS; rw [if_pos h1]
    rw [e1, e2, e3] at k
    repeat (first | (with_reducible refine al_id ?_); refine O.al fun _ h O => ?_ | (with_reducible refine nn_id ?_); refine ⟨_, rfl, ?_⟩ | (with_reducible refine ld_id ?_); (first | refine O.ld 0 rfl ?_); (repeat (first | (with_reducible refine ldL_n ?_) | refine ldL_s ?_ | refine ldL_c ?_)) | (with_reducible refine st_ad (by first | (with_reducible rfl) | (simp only [pt_add, Nat.zero_add, Nat.add_zero, Nat.reduceAdd]; with_reducible rfl)) ?_); (first | refine O.st 0 rfl (by simp) rfl fun h O => ?_); (dsimp only [V.put, List.set, List.length_cons, List.length_nil] at O) | (with_reducible refine ca_id ?_); (first | refine O.ca 0 1 rfl ?_ | refine O.ca 0 2 rfl ?_))
    refine F_ref0_CopyMsg.is (m := o.m) O (fun h O => oo.mv.kept O.kept) oo.mb fun s1 h O => ?_
    refine ⟨cellsAre_blk (O.blk (i := 1) (by simp) rfl).2 4 22, ?_⟩
    replace O := O.sel [5, 0, 1, 2, 3, 4] 6 rfl (Nat.le_add_left _ _)
    simp only [selT, List.map, nth, List.drop, List.cons_append, List.nil_append] at O
    refine F_replica_Replica_Hear.is (m := { o.m with v := s1 }) ok (fun h O => (O.view 0 u8_len (by simp) rfl).1) oo.mb O fun s h O => ?_
    refine ⟨cellsAre_blk (O.blk (i := 3) (by simp) rfl).2 4 22, ?_⟩
    repeat (first | (with_reducible refine al_id ?_); refine O.al fun _ h O => ?_ | (with_reducible refine nn_id ?_); refine ⟨_, rfl, ?_⟩ | (with_reducible refine ld_id ?_); (first | refine O.ld 0 rfl ?_ | refine O.ld 1 rfl ?_ | refine O.ld 2 rfl ?_ | refine O.ld 3 rfl ?_ | refine O.ld 4 rfl ?_ | refine O.ld 5 rfl ?_); (repeat (first | (with_reducible refine ldL_n ?_) | refine ldL_s ?_ | refine ldL_c ?_)) | (with_reducible refine st_ad (by first | (with_reducible rfl) | (simp only [pt_add, Nat.zero_add, Nat.add_zero, Nat.reduceAdd]; with_reducible rfl)) ?_); (first | refine O.st 0 rfl (by simp) rfl fun h O => ?_ | refine O.st 1 rfl (by simp) rfl fun h O => ?_ | refine O.st 2 rfl (by simp) rfl fun h O => ?_ | refine O.st 3 rfl (by simp) rfl fun h O => ?_ | refine O.st 4 rfl (by simp) rfl fun h O => ?_ | refine O.st 5 rfl (by simp) rfl fun h O => ?_); (dsimp only [V.put, List.set, List.length_cons, List.length_nil] at O) | (with_reducible refine ca_id ?_); (first | refine O.ca 0 1 rfl ?_ | refine O.ca 0 2 rfl ?_ | refine O.ca 1 1 rfl ?_ | refine O.ca 1 2 rfl ?_ | refine O.ca 2 1 rfl ?_ | refine O.ca 2 2 rfl ?_ | refine O.ca 3 1 rfl ?_ | refine O.ca 3 2 rfl ?_ | refine O.ca 4 1 rfl ?_ | refine O.ca 4 2 rfl ?_ | refine O.ca 5 1 rfl ?_ | refine O.ca 5 2 rfl ?_))
    have e4 : hearS r { o.m with v := s1 } = hearS r o.m := rfl
    rw [e4] at O
    exact k _ _ (O.sel [0, 1] 7 rfl (Nat.le_add_left _ _))
  have e1 : lifeM o = mg0 := by unfold lifeM; rw [if_neg h1]
  have e2 : lifeD r o = hd0 := by unfold lifeD; rw [if_neg h1]
  rw [e1, e2] at k
  refine jn0 (fun h' => Sat h0 h' (repR p (lifeS r o) :: own x13 [.int .i64 0, .int .i64 0, .int .i64 0, .int .i64 0, .int .u64 0, .int .u64 0, .int .u64 0, .int .u64 0, .int .i64 0, .int .u64 0, .slice none 0 0, .int .i64 0, .int .u64 0, .string (⟨#[]⟩ : ByteArray), .string (⟨#[]⟩ : ByteArray), .int .u64 0, .int .u64 0, .int .u64 0, .int .i64 0, .int .i64 0, .int .i64 0, .int .i64 0, .bool false, .bool false, .bool false] :: own x11 [.int .i64 0, .int .i64 0, .int .i64 0, .int .i64 0, .int .u64 0, .int .u64 0, .int .u64 0, .int .u64 0, .int .i64 0, .int .u64 0, .slice none 0 0, .int .i64 0, .int .u64 0, .string (⟨#[]⟩ : ByteArray), .string (⟨#[]⟩ : ByteArray), .int .u64 0, .int .u64 0, .int .u64 0, .int .i64 0, .int .i64 0, .int .i64 0, .int .i64 0] :: L)) ?_ ?_
  · clear O
    intro h O
    repeat (first | (with_reducible refine al_id ?_); refine O.al fun _ h O => ?_ | (with_reducible refine nn_id ?_); refine ⟨_, rfl, ?_⟩ | (with_reducible refine ld_id ?_); (first | refine O.ld 0 rfl ?_ | refine O.ld 1 rfl ?_ | refine O.ld 2 rfl ?_); (repeat (first | (with_reducible refine ldL_n ?_) | refine ldL_s ?_ | refine ldL_c ?_)) | (with_reducible refine st_ad (by first | (with_reducible rfl) | (simp only [pt_add, Nat.zero_add, Nat.add_zero, Nat.reduceAdd]; with_reducible rfl)) ?_); (first | refine O.st 0 rfl (by simp) rfl fun h O => ?_ | refine O.st 1 rfl (by simp) rfl fun h O => ?_ | refine O.st 2 rfl (by simp) rfl fun h O => ?_); (dsimp only [V.put, List.set, List.length_cons, List.length_nil] at O) | (with_reducible refine ca_id ?_); (first | refine O.ca 0 1 rfl ?_ | refine O.ca 0 2 rfl ?_ | refine O.ca 1 1 rfl ?_ | refine O.ca 1 2 rfl ?_ | refine O.ca 2 1 rfl ?_ | refine O.ca 2 2 rfl ?_))
    exact k _ _ (O.sel [0] 3 rfl (Nat.le_add_left _ _)).nil_buf
  · intro j hj
    have O2 := O
    replace O := O.sel [4, 1, 2, 0] 5 rfl (Nat.le_add_left _ _)
    simp only [selT, List.map, nth, List.drop, List.cons_append, List.nil_append] at O
    refine brr_eq (fun h2 => ?_) (fun h2 => ?_)
    · have e3 : lifeS r o = tickS r := by unfold lifeS; rw [if_neg h1, if_pos h2]
      rw [e3] at hj
      refine F_replica_Replica_Tick.is ok O fun h O => ?_
      exact hj _ (O.sel [0, 1, 2] 4 rfl (Nat.le_add_left _ _))
    refine jn_go ?_
    refine brr_eq (fun h3 => ?_) (fun h3 => ?_)
    · have e3 : lifeS r o = ownS r o.epoch := by unfold lifeS; rw [if_neg h1, if_neg h2, if_pos h3]
      rw [e3] at hj
      refine O.ld 3 rfl (ldL_c (ldL_n ?_))
      refine F_replica_Replica_Own.is O fun h O => ?_
      exact hj _ (O.sel [0, 1, 2] 4 rfl (Nat.le_add_left _ _))
    · have e3 : lifeS r o = r := by unfold lifeS; rw [if_neg h1, if_neg h2, if_neg h3]
      rw [e3] at hj
      exact hj _ (O.sel [0, 1, 2] 4 rfl (Nat.le_add_left _ _))
theorem F_law9_lives.is {Q : Bool → Heap → Prop} (O : Sat h0 h L) (k : ∀ h', Sat h0 h' L → Q true h') : F_law9_lives h Q := by
  rw [F_law9_lives.eq_1, F_law9_lives_of.eq_1]
  refine O.al fun x1 h O => ?_
  refine O.frz fun h O => ?_
  have O := lit_buf (x := 118) O
  refine F_replica_New.is (xs := [118]) O (fun h O => (O.view 0 u8_len (by simp) rfl).1) (by simp) fun p h O => ?_
  refine brr_ff rfl ?_
  have ok0 : RS.Ok ⟨0, 0, 0, [118], 0⟩ := ⟨by simp, by decide, by decide⟩
  refine F_replica_Replica_Hear.is (m := { mg0 with kind := 1, frm := 2, to := 1, epoch := 5 }) ok0 (fun h O => View.nil (p := none) (c := 0)) (by simp [mg0]) O fun s1 h O => ?_
  have e1 : hearS ⟨0, 0, 0, [118], 0⟩ { mg0 with kind := 1, frm := 2, to := 1, epoch := 5 } = (⟨5, 0, 0, [118], 0⟩, ⟨2, 1, 2, 0, 5, 0, 0, 0, 0, [118], true, false, true⟩) := by rfl
  rw [e1] at O ⊢
  refine O.al fun x32 h O => ?_
  refine O.st 0 rfl (by simp) rfl fun h O => ?_
  dsimp only [V.put, List.set] at O
  refine O.al fun x35 h O => ?_
  refine O.frz fun h O => ?_
  have O := lit_buf (x := 119) O
  replace O := O.sel [3, 0, 1, 2, 4] 5 rfl (Nat.le_add_left _ _)
  simp only [selT, List.map, nth, List.drop, List.cons_append, List.nil_append] at O
  refine F_replica_Replica_Hear.is (m := { mg0 with kind := 4, frm := 2, to := 1, te := 5, ts := 1, span := 3, v := ⟨some (pt x35 0), 1, 1⟩, b := [119] }) ⟨by simp, by decide, by decide⟩ (fun h O => (O.view 0 u8_len (by simp) rfl).1) (by simp) O fun s2 h O => ?_
  have e2 : hearS ⟨5, 0, 0, [118], 0⟩ { mg0 with kind := 4, frm := 2, to := 1, te := 5, ts := 1, span := 3, v := ⟨some (pt x35 0), 1, 1⟩, b := [119] } = (⟨5, 5, 1, [119], 3⟩, ⟨5, 1, 2, 0, 0, 5, 1, 0, 0, [], true, true, true⟩) := by rfl
  rw [e2] at O ⊢
  refine O.al fun x64 h O => ?_
  refine O.st 0 rfl (by simp) rfl fun h O => ?_
  dsimp only [V.put, List.set] at O
  replace O := O.sel [2, 0, 1, 3, 4, 5, 6] 7 rfl (Nat.le_add_left _ _)
  simp only [selT, List.map, nth, List.drop, List.cons_append, List.nil_append] at O
  refine F_replica_Replica_Stored.is ⟨by simp, by decide, by decide⟩ O fun s3 h O => ?_
  refine O.al fun x72 h O => ?_
  refine O.st 0 rfl (by simp) rfl fun h O => ?_
  dsimp only [V.put, List.set] at O
  refine jn1 (fun z h' => z = true ∧ Sat h0 h' L) (fun z h' ⟨e, O⟩ => e ▸ k h' O) fun j hj => ?_
  -- own x72, buf s3, repR, own x64, buf s2, buf lit, own x32, buf s1, ..
  repeat (first | (with_reducible refine al_id ?_); refine O.al fun _ h O => ?_ | (with_reducible refine nn_id ?_); refine ⟨_, rfl, ?_⟩ | (with_reducible refine ld_id ?_); (first | refine O.ld 0 rfl ?_ | refine O.ld 1 rfl ?_ | refine O.ld 2 rfl ?_ | refine O.ld 3 rfl ?_ | refine O.ld 4 rfl ?_ | refine O.ld 5 rfl ?_ | refine O.ld 6 rfl ?_); (repeat (first | (with_reducible refine ldL_n ?_) | refine ldL_s ?_ | refine ldL_c ?_)) | (with_reducible refine st_ad (by first | (with_reducible rfl) | (simp only [pt_add, Nat.zero_add, Nat.add_zero, Nat.reduceAdd]; with_reducible rfl)) ?_); (first | refine O.st 0 rfl (by simp) rfl fun h O => ?_ | refine O.st 1 rfl (by simp) rfl fun h O => ?_ | refine O.st 2 rfl (by simp) rfl fun h O => ?_ | refine O.st 3 rfl (by simp) rfl fun h O => ?_ | refine O.st 4 rfl (by simp) rfl fun h O => ?_ | refine O.st 5 rfl (by simp) rfl fun h O => ?_ | refine O.st 6 rfl (by simp) rfl fun h O => ?_); (dsimp only [V.put, List.set, List.length_cons, List.length_nil] at O) | (with_reducible refine ca_id ?_); (first | refine O.ca 0 1 rfl ?_ | refine O.ca 0 2 rfl ?_ | refine O.ca 1 1 rfl ?_ | refine O.ca 1 2 rfl ?_ | refine O.ca 2 1 rfl ?_ | refine O.ca 2 2 rfl ?_ | refine O.ca 3 1 rfl ?_ | refine O.ca 3 2 rfl ?_ | refine O.ca 4 1 rfl ?_ | refine O.ca 4 2 rfl ?_ | refine O.ca 5 1 rfl ?_ | refine O.ca 5 2 rfl ?_ | refine O.ca 6 1 rfl ?_ | refine O.ca 6 2 rfl ?_))
  refine brr_tt rfl ?_
  repeat (first | (with_reducible refine al_id ?_); refine O.al fun _ h O => ?_ | (with_reducible refine nn_id ?_); refine ⟨_, rfl, ?_⟩ | (with_reducible refine ld_id ?_); (first | refine O.ld 0 rfl ?_ | refine O.ld 1 rfl ?_ | refine O.ld 2 rfl ?_ | refine O.ld 3 rfl ?_ | refine O.ld 4 rfl ?_ | refine O.ld 5 rfl ?_ | refine O.ld 6 rfl ?_); (repeat (first | (with_reducible refine ldL_n ?_) | refine ldL_s ?_ | refine ldL_c ?_)) | (with_reducible refine st_ad (by first | (with_reducible rfl) | (simp only [pt_add, Nat.zero_add, Nat.add_zero, Nat.reduceAdd]; with_reducible rfl)) ?_); (first | refine O.st 0 rfl (by simp) rfl fun h O => ?_ | refine O.st 1 rfl (by simp) rfl fun h O => ?_ | refine O.st 2 rfl (by simp) rfl fun h O => ?_ | refine O.st 3 rfl (by simp) rfl fun h O => ?_ | refine O.st 4 rfl (by simp) rfl fun h O => ?_ | refine O.st 5 rfl (by simp) rfl fun h O => ?_ | refine O.st 6 rfl (by simp) rfl fun h O => ?_); (dsimp only [V.put, List.set, List.length_cons, List.length_nil] at O) | (with_reducible refine ca_id ?_); (first | refine O.ca 0 1 rfl ?_ | refine O.ca 0 2 rfl ?_ | refine O.ca 1 1 rfl ?_ | refine O.ca 1 2 rfl ?_ | refine O.ca 2 1 rfl ?_ | refine O.ca 2 2 rfl ?_ | refine O.ca 3 1 rfl ?_ | refine O.ca 3 2 rfl ?_ | refine O.ca 4 1 rfl ?_ | refine O.ca 4 2 rfl ?_ | refine O.ca 5 1 rfl ?_ | refine O.ca 5 2 rfl ?_ | refine O.ca 6 1 rfl ?_ | refine O.ca 6 2 rfl ?_))
  refine brr_tt rfl ?_
  repeat (first | (with_reducible refine al_id ?_); refine O.al fun _ h O => ?_ | (with_reducible refine nn_id ?_); refine ⟨_, rfl, ?_⟩ | (with_reducible refine ld_id ?_); (first | refine O.ld 0 rfl ?_ | refine O.ld 1 rfl ?_ | refine O.ld 2 rfl ?_ | refine O.ld 3 rfl ?_ | refine O.ld 4 rfl ?_ | refine O.ld 5 rfl ?_ | refine O.ld 6 rfl ?_); (repeat (first | (with_reducible refine ldL_n ?_) | refine ldL_s ?_ | refine ldL_c ?_)) | (with_reducible refine st_ad (by first | (with_reducible rfl) | (simp only [pt_add, Nat.zero_add, Nat.add_zero, Nat.reduceAdd]; with_reducible rfl)) ?_); (first | refine O.st 0 rfl (by simp) rfl fun h O => ?_ | refine O.st 1 rfl (by simp) rfl fun h O => ?_ | refine O.st 2 rfl (by simp) rfl fun h O => ?_ | refine O.st 3 rfl (by simp) rfl fun h O => ?_ | refine O.st 4 rfl (by simp) rfl fun h O => ?_ | refine O.st 5 rfl (by simp) rfl fun h O => ?_ | refine O.st 6 rfl (by simp) rfl fun h O => ?_); (dsimp only [V.put, List.set, List.length_cons, List.length_nil] at O) | (with_reducible refine ca_id ?_); (first | refine O.ca 0 1 rfl ?_ | refine O.ca 0 2 rfl ?_ | refine O.ca 1 1 rfl ?_ | refine O.ca 1 2 rfl ?_ | refine O.ca 2 1 rfl ?_ | refine O.ca 2 2 rfl ?_ | refine O.ca 3 1 rfl ?_ | refine O.ca 3 2 rfl ?_ | refine O.ca 4 1 rfl ?_ | refine O.ca 4 2 rfl ?_ | refine O.ca 5 1 rfl ?_ | refine O.ca 5 2 rfl ?_ | refine O.ca 6 1 rfl ?_ | refine O.ca 6 2 rfl ?_))
  refine O.frz fun h O => ?_
  have O := lit_buf (x := 118) O
  refine F_ref0_Eq.is (O.view 8 u8_len (by simp) rfl).1 (O.view 0 u8_len (by simp) rfl).1 (by decide) (by decide) ?_
  refine brr_tt (by decide) ?_
  repeat (first | (with_reducible refine al_id ?_); refine O.al fun _ h O => ?_ | (with_reducible refine nn_id ?_); refine ⟨_, rfl, ?_⟩ | (with_reducible refine ld_id ?_); (first | refine O.ld 0 rfl ?_ | refine O.ld 1 rfl ?_ | refine O.ld 2 rfl ?_ | refine O.ld 3 rfl ?_ | refine O.ld 4 rfl ?_ | refine O.ld 5 rfl ?_ | refine O.ld 6 rfl ?_); (repeat (first | (with_reducible refine ldL_n ?_) | refine ldL_s ?_ | refine ldL_c ?_)) | (with_reducible refine st_ad (by first | (with_reducible rfl) | (simp only [pt_add, Nat.zero_add, Nat.add_zero, Nat.reduceAdd]; with_reducible rfl)) ?_); (first | refine O.st 0 rfl (by simp) rfl fun h O => ?_ | refine O.st 1 rfl (by simp) rfl fun h O => ?_ | refine O.st 2 rfl (by simp) rfl fun h O => ?_ | refine O.st 3 rfl (by simp) rfl fun h O => ?_ | refine O.st 4 rfl (by simp) rfl fun h O => ?_ | refine O.st 5 rfl (by simp) rfl fun h O => ?_ | refine O.st 6 rfl (by simp) rfl fun h O => ?_); (dsimp only [V.put, List.set, List.length_cons, List.length_nil] at O) | (with_reducible refine ca_id ?_); (first | refine O.ca 0 1 rfl ?_ | refine O.ca 0 2 rfl ?_ | refine O.ca 1 1 rfl ?_ | refine O.ca 1 2 rfl ?_ | refine O.ca 2 1 rfl ?_ | refine O.ca 2 2 rfl ?_ | refine O.ca 3 1 rfl ?_ | refine O.ca 3 2 rfl ?_ | refine O.ca 4 1 rfl ?_ | refine O.ca 4 2 rfl ?_ | refine O.ca 5 1 rfl ?_ | refine O.ca 5 2 rfl ?_ | refine O.ca 6 1 rfl ?_ | refine O.ca 6 2 rfl ?_))
  refine brr_tt rfl ?_
  repeat (first | (with_reducible refine al_id ?_); refine O.al fun _ h O => ?_ | (with_reducible refine nn_id ?_); refine ⟨_, rfl, ?_⟩ | (with_reducible refine ld_id ?_); (first | refine O.ld 0 rfl ?_ | refine O.ld 1 rfl ?_ | refine O.ld 2 rfl ?_ | refine O.ld 3 rfl ?_ | refine O.ld 4 rfl ?_ | refine O.ld 5 rfl ?_ | refine O.ld 6 rfl ?_); (repeat (first | (with_reducible refine ldL_n ?_) | refine ldL_s ?_ | refine ldL_c ?_)) | (with_reducible refine st_ad (by first | (with_reducible rfl) | (simp only [pt_add, Nat.zero_add, Nat.add_zero, Nat.reduceAdd]; with_reducible rfl)) ?_); (first | refine O.st 0 rfl (by simp) rfl fun h O => ?_ | refine O.st 1 rfl (by simp) rfl fun h O => ?_ | refine O.st 2 rfl (by simp) rfl fun h O => ?_ | refine O.st 3 rfl (by simp) rfl fun h O => ?_ | refine O.st 4 rfl (by simp) rfl fun h O => ?_ | refine O.st 5 rfl (by simp) rfl fun h O => ?_ | refine O.st 6 rfl (by simp) rfl fun h O => ?_); (dsimp only [V.put, List.set, List.length_cons, List.length_nil] at O) | (with_reducible refine ca_id ?_); (first | refine O.ca 0 1 rfl ?_ | refine O.ca 0 2 rfl ?_ | refine O.ca 1 1 rfl ?_ | refine O.ca 1 2 rfl ?_ | refine O.ca 2 1 rfl ?_ | refine O.ca 2 2 rfl ?_ | refine O.ca 3 1 rfl ?_ | refine O.ca 3 2 rfl ?_ | refine O.ca 4 1 rfl ?_ | refine O.ca 4 2 rfl ?_ | refine O.ca 5 1 rfl ?_ | refine O.ca 5 2 rfl ?_ | refine O.ca 6 1 rfl ?_ | refine O.ca 6 2 rfl ?_))
  refine brr_tt rfl ?_
  repeat (first | (with_reducible refine al_id ?_); refine O.al fun _ h O => ?_ | (with_reducible refine nn_id ?_); refine ⟨_, rfl, ?_⟩ | (with_reducible refine ld_id ?_); (first | refine O.ld 0 rfl ?_ | refine O.ld 1 rfl ?_ | refine O.ld 2 rfl ?_ | refine O.ld 3 rfl ?_ | refine O.ld 4 rfl ?_ | refine O.ld 5 rfl ?_ | refine O.ld 6 rfl ?_); (repeat (first | (with_reducible refine ldL_n ?_) | refine ldL_s ?_ | refine ldL_c ?_)) | (with_reducible refine st_ad (by first | (with_reducible rfl) | (simp only [pt_add, Nat.zero_add, Nat.add_zero, Nat.reduceAdd]; with_reducible rfl)) ?_); (first | refine O.st 0 rfl (by simp) rfl fun h O => ?_ | refine O.st 1 rfl (by simp) rfl fun h O => ?_ | refine O.st 2 rfl (by simp) rfl fun h O => ?_ | refine O.st 3 rfl (by simp) rfl fun h O => ?_ | refine O.st 4 rfl (by simp) rfl fun h O => ?_ | refine O.st 5 rfl (by simp) rfl fun h O => ?_ | refine O.st 6 rfl (by simp) rfl fun h O => ?_); (dsimp only [V.put, List.set, List.length_cons, List.length_nil] at O) | (with_reducible refine ca_id ?_); (first | refine O.ca 0 1 rfl ?_ | refine O.ca 0 2 rfl ?_ | refine O.ca 1 1 rfl ?_ | refine O.ca 1 2 rfl ?_ | refine O.ca 2 1 rfl ?_ | refine O.ca 2 2 rfl ?_ | refine O.ca 3 1 rfl ?_ | refine O.ca 3 2 rfl ?_ | refine O.ca 4 1 rfl ?_ | refine O.ca 4 2 rfl ?_ | refine O.ca 5 1 rfl ?_ | refine O.ca 5 2 rfl ?_ | refine O.ca 6 1 rfl ?_ | refine O.ca 6 2 rfl ?_))
  refine brr_tt rfl ?_
  repeat (first | (with_reducible refine al_id ?_); refine O.al fun _ h O => ?_ | (with_reducible refine nn_id ?_); refine ⟨_, rfl, ?_⟩ | (with_reducible refine ld_id ?_); (first | refine O.ld 0 rfl ?_ | refine O.ld 1 rfl ?_ | refine O.ld 2 rfl ?_ | refine O.ld 3 rfl ?_ | refine O.ld 4 rfl ?_ | refine O.ld 5 rfl ?_ | refine O.ld 6 rfl ?_); (repeat (first | (with_reducible refine ldL_n ?_) | refine ldL_s ?_ | refine ldL_c ?_)) | (with_reducible refine st_ad (by first | (with_reducible rfl) | (simp only [pt_add, Nat.zero_add, Nat.add_zero, Nat.reduceAdd]; with_reducible rfl)) ?_); (first | refine O.st 0 rfl (by simp) rfl fun h O => ?_ | refine O.st 1 rfl (by simp) rfl fun h O => ?_ | refine O.st 2 rfl (by simp) rfl fun h O => ?_ | refine O.st 3 rfl (by simp) rfl fun h O => ?_ | refine O.st 4 rfl (by simp) rfl fun h O => ?_ | refine O.st 5 rfl (by simp) rfl fun h O => ?_ | refine O.st 6 rfl (by simp) rfl fun h O => ?_); (dsimp only [V.put, List.set, List.length_cons, List.length_nil] at O) | (with_reducible refine ca_id ?_); (first | refine O.ca 0 1 rfl ?_ | refine O.ca 0 2 rfl ?_ | refine O.ca 1 1 rfl ?_ | refine O.ca 1 2 rfl ?_ | refine O.ca 2 1 rfl ?_ | refine O.ca 2 2 rfl ?_ | refine O.ca 3 1 rfl ?_ | refine O.ca 3 2 rfl ?_ | refine O.ca 4 1 rfl ?_ | refine O.ca 4 2 rfl ?_ | refine O.ca 5 1 rfl ?_ | refine O.ca 5 2 rfl ?_ | refine O.ca 6 1 rfl ?_ | refine O.ca 6 2 rfl ?_))
  refine brr_tt rfl ?_
  repeat (first | (with_reducible refine al_id ?_); refine O.al fun _ h O => ?_ | (with_reducible refine nn_id ?_); refine ⟨_, rfl, ?_⟩ | (with_reducible refine ld_id ?_); (first | refine O.ld 0 rfl ?_ | refine O.ld 1 rfl ?_ | refine O.ld 2 rfl ?_ | refine O.ld 3 rfl ?_ | refine O.ld 4 rfl ?_ | refine O.ld 5 rfl ?_ | refine O.ld 6 rfl ?_); (repeat (first | (with_reducible refine ldL_n ?_) | refine ldL_s ?_ | refine ldL_c ?_)) | (with_reducible refine st_ad (by first | (with_reducible rfl) | (simp only [pt_add, Nat.zero_add, Nat.add_zero, Nat.reduceAdd]; with_reducible rfl)) ?_); (first | refine O.st 0 rfl (by simp) rfl fun h O => ?_ | refine O.st 1 rfl (by simp) rfl fun h O => ?_ | refine O.st 2 rfl (by simp) rfl fun h O => ?_ | refine O.st 3 rfl (by simp) rfl fun h O => ?_ | refine O.st 4 rfl (by simp) rfl fun h O => ?_ | refine O.st 5 rfl (by simp) rfl fun h O => ?_ | refine O.st 6 rfl (by simp) rfl fun h O => ?_); (dsimp only [V.put, List.set, List.length_cons, List.length_nil] at O) | (with_reducible refine ca_id ?_); (first | refine O.ca 0 1 rfl ?_ | refine O.ca 0 2 rfl ?_ | refine O.ca 1 1 rfl ?_ | refine O.ca 1 2 rfl ?_ | refine O.ca 2 1 rfl ?_ | refine O.ca 2 2 rfl ?_ | refine O.ca 3 1 rfl ?_ | refine O.ca 3 2 rfl ?_ | refine O.ca 4 1 rfl ?_ | refine O.ca 4 2 rfl ?_ | refine O.ca 5 1 rfl ?_ | refine O.ca 5 2 rfl ?_ | refine O.ca 6 1 rfl ?_ | refine O.ca 6 2 rfl ?_))
  refine O.frz fun h O => ?_
  have O := lit_buf (x := 119) O
  refine F_ref0_Eq.is (O.view 3 u8_len (by simp) rfl).1 (O.view 0 u8_len (by simp) rfl).1 (by decide) (by decide) ?_
  refine brr_tt (by decide) ?_
  replace O := O.sel [4] 10 rfl (Nat.le_add_left _ _)
  have O : Sat h0 h (repR p _ :: _) := O
  refine F_replica_Replica_Wait.is O ?_
  exact hj _ _ ⟨rfl, O.drop.drop⟩
end
end Go.Proofs.Ytcbelendjpnmiaa.V
