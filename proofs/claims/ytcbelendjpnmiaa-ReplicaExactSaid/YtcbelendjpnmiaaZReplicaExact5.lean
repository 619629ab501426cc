import Derived.Test.YtcbelendjpnmiaaZReplicaExact4
/- Two replicas in turns: every answer is the document's: what ReplicaExact plays. -/
namespace Go.Proofs.Ytcbelendjpnmiaa.V
open Go Go.RowKit
set_option linter.unusedVariables false
set_option linter.unusedSimpArgs false
theorem stR_same {xs : List PR} {k p q bk : Nat} {r r' : RS} {mark : Bool} (hx : xs[k]? = some (some (p, q, r))) : stR (xs.set k (some (p, q, r'))) bk mark = stR xs bk mark := by
  unfold stR
  rw [List.map_set, List.map_set, set_same (show (xs.map prN)[k]? = some (prN (some (p, q, r'))) by rw [List.getElem?_map, hx]; rfl), set_same (show (xs.map prW)[k]? = some (prW (some (p, q, r'))) by rw [List.getElem?_map, hx]; rfl)]
section
variable {h0 h : Heap} {L : List Res}
theorem ld_mark {a bk : Nat} {mark : Bool} {xs : List PR} {K : Bool → Prop} (h2 : xs.length = 2) (O : Sat h0 h L) (j : Nat) (hj : nth j L = own a (stR xs bk mark)) (k : K mark) : ld [.bool] ((pt a 0).add 5) h K := by
  rw [show (pt a 0).add 5 = pt a 5 from by rw [pt_add]]
  refine O.ld j hj ?_
  have e : (stR xs bk mark).drop 5 = [.bool mark] := by rw [show 5 = 4 + 1 from rfl, ← List.drop_drop, stR_tail h2]; rfl
  rw [e]
  exact ldL_c (k := .bool) (ldL_n k)
theorem ld_book {a bk : Nat} {mark : Bool} {xs : List PR} {K : Option Addr → Prop} (h2 : xs.length = 2) (O : Sat h0 h L) (j : Nat) (hj : nth j L = own a (stR xs bk mark)) (k : K (some (pt bk 0))) : ld [.ptr] ((pt a 0).add 4) h K := by
  rw [show (pt a 0).add 4 = pt a 4 from by rw [pt_add]]
  refine O.ld j hj ?_
  rw [stR_tail h2]
  exact ldL_c (k := .ptr) (ldL_n k)
theorem F_law9_stage_stored.is {a bk T k p q : Nat} {mark : Bool} {xs : List PR} {r : RS} {Q : Bool → Heap → Prop} (h2 : xs.length = 2) (hk : k < 2) (hx : xs[k]? = some (some (p, q, r))) (ok : r.Ok) (hT : T ≤ 100000000) (O : Sat h0 h (own a (stR xs bk mark) :: bkR bk T :: many prR xs :: L))
    (kk : ∀ h', Sat h0 h' (own a (stR xs bk mark) :: bkR bk (T + 1) :: many prR xs :: L) → Q true h') : F_law9_stage_stored (some (pt a 0)) k h Q := by
  rw [F_law9_stage_stored.eq_1, F_law9_stage_stored_of.eq_1]
  have hv := ok.v
  have O := ((O.sel [2, 0, 1] 3 rfl (Nat.le_add_left _ _)).take k hx).sep
  have O : Sat h0 h (repR p r :: repR q r :: hole prR xs k :: own a (stR xs bk mark) :: bkR bk T :: L) := O
  have back : ∀ {h : Heap}, Sat h0 h (repR p r :: repR q r :: hole prR xs k :: own a (stR xs bk mark) :: bkR bk (T + 1) :: L) → Q true h := by
    intro h O
    have O := Sat.give (f := prR) (y := some (p, q, r)) O.sepI (List.getElem?_eq_some_iff.1 hx).1
    rw [set_same hx] at O
    exact kk _ (O.sel [1, 2, 0] 3 rfl (Nat.le_add_left _ _))
  refine ⟨_, rfl, ?_⟩
  refine sr_n hx hk O 3 rfl fun c _ => ?_
  refine F_replica_Replica_Stored.is ok O fun s h O => ?_
  refine O.al fun x11 h O => ?_
  refine O.st 0 rfl (by simp) rfl fun h O => ?_
  dsimp only [V.put, List.set] at O
  refine jn1 (fun z h' => z = true ∧ Sat h0 h' (own x11 [.int .u64 r.prom, .int .u64 r.te, .int .u64 r.ts, .slice s.ptr s.len s.cap] :: buf 1 u8 s r.val :: repR p r :: repR q r :: hole prR xs k :: own a (stR xs bk mark) :: bkR bk T :: L)) ?_ ?_
  · clear O
    rintro z h ⟨rfl, O⟩
    refine ⟨_, rfl, ?_⟩
    refine ld_mark h2 O 5 rfl ?_
    refine jn0 (fun h' => Sat h0 h' (repR p r :: repR q r :: hole prR xs k :: own a (stR xs bk mark) :: bkR bk (T + 1) :: L)) (fun h O => back O) fun j hj => ?_
    refine brr_of (fun _ => ?_) (fun _ => ?_)
    · refine ⟨_, rfl, ?_⟩
      refine ld_book h2 O 5 rfl ?_
      repeat (first
        | (with_reducible refine al_id ?_); refine O.al fun _ h O => ?_
        | (with_reducible refine nn_id ?_); refine ⟨_, rfl, ?_⟩
        | (with_reducible refine ld_id ?_); (first | refine O.ld 0 rfl ?_); (repeat (first | (with_reducible refine ldL_n ?_) | refine ldL_s ?_ | refine ldL_c ?_))
        | (with_reducible refine st_ad (by first | (with_reducible rfl) | (simp only [pt_add, Nat.zero_add, Nat.add_zero, Nat.reduceAdd]; with_reducible rfl)) ?_); (first | refine O.st 0 rfl (by simp) rfl fun h O => ?_); (dsimp only [V.put, List.set, List.length_cons, List.length_nil] at O)
        | (with_reducible refine ca_id ?_); (first | refine ⟨cellsAre_blk (O.blk (i := 0) (by simp) rfl).2 _ 1, ?_⟩ | refine ⟨cellsAre_blk (O.blk (i := 0) (by simp) rfl).2 _ 2, ?_⟩))
      replace O := O.sel [1, 6, 2, 3, 4, 5] 7 rfl (Nat.le_add_left _ _)
      simp only [selT, List.map, nth, List.drop, List.cons_append, List.nil_append] at O
      refine F_law1_Book_Bytes.is (by omega) (by omega) O fun h O => ?_
      exact hj _ (O.sel [1, 2, 3, 4, 0] 5 rfl (Nat.le_add_left _ _))
    · have O := bk_up (O.sel [6, 2, 3, 4, 5] 7 rfl (Nat.le_add_left _ _)) (Nat.le_succ T)
      exact hj _ (O.sel [1, 2, 3, 4, 0] 5 rfl (Nat.le_add_left _ _))
  · intro j hj
    refine O.ld 0 rfl (ldL_c (ldL_c (ldL_c (ldL_s (ldL_n ?_)))))
    refine ⟨_, rfl, ?_⟩
    refine sr_w h2 hx hk O 5 rfl fun c _ => ?_
    replace O := O.sel [3, 0, 1, 2, 4, 5, 6] 7 rfl (Nat.le_add_left _ _)
    simp only [selT, List.map, nth, List.drop, List.cons_append, List.nil_append] at O
    refine F_ref9_Replica_Stored.is ok O fun s2 h O => ?_
    refine ⟨cellsAre_blk (O.blk (i := 2) (by simp) rfl).2 0 4, ?_⟩
    refine F_ref0_EqStored.is O (fun h O => (O.view 3 u8_len (by simp) rfl).1) (fun h O => (O.view 0 u8_len (by simp) rfl).1) ok.v ok.v fun h O => ?_
    refine brr_tt (by simp) ?_
    refine ⟨_, rfl, ?_⟩
    refine sr_n hx hk O 6 rfl fun c1 _ => ?_
    refine ⟨_, rfl, ?_⟩
    refine sr_w h2 hx hk O 6 rfl fun c2 hc2 => ?_
    replace O := O.sel [4, 0, 1, 2, 3, 5, 6, 7] 8 rfl (Nat.le_add_left _ _)
    simp only [selT, List.map, nth, List.drop, List.cons_append, List.nil_append] at O
    refine F_replica_Replica_Wait.is O ?_
    refine ⟨hc2 O 6 rfl, ?_⟩
    replace O := O.sel [2, 0, 1, 3, 4, 5, 6, 7] 8 rfl (Nat.le_add_left _ _)
    simp only [selT, List.map, nth, List.drop, List.cons_append, List.nil_append] at O
    refine F_ref9_Replica_Wait.is O ?_
    refine hj _ _ ⟨by simp, ?_⟩
    exact O.sel [3, 4, 1, 0, 5, 6, 7] 8 rfl (Nat.le_add_left _ _)
theorem F_law9_stage_hear.is {a bk T k p q : Nat} {mark : Bool} {xs : List PR} {r : RS} {m : Mg} {Q : Bool → Heap → Prop} (h2 : xs.length = 2) (hk : k < 2) (hx : xs[k]? = some (some (p, q, r))) (ok : r.Ok) (hT : T ≤ 100000000) (Vm : Bytes h0 m.v m.b) (hb : m.b.length ≤ (140737488355325 : Nat)) (O : Sat h0 h (own a (stR xs bk mark) :: bkR bk T :: many prR xs :: L))
    (kk : ∀ h', Sat h0 h' (own a (stR (xs.set k (some (p, q, (hearS r m).1))) bk mark) :: bkR bk (T + 1) :: many prR (xs.set k (some (p, q, (hearS r m).1))) :: L) → Q true h') : F_law9_stage_hear (some (pt a 0)) k m.kind m.frm m.to m.shard m.epoch m.te m.ts m.round m.span m.seen m.v m.peer m.num m.name m.other m.amount m.life m.id m.op m.client m.state m.bad h Q := by
  rw [F_law9_stage_hear.eq_1, F_law9_stage_hear_of.eq_1]
  have hdv := hearS_val (m := m) ok
  have O := ((O.sel [2, 0, 1] 3 rfl (Nat.le_add_left _ _)).take k hx).sep
  have O : Sat h0 h (repR p r :: repR q r :: hole prR xs k :: own a (stR xs bk mark) :: bkR bk T :: L) := O
  have back : ∀ {h : Heap}, Sat h0 h (repR p (hearS r m).1 :: repR q (hearS r m).1 :: hole prR xs k :: own a (stR xs bk mark) :: bkR bk (T + 1) :: L) → Q true h := by
    intro h O
    have O := Sat.give (f := prR) (y := some (p, q, (hearS r m).1)) O.sepI (List.getElem?_eq_some_iff.1 hx).1
    have O := O.sel [1, 2, 0] 3 rfl (Nat.le_add_left _ _)
    have O : Sat h0 h (own a (stR xs bk mark) :: bkR bk (T + 1) :: many prR (xs.set k (some (p, q, (hearS r m).1))) :: L) := O
    rw [← stR_same (r' := (hearS r m).1) hx] at O
    exact kk _ O
  refine O.al fun x25 h O => ?_
  repeat (first
    | (with_reducible refine al_id ?_); refine O.al fun _ h O => ?_
    | (with_reducible refine nn_id ?_); refine ⟨_, rfl, ?_⟩
    | (with_reducible refine ld_id ?_); (first | refine O.ld 0 rfl ?_); (repeat (first | (with_reducible refine ldL_n ?_) | refine ldL_s ?_ | refine ldL_c ?_))
    | (with_reducible refine st_ad (by first | (with_reducible rfl) | (simp only [pt_add, Nat.zero_add, Nat.add_zero, Nat.reduceAdd]; with_reducible rfl)) ?_); (first | refine O.st 0 rfl (by simp) rfl fun h O => ?_); (dsimp only [V.put, List.set, List.length_cons, List.length_nil] at O)
    | (with_reducible refine ca_id ?_); (first | refine ⟨cellsAre_blk (O.blk (i := 0) (by simp) rfl).2 _ 1, ?_⟩ | refine ⟨cellsAre_blk (O.blk (i := 0) (by simp) rfl).2 _ 2, ?_⟩))
  refine F_law1_Lend.is O (Vm.kept O.kept) (by omega) fun s28 h O hs => ?_
  refine O.ld 1 rfl ?_
  repeat (first | (with_reducible refine ldL_n ?_) | refine ldL_s ?_ | refine ldL_c ?_)
  refine O.al fun x52 h O => ?_
  repeat (first
    | (with_reducible refine al_id ?_); refine O.al fun _ h O => ?_
    | (with_reducible refine nn_id ?_); refine ⟨_, rfl, ?_⟩
    | (with_reducible refine ld_id ?_); (first | refine O.ld 0 rfl ?_); (repeat (first | (with_reducible refine ldL_n ?_) | refine ldL_s ?_ | refine ldL_c ?_))
    | (with_reducible refine st_ad (by first | (with_reducible rfl) | (simp only [pt_add, Nat.zero_add, Nat.add_zero, Nat.reduceAdd]; with_reducible rfl)) ?_); (first | refine O.st 0 rfl (by simp) rfl fun h O => ?_); (dsimp only [V.put, List.set, List.length_cons, List.length_nil] at O)
    | (with_reducible refine ca_id ?_); (first | refine ⟨cellsAre_blk (O.blk (i := 0) (by simp) rfl).2 _ 1, ?_⟩ | refine ⟨cellsAre_blk (O.blk (i := 0) (by simp) rfl).2 _ 2, ?_⟩))
  generalize hd : (hearS r m).2 = d at hdv
  have O : Sat h0 h (own x52 (mgC { m with v := s28 }) :: lent s28 m.b :: own x25 (mgC m) :: repR p r :: repR q r :: hole prR xs k :: own a (stR xs bk mark) :: bkR bk T :: L) := O
  refine jn1 (fun f h' => ∃ x s, f = pt x 0 ∧ Sat h0 h' (own x (hdC d s) :: buf 1 u8 s d.val :: repR p (hearS r m).1 :: lent s28 m.b :: own x25 (mgC m) :: repR q r :: hole prR xs k :: own a (stR xs bk mark) :: bkR bk T :: L)) ?_ ?_
  case refine_2 =>
    subst hd
    intro j hj
    refine ⟨?_, ?_⟩
    · refine ⟨_, rfl, ?_⟩
      refine sr_n hx hk O 6 rfl fun c hc => ?_
      refine O.ld 0 rfl ?_
      repeat (first | (with_reducible refine ldL_n ?_) | refine ldL_s ?_ | refine ldL_c ?_)
      replace O := O.sel [3, 0, 1, 2, 4, 5, 6, 7] 8 rfl (Nat.le_add_left _ _)
      simp only [selT, List.map, nth, List.drop, List.cons_append, List.nil_append] at O
      refine F_replica_Replica_Hear.is (m := { m with v := s28 }) ok (fun h O => (O.lent 1 (by simp) rfl).1) hb O fun s h O => ?_
      refine O.al fun x108 h O => ?_
      refine ⟨hc O 8 rfl, cellsAre_blk (O.blk (i := 3) (by simp) rfl).2 0 22, ?_⟩
      refine O.st 0 rfl (by simp) rfl fun h O => ?_
      dsimp only [V.put, List.set] at O
      exact hj _ _ ⟨x108, s, rfl, O.sel [0, 1, 2, 4, 5, 6, 7, 8, 9] 10 rfl (Nat.le_add_left _ _)⟩
    · refine ⟨_, rfl, ?_⟩
      refine sr_n hx hk O 6 rfl fun c hc => ?_
      refine O.ld 0 rfl ?_
      repeat (first | (with_reducible refine ldL_n ?_) | refine ldL_s ?_ | refine ldL_c ?_)
      refine O.al fun x108 h O => ?_
      refine ⟨hc O 7 rfl, cellsAre_blk (O.blk (i := 1) (by simp) rfl).2 0 22, ?_⟩
      replace O := O.sel [4, 0, 1, 2, 3, 5, 6, 7, 8] 9 rfl (Nat.le_add_left _ _)
      simp only [selT, List.map, nth, List.drop, List.cons_append, List.nil_append] at O
      refine F_replica_Replica_Hear.is (m := { m with v := s28 }) ok (fun h O => (O.lent 2 (by simp) rfl).1) hb O fun s h O => ?_
      replace O := O.sel [2, 0, 1, 3, 4, 5, 6, 7, 8, 9] 10 rfl (Nat.le_add_left _ _)
      simp only [selT, List.map, nth, List.drop, List.cons_append, List.nil_append] at O
      refine O.st 0 rfl (by simp) rfl fun h O => ?_
      dsimp only [V.put, List.set] at O
      exact hj _ _ ⟨x108, s, rfl, O.sel [0, 1, 2, 4, 5, 6, 7, 8, 9] 10 rfl (Nat.le_add_left _ _)⟩
  clear O
  rintro f h ⟨x, s, rfl, O⟩
  refine jn1 (fun f h' => ∃ y u, f = pt y 0 ∧ Sat h0 h' (own y (hdC d u) :: buf 1 u8 u d.val :: own x (hdC d s) :: buf 1 u8 s d.val :: lent s28 m.b :: own x25 (mgC m) :: repR p (hearS r m).1 :: repR q (hearS r m).1 :: hole prR xs k :: own a (stR xs bk mark) :: bkR bk T :: L)) ?_ ?_
  case refine_2 =>
    subst hd
    intro j hj
    -- x, buf s, repR p, lent, x25, repR q, hole, a, bk
    refine ⟨?_, ?_, ?_⟩
    · refine ⟨_, rfl, ?_⟩
      refine sr_w h2 hx hk O 7 rfl fun c hc => ?_
      refine O.ld 4 rfl ?_
      repeat (first | (with_reducible refine ldL_n ?_) | refine ldL_s ?_ | refine ldL_c ?_)
      refine F_ref0_CopyMsg.is (m := m) O (fun h O => Vm.kept O.kept) hb fun sc h O => ?_
      refine ⟨hc O 8 rfl, ?_⟩
      replace O := O.sel [6, 0, 1, 2, 3, 4, 5, 7, 8, 9] 10 rfl (Nat.le_add_left _ _)
      simp only [selT, List.map, nth, List.drop, List.cons_append, List.nil_append] at O
      refine F_ref9_Replica_Hear.is (m := { m with v := sc }) ok (fun h O => (O.view 0 u8_len (by simp) rfl).1) hb O fun u h O => ?_
      refine O.al fun y h O => ?_
      refine ⟨hc O 10 rfl, cellsAre_blk (O.blk (i := 8) (by simp) rfl).2 0 22, ?_⟩
      refine O.st 0 rfl (by simp) rfl fun h O => ?_
      dsimp only [V.put, List.set] at O
      exact hj _ _ ⟨y, u, rfl, O.sel [0, 1, 4, 5, 7, 8, 6, 2, 9, 10, 11] 12 rfl (Nat.le_add_left _ _)⟩
    · refine ⟨_, rfl, ?_⟩
      refine sr_w h2 hx hk O 7 rfl fun c hc => ?_
      refine O.ld 4 rfl ?_
      repeat (first | (with_reducible refine ldL_n ?_) | refine ldL_s ?_ | refine ldL_c ?_)
      refine F_ref0_CopyMsg.is (m := m) O (fun h O => Vm.kept O.kept) hb fun sc h O => ?_
      refine ⟨hc O 8 rfl, ?_⟩
      refine O.al fun y h O => ?_
      refine ⟨hc O 9 rfl, cellsAre_blk (O.blk (i := 6) (by simp) rfl).2 0 22, ?_⟩
      replace O := O.sel [7, 1, 0, 2, 3, 4, 5, 6, 8, 9, 10] 11 rfl (Nat.le_add_left _ _)
      simp only [selT, List.map, nth, List.drop, List.cons_append, List.nil_append] at O
      refine F_ref9_Replica_Hear.is (m := { m with v := sc }) ok (fun h O => (O.view 0 u8_len (by simp) rfl).1) hb O fun u h O => ?_
      replace O := O.sel [3, 0, 1, 2, 4, 5, 6, 7, 8, 9, 10, 11] 12 rfl (Nat.le_add_left _ _)
      simp only [selT, List.map, nth, List.drop, List.cons_append, List.nil_append] at O
      refine O.st 0 rfl (by simp) rfl fun h O => ?_
      dsimp only [V.put, List.set] at O
      exact hj _ _ ⟨y, u, rfl, O.sel [0, 1, 4, 5, 7, 8, 6, 2, 9, 10, 11] 12 rfl (Nat.le_add_left _ _)⟩
    · refine ⟨_, rfl, ?_⟩
      refine sr_w h2 hx hk O 7 rfl fun c hc => ?_
      refine O.ld 4 rfl ?_
      repeat (first | (with_reducible refine ldL_n ?_) | refine ldL_s ?_ | refine ldL_c ?_)
      refine O.al fun y h O => ?_
      refine ⟨hc O 8 rfl, cellsAre_blk (O.blk (i := 5) (by simp) rfl).2 0 22, ?_⟩
      refine F_ref0_CopyMsg.is (m := m) O (fun h O => Vm.kept O.kept) hb fun sc h O => ?_
      refine ⟨hc O 9 rfl, ?_⟩
      replace O := O.sel [7, 0, 1, 2, 3, 4, 5, 6, 8, 9, 10] 11 rfl (Nat.le_add_left _ _)
      simp only [selT, List.map, nth, List.drop, List.cons_append, List.nil_append] at O
      refine F_ref9_Replica_Hear.is (m := { m with v := sc }) ok (fun h O => (O.view 0 u8_len (by simp) rfl).1) hb O fun u h O => ?_
      replace O := O.sel [3, 0, 1, 2, 4, 5, 6, 7, 8, 9, 10, 11] 12 rfl (Nat.le_add_left _ _)
      simp only [selT, List.map, nth, List.drop, List.cons_append, List.nil_append] at O
      refine O.st 0 rfl (by simp) rfl fun h O => ?_
      dsimp only [V.put, List.set] at O
      exact hj _ _ ⟨y, u, rfl, O.sel [0, 1, 4, 5, 7, 8, 6, 2, 9, 10, 11] 12 rfl (Nat.le_add_left _ _)⟩
  clear O
  rintro f h ⟨y, u, rfl, O⟩
  -- y, buf u, x, buf s, lent, x25, repR p, repR q, hole, a, bk
  refine jn1 (fun z h' => z = true ∧ Sat h0 h' (lent s28 m.b :: own x (hdC d s) :: buf 1 u8 s d.val :: repR p (hearS r m).1 :: repR q (hearS r m).1 :: hole prR xs k :: own a (stR xs bk mark) :: bkR bk T :: L)) ?_ ?_
  case refine_2 =>
    intro j hj
    repeat (first
      | (with_reducible refine al_id ?_); refine O.al fun _ h O => ?_
      | (with_reducible refine nn_id ?_); refine ⟨_, rfl, ?_⟩
      | (with_reducible refine ld_id ?_); (first | refine O.ld 0 rfl ?_ | refine O.ld 1 rfl ?_ | refine O.ld 2 rfl ?_ | refine O.ld 3 rfl ?_ | refine O.ld 4 rfl ?_ | refine O.ld 5 rfl ?_); (repeat (first | (with_reducible refine ldL_n ?_) | refine ldL_s ?_ | refine ldL_c ?_))
      | (with_reducible refine st_ad (by first | (with_reducible rfl) | (simp only [pt_add, Nat.zero_add, Nat.add_zero, Nat.reduceAdd]; with_reducible rfl)) ?_); (first | refine O.st 0 rfl (by simp) rfl fun h O => ?_ | refine O.st 1 rfl (by simp) rfl fun h O => ?_ | refine O.st 2 rfl (by simp) rfl fun h O => ?_ | refine O.st 3 rfl (by simp) rfl fun h O => ?_ | refine O.st 4 rfl (by simp) rfl fun h O => ?_ | refine O.st 5 rfl (by simp) rfl fun h O => ?_); (dsimp only [V.put, List.set, List.length_cons, List.length_nil] at O)
      | (with_reducible refine ca_id ?_); (first | refine ⟨cellsAre_blk (O.blk (i := 0) (by simp) rfl).2 _ 1, ?_⟩ | refine ⟨cellsAre_blk (O.blk (i := 0) (by simp) rfl).2 _ 2, ?_⟩ | refine ⟨cellsAre_blk (O.blk (i := 1) (by simp) rfl).2 _ 1, ?_⟩ | refine ⟨cellsAre_blk (O.blk (i := 1) (by simp) rfl).2 _ 2, ?_⟩ | refine ⟨cellsAre_blk (O.blk (i := 2) (by simp) rfl).2 _ 1, ?_⟩ | refine ⟨cellsAre_blk (O.blk (i := 2) (by simp) rfl).2 _ 2, ?_⟩ | refine ⟨cellsAre_blk (O.blk (i := 3) (by simp) rfl).2 _ 1, ?_⟩ | refine ⟨cellsAre_blk (O.blk (i := 3) (by simp) rfl).2 _ 2, ?_⟩ | refine ⟨cellsAre_blk (O.blk (i := 4) (by simp) rfl).2 _ 1, ?_⟩ | refine ⟨cellsAre_blk (O.blk (i := 4) (by simp) rfl).2 _ 2, ?_⟩ | refine ⟨cellsAre_blk (O.blk (i := 5) (by simp) rfl).2 _ 1, ?_⟩ | refine ⟨cellsAre_blk (O.blk (i := 5) (by simp) rfl).2 _ 2, ?_⟩))
    refine F_ref0_EqMsg.is (m := hdM d s) (t := u) O (fun h O => (O.view 3 u8_len (by simp) rfl).1) (fun h O => (O.view 1 u8_len (by simp) rfl).1) hdv fun h O => ?_
    refine brr_tt rfl ?_
    repeat (first
      | (with_reducible refine al_id ?_); refine O.al fun _ h O => ?_
      | (with_reducible refine nn_id ?_); refine ⟨_, rfl, ?_⟩
      | (with_reducible refine ld_id ?_); (first | refine O.ld 0 rfl ?_ | refine O.ld 1 rfl ?_ | refine O.ld 2 rfl ?_ | refine O.ld 3 rfl ?_ | refine O.ld 4 rfl ?_ | refine O.ld 5 rfl ?_); (repeat (first | (with_reducible refine ldL_n ?_) | refine ldL_s ?_ | refine ldL_c ?_))
      | (with_reducible refine st_ad (by first | (with_reducible rfl) | (simp only [pt_add, Nat.zero_add, Nat.add_zero, Nat.reduceAdd]; with_reducible rfl)) ?_); (first | refine O.st 0 rfl (by simp) rfl fun h O => ?_ | refine O.st 1 rfl (by simp) rfl fun h O => ?_ | refine O.st 2 rfl (by simp) rfl fun h O => ?_ | refine O.st 3 rfl (by simp) rfl fun h O => ?_ | refine O.st 4 rfl (by simp) rfl fun h O => ?_ | refine O.st 5 rfl (by simp) rfl fun h O => ?_); (dsimp only [V.put, List.set, List.length_cons, List.length_nil] at O)
      | (with_reducible refine ca_id ?_); (first | refine ⟨cellsAre_blk (O.blk (i := 0) (by simp) rfl).2 _ 1, ?_⟩ | refine ⟨cellsAre_blk (O.blk (i := 0) (by simp) rfl).2 _ 2, ?_⟩ | refine ⟨cellsAre_blk (O.blk (i := 1) (by simp) rfl).2 _ 1, ?_⟩ | refine ⟨cellsAre_blk (O.blk (i := 1) (by simp) rfl).2 _ 2, ?_⟩ | refine ⟨cellsAre_blk (O.blk (i := 2) (by simp) rfl).2 _ 1, ?_⟩ | refine ⟨cellsAre_blk (O.blk (i := 2) (by simp) rfl).2 _ 2, ?_⟩ | refine ⟨cellsAre_blk (O.blk (i := 3) (by simp) rfl).2 _ 1, ?_⟩ | refine ⟨cellsAre_blk (O.blk (i := 3) (by simp) rfl).2 _ 2, ?_⟩ | refine ⟨cellsAre_blk (O.blk (i := 4) (by simp) rfl).2 _ 1, ?_⟩ | refine ⟨cellsAre_blk (O.blk (i := 4) (by simp) rfl).2 _ 2, ?_⟩ | refine ⟨cellsAre_blk (O.blk (i := 5) (by simp) rfl).2 _ 1, ?_⟩ | refine ⟨cellsAre_blk (O.blk (i := 5) (by simp) rfl).2 _ 2, ?_⟩))
    refine brr_tt (by simp) ?_
    repeat (first
      | (with_reducible refine al_id ?_); refine O.al fun _ h O => ?_
      | (with_reducible refine nn_id ?_); refine ⟨_, rfl, ?_⟩
      | (with_reducible refine ld_id ?_); (first | refine O.ld 0 rfl ?_ | refine O.ld 1 rfl ?_ | refine O.ld 2 rfl ?_ | refine O.ld 3 rfl ?_ | refine O.ld 4 rfl ?_ | refine O.ld 5 rfl ?_); (repeat (first | (with_reducible refine ldL_n ?_) | refine ldL_s ?_ | refine ldL_c ?_))
      | (with_reducible refine st_ad (by first | (with_reducible rfl) | (simp only [pt_add, Nat.zero_add, Nat.add_zero, Nat.reduceAdd]; with_reducible rfl)) ?_); (first | refine O.st 0 rfl (by simp) rfl fun h O => ?_ | refine O.st 1 rfl (by simp) rfl fun h O => ?_ | refine O.st 2 rfl (by simp) rfl fun h O => ?_ | refine O.st 3 rfl (by simp) rfl fun h O => ?_ | refine O.st 4 rfl (by simp) rfl fun h O => ?_ | refine O.st 5 rfl (by simp) rfl fun h O => ?_); (dsimp only [V.put, List.set, List.length_cons, List.length_nil] at O)
      | (with_reducible refine ca_id ?_); (first | refine ⟨cellsAre_blk (O.blk (i := 0) (by simp) rfl).2 _ 1, ?_⟩ | refine ⟨cellsAre_blk (O.blk (i := 0) (by simp) rfl).2 _ 2, ?_⟩ | refine ⟨cellsAre_blk (O.blk (i := 1) (by simp) rfl).2 _ 1, ?_⟩ | refine ⟨cellsAre_blk (O.blk (i := 1) (by simp) rfl).2 _ 2, ?_⟩ | refine ⟨cellsAre_blk (O.blk (i := 2) (by simp) rfl).2 _ 1, ?_⟩ | refine ⟨cellsAre_blk (O.blk (i := 2) (by simp) rfl).2 _ 2, ?_⟩ | refine ⟨cellsAre_blk (O.blk (i := 3) (by simp) rfl).2 _ 1, ?_⟩ | refine ⟨cellsAre_blk (O.blk (i := 3) (by simp) rfl).2 _ 2, ?_⟩ | refine ⟨cellsAre_blk (O.blk (i := 4) (by simp) rfl).2 _ 1, ?_⟩ | refine ⟨cellsAre_blk (O.blk (i := 4) (by simp) rfl).2 _ 2, ?_⟩ | refine ⟨cellsAre_blk (O.blk (i := 5) (by simp) rfl).2 _ 1, ?_⟩ | refine ⟨cellsAre_blk (O.blk (i := 5) (by simp) rfl).2 _ 2, ?_⟩))
    refine brr_tt (by simp) ?_
    repeat (first
      | (with_reducible refine al_id ?_); refine O.al fun _ h O => ?_
      | (with_reducible refine nn_id ?_); refine ⟨_, rfl, ?_⟩
      | (with_reducible refine ld_id ?_); (first | refine O.ld 0 rfl ?_ | refine O.ld 1 rfl ?_ | refine O.ld 2 rfl ?_ | refine O.ld 3 rfl ?_ | refine O.ld 4 rfl ?_ | refine O.ld 5 rfl ?_); (repeat (first | (with_reducible refine ldL_n ?_) | refine ldL_s ?_ | refine ldL_c ?_))
      | (with_reducible refine st_ad (by first | (with_reducible rfl) | (simp only [pt_add, Nat.zero_add, Nat.add_zero, Nat.reduceAdd]; with_reducible rfl)) ?_); (first | refine O.st 0 rfl (by simp) rfl fun h O => ?_ | refine O.st 1 rfl (by simp) rfl fun h O => ?_ | refine O.st 2 rfl (by simp) rfl fun h O => ?_ | refine O.st 3 rfl (by simp) rfl fun h O => ?_ | refine O.st 4 rfl (by simp) rfl fun h O => ?_ | refine O.st 5 rfl (by simp) rfl fun h O => ?_); (dsimp only [V.put, List.set, List.length_cons, List.length_nil] at O)
      | (with_reducible refine ca_id ?_); (first | refine ⟨cellsAre_blk (O.blk (i := 0) (by simp) rfl).2 _ 1, ?_⟩ | refine ⟨cellsAre_blk (O.blk (i := 0) (by simp) rfl).2 _ 2, ?_⟩ | refine ⟨cellsAre_blk (O.blk (i := 1) (by simp) rfl).2 _ 1, ?_⟩ | refine ⟨cellsAre_blk (O.blk (i := 1) (by simp) rfl).2 _ 2, ?_⟩ | refine ⟨cellsAre_blk (O.blk (i := 2) (by simp) rfl).2 _ 1, ?_⟩ | refine ⟨cellsAre_blk (O.blk (i := 2) (by simp) rfl).2 _ 2, ?_⟩ | refine ⟨cellsAre_blk (O.blk (i := 3) (by simp) rfl).2 _ 1, ?_⟩ | refine ⟨cellsAre_blk (O.blk (i := 3) (by simp) rfl).2 _ 2, ?_⟩ | refine ⟨cellsAre_blk (O.blk (i := 4) (by simp) rfl).2 _ 1, ?_⟩ | refine ⟨cellsAre_blk (O.blk (i := 4) (by simp) rfl).2 _ 2, ?_⟩ | refine ⟨cellsAre_blk (O.blk (i := 5) (by simp) rfl).2 _ 1, ?_⟩ | refine ⟨cellsAre_blk (O.blk (i := 5) (by simp) rfl).2 _ 2, ?_⟩))
    refine brr_tt (by simp) ?_
    repeat (first
      | (with_reducible refine al_id ?_); refine O.al fun _ h O => ?_
      | (with_reducible refine nn_id ?_); refine ⟨_, rfl, ?_⟩
      | (with_reducible refine ld_id ?_); (first | refine O.ld 0 rfl ?_ | refine O.ld 1 rfl ?_ | refine O.ld 2 rfl ?_ | refine O.ld 3 rfl ?_ | refine O.ld 4 rfl ?_ | refine O.ld 5 rfl ?_); (repeat (first | (with_reducible refine ldL_n ?_) | refine ldL_s ?_ | refine ldL_c ?_))
      | (with_reducible refine st_ad (by first | (with_reducible rfl) | (simp only [pt_add, Nat.zero_add, Nat.add_zero, Nat.reduceAdd]; with_reducible rfl)) ?_); (first | refine O.st 0 rfl (by simp) rfl fun h O => ?_ | refine O.st 1 rfl (by simp) rfl fun h O => ?_ | refine O.st 2 rfl (by simp) rfl fun h O => ?_ | refine O.st 3 rfl (by simp) rfl fun h O => ?_ | refine O.st 4 rfl (by simp) rfl fun h O => ?_ | refine O.st 5 rfl (by simp) rfl fun h O => ?_); (dsimp only [V.put, List.set, List.length_cons, List.length_nil] at O)
      | (with_reducible refine ca_id ?_); (first | refine ⟨cellsAre_blk (O.blk (i := 0) (by simp) rfl).2 _ 1, ?_⟩ | refine ⟨cellsAre_blk (O.blk (i := 0) (by simp) rfl).2 _ 2, ?_⟩ | refine ⟨cellsAre_blk (O.blk (i := 1) (by simp) rfl).2 _ 1, ?_⟩ | refine ⟨cellsAre_blk (O.blk (i := 1) (by simp) rfl).2 _ 2, ?_⟩ | refine ⟨cellsAre_blk (O.blk (i := 2) (by simp) rfl).2 _ 1, ?_⟩ | refine ⟨cellsAre_blk (O.blk (i := 2) (by simp) rfl).2 _ 2, ?_⟩ | refine ⟨cellsAre_blk (O.blk (i := 3) (by simp) rfl).2 _ 1, ?_⟩ | refine ⟨cellsAre_blk (O.blk (i := 3) (by simp) rfl).2 _ 2, ?_⟩ | refine ⟨cellsAre_blk (O.blk (i := 4) (by simp) rfl).2 _ 1, ?_⟩ | refine ⟨cellsAre_blk (O.blk (i := 4) (by simp) rfl).2 _ 2, ?_⟩ | refine ⟨cellsAre_blk (O.blk (i := 5) (by simp) rfl).2 _ 1, ?_⟩ | refine ⟨cellsAre_blk (O.blk (i := 5) (by simp) rfl).2 _ 2, ?_⟩))
    refine F_law1_Intact.is O 4 (by simp) rfl (Vm.kept O.kept) (by omega) ?_
    exact hj _ _ ⟨by simp, O.sel [4, 2, 3, 6, 7, 8, 9, 10] 11 rfl (Nat.le_add_left _ _)⟩
  clear O
  rintro z h ⟨rfl, O⟩
  refine F_law1_Over.is O hs (by omega) fun h O => ?_
  refine ⟨_, rfl, ?_⟩
  refine ld_mark h2 O 5 rfl ?_
  refine jn0 (fun h' => Sat h0 h' (repR p (hearS r m).1 :: repR q (hearS r m).1 :: hole prR xs k :: own a (stR xs bk mark) :: bkR bk (T + 1) :: L)) (fun h O => back O) fun j hj => ?_
  refine brr_of (fun _ => ?_) (fun _ => ?_)
  · refine ⟨_, rfl, ?_⟩
    refine ld_book h2 O 5 rfl ?_
    repeat (first
      | (with_reducible refine al_id ?_); refine O.al fun _ h O => ?_
      | (with_reducible refine nn_id ?_); refine ⟨_, rfl, ?_⟩
      | (with_reducible refine ld_id ?_); (first | refine O.ld 0 rfl ?_); (repeat (first | (with_reducible refine ldL_n ?_) | refine ldL_s ?_ | refine ldL_c ?_))
      | (with_reducible refine st_ad (by first | (with_reducible rfl) | (simp only [pt_add, Nat.zero_add, Nat.add_zero, Nat.reduceAdd]; with_reducible rfl)) ?_); (first | refine O.st 0 rfl (by simp) rfl fun h O => ?_); (dsimp only [V.put, List.set, List.length_cons, List.length_nil] at O)
      | (with_reducible refine ca_id ?_); (first | refine ⟨cellsAre_blk (O.blk (i := 0) (by simp) rfl).2 _ 1, ?_⟩ | refine ⟨cellsAre_blk (O.blk (i := 0) (by simp) rfl).2 _ 2, ?_⟩))
    replace O := O.sel [1, 6, 2, 3, 4, 5] 7 rfl (Nat.le_add_left _ _)
    simp only [selT, List.map, nth, List.drop, List.cons_append, List.nil_append] at O
    refine F_law1_Book_Bytes.is (by omega) (by omega) O fun h O => ?_
    exact hj _ (O.sel [1, 2, 3, 4, 0] 5 rfl (Nat.le_add_left _ _))
  · have O := bk_up (O.sel [6, 2, 3, 4, 5] 7 rfl (Nat.le_add_left _ _)) (Nat.le_succ T)
    exact hj _ (O.sel [1, 2, 3, 4, 0] 5 rfl (Nat.le_add_left _ _))
end
end Go.Proofs.Ytcbelendjpnmiaa.V
/- Two replicas in turns: the whole play; ReplicaExact. -/
namespace Go.Proofs.Ytcbelendjpnmiaa.V
open Go Go.RowKit
set_option linter.unusedVariables false
set_option linter.unusedSimpArgs false
abbrev tyRScript : Ty := .cons tyB (.cons (.sl 30 288 tyROp) .nil)
def prC : PR → Prop | none => False | some x => x.2.2.Ok
section
variable {h0 h : Heap} {L : List Res}
theorem F_law9_into.is {i n : Int} {Q : Int → Heap → Prop} (hn : 0 < n) (hn2 : n < 4611686018427387904) (k : Q (i % n) h) : F_law9_into i n h Q := by
  rw [F_law9_into.eq_1, F_law9_into_of.eq_1]
  have hf := tmod_fix (a := i) hn
  have hl := tmod_lt (a := i) hn
  refine ⟨by omega, ?_⟩
  refine jn1 (fun x h' => x = i % n ∧ h' = h) ?_ ?_
  · rintro x h ⟨rfl, rfl⟩
    exact k
  · intro j hj
    refine brr_p (fun hlt => ?_) (fun hlt => ?_)
    · rw [if_pos hlt] at hf
      rw [wrap64 (by omega) (by omega)]
      exact hj _ _ ⟨hf, rfl⟩
    · rw [if_neg hlt] at hf
      exact hj _ _ ⟨hf, rfl⟩
theorem prC_set {xs : List PR} {k : Nat} {y : PR} (h : ∀ x ∈ xs, prC x) (hy : prC y) : ∀ x ∈ xs.set k y, prC x := by
  intro z hz
  rcases List.mem_or_eq_of_mem_set hz with hz | rfl
  · exact h z hz
  · exact hy
theorem prC_put {xs : List PR} {k p q : Nat} {r : RS} (h : ∀ x ∈ xs, prC x) (ok : r.Ok) : ∀ x ∈ xs.set k (some (p, q, r)), prC x := prC_set h ok
theorem ok_new {zs : List UInt8} (hb : zs.length ≤ (140737488355325 : Nat)) : RS.Ok ⟨0, 0, 0, zs, 0⟩ := ⟨hb, Int.le_refl _, by show (0 : Int) ≤ _; decide⟩
theorem F_law9_stage_plays.is {a bk T : Nat} {mark : Bool} {xs : List PR} {o : ROp} {Q : Bool → Heap → Prop} (h2 : xs.length = 2) (hpr : ∀ x ∈ xs, prC x) (hT : T ≤ 100000000) (oo : o.Ok h0)
    (O : Sat h0 h (own a (stR xs bk mark) :: bkR bk T :: many prR xs :: L)) (kk : ∀ (ys : List PR) h', ys.length = 2 → (∀ x ∈ ys, prC x) → Sat h0 h' (own a (stR ys bk mark) :: bkR bk (T + 1) :: many prR ys :: L) → Q true h') : F_law9_stage_plays (some (pt a 0)) o.do_ o.which o.span o.epoch (o.m).kind (o.m).frm (o.m).to (o.m).shard (o.m).epoch (o.m).te (o.m).ts (o.m).round (o.m).span (o.m).seen (o.m).v (o.m).peer (o.m).num (o.m).name (o.m).other (o.m).amount (o.m).life (o.m).id (o.m).op (o.m).client (o.m).state (o.m).bad o.sp o.ste o.sts o.sv h Q := by
  rw [F_law9_stage_plays.eq_1, F_law9_stage_plays_of.eq_1]
  refine O.al fun x32 h O => ?_
  refine O.ld 0 rfl (ldL_c (ldL_n ?_))
  refine F_law9_into.is (by decide) (by decide) ?_
  have n0 := Int.emod_nonneg o.which (show (2 : Int) ≠ 0 by decide)
  have n1 := Int.emod_lt_of_pos o.which (show (0 : Int) < 2 by decide)
  obtain ⟨k, hkk⟩ : ∃ k : Nat, o.which % 2 = k := ⟨(o.which % 2).toNat, by omega⟩
  rw [hkk] at n0 n1 ⊢
  have hk : k < 2 := by omega
  obtain ⟨x, hx⟩ : ∃ x, xs[k]? = some x := ⟨_, List.getElem?_eq_getElem (by omega)⟩
  have hxc := hpr _ (List.mem_of_getElem? hx)
  obtain ⟨⟨p, q, r⟩, rfl⟩ : ∃ y, x = some y := by
    cases x with
    | none => exact hxc.elim
    | some y => exact ⟨y, rfl⟩
  have ok : r.Ok := hxc
  have sz : ∀ y : PR, (xs.set k y).length = 2 := fun y => by rw [List.length_set]; exact h2
  refine O.ld 0 rfl (ldL_c (ldL_n ?_))
  refine brr_eq (fun d1 => ?_) (fun d1 => ?_)
  · refine O.ld 0 rfl ?_
    repeat (first | (with_reducible refine ldL_n ?_) | refine ldL_s ?_ | refine ldL_c ?_)
    refine F_law9_stage_hear.is (m := o.m) h2 hk hx ok hT oo.mv oo.mb O.drop fun h O => ?_
    exact kk _ h (sz _) (prC_put hpr (hearS_ok ok oo.mb oo.mspan)) O
  have O1 : Sat h0 h (repR p r :: repR q r :: hole prR xs k :: own x32 (ropC o) :: own a (stR xs bk mark) :: bkR bk T :: L) :=
    ((O.sel [3, 0, 1, 2] 4 rfl (Nat.le_add_left _ _)).take k hx).sep
  have back : ∀ {h : Heap} {r' : RS} {M : List Res}, r'.Ok → Sat h0 h (repR p r' :: repR q r' :: hole prR xs k :: own x32 (ropC o) :: own a (stR xs bk mark) :: bkR bk T :: L) → Q true h := by
    intro h r' M ok' O
    have O := Sat.give (f := prR) (y := some (p, q, r')) O.sepI (List.getElem?_eq_some_iff.1 hx).1
    have O : Sat h0 h (own a (stR xs bk mark) :: bkR bk T :: many prR (xs.set k (some (p, q, r'))) :: L) := O.sel [2, 3, 0] 4 rfl (Nat.le_add_left _ _)
    rw [← stR_same (r' := r') hx] at O
    exact kk _ _ (sz _) (prC_put hpr ok') ((bk_up O.swap (Nat.le_succ T)).swap)
  refine jn0 (fun h' => Q true h') (fun h hq => hq) fun j62 hj => ?_
  refine brr_eq (fun d2 => ?_) (fun d2 => ?_)
  · refine ⟨_, rfl, ?_⟩
    refine sr_n hx hk O1 4 rfl fun c1 _ => ?_
    refine F_replica_Replica_Tick.is ok O1 fun h O => ?_
    refine ⟨_, rfl, ?_⟩
    refine sr_w h2 hx hk O 4 rfl fun c2 _ => ?_
    refine F_ref9_Replica_Tick.is ok O.swap fun h O => ?_
    exact hj _ (back (M := L) (tickS_ok ok) O.swap)
  refine brr_eq (fun d3 => ?_) (fun d3 => ?_)
  · refine ⟨_, rfl, ?_⟩
    refine sr_n hx hk O1 4 rfl fun c1 _ => ?_
    refine O1.ld 3 rfl (ldL_c (ldL_n ?_))
    refine ⟨_, rfl, ?_⟩
    refine sr_w h2 hx hk O1 4 rfl fun c2 hc2 => ?_
    refine O1.ld 3 rfl (ldL_c (ldL_n ?_))
    refine F_replica_Replica_Own.is O1 fun h O => ?_
    refine ⟨hc2 O 4 rfl, cellsAre_blk (O.blk (i := 3) (by simp) rfl).2 3 1, ?_⟩
    refine F_ref9_Replica_Own.is O.swap fun h O => ?_
    have := back (r' := ownS r o.epoch) (M := L) ⟨ok.v, ok.w0, ok.w1⟩ O.swap
    simpa using this
  refine brr_eq (fun d4 => ?_) (fun d4 => ?_)
  · refine F_law9_stage_stored.is h2 hk hx ok hT O.drop fun h O => ?_
    exact kk _ h h2 hpr O
  refine brr_eq (fun d5 => ?_) (fun d5 => ?_)
  · refine O.ld 0 rfl (ldL_c (ldL_c (ldL_c (ldL_s (ldL_n ?_)))))
    refine O.ld 0 rfl (ldL_c (ldL_n ?_))
    replace O := O.sel [1, 3, 2] 4 rfl (Nat.le_add_left _ _)
    have O : Sat h0 h (own a (stR xs bk mark) :: many prR xs :: bkR bk T :: L) := O
    refine F_law9_stage_load.is h2 hk (fun h O => oo.sv.kept O.kept) oo.sb O fun p' q' h O => ?_
    have hsp := spanOf_ok oo.span
    exact kk _ h (sz _) (prC_put hpr ⟨oo.sb, hsp.1, hsp.2⟩) ((bk_up (O.sel [2, 0, 1] 3 rfl (Nat.le_add_left _ _)) (Nat.le_succ T)).swap)
  refine brr_eq (fun d6 => ?_) (fun d6 => ?_)
  · refine O.ld 0 rfl (ldL_s (ldL_n ?_))
    replace O := O.sel [1, 3, 2] 4 rfl (Nat.le_add_left _ _)
    have O : Sat h0 h (own a (stR xs bk mark) :: many prR xs :: bkR bk T :: L) := O
    refine F_law9_stage_fresh.is h2 hk oo.sv oo.sb O fun p' q' h O => ?_
    exact kk _ h (sz _) (prC_put hpr (ok_new oo.sb)) ((bk_up (O.sel [2, 0, 1] 3 rfl (Nat.le_add_left _ _)) (Nat.le_succ T)).swap)
  refine brr_eq (fun d7 => ?_) (fun d7 => ?_)
  · refine ⟨_, rfl, ?_⟩
    refine sr_w h2 hx hk O1 4 rfl fun c2 hc2 => ?_
    refine O1.ld 3 rfl (ldL_c (ldL_n ?_))
    refine F_ref9_Replica_Stored.is ok O1.swap fun s h O => ?_
    refine ⟨cellsAre_blk (O.blk (i := 4) (by simp) rfl).2 2 1, ?_⟩
    have O2 := Sat.give (f := prR) (y := some (p, q, r)) (Sat.sepI (O.sel [2, 1, 3, 0, 4, 5, 6] 7 rfl (Nat.le_add_left _ _))) (List.getElem?_eq_some_iff.1 hx).1
    rw [set_same hx] at O2
    have O : Sat h0 h (own a (stR xs bk mark) :: many prR xs :: bkR bk T :: buf 1 u8 s r.val :: L) := O2.sel [3, 0, 4, 1] 5 rfl (Nat.le_add_left _ _)
    have hsp := spanOf_ok oo.span
    refine F_law9_stage_load.is h2 hk (fun h O => (O.view 1 u8_len (by simp) rfl).1) ok.v O fun p' q' h O => ?_
    exact kk _ h (sz _) (prC_put (r := ⟨r.prom, r.te, r.ts, r.val, spanOf o.span⟩) hpr ⟨ok.v, hsp.1, hsp.2⟩) ((bk_up (O.sel [2, 0, 1] 4 rfl (Nat.le_add_left _ _)) (Nat.le_succ T)).swap)
  · exact hj _ (back (r' := r) (M := L) ok O1)
theorem book_new {bk : Nat} (O : Sat h0 h (own bk (bkC ⟨none, 0, 0⟩ ⟨none, 0, 0⟩ 0 0 0 0) :: L)) : Sat h0 h (bkR bk 0 :: L) := by
  have O := famR.none O
  have O := O.nil_buf (sz := 1) (enc := natc)
  have O := O.nil_buf (sz := 1) (enc := slc)
  replace O := O.sel [3, 0, 1, 2] 4 rfl (Nat.le_add_left _ _)
  simp only [selT, List.map, nth, List.drop, List.cons_append, List.nil_append] at O
  exact Sat.bookI (x := ⟨⟨none, 0, 0⟩, ⟨none, 0, 0⟩, [], 0, 0, 0, 0⟩) ⟨Nat.le_refl _, Nat.le_refl _, by simp, by decide, fun i e hi => by simp at hi⟩ O
theorem rstage0 {bk a c4 : Nat} {mark : Bool} {s1 s2 : Sl} {zs : List UInt8} {j : Bool → Heap → Prop} (Vv : Bytes h0 s1 zs) (hb : zs.length ≤ (140737488355325 : Nat)) (O : Sat h0 h (own a [.pointer none, .pointer none, .pointer none, .pointer none, .pointer (some (pt bk 0)), .bool mark] :: own bk (bkC ⟨none, 0, 0⟩ ⟨none, 0, 0⟩ 0 0 0 0) :: own c4 [.slice s1.ptr s1.len s1.cap, .slice s2.ptr s2.len s2.cap] :: L))
    (kk : ∀ (xs : List PR) h', xs.length = 2 → (∀ x ∈ xs, prC x) → Sat h0 h' (own a (stR xs bk mark) :: bkR bk 0 :: many prR xs :: own c4 [.slice s1.ptr s1.len s1.cap, .slice s2.ptr s2.len s2.cap] :: L) → j false h') :
    ld [.sl] ((pt c4 0).add 0) h fun v11 => F_law9_stage_fresh (some (pt a 0)) 0 v11 h fun r12 h13 => brr (!r12) (j true h13) (ld [.sl] ((pt c4 0).add 0) h13 fun v14 => F_law9_stage_fresh (some (pt a 0)) 1 v14 h13 fun r15 h16 => j (!r15) h16) := by
  have O := (book_new O.swap).swap
  have O : Sat h0 h (many prR [] :: own a (stR [none, none] bk mark) :: bkR bk 0 :: own c4 [.slice s1.ptr s1.len s1.cap, .slice s2.ptr s2.len s2.cap] :: L) := O.none (f := prR)
  have O : Sat h0 h (prR none :: many prR [] :: own a (stR [none, none] bk mark) :: bkR bk 0 :: own c4 [.slice s1.ptr s1.len s1.cap, .slice s2.ptr s2.len s2.cap] :: L) := O.empI
  have O := O.more
  have O : Sat h0 h (prR none :: many prR [none] :: own a (stR [none, none] bk mark) :: bkR bk 0 :: own c4 [.slice s1.ptr s1.len s1.cap, .slice s2.ptr s2.len s2.cap] :: L) := O.empI
  have O := O.more
  have O : Sat h0 h (many prR [none, none] :: own a (stR [none, none] bk mark) :: bkR bk 0 :: own c4 [.slice s1.ptr s1.len s1.cap, .slice s2.ptr s2.len s2.cap] :: L) := O
  repeat (first
    | (with_reducible refine al_id ?_); refine O.al fun _ h O => ?_
    | (with_reducible refine nn_id ?_); refine ⟨_, rfl, ?_⟩
    | (with_reducible refine ld_id ?_); (first | refine O.ld 0 rfl ?_ | refine O.ld 1 rfl ?_ | refine O.ld 2 rfl ?_ | refine O.ld 3 rfl ?_); (repeat (first | (with_reducible refine ldL_n ?_) | refine ldL_s ?_ | refine ldL_c ?_))
    | (with_reducible refine st_ad (by first | (with_reducible rfl) | (simp only [pt_add, Nat.zero_add, Nat.add_zero, Nat.reduceAdd]; with_reducible rfl)) ?_); (first | refine O.st 0 rfl (by simp) rfl fun h O => ?_ | refine O.st 1 rfl (by simp) rfl fun h O => ?_ | refine O.st 2 rfl (by simp) rfl fun h O => ?_ | refine O.st 3 rfl (by simp) rfl fun h O => ?_); (dsimp only [V.put, List.set, List.length_cons, List.length_nil] at O)
    | (with_reducible refine ca_id ?_); (first | refine ⟨cellsAre_blk (O.blk (i := 0) (by simp) rfl).2 _ 1, ?_⟩ | refine ⟨cellsAre_blk (O.blk (i := 0) (by simp) rfl).2 _ 2, ?_⟩ | refine ⟨cellsAre_blk (O.blk (i := 1) (by simp) rfl).2 _ 1, ?_⟩ | refine ⟨cellsAre_blk (O.blk (i := 1) (by simp) rfl).2 _ 2, ?_⟩ | refine ⟨cellsAre_blk (O.blk (i := 2) (by simp) rfl).2 _ 1, ?_⟩ | refine ⟨cellsAre_blk (O.blk (i := 2) (by simp) rfl).2 _ 2, ?_⟩ | refine ⟨cellsAre_blk (O.blk (i := 3) (by simp) rfl).2 _ 1, ?_⟩ | refine ⟨cellsAre_blk (O.blk (i := 3) (by simp) rfl).2 _ 2, ?_⟩))
  replace O := O.sel [1, 0, 2, 3] 4 rfl (Nat.le_add_left _ _)
  simp only [selT, List.map, nth, List.drop, List.cons_append, List.nil_append] at O
  refine F_law9_stage_fresh.is (k := 0) rfl (by decide) Vv hb O fun p0 q0 h O => ?_
  refine brr_ff rfl ?_
  repeat (first
    | (with_reducible refine al_id ?_); refine O.al fun _ h O => ?_
    | (with_reducible refine nn_id ?_); refine ⟨_, rfl, ?_⟩
    | (with_reducible refine ld_id ?_); (first | refine O.ld 0 rfl ?_ | refine O.ld 1 rfl ?_ | refine O.ld 2 rfl ?_ | refine O.ld 3 rfl ?_); (repeat (first | (with_reducible refine ldL_n ?_) | refine ldL_s ?_ | refine ldL_c ?_))
    | (with_reducible refine st_ad (by first | (with_reducible rfl) | (simp only [pt_add, Nat.zero_add, Nat.add_zero, Nat.reduceAdd]; with_reducible rfl)) ?_); (first | refine O.st 0 rfl (by simp) rfl fun h O => ?_ | refine O.st 1 rfl (by simp) rfl fun h O => ?_ | refine O.st 2 rfl (by simp) rfl fun h O => ?_ | refine O.st 3 rfl (by simp) rfl fun h O => ?_); (dsimp only [V.put, List.set, List.length_cons, List.length_nil] at O)
    | (with_reducible refine ca_id ?_); (first | refine ⟨cellsAre_blk (O.blk (i := 0) (by simp) rfl).2 _ 1, ?_⟩ | refine ⟨cellsAre_blk (O.blk (i := 0) (by simp) rfl).2 _ 2, ?_⟩ | refine ⟨cellsAre_blk (O.blk (i := 1) (by simp) rfl).2 _ 1, ?_⟩ | refine ⟨cellsAre_blk (O.blk (i := 1) (by simp) rfl).2 _ 2, ?_⟩ | refine ⟨cellsAre_blk (O.blk (i := 2) (by simp) rfl).2 _ 1, ?_⟩ | refine ⟨cellsAre_blk (O.blk (i := 2) (by simp) rfl).2 _ 2, ?_⟩ | refine ⟨cellsAre_blk (O.blk (i := 3) (by simp) rfl).2 _ 1, ?_⟩ | refine ⟨cellsAre_blk (O.blk (i := 3) (by simp) rfl).2 _ 2, ?_⟩))
  refine F_law9_stage_fresh.is (k := 1) rfl (by decide) Vv hb O fun p1 q1 h O => ?_
  refine kk _ h rfl (fun x hx => ?_) (O.sel [0, 2, 1, 3] 4 rfl (Nat.le_add_left _ _))
  simp only [List.set, List.mem_cons, List.not_mem_nil, or_false] at hx
  rcases hx with rfl | rfl
  · exact ok_new hb
  · exact ok_new hb
theorem F_law9_play.is {s1 s2 : Sl} {mark : Bool} {zs : List UInt8} {ops : List ROp} {Q : Bool → Heap → Prop} (Vv : Bytes h0 s1 zs) (hb : zs.length ≤ (140737488355325 : Nat)) (Vo : View h0 30 (ropR h0) s2 ops) (O : Sat h0 h L) (kk : ∀ h', Sat h0 h' L → Q true h') : F_law9_play s1 s2 mark h Q := by
  rw [F_law9_play.eq_1, F_law9_play_of.eq_1]
  refine O.al fun c4 h O => ?_
  refine O.al fun bk h O => ?_
  refine O.al fun a h O => ?_
  refine jn1 (fun z h' => z = false ∧ ∃ xs : List PR, xs.length = 2 ∧ (∀ x ∈ xs, prC x) ∧ Sat h0 h' (own a (stR xs bk mark) :: bkR bk 0 :: many prR xs :: own c4 [.slice s1.ptr s1.len s1.cap, .slice s2.ptr s2.len s2.cap] :: L)) ?_ ?_
  case refine_2 =>
    intro j hj
    exact rstage0 Vv hb O fun xs h h2 hx O => hj _ _ ⟨rfl, xs, h2, hx, O⟩
  clear O
  rintro z h ⟨rfl, xs, h2, hx, O⟩
  refine brr_ff rfl ?_
  refine jn0 (fun h' => ∃ xs : List PR, xs.length = 2 ∧ (∀ x ∈ xs, prC x) ∧ Sat h0 h' (own a (stR xs bk mark) :: bkR bk 500 :: many prR xs :: L)) ?_ ?_
  · clear O hx h2 xs
    rintro h ⟨xs, h2, hx, O⟩
    refine jn1 (fun z h' => z = true ∧ Sat h0 h' L) (fun z h' ⟨e, O⟩ => e ▸ kk h' O) fun j hj => ?_
    have get : ∀ k, k < 2 → ∃ p q r, xs[k]? = some (some (p, q, r)) ∧ RS.Ok r := by
      intro k hk
      obtain ⟨x, hxk⟩ : ∃ x, xs[k]? = some x := ⟨_, List.getElem?_eq_getElem (by omega)⟩
      have hc := hx _ (List.mem_of_getElem? hxk)
      cases x with
      | none => exact hc.elim
      | some y => exact ⟨y.1, y.2.1, y.2.2, hxk, hc⟩
    obtain ⟨p0, q0, r0, hx0, ok0⟩ := get 0 (by decide)
    obtain ⟨p1, q1, r1, hx1, ok1⟩ := get 1 (by decide)
    refine F_law9_stage_stored.is (k := 0) h2 (by decide) hx0 ok0 (by decide) O fun h O => ?_
    refine brr_tt rfl ?_
    refine F_law9_stage_stored.is (k := 1) h2 (by decide) hx1 ok1 (by decide) O fun h O => ?_
    refine brr_tt rfl ?_
    refine F_law9_lives.is O.drop.drop.drop fun h O => ?_
    exact hj _ _ ⟨rfl, O⟩
  intro j22 hj22
  rw [F_law9_play.l1.eq_1]
  refine wl1 (k := .int .i64) (fun (m : Nat) (i : Int) (h' : Heap) => i + m = ops.length ∧ 0 ≤ i ∧ i ≤ 500 ∧ ∃ xs : List PR, xs.length = 2 ∧ (∀ x ∈ xs, prC x) ∧ Sat h0 h' (own a (stR xs bk mark) :: bkR bk i.toNat :: many prR xs :: own c4 [.slice s1.ptr s1.len s1.cap, .slice s2.ptr s2.len s2.cap] :: L)) ?_ (m := ops.length) ⟨by omega, by omega, by omega, xs, h2, hx, O⟩
  clear O hx h2 xs
  rintro m (i : Int) h next hn ⟨hi, hi0, hi4, xs, h2, hx, O⟩
  refine jn1 (fun t h' => h' = h ∧ t = decide (i < ops.length ∧ i < 500)) ?_ ?_
  case refine_2 =>
    intro j2 hj2
    repeat (first
      | (with_reducible refine al_id ?_); refine O.al fun _ h O => ?_
      | (with_reducible refine nn_id ?_); refine ⟨_, rfl, ?_⟩
      | (with_reducible refine ld_id ?_); (first | refine O.ld 0 rfl ?_ | refine O.ld 1 rfl ?_ | refine O.ld 2 rfl ?_ | refine O.ld 3 rfl ?_); (repeat (first | (with_reducible refine ldL_n ?_) | refine ldL_s ?_ | refine ldL_c ?_))
      | (with_reducible refine st_ad (by first | (with_reducible rfl) | (simp only [pt_add, Nat.zero_add, Nat.add_zero, Nat.reduceAdd]; with_reducible rfl)) ?_); (first | refine O.st 0 rfl (by simp) rfl fun h O => ?_ | refine O.st 1 rfl (by simp) rfl fun h O => ?_ | refine O.st 2 rfl (by simp) rfl fun h O => ?_ | refine O.st 3 rfl (by simp) rfl fun h O => ?_); (dsimp only [V.put, List.set, List.length_cons, List.length_nil] at O)
      | (with_reducible refine ca_id ?_); (first | refine ⟨cellsAre_blk (O.blk (i := 0) (by simp) rfl).2 _ 1, ?_⟩ | refine ⟨cellsAre_blk (O.blk (i := 0) (by simp) rfl).2 _ 2, ?_⟩ | refine ⟨cellsAre_blk (O.blk (i := 1) (by simp) rfl).2 _ 1, ?_⟩ | refine ⟨cellsAre_blk (O.blk (i := 1) (by simp) rfl).2 _ 2, ?_⟩ | refine ⟨cellsAre_blk (O.blk (i := 2) (by simp) rfl).2 _ 1, ?_⟩ | refine ⟨cellsAre_blk (O.blk (i := 2) (by simp) rfl).2 _ 2, ?_⟩ | refine ⟨cellsAre_blk (O.blk (i := 3) (by simp) rfl).2 _ 1, ?_⟩ | refine ⟨cellsAre_blk (O.blk (i := 3) (by simp) rfl).2 _ 2, ?_⟩))
    rw [Vo.len]
    refine brr_p (fun hlt => ?_) (fun hlt => ?_)
    · exact hj2 _ _ ⟨rfl, by simp [hlt]⟩
    · exact hj2 _ _ ⟨rfl, by simp; intro h; omega⟩
  rintro t h ⟨rfl, rfl⟩
  refine brr_p (fun ht => ?_) (fun ht => hj22 _ ⟨xs, h2, hx, (bk_up (O.sel [1, 0, 2] 4 rfl (Nat.le_add_left _ _)) (by omega)).swap⟩)
  obtain ⟨hlt, hlt4⟩ := ht
  refine jn1 (fun z h' => z = false ∧ ∃ xs : List PR, xs.length = 2 ∧ (∀ x ∈ xs, prC x) ∧ Sat h0 h' (own a (stR xs bk mark) :: bkR bk (i.toNat + 1) :: many prR xs :: own c4 [.slice s1.ptr s1.len s1.cap, .slice s2.ptr s2.len s2.cap] :: L)) ?_ ?_
  · clear O hx h2 xs
    rintro z h ⟨rfl, xs, h2, hx, O⟩
    refine brr_ff rfl ?_
    have e1 : (i + 1).toNat = i.toNat + 1 := by omega
    rw [wrap64 (by omega) (by omega)]
    exact hn (m - 1) _ _ (by omega) ⟨by omega, by omega, by omega, xs, h2, hx, by rw [e1]; exact O⟩
  intro j30 hj30
  repeat (first
    | (with_reducible refine al_id ?_); refine O.al fun _ h O => ?_
    | (with_reducible refine nn_id ?_); refine ⟨_, rfl, ?_⟩
    | (with_reducible refine ld_id ?_); (first | refine O.ld 0 rfl ?_ | refine O.ld 1 rfl ?_ | refine O.ld 2 rfl ?_ | refine O.ld 3 rfl ?_); (repeat (first | (with_reducible refine ldL_n ?_) | refine ldL_s ?_ | refine ldL_c ?_))
    | (with_reducible refine st_ad (by first | (with_reducible rfl) | (simp only [pt_add, Nat.zero_add, Nat.add_zero, Nat.reduceAdd]; with_reducible rfl)) ?_); (first | refine O.st 0 rfl (by simp) rfl fun h O => ?_ | refine O.st 1 rfl (by simp) rfl fun h O => ?_ | refine O.st 2 rfl (by simp) rfl fun h O => ?_ | refine O.st 3 rfl (by simp) rfl fun h O => ?_); (dsimp only [V.put, List.set, List.length_cons, List.length_nil] at O)
    | (with_reducible refine ca_id ?_); (first | refine ⟨cellsAre_blk (O.blk (i := 0) (by simp) rfl).2 _ 1, ?_⟩ | refine ⟨cellsAre_blk (O.blk (i := 0) (by simp) rfl).2 _ 2, ?_⟩ | refine ⟨cellsAre_blk (O.blk (i := 1) (by simp) rfl).2 _ 1, ?_⟩ | refine ⟨cellsAre_blk (O.blk (i := 1) (by simp) rfl).2 _ 2, ?_⟩ | refine ⟨cellsAre_blk (O.blk (i := 2) (by simp) rfl).2 _ 1, ?_⟩ | refine ⟨cellsAre_blk (O.blk (i := 2) (by simp) rfl).2 _ 2, ?_⟩ | refine ⟨cellsAre_blk (O.blk (i := 3) (by simp) rfl).2 _ 1, ?_⟩ | refine ⟨cellsAre_blk (O.blk (i := 3) (by simp) rfl).2 _ 2, ?_⟩))
  refine (Vo.kept O.kept).ix hi0 hlt fun a2 cs o ho hlen hR hc => ?_
  obtain ⟨rfl, oo⟩ := hR
  refine ld_are hc ?_
  unfold ropC
  repeat (first | (with_reducible refine ldL_n ?_) | refine ldL_s ?_ | refine ldL_c ?_)
  refine F_law9_stage_plays.is (o := o) h2 hx (by omega) oo O fun ys h h2 hy O => ?_
  refine brr_ff rfl ?_
  refine ⟨_, rfl, ?_⟩
  refine ld_book h2 O 0 rfl ?_
  refine F_law1_Book_Look.is (by omega) O.swap fun h O => ?_
  exact hj30 _ _ ⟨rfl, ys, h2, hy, O.swap⟩
end
theorem replicaExact_main (H : Heap) (cs : List Value) (F : Fit H 140737488351232 tyRScript cs) : E_law9_ReplicaExact [.agg cs.toArray] H (fun r h' => r = .bool true ∧ KeptH H h') := by
  obtain ⟨t1, _, rfl, t1S, F⟩ := Fit.s F
  obtain ⟨t2, _, rfl, t2S, F⟩ := Fit.s F
  obtain rfl := Fit.e F
  refine Eq.mpr (E_law9_ReplicaExact.at F_law9_ReplicaExact t1 t2 H _) ?_
  obtain ⟨ops, Vo⟩ := t2S.rops
  obtain ⟨_, b2, lv, Vl⟩ := t1S.bytes
  have hlv := Vl.len
  rw [F_law9_ReplicaExact.eq_1, F_law9_ReplicaExact_of.eq_1]
  refine Sat.al (Sat.nil H) fun x3 h1 O => ?_
  repeat (first
    | (with_reducible refine al_id ?_); refine O.al fun _ h O => ?_
    | (with_reducible refine nn_id ?_); refine ⟨_, rfl, ?_⟩
    | (with_reducible refine ld_id ?_); (first | refine O.ld 0 rfl ?_); (repeat (first | (with_reducible refine ldL_n ?_) | refine ldL_s ?_ | refine ldL_c ?_))
    | (with_reducible refine st_ad (by first | (with_reducible rfl) | (simp only [pt_add, Nat.zero_add, Nat.add_zero, Nat.reduceAdd]; with_reducible rfl)) ?_); (first | refine O.st 0 rfl (by simp) rfl fun h O => ?_); (dsimp only [V.put, List.set, List.length_cons, List.length_nil] at O)
    | (with_reducible refine ca_id ?_); (first | refine ⟨cellsAre_blk (O.blk (i := 0) (by simp) rfl).2 _ 1, ?_⟩ | refine ⟨cellsAre_blk (O.blk (i := 0) (by simp) rfl).2 _ 2, ?_⟩))
  refine F_law9_play.is Vl (by omega) Vo O fun h O => ?_
  exact ⟨rfl, O.kept⟩
end Go.Proofs.Ytcbelendjpnmiaa.V
