import Derived.Test.YtcbelendjpnmiaaZReplicaMeets4
import Derived.Test.YtcbelendjpnmiaaProg
/- Two replicas in turns: the whole play; ReplicaExact. -/
namespace Go.Proofs.Ytcbelendjpnmiaa.V
open Go Go.RowKit
set_option linter.unusedVariables false
set_option linter.unusedSimpArgs false
abbrev tyRScript : Ty := .cons tyB (.cons (.sl 30 288 tyROp) .nil)
def prC : PR → Prop | none => False | some x => x.2.2.Ok
section
variable {h0 h : Heap} {L : List Res}
theorem F_law9_into.is {i n : Int} {Q : Int → Heap → Prop} (hn : 0 < n) (hn2 : n < 4611686018427387904) (k : Q (i % n) h) : F_law9_into i n h Q := by
  rw [F_law9_into.eq_1, F_law9_into_of.eq_1]
  have hf := tmod_fix (a := i) hn
  have hl := tmod_lt (a := i) hn
  refine ⟨by omega, ?_⟩
  refine jn1 (fun x h' => x = i % n ∧ h' = h) ?_ ?_
  · rintro x h ⟨rfl, rfl⟩
    exact k
  · intro j hj
    refine brr_p (fun hlt => ?_) (fun hlt => ?_)
    · rw [if_pos hlt] at hf
      rw [wrap64 (by omega) (by omega)]
      exact hj _ _ ⟨hf, rfl⟩
    · rw [if_neg hlt] at hf
      exact hj _ _ ⟨hf, rfl⟩
theorem prC_set {xs : List PR} {k : Nat} {y : PR} (h : ∀ x ∈ xs, prC x) (hy : prC y) : ∀ x ∈ xs.set k y, prC x := by
  intro z hz
  rcases List.mem_or_eq_of_mem_set hz with hz | rfl
  · exact h z hz
  · exact hy
theorem prC_put {xs : List PR} {k p q : Nat} {r : RS} (h : ∀ x ∈ xs, prC x) (ok : r.Ok) : ∀ x ∈ xs.set k (some (p, q, r)), prC x := prC_set h ok
theorem ok_new {zs : List UInt8} (hb : zs.length ≤ (140737488355325 : Nat)) : RS.Ok ⟨0, 0, 0, zs, 0⟩ := ⟨hb, Int.le_refl _, by show (0 : Int) ≤ _; decide⟩
theorem F_law9_stage_plays.is {a bk T : Nat} {mark : Bool} {xs : List PR} {o : ROp} {Q : Bool → Heap → Prop} (h2 : xs.length = 2) (hpr : ∀ x ∈ xs, prC x) (hT : T ≤ 100000000) (oo : o.Ok h0)
    (O : Sat h0 h (own a (stR xs bk mark) :: bkR bk T :: many prR xs :: L)) (kk : ∀ (ys : List PR) h', ys.length = 2 → (∀ x ∈ ys, prC x) → Sat h0 h' (own a (stR ys bk mark) :: bkR bk (T + 1) :: many prR ys :: L) → Q true h') : F_law9_stage_plays (some (pt a 0)) o.do_ o.which o.span o.epoch (o.m).kind (o.m).frm (o.m).to (o.m).shard (o.m).epoch (o.m).te (o.m).ts (o.m).round (o.m).span (o.m).seen (o.m).v (o.m).peer (o.m).num (o.m).name (o.m).other (o.m).amount (o.m).life (o.m).id (o.m).op (o.m).client (o.m).state (o.m).bad o.sp o.ste o.sts o.sv h Q := by
  rw [F_law9_stage_plays.eq_1, F_law9_stage_plays_of.eq_1]
  refine O.al fun x32 h O => ?_
  refine O.ld 0 rfl (ldL_c (ldL_n ?_))
  refine F_law9_into.is (by decide) (by decide) ?_
  have n0 := Int.emod_nonneg o.which (show (2 : Int) ≠ 0 by decide)
  have n1 := Int.emod_lt_of_pos o.which (show (0 : Int) < 2 by decide)
  obtain ⟨k, hkk⟩ : ∃ k : Nat, o.which % 2 = k := ⟨(o.which % 2).toNat, by omega⟩
  rw [hkk] at n0 n1 ⊢
  have hk : k < 2 := by omega
  obtain ⟨x, hx⟩ : ∃ x, xs[k]? = some x := ⟨_, List.getElem?_eq_getElem (by omega)⟩
  have hxc := hpr _ (List.mem_of_getElem? hx)
  obtain ⟨⟨p, q, r⟩, rfl⟩ : ∃ y, x = some y := by
    cases x with
    | none => exact hxc.elim
    | some y => exact ⟨y, rfl⟩
  have ok : r.Ok := hxc
  have sz : ∀ y : PR, (xs.set k y).length = 2 := fun y => by rw [List.length_set]; exact h2
  refine O.ld 0 rfl (ldL_c (ldL_n ?_))
  refine brr_eq (fun d1 => ?_) (fun d1 => ?_)
  · refine O.ld 0 rfl ?_
    repeat (first | (with_reducible refine ldL_n ?_) | refine ldL_s ?_ | refine ldL_c ?_)
    refine F_law9_stage_hear.is (m := o.m) h2 hk hx ok hT oo.mv oo.mb O.drop fun h O => ?_
    exact kk _ h (sz _) (prC_put hpr (hearS_ok ok oo.mb oo.mspan)) O
  have O1 : Sat h0 h (repR p r :: repR q r :: hole prR xs k :: own x32 (ropC o) :: own a (stR xs bk mark) :: bkR bk T :: L) :=
    ((O.sel [3, 0, 1, 2] 4 rfl (Nat.le_add_left _ _)).take k hx).sep
  have back : ∀ {h : Heap} {r' : RS} {M : List Res}, r'.Ok → Sat h0 h (repR p r' :: repR q r' :: hole prR xs k :: own x32 (ropC o) :: own a (stR xs bk mark) :: bkR bk T :: L) → Q true h := by
    intro h r' M ok' O
    have O := Sat.give (f := prR) (y := some (p, q, r')) O.sepI (List.getElem?_eq_some_iff.1 hx).1
    have O : Sat h0 h (own a (stR xs bk mark) :: bkR bk T :: many prR (xs.set k (some (p, q, r'))) :: L) := O.sel [2, 3, 0] 4 rfl (Nat.le_add_left _ _)
    rw [← stR_same (r' := r') hx] at O
    exact kk _ _ (sz _) (prC_put hpr ok') ((bk_up O.swap (Nat.le_succ T)).swap)
  refine jn0 (fun h' => Q true h') (fun h hq => hq) fun j62 hj => ?_
  refine brr_eq (fun d2 => ?_) (fun d2 => ?_)
  · refine ⟨_, rfl, ?_⟩
    refine sr_n hx hk O1 4 rfl fun c1 _ => ?_
    refine F_replica_Replica_Tick.is ok O1 fun h O => ?_
    refine ⟨_, rfl, ?_⟩
    refine sr_w h2 hx hk O 4 rfl fun c2 _ => ?_
    refine F_ref9_Replica_Tick.is ok O.swap fun h O => ?_
    exact hj _ (back (M := L) (tickS_ok ok) O.swap)
  refine brr_eq (fun d3 => ?_) (fun d3 => ?_)
  · refine ⟨_, rfl, ?_⟩
    refine sr_n hx hk O1 4 rfl fun c1 _ => ?_
    refine O1.ld 3 rfl (ldL_c (ldL_n ?_))
    refine ⟨_, rfl, ?_⟩
    refine sr_w h2 hx hk O1 4 rfl fun c2 hc2 => ?_
    refine O1.ld 3 rfl (ldL_c (ldL_n ?_))
    refine F_replica_Replica_Own.is O1 fun h O => ?_
    refine ⟨hc2 O 4 rfl, cellsAre_blk (O.blk (i := 3) (by simp) rfl).2 3 1, ?_⟩
    refine F_ref9_Replica_Own.is O.swap fun h O => ?_
    have := back (r' := ownS r o.epoch) (M := L) ⟨ok.v, ok.w0, ok.w1⟩ O.swap
    simpa using this
  refine brr_eq (fun d4 => ?_) (fun d4 => ?_)
  · refine F_law9_stage_stored.is h2 hk hx ok hT O.drop fun h O => ?_
    exact kk _ h h2 hpr O
  refine brr_eq (fun d5 => ?_) (fun d5 => ?_)
  · refine O.ld 0 rfl (ldL_c (ldL_c (ldL_c (ldL_s (ldL_n ?_)))))
    refine O.ld 0 rfl (ldL_c (ldL_n ?_))
    replace O := O.sel [1, 3, 2] 4 rfl (Nat.le_add_left _ _)
    have O : Sat h0 h (own a (stR xs bk mark) :: many prR xs :: bkR bk T :: L) := O
    refine F_law9_stage_load.is h2 hk (fun h O => oo.sv.kept O.kept) oo.sb O fun p' q' h O => ?_
    have hsp := spanOf_ok oo.span
    exact kk _ h (sz _) (prC_put hpr ⟨oo.sb, hsp.1, hsp.2⟩) ((bk_up (O.sel [2, 0, 1] 3 rfl (Nat.le_add_left _ _)) (Nat.le_succ T)).swap)
  refine brr_eq (fun d6 => ?_) (fun d6 => ?_)
  · refine O.ld 0 rfl (ldL_s (ldL_n ?_))
    replace O := O.sel [1, 3, 2] 4 rfl (Nat.le_add_left _ _)
    have O : Sat h0 h (own a (stR xs bk mark) :: many prR xs :: bkR bk T :: L) := O
    refine F_law9_stage_fresh.is h2 hk oo.sv oo.sb O fun p' q' h O => ?_
    exact kk _ h (sz _) (prC_put hpr (ok_new oo.sb)) ((bk_up (O.sel [2, 0, 1] 3 rfl (Nat.le_add_left _ _)) (Nat.le_succ T)).swap)
  refine brr_eq (fun d7 => ?_) (fun d7 => ?_)
  · refine ⟨_, rfl, ?_⟩
    refine sr_w h2 hx hk O1 4 rfl fun c2 hc2 => ?_
    refine O1.ld 3 rfl (ldL_c (ldL_n ?_))
    refine F_ref9_Replica_Stored.is ok O1.swap fun s h O => ?_
    refine ⟨cellsAre_blk (O.blk (i := 4) (by simp) rfl).2 2 1, ?_⟩
    have O2 := Sat.give (f := prR) (y := some (p, q, r)) (Sat.sepI (O.sel [2, 1, 3, 0, 4, 5, 6] 7 rfl (Nat.le_add_left _ _))) (List.getElem?_eq_some_iff.1 hx).1
    rw [set_same hx] at O2
    have O : Sat h0 h (own a (stR xs bk mark) :: many prR xs :: bkR bk T :: buf 1 u8 s r.val :: L) := O2.sel [3, 0, 4, 1] 5 rfl (Nat.le_add_left _ _)
    have hsp := spanOf_ok oo.span
    refine F_law9_stage_load.is h2 hk (fun h O => (O.view 1 u8_len (by simp) rfl).1) ok.v O fun p' q' h O => ?_
    exact kk _ h (sz _) (prC_put (r := ⟨r.prom, r.te, r.ts, r.val, spanOf o.span⟩) hpr ⟨ok.v, hsp.1, hsp.2⟩) ((bk_up (O.sel [2, 0, 1] 4 rfl (Nat.le_add_left _ _)) (Nat.le_succ T)).swap)
  · exact hj _ (back (r' := r) (M := L) ok O1)
theorem book_new {bk : Nat} (O : Sat h0 h (own bk (bkC ⟨none, 0, 0⟩ ⟨none, 0, 0⟩ 0 0 0 0) :: L)) : Sat h0 h (bkR bk 0 :: L) := by
  have O := famR.none O
  have O := O.nil_buf (sz := 1) (enc := natc)
  have O := O.nil_buf (sz := 1) (enc := slc)
  replace O := O.sel [3, 0, 1, 2] 4 rfl (Nat.le_add_left _ _)
  simp only [selT, List.map, nth, List.drop, List.cons_append, List.nil_append] at O
  exact Sat.bookI (x := ⟨⟨none, 0, 0⟩, ⟨none, 0, 0⟩, [], 0, 0, 0, 0⟩) ⟨Nat.le_refl _, Nat.le_refl _, by simp, by decide, fun i e hi => by simp at hi⟩ O
theorem rstage0 {bk a c4 : Nat} {mark : Bool} {s1 s2 : Sl} {zs : List UInt8} {j : Bool → Heap → Prop} (Vv : Bytes h0 s1 zs) (hb : zs.length ≤ (140737488355325 : Nat)) (O : Sat h0 h (own a [.pointer none, .pointer none, .pointer none, .pointer none, .pointer (some (pt bk 0)), .bool mark] :: own bk (bkC ⟨none, 0, 0⟩ ⟨none, 0, 0⟩ 0 0 0 0) :: own c4 [.slice s1.ptr s1.len s1.cap, .slice s2.ptr s2.len s2.cap] :: L))
    (kk : ∀ (xs : List PR) h', xs.length = 2 → (∀ x ∈ xs, prC x) → Sat h0 h' (own a (stR xs bk mark) :: bkR bk 0 :: many prR xs :: own c4 [.slice s1.ptr s1.len s1.cap, .slice s2.ptr s2.len s2.cap] :: L) → j false h') :
    ld [.sl] ((pt c4 0).add 0) h fun v11 => F_law9_stage_fresh (some (pt a 0)) 0 v11 h fun r12 h13 => brr (!r12) (j true h13) (ld [.sl] ((pt c4 0).add 0) h13 fun v14 => F_law9_stage_fresh (some (pt a 0)) 1 v14 h13 fun r15 h16 => j (!r15) h16) := by
  have O := (book_new O.swap).swap
  have O : Sat h0 h (many prR [] :: own a (stR [none, none] bk mark) :: bkR bk 0 :: own c4 [.slice s1.ptr s1.len s1.cap, .slice s2.ptr s2.len s2.cap] :: L) := O.none (f := prR)
  have O : Sat h0 h (prR none :: many prR [] :: own a (stR [none, none] bk mark) :: bkR bk 0 :: own c4 [.slice s1.ptr s1.len s1.cap, .slice s2.ptr s2.len s2.cap] :: L) := O.empI
  have O := O.more
  have O : Sat h0 h (prR none :: many prR [none] :: own a (stR [none, none] bk mark) :: bkR bk 0 :: own c4 [.slice s1.ptr s1.len s1.cap, .slice s2.ptr s2.len s2.cap] :: L) := O.empI
  have O := O.more
  have O : Sat h0 h (many prR [none, none] :: own a (stR [none, none] bk mark) :: bkR bk 0 :: own c4 [.slice s1.ptr s1.len s1.cap, .slice s2.ptr s2.len s2.cap] :: L) := O
  repeat (first | (with_reducible refine al_id ?_); refine O.al fun _ h O => ?_ | (with_reducible refine nn_id ?_); refine ⟨_, rfl, ?_⟩ | (with_reducible refine ld_id ?_); (first | refine O.ld 0 rfl ?_ | refine O.ld 1 rfl ?_ | refine O.ld 2 rfl ?_ | refine O.ld 3 rfl ?_); (repeat (first | (with_reducible refine ldL_n ?_) | refine ldL_s ?_ | refine ldL_c ?_)) | (with_reducible refine st_ad (by first | (with_reducible rfl) | (simp only [pt_add, Nat.zero_add, Nat.add_zero, Nat.reduceAdd]; with_reducible rfl)) ?_); (first | refine O.st 0 rfl (by simp) rfl fun h O => ?_ | refine O.st 1 rfl (by simp) rfl fun h O => ?_ | refine O.st 2 rfl (by simp) rfl fun h O => ?_ | refine O.st 3 rfl (by simp) rfl fun h O => ?_); (dsimp only [V.put, List.set, List.length_cons, List.length_nil] at O) | (with_reducible refine ca_id ?_); (first | refine O.ca 0 1 rfl ?_ | refine O.ca 0 2 rfl ?_ | refine O.ca 1 1 rfl ?_ | refine O.ca 1 2 rfl ?_ | refine O.ca 2 1 rfl ?_ | refine O.ca 2 2 rfl ?_ | refine O.ca 3 1 rfl ?_ | refine O.ca 3 2 rfl ?_))
  replace O := O.sel [1, 0, 2, 3] 4 rfl (Nat.le_add_left _ _)
  simp only [selT, List.map, nth, List.drop, List.cons_append, List.nil_append] at O
  refine F_law9_stage_fresh.is (k := 0) rfl (by decide) Vv hb O fun p0 q0 h O => ?_
  refine brr_ff rfl ?_
  repeat (first | (with_reducible refine al_id ?_); refine O.al fun _ h O => ?_ | (with_reducible refine nn_id ?_); refine ⟨_, rfl, ?_⟩ | (with_reducible refine ld_id ?_); (first | refine O.ld 0 rfl ?_ | refine O.ld 1 rfl ?_ | refine O.ld 2 rfl ?_ | refine O.ld 3 rfl ?_); (repeat (first | (with_reducible refine ldL_n ?_) | refine ldL_s ?_ | refine ldL_c ?_)) | (with_reducible refine st_ad (by first | (with_reducible rfl) | (simp only [pt_add, Nat.zero_add, Nat.add_zero, Nat.reduceAdd]; with_reducible rfl)) ?_); (first | refine O.st 0 rfl (by simp) rfl fun h O => ?_ | refine O.st 1 rfl (by simp) rfl fun h O => ?_ | refine O.st 2 rfl (by simp) rfl fun h O => ?_ | refine O.st 3 rfl (by simp) rfl fun h O => ?_); (dsimp only [V.put, List.set, List.length_cons, List.length_nil] at O) | (with_reducible refine ca_id ?_); (first | refine O.ca 0 1 rfl ?_ | refine O.ca 0 2 rfl ?_ | refine O.ca 1 1 rfl ?_ | refine O.ca 1 2 rfl ?_ | refine O.ca 2 1 rfl ?_ | refine O.ca 2 2 rfl ?_ | refine O.ca 3 1 rfl ?_ | refine O.ca 3 2 rfl ?_))
  refine F_law9_stage_fresh.is (k := 1) rfl (by decide) Vv hb O fun p1 q1 h O => ?_
  refine kk _ h rfl (fun x hx => ?_) (O.sel [0, 2, 1, 3] 4 rfl (Nat.le_add_left _ _))
  simp only [List.set, List.mem_cons, List.not_mem_nil, or_false] at hx
  rcases hx with rfl | rfl
  · exact ok_new hb
  · exact ok_new hb
theorem F_law9_play.is {s1 s2 : Sl} {mark : Bool} {zs : List UInt8} {ops : List ROp} {Q : Bool → Heap → Prop} (Vv : Bytes h0 s1 zs) (hb : zs.length ≤ (140737488355325 : Nat)) (Vo : View h0 30 (ropR h0) s2 ops) (O : Sat h0 h L) (kk : ∀ h', Sat h0 h' L → Q true h') : F_law9_play s1 s2 mark h Q := by
  rw [F_law9_play.eq_1, F_law9_play_of.eq_1]
  refine O.al fun c4 h O => ?_
  refine O.al fun bk h O => ?_
  refine O.al fun a h O => ?_
  refine jn1 (fun z h' => z = false ∧ ∃ xs : List PR, xs.length = 2 ∧ (∀ x ∈ xs, prC x) ∧ Sat h0 h' (own a (stR xs bk mark) :: bkR bk 0 :: many prR xs :: own c4 [.slice s1.ptr s1.len s1.cap, .slice s2.ptr s2.len s2.cap] :: L)) ?_ ?_
  case refine_2 =>
    intro j hj
    exact rstage0 Vv hb O fun xs h h2 hx O => hj _ _ ⟨rfl, xs, h2, hx, O⟩
  clear O
  rintro z h ⟨rfl, xs, h2, hx, O⟩
  refine brr_ff rfl ?_
  refine jn0 (fun h' => ∃ xs : List PR, xs.length = 2 ∧ (∀ x ∈ xs, prC x) ∧ Sat h0 h' (own a (stR xs bk mark) :: bkR bk 500 :: many prR xs :: L)) ?_ ?_
  · clear O hx h2 xs
    rintro h ⟨xs, h2, hx, O⟩
    refine jn1 (fun z h' => z = true ∧ Sat h0 h' L) (fun z h' ⟨e, O⟩ => e ▸ kk h' O) fun j hj => ?_
    have get : ∀ k, k < 2 → ∃ p q r, xs[k]? = some (some (p, q, r)) ∧ RS.Ok r := by
      intro k hk
      obtain ⟨x, hxk⟩ : ∃ x, xs[k]? = some x := ⟨_, List.getElem?_eq_getElem (by omega)⟩
      have hc := hx _ (List.mem_of_getElem? hxk)
      cases x with
      | none => exact hc.elim
      | some y => exact ⟨y.1, y.2.1, y.2.2, hxk, hc⟩
    obtain ⟨p0, q0, r0, hx0, ok0⟩ := get 0 (by decide)
    obtain ⟨p1, q1, r1, hx1, ok1⟩ := get 1 (by decide)
    refine F_law9_stage_stored.is (k := 0) h2 (by decide) hx0 ok0 (by decide) O fun h O => ?_
    refine brr_tt rfl ?_
    refine F_law9_stage_stored.is (k := 1) h2 (by decide) hx1 ok1 (by decide) O fun h O => ?_
    refine brr_tt rfl ?_
    refine F_law9_lives.is O.drop.drop.drop fun h O => ?_
    exact hj _ _ ⟨rfl, O⟩
  intro j22 hj22
  rw [F_law9_play.l1.eq_1]
  refine wl1 (k := .int .i64) (fun (m : Nat) (i : Int) (h' : Heap) => i + m = ops.length ∧ 0 ≤ i ∧ i ≤ 500 ∧ ∃ xs : List PR, xs.length = 2 ∧ (∀ x ∈ xs, prC x) ∧ Sat h0 h' (own a (stR xs bk mark) :: bkR bk i.toNat :: many prR xs :: own c4 [.slice s1.ptr s1.len s1.cap, .slice s2.ptr s2.len s2.cap] :: L)) ?_ (m := ops.length) ⟨by omega, by omega, by omega, xs, h2, hx, O⟩
  clear O hx h2 xs
  rintro m (i : Int) h next hn ⟨hi, hi0, hi4, xs, h2, hx, O⟩
  refine jn1 (fun t h' => h' = h ∧ t = decide (i < ops.length ∧ i < 500)) ?_ ?_
  case refine_2 =>
    intro j2 hj2
    repeat (first | (with_reducible refine al_id ?_); refine O.al fun _ h O => ?_ | (with_reducible refine nn_id ?_); refine ⟨_, rfl, ?_⟩ | (with_reducible refine ld_id ?_); (first | refine O.ld 0 rfl ?_ | refine O.ld 1 rfl ?_ | refine O.ld 2 rfl ?_ | refine O.ld 3 rfl ?_); (repeat (first | (with_reducible refine ldL_n ?_) | refine ldL_s ?_ | refine ldL_c ?_)) | (with_reducible refine st_ad (by first | (with_reducible rfl) | (simp only [pt_add, Nat.zero_add, Nat.add_zero, Nat.reduceAdd]; with_reducible rfl)) ?_); (first | refine O.st 0 rfl (by simp) rfl fun h O => ?_ | refine O.st 1 rfl (by simp) rfl fun h O => ?_ | refine O.st 2 rfl (by simp) rfl fun h O => ?_ | refine O.st 3 rfl (by simp) rfl fun h O => ?_); (dsimp only [V.put, List.set, List.length_cons, List.length_nil] at O) | (with_reducible refine ca_id ?_); (first | refine O.ca 0 1 rfl ?_ | refine O.ca 0 2 rfl ?_ | refine O.ca 1 1 rfl ?_ | refine O.ca 1 2 rfl ?_ | refine O.ca 2 1 rfl ?_ | refine O.ca 2 2 rfl ?_ | refine O.ca 3 1 rfl ?_ | refine O.ca 3 2 rfl ?_))
    rw [Vo.len]
    refine brr_p (fun hlt => ?_) (fun hlt => ?_)
    · exact hj2 _ _ ⟨rfl, by simp [hlt]⟩
    · exact hj2 _ _ ⟨rfl, by simp; intro h; omega⟩
  rintro t h ⟨rfl, rfl⟩
  refine brr_p (fun ht => ?_) (fun ht => hj22 _ ⟨xs, h2, hx, (bk_up (O.sel [1, 0, 2] 4 rfl (Nat.le_add_left _ _)) (by omega)).swap⟩)
  obtain ⟨hlt, hlt4⟩ := ht
  refine jn1 (fun z h' => z = false ∧ ∃ xs : List PR, xs.length = 2 ∧ (∀ x ∈ xs, prC x) ∧ Sat h0 h' (own a (stR xs bk mark) :: bkR bk (i.toNat + 1) :: many prR xs :: own c4 [.slice s1.ptr s1.len s1.cap, .slice s2.ptr s2.len s2.cap] :: L)) ?_ ?_
  · clear O hx h2 xs
    rintro z h ⟨rfl, xs, h2, hx, O⟩
    refine brr_ff rfl ?_
    have e1 : (i + 1).toNat = i.toNat + 1 := by omega
    rw [wrap64 (by omega) (by omega)]
    exact hn (m - 1) _ _ (by omega) ⟨by omega, by omega, by omega, xs, h2, hx, by rw [e1]; exact O⟩
  intro j30 hj30
  repeat (first | (with_reducible refine al_id ?_); refine O.al fun _ h O => ?_ | (with_reducible refine nn_id ?_); refine ⟨_, rfl, ?_⟩ | (with_reducible refine ld_id ?_); (first | refine O.ld 0 rfl ?_ | refine O.ld 1 rfl ?_ | refine O.ld 2 rfl ?_ | refine O.ld 3 rfl ?_); (repeat (first | (with_reducible refine ldL_n ?_) | refine ldL_s ?_ | refine ldL_c ?_)) | (with_reducible refine st_ad (by first | (with_reducible rfl) | (simp only [pt_add, Nat.zero_add, Nat.add_zero, Nat.reduceAdd]; with_reducible rfl)) ?_); (first | refine O.st 0 rfl (by simp) rfl fun h O => ?_ | refine O.st 1 rfl (by simp) rfl fun h O => ?_ | refine O.st 2 rfl (by simp) rfl fun h O => ?_ | refine O.st 3 rfl (by simp) rfl fun h O => ?_); (dsimp only [V.put, List.set, List.length_cons, List.length_nil] at O) | (with_reducible refine ca_id ?_); (first | refine O.ca 0 1 rfl ?_ | refine O.ca 0 2 rfl ?_ | refine O.ca 1 1 rfl ?_ | refine O.ca 1 2 rfl ?_ | refine O.ca 2 1 rfl ?_ | refine O.ca 2 2 rfl ?_ | refine O.ca 3 1 rfl ?_ | refine O.ca 3 2 rfl ?_))
  refine (Vo.kept O.kept).ix hi0 hlt fun a2 cs o ho hlen hR hc => ?_
  obtain ⟨rfl, oo⟩ := hR
  refine ld_are hc ?_
  unfold ropC
  repeat (first | (with_reducible refine ldL_n ?_) | refine ldL_s ?_ | refine ldL_c ?_)
  refine F_law9_stage_plays.is (o := o) h2 hx (by omega) oo O fun ys h h2 hy O => ?_
  refine brr_ff rfl ?_
  refine ⟨_, rfl, ?_⟩
  refine ld_book h2 O 0 rfl ?_
  refine F_law1_Book_Look.is (by omega) O.swap fun h O => ?_
  exact hj30 _ _ ⟨rfl, ys, h2, hy, O.swap⟩
end
theorem replicaExact_main (H : Heap) (cs : List Value) (F : Fit H 140737488351232 tyRScript cs) : E_law9_ReplicaExact [.agg cs.toArray] H (fun r h' => r = .bool true ∧ KeptH H h') := by
  obtain ⟨t1, _, rfl, t1S, F⟩ := Fit.s F
  obtain ⟨t2, _, rfl, t2S, F⟩ := Fit.s F
  obtain rfl := Fit.e F
  refine Eq.mpr (E_law9_ReplicaExact.at F_law9_ReplicaExact t1 t2 H _) ?_
  obtain ⟨ops, Vo⟩ := t2S.rops
  obtain ⟨_, b2, lv, Vl⟩ := t1S.bytes
  have hlv := Vl.len
  rw [F_law9_ReplicaExact.eq_1, F_law9_ReplicaExact_of.eq_1]
  refine Sat.al (Sat.nil H) fun x3 h1 O => ?_
  repeat (first | (with_reducible refine al_id ?_); refine O.al fun _ h O => ?_ | (with_reducible refine nn_id ?_); refine ⟨_, rfl, ?_⟩ | (with_reducible refine ld_id ?_); (first | refine O.ld 0 rfl ?_); (repeat (first | (with_reducible refine ldL_n ?_) | refine ldL_s ?_ | refine ldL_c ?_)) | (with_reducible refine st_ad (by first | (with_reducible rfl) | (simp only [pt_add, Nat.zero_add, Nat.add_zero, Nat.reduceAdd]; with_reducible rfl)) ?_); (first | refine O.st 0 rfl (by simp) rfl fun h O => ?_); (dsimp only [V.put, List.set, List.length_cons, List.length_nil] at O) | (with_reducible refine ca_id ?_); (first | refine O.ca 0 1 rfl ?_ | refine O.ca 0 2 rfl ?_))
  refine F_law9_play.is Vl (by omega) Vo O fun h O => ?_
  exact ⟨rfl, O.kept⟩
end Go.Proofs.Ytcbelendjpnmiaa.V
namespace Go.Proofs.Ytcbelendjpnmiaa.V
open Go Go.RowKit
set_option linter.unusedVariables false
set_option maxRecDepth 100000
def F_law9_index.l1 (l1 : Sl) (Q : Int → Heap → Prop) (a4 : Addr) (j6 : Heap → Prop) : Int → Heap → Prop :=
  wl [(5, .one (.int .i64))] (fun (next7 : Int → Heap → Prop) (i8 : Int) (h9 : Heap) =>
  brr (decide (i8 < ((l1.len : Nat) : Int)))
  (ixS 2 l1 i8 fun (a10 : Addr) =>
  ld [.int .u64, .int .u64] a10 h9 fun (v11 v12 : Int) =>
  ld [.int .u64, .int .u64] a4 h9 fun (v13 v14 : Int) =>
  brr ((v11 == v13) && ((v12 == v14) && (true)))
  (Q i8 h9)
  (next7 (IntKind.i64.wrap (i8 + 1)) h9))
  (j6 h9))
def F_law9_index_of  (l1 : Sl) (t2 t3 : Int) (h : Heap) (Q : Int → Heap → Prop) : Prop :=
  al 37 [.int .u64 t2, .int .u64 t3] h fun (a4 : Addr) (h5 : Heap) =>
  jn [] (fun  (h15 : Heap) =>
  Q ((l1.len : Nat) : Int) h15) (fun (j6 : Heap → Prop) =>
  F_law9_index.l1 l1 Q a4 j6 0 h5)
def F_law9_index (l1 : Sl) (t2 t3 : Int) (h : Heap) (Q : Int → Heap → Prop) : Prop := F_law9_index_of  l1 t2 t3 h Q
def plan15 : Plan := .s (.r [0, 3]) (.s (.s (.r [0, 3, 5]) (.bj [] [0] (.l [(5, .one (.int .i64))] [0, 3] (.s (.s (.r [0, 3, 5, 9]) (.c .z .z)) (.s (.b (.s (.d [0, 0, 3, 7, 0, 31] [[0, 1, 2, 3, 4, 5]] [0, 3, 5, 17]) (.c (.s (.r [4]) .z) .z))) (.r [0, 3, 5])))))) (.s (.r [4]) .z))
theorem F_law9_index.eq  (l1 : Sl) (t2 t3 : Int) (h : Heap) (K : Value → Heap → Prop) : F_law9_index_of  l1 t2 t3 h (fun (r0 : Int) (h : Heap) => K (.int .i64 r0) h) =
    den Try.prog noFns Try.f15.ntmps plan15 (bodyOf Try.f15) (args0 0 [(.slice l1.ptr l1.len l1.cap : Value), (.agg #[.int .u64 t2, .int .u64 t3] : Value)]) h ⟨fun env h => dRes Try.prog Try.f15.results.toList env h K, fun _ _ _ => False, fun env h => dRes Try.prog Try.f15.results.toList env h K⟩ := by kernel_rfl
def E_law9_index_of (f : Sl → Int → Int → Heap → (Int → Heap → Prop) → Prop) : List Value → Heap → (Value → Heap → Prop) → Prop
  | [v0, v1], h, K => dec1 .sl v0 fun (l1 : Sl) =>
  vAgg v1 fun cs1 => decs [.int .u64, .int .u64] cs1.toList fun (t2 t3 : Int) =>
  f l1 t2 t3 h (fun (r0 : Int) (h : Heap) => K (.int .i64 r0) h)
  | _, _, _ => False
abbrev E_law9_index := E_law9_index_of F_law9_index
theorem E_law9_index.right : IsRight Try.prog 15 E_law9_index := by
  refine isRight fun vs K w hh => ?_
  match vs, hh with
  | [v0, v1], hh =>
    unfold E_law9_index E_law9_index_of at hh
    replace hh := dec1_sound hh; obtain ⟨l1, rfl, hh⟩ := hh
    replace hh := vAgg_sound hh; obtain ⟨cs1, rfl, hh⟩ := hh
    replace hh := decs_cons hh; obtain ⟨t2, l1_0, e1_0, hh⟩ := hh
    replace hh := decs_cons hh; obtain ⟨t3, l1_1, e1_1, hh⟩ := hh
    replace hh := decs_nil hh; obtain ⟨rfl, hh⟩ := hh
    subst e1_1
    have ec1 := toArray_eq e1_0
    subst ec1
    unfold F_law9_index at hh
    exact calls_den noFns_right plan15 _ w K Try.func15 (by kernel_rfl) (by kernel_rfl) (Eq.mp (F_law9_index.eq  l1 t2 t3 w.heap K) hh)
theorem ok15 : okFn Try.prog 15 = true := by kernel_rfl
end Go.Proofs.Ytcbelendjpnmiaa.V
namespace Go.Proofs.Ytcbelendjpnmiaa.V
open Go Go.RowKit
set_option linter.unusedVariables false
set_option maxRecDepth 100000
def F_law9_place.l1 (l1 : Sl) (e2 : Int) (Q : Int → Heap → Prop) (j3 : Heap → Prop) : Int → Heap → Prop :=
  wl [(5, .one (.int .i64))] (fun (next4 : Int → Heap → Prop) (i5 : Int) (h6 : Heap) =>
  brr (decide (i5 < ((l1.len : Nat) : Int)))
  (ixS 1 l1 i5 fun (a7 : Addr) =>
  ld [.int .u64] a7 h6 fun (v8 : Int) =>
  brr (v8 == e2)
  (Q i5 h6)
  (next4 (IntKind.i64.wrap (i5 + 1)) h6))
  (j3 h6))
def F_law9_place_of  (l1 : Sl) (e2 : Int) (h : Heap) (Q : Int → Heap → Prop) : Prop :=
  jn [] (fun  (h9 : Heap) =>
  Q ((l1.len : Nat) : Int) h9) (fun (j3 : Heap → Prop) =>
  F_law9_place.l1 l1 e2 Q j3 0 h)
def F_law9_place (l1 : Sl) (e2 : Int) (h : Heap) (Q : Int → Heap → Prop) : Prop := F_law9_place_of  l1 e2 h Q
def plan16 : Plan := .s (.r [0, 1]) (.s (.s (.r [0, 1, 5]) (.bj [] [0] (.l [(5, .one (.int .i64))] [0, 1] (.s (.s (.r [0, 1, 5, 9]) (.c .z .z)) (.s (.b (.s (.r [0, 1, 5, 17]) (.c (.s (.r [4]) .z) .z))) (.r [0, 1, 5])))))) (.s (.r [4]) .z))
theorem F_law9_place.eq  (l1 : Sl) (e2 : Int) (h : Heap) (K : Value → Heap → Prop) : F_law9_place_of  l1 e2 h (fun (r0 : Int) (h : Heap) => K (.int .i64 r0) h) =
    den Try.prog noFns Try.f16.ntmps plan16 (bodyOf Try.f16) (args0 0 [(.slice l1.ptr l1.len l1.cap : Value), (.int .u64 e2 : Value)]) h ⟨fun env h => dRes Try.prog Try.f16.results.toList env h K, fun _ _ _ => False, fun env h => dRes Try.prog Try.f16.results.toList env h K⟩ := by kernel_rfl
def E_law9_place_of (f : Sl → Int → Heap → (Int → Heap → Prop) → Prop) : List Value → Heap → (Value → Heap → Prop) → Prop
  | [v0, v1], h, K => dec1 .sl v0 fun (l1 : Sl) =>
  dec1 (.int .u64) v1 fun (e2 : Int) =>
  f l1 e2 h (fun (r0 : Int) (h : Heap) => K (.int .i64 r0) h)
  | _, _, _ => False
abbrev E_law9_place := E_law9_place_of F_law9_place
theorem E_law9_place.right : IsRight Try.prog 16 E_law9_place := by
  refine isRight fun vs K w hh => ?_
  match vs, hh with
  | [v0, v1], hh =>
    unfold E_law9_place E_law9_place_of at hh
    replace hh := dec1_sound hh; obtain ⟨l1, rfl, hh⟩ := hh
    replace hh := dec1_sound hh; obtain ⟨e2, rfl, hh⟩ := hh
    unfold F_law9_place at hh
    exact calls_den noFns_right plan16 _ w K Try.func16 (by kernel_rfl) (by kernel_rfl) (Eq.mp (F_law9_place.eq  l1 e2 w.heap K) hh)
theorem ok16 : okFn Try.prog 16 = true := by kernel_rfl
end Go.Proofs.Ytcbelendjpnmiaa.V
namespace Go.Proofs.Ytcbelendjpnmiaa.V
open Go Go.RowKit
set_option linter.unusedVariables false
set_option maxRecDepth 100000
def F_law9_most.l1 (l1 : Sl) (j3 : Int → Heap → Prop) : Int → Int → Heap → Prop :=
  wl [(5, .one (.int .i64)), (6, .one (.int .i64))] (fun (next4 : Int → Int → Heap → Prop) (k5 i6 : Int) (h7 : Heap) =>
  brr (decide (i6 < ((l1.len : Nat) : Int)))
  (ixS 1 l1 i6 fun (a8 : Addr) =>
  ld [.bool] a8 h7 fun (v9 : Bool) =>
  jn [(5, .one (.int .i64))] (fun (k11 : Int) (h12 : Heap) =>
  next4 k11 (IntKind.i64.wrap (i6 + 1)) h12) (fun (j10 : Int → Heap → Prop) =>
  brr v9
  (j10 (IntKind.i64.wrap (k5 + 1)) h7)
  (j10 k5 h7)))
  (j3 k5 h7))
def F_law9_most_of  (l1 : Sl) (n2 : Int) (h : Heap) (Q : Bool → Heap → Prop) : Prop :=
  jn [(5, .one (.int .i64))] (fun (k13 : Int) (h14 : Heap) =>
  Q (decide ((IntKind.i64.wrap (2 * k13)) > n2)) h14) (fun (j3 : Int → Heap → Prop) =>
  F_law9_most.l1 l1 j3 0 0 h)
def F_law9_most (l1 : Sl) (n2 : Int) (h : Heap) (Q : Bool → Heap → Prop) : Prop := F_law9_most_of  l1 n2 h Q
def plan17 : Plan := .s (.r [0, 1]) (.s (.r [0, 1, 5]) (.s (.s (.r [0, 1, 5, 6]) (.bj [(5, .one (.int .i64))] [1] (.l [(5, .one (.int .i64)), (6, .one (.int .i64))] [0, 1] (.s (.s (.r [0, 1, 5, 6, 10]) (.c .z .z)) (.s (.b (.s (.r [0, 1, 5, 6, 16]) (.cj [(5, .one (.int .i64))] [0, 1, 6] (.r [0, 1, 5, 6]) .z))) (.r [0, 1, 5, 6])))))) (.s (.r [4]) .z)))
theorem F_law9_most.eq  (l1 : Sl) (n2 : Int) (h : Heap) (K : Value → Heap → Prop) : F_law9_most_of  l1 n2 h (fun (r0 : Bool) (h : Heap) => K (.bool r0) h) =
    den Try.prog noFns Try.f17.ntmps plan17 (bodyOf Try.f17) (args0 0 [(.slice l1.ptr l1.len l1.cap : Value), (.int .i64 n2 : Value)]) h ⟨fun env h => dRes Try.prog Try.f17.results.toList env h K, fun _ _ _ => False, fun env h => dRes Try.prog Try.f17.results.toList env h K⟩ := by kernel_rfl
def E_law9_most_of (f : Sl → Int → Heap → (Bool → Heap → Prop) → Prop) : List Value → Heap → (Value → Heap → Prop) → Prop
  | [v0, v1], h, K => dec1 .sl v0 fun (l1 : Sl) =>
  dec1 (.int .i64) v1 fun (n2 : Int) =>
  f l1 n2 h (fun (r0 : Bool) (h : Heap) => K (.bool r0) h)
  | _, _, _ => False
abbrev E_law9_most := E_law9_most_of F_law9_most
theorem E_law9_most.right : IsRight Try.prog 17 E_law9_most := by
  refine isRight fun vs K w hh => ?_
  match vs, hh with
  | [v0, v1], hh =>
    unfold E_law9_most E_law9_most_of at hh
    replace hh := dec1_sound hh; obtain ⟨l1, rfl, hh⟩ := hh
    replace hh := dec1_sound hh; obtain ⟨n2, rfl, hh⟩ := hh
    unfold F_law9_most at hh
    exact calls_den noFns_right plan17 _ w K Try.func17 (by kernel_rfl) (by kernel_rfl) (Eq.mp (F_law9_most.eq  l1 n2 w.heap K) hh)
theorem ok17 : okFn Try.prog 17 = true := by kernel_rfl
end Go.Proofs.Ytcbelendjpnmiaa.V
namespace Go.Proofs.Ytcbelendjpnmiaa.V
open Go Go.RowKit
set_option linter.unusedVariables false
set_option maxRecDepth 100000
def F_law9_ReplicaMeets.l1 (f10_ : Sl → Heap → (Option Addr → Heap → Prop) → Prop) (Q : Bool → Heap → Prop) (r6 : Int) (j8 : Sl → Heap → Prop) : Sl → Int → Heap → Prop :=
  wl [(4, .one .sl), (5, .one (.int .i64))] (fun (next9 : Sl → Int → Heap → Prop) (l10 : Sl) (i11 : Int) (h12 : Heap) =>
  brr (decide (i11 < (IntKind.i64.wrap (1 + (IntKind.i64.wrap (2 * r6))))))
  (al 5 [.int .u8 118] h12 fun (a13 : Addr) (h14 : Heap) =>
  frz (some a13) h14 fun (h15 : Heap) =>
  f10_ ⟨(some a13), 1, 1⟩ h15 fun (r16 : Option Addr) (h17 : Heap) =>
  brr r16.isNone
  (Q false h17)
  (al 27 [.pointer r16] h17 fun (a18 : Addr) (h19 : Heap) =>
  app 27 1 8 (.pointer none) l10 (some a18) 1 h19 fun (s20 : Sl) (h21 : Heap) =>
  next9 s20 (IntKind.i64.wrap (i11 + 1)) h21))
  (j8 l10 h12))
def F_law9_ReplicaMeets.l2 (f9_ : Int → Int → Heap → (Int → Heap → Prop) → Prop) (f11_ : Option Addr → Heap → (Heap → Prop) → Prop) (f12_ : Int → Int → Int → Int → Int → Int → Int → Int → Int → Int → Sl → Int → Int → ByteArray → ByteArray → Int → Int → Int → Int → Int → Int → Int → Heap → (Int → Int → Int → Int → Int → Int → Int → Int → Int → Int → Sl → Int → Int → ByteArray → ByteArray → Int → Int → Int → Int → Int → Int → Int → Heap → Prop) → Prop) (f13_ : Option Addr → Int → Int → Int → Int → Int → Int → Int → Int → Int → Int → Sl → Int → Int → ByteArray → ByteArray → Int → Int → Int → Int → Int → Int → Int → Heap → (Int → Int → Int → Int → Int → Int → Int → Int → Int → Int → Sl → Int → Int → ByteArray → ByteArray → Int → Int → Int → Int → Int → Int → Int → Bool → Bool → Bool → Heap → Prop) → Prop) (f14_ : Int → Int → Int → Int → Heap → (Bool → Heap → Prop) → Prop) (f15_ : Sl → Int → Int → Heap → (Int → Heap → Prop) → Prop) (f16_ : Sl → Int → Heap → (Int → Heap → Prop) → Prop) (Q : Bool → Heap → Prop) (a3 : Addr) (r6 : Int) (l22 s24 : Sl) (j26 : Sl → Sl → Sl → Sl → Sl → Heap → Prop) : Sl → Sl → Sl → Sl → Sl → Int → Heap → Prop :=
  wl [(8, .one .sl), (9, .one .sl), (10, .one .sl), (11, .one .sl), (12, .one .sl), (13, .one (.int .i64))] (fun (next27 : Sl → Sl → Sl → Sl → Sl → Int → Heap → Prop) (seen28 who29 epochs30 from_31 with32 : Sl) (i33 : Int) (h34 : Heap) =>
  jn [(50, .one .bool)] (fun (x37 : Bool) (h38 : Heap) =>
  brr x37
  (jn [(8, .one .sl), (9, .one .sl), (10, .one .sl), (11, .one .sl), (12, .one .sl)] (fun (seen307 who308 epochs309 from_310 with311 : Sl) (h312 : Heap) =>
  next27 seen307 who308 epochs309 from_310 with311 (IntKind.i64.wrap (i33 + 1)) h312) (fun (j39 : Sl → Sl → Sl → Sl → Sl → Heap → Prop) =>
  ld [.sl] (a3.add 1) h38 fun (v40 : Sl) =>
  ixS 30 v40 i33 fun (a41 : Addr) =>
  ld [.int .i64] (a41.add 1) h38 fun (v42 : Int) =>
  f9_ v42 (IntKind.i64.wrap (1 + (IntKind.i64.wrap (2 * r6)))) h38 fun (r43 : Int) (h44 : Heap) =>
  ld [.sl] (a3.add 1) h44 fun (v45 : Sl) =>
  ixS 30 v45 i33 fun (a46 : Addr) =>
  ld [.int .i64] (a46.add 0) h44 fun (v47 : Int) =>
  brr (v47 == 2)
  (ixS 1 l22 r43 fun (a48 : Addr) =>
  ld [.ptr] a48 h44 fun (v49 : Option Addr) =>
  f11_ v49 h44 fun  (h50 : Heap) =>
  j39 seen28 who29 epochs30 from_31 with32 h50)
  (ld [.sl] (a3.add 1) h44 fun (v51 : Sl) =>
  ixS 30 v51 i33 fun (a52 : Addr) =>
  ld [.int .i64, .int .i64, .int .i64, .int .i64, .int .u64, .int .u64, .int .u64, .int .u64, .int .i64, .int .u64, .sl, .int .i64, .int .u64, .str, .str, .int .u64, .int .u64, .int .u64, .int .i64, .int .i64, .int .i64, .int .i64] (a52.add 4) h44 fun (v53 v54 v55 v56 v57 v58 v59 v60 v61 v62 : Int) (v63 : Sl) (v64 v65 : Int) (v66 v67 : ByteArray) (v68 v69 v70 v71 v72 v73 v74 : Int) =>
  f12_ v53 v54 v55 v56 v57 v58 v59 v60 v61 v62 v63 v64 v65 v66 v67 v68 v69 v70 v71 v72 v73 v74 h44 fun (r75 r76 r77 r78 r79 r80 r81 r82 r83 r84 : Int) (r85 : Sl) (r86 r87 : Int) (r88 r89 : ByteArray) (r90 r91 r92 r93 r94 r95 r96 : Int) (h97 : Heap) =>
  al 42 [.int .i64 0, .int .i64 0, .int .i64 0, .int .i64 0, .int .u64 0, .int .u64 0, .int .u64 0, .int .u64 0, .int .i64 0, .int .u64 0, .slice none 0 0, .int .i64 0, .int .u64 0, .string (⟨#[]⟩ : ByteArray), .string (⟨#[]⟩ : ByteArray), .int .u64 0, .int .u64 0, .int .u64 0, .int .i64 0, .int .i64 0, .int .i64 0, .int .i64 0] h97 fun (a98 : Addr) (h99 : Heap) =>
  st a98 [.int .i64 r75, .int .i64 r76, .int .i64 r77, .int .i64 r78, .int .u64 r79, .int .u64 r80, .int .u64 r81, .int .u64 r82, .int .i64 r83, .int .u64 r84, .slice r85.ptr r85.len r85.cap, .int .i64 r86, .int .u64 r87, .string r88, .string r89, .int .u64 r90, .int .u64 r91, .int .u64 r92, .int .i64 r93, .int .i64 r94, .int .i64 r95, .int .i64 r96] h99 fun (h100 : Heap) =>
  jn [(16, .one .addr)] (fun (h_208 : Addr) (h209 : Heap) =>
  ld [.int .i64] (((h_208.add 0).add 0).add 0) h209 fun (v210 : Int) =>
  jn [(8, .one .sl), (9, .one .sl), (10, .one .sl), (11, .one .sl), (12, .one .sl)] (fun (seen301 who302 epochs303 from_304 with305 : Sl) (h306 : Heap) =>
  j39 seen301 who302 epochs303 from_304 with305 h306) (fun (j211 : Sl → Sl → Sl → Sl → Sl → Heap → Prop) =>
  brr (v210 == 5)
  (ixS 2 s24 r43 fun (a212 : Addr) =>
  ld [.int .u64, .int .u64] a212 h209 fun (v213 v214 : Int) =>
  ld [.int .u64, .int .u64] ((h_208.add 0).add 5) h209 fun (v215 v216 : Int) =>
  f14_ v213 v214 v215 v216 h209 fun (r217 : Bool) (h218 : Heap) =>
  jn [] (fun  (h224 : Heap) =>
  ld [.int .u64, .int .u64] ((h_208.add 0).add 5) h224 fun (v225 v226 : Int) =>
  f15_ seen28 v225 v226 h224 fun (r227 : Int) (h228 : Heap) =>
  jn [(8, .one .sl), (9, .one .sl)] (fun (seen242 who243 : Sl) (h244 : Heap) =>
  ixS 1 who243 r227 fun (a245 : Addr) =>
  ld [.sl] a245 h244 fun (v246 : Sl) =>
  ixS 1 v246 r43 fun (a247 : Addr) =>
  st a247 [.bool true] h244 fun (h248 : Heap) =>
  j211 seen242 who243 epochs30 from_31 with32 h248) (fun (j229 : Sl → Sl → Heap → Prop) =>
  brr (r227 == ((seen28.len : Nat) : Int))
  (ld [.int .u64, .int .u64] ((h_208.add 0).add 5) h228 fun (v230 v231 : Int) =>
  al 37 [.int .u64 v230, .int .u64 v231] h228 fun (a232 : Addr) (h233 : Heap) =>
  app 37 2 16 (.agg #[.int .u64 0, .int .u64 0]) seen28 (some a232) 1 h233 fun (s234 : Sl) (h235 : Heap) =>
  mk 4 1 1 (.bool false) (IntKind.i64.wrap (1 + (IntKind.i64.wrap (2 * r6)))) (IntKind.i64.wrap (1 + (IntKind.i64.wrap (2 * r6)))) h235 fun (s236 : Sl) (h237 : Heap) =>
  al 53 [.slice s236.ptr s236.len s236.cap] h237 fun (a238 : Addr) (h239 : Heap) =>
  app 53 1 24 (.slice none 0 0) who29 (some a238) 1 h239 fun (s240 : Sl) (h241 : Heap) =>
  j229 s234 s240 h241)
  (j229 seen28 who29 h228))) (fun (j219 : Heap → Prop) =>
  brr r217
  (ld [.int .u64, .int .u64] ((h_208.add 0).add 5) h218 fun (v220 v221 : Int) =>
  ixS 2 s24 r43 fun (a222 : Addr) =>
  st a222 [.int .u64 v220, .int .u64 v221] h218 fun (h223 : Heap) =>
  j219 h223)
  (j219 h218)))
  (jn [(10, .one .sl), (11, .one .sl), (12, .one .sl)] (fun (epochs297 from_298 with299 : Sl) (h300 : Heap) =>
  j211 seen28 who29 epochs297 from_298 with299 h300) (fun (j249 : Sl → Sl → Sl → Heap → Prop) =>
  brr (v210 == 2)
  (ld [.int .u64] ((h_208.add 0).add 4) h209 fun (v250 : Int) =>
  f16_ epochs30 v250 h209 fun (r251 : Int) (h252 : Heap) =>
  jn [(10, .one .sl), (11, .one .sl), (12, .one .sl)] (fun (epochs269 from_270 with271 : Sl) (h272 : Heap) =>
  ixS 1 from_270 r251 fun (a273 : Addr) =>
  ld [.sl] a273 h272 fun (v274 : Sl) =>
  ixS 1 v274 r43 fun (a275 : Addr) =>
  st a275 [.bool true] h272 fun (h276 : Heap) =>
  ixS 2 with271 r251 fun (a277 : Addr) =>
  ld [.int .u64, .int .u64] a277 h276 fun (v278 v279 : Int) =>
  ld [.int .u64, .int .u64] ((h_208.add 0).add 5) h276 fun (v280 v281 : Int) =>
  f14_ v278 v279 v280 v281 h276 fun (r282 : Bool) (h283 : Heap) =>
  jn [] (fun  (h289 : Heap) =>
  ld [.int .u64, .int .u64] ((h_208.add 0).add 5) h289 fun (v290 v291 : Int) =>
  ixS 2 s24 r43 fun (a292 : Addr) =>
  ld [.int .u64, .int .u64] a292 h289 fun (v293 v294 : Int) =>
  f14_ v290 v291 v293 v294 h289 fun (r295 : Bool) (h296 : Heap) =>
  brr r295
  (Q false h296)
  (j249 epochs269 from_270 with271 h296)) (fun (j284 : Heap → Prop) =>
  brr r282
  (ld [.int .u64, .int .u64] ((h_208.add 0).add 5) h283 fun (v285 v286 : Int) =>
  ixS 2 with271 r251 fun (a287 : Addr) =>
  st a287 [.int .u64 v285, .int .u64 v286] h283 fun (h288 : Heap) =>
  j284 h288)
  (j284 h283))) (fun (j253 : Sl → Sl → Sl → Heap → Prop) =>
  brr (r251 == ((epochs30.len : Nat) : Int))
  (ld [.int .u64] ((h_208.add 0).add 4) h252 fun (v254 : Int) =>
  al 33 [.int .u64 v254] h252 fun (a255 : Addr) (h256 : Heap) =>
  app 33 1 8 (.int .u64 0) epochs30 (some a255) 1 h256 fun (s257 : Sl) (h258 : Heap) =>
  mk 4 1 1 (.bool false) (IntKind.i64.wrap (1 + (IntKind.i64.wrap (2 * r6)))) (IntKind.i64.wrap (1 + (IntKind.i64.wrap (2 * r6)))) h258 fun (s259 : Sl) (h260 : Heap) =>
  al 53 [.slice s259.ptr s259.len s259.cap] h260 fun (a261 : Addr) (h262 : Heap) =>
  app 53 1 24 (.slice none 0 0) from_31 (some a261) 1 h262 fun (s263 : Sl) (h264 : Heap) =>
  al 37 [.int .u64 0, .int .u64 0] h264 fun (a265 : Addr) (h266 : Heap) =>
  app 37 2 16 (.agg #[.int .u64 0, .int .u64 0]) with32 (some a265) 1 h266 fun (s267 : Sl) (h268 : Heap) =>
  j253 s257 s263 s267 h268)
  (j253 epochs30 from_31 with32 h252)))
  (j249 epochs30 from_31 with32 h209))))) (fun (j101 : Addr → Heap → Prop) =>
  (ixS 1 l22 r43 fun (a102 : Addr) =>
  ld [.ptr] a102 h100 fun (v103 : Option Addr) =>
  ld [.int .i64, .int .i64, .int .i64, .int .i64, .int .u64, .int .u64, .int .u64, .int .u64, .int .i64, .int .u64, .sl, .int .i64, .int .u64, .str, .str, .int .u64, .int .u64, .int .u64, .int .i64, .int .i64, .int .i64, .int .i64] a98 h100 fun (v104 v105 v106 v107 v108 v109 v110 v111 v112 v113 : Int) (v114 : Sl) (v115 v116 : Int) (v117 v118 : ByteArray) (v119 v120 v121 v122 v123 v124 v125 : Int) =>
  f13_ v103 v104 v105 v106 v107 v108 v109 v110 v111 v112 v113 v114 v115 v116 v117 v118 v119 v120 v121 v122 v123 v124 v125 h100 fun (r126 r127 r128 r129 r130 r131 r132 r133 r134 r135 : Int) (r136 : Sl) (r137 r138 : Int) (r139 r140 : ByteArray) (r141 r142 r143 r144 r145 r146 r147 : Int) (r148 r149 r150 : Bool) (h151 : Heap) =>
  al 49 [.int .i64 0, .int .i64 0, .int .i64 0, .int .i64 0, .int .u64 0, .int .u64 0, .int .u64 0, .int .u64 0, .int .i64 0, .int .u64 0, .slice none 0 0, .int .i64 0, .int .u64 0, .string (⟨#[]⟩ : ByteArray), .string (⟨#[]⟩ : ByteArray), .int .u64 0, .int .u64 0, .int .u64 0, .int .i64 0, .int .i64 0, .int .i64 0, .int .i64 0, .bool false, .bool false, .bool false] h151 fun (a152 : Addr) (h153 : Heap) =>
  cellsAre h153 a102 [.pointer v103] ∧
  cellsAre h153 a98 [.int .i64 v104, .int .i64 v105, .int .i64 v106, .int .i64 v107, .int .u64 v108, .int .u64 v109, .int .u64 v110, .int .u64 v111, .int .i64 v112, .int .u64 v113, .slice v114.ptr v114.len v114.cap, .int .i64 v115, .int .u64 v116, .string v117, .string v118, .int .u64 v119, .int .u64 v120, .int .u64 v121, .int .i64 v122, .int .i64 v123, .int .i64 v124, .int .i64 v125] ∧
  st a152 [.int .i64 r126, .int .i64 r127, .int .i64 r128, .int .i64 r129, .int .u64 r130, .int .u64 r131, .int .u64 r132, .int .u64 r133, .int .i64 r134, .int .u64 r135, .slice r136.ptr r136.len r136.cap, .int .i64 r137, .int .u64 r138, .string r139, .string r140, .int .u64 r141, .int .u64 r142, .int .u64 r143, .int .i64 r144, .int .i64 r145, .int .i64 r146, .int .i64 r147, .bool r148, .bool r149, .bool r150] h153 fun (h154 : Heap) =>
  j101 a152 h154) ∧
  (ixS 1 l22 r43 fun (a155 : Addr) =>
  ld [.ptr] a155 h100 fun (v156 : Option Addr) =>
  ld [.int .i64, .int .i64, .int .i64, .int .i64, .int .u64, .int .u64, .int .u64, .int .u64, .int .i64, .int .u64, .sl, .int .i64, .int .u64, .str, .str, .int .u64, .int .u64, .int .u64, .int .i64, .int .i64, .int .i64, .int .i64] a98 h100 fun (v157 v158 v159 v160 v161 v162 v163 v164 v165 v166 : Int) (v167 : Sl) (v168 v169 : Int) (v170 v171 : ByteArray) (v172 v173 v174 v175 v176 v177 v178 : Int) =>
  al 49 [.int .i64 0, .int .i64 0, .int .i64 0, .int .i64 0, .int .u64 0, .int .u64 0, .int .u64 0, .int .u64 0, .int .i64 0, .int .u64 0, .slice none 0 0, .int .i64 0, .int .u64 0, .string (⟨#[]⟩ : ByteArray), .string (⟨#[]⟩ : ByteArray), .int .u64 0, .int .u64 0, .int .u64 0, .int .i64 0, .int .i64 0, .int .i64 0, .int .i64 0, .bool false, .bool false, .bool false] h100 fun (a179 : Addr) (h180 : Heap) =>
  cellsAre h180 a155 [.pointer v156] ∧
  cellsAre h180 a98 [.int .i64 v157, .int .i64 v158, .int .i64 v159, .int .i64 v160, .int .u64 v161, .int .u64 v162, .int .u64 v163, .int .u64 v164, .int .i64 v165, .int .u64 v166, .slice v167.ptr v167.len v167.cap, .int .i64 v168, .int .u64 v169, .string v170, .string v171, .int .u64 v172, .int .u64 v173, .int .u64 v174, .int .i64 v175, .int .i64 v176, .int .i64 v177, .int .i64 v178] ∧
  f13_ v156 v157 v158 v159 v160 v161 v162 v163 v164 v165 v166 v167 v168 v169 v170 v171 v172 v173 v174 v175 v176 v177 v178 h180 fun (r181 r182 r183 r184 r185 r186 r187 r188 r189 r190 : Int) (r191 : Sl) (r192 r193 : Int) (r194 r195 : ByteArray) (r196 r197 r198 r199 r200 r201 r202 : Int) (r203 r204 r205 : Bool) (h206 : Heap) =>
  st a179 [.int .i64 r181, .int .i64 r182, .int .i64 r183, .int .i64 r184, .int .u64 r185, .int .u64 r186, .int .u64 r187, .int .u64 r188, .int .i64 r189, .int .u64 r190, .slice r191.ptr r191.len r191.cap, .int .i64 r192, .int .u64 r193, .string r194, .string r195, .int .u64 r196, .int .u64 r197, .int .u64 r198, .int .i64 r199, .int .i64 r200, .int .i64 r201, .int .i64 r202, .bool r203, .bool r204, .bool r205] h206 fun (h207 : Heap) =>
  j101 a179 h207)))))
  (j26 seen28 who29 epochs30 from_31 with32 h38)) (fun (j35 : Bool → Heap → Prop) =>
  ld [.sl] (a3.add 1) h34 fun (v36 : Sl) =>
  brr (decide (i33 < ((v36.len : Nat) : Int)))
  (j35 (decide (i33 < 200)) h34)
  (j35 false h34)))
def F_law9_ReplicaMeets.l3 (f14_ : Int → Int → Int → Int → Heap → (Bool → Heap → Prop) → Prop) (f17_ : Sl → Int → Heap → (Bool → Heap → Prop) → Prop) (Q : Bool → Heap → Prop) (r6 : Int) (seen313 who314 epochs315 from_316 with317 : Sl) (i321 : Int) (j324 : Heap → Prop) : Int → Heap → Prop :=
  wl [(20, .one (.int .i64))] (fun (next325 : Int → Heap → Prop) (k326 : Int) (h327 : Heap) =>
  brr (decide (k326 < ((epochs315.len : Nat) : Int)))
  (jn [(234, .one .bool)] (fun (x349 : Bool) (h350 : Heap) =>
  brr x349
  (Q false h350)
  (next325 (IntKind.i64.wrap (k326 + 1)) h350)) (fun (j328 : Bool → Heap → Prop) =>
  ixS 1 who314 i321 fun (a329 : Addr) =>
  ld [.sl] a329 h327 fun (v330 : Sl) =>
  f17_ v330 (IntKind.i64.wrap (1 + (IntKind.i64.wrap (2 * r6)))) h327 fun (r331 : Bool) (h332 : Heap) =>
  brr r331
  (ixS 1 from_316 k326 fun (a333 : Addr) =>
  ld [.sl] a333 h332 fun (v334 : Sl) =>
  f17_ v334 (IntKind.i64.wrap (1 + (IntKind.i64.wrap (2 * r6)))) h332 fun (r335 : Bool) (h336 : Heap) =>
  brr r335
  (ixS 2 seen313 i321 fun (a337 : Addr) =>
  ld [.int .u64] (a337.add 0) h336 fun (v338 : Int) =>
  ixS 1 epochs315 k326 fun (a339 : Addr) =>
  ld [.int .u64] a339 h336 fun (v340 : Int) =>
  brr (decide (v338 < v340))
  (ixS 2 with317 k326 fun (a341 : Addr) =>
  ld [.int .u64, .int .u64] a341 h336 fun (v342 v343 : Int) =>
  ixS 2 seen313 i321 fun (a344 : Addr) =>
  ld [.int .u64, .int .u64] a344 h336 fun (v345 v346 : Int) =>
  f14_ v342 v343 v345 v346 h336 fun (r347 : Bool) (h348 : Heap) =>
  j328 r347 h348)
  (j328 false h336))
  (j328 false h336))
  (j328 false h332)))
  (j324 h327))
def F_law9_ReplicaMeets.l4 (f14_ : Int → Int → Int → Int → Heap → (Bool → Heap → Prop) → Prop) (f17_ : Sl → Int → Heap → (Bool → Heap → Prop) → Prop) (Q : Bool → Heap → Prop) (r6 : Int) (seen313 who314 epochs315 from_316 with317 : Sl) (j319 : Heap → Prop) : Int → Heap → Prop :=
  wl [(19, .one (.int .i64))] (fun (next320 : Int → Heap → Prop) (i321 : Int) (h322 : Heap) =>
  brr (decide (i321 < ((seen313.len : Nat) : Int)))
  (jn [] (fun  (h352 : Heap) =>
  next320 (IntKind.i64.wrap (i321 + 1)) h352) (fun (j323 : Heap → Prop) =>
  jn [] (fun  (h351 : Heap) =>
  j323 h351) (fun (j324 : Heap → Prop) =>
  F_law9_ReplicaMeets.l3 f14_ f17_ Q r6 seen313 who314 epochs315 from_316 with317 i321 j324 0 h322)))
  (j319 h322))
def F_law9_ReplicaMeets_of (f9_ : Int → Int → Heap → (Int → Heap → Prop) → Prop) (f10_ : Sl → Heap → (Option Addr → Heap → Prop) → Prop) (f11_ : Option Addr → Heap → (Heap → Prop) → Prop) (f12_ : Int → Int → Int → Int → Int → Int → Int → Int → Int → Int → Sl → Int → Int → ByteArray → ByteArray → Int → Int → Int → Int → Int → Int → Int → Heap → (Int → Int → Int → Int → Int → Int → Int → Int → Int → Int → Sl → Int → Int → ByteArray → ByteArray → Int → Int → Int → Int → Int → Int → Int → Heap → Prop) → Prop) (f13_ : Option Addr → Int → Int → Int → Int → Int → Int → Int → Int → Int → Int → Sl → Int → Int → ByteArray → ByteArray → Int → Int → Int → Int → Int → Int → Int → Heap → (Int → Int → Int → Int → Int → Int → Int → Int → Int → Int → Sl → Int → Int → ByteArray → ByteArray → Int → Int → Int → Int → Int → Int → Int → Bool → Bool → Bool → Heap → Prop) → Prop) (f14_ : Int → Int → Int → Int → Heap → (Bool → Heap → Prop) → Prop) (f15_ : Sl → Int → Int → Heap → (Int → Heap → Prop) → Prop) (f16_ : Sl → Int → Heap → (Int → Heap → Prop) → Prop) (f17_ : Sl → Int → Heap → (Bool → Heap → Prop) → Prop) (f18_ : Heap → (Bool → Heap → Prop) → Prop) (s1 : Int) (s2 : Sl) (h : Heap) (Q : Bool → Heap → Prop) : Prop :=
  al 24 [.int .i64 s1, .slice s2.ptr s2.len s2.cap] h fun (a3 : Addr) (h4 : Heap) =>
  ld [.int .i64] (a3.add 0) h4 fun (v5 : Int) =>
  f9_ v5 3 h4 fun (r6 : Int) (h7 : Heap) =>
  jn [(4, .one .sl)] (fun (l22 : Sl) (h23 : Heap) =>
  mk 37 2 16 (.agg #[.int .u64 0, .int .u64 0]) (IntKind.i64.wrap (1 + (IntKind.i64.wrap (2 * r6)))) (IntKind.i64.wrap (1 + (IntKind.i64.wrap (2 * r6)))) h23 fun (s24 : Sl) (h25 : Heap) =>
  jn [(8, .one .sl), (9, .one .sl), (10, .one .sl), (11, .one .sl), (12, .one .sl)] (fun (seen313 who314 epochs315 from_316 with317 : Sl) (h318 : Heap) =>
  jn [] (fun  (h353 : Heap) =>
  f18_ h353 fun (r354 : Bool) (h355 : Heap) =>
  Q r354 h355) (fun (j319 : Heap → Prop) =>
  F_law9_ReplicaMeets.l4 f14_ f17_ Q r6 seen313 who314 epochs315 from_316 with317 j319 0 h318)) (fun (j26 : Sl → Sl → Sl → Sl → Sl → Heap → Prop) =>
  F_law9_ReplicaMeets.l2 f9_ f11_ f12_ f13_ f14_ f15_ f16_ Q a3 r6 l22 s24 j26 (⟨none, 0, 0⟩ : Sl) (⟨none, 0, 0⟩ : Sl) (⟨none, 0, 0⟩ : Sl) (⟨none, 0, 0⟩ : Sl) (⟨none, 0, 0⟩ : Sl) 0 h25)) (fun (j8 : Sl → Heap → Prop) =>
  F_law9_ReplicaMeets.l1 f10_ Q r6 j8 (⟨none, 0, 0⟩ : Sl) 0 h7)
def F_law9_ReplicaMeets (s1 : Int) (s2 : Sl) (h : Heap) (Q : Bool → Heap → Prop) : Prop := F_law9_ReplicaMeets_of F_law9_into F_replica_New F_replica_Replica_Tick F_ref0_CopyMsg F_replica_Replica_Hear F_law9_less F_law9_index F_law9_place F_law9_most F_law9_lives s1 s2 h Q
def plan3 : Plan := .s (.r [1]) (.s (.r [1, 3]) (.s (.r [1, 3, 4]) (.s (.s (.r [1, 3, 4, 5]) (.bj [(4, .one .sl)] [1, 3] (.l [(4, .one .sl), (5, .one (.int .i64))] [1, 3] (.s (.s (.r [1, 3, 4, 5, 28]) (.c .z .z)) (.s (.b (.s (.r [1, 3, 4, 5, 6]) (.s (.s (.r [1, 3, 4, 5, 6, 35]) (.c (.s (.r [2]) .z) .z)) (.r [1, 3, 4, 5])))) (.r [1, 3, 4, 5])))))) (.s (.r [1, 3, 4, 7]) (.s (.r [1, 3, 4, 7, 8]) (.s (.r [1, 3, 4, 7, 8, 9]) (.s (.r [1, 3, 4, 7, 8, 9, 10]) (.s (.r [1, 3, 4, 7, 8, 9, 10, 11]) (.s (.r [1, 3, 4, 7, 8, 9, 10, 11, 12]) (.s (.s (.r [1, 3, 4, 7, 8, 9, 10, 11, 12, 13]) (.bj [(8, .one .sl), (9, .one .sl), (10, .one .sl), (11, .one .sl), (12, .one .sl)] [3] (.l [(8, .one .sl), (9, .one .sl), (10, .one .sl), (11, .one .sl), (12, .one .sl), (13, .one (.int .i64))] [1, 3, 4, 7] (.s (.s (.rj [(50, .one .bool)] [1, 3, 4, 7, 8, 9, 10, 11, 12, 13]) (.c .z .z)) (.s (.bj [(8, .one .sl), (9, .one .sl), (10, .one .sl), (11, .one .sl), (12, .one .sl)] [1, 3, 4, 7, 13] (.s (.r [1, 3, 4, 7, 8, 9, 10, 11, 12, 13, 14]) (.s (.s (.r [1, 3, 4, 7, 8, 9, 10, 11, 12, 13, 14, 67]) (.c (.s (.r [1, 3, 4, 7, 8, 9, 10, 11, 12, 13]) .z) .z)) (.s (.r [1, 3, 4, 7, 8, 9, 10, 11, 12, 13, 14, 15]) (.s (.dj [0, 0, 3, 7, 0, 31, 0, 127] [[0, 1, 2, 3, 4, 5, 6, 7], [0, 1, 2, 3, 4, 6, 5, 7]] [(16, .one .addr)] [1, 3, 4, 7, 8, 9, 10, 11, 12, 13, 14]) (.s (.r [1, 3, 4, 7, 8, 9, 10, 11, 12, 13, 14, 16, 89]) (.b (.s (.r [1, 3, 4, 7, 8, 9, 10, 11, 12, 13, 14, 16, 89, 90]) (.cj [(8, .one .sl), (9, .one .sl), (10, .one .sl), (11, .one .sl), (12, .one .sl)] [1, 3, 4, 7, 13] (.s (.s (.d [0, 0, 3, 7, 0, 16, 48, 127] [[0, 1, 2, 3, 4, 5, 6, 7]] [1, 3, 4, 7, 8, 9, 10, 11, 12, 13, 14, 16, 99]) (.cj [] [1, 3, 4, 7, 8, 9, 10, 11, 12, 13, 14, 16] (.r [1, 3, 4, 7, 8, 9, 10, 11, 12, 13, 14, 16]) .z)) (.s (.r [1, 3, 4, 7, 8, 9, 10, 11, 12, 13, 14, 16, 17]) (.s (.s (.r [1, 3, 4, 7, 8, 9, 10, 11, 12, 13, 14, 16, 17, 114]) (.cj [(8, .one .sl), (9, .one .sl)] [1, 3, 4, 7, 10, 11, 12, 13, 14, 17] (.s (.r [1, 3, 4, 7, 8, 9, 10, 11, 12, 13, 14, 17]) (.r [1, 3, 4, 7, 8, 9, 10, 11, 12, 13, 14, 17])) .z)) (.r [1, 3, 4, 7, 8, 9, 10, 11, 12, 13])))) (.s (.r [1, 3, 4, 7, 8, 9, 10, 11, 12, 13, 14, 16, 132]) (.cj [(10, .one .sl), (11, .one .sl), (12, .one .sl)] [1, 3, 4, 7, 8, 9, 13] (.s (.r [1, 3, 4, 7, 8, 9, 10, 11, 12, 13, 14, 16, 18]) (.s (.s (.r [1, 3, 4, 7, 8, 9, 10, 11, 12, 13, 14, 16, 18, 142]) (.cj [(10, .one .sl), (11, .one .sl), (12, .one .sl)] [1, 3, 4, 7, 8, 9, 13, 14, 16, 18] (.s (.r [1, 3, 4, 7, 8, 9, 10, 11, 12, 13, 14, 16, 18]) (.s (.r [1, 3, 4, 7, 8, 9, 10, 11, 12, 13, 14, 16, 18]) (.r [1, 3, 4, 7, 8, 9, 10, 11, 12, 13, 14, 16, 18]))) .z)) (.s (.r [1, 3, 4, 7, 8, 9, 10, 11, 12, 13, 14, 16, 18]) (.s (.s (.d [0, 0, 3, 7, 0, 16, 48, 127] [[0, 1, 2, 3, 4, 5, 6, 7]] [1, 3, 4, 7, 8, 9, 10, 11, 12, 13, 14, 16, 18, 171]) (.cj [] [1, 3, 4, 7, 8, 9, 10, 11, 12, 13, 14, 16] (.r [1, 3, 4, 7, 8, 9, 10, 11, 12, 13, 14, 16]) .z)) (.s (.d [0, 1, 3, 0, 0, 24, 56, 127] [[0, 1, 2, 3, 4, 5, 6, 7]] [1, 3, 4, 7, 8, 9, 10, 11, 12, 13, 185]) (.c (.s (.r [2]) .z) .z)))))) .z))))))))))) (.r [1, 3, 4, 7, 8, 9, 10, 11, 12, 13])))))) (.s (.s (.r [3, 8, 9, 10, 11, 12, 19]) (.bj [] [] (.l [(19, .one (.int .i64))] [3, 8, 9, 10, 11, 12] (.s (.s (.r [3, 8, 9, 10, 11, 12, 19, 189]) (.c .z .z)) (.s (.bj [] [3, 8, 9, 10, 11, 12, 19] (.s (.r [3, 8, 9, 10, 11, 12, 19, 20]) (.bj [] [3, 8, 9, 10, 11, 12, 19] (.l [(20, .one (.int .i64))] [3, 8, 9, 10, 11, 12, 19] (.s (.s (.r [3, 8, 9, 10, 11, 12, 19, 20, 195]) (.c .z .z)) (.s (.b (.s (.dj [0, 0, 3, 7, 0, 31, 63, 127, 127, 511, 1023, 127, 4095, 8191, 16383, 32767, 32767, 131071, 262143, 524287, 32767, 32767, 3178495, 7372799, 16777215, 33554431, 67108863, 134217727, 134217727, 536870911, 1073741823, 134217727, 134217727, 6576668671, 15166603263, 34359738367, 68719476735] [[0, 1, 2, 3, 4, 5, 6, 7, 8, 9, 10, 11, 12, 13, 14, 15, 16, 17, 18, 19, 20, 21, 22, 23, 24, 25, 26, 27, 28, 29, 30, 31, 32, 33, 34, 35, 36]] [(234, .one .bool)] [3, 8, 9, 10, 11, 12, 19, 20]) (.c (.s (.r [2]) .z) .z))) (.r [3, 8, 9, 10, 11, 12, 19, 20]))))))) (.r [3, 8, 9, 10, 11, 12, 19])))))) (.s (.r [2]) .z))))))))))))
theorem F_law9_ReplicaMeets.eq (f9_ : Int → Int → Heap → (Int → Heap → Prop) → Prop) (f10_ : Sl → Heap → (Option Addr → Heap → Prop) → Prop) (f11_ : Option Addr → Heap → (Heap → Prop) → Prop) (f12_ : Int → Int → Int → Int → Int → Int → Int → Int → Int → Int → Sl → Int → Int → ByteArray → ByteArray → Int → Int → Int → Int → Int → Int → Int → Heap → (Int → Int → Int → Int → Int → Int → Int → Int → Int → Int → Sl → Int → Int → ByteArray → ByteArray → Int → Int → Int → Int → Int → Int → Int → Heap → Prop) → Prop) (f13_ : Option Addr → Int → Int → Int → Int → Int → Int → Int → Int → Int → Int → Sl → Int → Int → ByteArray → ByteArray → Int → Int → Int → Int → Int → Int → Int → Heap → (Int → Int → Int → Int → Int → Int → Int → Int → Int → Int → Sl → Int → Int → ByteArray → ByteArray → Int → Int → Int → Int → Int → Int → Int → Bool → Bool → Bool → Heap → Prop) → Prop) (f14_ : Int → Int → Int → Int → Heap → (Bool → Heap → Prop) → Prop) (f15_ : Sl → Int → Int → Heap → (Int → Heap → Prop) → Prop) (f16_ : Sl → Int → Heap → (Int → Heap → Prop) → Prop) (f17_ : Sl → Int → Heap → (Bool → Heap → Prop) → Prop) (f18_ : Heap → (Bool → Heap → Prop) → Prop) (s1 : Int) (s2 : Sl) (h : Heap) (K : Value → Heap → Prop) : F_law9_ReplicaMeets_of f9_ f10_ f11_ f12_ f13_ f14_ f15_ f16_ f17_ f18_ s1 s2 h (fun (r0 : Bool) (h : Heap) => K (.bool r0) h) =
    den Try.prog (fn1 9 (E_law9_into_of f9_) (fn1 10 (E_replica_New_of f10_) (fn1 11 (E_replica_Replica_Tick_of f11_) (fn1 12 (E_ref0_CopyMsg_of f12_) (fn1 13 (E_replica_Replica_Hear_of f13_) (fn1 14 (E_law9_less_of f14_) (fn1 15 (E_law9_index_of f15_) (fn1 16 (E_law9_place_of f16_) (fn1 17 (E_law9_most_of f17_) (fn1 18 (E_law9_lives_of f18_) noFns)))))))))) Try.f3.ntmps plan3 (bodyOf Try.f3) (args0 0 [(.agg #[.int .i64 s1, .slice s2.ptr s2.len s2.cap] : Value)]) h ⟨fun env h => dRes Try.prog Try.f3.results.toList env h K, fun _ _ _ => False, fun env h => dRes Try.prog Try.f3.results.toList env h K⟩ := by kernel_rfl
def E_law9_ReplicaMeets_of (f : Int → Sl → Heap → (Bool → Heap → Prop) → Prop) : List Value → Heap → (Value → Heap → Prop) → Prop
  | [v0], h, K => vAgg v0 fun cs0 => decs [.int .i64, .sl] cs0.toList fun (s1 : Int) (s2 : Sl) =>
  f s1 s2 h (fun (r0 : Bool) (h : Heap) => K (.bool r0) h)
  | _, _, _ => False
abbrev E_law9_ReplicaMeets := E_law9_ReplicaMeets_of F_law9_ReplicaMeets
theorem E_law9_ReplicaMeets.at (f : Int → Sl → Heap → (Bool → Heap → Prop) → Prop) (s1 : Int) (s2 : Sl) (h : Heap) (K : Value → Heap → Prop) : E_law9_ReplicaMeets_of f [.agg ([.int .i64 s1, .slice s2.ptr s2.len s2.cap] : List Value).toArray] h K = f s1 s2 h (fun (r0 : Bool) (h : Heap) => K (.bool r0) h) := rfl
theorem E_law9_ReplicaMeets.right : IsRight Try.prog 3 E_law9_ReplicaMeets := by
  refine isRight fun vs K w hh => ?_
  match vs, hh with
  | [v0], hh =>
    unfold E_law9_ReplicaMeets E_law9_ReplicaMeets_of at hh
    replace hh := vAgg_sound hh; obtain ⟨cs0, rfl, hh⟩ := hh
    replace hh := decs_cons hh; obtain ⟨s1, l0_0, e0_0, hh⟩ := hh
    replace hh := decs_cons hh; obtain ⟨s2, l0_1, e0_1, hh⟩ := hh
    replace hh := decs_nil hh; obtain ⟨rfl, hh⟩ := hh
    subst e0_1
    have ec0 := toArray_eq e0_0
    subst ec0
    unfold F_law9_ReplicaMeets at hh
    exact calls_den (fn1_right ok9 E_law9_into.right (fn1_right ok10 E_replica_New.right (fn1_right ok11 E_replica_Replica_Tick.right (fn1_right ok12 E_ref0_CopyMsg.right (fn1_right ok13 E_replica_Replica_Hear.right (fn1_right ok14 E_law9_less.right (fn1_right ok15 E_law9_index.right (fn1_right ok16 E_law9_place.right (fn1_right ok17 E_law9_most.right (fn1_right ok18 E_law9_lives.right noFns_right)))))))))) plan3 _ w K Try.func3 (by kernel_rfl) (by kernel_rfl) (Eq.mp (F_law9_ReplicaMeets.eq F_law9_into F_replica_New F_replica_Replica_Tick F_ref0_CopyMsg F_replica_Replica_Hear F_law9_less F_law9_index F_law9_place F_law9_most F_law9_lives s1 s2 w.heap K) hh)
theorem ok3 : okFn Try.prog 3 = true := by kernel_rfl
end Go.Proofs.Ytcbelendjpnmiaa.V
/- The small functions of ReplicaMeets; lists of tags, of rows. -/
namespace Go.Proofs.Ytcbelendjpnmiaa.V
open Go Go.RowKit
set_option linter.unusedVariables false
set_option linter.unusedSimpArgs false
def tgc (t : Tg) : List Value := [.int .u64 t.1, .int .u64 t.2]
theorem tgc_len (t : Tg) : (tgc t).length = 2 := rfl
theorem tgc_one (t : Tg) : (tgc t).all oneV = true := rfl
def boc (b : Bool) : List Value := [.bool b]
theorem boc_len (b : Bool) : (boc b).length = 1 := rfl
theorem boc_one (b : Bool) : (boc b).all oneV = true := rfl
def repX (x : RX) : Res := repR x.1 x.2
def rowR (x : RW) : Res := buf 1 boc x.1 x.2
theorem set_flatN {α : Type} {enc : α → List Value} {sz : Nat} (he : ∀ x, (enc x).length = sz) (xs : List α) (sp : List Value) (i : Nat) (y : α) (hi : i < xs.length) : V.put (xs.flatMap enc ++ sp) (i * sz) (enc y) = (xs.set i y).flatMap enc ++ sp := by
  have e : xs = xs.take i ++ xs[i] :: xs.drop (i + 1) := by rw [← List.drop_eq_getElem_cons hi, List.take_append_drop]
  have hl : (xs.take i).length = i := by rw [List.length_take]; omega
  have hf : ((xs.take i).flatMap enc).length = i * sz := by rw [flatMap_len he, hl]
  have e2 : xs.set i y = xs.take i ++ y :: xs.drop (i + 1) := List.set_eq_take_append_cons_drop.trans (if_pos hi)
  rw [e2]
  conv => lhs; rw [e]
  rw [List.flatMap_append, List.flatMap_cons, List.flatMap_append, List.flatMap_cons, List.append_assoc, List.append_assoc, ← hf, put_app _ _ _ (by rw [List.length_append, he, he]; omega)]
  rw [he y, ← he xs[i], List.drop_left]
  simp only [List.append_assoc]
section
variable {h0 h : Heap} {L : List Res}
theorem Sat.putN {α : Type} {sz : Nat} {enc : α → List Value} {s : Sl} {xs : List α} {i : Int} {K : Heap → Prop} (O : Sat h0 h (buf sz enc s xs :: L)) (he : ∀ x, (enc x).length = sz) (ho : ∀ x, (enc x).all oneV = true)
    (hi0 : 0 ≤ i) (hi1 : i < (xs.length : Int)) (y : α) {cs : List Value} (hcs : cs = enc y) (k : ∀ h', Sat h0 h' (buf sz enc s (xs.set i.toNat y) :: L) → K h') : ixS sz s i fun a => V.st a cs h K := by
  subst hcs
  obtain ⟨sp, O⟩ := O.ex
  obtain ⟨E, ⟨E1, E2, p, hA, h2⟩, O⟩ := O
  have O := O.perm p.symm
  rcases hA with ⟨rfl, rfl, _, _⟩ | ⟨b, j, rfl, hsp, rfl⟩
  · simp at hi1; omega
  · refine ⟨pt b 0, rfl, hi0, hi1, ?_⟩
    rw [pt_add, Nat.zero_add]
    have hl := flatMap_len he xs
    have hm : (i.toNat + 1) * sz ≤ xs.length * sz := Nat.mul_le_mul_right sz (by omega)
    rw [Nat.add_mul, Nat.one_mul] at hm
    refine Held.st O (by rw [he, List.length_append, hl]; omega) (ho y) fun h' O' => ?_
    rw [set_flatN he _ _ _ _ (by omega)] at O'
    exact k _ ⟨_, ⟨[(b, _)], E2, List.Perm.refl _, ⟨sp, .inr ⟨b, j, by simp, hsp, rfl⟩⟩, h2⟩, O'⟩
theorem View.tg {s : Sl} {xs : List Tg} {i : Int} {K : Int → Int → Prop} {x : Tg} (V : View h 2 (En tgc) s xs) (h0 : 0 ≤ i) (hx : xs[i.toNat]? = some x) (kk : K x.1 x.2) : ixS 2 s i fun a => ld [.int .u64, .int .u64] a h K :=
  V.getP h0 hx fun a ha => ld_are (ha V) (ldL_c (ldL_c (ldL_n kk)))
theorem View.tg1 {s : Sl} {xs : List Tg} {i : Int} {K : Int → Prop} {x : Tg} (V : View h 2 (En tgc) s xs) (h0 : 0 ≤ i) (hx : xs[i.toNat]? = some x) (kk : K x.1) : ixS 2 s i fun a => ld [.int .u64] (a.add 0) h K :=
  V.getP h0 hx fun a ha => ld_drop (ha V) 0 (ldL_c (ldL_n kk))
theorem View.bo {s : Sl} {xs : List Bool} {i : Int} {K : Bool → Prop} {x : Bool} (V : View h 1 (En boc) s xs) (h0 : 0 ≤ i) (hx : xs[i.toNat]? = some x) (kk : K x) : ixS 1 s i fun a => ld [.bool] a h K :=
  V.getP h0 hx fun a ha => ld_are (ha V) (ldL_c (ldL_n kk))
theorem View.sl {s : Sl} {xs : List Sl} {i : Int} {K : Sl → Prop} {x : Sl} (V : View h 1 (En slc) s xs) (h0 : 0 ≤ i) (hx : xs[i.toNat]? = some x) (kk : K x) : ixS 1 s i fun a => ld [.sl] a h K :=
  V.getP h0 hx fun a ha => ld_are (ha V) (ldL_s (ldL_n kk))
theorem View.u6 {s : Sl} {xs : List Int} {i : Int} {K : Int → Prop} {x : Int} (V : View h 1 (En u64c) s xs) (h0 : 0 ≤ i) (hx : xs[i.toNat]? = some x) (kk : K x) : ixS 1 s i fun a => ld [.int .u64] a h K :=
  V.getP h0 hx fun a ha => ld_are (ha V) (ldL_c (ldL_n kk))
/-- Where a thing stands in a list. -/
def stands {α : Type} [DecidableEq α] (l : List α) (x : α) : Nat := l.findIdx (fun y => decide (y = x))
theorem stands_le {α : Type} [DecidableEq α] (l : List α) (x : α) : stands l x ≤ l.length := List.findIdx_le_length
theorem stands_at {α : Type} [DecidableEq α] {l : List α} {x : α} (h : stands l x < l.length) : l[stands l x]? = some x := by
  have := List.findIdx_getElem (p := fun y => decide (y = x)) (w := h)
  rw [List.getElem?_eq_getElem h]
  exact congrArg some (of_decide_eq_true this)
theorem stands_eq {α : Type} [DecidableEq α] {l : List α} {x : α} {i : Nat} (h1 : l[i]? = some x) (h2 : ∀ j < i, l[j]? ≠ some x) : stands l x = i := by
  obtain ⟨hi, e⟩ := List.getElem?_eq_some_iff.1 h1
  refine (List.findIdx_eq hi).2 ⟨by simp [e], fun j hj => ?_⟩
  have := h2 j hj
  rw [List.getElem?_eq_getElem (by omega)] at this
  simpa using this
theorem stands_not {α : Type} [DecidableEq α] {l : List α} {x : α} (h2 : ∀ j < l.length, l[j]? ≠ some x) : stands l x = l.length := by
  refine List.findIdx_eq_length.2 fun y hy => ?_
  obtain ⟨j, hj⟩ := List.getElem?_of_mem hy
  have := h2 j (List.getElem?_eq_some_iff.1 hj).1
  rw [hj] at this
  simpa using this
theorem F_law9_index.is {s : Sl} {xs : List Tg} {t : Tg} {Q : Int → Heap → Prop} (V1 : Stays h0 L fun h => View h 2 (En tgc) s xs) (hl : xs.length ≤ 1000000) (O : Sat h0 h L) (k : ∀ h', Sat h0 h' L → Q (stands xs t : Int) h') : F_law9_index s t.1 t.2 h Q := by
  rw [F_law9_index.eq_1, F_law9_index_of.eq_1]
  refine O.al fun a h O => ?_
  refine jn0 (fun h' => (∀ j < xs.length, xs[j]? ≠ some t) ∧ Sat h0 h' L) ?_ ?_
  · clear O
    rintro h ⟨hn, O⟩
    rw [(V1 h O).len]
    have := k _ O
    rwa [stands_not hn] at this
  · intro j hj
    rw [F_law9_index.l1.eq_1]
    refine wl1 (k := .int .i64) (fun (m : Nat) (i : Int) (h' : Heap) => i + m = xs.length ∧ 0 ≤ i ∧ (∀ j : Nat, (j : Int) < i → xs[j]? ≠ some t) ∧ Sat h0 h' (own a [.int .u64 t.1, .int .u64 t.2] :: L)) ?_ (m := xs.length) ⟨by omega, by omega, fun j hj => by omega, O⟩
    clear O
    rintro m (i : Int) h next hn ⟨him, hi0, hall, O⟩
    have V := V1 h O.drop
    rw [V.len]
    refine brr_p (fun hlt => ?_) (fun hlt => hj _ ⟨fun j hjl => hall j (by omega), O.drop⟩)
    obtain ⟨x, hx⟩ : ∃ x, xs[i.toNat]? = some x := ⟨_, List.getElem?_eq_getElem (by omega)⟩
    refine V.tg hi0 hx ?_
    refine O.ld 0 rfl (ldL_c (ldL_c (ldL_n ?_)))
    refine brr_of (fun hq => ?_) (fun hq => ?_)
    · have hxt : x = t := by
        simp only [Bool.and_eq_true, beq_iff_eq, and_true] at hq
        exact Prod.ext hq.1 hq.2
      subst hxt
      have e := stands_eq hx fun j hj => hall j (by omega)
      have := k _ O.drop
      rw [e] at this
      rwa [show ((i.toNat : Nat) : Int) = i by omega] at this
    · rw [wrap64 (by omega) (by omega)]
      refine hn (m - 1) _ _ (by omega) ⟨by omega, by omega, fun j hj => ?_, O⟩
      by_cases q : (j : Int) < i
      · exact hall j q
      · rw [show j = i.toNat by omega, hx]
        intro e
        cases e
        simp at hq
theorem F_law9_place.is {s : Sl} {xs : List Int} {t : Int} {Q : Int → Heap → Prop} (V1 : Stays h0 L fun h => View h 1 (En u64c) s xs) (hl : xs.length ≤ 1000000) (O : Sat h0 h L) (k : ∀ h', Sat h0 h' L → Q (stands xs t : Int) h') : F_law9_place s t h Q := by
  rw [F_law9_place.eq_1, F_law9_place_of.eq_1]
  refine jn0 (fun h' => (∀ j < xs.length, xs[j]? ≠ some t) ∧ Sat h0 h' L) ?_ ?_
  · clear O
    rintro h ⟨hn, O⟩
    rw [(V1 h O).len]
    have := k _ O
    rwa [stands_not hn] at this
  · intro j hj
    rw [F_law9_place.l1.eq_1]
    refine wl1 (k := .int .i64) (fun (m : Nat) (i : Int) (h' : Heap) => i + m = xs.length ∧ 0 ≤ i ∧ (∀ j : Nat, (j : Int) < i → xs[j]? ≠ some t) ∧ Sat h0 h' L) ?_ (m := xs.length) ⟨by omega, by omega, fun j hj => by omega, O⟩
    clear O
    rintro m (i : Int) h next hn ⟨him, hi0, hall, O⟩
    have V := V1 h O
    rw [V.len]
    refine brr_p (fun hlt => ?_) (fun hlt => hj _ ⟨fun j hjl => hall j (by omega), O⟩)
    obtain ⟨x, hx⟩ : ∃ x, xs[i.toNat]? = some x := ⟨_, List.getElem?_eq_getElem (by omega)⟩
    refine V.u6 hi0 hx ?_
    refine brr_eq (fun hq => ?_) (fun hq => ?_)
    · subst hq
      have e := stands_eq hx fun j hj => hall j (by omega)
      have := k _ O
      rw [e] at this
      rwa [show ((i.toNat : Nat) : Int) = i by omega] at this
    · rw [wrap64 (by omega) (by omega)]
      refine hn (m - 1) _ _ (by omega) ⟨by omega, by omega, fun j hj => ?_, O⟩
      by_cases q : (j : Int) < i
      · exact hall j q
      · rw [show j = i.toNat by omega, hx]
        intro e
        cases e
        exact hq rfl
theorem cnt_take {l : List Bool} {i : Nat} {b : Bool} (h : l[i]? = some b) : cnt (l.take (i + 1)) = cnt (l.take i) + if b then 1 else 0 := by
  obtain ⟨hi, rfl⟩ := List.getElem?_eq_some_iff.1 h
  rw [List.take_succ_eq_append_getElem hi]
  unfold cnt
  rw [List.countP_append]
  cases l[i] <;> simp
theorem F_law9_most.is {s : Sl} {xs : List Bool} {n : Nat} {Q : Bool → Heap → Prop} (V : View h 1 (En boc) s xs) (hl : xs.length ≤ 1000000) (k : Q (decide (n < 2 * cnt xs)) h) : F_law9_most s (n : Int) h Q := by
  rw [F_law9_most.eq_1, F_law9_most_of.eq_1]
  refine jn1 (fun (z : Int) h' => h' = h ∧ z = (cnt xs : Int)) ?_ ?_
  · rintro z h2 ⟨rfl, rfl⟩
    have hc := cnt_le xs
    rw [wrap64 (by omega) (by omega)]
    have e : decide (2 * (cnt xs : Int) > (n : Int)) = decide (n < 2 * cnt xs) := decide_eq_decide.2 (by omega)
    rw [e]
    exact k
  · intro j hj
    rw [F_law9_most.l1.eq_1]
    refine wl2 (k := .int .i64) (l := .int .i64) (fun (m : Nat) (c : Int) (i : Int) (h' : Heap) => h' = h ∧ i + m = xs.length ∧ 0 ≤ i ∧ c = (cnt (xs.take i.toNat) : Int)) ?_ (m := xs.length) ⟨rfl, by omega, by omega, by simp [cnt]⟩
    rintro m (c : Int) (i : Int) h2 next hn ⟨rfl, him, hi0, hc⟩
    rw [V.len]
    have hcl := cnt_le (xs.take i.toNat)
    rw [List.length_take] at hcl
    refine brr_p (fun hlt => ?_) (fun hlt => hj _ _ ⟨rfl, by rw [hc, List.take_of_length_le (by omega)]⟩)
    obtain ⟨x, hx⟩ : ∃ x, xs[i.toNat]? = some x := ⟨_, List.getElem?_eq_getElem (by omega)⟩
    refine V.bo hi0 hx ?_
    have hct := cnt_take hx
    refine jn1 (fun (z : Int) h' => h' = h2 ∧ z = (cnt (xs.take (i.toNat + 1)) : Int)) ?_ ?_
    · rintro z h3 ⟨rfl, rfl⟩
      rw [wrap64 (by omega) (by omega)]
      refine hn (m - 1) _ _ _ (by omega) ⟨rfl, by omega, by omega, by rw [show (i + 1).toNat = i.toNat + 1 by omega]⟩
    · intro j2 hj2
      cases x with
      | true =>
        refine brr_tt rfl ?_
        refine hj2 _ _ ⟨rfl, ?_⟩
        rw [wrap64 (by omega) (by omega), hct, hc]
        simp
      | false =>
        refine brr_ff rfl ?_
        refine hj2 _ _ ⟨rfl, ?_⟩
        rw [hct, hc]
        simp
theorem mkB (n : Nat) : mkCells (.bool false) ((n : Int).toNat * 1) = List.replicate n (.bool false) := by
  unfold mkCells
  apply List.ext_getElem
  · simp
  · intro i h1 h2
    simp [Value.cells, Nat.mod_one]
theorem mk_bools (n : Nat) : mkCells (.bool false) ((n : Int).toNat * 1) = (List.replicate n false).flatMap boc ++ [] := by
  rw [mkB, List.append_nil]
  have : ∀ k : Nat, List.replicate k (Value.bool false) = (List.replicate k false).flatMap boc := by
    intro k
    induction k with
    | zero => rfl
    | succ k ih => rw [List.replicate_succ, List.replicate_succ, List.flatMap_cons, ih]; rfl
  exact this _
theorem mkT (n : Nat) : mkCells (.agg #[.int .u64 0, .int .u64 0]) ((n : Int).toNat * 2) = List.replicate (n * 2) (.int .u64 0) := by
  unfold mkCells
  apply List.ext_getElem
  · simp
  · intro i h1 h2
    rcases Nat.mod_two_eq_zero_or_one i with q | q <;> simp [Value.cells, q]
theorem mk_tags (n : Nat) : mkCells (.agg #[.int .u64 0, .int .u64 0]) ((n : Int).toNat * 2) = (List.replicate n ((0, 0) : Tg)).flatMap tgc ++ [] := by
  rw [mkT, List.append_nil]
  induction n with
  | zero => rfl
  | succ k ih => rw [show (k + 1) * 2 = k * 2 + 1 + 1 by omega, List.replicate_succ, List.replicate_succ, ih, List.replicate_succ, List.flatMap_cons]; rfl
end
end Go.Proofs.Ytcbelendjpnmiaa.V
/- Two majorities meet: for every script of 1, 3 or 5 replicas, what ReplicaMeets plays. -/
namespace Go.Proofs.Ytcbelendjpnmiaa.V
open Go Go.RowKit
set_option linter.unusedVariables false
set_option linter.unusedSimpArgs false
abbrev tyMost : Ty := .cons (.int .i64) (.cons (.sl 30 288 tyROp) .nil)
theorem act_k5 {r : RS} {m : Mg} (h : (act r m).1 = (act r m).1) (h5 : (act r m).2.kind = 5) : r.prom ≤ m.te := by
  unfold act at h5
  by_cases h1 : m.kind = 1
  · simp only [if_pos h1] at h5
    unfold prep at h5
    split at h5 <;> simp [refusal, hd0] at h5
  simp only [if_neg h1] at h5
  by_cases h4 : m.kind = 4
  · simp only [if_pos h4] at h5
    unfold writ at h5
    by_cases hc : m.te < r.prom
    · simp [if_pos hc, refusal] at h5
    · omega
  simp only [if_neg h4] at h5
  by_cases h6 : m.kind = 6
  · simp only [if_pos h6] at h5
    unfold beats at h5
    split at h5 <;> simp [refusal, hd0] at h5
  · simp [if_neg h6, hd0] at h5
theorem hear_fence (r : RS) (m : Mg) : Fence r (hearS r m).1 (hearS r m).2 m := (act_fence r m).seal
theorem hear_k5 {r : RS} {m : Mg} (h5 : (hearS r m).2.kind = 5) : r.prom ≤ m.te := act_k5 rfl (by rw [← seal_kind2 (m := m)]; exact h5)
theorem hdC_kind {d : HD} {s : Sl} : ∃ t, hdC d s = .int .i64 d.kind :: t := ⟨_, rfl⟩
theorem MM.ok_new {n : Nat} {rs : List RX} (h1 : rs.length = n) (h2 : ∀ (c : Nat) x, rs[c]? = some x → x.2 = ⟨0, 0, 0, [118], 0⟩) : MM.Ok n ⟨rs, List.replicate n (0, 0), [], [], [], [], []⟩ where
  nrs := h1
  nto := List.length_replicate
  nws := rfl
  nfs := rfl
  nwt := rfl
  lw := fun i w hw => by simp at hw
  lf := fun i w hw => by simp at hw
  rok := fun c x hx => by rw [h2 c x hx]; exact ⟨by simp, by decide, by decide⟩
  i1 := fun c x t hx ht => by
    have ht : (List.replicate n ((0, 0) : Tg))[c]? = some t := ht
    rw [List.getElem?_replicate] at ht
    split at ht
    · cases ht
      rw [h2 c x hx]
      exact tle_refl _
    · cases ht
  i2 := fun i w t c x hw => by simp at hw
  i3 := fun i w t c x hw => by simp at hw
  i4 := fun i k w f t e u c hw => by simp at hw
theorem getOf {α : Type} {l : List α} {i n : Nat} (h : l.length = n) (hi : i < n) : ∃ x, l[i]? = some x := ⟨_, List.getElem?_eq_getElem (by omega)⟩
section
variable {h0 h : Heap} {L : List Res}
/-- A row of marks is set at one place. -/
theorem row_set {s : Sl} {ws : List RW} {w : RW} {i k n : Nat} {K : Heap → Prop} (hw : ws[i]? = some w) (hl : w.2.length = n) (hk : k < n) (O : Sat h0 h (buf 1 slc s (ws.map (·.1)) :: many rowR ws :: L))
    (kk : ∀ h', Sat h0 h' (buf 1 slc s ((ws.set i (w.1, w.2.set k true)).map (·.1)) :: many rowR (ws.set i (w.1, w.2.set k true)) :: L) → K h') :
    ixS 1 s (i : Int) fun a => ld [.sl] a h fun v => ixS 1 v (k : Int) fun a => st a [.bool true] h K := by
  have q0 : (ws.map (·.1))[((i : Nat) : Int).toNat]? = some w.1 := by rw [Int.toNat_natCast, List.getElem?_map, hw]; rfl
  refine View.sl (O.view 0 slc_len (by simp) rfl).1 (by omega) q0 ?_
  have O2 : Sat h0 h (buf 1 boc w.1 w.2 :: hole rowR ws i :: buf 1 slc s (ws.map (·.1)) :: L) := (O.sel [1, 0] 2 rfl (Nat.le_add_left _ _)).take i hw
  refine O2.putN boc_len boc_one (by omega) (by omega) true rfl fun h O => ?_
  rw [Int.toNat_natCast] at O
  have O := Sat.give (f := rowR) (y := (w.1, w.2.set k true)) O (List.getElem?_eq_some_iff.1 hw).1
  refine kk h ?_
  have e : (ws.set i (w.1, w.2.set k true)).map (·.1) = ws.map (·.1) := by
    rw [List.map_set]
    exact set_same (by rw [List.getElem?_map, hw]; rfl)
  rw [e]
  exact O.swap
end
theorem replicaMeets_main (H : Heap) (cs : List Value) (F : Fit H 140737488351232 tyMost cs) : E_law9_ReplicaMeets [.agg cs.toArray] H (fun r h' => r = .bool true ∧ KeptH H h') := by
  obtain ⟨_, _, rfl, _, ⟨t1, rfl, t1a, t1b⟩, _, _, rfl, _, ⟨t2, rfl, t2S⟩, rfl⟩ := F
  refine Eq.mpr (E_law9_ReplicaMeets.at F_law9_ReplicaMeets t1 t2 H _) ?_
  obtain ⟨ops, Vo⟩ := t2S.rops
  rw [F_law9_ReplicaMeets.eq_1, F_law9_ReplicaMeets_of.eq_1]
  refine Sat.al (Sat.nil H) fun x3 h1 O => ?_
  refine O.ld 0 rfl (ldL_c (ldL_n ?_))
  refine F_law9_into.is (by decide) (by decide) ?_
  obtain ⟨q, hq, hq3⟩ : ∃ q : Nat, t1 % 3 = q ∧ q < 3 := ⟨(t1 % 3).toNat, by omega, by omega⟩
  rw [hq]
  obtain ⟨n, hn⟩ : ∃ n, n = 1 + 2 * q := ⟨_, rfl⟩
  have ewn : IntKind.i64.wrap (1 + IntKind.i64.wrap (2 * (q : Int))) = (n : Int) := by rw [wrap64 (x := 2 * (q : Int)) (by omega) (by omega), wrap64 (by omega) (by omega)]; omega
  refine jn1 (fun (sL : Sl) h' => ∃ rs : List RX, rs.length = n ∧ (∀ (c : Nat) x, rs[c]? = some x → x.2 = ⟨0, 0, 0, [118], 0⟩) ∧ Sat H h' [buf 1 ptrc sL (rs.map (·.1)), many repX rs, own x3 [.int .i64 t1, .slice t2.ptr t2.len t2.cap]]) ?_ ?_
  case refine_2 =>
    intro j8 hj8
    rw [F_law9_ReplicaMeets.l1.eq_1]
    refine wl2 (k := .sl) (l := .int .i64) (fun (m : Nat) (sL : Sl) (i : Int) (h' : Heap) => i + m = n ∧ 0 ≤ i ∧ ∃ rs : List RX, (rs.length : Int) = i ∧ (∀ (c : Nat) x, rs[c]? = some x → x.2 = ⟨0, 0, 0, [118], 0⟩) ∧ Sat H h' [buf 1 ptrc sL (rs.map (·.1)), many repX rs, own x3 [.int .i64 t1, .slice t2.ptr t2.len t2.cap]]) ?_ (m := n) ⟨by omega, by omega, [], by simp, fun c x hx => by simp at hx, O.none.nil_buf⟩
    clear O
    rintro m (sL : Sl) (i : Int) h next hnx ⟨him, hi0, rs, hrl, hr0, O⟩
    rw [ewn]
    refine brr_p (fun hlt => ?_) (fun hlt => hj8 _ _ ⟨rs, by omega, hr0, O⟩)
    refine O.al fun b h O => ?_
    refine O.frz fun h O => ?_
    have O : Sat H h [own b [.int .u8 ((118 : UInt8).toNat : Int)], buf 1 ptrc sL (rs.map (·.1)), many repX rs, own x3 [.int .i64 t1, .slice t2.ptr t2.len t2.cap]] := O
    have O := lit_buf O
    refine F_replica_New.is (xs := [118]) O (fun h O => (O.view 0 u8_len (by simp) rfl).1) (by simp) fun p h O => ?_
    refine brr_ff rfl ?_
    refine Sat.push_buf (O.sel [2, 0, 3, 4] 5 rfl (Nat.le_add_left _ _)) p rfl ptrc_len ptrc_one rfl (by rw [List.length_map]; omega) fun sL2 h O _ => ?_
    rw [wrap64 (by omega) (by omega)]
    refine hnx (m - 1) _ _ _ (by omega) ⟨by omega, by omega, rs ++ [(p, ⟨0, 0, 0, [118], 0⟩)], by rw [List.length_append]; simp; omega, fun c x hx => ?_, ?_⟩
    · rcases app_cases hx with ⟨_, rfl⟩ | ⟨_, q⟩
      · rfl
      · exact hr0 c x q
    · rw [List.map_append]
      have O := Sat.more (f := repX) (y := (p, ⟨0, 0, 0, [118], 0⟩)) (O.sel [1, 2, 0, 3] 4 rfl (Nat.le_add_left _ _))
      exact O.swap
  clear O
  rintro sL h ⟨rs, hrl, hr0, O⟩
  rw [ewn]
  refine O.mk_buf (by omega) (by omega) (by omega) fun bT h O => ?_
  rw [mk_tags] at O
  have O := (O.own_buf (k := 0) (sz := 2) rfl).bufsI
  rw [List.length_replicate, Nat.add_zero] at O
  rw [Int.toNat_natCast]
  obtain ⟨sT, hsT⟩ : ∃ sT : Sl, sT = ⟨some (pt bT 0), n, n⟩ := ⟨_, rfl⟩
  rw [← hsT] at O ⊢
  have ok0 := MM.ok_new hrl hr0
  have O : ∃ M : MM, M.Ok n ∧ M.seen.length = 0 ∧ M.eps.length = 0 ∧ ∃ sS sW sE sF sH : Sl, sS = ⟨none, 0, 0⟩ ∧ sW = ⟨none, 0, 0⟩ ∧ sE = ⟨none, 0, 0⟩ ∧ sF = ⟨none, 0, 0⟩ ∧ sH = ⟨none, 0, 0⟩ ∧ Sat H h (buf 1 ptrc sL (M.rs.map (·.1)) :: many repX M.rs :: buf 2 tgc sT M.told :: buf 2 tgc sS M.seen :: buf 1 slc sW (M.ws.map (·.1)) :: many rowR M.ws :: buf 1 u64c sE M.eps :: buf 1 slc sF (M.fs.map (·.1)) :: many rowR M.fs :: buf 2 tgc sH M.wth :: [own x3 [.int .i64 t1, .slice t2.ptr t2.len t2.cap]]) := by
    refine ⟨_, ok0, rfl, rfl, _, _, _, _, _, rfl, rfl, rfl, rfl, rfl, ?_⟩
    have O2 := (((((((O.nil_buf (sz := 2) (enc := tgc)).nil_buf (sz := 1) (enc := slc)).none (f := rowR)).nil_buf (sz := 1) (enc := u64c)).nil_buf (sz := 1) (enc := slc)).none (f := rowR)).nil_buf (sz := 2) (enc := tgc))
    exact O2.sel [8, 9, 7, 6, 5, 4, 3, 2, 1, 0, 10] 11 rfl (Nat.le_add_left _ _)
  obtain ⟨M, ok, hs0, he0, sS, sW, sE, sF, sH, e1, e2, e3, e4, e5, O⟩ := O
  refine jn5 (fun (sS sW sE sF sH : Sl) h' => ∃ M : MM, M.Ok n ∧ M.seen.length ≤ 1000 ∧ M.eps.length ≤ 1000 ∧ Sat H h' (buf 1 ptrc sL (M.rs.map (·.1)) :: many repX M.rs :: buf 2 tgc sT M.told :: buf 2 tgc sS M.seen :: buf 1 slc sW (M.ws.map (·.1)) :: many rowR M.ws :: buf 1 u64c sE M.eps :: buf 1 slc sF (M.fs.map (·.1)) :: many rowR M.fs :: buf 2 tgc sH M.wth :: [own x3 [.int .i64 t1, .slice t2.ptr t2.len t2.cap]])) ?_ ?_
  · clear O ok e1 e2 e3 e4 e5 hs0 he0 ok0 M sS sW sE sF sH
    rintro sS sW sE sF sH h ⟨M, ok, hs, he, O⟩
    refine jn0 (fun h' => Sat H h' (buf 1 ptrc sL (M.rs.map (·.1)) :: many repX M.rs :: buf 2 tgc sT M.told :: buf 2 tgc sS M.seen :: buf 1 slc sW (M.ws.map (·.1)) :: many rowR M.ws :: buf 1 u64c sE M.eps :: buf 1 slc sF (M.fs.map (·.1)) :: many rowR M.fs :: buf 2 tgc sH M.wth :: [own x3 [.int .i64 t1, .slice t2.ptr t2.len t2.cap]])) ?_ ?_
    · intro h O
      refine F_law9_lives.is O fun h O => ⟨rfl, O.kept⟩
    · intro j hj
      rw [F_law9_ReplicaMeets.l4.eq_1]
      refine wl1 (k := .int .i64) (fun (m : Nat) (i : Int) (h' : Heap) => i + m = M.seen.length ∧ 0 ≤ i ∧ Sat H h' (buf 1 ptrc sL (M.rs.map (·.1)) :: many repX M.rs :: buf 2 tgc sT M.told :: buf 2 tgc sS M.seen :: buf 1 slc sW (M.ws.map (·.1)) :: many rowR M.ws :: buf 1 u64c sE M.eps :: buf 1 slc sF (M.fs.map (·.1)) :: many rowR M.fs :: buf 2 tgc sH M.wth :: [own x3 [.int .i64 t1, .slice t2.ptr t2.len t2.cap]])) ?_ (m := M.seen.length) ⟨by omega, by omega, O⟩
      clear O
      rintro m (i : Int) h next hnx ⟨him, hi0, O⟩
      rw [(O.view 3 tgc_len (by simp) rfl).1.len]
      refine brr_p (fun hlt => ?_) (fun hlt => hj _ O)
      obtain ⟨i, rfl⟩ := Int.eq_ofNat_of_zero_le hi0
      refine jn0 (fun h' => Sat H h' (buf 1 ptrc sL (M.rs.map (·.1)) :: many repX M.rs :: buf 2 tgc sT M.told :: buf 2 tgc sS M.seen :: buf 1 slc sW (M.ws.map (·.1)) :: many rowR M.ws :: buf 1 u64c sE M.eps :: buf 1 slc sF (M.fs.map (·.1)) :: many rowR M.fs :: buf 2 tgc sH M.wth :: [own x3 [.int .i64 t1, .slice t2.ptr t2.len t2.cap]])) ?_ ?_
      · intro h O
        rw [wrap64 (by omega) (by omega)]
        exact hnx (m - 1) _ _ (by omega) ⟨by omega, by omega, O⟩
      · intro j2 hj2
        refine jn_go ?_
        rw [F_law9_ReplicaMeets.l3.eq_1]
        refine wl1 (k := .int .i64) (fun (m : Nat) (k : Int) (h' : Heap) => k + m = M.eps.length ∧ 0 ≤ k ∧ Sat H h' (buf 1 ptrc sL (M.rs.map (·.1)) :: many repX M.rs :: buf 2 tgc sT M.told :: buf 2 tgc sS M.seen :: buf 1 slc sW (M.ws.map (·.1)) :: many rowR M.ws :: buf 1 u64c sE M.eps :: buf 1 slc sF (M.fs.map (·.1)) :: many rowR M.fs :: buf 2 tgc sH M.wth :: [own x3 [.int .i64 t1, .slice t2.ptr t2.len t2.cap]])) ?_ (m := M.eps.length) ⟨by omega, by omega, O⟩
        clear O hj hnx him
        rintro m2 (k : Int) h next hnx ⟨him, hk0, O⟩
        have VS := (O.view 3 tgc_len (by simp) rfl).1
        have VW := (O.view 4 slc_len (by simp) rfl).1
        have VE := (O.view 6 u64c_len (by simp) rfl).1
        have VF := (O.view 7 slc_len (by simp) rfl).1
        have VH := (O.view 9 tgc_len (by simp) rfl).1
        rw [VE.len]
        refine brr_p (fun hlt2 => ?_) (fun hlt => hj2 _ O)
        obtain ⟨k, rfl⟩ := Int.eq_ofNat_of_zero_le hk0
        refine jn1 (fun z h' => z = false ∧ Sat H h' (buf 1 ptrc sL (M.rs.map (·.1)) :: many repX M.rs :: buf 2 tgc sT M.told :: buf 2 tgc sS M.seen :: buf 1 slc sW (M.ws.map (·.1)) :: many rowR M.ws :: buf 1 u64c sE M.eps :: buf 1 slc sF (M.fs.map (·.1)) :: many rowR M.fs :: buf 2 tgc sH M.wth :: [own x3 [.int .i64 t1, .slice t2.ptr t2.len t2.cap]])) ?_ ?_
        · rintro z h ⟨rfl, O⟩
          refine brr_ff rfl ?_
          rw [wrap64 (by omega) (by omega)]
          exact hnx (m2 - 1) _ _ (by omega) ⟨by omega, by omega, O⟩
        · intro j3 hj3
          obtain ⟨w, hw⟩ := getOf (i := i) ok.nws (by omega)
          obtain ⟨f, hf⟩ := getOf (i := k) ok.nfs (by omega)
          obtain ⟨t, ht⟩ := getOf (l := M.seen) (i := i) rfl (by omega)
          obtain ⟨e, he⟩ := getOf (l := M.eps) (i := k) rfl (by omega)
          obtain ⟨u, hu⟩ := getOf (i := k) ok.nwt (by omega)
          have q1 : (M.ws.map (·.1))[((i : Nat) : Int).toNat]? = some w.1 := by rw [Int.toNat_natCast, List.getElem?_map, hw]; rfl
          have q2 : (M.fs.map (·.1))[((k : Nat) : Int).toNat]? = some f.1 := by rw [Int.toNat_natCast, List.getElem?_map, hf]; rfl
          have lw := ok.lw _ _ hw
          have lf := ok.lf _ _ hf
          rw [ewn]
          refine VW.sl (by omega) q1 ?_
          have Ow : Sat H h (buf 1 boc w.1 w.2 :: _) := (O.sel [5, 0, 1, 2, 3, 4, 6, 7, 8, 9, 10] 11 rfl (Nat.le_add_left _ _)).take i hw
          have Of : Sat H h (buf 1 boc f.1 f.2 :: _) := (O.sel [8, 0, 1, 2, 3, 4, 6, 7, 5, 9, 10] 11 rfl (Nat.le_add_left _ _)).take k hf
          refine F_law9_most.is (Ow.view 0 boc_len (by simp) rfl).1 (by omega) ?_
          refine brr_p (fun m1 => ?_) (fun _ => hj3 _ _ ⟨rfl, O⟩)
          refine VF.sl (by omega) q2 ?_
          refine F_law9_most.is (Of.view 0 boc_len (by simp) rfl).1 (by omega) ?_
          refine brr_p (fun m2 => ?_) (fun _ => hj3 _ _ ⟨rfl, O⟩)
          refine VS.tg1 (by omega) ht ?_
          refine VE.u6 (by omega) he ?_
          refine brr_p (fun hlt3 => ?_) (fun _ => hj3 _ _ ⟨rfl, O⟩)
          refine VH.tg (by omega) hu ?_
          refine VS.tg (by omega) ht ?_
          refine F_law9_less.is O fun h O => ?_
          exact hj3 _ _ ⟨decide_eq_false (ok.meet hw hf ht he hu m1 m2 hlt3), O⟩
  intro j26 hj26
  rw [F_law9_ReplicaMeets.l2.eq_1, ← e1]
  have e2' := e2.trans e1.symm
  have e3' := e3.trans e1.symm
  have e4' := e4.trans e1.symm
  have e5' := e5.trans e1.symm
  refine wl6 (k1 := .sl) (k2 := .sl) (k3 := .sl) (k4 := .sl) (k5 := .sl) (k6 := .int .i64) (fun (m : Nat) (sS sW sE sF sH : Sl) (i : Int) (h' : Heap) => i + m = ops.length ∧ 0 ≤ i ∧ i ≤ 200 ∧ ∃ M : MM, M.Ok n ∧ M.seen.length ≤ i ∧ M.eps.length ≤ i ∧ Sat H h' (buf 1 ptrc sL (M.rs.map (·.1)) :: many repX M.rs :: buf 2 tgc sT M.told :: buf 2 tgc sS M.seen :: buf 1 slc sW (M.ws.map (·.1)) :: many rowR M.ws :: buf 1 u64c sE M.eps :: buf 1 slc sF (M.fs.map (·.1)) :: many rowR M.fs :: buf 2 tgc sH M.wth :: [own x3 [.int .i64 t1, .slice t2.ptr t2.len t2.cap]])) ?_ (m := ops.length) ⟨by omega, by omega, by omega, M, ok, by omega, by omega, by rw [e2', e3', e4', e5'] at O; exact O⟩
  clear O ok e1 e2 e3 e4 e5 e2' e3' e4' e5' hs0 he0 ok0 M sS sW sE sF sH
  rintro m (sS : Sl) (sW : Sl) (sE : Sl) (sF : Sl) (sH : Sl) (i : Int) h next hnx ⟨him, hi0, hi2, M, ok, hsl, hel, O⟩
  have nn := ok.nrs
  refine jn1 (fun t h' => h' = h ∧ t = decide (i < ops.length ∧ i < 200)) ?_ ?_
  case refine_2 =>
    intro j2 hj2
    refine O.ld 10 rfl (ldL_s (ldL_n ?_))
    rw [Vo.len]
    refine brr_p (fun hlt => ?_) (fun hlt => ?_)
    · exact hj2 _ _ ⟨rfl, by simp [hlt]⟩
    · exact hj2 _ _ ⟨rfl, by simp; intro h; omega⟩
  rintro t h ⟨rfl, rfl⟩
  refine brr_p (fun hg => ?_) (fun hg => hj26 _ _ _ _ _ _ ⟨M, ok, by omega, by omega, O⟩)
  obtain ⟨hlt, hlt2⟩ := hg
  refine jn5 (fun (sS sW sE sF sH : Sl) h' => ∃ M : MM, M.Ok n ∧ M.seen.length ≤ i + 1 ∧ M.eps.length ≤ i + 1 ∧ Sat H h' (buf 1 ptrc sL (M.rs.map (·.1)) :: many repX M.rs :: buf 2 tgc sT M.told :: buf 2 tgc sS M.seen :: buf 1 slc sW (M.ws.map (·.1)) :: many rowR M.ws :: buf 1 u64c sE M.eps :: buf 1 slc sF (M.fs.map (·.1)) :: many rowR M.fs :: buf 2 tgc sH M.wth :: [own x3 [.int .i64 t1, .slice t2.ptr t2.len t2.cap]])) ?_ ?_
  · clear O
    rintro sS sW sE sF sH h ⟨M, ok, hs, he, O⟩
    rw [wrap64 (by omega) (by omega)]
    exact hnx (m - 1) _ _ _ _ _ _ _ (by omega) ⟨by omega, by omega, by omega, M, ok, hs, he, O⟩
  intro j39 hj39
  obtain ⟨o, ho⟩ : ∃ o, ops[i.toNat]? = some o := ⟨_, List.getElem?_eq_getElem (by omega)⟩
  have oo : o.Ok H := by
    obtain ⟨a, cs, _, _, ⟨_, oo⟩, _⟩ := Vo.2 _ _ ho
    exact oo
  have at_ : ∀ {h : Heap}, KeptH H h → ∀ {K : Addr → Prop}, (∀ a, cellsAre h a (ropC o) → K a) → ixS 30 t2 i K := by
    intro h hk K kk
    refine (Vo.kept hk).ix hi0 (by omega) fun a cs o2 ho2 hlen hR hc => ?_
    rw [ho] at ho2; cases ho2
    obtain ⟨rfl, oo⟩ := hR
    exact kk a hc
  refine O.ld 10 rfl (ldL_s (ldL_n ?_))
  refine at_ O.kept fun a41 c41 => ?_
  refine ld_drop c41 1 (ldL_c (ldL_n ?_))
  rw [ewn]
  refine F_law9_into.is (by omega) (by omega) ?_
  have n0 := Int.emod_nonneg o.which (show (n : Int) ≠ 0 by omega)
  have n1 := Int.emod_lt_of_pos o.which (show (0 : Int) < n by omega)
  obtain ⟨k, hk, hkn⟩ : ∃ k : Nat, o.which % (n : Int) = k ∧ k < n := ⟨(o.which % n).toNat, by omega, by omega⟩
  rw [hk]
  refine O.ld 10 rfl (ldL_s (ldL_n ?_))
  refine at_ O.kept fun a46 c46 => ?_
  refine ld_drop c46 0 (ldL_c (ldL_n ?_))
  obtain ⟨⟨p, r⟩, hx⟩ := getOf (i := k) ok.nrs hkn
  have okr : r.Ok := ok.rok _ _ hx
  have q1 : (M.rs.map (·.1))[((k : Nat) : Int).toNat]? = some p := by rw [Int.toNat_natCast, List.getElem?_map, hx]; rfl
  have es : ∀ r2, (M.rs.set k (p, r2)).map (·.1) = M.rs.map (·.1) := fun r2 => map_set_fst hx
  refine brr_eq (fun h2 => ?_) (fun h2 => ?_)
  · refine View.get1 (k := .ptr) (O.view 0 ptrc_len (by simp) rfl).1 (by omega) q1 (fun b => some (pt b 0)) (fun _ => rfl) ?_
    have O := (O.sel [1, 0, 2, 3, 4, 5, 6, 7, 8, 9, 10] 11 rfl (Nat.le_add_left _ _)).take k hx
    have O : Sat H h (repR p r :: hole repX M.rs k :: _) := O
    refine F_replica_Replica_Tick.is okr O fun h O => ?_
    have O := Sat.give (f := repX) (y := (p, tickS r)) O (by omega)
    refine hj39 _ _ _ _ _ _ ⟨_, ok.rep hx (r2 := tickS r) (Int.le_refl _) (tle_refl _) (tickS_ok okr), (show (M.seen.length : Int) ≤ i + 1 by omega), (show (M.eps.length : Int) ≤ i + 1 by omega), ?_⟩
    show Sat H h (buf 1 ptrc sL ((M.rs.set k (p, tickS r)).map (·.1)) :: _)
    rw [es]
    exact O.sel [1, 0, 2, 3, 4, 5, 6, 7, 8, 9, 10] 11 rfl (Nat.le_add_left _ _)
  refine O.ld 10 rfl (ldL_s (ldL_n ?_))
  refine at_ O.kept fun a52 c52 => ?_
  refine ld_drop c52 4 ?_
  unfold ropC
  repeat (first | (with_reducible refine ldL_n ?_) | refine ldL_s ?_ | refine ldL_c ?_)
  refine F_ref0_CopyMsg.is (m := o.m) O (fun h O => oo.mv.kept O.kept) oo.mb fun s1 h O => ?_
  refine O.al fun x98 h O => ?_
  refine O.st 0 rfl (by simp) rfl fun h O => ?_
  dsimp only [V.put, List.set] at O
  have O : Sat H h (own x98 (mgC { o.m with v := s1 }) :: buf 1 u8 s1 o.m.b :: buf 1 ptrc sL (M.rs.map (·.1)) :: many repX M.rs :: buf 2 tgc sT M.told :: buf 2 tgc sS M.seen :: buf 1 slc sW (M.ws.map (·.1)) :: many rowR M.ws :: buf 1 u64c sE M.eps :: buf 1 slc sF (M.fs.map (·.1)) :: many rowR M.fs :: buf 2 tgc sH M.wth :: [own x3 [.int .i64 t1, .slice t2.ptr t2.len t2.cap]]) := O
  have fe := hear_fence r o.m
  have k5 := hear_k5 (r := r) (m := o.m)
  have okr2 := hearS_ok okr oo.mb oo.mspan
  refine jn1 (fun f h' => ∃ x s, f = pt x 0 ∧ Sat H h' (own x (hdC (hearS r o.m).2 s) :: buf 1 ptrc sL ((M.rs.set k (p, (hearS r o.m).1)).map (·.1)) :: many repX (M.rs.set k (p, (hearS r o.m).1)) :: buf 2 tgc sT M.told :: buf 2 tgc sS M.seen :: buf 1 slc sW (M.ws.map (·.1)) :: many rowR M.ws :: buf 1 u64c sE M.eps :: buf 1 slc sF (M.fs.map (·.1)) :: many rowR M.fs :: buf 2 tgc sH M.wth :: [own x3 [.int .i64 t1, .slice t2.ptr t2.len t2.cap]])) ?_ ?_
  case refine_2 =>
    intro j hj
    have fin : ∀ {h : Heap} {x : Nat} {s : Sl} {L : List Res}, Sat H h (own x (hdC (hearS r o.m).2 s) :: buf 1 u8 s (hearS r o.m).2.val :: repR p (hearS r o.m).1 :: hole repX M.rs k :: own x98 (mgC { o.m with v := s1 }) :: buf 1 u8 s1 o.m.b :: buf 1 ptrc sL (M.rs.map (·.1)) :: buf 2 tgc sT M.told :: buf 2 tgc sS M.seen :: buf 1 slc sW (M.ws.map (·.1)) :: many rowR M.ws :: buf 1 u64c sE M.eps :: buf 1 slc sF (M.fs.map (·.1)) :: many rowR M.fs :: buf 2 tgc sH M.wth :: [own x3 [.int .i64 t1, .slice t2.ptr t2.len t2.cap]]) → j (pt x 0) h := by
      intro h x s L O
      have O := Sat.give (f := repX) (y := (p, (hearS r o.m).1)) (O.sel [2, 3, 0, 6, 7, 8, 9, 10, 11, 12, 13, 14, 15] 16 rfl (Nat.le_add_left _ _)) (by omega)
      refine hj _ _ ⟨x, s, rfl, ?_⟩
      rw [es]
      exact O.sel [1, 2, 0, 3, 4, 5, 6, 7, 8, 9, 10, 11] 12 rfl (Nat.le_add_left _ _)
    refine ⟨?_, ?_⟩
    · refine View.getP (O.view 2 ptrc_len (by simp) rfl).1 (by omega) q1 fun a102 ha => ?_
      refine ld_are (ha (O.view 2 ptrc_len (by simp) rfl).1) (ldL_c (k := .ptr) (x := some (pt p 0)) (ldL_n ?_))
      refine O.ld 0 rfl ?_
      repeat (first | (with_reducible refine ldL_n ?_) | refine ldL_s ?_ | refine ldL_c ?_)
      have O := (O.sel [3, 0, 1, 2, 4, 5, 6, 7, 8, 9, 10, 11, 12] 13 rfl (Nat.le_add_left _ _)).take k hx
      have O : Sat H h (repR p r :: hole repX M.rs k :: own x98 (mgC { o.m with v := s1 }) :: buf 1 u8 s1 o.m.b :: buf 1 ptrc sL (M.rs.map (·.1)) :: buf 2 tgc sT M.told :: buf 2 tgc sS M.seen :: buf 1 slc sW (M.ws.map (·.1)) :: many rowR M.ws :: buf 1 u64c sE M.eps :: buf 1 slc sF (M.fs.map (·.1)) :: many rowR M.fs :: buf 2 tgc sH M.wth :: [own x3 [.int .i64 t1, .slice t2.ptr t2.len t2.cap]]) := O
      refine F_replica_Replica_Hear.is (m := { o.m with v := s1 }) okr (fun h O => (O.view 2 u8_len (by simp) rfl).1) oo.mb O fun s h O => ?_
      refine O.al fun x152 h O => ?_
      refine ⟨ha (O.view 6 ptrc_len (by simp) rfl).1, cellsAre_blk (O.blk (i := 4) (by simp) rfl).2 0 22, ?_⟩
      refine O.st 0 rfl (by simp) rfl fun h O => ?_
      dsimp only [V.put, List.set] at O
      exact fin (L := []) O
    · refine View.getP (O.view 2 ptrc_len (by simp) rfl).1 (by omega) q1 fun a102 ha => ?_
      refine ld_are (ha (O.view 2 ptrc_len (by simp) rfl).1) (ldL_c (k := .ptr) (x := some (pt p 0)) (ldL_n ?_))
      refine O.ld 0 rfl ?_
      repeat (first | (with_reducible refine ldL_n ?_) | refine ldL_s ?_ | refine ldL_c ?_)
      refine O.al fun x152 h O => ?_
      refine ⟨ha (O.view 3 ptrc_len (by simp) rfl).1, cellsAre_blk (O.blk (i := 1) (by simp) rfl).2 0 22, ?_⟩
      have O := (O.sel [4, 0, 1, 2, 3, 5, 6, 7, 8, 9, 10, 11, 12, 13] 14 rfl (Nat.le_add_left _ _)).take k hx
      have O : Sat H h (repR p r :: hole repX M.rs k :: own x152 _ :: own x98 (mgC { o.m with v := s1 }) :: buf 1 u8 s1 o.m.b :: buf 1 ptrc sL (M.rs.map (·.1)) :: buf 2 tgc sT M.told :: buf 2 tgc sS M.seen :: buf 1 slc sW (M.ws.map (·.1)) :: many rowR M.ws :: buf 1 u64c sE M.eps :: buf 1 slc sF (M.fs.map (·.1)) :: many rowR M.fs :: buf 2 tgc sH M.wth :: [own x3 [.int .i64 t1, .slice t2.ptr t2.len t2.cap]]) := O
      refine F_replica_Replica_Hear.is (m := { o.m with v := s1 }) okr (fun h O => (O.view 3 u8_len (by simp) rfl).1) oo.mb O fun s h O => ?_
      replace O := O.sel [3, 0, 1, 2, 4, 5, 6, 7, 8, 9, 10, 11, 12, 13, 14, 15] 16 rfl (Nat.le_add_left _ _)
      simp only [selT, List.map, nth, List.drop, List.cons_append, List.nil_append] at O
      refine O.st 0 rfl (by simp) rfl fun h O => ?_
      dsimp only [V.put, List.set] at O
      exact fin (L := []) O
  clear O
  rintro f h ⟨x, s, rfl, O⟩
  generalize (hearS r o.m).1 = r2 at fe okr2 O
  generalize (hearS r o.m).2 = d at fe k5 O
  have ok2 := ok.rep hx fe.prom fe.tag okr2
  have hx2 : (M.rs.set k (p, r2))[k]? = some (p, r2) := List.getElem?_set_self (by omega)
  obtain ⟨tt, htt⟩ := getOf (i := k) ok.nto hkn
  have itt := ok.i1 _ _ _ hx htt
  have O : ∃ M2 : MM, M2.Ok n ∧ M2.rs[k]? = some (p, r2) ∧ M2.told[k]? = some tt ∧ M2.eps = M.eps ∧ M2.fs = M.fs ∧ M2.seen.length ≤ i ∧ M2.eps.length ≤ i ∧ Sat H h (own x (hdC d s) :: buf 1 ptrc sL (M2.rs.map (·.1)) :: many repX M2.rs :: buf 2 tgc sT M2.told :: buf 2 tgc sS M2.seen :: buf 1 slc sW (M2.ws.map (·.1)) :: many rowR M2.ws :: buf 1 u64c sE M2.eps :: buf 1 slc sF (M2.fs.map (·.1)) :: many rowR M2.fs :: buf 2 tgc sH M2.wth :: [own x3 [.int .i64 t1, .slice t2.ptr t2.len t2.cap]]) := ⟨_, ok2, hx2, htt, rfl, rfl, hsl, hel, O⟩
  have pri : ∀ (kk : Nat) f e, M.fs[kk]? = some f → M.eps[kk]? = some e → f.2[k]? = some true → e ≤ r.prom := fun kk f e hf he hc => ok.i3 kk f e k (p, r) hf he hc hx
  obtain ⟨M2, ok2, hx2, htt, eeps, efs, hsl, hel, O⟩ := O
  rw [← eeps, ← efs] at pri
  clear eeps efs q1 es hx nn ok
  refine O.ld 0 rfl (ldL_c (ldL_n ?_))
  refine jn5 (fun (sS sW sE sF sH : Sl) h' => ∃ M : MM, M.Ok n ∧ M.seen.length ≤ i + 1 ∧ M.eps.length ≤ i + 1 ∧ Sat H h' (buf 1 ptrc sL (M.rs.map (·.1)) :: many repX M.rs :: buf 2 tgc sT M.told :: buf 2 tgc sS M.seen :: buf 1 slc sW (M.ws.map (·.1)) :: many rowR M.ws :: buf 1 u64c sE M.eps :: buf 1 slc sF (M.fs.map (·.1)) :: many rowR M.fs :: buf 2 tgc sH M.wth :: [own x3 [.int .i64 t1, .slice t2.ptr t2.len t2.cap]])) (fun sS sW sE sF sH h hC => hj39 _ _ _ _ _ _ hC) ?_
  intro j211 hj211
  refine brr_eq (fun h5 => ?_) (fun h5 => ?_)
  · obtain ⟨a1, a2, a3, a4, a5⟩ := fe.k5 h5
    have hpm := k5 h5
    have tagx : tle (d.te, d.ts) r2.tag := by
      have : r2.tag = (d.te, d.ts) := by show (r2.te, r2.ts) = _; rw [a1, a2, a3, a4]
      rw [this]; exact tle_refl _
    refine View.tg (O.view 3 tgc_len (by simp) rfl).1 (by omega) htt ?_
    refine O.ld 0 rfl (ldL_c (ldL_c (ldL_n ?_)))
    refine F_law9_less.is O fun h O => ?_
    refine jn0 (fun h' => ∃ M : MM, M.Ok n ∧ M.rs[k]? = some (p, r2) ∧ M.seen.length ≤ i ∧ M.eps.length ≤ i ∧ (∀ (kk : Nat) f e, M.fs[kk]? = some f → M.eps[kk]? = some e → f.2[k]? = some true → e ≤ r.prom) ∧ Sat H h' (own x (hdC d s) :: buf 1 ptrc sL (M.rs.map (·.1)) :: many repX M.rs :: buf 2 tgc sT M.told :: buf 2 tgc sS M.seen :: buf 1 slc sW (M.ws.map (·.1)) :: many rowR M.ws :: buf 1 u64c sE M.eps :: buf 1 slc sF (M.fs.map (·.1)) :: many rowR M.fs :: buf 2 tgc sH M.wth :: [own x3 [.int .i64 t1, .slice t2.ptr t2.len t2.cap]])) ?_ ?_
    case refine_2 =>
      intro j hj
      refine brr_p (fun hl => ?_) (fun hl => hj _ ⟨M2, ok2, hx2, hsl, hel, pri, O⟩)
      refine O.ld 0 rfl (ldL_c (ldL_c (ldL_n ?_)))
      have O := O.sel [3, 0, 1, 2, 4, 5, 6, 7, 8, 9, 10, 11] 12 rfl (Nat.le_add_left _ _)
      have ln := ok2.nto
      refine Sat.putN (enc := tgc) O tgc_len tgc_one (by omega) (by omega) (d.te, d.ts) rfl fun h O => ?_
      exact hj _ ⟨_, ok2.tell hx2 tagx, hx2, hsl, hel, pri, O.sel [1, 2, 3, 0, 4, 5, 6, 7, 8, 9, 10, 11] 12 rfl (Nat.le_add_left _ _)⟩
    rintro h ⟨M2, ok2, hx2, hsl, hel, pri, O⟩
    refine O.ld 0 rfl (ldL_c (ldL_c (ldL_n ?_)))
    refine F_law9_index.is (xs := M2.seen) (t := (d.te, d.ts)) (fun h O => (O.view 4 tgc_len (by simp) rfl).1) (by omega) O fun h O => ?_
    have sle := stands_le M2.seen (d.te, d.ts)
    have sat_ := stands_at (l := M2.seen) (x := (d.te, d.ts))
    generalize hst : stands M2.seen (d.te, d.ts) = at0 at sle sat_
    refine jn2 (fun (sS sW : Sl) h' => ∃ M : MM, M.Ok n ∧ M.rs[k]? = some (p, r2) ∧ M.seen.length ≤ i + 1 ∧ M.eps.length ≤ i ∧ (∀ (kk : Nat) f e, M.fs[kk]? = some f → M.eps[kk]? = some e → f.2[k]? = some true → e ≤ r.prom) ∧ M.seen[at0]? = some (d.te, d.ts) ∧ Sat H h' (own x (hdC d s) :: buf 1 ptrc sL (M.rs.map (·.1)) :: many repX M.rs :: buf 2 tgc sT M.told :: buf 2 tgc sS M.seen :: buf 1 slc sW (M.ws.map (·.1)) :: many rowR M.ws :: buf 1 u64c sE M.eps :: buf 1 slc sF (M.fs.map (·.1)) :: many rowR M.fs :: buf 2 tgc sH M.wth :: [own x3 [.int .i64 t1, .slice t2.ptr t2.len t2.cap]])) ?_ ?_
    case refine_2 =>
      intro j hj
      rw [(O.view 4 tgc_len (by simp) rfl).1.len]
      refine brr_eq (fun hq => ?_) (fun hq => hj _ _ _ ⟨M2, ok2, hx2, by omega, hel, pri, sat_ (by omega), O⟩)
      refine O.ld 0 rfl (ldL_c (ldL_c (ldL_n ?_)))
      have O := O.sel [4, 0, 1, 2, 3, 5, 6, 7, 8, 9, 10, 11] 12 rfl (Nat.le_add_left _ _)
      refine Sat.push_buf (enc := tgc) O (d.te, d.ts) rfl tgc_len tgc_one (by simp [Value.cells]) (by omega) fun sS2 h O _ => ?_
      refine O.mk_buf (by omega) (by omega) (by omega) fun b h O => ?_
      rw [mk_bools] at O
      have O := (O.own_buf (k := 0) (sz := 1) rfl).bufsI
      rw [List.length_replicate, Nat.add_zero] at O
      rw [Int.toNat_natCast]
      have O := O.sel [6, 0, 1, 2, 3, 4, 5, 7, 8, 9, 10, 11, 12] 13 rfl (Nat.le_add_left _ _)
      have lw := ok2.nws
      refine Sat.push_buf (enc := slc) O ⟨some (pt b 0), n, n⟩ rfl slc_len slc_one rfl (by rw [List.length_map]; omega) fun sW2 h O _ => ?_
      have O := Sat.more (f := rowR) (y := (⟨some (pt b 0), n, n⟩, List.replicate n false)) (O.sel [1, 7, 3, 4, 5, 6, 2, 0, 8, 9, 10, 11, 12] 13 rfl (Nat.le_add_left _ _))
      refine hj _ _ _ ⟨_, ok2.see (d.te, d.ts) ⟨some (pt b 0), n, n⟩, hx2, by show ((M2.seen ++ [_]).length : Int) ≤ _; rw [List.length_append]; simp; omega, hel, pri, ?_, ?_⟩
      · show (M2.seen ++ [(d.te, d.ts)])[at0]? = _
        rw [List.getElem?_append_right (by omega), show at0 - M2.seen.length = 0 by omega]; rfl
      · show Sat H h (_ :: _ :: _ :: _ :: _ :: buf 1 slc sW2 ((M2.ws ++ [((⟨some (pt b 0), n, n⟩, List.replicate n false) : RW)]).map (·.1)) :: _)
        rw [List.map_append]
        exact O.sel [1, 2, 3, 4, 5, 6, 0, 7, 8, 9, 10, 11] 12 rfl (Nat.le_add_left _ _)
    rintro sS sW h ⟨M2, ok2, hx2, hsl, hel, pri, hT, O⟩
    obtain ⟨w, hw⟩ := getOf (i := at0) ok2.nws (List.getElem?_eq_some_iff.1 hT).1
    have O := O.sel [5, 6, 0, 1, 2, 3, 4, 7, 8, 9, 10, 11] 12 rfl (Nat.le_add_left _ _)
    refine row_set hw (ok2.lw _ _ hw) hkn O fun h O => ?_
    exact hj211 _ _ _ _ _ _ ⟨_, ok2.wrote hw hT hx2 tagx (fun kk f e hf he hc => by have := pri kk f e hf he hc; show e ≤ d.te; omega), hsl, (show (M2.eps.length : Int) ≤ i + 1 by omega), O.sel [3, 4, 5, 6, 0, 1, 7, 8, 9, 10, 11] 12 rfl (Nat.le_add_left _ _)⟩
  refine jn3 (fun (sE sF sH : Sl) h' => ∃ M : MM, M.Ok n ∧ M.seen.length ≤ i + 1 ∧ M.eps.length ≤ i + 1 ∧ Sat H h' (buf 1 ptrc sL (M.rs.map (·.1)) :: many repX M.rs :: buf 2 tgc sT M.told :: buf 2 tgc sS M.seen :: buf 1 slc sW (M.ws.map (·.1)) :: many rowR M.ws :: buf 1 u64c sE M.eps :: buf 1 slc sF (M.fs.map (·.1)) :: many rowR M.fs :: buf 2 tgc sH M.wth :: [own x3 [.int .i64 t1, .slice t2.ptr t2.len t2.cap]])) (fun sE sF sH h hC => hj211 _ _ _ _ _ _ hC) ?_
  intro j249 hj249
  refine brr_eq (fun h2 => ?_) (fun h2 => hj249 _ _ _ _ ⟨M2, ok2, by omega, by omega, O.drop⟩)
  obtain ⟨a1, a2, a3, a4, a5, a6, a7, a8⟩ := fe.k2 h2
  have htag : r2.tag = (d.te, d.ts) := by show (r2.te, r2.ts) = _; rw [a7, a8, a3, a4]
  have htag1 : r.tag = (d.te, d.ts) := by show (r.te, r.ts) = _; rw [a3, a4]
  refine O.ld 0 rfl (ldL_c (ldL_n ?_))
  refine F_law9_place.is (xs := M2.eps) (t := d.epoch) (fun h O => (O.view 7 u64c_len (by simp) rfl).1) (by omega) O fun h O => ?_
  have sle := stands_le M2.eps d.epoch
  have sat_ := stands_at (l := M2.eps) (x := d.epoch)
  generalize hst : stands M2.eps d.epoch = at0 at sle sat_
  refine jn3 (fun (sE sF sH : Sl) h' => ∃ M : MM, M.Ok n ∧ M.rs[k]? = some (p, r2) ∧ M.told[k]? = some tt ∧ M.seen.length ≤ i + 1 ∧ M.eps.length ≤ i + 1 ∧ M.eps[at0]? = some d.epoch ∧ Sat H h' (own x (hdC d s) :: buf 1 ptrc sL (M.rs.map (·.1)) :: many repX M.rs :: buf 2 tgc sT M.told :: buf 2 tgc sS M.seen :: buf 1 slc sW (M.ws.map (·.1)) :: many rowR M.ws :: buf 1 u64c sE M.eps :: buf 1 slc sF (M.fs.map (·.1)) :: many rowR M.fs :: buf 2 tgc sH M.wth :: [own x3 [.int .i64 t1, .slice t2.ptr t2.len t2.cap]])) ?_ ?_
  case refine_2 =>
    intro j hj
    rw [(O.view 7 u64c_len (by simp) rfl).1.len]
    refine brr_eq (fun hq => ?_) (fun hq => hj _ _ _ _ ⟨M2, ok2, hx2, htt, by omega, by omega, sat_ (by omega), O⟩)
    refine O.ld 0 rfl (ldL_c (ldL_n ?_))
    have O := O.sel [7, 0, 1, 2, 3, 4, 5, 6, 8, 9, 10, 11] 12 rfl (Nat.le_add_left _ _)
    refine Sat.push_buf (enc := u64c) O d.epoch rfl u64c_len u64c_one rfl (by omega) fun sE2 h O _ => ?_
    refine O.mk_buf (by omega) (by omega) (by omega) fun b h O => ?_
    rw [mk_bools] at O
    have O := (O.own_buf (k := 0) (sz := 1) rfl).bufsI
    rw [List.length_replicate, Nat.add_zero] at O
    rw [Int.toNat_natCast]
    have O := O.sel [9, 0, 1, 2, 3, 4, 5, 6, 7, 8, 10, 11, 12] 13 rfl (Nat.le_add_left _ _)
    have lf := ok2.nfs
    have hsl2 : (M2.seen.length : Int) ≤ i + 1 := by omega
    have lh := ok2.nwt
    refine Sat.push_buf (enc := slc) O ⟨some (pt b 0), n, n⟩ rfl slc_len slc_one rfl (by rw [List.length_map]; omega) fun sF2 h O _ => ?_
    have O := Sat.more (f := rowR) (y := (⟨some (pt b 0), n, n⟩, List.replicate n false)) (O.sel [1, 10, 11, 2, 3, 4, 5, 6, 7, 8, 9, 0, 12] 13 rfl (Nat.le_add_left _ _))
    -- fs 0, H 1, E 2, x 3, L 4, reps 5, told 6, seen 7, W 8, ws 9, F 10, x3 11
    have O := O.sel [1, 0, 2, 3, 4, 5, 6, 7, 8, 9, 10, 11] 12 rfl (Nat.le_add_left _ _)
    refine Sat.push_buf (enc := tgc) O (0, 0) rfl tgc_len tgc_one (by simp [Value.cells]) (by omega) fun sH2 h O _ => ?_
    refine hj _ _ _ _ ⟨_, ok2.epoch d.epoch ⟨some (pt b 0), n, n⟩ (0, 0), hx2, htt, hsl2, by show ((M2.eps ++ [_]).length : Int) ≤ _; rw [List.length_append]; simp; omega, ?_, ?_⟩
    · show (M2.eps ++ [d.epoch])[at0]? = _
      rw [List.getElem?_append_right (by omega), show at0 - M2.eps.length = 0 by omega]; rfl
    · show Sat H h (_ :: _ :: _ :: _ :: _ :: _ :: _ :: _ :: buf 1 slc sF2 ((M2.fs ++ [((⟨some (pt b 0), n, n⟩, List.replicate n false) : RW)]).map (·.1)) :: _)
      rw [List.map_append]
      exact O.sel [3, 4, 5, 6, 7, 8, 9, 2, 10, 1, 0, 11] 12 rfl (Nat.le_add_left _ _)
  rintro sE sF sH h ⟨M2, ok2, hx2, htt, hsl, hel, hE, O⟩
  obtain ⟨w, hw⟩ := getOf (i := at0) ok2.nfs (List.getElem?_eq_some_iff.1 hE).1
  obtain ⟨u, hu⟩ := getOf (i := at0) ok2.nwt (List.getElem?_eq_some_iff.1 hE).1
  have O := O.sel [8, 9, 0, 1, 2, 3, 4, 5, 6, 7, 10, 11] 12 rfl (Nat.le_add_left _ _)
  refine row_set hw (ok2.lf _ _ hw) hkn O fun h O => ?_
  replace O := O.sel [2, 3, 4, 5, 6, 7, 8, 9, 0, 1, 10, 11] 12 rfl (Nat.le_add_left _ _)
  simp only [selT, List.map, nth, List.drop, List.cons_append, List.nil_append] at O
  refine View.tg (O.view 10 tgc_len (by simp) rfl).1 (by omega) hu ?_
  refine O.ld 0 rfl (ldL_c (ldL_c (ldL_n ?_)))
  refine F_law9_less.is O fun h O => ?_
  have hpe : d.epoch ≤ r2.prom := by omega
  refine jn0 (fun h' => ∃ M : MM, M.Ok n ∧ M.told[k]? = some tt ∧ M.seen.length ≤ i + 1 ∧ M.eps.length ≤ i + 1 ∧ Sat H h' (own x (hdC d s) :: buf 1 ptrc sL (M.rs.map (·.1)) :: many repX M.rs :: buf 2 tgc sT M.told :: buf 2 tgc sS M.seen :: buf 1 slc sW (M.ws.map (·.1)) :: many rowR M.ws :: buf 1 u64c sE M.eps :: buf 1 slc sF (M.fs.map (·.1)) :: many rowR M.fs :: buf 2 tgc sH M.wth :: [own x3 [.int .i64 t1, .slice t2.ptr t2.len t2.cap]])) ?_ ?_
  case refine_2 =>
    intro j hj
    refine brr_p (fun hl => ?_) (fun hl => ?_)
    · refine O.ld 0 rfl (ldL_c (ldL_c (ldL_n ?_)))
      have O := O.sel [10, 0, 1, 2, 3, 4, 5, 6, 7, 8, 9, 11] 12 rfl (Nat.le_add_left _ _)
      have lu := (List.getElem?_eq_some_iff.1 hu).1
      refine Sat.putN (enc := tgc) O tgc_len tgc_one (by omega) (by omega) (d.te, d.ts) rfl fun h O => ?_
      rw [Int.toNat_natCast] at O
      exact hj _ ⟨_, ok2.promised hw hE hu hx2 hpe (tle_of hl) (by rw [htag]; exact tle_refl _), htt, hsl, hel, O.sel [1, 2, 3, 4, 5, 6, 7, 8, 9, 10, 0, 11] 12 rfl (Nat.le_add_left _ _)⟩
    · have ok3 := ok2.promised (u2 := u) hw hE hu hx2 hpe (tle_refl _) (by rw [htag]; exact hl)
      rw [set_same hu] at ok3
      exact hj _ ⟨_, ok3, htt, hsl, hel, O⟩
  rintro h ⟨M2, ok2, htt, hsl, hel, O⟩
  refine O.ld 0 rfl (ldL_c (ldL_c (ldL_n ?_)))
  refine View.tg (O.view 3 tgc_len (by simp) rfl).1 (by omega) htt ?_
  refine F_law9_less.is O fun h O => ?_
  refine brr_ff (decide_eq_false ?_) ?_
  · have itt : tle tt r.tag := itt
    rw [htag1] at itt
    exact itt
  · exact hj249 _ _ _ _ ⟨M2, ok2, hsl, hel, O.drop⟩
end Go.Proofs.Ytcbelendjpnmiaa.V
