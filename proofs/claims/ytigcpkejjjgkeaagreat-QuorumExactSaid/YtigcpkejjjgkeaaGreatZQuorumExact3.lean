import Derived.Test.YtigcpkejjjgkeaaGreatZQuorumExact2
import Derived.Test.YtigcpkejjjgkeaaGreatProg
/- The document's quorum: writes, Stop, New, Start, Propose, Tick. -/
namespace Go.Proofs.YtigcpkejjjgkeaaGreat.V
open Go Go.RowKit
set_option linter.unusedVariables false
set_option linter.unusedSimpArgs false

section
variable {h0 h : Heap} {L : List Res} {r : Nat} {q : QS} {m : Mg} {a : RA}
theorem to_prepares : ((q.cop.filter fun c => !decide (c ∈ [q.node])).map fun c => toMg q 1 0 c) = q.prepares := by
  have e : (fun c : Int => !decide (c ∈ [q.node])) = fun c => !(c == q.node) := by
    funext c
    by_cases h : c = q.node <;> simp [h]
  rw [e]
  rfl
theorem to_kind1 {span : Int} : (fun c => toMg q 1 span c) = fun c => toMg q 1 0 c := rfl
theorem to_writes {span : Int} (hp : q.phase ≠ 1) : ((q.cop.filter fun c => !decide (c ∈ q.wr)).map fun c => toMg q 4 span c) = q.writes span := by
  have e : refVal q = q.val := if_neg hp
  unfold QS.writes QS.send toMg
  rw [e]
  rfl
theorem to_beats {span : Int} : ((q.cop.filter fun c => !decide (c ∈ q.bt)).map fun c => toMg q 6 span c) = q.beats span := rfl
theorem F_ref10_Quorum_writes.is {seq span : Int} {v : Sl} {b : List UInt8} {Q : Sl → Heap → Prop} (hc : q.cop.length ≤ 1000000) (hb : b.length ≤ (140737488355325 : Nat)) (Vv : Stays h0 L fun h => Bytes h v b) (O : Sat h0 h (own r [.int .i64 q.node, .int .i64 q.shard, .slice a.sc.ptr a.sc.len a.sc.cap, .int .i64 q.phase, .int .u64 q.epoch, .slice a.sp.ptr a.sp.len a.sp.cap, .int .u64 q.tag.1, .int .u64 q.tag.2, .slice a.sv.ptr a.sv.len a.sv.cap, .slice a.sw.ptr a.sw.len a.sw.cap, .slice a.sr.ptr a.sr.len a.sr.cap, .bool a.any, .int .u64 q.chosen.1, .int .u64 q.chosen.2, .slice a.sh.ptr a.sh.len a.sh.cap, .int .u64 q.begun, .int .u64 q.done, .slice a.sb.ptr a.sb.len a.sb.cap, .int .u64 q.seen] :: buf 1 i64c a.sc q.cop :: L))
    (k : ∀ s sv h', Sat h0 h' (msgsR s ((({ q with val := b } : QS).wrt seq).writes span) :: own r (rcL (({ q with val := b } : QS).wrt seq) { a with sv := sv, sw := ⟨none, 0, 0⟩ }) :: buf 1 u8 sv b :: buf 1 i64c a.sc q.cop :: L) → Q s h') : F_ref10_Quorum_writes (some (pt r 0)) seq v span h Q := by
  rw [F_ref10_Quorum_writes.eq_1, F_ref10_Quorum_writes_of.eq_1]
  refine ⟨_, rfl, ?_⟩
  refine st_ad (b := r) (o := 3) rfl ?_
  refine O.st 0 rfl (by simp) rfl fun h O => ?_
  dsimp only [V.put, List.set] at O
  refine ⟨_, rfl, ?_⟩
  refine O.ld 0 rfl (ldL_c (ldL_n ?_))
  refine ⟨_, rfl, ?_⟩
  refine st_ad (b := r) (o := 6) rfl ?_
  refine O.st 0 rfl (by simp) rfl fun h O => ?_
  dsimp only [V.put, List.set] at O
  refine F_ref0_Copy.is O (Vv h O.drop.drop) (by omega) fun sv h O _ _ => ?_
  refine ⟨_, rfl, ?_⟩
  refine st_ad (b := r) (o := 8) rfl ?_
  refine O.st 1 rfl (by simp) rfl fun h O => ?_
  dsimp only [V.put, List.set] at O
  refine ⟨_, rfl, ?_⟩
  refine st_ad (b := r) (o := 9) rfl ?_
  refine O.st 1 rfl (by simp) rfl fun h O => ?_
  dsimp only [V.put, List.set] at O
  refine ⟨_, rfl, ?_⟩
  refine O.ld 1 rfl (ldL_c (k := .sl) (x := a.sc) (ldL_n ?_))
  have O2 : Sat h0 h (own r (rcL (({ q with val := b } : QS).wrt seq) { a with sv := sv, sw := ⟨none, 0, 0⟩ }) :: buf 1 u8 sv b :: buf 1 i64c a.sc q.cop :: L) := O.swap
  have ev : refVal (({ q with val := b } : QS).wrt seq) = b := if_neg (by show ¬ (2 : Int) = 1; decide)
  refine F_ref10_Quorum_to.is (q := ({ q with val := b } : QS).wrt seq) (a := ({ a with sv := sv, sw := ⟨none, 0, 0⟩ } : RA)) (.inr (.inl rfl)) hc (by rw [ev]; exact hb) O2 (fun h O => (O.view 1 i64c_len (by simp) rfl).1) (fun h O => by rw [ev]; exact (O.view 0 u8_len (by simp) rfl).1) fun s h O => k s sv h ?_
  rw [← to_writes (by show ¬ (2 : Int) = 1; decide)]
  have e : (List.filter (fun c => !decide (c ∈ (({ q with val := b } : QS).wrt seq).wr)) (({ q with val := b } : QS).wrt seq).cop) = q.cop := by
    show List.filter (fun c => !decide (c ∈ ([] : List Int))) q.cop = _
    simp
  rw [e]
  exact O
theorem ask_ref10 {kind span : Int} {l : Sl} {xs : List Int} {Q : Sl → Heap → Prop} (hk : kind = 1 ∨ kind = 4 ∨ kind = 6) (hc : q.cop.length ≤ 1000000) (hx : xs.length ≤ 1000000) (hv : (refVal q).length ≤ (140737488355325 : Nat)) (O : Sat h0 h (own r [.int .i64 q.node, .int .i64 q.shard, .slice a.sc.ptr a.sc.len a.sc.cap, .int .i64 q.phase, .int .u64 q.epoch, .slice a.sp.ptr a.sp.len a.sp.cap, .int .u64 q.tag.1, .int .u64 q.tag.2, .slice a.sv.ptr a.sv.len a.sv.cap, .slice a.sw.ptr a.sw.len a.sw.cap, .slice a.sr.ptr a.sr.len a.sr.cap, .bool a.any, .int .u64 q.chosen.1, .int .u64 q.chosen.2, .slice a.sh.ptr a.sh.len a.sh.cap, .int .u64 q.begun, .int .u64 q.done, .slice a.sb.ptr a.sb.len a.sb.cap, .int .u64 q.seen] :: buf 1 i64c a.sc q.cop :: L)) (Vl : Stays h0 L fun h => View h 1 (En i64c) l xs) (VV : Stays h0 L fun h => Bytes h a.sv (refVal q))
    (k : ∀ s h', Sat h0 h' (msgsR s ((q.cop.filter fun c => !decide (c ∈ xs)).map fun c => toMg q kind span c) :: own r [.int .i64 q.node, .int .i64 q.shard, .slice a.sc.ptr a.sc.len a.sc.cap, .int .i64 q.phase, .int .u64 q.epoch, .slice a.sp.ptr a.sp.len a.sp.cap, .int .u64 q.tag.1, .int .u64 q.tag.2, .slice a.sv.ptr a.sv.len a.sv.cap, .slice a.sw.ptr a.sw.len a.sw.cap, .slice a.sr.ptr a.sr.len a.sr.cap, .bool a.any, .int .u64 q.chosen.1, .int .u64 q.chosen.2, .slice a.sh.ptr a.sh.len a.sh.cap, .int .u64 q.begun, .int .u64 q.done, .slice a.sb.ptr a.sb.len a.sb.cap, .int .u64 q.seen] :: buf 1 i64c a.sc q.cop :: L) → Q s h') : F_ref10_Quorum_without (some (pt r 0)) l h fun s1 h => F_ref10_Quorum_to (some (pt r 0)) kind s1 span h Q := by
  refine F_ref10_Quorum_without.is hc hx O Vl fun s1 h O => ?_
  have hl : (q.cop.filter fun c => !decide (c ∈ xs)).length ≤ 1000000 := Nat.le_trans (List.length_filter_le _ _) hc
  refine F_ref10_Quorum_to.is hk hl hv O.swap (fun h O => (O.view 0 i64c_len (by simp) rfl).1) (fun h O => VV h O.drop.drop) fun s h O => k s h ?_
  exact O.sel [0, 1, 3] 4 rfl (Nat.le_add_left _ _)
theorem pend_wrt {ps : List PM} {seq : Int} {b : List UInt8} (e : pend q ps) : pend (({ q with val := b } : QS).wrt seq) ps := ⟨e.1, fun h => absurd h (by show ¬ (2 : Int) = 1; decide)⟩
theorem F_ref10_Quorum_Stop.is {Q : Heap → Prop} (O : Sat h0 h (own r [.int .i64 q.node, .int .i64 q.shard, .slice a.sc.ptr a.sc.len a.sc.cap, .int .i64 q.phase, .int .u64 q.epoch, .slice a.sp.ptr a.sp.len a.sp.cap, .int .u64 q.tag.1, .int .u64 q.tag.2, .slice a.sv.ptr a.sv.len a.sv.cap, .slice a.sw.ptr a.sw.len a.sw.cap, .slice a.sr.ptr a.sr.len a.sr.cap, .bool a.any, .int .u64 q.chosen.1, .int .u64 q.chosen.2, .slice a.sh.ptr a.sh.len a.sh.cap, .int .u64 q.begun, .int .u64 q.done, .slice a.sb.ptr a.sb.len a.sb.cap, .int .u64 q.seen] :: buf 1 i64c a.sc q.cop :: L)) (k : ∀ h', Sat h0 h' (rfR r q.stop :: L) → Q h') : F_ref10_Quorum_Stop (some (pt r 0)) h Q := by
  rw [F_ref10_Quorum_Stop.eq_1, F_ref10_Quorum_Stop_of.eq_1]
  refine ⟨_, rfl, ?_⟩
  refine O.ld 0 rfl (ldL_c (ldL_n ?_))
  refine ⟨_, rfl, ?_⟩
  refine O.ld 0 rfl (ldL_c (k := .sl) (x := a.sc) (ldL_n ?_))
  refine ⟨_, rfl, ?_⟩
  refine O.ld 0 rfl (ldL_c (ldL_n ?_))
  refine ⟨_, rfl, ?_⟩
  refine O.ld 0 rfl (ldL_c (ldL_n ?_))
  refine ⟨_, rfl, ?_⟩
  refine O.st 0 rfl (by simp) rfl fun h O => ?_
  dsimp only [V.put, List.set] at O
  have O := ((((pool_nils O).nil_buf (sz := 1) (enc := i64c)).nil_buf (sz := 1) (enc := i64c)).nil_buf (sz := 1) (enc := i64c)).nil_buf (sz := 4) (enc := pmC)
  exact k _ (Sat.rfI q.stop ⟨a.sc, ⟨none, 0, 0⟩, ⟨none, 0, 0⟩, ⟨none, 0, 0⟩, ⟨none, 0, 0⟩, ⟨none, 0, 0⟩, ⟨none, 0, 0⟩, [], false⟩ ⟨rfl, fun h => absurd h (by show ¬ (0 : Int) = 1; decide)⟩ (O.sel [5, 6, 0, 1, 2, 3, 4] 7 rfl (Nat.le_add_left _ _)))
theorem F_ref10_New.is {node shard : Int} {s : Sl} {cop : List Int} {Q : Option Addr → Heap → Prop} (V1 : Stays h0 L fun h => View h 1 (En i64c) s cop) (hl : cop.length ≤ 1000000) (O : Sat h0 h L) (k : ∀ r h', Sat h0 h' (rfR r (QS.fresh node shard cop) :: L) → Q (some (pt r 0)) h') : F_ref10_New node shard s h Q := by
  rw [F_ref10_New.eq_1, F_ref10_New_of.eq_1]
  refine O.al fun r h O => ?_
  refine jn0 (fun h' => Sat h0 h' (rfR r (QS.fresh node shard cop) :: L)) (fun h O => k r h O) fun j hj => ?_
  rw [F_ref10_New.l1.eq_1]
  refine wl1 (k := .int .i64) (fun (m : Nat) (i : Int) (h' : Heap) => i + m = cop.length ∧ 0 ≤ i ∧ ∃ sc : Sl, Sat h0 h' (own r [.int .i64 node, .int .i64 shard, .slice sc.ptr sc.len sc.cap, .int .i64 0, .int .u64 0, .slice none 0 0, .int .u64 0, .int .u64 0, .slice none 0 0, .slice none 0 0, .slice none 0 0, .bool false, .int .u64 0, .int .u64 0, .slice none 0 0, .int .u64 0, .int .u64 0, .slice none 0 0, .int .u64 0] :: buf 1 i64c sc (cop.take i.toNat) :: L)) ?_ (m := cop.length) ⟨by omega, by omega, ⟨none, 0, 0⟩, O.nil_buf.swap⟩
  clear O
  rintro m (i : Int) h next hnx ⟨him, hi0, sc, O⟩
  have Vc := V1 h O.drop.drop
  rw [Vc.len]
  refine brr_p (fun hlt => ?_) (fun hlt => hj _ ?_)
  case refine_2 =>
    rw [List.take_of_length_le (by omega)] at O
    have O := ((((pool_nils O).nil_buf (sz := 1) (enc := i64c)).nil_buf (sz := 1) (enc := i64c)).nil_buf (sz := 1) (enc := i64c)).nil_buf (sz := 4) (enc := pmC)
    exact Sat.rfI (QS.fresh node shard cop) ⟨sc, ⟨none, 0, 0⟩, ⟨none, 0, 0⟩, ⟨none, 0, 0⟩, ⟨none, 0, 0⟩, ⟨none, 0, 0⟩, ⟨none, 0, 0⟩, [], false⟩ ⟨rfl, fun h => absurd h (by show ¬ (0 : Int) = 1; decide)⟩ (O.sel [5, 6, 0, 1, 2, 3, 4] 7 rfl (Nat.le_add_left _ _))
  obtain ⟨c, hcx⟩ : ∃ c, cop[i.toNat]? = some c := ⟨_, List.getElem?_eq_getElem (by omega)⟩
  refine ⟨_, rfl, ?_⟩
  refine O.ld 0 rfl (ldL_c (k := .sl) (x := sc) (ldL_n ?_))
  refine Vc.i6 hi0 hcx ?_
  refine O.al fun a14 h O => ?_
  refine O.ca 1 1 rfl ?_
  have O2 : Sat h0 h (buf 1 i64c sc (cop.take i.toNat) :: own a14 [.int .i64 c] :: own r [.int .i64 node, .int .i64 shard, .slice sc.ptr sc.len sc.cap, .int .i64 0, .int .u64 0, .slice none 0 0, .int .u64 0, .int .u64 0, .slice none 0 0, .slice none 0 0, .slice none 0 0, .bool false, .int .u64 0, .int .u64 0, .slice none 0 0, .int .u64 0, .int .u64 0, .slice none 0 0, .int .u64 0] :: L) := O.sel [2, 0, 1] 3 rfl (Nat.le_add_left _ _)
  refine Sat.app_buf (enc := i64c) O2 i64c_len i64c_one rfl (ys := [c]) rfl (rdP_own O2 1 rfl 1 (Nat.le_refl _)) (by simp only [List.length_take, List.length_cons, List.length_nil]; omega) fun s2 h O _ => ?_
  refine ⟨_, rfl, ?_⟩
  refine st_ad (b := r) (o := 2) rfl ?_
  refine O.st 2 rfl (by simp) rfl fun h O => ?_
  dsimp only [V.put, List.set] at O
  rw [wrap64 (by omega) (by omega)]
  refine hnx (m - 1) _ _ (by omega) ⟨by omega, by omega, s2, ?_⟩
  rw [show (i + 1).toNat = i.toNat + 1 by omega, List.take_add_one, hcx]
  exact O.sel [2, 0] 3 rfl (Nat.le_add_left _ _)
theorem pm_buf {b : Nat} {x : PM} (O : Sat h0 h (own b (pmC x) :: L)) : Sat h0 h (buf 4 pmC ⟨some (pt b 0), 1, 1⟩ [x] :: L) := by
  have O : Sat h0 h (own b ([x].flatMap pmC ++ []) :: L) := by
    rw [List.append_nil, List.flatMap_cons, List.flatMap_nil, List.append_nil]; exact O
  exact (O.own_buf (k := 0) (sz := 4) rfl).bufsI
theorem F_ref10_Quorum_Start.is {e e0 te ts span : Int} {v : Sl} {b : List UInt8} {Q : Sl → Heap → Prop} (ok : q.Ok) (hb : b.length ≤ (140737488355325 : Nat)) (Vv : Stays h0 L fun h => Bytes h v b) (O : Sat h0 h (rfR r q :: L)) (k : ∀ s h', Sat h0 h' (msgsR s (q.start e te ts b span).2 :: rfR r (q.start e te ts b span).1 :: L) → Q s h') : F_ref10_Quorum_Start (some (pt r 0)) e e0 te ts v span h Q := by
  rw [F_ref10_Quorum_Start.eq_1, F_ref10_Quorum_Start_of.eq_1]
  refine O.al fun a8 h O => ?_
  obtain ⟨a, _, O⟩ := O.swap.rf
  have O : Sat h0 h (own r [.int .i64 q.node, .int .i64 q.shard, .slice a.sc.ptr a.sc.len a.sc.cap, .int .i64 q.phase, .int .u64 q.epoch, .slice a.sp.ptr a.sp.len a.sp.cap, .int .u64 q.tag.1, .int .u64 q.tag.2, .slice a.sv.ptr a.sv.len a.sv.cap, .slice a.sw.ptr a.sw.len a.sw.cap, .slice a.sr.ptr a.sr.len a.sr.cap, .bool a.any, .int .u64 q.chosen.1, .int .u64 q.chosen.2, .slice a.sh.ptr a.sh.len a.sh.cap, .int .u64 q.begun, .int .u64 q.done, .slice a.sb.ptr a.sb.len a.sb.cap, .int .u64 q.seen] :: buf 1 i64c a.sc q.cop :: buf 4 pmC a.sp a.ps :: buf 1 i64c a.sw q.wr :: buf 1 i64c a.sr q.rf :: buf 1 i64c a.sb q.bt :: poolR (refP q a) :: own a8 [.int .u64 e0, .int .u64 te, .int .u64 ts, .slice v.ptr v.len v.cap] :: L) := O
  refine F_ref10_Quorum_Stop.is (O.sel [0, 1, 7] 8 rfl (Nat.le_add_left _ _)) fun h O => ?_
  obtain ⟨a, _, O⟩ := O.rf
  have O : Sat h0 h (own r [.int .i64 q.stop.node, .int .i64 q.stop.shard, .slice a.sc.ptr a.sc.len a.sc.cap, .int .i64 q.stop.phase, .int .u64 q.stop.epoch, .slice a.sp.ptr a.sp.len a.sp.cap, .int .u64 q.stop.tag.1, .int .u64 q.stop.tag.2, .slice a.sv.ptr a.sv.len a.sv.cap, .slice a.sw.ptr a.sw.len a.sw.cap, .slice a.sr.ptr a.sr.len a.sr.cap, .bool a.any, .int .u64 q.stop.chosen.1, .int .u64 q.stop.chosen.2, .slice a.sh.ptr a.sh.len a.sh.cap, .int .u64 q.stop.begun, .int .u64 q.stop.done, .slice a.sb.ptr a.sb.len a.sb.cap, .int .u64 q.stop.seen] :: buf 1 i64c a.sc q.cop :: own a8 [.int .u64 e0, .int .u64 te, .int .u64 ts, .slice v.ptr v.len v.cap] :: buf 1 i64c a.sw [] :: buf 1 i64c a.sr [] :: buf 1 i64c a.sb [] :: poolR (refP q.stop a) :: L) := O.sel [0, 1, 7, 3, 4, 5, 6] 8 rfl (Nat.le_add_left _ _)
  have hq0 : q.stop.val = [] := rfl
  refine ⟨_, rfl, ?_⟩
  refine st_ad (b := r) (o := 3) rfl ?_
  refine O.st 0 rfl (by simp) rfl fun h O => ?_
  dsimp only [V.put, List.set] at O
  refine ⟨_, rfl, ?_⟩
  refine st_ad (b := r) (o := 4) rfl ?_
  refine O.st 0 rfl (by simp) rfl fun h O => ?_
  dsimp only [V.put, List.set] at O
  refine ⟨_, rfl, ?_⟩
  refine O.ld 0 rfl (ldL_c (ldL_n ?_))
  refine O.ld 2 rfl (ldL_c (ldL_c (ldL_n ?_)))
  refine O.ld 2 rfl (ldL_c (k := .sl) (x := v) (ldL_n ?_))
  refine F_ref0_Copy.is O (Vv h (O.sel [] 7 rfl (Nat.le_add_left _ _))) (by omega) fun sv h O _ _ => ?_
  refine O.ca 1 1 rfl ?_
  refine O.ca 3 2 rfl ?_
  refine O.al fun a22 h O => ?_
  refine ⟨_, rfl, ?_⟩
  refine st_ad (b := r) (o := 5) rfl ?_
  refine O.st 2 rfl (by simp) rfl fun h O => ?_
  dsimp only [V.put, List.set] at O
  have O := pm_buf (x := ⟨q.node, te, ts, sv, b⟩) O
  have eps : pend (q.start0 e te ts b) [⟨q.node, te, ts, sv, b⟩] := ⟨rfl, fun _ => ⟨_, [], rfl, rfl, rfl, rfl⟩⟩
  obtain ⟨A, hA⟩ : ∃ A : RA, A = { a with sp := ⟨some (pt a22 0), 1, 1⟩, ps := [⟨q.node, te, ts, sv, b⟩] } := ⟨_, rfl⟩
  have A1 : A.sc = a.sc := by rw [hA]
  have A2 : A.sp = ⟨some (pt a22 0), 1, 1⟩ := by rw [hA]
  have A3 : A.ps = [⟨q.node, te, ts, sv, b⟩] := by rw [hA]
  have A4 : A.sw = a.sw ∧ A.sr = a.sr ∧ A.sb = a.sb ∧ A.sh = a.sh ∧ A.sv = a.sv := by rw [hA]; exact ⟨rfl, rfl, rfl, rfl, rfl⟩
  have O : Sat h0 h (own r (rcL (q.start0 e te ts b) A) :: buf 1 i64c A.sc q.cop :: buf 4 pmC A.sp A.ps :: buf 1 u8 sv b :: buf 1 i64c A.sw [] :: buf 1 i64c A.sr [] :: buf 1 i64c A.sb [] :: poolR (refP q.stop a) :: L) := by
    subst hA
    exact O.sel [2, 3, 0, 1, 5, 6, 7, 8] 9 rfl (Nat.le_add_left _ _)
  have ok0 := ok.start0 (e := e) (te := te) (ts := ts) hb
  have r0 : refVal (q.start0 e te ts b) = [] := if_pos rfl
  have r1 : refVal q.stop = [] := rfl
  clear Vv
  refine F_ref10_Quorum_many.is (q := q.start0 e te ts b) (by decide) (by decide) rfl ok.c O ?_
  unfold QS.start at k
  refine brr_of (fun hm => ?_) (fun hm => ?_)
  · rw [if_pos hm] at k
    refine F_ref10_Quorum_best.is (q := q.start0 e te ts b) (a := A) (x := ⟨q.node, te, ts, sv, b⟩) (xs := []) A3 (by decide) (O.sel [0, 2, 1, 3, 4, 5, 6, 7] 8 rfl (Nat.le_add_left _ _)) fun h O => ?_
    refine F_ref10_Quorum_writes.is (q := q.start0 e te ts b) (a := A) ok.c hb (fun h O => (O.view 1 u8_len (by simp) rfl).1) (O.sel [0, 2, 1, 3, 4, 5, 6, 7] 8 rfl (Nat.le_add_left _ _)) fun s sv2 h O => ?_
    have O : Sat h0 h (msgsR s (((q.start0 e te ts b).wrt 1).writes span) :: own r (rcL ((q.start0 e te ts b).wrt 1) { A with sv := sv2, sw := ⟨none, 0, 0⟩ }) :: buf 1 u8 sv2 b :: buf 1 i64c A.sc q.cop :: buf 4 pmC A.sp A.ps :: buf 1 u8 sv b :: buf 1 i64c A.sw [] :: buf 1 i64c A.sr [] :: buf 1 i64c A.sb [] :: poolR (refP q.stop a) :: L) := O
    have O2 := pool_take (O.sel [5, 9, 2, 0, 1, 3, 4, 7, 8] 10 rfl (Nat.le_add_left _ _))
    have O2 := pool_take O2.swap
    have O2 := pool_sub O2 (fs := refP ((q.start0 e te ts b).wrt 1) { A with sv := sv2, sw := ⟨none, 0, 0⟩ }) (by
      intro x hx
      have e1 : refVal ((q.start0 e te ts b).wrt 1) = b := if_neg (by show ¬ (2 : Int) = 1; decide)
      simp only [refP, e1, A3, A4, List.map_cons, List.map_nil, List.mem_cons, List.not_mem_nil, or_false] at hx
      rcases hx with rfl | rfl | rfl
      · simp
      · have e9 : ((q.start0 e te ts b).wrt 1).what = q.stop.what := rfl
        rw [e9]; simp [refP]
      · simp)
    have O3 := (O2.nil_buf (sz := 1) (enc := i64c))
    have O3 : Sat h0 h (own r (rcL ((q.start0 e te ts b).wrt 1) { A with sv := sv2, sw := ⟨none, 0, 0⟩ }) :: buf 1 i64c A.sc q.cop :: buf 4 pmC A.sp A.ps :: buf 1 i64c ⟨none, 0, 0⟩ [] :: buf 1 i64c A.sr [] :: buf 1 i64c A.sb [] :: poolR (refP ((q.start0 e te ts b).wrt 1) { A with sv := sv2, sw := ⟨none, 0, 0⟩ }) :: msgsR s (((q.start0 e te ts b).wrt 1).writes span) :: L) := O3.sel [3, 4, 5, 0, 6, 7, 1, 2] 8 rfl (Nat.le_add_left _ _)
    exact k _ _ (Sat.rfI ((q.start0 e te ts b).wrt 1) { A with sv := sv2, sw := ⟨none, 0, 0⟩ } (by show pend _ A.ps; rw [A3]; exact pend_wrt (b := b) eps) O3).swap
  · rw [if_neg (by simp [hm])] at k
    refine ⟨_, rfl, ?_⟩
    refine O.ld 0 rfl (ldL_c (ldL_n ?_))
    refine O.al fun a34 h O => ?_
    have O := int_buf O
    refine ask_ref10 (q := q.start0 e te ts b) (a := A) (xs := [q.node]) (.inl rfl) ok.c (by simp) (by rw [r0]; simp) (O.sel [1, 2, 0, 3, 4, 5, 6, 7, 8] 9 rfl (Nat.le_add_left _ _)) (fun h O => (O.view 0 i64c_len (by simp) rfl).1) (fun h O => ?_) fun s h O => k s h ?_
    · rw [r0, A4.2.2.2.2]
      exact pool_view O 6 (by simp) rfl (e := (a.sv, [])) (by simp [refP, r1])
    · rw [to_kind1, show ((q.start0 e te ts b).cop.filter fun c => !decide (c ∈ [q.node])).map (fun c => toMg (q.start0 e te ts b) 1 0 c) = (q.start0 e te ts b).prepares from to_prepares] at O
      have O : Sat h0 h (msgsR s (q.start0 e te ts b).prepares :: own r (rcL (q.start0 e te ts b) A) :: buf 1 i64c A.sc q.cop :: buf 1 i64c ⟨some (pt a34 0), 1, 1⟩ [q.node] :: buf 4 pmC A.sp A.ps :: buf 1 u8 sv b :: buf 1 i64c A.sw [] :: buf 1 i64c A.sr [] :: buf 1 i64c A.sb [] :: poolR (refP q.stop a) :: L) := O
      have O2 := pool_take (O.sel [5, 9, 0, 1, 2, 4, 6, 7, 8] 10 rfl (Nat.le_add_left _ _))
      have O2 := pool_sub O2 (fs := refP (q.start0 e te ts b) A) (by
        intro x hx
        simp only [refP, r0, A3, A4, List.map_cons, List.map_nil, List.mem_cons, List.not_mem_nil, or_false] at hx
        rcases hx with rfl | rfl | rfl
        · simp [refP, r1]
        · have e9 : (q.start0 e te ts b).what = q.stop.what := rfl
          rw [e9]; simp [refP]
        · simp)
      exact (Sat.rfI (q.start0 e te ts b) A (by rw [A3]; exact eps) (O2.sel [2, 3, 4, 5, 6, 7, 0, 1] 8 rfl (Nat.le_add_left _ _))).swap
end
end Go.Proofs.YtigcpkejjjgkeaaGreat.V
/- The document's quorum: Propose, Tick, promised, refused. -/
namespace Go.Proofs.YtigcpkejjjgkeaaGreat.V
open Go Go.RowKit
set_option linter.unusedVariables false
set_option linter.unusedSimpArgs false

theorem putK_inQ {S : List Int} {c : Int} (h : c ∈ S) : putK S c = S := if_pos h
section
variable {h0 h : Heap} {L : List Res} {r : Nat} {q : QS} {m : Mg} {a : RA}
theorem refVal_len (ok : q.Ok) : (refVal q).length ≤ (140737488355325 : Nat) := by
  unfold refVal
  split
  · simp
  · exact ok.v
theorem F_ref10_Quorum_Propose.is {span : Int} {v : Sl} {b : List UInt8} {Q : Sl → Bool → Heap → Prop} (iv : q.Inv) (hb : b.length ≤ (140737488355325 : Nat)) (Vv : Stays h0 L fun h => Bytes h v b) (O : Sat h0 h (rfR r q :: L)) (k : ∀ s h', Sat h0 h' (msgsR s (q.propose b span).2.1 :: rfR r (q.propose b span).1 :: L) → Q s (q.propose b span).2.2 h') : F_ref10_Quorum_Propose (some (pt r 0)) v span h Q := by
  rw [F_ref10_Quorum_Propose.eq_1, F_ref10_Quorum_Propose_of.eq_1]
  obtain ⟨a, ep, O⟩ := O.rf
  have ht := iv.ok.t
  refine jn1 (fun z h' => h = h' ∧ z = decide (q.phase ≠ 3 ∨ (1099511627776 : Int) ≤ q.tag.2)) ?_ ?_
  case refine_2 =>
    intro j hj
    refine ⟨_, rfl, ?_⟩
    refine O.ld 0 rfl (ldL_c (ldL_n ?_))
    refine brr_ne (fun h3 => hj _ _ ⟨rfl, by simp [h3]⟩) (fun h3 => ?_)
    refine ⟨_, rfl, ?_⟩
    refine O.ld 0 rfl (ldL_c (ldL_n ?_))
    refine hj _ _ ⟨rfl, ?_⟩
    rw [iv.p3 h3]
    simp [h3]
  rintro z h' ⟨rfl, rfl⟩
  unfold QS.propose at k
  refine brr_p (fun hc => ?_) (fun hc => ?_)
  · rw [if_pos hc] at k
    exact k _ _ (msgs_none (Sat.rfI q a ep O))
  rw [if_neg hc] at k
  have h3 : q.phase = 3 := Decidable.byContradiction fun h => hc (.inl h)
  have hm : ¬ (1099511627776 : Int) ≤ q.tag.2 := fun h => hc (.inr h)
  refine ⟨_, rfl, ?_⟩
  refine O.ld 0 rfl (ldL_c (ldL_n ?_))
  rw [iv.p3 h3, wrapu64 (by omega) (by omega)]
  refine F_ref10_Quorum_writes.is iv.ok.c hb (fun h O => Vv h (O.sel [] 5 rfl (Nat.le_add_left _ _))) O fun s sv h O => k s h ?_
  have O : Sat h0 h (msgsR s ((({ q with val := b } : QS).wrt (q.tag.2 + 1)).writes span) :: own r (rcL (({ q with val := b } : QS).wrt (q.tag.2 + 1)) { a with sv := sv, sw := ⟨none, 0, 0⟩ }) :: buf 1 u8 sv b :: buf 1 i64c a.sc q.cop :: buf 4 pmC a.sp a.ps :: buf 1 i64c a.sw q.wr :: buf 1 i64c a.sr q.rf :: buf 1 i64c a.sb q.bt :: poolR (refP q a) :: L) := O
  have O2 := pool_take (O.sel [2, 8, 0, 1, 3, 4, 6, 7] 9 rfl (Nat.le_add_left _ _))
  have ev : refVal (({ q with val := b } : QS).wrt (q.tag.2 + 1)) = b := if_neg (by show ¬ (2 : Int) = 1; decide)
  have O2 := pool_sub O2 (fs := refP (({ q with val := b } : QS).wrt (q.tag.2 + 1)) { a with sv := sv, sw := ⟨none, 0, 0⟩ }) (by
    intro x hx
    unfold refP at hx ⊢
    rw [ev] at hx
    simp only [List.mem_cons] at hx
    simp only [List.mem_append, List.mem_cons]
    rcases hx with rfl | rfl | hx
    · simp
    · left; right; left; rfl
    · left; right; right; exact hx)
  have O3 := O2.nil_buf (sz := 1) (enc := i64c)
  exact (Sat.rfI (({ q with val := b } : QS).wrt (q.tag.2 + 1)) { a with sv := sv, sw := ⟨none, 0, 0⟩ } (pend_wrt ep) (O3.sel [3, 4, 5, 0, 6, 7, 1, 2] 8 rfl (Nat.le_add_left _ _))).swap
theorem F_ref10_Quorum_Tick.is {span : Int} {Q : Sl → Heap → Prop} (iv : q.Inv) (O : Sat h0 h (rfR r q :: L)) (k : ∀ s h', Sat h0 h' (msgsR s (q.tick span).2 :: rfR r (q.tick span).1 :: L) → Q s h') : F_ref10_Quorum_Tick (some (pt r 0)) span h Q := by
  rw [F_ref10_Quorum_Tick.eq_1, F_ref10_Quorum_Tick_of.eq_1]
  obtain ⟨a, ep, O⟩ := O.rf
  have hc := iv.ok.c
  have hb0 := iv.ok.b
  have hvl := refVal_len iv.ok
  have ht0 := tick0_len (q := q) (span := span)
  refine ⟨_, rfl, ?_⟩
  refine O.ld 0 rfl (ldL_c (ldL_n ?_))
  refine jn1 (fun s h' => Sat h0 h' (msgsR s (if q.phase = 1 then q.prepares else []) :: own r [.int .i64 q.node, .int .i64 q.shard, .slice a.sc.ptr a.sc.len a.sc.cap, .int .i64 q.phase, .int .u64 q.epoch, .slice a.sp.ptr a.sp.len a.sp.cap, .int .u64 q.tag.1, .int .u64 q.tag.2, .slice a.sv.ptr a.sv.len a.sv.cap, .slice a.sw.ptr a.sw.len a.sw.cap, .slice a.sr.ptr a.sr.len a.sr.cap, .bool a.any, .int .u64 q.chosen.1, .int .u64 q.chosen.2, .slice a.sh.ptr a.sh.len a.sh.cap, .int .u64 q.begun, .int .u64 q.done, .slice a.sb.ptr a.sb.len a.sb.cap, .int .u64 q.seen] :: buf 1 i64c a.sc q.cop :: buf 4 pmC a.sp a.ps :: buf 1 i64c a.sw q.wr :: buf 1 i64c a.sr q.rf :: buf 1 i64c a.sb q.bt :: poolR (refP q a) :: L)) ?_ ?_
  case refine_2 =>
    intro j hj
    refine brr_eq (fun h1 => ?_) (fun h1 => ?_)
    · rw [if_pos h1] at hj
      refine ⟨_, rfl, ?_⟩
      refine O.ld 0 rfl (ldL_c (ldL_n ?_))
      refine O.al fun a8 h O => ?_
      have O := int_buf O
      refine ask_ref10 (xs := [q.node]) (.inl rfl) hc (by simp) hvl (O.sel [1, 2, 0, 3, 4, 5, 6, 7] 8 rfl (Nat.le_add_left _ _)) (fun h O => (O.view 0 i64c_len (by simp) rfl).1) (fun h O => pool_view O 5 (by simp) rfl (e := (a.sv, refVal q)) (by simp [refP])) fun s h O => hj s h ?_
      rw [to_kind1, to_prepares] at O
      exact O.sel [0, 1, 2, 4, 5, 6, 7, 8] 9 rfl (Nat.le_add_left _ _)
    · rw [if_neg h1] at hj
      exact hj _ _ (msgs_none O)
  clear O
  rintro s1 h O
  refine ⟨_, rfl, ?_⟩
  refine O.ld 1 rfl (ldL_c (ldL_n ?_))
  refine jn1 (fun s h' => Sat h0 h' (msgsR s (q.tick0 span) :: own r [.int .i64 q.node, .int .i64 q.shard, .slice a.sc.ptr a.sc.len a.sc.cap, .int .i64 q.phase, .int .u64 q.epoch, .slice a.sp.ptr a.sp.len a.sp.cap, .int .u64 q.tag.1, .int .u64 q.tag.2, .slice a.sv.ptr a.sv.len a.sv.cap, .slice a.sw.ptr a.sw.len a.sw.cap, .slice a.sr.ptr a.sr.len a.sr.cap, .bool a.any, .int .u64 q.chosen.1, .int .u64 q.chosen.2, .slice a.sh.ptr a.sh.len a.sh.cap, .int .u64 q.begun, .int .u64 q.done, .slice a.sb.ptr a.sb.len a.sb.cap, .int .u64 q.seen] :: buf 1 i64c a.sc q.cop :: buf 4 pmC a.sp a.ps :: buf 1 i64c a.sw q.wr :: buf 1 i64c a.sr q.rf :: buf 1 i64c a.sb q.bt :: poolR (refP q a) :: L)) ?_ ?_
  case refine_2 =>
    intro j hj
    unfold QS.tick0 at hj
    refine brr_eq (fun h2 => ?_) (fun h2 => ?_)
    · rw [if_neg (by omega), if_pos h2] at hj
      have hw := most_small (iv.p2 h2)
      refine ⟨_, rfl, ?_⟩
      refine O.ld 1 rfl (ldL_c (k := .sl) (x := a.sw) (ldL_n ?_))
      have O : Sat h0 h (own r [.int .i64 q.node, .int .i64 q.shard, .slice a.sc.ptr a.sc.len a.sc.cap, .int .i64 q.phase, .int .u64 q.epoch, .slice a.sp.ptr a.sp.len a.sp.cap, .int .u64 q.tag.1, .int .u64 q.tag.2, .slice a.sv.ptr a.sv.len a.sv.cap, .slice a.sw.ptr a.sw.len a.sw.cap, .slice a.sr.ptr a.sr.len a.sr.cap, .bool a.any, .int .u64 q.chosen.1, .int .u64 q.chosen.2, .slice a.sh.ptr a.sh.len a.sh.cap, .int .u64 q.begun, .int .u64 q.done, .slice a.sb.ptr a.sb.len a.sb.cap, .int .u64 q.seen] :: buf 1 i64c a.sc q.cop :: buf 4 pmC a.sp a.ps :: buf 1 i64c a.sw q.wr :: buf 1 i64c a.sr q.rf :: buf 1 i64c a.sb q.bt :: poolR (refP q a) :: msgsR s1 (if q.phase = 1 then q.prepares else []) :: L) := O.sel [1, 2, 3, 4, 5, 6, 7, 0] 8 rfl (Nat.le_add_left _ _)
      refine ask_ref10 (xs := q.wr) (.inr (.inl rfl)) hc (by omega) hvl O (fun h O => (O.view 1 i64c_len (by simp) rfl).1) (fun h O => pool_view O 4 (by simp) rfl (e := (a.sv, refVal q)) (by simp [refP])) fun s h O => hj s h ?_
      rw [to_writes (by omega)] at O
      exact O.sel [0, 1, 2, 3, 4, 5, 6, 7] 9 rfl (Nat.le_add_left _ _)
    · rw [if_neg h2] at hj
      exact hj _ _ O
  clear O
  rintro s2 h O
  have O : Sat h0 h (own r [.int .i64 q.node, .int .i64 q.shard, .slice a.sc.ptr a.sc.len a.sc.cap, .int .i64 q.phase, .int .u64 q.epoch, .slice a.sp.ptr a.sp.len a.sp.cap, .int .u64 q.tag.1, .int .u64 q.tag.2, .slice a.sv.ptr a.sv.len a.sv.cap, .slice a.sw.ptr a.sw.len a.sw.cap, .slice a.sr.ptr a.sr.len a.sr.cap, .bool a.any, .int .u64 q.chosen.1, .int .u64 q.chosen.2, .slice a.sh.ptr a.sh.len a.sh.cap, .int .u64 q.begun, .int .u64 q.done, .slice a.sb.ptr a.sb.len a.sb.cap, .int .u64 q.seen] :: buf 1 i64c a.sc q.cop :: buf 4 pmC a.sp a.ps :: buf 1 i64c a.sw q.wr :: buf 1 i64c a.sr q.rf :: buf 1 i64c a.sb q.bt :: poolR (refP q a) :: msgsR s2 (q.tick0 span) :: L) := O.sel [1, 2, 3, 4, 5, 6, 7, 0] 8 rfl (Nat.le_add_left _ _)
  unfold QS.tick at k
  refine F_ref10_Quorum_Holds.is O ?_
  refine brr_not ?_
  refine brr_of (fun hh => ?_) (fun hh => ?_)
  case refine_2 =>
    rw [if_pos hh] at k
    exact k _ _ (Sat.rfI q a ep O).swap
  rw [if_neg (by simp [hh])] at k
  refine ⟨_, rfl, ?_⟩
  refine O.ld 0 rfl (ldL_c (ldL_n ?_))
  refine ⟨_, rfl, ?_⟩
  refine O.ld 0 rfl (ldL_c (ldL_n ?_))
  refine jn0 (fun h' => ∃ (q2 : QS) (a2 : RA), q2.cop = q.cop ∧ q2.bt.length ≤ 1000000 ∧ (refVal q2).length ≤ (140737488355325 : Nat) ∧ pend q2 a2.ps ∧ Sat h0 h' (own r (rcL q2 a2) :: buf 1 i64c a2.sc q2.cop :: buf 4 pmC a2.sp a2.ps :: buf 1 i64c a2.sw q2.wr :: buf 1 i64c a2.sr q2.rf :: buf 1 i64c a2.sb q2.bt :: poolR (refP q2 a2) :: msgsR s2 (q.tick0 span) :: L) ∧ (∀ s' h', Sat h0 h' (msgsR s' (q.tick0 span ++ q2.beats span) :: rfR r q2 :: L) → Q s' h')) ?_ ?_
  · clear O k
    rintro h ⟨q2, a2, ec, hbt, hv2, ep2, O, kk⟩
    refine ⟨_, rfl, ?_⟩
    refine O.ld 0 rfl (ldL_c (k := .sl) (x := a2.sb) (ldL_n ?_))
    refine ask_ref10 (xs := q2.bt) (.inr (.inr rfl)) (by rw [ec]; exact hc) hbt hv2 O (fun h O => (O.view 3 i64c_len (by simp) rfl).1) (fun h O => pool_view O 4 (by simp) rfl (e := (a2.sv, refVal q2)) (by simp [refP])) fun s3 h O => ?_
    rw [to_beats] at O
    have O : Sat h0 h (msgsR s3 (q2.beats span) :: msgsR s2 (q.tick0 span) :: own r (rcL q2 a2) :: buf 1 i64c a2.sc q2.cop :: buf 4 pmC a2.sp a2.ps :: buf 1 i64c a2.sw q2.wr :: buf 1 i64c a2.sr q2.rf :: buf 1 i64c a2.sb q2.bt :: poolR (refP q2 a2) :: L) := O.sel [0, 8, 1, 2, 3, 4, 5, 6, 7] 9 rfl (Nat.le_add_left _ _)
    have O : Sat h0 h (rfR r q2 :: msgsR s3 (q2.beats span) :: msgsR s2 (q.tick0 span) :: L) := Sat.rfI q2 a2 ep2 (O.sel [2, 3, 4, 5, 6, 7, 8, 0, 1] 9 rfl (Nat.le_add_left _ _))
    obtain ⟨ls2, e2, O⟩ := (O.sel [1, 0, 2] 3 rfl (Nat.le_add_left _ _)).msgs
    obtain ⟨ls, e1, O⟩ := (O.sel [3, 0, 1, 2] 4 rfl (Nat.le_add_left _ _)).msgs
    have O : Sat h0 h (buf 22 mgC s2 ls :: many mvR ls :: buf 22 mgC s3 ls2 :: many mvR ls2 :: rfR r q2 :: L) := O
    have V := (O.view 2 mgC_len (by simp) rfl).1
    have l1 : ls.length ≤ 1000000 := by have := congrArg List.length e1; rw [List.length_map] at this; omega
    have l2 : ls2.length ≤ 1000000 := by
      have := congrArg List.length e2
      have := send_len (q := q2) (x := { mgz with kind := 6, epoch := q2.epoch, round := q2.begun, span := span }) (out := fun c => decide (c ∈ q2.bt))
      have e3 : (q2.beats span).length ≤ q2.cop.length := this
      rw [ec] at e3
      rw [List.length_map] at *
      omega
    refine Sat.app_buf (enc := mgC) O mgC_len mgC_one (by simp [Value.cells]) (ys := ls2) V.len (V.rd mgC_len) (by omega) fun s3 h O _ => ?_
    have O : Sat h0 h (many mvR ls :: many mvR ls2 :: buf 22 mgC s3 (ls ++ ls2) :: rfR r q2 :: L) := O.sel [1, 3, 0, 4] 5 rfl (Nat.le_add_left _ _)
    have O := Sat.manyApp O
    exact kk _ _ (Sat.msgsI (by rw [List.map_append, e1, e2]) O.swap)
  intro j hj
  refine brr_eq (fun he => ?_) (fun he => ?_)
  · rw [if_pos he] at k
    refine ⟨_, rfl, ?_⟩
    refine O.ld 0 rfl (ldL_c (ldL_n ?_))
    refine brr_p (fun hm => ?_) (fun hm => ?_)
    · rw [if_pos (show (1099511627776 : Int) ≤ q.begun from hm)] at k
      exact k _ _ (Sat.rfI q a ep O).swap
    rw [if_neg (show ¬ (1099511627776 : Int) ≤ q.begun from hm)] at k
    refine ⟨_, rfl, ?_⟩
    refine O.ld 0 rfl (ldL_c (ldL_n ?_))
    refine ⟨_, rfl, ?_⟩
    refine st_ad (b := r) (o := 15) rfl ?_
    refine O.st 0 rfl (by simp) rfl fun h O => ?_
    dsimp only [V.put, List.set] at O
    refine ⟨_, rfl, ?_⟩
    refine st_ad (b := r) (o := 17) rfl ?_
    refine O.st 0 rfl (by simp) rfl fun h O => ?_
    dsimp only [V.put, List.set] at O
    rw [wrapu64 (by omega) (by omega)] at O
    have O2 := O.nil_buf (sz := 1) (enc := i64c)
    exact hj _ ⟨q.rise, { a with sb := ⟨none, 0, 0⟩ }, rfl, by show (0 : Nat) ≤ _; decide, hvl, ep, O2.sel [1, 2, 3, 4, 5, 0, 7, 8] 9 rfl (Nat.le_add_left _ _), k⟩
  · rw [if_neg he] at k
    have hb := most_small (iv.bd he)
    exact hj _ ⟨q, a, rfl, by omega, hvl, ep, O, k⟩
theorem F_ref10_Quorum_promised.is {n : Int} {Q : Bool → Heap → Prop} (hl : a.ps.length ≤ 1000000) (O : Sat h0 h (own r [.int .i64 q.node, .int .i64 q.shard, .slice a.sc.ptr a.sc.len a.sc.cap, .int .i64 q.phase, .int .u64 q.epoch, .slice a.sp.ptr a.sp.len a.sp.cap, .int .u64 q.tag.1, .int .u64 q.tag.2, .slice a.sv.ptr a.sv.len a.sv.cap, .slice a.sw.ptr a.sw.len a.sw.cap, .slice a.sr.ptr a.sr.len a.sr.cap, .bool a.any, .int .u64 q.chosen.1, .int .u64 q.chosen.2, .slice a.sh.ptr a.sh.len a.sh.cap, .int .u64 q.begun, .int .u64 q.done, .slice a.sb.ptr a.sb.len a.sb.cap, .int .u64 q.seen] :: buf 4 pmC a.sp a.ps :: L)) (k : Q (decide (n ∈ a.ps.map PM.frm)) h) : F_ref10_Quorum_promised (some (pt r 0)) n h Q := by
  rw [F_ref10_Quorum_promised.eq_1, F_ref10_Quorum_promised_of.eq_1]
  have V := (O.view 1 pmC_len (by simp) rfl).1
  refine jn0 (fun h' => h = h' ∧ n ∉ a.ps.map PM.frm) ?_ ?_
  · rintro h2 ⟨rfl, hn⟩
    rw [show decide (n ∈ a.ps.map PM.frm) = false from decide_eq_false hn] at k
    exact k
  · intro j hj
    rw [F_ref10_Quorum_promised.l1.eq_1]
    refine wl1 (k := .int .i64) (fun (m : Nat) (i : Int) (h' : Heap) => h = h' ∧ i + m = a.ps.length ∧ 0 ≤ i ∧ (∀ j : Nat, (j : Int) < i → (a.ps.map PM.frm)[j]? ≠ some n)) ?_ (m := a.ps.length) ⟨rfl, by omega, by omega, fun j hj => by omega⟩
    rintro m (i : Int) h2 next hnx ⟨rfl, him, hi0, hall⟩
    refine ⟨_, rfl, ?_⟩
    refine O.ld 0 rfl (ldL_c (k := .sl) (x := a.sp) (ldL_n ?_))
    rw [V.len]
    refine brr_p (fun hlt => ?_) (fun hlt => hj _ ⟨rfl, fun hm => ?_⟩)
    · obtain ⟨x, hx⟩ : ∃ x, a.ps[i.toNat]? = some x := ⟨_, List.getElem?_eq_getElem (by omega)⟩
      have hxm : (a.ps.map PM.frm)[i.toNat]? = some x.frm := by rw [List.getElem?_map, hx]; rfl
      refine ⟨_, rfl, ?_⟩
      refine O.ld 0 rfl (ldL_c (k := .sl) (x := a.sp) (ldL_n ?_))
      refine V.getP hi0 hx fun b hb => ld_drop (hb V) 0 (ldL_c (ldL_n ?_))
      refine brr_eq (fun hq => ?_) (fun hq => ?_)
      · have hm : n ∈ a.ps.map PM.frm := by rw [← hq]; exact List.mem_of_getElem? hxm
        rw [show decide (n ∈ a.ps.map PM.frm) = true from decide_eq_true hm] at k
        exact k
      · rw [wrap64 (by omega) (by omega)]
        refine hnx (m - 1) _ _ (by omega) ⟨rfl, by omega, by omega, fun j hj => ?_⟩
        by_cases q : (j : Int) < i
        · exact hall j q
        · rw [show j = i.toNat by omega, hxm]
          intro e
          cases e
          exact hq rfl
    · obtain ⟨j, hj2⟩ := List.getElem?_of_mem hm
      have := (List.getElem?_eq_some_iff.1 hj2).1
      rw [List.length_map] at this
      exact hall j (by omega) hj2
theorem F_ref10_Quorum_refused.is {Q : Heap → Prop} (iv : q.Inv) (hm : m.frm ∈ q.cop) (O : Sat h0 h (rfR r q :: L)) (k : ∀ h', Sat h0 h' (rfR r (q.refuse m) :: L) → Q h') : F_ref10_Quorum_refused (some (pt r 0)) m.kind m.frm m.to m.shard m.epoch m.te m.ts m.round m.span m.seen m.v m.peer m.num m.name m.other m.amount m.life m.id m.op m.client m.state m.bad h Q := by
  rw [F_ref10_Quorum_refused.eq_1, F_ref10_Quorum_refused_of.eq_1]
  have hc := iv.ok.c
  have hrl := nodup_sub_len iv.ok.n iv.ok.s
  have hpl := nodup_sub_len (putK_nodup (n := m.frm) iv.ok.n) (fun x hx => by rcases putK_sub hx with h | rfl; exact iv.ok.s x h; exact hm)
  refine O.al fun a24 h O => ?_
  have O : Sat h0 h (rfR r q :: own a24 (mgC m) :: L) := O.swap
  obtain ⟨a, ep, O⟩ := O.rf
  refine O.ld 7 rfl (ldL_c (ldL_n ?_))
  refine ⟨_, rfl, ?_⟩
  refine O.ld 0 rfl (ldL_c (ldL_n ?_))
  refine jn0 (fun h' => Sat h0 h' (own r (rcL (q.heed m) a) :: buf 1 i64c a.sc q.cop :: buf 4 pmC a.sp a.ps :: buf 1 i64c a.sw q.wr :: buf 1 i64c a.sr q.rf :: buf 1 i64c a.sb q.bt :: poolR (refP q a) :: own a24 (mgC m) :: L)) ?_ ?_
  case refine_2 =>
    intro j hj
    refine brr_p (fun hs => ?_) (fun hs => ?_)
    · refine O.ld 7 rfl (ldL_c (ldL_n ?_))
      refine ⟨_, rfl, ?_⟩
      refine st_ad (b := r) (o := 18) rfl ?_
      refine O.st 0 rfl (by simp) rfl fun h O => ?_
      dsimp only [V.put, List.set] at O
      refine hj _ ?_
      have e : (q.heed m).seen = m.seen := if_pos hs
      show Sat h0 h (own r (rcL (q.heed m) a) :: buf 1 i64c a.sc q.cop :: buf 4 pmC a.sp a.ps :: buf 1 i64c a.sw q.wr :: buf 1 i64c a.sr q.rf :: buf 1 i64c a.sb q.bt :: poolR (refP q a) :: own a24 (mgC m) :: L)
      unfold rcL
      rw [e]
      exact O
    · refine hj _ ?_
      have e : (q.heed m).seen = q.seen := if_neg hs
      unfold rcL
      rw [e]
      exact O
  clear O
  intro h O
  have ep2 : pend (q.heed m) a.ps := ep
  have O : Sat h0 h (own r [.int .i64 (q.heed m).node, .int .i64 (q.heed m).shard, .slice a.sc.ptr a.sc.len a.sc.cap, .int .i64 (q.heed m).phase, .int .u64 (q.heed m).epoch, .slice a.sp.ptr a.sp.len a.sp.cap, .int .u64 (q.heed m).tag.1, .int .u64 (q.heed m).tag.2, .slice a.sv.ptr a.sv.len a.sv.cap, .slice a.sw.ptr a.sw.len a.sw.cap, .slice a.sr.ptr a.sr.len a.sr.cap, .bool a.any, .int .u64 (q.heed m).chosen.1, .int .u64 (q.heed m).chosen.2, .slice a.sh.ptr a.sh.len a.sh.cap, .int .u64 (q.heed m).begun, .int .u64 (q.heed m).done, .slice a.sb.ptr a.sb.len a.sb.cap, .int .u64 (q.heed m).seen] :: buf 1 i64c a.sc q.cop :: buf 4 pmC a.sp a.ps :: buf 1 i64c a.sw q.wr :: buf 1 i64c a.sr q.rf :: buf 1 i64c a.sb q.bt :: poolR (refP q a) :: own a24 (mgC m) :: L) := O
  refine jn1 (fun z h' => h = h' ∧ z = decide (q.phase = 0 ∨ m.epoch ≠ q.epoch ∨ m.seen ≤ q.epoch)) ?_ ?_
  case refine_2 =>
    intro j hj
    refine ⟨_, rfl, ?_⟩
    refine O.ld 0 rfl (ldL_c (ldL_n ?_))
    refine brr_eq (fun h0 => hj _ _ ⟨rfl, by rw [show q.phase = 0 from h0]; simp⟩) (fun h0 => ?_)
    have h0 : q.phase ≠ 0 := h0
    refine O.ld 7 rfl (ldL_c (ldL_n ?_))
    refine ⟨_, rfl, ?_⟩
    refine O.ld 0 rfl (ldL_c (ldL_n ?_))
    refine brr_ne (fun h1 => hj _ _ ⟨rfl, by simp [show m.epoch ≠ q.epoch from h1]⟩) (fun h1 => ?_)
    refine O.ld 7 rfl (ldL_c (ldL_n ?_))
    refine ⟨_, rfl, ?_⟩
    refine O.ld 0 rfl (ldL_c (ldL_n ?_))
    refine hj _ _ ⟨rfl, ?_⟩
    have h1 : m.epoch = q.epoch := h1
    apply decide_eq_decide.2
    constructor
    · intro h; exact .inr (.inr h)
    · rintro (h | h | h)
      · exact absurd h h0
      · exact absurd h1 h
      · exact h
  rintro z h' ⟨rfl, rfl⟩
  unfold QS.refuse at k
  refine brr_p (fun hx => ?_) (fun hx => ?_)
  · rw [if_pos hx] at k
    exact k _ (Sat.rfI (q.heed m) a ep2 (O.sel [0, 1, 2, 3, 4, 5, 6] 8 rfl (Nat.le_add_left _ _)))
  rw [if_neg hx] at k
  refine F_ref10_Quorum_Holds.is (q := q.heed m) (a := a) O ?_
  have ehh : (q.heed m).holds = q.holds := rfl
  rw [ehh]
  refine brr_not ?_
  refine brr_of (fun hh => ?_) (fun hh => ?_)
  case refine_2 =>
    rw [if_neg (by simp [hh])] at k
    exact F_ref10_Quorum_Stop.is (q := q.heed m) (a := a) (O.sel [0, 1] 8 rfl (Nat.le_add_left _ _)) k
  refine ⟨_, rfl, ?_⟩
  refine O.ld 0 rfl (ldL_c (k := .sl) (x := a.sr) (ldL_n ?_))
  refine O.ld 7 rfl (ldL_c (ldL_n ?_))
  refine F_ref10_in.is (O.view 4 i64c_len (by simp) rfl).1 (by omega) ?_
  refine jn0 (fun h' => ∃ a2 : RA, a2.ps = a.ps ∧ Sat h0 h' (own r (rcL ({ q.heed m with rf := putK q.rf m.frm }) a2) :: buf 1 i64c a2.sc q.cop :: buf 4 pmC a2.sp a2.ps :: buf 1 i64c a2.sw q.wr :: buf 1 i64c a2.sr (putK q.rf m.frm) :: buf 1 i64c a2.sb q.bt :: poolR (refP q a2) :: L)) ?_ ?_
  · clear O
    rintro h ⟨a2, ea, O⟩
    refine ⟨_, rfl, ?_⟩
    refine O.ld 0 rfl (ldL_c (k := .sl) (x := a2.sc) (ldL_n ?_))
    refine ⟨_, rfl, ?_⟩
    refine O.ld 0 rfl (ldL_c (k := .sl) (x := a2.sr) (ldL_n ?_))
    rw [(O.view 1 i64c_len (by simp) rfl).1.len, (O.view 4 i64c_len (by simp) rfl).1.len, wrap64 (by omega) (by omega)]
    refine F_ref10_Quorum_many.is (q := q) (by omega) (by omega) rfl hc O ?_
    refine jn0 (fun h' => Sat h0 h' (rfR r (if q.holds = true ∧ q.most ((q.cop.length : Int) - ((putK q.rf m.frm).length : Nat)) = true then { q.heed m with rf := putK q.rf m.frm } else (q.heed m).stop) :: L)) (fun h O => k h O) fun j hj => ?_
    refine brr_not ?_
    refine brr_of (fun hm => ?_) (fun hm => ?_)
    · rw [if_pos ⟨hh, hm⟩] at hj
      exact hj _ (Sat.rfI ({ q.heed m with rf := putK q.rf m.frm }) a2 (by rw [ea]; exact ep) O)
    · rw [if_neg (by simp [hm])] at hj
      exact F_ref10_Quorum_Stop.is (q := { q.heed m with rf := putK q.rf m.frm }) (a := a2) (O.sel [0, 1] 7 rfl (Nat.le_add_left _ _)) hj
  intro j hj
  by_cases hi : m.frm ∈ q.rf
  · refine brr_ff (by simp [hi]) ?_
    refine hj _ ⟨a, rfl, ?_⟩
    rw [putK_inQ hi]
    exact O.sel [0, 1, 2, 3, 4, 5, 6] 8 rfl (Nat.le_add_left _ _)
  · refine brr_tt (by simp [hi]) ?_
    refine ⟨_, rfl, ?_⟩
    refine O.ld 0 rfl (ldL_c (k := .sl) (x := a.sr) (ldL_n ?_))
    refine O.ld 7 rfl (ldL_c (ldL_n ?_))
    refine O.al fun a57 h O => ?_
    refine O.ca 1 1 rfl ?_
    have O2 : Sat h0 h (buf 1 i64c a.sr q.rf :: own a57 [.int .i64 m.frm] :: own r [.int .i64 (q.heed m).node, .int .i64 (q.heed m).shard, .slice a.sc.ptr a.sc.len a.sc.cap, .int .i64 (q.heed m).phase, .int .u64 (q.heed m).epoch, .slice a.sp.ptr a.sp.len a.sp.cap, .int .u64 (q.heed m).tag.1, .int .u64 (q.heed m).tag.2, .slice a.sv.ptr a.sv.len a.sv.cap, .slice a.sw.ptr a.sw.len a.sw.cap, .slice a.sr.ptr a.sr.len a.sr.cap, .bool a.any, .int .u64 (q.heed m).chosen.1, .int .u64 (q.heed m).chosen.2, .slice a.sh.ptr a.sh.len a.sh.cap, .int .u64 (q.heed m).begun, .int .u64 (q.heed m).done, .slice a.sb.ptr a.sb.len a.sb.cap, .int .u64 (q.heed m).seen] :: buf 1 i64c a.sc q.cop :: buf 4 pmC a.sp a.ps :: buf 1 i64c a.sw q.wr :: buf 1 i64c a.sb q.bt :: poolR (refP q a) :: L) := O.sel [5, 0, 1, 2, 3, 4, 6, 7] 9 rfl (Nat.le_add_left _ _)
    refine Sat.app_buf (enc := i64c) O2 i64c_len i64c_one rfl (ys := [m.frm]) rfl (rdP_own O2 1 rfl 1 (Nat.le_refl _)) (by simp only [List.length_cons, List.length_nil]; omega) fun s2 h O _ => ?_
    refine ⟨_, rfl, ?_⟩
    refine st_ad (b := r) (o := 10) rfl ?_
    refine O.st 2 rfl (by simp) rfl fun h O => ?_
    dsimp only [V.put, List.set] at O
    have ep3 : putK q.rf m.frm = q.rf ++ [m.frm] := if_neg hi
    refine hj _ ⟨{ a with sr := s2 }, rfl, ?_⟩
    rw [ep3]
    exact O.sel [2, 3, 4, 5, 0, 6, 7] 8 rfl (Nat.le_add_left _ _)
end
end Go.Proofs.YtigcpkejjjgkeaaGreat.V
/- The document's quorum: Hear. -/
namespace Go.Proofs.YtigcpkejjjgkeaaGreat.V
open Go Go.RowKit
set_option linter.unusedVariables false
set_option linter.unusedSimpArgs false

section
variable {h0 h : Heap} {L : List Res} {r : Nat} {q : QS} {m : Mg} {a : RA}
theorem prom_val (hp : q.phase = 1) : refVal (q.prom m) = [] := if_pos (by rw [prom_same.2.2.2.1]; exact hp)
theorem pend_prom {ps : List PM} {sv : Sl} (hp : q.phase = 1) (hn : m.frm ∉ q.pm) (e : pend q ps) : pend (q.prom m) (ps ++ [⟨m.frm, m.te, m.ts, sv, m.b⟩]) := by
  obtain ⟨e1, e2⟩ := e
  obtain ⟨x, xs, rfl, b1, b2, b3⟩ := e2 hp
  refine ⟨?_, fun _ => ⟨x, xs ++ [⟨m.frm, m.te, m.ts, sv, m.b⟩], rfl, ?_⟩⟩
  · rw [prom_same.2.2.2.2.2, List.map_append, e1]
    exact (if_neg hn : putK q.pm m.frm = _).symm
  · rw [best1_snoc, b1, b2]
    unfold QS.prom
    by_cases h : tagLt q.best.1 q.best.2 m.te m.ts
    · rw [if_pos h, if_pos h]
      exact ⟨rfl, rfl, rfl⟩
    · rw [if_neg h, if_neg h]
      exact ⟨b1, b2, b3⟩
theorem stored_in (iv : q.Inv) (h2 : q.phase = 2) (hi : m.frm ∈ q.wr) : q.stored m = q := by
  unfold QS.stored
  split
  · rw [putK_inQ hi, iv.p2 h2, if_neg (by decide)]
  · rfl
theorem beat_in (iv : q.Inv) (hb : q.begun ≠ q.done) (hi : m.frm ∈ q.bt) : q.beat m = q := by
  unfold QS.beat
  split
  · rw [putK_inQ hi, iv.bd hb, if_neg (by decide)]
  · rfl
theorem F_ref10_Quorum_Hear.is {span : Int} {Q : Sl → Heap → Prop} (iv : q.Inv) (hb : m.b.length ≤ (140737488355325 : Nat)) (Vv : Stays h0 L fun h => Bytes h m.v m.b) (O : Sat h0 h (rfR r q :: L)) (k : ∀ s h', Sat h0 h' (msgsR s (q.hear m span).2 :: rfR r (q.hear m span).1 :: L) → Q s h') : F_ref10_Quorum_Hear (some (pt r 0)) m.kind m.frm m.to m.shard m.epoch m.te m.ts m.round m.span m.seen m.v m.peer m.num m.name m.other m.amount m.life m.id m.op m.client m.state m.bad span h Q := by
  rw [F_ref10_Quorum_Hear.eq_1, F_ref10_Quorum_Hear_of.eq_1]
  have hc := iv.ok.c
  refine O.al fun a25 h O => ?_
  have O : Sat h0 h (rfR r q :: own a25 (mgC m) :: L) := O.swap
  obtain ⟨a, ep, O⟩ := O.rf
  refine jn1 (fun z h' => h = h' ∧ z = decide (m.to ≠ q.node ∨ m.shard ≠ q.shard ∨ m.frm ∉ q.cop)) ?_ ?_
  case refine_2 =>
    intro j hj
    refine O.ld 7 rfl (ldL_c (ldL_n ?_))
    refine ⟨_, rfl, ?_⟩
    refine O.ld 0 rfl (ldL_c (ldL_n ?_))
    refine brr_ne (fun h1 => hj _ _ ⟨rfl, by simp [h1]⟩) (fun h1 => ?_)
    refine O.ld 7 rfl (ldL_c (ldL_n ?_))
    refine ⟨_, rfl, ?_⟩
    refine O.ld 0 rfl (ldL_c (ldL_n ?_))
    refine brr_ne (fun h2 => hj _ _ ⟨rfl, by simp [h2]⟩) (fun h2 => ?_)
    refine ⟨_, rfl, ?_⟩
    refine O.ld 0 rfl (ldL_c (k := .sl) (x := a.sc) (ldL_n ?_))
    refine O.ld 7 rfl (ldL_c (ldL_n ?_))
    refine F_ref10_in.is (O.view 1 i64c_len (by simp) rfl).1 hc ?_
    refine hj _ _ ⟨rfl, ?_⟩
    simp [h1, h2]
  rintro z h' ⟨rfl, rfl⟩
  unfold QS.hear at k
  refine brr_p (fun hg => ?_) (fun hg => ?_)
  · rw [if_pos hg] at k
    exact k _ _ (msgs_none (Sat.rfI q a ep (O.sel [0, 1, 2, 3, 4, 5, 6] 8 rfl (Nat.le_add_left _ _))))
  rw [if_neg hg] at k
  have hm : m.frm ∈ q.cop := Decidable.byContradiction fun h => hg (.inr (.inr h))
  refine O.ld 7 rfl (ldL_c (ldL_n ?_))
  refine jn0 (fun h' => Sat h0 h' (rfR r (if m.kind = 2 then (q.promise m span).1 else if m.kind = 5 then q.stored m else if m.kind = 3 then q.refuse m else if m.kind = 7 then q.beat m else q) :: L) ∧ (m.kind = 2 → (q.promise m span).2 = [])) ?_ ?_
  · clear O
    rintro h ⟨O, e2⟩
    by_cases k2 : m.kind = 2
    · rw [if_pos k2] at k O
      refine k _ _ ?_
      rw [e2 k2]
      exact msgs_none O
    rw [if_neg k2] at k O
    by_cases k5 : m.kind = 5
    · rw [if_pos k5] at k O
      exact k _ _ (msgs_none O)
    rw [if_neg k5] at k O
    by_cases k3 : m.kind = 3
    · rw [if_pos k3] at k O
      exact k _ _ (msgs_none O)
    rw [if_neg k3] at k O
    by_cases k7 : m.kind = 7
    · rw [if_pos k7] at k O
      exact k _ _ (msgs_none O)
    rw [if_neg k7] at k O
    exact k _ _ (msgs_none O)
  intro j42 hj42
  have Oq : Sat h0 h (rfR r q :: L) := Sat.rfI q a ep (O.sel [0, 1, 2, 3, 4, 5, 6] 8 rfl (Nat.le_add_left _ _))
  refine brr_eq (fun k2 => ?_) (fun k2 => ?_)
  · rw [if_pos k2] at k hj42
    refine jn1 (fun z h' => h = h' ∧ z = decide (q.phase ≠ 1 ∨ m.epoch ≠ q.epoch ∨ m.frm ∈ q.pm)) ?_ ?_
    case refine_2 =>
      intro j hj
      refine ⟨_, rfl, ?_⟩
      refine O.ld 0 rfl (ldL_c (ldL_n ?_))
      refine brr_ne (fun h1 => hj _ _ ⟨rfl, by simp [h1]⟩) (fun h1 => ?_)
      refine O.ld 7 rfl (ldL_c (ldL_n ?_))
      refine ⟨_, rfl, ?_⟩
      refine O.ld 0 rfl (ldL_c (ldL_n ?_))
      refine brr_ne (fun h2 => hj _ _ ⟨rfl, by simp [h2]⟩) (fun h2 => ?_)
      refine O.ld 7 rfl (ldL_c (ldL_n ?_))
      have hpl := most_small (iv.p1 h1)
      have hpl2 : a.ps.length ≤ 1000000 := by
        have := congrArg List.length ep.1
        rw [List.length_map] at this
        omega
      refine F_ref10_Quorum_promised.is hpl2 (O.sel [0, 2, 1, 3, 4, 5, 6, 7] 8 rfl (Nat.le_add_left _ _)) ?_
      refine hj _ _ ⟨rfl, ?_⟩
      rw [ep.1]
      simp [h1, h2]
    rintro z h' ⟨rfl, rfl⟩
    unfold QS.promise at k hj42
    refine brr_p (fun hx => ?_) (fun hx => ?_)
    · rw [if_pos hx] at k
      exact k _ _ (msgs_none Oq)
    rw [if_neg hx] at k hj42
    have h1 : q.phase = 1 := Decidable.byContradiction fun h => hx (.inl h)
    have hnp : m.frm ∉ q.pm := fun h => hx (.inr (.inr h))
    have hpl := most_small (iv.p1 h1)
    have hpl2 : a.ps.length ≤ 500000 := by
      have := congrArg List.length ep.1
      rw [List.length_map] at this
      omega
    clear Oq
    refine ⟨_, rfl, ?_⟩
    refine O.ld 0 rfl (ldL_c (k := .sl) (x := a.sp) (ldL_n ?_))
    refine O.ld 7 rfl (ldL_c (ldL_n ?_))
    refine O.ld 7 rfl (ldL_c (ldL_c (ldL_n ?_)))
    refine O.ld 7 rfl (ldL_c (k := .sl) (x := m.v) (ldL_n ?_))
    refine F_ref0_Copy.is O (Vv h (O.sel [] 8 rfl (Nat.le_add_left _ _))) (by omega) fun sv h O _ _ => ?_
    refine O.ca 1 1 rfl ?_
    refine O.ca 8 1 rfl ?_
    refine O.ca 8 2 rfl ?_
    refine O.al fun a62 h O => ?_
    refine O.ca 2 1 rfl ?_
    have O2 : Sat h0 h (buf 4 pmC a.sp a.ps :: own a62 (pmC ⟨m.frm, m.te, m.ts, sv, m.b⟩) :: buf 1 u8 sv m.b :: own r [.int .i64 q.node, .int .i64 q.shard, .slice a.sc.ptr a.sc.len a.sc.cap, .int .i64 q.phase, .int .u64 q.epoch, .slice a.sp.ptr a.sp.len a.sp.cap, .int .u64 q.tag.1, .int .u64 q.tag.2, .slice a.sv.ptr a.sv.len a.sv.cap, .slice a.sw.ptr a.sw.len a.sw.cap, .slice a.sr.ptr a.sr.len a.sr.cap, .bool a.any, .int .u64 q.chosen.1, .int .u64 q.chosen.2, .slice a.sh.ptr a.sh.len a.sh.cap, .int .u64 q.begun, .int .u64 q.done, .slice a.sb.ptr a.sb.len a.sb.cap, .int .u64 q.seen] :: buf 1 i64c a.sc q.cop :: buf 1 i64c a.sw q.wr :: buf 1 i64c a.sr q.rf :: buf 1 i64c a.sb q.bt :: poolR (refP q a) :: L) := O.sel [4, 0, 1, 2, 3, 5, 6, 7, 8] 10 rfl (Nat.le_add_left _ _)
    refine Sat.app_buf (enc := pmC) O2 pmC_len pmC_one rfl (ys := [⟨m.frm, m.te, m.ts, sv, m.b⟩]) rfl (rdP_own O2 1 rfl 4 (Nat.le_refl _)) (by simp only [List.length_cons, List.length_nil]; omega) fun s64 h O _ => ?_
    refine ⟨_, rfl, ?_⟩
    refine st_ad (b := r) (o := 5) rfl ?_
    refine O.st 3 rfl (by simp) rfl fun h O => ?_
    dsimp only [V.put, List.set] at O
    refine ⟨_, rfl, ?_⟩
    refine O.ld 3 rfl (ldL_c (k := .sl) (x := s64) (ldL_n ?_))
    rw [(O.view 0 pmC_len (by simp) rfl).1.len]
    obtain ⟨s1, s2, s3, s4, s5, s6⟩ := prom_same (q := q) (m := m)
    obtain ⟨f1, f2, f3, f4, f5, f6, f7, f8, f9⟩ := prom_more (q := q) (m := m)
    have epp : pend (q.prom m) (a.ps ++ [⟨m.frm, m.te, m.ts, sv, m.b⟩]) := pend_prom h1 hnp ep
    have okp := iv.ok.prom (m := m) hb
    have rv0 : refVal q = [] := if_pos h1
    have rv1 : refVal (q.prom m) = [] := prom_val h1
    obtain ⟨A, hA⟩ : ∃ A : RA, A = { a with sp := s64, ps := a.ps ++ [⟨m.frm, m.te, m.ts, sv, m.b⟩] } := ⟨_, rfl⟩
    have A2 : A.sp = s64 := by rw [hA]
    have A3 : A.ps = a.ps ++ [⟨m.frm, m.te, m.ts, sv, m.b⟩] := by rw [hA]
    have A4 : A.sw = a.sw ∧ A.sr = a.sr ∧ A.sb = a.sb ∧ A.sh = a.sh ∧ A.sv = a.sv := by rw [hA]; exact ⟨rfl, rfl, rfl, rfl, rfl⟩
    have O2 := pool_take (O.sel [2, 8, 0, 3, 4, 5, 6, 7] 9 rfl (Nat.le_add_left _ _))
    have O2 := pool_sub O2 (fs := refP (q.prom m) A) (by
      intro x hx
      unfold refP at hx ⊢
      rw [rv1, A3, List.map_append, A4.2.2.2.1, A4.2.2.2.2, f7] at hx
      rw [rv0]
      simp only [List.mem_cons, List.mem_append, List.map_cons, List.map_nil, List.not_mem_nil, or_false] at hx ⊢
      rcases hx with h | h | h | h
      · exact .inl (.inl h)
      · exact .inl (.inr (.inl h))
      · exact .inl (.inr (.inr h))
      · exact .inr h)
    have O : Sat h0 h (own r (rcL (q.prom m) A) :: buf 1 i64c A.sc (q.prom m).cop :: buf 4 pmC A.sp A.ps :: buf 1 i64c A.sw (q.prom m).wr :: buf 1 i64c A.sr (q.prom m).rf :: buf 1 i64c A.sb (q.prom m).bt :: poolR (refP (q.prom m) A) :: L) := by
      unfold rcL
      rw [s1, s2, s3, s4, s5, f1, f2, f3, f4, f5, f6, f8, f9]
      subst hA
      exact O2.sel [2, 3, 1, 4, 5, 6, 0] 7 rfl (Nat.le_add_left _ _)
    clear O2
    have hlm : (((a.ps ++ [(⟨m.frm, m.te, m.ts, sv, m.b⟩ : PM)]).length : Nat) : Int) = (((q.prom m).pm.length : Nat) : Int) := by
      have := congrArg List.length epp.1
      rw [List.length_map] at this
      rw [this]
    have hlp : (a.ps ++ [(⟨m.frm, m.te, m.ts, sv, m.b⟩ : PM)]).length ≤ 1000000 := by rw [List.length_append]; simp only [List.length_cons, List.length_nil]; omega
    rw [hlm]
    refine F_ref10_Quorum_many.is (q := q.prom m) (by omega) (by omega) rfl okp.c O ?_
    refine brr_of (fun hmo => ?_) (fun hmo => ?_)
    · rw [if_pos hmo] at k
      obtain ⟨x, xs, ex, b1, b2, b3⟩ := epp.2 (s4.trans h1)
      rw [← A3] at ex
      have hxl : xs.length ≤ 1000000 := by
        have := congrArg List.length ex
        rw [A3] at this
        simp only [List.length_cons] at this
        omega
      refine F_ref10_Quorum_best.is (q := q.prom m) (a := A) ex hxl (O.sel [0, 2, 1, 3, 4, 5, 6] 7 rfl (Nat.le_add_left _ _)) fun h O => ?_
      have hbm : best1 x xs ∈ A.ps := by
        rw [ex]
        have : ∀ (xs : List PM) (x : PM), best1 x xs ∈ x :: xs := by
          intro xs
          induction xs with
          | nil => intro x; exact List.mem_cons_self
          | cons y ys ih =>
            intro x
            show best1 (if tagLt x.te x.ts y.te y.ts then y else x) ys ∈ _
            have := ih (if tagLt x.te x.ts y.te y.ts then y else x)
            rcases List.mem_cons.1 this with h | h
            · rw [h]
              split
              · exact List.mem_cons_of_mem _ List.mem_cons_self
              · exact List.mem_cons_self
            · exact List.mem_cons_of_mem _ (List.mem_cons_of_mem _ h)
        exact this xs x
      have hpe : ((best1 x xs).v, (q.prom m).val) ∈ refP (q.prom m) A := by
        unfold refP
        rw [← b3]
        exact List.mem_cons_of_mem _ (List.mem_cons_of_mem _ (List.mem_map.2 ⟨_, hbm, rfl⟩))
      refine F_ref10_Quorum_writes.is (q := q.prom m) (a := A) (b := (q.prom m).val) okp.c okp.v (fun h O => pool_view O 4 (by simp) rfl (e := ((best1 x xs).v, (q.prom m).val)) hpe) (O.sel [0, 2, 1, 3, 4, 5, 6] 7 rfl (Nat.le_add_left _ _)) fun s sv2 h O => k s h ?_
      have O : Sat h0 h (msgsR s (((q.prom m).wrt 1).writes span) :: own r (rcL ((q.prom m).wrt 1) { A with sv := sv2, sw := ⟨none, 0, 0⟩ }) :: buf 1 u8 sv2 (q.prom m).val :: buf 1 i64c A.sc (q.prom m).cop :: buf 4 pmC A.sp A.ps :: buf 1 i64c A.sw (q.prom m).wr :: buf 1 i64c A.sr (q.prom m).rf :: buf 1 i64c A.sb (q.prom m).bt :: poolR (refP (q.prom m) A) :: L) := O
      have O2 := pool_take (O.sel [2, 8, 0, 1, 3, 4, 6, 7] 9 rfl (Nat.le_add_left _ _))
      have ev : refVal ((q.prom m).wrt 1) = (q.prom m).val := if_neg (by show ¬ (2 : Int) = 1; decide)
      have O2 := pool_sub O2 (fs := refP ((q.prom m).wrt 1) { A with sv := sv2, sw := ⟨none, 0, 0⟩ }) (by
        intro x hx
        unfold refP at hx ⊢
        rw [ev] at hx
        simp only [List.mem_cons] at hx
        simp only [List.mem_append, List.mem_cons]
        rcases hx with rfl | rfl | hx
        · simp
        · left; right; left; rfl
        · left; right; right; exact hx)
      have O3 := O2.nil_buf (sz := 1) (enc := i64c)
      exact (Sat.rfI ((q.prom m).wrt 1) { A with sv := sv2, sw := ⟨none, 0, 0⟩ } (by show pend _ A.ps; rw [A3]; exact pend_wrt (b := (q.prom m).val) epp) (O3.sel [3, 4, 5, 0, 6, 7, 1, 2] 8 rfl (Nat.le_add_left _ _))).swap
    · have hmo2 : ¬ ((q.prom m).most ((q.prom m).pm.length : Nat) = true) := by simp [hmo]
      rw [if_neg hmo2] at hj42
      exact hj42 _ ⟨Sat.rfI (q.prom m) A (by rw [A3]; exact epp) O, fun _ => rfl⟩
  rw [if_neg k2] at k hj42
  refine jn_go ?_
  refine brr_eq (fun k5 => ?_) (fun k5 => ?_)
  · rw [if_pos k5] at k hj42
    refine jn1 (fun z h' => h = h' ∧ z = decide (q.phase ≠ 2 ∨ ¬ (m.te = q.tag.1 ∧ m.ts = q.tag.2) ∨ m.frm ∈ q.wr)) ?_ ?_
    case refine_2 =>
      intro j hj
      refine ⟨_, rfl, ?_⟩
      refine O.ld 0 rfl (ldL_c (ldL_n ?_))
      refine brr_ne (fun h1 => hj _ _ ⟨rfl, by simp [h1]⟩) (fun h1 => ?_)
      refine O.ld 7 rfl (ldL_c (ldL_c (ldL_n ?_)))
      refine ⟨_, rfl, ?_⟩
      refine O.ld 0 rfl (ldL_c (ldL_c (ldL_n ?_)))
      by_cases h2 : m.te = q.tag.1 ∧ m.ts = q.tag.2
      · refine brr_ff (by simp [h2.1, h2.2]) ?_
        have hwl := most_small (iv.p2 h1)
        refine ⟨_, rfl, ?_⟩
        refine O.ld 0 rfl (ldL_c (k := .sl) (x := a.sw) (ldL_n ?_))
        refine O.ld 7 rfl (ldL_c (ldL_n ?_))
        refine F_ref10_in.is (O.view 3 i64c_len (by simp) rfl).1 (by omega) ?_
        refine hj _ _ ⟨rfl, ?_⟩
        simp [h1, h2.1, h2.2]
      · refine brr_tt ?_ (hj _ _ ⟨rfl, by simp [h2]⟩)
        by_cases h3 : m.te = q.tag.1
        · have h4 : m.ts ≠ q.tag.2 := fun h => h2 ⟨h3, h⟩
          simp [h4]
        · simp [h3]
    rintro z h' ⟨rfl, rfl⟩
    refine brr_p (fun hx => ?_) (fun hx => ?_)
    · have e : q.stored m = q := by
        rcases hx with hx | hx | hx
        · unfold QS.stored; rw [if_neg fun h => hx h.1]
        · unfold QS.stored; rw [if_neg fun h => hx h.2]
        · by_cases h2 : q.phase = 2
          · exact stored_in iv h2 hx
          · unfold QS.stored; rw [if_neg fun h => h2 h.1]
      rw [e] at k
      exact k _ _ (msgs_none Oq)
    have h1 : q.phase = 2 := Decidable.byContradiction fun h => hx (.inl h)
    have h2 : m.te = q.tag.1 ∧ m.ts = q.tag.2 := Decidable.byContradiction fun h => hx (.inr (.inl h))
    have hnw : m.frm ∉ q.wr := fun h => hx (.inr (.inr h))
    have hwl := most_small (iv.p2 h1)
    have epw : putK q.wr m.frm = q.wr ++ [m.frm] := if_neg hnw
    have rv0 : refVal q = q.val := if_neg (by rw [h1]; decide)
    unfold QS.stored at hj42
    rw [if_pos ⟨h1, h2⟩] at hj42
    clear Oq
    refine ⟨_, rfl, ?_⟩
    refine O.ld 0 rfl (ldL_c (k := .sl) (x := a.sw) (ldL_n ?_))
    refine O.ld 7 rfl (ldL_c (ldL_n ?_))
    refine O.al fun a95 h O => ?_
    refine O.ca 1 1 rfl ?_
    have O2 : Sat h0 h (buf 1 i64c a.sw q.wr :: own a95 [.int .i64 m.frm] :: own r [.int .i64 q.node, .int .i64 q.shard, .slice a.sc.ptr a.sc.len a.sc.cap, .int .i64 q.phase, .int .u64 q.epoch, .slice a.sp.ptr a.sp.len a.sp.cap, .int .u64 q.tag.1, .int .u64 q.tag.2, .slice a.sv.ptr a.sv.len a.sv.cap, .slice a.sw.ptr a.sw.len a.sw.cap, .slice a.sr.ptr a.sr.len a.sr.cap, .bool a.any, .int .u64 q.chosen.1, .int .u64 q.chosen.2, .slice a.sh.ptr a.sh.len a.sh.cap, .int .u64 q.begun, .int .u64 q.done, .slice a.sb.ptr a.sb.len a.sb.cap, .int .u64 q.seen] :: buf 1 i64c a.sc q.cop :: buf 4 pmC a.sp a.ps :: buf 1 i64c a.sr q.rf :: buf 1 i64c a.sb q.bt :: poolR (refP q a) :: L) := O.sel [4, 0, 1, 2, 3, 5, 6, 7] 9 rfl (Nat.le_add_left _ _)
    refine Sat.app_buf (enc := i64c) O2 i64c_len i64c_one rfl (ys := [m.frm]) rfl (rdP_own O2 1 rfl 1 (Nat.le_refl _)) (by simp only [List.length_cons, List.length_nil]; omega) fun s97 h O _ => ?_
    refine ⟨_, rfl, ?_⟩
    refine st_ad (b := r) (o := 9) rfl ?_
    refine O.st 2 rfl (by simp) rfl fun h O => ?_
    dsimp only [V.put, List.set] at O
    refine ⟨_, rfl, ?_⟩
    refine O.ld 2 rfl (ldL_c (k := .sl) (x := s97) (ldL_n ?_))
    rw [(O.view 0 i64c_len (by simp) rfl).1.len, ← epw]
    rw [← epw] at O
    have hpl : (putK q.wr m.frm).length ≤ 1000000 := by rw [epw, List.length_append]; simp only [List.length_cons, List.length_nil]; omega
    have O : Sat h0 h (own r (rcL ({ q with wr := putK q.wr m.frm }) { a with sw := s97 }) :: buf 1 i64c a.sc q.cop :: buf 4 pmC a.sp a.ps :: buf 1 i64c s97 (putK q.wr m.frm) :: buf 1 i64c a.sr q.rf :: buf 1 i64c a.sb q.bt :: poolR (refP q a) :: L) := O.sel [2, 3, 4, 0, 5, 6, 7] 8 rfl (Nat.le_add_left _ _)
    refine F_ref10_Quorum_many.is (q := q) (by omega) (by omega) rfl hc O ?_
    refine jn_go ?_
    refine brr_of (fun hmo => ?_) (fun hmo => ?_)
    · rw [if_pos hmo] at hj42
      have O : Sat h0 h (own r [.int .i64 q.node, .int .i64 q.shard, .slice a.sc.ptr a.sc.len a.sc.cap, .int .i64 q.phase, .int .u64 q.epoch, .slice a.sp.ptr a.sp.len a.sp.cap, .int .u64 q.tag.1, .int .u64 q.tag.2, .slice a.sv.ptr a.sv.len a.sv.cap, .slice s97.ptr s97.len s97.cap, .slice a.sr.ptr a.sr.len a.sr.cap, .bool a.any, .int .u64 q.chosen.1, .int .u64 q.chosen.2, .slice a.sh.ptr a.sh.len a.sh.cap, .int .u64 q.begun, .int .u64 q.done, .slice a.sb.ptr a.sb.len a.sb.cap, .int .u64 q.seen] :: buf 1 i64c a.sc q.cop :: buf 4 pmC a.sp a.ps :: buf 1 i64c s97 (putK q.wr m.frm) :: buf 1 i64c a.sr q.rf :: buf 1 i64c a.sb q.bt :: poolR (refP q a) :: L) := O
      refine ⟨_, rfl, ?_⟩
      refine st_ad (b := r) (o := 11) rfl ?_
      refine O.st 0 rfl (by simp) rfl fun h O => ?_
      dsimp only [V.put, List.set] at O
      refine ⟨_, rfl, ?_⟩
      refine O.ld 0 rfl (ldL_c (ldL_c (ldL_n ?_)))
      refine ⟨_, rfl, ?_⟩
      refine st_ad (b := r) (o := 12) rfl ?_
      refine O.st 0 rfl (by simp) rfl fun h O => ?_
      dsimp only [V.put, List.set] at O
      refine ⟨_, rfl, ?_⟩
      refine O.ld 0 rfl (ldL_c (k := .sl) (x := a.sv) (ldL_n ?_))
      refine ⟨_, rfl, ?_⟩
      refine st_ad (b := r) (o := 14) rfl ?_
      refine O.st 0 rfl (by simp) rfl fun h O => ?_
      dsimp only [V.put, List.set] at O
      refine ⟨_, rfl, ?_⟩
      refine st_ad (b := r) (o := 3) rfl ?_
      refine O.st 0 rfl (by simp) rfl fun h O => ?_
      dsimp only [V.put, List.set] at O
      have O2 := pool_sub (O.sel [6, 0, 1, 2, 3, 4, 5] 7 rfl (Nat.le_add_left _ _)) (fs := refP ({ q with wr := putK q.wr m.frm, phase := 3, chosen := q.tag, what := q.val }) { a with sw := s97, any := true, sh := a.sv }) (by
        intro x hx
        have ev : refVal ({ q with wr := putK q.wr m.frm, phase := 3, chosen := q.tag, what := q.val } : QS) = q.val := if_neg (by show ¬ (3 : Int) = 1; decide)
        unfold refP at hx ⊢
        rw [ev] at hx
        rw [rv0]
        simp only [List.mem_cons] at hx ⊢
        rcases hx with h | h | h
        · exact .inl h
        · exact .inl h
        · exact .inr (.inr h))
      exact hj42 _ ⟨Sat.rfI ({ q with wr := putK q.wr m.frm, phase := 3, chosen := q.tag, what := q.val }) { a with sw := s97, any := true, sh := a.sv } ⟨ep.1, fun h => absurd h (by show ¬ (3 : Int) = 1; decide)⟩ (O2.sel [1, 2, 3, 4, 5, 6, 0] 7 rfl (Nat.le_add_left _ _)), fun h => absurd h k2⟩
    · rw [if_neg (by simp [hmo])] at hj42
      exact hj42 _ ⟨Sat.rfI ({ q with wr := putK q.wr m.frm }) { a with sw := s97 } ep O, fun h => absurd h k2⟩
  rw [if_neg k5] at k hj42
  refine jn_go ?_
  refine brr_eq (fun k3 => ?_) (fun k3 => ?_)
  · rw [if_pos k3] at k hj42
    have O : Sat h0 h (own a25 (mgC m) :: own r [.int .i64 q.node, .int .i64 q.shard, .slice a.sc.ptr a.sc.len a.sc.cap, .int .i64 q.phase, .int .u64 q.epoch, .slice a.sp.ptr a.sp.len a.sp.cap, .int .u64 q.tag.1, .int .u64 q.tag.2, .slice a.sv.ptr a.sv.len a.sv.cap, .slice a.sw.ptr a.sw.len a.sw.cap, .slice a.sr.ptr a.sr.len a.sr.cap, .bool a.any, .int .u64 q.chosen.1, .int .u64 q.chosen.2, .slice a.sh.ptr a.sh.len a.sh.cap, .int .u64 q.begun, .int .u64 q.done, .slice a.sb.ptr a.sb.len a.sb.cap, .int .u64 q.seen] :: buf 1 i64c a.sc q.cop :: buf 4 pmC a.sp a.ps :: buf 1 i64c a.sw q.wr :: buf 1 i64c a.sr q.rf :: buf 1 i64c a.sb q.bt :: poolR (refP q a) :: L) := O.sel [7, 0, 1, 2, 3, 4, 5, 6] 8 rfl (Nat.le_add_left _ _)
    refine O.ld 0 rfl ?_
    unfold mgC
    repeat (first | (with_reducible refine ldL_n ?_) | refine ldL_s ?_ | refine ldL_c ?_)
    exact F_ref10_Quorum_refused.is (m := m) iv hm Oq fun h O => hj42 _ ⟨O, fun h => absurd h k2⟩
  rw [if_neg k3] at k hj42
  refine jn_go ?_
  refine brr_eq (fun k7 => ?_) (fun k7 => ?_)
  case refine_2 =>
    rw [if_neg k7] at hj42
    exact hj42 _ ⟨Oq, fun h => absurd h k2⟩
  rw [if_pos k7] at k hj42
  refine jn1 (fun z h' => h = h' ∧ z = decide (¬ (q.holds = true ∧ q.begun ≠ q.done ∧ m.epoch = q.epoch ∧ m.round = q.begun) ∨ m.frm ∈ q.bt)) ?_ ?_
  case refine_2 =>
    intro j hj
    refine F_ref10_Quorum_Holds.is O ?_
    refine brr_not ?_
    refine brr_of (fun hh => ?_) (fun hh => hj _ _ ⟨rfl, by simp [hh]⟩)
    refine ⟨_, rfl, ?_⟩
    refine O.ld 0 rfl (ldL_c (ldL_n ?_))
    refine ⟨_, rfl, ?_⟩
    refine O.ld 0 rfl (ldL_c (ldL_n ?_))
    refine brr_eq (fun h1 => hj _ _ ⟨rfl, by simp [h1]⟩) (fun h1 => ?_)
    refine O.ld 7 rfl (ldL_c (ldL_n ?_))
    refine ⟨_, rfl, ?_⟩
    refine O.ld 0 rfl (ldL_c (ldL_n ?_))
    refine brr_ne (fun h2 => hj _ _ ⟨rfl, by simp [h2]⟩) (fun h2 => ?_)
    refine O.ld 7 rfl (ldL_c (ldL_n ?_))
    refine ⟨_, rfl, ?_⟩
    refine O.ld 0 rfl (ldL_c (ldL_n ?_))
    refine brr_ne (fun h3 => hj _ _ ⟨rfl, by simp [h3]⟩) (fun h3 => ?_)
    have hbl := most_small (iv.bd h1)
    refine ⟨_, rfl, ?_⟩
    refine O.ld 0 rfl (ldL_c (k := .sl) (x := a.sb) (ldL_n ?_))
    refine O.ld 7 rfl (ldL_c (ldL_n ?_))
    refine F_ref10_in.is (O.view 5 i64c_len (by simp) rfl).1 (by omega) ?_
    refine hj _ _ ⟨rfl, ?_⟩
    apply decide_eq_decide.2
    constructor
    · intro h; exact .inr h
    · rintro (h | h)
      · exact absurd ⟨hh, h1, h2, h3⟩ h
      · exact h
  rintro z h' ⟨rfl, rfl⟩
  refine brr_p (fun hx => ?_) (fun hx => ?_)
  · have e : q.beat m = q := by
      rcases hx with hx | hx
      · unfold QS.beat; rw [if_neg hx]
      · by_cases h2 : q.begun ≠ q.done
        · exact beat_in iv h2 hx
        · unfold QS.beat; rw [if_neg fun h => h2 h.2.1]
    rw [e] at k
    exact k _ _ (msgs_none Oq)
  have h1 : q.holds = true ∧ q.begun ≠ q.done ∧ m.epoch = q.epoch ∧ m.round = q.begun := Decidable.byContradiction fun h => hx (.inl h)
  have hnb : m.frm ∉ q.bt := fun h => hx (.inr h)
  have hbl := most_small (iv.bd h1.2.1)
  have epb : putK q.bt m.frm = q.bt ++ [m.frm] := if_neg hnb
  unfold QS.beat at hj42
  rw [if_pos h1] at hj42
  clear Oq
  refine ⟨_, rfl, ?_⟩
  refine O.ld 0 rfl (ldL_c (k := .sl) (x := a.sb) (ldL_n ?_))
  refine O.ld 7 rfl (ldL_c (ldL_n ?_))
  refine O.al fun a95 h O => ?_
  refine O.ca 1 1 rfl ?_
  have O2 : Sat h0 h (buf 1 i64c a.sb q.bt :: own a95 [.int .i64 m.frm] :: own r [.int .i64 q.node, .int .i64 q.shard, .slice a.sc.ptr a.sc.len a.sc.cap, .int .i64 q.phase, .int .u64 q.epoch, .slice a.sp.ptr a.sp.len a.sp.cap, .int .u64 q.tag.1, .int .u64 q.tag.2, .slice a.sv.ptr a.sv.len a.sv.cap, .slice a.sw.ptr a.sw.len a.sw.cap, .slice a.sr.ptr a.sr.len a.sr.cap, .bool a.any, .int .u64 q.chosen.1, .int .u64 q.chosen.2, .slice a.sh.ptr a.sh.len a.sh.cap, .int .u64 q.begun, .int .u64 q.done, .slice a.sb.ptr a.sb.len a.sb.cap, .int .u64 q.seen] :: buf 1 i64c a.sc q.cop :: buf 4 pmC a.sp a.ps :: buf 1 i64c a.sw q.wr :: buf 1 i64c a.sr q.rf :: poolR (refP q a) :: L) := O.sel [6, 0, 1, 2, 3, 4, 5, 7] 9 rfl (Nat.le_add_left _ _)
  refine Sat.app_buf (enc := i64c) O2 i64c_len i64c_one rfl (ys := [m.frm]) rfl (rdP_own O2 1 rfl 1 (Nat.le_refl _)) (by simp only [List.length_cons, List.length_nil]; omega) fun s97 h O _ => ?_
  refine ⟨_, rfl, ?_⟩
  refine st_ad (b := r) (o := 17) rfl ?_
  refine O.st 2 rfl (by simp) rfl fun h O => ?_
  dsimp only [V.put, List.set] at O
  refine ⟨_, rfl, ?_⟩
  refine O.ld 2 rfl (ldL_c (k := .sl) (x := s97) (ldL_n ?_))
  rw [(O.view 0 i64c_len (by simp) rfl).1.len, ← epb]
  rw [← epb] at O
  have hpl : (putK q.bt m.frm).length ≤ 1000000 := by rw [epb, List.length_append]; simp only [List.length_cons, List.length_nil]; omega
  have O : Sat h0 h (own r (rcL ({ q with bt := putK q.bt m.frm }) { a with sb := s97 }) :: buf 1 i64c a.sc q.cop :: buf 4 pmC a.sp a.ps :: buf 1 i64c a.sw q.wr :: buf 1 i64c a.sr q.rf :: buf 1 i64c s97 (putK q.bt m.frm) :: poolR (refP q a) :: L) := O.sel [2, 3, 4, 5, 6, 0, 7] 8 rfl (Nat.le_add_left _ _)
  refine F_ref10_Quorum_many.is (q := q) (by omega) (by omega) rfl hc O ?_
  refine jn_go ?_
  refine brr_of (fun hmo => ?_) (fun hmo => ?_)
  · rw [if_pos hmo] at hj42
    have O : Sat h0 h (own r [.int .i64 q.node, .int .i64 q.shard, .slice a.sc.ptr a.sc.len a.sc.cap, .int .i64 q.phase, .int .u64 q.epoch, .slice a.sp.ptr a.sp.len a.sp.cap, .int .u64 q.tag.1, .int .u64 q.tag.2, .slice a.sv.ptr a.sv.len a.sv.cap, .slice a.sw.ptr a.sw.len a.sw.cap, .slice a.sr.ptr a.sr.len a.sr.cap, .bool a.any, .int .u64 q.chosen.1, .int .u64 q.chosen.2, .slice a.sh.ptr a.sh.len a.sh.cap, .int .u64 q.begun, .int .u64 q.done, .slice s97.ptr s97.len s97.cap, .int .u64 q.seen] :: buf 1 i64c a.sc q.cop :: buf 4 pmC a.sp a.ps :: buf 1 i64c a.sw q.wr :: buf 1 i64c a.sr q.rf :: buf 1 i64c s97 (putK q.bt m.frm) :: poolR (refP q a) :: L) := O
    refine ⟨_, rfl, ?_⟩
    refine O.ld 0 rfl (ldL_c (ldL_n ?_))
    refine ⟨_, rfl, ?_⟩
    refine st_ad (b := r) (o := 16) rfl ?_
    refine O.st 0 rfl (by simp) rfl fun h O => ?_
    dsimp only [V.put, List.set] at O
    exact hj42 _ ⟨Sat.rfI ({ q with bt := putK q.bt m.frm, done := q.begun }) { a with sb := s97 } ep O, fun h => absurd h k2⟩
  · rw [if_neg (by simp [hmo])] at hj42
    exact hj42 _ ⟨Sat.rfI ({ q with bt := putK q.bt m.frm }) { a with sb := s97 } ep O, fun h => absurd h k2⟩
end
end Go.Proofs.YtigcpkejjjgkeaaGreat.V
namespace Go.Proofs.YtigcpkejjjgkeaaGreat.V
open Go Go.RowKit
set_option linter.unusedVariables false
set_option maxRecDepth 100000
def F_law1_at_of  (n1 k2 : Int) (h : Heap) (Q : Int → Heap → Prop) : Prop :=
  (2 : Int) ≠ 0 ∧
  brr ((k2.tmod 2) == 0)
  ((251 : Int) ≠ 0 ∧
  Q (IntKind.u8.wrap (IntKind.i64.wrap (1 + (n1.tmod 251)))) h)
  ((251 : Int) ≠ 0 ∧
  (251 : Int) ≠ 0 ∧
  Q (IntKind.u8.wrap (IntKind.i64.wrap (1 + ((IntKind.i64.wrap ((IntKind.i64.wrap (7 * n1)) + (IntKind.i64.wrap (n1.tdiv 251)))).tmod 251)))) h)
def F_law1_at (n1 k2 : Int) (h : Heap) (Q : Int → Heap → Prop) : Prop := F_law1_at_of  n1 k2 h Q
def plan44 : Plan := .s (.r [0, 1]) (.s (.s (.r [0, 7]) (.c (.s (.r [4]) .z) .z)) (.s (.r [4]) .z))
theorem F_law1_at.eq  (n1 k2 : Int) (h : Heap) (K : Value → Heap → Prop) : F_law1_at_of  n1 k2 h (fun (r0 : Int) (h : Heap) => K (.int .u8 r0) h) =
    den Tryz.prog noFns Tryz.f44.ntmps plan44 (bodyOf Tryz.f44) (args0 0 [(.int .i64 n1 : Value), (.int .i64 k2 : Value)]) h ⟨fun env h => dRes Tryz.prog Tryz.f44.results.toList env h K, fun _ _ _ => False, fun env h => dRes Tryz.prog Tryz.f44.results.toList env h K⟩ := by kernel_rfl
def E_law1_at_of (f : Int → Int → Heap → (Int → Heap → Prop) → Prop) : List Value → Heap → (Value → Heap → Prop) → Prop
  | [v0, v1], h, K => dec1 (.int .i64) v0 fun (n1 : Int) =>
  dec1 (.int .i64) v1 fun (k2 : Int) =>
  f n1 k2 h (fun (r0 : Int) (h : Heap) => K (.int .u8 r0) h)
  | _, _, _ => False
abbrev E_law1_at := E_law1_at_of F_law1_at
theorem E_law1_at.right : IsRight Tryz.prog 44 E_law1_at := by
  refine isRight fun vs K w hh => ?_
  match vs, hh with
  | [v0, v1], hh =>
    unfold E_law1_at E_law1_at_of at hh
    replace hh := dec1_sound hh; obtain ⟨n1, rfl, hh⟩ := hh
    replace hh := dec1_sound hh; obtain ⟨k2, rfl, hh⟩ := hh
    unfold F_law1_at at hh
    exact calls_den noFns_right plan44 _ w K Tryz.func44 (by kernel_rfl) (by kernel_rfl) (Eq.mp (F_law1_at.eq  n1 k2 w.heap K) hh)
theorem ok44 : okFn Tryz.prog 44 = true := by kernel_rfl
end Go.Proofs.YtigcpkejjjgkeaaGreat.V
namespace Go.Proofs.YtigcpkejjjgkeaaGreat.V
open Go Go.RowKit
set_option linter.unusedVariables false
set_option maxRecDepth 100000
def F_law1_two_of (f44_ : Int → Int → Heap → (Int → Heap → Prop) → Prop) (x1 : Sl) (m2 : Int) (h : Heap) (Q : Bool → Heap → Prop) : Prop :=
  jn [(4, .one .bool)] (fun (x12 : Bool) (h13 : Heap) =>
  Q x12 h13) (fun (j3 : Bool → Heap → Prop) =>
  brr (((x1.len : Nat) : Int) == 2)
  (ixS 1 x1 0 fun (a4 : Addr) =>
  ld [.int .u8] a4 h fun (v5 : Int) =>
  f44_ m2 0 h fun (r6 : Int) (h7 : Heap) =>
  cellsAre h7 a4 [.int .u8 v5] ∧
  brr (v5 == r6)
  (ixS 1 x1 1 fun (a8 : Addr) =>
  ld [.int .u8] a8 h7 fun (v9 : Int) =>
  f44_ m2 1 h7 fun (r10 : Int) (h11 : Heap) =>
  cellsAre h11 a8 [.int .u8 v9] ∧
  j3 (v9 == r10) h11)
  (j3 false h7))
  (j3 false h))
def F_law1_two (x1 : Sl) (m2 : Int) (h : Heap) (Q : Bool → Heap → Prop) : Prop := F_law1_two_of F_law1_at x1 m2 h Q
def plan96 : Plan := .s (.r [0, 1]) (.s (.dj [0, 1, 3, 7, 15, 31, 63, 15, 143, 511, 1023, 2047, 4095, 8191, 16383, 4095, 36863, 131071, 262143, 524287] [[0, 1, 2, 3, 4, 5, 6, 7, 8, 9, 10, 11, 12, 13, 14, 15, 16, 17, 18, 19]] [(4, .one .bool)] []) .z)
theorem F_law1_two.eq (f44_ : Int → Int → Heap → (Int → Heap → Prop) → Prop) (x1 : Sl) (m2 : Int) (h : Heap) (K : Value → Heap → Prop) : F_law1_two_of f44_ x1 m2 h (fun (r0 : Bool) (h : Heap) => K (.bool r0) h) =
    den Tryz.prog (fn1 44 (E_law1_at_of f44_) noFns) Tryz.f96.ntmps plan96 (bodyOf Tryz.f96) (args0 0 [(.slice x1.ptr x1.len x1.cap : Value), (.int .i64 m2 : Value)]) h ⟨fun env h => dRes Tryz.prog Tryz.f96.results.toList env h K, fun _ _ _ => False, fun env h => dRes Tryz.prog Tryz.f96.results.toList env h K⟩ := by kernel_rfl
def E_law1_two_of (f : Sl → Int → Heap → (Bool → Heap → Prop) → Prop) : List Value → Heap → (Value → Heap → Prop) → Prop
  | [v0, v1], h, K => dec1 .sl v0 fun (x1 : Sl) =>
  dec1 (.int .i64) v1 fun (m2 : Int) =>
  f x1 m2 h (fun (r0 : Bool) (h : Heap) => K (.bool r0) h)
  | _, _, _ => False
abbrev E_law1_two := E_law1_two_of F_law1_two
theorem E_law1_two.right : IsRight Tryz.prog 96 E_law1_two := by
  refine isRight fun vs K w hh => ?_
  match vs, hh with
  | [v0, v1], hh =>
    unfold E_law1_two E_law1_two_of at hh
    replace hh := dec1_sound hh; obtain ⟨x1, rfl, hh⟩ := hh
    replace hh := dec1_sound hh; obtain ⟨m2, rfl, hh⟩ := hh
    unfold F_law1_two at hh
    exact calls_den (fn1_right ok44 E_law1_at.right noFns_right) plan96 _ w K Tryz.func96 (by kernel_rfl) (by kernel_rfl) (Eq.mp (F_law1_two.eq F_law1_at x1 m2 w.heap K) hh)
theorem ok96 : okFn Tryz.prog 96 = true := by kernel_rfl
end Go.Proofs.YtigcpkejjjgkeaaGreat.V
namespace Go.Proofs.YtigcpkejjjgkeaaGreat.V
open Go Go.RowKit
set_option linter.unusedVariables false
set_option maxRecDepth 100000
def F_law1_Book_plain.l1 (f44_ : Int → Int → Heap → (Int → Heap → Prop) → Prop) (b1 : Option Addr) (Q : Bool → Heap → Prop) (i4 : Int) (j9 : Heap → Prop) : Int → Heap → Prop :=
  wl [(4, .one (.int .i64))] (fun (next10 : Int → Heap → Prop) (k11 : Int) (h12 : Heap) =>
  nn b1 fun (a13 : Addr) =>
  ld [.sl] (a13.add 0) h12 fun (v14 : Sl) =>
  ixS 1 v14 i4 fun (a15 : Addr) =>
  ld [.sl] a15 h12 fun (v16 : Sl) =>
  brr (decide (k11 < ((v16.len : Nat) : Int)))
  (nn b1 fun (a17 : Addr) =>
  ld [.sl] (a17.add 0) h12 fun (v18 : Sl) =>
  ixS 1 v18 i4 fun (a19 : Addr) =>
  ld [.sl] a19 h12 fun (v20 : Sl) =>
  ixS 1 v20 k11 fun (a21 : Addr) =>
  ld [.int .u8] a21 h12 fun (v22 : Int) =>
  nn b1 fun (a23 : Addr) =>
  ld [.sl] (a23.add 1) h12 fun (v24 : Sl) =>
  ixS 1 v24 i4 fun (a25 : Addr) =>
  ld [.int .i64] a25 h12 fun (v26 : Int) =>
  f44_ v26 k11 h12 fun (r27 : Int) (h28 : Heap) =>
  cellsAre h28 (a17.add 0) [.slice v18.ptr v18.len v18.cap] ∧
  cellsAre h28 a19 [.slice v20.ptr v20.len v20.cap] ∧
  cellsAre h28 a21 [.int .u8 v22] ∧
  brr (v22 != r27)
  (Q false h28)
  (next10 (IntKind.i64.wrap (k11 + 1)) h28))
  (j9 h12))
def F_law1_Book_plain.l2 (f44_ : Int → Int → Heap → (Int → Heap → Prop) → Prop) (b1 : Option Addr) (Q : Bool → Heap → Prop) (j2 : Heap → Prop) : Int → Heap → Prop :=
  wl [(3, .one (.int .i64))] (fun (next3 : Int → Heap → Prop) (i4 : Int) (h5 : Heap) =>
  nn b1 fun (a6 : Addr) =>
  ld [.sl] (a6.add 0) h5 fun (v7 : Sl) =>
  brr (decide (i4 < ((v7.len : Nat) : Int)))
  (jn [] (fun  (h30 : Heap) =>
  next3 (IntKind.i64.wrap (i4 + 1)) h30) (fun (j8 : Heap → Prop) =>
  jn [] (fun  (h29 : Heap) =>
  j8 h29) (fun (j9 : Heap → Prop) =>
  F_law1_Book_plain.l1 f44_ b1 Q i4 j9 0 h5)))
  (j2 h5))
def F_law1_Book_plain.l3 (f96_ : Sl → Int → Heap → (Bool → Heap → Prop) → Prop) (b1 : Option Addr) (Q : Bool → Heap → Prop) (i34 : Int) (j39 : Heap → Prop) : Int → Heap → Prop :=
  wl [(6, .one (.int .i64))] (fun (next40 : Int → Heap → Prop) (k41 : Int) (h42 : Heap) =>
  nn b1 fun (a43 : Addr) =>
  ld [.sl] (a43.add 3) h42 fun (v44 : Sl) =>
  ixS 1 v44 i34 fun (a45 : Addr) =>
  ld [.sl] a45 h42 fun (v46 : Sl) =>
  brr (decide (k41 < ((v46.len : Nat) : Int)))
  (nn b1 fun (a47 : Addr) =>
  ld [.sl] (a47.add 3) h42 fun (v48 : Sl) =>
  ixS 1 v48 i34 fun (a49 : Addr) =>
  ld [.sl] a49 h42 fun (v50 : Sl) =>
  ixS 1 v50 k41 fun (a51 : Addr) =>
  ld [.sl] a51 h42 fun (v52 : Sl) =>
  nn b1 fun (a53 : Addr) =>
  ld [.sl] (a53.add 4) h42 fun (v54 : Sl) =>
  ixS 1 v54 i34 fun (a55 : Addr) =>
  ld [.int .i64] a55 h42 fun (v56 : Int) =>
  f96_ v52 v56 h42 fun (r57 : Bool) (h58 : Heap) =>
  brr (!r57)
  (Q false h58)
  (next40 (IntKind.i64.wrap (k41 + 1)) h58))
  (j39 h42))
def F_law1_Book_plain.l4 (f96_ : Sl → Int → Heap → (Bool → Heap → Prop) → Prop) (b1 : Option Addr) (Q : Bool → Heap → Prop) (j32 : Heap → Prop) : Int → Heap → Prop :=
  wl [(5, .one (.int .i64))] (fun (next33 : Int → Heap → Prop) (i34 : Int) (h35 : Heap) =>
  nn b1 fun (a36 : Addr) =>
  ld [.sl] (a36.add 3) h35 fun (v37 : Sl) =>
  brr (decide (i34 < ((v37.len : Nat) : Int)))
  (jn [] (fun  (h60 : Heap) =>
  next33 (IntKind.i64.wrap (i34 + 1)) h60) (fun (j38 : Heap → Prop) =>
  jn [] (fun  (h59 : Heap) =>
  j38 h59) (fun (j39 : Heap → Prop) =>
  F_law1_Book_plain.l3 f96_ b1 Q i34 j39 0 h35)))
  (j32 h35))
def F_law1_Book_plain_of (f44_ : Int → Int → Heap → (Int → Heap → Prop) → Prop) (f96_ : Sl → Int → Heap → (Bool → Heap → Prop) → Prop) (b1 : Option Addr) (h : Heap) (Q : Bool → Heap → Prop) : Prop :=
  jn [] (fun  (h31 : Heap) =>
  jn [] (fun  (h61 : Heap) =>
  Q true h61) (fun (j32 : Heap → Prop) =>
  F_law1_Book_plain.l4 f96_ b1 Q j32 0 h31)) (fun (j2 : Heap → Prop) =>
  F_law1_Book_plain.l2 f44_ b1 Q j2 0 h)
def F_law1_Book_plain (b1 : Option Addr) (h : Heap) (Q : Bool → Heap → Prop) : Prop := F_law1_Book_plain_of F_law1_at F_law1_two b1 h Q
def plan68 : Plan := .s (.r [0]) (.s (.s (.r [0, 3]) (.bj [] [0] (.l [(3, .one (.int .i64))] [0] (.s (.s (.r [0, 3, 13]) (.c .z .z)) (.s (.bj [] [0, 3] (.s (.r [0, 3, 4]) (.bj [] [0, 3] (.l [(4, .one (.int .i64))] [0, 3] (.s (.s (.r [0, 3, 4, 25]) (.c .z .z)) (.s (.b (.s (.d [0, 1, 3, 7, 0, 31, 63, 0, 255, 511, 0, 1024, 3072, 7168, 0, 31744, 64512, 0, 261120, 524287] [[0, 1, 2, 3, 4, 5, 6, 7, 8, 9, 10, 11, 12, 13, 14, 15, 16, 17, 18, 19]] [0, 3, 4, 47]) (.c (.s (.r [2]) .z) .z))) (.r [0, 3, 4]))))))) (.r [0, 3])))))) (.s (.s (.r [0, 5]) (.bj [] [] (.l [(5, .one (.int .i64))] [0] (.s (.s (.r [0, 5, 54]) (.c .z .z)) (.s (.bj [] [0, 5] (.s (.r [0, 5, 6]) (.bj [] [0, 5] (.l [(6, .one (.int .i64))] [0, 5] (.s (.s (.r [0, 5, 6, 66]) (.c .z .z)) (.s (.b (.s (.d [0, 1, 3, 7, 0, 31, 63, 0, 255, 511, 0, 1024, 3072, 7168, 0, 31744, 64512, 131071, 262143] [[0, 1, 2, 3, 4, 5, 6, 7, 8, 9, 10, 11, 12, 13, 14, 15, 16, 17, 18]] [0, 5, 6, 87]) (.c (.s (.r [2]) .z) .z))) (.r [0, 5, 6]))))))) (.r [0, 5])))))) (.s (.r [2]) .z)))
theorem F_law1_Book_plain.eq (f44_ : Int → Int → Heap → (Int → Heap → Prop) → Prop) (f96_ : Sl → Int → Heap → (Bool → Heap → Prop) → Prop) (b1 : Option Addr) (h : Heap) (K : Value → Heap → Prop) : F_law1_Book_plain_of f44_ f96_ b1 h (fun (r0 : Bool) (h : Heap) => K (.bool r0) h) =
    den Tryz.prog (fn1 44 (E_law1_at_of f44_) (fn1 96 (E_law1_two_of f96_) noFns)) Tryz.f68.ntmps plan68 (bodyOf Tryz.f68) (args0 0 [(.pointer b1 : Value)]) h ⟨fun env h => dRes Tryz.prog Tryz.f68.results.toList env h K, fun _ _ _ => False, fun env h => dRes Tryz.prog Tryz.f68.results.toList env h K⟩ := by kernel_rfl
def E_law1_Book_plain_of (f : Option Addr → Heap → (Bool → Heap → Prop) → Prop) : List Value → Heap → (Value → Heap → Prop) → Prop
  | [v0], h, K => dec1 .ptr v0 fun (b1 : Option Addr) =>
  f b1 h (fun (r0 : Bool) (h : Heap) => K (.bool r0) h)
  | _, _, _ => False
abbrev E_law1_Book_plain := E_law1_Book_plain_of F_law1_Book_plain
theorem E_law1_Book_plain.right : IsRight Tryz.prog 68 E_law1_Book_plain := by
  refine isRight fun vs K w hh => ?_
  match vs, hh with
  | [v0], hh =>
    unfold E_law1_Book_plain E_law1_Book_plain_of at hh
    replace hh := dec1_sound hh; obtain ⟨b1, rfl, hh⟩ := hh
    unfold F_law1_Book_plain at hh
    exact calls_den (fn1_right ok44 E_law1_at.right (fn1_right ok96 E_law1_two.right noFns_right)) plan68 _ w K Tryz.func68 (by kernel_rfl) (by kernel_rfl) (Eq.mp (F_law1_Book_plain.eq F_law1_at F_law1_two b1 w.heap K) hh)
theorem ok68 : okFn Tryz.prog 68 = true := by kernel_rfl
end Go.Proofs.YtigcpkejjjgkeaaGreat.V
namespace Go.Proofs.YtigcpkejjjgkeaaGreat.V
open Go Go.RowKit
set_option linter.unusedVariables false
set_option maxRecDepth 100000
def F_law1_textsMark_of (f44_ : Int → Int → Heap → (Int → Heap → Prop) → Prop) (m1 : Int) (h : Heap) (Q : ByteArray → Heap → Prop) : Prop :=
  f44_ m1 0 h fun (r2 : Int) (h3 : Heap) =>
  f44_ m1 1 h3 fun (r4 : Int) (h5 : Heap) =>
  al 5 [.int .u8 r2, .int .u8 r4, .int .u8 33] h5 fun (a6 : Addr) (h7 : Heap) =>
  b2s (some a6) 3 h7 fun (s8 : ByteArray) =>
  Q s8 h7
def F_law1_textsMark (m1 : Int) (h : Heap) (Q : ByteArray → Heap → Prop) : Prop := F_law1_textsMark_of F_law1_at m1 h Q
def plan97 : Plan := .s (.r [0]) (.s (.r [2]) .z)
theorem F_law1_textsMark.eq (f44_ : Int → Int → Heap → (Int → Heap → Prop) → Prop) (m1 : Int) (h : Heap) (K : Value → Heap → Prop) : F_law1_textsMark_of f44_ m1 h (fun (r0 : ByteArray) (h : Heap) => K (.string r0) h) =
    den Tryz.prog (fn1 44 (E_law1_at_of f44_) noFns) Tryz.f97.ntmps plan97 (bodyOf Tryz.f97) (args0 0 [(.int .i64 m1 : Value)]) h ⟨fun env h => dRes Tryz.prog Tryz.f97.results.toList env h K, fun _ _ _ => False, fun env h => dRes Tryz.prog Tryz.f97.results.toList env h K⟩ := by kernel_rfl
def E_law1_textsMark_of (f : Int → Heap → (ByteArray → Heap → Prop) → Prop) : List Value → Heap → (Value → Heap → Prop) → Prop
  | [v0], h, K => dec1 (.int .i64) v0 fun (m1 : Int) =>
  f m1 h (fun (r0 : ByteArray) (h : Heap) => K (.string r0) h)
  | _, _, _ => False
abbrev E_law1_textsMark := E_law1_textsMark_of F_law1_textsMark
theorem E_law1_textsMark.right : IsRight Tryz.prog 97 E_law1_textsMark := by
  refine isRight fun vs K w hh => ?_
  match vs, hh with
  | [v0], hh =>
    unfold E_law1_textsMark E_law1_textsMark_of at hh
    replace hh := dec1_sound hh; obtain ⟨m1, rfl, hh⟩ := hh
    unfold F_law1_textsMark at hh
    exact calls_den (fn1_right ok44 E_law1_at.right noFns_right) plan97 _ w K Tryz.func97 (by kernel_rfl) (by kernel_rfl) (Eq.mp (F_law1_textsMark.eq F_law1_at m1 w.heap K) hh)
theorem ok97 : okFn Tryz.prog 97 = true := by kernel_rfl
end Go.Proofs.YtigcpkejjjgkeaaGreat.V
namespace Go.Proofs.YtigcpkejjjgkeaaGreat.V
open Go Go.RowKit
set_option linter.unusedVariables false
set_option maxRecDepth 100000
def F_law1_intsMark_of  (m1 : Int) (h : Heap) (Q : Int → Heap → Prop) : Prop :=
  Q (IntKind.i64.wrap (1000 + m1)) h
def F_law1_intsMark (m1 : Int) (h : Heap) (Q : Int → Heap → Prop) : Prop := F_law1_intsMark_of  m1 h Q
def plan98 : Plan := .s (.r [0]) (.s (.r [2]) .z)
theorem F_law1_intsMark.eq  (m1 : Int) (h : Heap) (K : Value → Heap → Prop) : F_law1_intsMark_of  m1 h (fun (r0 : Int) (h : Heap) => K (.int .i64 r0) h) =
    den Tryz.prog noFns Tryz.f98.ntmps plan98 (bodyOf Tryz.f98) (args0 0 [(.int .i64 m1 : Value)]) h ⟨fun env h => dRes Tryz.prog Tryz.f98.results.toList env h K, fun _ _ _ => False, fun env h => dRes Tryz.prog Tryz.f98.results.toList env h K⟩ := by kernel_rfl
def E_law1_intsMark_of (f : Int → Heap → (Int → Heap → Prop) → Prop) : List Value → Heap → (Value → Heap → Prop) → Prop
  | [v0], h, K => dec1 (.int .i64) v0 fun (m1 : Int) =>
  f m1 h (fun (r0 : Int) (h : Heap) => K (.int .i64 r0) h)
  | _, _, _ => False
abbrev E_law1_intsMark := E_law1_intsMark_of F_law1_intsMark
theorem E_law1_intsMark.right : IsRight Tryz.prog 98 E_law1_intsMark := by
  refine isRight fun vs K w hh => ?_
  match vs, hh with
  | [v0], hh =>
    unfold E_law1_intsMark E_law1_intsMark_of at hh
    replace hh := dec1_sound hh; obtain ⟨m1, rfl, hh⟩ := hh
    unfold F_law1_intsMark at hh
    exact calls_den noFns_right plan98 _ w K Tryz.func98 (by kernel_rfl) (by kernel_rfl) (Eq.mp (F_law1_intsMark.eq  m1 w.heap K) hh)
theorem ok98 : okFn Tryz.prog 98 = true := by kernel_rfl
end Go.Proofs.YtigcpkejjjgkeaaGreat.V
namespace Go.Proofs.YtigcpkejjjgkeaaGreat.V
open Go Go.RowKit
set_option linter.unusedVariables false
set_option maxRecDepth 100000
def F_law1_wordsMark_of  (m1 : Int) (h : Heap) (Q : Int → Heap → Prop) : Prop :=
  0 ≤ (20 : Int) ∧
  Q (IntKind.u64.wrap ((IntKind.u64.wrap m1) * 2 ^ min (20 : Int).toNat IntKind.u64.bits)) h
def F_law1_wordsMark (m1 : Int) (h : Heap) (Q : Int → Heap → Prop) : Prop := F_law1_wordsMark_of  m1 h Q
def plan99 : Plan := .s (.r [0]) (.s (.r [2]) .z)
theorem F_law1_wordsMark.eq  (m1 : Int) (h : Heap) (K : Value → Heap → Prop) : F_law1_wordsMark_of  m1 h (fun (r0 : Int) (h : Heap) => K (.int .u64 r0) h) =
    den Tryz.prog noFns Tryz.f99.ntmps plan99 (bodyOf Tryz.f99) (args0 0 [(.int .i64 m1 : Value)]) h ⟨fun env h => dRes Tryz.prog Tryz.f99.results.toList env h K, fun _ _ _ => False, fun env h => dRes Tryz.prog Tryz.f99.results.toList env h K⟩ := by kernel_rfl
def E_law1_wordsMark_of (f : Int → Heap → (Int → Heap → Prop) → Prop) : List Value → Heap → (Value → Heap → Prop) → Prop
  | [v0], h, K => dec1 (.int .i64) v0 fun (m1 : Int) =>
  f m1 h (fun (r0 : Int) (h : Heap) => K (.int .u64 r0) h)
  | _, _, _ => False
abbrev E_law1_wordsMark := E_law1_wordsMark_of F_law1_wordsMark
theorem E_law1_wordsMark.right : IsRight Tryz.prog 99 E_law1_wordsMark := by
  refine isRight fun vs K w hh => ?_
  match vs, hh with
  | [v0], hh =>
    unfold E_law1_wordsMark E_law1_wordsMark_of at hh
    replace hh := dec1_sound hh; obtain ⟨m1, rfl, hh⟩ := hh
    unfold F_law1_wordsMark at hh
    exact calls_den noFns_right plan99 _ w K Tryz.func99 (by kernel_rfl) (by kernel_rfl) (Eq.mp (F_law1_wordsMark.eq  m1 w.heap K) hh)
theorem ok99 : okFn Tryz.prog 99 = true := by kernel_rfl
end Go.Proofs.YtigcpkejjjgkeaaGreat.V
namespace Go.Proofs.YtigcpkejjjgkeaaGreat.V
open Go Go.RowKit
set_option linter.unusedVariables false
set_option maxRecDepth 100000
def F_law1_donesMark_of  (m1 : Int) (h : Heap) (Q : Int → Int → Int → Int → Int → Heap → Prop) : Prop :=
  al 132 [.int .i64 0, .int .u64 0, .int .i64 0, .int .i64 0, .int .u64 0] h fun (a2 : Addr) (h3 : Heap) =>
  0 ≤ (20 : Int) ∧
  st a2 [.int .i64 0, .int .u64 (IntKind.u64.wrap ((IntKind.u64.wrap m1) * 2 ^ min (20 : Int).toNat IntKind.u64.bits)), .int .i64 0, .int .i64 0, .int .u64 0] h3 fun (h4 : Heap) =>
  ld [.int .i64, .int .u64, .int .i64, .int .i64, .int .u64] a2 h4 fun (v5 v6 v7 v8 v9 : Int) =>
  Q v5 v6 v7 v8 v9 h4
def F_law1_donesMark (m1 : Int) (h : Heap) (Q : Int → Int → Int → Int → Int → Heap → Prop) : Prop := F_law1_donesMark_of  m1 h Q
def plan100 : Plan := .s (.r [0, 2]) (.s (.r [2]) .z)
theorem F_law1_donesMark.eq  (m1 : Int) (h : Heap) (K : Value → Heap → Prop) : F_law1_donesMark_of  m1 h (fun (r0 r1 r2 r3 r4 : Int) (h : Heap) => K (.agg #[.int .i64 r0, .int .u64 r1, .int .i64 r2, .int .i64 r3, .int .u64 r4]) h) =
    den Tryz.prog noFns Tryz.f100.ntmps plan100 (bodyOf Tryz.f100) (args0 0 [(.int .i64 m1 : Value)]) h ⟨fun env h => dRes Tryz.prog Tryz.f100.results.toList env h K, fun _ _ _ => False, fun env h => dRes Tryz.prog Tryz.f100.results.toList env h K⟩ := by kernel_rfl
def E_law1_donesMark_of (f : Int → Heap → (Int → Int → Int → Int → Int → Heap → Prop) → Prop) : List Value → Heap → (Value → Heap → Prop) → Prop
  | [v0], h, K => dec1 (.int .i64) v0 fun (m1 : Int) =>
  f m1 h (fun (r0 r1 r2 r3 r4 : Int) (h : Heap) => K (.agg #[.int .i64 r0, .int .u64 r1, .int .i64 r2, .int .i64 r3, .int .u64 r4]) h)
  | _, _, _ => False
abbrev E_law1_donesMark := E_law1_donesMark_of F_law1_donesMark
theorem E_law1_donesMark.right : IsRight Tryz.prog 100 E_law1_donesMark := by
  refine isRight fun vs K w hh => ?_
  match vs, hh with
  | [v0], hh =>
    unfold E_law1_donesMark E_law1_donesMark_of at hh
    replace hh := dec1_sound hh; obtain ⟨m1, rfl, hh⟩ := hh
    unfold F_law1_donesMark at hh
    exact calls_den noFns_right plan100 _ w K Tryz.func100 (by kernel_rfl) (by kernel_rfl) (Eq.mp (F_law1_donesMark.eq  m1 w.heap K) hh)
theorem ok100 : okFn Tryz.prog 100 = true := by kernel_rfl
end Go.Proofs.YtigcpkejjjgkeaaGreat.V
namespace Go.Proofs.YtigcpkejjjgkeaaGreat.V
open Go Go.RowKit
set_option linter.unusedVariables false
set_option maxRecDepth 100000
def F_law1_Book_kept.l1 (f97_ : Int → Heap → (ByteArray → Heap → Prop) → Prop) (b1 : Option Addr) (Q : Bool → Heap → Prop) (i4 : Int) (j9 : Heap → Prop) : Int → Heap → Prop :=
  wl [(4, .one (.int .i64))] (fun (next10 : Int → Heap → Prop) (k11 : Int) (h12 : Heap) =>
  nn b1 fun (a13 : Addr) =>
  ld [.sl] (a13.add 6) h12 fun (v14 : Sl) =>
  ixS 1 v14 i4 fun (a15 : Addr) =>
  ld [.sl] a15 h12 fun (v16 : Sl) =>
  brr (decide (k11 < ((v16.len : Nat) : Int)))
  (nn b1 fun (a17 : Addr) =>
  ld [.sl] (a17.add 6) h12 fun (v18 : Sl) =>
  ixS 1 v18 i4 fun (a19 : Addr) =>
  ld [.sl] a19 h12 fun (v20 : Sl) =>
  ixS 1 v20 k11 fun (a21 : Addr) =>
  ld [.str] a21 h12 fun (v22 : ByteArray) =>
  nn b1 fun (a23 : Addr) =>
  ld [.sl] (a23.add 7) h12 fun (v24 : Sl) =>
  ixS 1 v24 i4 fun (a25 : Addr) =>
  ld [.int .i64] a25 h12 fun (v26 : Int) =>
  f97_ v26 h12 fun (r27 : ByteArray) (h28 : Heap) =>
  cellsAre h28 (a17.add 6) [.slice v18.ptr v18.len v18.cap] ∧
  cellsAre h28 a19 [.slice v20.ptr v20.len v20.cap] ∧
  cellsAre h28 a21 [.string v22] ∧
  brr (!(v22.toList == r27.toList))
  (Q false h28)
  (next10 (IntKind.i64.wrap (k11 + 1)) h28))
  (j9 h12))
def F_law1_Book_kept.l2 (f97_ : Int → Heap → (ByteArray → Heap → Prop) → Prop) (b1 : Option Addr) (Q : Bool → Heap → Prop) (j2 : Heap → Prop) : Int → Heap → Prop :=
  wl [(3, .one (.int .i64))] (fun (next3 : Int → Heap → Prop) (i4 : Int) (h5 : Heap) =>
  nn b1 fun (a6 : Addr) =>
  ld [.sl] (a6.add 6) h5 fun (v7 : Sl) =>
  brr (decide (i4 < ((v7.len : Nat) : Int)))
  (jn [] (fun  (h30 : Heap) =>
  next3 (IntKind.i64.wrap (i4 + 1)) h30) (fun (j8 : Heap → Prop) =>
  jn [] (fun  (h29 : Heap) =>
  j8 h29) (fun (j9 : Heap → Prop) =>
  F_law1_Book_kept.l1 f97_ b1 Q i4 j9 0 h5)))
  (j2 h5))
def F_law1_Book_kept.l3 (f98_ : Int → Heap → (Int → Heap → Prop) → Prop) (b1 : Option Addr) (Q : Bool → Heap → Prop) (i34 : Int) (j39 : Heap → Prop) : Int → Heap → Prop :=
  wl [(6, .one (.int .i64))] (fun (next40 : Int → Heap → Prop) (k41 : Int) (h42 : Heap) =>
  nn b1 fun (a43 : Addr) =>
  ld [.sl] (a43.add 9) h42 fun (v44 : Sl) =>
  ixS 1 v44 i34 fun (a45 : Addr) =>
  ld [.sl] a45 h42 fun (v46 : Sl) =>
  brr (decide (k41 < ((v46.len : Nat) : Int)))
  (nn b1 fun (a47 : Addr) =>
  ld [.sl] (a47.add 9) h42 fun (v48 : Sl) =>
  ixS 1 v48 i34 fun (a49 : Addr) =>
  ld [.sl] a49 h42 fun (v50 : Sl) =>
  ixS 1 v50 k41 fun (a51 : Addr) =>
  ld [.int .i64] a51 h42 fun (v52 : Int) =>
  nn b1 fun (a53 : Addr) =>
  ld [.sl] (a53.add 10) h42 fun (v54 : Sl) =>
  ixS 1 v54 i34 fun (a55 : Addr) =>
  ld [.int .i64] a55 h42 fun (v56 : Int) =>
  f98_ v56 h42 fun (r57 : Int) (h58 : Heap) =>
  cellsAre h58 (a47.add 9) [.slice v48.ptr v48.len v48.cap] ∧
  cellsAre h58 a49 [.slice v50.ptr v50.len v50.cap] ∧
  cellsAre h58 a51 [.int .i64 v52] ∧
  brr (v52 != r57)
  (Q false h58)
  (next40 (IntKind.i64.wrap (k41 + 1)) h58))
  (j39 h42))
def F_law1_Book_kept.l4 (f98_ : Int → Heap → (Int → Heap → Prop) → Prop) (b1 : Option Addr) (Q : Bool → Heap → Prop) (j32 : Heap → Prop) : Int → Heap → Prop :=
  wl [(5, .one (.int .i64))] (fun (next33 : Int → Heap → Prop) (i34 : Int) (h35 : Heap) =>
  nn b1 fun (a36 : Addr) =>
  ld [.sl] (a36.add 9) h35 fun (v37 : Sl) =>
  brr (decide (i34 < ((v37.len : Nat) : Int)))
  (jn [] (fun  (h60 : Heap) =>
  next33 (IntKind.i64.wrap (i34 + 1)) h60) (fun (j38 : Heap → Prop) =>
  jn [] (fun  (h59 : Heap) =>
  j38 h59) (fun (j39 : Heap → Prop) =>
  F_law1_Book_kept.l3 f98_ b1 Q i34 j39 0 h35)))
  (j32 h35))
def F_law1_Book_kept.l5 (f99_ : Int → Heap → (Int → Heap → Prop) → Prop) (b1 : Option Addr) (Q : Bool → Heap → Prop) (i64 : Int) (j69 : Heap → Prop) : Int → Heap → Prop :=
  wl [(8, .one (.int .i64))] (fun (next70 : Int → Heap → Prop) (k71 : Int) (h72 : Heap) =>
  nn b1 fun (a73 : Addr) =>
  ld [.sl] (a73.add 12) h72 fun (v74 : Sl) =>
  ixS 1 v74 i64 fun (a75 : Addr) =>
  ld [.sl] a75 h72 fun (v76 : Sl) =>
  brr (decide (k71 < ((v76.len : Nat) : Int)))
  (nn b1 fun (a77 : Addr) =>
  ld [.sl] (a77.add 12) h72 fun (v78 : Sl) =>
  ixS 1 v78 i64 fun (a79 : Addr) =>
  ld [.sl] a79 h72 fun (v80 : Sl) =>
  ixS 1 v80 k71 fun (a81 : Addr) =>
  ld [.int .u64] a81 h72 fun (v82 : Int) =>
  nn b1 fun (a83 : Addr) =>
  ld [.sl] (a83.add 13) h72 fun (v84 : Sl) =>
  ixS 1 v84 i64 fun (a85 : Addr) =>
  ld [.int .i64] a85 h72 fun (v86 : Int) =>
  f99_ v86 h72 fun (r87 : Int) (h88 : Heap) =>
  cellsAre h88 (a77.add 12) [.slice v78.ptr v78.len v78.cap] ∧
  cellsAre h88 a79 [.slice v80.ptr v80.len v80.cap] ∧
  cellsAre h88 a81 [.int .u64 v82] ∧
  brr (v82 != r87)
  (Q false h88)
  (next70 (IntKind.i64.wrap (k71 + 1)) h88))
  (j69 h72))
def F_law1_Book_kept.l6 (f99_ : Int → Heap → (Int → Heap → Prop) → Prop) (b1 : Option Addr) (Q : Bool → Heap → Prop) (j62 : Heap → Prop) : Int → Heap → Prop :=
  wl [(7, .one (.int .i64))] (fun (next63 : Int → Heap → Prop) (i64 : Int) (h65 : Heap) =>
  nn b1 fun (a66 : Addr) =>
  ld [.sl] (a66.add 12) h65 fun (v67 : Sl) =>
  brr (decide (i64 < ((v67.len : Nat) : Int)))
  (jn [] (fun  (h90 : Heap) =>
  next63 (IntKind.i64.wrap (i64 + 1)) h90) (fun (j68 : Heap → Prop) =>
  jn [] (fun  (h89 : Heap) =>
  j68 h89) (fun (j69 : Heap → Prop) =>
  F_law1_Book_kept.l5 f99_ b1 Q i64 j69 0 h65)))
  (j62 h65))
def F_law1_Book_kept.l7 (f100_ : Int → Heap → (Int → Int → Int → Int → Int → Heap → Prop) → Prop) (b1 : Option Addr) (Q : Bool → Heap → Prop) (i94 : Int) (j99 : Heap → Prop) : Int → Heap → Prop :=
  wl [(10, .one (.int .i64))] (fun (next100 : Int → Heap → Prop) (k101 : Int) (h102 : Heap) =>
  nn b1 fun (a103 : Addr) =>
  ld [.sl] (a103.add 15) h102 fun (v104 : Sl) =>
  ixS 1 v104 i94 fun (a105 : Addr) =>
  ld [.sl] a105 h102 fun (v106 : Sl) =>
  brr (decide (k101 < ((v106.len : Nat) : Int)))
  (nn b1 fun (a107 : Addr) =>
  ld [.sl] (a107.add 15) h102 fun (v108 : Sl) =>
  ixS 1 v108 i94 fun (a109 : Addr) =>
  ld [.sl] a109 h102 fun (v110 : Sl) =>
  ixS 5 v110 k101 fun (a111 : Addr) =>
  ld [.int .i64, .int .u64, .int .i64, .int .i64, .int .u64] a111 h102 fun (v112 v113 v114 v115 v116 : Int) =>
  nn b1 fun (a117 : Addr) =>
  ld [.sl] (a117.add 16) h102 fun (v118 : Sl) =>
  ixS 1 v118 i94 fun (a119 : Addr) =>
  ld [.int .i64] a119 h102 fun (v120 : Int) =>
  f100_ v120 h102 fun (r121 r122 r123 r124 r125 : Int) (h126 : Heap) =>
  cellsAre h126 (a107.add 15) [.slice v108.ptr v108.len v108.cap] ∧
  cellsAre h126 a109 [.slice v110.ptr v110.len v110.cap] ∧
  cellsAre h126 a111 [.int .i64 v112, .int .u64 v113, .int .i64 v114, .int .i64 v115, .int .u64 v116] ∧
  brr (!((v112 == r121) && ((v113 == r122) && ((v114 == r123) && ((v115 == r124) && ((v116 == r125) && (true)))))))
  (Q false h126)
  (next100 (IntKind.i64.wrap (k101 + 1)) h126))
  (j99 h102))
def F_law1_Book_kept.l8 (f100_ : Int → Heap → (Int → Int → Int → Int → Int → Heap → Prop) → Prop) (b1 : Option Addr) (Q : Bool → Heap → Prop) (j92 : Heap → Prop) : Int → Heap → Prop :=
  wl [(9, .one (.int .i64))] (fun (next93 : Int → Heap → Prop) (i94 : Int) (h95 : Heap) =>
  nn b1 fun (a96 : Addr) =>
  ld [.sl] (a96.add 15) h95 fun (v97 : Sl) =>
  brr (decide (i94 < ((v97.len : Nat) : Int)))
  (jn [] (fun  (h128 : Heap) =>
  next93 (IntKind.i64.wrap (i94 + 1)) h128) (fun (j98 : Heap → Prop) =>
  jn [] (fun  (h127 : Heap) =>
  j98 h127) (fun (j99 : Heap → Prop) =>
  F_law1_Book_kept.l7 f100_ b1 Q i94 j99 0 h95)))
  (j92 h95))
def F_law1_Book_kept_of (f97_ : Int → Heap → (ByteArray → Heap → Prop) → Prop) (f98_ : Int → Heap → (Int → Heap → Prop) → Prop) (f99_ : Int → Heap → (Int → Heap → Prop) → Prop) (f100_ : Int → Heap → (Int → Int → Int → Int → Int → Heap → Prop) → Prop) (b1 : Option Addr) (h : Heap) (Q : Bool → Heap → Prop) : Prop :=
  jn [] (fun  (h31 : Heap) =>
  jn [] (fun  (h61 : Heap) =>
  jn [] (fun  (h91 : Heap) =>
  jn [] (fun  (h129 : Heap) =>
  Q true h129) (fun (j92 : Heap → Prop) =>
  F_law1_Book_kept.l8 f100_ b1 Q j92 0 h91)) (fun (j62 : Heap → Prop) =>
  F_law1_Book_kept.l6 f99_ b1 Q j62 0 h61)) (fun (j32 : Heap → Prop) =>
  F_law1_Book_kept.l4 f98_ b1 Q j32 0 h31)) (fun (j2 : Heap → Prop) =>
  F_law1_Book_kept.l2 f97_ b1 Q j2 0 h)
def F_law1_Book_kept (b1 : Option Addr) (h : Heap) (Q : Bool → Heap → Prop) : Prop := F_law1_Book_kept_of F_law1_textsMark F_law1_intsMark F_law1_wordsMark F_law1_donesMark b1 h Q
def plan69 : Plan := .s (.r [0]) (.s (.s (.r [0, 3]) (.bj [] [0] (.l [(3, .one (.int .i64))] [0] (.s (.s (.r [0, 3, 17]) (.c .z .z)) (.s (.bj [] [0, 3] (.s (.r [0, 3, 4]) (.bj [] [0, 3] (.l [(4, .one (.int .i64))] [0, 3] (.s (.s (.r [0, 3, 4, 29]) (.c .z .z)) (.s (.b (.s (.d [0, 1, 3, 7, 0, 31, 63, 0, 255, 511, 0, 1024, 3072, 7168, 0, 31744, 64512, 130048, 262143] [[0, 1, 2, 3, 4, 5, 6, 7, 8, 9, 10, 11, 12, 13, 14, 15, 16, 17, 18]] [0, 3, 4, 50]) (.c (.s (.r [2]) .z) .z))) (.r [0, 3, 4]))))))) (.r [0, 3])))))) (.s (.s (.r [0, 5]) (.bj [] [0] (.l [(5, .one (.int .i64))] [0] (.s (.s (.r [0, 5, 57]) (.c .z .z)) (.s (.bj [] [0, 5] (.s (.r [0, 5, 6]) (.bj [] [0, 5] (.l [(6, .one (.int .i64))] [0, 5] (.s (.s (.r [0, 5, 6, 69]) (.c .z .z)) (.s (.b (.s (.d [0, 1, 3, 7, 0, 31, 63, 0, 255, 511, 0, 1024, 3072, 7168, 0, 31744, 64512, 130048, 262143] [[0, 1, 2, 3, 4, 5, 6, 7, 8, 9, 10, 11, 12, 13, 14, 15, 16, 17, 18]] [0, 5, 6, 90]) (.c (.s (.r [2]) .z) .z))) (.r [0, 5, 6]))))))) (.r [0, 5])))))) (.s (.s (.r [0, 7]) (.bj [] [0] (.l [(7, .one (.int .i64))] [0] (.s (.s (.r [0, 7, 97]) (.c .z .z)) (.s (.bj [] [0, 7] (.s (.r [0, 7, 8]) (.bj [] [0, 7] (.l [(8, .one (.int .i64))] [0, 7] (.s (.s (.r [0, 7, 8, 109]) (.c .z .z)) (.s (.b (.s (.d [0, 1, 3, 7, 0, 31, 63, 0, 255, 511, 0, 1024, 3072, 7168, 0, 31744, 64512, 130048, 262143] [[0, 1, 2, 3, 4, 5, 6, 7, 8, 9, 10, 11, 12, 13, 14, 15, 16, 17, 18]] [0, 7, 8, 130]) (.c (.s (.r [2]) .z) .z))) (.r [0, 7, 8]))))))) (.r [0, 7])))))) (.s (.s (.r [0, 9]) (.bj [] [] (.l [(9, .one (.int .i64))] [0] (.s (.s (.r [0, 9, 137]) (.c .z .z)) (.s (.bj [] [0, 9] (.s (.r [0, 9, 10]) (.bj [] [0, 9] (.l [(10, .one (.int .i64))] [0, 9] (.s (.s (.r [0, 9, 10, 149]) (.c .z .z)) (.s (.b (.s (.d [0, 1, 3, 7, 0, 31, 63, 0, 255, 511, 0, 1024, 3072, 7168, 0, 31744, 64512, 130048, 262143] [[0, 1, 2, 3, 4, 5, 6, 7, 8, 9, 10, 11, 12, 13, 14, 15, 16, 17, 18]] [0, 9, 10, 170]) (.c (.s (.r [2]) .z) .z))) (.r [0, 9, 10]))))))) (.r [0, 9])))))) (.s (.r [2]) .z)))))
theorem F_law1_Book_kept.eq (f97_ : Int → Heap → (ByteArray → Heap → Prop) → Prop) (f98_ : Int → Heap → (Int → Heap → Prop) → Prop) (f99_ : Int → Heap → (Int → Heap → Prop) → Prop) (f100_ : Int → Heap → (Int → Int → Int → Int → Int → Heap → Prop) → Prop) (b1 : Option Addr) (h : Heap) (K : Value → Heap → Prop) : F_law1_Book_kept_of f97_ f98_ f99_ f100_ b1 h (fun (r0 : Bool) (h : Heap) => K (.bool r0) h) =
    den Tryz.prog (fn1 97 (E_law1_textsMark_of f97_) (fn1 98 (E_law1_intsMark_of f98_) (fn1 99 (E_law1_wordsMark_of f99_) (fn1 100 (E_law1_donesMark_of f100_) noFns)))) Tryz.f69.ntmps plan69 (bodyOf Tryz.f69) (args0 0 [(.pointer b1 : Value)]) h ⟨fun env h => dRes Tryz.prog Tryz.f69.results.toList env h K, fun _ _ _ => False, fun env h => dRes Tryz.prog Tryz.f69.results.toList env h K⟩ := by kernel_rfl
def E_law1_Book_kept_of (f : Option Addr → Heap → (Bool → Heap → Prop) → Prop) : List Value → Heap → (Value → Heap → Prop) → Prop
  | [v0], h, K => dec1 .ptr v0 fun (b1 : Option Addr) =>
  f b1 h (fun (r0 : Bool) (h : Heap) => K (.bool r0) h)
  | _, _, _ => False
abbrev E_law1_Book_kept := E_law1_Book_kept_of F_law1_Book_kept
theorem E_law1_Book_kept.right : IsRight Tryz.prog 69 E_law1_Book_kept := by
  refine isRight fun vs K w hh => ?_
  match vs, hh with
  | [v0], hh =>
    unfold E_law1_Book_kept E_law1_Book_kept_of at hh
    replace hh := dec1_sound hh; obtain ⟨b1, rfl, hh⟩ := hh
    unfold F_law1_Book_kept at hh
    exact calls_den (fn1_right ok97 E_law1_textsMark.right (fn1_right ok98 E_law1_intsMark.right (fn1_right ok99 E_law1_wordsMark.right (fn1_right ok100 E_law1_donesMark.right noFns_right)))) plan69 _ w K Tryz.func69 (by kernel_rfl) (by kernel_rfl) (Eq.mp (F_law1_Book_kept.eq F_law1_textsMark F_law1_intsMark F_law1_wordsMark F_law1_donesMark b1 w.heap K) hh)
theorem ok69 : okFn Tryz.prog 69 = true := by kernel_rfl
end Go.Proofs.YtigcpkejjjgkeaaGreat.V
namespace Go.Proofs.YtigcpkejjjgkeaaGreat.V
open Go Go.RowKit
set_option linter.unusedVariables false
set_option maxRecDepth 100000
def F_law1_acctsMark_of  (m1 : Int) (h : Heap) (Q : ByteArray → Int → Heap → Prop) : Prop :=
  al 136 [.string (⟨#[]⟩ : ByteArray), .int .u64 0] h fun (a2 : Addr) (h3 : Heap) =>
  0 ≤ (20 : Int) ∧
  st a2 [.string (⟨#[]⟩ : ByteArray), .int .u64 (IntKind.u64.wrap ((IntKind.u64.wrap m1) * 2 ^ min (20 : Int).toNat IntKind.u64.bits))] h3 fun (h4 : Heap) =>
  ld [.str, .int .u64] a2 h4 fun (v5 : ByteArray) (v6 : Int) =>
  Q v5 v6 h4
def F_law1_acctsMark (m1 : Int) (h : Heap) (Q : ByteArray → Int → Heap → Prop) : Prop := F_law1_acctsMark_of  m1 h Q
def plan101 : Plan := .s (.r [0, 2]) (.s (.r [2]) .z)
theorem F_law1_acctsMark.eq  (m1 : Int) (h : Heap) (K : Value → Heap → Prop) : F_law1_acctsMark_of  m1 h (fun (r0 : ByteArray) (r1 : Int) (h : Heap) => K (.agg #[.string r0, .int .u64 r1]) h) =
    den Tryz.prog noFns Tryz.f101.ntmps plan101 (bodyOf Tryz.f101) (args0 0 [(.int .i64 m1 : Value)]) h ⟨fun env h => dRes Tryz.prog Tryz.f101.results.toList env h K, fun _ _ _ => False, fun env h => dRes Tryz.prog Tryz.f101.results.toList env h K⟩ := by kernel_rfl
def E_law1_acctsMark_of (f : Int → Heap → (ByteArray → Int → Heap → Prop) → Prop) : List Value → Heap → (Value → Heap → Prop) → Prop
  | [v0], h, K => dec1 (.int .i64) v0 fun (m1 : Int) =>
  f m1 h (fun (r0 : ByteArray) (r1 : Int) (h : Heap) => K (.agg #[.string r0, .int .u64 r1]) h)
  | _, _, _ => False
abbrev E_law1_acctsMark := E_law1_acctsMark_of F_law1_acctsMark
theorem E_law1_acctsMark.right : IsRight Tryz.prog 101 E_law1_acctsMark := by
  refine isRight fun vs K w hh => ?_
  match vs, hh with
  | [v0], hh =>
    unfold E_law1_acctsMark E_law1_acctsMark_of at hh
    replace hh := dec1_sound hh; obtain ⟨m1, rfl, hh⟩ := hh
    unfold F_law1_acctsMark at hh
    exact calls_den noFns_right plan101 _ w K Tryz.func101 (by kernel_rfl) (by kernel_rfl) (Eq.mp (F_law1_acctsMark.eq  m1 w.heap K) hh)
theorem ok101 : okFn Tryz.prog 101 = true := by kernel_rfl
end Go.Proofs.YtigcpkejjjgkeaaGreat.V
namespace Go.Proofs.YtigcpkejjjgkeaaGreat.V
open Go Go.RowKit
set_option linter.unusedVariables false
set_option maxRecDepth 100000
def F_law1_queueMark_of  (m1 : Int) (h : Heap) (Q : Int → Int → ByteArray → Int → Heap → Prop) : Prop :=
  al 140 [.int .i64 0, .int .u64 0, .string (⟨#[]⟩ : ByteArray), .int .u64 0] h fun (a2 : Addr) (h3 : Heap) =>
  0 ≤ (20 : Int) ∧
  st a2 [.int .i64 0, .int .u64 (IntKind.u64.wrap ((IntKind.u64.wrap m1) * 2 ^ min (20 : Int).toNat IntKind.u64.bits)), .string (⟨#[]⟩ : ByteArray), .int .u64 0] h3 fun (h4 : Heap) =>
  ld [.int .i64, .int .u64, .str, .int .u64] a2 h4 fun (v5 v6 : Int) (v7 : ByteArray) (v8 : Int) =>
  Q v5 v6 v7 v8 h4
def F_law1_queueMark (m1 : Int) (h : Heap) (Q : Int → Int → ByteArray → Int → Heap → Prop) : Prop := F_law1_queueMark_of  m1 h Q
def plan102 : Plan := .s (.r [0, 2]) (.s (.r [2]) .z)
theorem F_law1_queueMark.eq  (m1 : Int) (h : Heap) (K : Value → Heap → Prop) : F_law1_queueMark_of  m1 h (fun (r0 r1 : Int) (r2 : ByteArray) (r3 : Int) (h : Heap) => K (.agg #[.int .i64 r0, .int .u64 r1, .string r2, .int .u64 r3]) h) =
    den Tryz.prog noFns Tryz.f102.ntmps plan102 (bodyOf Tryz.f102) (args0 0 [(.int .i64 m1 : Value)]) h ⟨fun env h => dRes Tryz.prog Tryz.f102.results.toList env h K, fun _ _ _ => False, fun env h => dRes Tryz.prog Tryz.f102.results.toList env h K⟩ := by kernel_rfl
def E_law1_queueMark_of (f : Int → Heap → (Int → Int → ByteArray → Int → Heap → Prop) → Prop) : List Value → Heap → (Value → Heap → Prop) → Prop
  | [v0], h, K => dec1 (.int .i64) v0 fun (m1 : Int) =>
  f m1 h (fun (r0 r1 : Int) (r2 : ByteArray) (r3 : Int) (h : Heap) => K (.agg #[.int .i64 r0, .int .u64 r1, .string r2, .int .u64 r3]) h)
  | _, _, _ => False
abbrev E_law1_queueMark := E_law1_queueMark_of F_law1_queueMark
theorem E_law1_queueMark.right : IsRight Tryz.prog 102 E_law1_queueMark := by
  refine isRight fun vs K w hh => ?_
  match vs, hh with
  | [v0], hh =>
    unfold E_law1_queueMark E_law1_queueMark_of at hh
    replace hh := dec1_sound hh; obtain ⟨m1, rfl, hh⟩ := hh
    unfold F_law1_queueMark at hh
    exact calls_den noFns_right plan102 _ w K Tryz.func102 (by kernel_rfl) (by kernel_rfl) (Eq.mp (F_law1_queueMark.eq  m1 w.heap K) hh)
theorem ok102 : okFn Tryz.prog 102 = true := by kernel_rfl
end Go.Proofs.YtigcpkejjjgkeaaGreat.V
namespace Go.Proofs.YtigcpkejjjgkeaaGreat.V
open Go Go.RowKit
set_option linter.unusedVariables false
set_option maxRecDepth 100000
def F_law1_slotsMark_of  (m1 : Int) (h : Heap) (Q : Int → Int → Int → Int → Heap → Prop) : Prop :=
  al 144 [.int .u64 0, .int .i64 0, .int .i64 0, .int .u64 0] h fun (a2 : Addr) (h3 : Heap) =>
  0 ≤ (20 : Int) ∧
  st a2 [.int .u64 (IntKind.u64.wrap ((IntKind.u64.wrap m1) * 2 ^ min (20 : Int).toNat IntKind.u64.bits)), .int .i64 0, .int .i64 0, .int .u64 0] h3 fun (h4 : Heap) =>
  ld [.int .u64, .int .i64, .int .i64, .int .u64] a2 h4 fun (v5 v6 v7 v8 : Int) =>
  Q v5 v6 v7 v8 h4
def F_law1_slotsMark (m1 : Int) (h : Heap) (Q : Int → Int → Int → Int → Heap → Prop) : Prop := F_law1_slotsMark_of  m1 h Q
def plan103 : Plan := .s (.r [0, 2]) (.s (.r [2]) .z)
theorem F_law1_slotsMark.eq  (m1 : Int) (h : Heap) (K : Value → Heap → Prop) : F_law1_slotsMark_of  m1 h (fun (r0 r1 r2 r3 : Int) (h : Heap) => K (.agg #[.int .u64 r0, .int .i64 r1, .int .i64 r2, .int .u64 r3]) h) =
    den Tryz.prog noFns Tryz.f103.ntmps plan103 (bodyOf Tryz.f103) (args0 0 [(.int .i64 m1 : Value)]) h ⟨fun env h => dRes Tryz.prog Tryz.f103.results.toList env h K, fun _ _ _ => False, fun env h => dRes Tryz.prog Tryz.f103.results.toList env h K⟩ := by kernel_rfl
def E_law1_slotsMark_of (f : Int → Heap → (Int → Int → Int → Int → Heap → Prop) → Prop) : List Value → Heap → (Value → Heap → Prop) → Prop
  | [v0], h, K => dec1 (.int .i64) v0 fun (m1 : Int) =>
  f m1 h (fun (r0 r1 r2 r3 : Int) (h : Heap) => K (.agg #[.int .u64 r0, .int .i64 r1, .int .i64 r2, .int .u64 r3]) h)
  | _, _, _ => False
abbrev E_law1_slotsMark := E_law1_slotsMark_of F_law1_slotsMark
theorem E_law1_slotsMark.right : IsRight Tryz.prog 103 E_law1_slotsMark := by
  refine isRight fun vs K w hh => ?_
  match vs, hh with
  | [v0], hh =>
    unfold E_law1_slotsMark E_law1_slotsMark_of at hh
    replace hh := dec1_sound hh; obtain ⟨m1, rfl, hh⟩ := hh
    unfold F_law1_slotsMark at hh
    exact calls_den noFns_right plan103 _ w K Tryz.func103 (by kernel_rfl) (by kernel_rfl) (Eq.mp (F_law1_slotsMark.eq  m1 w.heap K) hh)
theorem ok103 : okFn Tryz.prog 103 = true := by kernel_rfl
end Go.Proofs.YtigcpkejjjgkeaaGreat.V
namespace Go.Proofs.YtigcpkejjjgkeaaGreat.V
open Go Go.RowKit
set_option linter.unusedVariables false
set_option maxRecDepth 100000
def F_law1_Book_told.l1 (f101_ : Int → Heap → (ByteArray → Int → Heap → Prop) → Prop) (b1 : Option Addr) (Q : Bool → Heap → Prop) (i4 : Int) (j9 : Heap → Prop) : Int → Heap → Prop :=
  wl [(4, .one (.int .i64))] (fun (next10 : Int → Heap → Prop) (k11 : Int) (h12 : Heap) =>
  nn b1 fun (a13 : Addr) =>
  ld [.sl] (a13.add 18) h12 fun (v14 : Sl) =>
  ixS 1 v14 i4 fun (a15 : Addr) =>
  ld [.sl] a15 h12 fun (v16 : Sl) =>
  brr (decide (k11 < ((v16.len : Nat) : Int)))
  (nn b1 fun (a17 : Addr) =>
  ld [.sl] (a17.add 18) h12 fun (v18 : Sl) =>
  ixS 1 v18 i4 fun (a19 : Addr) =>
  ld [.sl] a19 h12 fun (v20 : Sl) =>
  ixS 2 v20 k11 fun (a21 : Addr) =>
  ld [.str, .int .u64] a21 h12 fun (v22 : ByteArray) (v23 : Int) =>
  nn b1 fun (a24 : Addr) =>
  ld [.sl] (a24.add 19) h12 fun (v25 : Sl) =>
  ixS 1 v25 i4 fun (a26 : Addr) =>
  ld [.int .i64] a26 h12 fun (v27 : Int) =>
  f101_ v27 h12 fun (r28 : ByteArray) (r29 : Int) (h30 : Heap) =>
  cellsAre h30 (a17.add 18) [.slice v18.ptr v18.len v18.cap] ∧
  cellsAre h30 a19 [.slice v20.ptr v20.len v20.cap] ∧
  cellsAre h30 a21 [.string v22, .int .u64 v23] ∧
  brr (!((v22.toList == r28.toList) && ((v23 == r29) && (true))))
  (Q false h30)
  (next10 (IntKind.i64.wrap (k11 + 1)) h30))
  (j9 h12))
def F_law1_Book_told.l2 (f101_ : Int → Heap → (ByteArray → Int → Heap → Prop) → Prop) (b1 : Option Addr) (Q : Bool → Heap → Prop) (j2 : Heap → Prop) : Int → Heap → Prop :=
  wl [(3, .one (.int .i64))] (fun (next3 : Int → Heap → Prop) (i4 : Int) (h5 : Heap) =>
  nn b1 fun (a6 : Addr) =>
  ld [.sl] (a6.add 18) h5 fun (v7 : Sl) =>
  brr (decide (i4 < ((v7.len : Nat) : Int)))
  (jn [] (fun  (h32 : Heap) =>
  next3 (IntKind.i64.wrap (i4 + 1)) h32) (fun (j8 : Heap → Prop) =>
  jn [] (fun  (h31 : Heap) =>
  j8 h31) (fun (j9 : Heap → Prop) =>
  F_law1_Book_told.l1 f101_ b1 Q i4 j9 0 h5)))
  (j2 h5))
def F_law1_Book_told.l3 (f102_ : Int → Heap → (Int → Int → ByteArray → Int → Heap → Prop) → Prop) (b1 : Option Addr) (Q : Bool → Heap → Prop) (i36 : Int) (j41 : Heap → Prop) : Int → Heap → Prop :=
  wl [(6, .one (.int .i64))] (fun (next42 : Int → Heap → Prop) (k43 : Int) (h44 : Heap) =>
  nn b1 fun (a45 : Addr) =>
  ld [.sl] (a45.add 21) h44 fun (v46 : Sl) =>
  ixS 1 v46 i36 fun (a47 : Addr) =>
  ld [.sl] a47 h44 fun (v48 : Sl) =>
  brr (decide (k43 < ((v48.len : Nat) : Int)))
  (nn b1 fun (a49 : Addr) =>
  ld [.sl] (a49.add 21) h44 fun (v50 : Sl) =>
  ixS 1 v50 i36 fun (a51 : Addr) =>
  ld [.sl] a51 h44 fun (v52 : Sl) =>
  ixS 4 v52 k43 fun (a53 : Addr) =>
  ld [.int .i64, .int .u64, .str, .int .u64] a53 h44 fun (v54 v55 : Int) (v56 : ByteArray) (v57 : Int) =>
  nn b1 fun (a58 : Addr) =>
  ld [.sl] (a58.add 22) h44 fun (v59 : Sl) =>
  ixS 1 v59 i36 fun (a60 : Addr) =>
  ld [.int .i64] a60 h44 fun (v61 : Int) =>
  f102_ v61 h44 fun (r62 r63 : Int) (r64 : ByteArray) (r65 : Int) (h66 : Heap) =>
  cellsAre h66 (a49.add 21) [.slice v50.ptr v50.len v50.cap] ∧
  cellsAre h66 a51 [.slice v52.ptr v52.len v52.cap] ∧
  cellsAre h66 a53 [.int .i64 v54, .int .u64 v55, .string v56, .int .u64 v57] ∧
  brr (!((v54 == r62) && ((v55 == r63) && ((v56.toList == r64.toList) && ((v57 == r65) && (true))))))
  (Q false h66)
  (next42 (IntKind.i64.wrap (k43 + 1)) h66))
  (j41 h44))
def F_law1_Book_told.l4 (f102_ : Int → Heap → (Int → Int → ByteArray → Int → Heap → Prop) → Prop) (b1 : Option Addr) (Q : Bool → Heap → Prop) (j34 : Heap → Prop) : Int → Heap → Prop :=
  wl [(5, .one (.int .i64))] (fun (next35 : Int → Heap → Prop) (i36 : Int) (h37 : Heap) =>
  nn b1 fun (a38 : Addr) =>
  ld [.sl] (a38.add 21) h37 fun (v39 : Sl) =>
  brr (decide (i36 < ((v39.len : Nat) : Int)))
  (jn [] (fun  (h68 : Heap) =>
  next35 (IntKind.i64.wrap (i36 + 1)) h68) (fun (j40 : Heap → Prop) =>
  jn [] (fun  (h67 : Heap) =>
  j40 h67) (fun (j41 : Heap → Prop) =>
  F_law1_Book_told.l3 f102_ b1 Q i36 j41 0 h37)))
  (j34 h37))
def F_law1_Book_told.l5 (f103_ : Int → Heap → (Int → Int → Int → Int → Heap → Prop) → Prop) (b1 : Option Addr) (Q : Bool → Heap → Prop) (i72 : Int) (j77 : Heap → Prop) : Int → Heap → Prop :=
  wl [(8, .one (.int .i64))] (fun (next78 : Int → Heap → Prop) (k79 : Int) (h80 : Heap) =>
  nn b1 fun (a81 : Addr) =>
  ld [.sl] (a81.add 24) h80 fun (v82 : Sl) =>
  ixS 1 v82 i72 fun (a83 : Addr) =>
  ld [.sl] a83 h80 fun (v84 : Sl) =>
  brr (decide (k79 < ((v84.len : Nat) : Int)))
  (nn b1 fun (a85 : Addr) =>
  ld [.sl] (a85.add 24) h80 fun (v86 : Sl) =>
  ixS 1 v86 i72 fun (a87 : Addr) =>
  ld [.sl] a87 h80 fun (v88 : Sl) =>
  ixS 4 v88 k79 fun (a89 : Addr) =>
  ld [.int .u64, .int .i64, .int .i64, .int .u64] a89 h80 fun (v90 v91 v92 v93 : Int) =>
  nn b1 fun (a94 : Addr) =>
  ld [.sl] (a94.add 25) h80 fun (v95 : Sl) =>
  ixS 1 v95 i72 fun (a96 : Addr) =>
  ld [.int .i64] a96 h80 fun (v97 : Int) =>
  f103_ v97 h80 fun (r98 r99 r100 r101 : Int) (h102 : Heap) =>
  cellsAre h102 (a85.add 24) [.slice v86.ptr v86.len v86.cap] ∧
  cellsAre h102 a87 [.slice v88.ptr v88.len v88.cap] ∧
  cellsAre h102 a89 [.int .u64 v90, .int .i64 v91, .int .i64 v92, .int .u64 v93] ∧
  brr (!((v90 == r98) && ((v91 == r99) && ((v92 == r100) && ((v93 == r101) && (true))))))
  (Q false h102)
  (next78 (IntKind.i64.wrap (k79 + 1)) h102))
  (j77 h80))
def F_law1_Book_told.l6 (f103_ : Int → Heap → (Int → Int → Int → Int → Heap → Prop) → Prop) (b1 : Option Addr) (Q : Bool → Heap → Prop) (j70 : Heap → Prop) : Int → Heap → Prop :=
  wl [(7, .one (.int .i64))] (fun (next71 : Int → Heap → Prop) (i72 : Int) (h73 : Heap) =>
  nn b1 fun (a74 : Addr) =>
  ld [.sl] (a74.add 24) h73 fun (v75 : Sl) =>
  brr (decide (i72 < ((v75.len : Nat) : Int)))
  (jn [] (fun  (h104 : Heap) =>
  next71 (IntKind.i64.wrap (i72 + 1)) h104) (fun (j76 : Heap → Prop) =>
  jn [] (fun  (h103 : Heap) =>
  j76 h103) (fun (j77 : Heap → Prop) =>
  F_law1_Book_told.l5 f103_ b1 Q i72 j77 0 h73)))
  (j70 h73))
def F_law1_Book_told.l7 (b1 : Option Addr) (Q : Bool → Heap → Prop) (i108 v116 : Int) (j117 : Heap → Prop) : Int → Heap → Prop :=
  wl [(11, .one (.int .i64))] (fun (next118 : Int → Heap → Prop) (k119 : Int) (h120 : Heap) =>
  nn b1 fun (a121 : Addr) =>
  ld [.sl] (a121.add 27) h120 fun (v122 : Sl) =>
  ixS 1 v122 i108 fun (a123 : Addr) =>
  ld [.sl] a123 h120 fun (v124 : Sl) =>
  brr (decide (k119 < ((v124.len : Nat) : Int)))
  (nn b1 fun (a125 : Addr) =>
  ld [.sl] (a125.add 27) h120 fun (v126 : Sl) =>
  ixS 1 v126 i108 fun (a127 : Addr) =>
  ld [.sl] a127 h120 fun (v128 : Sl) =>
  ixS 22 v128 k119 fun (a129 : Addr) =>
  ld [.int .i64, .int .i64, .int .i64, .int .i64, .int .u64, .int .u64, .int .u64, .int .u64, .int .i64, .int .u64, .sl, .int .i64, .int .u64, .str, .str, .int .u64, .int .u64, .int .u64, .int .i64, .int .i64, .int .i64, .int .i64] a129 h120 fun (v130 v131 v132 v133 v134 v135 v136 v137 v138 v139 : Int) (v140 : Sl) (v141 v142 : Int) (v143 v144 : ByteArray) (v145 v146 v147 v148 v149 v150 v151 : Int) =>
  al 61 [.int .i64 0, .int .i64 0, .int .i64 0, .int .i64 0, .int .u64 0, .int .u64 0, .int .u64 0, .int .u64 0, .int .i64 0, .int .u64 0, .slice none 0 0, .int .i64 0, .int .u64 0, .string (⟨#[]⟩ : ByteArray), .string (⟨#[]⟩ : ByteArray), .int .u64 0, .int .u64 0, .int .u64 0, .int .i64 0, .int .i64 0, .int .i64 0, .int .i64 0] h120 fun (a152 : Addr) (h153 : Heap) =>
  st a152 [.int .i64 v130, .int .i64 v131, .int .i64 v132, .int .i64 v133, .int .u64 v134, .int .u64 v135, .int .u64 v136, .int .u64 v137, .int .i64 v138, .int .u64 v139, .slice v140.ptr v140.len v140.cap, .int .i64 v141, .int .u64 v142, .string v143, .string v144, .int .u64 v145, .int .u64 v146, .int .u64 v147, .int .i64 v148, .int .i64 v149, .int .i64 v150, .int .i64 v151] h153 fun (h154 : Heap) =>
  jn [(193, .one .bool)] (fun (x160 : Bool) (h161 : Heap) =>
  brr x160
  (Q false h161)
  (next118 (IntKind.i64.wrap (k119 + 1)) h161)) (fun (j155 : Bool → Heap → Prop) =>
  ld [.int .i64] ((a152.add 0).add 0) h154 fun (v156 : Int) =>
  brr (v156 == (IntKind.i64.wrap (1000 + v116)))
  (ld [.sl] (a152.add 10) h154 fun (v157 : Sl) =>
  brr (((v157.len : Nat) : Int) == 0)
  (ld [.int .u64] (a152.add 4) h154 fun (v158 : Int) =>
  brr (v158 == 0)
  (ld [.str] (a152.add 13) h154 fun (v159 : ByteArray) =>
  j155 (!(v159.toList == (⟨#[]⟩ : ByteArray).toList)) h154)
  (j155 (!false) h154))
  (j155 (!false) h154))
  (j155 (!false) h154)))
  (j117 h120))
def F_law1_Book_told.l8 (b1 : Option Addr) (Q : Bool → Heap → Prop) (j106 : Heap → Prop) : Int → Heap → Prop :=
  wl [(9, .one (.int .i64))] (fun (next107 : Int → Heap → Prop) (i108 : Int) (h109 : Heap) =>
  nn b1 fun (a110 : Addr) =>
  ld [.sl] (a110.add 27) h109 fun (v111 : Sl) =>
  brr (decide (i108 < ((v111.len : Nat) : Int)))
  (jn [] (fun  (h163 : Heap) =>
  next107 (IntKind.i64.wrap (i108 + 1)) h163) (fun (j112 : Heap → Prop) =>
  nn b1 fun (a113 : Addr) =>
  ld [.sl] (a113.add 28) h109 fun (v114 : Sl) =>
  ixS 1 v114 i108 fun (a115 : Addr) =>
  ld [.int .i64] a115 h109 fun (v116 : Int) =>
  jn [] (fun  (h162 : Heap) =>
  j112 h162) (fun (j117 : Heap → Prop) =>
  F_law1_Book_told.l7 b1 Q i108 v116 j117 0 h109)))
  (j106 h109))
def F_law1_Book_told_of (f101_ : Int → Heap → (ByteArray → Int → Heap → Prop) → Prop) (f102_ : Int → Heap → (Int → Int → ByteArray → Int → Heap → Prop) → Prop) (f103_ : Int → Heap → (Int → Int → Int → Int → Heap → Prop) → Prop) (b1 : Option Addr) (h : Heap) (Q : Bool → Heap → Prop) : Prop :=
  jn [] (fun  (h33 : Heap) =>
  jn [] (fun  (h69 : Heap) =>
  jn [] (fun  (h105 : Heap) =>
  jn [] (fun  (h164 : Heap) =>
  Q true h164) (fun (j106 : Heap → Prop) =>
  F_law1_Book_told.l8 b1 Q j106 0 h105)) (fun (j70 : Heap → Prop) =>
  F_law1_Book_told.l6 f103_ b1 Q j70 0 h69)) (fun (j34 : Heap → Prop) =>
  F_law1_Book_told.l4 f102_ b1 Q j34 0 h33)) (fun (j2 : Heap → Prop) =>
  F_law1_Book_told.l2 f101_ b1 Q j2 0 h)
def F_law1_Book_told (b1 : Option Addr) (h : Heap) (Q : Bool → Heap → Prop) : Prop := F_law1_Book_told_of F_law1_acctsMark F_law1_queueMark F_law1_slotsMark b1 h Q
def plan70 : Plan := .s (.r [0]) (.s (.s (.r [0, 3]) (.bj [] [0] (.l [(3, .one (.int .i64))] [0] (.s (.s (.r [0, 3, 19]) (.c .z .z)) (.s (.bj [] [0, 3] (.s (.r [0, 3, 4]) (.bj [] [0, 3] (.l [(4, .one (.int .i64))] [0, 3] (.s (.s (.r [0, 3, 4, 31]) (.c .z .z)) (.s (.b (.s (.d [0, 1, 3, 7, 0, 31, 63, 0, 255, 511, 0, 1024, 3072, 7168, 0, 31744, 64512, 130048, 262143] [[0, 1, 2, 3, 4, 5, 6, 7, 8, 9, 10, 11, 12, 13, 14, 15, 16, 17, 18]] [0, 3, 4, 52]) (.c (.s (.r [2]) .z) .z))) (.r [0, 3, 4]))))))) (.r [0, 3])))))) (.s (.s (.r [0, 5]) (.bj [] [0] (.l [(5, .one (.int .i64))] [0] (.s (.s (.r [0, 5, 59]) (.c .z .z)) (.s (.bj [] [0, 5] (.s (.r [0, 5, 6]) (.bj [] [0, 5] (.l [(6, .one (.int .i64))] [0, 5] (.s (.s (.r [0, 5, 6, 71]) (.c .z .z)) (.s (.b (.s (.d [0, 1, 3, 7, 0, 31, 63, 0, 255, 511, 0, 1024, 3072, 7168, 0, 31744, 64512, 130048, 262143] [[0, 1, 2, 3, 4, 5, 6, 7, 8, 9, 10, 11, 12, 13, 14, 15, 16, 17, 18]] [0, 5, 6, 92]) (.c (.s (.r [2]) .z) .z))) (.r [0, 5, 6]))))))) (.r [0, 5])))))) (.s (.s (.r [0, 7]) (.bj [] [0] (.l [(7, .one (.int .i64))] [0] (.s (.s (.r [0, 7, 99]) (.c .z .z)) (.s (.bj [] [0, 7] (.s (.r [0, 7, 8]) (.bj [] [0, 7] (.l [(8, .one (.int .i64))] [0, 7] (.s (.s (.r [0, 7, 8, 111]) (.c .z .z)) (.s (.b (.s (.d [0, 1, 3, 7, 0, 31, 63, 0, 255, 511, 0, 1024, 3072, 7168, 0, 31744, 64512, 130048, 262143] [[0, 1, 2, 3, 4, 5, 6, 7, 8, 9, 10, 11, 12, 13, 14, 15, 16, 17, 18]] [0, 7, 8, 132]) (.c (.s (.r [2]) .z) .z))) (.r [0, 7, 8]))))))) (.r [0, 7])))))) (.s (.s (.r [0, 9]) (.bj [] [] (.l [(9, .one (.int .i64))] [0] (.s (.s (.r [0, 9, 139]) (.c .z .z)) (.s (.bj [] [0, 9] (.s (.r [0, 9, 10]) (.s (.r [0, 9, 10, 11]) (.bj [] [0, 9] (.l [(11, .one (.int .i64))] [0, 9, 10] (.s (.s (.r [0, 9, 10, 11, 158]) (.c .z .z)) (.s (.b (.s (.r [0, 9, 10, 11, 12]) (.s (.rj [(193, .one .bool)] [0, 9, 10, 11]) (.c (.s (.r [2]) .z) .z)))) (.r [0, 9, 10, 11])))))))) (.r [0, 9])))))) (.s (.r [2]) .z)))))
theorem F_law1_Book_told.eq (f101_ : Int → Heap → (ByteArray → Int → Heap → Prop) → Prop) (f102_ : Int → Heap → (Int → Int → ByteArray → Int → Heap → Prop) → Prop) (f103_ : Int → Heap → (Int → Int → Int → Int → Heap → Prop) → Prop) (b1 : Option Addr) (h : Heap) (K : Value → Heap → Prop) : F_law1_Book_told_of f101_ f102_ f103_ b1 h (fun (r0 : Bool) (h : Heap) => K (.bool r0) h) =
    den Tryz.prog (fn1 101 (E_law1_acctsMark_of f101_) (fn1 102 (E_law1_queueMark_of f102_) (fn1 103 (E_law1_slotsMark_of f103_) noFns))) Tryz.f70.ntmps plan70 (bodyOf Tryz.f70) (args0 0 [(.pointer b1 : Value)]) h ⟨fun env h => dRes Tryz.prog Tryz.f70.results.toList env h K, fun _ _ _ => False, fun env h => dRes Tryz.prog Tryz.f70.results.toList env h K⟩ := by kernel_rfl
def E_law1_Book_told_of (f : Option Addr → Heap → (Bool → Heap → Prop) → Prop) : List Value → Heap → (Value → Heap → Prop) → Prop
  | [v0], h, K => dec1 .ptr v0 fun (b1 : Option Addr) =>
  f b1 h (fun (r0 : Bool) (h : Heap) => K (.bool r0) h)
  | _, _, _ => False
abbrev E_law1_Book_told := E_law1_Book_told_of F_law1_Book_told
theorem E_law1_Book_told.right : IsRight Tryz.prog 70 E_law1_Book_told := by
  refine isRight fun vs K w hh => ?_
  match vs, hh with
  | [v0], hh =>
    unfold E_law1_Book_told E_law1_Book_told_of at hh
    replace hh := dec1_sound hh; obtain ⟨b1, rfl, hh⟩ := hh
    unfold F_law1_Book_told at hh
    exact calls_den (fn1_right ok101 E_law1_acctsMark.right (fn1_right ok102 E_law1_queueMark.right (fn1_right ok103 E_law1_slotsMark.right noFns_right))) plan70 _ w K Tryz.func70 (by kernel_rfl) (by kernel_rfl) (Eq.mp (F_law1_Book_told.eq F_law1_acctsMark F_law1_queueMark F_law1_slotsMark b1 w.heap K) hh)
theorem ok70 : okFn Tryz.prog 70 = true := by kernel_rfl
end Go.Proofs.YtigcpkejjjgkeaaGreat.V
namespace Go.Proofs.YtigcpkejjjgkeaaGreat.V
open Go Go.RowKit
set_option linter.unusedVariables false
set_option maxRecDepth 100000
def F_law1_filesMark_of (f44_ : Int → Int → Heap → (Int → Heap → Prop) → Prop) (m1 : Int) (h : Heap) (Q : ByteArray → Sl → Heap → Prop) : Prop :=
  al 151 [.string (⟨#[]⟩ : ByteArray), .slice none 0 0] h fun (a2 : Addr) (h3 : Heap) =>
  f44_ m1 0 h3 fun (r4 : Int) (h5 : Heap) =>
  f44_ m1 1 h5 fun (r6 : Int) (h7 : Heap) =>
  al 5 [.int .u8 r4, .int .u8 r6, .int .u8 33] h7 fun (a8 : Addr) (h9 : Heap) =>
  b2s (some a8) 3 h9 fun (s10 : ByteArray) =>
  st a2 [.string s10, .slice none 0 0] h9 fun (h11 : Heap) =>
  ld [.str, .sl] a2 h11 fun (v12 : ByteArray) (v13 : Sl) =>
  Q v12 v13 h11
def F_law1_filesMark (m1 : Int) (h : Heap) (Q : ByteArray → Sl → Heap → Prop) : Prop := F_law1_filesMark_of F_law1_at m1 h Q
def plan104 : Plan := .s (.r [0, 2]) (.s (.r [2]) .z)
theorem F_law1_filesMark.eq (f44_ : Int → Int → Heap → (Int → Heap → Prop) → Prop) (m1 : Int) (h : Heap) (K : Value → Heap → Prop) : F_law1_filesMark_of f44_ m1 h (fun (r0 : ByteArray) (r1 : Sl) (h : Heap) => K (.agg #[.string r0, .slice r1.ptr r1.len r1.cap]) h) =
    den Tryz.prog (fn1 44 (E_law1_at_of f44_) noFns) Tryz.f104.ntmps plan104 (bodyOf Tryz.f104) (args0 0 [(.int .i64 m1 : Value)]) h ⟨fun env h => dRes Tryz.prog Tryz.f104.results.toList env h K, fun _ _ _ => False, fun env h => dRes Tryz.prog Tryz.f104.results.toList env h K⟩ := by kernel_rfl
def E_law1_filesMark_of (f : Int → Heap → (ByteArray → Sl → Heap → Prop) → Prop) : List Value → Heap → (Value → Heap → Prop) → Prop
  | [v0], h, K => dec1 (.int .i64) v0 fun (m1 : Int) =>
  f m1 h (fun (r0 : ByteArray) (r1 : Sl) (h : Heap) => K (.agg #[.string r0, .slice r1.ptr r1.len r1.cap]) h)
  | _, _, _ => False
abbrev E_law1_filesMark := E_law1_filesMark_of F_law1_filesMark
theorem E_law1_filesMark.right : IsRight Tryz.prog 104 E_law1_filesMark := by
  refine isRight fun vs K w hh => ?_
  match vs, hh with
  | [v0], hh =>
    unfold E_law1_filesMark E_law1_filesMark_of at hh
    replace hh := dec1_sound hh; obtain ⟨m1, rfl, hh⟩ := hh
    unfold F_law1_filesMark at hh
    exact calls_den (fn1_right ok44 E_law1_at.right noFns_right) plan104 _ w K Tryz.func104 (by kernel_rfl) (by kernel_rfl) (Eq.mp (F_law1_filesMark.eq F_law1_at m1 w.heap K) hh)
theorem ok104 : okFn Tryz.prog 104 = true := by kernel_rfl
end Go.Proofs.YtigcpkejjjgkeaaGreat.V
namespace Go.Proofs.YtigcpkejjjgkeaaGreat.V
open Go Go.RowKit
set_option linter.unusedVariables false
set_option maxRecDepth 100000
def F_law1_Book_held.l1 (b1 : Option Addr) (Q : Bool → Heap → Prop) (i4 v12 : Int) (j13 : Heap → Prop) : Int → Heap → Prop :=
  wl [(5, .one (.int .i64))] (fun (next14 : Int → Heap → Prop) (k15 : Int) (h16 : Heap) =>
  nn b1 fun (a17 : Addr) =>
  ld [.sl] (a17.add 30) h16 fun (v18 : Sl) =>
  ixS 1 v18 i4 fun (a19 : Addr) =>
  ld [.sl] a19 h16 fun (v20 : Sl) =>
  brr (decide (k15 < ((v20.len : Nat) : Int)))
  (nn b1 fun (a21 : Addr) =>
  ld [.sl] (a21.add 30) h16 fun (v22 : Sl) =>
  ixS 1 v22 i4 fun (a23 : Addr) =>
  ld [.sl] a23 h16 fun (v24 : Sl) =>
  ixS 2 v24 k15 fun (a25 : Addr) =>
  ld [.int .i64, .sl] a25 h16 fun (v26 : Int) (v27 : Sl) =>
  al 148 [.int .i64 0, .slice none 0 0] h16 fun (a28 : Addr) (h29 : Heap) =>
  st a28 [.int .i64 v26, .slice v27.ptr v27.len v27.cap] h29 fun (h30 : Heap) =>
  jn [(60, .one .bool)] (fun (x34 : Bool) (h35 : Heap) =>
  brr x34
  (Q false h35)
  (next14 (IntKind.i64.wrap (k15 + 1)) h35)) (fun (j31 : Bool → Heap → Prop) =>
  ld [.int .i64] (a28.add 0) h30 fun (v32 : Int) =>
  brr (v32 == (IntKind.i64.wrap (1000 + v12)))
  (ld [.sl] (a28.add 1) h30 fun (v33 : Sl) =>
  j31 (!(((v33.len : Nat) : Int) == 0)) h30)
  (j31 (!false) h30)))
  (j13 h16))
def F_law1_Book_held.l2 (b1 : Option Addr) (Q : Bool → Heap → Prop) (j2 : Heap → Prop) : Int → Heap → Prop :=
  wl [(3, .one (.int .i64))] (fun (next3 : Int → Heap → Prop) (i4 : Int) (h5 : Heap) =>
  nn b1 fun (a6 : Addr) =>
  ld [.sl] (a6.add 30) h5 fun (v7 : Sl) =>
  brr (decide (i4 < ((v7.len : Nat) : Int)))
  (jn [] (fun  (h37 : Heap) =>
  next3 (IntKind.i64.wrap (i4 + 1)) h37) (fun (j8 : Heap → Prop) =>
  nn b1 fun (a9 : Addr) =>
  ld [.sl] (a9.add 31) h5 fun (v10 : Sl) =>
  ixS 1 v10 i4 fun (a11 : Addr) =>
  ld [.int .i64] a11 h5 fun (v12 : Int) =>
  jn [] (fun  (h36 : Heap) =>
  j8 h36) (fun (j13 : Heap → Prop) =>
  F_law1_Book_held.l1 b1 Q i4 v12 j13 0 h5)))
  (j2 h5))
def F_law1_Book_held.l3 (f104_ : Int → Heap → (ByteArray → Sl → Heap → Prop) → Prop) (b1 : Option Addr) (Q : Bool → Heap → Prop) (i41 v49 : Int) (j50 : Heap → Prop) : Int → Heap → Prop :=
  wl [(9, .one (.int .i64))] (fun (next51 : Int → Heap → Prop) (k52 : Int) (h53 : Heap) =>
  nn b1 fun (a54 : Addr) =>
  ld [.sl] (a54.add 33) h53 fun (v55 : Sl) =>
  ixS 1 v55 i41 fun (a56 : Addr) =>
  ld [.sl] a56 h53 fun (v57 : Sl) =>
  brr (decide (k52 < ((v57.len : Nat) : Int)))
  (nn b1 fun (a58 : Addr) =>
  ld [.sl] (a58.add 33) h53 fun (v59 : Sl) =>
  ixS 1 v59 i41 fun (a60 : Addr) =>
  ld [.sl] a60 h53 fun (v61 : Sl) =>
  ixS 2 v61 k52 fun (a62 : Addr) =>
  ld [.str, .sl] a62 h53 fun (v63 : ByteArray) (v64 : Sl) =>
  al 151 [.string (⟨#[]⟩ : ByteArray), .slice none 0 0] h53 fun (a65 : Addr) (h66 : Heap) =>
  st a65 [.string v63, .slice v64.ptr v64.len v64.cap] h66 fun (h67 : Heap) =>
  jn [(111, .one .bool)] (fun (x74 : Bool) (h75 : Heap) =>
  brr x74
  (Q false h75)
  (next51 (IntKind.i64.wrap (k52 + 1)) h75)) (fun (j68 : Bool → Heap → Prop) =>
  ld [.str] (a65.add 0) h67 fun (v69 : ByteArray) =>
  f104_ v49 h67 fun (r70 : ByteArray) (r71 : Sl) (h72 : Heap) =>
  cellsAre h72 (a65.add 0) [.string v69] ∧
  brr (v69.toList == r70.toList)
  (ld [.sl] (a65.add 1) h72 fun (v73 : Sl) =>
  j68 (!(((v73.len : Nat) : Int) == 0)) h72)
  (j68 (!false) h72)))
  (j50 h53))
def F_law1_Book_held.l4 (f104_ : Int → Heap → (ByteArray → Sl → Heap → Prop) → Prop) (b1 : Option Addr) (Q : Bool → Heap → Prop) (j39 : Heap → Prop) : Int → Heap → Prop :=
  wl [(7, .one (.int .i64))] (fun (next40 : Int → Heap → Prop) (i41 : Int) (h42 : Heap) =>
  nn b1 fun (a43 : Addr) =>
  ld [.sl] (a43.add 33) h42 fun (v44 : Sl) =>
  brr (decide (i41 < ((v44.len : Nat) : Int)))
  (jn [] (fun  (h77 : Heap) =>
  next40 (IntKind.i64.wrap (i41 + 1)) h77) (fun (j45 : Heap → Prop) =>
  nn b1 fun (a46 : Addr) =>
  ld [.sl] (a46.add 34) h42 fun (v47 : Sl) =>
  ixS 1 v47 i41 fun (a48 : Addr) =>
  ld [.int .i64] a48 h42 fun (v49 : Int) =>
  jn [] (fun  (h76 : Heap) =>
  j45 h76) (fun (j50 : Heap → Prop) =>
  F_law1_Book_held.l3 f104_ b1 Q i41 v49 j50 0 h42)))
  (j39 h42))
def F_law1_Book_held_of (f104_ : Int → Heap → (ByteArray → Sl → Heap → Prop) → Prop) (b1 : Option Addr) (h : Heap) (Q : Bool → Heap → Prop) : Prop :=
  jn [] (fun  (h38 : Heap) =>
  jn [] (fun  (h78 : Heap) =>
  Q true h78) (fun (j39 : Heap → Prop) =>
  F_law1_Book_held.l4 f104_ b1 Q j39 0 h38)) (fun (j2 : Heap → Prop) =>
  F_law1_Book_held.l2 b1 Q j2 0 h)
def F_law1_Book_held (b1 : Option Addr) (h : Heap) (Q : Bool → Heap → Prop) : Prop := F_law1_Book_held_of F_law1_filesMark b1 h Q
def plan71 : Plan := .s (.r [0]) (.s (.s (.r [0, 3]) (.bj [] [0] (.l [(3, .one (.int .i64))] [0] (.s (.s (.r [0, 3, 17]) (.c .z .z)) (.s (.bj [] [0, 3] (.s (.r [0, 3, 4]) (.s (.r [0, 3, 4, 5]) (.bj [] [0, 3] (.l [(5, .one (.int .i64))] [0, 3, 4] (.s (.s (.r [0, 3, 4, 5, 36]) (.c .z .z)) (.s (.b (.s (.r [0, 3, 4, 5, 6]) (.s (.rj [(60, .one .bool)] [0, 3, 4, 5]) (.c (.s (.r [2]) .z) .z)))) (.r [0, 3, 4, 5])))))))) (.r [0, 3])))))) (.s (.s (.r [0, 7]) (.bj [] [] (.l [(7, .one (.int .i64))] [0] (.s (.s (.r [0, 7, 67]) (.c .z .z)) (.s (.bj [] [0, 7] (.s (.r [0, 7, 8]) (.s (.r [0, 7, 8, 9]) (.bj [] [0, 7] (.l [(9, .one (.int .i64))] [0, 7, 8] (.s (.s (.r [0, 7, 8, 9, 86]) (.c .z .z)) (.s (.b (.s (.r [0, 7, 8, 9, 10]) (.s (.dj [0, 1, 0, 4, 12, 31, 63, 127, 255, 511, 1023, 2047, 4095] [[0, 1, 2, 3, 4, 5, 6, 7, 8, 9, 10, 11, 12]] [(111, .one .bool)] [0, 7, 8, 9]) (.c (.s (.r [2]) .z) .z)))) (.r [0, 7, 8, 9])))))))) (.r [0, 7])))))) (.s (.r [2]) .z)))
theorem F_law1_Book_held.eq (f104_ : Int → Heap → (ByteArray → Sl → Heap → Prop) → Prop) (b1 : Option Addr) (h : Heap) (K : Value → Heap → Prop) : F_law1_Book_held_of f104_ b1 h (fun (r0 : Bool) (h : Heap) => K (.bool r0) h) =
    den Tryz.prog (fn1 104 (E_law1_filesMark_of f104_) noFns) Tryz.f71.ntmps plan71 (bodyOf Tryz.f71) (args0 0 [(.pointer b1 : Value)]) h ⟨fun env h => dRes Tryz.prog Tryz.f71.results.toList env h K, fun _ _ _ => False, fun env h => dRes Tryz.prog Tryz.f71.results.toList env h K⟩ := by kernel_rfl
def E_law1_Book_held_of (f : Option Addr → Heap → (Bool → Heap → Prop) → Prop) : List Value → Heap → (Value → Heap → Prop) → Prop
  | [v0], h, K => dec1 .ptr v0 fun (b1 : Option Addr) =>
  f b1 h (fun (r0 : Bool) (h : Heap) => K (.bool r0) h)
  | _, _, _ => False
abbrev E_law1_Book_held := E_law1_Book_held_of F_law1_Book_held
theorem E_law1_Book_held.right : IsRight Tryz.prog 71 E_law1_Book_held := by
  refine isRight fun vs K w hh => ?_
  match vs, hh with
  | [v0], hh =>
    unfold E_law1_Book_held E_law1_Book_held_of at hh
    replace hh := dec1_sound hh; obtain ⟨b1, rfl, hh⟩ := hh
    unfold F_law1_Book_held at hh
    exact calls_den (fn1_right ok104 E_law1_filesMark.right noFns_right) plan71 _ w K Tryz.func71 (by kernel_rfl) (by kernel_rfl) (Eq.mp (F_law1_Book_held.eq F_law1_filesMark b1 w.heap K) hh)
theorem ok71 : okFn Tryz.prog 71 = true := by kernel_rfl
end Go.Proofs.YtigcpkejjjgkeaaGreat.V
namespace Go.Proofs.YtigcpkejjjgkeaaGreat.V
open Go Go.RowKit
set_option linter.unusedVariables false
set_option maxRecDepth 100000
def F_law1_Book_holds_of (f68_ : Option Addr → Heap → (Bool → Heap → Prop) → Prop) (f69_ : Option Addr → Heap → (Bool → Heap → Prop) → Prop) (f70_ : Option Addr → Heap → (Bool → Heap → Prop) → Prop) (f71_ : Option Addr → Heap → (Bool → Heap → Prop) → Prop) (b1 : Option Addr) (h : Heap) (Q : Bool → Heap → Prop) : Prop :=
  jn [(2, .one .bool)] (fun (x11 : Bool) (h12 : Heap) =>
  Q x11 h12) (fun (j2 : Bool → Heap → Prop) =>
  f68_ b1 h fun (r3 : Bool) (h4 : Heap) =>
  brr r3
  (f69_ b1 h4 fun (r5 : Bool) (h6 : Heap) =>
  brr r5
  (f70_ b1 h6 fun (r7 : Bool) (h8 : Heap) =>
  brr r7
  (f71_ b1 h8 fun (r9 : Bool) (h10 : Heap) =>
  j2 r9 h10)
  (j2 false h8))
  (j2 false h6))
  (j2 false h4))
def F_law1_Book_holds (b1 : Option Addr) (h : Heap) (Q : Bool → Heap → Prop) : Prop := F_law1_Book_holds_of F_law1_Book_plain F_law1_Book_kept F_law1_Book_told F_law1_Book_held b1 h Q
def plan39 : Plan := .s (.r [0]) (.s (.rj [(2, .one .bool)] []) .z)
theorem F_law1_Book_holds.eq (f68_ : Option Addr → Heap → (Bool → Heap → Prop) → Prop) (f69_ : Option Addr → Heap → (Bool → Heap → Prop) → Prop) (f70_ : Option Addr → Heap → (Bool → Heap → Prop) → Prop) (f71_ : Option Addr → Heap → (Bool → Heap → Prop) → Prop) (b1 : Option Addr) (h : Heap) (K : Value → Heap → Prop) : F_law1_Book_holds_of f68_ f69_ f70_ f71_ b1 h (fun (r0 : Bool) (h : Heap) => K (.bool r0) h) =
    den Tryz.prog (fn1 68 (E_law1_Book_plain_of f68_) (fn1 69 (E_law1_Book_kept_of f69_) (fn1 70 (E_law1_Book_told_of f70_) (fn1 71 (E_law1_Book_held_of f71_) noFns)))) Tryz.f39.ntmps plan39 (bodyOf Tryz.f39) (args0 0 [(.pointer b1 : Value)]) h ⟨fun env h => dRes Tryz.prog Tryz.f39.results.toList env h K, fun _ _ _ => False, fun env h => dRes Tryz.prog Tryz.f39.results.toList env h K⟩ := by kernel_rfl
def E_law1_Book_holds_of (f : Option Addr → Heap → (Bool → Heap → Prop) → Prop) : List Value → Heap → (Value → Heap → Prop) → Prop
  | [v0], h, K => dec1 .ptr v0 fun (b1 : Option Addr) =>
  f b1 h (fun (r0 : Bool) (h : Heap) => K (.bool r0) h)
  | _, _, _ => False
abbrev E_law1_Book_holds := E_law1_Book_holds_of F_law1_Book_holds
theorem E_law1_Book_holds.right : IsRight Tryz.prog 39 E_law1_Book_holds := by
  refine isRight fun vs K w hh => ?_
  match vs, hh with
  | [v0], hh =>
    unfold E_law1_Book_holds E_law1_Book_holds_of at hh
    replace hh := dec1_sound hh; obtain ⟨b1, rfl, hh⟩ := hh
    unfold F_law1_Book_holds at hh
    exact calls_den (fn1_right ok68 E_law1_Book_plain.right (fn1_right ok69 E_law1_Book_kept.right (fn1_right ok70 E_law1_Book_told.right (fn1_right ok71 E_law1_Book_held.right noFns_right)))) plan39 _ w K Tryz.func39 (by kernel_rfl) (by kernel_rfl) (Eq.mp (F_law1_Book_holds.eq F_law1_Book_plain F_law1_Book_kept F_law1_Book_told F_law1_Book_held b1 w.heap K) hh)
theorem ok39 : okFn Tryz.prog 39 = true := by kernel_rfl
end Go.Proofs.YtigcpkejjjgkeaaGreat.V
namespace Go.Proofs.YtigcpkejjjgkeaaGreat.V
open Go Go.RowKit
set_option linter.unusedVariables false
set_option maxRecDepth 100000
def F_law1_Book_growBytes.l1 (f44_ : Int → Int → Heap → (Int → Heap → Prop) → Prop) (b1 : Option Addr) (v18 : Int) (j19 : Heap → Prop) : Sl → Int → Heap → Prop :=
  wl [(4, .one .sl), (6, .one (.int .i64))] (fun (next20 : Sl → Int → Heap → Prop) (g21 : Sl) (i22 : Int) (h23 : Heap) =>
  brr (decide (i22 ≤ 96))
  (f44_ v18 ((g21.len : Nat) : Int) h23 fun (r24 : Int) (h25 : Heap) =>
  al 5 [.int .u8 r24] h25 fun (a26 : Addr) (h27 : Heap) =>
  app 5 1 1 (.int .u8 0) g21 (some a26) 1 h27 fun (s28 : Sl) (h29 : Heap) =>
  jn [(52, .one .bool)] (fun (x31 : Bool) (h32 : Heap) =>
  jn [] (fun  (h50 : Heap) =>
  next20 s28 (IntKind.i64.wrap (i22 + 1)) h50) (fun (j33 : Heap → Prop) =>
  brr x31
  (nn b1 fun (a34 : Addr) =>
  ld [.sl] (a34.add 0) h32 fun (v35 : Sl) =>
  al 52 [.slice s28.ptr s28.len s28.cap] h32 fun (a36 : Addr) (h37 : Heap) =>
  app 52 1 24 (.slice none 0 0) v35 (some a36) 1 h37 fun (s38 : Sl) (h39 : Heap) =>
  nn b1 fun (a40 : Addr) =>
  st (a40.add 0) [.slice s38.ptr s38.len s38.cap] h39 fun (h41 : Heap) =>
  nn b1 fun (a42 : Addr) =>
  ld [.sl] (a42.add 1) h41 fun (v43 : Sl) =>
  al 3 [.int .i64 v18] h41 fun (a44 : Addr) (h45 : Heap) =>
  app 3 1 8 (.int .i64 0) v43 (some a44) 1 h45 fun (s46 : Sl) (h47 : Heap) =>
  nn b1 fun (a48 : Addr) =>
  st (a48.add 1) [.slice s46.ptr s46.len s46.cap] h47 fun (h49 : Heap) =>
  j33 h49)
  (j33 h32))) (fun (j30 : Bool → Heap → Prop) =>
  brr (decide (i22 < 4))
  (j30 true h29)
  ((16 : Int) ≠ 0 ∧
  j30 ((i22.tmod 16) == 0) h29)))
  (j19 h23))
def F_law1_Book_growBytes.l2 (f44_ : Int → Int → Heap → (Int → Heap → Prop) → Prop) (b1 : Option Addr) (v3 : Sl) (j6 : Heap → Prop) : Int → Heap → Prop :=
  wl [(3, .one (.int .i64))] (fun (next7 : Int → Heap → Prop) (k8 : Int) (h9 : Heap) =>
  brr (decide (k8 < ((v3.len : Nat) : Int)))
  (jn [] (fun  (h52 : Heap) =>
  next7 (IntKind.i64.wrap (k8 + 1)) h52) (fun (j10 : Heap → Prop) =>
  nn b1 fun (a11 : Addr) =>
  ld [.sl] (a11.add 0) h9 fun (v12 : Sl) =>
  ixS 1 v12 k8 fun (a13 : Addr) =>
  ld [.sl] a13 h9 fun (v14 : Sl) =>
  nn b1 fun (a15 : Addr) =>
  ld [.sl] (a15.add 1) h9 fun (v16 : Sl) =>
  ixS 1 v16 k8 fun (a17 : Addr) =>
  ld [.int .i64] a17 h9 fun (v18 : Int) =>
  jn [] (fun  (h51 : Heap) =>
  j10 h51) (fun (j19 : Heap → Prop) =>
  F_law1_Book_growBytes.l1 f44_ b1 v18 j19 v14 1 h9)))
  (j6 h9))
def F_law1_Book_growBytes_of (f44_ : Int → Int → Heap → (Int → Heap → Prop) → Prop) (b1 : Option Addr) (h : Heap) (Q : Heap → Prop) : Prop :=
  nn b1 fun (a2 : Addr) =>
  ld [.sl] (a2.add 0) h fun (v3 : Sl) =>
  nn b1 fun (a4 : Addr) =>
  ld [.int .i64] (a4.add 2) h fun (v5 : Int) =>
  jn [] (fun  (h53 : Heap) =>
  nn b1 fun (a54 : Addr) =>
  ld [.sl] (a54.add 0) h53 fun (v55 : Sl) =>
  nn b1 fun (a56 : Addr) =>
  st (a56.add 2) [.int .i64 ((v55.len : Nat) : Int)] h53 fun (h57 : Heap) =>
  Q h57) (fun (j6 : Heap → Prop) =>
  F_law1_Book_growBytes.l2 f44_ b1 v3 j6 v5 h)
def F_law1_Book_growBytes (b1 : Option Addr) (h : Heap) (Q : Heap → Prop) : Prop := F_law1_Book_growBytes_of F_law1_at b1 h Q
def plan72 : Plan := .s (.r [0, 2]) (.s (.s (.r [0, 2, 3]) (.bj [] [0] (.l [(3, .one (.int .i64))] [0, 2] (.s (.s (.r [0, 2, 3, 18]) (.c .z .z)) (.s (.bj [] [0, 2, 3] (.s (.r [0, 2, 3, 4]) (.s (.r [0, 2, 3, 4, 5]) (.s (.r [0, 2, 3, 4, 5, 6]) (.bj [] [0, 2, 3] (.l [(4, .one .sl), (6, .one (.int .i64))] [0, 2, 3, 5] (.s (.s (.r [0, 2, 3, 4, 5, 6, 36]) (.c .z .z)) (.s (.b (.s (.r [0, 2, 3, 4, 5, 6]) (.s (.rj [(52, .one .bool)] [0, 2, 3, 4, 5, 6]) (.cj [] [0, 2, 3, 4, 5, 6] (.s (.r [0, 2, 3, 4, 5, 6]) (.r [0, 2, 3, 4, 5, 6])) .z)))) (.r [0, 2, 3, 4, 5, 6]))))))))) (.r [0, 2, 3])))))) (.r []))
theorem F_law1_Book_growBytes.eq (f44_ : Int → Int → Heap → (Int → Heap → Prop) → Prop) (b1 : Option Addr) (h : Heap) (K : Value → Heap → Prop) : F_law1_Book_growBytes_of f44_ b1 h (fun  (h : Heap) => K (.tuple #[]) h) =
    den Tryz.prog (fn1 44 (E_law1_at_of f44_) noFns) Tryz.f72.ntmps plan72 (bodyOf Tryz.f72) (args0 0 [(.pointer b1 : Value)]) h ⟨fun env h => dRes Tryz.prog Tryz.f72.results.toList env h K, fun _ _ _ => False, fun env h => dRes Tryz.prog Tryz.f72.results.toList env h K⟩ := by kernel_rfl
def E_law1_Book_growBytes_of (f : Option Addr → Heap → (Heap → Prop) → Prop) : List Value → Heap → (Value → Heap → Prop) → Prop
  | [v0], h, K => dec1 .ptr v0 fun (b1 : Option Addr) =>
  f b1 h (fun  (h : Heap) => K (.tuple #[]) h)
  | _, _, _ => False
abbrev E_law1_Book_growBytes := E_law1_Book_growBytes_of F_law1_Book_growBytes
theorem E_law1_Book_growBytes.right : IsRight Tryz.prog 72 E_law1_Book_growBytes := by
  refine isRight fun vs K w hh => ?_
  match vs, hh with
  | [v0], hh =>
    unfold E_law1_Book_growBytes E_law1_Book_growBytes_of at hh
    replace hh := dec1_sound hh; obtain ⟨b1, rfl, hh⟩ := hh
    unfold F_law1_Book_growBytes at hh
    exact calls_den (fn1_right ok44 E_law1_at.right noFns_right) plan72 _ w K Tryz.func72 (by kernel_rfl) (by kernel_rfl) (Eq.mp (F_law1_Book_growBytes.eq F_law1_at b1 w.heap K) hh)
theorem ok72 : okFn Tryz.prog 72 = true := by kernel_rfl
end Go.Proofs.YtigcpkejjjgkeaaGreat.V
namespace Go.Proofs.YtigcpkejjjgkeaaGreat.V
open Go Go.RowKit
set_option linter.unusedVariables false
set_option maxRecDepth 100000
def F_law1_Book_growRows.l1 (f44_ : Int → Int → Heap → (Int → Heap → Prop) → Prop) (b1 : Option Addr) (v18 : Int) (j19 : Heap → Prop) : Sl → Int → Heap → Prop :=
  wl [(4, .one .sl), (6, .one (.int .i64))] (fun (next20 : Sl → Int → Heap → Prop) (g21 : Sl) (i22 : Int) (h23 : Heap) =>
  brr (decide (i22 ≤ 32))
  (f44_ v18 0 h23 fun (r24 : Int) (h25 : Heap) =>
  f44_ v18 1 h25 fun (r26 : Int) (h27 : Heap) =>
  al 5 [.int .u8 r24, .int .u8 r26] h27 fun (a28 : Addr) (h29 : Heap) =>
  al 52 [.slice (some a28) 2 2] h29 fun (a30 : Addr) (h31 : Heap) =>
  app 52 1 24 (.slice none 0 0) g21 (some a30) 1 h31 fun (s32 : Sl) (h33 : Heap) =>
  jn [(53, .one .bool)] (fun (x35 : Bool) (h36 : Heap) =>
  jn [] (fun  (h54 : Heap) =>
  next20 s32 (IntKind.i64.wrap (i22 + 1)) h54) (fun (j37 : Heap → Prop) =>
  brr x35
  (nn b1 fun (a38 : Addr) =>
  ld [.sl] (a38.add 3) h36 fun (v39 : Sl) =>
  al 29 [.slice s32.ptr s32.len s32.cap] h36 fun (a40 : Addr) (h41 : Heap) =>
  app 29 1 24 (.slice none 0 0) v39 (some a40) 1 h41 fun (s42 : Sl) (h43 : Heap) =>
  nn b1 fun (a44 : Addr) =>
  st (a44.add 3) [.slice s42.ptr s42.len s42.cap] h43 fun (h45 : Heap) =>
  nn b1 fun (a46 : Addr) =>
  ld [.sl] (a46.add 4) h45 fun (v47 : Sl) =>
  al 3 [.int .i64 v18] h45 fun (a48 : Addr) (h49 : Heap) =>
  app 3 1 8 (.int .i64 0) v47 (some a48) 1 h49 fun (s50 : Sl) (h51 : Heap) =>
  nn b1 fun (a52 : Addr) =>
  st (a52.add 4) [.slice s50.ptr s50.len s50.cap] h51 fun (h53 : Heap) =>
  j37 h53)
  (j37 h36))) (fun (j34 : Bool → Heap → Prop) =>
  brr (decide (i22 < 4))
  (j34 true h33)
  ((16 : Int) ≠ 0 ∧
  j34 ((i22.tmod 16) == 0) h33)))
  (j19 h23))
def F_law1_Book_growRows.l2 (f44_ : Int → Int → Heap → (Int → Heap → Prop) → Prop) (b1 : Option Addr) (v3 : Sl) (j6 : Heap → Prop) : Int → Heap → Prop :=
  wl [(3, .one (.int .i64))] (fun (next7 : Int → Heap → Prop) (k8 : Int) (h9 : Heap) =>
  brr (decide (k8 < ((v3.len : Nat) : Int)))
  (jn [] (fun  (h56 : Heap) =>
  next7 (IntKind.i64.wrap (k8 + 1)) h56) (fun (j10 : Heap → Prop) =>
  nn b1 fun (a11 : Addr) =>
  ld [.sl] (a11.add 3) h9 fun (v12 : Sl) =>
  ixS 1 v12 k8 fun (a13 : Addr) =>
  ld [.sl] a13 h9 fun (v14 : Sl) =>
  nn b1 fun (a15 : Addr) =>
  ld [.sl] (a15.add 4) h9 fun (v16 : Sl) =>
  ixS 1 v16 k8 fun (a17 : Addr) =>
  ld [.int .i64] a17 h9 fun (v18 : Int) =>
  jn [] (fun  (h55 : Heap) =>
  j10 h55) (fun (j19 : Heap → Prop) =>
  F_law1_Book_growRows.l1 f44_ b1 v18 j19 v14 1 h9)))
  (j6 h9))
def F_law1_Book_growRows_of (f44_ : Int → Int → Heap → (Int → Heap → Prop) → Prop) (b1 : Option Addr) (h : Heap) (Q : Heap → Prop) : Prop :=
  nn b1 fun (a2 : Addr) =>
  ld [.sl] (a2.add 3) h fun (v3 : Sl) =>
  nn b1 fun (a4 : Addr) =>
  ld [.int .i64] (a4.add 5) h fun (v5 : Int) =>
  jn [] (fun  (h57 : Heap) =>
  nn b1 fun (a58 : Addr) =>
  ld [.sl] (a58.add 3) h57 fun (v59 : Sl) =>
  nn b1 fun (a60 : Addr) =>
  st (a60.add 5) [.int .i64 ((v59.len : Nat) : Int)] h57 fun (h61 : Heap) =>
  Q h61) (fun (j6 : Heap → Prop) =>
  F_law1_Book_growRows.l2 f44_ b1 v3 j6 v5 h)
def F_law1_Book_growRows (b1 : Option Addr) (h : Heap) (Q : Heap → Prop) : Prop := F_law1_Book_growRows_of F_law1_at b1 h Q
def plan73 : Plan := .s (.r [0, 2]) (.s (.s (.r [0, 2, 3]) (.bj [] [0] (.l [(3, .one (.int .i64))] [0, 2] (.s (.s (.r [0, 2, 3, 18]) (.c .z .z)) (.s (.bj [] [0, 2, 3] (.s (.r [0, 2, 3, 4]) (.s (.r [0, 2, 3, 4, 5]) (.s (.r [0, 2, 3, 4, 5, 6]) (.bj [] [0, 2, 3] (.l [(4, .one .sl), (6, .one (.int .i64))] [0, 2, 3, 5] (.s (.s (.r [0, 2, 3, 4, 5, 6, 36]) (.c .z .z)) (.s (.b (.s (.r [0, 2, 3, 4, 5, 6]) (.s (.rj [(53, .one .bool)] [0, 2, 3, 4, 5, 6]) (.cj [] [0, 2, 3, 4, 5, 6] (.s (.r [0, 2, 3, 4, 5, 6]) (.r [0, 2, 3, 4, 5, 6])) .z)))) (.r [0, 2, 3, 4, 5, 6]))))))))) (.r [0, 2, 3])))))) (.r []))
theorem F_law1_Book_growRows.eq (f44_ : Int → Int → Heap → (Int → Heap → Prop) → Prop) (b1 : Option Addr) (h : Heap) (K : Value → Heap → Prop) : F_law1_Book_growRows_of f44_ b1 h (fun  (h : Heap) => K (.tuple #[]) h) =
    den Tryz.prog (fn1 44 (E_law1_at_of f44_) noFns) Tryz.f73.ntmps plan73 (bodyOf Tryz.f73) (args0 0 [(.pointer b1 : Value)]) h ⟨fun env h => dRes Tryz.prog Tryz.f73.results.toList env h K, fun _ _ _ => False, fun env h => dRes Tryz.prog Tryz.f73.results.toList env h K⟩ := by kernel_rfl
def E_law1_Book_growRows_of (f : Option Addr → Heap → (Heap → Prop) → Prop) : List Value → Heap → (Value → Heap → Prop) → Prop
  | [v0], h, K => dec1 .ptr v0 fun (b1 : Option Addr) =>
  f b1 h (fun  (h : Heap) => K (.tuple #[]) h)
  | _, _, _ => False
abbrev E_law1_Book_growRows := E_law1_Book_growRows_of F_law1_Book_growRows
theorem E_law1_Book_growRows.right : IsRight Tryz.prog 73 E_law1_Book_growRows := by
  refine isRight fun vs K w hh => ?_
  match vs, hh with
  | [v0], hh =>
    unfold E_law1_Book_growRows E_law1_Book_growRows_of at hh
    replace hh := dec1_sound hh; obtain ⟨b1, rfl, hh⟩ := hh
    unfold F_law1_Book_growRows at hh
    exact calls_den (fn1_right ok44 E_law1_at.right noFns_right) plan73 _ w K Tryz.func73 (by kernel_rfl) (by kernel_rfl) (Eq.mp (F_law1_Book_growRows.eq F_law1_at b1 w.heap K) hh)
theorem ok73 : okFn Tryz.prog 73 = true := by kernel_rfl
end Go.Proofs.YtigcpkejjjgkeaaGreat.V
namespace Go.Proofs.YtigcpkejjjgkeaaGreat.V
open Go Go.RowKit
set_option linter.unusedVariables false
set_option maxRecDepth 100000
def F_law1_Book_growTexts.l1 (f97_ : Int → Heap → (ByteArray → Heap → Prop) → Prop) (b1 : Option Addr) (v18 : Int) (j19 : Heap → Prop) : Sl → Int → Heap → Prop :=
  wl [(4, .one .sl), (6, .one (.int .i64))] (fun (next20 : Sl → Int → Heap → Prop) (g21 : Sl) (i22 : Int) (h23 : Heap) =>
  brr (decide (i22 ≤ 32))
  (f97_ v18 h23 fun (r24 : ByteArray) (h25 : Heap) =>
  al 9 [.string r24] h25 fun (a26 : Addr) (h27 : Heap) =>
  app 9 1 16 (.string (⟨#[]⟩ : ByteArray)) g21 (some a26) 1 h27 fun (s28 : Sl) (h29 : Heap) =>
  jn [(50, .one .bool)] (fun (x31 : Bool) (h32 : Heap) =>
  jn [] (fun  (h50 : Heap) =>
  next20 s28 (IntKind.i64.wrap (i22 + 1)) h50) (fun (j33 : Heap → Prop) =>
  brr x31
  (nn b1 fun (a34 : Addr) =>
  ld [.sl] (a34.add 6) h32 fun (v35 : Sl) =>
  al 125 [.slice s28.ptr s28.len s28.cap] h32 fun (a36 : Addr) (h37 : Heap) =>
  app 125 1 24 (.slice none 0 0) v35 (some a36) 1 h37 fun (s38 : Sl) (h39 : Heap) =>
  nn b1 fun (a40 : Addr) =>
  st (a40.add 6) [.slice s38.ptr s38.len s38.cap] h39 fun (h41 : Heap) =>
  nn b1 fun (a42 : Addr) =>
  ld [.sl] (a42.add 7) h41 fun (v43 : Sl) =>
  al 3 [.int .i64 v18] h41 fun (a44 : Addr) (h45 : Heap) =>
  app 3 1 8 (.int .i64 0) v43 (some a44) 1 h45 fun (s46 : Sl) (h47 : Heap) =>
  nn b1 fun (a48 : Addr) =>
  st (a48.add 7) [.slice s46.ptr s46.len s46.cap] h47 fun (h49 : Heap) =>
  j33 h49)
  (j33 h32))) (fun (j30 : Bool → Heap → Prop) =>
  brr (decide (i22 < 4))
  (j30 true h29)
  ((16 : Int) ≠ 0 ∧
  j30 ((i22.tmod 16) == 0) h29)))
  (j19 h23))
def F_law1_Book_growTexts.l2 (f97_ : Int → Heap → (ByteArray → Heap → Prop) → Prop) (b1 : Option Addr) (v3 : Sl) (j6 : Heap → Prop) : Int → Heap → Prop :=
  wl [(3, .one (.int .i64))] (fun (next7 : Int → Heap → Prop) (k8 : Int) (h9 : Heap) =>
  brr (decide (k8 < ((v3.len : Nat) : Int)))
  (jn [] (fun  (h52 : Heap) =>
  next7 (IntKind.i64.wrap (k8 + 1)) h52) (fun (j10 : Heap → Prop) =>
  nn b1 fun (a11 : Addr) =>
  ld [.sl] (a11.add 6) h9 fun (v12 : Sl) =>
  ixS 1 v12 k8 fun (a13 : Addr) =>
  ld [.sl] a13 h9 fun (v14 : Sl) =>
  nn b1 fun (a15 : Addr) =>
  ld [.sl] (a15.add 7) h9 fun (v16 : Sl) =>
  ixS 1 v16 k8 fun (a17 : Addr) =>
  ld [.int .i64] a17 h9 fun (v18 : Int) =>
  jn [] (fun  (h51 : Heap) =>
  j10 h51) (fun (j19 : Heap → Prop) =>
  F_law1_Book_growTexts.l1 f97_ b1 v18 j19 v14 1 h9)))
  (j6 h9))
def F_law1_Book_growTexts_of (f97_ : Int → Heap → (ByteArray → Heap → Prop) → Prop) (b1 : Option Addr) (h : Heap) (Q : Heap → Prop) : Prop :=
  nn b1 fun (a2 : Addr) =>
  ld [.sl] (a2.add 6) h fun (v3 : Sl) =>
  nn b1 fun (a4 : Addr) =>
  ld [.int .i64] (a4.add 8) h fun (v5 : Int) =>
  jn [] (fun  (h53 : Heap) =>
  nn b1 fun (a54 : Addr) =>
  ld [.sl] (a54.add 6) h53 fun (v55 : Sl) =>
  nn b1 fun (a56 : Addr) =>
  st (a56.add 8) [.int .i64 ((v55.len : Nat) : Int)] h53 fun (h57 : Heap) =>
  Q h57) (fun (j6 : Heap → Prop) =>
  F_law1_Book_growTexts.l2 f97_ b1 v3 j6 v5 h)
def F_law1_Book_growTexts (b1 : Option Addr) (h : Heap) (Q : Heap → Prop) : Prop := F_law1_Book_growTexts_of F_law1_textsMark b1 h Q
def plan74 : Plan := .s (.r [0, 2]) (.s (.s (.r [0, 2, 3]) (.bj [] [0] (.l [(3, .one (.int .i64))] [0, 2] (.s (.s (.r [0, 2, 3, 18]) (.c .z .z)) (.s (.bj [] [0, 2, 3] (.s (.r [0, 2, 3, 4]) (.s (.r [0, 2, 3, 4, 5]) (.s (.r [0, 2, 3, 4, 5, 6]) (.bj [] [0, 2, 3] (.l [(4, .one .sl), (6, .one (.int .i64))] [0, 2, 3, 5] (.s (.s (.r [0, 2, 3, 4, 5, 6, 36]) (.c .z .z)) (.s (.b (.s (.r [0, 2, 3, 4, 5, 6]) (.s (.rj [(50, .one .bool)] [0, 2, 3, 4, 5, 6]) (.cj [] [0, 2, 3, 4, 5, 6] (.s (.r [0, 2, 3, 4, 5, 6]) (.r [0, 2, 3, 4, 5, 6])) .z)))) (.r [0, 2, 3, 4, 5, 6]))))))))) (.r [0, 2, 3])))))) (.r []))
theorem F_law1_Book_growTexts.eq (f97_ : Int → Heap → (ByteArray → Heap → Prop) → Prop) (b1 : Option Addr) (h : Heap) (K : Value → Heap → Prop) : F_law1_Book_growTexts_of f97_ b1 h (fun  (h : Heap) => K (.tuple #[]) h) =
    den Tryz.prog (fn1 97 (E_law1_textsMark_of f97_) noFns) Tryz.f74.ntmps plan74 (bodyOf Tryz.f74) (args0 0 [(.pointer b1 : Value)]) h ⟨fun env h => dRes Tryz.prog Tryz.f74.results.toList env h K, fun _ _ _ => False, fun env h => dRes Tryz.prog Tryz.f74.results.toList env h K⟩ := by kernel_rfl
def E_law1_Book_growTexts_of (f : Option Addr → Heap → (Heap → Prop) → Prop) : List Value → Heap → (Value → Heap → Prop) → Prop
  | [v0], h, K => dec1 .ptr v0 fun (b1 : Option Addr) =>
  f b1 h (fun  (h : Heap) => K (.tuple #[]) h)
  | _, _, _ => False
abbrev E_law1_Book_growTexts := E_law1_Book_growTexts_of F_law1_Book_growTexts
theorem E_law1_Book_growTexts.right : IsRight Tryz.prog 74 E_law1_Book_growTexts := by
  refine isRight fun vs K w hh => ?_
  match vs, hh with
  | [v0], hh =>
    unfold E_law1_Book_growTexts E_law1_Book_growTexts_of at hh
    replace hh := dec1_sound hh; obtain ⟨b1, rfl, hh⟩ := hh
    unfold F_law1_Book_growTexts at hh
    exact calls_den (fn1_right ok97 E_law1_textsMark.right noFns_right) plan74 _ w K Tryz.func74 (by kernel_rfl) (by kernel_rfl) (Eq.mp (F_law1_Book_growTexts.eq F_law1_textsMark b1 w.heap K) hh)
theorem ok74 : okFn Tryz.prog 74 = true := by kernel_rfl
end Go.Proofs.YtigcpkejjjgkeaaGreat.V
namespace Go.Proofs.YtigcpkejjjgkeaaGreat.V
open Go Go.RowKit
set_option linter.unusedVariables false
set_option maxRecDepth 100000
def F_law1_Book_growInts.l1 (f98_ : Int → Heap → (Int → Heap → Prop) → Prop) (b1 : Option Addr) (v18 : Int) (j19 : Heap → Prop) : Sl → Int → Heap → Prop :=
  wl [(4, .one .sl), (6, .one (.int .i64))] (fun (next20 : Sl → Int → Heap → Prop) (g21 : Sl) (i22 : Int) (h23 : Heap) =>
  brr (decide (i22 ≤ 32))
  (f98_ v18 h23 fun (r24 : Int) (h25 : Heap) =>
  al 3 [.int .i64 r24] h25 fun (a26 : Addr) (h27 : Heap) =>
  app 3 1 8 (.int .i64 0) g21 (some a26) 1 h27 fun (s28 : Sl) (h29 : Heap) =>
  jn [(50, .one .bool)] (fun (x31 : Bool) (h32 : Heap) =>
  jn [] (fun  (h50 : Heap) =>
  next20 s28 (IntKind.i64.wrap (i22 + 1)) h50) (fun (j33 : Heap → Prop) =>
  brr x31
  (nn b1 fun (a34 : Addr) =>
  ld [.sl] (a34.add 9) h32 fun (v35 : Sl) =>
  al 30 [.slice s28.ptr s28.len s28.cap] h32 fun (a36 : Addr) (h37 : Heap) =>
  app 30 1 24 (.slice none 0 0) v35 (some a36) 1 h37 fun (s38 : Sl) (h39 : Heap) =>
  nn b1 fun (a40 : Addr) =>
  st (a40.add 9) [.slice s38.ptr s38.len s38.cap] h39 fun (h41 : Heap) =>
  nn b1 fun (a42 : Addr) =>
  ld [.sl] (a42.add 10) h41 fun (v43 : Sl) =>
  al 3 [.int .i64 v18] h41 fun (a44 : Addr) (h45 : Heap) =>
  app 3 1 8 (.int .i64 0) v43 (some a44) 1 h45 fun (s46 : Sl) (h47 : Heap) =>
  nn b1 fun (a48 : Addr) =>
  st (a48.add 10) [.slice s46.ptr s46.len s46.cap] h47 fun (h49 : Heap) =>
  j33 h49)
  (j33 h32))) (fun (j30 : Bool → Heap → Prop) =>
  brr (decide (i22 < 4))
  (j30 true h29)
  ((16 : Int) ≠ 0 ∧
  j30 ((i22.tmod 16) == 0) h29)))
  (j19 h23))
def F_law1_Book_growInts.l2 (f98_ : Int → Heap → (Int → Heap → Prop) → Prop) (b1 : Option Addr) (v3 : Sl) (j6 : Heap → Prop) : Int → Heap → Prop :=
  wl [(3, .one (.int .i64))] (fun (next7 : Int → Heap → Prop) (k8 : Int) (h9 : Heap) =>
  brr (decide (k8 < ((v3.len : Nat) : Int)))
  (jn [] (fun  (h52 : Heap) =>
  next7 (IntKind.i64.wrap (k8 + 1)) h52) (fun (j10 : Heap → Prop) =>
  nn b1 fun (a11 : Addr) =>
  ld [.sl] (a11.add 9) h9 fun (v12 : Sl) =>
  ixS 1 v12 k8 fun (a13 : Addr) =>
  ld [.sl] a13 h9 fun (v14 : Sl) =>
  nn b1 fun (a15 : Addr) =>
  ld [.sl] (a15.add 10) h9 fun (v16 : Sl) =>
  ixS 1 v16 k8 fun (a17 : Addr) =>
  ld [.int .i64] a17 h9 fun (v18 : Int) =>
  jn [] (fun  (h51 : Heap) =>
  j10 h51) (fun (j19 : Heap → Prop) =>
  F_law1_Book_growInts.l1 f98_ b1 v18 j19 v14 1 h9)))
  (j6 h9))
def F_law1_Book_growInts_of (f98_ : Int → Heap → (Int → Heap → Prop) → Prop) (b1 : Option Addr) (h : Heap) (Q : Heap → Prop) : Prop :=
  nn b1 fun (a2 : Addr) =>
  ld [.sl] (a2.add 9) h fun (v3 : Sl) =>
  nn b1 fun (a4 : Addr) =>
  ld [.int .i64] (a4.add 11) h fun (v5 : Int) =>
  jn [] (fun  (h53 : Heap) =>
  nn b1 fun (a54 : Addr) =>
  ld [.sl] (a54.add 9) h53 fun (v55 : Sl) =>
  nn b1 fun (a56 : Addr) =>
  st (a56.add 11) [.int .i64 ((v55.len : Nat) : Int)] h53 fun (h57 : Heap) =>
  Q h57) (fun (j6 : Heap → Prop) =>
  F_law1_Book_growInts.l2 f98_ b1 v3 j6 v5 h)
def F_law1_Book_growInts (b1 : Option Addr) (h : Heap) (Q : Heap → Prop) : Prop := F_law1_Book_growInts_of F_law1_intsMark b1 h Q
def plan75 : Plan := .s (.r [0, 2]) (.s (.s (.r [0, 2, 3]) (.bj [] [0] (.l [(3, .one (.int .i64))] [0, 2] (.s (.s (.r [0, 2, 3, 18]) (.c .z .z)) (.s (.bj [] [0, 2, 3] (.s (.r [0, 2, 3, 4]) (.s (.r [0, 2, 3, 4, 5]) (.s (.r [0, 2, 3, 4, 5, 6]) (.bj [] [0, 2, 3] (.l [(4, .one .sl), (6, .one (.int .i64))] [0, 2, 3, 5] (.s (.s (.r [0, 2, 3, 4, 5, 6, 36]) (.c .z .z)) (.s (.b (.s (.r [0, 2, 3, 4, 5, 6]) (.s (.rj [(50, .one .bool)] [0, 2, 3, 4, 5, 6]) (.cj [] [0, 2, 3, 4, 5, 6] (.s (.r [0, 2, 3, 4, 5, 6]) (.r [0, 2, 3, 4, 5, 6])) .z)))) (.r [0, 2, 3, 4, 5, 6]))))))))) (.r [0, 2, 3])))))) (.r []))
theorem F_law1_Book_growInts.eq (f98_ : Int → Heap → (Int → Heap → Prop) → Prop) (b1 : Option Addr) (h : Heap) (K : Value → Heap → Prop) : F_law1_Book_growInts_of f98_ b1 h (fun  (h : Heap) => K (.tuple #[]) h) =
    den Tryz.prog (fn1 98 (E_law1_intsMark_of f98_) noFns) Tryz.f75.ntmps plan75 (bodyOf Tryz.f75) (args0 0 [(.pointer b1 : Value)]) h ⟨fun env h => dRes Tryz.prog Tryz.f75.results.toList env h K, fun _ _ _ => False, fun env h => dRes Tryz.prog Tryz.f75.results.toList env h K⟩ := by kernel_rfl
def E_law1_Book_growInts_of (f : Option Addr → Heap → (Heap → Prop) → Prop) : List Value → Heap → (Value → Heap → Prop) → Prop
  | [v0], h, K => dec1 .ptr v0 fun (b1 : Option Addr) =>
  f b1 h (fun  (h : Heap) => K (.tuple #[]) h)
  | _, _, _ => False
abbrev E_law1_Book_growInts := E_law1_Book_growInts_of F_law1_Book_growInts
theorem E_law1_Book_growInts.right : IsRight Tryz.prog 75 E_law1_Book_growInts := by
  refine isRight fun vs K w hh => ?_
  match vs, hh with
  | [v0], hh =>
    unfold E_law1_Book_growInts E_law1_Book_growInts_of at hh
    replace hh := dec1_sound hh; obtain ⟨b1, rfl, hh⟩ := hh
    unfold F_law1_Book_growInts at hh
    exact calls_den (fn1_right ok98 E_law1_intsMark.right noFns_right) plan75 _ w K Tryz.func75 (by kernel_rfl) (by kernel_rfl) (Eq.mp (F_law1_Book_growInts.eq F_law1_intsMark b1 w.heap K) hh)
theorem ok75 : okFn Tryz.prog 75 = true := by kernel_rfl
end Go.Proofs.YtigcpkejjjgkeaaGreat.V
namespace Go.Proofs.YtigcpkejjjgkeaaGreat.V
open Go Go.RowKit
set_option linter.unusedVariables false
set_option maxRecDepth 100000
def F_law1_Book_growWords.l1 (f99_ : Int → Heap → (Int → Heap → Prop) → Prop) (b1 : Option Addr) (v18 : Int) (j19 : Heap → Prop) : Sl → Int → Heap → Prop :=
  wl [(4, .one .sl), (6, .one (.int .i64))] (fun (next20 : Sl → Int → Heap → Prop) (g21 : Sl) (i22 : Int) (h23 : Heap) =>
  brr (decide (i22 ≤ 32))
  (f99_ v18 h23 fun (r24 : Int) (h25 : Heap) =>
  al 49 [.int .u64 r24] h25 fun (a26 : Addr) (h27 : Heap) =>
  app 49 1 8 (.int .u64 0) g21 (some a26) 1 h27 fun (s28 : Sl) (h29 : Heap) =>
  jn [(50, .one .bool)] (fun (x31 : Bool) (h32 : Heap) =>
  jn [] (fun  (h50 : Heap) =>
  next20 s28 (IntKind.i64.wrap (i22 + 1)) h50) (fun (j33 : Heap → Prop) =>
  brr x31
  (nn b1 fun (a34 : Addr) =>
  ld [.sl] (a34.add 12) h32 fun (v35 : Sl) =>
  al 128 [.slice s28.ptr s28.len s28.cap] h32 fun (a36 : Addr) (h37 : Heap) =>
  app 128 1 24 (.slice none 0 0) v35 (some a36) 1 h37 fun (s38 : Sl) (h39 : Heap) =>
  nn b1 fun (a40 : Addr) =>
  st (a40.add 12) [.slice s38.ptr s38.len s38.cap] h39 fun (h41 : Heap) =>
  nn b1 fun (a42 : Addr) =>
  ld [.sl] (a42.add 13) h41 fun (v43 : Sl) =>
  al 3 [.int .i64 v18] h41 fun (a44 : Addr) (h45 : Heap) =>
  app 3 1 8 (.int .i64 0) v43 (some a44) 1 h45 fun (s46 : Sl) (h47 : Heap) =>
  nn b1 fun (a48 : Addr) =>
  st (a48.add 13) [.slice s46.ptr s46.len s46.cap] h47 fun (h49 : Heap) =>
  j33 h49)
  (j33 h32))) (fun (j30 : Bool → Heap → Prop) =>
  brr (decide (i22 < 4))
  (j30 true h29)
  ((16 : Int) ≠ 0 ∧
  j30 ((i22.tmod 16) == 0) h29)))
  (j19 h23))
def F_law1_Book_growWords.l2 (f99_ : Int → Heap → (Int → Heap → Prop) → Prop) (b1 : Option Addr) (v3 : Sl) (j6 : Heap → Prop) : Int → Heap → Prop :=
  wl [(3, .one (.int .i64))] (fun (next7 : Int → Heap → Prop) (k8 : Int) (h9 : Heap) =>
  brr (decide (k8 < ((v3.len : Nat) : Int)))
  (jn [] (fun  (h52 : Heap) =>
  next7 (IntKind.i64.wrap (k8 + 1)) h52) (fun (j10 : Heap → Prop) =>
  nn b1 fun (a11 : Addr) =>
  ld [.sl] (a11.add 12) h9 fun (v12 : Sl) =>
  ixS 1 v12 k8 fun (a13 : Addr) =>
  ld [.sl] a13 h9 fun (v14 : Sl) =>
  nn b1 fun (a15 : Addr) =>
  ld [.sl] (a15.add 13) h9 fun (v16 : Sl) =>
  ixS 1 v16 k8 fun (a17 : Addr) =>
  ld [.int .i64] a17 h9 fun (v18 : Int) =>
  jn [] (fun  (h51 : Heap) =>
  j10 h51) (fun (j19 : Heap → Prop) =>
  F_law1_Book_growWords.l1 f99_ b1 v18 j19 v14 1 h9)))
  (j6 h9))
def F_law1_Book_growWords_of (f99_ : Int → Heap → (Int → Heap → Prop) → Prop) (b1 : Option Addr) (h : Heap) (Q : Heap → Prop) : Prop :=
  nn b1 fun (a2 : Addr) =>
  ld [.sl] (a2.add 12) h fun (v3 : Sl) =>
  nn b1 fun (a4 : Addr) =>
  ld [.int .i64] (a4.add 14) h fun (v5 : Int) =>
  jn [] (fun  (h53 : Heap) =>
  nn b1 fun (a54 : Addr) =>
  ld [.sl] (a54.add 12) h53 fun (v55 : Sl) =>
  nn b1 fun (a56 : Addr) =>
  st (a56.add 14) [.int .i64 ((v55.len : Nat) : Int)] h53 fun (h57 : Heap) =>
  Q h57) (fun (j6 : Heap → Prop) =>
  F_law1_Book_growWords.l2 f99_ b1 v3 j6 v5 h)
def F_law1_Book_growWords (b1 : Option Addr) (h : Heap) (Q : Heap → Prop) : Prop := F_law1_Book_growWords_of F_law1_wordsMark b1 h Q
def plan76 : Plan := .s (.r [0, 2]) (.s (.s (.r [0, 2, 3]) (.bj [] [0] (.l [(3, .one (.int .i64))] [0, 2] (.s (.s (.r [0, 2, 3, 18]) (.c .z .z)) (.s (.bj [] [0, 2, 3] (.s (.r [0, 2, 3, 4]) (.s (.r [0, 2, 3, 4, 5]) (.s (.r [0, 2, 3, 4, 5, 6]) (.bj [] [0, 2, 3] (.l [(4, .one .sl), (6, .one (.int .i64))] [0, 2, 3, 5] (.s (.s (.r [0, 2, 3, 4, 5, 6, 36]) (.c .z .z)) (.s (.b (.s (.r [0, 2, 3, 4, 5, 6]) (.s (.rj [(50, .one .bool)] [0, 2, 3, 4, 5, 6]) (.cj [] [0, 2, 3, 4, 5, 6] (.s (.r [0, 2, 3, 4, 5, 6]) (.r [0, 2, 3, 4, 5, 6])) .z)))) (.r [0, 2, 3, 4, 5, 6]))))))))) (.r [0, 2, 3])))))) (.r []))
theorem F_law1_Book_growWords.eq (f99_ : Int → Heap → (Int → Heap → Prop) → Prop) (b1 : Option Addr) (h : Heap) (K : Value → Heap → Prop) : F_law1_Book_growWords_of f99_ b1 h (fun  (h : Heap) => K (.tuple #[]) h) =
    den Tryz.prog (fn1 99 (E_law1_wordsMark_of f99_) noFns) Tryz.f76.ntmps plan76 (bodyOf Tryz.f76) (args0 0 [(.pointer b1 : Value)]) h ⟨fun env h => dRes Tryz.prog Tryz.f76.results.toList env h K, fun _ _ _ => False, fun env h => dRes Tryz.prog Tryz.f76.results.toList env h K⟩ := by kernel_rfl
def E_law1_Book_growWords_of (f : Option Addr → Heap → (Heap → Prop) → Prop) : List Value → Heap → (Value → Heap → Prop) → Prop
  | [v0], h, K => dec1 .ptr v0 fun (b1 : Option Addr) =>
  f b1 h (fun  (h : Heap) => K (.tuple #[]) h)
  | _, _, _ => False
abbrev E_law1_Book_growWords := E_law1_Book_growWords_of F_law1_Book_growWords
theorem E_law1_Book_growWords.right : IsRight Tryz.prog 76 E_law1_Book_growWords := by
  refine isRight fun vs K w hh => ?_
  match vs, hh with
  | [v0], hh =>
    unfold E_law1_Book_growWords E_law1_Book_growWords_of at hh
    replace hh := dec1_sound hh; obtain ⟨b1, rfl, hh⟩ := hh
    unfold F_law1_Book_growWords at hh
    exact calls_den (fn1_right ok99 E_law1_wordsMark.right noFns_right) plan76 _ w K Tryz.func76 (by kernel_rfl) (by kernel_rfl) (Eq.mp (F_law1_Book_growWords.eq F_law1_wordsMark b1 w.heap K) hh)
theorem ok76 : okFn Tryz.prog 76 = true := by kernel_rfl
end Go.Proofs.YtigcpkejjjgkeaaGreat.V
namespace Go.Proofs.YtigcpkejjjgkeaaGreat.V
open Go Go.RowKit
set_option linter.unusedVariables false
set_option maxRecDepth 100000
def F_law1_Book_growDones.l1 (f100_ : Int → Heap → (Int → Int → Int → Int → Int → Heap → Prop) → Prop) (b1 : Option Addr) (v18 : Int) (j19 : Heap → Prop) : Sl → Int → Heap → Prop :=
  wl [(4, .one .sl), (6, .one (.int .i64))] (fun (next20 : Sl → Int → Heap → Prop) (g21 : Sl) (i22 : Int) (h23 : Heap) =>
  brr (decide (i22 ≤ 32))
  (f100_ v18 h23 fun (r24 r25 r26 r27 r28 : Int) (h29 : Heap) =>
  al 132 [.int .i64 r24, .int .u64 r25, .int .i64 r26, .int .i64 r27, .int .u64 r28] h29 fun (a30 : Addr) (h31 : Heap) =>
  app 132 5 40 (.agg #[.int .i64 0, .int .u64 0, .int .i64 0, .int .i64 0, .int .u64 0]) g21 (some a30) 1 h31 fun (s32 : Sl) (h33 : Heap) =>
  jn [(50, .one .bool)] (fun (x35 : Bool) (h36 : Heap) =>
  jn [] (fun  (h54 : Heap) =>
  next20 s32 (IntKind.i64.wrap (i22 + 1)) h54) (fun (j37 : Heap → Prop) =>
  brr x35
  (nn b1 fun (a38 : Addr) =>
  ld [.sl] (a38.add 15) h36 fun (v39 : Sl) =>
  al 130 [.slice s32.ptr s32.len s32.cap] h36 fun (a40 : Addr) (h41 : Heap) =>
  app 130 1 24 (.slice none 0 0) v39 (some a40) 1 h41 fun (s42 : Sl) (h43 : Heap) =>
  nn b1 fun (a44 : Addr) =>
  st (a44.add 15) [.slice s42.ptr s42.len s42.cap] h43 fun (h45 : Heap) =>
  nn b1 fun (a46 : Addr) =>
  ld [.sl] (a46.add 16) h45 fun (v47 : Sl) =>
  al 3 [.int .i64 v18] h45 fun (a48 : Addr) (h49 : Heap) =>
  app 3 1 8 (.int .i64 0) v47 (some a48) 1 h49 fun (s50 : Sl) (h51 : Heap) =>
  nn b1 fun (a52 : Addr) =>
  st (a52.add 16) [.slice s50.ptr s50.len s50.cap] h51 fun (h53 : Heap) =>
  j37 h53)
  (j37 h36))) (fun (j34 : Bool → Heap → Prop) =>
  brr (decide (i22 < 4))
  (j34 true h33)
  ((16 : Int) ≠ 0 ∧
  j34 ((i22.tmod 16) == 0) h33)))
  (j19 h23))
def F_law1_Book_growDones.l2 (f100_ : Int → Heap → (Int → Int → Int → Int → Int → Heap → Prop) → Prop) (b1 : Option Addr) (v3 : Sl) (j6 : Heap → Prop) : Int → Heap → Prop :=
  wl [(3, .one (.int .i64))] (fun (next7 : Int → Heap → Prop) (k8 : Int) (h9 : Heap) =>
  brr (decide (k8 < ((v3.len : Nat) : Int)))
  (jn [] (fun  (h56 : Heap) =>
  next7 (IntKind.i64.wrap (k8 + 1)) h56) (fun (j10 : Heap → Prop) =>
  nn b1 fun (a11 : Addr) =>
  ld [.sl] (a11.add 15) h9 fun (v12 : Sl) =>
  ixS 1 v12 k8 fun (a13 : Addr) =>
  ld [.sl] a13 h9 fun (v14 : Sl) =>
  nn b1 fun (a15 : Addr) =>
  ld [.sl] (a15.add 16) h9 fun (v16 : Sl) =>
  ixS 1 v16 k8 fun (a17 : Addr) =>
  ld [.int .i64] a17 h9 fun (v18 : Int) =>
  jn [] (fun  (h55 : Heap) =>
  j10 h55) (fun (j19 : Heap → Prop) =>
  F_law1_Book_growDones.l1 f100_ b1 v18 j19 v14 1 h9)))
  (j6 h9))
def F_law1_Book_growDones_of (f100_ : Int → Heap → (Int → Int → Int → Int → Int → Heap → Prop) → Prop) (b1 : Option Addr) (h : Heap) (Q : Heap → Prop) : Prop :=
  nn b1 fun (a2 : Addr) =>
  ld [.sl] (a2.add 15) h fun (v3 : Sl) =>
  nn b1 fun (a4 : Addr) =>
  ld [.int .i64] (a4.add 17) h fun (v5 : Int) =>
  jn [] (fun  (h57 : Heap) =>
  nn b1 fun (a58 : Addr) =>
  ld [.sl] (a58.add 15) h57 fun (v59 : Sl) =>
  nn b1 fun (a60 : Addr) =>
  st (a60.add 17) [.int .i64 ((v59.len : Nat) : Int)] h57 fun (h61 : Heap) =>
  Q h61) (fun (j6 : Heap → Prop) =>
  F_law1_Book_growDones.l2 f100_ b1 v3 j6 v5 h)
def F_law1_Book_growDones (b1 : Option Addr) (h : Heap) (Q : Heap → Prop) : Prop := F_law1_Book_growDones_of F_law1_donesMark b1 h Q
def plan77 : Plan := .s (.r [0, 2]) (.s (.s (.r [0, 2, 3]) (.bj [] [0] (.l [(3, .one (.int .i64))] [0, 2] (.s (.s (.r [0, 2, 3, 18]) (.c .z .z)) (.s (.bj [] [0, 2, 3] (.s (.r [0, 2, 3, 4]) (.s (.r [0, 2, 3, 4, 5]) (.s (.r [0, 2, 3, 4, 5, 6]) (.bj [] [0, 2, 3] (.l [(4, .one .sl), (6, .one (.int .i64))] [0, 2, 3, 5] (.s (.s (.r [0, 2, 3, 4, 5, 6, 36]) (.c .z .z)) (.s (.b (.s (.r [0, 2, 3, 4, 5, 6]) (.s (.rj [(50, .one .bool)] [0, 2, 3, 4, 5, 6]) (.cj [] [0, 2, 3, 4, 5, 6] (.s (.r [0, 2, 3, 4, 5, 6]) (.r [0, 2, 3, 4, 5, 6])) .z)))) (.r [0, 2, 3, 4, 5, 6]))))))))) (.r [0, 2, 3])))))) (.r []))
theorem F_law1_Book_growDones.eq (f100_ : Int → Heap → (Int → Int → Int → Int → Int → Heap → Prop) → Prop) (b1 : Option Addr) (h : Heap) (K : Value → Heap → Prop) : F_law1_Book_growDones_of f100_ b1 h (fun  (h : Heap) => K (.tuple #[]) h) =
    den Tryz.prog (fn1 100 (E_law1_donesMark_of f100_) noFns) Tryz.f77.ntmps plan77 (bodyOf Tryz.f77) (args0 0 [(.pointer b1 : Value)]) h ⟨fun env h => dRes Tryz.prog Tryz.f77.results.toList env h K, fun _ _ _ => False, fun env h => dRes Tryz.prog Tryz.f77.results.toList env h K⟩ := by kernel_rfl
def E_law1_Book_growDones_of (f : Option Addr → Heap → (Heap → Prop) → Prop) : List Value → Heap → (Value → Heap → Prop) → Prop
  | [v0], h, K => dec1 .ptr v0 fun (b1 : Option Addr) =>
  f b1 h (fun  (h : Heap) => K (.tuple #[]) h)
  | _, _, _ => False
abbrev E_law1_Book_growDones := E_law1_Book_growDones_of F_law1_Book_growDones
theorem E_law1_Book_growDones.right : IsRight Tryz.prog 77 E_law1_Book_growDones := by
  refine isRight fun vs K w hh => ?_
  match vs, hh with
  | [v0], hh =>
    unfold E_law1_Book_growDones E_law1_Book_growDones_of at hh
    replace hh := dec1_sound hh; obtain ⟨b1, rfl, hh⟩ := hh
    unfold F_law1_Book_growDones at hh
    exact calls_den (fn1_right ok100 E_law1_donesMark.right noFns_right) plan77 _ w K Tryz.func77 (by kernel_rfl) (by kernel_rfl) (Eq.mp (F_law1_Book_growDones.eq F_law1_donesMark b1 w.heap K) hh)
theorem ok77 : okFn Tryz.prog 77 = true := by kernel_rfl
end Go.Proofs.YtigcpkejjjgkeaaGreat.V
namespace Go.Proofs.YtigcpkejjjgkeaaGreat.V
open Go Go.RowKit
set_option linter.unusedVariables false
set_option maxRecDepth 100000
def F_law1_Book_growAccts.l1 (f101_ : Int → Heap → (ByteArray → Int → Heap → Prop) → Prop) (b1 : Option Addr) (v18 : Int) (j19 : Heap → Prop) : Sl → Int → Heap → Prop :=
  wl [(4, .one .sl), (6, .one (.int .i64))] (fun (next20 : Sl → Int → Heap → Prop) (g21 : Sl) (i22 : Int) (h23 : Heap) =>
  brr (decide (i22 ≤ 32))
  (f101_ v18 h23 fun (r24 : ByteArray) (r25 : Int) (h26 : Heap) =>
  al 136 [.string r24, .int .u64 r25] h26 fun (a27 : Addr) (h28 : Heap) =>
  app 136 2 24 (.agg #[.string (⟨#[]⟩ : ByteArray), .int .u64 0]) g21 (some a27) 1 h28 fun (s29 : Sl) (h30 : Heap) =>
  jn [(50, .one .bool)] (fun (x32 : Bool) (h33 : Heap) =>
  jn [] (fun  (h51 : Heap) =>
  next20 s29 (IntKind.i64.wrap (i22 + 1)) h51) (fun (j34 : Heap → Prop) =>
  brr x32
  (nn b1 fun (a35 : Addr) =>
  ld [.sl] (a35.add 18) h33 fun (v36 : Sl) =>
  al 134 [.slice s29.ptr s29.len s29.cap] h33 fun (a37 : Addr) (h38 : Heap) =>
  app 134 1 24 (.slice none 0 0) v36 (some a37) 1 h38 fun (s39 : Sl) (h40 : Heap) =>
  nn b1 fun (a41 : Addr) =>
  st (a41.add 18) [.slice s39.ptr s39.len s39.cap] h40 fun (h42 : Heap) =>
  nn b1 fun (a43 : Addr) =>
  ld [.sl] (a43.add 19) h42 fun (v44 : Sl) =>
  al 3 [.int .i64 v18] h42 fun (a45 : Addr) (h46 : Heap) =>
  app 3 1 8 (.int .i64 0) v44 (some a45) 1 h46 fun (s47 : Sl) (h48 : Heap) =>
  nn b1 fun (a49 : Addr) =>
  st (a49.add 19) [.slice s47.ptr s47.len s47.cap] h48 fun (h50 : Heap) =>
  j34 h50)
  (j34 h33))) (fun (j31 : Bool → Heap → Prop) =>
  brr (decide (i22 < 4))
  (j31 true h30)
  ((16 : Int) ≠ 0 ∧
  j31 ((i22.tmod 16) == 0) h30)))
  (j19 h23))
def F_law1_Book_growAccts.l2 (f101_ : Int → Heap → (ByteArray → Int → Heap → Prop) → Prop) (b1 : Option Addr) (v3 : Sl) (j6 : Heap → Prop) : Int → Heap → Prop :=
  wl [(3, .one (.int .i64))] (fun (next7 : Int → Heap → Prop) (k8 : Int) (h9 : Heap) =>
  brr (decide (k8 < ((v3.len : Nat) : Int)))
  (jn [] (fun  (h53 : Heap) =>
  next7 (IntKind.i64.wrap (k8 + 1)) h53) (fun (j10 : Heap → Prop) =>
  nn b1 fun (a11 : Addr) =>
  ld [.sl] (a11.add 18) h9 fun (v12 : Sl) =>
  ixS 1 v12 k8 fun (a13 : Addr) =>
  ld [.sl] a13 h9 fun (v14 : Sl) =>
  nn b1 fun (a15 : Addr) =>
  ld [.sl] (a15.add 19) h9 fun (v16 : Sl) =>
  ixS 1 v16 k8 fun (a17 : Addr) =>
  ld [.int .i64] a17 h9 fun (v18 : Int) =>
  jn [] (fun  (h52 : Heap) =>
  j10 h52) (fun (j19 : Heap → Prop) =>
  F_law1_Book_growAccts.l1 f101_ b1 v18 j19 v14 1 h9)))
  (j6 h9))
def F_law1_Book_growAccts_of (f101_ : Int → Heap → (ByteArray → Int → Heap → Prop) → Prop) (b1 : Option Addr) (h : Heap) (Q : Heap → Prop) : Prop :=
  nn b1 fun (a2 : Addr) =>
  ld [.sl] (a2.add 18) h fun (v3 : Sl) =>
  nn b1 fun (a4 : Addr) =>
  ld [.int .i64] (a4.add 20) h fun (v5 : Int) =>
  jn [] (fun  (h54 : Heap) =>
  nn b1 fun (a55 : Addr) =>
  ld [.sl] (a55.add 18) h54 fun (v56 : Sl) =>
  nn b1 fun (a57 : Addr) =>
  st (a57.add 20) [.int .i64 ((v56.len : Nat) : Int)] h54 fun (h58 : Heap) =>
  Q h58) (fun (j6 : Heap → Prop) =>
  F_law1_Book_growAccts.l2 f101_ b1 v3 j6 v5 h)
def F_law1_Book_growAccts (b1 : Option Addr) (h : Heap) (Q : Heap → Prop) : Prop := F_law1_Book_growAccts_of F_law1_acctsMark b1 h Q
def plan78 : Plan := .s (.r [0, 2]) (.s (.s (.r [0, 2, 3]) (.bj [] [0] (.l [(3, .one (.int .i64))] [0, 2] (.s (.s (.r [0, 2, 3, 18]) (.c .z .z)) (.s (.bj [] [0, 2, 3] (.s (.r [0, 2, 3, 4]) (.s (.r [0, 2, 3, 4, 5]) (.s (.r [0, 2, 3, 4, 5, 6]) (.bj [] [0, 2, 3] (.l [(4, .one .sl), (6, .one (.int .i64))] [0, 2, 3, 5] (.s (.s (.r [0, 2, 3, 4, 5, 6, 36]) (.c .z .z)) (.s (.b (.s (.r [0, 2, 3, 4, 5, 6]) (.s (.rj [(50, .one .bool)] [0, 2, 3, 4, 5, 6]) (.cj [] [0, 2, 3, 4, 5, 6] (.s (.r [0, 2, 3, 4, 5, 6]) (.r [0, 2, 3, 4, 5, 6])) .z)))) (.r [0, 2, 3, 4, 5, 6]))))))))) (.r [0, 2, 3])))))) (.r []))
theorem F_law1_Book_growAccts.eq (f101_ : Int → Heap → (ByteArray → Int → Heap → Prop) → Prop) (b1 : Option Addr) (h : Heap) (K : Value → Heap → Prop) : F_law1_Book_growAccts_of f101_ b1 h (fun  (h : Heap) => K (.tuple #[]) h) =
    den Tryz.prog (fn1 101 (E_law1_acctsMark_of f101_) noFns) Tryz.f78.ntmps plan78 (bodyOf Tryz.f78) (args0 0 [(.pointer b1 : Value)]) h ⟨fun env h => dRes Tryz.prog Tryz.f78.results.toList env h K, fun _ _ _ => False, fun env h => dRes Tryz.prog Tryz.f78.results.toList env h K⟩ := by kernel_rfl
def E_law1_Book_growAccts_of (f : Option Addr → Heap → (Heap → Prop) → Prop) : List Value → Heap → (Value → Heap → Prop) → Prop
  | [v0], h, K => dec1 .ptr v0 fun (b1 : Option Addr) =>
  f b1 h (fun  (h : Heap) => K (.tuple #[]) h)
  | _, _, _ => False
abbrev E_law1_Book_growAccts := E_law1_Book_growAccts_of F_law1_Book_growAccts
theorem E_law1_Book_growAccts.right : IsRight Tryz.prog 78 E_law1_Book_growAccts := by
  refine isRight fun vs K w hh => ?_
  match vs, hh with
  | [v0], hh =>
    unfold E_law1_Book_growAccts E_law1_Book_growAccts_of at hh
    replace hh := dec1_sound hh; obtain ⟨b1, rfl, hh⟩ := hh
    unfold F_law1_Book_growAccts at hh
    exact calls_den (fn1_right ok101 E_law1_acctsMark.right noFns_right) plan78 _ w K Tryz.func78 (by kernel_rfl) (by kernel_rfl) (Eq.mp (F_law1_Book_growAccts.eq F_law1_acctsMark b1 w.heap K) hh)
theorem ok78 : okFn Tryz.prog 78 = true := by kernel_rfl
end Go.Proofs.YtigcpkejjjgkeaaGreat.V
namespace Go.Proofs.YtigcpkejjjgkeaaGreat.V
open Go Go.RowKit
set_option linter.unusedVariables false
set_option maxRecDepth 100000
def F_law1_Book_growQueue.l1 (f102_ : Int → Heap → (Int → Int → ByteArray → Int → Heap → Prop) → Prop) (b1 : Option Addr) (v18 : Int) (j19 : Heap → Prop) : Sl → Int → Heap → Prop :=
  wl [(4, .one .sl), (6, .one (.int .i64))] (fun (next20 : Sl → Int → Heap → Prop) (g21 : Sl) (i22 : Int) (h23 : Heap) =>
  brr (decide (i22 ≤ 32))
  (f102_ v18 h23 fun (r24 r25 : Int) (r26 : ByteArray) (r27 : Int) (h28 : Heap) =>
  al 140 [.int .i64 r24, .int .u64 r25, .string r26, .int .u64 r27] h28 fun (a29 : Addr) (h30 : Heap) =>
  app 140 4 40 (.agg #[.int .i64 0, .int .u64 0, .string (⟨#[]⟩ : ByteArray), .int .u64 0]) g21 (some a29) 1 h30 fun (s31 : Sl) (h32 : Heap) =>
  jn [(50, .one .bool)] (fun (x34 : Bool) (h35 : Heap) =>
  jn [] (fun  (h53 : Heap) =>
  next20 s31 (IntKind.i64.wrap (i22 + 1)) h53) (fun (j36 : Heap → Prop) =>
  brr x34
  (nn b1 fun (a37 : Addr) =>
  ld [.sl] (a37.add 21) h35 fun (v38 : Sl) =>
  al 138 [.slice s31.ptr s31.len s31.cap] h35 fun (a39 : Addr) (h40 : Heap) =>
  app 138 1 24 (.slice none 0 0) v38 (some a39) 1 h40 fun (s41 : Sl) (h42 : Heap) =>
  nn b1 fun (a43 : Addr) =>
  st (a43.add 21) [.slice s41.ptr s41.len s41.cap] h42 fun (h44 : Heap) =>
  nn b1 fun (a45 : Addr) =>
  ld [.sl] (a45.add 22) h44 fun (v46 : Sl) =>
  al 3 [.int .i64 v18] h44 fun (a47 : Addr) (h48 : Heap) =>
  app 3 1 8 (.int .i64 0) v46 (some a47) 1 h48 fun (s49 : Sl) (h50 : Heap) =>
  nn b1 fun (a51 : Addr) =>
  st (a51.add 22) [.slice s49.ptr s49.len s49.cap] h50 fun (h52 : Heap) =>
  j36 h52)
  (j36 h35))) (fun (j33 : Bool → Heap → Prop) =>
  brr (decide (i22 < 4))
  (j33 true h32)
  ((16 : Int) ≠ 0 ∧
  j33 ((i22.tmod 16) == 0) h32)))
  (j19 h23))
def F_law1_Book_growQueue.l2 (f102_ : Int → Heap → (Int → Int → ByteArray → Int → Heap → Prop) → Prop) (b1 : Option Addr) (v3 : Sl) (j6 : Heap → Prop) : Int → Heap → Prop :=
  wl [(3, .one (.int .i64))] (fun (next7 : Int → Heap → Prop) (k8 : Int) (h9 : Heap) =>
  brr (decide (k8 < ((v3.len : Nat) : Int)))
  (jn [] (fun  (h55 : Heap) =>
  next7 (IntKind.i64.wrap (k8 + 1)) h55) (fun (j10 : Heap → Prop) =>
  nn b1 fun (a11 : Addr) =>
  ld [.sl] (a11.add 21) h9 fun (v12 : Sl) =>
  ixS 1 v12 k8 fun (a13 : Addr) =>
  ld [.sl] a13 h9 fun (v14 : Sl) =>
  nn b1 fun (a15 : Addr) =>
  ld [.sl] (a15.add 22) h9 fun (v16 : Sl) =>
  ixS 1 v16 k8 fun (a17 : Addr) =>
  ld [.int .i64] a17 h9 fun (v18 : Int) =>
  jn [] (fun  (h54 : Heap) =>
  j10 h54) (fun (j19 : Heap → Prop) =>
  F_law1_Book_growQueue.l1 f102_ b1 v18 j19 v14 1 h9)))
  (j6 h9))
def F_law1_Book_growQueue_of (f102_ : Int → Heap → (Int → Int → ByteArray → Int → Heap → Prop) → Prop) (b1 : Option Addr) (h : Heap) (Q : Heap → Prop) : Prop :=
  nn b1 fun (a2 : Addr) =>
  ld [.sl] (a2.add 21) h fun (v3 : Sl) =>
  nn b1 fun (a4 : Addr) =>
  ld [.int .i64] (a4.add 23) h fun (v5 : Int) =>
  jn [] (fun  (h56 : Heap) =>
  nn b1 fun (a57 : Addr) =>
  ld [.sl] (a57.add 21) h56 fun (v58 : Sl) =>
  nn b1 fun (a59 : Addr) =>
  st (a59.add 23) [.int .i64 ((v58.len : Nat) : Int)] h56 fun (h60 : Heap) =>
  Q h60) (fun (j6 : Heap → Prop) =>
  F_law1_Book_growQueue.l2 f102_ b1 v3 j6 v5 h)
def F_law1_Book_growQueue (b1 : Option Addr) (h : Heap) (Q : Heap → Prop) : Prop := F_law1_Book_growQueue_of F_law1_queueMark b1 h Q
def plan79 : Plan := .s (.r [0, 2]) (.s (.s (.r [0, 2, 3]) (.bj [] [0] (.l [(3, .one (.int .i64))] [0, 2] (.s (.s (.r [0, 2, 3, 18]) (.c .z .z)) (.s (.bj [] [0, 2, 3] (.s (.r [0, 2, 3, 4]) (.s (.r [0, 2, 3, 4, 5]) (.s (.r [0, 2, 3, 4, 5, 6]) (.bj [] [0, 2, 3] (.l [(4, .one .sl), (6, .one (.int .i64))] [0, 2, 3, 5] (.s (.s (.r [0, 2, 3, 4, 5, 6, 36]) (.c .z .z)) (.s (.b (.s (.r [0, 2, 3, 4, 5, 6]) (.s (.rj [(50, .one .bool)] [0, 2, 3, 4, 5, 6]) (.cj [] [0, 2, 3, 4, 5, 6] (.s (.r [0, 2, 3, 4, 5, 6]) (.r [0, 2, 3, 4, 5, 6])) .z)))) (.r [0, 2, 3, 4, 5, 6]))))))))) (.r [0, 2, 3])))))) (.r []))
theorem F_law1_Book_growQueue.eq (f102_ : Int → Heap → (Int → Int → ByteArray → Int → Heap → Prop) → Prop) (b1 : Option Addr) (h : Heap) (K : Value → Heap → Prop) : F_law1_Book_growQueue_of f102_ b1 h (fun  (h : Heap) => K (.tuple #[]) h) =
    den Tryz.prog (fn1 102 (E_law1_queueMark_of f102_) noFns) Tryz.f79.ntmps plan79 (bodyOf Tryz.f79) (args0 0 [(.pointer b1 : Value)]) h ⟨fun env h => dRes Tryz.prog Tryz.f79.results.toList env h K, fun _ _ _ => False, fun env h => dRes Tryz.prog Tryz.f79.results.toList env h K⟩ := by kernel_rfl
def E_law1_Book_growQueue_of (f : Option Addr → Heap → (Heap → Prop) → Prop) : List Value → Heap → (Value → Heap → Prop) → Prop
  | [v0], h, K => dec1 .ptr v0 fun (b1 : Option Addr) =>
  f b1 h (fun  (h : Heap) => K (.tuple #[]) h)
  | _, _, _ => False
abbrev E_law1_Book_growQueue := E_law1_Book_growQueue_of F_law1_Book_growQueue
theorem E_law1_Book_growQueue.right : IsRight Tryz.prog 79 E_law1_Book_growQueue := by
  refine isRight fun vs K w hh => ?_
  match vs, hh with
  | [v0], hh =>
    unfold E_law1_Book_growQueue E_law1_Book_growQueue_of at hh
    replace hh := dec1_sound hh; obtain ⟨b1, rfl, hh⟩ := hh
    unfold F_law1_Book_growQueue at hh
    exact calls_den (fn1_right ok102 E_law1_queueMark.right noFns_right) plan79 _ w K Tryz.func79 (by kernel_rfl) (by kernel_rfl) (Eq.mp (F_law1_Book_growQueue.eq F_law1_queueMark b1 w.heap K) hh)
theorem ok79 : okFn Tryz.prog 79 = true := by kernel_rfl
end Go.Proofs.YtigcpkejjjgkeaaGreat.V
namespace Go.Proofs.YtigcpkejjjgkeaaGreat.V
open Go Go.RowKit
set_option linter.unusedVariables false
set_option maxRecDepth 100000
def F_law1_Book_growSlots.l1 (f103_ : Int → Heap → (Int → Int → Int → Int → Heap → Prop) → Prop) (b1 : Option Addr) (v18 : Int) (j19 : Heap → Prop) : Sl → Int → Heap → Prop :=
  wl [(4, .one .sl), (6, .one (.int .i64))] (fun (next20 : Sl → Int → Heap → Prop) (g21 : Sl) (i22 : Int) (h23 : Heap) =>
  brr (decide (i22 ≤ 32))
  (f103_ v18 h23 fun (r24 r25 r26 r27 : Int) (h28 : Heap) =>
  al 144 [.int .u64 r24, .int .i64 r25, .int .i64 r26, .int .u64 r27] h28 fun (a29 : Addr) (h30 : Heap) =>
  app 144 4 32 (.agg #[.int .u64 0, .int .i64 0, .int .i64 0, .int .u64 0]) g21 (some a29) 1 h30 fun (s31 : Sl) (h32 : Heap) =>
  jn [(50, .one .bool)] (fun (x34 : Bool) (h35 : Heap) =>
  jn [] (fun  (h53 : Heap) =>
  next20 s31 (IntKind.i64.wrap (i22 + 1)) h53) (fun (j36 : Heap → Prop) =>
  brr x34
  (nn b1 fun (a37 : Addr) =>
  ld [.sl] (a37.add 24) h35 fun (v38 : Sl) =>
  al 142 [.slice s31.ptr s31.len s31.cap] h35 fun (a39 : Addr) (h40 : Heap) =>
  app 142 1 24 (.slice none 0 0) v38 (some a39) 1 h40 fun (s41 : Sl) (h42 : Heap) =>
  nn b1 fun (a43 : Addr) =>
  st (a43.add 24) [.slice s41.ptr s41.len s41.cap] h42 fun (h44 : Heap) =>
  nn b1 fun (a45 : Addr) =>
  ld [.sl] (a45.add 25) h44 fun (v46 : Sl) =>
  al 3 [.int .i64 v18] h44 fun (a47 : Addr) (h48 : Heap) =>
  app 3 1 8 (.int .i64 0) v46 (some a47) 1 h48 fun (s49 : Sl) (h50 : Heap) =>
  nn b1 fun (a51 : Addr) =>
  st (a51.add 25) [.slice s49.ptr s49.len s49.cap] h50 fun (h52 : Heap) =>
  j36 h52)
  (j36 h35))) (fun (j33 : Bool → Heap → Prop) =>
  brr (decide (i22 < 4))
  (j33 true h32)
  ((16 : Int) ≠ 0 ∧
  j33 ((i22.tmod 16) == 0) h32)))
  (j19 h23))
def F_law1_Book_growSlots.l2 (f103_ : Int → Heap → (Int → Int → Int → Int → Heap → Prop) → Prop) (b1 : Option Addr) (v3 : Sl) (j6 : Heap → Prop) : Int → Heap → Prop :=
  wl [(3, .one (.int .i64))] (fun (next7 : Int → Heap → Prop) (k8 : Int) (h9 : Heap) =>
  brr (decide (k8 < ((v3.len : Nat) : Int)))
  (jn [] (fun  (h55 : Heap) =>
  next7 (IntKind.i64.wrap (k8 + 1)) h55) (fun (j10 : Heap → Prop) =>
  nn b1 fun (a11 : Addr) =>
  ld [.sl] (a11.add 24) h9 fun (v12 : Sl) =>
  ixS 1 v12 k8 fun (a13 : Addr) =>
  ld [.sl] a13 h9 fun (v14 : Sl) =>
  nn b1 fun (a15 : Addr) =>
  ld [.sl] (a15.add 25) h9 fun (v16 : Sl) =>
  ixS 1 v16 k8 fun (a17 : Addr) =>
  ld [.int .i64] a17 h9 fun (v18 : Int) =>
  jn [] (fun  (h54 : Heap) =>
  j10 h54) (fun (j19 : Heap → Prop) =>
  F_law1_Book_growSlots.l1 f103_ b1 v18 j19 v14 1 h9)))
  (j6 h9))
def F_law1_Book_growSlots_of (f103_ : Int → Heap → (Int → Int → Int → Int → Heap → Prop) → Prop) (b1 : Option Addr) (h : Heap) (Q : Heap → Prop) : Prop :=
  nn b1 fun (a2 : Addr) =>
  ld [.sl] (a2.add 24) h fun (v3 : Sl) =>
  nn b1 fun (a4 : Addr) =>
  ld [.int .i64] (a4.add 26) h fun (v5 : Int) =>
  jn [] (fun  (h56 : Heap) =>
  nn b1 fun (a57 : Addr) =>
  ld [.sl] (a57.add 24) h56 fun (v58 : Sl) =>
  nn b1 fun (a59 : Addr) =>
  st (a59.add 26) [.int .i64 ((v58.len : Nat) : Int)] h56 fun (h60 : Heap) =>
  Q h60) (fun (j6 : Heap → Prop) =>
  F_law1_Book_growSlots.l2 f103_ b1 v3 j6 v5 h)
def F_law1_Book_growSlots (b1 : Option Addr) (h : Heap) (Q : Heap → Prop) : Prop := F_law1_Book_growSlots_of F_law1_slotsMark b1 h Q
def plan80 : Plan := .s (.r [0, 2]) (.s (.s (.r [0, 2, 3]) (.bj [] [0] (.l [(3, .one (.int .i64))] [0, 2] (.s (.s (.r [0, 2, 3, 18]) (.c .z .z)) (.s (.bj [] [0, 2, 3] (.s (.r [0, 2, 3, 4]) (.s (.r [0, 2, 3, 4, 5]) (.s (.r [0, 2, 3, 4, 5, 6]) (.bj [] [0, 2, 3] (.l [(4, .one .sl), (6, .one (.int .i64))] [0, 2, 3, 5] (.s (.s (.r [0, 2, 3, 4, 5, 6, 36]) (.c .z .z)) (.s (.b (.s (.r [0, 2, 3, 4, 5, 6]) (.s (.rj [(50, .one .bool)] [0, 2, 3, 4, 5, 6]) (.cj [] [0, 2, 3, 4, 5, 6] (.s (.r [0, 2, 3, 4, 5, 6]) (.r [0, 2, 3, 4, 5, 6])) .z)))) (.r [0, 2, 3, 4, 5, 6]))))))))) (.r [0, 2, 3])))))) (.r []))
theorem F_law1_Book_growSlots.eq (f103_ : Int → Heap → (Int → Int → Int → Int → Heap → Prop) → Prop) (b1 : Option Addr) (h : Heap) (K : Value → Heap → Prop) : F_law1_Book_growSlots_of f103_ b1 h (fun  (h : Heap) => K (.tuple #[]) h) =
    den Tryz.prog (fn1 103 (E_law1_slotsMark_of f103_) noFns) Tryz.f80.ntmps plan80 (bodyOf Tryz.f80) (args0 0 [(.pointer b1 : Value)]) h ⟨fun env h => dRes Tryz.prog Tryz.f80.results.toList env h K, fun _ _ _ => False, fun env h => dRes Tryz.prog Tryz.f80.results.toList env h K⟩ := by kernel_rfl
def E_law1_Book_growSlots_of (f : Option Addr → Heap → (Heap → Prop) → Prop) : List Value → Heap → (Value → Heap → Prop) → Prop
  | [v0], h, K => dec1 .ptr v0 fun (b1 : Option Addr) =>
  f b1 h (fun  (h : Heap) => K (.tuple #[]) h)
  | _, _, _ => False
abbrev E_law1_Book_growSlots := E_law1_Book_growSlots_of F_law1_Book_growSlots
theorem E_law1_Book_growSlots.right : IsRight Tryz.prog 80 E_law1_Book_growSlots := by
  refine isRight fun vs K w hh => ?_
  match vs, hh with
  | [v0], hh =>
    unfold E_law1_Book_growSlots E_law1_Book_growSlots_of at hh
    replace hh := dec1_sound hh; obtain ⟨b1, rfl, hh⟩ := hh
    unfold F_law1_Book_growSlots at hh
    exact calls_den (fn1_right ok103 E_law1_slotsMark.right noFns_right) plan80 _ w K Tryz.func80 (by kernel_rfl) (by kernel_rfl) (Eq.mp (F_law1_Book_growSlots.eq F_law1_slotsMark b1 w.heap K) hh)
theorem ok80 : okFn Tryz.prog 80 = true := by kernel_rfl
end Go.Proofs.YtigcpkejjjgkeaaGreat.V
namespace Go.Proofs.YtigcpkejjjgkeaaGreat.V
open Go Go.RowKit
set_option linter.unusedVariables false
set_option maxRecDepth 100000
def F_law1_msgsMark_of  (m1 : Int) (h : Heap) (Q : Int → Int → Int → Int → Int → Int → Int → Int → Int → Int → Sl → Int → Int → ByteArray → ByteArray → Int → Int → Int → Int → Int → Int → Int → Heap → Prop) : Prop :=
  al 61 [.int .i64 0, .int .i64 0, .int .i64 0, .int .i64 0, .int .u64 0, .int .u64 0, .int .u64 0, .int .u64 0, .int .i64 0, .int .u64 0, .slice none 0 0, .int .i64 0, .int .u64 0, .string (⟨#[]⟩ : ByteArray), .string (⟨#[]⟩ : ByteArray), .int .u64 0, .int .u64 0, .int .u64 0, .int .i64 0, .int .i64 0, .int .i64 0, .int .i64 0] h fun (a2 : Addr) (h3 : Heap) =>
  st a2 [.int .i64 (IntKind.i64.wrap (1000 + m1)), .int .i64 0, .int .i64 0, .int .i64 0, .int .u64 0, .int .u64 0, .int .u64 0, .int .u64 0, .int .i64 0, .int .u64 0, .slice none 0 0, .int .i64 0, .int .u64 0, .string (⟨#[]⟩ : ByteArray), .string (⟨#[]⟩ : ByteArray), .int .u64 0, .int .u64 0, .int .u64 0, .int .i64 0, .int .i64 0, .int .i64 0, .int .i64 0] h3 fun (h4 : Heap) =>
  ld [.int .i64, .int .i64, .int .i64, .int .i64, .int .u64, .int .u64, .int .u64, .int .u64, .int .i64, .int .u64, .sl, .int .i64, .int .u64, .str, .str, .int .u64, .int .u64, .int .u64, .int .i64, .int .i64, .int .i64, .int .i64] a2 h4 fun (v5 v6 v7 v8 v9 v10 v11 v12 v13 v14 : Int) (v15 : Sl) (v16 v17 : Int) (v18 v19 : ByteArray) (v20 v21 v22 v23 v24 v25 v26 : Int) =>
  Q v5 v6 v7 v8 v9 v10 v11 v12 v13 v14 v15 v16 v17 v18 v19 v20 v21 v22 v23 v24 v25 v26 h4
def F_law1_msgsMark (m1 : Int) (h : Heap) (Q : Int → Int → Int → Int → Int → Int → Int → Int → Int → Int → Sl → Int → Int → ByteArray → ByteArray → Int → Int → Int → Int → Int → Int → Int → Heap → Prop) : Prop := F_law1_msgsMark_of  m1 h Q
def plan88 : Plan := .s (.r [0, 2]) (.s (.r [2]) .z)
theorem F_law1_msgsMark.eq  (m1 : Int) (h : Heap) (K : Value → Heap → Prop) : F_law1_msgsMark_of  m1 h (fun (r0 r1 r2 r3 r4 r5 r6 r7 r8 r9 : Int) (r10 : Sl) (r11 r12 : Int) (r13 r14 : ByteArray) (r15 r16 r17 r18 r19 r20 r21 : Int) (h : Heap) => K (.agg #[.int .i64 r0, .int .i64 r1, .int .i64 r2, .int .i64 r3, .int .u64 r4, .int .u64 r5, .int .u64 r6, .int .u64 r7, .int .i64 r8, .int .u64 r9, .slice r10.ptr r10.len r10.cap, .int .i64 r11, .int .u64 r12, .string r13, .string r14, .int .u64 r15, .int .u64 r16, .int .u64 r17, .int .i64 r18, .int .i64 r19, .int .i64 r20, .int .i64 r21]) h) =
    den Tryz.prog noFns Tryz.f88.ntmps plan88 (bodyOf Tryz.f88) (args0 0 [(.int .i64 m1 : Value)]) h ⟨fun env h => dRes Tryz.prog Tryz.f88.results.toList env h K, fun _ _ _ => False, fun env h => dRes Tryz.prog Tryz.f88.results.toList env h K⟩ := by kernel_rfl
def E_law1_msgsMark_of (f : Int → Heap → (Int → Int → Int → Int → Int → Int → Int → Int → Int → Int → Sl → Int → Int → ByteArray → ByteArray → Int → Int → Int → Int → Int → Int → Int → Heap → Prop) → Prop) : List Value → Heap → (Value → Heap → Prop) → Prop
  | [v0], h, K => dec1 (.int .i64) v0 fun (m1 : Int) =>
  f m1 h (fun (r0 r1 r2 r3 r4 r5 r6 r7 r8 r9 : Int) (r10 : Sl) (r11 r12 : Int) (r13 r14 : ByteArray) (r15 r16 r17 r18 r19 r20 r21 : Int) (h : Heap) => K (.agg #[.int .i64 r0, .int .i64 r1, .int .i64 r2, .int .i64 r3, .int .u64 r4, .int .u64 r5, .int .u64 r6, .int .u64 r7, .int .i64 r8, .int .u64 r9, .slice r10.ptr r10.len r10.cap, .int .i64 r11, .int .u64 r12, .string r13, .string r14, .int .u64 r15, .int .u64 r16, .int .u64 r17, .int .i64 r18, .int .i64 r19, .int .i64 r20, .int .i64 r21]) h)
  | _, _, _ => False
abbrev E_law1_msgsMark := E_law1_msgsMark_of F_law1_msgsMark
theorem E_law1_msgsMark.right : IsRight Tryz.prog 88 E_law1_msgsMark := by
  refine isRight fun vs K w hh => ?_
  match vs, hh with
  | [v0], hh =>
    unfold E_law1_msgsMark E_law1_msgsMark_of at hh
    replace hh := dec1_sound hh; obtain ⟨m1, rfl, hh⟩ := hh
    unfold F_law1_msgsMark at hh
    exact calls_den noFns_right plan88 _ w K Tryz.func88 (by kernel_rfl) (by kernel_rfl) (Eq.mp (F_law1_msgsMark.eq  m1 w.heap K) hh)
theorem ok88 : okFn Tryz.prog 88 = true := by kernel_rfl
end Go.Proofs.YtigcpkejjjgkeaaGreat.V
namespace Go.Proofs.YtigcpkejjjgkeaaGreat.V
open Go Go.RowKit
set_option linter.unusedVariables false
set_option maxRecDepth 100000
def F_law1_Book_growMsgs.l1 (f88_ : Int → Heap → (Int → Int → Int → Int → Int → Int → Int → Int → Int → Int → Sl → Int → Int → ByteArray → ByteArray → Int → Int → Int → Int → Int → Int → Int → Heap → Prop) → Prop) (b1 : Option Addr) (v18 : Int) (j19 : Heap → Prop) : Sl → Int → Heap → Prop :=
  wl [(4, .one .sl), (6, .one (.int .i64))] (fun (next20 : Sl → Int → Heap → Prop) (g21 : Sl) (i22 : Int) (h23 : Heap) =>
  brr (decide (i22 ≤ 32))
  (f88_ v18 h23 fun (r24 r25 r26 r27 r28 r29 r30 r31 r32 r33 : Int) (r34 : Sl) (r35 r36 : Int) (r37 r38 : ByteArray) (r39 r40 r41 r42 r43 r44 r45 : Int) (h46 : Heap) =>
  al 61 [.int .i64 r24, .int .i64 r25, .int .i64 r26, .int .i64 r27, .int .u64 r28, .int .u64 r29, .int .u64 r30, .int .u64 r31, .int .i64 r32, .int .u64 r33, .slice r34.ptr r34.len r34.cap, .int .i64 r35, .int .u64 r36, .string r37, .string r38, .int .u64 r39, .int .u64 r40, .int .u64 r41, .int .i64 r42, .int .i64 r43, .int .i64 r44, .int .i64 r45] h46 fun (a47 : Addr) (h48 : Heap) =>
  app 61 22 208 (.agg #[.int .i64 0, .int .i64 0, .int .i64 0, .int .i64 0, .int .u64 0, .int .u64 0, .int .u64 0, .int .u64 0, .int .i64 0, .int .u64 0, .slice none 0 0, .int .i64 0, .int .u64 0, .string (⟨#[]⟩ : ByteArray), .string (⟨#[]⟩ : ByteArray), .int .u64 0, .int .u64 0, .int .u64 0, .int .i64 0, .int .i64 0, .int .i64 0, .int .i64 0]) g21 (some a47) 1 h48 fun (s49 : Sl) (h50 : Heap) =>
  jn [(50, .one .bool)] (fun (x52 : Bool) (h53 : Heap) =>
  jn [] (fun  (h71 : Heap) =>
  next20 s49 (IntKind.i64.wrap (i22 + 1)) h71) (fun (j54 : Heap → Prop) =>
  brr x52
  (nn b1 fun (a55 : Addr) =>
  ld [.sl] (a55.add 27) h53 fun (v56 : Sl) =>
  al 87 [.slice s49.ptr s49.len s49.cap] h53 fun (a57 : Addr) (h58 : Heap) =>
  app 87 1 24 (.slice none 0 0) v56 (some a57) 1 h58 fun (s59 : Sl) (h60 : Heap) =>
  nn b1 fun (a61 : Addr) =>
  st (a61.add 27) [.slice s59.ptr s59.len s59.cap] h60 fun (h62 : Heap) =>
  nn b1 fun (a63 : Addr) =>
  ld [.sl] (a63.add 28) h62 fun (v64 : Sl) =>
  al 3 [.int .i64 v18] h62 fun (a65 : Addr) (h66 : Heap) =>
  app 3 1 8 (.int .i64 0) v64 (some a65) 1 h66 fun (s67 : Sl) (h68 : Heap) =>
  nn b1 fun (a69 : Addr) =>
  st (a69.add 28) [.slice s67.ptr s67.len s67.cap] h68 fun (h70 : Heap) =>
  j54 h70)
  (j54 h53))) (fun (j51 : Bool → Heap → Prop) =>
  brr (decide (i22 < 4))
  (j51 true h50)
  ((16 : Int) ≠ 0 ∧
  j51 ((i22.tmod 16) == 0) h50)))
  (j19 h23))
def F_law1_Book_growMsgs.l2 (f88_ : Int → Heap → (Int → Int → Int → Int → Int → Int → Int → Int → Int → Int → Sl → Int → Int → ByteArray → ByteArray → Int → Int → Int → Int → Int → Int → Int → Heap → Prop) → Prop) (b1 : Option Addr) (v3 : Sl) (j6 : Heap → Prop) : Int → Heap → Prop :=
  wl [(3, .one (.int .i64))] (fun (next7 : Int → Heap → Prop) (k8 : Int) (h9 : Heap) =>
  brr (decide (k8 < ((v3.len : Nat) : Int)))
  (jn [] (fun  (h73 : Heap) =>
  next7 (IntKind.i64.wrap (k8 + 1)) h73) (fun (j10 : Heap → Prop) =>
  nn b1 fun (a11 : Addr) =>
  ld [.sl] (a11.add 27) h9 fun (v12 : Sl) =>
  ixS 1 v12 k8 fun (a13 : Addr) =>
  ld [.sl] a13 h9 fun (v14 : Sl) =>
  nn b1 fun (a15 : Addr) =>
  ld [.sl] (a15.add 28) h9 fun (v16 : Sl) =>
  ixS 1 v16 k8 fun (a17 : Addr) =>
  ld [.int .i64] a17 h9 fun (v18 : Int) =>
  jn [] (fun  (h72 : Heap) =>
  j10 h72) (fun (j19 : Heap → Prop) =>
  F_law1_Book_growMsgs.l1 f88_ b1 v18 j19 v14 1 h9)))
  (j6 h9))
def F_law1_Book_growMsgs_of (f88_ : Int → Heap → (Int → Int → Int → Int → Int → Int → Int → Int → Int → Int → Sl → Int → Int → ByteArray → ByteArray → Int → Int → Int → Int → Int → Int → Int → Heap → Prop) → Prop) (b1 : Option Addr) (h : Heap) (Q : Heap → Prop) : Prop :=
  nn b1 fun (a2 : Addr) =>
  ld [.sl] (a2.add 27) h fun (v3 : Sl) =>
  nn b1 fun (a4 : Addr) =>
  ld [.int .i64] (a4.add 29) h fun (v5 : Int) =>
  jn [] (fun  (h74 : Heap) =>
  nn b1 fun (a75 : Addr) =>
  ld [.sl] (a75.add 27) h74 fun (v76 : Sl) =>
  nn b1 fun (a77 : Addr) =>
  st (a77.add 29) [.int .i64 ((v76.len : Nat) : Int)] h74 fun (h78 : Heap) =>
  Q h78) (fun (j6 : Heap → Prop) =>
  F_law1_Book_growMsgs.l2 f88_ b1 v3 j6 v5 h)
def F_law1_Book_growMsgs (b1 : Option Addr) (h : Heap) (Q : Heap → Prop) : Prop := F_law1_Book_growMsgs_of F_law1_msgsMark b1 h Q
def plan81 : Plan := .s (.r [0, 2]) (.s (.s (.r [0, 2, 3]) (.bj [] [0] (.l [(3, .one (.int .i64))] [0, 2] (.s (.s (.r [0, 2, 3, 18]) (.c .z .z)) (.s (.bj [] [0, 2, 3] (.s (.r [0, 2, 3, 4]) (.s (.r [0, 2, 3, 4, 5]) (.s (.r [0, 2, 3, 4, 5, 6]) (.bj [] [0, 2, 3] (.l [(4, .one .sl), (6, .one (.int .i64))] [0, 2, 3, 5] (.s (.s (.r [0, 2, 3, 4, 5, 6, 36]) (.c .z .z)) (.s (.b (.s (.r [0, 2, 3, 4, 5, 6]) (.s (.rj [(50, .one .bool)] [0, 2, 3, 4, 5, 6]) (.cj [] [0, 2, 3, 4, 5, 6] (.s (.r [0, 2, 3, 4, 5, 6]) (.r [0, 2, 3, 4, 5, 6])) .z)))) (.r [0, 2, 3, 4, 5, 6]))))))))) (.r [0, 2, 3])))))) (.r []))
theorem F_law1_Book_growMsgs.eq (f88_ : Int → Heap → (Int → Int → Int → Int → Int → Int → Int → Int → Int → Int → Sl → Int → Int → ByteArray → ByteArray → Int → Int → Int → Int → Int → Int → Int → Heap → Prop) → Prop) (b1 : Option Addr) (h : Heap) (K : Value → Heap → Prop) : F_law1_Book_growMsgs_of f88_ b1 h (fun  (h : Heap) => K (.tuple #[]) h) =
    den Tryz.prog (fn1 88 (E_law1_msgsMark_of f88_) noFns) Tryz.f81.ntmps plan81 (bodyOf Tryz.f81) (args0 0 [(.pointer b1 : Value)]) h ⟨fun env h => dRes Tryz.prog Tryz.f81.results.toList env h K, fun _ _ _ => False, fun env h => dRes Tryz.prog Tryz.f81.results.toList env h K⟩ := by kernel_rfl
def E_law1_Book_growMsgs_of (f : Option Addr → Heap → (Heap → Prop) → Prop) : List Value → Heap → (Value → Heap → Prop) → Prop
  | [v0], h, K => dec1 .ptr v0 fun (b1 : Option Addr) =>
  f b1 h (fun  (h : Heap) => K (.tuple #[]) h)
  | _, _, _ => False
abbrev E_law1_Book_growMsgs := E_law1_Book_growMsgs_of F_law1_Book_growMsgs
theorem E_law1_Book_growMsgs.right : IsRight Tryz.prog 81 E_law1_Book_growMsgs := by
  refine isRight fun vs K w hh => ?_
  match vs, hh with
  | [v0], hh =>
    unfold E_law1_Book_growMsgs E_law1_Book_growMsgs_of at hh
    replace hh := dec1_sound hh; obtain ⟨b1, rfl, hh⟩ := hh
    unfold F_law1_Book_growMsgs at hh
    exact calls_den (fn1_right ok88 E_law1_msgsMark.right noFns_right) plan81 _ w K Tryz.func81 (by kernel_rfl) (by kernel_rfl) (Eq.mp (F_law1_Book_growMsgs.eq F_law1_msgsMark b1 w.heap K) hh)
theorem ok81 : okFn Tryz.prog 81 = true := by kernel_rfl
end Go.Proofs.YtigcpkejjjgkeaaGreat.V
namespace Go.Proofs.YtigcpkejjjgkeaaGreat.V
open Go Go.RowKit
set_option linter.unusedVariables false
set_option maxRecDepth 100000
def F_law1_flightsMark_of  (m1 : Int) (h : Heap) (Q : Int → Sl → Heap → Prop) : Prop :=
  al 148 [.int .i64 0, .slice none 0 0] h fun (a2 : Addr) (h3 : Heap) =>
  st a2 [.int .i64 (IntKind.i64.wrap (1000 + m1)), .slice none 0 0] h3 fun (h4 : Heap) =>
  ld [.int .i64, .sl] a2 h4 fun (v5 : Int) (v6 : Sl) =>
  Q v5 v6 h4
def F_law1_flightsMark (m1 : Int) (h : Heap) (Q : Int → Sl → Heap → Prop) : Prop := F_law1_flightsMark_of  m1 h Q
def plan105 : Plan := .s (.r [0, 2]) (.s (.r [2]) .z)
theorem F_law1_flightsMark.eq  (m1 : Int) (h : Heap) (K : Value → Heap → Prop) : F_law1_flightsMark_of  m1 h (fun (r0 : Int) (r1 : Sl) (h : Heap) => K (.agg #[.int .i64 r0, .slice r1.ptr r1.len r1.cap]) h) =
    den Tryz.prog noFns Tryz.f105.ntmps plan105 (bodyOf Tryz.f105) (args0 0 [(.int .i64 m1 : Value)]) h ⟨fun env h => dRes Tryz.prog Tryz.f105.results.toList env h K, fun _ _ _ => False, fun env h => dRes Tryz.prog Tryz.f105.results.toList env h K⟩ := by kernel_rfl
def E_law1_flightsMark_of (f : Int → Heap → (Int → Sl → Heap → Prop) → Prop) : List Value → Heap → (Value → Heap → Prop) → Prop
  | [v0], h, K => dec1 (.int .i64) v0 fun (m1 : Int) =>
  f m1 h (fun (r0 : Int) (r1 : Sl) (h : Heap) => K (.agg #[.int .i64 r0, .slice r1.ptr r1.len r1.cap]) h)
  | _, _, _ => False
abbrev E_law1_flightsMark := E_law1_flightsMark_of F_law1_flightsMark
theorem E_law1_flightsMark.right : IsRight Tryz.prog 105 E_law1_flightsMark := by
  refine isRight fun vs K w hh => ?_
  match vs, hh with
  | [v0], hh =>
    unfold E_law1_flightsMark E_law1_flightsMark_of at hh
    replace hh := dec1_sound hh; obtain ⟨m1, rfl, hh⟩ := hh
    unfold F_law1_flightsMark at hh
    exact calls_den noFns_right plan105 _ w K Tryz.func105 (by kernel_rfl) (by kernel_rfl) (Eq.mp (F_law1_flightsMark.eq  m1 w.heap K) hh)
theorem ok105 : okFn Tryz.prog 105 = true := by kernel_rfl
end Go.Proofs.YtigcpkejjjgkeaaGreat.V
namespace Go.Proofs.YtigcpkejjjgkeaaGreat.V
open Go Go.RowKit
set_option linter.unusedVariables false
set_option maxRecDepth 100000
def F_law1_Book_growFlights.l1 (f105_ : Int → Heap → (Int → Sl → Heap → Prop) → Prop) (b1 : Option Addr) (v18 : Int) (j19 : Heap → Prop) : Sl → Int → Heap → Prop :=
  wl [(4, .one .sl), (6, .one (.int .i64))] (fun (next20 : Sl → Int → Heap → Prop) (g21 : Sl) (i22 : Int) (h23 : Heap) =>
  brr (decide (i22 ≤ 32))
  (f105_ v18 h23 fun (r24 : Int) (r25 : Sl) (h26 : Heap) =>
  al 148 [.int .i64 r24, .slice r25.ptr r25.len r25.cap] h26 fun (a27 : Addr) (h28 : Heap) =>
  app 148 2 32 (.agg #[.int .i64 0, .slice none 0 0]) g21 (some a27) 1 h28 fun (s29 : Sl) (h30 : Heap) =>
  jn [(50, .one .bool)] (fun (x32 : Bool) (h33 : Heap) =>
  jn [] (fun  (h51 : Heap) =>
  next20 s29 (IntKind.i64.wrap (i22 + 1)) h51) (fun (j34 : Heap → Prop) =>
  brr x32
  (nn b1 fun (a35 : Addr) =>
  ld [.sl] (a35.add 30) h33 fun (v36 : Sl) =>
  al 146 [.slice s29.ptr s29.len s29.cap] h33 fun (a37 : Addr) (h38 : Heap) =>
  app 146 1 24 (.slice none 0 0) v36 (some a37) 1 h38 fun (s39 : Sl) (h40 : Heap) =>
  nn b1 fun (a41 : Addr) =>
  st (a41.add 30) [.slice s39.ptr s39.len s39.cap] h40 fun (h42 : Heap) =>
  nn b1 fun (a43 : Addr) =>
  ld [.sl] (a43.add 31) h42 fun (v44 : Sl) =>
  al 3 [.int .i64 v18] h42 fun (a45 : Addr) (h46 : Heap) =>
  app 3 1 8 (.int .i64 0) v44 (some a45) 1 h46 fun (s47 : Sl) (h48 : Heap) =>
  nn b1 fun (a49 : Addr) =>
  st (a49.add 31) [.slice s47.ptr s47.len s47.cap] h48 fun (h50 : Heap) =>
  j34 h50)
  (j34 h33))) (fun (j31 : Bool → Heap → Prop) =>
  brr (decide (i22 < 4))
  (j31 true h30)
  ((16 : Int) ≠ 0 ∧
  j31 ((i22.tmod 16) == 0) h30)))
  (j19 h23))
def F_law1_Book_growFlights.l2 (f105_ : Int → Heap → (Int → Sl → Heap → Prop) → Prop) (b1 : Option Addr) (v3 : Sl) (j6 : Heap → Prop) : Int → Heap → Prop :=
  wl [(3, .one (.int .i64))] (fun (next7 : Int → Heap → Prop) (k8 : Int) (h9 : Heap) =>
  brr (decide (k8 < ((v3.len : Nat) : Int)))
  (jn [] (fun  (h53 : Heap) =>
  next7 (IntKind.i64.wrap (k8 + 1)) h53) (fun (j10 : Heap → Prop) =>
  nn b1 fun (a11 : Addr) =>
  ld [.sl] (a11.add 30) h9 fun (v12 : Sl) =>
  ixS 1 v12 k8 fun (a13 : Addr) =>
  ld [.sl] a13 h9 fun (v14 : Sl) =>
  nn b1 fun (a15 : Addr) =>
  ld [.sl] (a15.add 31) h9 fun (v16 : Sl) =>
  ixS 1 v16 k8 fun (a17 : Addr) =>
  ld [.int .i64] a17 h9 fun (v18 : Int) =>
  jn [] (fun  (h52 : Heap) =>
  j10 h52) (fun (j19 : Heap → Prop) =>
  F_law1_Book_growFlights.l1 f105_ b1 v18 j19 v14 1 h9)))
  (j6 h9))
def F_law1_Book_growFlights_of (f105_ : Int → Heap → (Int → Sl → Heap → Prop) → Prop) (b1 : Option Addr) (h : Heap) (Q : Heap → Prop) : Prop :=
  nn b1 fun (a2 : Addr) =>
  ld [.sl] (a2.add 30) h fun (v3 : Sl) =>
  nn b1 fun (a4 : Addr) =>
  ld [.int .i64] (a4.add 32) h fun (v5 : Int) =>
  jn [] (fun  (h54 : Heap) =>
  nn b1 fun (a55 : Addr) =>
  ld [.sl] (a55.add 30) h54 fun (v56 : Sl) =>
  nn b1 fun (a57 : Addr) =>
  st (a57.add 32) [.int .i64 ((v56.len : Nat) : Int)] h54 fun (h58 : Heap) =>
  Q h58) (fun (j6 : Heap → Prop) =>
  F_law1_Book_growFlights.l2 f105_ b1 v3 j6 v5 h)
def F_law1_Book_growFlights (b1 : Option Addr) (h : Heap) (Q : Heap → Prop) : Prop := F_law1_Book_growFlights_of F_law1_flightsMark b1 h Q
def plan82 : Plan := .s (.r [0, 2]) (.s (.s (.r [0, 2, 3]) (.bj [] [0] (.l [(3, .one (.int .i64))] [0, 2] (.s (.s (.r [0, 2, 3, 18]) (.c .z .z)) (.s (.bj [] [0, 2, 3] (.s (.r [0, 2, 3, 4]) (.s (.r [0, 2, 3, 4, 5]) (.s (.r [0, 2, 3, 4, 5, 6]) (.bj [] [0, 2, 3] (.l [(4, .one .sl), (6, .one (.int .i64))] [0, 2, 3, 5] (.s (.s (.r [0, 2, 3, 4, 5, 6, 36]) (.c .z .z)) (.s (.b (.s (.r [0, 2, 3, 4, 5, 6]) (.s (.rj [(50, .one .bool)] [0, 2, 3, 4, 5, 6]) (.cj [] [0, 2, 3, 4, 5, 6] (.s (.r [0, 2, 3, 4, 5, 6]) (.r [0, 2, 3, 4, 5, 6])) .z)))) (.r [0, 2, 3, 4, 5, 6]))))))))) (.r [0, 2, 3])))))) (.r []))
theorem F_law1_Book_growFlights.eq (f105_ : Int → Heap → (Int → Sl → Heap → Prop) → Prop) (b1 : Option Addr) (h : Heap) (K : Value → Heap → Prop) : F_law1_Book_growFlights_of f105_ b1 h (fun  (h : Heap) => K (.tuple #[]) h) =
    den Tryz.prog (fn1 105 (E_law1_flightsMark_of f105_) noFns) Tryz.f82.ntmps plan82 (bodyOf Tryz.f82) (args0 0 [(.pointer b1 : Value)]) h ⟨fun env h => dRes Tryz.prog Tryz.f82.results.toList env h K, fun _ _ _ => False, fun env h => dRes Tryz.prog Tryz.f82.results.toList env h K⟩ := by kernel_rfl
def E_law1_Book_growFlights_of (f : Option Addr → Heap → (Heap → Prop) → Prop) : List Value → Heap → (Value → Heap → Prop) → Prop
  | [v0], h, K => dec1 .ptr v0 fun (b1 : Option Addr) =>
  f b1 h (fun  (h : Heap) => K (.tuple #[]) h)
  | _, _, _ => False
abbrev E_law1_Book_growFlights := E_law1_Book_growFlights_of F_law1_Book_growFlights
theorem E_law1_Book_growFlights.right : IsRight Tryz.prog 82 E_law1_Book_growFlights := by
  refine isRight fun vs K w hh => ?_
  match vs, hh with
  | [v0], hh =>
    unfold E_law1_Book_growFlights E_law1_Book_growFlights_of at hh
    replace hh := dec1_sound hh; obtain ⟨b1, rfl, hh⟩ := hh
    unfold F_law1_Book_growFlights at hh
    exact calls_den (fn1_right ok105 E_law1_flightsMark.right noFns_right) plan82 _ w K Tryz.func82 (by kernel_rfl) (by kernel_rfl) (Eq.mp (F_law1_Book_growFlights.eq F_law1_flightsMark b1 w.heap K) hh)
theorem ok82 : okFn Tryz.prog 82 = true := by kernel_rfl
end Go.Proofs.YtigcpkejjjgkeaaGreat.V
namespace Go.Proofs.YtigcpkejjjgkeaaGreat.V
open Go Go.RowKit
set_option linter.unusedVariables false
set_option maxRecDepth 100000
def F_law1_Book_growFiles.l1 (f104_ : Int → Heap → (ByteArray → Sl → Heap → Prop) → Prop) (b1 : Option Addr) (v18 : Int) (j19 : Heap → Prop) : Sl → Int → Heap → Prop :=
  wl [(4, .one .sl), (6, .one (.int .i64))] (fun (next20 : Sl → Int → Heap → Prop) (g21 : Sl) (i22 : Int) (h23 : Heap) =>
  brr (decide (i22 ≤ 32))
  (f104_ v18 h23 fun (r24 : ByteArray) (r25 : Sl) (h26 : Heap) =>
  al 151 [.string r24, .slice r25.ptr r25.len r25.cap] h26 fun (a27 : Addr) (h28 : Heap) =>
  app 151 2 40 (.agg #[.string (⟨#[]⟩ : ByteArray), .slice none 0 0]) g21 (some a27) 1 h28 fun (s29 : Sl) (h30 : Heap) =>
  jn [(50, .one .bool)] (fun (x32 : Bool) (h33 : Heap) =>
  jn [] (fun  (h51 : Heap) =>
  next20 s29 (IntKind.i64.wrap (i22 + 1)) h51) (fun (j34 : Heap → Prop) =>
  brr x32
  (nn b1 fun (a35 : Addr) =>
  ld [.sl] (a35.add 33) h33 fun (v36 : Sl) =>
  al 149 [.slice s29.ptr s29.len s29.cap] h33 fun (a37 : Addr) (h38 : Heap) =>
  app 149 1 24 (.slice none 0 0) v36 (some a37) 1 h38 fun (s39 : Sl) (h40 : Heap) =>
  nn b1 fun (a41 : Addr) =>
  st (a41.add 33) [.slice s39.ptr s39.len s39.cap] h40 fun (h42 : Heap) =>
  nn b1 fun (a43 : Addr) =>
  ld [.sl] (a43.add 34) h42 fun (v44 : Sl) =>
  al 3 [.int .i64 v18] h42 fun (a45 : Addr) (h46 : Heap) =>
  app 3 1 8 (.int .i64 0) v44 (some a45) 1 h46 fun (s47 : Sl) (h48 : Heap) =>
  nn b1 fun (a49 : Addr) =>
  st (a49.add 34) [.slice s47.ptr s47.len s47.cap] h48 fun (h50 : Heap) =>
  j34 h50)
  (j34 h33))) (fun (j31 : Bool → Heap → Prop) =>
  brr (decide (i22 < 4))
  (j31 true h30)
  ((16 : Int) ≠ 0 ∧
  j31 ((i22.tmod 16) == 0) h30)))
  (j19 h23))
def F_law1_Book_growFiles.l2 (f104_ : Int → Heap → (ByteArray → Sl → Heap → Prop) → Prop) (b1 : Option Addr) (v3 : Sl) (j6 : Heap → Prop) : Int → Heap → Prop :=
  wl [(3, .one (.int .i64))] (fun (next7 : Int → Heap → Prop) (k8 : Int) (h9 : Heap) =>
  brr (decide (k8 < ((v3.len : Nat) : Int)))
  (jn [] (fun  (h53 : Heap) =>
  next7 (IntKind.i64.wrap (k8 + 1)) h53) (fun (j10 : Heap → Prop) =>
  nn b1 fun (a11 : Addr) =>
  ld [.sl] (a11.add 33) h9 fun (v12 : Sl) =>
  ixS 1 v12 k8 fun (a13 : Addr) =>
  ld [.sl] a13 h9 fun (v14 : Sl) =>
  nn b1 fun (a15 : Addr) =>
  ld [.sl] (a15.add 34) h9 fun (v16 : Sl) =>
  ixS 1 v16 k8 fun (a17 : Addr) =>
  ld [.int .i64] a17 h9 fun (v18 : Int) =>
  jn [] (fun  (h52 : Heap) =>
  j10 h52) (fun (j19 : Heap → Prop) =>
  F_law1_Book_growFiles.l1 f104_ b1 v18 j19 v14 1 h9)))
  (j6 h9))
def F_law1_Book_growFiles_of (f104_ : Int → Heap → (ByteArray → Sl → Heap → Prop) → Prop) (b1 : Option Addr) (h : Heap) (Q : Heap → Prop) : Prop :=
  nn b1 fun (a2 : Addr) =>
  ld [.sl] (a2.add 33) h fun (v3 : Sl) =>
  nn b1 fun (a4 : Addr) =>
  ld [.int .i64] (a4.add 35) h fun (v5 : Int) =>
  jn [] (fun  (h54 : Heap) =>
  nn b1 fun (a55 : Addr) =>
  ld [.sl] (a55.add 33) h54 fun (v56 : Sl) =>
  nn b1 fun (a57 : Addr) =>
  st (a57.add 35) [.int .i64 ((v56.len : Nat) : Int)] h54 fun (h58 : Heap) =>
  Q h58) (fun (j6 : Heap → Prop) =>
  F_law1_Book_growFiles.l2 f104_ b1 v3 j6 v5 h)
def F_law1_Book_growFiles (b1 : Option Addr) (h : Heap) (Q : Heap → Prop) : Prop := F_law1_Book_growFiles_of F_law1_filesMark b1 h Q
def plan83 : Plan := .s (.r [0, 2]) (.s (.s (.r [0, 2, 3]) (.bj [] [0] (.l [(3, .one (.int .i64))] [0, 2] (.s (.s (.r [0, 2, 3, 18]) (.c .z .z)) (.s (.bj [] [0, 2, 3] (.s (.r [0, 2, 3, 4]) (.s (.r [0, 2, 3, 4, 5]) (.s (.r [0, 2, 3, 4, 5, 6]) (.bj [] [0, 2, 3] (.l [(4, .one .sl), (6, .one (.int .i64))] [0, 2, 3, 5] (.s (.s (.r [0, 2, 3, 4, 5, 6, 36]) (.c .z .z)) (.s (.b (.s (.r [0, 2, 3, 4, 5, 6]) (.s (.rj [(50, .one .bool)] [0, 2, 3, 4, 5, 6]) (.cj [] [0, 2, 3, 4, 5, 6] (.s (.r [0, 2, 3, 4, 5, 6]) (.r [0, 2, 3, 4, 5, 6])) .z)))) (.r [0, 2, 3, 4, 5, 6]))))))))) (.r [0, 2, 3])))))) (.r []))
theorem F_law1_Book_growFiles.eq (f104_ : Int → Heap → (ByteArray → Sl → Heap → Prop) → Prop) (b1 : Option Addr) (h : Heap) (K : Value → Heap → Prop) : F_law1_Book_growFiles_of f104_ b1 h (fun  (h : Heap) => K (.tuple #[]) h) =
    den Tryz.prog (fn1 104 (E_law1_filesMark_of f104_) noFns) Tryz.f83.ntmps plan83 (bodyOf Tryz.f83) (args0 0 [(.pointer b1 : Value)]) h ⟨fun env h => dRes Tryz.prog Tryz.f83.results.toList env h K, fun _ _ _ => False, fun env h => dRes Tryz.prog Tryz.f83.results.toList env h K⟩ := by kernel_rfl
def E_law1_Book_growFiles_of (f : Option Addr → Heap → (Heap → Prop) → Prop) : List Value → Heap → (Value → Heap → Prop) → Prop
  | [v0], h, K => dec1 .ptr v0 fun (b1 : Option Addr) =>
  f b1 h (fun  (h : Heap) => K (.tuple #[]) h)
  | _, _, _ => False
abbrev E_law1_Book_growFiles := E_law1_Book_growFiles_of F_law1_Book_growFiles
theorem E_law1_Book_growFiles.right : IsRight Tryz.prog 83 E_law1_Book_growFiles := by
  refine isRight fun vs K w hh => ?_
  match vs, hh with
  | [v0], hh =>
    unfold E_law1_Book_growFiles E_law1_Book_growFiles_of at hh
    replace hh := dec1_sound hh; obtain ⟨b1, rfl, hh⟩ := hh
    unfold F_law1_Book_growFiles at hh
    exact calls_den (fn1_right ok104 E_law1_filesMark.right noFns_right) plan83 _ w K Tryz.func83 (by kernel_rfl) (by kernel_rfl) (Eq.mp (F_law1_Book_growFiles.eq F_law1_filesMark b1 w.heap K) hh)
theorem ok83 : okFn Tryz.prog 83 = true := by kernel_rfl
end Go.Proofs.YtigcpkejjjgkeaaGreat.V
namespace Go.Proofs.YtigcpkejjjgkeaaGreat.V
open Go Go.RowKit
set_option linter.unusedVariables false
set_option maxRecDepth 100000
def F_law1_Book_grow_of (f72_ : Option Addr → Heap → (Heap → Prop) → Prop) (f73_ : Option Addr → Heap → (Heap → Prop) → Prop) (f74_ : Option Addr → Heap → (Heap → Prop) → Prop) (f75_ : Option Addr → Heap → (Heap → Prop) → Prop) (f76_ : Option Addr → Heap → (Heap → Prop) → Prop) (f77_ : Option Addr → Heap → (Heap → Prop) → Prop) (f78_ : Option Addr → Heap → (Heap → Prop) → Prop) (f79_ : Option Addr → Heap → (Heap → Prop) → Prop) (f80_ : Option Addr → Heap → (Heap → Prop) → Prop) (f81_ : Option Addr → Heap → (Heap → Prop) → Prop) (f82_ : Option Addr → Heap → (Heap → Prop) → Prop) (f83_ : Option Addr → Heap → (Heap → Prop) → Prop) (b1 : Option Addr) (h : Heap) (Q : Heap → Prop) : Prop :=
  f72_ b1 h fun  (h2 : Heap) =>
  f73_ b1 h2 fun  (h3 : Heap) =>
  f74_ b1 h3 fun  (h4 : Heap) =>
  f75_ b1 h4 fun  (h5 : Heap) =>
  f76_ b1 h5 fun  (h6 : Heap) =>
  f77_ b1 h6 fun  (h7 : Heap) =>
  f78_ b1 h7 fun  (h8 : Heap) =>
  f79_ b1 h8 fun  (h9 : Heap) =>
  f80_ b1 h9 fun  (h10 : Heap) =>
  f81_ b1 h10 fun  (h11 : Heap) =>
  f82_ b1 h11 fun  (h12 : Heap) =>
  f83_ b1 h12 fun  (h13 : Heap) =>
  nn b1 fun (a14 : Addr) =>
  ld [.int .i64] (a14.add 36) h13 fun (v15 : Int) =>
  nn b1 fun (a16 : Addr) =>
  st (a16.add 37) [.int .i64 v15] h13 fun (h17 : Heap) =>
  Q h17
def F_law1_Book_grow (b1 : Option Addr) (h : Heap) (Q : Heap → Prop) : Prop := F_law1_Book_grow_of F_law1_Book_growBytes F_law1_Book_growRows F_law1_Book_growTexts F_law1_Book_growInts F_law1_Book_growWords F_law1_Book_growDones F_law1_Book_growAccts F_law1_Book_growQueue F_law1_Book_growSlots F_law1_Book_growMsgs F_law1_Book_growFlights F_law1_Book_growFiles b1 h Q
def plan40 : Plan := .s (.r [0]) (.s (.r [0]) (.s (.r [0]) (.s (.r [0]) (.s (.r [0]) (.s (.r [0]) (.s (.r [0]) (.s (.r [0]) (.s (.r [0]) (.s (.r [0]) (.s (.r [0]) (.s (.r [0]) (.r []))))))))))))
theorem F_law1_Book_grow.eq (f72_ : Option Addr → Heap → (Heap → Prop) → Prop) (f73_ : Option Addr → Heap → (Heap → Prop) → Prop) (f74_ : Option Addr → Heap → (Heap → Prop) → Prop) (f75_ : Option Addr → Heap → (Heap → Prop) → Prop) (f76_ : Option Addr → Heap → (Heap → Prop) → Prop) (f77_ : Option Addr → Heap → (Heap → Prop) → Prop) (f78_ : Option Addr → Heap → (Heap → Prop) → Prop) (f79_ : Option Addr → Heap → (Heap → Prop) → Prop) (f80_ : Option Addr → Heap → (Heap → Prop) → Prop) (f81_ : Option Addr → Heap → (Heap → Prop) → Prop) (f82_ : Option Addr → Heap → (Heap → Prop) → Prop) (f83_ : Option Addr → Heap → (Heap → Prop) → Prop) (b1 : Option Addr) (h : Heap) (K : Value → Heap → Prop) : F_law1_Book_grow_of f72_ f73_ f74_ f75_ f76_ f77_ f78_ f79_ f80_ f81_ f82_ f83_ b1 h (fun  (h : Heap) => K (.tuple #[]) h) =
    den Tryz.prog (fn1 72 (E_law1_Book_growBytes_of f72_) (fn1 73 (E_law1_Book_growRows_of f73_) (fn1 74 (E_law1_Book_growTexts_of f74_) (fn1 75 (E_law1_Book_growInts_of f75_) (fn1 76 (E_law1_Book_growWords_of f76_) (fn1 77 (E_law1_Book_growDones_of f77_) (fn1 78 (E_law1_Book_growAccts_of f78_) (fn1 79 (E_law1_Book_growQueue_of f79_) (fn1 80 (E_law1_Book_growSlots_of f80_) (fn1 81 (E_law1_Book_growMsgs_of f81_) (fn1 82 (E_law1_Book_growFlights_of f82_) (fn1 83 (E_law1_Book_growFiles_of f83_) noFns)))))))))))) Tryz.f40.ntmps plan40 (bodyOf Tryz.f40) (args0 0 [(.pointer b1 : Value)]) h ⟨fun env h => dRes Tryz.prog Tryz.f40.results.toList env h K, fun _ _ _ => False, fun env h => dRes Tryz.prog Tryz.f40.results.toList env h K⟩ := by kernel_rfl
def E_law1_Book_grow_of (f : Option Addr → Heap → (Heap → Prop) → Prop) : List Value → Heap → (Value → Heap → Prop) → Prop
  | [v0], h, K => dec1 .ptr v0 fun (b1 : Option Addr) =>
  f b1 h (fun  (h : Heap) => K (.tuple #[]) h)
  | _, _, _ => False
abbrev E_law1_Book_grow := E_law1_Book_grow_of F_law1_Book_grow
theorem E_law1_Book_grow.right : IsRight Tryz.prog 40 E_law1_Book_grow := by
  refine isRight fun vs K w hh => ?_
  match vs, hh with
  | [v0], hh =>
    unfold E_law1_Book_grow E_law1_Book_grow_of at hh
    replace hh := dec1_sound hh; obtain ⟨b1, rfl, hh⟩ := hh
    unfold F_law1_Book_grow at hh
    exact calls_den (fn1_right ok72 E_law1_Book_growBytes.right (fn1_right ok73 E_law1_Book_growRows.right (fn1_right ok74 E_law1_Book_growTexts.right (fn1_right ok75 E_law1_Book_growInts.right (fn1_right ok76 E_law1_Book_growWords.right (fn1_right ok77 E_law1_Book_growDones.right (fn1_right ok78 E_law1_Book_growAccts.right (fn1_right ok79 E_law1_Book_growQueue.right (fn1_right ok80 E_law1_Book_growSlots.right (fn1_right ok81 E_law1_Book_growMsgs.right (fn1_right ok82 E_law1_Book_growFlights.right (fn1_right ok83 E_law1_Book_growFiles.right noFns_right)))))))))))) plan40 _ w K Tryz.func40 (by kernel_rfl) (by kernel_rfl) (Eq.mp (F_law1_Book_grow.eq F_law1_Book_growBytes F_law1_Book_growRows F_law1_Book_growTexts F_law1_Book_growInts F_law1_Book_growWords F_law1_Book_growDones F_law1_Book_growAccts F_law1_Book_growQueue F_law1_Book_growSlots F_law1_Book_growMsgs F_law1_Book_growFlights F_law1_Book_growFiles b1 w.heap K) hh)
theorem ok40 : okFn Tryz.prog 40 = true := by kernel_rfl
end Go.Proofs.YtigcpkejjjgkeaaGreat.V
namespace Go.Proofs.YtigcpkejjjgkeaaGreat.V
open Go Go.RowKit
set_option linter.unusedVariables false
set_option maxRecDepth 100000
def F_law1_Book_Look_of (f39_ : Option Addr → Heap → (Bool → Heap → Prop) → Prop) (f40_ : Option Addr → Heap → (Heap → Prop) → Prop) (b1 : Option Addr) (h : Heap) (Q : Bool → Heap → Prop) : Prop :=
  f39_ b1 h fun (r2 : Bool) (h3 : Heap) =>
  brr (!r2)
  (Q false h3)
  (nn b1 fun (a4 : Addr) =>
  ld [.int .i64] (a4.add 37) h3 fun (v5 : Int) =>
  nn b1 fun (a6 : Addr) =>
  ld [.int .i64] (a6.add 36) h3 fun (v7 : Int) =>
  brr (v5 == v7)
  (Q true h3)
  (f40_ b1 h3 fun  (h8 : Heap) =>
  f39_ b1 h8 fun (r9 : Bool) (h10 : Heap) =>
  Q r9 h10))
def F_law1_Book_Look (b1 : Option Addr) (h : Heap) (Q : Bool → Heap → Prop) : Prop := F_law1_Book_Look_of F_law1_Book_holds F_law1_Book_grow b1 h Q
def plan10 : Plan := .s (.r [0]) (.s (.s (.r [0, 5]) (.c (.s (.r [2]) .z) .z)) (.s (.s (.d [0, 1, 3, 7, 0, 16, 48, 112, 255] [[0, 1, 2, 3, 4, 5, 6, 7, 8]] [0, 14]) (.c (.s (.r [2]) .z) .z)) (.s (.r [0]) (.s (.r [2]) .z))))
theorem F_law1_Book_Look.eq (f39_ : Option Addr → Heap → (Bool → Heap → Prop) → Prop) (f40_ : Option Addr → Heap → (Heap → Prop) → Prop) (b1 : Option Addr) (h : Heap) (K : Value → Heap → Prop) : F_law1_Book_Look_of f39_ f40_ b1 h (fun (r0 : Bool) (h : Heap) => K (.bool r0) h) =
    den Tryz.prog (fn1 39 (E_law1_Book_holds_of f39_) (fn1 40 (E_law1_Book_grow_of f40_) noFns)) Tryz.f10.ntmps plan10 (bodyOf Tryz.f10) (args0 0 [(.pointer b1 : Value)]) h ⟨fun env h => dRes Tryz.prog Tryz.f10.results.toList env h K, fun _ _ _ => False, fun env h => dRes Tryz.prog Tryz.f10.results.toList env h K⟩ := by kernel_rfl
def E_law1_Book_Look_of (f : Option Addr → Heap → (Bool → Heap → Prop) → Prop) : List Value → Heap → (Value → Heap → Prop) → Prop
  | [v0], h, K => dec1 .ptr v0 fun (b1 : Option Addr) =>
  f b1 h (fun (r0 : Bool) (h : Heap) => K (.bool r0) h)
  | _, _, _ => False
abbrev E_law1_Book_Look := E_law1_Book_Look_of F_law1_Book_Look
theorem E_law1_Book_Look.right : IsRight Tryz.prog 10 E_law1_Book_Look := by
  refine isRight fun vs K w hh => ?_
  match vs, hh with
  | [v0], hh =>
    unfold E_law1_Book_Look E_law1_Book_Look_of at hh
    replace hh := dec1_sound hh; obtain ⟨b1, rfl, hh⟩ := hh
    unfold F_law1_Book_Look at hh
    exact calls_den (fn1_right ok39 E_law1_Book_holds.right (fn1_right ok40 E_law1_Book_grow.right noFns_right)) plan10 _ w K Tryz.func10 (by kernel_rfl) (by kernel_rfl) (Eq.mp (F_law1_Book_Look.eq F_law1_Book_holds F_law1_Book_grow b1 w.heap K) hh)
theorem ok10 : okFn Tryz.prog 10 = true := by kernel_rfl
end Go.Proofs.YtigcpkejjjgkeaaGreat.V
namespace Go.Proofs.YtigcpkejjjgkeaaGreat.V
open Go Go.RowKit
set_option linter.unusedVariables false
set_option maxRecDepth 100000
def F_law1_Book_tight_of  (b1 : Option Addr) (n2 : Int) (h : Heap) (Q : Bool → Heap → Prop) : Prop :=
  nn b1 fun (a3 : Addr) =>
  ld [.int .i64] (a3.add 38) h fun (v4 : Int) =>
  brr (decide ((IntKind.i64.wrap (v4 + n2)) > 16777216))
  (Q true h)
  (nn b1 fun (a5 : Addr) =>
  ld [.int .i64] (a5.add 38) h fun (v6 : Int) =>
  nn b1 fun (a7 : Addr) =>
  st (a7.add 38) [.int .i64 (IntKind.i64.wrap (v6 + n2))] h fun (h8 : Heap) =>
  Q false h8)
def F_law1_Book_tight (b1 : Option Addr) (n2 : Int) (h : Heap) (Q : Bool → Heap → Prop) : Prop := F_law1_Book_tight_of  b1 n2 h Q
def plan45 : Plan := .s (.r [0, 1]) (.s (.s (.r [0, 1, 11]) (.c (.s (.r [4]) .z) .z)) (.s (.r []) (.s (.r [4]) .z)))
theorem F_law1_Book_tight.eq  (b1 : Option Addr) (n2 : Int) (h : Heap) (K : Value → Heap → Prop) : F_law1_Book_tight_of  b1 n2 h (fun (r0 : Bool) (h : Heap) => K (.bool r0) h) =
    den Tryz.prog noFns Tryz.f45.ntmps plan45 (bodyOf Tryz.f45) (args0 0 [(.pointer b1 : Value), (.int .i64 n2 : Value)]) h ⟨fun env h => dRes Tryz.prog Tryz.f45.results.toList env h K, fun _ _ _ => False, fun env h => dRes Tryz.prog Tryz.f45.results.toList env h K⟩ := by kernel_rfl
def E_law1_Book_tight_of (f : Option Addr → Int → Heap → (Bool → Heap → Prop) → Prop) : List Value → Heap → (Value → Heap → Prop) → Prop
  | [v0, v1], h, K => dec1 .ptr v0 fun (b1 : Option Addr) =>
  dec1 (.int .i64) v1 fun (n2 : Int) =>
  f b1 n2 h (fun (r0 : Bool) (h : Heap) => K (.bool r0) h)
  | _, _, _ => False
abbrev E_law1_Book_tight := E_law1_Book_tight_of F_law1_Book_tight
theorem E_law1_Book_tight.right : IsRight Tryz.prog 45 E_law1_Book_tight := by
  refine isRight fun vs K w hh => ?_
  match vs, hh with
  | [v0, v1], hh =>
    unfold E_law1_Book_tight E_law1_Book_tight_of at hh
    replace hh := dec1_sound hh; obtain ⟨b1, rfl, hh⟩ := hh
    replace hh := dec1_sound hh; obtain ⟨n2, rfl, hh⟩ := hh
    unfold F_law1_Book_tight at hh
    exact calls_den noFns_right plan45 _ w K Tryz.func45 (by kernel_rfl) (by kernel_rfl) (Eq.mp (F_law1_Book_tight.eq  b1 n2 w.heap K) hh)
theorem ok45 : okFn Tryz.prog 45 = true := by kernel_rfl
end Go.Proofs.YtigcpkejjjgkeaaGreat.V
namespace Go.Proofs.YtigcpkejjjgkeaaGreat.V
open Go Go.RowKit
set_option linter.unusedVariables false
set_option maxRecDepth 100000
def F_law1_Book_Bytes.l1 (f44_ : Int → Int → Heap → (Int → Heap → Prop) → Prop) (l2 : Sl) (v8 : Int) (j9 : Heap → Prop) : Int → Heap → Prop :=
  wl [(5, .one (.int .i64))] (fun (next10 : Int → Heap → Prop) (i11 : Int) (h12 : Heap) =>
  brr (decide (i11 < ((l2.len : Nat) : Int)))
  (f44_ v8 i11 h12 fun (r13 : Int) (h14 : Heap) =>
  ixS 1 l2 i11 fun (a15 : Addr) =>
  st a15 [.int .u8 r13] h14 fun (h16 : Heap) =>
  next10 (IntKind.i64.wrap (i11 + 1)) h16)
  (j9 h12))
def F_law1_Book_Bytes_of (f44_ : Int → Int → Heap → (Int → Heap → Prop) → Prop) (f45_ : Option Addr → Int → Heap → (Bool → Heap → Prop) → Prop) (b1 : Option Addr) (l2 : Sl) (h : Heap) (Q : Heap → Prop) : Prop :=
  nn b1 fun (a3 : Addr) =>
  ld [.int .i64] (a3.add 36) h fun (v4 : Int) =>
  nn b1 fun (a5 : Addr) =>
  st (a5.add 36) [.int .i64 (IntKind.i64.wrap (v4 + 1))] h fun (h6 : Heap) =>
  nn b1 fun (a7 : Addr) =>
  ld [.int .i64] (a7.add 36) h6 fun (v8 : Int) =>
  jn [] (fun  (h17 : Heap) =>
  f45_ b1 (IntKind.i64.wrap (1200 + (IntKind.i64.wrap (3 * ((l2.len : Nat) : Int))))) h17 fun (r18 : Bool) (h19 : Heap) =>
  brr r18
  (Q h19)
  (nn b1 fun (a20 : Addr) =>
  ld [.sl] (a20.add 0) h19 fun (v21 : Sl) =>
  al 52 [.slice l2.ptr l2.len l2.cap] h19 fun (a22 : Addr) (h23 : Heap) =>
  app 52 1 24 (.slice none 0 0) v21 (some a22) 1 h23 fun (s24 : Sl) (h25 : Heap) =>
  nn b1 fun (a26 : Addr) =>
  st (a26.add 0) [.slice s24.ptr s24.len s24.cap] h25 fun (h27 : Heap) =>
  nn b1 fun (a28 : Addr) =>
  ld [.sl] (a28.add 1) h27 fun (v29 : Sl) =>
  al 3 [.int .i64 v8] h27 fun (a30 : Addr) (h31 : Heap) =>
  app 3 1 8 (.int .i64 0) v29 (some a30) 1 h31 fun (s32 : Sl) (h33 : Heap) =>
  nn b1 fun (a34 : Addr) =>
  st (a34.add 1) [.slice s32.ptr s32.len s32.cap] h33 fun (h35 : Heap) =>
  Q h35)) (fun (j9 : Heap → Prop) =>
  F_law1_Book_Bytes.l1 f44_ l2 v8 j9 0 h6)
def F_law1_Book_Bytes (b1 : Option Addr) (l2 : Sl) (h : Heap) (Q : Heap → Prop) : Prop := F_law1_Book_Bytes_of F_law1_at F_law1_Book_tight b1 l2 h Q
def plan24 : Plan := .s (.r [0, 1]) (.s (.r [0, 1, 4]) (.s (.s (.r [0, 1, 4, 5]) (.bj [] [0, 1, 4] (.l [(5, .one (.int .i64))] [0, 1, 4] (.s (.s (.r [0, 1, 4, 5, 20]) (.c .z .z)) (.s (.b (.r [0, 1, 4, 5])) (.r [0, 1, 4, 5])))))) (.s (.s (.r [0, 1, 4, 34]) (.c .z .z)) (.s (.r [0, 4]) (.r [])))))
theorem F_law1_Book_Bytes.eq (f44_ : Int → Int → Heap → (Int → Heap → Prop) → Prop) (f45_ : Option Addr → Int → Heap → (Bool → Heap → Prop) → Prop) (b1 : Option Addr) (l2 : Sl) (h : Heap) (K : Value → Heap → Prop) : F_law1_Book_Bytes_of f44_ f45_ b1 l2 h (fun  (h : Heap) => K (.tuple #[]) h) =
    den Tryz.prog (fn1 44 (E_law1_at_of f44_) (fn1 45 (E_law1_Book_tight_of f45_) noFns)) Tryz.f24.ntmps plan24 (bodyOf Tryz.f24) (args0 0 [(.pointer b1 : Value), (.slice l2.ptr l2.len l2.cap : Value)]) h ⟨fun env h => dRes Tryz.prog Tryz.f24.results.toList env h K, fun _ _ _ => False, fun env h => dRes Tryz.prog Tryz.f24.results.toList env h K⟩ := by kernel_rfl
def E_law1_Book_Bytes_of (f : Option Addr → Sl → Heap → (Heap → Prop) → Prop) : List Value → Heap → (Value → Heap → Prop) → Prop
  | [v0, v1], h, K => dec1 .ptr v0 fun (b1 : Option Addr) =>
  dec1 .sl v1 fun (l2 : Sl) =>
  f b1 l2 h (fun  (h : Heap) => K (.tuple #[]) h)
  | _, _, _ => False
abbrev E_law1_Book_Bytes := E_law1_Book_Bytes_of F_law1_Book_Bytes
theorem E_law1_Book_Bytes.right : IsRight Tryz.prog 24 E_law1_Book_Bytes := by
  refine isRight fun vs K w hh => ?_
  match vs, hh with
  | [v0, v1], hh =>
    unfold E_law1_Book_Bytes E_law1_Book_Bytes_of at hh
    replace hh := dec1_sound hh; obtain ⟨b1, rfl, hh⟩ := hh
    replace hh := dec1_sound hh; obtain ⟨l2, rfl, hh⟩ := hh
    unfold F_law1_Book_Bytes at hh
    exact calls_den (fn1_right ok44 E_law1_at.right (fn1_right ok45 E_law1_Book_tight.right noFns_right)) plan24 _ w K Tryz.func24 (by kernel_rfl) (by kernel_rfl) (Eq.mp (F_law1_Book_Bytes.eq F_law1_at F_law1_Book_tight b1 l2 w.heap K) hh)
theorem ok24 : okFn Tryz.prog 24 = true := by kernel_rfl
end Go.Proofs.YtigcpkejjjgkeaaGreat.V
/- The Book whose lists are of bytes alone: what it does with all other kinds: nothing. (Printed by a small program.) -/
namespace Go.Proofs.YtigcpkejjjgkeaaGreat.V
open Go Go.RowKit
set_option linter.unusedVariables false
set_option linter.unusedSimpArgs false
theorem wl_now1 {i : Nat} {k : Kd} {B : (k.T → Heap → Prop) → k.T → Heap → Prop} {x : k.T} {h : Heap} (hb : ∀ next, B next x h) : wl [(i, .one k)] B x h :=
  wl1 (fun _ x' h' => x' = x ∧ h' = h) (fun m x' h' next _ ⟨e1, e2⟩ => by subst e1 e2; exact hb next) (m := 0) ⟨rfl, rfl⟩
def bkC (s0 s1 : Sl) (n t d u : Int) : List Value := [.slice s0.ptr s0.len s0.cap, .slice s1.ptr s1.len s1.cap, .int .i64 n, .slice none 0 0, .slice none 0 0, .int .i64 0, .slice none 0 0, .slice none 0 0, .int .i64 0, .slice none 0 0, .slice none 0 0, .int .i64 0, .slice none 0 0, .slice none 0 0, .int .i64 0, .slice none 0 0, .slice none 0 0, .int .i64 0, .slice none 0 0, .slice none 0 0, .int .i64 0, .slice none 0 0, .slice none 0 0, .int .i64 0, .slice none 0 0, .slice none 0 0, .int .i64 0, .slice none 0 0, .slice none 0 0, .int .i64 0, .slice none 0 0, .slice none 0 0, .int .i64 0, .slice none 0 0, .slice none 0 0, .int .i64 0, .int .i64 t, .int .i64 d, .int .i64 u]
section
variable {h0 h : Heap} {L : List Res} {bk : Nat} {s0 s1 : Sl} {n t d u : Int}
theorem F_law1_Book_kept.is {Q : Bool → Heap → Prop} (O : Sat h0 h (own bk (bkC s0 s1 n t d u) :: L)) (k : Q true h) : F_law1_Book_kept (some (pt bk 0)) h Q := by
  rw [F_law1_Book_kept.eq_1, F_law1_Book_kept_of.eq_1]
  unfold bkC at O
  refine jn_go ?_
  rw [F_law1_Book_kept.l2.eq_1]
  refine wl_now1 fun next => ?_
  simp only [nn_some, pt_add, Nat.zero_add, Nat.add_zero, Nat.reduceAdd, Nat.reduceMul, Int.toNat_zero, Int.toNat_one, Nat.zero_mul, Nat.one_mul]
  refine O.ld 0 rfl (ldL_c (k := .sl) (x := (⟨none, 0, 0⟩ : Sl)) (ldL_n ?_))
  refine brr_ff (by decide) ?_
  refine jn_go ?_
  rw [F_law1_Book_kept.l4.eq_1]
  refine wl_now1 fun next => ?_
  simp only [nn_some, pt_add, Nat.zero_add, Nat.add_zero, Nat.reduceAdd, Nat.reduceMul, Int.toNat_zero, Int.toNat_one, Nat.zero_mul, Nat.one_mul]
  refine O.ld 0 rfl (ldL_c (k := .sl) (x := (⟨none, 0, 0⟩ : Sl)) (ldL_n ?_))
  refine brr_ff (by decide) ?_
  refine jn_go ?_
  rw [F_law1_Book_kept.l6.eq_1]
  refine wl_now1 fun next => ?_
  simp only [nn_some, pt_add, Nat.zero_add, Nat.add_zero, Nat.reduceAdd, Nat.reduceMul, Int.toNat_zero, Int.toNat_one, Nat.zero_mul, Nat.one_mul]
  refine O.ld 0 rfl (ldL_c (k := .sl) (x := (⟨none, 0, 0⟩ : Sl)) (ldL_n ?_))
  refine brr_ff (by decide) ?_
  refine jn_go ?_
  rw [F_law1_Book_kept.l8.eq_1]
  refine wl_now1 fun next => ?_
  simp only [nn_some, pt_add, Nat.zero_add, Nat.add_zero, Nat.reduceAdd, Nat.reduceMul, Int.toNat_zero, Int.toNat_one, Nat.zero_mul, Nat.one_mul]
  refine O.ld 0 rfl (ldL_c (k := .sl) (x := (⟨none, 0, 0⟩ : Sl)) (ldL_n ?_))
  refine brr_ff (by decide) ?_
  exact k
theorem F_law1_Book_told.is {Q : Bool → Heap → Prop} (O : Sat h0 h (own bk (bkC s0 s1 n t d u) :: L)) (k : Q true h) : F_law1_Book_told (some (pt bk 0)) h Q := by
  rw [F_law1_Book_told.eq_1, F_law1_Book_told_of.eq_1]
  unfold bkC at O
  refine jn_go ?_
  rw [F_law1_Book_told.l2.eq_1]
  refine wl_now1 fun next => ?_
  simp only [nn_some, pt_add, Nat.zero_add, Nat.add_zero, Nat.reduceAdd, Nat.reduceMul, Int.toNat_zero, Int.toNat_one, Nat.zero_mul, Nat.one_mul]
  refine O.ld 0 rfl (ldL_c (k := .sl) (x := (⟨none, 0, 0⟩ : Sl)) (ldL_n ?_))
  refine brr_ff (by decide) ?_
  refine jn_go ?_
  rw [F_law1_Book_told.l4.eq_1]
  refine wl_now1 fun next => ?_
  simp only [nn_some, pt_add, Nat.zero_add, Nat.add_zero, Nat.reduceAdd, Nat.reduceMul, Int.toNat_zero, Int.toNat_one, Nat.zero_mul, Nat.one_mul]
  refine O.ld 0 rfl (ldL_c (k := .sl) (x := (⟨none, 0, 0⟩ : Sl)) (ldL_n ?_))
  refine brr_ff (by decide) ?_
  refine jn_go ?_
  rw [F_law1_Book_told.l6.eq_1]
  refine wl_now1 fun next => ?_
  simp only [nn_some, pt_add, Nat.zero_add, Nat.add_zero, Nat.reduceAdd, Nat.reduceMul, Int.toNat_zero, Int.toNat_one, Nat.zero_mul, Nat.one_mul]
  refine O.ld 0 rfl (ldL_c (k := .sl) (x := (⟨none, 0, 0⟩ : Sl)) (ldL_n ?_))
  refine brr_ff (by decide) ?_
  refine jn_go ?_
  rw [F_law1_Book_told.l8.eq_1]
  refine wl_now1 fun next => ?_
  simp only [nn_some, pt_add, Nat.zero_add, Nat.add_zero, Nat.reduceAdd, Nat.reduceMul, Int.toNat_zero, Int.toNat_one, Nat.zero_mul, Nat.one_mul]
  refine O.ld 0 rfl (ldL_c (k := .sl) (x := (⟨none, 0, 0⟩ : Sl)) (ldL_n ?_))
  refine brr_ff (by decide) ?_
  exact k
theorem F_law1_Book_held.is {Q : Bool → Heap → Prop} (O : Sat h0 h (own bk (bkC s0 s1 n t d u) :: L)) (k : Q true h) : F_law1_Book_held (some (pt bk 0)) h Q := by
  rw [F_law1_Book_held.eq_1, F_law1_Book_held_of.eq_1]
  unfold bkC at O
  refine jn_go ?_
  rw [F_law1_Book_held.l2.eq_1]
  refine wl_now1 fun next => ?_
  simp only [nn_some, pt_add, Nat.zero_add, Nat.add_zero, Nat.reduceAdd, Nat.reduceMul, Int.toNat_zero, Int.toNat_one, Nat.zero_mul, Nat.one_mul]
  refine O.ld 0 rfl (ldL_c (k := .sl) (x := (⟨none, 0, 0⟩ : Sl)) (ldL_n ?_))
  refine brr_ff (by decide) ?_
  refine jn_go ?_
  rw [F_law1_Book_held.l4.eq_1]
  refine wl_now1 fun next => ?_
  simp only [nn_some, pt_add, Nat.zero_add, Nat.add_zero, Nat.reduceAdd, Nat.reduceMul, Int.toNat_zero, Int.toNat_one, Nat.zero_mul, Nat.one_mul]
  refine O.ld 0 rfl (ldL_c (k := .sl) (x := (⟨none, 0, 0⟩ : Sl)) (ldL_n ?_))
  refine brr_ff (by decide) ?_
  exact k
theorem F_law1_Book_growRows.is {Q : Heap → Prop} (O : Sat h0 h (own bk (bkC s0 s1 n t d u) :: L)) (k : ∀ h', Sat h0 h' (own bk (bkC s0 s1 n t d u) :: L) → Q h') : F_law1_Book_growRows (some (pt bk 0)) h Q := by
  rw [F_law1_Book_growRows.eq_1, F_law1_Book_growRows_of.eq_1]
  unfold bkC at O k
  simp only [nn_some, pt_add, Nat.zero_add, Nat.add_zero, Nat.reduceAdd, Nat.reduceMul, Int.toNat_zero, Int.toNat_one, Nat.zero_mul, Nat.one_mul]
  refine O.ld 0 rfl (ldL_c (k := .sl) (x := (⟨none, 0, 0⟩ : Sl)) (ldL_n ?_))
  refine O.ld 0 rfl (ldL_c (ldL_n ?_))
  refine jn_go ?_
  rw [F_law1_Book_growRows.l2.eq_1]
  refine wl_now1 fun next => ?_
  refine brr_ff (by decide) ?_
  refine O.ld 0 rfl (ldL_c (k := .sl) (x := (⟨none, 0, 0⟩ : Sl)) (ldL_n ?_))
  refine O.st 0 rfl (by simp) rfl fun h O => ?_
  dsimp only [V.put, List.set] at O
  exact k h O
theorem F_law1_Book_growTexts.is {Q : Heap → Prop} (O : Sat h0 h (own bk (bkC s0 s1 n t d u) :: L)) (k : ∀ h', Sat h0 h' (own bk (bkC s0 s1 n t d u) :: L) → Q h') : F_law1_Book_growTexts (some (pt bk 0)) h Q := by
  rw [F_law1_Book_growTexts.eq_1, F_law1_Book_growTexts_of.eq_1]
  unfold bkC at O k
  simp only [nn_some, pt_add, Nat.zero_add, Nat.add_zero, Nat.reduceAdd, Nat.reduceMul, Int.toNat_zero, Int.toNat_one, Nat.zero_mul, Nat.one_mul]
  refine O.ld 0 rfl (ldL_c (k := .sl) (x := (⟨none, 0, 0⟩ : Sl)) (ldL_n ?_))
  refine O.ld 0 rfl (ldL_c (ldL_n ?_))
  refine jn_go ?_
  rw [F_law1_Book_growTexts.l2.eq_1]
  refine wl_now1 fun next => ?_
  refine brr_ff (by decide) ?_
  refine O.ld 0 rfl (ldL_c (k := .sl) (x := (⟨none, 0, 0⟩ : Sl)) (ldL_n ?_))
  refine O.st 0 rfl (by simp) rfl fun h O => ?_
  dsimp only [V.put, List.set] at O
  exact k h O
theorem F_law1_Book_growInts.is {Q : Heap → Prop} (O : Sat h0 h (own bk (bkC s0 s1 n t d u) :: L)) (k : ∀ h', Sat h0 h' (own bk (bkC s0 s1 n t d u) :: L) → Q h') : F_law1_Book_growInts (some (pt bk 0)) h Q := by
  rw [F_law1_Book_growInts.eq_1, F_law1_Book_growInts_of.eq_1]
  unfold bkC at O k
  simp only [nn_some, pt_add, Nat.zero_add, Nat.add_zero, Nat.reduceAdd, Nat.reduceMul, Int.toNat_zero, Int.toNat_one, Nat.zero_mul, Nat.one_mul]
  refine O.ld 0 rfl (ldL_c (k := .sl) (x := (⟨none, 0, 0⟩ : Sl)) (ldL_n ?_))
  refine O.ld 0 rfl (ldL_c (ldL_n ?_))
  refine jn_go ?_
  rw [F_law1_Book_growInts.l2.eq_1]
  refine wl_now1 fun next => ?_
  refine brr_ff (by decide) ?_
  refine O.ld 0 rfl (ldL_c (k := .sl) (x := (⟨none, 0, 0⟩ : Sl)) (ldL_n ?_))
  refine O.st 0 rfl (by simp) rfl fun h O => ?_
  dsimp only [V.put, List.set] at O
  exact k h O
theorem F_law1_Book_growWords.is {Q : Heap → Prop} (O : Sat h0 h (own bk (bkC s0 s1 n t d u) :: L)) (k : ∀ h', Sat h0 h' (own bk (bkC s0 s1 n t d u) :: L) → Q h') : F_law1_Book_growWords (some (pt bk 0)) h Q := by
  rw [F_law1_Book_growWords.eq_1, F_law1_Book_growWords_of.eq_1]
  unfold bkC at O k
  simp only [nn_some, pt_add, Nat.zero_add, Nat.add_zero, Nat.reduceAdd, Nat.reduceMul, Int.toNat_zero, Int.toNat_one, Nat.zero_mul, Nat.one_mul]
  refine O.ld 0 rfl (ldL_c (k := .sl) (x := (⟨none, 0, 0⟩ : Sl)) (ldL_n ?_))
  refine O.ld 0 rfl (ldL_c (ldL_n ?_))
  refine jn_go ?_
  rw [F_law1_Book_growWords.l2.eq_1]
  refine wl_now1 fun next => ?_
  refine brr_ff (by decide) ?_
  refine O.ld 0 rfl (ldL_c (k := .sl) (x := (⟨none, 0, 0⟩ : Sl)) (ldL_n ?_))
  refine O.st 0 rfl (by simp) rfl fun h O => ?_
  dsimp only [V.put, List.set] at O
  exact k h O
theorem F_law1_Book_growDones.is {Q : Heap → Prop} (O : Sat h0 h (own bk (bkC s0 s1 n t d u) :: L)) (k : ∀ h', Sat h0 h' (own bk (bkC s0 s1 n t d u) :: L) → Q h') : F_law1_Book_growDones (some (pt bk 0)) h Q := by
  rw [F_law1_Book_growDones.eq_1, F_law1_Book_growDones_of.eq_1]
  unfold bkC at O k
  simp only [nn_some, pt_add, Nat.zero_add, Nat.add_zero, Nat.reduceAdd, Nat.reduceMul, Int.toNat_zero, Int.toNat_one, Nat.zero_mul, Nat.one_mul]
  refine O.ld 0 rfl (ldL_c (k := .sl) (x := (⟨none, 0, 0⟩ : Sl)) (ldL_n ?_))
  refine O.ld 0 rfl (ldL_c (ldL_n ?_))
  refine jn_go ?_
  rw [F_law1_Book_growDones.l2.eq_1]
  refine wl_now1 fun next => ?_
  refine brr_ff (by decide) ?_
  refine O.ld 0 rfl (ldL_c (k := .sl) (x := (⟨none, 0, 0⟩ : Sl)) (ldL_n ?_))
  refine O.st 0 rfl (by simp) rfl fun h O => ?_
  dsimp only [V.put, List.set] at O
  exact k h O
theorem F_law1_Book_growAccts.is {Q : Heap → Prop} (O : Sat h0 h (own bk (bkC s0 s1 n t d u) :: L)) (k : ∀ h', Sat h0 h' (own bk (bkC s0 s1 n t d u) :: L) → Q h') : F_law1_Book_growAccts (some (pt bk 0)) h Q := by
  rw [F_law1_Book_growAccts.eq_1, F_law1_Book_growAccts_of.eq_1]
  unfold bkC at O k
  simp only [nn_some, pt_add, Nat.zero_add, Nat.add_zero, Nat.reduceAdd, Nat.reduceMul, Int.toNat_zero, Int.toNat_one, Nat.zero_mul, Nat.one_mul]
  refine O.ld 0 rfl (ldL_c (k := .sl) (x := (⟨none, 0, 0⟩ : Sl)) (ldL_n ?_))
  refine O.ld 0 rfl (ldL_c (ldL_n ?_))
  refine jn_go ?_
  rw [F_law1_Book_growAccts.l2.eq_1]
  refine wl_now1 fun next => ?_
  refine brr_ff (by decide) ?_
  refine O.ld 0 rfl (ldL_c (k := .sl) (x := (⟨none, 0, 0⟩ : Sl)) (ldL_n ?_))
  refine O.st 0 rfl (by simp) rfl fun h O => ?_
  dsimp only [V.put, List.set] at O
  exact k h O
theorem F_law1_Book_growQueue.is {Q : Heap → Prop} (O : Sat h0 h (own bk (bkC s0 s1 n t d u) :: L)) (k : ∀ h', Sat h0 h' (own bk (bkC s0 s1 n t d u) :: L) → Q h') : F_law1_Book_growQueue (some (pt bk 0)) h Q := by
  rw [F_law1_Book_growQueue.eq_1, F_law1_Book_growQueue_of.eq_1]
  unfold bkC at O k
  simp only [nn_some, pt_add, Nat.zero_add, Nat.add_zero, Nat.reduceAdd, Nat.reduceMul, Int.toNat_zero, Int.toNat_one, Nat.zero_mul, Nat.one_mul]
  refine O.ld 0 rfl (ldL_c (k := .sl) (x := (⟨none, 0, 0⟩ : Sl)) (ldL_n ?_))
  refine O.ld 0 rfl (ldL_c (ldL_n ?_))
  refine jn_go ?_
  rw [F_law1_Book_growQueue.l2.eq_1]
  refine wl_now1 fun next => ?_
  refine brr_ff (by decide) ?_
  refine O.ld 0 rfl (ldL_c (k := .sl) (x := (⟨none, 0, 0⟩ : Sl)) (ldL_n ?_))
  refine O.st 0 rfl (by simp) rfl fun h O => ?_
  dsimp only [V.put, List.set] at O
  exact k h O
theorem F_law1_Book_growSlots.is {Q : Heap → Prop} (O : Sat h0 h (own bk (bkC s0 s1 n t d u) :: L)) (k : ∀ h', Sat h0 h' (own bk (bkC s0 s1 n t d u) :: L) → Q h') : F_law1_Book_growSlots (some (pt bk 0)) h Q := by
  rw [F_law1_Book_growSlots.eq_1, F_law1_Book_growSlots_of.eq_1]
  unfold bkC at O k
  simp only [nn_some, pt_add, Nat.zero_add, Nat.add_zero, Nat.reduceAdd, Nat.reduceMul, Int.toNat_zero, Int.toNat_one, Nat.zero_mul, Nat.one_mul]
  refine O.ld 0 rfl (ldL_c (k := .sl) (x := (⟨none, 0, 0⟩ : Sl)) (ldL_n ?_))
  refine O.ld 0 rfl (ldL_c (ldL_n ?_))
  refine jn_go ?_
  rw [F_law1_Book_growSlots.l2.eq_1]
  refine wl_now1 fun next => ?_
  refine brr_ff (by decide) ?_
  refine O.ld 0 rfl (ldL_c (k := .sl) (x := (⟨none, 0, 0⟩ : Sl)) (ldL_n ?_))
  refine O.st 0 rfl (by simp) rfl fun h O => ?_
  dsimp only [V.put, List.set] at O
  exact k h O
theorem F_law1_Book_growMsgs.is {Q : Heap → Prop} (O : Sat h0 h (own bk (bkC s0 s1 n t d u) :: L)) (k : ∀ h', Sat h0 h' (own bk (bkC s0 s1 n t d u) :: L) → Q h') : F_law1_Book_growMsgs (some (pt bk 0)) h Q := by
  rw [F_law1_Book_growMsgs.eq_1, F_law1_Book_growMsgs_of.eq_1]
  unfold bkC at O k
  simp only [nn_some, pt_add, Nat.zero_add, Nat.add_zero, Nat.reduceAdd, Nat.reduceMul, Int.toNat_zero, Int.toNat_one, Nat.zero_mul, Nat.one_mul]
  refine O.ld 0 rfl (ldL_c (k := .sl) (x := (⟨none, 0, 0⟩ : Sl)) (ldL_n ?_))
  refine O.ld 0 rfl (ldL_c (ldL_n ?_))
  refine jn_go ?_
  rw [F_law1_Book_growMsgs.l2.eq_1]
  refine wl_now1 fun next => ?_
  refine brr_ff (by decide) ?_
  refine O.ld 0 rfl (ldL_c (k := .sl) (x := (⟨none, 0, 0⟩ : Sl)) (ldL_n ?_))
  refine O.st 0 rfl (by simp) rfl fun h O => ?_
  dsimp only [V.put, List.set] at O
  exact k h O
theorem F_law1_Book_growFlights.is {Q : Heap → Prop} (O : Sat h0 h (own bk (bkC s0 s1 n t d u) :: L)) (k : ∀ h', Sat h0 h' (own bk (bkC s0 s1 n t d u) :: L) → Q h') : F_law1_Book_growFlights (some (pt bk 0)) h Q := by
  rw [F_law1_Book_growFlights.eq_1, F_law1_Book_growFlights_of.eq_1]
  unfold bkC at O k
  simp only [nn_some, pt_add, Nat.zero_add, Nat.add_zero, Nat.reduceAdd, Nat.reduceMul, Int.toNat_zero, Int.toNat_one, Nat.zero_mul, Nat.one_mul]
  refine O.ld 0 rfl (ldL_c (k := .sl) (x := (⟨none, 0, 0⟩ : Sl)) (ldL_n ?_))
  refine O.ld 0 rfl (ldL_c (ldL_n ?_))
  refine jn_go ?_
  rw [F_law1_Book_growFlights.l2.eq_1]
  refine wl_now1 fun next => ?_
  refine brr_ff (by decide) ?_
  refine O.ld 0 rfl (ldL_c (k := .sl) (x := (⟨none, 0, 0⟩ : Sl)) (ldL_n ?_))
  refine O.st 0 rfl (by simp) rfl fun h O => ?_
  dsimp only [V.put, List.set] at O
  exact k h O
theorem F_law1_Book_growFiles.is {Q : Heap → Prop} (O : Sat h0 h (own bk (bkC s0 s1 n t d u) :: L)) (k : ∀ h', Sat h0 h' (own bk (bkC s0 s1 n t d u) :: L) → Q h') : F_law1_Book_growFiles (some (pt bk 0)) h Q := by
  rw [F_law1_Book_growFiles.eq_1, F_law1_Book_growFiles_of.eq_1]
  unfold bkC at O k
  simp only [nn_some, pt_add, Nat.zero_add, Nat.add_zero, Nat.reduceAdd, Nat.reduceMul, Int.toNat_zero, Int.toNat_one, Nat.zero_mul, Nat.one_mul]
  refine O.ld 0 rfl (ldL_c (k := .sl) (x := (⟨none, 0, 0⟩ : Sl)) (ldL_n ?_))
  refine O.ld 0 rfl (ldL_c (ldL_n ?_))
  refine jn_go ?_
  rw [F_law1_Book_growFiles.l2.eq_1]
  refine wl_now1 fun next => ?_
  refine brr_ff (by decide) ?_
  refine O.ld 0 rfl (ldL_c (k := .sl) (x := (⟨none, 0, 0⟩ : Sl)) (ldL_n ?_))
  refine O.st 0 rfl (by simp) rfl fun h O => ?_
  dsimp only [V.put, List.set] at O
  exact k h O
end
end Go.Proofs.YtigcpkejjjgkeaaGreat.V
/- Lists of bytes that carry marks, and grow: their blocks may be shared by lists of one mark. -/
namespace Go.Proofs.YtigcpkejjjgkeaaGreat.V
open Go Go.RowKit
set_option linter.unusedVariables false
set_option linter.unusedSimpArgs false
/-- Byte k of the mark of list n. -/
def atB (m k : Nat) : UInt8 := if k % 2 = 0 then UInt8.ofNat (1 + m % 251) else UInt8.ofNat (1 + (7 * m + m / 251) % 251)
def atC (m k : Nat) : Value := .int .u8 ((atB m k).toNat : Int)
def marksB (m n : Nat) : List UInt8 := (List.range n).map (atB m)
theorem marksB_len (m n : Nat) : (marksB m n).length = n := by simp [marksB]
theorem marksB_at {m n i : Nat} (h : i < n) : (marksB m n)[i]? = some (atB m i) := by simp [marksB, h]
abbrev BE := Sl × Nat
def inFam (lab : Nat → Nat) (E : Blks) (e : BE) : Prop := e.1 = ⟨none, 0, 0⟩ ∨ ∃ b cs, (b, .inl cs) ∈ E ∧ e.1.ptr = some (pt b 0) ∧ e.1.len ≤ e.1.cap ∧ e.1.cap = cs.length ∧ lab b = e.2 ∧ ∀ i, i < e.1.len → cs[i]? = some (atC e.2 i)
def famR (es : List BE) : Res := fun E => ∃ lab : Nat → Nat, ∀ e ∈ es, inFam lab E e
theorem famR.sub {h0 h : Heap} {L : List Res} {es fs : List BE} (O : Sat h0 h (famR es :: L)) (s : ∀ e ∈ fs, e ∈ es) : Sat h0 h (famR fs :: L) :=
  O.mono fun E ⟨lab, k⟩ => ⟨lab, fun e he => k e (s e he)⟩
theorem famR.none {h0 h : Heap} {L : List Res} (O : Sat h0 h L) : Sat h0 h (famR [] :: L) := O.empI.mono fun E _ => ⟨fun _ => 0, fun e he => by cases he⟩
theorem fam_view {h0 h : Heap} {L : List Res} (O : Sat h0 h L) (i : Nat) {es : List BE} {e : BE} (hi : i < L.length) (hn : nth i L = famR es) (he : e ∈ es) : Bytes h e.1 (marksB e.2 e.1.len) := by
  obtain ⟨E1, E2, h1, O', _⟩ := O.at i hi
  rw [hn] at h1
  obtain ⟨lab, k⟩ := h1
  rcases k e he with h | ⟨b, cs, hm, hp, hl, hc, _, ha⟩
  · rw [h]; exact View.nil
  · have B := (O'.blk _ (List.mem_append.2 (.inl hm))).2
    refine ⟨(marksB_len _ _).symm, fun j x hj => ?_⟩
    have hjl : j < e.1.len := by
      have := (List.getElem?_eq_some_iff.1 hj).1
      rwa [marksB_len] at this
    rw [marksB_at hjl] at hj
    cases hj
    refine ⟨pt b 0, u8 (atB e.2 j), hp, rfl, rfl, ?_⟩
    have hcell := ha j hjl
    have h2 := cellsAre_blk B j 1
    have e3 : (cs.drop j).take 1 = u8 (atB e.2 j) := by
      obtain ⟨hlt, e4⟩ := List.getElem?_eq_some_iff.1 hcell
      rw [List.drop_eq_getElem_cons hlt, e4]
      rfl
    rw [e3] at h2
    rw [pt_add, Nat.zero_add, Nat.mul_one]
    exact h2
theorem put_one : ∀ (cs : List Value) (o : Nat) (v : Value), V.put cs o [v] = cs.set o v
  | [], 0, v => by simp [V.put]
  | c :: cs, 0, v => by simp [V.put, put_nil]
  | [], o + 1, v => by simp [V.put]
  | c :: cs, o + 1, v => by simp [V.put, put_one cs o v]
theorem atC_one (m k : Nat) : oneV (atC m k) = true := rfl
/-- A new block becomes one of the lists. -/
theorem fam_new {h0 h : Heap} {L : List Res} {es : List BE} {b len m : Nat} {cs : List Value} (O : Sat h0 h (own b cs :: famR es :: L)) (hl : len ≤ cs.length) (ha : ∀ i, i < len → cs[i]? = some (atC m i)) : Sat h0 h (famR (es ++ [(⟨some (pt b 0), len, cs.length⟩, m)]) :: L) := by
  obtain ⟨E, ⟨E1, E2, p, hA, F1, F2, p2, ⟨lab, k⟩, h2⟩, O'⟩ := O
  have hA : E1 = [(b, .inl cs)] := hA
  subst hA
  have pp : E.Perm (((b, .inl cs) :: F1) ++ F2) := p.trans (List.Perm.cons _ p2)
  have OO := O'.perm pp.symm
  have hd := OO.dis
  rw [List.cons_append, List.map_cons, List.nodup_cons] at hd
  refine ⟨E, ⟨(b, .inl cs) :: F1, F2, pp, ⟨fun x => if x = b then m else lab x, fun e he => ?_⟩, h2⟩, O'⟩
  rcases List.mem_append.1 he with he | he
  · rcases k e he with h | ⟨b', cs', hm, hp, hl', hc, hlab, ha'⟩
    · exact .inl h
    · refine .inr ⟨b', cs', List.mem_cons_of_mem _ hm, hp, hl', hc, ?_, ha'⟩
      have : b' ≠ b := by
        intro e
        subst e
        exact hd.1 (List.mem_map.2 ⟨_, List.mem_append.2 (.inl hm), rfl⟩)
      simp only [if_neg this]
      exact hlab
  · rw [List.mem_singleton.1 he]
    exact .inr ⟨b, cs, List.mem_cons_self, rfl, hl, rfl, by simp, ha⟩
theorem Sat.buf_own' {α : Type} {h0 h : Heap} {L : List Res} {sz : Nat} {enc : α → List Value} {s : Sl} {xs : List α} (O : Sat h0 h (buf sz enc s xs :: L)) (hne : xs ≠ []) : ∃ b k sp, s = ⟨some (pt b 0), xs.length, xs.length + k⟩ ∧ sp.length = k * sz ∧ Sat h0 h (own b (xs.flatMap enc ++ sp) :: L) := by
  obtain ⟨sp, O1⟩ := O.ex
  obtain ⟨E, ⟨E1, E2, p, hA, h2⟩, O2⟩ := O1
  rcases hA with ⟨rfl, rfl, _, _⟩ | ⟨b, j, rfl, hsp, rfl⟩
  · exact absurd rfl hne
  · exact ⟨b, j, sp, rfl, hsp, E, ⟨[(b, _)], E2, p, rfl, h2⟩, O2⟩
/-- A list of one's own that carries its mark becomes one of the lists. -/
theorem fam_take {h0 h : Heap} {L : List Res} {es : List BE} {s : Sl} {m : Nat} (O : Sat h0 h (buf 1 u8 s (marksB m s.len) :: famR es :: L)) : Sat h0 h (famR (es ++ [(s, m)]) :: L) := by
  by_cases hz : marksB m s.len = []
  · obtain ⟨sp, O⟩ := O.ex
    obtain ⟨E, ⟨E1, E2, p, hA, h2⟩, O'⟩ := O
    rcases hA with ⟨rfl, _, _, rfl⟩ | ⟨b, j, hs, hsp, rfl⟩
    · obtain ⟨F1, F2, p2, ⟨lab, k⟩, h2⟩ := h2
      refine ⟨E, ⟨F1, F2, p.trans p2, ⟨lab, fun e he => ?_⟩, h2⟩, O'⟩
      rcases List.mem_append.1 he with he | he
      · exact k e he
      · rw [List.mem_singleton.1 he]; exact .inl rfl
    · have O2 : Sat h0 h (own b ((marksB m s.len).flatMap u8 ++ sp) :: famR es :: L) := ⟨E, ⟨[(b, _)], E2, p, rfl, h2⟩, O'⟩
      have hl : s.len = 0 := by
        have := congrArg List.length hz
        rwa [marksB_len] at this
      have := fam_new (len := 0) (m := m) O2 (by omega) (fun i hi => by omega)
      have e : s = ⟨some (pt b 0), 0, ((marksB m s.len).flatMap u8 ++ sp).length⟩ := by
        rw [hz, List.flatMap_nil, List.nil_append, hsp]
        rw [hz] at hs
        rw [hs]
        simp
      rw [← e] at this
      exact this
  · obtain ⟨b, j, sp, hs, hsp, O⟩ := O.buf_own' hz
    have hlen := flatMap_len u8_len (marksB m s.len)
    rw [marksB_len] at hlen hs
    have := fam_new (len := s.len) (m := m) O (by rw [List.length_append]; omega) (fun i hi => by
      rw [List.getElem?_append_left (by omega)]
      have key : ∀ (l : List UInt8) (i : Nat), (l.flatMap u8)[i]? = (l[i]?).map fun x => Value.int .u8 (x.toNat : Int) := by
        intro l
        induction l with
        | nil => intro i; simp
        | cons x l ih =>
          intro i
          rw [List.flatMap_cons]
          cases i with
          | zero => rfl
          | succ i => exact ih i
      rw [key, marksB_at hi]
      rfl)
    have e : s = ⟨some (pt b 0), s.len, ((marksB m s.len).flatMap u8 ++ sp).length⟩ := by
      rw [List.length_append, hlen, hsp, Nat.mul_one, Nat.mul_one]
      exact hs
    rw [← e] at this
    exact this
/-- One byte of its mark is appended to a list. -/
theorem fam_app {h0 h : Heap} {L : List Res} {es : List BE} {a T m : Nat} {g : Sl} {K : Sl → Heap → Prop} (hl : g.len ≤ 1099511627776) (O : Sat h0 h (own a [atC m g.len] :: famR (es ++ [(g, m)]) :: L)) (k : ∀ g' h', g'.len = g.len + 1 → Sat h0 h' (famR (es ++ [(g', m)]) :: L) → K g' h') : V.app T 1 1 (.int .u8 0) g (some (pt a 0)) 1 h K := by
  have hv := fam_view O 1 (by simp) rfl (List.mem_append.2 (.inr (List.mem_singleton.2 rfl)))
  have hmem : (g, m) ∈ es ++ [(g, m)] := List.mem_append.2 (.inr (List.mem_singleton.2 rfl))
  refine ⟨[atC m g.len], rdP_own O 0 rfl 1 (by simp), fun hcap => ?_, fun hcap => ⟨growslice_fits (by exact hcap) (by simp only [Nat.mul_one]; omega), ?_⟩⟩
  · have O := O.drop
    obtain ⟨E, ⟨E1, E2, p, ⟨lab, kk⟩, h2⟩, O'⟩ := O
    rcases kk (g, m) hmem with hn | ⟨b, cs, hm, hp, hle, hc, hlab, ha⟩
    · simp only at hn
      rw [hn] at hcap
      simp at hcap
    · simp only at hp hle hc hlab ha
      obtain ⟨A, B, rfl⟩ := List.append_of_mem hm
      have pE : E.Perm ((b, .inl cs) :: (A ++ B ++ E2)) := by
        refine p.trans ?_
        rw [List.append_assoc, List.cons_append, List.append_assoc]
        exact List.perm_middle
      have O1 := O'.perm pE.symm
      have hd := O1.dis
      rw [List.map_cons, List.nodup_cons] at hd
      rw [hp]
      simp only [Option.map_some, stP, pt_add, Nat.zero_add, Nat.mul_one]
      refine Held.st O1 (by simp only [List.length_singleton]; omega) rfl fun h' O2 => ?_
      have eput : V.put cs g.len [atC m g.len] = cs.set g.len (atC m g.len) := put_one _ _ _
      rw [eput] at O2
      refine k ⟨some (pt b 0), g.len + 1, g.cap⟩ h' rfl ⟨_, ⟨(b, .inl (cs.set g.len (atC m g.len))) :: (A ++ B), E2, List.Perm.refl _, ⟨lab, fun e he => ?_⟩, h2⟩, O2⟩
      have other : ∀ e : BE, inFam lab (A ++ (b, .inl cs) :: B) e → inFam lab ((b, .inl (cs.set g.len (atC m g.len))) :: (A ++ B)) e := by
        intro e ie
        rcases ie with h | ⟨b', cs', hm', hp', hl', hc', hlab', ha'⟩
        · exact .inl h
        · by_cases hb : b' = b
          · subst hb
            have ecs : cs' = cs := by
              rcases List.mem_append.1 hm' with x | x
              · exact absurd (List.mem_map.2 ⟨_, List.mem_append.2 (.inl (List.mem_append.2 (.inl x))), rfl⟩) hd.1
              · rcases List.mem_cons.1 x with x | x
                · exact Sum.inl.inj (Prod.mk.inj x).2
                · exact absurd (List.mem_map.2 ⟨_, List.mem_append.2 (.inl (List.mem_append.2 (.inr x))), rfl⟩) hd.1
            subst ecs
            refine .inr ⟨b', _, List.mem_cons_self, hp', hl', by rw [List.length_set]; exact hc', hlab', fun i hi => ?_⟩
            rw [List.getElem?_set]
            by_cases e2 : g.len = i
            · subst e2
              rw [if_pos rfl, if_pos (by omega), ← hlab', hlab]
            · rw [if_neg e2]
              exact ha' i hi
          · refine .inr ⟨b', cs', ?_, hp', hl', hc', hlab', ha'⟩
            rcases List.mem_append.1 hm' with x | x
            · exact List.mem_cons_of_mem _ (List.mem_append.2 (.inl x))
            · rcases List.mem_cons.1 x with x | x
              · exact absurd (Prod.mk.inj x).1 hb
              · exact List.mem_cons_of_mem _ (List.mem_append.2 (.inr x))
      rcases List.mem_append.1 he with he | he
      · exact other e (kk e (List.mem_append.2 (.inl he)))
      · rw [List.mem_singleton.1 he]
        refine .inr ⟨b, _, List.mem_cons_self, rfl, hcap, by rw [List.length_set]; exact hc, hlab, fun i hi => ?_⟩
        simp only at hi
        rw [List.getElem?_set]
        by_cases e2 : g.len = i
        · subst e2
          rw [if_pos rfl, if_pos (by omega)]
        · rw [if_neg e2]
          exact ha i (by omega)
  · refine ⟨(marksB m g.len).flatMap u8, ?_, fun c hc => ?_⟩
    · have := hv.rd u8_len
      exact this
    · have hlen := flatMap_len u8_len (marksB m g.len)
      rw [marksB_len] at hlen
      have O := O.drop
      have O2 := O.push ((marksB m g.len).flatMap u8 ++ [atC m g.len] ++ (Builtin.zeroCells (Value.int .u8 0).cells (c - (g.len + 1))).toList) T (0, 0) (.inl rfl)
      have hzl : (Builtin.zeroCells (Value.int .u8 0).cells (c - (g.len + 1))).toList.length = c - (g.len + 1) := by simp [Builtin.zeroCells, Value.cells]
      have htot : ((marksB m g.len).flatMap u8 ++ [atC m g.len] ++ (Builtin.zeroCells (Value.int .u8 0).cells (c - (g.len + 1))).toList).length = c := by
        rw [List.length_append, List.length_append, hlen, hzl, List.length_singleton]; omega
      have key : ∀ (l : List UInt8) (i : Nat), (l.flatMap u8)[i]? = (l[i]?).map fun x => Value.int .u8 (x.toNat : Int) := by
        intro l
        induction l with
        | nil => intro i; simp
        | cons x l ih =>
          intro i
          rw [List.flatMap_cons]
          cases i with
          | zero => rfl
          | succ i => exact ih i
      have O3 := fam_new (len := g.len + 1) (m := m) O2 (by omega) (fun i hi => by
        rw [List.getElem?_append_left (by rw [List.length_append, hlen, List.length_singleton]; omega)]
        by_cases e2 : i = g.len
        · subst e2
          rw [List.getElem?_append_right (by omega), hlen]
          simp
        · rw [List.getElem?_append_left (by omega), key, marksB_at (by omega)]
          rfl)
      rw [htot] at O3
      refine k _ _ rfl (famR.sub O3 fun e he => ?_)
      rcases List.mem_append.1 he with he | he
      · exact List.mem_append.2 (.inl (List.mem_append.2 (.inl he)))
      · exact List.mem_append.2 (.inr he)
end Go.Proofs.YtigcpkejjjgkeaaGreat.V
