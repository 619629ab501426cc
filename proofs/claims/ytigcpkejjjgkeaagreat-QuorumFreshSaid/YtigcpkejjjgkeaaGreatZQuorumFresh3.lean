import Derived.Test.YtigcpkejjjgkeaaGreatZQuorumFresh2
import Derived.Test.YtigcpkejjjgkeaaGreatProg
/- The document's quorum: writes, Stop, New, Start, Propose, Tick. -/
namespace Go.Proofs.YtigcpkejjjgkeaaGreat.V
open Go Go.RowKit
set_option linter.unusedVariables false
set_option linter.unusedSimpArgs false

section
variable {h0 h : Heap} {L : List Res} {r : Nat} {q : QS} {m : Mg} {a : RA}
theorem to_prepares : ((q.cop.filter fun c => !decide (c ∈ [q.node])).map fun c => toMg q 1 0 c) = q.prepares := by
  have e : (fun c : Int => !decide (c ∈ [q.node])) = fun c => !(c == q.node) := by
    funext c
    by_cases h : c = q.node <;> simp [h]
  rw [e]
  rfl
theorem to_kind1 {span : Int} : (fun c => toMg q 1 span c) = fun c => toMg q 1 0 c := rfl
theorem to_writes {span : Int} (hp : q.phase ≠ 1) : ((q.cop.filter fun c => !decide (c ∈ q.wr)).map fun c => toMg q 4 span c) = q.writes span := by
  have e : refVal q = q.val := if_neg hp
  unfold QS.writes QS.send toMg
  rw [e]
  rfl
theorem to_beats {span : Int} : ((q.cop.filter fun c => !decide (c ∈ q.bt)).map fun c => toMg q 6 span c) = q.beats span := rfl
theorem F_ref10_Quorum_writes.is {seq span : Int} {v : Sl} {b : List UInt8} {Q : Sl → Heap → Prop} (hc : q.cop.length ≤ 1000000) (hb : b.length ≤ (140737488355325 : Nat)) (Vv : Stays h0 L fun h => Bytes h v b) (O : Sat h0 h (own r [.int .i64 q.node, .int .i64 q.shard, .slice a.sc.ptr a.sc.len a.sc.cap, .int .i64 q.phase, .int .u64 q.epoch, .slice a.sp.ptr a.sp.len a.sp.cap, .int .u64 q.tag.1, .int .u64 q.tag.2, .slice a.sv.ptr a.sv.len a.sv.cap, .slice a.sw.ptr a.sw.len a.sw.cap, .slice a.sr.ptr a.sr.len a.sr.cap, .bool a.any, .int .u64 q.chosen.1, .int .u64 q.chosen.2, .slice a.sh.ptr a.sh.len a.sh.cap, .int .u64 q.begun, .int .u64 q.done, .slice a.sb.ptr a.sb.len a.sb.cap, .int .u64 q.seen] :: buf 1 i64c a.sc q.cop :: L))
    (k : ∀ s sv h', Sat h0 h' (msgsR s ((({ q with val := b } : QS).wrt seq).writes span) :: own r (rcL (({ q with val := b } : QS).wrt seq) { a with sv := sv, sw := ⟨none, 0, 0⟩ }) :: buf 1 u8 sv b :: buf 1 i64c a.sc q.cop :: L) → Q s h') : F_ref10_Quorum_writes (some (pt r 0)) seq v span h Q := by
  rw [F_ref10_Quorum_writes.eq_1, F_ref10_Quorum_writes_of.eq_1]
  refine ⟨_, rfl, ?_⟩
  refine st_ad (b := r) (o := 3) rfl ?_
  refine O.st 0 rfl (by simp) rfl fun h O => ?_
  dsimp only [V.put, List.set] at O
  refine ⟨_, rfl, ?_⟩
  refine O.ld 0 rfl (ldL_c (ldL_n ?_))
  refine ⟨_, rfl, ?_⟩
  refine st_ad (b := r) (o := 6) rfl ?_
  refine O.st 0 rfl (by simp) rfl fun h O => ?_
  dsimp only [V.put, List.set] at O
  refine F_ref0_Copy.is O (Vv h O.drop.drop) (by omega) fun sv h O _ _ => ?_
  refine ⟨_, rfl, ?_⟩
  refine st_ad (b := r) (o := 8) rfl ?_
  refine O.st 1 rfl (by simp) rfl fun h O => ?_
  dsimp only [V.put, List.set] at O
  refine ⟨_, rfl, ?_⟩
  refine st_ad (b := r) (o := 9) rfl ?_
  refine O.st 1 rfl (by simp) rfl fun h O => ?_
  dsimp only [V.put, List.set] at O
  refine ⟨_, rfl, ?_⟩
  refine O.ld 1 rfl (ldL_c (k := .sl) (x := a.sc) (ldL_n ?_))
  have O2 : Sat h0 h (own r (rcL (({ q with val := b } : QS).wrt seq) { a with sv := sv, sw := ⟨none, 0, 0⟩ }) :: buf 1 u8 sv b :: buf 1 i64c a.sc q.cop :: L) := O.swap
  have ev : refVal (({ q with val := b } : QS).wrt seq) = b := if_neg (by show ¬ (2 : Int) = 1; decide)
  refine F_ref10_Quorum_to.is (q := ({ q with val := b } : QS).wrt seq) (a := ({ a with sv := sv, sw := ⟨none, 0, 0⟩ } : RA)) (.inr (.inl rfl)) hc (by rw [ev]; exact hb) O2 (fun h O => (O.view 1 i64c_len (by simp) rfl).1) (fun h O => by rw [ev]; exact (O.view 0 u8_len (by simp) rfl).1) fun s h O => k s sv h ?_
  rw [← to_writes (by show ¬ (2 : Int) = 1; decide)]
  have e : (List.filter (fun c => !decide (c ∈ (({ q with val := b } : QS).wrt seq).wr)) (({ q with val := b } : QS).wrt seq).cop) = q.cop := by
    show List.filter (fun c => !decide (c ∈ ([] : List Int))) q.cop = _
    simp
  rw [e]
  exact O
theorem ask_ref10 {kind span : Int} {l : Sl} {xs : List Int} {Q : Sl → Heap → Prop} (hk : kind = 1 ∨ kind = 4 ∨ kind = 6) (hc : q.cop.length ≤ 1000000) (hx : xs.length ≤ 1000000) (hv : (refVal q).length ≤ (140737488355325 : Nat)) (O : Sat h0 h (own r [.int .i64 q.node, .int .i64 q.shard, .slice a.sc.ptr a.sc.len a.sc.cap, .int .i64 q.phase, .int .u64 q.epoch, .slice a.sp.ptr a.sp.len a.sp.cap, .int .u64 q.tag.1, .int .u64 q.tag.2, .slice a.sv.ptr a.sv.len a.sv.cap, .slice a.sw.ptr a.sw.len a.sw.cap, .slice a.sr.ptr a.sr.len a.sr.cap, .bool a.any, .int .u64 q.chosen.1, .int .u64 q.chosen.2, .slice a.sh.ptr a.sh.len a.sh.cap, .int .u64 q.begun, .int .u64 q.done, .slice a.sb.ptr a.sb.len a.sb.cap, .int .u64 q.seen] :: buf 1 i64c a.sc q.cop :: L)) (Vl : Stays h0 L fun h => View h 1 (En i64c) l xs) (VV : Stays h0 L fun h => Bytes h a.sv (refVal q))
    (k : ∀ s h', Sat h0 h' (msgsR s ((q.cop.filter fun c => !decide (c ∈ xs)).map fun c => toMg q kind span c) :: own r [.int .i64 q.node, .int .i64 q.shard, .slice a.sc.ptr a.sc.len a.sc.cap, .int .i64 q.phase, .int .u64 q.epoch, .slice a.sp.ptr a.sp.len a.sp.cap, .int .u64 q.tag.1, .int .u64 q.tag.2, .slice a.sv.ptr a.sv.len a.sv.cap, .slice a.sw.ptr a.sw.len a.sw.cap, .slice a.sr.ptr a.sr.len a.sr.cap, .bool a.any, .int .u64 q.chosen.1, .int .u64 q.chosen.2, .slice a.sh.ptr a.sh.len a.sh.cap, .int .u64 q.begun, .int .u64 q.done, .slice a.sb.ptr a.sb.len a.sb.cap, .int .u64 q.seen] :: buf 1 i64c a.sc q.cop :: L) → Q s h') : F_ref10_Quorum_without (some (pt r 0)) l h fun s1 h => F_ref10_Quorum_to (some (pt r 0)) kind s1 span h Q := by
  refine F_ref10_Quorum_without.is hc hx O Vl fun s1 h O => ?_
  have hl : (q.cop.filter fun c => !decide (c ∈ xs)).length ≤ 1000000 := Nat.le_trans (List.length_filter_le _ _) hc
  refine F_ref10_Quorum_to.is hk hl hv O.swap (fun h O => (O.view 0 i64c_len (by simp) rfl).1) (fun h O => VV h O.drop.drop) fun s h O => k s h ?_
  exact O.sel [0, 1, 3] 4 rfl (Nat.le_add_left _ _)
theorem pend_wrt {ps : List PM} {seq : Int} {b : List UInt8} (e : pend q ps) : pend (({ q with val := b } : QS).wrt seq) ps := ⟨e.1, fun h => absurd h (by show ¬ (2 : Int) = 1; decide)⟩
theorem F_ref10_Quorum_Stop.is {Q : Heap → Prop} (O : Sat h0 h (own r [.int .i64 q.node, .int .i64 q.shard, .slice a.sc.ptr a.sc.len a.sc.cap, .int .i64 q.phase, .int .u64 q.epoch, .slice a.sp.ptr a.sp.len a.sp.cap, .int .u64 q.tag.1, .int .u64 q.tag.2, .slice a.sv.ptr a.sv.len a.sv.cap, .slice a.sw.ptr a.sw.len a.sw.cap, .slice a.sr.ptr a.sr.len a.sr.cap, .bool a.any, .int .u64 q.chosen.1, .int .u64 q.chosen.2, .slice a.sh.ptr a.sh.len a.sh.cap, .int .u64 q.begun, .int .u64 q.done, .slice a.sb.ptr a.sb.len a.sb.cap, .int .u64 q.seen] :: buf 1 i64c a.sc q.cop :: L)) (k : ∀ h', Sat h0 h' (rfR r q.stop :: L) → Q h') : F_ref10_Quorum_Stop (some (pt r 0)) h Q := by
  rw [F_ref10_Quorum_Stop.eq_1, F_ref10_Quorum_Stop_of.eq_1]
  refine ⟨_, rfl, ?_⟩
  refine O.ld 0 rfl (ldL_c (ldL_n ?_))
  refine ⟨_, rfl, ?_⟩
  refine O.ld 0 rfl (ldL_c (k := .sl) (x := a.sc) (ldL_n ?_))
  refine ⟨_, rfl, ?_⟩
  refine O.ld 0 rfl (ldL_c (ldL_n ?_))
  refine ⟨_, rfl, ?_⟩
  refine O.ld 0 rfl (ldL_c (ldL_n ?_))
  refine ⟨_, rfl, ?_⟩
  refine O.st 0 rfl (by simp) rfl fun h O => ?_
  dsimp only [V.put, List.set] at O
  have O := ((((pool_nils O).nil_buf (sz := 1) (enc := i64c)).nil_buf (sz := 1) (enc := i64c)).nil_buf (sz := 1) (enc := i64c)).nil_buf (sz := 4) (enc := pmC)
  exact k _ (Sat.rfI q.stop ⟨a.sc, ⟨none, 0, 0⟩, ⟨none, 0, 0⟩, ⟨none, 0, 0⟩, ⟨none, 0, 0⟩, ⟨none, 0, 0⟩, ⟨none, 0, 0⟩, [], false⟩ ⟨rfl, fun h => absurd h (by show ¬ (0 : Int) = 1; decide)⟩ (O.sel [5, 6, 0, 1, 2, 3, 4] 7 rfl (Nat.le_add_left _ _)))
theorem F_ref10_New.is {node shard : Int} {s : Sl} {cop : List Int} {Q : Option Addr → Heap → Prop} (V1 : Stays h0 L fun h => View h 1 (En i64c) s cop) (hl : cop.length ≤ 1000000) (O : Sat h0 h L) (k : ∀ r h', Sat h0 h' (rfR r (QS.fresh node shard cop) :: L) → Q (some (pt r 0)) h') : F_ref10_New node shard s h Q := by
  rw [F_ref10_New.eq_1, F_ref10_New_of.eq_1]
  refine O.al fun r h O => ?_
  refine jn0 (fun h' => Sat h0 h' (rfR r (QS.fresh node shard cop) :: L)) (fun h O => k r h O) fun j hj => ?_
  rw [F_ref10_New.l1.eq_1]
  refine wl1 (k := .int .i64) (fun (m : Nat) (i : Int) (h' : Heap) => i + m = cop.length ∧ 0 ≤ i ∧ ∃ sc : Sl, Sat h0 h' (own r [.int .i64 node, .int .i64 shard, .slice sc.ptr sc.len sc.cap, .int .i64 0, .int .u64 0, .slice none 0 0, .int .u64 0, .int .u64 0, .slice none 0 0, .slice none 0 0, .slice none 0 0, .bool false, .int .u64 0, .int .u64 0, .slice none 0 0, .int .u64 0, .int .u64 0, .slice none 0 0, .int .u64 0] :: buf 1 i64c sc (cop.take i.toNat) :: L)) ?_ (m := cop.length) ⟨by omega, by omega, ⟨none, 0, 0⟩, O.nil_buf.swap⟩
  clear O
  rintro m (i : Int) h next hnx ⟨him, hi0, sc, O⟩
  have Vc := V1 h O.drop.drop
  rw [Vc.len]
  refine brr_p (fun hlt => ?_) (fun hlt => hj _ ?_)
  case refine_2 =>
    rw [List.take_of_length_le (by omega)] at O
    have O := ((((pool_nils O).nil_buf (sz := 1) (enc := i64c)).nil_buf (sz := 1) (enc := i64c)).nil_buf (sz := 1) (enc := i64c)).nil_buf (sz := 4) (enc := pmC)
    exact Sat.rfI (QS.fresh node shard cop) ⟨sc, ⟨none, 0, 0⟩, ⟨none, 0, 0⟩, ⟨none, 0, 0⟩, ⟨none, 0, 0⟩, ⟨none, 0, 0⟩, ⟨none, 0, 0⟩, [], false⟩ ⟨rfl, fun h => absurd h (by show ¬ (0 : Int) = 1; decide)⟩ (O.sel [5, 6, 0, 1, 2, 3, 4] 7 rfl (Nat.le_add_left _ _))
  obtain ⟨c, hcx⟩ : ∃ c, cop[i.toNat]? = some c := ⟨_, List.getElem?_eq_getElem (by omega)⟩
  refine ⟨_, rfl, ?_⟩
  refine O.ld 0 rfl (ldL_c (k := .sl) (x := sc) (ldL_n ?_))
  refine Vc.i6 hi0 hcx ?_
  refine O.al fun a14 h O => ?_
  refine O.ca 1 1 rfl ?_
  have O2 : Sat h0 h (buf 1 i64c sc (cop.take i.toNat) :: own a14 [.int .i64 c] :: own r [.int .i64 node, .int .i64 shard, .slice sc.ptr sc.len sc.cap, .int .i64 0, .int .u64 0, .slice none 0 0, .int .u64 0, .int .u64 0, .slice none 0 0, .slice none 0 0, .slice none 0 0, .bool false, .int .u64 0, .int .u64 0, .slice none 0 0, .int .u64 0, .int .u64 0, .slice none 0 0, .int .u64 0] :: L) := O.sel [2, 0, 1] 3 rfl (Nat.le_add_left _ _)
  refine Sat.app_buf (enc := i64c) O2 i64c_len i64c_one rfl (ys := [c]) rfl (rdP_own O2 1 rfl 1 (Nat.le_refl _)) (by simp only [List.length_take, List.length_cons, List.length_nil]; omega) fun s2 h O _ => ?_
  refine ⟨_, rfl, ?_⟩
  refine st_ad (b := r) (o := 2) rfl ?_
  refine O.st 2 rfl (by simp) rfl fun h O => ?_
  dsimp only [V.put, List.set] at O
  rw [wrap64 (by omega) (by omega)]
  refine hnx (m - 1) _ _ (by omega) ⟨by omega, by omega, s2, ?_⟩
  rw [show (i + 1).toNat = i.toNat + 1 by omega, List.take_add_one, hcx]
  exact O.sel [2, 0] 3 rfl (Nat.le_add_left _ _)
theorem pm_buf {b : Nat} {x : PM} (O : Sat h0 h (own b (pmC x) :: L)) : Sat h0 h (buf 4 pmC ⟨some (pt b 0), 1, 1⟩ [x] :: L) := by
  have O : Sat h0 h (own b ([x].flatMap pmC ++ []) :: L) := by
    rw [List.append_nil, List.flatMap_cons, List.flatMap_nil, List.append_nil]; exact O
  exact (O.own_buf (k := 0) (sz := 4) rfl).bufsI
theorem F_ref10_Quorum_Start.is {e e0 te ts span : Int} {v : Sl} {b : List UInt8} {Q : Sl → Heap → Prop} (ok : q.Ok) (hb : b.length ≤ (140737488355325 : Nat)) (Vv : Stays h0 L fun h => Bytes h v b) (O : Sat h0 h (rfR r q :: L)) (k : ∀ s h', Sat h0 h' (msgsR s (q.start e te ts b span).2 :: rfR r (q.start e te ts b span).1 :: L) → Q s h') : F_ref10_Quorum_Start (some (pt r 0)) e e0 te ts v span h Q := by
  rw [F_ref10_Quorum_Start.eq_1, F_ref10_Quorum_Start_of.eq_1]
  refine O.al fun a8 h O => ?_
  obtain ⟨a, _, O⟩ := O.swap.rf
  have O : Sat h0 h (own r [.int .i64 q.node, .int .i64 q.shard, .slice a.sc.ptr a.sc.len a.sc.cap, .int .i64 q.phase, .int .u64 q.epoch, .slice a.sp.ptr a.sp.len a.sp.cap, .int .u64 q.tag.1, .int .u64 q.tag.2, .slice a.sv.ptr a.sv.len a.sv.cap, .slice a.sw.ptr a.sw.len a.sw.cap, .slice a.sr.ptr a.sr.len a.sr.cap, .bool a.any, .int .u64 q.chosen.1, .int .u64 q.chosen.2, .slice a.sh.ptr a.sh.len a.sh.cap, .int .u64 q.begun, .int .u64 q.done, .slice a.sb.ptr a.sb.len a.sb.cap, .int .u64 q.seen] :: buf 1 i64c a.sc q.cop :: buf 4 pmC a.sp a.ps :: buf 1 i64c a.sw q.wr :: buf 1 i64c a.sr q.rf :: buf 1 i64c a.sb q.bt :: poolR (refP q a) :: own a8 [.int .u64 e0, .int .u64 te, .int .u64 ts, .slice v.ptr v.len v.cap] :: L) := O
  refine F_ref10_Quorum_Stop.is (O.sel [0, 1, 7] 8 rfl (Nat.le_add_left _ _)) fun h O => ?_
  obtain ⟨a, _, O⟩ := O.rf
  have O : Sat h0 h (own r [.int .i64 q.stop.node, .int .i64 q.stop.shard, .slice a.sc.ptr a.sc.len a.sc.cap, .int .i64 q.stop.phase, .int .u64 q.stop.epoch, .slice a.sp.ptr a.sp.len a.sp.cap, .int .u64 q.stop.tag.1, .int .u64 q.stop.tag.2, .slice a.sv.ptr a.sv.len a.sv.cap, .slice a.sw.ptr a.sw.len a.sw.cap, .slice a.sr.ptr a.sr.len a.sr.cap, .bool a.any, .int .u64 q.stop.chosen.1, .int .u64 q.stop.chosen.2, .slice a.sh.ptr a.sh.len a.sh.cap, .int .u64 q.stop.begun, .int .u64 q.stop.done, .slice a.sb.ptr a.sb.len a.sb.cap, .int .u64 q.stop.seen] :: buf 1 i64c a.sc q.cop :: own a8 [.int .u64 e0, .int .u64 te, .int .u64 ts, .slice v.ptr v.len v.cap] :: buf 1 i64c a.sw [] :: buf 1 i64c a.sr [] :: buf 1 i64c a.sb [] :: poolR (refP q.stop a) :: L) := O.sel [0, 1, 7, 3, 4, 5, 6] 8 rfl (Nat.le_add_left _ _)
  have hq0 : q.stop.val = [] := rfl
  refine ⟨_, rfl, ?_⟩
  refine st_ad (b := r) (o := 3) rfl ?_
  refine O.st 0 rfl (by simp) rfl fun h O => ?_
  dsimp only [V.put, List.set] at O
  refine ⟨_, rfl, ?_⟩
  refine st_ad (b := r) (o := 4) rfl ?_
  refine O.st 0 rfl (by simp) rfl fun h O => ?_
  dsimp only [V.put, List.set] at O
  refine ⟨_, rfl, ?_⟩
  refine O.ld 0 rfl (ldL_c (ldL_n ?_))
  refine O.ld 2 rfl (ldL_c (ldL_c (ldL_n ?_)))
  refine O.ld 2 rfl (ldL_c (k := .sl) (x := v) (ldL_n ?_))
  refine F_ref0_Copy.is O (Vv h (O.sel [] 7 rfl (Nat.le_add_left _ _))) (by omega) fun sv h O _ _ => ?_
  refine O.ca 1 1 rfl ?_
  refine O.ca 3 2 rfl ?_
  refine O.al fun a22 h O => ?_
  refine ⟨_, rfl, ?_⟩
  refine st_ad (b := r) (o := 5) rfl ?_
  refine O.st 2 rfl (by simp) rfl fun h O => ?_
  dsimp only [V.put, List.set] at O
  have O := pm_buf (x := ⟨q.node, te, ts, sv, b⟩) O
  have eps : pend (q.start0 e te ts b) [⟨q.node, te, ts, sv, b⟩] := ⟨rfl, fun _ => ⟨_, [], rfl, rfl, rfl, rfl⟩⟩
  obtain ⟨A, hA⟩ : ∃ A : RA, A = { a with sp := ⟨some (pt a22 0), 1, 1⟩, ps := [⟨q.node, te, ts, sv, b⟩] } := ⟨_, rfl⟩
  have A1 : A.sc = a.sc := by rw [hA]
  have A2 : A.sp = ⟨some (pt a22 0), 1, 1⟩ := by rw [hA]
  have A3 : A.ps = [⟨q.node, te, ts, sv, b⟩] := by rw [hA]
  have A4 : A.sw = a.sw ∧ A.sr = a.sr ∧ A.sb = a.sb ∧ A.sh = a.sh ∧ A.sv = a.sv := by rw [hA]; exact ⟨rfl, rfl, rfl, rfl, rfl⟩
  have O : Sat h0 h (own r (rcL (q.start0 e te ts b) A) :: buf 1 i64c A.sc q.cop :: buf 4 pmC A.sp A.ps :: buf 1 u8 sv b :: buf 1 i64c A.sw [] :: buf 1 i64c A.sr [] :: buf 1 i64c A.sb [] :: poolR (refP q.stop a) :: L) := by
    subst hA
    exact O.sel [2, 3, 0, 1, 5, 6, 7, 8] 9 rfl (Nat.le_add_left _ _)
  have ok0 := ok.start0 (e := e) (te := te) (ts := ts) hb
  have r0 : refVal (q.start0 e te ts b) = [] := if_pos rfl
  have r1 : refVal q.stop = [] := rfl
  clear Vv
  refine F_ref10_Quorum_many.is (q := q.start0 e te ts b) (by decide) (by decide) rfl ok.c O ?_
  unfold QS.start at k
  refine brr_of (fun hm => ?_) (fun hm => ?_)
  · rw [if_pos hm] at k
    refine F_ref10_Quorum_best.is (q := q.start0 e te ts b) (a := A) (x := ⟨q.node, te, ts, sv, b⟩) (xs := []) A3 (by decide) (O.sel [0, 2, 1, 3, 4, 5, 6, 7] 8 rfl (Nat.le_add_left _ _)) fun h O => ?_
    refine F_ref10_Quorum_writes.is (q := q.start0 e te ts b) (a := A) ok.c hb (fun h O => (O.view 1 u8_len (by simp) rfl).1) (O.sel [0, 2, 1, 3, 4, 5, 6, 7] 8 rfl (Nat.le_add_left _ _)) fun s sv2 h O => ?_
    have O : Sat h0 h (msgsR s (((q.start0 e te ts b).wrt 1).writes span) :: own r (rcL ((q.start0 e te ts b).wrt 1) { A with sv := sv2, sw := ⟨none, 0, 0⟩ }) :: buf 1 u8 sv2 b :: buf 1 i64c A.sc q.cop :: buf 4 pmC A.sp A.ps :: buf 1 u8 sv b :: buf 1 i64c A.sw [] :: buf 1 i64c A.sr [] :: buf 1 i64c A.sb [] :: poolR (refP q.stop a) :: L) := O
    have O2 := pool_take (O.sel [5, 9, 2, 0, 1, 3, 4, 7, 8] 10 rfl (Nat.le_add_left _ _))
    have O2 := pool_take O2.swap
    have O2 := pool_sub O2 (fs := refP ((q.start0 e te ts b).wrt 1) { A with sv := sv2, sw := ⟨none, 0, 0⟩ }) (by
      intro x hx
      have e1 : refVal ((q.start0 e te ts b).wrt 1) = b := if_neg (by show ¬ (2 : Int) = 1; decide)
      simp only [refP, e1, A3, A4, List.map_cons, List.map_nil, List.mem_cons, List.not_mem_nil, or_false] at hx
      rcases hx with rfl | rfl | rfl
      · simp
      · have e9 : ((q.start0 e te ts b).wrt 1).what = q.stop.what := rfl
        rw [e9]; simp [refP]
      · simp)
    have O3 := (O2.nil_buf (sz := 1) (enc := i64c))
    have O3 : Sat h0 h (own r (rcL ((q.start0 e te ts b).wrt 1) { A with sv := sv2, sw := ⟨none, 0, 0⟩ }) :: buf 1 i64c A.sc q.cop :: buf 4 pmC A.sp A.ps :: buf 1 i64c ⟨none, 0, 0⟩ [] :: buf 1 i64c A.sr [] :: buf 1 i64c A.sb [] :: poolR (refP ((q.start0 e te ts b).wrt 1) { A with sv := sv2, sw := ⟨none, 0, 0⟩ }) :: msgsR s (((q.start0 e te ts b).wrt 1).writes span) :: L) := O3.sel [3, 4, 5, 0, 6, 7, 1, 2] 8 rfl (Nat.le_add_left _ _)
    exact k _ _ (Sat.rfI ((q.start0 e te ts b).wrt 1) { A with sv := sv2, sw := ⟨none, 0, 0⟩ } (by show pend _ A.ps; rw [A3]; exact pend_wrt (b := b) eps) O3).swap
  · rw [if_neg (by simp [hm])] at k
    refine ⟨_, rfl, ?_⟩
    refine O.ld 0 rfl (ldL_c (ldL_n ?_))
    refine O.al fun a34 h O => ?_
    have O := int_buf O
    refine ask_ref10 (q := q.start0 e te ts b) (a := A) (xs := [q.node]) (.inl rfl) ok.c (by simp) (by rw [r0]; simp) (O.sel [1, 2, 0, 3, 4, 5, 6, 7, 8] 9 rfl (Nat.le_add_left _ _)) (fun h O => (O.view 0 i64c_len (by simp) rfl).1) (fun h O => ?_) fun s h O => k s h ?_
    · rw [r0, A4.2.2.2.2]
      exact pool_view O 6 (by simp) rfl (e := (a.sv, [])) (by simp [refP, r1])
    · rw [to_kind1, show ((q.start0 e te ts b).cop.filter fun c => !decide (c ∈ [q.node])).map (fun c => toMg (q.start0 e te ts b) 1 0 c) = (q.start0 e te ts b).prepares from to_prepares] at O
      have O : Sat h0 h (msgsR s (q.start0 e te ts b).prepares :: own r (rcL (q.start0 e te ts b) A) :: buf 1 i64c A.sc q.cop :: buf 1 i64c ⟨some (pt a34 0), 1, 1⟩ [q.node] :: buf 4 pmC A.sp A.ps :: buf 1 u8 sv b :: buf 1 i64c A.sw [] :: buf 1 i64c A.sr [] :: buf 1 i64c A.sb [] :: poolR (refP q.stop a) :: L) := O
      have O2 := pool_take (O.sel [5, 9, 0, 1, 2, 4, 6, 7, 8] 10 rfl (Nat.le_add_left _ _))
      have O2 := pool_sub O2 (fs := refP (q.start0 e te ts b) A) (by
        intro x hx
        simp only [refP, r0, A3, A4, List.map_cons, List.map_nil, List.mem_cons, List.not_mem_nil, or_false] at hx
        rcases hx with rfl | rfl | rfl
        · simp [refP, r1]
        · have e9 : (q.start0 e te ts b).what = q.stop.what := rfl
          rw [e9]; simp [refP]
        · simp)
      exact (Sat.rfI (q.start0 e te ts b) A (by rw [A3]; exact eps) (O2.sel [2, 3, 4, 5, 6, 7, 0, 1] 8 rfl (Nat.le_add_left _ _))).swap
end
end Go.Proofs.YtigcpkejjjgkeaaGreat.V
/- The document's quorum: Propose, Tick, promised, refused. -/
namespace Go.Proofs.YtigcpkejjjgkeaaGreat.V
open Go Go.RowKit
set_option linter.unusedVariables false
set_option linter.unusedSimpArgs false

theorem putK_inQ {S : List Int} {c : Int} (h : c ∈ S) : putK S c = S := if_pos h
section
variable {h0 h : Heap} {L : List Res} {r : Nat} {q : QS} {m : Mg} {a : RA}
theorem refVal_len (ok : q.Ok) : (refVal q).length ≤ (140737488355325 : Nat) := by
  unfold refVal
  split
  · simp
  · exact ok.v
theorem F_ref10_Quorum_Propose.is {span : Int} {v : Sl} {b : List UInt8} {Q : Sl → Bool → Heap → Prop} (iv : q.Inv) (hb : b.length ≤ (140737488355325 : Nat)) (Vv : Stays h0 L fun h => Bytes h v b) (O : Sat h0 h (rfR r q :: L)) (k : ∀ s h', Sat h0 h' (msgsR s (q.propose b span).2.1 :: rfR r (q.propose b span).1 :: L) → Q s (q.propose b span).2.2 h') : F_ref10_Quorum_Propose (some (pt r 0)) v span h Q := by
  rw [F_ref10_Quorum_Propose.eq_1, F_ref10_Quorum_Propose_of.eq_1]
  obtain ⟨a, ep, O⟩ := O.rf
  have ht := iv.ok.t
  refine jn1 (fun z h' => h = h' ∧ z = decide (q.phase ≠ 3 ∨ (1099511627776 : Int) ≤ q.tag.2)) ?_ ?_
  case refine_2 =>
    intro j hj
    refine ⟨_, rfl, ?_⟩
    refine O.ld 0 rfl (ldL_c (ldL_n ?_))
    refine brr_ne (fun h3 => hj _ _ ⟨rfl, by simp [h3]⟩) (fun h3 => ?_)
    refine ⟨_, rfl, ?_⟩
    refine O.ld 0 rfl (ldL_c (ldL_n ?_))
    refine hj _ _ ⟨rfl, ?_⟩
    rw [iv.p3 h3]
    simp [h3]
  rintro z h' ⟨rfl, rfl⟩
  unfold QS.propose at k
  refine brr_p (fun hc => ?_) (fun hc => ?_)
  · rw [if_pos hc] at k
    exact k _ _ (msgs_none (Sat.rfI q a ep O))
  rw [if_neg hc] at k
  have h3 : q.phase = 3 := Decidable.byContradiction fun h => hc (.inl h)
  have hm : ¬ (1099511627776 : Int) ≤ q.tag.2 := fun h => hc (.inr h)
  refine ⟨_, rfl, ?_⟩
  refine O.ld 0 rfl (ldL_c (ldL_n ?_))
  rw [iv.p3 h3, wrapu64 (by omega) (by omega)]
  refine F_ref10_Quorum_writes.is iv.ok.c hb (fun h O => Vv h (O.sel [] 5 rfl (Nat.le_add_left _ _))) O fun s sv h O => k s h ?_
  have O : Sat h0 h (msgsR s ((({ q with val := b } : QS).wrt (q.tag.2 + 1)).writes span) :: own r (rcL (({ q with val := b } : QS).wrt (q.tag.2 + 1)) { a with sv := sv, sw := ⟨none, 0, 0⟩ }) :: buf 1 u8 sv b :: buf 1 i64c a.sc q.cop :: buf 4 pmC a.sp a.ps :: buf 1 i64c a.sw q.wr :: buf 1 i64c a.sr q.rf :: buf 1 i64c a.sb q.bt :: poolR (refP q a) :: L) := O
  have O2 := pool_take (O.sel [2, 8, 0, 1, 3, 4, 6, 7] 9 rfl (Nat.le_add_left _ _))
  have ev : refVal (({ q with val := b } : QS).wrt (q.tag.2 + 1)) = b := if_neg (by show ¬ (2 : Int) = 1; decide)
  have O2 := pool_sub O2 (fs := refP (({ q with val := b } : QS).wrt (q.tag.2 + 1)) { a with sv := sv, sw := ⟨none, 0, 0⟩ }) (by
    intro x hx
    unfold refP at hx ⊢
    rw [ev] at hx
    simp only [List.mem_cons] at hx
    simp only [List.mem_append, List.mem_cons]
    rcases hx with rfl | rfl | hx
    · simp
    · left; right; left; rfl
    · left; right; right; exact hx)
  have O3 := O2.nil_buf (sz := 1) (enc := i64c)
  exact (Sat.rfI (({ q with val := b } : QS).wrt (q.tag.2 + 1)) { a with sv := sv, sw := ⟨none, 0, 0⟩ } (pend_wrt ep) (O3.sel [3, 4, 5, 0, 6, 7, 1, 2] 8 rfl (Nat.le_add_left _ _))).swap
theorem F_ref10_Quorum_Tick.is {span : Int} {Q : Sl → Heap → Prop} (iv : q.Inv) (O : Sat h0 h (rfR r q :: L)) (k : ∀ s h', Sat h0 h' (msgsR s (q.tick span).2 :: rfR r (q.tick span).1 :: L) → Q s h') : F_ref10_Quorum_Tick (some (pt r 0)) span h Q := by
  rw [F_ref10_Quorum_Tick.eq_1, F_ref10_Quorum_Tick_of.eq_1]
  obtain ⟨a, ep, O⟩ := O.rf
  have hc := iv.ok.c
  have hb0 := iv.ok.b
  have hvl := refVal_len iv.ok
  have ht0 := tick0_len (q := q) (span := span)
  refine ⟨_, rfl, ?_⟩
  refine O.ld 0 rfl (ldL_c (ldL_n ?_))
  refine jn1 (fun s h' => Sat h0 h' (msgsR s (if q.phase = 1 then q.prepares else []) :: own r [.int .i64 q.node, .int .i64 q.shard, .slice a.sc.ptr a.sc.len a.sc.cap, .int .i64 q.phase, .int .u64 q.epoch, .slice a.sp.ptr a.sp.len a.sp.cap, .int .u64 q.tag.1, .int .u64 q.tag.2, .slice a.sv.ptr a.sv.len a.sv.cap, .slice a.sw.ptr a.sw.len a.sw.cap, .slice a.sr.ptr a.sr.len a.sr.cap, .bool a.any, .int .u64 q.chosen.1, .int .u64 q.chosen.2, .slice a.sh.ptr a.sh.len a.sh.cap, .int .u64 q.begun, .int .u64 q.done, .slice a.sb.ptr a.sb.len a.sb.cap, .int .u64 q.seen] :: buf 1 i64c a.sc q.cop :: buf 4 pmC a.sp a.ps :: buf 1 i64c a.sw q.wr :: buf 1 i64c a.sr q.rf :: buf 1 i64c a.sb q.bt :: poolR (refP q a) :: L)) ?_ ?_
  case refine_2 =>
    intro j hj
    refine brr_eq (fun h1 => ?_) (fun h1 => ?_)
    · rw [if_pos h1] at hj
      refine ⟨_, rfl, ?_⟩
      refine O.ld 0 rfl (ldL_c (ldL_n ?_))
      refine O.al fun a8 h O => ?_
      have O := int_buf O
      refine ask_ref10 (xs := [q.node]) (.inl rfl) hc (by simp) hvl (O.sel [1, 2, 0, 3, 4, 5, 6, 7] 8 rfl (Nat.le_add_left _ _)) (fun h O => (O.view 0 i64c_len (by simp) rfl).1) (fun h O => pool_view O 5 (by simp) rfl (e := (a.sv, refVal q)) (by simp [refP])) fun s h O => hj s h ?_
      rw [to_kind1, to_prepares] at O
      exact O.sel [0, 1, 2, 4, 5, 6, 7, 8] 9 rfl (Nat.le_add_left _ _)
    · rw [if_neg h1] at hj
      exact hj _ _ (msgs_none O)
  clear O
  rintro s1 h O
  refine ⟨_, rfl, ?_⟩
  refine O.ld 1 rfl (ldL_c (ldL_n ?_))
  refine jn1 (fun s h' => Sat h0 h' (msgsR s (q.tick0 span) :: own r [.int .i64 q.node, .int .i64 q.shard, .slice a.sc.ptr a.sc.len a.sc.cap, .int .i64 q.phase, .int .u64 q.epoch, .slice a.sp.ptr a.sp.len a.sp.cap, .int .u64 q.tag.1, .int .u64 q.tag.2, .slice a.sv.ptr a.sv.len a.sv.cap, .slice a.sw.ptr a.sw.len a.sw.cap, .slice a.sr.ptr a.sr.len a.sr.cap, .bool a.any, .int .u64 q.chosen.1, .int .u64 q.chosen.2, .slice a.sh.ptr a.sh.len a.sh.cap, .int .u64 q.begun, .int .u64 q.done, .slice a.sb.ptr a.sb.len a.sb.cap, .int .u64 q.seen] :: buf 1 i64c a.sc q.cop :: buf 4 pmC a.sp a.ps :: buf 1 i64c a.sw q.wr :: buf 1 i64c a.sr q.rf :: buf 1 i64c a.sb q.bt :: poolR (refP q a) :: L)) ?_ ?_
  case refine_2 =>
    intro j hj
    unfold QS.tick0 at hj
    refine brr_eq (fun h2 => ?_) (fun h2 => ?_)
    · rw [if_neg (by omega), if_pos h2] at hj
      have hw := most_small (iv.p2 h2)
      refine ⟨_, rfl, ?_⟩
      refine O.ld 1 rfl (ldL_c (k := .sl) (x := a.sw) (ldL_n ?_))
      have O : Sat h0 h (own r [.int .i64 q.node, .int .i64 q.shard, .slice a.sc.ptr a.sc.len a.sc.cap, .int .i64 q.phase, .int .u64 q.epoch, .slice a.sp.ptr a.sp.len a.sp.cap, .int .u64 q.tag.1, .int .u64 q.tag.2, .slice a.sv.ptr a.sv.len a.sv.cap, .slice a.sw.ptr a.sw.len a.sw.cap, .slice a.sr.ptr a.sr.len a.sr.cap, .bool a.any, .int .u64 q.chosen.1, .int .u64 q.chosen.2, .slice a.sh.ptr a.sh.len a.sh.cap, .int .u64 q.begun, .int .u64 q.done, .slice a.sb.ptr a.sb.len a.sb.cap, .int .u64 q.seen] :: buf 1 i64c a.sc q.cop :: buf 4 pmC a.sp a.ps :: buf 1 i64c a.sw q.wr :: buf 1 i64c a.sr q.rf :: buf 1 i64c a.sb q.bt :: poolR (refP q a) :: msgsR s1 (if q.phase = 1 then q.prepares else []) :: L) := O.sel [1, 2, 3, 4, 5, 6, 7, 0] 8 rfl (Nat.le_add_left _ _)
      refine ask_ref10 (xs := q.wr) (.inr (.inl rfl)) hc (by omega) hvl O (fun h O => (O.view 1 i64c_len (by simp) rfl).1) (fun h O => pool_view O 4 (by simp) rfl (e := (a.sv, refVal q)) (by simp [refP])) fun s h O => hj s h ?_
      rw [to_writes (by omega)] at O
      exact O.sel [0, 1, 2, 3, 4, 5, 6, 7] 9 rfl (Nat.le_add_left _ _)
    · rw [if_neg h2] at hj
      exact hj _ _ O
  clear O
  rintro s2 h O
  have O : Sat h0 h (own r [.int .i64 q.node, .int .i64 q.shard, .slice a.sc.ptr a.sc.len a.sc.cap, .int .i64 q.phase, .int .u64 q.epoch, .slice a.sp.ptr a.sp.len a.sp.cap, .int .u64 q.tag.1, .int .u64 q.tag.2, .slice a.sv.ptr a.sv.len a.sv.cap, .slice a.sw.ptr a.sw.len a.sw.cap, .slice a.sr.ptr a.sr.len a.sr.cap, .bool a.any, .int .u64 q.chosen.1, .int .u64 q.chosen.2, .slice a.sh.ptr a.sh.len a.sh.cap, .int .u64 q.begun, .int .u64 q.done, .slice a.sb.ptr a.sb.len a.sb.cap, .int .u64 q.seen] :: buf 1 i64c a.sc q.cop :: buf 4 pmC a.sp a.ps :: buf 1 i64c a.sw q.wr :: buf 1 i64c a.sr q.rf :: buf 1 i64c a.sb q.bt :: poolR (refP q a) :: msgsR s2 (q.tick0 span) :: L) := O.sel [1, 2, 3, 4, 5, 6, 7, 0] 8 rfl (Nat.le_add_left _ _)
  unfold QS.tick at k
  refine F_ref10_Quorum_Holds.is O ?_
  refine brr_not ?_
  refine brr_of (fun hh => ?_) (fun hh => ?_)
  case refine_2 =>
    rw [if_pos hh] at k
    exact k _ _ (Sat.rfI q a ep O).swap
  rw [if_neg (by simp [hh])] at k
  refine ⟨_, rfl, ?_⟩
  refine O.ld 0 rfl (ldL_c (ldL_n ?_))
  refine ⟨_, rfl, ?_⟩
  refine O.ld 0 rfl (ldL_c (ldL_n ?_))
  refine jn0 (fun h' => ∃ (q2 : QS) (a2 : RA), q2.cop = q.cop ∧ q2.bt.length ≤ 1000000 ∧ (refVal q2).length ≤ (140737488355325 : Nat) ∧ pend q2 a2.ps ∧ Sat h0 h' (own r (rcL q2 a2) :: buf 1 i64c a2.sc q2.cop :: buf 4 pmC a2.sp a2.ps :: buf 1 i64c a2.sw q2.wr :: buf 1 i64c a2.sr q2.rf :: buf 1 i64c a2.sb q2.bt :: poolR (refP q2 a2) :: msgsR s2 (q.tick0 span) :: L) ∧ (∀ s' h', Sat h0 h' (msgsR s' (q.tick0 span ++ q2.beats span) :: rfR r q2 :: L) → Q s' h')) ?_ ?_
  · clear O k
    rintro h ⟨q2, a2, ec, hbt, hv2, ep2, O, kk⟩
    refine ⟨_, rfl, ?_⟩
    refine O.ld 0 rfl (ldL_c (k := .sl) (x := a2.sb) (ldL_n ?_))
    refine ask_ref10 (xs := q2.bt) (.inr (.inr rfl)) (by rw [ec]; exact hc) hbt hv2 O (fun h O => (O.view 3 i64c_len (by simp) rfl).1) (fun h O => pool_view O 4 (by simp) rfl (e := (a2.sv, refVal q2)) (by simp [refP])) fun s3 h O => ?_
    rw [to_beats] at O
    have O : Sat h0 h (msgsR s3 (q2.beats span) :: msgsR s2 (q.tick0 span) :: own r (rcL q2 a2) :: buf 1 i64c a2.sc q2.cop :: buf 4 pmC a2.sp a2.ps :: buf 1 i64c a2.sw q2.wr :: buf 1 i64c a2.sr q2.rf :: buf 1 i64c a2.sb q2.bt :: poolR (refP q2 a2) :: L) := O.sel [0, 8, 1, 2, 3, 4, 5, 6, 7] 9 rfl (Nat.le_add_left _ _)
    have O : Sat h0 h (rfR r q2 :: msgsR s3 (q2.beats span) :: msgsR s2 (q.tick0 span) :: L) := Sat.rfI q2 a2 ep2 (O.sel [2, 3, 4, 5, 6, 7, 8, 0, 1] 9 rfl (Nat.le_add_left _ _))
    obtain ⟨ls2, e2, O⟩ := (O.sel [1, 0, 2] 3 rfl (Nat.le_add_left _ _)).msgs
    obtain ⟨ls, e1, O⟩ := (O.sel [3, 0, 1, 2] 4 rfl (Nat.le_add_left _ _)).msgs
    have O : Sat h0 h (buf 22 mgC s2 ls :: many mvR ls :: buf 22 mgC s3 ls2 :: many mvR ls2 :: rfR r q2 :: L) := O
    have V := (O.view 2 mgC_len (by simp) rfl).1
    have l1 : ls.length ≤ 1000000 := by have := congrArg List.length e1; rw [List.length_map] at this; omega
    have l2 : ls2.length ≤ 1000000 := by
      have := congrArg List.length e2
      have := send_len (q := q2) (x := { mgz with kind := 6, epoch := q2.epoch, round := q2.begun, span := span }) (out := fun c => decide (c ∈ q2.bt))
      have e3 : (q2.beats span).length ≤ q2.cop.length := this
      rw [ec] at e3
      rw [List.length_map] at *
      omega
    refine Sat.app_buf (enc := mgC) O mgC_len mgC_one (by simp [Value.cells]) (ys := ls2) V.len (V.rd mgC_len) (by omega) fun s3 h O _ => ?_
    have O : Sat h0 h (many mvR ls :: many mvR ls2 :: buf 22 mgC s3 (ls ++ ls2) :: rfR r q2 :: L) := O.sel [1, 3, 0, 4] 5 rfl (Nat.le_add_left _ _)
    have O := Sat.manyApp O
    exact kk _ _ (Sat.msgsI (by rw [List.map_append, e1, e2]) O.swap)
  intro j hj
  refine brr_eq (fun he => ?_) (fun he => ?_)
  · rw [if_pos he] at k
    refine ⟨_, rfl, ?_⟩
    refine O.ld 0 rfl (ldL_c (ldL_n ?_))
    refine brr_p (fun hm => ?_) (fun hm => ?_)
    · rw [if_pos (show (1099511627776 : Int) ≤ q.begun from hm)] at k
      exact k _ _ (Sat.rfI q a ep O).swap
    rw [if_neg (show ¬ (1099511627776 : Int) ≤ q.begun from hm)] at k
    refine ⟨_, rfl, ?_⟩
    refine O.ld 0 rfl (ldL_c (ldL_n ?_))
    refine ⟨_, rfl, ?_⟩
    refine st_ad (b := r) (o := 15) rfl ?_
    refine O.st 0 rfl (by simp) rfl fun h O => ?_
    dsimp only [V.put, List.set] at O
    refine ⟨_, rfl, ?_⟩
    refine st_ad (b := r) (o := 17) rfl ?_
    refine O.st 0 rfl (by simp) rfl fun h O => ?_
    dsimp only [V.put, List.set] at O
    rw [wrapu64 (by omega) (by omega)] at O
    have O2 := O.nil_buf (sz := 1) (enc := i64c)
    exact hj _ ⟨q.rise, { a with sb := ⟨none, 0, 0⟩ }, rfl, by show (0 : Nat) ≤ _; decide, hvl, ep, O2.sel [1, 2, 3, 4, 5, 0, 7, 8] 9 rfl (Nat.le_add_left _ _), k⟩
  · rw [if_neg he] at k
    have hb := most_small (iv.bd he)
    exact hj _ ⟨q, a, rfl, by omega, hvl, ep, O, k⟩
theorem F_ref10_Quorum_promised.is {n : Int} {Q : Bool → Heap → Prop} (hl : a.ps.length ≤ 1000000) (O : Sat h0 h (own r [.int .i64 q.node, .int .i64 q.shard, .slice a.sc.ptr a.sc.len a.sc.cap, .int .i64 q.phase, .int .u64 q.epoch, .slice a.sp.ptr a.sp.len a.sp.cap, .int .u64 q.tag.1, .int .u64 q.tag.2, .slice a.sv.ptr a.sv.len a.sv.cap, .slice a.sw.ptr a.sw.len a.sw.cap, .slice a.sr.ptr a.sr.len a.sr.cap, .bool a.any, .int .u64 q.chosen.1, .int .u64 q.chosen.2, .slice a.sh.ptr a.sh.len a.sh.cap, .int .u64 q.begun, .int .u64 q.done, .slice a.sb.ptr a.sb.len a.sb.cap, .int .u64 q.seen] :: buf 4 pmC a.sp a.ps :: L)) (k : Q (decide (n ∈ a.ps.map PM.frm)) h) : F_ref10_Quorum_promised (some (pt r 0)) n h Q := by
  rw [F_ref10_Quorum_promised.eq_1, F_ref10_Quorum_promised_of.eq_1]
  have V := (O.view 1 pmC_len (by simp) rfl).1
  refine jn0 (fun h' => h = h' ∧ n ∉ a.ps.map PM.frm) ?_ ?_
  · rintro h2 ⟨rfl, hn⟩
    rw [show decide (n ∈ a.ps.map PM.frm) = false from decide_eq_false hn] at k
    exact k
  · intro j hj
    rw [F_ref10_Quorum_promised.l1.eq_1]
    refine wl1 (k := .int .i64) (fun (m : Nat) (i : Int) (h' : Heap) => h = h' ∧ i + m = a.ps.length ∧ 0 ≤ i ∧ (∀ j : Nat, (j : Int) < i → (a.ps.map PM.frm)[j]? ≠ some n)) ?_ (m := a.ps.length) ⟨rfl, by omega, by omega, fun j hj => by omega⟩
    rintro m (i : Int) h2 next hnx ⟨rfl, him, hi0, hall⟩
    refine ⟨_, rfl, ?_⟩
    refine O.ld 0 rfl (ldL_c (k := .sl) (x := a.sp) (ldL_n ?_))
    rw [V.len]
    refine brr_p (fun hlt => ?_) (fun hlt => hj _ ⟨rfl, fun hm => ?_⟩)
    · obtain ⟨x, hx⟩ : ∃ x, a.ps[i.toNat]? = some x := ⟨_, List.getElem?_eq_getElem (by omega)⟩
      have hxm : (a.ps.map PM.frm)[i.toNat]? = some x.frm := by rw [List.getElem?_map, hx]; rfl
      refine ⟨_, rfl, ?_⟩
      refine O.ld 0 rfl (ldL_c (k := .sl) (x := a.sp) (ldL_n ?_))
      refine V.getP hi0 hx fun b hb => ld_drop (hb V) 0 (ldL_c (ldL_n ?_))
      refine brr_eq (fun hq => ?_) (fun hq => ?_)
      · have hm : n ∈ a.ps.map PM.frm := by rw [← hq]; exact List.mem_of_getElem? hxm
        rw [show decide (n ∈ a.ps.map PM.frm) = true from decide_eq_true hm] at k
        exact k
      · rw [wrap64 (by omega) (by omega)]
        refine hnx (m - 1) _ _ (by omega) ⟨rfl, by omega, by omega, fun j hj => ?_⟩
        by_cases q : (j : Int) < i
        · exact hall j q
        · rw [show j = i.toNat by omega, hxm]
          intro e
          cases e
          exact hq rfl
    · obtain ⟨j, hj2⟩ := List.getElem?_of_mem hm
      have := (List.getElem?_eq_some_iff.1 hj2).1
      rw [List.length_map] at this
      exact hall j (by omega) hj2
theorem F_ref10_Quorum_refused.is {Q : Heap → Prop} (iv : q.Inv) (hm : m.frm ∈ q.cop) (O : Sat h0 h (rfR r q :: L)) (k : ∀ h', Sat h0 h' (rfR r (q.refuse m) :: L) → Q h') : F_ref10_Quorum_refused (some (pt r 0)) m.kind m.frm m.to m.shard m.epoch m.te m.ts m.round m.span m.seen m.v m.peer m.num m.name m.other m.amount m.life m.id m.op m.client m.state m.bad h Q := by
  rw [F_ref10_Quorum_refused.eq_1, F_ref10_Quorum_refused_of.eq_1]
  have hc := iv.ok.c
  have hrl := nodup_sub_len iv.ok.n iv.ok.s
  have hpl := nodup_sub_len (putK_nodup (n := m.frm) iv.ok.n) (fun x hx => by rcases putK_sub hx with h | rfl; exact iv.ok.s x h; exact hm)
  refine O.al fun a24 h O => ?_
  have O : Sat h0 h (rfR r q :: own a24 (mgC m) :: L) := O.swap
  obtain ⟨a, ep, O⟩ := O.rf
  refine O.ld 7 rfl (ldL_c (ldL_n ?_))
  refine ⟨_, rfl, ?_⟩
  refine O.ld 0 rfl (ldL_c (ldL_n ?_))
  refine jn0 (fun h' => Sat h0 h' (own r (rcL (q.heed m) a) :: buf 1 i64c a.sc q.cop :: buf 4 pmC a.sp a.ps :: buf 1 i64c a.sw q.wr :: buf 1 i64c a.sr q.rf :: buf 1 i64c a.sb q.bt :: poolR (refP q a) :: own a24 (mgC m) :: L)) ?_ ?_
  case refine_2 =>
    intro j hj
    refine brr_p (fun hs => ?_) (fun hs => ?_)
    · refine O.ld 7 rfl (ldL_c (ldL_n ?_))
      refine ⟨_, rfl, ?_⟩
      refine st_ad (b := r) (o := 18) rfl ?_
      refine O.st 0 rfl (by simp) rfl fun h O => ?_
      dsimp only [V.put, List.set] at O
      refine hj _ ?_
      have e : (q.heed m).seen = m.seen := if_pos hs
      show Sat h0 h (own r (rcL (q.heed m) a) :: buf 1 i64c a.sc q.cop :: buf 4 pmC a.sp a.ps :: buf 1 i64c a.sw q.wr :: buf 1 i64c a.sr q.rf :: buf 1 i64c a.sb q.bt :: poolR (refP q a) :: own a24 (mgC m) :: L)
      unfold rcL
      rw [e]
      exact O
    · refine hj _ ?_
      have e : (q.heed m).seen = q.seen := if_neg hs
      unfold rcL
      rw [e]
      exact O
  clear O
  intro h O
  have ep2 : pend (q.heed m) a.ps := ep
  have O : Sat h0 h (own r [.int .i64 (q.heed m).node, .int .i64 (q.heed m).shard, .slice a.sc.ptr a.sc.len a.sc.cap, .int .i64 (q.heed m).phase, .int .u64 (q.heed m).epoch, .slice a.sp.ptr a.sp.len a.sp.cap, .int .u64 (q.heed m).tag.1, .int .u64 (q.heed m).tag.2, .slice a.sv.ptr a.sv.len a.sv.cap, .slice a.sw.ptr a.sw.len a.sw.cap, .slice a.sr.ptr a.sr.len a.sr.cap, .bool a.any, .int .u64 (q.heed m).chosen.1, .int .u64 (q.heed m).chosen.2, .slice a.sh.ptr a.sh.len a.sh.cap, .int .u64 (q.heed m).begun, .int .u64 (q.heed m).done, .slice a.sb.ptr a.sb.len a.sb.cap, .int .u64 (q.heed m).seen] :: buf 1 i64c a.sc q.cop :: buf 4 pmC a.sp a.ps :: buf 1 i64c a.sw q.wr :: buf 1 i64c a.sr q.rf :: buf 1 i64c a.sb q.bt :: poolR (refP q a) :: own a24 (mgC m) :: L) := O
  refine jn1 (fun z h' => h = h' ∧ z = decide (q.phase = 0 ∨ m.epoch ≠ q.epoch ∨ m.seen ≤ q.epoch)) ?_ ?_
  case refine_2 =>
    intro j hj
    refine ⟨_, rfl, ?_⟩
    refine O.ld 0 rfl (ldL_c (ldL_n ?_))
    refine brr_eq (fun h0 => hj _ _ ⟨rfl, by rw [show q.phase = 0 from h0]; simp⟩) (fun h0 => ?_)
    have h0 : q.phase ≠ 0 := h0
    refine O.ld 7 rfl (ldL_c (ldL_n ?_))
    refine ⟨_, rfl, ?_⟩
    refine O.ld 0 rfl (ldL_c (ldL_n ?_))
    refine brr_ne (fun h1 => hj _ _ ⟨rfl, by simp [show m.epoch ≠ q.epoch from h1]⟩) (fun h1 => ?_)
    refine O.ld 7 rfl (ldL_c (ldL_n ?_))
    refine ⟨_, rfl, ?_⟩
    refine O.ld 0 rfl (ldL_c (ldL_n ?_))
    refine hj _ _ ⟨rfl, ?_⟩
    have h1 : m.epoch = q.epoch := h1
    apply decide_eq_decide.2
    constructor
    · intro h; exact .inr (.inr h)
    · rintro (h | h | h)
      · exact absurd h h0
      · exact absurd h1 h
      · exact h
  rintro z h' ⟨rfl, rfl⟩
  unfold QS.refuse at k
  refine brr_p (fun hx => ?_) (fun hx => ?_)
  · rw [if_pos hx] at k
    exact k _ (Sat.rfI (q.heed m) a ep2 (O.sel [0, 1, 2, 3, 4, 5, 6] 8 rfl (Nat.le_add_left _ _)))
  rw [if_neg hx] at k
  refine F_ref10_Quorum_Holds.is (q := q.heed m) (a := a) O ?_
  have ehh : (q.heed m).holds = q.holds := rfl
  rw [ehh]
  refine brr_not ?_
  refine brr_of (fun hh => ?_) (fun hh => ?_)
  case refine_2 =>
    rw [if_neg (by simp [hh])] at k
    exact F_ref10_Quorum_Stop.is (q := q.heed m) (a := a) (O.sel [0, 1] 8 rfl (Nat.le_add_left _ _)) k
  refine ⟨_, rfl, ?_⟩
  refine O.ld 0 rfl (ldL_c (k := .sl) (x := a.sr) (ldL_n ?_))
  refine O.ld 7 rfl (ldL_c (ldL_n ?_))
  refine F_ref10_in.is (O.view 4 i64c_len (by simp) rfl).1 (by omega) ?_
  refine jn0 (fun h' => ∃ a2 : RA, a2.ps = a.ps ∧ Sat h0 h' (own r (rcL ({ q.heed m with rf := putK q.rf m.frm }) a2) :: buf 1 i64c a2.sc q.cop :: buf 4 pmC a2.sp a2.ps :: buf 1 i64c a2.sw q.wr :: buf 1 i64c a2.sr (putK q.rf m.frm) :: buf 1 i64c a2.sb q.bt :: poolR (refP q a2) :: L)) ?_ ?_
  · clear O
    rintro h ⟨a2, ea, O⟩
    refine ⟨_, rfl, ?_⟩
    refine O.ld 0 rfl (ldL_c (k := .sl) (x := a2.sc) (ldL_n ?_))
    refine ⟨_, rfl, ?_⟩
    refine O.ld 0 rfl (ldL_c (k := .sl) (x := a2.sr) (ldL_n ?_))
    rw [(O.view 1 i64c_len (by simp) rfl).1.len, (O.view 4 i64c_len (by simp) rfl).1.len, wrap64 (by omega) (by omega)]
    refine F_ref10_Quorum_many.is (q := q) (by omega) (by omega) rfl hc O ?_
    refine jn0 (fun h' => Sat h0 h' (rfR r (if q.holds = true ∧ q.most ((q.cop.length : Int) - ((putK q.rf m.frm).length : Nat)) = true then { q.heed m with rf := putK q.rf m.frm } else (q.heed m).stop) :: L)) (fun h O => k h O) fun j hj => ?_
    refine brr_not ?_
    refine brr_of (fun hm => ?_) (fun hm => ?_)
    · rw [if_pos ⟨hh, hm⟩] at hj
      exact hj _ (Sat.rfI ({ q.heed m with rf := putK q.rf m.frm }) a2 (by rw [ea]; exact ep) O)
    · rw [if_neg (by simp [hm])] at hj
      exact F_ref10_Quorum_Stop.is (q := { q.heed m with rf := putK q.rf m.frm }) (a := a2) (O.sel [0, 1] 7 rfl (Nat.le_add_left _ _)) hj
  intro j hj
  by_cases hi : m.frm ∈ q.rf
  · refine brr_ff (by simp [hi]) ?_
    refine hj _ ⟨a, rfl, ?_⟩
    rw [putK_inQ hi]
    exact O.sel [0, 1, 2, 3, 4, 5, 6] 8 rfl (Nat.le_add_left _ _)
  · refine brr_tt (by simp [hi]) ?_
    refine ⟨_, rfl, ?_⟩
    refine O.ld 0 rfl (ldL_c (k := .sl) (x := a.sr) (ldL_n ?_))
    refine O.ld 7 rfl (ldL_c (ldL_n ?_))
    refine O.al fun a57 h O => ?_
    refine O.ca 1 1 rfl ?_
    have O2 : Sat h0 h (buf 1 i64c a.sr q.rf :: own a57 [.int .i64 m.frm] :: own r [.int .i64 (q.heed m).node, .int .i64 (q.heed m).shard, .slice a.sc.ptr a.sc.len a.sc.cap, .int .i64 (q.heed m).phase, .int .u64 (q.heed m).epoch, .slice a.sp.ptr a.sp.len a.sp.cap, .int .u64 (q.heed m).tag.1, .int .u64 (q.heed m).tag.2, .slice a.sv.ptr a.sv.len a.sv.cap, .slice a.sw.ptr a.sw.len a.sw.cap, .slice a.sr.ptr a.sr.len a.sr.cap, .bool a.any, .int .u64 (q.heed m).chosen.1, .int .u64 (q.heed m).chosen.2, .slice a.sh.ptr a.sh.len a.sh.cap, .int .u64 (q.heed m).begun, .int .u64 (q.heed m).done, .slice a.sb.ptr a.sb.len a.sb.cap, .int .u64 (q.heed m).seen] :: buf 1 i64c a.sc q.cop :: buf 4 pmC a.sp a.ps :: buf 1 i64c a.sw q.wr :: buf 1 i64c a.sb q.bt :: poolR (refP q a) :: L) := O.sel [5, 0, 1, 2, 3, 4, 6, 7] 9 rfl (Nat.le_add_left _ _)
    refine Sat.app_buf (enc := i64c) O2 i64c_len i64c_one rfl (ys := [m.frm]) rfl (rdP_own O2 1 rfl 1 (Nat.le_refl _)) (by simp only [List.length_cons, List.length_nil]; omega) fun s2 h O _ => ?_
    refine ⟨_, rfl, ?_⟩
    refine st_ad (b := r) (o := 10) rfl ?_
    refine O.st 2 rfl (by simp) rfl fun h O => ?_
    dsimp only [V.put, List.set] at O
    have ep3 : putK q.rf m.frm = q.rf ++ [m.frm] := if_neg hi
    refine hj _ ⟨{ a with sr := s2 }, rfl, ?_⟩
    rw [ep3]
    exact O.sel [2, 3, 4, 5, 0, 6, 7] 8 rfl (Nat.le_add_left _ _)
end
end Go.Proofs.YtigcpkejjjgkeaaGreat.V
/- The document's quorum: Hear. -/
namespace Go.Proofs.YtigcpkejjjgkeaaGreat.V
open Go Go.RowKit
set_option linter.unusedVariables false
set_option linter.unusedSimpArgs false

section
variable {h0 h : Heap} {L : List Res} {r : Nat} {q : QS} {m : Mg} {a : RA}
theorem prom_val (hp : q.phase = 1) : refVal (q.prom m) = [] := if_pos (by rw [prom_same.2.2.2.1]; exact hp)
theorem pend_prom {ps : List PM} {sv : Sl} (hp : q.phase = 1) (hn : m.frm ∉ q.pm) (e : pend q ps) : pend (q.prom m) (ps ++ [⟨m.frm, m.te, m.ts, sv, m.b⟩]) := by
  obtain ⟨e1, e2⟩ := e
  obtain ⟨x, xs, rfl, b1, b2, b3⟩ := e2 hp
  refine ⟨?_, fun _ => ⟨x, xs ++ [⟨m.frm, m.te, m.ts, sv, m.b⟩], rfl, ?_⟩⟩
  · rw [prom_same.2.2.2.2.2, List.map_append, e1]
    exact (if_neg hn : putK q.pm m.frm = _).symm
  · rw [best1_snoc, b1, b2]
    unfold QS.prom
    by_cases h : tagLt q.best.1 q.best.2 m.te m.ts
    · rw [if_pos h, if_pos h]
      exact ⟨rfl, rfl, rfl⟩
    · rw [if_neg h, if_neg h]
      exact ⟨b1, b2, b3⟩
theorem stored_in (iv : q.Inv) (h2 : q.phase = 2) (hi : m.frm ∈ q.wr) : q.stored m = q := by
  unfold QS.stored
  split
  · rw [putK_inQ hi, iv.p2 h2, if_neg (by decide)]
  · rfl
theorem beat_in (iv : q.Inv) (hb : q.begun ≠ q.done) (hi : m.frm ∈ q.bt) : q.beat m = q := by
  unfold QS.beat
  split
  · rw [putK_inQ hi, iv.bd hb, if_neg (by decide)]
  · rfl
theorem F_ref10_Quorum_Hear.is {span : Int} {Q : Sl → Heap → Prop} (iv : q.Inv) (hb : m.b.length ≤ (140737488355325 : Nat)) (Vv : Stays h0 L fun h => Bytes h m.v m.b) (O : Sat h0 h (rfR r q :: L)) (k : ∀ s h', Sat h0 h' (msgsR s (q.hear m span).2 :: rfR r (q.hear m span).1 :: L) → Q s h') : F_ref10_Quorum_Hear (some (pt r 0)) m.kind m.frm m.to m.shard m.epoch m.te m.ts m.round m.span m.seen m.v m.peer m.num m.name m.other m.amount m.life m.id m.op m.client m.state m.bad span h Q := by
  rw [F_ref10_Quorum_Hear.eq_1, F_ref10_Quorum_Hear_of.eq_1]
  have hc := iv.ok.c
  refine O.al fun a25 h O => ?_
  have O : Sat h0 h (rfR r q :: own a25 (mgC m) :: L) := O.swap
  obtain ⟨a, ep, O⟩ := O.rf
  refine jn1 (fun z h' => h = h' ∧ z = decide (m.to ≠ q.node ∨ m.shard ≠ q.shard ∨ m.frm ∉ q.cop)) ?_ ?_
  case refine_2 =>
    intro j hj
    refine O.ld 7 rfl (ldL_c (ldL_n ?_))
    refine ⟨_, rfl, ?_⟩
    refine O.ld 0 rfl (ldL_c (ldL_n ?_))
    refine brr_ne (fun h1 => hj _ _ ⟨rfl, by simp [h1]⟩) (fun h1 => ?_)
    refine O.ld 7 rfl (ldL_c (ldL_n ?_))
    refine ⟨_, rfl, ?_⟩
    refine O.ld 0 rfl (ldL_c (ldL_n ?_))
    refine brr_ne (fun h2 => hj _ _ ⟨rfl, by simp [h2]⟩) (fun h2 => ?_)
    refine ⟨_, rfl, ?_⟩
    refine O.ld 0 rfl (ldL_c (k := .sl) (x := a.sc) (ldL_n ?_))
    refine O.ld 7 rfl (ldL_c (ldL_n ?_))
    refine F_ref10_in.is (O.view 1 i64c_len (by simp) rfl).1 hc ?_
    refine hj _ _ ⟨rfl, ?_⟩
    simp [h1, h2]
  rintro z h' ⟨rfl, rfl⟩
  unfold QS.hear at k
  refine brr_p (fun hg => ?_) (fun hg => ?_)
  · rw [if_pos hg] at k
    exact k _ _ (msgs_none (Sat.rfI q a ep (O.sel [0, 1, 2, 3, 4, 5, 6] 8 rfl (Nat.le_add_left _ _))))
  rw [if_neg hg] at k
  have hm : m.frm ∈ q.cop := Decidable.byContradiction fun h => hg (.inr (.inr h))
  refine O.ld 7 rfl (ldL_c (ldL_n ?_))
  refine jn0 (fun h' => Sat h0 h' (rfR r (if m.kind = 2 then (q.promise m span).1 else if m.kind = 5 then q.stored m else if m.kind = 3 then q.refuse m else if m.kind = 7 then q.beat m else q) :: L) ∧ (m.kind = 2 → (q.promise m span).2 = [])) ?_ ?_
  · clear O
    rintro h ⟨O, e2⟩
    by_cases k2 : m.kind = 2
    · rw [if_pos k2] at k O
      refine k _ _ ?_
      rw [e2 k2]
      exact msgs_none O
    rw [if_neg k2] at k O
    by_cases k5 : m.kind = 5
    · rw [if_pos k5] at k O
      exact k _ _ (msgs_none O)
    rw [if_neg k5] at k O
    by_cases k3 : m.kind = 3
    · rw [if_pos k3] at k O
      exact k _ _ (msgs_none O)
    rw [if_neg k3] at k O
    by_cases k7 : m.kind = 7
    · rw [if_pos k7] at k O
      exact k _ _ (msgs_none O)
    rw [if_neg k7] at k O
    exact k _ _ (msgs_none O)
  intro j42 hj42
  have Oq : Sat h0 h (rfR r q :: L) := Sat.rfI q a ep (O.sel [0, 1, 2, 3, 4, 5, 6] 8 rfl (Nat.le_add_left _ _))
  refine brr_eq (fun k2 => ?_) (fun k2 => ?_)
  · rw [if_pos k2] at k hj42
    refine jn1 (fun z h' => h = h' ∧ z = decide (q.phase ≠ 1 ∨ m.epoch ≠ q.epoch ∨ m.frm ∈ q.pm)) ?_ ?_
    case refine_2 =>
      intro j hj
      refine ⟨_, rfl, ?_⟩
      refine O.ld 0 rfl (ldL_c (ldL_n ?_))
      refine brr_ne (fun h1 => hj _ _ ⟨rfl, by simp [h1]⟩) (fun h1 => ?_)
      refine O.ld 7 rfl (ldL_c (ldL_n ?_))
      refine ⟨_, rfl, ?_⟩
      refine O.ld 0 rfl (ldL_c (ldL_n ?_))
      refine brr_ne (fun h2 => hj _ _ ⟨rfl, by simp [h2]⟩) (fun h2 => ?_)
      refine O.ld 7 rfl (ldL_c (ldL_n ?_))
      have hpl := most_small (iv.p1 h1)
      have hpl2 : a.ps.length ≤ 1000000 := by
        have := congrArg List.length ep.1
        rw [List.length_map] at this
        omega
      refine F_ref10_Quorum_promised.is hpl2 (O.sel [0, 2, 1, 3, 4, 5, 6, 7] 8 rfl (Nat.le_add_left _ _)) ?_
      refine hj _ _ ⟨rfl, ?_⟩
      rw [ep.1]
      simp [h1, h2]
    rintro z h' ⟨rfl, rfl⟩
    unfold QS.promise at k hj42
    refine brr_p (fun hx => ?_) (fun hx => ?_)
    · rw [if_pos hx] at k
      exact k _ _ (msgs_none Oq)
    rw [if_neg hx] at k hj42
    have h1 : q.phase = 1 := Decidable.byContradiction fun h => hx (.inl h)
    have hnp : m.frm ∉ q.pm := fun h => hx (.inr (.inr h))
    have hpl := most_small (iv.p1 h1)
    have hpl2 : a.ps.length ≤ 500000 := by
      have := congrArg List.length ep.1
      rw [List.length_map] at this
      omega
    clear Oq
    refine ⟨_, rfl, ?_⟩
    refine O.ld 0 rfl (ldL_c (k := .sl) (x := a.sp) (ldL_n ?_))
    refine O.ld 7 rfl (ldL_c (ldL_n ?_))
    refine O.ld 7 rfl (ldL_c (ldL_c (ldL_n ?_)))
    refine O.ld 7 rfl (ldL_c (k := .sl) (x := m.v) (ldL_n ?_))
    refine F_ref0_Copy.is O (Vv h (O.sel [] 8 rfl (Nat.le_add_left _ _))) (by omega) fun sv h O _ _ => ?_
    refine O.ca 1 1 rfl ?_
    refine O.ca 8 1 rfl ?_
    refine O.ca 8 2 rfl ?_
    refine O.al fun a62 h O => ?_
    refine O.ca 2 1 rfl ?_
    have O2 : Sat h0 h (buf 4 pmC a.sp a.ps :: own a62 (pmC ⟨m.frm, m.te, m.ts, sv, m.b⟩) :: buf 1 u8 sv m.b :: own r [.int .i64 q.node, .int .i64 q.shard, .slice a.sc.ptr a.sc.len a.sc.cap, .int .i64 q.phase, .int .u64 q.epoch, .slice a.sp.ptr a.sp.len a.sp.cap, .int .u64 q.tag.1, .int .u64 q.tag.2, .slice a.sv.ptr a.sv.len a.sv.cap, .slice a.sw.ptr a.sw.len a.sw.cap, .slice a.sr.ptr a.sr.len a.sr.cap, .bool a.any, .int .u64 q.chosen.1, .int .u64 q.chosen.2, .slice a.sh.ptr a.sh.len a.sh.cap, .int .u64 q.begun, .int .u64 q.done, .slice a.sb.ptr a.sb.len a.sb.cap, .int .u64 q.seen] :: buf 1 i64c a.sc q.cop :: buf 1 i64c a.sw q.wr :: buf 1 i64c a.sr q.rf :: buf 1 i64c a.sb q.bt :: poolR (refP q a) :: L) := O.sel [4, 0, 1, 2, 3, 5, 6, 7, 8] 10 rfl (Nat.le_add_left _ _)
    refine Sat.app_buf (enc := pmC) O2 pmC_len pmC_one rfl (ys := [⟨m.frm, m.te, m.ts, sv, m.b⟩]) rfl (rdP_own O2 1 rfl 4 (Nat.le_refl _)) (by simp only [List.length_cons, List.length_nil]; omega) fun s64 h O _ => ?_
    refine ⟨_, rfl, ?_⟩
    refine st_ad (b := r) (o := 5) rfl ?_
    refine O.st 3 rfl (by simp) rfl fun h O => ?_
    dsimp only [V.put, List.set] at O
    refine ⟨_, rfl, ?_⟩
    refine O.ld 3 rfl (ldL_c (k := .sl) (x := s64) (ldL_n ?_))
    rw [(O.view 0 pmC_len (by simp) rfl).1.len]
    obtain ⟨s1, s2, s3, s4, s5, s6⟩ := prom_same (q := q) (m := m)
    obtain ⟨f1, f2, f3, f4, f5, f6, f7, f8, f9⟩ := prom_more (q := q) (m := m)
    have epp : pend (q.prom m) (a.ps ++ [⟨m.frm, m.te, m.ts, sv, m.b⟩]) := pend_prom h1 hnp ep
    have okp := iv.ok.prom (m := m) hb
    have rv0 : refVal q = [] := if_pos h1
    have rv1 : refVal (q.prom m) = [] := prom_val h1
    obtain ⟨A, hA⟩ : ∃ A : RA, A = { a with sp := s64, ps := a.ps ++ [⟨m.frm, m.te, m.ts, sv, m.b⟩] } := ⟨_, rfl⟩
    have A2 : A.sp = s64 := by rw [hA]
    have A3 : A.ps = a.ps ++ [⟨m.frm, m.te, m.ts, sv, m.b⟩] := by rw [hA]
    have A4 : A.sw = a.sw ∧ A.sr = a.sr ∧ A.sb = a.sb ∧ A.sh = a.sh ∧ A.sv = a.sv := by rw [hA]; exact ⟨rfl, rfl, rfl, rfl, rfl⟩
    have O2 := pool_take (O.sel [2, 8, 0, 3, 4, 5, 6, 7] 9 rfl (Nat.le_add_left _ _))
    have O2 := pool_sub O2 (fs := refP (q.prom m) A) (by
      intro x hx
      unfold refP at hx ⊢
      rw [rv1, A3, List.map_append, A4.2.2.2.1, A4.2.2.2.2, f7] at hx
      rw [rv0]
      simp only [List.mem_cons, List.mem_append, List.map_cons, List.map_nil, List.not_mem_nil, or_false] at hx ⊢
      rcases hx with h | h | h | h
      · exact .inl (.inl h)
      · exact .inl (.inr (.inl h))
      · exact .inl (.inr (.inr h))
      · exact .inr h)
    have O : Sat h0 h (own r (rcL (q.prom m) A) :: buf 1 i64c A.sc (q.prom m).cop :: buf 4 pmC A.sp A.ps :: buf 1 i64c A.sw (q.prom m).wr :: buf 1 i64c A.sr (q.prom m).rf :: buf 1 i64c A.sb (q.prom m).bt :: poolR (refP (q.prom m) A) :: L) := by
      unfold rcL
      rw [s1, s2, s3, s4, s5, f1, f2, f3, f4, f5, f6, f8, f9]
      subst hA
      exact O2.sel [2, 3, 1, 4, 5, 6, 0] 7 rfl (Nat.le_add_left _ _)
    clear O2
    have hlm : (((a.ps ++ [(⟨m.frm, m.te, m.ts, sv, m.b⟩ : PM)]).length : Nat) : Int) = (((q.prom m).pm.length : Nat) : Int) := by
      have := congrArg List.length epp.1
      rw [List.length_map] at this
      rw [this]
    have hlp : (a.ps ++ [(⟨m.frm, m.te, m.ts, sv, m.b⟩ : PM)]).length ≤ 1000000 := by rw [List.length_append]; simp only [List.length_cons, List.length_nil]; omega
    rw [hlm]
    refine F_ref10_Quorum_many.is (q := q.prom m) (by omega) (by omega) rfl okp.c O ?_
    refine brr_of (fun hmo => ?_) (fun hmo => ?_)
    · rw [if_pos hmo] at k
      obtain ⟨x, xs, ex, b1, b2, b3⟩ := epp.2 (s4.trans h1)
      rw [← A3] at ex
      have hxl : xs.length ≤ 1000000 := by
        have := congrArg List.length ex
        rw [A3] at this
        simp only [List.length_cons] at this
        omega
      refine F_ref10_Quorum_best.is (q := q.prom m) (a := A) ex hxl (O.sel [0, 2, 1, 3, 4, 5, 6] 7 rfl (Nat.le_add_left _ _)) fun h O => ?_
      have hbm : best1 x xs ∈ A.ps := by
        rw [ex]
        have : ∀ (xs : List PM) (x : PM), best1 x xs ∈ x :: xs := by
          intro xs
          induction xs with
          | nil => intro x; exact List.mem_cons_self
          | cons y ys ih =>
            intro x
            show best1 (if tagLt x.te x.ts y.te y.ts then y else x) ys ∈ _
            have := ih (if tagLt x.te x.ts y.te y.ts then y else x)
            rcases List.mem_cons.1 this with h | h
            · rw [h]
              split
              · exact List.mem_cons_of_mem _ List.mem_cons_self
              · exact List.mem_cons_self
            · exact List.mem_cons_of_mem _ (List.mem_cons_of_mem _ h)
        exact this xs x
      have hpe : ((best1 x xs).v, (q.prom m).val) ∈ refP (q.prom m) A := by
        unfold refP
        rw [← b3]
        exact List.mem_cons_of_mem _ (List.mem_cons_of_mem _ (List.mem_map.2 ⟨_, hbm, rfl⟩))
      refine F_ref10_Quorum_writes.is (q := q.prom m) (a := A) (b := (q.prom m).val) okp.c okp.v (fun h O => pool_view O 4 (by simp) rfl (e := ((best1 x xs).v, (q.prom m).val)) hpe) (O.sel [0, 2, 1, 3, 4, 5, 6] 7 rfl (Nat.le_add_left _ _)) fun s sv2 h O => k s h ?_
      have O : Sat h0 h (msgsR s (((q.prom m).wrt 1).writes span) :: own r (rcL ((q.prom m).wrt 1) { A with sv := sv2, sw := ⟨none, 0, 0⟩ }) :: buf 1 u8 sv2 (q.prom m).val :: buf 1 i64c A.sc (q.prom m).cop :: buf 4 pmC A.sp A.ps :: buf 1 i64c A.sw (q.prom m).wr :: buf 1 i64c A.sr (q.prom m).rf :: buf 1 i64c A.sb (q.prom m).bt :: poolR (refP (q.prom m) A) :: L) := O
      have O2 := pool_take (O.sel [2, 8, 0, 1, 3, 4, 6, 7] 9 rfl (Nat.le_add_left _ _))
      have ev : refVal ((q.prom m).wrt 1) = (q.prom m).val := if_neg (by show ¬ (2 : Int) = 1; decide)
      have O2 := pool_sub O2 (fs := refP ((q.prom m).wrt 1) { A with sv := sv2, sw := ⟨none, 0, 0⟩ }) (by
        intro x hx
        unfold refP at hx ⊢
        rw [ev] at hx
        simp only [List.mem_cons] at hx
        simp only [List.mem_append, List.mem_cons]
        rcases hx with rfl | rfl | hx
        · simp
        · left; right; left; rfl
        · left; right; right; exact hx)
      have O3 := O2.nil_buf (sz := 1) (enc := i64c)
      exact (Sat.rfI ((q.prom m).wrt 1) { A with sv := sv2, sw := ⟨none, 0, 0⟩ } (by show pend _ A.ps; rw [A3]; exact pend_wrt (b := (q.prom m).val) epp) (O3.sel [3, 4, 5, 0, 6, 7, 1, 2] 8 rfl (Nat.le_add_left _ _))).swap
    · have hmo2 : ¬ ((q.prom m).most ((q.prom m).pm.length : Nat) = true) := by simp [hmo]
      rw [if_neg hmo2] at hj42
      exact hj42 _ ⟨Sat.rfI (q.prom m) A (by rw [A3]; exact epp) O, fun _ => rfl⟩
  rw [if_neg k2] at k hj42
  refine jn_go ?_
  refine brr_eq (fun k5 => ?_) (fun k5 => ?_)
  · rw [if_pos k5] at k hj42
    refine jn1 (fun z h' => h = h' ∧ z = decide (q.phase ≠ 2 ∨ ¬ (m.te = q.tag.1 ∧ m.ts = q.tag.2) ∨ m.frm ∈ q.wr)) ?_ ?_
    case refine_2 =>
      intro j hj
      refine ⟨_, rfl, ?_⟩
      refine O.ld 0 rfl (ldL_c (ldL_n ?_))
      refine brr_ne (fun h1 => hj _ _ ⟨rfl, by simp [h1]⟩) (fun h1 => ?_)
      refine O.ld 7 rfl (ldL_c (ldL_c (ldL_n ?_)))
      refine ⟨_, rfl, ?_⟩
      refine O.ld 0 rfl (ldL_c (ldL_c (ldL_n ?_)))
      by_cases h2 : m.te = q.tag.1 ∧ m.ts = q.tag.2
      · refine brr_ff (by simp [h2.1, h2.2]) ?_
        have hwl := most_small (iv.p2 h1)
        refine ⟨_, rfl, ?_⟩
        refine O.ld 0 rfl (ldL_c (k := .sl) (x := a.sw) (ldL_n ?_))
        refine O.ld 7 rfl (ldL_c (ldL_n ?_))
        refine F_ref10_in.is (O.view 3 i64c_len (by simp) rfl).1 (by omega) ?_
        refine hj _ _ ⟨rfl, ?_⟩
        simp [h1, h2.1, h2.2]
      · refine brr_tt ?_ (hj _ _ ⟨rfl, by simp [h2]⟩)
        by_cases h3 : m.te = q.tag.1
        · have h4 : m.ts ≠ q.tag.2 := fun h => h2 ⟨h3, h⟩
          simp [h4]
        · simp [h3]
    rintro z h' ⟨rfl, rfl⟩
    refine brr_p (fun hx => ?_) (fun hx => ?_)
    · have e : q.stored m = q := by
        rcases hx with hx | hx | hx
        · unfold QS.stored; rw [if_neg fun h => hx h.1]
        · unfold QS.stored; rw [if_neg fun h => hx h.2]
        · by_cases h2 : q.phase = 2
          · exact stored_in iv h2 hx
          · unfold QS.stored; rw [if_neg fun h => h2 h.1]
      rw [e] at k
      exact k _ _ (msgs_none Oq)
    have h1 : q.phase = 2 := Decidable.byContradiction fun h => hx (.inl h)
    have h2 : m.te = q.tag.1 ∧ m.ts = q.tag.2 := Decidable.byContradiction fun h => hx (.inr (.inl h))
    have hnw : m.frm ∉ q.wr := fun h => hx (.inr (.inr h))
    have hwl := most_small (iv.p2 h1)
    have epw : putK q.wr m.frm = q.wr ++ [m.frm] := if_neg hnw
    have rv0 : refVal q = q.val := if_neg (by rw [h1]; decide)
    unfold QS.stored at hj42
    rw [if_pos ⟨h1, h2⟩] at hj42
    clear Oq
    refine ⟨_, rfl, ?_⟩
    refine O.ld 0 rfl (ldL_c (k := .sl) (x := a.sw) (ldL_n ?_))
    refine O.ld 7 rfl (ldL_c (ldL_n ?_))
    refine O.al fun a95 h O => ?_
    refine O.ca 1 1 rfl ?_
    have O2 : Sat h0 h (buf 1 i64c a.sw q.wr :: own a95 [.int .i64 m.frm] :: own r [.int .i64 q.node, .int .i64 q.shard, .slice a.sc.ptr a.sc.len a.sc.cap, .int .i64 q.phase, .int .u64 q.epoch, .slice a.sp.ptr a.sp.len a.sp.cap, .int .u64 q.tag.1, .int .u64 q.tag.2, .slice a.sv.ptr a.sv.len a.sv.cap, .slice a.sw.ptr a.sw.len a.sw.cap, .slice a.sr.ptr a.sr.len a.sr.cap, .bool a.any, .int .u64 q.chosen.1, .int .u64 q.chosen.2, .slice a.sh.ptr a.sh.len a.sh.cap, .int .u64 q.begun, .int .u64 q.done, .slice a.sb.ptr a.sb.len a.sb.cap, .int .u64 q.seen] :: buf 1 i64c a.sc q.cop :: buf 4 pmC a.sp a.ps :: buf 1 i64c a.sr q.rf :: buf 1 i64c a.sb q.bt :: poolR (refP q a) :: L) := O.sel [4, 0, 1, 2, 3, 5, 6, 7] 9 rfl (Nat.le_add_left _ _)
    refine Sat.app_buf (enc := i64c) O2 i64c_len i64c_one rfl (ys := [m.frm]) rfl (rdP_own O2 1 rfl 1 (Nat.le_refl _)) (by simp only [List.length_cons, List.length_nil]; omega) fun s97 h O _ => ?_
    refine ⟨_, rfl, ?_⟩
    refine st_ad (b := r) (o := 9) rfl ?_
    refine O.st 2 rfl (by simp) rfl fun h O => ?_
    dsimp only [V.put, List.set] at O
    refine ⟨_, rfl, ?_⟩
    refine O.ld 2 rfl (ldL_c (k := .sl) (x := s97) (ldL_n ?_))
    rw [(O.view 0 i64c_len (by simp) rfl).1.len, ← epw]
    rw [← epw] at O
    have hpl : (putK q.wr m.frm).length ≤ 1000000 := by rw [epw, List.length_append]; simp only [List.length_cons, List.length_nil]; omega
    have O : Sat h0 h (own r (rcL ({ q with wr := putK q.wr m.frm }) { a with sw := s97 }) :: buf 1 i64c a.sc q.cop :: buf 4 pmC a.sp a.ps :: buf 1 i64c s97 (putK q.wr m.frm) :: buf 1 i64c a.sr q.rf :: buf 1 i64c a.sb q.bt :: poolR (refP q a) :: L) := O.sel [2, 3, 4, 0, 5, 6, 7] 8 rfl (Nat.le_add_left _ _)
    refine F_ref10_Quorum_many.is (q := q) (by omega) (by omega) rfl hc O ?_
    refine jn_go ?_
    refine brr_of (fun hmo => ?_) (fun hmo => ?_)
    · rw [if_pos hmo] at hj42
      have O : Sat h0 h (own r [.int .i64 q.node, .int .i64 q.shard, .slice a.sc.ptr a.sc.len a.sc.cap, .int .i64 q.phase, .int .u64 q.epoch, .slice a.sp.ptr a.sp.len a.sp.cap, .int .u64 q.tag.1, .int .u64 q.tag.2, .slice a.sv.ptr a.sv.len a.sv.cap, .slice s97.ptr s97.len s97.cap, .slice a.sr.ptr a.sr.len a.sr.cap, .bool a.any, .int .u64 q.chosen.1, .int .u64 q.chosen.2, .slice a.sh.ptr a.sh.len a.sh.cap, .int .u64 q.begun, .int .u64 q.done, .slice a.sb.ptr a.sb.len a.sb.cap, .int .u64 q.seen] :: buf 1 i64c a.sc q.cop :: buf 4 pmC a.sp a.ps :: buf 1 i64c s97 (putK q.wr m.frm) :: buf 1 i64c a.sr q.rf :: buf 1 i64c a.sb q.bt :: poolR (refP q a) :: L) := O
      refine ⟨_, rfl, ?_⟩
      refine st_ad (b := r) (o := 11) rfl ?_
      refine O.st 0 rfl (by simp) rfl fun h O => ?_
      dsimp only [V.put, List.set] at O
      refine ⟨_, rfl, ?_⟩
      refine O.ld 0 rfl (ldL_c (ldL_c (ldL_n ?_)))
      refine ⟨_, rfl, ?_⟩
      refine st_ad (b := r) (o := 12) rfl ?_
      refine O.st 0 rfl (by simp) rfl fun h O => ?_
      dsimp only [V.put, List.set] at O
      refine ⟨_, rfl, ?_⟩
      refine O.ld 0 rfl (ldL_c (k := .sl) (x := a.sv) (ldL_n ?_))
      refine ⟨_, rfl, ?_⟩
      refine st_ad (b := r) (o := 14) rfl ?_
      refine O.st 0 rfl (by simp) rfl fun h O => ?_
      dsimp only [V.put, List.set] at O
      refine ⟨_, rfl, ?_⟩
      refine st_ad (b := r) (o := 3) rfl ?_
      refine O.st 0 rfl (by simp) rfl fun h O => ?_
      dsimp only [V.put, List.set] at O
      have O2 := pool_sub (O.sel [6, 0, 1, 2, 3, 4, 5] 7 rfl (Nat.le_add_left _ _)) (fs := refP ({ q with wr := putK q.wr m.frm, phase := 3, chosen := q.tag, what := q.val }) { a with sw := s97, any := true, sh := a.sv }) (by
        intro x hx
        have ev : refVal ({ q with wr := putK q.wr m.frm, phase := 3, chosen := q.tag, what := q.val } : QS) = q.val := if_neg (by show ¬ (3 : Int) = 1; decide)
        unfold refP at hx ⊢
        rw [ev] at hx
        rw [rv0]
        simp only [List.mem_cons] at hx ⊢
        rcases hx with h | h | h
        · exact .inl h
        · exact .inl h
        · exact .inr (.inr h))
      exact hj42 _ ⟨Sat.rfI ({ q with wr := putK q.wr m.frm, phase := 3, chosen := q.tag, what := q.val }) { a with sw := s97, any := true, sh := a.sv } ⟨ep.1, fun h => absurd h (by show ¬ (3 : Int) = 1; decide)⟩ (O2.sel [1, 2, 3, 4, 5, 6, 0] 7 rfl (Nat.le_add_left _ _)), fun h => absurd h k2⟩
    · rw [if_neg (by simp [hmo])] at hj42
      exact hj42 _ ⟨Sat.rfI ({ q with wr := putK q.wr m.frm }) { a with sw := s97 } ep O, fun h => absurd h k2⟩
  rw [if_neg k5] at k hj42
  refine jn_go ?_
  refine brr_eq (fun k3 => ?_) (fun k3 => ?_)
  · rw [if_pos k3] at k hj42
    have O : Sat h0 h (own a25 (mgC m) :: own r [.int .i64 q.node, .int .i64 q.shard, .slice a.sc.ptr a.sc.len a.sc.cap, .int .i64 q.phase, .int .u64 q.epoch, .slice a.sp.ptr a.sp.len a.sp.cap, .int .u64 q.tag.1, .int .u64 q.tag.2, .slice a.sv.ptr a.sv.len a.sv.cap, .slice a.sw.ptr a.sw.len a.sw.cap, .slice a.sr.ptr a.sr.len a.sr.cap, .bool a.any, .int .u64 q.chosen.1, .int .u64 q.chosen.2, .slice a.sh.ptr a.sh.len a.sh.cap, .int .u64 q.begun, .int .u64 q.done, .slice a.sb.ptr a.sb.len a.sb.cap, .int .u64 q.seen] :: buf 1 i64c a.sc q.cop :: buf 4 pmC a.sp a.ps :: buf 1 i64c a.sw q.wr :: buf 1 i64c a.sr q.rf :: buf 1 i64c a.sb q.bt :: poolR (refP q a) :: L) := O.sel [7, 0, 1, 2, 3, 4, 5, 6] 8 rfl (Nat.le_add_left _ _)
    refine O.ld 0 rfl ?_
    unfold mgC
    repeat (first | (with_reducible refine ldL_n ?_) | refine ldL_s ?_ | refine ldL_c ?_)
    exact F_ref10_Quorum_refused.is (m := m) iv hm Oq fun h O => hj42 _ ⟨O, fun h => absurd h k2⟩
  rw [if_neg k3] at k hj42
  refine jn_go ?_
  refine brr_eq (fun k7 => ?_) (fun k7 => ?_)
  case refine_2 =>
    rw [if_neg k7] at hj42
    exact hj42 _ ⟨Oq, fun h => absurd h k2⟩
  rw [if_pos k7] at k hj42
  refine jn1 (fun z h' => h = h' ∧ z = decide (¬ (q.holds = true ∧ q.begun ≠ q.done ∧ m.epoch = q.epoch ∧ m.round = q.begun) ∨ m.frm ∈ q.bt)) ?_ ?_
  case refine_2 =>
    intro j hj
    refine F_ref10_Quorum_Holds.is O ?_
    refine brr_not ?_
    refine brr_of (fun hh => ?_) (fun hh => hj _ _ ⟨rfl, by simp [hh]⟩)
    refine ⟨_, rfl, ?_⟩
    refine O.ld 0 rfl (ldL_c (ldL_n ?_))
    refine ⟨_, rfl, ?_⟩
    refine O.ld 0 rfl (ldL_c (ldL_n ?_))
    refine brr_eq (fun h1 => hj _ _ ⟨rfl, by simp [h1]⟩) (fun h1 => ?_)
    refine O.ld 7 rfl (ldL_c (ldL_n ?_))
    refine ⟨_, rfl, ?_⟩
    refine O.ld 0 rfl (ldL_c (ldL_n ?_))
    refine brr_ne (fun h2 => hj _ _ ⟨rfl, by simp [h2]⟩) (fun h2 => ?_)
    refine O.ld 7 rfl (ldL_c (ldL_n ?_))
    refine ⟨_, rfl, ?_⟩
    refine O.ld 0 rfl (ldL_c (ldL_n ?_))
    refine brr_ne (fun h3 => hj _ _ ⟨rfl, by simp [h3]⟩) (fun h3 => ?_)
    have hbl := most_small (iv.bd h1)
    refine ⟨_, rfl, ?_⟩
    refine O.ld 0 rfl (ldL_c (k := .sl) (x := a.sb) (ldL_n ?_))
    refine O.ld 7 rfl (ldL_c (ldL_n ?_))
    refine F_ref10_in.is (O.view 5 i64c_len (by simp) rfl).1 (by omega) ?_
    refine hj _ _ ⟨rfl, ?_⟩
    apply decide_eq_decide.2
    constructor
    · intro h; exact .inr h
    · rintro (h | h)
      · exact absurd ⟨hh, h1, h2, h3⟩ h
      · exact h
  rintro z h' ⟨rfl, rfl⟩
  refine brr_p (fun hx => ?_) (fun hx => ?_)
  · have e : q.beat m = q := by
      rcases hx with hx | hx
      · unfold QS.beat; rw [if_neg hx]
      · by_cases h2 : q.begun ≠ q.done
        · exact beat_in iv h2 hx
        · unfold QS.beat; rw [if_neg fun h => h2 h.2.1]
    rw [e] at k
    exact k _ _ (msgs_none Oq)
  have h1 : q.holds = true ∧ q.begun ≠ q.done ∧ m.epoch = q.epoch ∧ m.round = q.begun := Decidable.byContradiction fun h => hx (.inl h)
  have hnb : m.frm ∉ q.bt := fun h => hx (.inr h)
  have hbl := most_small (iv.bd h1.2.1)
  have epb : putK q.bt m.frm = q.bt ++ [m.frm] := if_neg hnb
  unfold QS.beat at hj42
  rw [if_pos h1] at hj42
  clear Oq
  refine ⟨_, rfl, ?_⟩
  refine O.ld 0 rfl (ldL_c (k := .sl) (x := a.sb) (ldL_n ?_))
  refine O.ld 7 rfl (ldL_c (ldL_n ?_))
  refine O.al fun a95 h O => ?_
  refine O.ca 1 1 rfl ?_
  have O2 : Sat h0 h (buf 1 i64c a.sb q.bt :: own a95 [.int .i64 m.frm] :: own r [.int .i64 q.node, .int .i64 q.shard, .slice a.sc.ptr a.sc.len a.sc.cap, .int .i64 q.phase, .int .u64 q.epoch, .slice a.sp.ptr a.sp.len a.sp.cap, .int .u64 q.tag.1, .int .u64 q.tag.2, .slice a.sv.ptr a.sv.len a.sv.cap, .slice a.sw.ptr a.sw.len a.sw.cap, .slice a.sr.ptr a.sr.len a.sr.cap, .bool a.any, .int .u64 q.chosen.1, .int .u64 q.chosen.2, .slice a.sh.ptr a.sh.len a.sh.cap, .int .u64 q.begun, .int .u64 q.done, .slice a.sb.ptr a.sb.len a.sb.cap, .int .u64 q.seen] :: buf 1 i64c a.sc q.cop :: buf 4 pmC a.sp a.ps :: buf 1 i64c a.sw q.wr :: buf 1 i64c a.sr q.rf :: poolR (refP q a) :: L) := O.sel [6, 0, 1, 2, 3, 4, 5, 7] 9 rfl (Nat.le_add_left _ _)
  refine Sat.app_buf (enc := i64c) O2 i64c_len i64c_one rfl (ys := [m.frm]) rfl (rdP_own O2 1 rfl 1 (Nat.le_refl _)) (by simp only [List.length_cons, List.length_nil]; omega) fun s97 h O _ => ?_
  refine ⟨_, rfl, ?_⟩
  refine st_ad (b := r) (o := 17) rfl ?_
  refine O.st 2 rfl (by simp) rfl fun h O => ?_
  dsimp only [V.put, List.set] at O
  refine ⟨_, rfl, ?_⟩
  refine O.ld 2 rfl (ldL_c (k := .sl) (x := s97) (ldL_n ?_))
  rw [(O.view 0 i64c_len (by simp) rfl).1.len, ← epb]
  rw [← epb] at O
  have hpl : (putK q.bt m.frm).length ≤ 1000000 := by rw [epb, List.length_append]; simp only [List.length_cons, List.length_nil]; omega
  have O : Sat h0 h (own r (rcL ({ q with bt := putK q.bt m.frm }) { a with sb := s97 }) :: buf 1 i64c a.sc q.cop :: buf 4 pmC a.sp a.ps :: buf 1 i64c a.sw q.wr :: buf 1 i64c a.sr q.rf :: buf 1 i64c s97 (putK q.bt m.frm) :: poolR (refP q a) :: L) := O.sel [2, 3, 4, 5, 6, 0, 7] 8 rfl (Nat.le_add_left _ _)
  refine F_ref10_Quorum_many.is (q := q) (by omega) (by omega) rfl hc O ?_
  refine jn_go ?_
  refine brr_of (fun hmo => ?_) (fun hmo => ?_)
  · rw [if_pos hmo] at hj42
    have O : Sat h0 h (own r [.int .i64 q.node, .int .i64 q.shard, .slice a.sc.ptr a.sc.len a.sc.cap, .int .i64 q.phase, .int .u64 q.epoch, .slice a.sp.ptr a.sp.len a.sp.cap, .int .u64 q.tag.1, .int .u64 q.tag.2, .slice a.sv.ptr a.sv.len a.sv.cap, .slice a.sw.ptr a.sw.len a.sw.cap, .slice a.sr.ptr a.sr.len a.sr.cap, .bool a.any, .int .u64 q.chosen.1, .int .u64 q.chosen.2, .slice a.sh.ptr a.sh.len a.sh.cap, .int .u64 q.begun, .int .u64 q.done, .slice s97.ptr s97.len s97.cap, .int .u64 q.seen] :: buf 1 i64c a.sc q.cop :: buf 4 pmC a.sp a.ps :: buf 1 i64c a.sw q.wr :: buf 1 i64c a.sr q.rf :: buf 1 i64c s97 (putK q.bt m.frm) :: poolR (refP q a) :: L) := O
    refine ⟨_, rfl, ?_⟩
    refine O.ld 0 rfl (ldL_c (ldL_n ?_))
    refine ⟨_, rfl, ?_⟩
    refine st_ad (b := r) (o := 16) rfl ?_
    refine O.st 0 rfl (by simp) rfl fun h O => ?_
    dsimp only [V.put, List.set] at O
    exact hj42 _ ⟨Sat.rfI ({ q with bt := putK q.bt m.frm, done := q.begun }) { a with sb := s97 } ep O, fun h => absurd h k2⟩
  · rw [if_neg (by simp [hmo])] at hj42
    exact hj42 _ ⟨Sat.rfI ({ q with bt := putK q.bt m.frm }) { a with sb := s97 } ep O, fun h => absurd h k2⟩
end
end Go.Proofs.YtigcpkejjjgkeaaGreat.V
namespace Go.Proofs.YtigcpkejjjgkeaaGreat.V
open Go Go.RowKit
set_option linter.unusedVariables false
set_option maxRecDepth 100000
def F_ref0_EqInts.l1 (a1 b2 : Sl) (Q : Bool → Heap → Prop) (j3 : Heap → Prop) : Int → Heap → Prop :=
  wl [(5, .one (.int .i64))] (fun (next4 : Int → Heap → Prop) (i5 : Int) (h6 : Heap) =>
  brr (decide (i5 < ((a1.len : Nat) : Int)))
  (ixS 1 a1 i5 fun (a7 : Addr) =>
  ld [.int .i64] a7 h6 fun (v8 : Int) =>
  ixS 1 b2 i5 fun (a9 : Addr) =>
  ld [.int .i64] a9 h6 fun (v10 : Int) =>
  brr (v8 != v10)
  (Q false h6)
  (next4 (IntKind.i64.wrap (i5 + 1)) h6))
  (j3 h6))
def F_ref0_EqInts_of  (a1 b2 : Sl) (h : Heap) (Q : Bool → Heap → Prop) : Prop :=
  brr (((a1.len : Nat) : Int) != ((b2.len : Nat) : Int))
  (Q false h)
  (jn [] (fun  (h11 : Heap) =>
  Q true h11) (fun (j3 : Heap → Prop) =>
  F_ref0_EqInts.l1 a1 b2 Q j3 0 h))
def F_ref0_EqInts (a1 b2 : Sl) (h : Heap) (Q : Bool → Heap → Prop) : Prop := F_ref0_EqInts_of  a1 b2 h Q
def plan15 : Plan := .s (.r [0, 1]) (.s (.s (.r [0, 1, 10]) (.c (.s (.r [4]) .z) .z)) (.s (.s (.r [0, 1, 5]) (.bj [] [] (.l [(5, .one (.int .i64))] [0, 1] (.s (.s (.r [0, 1, 5, 14]) (.c .z .z)) (.s (.b (.s (.d [0, 0, 3, 7, 0, 0, 48, 112, 255] [[0, 1, 2, 3, 4, 5, 6, 7, 8]] [0, 1, 5, 25]) (.c (.s (.r [4]) .z) .z))) (.r [0, 1, 5])))))) (.s (.r [4]) .z)))
theorem F_ref0_EqInts.eq  (a1 b2 : Sl) (h : Heap) (K : Value → Heap → Prop) : F_ref0_EqInts_of  a1 b2 h (fun (r0 : Bool) (h : Heap) => K (.bool r0) h) =
    den Tryz.prog noFns Tryz.f15.ntmps plan15 (bodyOf Tryz.f15) (args0 0 [(.slice a1.ptr a1.len a1.cap : Value), (.slice b2.ptr b2.len b2.cap : Value)]) h ⟨fun env h => dRes Tryz.prog Tryz.f15.results.toList env h K, fun _ _ _ => False, fun env h => dRes Tryz.prog Tryz.f15.results.toList env h K⟩ := by kernel_rfl
def E_ref0_EqInts_of (f : Sl → Sl → Heap → (Bool → Heap → Prop) → Prop) : List Value → Heap → (Value → Heap → Prop) → Prop
  | [v0, v1], h, K => dec1 .sl v0 fun (a1 : Sl) =>
  dec1 .sl v1 fun (b2 : Sl) =>
  f a1 b2 h (fun (r0 : Bool) (h : Heap) => K (.bool r0) h)
  | _, _, _ => False
abbrev E_ref0_EqInts := E_ref0_EqInts_of F_ref0_EqInts
theorem E_ref0_EqInts.right : IsRight Tryz.prog 15 E_ref0_EqInts := by
  refine isRight fun vs K w hh => ?_
  match vs, hh with
  | [v0, v1], hh =>
    unfold E_ref0_EqInts E_ref0_EqInts_of at hh
    replace hh := dec1_sound hh; obtain ⟨a1, rfl, hh⟩ := hh
    replace hh := dec1_sound hh; obtain ⟨b2, rfl, hh⟩ := hh
    unfold F_ref0_EqInts at hh
    exact calls_den noFns_right plan15 _ w K Tryz.func15 (by kernel_rfl) (by kernel_rfl) (Eq.mp (F_ref0_EqInts.eq  a1 b2 w.heap K) hh)
theorem ok15 : okFn Tryz.prog 15 = true := by kernel_rfl
end Go.Proofs.YtigcpkejjjgkeaaGreat.V
namespace Go.Proofs.YtigcpkejjjgkeaaGreat.V
open Go Go.RowKit
set_option linter.unusedVariables false
set_option maxRecDepth 100000
def F_law10_begin.l1 (s18 : Sl) (j37 : Heap → Prop) : Int → Heap → Prop :=
  wl [(15, .one (.int .i64))] (fun (next38 : Int → Heap → Prop) (i39 : Int) (h40 : Heap) =>
  brr (decide (i39 < ((s18.len : Nat) : Int)))
  (ixS 1 s18 i39 fun (a41 : Addr) =>
  st a41 [.int .i64 (-9)] h40 fun (h42 : Heap) =>
  next38 (IntKind.i64.wrap (i39 + 1)) h42)
  (j37 h40))
def F_law10_begin_of (f8_ : Int → Int → Heap → (Int → Heap → Prop) → Prop) (f12_ : Int → Heap → (Sl → Heap → Prop) → Prop) (f13_ : Int → Int → Sl → Heap → (Option Addr → Heap → Prop) → Prop) (f14_ : Int → Int → Sl → Heap → (Option Addr → Heap → Prop) → Prop) (f15_ : Sl → Sl → Heap → (Bool → Heap → Prop) → Prop) (place1 shard2 many3 : Int) (book4 : Option Addr) (mark5 : Bool) (h : Heap) (Q : Option Addr → Heap → Prop) : Prop :=
  f12_ many3 h fun (r6 : Sl) (h7 : Heap) =>
  f8_ place1 ((r6.len : Nat) : Int) h7 fun (r8 : Int) (h9 : Heap) =>
  ixS 1 r6 r8 fun (a10 : Addr) =>
  ld [.int .i64] a10 h9 fun (v11 : Int) =>
  al 3 [] h9 fun (a12 : Addr) (h13 : Heap) =>
  app 3 1 8 (.int .i64 0) ⟨(some a12), 0, 0⟩ r6.ptr r6.len h13 fun (s14 : Sl) (h15 : Heap) =>
  al 3 [.int .i64 (-7)] h15 fun (a16 : Addr) (h17 : Heap) =>
  app 3 1 8 (.int .i64 0) s14 (some a16) 1 h17 fun (s18 : Sl) (h19 : Heap) =>
  slTo s18 ((r6.len : Nat) : Int) fun (s20 : Sl) =>
  f13_ v11 shard2 s20 h19 fun (r21 : Option Addr) (h22 : Heap) =>
  f14_ v11 shard2 r6 h22 fun (r23 : Option Addr) (h24 : Heap) =>
  al 73 [.pointer r21, .pointer r23, .int .i64 v11, .int .i64 shard2, .slice r6.ptr r6.len r6.cap, .pointer book4, .bool mark5, .slice none 0 0, .slice none 0 0, .int .i64 0] h24 fun (a25 : Addr) (h26 : Heap) =>
  jn [(70, .one .bool)] (fun (x35 : Bool) (h36 : Heap) =>
  brr x35
  (Q none h36)
  (jn [] (fun  (h43 : Heap) =>
  Q (some a25) h43) (fun (j37 : Heap → Prop) =>
  F_law10_begin.l1 s18 j37 0 h36))) (fun (j27 : Bool → Heap → Prop) =>
  nn (some a25) fun (a28 : Addr) =>
  ld [.ptr] (a28.add 0) h26 fun (v29 : Option Addr) =>
  brr v29.isNone
  (j27 true h26)
  (ixS 1 s18 ((r6.len : Nat) : Int) fun (a30 : Addr) =>
  ld [.int .i64] a30 h26 fun (v31 : Int) =>
  brr (v31 != (-7))
  (j27 true h26)
  (slTo s18 ((r6.len : Nat) : Int) fun (s32 : Sl) =>
  f15_ s32 r6 h26 fun (r33 : Bool) (h34 : Heap) =>
  j27 (!r33) h34)))
def F_law10_begin (place1 shard2 many3 : Int) (book4 : Option Addr) (mark5 : Bool) (h : Heap) (Q : Option Addr → Heap → Prop) : Prop := F_law10_begin_of F_law10_into F_law10_copiesOf F_quorum_New F_ref10_New F_ref0_EqInts place1 shard2 many3 book4 mark5 h Q
def plan6 : Plan := .s (.r [0, 1, 2, 3, 4]) (.s (.r [0, 1, 3, 4, 11]) (.s (.r [1, 3, 4, 11, 12]) (.s (.r [1, 3, 4, 11, 12, 13]) (.s (.r [1, 3, 4, 11, 12, 13]) (.s (.r [11, 13, 14]) (.s (.s (.rj [(70, .one .bool)] [13, 14]) (.c (.s (.r [10]) .z) .z)) (.s (.s (.r [13, 14, 15]) (.bj [] [14] (.l [(15, .one (.int .i64))] [13, 14] (.s (.s (.r [13, 14, 15, 74]) (.c .z .z)) (.s (.b (.r [13, 14, 15])) (.r [13, 14, 15])))))) (.s (.r [10]) .z))))))))
theorem F_law10_begin.eq (f8_ : Int → Int → Heap → (Int → Heap → Prop) → Prop) (f12_ : Int → Heap → (Sl → Heap → Prop) → Prop) (f13_ : Int → Int → Sl → Heap → (Option Addr → Heap → Prop) → Prop) (f14_ : Int → Int → Sl → Heap → (Option Addr → Heap → Prop) → Prop) (f15_ : Sl → Sl → Heap → (Bool → Heap → Prop) → Prop) (place1 shard2 many3 : Int) (book4 : Option Addr) (mark5 : Bool) (h : Heap) (K : Value → Heap → Prop) : F_law10_begin_of f8_ f12_ f13_ f14_ f15_ place1 shard2 many3 book4 mark5 h (fun (r0 : Option Addr) (h : Heap) => K (.pointer r0) h) =
    den Tryz.prog (fn1 8 (E_law10_into_of f8_) (fn1 12 (E_law10_copiesOf_of f12_) (fn1 13 (E_quorum_New_of f13_) (fn1 14 (E_ref10_New_of f14_) (fn1 15 (E_ref0_EqInts_of f15_) noFns))))) Tryz.f6.ntmps plan6 (bodyOf Tryz.f6) (args0 0 [(.int .i64 place1 : Value), (.int .i64 shard2 : Value), (.int .i64 many3 : Value), (.pointer book4 : Value), (.bool mark5 : Value)]) h ⟨fun env h => dRes Tryz.prog Tryz.f6.results.toList env h K, fun _ _ _ => False, fun env h => dRes Tryz.prog Tryz.f6.results.toList env h K⟩ := by kernel_rfl
def E_law10_begin_of (f : Int → Int → Int → Option Addr → Bool → Heap → (Option Addr → Heap → Prop) → Prop) : List Value → Heap → (Value → Heap → Prop) → Prop
  | [v0, v1, v2, v3, v4], h, K => dec1 (.int .i64) v0 fun (place1 : Int) =>
  dec1 (.int .i64) v1 fun (shard2 : Int) =>
  dec1 (.int .i64) v2 fun (many3 : Int) =>
  dec1 .ptr v3 fun (book4 : Option Addr) =>
  dec1 .bool v4 fun (mark5 : Bool) =>
  f place1 shard2 many3 book4 mark5 h (fun (r0 : Option Addr) (h : Heap) => K (.pointer r0) h)
  | _, _, _ => False
abbrev E_law10_begin := E_law10_begin_of F_law10_begin
theorem E_law10_begin.right : IsRight Tryz.prog 6 E_law10_begin := by
  refine isRight fun vs K w hh => ?_
  match vs, hh with
  | [v0, v1, v2, v3, v4], hh =>
    unfold E_law10_begin E_law10_begin_of at hh
    replace hh := dec1_sound hh; obtain ⟨place1, rfl, hh⟩ := hh
    replace hh := dec1_sound hh; obtain ⟨shard2, rfl, hh⟩ := hh
    replace hh := dec1_sound hh; obtain ⟨many3, rfl, hh⟩ := hh
    replace hh := dec1_sound hh; obtain ⟨book4, rfl, hh⟩ := hh
    replace hh := dec1_sound hh; obtain ⟨mark5, rfl, hh⟩ := hh
    unfold F_law10_begin at hh
    exact calls_den (fn1_right ok8 E_law10_into.right (fn1_right ok12 E_law10_copiesOf.right (fn1_right ok13 E_quorum_New.right (fn1_right ok14 E_ref10_New.right (fn1_right ok15 E_ref0_EqInts.right noFns_right))))) plan6 _ w K Tryz.func6 (by kernel_rfl) (by kernel_rfl) (Eq.mp (F_law10_begin.eq F_law10_into F_law10_copiesOf F_quorum_New F_ref10_New F_ref0_EqInts place1 shard2 many3 book4 mark5 w.heap K) hh)
theorem ok6 : okFn Tryz.prog 6 = true := by kernel_rfl
end Go.Proofs.YtigcpkejjjgkeaaGreat.V
namespace Go.Proofs.YtigcpkejjjgkeaaGreat.V
open Go Go.RowKit
set_option linter.unusedVariables false
set_option maxRecDepth 100000
def F_law1_at_of  (n1 k2 : Int) (h : Heap) (Q : Int → Heap → Prop) : Prop :=
  (2 : Int) ≠ 0 ∧
  brr ((k2.tmod 2) == 0)
  ((251 : Int) ≠ 0 ∧
  Q (IntKind.u8.wrap (IntKind.i64.wrap (1 + (n1.tmod 251)))) h)
  ((251 : Int) ≠ 0 ∧
  (251 : Int) ≠ 0 ∧
  Q (IntKind.u8.wrap (IntKind.i64.wrap (1 + ((IntKind.i64.wrap ((IntKind.i64.wrap (7 * n1)) + (IntKind.i64.wrap (n1.tdiv 251)))).tmod 251)))) h)
def F_law1_at (n1 k2 : Int) (h : Heap) (Q : Int → Heap → Prop) : Prop := F_law1_at_of  n1 k2 h Q
def plan44 : Plan := .s (.r [0, 1]) (.s (.s (.r [0, 7]) (.c (.s (.r [4]) .z) .z)) (.s (.r [4]) .z))
theorem F_law1_at.eq  (n1 k2 : Int) (h : Heap) (K : Value → Heap → Prop) : F_law1_at_of  n1 k2 h (fun (r0 : Int) (h : Heap) => K (.int .u8 r0) h) =
    den Tryz.prog noFns Tryz.f44.ntmps plan44 (bodyOf Tryz.f44) (args0 0 [(.int .i64 n1 : Value), (.int .i64 k2 : Value)]) h ⟨fun env h => dRes Tryz.prog Tryz.f44.results.toList env h K, fun _ _ _ => False, fun env h => dRes Tryz.prog Tryz.f44.results.toList env h K⟩ := by kernel_rfl
def E_law1_at_of (f : Int → Int → Heap → (Int → Heap → Prop) → Prop) : List Value → Heap → (Value → Heap → Prop) → Prop
  | [v0, v1], h, K => dec1 (.int .i64) v0 fun (n1 : Int) =>
  dec1 (.int .i64) v1 fun (k2 : Int) =>
  f n1 k2 h (fun (r0 : Int) (h : Heap) => K (.int .u8 r0) h)
  | _, _, _ => False
abbrev E_law1_at := E_law1_at_of F_law1_at
theorem E_law1_at.right : IsRight Tryz.prog 44 E_law1_at := by
  refine isRight fun vs K w hh => ?_
  match vs, hh with
  | [v0, v1], hh =>
    unfold E_law1_at E_law1_at_of at hh
    replace hh := dec1_sound hh; obtain ⟨n1, rfl, hh⟩ := hh
    replace hh := dec1_sound hh; obtain ⟨k2, rfl, hh⟩ := hh
    unfold F_law1_at at hh
    exact calls_den noFns_right plan44 _ w K Tryz.func44 (by kernel_rfl) (by kernel_rfl) (Eq.mp (F_law1_at.eq  n1 k2 w.heap K) hh)
theorem ok44 : okFn Tryz.prog 44 = true := by kernel_rfl
end Go.Proofs.YtigcpkejjjgkeaaGreat.V
namespace Go.Proofs.YtigcpkejjjgkeaaGreat.V
open Go Go.RowKit
set_option linter.unusedVariables false
set_option maxRecDepth 100000
def F_law1_Book_tight_of  (b1 : Option Addr) (n2 : Int) (h : Heap) (Q : Bool → Heap → Prop) : Prop :=
  nn b1 fun (a3 : Addr) =>
  ld [.int .i64] (a3.add 38) h fun (v4 : Int) =>
  brr (decide ((IntKind.i64.wrap (v4 + n2)) > 16777216))
  (Q true h)
  (nn b1 fun (a5 : Addr) =>
  ld [.int .i64] (a5.add 38) h fun (v6 : Int) =>
  nn b1 fun (a7 : Addr) =>
  st (a7.add 38) [.int .i64 (IntKind.i64.wrap (v6 + n2))] h fun (h8 : Heap) =>
  Q false h8)
def F_law1_Book_tight (b1 : Option Addr) (n2 : Int) (h : Heap) (Q : Bool → Heap → Prop) : Prop := F_law1_Book_tight_of  b1 n2 h Q
def plan45 : Plan := .s (.r [0, 1]) (.s (.s (.r [0, 1, 11]) (.c (.s (.r [4]) .z) .z)) (.s (.r []) (.s (.r [4]) .z)))
theorem F_law1_Book_tight.eq  (b1 : Option Addr) (n2 : Int) (h : Heap) (K : Value → Heap → Prop) : F_law1_Book_tight_of  b1 n2 h (fun (r0 : Bool) (h : Heap) => K (.bool r0) h) =
    den Tryz.prog noFns Tryz.f45.ntmps plan45 (bodyOf Tryz.f45) (args0 0 [(.pointer b1 : Value), (.int .i64 n2 : Value)]) h ⟨fun env h => dRes Tryz.prog Tryz.f45.results.toList env h K, fun _ _ _ => False, fun env h => dRes Tryz.prog Tryz.f45.results.toList env h K⟩ := by kernel_rfl
def E_law1_Book_tight_of (f : Option Addr → Int → Heap → (Bool → Heap → Prop) → Prop) : List Value → Heap → (Value → Heap → Prop) → Prop
  | [v0, v1], h, K => dec1 .ptr v0 fun (b1 : Option Addr) =>
  dec1 (.int .i64) v1 fun (n2 : Int) =>
  f b1 n2 h (fun (r0 : Bool) (h : Heap) => K (.bool r0) h)
  | _, _, _ => False
abbrev E_law1_Book_tight := E_law1_Book_tight_of F_law1_Book_tight
theorem E_law1_Book_tight.right : IsRight Tryz.prog 45 E_law1_Book_tight := by
  refine isRight fun vs K w hh => ?_
  match vs, hh with
  | [v0, v1], hh =>
    unfold E_law1_Book_tight E_law1_Book_tight_of at hh
    replace hh := dec1_sound hh; obtain ⟨b1, rfl, hh⟩ := hh
    replace hh := dec1_sound hh; obtain ⟨n2, rfl, hh⟩ := hh
    unfold F_law1_Book_tight at hh
    exact calls_den noFns_right plan45 _ w K Tryz.func45 (by kernel_rfl) (by kernel_rfl) (Eq.mp (F_law1_Book_tight.eq  b1 n2 w.heap K) hh)
theorem ok45 : okFn Tryz.prog 45 = true := by kernel_rfl
end Go.Proofs.YtigcpkejjjgkeaaGreat.V
namespace Go.Proofs.YtigcpkejjjgkeaaGreat.V
open Go Go.RowKit
set_option linter.unusedVariables false
set_option maxRecDepth 100000
def F_law1_Book_Bytes.l1 (f44_ : Int → Int → Heap → (Int → Heap → Prop) → Prop) (l2 : Sl) (v8 : Int) (j9 : Heap → Prop) : Int → Heap → Prop :=
  wl [(5, .one (.int .i64))] (fun (next10 : Int → Heap → Prop) (i11 : Int) (h12 : Heap) =>
  brr (decide (i11 < ((l2.len : Nat) : Int)))
  (f44_ v8 i11 h12 fun (r13 : Int) (h14 : Heap) =>
  ixS 1 l2 i11 fun (a15 : Addr) =>
  st a15 [.int .u8 r13] h14 fun (h16 : Heap) =>
  next10 (IntKind.i64.wrap (i11 + 1)) h16)
  (j9 h12))
def F_law1_Book_Bytes_of (f44_ : Int → Int → Heap → (Int → Heap → Prop) → Prop) (f45_ : Option Addr → Int → Heap → (Bool → Heap → Prop) → Prop) (b1 : Option Addr) (l2 : Sl) (h : Heap) (Q : Heap → Prop) : Prop :=
  nn b1 fun (a3 : Addr) =>
  ld [.int .i64] (a3.add 36) h fun (v4 : Int) =>
  nn b1 fun (a5 : Addr) =>
  st (a5.add 36) [.int .i64 (IntKind.i64.wrap (v4 + 1))] h fun (h6 : Heap) =>
  nn b1 fun (a7 : Addr) =>
  ld [.int .i64] (a7.add 36) h6 fun (v8 : Int) =>
  jn [] (fun  (h17 : Heap) =>
  f45_ b1 (IntKind.i64.wrap (1200 + (IntKind.i64.wrap (3 * ((l2.len : Nat) : Int))))) h17 fun (r18 : Bool) (h19 : Heap) =>
  brr r18
  (Q h19)
  (nn b1 fun (a20 : Addr) =>
  ld [.sl] (a20.add 0) h19 fun (v21 : Sl) =>
  al 52 [.slice l2.ptr l2.len l2.cap] h19 fun (a22 : Addr) (h23 : Heap) =>
  app 52 1 24 (.slice none 0 0) v21 (some a22) 1 h23 fun (s24 : Sl) (h25 : Heap) =>
  nn b1 fun (a26 : Addr) =>
  st (a26.add 0) [.slice s24.ptr s24.len s24.cap] h25 fun (h27 : Heap) =>
  nn b1 fun (a28 : Addr) =>
  ld [.sl] (a28.add 1) h27 fun (v29 : Sl) =>
  al 3 [.int .i64 v8] h27 fun (a30 : Addr) (h31 : Heap) =>
  app 3 1 8 (.int .i64 0) v29 (some a30) 1 h31 fun (s32 : Sl) (h33 : Heap) =>
  nn b1 fun (a34 : Addr) =>
  st (a34.add 1) [.slice s32.ptr s32.len s32.cap] h33 fun (h35 : Heap) =>
  Q h35)) (fun (j9 : Heap → Prop) =>
  F_law1_Book_Bytes.l1 f44_ l2 v8 j9 0 h6)
def F_law1_Book_Bytes (b1 : Option Addr) (l2 : Sl) (h : Heap) (Q : Heap → Prop) : Prop := F_law1_Book_Bytes_of F_law1_at F_law1_Book_tight b1 l2 h Q
def plan24 : Plan := .s (.r [0, 1]) (.s (.r [0, 1, 4]) (.s (.s (.r [0, 1, 4, 5]) (.bj [] [0, 1, 4] (.l [(5, .one (.int .i64))] [0, 1, 4] (.s (.s (.r [0, 1, 4, 5, 20]) (.c .z .z)) (.s (.b (.r [0, 1, 4, 5])) (.r [0, 1, 4, 5])))))) (.s (.s (.r [0, 1, 4, 34]) (.c .z .z)) (.s (.r [0, 4]) (.r [])))))
theorem F_law1_Book_Bytes.eq (f44_ : Int → Int → Heap → (Int → Heap → Prop) → Prop) (f45_ : Option Addr → Int → Heap → (Bool → Heap → Prop) → Prop) (b1 : Option Addr) (l2 : Sl) (h : Heap) (K : Value → Heap → Prop) : F_law1_Book_Bytes_of f44_ f45_ b1 l2 h (fun  (h : Heap) => K (.tuple #[]) h) =
    den Tryz.prog (fn1 44 (E_law1_at_of f44_) (fn1 45 (E_law1_Book_tight_of f45_) noFns)) Tryz.f24.ntmps plan24 (bodyOf Tryz.f24) (args0 0 [(.pointer b1 : Value), (.slice l2.ptr l2.len l2.cap : Value)]) h ⟨fun env h => dRes Tryz.prog Tryz.f24.results.toList env h K, fun _ _ _ => False, fun env h => dRes Tryz.prog Tryz.f24.results.toList env h K⟩ := by kernel_rfl
def E_law1_Book_Bytes_of (f : Option Addr → Sl → Heap → (Heap → Prop) → Prop) : List Value → Heap → (Value → Heap → Prop) → Prop
  | [v0, v1], h, K => dec1 .ptr v0 fun (b1 : Option Addr) =>
  dec1 .sl v1 fun (l2 : Sl) =>
  f b1 l2 h (fun  (h : Heap) => K (.tuple #[]) h)
  | _, _, _ => False
abbrev E_law1_Book_Bytes := E_law1_Book_Bytes_of F_law1_Book_Bytes
theorem E_law1_Book_Bytes.right : IsRight Tryz.prog 24 E_law1_Book_Bytes := by
  refine isRight fun vs K w hh => ?_
  match vs, hh with
  | [v0, v1], hh =>
    unfold E_law1_Book_Bytes E_law1_Book_Bytes_of at hh
    replace hh := dec1_sound hh; obtain ⟨b1, rfl, hh⟩ := hh
    replace hh := dec1_sound hh; obtain ⟨l2, rfl, hh⟩ := hh
    unfold F_law1_Book_Bytes at hh
    exact calls_den (fn1_right ok44 E_law1_at.right (fn1_right ok45 E_law1_Book_tight.right noFns_right)) plan24 _ w K Tryz.func24 (by kernel_rfl) (by kernel_rfl) (Eq.mp (F_law1_Book_Bytes.eq F_law1_at F_law1_Book_tight b1 l2 w.heap K) hh)
theorem ok24 : okFn Tryz.prog 24 = true := by kernel_rfl
end Go.Proofs.YtigcpkejjjgkeaaGreat.V
namespace Go.Proofs.YtigcpkejjjgkeaaGreat.V
open Go Go.RowKit
set_option linter.unusedVariables false
set_option maxRecDepth 100000
def F_law10_Play_looks_of (f16_ : Option Addr → Heap → (Int → Int → Sl → Heap → Prop) → Prop) (f17_ : Option Addr → Heap → (Int → Int → Heap → Prop) → Prop) (f18_ : Option Addr → Heap → (Int → Heap → Prop) → Prop) (f19_ : Option Addr → Heap → (Int → Heap → Prop) → Prop) (f20_ : Option Addr → Heap → (Int → Heap → Prop) → Prop) (f21_ : Option Addr → Heap → (Bool → Heap → Prop) → Prop) (f22_ : Option Addr → Heap → (Bool → Heap → Prop) → Prop) (f23_ : Sl → Sl → Heap → (Bool → Heap → Prop) → Prop) (f24_ : Option Addr → Sl → Heap → (Heap → Prop) → Prop) (t1 : Option Addr) (h : Heap) (Q : Bool → Heap → Prop) : Prop :=
  nn t1 fun (a2 : Addr) =>
  ld [.ptr] (a2.add 0) h fun (v3 : Option Addr) =>
  f16_ v3 h fun (r4 r5 : Int) (r6 : Sl) (h7 : Heap) =>
  al 51 [.int .u64 0, .int .u64 0] h7 fun (a8 : Addr) (h9 : Heap) =>
  st a8 [.int .u64 r4, .int .u64 r5] h9 fun (h10 : Heap) =>
  nn t1 fun (a11 : Addr) =>
  ld [.ptr] (a11.add 0) h10 fun (v12 : Option Addr) =>
  f16_ v12 h10 fun (r13 r14 : Int) (r15 : Sl) (h16 : Heap) =>
  al 51 [.int .u64 0, .int .u64 0] h16 fun (a17 : Addr) (h18 : Heap) =>
  st a17 [.int .u64 r13, .int .u64 r14] h18 fun (h19 : Heap) =>
  nn t1 fun (a20 : Addr) =>
  ld [.ptr] (a20.add 0) h19 fun (v21 : Option Addr) =>
  f17_ v21 h19 fun (r22 r23 : Int) (h24 : Heap) =>
  jn [(9, .one .bool)] (fun (ok79 : Bool) (h80 : Heap) =>
  nn t1 fun (a81 : Addr) =>
  ld [.bool] (a81.add 6) h80 fun (v82 : Bool) =>
  jn [] (fun  (h87 : Heap) =>
  jn [(9, .one .bool)] (fun (ok99 : Bool) (h100 : Heap) =>
  nn t1 fun (a101 : Addr) =>
  ld [.bool] (a101.add 6) h100 fun (v102 : Bool) =>
  jn [] (fun  (h107 : Heap) =>
  Q ok99 h107) (fun (j103 : Heap → Prop) =>
  brr v102
  (nn t1 fun (a104 : Addr) =>
  ld [.ptr] (a104.add 5) h100 fun (v105 : Option Addr) =>
  f24_ v105 r15 h100 fun  (h106 : Heap) =>
  j103 h106)
  (j103 h100))) (fun (j88 : Bool → Heap → Prop) =>
  brr ok79
  (ld [.int .u64, .int .u64] a17 h87 fun (v89 v90 : Int) =>
  ld [.int .u64, .int .u64] a8 h87 fun (v91 v92 : Int) =>
  brr ((v89 == v91) && ((v90 == v92) && (true)))
  (nn t1 fun (a93 : Addr) =>
  ld [.ptr] (a93.add 1) h87 fun (v94 : Option Addr) =>
  nn v94 fun (a95 : Addr) =>
  ld [.sl] (a95.add 14) h87 fun (v96 : Sl) =>
  f23_ r15 v96 h87 fun (r97 : Bool) (h98 : Heap) =>
  j88 r97 h98)
  (j88 false h87))
  (j88 false h87))) (fun (j83 : Heap → Prop) =>
  brr v82
  (nn t1 fun (a84 : Addr) =>
  ld [.ptr] (a84.add 5) h80 fun (v85 : Option Addr) =>
  f24_ v85 r6 h80 fun  (h86 : Heap) =>
  j83 h86)
  (j83 h80))) (fun (j25 : Bool → Heap → Prop) =>
  nn t1 fun (a26 : Addr) =>
  ld [.ptr] (a26.add 0) h24 fun (v27 : Option Addr) =>
  nn t1 fun (a28 : Addr) =>
  ld [.ptr] (a28.add 1) h24 fun (v29 : Option Addr) =>
  nn v29 fun (a30 : Addr) =>
  ld [.int .i64] (a30.add 3) h24 fun (v31 : Int) =>
  f18_ v27 h24 fun (r32 : Int) (h33 : Heap) =>
  cellsAre h33 (a28.add 1) [.pointer v29] ∧
  cellsAre h33 (a30.add 3) [.int .i64 v31] ∧
  brr (r32 == v31)
  (nn t1 fun (a34 : Addr) =>
  ld [.ptr] (a34.add 0) h33 fun (v35 : Option Addr) =>
  nn t1 fun (a36 : Addr) =>
  ld [.ptr] (a36.add 1) h33 fun (v37 : Option Addr) =>
  nn v37 fun (a38 : Addr) =>
  ld [.int .u64] (a38.add 4) h33 fun (v39 : Int) =>
  f19_ v35 h33 fun (r40 : Int) (h41 : Heap) =>
  cellsAre h41 (a36.add 1) [.pointer v37] ∧
  cellsAre h41 (a38.add 4) [.int .u64 v39] ∧
  brr (r40 == v39)
  (nn t1 fun (a42 : Addr) =>
  ld [.ptr] (a42.add 0) h41 fun (v43 : Option Addr) =>
  nn t1 fun (a44 : Addr) =>
  ld [.ptr] (a44.add 1) h41 fun (v45 : Option Addr) =>
  nn v45 fun (a46 : Addr) =>
  ld [.int .u64] (a46.add 18) h41 fun (v47 : Int) =>
  f20_ v43 h41 fun (r48 : Int) (h49 : Heap) =>
  cellsAre h49 (a44.add 1) [.pointer v45] ∧
  cellsAre h49 (a46.add 18) [.int .u64 v47] ∧
  brr (r48 == v47)
  (nn t1 fun (a50 : Addr) =>
  ld [.ptr] (a50.add 0) h49 fun (v51 : Option Addr) =>
  nn t1 fun (a52 : Addr) =>
  ld [.ptr] (a52.add 1) h49 fun (v53 : Option Addr) =>
  f21_ v51 h49 fun (r54 : Bool) (h55 : Heap) =>
  cellsAre h55 (a52.add 1) [.pointer v53] ∧
  f22_ v53 h55 fun (r56 : Bool) (h57 : Heap) =>
  brr (r54 == r56)
  (ld [.int .u64, .int .u64] a8 h57 fun (v58 v59 : Int) =>
  nn t1 fun (a60 : Addr) =>
  ld [.ptr] (a60.add 1) h57 fun (v61 : Option Addr) =>
  nn v61 fun (a62 : Addr) =>
  ld [.int .u64, .int .u64] (a62.add 12) h57 fun (v63 v64 : Int) =>
  brr ((v58 == v63) && ((v59 == v64) && (true)))
  (nn t1 fun (a65 : Addr) =>
  ld [.ptr] (a65.add 1) h57 fun (v66 : Option Addr) =>
  nn v66 fun (a67 : Addr) =>
  ld [.sl] (a67.add 14) h57 fun (v68 : Sl) =>
  f23_ r6 v68 h57 fun (r69 : Bool) (h70 : Heap) =>
  brr r69
  (nn t1 fun (a71 : Addr) =>
  ld [.ptr] (a71.add 1) h70 fun (v72 : Option Addr) =>
  nn v72 fun (a73 : Addr) =>
  ld [.int .u64] (a73.add 15) h70 fun (v74 : Int) =>
  brr (r22 == v74)
  (nn t1 fun (a75 : Addr) =>
  ld [.ptr] (a75.add 1) h70 fun (v76 : Option Addr) =>
  nn v76 fun (a77 : Addr) =>
  ld [.int .u64] (a77.add 16) h70 fun (v78 : Int) =>
  j25 (r23 == v78) h70)
  (j25 false h70))
  (j25 false h70))
  (j25 false h57))
  (j25 false h57))
  (j25 false h49))
  (j25 false h41))
  (j25 false h33))
def F_law10_Play_looks (t1 : Option Addr) (h : Heap) (Q : Bool → Heap → Prop) : Prop := F_law10_Play_looks_of F_quorum_Quorum_Chosen F_quorum_Quorum_Round F_quorum_Quorum_Phase F_quorum_Quorum_Epoch F_quorum_Quorum_Seen F_quorum_Quorum_Holds F_ref10_Quorum_Holds F_ref0_Eq F_law1_Book_Bytes t1 h Q
def plan7 : Plan := .s (.r [0]) (.s (.r [0, 3, 4]) (.s (.r [0, 3, 4, 5, 6]) (.s (.r [0, 3, 4, 5, 6, 7, 8]) (.s (.dj [0, 1, 3, 7, 15, 0, 32, 96, 224, 480, 992, 2016, 4095, 8191, 16383, 32767, 65535, 131071, 262143, 16383, 540671, 1589247, 3686399, 7880703, 16269311, 33046527, 67108863, 134217727, 268435455, 536870911, 1073741823, 2147483647, 4294967295, 8589934591, 536870911, 17716740095, 52076478463, 120795955199, 258234908671, 533112815615, 1082868629503, 2199023255551, 4398046511103, 8796093022207, 17592186044415, 35184372088831, 70368744177663, 140737488355327, 281474976710655, 17592186044415, 580542139465727, 1706442046308351, 3958241859993599, 9007199254740991, 18014398509481983, 36028797018963967, 72057594037927935, 144115188075855871, 144115188075855871, 432345564227567615, 1008806316530991103, 2161727821137838079, 4467570830351532031, 9079256848778919935, 18302628885633695743, 36893488147419103231, 73786976294838206463, 147573952589676412927, 295147905179352825855, 295147905179352825855, 885443715538058477567, 2066035336255469780991, 4427218577690292387839, 9149585060559937601535, 18594318026299228028927, 37483783957777808883711, 75557863725914323419135, 151115727451828646838271, 302231454903657293676543, 604462909807314587353087, 604462909807314587353087, 1813388729421943762059263, 4231240368651202111471615, 9066943647109718810296319, 18738350204026752207945727, 38081163317860819003244543, 76766789545528952593842175, 154742504910672534362390527, 309485009821345068724781055, 618970019642690137449562111, 1237940039285380274899124223, 1237940039285380274899124223, 3713820117856140824697372671, 8665580274997661924293869567, 18569100589280704123486863359, 38376141217846788521872850943, 77990222474978957318644826111, 157218384989243294912188776447, 316912650057057350374175801343, 633825300114114700748351602687, 1267650600228229401496703205375] [[0, 1, 2, 3, 5, 6, 7, 8, 9, 10, 11, 4, 12, 13, 14, 15, 16, 17, 19, 20, 21, 22, 23, 24, 25, 18, 26, 27, 28, 29, 30, 31, 32, 34, 35, 36, 37, 38, 39, 40, 33, 41, 42, 43, 44, 45, 46, 47, 49, 50, 51, 52, 48, 53, 54, 55, 56, 57, 58, 59, 60, 61, 62, 63, 64, 65, 66, 67, 68, 69, 70, 71, 72, 73, 74, 75, 76, 77, 78, 79, 80, 81, 82, 83, 84, 85, 86, 87, 88, 89, 90, 91, 92, 93, 94, 95, 96, 97, 98, 99, 100]] [(9, .one .bool)] [0, 3, 4, 5, 6]) (.s (.s (.r [0, 3, 4, 5, 6, 9, 137]) (.cj [] [0, 3, 5, 6, 9] (.r [0, 3, 5, 6, 9]) .z)) (.s (.rj [(9, .one .bool)] [0, 6]) (.s (.s (.r [0, 6, 9, 164]) (.cj [] [9] (.r [9]) .z)) (.s (.r [2]) .z))))))))
theorem F_law10_Play_looks.eq (f16_ : Option Addr → Heap → (Int → Int → Sl → Heap → Prop) → Prop) (f17_ : Option Addr → Heap → (Int → Int → Heap → Prop) → Prop) (f18_ : Option Addr → Heap → (Int → Heap → Prop) → Prop) (f19_ : Option Addr → Heap → (Int → Heap → Prop) → Prop) (f20_ : Option Addr → Heap → (Int → Heap → Prop) → Prop) (f21_ : Option Addr → Heap → (Bool → Heap → Prop) → Prop) (f22_ : Option Addr → Heap → (Bool → Heap → Prop) → Prop) (f23_ : Sl → Sl → Heap → (Bool → Heap → Prop) → Prop) (f24_ : Option Addr → Sl → Heap → (Heap → Prop) → Prop) (t1 : Option Addr) (h : Heap) (K : Value → Heap → Prop) : F_law10_Play_looks_of f16_ f17_ f18_ f19_ f20_ f21_ f22_ f23_ f24_ t1 h (fun (r0 : Bool) (h : Heap) => K (.bool r0) h) =
    den Tryz.prog (fn1 16 (E_quorum_Quorum_Chosen_of f16_) (fn1 17 (E_quorum_Quorum_Round_of f17_) (fn1 18 (E_quorum_Quorum_Phase_of f18_) (fn1 19 (E_quorum_Quorum_Epoch_of f19_) (fn1 20 (E_quorum_Quorum_Seen_of f20_) (fn1 21 (E_quorum_Quorum_Holds_of f21_) (fn1 22 (E_ref10_Quorum_Holds_of f22_) (fn1 23 (E_ref0_Eq_of f23_) (fn1 24 (E_law1_Book_Bytes_of f24_) noFns))))))))) Tryz.f7.ntmps plan7 (bodyOf Tryz.f7) (args0 0 [(.pointer t1 : Value)]) h ⟨fun env h => dRes Tryz.prog Tryz.f7.results.toList env h K, fun _ _ _ => False, fun env h => dRes Tryz.prog Tryz.f7.results.toList env h K⟩ := by kernel_rfl
def E_law10_Play_looks_of (f : Option Addr → Heap → (Bool → Heap → Prop) → Prop) : List Value → Heap → (Value → Heap → Prop) → Prop
  | [v0], h, K => dec1 .ptr v0 fun (t1 : Option Addr) =>
  f t1 h (fun (r0 : Bool) (h : Heap) => K (.bool r0) h)
  | _, _, _ => False
abbrev E_law10_Play_looks := E_law10_Play_looks_of F_law10_Play_looks
theorem E_law10_Play_looks.right : IsRight Tryz.prog 7 E_law10_Play_looks := by
  refine isRight fun vs K w hh => ?_
  match vs, hh with
  | [v0], hh =>
    unfold E_law10_Play_looks E_law10_Play_looks_of at hh
    replace hh := dec1_sound hh; obtain ⟨t1, rfl, hh⟩ := hh
    unfold F_law10_Play_looks at hh
    exact calls_den (fn1_right ok16 E_quorum_Quorum_Chosen.right (fn1_right ok17 E_quorum_Quorum_Round.right (fn1_right ok18 E_quorum_Quorum_Phase.right (fn1_right ok19 E_quorum_Quorum_Epoch.right (fn1_right ok20 E_quorum_Quorum_Seen.right (fn1_right ok21 E_quorum_Quorum_Holds.right (fn1_right ok22 E_ref10_Quorum_Holds.right (fn1_right ok23 E_ref0_Eq.right (fn1_right ok24 E_law1_Book_Bytes.right noFns_right))))))))) plan7 _ w K Tryz.func7 (by kernel_rfl) (by kernel_rfl) (Eq.mp (F_law10_Play_looks.eq F_quorum_Quorum_Chosen F_quorum_Quorum_Round F_quorum_Quorum_Phase F_quorum_Quorum_Epoch F_quorum_Quorum_Seen F_quorum_Quorum_Holds F_ref10_Quorum_Holds F_ref0_Eq F_law1_Book_Bytes t1 w.heap K) hh)
theorem ok7 : okFn Tryz.prog 7 = true := by kernel_rfl
end Go.Proofs.YtigcpkejjjgkeaaGreat.V
namespace Go.Proofs.YtigcpkejjjgkeaaGreat.V
open Go Go.RowKit
set_option linter.unusedVariables false
set_option maxRecDepth 100000
def F_law1_Place_Rows.l1 (p1 : Option Addr) (l2 : Sl) (j8 : Heap → Prop) : Int → Heap → Prop :=
  wl [(5, .one (.int .i64))] (fun (next9 : Int → Heap → Prop) (i10 : Int) (h11 : Heap) =>
  brr (decide (i10 < ((l2.len : Nat) : Int)))
  (nn p1 fun (a12 : Addr) =>
  ld [.sl] (a12.add 1) h11 fun (v13 : Sl) =>
  jn [] (fun  (h23 : Heap) =>
  nn p1 fun (a24 : Addr) =>
  ld [.sl] (a24.add 1) h23 fun (v25 : Sl) =>
  ixS 1 v25 i10 fun (a26 : Addr) =>
  ld [.sl] a26 h23 fun (v27 : Sl) =>
  slTo v27 0 fun (s28 : Sl) =>
  ixS 1 l2 i10 fun (a29 : Addr) =>
  ld [.sl] a29 h23 fun (v30 : Sl) =>
  app 5 1 1 (.int .u8 0) s28 v30.ptr v30.len h23 fun (s31 : Sl) (h32 : Heap) =>
  nn p1 fun (a33 : Addr) =>
  ld [.sl] (a33.add 1) h32 fun (v34 : Sl) =>
  ixS 1 v34 i10 fun (a35 : Addr) =>
  st a35 [.slice s31.ptr s31.len s31.cap] h32 fun (h36 : Heap) =>
  nn p1 fun (a37 : Addr) =>
  ld [.sl] (a37.add 0) h36 fun (v38 : Sl) =>
  al 52 [.slice s31.ptr s31.len s31.cap] h36 fun (a39 : Addr) (h40 : Heap) =>
  app 52 1 24 (.slice none 0 0) v38 (some a39) 1 h40 fun (s41 : Sl) (h42 : Heap) =>
  nn p1 fun (a43 : Addr) =>
  st (a43.add 0) [.slice s41.ptr s41.len s41.cap] h42 fun (h44 : Heap) =>
  next9 (IntKind.i64.wrap (i10 + 1)) h44) (fun (j14 : Heap → Prop) =>
  brr (i10 == ((v13.len : Nat) : Int))
  (nn p1 fun (a15 : Addr) =>
  ld [.sl] (a15.add 1) h11 fun (v16 : Sl) =>
  al 52 [.slice none 0 0] h11 fun (a17 : Addr) (h18 : Heap) =>
  app 52 1 24 (.slice none 0 0) v16 (some a17) 1 h18 fun (s19 : Sl) (h20 : Heap) =>
  nn p1 fun (a21 : Addr) =>
  st (a21.add 1) [.slice s19.ptr s19.len s19.cap] h20 fun (h22 : Heap) =>
  j14 h22)
  (j14 h11)))
  (j8 h11))
def F_law1_Place_Rows_of  (p1 : Option Addr) (l2 : Sl) (h : Heap) (Q : Sl → Heap → Prop) : Prop :=
  nn p1 fun (a3 : Addr) =>
  ld [.sl] (a3.add 0) h fun (v4 : Sl) =>
  slTo v4 0 fun (s5 : Sl) =>
  nn p1 fun (a6 : Addr) =>
  st (a6.add 0) [.slice s5.ptr s5.len s5.cap] h fun (h7 : Heap) =>
  jn [] (fun  (h45 : Heap) =>
  nn p1 fun (a46 : Addr) =>
  ld [.sl] (a46.add 0) h45 fun (v47 : Sl) =>
  Q v47 h45) (fun (j8 : Heap → Prop) =>
  F_law1_Place_Rows.l1 p1 l2 j8 0 h7)
def F_law1_Place_Rows (p1 : Option Addr) (l2 : Sl) (h : Heap) (Q : Sl → Heap → Prop) : Prop := F_law1_Place_Rows_of  p1 l2 h Q
def plan84 : Plan := .s (.r [0, 1]) (.s (.r [0, 1]) (.s (.s (.r [0, 1, 5]) (.bj [] [0] (.l [(5, .one (.int .i64))] [0, 1] (.s (.s (.r [0, 1, 5, 18]) (.c .z .z)) (.s (.b (.s (.s (.r [0, 1, 5, 27]) (.cj [] [0, 1, 5] (.r [0, 1, 5]) .z)) (.s (.d [0, 1, 3, 7, 0, 31, 63, 127, 0, 0, 768, 1792, 4095, 8191] [[0, 1, 2, 3, 4, 5, 6, 7, 8, 9, 10, 11, 12, 13]] [0, 1, 5, 6]) (.s (.r [0, 1, 5, 6]) (.r [0, 1, 5]))))) (.r [0, 1, 5])))))) (.s (.r [4]) .z)))
theorem F_law1_Place_Rows.eq  (p1 : Option Addr) (l2 : Sl) (h : Heap) (K : Value → Heap → Prop) : F_law1_Place_Rows_of  p1 l2 h (fun (r0 : Sl) (h : Heap) => K (.slice r0.ptr r0.len r0.cap) h) =
    den Tryz.prog noFns Tryz.f84.ntmps plan84 (bodyOf Tryz.f84) (args0 0 [(.pointer p1 : Value), (.slice l2.ptr l2.len l2.cap : Value)]) h ⟨fun env h => dRes Tryz.prog Tryz.f84.results.toList env h K, fun _ _ _ => False, fun env h => dRes Tryz.prog Tryz.f84.results.toList env h K⟩ := by kernel_rfl
def E_law1_Place_Rows_of (f : Option Addr → Sl → Heap → (Sl → Heap → Prop) → Prop) : List Value → Heap → (Value → Heap → Prop) → Prop
  | [v0, v1], h, K => dec1 .ptr v0 fun (p1 : Option Addr) =>
  dec1 .sl v1 fun (l2 : Sl) =>
  f p1 l2 h (fun (r0 : Sl) (h : Heap) => K (.slice r0.ptr r0.len r0.cap) h)
  | _, _, _ => False
abbrev E_law1_Place_Rows := E_law1_Place_Rows_of F_law1_Place_Rows
theorem E_law1_Place_Rows.right : IsRight Tryz.prog 84 E_law1_Place_Rows := by
  refine isRight fun vs K w hh => ?_
  match vs, hh with
  | [v0, v1], hh =>
    unfold E_law1_Place_Rows E_law1_Place_Rows_of at hh
    replace hh := dec1_sound hh; obtain ⟨p1, rfl, hh⟩ := hh
    replace hh := dec1_sound hh; obtain ⟨l2, rfl, hh⟩ := hh
    unfold F_law1_Place_Rows at hh
    exact calls_den noFns_right plan84 _ w K Tryz.func84 (by kernel_rfl) (by kernel_rfl) (Eq.mp (F_law1_Place_Rows.eq  p1 l2 w.heap K) hh)
theorem ok84 : okFn Tryz.prog 84 = true := by kernel_rfl
end Go.Proofs.YtigcpkejjjgkeaaGreat.V
namespace Go.Proofs.YtigcpkejjjgkeaaGreat.V
open Go Go.RowKit
set_option linter.unusedVariables false
set_option maxRecDepth 100000
def F_law1_Place_Bytes_of (f84_ : Option Addr → Sl → Heap → (Sl → Heap → Prop) → Prop) (p1 : Option Addr) (b2 : Sl) (h : Heap) (Q : Sl → Heap → Prop) : Prop :=
  al 52 [.slice b2.ptr b2.len b2.cap] h fun (a3 : Addr) (h4 : Heap) =>
  f84_ p1 ⟨(some a3), 1, 1⟩ h4 fun (r5 : Sl) (h6 : Heap) =>
  ixS 1 r5 0 fun (a7 : Addr) =>
  ld [.sl] a7 h6 fun (v8 : Sl) =>
  Q v8 h6
def F_law1_Place_Bytes (p1 : Option Addr) (b2 : Sl) (h : Heap) (Q : Sl → Heap → Prop) : Prop := F_law1_Place_Bytes_of F_law1_Place_Rows p1 b2 h Q
def plan46 : Plan := .s (.r [0, 1]) (.s (.r [5]) (.s (.r [4]) .z))
theorem F_law1_Place_Bytes.eq (f84_ : Option Addr → Sl → Heap → (Sl → Heap → Prop) → Prop) (p1 : Option Addr) (b2 : Sl) (h : Heap) (K : Value → Heap → Prop) : F_law1_Place_Bytes_of f84_ p1 b2 h (fun (r0 : Sl) (h : Heap) => K (.slice r0.ptr r0.len r0.cap) h) =
    den Tryz.prog (fn1 84 (E_law1_Place_Rows_of f84_) noFns) Tryz.f46.ntmps plan46 (bodyOf Tryz.f46) (args0 0 [(.pointer p1 : Value), (.slice b2.ptr b2.len b2.cap : Value)]) h ⟨fun env h => dRes Tryz.prog Tryz.f46.results.toList env h K, fun _ _ _ => False, fun env h => dRes Tryz.prog Tryz.f46.results.toList env h K⟩ := by kernel_rfl
def E_law1_Place_Bytes_of (f : Option Addr → Sl → Heap → (Sl → Heap → Prop) → Prop) : List Value → Heap → (Value → Heap → Prop) → Prop
  | [v0, v1], h, K => dec1 .ptr v0 fun (p1 : Option Addr) =>
  dec1 .sl v1 fun (b2 : Sl) =>
  f p1 b2 h (fun (r0 : Sl) (h : Heap) => K (.slice r0.ptr r0.len r0.cap) h)
  | _, _, _ => False
abbrev E_law1_Place_Bytes := E_law1_Place_Bytes_of F_law1_Place_Bytes
theorem E_law1_Place_Bytes.right : IsRight Tryz.prog 46 E_law1_Place_Bytes := by
  refine isRight fun vs K w hh => ?_
  match vs, hh with
  | [v0, v1], hh =>
    unfold E_law1_Place_Bytes E_law1_Place_Bytes_of at hh
    replace hh := dec1_sound hh; obtain ⟨p1, rfl, hh⟩ := hh
    replace hh := dec1_sound hh; obtain ⟨b2, rfl, hh⟩ := hh
    unfold F_law1_Place_Bytes at hh
    exact calls_den (fn1_right ok84 E_law1_Place_Rows.right noFns_right) plan46 _ w K Tryz.func46 (by kernel_rfl) (by kernel_rfl) (Eq.mp (F_law1_Place_Bytes.eq F_law1_Place_Rows p1 b2 w.heap K) hh)
theorem ok46 : okFn Tryz.prog 46 = true := by kernel_rfl
end Go.Proofs.YtigcpkejjjgkeaaGreat.V
namespace Go.Proofs.YtigcpkejjjgkeaaGreat.V
open Go Go.RowKit
set_option linter.unusedVariables false
set_option maxRecDepth 100000
def F_law10_Play_given_of (f46_ : Option Addr → Sl → Heap → (Sl → Heap → Prop) → Prop) (f47_ : Sl → Heap → (Sl → Heap → Prop) → Prop) (t1 : Option Addr) (b2 : Sl) (h : Heap) (Q : Sl → Heap → Prop) : Prop :=
  nn t1 fun (a3 : Addr) =>
  ld [.int .i64] (a3.add 9) h fun (v4 : Int) =>
  nn t1 fun (a5 : Addr) =>
  st (a5.add 9) [.int .i64 (IntKind.i64.wrap (v4 + 1))] h fun (h6 : Heap) =>
  nn t1 fun (a7 : Addr) =>
  ld [.int .i64] (a7.add 9) h6 fun (v8 : Int) =>
  (2 : Int) ≠ 0 ∧
  brr ((v8.tmod 2) == 0)
  (nn t1 fun (a9 : Addr) =>
  f46_ (some (a9.add 7)) b2 h6 fun (r10 : Sl) (h11 : Heap) =>
  Q r10 h11)
  (f47_ b2 h6 fun (r12 : Sl) (h13 : Heap) =>
  Q r12 h13)
def F_law10_Play_given (t1 : Option Addr) (b2 : Sl) (h : Heap) (Q : Sl → Heap → Prop) : Prop := F_law10_Play_given_of F_law1_Place_Bytes F_law1_Lend t1 b2 h Q
def plan25 : Plan := .s (.r [0, 1]) (.s (.r [0, 1]) (.s (.s (.r [0, 1, 17]) (.c (.s (.r [4]) .z) .z)) (.s (.r [4]) .z)))
theorem F_law10_Play_given.eq (f46_ : Option Addr → Sl → Heap → (Sl → Heap → Prop) → Prop) (f47_ : Sl → Heap → (Sl → Heap → Prop) → Prop) (t1 : Option Addr) (b2 : Sl) (h : Heap) (K : Value → Heap → Prop) : F_law10_Play_given_of f46_ f47_ t1 b2 h (fun (r0 : Sl) (h : Heap) => K (.slice r0.ptr r0.len r0.cap) h) =
    den Tryz.prog (fn1 46 (E_law1_Place_Bytes_of f46_) (fn1 47 (E_law1_Lend_of f47_) noFns)) Tryz.f25.ntmps plan25 (bodyOf Tryz.f25) (args0 0 [(.pointer t1 : Value), (.slice b2.ptr b2.len b2.cap : Value)]) h ⟨fun env h => dRes Tryz.prog Tryz.f25.results.toList env h K, fun _ _ _ => False, fun env h => dRes Tryz.prog Tryz.f25.results.toList env h K⟩ := by kernel_rfl
def E_law10_Play_given_of (f : Option Addr → Sl → Heap → (Sl → Heap → Prop) → Prop) : List Value → Heap → (Value → Heap → Prop) → Prop
  | [v0, v1], h, K => dec1 .ptr v0 fun (t1 : Option Addr) =>
  dec1 .sl v1 fun (b2 : Sl) =>
  f t1 b2 h (fun (r0 : Sl) (h : Heap) => K (.slice r0.ptr r0.len r0.cap) h)
  | _, _, _ => False
abbrev E_law10_Play_given := E_law10_Play_given_of F_law10_Play_given
theorem E_law10_Play_given.right : IsRight Tryz.prog 25 E_law10_Play_given := by
  refine isRight fun vs K w hh => ?_
  match vs, hh with
  | [v0, v1], hh =>
    unfold E_law10_Play_given E_law10_Play_given_of at hh
    replace hh := dec1_sound hh; obtain ⟨t1, rfl, hh⟩ := hh
    replace hh := dec1_sound hh; obtain ⟨b2, rfl, hh⟩ := hh
    unfold F_law10_Play_given at hh
    exact calls_den (fn1_right ok46 E_law1_Place_Bytes.right (fn1_right ok47 E_law1_Lend.right noFns_right)) plan25 _ w K Tryz.func25 (by kernel_rfl) (by kernel_rfl) (Eq.mp (F_law10_Play_given.eq F_law1_Place_Bytes F_law1_Lend t1 b2 w.heap K) hh)
theorem ok25 : okFn Tryz.prog 25 = true := by kernel_rfl
end Go.Proofs.YtigcpkejjjgkeaaGreat.V
namespace Go.Proofs.YtigcpkejjjgkeaaGreat.V
open Go Go.RowKit
set_option linter.unusedVariables false
set_option maxRecDepth 100000
def F_law1_Over.l1 (l1 : Sl) (j2 : Heap → Prop) : Int → Heap → Prop :=
  wl [(2, .one (.int .i64))] (fun (next3 : Int → Heap → Prop) (i4 : Int) (h5 : Heap) =>
  brr (decide (i4 < ((l1.len : Nat) : Int)))
  (ixS 1 l1 i4 fun (a6 : Addr) =>
  st a6 [.int .u8 238] h5 fun (h7 : Heap) =>
  next3 (IntKind.i64.wrap (i4 + 1)) h7)
  (j2 h5))
def F_law1_Over_of  (l1 : Sl) (h : Heap) (Q : Heap → Prop) : Prop :=
  jn [] (fun  (h8 : Heap) =>
  Q h8) (fun (j2 : Heap → Prop) =>
  F_law1_Over.l1 l1 j2 0 h)
def F_law1_Over (l1 : Sl) (h : Heap) (Q : Heap → Prop) : Prop := F_law1_Over_of  l1 h Q
def plan52 : Plan := .s (.r [0, 2]) (.bj [] [] (.l [(2, .one (.int .i64))] [0] (.s (.s (.r [0, 2, 6]) (.c .z .z)) (.s (.b (.r [0, 2])) (.r [0, 2])))))
theorem F_law1_Over.eq  (l1 : Sl) (h : Heap) (K : Value → Heap → Prop) : F_law1_Over_of  l1 h (fun  (h : Heap) => K (.tuple #[]) h) =
    den Tryz.prog noFns Tryz.f52.ntmps plan52 (bodyOf Tryz.f52) (args0 0 [(.slice l1.ptr l1.len l1.cap : Value)]) h ⟨fun env h => dRes Tryz.prog Tryz.f52.results.toList env h K, fun _ _ _ => False, fun env h => dRes Tryz.prog Tryz.f52.results.toList env h K⟩ := by kernel_rfl
def E_law1_Over_of (f : Sl → Heap → (Heap → Prop) → Prop) : List Value → Heap → (Value → Heap → Prop) → Prop
  | [v0], h, K => dec1 .sl v0 fun (l1 : Sl) =>
  f l1 h (fun  (h : Heap) => K (.tuple #[]) h)
  | _, _, _ => False
abbrev E_law1_Over := E_law1_Over_of F_law1_Over
theorem E_law1_Over.right : IsRight Tryz.prog 52 E_law1_Over := by
  refine isRight fun vs K w hh => ?_
  match vs, hh with
  | [v0], hh =>
    unfold E_law1_Over E_law1_Over_of at hh
    replace hh := dec1_sound hh; obtain ⟨l1, rfl, hh⟩ := hh
    unfold F_law1_Over at hh
    exact calls_den noFns_right plan52 _ w K Tryz.func52 (by kernel_rfl) (by kernel_rfl) (Eq.mp (F_law1_Over.eq  l1 w.heap K) hh)
theorem ok52 : okFn Tryz.prog 52 = true := by kernel_rfl
end Go.Proofs.YtigcpkejjjgkeaaGreat.V
namespace Go.Proofs.YtigcpkejjjgkeaaGreat.V
open Go Go.RowKit
set_option linter.unusedVariables false
set_option maxRecDepth 100000
def F_law10_Play_kept_of (f23_ : Sl → Sl → Heap → (Bool → Heap → Prop) → Prop) (f51_ : Sl → Sl → Heap → (Bool → Heap → Prop) → Prop) (f52_ : Sl → Heap → (Heap → Prop) → Prop) (t1 : Option Addr) (l2 b3 : Sl) (h : Heap) (Q : Bool → Heap → Prop) : Prop :=
  f23_ l2 b3 h fun (r4 : Bool) (h5 : Heap) =>
  nn t1 fun (a6 : Addr) =>
  ld [.int .i64] (a6.add 9) h5 fun (v7 : Int) =>
  (2 : Int) ≠ 0 ∧
  jn [(7, .one .bool)] (fun (ok11 : Bool) (h12 : Heap) =>
  f52_ l2 h12 fun  (h13 : Heap) =>
  Q ok11 h13) (fun (j8 : Bool → Heap → Prop) =>
  brr ((v7.tmod 2) == 1)
  (f51_ l2 b3 h5 fun (r9 : Bool) (h10 : Heap) =>
  j8 r9 h10)
  (j8 r4 h5))
def F_law10_Play_kept (t1 : Option Addr) (l2 b3 : Sl) (h : Heap) (Q : Bool → Heap → Prop) : Prop := F_law10_Play_kept_of F_ref0_Eq F_law1_Intact F_law1_Over t1 l2 b3 h Q
def plan27 : Plan := .s (.r [0, 1, 2]) (.s (.r [0, 1, 2, 7]) (.s (.s (.r [1, 2, 7, 16]) (.cj [(7, .one .bool)] [1] (.r [1, 7]) .z)) (.s (.r [7]) (.s (.r [6]) .z))))
theorem F_law10_Play_kept.eq (f23_ : Sl → Sl → Heap → (Bool → Heap → Prop) → Prop) (f51_ : Sl → Sl → Heap → (Bool → Heap → Prop) → Prop) (f52_ : Sl → Heap → (Heap → Prop) → Prop) (t1 : Option Addr) (l2 b3 : Sl) (h : Heap) (K : Value → Heap → Prop) : F_law10_Play_kept_of f23_ f51_ f52_ t1 l2 b3 h (fun (r0 : Bool) (h : Heap) => K (.bool r0) h) =
    den Tryz.prog (fn1 23 (E_ref0_Eq_of f23_) (fn1 51 (E_law1_Intact_of f51_) (fn1 52 (E_law1_Over_of f52_) noFns))) Tryz.f27.ntmps plan27 (bodyOf Tryz.f27) (args0 0 [(.pointer t1 : Value), (.slice l2.ptr l2.len l2.cap : Value), (.slice b3.ptr b3.len b3.cap : Value)]) h ⟨fun env h => dRes Tryz.prog Tryz.f27.results.toList env h K, fun _ _ _ => False, fun env h => dRes Tryz.prog Tryz.f27.results.toList env h K⟩ := by kernel_rfl
def E_law10_Play_kept_of (f : Option Addr → Sl → Sl → Heap → (Bool → Heap → Prop) → Prop) : List Value → Heap → (Value → Heap → Prop) → Prop
  | [v0, v1, v2], h, K => dec1 .ptr v0 fun (t1 : Option Addr) =>
  dec1 .sl v1 fun (l2 : Sl) =>
  dec1 .sl v2 fun (b3 : Sl) =>
  f t1 l2 b3 h (fun (r0 : Bool) (h : Heap) => K (.bool r0) h)
  | _, _, _ => False
abbrev E_law10_Play_kept := E_law10_Play_kept_of F_law10_Play_kept
theorem E_law10_Play_kept.right : IsRight Tryz.prog 27 E_law10_Play_kept := by
  refine isRight fun vs K w hh => ?_
  match vs, hh with
  | [v0, v1, v2], hh =>
    unfold E_law10_Play_kept E_law10_Play_kept_of at hh
    replace hh := dec1_sound hh; obtain ⟨t1, rfl, hh⟩ := hh
    replace hh := dec1_sound hh; obtain ⟨l2, rfl, hh⟩ := hh
    replace hh := dec1_sound hh; obtain ⟨b3, rfl, hh⟩ := hh
    unfold F_law10_Play_kept at hh
    exact calls_den (fn1_right ok23 E_ref0_Eq.right (fn1_right ok51 E_law1_Intact.right (fn1_right ok52 E_law1_Over.right noFns_right))) plan27 _ w K Tryz.func27 (by kernel_rfl) (by kernel_rfl) (Eq.mp (F_law10_Play_kept.eq F_ref0_Eq F_law1_Intact F_law1_Over t1 l2 b3 w.heap K) hh)
theorem ok27 : okFn Tryz.prog 27 = true := by kernel_rfl
end Go.Proofs.YtigcpkejjjgkeaaGreat.V
namespace Go.Proofs.YtigcpkejjjgkeaaGreat.V
open Go Go.RowKit
set_option linter.unusedVariables false
set_option maxRecDepth 100000
def F_law1_msgsMark_of  (m1 : Int) (h : Heap) (Q : Int → Int → Int → Int → Int → Int → Int → Int → Int → Int → Sl → Int → Int → ByteArray → ByteArray → Int → Int → Int → Int → Int → Int → Int → Heap → Prop) : Prop :=
  al 61 [.int .i64 0, .int .i64 0, .int .i64 0, .int .i64 0, .int .u64 0, .int .u64 0, .int .u64 0, .int .u64 0, .int .i64 0, .int .u64 0, .slice none 0 0, .int .i64 0, .int .u64 0, .string (⟨#[]⟩ : ByteArray), .string (⟨#[]⟩ : ByteArray), .int .u64 0, .int .u64 0, .int .u64 0, .int .i64 0, .int .i64 0, .int .i64 0, .int .i64 0] h fun (a2 : Addr) (h3 : Heap) =>
  st a2 [.int .i64 (IntKind.i64.wrap (1000 + m1)), .int .i64 0, .int .i64 0, .int .i64 0, .int .u64 0, .int .u64 0, .int .u64 0, .int .u64 0, .int .i64 0, .int .u64 0, .slice none 0 0, .int .i64 0, .int .u64 0, .string (⟨#[]⟩ : ByteArray), .string (⟨#[]⟩ : ByteArray), .int .u64 0, .int .u64 0, .int .u64 0, .int .i64 0, .int .i64 0, .int .i64 0, .int .i64 0] h3 fun (h4 : Heap) =>
  ld [.int .i64, .int .i64, .int .i64, .int .i64, .int .u64, .int .u64, .int .u64, .int .u64, .int .i64, .int .u64, .sl, .int .i64, .int .u64, .str, .str, .int .u64, .int .u64, .int .u64, .int .i64, .int .i64, .int .i64, .int .i64] a2 h4 fun (v5 v6 v7 v8 v9 v10 v11 v12 v13 v14 : Int) (v15 : Sl) (v16 v17 : Int) (v18 v19 : ByteArray) (v20 v21 v22 v23 v24 v25 v26 : Int) =>
  Q v5 v6 v7 v8 v9 v10 v11 v12 v13 v14 v15 v16 v17 v18 v19 v20 v21 v22 v23 v24 v25 v26 h4
def F_law1_msgsMark (m1 : Int) (h : Heap) (Q : Int → Int → Int → Int → Int → Int → Int → Int → Int → Int → Sl → Int → Int → ByteArray → ByteArray → Int → Int → Int → Int → Int → Int → Int → Heap → Prop) : Prop := F_law1_msgsMark_of  m1 h Q
def plan88 : Plan := .s (.r [0, 2]) (.s (.r [2]) .z)
theorem F_law1_msgsMark.eq  (m1 : Int) (h : Heap) (K : Value → Heap → Prop) : F_law1_msgsMark_of  m1 h (fun (r0 r1 r2 r3 r4 r5 r6 r7 r8 r9 : Int) (r10 : Sl) (r11 r12 : Int) (r13 r14 : ByteArray) (r15 r16 r17 r18 r19 r20 r21 : Int) (h : Heap) => K (.agg #[.int .i64 r0, .int .i64 r1, .int .i64 r2, .int .i64 r3, .int .u64 r4, .int .u64 r5, .int .u64 r6, .int .u64 r7, .int .i64 r8, .int .u64 r9, .slice r10.ptr r10.len r10.cap, .int .i64 r11, .int .u64 r12, .string r13, .string r14, .int .u64 r15, .int .u64 r16, .int .u64 r17, .int .i64 r18, .int .i64 r19, .int .i64 r20, .int .i64 r21]) h) =
    den Tryz.prog noFns Tryz.f88.ntmps plan88 (bodyOf Tryz.f88) (args0 0 [(.int .i64 m1 : Value)]) h ⟨fun env h => dRes Tryz.prog Tryz.f88.results.toList env h K, fun _ _ _ => False, fun env h => dRes Tryz.prog Tryz.f88.results.toList env h K⟩ := by kernel_rfl
def E_law1_msgsMark_of (f : Int → Heap → (Int → Int → Int → Int → Int → Int → Int → Int → Int → Int → Sl → Int → Int → ByteArray → ByteArray → Int → Int → Int → Int → Int → Int → Int → Heap → Prop) → Prop) : List Value → Heap → (Value → Heap → Prop) → Prop
  | [v0], h, K => dec1 (.int .i64) v0 fun (m1 : Int) =>
  f m1 h (fun (r0 r1 r2 r3 r4 r5 r6 r7 r8 r9 : Int) (r10 : Sl) (r11 r12 : Int) (r13 r14 : ByteArray) (r15 r16 r17 r18 r19 r20 r21 : Int) (h : Heap) => K (.agg #[.int .i64 r0, .int .i64 r1, .int .i64 r2, .int .i64 r3, .int .u64 r4, .int .u64 r5, .int .u64 r6, .int .u64 r7, .int .i64 r8, .int .u64 r9, .slice r10.ptr r10.len r10.cap, .int .i64 r11, .int .u64 r12, .string r13, .string r14, .int .u64 r15, .int .u64 r16, .int .u64 r17, .int .i64 r18, .int .i64 r19, .int .i64 r20, .int .i64 r21]) h)
  | _, _, _ => False
abbrev E_law1_msgsMark := E_law1_msgsMark_of F_law1_msgsMark
theorem E_law1_msgsMark.right : IsRight Tryz.prog 88 E_law1_msgsMark := by
  refine isRight fun vs K w hh => ?_
  match vs, hh with
  | [v0], hh =>
    unfold E_law1_msgsMark E_law1_msgsMark_of at hh
    replace hh := dec1_sound hh; obtain ⟨m1, rfl, hh⟩ := hh
    unfold F_law1_msgsMark at hh
    exact calls_den noFns_right plan88 _ w K Tryz.func88 (by kernel_rfl) (by kernel_rfl) (Eq.mp (F_law1_msgsMark.eq  m1 w.heap K) hh)
theorem ok88 : okFn Tryz.prog 88 = true := by kernel_rfl
end Go.Proofs.YtigcpkejjjgkeaaGreat.V
namespace Go.Proofs.YtigcpkejjjgkeaaGreat.V
open Go Go.RowKit
set_option linter.unusedVariables false
set_option maxRecDepth 100000
def F_law1_Book_Msgs.l1 (f24_ : Option Addr → Sl → Heap → (Heap → Prop) → Prop) (b1 : Option Addr) (l2 : Sl) (j3 : Heap → Prop) : Int → Heap → Prop :=
  wl [(4, .one (.int .i64))] (fun (next4 : Int → Heap → Prop) (i5 : Int) (h6 : Heap) =>
  brr (decide (i5 < ((l2.len : Nat) : Int)))
  (ixS 22 l2 i5 fun (a7 : Addr) =>
  ld [.sl] (a7.add 10) h6 fun (v8 : Sl) =>
  f24_ b1 v8 h6 fun  (h9 : Heap) =>
  next4 (IntKind.i64.wrap (i5 + 1)) h9)
  (j3 h6))
def F_law1_Book_Msgs.l2 (l2 : Sl) (a40 : Addr) (j43 : Heap → Prop) : Int → Heap → Prop :=
  wl [(7, .one (.int .i64))] (fun (next44 : Int → Heap → Prop) (i45 : Int) (h46 : Heap) =>
  brr (decide (i45 < ((l2.len : Nat) : Int)))
  (ld [.int .i64, .int .i64, .int .i64, .int .i64, .int .u64, .int .u64, .int .u64, .int .u64, .int .i64, .int .u64, .sl, .int .i64, .int .u64, .str, .str, .int .u64, .int .u64, .int .u64, .int .i64, .int .i64, .int .i64, .int .i64] a40 h46 fun (v47 v48 v49 v50 v51 v52 v53 v54 v55 v56 : Int) (v57 : Sl) (v58 v59 : Int) (v60 v61 : ByteArray) (v62 v63 v64 v65 v66 v67 v68 : Int) =>
  ixS 22 l2 i45 fun (a69 : Addr) =>
  st a69 [.int .i64 v47, .int .i64 v48, .int .i64 v49, .int .i64 v50, .int .u64 v51, .int .u64 v52, .int .u64 v53, .int .u64 v54, .int .i64 v55, .int .u64 v56, .slice v57.ptr v57.len v57.cap, .int .i64 v58, .int .u64 v59, .string v60, .string v61, .int .u64 v62, .int .u64 v63, .int .u64 v64, .int .i64 v65, .int .i64 v66, .int .i64 v67, .int .i64 v68] h46 fun (h70 : Heap) =>
  next44 (IntKind.i64.wrap (i45 + 1)) h70)
  (j43 h46))
def F_law1_Book_Msgs_of (f24_ : Option Addr → Sl → Heap → (Heap → Prop) → Prop) (f45_ : Option Addr → Int → Heap → (Bool → Heap → Prop) → Prop) (f88_ : Int → Heap → (Int → Int → Int → Int → Int → Int → Int → Int → Int → Int → Sl → Int → Int → ByteArray → ByteArray → Int → Int → Int → Int → Int → Int → Int → Heap → Prop) → Prop) (b1 : Option Addr) (l2 : Sl) (h : Heap) (Q : Heap → Prop) : Prop :=
  jn [] (fun  (h10 : Heap) =>
  nn b1 fun (a11 : Addr) =>
  ld [.int .i64] (a11.add 36) h10 fun (v12 : Int) =>
  nn b1 fun (a13 : Addr) =>
  st (a13.add 36) [.int .i64 (IntKind.i64.wrap (v12 + 1))] h10 fun (h14 : Heap) =>
  nn b1 fun (a15 : Addr) =>
  ld [.int .i64] (a15.add 36) h14 fun (v16 : Int) =>
  f88_ v16 h14 fun (r17 r18 r19 r20 r21 r22 r23 r24 r25 r26 : Int) (r27 : Sl) (r28 r29 : Int) (r30 r31 : ByteArray) (r32 r33 r34 r35 r36 r37 r38 : Int) (h39 : Heap) =>
  al 61 [.int .i64 0, .int .i64 0, .int .i64 0, .int .i64 0, .int .u64 0, .int .u64 0, .int .u64 0, .int .u64 0, .int .i64 0, .int .u64 0, .slice none 0 0, .int .i64 0, .int .u64 0, .string (⟨#[]⟩ : ByteArray), .string (⟨#[]⟩ : ByteArray), .int .u64 0, .int .u64 0, .int .u64 0, .int .i64 0, .int .i64 0, .int .i64 0, .int .i64 0] h39 fun (a40 : Addr) (h41 : Heap) =>
  st a40 [.int .i64 r17, .int .i64 r18, .int .i64 r19, .int .i64 r20, .int .u64 r21, .int .u64 r22, .int .u64 r23, .int .u64 r24, .int .i64 r25, .int .u64 r26, .slice r27.ptr r27.len r27.cap, .int .i64 r28, .int .u64 r29, .string r30, .string r31, .int .u64 r32, .int .u64 r33, .int .u64 r34, .int .i64 r35, .int .i64 r36, .int .i64 r37, .int .i64 r38] h41 fun (h42 : Heap) =>
  jn [] (fun  (h71 : Heap) =>
  f45_ b1 (IntKind.i64.wrap (8000 + (IntKind.i64.wrap (300 * ((l2.len : Nat) : Int))))) h71 fun (r72 : Bool) (h73 : Heap) =>
  brr r72
  (Q h73)
  (nn b1 fun (a74 : Addr) =>
  ld [.sl] (a74.add 27) h73 fun (v75 : Sl) =>
  al 87 [.slice l2.ptr l2.len l2.cap] h73 fun (a76 : Addr) (h77 : Heap) =>
  app 87 1 24 (.slice none 0 0) v75 (some a76) 1 h77 fun (s78 : Sl) (h79 : Heap) =>
  nn b1 fun (a80 : Addr) =>
  st (a80.add 27) [.slice s78.ptr s78.len s78.cap] h79 fun (h81 : Heap) =>
  nn b1 fun (a82 : Addr) =>
  ld [.sl] (a82.add 28) h81 fun (v83 : Sl) =>
  al 3 [.int .i64 v16] h81 fun (a84 : Addr) (h85 : Heap) =>
  app 3 1 8 (.int .i64 0) v83 (some a84) 1 h85 fun (s86 : Sl) (h87 : Heap) =>
  nn b1 fun (a88 : Addr) =>
  st (a88.add 28) [.slice s86.ptr s86.len s86.cap] h87 fun (h89 : Heap) =>
  Q h89)) (fun (j43 : Heap → Prop) =>
  F_law1_Book_Msgs.l2 l2 a40 j43 0 h42)) (fun (j3 : Heap → Prop) =>
  F_law1_Book_Msgs.l1 f24_ b1 l2 j3 0 h)
def F_law1_Book_Msgs (b1 : Option Addr) (l2 : Sl) (h : Heap) (Q : Heap → Prop) : Prop := F_law1_Book_Msgs_of F_law1_Book_Bytes F_law1_Book_tight F_law1_msgsMark b1 l2 h Q
def plan54 : Plan := .s (.s (.r [0, 1, 4]) (.bj [] [0, 1] (.l [(4, .one (.int .i64))] [0, 1] (.s (.s (.r [0, 1, 4, 11]) (.c .z .z)) (.s (.b (.r [0, 1, 4])) (.r [0, 1, 4])))))) (.s (.r [0, 1]) (.s (.r [0, 1, 5]) (.s (.r [0, 1, 5, 6]) (.s (.s (.r [0, 1, 5, 6, 7]) (.bj [] [0, 1, 5] (.l [(7, .one (.int .i64))] [0, 1, 5, 6] (.s (.s (.r [0, 1, 5, 6, 7, 37]) (.c .z .z)) (.s (.b (.r [0, 1, 5, 6, 7])) (.r [0, 1, 5, 6, 7])))))) (.s (.s (.r [0, 1, 5, 49]) (.c .z .z)) (.s (.r [0, 5]) (.r [])))))))
theorem F_law1_Book_Msgs.eq (f24_ : Option Addr → Sl → Heap → (Heap → Prop) → Prop) (f45_ : Option Addr → Int → Heap → (Bool → Heap → Prop) → Prop) (f88_ : Int → Heap → (Int → Int → Int → Int → Int → Int → Int → Int → Int → Int → Sl → Int → Int → ByteArray → ByteArray → Int → Int → Int → Int → Int → Int → Int → Heap → Prop) → Prop) (b1 : Option Addr) (l2 : Sl) (h : Heap) (K : Value → Heap → Prop) : F_law1_Book_Msgs_of f24_ f45_ f88_ b1 l2 h (fun  (h : Heap) => K (.tuple #[]) h) =
    den Tryz.prog (fn1 24 (E_law1_Book_Bytes_of f24_) (fn1 45 (E_law1_Book_tight_of f45_) (fn1 88 (E_law1_msgsMark_of f88_) noFns))) Tryz.f54.ntmps plan54 (bodyOf Tryz.f54) (args0 0 [(.pointer b1 : Value), (.slice l2.ptr l2.len l2.cap : Value)]) h ⟨fun env h => dRes Tryz.prog Tryz.f54.results.toList env h K, fun _ _ _ => False, fun env h => dRes Tryz.prog Tryz.f54.results.toList env h K⟩ := by kernel_rfl
def E_law1_Book_Msgs_of (f : Option Addr → Sl → Heap → (Heap → Prop) → Prop) : List Value → Heap → (Value → Heap → Prop) → Prop
  | [v0, v1], h, K => dec1 .ptr v0 fun (b1 : Option Addr) =>
  dec1 .sl v1 fun (l2 : Sl) =>
  f b1 l2 h (fun  (h : Heap) => K (.tuple #[]) h)
  | _, _, _ => False
abbrev E_law1_Book_Msgs := E_law1_Book_Msgs_of F_law1_Book_Msgs
theorem E_law1_Book_Msgs.right : IsRight Tryz.prog 54 E_law1_Book_Msgs := by
  refine isRight fun vs K w hh => ?_
  match vs, hh with
  | [v0, v1], hh =>
    unfold E_law1_Book_Msgs E_law1_Book_Msgs_of at hh
    replace hh := dec1_sound hh; obtain ⟨b1, rfl, hh⟩ := hh
    replace hh := dec1_sound hh; obtain ⟨l2, rfl, hh⟩ := hh
    unfold F_law1_Book_Msgs at hh
    exact calls_den (fn1_right ok24 E_law1_Book_Bytes.right (fn1_right ok45 E_law1_Book_tight.right (fn1_right ok88 E_law1_msgsMark.right noFns_right))) plan54 _ w K Tryz.func54 (by kernel_rfl) (by kernel_rfl) (Eq.mp (F_law1_Book_Msgs.eq F_law1_Book_Bytes F_law1_Book_tight F_law1_msgsMark b1 l2 w.heap K) hh)
theorem ok54 : okFn Tryz.prog 54 = true := by kernel_rfl
end Go.Proofs.YtigcpkejjjgkeaaGreat.V
namespace Go.Proofs.YtigcpkejjjgkeaaGreat.V
open Go Go.RowKit
set_option linter.unusedVariables false
set_option maxRecDepth 100000
def F_law10_Play_told_of (f53_ : Sl → Sl → Heap → (Bool → Heap → Prop) → Prop) (f54_ : Option Addr → Sl → Heap → (Heap → Prop) → Prop) (t1 : Option Addr) (a2 b3 : Sl) (h : Heap) (Q : Bool → Heap → Prop) : Prop :=
  f53_ a2 b3 h fun (r4 : Bool) (h5 : Heap) =>
  nn t1 fun (a6 : Addr) =>
  ld [.bool] (a6.add 6) h5 fun (v7 : Bool) =>
  jn [] (fun  (h12 : Heap) =>
  Q r4 h12) (fun (j8 : Heap → Prop) =>
  brr v7
  (nn t1 fun (a9 : Addr) =>
  ld [.ptr] (a9.add 5) h5 fun (v10 : Option Addr) =>
  f54_ v10 a2 h5 fun  (h11 : Heap) =>
  j8 h11)
  (j8 h5))
def F_law10_Play_told (t1 : Option Addr) (a2 b3 : Sl) (h : Heap) (Q : Bool → Heap → Prop) : Prop := F_law10_Play_told_of F_ref0_EqMsgs F_law1_Book_Msgs t1 a2 b3 h Q
def plan28 : Plan := .s (.r [0, 1, 2]) (.s (.r [0, 1, 7]) (.s (.s (.r [0, 1, 7, 14]) (.cj [] [7] (.r [7]) .z)) (.s (.r [6]) .z)))
theorem F_law10_Play_told.eq (f53_ : Sl → Sl → Heap → (Bool → Heap → Prop) → Prop) (f54_ : Option Addr → Sl → Heap → (Heap → Prop) → Prop) (t1 : Option Addr) (a2 b3 : Sl) (h : Heap) (K : Value → Heap → Prop) : F_law10_Play_told_of f53_ f54_ t1 a2 b3 h (fun (r0 : Bool) (h : Heap) => K (.bool r0) h) =
    den Tryz.prog (fn1 53 (E_ref0_EqMsgs_of f53_) (fn1 54 (E_law1_Book_Msgs_of f54_) noFns)) Tryz.f28.ntmps plan28 (bodyOf Tryz.f28) (args0 0 [(.pointer t1 : Value), (.slice a2.ptr a2.len a2.cap : Value), (.slice b3.ptr b3.len b3.cap : Value)]) h ⟨fun env h => dRes Tryz.prog Tryz.f28.results.toList env h K, fun _ _ _ => False, fun env h => dRes Tryz.prog Tryz.f28.results.toList env h K⟩ := by kernel_rfl
def E_law10_Play_told_of (f : Option Addr → Sl → Sl → Heap → (Bool → Heap → Prop) → Prop) : List Value → Heap → (Value → Heap → Prop) → Prop
  | [v0, v1, v2], h, K => dec1 .ptr v0 fun (t1 : Option Addr) =>
  dec1 .sl v1 fun (a2 : Sl) =>
  dec1 .sl v2 fun (b3 : Sl) =>
  f t1 a2 b3 h (fun (r0 : Bool) (h : Heap) => K (.bool r0) h)
  | _, _, _ => False
abbrev E_law10_Play_told := E_law10_Play_told_of F_law10_Play_told
theorem E_law10_Play_told.right : IsRight Tryz.prog 28 E_law10_Play_told := by
  refine isRight fun vs K w hh => ?_
  match vs, hh with
  | [v0, v1, v2], hh =>
    unfold E_law10_Play_told E_law10_Play_told_of at hh
    replace hh := dec1_sound hh; obtain ⟨t1, rfl, hh⟩ := hh
    replace hh := dec1_sound hh; obtain ⟨a2, rfl, hh⟩ := hh
    replace hh := dec1_sound hh; obtain ⟨b3, rfl, hh⟩ := hh
    unfold F_law10_Play_told at hh
    exact calls_den (fn1_right ok53 E_ref0_EqMsgs.right (fn1_right ok54 E_law1_Book_Msgs.right noFns_right)) plan28 _ w K Tryz.func28 (by kernel_rfl) (by kernel_rfl) (Eq.mp (F_law10_Play_told.eq F_ref0_EqMsgs F_law1_Book_Msgs t1 a2 b3 w.heap K) hh)
theorem ok28 : okFn Tryz.prog 28 = true := by kernel_rfl
end Go.Proofs.YtigcpkejjjgkeaaGreat.V
namespace Go.Proofs.YtigcpkejjjgkeaaGreat.V
open Go Go.RowKit
set_option linter.unusedVariables false
set_option maxRecDepth 100000
def F_law10_Play_message_of (f8_ : Int → Int → Heap → (Int → Heap → Prop) → Prop) (t1 : Option Addr) (o2 o3 o4 o5 o6 o7 : Int) (o8 : Sl) (o9 o10 o11 o12 o13 o14 o15 o16 o17 o18 o19 : Int) (o20 : Sl) (o21 o22 : Int) (o23 o24 : ByteArray) (o25 o26 o27 o28 o29 o30 o31 o32 : Int) (o33 : Sl) (h : Heap) (Q : Int → Int → Int → Int → Int → Int → Int → Int → Int → Int → Sl → Int → Int → ByteArray → ByteArray → Int → Int → Int → Int → Int → Int → Int → Heap → Prop) : Prop :=
  al 63 [.int .i64 o2, .int .i64 o3, .int .u64 o4, .int .u64 o5, .int .u64 o6, .int .u64 o7, .slice o8.ptr o8.len o8.cap, .int .i64 o9, .int .i64 o10, .int .i64 o11, .int .i64 o12, .int .i64 o13, .int .u64 o14, .int .u64 o15, .int .u64 o16, .int .u64 o17, .int .i64 o18, .int .u64 o19, .slice o20.ptr o20.len o20.cap, .int .i64 o21, .int .u64 o22, .string o23, .string o24, .int .u64 o25, .int .u64 o26, .int .u64 o27, .int .i64 o28, .int .i64 o29, .int .i64 o30, .int .i64 o31, .int .i64 o32, .slice o33.ptr o33.len o33.cap] h fun (a34 : Addr) (h35 : Heap) =>
  al 61 [.int .i64 0, .int .i64 0, .int .i64 0, .int .i64 0, .int .u64 0, .int .u64 0, .int .u64 0, .int .u64 0, .int .i64 0, .int .u64 0, .slice none 0 0, .int .i64 0, .int .u64 0, .string (⟨#[]⟩ : ByteArray), .string (⟨#[]⟩ : ByteArray), .int .u64 0, .int .u64 0, .int .u64 0, .int .i64 0, .int .i64 0, .int .i64 0, .int .i64 0] h35 fun (a36 : Addr) (h37 : Heap) =>
  ld [.int .i64, .int .i64, .int .i64, .int .i64, .int .u64, .int .u64, .int .u64, .int .u64, .int .i64, .int .u64, .sl, .int .i64, .int .u64, .str, .str, .int .u64, .int .u64, .int .u64, .int .i64, .int .i64, .int .i64, .int .i64] (a34.add 8) h37 fun (v38 v39 v40 v41 v42 v43 v44 v45 v46 v47 : Int) (v48 : Sl) (v49 v50 : Int) (v51 v52 : ByteArray) (v53 v54 v55 v56 v57 v58 v59 : Int) =>
  al 61 [.int .i64 0, .int .i64 0, .int .i64 0, .int .i64 0, .int .u64 0, .int .u64 0, .int .u64 0, .int .u64 0, .int .i64 0, .int .u64 0, .slice none 0 0, .int .i64 0, .int .u64 0, .string (⟨#[]⟩ : ByteArray), .string (⟨#[]⟩ : ByteArray), .int .u64 0, .int .u64 0, .int .u64 0, .int .i64 0, .int .i64 0, .int .i64 0, .int .i64 0] h37 fun (a60 : Addr) (h61 : Heap) =>
  st a60 [.int .i64 v38, .int .i64 v39, .int .i64 v40, .int .i64 v41, .int .u64 v42, .int .u64 v43, .int .u64 v44, .int .u64 v45, .int .i64 v46, .int .u64 v47, .slice v48.ptr v48.len v48.cap, .int .i64 v49, .int .u64 v50, .string v51, .string v52, .int .u64 v53, .int .u64 v54, .int .u64 v55, .int .i64 v56, .int .i64 v57, .int .i64 v58, .int .i64 v59] h61 fun (h62 : Heap) =>
  ld [.int .i64] (a34.add 30) h62 fun (v63 : Int) =>
  jn [] (fun  (h81 : Heap) =>
  ld [.int .i64, .int .i64, .int .i64, .int .i64, .int .u64, .int .u64, .int .u64, .int .u64, .int .i64, .int .u64, .sl, .int .i64, .int .u64, .str, .str, .int .u64, .int .u64, .int .u64, .int .i64, .int .i64, .int .i64, .int .i64] a60 h81 fun (v82 v83 v84 v85 v86 v87 v88 v89 v90 v91 : Int) (v92 : Sl) (v93 v94 : Int) (v95 v96 : ByteArray) (v97 v98 v99 v100 v101 v102 v103 : Int) =>
  st a36 [.int .i64 v82, .int .i64 v83, .int .i64 v84, .int .i64 v85, .int .u64 v86, .int .u64 v87, .int .u64 v88, .int .u64 v89, .int .i64 v90, .int .u64 v91, .slice v92.ptr v92.len v92.cap, .int .i64 v93, .int .u64 v94, .string v95, .string v96, .int .u64 v97, .int .u64 v98, .int .u64 v99, .int .i64 v100, .int .i64 v101, .int .i64 v102, .int .i64 v103] h81 fun (h104 : Heap) =>
  ld [.int .i64, .int .i64, .int .i64, .int .i64, .int .u64, .int .u64, .int .u64, .int .u64, .int .i64, .int .u64, .sl, .int .i64, .int .u64, .str, .str, .int .u64, .int .u64, .int .u64, .int .i64, .int .i64, .int .i64, .int .i64] a36 h104 fun (v105 v106 v107 v108 v109 v110 v111 v112 v113 v114 : Int) (v115 : Sl) (v116 v117 : Int) (v118 v119 : ByteArray) (v120 v121 v122 v123 v124 v125 v126 : Int) =>
  Q v105 v106 v107 v108 v109 v110 v111 v112 v113 v114 v115 v116 v117 v118 v119 v120 v121 v122 v123 v124 v125 v126 h104) (fun (j64 : Heap → Prop) =>
  brr (decide (v63 > 0))
  (nn t1 fun (a65 : Addr) =>
  ld [.int .i64] (a65.add 2) h62 fun (v66 : Int) =>
  st ((a60.add 0).add 2) [.int .i64 v66] h62 fun (h67 : Heap) =>
  nn t1 fun (a68 : Addr) =>
  ld [.int .i64] (a68.add 3) h67 fun (v69 : Int) =>
  st ((a60.add 0).add 3) [.int .i64 v69] h67 fun (h70 : Heap) =>
  nn t1 fun (a71 : Addr) =>
  ld [.sl] (a71.add 4) h70 fun (v72 : Sl) =>
  ld [.int .i64] (a34.add 30) h70 fun (v73 : Int) =>
  nn t1 fun (a74 : Addr) =>
  ld [.sl] (a74.add 4) h70 fun (v75 : Sl) =>
  f8_ v73 ((v75.len : Nat) : Int) h70 fun (r76 : Int) (h77 : Heap) =>
  cellsAre h77 (a71.add 4) [.slice v72.ptr v72.len v72.cap] ∧
  ixS 1 v72 r76 fun (a78 : Addr) =>
  ld [.int .i64] a78 h77 fun (v79 : Int) =>
  st ((a60.add 0).add 1) [.int .i64 v79] h77 fun (h80 : Heap) =>
  j64 h80)
  (j64 h62))
def F_law10_Play_message (t1 : Option Addr) (o2 o3 o4 o5 o6 o7 : Int) (o8 : Sl) (o9 o10 o11 o12 o13 o14 o15 o16 o17 o18 o19 : Int) (o20 : Sl) (o21 o22 : Int) (o23 o24 : ByteArray) (o25 o26 o27 o28 o29 o30 o31 o32 : Int) (o33 : Sl) (h : Heap) (Q : Int → Int → Int → Int → Int → Int → Int → Int → Int → Int → Sl → Int → Int → ByteArray → ByteArray → Int → Int → Int → Int → Int → Int → Int → Heap → Prop) : Prop := F_law10_Play_message_of F_law10_into t1 o2 o3 o4 o5 o6 o7 o8 o9 o10 o11 o12 o13 o14 o15 o16 o17 o18 o19 o20 o21 o22 o23 o24 o25 o26 o27 o28 o29 o30 o31 o32 o33 h Q
def plan30 : Plan := .s (.r [0, 3, 4]) (.s (.r [0, 3, 4, 5]) (.s (.s (.r [0, 3, 4, 5, 10]) (.cj [] [4, 5] (.s (.r [0, 3, 4, 5]) (.s (.r [0, 3, 4, 5]) (.d [0, 1, 3, 7, 0, 16, 0, 64, 192, 448, 960, 2032, 4095, 8191, 16383, 32767, 65535] [[0, 1, 2, 3, 4, 5, 6, 7, 8, 9, 10, 11, 12, 13, 14, 15, 16]] [4, 5]))) .z)) (.s (.r [4]) .z)))
theorem F_law10_Play_message.eq (f8_ : Int → Int → Heap → (Int → Heap → Prop) → Prop) (t1 : Option Addr) (o2 o3 o4 o5 o6 o7 : Int) (o8 : Sl) (o9 o10 o11 o12 o13 o14 o15 o16 o17 o18 o19 : Int) (o20 : Sl) (o21 o22 : Int) (o23 o24 : ByteArray) (o25 o26 o27 o28 o29 o30 o31 o32 : Int) (o33 : Sl) (h : Heap) (K : Value → Heap → Prop) : F_law10_Play_message_of f8_ t1 o2 o3 o4 o5 o6 o7 o8 o9 o10 o11 o12 o13 o14 o15 o16 o17 o18 o19 o20 o21 o22 o23 o24 o25 o26 o27 o28 o29 o30 o31 o32 o33 h (fun (r0 r1 r2 r3 r4 r5 r6 r7 r8 r9 : Int) (r10 : Sl) (r11 r12 : Int) (r13 r14 : ByteArray) (r15 r16 r17 r18 r19 r20 r21 : Int) (h : Heap) => K (.agg #[.int .i64 r0, .int .i64 r1, .int .i64 r2, .int .i64 r3, .int .u64 r4, .int .u64 r5, .int .u64 r6, .int .u64 r7, .int .i64 r8, .int .u64 r9, .slice r10.ptr r10.len r10.cap, .int .i64 r11, .int .u64 r12, .string r13, .string r14, .int .u64 r15, .int .u64 r16, .int .u64 r17, .int .i64 r18, .int .i64 r19, .int .i64 r20, .int .i64 r21]) h) =
    den Tryz.prog (fn1 8 (E_law10_into_of f8_) noFns) Tryz.f30.ntmps plan30 (bodyOf Tryz.f30) (args0 0 [(.pointer t1 : Value), (.agg #[.int .i64 o2, .int .i64 o3, .int .u64 o4, .int .u64 o5, .int .u64 o6, .int .u64 o7, .slice o8.ptr o8.len o8.cap, .int .i64 o9, .int .i64 o10, .int .i64 o11, .int .i64 o12, .int .i64 o13, .int .u64 o14, .int .u64 o15, .int .u64 o16, .int .u64 o17, .int .i64 o18, .int .u64 o19, .slice o20.ptr o20.len o20.cap, .int .i64 o21, .int .u64 o22, .string o23, .string o24, .int .u64 o25, .int .u64 o26, .int .u64 o27, .int .i64 o28, .int .i64 o29, .int .i64 o30, .int .i64 o31, .int .i64 o32, .slice o33.ptr o33.len o33.cap] : Value)]) h ⟨fun env h => dRes Tryz.prog Tryz.f30.results.toList env h K, fun _ _ _ => False, fun env h => dRes Tryz.prog Tryz.f30.results.toList env h K⟩ := by kernel_rfl
def E_law10_Play_message_of (f : Option Addr → Int → Int → Int → Int → Int → Int → Sl → Int → Int → Int → Int → Int → Int → Int → Int → Int → Int → Int → Sl → Int → Int → ByteArray → ByteArray → Int → Int → Int → Int → Int → Int → Int → Int → Sl → Heap → (Int → Int → Int → Int → Int → Int → Int → Int → Int → Int → Sl → Int → Int → ByteArray → ByteArray → Int → Int → Int → Int → Int → Int → Int → Heap → Prop) → Prop) : List Value → Heap → (Value → Heap → Prop) → Prop
  | [v0, v1], h, K => dec1 .ptr v0 fun (t1 : Option Addr) =>
  vAgg v1 fun cs1 => decs [.int .i64, .int .i64, .int .u64, .int .u64, .int .u64, .int .u64, .sl, .int .i64, .int .i64, .int .i64, .int .i64, .int .i64, .int .u64, .int .u64, .int .u64, .int .u64, .int .i64, .int .u64, .sl, .int .i64, .int .u64, .str, .str, .int .u64, .int .u64, .int .u64, .int .i64, .int .i64, .int .i64, .int .i64, .int .i64, .sl] cs1.toList fun (o2 o3 o4 o5 o6 o7 : Int) (o8 : Sl) (o9 o10 o11 o12 o13 o14 o15 o16 o17 o18 o19 : Int) (o20 : Sl) (o21 o22 : Int) (o23 o24 : ByteArray) (o25 o26 o27 o28 o29 o30 o31 o32 : Int) (o33 : Sl) =>
  f t1 o2 o3 o4 o5 o6 o7 o8 o9 o10 o11 o12 o13 o14 o15 o16 o17 o18 o19 o20 o21 o22 o23 o24 o25 o26 o27 o28 o29 o30 o31 o32 o33 h (fun (r0 r1 r2 r3 r4 r5 r6 r7 r8 r9 : Int) (r10 : Sl) (r11 r12 : Int) (r13 r14 : ByteArray) (r15 r16 r17 r18 r19 r20 r21 : Int) (h : Heap) => K (.agg #[.int .i64 r0, .int .i64 r1, .int .i64 r2, .int .i64 r3, .int .u64 r4, .int .u64 r5, .int .u64 r6, .int .u64 r7, .int .i64 r8, .int .u64 r9, .slice r10.ptr r10.len r10.cap, .int .i64 r11, .int .u64 r12, .string r13, .string r14, .int .u64 r15, .int .u64 r16, .int .u64 r17, .int .i64 r18, .int .i64 r19, .int .i64 r20, .int .i64 r21]) h)
  | _, _, _ => False
abbrev E_law10_Play_message := E_law10_Play_message_of F_law10_Play_message
theorem E_law10_Play_message.right : IsRight Tryz.prog 30 E_law10_Play_message := by
  refine isRight fun vs K w hh => ?_
  match vs, hh with
  | [v0, v1], hh =>
    unfold E_law10_Play_message E_law10_Play_message_of at hh
    replace hh := dec1_sound hh; obtain ⟨t1, rfl, hh⟩ := hh
    replace hh := vAgg_sound hh; obtain ⟨cs1, rfl, hh⟩ := hh
    replace hh := decs_cons hh; obtain ⟨o2, l1_0, e1_0, hh⟩ := hh
    replace hh := decs_cons hh; obtain ⟨o3, l1_1, e1_1, hh⟩ := hh
    replace hh := decs_cons hh; obtain ⟨o4, l1_2, e1_2, hh⟩ := hh
    replace hh := decs_cons hh; obtain ⟨o5, l1_3, e1_3, hh⟩ := hh
    replace hh := decs_cons hh; obtain ⟨o6, l1_4, e1_4, hh⟩ := hh
    replace hh := decs_cons hh; obtain ⟨o7, l1_5, e1_5, hh⟩ := hh
    replace hh := decs_cons hh; obtain ⟨o8, l1_6, e1_6, hh⟩ := hh
    replace hh := decs_cons hh; obtain ⟨o9, l1_7, e1_7, hh⟩ := hh
    replace hh := decs_cons hh; obtain ⟨o10, l1_8, e1_8, hh⟩ := hh
    replace hh := decs_cons hh; obtain ⟨o11, l1_9, e1_9, hh⟩ := hh
    replace hh := decs_cons hh; obtain ⟨o12, l1_10, e1_10, hh⟩ := hh
    replace hh := decs_cons hh; obtain ⟨o13, l1_11, e1_11, hh⟩ := hh
    replace hh := decs_cons hh; obtain ⟨o14, l1_12, e1_12, hh⟩ := hh
    replace hh := decs_cons hh; obtain ⟨o15, l1_13, e1_13, hh⟩ := hh
    replace hh := decs_cons hh; obtain ⟨o16, l1_14, e1_14, hh⟩ := hh
    replace hh := decs_cons hh; obtain ⟨o17, l1_15, e1_15, hh⟩ := hh
    replace hh := decs_cons hh; obtain ⟨o18, l1_16, e1_16, hh⟩ := hh
    replace hh := decs_cons hh; obtain ⟨o19, l1_17, e1_17, hh⟩ := hh
    replace hh := decs_cons hh; obtain ⟨o20, l1_18, e1_18, hh⟩ := hh
    replace hh := decs_cons hh; obtain ⟨o21, l1_19, e1_19, hh⟩ := hh
    replace hh := decs_cons hh; obtain ⟨o22, l1_20, e1_20, hh⟩ := hh
    replace hh := decs_cons hh; obtain ⟨o23, l1_21, e1_21, hh⟩ := hh
    replace hh := decs_cons hh; obtain ⟨o24, l1_22, e1_22, hh⟩ := hh
    replace hh := decs_cons hh; obtain ⟨o25, l1_23, e1_23, hh⟩ := hh
    replace hh := decs_cons hh; obtain ⟨o26, l1_24, e1_24, hh⟩ := hh
    replace hh := decs_cons hh; obtain ⟨o27, l1_25, e1_25, hh⟩ := hh
    replace hh := decs_cons hh; obtain ⟨o28, l1_26, e1_26, hh⟩ := hh
    replace hh := decs_cons hh; obtain ⟨o29, l1_27, e1_27, hh⟩ := hh
    replace hh := decs_cons hh; obtain ⟨o30, l1_28, e1_28, hh⟩ := hh
    replace hh := decs_cons hh; obtain ⟨o31, l1_29, e1_29, hh⟩ := hh
    replace hh := decs_cons hh; obtain ⟨o32, l1_30, e1_30, hh⟩ := hh
    replace hh := decs_cons hh; obtain ⟨o33, l1_31, e1_31, hh⟩ := hh
    replace hh := decs_nil hh; obtain ⟨rfl, hh⟩ := hh
    subst e1_31
    subst e1_30
    subst e1_29
    subst e1_28
    subst e1_27
    subst e1_26
    subst e1_25
    subst e1_24
    subst e1_23
    subst e1_22
    subst e1_21
    subst e1_20
    subst e1_19
    subst e1_18
    subst e1_17
    subst e1_16
    subst e1_15
    subst e1_14
    subst e1_13
    subst e1_12
    subst e1_11
    subst e1_10
    subst e1_9
    subst e1_8
    subst e1_7
    subst e1_6
    subst e1_5
    subst e1_4
    subst e1_3
    subst e1_2
    subst e1_1
    have ec1 := toArray_eq e1_0
    subst ec1
    unfold F_law10_Play_message at hh
    exact calls_den (fn1_right ok8 E_law10_into.right noFns_right) plan30 _ w K Tryz.func30 (by kernel_rfl) (by kernel_rfl) (Eq.mp (F_law10_Play_message.eq F_law10_into t1 o2 o3 o4 o5 o6 o7 o8 o9 o10 o11 o12 o13 o14 o15 o16 o17 o18 o19 o20 o21 o22 o23 o24 o25 o26 o27 o28 o29 o30 o31 o32 o33 w.heap K) hh)
theorem ok30 : okFn Tryz.prog 30 = true := by kernel_rfl
end Go.Proofs.YtigcpkejjjgkeaaGreat.V
namespace Go.Proofs.YtigcpkejjjgkeaaGreat.V
open Go Go.RowKit
set_option linter.unusedVariables false
set_option maxRecDepth 100000
def F_law10_Play_plays_of (f7_ : Option Addr → Heap → (Bool → Heap → Prop) → Prop) (f25_ : Option Addr → Sl → Heap → (Sl → Heap → Prop) → Prop) (f26_ : Option Addr → Int → Int → Int → Int → Sl → Int → Heap → (Sl → Heap → Prop) → Prop) (f27_ : Option Addr → Sl → Sl → Heap → (Bool → Heap → Prop) → Prop) (f28_ : Option Addr → Sl → Sl → Heap → (Bool → Heap → Prop) → Prop) (f29_ : Option Addr → Int → Int → Int → Int → Sl → Int → Heap → (Sl → Heap → Prop) → Prop) (f30_ : Option Addr → Int → Int → Int → Int → Int → Int → Sl → Int → Int → Int → Int → Int → Int → Int → Int → Int → Int → Int → Sl → Int → Int → ByteArray → ByteArray → Int → Int → Int → Int → Int → Int → Int → Int → Sl → Heap → (Int → Int → Int → Int → Int → Int → Int → Int → Int → Int → Sl → Int → Int → ByteArray → ByteArray → Int → Int → Int → Int → Int → Int → Int → Heap → Prop) → Prop) (f31_ : Option Addr → Int → Int → Int → Int → Int → Int → Int → Int → Int → Int → Sl → Int → Int → ByteArray → ByteArray → Int → Int → Int → Int → Int → Int → Int → Int → Heap → (Sl → Heap → Prop) → Prop) (f32_ : Option Addr → Int → Int → Int → Int → Int → Int → Int → Int → Int → Int → Sl → Int → Int → ByteArray → ByteArray → Int → Int → Int → Int → Int → Int → Int → Int → Heap → (Sl → Heap → Prop) → Prop) (f33_ : Option Addr → Sl → Int → Heap → (Sl → Bool → Heap → Prop) → Prop) (f34_ : Option Addr → Sl → Int → Heap → (Sl → Bool → Heap → Prop) → Prop) (f35_ : Option Addr → Int → Heap → (Sl → Heap → Prop) → Prop) (f36_ : Option Addr → Int → Heap → (Sl → Heap → Prop) → Prop) (f37_ : Option Addr → Heap → (Heap → Prop) → Prop) (f38_ : Option Addr → Heap → (Heap → Prop) → Prop) (t1 : Option Addr) (o2 o3 o4 o5 o6 o7 : Int) (o8 : Sl) (o9 o10 o11 o12 o13 o14 o15 o16 o17 o18 o19 : Int) (o20 : Sl) (o21 o22 : Int) (o23 o24 : ByteArray) (o25 o26 o27 o28 o29 o30 o31 o32 : Int) (o33 : Sl) (h : Heap) (Q : Bool → Heap → Prop) : Prop :=
  al 63 [.int .i64 o2, .int .i64 o3, .int .u64 o4, .int .u64 o5, .int .u64 o6, .int .u64 o7, .slice o8.ptr o8.len o8.cap, .int .i64 o9, .int .i64 o10, .int .i64 o11, .int .i64 o12, .int .i64 o13, .int .u64 o14, .int .u64 o15, .int .u64 o16, .int .u64 o17, .int .i64 o18, .int .u64 o19, .slice o20.ptr o20.len o20.cap, .int .i64 o21, .int .u64 o22, .string o23, .string o24, .int .u64 o25, .int .u64 o26, .int .u64 o27, .int .i64 o28, .int .i64 o29, .int .i64 o30, .int .i64 o31, .int .i64 o32, .slice o33.ptr o33.len o33.cap] h fun (a34 : Addr) (h35 : Heap) =>
  ld [.int .i64] (a34.add 0) h35 fun (v36 : Int) =>
  brr (v36 == 1)
  (ld [.int .u64, .int .u64, .int .u64, .sl] (a34.add 3) h35 fun (v37 v38 v39 : Int) (v40 : Sl) =>
  al 54 [.int .u64 0, .int .u64 0, .int .u64 0, .slice none 0 0] h35 fun (a41 : Addr) (h42 : Heap) =>
  st a41 [.int .u64 v37, .int .u64 v38, .int .u64 v39, .slice v40.ptr v40.len v40.cap] h42 fun (h43 : Heap) =>
  ld [.sl] ((a34.add 3).add 3) h43 fun (v44 : Sl) =>
  f25_ t1 v44 h43 fun (r45 : Sl) (h46 : Heap) =>
  st (a41.add 3) [.slice r45.ptr r45.len r45.cap] h46 fun (h47 : Heap) =>
  nn t1 fun (a48 : Addr) =>
  ld [.ptr] (a48.add 0) h47 fun (v49 : Option Addr) =>
  ld [.int .u64] (a34.add 2) h47 fun (v50 : Int) =>
  ld [.int .u64, .int .u64, .int .u64, .sl] a41 h47 fun (v51 v52 v53 : Int) (v54 : Sl) =>
  ld [.int .i64] (a34.add 7) h47 fun (v55 : Int) =>
  f26_ v49 v50 v51 v52 v53 v54 v55 h47 fun (r56 : Sl) (h57 : Heap) =>
  ld [.sl] (a41.add 3) h57 fun (v58 : Sl) =>
  ld [.sl] ((a34.add 3).add 3) h57 fun (v59 : Sl) =>
  f27_ t1 v58 v59 h57 fun (r60 : Bool) (h61 : Heap) =>
  jn [(4, .one .bool)] (fun (x75 : Bool) (h76 : Heap) =>
  Q x75 h76) (fun (j62 : Bool → Heap → Prop) =>
  brr r60
  (nn t1 fun (a63 : Addr) =>
  ld [.ptr] (a63.add 1) h61 fun (v64 : Option Addr) =>
  ld [.int .u64] (a34.add 2) h61 fun (v65 : Int) =>
  ld [.int .u64, .int .u64, .int .u64, .sl] (a34.add 3) h61 fun (v66 v67 v68 : Int) (v69 : Sl) =>
  ld [.int .i64] (a34.add 7) h61 fun (v70 : Int) =>
  f29_ v64 v65 v66 v67 v68 v69 v70 h61 fun (r71 : Sl) (h72 : Heap) =>
  f28_ t1 r56 r71 h72 fun (r73 : Bool) (h74 : Heap) =>
  j62 r73 h74)
  (j62 false h61)))
  (brr (v36 == 2)
  (ld [.int .i64, .int .i64, .int .u64, .int .u64, .int .u64, .int .u64, .sl, .int .i64, .int .i64, .int .i64, .int .i64, .int .i64, .int .u64, .int .u64, .int .u64, .int .u64, .int .i64, .int .u64, .sl, .int .i64, .int .u64, .str, .str, .int .u64, .int .u64, .int .u64, .int .i64, .int .i64, .int .i64, .int .i64, .int .i64, .sl] a34 h35 fun (v77 v78 v79 v80 v81 v82 : Int) (v83 : Sl) (v84 v85 v86 v87 v88 v89 v90 v91 v92 v93 v94 : Int) (v95 : Sl) (v96 v97 : Int) (v98 v99 : ByteArray) (v100 v101 v102 v103 v104 v105 v106 v107 : Int) (v108 : Sl) =>
  f30_ t1 v77 v78 v79 v80 v81 v82 v83 v84 v85 v86 v87 v88 v89 v90 v91 v92 v93 v94 v95 v96 v97 v98 v99 v100 v101 v102 v103 v104 v105 v106 v107 v108 h35 fun (r109 r110 r111 r112 r113 r114 r115 r116 r117 r118 : Int) (r119 : Sl) (r120 r121 : Int) (r122 r123 : ByteArray) (r124 r125 r126 r127 r128 r129 r130 : Int) (h131 : Heap) =>
  al 61 [.int .i64 0, .int .i64 0, .int .i64 0, .int .i64 0, .int .u64 0, .int .u64 0, .int .u64 0, .int .u64 0, .int .i64 0, .int .u64 0, .slice none 0 0, .int .i64 0, .int .u64 0, .string (⟨#[]⟩ : ByteArray), .string (⟨#[]⟩ : ByteArray), .int .u64 0, .int .u64 0, .int .u64 0, .int .i64 0, .int .i64 0, .int .i64 0, .int .i64 0] h131 fun (a132 : Addr) (h133 : Heap) =>
  st a132 [.int .i64 r109, .int .i64 r110, .int .i64 r111, .int .i64 r112, .int .u64 r113, .int .u64 r114, .int .u64 r115, .int .u64 r116, .int .i64 r117, .int .u64 r118, .slice r119.ptr r119.len r119.cap, .int .i64 r120, .int .u64 r121, .string r122, .string r123, .int .u64 r124, .int .u64 r125, .int .u64 r126, .int .i64 r127, .int .i64 r128, .int .i64 r129, .int .i64 r130] h133 fun (h134 : Heap) =>
  ld [.int .i64, .int .i64, .int .i64, .int .i64, .int .u64, .int .u64, .int .u64, .int .u64, .int .i64, .int .u64, .sl, .int .i64, .int .u64, .str, .str, .int .u64, .int .u64, .int .u64, .int .i64, .int .i64, .int .i64, .int .i64] a132 h134 fun (v135 v136 v137 v138 v139 v140 v141 v142 v143 v144 : Int) (v145 : Sl) (v146 v147 : Int) (v148 v149 : ByteArray) (v150 v151 v152 v153 v154 v155 v156 : Int) =>
  al 61 [.int .i64 0, .int .i64 0, .int .i64 0, .int .i64 0, .int .u64 0, .int .u64 0, .int .u64 0, .int .u64 0, .int .i64 0, .int .u64 0, .slice none 0 0, .int .i64 0, .int .u64 0, .string (⟨#[]⟩ : ByteArray), .string (⟨#[]⟩ : ByteArray), .int .u64 0, .int .u64 0, .int .u64 0, .int .i64 0, .int .i64 0, .int .i64 0, .int .i64 0] h134 fun (a157 : Addr) (h158 : Heap) =>
  st a157 [.int .i64 v135, .int .i64 v136, .int .i64 v137, .int .i64 v138, .int .u64 v139, .int .u64 v140, .int .u64 v141, .int .u64 v142, .int .i64 v143, .int .u64 v144, .slice v145.ptr v145.len v145.cap, .int .i64 v146, .int .u64 v147, .string v148, .string v149, .int .u64 v150, .int .u64 v151, .int .u64 v152, .int .i64 v153, .int .i64 v154, .int .i64 v155, .int .i64 v156] h158 fun (h159 : Heap) =>
  ld [.sl] (a132.add 10) h159 fun (v160 : Sl) =>
  f25_ t1 v160 h159 fun (r161 : Sl) (h162 : Heap) =>
  st (a157.add 10) [.slice r161.ptr r161.len r161.cap] h162 fun (h163 : Heap) =>
  nn t1 fun (a164 : Addr) =>
  ld [.ptr] (a164.add 0) h163 fun (v165 : Option Addr) =>
  ld [.int .i64, .int .i64, .int .i64, .int .i64, .int .u64, .int .u64, .int .u64, .int .u64, .int .i64, .int .u64, .sl, .int .i64, .int .u64, .str, .str, .int .u64, .int .u64, .int .u64, .int .i64, .int .i64, .int .i64, .int .i64] a157 h163 fun (v166 v167 v168 v169 v170 v171 v172 v173 v174 v175 : Int) (v176 : Sl) (v177 v178 : Int) (v179 v180 : ByteArray) (v181 v182 v183 v184 v185 v186 v187 : Int) =>
  ld [.int .i64] (a34.add 7) h163 fun (v188 : Int) =>
  f31_ v165 v166 v167 v168 v169 v170 v171 v172 v173 v174 v175 v176 v177 v178 v179 v180 v181 v182 v183 v184 v185 v186 v187 v188 h163 fun (r189 : Sl) (h190 : Heap) =>
  ld [.sl] (a157.add 10) h190 fun (v191 : Sl) =>
  ld [.sl] (a132.add 10) h190 fun (v192 : Sl) =>
  f27_ t1 v191 v192 h190 fun (r193 : Bool) (h194 : Heap) =>
  jn [(4, .one .bool)] (fun (x225 : Bool) (h226 : Heap) =>
  Q x225 h226) (fun (j195 : Bool → Heap → Prop) =>
  brr r193
  (nn t1 fun (a196 : Addr) =>
  ld [.ptr] (a196.add 1) h194 fun (v197 : Option Addr) =>
  ld [.int .i64, .int .i64, .int .i64, .int .i64, .int .u64, .int .u64, .int .u64, .int .u64, .int .i64, .int .u64, .sl, .int .i64, .int .u64, .str, .str, .int .u64, .int .u64, .int .u64, .int .i64, .int .i64, .int .i64, .int .i64] a132 h194 fun (v198 v199 v200 v201 v202 v203 v204 v205 v206 v207 : Int) (v208 : Sl) (v209 v210 : Int) (v211 v212 : ByteArray) (v213 v214 v215 v216 v217 v218 v219 : Int) =>
  ld [.int .i64] (a34.add 7) h194 fun (v220 : Int) =>
  f32_ v197 v198 v199 v200 v201 v202 v203 v204 v205 v206 v207 v208 v209 v210 v211 v212 v213 v214 v215 v216 v217 v218 v219 v220 h194 fun (r221 : Sl) (h222 : Heap) =>
  f28_ t1 r189 r221 h222 fun (r223 : Bool) (h224 : Heap) =>
  j195 r223 h224)
  (j195 false h194)))
  (brr (v36 == 3)
  (ld [.sl] (a34.add 31) h35 fun (v227 : Sl) =>
  f25_ t1 v227 h35 fun (r228 : Sl) (h229 : Heap) =>
  nn t1 fun (a230 : Addr) =>
  ld [.ptr] (a230.add 0) h229 fun (v231 : Option Addr) =>
  ld [.int .i64] (a34.add 7) h229 fun (v232 : Int) =>
  f33_ v231 r228 v232 h229 fun (r233 : Sl) (r234 : Bool) (h235 : Heap) =>
  ld [.sl] (a34.add 31) h235 fun (v236 : Sl) =>
  f27_ t1 r228 v236 h235 fun (r237 : Bool) (h238 : Heap) =>
  nn t1 fun (a239 : Addr) =>
  ld [.ptr] (a239.add 1) h238 fun (v240 : Option Addr) =>
  ld [.sl] (a34.add 31) h238 fun (v241 : Sl) =>
  ld [.int .i64] (a34.add 7) h238 fun (v242 : Int) =>
  f34_ v240 v241 v242 h238 fun (r243 : Sl) (r244 : Bool) (h245 : Heap) =>
  jn [(4, .one .bool)] (fun (x249 : Bool) (h250 : Heap) =>
  Q x249 h250) (fun (j246 : Bool → Heap → Prop) =>
  brr r237
  (brr (r234 == r244)
  (f28_ t1 r233 r243 h245 fun (r247 : Bool) (h248 : Heap) =>
  j246 r247 h248)
  (j246 false h245))
  (j246 false h245)))
  (brr (v36 == 4)
  (nn t1 fun (a251 : Addr) =>
  ld [.ptr] (a251.add 0) h35 fun (v252 : Option Addr) =>
  ld [.int .i64] (a34.add 7) h35 fun (v253 : Int) =>
  f35_ v252 v253 h35 fun (r254 : Sl) (h255 : Heap) =>
  nn t1 fun (a256 : Addr) =>
  ld [.ptr] (a256.add 1) h255 fun (v257 : Option Addr) =>
  ld [.int .i64] (a34.add 7) h255 fun (v258 : Int) =>
  f36_ v257 v258 h255 fun (r259 : Sl) (h260 : Heap) =>
  f28_ t1 r254 r259 h260 fun (r261 : Bool) (h262 : Heap) =>
  Q r261 h262)
  (jn [] (fun  (h272 : Heap) =>
  Q true h272) (fun (j263 : Heap → Prop) =>
  brr (v36 == 5)
  (nn t1 fun (a264 : Addr) =>
  ld [.ptr] (a264.add 0) h35 fun (v265 : Option Addr) =>
  f37_ v265 h35 fun  (h266 : Heap) =>
  nn t1 fun (a267 : Addr) =>
  ld [.ptr] (a267.add 1) h266 fun (v268 : Option Addr) =>
  f38_ v268 h266 fun  (h269 : Heap) =>
  j263 h269)
  (brr (v36 == 6)
  (f7_ t1 h35 fun (r270 : Bool) (h271 : Heap) =>
  Q r270 h271)
  (j263 h35)))))))
def F_law10_Play_plays (t1 : Option Addr) (o2 o3 o4 o5 o6 o7 : Int) (o8 : Sl) (o9 o10 o11 o12 o13 o14 o15 o16 o17 o18 o19 : Int) (o20 : Sl) (o21 o22 : Int) (o23 o24 : ByteArray) (o25 o26 o27 o28 o29 o30 o31 o32 : Int) (o33 : Sl) (h : Heap) (Q : Bool → Heap → Prop) : Prop := F_law10_Play_plays_of F_law10_Play_looks F_law10_Play_given F_quorum_Quorum_Start F_law10_Play_kept F_law10_Play_told F_ref10_Quorum_Start F_law10_Play_message F_quorum_Quorum_Hear F_ref10_Quorum_Hear F_quorum_Quorum_Propose F_ref10_Quorum_Propose F_quorum_Quorum_Tick F_ref10_Quorum_Tick F_quorum_Quorum_Stop F_ref10_Quorum_Stop t1 o2 o3 o4 o5 o6 o7 o8 o9 o10 o11 o12 o13 o14 o15 o16 o17 o18 o19 o20 o21 o22 o23 o24 o25 o26 o27 o28 o29 o30 o31 o32 o33 h Q
def plan9 : Plan := .s (.r [0, 3]) (.s (.s (.r [0, 3, 20]) (.b (.s (.r [0, 3, 20, 21]) (.c (.s (.r [0, 3, 5]) (.s (.r [0, 3, 5]) (.s (.d [0, 1, 3, 7, 0, 16, 0, 0, 128, 511, 1023] [[0, 1, 2, 3, 4, 5, 6, 7, 8, 9, 10]] [0, 3, 5, 6]) (.s (.r [0, 3, 6, 7]) (.s (.dj [0, 1, 3, 3, 3, 19, 51, 115, 3, 259, 3, 1027, 3, 4099, 16371, 32767, 65535, 131071] [[0, 1, 2, 3, 4, 5, 6, 7, 8, 9, 10, 11, 12, 13, 14, 15, 16, 17]] [(4, .one .bool)] []) .z))))) (.s (.r [0, 3, 20, 65]) (.c (.s (.r [0, 3, 8]) (.s (.r [0, 3, 8, 9]) (.s (.r [0, 3, 8, 9]) (.s (.d [0, 1, 3, 7, 0, 0, 32, 127, 255] [[0, 1, 2, 3, 4, 5, 6, 7, 8]] [0, 3, 8, 9, 10]) (.s (.r [0, 3, 8, 10, 11]) (.s (.dj [0, 1, 3, 3, 3, 19, 51, 115, 3, 3, 515, 2035, 4095, 8191, 16383] [[0, 1, 2, 3, 4, 5, 6, 7, 8, 9, 10, 11, 12, 13, 14]] [(4, .one .bool)] []) .z)))))) (.s (.r [0, 3, 20, 104]) (.c (.s (.r [0, 3, 12]) (.s (.d [0, 1, 3, 7, 0, 0, 32, 127, 255, 511, 511, 1023, 4095] [[0, 1, 2, 3, 4, 5, 6, 7, 8, 9, 10, 11, 12]] [0, 3, 12, 13, 14]) (.s (.r [0, 3, 13, 14, 15]) (.s (.d [0, 1, 3, 7, 0, 16, 0, 64, 255, 511, 1023, 1023, 2047, 8191] [[0, 1, 2, 3, 4, 5, 6, 7, 8, 9, 10, 11, 12, 13]] [0, 13, 14, 15, 16, 17]) (.s (.rj [(4, .one .bool)] []) .z))))) (.s (.r [0, 3, 20, 150]) (.c (.s (.d [0, 1, 3, 7, 0, 16, 63, 127] [[0, 1, 2, 3, 4, 5, 6, 7]] [0, 3, 18]) (.s (.d [0, 0, 0, 4, 12, 28, 0, 64, 252, 511, 1023] [[0, 1, 2, 3, 4, 5, 6, 7, 8, 9, 10]] [4]) .z)) (.s (.r [0, 20, 169]) (.cj [] [] (.s (.r [0]) (.r [])) (.s (.r [0, 181]) (.c (.s (.r [4]) .z) .z)))))))))))))) (.s (.r [4]) .z))
theorem F_law10_Play_plays.eq (f7_ : Option Addr → Heap → (Bool → Heap → Prop) → Prop) (f25_ : Option Addr → Sl → Heap → (Sl → Heap → Prop) → Prop) (f26_ : Option Addr → Int → Int → Int → Int → Sl → Int → Heap → (Sl → Heap → Prop) → Prop) (f27_ : Option Addr → Sl → Sl → Heap → (Bool → Heap → Prop) → Prop) (f28_ : Option Addr → Sl → Sl → Heap → (Bool → Heap → Prop) → Prop) (f29_ : Option Addr → Int → Int → Int → Int → Sl → Int → Heap → (Sl → Heap → Prop) → Prop) (f30_ : Option Addr → Int → Int → Int → Int → Int → Int → Sl → Int → Int → Int → Int → Int → Int → Int → Int → Int → Int → Int → Sl → Int → Int → ByteArray → ByteArray → Int → Int → Int → Int → Int → Int → Int → Int → Sl → Heap → (Int → Int → Int → Int → Int → Int → Int → Int → Int → Int → Sl → Int → Int → ByteArray → ByteArray → Int → Int → Int → Int → Int → Int → Int → Heap → Prop) → Prop) (f31_ : Option Addr → Int → Int → Int → Int → Int → Int → Int → Int → Int → Int → Sl → Int → Int → ByteArray → ByteArray → Int → Int → Int → Int → Int → Int → Int → Int → Heap → (Sl → Heap → Prop) → Prop) (f32_ : Option Addr → Int → Int → Int → Int → Int → Int → Int → Int → Int → Int → Sl → Int → Int → ByteArray → ByteArray → Int → Int → Int → Int → Int → Int → Int → Int → Heap → (Sl → Heap → Prop) → Prop) (f33_ : Option Addr → Sl → Int → Heap → (Sl → Bool → Heap → Prop) → Prop) (f34_ : Option Addr → Sl → Int → Heap → (Sl → Bool → Heap → Prop) → Prop) (f35_ : Option Addr → Int → Heap → (Sl → Heap → Prop) → Prop) (f36_ : Option Addr → Int → Heap → (Sl → Heap → Prop) → Prop) (f37_ : Option Addr → Heap → (Heap → Prop) → Prop) (f38_ : Option Addr → Heap → (Heap → Prop) → Prop) (t1 : Option Addr) (o2 o3 o4 o5 o6 o7 : Int) (o8 : Sl) (o9 o10 o11 o12 o13 o14 o15 o16 o17 o18 o19 : Int) (o20 : Sl) (o21 o22 : Int) (o23 o24 : ByteArray) (o25 o26 o27 o28 o29 o30 o31 o32 : Int) (o33 : Sl) (h : Heap) (K : Value → Heap → Prop) : F_law10_Play_plays_of f7_ f25_ f26_ f27_ f28_ f29_ f30_ f31_ f32_ f33_ f34_ f35_ f36_ f37_ f38_ t1 o2 o3 o4 o5 o6 o7 o8 o9 o10 o11 o12 o13 o14 o15 o16 o17 o18 o19 o20 o21 o22 o23 o24 o25 o26 o27 o28 o29 o30 o31 o32 o33 h (fun (r0 : Bool) (h : Heap) => K (.bool r0) h) =
    den Tryz.prog (fn1 7 (E_law10_Play_looks_of f7_) (fn1 25 (E_law10_Play_given_of f25_) (fn1 26 (E_quorum_Quorum_Start_of f26_) (fn1 27 (E_law10_Play_kept_of f27_) (fn1 28 (E_law10_Play_told_of f28_) (fn1 29 (E_ref10_Quorum_Start_of f29_) (fn1 30 (E_law10_Play_message_of f30_) (fn1 31 (E_quorum_Quorum_Hear_of f31_) (fn1 32 (E_ref10_Quorum_Hear_of f32_) (fn1 33 (E_quorum_Quorum_Propose_of f33_) (fn1 34 (E_ref10_Quorum_Propose_of f34_) (fn1 35 (E_quorum_Quorum_Tick_of f35_) (fn1 36 (E_ref10_Quorum_Tick_of f36_) (fn1 37 (E_quorum_Quorum_Stop_of f37_) (fn1 38 (E_ref10_Quorum_Stop_of f38_) noFns))))))))))))))) Tryz.f9.ntmps plan9 (bodyOf Tryz.f9) (args0 0 [(.pointer t1 : Value), (.agg #[.int .i64 o2, .int .i64 o3, .int .u64 o4, .int .u64 o5, .int .u64 o6, .int .u64 o7, .slice o8.ptr o8.len o8.cap, .int .i64 o9, .int .i64 o10, .int .i64 o11, .int .i64 o12, .int .i64 o13, .int .u64 o14, .int .u64 o15, .int .u64 o16, .int .u64 o17, .int .i64 o18, .int .u64 o19, .slice o20.ptr o20.len o20.cap, .int .i64 o21, .int .u64 o22, .string o23, .string o24, .int .u64 o25, .int .u64 o26, .int .u64 o27, .int .i64 o28, .int .i64 o29, .int .i64 o30, .int .i64 o31, .int .i64 o32, .slice o33.ptr o33.len o33.cap] : Value)]) h ⟨fun env h => dRes Tryz.prog Tryz.f9.results.toList env h K, fun _ _ _ => False, fun env h => dRes Tryz.prog Tryz.f9.results.toList env h K⟩ := by kernel_rfl
def E_law10_Play_plays_of (f : Option Addr → Int → Int → Int → Int → Int → Int → Sl → Int → Int → Int → Int → Int → Int → Int → Int → Int → Int → Int → Sl → Int → Int → ByteArray → ByteArray → Int → Int → Int → Int → Int → Int → Int → Int → Sl → Heap → (Bool → Heap → Prop) → Prop) : List Value → Heap → (Value → Heap → Prop) → Prop
  | [v0, v1], h, K => dec1 .ptr v0 fun (t1 : Option Addr) =>
  vAgg v1 fun cs1 => decs [.int .i64, .int .i64, .int .u64, .int .u64, .int .u64, .int .u64, .sl, .int .i64, .int .i64, .int .i64, .int .i64, .int .i64, .int .u64, .int .u64, .int .u64, .int .u64, .int .i64, .int .u64, .sl, .int .i64, .int .u64, .str, .str, .int .u64, .int .u64, .int .u64, .int .i64, .int .i64, .int .i64, .int .i64, .int .i64, .sl] cs1.toList fun (o2 o3 o4 o5 o6 o7 : Int) (o8 : Sl) (o9 o10 o11 o12 o13 o14 o15 o16 o17 o18 o19 : Int) (o20 : Sl) (o21 o22 : Int) (o23 o24 : ByteArray) (o25 o26 o27 o28 o29 o30 o31 o32 : Int) (o33 : Sl) =>
  f t1 o2 o3 o4 o5 o6 o7 o8 o9 o10 o11 o12 o13 o14 o15 o16 o17 o18 o19 o20 o21 o22 o23 o24 o25 o26 o27 o28 o29 o30 o31 o32 o33 h (fun (r0 : Bool) (h : Heap) => K (.bool r0) h)
  | _, _, _ => False
abbrev E_law10_Play_plays := E_law10_Play_plays_of F_law10_Play_plays
theorem E_law10_Play_plays.right : IsRight Tryz.prog 9 E_law10_Play_plays := by
  refine isRight fun vs K w hh => ?_
  match vs, hh with
  | [v0, v1], hh =>
    unfold E_law10_Play_plays E_law10_Play_plays_of at hh
    replace hh := dec1_sound hh; obtain ⟨t1, rfl, hh⟩ := hh
    replace hh := vAgg_sound hh; obtain ⟨cs1, rfl, hh⟩ := hh
    replace hh := decs_cons hh; obtain ⟨o2, l1_0, e1_0, hh⟩ := hh
    replace hh := decs_cons hh; obtain ⟨o3, l1_1, e1_1, hh⟩ := hh
    replace hh := decs_cons hh; obtain ⟨o4, l1_2, e1_2, hh⟩ := hh
    replace hh := decs_cons hh; obtain ⟨o5, l1_3, e1_3, hh⟩ := hh
    replace hh := decs_cons hh; obtain ⟨o6, l1_4, e1_4, hh⟩ := hh
    replace hh := decs_cons hh; obtain ⟨o7, l1_5, e1_5, hh⟩ := hh
    replace hh := decs_cons hh; obtain ⟨o8, l1_6, e1_6, hh⟩ := hh
    replace hh := decs_cons hh; obtain ⟨o9, l1_7, e1_7, hh⟩ := hh
    replace hh := decs_cons hh; obtain ⟨o10, l1_8, e1_8, hh⟩ := hh
    replace hh := decs_cons hh; obtain ⟨o11, l1_9, e1_9, hh⟩ := hh
    replace hh := decs_cons hh; obtain ⟨o12, l1_10, e1_10, hh⟩ := hh
    replace hh := decs_cons hh; obtain ⟨o13, l1_11, e1_11, hh⟩ := hh
    replace hh := decs_cons hh; obtain ⟨o14, l1_12, e1_12, hh⟩ := hh
    replace hh := decs_cons hh; obtain ⟨o15, l1_13, e1_13, hh⟩ := hh
    replace hh := decs_cons hh; obtain ⟨o16, l1_14, e1_14, hh⟩ := hh
    replace hh := decs_cons hh; obtain ⟨o17, l1_15, e1_15, hh⟩ := hh
    replace hh := decs_cons hh; obtain ⟨o18, l1_16, e1_16, hh⟩ := hh
    replace hh := decs_cons hh; obtain ⟨o19, l1_17, e1_17, hh⟩ := hh
    replace hh := decs_cons hh; obtain ⟨o20, l1_18, e1_18, hh⟩ := hh
    replace hh := decs_cons hh; obtain ⟨o21, l1_19, e1_19, hh⟩ := hh
    replace hh := decs_cons hh; obtain ⟨o22, l1_20, e1_20, hh⟩ := hh
    replace hh := decs_cons hh; obtain ⟨o23, l1_21, e1_21, hh⟩ := hh
    replace hh := decs_cons hh; obtain ⟨o24, l1_22, e1_22, hh⟩ := hh
    replace hh := decs_cons hh; obtain ⟨o25, l1_23, e1_23, hh⟩ := hh
    replace hh := decs_cons hh; obtain ⟨o26, l1_24, e1_24, hh⟩ := hh
    replace hh := decs_cons hh; obtain ⟨o27, l1_25, e1_25, hh⟩ := hh
    replace hh := decs_cons hh; obtain ⟨o28, l1_26, e1_26, hh⟩ := hh
    replace hh := decs_cons hh; obtain ⟨o29, l1_27, e1_27, hh⟩ := hh
    replace hh := decs_cons hh; obtain ⟨o30, l1_28, e1_28, hh⟩ := hh
    replace hh := decs_cons hh; obtain ⟨o31, l1_29, e1_29, hh⟩ := hh
    replace hh := decs_cons hh; obtain ⟨o32, l1_30, e1_30, hh⟩ := hh
    replace hh := decs_cons hh; obtain ⟨o33, l1_31, e1_31, hh⟩ := hh
    replace hh := decs_nil hh; obtain ⟨rfl, hh⟩ := hh
    subst e1_31
    subst e1_30
    subst e1_29
    subst e1_28
    subst e1_27
    subst e1_26
    subst e1_25
    subst e1_24
    subst e1_23
    subst e1_22
    subst e1_21
    subst e1_20
    subst e1_19
    subst e1_18
    subst e1_17
    subst e1_16
    subst e1_15
    subst e1_14
    subst e1_13
    subst e1_12
    subst e1_11
    subst e1_10
    subst e1_9
    subst e1_8
    subst e1_7
    subst e1_6
    subst e1_5
    subst e1_4
    subst e1_3
    subst e1_2
    subst e1_1
    have ec1 := toArray_eq e1_0
    subst ec1
    unfold F_law10_Play_plays at hh
    exact calls_den (fn1_right ok7 E_law10_Play_looks.right (fn1_right ok25 E_law10_Play_given.right (fn1_right ok26 E_quorum_Quorum_Start.right (fn1_right ok27 E_law10_Play_kept.right (fn1_right ok28 E_law10_Play_told.right (fn1_right ok29 E_ref10_Quorum_Start.right (fn1_right ok30 E_law10_Play_message.right (fn1_right ok31 E_quorum_Quorum_Hear.right (fn1_right ok32 E_ref10_Quorum_Hear.right (fn1_right ok33 E_quorum_Quorum_Propose.right (fn1_right ok34 E_ref10_Quorum_Propose.right (fn1_right ok35 E_quorum_Quorum_Tick.right (fn1_right ok36 E_ref10_Quorum_Tick.right (fn1_right ok37 E_quorum_Quorum_Stop.right (fn1_right ok38 E_ref10_Quorum_Stop.right noFns_right))))))))))))))) plan9 _ w K Tryz.func9 (by kernel_rfl) (by kernel_rfl) (Eq.mp (F_law10_Play_plays.eq F_law10_Play_looks F_law10_Play_given F_quorum_Quorum_Start F_law10_Play_kept F_law10_Play_told F_ref10_Quorum_Start F_law10_Play_message F_quorum_Quorum_Hear F_ref10_Quorum_Hear F_quorum_Quorum_Propose F_ref10_Quorum_Propose F_quorum_Quorum_Tick F_ref10_Quorum_Tick F_quorum_Quorum_Stop F_ref10_Quorum_Stop t1 o2 o3 o4 o5 o6 o7 o8 o9 o10 o11 o12 o13 o14 o15 o16 o17 o18 o19 o20 o21 o22 o23 o24 o25 o26 o27 o28 o29 o30 o31 o32 o33 w.heap K) hh)
theorem ok9 : okFn Tryz.prog 9 = true := by kernel_rfl
end Go.Proofs.YtigcpkejjjgkeaaGreat.V
namespace Go.Proofs.YtigcpkejjjgkeaaGreat.V
open Go Go.RowKit
set_option linter.unusedVariables false
set_option maxRecDepth 100000
def F_law1_two_of (f44_ : Int → Int → Heap → (Int → Heap → Prop) → Prop) (x1 : Sl) (m2 : Int) (h : Heap) (Q : Bool → Heap → Prop) : Prop :=
  jn [(4, .one .bool)] (fun (x12 : Bool) (h13 : Heap) =>
  Q x12 h13) (fun (j3 : Bool → Heap → Prop) =>
  brr (((x1.len : Nat) : Int) == 2)
  (ixS 1 x1 0 fun (a4 : Addr) =>
  ld [.int .u8] a4 h fun (v5 : Int) =>
  f44_ m2 0 h fun (r6 : Int) (h7 : Heap) =>
  cellsAre h7 a4 [.int .u8 v5] ∧
  brr (v5 == r6)
  (ixS 1 x1 1 fun (a8 : Addr) =>
  ld [.int .u8] a8 h7 fun (v9 : Int) =>
  f44_ m2 1 h7 fun (r10 : Int) (h11 : Heap) =>
  cellsAre h11 a8 [.int .u8 v9] ∧
  j3 (v9 == r10) h11)
  (j3 false h7))
  (j3 false h))
def F_law1_two (x1 : Sl) (m2 : Int) (h : Heap) (Q : Bool → Heap → Prop) : Prop := F_law1_two_of F_law1_at x1 m2 h Q
def plan96 : Plan := .s (.r [0, 1]) (.s (.dj [0, 1, 3, 7, 15, 31, 63, 15, 143, 511, 1023, 2047, 4095, 8191, 16383, 4095, 36863, 131071, 262143, 524287] [[0, 1, 2, 3, 4, 5, 6, 7, 8, 9, 10, 11, 12, 13, 14, 15, 16, 17, 18, 19]] [(4, .one .bool)] []) .z)
theorem F_law1_two.eq (f44_ : Int → Int → Heap → (Int → Heap → Prop) → Prop) (x1 : Sl) (m2 : Int) (h : Heap) (K : Value → Heap → Prop) : F_law1_two_of f44_ x1 m2 h (fun (r0 : Bool) (h : Heap) => K (.bool r0) h) =
    den Tryz.prog (fn1 44 (E_law1_at_of f44_) noFns) Tryz.f96.ntmps plan96 (bodyOf Tryz.f96) (args0 0 [(.slice x1.ptr x1.len x1.cap : Value), (.int .i64 m2 : Value)]) h ⟨fun env h => dRes Tryz.prog Tryz.f96.results.toList env h K, fun _ _ _ => False, fun env h => dRes Tryz.prog Tryz.f96.results.toList env h K⟩ := by kernel_rfl
def E_law1_two_of (f : Sl → Int → Heap → (Bool → Heap → Prop) → Prop) : List Value → Heap → (Value → Heap → Prop) → Prop
  | [v0, v1], h, K => dec1 .sl v0 fun (x1 : Sl) =>
  dec1 (.int .i64) v1 fun (m2 : Int) =>
  f x1 m2 h (fun (r0 : Bool) (h : Heap) => K (.bool r0) h)
  | _, _, _ => False
abbrev E_law1_two := E_law1_two_of F_law1_two
theorem E_law1_two.right : IsRight Tryz.prog 96 E_law1_two := by
  refine isRight fun vs K w hh => ?_
  match vs, hh with
  | [v0, v1], hh =>
    unfold E_law1_two E_law1_two_of at hh
    replace hh := dec1_sound hh; obtain ⟨x1, rfl, hh⟩ := hh
    replace hh := dec1_sound hh; obtain ⟨m2, rfl, hh⟩ := hh
    unfold F_law1_two at hh
    exact calls_den (fn1_right ok44 E_law1_at.right noFns_right) plan96 _ w K Tryz.func96 (by kernel_rfl) (by kernel_rfl) (Eq.mp (F_law1_two.eq F_law1_at x1 m2 w.heap K) hh)
theorem ok96 : okFn Tryz.prog 96 = true := by kernel_rfl
end Go.Proofs.YtigcpkejjjgkeaaGreat.V
namespace Go.Proofs.YtigcpkejjjgkeaaGreat.V
open Go Go.RowKit
set_option linter.unusedVariables false
set_option maxRecDepth 100000
def F_law1_Book_plain.l1 (f44_ : Int → Int → Heap → (Int → Heap → Prop) → Prop) (b1 : Option Addr) (Q : Bool → Heap → Prop) (i4 : Int) (j9 : Heap → Prop) : Int → Heap → Prop :=
  wl [(4, .one (.int .i64))] (fun (next10 : Int → Heap → Prop) (k11 : Int) (h12 : Heap) =>
  nn b1 fun (a13 : Addr) =>
  ld [.sl] (a13.add 0) h12 fun (v14 : Sl) =>
  ixS 1 v14 i4 fun (a15 : Addr) =>
  ld [.sl] a15 h12 fun (v16 : Sl) =>
  brr (decide (k11 < ((v16.len : Nat) : Int)))
  (nn b1 fun (a17 : Addr) =>
  ld [.sl] (a17.add 0) h12 fun (v18 : Sl) =>
  ixS 1 v18 i4 fun (a19 : Addr) =>
  ld [.sl] a19 h12 fun (v20 : Sl) =>
  ixS 1 v20 k11 fun (a21 : Addr) =>
  ld [.int .u8] a21 h12 fun (v22 : Int) =>
  nn b1 fun (a23 : Addr) =>
  ld [.sl] (a23.add 1) h12 fun (v24 : Sl) =>
  ixS 1 v24 i4 fun (a25 : Addr) =>
  ld [.int .i64] a25 h12 fun (v26 : Int) =>
  f44_ v26 k11 h12 fun (r27 : Int) (h28 : Heap) =>
  cellsAre h28 (a17.add 0) [.slice v18.ptr v18.len v18.cap] ∧
  cellsAre h28 a19 [.slice v20.ptr v20.len v20.cap] ∧
  cellsAre h28 a21 [.int .u8 v22] ∧
  brr (v22 != r27)
  (Q false h28)
  (next10 (IntKind.i64.wrap (k11 + 1)) h28))
  (j9 h12))
def F_law1_Book_plain.l2 (f44_ : Int → Int → Heap → (Int → Heap → Prop) → Prop) (b1 : Option Addr) (Q : Bool → Heap → Prop) (j2 : Heap → Prop) : Int → Heap → Prop :=
  wl [(3, .one (.int .i64))] (fun (next3 : Int → Heap → Prop) (i4 : Int) (h5 : Heap) =>
  nn b1 fun (a6 : Addr) =>
  ld [.sl] (a6.add 0) h5 fun (v7 : Sl) =>
  brr (decide (i4 < ((v7.len : Nat) : Int)))
  (jn [] (fun  (h30 : Heap) =>
  next3 (IntKind.i64.wrap (i4 + 1)) h30) (fun (j8 : Heap → Prop) =>
  jn [] (fun  (h29 : Heap) =>
  j8 h29) (fun (j9 : Heap → Prop) =>
  F_law1_Book_plain.l1 f44_ b1 Q i4 j9 0 h5)))
  (j2 h5))
def F_law1_Book_plain.l3 (f96_ : Sl → Int → Heap → (Bool → Heap → Prop) → Prop) (b1 : Option Addr) (Q : Bool → Heap → Prop) (i34 : Int) (j39 : Heap → Prop) : Int → Heap → Prop :=
  wl [(6, .one (.int .i64))] (fun (next40 : Int → Heap → Prop) (k41 : Int) (h42 : Heap) =>
  nn b1 fun (a43 : Addr) =>
  ld [.sl] (a43.add 3) h42 fun (v44 : Sl) =>
  ixS 1 v44 i34 fun (a45 : Addr) =>
  ld [.sl] a45 h42 fun (v46 : Sl) =>
  brr (decide (k41 < ((v46.len : Nat) : Int)))
  (nn b1 fun (a47 : Addr) =>
  ld [.sl] (a47.add 3) h42 fun (v48 : Sl) =>
  ixS 1 v48 i34 fun (a49 : Addr) =>
  ld [.sl] a49 h42 fun (v50 : Sl) =>
  ixS 1 v50 k41 fun (a51 : Addr) =>
  ld [.sl] a51 h42 fun (v52 : Sl) =>
  nn b1 fun (a53 : Addr) =>
  ld [.sl] (a53.add 4) h42 fun (v54 : Sl) =>
  ixS 1 v54 i34 fun (a55 : Addr) =>
  ld [.int .i64] a55 h42 fun (v56 : Int) =>
  f96_ v52 v56 h42 fun (r57 : Bool) (h58 : Heap) =>
  brr (!r57)
  (Q false h58)
  (next40 (IntKind.i64.wrap (k41 + 1)) h58))
  (j39 h42))
def F_law1_Book_plain.l4 (f96_ : Sl → Int → Heap → (Bool → Heap → Prop) → Prop) (b1 : Option Addr) (Q : Bool → Heap → Prop) (j32 : Heap → Prop) : Int → Heap → Prop :=
  wl [(5, .one (.int .i64))] (fun (next33 : Int → Heap → Prop) (i34 : Int) (h35 : Heap) =>
  nn b1 fun (a36 : Addr) =>
  ld [.sl] (a36.add 3) h35 fun (v37 : Sl) =>
  brr (decide (i34 < ((v37.len : Nat) : Int)))
  (jn [] (fun  (h60 : Heap) =>
  next33 (IntKind.i64.wrap (i34 + 1)) h60) (fun (j38 : Heap → Prop) =>
  jn [] (fun  (h59 : Heap) =>
  j38 h59) (fun (j39 : Heap → Prop) =>
  F_law1_Book_plain.l3 f96_ b1 Q i34 j39 0 h35)))
  (j32 h35))
def F_law1_Book_plain_of (f44_ : Int → Int → Heap → (Int → Heap → Prop) → Prop) (f96_ : Sl → Int → Heap → (Bool → Heap → Prop) → Prop) (b1 : Option Addr) (h : Heap) (Q : Bool → Heap → Prop) : Prop :=
  jn [] (fun  (h31 : Heap) =>
  jn [] (fun  (h61 : Heap) =>
  Q true h61) (fun (j32 : Heap → Prop) =>
  F_law1_Book_plain.l4 f96_ b1 Q j32 0 h31)) (fun (j2 : Heap → Prop) =>
  F_law1_Book_plain.l2 f44_ b1 Q j2 0 h)
def F_law1_Book_plain (b1 : Option Addr) (h : Heap) (Q : Bool → Heap → Prop) : Prop := F_law1_Book_plain_of F_law1_at F_law1_two b1 h Q
def plan68 : Plan := .s (.r [0]) (.s (.s (.r [0, 3]) (.bj [] [0] (.l [(3, .one (.int .i64))] [0] (.s (.s (.r [0, 3, 13]) (.c .z .z)) (.s (.bj [] [0, 3] (.s (.r [0, 3, 4]) (.bj [] [0, 3] (.l [(4, .one (.int .i64))] [0, 3] (.s (.s (.r [0, 3, 4, 25]) (.c .z .z)) (.s (.b (.s (.d [0, 1, 3, 7, 0, 31, 63, 0, 255, 511, 0, 1024, 3072, 7168, 0, 31744, 64512, 0, 261120, 524287] [[0, 1, 2, 3, 4, 5, 6, 7, 8, 9, 10, 11, 12, 13, 14, 15, 16, 17, 18, 19]] [0, 3, 4, 47]) (.c (.s (.r [2]) .z) .z))) (.r [0, 3, 4]))))))) (.r [0, 3])))))) (.s (.s (.r [0, 5]) (.bj [] [] (.l [(5, .one (.int .i64))] [0] (.s (.s (.r [0, 5, 54]) (.c .z .z)) (.s (.bj [] [0, 5] (.s (.r [0, 5, 6]) (.bj [] [0, 5] (.l [(6, .one (.int .i64))] [0, 5] (.s (.s (.r [0, 5, 6, 66]) (.c .z .z)) (.s (.b (.s (.d [0, 1, 3, 7, 0, 31, 63, 0, 255, 511, 0, 1024, 3072, 7168, 0, 31744, 64512, 131071, 262143] [[0, 1, 2, 3, 4, 5, 6, 7, 8, 9, 10, 11, 12, 13, 14, 15, 16, 17, 18]] [0, 5, 6, 87]) (.c (.s (.r [2]) .z) .z))) (.r [0, 5, 6]))))))) (.r [0, 5])))))) (.s (.r [2]) .z)))
theorem F_law1_Book_plain.eq (f44_ : Int → Int → Heap → (Int → Heap → Prop) → Prop) (f96_ : Sl → Int → Heap → (Bool → Heap → Prop) → Prop) (b1 : Option Addr) (h : Heap) (K : Value → Heap → Prop) : F_law1_Book_plain_of f44_ f96_ b1 h (fun (r0 : Bool) (h : Heap) => K (.bool r0) h) =
    den Tryz.prog (fn1 44 (E_law1_at_of f44_) (fn1 96 (E_law1_two_of f96_) noFns)) Tryz.f68.ntmps plan68 (bodyOf Tryz.f68) (args0 0 [(.pointer b1 : Value)]) h ⟨fun env h => dRes Tryz.prog Tryz.f68.results.toList env h K, fun _ _ _ => False, fun env h => dRes Tryz.prog Tryz.f68.results.toList env h K⟩ := by kernel_rfl
def E_law1_Book_plain_of (f : Option Addr → Heap → (Bool → Heap → Prop) → Prop) : List Value → Heap → (Value → Heap → Prop) → Prop
  | [v0], h, K => dec1 .ptr v0 fun (b1 : Option Addr) =>
  f b1 h (fun (r0 : Bool) (h : Heap) => K (.bool r0) h)
  | _, _, _ => False
abbrev E_law1_Book_plain := E_law1_Book_plain_of F_law1_Book_plain
theorem E_law1_Book_plain.right : IsRight Tryz.prog 68 E_law1_Book_plain := by
  refine isRight fun vs K w hh => ?_
  match vs, hh with
  | [v0], hh =>
    unfold E_law1_Book_plain E_law1_Book_plain_of at hh
    replace hh := dec1_sound hh; obtain ⟨b1, rfl, hh⟩ := hh
    unfold F_law1_Book_plain at hh
    exact calls_den (fn1_right ok44 E_law1_at.right (fn1_right ok96 E_law1_two.right noFns_right)) plan68 _ w K Tryz.func68 (by kernel_rfl) (by kernel_rfl) (Eq.mp (F_law1_Book_plain.eq F_law1_at F_law1_two b1 w.heap K) hh)
theorem ok68 : okFn Tryz.prog 68 = true := by kernel_rfl
end Go.Proofs.YtigcpkejjjgkeaaGreat.V
namespace Go.Proofs.YtigcpkejjjgkeaaGreat.V
open Go Go.RowKit
set_option linter.unusedVariables false
set_option maxRecDepth 100000
def F_law1_textsMark_of (f44_ : Int → Int → Heap → (Int → Heap → Prop) → Prop) (m1 : Int) (h : Heap) (Q : ByteArray → Heap → Prop) : Prop :=
  f44_ m1 0 h fun (r2 : Int) (h3 : Heap) =>
  f44_ m1 1 h3 fun (r4 : Int) (h5 : Heap) =>
  al 5 [.int .u8 r2, .int .u8 r4, .int .u8 33] h5 fun (a6 : Addr) (h7 : Heap) =>
  b2s (some a6) 3 h7 fun (s8 : ByteArray) =>
  Q s8 h7
def F_law1_textsMark (m1 : Int) (h : Heap) (Q : ByteArray → Heap → Prop) : Prop := F_law1_textsMark_of F_law1_at m1 h Q
def plan97 : Plan := .s (.r [0]) (.s (.r [2]) .z)
theorem F_law1_textsMark.eq (f44_ : Int → Int → Heap → (Int → Heap → Prop) → Prop) (m1 : Int) (h : Heap) (K : Value → Heap → Prop) : F_law1_textsMark_of f44_ m1 h (fun (r0 : ByteArray) (h : Heap) => K (.string r0) h) =
    den Tryz.prog (fn1 44 (E_law1_at_of f44_) noFns) Tryz.f97.ntmps plan97 (bodyOf Tryz.f97) (args0 0 [(.int .i64 m1 : Value)]) h ⟨fun env h => dRes Tryz.prog Tryz.f97.results.toList env h K, fun _ _ _ => False, fun env h => dRes Tryz.prog Tryz.f97.results.toList env h K⟩ := by kernel_rfl
def E_law1_textsMark_of (f : Int → Heap → (ByteArray → Heap → Prop) → Prop) : List Value → Heap → (Value → Heap → Prop) → Prop
  | [v0], h, K => dec1 (.int .i64) v0 fun (m1 : Int) =>
  f m1 h (fun (r0 : ByteArray) (h : Heap) => K (.string r0) h)
  | _, _, _ => False
abbrev E_law1_textsMark := E_law1_textsMark_of F_law1_textsMark
theorem E_law1_textsMark.right : IsRight Tryz.prog 97 E_law1_textsMark := by
  refine isRight fun vs K w hh => ?_
  match vs, hh with
  | [v0], hh =>
    unfold E_law1_textsMark E_law1_textsMark_of at hh
    replace hh := dec1_sound hh; obtain ⟨m1, rfl, hh⟩ := hh
    unfold F_law1_textsMark at hh
    exact calls_den (fn1_right ok44 E_law1_at.right noFns_right) plan97 _ w K Tryz.func97 (by kernel_rfl) (by kernel_rfl) (Eq.mp (F_law1_textsMark.eq F_law1_at m1 w.heap K) hh)
theorem ok97 : okFn Tryz.prog 97 = true := by kernel_rfl
end Go.Proofs.YtigcpkejjjgkeaaGreat.V
namespace Go.Proofs.YtigcpkejjjgkeaaGreat.V
open Go Go.RowKit
set_option linter.unusedVariables false
set_option maxRecDepth 100000
def F_law1_intsMark_of  (m1 : Int) (h : Heap) (Q : Int → Heap → Prop) : Prop :=
  Q (IntKind.i64.wrap (1000 + m1)) h
def F_law1_intsMark (m1 : Int) (h : Heap) (Q : Int → Heap → Prop) : Prop := F_law1_intsMark_of  m1 h Q
def plan98 : Plan := .s (.r [0]) (.s (.r [2]) .z)
theorem F_law1_intsMark.eq  (m1 : Int) (h : Heap) (K : Value → Heap → Prop) : F_law1_intsMark_of  m1 h (fun (r0 : Int) (h : Heap) => K (.int .i64 r0) h) =
    den Tryz.prog noFns Tryz.f98.ntmps plan98 (bodyOf Tryz.f98) (args0 0 [(.int .i64 m1 : Value)]) h ⟨fun env h => dRes Tryz.prog Tryz.f98.results.toList env h K, fun _ _ _ => False, fun env h => dRes Tryz.prog Tryz.f98.results.toList env h K⟩ := by kernel_rfl
def E_law1_intsMark_of (f : Int → Heap → (Int → Heap → Prop) → Prop) : List Value → Heap → (Value → Heap → Prop) → Prop
  | [v0], h, K => dec1 (.int .i64) v0 fun (m1 : Int) =>
  f m1 h (fun (r0 : Int) (h : Heap) => K (.int .i64 r0) h)
  | _, _, _ => False
abbrev E_law1_intsMark := E_law1_intsMark_of F_law1_intsMark
theorem E_law1_intsMark.right : IsRight Tryz.prog 98 E_law1_intsMark := by
  refine isRight fun vs K w hh => ?_
  match vs, hh with
  | [v0], hh =>
    unfold E_law1_intsMark E_law1_intsMark_of at hh
    replace hh := dec1_sound hh; obtain ⟨m1, rfl, hh⟩ := hh
    unfold F_law1_intsMark at hh
    exact calls_den noFns_right plan98 _ w K Tryz.func98 (by kernel_rfl) (by kernel_rfl) (Eq.mp (F_law1_intsMark.eq  m1 w.heap K) hh)
theorem ok98 : okFn Tryz.prog 98 = true := by kernel_rfl
end Go.Proofs.YtigcpkejjjgkeaaGreat.V
namespace Go.Proofs.YtigcpkejjjgkeaaGreat.V
open Go Go.RowKit
set_option linter.unusedVariables false
set_option maxRecDepth 100000
def F_law1_wordsMark_of  (m1 : Int) (h : Heap) (Q : Int → Heap → Prop) : Prop :=
  0 ≤ (20 : Int) ∧
  Q (IntKind.u64.wrap ((IntKind.u64.wrap m1) * 2 ^ min (20 : Int).toNat IntKind.u64.bits)) h
def F_law1_wordsMark (m1 : Int) (h : Heap) (Q : Int → Heap → Prop) : Prop := F_law1_wordsMark_of  m1 h Q
def plan99 : Plan := .s (.r [0]) (.s (.r [2]) .z)
theorem F_law1_wordsMark.eq  (m1 : Int) (h : Heap) (K : Value → Heap → Prop) : F_law1_wordsMark_of  m1 h (fun (r0 : Int) (h : Heap) => K (.int .u64 r0) h) =
    den Tryz.prog noFns Tryz.f99.ntmps plan99 (bodyOf Tryz.f99) (args0 0 [(.int .i64 m1 : Value)]) h ⟨fun env h => dRes Tryz.prog Tryz.f99.results.toList env h K, fun _ _ _ => False, fun env h => dRes Tryz.prog Tryz.f99.results.toList env h K⟩ := by kernel_rfl
def E_law1_wordsMark_of (f : Int → Heap → (Int → Heap → Prop) → Prop) : List Value → Heap → (Value → Heap → Prop) → Prop
  | [v0], h, K => dec1 (.int .i64) v0 fun (m1 : Int) =>
  f m1 h (fun (r0 : Int) (h : Heap) => K (.int .u64 r0) h)
  | _, _, _ => False
abbrev E_law1_wordsMark := E_law1_wordsMark_of F_law1_wordsMark
theorem E_law1_wordsMark.right : IsRight Tryz.prog 99 E_law1_wordsMark := by
  refine isRight fun vs K w hh => ?_
  match vs, hh with
  | [v0], hh =>
    unfold E_law1_wordsMark E_law1_wordsMark_of at hh
    replace hh := dec1_sound hh; obtain ⟨m1, rfl, hh⟩ := hh
    unfold F_law1_wordsMark at hh
    exact calls_den noFns_right plan99 _ w K Tryz.func99 (by kernel_rfl) (by kernel_rfl) (Eq.mp (F_law1_wordsMark.eq  m1 w.heap K) hh)
theorem ok99 : okFn Tryz.prog 99 = true := by kernel_rfl
end Go.Proofs.YtigcpkejjjgkeaaGreat.V
namespace Go.Proofs.YtigcpkejjjgkeaaGreat.V
open Go Go.RowKit
set_option linter.unusedVariables false
set_option maxRecDepth 100000
def F_law1_donesMark_of  (m1 : Int) (h : Heap) (Q : Int → Int → Int → Int → Int → Heap → Prop) : Prop :=
  al 132 [.int .i64 0, .int .u64 0, .int .i64 0, .int .i64 0, .int .u64 0] h fun (a2 : Addr) (h3 : Heap) =>
  0 ≤ (20 : Int) ∧
  st a2 [.int .i64 0, .int .u64 (IntKind.u64.wrap ((IntKind.u64.wrap m1) * 2 ^ min (20 : Int).toNat IntKind.u64.bits)), .int .i64 0, .int .i64 0, .int .u64 0] h3 fun (h4 : Heap) =>
  ld [.int .i64, .int .u64, .int .i64, .int .i64, .int .u64] a2 h4 fun (v5 v6 v7 v8 v9 : Int) =>
  Q v5 v6 v7 v8 v9 h4
def F_law1_donesMark (m1 : Int) (h : Heap) (Q : Int → Int → Int → Int → Int → Heap → Prop) : Prop := F_law1_donesMark_of  m1 h Q
def plan100 : Plan := .s (.r [0, 2]) (.s (.r [2]) .z)
theorem F_law1_donesMark.eq  (m1 : Int) (h : Heap) (K : Value → Heap → Prop) : F_law1_donesMark_of  m1 h (fun (r0 r1 r2 r3 r4 : Int) (h : Heap) => K (.agg #[.int .i64 r0, .int .u64 r1, .int .i64 r2, .int .i64 r3, .int .u64 r4]) h) =
    den Tryz.prog noFns Tryz.f100.ntmps plan100 (bodyOf Tryz.f100) (args0 0 [(.int .i64 m1 : Value)]) h ⟨fun env h => dRes Tryz.prog Tryz.f100.results.toList env h K, fun _ _ _ => False, fun env h => dRes Tryz.prog Tryz.f100.results.toList env h K⟩ := by kernel_rfl
def E_law1_donesMark_of (f : Int → Heap → (Int → Int → Int → Int → Int → Heap → Prop) → Prop) : List Value → Heap → (Value → Heap → Prop) → Prop
  | [v0], h, K => dec1 (.int .i64) v0 fun (m1 : Int) =>
  f m1 h (fun (r0 r1 r2 r3 r4 : Int) (h : Heap) => K (.agg #[.int .i64 r0, .int .u64 r1, .int .i64 r2, .int .i64 r3, .int .u64 r4]) h)
  | _, _, _ => False
abbrev E_law1_donesMark := E_law1_donesMark_of F_law1_donesMark
theorem E_law1_donesMark.right : IsRight Tryz.prog 100 E_law1_donesMark := by
  refine isRight fun vs K w hh => ?_
  match vs, hh with
  | [v0], hh =>
    unfold E_law1_donesMark E_law1_donesMark_of at hh
    replace hh := dec1_sound hh; obtain ⟨m1, rfl, hh⟩ := hh
    unfold F_law1_donesMark at hh
    exact calls_den noFns_right plan100 _ w K Tryz.func100 (by kernel_rfl) (by kernel_rfl) (Eq.mp (F_law1_donesMark.eq  m1 w.heap K) hh)
theorem ok100 : okFn Tryz.prog 100 = true := by kernel_rfl
end Go.Proofs.YtigcpkejjjgkeaaGreat.V
namespace Go.Proofs.YtigcpkejjjgkeaaGreat.V
open Go Go.RowKit
set_option linter.unusedVariables false
set_option maxRecDepth 100000
def F_law1_Book_kept.l1 (f97_ : Int → Heap → (ByteArray → Heap → Prop) → Prop) (b1 : Option Addr) (Q : Bool → Heap → Prop) (i4 : Int) (j9 : Heap → Prop) : Int → Heap → Prop :=
  wl [(4, .one (.int .i64))] (fun (next10 : Int → Heap → Prop) (k11 : Int) (h12 : Heap) =>
  nn b1 fun (a13 : Addr) =>
  ld [.sl] (a13.add 6) h12 fun (v14 : Sl) =>
  ixS 1 v14 i4 fun (a15 : Addr) =>
  ld [.sl] a15 h12 fun (v16 : Sl) =>
  brr (decide (k11 < ((v16.len : Nat) : Int)))
  (nn b1 fun (a17 : Addr) =>
  ld [.sl] (a17.add 6) h12 fun (v18 : Sl) =>
  ixS 1 v18 i4 fun (a19 : Addr) =>
  ld [.sl] a19 h12 fun (v20 : Sl) =>
  ixS 1 v20 k11 fun (a21 : Addr) =>
  ld [.str] a21 h12 fun (v22 : ByteArray) =>
  nn b1 fun (a23 : Addr) =>
  ld [.sl] (a23.add 7) h12 fun (v24 : Sl) =>
  ixS 1 v24 i4 fun (a25 : Addr) =>
  ld [.int .i64] a25 h12 fun (v26 : Int) =>
  f97_ v26 h12 fun (r27 : ByteArray) (h28 : Heap) =>
  cellsAre h28 (a17.add 6) [.slice v18.ptr v18.len v18.cap] ∧
  cellsAre h28 a19 [.slice v20.ptr v20.len v20.cap] ∧
  cellsAre h28 a21 [.string v22] ∧
  brr (!(v22.toList == r27.toList))
  (Q false h28)
  (next10 (IntKind.i64.wrap (k11 + 1)) h28))
  (j9 h12))
def F_law1_Book_kept.l2 (f97_ : Int → Heap → (ByteArray → Heap → Prop) → Prop) (b1 : Option Addr) (Q : Bool → Heap → Prop) (j2 : Heap → Prop) : Int → Heap → Prop :=
  wl [(3, .one (.int .i64))] (fun (next3 : Int → Heap → Prop) (i4 : Int) (h5 : Heap) =>
  nn b1 fun (a6 : Addr) =>
  ld [.sl] (a6.add 6) h5 fun (v7 : Sl) =>
  brr (decide (i4 < ((v7.len : Nat) : Int)))
  (jn [] (fun  (h30 : Heap) =>
  next3 (IntKind.i64.wrap (i4 + 1)) h30) (fun (j8 : Heap → Prop) =>
  jn [] (fun  (h29 : Heap) =>
  j8 h29) (fun (j9 : Heap → Prop) =>
  F_law1_Book_kept.l1 f97_ b1 Q i4 j9 0 h5)))
  (j2 h5))
def F_law1_Book_kept.l3 (f98_ : Int → Heap → (Int → Heap → Prop) → Prop) (b1 : Option Addr) (Q : Bool → Heap → Prop) (i34 : Int) (j39 : Heap → Prop) : Int → Heap → Prop :=
  wl [(6, .one (.int .i64))] (fun (next40 : Int → Heap → Prop) (k41 : Int) (h42 : Heap) =>
  nn b1 fun (a43 : Addr) =>
  ld [.sl] (a43.add 9) h42 fun (v44 : Sl) =>
  ixS 1 v44 i34 fun (a45 : Addr) =>
  ld [.sl] a45 h42 fun (v46 : Sl) =>
  brr (decide (k41 < ((v46.len : Nat) : Int)))
  (nn b1 fun (a47 : Addr) =>
  ld [.sl] (a47.add 9) h42 fun (v48 : Sl) =>
  ixS 1 v48 i34 fun (a49 : Addr) =>
  ld [.sl] a49 h42 fun (v50 : Sl) =>
  ixS 1 v50 k41 fun (a51 : Addr) =>
  ld [.int .i64] a51 h42 fun (v52 : Int) =>
  nn b1 fun (a53 : Addr) =>
  ld [.sl] (a53.add 10) h42 fun (v54 : Sl) =>
  ixS 1 v54 i34 fun (a55 : Addr) =>
  ld [.int .i64] a55 h42 fun (v56 : Int) =>
  f98_ v56 h42 fun (r57 : Int) (h58 : Heap) =>
  cellsAre h58 (a47.add 9) [.slice v48.ptr v48.len v48.cap] ∧
  cellsAre h58 a49 [.slice v50.ptr v50.len v50.cap] ∧
  cellsAre h58 a51 [.int .i64 v52] ∧
  brr (v52 != r57)
  (Q false h58)
  (next40 (IntKind.i64.wrap (k41 + 1)) h58))
  (j39 h42))
def F_law1_Book_kept.l4 (f98_ : Int → Heap → (Int → Heap → Prop) → Prop) (b1 : Option Addr) (Q : Bool → Heap → Prop) (j32 : Heap → Prop) : Int → Heap → Prop :=
  wl [(5, .one (.int .i64))] (fun (next33 : Int → Heap → Prop) (i34 : Int) (h35 : Heap) =>
  nn b1 fun (a36 : Addr) =>
  ld [.sl] (a36.add 9) h35 fun (v37 : Sl) =>
  brr (decide (i34 < ((v37.len : Nat) : Int)))
  (jn [] (fun  (h60 : Heap) =>
  next33 (IntKind.i64.wrap (i34 + 1)) h60) (fun (j38 : Heap → Prop) =>
  jn [] (fun  (h59 : Heap) =>
  j38 h59) (fun (j39 : Heap → Prop) =>
  F_law1_Book_kept.l3 f98_ b1 Q i34 j39 0 h35)))
  (j32 h35))
def F_law1_Book_kept.l5 (f99_ : Int → Heap → (Int → Heap → Prop) → Prop) (b1 : Option Addr) (Q : Bool → Heap → Prop) (i64 : Int) (j69 : Heap → Prop) : Int → Heap → Prop :=
  wl [(8, .one (.int .i64))] (fun (next70 : Int → Heap → Prop) (k71 : Int) (h72 : Heap) =>
  nn b1 fun (a73 : Addr) =>
  ld [.sl] (a73.add 12) h72 fun (v74 : Sl) =>
  ixS 1 v74 i64 fun (a75 : Addr) =>
  ld [.sl] a75 h72 fun (v76 : Sl) =>
  brr (decide (k71 < ((v76.len : Nat) : Int)))
  (nn b1 fun (a77 : Addr) =>
  ld [.sl] (a77.add 12) h72 fun (v78 : Sl) =>
  ixS 1 v78 i64 fun (a79 : Addr) =>
  ld [.sl] a79 h72 fun (v80 : Sl) =>
  ixS 1 v80 k71 fun (a81 : Addr) =>
  ld [.int .u64] a81 h72 fun (v82 : Int) =>
  nn b1 fun (a83 : Addr) =>
  ld [.sl] (a83.add 13) h72 fun (v84 : Sl) =>
  ixS 1 v84 i64 fun (a85 : Addr) =>
  ld [.int .i64] a85 h72 fun (v86 : Int) =>
  f99_ v86 h72 fun (r87 : Int) (h88 : Heap) =>
  cellsAre h88 (a77.add 12) [.slice v78.ptr v78.len v78.cap] ∧
  cellsAre h88 a79 [.slice v80.ptr v80.len v80.cap] ∧
  cellsAre h88 a81 [.int .u64 v82] ∧
  brr (v82 != r87)
  (Q false h88)
  (next70 (IntKind.i64.wrap (k71 + 1)) h88))
  (j69 h72))
def F_law1_Book_kept.l6 (f99_ : Int → Heap → (Int → Heap → Prop) → Prop) (b1 : Option Addr) (Q : Bool → Heap → Prop) (j62 : Heap → Prop) : Int → Heap → Prop :=
  wl [(7, .one (.int .i64))] (fun (next63 : Int → Heap → Prop) (i64 : Int) (h65 : Heap) =>
  nn b1 fun (a66 : Addr) =>
  ld [.sl] (a66.add 12) h65 fun (v67 : Sl) =>
  brr (decide (i64 < ((v67.len : Nat) : Int)))
  (jn [] (fun  (h90 : Heap) =>
  next63 (IntKind.i64.wrap (i64 + 1)) h90) (fun (j68 : Heap → Prop) =>
  jn [] (fun  (h89 : Heap) =>
  j68 h89) (fun (j69 : Heap → Prop) =>
  F_law1_Book_kept.l5 f99_ b1 Q i64 j69 0 h65)))
  (j62 h65))
def F_law1_Book_kept.l7 (f100_ : Int → Heap → (Int → Int → Int → Int → Int → Heap → Prop) → Prop) (b1 : Option Addr) (Q : Bool → Heap → Prop) (i94 : Int) (j99 : Heap → Prop) : Int → Heap → Prop :=
  wl [(10, .one (.int .i64))] (fun (next100 : Int → Heap → Prop) (k101 : Int) (h102 : Heap) =>
  nn b1 fun (a103 : Addr) =>
  ld [.sl] (a103.add 15) h102 fun (v104 : Sl) =>
  ixS 1 v104 i94 fun (a105 : Addr) =>
  ld [.sl] a105 h102 fun (v106 : Sl) =>
  brr (decide (k101 < ((v106.len : Nat) : Int)))
  (nn b1 fun (a107 : Addr) =>
  ld [.sl] (a107.add 15) h102 fun (v108 : Sl) =>
  ixS 1 v108 i94 fun (a109 : Addr) =>
  ld [.sl] a109 h102 fun (v110 : Sl) =>
  ixS 5 v110 k101 fun (a111 : Addr) =>
  ld [.int .i64, .int .u64, .int .i64, .int .i64, .int .u64] a111 h102 fun (v112 v113 v114 v115 v116 : Int) =>
  nn b1 fun (a117 : Addr) =>
  ld [.sl] (a117.add 16) h102 fun (v118 : Sl) =>
  ixS 1 v118 i94 fun (a119 : Addr) =>
  ld [.int .i64] a119 h102 fun (v120 : Int) =>
  f100_ v120 h102 fun (r121 r122 r123 r124 r125 : Int) (h126 : Heap) =>
  cellsAre h126 (a107.add 15) [.slice v108.ptr v108.len v108.cap] ∧
  cellsAre h126 a109 [.slice v110.ptr v110.len v110.cap] ∧
  cellsAre h126 a111 [.int .i64 v112, .int .u64 v113, .int .i64 v114, .int .i64 v115, .int .u64 v116] ∧
  brr (!((v112 == r121) && ((v113 == r122) && ((v114 == r123) && ((v115 == r124) && ((v116 == r125) && (true)))))))
  (Q false h126)
  (next100 (IntKind.i64.wrap (k101 + 1)) h126))
  (j99 h102))
def F_law1_Book_kept.l8 (f100_ : Int → Heap → (Int → Int → Int → Int → Int → Heap → Prop) → Prop) (b1 : Option Addr) (Q : Bool → Heap → Prop) (j92 : Heap → Prop) : Int → Heap → Prop :=
  wl [(9, .one (.int .i64))] (fun (next93 : Int → Heap → Prop) (i94 : Int) (h95 : Heap) =>
  nn b1 fun (a96 : Addr) =>
  ld [.sl] (a96.add 15) h95 fun (v97 : Sl) =>
  brr (decide (i94 < ((v97.len : Nat) : Int)))
  (jn [] (fun  (h128 : Heap) =>
  next93 (IntKind.i64.wrap (i94 + 1)) h128) (fun (j98 : Heap → Prop) =>
  jn [] (fun  (h127 : Heap) =>
  j98 h127) (fun (j99 : Heap → Prop) =>
  F_law1_Book_kept.l7 f100_ b1 Q i94 j99 0 h95)))
  (j92 h95))
def F_law1_Book_kept_of (f97_ : Int → Heap → (ByteArray → Heap → Prop) → Prop) (f98_ : Int → Heap → (Int → Heap → Prop) → Prop) (f99_ : Int → Heap → (Int → Heap → Prop) → Prop) (f100_ : Int → Heap → (Int → Int → Int → Int → Int → Heap → Prop) → Prop) (b1 : Option Addr) (h : Heap) (Q : Bool → Heap → Prop) : Prop :=
  jn [] (fun  (h31 : Heap) =>
  jn [] (fun  (h61 : Heap) =>
  jn [] (fun  (h91 : Heap) =>
  jn [] (fun  (h129 : Heap) =>
  Q true h129) (fun (j92 : Heap → Prop) =>
  F_law1_Book_kept.l8 f100_ b1 Q j92 0 h91)) (fun (j62 : Heap → Prop) =>
  F_law1_Book_kept.l6 f99_ b1 Q j62 0 h61)) (fun (j32 : Heap → Prop) =>
  F_law1_Book_kept.l4 f98_ b1 Q j32 0 h31)) (fun (j2 : Heap → Prop) =>
  F_law1_Book_kept.l2 f97_ b1 Q j2 0 h)
def F_law1_Book_kept (b1 : Option Addr) (h : Heap) (Q : Bool → Heap → Prop) : Prop := F_law1_Book_kept_of F_law1_textsMark F_law1_intsMark F_law1_wordsMark F_law1_donesMark b1 h Q
def plan69 : Plan := .s (.r [0]) (.s (.s (.r [0, 3]) (.bj [] [0] (.l [(3, .one (.int .i64))] [0] (.s (.s (.r [0, 3, 17]) (.c .z .z)) (.s (.bj [] [0, 3] (.s (.r [0, 3, 4]) (.bj [] [0, 3] (.l [(4, .one (.int .i64))] [0, 3] (.s (.s (.r [0, 3, 4, 29]) (.c .z .z)) (.s (.b (.s (.d [0, 1, 3, 7, 0, 31, 63, 0, 255, 511, 0, 1024, 3072, 7168, 0, 31744, 64512, 130048, 262143] [[0, 1, 2, 3, 4, 5, 6, 7, 8, 9, 10, 11, 12, 13, 14, 15, 16, 17, 18]] [0, 3, 4, 50]) (.c (.s (.r [2]) .z) .z))) (.r [0, 3, 4]))))))) (.r [0, 3])))))) (.s (.s (.r [0, 5]) (.bj [] [0] (.l [(5, .one (.int .i64))] [0] (.s (.s (.r [0, 5, 57]) (.c .z .z)) (.s (.bj [] [0, 5] (.s (.r [0, 5, 6]) (.bj [] [0, 5] (.l [(6, .one (.int .i64))] [0, 5] (.s (.s (.r [0, 5, 6, 69]) (.c .z .z)) (.s (.b (.s (.d [0, 1, 3, 7, 0, 31, 63, 0, 255, 511, 0, 1024, 3072, 7168, 0, 31744, 64512, 130048, 262143] [[0, 1, 2, 3, 4, 5, 6, 7, 8, 9, 10, 11, 12, 13, 14, 15, 16, 17, 18]] [0, 5, 6, 90]) (.c (.s (.r [2]) .z) .z))) (.r [0, 5, 6]))))))) (.r [0, 5])))))) (.s (.s (.r [0, 7]) (.bj [] [0] (.l [(7, .one (.int .i64))] [0] (.s (.s (.r [0, 7, 97]) (.c .z .z)) (.s (.bj [] [0, 7] (.s (.r [0, 7, 8]) (.bj [] [0, 7] (.l [(8, .one (.int .i64))] [0, 7] (.s (.s (.r [0, 7, 8, 109]) (.c .z .z)) (.s (.b (.s (.d [0, 1, 3, 7, 0, 31, 63, 0, 255, 511, 0, 1024, 3072, 7168, 0, 31744, 64512, 130048, 262143] [[0, 1, 2, 3, 4, 5, 6, 7, 8, 9, 10, 11, 12, 13, 14, 15, 16, 17, 18]] [0, 7, 8, 130]) (.c (.s (.r [2]) .z) .z))) (.r [0, 7, 8]))))))) (.r [0, 7])))))) (.s (.s (.r [0, 9]) (.bj [] [] (.l [(9, .one (.int .i64))] [0] (.s (.s (.r [0, 9, 137]) (.c .z .z)) (.s (.bj [] [0, 9] (.s (.r [0, 9, 10]) (.bj [] [0, 9] (.l [(10, .one (.int .i64))] [0, 9] (.s (.s (.r [0, 9, 10, 149]) (.c .z .z)) (.s (.b (.s (.d [0, 1, 3, 7, 0, 31, 63, 0, 255, 511, 0, 1024, 3072, 7168, 0, 31744, 64512, 130048, 262143] [[0, 1, 2, 3, 4, 5, 6, 7, 8, 9, 10, 11, 12, 13, 14, 15, 16, 17, 18]] [0, 9, 10, 170]) (.c (.s (.r [2]) .z) .z))) (.r [0, 9, 10]))))))) (.r [0, 9])))))) (.s (.r [2]) .z)))))
theorem F_law1_Book_kept.eq (f97_ : Int → Heap → (ByteArray → Heap → Prop) → Prop) (f98_ : Int → Heap → (Int → Heap → Prop) → Prop) (f99_ : Int → Heap → (Int → Heap → Prop) → Prop) (f100_ : Int → Heap → (Int → Int → Int → Int → Int → Heap → Prop) → Prop) (b1 : Option Addr) (h : Heap) (K : Value → Heap → Prop) : F_law1_Book_kept_of f97_ f98_ f99_ f100_ b1 h (fun (r0 : Bool) (h : Heap) => K (.bool r0) h) =
    den Tryz.prog (fn1 97 (E_law1_textsMark_of f97_) (fn1 98 (E_law1_intsMark_of f98_) (fn1 99 (E_law1_wordsMark_of f99_) (fn1 100 (E_law1_donesMark_of f100_) noFns)))) Tryz.f69.ntmps plan69 (bodyOf Tryz.f69) (args0 0 [(.pointer b1 : Value)]) h ⟨fun env h => dRes Tryz.prog Tryz.f69.results.toList env h K, fun _ _ _ => False, fun env h => dRes Tryz.prog Tryz.f69.results.toList env h K⟩ := by kernel_rfl
def E_law1_Book_kept_of (f : Option Addr → Heap → (Bool → Heap → Prop) → Prop) : List Value → Heap → (Value → Heap → Prop) → Prop
  | [v0], h, K => dec1 .ptr v0 fun (b1 : Option Addr) =>
  f b1 h (fun (r0 : Bool) (h : Heap) => K (.bool r0) h)
  | _, _, _ => False
abbrev E_law1_Book_kept := E_law1_Book_kept_of F_law1_Book_kept
theorem E_law1_Book_kept.right : IsRight Tryz.prog 69 E_law1_Book_kept := by
  refine isRight fun vs K w hh => ?_
  match vs, hh with
  | [v0], hh =>
    unfold E_law1_Book_kept E_law1_Book_kept_of at hh
    replace hh := dec1_sound hh; obtain ⟨b1, rfl, hh⟩ := hh
    unfold F_law1_Book_kept at hh
    exact calls_den (fn1_right ok97 E_law1_textsMark.right (fn1_right ok98 E_law1_intsMark.right (fn1_right ok99 E_law1_wordsMark.right (fn1_right ok100 E_law1_donesMark.right noFns_right)))) plan69 _ w K Tryz.func69 (by kernel_rfl) (by kernel_rfl) (Eq.mp (F_law1_Book_kept.eq F_law1_textsMark F_law1_intsMark F_law1_wordsMark F_law1_donesMark b1 w.heap K) hh)
theorem ok69 : okFn Tryz.prog 69 = true := by kernel_rfl
end Go.Proofs.YtigcpkejjjgkeaaGreat.V
namespace Go.Proofs.YtigcpkejjjgkeaaGreat.V
open Go Go.RowKit
set_option linter.unusedVariables false
set_option maxRecDepth 100000
def F_law1_acctsMark_of  (m1 : Int) (h : Heap) (Q : ByteArray → Int → Heap → Prop) : Prop :=
  al 136 [.string (⟨#[]⟩ : ByteArray), .int .u64 0] h fun (a2 : Addr) (h3 : Heap) =>
  0 ≤ (20 : Int) ∧
  st a2 [.string (⟨#[]⟩ : ByteArray), .int .u64 (IntKind.u64.wrap ((IntKind.u64.wrap m1) * 2 ^ min (20 : Int).toNat IntKind.u64.bits))] h3 fun (h4 : Heap) =>
  ld [.str, .int .u64] a2 h4 fun (v5 : ByteArray) (v6 : Int) =>
  Q v5 v6 h4
def F_law1_acctsMark (m1 : Int) (h : Heap) (Q : ByteArray → Int → Heap → Prop) : Prop := F_law1_acctsMark_of  m1 h Q
def plan101 : Plan := .s (.r [0, 2]) (.s (.r [2]) .z)
theorem F_law1_acctsMark.eq  (m1 : Int) (h : Heap) (K : Value → Heap → Prop) : F_law1_acctsMark_of  m1 h (fun (r0 : ByteArray) (r1 : Int) (h : Heap) => K (.agg #[.string r0, .int .u64 r1]) h) =
    den Tryz.prog noFns Tryz.f101.ntmps plan101 (bodyOf Tryz.f101) (args0 0 [(.int .i64 m1 : Value)]) h ⟨fun env h => dRes Tryz.prog Tryz.f101.results.toList env h K, fun _ _ _ => False, fun env h => dRes Tryz.prog Tryz.f101.results.toList env h K⟩ := by kernel_rfl
def E_law1_acctsMark_of (f : Int → Heap → (ByteArray → Int → Heap → Prop) → Prop) : List Value → Heap → (Value → Heap → Prop) → Prop
  | [v0], h, K => dec1 (.int .i64) v0 fun (m1 : Int) =>
  f m1 h (fun (r0 : ByteArray) (r1 : Int) (h : Heap) => K (.agg #[.string r0, .int .u64 r1]) h)
  | _, _, _ => False
abbrev E_law1_acctsMark := E_law1_acctsMark_of F_law1_acctsMark
theorem E_law1_acctsMark.right : IsRight Tryz.prog 101 E_law1_acctsMark := by
  refine isRight fun vs K w hh => ?_
  match vs, hh with
  | [v0], hh =>
    unfold E_law1_acctsMark E_law1_acctsMark_of at hh
    replace hh := dec1_sound hh; obtain ⟨m1, rfl, hh⟩ := hh
    unfold F_law1_acctsMark at hh
    exact calls_den noFns_right plan101 _ w K Tryz.func101 (by kernel_rfl) (by kernel_rfl) (Eq.mp (F_law1_acctsMark.eq  m1 w.heap K) hh)
theorem ok101 : okFn Tryz.prog 101 = true := by kernel_rfl
end Go.Proofs.YtigcpkejjjgkeaaGreat.V
namespace Go.Proofs.YtigcpkejjjgkeaaGreat.V
open Go Go.RowKit
set_option linter.unusedVariables false
set_option maxRecDepth 100000
def F_law1_queueMark_of  (m1 : Int) (h : Heap) (Q : Int → Int → ByteArray → Int → Heap → Prop) : Prop :=
  al 140 [.int .i64 0, .int .u64 0, .string (⟨#[]⟩ : ByteArray), .int .u64 0] h fun (a2 : Addr) (h3 : Heap) =>
  0 ≤ (20 : Int) ∧
  st a2 [.int .i64 0, .int .u64 (IntKind.u64.wrap ((IntKind.u64.wrap m1) * 2 ^ min (20 : Int).toNat IntKind.u64.bits)), .string (⟨#[]⟩ : ByteArray), .int .u64 0] h3 fun (h4 : Heap) =>
  ld [.int .i64, .int .u64, .str, .int .u64] a2 h4 fun (v5 v6 : Int) (v7 : ByteArray) (v8 : Int) =>
  Q v5 v6 v7 v8 h4
def F_law1_queueMark (m1 : Int) (h : Heap) (Q : Int → Int → ByteArray → Int → Heap → Prop) : Prop := F_law1_queueMark_of  m1 h Q
def plan102 : Plan := .s (.r [0, 2]) (.s (.r [2]) .z)
theorem F_law1_queueMark.eq  (m1 : Int) (h : Heap) (K : Value → Heap → Prop) : F_law1_queueMark_of  m1 h (fun (r0 r1 : Int) (r2 : ByteArray) (r3 : Int) (h : Heap) => K (.agg #[.int .i64 r0, .int .u64 r1, .string r2, .int .u64 r3]) h) =
    den Tryz.prog noFns Tryz.f102.ntmps plan102 (bodyOf Tryz.f102) (args0 0 [(.int .i64 m1 : Value)]) h ⟨fun env h => dRes Tryz.prog Tryz.f102.results.toList env h K, fun _ _ _ => False, fun env h => dRes Tryz.prog Tryz.f102.results.toList env h K⟩ := by kernel_rfl
def E_law1_queueMark_of (f : Int → Heap → (Int → Int → ByteArray → Int → Heap → Prop) → Prop) : List Value → Heap → (Value → Heap → Prop) → Prop
  | [v0], h, K => dec1 (.int .i64) v0 fun (m1 : Int) =>
  f m1 h (fun (r0 r1 : Int) (r2 : ByteArray) (r3 : Int) (h : Heap) => K (.agg #[.int .i64 r0, .int .u64 r1, .string r2, .int .u64 r3]) h)
  | _, _, _ => False
abbrev E_law1_queueMark := E_law1_queueMark_of F_law1_queueMark
theorem E_law1_queueMark.right : IsRight Tryz.prog 102 E_law1_queueMark := by
  refine isRight fun vs K w hh => ?_
  match vs, hh with
  | [v0], hh =>
    unfold E_law1_queueMark E_law1_queueMark_of at hh
    replace hh := dec1_sound hh; obtain ⟨m1, rfl, hh⟩ := hh
    unfold F_law1_queueMark at hh
    exact calls_den noFns_right plan102 _ w K Tryz.func102 (by kernel_rfl) (by kernel_rfl) (Eq.mp (F_law1_queueMark.eq  m1 w.heap K) hh)
theorem ok102 : okFn Tryz.prog 102 = true := by kernel_rfl
end Go.Proofs.YtigcpkejjjgkeaaGreat.V
namespace Go.Proofs.YtigcpkejjjgkeaaGreat.V
open Go Go.RowKit
set_option linter.unusedVariables false
set_option maxRecDepth 100000
def F_law1_slotsMark_of  (m1 : Int) (h : Heap) (Q : Int → Int → Int → Int → Heap → Prop) : Prop :=
  al 144 [.int .u64 0, .int .i64 0, .int .i64 0, .int .u64 0] h fun (a2 : Addr) (h3 : Heap) =>
  0 ≤ (20 : Int) ∧
  st a2 [.int .u64 (IntKind.u64.wrap ((IntKind.u64.wrap m1) * 2 ^ min (20 : Int).toNat IntKind.u64.bits)), .int .i64 0, .int .i64 0, .int .u64 0] h3 fun (h4 : Heap) =>
  ld [.int .u64, .int .i64, .int .i64, .int .u64] a2 h4 fun (v5 v6 v7 v8 : Int) =>
  Q v5 v6 v7 v8 h4
def F_law1_slotsMark (m1 : Int) (h : Heap) (Q : Int → Int → Int → Int → Heap → Prop) : Prop := F_law1_slotsMark_of  m1 h Q
def plan103 : Plan := .s (.r [0, 2]) (.s (.r [2]) .z)
theorem F_law1_slotsMark.eq  (m1 : Int) (h : Heap) (K : Value → Heap → Prop) : F_law1_slotsMark_of  m1 h (fun (r0 r1 r2 r3 : Int) (h : Heap) => K (.agg #[.int .u64 r0, .int .i64 r1, .int .i64 r2, .int .u64 r3]) h) =
    den Tryz.prog noFns Tryz.f103.ntmps plan103 (bodyOf Tryz.f103) (args0 0 [(.int .i64 m1 : Value)]) h ⟨fun env h => dRes Tryz.prog Tryz.f103.results.toList env h K, fun _ _ _ => False, fun env h => dRes Tryz.prog Tryz.f103.results.toList env h K⟩ := by kernel_rfl
def E_law1_slotsMark_of (f : Int → Heap → (Int → Int → Int → Int → Heap → Prop) → Prop) : List Value → Heap → (Value → Heap → Prop) → Prop
  | [v0], h, K => dec1 (.int .i64) v0 fun (m1 : Int) =>
  f m1 h (fun (r0 r1 r2 r3 : Int) (h : Heap) => K (.agg #[.int .u64 r0, .int .i64 r1, .int .i64 r2, .int .u64 r3]) h)
  | _, _, _ => False
abbrev E_law1_slotsMark := E_law1_slotsMark_of F_law1_slotsMark
theorem E_law1_slotsMark.right : IsRight Tryz.prog 103 E_law1_slotsMark := by
  refine isRight fun vs K w hh => ?_
  match vs, hh with
  | [v0], hh =>
    unfold E_law1_slotsMark E_law1_slotsMark_of at hh
    replace hh := dec1_sound hh; obtain ⟨m1, rfl, hh⟩ := hh
    unfold F_law1_slotsMark at hh
    exact calls_den noFns_right plan103 _ w K Tryz.func103 (by kernel_rfl) (by kernel_rfl) (Eq.mp (F_law1_slotsMark.eq  m1 w.heap K) hh)
theorem ok103 : okFn Tryz.prog 103 = true := by kernel_rfl
end Go.Proofs.YtigcpkejjjgkeaaGreat.V
namespace Go.Proofs.YtigcpkejjjgkeaaGreat.V
open Go Go.RowKit
set_option linter.unusedVariables false
set_option maxRecDepth 100000
def F_law1_Book_told.l1 (f101_ : Int → Heap → (ByteArray → Int → Heap → Prop) → Prop) (b1 : Option Addr) (Q : Bool → Heap → Prop) (i4 : Int) (j9 : Heap → Prop) : Int → Heap → Prop :=
  wl [(4, .one (.int .i64))] (fun (next10 : Int → Heap → Prop) (k11 : Int) (h12 : Heap) =>
  nn b1 fun (a13 : Addr) =>
  ld [.sl] (a13.add 18) h12 fun (v14 : Sl) =>
  ixS 1 v14 i4 fun (a15 : Addr) =>
  ld [.sl] a15 h12 fun (v16 : Sl) =>
  brr (decide (k11 < ((v16.len : Nat) : Int)))
  (nn b1 fun (a17 : Addr) =>
  ld [.sl] (a17.add 18) h12 fun (v18 : Sl) =>
  ixS 1 v18 i4 fun (a19 : Addr) =>
  ld [.sl] a19 h12 fun (v20 : Sl) =>
  ixS 2 v20 k11 fun (a21 : Addr) =>
  ld [.str, .int .u64] a21 h12 fun (v22 : ByteArray) (v23 : Int) =>
  nn b1 fun (a24 : Addr) =>
  ld [.sl] (a24.add 19) h12 fun (v25 : Sl) =>
  ixS 1 v25 i4 fun (a26 : Addr) =>
  ld [.int .i64] a26 h12 fun (v27 : Int) =>
  f101_ v27 h12 fun (r28 : ByteArray) (r29 : Int) (h30 : Heap) =>
  cellsAre h30 (a17.add 18) [.slice v18.ptr v18.len v18.cap] ∧
  cellsAre h30 a19 [.slice v20.ptr v20.len v20.cap] ∧
  cellsAre h30 a21 [.string v22, .int .u64 v23] ∧
  brr (!((v22.toList == r28.toList) && ((v23 == r29) && (true))))
  (Q false h30)
  (next10 (IntKind.i64.wrap (k11 + 1)) h30))
  (j9 h12))
def F_law1_Book_told.l2 (f101_ : Int → Heap → (ByteArray → Int → Heap → Prop) → Prop) (b1 : Option Addr) (Q : Bool → Heap → Prop) (j2 : Heap → Prop) : Int → Heap → Prop :=
  wl [(3, .one (.int .i64))] (fun (next3 : Int → Heap → Prop) (i4 : Int) (h5 : Heap) =>
  nn b1 fun (a6 : Addr) =>
  ld [.sl] (a6.add 18) h5 fun (v7 : Sl) =>
  brr (decide (i4 < ((v7.len : Nat) : Int)))
  (jn [] (fun  (h32 : Heap) =>
  next3 (IntKind.i64.wrap (i4 + 1)) h32) (fun (j8 : Heap → Prop) =>
  jn [] (fun  (h31 : Heap) =>
  j8 h31) (fun (j9 : Heap → Prop) =>
  F_law1_Book_told.l1 f101_ b1 Q i4 j9 0 h5)))
  (j2 h5))
def F_law1_Book_told.l3 (f102_ : Int → Heap → (Int → Int → ByteArray → Int → Heap → Prop) → Prop) (b1 : Option Addr) (Q : Bool → Heap → Prop) (i36 : Int) (j41 : Heap → Prop) : Int → Heap → Prop :=
  wl [(6, .one (.int .i64))] (fun (next42 : Int → Heap → Prop) (k43 : Int) (h44 : Heap) =>
  nn b1 fun (a45 : Addr) =>
  ld [.sl] (a45.add 21) h44 fun (v46 : Sl) =>
  ixS 1 v46 i36 fun (a47 : Addr) =>
  ld [.sl] a47 h44 fun (v48 : Sl) =>
  brr (decide (k43 < ((v48.len : Nat) : Int)))
  (nn b1 fun (a49 : Addr) =>
  ld [.sl] (a49.add 21) h44 fun (v50 : Sl) =>
  ixS 1 v50 i36 fun (a51 : Addr) =>
  ld [.sl] a51 h44 fun (v52 : Sl) =>
  ixS 4 v52 k43 fun (a53 : Addr) =>
  ld [.int .i64, .int .u64, .str, .int .u64] a53 h44 fun (v54 v55 : Int) (v56 : ByteArray) (v57 : Int) =>
  nn b1 fun (a58 : Addr) =>
  ld [.sl] (a58.add 22) h44 fun (v59 : Sl) =>
  ixS 1 v59 i36 fun (a60 : Addr) =>
  ld [.int .i64] a60 h44 fun (v61 : Int) =>
  f102_ v61 h44 fun (r62 r63 : Int) (r64 : ByteArray) (r65 : Int) (h66 : Heap) =>
  cellsAre h66 (a49.add 21) [.slice v50.ptr v50.len v50.cap] ∧
  cellsAre h66 a51 [.slice v52.ptr v52.len v52.cap] ∧
  cellsAre h66 a53 [.int .i64 v54, .int .u64 v55, .string v56, .int .u64 v57] ∧
  brr (!((v54 == r62) && ((v55 == r63) && ((v56.toList == r64.toList) && ((v57 == r65) && (true))))))
  (Q false h66)
  (next42 (IntKind.i64.wrap (k43 + 1)) h66))
  (j41 h44))
def F_law1_Book_told.l4 (f102_ : Int → Heap → (Int → Int → ByteArray → Int → Heap → Prop) → Prop) (b1 : Option Addr) (Q : Bool → Heap → Prop) (j34 : Heap → Prop) : Int → Heap → Prop :=
  wl [(5, .one (.int .i64))] (fun (next35 : Int → Heap → Prop) (i36 : Int) (h37 : Heap) =>
  nn b1 fun (a38 : Addr) =>
  ld [.sl] (a38.add 21) h37 fun (v39 : Sl) =>
  brr (decide (i36 < ((v39.len : Nat) : Int)))
  (jn [] (fun  (h68 : Heap) =>
  next35 (IntKind.i64.wrap (i36 + 1)) h68) (fun (j40 : Heap → Prop) =>
  jn [] (fun  (h67 : Heap) =>
  j40 h67) (fun (j41 : Heap → Prop) =>
  F_law1_Book_told.l3 f102_ b1 Q i36 j41 0 h37)))
  (j34 h37))
def F_law1_Book_told.l5 (f103_ : Int → Heap → (Int → Int → Int → Int → Heap → Prop) → Prop) (b1 : Option Addr) (Q : Bool → Heap → Prop) (i72 : Int) (j77 : Heap → Prop) : Int → Heap → Prop :=
  wl [(8, .one (.int .i64))] (fun (next78 : Int → Heap → Prop) (k79 : Int) (h80 : Heap) =>
  nn b1 fun (a81 : Addr) =>
  ld [.sl] (a81.add 24) h80 fun (v82 : Sl) =>
  ixS 1 v82 i72 fun (a83 : Addr) =>
  ld [.sl] a83 h80 fun (v84 : Sl) =>
  brr (decide (k79 < ((v84.len : Nat) : Int)))
  (nn b1 fun (a85 : Addr) =>
  ld [.sl] (a85.add 24) h80 fun (v86 : Sl) =>
  ixS 1 v86 i72 fun (a87 : Addr) =>
  ld [.sl] a87 h80 fun (v88 : Sl) =>
  ixS 4 v88 k79 fun (a89 : Addr) =>
  ld [.int .u64, .int .i64, .int .i64, .int .u64] a89 h80 fun (v90 v91 v92 v93 : Int) =>
  nn b1 fun (a94 : Addr) =>
  ld [.sl] (a94.add 25) h80 fun (v95 : Sl) =>
  ixS 1 v95 i72 fun (a96 : Addr) =>
  ld [.int .i64] a96 h80 fun (v97 : Int) =>
  f103_ v97 h80 fun (r98 r99 r100 r101 : Int) (h102 : Heap) =>
  cellsAre h102 (a85.add 24) [.slice v86.ptr v86.len v86.cap] ∧
  cellsAre h102 a87 [.slice v88.ptr v88.len v88.cap] ∧
  cellsAre h102 a89 [.int .u64 v90, .int .i64 v91, .int .i64 v92, .int .u64 v93] ∧
  brr (!((v90 == r98) && ((v91 == r99) && ((v92 == r100) && ((v93 == r101) && (true))))))
  (Q false h102)
  (next78 (IntKind.i64.wrap (k79 + 1)) h102))
  (j77 h80))
def F_law1_Book_told.l6 (f103_ : Int → Heap → (Int → Int → Int → Int → Heap → Prop) → Prop) (b1 : Option Addr) (Q : Bool → Heap → Prop) (j70 : Heap → Prop) : Int → Heap → Prop :=
  wl [(7, .one (.int .i64))] (fun (next71 : Int → Heap → Prop) (i72 : Int) (h73 : Heap) =>
  nn b1 fun (a74 : Addr) =>
  ld [.sl] (a74.add 24) h73 fun (v75 : Sl) =>
  brr (decide (i72 < ((v75.len : Nat) : Int)))
  (jn [] (fun  (h104 : Heap) =>
  next71 (IntKind.i64.wrap (i72 + 1)) h104) (fun (j76 : Heap → Prop) =>
  jn [] (fun  (h103 : Heap) =>
  j76 h103) (fun (j77 : Heap → Prop) =>
  F_law1_Book_told.l5 f103_ b1 Q i72 j77 0 h73)))
  (j70 h73))
def F_law1_Book_told.l7 (b1 : Option Addr) (Q : Bool → Heap → Prop) (i108 v116 : Int) (j117 : Heap → Prop) : Int → Heap → Prop :=
  wl [(11, .one (.int .i64))] (fun (next118 : Int → Heap → Prop) (k119 : Int) (h120 : Heap) =>
  nn b1 fun (a121 : Addr) =>
  ld [.sl] (a121.add 27) h120 fun (v122 : Sl) =>
  ixS 1 v122 i108 fun (a123 : Addr) =>
  ld [.sl] a123 h120 fun (v124 : Sl) =>
  brr (decide (k119 < ((v124.len : Nat) : Int)))
  (nn b1 fun (a125 : Addr) =>
  ld [.sl] (a125.add 27) h120 fun (v126 : Sl) =>
  ixS 1 v126 i108 fun (a127 : Addr) =>
  ld [.sl] a127 h120 fun (v128 : Sl) =>
  ixS 22 v128 k119 fun (a129 : Addr) =>
  ld [.int .i64, .int .i64, .int .i64, .int .i64, .int .u64, .int .u64, .int .u64, .int .u64, .int .i64, .int .u64, .sl, .int .i64, .int .u64, .str, .str, .int .u64, .int .u64, .int .u64, .int .i64, .int .i64, .int .i64, .int .i64] a129 h120 fun (v130 v131 v132 v133 v134 v135 v136 v137 v138 v139 : Int) (v140 : Sl) (v141 v142 : Int) (v143 v144 : ByteArray) (v145 v146 v147 v148 v149 v150 v151 : Int) =>
  al 61 [.int .i64 0, .int .i64 0, .int .i64 0, .int .i64 0, .int .u64 0, .int .u64 0, .int .u64 0, .int .u64 0, .int .i64 0, .int .u64 0, .slice none 0 0, .int .i64 0, .int .u64 0, .string (⟨#[]⟩ : ByteArray), .string (⟨#[]⟩ : ByteArray), .int .u64 0, .int .u64 0, .int .u64 0, .int .i64 0, .int .i64 0, .int .i64 0, .int .i64 0] h120 fun (a152 : Addr) (h153 : Heap) =>
  st a152 [.int .i64 v130, .int .i64 v131, .int .i64 v132, .int .i64 v133, .int .u64 v134, .int .u64 v135, .int .u64 v136, .int .u64 v137, .int .i64 v138, .int .u64 v139, .slice v140.ptr v140.len v140.cap, .int .i64 v141, .int .u64 v142, .string v143, .string v144, .int .u64 v145, .int .u64 v146, .int .u64 v147, .int .i64 v148, .int .i64 v149, .int .i64 v150, .int .i64 v151] h153 fun (h154 : Heap) =>
  jn [(193, .one .bool)] (fun (x160 : Bool) (h161 : Heap) =>
  brr x160
  (Q false h161)
  (next118 (IntKind.i64.wrap (k119 + 1)) h161)) (fun (j155 : Bool → Heap → Prop) =>
  ld [.int .i64] ((a152.add 0).add 0) h154 fun (v156 : Int) =>
  brr (v156 == (IntKind.i64.wrap (1000 + v116)))
  (ld [.sl] (a152.add 10) h154 fun (v157 : Sl) =>
  brr (((v157.len : Nat) : Int) == 0)
  (ld [.int .u64] (a152.add 4) h154 fun (v158 : Int) =>
  brr (v158 == 0)
  (ld [.str] (a152.add 13) h154 fun (v159 : ByteArray) =>
  j155 (!(v159.toList == (⟨#[]⟩ : ByteArray).toList)) h154)
  (j155 (!false) h154))
  (j155 (!false) h154))
  (j155 (!false) h154)))
  (j117 h120))
def F_law1_Book_told.l8 (b1 : Option Addr) (Q : Bool → Heap → Prop) (j106 : Heap → Prop) : Int → Heap → Prop :=
  wl [(9, .one (.int .i64))] (fun (next107 : Int → Heap → Prop) (i108 : Int) (h109 : Heap) =>
  nn b1 fun (a110 : Addr) =>
  ld [.sl] (a110.add 27) h109 fun (v111 : Sl) =>
  brr (decide (i108 < ((v111.len : Nat) : Int)))
  (jn [] (fun  (h163 : Heap) =>
  next107 (IntKind.i64.wrap (i108 + 1)) h163) (fun (j112 : Heap → Prop) =>
  nn b1 fun (a113 : Addr) =>
  ld [.sl] (a113.add 28) h109 fun (v114 : Sl) =>
  ixS 1 v114 i108 fun (a115 : Addr) =>
  ld [.int .i64] a115 h109 fun (v116 : Int) =>
  jn [] (fun  (h162 : Heap) =>
  j112 h162) (fun (j117 : Heap → Prop) =>
  F_law1_Book_told.l7 b1 Q i108 v116 j117 0 h109)))
  (j106 h109))
def F_law1_Book_told_of (f101_ : Int → Heap → (ByteArray → Int → Heap → Prop) → Prop) (f102_ : Int → Heap → (Int → Int → ByteArray → Int → Heap → Prop) → Prop) (f103_ : Int → Heap → (Int → Int → Int → Int → Heap → Prop) → Prop) (b1 : Option Addr) (h : Heap) (Q : Bool → Heap → Prop) : Prop :=
  jn [] (fun  (h33 : Heap) =>
  jn [] (fun  (h69 : Heap) =>
  jn [] (fun  (h105 : Heap) =>
  jn [] (fun  (h164 : Heap) =>
  Q true h164) (fun (j106 : Heap → Prop) =>
  F_law1_Book_told.l8 b1 Q j106 0 h105)) (fun (j70 : Heap → Prop) =>
  F_law1_Book_told.l6 f103_ b1 Q j70 0 h69)) (fun (j34 : Heap → Prop) =>
  F_law1_Book_told.l4 f102_ b1 Q j34 0 h33)) (fun (j2 : Heap → Prop) =>
  F_law1_Book_told.l2 f101_ b1 Q j2 0 h)
def F_law1_Book_told (b1 : Option Addr) (h : Heap) (Q : Bool → Heap → Prop) : Prop := F_law1_Book_told_of F_law1_acctsMark F_law1_queueMark F_law1_slotsMark b1 h Q
def plan70 : Plan := .s (.r [0]) (.s (.s (.r [0, 3]) (.bj [] [0] (.l [(3, .one (.int .i64))] [0] (.s (.s (.r [0, 3, 19]) (.c .z .z)) (.s (.bj [] [0, 3] (.s (.r [0, 3, 4]) (.bj [] [0, 3] (.l [(4, .one (.int .i64))] [0, 3] (.s (.s (.r [0, 3, 4, 31]) (.c .z .z)) (.s (.b (.s (.d [0, 1, 3, 7, 0, 31, 63, 0, 255, 511, 0, 1024, 3072, 7168, 0, 31744, 64512, 130048, 262143] [[0, 1, 2, 3, 4, 5, 6, 7, 8, 9, 10, 11, 12, 13, 14, 15, 16, 17, 18]] [0, 3, 4, 52]) (.c (.s (.r [2]) .z) .z))) (.r [0, 3, 4]))))))) (.r [0, 3])))))) (.s (.s (.r [0, 5]) (.bj [] [0] (.l [(5, .one (.int .i64))] [0] (.s (.s (.r [0, 5, 59]) (.c .z .z)) (.s (.bj [] [0, 5] (.s (.r [0, 5, 6]) (.bj [] [0, 5] (.l [(6, .one (.int .i64))] [0, 5] (.s (.s (.r [0, 5, 6, 71]) (.c .z .z)) (.s (.b (.s (.d [0, 1, 3, 7, 0, 31, 63, 0, 255, 511, 0, 1024, 3072, 7168, 0, 31744, 64512, 130048, 262143] [[0, 1, 2, 3, 4, 5, 6, 7, 8, 9, 10, 11, 12, 13, 14, 15, 16, 17, 18]] [0, 5, 6, 92]) (.c (.s (.r [2]) .z) .z))) (.r [0, 5, 6]))))))) (.r [0, 5])))))) (.s (.s (.r [0, 7]) (.bj [] [0] (.l [(7, .one (.int .i64))] [0] (.s (.s (.r [0, 7, 99]) (.c .z .z)) (.s (.bj [] [0, 7] (.s (.r [0, 7, 8]) (.bj [] [0, 7] (.l [(8, .one (.int .i64))] [0, 7] (.s (.s (.r [0, 7, 8, 111]) (.c .z .z)) (.s (.b (.s (.d [0, 1, 3, 7, 0, 31, 63, 0, 255, 511, 0, 1024, 3072, 7168, 0, 31744, 64512, 130048, 262143] [[0, 1, 2, 3, 4, 5, 6, 7, 8, 9, 10, 11, 12, 13, 14, 15, 16, 17, 18]] [0, 7, 8, 132]) (.c (.s (.r [2]) .z) .z))) (.r [0, 7, 8]))))))) (.r [0, 7])))))) (.s (.s (.r [0, 9]) (.bj [] [] (.l [(9, .one (.int .i64))] [0] (.s (.s (.r [0, 9, 139]) (.c .z .z)) (.s (.bj [] [0, 9] (.s (.r [0, 9, 10]) (.s (.r [0, 9, 10, 11]) (.bj [] [0, 9] (.l [(11, .one (.int .i64))] [0, 9, 10] (.s (.s (.r [0, 9, 10, 11, 158]) (.c .z .z)) (.s (.b (.s (.r [0, 9, 10, 11, 12]) (.s (.rj [(193, .one .bool)] [0, 9, 10, 11]) (.c (.s (.r [2]) .z) .z)))) (.r [0, 9, 10, 11])))))))) (.r [0, 9])))))) (.s (.r [2]) .z)))))
theorem F_law1_Book_told.eq (f101_ : Int → Heap → (ByteArray → Int → Heap → Prop) → Prop) (f102_ : Int → Heap → (Int → Int → ByteArray → Int → Heap → Prop) → Prop) (f103_ : Int → Heap → (Int → Int → Int → Int → Heap → Prop) → Prop) (b1 : Option Addr) (h : Heap) (K : Value → Heap → Prop) : F_law1_Book_told_of f101_ f102_ f103_ b1 h (fun (r0 : Bool) (h : Heap) => K (.bool r0) h) =
    den Tryz.prog (fn1 101 (E_law1_acctsMark_of f101_) (fn1 102 (E_law1_queueMark_of f102_) (fn1 103 (E_law1_slotsMark_of f103_) noFns))) Tryz.f70.ntmps plan70 (bodyOf Tryz.f70) (args0 0 [(.pointer b1 : Value)]) h ⟨fun env h => dRes Tryz.prog Tryz.f70.results.toList env h K, fun _ _ _ => False, fun env h => dRes Tryz.prog Tryz.f70.results.toList env h K⟩ := by kernel_rfl
def E_law1_Book_told_of (f : Option Addr → Heap → (Bool → Heap → Prop) → Prop) : List Value → Heap → (Value → Heap → Prop) → Prop
  | [v0], h, K => dec1 .ptr v0 fun (b1 : Option Addr) =>
  f b1 h (fun (r0 : Bool) (h : Heap) => K (.bool r0) h)
  | _, _, _ => False
abbrev E_law1_Book_told := E_law1_Book_told_of F_law1_Book_told
theorem E_law1_Book_told.right : IsRight Tryz.prog 70 E_law1_Book_told := by
  refine isRight fun vs K w hh => ?_
  match vs, hh with
  | [v0], hh =>
    unfold E_law1_Book_told E_law1_Book_told_of at hh
    replace hh := dec1_sound hh; obtain ⟨b1, rfl, hh⟩ := hh
    unfold F_law1_Book_told at hh
    exact calls_den (fn1_right ok101 E_law1_acctsMark.right (fn1_right ok102 E_law1_queueMark.right (fn1_right ok103 E_law1_slotsMark.right noFns_right))) plan70 _ w K Tryz.func70 (by kernel_rfl) (by kernel_rfl) (Eq.mp (F_law1_Book_told.eq F_law1_acctsMark F_law1_queueMark F_law1_slotsMark b1 w.heap K) hh)
theorem ok70 : okFn Tryz.prog 70 = true := by kernel_rfl
end Go.Proofs.YtigcpkejjjgkeaaGreat.V
namespace Go.Proofs.YtigcpkejjjgkeaaGreat.V
open Go Go.RowKit
set_option linter.unusedVariables false
set_option maxRecDepth 100000
def F_law1_filesMark_of (f44_ : Int → Int → Heap → (Int → Heap → Prop) → Prop) (m1 : Int) (h : Heap) (Q : ByteArray → Sl → Heap → Prop) : Prop :=
  al 151 [.string (⟨#[]⟩ : ByteArray), .slice none 0 0] h fun (a2 : Addr) (h3 : Heap) =>
  f44_ m1 0 h3 fun (r4 : Int) (h5 : Heap) =>
  f44_ m1 1 h5 fun (r6 : Int) (h7 : Heap) =>
  al 5 [.int .u8 r4, .int .u8 r6, .int .u8 33] h7 fun (a8 : Addr) (h9 : Heap) =>
  b2s (some a8) 3 h9 fun (s10 : ByteArray) =>
  st a2 [.string s10, .slice none 0 0] h9 fun (h11 : Heap) =>
  ld [.str, .sl] a2 h11 fun (v12 : ByteArray) (v13 : Sl) =>
  Q v12 v13 h11
def F_law1_filesMark (m1 : Int) (h : Heap) (Q : ByteArray → Sl → Heap → Prop) : Prop := F_law1_filesMark_of F_law1_at m1 h Q
def plan104 : Plan := .s (.r [0, 2]) (.s (.r [2]) .z)
theorem F_law1_filesMark.eq (f44_ : Int → Int → Heap → (Int → Heap → Prop) → Prop) (m1 : Int) (h : Heap) (K : Value → Heap → Prop) : F_law1_filesMark_of f44_ m1 h (fun (r0 : ByteArray) (r1 : Sl) (h : Heap) => K (.agg #[.string r0, .slice r1.ptr r1.len r1.cap]) h) =
    den Tryz.prog (fn1 44 (E_law1_at_of f44_) noFns) Tryz.f104.ntmps plan104 (bodyOf Tryz.f104) (args0 0 [(.int .i64 m1 : Value)]) h ⟨fun env h => dRes Tryz.prog Tryz.f104.results.toList env h K, fun _ _ _ => False, fun env h => dRes Tryz.prog Tryz.f104.results.toList env h K⟩ := by kernel_rfl
def E_law1_filesMark_of (f : Int → Heap → (ByteArray → Sl → Heap → Prop) → Prop) : List Value → Heap → (Value → Heap → Prop) → Prop
  | [v0], h, K => dec1 (.int .i64) v0 fun (m1 : Int) =>
  f m1 h (fun (r0 : ByteArray) (r1 : Sl) (h : Heap) => K (.agg #[.string r0, .slice r1.ptr r1.len r1.cap]) h)
  | _, _, _ => False
abbrev E_law1_filesMark := E_law1_filesMark_of F_law1_filesMark
theorem E_law1_filesMark.right : IsRight Tryz.prog 104 E_law1_filesMark := by
  refine isRight fun vs K w hh => ?_
  match vs, hh with
  | [v0], hh =>
    unfold E_law1_filesMark E_law1_filesMark_of at hh
    replace hh := dec1_sound hh; obtain ⟨m1, rfl, hh⟩ := hh
    unfold F_law1_filesMark at hh
    exact calls_den (fn1_right ok44 E_law1_at.right noFns_right) plan104 _ w K Tryz.func104 (by kernel_rfl) (by kernel_rfl) (Eq.mp (F_law1_filesMark.eq F_law1_at m1 w.heap K) hh)
theorem ok104 : okFn Tryz.prog 104 = true := by kernel_rfl
end Go.Proofs.YtigcpkejjjgkeaaGreat.V
namespace Go.Proofs.YtigcpkejjjgkeaaGreat.V
open Go Go.RowKit
set_option linter.unusedVariables false
set_option maxRecDepth 100000
def F_law1_Book_held.l1 (b1 : Option Addr) (Q : Bool → Heap → Prop) (i4 v12 : Int) (j13 : Heap → Prop) : Int → Heap → Prop :=
  wl [(5, .one (.int .i64))] (fun (next14 : Int → Heap → Prop) (k15 : Int) (h16 : Heap) =>
  nn b1 fun (a17 : Addr) =>
  ld [.sl] (a17.add 30) h16 fun (v18 : Sl) =>
  ixS 1 v18 i4 fun (a19 : Addr) =>
  ld [.sl] a19 h16 fun (v20 : Sl) =>
  brr (decide (k15 < ((v20.len : Nat) : Int)))
  (nn b1 fun (a21 : Addr) =>
  ld [.sl] (a21.add 30) h16 fun (v22 : Sl) =>
  ixS 1 v22 i4 fun (a23 : Addr) =>
  ld [.sl] a23 h16 fun (v24 : Sl) =>
  ixS 2 v24 k15 fun (a25 : Addr) =>
  ld [.int .i64, .sl] a25 h16 fun (v26 : Int) (v27 : Sl) =>
  al 148 [.int .i64 0, .slice none 0 0] h16 fun (a28 : Addr) (h29 : Heap) =>
  st a28 [.int .i64 v26, .slice v27.ptr v27.len v27.cap] h29 fun (h30 : Heap) =>
  jn [(60, .one .bool)] (fun (x34 : Bool) (h35 : Heap) =>
  brr x34
  (Q false h35)
  (next14 (IntKind.i64.wrap (k15 + 1)) h35)) (fun (j31 : Bool → Heap → Prop) =>
  ld [.int .i64] (a28.add 0) h30 fun (v32 : Int) =>
  brr (v32 == (IntKind.i64.wrap (1000 + v12)))
  (ld [.sl] (a28.add 1) h30 fun (v33 : Sl) =>
  j31 (!(((v33.len : Nat) : Int) == 0)) h30)
  (j31 (!false) h30)))
  (j13 h16))
def F_law1_Book_held.l2 (b1 : Option Addr) (Q : Bool → Heap → Prop) (j2 : Heap → Prop) : Int → Heap → Prop :=
  wl [(3, .one (.int .i64))] (fun (next3 : Int → Heap → Prop) (i4 : Int) (h5 : Heap) =>
  nn b1 fun (a6 : Addr) =>
  ld [.sl] (a6.add 30) h5 fun (v7 : Sl) =>
  brr (decide (i4 < ((v7.len : Nat) : Int)))
  (jn [] (fun  (h37 : Heap) =>
  next3 (IntKind.i64.wrap (i4 + 1)) h37) (fun (j8 : Heap → Prop) =>
  nn b1 fun (a9 : Addr) =>
  ld [.sl] (a9.add 31) h5 fun (v10 : Sl) =>
  ixS 1 v10 i4 fun (a11 : Addr) =>
  ld [.int .i64] a11 h5 fun (v12 : Int) =>
  jn [] (fun  (h36 : Heap) =>
  j8 h36) (fun (j13 : Heap → Prop) =>
  F_law1_Book_held.l1 b1 Q i4 v12 j13 0 h5)))
  (j2 h5))
def F_law1_Book_held.l3 (f104_ : Int → Heap → (ByteArray → Sl → Heap → Prop) → Prop) (b1 : Option Addr) (Q : Bool → Heap → Prop) (i41 v49 : Int) (j50 : Heap → Prop) : Int → Heap → Prop :=
  wl [(9, .one (.int .i64))] (fun (next51 : Int → Heap → Prop) (k52 : Int) (h53 : Heap) =>
  nn b1 fun (a54 : Addr) =>
  ld [.sl] (a54.add 33) h53 fun (v55 : Sl) =>
  ixS 1 v55 i41 fun (a56 : Addr) =>
  ld [.sl] a56 h53 fun (v57 : Sl) =>
  brr (decide (k52 < ((v57.len : Nat) : Int)))
  (nn b1 fun (a58 : Addr) =>
  ld [.sl] (a58.add 33) h53 fun (v59 : Sl) =>
  ixS 1 v59 i41 fun (a60 : Addr) =>
  ld [.sl] a60 h53 fun (v61 : Sl) =>
  ixS 2 v61 k52 fun (a62 : Addr) =>
  ld [.str, .sl] a62 h53 fun (v63 : ByteArray) (v64 : Sl) =>
  al 151 [.string (⟨#[]⟩ : ByteArray), .slice none 0 0] h53 fun (a65 : Addr) (h66 : Heap) =>
  st a65 [.string v63, .slice v64.ptr v64.len v64.cap] h66 fun (h67 : Heap) =>
  jn [(111, .one .bool)] (fun (x74 : Bool) (h75 : Heap) =>
  brr x74
  (Q false h75)
  (next51 (IntKind.i64.wrap (k52 + 1)) h75)) (fun (j68 : Bool → Heap → Prop) =>
  ld [.str] (a65.add 0) h67 fun (v69 : ByteArray) =>
  f104_ v49 h67 fun (r70 : ByteArray) (r71 : Sl) (h72 : Heap) =>
  cellsAre h72 (a65.add 0) [.string v69] ∧
  brr (v69.toList == r70.toList)
  (ld [.sl] (a65.add 1) h72 fun (v73 : Sl) =>
  j68 (!(((v73.len : Nat) : Int) == 0)) h72)
  (j68 (!false) h72)))
  (j50 h53))
def F_law1_Book_held.l4 (f104_ : Int → Heap → (ByteArray → Sl → Heap → Prop) → Prop) (b1 : Option Addr) (Q : Bool → Heap → Prop) (j39 : Heap → Prop) : Int → Heap → Prop :=
  wl [(7, .one (.int .i64))] (fun (next40 : Int → Heap → Prop) (i41 : Int) (h42 : Heap) =>
  nn b1 fun (a43 : Addr) =>
  ld [.sl] (a43.add 33) h42 fun (v44 : Sl) =>
  brr (decide (i41 < ((v44.len : Nat) : Int)))
  (jn [] (fun  (h77 : Heap) =>
  next40 (IntKind.i64.wrap (i41 + 1)) h77) (fun (j45 : Heap → Prop) =>
  nn b1 fun (a46 : Addr) =>
  ld [.sl] (a46.add 34) h42 fun (v47 : Sl) =>
  ixS 1 v47 i41 fun (a48 : Addr) =>
  ld [.int .i64] a48 h42 fun (v49 : Int) =>
  jn [] (fun  (h76 : Heap) =>
  j45 h76) (fun (j50 : Heap → Prop) =>
  F_law1_Book_held.l3 f104_ b1 Q i41 v49 j50 0 h42)))
  (j39 h42))
def F_law1_Book_held_of (f104_ : Int → Heap → (ByteArray → Sl → Heap → Prop) → Prop) (b1 : Option Addr) (h : Heap) (Q : Bool → Heap → Prop) : Prop :=
  jn [] (fun  (h38 : Heap) =>
  jn [] (fun  (h78 : Heap) =>
  Q true h78) (fun (j39 : Heap → Prop) =>
  F_law1_Book_held.l4 f104_ b1 Q j39 0 h38)) (fun (j2 : Heap → Prop) =>
  F_law1_Book_held.l2 b1 Q j2 0 h)
def F_law1_Book_held (b1 : Option Addr) (h : Heap) (Q : Bool → Heap → Prop) : Prop := F_law1_Book_held_of F_law1_filesMark b1 h Q
def plan71 : Plan := .s (.r [0]) (.s (.s (.r [0, 3]) (.bj [] [0] (.l [(3, .one (.int .i64))] [0] (.s (.s (.r [0, 3, 17]) (.c .z .z)) (.s (.bj [] [0, 3] (.s (.r [0, 3, 4]) (.s (.r [0, 3, 4, 5]) (.bj [] [0, 3] (.l [(5, .one (.int .i64))] [0, 3, 4] (.s (.s (.r [0, 3, 4, 5, 36]) (.c .z .z)) (.s (.b (.s (.r [0, 3, 4, 5, 6]) (.s (.rj [(60, .one .bool)] [0, 3, 4, 5]) (.c (.s (.r [2]) .z) .z)))) (.r [0, 3, 4, 5])))))))) (.r [0, 3])))))) (.s (.s (.r [0, 7]) (.bj [] [] (.l [(7, .one (.int .i64))] [0] (.s (.s (.r [0, 7, 67]) (.c .z .z)) (.s (.bj [] [0, 7] (.s (.r [0, 7, 8]) (.s (.r [0, 7, 8, 9]) (.bj [] [0, 7] (.l [(9, .one (.int .i64))] [0, 7, 8] (.s (.s (.r [0, 7, 8, 9, 86]) (.c .z .z)) (.s (.b (.s (.r [0, 7, 8, 9, 10]) (.s (.dj [0, 1, 0, 4, 12, 31, 63, 127, 255, 511, 1023, 2047, 4095] [[0, 1, 2, 3, 4, 5, 6, 7, 8, 9, 10, 11, 12]] [(111, .one .bool)] [0, 7, 8, 9]) (.c (.s (.r [2]) .z) .z)))) (.r [0, 7, 8, 9])))))))) (.r [0, 7])))))) (.s (.r [2]) .z)))
theorem F_law1_Book_held.eq (f104_ : Int → Heap → (ByteArray → Sl → Heap → Prop) → Prop) (b1 : Option Addr) (h : Heap) (K : Value → Heap → Prop) : F_law1_Book_held_of f104_ b1 h (fun (r0 : Bool) (h : Heap) => K (.bool r0) h) =
    den Tryz.prog (fn1 104 (E_law1_filesMark_of f104_) noFns) Tryz.f71.ntmps plan71 (bodyOf Tryz.f71) (args0 0 [(.pointer b1 : Value)]) h ⟨fun env h => dRes Tryz.prog Tryz.f71.results.toList env h K, fun _ _ _ => False, fun env h => dRes Tryz.prog Tryz.f71.results.toList env h K⟩ := by kernel_rfl
def E_law1_Book_held_of (f : Option Addr → Heap → (Bool → Heap → Prop) → Prop) : List Value → Heap → (Value → Heap → Prop) → Prop
  | [v0], h, K => dec1 .ptr v0 fun (b1 : Option Addr) =>
  f b1 h (fun (r0 : Bool) (h : Heap) => K (.bool r0) h)
  | _, _, _ => False
abbrev E_law1_Book_held := E_law1_Book_held_of F_law1_Book_held
theorem E_law1_Book_held.right : IsRight Tryz.prog 71 E_law1_Book_held := by
  refine isRight fun vs K w hh => ?_
  match vs, hh with
  | [v0], hh =>
    unfold E_law1_Book_held E_law1_Book_held_of at hh
    replace hh := dec1_sound hh; obtain ⟨b1, rfl, hh⟩ := hh
    unfold F_law1_Book_held at hh
    exact calls_den (fn1_right ok104 E_law1_filesMark.right noFns_right) plan71 _ w K Tryz.func71 (by kernel_rfl) (by kernel_rfl) (Eq.mp (F_law1_Book_held.eq F_law1_filesMark b1 w.heap K) hh)
theorem ok71 : okFn Tryz.prog 71 = true := by kernel_rfl
end Go.Proofs.YtigcpkejjjgkeaaGreat.V
namespace Go.Proofs.YtigcpkejjjgkeaaGreat.V
open Go Go.RowKit
set_option linter.unusedVariables false
set_option maxRecDepth 100000
def F_law1_Book_holds_of (f68_ : Option Addr → Heap → (Bool → Heap → Prop) → Prop) (f69_ : Option Addr → Heap → (Bool → Heap → Prop) → Prop) (f70_ : Option Addr → Heap → (Bool → Heap → Prop) → Prop) (f71_ : Option Addr → Heap → (Bool → Heap → Prop) → Prop) (b1 : Option Addr) (h : Heap) (Q : Bool → Heap → Prop) : Prop :=
  jn [(2, .one .bool)] (fun (x11 : Bool) (h12 : Heap) =>
  Q x11 h12) (fun (j2 : Bool → Heap → Prop) =>
  f68_ b1 h fun (r3 : Bool) (h4 : Heap) =>
  brr r3
  (f69_ b1 h4 fun (r5 : Bool) (h6 : Heap) =>
  brr r5
  (f70_ b1 h6 fun (r7 : Bool) (h8 : Heap) =>
  brr r7
  (f71_ b1 h8 fun (r9 : Bool) (h10 : Heap) =>
  j2 r9 h10)
  (j2 false h8))
  (j2 false h6))
  (j2 false h4))
def F_law1_Book_holds (b1 : Option Addr) (h : Heap) (Q : Bool → Heap → Prop) : Prop := F_law1_Book_holds_of F_law1_Book_plain F_law1_Book_kept F_law1_Book_told F_law1_Book_held b1 h Q
def plan39 : Plan := .s (.r [0]) (.s (.rj [(2, .one .bool)] []) .z)
theorem F_law1_Book_holds.eq (f68_ : Option Addr → Heap → (Bool → Heap → Prop) → Prop) (f69_ : Option Addr → Heap → (Bool → Heap → Prop) → Prop) (f70_ : Option Addr → Heap → (Bool → Heap → Prop) → Prop) (f71_ : Option Addr → Heap → (Bool → Heap → Prop) → Prop) (b1 : Option Addr) (h : Heap) (K : Value → Heap → Prop) : F_law1_Book_holds_of f68_ f69_ f70_ f71_ b1 h (fun (r0 : Bool) (h : Heap) => K (.bool r0) h) =
    den Tryz.prog (fn1 68 (E_law1_Book_plain_of f68_) (fn1 69 (E_law1_Book_kept_of f69_) (fn1 70 (E_law1_Book_told_of f70_) (fn1 71 (E_law1_Book_held_of f71_) noFns)))) Tryz.f39.ntmps plan39 (bodyOf Tryz.f39) (args0 0 [(.pointer b1 : Value)]) h ⟨fun env h => dRes Tryz.prog Tryz.f39.results.toList env h K, fun _ _ _ => False, fun env h => dRes Tryz.prog Tryz.f39.results.toList env h K⟩ := by kernel_rfl
def E_law1_Book_holds_of (f : Option Addr → Heap → (Bool → Heap → Prop) → Prop) : List Value → Heap → (Value → Heap → Prop) → Prop
  | [v0], h, K => dec1 .ptr v0 fun (b1 : Option Addr) =>
  f b1 h (fun (r0 : Bool) (h : Heap) => K (.bool r0) h)
  | _, _, _ => False
abbrev E_law1_Book_holds := E_law1_Book_holds_of F_law1_Book_holds
theorem E_law1_Book_holds.right : IsRight Tryz.prog 39 E_law1_Book_holds := by
  refine isRight fun vs K w hh => ?_
  match vs, hh with
  | [v0], hh =>
    unfold E_law1_Book_holds E_law1_Book_holds_of at hh
    replace hh := dec1_sound hh; obtain ⟨b1, rfl, hh⟩ := hh
    unfold F_law1_Book_holds at hh
    exact calls_den (fn1_right ok68 E_law1_Book_plain.right (fn1_right ok69 E_law1_Book_kept.right (fn1_right ok70 E_law1_Book_told.right (fn1_right ok71 E_law1_Book_held.right noFns_right)))) plan39 _ w K Tryz.func39 (by kernel_rfl) (by kernel_rfl) (Eq.mp (F_law1_Book_holds.eq F_law1_Book_plain F_law1_Book_kept F_law1_Book_told F_law1_Book_held b1 w.heap K) hh)
theorem ok39 : okFn Tryz.prog 39 = true := by kernel_rfl
end Go.Proofs.YtigcpkejjjgkeaaGreat.V
namespace Go.Proofs.YtigcpkejjjgkeaaGreat.V
open Go Go.RowKit
set_option linter.unusedVariables false
set_option maxRecDepth 100000
def F_law1_Book_growBytes.l1 (f44_ : Int → Int → Heap → (Int → Heap → Prop) → Prop) (b1 : Option Addr) (v18 : Int) (j19 : Heap → Prop) : Sl → Int → Heap → Prop :=
  wl [(4, .one .sl), (6, .one (.int .i64))] (fun (next20 : Sl → Int → Heap → Prop) (g21 : Sl) (i22 : Int) (h23 : Heap) =>
  brr (decide (i22 ≤ 96))
  (f44_ v18 ((g21.len : Nat) : Int) h23 fun (r24 : Int) (h25 : Heap) =>
  al 5 [.int .u8 r24] h25 fun (a26 : Addr) (h27 : Heap) =>
  app 5 1 1 (.int .u8 0) g21 (some a26) 1 h27 fun (s28 : Sl) (h29 : Heap) =>
  jn [(52, .one .bool)] (fun (x31 : Bool) (h32 : Heap) =>
  jn [] (fun  (h50 : Heap) =>
  next20 s28 (IntKind.i64.wrap (i22 + 1)) h50) (fun (j33 : Heap → Prop) =>
  brr x31
  (nn b1 fun (a34 : Addr) =>
  ld [.sl] (a34.add 0) h32 fun (v35 : Sl) =>
  al 52 [.slice s28.ptr s28.len s28.cap] h32 fun (a36 : Addr) (h37 : Heap) =>
  app 52 1 24 (.slice none 0 0) v35 (some a36) 1 h37 fun (s38 : Sl) (h39 : Heap) =>
  nn b1 fun (a40 : Addr) =>
  st (a40.add 0) [.slice s38.ptr s38.len s38.cap] h39 fun (h41 : Heap) =>
  nn b1 fun (a42 : Addr) =>
  ld [.sl] (a42.add 1) h41 fun (v43 : Sl) =>
  al 3 [.int .i64 v18] h41 fun (a44 : Addr) (h45 : Heap) =>
  app 3 1 8 (.int .i64 0) v43 (some a44) 1 h45 fun (s46 : Sl) (h47 : Heap) =>
  nn b1 fun (a48 : Addr) =>
  st (a48.add 1) [.slice s46.ptr s46.len s46.cap] h47 fun (h49 : Heap) =>
  j33 h49)
  (j33 h32))) (fun (j30 : Bool → Heap → Prop) =>
  brr (decide (i22 < 4))
  (j30 true h29)
  ((16 : Int) ≠ 0 ∧
  j30 ((i22.tmod 16) == 0) h29)))
  (j19 h23))
def F_law1_Book_growBytes.l2 (f44_ : Int → Int → Heap → (Int → Heap → Prop) → Prop) (b1 : Option Addr) (v3 : Sl) (j6 : Heap → Prop) : Int → Heap → Prop :=
  wl [(3, .one (.int .i64))] (fun (next7 : Int → Heap → Prop) (k8 : Int) (h9 : Heap) =>
  brr (decide (k8 < ((v3.len : Nat) : Int)))
  (jn [] (fun  (h52 : Heap) =>
  next7 (IntKind.i64.wrap (k8 + 1)) h52) (fun (j10 : Heap → Prop) =>
  nn b1 fun (a11 : Addr) =>
  ld [.sl] (a11.add 0) h9 fun (v12 : Sl) =>
  ixS 1 v12 k8 fun (a13 : Addr) =>
  ld [.sl] a13 h9 fun (v14 : Sl) =>
  nn b1 fun (a15 : Addr) =>
  ld [.sl] (a15.add 1) h9 fun (v16 : Sl) =>
  ixS 1 v16 k8 fun (a17 : Addr) =>
  ld [.int .i64] a17 h9 fun (v18 : Int) =>
  jn [] (fun  (h51 : Heap) =>
  j10 h51) (fun (j19 : Heap → Prop) =>
  F_law1_Book_growBytes.l1 f44_ b1 v18 j19 v14 1 h9)))
  (j6 h9))
def F_law1_Book_growBytes_of (f44_ : Int → Int → Heap → (Int → Heap → Prop) → Prop) (b1 : Option Addr) (h : Heap) (Q : Heap → Prop) : Prop :=
  nn b1 fun (a2 : Addr) =>
  ld [.sl] (a2.add 0) h fun (v3 : Sl) =>
  nn b1 fun (a4 : Addr) =>
  ld [.int .i64] (a4.add 2) h fun (v5 : Int) =>
  jn [] (fun  (h53 : Heap) =>
  nn b1 fun (a54 : Addr) =>
  ld [.sl] (a54.add 0) h53 fun (v55 : Sl) =>
  nn b1 fun (a56 : Addr) =>
  st (a56.add 2) [.int .i64 ((v55.len : Nat) : Int)] h53 fun (h57 : Heap) =>
  Q h57) (fun (j6 : Heap → Prop) =>
  F_law1_Book_growBytes.l2 f44_ b1 v3 j6 v5 h)
def F_law1_Book_growBytes (b1 : Option Addr) (h : Heap) (Q : Heap → Prop) : Prop := F_law1_Book_growBytes_of F_law1_at b1 h Q
def plan72 : Plan := .s (.r [0, 2]) (.s (.s (.r [0, 2, 3]) (.bj [] [0] (.l [(3, .one (.int .i64))] [0, 2] (.s (.s (.r [0, 2, 3, 18]) (.c .z .z)) (.s (.bj [] [0, 2, 3] (.s (.r [0, 2, 3, 4]) (.s (.r [0, 2, 3, 4, 5]) (.s (.r [0, 2, 3, 4, 5, 6]) (.bj [] [0, 2, 3] (.l [(4, .one .sl), (6, .one (.int .i64))] [0, 2, 3, 5] (.s (.s (.r [0, 2, 3, 4, 5, 6, 36]) (.c .z .z)) (.s (.b (.s (.r [0, 2, 3, 4, 5, 6]) (.s (.rj [(52, .one .bool)] [0, 2, 3, 4, 5, 6]) (.cj [] [0, 2, 3, 4, 5, 6] (.s (.r [0, 2, 3, 4, 5, 6]) (.r [0, 2, 3, 4, 5, 6])) .z)))) (.r [0, 2, 3, 4, 5, 6]))))))))) (.r [0, 2, 3])))))) (.r []))
theorem F_law1_Book_growBytes.eq (f44_ : Int → Int → Heap → (Int → Heap → Prop) → Prop) (b1 : Option Addr) (h : Heap) (K : Value → Heap → Prop) : F_law1_Book_growBytes_of f44_ b1 h (fun  (h : Heap) => K (.tuple #[]) h) =
    den Tryz.prog (fn1 44 (E_law1_at_of f44_) noFns) Tryz.f72.ntmps plan72 (bodyOf Tryz.f72) (args0 0 [(.pointer b1 : Value)]) h ⟨fun env h => dRes Tryz.prog Tryz.f72.results.toList env h K, fun _ _ _ => False, fun env h => dRes Tryz.prog Tryz.f72.results.toList env h K⟩ := by kernel_rfl
def E_law1_Book_growBytes_of (f : Option Addr → Heap → (Heap → Prop) → Prop) : List Value → Heap → (Value → Heap → Prop) → Prop
  | [v0], h, K => dec1 .ptr v0 fun (b1 : Option Addr) =>
  f b1 h (fun  (h : Heap) => K (.tuple #[]) h)
  | _, _, _ => False
abbrev E_law1_Book_growBytes := E_law1_Book_growBytes_of F_law1_Book_growBytes
theorem E_law1_Book_growBytes.right : IsRight Tryz.prog 72 E_law1_Book_growBytes := by
  refine isRight fun vs K w hh => ?_
  match vs, hh with
  | [v0], hh =>
    unfold E_law1_Book_growBytes E_law1_Book_growBytes_of at hh
    replace hh := dec1_sound hh; obtain ⟨b1, rfl, hh⟩ := hh
    unfold F_law1_Book_growBytes at hh
    exact calls_den (fn1_right ok44 E_law1_at.right noFns_right) plan72 _ w K Tryz.func72 (by kernel_rfl) (by kernel_rfl) (Eq.mp (F_law1_Book_growBytes.eq F_law1_at b1 w.heap K) hh)
theorem ok72 : okFn Tryz.prog 72 = true := by kernel_rfl
end Go.Proofs.YtigcpkejjjgkeaaGreat.V
namespace Go.Proofs.YtigcpkejjjgkeaaGreat.V
open Go Go.RowKit
set_option linter.unusedVariables false
set_option maxRecDepth 100000
def F_law1_Book_growRows.l1 (f44_ : Int → Int → Heap → (Int → Heap → Prop) → Prop) (b1 : Option Addr) (v18 : Int) (j19 : Heap → Prop) : Sl → Int → Heap → Prop :=
  wl [(4, .one .sl), (6, .one (.int .i64))] (fun (next20 : Sl → Int → Heap → Prop) (g21 : Sl) (i22 : Int) (h23 : Heap) =>
  brr (decide (i22 ≤ 32))
  (f44_ v18 0 h23 fun (r24 : Int) (h25 : Heap) =>
  f44_ v18 1 h25 fun (r26 : Int) (h27 : Heap) =>
  al 5 [.int .u8 r24, .int .u8 r26] h27 fun (a28 : Addr) (h29 : Heap) =>
  al 52 [.slice (some a28) 2 2] h29 fun (a30 : Addr) (h31 : Heap) =>
  app 52 1 24 (.slice none 0 0) g21 (some a30) 1 h31 fun (s32 : Sl) (h33 : Heap) =>
  jn [(53, .one .bool)] (fun (x35 : Bool) (h36 : Heap) =>
  jn [] (fun  (h54 : Heap) =>
  next20 s32 (IntKind.i64.wrap (i22 + 1)) h54) (fun (j37 : Heap → Prop) =>
  brr x35
  (nn b1 fun (a38 : Addr) =>
  ld [.sl] (a38.add 3) h36 fun (v39 : Sl) =>
  al 29 [.slice s32.ptr s32.len s32.cap] h36 fun (a40 : Addr) (h41 : Heap) =>
  app 29 1 24 (.slice none 0 0) v39 (some a40) 1 h41 fun (s42 : Sl) (h43 : Heap) =>
  nn b1 fun (a44 : Addr) =>
  st (a44.add 3) [.slice s42.ptr s42.len s42.cap] h43 fun (h45 : Heap) =>
  nn b1 fun (a46 : Addr) =>
  ld [.sl] (a46.add 4) h45 fun (v47 : Sl) =>
  al 3 [.int .i64 v18] h45 fun (a48 : Addr) (h49 : Heap) =>
  app 3 1 8 (.int .i64 0) v47 (some a48) 1 h49 fun (s50 : Sl) (h51 : Heap) =>
  nn b1 fun (a52 : Addr) =>
  st (a52.add 4) [.slice s50.ptr s50.len s50.cap] h51 fun (h53 : Heap) =>
  j37 h53)
  (j37 h36))) (fun (j34 : Bool → Heap → Prop) =>
  brr (decide (i22 < 4))
  (j34 true h33)
  ((16 : Int) ≠ 0 ∧
  j34 ((i22.tmod 16) == 0) h33)))
  (j19 h23))
def F_law1_Book_growRows.l2 (f44_ : Int → Int → Heap → (Int → Heap → Prop) → Prop) (b1 : Option Addr) (v3 : Sl) (j6 : Heap → Prop) : Int → Heap → Prop :=
  wl [(3, .one (.int .i64))] (fun (next7 : Int → Heap → Prop) (k8 : Int) (h9 : Heap) =>
  brr (decide (k8 < ((v3.len : Nat) : Int)))
  (jn [] (fun  (h56 : Heap) =>
  next7 (IntKind.i64.wrap (k8 + 1)) h56) (fun (j10 : Heap → Prop) =>
  nn b1 fun (a11 : Addr) =>
  ld [.sl] (a11.add 3) h9 fun (v12 : Sl) =>
  ixS 1 v12 k8 fun (a13 : Addr) =>
  ld [.sl] a13 h9 fun (v14 : Sl) =>
  nn b1 fun (a15 : Addr) =>
  ld [.sl] (a15.add 4) h9 fun (v16 : Sl) =>
  ixS 1 v16 k8 fun (a17 : Addr) =>
  ld [.int .i64] a17 h9 fun (v18 : Int) =>
  jn [] (fun  (h55 : Heap) =>
  j10 h55) (fun (j19 : Heap → Prop) =>
  F_law1_Book_growRows.l1 f44_ b1 v18 j19 v14 1 h9)))
  (j6 h9))
def F_law1_Book_growRows_of (f44_ : Int → Int → Heap → (Int → Heap → Prop) → Prop) (b1 : Option Addr) (h : Heap) (Q : Heap → Prop) : Prop :=
  nn b1 fun (a2 : Addr) =>
  ld [.sl] (a2.add 3) h fun (v3 : Sl) =>
  nn b1 fun (a4 : Addr) =>
  ld [.int .i64] (a4.add 5) h fun (v5 : Int) =>
  jn [] (fun  (h57 : Heap) =>
  nn b1 fun (a58 : Addr) =>
  ld [.sl] (a58.add 3) h57 fun (v59 : Sl) =>
  nn b1 fun (a60 : Addr) =>
  st (a60.add 5) [.int .i64 ((v59.len : Nat) : Int)] h57 fun (h61 : Heap) =>
  Q h61) (fun (j6 : Heap → Prop) =>
  F_law1_Book_growRows.l2 f44_ b1 v3 j6 v5 h)
def F_law1_Book_growRows (b1 : Option Addr) (h : Heap) (Q : Heap → Prop) : Prop := F_law1_Book_growRows_of F_law1_at b1 h Q
def plan73 : Plan := .s (.r [0, 2]) (.s (.s (.r [0, 2, 3]) (.bj [] [0] (.l [(3, .one (.int .i64))] [0, 2] (.s (.s (.r [0, 2, 3, 18]) (.c .z .z)) (.s (.bj [] [0, 2, 3] (.s (.r [0, 2, 3, 4]) (.s (.r [0, 2, 3, 4, 5]) (.s (.r [0, 2, 3, 4, 5, 6]) (.bj [] [0, 2, 3] (.l [(4, .one .sl), (6, .one (.int .i64))] [0, 2, 3, 5] (.s (.s (.r [0, 2, 3, 4, 5, 6, 36]) (.c .z .z)) (.s (.b (.s (.r [0, 2, 3, 4, 5, 6]) (.s (.rj [(53, .one .bool)] [0, 2, 3, 4, 5, 6]) (.cj [] [0, 2, 3, 4, 5, 6] (.s (.r [0, 2, 3, 4, 5, 6]) (.r [0, 2, 3, 4, 5, 6])) .z)))) (.r [0, 2, 3, 4, 5, 6]))))))))) (.r [0, 2, 3])))))) (.r []))
theorem F_law1_Book_growRows.eq (f44_ : Int → Int → Heap → (Int → Heap → Prop) → Prop) (b1 : Option Addr) (h : Heap) (K : Value → Heap → Prop) : F_law1_Book_growRows_of f44_ b1 h (fun  (h : Heap) => K (.tuple #[]) h) =
    den Tryz.prog (fn1 44 (E_law1_at_of f44_) noFns) Tryz.f73.ntmps plan73 (bodyOf Tryz.f73) (args0 0 [(.pointer b1 : Value)]) h ⟨fun env h => dRes Tryz.prog Tryz.f73.results.toList env h K, fun _ _ _ => False, fun env h => dRes Tryz.prog Tryz.f73.results.toList env h K⟩ := by kernel_rfl
def E_law1_Book_growRows_of (f : Option Addr → Heap → (Heap → Prop) → Prop) : List Value → Heap → (Value → Heap → Prop) → Prop
  | [v0], h, K => dec1 .ptr v0 fun (b1 : Option Addr) =>
  f b1 h (fun  (h : Heap) => K (.tuple #[]) h)
  | _, _, _ => False
abbrev E_law1_Book_growRows := E_law1_Book_growRows_of F_law1_Book_growRows
theorem E_law1_Book_growRows.right : IsRight Tryz.prog 73 E_law1_Book_growRows := by
  refine isRight fun vs K w hh => ?_
  match vs, hh with
  | [v0], hh =>
    unfold E_law1_Book_growRows E_law1_Book_growRows_of at hh
    replace hh := dec1_sound hh; obtain ⟨b1, rfl, hh⟩ := hh
    unfold F_law1_Book_growRows at hh
    exact calls_den (fn1_right ok44 E_law1_at.right noFns_right) plan73 _ w K Tryz.func73 (by kernel_rfl) (by kernel_rfl) (Eq.mp (F_law1_Book_growRows.eq F_law1_at b1 w.heap K) hh)
theorem ok73 : okFn Tryz.prog 73 = true := by kernel_rfl
end Go.Proofs.YtigcpkejjjgkeaaGreat.V
namespace Go.Proofs.YtigcpkejjjgkeaaGreat.V
open Go Go.RowKit
set_option linter.unusedVariables false
set_option maxRecDepth 100000
def F_law1_Book_growTexts.l1 (f97_ : Int → Heap → (ByteArray → Heap → Prop) → Prop) (b1 : Option Addr) (v18 : Int) (j19 : Heap → Prop) : Sl → Int → Heap → Prop :=
  wl [(4, .one .sl), (6, .one (.int .i64))] (fun (next20 : Sl → Int → Heap → Prop) (g21 : Sl) (i22 : Int) (h23 : Heap) =>
  brr (decide (i22 ≤ 32))
  (f97_ v18 h23 fun (r24 : ByteArray) (h25 : Heap) =>
  al 9 [.string r24] h25 fun (a26 : Addr) (h27 : Heap) =>
  app 9 1 16 (.string (⟨#[]⟩ : ByteArray)) g21 (some a26) 1 h27 fun (s28 : Sl) (h29 : Heap) =>
  jn [(50, .one .bool)] (fun (x31 : Bool) (h32 : Heap) =>
  jn [] (fun  (h50 : Heap) =>
  next20 s28 (IntKind.i64.wrap (i22 + 1)) h50) (fun (j33 : Heap → Prop) =>
  brr x31
  (nn b1 fun (a34 : Addr) =>
  ld [.sl] (a34.add 6) h32 fun (v35 : Sl) =>
  al 125 [.slice s28.ptr s28.len s28.cap] h32 fun (a36 : Addr) (h37 : Heap) =>
  app 125 1 24 (.slice none 0 0) v35 (some a36) 1 h37 fun (s38 : Sl) (h39 : Heap) =>
  nn b1 fun (a40 : Addr) =>
  st (a40.add 6) [.slice s38.ptr s38.len s38.cap] h39 fun (h41 : Heap) =>
  nn b1 fun (a42 : Addr) =>
  ld [.sl] (a42.add 7) h41 fun (v43 : Sl) =>
  al 3 [.int .i64 v18] h41 fun (a44 : Addr) (h45 : Heap) =>
  app 3 1 8 (.int .i64 0) v43 (some a44) 1 h45 fun (s46 : Sl) (h47 : Heap) =>
  nn b1 fun (a48 : Addr) =>
  st (a48.add 7) [.slice s46.ptr s46.len s46.cap] h47 fun (h49 : Heap) =>
  j33 h49)
  (j33 h32))) (fun (j30 : Bool → Heap → Prop) =>
  brr (decide (i22 < 4))
  (j30 true h29)
  ((16 : Int) ≠ 0 ∧
  j30 ((i22.tmod 16) == 0) h29)))
  (j19 h23))
def F_law1_Book_growTexts.l2 (f97_ : Int → Heap → (ByteArray → Heap → Prop) → Prop) (b1 : Option Addr) (v3 : Sl) (j6 : Heap → Prop) : Int → Heap → Prop :=
  wl [(3, .one (.int .i64))] (fun (next7 : Int → Heap → Prop) (k8 : Int) (h9 : Heap) =>
  brr (decide (k8 < ((v3.len : Nat) : Int)))
  (jn [] (fun  (h52 : Heap) =>
  next7 (IntKind.i64.wrap (k8 + 1)) h52) (fun (j10 : Heap → Prop) =>
  nn b1 fun (a11 : Addr) =>
  ld [.sl] (a11.add 6) h9 fun (v12 : Sl) =>
  ixS 1 v12 k8 fun (a13 : Addr) =>
  ld [.sl] a13 h9 fun (v14 : Sl) =>
  nn b1 fun (a15 : Addr) =>
  ld [.sl] (a15.add 7) h9 fun (v16 : Sl) =>
  ixS 1 v16 k8 fun (a17 : Addr) =>
  ld [.int .i64] a17 h9 fun (v18 : Int) =>
  jn [] (fun  (h51 : Heap) =>
  j10 h51) (fun (j19 : Heap → Prop) =>
  F_law1_Book_growTexts.l1 f97_ b1 v18 j19 v14 1 h9)))
  (j6 h9))
def F_law1_Book_growTexts_of (f97_ : Int → Heap → (ByteArray → Heap → Prop) → Prop) (b1 : Option Addr) (h : Heap) (Q : Heap → Prop) : Prop :=
  nn b1 fun (a2 : Addr) =>
  ld [.sl] (a2.add 6) h fun (v3 : Sl) =>
  nn b1 fun (a4 : Addr) =>
  ld [.int .i64] (a4.add 8) h fun (v5 : Int) =>
  jn [] (fun  (h53 : Heap) =>
  nn b1 fun (a54 : Addr) =>
  ld [.sl] (a54.add 6) h53 fun (v55 : Sl) =>
  nn b1 fun (a56 : Addr) =>
  st (a56.add 8) [.int .i64 ((v55.len : Nat) : Int)] h53 fun (h57 : Heap) =>
  Q h57) (fun (j6 : Heap → Prop) =>
  F_law1_Book_growTexts.l2 f97_ b1 v3 j6 v5 h)
def F_law1_Book_growTexts (b1 : Option Addr) (h : Heap) (Q : Heap → Prop) : Prop := F_law1_Book_growTexts_of F_law1_textsMark b1 h Q
def plan74 : Plan := .s (.r [0, 2]) (.s (.s (.r [0, 2, 3]) (.bj [] [0] (.l [(3, .one (.int .i64))] [0, 2] (.s (.s (.r [0, 2, 3, 18]) (.c .z .z)) (.s (.bj [] [0, 2, 3] (.s (.r [0, 2, 3, 4]) (.s (.r [0, 2, 3, 4, 5]) (.s (.r [0, 2, 3, 4, 5, 6]) (.bj [] [0, 2, 3] (.l [(4, .one .sl), (6, .one (.int .i64))] [0, 2, 3, 5] (.s (.s (.r [0, 2, 3, 4, 5, 6, 36]) (.c .z .z)) (.s (.b (.s (.r [0, 2, 3, 4, 5, 6]) (.s (.rj [(50, .one .bool)] [0, 2, 3, 4, 5, 6]) (.cj [] [0, 2, 3, 4, 5, 6] (.s (.r [0, 2, 3, 4, 5, 6]) (.r [0, 2, 3, 4, 5, 6])) .z)))) (.r [0, 2, 3, 4, 5, 6]))))))))) (.r [0, 2, 3])))))) (.r []))
theorem F_law1_Book_growTexts.eq (f97_ : Int → Heap → (ByteArray → Heap → Prop) → Prop) (b1 : Option Addr) (h : Heap) (K : Value → Heap → Prop) : F_law1_Book_growTexts_of f97_ b1 h (fun  (h : Heap) => K (.tuple #[]) h) =
    den Tryz.prog (fn1 97 (E_law1_textsMark_of f97_) noFns) Tryz.f74.ntmps plan74 (bodyOf Tryz.f74) (args0 0 [(.pointer b1 : Value)]) h ⟨fun env h => dRes Tryz.prog Tryz.f74.results.toList env h K, fun _ _ _ => False, fun env h => dRes Tryz.prog Tryz.f74.results.toList env h K⟩ := by kernel_rfl
def E_law1_Book_growTexts_of (f : Option Addr → Heap → (Heap → Prop) → Prop) : List Value → Heap → (Value → Heap → Prop) → Prop
  | [v0], h, K => dec1 .ptr v0 fun (b1 : Option Addr) =>
  f b1 h (fun  (h : Heap) => K (.tuple #[]) h)
  | _, _, _ => False
abbrev E_law1_Book_growTexts := E_law1_Book_growTexts_of F_law1_Book_growTexts
theorem E_law1_Book_growTexts.right : IsRight Tryz.prog 74 E_law1_Book_growTexts := by
  refine isRight fun vs K w hh => ?_
  match vs, hh with
  | [v0], hh =>
    unfold E_law1_Book_growTexts E_law1_Book_growTexts_of at hh
    replace hh := dec1_sound hh; obtain ⟨b1, rfl, hh⟩ := hh
    unfold F_law1_Book_growTexts at hh
    exact calls_den (fn1_right ok97 E_law1_textsMark.right noFns_right) plan74 _ w K Tryz.func74 (by kernel_rfl) (by kernel_rfl) (Eq.mp (F_law1_Book_growTexts.eq F_law1_textsMark b1 w.heap K) hh)
theorem ok74 : okFn Tryz.prog 74 = true := by kernel_rfl
end Go.Proofs.YtigcpkejjjgkeaaGreat.V
namespace Go.Proofs.YtigcpkejjjgkeaaGreat.V
open Go Go.RowKit
set_option linter.unusedVariables false
set_option maxRecDepth 100000
def F_law1_Book_growInts.l1 (f98_ : Int → Heap → (Int → Heap → Prop) → Prop) (b1 : Option Addr) (v18 : Int) (j19 : Heap → Prop) : Sl → Int → Heap → Prop :=
  wl [(4, .one .sl), (6, .one (.int .i64))] (fun (next20 : Sl → Int → Heap → Prop) (g21 : Sl) (i22 : Int) (h23 : Heap) =>
  brr (decide (i22 ≤ 32))
  (f98_ v18 h23 fun (r24 : Int) (h25 : Heap) =>
  al 3 [.int .i64 r24] h25 fun (a26 : Addr) (h27 : Heap) =>
  app 3 1 8 (.int .i64 0) g21 (some a26) 1 h27 fun (s28 : Sl) (h29 : Heap) =>
  jn [(50, .one .bool)] (fun (x31 : Bool) (h32 : Heap) =>
  jn [] (fun  (h50 : Heap) =>
  next20 s28 (IntKind.i64.wrap (i22 + 1)) h50) (fun (j33 : Heap → Prop) =>
  brr x31
  (nn b1 fun (a34 : Addr) =>
  ld [.sl] (a34.add 9) h32 fun (v35 : Sl) =>
  al 30 [.slice s28.ptr s28.len s28.cap] h32 fun (a36 : Addr) (h37 : Heap) =>
  app 30 1 24 (.slice none 0 0) v35 (some a36) 1 h37 fun (s38 : Sl) (h39 : Heap) =>
  nn b1 fun (a40 : Addr) =>
  st (a40.add 9) [.slice s38.ptr s38.len s38.cap] h39 fun (h41 : Heap) =>
  nn b1 fun (a42 : Addr) =>
  ld [.sl] (a42.add 10) h41 fun (v43 : Sl) =>
  al 3 [.int .i64 v18] h41 fun (a44 : Addr) (h45 : Heap) =>
  app 3 1 8 (.int .i64 0) v43 (some a44) 1 h45 fun (s46 : Sl) (h47 : Heap) =>
  nn b1 fun (a48 : Addr) =>
  st (a48.add 10) [.slice s46.ptr s46.len s46.cap] h47 fun (h49 : Heap) =>
  j33 h49)
  (j33 h32))) (fun (j30 : Bool → Heap → Prop) =>
  brr (decide (i22 < 4))
  (j30 true h29)
  ((16 : Int) ≠ 0 ∧
  j30 ((i22.tmod 16) == 0) h29)))
  (j19 h23))
def F_law1_Book_growInts.l2 (f98_ : Int → Heap → (Int → Heap → Prop) → Prop) (b1 : Option Addr) (v3 : Sl) (j6 : Heap → Prop) : Int → Heap → Prop :=
  wl [(3, .one (.int .i64))] (fun (next7 : Int → Heap → Prop) (k8 : Int) (h9 : Heap) =>
  brr (decide (k8 < ((v3.len : Nat) : Int)))
  (jn [] (fun  (h52 : Heap) =>
  next7 (IntKind.i64.wrap (k8 + 1)) h52) (fun (j10 : Heap → Prop) =>
  nn b1 fun (a11 : Addr) =>
  ld [.sl] (a11.add 9) h9 fun (v12 : Sl) =>
  ixS 1 v12 k8 fun (a13 : Addr) =>
  ld [.sl] a13 h9 fun (v14 : Sl) =>
  nn b1 fun (a15 : Addr) =>
  ld [.sl] (a15.add 10) h9 fun (v16 : Sl) =>
  ixS 1 v16 k8 fun (a17 : Addr) =>
  ld [.int .i64] a17 h9 fun (v18 : Int) =>
  jn [] (fun  (h51 : Heap) =>
  j10 h51) (fun (j19 : Heap → Prop) =>
  F_law1_Book_growInts.l1 f98_ b1 v18 j19 v14 1 h9)))
  (j6 h9))
def F_law1_Book_growInts_of (f98_ : Int → Heap → (Int → Heap → Prop) → Prop) (b1 : Option Addr) (h : Heap) (Q : Heap → Prop) : Prop :=
  nn b1 fun (a2 : Addr) =>
  ld [.sl] (a2.add 9) h fun (v3 : Sl) =>
  nn b1 fun (a4 : Addr) =>
  ld [.int .i64] (a4.add 11) h fun (v5 : Int) =>
  jn [] (fun  (h53 : Heap) =>
  nn b1 fun (a54 : Addr) =>
  ld [.sl] (a54.add 9) h53 fun (v55 : Sl) =>
  nn b1 fun (a56 : Addr) =>
  st (a56.add 11) [.int .i64 ((v55.len : Nat) : Int)] h53 fun (h57 : Heap) =>
  Q h57) (fun (j6 : Heap → Prop) =>
  F_law1_Book_growInts.l2 f98_ b1 v3 j6 v5 h)
def F_law1_Book_growInts (b1 : Option Addr) (h : Heap) (Q : Heap → Prop) : Prop := F_law1_Book_growInts_of F_law1_intsMark b1 h Q
def plan75 : Plan := .s (.r [0, 2]) (.s (.s (.r [0, 2, 3]) (.bj [] [0] (.l [(3, .one (.int .i64))] [0, 2] (.s (.s (.r [0, 2, 3, 18]) (.c .z .z)) (.s (.bj [] [0, 2, 3] (.s (.r [0, 2, 3, 4]) (.s (.r [0, 2, 3, 4, 5]) (.s (.r [0, 2, 3, 4, 5, 6]) (.bj [] [0, 2, 3] (.l [(4, .one .sl), (6, .one (.int .i64))] [0, 2, 3, 5] (.s (.s (.r [0, 2, 3, 4, 5, 6, 36]) (.c .z .z)) (.s (.b (.s (.r [0, 2, 3, 4, 5, 6]) (.s (.rj [(50, .one .bool)] [0, 2, 3, 4, 5, 6]) (.cj [] [0, 2, 3, 4, 5, 6] (.s (.r [0, 2, 3, 4, 5, 6]) (.r [0, 2, 3, 4, 5, 6])) .z)))) (.r [0, 2, 3, 4, 5, 6]))))))))) (.r [0, 2, 3])))))) (.r []))
theorem F_law1_Book_growInts.eq (f98_ : Int → Heap → (Int → Heap → Prop) → Prop) (b1 : Option Addr) (h : Heap) (K : Value → Heap → Prop) : F_law1_Book_growInts_of f98_ b1 h (fun  (h : Heap) => K (.tuple #[]) h) =
    den Tryz.prog (fn1 98 (E_law1_intsMark_of f98_) noFns) Tryz.f75.ntmps plan75 (bodyOf Tryz.f75) (args0 0 [(.pointer b1 : Value)]) h ⟨fun env h => dRes Tryz.prog Tryz.f75.results.toList env h K, fun _ _ _ => False, fun env h => dRes Tryz.prog Tryz.f75.results.toList env h K⟩ := by kernel_rfl
def E_law1_Book_growInts_of (f : Option Addr → Heap → (Heap → Prop) → Prop) : List Value → Heap → (Value → Heap → Prop) → Prop
  | [v0], h, K => dec1 .ptr v0 fun (b1 : Option Addr) =>
  f b1 h (fun  (h : Heap) => K (.tuple #[]) h)
  | _, _, _ => False
abbrev E_law1_Book_growInts := E_law1_Book_growInts_of F_law1_Book_growInts
theorem E_law1_Book_growInts.right : IsRight Tryz.prog 75 E_law1_Book_growInts := by
  refine isRight fun vs K w hh => ?_
  match vs, hh with
  | [v0], hh =>
    unfold E_law1_Book_growInts E_law1_Book_growInts_of at hh
    replace hh := dec1_sound hh; obtain ⟨b1, rfl, hh⟩ := hh
    unfold F_law1_Book_growInts at hh
    exact calls_den (fn1_right ok98 E_law1_intsMark.right noFns_right) plan75 _ w K Tryz.func75 (by kernel_rfl) (by kernel_rfl) (Eq.mp (F_law1_Book_growInts.eq F_law1_intsMark b1 w.heap K) hh)
theorem ok75 : okFn Tryz.prog 75 = true := by kernel_rfl
end Go.Proofs.YtigcpkejjjgkeaaGreat.V
namespace Go.Proofs.YtigcpkejjjgkeaaGreat.V
open Go Go.RowKit
set_option linter.unusedVariables false
set_option maxRecDepth 100000
def F_law1_Book_growWords.l1 (f99_ : Int → Heap → (Int → Heap → Prop) → Prop) (b1 : Option Addr) (v18 : Int) (j19 : Heap → Prop) : Sl → Int → Heap → Prop :=
  wl [(4, .one .sl), (6, .one (.int .i64))] (fun (next20 : Sl → Int → Heap → Prop) (g21 : Sl) (i22 : Int) (h23 : Heap) =>
  brr (decide (i22 ≤ 32))
  (f99_ v18 h23 fun (r24 : Int) (h25 : Heap) =>
  al 49 [.int .u64 r24] h25 fun (a26 : Addr) (h27 : Heap) =>
  app 49 1 8 (.int .u64 0) g21 (some a26) 1 h27 fun (s28 : Sl) (h29 : Heap) =>
  jn [(50, .one .bool)] (fun (x31 : Bool) (h32 : Heap) =>
  jn [] (fun  (h50 : Heap) =>
  next20 s28 (IntKind.i64.wrap (i22 + 1)) h50) (fun (j33 : Heap → Prop) =>
  brr x31
  (nn b1 fun (a34 : Addr) =>
  ld [.sl] (a34.add 12) h32 fun (v35 : Sl) =>
  al 128 [.slice s28.ptr s28.len s28.cap] h32 fun (a36 : Addr) (h37 : Heap) =>
  app 128 1 24 (.slice none 0 0) v35 (some a36) 1 h37 fun (s38 : Sl) (h39 : Heap) =>
  nn b1 fun (a40 : Addr) =>
  st (a40.add 12) [.slice s38.ptr s38.len s38.cap] h39 fun (h41 : Heap) =>
  nn b1 fun (a42 : Addr) =>
  ld [.sl] (a42.add 13) h41 fun (v43 : Sl) =>
  al 3 [.int .i64 v18] h41 fun (a44 : Addr) (h45 : Heap) =>
  app 3 1 8 (.int .i64 0) v43 (some a44) 1 h45 fun (s46 : Sl) (h47 : Heap) =>
  nn b1 fun (a48 : Addr) =>
  st (a48.add 13) [.slice s46.ptr s46.len s46.cap] h47 fun (h49 : Heap) =>
  j33 h49)
  (j33 h32))) (fun (j30 : Bool → Heap → Prop) =>
  brr (decide (i22 < 4))
  (j30 true h29)
  ((16 : Int) ≠ 0 ∧
  j30 ((i22.tmod 16) == 0) h29)))
  (j19 h23))
def F_law1_Book_growWords.l2 (f99_ : Int → Heap → (Int → Heap → Prop) → Prop) (b1 : Option Addr) (v3 : Sl) (j6 : Heap → Prop) : Int → Heap → Prop :=
  wl [(3, .one (.int .i64))] (fun (next7 : Int → Heap → Prop) (k8 : Int) (h9 : Heap) =>
  brr (decide (k8 < ((v3.len : Nat) : Int)))
  (jn [] (fun  (h52 : Heap) =>
  next7 (IntKind.i64.wrap (k8 + 1)) h52) (fun (j10 : Heap → Prop) =>
  nn b1 fun (a11 : Addr) =>
  ld [.sl] (a11.add 12) h9 fun (v12 : Sl) =>
  ixS 1 v12 k8 fun (a13 : Addr) =>
  ld [.sl] a13 h9 fun (v14 : Sl) =>
  nn b1 fun (a15 : Addr) =>
  ld [.sl] (a15.add 13) h9 fun (v16 : Sl) =>
  ixS 1 v16 k8 fun (a17 : Addr) =>
  ld [.int .i64] a17 h9 fun (v18 : Int) =>
  jn [] (fun  (h51 : Heap) =>
  j10 h51) (fun (j19 : Heap → Prop) =>
  F_law1_Book_growWords.l1 f99_ b1 v18 j19 v14 1 h9)))
  (j6 h9))
def F_law1_Book_growWords_of (f99_ : Int → Heap → (Int → Heap → Prop) → Prop) (b1 : Option Addr) (h : Heap) (Q : Heap → Prop) : Prop :=
  nn b1 fun (a2 : Addr) =>
  ld [.sl] (a2.add 12) h fun (v3 : Sl) =>
  nn b1 fun (a4 : Addr) =>
  ld [.int .i64] (a4.add 14) h fun (v5 : Int) =>
  jn [] (fun  (h53 : Heap) =>
  nn b1 fun (a54 : Addr) =>
  ld [.sl] (a54.add 12) h53 fun (v55 : Sl) =>
  nn b1 fun (a56 : Addr) =>
  st (a56.add 14) [.int .i64 ((v55.len : Nat) : Int)] h53 fun (h57 : Heap) =>
  Q h57) (fun (j6 : Heap → Prop) =>
  F_law1_Book_growWords.l2 f99_ b1 v3 j6 v5 h)
def F_law1_Book_growWords (b1 : Option Addr) (h : Heap) (Q : Heap → Prop) : Prop := F_law1_Book_growWords_of F_law1_wordsMark b1 h Q
def plan76 : Plan := .s (.r [0, 2]) (.s (.s (.r [0, 2, 3]) (.bj [] [0] (.l [(3, .one (.int .i64))] [0, 2] (.s (.s (.r [0, 2, 3, 18]) (.c .z .z)) (.s (.bj [] [0, 2, 3] (.s (.r [0, 2, 3, 4]) (.s (.r [0, 2, 3, 4, 5]) (.s (.r [0, 2, 3, 4, 5, 6]) (.bj [] [0, 2, 3] (.l [(4, .one .sl), (6, .one (.int .i64))] [0, 2, 3, 5] (.s (.s (.r [0, 2, 3, 4, 5, 6, 36]) (.c .z .z)) (.s (.b (.s (.r [0, 2, 3, 4, 5, 6]) (.s (.rj [(50, .one .bool)] [0, 2, 3, 4, 5, 6]) (.cj [] [0, 2, 3, 4, 5, 6] (.s (.r [0, 2, 3, 4, 5, 6]) (.r [0, 2, 3, 4, 5, 6])) .z)))) (.r [0, 2, 3, 4, 5, 6]))))))))) (.r [0, 2, 3])))))) (.r []))
theorem F_law1_Book_growWords.eq (f99_ : Int → Heap → (Int → Heap → Prop) → Prop) (b1 : Option Addr) (h : Heap) (K : Value → Heap → Prop) : F_law1_Book_growWords_of f99_ b1 h (fun  (h : Heap) => K (.tuple #[]) h) =
    den Tryz.prog (fn1 99 (E_law1_wordsMark_of f99_) noFns) Tryz.f76.ntmps plan76 (bodyOf Tryz.f76) (args0 0 [(.pointer b1 : Value)]) h ⟨fun env h => dRes Tryz.prog Tryz.f76.results.toList env h K, fun _ _ _ => False, fun env h => dRes Tryz.prog Tryz.f76.results.toList env h K⟩ := by kernel_rfl
def E_law1_Book_growWords_of (f : Option Addr → Heap → (Heap → Prop) → Prop) : List Value → Heap → (Value → Heap → Prop) → Prop
  | [v0], h, K => dec1 .ptr v0 fun (b1 : Option Addr) =>
  f b1 h (fun  (h : Heap) => K (.tuple #[]) h)
  | _, _, _ => False
abbrev E_law1_Book_growWords := E_law1_Book_growWords_of F_law1_Book_growWords
theorem E_law1_Book_growWords.right : IsRight Tryz.prog 76 E_law1_Book_growWords := by
  refine isRight fun vs K w hh => ?_
  match vs, hh with
  | [v0], hh =>
    unfold E_law1_Book_growWords E_law1_Book_growWords_of at hh
    replace hh := dec1_sound hh; obtain ⟨b1, rfl, hh⟩ := hh
    unfold F_law1_Book_growWords at hh
    exact calls_den (fn1_right ok99 E_law1_wordsMark.right noFns_right) plan76 _ w K Tryz.func76 (by kernel_rfl) (by kernel_rfl) (Eq.mp (F_law1_Book_growWords.eq F_law1_wordsMark b1 w.heap K) hh)
theorem ok76 : okFn Tryz.prog 76 = true := by kernel_rfl
end Go.Proofs.YtigcpkejjjgkeaaGreat.V
namespace Go.Proofs.YtigcpkejjjgkeaaGreat.V
open Go Go.RowKit
set_option linter.unusedVariables false
set_option maxRecDepth 100000
def F_law1_Book_growDones.l1 (f100_ : Int → Heap → (Int → Int → Int → Int → Int → Heap → Prop) → Prop) (b1 : Option Addr) (v18 : Int) (j19 : Heap → Prop) : Sl → Int → Heap → Prop :=
  wl [(4, .one .sl), (6, .one (.int .i64))] (fun (next20 : Sl → Int → Heap → Prop) (g21 : Sl) (i22 : Int) (h23 : Heap) =>
  brr (decide (i22 ≤ 32))
  (f100_ v18 h23 fun (r24 r25 r26 r27 r28 : Int) (h29 : Heap) =>
  al 132 [.int .i64 r24, .int .u64 r25, .int .i64 r26, .int .i64 r27, .int .u64 r28] h29 fun (a30 : Addr) (h31 : Heap) =>
  app 132 5 40 (.agg #[.int .i64 0, .int .u64 0, .int .i64 0, .int .i64 0, .int .u64 0]) g21 (some a30) 1 h31 fun (s32 : Sl) (h33 : Heap) =>
  jn [(50, .one .bool)] (fun (x35 : Bool) (h36 : Heap) =>
  jn [] (fun  (h54 : Heap) =>
  next20 s32 (IntKind.i64.wrap (i22 + 1)) h54) (fun (j37 : Heap → Prop) =>
  brr x35
  (nn b1 fun (a38 : Addr) =>
  ld [.sl] (a38.add 15) h36 fun (v39 : Sl) =>
  al 130 [.slice s32.ptr s32.len s32.cap] h36 fun (a40 : Addr) (h41 : Heap) =>
  app 130 1 24 (.slice none 0 0) v39 (some a40) 1 h41 fun (s42 : Sl) (h43 : Heap) =>
  nn b1 fun (a44 : Addr) =>
  st (a44.add 15) [.slice s42.ptr s42.len s42.cap] h43 fun (h45 : Heap) =>
  nn b1 fun (a46 : Addr) =>
  ld [.sl] (a46.add 16) h45 fun (v47 : Sl) =>
  al 3 [.int .i64 v18] h45 fun (a48 : Addr) (h49 : Heap) =>
  app 3 1 8 (.int .i64 0) v47 (some a48) 1 h49 fun (s50 : Sl) (h51 : Heap) =>
  nn b1 fun (a52 : Addr) =>
  st (a52.add 16) [.slice s50.ptr s50.len s50.cap] h51 fun (h53 : Heap) =>
  j37 h53)
  (j37 h36))) (fun (j34 : Bool → Heap → Prop) =>
  brr (decide (i22 < 4))
  (j34 true h33)
  ((16 : Int) ≠ 0 ∧
  j34 ((i22.tmod 16) == 0) h33)))
  (j19 h23))
def F_law1_Book_growDones.l2 (f100_ : Int → Heap → (Int → Int → Int → Int → Int → Heap → Prop) → Prop) (b1 : Option Addr) (v3 : Sl) (j6 : Heap → Prop) : Int → Heap → Prop :=
  wl [(3, .one (.int .i64))] (fun (next7 : Int → Heap → Prop) (k8 : Int) (h9 : Heap) =>
  brr (decide (k8 < ((v3.len : Nat) : Int)))
  (jn [] (fun  (h56 : Heap) =>
  next7 (IntKind.i64.wrap (k8 + 1)) h56) (fun (j10 : Heap → Prop) =>
  nn b1 fun (a11 : Addr) =>
  ld [.sl] (a11.add 15) h9 fun (v12 : Sl) =>
  ixS 1 v12 k8 fun (a13 : Addr) =>
  ld [.sl] a13 h9 fun (v14 : Sl) =>
  nn b1 fun (a15 : Addr) =>
  ld [.sl] (a15.add 16) h9 fun (v16 : Sl) =>
  ixS 1 v16 k8 fun (a17 : Addr) =>
  ld [.int .i64] a17 h9 fun (v18 : Int) =>
  jn [] (fun  (h55 : Heap) =>
  j10 h55) (fun (j19 : Heap → Prop) =>
  F_law1_Book_growDones.l1 f100_ b1 v18 j19 v14 1 h9)))
  (j6 h9))
def F_law1_Book_growDones_of (f100_ : Int → Heap → (Int → Int → Int → Int → Int → Heap → Prop) → Prop) (b1 : Option Addr) (h : Heap) (Q : Heap → Prop) : Prop :=
  nn b1 fun (a2 : Addr) =>
  ld [.sl] (a2.add 15) h fun (v3 : Sl) =>
  nn b1 fun (a4 : Addr) =>
  ld [.int .i64] (a4.add 17) h fun (v5 : Int) =>
  jn [] (fun  (h57 : Heap) =>
  nn b1 fun (a58 : Addr) =>
  ld [.sl] (a58.add 15) h57 fun (v59 : Sl) =>
  nn b1 fun (a60 : Addr) =>
  st (a60.add 17) [.int .i64 ((v59.len : Nat) : Int)] h57 fun (h61 : Heap) =>
  Q h61) (fun (j6 : Heap → Prop) =>
  F_law1_Book_growDones.l2 f100_ b1 v3 j6 v5 h)
def F_law1_Book_growDones (b1 : Option Addr) (h : Heap) (Q : Heap → Prop) : Prop := F_law1_Book_growDones_of F_law1_donesMark b1 h Q
def plan77 : Plan := .s (.r [0, 2]) (.s (.s (.r [0, 2, 3]) (.bj [] [0] (.l [(3, .one (.int .i64))] [0, 2] (.s (.s (.r [0, 2, 3, 18]) (.c .z .z)) (.s (.bj [] [0, 2, 3] (.s (.r [0, 2, 3, 4]) (.s (.r [0, 2, 3, 4, 5]) (.s (.r [0, 2, 3, 4, 5, 6]) (.bj [] [0, 2, 3] (.l [(4, .one .sl), (6, .one (.int .i64))] [0, 2, 3, 5] (.s (.s (.r [0, 2, 3, 4, 5, 6, 36]) (.c .z .z)) (.s (.b (.s (.r [0, 2, 3, 4, 5, 6]) (.s (.rj [(50, .one .bool)] [0, 2, 3, 4, 5, 6]) (.cj [] [0, 2, 3, 4, 5, 6] (.s (.r [0, 2, 3, 4, 5, 6]) (.r [0, 2, 3, 4, 5, 6])) .z)))) (.r [0, 2, 3, 4, 5, 6]))))))))) (.r [0, 2, 3])))))) (.r []))
theorem F_law1_Book_growDones.eq (f100_ : Int → Heap → (Int → Int → Int → Int → Int → Heap → Prop) → Prop) (b1 : Option Addr) (h : Heap) (K : Value → Heap → Prop) : F_law1_Book_growDones_of f100_ b1 h (fun  (h : Heap) => K (.tuple #[]) h) =
    den Tryz.prog (fn1 100 (E_law1_donesMark_of f100_) noFns) Tryz.f77.ntmps plan77 (bodyOf Tryz.f77) (args0 0 [(.pointer b1 : Value)]) h ⟨fun env h => dRes Tryz.prog Tryz.f77.results.toList env h K, fun _ _ _ => False, fun env h => dRes Tryz.prog Tryz.f77.results.toList env h K⟩ := by kernel_rfl
def E_law1_Book_growDones_of (f : Option Addr → Heap → (Heap → Prop) → Prop) : List Value → Heap → (Value → Heap → Prop) → Prop
  | [v0], h, K => dec1 .ptr v0 fun (b1 : Option Addr) =>
  f b1 h (fun  (h : Heap) => K (.tuple #[]) h)
  | _, _, _ => False
abbrev E_law1_Book_growDones := E_law1_Book_growDones_of F_law1_Book_growDones
theorem E_law1_Book_growDones.right : IsRight Tryz.prog 77 E_law1_Book_growDones := by
  refine isRight fun vs K w hh => ?_
  match vs, hh with
  | [v0], hh =>
    unfold E_law1_Book_growDones E_law1_Book_growDones_of at hh
    replace hh := dec1_sound hh; obtain ⟨b1, rfl, hh⟩ := hh
    unfold F_law1_Book_growDones at hh
    exact calls_den (fn1_right ok100 E_law1_donesMark.right noFns_right) plan77 _ w K Tryz.func77 (by kernel_rfl) (by kernel_rfl) (Eq.mp (F_law1_Book_growDones.eq F_law1_donesMark b1 w.heap K) hh)
theorem ok77 : okFn Tryz.prog 77 = true := by kernel_rfl
end Go.Proofs.YtigcpkejjjgkeaaGreat.V
