import Derived.Test.YtcbelendjpnmiaaZReplicaFences2
import Derived.Test.YtcbelendjpnmiaaProg
/- The replica's laws: the calls of a life; a replica promises and stores. -/
namespace Go.Proofs.Ytcbelendjpnmiaa.V
open Go Go.RowKit
set_option linter.unusedVariables false
set_option linter.unusedSimpArgs false
structure ROp where
  do_ : Int
  which : Int
  span : Int
  epoch : Int
  m : Mg
  sp : Int
  ste : Int
  sts : Int
  sv : Sl
  sb : List UInt8
def ropC (o : ROp) : List Value := [.int .i64 o.do_, .int .i64 o.which, .int .i64 o.span, .int .u64 o.epoch, .int .i64 o.m.kind, .int .i64 o.m.frm, .int .i64 o.m.to, .int .i64 o.m.shard, .int .u64 o.m.epoch, .int .u64 o.m.te, .int .u64 o.m.ts, .int .u64 o.m.round, .int .i64 o.m.span, .int .u64 o.m.seen, .slice o.m.v.ptr o.m.v.len o.m.v.cap, .int .i64 o.m.peer, .int .u64 o.m.num, .string o.m.name, .string o.m.other, .int .u64 o.m.amount, .int .u64 o.m.life, .int .u64 o.m.id, .int .i64 o.m.op, .int .i64 o.m.client, .int .i64 o.m.state, .int .i64 o.m.bad, .int .u64 o.sp, .int .u64 o.ste, .int .u64 o.sts, .slice o.sv.ptr o.sv.len o.sv.cap]
abbrev tyB : Ty := .sl 1 1 (.int .u8)
abbrev tyMsg : Ty := .cons (.cons (.int .i64) (.cons (.int .i64) (.cons (.int .i64) (.cons (.int .i64) .nil)))) (.cons (.int .u64) (.cons (.cons (.int .u64) (.cons (.int .u64) .nil)) (.cons (.int .u64) (.cons (.int .i64) (.cons (.int .u64) (.cons tyB (.cons (.int .i64) (.cons (.int .u64) (.cons .str (.cons .str (.cons (.int .u64) (.cons (.cons (.int .u64) (.cons (.int .u64) .nil)) (.cons (.int .i64) (.cons (.int .i64) (.cons (.int .i64) (.cons (.int .i64) .nil))))))))))))))))
abbrev tyStored : Ty := .cons (.int .u64) (.cons (.cons (.int .u64) (.cons (.int .u64) .nil)) (.cons tyB .nil))
abbrev tyROp : Ty := .cons (.int .i64) (.cons (.int .i64) (.cons (.int .i64) (.cons (.int .u64) (.cons tyMsg (.cons tyStored .nil)))))
abbrev tyLife : Ty := .cons tyStored (.cons (.int .i64) (.cons (.sl 30 288 tyROp) .nil))
structure ROp.Ok (h : Heap) (o : ROp) : Prop where
  mv : Bytes h o.m.v o.m.b
  mb : o.m.b.length ≤ (140737488355325 : Nat)
  mspan : o.m.span ≤ (9223372036854775807 : Int)
  me : 0 ≤ o.m.epoch ∧ o.m.epoch ≤ (18446744073709551615 : Int)
  mte : 0 ≤ o.m.te ∧ o.m.te ≤ (18446744073709551615 : Int)
  ep : 0 ≤ o.epoch ∧ o.epoch ≤ (18446744073709551615 : Int)
  span : o.span ≤ (9223372036854775807 : Int)
  sv : Bytes h o.sv o.sb
  sb : o.sb.length ≤ (140737488355325 : Nat)
  spr : 0 ≤ o.sp ∧ o.sp ≤ (18446744073709551615 : Int)
def ropR (h : Heap) (o : ROp) (cs : List Value) : Prop := cs = ropC o ∧ o.Ok h
theorem SlN.rops {h : Heap} {s : Sl} (S : SlN h 140737488351232 30 288 s fun cs => Fit h 140737488351232 tyROp cs) : ∃ l : List ROp, View h 30 (ropR h) s l := by
  obtain ⟨h1, h2, _, xs, V⟩ := S.view (ropR h) (fun cs F => by
    obtain ⟨t1, _, rfl, t1a, t1b, F⟩ := Fit.i F
    obtain ⟨t2, _, rfl, t2a, t2b, F⟩ := Fit.i F
    obtain ⟨t3, _, rfl, t3a, t3b, F⟩ := Fit.i F
    obtain ⟨t4, _, rfl, t4a, t4b, F⟩ := Fit.i F
    replace F := Fit.g F
    replace F := Fit.g F
    obtain ⟨m1, _, rfl, m1a, m1b, F⟩ := Fit.i F
    replace F := Fit.g F
    obtain ⟨m2, _, rfl, m2a, m2b, F⟩ := Fit.i F
    replace F := Fit.g F
    obtain ⟨m3, _, rfl, m3a, m3b, F⟩ := Fit.i F
    replace F := Fit.g F
    obtain ⟨m4, _, rfl, m4a, m4b, F⟩ := Fit.i F
    replace F := Fit.z F
    replace F := Fit.g F
    obtain ⟨m5, _, rfl, m5a, m5b, F⟩ := Fit.i F
    replace F := Fit.g F
    replace F := Fit.g F
    obtain ⟨m6, _, rfl, m6a, m6b, F⟩ := Fit.i F
    replace F := Fit.g F
    obtain ⟨m7, _, rfl, m7a, m7b, F⟩ := Fit.i F
    replace F := Fit.z F
    replace F := Fit.g F
    obtain ⟨m8, _, rfl, m8a, m8b, F⟩ := Fit.i F
    replace F := Fit.g F
    obtain ⟨m9, _, rfl, m9a, m9b, F⟩ := Fit.i F
    replace F := Fit.g F
    obtain ⟨m10, _, rfl, m10a, m10b, F⟩ := Fit.i F
    replace F := Fit.g F
    obtain ⟨m11, _, rfl, m11S, F⟩ := Fit.s F
    replace F := Fit.g F
    obtain ⟨m12, _, rfl, m12a, m12b, F⟩ := Fit.i F
    replace F := Fit.g F
    obtain ⟨m13, _, rfl, m13a, m13b, F⟩ := Fit.i F
    replace F := Fit.g F
    obtain ⟨m14, _, rfl, m14l, F⟩ := Fit.a F
    replace F := Fit.g F
    obtain ⟨m15, _, rfl, m15l, F⟩ := Fit.a F
    replace F := Fit.g F
    obtain ⟨m16, _, rfl, m16a, m16b, F⟩ := Fit.i F
    replace F := Fit.g F
    replace F := Fit.g F
    obtain ⟨m17, _, rfl, m17a, m17b, F⟩ := Fit.i F
    replace F := Fit.g F
    obtain ⟨m18, _, rfl, m18a, m18b, F⟩ := Fit.i F
    replace F := Fit.z F
    replace F := Fit.g F
    obtain ⟨m19, _, rfl, m19a, m19b, F⟩ := Fit.i F
    replace F := Fit.g F
    obtain ⟨m20, _, rfl, m20a, m20b, F⟩ := Fit.i F
    replace F := Fit.g F
    obtain ⟨m21, _, rfl, m21a, m21b, F⟩ := Fit.i F
    replace F := Fit.g F
    obtain ⟨m22, _, rfl, m22a, m22b, F⟩ := Fit.i F
    replace F := Fit.z F
    replace F := Fit.g F
    obtain ⟨s1, _, rfl, s1a, s1b, F⟩ := Fit.i F
    replace F := Fit.g F
    replace F := Fit.g F
    obtain ⟨s2, _, rfl, s2a, s2b, F⟩ := Fit.i F
    replace F := Fit.g F
    obtain ⟨s3, _, rfl, s3a, s3b, F⟩ := Fit.i F
    replace F := Fit.z F
    replace F := Fit.g F
    obtain ⟨s4, _, rfl, s4S, F⟩ := Fit.s F
    replace F := Fit.z F
    obtain rfl := Fit.e F
    obtain ⟨_, a2, l, Vl⟩ := m11S.bytes
    obtain ⟨_, b2, l2, Vl2⟩ := s4S.bytes
    have hl := Vl.len
    have hl2 := Vl2.len
    rw [u64_min] at m5a m6a t4a s1a; rw [u64_max] at m5b m6b t4b s1b; rw [i64_max] at m9b t3b
    refine ⟨⟨t1, t2, t3, t4, ⟨m1, m2, m3, m4, m5, m6, m7, m8, m9, m10, m11, m12, m13, m14, m15, m16, m17, m18, m19, m20, m21, m22, l⟩, s1, s2, s3, s4, l2⟩, rfl, Vl, ?_, m9b, ⟨m5a, m5b⟩, ⟨m6a, m6b⟩, ⟨t4a, t4b⟩, t3b, Vl2, ?_, ⟨s1a, s1b⟩⟩
    · show l.length ≤ _; omega
    · show l2.length ≤ _; omega)
  exact ⟨xs, V⟩
theorem spanOf_ok {s : Int} (h : s ≤ (9223372036854775807 : Int)) : 0 ≤ spanOf s ∧ spanOf s ≤ (9223372036854775807 : Int) := by unfold spanOf; split <;> omega
theorem spanOf_id {s : Int} (h : 0 ≤ s) : spanOf s = s := by unfold spanOf; split <;> omega
theorem hearS_ok {r : RS} {m : Mg} (ok : r.Ok) (hb : m.b.length ≤ (140737488355325 : Nat)) (hs : m.span ≤ (9223372036854775807 : Int)) : (hearS r m).1.Ok := by
  have hsp := spanOf_ok hs
  have h1 : ∀ e, (r.take_ e m.span).Ok := fun e => ⟨ok.v, hsp.1, hsp.2⟩
  unfold hearS act
  dsimp only
  split
  · unfold prep; split
    · exact ok
    · exact ⟨ok.v, ok.w0, ok.w1⟩
  split
  · unfold writ; split
    · exact ok
    split
    · exact h1 _
    split
    · exact ⟨hb, hsp.1, hsp.2⟩
    · exact h1 _
  split
  · unfold beats; split
    · exact ok
    · exact h1 _
  · exact ok
def mg0 : Mg := ⟨0, 0, 0, 0, 0, 0, 0, 0, 0, 0, ⟨none, 0, 0⟩, 0, 0, ⟨#[]⟩, ⟨#[]⟩, 0, 0, 0, 0, 0, 0, 0, []⟩
def lifeM (o : ROp) : Mg := if o.do_ = 1 then o.m else mg0
def lifeD (r : RS) (o : ROp) : HD := if o.do_ = 1 then (hearS r o.m).2 else hd0
def tickS (r : RS) : RS := { r with wait := if r.wait = 0 then 0 else r.wait - 1 }
def ownS (r : RS) (e : Int) : RS := { r with prom := if r.prom > e then r.prom else e }
def lifeS (r : RS) (o : ROp) : RS := if o.do_ = 1 then (hearS r o.m).1 else if o.do_ = 2 then tickS r else if o.do_ = 3 then ownS r o.epoch else r
theorem tickS_ok {r : RS} (ok : r.Ok) : (tickS r).Ok := ⟨ok.v, by have := ok.w0; show 0 ≤ (if r.wait = 0 then 0 else r.wait - 1); split <;> omega, by have := ok.w0; have := ok.w1; show (if r.wait = 0 then 0 else r.wait - 1) ≤ _; split <;> omega⟩
theorem lifeS_ok {h : Heap} {r : RS} {o : ROp} (ok : r.Ok) (oo : o.Ok h) : (lifeS r o).Ok := by
  unfold lifeS
  split
  · exact hearS_ok ok oo.mb oo.mspan
  split
  · exact tickS_ok ok
  split
  · exact ⟨ok.v, ok.w0, ok.w1⟩
  · exact ok
theorem lifeM_b {h : Heap} {o : ROp} (oo : o.Ok h) : Bytes h (lifeM o).v (lifeM o).b ∧ (lifeM o).b.length ≤ (140737488355325 : Nat) := by
  unfold lifeM
  split
  · exact ⟨oo.mv, oo.mb⟩
  · exact ⟨View.nil (p := none) (c := 0), by simp [mg0]⟩
section
variable {h0 h : Heap} {L : List Res}
theorem F_law9_Life_at.is {p : Nat} {r : RS} {o : ROp} {ops : List ROp} {a b c d i : Int} {v ls : Sl} {Q : Int → Int → Int → Int → Int → Int → Int → Int → Int → Int → Sl → Int → Int → ByteArray → ByteArray → Int → Int → Int → Int → Int → Int → Int → Int → Int → Int → Int → Int → Int → Int → Int → Int → Int → Sl → Int → Int → ByteArray → ByteArray → Int → Int → Int → Int → Int → Int → Int → Bool → Bool → Bool → Heap → Prop} (Vo : View h0 30 (ropR h0) ls ops) (hi : 0 ≤ i) (ho : ops[i.toNat]? = some o) (ok : r.Ok) (O : Sat h0 h (repR p r :: L))
    (k : ∀ s h', Sat h0 h' (buf 1 u8 s (lifeD r o).val :: repR p (lifeS r o) :: L) → Q (lifeM o).kind (lifeM o).frm (lifeM o).to (lifeM o).shard (lifeM o).epoch (lifeM o).te (lifeM o).ts (lifeM o).round (lifeM o).span (lifeM o).seen (lifeM o).v (lifeM o).peer (lifeM o).num (lifeM o).name (lifeM o).other (lifeM o).amount (lifeM o).life (lifeM o).id (lifeM o).op (lifeM o).client (lifeM o).state (lifeM o).bad (lifeD r o).kind (lifeD r o).frm (lifeD r o).to (lifeD r o).shard (lifeD r o).epoch (lifeD r o).te (lifeD r o).ts (lifeD r o).round 0 (lifeD r o).seen s 0 0 ⟨#[]⟩ ⟨#[]⟩ 0 0 0 0 0 0 0 (lifeD r o).ans (lifeD r o).tak (lifeD r o).chg h') : F_law9_Life_at a b c v d ls (some (pt p 0)) i h Q := by
  rw [F_law9_Life_at.eq_1, F_law9_Life_at_of.eq_1]
  refine O.al fun x9 h O => ?_
  refine O.al fun x11 h O => ?_
  refine O.al fun x13 h O => ?_
  repeat (first
    | (with_reducible refine al_id ?_); refine O.al fun _ h O => ?_
    | (with_reducible refine nn_id ?_); refine ⟨_, rfl, ?_⟩
    | (with_reducible refine ld_id ?_); (first | refine O.ld 0 rfl ?_ | refine O.ld 1 rfl ?_ | refine O.ld 2 rfl ?_); (repeat (first | (with_reducible refine ldL_n ?_) | refine ldL_s ?_ | refine ldL_c ?_))
    | (with_reducible refine st_ad (by first | (with_reducible rfl) | (simp only [pt_add, Nat.zero_add, Nat.add_zero, Nat.reduceAdd]; with_reducible rfl)) ?_); (first | refine O.st 0 rfl (by simp) rfl fun h O => ?_ | refine O.st 1 rfl (by simp) rfl fun h O => ?_ | refine O.st 2 rfl (by simp) rfl fun h O => ?_); (dsimp only [V.put, List.set, List.length_cons, List.length_nil] at O)
    | (with_reducible refine ca_id ?_); (first | refine ⟨cellsAre_blk (O.blk (i := 0) (by simp) rfl).2 _ 1, ?_⟩ | refine ⟨cellsAre_blk (O.blk (i := 0) (by simp) rfl).2 _ 2, ?_⟩ | refine ⟨cellsAre_blk (O.blk (i := 1) (by simp) rfl).2 _ 1, ?_⟩ | refine ⟨cellsAre_blk (O.blk (i := 1) (by simp) rfl).2 _ 2, ?_⟩ | refine ⟨cellsAre_blk (O.blk (i := 2) (by simp) rfl).2 _ 1, ?_⟩ | refine ⟨cellsAre_blk (O.blk (i := 2) (by simp) rfl).2 _ 2, ?_⟩))
  refine (Vo.kept O.kept).ix hi (by have := (List.getElem?_eq_some_iff.1 ho).1; omega) fun a2 cs o2 ho2 hlen hR hc => ?_
  rw [ho] at ho2; cases ho2
  obtain ⟨rfl, oo⟩ := hR
  refine ld_are hc ?_
  unfold ropC
  repeat (first | (with_reducible refine ldL_n ?_) | refine ldL_s ?_ | refine ldL_c ?_)
  refine O.al fun x47 h O => ?_
  repeat (first
    | (with_reducible refine al_id ?_); refine O.al fun _ h O => ?_
    | (with_reducible refine nn_id ?_); refine ⟨_, rfl, ?_⟩
    | (with_reducible refine ld_id ?_); (first | refine O.ld 0 rfl ?_); (repeat (first | (with_reducible refine ldL_n ?_) | refine ldL_s ?_ | refine ldL_c ?_))
    | (with_reducible refine st_ad (by first | (with_reducible rfl) | (simp only [pt_add, Nat.zero_add, Nat.add_zero, Nat.reduceAdd]; with_reducible rfl)) ?_); (first | refine O.st 0 rfl (by simp) rfl fun h O => ?_); (dsimp only [V.put, List.set, List.length_cons, List.length_nil] at O)
    | (with_reducible refine ca_id ?_); (first | refine ⟨cellsAre_blk (O.blk (i := 0) (by simp) rfl).2 _ 1, ?_⟩ | refine ⟨cellsAre_blk (O.blk (i := 0) (by simp) rfl).2 _ 2, ?_⟩))
  -- own x47, x13, x11, x9, repR
  refine brr_eq (fun h1 => ?_) (fun h1 => ?_)
  · have e1 : lifeM o = o.m := by unfold lifeM; rw [if_pos h1]
    have e2 : lifeD r o = (hearS r o.m).2 := by unfold lifeD; rw [if_pos h1]
    have e3 : lifeS r o = (hearS r o.m).1 := by unfold lifeS; rw [if_pos h1]
    rw [e1, e2, e3] at k
    repeat (first
      | (with_reducible refine al_id ?_); refine O.al fun _ h O => ?_
      | (with_reducible refine nn_id ?_); refine ⟨_, rfl, ?_⟩
      | (with_reducible refine ld_id ?_); (first | refine O.ld 0 rfl ?_); (repeat (first | (with_reducible refine ldL_n ?_) | refine ldL_s ?_ | refine ldL_c ?_))
      | (with_reducible refine st_ad (by first | (with_reducible rfl) | (simp only [pt_add, Nat.zero_add, Nat.add_zero, Nat.reduceAdd]; with_reducible rfl)) ?_); (first | refine O.st 0 rfl (by simp) rfl fun h O => ?_); (dsimp only [V.put, List.set, List.length_cons, List.length_nil] at O)
      | (with_reducible refine ca_id ?_); (first | refine ⟨cellsAre_blk (O.blk (i := 0) (by simp) rfl).2 _ 1, ?_⟩ | refine ⟨cellsAre_blk (O.blk (i := 0) (by simp) rfl).2 _ 2, ?_⟩))
    refine F_ref0_CopyMsg.is (m := o.m) O (fun h O => oo.mv.kept O.kept) oo.mb fun s1 h O => ?_
    refine ⟨cellsAre_blk (O.blk (i := 1) (by simp) rfl).2 4 22, ?_⟩
    replace O := O.sel [5, 0, 1, 2, 3, 4] 6 rfl (Nat.le_add_left _ _)
    simp only [selT, List.map, nth, List.drop, List.cons_append, List.nil_append] at O
    refine F_replica_Replica_Hear.is (m := { o.m with v := s1 }) ok (fun h O => (O.view 0 u8_len (by simp) rfl).1) oo.mb O fun s h O => ?_
    refine ⟨cellsAre_blk (O.blk (i := 3) (by simp) rfl).2 4 22, ?_⟩
    repeat (first
      | (with_reducible refine al_id ?_); refine O.al fun _ h O => ?_
      | (with_reducible refine nn_id ?_); refine ⟨_, rfl, ?_⟩
      | (with_reducible refine ld_id ?_); (first | refine O.ld 0 rfl ?_ | refine O.ld 1 rfl ?_ | refine O.ld 2 rfl ?_ | refine O.ld 3 rfl ?_ | refine O.ld 4 rfl ?_ | refine O.ld 5 rfl ?_); (repeat (first | (with_reducible refine ldL_n ?_) | refine ldL_s ?_ | refine ldL_c ?_))
      | (with_reducible refine st_ad (by first | (with_reducible rfl) | (simp only [pt_add, Nat.zero_add, Nat.add_zero, Nat.reduceAdd]; with_reducible rfl)) ?_); (first | refine O.st 0 rfl (by simp) rfl fun h O => ?_ | refine O.st 1 rfl (by simp) rfl fun h O => ?_ | refine O.st 2 rfl (by simp) rfl fun h O => ?_ | refine O.st 3 rfl (by simp) rfl fun h O => ?_ | refine O.st 4 rfl (by simp) rfl fun h O => ?_ | refine O.st 5 rfl (by simp) rfl fun h O => ?_); (dsimp only [V.put, List.set, List.length_cons, List.length_nil] at O)
      | (with_reducible refine ca_id ?_); (first | refine ⟨cellsAre_blk (O.blk (i := 0) (by simp) rfl).2 _ 1, ?_⟩ | refine ⟨cellsAre_blk (O.blk (i := 0) (by simp) rfl).2 _ 2, ?_⟩ | refine ⟨cellsAre_blk (O.blk (i := 1) (by simp) rfl).2 _ 1, ?_⟩ | refine ⟨cellsAre_blk (O.blk (i := 1) (by simp) rfl).2 _ 2, ?_⟩ | refine ⟨cellsAre_blk (O.blk (i := 2) (by simp) rfl).2 _ 1, ?_⟩ | refine ⟨cellsAre_blk (O.blk (i := 2) (by simp) rfl).2 _ 2, ?_⟩ | refine ⟨cellsAre_blk (O.blk (i := 3) (by simp) rfl).2 _ 1, ?_⟩ | refine ⟨cellsAre_blk (O.blk (i := 3) (by simp) rfl).2 _ 2, ?_⟩ | refine ⟨cellsAre_blk (O.blk (i := 4) (by simp) rfl).2 _ 1, ?_⟩ | refine ⟨cellsAre_blk (O.blk (i := 4) (by simp) rfl).2 _ 2, ?_⟩ | refine ⟨cellsAre_blk (O.blk (i := 5) (by simp) rfl).2 _ 1, ?_⟩ | refine ⟨cellsAre_blk (O.blk (i := 5) (by simp) rfl).2 _ 2, ?_⟩))
    have e4 : hearS r { o.m with v := s1 } = hearS r o.m := rfl
    rw [e4] at O
    exact k _ _ (O.sel [0, 1] 7 rfl (Nat.le_add_left _ _))
  have e1 : lifeM o = mg0 := by unfold lifeM; rw [if_neg h1]
  have e2 : lifeD r o = hd0 := by unfold lifeD; rw [if_neg h1]
  rw [e1, e2] at k
  refine jn0 (fun h' => Sat h0 h' (repR p (lifeS r o) :: own x13 [.int .i64 0, .int .i64 0, .int .i64 0, .int .i64 0, .int .u64 0, .int .u64 0, .int .u64 0, .int .u64 0, .int .i64 0, .int .u64 0, .slice none 0 0, .int .i64 0, .int .u64 0, .string (⟨#[]⟩ : ByteArray), .string (⟨#[]⟩ : ByteArray), .int .u64 0, .int .u64 0, .int .u64 0, .int .i64 0, .int .i64 0, .int .i64 0, .int .i64 0, .bool false, .bool false, .bool false] :: own x11 [.int .i64 0, .int .i64 0, .int .i64 0, .int .i64 0, .int .u64 0, .int .u64 0, .int .u64 0, .int .u64 0, .int .i64 0, .int .u64 0, .slice none 0 0, .int .i64 0, .int .u64 0, .string (⟨#[]⟩ : ByteArray), .string (⟨#[]⟩ : ByteArray), .int .u64 0, .int .u64 0, .int .u64 0, .int .i64 0, .int .i64 0, .int .i64 0, .int .i64 0] :: L)) ?_ ?_
  · clear O
    intro h O
    repeat (first
      | (with_reducible refine al_id ?_); refine O.al fun _ h O => ?_
      | (with_reducible refine nn_id ?_); refine ⟨_, rfl, ?_⟩
      | (with_reducible refine ld_id ?_); (first | refine O.ld 0 rfl ?_ | refine O.ld 1 rfl ?_ | refine O.ld 2 rfl ?_); (repeat (first | (with_reducible refine ldL_n ?_) | refine ldL_s ?_ | refine ldL_c ?_))
      | (with_reducible refine st_ad (by first | (with_reducible rfl) | (simp only [pt_add, Nat.zero_add, Nat.add_zero, Nat.reduceAdd]; with_reducible rfl)) ?_); (first | refine O.st 0 rfl (by simp) rfl fun h O => ?_ | refine O.st 1 rfl (by simp) rfl fun h O => ?_ | refine O.st 2 rfl (by simp) rfl fun h O => ?_); (dsimp only [V.put, List.set, List.length_cons, List.length_nil] at O)
      | (with_reducible refine ca_id ?_); (first | refine ⟨cellsAre_blk (O.blk (i := 0) (by simp) rfl).2 _ 1, ?_⟩ | refine ⟨cellsAre_blk (O.blk (i := 0) (by simp) rfl).2 _ 2, ?_⟩ | refine ⟨cellsAre_blk (O.blk (i := 1) (by simp) rfl).2 _ 1, ?_⟩ | refine ⟨cellsAre_blk (O.blk (i := 1) (by simp) rfl).2 _ 2, ?_⟩ | refine ⟨cellsAre_blk (O.blk (i := 2) (by simp) rfl).2 _ 1, ?_⟩ | refine ⟨cellsAre_blk (O.blk (i := 2) (by simp) rfl).2 _ 2, ?_⟩))
    exact k _ _ (O.sel [0] 3 rfl (Nat.le_add_left _ _)).nil_buf
  · intro j hj
    have O2 := O
    replace O := O.sel [4, 1, 2, 0] 5 rfl (Nat.le_add_left _ _)
    simp only [selT, List.map, nth, List.drop, List.cons_append, List.nil_append] at O
    refine brr_eq (fun h2 => ?_) (fun h2 => ?_)
    · have e3 : lifeS r o = tickS r := by unfold lifeS; rw [if_neg h1, if_pos h2]
      rw [e3] at hj
      refine F_replica_Replica_Tick.is ok O fun h O => ?_
      exact hj _ (O.sel [0, 1, 2] 4 rfl (Nat.le_add_left _ _))
    refine jn_go ?_
    refine brr_eq (fun h3 => ?_) (fun h3 => ?_)
    · have e3 : lifeS r o = ownS r o.epoch := by unfold lifeS; rw [if_neg h1, if_neg h2, if_pos h3]
      rw [e3] at hj
      refine O.ld 3 rfl (ldL_c (ldL_n ?_))
      refine F_replica_Replica_Own.is O fun h O => ?_
      exact hj _ (O.sel [0, 1, 2] 4 rfl (Nat.le_add_left _ _))
    · have e3 : lifeS r o = r := by unfold lifeS; rw [if_neg h1, if_neg h2, if_neg h3]
      rw [e3] at hj
      exact hj _ (O.sel [0, 1, 2] 4 rfl (Nat.le_add_left _ _))
theorem F_law9_lives.is {Q : Bool → Heap → Prop} (O : Sat h0 h L) (k : ∀ h', Sat h0 h' L → Q true h') : F_law9_lives h Q := by
  rw [F_law9_lives.eq_1, F_law9_lives_of.eq_1]
  refine O.al fun x1 h O => ?_
  refine O.frz fun h O => ?_
  have O := lit_buf (x := 118) O
  refine F_replica_New.is (xs := [118]) O (fun h O => (O.view 0 u8_len (by simp) rfl).1) (by simp) fun p h O => ?_
  refine brr_ff rfl ?_
  have ok0 : RS.Ok ⟨0, 0, 0, [118], 0⟩ := ⟨by simp, by decide, by decide⟩
  refine F_replica_Replica_Hear.is (m := { mg0 with kind := 1, frm := 2, to := 1, epoch := 5 }) ok0 (fun h O => View.nil (p := none) (c := 0)) (by simp [mg0]) O fun s1 h O => ?_
  have e1 : hearS ⟨0, 0, 0, [118], 0⟩ { mg0 with kind := 1, frm := 2, to := 1, epoch := 5 } = (⟨5, 0, 0, [118], 0⟩, ⟨2, 1, 2, 0, 5, 0, 0, 0, 0, [118], true, false, true⟩) := by rfl
  rw [e1] at O ⊢
  refine O.al fun x32 h O => ?_
  refine O.st 0 rfl (by simp) rfl fun h O => ?_
  dsimp only [V.put, List.set] at O
  refine O.al fun x35 h O => ?_
  refine O.frz fun h O => ?_
  have O := lit_buf (x := 119) O
  replace O := O.sel [3, 0, 1, 2, 4] 5 rfl (Nat.le_add_left _ _)
  simp only [selT, List.map, nth, List.drop, List.cons_append, List.nil_append] at O
  refine F_replica_Replica_Hear.is (m := { mg0 with kind := 4, frm := 2, to := 1, te := 5, ts := 1, span := 3, v := ⟨some (pt x35 0), 1, 1⟩, b := [119] }) ⟨by simp, by decide, by decide⟩ (fun h O => (O.view 0 u8_len (by simp) rfl).1) (by simp) O fun s2 h O => ?_
  have e2 : hearS ⟨5, 0, 0, [118], 0⟩ { mg0 with kind := 4, frm := 2, to := 1, te := 5, ts := 1, span := 3, v := ⟨some (pt x35 0), 1, 1⟩, b := [119] } = (⟨5, 5, 1, [119], 3⟩, ⟨5, 1, 2, 0, 0, 5, 1, 0, 0, [], true, true, true⟩) := by rfl
  rw [e2] at O ⊢
  refine O.al fun x64 h O => ?_
  refine O.st 0 rfl (by simp) rfl fun h O => ?_
  dsimp only [V.put, List.set] at O
  replace O := O.sel [2, 0, 1, 3, 4, 5, 6] 7 rfl (Nat.le_add_left _ _)
  simp only [selT, List.map, nth, List.drop, List.cons_append, List.nil_append] at O
  refine F_replica_Replica_Stored.is ⟨by simp, by decide, by decide⟩ O fun s3 h O => ?_
  refine O.al fun x72 h O => ?_
  refine O.st 0 rfl (by simp) rfl fun h O => ?_
  dsimp only [V.put, List.set] at O
  refine jn1 (fun z h' => z = true ∧ Sat h0 h' L) (fun z h' ⟨e, O⟩ => e ▸ k h' O) fun j hj => ?_
  -- own x72, buf s3, repR, own x64, buf s2, buf lit, own x32, buf s1, ..
  repeat (first
    | (with_reducible refine al_id ?_); refine O.al fun _ h O => ?_
    | (with_reducible refine nn_id ?_); refine ⟨_, rfl, ?_⟩
    | (with_reducible refine ld_id ?_); (first | refine O.ld 0 rfl ?_ | refine O.ld 1 rfl ?_ | refine O.ld 2 rfl ?_ | refine O.ld 3 rfl ?_ | refine O.ld 4 rfl ?_ | refine O.ld 5 rfl ?_ | refine O.ld 6 rfl ?_); (repeat (first | (with_reducible refine ldL_n ?_) | refine ldL_s ?_ | refine ldL_c ?_))
    | (with_reducible refine st_ad (by first | (with_reducible rfl) | (simp only [pt_add, Nat.zero_add, Nat.add_zero, Nat.reduceAdd]; with_reducible rfl)) ?_); (first | refine O.st 0 rfl (by simp) rfl fun h O => ?_ | refine O.st 1 rfl (by simp) rfl fun h O => ?_ | refine O.st 2 rfl (by simp) rfl fun h O => ?_ | refine O.st 3 rfl (by simp) rfl fun h O => ?_ | refine O.st 4 rfl (by simp) rfl fun h O => ?_ | refine O.st 5 rfl (by simp) rfl fun h O => ?_ | refine O.st 6 rfl (by simp) rfl fun h O => ?_); (dsimp only [V.put, List.set, List.length_cons, List.length_nil] at O)
    | (with_reducible refine ca_id ?_); (first | refine ⟨cellsAre_blk (O.blk (i := 0) (by simp) rfl).2 _ 1, ?_⟩ | refine ⟨cellsAre_blk (O.blk (i := 0) (by simp) rfl).2 _ 2, ?_⟩ | refine ⟨cellsAre_blk (O.blk (i := 1) (by simp) rfl).2 _ 1, ?_⟩ | refine ⟨cellsAre_blk (O.blk (i := 1) (by simp) rfl).2 _ 2, ?_⟩ | refine ⟨cellsAre_blk (O.blk (i := 2) (by simp) rfl).2 _ 1, ?_⟩ | refine ⟨cellsAre_blk (O.blk (i := 2) (by simp) rfl).2 _ 2, ?_⟩ | refine ⟨cellsAre_blk (O.blk (i := 3) (by simp) rfl).2 _ 1, ?_⟩ | refine ⟨cellsAre_blk (O.blk (i := 3) (by simp) rfl).2 _ 2, ?_⟩ | refine ⟨cellsAre_blk (O.blk (i := 4) (by simp) rfl).2 _ 1, ?_⟩ | refine ⟨cellsAre_blk (O.blk (i := 4) (by simp) rfl).2 _ 2, ?_⟩ | refine ⟨cellsAre_blk (O.blk (i := 5) (by simp) rfl).2 _ 1, ?_⟩ | refine ⟨cellsAre_blk (O.blk (i := 5) (by simp) rfl).2 _ 2, ?_⟩ | refine ⟨cellsAre_blk (O.blk (i := 6) (by simp) rfl).2 _ 1, ?_⟩ | refine ⟨cellsAre_blk (O.blk (i := 6) (by simp) rfl).2 _ 2, ?_⟩))
  refine brr_tt rfl ?_
  repeat (first
    | (with_reducible refine al_id ?_); refine O.al fun _ h O => ?_
    | (with_reducible refine nn_id ?_); refine ⟨_, rfl, ?_⟩
    | (with_reducible refine ld_id ?_); (first | refine O.ld 0 rfl ?_ | refine O.ld 1 rfl ?_ | refine O.ld 2 rfl ?_ | refine O.ld 3 rfl ?_ | refine O.ld 4 rfl ?_ | refine O.ld 5 rfl ?_ | refine O.ld 6 rfl ?_); (repeat (first | (with_reducible refine ldL_n ?_) | refine ldL_s ?_ | refine ldL_c ?_))
    | (with_reducible refine st_ad (by first | (with_reducible rfl) | (simp only [pt_add, Nat.zero_add, Nat.add_zero, Nat.reduceAdd]; with_reducible rfl)) ?_); (first | refine O.st 0 rfl (by simp) rfl fun h O => ?_ | refine O.st 1 rfl (by simp) rfl fun h O => ?_ | refine O.st 2 rfl (by simp) rfl fun h O => ?_ | refine O.st 3 rfl (by simp) rfl fun h O => ?_ | refine O.st 4 rfl (by simp) rfl fun h O => ?_ | refine O.st 5 rfl (by simp) rfl fun h O => ?_ | refine O.st 6 rfl (by simp) rfl fun h O => ?_); (dsimp only [V.put, List.set, List.length_cons, List.length_nil] at O)
    | (with_reducible refine ca_id ?_); (first | refine ⟨cellsAre_blk (O.blk (i := 0) (by simp) rfl).2 _ 1, ?_⟩ | refine ⟨cellsAre_blk (O.blk (i := 0) (by simp) rfl).2 _ 2, ?_⟩ | refine ⟨cellsAre_blk (O.blk (i := 1) (by simp) rfl).2 _ 1, ?_⟩ | refine ⟨cellsAre_blk (O.blk (i := 1) (by simp) rfl).2 _ 2, ?_⟩ | refine ⟨cellsAre_blk (O.blk (i := 2) (by simp) rfl).2 _ 1, ?_⟩ | refine ⟨cellsAre_blk (O.blk (i := 2) (by simp) rfl).2 _ 2, ?_⟩ | refine ⟨cellsAre_blk (O.blk (i := 3) (by simp) rfl).2 _ 1, ?_⟩ | refine ⟨cellsAre_blk (O.blk (i := 3) (by simp) rfl).2 _ 2, ?_⟩ | refine ⟨cellsAre_blk (O.blk (i := 4) (by simp) rfl).2 _ 1, ?_⟩ | refine ⟨cellsAre_blk (O.blk (i := 4) (by simp) rfl).2 _ 2, ?_⟩ | refine ⟨cellsAre_blk (O.blk (i := 5) (by simp) rfl).2 _ 1, ?_⟩ | refine ⟨cellsAre_blk (O.blk (i := 5) (by simp) rfl).2 _ 2, ?_⟩ | refine ⟨cellsAre_blk (O.blk (i := 6) (by simp) rfl).2 _ 1, ?_⟩ | refine ⟨cellsAre_blk (O.blk (i := 6) (by simp) rfl).2 _ 2, ?_⟩))
  refine brr_tt rfl ?_
  repeat (first
    | (with_reducible refine al_id ?_); refine O.al fun _ h O => ?_
    | (with_reducible refine nn_id ?_); refine ⟨_, rfl, ?_⟩
    | (with_reducible refine ld_id ?_); (first | refine O.ld 0 rfl ?_ | refine O.ld 1 rfl ?_ | refine O.ld 2 rfl ?_ | refine O.ld 3 rfl ?_ | refine O.ld 4 rfl ?_ | refine O.ld 5 rfl ?_ | refine O.ld 6 rfl ?_); (repeat (first | (with_reducible refine ldL_n ?_) | refine ldL_s ?_ | refine ldL_c ?_))
    | (with_reducible refine st_ad (by first | (with_reducible rfl) | (simp only [pt_add, Nat.zero_add, Nat.add_zero, Nat.reduceAdd]; with_reducible rfl)) ?_); (first | refine O.st 0 rfl (by simp) rfl fun h O => ?_ | refine O.st 1 rfl (by simp) rfl fun h O => ?_ | refine O.st 2 rfl (by simp) rfl fun h O => ?_ | refine O.st 3 rfl (by simp) rfl fun h O => ?_ | refine O.st 4 rfl (by simp) rfl fun h O => ?_ | refine O.st 5 rfl (by simp) rfl fun h O => ?_ | refine O.st 6 rfl (by simp) rfl fun h O => ?_); (dsimp only [V.put, List.set, List.length_cons, List.length_nil] at O)
    | (with_reducible refine ca_id ?_); (first | refine ⟨cellsAre_blk (O.blk (i := 0) (by simp) rfl).2 _ 1, ?_⟩ | refine ⟨cellsAre_blk (O.blk (i := 0) (by simp) rfl).2 _ 2, ?_⟩ | refine ⟨cellsAre_blk (O.blk (i := 1) (by simp) rfl).2 _ 1, ?_⟩ | refine ⟨cellsAre_blk (O.blk (i := 1) (by simp) rfl).2 _ 2, ?_⟩ | refine ⟨cellsAre_blk (O.blk (i := 2) (by simp) rfl).2 _ 1, ?_⟩ | refine ⟨cellsAre_blk (O.blk (i := 2) (by simp) rfl).2 _ 2, ?_⟩ | refine ⟨cellsAre_blk (O.blk (i := 3) (by simp) rfl).2 _ 1, ?_⟩ | refine ⟨cellsAre_blk (O.blk (i := 3) (by simp) rfl).2 _ 2, ?_⟩ | refine ⟨cellsAre_blk (O.blk (i := 4) (by simp) rfl).2 _ 1, ?_⟩ | refine ⟨cellsAre_blk (O.blk (i := 4) (by simp) rfl).2 _ 2, ?_⟩ | refine ⟨cellsAre_blk (O.blk (i := 5) (by simp) rfl).2 _ 1, ?_⟩ | refine ⟨cellsAre_blk (O.blk (i := 5) (by simp) rfl).2 _ 2, ?_⟩ | refine ⟨cellsAre_blk (O.blk (i := 6) (by simp) rfl).2 _ 1, ?_⟩ | refine ⟨cellsAre_blk (O.blk (i := 6) (by simp) rfl).2 _ 2, ?_⟩))
  refine O.frz fun h O => ?_
  have O := lit_buf (x := 118) O
  refine F_ref0_Eq.is (O.view 8 u8_len (by simp) rfl).1 (O.view 0 u8_len (by simp) rfl).1 (by decide) (by decide) ?_
  refine brr_tt (by decide) ?_
  repeat (first
    | (with_reducible refine al_id ?_); refine O.al fun _ h O => ?_
    | (with_reducible refine nn_id ?_); refine ⟨_, rfl, ?_⟩
    | (with_reducible refine ld_id ?_); (first | refine O.ld 0 rfl ?_ | refine O.ld 1 rfl ?_ | refine O.ld 2 rfl ?_ | refine O.ld 3 rfl ?_ | refine O.ld 4 rfl ?_ | refine O.ld 5 rfl ?_ | refine O.ld 6 rfl ?_); (repeat (first | (with_reducible refine ldL_n ?_) | refine ldL_s ?_ | refine ldL_c ?_))
    | (with_reducible refine st_ad (by first | (with_reducible rfl) | (simp only [pt_add, Nat.zero_add, Nat.add_zero, Nat.reduceAdd]; with_reducible rfl)) ?_); (first | refine O.st 0 rfl (by simp) rfl fun h O => ?_ | refine O.st 1 rfl (by simp) rfl fun h O => ?_ | refine O.st 2 rfl (by simp) rfl fun h O => ?_ | refine O.st 3 rfl (by simp) rfl fun h O => ?_ | refine O.st 4 rfl (by simp) rfl fun h O => ?_ | refine O.st 5 rfl (by simp) rfl fun h O => ?_ | refine O.st 6 rfl (by simp) rfl fun h O => ?_); (dsimp only [V.put, List.set, List.length_cons, List.length_nil] at O)
    | (with_reducible refine ca_id ?_); (first | refine ⟨cellsAre_blk (O.blk (i := 0) (by simp) rfl).2 _ 1, ?_⟩ | refine ⟨cellsAre_blk (O.blk (i := 0) (by simp) rfl).2 _ 2, ?_⟩ | refine ⟨cellsAre_blk (O.blk (i := 1) (by simp) rfl).2 _ 1, ?_⟩ | refine ⟨cellsAre_blk (O.blk (i := 1) (by simp) rfl).2 _ 2, ?_⟩ | refine ⟨cellsAre_blk (O.blk (i := 2) (by simp) rfl).2 _ 1, ?_⟩ | refine ⟨cellsAre_blk (O.blk (i := 2) (by simp) rfl).2 _ 2, ?_⟩ | refine ⟨cellsAre_blk (O.blk (i := 3) (by simp) rfl).2 _ 1, ?_⟩ | refine ⟨cellsAre_blk (O.blk (i := 3) (by simp) rfl).2 _ 2, ?_⟩ | refine ⟨cellsAre_blk (O.blk (i := 4) (by simp) rfl).2 _ 1, ?_⟩ | refine ⟨cellsAre_blk (O.blk (i := 4) (by simp) rfl).2 _ 2, ?_⟩ | refine ⟨cellsAre_blk (O.blk (i := 5) (by simp) rfl).2 _ 1, ?_⟩ | refine ⟨cellsAre_blk (O.blk (i := 5) (by simp) rfl).2 _ 2, ?_⟩ | refine ⟨cellsAre_blk (O.blk (i := 6) (by simp) rfl).2 _ 1, ?_⟩ | refine ⟨cellsAre_blk (O.blk (i := 6) (by simp) rfl).2 _ 2, ?_⟩))
  refine brr_tt rfl ?_
  repeat (first
    | (with_reducible refine al_id ?_); refine O.al fun _ h O => ?_
    | (with_reducible refine nn_id ?_); refine ⟨_, rfl, ?_⟩
    | (with_reducible refine ld_id ?_); (first | refine O.ld 0 rfl ?_ | refine O.ld 1 rfl ?_ | refine O.ld 2 rfl ?_ | refine O.ld 3 rfl ?_ | refine O.ld 4 rfl ?_ | refine O.ld 5 rfl ?_ | refine O.ld 6 rfl ?_); (repeat (first | (with_reducible refine ldL_n ?_) | refine ldL_s ?_ | refine ldL_c ?_))
    | (with_reducible refine st_ad (by first | (with_reducible rfl) | (simp only [pt_add, Nat.zero_add, Nat.add_zero, Nat.reduceAdd]; with_reducible rfl)) ?_); (first | refine O.st 0 rfl (by simp) rfl fun h O => ?_ | refine O.st 1 rfl (by simp) rfl fun h O => ?_ | refine O.st 2 rfl (by simp) rfl fun h O => ?_ | refine O.st 3 rfl (by simp) rfl fun h O => ?_ | refine O.st 4 rfl (by simp) rfl fun h O => ?_ | refine O.st 5 rfl (by simp) rfl fun h O => ?_ | refine O.st 6 rfl (by simp) rfl fun h O => ?_); (dsimp only [V.put, List.set, List.length_cons, List.length_nil] at O)
    | (with_reducible refine ca_id ?_); (first | refine ⟨cellsAre_blk (O.blk (i := 0) (by simp) rfl).2 _ 1, ?_⟩ | refine ⟨cellsAre_blk (O.blk (i := 0) (by simp) rfl).2 _ 2, ?_⟩ | refine ⟨cellsAre_blk (O.blk (i := 1) (by simp) rfl).2 _ 1, ?_⟩ | refine ⟨cellsAre_blk (O.blk (i := 1) (by simp) rfl).2 _ 2, ?_⟩ | refine ⟨cellsAre_blk (O.blk (i := 2) (by simp) rfl).2 _ 1, ?_⟩ | refine ⟨cellsAre_blk (O.blk (i := 2) (by simp) rfl).2 _ 2, ?_⟩ | refine ⟨cellsAre_blk (O.blk (i := 3) (by simp) rfl).2 _ 1, ?_⟩ | refine ⟨cellsAre_blk (O.blk (i := 3) (by simp) rfl).2 _ 2, ?_⟩ | refine ⟨cellsAre_blk (O.blk (i := 4) (by simp) rfl).2 _ 1, ?_⟩ | refine ⟨cellsAre_blk (O.blk (i := 4) (by simp) rfl).2 _ 2, ?_⟩ | refine ⟨cellsAre_blk (O.blk (i := 5) (by simp) rfl).2 _ 1, ?_⟩ | refine ⟨cellsAre_blk (O.blk (i := 5) (by simp) rfl).2 _ 2, ?_⟩ | refine ⟨cellsAre_blk (O.blk (i := 6) (by simp) rfl).2 _ 1, ?_⟩ | refine ⟨cellsAre_blk (O.blk (i := 6) (by simp) rfl).2 _ 2, ?_⟩))
  refine brr_tt rfl ?_
  repeat (first
    | (with_reducible refine al_id ?_); refine O.al fun _ h O => ?_
    | (with_reducible refine nn_id ?_); refine ⟨_, rfl, ?_⟩
    | (with_reducible refine ld_id ?_); (first | refine O.ld 0 rfl ?_ | refine O.ld 1 rfl ?_ | refine O.ld 2 rfl ?_ | refine O.ld 3 rfl ?_ | refine O.ld 4 rfl ?_ | refine O.ld 5 rfl ?_ | refine O.ld 6 rfl ?_); (repeat (first | (with_reducible refine ldL_n ?_) | refine ldL_s ?_ | refine ldL_c ?_))
    | (with_reducible refine st_ad (by first | (with_reducible rfl) | (simp only [pt_add, Nat.zero_add, Nat.add_zero, Nat.reduceAdd]; with_reducible rfl)) ?_); (first | refine O.st 0 rfl (by simp) rfl fun h O => ?_ | refine O.st 1 rfl (by simp) rfl fun h O => ?_ | refine O.st 2 rfl (by simp) rfl fun h O => ?_ | refine O.st 3 rfl (by simp) rfl fun h O => ?_ | refine O.st 4 rfl (by simp) rfl fun h O => ?_ | refine O.st 5 rfl (by simp) rfl fun h O => ?_ | refine O.st 6 rfl (by simp) rfl fun h O => ?_); (dsimp only [V.put, List.set, List.length_cons, List.length_nil] at O)
    | (with_reducible refine ca_id ?_); (first | refine ⟨cellsAre_blk (O.blk (i := 0) (by simp) rfl).2 _ 1, ?_⟩ | refine ⟨cellsAre_blk (O.blk (i := 0) (by simp) rfl).2 _ 2, ?_⟩ | refine ⟨cellsAre_blk (O.blk (i := 1) (by simp) rfl).2 _ 1, ?_⟩ | refine ⟨cellsAre_blk (O.blk (i := 1) (by simp) rfl).2 _ 2, ?_⟩ | refine ⟨cellsAre_blk (O.blk (i := 2) (by simp) rfl).2 _ 1, ?_⟩ | refine ⟨cellsAre_blk (O.blk (i := 2) (by simp) rfl).2 _ 2, ?_⟩ | refine ⟨cellsAre_blk (O.blk (i := 3) (by simp) rfl).2 _ 1, ?_⟩ | refine ⟨cellsAre_blk (O.blk (i := 3) (by simp) rfl).2 _ 2, ?_⟩ | refine ⟨cellsAre_blk (O.blk (i := 4) (by simp) rfl).2 _ 1, ?_⟩ | refine ⟨cellsAre_blk (O.blk (i := 4) (by simp) rfl).2 _ 2, ?_⟩ | refine ⟨cellsAre_blk (O.blk (i := 5) (by simp) rfl).2 _ 1, ?_⟩ | refine ⟨cellsAre_blk (O.blk (i := 5) (by simp) rfl).2 _ 2, ?_⟩ | refine ⟨cellsAre_blk (O.blk (i := 6) (by simp) rfl).2 _ 1, ?_⟩ | refine ⟨cellsAre_blk (O.blk (i := 6) (by simp) rfl).2 _ 2, ?_⟩))
  refine brr_tt rfl ?_
  repeat (first
    | (with_reducible refine al_id ?_); refine O.al fun _ h O => ?_
    | (with_reducible refine nn_id ?_); refine ⟨_, rfl, ?_⟩
    | (with_reducible refine ld_id ?_); (first | refine O.ld 0 rfl ?_ | refine O.ld 1 rfl ?_ | refine O.ld 2 rfl ?_ | refine O.ld 3 rfl ?_ | refine O.ld 4 rfl ?_ | refine O.ld 5 rfl ?_ | refine O.ld 6 rfl ?_); (repeat (first | (with_reducible refine ldL_n ?_) | refine ldL_s ?_ | refine ldL_c ?_))
    | (with_reducible refine st_ad (by first | (with_reducible rfl) | (simp only [pt_add, Nat.zero_add, Nat.add_zero, Nat.reduceAdd]; with_reducible rfl)) ?_); (first | refine O.st 0 rfl (by simp) rfl fun h O => ?_ | refine O.st 1 rfl (by simp) rfl fun h O => ?_ | refine O.st 2 rfl (by simp) rfl fun h O => ?_ | refine O.st 3 rfl (by simp) rfl fun h O => ?_ | refine O.st 4 rfl (by simp) rfl fun h O => ?_ | refine O.st 5 rfl (by simp) rfl fun h O => ?_ | refine O.st 6 rfl (by simp) rfl fun h O => ?_); (dsimp only [V.put, List.set, List.length_cons, List.length_nil] at O)
    | (with_reducible refine ca_id ?_); (first | refine ⟨cellsAre_blk (O.blk (i := 0) (by simp) rfl).2 _ 1, ?_⟩ | refine ⟨cellsAre_blk (O.blk (i := 0) (by simp) rfl).2 _ 2, ?_⟩ | refine ⟨cellsAre_blk (O.blk (i := 1) (by simp) rfl).2 _ 1, ?_⟩ | refine ⟨cellsAre_blk (O.blk (i := 1) (by simp) rfl).2 _ 2, ?_⟩ | refine ⟨cellsAre_blk (O.blk (i := 2) (by simp) rfl).2 _ 1, ?_⟩ | refine ⟨cellsAre_blk (O.blk (i := 2) (by simp) rfl).2 _ 2, ?_⟩ | refine ⟨cellsAre_blk (O.blk (i := 3) (by simp) rfl).2 _ 1, ?_⟩ | refine ⟨cellsAre_blk (O.blk (i := 3) (by simp) rfl).2 _ 2, ?_⟩ | refine ⟨cellsAre_blk (O.blk (i := 4) (by simp) rfl).2 _ 1, ?_⟩ | refine ⟨cellsAre_blk (O.blk (i := 4) (by simp) rfl).2 _ 2, ?_⟩ | refine ⟨cellsAre_blk (O.blk (i := 5) (by simp) rfl).2 _ 1, ?_⟩ | refine ⟨cellsAre_blk (O.blk (i := 5) (by simp) rfl).2 _ 2, ?_⟩ | refine ⟨cellsAre_blk (O.blk (i := 6) (by simp) rfl).2 _ 1, ?_⟩ | refine ⟨cellsAre_blk (O.blk (i := 6) (by simp) rfl).2 _ 2, ?_⟩))
  refine brr_tt rfl ?_
  repeat (first
    | (with_reducible refine al_id ?_); refine O.al fun _ h O => ?_
    | (with_reducible refine nn_id ?_); refine ⟨_, rfl, ?_⟩
    | (with_reducible refine ld_id ?_); (first | refine O.ld 0 rfl ?_ | refine O.ld 1 rfl ?_ | refine O.ld 2 rfl ?_ | refine O.ld 3 rfl ?_ | refine O.ld 4 rfl ?_ | refine O.ld 5 rfl ?_ | refine O.ld 6 rfl ?_); (repeat (first | (with_reducible refine ldL_n ?_) | refine ldL_s ?_ | refine ldL_c ?_))
    | (with_reducible refine st_ad (by first | (with_reducible rfl) | (simp only [pt_add, Nat.zero_add, Nat.add_zero, Nat.reduceAdd]; with_reducible rfl)) ?_); (first | refine O.st 0 rfl (by simp) rfl fun h O => ?_ | refine O.st 1 rfl (by simp) rfl fun h O => ?_ | refine O.st 2 rfl (by simp) rfl fun h O => ?_ | refine O.st 3 rfl (by simp) rfl fun h O => ?_ | refine O.st 4 rfl (by simp) rfl fun h O => ?_ | refine O.st 5 rfl (by simp) rfl fun h O => ?_ | refine O.st 6 rfl (by simp) rfl fun h O => ?_); (dsimp only [V.put, List.set, List.length_cons, List.length_nil] at O)
    | (with_reducible refine ca_id ?_); (first | refine ⟨cellsAre_blk (O.blk (i := 0) (by simp) rfl).2 _ 1, ?_⟩ | refine ⟨cellsAre_blk (O.blk (i := 0) (by simp) rfl).2 _ 2, ?_⟩ | refine ⟨cellsAre_blk (O.blk (i := 1) (by simp) rfl).2 _ 1, ?_⟩ | refine ⟨cellsAre_blk (O.blk (i := 1) (by simp) rfl).2 _ 2, ?_⟩ | refine ⟨cellsAre_blk (O.blk (i := 2) (by simp) rfl).2 _ 1, ?_⟩ | refine ⟨cellsAre_blk (O.blk (i := 2) (by simp) rfl).2 _ 2, ?_⟩ | refine ⟨cellsAre_blk (O.blk (i := 3) (by simp) rfl).2 _ 1, ?_⟩ | refine ⟨cellsAre_blk (O.blk (i := 3) (by simp) rfl).2 _ 2, ?_⟩ | refine ⟨cellsAre_blk (O.blk (i := 4) (by simp) rfl).2 _ 1, ?_⟩ | refine ⟨cellsAre_blk (O.blk (i := 4) (by simp) rfl).2 _ 2, ?_⟩ | refine ⟨cellsAre_blk (O.blk (i := 5) (by simp) rfl).2 _ 1, ?_⟩ | refine ⟨cellsAre_blk (O.blk (i := 5) (by simp) rfl).2 _ 2, ?_⟩ | refine ⟨cellsAre_blk (O.blk (i := 6) (by simp) rfl).2 _ 1, ?_⟩ | refine ⟨cellsAre_blk (O.blk (i := 6) (by simp) rfl).2 _ 2, ?_⟩))
  refine O.frz fun h O => ?_
  have O := lit_buf (x := 119) O
  refine F_ref0_Eq.is (O.view 3 u8_len (by simp) rfl).1 (O.view 0 u8_len (by simp) rfl).1 (by decide) (by decide) ?_
  refine brr_tt (by decide) ?_
  replace O := O.sel [4] 10 rfl (Nat.le_add_left _ _)
  have O : Sat h0 h (repR p _ :: _) := O
  refine F_replica_Replica_Wait.is O ?_
  exact hj _ _ ⟨rfl, O.drop.drop⟩
end
end Go.Proofs.Ytcbelendjpnmiaa.V
namespace Go.Proofs.Ytcbelendjpnmiaa.V
open Go Go.RowKit
set_option linter.unusedVariables false
set_option maxRecDepth 100000
/-! tally/tallylaw9.ReplicaTwice -/
def F_law9_ReplicaTwice.l1 (f12_ : Int → Int → Int → Int → Int → Int → Int → Int → Int → Int → Sl → Int → Int → ByteArray → ByteArray → Int → Int → Int → Int → Int → Int → Int → Heap → (Int → Int → Int → Int → Int → Int → Int → Int → Int → Int → Sl → Int → Int → ByteArray → ByteArray → Int → Int → Int → Int → Int → Int → Int → Heap → Prop) → Prop) (f13_ : Option Addr → Int → Int → Int → Int → Int → Int → Int → Int → Int → Int → Sl → Int → Int → ByteArray → ByteArray → Int → Int → Int → Int → Int → Int → Int → Heap → (Int → Int → Int → Int → Int → Int → Int → Int → Int → Int → Sl → Int → Int → ByteArray → ByteArray → Int → Int → Int → Int → Int → Int → Int → Bool → Bool → Bool → Heap → Prop) → Prop) (f21_ : Int → Int → Int → Sl → Int → Heap → (Option Addr → Heap → Prop) → Prop) (f23_ : Option Addr → Heap → (Int → Int → Int → Sl → Heap → Prop) → Prop) (f24_ : Int → Int → Int → Sl → Int → Sl → Option Addr → Int → Heap → (Int → Int → Int → Int → Int → Int → Int → Int → Int → Int → Sl → Int → Int → ByteArray → ByteArray → Int → Int → Int → Int → Int → Int → Int → Int → Int → Int → Int → Int → Int → Int → Int → Int → Int → Sl → Int → Int → ByteArray → ByteArray → Int → Int → Int → Int → Int → Int → Int → Bool → Bool → Bool → Heap → Prop) → Prop) (f26_ : Int → Int → Int → Sl → Int → Int → Int → Sl → Heap → (Bool → Heap → Prop) → Prop) (f28_ : Option Addr → Heap → (Int → Heap → Prop) → Prop) (f29_ : Int → Int → Int → Int → Int → Int → Int → Int → Int → Int → Sl → Int → Int → ByteArray → ByteArray → Int → Int → Int → Int → Int → Int → Int → Int → Int → Int → Int → Int → Int → Int → Int → Int → Int → Sl → Int → Int → ByteArray → ByteArray → Int → Int → Int → Int → Int → Int → Int → Heap → (Bool → Heap → Prop) → Prop) (Q : Bool → Heap → Prop) (a7 : Addr) (r16 : Option Addr) (j23 : Heap → Prop) : Int → Heap → Prop :=
  wl [(4, .one (.int .i64))] (fun (next24 : Int → Heap → Prop) (i25 : Int) (h26 : Heap) =>
  jn [(39, .one .bool)] (fun (x29 : Bool) (h30 : Heap) =>
  brr x29
  (jn [] (fun  (h376 : Heap) =>
  next24 (IntKind.i64.wrap (i25 + 1)) h376) (fun (j31 : Heap → Prop) =>
  f23_ r16 h30 fun (r32 : Int) (r33 : Int) (r34 : Int) (r35 : Sl) (h36 : Heap) =>
  f28_ r16 h36 fun (r37 : Int) (h38 : Heap) =>
  f21_ r32 r33 r34 r35 r37 h38 fun (r39 : Option Addr) (h40 : Heap) =>
  brr r39.isNone
  (Q false h40)
  (ld [.int .u64, .int .u64, .int .u64, .sl, .int .i64, .sl] a7 h40 fun (v41 : Int) (v42 : Int) (v43 : Int) (v44 : Sl) (v45 : Int) (v46 : Sl) =>
  f24_ v41 v42 v43 v44 v45 v46 r16 i25 h40 fun (r47 : Int) (r48 : Int) (r49 : Int) (r50 : Int) (r51 : Int) (r52 : Int) (r53 : Int) (r54 : Int) (r55 : Int) (r56 : Int) (r57 : Sl) (r58 : Int) (r59 : Int) (r60 : ByteArray) (r61 : ByteArray) (r62 : Int) (r63 : Int) (r64 : Int) (r65 : Int) (r66 : Int) (r67 : Int) (r68 : Int) (r69 : Int) (r70 : Int) (r71 : Int) (r72 : Int) (r73 : Int) (r74 : Int) (r75 : Int) (r76 : Int) (r77 : Int) (r78 : Int) (r79 : Sl) (r80 : Int) (r81 : Int) (r82 : ByteArray) (r83 : ByteArray) (r84 : Int) (r85 : Int) (r86 : Int) (r87 : Int) (r88 : Int) (r89 : Int) (r90 : Int) (r91 : Bool) (r92 : Bool) (r93 : Bool) (h94 : Heap) =>
  al 42 [.int .i64 0, .int .i64 0, .int .i64 0, .int .i64 0, .int .u64 0, .int .u64 0, .int .u64 0, .int .u64 0, .int .i64 0, .int .u64 0, .slice none 0 0, .int .i64 0, .int .u64 0, .string (⟨#[]⟩ : ByteArray), .string (⟨#[]⟩ : ByteArray), .int .u64 0, .int .u64 0, .int .u64 0, .int .i64 0, .int .i64 0, .int .i64 0, .int .i64 0] h94 fun (a95 : Addr) (h96 : Heap) =>
  al 49 [.int .i64 0, .int .i64 0, .int .i64 0, .int .i64 0, .int .u64 0, .int .u64 0, .int .u64 0, .int .u64 0, .int .i64 0, .int .u64 0, .slice none 0 0, .int .i64 0, .int .u64 0, .string (⟨#[]⟩ : ByteArray), .string (⟨#[]⟩ : ByteArray), .int .u64 0, .int .u64 0, .int .u64 0, .int .i64 0, .int .i64 0, .int .i64 0, .int .i64 0, .bool false, .bool false, .bool false] h96 fun (a97 : Addr) (h98 : Heap) =>
  st a95 [.int .i64 r47, .int .i64 r48, .int .i64 r49, .int .i64 r50, .int .u64 r51, .int .u64 r52, .int .u64 r53, .int .u64 r54, .int .i64 r55, .int .u64 r56, .slice r57.ptr r57.len r57.cap, .int .i64 r58, .int .u64 r59, .string r60, .string r61, .int .u64 r62, .int .u64 r63, .int .u64 r64, .int .i64 r65, .int .i64 r66, .int .i64 r67, .int .i64 r68] h98 fun (h99 : Heap) =>
  st a97 [.int .i64 r69, .int .i64 r70, .int .i64 r71, .int .i64 r72, .int .u64 r73, .int .u64 r74, .int .u64 r75, .int .u64 r76, .int .i64 r77, .int .u64 r78, .slice r79.ptr r79.len r79.cap, .int .i64 r80, .int .u64 r81, .string r82, .string r83, .int .u64 r84, .int .u64 r85, .int .u64 r86, .int .i64 r87, .int .i64 r88, .int .i64 r89, .int .i64 r90, .bool r91, .bool r92, .bool r93] h99 fun (h100 : Heap) =>
  ld [.int .u64, .int .u64, .int .u64, .sl, .int .i64, .sl] a7 h100 fun (v101 : Int) (v102 : Int) (v103 : Int) (v104 : Sl) (v105 : Int) (v106 : Sl) =>
  f24_ v101 v102 v103 v104 v105 v106 r39 i25 h100 fun (r107 : Int) (r108 : Int) (r109 : Int) (r110 : Int) (r111 : Int) (r112 : Int) (r113 : Int) (r114 : Int) (r115 : Int) (r116 : Int) (r117 : Sl) (r118 : Int) (r119 : Int) (r120 : ByteArray) (r121 : ByteArray) (r122 : Int) (r123 : Int) (r124 : Int) (r125 : Int) (r126 : Int) (r127 : Int) (r128 : Int) (r129 : Int) (r130 : Int) (r131 : Int) (r132 : Int) (r133 : Int) (r134 : Int) (r135 : Int) (r136 : Int) (r137 : Int) (r138 : Int) (r139 : Sl) (r140 : Int) (r141 : Int) (r142 : ByteArray) (r143 : ByteArray) (r144 : Int) (r145 : Int) (r146 : Int) (r147 : Int) (r148 : Int) (r149 : Int) (r150 : Int) (r151 : Bool) (r152 : Bool) (r153 : Bool) (h154 : Heap) =>
  al 42 [.int .i64 0, .int .i64 0, .int .i64 0, .int .i64 0, .int .u64 0, .int .u64 0, .int .u64 0, .int .u64 0, .int .i64 0, .int .u64 0, .slice none 0 0, .int .i64 0, .int .u64 0, .string (⟨#[]⟩ : ByteArray), .string (⟨#[]⟩ : ByteArray), .int .u64 0, .int .u64 0, .int .u64 0, .int .i64 0, .int .i64 0, .int .i64 0, .int .i64 0] h154 fun (a155 : Addr) (h156 : Heap) =>
  al 49 [.int .i64 0, .int .i64 0, .int .i64 0, .int .i64 0, .int .u64 0, .int .u64 0, .int .u64 0, .int .u64 0, .int .i64 0, .int .u64 0, .slice none 0 0, .int .i64 0, .int .u64 0, .string (⟨#[]⟩ : ByteArray), .string (⟨#[]⟩ : ByteArray), .int .u64 0, .int .u64 0, .int .u64 0, .int .i64 0, .int .i64 0, .int .i64 0, .int .i64 0, .bool false, .bool false, .bool false] h156 fun (a157 : Addr) (h158 : Heap) =>
  st a155 [.int .i64 r107, .int .i64 r108, .int .i64 r109, .int .i64 r110, .int .u64 r111, .int .u64 r112, .int .u64 r113, .int .u64 r114, .int .i64 r115, .int .u64 r116, .slice r117.ptr r117.len r117.cap, .int .i64 r118, .int .u64 r119, .string r120, .string r121, .int .u64 r122, .int .u64 r123, .int .u64 r124, .int .i64 r125, .int .i64 r126, .int .i64 r127, .int .i64 r128] h158 fun (h159 : Heap) =>
  st a157 [.int .i64 r129, .int .i64 r130, .int .i64 r131, .int .i64 r132, .int .u64 r133, .int .u64 r134, .int .u64 r135, .int .u64 r136, .int .i64 r137, .int .u64 r138, .slice r139.ptr r139.len r139.cap, .int .i64 r140, .int .u64 r141, .string r142, .string r143, .int .u64 r144, .int .u64 r145, .int .u64 r146, .int .i64 r147, .int .i64 r148, .int .i64 r149, .int .i64 r150, .bool r151, .bool r152, .bool r153] h159 fun (h160 : Heap) =>
  jn [(104, .one .bool)] (fun (x230 : Bool) (h231 : Heap) =>
  brr x230
  (Q false h231)
  (ld [.int .i64] ((a95.add 0).add 0) h231 fun (v232 : Int) =>
  brr (v232 == 0)
  (j31 h231)
  (f23_ r16 h231 fun (r233 : Int) (r234 : Int) (r235 : Int) (r236 : Sl) (h237 : Heap) =>
  al 44 [.int .u64 0, .int .u64 0, .int .u64 0, .slice none 0 0] h237 fun (a238 : Addr) (h239 : Heap) =>
  st a238 [.int .u64 r233, .int .u64 r234, .int .u64 r235, .slice r236.ptr r236.len r236.cap] h239 fun (h240 : Heap) =>
  ld [.int .i64, .int .i64, .int .i64, .int .i64, .int .u64, .int .u64, .int .u64, .int .u64, .int .i64, .int .u64, .sl, .int .i64, .int .u64, .str, .str, .int .u64, .int .u64, .int .u64, .int .i64, .int .i64, .int .i64, .int .i64] a95 h240 fun (v241 : Int) (v242 : Int) (v243 : Int) (v244 : Int) (v245 : Int) (v246 : Int) (v247 : Int) (v248 : Int) (v249 : Int) (v250 : Int) (v251 : Sl) (v252 : Int) (v253 : Int) (v254 : ByteArray) (v255 : ByteArray) (v256 : Int) (v257 : Int) (v258 : Int) (v259 : Int) (v260 : Int) (v261 : Int) (v262 : Int) =>
  f12_ v241 v242 v243 v244 v245 v246 v247 v248 v249 v250 v251 v252 v253 v254 v255 v256 v257 v258 v259 v260 v261 v262 h240 fun (r263 : Int) (r264 : Int) (r265 : Int) (r266 : Int) (r267 : Int) (r268 : Int) (r269 : Int) (r270 : Int) (r271 : Int) (r272 : Int) (r273 : Sl) (r274 : Int) (r275 : Int) (r276 : ByteArray) (r277 : ByteArray) (r278 : Int) (r279 : Int) (r280 : Int) (r281 : Int) (r282 : Int) (r283 : Int) (r284 : Int) (h285 : Heap) =>
  f13_ r16 r263 r264 r265 r266 r267 r268 r269 r270 r271 r272 r273 r274 r275 r276 r277 r278 r279 r280 r281 r282 r283 r284 h285 fun (r286 : Int) (r287 : Int) (r288 : Int) (r289 : Int) (r290 : Int) (r291 : Int) (r292 : Int) (r293 : Int) (r294 : Int) (r295 : Int) (r296 : Sl) (r297 : Int) (r298 : Int) (r299 : ByteArray) (r300 : ByteArray) (r301 : Int) (r302 : Int) (r303 : Int) (r304 : Int) (r305 : Int) (r306 : Int) (r307 : Int) (r308 : Bool) (r309 : Bool) (r310 : Bool) (h311 : Heap) =>
  st a97 [.int .i64 r286, .int .i64 r287, .int .i64 r288, .int .i64 r289, .int .u64 r290, .int .u64 r291, .int .u64 r292, .int .u64 r293, .int .i64 r294, .int .u64 r295, .slice r296.ptr r296.len r296.cap, .int .i64 r297, .int .u64 r298, .string r299, .string r300, .int .u64 r301, .int .u64 r302, .int .u64 r303, .int .i64 r304, .int .i64 r305, .int .i64 r306, .int .i64 r307, .bool r308, .bool r309, .bool r310] h311 fun (h312 : Heap) =>
  jn [(138, .one .bool)] (fun (x374 : Bool) (h375 : Heap) =>
  brr x374
  (Q false h375)
  (j31 h375)) (fun (j313 : Bool → Heap → Prop) =>
  ld [.int .i64, .int .i64, .int .i64, .int .i64, .int .u64, .int .u64, .int .u64, .int .u64, .int .i64, .int .u64, .sl, .int .i64, .int .u64, .str, .str, .int .u64, .int .u64, .int .u64, .int .i64, .int .i64, .int .i64, .int .i64] (a97.add 0) h312 fun (v314 : Int) (v315 : Int) (v316 : Int) (v317 : Int) (v318 : Int) (v319 : Int) (v320 : Int) (v321 : Int) (v322 : Int) (v323 : Int) (v324 : Sl) (v325 : Int) (v326 : Int) (v327 : ByteArray) (v328 : ByteArray) (v329 : Int) (v330 : Int) (v331 : Int) (v332 : Int) (v333 : Int) (v334 : Int) (v335 : Int) =>
  ld [.int .i64, .int .i64, .int .i64, .int .i64, .int .u64, .int .u64, .int .u64, .int .u64, .int .i64, .int .u64, .sl, .int .i64, .int .u64, .str, .str, .int .u64, .int .u64, .int .u64, .int .i64, .int .i64, .int .i64, .int .i64] (a157.add 0) h312 fun (v336 : Int) (v337 : Int) (v338 : Int) (v339 : Int) (v340 : Int) (v341 : Int) (v342 : Int) (v343 : Int) (v344 : Int) (v345 : Int) (v346 : Sl) (v347 : Int) (v348 : Int) (v349 : ByteArray) (v350 : ByteArray) (v351 : Int) (v352 : Int) (v353 : Int) (v354 : Int) (v355 : Int) (v356 : Int) (v357 : Int) =>
  f29_ v314 v315 v316 v317 v318 v319 v320 v321 v322 v323 v324 v325 v326 v327 v328 v329 v330 v331 v332 v333 v334 v335 v336 v337 v338 v339 v340 v341 v342 v343 v344 v345 v346 v347 v348 v349 v350 v351 v352 v353 v354 v355 v356 v357 h312 fun (r358 : Bool) (h359 : Heap) =>
  brr (!r358)
  (j313 true h359)
  (ld [.bool] (a97.add 23) h359 fun (v360 : Bool) =>
  ld [.bool] (a157.add 23) h359 fun (v361 : Bool) =>
  brr (!(v360 == v361))
  (j313 true h359)
  (ld [.bool] (a97.add 24) h359 fun (v362 : Bool) =>
  brr v362
  (j313 true h359)
  (ld [.int .u64, .int .u64, .int .u64, .sl] a238 h359 fun (v363 : Int) (v364 : Int) (v365 : Int) (v366 : Sl) =>
  f23_ r16 h359 fun (r367 : Int) (r368 : Int) (r369 : Int) (r370 : Sl) (h371 : Heap) =>
  cellsAre h371 a238 [.int .u64 v363, .int .u64 v364, .int .u64 v365, .slice v366.ptr v366.len v366.cap] ∧
  f26_ r367 r368 r369 r370 v363 v364 v365 v366 h371 fun (r372 : Bool) (h373 : Heap) =>
  j313 (!r372) h373))))))) (fun (j161 : Bool → Heap → Prop) =>
  ld [.int .i64, .int .i64, .int .i64, .int .i64, .int .u64, .int .u64, .int .u64, .int .u64, .int .i64, .int .u64, .sl, .int .i64, .int .u64, .str, .str, .int .u64, .int .u64, .int .u64, .int .i64, .int .i64, .int .i64, .int .i64] (a97.add 0) h160 fun (v162 : Int) (v163 : Int) (v164 : Int) (v165 : Int) (v166 : Int) (v167 : Int) (v168 : Int) (v169 : Int) (v170 : Int) (v171 : Int) (v172 : Sl) (v173 : Int) (v174 : Int) (v175 : ByteArray) (v176 : ByteArray) (v177 : Int) (v178 : Int) (v179 : Int) (v180 : Int) (v181 : Int) (v182 : Int) (v183 : Int) =>
  ld [.int .i64, .int .i64, .int .i64, .int .i64, .int .u64, .int .u64, .int .u64, .int .u64, .int .i64, .int .u64, .sl, .int .i64, .int .u64, .str, .str, .int .u64, .int .u64, .int .u64, .int .i64, .int .i64, .int .i64, .int .i64] (a157.add 0) h160 fun (v184 : Int) (v185 : Int) (v186 : Int) (v187 : Int) (v188 : Int) (v189 : Int) (v190 : Int) (v191 : Int) (v192 : Int) (v193 : Int) (v194 : Sl) (v195 : Int) (v196 : Int) (v197 : ByteArray) (v198 : ByteArray) (v199 : Int) (v200 : Int) (v201 : Int) (v202 : Int) (v203 : Int) (v204 : Int) (v205 : Int) =>
  f29_ v162 v163 v164 v165 v166 v167 v168 v169 v170 v171 v172 v173 v174 v175 v176 v177 v178 v179 v180 v181 v182 v183 v184 v185 v186 v187 v188 v189 v190 v191 v192 v193 v194 v195 v196 v197 v198 v199 v200 v201 v202 v203 v204 v205 h160 fun (r206 : Bool) (h207 : Heap) =>
  brr (!r206)
  (j161 true h207)
  (ld [.bool] (a97.add 22) h207 fun (v208 : Bool) =>
  ld [.bool] (a157.add 22) h207 fun (v209 : Bool) =>
  brr (!(v208 == v209))
  (j161 true h207)
  (ld [.bool] (a97.add 23) h207 fun (v210 : Bool) =>
  ld [.bool] (a157.add 23) h207 fun (v211 : Bool) =>
  brr (!(v210 == v211))
  (j161 true h207)
  (ld [.bool] (a97.add 24) h207 fun (v212 : Bool) =>
  ld [.bool] (a157.add 24) h207 fun (v213 : Bool) =>
  brr (!(v212 == v213))
  (j161 true h207)
  (f23_ r16 h207 fun (r214 : Int) (r215 : Int) (r216 : Int) (r217 : Sl) (h218 : Heap) =>
  f23_ r39 h218 fun (r219 : Int) (r220 : Int) (r221 : Int) (r222 : Sl) (h223 : Heap) =>
  f26_ r214 r215 r216 r217 r219 r220 r221 r222 h223 fun (r224 : Bool) (h225 : Heap) =>
  brr (!r224)
  (j161 true h225)
  (f28_ r16 h225 fun (r226 : Int) (h227 : Heap) =>
  f28_ r39 h227 fun (r228 : Int) (h229 : Heap) =>
  j161 (r226 != r228) h229)))))))))
  (j23 h30)) (fun (j27 : Bool → Heap → Prop) =>
  ld [.sl] (a7.add 5) h26 fun (v28 : Sl) =>
  brr (decide (i25 < ((v28.len : Nat) : Int)))
  (j27 (decide (i25 < 500)) h26)
  (j27 false h26)))
def F_law9_ReplicaTwice_of (f12_ : Int → Int → Int → Int → Int → Int → Int → Int → Int → Int → Sl → Int → Int → ByteArray → ByteArray → Int → Int → Int → Int → Int → Int → Int → Heap → (Int → Int → Int → Int → Int → Int → Int → Int → Int → Int → Sl → Int → Int → ByteArray → ByteArray → Int → Int → Int → Int → Int → Int → Int → Heap → Prop) → Prop) (f13_ : Option Addr → Int → Int → Int → Int → Int → Int → Int → Int → Int → Int → Sl → Int → Int → ByteArray → ByteArray → Int → Int → Int → Int → Int → Int → Int → Heap → (Int → Int → Int → Int → Int → Int → Int → Int → Int → Int → Sl → Int → Int → ByteArray → ByteArray → Int → Int → Int → Int → Int → Int → Int → Bool → Bool → Bool → Heap → Prop) → Prop) (f18_ : Heap → (Bool → Heap → Prop) → Prop) (f21_ : Int → Int → Int → Sl → Int → Heap → (Option Addr → Heap → Prop) → Prop) (f22_ : Sl → Heap → (Sl → Heap → Prop) → Prop) (f23_ : Option Addr → Heap → (Int → Int → Int → Sl → Heap → Prop) → Prop) (f24_ : Int → Int → Int → Sl → Int → Sl → Option Addr → Int → Heap → (Int → Int → Int → Int → Int → Int → Int → Int → Int → Int → Sl → Int → Int → ByteArray → ByteArray → Int → Int → Int → Int → Int → Int → Int → Int → Int → Int → Int → Int → Int → Int → Int → Int → Int → Sl → Int → Int → ByteArray → ByteArray → Int → Int → Int → Int → Int → Int → Int → Bool → Bool → Bool → Heap → Prop) → Prop) (f26_ : Int → Int → Int → Sl → Int → Int → Int → Sl → Heap → (Bool → Heap → Prop) → Prop) (f28_ : Option Addr → Heap → (Int → Heap → Prop) → Prop) (f29_ : Int → Int → Int → Int → Int → Int → Int → Int → Int → Int → Sl → Int → Int → ByteArray → ByteArray → Int → Int → Int → Int → Int → Int → Int → Int → Int → Int → Int → Int → Int → Int → Int → Int → Int → Sl → Int → Int → ByteArray → ByteArray → Int → Int → Int → Int → Int → Int → Int → Heap → (Bool → Heap → Prop) → Prop) (l1 : Int) (l2 : Int) (l3 : Int) (l4 : Sl) (l5 : Int) (l6 : Sl) (h : Heap) (Q : Bool → Heap → Prop) : Prop :=
  al 63 [.int .u64 l1, .int .u64 l2, .int .u64 l3, .slice l4.ptr l4.len l4.cap, .int .i64 l5, .slice l6.ptr l6.len l6.cap] h fun (a7 : Addr) (h8 : Heap) =>
  ld [.int .u64] ((a7.add 0).add 0) h8 fun (v9 : Int) =>
  ld [.int .u64, .int .u64] ((a7.add 0).add 1) h8 fun (v10 : Int) (v11 : Int) =>
  ld [.sl] ((a7.add 0).add 3) h8 fun (v12 : Sl) =>
  ld [.int .i64] (a7.add 4) h8 fun (v13 : Int) =>
  f22_ v12 h8 fun (r14 : Sl) (h15 : Heap) =>
  cellsAre h15 ((a7.add 0).add 0) [.int .u64 v9] ∧
  cellsAre h15 ((a7.add 0).add 1) [.int .u64 v10, .int .u64 v11] ∧
  cellsAre h15 (a7.add 4) [.int .i64 v13] ∧
  f21_ v9 v10 v11 r14 v13 h15 fun (r16 : Option Addr) (h17 : Heap) =>
  jn [(30, .one .bool)] (fun (x21 : Bool) (h22 : Heap) =>
  brr x21
  (Q false h22)
  (jn [] (fun  (h377 : Heap) =>
  Q true h377) (fun (j23 : Heap → Prop) =>
  F_law9_ReplicaTwice.l1 f12_ f13_ f21_ f23_ f24_ f26_ f28_ f29_ Q a7 r16 j23 0 h22))) (fun (j18 : Bool → Heap → Prop) =>
  brr r16.isNone
  (j18 true h17)
  (f18_ h17 fun (r19 : Bool) (h20 : Heap) =>
  j18 (!r19) h20))
def F_law9_ReplicaTwice (l1 : Int) (l2 : Int) (l3 : Int) (l4 : Sl) (l5 : Int) (l6 : Sl) (h : Heap) (Q : Bool → Heap → Prop) : Prop := F_law9_ReplicaTwice_of F_ref0_CopyMsg F_replica_Replica_Hear F_law9_lives F_replica_Load F_ref0_Copy F_replica_Replica_Stored F_law9_Life_at F_ref0_EqStored F_replica_Replica_Wait F_ref0_EqMsg l1 l2 l3 l4 l5 l6 h Q
def plan8 : Plan := .s (.r [1]) (.s (.d [0, 1, 3, 0, 8, 24, 0, 64, 192, 448, 1023, 0, 2048, 8191, 16383] [[0, 1, 2, 3, 4, 5, 6, 7, 8, 11, 12, 9, 10, 13, 14]] [1, 3]) (.s (.s (.rj [(30, .one .bool)] [1, 3]) (.c (.s (.r [2]) .z) .z)) (.s (.s (.r [1, 3, 4]) (.bj [] [] (.l [(4, .one (.int .i64))] [1, 3] (.s (.s (.rj [(39, .one .bool)] [1, 3, 4]) (.c .z .z)) (.s (.bj [] [1, 3, 4] (.s (.r [1, 3, 4, 5]) (.s (.s (.r [1, 3, 4, 5, 48]) (.c (.s (.r [2]) .z) .z)) (.s (.r [1, 3, 4, 5, 6, 7]) (.s (.r [1, 3, 4, 5, 6, 7, 9]) (.s (.s (.rj [(104, .one .bool)] [1, 3, 4, 6, 7, 9]) (.c (.s (.r [2]) .z) .z)) (.s (.s (.r [1, 3, 4, 6, 7, 9, 108]) (.c .z .z)) (.s (.r [1, 3, 4, 6, 7, 9, 10]) (.s (.r [1, 3, 4, 7, 9, 10]) (.s (.dj [0, 1, 0, 4, 15, 31, 63, 127, 255, 127, 639, 2047, 4095, 8191, 16383, 32767, 65535, 131071, 262143, 524287, 262143, 2097151, 4194303, 8388607] [[0, 1, 2, 3, 4, 5, 6, 7, 8, 9, 10, 11, 12, 13, 14, 15, 16, 17, 18, 20, 19, 21, 22, 23]] [(138, .one .bool)] [1, 3, 4]) (.c (.s (.r [2]) .z) .z))))))))))) (.r [1, 3, 4])))))) (.s (.r [2]) .z))))
theorem F_law9_ReplicaTwice.eq (f12_ : Int → Int → Int → Int → Int → Int → Int → Int → Int → Int → Sl → Int → Int → ByteArray → ByteArray → Int → Int → Int → Int → Int → Int → Int → Heap → (Int → Int → Int → Int → Int → Int → Int → Int → Int → Int → Sl → Int → Int → ByteArray → ByteArray → Int → Int → Int → Int → Int → Int → Int → Heap → Prop) → Prop) (f13_ : Option Addr → Int → Int → Int → Int → Int → Int → Int → Int → Int → Int → Sl → Int → Int → ByteArray → ByteArray → Int → Int → Int → Int → Int → Int → Int → Heap → (Int → Int → Int → Int → Int → Int → Int → Int → Int → Int → Sl → Int → Int → ByteArray → ByteArray → Int → Int → Int → Int → Int → Int → Int → Bool → Bool → Bool → Heap → Prop) → Prop) (f18_ : Heap → (Bool → Heap → Prop) → Prop) (f21_ : Int → Int → Int → Sl → Int → Heap → (Option Addr → Heap → Prop) → Prop) (f22_ : Sl → Heap → (Sl → Heap → Prop) → Prop) (f23_ : Option Addr → Heap → (Int → Int → Int → Sl → Heap → Prop) → Prop) (f24_ : Int → Int → Int → Sl → Int → Sl → Option Addr → Int → Heap → (Int → Int → Int → Int → Int → Int → Int → Int → Int → Int → Sl → Int → Int → ByteArray → ByteArray → Int → Int → Int → Int → Int → Int → Int → Int → Int → Int → Int → Int → Int → Int → Int → Int → Int → Sl → Int → Int → ByteArray → ByteArray → Int → Int → Int → Int → Int → Int → Int → Bool → Bool → Bool → Heap → Prop) → Prop) (f26_ : Int → Int → Int → Sl → Int → Int → Int → Sl → Heap → (Bool → Heap → Prop) → Prop) (f28_ : Option Addr → Heap → (Int → Heap → Prop) → Prop) (f29_ : Int → Int → Int → Int → Int → Int → Int → Int → Int → Int → Sl → Int → Int → ByteArray → ByteArray → Int → Int → Int → Int → Int → Int → Int → Int → Int → Int → Int → Int → Int → Int → Int → Int → Int → Sl → Int → Int → ByteArray → ByteArray → Int → Int → Int → Int → Int → Int → Int → Heap → (Bool → Heap → Prop) → Prop) (l1 : Int) (l2 : Int) (l3 : Int) (l4 : Sl) (l5 : Int) (l6 : Sl) (h : Heap) (K : Value → Heap → Prop) : F_law9_ReplicaTwice_of f12_ f13_ f18_ f21_ f22_ f23_ f24_ f26_ f28_ f29_ l1 l2 l3 l4 l5 l6 h (fun (r0 : Bool) (h : Heap) => K (.bool r0) h) =
    den Try.prog (fn1 12 (E_ref0_CopyMsg_of f12_) (fn1 13 (E_replica_Replica_Hear_of f13_) (fn1 18 (E_law9_lives_of f18_) (fn1 21 (E_replica_Load_of f21_) (fn1 22 (E_ref0_Copy_of f22_) (fn1 23 (E_replica_Replica_Stored_of f23_) (fn1 24 (E_law9_Life_at_of f24_) (fn1 26 (E_ref0_EqStored_of f26_) (fn1 28 (E_replica_Replica_Wait_of f28_) (fn1 29 (E_ref0_EqMsg_of f29_) noFns)))))))))) Try.f8.ntmps plan8 (bodyOf Try.f8) (args0 0 [(.agg #[.int .u64 l1, .int .u64 l2, .int .u64 l3, .slice l4.ptr l4.len l4.cap, .int .i64 l5, .slice l6.ptr l6.len l6.cap] : Value)]) h ⟨fun env h => dRes Try.prog Try.f8.results.toList env h K, fun _ _ _ => False, fun env h => dRes Try.prog Try.f8.results.toList env h K⟩ := by kernel_rfl
def E_law9_ReplicaTwice_of (f : Int → Int → Int → Sl → Int → Sl → Heap → (Bool → Heap → Prop) → Prop) : List Value → Heap → (Value → Heap → Prop) → Prop
  | [v0], h, K => vAgg v0 fun cs0 => decs [.int .u64, .int .u64, .int .u64, .sl, .int .i64, .sl] cs0.toList fun (l1 : Int) (l2 : Int) (l3 : Int) (l4 : Sl) (l5 : Int) (l6 : Sl) =>
  f l1 l2 l3 l4 l5 l6 h (fun (r0 : Bool) (h : Heap) => K (.bool r0) h)
  | _, _, _ => False
abbrev E_law9_ReplicaTwice := E_law9_ReplicaTwice_of F_law9_ReplicaTwice
theorem E_law9_ReplicaTwice.at (f : Int → Int → Int → Sl → Int → Sl → Heap → (Bool → Heap → Prop) → Prop) (l1 : Int) (l2 : Int) (l3 : Int) (l4 : Sl) (l5 : Int) (l6 : Sl) (h : Heap) (K : Value → Heap → Prop) : E_law9_ReplicaTwice_of f [.agg ([.int .u64 l1, .int .u64 l2, .int .u64 l3, .slice l4.ptr l4.len l4.cap, .int .i64 l5, .slice l6.ptr l6.len l6.cap] : List Value).toArray] h K = f l1 l2 l3 l4 l5 l6 h (fun (r0 : Bool) (h : Heap) => K (.bool r0) h) := rfl
theorem E_law9_ReplicaTwice.right : IsRight Try.prog 8 E_law9_ReplicaTwice := by
  refine isRight fun vs K w hh => ?_
  match vs, hh with
  | [v0], hh =>
    unfold E_law9_ReplicaTwice E_law9_ReplicaTwice_of at hh
    replace hh := vAgg_sound hh; obtain ⟨cs0, rfl, hh⟩ := hh
    replace hh := decs_cons hh; obtain ⟨l1, l0_0, e0_0, hh⟩ := hh
    replace hh := decs_cons hh; obtain ⟨l2, l0_1, e0_1, hh⟩ := hh
    replace hh := decs_cons hh; obtain ⟨l3, l0_2, e0_2, hh⟩ := hh
    replace hh := decs_cons hh; obtain ⟨l4, l0_3, e0_3, hh⟩ := hh
    replace hh := decs_cons hh; obtain ⟨l5, l0_4, e0_4, hh⟩ := hh
    replace hh := decs_cons hh; obtain ⟨l6, l0_5, e0_5, hh⟩ := hh
    replace hh := decs_nil hh; obtain ⟨rfl, hh⟩ := hh
    subst e0_5
    subst e0_4
    subst e0_3
    subst e0_2
    subst e0_1
    have ec0 := toArray_eq e0_0
    subst ec0
    unfold F_law9_ReplicaTwice at hh
    exact calls_den (fn1_right ok12 E_ref0_CopyMsg.right (fn1_right ok13 E_replica_Replica_Hear.right (fn1_right ok18 E_law9_lives.right (fn1_right ok21 E_replica_Load.right (fn1_right ok22 E_ref0_Copy.right (fn1_right ok23 E_replica_Replica_Stored.right (fn1_right ok24 E_law9_Life_at.right (fn1_right ok26 E_ref0_EqStored.right (fn1_right ok28 E_replica_Replica_Wait.right (fn1_right ok29 E_ref0_EqMsg.right noFns_right)))))))))) plan8 _ w K Try.func8 (by kernel_rfl) (by kernel_rfl) (Eq.mp (F_law9_ReplicaTwice.eq F_ref0_CopyMsg F_replica_Replica_Hear F_law9_lives F_replica_Load F_ref0_Copy F_replica_Replica_Stored F_law9_Life_at F_ref0_EqStored F_replica_Replica_Wait F_ref0_EqMsg l1 l2 l3 l4 l5 l6 w.heap K) hh)
theorem ok8 : okFn Try.prog 8 = true := by kernel_rfl
end Go.Proofs.Ytcbelendjpnmiaa.V
/- What a replica hears twice; one that is loaded with what is stored: what ReplicaTwice plays. -/
namespace Go.Proofs.Ytcbelendjpnmiaa.V
open Go Go.RowKit
set_option linter.unusedVariables false
set_option linter.unusedSimpArgs false
def hdC (d : HD) (s : Sl) : List Value := [.int .i64 d.kind, .int .i64 d.frm, .int .i64 d.to, .int .i64 d.shard, .int .u64 d.epoch, .int .u64 d.te, .int .u64 d.ts, .int .u64 d.round, .int .i64 0, .int .u64 d.seen, .slice s.ptr s.len s.cap, .int .i64 0, .int .u64 0, .string (⟨#[]⟩ : ByteArray), .string (⟨#[]⟩ : ByteArray), .int .u64 0, .int .u64 0, .int .u64 0, .int .i64 0, .int .i64 0, .int .i64 0, .int .i64 0, .bool d.ans, .bool d.tak, .bool d.chg]
def hdM (d : HD) (s : Sl) : Mg := ⟨d.kind, d.frm, d.to, d.shard, d.epoch, d.te, d.ts, d.round, 0, d.seen, s, 0, 0, ⟨#[]⟩, ⟨#[]⟩, 0, 0, 0, 0, 0, 0, 0, d.val⟩
theorem act_val {r : RS} {m : Mg} : (act r m).2.val = r.val ∨ (act r m).2.val = [] := by
  unfold act
  split
  · unfold prep; split
    · exact .inr rfl
    · exact .inl rfl
  split
  · unfold writ; split
    · exact .inr rfl
    split
    · exact .inr rfl
    split
    · exact .inr rfl
    · exact .inr rfl
  split
  · unfold beats; split
    · exact .inr rfl
    · exact .inr rfl
  · exact .inr rfl
theorem seal_val {d : HD} {m : Mg} : (d.seal m).val = d.val := by unfold HD.seal; split <;> rfl
theorem hearS_val {r : RS} {m : Mg} (ok : r.Ok) : (hearS r m).2.val.length ≤ (140737488355325 : Nat) := by
  show ((act r m).2.seal m).val.length ≤ _
  rw [seal_val]
  rcases act_val (r := r) (m := m) with h | h <;> rw [h]
  · exact ok.v
  · simp
theorem lifeD_val {r : RS} {o : ROp} (ok : r.Ok) : (lifeD r o).val.length ≤ (140737488355325 : Nat) := by
  unfold lifeD
  split
  · exact hearS_val ok
  · simp [hd0]
theorem bne_refl_int (e : Int) : (e != e) = false := by simp
theorem act_twice (r : RS) (m : Mg) : act (act r m).1 m = ((act r m).1, { (act r m).2 with chg := false }) := by
  unfold act
  by_cases h1 : m.kind = 1
  · simp only [if_pos h1]
    unfold prep
    by_cases hc : m.epoch < r.prom ∨ (r.prom < m.epoch ∧ 0 < r.wait)
    · simp only [if_pos hc]; rfl
    · simp only [if_neg hc]
      rw [if_neg (by show ¬ (m.epoch < m.epoch ∨ (m.epoch < m.epoch ∧ 0 < r.wait)); omega)]
      simp
  by_cases h4 : m.kind = 4
  · simp only [if_neg h1, if_pos h4]
    unfold writ
    by_cases hc : m.te < r.prom
    · simp only [if_pos hc]; rfl
    · simp only [if_neg hc]
      by_cases hl : tagLt m.te m.ts r.te r.ts
      · simp only [if_pos hl]
        rw [if_neg (by show ¬ m.te < m.te; omega), if_pos (show tagLt m.te m.ts (r.take_ m.te m.span).te (r.take_ m.te m.span).ts from hl)]
        simp [RS.take_]
      · simp only [if_neg hl]
        have hs : ¬ tagLt m.te m.ts m.te m.ts := by unfold tagLt; omega
        by_cases hg : tagLt r.te r.ts m.te m.ts
        · simp only [if_pos hg]
          rw [if_neg (by show ¬ m.te < m.te; omega), if_neg hs, if_neg hs]
          simp [RS.take_]
        · simp only [if_neg hg]
          rw [if_neg (by show ¬ m.te < m.te; omega), if_neg (show ¬ tagLt m.te m.ts (r.take_ m.te m.span).te (r.take_ m.te m.span).ts from hl), if_neg (show ¬ tagLt (r.take_ m.te m.span).te (r.take_ m.te m.span).ts m.te m.ts from hg)]
          simp [RS.take_]
  by_cases h6 : m.kind = 6
  · simp only [if_neg h1, if_neg h4, if_pos h6]
    unfold beats
    by_cases hc : m.epoch < r.prom
    · simp only [if_pos hc]; rfl
    · simp only [if_neg hc]
      rw [if_neg (by show ¬ m.epoch < m.epoch; omega)]
      simp [RS.take_]
  · simp only [if_neg h1, if_neg h4, if_neg h6]; rfl
theorem hear_twice (r : RS) (m : Mg) : hearS (hearS r m).1 m = ((hearS r m).1, { (hearS r m).2 with chg := false }) := by
  have h := act_twice r m
  unfold hearS
  dsimp only
  rw [h]
  unfold HD.seal
  by_cases hk : (act r m).2.kind = 0
  · simp only [if_pos hk]
  · simp only [if_neg hk]
theorem replicaTwice_main (H : Heap) (cs : List Value) (F : Fit H 140737488351232 tyLife cs) : E_law9_ReplicaTwice [.agg cs.toArray] H (fun r h' => r = .bool true ∧ KeptH H h') := by
  replace F := Fit.g F
  obtain ⟨t1, _, rfl, t1a, t1b, F⟩ := Fit.i F
  replace F := Fit.g F
  replace F := Fit.g F
  obtain ⟨t2, _, rfl, t2a, t2b, F⟩ := Fit.i F
  replace F := Fit.g F
  obtain ⟨t3, _, rfl, t3a, t3b, F⟩ := Fit.i F
  replace F := Fit.z F
  replace F := Fit.g F
  obtain ⟨t4, _, rfl, t4S, F⟩ := Fit.s F
  replace F := Fit.z F
  obtain ⟨t5, _, rfl, t5a, t5b, F⟩ := Fit.i F
  obtain ⟨t6, _, rfl, t6S, F⟩ := Fit.s F
  obtain rfl := Fit.e F
  refine Eq.mpr (E_law9_ReplicaTwice.at F_law9_ReplicaTwice t1 t2 t3 t4 t5 t6 H _) ?_
  obtain ⟨ops, Vo⟩ := t6S.rops
  obtain ⟨_, b2, lv, Vl⟩ := t4S.bytes
  have hlv := Vl.len
  rw [i64_max] at t5b
  rw [F_law9_ReplicaTwice.eq_1, F_law9_ReplicaTwice_of.eq_1]
  refine Sat.al (Sat.nil H) fun x7 h1 O => ?_
  repeat (first
    | (with_reducible refine al_id ?_); refine O.al fun _ h O => ?_
    | (with_reducible refine nn_id ?_); refine ⟨_, rfl, ?_⟩
    | (with_reducible refine ld_id ?_); (first | refine O.ld 0 rfl ?_); (repeat (first | (with_reducible refine ldL_n ?_) | refine ldL_s ?_ | refine ldL_c ?_))
    | (with_reducible refine st_ad (by first | (with_reducible rfl) | (simp only [pt_add, Nat.zero_add, Nat.add_zero, Nat.reduceAdd]; with_reducible rfl)) ?_); (first | refine O.st 0 rfl (by simp) rfl fun h O => ?_); (dsimp only [V.put, List.set, List.length_cons, List.length_nil] at O)
    | (with_reducible refine ca_id ?_); (first | refine ⟨cellsAre_blk (O.blk (i := 0) (by simp) rfl).2 _ 1, ?_⟩ | refine ⟨cellsAre_blk (O.blk (i := 0) (by simp) rfl).2 _ 2, ?_⟩))
  refine F_ref0_Copy.is O (Vl.kept O.kept) (by omega) fun s h O _ _ => ?_
  repeat (first
    | (with_reducible refine al_id ?_); refine O.al fun _ h O => ?_
    | (with_reducible refine nn_id ?_); refine ⟨_, rfl, ?_⟩
    | (with_reducible refine ld_id ?_); (first | refine O.ld 0 rfl ?_ | refine O.ld 1 rfl ?_); (repeat (first | (with_reducible refine ldL_n ?_) | refine ldL_s ?_ | refine ldL_c ?_))
    | (with_reducible refine st_ad (by first | (with_reducible rfl) | (simp only [pt_add, Nat.zero_add, Nat.add_zero, Nat.reduceAdd]; with_reducible rfl)) ?_); (first | refine O.st 0 rfl (by simp) rfl fun h O => ?_ | refine O.st 1 rfl (by simp) rfl fun h O => ?_); (dsimp only [V.put, List.set, List.length_cons, List.length_nil] at O)
    | (with_reducible refine ca_id ?_); (first | refine ⟨cellsAre_blk (O.blk (i := 0) (by simp) rfl).2 _ 1, ?_⟩ | refine ⟨cellsAre_blk (O.blk (i := 0) (by simp) rfl).2 _ 2, ?_⟩ | refine ⟨cellsAre_blk (O.blk (i := 1) (by simp) rfl).2 _ 1, ?_⟩ | refine ⟨cellsAre_blk (O.blk (i := 1) (by simp) rfl).2 _ 2, ?_⟩))
  refine F_replica_Load.is O (fun h O => (O.view 0 u8_len (by simp) rfl).1) (by omega) fun p h O => ?_
  have O := O.sel [0, 2] 3 rfl (Nat.le_add_left _ _)
  have start : ∃ r : RS, r.Ok ∧ Sat H h [repR p r, own x7 [.int .u64 t1, .int .u64 t2, .int .u64 t3, .slice t4.ptr t4.len t4.cap, .int .i64 t5, .slice t6.ptr t6.len t6.cap]] :=
    ⟨_, ⟨by show lv.length ≤ _; omega, (spanOf_ok t5b).1, (spanOf_ok t5b).2⟩, O⟩
  clear O
  obtain ⟨r, ok, O⟩ := start
  refine jn1 (fun z h' => z = false ∧ Sat H h' [repR p r, own x7 [.int .u64 t1, .int .u64 t2, .int .u64 t3, .slice t4.ptr t4.len t4.cap, .int .i64 t5, .slice t6.ptr t6.len t6.cap]]) ?_ ?_
  case refine_2 =>
    intro j hj
    refine brr_ff rfl ?_
    refine F_law9_lives.is O fun h O => ?_
    exact hj _ _ ⟨rfl, O⟩
  clear O
  rintro z h ⟨rfl, O⟩
  refine brr_ff rfl ?_
  refine jn0 (fun h' => KeptH H h') (fun h hk => ⟨rfl, hk⟩) fun j23 hj23 => ?_
  rw [F_law9_ReplicaTwice.l1.eq_1]
  refine wl1 (k := .int .i64) (fun (m : Nat) (i : Int) (h' : Heap) => i + m = ops.length ∧ 0 ≤ i ∧ i ≤ 500 ∧ ∃ r : RS, r.Ok ∧ Sat H h' [repR p r, own x7 [.int .u64 t1, .int .u64 t2, .int .u64 t3, .slice t4.ptr t4.len t4.cap, .int .i64 t5, .slice t6.ptr t6.len t6.cap]]) ?_ (m := ops.length) ⟨by omega, by omega, by omega, r, ok, O⟩
  clear O ok r
  rintro m (i : Int) h next hn ⟨hi, hi0, hi5, r, ok, O⟩
  refine jn1 (fun t h' => h' = h ∧ t = decide (i < ops.length ∧ i < 500)) ?_ ?_
  case refine_2 =>
    intro j2 hj2
    repeat (first
      | (with_reducible refine al_id ?_); refine O.al fun _ h O => ?_
      | (with_reducible refine nn_id ?_); refine ⟨_, rfl, ?_⟩
      | (with_reducible refine ld_id ?_); (first | refine O.ld 0 rfl ?_ | refine O.ld 1 rfl ?_); (repeat (first | (with_reducible refine ldL_n ?_) | refine ldL_s ?_ | refine ldL_c ?_))
      | (with_reducible refine st_ad (by first | (with_reducible rfl) | (simp only [pt_add, Nat.zero_add, Nat.add_zero, Nat.reduceAdd]; with_reducible rfl)) ?_); (first | refine O.st 0 rfl (by simp) rfl fun h O => ?_ | refine O.st 1 rfl (by simp) rfl fun h O => ?_); (dsimp only [V.put, List.set, List.length_cons, List.length_nil] at O)
      | (with_reducible refine ca_id ?_); (first | refine ⟨cellsAre_blk (O.blk (i := 0) (by simp) rfl).2 _ 1, ?_⟩ | refine ⟨cellsAre_blk (O.blk (i := 0) (by simp) rfl).2 _ 2, ?_⟩ | refine ⟨cellsAre_blk (O.blk (i := 1) (by simp) rfl).2 _ 1, ?_⟩ | refine ⟨cellsAre_blk (O.blk (i := 1) (by simp) rfl).2 _ 2, ?_⟩))
    rw [Vo.len]
    refine brr_p (fun hlt => ?_) (fun hlt => ?_)
    · exact hj2 _ _ ⟨rfl, by simp [hlt]⟩
    · exact hj2 _ _ ⟨rfl, by simp; intro h; omega⟩
  rintro t h ⟨rfl, rfl⟩
  refine brr_p (fun ht => ?_) (fun ht => hj23 _ O.kept)
  obtain ⟨hlt, hlt5⟩ := ht
  refine jn0 (fun h' => ∃ r : RS, r.Ok ∧ Sat H h' [repR p r, own x7 [.int .u64 t1, .int .u64 t2, .int .u64 t3, .slice t4.ptr t4.len t4.cap, .int .i64 t5, .slice t6.ptr t6.len t6.cap]]) ?_ ?_
  · clear O ok r
    rintro h ⟨r, ok, O⟩
    rw [wrap64 (by omega) (by omega)]
    exact hn (m - 1) _ _ (by omega) ⟨by omega, by omega, by omega, r, ok, O⟩
  clear hn
  intro j31 hj31
  obtain ⟨o, ho⟩ : ∃ o, ops[i.toNat]? = some o := ⟨_, List.getElem?_eq_getElem (by omega)⟩
  have oo : o.Ok H := by
    obtain ⟨a, cs, _, _, ⟨_, oo⟩, _⟩ := Vo.2 _ _ ho
    exact oo
  have ok2 : (lifeS r o).Ok := lifeS_ok ok oo
  have hdv := lifeD_val (o := o) ok
  refine F_replica_Replica_Stored.is ok O fun s h O => ?_
  refine F_replica_Replica_Wait.is O.swap ?_
  refine F_replica_Load.is O (fun h O => (O.view 0 u8_len (by simp) rfl).1) ok.v fun q h O => ?_
  rw [show (⟨r.prom, r.te, r.ts, r.val, spanOf r.wait⟩ : RS) = r by rw [spanOf_id ok.w0]] at O
  refine brr_ff rfl ?_
  repeat (first
    | (with_reducible refine al_id ?_); refine O.al fun _ h O => ?_
    | (with_reducible refine nn_id ?_); refine ⟨_, rfl, ?_⟩
    | (with_reducible refine ld_id ?_); (first | refine O.ld 0 rfl ?_ | refine O.ld 1 rfl ?_ | refine O.ld 2 rfl ?_ | refine O.ld 3 rfl ?_); (repeat (first | (with_reducible refine ldL_n ?_) | refine ldL_s ?_ | refine ldL_c ?_))
    | (with_reducible refine st_ad (by first | (with_reducible rfl) | (simp only [pt_add, Nat.zero_add, Nat.add_zero, Nat.reduceAdd]; with_reducible rfl)) ?_); (first | refine O.st 0 rfl (by simp) rfl fun h O => ?_ | refine O.st 1 rfl (by simp) rfl fun h O => ?_ | refine O.st 2 rfl (by simp) rfl fun h O => ?_ | refine O.st 3 rfl (by simp) rfl fun h O => ?_); (dsimp only [V.put, List.set, List.length_cons, List.length_nil] at O)
    | (with_reducible refine ca_id ?_); (first | refine ⟨cellsAre_blk (O.blk (i := 0) (by simp) rfl).2 _ 1, ?_⟩ | refine ⟨cellsAre_blk (O.blk (i := 0) (by simp) rfl).2 _ 2, ?_⟩ | refine ⟨cellsAre_blk (O.blk (i := 1) (by simp) rfl).2 _ 1, ?_⟩ | refine ⟨cellsAre_blk (O.blk (i := 1) (by simp) rfl).2 _ 2, ?_⟩ | refine ⟨cellsAre_blk (O.blk (i := 2) (by simp) rfl).2 _ 1, ?_⟩ | refine ⟨cellsAre_blk (O.blk (i := 2) (by simp) rfl).2 _ 2, ?_⟩ | refine ⟨cellsAre_blk (O.blk (i := 3) (by simp) rfl).2 _ 1, ?_⟩ | refine ⟨cellsAre_blk (O.blk (i := 3) (by simp) rfl).2 _ 2, ?_⟩))
  replace O := O.sel [2, 0, 3] 4 rfl (Nat.le_add_left _ _)
  simp only [selT, List.map, nth, List.drop, List.cons_append, List.nil_append] at O
  refine F_law9_Life_at.is Vo hi0 ho ok O fun s1 h O => ?_
  refine O.al fun x95 h O => ?_
  refine O.al fun x97 h O => ?_
  refine O.st 1 rfl (by simp) rfl fun h O => ?_
  dsimp only [V.put, List.set] at O
  refine O.st 0 rfl (by simp) rfl fun h O => ?_
  dsimp only [V.put, List.set] at O
  repeat (first
    | (with_reducible refine al_id ?_); refine O.al fun _ h O => ?_
    | (with_reducible refine nn_id ?_); refine ⟨_, rfl, ?_⟩
    | (with_reducible refine ld_id ?_); (first | refine O.ld 0 rfl ?_ | refine O.ld 1 rfl ?_ | refine O.ld 2 rfl ?_ | refine O.ld 3 rfl ?_ | refine O.ld 4 rfl ?_ | refine O.ld 5 rfl ?_); (repeat (first | (with_reducible refine ldL_n ?_) | refine ldL_s ?_ | refine ldL_c ?_))
    | (with_reducible refine st_ad (by first | (with_reducible rfl) | (simp only [pt_add, Nat.zero_add, Nat.add_zero, Nat.reduceAdd]; with_reducible rfl)) ?_); (first | refine O.st 0 rfl (by simp) rfl fun h O => ?_ | refine O.st 1 rfl (by simp) rfl fun h O => ?_ | refine O.st 2 rfl (by simp) rfl fun h O => ?_ | refine O.st 3 rfl (by simp) rfl fun h O => ?_ | refine O.st 4 rfl (by simp) rfl fun h O => ?_ | refine O.st 5 rfl (by simp) rfl fun h O => ?_); (dsimp only [V.put, List.set, List.length_cons, List.length_nil] at O)
    | (with_reducible refine ca_id ?_); (first | refine ⟨cellsAre_blk (O.blk (i := 0) (by simp) rfl).2 _ 1, ?_⟩ | refine ⟨cellsAre_blk (O.blk (i := 0) (by simp) rfl).2 _ 2, ?_⟩ | refine ⟨cellsAre_blk (O.blk (i := 1) (by simp) rfl).2 _ 1, ?_⟩ | refine ⟨cellsAre_blk (O.blk (i := 1) (by simp) rfl).2 _ 2, ?_⟩ | refine ⟨cellsAre_blk (O.blk (i := 2) (by simp) rfl).2 _ 1, ?_⟩ | refine ⟨cellsAre_blk (O.blk (i := 2) (by simp) rfl).2 _ 2, ?_⟩ | refine ⟨cellsAre_blk (O.blk (i := 3) (by simp) rfl).2 _ 1, ?_⟩ | refine ⟨cellsAre_blk (O.blk (i := 3) (by simp) rfl).2 _ 2, ?_⟩ | refine ⟨cellsAre_blk (O.blk (i := 4) (by simp) rfl).2 _ 1, ?_⟩ | refine ⟨cellsAre_blk (O.blk (i := 4) (by simp) rfl).2 _ 2, ?_⟩ | refine ⟨cellsAre_blk (O.blk (i := 5) (by simp) rfl).2 _ 1, ?_⟩ | refine ⟨cellsAre_blk (O.blk (i := 5) (by simp) rfl).2 _ 2, ?_⟩))
  replace O := O.sel [4, 0, 1, 2, 3, 5] 6 rfl (Nat.le_add_left _ _)
  simp only [selT, List.map, nth, List.drop, List.cons_append, List.nil_append] at O
  refine F_law9_Life_at.is Vo hi0 ho ok O fun s2 h O => ?_
  refine O.al fun x155 h O => ?_
  refine O.al fun x157 h O => ?_
  refine O.st 1 rfl (by simp) rfl fun h O => ?_
  dsimp only [V.put, List.set] at O
  refine O.st 0 rfl (by simp) rfl fun h O => ?_
  dsimp only [V.put, List.set] at O
  -- x157, x155, buf s2, repR q, x97, x95, buf s1, repR p, x7
  have O : Sat H h [own x157 (hdC (lifeD r o) s2), own x155 (mgC (lifeM o)), buf 1 u8 s2 (lifeD r o).val, repR q (lifeS r o), own x97 (hdC (lifeD r o) s1), own x95 (mgC (lifeM o)), buf 1 u8 s1 (lifeD r o).val, repR p (lifeS r o), own x7 [.int .u64 t1, .int .u64 t2, .int .u64 t3, .slice t4.ptr t4.len t4.cap, .int .i64 t5, .slice t6.ptr t6.len t6.cap]] := O
  refine jn1 (fun z h' => z = false ∧ Sat H h' [repR p (lifeS r o), own x97 (hdC (lifeD r o) s1), own x95 (mgC (lifeM o)), own x157 (hdC (lifeD r o) s2), buf 1 u8 s2 (lifeD r o).val, own x7 [.int .u64 t1, .int .u64 t2, .int .u64 t3, .slice t4.ptr t4.len t4.cap, .int .i64 t5, .slice t6.ptr t6.len t6.cap]]) ?_ ?_
  case refine_2 =>
    intro j161 hj
    repeat (first
      | (with_reducible refine al_id ?_); refine O.al fun _ h O => ?_
      | (with_reducible refine nn_id ?_); refine ⟨_, rfl, ?_⟩
      | (with_reducible refine ld_id ?_); (first | refine O.ld 0 rfl ?_ | refine O.ld 1 rfl ?_ | refine O.ld 2 rfl ?_ | refine O.ld 3 rfl ?_ | refine O.ld 4 rfl ?_ | refine O.ld 5 rfl ?_); (repeat (first | (with_reducible refine ldL_n ?_) | refine ldL_s ?_ | refine ldL_c ?_))
      | (with_reducible refine st_ad (by first | (with_reducible rfl) | (simp only [pt_add, Nat.zero_add, Nat.add_zero, Nat.reduceAdd]; with_reducible rfl)) ?_); (first | refine O.st 0 rfl (by simp) rfl fun h O => ?_ | refine O.st 1 rfl (by simp) rfl fun h O => ?_ | refine O.st 2 rfl (by simp) rfl fun h O => ?_ | refine O.st 3 rfl (by simp) rfl fun h O => ?_ | refine O.st 4 rfl (by simp) rfl fun h O => ?_ | refine O.st 5 rfl (by simp) rfl fun h O => ?_); (dsimp only [V.put, List.set, List.length_cons, List.length_nil] at O)
      | (with_reducible refine ca_id ?_); (first | refine ⟨cellsAre_blk (O.blk (i := 0) (by simp) rfl).2 _ 1, ?_⟩ | refine ⟨cellsAre_blk (O.blk (i := 0) (by simp) rfl).2 _ 2, ?_⟩ | refine ⟨cellsAre_blk (O.blk (i := 1) (by simp) rfl).2 _ 1, ?_⟩ | refine ⟨cellsAre_blk (O.blk (i := 1) (by simp) rfl).2 _ 2, ?_⟩ | refine ⟨cellsAre_blk (O.blk (i := 2) (by simp) rfl).2 _ 1, ?_⟩ | refine ⟨cellsAre_blk (O.blk (i := 2) (by simp) rfl).2 _ 2, ?_⟩ | refine ⟨cellsAre_blk (O.blk (i := 3) (by simp) rfl).2 _ 1, ?_⟩ | refine ⟨cellsAre_blk (O.blk (i := 3) (by simp) rfl).2 _ 2, ?_⟩ | refine ⟨cellsAre_blk (O.blk (i := 4) (by simp) rfl).2 _ 1, ?_⟩ | refine ⟨cellsAre_blk (O.blk (i := 4) (by simp) rfl).2 _ 2, ?_⟩ | refine ⟨cellsAre_blk (O.blk (i := 5) (by simp) rfl).2 _ 1, ?_⟩ | refine ⟨cellsAre_blk (O.blk (i := 5) (by simp) rfl).2 _ 2, ?_⟩))
    refine F_ref0_EqMsg.is (m := hdM (lifeD r o) s1) (t := s2) O (fun h O => (O.view 6 u8_len (by simp) rfl).1) (fun h O => (O.view 2 u8_len (by simp) rfl).1) hdv fun h O => ?_
    refine brr_ff rfl ?_
    repeat (first
      | (with_reducible refine al_id ?_); refine O.al fun _ h O => ?_
      | (with_reducible refine nn_id ?_); refine ⟨_, rfl, ?_⟩
      | (with_reducible refine ld_id ?_); (first | refine O.ld 0 rfl ?_ | refine O.ld 1 rfl ?_ | refine O.ld 2 rfl ?_ | refine O.ld 3 rfl ?_ | refine O.ld 4 rfl ?_ | refine O.ld 5 rfl ?_); (repeat (first | (with_reducible refine ldL_n ?_) | refine ldL_s ?_ | refine ldL_c ?_))
      | (with_reducible refine st_ad (by first | (with_reducible rfl) | (simp only [pt_add, Nat.zero_add, Nat.add_zero, Nat.reduceAdd]; with_reducible rfl)) ?_); (first | refine O.st 0 rfl (by simp) rfl fun h O => ?_ | refine O.st 1 rfl (by simp) rfl fun h O => ?_ | refine O.st 2 rfl (by simp) rfl fun h O => ?_ | refine O.st 3 rfl (by simp) rfl fun h O => ?_ | refine O.st 4 rfl (by simp) rfl fun h O => ?_ | refine O.st 5 rfl (by simp) rfl fun h O => ?_); (dsimp only [V.put, List.set, List.length_cons, List.length_nil] at O)
      | (with_reducible refine ca_id ?_); (first | refine ⟨cellsAre_blk (O.blk (i := 0) (by simp) rfl).2 _ 1, ?_⟩ | refine ⟨cellsAre_blk (O.blk (i := 0) (by simp) rfl).2 _ 2, ?_⟩ | refine ⟨cellsAre_blk (O.blk (i := 1) (by simp) rfl).2 _ 1, ?_⟩ | refine ⟨cellsAre_blk (O.blk (i := 1) (by simp) rfl).2 _ 2, ?_⟩ | refine ⟨cellsAre_blk (O.blk (i := 2) (by simp) rfl).2 _ 1, ?_⟩ | refine ⟨cellsAre_blk (O.blk (i := 2) (by simp) rfl).2 _ 2, ?_⟩ | refine ⟨cellsAre_blk (O.blk (i := 3) (by simp) rfl).2 _ 1, ?_⟩ | refine ⟨cellsAre_blk (O.blk (i := 3) (by simp) rfl).2 _ 2, ?_⟩ | refine ⟨cellsAre_blk (O.blk (i := 4) (by simp) rfl).2 _ 1, ?_⟩ | refine ⟨cellsAre_blk (O.blk (i := 4) (by simp) rfl).2 _ 2, ?_⟩ | refine ⟨cellsAre_blk (O.blk (i := 5) (by simp) rfl).2 _ 1, ?_⟩ | refine ⟨cellsAre_blk (O.blk (i := 5) (by simp) rfl).2 _ 2, ?_⟩))
    refine brr_ff (by simp) ?_
    repeat (first
      | (with_reducible refine al_id ?_); refine O.al fun _ h O => ?_
      | (with_reducible refine nn_id ?_); refine ⟨_, rfl, ?_⟩
      | (with_reducible refine ld_id ?_); (first | refine O.ld 0 rfl ?_ | refine O.ld 1 rfl ?_ | refine O.ld 2 rfl ?_ | refine O.ld 3 rfl ?_ | refine O.ld 4 rfl ?_ | refine O.ld 5 rfl ?_); (repeat (first | (with_reducible refine ldL_n ?_) | refine ldL_s ?_ | refine ldL_c ?_))
      | (with_reducible refine st_ad (by first | (with_reducible rfl) | (simp only [pt_add, Nat.zero_add, Nat.add_zero, Nat.reduceAdd]; with_reducible rfl)) ?_); (first | refine O.st 0 rfl (by simp) rfl fun h O => ?_ | refine O.st 1 rfl (by simp) rfl fun h O => ?_ | refine O.st 2 rfl (by simp) rfl fun h O => ?_ | refine O.st 3 rfl (by simp) rfl fun h O => ?_ | refine O.st 4 rfl (by simp) rfl fun h O => ?_ | refine O.st 5 rfl (by simp) rfl fun h O => ?_); (dsimp only [V.put, List.set, List.length_cons, List.length_nil] at O)
      | (with_reducible refine ca_id ?_); (first | refine ⟨cellsAre_blk (O.blk (i := 0) (by simp) rfl).2 _ 1, ?_⟩ | refine ⟨cellsAre_blk (O.blk (i := 0) (by simp) rfl).2 _ 2, ?_⟩ | refine ⟨cellsAre_blk (O.blk (i := 1) (by simp) rfl).2 _ 1, ?_⟩ | refine ⟨cellsAre_blk (O.blk (i := 1) (by simp) rfl).2 _ 2, ?_⟩ | refine ⟨cellsAre_blk (O.blk (i := 2) (by simp) rfl).2 _ 1, ?_⟩ | refine ⟨cellsAre_blk (O.blk (i := 2) (by simp) rfl).2 _ 2, ?_⟩ | refine ⟨cellsAre_blk (O.blk (i := 3) (by simp) rfl).2 _ 1, ?_⟩ | refine ⟨cellsAre_blk (O.blk (i := 3) (by simp) rfl).2 _ 2, ?_⟩ | refine ⟨cellsAre_blk (O.blk (i := 4) (by simp) rfl).2 _ 1, ?_⟩ | refine ⟨cellsAre_blk (O.blk (i := 4) (by simp) rfl).2 _ 2, ?_⟩ | refine ⟨cellsAre_blk (O.blk (i := 5) (by simp) rfl).2 _ 1, ?_⟩ | refine ⟨cellsAre_blk (O.blk (i := 5) (by simp) rfl).2 _ 2, ?_⟩))
    refine brr_ff (by simp) ?_
    repeat (first
      | (with_reducible refine al_id ?_); refine O.al fun _ h O => ?_
      | (with_reducible refine nn_id ?_); refine ⟨_, rfl, ?_⟩
      | (with_reducible refine ld_id ?_); (first | refine O.ld 0 rfl ?_ | refine O.ld 1 rfl ?_ | refine O.ld 2 rfl ?_ | refine O.ld 3 rfl ?_ | refine O.ld 4 rfl ?_ | refine O.ld 5 rfl ?_); (repeat (first | (with_reducible refine ldL_n ?_) | refine ldL_s ?_ | refine ldL_c ?_))
      | (with_reducible refine st_ad (by first | (with_reducible rfl) | (simp only [pt_add, Nat.zero_add, Nat.add_zero, Nat.reduceAdd]; with_reducible rfl)) ?_); (first | refine O.st 0 rfl (by simp) rfl fun h O => ?_ | refine O.st 1 rfl (by simp) rfl fun h O => ?_ | refine O.st 2 rfl (by simp) rfl fun h O => ?_ | refine O.st 3 rfl (by simp) rfl fun h O => ?_ | refine O.st 4 rfl (by simp) rfl fun h O => ?_ | refine O.st 5 rfl (by simp) rfl fun h O => ?_); (dsimp only [V.put, List.set, List.length_cons, List.length_nil] at O)
      | (with_reducible refine ca_id ?_); (first | refine ⟨cellsAre_blk (O.blk (i := 0) (by simp) rfl).2 _ 1, ?_⟩ | refine ⟨cellsAre_blk (O.blk (i := 0) (by simp) rfl).2 _ 2, ?_⟩ | refine ⟨cellsAre_blk (O.blk (i := 1) (by simp) rfl).2 _ 1, ?_⟩ | refine ⟨cellsAre_blk (O.blk (i := 1) (by simp) rfl).2 _ 2, ?_⟩ | refine ⟨cellsAre_blk (O.blk (i := 2) (by simp) rfl).2 _ 1, ?_⟩ | refine ⟨cellsAre_blk (O.blk (i := 2) (by simp) rfl).2 _ 2, ?_⟩ | refine ⟨cellsAre_blk (O.blk (i := 3) (by simp) rfl).2 _ 1, ?_⟩ | refine ⟨cellsAre_blk (O.blk (i := 3) (by simp) rfl).2 _ 2, ?_⟩ | refine ⟨cellsAre_blk (O.blk (i := 4) (by simp) rfl).2 _ 1, ?_⟩ | refine ⟨cellsAre_blk (O.blk (i := 4) (by simp) rfl).2 _ 2, ?_⟩ | refine ⟨cellsAre_blk (O.blk (i := 5) (by simp) rfl).2 _ 1, ?_⟩ | refine ⟨cellsAre_blk (O.blk (i := 5) (by simp) rfl).2 _ 2, ?_⟩))
    refine brr_ff (by simp) ?_
    replace O := O.sel [7, 0, 1, 2, 3, 4, 5, 6, 8] 9 rfl (Nat.le_add_left _ _)
    simp only [selT, List.map, nth, List.drop, List.cons_append, List.nil_append] at O
    refine F_replica_Replica_Stored.is ok2 O fun u1 h O => ?_
    replace O := O.sel [5, 0, 1, 2, 3, 4, 6, 7, 8, 9] 10 rfl (Nat.le_add_left _ _)
    simp only [selT, List.map, nth, List.drop, List.cons_append, List.nil_append] at O
    refine F_replica_Replica_Stored.is ok2 O fun u2 h O => ?_
    refine F_ref0_EqStored.is O (fun h O => (O.view 2 u8_len (by simp) rfl).1) (fun h O => (O.view 0 u8_len (by simp) rfl).1) ok2.v ok2.v fun h O => ?_
    refine brr_ff (by simp) ?_
    replace O := O.sel [3, 0, 1, 2, 4, 5, 6, 7, 8, 9, 10] 11 rfl (Nat.le_add_left _ _)
    simp only [selT, List.map, nth, List.drop, List.cons_append, List.nil_append] at O
    refine F_replica_Replica_Wait.is O ?_
    replace O := O.sel [2, 0, 1, 3, 4, 5, 6, 7, 8, 9, 10] 11 rfl (Nat.le_add_left _ _)
    simp only [selT, List.map, nth, List.drop, List.cons_append, List.nil_append] at O
    refine F_replica_Replica_Wait.is O ?_
    refine hj _ _ ⟨by simp, ?_⟩
    exact O.sel [1, 7, 8, 4, 6, 10] 11 rfl (Nat.le_add_left _ _)
  clear O
  rintro z h ⟨rfl, O⟩
  refine brr_ff rfl ?_
  repeat (first
    | (with_reducible refine al_id ?_); refine O.al fun _ h O => ?_
    | (with_reducible refine nn_id ?_); refine ⟨_, rfl, ?_⟩
    | (with_reducible refine ld_id ?_); (first | refine O.ld 0 rfl ?_ | refine O.ld 1 rfl ?_ | refine O.ld 2 rfl ?_); (repeat (first | (with_reducible refine ldL_n ?_) | refine ldL_s ?_ | refine ldL_c ?_))
    | (with_reducible refine st_ad (by first | (with_reducible rfl) | (simp only [pt_add, Nat.zero_add, Nat.add_zero, Nat.reduceAdd]; with_reducible rfl)) ?_); (first | refine O.st 0 rfl (by simp) rfl fun h O => ?_ | refine O.st 1 rfl (by simp) rfl fun h O => ?_ | refine O.st 2 rfl (by simp) rfl fun h O => ?_); (dsimp only [V.put, List.set, List.length_cons, List.length_nil] at O)
    | (with_reducible refine ca_id ?_); (first | refine ⟨cellsAre_blk (O.blk (i := 0) (by simp) rfl).2 _ 1, ?_⟩ | refine ⟨cellsAre_blk (O.blk (i := 0) (by simp) rfl).2 _ 2, ?_⟩ | refine ⟨cellsAre_blk (O.blk (i := 1) (by simp) rfl).2 _ 1, ?_⟩ | refine ⟨cellsAre_blk (O.blk (i := 1) (by simp) rfl).2 _ 2, ?_⟩ | refine ⟨cellsAre_blk (O.blk (i := 2) (by simp) rfl).2 _ 1, ?_⟩ | refine ⟨cellsAre_blk (O.blk (i := 2) (by simp) rfl).2 _ 2, ?_⟩))
  refine brr_eq (fun hk0 => ?_) (fun hk0 => ?_)
  · exact hj31 _ ⟨_, ok2, O.sel [0, 5] 6 rfl (Nat.le_add_left _ _)⟩
  have hdo : o.do_ = 1 := by
    by_cases h1 : o.do_ = 1
    · exact h1
    · exact absurd (show (lifeM o).kind = 0 by unfold lifeM; rw [if_neg h1]; rfl) hk0
  have e1 : lifeM o = o.m := by unfold lifeM; rw [if_pos hdo]
  have e2 : lifeD r o = (hearS r o.m).2 := by unfold lifeD; rw [if_pos hdo]
  have e3 : lifeS r o = (hearS r o.m).1 := by unfold lifeS; rw [if_pos hdo]
  refine F_replica_Replica_Stored.is ok2 O fun u3 h O => ?_
  refine O.al fun x238 h O => ?_
  refine O.st 0 rfl (by simp) rfl fun h O => ?_
  dsimp only [V.put, List.set] at O
  repeat (first
    | (with_reducible refine al_id ?_); refine O.al fun _ h O => ?_
    | (with_reducible refine nn_id ?_); refine ⟨_, rfl, ?_⟩
    | (with_reducible refine ld_id ?_); (first | refine O.ld 0 rfl ?_ | refine O.ld 1 rfl ?_ | refine O.ld 2 rfl ?_ | refine O.ld 3 rfl ?_ | refine O.ld 4 rfl ?_); (repeat (first | (with_reducible refine ldL_n ?_) | refine ldL_s ?_ | refine ldL_c ?_))
    | (with_reducible refine st_ad (by first | (with_reducible rfl) | (simp only [pt_add, Nat.zero_add, Nat.add_zero, Nat.reduceAdd]; with_reducible rfl)) ?_); (first | refine O.st 0 rfl (by simp) rfl fun h O => ?_ | refine O.st 1 rfl (by simp) rfl fun h O => ?_ | refine O.st 2 rfl (by simp) rfl fun h O => ?_ | refine O.st 3 rfl (by simp) rfl fun h O => ?_ | refine O.st 4 rfl (by simp) rfl fun h O => ?_); (dsimp only [V.put, List.set, List.length_cons, List.length_nil] at O)
    | (with_reducible refine ca_id ?_); (first | refine ⟨cellsAre_blk (O.blk (i := 0) (by simp) rfl).2 _ 1, ?_⟩ | refine ⟨cellsAre_blk (O.blk (i := 0) (by simp) rfl).2 _ 2, ?_⟩ | refine ⟨cellsAre_blk (O.blk (i := 1) (by simp) rfl).2 _ 1, ?_⟩ | refine ⟨cellsAre_blk (O.blk (i := 1) (by simp) rfl).2 _ 2, ?_⟩ | refine ⟨cellsAre_blk (O.blk (i := 2) (by simp) rfl).2 _ 1, ?_⟩ | refine ⟨cellsAre_blk (O.blk (i := 2) (by simp) rfl).2 _ 2, ?_⟩ | refine ⟨cellsAre_blk (O.blk (i := 3) (by simp) rfl).2 _ 1, ?_⟩ | refine ⟨cellsAre_blk (O.blk (i := 3) (by simp) rfl).2 _ 2, ?_⟩ | refine ⟨cellsAre_blk (O.blk (i := 4) (by simp) rfl).2 _ 1, ?_⟩ | refine ⟨cellsAre_blk (O.blk (i := 4) (by simp) rfl).2 _ 2, ?_⟩))
  refine F_ref0_CopyMsg.is (m := lifeM o) O (fun h O => (lifeM_b oo).1.kept O.kept) (lifeM_b oo).2 fun sc h O => ?_
  replace O := O.sel [3, 0, 1, 2, 4, 5, 6, 7, 8] 9 rfl (Nat.le_add_left _ _)
  simp only [selT, List.map, nth, List.drop, List.cons_append, List.nil_append] at O
  refine F_replica_Replica_Hear.is (m := { lifeM o with v := sc }) ok2 (fun h O => (O.view 0 u8_len (by simp) rfl).1) (lifeM_b oo).2 O fun s4 h O => ?_
  have e4 : hearS (lifeS r o) { lifeM o with v := sc } = (lifeS r o, { lifeD r o with chg := false }) := by
    have := hear_twice r o.m
    rw [e1, e2, e3]
    exact this
  rw [e4] at O ⊢
  -- buf s4, repR p, buf sc, x238, buf u3, x97, x95, x157, buf s2, x7
  refine O.st 5 rfl (by simp [hdC]) rfl fun h O => ?_
  simp only [V.put, List.set, hdC] at O
  refine jn1 (fun z h' => z = false ∧ Sat H h' [repR p (lifeS r o), own x7 [.int .u64 t1, .int .u64 t2, .int .u64 t3, .slice t4.ptr t4.len t4.cap, .int .i64 t5, .slice t6.ptr t6.len t6.cap]]) ?_ ?_
  · clear O
    rintro z h ⟨rfl, O⟩
    refine brr_ff rfl ?_
    exact hj31 _ ⟨_, ok2, O⟩
  · intro j313 hj
    repeat (first
      | (with_reducible refine al_id ?_); refine O.al fun _ h O => ?_
      | (with_reducible refine nn_id ?_); refine ⟨_, rfl, ?_⟩
      | (with_reducible refine ld_id ?_); (first | refine O.ld 0 rfl ?_ | refine O.ld 1 rfl ?_ | refine O.ld 2 rfl ?_ | refine O.ld 3 rfl ?_ | refine O.ld 4 rfl ?_ | refine O.ld 5 rfl ?_ | refine O.ld 6 rfl ?_ | refine O.ld 7 rfl ?_); (repeat (first | (with_reducible refine ldL_n ?_) | refine ldL_s ?_ | refine ldL_c ?_))
      | (with_reducible refine st_ad (by first | (with_reducible rfl) | (simp only [pt_add, Nat.zero_add, Nat.add_zero, Nat.reduceAdd]; with_reducible rfl)) ?_); (first | refine O.st 0 rfl (by simp) rfl fun h O => ?_ | refine O.st 1 rfl (by simp) rfl fun h O => ?_ | refine O.st 2 rfl (by simp) rfl fun h O => ?_ | refine O.st 3 rfl (by simp) rfl fun h O => ?_ | refine O.st 4 rfl (by simp) rfl fun h O => ?_ | refine O.st 5 rfl (by simp) rfl fun h O => ?_ | refine O.st 6 rfl (by simp) rfl fun h O => ?_ | refine O.st 7 rfl (by simp) rfl fun h O => ?_); (dsimp only [V.put, List.set, List.length_cons, List.length_nil] at O)
      | (with_reducible refine ca_id ?_); (first | refine ⟨cellsAre_blk (O.blk (i := 0) (by simp) rfl).2 _ 1, ?_⟩ | refine ⟨cellsAre_blk (O.blk (i := 0) (by simp) rfl).2 _ 2, ?_⟩ | refine ⟨cellsAre_blk (O.blk (i := 1) (by simp) rfl).2 _ 1, ?_⟩ | refine ⟨cellsAre_blk (O.blk (i := 1) (by simp) rfl).2 _ 2, ?_⟩ | refine ⟨cellsAre_blk (O.blk (i := 2) (by simp) rfl).2 _ 1, ?_⟩ | refine ⟨cellsAre_blk (O.blk (i := 2) (by simp) rfl).2 _ 2, ?_⟩ | refine ⟨cellsAre_blk (O.blk (i := 3) (by simp) rfl).2 _ 1, ?_⟩ | refine ⟨cellsAre_blk (O.blk (i := 3) (by simp) rfl).2 _ 2, ?_⟩ | refine ⟨cellsAre_blk (O.blk (i := 4) (by simp) rfl).2 _ 1, ?_⟩ | refine ⟨cellsAre_blk (O.blk (i := 4) (by simp) rfl).2 _ 2, ?_⟩ | refine ⟨cellsAre_blk (O.blk (i := 5) (by simp) rfl).2 _ 1, ?_⟩ | refine ⟨cellsAre_blk (O.blk (i := 5) (by simp) rfl).2 _ 2, ?_⟩ | refine ⟨cellsAre_blk (O.blk (i := 6) (by simp) rfl).2 _ 1, ?_⟩ | refine ⟨cellsAre_blk (O.blk (i := 6) (by simp) rfl).2 _ 2, ?_⟩ | refine ⟨cellsAre_blk (O.blk (i := 7) (by simp) rfl).2 _ 1, ?_⟩ | refine ⟨cellsAre_blk (O.blk (i := 7) (by simp) rfl).2 _ 2, ?_⟩))
    refine F_ref0_EqMsg.is (m := hdM (lifeD r o) s4) (t := s2) O (fun h O => (O.view 0 u8_len (by simp) rfl).1) (fun h O => (O.view 8 u8_len (by simp) rfl).1) hdv fun h O => ?_
    refine brr_ff rfl ?_
    repeat (first
      | (with_reducible refine al_id ?_); refine O.al fun _ h O => ?_
      | (with_reducible refine nn_id ?_); refine ⟨_, rfl, ?_⟩
      | (with_reducible refine ld_id ?_); (first | refine O.ld 0 rfl ?_ | refine O.ld 1 rfl ?_ | refine O.ld 2 rfl ?_ | refine O.ld 3 rfl ?_ | refine O.ld 4 rfl ?_ | refine O.ld 5 rfl ?_ | refine O.ld 6 rfl ?_ | refine O.ld 7 rfl ?_); (repeat (first | (with_reducible refine ldL_n ?_) | refine ldL_s ?_ | refine ldL_c ?_))
      | (with_reducible refine st_ad (by first | (with_reducible rfl) | (simp only [pt_add, Nat.zero_add, Nat.add_zero, Nat.reduceAdd]; with_reducible rfl)) ?_); (first | refine O.st 0 rfl (by simp) rfl fun h O => ?_ | refine O.st 1 rfl (by simp) rfl fun h O => ?_ | refine O.st 2 rfl (by simp) rfl fun h O => ?_ | refine O.st 3 rfl (by simp) rfl fun h O => ?_ | refine O.st 4 rfl (by simp) rfl fun h O => ?_ | refine O.st 5 rfl (by simp) rfl fun h O => ?_ | refine O.st 6 rfl (by simp) rfl fun h O => ?_ | refine O.st 7 rfl (by simp) rfl fun h O => ?_); (dsimp only [V.put, List.set, List.length_cons, List.length_nil] at O)
      | (with_reducible refine ca_id ?_); (first | refine ⟨cellsAre_blk (O.blk (i := 0) (by simp) rfl).2 _ 1, ?_⟩ | refine ⟨cellsAre_blk (O.blk (i := 0) (by simp) rfl).2 _ 2, ?_⟩ | refine ⟨cellsAre_blk (O.blk (i := 1) (by simp) rfl).2 _ 1, ?_⟩ | refine ⟨cellsAre_blk (O.blk (i := 1) (by simp) rfl).2 _ 2, ?_⟩ | refine ⟨cellsAre_blk (O.blk (i := 2) (by simp) rfl).2 _ 1, ?_⟩ | refine ⟨cellsAre_blk (O.blk (i := 2) (by simp) rfl).2 _ 2, ?_⟩ | refine ⟨cellsAre_blk (O.blk (i := 3) (by simp) rfl).2 _ 1, ?_⟩ | refine ⟨cellsAre_blk (O.blk (i := 3) (by simp) rfl).2 _ 2, ?_⟩ | refine ⟨cellsAre_blk (O.blk (i := 4) (by simp) rfl).2 _ 1, ?_⟩ | refine ⟨cellsAre_blk (O.blk (i := 4) (by simp) rfl).2 _ 2, ?_⟩ | refine ⟨cellsAre_blk (O.blk (i := 5) (by simp) rfl).2 _ 1, ?_⟩ | refine ⟨cellsAre_blk (O.blk (i := 5) (by simp) rfl).2 _ 2, ?_⟩ | refine ⟨cellsAre_blk (O.blk (i := 6) (by simp) rfl).2 _ 1, ?_⟩ | refine ⟨cellsAre_blk (O.blk (i := 6) (by simp) rfl).2 _ 2, ?_⟩ | refine ⟨cellsAre_blk (O.blk (i := 7) (by simp) rfl).2 _ 1, ?_⟩ | refine ⟨cellsAre_blk (O.blk (i := 7) (by simp) rfl).2 _ 2, ?_⟩))
    refine brr_ff (by simp) ?_
    repeat (first
      | (with_reducible refine al_id ?_); refine O.al fun _ h O => ?_
      | (with_reducible refine nn_id ?_); refine ⟨_, rfl, ?_⟩
      | (with_reducible refine ld_id ?_); (first | refine O.ld 0 rfl ?_ | refine O.ld 1 rfl ?_ | refine O.ld 2 rfl ?_ | refine O.ld 3 rfl ?_ | refine O.ld 4 rfl ?_ | refine O.ld 5 rfl ?_ | refine O.ld 6 rfl ?_ | refine O.ld 7 rfl ?_); (repeat (first | (with_reducible refine ldL_n ?_) | refine ldL_s ?_ | refine ldL_c ?_))
      | (with_reducible refine st_ad (by first | (with_reducible rfl) | (simp only [pt_add, Nat.zero_add, Nat.add_zero, Nat.reduceAdd]; with_reducible rfl)) ?_); (first | refine O.st 0 rfl (by simp) rfl fun h O => ?_ | refine O.st 1 rfl (by simp) rfl fun h O => ?_ | refine O.st 2 rfl (by simp) rfl fun h O => ?_ | refine O.st 3 rfl (by simp) rfl fun h O => ?_ | refine O.st 4 rfl (by simp) rfl fun h O => ?_ | refine O.st 5 rfl (by simp) rfl fun h O => ?_ | refine O.st 6 rfl (by simp) rfl fun h O => ?_ | refine O.st 7 rfl (by simp) rfl fun h O => ?_); (dsimp only [V.put, List.set, List.length_cons, List.length_nil] at O)
      | (with_reducible refine ca_id ?_); (first | refine ⟨cellsAre_blk (O.blk (i := 0) (by simp) rfl).2 _ 1, ?_⟩ | refine ⟨cellsAre_blk (O.blk (i := 0) (by simp) rfl).2 _ 2, ?_⟩ | refine ⟨cellsAre_blk (O.blk (i := 1) (by simp) rfl).2 _ 1, ?_⟩ | refine ⟨cellsAre_blk (O.blk (i := 1) (by simp) rfl).2 _ 2, ?_⟩ | refine ⟨cellsAre_blk (O.blk (i := 2) (by simp) rfl).2 _ 1, ?_⟩ | refine ⟨cellsAre_blk (O.blk (i := 2) (by simp) rfl).2 _ 2, ?_⟩ | refine ⟨cellsAre_blk (O.blk (i := 3) (by simp) rfl).2 _ 1, ?_⟩ | refine ⟨cellsAre_blk (O.blk (i := 3) (by simp) rfl).2 _ 2, ?_⟩ | refine ⟨cellsAre_blk (O.blk (i := 4) (by simp) rfl).2 _ 1, ?_⟩ | refine ⟨cellsAre_blk (O.blk (i := 4) (by simp) rfl).2 _ 2, ?_⟩ | refine ⟨cellsAre_blk (O.blk (i := 5) (by simp) rfl).2 _ 1, ?_⟩ | refine ⟨cellsAre_blk (O.blk (i := 5) (by simp) rfl).2 _ 2, ?_⟩ | refine ⟨cellsAre_blk (O.blk (i := 6) (by simp) rfl).2 _ 1, ?_⟩ | refine ⟨cellsAre_blk (O.blk (i := 6) (by simp) rfl).2 _ 2, ?_⟩ | refine ⟨cellsAre_blk (O.blk (i := 7) (by simp) rfl).2 _ 1, ?_⟩ | refine ⟨cellsAre_blk (O.blk (i := 7) (by simp) rfl).2 _ 2, ?_⟩))
    refine brr_ff rfl ?_
    repeat (first
      | (with_reducible refine al_id ?_); refine O.al fun _ h O => ?_
      | (with_reducible refine nn_id ?_); refine ⟨_, rfl, ?_⟩
      | (with_reducible refine ld_id ?_); (first | refine O.ld 0 rfl ?_ | refine O.ld 1 rfl ?_ | refine O.ld 2 rfl ?_ | refine O.ld 3 rfl ?_ | refine O.ld 4 rfl ?_ | refine O.ld 5 rfl ?_ | refine O.ld 6 rfl ?_ | refine O.ld 7 rfl ?_); (repeat (first | (with_reducible refine ldL_n ?_) | refine ldL_s ?_ | refine ldL_c ?_))
      | (with_reducible refine st_ad (by first | (with_reducible rfl) | (simp only [pt_add, Nat.zero_add, Nat.add_zero, Nat.reduceAdd]; with_reducible rfl)) ?_); (first | refine O.st 0 rfl (by simp) rfl fun h O => ?_ | refine O.st 1 rfl (by simp) rfl fun h O => ?_ | refine O.st 2 rfl (by simp) rfl fun h O => ?_ | refine O.st 3 rfl (by simp) rfl fun h O => ?_ | refine O.st 4 rfl (by simp) rfl fun h O => ?_ | refine O.st 5 rfl (by simp) rfl fun h O => ?_ | refine O.st 6 rfl (by simp) rfl fun h O => ?_ | refine O.st 7 rfl (by simp) rfl fun h O => ?_); (dsimp only [V.put, List.set, List.length_cons, List.length_nil] at O)
      | (with_reducible refine ca_id ?_); (first | refine ⟨cellsAre_blk (O.blk (i := 0) (by simp) rfl).2 _ 1, ?_⟩ | refine ⟨cellsAre_blk (O.blk (i := 0) (by simp) rfl).2 _ 2, ?_⟩ | refine ⟨cellsAre_blk (O.blk (i := 1) (by simp) rfl).2 _ 1, ?_⟩ | refine ⟨cellsAre_blk (O.blk (i := 1) (by simp) rfl).2 _ 2, ?_⟩ | refine ⟨cellsAre_blk (O.blk (i := 2) (by simp) rfl).2 _ 1, ?_⟩ | refine ⟨cellsAre_blk (O.blk (i := 2) (by simp) rfl).2 _ 2, ?_⟩ | refine ⟨cellsAre_blk (O.blk (i := 3) (by simp) rfl).2 _ 1, ?_⟩ | refine ⟨cellsAre_blk (O.blk (i := 3) (by simp) rfl).2 _ 2, ?_⟩ | refine ⟨cellsAre_blk (O.blk (i := 4) (by simp) rfl).2 _ 1, ?_⟩ | refine ⟨cellsAre_blk (O.blk (i := 4) (by simp) rfl).2 _ 2, ?_⟩ | refine ⟨cellsAre_blk (O.blk (i := 5) (by simp) rfl).2 _ 1, ?_⟩ | refine ⟨cellsAre_blk (O.blk (i := 5) (by simp) rfl).2 _ 2, ?_⟩ | refine ⟨cellsAre_blk (O.blk (i := 6) (by simp) rfl).2 _ 1, ?_⟩ | refine ⟨cellsAre_blk (O.blk (i := 6) (by simp) rfl).2 _ 2, ?_⟩ | refine ⟨cellsAre_blk (O.blk (i := 7) (by simp) rfl).2 _ 1, ?_⟩ | refine ⟨cellsAre_blk (O.blk (i := 7) (by simp) rfl).2 _ 2, ?_⟩))
    replace O := O.sel [1, 0, 2, 3, 4, 9] 10 rfl (Nat.le_add_left _ _)
    have O : Sat H h (repR p (lifeS r o) :: _) := O
    refine F_replica_Replica_Stored.is ok2 O fun u5 h O => ?_
    refine ⟨cellsAre_blk (O.blk (i := 4) (by simp [selT]) rfl).2 0 4, ?_⟩
    refine F_ref0_EqStored.is O (fun h O => (O.view 0 u8_len (by simp) rfl).1) (fun h O => (O.view 5 u8_len (by simp) rfl).1) ok2.v ok2.v fun h O => ?_
    refine hj _ _ ⟨by simp, ?_⟩
    exact O.sel [1, 6] 7 rfl (Nat.le_add_left _ _)
end Go.Proofs.Ytcbelendjpnmiaa.V
namespace Go.Proofs.Ytcbelendjpnmiaa.V
open Go Go.RowKit
set_option linter.unusedVariables false
set_option maxRecDepth 100000
/-! tally/tallylaw9.epoch -/
def F_law9_epoch_of  (m1 : Int) (m2 : Int) (m3 : Int) (m4 : Int) (m5 : Int) (m6 : Int) (m7 : Int) (m8 : Int) (m9 : Int) (m10 : Int) (m11 : Sl) (m12 : Int) (m13 : Int) (m14 : ByteArray) (m15 : ByteArray) (m16 : Int) (m17 : Int) (m18 : Int) (m19 : Int) (m20 : Int) (m21 : Int) (m22 : Int) (h : Heap) (Q : Int → Heap → Prop) : Prop :=
  al 42 [.int .i64 m1, .int .i64 m2, .int .i64 m3, .int .i64 m4, .int .u64 m5, .int .u64 m6, .int .u64 m7, .int .u64 m8, .int .i64 m9, .int .u64 m10, .slice m11.ptr m11.len m11.cap, .int .i64 m12, .int .u64 m13, .string m14, .string m15, .int .u64 m16, .int .u64 m17, .int .u64 m18, .int .i64 m19, .int .i64 m20, .int .i64 m21, .int .i64 m22] h fun (a23 : Addr) (h24 : Heap) =>
  ld [.int .i64] ((a23.add 0).add 0) h24 fun (v25 : Int) =>
  brr (v25 == 4)
  (ld [.int .u64] ((a23.add 5).add 0) h24 fun (v26 : Int) =>
  Q v26 h24)
  (ld [.int .u64] (a23.add 4) h24 fun (v27 : Int) =>
  Q v27 h24)
def F_law9_epoch (m1 : Int) (m2 : Int) (m3 : Int) (m4 : Int) (m5 : Int) (m6 : Int) (m7 : Int) (m8 : Int) (m9 : Int) (m10 : Int) (m11 : Sl) (m12 : Int) (m13 : Int) (m14 : ByteArray) (m15 : ByteArray) (m16 : Int) (m17 : Int) (m18 : Int) (m19 : Int) (m20 : Int) (m21 : Int) (m22 : Int) (h : Heap) (Q : Int → Heap → Prop) : Prop := F_law9_epoch_of  m1 m2 m3 m4 m5 m6 m7 m8 m9 m10 m11 m12 m13 m14 m15 m16 m17 m18 m19 m20 m21 m22 h Q
def plan27 : Plan := .s (.r [1]) (.s (.s (.r [1, 6]) (.c (.s (.r [2]) .z) .z)) (.s (.r [2]) .z))
theorem F_law9_epoch.eq  (m1 : Int) (m2 : Int) (m3 : Int) (m4 : Int) (m5 : Int) (m6 : Int) (m7 : Int) (m8 : Int) (m9 : Int) (m10 : Int) (m11 : Sl) (m12 : Int) (m13 : Int) (m14 : ByteArray) (m15 : ByteArray) (m16 : Int) (m17 : Int) (m18 : Int) (m19 : Int) (m20 : Int) (m21 : Int) (m22 : Int) (h : Heap) (K : Value → Heap → Prop) : F_law9_epoch_of  m1 m2 m3 m4 m5 m6 m7 m8 m9 m10 m11 m12 m13 m14 m15 m16 m17 m18 m19 m20 m21 m22 h (fun (r0 : Int) (h : Heap) => K (.int .u64 r0) h) =
    den Try.prog noFns Try.f27.ntmps plan27 (bodyOf Try.f27) (args0 0 [(.agg #[.int .i64 m1, .int .i64 m2, .int .i64 m3, .int .i64 m4, .int .u64 m5, .int .u64 m6, .int .u64 m7, .int .u64 m8, .int .i64 m9, .int .u64 m10, .slice m11.ptr m11.len m11.cap, .int .i64 m12, .int .u64 m13, .string m14, .string m15, .int .u64 m16, .int .u64 m17, .int .u64 m18, .int .i64 m19, .int .i64 m20, .int .i64 m21, .int .i64 m22] : Value)]) h ⟨fun env h => dRes Try.prog Try.f27.results.toList env h K, fun _ _ _ => False, fun env h => dRes Try.prog Try.f27.results.toList env h K⟩ := by kernel_rfl
def E_law9_epoch_of (f : Int → Int → Int → Int → Int → Int → Int → Int → Int → Int → Sl → Int → Int → ByteArray → ByteArray → Int → Int → Int → Int → Int → Int → Int → Heap → (Int → Heap → Prop) → Prop) : List Value → Heap → (Value → Heap → Prop) → Prop
  | [v0], h, K => vAgg v0 fun cs0 => decs [.int .i64, .int .i64, .int .i64, .int .i64, .int .u64, .int .u64, .int .u64, .int .u64, .int .i64, .int .u64, .sl, .int .i64, .int .u64, .str, .str, .int .u64, .int .u64, .int .u64, .int .i64, .int .i64, .int .i64, .int .i64] cs0.toList fun (m1 : Int) (m2 : Int) (m3 : Int) (m4 : Int) (m5 : Int) (m6 : Int) (m7 : Int) (m8 : Int) (m9 : Int) (m10 : Int) (m11 : Sl) (m12 : Int) (m13 : Int) (m14 : ByteArray) (m15 : ByteArray) (m16 : Int) (m17 : Int) (m18 : Int) (m19 : Int) (m20 : Int) (m21 : Int) (m22 : Int) =>
  f m1 m2 m3 m4 m5 m6 m7 m8 m9 m10 m11 m12 m13 m14 m15 m16 m17 m18 m19 m20 m21 m22 h (fun (r0 : Int) (h : Heap) => K (.int .u64 r0) h)
  | _, _, _ => False
abbrev E_law9_epoch := E_law9_epoch_of F_law9_epoch
theorem E_law9_epoch.right : IsRight Try.prog 27 E_law9_epoch := by
  refine isRight fun vs K w hh => ?_
  match vs, hh with
  | [v0], hh =>
    unfold E_law9_epoch E_law9_epoch_of at hh
    replace hh := vAgg_sound hh; obtain ⟨cs0, rfl, hh⟩ := hh
    replace hh := decs_cons hh; obtain ⟨m1, l0_0, e0_0, hh⟩ := hh
    replace hh := decs_cons hh; obtain ⟨m2, l0_1, e0_1, hh⟩ := hh
    replace hh := decs_cons hh; obtain ⟨m3, l0_2, e0_2, hh⟩ := hh
    replace hh := decs_cons hh; obtain ⟨m4, l0_3, e0_3, hh⟩ := hh
    replace hh := decs_cons hh; obtain ⟨m5, l0_4, e0_4, hh⟩ := hh
    replace hh := decs_cons hh; obtain ⟨m6, l0_5, e0_5, hh⟩ := hh
    replace hh := decs_cons hh; obtain ⟨m7, l0_6, e0_6, hh⟩ := hh
    replace hh := decs_cons hh; obtain ⟨m8, l0_7, e0_7, hh⟩ := hh
    replace hh := decs_cons hh; obtain ⟨m9, l0_8, e0_8, hh⟩ := hh
    replace hh := decs_cons hh; obtain ⟨m10, l0_9, e0_9, hh⟩ := hh
    replace hh := decs_cons hh; obtain ⟨m11, l0_10, e0_10, hh⟩ := hh
    replace hh := decs_cons hh; obtain ⟨m12, l0_11, e0_11, hh⟩ := hh
    replace hh := decs_cons hh; obtain ⟨m13, l0_12, e0_12, hh⟩ := hh
    replace hh := decs_cons hh; obtain ⟨m14, l0_13, e0_13, hh⟩ := hh
    replace hh := decs_cons hh; obtain ⟨m15, l0_14, e0_14, hh⟩ := hh
    replace hh := decs_cons hh; obtain ⟨m16, l0_15, e0_15, hh⟩ := hh
    replace hh := decs_cons hh; obtain ⟨m17, l0_16, e0_16, hh⟩ := hh
    replace hh := decs_cons hh; obtain ⟨m18, l0_17, e0_17, hh⟩ := hh
    replace hh := decs_cons hh; obtain ⟨m19, l0_18, e0_18, hh⟩ := hh
    replace hh := decs_cons hh; obtain ⟨m20, l0_19, e0_19, hh⟩ := hh
    replace hh := decs_cons hh; obtain ⟨m21, l0_20, e0_20, hh⟩ := hh
    replace hh := decs_cons hh; obtain ⟨m22, l0_21, e0_21, hh⟩ := hh
    replace hh := decs_nil hh; obtain ⟨rfl, hh⟩ := hh
    subst e0_21
    subst e0_20
    subst e0_19
    subst e0_18
    subst e0_17
    subst e0_16
    subst e0_15
    subst e0_14
    subst e0_13
    subst e0_12
    subst e0_11
    subst e0_10
    subst e0_9
    subst e0_8
    subst e0_7
    subst e0_6
    subst e0_5
    subst e0_4
    subst e0_3
    subst e0_2
    subst e0_1
    have ec0 := toArray_eq e0_0
    subst ec0
    unfold F_law9_epoch at hh
    exact calls_den noFns_right plan27 _ w K Try.func27 (by kernel_rfl) (by kernel_rfl) (Eq.mp (F_law9_epoch.eq  m1 m2 m3 m4 m5 m6 m7 m8 m9 m10 m11 m12 m13 m14 m15 m16 m17 m18 m19 m20 m21 m22 w.heap K) hh)
theorem ok27 : okFn Try.prog 27 = true := by kernel_rfl
end Go.Proofs.Ytcbelendjpnmiaa.V
namespace Go.Proofs.Ytcbelendjpnmiaa.V
open Go Go.RowKit
set_option linter.unusedVariables false
set_option maxRecDepth 100000
/-! tally/tallylaw9.ReplicaFences -/
def F_law9_ReplicaFences.l1 (f14_ : Int → Int → Int → Int → Heap → (Bool → Heap → Prop) → Prop) (f23_ : Option Addr → Heap → (Int → Int → Int → Sl → Heap → Prop) → Prop) (f24_ : Int → Int → Int → Sl → Int → Sl → Option Addr → Int → Heap → (Int → Int → Int → Int → Int → Int → Int → Int → Int → Int → Sl → Int → Int → ByteArray → ByteArray → Int → Int → Int → Int → Int → Int → Int → Int → Int → Int → Int → Int → Int → Int → Int → Int → Int → Sl → Int → Int → ByteArray → ByteArray → Int → Int → Int → Int → Int → Int → Int → Bool → Bool → Bool → Heap → Prop) → Prop) (f25_ : Sl → Sl → Heap → (Bool → Heap → Prop) → Prop) (f26_ : Int → Int → Int → Sl → Int → Int → Int → Sl → Heap → (Bool → Heap → Prop) → Prop) (f27_ : Int → Int → Int → Int → Int → Int → Int → Int → Int → Int → Sl → Int → Int → ByteArray → ByteArray → Int → Int → Int → Int → Int → Int → Int → Heap → (Int → Heap → Prop) → Prop) (Q : Bool → Heap → Prop) (a7 : Addr) (r16 : Option Addr) (a25 : Addr) (j28 : Heap → Prop) : Int → Int → Heap → Prop :=
  wl [(5, .one (.int .u64)), (6, .one (.int .i64))] (fun (next29 : Int → Int → Heap → Prop) (promised30 : Int) (i31 : Int) (h32 : Heap) =>
  jn [(42, .one .bool)] (fun (x35 : Bool) (h36 : Heap) =>
  brr x35
  (jn [(5, .one (.int .u64))] (fun (promised218 : Int) (h219 : Heap) =>
  next29 promised218 (IntKind.i64.wrap (i31 + 1)) h219) (fun (j37 : Int → Heap → Prop) =>
  f23_ r16 h36 fun (r38 : Int) (r39 : Int) (r40 : Int) (r41 : Sl) (h42 : Heap) =>
  al 44 [.int .u64 0, .int .u64 0, .int .u64 0, .slice none 0 0] h42 fun (a43 : Addr) (h44 : Heap) =>
  st a43 [.int .u64 r38, .int .u64 r39, .int .u64 r40, .slice r41.ptr r41.len r41.cap] h44 fun (h45 : Heap) =>
  ld [.int .u64, .int .u64, .int .u64, .sl, .int .i64, .sl] a7 h45 fun (v46 : Int) (v47 : Int) (v48 : Int) (v49 : Sl) (v50 : Int) (v51 : Sl) =>
  f24_ v46 v47 v48 v49 v50 v51 r16 i31 h45 fun (r52 : Int) (r53 : Int) (r54 : Int) (r55 : Int) (r56 : Int) (r57 : Int) (r58 : Int) (r59 : Int) (r60 : Int) (r61 : Int) (r62 : Sl) (r63 : Int) (r64 : Int) (r65 : ByteArray) (r66 : ByteArray) (r67 : Int) (r68 : Int) (r69 : Int) (r70 : Int) (r71 : Int) (r72 : Int) (r73 : Int) (r74 : Int) (r75 : Int) (r76 : Int) (r77 : Int) (r78 : Int) (r79 : Int) (r80 : Int) (r81 : Int) (r82 : Int) (r83 : Int) (r84 : Sl) (r85 : Int) (r86 : Int) (r87 : ByteArray) (r88 : ByteArray) (r89 : Int) (r90 : Int) (r91 : Int) (r92 : Int) (r93 : Int) (r94 : Int) (r95 : Int) (r96 : Bool) (r97 : Bool) (r98 : Bool) (h99 : Heap) =>
  al 42 [.int .i64 0, .int .i64 0, .int .i64 0, .int .i64 0, .int .u64 0, .int .u64 0, .int .u64 0, .int .u64 0, .int .i64 0, .int .u64 0, .slice none 0 0, .int .i64 0, .int .u64 0, .string (⟨#[]⟩ : ByteArray), .string (⟨#[]⟩ : ByteArray), .int .u64 0, .int .u64 0, .int .u64 0, .int .i64 0, .int .i64 0, .int .i64 0, .int .i64 0] h99 fun (a100 : Addr) (h101 : Heap) =>
  al 49 [.int .i64 0, .int .i64 0, .int .i64 0, .int .i64 0, .int .u64 0, .int .u64 0, .int .u64 0, .int .u64 0, .int .i64 0, .int .u64 0, .slice none 0 0, .int .i64 0, .int .u64 0, .string (⟨#[]⟩ : ByteArray), .string (⟨#[]⟩ : ByteArray), .int .u64 0, .int .u64 0, .int .u64 0, .int .i64 0, .int .i64 0, .int .i64 0, .int .i64 0, .bool false, .bool false, .bool false] h101 fun (a102 : Addr) (h103 : Heap) =>
  st a100 [.int .i64 r52, .int .i64 r53, .int .i64 r54, .int .i64 r55, .int .u64 r56, .int .u64 r57, .int .u64 r58, .int .u64 r59, .int .i64 r60, .int .u64 r61, .slice r62.ptr r62.len r62.cap, .int .i64 r63, .int .u64 r64, .string r65, .string r66, .int .u64 r67, .int .u64 r68, .int .u64 r69, .int .i64 r70, .int .i64 r71, .int .i64 r72, .int .i64 r73] h103 fun (h104 : Heap) =>
  st a102 [.int .i64 r74, .int .i64 r75, .int .i64 r76, .int .i64 r77, .int .u64 r78, .int .u64 r79, .int .u64 r80, .int .u64 r81, .int .i64 r82, .int .u64 r83, .slice r84.ptr r84.len r84.cap, .int .i64 r85, .int .u64 r86, .string r87, .string r88, .int .u64 r89, .int .u64 r90, .int .u64 r91, .int .i64 r92, .int .i64 r93, .int .i64 r94, .int .i64 r95, .bool r96, .bool r97, .bool r98] h104 fun (h105 : Heap) =>
  f23_ r16 h105 fun (r106 : Int) (r107 : Int) (r108 : Int) (r109 : Sl) (h110 : Heap) =>
  al 44 [.int .u64 0, .int .u64 0, .int .u64 0, .slice none 0 0] h110 fun (a111 : Addr) (h112 : Heap) =>
  st a111 [.int .u64 r106, .int .u64 r107, .int .u64 r108, .slice r109.ptr r109.len r109.cap] h112 fun (h113 : Heap) =>
  jn [(82, .one .bool)] (fun (x131 : Bool) (h132 : Heap) =>
  brr x131
  (Q false h132)
  (jn [(94, .one .bool)] (fun (x146 : Bool) (h147 : Heap) =>
  brr x146
  (Q false h147)
  (jn [(102, .one .bool)] (fun (x174 : Bool) (h175 : Heap) =>
  brr x174
  (Q false h175)
  (ld [.bool] (a102.add 22) h175 fun (v176 : Bool) =>
  brr (!v176)
  (j37 promised30 h175)
  (ld [.int .i64] (((a102.add 0).add 0).add 0) h175 fun (v177 : Int) =>
  jn [(5, .one (.int .u64))] (fun (promised216 : Int) (h217 : Heap) =>
  j37 promised216 h217) (fun (j178 : Int → Heap → Prop) =>
  brr (v177 == 2)
  (jn [(139, .one .bool)] (fun (x191 : Bool) (h192 : Heap) =>
  brr x191
  (Q false h192)
  (ld [.int .u64] ((a102.add 0).add 4) h192 fun (v193 : Int) =>
  j178 v193 h192)) (fun (j179 : Bool → Heap → Prop) =>
  ld [.int .u64] ((a102.add 0).add 4) h175 fun (v180 : Int) =>
  brr (decide (v180 < promised30))
  (j179 true h175)
  (ld [.int .u64, .int .u64] ((a102.add 0).add 5) h175 fun (v181 : Int) (v182 : Int) =>
  ld [.int .u64, .int .u64] a25 h175 fun (v183 : Int) (v184 : Int) =>
  brr (!((v181 == v183) && ((v182 == v184) && (true))))
  (j179 true h175)
  (ld [.sl] ((a102.add 0).add 10) h175 fun (v185 : Sl) =>
  ld [.sl] (a111.add 3) h175 fun (v186 : Sl) =>
  f25_ v185 v186 h175 fun (r187 : Bool) (h188 : Heap) =>
  brr (!r187)
  (j179 true h188)
  (ld [.int .u64] (a111.add 0) h188 fun (v189 : Int) =>
  ld [.int .u64] (a100.add 4) h188 fun (v190 : Int) =>
  j179 (v189 != v190) h188)))))
  (jn [] (fun  (h215 : Heap) =>
  j178 promised30 h215) (fun (j194 : Heap → Prop) =>
  brr (v177 == 5)
  (jn [(164, .one .bool)] (fun (x210 : Bool) (h211 : Heap) =>
  brr x210
  (Q false h211)
  (ld [.int .u64, .int .u64] ((a102.add 0).add 5) h211 fun (v212 : Int) (v213 : Int) =>
  st a25 [.int .u64 v212, .int .u64 v213] h211 fun (h214 : Heap) =>
  j194 h214)) (fun (j195 : Bool → Heap → Prop) =>
  ld [.int .u64, .int .u64] ((a102.add 0).add 5) h175 fun (v196 : Int) (v197 : Int) =>
  ld [.int .u64, .int .u64] a25 h175 fun (v198 : Int) (v199 : Int) =>
  f14_ v196 v197 v198 v199 h175 fun (r200 : Bool) (h201 : Heap) =>
  brr r200
  (j195 true h201)
  (ld [.int .u64, .int .u64] ((a102.add 0).add 5) h201 fun (v202 : Int) (v203 : Int) =>
  ld [.int .u64, .int .u64] (a100.add 5) h201 fun (v204 : Int) (v205 : Int) =>
  brr (!((v202 == v204) && ((v203 == v205) && (true))))
  (j195 true h201)
  (ld [.int .u64, .int .u64] (a111.add 1) h201 fun (v206 : Int) (v207 : Int) =>
  ld [.int .u64, .int .u64] (a100.add 5) h201 fun (v208 : Int) (v209 : Int) =>
  j195 (!((v206 == v208) && ((v207 == v209) && (true)))) h201))))
  (j194 h175))))))) (fun (j148 : Bool → Heap → Prop) =>
  ld [.bool] (a102.add 23) h147 fun (v149 : Bool) =>
  brr v149
  (ld [.int .i64, .int .i64, .int .i64, .int .i64, .int .u64, .int .u64, .int .u64, .int .u64, .int .i64, .int .u64, .sl, .int .i64, .int .u64, .str, .str, .int .u64, .int .u64, .int .u64, .int .i64, .int .i64, .int .i64, .int .i64] a100 h147 fun (v150 : Int) (v151 : Int) (v152 : Int) (v153 : Int) (v154 : Int) (v155 : Int) (v156 : Int) (v157 : Int) (v158 : Int) (v159 : Int) (v160 : Sl) (v161 : Int) (v162 : Int) (v163 : ByteArray) (v164 : ByteArray) (v165 : Int) (v166 : Int) (v167 : Int) (v168 : Int) (v169 : Int) (v170 : Int) (v171 : Int) =>
  f27_ v150 v151 v152 v153 v154 v155 v156 v157 v158 v159 v160 v161 v162 v163 v164 v165 v166 v167 v168 v169 v170 v171 h147 fun (r172 : Int) (h173 : Heap) =>
  j148 (decide (r172 < promised30)) h173)
  (j148 false h147)))) (fun (j133 : Bool → Heap → Prop) =>
  ld [.int .i64] ((a100.add 0).add 0) h132 fun (v134 : Int) =>
  brr (v134 != 0)
  (ld [.bool] (a102.add 24) h132 fun (v135 : Bool) =>
  ld [.int .u64, .int .u64, .int .u64, .sl] a111 h132 fun (v136 : Int) (v137 : Int) (v138 : Int) (v139 : Sl) =>
  ld [.int .u64, .int .u64, .int .u64, .sl] a43 h132 fun (v140 : Int) (v141 : Int) (v142 : Int) (v143 : Sl) =>
  f26_ v136 v137 v138 v139 v140 v141 v142 v143 h132 fun (r144 : Bool) (h145 : Heap) =>
  cellsAre h145 (a102.add 24) [.bool v135] ∧
  j133 (v135 == r144) h145)
  (j133 false h132)))) (fun (j114 : Bool → Heap → Prop) =>
  ld [.int .u64] (a111.add 0) h113 fun (v115 : Int) =>
  ld [.int .u64] (a43.add 0) h113 fun (v116 : Int) =>
  brr (decide (v115 < v116))
  (j114 true h113)
  (ld [.int .u64, .int .u64] (a111.add 1) h113 fun (v117 : Int) (v118 : Int) =>
  ld [.int .u64, .int .u64] (a43.add 1) h113 fun (v119 : Int) (v120 : Int) =>
  f14_ v117 v118 v119 v120 h113 fun (r121 : Bool) (h122 : Heap) =>
  brr r121
  (j114 true h122)
  (ld [.int .u64, .int .u64] (a111.add 1) h122 fun (v123 : Int) (v124 : Int) =>
  ld [.int .u64, .int .u64] (a43.add 1) h122 fun (v125 : Int) (v126 : Int) =>
  brr ((v123 == v125) && ((v124 == v126) && (true)))
  (ld [.sl] (a111.add 3) h122 fun (v127 : Sl) =>
  ld [.sl] (a43.add 3) h122 fun (v128 : Sl) =>
  f25_ v127 v128 h122 fun (r129 : Bool) (h130 : Heap) =>
  j114 (!r129) h130)
  (j114 false h122))))))
  (j28 h36)) (fun (j33 : Bool → Heap → Prop) =>
  ld [.sl] (a7.add 5) h32 fun (v34 : Sl) =>
  brr (decide (i31 < ((v34.len : Nat) : Int)))
  (j33 (decide (i31 < 500)) h32)
  (j33 false h32)))
def F_law9_ReplicaFences_of (f14_ : Int → Int → Int → Int → Heap → (Bool → Heap → Prop) → Prop) (f18_ : Heap → (Bool → Heap → Prop) → Prop) (f21_ : Int → Int → Int → Sl → Int → Heap → (Option Addr → Heap → Prop) → Prop) (f22_ : Sl → Heap → (Sl → Heap → Prop) → Prop) (f23_ : Option Addr → Heap → (Int → Int → Int → Sl → Heap → Prop) → Prop) (f24_ : Int → Int → Int → Sl → Int → Sl → Option Addr → Int → Heap → (Int → Int → Int → Int → Int → Int → Int → Int → Int → Int → Sl → Int → Int → ByteArray → ByteArray → Int → Int → Int → Int → Int → Int → Int → Int → Int → Int → Int → Int → Int → Int → Int → Int → Int → Sl → Int → Int → ByteArray → ByteArray → Int → Int → Int → Int → Int → Int → Int → Bool → Bool → Bool → Heap → Prop) → Prop) (f25_ : Sl → Sl → Heap → (Bool → Heap → Prop) → Prop) (f26_ : Int → Int → Int → Sl → Int → Int → Int → Sl → Heap → (Bool → Heap → Prop) → Prop) (f27_ : Int → Int → Int → Int → Int → Int → Int → Int → Int → Int → Sl → Int → Int → ByteArray → ByteArray → Int → Int → Int → Int → Int → Int → Int → Heap → (Int → Heap → Prop) → Prop) (l1 : Int) (l2 : Int) (l3 : Int) (l4 : Sl) (l5 : Int) (l6 : Sl) (h : Heap) (Q : Bool → Heap → Prop) : Prop :=
  al 63 [.int .u64 l1, .int .u64 l2, .int .u64 l3, .slice l4.ptr l4.len l4.cap, .int .i64 l5, .slice l6.ptr l6.len l6.cap] h fun (a7 : Addr) (h8 : Heap) =>
  ld [.int .u64] ((a7.add 0).add 0) h8 fun (v9 : Int) =>
  ld [.int .u64, .int .u64] ((a7.add 0).add 1) h8 fun (v10 : Int) (v11 : Int) =>
  ld [.sl] ((a7.add 0).add 3) h8 fun (v12 : Sl) =>
  ld [.int .i64] (a7.add 4) h8 fun (v13 : Int) =>
  f22_ v12 h8 fun (r14 : Sl) (h15 : Heap) =>
  cellsAre h15 ((a7.add 0).add 0) [.int .u64 v9] ∧
  cellsAre h15 ((a7.add 0).add 1) [.int .u64 v10, .int .u64 v11] ∧
  cellsAre h15 (a7.add 4) [.int .i64 v13] ∧
  f21_ v9 v10 v11 r14 v13 h15 fun (r16 : Option Addr) (h17 : Heap) =>
  jn [(30, .one .bool)] (fun (x21 : Bool) (h22 : Heap) =>
  brr x21
  (Q false h22)
  (ld [.int .u64, .int .u64] ((a7.add 0).add 1) h22 fun (v23 : Int) (v24 : Int) =>
  al 37 [.int .u64 0, .int .u64 0] h22 fun (a25 : Addr) (h26 : Heap) =>
  st a25 [.int .u64 v23, .int .u64 v24] h26 fun (h27 : Heap) =>
  jn [] (fun  (h220 : Heap) =>
  Q true h220) (fun (j28 : Heap → Prop) =>
  F_law9_ReplicaFences.l1 f14_ f23_ f24_ f25_ f26_ f27_ Q a7 r16 a25 j28 0 0 h27))) (fun (j18 : Bool → Heap → Prop) =>
  brr r16.isNone
  (j18 true h17)
  (f18_ h17 fun (r19 : Bool) (h20 : Heap) =>
  j18 (!r19) h20))
def F_law9_ReplicaFences (l1 : Int) (l2 : Int) (l3 : Int) (l4 : Sl) (l5 : Int) (l6 : Sl) (h : Heap) (Q : Bool → Heap → Prop) : Prop := F_law9_ReplicaFences_of F_law9_less F_law9_lives F_replica_Load F_ref0_Copy F_replica_Replica_Stored F_law9_Life_at F_ref0_Eq F_ref0_EqStored F_law9_epoch l1 l2 l3 l4 l5 l6 h Q
def plan6 : Plan := .s (.r [1]) (.s (.d [0, 1, 3, 0, 8, 24, 0, 64, 192, 448, 1023, 0, 2048, 8191, 16383] [[0, 1, 2, 3, 4, 5, 6, 7, 8, 11, 12, 9, 10, 13, 14]] [1, 3]) (.s (.s (.rj [(30, .one .bool)] [1, 3]) (.c (.s (.r [2]) .z) .z)) (.s (.r [1, 3, 4]) (.s (.r [1, 3, 4, 5]) (.s (.s (.r [1, 3, 4, 5, 6]) (.bj [] [] (.l [(5, .one (.int .u64)), (6, .one (.int .i64))] [1, 3, 4] (.s (.s (.rj [(42, .one .bool)] [1, 3, 4, 5, 6]) (.c .z .z)) (.s (.bj [(5, .one (.int .u64))] [1, 3, 4, 6] (.s (.r [1, 3, 4, 5, 6, 7]) (.s (.r [1, 3, 4, 5, 6, 7, 8, 9]) (.s (.r [1, 3, 4, 5, 6, 7, 8, 9, 10]) (.s (.s (.rj [(82, .one .bool)] [1, 3, 4, 5, 6, 7, 8, 9, 10]) (.c (.s (.r [2]) .z) .z)) (.s (.s (.dj [0, 1, 3, 7, 15, 31, 63, 31, 31, 415, 1023, 2047] [[0, 1, 2, 3, 4, 5, 6, 7, 8, 9, 10, 11]] [(94, .one .bool)] [1, 3, 4, 5, 6, 8, 9, 10]) (.c (.s (.r [2]) .z) .z)) (.s (.s (.rj [(102, .one .bool)] [1, 3, 4, 5, 6, 8, 9, 10]) (.c (.s (.r [2]) .z) .z)) (.s (.s (.r [1, 3, 4, 5, 6, 8, 9, 10, 105]) (.c .z .z)) (.s (.r [1, 3, 4, 5, 6, 8, 9, 10, 109]) (.b (.s (.r [1, 3, 4, 5, 6, 8, 9, 10, 109, 110]) (.cj [(5, .one (.int .u64))] [1, 3, 4, 6] (.s (.s (.rj [(139, .one .bool)] [1, 3, 4, 6, 9]) (.c (.s (.r [2]) .z) .z)) (.r [1, 3, 4, 5, 6])) (.s (.r [1, 3, 4, 5, 6, 8, 9, 10, 143]) (.cj [] [1, 3, 4, 5, 6] (.s (.s (.rj [(164, .one .bool)] [1, 3, 4, 5, 6, 9]) (.c (.s (.r [2]) .z) .z)) (.r [1, 3, 4, 5, 6])) .z)))))))))))))) (.r [1, 3, 4, 5, 6])))))) (.s (.r [2]) .z))))))
theorem F_law9_ReplicaFences.eq (f14_ : Int → Int → Int → Int → Heap → (Bool → Heap → Prop) → Prop) (f18_ : Heap → (Bool → Heap → Prop) → Prop) (f21_ : Int → Int → Int → Sl → Int → Heap → (Option Addr → Heap → Prop) → Prop) (f22_ : Sl → Heap → (Sl → Heap → Prop) → Prop) (f23_ : Option Addr → Heap → (Int → Int → Int → Sl → Heap → Prop) → Prop) (f24_ : Int → Int → Int → Sl → Int → Sl → Option Addr → Int → Heap → (Int → Int → Int → Int → Int → Int → Int → Int → Int → Int → Sl → Int → Int → ByteArray → ByteArray → Int → Int → Int → Int → Int → Int → Int → Int → Int → Int → Int → Int → Int → Int → Int → Int → Int → Sl → Int → Int → ByteArray → ByteArray → Int → Int → Int → Int → Int → Int → Int → Bool → Bool → Bool → Heap → Prop) → Prop) (f25_ : Sl → Sl → Heap → (Bool → Heap → Prop) → Prop) (f26_ : Int → Int → Int → Sl → Int → Int → Int → Sl → Heap → (Bool → Heap → Prop) → Prop) (f27_ : Int → Int → Int → Int → Int → Int → Int → Int → Int → Int → Sl → Int → Int → ByteArray → ByteArray → Int → Int → Int → Int → Int → Int → Int → Heap → (Int → Heap → Prop) → Prop) (l1 : Int) (l2 : Int) (l3 : Int) (l4 : Sl) (l5 : Int) (l6 : Sl) (h : Heap) (K : Value → Heap → Prop) : F_law9_ReplicaFences_of f14_ f18_ f21_ f22_ f23_ f24_ f25_ f26_ f27_ l1 l2 l3 l4 l5 l6 h (fun (r0 : Bool) (h : Heap) => K (.bool r0) h) =
    den Try.prog (fn1 14 (E_law9_less_of f14_) (fn1 18 (E_law9_lives_of f18_) (fn1 21 (E_replica_Load_of f21_) (fn1 22 (E_ref0_Copy_of f22_) (fn1 23 (E_replica_Replica_Stored_of f23_) (fn1 24 (E_law9_Life_at_of f24_) (fn1 25 (E_ref0_Eq_of f25_) (fn1 26 (E_ref0_EqStored_of f26_) (fn1 27 (E_law9_epoch_of f27_) noFns))))))))) Try.f6.ntmps plan6 (bodyOf Try.f6) (args0 0 [(.agg #[.int .u64 l1, .int .u64 l2, .int .u64 l3, .slice l4.ptr l4.len l4.cap, .int .i64 l5, .slice l6.ptr l6.len l6.cap] : Value)]) h ⟨fun env h => dRes Try.prog Try.f6.results.toList env h K, fun _ _ _ => False, fun env h => dRes Try.prog Try.f6.results.toList env h K⟩ := by kernel_rfl
def E_law9_ReplicaFences_of (f : Int → Int → Int → Sl → Int → Sl → Heap → (Bool → Heap → Prop) → Prop) : List Value → Heap → (Value → Heap → Prop) → Prop
  | [v0], h, K => vAgg v0 fun cs0 => decs [.int .u64, .int .u64, .int .u64, .sl, .int .i64, .sl] cs0.toList fun (l1 : Int) (l2 : Int) (l3 : Int) (l4 : Sl) (l5 : Int) (l6 : Sl) =>
  f l1 l2 l3 l4 l5 l6 h (fun (r0 : Bool) (h : Heap) => K (.bool r0) h)
  | _, _, _ => False
abbrev E_law9_ReplicaFences := E_law9_ReplicaFences_of F_law9_ReplicaFences
theorem E_law9_ReplicaFences.at (f : Int → Int → Int → Sl → Int → Sl → Heap → (Bool → Heap → Prop) → Prop) (l1 : Int) (l2 : Int) (l3 : Int) (l4 : Sl) (l5 : Int) (l6 : Sl) (h : Heap) (K : Value → Heap → Prop) : E_law9_ReplicaFences_of f [.agg ([.int .u64 l1, .int .u64 l2, .int .u64 l3, .slice l4.ptr l4.len l4.cap, .int .i64 l5, .slice l6.ptr l6.len l6.cap] : List Value).toArray] h K = f l1 l2 l3 l4 l5 l6 h (fun (r0 : Bool) (h : Heap) => K (.bool r0) h) := rfl
theorem E_law9_ReplicaFences.right : IsRight Try.prog 6 E_law9_ReplicaFences := by
  refine isRight fun vs K w hh => ?_
  match vs, hh with
  | [v0], hh =>
    unfold E_law9_ReplicaFences E_law9_ReplicaFences_of at hh
    replace hh := vAgg_sound hh; obtain ⟨cs0, rfl, hh⟩ := hh
    replace hh := decs_cons hh; obtain ⟨l1, l0_0, e0_0, hh⟩ := hh
    replace hh := decs_cons hh; obtain ⟨l2, l0_1, e0_1, hh⟩ := hh
    replace hh := decs_cons hh; obtain ⟨l3, l0_2, e0_2, hh⟩ := hh
    replace hh := decs_cons hh; obtain ⟨l4, l0_3, e0_3, hh⟩ := hh
    replace hh := decs_cons hh; obtain ⟨l5, l0_4, e0_4, hh⟩ := hh
    replace hh := decs_cons hh; obtain ⟨l6, l0_5, e0_5, hh⟩ := hh
    replace hh := decs_nil hh; obtain ⟨rfl, hh⟩ := hh
    subst e0_5
    subst e0_4
    subst e0_3
    subst e0_2
    subst e0_1
    have ec0 := toArray_eq e0_0
    subst ec0
    unfold F_law9_ReplicaFences at hh
    exact calls_den (fn1_right ok14 E_law9_less.right (fn1_right ok18 E_law9_lives.right (fn1_right ok21 E_replica_Load.right (fn1_right ok22 E_ref0_Copy.right (fn1_right ok23 E_replica_Replica_Stored.right (fn1_right ok24 E_law9_Life_at.right (fn1_right ok25 E_ref0_Eq.right (fn1_right ok26 E_ref0_EqStored.right (fn1_right ok27 E_law9_epoch.right noFns_right))))))))) plan6 _ w K Try.func6 (by kernel_rfl) (by kernel_rfl) (Eq.mp (F_law9_ReplicaFences.eq F_law9_less F_law9_lives F_replica_Load F_ref0_Copy F_replica_Replica_Stored F_law9_Life_at F_ref0_Eq F_ref0_EqStored F_law9_epoch l1 l2 l3 l4 l5 l6 w.heap K) hh)
theorem ok6 : okFn Try.prog 6 = true := by kernel_rfl
end Go.Proofs.Ytcbelendjpnmiaa.V
/- What a replica keeps and promises never falls: what ReplicaFences plays. -/
namespace Go.Proofs.Ytcbelendjpnmiaa.V
open Go Go.RowKit
set_option linter.unusedVariables false
set_option linter.unusedSimpArgs false
structure Fence (r r2 : RS) (d : HD) (m : Mg) : Prop where
  prom : r.prom ≤ r2.prom
  tag : ¬ tagLt r2.te r2.ts r.te r.ts
  val : r2.te = r.te → r2.ts = r.ts → r2.val = r.val
  chg : m.kind ≠ 0 → d.chg = !decide (r2.prom = r.prom ∧ r2.te = r.te ∧ r2.ts = r.ts ∧ r2.val = r.val)
  tak : d.tak = true → r.prom ≤ (if m.kind = 4 then m.te else m.epoch)
  k2 : d.kind = 2 → d.epoch = m.epoch ∧ r.prom ≤ m.epoch ∧ d.te = r.te ∧ d.ts = r.ts ∧ d.val = r2.val ∧ r2.prom = m.epoch ∧ r2.te = r.te ∧ r2.ts = r.ts
  k5 : d.kind = 5 → d.te = m.te ∧ d.ts = m.ts ∧ r2.te = m.te ∧ r2.ts = m.ts ∧ ¬ tagLt m.te m.ts r.te r.ts
  ko : d.kind ≠ 5 → r2.te = r.te ∧ r2.ts = r.ts
theorem tagLt_irr {a b : Int} : ¬ tagLt a b a b := by unfold tagLt; omega
theorem Fence.same {r : RS} {d : HD} {m : Mg} (h1 : d.chg = false) (h2 : d.tak = true → r.prom ≤ (if m.kind = 4 then m.te else m.epoch)) (h3 : d.kind ≠ 2) (h4 : d.kind ≠ 5) : Fence r r d m :=
  ⟨Int.le_refl _, tagLt_irr, fun _ _ => rfl, fun _ => by simp [h1], h2, fun q => absurd q h3, fun q => absurd q h4, fun _ => ⟨rfl, rfl⟩⟩
theorem Fence.seal {r r2 : RS} {d : HD} {m : Mg} (F : Fence r r2 d m) : Fence r r2 (d.seal m) m := by
  unfold HD.seal
  split
  · exact F
  · exact ⟨F.prom, F.tag, F.val, F.chg, F.tak, F.k2, F.k5, F.ko⟩
theorem bne_st {r : RS} {e : Int} : (r.prom != e) = !decide (e = r.prom ∧ r.te = r.te ∧ r.ts = r.ts ∧ r.val = r.val) := by
  by_cases h : r.prom = e
  · subst h; simp
  · have h2 : ¬ e = r.prom := fun q => h q.symm
    simp [h, h2]
theorem act_fence (r : RS) (m : Mg) : Fence r (act r m).1 (act r m).2 m := by
  unfold act
  by_cases h1 : m.kind = 1
  · simp only [if_pos h1]
    unfold prep
    by_cases hc : m.epoch < r.prom ∨ (r.prom < m.epoch ∧ 0 < r.wait)
    · simp only [if_pos hc]
      exact Fence.same rfl (fun q => by simp [refusal, hd0] at q) (by simp [refusal]) (by simp [refusal])
    · simp only [if_neg hc]
      refine ⟨by show r.prom ≤ m.epoch; omega, tagLt_irr, fun _ _ => rfl, fun _ => ?_, fun q => by simp [hd0] at q, fun _ => ⟨rfl, by omega, rfl, rfl, rfl, rfl, rfl, rfl⟩, fun q => by simp at q, fun _ => ⟨rfl, rfl⟩⟩
      exact bne_st
  by_cases h4 : m.kind = 4
  · simp only [if_neg h1, if_pos h4]
    unfold writ
    by_cases hc : m.te < r.prom
    · simp only [if_pos hc]
      exact Fence.same rfl (fun q => by simp [refusal, hd0] at q) (by simp [refusal]) (by simp [refusal])
    · simp only [if_neg hc]
      have hpm : (r.prom != m.te) = !decide (m.te = r.prom ∧ r.te = r.te ∧ r.ts = r.ts ∧ r.val = r.val) := bne_st
      by_cases hl : tagLt m.te m.ts r.te r.ts
      · simp only [if_pos hl]
        exact ⟨by show r.prom ≤ m.te; omega, tagLt_irr, fun _ _ => rfl, fun _ => hpm, fun q => by rw [if_pos h4]; omega, fun q => by simp [hd0] at q, fun q => by simp [hd0] at q, fun _ => ⟨rfl, rfl⟩⟩
      · simp only [if_neg hl]
        by_cases hg : tagLt r.te r.ts m.te m.ts
        · simp only [if_pos hg]
          refine ⟨by show r.prom ≤ m.te; omega, ?_, ?_, fun _ => ?_, fun q => by rw [if_pos h4]; omega, fun q => by simp at q, fun _ => ⟨rfl, rfl, rfl, rfl, hl⟩, fun q => absurd rfl q⟩
          · exact hl
          · intro a b
            have a : m.te = r.te := a
            have b : m.ts = r.ts := b
            rw [a, b] at hg
            exact absurd hg tagLt_irr
          · show true = !decide (m.te = r.prom ∧ m.te = r.te ∧ m.ts = r.ts ∧ m.b = r.val)
            rw [eq_comm, Bool.not_eq_true', decide_eq_false_iff_not]
            rintro ⟨_, a, b, _⟩
            rw [a, b] at hg
            exact tagLt_irr hg
        · simp only [if_neg hg]
          have ht : r.te = m.te ∧ r.ts = m.ts := by unfold tagLt at hl hg; omega
          exact ⟨by show r.prom ≤ m.te; omega, tagLt_irr, fun _ _ => rfl, fun _ => hpm, fun q => by rw [if_pos h4]; omega, fun q => by simp at q, fun _ => ⟨rfl, rfl, ht.1, ht.2, hl⟩, fun q => absurd rfl q⟩
  by_cases h6 : m.kind = 6
  · simp only [if_neg h1, if_neg h4, if_pos h6]
    unfold beats
    by_cases hc : m.epoch < r.prom
    · simp only [if_pos hc]
      exact Fence.same rfl (fun q => by simp [refusal, hd0] at q) (by simp [refusal]) (by simp [refusal])
    · simp only [if_neg hc]
      refine ⟨by show r.prom ≤ m.epoch; omega, tagLt_irr, fun _ _ => rfl, fun _ => ?_, fun q => by rw [if_neg h4]; omega, fun q => by simp at q, fun q => by simp at q, fun _ => ⟨rfl, rfl⟩⟩
      exact bne_st
  · simp only [if_neg h1, if_neg h4, if_neg h6]
    exact Fence.same rfl (fun q => by simp [hd0] at q) (by simp [hd0]) (by simp [hd0])
theorem life_fence (r : RS) (o : ROp) : Fence r (lifeS r o) (lifeD r o) (lifeM o) := by
  unfold lifeS lifeD lifeM
  by_cases h1 : o.do_ = 1
  · simp only [if_pos h1]
    exact (act_fence r o.m).seal
  simp only [if_neg h1]
  have g : ∀ r2 : RS, r.prom ≤ r2.prom → r2.te = r.te → r2.ts = r.ts → r2.val = r.val → Fence r r2 hd0 mg0 := fun r2 a b c e =>
    ⟨a, by rw [b, c]; exact tagLt_irr, fun _ _ => e, fun q => absurd rfl q, fun q => by simp [hd0] at q, fun q => by simp [hd0] at q, fun q => by simp [hd0] at q, fun _ => ⟨b, c⟩⟩
  split
  · exact g _ (Int.le_refl _) rfl rfl rfl
  split
  · exact g _ (by show r.prom ≤ (if r.prom > o.epoch then r.prom else o.epoch); split <;> omega) rfl rfl rfl
  · exact g _ (Int.le_refl _) rfl rfl rfl
theorem seal_kind2 {d : HD} {m : Mg} : (d.seal m).kind = d.kind := by unfold HD.seal; split <;> rfl
theorem life_ans {r : RS} {o : ROp} : (lifeD r o).kind ≠ 0 → (lifeD r o).ans = true := by
  unfold lifeD
  split
  · intro h
    have h2 : ((act r o.m).2.seal o.m).kind ≠ 0 := h
    rw [seal_kind2] at h2
    show ((act r o.m).2.seal o.m).ans = true
    unfold HD.seal
    rw [if_neg h2]
  · intro h
    exact absurd rfl h
section
variable {h0 h : Heap} {L : List Res}
theorem F_law9_less.is {a b c d : Int} {Q : Bool → Heap → Prop} (O : Sat h0 h L) (k : ∀ h', Sat h0 h' L → Q (decide (tagLt a b c d)) h') : F_law9_less a b c d h Q := by
  rw [F_law9_less.eq_1, F_law9_less_of.eq_1]
  repeat (first
    | (with_reducible refine al_id ?_); refine O.al fun _ h O => ?_
    | (with_reducible refine nn_id ?_); refine ⟨_, rfl, ?_⟩
    | (with_reducible refine ld_id ?_); (first | refine O.ld 0 rfl ?_ | refine O.ld 1 rfl ?_); (repeat (first | (with_reducible refine ldL_n ?_) | refine ldL_s ?_ | refine ldL_c ?_))
    | (with_reducible refine st_ad (by first | (with_reducible rfl) | (simp only [pt_add, Nat.zero_add, Nat.add_zero, Nat.reduceAdd]; with_reducible rfl)) ?_); (first | refine O.st 0 rfl (by simp) rfl fun h O => ?_ | refine O.st 1 rfl (by simp) rfl fun h O => ?_); (dsimp only [V.put, List.set, List.length_cons, List.length_nil] at O)
    | (with_reducible refine ca_id ?_); (first | refine ⟨cellsAre_blk (O.blk (i := 0) (by simp) rfl).2 _ 1, ?_⟩ | refine ⟨cellsAre_blk (O.blk (i := 0) (by simp) rfl).2 _ 2, ?_⟩ | refine ⟨cellsAre_blk (O.blk (i := 1) (by simp) rfl).2 _ 1, ?_⟩ | refine ⟨cellsAre_blk (O.blk (i := 1) (by simp) rfl).2 _ 2, ?_⟩))
  refine F_ref0_CmpTag.is O fun h O => ?_
  have e : decide ((if tagLt a b c d then (-1 : Int) else if a = c ∧ b = d then 0 else 1) < 0) = decide (tagLt a b c d) := by
    apply decide_eq_decide.2
    split
    · simp_all
    · split <;> simp_all
  rw [e]
  exact k _ O.drop.drop
theorem F_law9_epoch.is {m : Mg} {Q : Int → Heap → Prop} (O : Sat h0 h L) (k : ∀ h', Sat h0 h' L → Q (if m.kind = 4 then m.te else m.epoch) h') : F_law9_epoch m.kind m.frm m.to m.shard m.epoch m.te m.ts m.round m.span m.seen m.v m.peer m.num m.name m.other m.amount m.life m.id m.op m.client m.state m.bad h Q := by
  rw [F_law9_epoch.eq_1, F_law9_epoch_of.eq_1]
  repeat (first
    | (with_reducible refine al_id ?_); refine O.al fun _ h O => ?_
    | (with_reducible refine nn_id ?_); refine ⟨_, rfl, ?_⟩
    | (with_reducible refine ld_id ?_); (first | refine O.ld 0 rfl ?_); (repeat (first | (with_reducible refine ldL_n ?_) | refine ldL_s ?_ | refine ldL_c ?_))
    | (with_reducible refine st_ad (by first | (with_reducible rfl) | (simp only [pt_add, Nat.zero_add, Nat.add_zero, Nat.reduceAdd]; with_reducible rfl)) ?_); (first | refine O.st 0 rfl (by simp) rfl fun h O => ?_); (dsimp only [V.put, List.set, List.length_cons, List.length_nil] at O)
    | (with_reducible refine ca_id ?_); (first | refine ⟨cellsAre_blk (O.blk (i := 0) (by simp) rfl).2 _ 1, ?_⟩ | refine ⟨cellsAre_blk (O.blk (i := 0) (by simp) rfl).2 _ 2, ?_⟩))
  refine brr_eq (fun h4 => ?_) (fun h4 => ?_)
  · rw [if_pos h4] at k
    repeat (first
      | (with_reducible refine al_id ?_); refine O.al fun _ h O => ?_
      | (with_reducible refine nn_id ?_); refine ⟨_, rfl, ?_⟩
      | (with_reducible refine ld_id ?_); (first | refine O.ld 0 rfl ?_); (repeat (first | (with_reducible refine ldL_n ?_) | refine ldL_s ?_ | refine ldL_c ?_))
      | (with_reducible refine st_ad (by first | (with_reducible rfl) | (simp only [pt_add, Nat.zero_add, Nat.add_zero, Nat.reduceAdd]; with_reducible rfl)) ?_); (first | refine O.st 0 rfl (by simp) rfl fun h O => ?_); (dsimp only [V.put, List.set, List.length_cons, List.length_nil] at O)
      | (with_reducible refine ca_id ?_); (first | refine ⟨cellsAre_blk (O.blk (i := 0) (by simp) rfl).2 _ 1, ?_⟩ | refine ⟨cellsAre_blk (O.blk (i := 0) (by simp) rfl).2 _ 2, ?_⟩))
    exact k _ O.drop
  · rw [if_neg h4] at k
    repeat (first
      | (with_reducible refine al_id ?_); refine O.al fun _ h O => ?_
      | (with_reducible refine nn_id ?_); refine ⟨_, rfl, ?_⟩
      | (with_reducible refine ld_id ?_); (first | refine O.ld 0 rfl ?_); (repeat (first | (with_reducible refine ldL_n ?_) | refine ldL_s ?_ | refine ldL_c ?_))
      | (with_reducible refine st_ad (by first | (with_reducible rfl) | (simp only [pt_add, Nat.zero_add, Nat.add_zero, Nat.reduceAdd]; with_reducible rfl)) ?_); (first | refine O.st 0 rfl (by simp) rfl fun h O => ?_); (dsimp only [V.put, List.set, List.length_cons, List.length_nil] at O)
      | (with_reducible refine ca_id ?_); (first | refine ⟨cellsAre_blk (O.blk (i := 0) (by simp) rfl).2 _ 1, ?_⟩ | refine ⟨cellsAre_blk (O.blk (i := 0) (by simp) rfl).2 _ 2, ?_⟩))
    exact k _ O.drop
end
theorem replicaFences_main (H : Heap) (cs : List Value) (F : Fit H 140737488351232 tyLife cs) : E_law9_ReplicaFences [.agg cs.toArray] H (fun r h' => r = .bool true ∧ KeptH H h') := by
  replace F := Fit.g F
  obtain ⟨t1, _, rfl, t1a, t1b, F⟩ := Fit.i F
  replace F := Fit.g F
  replace F := Fit.g F
  obtain ⟨t2, _, rfl, t2a, t2b, F⟩ := Fit.i F
  replace F := Fit.g F
  obtain ⟨t3, _, rfl, t3a, t3b, F⟩ := Fit.i F
  replace F := Fit.z F
  replace F := Fit.g F
  obtain ⟨t4, _, rfl, t4S, F⟩ := Fit.s F
  replace F := Fit.z F
  obtain ⟨t5, _, rfl, t5a, t5b, F⟩ := Fit.i F
  obtain ⟨t6, _, rfl, t6S, F⟩ := Fit.s F
  obtain rfl := Fit.e F
  refine Eq.mpr (E_law9_ReplicaFences.at F_law9_ReplicaFences t1 t2 t3 t4 t5 t6 H _) ?_
  obtain ⟨ops, Vo⟩ := t6S.rops
  obtain ⟨_, b2, lv, Vl⟩ := t4S.bytes
  have hlv := Vl.len
  rw [i64_max] at t5b
  rw [u64_min] at t1a
  rw [F_law9_ReplicaFences.eq_1, F_law9_ReplicaFences_of.eq_1]
  refine Sat.al (Sat.nil H) fun x7 h1 O => ?_
  repeat (first
    | (with_reducible refine al_id ?_); refine O.al fun _ h O => ?_
    | (with_reducible refine nn_id ?_); refine ⟨_, rfl, ?_⟩
    | (with_reducible refine ld_id ?_); (first | refine O.ld 0 rfl ?_); (repeat (first | (with_reducible refine ldL_n ?_) | refine ldL_s ?_ | refine ldL_c ?_))
    | (with_reducible refine st_ad (by first | (with_reducible rfl) | (simp only [pt_add, Nat.zero_add, Nat.add_zero, Nat.reduceAdd]; with_reducible rfl)) ?_); (first | refine O.st 0 rfl (by simp) rfl fun h O => ?_); (dsimp only [V.put, List.set, List.length_cons, List.length_nil] at O)
    | (with_reducible refine ca_id ?_); (first | refine ⟨cellsAre_blk (O.blk (i := 0) (by simp) rfl).2 _ 1, ?_⟩ | refine ⟨cellsAre_blk (O.blk (i := 0) (by simp) rfl).2 _ 2, ?_⟩))
  refine F_ref0_Copy.is O (Vl.kept O.kept) (by omega) fun s h O _ _ => ?_
  repeat (first
    | (with_reducible refine al_id ?_); refine O.al fun _ h O => ?_
    | (with_reducible refine nn_id ?_); refine ⟨_, rfl, ?_⟩
    | (with_reducible refine ld_id ?_); (first | refine O.ld 0 rfl ?_ | refine O.ld 1 rfl ?_); (repeat (first | (with_reducible refine ldL_n ?_) | refine ldL_s ?_ | refine ldL_c ?_))
    | (with_reducible refine st_ad (by first | (with_reducible rfl) | (simp only [pt_add, Nat.zero_add, Nat.add_zero, Nat.reduceAdd]; with_reducible rfl)) ?_); (first | refine O.st 0 rfl (by simp) rfl fun h O => ?_ | refine O.st 1 rfl (by simp) rfl fun h O => ?_); (dsimp only [V.put, List.set, List.length_cons, List.length_nil] at O)
    | (with_reducible refine ca_id ?_); (first | refine ⟨cellsAre_blk (O.blk (i := 0) (by simp) rfl).2 _ 1, ?_⟩ | refine ⟨cellsAre_blk (O.blk (i := 0) (by simp) rfl).2 _ 2, ?_⟩ | refine ⟨cellsAre_blk (O.blk (i := 1) (by simp) rfl).2 _ 1, ?_⟩ | refine ⟨cellsAre_blk (O.blk (i := 1) (by simp) rfl).2 _ 2, ?_⟩))
  refine F_replica_Load.is O (fun h O => (O.view 0 u8_len (by simp) rfl).1) (by omega) fun p h O => ?_
  have O := O.sel [0, 2] 3 rfl (Nat.le_add_left _ _)
  have start : ∃ r : RS, r.Ok ∧ 0 ≤ r.prom ∧ r.te = t2 ∧ r.ts = t3 ∧ Sat H h [repR p r, own x7 [.int .u64 t1, .int .u64 t2, .int .u64 t3, .slice t4.ptr t4.len t4.cap, .int .i64 t5, .slice t6.ptr t6.len t6.cap]] :=
    ⟨_, ⟨by show lv.length ≤ _; omega, (spanOf_ok t5b).1, (spanOf_ok t5b).2⟩, t1a, rfl, rfl, O⟩
  clear O
  obtain ⟨r, ok, hp0, hte, hts, O⟩ := start
  refine jn1 (fun z h' => z = false ∧ Sat H h' [repR p r, own x7 [.int .u64 t1, .int .u64 t2, .int .u64 t3, .slice t4.ptr t4.len t4.cap, .int .i64 t5, .slice t6.ptr t6.len t6.cap]]) ?_ ?_
  case refine_2 =>
    intro j hj
    refine brr_ff rfl ?_
    refine F_law9_lives.is O fun h O => ?_
    exact hj _ _ ⟨rfl, O⟩
  clear O
  rintro z h ⟨rfl, O⟩
  refine brr_ff rfl ?_
  refine O.ld 1 rfl (ldL_c (ldL_c (ldL_n ?_)))
  refine O.al fun x25 h O => ?_
  refine O.st 0 rfl (by simp) rfl fun h O => ?_
  dsimp only [V.put, List.set] at O
  refine jn0 (fun h' => KeptH H h') (fun h hk => ⟨rfl, hk⟩) fun j28 hj28 => ?_
  replace O := O.sel [1, 0, 2] 3 rfl (Nat.le_add_left _ _)
  simp only [selT, List.map, nth, List.drop, List.cons_append, List.nil_append] at O
  have O : Sat H h [repR p r, own x25 [.int .u64 r.te, .int .u64 r.ts], own x7 [.int .u64 t1, .int .u64 t2, .int .u64 t3, .slice t4.ptr t4.len t4.cap, .int .i64 t5, .slice t6.ptr t6.len t6.cap]] := by rw [hte, hts]; exact O
  rw [F_law9_ReplicaFences.l1.eq_1]
  refine wl2 (k := .int .u64) (l := .int .i64) (fun (m : Nat) (pm : Int) (i : Int) (h' : Heap) => i + m = ops.length ∧ 0 ≤ i ∧ i ≤ 500 ∧ ∃ r : RS, r.Ok ∧ pm ≤ r.prom ∧ Sat H h' [repR p r, own x25 [.int .u64 r.te, .int .u64 r.ts], own x7 [.int .u64 t1, .int .u64 t2, .int .u64 t3, .slice t4.ptr t4.len t4.cap, .int .i64 t5, .slice t6.ptr t6.len t6.cap]]) ?_ (m := ops.length) ⟨by omega, by omega, by omega, r, ok, hp0, O⟩
  clear O
  rintro m (pm : Int) (i : Int) h next hn ⟨hi, hi0, hi5, r, ok, hpm, O⟩
  refine jn1 (fun t h' => h' = h ∧ t = decide (i < ops.length ∧ i < 500)) ?_ ?_
  case refine_2 =>
    intro j2 hj2
    repeat (first
      | (with_reducible refine al_id ?_); refine O.al fun _ h O => ?_
      | (with_reducible refine nn_id ?_); refine ⟨_, rfl, ?_⟩
      | (with_reducible refine ld_id ?_); (first | refine O.ld 0 rfl ?_ | refine O.ld 1 rfl ?_ | refine O.ld 2 rfl ?_); (repeat (first | (with_reducible refine ldL_n ?_) | refine ldL_s ?_ | refine ldL_c ?_))
      | (with_reducible refine st_ad (by first | (with_reducible rfl) | (simp only [pt_add, Nat.zero_add, Nat.add_zero, Nat.reduceAdd]; with_reducible rfl)) ?_); (first | refine O.st 0 rfl (by simp) rfl fun h O => ?_ | refine O.st 1 rfl (by simp) rfl fun h O => ?_ | refine O.st 2 rfl (by simp) rfl fun h O => ?_); (dsimp only [V.put, List.set, List.length_cons, List.length_nil] at O)
      | (with_reducible refine ca_id ?_); (first | refine ⟨cellsAre_blk (O.blk (i := 0) (by simp) rfl).2 _ 1, ?_⟩ | refine ⟨cellsAre_blk (O.blk (i := 0) (by simp) rfl).2 _ 2, ?_⟩ | refine ⟨cellsAre_blk (O.blk (i := 1) (by simp) rfl).2 _ 1, ?_⟩ | refine ⟨cellsAre_blk (O.blk (i := 1) (by simp) rfl).2 _ 2, ?_⟩ | refine ⟨cellsAre_blk (O.blk (i := 2) (by simp) rfl).2 _ 1, ?_⟩ | refine ⟨cellsAre_blk (O.blk (i := 2) (by simp) rfl).2 _ 2, ?_⟩))
    rw [Vo.len]
    refine brr_p (fun hlt => ?_) (fun hlt => ?_)
    · exact hj2 _ _ ⟨rfl, by simp [hlt]⟩
    · exact hj2 _ _ ⟨rfl, by simp; intro h; omega⟩
  rintro t h ⟨rfl, rfl⟩
  refine brr_p (fun ht => ?_) (fun ht => hj28 _ O.kept)
  obtain ⟨hlt, hlt5⟩ := ht
  refine jn1 (fun (pm2 : Int) h' => ∃ r : RS, r.Ok ∧ pm2 ≤ r.prom ∧ Sat H h' [repR p r, own x25 [.int .u64 r.te, .int .u64 r.ts], own x7 [.int .u64 t1, .int .u64 t2, .int .u64 t3, .slice t4.ptr t4.len t4.cap, .int .i64 t5, .slice t6.ptr t6.len t6.cap]]) ?_ ?_
  · clear O
    rintro (pm2 : Int) h ⟨r, ok, hpm, O⟩
    rw [wrap64 (by omega) (by omega)]
    exact hn (m - 1) _ _ _ (by omega) ⟨by omega, by omega, by omega, r, ok, hpm, O⟩
  clear hn
  intro j37 hj37
  obtain ⟨o, ho⟩ : ∃ o, ops[i.toNat]? = some o := ⟨_, List.getElem?_eq_getElem (by omega)⟩
  have oo : o.Ok H := by
    obtain ⟨a, cs, _, _, ⟨_, oo⟩, _⟩ := Vo.2 _ _ ho
    exact oo
  have ok2 : (lifeS r o).Ok := lifeS_ok ok oo
  have hdv := lifeD_val (o := o) ok
  have fe := life_fence r o
  have fa := life_ans (r := r) (o := o)
  refine F_replica_Replica_Stored.is ok O fun s h O => ?_
  refine O.al fun x43 h O => ?_
  refine O.st 0 rfl (by simp) rfl fun h O => ?_
  dsimp only [V.put, List.set] at O
  repeat (first
    | (with_reducible refine al_id ?_); refine O.al fun _ h O => ?_
    | (with_reducible refine nn_id ?_); refine ⟨_, rfl, ?_⟩
    | (with_reducible refine ld_id ?_); (first | refine O.ld 0 rfl ?_ | refine O.ld 1 rfl ?_ | refine O.ld 2 rfl ?_ | refine O.ld 3 rfl ?_ | refine O.ld 4 rfl ?_); (repeat (first | (with_reducible refine ldL_n ?_) | refine ldL_s ?_ | refine ldL_c ?_))
    | (with_reducible refine st_ad (by first | (with_reducible rfl) | (simp only [pt_add, Nat.zero_add, Nat.add_zero, Nat.reduceAdd]; with_reducible rfl)) ?_); (first | refine O.st 0 rfl (by simp) rfl fun h O => ?_ | refine O.st 1 rfl (by simp) rfl fun h O => ?_ | refine O.st 2 rfl (by simp) rfl fun h O => ?_ | refine O.st 3 rfl (by simp) rfl fun h O => ?_ | refine O.st 4 rfl (by simp) rfl fun h O => ?_); (dsimp only [V.put, List.set, List.length_cons, List.length_nil] at O)
    | (with_reducible refine ca_id ?_); (first | refine ⟨cellsAre_blk (O.blk (i := 0) (by simp) rfl).2 _ 1, ?_⟩ | refine ⟨cellsAre_blk (O.blk (i := 0) (by simp) rfl).2 _ 2, ?_⟩ | refine ⟨cellsAre_blk (O.blk (i := 1) (by simp) rfl).2 _ 1, ?_⟩ | refine ⟨cellsAre_blk (O.blk (i := 1) (by simp) rfl).2 _ 2, ?_⟩ | refine ⟨cellsAre_blk (O.blk (i := 2) (by simp) rfl).2 _ 1, ?_⟩ | refine ⟨cellsAre_blk (O.blk (i := 2) (by simp) rfl).2 _ 2, ?_⟩ | refine ⟨cellsAre_blk (O.blk (i := 3) (by simp) rfl).2 _ 1, ?_⟩ | refine ⟨cellsAre_blk (O.blk (i := 3) (by simp) rfl).2 _ 2, ?_⟩ | refine ⟨cellsAre_blk (O.blk (i := 4) (by simp) rfl).2 _ 1, ?_⟩ | refine ⟨cellsAre_blk (O.blk (i := 4) (by simp) rfl).2 _ 2, ?_⟩))
  replace O := O.sel [2, 0, 1, 3, 4] 5 rfl (Nat.le_add_left _ _)
  simp only [selT, List.map, nth, List.drop, List.cons_append, List.nil_append] at O
  refine F_law9_Life_at.is Vo hi0 ho ok O fun s1 h O => ?_
  refine O.al fun x100 h O => ?_
  refine O.al fun x102 h O => ?_
  refine O.st 1 rfl (by simp) rfl fun h O => ?_
  dsimp only [V.put, List.set] at O
  refine O.st 0 rfl (by simp) rfl fun h O => ?_
  dsimp only [V.put, List.set] at O
  replace O := O.sel [3, 0, 1, 2, 4, 5, 6, 7] 8 rfl (Nat.le_add_left _ _)
  simp only [selT, List.map, nth, List.drop, List.cons_append, List.nil_append] at O
  refine F_replica_Replica_Stored.is ok2 O fun s2 h O => ?_
  refine O.al fun x111 h O => ?_
  refine O.st 0 rfl (by simp) rfl fun h O => ?_
  dsimp only [V.put, List.set] at O
  generalize lifeS r o = r2 at O ok2 fe
  generalize lifeD r o = d at O hdv fe fa
  have hmb := lifeM_b oo
  generalize lifeM o = mm at O fe hmb
  have O : Sat H h [own x111 [.int .u64 r2.prom, .int .u64 r2.te, .int .u64 r2.ts, .slice s2.ptr s2.len s2.cap], buf 1 u8 s2 r2.val, repR p r2, own x102 (hdC d s1), own x100 (mgC mm), buf 1 u8 s1 d.val, own x43 [.int .u64 r.prom, .int .u64 r.te, .int .u64 r.ts, .slice s.ptr s.len s.cap], buf 1 u8 s r.val, own x25 [.int .u64 r.te, .int .u64 r.ts], own x7 [.int .u64 t1, .int .u64 t2, .int .u64 t3, .slice t4.ptr t4.len t4.cap, .int .i64 t5, .slice t6.ptr t6.len t6.cap]] := O
  refine jn1 (fun z h' => z = false ∧ Sat H h' [own x111 [.int .u64 r2.prom, .int .u64 r2.te, .int .u64 r2.ts, .slice s2.ptr s2.len s2.cap], buf 1 u8 s2 r2.val, repR p r2, own x102 (hdC d s1), own x100 (mgC mm), buf 1 u8 s1 d.val, own x43 [.int .u64 r.prom, .int .u64 r.te, .int .u64 r.ts, .slice s.ptr s.len s.cap], buf 1 u8 s r.val, own x25 [.int .u64 r.te, .int .u64 r.ts], own x7 [.int .u64 t1, .int .u64 t2, .int .u64 t3, .slice t4.ptr t4.len t4.cap, .int .i64 t5, .slice t6.ptr t6.len t6.cap]]) ?_ ?_
  case refine_2 =>
    intro j hj
    repeat (first
      | (with_reducible refine al_id ?_); refine O.al fun _ h O => ?_
      | (with_reducible refine nn_id ?_); refine ⟨_, rfl, ?_⟩
      | (with_reducible refine ld_id ?_); (first | refine O.ld 0 rfl ?_ | refine O.ld 1 rfl ?_ | refine O.ld 2 rfl ?_ | refine O.ld 3 rfl ?_ | refine O.ld 4 rfl ?_ | refine O.ld 5 rfl ?_ | refine O.ld 6 rfl ?_ | refine O.ld 7 rfl ?_ | refine O.ld 8 rfl ?_ | refine O.ld 9 rfl ?_); (repeat (first | (with_reducible refine ldL_n ?_) | refine ldL_s ?_ | refine ldL_c ?_))
      | (with_reducible refine st_ad (by first | (with_reducible rfl) | (simp only [pt_add, Nat.zero_add, Nat.add_zero, Nat.reduceAdd]; with_reducible rfl)) ?_); (first | refine O.st 0 rfl (by simp) rfl fun h O => ?_ | refine O.st 1 rfl (by simp) rfl fun h O => ?_ | refine O.st 2 rfl (by simp) rfl fun h O => ?_ | refine O.st 3 rfl (by simp) rfl fun h O => ?_ | refine O.st 4 rfl (by simp) rfl fun h O => ?_ | refine O.st 5 rfl (by simp) rfl fun h O => ?_ | refine O.st 6 rfl (by simp) rfl fun h O => ?_ | refine O.st 7 rfl (by simp) rfl fun h O => ?_ | refine O.st 8 rfl (by simp) rfl fun h O => ?_ | refine O.st 9 rfl (by simp) rfl fun h O => ?_); (dsimp only [V.put, List.set, List.length_cons, List.length_nil] at O)
      | (with_reducible refine ca_id ?_); (first | refine ⟨cellsAre_blk (O.blk (i := 0) (by simp) rfl).2 _ 1, ?_⟩ | refine ⟨cellsAre_blk (O.blk (i := 0) (by simp) rfl).2 _ 2, ?_⟩ | refine ⟨cellsAre_blk (O.blk (i := 1) (by simp) rfl).2 _ 1, ?_⟩ | refine ⟨cellsAre_blk (O.blk (i := 1) (by simp) rfl).2 _ 2, ?_⟩ | refine ⟨cellsAre_blk (O.blk (i := 2) (by simp) rfl).2 _ 1, ?_⟩ | refine ⟨cellsAre_blk (O.blk (i := 2) (by simp) rfl).2 _ 2, ?_⟩ | refine ⟨cellsAre_blk (O.blk (i := 3) (by simp) rfl).2 _ 1, ?_⟩ | refine ⟨cellsAre_blk (O.blk (i := 3) (by simp) rfl).2 _ 2, ?_⟩ | refine ⟨cellsAre_blk (O.blk (i := 4) (by simp) rfl).2 _ 1, ?_⟩ | refine ⟨cellsAre_blk (O.blk (i := 4) (by simp) rfl).2 _ 2, ?_⟩ | refine ⟨cellsAre_blk (O.blk (i := 5) (by simp) rfl).2 _ 1, ?_⟩ | refine ⟨cellsAre_blk (O.blk (i := 5) (by simp) rfl).2 _ 2, ?_⟩ | refine ⟨cellsAre_blk (O.blk (i := 6) (by simp) rfl).2 _ 1, ?_⟩ | refine ⟨cellsAre_blk (O.blk (i := 6) (by simp) rfl).2 _ 2, ?_⟩ | refine ⟨cellsAre_blk (O.blk (i := 7) (by simp) rfl).2 _ 1, ?_⟩ | refine ⟨cellsAre_blk (O.blk (i := 7) (by simp) rfl).2 _ 2, ?_⟩ | refine ⟨cellsAre_blk (O.blk (i := 8) (by simp) rfl).2 _ 1, ?_⟩ | refine ⟨cellsAre_blk (O.blk (i := 8) (by simp) rfl).2 _ 2, ?_⟩ | refine ⟨cellsAre_blk (O.blk (i := 9) (by simp) rfl).2 _ 1, ?_⟩ | refine ⟨cellsAre_blk (O.blk (i := 9) (by simp) rfl).2 _ 2, ?_⟩))
    refine brr_ff (by rw [decide_eq_false_iff_not]; have := fe.prom; omega) ?_
    repeat (first
      | (with_reducible refine al_id ?_); refine O.al fun _ h O => ?_
      | (with_reducible refine nn_id ?_); refine ⟨_, rfl, ?_⟩
      | (with_reducible refine ld_id ?_); (first | refine O.ld 0 rfl ?_ | refine O.ld 1 rfl ?_ | refine O.ld 2 rfl ?_ | refine O.ld 3 rfl ?_ | refine O.ld 4 rfl ?_ | refine O.ld 5 rfl ?_ | refine O.ld 6 rfl ?_ | refine O.ld 7 rfl ?_ | refine O.ld 8 rfl ?_ | refine O.ld 9 rfl ?_); (repeat (first | (with_reducible refine ldL_n ?_) | refine ldL_s ?_ | refine ldL_c ?_))
      | (with_reducible refine st_ad (by first | (with_reducible rfl) | (simp only [pt_add, Nat.zero_add, Nat.add_zero, Nat.reduceAdd]; with_reducible rfl)) ?_); (first | refine O.st 0 rfl (by simp) rfl fun h O => ?_ | refine O.st 1 rfl (by simp) rfl fun h O => ?_ | refine O.st 2 rfl (by simp) rfl fun h O => ?_ | refine O.st 3 rfl (by simp) rfl fun h O => ?_ | refine O.st 4 rfl (by simp) rfl fun h O => ?_ | refine O.st 5 rfl (by simp) rfl fun h O => ?_ | refine O.st 6 rfl (by simp) rfl fun h O => ?_ | refine O.st 7 rfl (by simp) rfl fun h O => ?_ | refine O.st 8 rfl (by simp) rfl fun h O => ?_ | refine O.st 9 rfl (by simp) rfl fun h O => ?_); (dsimp only [V.put, List.set, List.length_cons, List.length_nil] at O)
      | (with_reducible refine ca_id ?_); (first | refine ⟨cellsAre_blk (O.blk (i := 0) (by simp) rfl).2 _ 1, ?_⟩ | refine ⟨cellsAre_blk (O.blk (i := 0) (by simp) rfl).2 _ 2, ?_⟩ | refine ⟨cellsAre_blk (O.blk (i := 1) (by simp) rfl).2 _ 1, ?_⟩ | refine ⟨cellsAre_blk (O.blk (i := 1) (by simp) rfl).2 _ 2, ?_⟩ | refine ⟨cellsAre_blk (O.blk (i := 2) (by simp) rfl).2 _ 1, ?_⟩ | refine ⟨cellsAre_blk (O.blk (i := 2) (by simp) rfl).2 _ 2, ?_⟩ | refine ⟨cellsAre_blk (O.blk (i := 3) (by simp) rfl).2 _ 1, ?_⟩ | refine ⟨cellsAre_blk (O.blk (i := 3) (by simp) rfl).2 _ 2, ?_⟩ | refine ⟨cellsAre_blk (O.blk (i := 4) (by simp) rfl).2 _ 1, ?_⟩ | refine ⟨cellsAre_blk (O.blk (i := 4) (by simp) rfl).2 _ 2, ?_⟩ | refine ⟨cellsAre_blk (O.blk (i := 5) (by simp) rfl).2 _ 1, ?_⟩ | refine ⟨cellsAre_blk (O.blk (i := 5) (by simp) rfl).2 _ 2, ?_⟩ | refine ⟨cellsAre_blk (O.blk (i := 6) (by simp) rfl).2 _ 1, ?_⟩ | refine ⟨cellsAre_blk (O.blk (i := 6) (by simp) rfl).2 _ 2, ?_⟩ | refine ⟨cellsAre_blk (O.blk (i := 7) (by simp) rfl).2 _ 1, ?_⟩ | refine ⟨cellsAre_blk (O.blk (i := 7) (by simp) rfl).2 _ 2, ?_⟩ | refine ⟨cellsAre_blk (O.blk (i := 8) (by simp) rfl).2 _ 1, ?_⟩ | refine ⟨cellsAre_blk (O.blk (i := 8) (by simp) rfl).2 _ 2, ?_⟩ | refine ⟨cellsAre_blk (O.blk (i := 9) (by simp) rfl).2 _ 1, ?_⟩ | refine ⟨cellsAre_blk (O.blk (i := 9) (by simp) rfl).2 _ 2, ?_⟩))
    refine F_law9_less.is O fun h O => ?_
    refine brr_ff (decide_eq_false fe.tag) ?_
    repeat (first
      | (with_reducible refine al_id ?_); refine O.al fun _ h O => ?_
      | (with_reducible refine nn_id ?_); refine ⟨_, rfl, ?_⟩
      | (with_reducible refine ld_id ?_); (first | refine O.ld 0 rfl ?_ | refine O.ld 1 rfl ?_ | refine O.ld 2 rfl ?_ | refine O.ld 3 rfl ?_ | refine O.ld 4 rfl ?_ | refine O.ld 5 rfl ?_ | refine O.ld 6 rfl ?_ | refine O.ld 7 rfl ?_ | refine O.ld 8 rfl ?_ | refine O.ld 9 rfl ?_); (repeat (first | (with_reducible refine ldL_n ?_) | refine ldL_s ?_ | refine ldL_c ?_))
      | (with_reducible refine st_ad (by first | (with_reducible rfl) | (simp only [pt_add, Nat.zero_add, Nat.add_zero, Nat.reduceAdd]; with_reducible rfl)) ?_); (first | refine O.st 0 rfl (by simp) rfl fun h O => ?_ | refine O.st 1 rfl (by simp) rfl fun h O => ?_ | refine O.st 2 rfl (by simp) rfl fun h O => ?_ | refine O.st 3 rfl (by simp) rfl fun h O => ?_ | refine O.st 4 rfl (by simp) rfl fun h O => ?_ | refine O.st 5 rfl (by simp) rfl fun h O => ?_ | refine O.st 6 rfl (by simp) rfl fun h O => ?_ | refine O.st 7 rfl (by simp) rfl fun h O => ?_ | refine O.st 8 rfl (by simp) rfl fun h O => ?_ | refine O.st 9 rfl (by simp) rfl fun h O => ?_); (dsimp only [V.put, List.set, List.length_cons, List.length_nil] at O)
      | (with_reducible refine ca_id ?_); (first | refine ⟨cellsAre_blk (O.blk (i := 0) (by simp) rfl).2 _ 1, ?_⟩ | refine ⟨cellsAre_blk (O.blk (i := 0) (by simp) rfl).2 _ 2, ?_⟩ | refine ⟨cellsAre_blk (O.blk (i := 1) (by simp) rfl).2 _ 1, ?_⟩ | refine ⟨cellsAre_blk (O.blk (i := 1) (by simp) rfl).2 _ 2, ?_⟩ | refine ⟨cellsAre_blk (O.blk (i := 2) (by simp) rfl).2 _ 1, ?_⟩ | refine ⟨cellsAre_blk (O.blk (i := 2) (by simp) rfl).2 _ 2, ?_⟩ | refine ⟨cellsAre_blk (O.blk (i := 3) (by simp) rfl).2 _ 1, ?_⟩ | refine ⟨cellsAre_blk (O.blk (i := 3) (by simp) rfl).2 _ 2, ?_⟩ | refine ⟨cellsAre_blk (O.blk (i := 4) (by simp) rfl).2 _ 1, ?_⟩ | refine ⟨cellsAre_blk (O.blk (i := 4) (by simp) rfl).2 _ 2, ?_⟩ | refine ⟨cellsAre_blk (O.blk (i := 5) (by simp) rfl).2 _ 1, ?_⟩ | refine ⟨cellsAre_blk (O.blk (i := 5) (by simp) rfl).2 _ 2, ?_⟩ | refine ⟨cellsAre_blk (O.blk (i := 6) (by simp) rfl).2 _ 1, ?_⟩ | refine ⟨cellsAre_blk (O.blk (i := 6) (by simp) rfl).2 _ 2, ?_⟩ | refine ⟨cellsAre_blk (O.blk (i := 7) (by simp) rfl).2 _ 1, ?_⟩ | refine ⟨cellsAre_blk (O.blk (i := 7) (by simp) rfl).2 _ 2, ?_⟩ | refine ⟨cellsAre_blk (O.blk (i := 8) (by simp) rfl).2 _ 1, ?_⟩ | refine ⟨cellsAre_blk (O.blk (i := 8) (by simp) rfl).2 _ 2, ?_⟩ | refine ⟨cellsAre_blk (O.blk (i := 9) (by simp) rfl).2 _ 1, ?_⟩ | refine ⟨cellsAre_blk (O.blk (i := 9) (by simp) rfl).2 _ 2, ?_⟩))
    refine brr_of (fun hq => ?_) (fun hq => ?_)
    · simp only [Bool.and_eq_true, beq_iff_eq, and_true] at hq
      have hv := fe.val hq.1 hq.2
      repeat (first
        | (with_reducible refine al_id ?_); refine O.al fun _ h O => ?_
        | (with_reducible refine nn_id ?_); refine ⟨_, rfl, ?_⟩
        | (with_reducible refine ld_id ?_); (first | refine O.ld 0 rfl ?_ | refine O.ld 1 rfl ?_ | refine O.ld 2 rfl ?_ | refine O.ld 3 rfl ?_ | refine O.ld 4 rfl ?_ | refine O.ld 5 rfl ?_ | refine O.ld 6 rfl ?_ | refine O.ld 7 rfl ?_ | refine O.ld 8 rfl ?_ | refine O.ld 9 rfl ?_); (repeat (first | (with_reducible refine ldL_n ?_) | refine ldL_s ?_ | refine ldL_c ?_))
        | (with_reducible refine st_ad (by first | (with_reducible rfl) | (simp only [pt_add, Nat.zero_add, Nat.add_zero, Nat.reduceAdd]; with_reducible rfl)) ?_); (first | refine O.st 0 rfl (by simp) rfl fun h O => ?_ | refine O.st 1 rfl (by simp) rfl fun h O => ?_ | refine O.st 2 rfl (by simp) rfl fun h O => ?_ | refine O.st 3 rfl (by simp) rfl fun h O => ?_ | refine O.st 4 rfl (by simp) rfl fun h O => ?_ | refine O.st 5 rfl (by simp) rfl fun h O => ?_ | refine O.st 6 rfl (by simp) rfl fun h O => ?_ | refine O.st 7 rfl (by simp) rfl fun h O => ?_ | refine O.st 8 rfl (by simp) rfl fun h O => ?_ | refine O.st 9 rfl (by simp) rfl fun h O => ?_); (dsimp only [V.put, List.set, List.length_cons, List.length_nil] at O)
        | (with_reducible refine ca_id ?_); (first | refine ⟨cellsAre_blk (O.blk (i := 0) (by simp) rfl).2 _ 1, ?_⟩ | refine ⟨cellsAre_blk (O.blk (i := 0) (by simp) rfl).2 _ 2, ?_⟩ | refine ⟨cellsAre_blk (O.blk (i := 1) (by simp) rfl).2 _ 1, ?_⟩ | refine ⟨cellsAre_blk (O.blk (i := 1) (by simp) rfl).2 _ 2, ?_⟩ | refine ⟨cellsAre_blk (O.blk (i := 2) (by simp) rfl).2 _ 1, ?_⟩ | refine ⟨cellsAre_blk (O.blk (i := 2) (by simp) rfl).2 _ 2, ?_⟩ | refine ⟨cellsAre_blk (O.blk (i := 3) (by simp) rfl).2 _ 1, ?_⟩ | refine ⟨cellsAre_blk (O.blk (i := 3) (by simp) rfl).2 _ 2, ?_⟩ | refine ⟨cellsAre_blk (O.blk (i := 4) (by simp) rfl).2 _ 1, ?_⟩ | refine ⟨cellsAre_blk (O.blk (i := 4) (by simp) rfl).2 _ 2, ?_⟩ | refine ⟨cellsAre_blk (O.blk (i := 5) (by simp) rfl).2 _ 1, ?_⟩ | refine ⟨cellsAre_blk (O.blk (i := 5) (by simp) rfl).2 _ 2, ?_⟩ | refine ⟨cellsAre_blk (O.blk (i := 6) (by simp) rfl).2 _ 1, ?_⟩ | refine ⟨cellsAre_blk (O.blk (i := 6) (by simp) rfl).2 _ 2, ?_⟩ | refine ⟨cellsAre_blk (O.blk (i := 7) (by simp) rfl).2 _ 1, ?_⟩ | refine ⟨cellsAre_blk (O.blk (i := 7) (by simp) rfl).2 _ 2, ?_⟩ | refine ⟨cellsAre_blk (O.blk (i := 8) (by simp) rfl).2 _ 1, ?_⟩ | refine ⟨cellsAre_blk (O.blk (i := 8) (by simp) rfl).2 _ 2, ?_⟩ | refine ⟨cellsAre_blk (O.blk (i := 9) (by simp) rfl).2 _ 1, ?_⟩ | refine ⟨cellsAre_blk (O.blk (i := 9) (by simp) rfl).2 _ 2, ?_⟩))
      refine F_ref0_Eq.is (O.view 1 u8_len (by simp) rfl).1 (O.view 7 u8_len (by simp) rfl).1 (by have := ok2.v; omega) (by have := ok.v; omega) ?_
      exact hj _ _ ⟨by simp [hv], O⟩
    · exact hj _ _ ⟨rfl, O⟩
  clear O
  rintro z h ⟨rfl, O⟩
  refine brr_ff rfl ?_
  refine jn1 (fun z h' => z = false ∧ Sat H h' [own x111 [.int .u64 r2.prom, .int .u64 r2.te, .int .u64 r2.ts, .slice s2.ptr s2.len s2.cap], buf 1 u8 s2 r2.val, repR p r2, own x102 (hdC d s1), own x100 (mgC mm), buf 1 u8 s1 d.val, own x43 [.int .u64 r.prom, .int .u64 r.te, .int .u64 r.ts, .slice s.ptr s.len s.cap], buf 1 u8 s r.val, own x25 [.int .u64 r.te, .int .u64 r.ts], own x7 [.int .u64 t1, .int .u64 t2, .int .u64 t3, .slice t4.ptr t4.len t4.cap, .int .i64 t5, .slice t6.ptr t6.len t6.cap]]) ?_ ?_
  case refine_2 =>
    intro j hj
    repeat (first
      | (with_reducible refine al_id ?_); refine O.al fun _ h O => ?_
      | (with_reducible refine nn_id ?_); refine ⟨_, rfl, ?_⟩
      | (with_reducible refine ld_id ?_); (first | refine O.ld 0 rfl ?_ | refine O.ld 1 rfl ?_ | refine O.ld 2 rfl ?_ | refine O.ld 3 rfl ?_ | refine O.ld 4 rfl ?_ | refine O.ld 5 rfl ?_ | refine O.ld 6 rfl ?_ | refine O.ld 7 rfl ?_ | refine O.ld 8 rfl ?_ | refine O.ld 9 rfl ?_); (repeat (first | (with_reducible refine ldL_n ?_) | refine ldL_s ?_ | refine ldL_c ?_))
      | (with_reducible refine st_ad (by first | (with_reducible rfl) | (simp only [pt_add, Nat.zero_add, Nat.add_zero, Nat.reduceAdd]; with_reducible rfl)) ?_); (first | refine O.st 0 rfl (by simp) rfl fun h O => ?_ | refine O.st 1 rfl (by simp) rfl fun h O => ?_ | refine O.st 2 rfl (by simp) rfl fun h O => ?_ | refine O.st 3 rfl (by simp) rfl fun h O => ?_ | refine O.st 4 rfl (by simp) rfl fun h O => ?_ | refine O.st 5 rfl (by simp) rfl fun h O => ?_ | refine O.st 6 rfl (by simp) rfl fun h O => ?_ | refine O.st 7 rfl (by simp) rfl fun h O => ?_ | refine O.st 8 rfl (by simp) rfl fun h O => ?_ | refine O.st 9 rfl (by simp) rfl fun h O => ?_); (dsimp only [V.put, List.set, List.length_cons, List.length_nil] at O)
      | (with_reducible refine ca_id ?_); (first | refine ⟨cellsAre_blk (O.blk (i := 0) (by simp) rfl).2 _ 1, ?_⟩ | refine ⟨cellsAre_blk (O.blk (i := 0) (by simp) rfl).2 _ 2, ?_⟩ | refine ⟨cellsAre_blk (O.blk (i := 1) (by simp) rfl).2 _ 1, ?_⟩ | refine ⟨cellsAre_blk (O.blk (i := 1) (by simp) rfl).2 _ 2, ?_⟩ | refine ⟨cellsAre_blk (O.blk (i := 2) (by simp) rfl).2 _ 1, ?_⟩ | refine ⟨cellsAre_blk (O.blk (i := 2) (by simp) rfl).2 _ 2, ?_⟩ | refine ⟨cellsAre_blk (O.blk (i := 3) (by simp) rfl).2 _ 1, ?_⟩ | refine ⟨cellsAre_blk (O.blk (i := 3) (by simp) rfl).2 _ 2, ?_⟩ | refine ⟨cellsAre_blk (O.blk (i := 4) (by simp) rfl).2 _ 1, ?_⟩ | refine ⟨cellsAre_blk (O.blk (i := 4) (by simp) rfl).2 _ 2, ?_⟩ | refine ⟨cellsAre_blk (O.blk (i := 5) (by simp) rfl).2 _ 1, ?_⟩ | refine ⟨cellsAre_blk (O.blk (i := 5) (by simp) rfl).2 _ 2, ?_⟩ | refine ⟨cellsAre_blk (O.blk (i := 6) (by simp) rfl).2 _ 1, ?_⟩ | refine ⟨cellsAre_blk (O.blk (i := 6) (by simp) rfl).2 _ 2, ?_⟩ | refine ⟨cellsAre_blk (O.blk (i := 7) (by simp) rfl).2 _ 1, ?_⟩ | refine ⟨cellsAre_blk (O.blk (i := 7) (by simp) rfl).2 _ 2, ?_⟩ | refine ⟨cellsAre_blk (O.blk (i := 8) (by simp) rfl).2 _ 1, ?_⟩ | refine ⟨cellsAre_blk (O.blk (i := 8) (by simp) rfl).2 _ 2, ?_⟩ | refine ⟨cellsAre_blk (O.blk (i := 9) (by simp) rfl).2 _ 1, ?_⟩ | refine ⟨cellsAre_blk (O.blk (i := 9) (by simp) rfl).2 _ 2, ?_⟩))
    refine brr_of (fun hq => ?_) (fun hq => ?_)
    · have hk : mm.kind ≠ 0 := by simpa using hq
      repeat (first
        | (with_reducible refine al_id ?_); refine O.al fun _ h O => ?_
        | (with_reducible refine nn_id ?_); refine ⟨_, rfl, ?_⟩
        | (with_reducible refine ld_id ?_); (first | refine O.ld 0 rfl ?_ | refine O.ld 1 rfl ?_ | refine O.ld 2 rfl ?_ | refine O.ld 3 rfl ?_ | refine O.ld 4 rfl ?_ | refine O.ld 5 rfl ?_ | refine O.ld 6 rfl ?_ | refine O.ld 7 rfl ?_ | refine O.ld 8 rfl ?_ | refine O.ld 9 rfl ?_); (repeat (first | (with_reducible refine ldL_n ?_) | refine ldL_s ?_ | refine ldL_c ?_))
        | (with_reducible refine st_ad (by first | (with_reducible rfl) | (simp only [pt_add, Nat.zero_add, Nat.add_zero, Nat.reduceAdd]; with_reducible rfl)) ?_); (first | refine O.st 0 rfl (by simp) rfl fun h O => ?_ | refine O.st 1 rfl (by simp) rfl fun h O => ?_ | refine O.st 2 rfl (by simp) rfl fun h O => ?_ | refine O.st 3 rfl (by simp) rfl fun h O => ?_ | refine O.st 4 rfl (by simp) rfl fun h O => ?_ | refine O.st 5 rfl (by simp) rfl fun h O => ?_ | refine O.st 6 rfl (by simp) rfl fun h O => ?_ | refine O.st 7 rfl (by simp) rfl fun h O => ?_ | refine O.st 8 rfl (by simp) rfl fun h O => ?_ | refine O.st 9 rfl (by simp) rfl fun h O => ?_); (dsimp only [V.put, List.set, List.length_cons, List.length_nil] at O)
        | (with_reducible refine ca_id ?_); (first | refine ⟨cellsAre_blk (O.blk (i := 0) (by simp) rfl).2 _ 1, ?_⟩ | refine ⟨cellsAre_blk (O.blk (i := 0) (by simp) rfl).2 _ 2, ?_⟩ | refine ⟨cellsAre_blk (O.blk (i := 1) (by simp) rfl).2 _ 1, ?_⟩ | refine ⟨cellsAre_blk (O.blk (i := 1) (by simp) rfl).2 _ 2, ?_⟩ | refine ⟨cellsAre_blk (O.blk (i := 2) (by simp) rfl).2 _ 1, ?_⟩ | refine ⟨cellsAre_blk (O.blk (i := 2) (by simp) rfl).2 _ 2, ?_⟩ | refine ⟨cellsAre_blk (O.blk (i := 3) (by simp) rfl).2 _ 1, ?_⟩ | refine ⟨cellsAre_blk (O.blk (i := 3) (by simp) rfl).2 _ 2, ?_⟩ | refine ⟨cellsAre_blk (O.blk (i := 4) (by simp) rfl).2 _ 1, ?_⟩ | refine ⟨cellsAre_blk (O.blk (i := 4) (by simp) rfl).2 _ 2, ?_⟩ | refine ⟨cellsAre_blk (O.blk (i := 5) (by simp) rfl).2 _ 1, ?_⟩ | refine ⟨cellsAre_blk (O.blk (i := 5) (by simp) rfl).2 _ 2, ?_⟩ | refine ⟨cellsAre_blk (O.blk (i := 6) (by simp) rfl).2 _ 1, ?_⟩ | refine ⟨cellsAre_blk (O.blk (i := 6) (by simp) rfl).2 _ 2, ?_⟩ | refine ⟨cellsAre_blk (O.blk (i := 7) (by simp) rfl).2 _ 1, ?_⟩ | refine ⟨cellsAre_blk (O.blk (i := 7) (by simp) rfl).2 _ 2, ?_⟩ | refine ⟨cellsAre_blk (O.blk (i := 8) (by simp) rfl).2 _ 1, ?_⟩ | refine ⟨cellsAre_blk (O.blk (i := 8) (by simp) rfl).2 _ 2, ?_⟩ | refine ⟨cellsAre_blk (O.blk (i := 9) (by simp) rfl).2 _ 1, ?_⟩ | refine ⟨cellsAre_blk (O.blk (i := 9) (by simp) rfl).2 _ 2, ?_⟩))
      refine F_ref0_EqStored.is O (fun h O => (O.view 1 u8_len (by simp) rfl).1) (fun h O => (O.view 7 u8_len (by simp) rfl).1) ok2.v ok.v fun h O => ?_
      refine ⟨cellsAre_blk (O.blk (i := 3) (by simp) rfl).2 24 1, ?_⟩
      refine hj _ _ ⟨?_, O⟩
      rw [fe.chg hk]
      cases decide (r2.prom = r.prom ∧ r2.te = r.te ∧ r2.ts = r.ts ∧ r2.val = r.val) <;> rfl
    · exact hj _ _ ⟨rfl, O⟩
  clear O
  rintro z h ⟨rfl, O⟩
  refine brr_ff rfl ?_
  refine jn1 (fun z h' => z = false ∧ Sat H h' [own x111 [.int .u64 r2.prom, .int .u64 r2.te, .int .u64 r2.ts, .slice s2.ptr s2.len s2.cap], buf 1 u8 s2 r2.val, repR p r2, own x102 (hdC d s1), own x100 (mgC mm), buf 1 u8 s1 d.val, own x43 [.int .u64 r.prom, .int .u64 r.te, .int .u64 r.ts, .slice s.ptr s.len s.cap], buf 1 u8 s r.val, own x25 [.int .u64 r.te, .int .u64 r.ts], own x7 [.int .u64 t1, .int .u64 t2, .int .u64 t3, .slice t4.ptr t4.len t4.cap, .int .i64 t5, .slice t6.ptr t6.len t6.cap]]) ?_ ?_
  case refine_2 =>
    intro j hj
    repeat (first
      | (with_reducible refine al_id ?_); refine O.al fun _ h O => ?_
      | (with_reducible refine nn_id ?_); refine ⟨_, rfl, ?_⟩
      | (with_reducible refine ld_id ?_); (first | refine O.ld 0 rfl ?_ | refine O.ld 1 rfl ?_ | refine O.ld 2 rfl ?_ | refine O.ld 3 rfl ?_ | refine O.ld 4 rfl ?_ | refine O.ld 5 rfl ?_ | refine O.ld 6 rfl ?_ | refine O.ld 7 rfl ?_ | refine O.ld 8 rfl ?_ | refine O.ld 9 rfl ?_); (repeat (first | (with_reducible refine ldL_n ?_) | refine ldL_s ?_ | refine ldL_c ?_))
      | (with_reducible refine st_ad (by first | (with_reducible rfl) | (simp only [pt_add, Nat.zero_add, Nat.add_zero, Nat.reduceAdd]; with_reducible rfl)) ?_); (first | refine O.st 0 rfl (by simp) rfl fun h O => ?_ | refine O.st 1 rfl (by simp) rfl fun h O => ?_ | refine O.st 2 rfl (by simp) rfl fun h O => ?_ | refine O.st 3 rfl (by simp) rfl fun h O => ?_ | refine O.st 4 rfl (by simp) rfl fun h O => ?_ | refine O.st 5 rfl (by simp) rfl fun h O => ?_ | refine O.st 6 rfl (by simp) rfl fun h O => ?_ | refine O.st 7 rfl (by simp) rfl fun h O => ?_ | refine O.st 8 rfl (by simp) rfl fun h O => ?_ | refine O.st 9 rfl (by simp) rfl fun h O => ?_); (dsimp only [V.put, List.set, List.length_cons, List.length_nil] at O)
      | (with_reducible refine ca_id ?_); (first | refine ⟨cellsAre_blk (O.blk (i := 0) (by simp) rfl).2 _ 1, ?_⟩ | refine ⟨cellsAre_blk (O.blk (i := 0) (by simp) rfl).2 _ 2, ?_⟩ | refine ⟨cellsAre_blk (O.blk (i := 1) (by simp) rfl).2 _ 1, ?_⟩ | refine ⟨cellsAre_blk (O.blk (i := 1) (by simp) rfl).2 _ 2, ?_⟩ | refine ⟨cellsAre_blk (O.blk (i := 2) (by simp) rfl).2 _ 1, ?_⟩ | refine ⟨cellsAre_blk (O.blk (i := 2) (by simp) rfl).2 _ 2, ?_⟩ | refine ⟨cellsAre_blk (O.blk (i := 3) (by simp) rfl).2 _ 1, ?_⟩ | refine ⟨cellsAre_blk (O.blk (i := 3) (by simp) rfl).2 _ 2, ?_⟩ | refine ⟨cellsAre_blk (O.blk (i := 4) (by simp) rfl).2 _ 1, ?_⟩ | refine ⟨cellsAre_blk (O.blk (i := 4) (by simp) rfl).2 _ 2, ?_⟩ | refine ⟨cellsAre_blk (O.blk (i := 5) (by simp) rfl).2 _ 1, ?_⟩ | refine ⟨cellsAre_blk (O.blk (i := 5) (by simp) rfl).2 _ 2, ?_⟩ | refine ⟨cellsAre_blk (O.blk (i := 6) (by simp) rfl).2 _ 1, ?_⟩ | refine ⟨cellsAre_blk (O.blk (i := 6) (by simp) rfl).2 _ 2, ?_⟩ | refine ⟨cellsAre_blk (O.blk (i := 7) (by simp) rfl).2 _ 1, ?_⟩ | refine ⟨cellsAre_blk (O.blk (i := 7) (by simp) rfl).2 _ 2, ?_⟩ | refine ⟨cellsAre_blk (O.blk (i := 8) (by simp) rfl).2 _ 1, ?_⟩ | refine ⟨cellsAre_blk (O.blk (i := 8) (by simp) rfl).2 _ 2, ?_⟩ | refine ⟨cellsAre_blk (O.blk (i := 9) (by simp) rfl).2 _ 1, ?_⟩ | refine ⟨cellsAre_blk (O.blk (i := 9) (by simp) rfl).2 _ 2, ?_⟩))
    refine brr_of (fun hq => ?_) (fun hq => ?_)
    · have hk := fe.tak hq
      repeat (first
        | (with_reducible refine al_id ?_); refine O.al fun _ h O => ?_
        | (with_reducible refine nn_id ?_); refine ⟨_, rfl, ?_⟩
        | (with_reducible refine ld_id ?_); (first | refine O.ld 0 rfl ?_ | refine O.ld 1 rfl ?_ | refine O.ld 2 rfl ?_ | refine O.ld 3 rfl ?_ | refine O.ld 4 rfl ?_ | refine O.ld 5 rfl ?_ | refine O.ld 6 rfl ?_ | refine O.ld 7 rfl ?_ | refine O.ld 8 rfl ?_ | refine O.ld 9 rfl ?_); (repeat (first | (with_reducible refine ldL_n ?_) | refine ldL_s ?_ | refine ldL_c ?_))
        | (with_reducible refine st_ad (by first | (with_reducible rfl) | (simp only [pt_add, Nat.zero_add, Nat.add_zero, Nat.reduceAdd]; with_reducible rfl)) ?_); (first | refine O.st 0 rfl (by simp) rfl fun h O => ?_ | refine O.st 1 rfl (by simp) rfl fun h O => ?_ | refine O.st 2 rfl (by simp) rfl fun h O => ?_ | refine O.st 3 rfl (by simp) rfl fun h O => ?_ | refine O.st 4 rfl (by simp) rfl fun h O => ?_ | refine O.st 5 rfl (by simp) rfl fun h O => ?_ | refine O.st 6 rfl (by simp) rfl fun h O => ?_ | refine O.st 7 rfl (by simp) rfl fun h O => ?_ | refine O.st 8 rfl (by simp) rfl fun h O => ?_ | refine O.st 9 rfl (by simp) rfl fun h O => ?_); (dsimp only [V.put, List.set, List.length_cons, List.length_nil] at O)
        | (with_reducible refine ca_id ?_); (first | refine ⟨cellsAre_blk (O.blk (i := 0) (by simp) rfl).2 _ 1, ?_⟩ | refine ⟨cellsAre_blk (O.blk (i := 0) (by simp) rfl).2 _ 2, ?_⟩ | refine ⟨cellsAre_blk (O.blk (i := 1) (by simp) rfl).2 _ 1, ?_⟩ | refine ⟨cellsAre_blk (O.blk (i := 1) (by simp) rfl).2 _ 2, ?_⟩ | refine ⟨cellsAre_blk (O.blk (i := 2) (by simp) rfl).2 _ 1, ?_⟩ | refine ⟨cellsAre_blk (O.blk (i := 2) (by simp) rfl).2 _ 2, ?_⟩ | refine ⟨cellsAre_blk (O.blk (i := 3) (by simp) rfl).2 _ 1, ?_⟩ | refine ⟨cellsAre_blk (O.blk (i := 3) (by simp) rfl).2 _ 2, ?_⟩ | refine ⟨cellsAre_blk (O.blk (i := 4) (by simp) rfl).2 _ 1, ?_⟩ | refine ⟨cellsAre_blk (O.blk (i := 4) (by simp) rfl).2 _ 2, ?_⟩ | refine ⟨cellsAre_blk (O.blk (i := 5) (by simp) rfl).2 _ 1, ?_⟩ | refine ⟨cellsAre_blk (O.blk (i := 5) (by simp) rfl).2 _ 2, ?_⟩ | refine ⟨cellsAre_blk (O.blk (i := 6) (by simp) rfl).2 _ 1, ?_⟩ | refine ⟨cellsAre_blk (O.blk (i := 6) (by simp) rfl).2 _ 2, ?_⟩ | refine ⟨cellsAre_blk (O.blk (i := 7) (by simp) rfl).2 _ 1, ?_⟩ | refine ⟨cellsAre_blk (O.blk (i := 7) (by simp) rfl).2 _ 2, ?_⟩ | refine ⟨cellsAre_blk (O.blk (i := 8) (by simp) rfl).2 _ 1, ?_⟩ | refine ⟨cellsAre_blk (O.blk (i := 8) (by simp) rfl).2 _ 2, ?_⟩ | refine ⟨cellsAre_blk (O.blk (i := 9) (by simp) rfl).2 _ 1, ?_⟩ | refine ⟨cellsAre_blk (O.blk (i := 9) (by simp) rfl).2 _ 2, ?_⟩))
      refine F_law9_epoch.is (m := mm) O fun h O => ?_
      exact hj _ _ ⟨by rw [decide_eq_false_iff_not]; omega, O⟩
    · exact hj _ _ ⟨rfl, O⟩
  clear O
  rintro z h ⟨rfl, O⟩
  refine brr_ff rfl ?_
  repeat (first
    | (with_reducible refine al_id ?_); refine O.al fun _ h O => ?_
    | (with_reducible refine nn_id ?_); refine ⟨_, rfl, ?_⟩
    | (with_reducible refine ld_id ?_); (first | refine O.ld 0 rfl ?_ | refine O.ld 1 rfl ?_ | refine O.ld 2 rfl ?_ | refine O.ld 3 rfl ?_ | refine O.ld 4 rfl ?_ | refine O.ld 5 rfl ?_ | refine O.ld 6 rfl ?_ | refine O.ld 7 rfl ?_ | refine O.ld 8 rfl ?_ | refine O.ld 9 rfl ?_); (repeat (first | (with_reducible refine ldL_n ?_) | refine ldL_s ?_ | refine ldL_c ?_))
    | (with_reducible refine st_ad (by first | (with_reducible rfl) | (simp only [pt_add, Nat.zero_add, Nat.add_zero, Nat.reduceAdd]; with_reducible rfl)) ?_); (first | refine O.st 0 rfl (by simp) rfl fun h O => ?_ | refine O.st 1 rfl (by simp) rfl fun h O => ?_ | refine O.st 2 rfl (by simp) rfl fun h O => ?_ | refine O.st 3 rfl (by simp) rfl fun h O => ?_ | refine O.st 4 rfl (by simp) rfl fun h O => ?_ | refine O.st 5 rfl (by simp) rfl fun h O => ?_ | refine O.st 6 rfl (by simp) rfl fun h O => ?_ | refine O.st 7 rfl (by simp) rfl fun h O => ?_ | refine O.st 8 rfl (by simp) rfl fun h O => ?_ | refine O.st 9 rfl (by simp) rfl fun h O => ?_); (dsimp only [V.put, List.set, List.length_cons, List.length_nil] at O)
    | (with_reducible refine ca_id ?_); (first | refine ⟨cellsAre_blk (O.blk (i := 0) (by simp) rfl).2 _ 1, ?_⟩ | refine ⟨cellsAre_blk (O.blk (i := 0) (by simp) rfl).2 _ 2, ?_⟩ | refine ⟨cellsAre_blk (O.blk (i := 1) (by simp) rfl).2 _ 1, ?_⟩ | refine ⟨cellsAre_blk (O.blk (i := 1) (by simp) rfl).2 _ 2, ?_⟩ | refine ⟨cellsAre_blk (O.blk (i := 2) (by simp) rfl).2 _ 1, ?_⟩ | refine ⟨cellsAre_blk (O.blk (i := 2) (by simp) rfl).2 _ 2, ?_⟩ | refine ⟨cellsAre_blk (O.blk (i := 3) (by simp) rfl).2 _ 1, ?_⟩ | refine ⟨cellsAre_blk (O.blk (i := 3) (by simp) rfl).2 _ 2, ?_⟩ | refine ⟨cellsAre_blk (O.blk (i := 4) (by simp) rfl).2 _ 1, ?_⟩ | refine ⟨cellsAre_blk (O.blk (i := 4) (by simp) rfl).2 _ 2, ?_⟩ | refine ⟨cellsAre_blk (O.blk (i := 5) (by simp) rfl).2 _ 1, ?_⟩ | refine ⟨cellsAre_blk (O.blk (i := 5) (by simp) rfl).2 _ 2, ?_⟩ | refine ⟨cellsAre_blk (O.blk (i := 6) (by simp) rfl).2 _ 1, ?_⟩ | refine ⟨cellsAre_blk (O.blk (i := 6) (by simp) rfl).2 _ 2, ?_⟩ | refine ⟨cellsAre_blk (O.blk (i := 7) (by simp) rfl).2 _ 1, ?_⟩ | refine ⟨cellsAre_blk (O.blk (i := 7) (by simp) rfl).2 _ 2, ?_⟩ | refine ⟨cellsAre_blk (O.blk (i := 8) (by simp) rfl).2 _ 1, ?_⟩ | refine ⟨cellsAre_blk (O.blk (i := 8) (by simp) rfl).2 _ 2, ?_⟩ | refine ⟨cellsAre_blk (O.blk (i := 9) (by simp) rfl).2 _ 1, ?_⟩ | refine ⟨cellsAre_blk (O.blk (i := 9) (by simp) rfl).2 _ 2, ?_⟩))
  have hpp := fe.prom
  have out : ∀ {h : Heap} {pm2 : Int}, pm2 ≤ r2.prom → r2.te = r.te ∧ r2.ts = r.ts → Sat H h [own x111 [.int .u64 r2.prom, .int .u64 r2.te, .int .u64 r2.ts, .slice s2.ptr s2.len s2.cap], buf 1 u8 s2 r2.val, repR p r2, own x102 (hdC d s1), own x100 (mgC mm), buf 1 u8 s1 d.val, own x43 [.int .u64 r.prom, .int .u64 r.te, .int .u64 r.ts, .slice s.ptr s.len s.cap], buf 1 u8 s r.val, own x25 [.int .u64 r.te, .int .u64 r.ts], own x7 [.int .u64 t1, .int .u64 t2, .int .u64 t3, .slice t4.ptr t4.len t4.cap, .int .i64 t5, .slice t6.ptr t6.len t6.cap]] → j37 pm2 h := by
    intro h pm2 hq he O
    have O2 := O.sel [2, 8, 9] 10 rfl (Nat.le_add_left _ _)
    refine hj37 _ _ ⟨r2, ok2, hq, ?_⟩
    rw [he.1, he.2]
    exact O2
  refine brr_of (fun hna => ?_) (fun hna => ?_)
  · by_cases h5 : d.kind = 5
    · have hna : (!d.ans) = true := hna
      rw [fa (by omega)] at hna
      cases hna
    · exact out (by omega) (fe.ko h5) O
  repeat (first
    | (with_reducible refine al_id ?_); refine O.al fun _ h O => ?_
    | (with_reducible refine nn_id ?_); refine ⟨_, rfl, ?_⟩
    | (with_reducible refine ld_id ?_); (first | refine O.ld 0 rfl ?_ | refine O.ld 1 rfl ?_ | refine O.ld 2 rfl ?_ | refine O.ld 3 rfl ?_ | refine O.ld 4 rfl ?_ | refine O.ld 5 rfl ?_ | refine O.ld 6 rfl ?_ | refine O.ld 7 rfl ?_ | refine O.ld 8 rfl ?_ | refine O.ld 9 rfl ?_); (repeat (first | (with_reducible refine ldL_n ?_) | refine ldL_s ?_ | refine ldL_c ?_))
    | (with_reducible refine st_ad (by first | (with_reducible rfl) | (simp only [pt_add, Nat.zero_add, Nat.add_zero, Nat.reduceAdd]; with_reducible rfl)) ?_); (first | refine O.st 0 rfl (by simp) rfl fun h O => ?_ | refine O.st 1 rfl (by simp) rfl fun h O => ?_ | refine O.st 2 rfl (by simp) rfl fun h O => ?_ | refine O.st 3 rfl (by simp) rfl fun h O => ?_ | refine O.st 4 rfl (by simp) rfl fun h O => ?_ | refine O.st 5 rfl (by simp) rfl fun h O => ?_ | refine O.st 6 rfl (by simp) rfl fun h O => ?_ | refine O.st 7 rfl (by simp) rfl fun h O => ?_ | refine O.st 8 rfl (by simp) rfl fun h O => ?_ | refine O.st 9 rfl (by simp) rfl fun h O => ?_); (dsimp only [V.put, List.set, List.length_cons, List.length_nil] at O)
    | (with_reducible refine ca_id ?_); (first | refine ⟨cellsAre_blk (O.blk (i := 0) (by simp) rfl).2 _ 1, ?_⟩ | refine ⟨cellsAre_blk (O.blk (i := 0) (by simp) rfl).2 _ 2, ?_⟩ | refine ⟨cellsAre_blk (O.blk (i := 1) (by simp) rfl).2 _ 1, ?_⟩ | refine ⟨cellsAre_blk (O.blk (i := 1) (by simp) rfl).2 _ 2, ?_⟩ | refine ⟨cellsAre_blk (O.blk (i := 2) (by simp) rfl).2 _ 1, ?_⟩ | refine ⟨cellsAre_blk (O.blk (i := 2) (by simp) rfl).2 _ 2, ?_⟩ | refine ⟨cellsAre_blk (O.blk (i := 3) (by simp) rfl).2 _ 1, ?_⟩ | refine ⟨cellsAre_blk (O.blk (i := 3) (by simp) rfl).2 _ 2, ?_⟩ | refine ⟨cellsAre_blk (O.blk (i := 4) (by simp) rfl).2 _ 1, ?_⟩ | refine ⟨cellsAre_blk (O.blk (i := 4) (by simp) rfl).2 _ 2, ?_⟩ | refine ⟨cellsAre_blk (O.blk (i := 5) (by simp) rfl).2 _ 1, ?_⟩ | refine ⟨cellsAre_blk (O.blk (i := 5) (by simp) rfl).2 _ 2, ?_⟩ | refine ⟨cellsAre_blk (O.blk (i := 6) (by simp) rfl).2 _ 1, ?_⟩ | refine ⟨cellsAre_blk (O.blk (i := 6) (by simp) rfl).2 _ 2, ?_⟩ | refine ⟨cellsAre_blk (O.blk (i := 7) (by simp) rfl).2 _ 1, ?_⟩ | refine ⟨cellsAre_blk (O.blk (i := 7) (by simp) rfl).2 _ 2, ?_⟩ | refine ⟨cellsAre_blk (O.blk (i := 8) (by simp) rfl).2 _ 1, ?_⟩ | refine ⟨cellsAre_blk (O.blk (i := 8) (by simp) rfl).2 _ 2, ?_⟩ | refine ⟨cellsAre_blk (O.blk (i := 9) (by simp) rfl).2 _ 1, ?_⟩ | refine ⟨cellsAre_blk (O.blk (i := 9) (by simp) rfl).2 _ 2, ?_⟩))
  refine brr_eq (fun h2 => ?_) (fun h2 => ?_)
  · obtain ⟨a1, a2, a3, a4, a5, a6, a7, a8⟩ := fe.k2 h2
    refine jn1 (fun z h' => z = false ∧ Sat H h' [own x111 [.int .u64 r2.prom, .int .u64 r2.te, .int .u64 r2.ts, .slice s2.ptr s2.len s2.cap], buf 1 u8 s2 r2.val, repR p r2, own x102 (hdC d s1), own x100 (mgC mm), buf 1 u8 s1 d.val, own x43 [.int .u64 r.prom, .int .u64 r.te, .int .u64 r.ts, .slice s.ptr s.len s.cap], buf 1 u8 s r.val, own x25 [.int .u64 r.te, .int .u64 r.ts], own x7 [.int .u64 t1, .int .u64 t2, .int .u64 t3, .slice t4.ptr t4.len t4.cap, .int .i64 t5, .slice t6.ptr t6.len t6.cap]]) ?_ ?_
    · clear O
      rintro z h ⟨rfl, O⟩
      refine brr_ff rfl ?_
      repeat (first
        | (with_reducible refine al_id ?_); refine O.al fun _ h O => ?_
        | (with_reducible refine nn_id ?_); refine ⟨_, rfl, ?_⟩
        | (with_reducible refine ld_id ?_); (first | refine O.ld 0 rfl ?_ | refine O.ld 1 rfl ?_ | refine O.ld 2 rfl ?_ | refine O.ld 3 rfl ?_ | refine O.ld 4 rfl ?_ | refine O.ld 5 rfl ?_ | refine O.ld 6 rfl ?_ | refine O.ld 7 rfl ?_ | refine O.ld 8 rfl ?_ | refine O.ld 9 rfl ?_); (repeat (first | (with_reducible refine ldL_n ?_) | refine ldL_s ?_ | refine ldL_c ?_))
        | (with_reducible refine st_ad (by first | (with_reducible rfl) | (simp only [pt_add, Nat.zero_add, Nat.add_zero, Nat.reduceAdd]; with_reducible rfl)) ?_); (first | refine O.st 0 rfl (by simp) rfl fun h O => ?_ | refine O.st 1 rfl (by simp) rfl fun h O => ?_ | refine O.st 2 rfl (by simp) rfl fun h O => ?_ | refine O.st 3 rfl (by simp) rfl fun h O => ?_ | refine O.st 4 rfl (by simp) rfl fun h O => ?_ | refine O.st 5 rfl (by simp) rfl fun h O => ?_ | refine O.st 6 rfl (by simp) rfl fun h O => ?_ | refine O.st 7 rfl (by simp) rfl fun h O => ?_ | refine O.st 8 rfl (by simp) rfl fun h O => ?_ | refine O.st 9 rfl (by simp) rfl fun h O => ?_); (dsimp only [V.put, List.set, List.length_cons, List.length_nil] at O)
        | (with_reducible refine ca_id ?_); (first | refine ⟨cellsAre_blk (O.blk (i := 0) (by simp) rfl).2 _ 1, ?_⟩ | refine ⟨cellsAre_blk (O.blk (i := 0) (by simp) rfl).2 _ 2, ?_⟩ | refine ⟨cellsAre_blk (O.blk (i := 1) (by simp) rfl).2 _ 1, ?_⟩ | refine ⟨cellsAre_blk (O.blk (i := 1) (by simp) rfl).2 _ 2, ?_⟩ | refine ⟨cellsAre_blk (O.blk (i := 2) (by simp) rfl).2 _ 1, ?_⟩ | refine ⟨cellsAre_blk (O.blk (i := 2) (by simp) rfl).2 _ 2, ?_⟩ | refine ⟨cellsAre_blk (O.blk (i := 3) (by simp) rfl).2 _ 1, ?_⟩ | refine ⟨cellsAre_blk (O.blk (i := 3) (by simp) rfl).2 _ 2, ?_⟩ | refine ⟨cellsAre_blk (O.blk (i := 4) (by simp) rfl).2 _ 1, ?_⟩ | refine ⟨cellsAre_blk (O.blk (i := 4) (by simp) rfl).2 _ 2, ?_⟩ | refine ⟨cellsAre_blk (O.blk (i := 5) (by simp) rfl).2 _ 1, ?_⟩ | refine ⟨cellsAre_blk (O.blk (i := 5) (by simp) rfl).2 _ 2, ?_⟩ | refine ⟨cellsAre_blk (O.blk (i := 6) (by simp) rfl).2 _ 1, ?_⟩ | refine ⟨cellsAre_blk (O.blk (i := 6) (by simp) rfl).2 _ 2, ?_⟩ | refine ⟨cellsAre_blk (O.blk (i := 7) (by simp) rfl).2 _ 1, ?_⟩ | refine ⟨cellsAre_blk (O.blk (i := 7) (by simp) rfl).2 _ 2, ?_⟩ | refine ⟨cellsAre_blk (O.blk (i := 8) (by simp) rfl).2 _ 1, ?_⟩ | refine ⟨cellsAre_blk (O.blk (i := 8) (by simp) rfl).2 _ 2, ?_⟩ | refine ⟨cellsAre_blk (O.blk (i := 9) (by simp) rfl).2 _ 1, ?_⟩ | refine ⟨cellsAre_blk (O.blk (i := 9) (by simp) rfl).2 _ 2, ?_⟩))
      exact out (by omega) ⟨a7, a8⟩ O
    · intro j hj
      repeat (first
        | (with_reducible refine al_id ?_); refine O.al fun _ h O => ?_
        | (with_reducible refine nn_id ?_); refine ⟨_, rfl, ?_⟩
        | (with_reducible refine ld_id ?_); (first | refine O.ld 0 rfl ?_ | refine O.ld 1 rfl ?_ | refine O.ld 2 rfl ?_ | refine O.ld 3 rfl ?_ | refine O.ld 4 rfl ?_ | refine O.ld 5 rfl ?_ | refine O.ld 6 rfl ?_ | refine O.ld 7 rfl ?_ | refine O.ld 8 rfl ?_ | refine O.ld 9 rfl ?_); (repeat (first | (with_reducible refine ldL_n ?_) | refine ldL_s ?_ | refine ldL_c ?_))
        | (with_reducible refine st_ad (by first | (with_reducible rfl) | (simp only [pt_add, Nat.zero_add, Nat.add_zero, Nat.reduceAdd]; with_reducible rfl)) ?_); (first | refine O.st 0 rfl (by simp) rfl fun h O => ?_ | refine O.st 1 rfl (by simp) rfl fun h O => ?_ | refine O.st 2 rfl (by simp) rfl fun h O => ?_ | refine O.st 3 rfl (by simp) rfl fun h O => ?_ | refine O.st 4 rfl (by simp) rfl fun h O => ?_ | refine O.st 5 rfl (by simp) rfl fun h O => ?_ | refine O.st 6 rfl (by simp) rfl fun h O => ?_ | refine O.st 7 rfl (by simp) rfl fun h O => ?_ | refine O.st 8 rfl (by simp) rfl fun h O => ?_ | refine O.st 9 rfl (by simp) rfl fun h O => ?_); (dsimp only [V.put, List.set, List.length_cons, List.length_nil] at O)
        | (with_reducible refine ca_id ?_); (first | refine ⟨cellsAre_blk (O.blk (i := 0) (by simp) rfl).2 _ 1, ?_⟩ | refine ⟨cellsAre_blk (O.blk (i := 0) (by simp) rfl).2 _ 2, ?_⟩ | refine ⟨cellsAre_blk (O.blk (i := 1) (by simp) rfl).2 _ 1, ?_⟩ | refine ⟨cellsAre_blk (O.blk (i := 1) (by simp) rfl).2 _ 2, ?_⟩ | refine ⟨cellsAre_blk (O.blk (i := 2) (by simp) rfl).2 _ 1, ?_⟩ | refine ⟨cellsAre_blk (O.blk (i := 2) (by simp) rfl).2 _ 2, ?_⟩ | refine ⟨cellsAre_blk (O.blk (i := 3) (by simp) rfl).2 _ 1, ?_⟩ | refine ⟨cellsAre_blk (O.blk (i := 3) (by simp) rfl).2 _ 2, ?_⟩ | refine ⟨cellsAre_blk (O.blk (i := 4) (by simp) rfl).2 _ 1, ?_⟩ | refine ⟨cellsAre_blk (O.blk (i := 4) (by simp) rfl).2 _ 2, ?_⟩ | refine ⟨cellsAre_blk (O.blk (i := 5) (by simp) rfl).2 _ 1, ?_⟩ | refine ⟨cellsAre_blk (O.blk (i := 5) (by simp) rfl).2 _ 2, ?_⟩ | refine ⟨cellsAre_blk (O.blk (i := 6) (by simp) rfl).2 _ 1, ?_⟩ | refine ⟨cellsAre_blk (O.blk (i := 6) (by simp) rfl).2 _ 2, ?_⟩ | refine ⟨cellsAre_blk (O.blk (i := 7) (by simp) rfl).2 _ 1, ?_⟩ | refine ⟨cellsAre_blk (O.blk (i := 7) (by simp) rfl).2 _ 2, ?_⟩ | refine ⟨cellsAre_blk (O.blk (i := 8) (by simp) rfl).2 _ 1, ?_⟩ | refine ⟨cellsAre_blk (O.blk (i := 8) (by simp) rfl).2 _ 2, ?_⟩ | refine ⟨cellsAre_blk (O.blk (i := 9) (by simp) rfl).2 _ 1, ?_⟩ | refine ⟨cellsAre_blk (O.blk (i := 9) (by simp) rfl).2 _ 2, ?_⟩))
      refine brr_ff (by rw [decide_eq_false_iff_not]; omega) ?_
      repeat (first
        | (with_reducible refine al_id ?_); refine O.al fun _ h O => ?_
        | (with_reducible refine nn_id ?_); refine ⟨_, rfl, ?_⟩
        | (with_reducible refine ld_id ?_); (first | refine O.ld 0 rfl ?_ | refine O.ld 1 rfl ?_ | refine O.ld 2 rfl ?_ | refine O.ld 3 rfl ?_ | refine O.ld 4 rfl ?_ | refine O.ld 5 rfl ?_ | refine O.ld 6 rfl ?_ | refine O.ld 7 rfl ?_ | refine O.ld 8 rfl ?_ | refine O.ld 9 rfl ?_); (repeat (first | (with_reducible refine ldL_n ?_) | refine ldL_s ?_ | refine ldL_c ?_))
        | (with_reducible refine st_ad (by first | (with_reducible rfl) | (simp only [pt_add, Nat.zero_add, Nat.add_zero, Nat.reduceAdd]; with_reducible rfl)) ?_); (first | refine O.st 0 rfl (by simp) rfl fun h O => ?_ | refine O.st 1 rfl (by simp) rfl fun h O => ?_ | refine O.st 2 rfl (by simp) rfl fun h O => ?_ | refine O.st 3 rfl (by simp) rfl fun h O => ?_ | refine O.st 4 rfl (by simp) rfl fun h O => ?_ | refine O.st 5 rfl (by simp) rfl fun h O => ?_ | refine O.st 6 rfl (by simp) rfl fun h O => ?_ | refine O.st 7 rfl (by simp) rfl fun h O => ?_ | refine O.st 8 rfl (by simp) rfl fun h O => ?_ | refine O.st 9 rfl (by simp) rfl fun h O => ?_); (dsimp only [V.put, List.set, List.length_cons, List.length_nil] at O)
        | (with_reducible refine ca_id ?_); (first | refine ⟨cellsAre_blk (O.blk (i := 0) (by simp) rfl).2 _ 1, ?_⟩ | refine ⟨cellsAre_blk (O.blk (i := 0) (by simp) rfl).2 _ 2, ?_⟩ | refine ⟨cellsAre_blk (O.blk (i := 1) (by simp) rfl).2 _ 1, ?_⟩ | refine ⟨cellsAre_blk (O.blk (i := 1) (by simp) rfl).2 _ 2, ?_⟩ | refine ⟨cellsAre_blk (O.blk (i := 2) (by simp) rfl).2 _ 1, ?_⟩ | refine ⟨cellsAre_blk (O.blk (i := 2) (by simp) rfl).2 _ 2, ?_⟩ | refine ⟨cellsAre_blk (O.blk (i := 3) (by simp) rfl).2 _ 1, ?_⟩ | refine ⟨cellsAre_blk (O.blk (i := 3) (by simp) rfl).2 _ 2, ?_⟩ | refine ⟨cellsAre_blk (O.blk (i := 4) (by simp) rfl).2 _ 1, ?_⟩ | refine ⟨cellsAre_blk (O.blk (i := 4) (by simp) rfl).2 _ 2, ?_⟩ | refine ⟨cellsAre_blk (O.blk (i := 5) (by simp) rfl).2 _ 1, ?_⟩ | refine ⟨cellsAre_blk (O.blk (i := 5) (by simp) rfl).2 _ 2, ?_⟩ | refine ⟨cellsAre_blk (O.blk (i := 6) (by simp) rfl).2 _ 1, ?_⟩ | refine ⟨cellsAre_blk (O.blk (i := 6) (by simp) rfl).2 _ 2, ?_⟩ | refine ⟨cellsAre_blk (O.blk (i := 7) (by simp) rfl).2 _ 1, ?_⟩ | refine ⟨cellsAre_blk (O.blk (i := 7) (by simp) rfl).2 _ 2, ?_⟩ | refine ⟨cellsAre_blk (O.blk (i := 8) (by simp) rfl).2 _ 1, ?_⟩ | refine ⟨cellsAre_blk (O.blk (i := 8) (by simp) rfl).2 _ 2, ?_⟩ | refine ⟨cellsAre_blk (O.blk (i := 9) (by simp) rfl).2 _ 1, ?_⟩ | refine ⟨cellsAre_blk (O.blk (i := 9) (by simp) rfl).2 _ 2, ?_⟩))
      refine brr_ff (by simp [a3, a4]) ?_
      repeat (first
        | (with_reducible refine al_id ?_); refine O.al fun _ h O => ?_
        | (with_reducible refine nn_id ?_); refine ⟨_, rfl, ?_⟩
        | (with_reducible refine ld_id ?_); (first | refine O.ld 0 rfl ?_ | refine O.ld 1 rfl ?_ | refine O.ld 2 rfl ?_ | refine O.ld 3 rfl ?_ | refine O.ld 4 rfl ?_ | refine O.ld 5 rfl ?_ | refine O.ld 6 rfl ?_ | refine O.ld 7 rfl ?_ | refine O.ld 8 rfl ?_ | refine O.ld 9 rfl ?_); (repeat (first | (with_reducible refine ldL_n ?_) | refine ldL_s ?_ | refine ldL_c ?_))
        | (with_reducible refine st_ad (by first | (with_reducible rfl) | (simp only [pt_add, Nat.zero_add, Nat.add_zero, Nat.reduceAdd]; with_reducible rfl)) ?_); (first | refine O.st 0 rfl (by simp) rfl fun h O => ?_ | refine O.st 1 rfl (by simp) rfl fun h O => ?_ | refine O.st 2 rfl (by simp) rfl fun h O => ?_ | refine O.st 3 rfl (by simp) rfl fun h O => ?_ | refine O.st 4 rfl (by simp) rfl fun h O => ?_ | refine O.st 5 rfl (by simp) rfl fun h O => ?_ | refine O.st 6 rfl (by simp) rfl fun h O => ?_ | refine O.st 7 rfl (by simp) rfl fun h O => ?_ | refine O.st 8 rfl (by simp) rfl fun h O => ?_ | refine O.st 9 rfl (by simp) rfl fun h O => ?_); (dsimp only [V.put, List.set, List.length_cons, List.length_nil] at O)
        | (with_reducible refine ca_id ?_); (first | refine ⟨cellsAre_blk (O.blk (i := 0) (by simp) rfl).2 _ 1, ?_⟩ | refine ⟨cellsAre_blk (O.blk (i := 0) (by simp) rfl).2 _ 2, ?_⟩ | refine ⟨cellsAre_blk (O.blk (i := 1) (by simp) rfl).2 _ 1, ?_⟩ | refine ⟨cellsAre_blk (O.blk (i := 1) (by simp) rfl).2 _ 2, ?_⟩ | refine ⟨cellsAre_blk (O.blk (i := 2) (by simp) rfl).2 _ 1, ?_⟩ | refine ⟨cellsAre_blk (O.blk (i := 2) (by simp) rfl).2 _ 2, ?_⟩ | refine ⟨cellsAre_blk (O.blk (i := 3) (by simp) rfl).2 _ 1, ?_⟩ | refine ⟨cellsAre_blk (O.blk (i := 3) (by simp) rfl).2 _ 2, ?_⟩ | refine ⟨cellsAre_blk (O.blk (i := 4) (by simp) rfl).2 _ 1, ?_⟩ | refine ⟨cellsAre_blk (O.blk (i := 4) (by simp) rfl).2 _ 2, ?_⟩ | refine ⟨cellsAre_blk (O.blk (i := 5) (by simp) rfl).2 _ 1, ?_⟩ | refine ⟨cellsAre_blk (O.blk (i := 5) (by simp) rfl).2 _ 2, ?_⟩ | refine ⟨cellsAre_blk (O.blk (i := 6) (by simp) rfl).2 _ 1, ?_⟩ | refine ⟨cellsAre_blk (O.blk (i := 6) (by simp) rfl).2 _ 2, ?_⟩ | refine ⟨cellsAre_blk (O.blk (i := 7) (by simp) rfl).2 _ 1, ?_⟩ | refine ⟨cellsAre_blk (O.blk (i := 7) (by simp) rfl).2 _ 2, ?_⟩ | refine ⟨cellsAre_blk (O.blk (i := 8) (by simp) rfl).2 _ 1, ?_⟩ | refine ⟨cellsAre_blk (O.blk (i := 8) (by simp) rfl).2 _ 2, ?_⟩ | refine ⟨cellsAre_blk (O.blk (i := 9) (by simp) rfl).2 _ 1, ?_⟩ | refine ⟨cellsAre_blk (O.blk (i := 9) (by simp) rfl).2 _ 2, ?_⟩))
      refine F_ref0_Eq.is (O.view 5 u8_len (by simp) rfl).1 (O.view 1 u8_len (by simp) rfl).1 (by omega) (by have := ok2.v; omega) ?_
      refine brr_ff (by simp [a5]) ?_
      repeat (first
        | (with_reducible refine al_id ?_); refine O.al fun _ h O => ?_
        | (with_reducible refine nn_id ?_); refine ⟨_, rfl, ?_⟩
        | (with_reducible refine ld_id ?_); (first | refine O.ld 0 rfl ?_ | refine O.ld 1 rfl ?_ | refine O.ld 2 rfl ?_ | refine O.ld 3 rfl ?_ | refine O.ld 4 rfl ?_ | refine O.ld 5 rfl ?_ | refine O.ld 6 rfl ?_ | refine O.ld 7 rfl ?_ | refine O.ld 8 rfl ?_ | refine O.ld 9 rfl ?_); (repeat (first | (with_reducible refine ldL_n ?_) | refine ldL_s ?_ | refine ldL_c ?_))
        | (with_reducible refine st_ad (by first | (with_reducible rfl) | (simp only [pt_add, Nat.zero_add, Nat.add_zero, Nat.reduceAdd]; with_reducible rfl)) ?_); (first | refine O.st 0 rfl (by simp) rfl fun h O => ?_ | refine O.st 1 rfl (by simp) rfl fun h O => ?_ | refine O.st 2 rfl (by simp) rfl fun h O => ?_ | refine O.st 3 rfl (by simp) rfl fun h O => ?_ | refine O.st 4 rfl (by simp) rfl fun h O => ?_ | refine O.st 5 rfl (by simp) rfl fun h O => ?_ | refine O.st 6 rfl (by simp) rfl fun h O => ?_ | refine O.st 7 rfl (by simp) rfl fun h O => ?_ | refine O.st 8 rfl (by simp) rfl fun h O => ?_ | refine O.st 9 rfl (by simp) rfl fun h O => ?_); (dsimp only [V.put, List.set, List.length_cons, List.length_nil] at O)
        | (with_reducible refine ca_id ?_); (first | refine ⟨cellsAre_blk (O.blk (i := 0) (by simp) rfl).2 _ 1, ?_⟩ | refine ⟨cellsAre_blk (O.blk (i := 0) (by simp) rfl).2 _ 2, ?_⟩ | refine ⟨cellsAre_blk (O.blk (i := 1) (by simp) rfl).2 _ 1, ?_⟩ | refine ⟨cellsAre_blk (O.blk (i := 1) (by simp) rfl).2 _ 2, ?_⟩ | refine ⟨cellsAre_blk (O.blk (i := 2) (by simp) rfl).2 _ 1, ?_⟩ | refine ⟨cellsAre_blk (O.blk (i := 2) (by simp) rfl).2 _ 2, ?_⟩ | refine ⟨cellsAre_blk (O.blk (i := 3) (by simp) rfl).2 _ 1, ?_⟩ | refine ⟨cellsAre_blk (O.blk (i := 3) (by simp) rfl).2 _ 2, ?_⟩ | refine ⟨cellsAre_blk (O.blk (i := 4) (by simp) rfl).2 _ 1, ?_⟩ | refine ⟨cellsAre_blk (O.blk (i := 4) (by simp) rfl).2 _ 2, ?_⟩ | refine ⟨cellsAre_blk (O.blk (i := 5) (by simp) rfl).2 _ 1, ?_⟩ | refine ⟨cellsAre_blk (O.blk (i := 5) (by simp) rfl).2 _ 2, ?_⟩ | refine ⟨cellsAre_blk (O.blk (i := 6) (by simp) rfl).2 _ 1, ?_⟩ | refine ⟨cellsAre_blk (O.blk (i := 6) (by simp) rfl).2 _ 2, ?_⟩ | refine ⟨cellsAre_blk (O.blk (i := 7) (by simp) rfl).2 _ 1, ?_⟩ | refine ⟨cellsAre_blk (O.blk (i := 7) (by simp) rfl).2 _ 2, ?_⟩ | refine ⟨cellsAre_blk (O.blk (i := 8) (by simp) rfl).2 _ 1, ?_⟩ | refine ⟨cellsAre_blk (O.blk (i := 8) (by simp) rfl).2 _ 2, ?_⟩ | refine ⟨cellsAre_blk (O.blk (i := 9) (by simp) rfl).2 _ 1, ?_⟩ | refine ⟨cellsAre_blk (O.blk (i := 9) (by simp) rfl).2 _ 2, ?_⟩))
      exact hj _ _ ⟨by simp [a6], O⟩
  refine jn_go ?_
  refine brr_eq (fun h5 => ?_) (fun h5 => ?_)
  · obtain ⟨a1, a2, a3, a4, a5⟩ := fe.k5 h5
    refine jn1 (fun z h' => z = false ∧ Sat H h' [own x111 [.int .u64 r2.prom, .int .u64 r2.te, .int .u64 r2.ts, .slice s2.ptr s2.len s2.cap], buf 1 u8 s2 r2.val, repR p r2, own x102 (hdC d s1), own x100 (mgC mm), buf 1 u8 s1 d.val, own x43 [.int .u64 r.prom, .int .u64 r.te, .int .u64 r.ts, .slice s.ptr s.len s.cap], buf 1 u8 s r.val, own x25 [.int .u64 r.te, .int .u64 r.ts], own x7 [.int .u64 t1, .int .u64 t2, .int .u64 t3, .slice t4.ptr t4.len t4.cap, .int .i64 t5, .slice t6.ptr t6.len t6.cap]]) ?_ ?_
    · clear O
      rintro z h ⟨rfl, O⟩
      refine brr_ff rfl ?_
      repeat (first
        | (with_reducible refine al_id ?_); refine O.al fun _ h O => ?_
        | (with_reducible refine nn_id ?_); refine ⟨_, rfl, ?_⟩
        | (with_reducible refine ld_id ?_); (first | refine O.ld 0 rfl ?_ | refine O.ld 1 rfl ?_ | refine O.ld 2 rfl ?_ | refine O.ld 3 rfl ?_ | refine O.ld 4 rfl ?_ | refine O.ld 5 rfl ?_ | refine O.ld 6 rfl ?_ | refine O.ld 7 rfl ?_ | refine O.ld 8 rfl ?_ | refine O.ld 9 rfl ?_); (repeat (first | (with_reducible refine ldL_n ?_) | refine ldL_s ?_ | refine ldL_c ?_))
        | (with_reducible refine st_ad (by first | (with_reducible rfl) | (simp only [pt_add, Nat.zero_add, Nat.add_zero, Nat.reduceAdd]; with_reducible rfl)) ?_); (first | refine O.st 0 rfl (by simp) rfl fun h O => ?_ | refine O.st 1 rfl (by simp) rfl fun h O => ?_ | refine O.st 2 rfl (by simp) rfl fun h O => ?_ | refine O.st 3 rfl (by simp) rfl fun h O => ?_ | refine O.st 4 rfl (by simp) rfl fun h O => ?_ | refine O.st 5 rfl (by simp) rfl fun h O => ?_ | refine O.st 6 rfl (by simp) rfl fun h O => ?_ | refine O.st 7 rfl (by simp) rfl fun h O => ?_ | refine O.st 8 rfl (by simp) rfl fun h O => ?_ | refine O.st 9 rfl (by simp) rfl fun h O => ?_); (dsimp only [V.put, List.set, List.length_cons, List.length_nil] at O)
        | (with_reducible refine ca_id ?_); (first | refine ⟨cellsAre_blk (O.blk (i := 0) (by simp) rfl).2 _ 1, ?_⟩ | refine ⟨cellsAre_blk (O.blk (i := 0) (by simp) rfl).2 _ 2, ?_⟩ | refine ⟨cellsAre_blk (O.blk (i := 1) (by simp) rfl).2 _ 1, ?_⟩ | refine ⟨cellsAre_blk (O.blk (i := 1) (by simp) rfl).2 _ 2, ?_⟩ | refine ⟨cellsAre_blk (O.blk (i := 2) (by simp) rfl).2 _ 1, ?_⟩ | refine ⟨cellsAre_blk (O.blk (i := 2) (by simp) rfl).2 _ 2, ?_⟩ | refine ⟨cellsAre_blk (O.blk (i := 3) (by simp) rfl).2 _ 1, ?_⟩ | refine ⟨cellsAre_blk (O.blk (i := 3) (by simp) rfl).2 _ 2, ?_⟩ | refine ⟨cellsAre_blk (O.blk (i := 4) (by simp) rfl).2 _ 1, ?_⟩ | refine ⟨cellsAre_blk (O.blk (i := 4) (by simp) rfl).2 _ 2, ?_⟩ | refine ⟨cellsAre_blk (O.blk (i := 5) (by simp) rfl).2 _ 1, ?_⟩ | refine ⟨cellsAre_blk (O.blk (i := 5) (by simp) rfl).2 _ 2, ?_⟩ | refine ⟨cellsAre_blk (O.blk (i := 6) (by simp) rfl).2 _ 1, ?_⟩ | refine ⟨cellsAre_blk (O.blk (i := 6) (by simp) rfl).2 _ 2, ?_⟩ | refine ⟨cellsAre_blk (O.blk (i := 7) (by simp) rfl).2 _ 1, ?_⟩ | refine ⟨cellsAre_blk (O.blk (i := 7) (by simp) rfl).2 _ 2, ?_⟩ | refine ⟨cellsAre_blk (O.blk (i := 8) (by simp) rfl).2 _ 1, ?_⟩ | refine ⟨cellsAre_blk (O.blk (i := 8) (by simp) rfl).2 _ 2, ?_⟩ | refine ⟨cellsAre_blk (O.blk (i := 9) (by simp) rfl).2 _ 1, ?_⟩ | refine ⟨cellsAre_blk (O.blk (i := 9) (by simp) rfl).2 _ 2, ?_⟩))
      refine hj37 _ _ ⟨r2, ok2, by omega, ?_⟩
      rw [show r2.te = d.te by rw [a3, a1], show r2.ts = d.ts by rw [a4, a2]]
      exact O.sel [2, 8, 9] 10 rfl (Nat.le_add_left _ _)
    · intro j hj
      repeat (first
        | (with_reducible refine al_id ?_); refine O.al fun _ h O => ?_
        | (with_reducible refine nn_id ?_); refine ⟨_, rfl, ?_⟩
        | (with_reducible refine ld_id ?_); (first | refine O.ld 0 rfl ?_ | refine O.ld 1 rfl ?_ | refine O.ld 2 rfl ?_ | refine O.ld 3 rfl ?_ | refine O.ld 4 rfl ?_ | refine O.ld 5 rfl ?_ | refine O.ld 6 rfl ?_ | refine O.ld 7 rfl ?_ | refine O.ld 8 rfl ?_ | refine O.ld 9 rfl ?_); (repeat (first | (with_reducible refine ldL_n ?_) | refine ldL_s ?_ | refine ldL_c ?_))
        | (with_reducible refine st_ad (by first | (with_reducible rfl) | (simp only [pt_add, Nat.zero_add, Nat.add_zero, Nat.reduceAdd]; with_reducible rfl)) ?_); (first | refine O.st 0 rfl (by simp) rfl fun h O => ?_ | refine O.st 1 rfl (by simp) rfl fun h O => ?_ | refine O.st 2 rfl (by simp) rfl fun h O => ?_ | refine O.st 3 rfl (by simp) rfl fun h O => ?_ | refine O.st 4 rfl (by simp) rfl fun h O => ?_ | refine O.st 5 rfl (by simp) rfl fun h O => ?_ | refine O.st 6 rfl (by simp) rfl fun h O => ?_ | refine O.st 7 rfl (by simp) rfl fun h O => ?_ | refine O.st 8 rfl (by simp) rfl fun h O => ?_ | refine O.st 9 rfl (by simp) rfl fun h O => ?_); (dsimp only [V.put, List.set, List.length_cons, List.length_nil] at O)
        | (with_reducible refine ca_id ?_); (first | refine ⟨cellsAre_blk (O.blk (i := 0) (by simp) rfl).2 _ 1, ?_⟩ | refine ⟨cellsAre_blk (O.blk (i := 0) (by simp) rfl).2 _ 2, ?_⟩ | refine ⟨cellsAre_blk (O.blk (i := 1) (by simp) rfl).2 _ 1, ?_⟩ | refine ⟨cellsAre_blk (O.blk (i := 1) (by simp) rfl).2 _ 2, ?_⟩ | refine ⟨cellsAre_blk (O.blk (i := 2) (by simp) rfl).2 _ 1, ?_⟩ | refine ⟨cellsAre_blk (O.blk (i := 2) (by simp) rfl).2 _ 2, ?_⟩ | refine ⟨cellsAre_blk (O.blk (i := 3) (by simp) rfl).2 _ 1, ?_⟩ | refine ⟨cellsAre_blk (O.blk (i := 3) (by simp) rfl).2 _ 2, ?_⟩ | refine ⟨cellsAre_blk (O.blk (i := 4) (by simp) rfl).2 _ 1, ?_⟩ | refine ⟨cellsAre_blk (O.blk (i := 4) (by simp) rfl).2 _ 2, ?_⟩ | refine ⟨cellsAre_blk (O.blk (i := 5) (by simp) rfl).2 _ 1, ?_⟩ | refine ⟨cellsAre_blk (O.blk (i := 5) (by simp) rfl).2 _ 2, ?_⟩ | refine ⟨cellsAre_blk (O.blk (i := 6) (by simp) rfl).2 _ 1, ?_⟩ | refine ⟨cellsAre_blk (O.blk (i := 6) (by simp) rfl).2 _ 2, ?_⟩ | refine ⟨cellsAre_blk (O.blk (i := 7) (by simp) rfl).2 _ 1, ?_⟩ | refine ⟨cellsAre_blk (O.blk (i := 7) (by simp) rfl).2 _ 2, ?_⟩ | refine ⟨cellsAre_blk (O.blk (i := 8) (by simp) rfl).2 _ 1, ?_⟩ | refine ⟨cellsAre_blk (O.blk (i := 8) (by simp) rfl).2 _ 2, ?_⟩ | refine ⟨cellsAre_blk (O.blk (i := 9) (by simp) rfl).2 _ 1, ?_⟩ | refine ⟨cellsAre_blk (O.blk (i := 9) (by simp) rfl).2 _ 2, ?_⟩))
      refine F_law9_less.is O fun h O => ?_
      refine brr_ff (decide_eq_false (by rw [a1, a2]; exact a5)) ?_
      repeat (first
        | (with_reducible refine al_id ?_); refine O.al fun _ h O => ?_
        | (with_reducible refine nn_id ?_); refine ⟨_, rfl, ?_⟩
        | (with_reducible refine ld_id ?_); (first | refine O.ld 0 rfl ?_ | refine O.ld 1 rfl ?_ | refine O.ld 2 rfl ?_ | refine O.ld 3 rfl ?_ | refine O.ld 4 rfl ?_ | refine O.ld 5 rfl ?_ | refine O.ld 6 rfl ?_ | refine O.ld 7 rfl ?_ | refine O.ld 8 rfl ?_ | refine O.ld 9 rfl ?_); (repeat (first | (with_reducible refine ldL_n ?_) | refine ldL_s ?_ | refine ldL_c ?_))
        | (with_reducible refine st_ad (by first | (with_reducible rfl) | (simp only [pt_add, Nat.zero_add, Nat.add_zero, Nat.reduceAdd]; with_reducible rfl)) ?_); (first | refine O.st 0 rfl (by simp) rfl fun h O => ?_ | refine O.st 1 rfl (by simp) rfl fun h O => ?_ | refine O.st 2 rfl (by simp) rfl fun h O => ?_ | refine O.st 3 rfl (by simp) rfl fun h O => ?_ | refine O.st 4 rfl (by simp) rfl fun h O => ?_ | refine O.st 5 rfl (by simp) rfl fun h O => ?_ | refine O.st 6 rfl (by simp) rfl fun h O => ?_ | refine O.st 7 rfl (by simp) rfl fun h O => ?_ | refine O.st 8 rfl (by simp) rfl fun h O => ?_ | refine O.st 9 rfl (by simp) rfl fun h O => ?_); (dsimp only [V.put, List.set, List.length_cons, List.length_nil] at O)
        | (with_reducible refine ca_id ?_); (first | refine ⟨cellsAre_blk (O.blk (i := 0) (by simp) rfl).2 _ 1, ?_⟩ | refine ⟨cellsAre_blk (O.blk (i := 0) (by simp) rfl).2 _ 2, ?_⟩ | refine ⟨cellsAre_blk (O.blk (i := 1) (by simp) rfl).2 _ 1, ?_⟩ | refine ⟨cellsAre_blk (O.blk (i := 1) (by simp) rfl).2 _ 2, ?_⟩ | refine ⟨cellsAre_blk (O.blk (i := 2) (by simp) rfl).2 _ 1, ?_⟩ | refine ⟨cellsAre_blk (O.blk (i := 2) (by simp) rfl).2 _ 2, ?_⟩ | refine ⟨cellsAre_blk (O.blk (i := 3) (by simp) rfl).2 _ 1, ?_⟩ | refine ⟨cellsAre_blk (O.blk (i := 3) (by simp) rfl).2 _ 2, ?_⟩ | refine ⟨cellsAre_blk (O.blk (i := 4) (by simp) rfl).2 _ 1, ?_⟩ | refine ⟨cellsAre_blk (O.blk (i := 4) (by simp) rfl).2 _ 2, ?_⟩ | refine ⟨cellsAre_blk (O.blk (i := 5) (by simp) rfl).2 _ 1, ?_⟩ | refine ⟨cellsAre_blk (O.blk (i := 5) (by simp) rfl).2 _ 2, ?_⟩ | refine ⟨cellsAre_blk (O.blk (i := 6) (by simp) rfl).2 _ 1, ?_⟩ | refine ⟨cellsAre_blk (O.blk (i := 6) (by simp) rfl).2 _ 2, ?_⟩ | refine ⟨cellsAre_blk (O.blk (i := 7) (by simp) rfl).2 _ 1, ?_⟩ | refine ⟨cellsAre_blk (O.blk (i := 7) (by simp) rfl).2 _ 2, ?_⟩ | refine ⟨cellsAre_blk (O.blk (i := 8) (by simp) rfl).2 _ 1, ?_⟩ | refine ⟨cellsAre_blk (O.blk (i := 8) (by simp) rfl).2 _ 2, ?_⟩ | refine ⟨cellsAre_blk (O.blk (i := 9) (by simp) rfl).2 _ 1, ?_⟩ | refine ⟨cellsAre_blk (O.blk (i := 9) (by simp) rfl).2 _ 2, ?_⟩))
      refine brr_ff (by simp [a1, a2]) ?_
      repeat (first
        | (with_reducible refine al_id ?_); refine O.al fun _ h O => ?_
        | (with_reducible refine nn_id ?_); refine ⟨_, rfl, ?_⟩
        | (with_reducible refine ld_id ?_); (first | refine O.ld 0 rfl ?_ | refine O.ld 1 rfl ?_ | refine O.ld 2 rfl ?_ | refine O.ld 3 rfl ?_ | refine O.ld 4 rfl ?_ | refine O.ld 5 rfl ?_ | refine O.ld 6 rfl ?_ | refine O.ld 7 rfl ?_ | refine O.ld 8 rfl ?_ | refine O.ld 9 rfl ?_); (repeat (first | (with_reducible refine ldL_n ?_) | refine ldL_s ?_ | refine ldL_c ?_))
        | (with_reducible refine st_ad (by first | (with_reducible rfl) | (simp only [pt_add, Nat.zero_add, Nat.add_zero, Nat.reduceAdd]; with_reducible rfl)) ?_); (first | refine O.st 0 rfl (by simp) rfl fun h O => ?_ | refine O.st 1 rfl (by simp) rfl fun h O => ?_ | refine O.st 2 rfl (by simp) rfl fun h O => ?_ | refine O.st 3 rfl (by simp) rfl fun h O => ?_ | refine O.st 4 rfl (by simp) rfl fun h O => ?_ | refine O.st 5 rfl (by simp) rfl fun h O => ?_ | refine O.st 6 rfl (by simp) rfl fun h O => ?_ | refine O.st 7 rfl (by simp) rfl fun h O => ?_ | refine O.st 8 rfl (by simp) rfl fun h O => ?_ | refine O.st 9 rfl (by simp) rfl fun h O => ?_); (dsimp only [V.put, List.set, List.length_cons, List.length_nil] at O)
        | (with_reducible refine ca_id ?_); (first | refine ⟨cellsAre_blk (O.blk (i := 0) (by simp) rfl).2 _ 1, ?_⟩ | refine ⟨cellsAre_blk (O.blk (i := 0) (by simp) rfl).2 _ 2, ?_⟩ | refine ⟨cellsAre_blk (O.blk (i := 1) (by simp) rfl).2 _ 1, ?_⟩ | refine ⟨cellsAre_blk (O.blk (i := 1) (by simp) rfl).2 _ 2, ?_⟩ | refine ⟨cellsAre_blk (O.blk (i := 2) (by simp) rfl).2 _ 1, ?_⟩ | refine ⟨cellsAre_blk (O.blk (i := 2) (by simp) rfl).2 _ 2, ?_⟩ | refine ⟨cellsAre_blk (O.blk (i := 3) (by simp) rfl).2 _ 1, ?_⟩ | refine ⟨cellsAre_blk (O.blk (i := 3) (by simp) rfl).2 _ 2, ?_⟩ | refine ⟨cellsAre_blk (O.blk (i := 4) (by simp) rfl).2 _ 1, ?_⟩ | refine ⟨cellsAre_blk (O.blk (i := 4) (by simp) rfl).2 _ 2, ?_⟩ | refine ⟨cellsAre_blk (O.blk (i := 5) (by simp) rfl).2 _ 1, ?_⟩ | refine ⟨cellsAre_blk (O.blk (i := 5) (by simp) rfl).2 _ 2, ?_⟩ | refine ⟨cellsAre_blk (O.blk (i := 6) (by simp) rfl).2 _ 1, ?_⟩ | refine ⟨cellsAre_blk (O.blk (i := 6) (by simp) rfl).2 _ 2, ?_⟩ | refine ⟨cellsAre_blk (O.blk (i := 7) (by simp) rfl).2 _ 1, ?_⟩ | refine ⟨cellsAre_blk (O.blk (i := 7) (by simp) rfl).2 _ 2, ?_⟩ | refine ⟨cellsAre_blk (O.blk (i := 8) (by simp) rfl).2 _ 1, ?_⟩ | refine ⟨cellsAre_blk (O.blk (i := 8) (by simp) rfl).2 _ 2, ?_⟩ | refine ⟨cellsAre_blk (O.blk (i := 9) (by simp) rfl).2 _ 1, ?_⟩ | refine ⟨cellsAre_blk (O.blk (i := 9) (by simp) rfl).2 _ 2, ?_⟩))
      exact hj _ _ ⟨by simp [a3, a4], O⟩
  · exact out (by omega) (fe.ko h5) O
end Go.Proofs.Ytcbelendjpnmiaa.V
