import Derived.Test.YtcbelendjpnmiaaZReplicaKeeps2
import Derived.Test.YtcbelendjpnmiaaProg
/- The replica's laws: the calls of a life; a replica promises and stores. -/
namespace Go.Proofs.Ytcbelendjpnmiaa.V
open Go Go.RowKit
set_option linter.unusedVariables false
set_option linter.unusedSimpArgs false
structure ROp where
  do_ : Int
  which : Int
  span : Int
  epoch : Int
  m : Mg
  sp : Int
  ste : Int
  sts : Int
  sv : Sl
  sb : List UInt8
def ropC (o : ROp) : List Value := [.int .i64 o.do_, .int .i64 o.which, .int .i64 o.span, .int .u64 o.epoch, .int .i64 o.m.kind, .int .i64 o.m.frm, .int .i64 o.m.to, .int .i64 o.m.shard, .int .u64 o.m.epoch, .int .u64 o.m.te, .int .u64 o.m.ts, .int .u64 o.m.round, .int .i64 o.m.span, .int .u64 o.m.seen, .slice o.m.v.ptr o.m.v.len o.m.v.cap, .int .i64 o.m.peer, .int .u64 o.m.num, .string o.m.name, .string o.m.other, .int .u64 o.m.amount, .int .u64 o.m.life, .int .u64 o.m.id, .int .i64 o.m.op, .int .i64 o.m.client, .int .i64 o.m.state, .int .i64 o.m.bad, .int .u64 o.sp, .int .u64 o.ste, .int .u64 o.sts, .slice o.sv.ptr o.sv.len o.sv.cap]
abbrev tyB : Ty := .sl 1 1 (.int .u8)
abbrev tyMsg : Ty := .cons (.cons (.int .i64) (.cons (.int .i64) (.cons (.int .i64) (.cons (.int .i64) .nil)))) (.cons (.int .u64) (.cons (.cons (.int .u64) (.cons (.int .u64) .nil)) (.cons (.int .u64) (.cons (.int .i64) (.cons (.int .u64) (.cons tyB (.cons (.int .i64) (.cons (.int .u64) (.cons .str (.cons .str (.cons (.int .u64) (.cons (.cons (.int .u64) (.cons (.int .u64) .nil)) (.cons (.int .i64) (.cons (.int .i64) (.cons (.int .i64) (.cons (.int .i64) .nil))))))))))))))))
abbrev tyStored : Ty := .cons (.int .u64) (.cons (.cons (.int .u64) (.cons (.int .u64) .nil)) (.cons tyB .nil))
abbrev tyROp : Ty := .cons (.int .i64) (.cons (.int .i64) (.cons (.int .i64) (.cons (.int .u64) (.cons tyMsg (.cons tyStored .nil)))))
abbrev tyLife : Ty := .cons tyStored (.cons (.int .i64) (.cons (.sl 30 288 tyROp) .nil))
structure ROp.Ok (h : Heap) (o : ROp) : Prop where
  mv : Bytes h o.m.v o.m.b
  mb : o.m.b.length ≤ (140737488355325 : Nat)
  mspan : o.m.span ≤ (9223372036854775807 : Int)
  me : 0 ≤ o.m.epoch ∧ o.m.epoch ≤ (18446744073709551615 : Int)
  mte : 0 ≤ o.m.te ∧ o.m.te ≤ (18446744073709551615 : Int)
  ep : 0 ≤ o.epoch ∧ o.epoch ≤ (18446744073709551615 : Int)
  span : o.span ≤ (9223372036854775807 : Int)
  sv : Bytes h o.sv o.sb
  sb : o.sb.length ≤ (140737488355325 : Nat)
  spr : 0 ≤ o.sp ∧ o.sp ≤ (18446744073709551615 : Int)
def ropR (h : Heap) (o : ROp) (cs : List Value) : Prop := cs = ropC o ∧ o.Ok h
theorem SlN.rops {h : Heap} {s : Sl} (S : SlN h 140737488351232 30 288 s fun cs => Fit h 140737488351232 tyROp cs) : ∃ l : List ROp, View h 30 (ropR h) s l := by
  obtain ⟨h1, h2, _, xs, V⟩ := S.view (ropR h) (fun cs F => by
    obtain ⟨t1, _, rfl, t1a, t1b, F⟩ := Fit.i F
    obtain ⟨t2, _, rfl, t2a, t2b, F⟩ := Fit.i F
    obtain ⟨t3, _, rfl, t3a, t3b, F⟩ := Fit.i F
    obtain ⟨t4, _, rfl, t4a, t4b, F⟩ := Fit.i F
    replace F := Fit.g F
    replace F := Fit.g F
    obtain ⟨m1, _, rfl, m1a, m1b, F⟩ := Fit.i F
    replace F := Fit.g F
    obtain ⟨m2, _, rfl, m2a, m2b, F⟩ := Fit.i F
    replace F := Fit.g F
    obtain ⟨m3, _, rfl, m3a, m3b, F⟩ := Fit.i F
    replace F := Fit.g F
    obtain ⟨m4, _, rfl, m4a, m4b, F⟩ := Fit.i F
    replace F := Fit.z F
    replace F := Fit.g F
    obtain ⟨m5, _, rfl, m5a, m5b, F⟩ := Fit.i F
    replace F := Fit.g F
    replace F := Fit.g F
    obtain ⟨m6, _, rfl, m6a, m6b, F⟩ := Fit.i F
    replace F := Fit.g F
    obtain ⟨m7, _, rfl, m7a, m7b, F⟩ := Fit.i F
    replace F := Fit.z F
    replace F := Fit.g F
    obtain ⟨m8, _, rfl, m8a, m8b, F⟩ := Fit.i F
    replace F := Fit.g F
    obtain ⟨m9, _, rfl, m9a, m9b, F⟩ := Fit.i F
    replace F := Fit.g F
    obtain ⟨m10, _, rfl, m10a, m10b, F⟩ := Fit.i F
    replace F := Fit.g F
    obtain ⟨m11, _, rfl, m11S, F⟩ := Fit.s F
    replace F := Fit.g F
    obtain ⟨m12, _, rfl, m12a, m12b, F⟩ := Fit.i F
    replace F := Fit.g F
    obtain ⟨m13, _, rfl, m13a, m13b, F⟩ := Fit.i F
    replace F := Fit.g F
    obtain ⟨m14, _, rfl, m14l, F⟩ := Fit.a F
    replace F := Fit.g F
    obtain ⟨m15, _, rfl, m15l, F⟩ := Fit.a F
    replace F := Fit.g F
    obtain ⟨m16, _, rfl, m16a, m16b, F⟩ := Fit.i F
    replace F := Fit.g F
    replace F := Fit.g F
    obtain ⟨m17, _, rfl, m17a, m17b, F⟩ := Fit.i F
    replace F := Fit.g F
    obtain ⟨m18, _, rfl, m18a, m18b, F⟩ := Fit.i F
    replace F := Fit.z F
    replace F := Fit.g F
    obtain ⟨m19, _, rfl, m19a, m19b, F⟩ := Fit.i F
    replace F := Fit.g F
    obtain ⟨m20, _, rfl, m20a, m20b, F⟩ := Fit.i F
    replace F := Fit.g F
    obtain ⟨m21, _, rfl, m21a, m21b, F⟩ := Fit.i F
    replace F := Fit.g F
    obtain ⟨m22, _, rfl, m22a, m22b, F⟩ := Fit.i F
    replace F := Fit.z F
    replace F := Fit.g F
    obtain ⟨s1, _, rfl, s1a, s1b, F⟩ := Fit.i F
    replace F := Fit.g F
    replace F := Fit.g F
    obtain ⟨s2, _, rfl, s2a, s2b, F⟩ := Fit.i F
    replace F := Fit.g F
    obtain ⟨s3, _, rfl, s3a, s3b, F⟩ := Fit.i F
    replace F := Fit.z F
    replace F := Fit.g F
    obtain ⟨s4, _, rfl, s4S, F⟩ := Fit.s F
    replace F := Fit.z F
    obtain rfl := Fit.e F
    obtain ⟨_, a2, l, Vl⟩ := m11S.bytes
    obtain ⟨_, b2, l2, Vl2⟩ := s4S.bytes
    have hl := Vl.len
    have hl2 := Vl2.len
    rw [u64_min] at m5a m6a t4a s1a; rw [u64_max] at m5b m6b t4b s1b; rw [i64_max] at m9b t3b
    refine ⟨⟨t1, t2, t3, t4, ⟨m1, m2, m3, m4, m5, m6, m7, m8, m9, m10, m11, m12, m13, m14, m15, m16, m17, m18, m19, m20, m21, m22, l⟩, s1, s2, s3, s4, l2⟩, rfl, Vl, ?_, m9b, ⟨m5a, m5b⟩, ⟨m6a, m6b⟩, ⟨t4a, t4b⟩, t3b, Vl2, ?_, ⟨s1a, s1b⟩⟩
    · show l.length ≤ _; omega
    · show l2.length ≤ _; omega)
  exact ⟨xs, V⟩
theorem spanOf_ok {s : Int} (h : s ≤ (9223372036854775807 : Int)) : 0 ≤ spanOf s ∧ spanOf s ≤ (9223372036854775807 : Int) := by unfold spanOf; split <;> omega
theorem spanOf_id {s : Int} (h : 0 ≤ s) : spanOf s = s := by unfold spanOf; split <;> omega
theorem hearS_ok {r : RS} {m : Mg} (ok : r.Ok) (hb : m.b.length ≤ (140737488355325 : Nat)) (hs : m.span ≤ (9223372036854775807 : Int)) : (hearS r m).1.Ok := by
  have hsp := spanOf_ok hs
  have h1 : ∀ e, (r.take_ e m.span).Ok := fun e => ⟨ok.v, hsp.1, hsp.2⟩
  unfold hearS act
  dsimp only
  split
  · unfold prep; split
    · exact ok
    · exact ⟨ok.v, ok.w0, ok.w1⟩
  split
  · unfold writ; split
    · exact ok
    split
    · exact h1 _
    split
    · exact ⟨hb, hsp.1, hsp.2⟩
    · exact h1 _
  split
  · unfold beats; split
    · exact ok
    · exact h1 _
  · exact ok
def mg0 : Mg := ⟨0, 0, 0, 0, 0, 0, 0, 0, 0, 0, ⟨none, 0, 0⟩, 0, 0, ⟨#[]⟩, ⟨#[]⟩, 0, 0, 0, 0, 0, 0, 0, []⟩
def lifeM (o : ROp) : Mg := if o.do_ = 1 then o.m else mg0
def lifeD (r : RS) (o : ROp) : HD := if o.do_ = 1 then (hearS r o.m).2 else hd0
def tickS (r : RS) : RS := { r with wait := if r.wait = 0 then 0 else r.wait - 1 }
def ownS (r : RS) (e : Int) : RS := { r with prom := if r.prom > e then r.prom else e }
def lifeS (r : RS) (o : ROp) : RS := if o.do_ = 1 then (hearS r o.m).1 else if o.do_ = 2 then tickS r else if o.do_ = 3 then ownS r o.epoch else r
theorem tickS_ok {r : RS} (ok : r.Ok) : (tickS r).Ok := ⟨ok.v, by have := ok.w0; show 0 ≤ (if r.wait = 0 then 0 else r.wait - 1); split <;> omega, by have := ok.w0; have := ok.w1; show (if r.wait = 0 then 0 else r.wait - 1) ≤ _; split <;> omega⟩
theorem lifeS_ok {h : Heap} {r : RS} {o : ROp} (ok : r.Ok) (oo : o.Ok h) : (lifeS r o).Ok := by
  unfold lifeS
  split
  · exact hearS_ok ok oo.mb oo.mspan
  split
  · exact tickS_ok ok
  split
  · exact ⟨ok.v, ok.w0, ok.w1⟩
  · exact ok
theorem lifeM_b {h : Heap} {o : ROp} (oo : o.Ok h) : Bytes h (lifeM o).v (lifeM o).b ∧ (lifeM o).b.length ≤ (140737488355325 : Nat) := by
  unfold lifeM
  split
  · exact ⟨oo.mv, oo.mb⟩
  · exact ⟨View.nil (p := none) (c := 0), by simp [mg0]⟩
section
variable {h0 h : Heap} {L : List Res}
theorem F_law9_Life_at.is {p : Nat} {r : RS} {o : ROp} {ops : List ROp} {a b c d i : Int} {v ls : Sl} {Q : Int → Int → Int → Int → Int → Int → Int → Int → Int → Int → Sl → Int → Int → ByteArray → ByteArray → Int → Int → Int → Int → Int → Int → Int → Int → Int → Int → Int → Int → Int → Int → Int → Int → Int → Sl → Int → Int → ByteArray → ByteArray → Int → Int → Int → Int → Int → Int → Int → Bool → Bool → Bool → Heap → Prop} (Vo : View h0 30 (ropR h0) ls ops) (hi : 0 ≤ i) (ho : ops[i.toNat]? = some o) (ok : r.Ok) (O : Sat h0 h (repR p r :: L))
    (k : ∀ s h', Sat h0 h' (buf 1 u8 s (lifeD r o).val :: repR p (lifeS r o) :: L) → Q (lifeM o).kind (lifeM o).frm (lifeM o).to (lifeM o).shard (lifeM o).epoch (lifeM o).te (lifeM o).ts (lifeM o).round (lifeM o).span (lifeM o).seen (lifeM o).v (lifeM o).peer (lifeM o).num (lifeM o).name (lifeM o).other (lifeM o).amount (lifeM o).life (lifeM o).id (lifeM o).op (lifeM o).client (lifeM o).state (lifeM o).bad (lifeD r o).kind (lifeD r o).frm (lifeD r o).to (lifeD r o).shard (lifeD r o).epoch (lifeD r o).te (lifeD r o).ts (lifeD r o).round 0 (lifeD r o).seen s 0 0 ⟨#[]⟩ ⟨#[]⟩ 0 0 0 0 0 0 0 (lifeD r o).ans (lifeD r o).tak (lifeD r o).chg h') : F_law9_Life_at a b c v d ls (some (pt p 0)) i h Q := by
  rw [F_law9_Life_at.eq_1, F_law9_Life_at_of.eq_1]
  refine O.al fun x9 h O => ?_
  refine O.al fun x11 h O => ?_
  refine O.al fun x13 h O => ?_
  repeat (first
    | (with_reducible refine al_id ?_); refine O.al fun _ h O => ?_
    | (with_reducible refine nn_id ?_); refine ⟨_, rfl, ?_⟩
    | (with_reducible refine ld_id ?_); (first | refine O.ld 0 rfl ?_ | refine O.ld 1 rfl ?_ | refine O.ld 2 rfl ?_); (repeat (first | (with_reducible refine ldL_n ?_) | refine ldL_s ?_ | refine ldL_c ?_))
    | (with_reducible refine st_ad (by first | (with_reducible rfl) | (simp only [pt_add, Nat.zero_add, Nat.add_zero, Nat.reduceAdd]; with_reducible rfl)) ?_); (first | refine O.st 0 rfl (by simp) rfl fun h O => ?_ | refine O.st 1 rfl (by simp) rfl fun h O => ?_ | refine O.st 2 rfl (by simp) rfl fun h O => ?_); (dsimp only [V.put, List.set, List.length_cons, List.length_nil] at O)
    | (with_reducible refine ca_id ?_); (first | refine ⟨cellsAre_blk (O.blk (i := 0) (by simp) rfl).2 _ 1, ?_⟩ | refine ⟨cellsAre_blk (O.blk (i := 0) (by simp) rfl).2 _ 2, ?_⟩ | refine ⟨cellsAre_blk (O.blk (i := 1) (by simp) rfl).2 _ 1, ?_⟩ | refine ⟨cellsAre_blk (O.blk (i := 1) (by simp) rfl).2 _ 2, ?_⟩ | refine ⟨cellsAre_blk (O.blk (i := 2) (by simp) rfl).2 _ 1, ?_⟩ | refine ⟨cellsAre_blk (O.blk (i := 2) (by simp) rfl).2 _ 2, ?_⟩))
  refine (Vo.kept O.kept).ix hi (by have := (List.getElem?_eq_some_iff.1 ho).1; omega) fun a2 cs o2 ho2 hlen hR hc => ?_
  rw [ho] at ho2; cases ho2
  obtain ⟨rfl, oo⟩ := hR
  refine ld_are hc ?_
  unfold ropC
  repeat (first | (with_reducible refine ldL_n ?_) | refine ldL_s ?_ | refine ldL_c ?_)
  refine O.al fun x47 h O => ?_
  repeat (first
    | (with_reducible refine al_id ?_); refine O.al fun _ h O => ?_
    | (with_reducible refine nn_id ?_); refine ⟨_, rfl, ?_⟩
    | (with_reducible refine ld_id ?_); (first | refine O.ld 0 rfl ?_); (repeat (first | (with_reducible refine ldL_n ?_) | refine ldL_s ?_ | refine ldL_c ?_))
    | (with_reducible refine st_ad (by first | (with_reducible rfl) | (simp only [pt_add, Nat.zero_add, Nat.add_zero, Nat.reduceAdd]; with_reducible rfl)) ?_); (first | refine O.st 0 rfl (by simp) rfl fun h O => ?_); (dsimp only [V.put, List.set, List.length_cons, List.length_nil] at O)
    | (with_reducible refine ca_id ?_); (first | refine ⟨cellsAre_blk (O.blk (i := 0) (by simp) rfl).2 _ 1, ?_⟩ | refine ⟨cellsAre_blk (O.blk (i := 0) (by simp) rfl).2 _ 2, ?_⟩))
  -- own x47, x13, x11, x9, repR
  refine brr_eq (fun h1 => ?_) (fun h1 => ?_)
  · have e1 : lifeM o = o.m := by unfold lifeM; rw [if_pos h1]
    have e2 : lifeD r o = (hearS r o.m).2 := by unfold lifeD; rw [if_pos h1]
    have e3 : lifeS r o = (hearS r o.m).1 := by unfold lifeS; rw [if_pos h1]
    rw [e1, e2, e3] at k
    repeat (first
      | (with_reducible refine al_id ?_); refine O.al fun _ h O => ?_
      | (with_reducible refine nn_id ?_); refine ⟨_, rfl, ?_⟩
      | (with_reducible refine ld_id ?_); (first | refine O.ld 0 rfl ?_); (repeat (first | (with_reducible refine ldL_n ?_) | refine ldL_s ?_ | refine ldL_c ?_))
      | (with_reducible refine st_ad (by first | (with_reducible rfl) | (simp only [pt_add, Nat.zero_add, Nat.add_zero, Nat.reduceAdd]; with_reducible rfl)) ?_); (first | refine O.st 0 rfl (by simp) rfl fun h O => ?_); (dsimp only [V.put, List.set, List.length_cons, List.length_nil] at O)
      | (with_reducible refine ca_id ?_); (first | refine ⟨cellsAre_blk (O.blk (i := 0) (by simp) rfl).2 _ 1, ?_⟩ | refine ⟨cellsAre_blk (O.blk (i := 0) (by simp) rfl).2 _ 2, ?_⟩))
    refine F_ref0_CopyMsg.is (m := o.m) O (fun h O => oo.mv.kept O.kept) oo.mb fun s1 h O => ?_
    refine ⟨cellsAre_blk (O.blk (i := 1) (by simp) rfl).2 4 22, ?_⟩
    replace O := O.sel [5, 0, 1, 2, 3, 4] 6 rfl (Nat.le_add_left _ _)
    simp only [selT, List.map, nth, List.drop, List.cons_append, List.nil_append] at O
    refine F_replica_Replica_Hear.is (m := { o.m with v := s1 }) ok (fun h O => (O.view 0 u8_len (by simp) rfl).1) oo.mb O fun s h O => ?_
    refine ⟨cellsAre_blk (O.blk (i := 3) (by simp) rfl).2 4 22, ?_⟩
    repeat (first
      | (with_reducible refine al_id ?_); refine O.al fun _ h O => ?_
      | (with_reducible refine nn_id ?_); refine ⟨_, rfl, ?_⟩
      | (with_reducible refine ld_id ?_); (first | refine O.ld 0 rfl ?_ | refine O.ld 1 rfl ?_ | refine O.ld 2 rfl ?_ | refine O.ld 3 rfl ?_ | refine O.ld 4 rfl ?_ | refine O.ld 5 rfl ?_); (repeat (first | (with_reducible refine ldL_n ?_) | refine ldL_s ?_ | refine ldL_c ?_))
      | (with_reducible refine st_ad (by first | (with_reducible rfl) | (simp only [pt_add, Nat.zero_add, Nat.add_zero, Nat.reduceAdd]; with_reducible rfl)) ?_); (first | refine O.st 0 rfl (by simp) rfl fun h O => ?_ | refine O.st 1 rfl (by simp) rfl fun h O => ?_ | refine O.st 2 rfl (by simp) rfl fun h O => ?_ | refine O.st 3 rfl (by simp) rfl fun h O => ?_ | refine O.st 4 rfl (by simp) rfl fun h O => ?_ | refine O.st 5 rfl (by simp) rfl fun h O => ?_); (dsimp only [V.put, List.set, List.length_cons, List.length_nil] at O)
      | (with_reducible refine ca_id ?_); (first | refine ⟨cellsAre_blk (O.blk (i := 0) (by simp) rfl).2 _ 1, ?_⟩ | refine ⟨cellsAre_blk (O.blk (i := 0) (by simp) rfl).2 _ 2, ?_⟩ | refine ⟨cellsAre_blk (O.blk (i := 1) (by simp) rfl).2 _ 1, ?_⟩ | refine ⟨cellsAre_blk (O.blk (i := 1) (by simp) rfl).2 _ 2, ?_⟩ | refine ⟨cellsAre_blk (O.blk (i := 2) (by simp) rfl).2 _ 1, ?_⟩ | refine ⟨cellsAre_blk (O.blk (i := 2) (by simp) rfl).2 _ 2, ?_⟩ | refine ⟨cellsAre_blk (O.blk (i := 3) (by simp) rfl).2 _ 1, ?_⟩ | refine ⟨cellsAre_blk (O.blk (i := 3) (by simp) rfl).2 _ 2, ?_⟩ | refine ⟨cellsAre_blk (O.blk (i := 4) (by simp) rfl).2 _ 1, ?_⟩ | refine ⟨cellsAre_blk (O.blk (i := 4) (by simp) rfl).2 _ 2, ?_⟩ | refine ⟨cellsAre_blk (O.blk (i := 5) (by simp) rfl).2 _ 1, ?_⟩ | refine ⟨cellsAre_blk (O.blk (i := 5) (by simp) rfl).2 _ 2, ?_⟩))
    have e4 : hearS r { o.m with v := s1 } = hearS r o.m := rfl
    rw [e4] at O
    exact k _ _ (O.sel [0, 1] 7 rfl (Nat.le_add_left _ _))
  have e1 : lifeM o = mg0 := by unfold lifeM; rw [if_neg h1]
  have e2 : lifeD r o = hd0 := by unfold lifeD; rw [if_neg h1]
  rw [e1, e2] at k
  refine jn0 (fun h' => Sat h0 h' (repR p (lifeS r o) :: own x13 [.int .i64 0, .int .i64 0, .int .i64 0, .int .i64 0, .int .u64 0, .int .u64 0, .int .u64 0, .int .u64 0, .int .i64 0, .int .u64 0, .slice none 0 0, .int .i64 0, .int .u64 0, .string (⟨#[]⟩ : ByteArray), .string (⟨#[]⟩ : ByteArray), .int .u64 0, .int .u64 0, .int .u64 0, .int .i64 0, .int .i64 0, .int .i64 0, .int .i64 0, .bool false, .bool false, .bool false] :: own x11 [.int .i64 0, .int .i64 0, .int .i64 0, .int .i64 0, .int .u64 0, .int .u64 0, .int .u64 0, .int .u64 0, .int .i64 0, .int .u64 0, .slice none 0 0, .int .i64 0, .int .u64 0, .string (⟨#[]⟩ : ByteArray), .string (⟨#[]⟩ : ByteArray), .int .u64 0, .int .u64 0, .int .u64 0, .int .i64 0, .int .i64 0, .int .i64 0, .int .i64 0] :: L)) ?_ ?_
  · clear O
    intro h O
    repeat (first
      | (with_reducible refine al_id ?_); refine O.al fun _ h O => ?_
      | (with_reducible refine nn_id ?_); refine ⟨_, rfl, ?_⟩
      | (with_reducible refine ld_id ?_); (first | refine O.ld 0 rfl ?_ | refine O.ld 1 rfl ?_ | refine O.ld 2 rfl ?_); (repeat (first | (with_reducible refine ldL_n ?_) | refine ldL_s ?_ | refine ldL_c ?_))
      | (with_reducible refine st_ad (by first | (with_reducible rfl) | (simp only [pt_add, Nat.zero_add, Nat.add_zero, Nat.reduceAdd]; with_reducible rfl)) ?_); (first | refine O.st 0 rfl (by simp) rfl fun h O => ?_ | refine O.st 1 rfl (by simp) rfl fun h O => ?_ | refine O.st 2 rfl (by simp) rfl fun h O => ?_); (dsimp only [V.put, List.set, List.length_cons, List.length_nil] at O)
      | (with_reducible refine ca_id ?_); (first | refine ⟨cellsAre_blk (O.blk (i := 0) (by simp) rfl).2 _ 1, ?_⟩ | refine ⟨cellsAre_blk (O.blk (i := 0) (by simp) rfl).2 _ 2, ?_⟩ | refine ⟨cellsAre_blk (O.blk (i := 1) (by simp) rfl).2 _ 1, ?_⟩ | refine ⟨cellsAre_blk (O.blk (i := 1) (by simp) rfl).2 _ 2, ?_⟩ | refine ⟨cellsAre_blk (O.blk (i := 2) (by simp) rfl).2 _ 1, ?_⟩ | refine ⟨cellsAre_blk (O.blk (i := 2) (by simp) rfl).2 _ 2, ?_⟩))
    exact k _ _ (O.sel [0] 3 rfl (Nat.le_add_left _ _)).nil_buf
  · intro j hj
    have O2 := O
    replace O := O.sel [4, 1, 2, 0] 5 rfl (Nat.le_add_left _ _)
    simp only [selT, List.map, nth, List.drop, List.cons_append, List.nil_append] at O
    refine brr_eq (fun h2 => ?_) (fun h2 => ?_)
    · have e3 : lifeS r o = tickS r := by unfold lifeS; rw [if_neg h1, if_pos h2]
      rw [e3] at hj
      refine F_replica_Replica_Tick.is ok O fun h O => ?_
      exact hj _ (O.sel [0, 1, 2] 4 rfl (Nat.le_add_left _ _))
    refine jn_go ?_
    refine brr_eq (fun h3 => ?_) (fun h3 => ?_)
    · have e3 : lifeS r o = ownS r o.epoch := by unfold lifeS; rw [if_neg h1, if_neg h2, if_pos h3]
      rw [e3] at hj
      refine O.ld 3 rfl (ldL_c (ldL_n ?_))
      refine F_replica_Replica_Own.is O fun h O => ?_
      exact hj _ (O.sel [0, 1, 2] 4 rfl (Nat.le_add_left _ _))
    · have e3 : lifeS r o = r := by unfold lifeS; rw [if_neg h1, if_neg h2, if_neg h3]
      rw [e3] at hj
      exact hj _ (O.sel [0, 1, 2] 4 rfl (Nat.le_add_left _ _))
theorem F_law9_lives.is {Q : Bool → Heap → Prop} (O : Sat h0 h L) (k : ∀ h', Sat h0 h' L → Q true h') : F_law9_lives h Q := by
  rw [F_law9_lives.eq_1, F_law9_lives_of.eq_1]
  refine O.al fun x1 h O => ?_
  refine O.frz fun h O => ?_
  have O := lit_buf (x := 118) O
  refine F_replica_New.is (xs := [118]) O (fun h O => (O.view 0 u8_len (by simp) rfl).1) (by simp) fun p h O => ?_
  refine brr_ff rfl ?_
  have ok0 : RS.Ok ⟨0, 0, 0, [118], 0⟩ := ⟨by simp, by decide, by decide⟩
  refine F_replica_Replica_Hear.is (m := { mg0 with kind := 1, frm := 2, to := 1, epoch := 5 }) ok0 (fun h O => View.nil (p := none) (c := 0)) (by simp [mg0]) O fun s1 h O => ?_
  have e1 : hearS ⟨0, 0, 0, [118], 0⟩ { mg0 with kind := 1, frm := 2, to := 1, epoch := 5 } = (⟨5, 0, 0, [118], 0⟩, ⟨2, 1, 2, 0, 5, 0, 0, 0, 0, [118], true, false, true⟩) := by rfl
  rw [e1] at O ⊢
  refine O.al fun x32 h O => ?_
  refine O.st 0 rfl (by simp) rfl fun h O => ?_
  dsimp only [V.put, List.set] at O
  refine O.al fun x35 h O => ?_
  refine O.frz fun h O => ?_
  have O := lit_buf (x := 119) O
  replace O := O.sel [3, 0, 1, 2, 4] 5 rfl (Nat.le_add_left _ _)
  simp only [selT, List.map, nth, List.drop, List.cons_append, List.nil_append] at O
  refine F_replica_Replica_Hear.is (m := { mg0 with kind := 4, frm := 2, to := 1, te := 5, ts := 1, span := 3, v := ⟨some (pt x35 0), 1, 1⟩, b := [119] }) ⟨by simp, by decide, by decide⟩ (fun h O => (O.view 0 u8_len (by simp) rfl).1) (by simp) O fun s2 h O => ?_
  have e2 : hearS ⟨5, 0, 0, [118], 0⟩ { mg0 with kind := 4, frm := 2, to := 1, te := 5, ts := 1, span := 3, v := ⟨some (pt x35 0), 1, 1⟩, b := [119] } = (⟨5, 5, 1, [119], 3⟩, ⟨5, 1, 2, 0, 0, 5, 1, 0, 0, [], true, true, true⟩) := by rfl
  rw [e2] at O ⊢
  refine O.al fun x64 h O => ?_
  refine O.st 0 rfl (by simp) rfl fun h O => ?_
  dsimp only [V.put, List.set] at O
  replace O := O.sel [2, 0, 1, 3, 4, 5, 6] 7 rfl (Nat.le_add_left _ _)
  simp only [selT, List.map, nth, List.drop, List.cons_append, List.nil_append] at O
  refine F_replica_Replica_Stored.is ⟨by simp, by decide, by decide⟩ O fun s3 h O => ?_
  refine O.al fun x72 h O => ?_
  refine O.st 0 rfl (by simp) rfl fun h O => ?_
  dsimp only [V.put, List.set] at O
  refine jn1 (fun z h' => z = true ∧ Sat h0 h' L) (fun z h' ⟨e, O⟩ => e ▸ k h' O) fun j hj => ?_
  -- own x72, buf s3, repR, own x64, buf s2, buf lit, own x32, buf s1, ..
  repeat (first
    | (with_reducible refine al_id ?_); refine O.al fun _ h O => ?_
    | (with_reducible refine nn_id ?_); refine ⟨_, rfl, ?_⟩
    | (with_reducible refine ld_id ?_); (first | refine O.ld 0 rfl ?_ | refine O.ld 1 rfl ?_ | refine O.ld 2 rfl ?_ | refine O.ld 3 rfl ?_ | refine O.ld 4 rfl ?_ | refine O.ld 5 rfl ?_ | refine O.ld 6 rfl ?_); (repeat (first | (with_reducible refine ldL_n ?_) | refine ldL_s ?_ | refine ldL_c ?_))
    | (with_reducible refine st_ad (by first | (with_reducible rfl) | (simp only [pt_add, Nat.zero_add, Nat.add_zero, Nat.reduceAdd]; with_reducible rfl)) ?_); (first | refine O.st 0 rfl (by simp) rfl fun h O => ?_ | refine O.st 1 rfl (by simp) rfl fun h O => ?_ | refine O.st 2 rfl (by simp) rfl fun h O => ?_ | refine O.st 3 rfl (by simp) rfl fun h O => ?_ | refine O.st 4 rfl (by simp) rfl fun h O => ?_ | refine O.st 5 rfl (by simp) rfl fun h O => ?_ | refine O.st 6 rfl (by simp) rfl fun h O => ?_); (dsimp only [V.put, List.set, List.length_cons, List.length_nil] at O)
    | (with_reducible refine ca_id ?_); (first | refine ⟨cellsAre_blk (O.blk (i := 0) (by simp) rfl).2 _ 1, ?_⟩ | refine ⟨cellsAre_blk (O.blk (i := 0) (by simp) rfl).2 _ 2, ?_⟩ | refine ⟨cellsAre_blk (O.blk (i := 1) (by simp) rfl).2 _ 1, ?_⟩ | refine ⟨cellsAre_blk (O.blk (i := 1) (by simp) rfl).2 _ 2, ?_⟩ | refine ⟨cellsAre_blk (O.blk (i := 2) (by simp) rfl).2 _ 1, ?_⟩ | refine ⟨cellsAre_blk (O.blk (i := 2) (by simp) rfl).2 _ 2, ?_⟩ | refine ⟨cellsAre_blk (O.blk (i := 3) (by simp) rfl).2 _ 1, ?_⟩ | refine ⟨cellsAre_blk (O.blk (i := 3) (by simp) rfl).2 _ 2, ?_⟩ | refine ⟨cellsAre_blk (O.blk (i := 4) (by simp) rfl).2 _ 1, ?_⟩ | refine ⟨cellsAre_blk (O.blk (i := 4) (by simp) rfl).2 _ 2, ?_⟩ | refine ⟨cellsAre_blk (O.blk (i := 5) (by simp) rfl).2 _ 1, ?_⟩ | refine ⟨cellsAre_blk (O.blk (i := 5) (by simp) rfl).2 _ 2, ?_⟩ | refine ⟨cellsAre_blk (O.blk (i := 6) (by simp) rfl).2 _ 1, ?_⟩ | refine ⟨cellsAre_blk (O.blk (i := 6) (by simp) rfl).2 _ 2, ?_⟩))
  refine brr_tt rfl ?_
  repeat (first
    | (with_reducible refine al_id ?_); refine O.al fun _ h O => ?_
    | (with_reducible refine nn_id ?_); refine ⟨_, rfl, ?_⟩
    | (with_reducible refine ld_id ?_); (first | refine O.ld 0 rfl ?_ | refine O.ld 1 rfl ?_ | refine O.ld 2 rfl ?_ | refine O.ld 3 rfl ?_ | refine O.ld 4 rfl ?_ | refine O.ld 5 rfl ?_ | refine O.ld 6 rfl ?_); (repeat (first | (with_reducible refine ldL_n ?_) | refine ldL_s ?_ | refine ldL_c ?_))
    | (with_reducible refine st_ad (by first | (with_reducible rfl) | (simp only [pt_add, Nat.zero_add, Nat.add_zero, Nat.reduceAdd]; with_reducible rfl)) ?_); (first | refine O.st 0 rfl (by simp) rfl fun h O => ?_ | refine O.st 1 rfl (by simp) rfl fun h O => ?_ | refine O.st 2 rfl (by simp) rfl fun h O => ?_ | refine O.st 3 rfl (by simp) rfl fun h O => ?_ | refine O.st 4 rfl (by simp) rfl fun h O => ?_ | refine O.st 5 rfl (by simp) rfl fun h O => ?_ | refine O.st 6 rfl (by simp) rfl fun h O => ?_); (dsimp only [V.put, List.set, List.length_cons, List.length_nil] at O)
    | (with_reducible refine ca_id ?_); (first | refine ⟨cellsAre_blk (O.blk (i := 0) (by simp) rfl).2 _ 1, ?_⟩ | refine ⟨cellsAre_blk (O.blk (i := 0) (by simp) rfl).2 _ 2, ?_⟩ | refine ⟨cellsAre_blk (O.blk (i := 1) (by simp) rfl).2 _ 1, ?_⟩ | refine ⟨cellsAre_blk (O.blk (i := 1) (by simp) rfl).2 _ 2, ?_⟩ | refine ⟨cellsAre_blk (O.blk (i := 2) (by simp) rfl).2 _ 1, ?_⟩ | refine ⟨cellsAre_blk (O.blk (i := 2) (by simp) rfl).2 _ 2, ?_⟩ | refine ⟨cellsAre_blk (O.blk (i := 3) (by simp) rfl).2 _ 1, ?_⟩ | refine ⟨cellsAre_blk (O.blk (i := 3) (by simp) rfl).2 _ 2, ?_⟩ | refine ⟨cellsAre_blk (O.blk (i := 4) (by simp) rfl).2 _ 1, ?_⟩ | refine ⟨cellsAre_blk (O.blk (i := 4) (by simp) rfl).2 _ 2, ?_⟩ | refine ⟨cellsAre_blk (O.blk (i := 5) (by simp) rfl).2 _ 1, ?_⟩ | refine ⟨cellsAre_blk (O.blk (i := 5) (by simp) rfl).2 _ 2, ?_⟩ | refine ⟨cellsAre_blk (O.blk (i := 6) (by simp) rfl).2 _ 1, ?_⟩ | refine ⟨cellsAre_blk (O.blk (i := 6) (by simp) rfl).2 _ 2, ?_⟩))
  refine brr_tt rfl ?_
  repeat (first
    | (with_reducible refine al_id ?_); refine O.al fun _ h O => ?_
    | (with_reducible refine nn_id ?_); refine ⟨_, rfl, ?_⟩
    | (with_reducible refine ld_id ?_); (first | refine O.ld 0 rfl ?_ | refine O.ld 1 rfl ?_ | refine O.ld 2 rfl ?_ | refine O.ld 3 rfl ?_ | refine O.ld 4 rfl ?_ | refine O.ld 5 rfl ?_ | refine O.ld 6 rfl ?_); (repeat (first | (with_reducible refine ldL_n ?_) | refine ldL_s ?_ | refine ldL_c ?_))
    | (with_reducible refine st_ad (by first | (with_reducible rfl) | (simp only [pt_add, Nat.zero_add, Nat.add_zero, Nat.reduceAdd]; with_reducible rfl)) ?_); (first | refine O.st 0 rfl (by simp) rfl fun h O => ?_ | refine O.st 1 rfl (by simp) rfl fun h O => ?_ | refine O.st 2 rfl (by simp) rfl fun h O => ?_ | refine O.st 3 rfl (by simp) rfl fun h O => ?_ | refine O.st 4 rfl (by simp) rfl fun h O => ?_ | refine O.st 5 rfl (by simp) rfl fun h O => ?_ | refine O.st 6 rfl (by simp) rfl fun h O => ?_); (dsimp only [V.put, List.set, List.length_cons, List.length_nil] at O)
    | (with_reducible refine ca_id ?_); (first | refine ⟨cellsAre_blk (O.blk (i := 0) (by simp) rfl).2 _ 1, ?_⟩ | refine ⟨cellsAre_blk (O.blk (i := 0) (by simp) rfl).2 _ 2, ?_⟩ | refine ⟨cellsAre_blk (O.blk (i := 1) (by simp) rfl).2 _ 1, ?_⟩ | refine ⟨cellsAre_blk (O.blk (i := 1) (by simp) rfl).2 _ 2, ?_⟩ | refine ⟨cellsAre_blk (O.blk (i := 2) (by simp) rfl).2 _ 1, ?_⟩ | refine ⟨cellsAre_blk (O.blk (i := 2) (by simp) rfl).2 _ 2, ?_⟩ | refine ⟨cellsAre_blk (O.blk (i := 3) (by simp) rfl).2 _ 1, ?_⟩ | refine ⟨cellsAre_blk (O.blk (i := 3) (by simp) rfl).2 _ 2, ?_⟩ | refine ⟨cellsAre_blk (O.blk (i := 4) (by simp) rfl).2 _ 1, ?_⟩ | refine ⟨cellsAre_blk (O.blk (i := 4) (by simp) rfl).2 _ 2, ?_⟩ | refine ⟨cellsAre_blk (O.blk (i := 5) (by simp) rfl).2 _ 1, ?_⟩ | refine ⟨cellsAre_blk (O.blk (i := 5) (by simp) rfl).2 _ 2, ?_⟩ | refine ⟨cellsAre_blk (O.blk (i := 6) (by simp) rfl).2 _ 1, ?_⟩ | refine ⟨cellsAre_blk (O.blk (i := 6) (by simp) rfl).2 _ 2, ?_⟩))
  refine O.frz fun h O => ?_
  have O := lit_buf (x := 118) O
  refine F_ref0_Eq.is (O.view 8 u8_len (by simp) rfl).1 (O.view 0 u8_len (by simp) rfl).1 (by decide) (by decide) ?_
  refine brr_tt (by decide) ?_
  repeat (first
    | (with_reducible refine al_id ?_); refine O.al fun _ h O => ?_
    | (with_reducible refine nn_id ?_); refine ⟨_, rfl, ?_⟩
    | (with_reducible refine ld_id ?_); (first | refine O.ld 0 rfl ?_ | refine O.ld 1 rfl ?_ | refine O.ld 2 rfl ?_ | refine O.ld 3 rfl ?_ | refine O.ld 4 rfl ?_ | refine O.ld 5 rfl ?_ | refine O.ld 6 rfl ?_); (repeat (first | (with_reducible refine ldL_n ?_) | refine ldL_s ?_ | refine ldL_c ?_))
    | (with_reducible refine st_ad (by first | (with_reducible rfl) | (simp only [pt_add, Nat.zero_add, Nat.add_zero, Nat.reduceAdd]; with_reducible rfl)) ?_); (first | refine O.st 0 rfl (by simp) rfl fun h O => ?_ | refine O.st 1 rfl (by simp) rfl fun h O => ?_ | refine O.st 2 rfl (by simp) rfl fun h O => ?_ | refine O.st 3 rfl (by simp) rfl fun h O => ?_ | refine O.st 4 rfl (by simp) rfl fun h O => ?_ | refine O.st 5 rfl (by simp) rfl fun h O => ?_ | refine O.st 6 rfl (by simp) rfl fun h O => ?_); (dsimp only [V.put, List.set, List.length_cons, List.length_nil] at O)
    | (with_reducible refine ca_id ?_); (first | refine ⟨cellsAre_blk (O.blk (i := 0) (by simp) rfl).2 _ 1, ?_⟩ | refine ⟨cellsAre_blk (O.blk (i := 0) (by simp) rfl).2 _ 2, ?_⟩ | refine ⟨cellsAre_blk (O.blk (i := 1) (by simp) rfl).2 _ 1, ?_⟩ | refine ⟨cellsAre_blk (O.blk (i := 1) (by simp) rfl).2 _ 2, ?_⟩ | refine ⟨cellsAre_blk (O.blk (i := 2) (by simp) rfl).2 _ 1, ?_⟩ | refine ⟨cellsAre_blk (O.blk (i := 2) (by simp) rfl).2 _ 2, ?_⟩ | refine ⟨cellsAre_blk (O.blk (i := 3) (by simp) rfl).2 _ 1, ?_⟩ | refine ⟨cellsAre_blk (O.blk (i := 3) (by simp) rfl).2 _ 2, ?_⟩ | refine ⟨cellsAre_blk (O.blk (i := 4) (by simp) rfl).2 _ 1, ?_⟩ | refine ⟨cellsAre_blk (O.blk (i := 4) (by simp) rfl).2 _ 2, ?_⟩ | refine ⟨cellsAre_blk (O.blk (i := 5) (by simp) rfl).2 _ 1, ?_⟩ | refine ⟨cellsAre_blk (O.blk (i := 5) (by simp) rfl).2 _ 2, ?_⟩ | refine ⟨cellsAre_blk (O.blk (i := 6) (by simp) rfl).2 _ 1, ?_⟩ | refine ⟨cellsAre_blk (O.blk (i := 6) (by simp) rfl).2 _ 2, ?_⟩))
  refine brr_tt rfl ?_
  repeat (first
    | (with_reducible refine al_id ?_); refine O.al fun _ h O => ?_
    | (with_reducible refine nn_id ?_); refine ⟨_, rfl, ?_⟩
    | (with_reducible refine ld_id ?_); (first | refine O.ld 0 rfl ?_ | refine O.ld 1 rfl ?_ | refine O.ld 2 rfl ?_ | refine O.ld 3 rfl ?_ | refine O.ld 4 rfl ?_ | refine O.ld 5 rfl ?_ | refine O.ld 6 rfl ?_); (repeat (first | (with_reducible refine ldL_n ?_) | refine ldL_s ?_ | refine ldL_c ?_))
    | (with_reducible refine st_ad (by first | (with_reducible rfl) | (simp only [pt_add, Nat.zero_add, Nat.add_zero, Nat.reduceAdd]; with_reducible rfl)) ?_); (first | refine O.st 0 rfl (by simp) rfl fun h O => ?_ | refine O.st 1 rfl (by simp) rfl fun h O => ?_ | refine O.st 2 rfl (by simp) rfl fun h O => ?_ | refine O.st 3 rfl (by simp) rfl fun h O => ?_ | refine O.st 4 rfl (by simp) rfl fun h O => ?_ | refine O.st 5 rfl (by simp) rfl fun h O => ?_ | refine O.st 6 rfl (by simp) rfl fun h O => ?_); (dsimp only [V.put, List.set, List.length_cons, List.length_nil] at O)
    | (with_reducible refine ca_id ?_); (first | refine ⟨cellsAre_blk (O.blk (i := 0) (by simp) rfl).2 _ 1, ?_⟩ | refine ⟨cellsAre_blk (O.blk (i := 0) (by simp) rfl).2 _ 2, ?_⟩ | refine ⟨cellsAre_blk (O.blk (i := 1) (by simp) rfl).2 _ 1, ?_⟩ | refine ⟨cellsAre_blk (O.blk (i := 1) (by simp) rfl).2 _ 2, ?_⟩ | refine ⟨cellsAre_blk (O.blk (i := 2) (by simp) rfl).2 _ 1, ?_⟩ | refine ⟨cellsAre_blk (O.blk (i := 2) (by simp) rfl).2 _ 2, ?_⟩ | refine ⟨cellsAre_blk (O.blk (i := 3) (by simp) rfl).2 _ 1, ?_⟩ | refine ⟨cellsAre_blk (O.blk (i := 3) (by simp) rfl).2 _ 2, ?_⟩ | refine ⟨cellsAre_blk (O.blk (i := 4) (by simp) rfl).2 _ 1, ?_⟩ | refine ⟨cellsAre_blk (O.blk (i := 4) (by simp) rfl).2 _ 2, ?_⟩ | refine ⟨cellsAre_blk (O.blk (i := 5) (by simp) rfl).2 _ 1, ?_⟩ | refine ⟨cellsAre_blk (O.blk (i := 5) (by simp) rfl).2 _ 2, ?_⟩ | refine ⟨cellsAre_blk (O.blk (i := 6) (by simp) rfl).2 _ 1, ?_⟩ | refine ⟨cellsAre_blk (O.blk (i := 6) (by simp) rfl).2 _ 2, ?_⟩))
  refine brr_tt rfl ?_
  repeat (first
    | (with_reducible refine al_id ?_); refine O.al fun _ h O => ?_
    | (with_reducible refine nn_id ?_); refine ⟨_, rfl, ?_⟩
    | (with_reducible refine ld_id ?_); (first | refine O.ld 0 rfl ?_ | refine O.ld 1 rfl ?_ | refine O.ld 2 rfl ?_ | refine O.ld 3 rfl ?_ | refine O.ld 4 rfl ?_ | refine O.ld 5 rfl ?_ | refine O.ld 6 rfl ?_); (repeat (first | (with_reducible refine ldL_n ?_) | refine ldL_s ?_ | refine ldL_c ?_))
    | (with_reducible refine st_ad (by first | (with_reducible rfl) | (simp only [pt_add, Nat.zero_add, Nat.add_zero, Nat.reduceAdd]; with_reducible rfl)) ?_); (first | refine O.st 0 rfl (by simp) rfl fun h O => ?_ | refine O.st 1 rfl (by simp) rfl fun h O => ?_ | refine O.st 2 rfl (by simp) rfl fun h O => ?_ | refine O.st 3 rfl (by simp) rfl fun h O => ?_ | refine O.st 4 rfl (by simp) rfl fun h O => ?_ | refine O.st 5 rfl (by simp) rfl fun h O => ?_ | refine O.st 6 rfl (by simp) rfl fun h O => ?_); (dsimp only [V.put, List.set, List.length_cons, List.length_nil] at O)
    | (with_reducible refine ca_id ?_); (first | refine ⟨cellsAre_blk (O.blk (i := 0) (by simp) rfl).2 _ 1, ?_⟩ | refine ⟨cellsAre_blk (O.blk (i := 0) (by simp) rfl).2 _ 2, ?_⟩ | refine ⟨cellsAre_blk (O.blk (i := 1) (by simp) rfl).2 _ 1, ?_⟩ | refine ⟨cellsAre_blk (O.blk (i := 1) (by simp) rfl).2 _ 2, ?_⟩ | refine ⟨cellsAre_blk (O.blk (i := 2) (by simp) rfl).2 _ 1, ?_⟩ | refine ⟨cellsAre_blk (O.blk (i := 2) (by simp) rfl).2 _ 2, ?_⟩ | refine ⟨cellsAre_blk (O.blk (i := 3) (by simp) rfl).2 _ 1, ?_⟩ | refine ⟨cellsAre_blk (O.blk (i := 3) (by simp) rfl).2 _ 2, ?_⟩ | refine ⟨cellsAre_blk (O.blk (i := 4) (by simp) rfl).2 _ 1, ?_⟩ | refine ⟨cellsAre_blk (O.blk (i := 4) (by simp) rfl).2 _ 2, ?_⟩ | refine ⟨cellsAre_blk (O.blk (i := 5) (by simp) rfl).2 _ 1, ?_⟩ | refine ⟨cellsAre_blk (O.blk (i := 5) (by simp) rfl).2 _ 2, ?_⟩ | refine ⟨cellsAre_blk (O.blk (i := 6) (by simp) rfl).2 _ 1, ?_⟩ | refine ⟨cellsAre_blk (O.blk (i := 6) (by simp) rfl).2 _ 2, ?_⟩))
  refine brr_tt rfl ?_
  repeat (first
    | (with_reducible refine al_id ?_); refine O.al fun _ h O => ?_
    | (with_reducible refine nn_id ?_); refine ⟨_, rfl, ?_⟩
    | (with_reducible refine ld_id ?_); (first | refine O.ld 0 rfl ?_ | refine O.ld 1 rfl ?_ | refine O.ld 2 rfl ?_ | refine O.ld 3 rfl ?_ | refine O.ld 4 rfl ?_ | refine O.ld 5 rfl ?_ | refine O.ld 6 rfl ?_); (repeat (first | (with_reducible refine ldL_n ?_) | refine ldL_s ?_ | refine ldL_c ?_))
    | (with_reducible refine st_ad (by first | (with_reducible rfl) | (simp only [pt_add, Nat.zero_add, Nat.add_zero, Nat.reduceAdd]; with_reducible rfl)) ?_); (first | refine O.st 0 rfl (by simp) rfl fun h O => ?_ | refine O.st 1 rfl (by simp) rfl fun h O => ?_ | refine O.st 2 rfl (by simp) rfl fun h O => ?_ | refine O.st 3 rfl (by simp) rfl fun h O => ?_ | refine O.st 4 rfl (by simp) rfl fun h O => ?_ | refine O.st 5 rfl (by simp) rfl fun h O => ?_ | refine O.st 6 rfl (by simp) rfl fun h O => ?_); (dsimp only [V.put, List.set, List.length_cons, List.length_nil] at O)
    | (with_reducible refine ca_id ?_); (first | refine ⟨cellsAre_blk (O.blk (i := 0) (by simp) rfl).2 _ 1, ?_⟩ | refine ⟨cellsAre_blk (O.blk (i := 0) (by simp) rfl).2 _ 2, ?_⟩ | refine ⟨cellsAre_blk (O.blk (i := 1) (by simp) rfl).2 _ 1, ?_⟩ | refine ⟨cellsAre_blk (O.blk (i := 1) (by simp) rfl).2 _ 2, ?_⟩ | refine ⟨cellsAre_blk (O.blk (i := 2) (by simp) rfl).2 _ 1, ?_⟩ | refine ⟨cellsAre_blk (O.blk (i := 2) (by simp) rfl).2 _ 2, ?_⟩ | refine ⟨cellsAre_blk (O.blk (i := 3) (by simp) rfl).2 _ 1, ?_⟩ | refine ⟨cellsAre_blk (O.blk (i := 3) (by simp) rfl).2 _ 2, ?_⟩ | refine ⟨cellsAre_blk (O.blk (i := 4) (by simp) rfl).2 _ 1, ?_⟩ | refine ⟨cellsAre_blk (O.blk (i := 4) (by simp) rfl).2 _ 2, ?_⟩ | refine ⟨cellsAre_blk (O.blk (i := 5) (by simp) rfl).2 _ 1, ?_⟩ | refine ⟨cellsAre_blk (O.blk (i := 5) (by simp) rfl).2 _ 2, ?_⟩ | refine ⟨cellsAre_blk (O.blk (i := 6) (by simp) rfl).2 _ 1, ?_⟩ | refine ⟨cellsAre_blk (O.blk (i := 6) (by simp) rfl).2 _ 2, ?_⟩))
  refine brr_tt rfl ?_
  repeat (first
    | (with_reducible refine al_id ?_); refine O.al fun _ h O => ?_
    | (with_reducible refine nn_id ?_); refine ⟨_, rfl, ?_⟩
    | (with_reducible refine ld_id ?_); (first | refine O.ld 0 rfl ?_ | refine O.ld 1 rfl ?_ | refine O.ld 2 rfl ?_ | refine O.ld 3 rfl ?_ | refine O.ld 4 rfl ?_ | refine O.ld 5 rfl ?_ | refine O.ld 6 rfl ?_); (repeat (first | (with_reducible refine ldL_n ?_) | refine ldL_s ?_ | refine ldL_c ?_))
    | (with_reducible refine st_ad (by first | (with_reducible rfl) | (simp only [pt_add, Nat.zero_add, Nat.add_zero, Nat.reduceAdd]; with_reducible rfl)) ?_); (first | refine O.st 0 rfl (by simp) rfl fun h O => ?_ | refine O.st 1 rfl (by simp) rfl fun h O => ?_ | refine O.st 2 rfl (by simp) rfl fun h O => ?_ | refine O.st 3 rfl (by simp) rfl fun h O => ?_ | refine O.st 4 rfl (by simp) rfl fun h O => ?_ | refine O.st 5 rfl (by simp) rfl fun h O => ?_ | refine O.st 6 rfl (by simp) rfl fun h O => ?_); (dsimp only [V.put, List.set, List.length_cons, List.length_nil] at O)
    | (with_reducible refine ca_id ?_); (first | refine ⟨cellsAre_blk (O.blk (i := 0) (by simp) rfl).2 _ 1, ?_⟩ | refine ⟨cellsAre_blk (O.blk (i := 0) (by simp) rfl).2 _ 2, ?_⟩ | refine ⟨cellsAre_blk (O.blk (i := 1) (by simp) rfl).2 _ 1, ?_⟩ | refine ⟨cellsAre_blk (O.blk (i := 1) (by simp) rfl).2 _ 2, ?_⟩ | refine ⟨cellsAre_blk (O.blk (i := 2) (by simp) rfl).2 _ 1, ?_⟩ | refine ⟨cellsAre_blk (O.blk (i := 2) (by simp) rfl).2 _ 2, ?_⟩ | refine ⟨cellsAre_blk (O.blk (i := 3) (by simp) rfl).2 _ 1, ?_⟩ | refine ⟨cellsAre_blk (O.blk (i := 3) (by simp) rfl).2 _ 2, ?_⟩ | refine ⟨cellsAre_blk (O.blk (i := 4) (by simp) rfl).2 _ 1, ?_⟩ | refine ⟨cellsAre_blk (O.blk (i := 4) (by simp) rfl).2 _ 2, ?_⟩ | refine ⟨cellsAre_blk (O.blk (i := 5) (by simp) rfl).2 _ 1, ?_⟩ | refine ⟨cellsAre_blk (O.blk (i := 5) (by simp) rfl).2 _ 2, ?_⟩ | refine ⟨cellsAre_blk (O.blk (i := 6) (by simp) rfl).2 _ 1, ?_⟩ | refine ⟨cellsAre_blk (O.blk (i := 6) (by simp) rfl).2 _ 2, ?_⟩))
  refine O.frz fun h O => ?_
  have O := lit_buf (x := 119) O
  refine F_ref0_Eq.is (O.view 3 u8_len (by simp) rfl).1 (O.view 0 u8_len (by simp) rfl).1 (by decide) (by decide) ?_
  refine brr_tt (by decide) ?_
  replace O := O.sel [4] 10 rfl (Nat.le_add_left _ _)
  have O : Sat h0 h (repR p _ :: _) := O
  refine F_replica_Replica_Wait.is O ?_
  exact hj _ _ ⟨rfl, O.drop.drop⟩
end
end Go.Proofs.Ytcbelendjpnmiaa.V
namespace Go.Proofs.Ytcbelendjpnmiaa.V
open Go Go.RowKit
set_option linter.unusedVariables false
set_option maxRecDepth 100000
/-! tally/tallylaw9.ReplicaTwice -/
def F_law9_ReplicaTwice.l1 (f12_ : Int → Int → Int → Int → Int → Int → Int → Int → Int → Int → Sl → Int → Int → ByteArray → ByteArray → Int → Int → Int → Int → Int → Int → Int → Heap → (Int → Int → Int → Int → Int → Int → Int → Int → Int → Int → Sl → Int → Int → ByteArray → ByteArray → Int → Int → Int → Int → Int → Int → Int → Heap → Prop) → Prop) (f13_ : Option Addr → Int → Int → Int → Int → Int → Int → Int → Int → Int → Int → Sl → Int → Int → ByteArray → ByteArray → Int → Int → Int → Int → Int → Int → Int → Heap → (Int → Int → Int → Int → Int → Int → Int → Int → Int → Int → Sl → Int → Int → ByteArray → ByteArray → Int → Int → Int → Int → Int → Int → Int → Bool → Bool → Bool → Heap → Prop) → Prop) (f21_ : Int → Int → Int → Sl → Int → Heap → (Option Addr → Heap → Prop) → Prop) (f23_ : Option Addr → Heap → (Int → Int → Int → Sl → Heap → Prop) → Prop) (f24_ : Int → Int → Int → Sl → Int → Sl → Option Addr → Int → Heap → (Int → Int → Int → Int → Int → Int → Int → Int → Int → Int → Sl → Int → Int → ByteArray → ByteArray → Int → Int → Int → Int → Int → Int → Int → Int → Int → Int → Int → Int → Int → Int → Int → Int → Int → Sl → Int → Int → ByteArray → ByteArray → Int → Int → Int → Int → Int → Int → Int → Bool → Bool → Bool → Heap → Prop) → Prop) (f26_ : Int → Int → Int → Sl → Int → Int → Int → Sl → Heap → (Bool → Heap → Prop) → Prop) (f28_ : Option Addr → Heap → (Int → Heap → Prop) → Prop) (f29_ : Int → Int → Int → Int → Int → Int → Int → Int → Int → Int → Sl → Int → Int → ByteArray → ByteArray → Int → Int → Int → Int → Int → Int → Int → Int → Int → Int → Int → Int → Int → Int → Int → Int → Int → Sl → Int → Int → ByteArray → ByteArray → Int → Int → Int → Int → Int → Int → Int → Heap → (Bool → Heap → Prop) → Prop) (Q : Bool → Heap → Prop) (a7 : Addr) (r16 : Option Addr) (j23 : Heap → Prop) : Int → Heap → Prop :=
  wl [(4, .one (.int .i64))] (fun (next24 : Int → Heap → Prop) (i25 : Int) (h26 : Heap) =>
  jn [(39, .one .bool)] (fun (x29 : Bool) (h30 : Heap) =>
  brr x29
  (jn [] (fun  (h376 : Heap) =>
  next24 (IntKind.i64.wrap (i25 + 1)) h376) (fun (j31 : Heap → Prop) =>
  f23_ r16 h30 fun (r32 : Int) (r33 : Int) (r34 : Int) (r35 : Sl) (h36 : Heap) =>
  f28_ r16 h36 fun (r37 : Int) (h38 : Heap) =>
  f21_ r32 r33 r34 r35 r37 h38 fun (r39 : Option Addr) (h40 : Heap) =>
  brr r39.isNone
  (Q false h40)
  (ld [.int .u64, .int .u64, .int .u64, .sl, .int .i64, .sl] a7 h40 fun (v41 : Int) (v42 : Int) (v43 : Int) (v44 : Sl) (v45 : Int) (v46 : Sl) =>
  f24_ v41 v42 v43 v44 v45 v46 r16 i25 h40 fun (r47 : Int) (r48 : Int) (r49 : Int) (r50 : Int) (r51 : Int) (r52 : Int) (r53 : Int) (r54 : Int) (r55 : Int) (r56 : Int) (r57 : Sl) (r58 : Int) (r59 : Int) (r60 : ByteArray) (r61 : ByteArray) (r62 : Int) (r63 : Int) (r64 : Int) (r65 : Int) (r66 : Int) (r67 : Int) (r68 : Int) (r69 : Int) (r70 : Int) (r71 : Int) (r72 : Int) (r73 : Int) (r74 : Int) (r75 : Int) (r76 : Int) (r77 : Int) (r78 : Int) (r79 : Sl) (r80 : Int) (r81 : Int) (r82 : ByteArray) (r83 : ByteArray) (r84 : Int) (r85 : Int) (r86 : Int) (r87 : Int) (r88 : Int) (r89 : Int) (r90 : Int) (r91 : Bool) (r92 : Bool) (r93 : Bool) (h94 : Heap) =>
  al 42 [.int .i64 0, .int .i64 0, .int .i64 0, .int .i64 0, .int .u64 0, .int .u64 0, .int .u64 0, .int .u64 0, .int .i64 0, .int .u64 0, .slice none 0 0, .int .i64 0, .int .u64 0, .string (⟨#[]⟩ : ByteArray), .string (⟨#[]⟩ : ByteArray), .int .u64 0, .int .u64 0, .int .u64 0, .int .i64 0, .int .i64 0, .int .i64 0, .int .i64 0] h94 fun (a95 : Addr) (h96 : Heap) =>
  al 49 [.int .i64 0, .int .i64 0, .int .i64 0, .int .i64 0, .int .u64 0, .int .u64 0, .int .u64 0, .int .u64 0, .int .i64 0, .int .u64 0, .slice none 0 0, .int .i64 0, .int .u64 0, .string (⟨#[]⟩ : ByteArray), .string (⟨#[]⟩ : ByteArray), .int .u64 0, .int .u64 0, .int .u64 0, .int .i64 0, .int .i64 0, .int .i64 0, .int .i64 0, .bool false, .bool false, .bool false] h96 fun (a97 : Addr) (h98 : Heap) =>
  st a95 [.int .i64 r47, .int .i64 r48, .int .i64 r49, .int .i64 r50, .int .u64 r51, .int .u64 r52, .int .u64 r53, .int .u64 r54, .int .i64 r55, .int .u64 r56, .slice r57.ptr r57.len r57.cap, .int .i64 r58, .int .u64 r59, .string r60, .string r61, .int .u64 r62, .int .u64 r63, .int .u64 r64, .int .i64 r65, .int .i64 r66, .int .i64 r67, .int .i64 r68] h98 fun (h99 : Heap) =>
  st a97 [.int .i64 r69, .int .i64 r70, .int .i64 r71, .int .i64 r72, .int .u64 r73, .int .u64 r74, .int .u64 r75, .int .u64 r76, .int .i64 r77, .int .u64 r78, .slice r79.ptr r79.len r79.cap, .int .i64 r80, .int .u64 r81, .string r82, .string r83, .int .u64 r84, .int .u64 r85, .int .u64 r86, .int .i64 r87, .int .i64 r88, .int .i64 r89, .int .i64 r90, .bool r91, .bool r92, .bool r93] h99 fun (h100 : Heap) =>
  ld [.int .u64, .int .u64, .int .u64, .sl, .int .i64, .sl] a7 h100 fun (v101 : Int) (v102 : Int) (v103 : Int) (v104 : Sl) (v105 : Int) (v106 : Sl) =>
  f24_ v101 v102 v103 v104 v105 v106 r39 i25 h100 fun (r107 : Int) (r108 : Int) (r109 : Int) (r110 : Int) (r111 : Int) (r112 : Int) (r113 : Int) (r114 : Int) (r115 : Int) (r116 : Int) (r117 : Sl) (r118 : Int) (r119 : Int) (r120 : ByteArray) (r121 : ByteArray) (r122 : Int) (r123 : Int) (r124 : Int) (r125 : Int) (r126 : Int) (r127 : Int) (r128 : Int) (r129 : Int) (r130 : Int) (r131 : Int) (r132 : Int) (r133 : Int) (r134 : Int) (r135 : Int) (r136 : Int) (r137 : Int) (r138 : Int) (r139 : Sl) (r140 : Int) (r141 : Int) (r142 : ByteArray) (r143 : ByteArray) (r144 : Int) (r145 : Int) (r146 : Int) (r147 : Int) (r148 : Int) (r149 : Int) (r150 : Int) (r151 : Bool) (r152 : Bool) (r153 : Bool) (h154 : Heap) =>
  al 42 [.int .i64 0, .int .i64 0, .int .i64 0, .int .i64 0, .int .u64 0, .int .u64 0, .int .u64 0, .int .u64 0, .int .i64 0, .int .u64 0, .slice none 0 0, .int .i64 0, .int .u64 0, .string (⟨#[]⟩ : ByteArray), .string (⟨#[]⟩ : ByteArray), .int .u64 0, .int .u64 0, .int .u64 0, .int .i64 0, .int .i64 0, .int .i64 0, .int .i64 0] h154 fun (a155 : Addr) (h156 : Heap) =>
  al 49 [.int .i64 0, .int .i64 0, .int .i64 0, .int .i64 0, .int .u64 0, .int .u64 0, .int .u64 0, .int .u64 0, .int .i64 0, .int .u64 0, .slice none 0 0, .int .i64 0, .int .u64 0, .string (⟨#[]⟩ : ByteArray), .string (⟨#[]⟩ : ByteArray), .int .u64 0, .int .u64 0, .int .u64 0, .int .i64 0, .int .i64 0, .int .i64 0, .int .i64 0, .bool false, .bool false, .bool false] h156 fun (a157 : Addr) (h158 : Heap) =>
  st a155 [.int .i64 r107, .int .i64 r108, .int .i64 r109, .int .i64 r110, .int .u64 r111, .int .u64 r112, .int .u64 r113, .int .u64 r114, .int .i64 r115, .int .u64 r116, .slice r117.ptr r117.len r117.cap, .int .i64 r118, .int .u64 r119, .string r120, .string r121, .int .u64 r122, .int .u64 r123, .int .u64 r124, .int .i64 r125, .int .i64 r126, .int .i64 r127, .int .i64 r128] h158 fun (h159 : Heap) =>
  st a157 [.int .i64 r129, .int .i64 r130, .int .i64 r131, .int .i64 r132, .int .u64 r133, .int .u64 r134, .int .u64 r135, .int .u64 r136, .int .i64 r137, .int .u64 r138, .slice r139.ptr r139.len r139.cap, .int .i64 r140, .int .u64 r141, .string r142, .string r143, .int .u64 r144, .int .u64 r145, .int .u64 r146, .int .i64 r147, .int .i64 r148, .int .i64 r149, .int .i64 r150, .bool r151, .bool r152, .bool r153] h159 fun (h160 : Heap) =>
  jn [(104, .one .bool)] (fun (x230 : Bool) (h231 : Heap) =>
  brr x230
  (Q false h231)
  (ld [.int .i64] ((a95.add 0).add 0) h231 fun (v232 : Int) =>
  brr (v232 == 0)
  (j31 h231)
  (f23_ r16 h231 fun (r233 : Int) (r234 : Int) (r235 : Int) (r236 : Sl) (h237 : Heap) =>
  al 44 [.int .u64 0, .int .u64 0, .int .u64 0, .slice none 0 0] h237 fun (a238 : Addr) (h239 : Heap) =>
  st a238 [.int .u64 r233, .int .u64 r234, .int .u64 r235, .slice r236.ptr r236.len r236.cap] h239 fun (h240 : Heap) =>
  ld [.int .i64, .int .i64, .int .i64, .int .i64, .int .u64, .int .u64, .int .u64, .int .u64, .int .i64, .int .u64, .sl, .int .i64, .int .u64, .str, .str, .int .u64, .int .u64, .int .u64, .int .i64, .int .i64, .int .i64, .int .i64] a95 h240 fun (v241 : Int) (v242 : Int) (v243 : Int) (v244 : Int) (v245 : Int) (v246 : Int) (v247 : Int) (v248 : Int) (v249 : Int) (v250 : Int) (v251 : Sl) (v252 : Int) (v253 : Int) (v254 : ByteArray) (v255 : ByteArray) (v256 : Int) (v257 : Int) (v258 : Int) (v259 : Int) (v260 : Int) (v261 : Int) (v262 : Int) =>
  f12_ v241 v242 v243 v244 v245 v246 v247 v248 v249 v250 v251 v252 v253 v254 v255 v256 v257 v258 v259 v260 v261 v262 h240 fun (r263 : Int) (r264 : Int) (r265 : Int) (r266 : Int) (r267 : Int) (r268 : Int) (r269 : Int) (r270 : Int) (r271 : Int) (r272 : Int) (r273 : Sl) (r274 : Int) (r275 : Int) (r276 : ByteArray) (r277 : ByteArray) (r278 : Int) (r279 : Int) (r280 : Int) (r281 : Int) (r282 : Int) (r283 : Int) (r284 : Int) (h285 : Heap) =>
  f13_ r16 r263 r264 r265 r266 r267 r268 r269 r270 r271 r272 r273 r274 r275 r276 r277 r278 r279 r280 r281 r282 r283 r284 h285 fun (r286 : Int) (r287 : Int) (r288 : Int) (r289 : Int) (r290 : Int) (r291 : Int) (r292 : Int) (r293 : Int) (r294 : Int) (r295 : Int) (r296 : Sl) (r297 : Int) (r298 : Int) (r299 : ByteArray) (r300 : ByteArray) (r301 : Int) (r302 : Int) (r303 : Int) (r304 : Int) (r305 : Int) (r306 : Int) (r307 : Int) (r308 : Bool) (r309 : Bool) (r310 : Bool) (h311 : Heap) =>
  st a97 [.int .i64 r286, .int .i64 r287, .int .i64 r288, .int .i64 r289, .int .u64 r290, .int .u64 r291, .int .u64 r292, .int .u64 r293, .int .i64 r294, .int .u64 r295, .slice r296.ptr r296.len r296.cap, .int .i64 r297, .int .u64 r298, .string r299, .string r300, .int .u64 r301, .int .u64 r302, .int .u64 r303, .int .i64 r304, .int .i64 r305, .int .i64 r306, .int .i64 r307, .bool r308, .bool r309, .bool r310] h311 fun (h312 : Heap) =>
  jn [(138, .one .bool)] (fun (x374 : Bool) (h375 : Heap) =>
  brr x374
  (Q false h375)
  (j31 h375)) (fun (j313 : Bool → Heap → Prop) =>
  ld [.int .i64, .int .i64, .int .i64, .int .i64, .int .u64, .int .u64, .int .u64, .int .u64, .int .i64, .int .u64, .sl, .int .i64, .int .u64, .str, .str, .int .u64, .int .u64, .int .u64, .int .i64, .int .i64, .int .i64, .int .i64] (a97.add 0) h312 fun (v314 : Int) (v315 : Int) (v316 : Int) (v317 : Int) (v318 : Int) (v319 : Int) (v320 : Int) (v321 : Int) (v322 : Int) (v323 : Int) (v324 : Sl) (v325 : Int) (v326 : Int) (v327 : ByteArray) (v328 : ByteArray) (v329 : Int) (v330 : Int) (v331 : Int) (v332 : Int) (v333 : Int) (v334 : Int) (v335 : Int) =>
  ld [.int .i64, .int .i64, .int .i64, .int .i64, .int .u64, .int .u64, .int .u64, .int .u64, .int .i64, .int .u64, .sl, .int .i64, .int .u64, .str, .str, .int .u64, .int .u64, .int .u64, .int .i64, .int .i64, .int .i64, .int .i64] (a157.add 0) h312 fun (v336 : Int) (v337 : Int) (v338 : Int) (v339 : Int) (v340 : Int) (v341 : Int) (v342 : Int) (v343 : Int) (v344 : Int) (v345 : Int) (v346 : Sl) (v347 : Int) (v348 : Int) (v349 : ByteArray) (v350 : ByteArray) (v351 : Int) (v352 : Int) (v353 : Int) (v354 : Int) (v355 : Int) (v356 : Int) (v357 : Int) =>
  f29_ v314 v315 v316 v317 v318 v319 v320 v321 v322 v323 v324 v325 v326 v327 v328 v329 v330 v331 v332 v333 v334 v335 v336 v337 v338 v339 v340 v341 v342 v343 v344 v345 v346 v347 v348 v349 v350 v351 v352 v353 v354 v355 v356 v357 h312 fun (r358 : Bool) (h359 : Heap) =>
  brr (!r358)
  (j313 true h359)
  (ld [.bool] (a97.add 23) h359 fun (v360 : Bool) =>
  ld [.bool] (a157.add 23) h359 fun (v361 : Bool) =>
  brr (!(v360 == v361))
  (j313 true h359)
  (ld [.bool] (a97.add 24) h359 fun (v362 : Bool) =>
  brr v362
  (j313 true h359)
  (ld [.int .u64, .int .u64, .int .u64, .sl] a238 h359 fun (v363 : Int) (v364 : Int) (v365 : Int) (v366 : Sl) =>
  f23_ r16 h359 fun (r367 : Int) (r368 : Int) (r369 : Int) (r370 : Sl) (h371 : Heap) =>
  cellsAre h371 a238 [.int .u64 v363, .int .u64 v364, .int .u64 v365, .slice v366.ptr v366.len v366.cap] ∧
  f26_ r367 r368 r369 r370 v363 v364 v365 v366 h371 fun (r372 : Bool) (h373 : Heap) =>
  j313 (!r372) h373))))))) (fun (j161 : Bool → Heap → Prop) =>
  ld [.int .i64, .int .i64, .int .i64, .int .i64, .int .u64, .int .u64, .int .u64, .int .u64, .int .i64, .int .u64, .sl, .int .i64, .int .u64, .str, .str, .int .u64, .int .u64, .int .u64, .int .i64, .int .i64, .int .i64, .int .i64] (a97.add 0) h160 fun (v162 : Int) (v163 : Int) (v164 : Int) (v165 : Int) (v166 : Int) (v167 : Int) (v168 : Int) (v169 : Int) (v170 : Int) (v171 : Int) (v172 : Sl) (v173 : Int) (v174 : Int) (v175 : ByteArray) (v176 : ByteArray) (v177 : Int) (v178 : Int) (v179 : Int) (v180 : Int) (v181 : Int) (v182 : Int) (v183 : Int) =>
  ld [.int .i64, .int .i64, .int .i64, .int .i64, .int .u64, .int .u64, .int .u64, .int .u64, .int .i64, .int .u64, .sl, .int .i64, .int .u64, .str, .str, .int .u64, .int .u64, .int .u64, .int .i64, .int .i64, .int .i64, .int .i64] (a157.add 0) h160 fun (v184 : Int) (v185 : Int) (v186 : Int) (v187 : Int) (v188 : Int) (v189 : Int) (v190 : Int) (v191 : Int) (v192 : Int) (v193 : Int) (v194 : Sl) (v195 : Int) (v196 : Int) (v197 : ByteArray) (v198 : ByteArray) (v199 : Int) (v200 : Int) (v201 : Int) (v202 : Int) (v203 : Int) (v204 : Int) (v205 : Int) =>
  f29_ v162 v163 v164 v165 v166 v167 v168 v169 v170 v171 v172 v173 v174 v175 v176 v177 v178 v179 v180 v181 v182 v183 v184 v185 v186 v187 v188 v189 v190 v191 v192 v193 v194 v195 v196 v197 v198 v199 v200 v201 v202 v203 v204 v205 h160 fun (r206 : Bool) (h207 : Heap) =>
  brr (!r206)
  (j161 true h207)
  (ld [.bool] (a97.add 22) h207 fun (v208 : Bool) =>
  ld [.bool] (a157.add 22) h207 fun (v209 : Bool) =>
  brr (!(v208 == v209))
  (j161 true h207)
  (ld [.bool] (a97.add 23) h207 fun (v210 : Bool) =>
  ld [.bool] (a157.add 23) h207 fun (v211 : Bool) =>
  brr (!(v210 == v211))
  (j161 true h207)
  (ld [.bool] (a97.add 24) h207 fun (v212 : Bool) =>
  ld [.bool] (a157.add 24) h207 fun (v213 : Bool) =>
  brr (!(v212 == v213))
  (j161 true h207)
  (f23_ r16 h207 fun (r214 : Int) (r215 : Int) (r216 : Int) (r217 : Sl) (h218 : Heap) =>
  f23_ r39 h218 fun (r219 : Int) (r220 : Int) (r221 : Int) (r222 : Sl) (h223 : Heap) =>
  f26_ r214 r215 r216 r217 r219 r220 r221 r222 h223 fun (r224 : Bool) (h225 : Heap) =>
  brr (!r224)
  (j161 true h225)
  (f28_ r16 h225 fun (r226 : Int) (h227 : Heap) =>
  f28_ r39 h227 fun (r228 : Int) (h229 : Heap) =>
  j161 (r226 != r228) h229)))))))))
  (j23 h30)) (fun (j27 : Bool → Heap → Prop) =>
  ld [.sl] (a7.add 5) h26 fun (v28 : Sl) =>
  brr (decide (i25 < ((v28.len : Nat) : Int)))
  (j27 (decide (i25 < 500)) h26)
  (j27 false h26)))
def F_law9_ReplicaTwice_of (f12_ : Int → Int → Int → Int → Int → Int → Int → Int → Int → Int → Sl → Int → Int → ByteArray → ByteArray → Int → Int → Int → Int → Int → Int → Int → Heap → (Int → Int → Int → Int → Int → Int → Int → Int → Int → Int → Sl → Int → Int → ByteArray → ByteArray → Int → Int → Int → Int → Int → Int → Int → Heap → Prop) → Prop) (f13_ : Option Addr → Int → Int → Int → Int → Int → Int → Int → Int → Int → Int → Sl → Int → Int → ByteArray → ByteArray → Int → Int → Int → Int → Int → Int → Int → Heap → (Int → Int → Int → Int → Int → Int → Int → Int → Int → Int → Sl → Int → Int → ByteArray → ByteArray → Int → Int → Int → Int → Int → Int → Int → Bool → Bool → Bool → Heap → Prop) → Prop) (f18_ : Heap → (Bool → Heap → Prop) → Prop) (f21_ : Int → Int → Int → Sl → Int → Heap → (Option Addr → Heap → Prop) → Prop) (f22_ : Sl → Heap → (Sl → Heap → Prop) → Prop) (f23_ : Option Addr → Heap → (Int → Int → Int → Sl → Heap → Prop) → Prop) (f24_ : Int → Int → Int → Sl → Int → Sl → Option Addr → Int → Heap → (Int → Int → Int → Int → Int → Int → Int → Int → Int → Int → Sl → Int → Int → ByteArray → ByteArray → Int → Int → Int → Int → Int → Int → Int → Int → Int → Int → Int → Int → Int → Int → Int → Int → Int → Sl → Int → Int → ByteArray → ByteArray → Int → Int → Int → Int → Int → Int → Int → Bool → Bool → Bool → Heap → Prop) → Prop) (f26_ : Int → Int → Int → Sl → Int → Int → Int → Sl → Heap → (Bool → Heap → Prop) → Prop) (f28_ : Option Addr → Heap → (Int → Heap → Prop) → Prop) (f29_ : Int → Int → Int → Int → Int → Int → Int → Int → Int → Int → Sl → Int → Int → ByteArray → ByteArray → Int → Int → Int → Int → Int → Int → Int → Int → Int → Int → Int → Int → Int → Int → Int → Int → Int → Sl → Int → Int → ByteArray → ByteArray → Int → Int → Int → Int → Int → Int → Int → Heap → (Bool → Heap → Prop) → Prop) (l1 : Int) (l2 : Int) (l3 : Int) (l4 : Sl) (l5 : Int) (l6 : Sl) (h : Heap) (Q : Bool → Heap → Prop) : Prop :=
  al 63 [.int .u64 l1, .int .u64 l2, .int .u64 l3, .slice l4.ptr l4.len l4.cap, .int .i64 l5, .slice l6.ptr l6.len l6.cap] h fun (a7 : Addr) (h8 : Heap) =>
  ld [.int .u64] ((a7.add 0).add 0) h8 fun (v9 : Int) =>
  ld [.int .u64, .int .u64] ((a7.add 0).add 1) h8 fun (v10 : Int) (v11 : Int) =>
  ld [.sl] ((a7.add 0).add 3) h8 fun (v12 : Sl) =>
  ld [.int .i64] (a7.add 4) h8 fun (v13 : Int) =>
  f22_ v12 h8 fun (r14 : Sl) (h15 : Heap) =>
  cellsAre h15 ((a7.add 0).add 0) [.int .u64 v9] ∧
  cellsAre h15 ((a7.add 0).add 1) [.int .u64 v10, .int .u64 v11] ∧
  cellsAre h15 (a7.add 4) [.int .i64 v13] ∧
  f21_ v9 v10 v11 r14 v13 h15 fun (r16 : Option Addr) (h17 : Heap) =>
  jn [(30, .one .bool)] (fun (x21 : Bool) (h22 : Heap) =>
  brr x21
  (Q false h22)
  (jn [] (fun  (h377 : Heap) =>
  Q true h377) (fun (j23 : Heap → Prop) =>
  F_law9_ReplicaTwice.l1 f12_ f13_ f21_ f23_ f24_ f26_ f28_ f29_ Q a7 r16 j23 0 h22))) (fun (j18 : Bool → Heap → Prop) =>
  brr r16.isNone
  (j18 true h17)
  (f18_ h17 fun (r19 : Bool) (h20 : Heap) =>
  j18 (!r19) h20))
def F_law9_ReplicaTwice (l1 : Int) (l2 : Int) (l3 : Int) (l4 : Sl) (l5 : Int) (l6 : Sl) (h : Heap) (Q : Bool → Heap → Prop) : Prop := F_law9_ReplicaTwice_of F_ref0_CopyMsg F_replica_Replica_Hear F_law9_lives F_replica_Load F_ref0_Copy F_replica_Replica_Stored F_law9_Life_at F_ref0_EqStored F_replica_Replica_Wait F_ref0_EqMsg l1 l2 l3 l4 l5 l6 h Q
def plan8 : Plan := .s (.r [1]) (.s (.d [0, 1, 3, 0, 8, 24, 0, 64, 192, 448, 1023, 0, 2048, 8191, 16383] [[0, 1, 2, 3, 4, 5, 6, 7, 8, 11, 12, 9, 10, 13, 14]] [1, 3]) (.s (.s (.rj [(30, .one .bool)] [1, 3]) (.c (.s (.r [2]) .z) .z)) (.s (.s (.r [1, 3, 4]) (.bj [] [] (.l [(4, .one (.int .i64))] [1, 3] (.s (.s (.rj [(39, .one .bool)] [1, 3, 4]) (.c .z .z)) (.s (.bj [] [1, 3, 4] (.s (.r [1, 3, 4, 5]) (.s (.s (.r [1, 3, 4, 5, 48]) (.c (.s (.r [2]) .z) .z)) (.s (.r [1, 3, 4, 5, 6, 7]) (.s (.r [1, 3, 4, 5, 6, 7, 9]) (.s (.s (.rj [(104, .one .bool)] [1, 3, 4, 6, 7, 9]) (.c (.s (.r [2]) .z) .z)) (.s (.s (.r [1, 3, 4, 6, 7, 9, 108]) (.c .z .z)) (.s (.r [1, 3, 4, 6, 7, 9, 10]) (.s (.r [1, 3, 4, 7, 9, 10]) (.s (.dj [0, 1, 0, 4, 15, 31, 63, 127, 255, 127, 639, 2047, 4095, 8191, 16383, 32767, 65535, 131071, 262143, 524287, 262143, 2097151, 4194303, 8388607] [[0, 1, 2, 3, 4, 5, 6, 7, 8, 9, 10, 11, 12, 13, 14, 15, 16, 17, 18, 20, 19, 21, 22, 23]] [(138, .one .bool)] [1, 3, 4]) (.c (.s (.r [2]) .z) .z))))))))))) (.r [1, 3, 4])))))) (.s (.r [2]) .z))))
theorem F_law9_ReplicaTwice.eq (f12_ : Int → Int → Int → Int → Int → Int → Int → Int → Int → Int → Sl → Int → Int → ByteArray → ByteArray → Int → Int → Int → Int → Int → Int → Int → Heap → (Int → Int → Int → Int → Int → Int → Int → Int → Int → Int → Sl → Int → Int → ByteArray → ByteArray → Int → Int → Int → Int → Int → Int → Int → Heap → Prop) → Prop) (f13_ : Option Addr → Int → Int → Int → Int → Int → Int → Int → Int → Int → Int → Sl → Int → Int → ByteArray → ByteArray → Int → Int → Int → Int → Int → Int → Int → Heap → (Int → Int → Int → Int → Int → Int → Int → Int → Int → Int → Sl → Int → Int → ByteArray → ByteArray → Int → Int → Int → Int → Int → Int → Int → Bool → Bool → Bool → Heap → Prop) → Prop) (f18_ : Heap → (Bool → Heap → Prop) → Prop) (f21_ : Int → Int → Int → Sl → Int → Heap → (Option Addr → Heap → Prop) → Prop) (f22_ : Sl → Heap → (Sl → Heap → Prop) → Prop) (f23_ : Option Addr → Heap → (Int → Int → Int → Sl → Heap → Prop) → Prop) (f24_ : Int → Int → Int → Sl → Int → Sl → Option Addr → Int → Heap → (Int → Int → Int → Int → Int → Int → Int → Int → Int → Int → Sl → Int → Int → ByteArray → ByteArray → Int → Int → Int → Int → Int → Int → Int → Int → Int → Int → Int → Int → Int → Int → Int → Int → Int → Sl → Int → Int → ByteArray → ByteArray → Int → Int → Int → Int → Int → Int → Int → Bool → Bool → Bool → Heap → Prop) → Prop) (f26_ : Int → Int → Int → Sl → Int → Int → Int → Sl → Heap → (Bool → Heap → Prop) → Prop) (f28_ : Option Addr → Heap → (Int → Heap → Prop) → Prop) (f29_ : Int → Int → Int → Int → Int → Int → Int → Int → Int → Int → Sl → Int → Int → ByteArray → ByteArray → Int → Int → Int → Int → Int → Int → Int → Int → Int → Int → Int → Int → Int → Int → Int → Int → Int → Sl → Int → Int → ByteArray → ByteArray → Int → Int → Int → Int → Int → Int → Int → Heap → (Bool → Heap → Prop) → Prop) (l1 : Int) (l2 : Int) (l3 : Int) (l4 : Sl) (l5 : Int) (l6 : Sl) (h : Heap) (K : Value → Heap → Prop) : F_law9_ReplicaTwice_of f12_ f13_ f18_ f21_ f22_ f23_ f24_ f26_ f28_ f29_ l1 l2 l3 l4 l5 l6 h (fun (r0 : Bool) (h : Heap) => K (.bool r0) h) =
    den Try.prog (fn1 12 (E_ref0_CopyMsg_of f12_) (fn1 13 (E_replica_Replica_Hear_of f13_) (fn1 18 (E_law9_lives_of f18_) (fn1 21 (E_replica_Load_of f21_) (fn1 22 (E_ref0_Copy_of f22_) (fn1 23 (E_replica_Replica_Stored_of f23_) (fn1 24 (E_law9_Life_at_of f24_) (fn1 26 (E_ref0_EqStored_of f26_) (fn1 28 (E_replica_Replica_Wait_of f28_) (fn1 29 (E_ref0_EqMsg_of f29_) noFns)))))))))) Try.f8.ntmps plan8 (bodyOf Try.f8) (args0 0 [(.agg #[.int .u64 l1, .int .u64 l2, .int .u64 l3, .slice l4.ptr l4.len l4.cap, .int .i64 l5, .slice l6.ptr l6.len l6.cap] : Value)]) h ⟨fun env h => dRes Try.prog Try.f8.results.toList env h K, fun _ _ _ => False, fun env h => dRes Try.prog Try.f8.results.toList env h K⟩ := by kernel_rfl
def E_law9_ReplicaTwice_of (f : Int → Int → Int → Sl → Int → Sl → Heap → (Bool → Heap → Prop) → Prop) : List Value → Heap → (Value → Heap → Prop) → Prop
  | [v0], h, K => vAgg v0 fun cs0 => decs [.int .u64, .int .u64, .int .u64, .sl, .int .i64, .sl] cs0.toList fun (l1 : Int) (l2 : Int) (l3 : Int) (l4 : Sl) (l5 : Int) (l6 : Sl) =>
  f l1 l2 l3 l4 l5 l6 h (fun (r0 : Bool) (h : Heap) => K (.bool r0) h)
  | _, _, _ => False
abbrev E_law9_ReplicaTwice := E_law9_ReplicaTwice_of F_law9_ReplicaTwice
theorem E_law9_ReplicaTwice.at (f : Int → Int → Int → Sl → Int → Sl → Heap → (Bool → Heap → Prop) → Prop) (l1 : Int) (l2 : Int) (l3 : Int) (l4 : Sl) (l5 : Int) (l6 : Sl) (h : Heap) (K : Value → Heap → Prop) : E_law9_ReplicaTwice_of f [.agg ([.int .u64 l1, .int .u64 l2, .int .u64 l3, .slice l4.ptr l4.len l4.cap, .int .i64 l5, .slice l6.ptr l6.len l6.cap] : List Value).toArray] h K = f l1 l2 l3 l4 l5 l6 h (fun (r0 : Bool) (h : Heap) => K (.bool r0) h) := rfl
theorem E_law9_ReplicaTwice.right : IsRight Try.prog 8 E_law9_ReplicaTwice := by
  refine isRight fun vs K w hh => ?_
  match vs, hh with
  | [v0], hh =>
    unfold E_law9_ReplicaTwice E_law9_ReplicaTwice_of at hh
    replace hh := vAgg_sound hh; obtain ⟨cs0, rfl, hh⟩ := hh
    replace hh := decs_cons hh; obtain ⟨l1, l0_0, e0_0, hh⟩ := hh
    replace hh := decs_cons hh; obtain ⟨l2, l0_1, e0_1, hh⟩ := hh
    replace hh := decs_cons hh; obtain ⟨l3, l0_2, e0_2, hh⟩ := hh
    replace hh := decs_cons hh; obtain ⟨l4, l0_3, e0_3, hh⟩ := hh
    replace hh := decs_cons hh; obtain ⟨l5, l0_4, e0_4, hh⟩ := hh
    replace hh := decs_cons hh; obtain ⟨l6, l0_5, e0_5, hh⟩ := hh
    replace hh := decs_nil hh; obtain ⟨rfl, hh⟩ := hh
    subst e0_5
    subst e0_4
    subst e0_3
    subst e0_2
    subst e0_1
    have ec0 := toArray_eq e0_0
    subst ec0
    unfold F_law9_ReplicaTwice at hh
    exact calls_den (fn1_right ok12 E_ref0_CopyMsg.right (fn1_right ok13 E_replica_Replica_Hear.right (fn1_right ok18 E_law9_lives.right (fn1_right ok21 E_replica_Load.right (fn1_right ok22 E_ref0_Copy.right (fn1_right ok23 E_replica_Replica_Stored.right (fn1_right ok24 E_law9_Life_at.right (fn1_right ok26 E_ref0_EqStored.right (fn1_right ok28 E_replica_Replica_Wait.right (fn1_right ok29 E_ref0_EqMsg.right noFns_right)))))))))) plan8 _ w K Try.func8 (by kernel_rfl) (by kernel_rfl) (Eq.mp (F_law9_ReplicaTwice.eq F_ref0_CopyMsg F_replica_Replica_Hear F_law9_lives F_replica_Load F_ref0_Copy F_replica_Replica_Stored F_law9_Life_at F_ref0_EqStored F_replica_Replica_Wait F_ref0_EqMsg l1 l2 l3 l4 l5 l6 w.heap K) hh)
theorem ok8 : okFn Try.prog 8 = true := by kernel_rfl
end Go.Proofs.Ytcbelendjpnmiaa.V
/- What a replica hears twice; one that is loaded with what is stored: what ReplicaTwice plays. -/
namespace Go.Proofs.Ytcbelendjpnmiaa.V
open Go Go.RowKit
set_option linter.unusedVariables false
set_option linter.unusedSimpArgs false
def hdC (d : HD) (s : Sl) : List Value := [.int .i64 d.kind, .int .i64 d.frm, .int .i64 d.to, .int .i64 d.shard, .int .u64 d.epoch, .int .u64 d.te, .int .u64 d.ts, .int .u64 d.round, .int .i64 0, .int .u64 d.seen, .slice s.ptr s.len s.cap, .int .i64 0, .int .u64 0, .string (⟨#[]⟩ : ByteArray), .string (⟨#[]⟩ : ByteArray), .int .u64 0, .int .u64 0, .int .u64 0, .int .i64 0, .int .i64 0, .int .i64 0, .int .i64 0, .bool d.ans, .bool d.tak, .bool d.chg]
def hdM (d : HD) (s : Sl) : Mg := ⟨d.kind, d.frm, d.to, d.shard, d.epoch, d.te, d.ts, d.round, 0, d.seen, s, 0, 0, ⟨#[]⟩, ⟨#[]⟩, 0, 0, 0, 0, 0, 0, 0, d.val⟩
theorem act_val {r : RS} {m : Mg} : (act r m).2.val = r.val ∨ (act r m).2.val = [] := by
  unfold act
  split
  · unfold prep; split
    · exact .inr rfl
    · exact .inl rfl
  split
  · unfold writ; split
    · exact .inr rfl
    split
    · exact .inr rfl
    split
    · exact .inr rfl
    · exact .inr rfl
  split
  · unfold beats; split
    · exact .inr rfl
    · exact .inr rfl
  · exact .inr rfl
theorem seal_val {d : HD} {m : Mg} : (d.seal m).val = d.val := by unfold HD.seal; split <;> rfl
theorem hearS_val {r : RS} {m : Mg} (ok : r.Ok) : (hearS r m).2.val.length ≤ (140737488355325 : Nat) := by
  show ((act r m).2.seal m).val.length ≤ _
  rw [seal_val]
  rcases act_val (r := r) (m := m) with h | h <;> rw [h]
  · exact ok.v
  · simp
theorem lifeD_val {r : RS} {o : ROp} (ok : r.Ok) : (lifeD r o).val.length ≤ (140737488355325 : Nat) := by
  unfold lifeD
  split
  · exact hearS_val ok
  · simp [hd0]
theorem bne_refl_int (e : Int) : (e != e) = false := by simp
theorem act_twice (r : RS) (m : Mg) : act (act r m).1 m = ((act r m).1, { (act r m).2 with chg := false }) := by
  unfold act
  by_cases h1 : m.kind = 1
  · simp only [if_pos h1]
    unfold prep
    by_cases hc : m.epoch < r.prom ∨ (r.prom < m.epoch ∧ 0 < r.wait)
    · simp only [if_pos hc]; rfl
    · simp only [if_neg hc]
      rw [if_neg (by show ¬ (m.epoch < m.epoch ∨ (m.epoch < m.epoch ∧ 0 < r.wait)); omega)]
      simp
  by_cases h4 : m.kind = 4
  · simp only [if_neg h1, if_pos h4]
    unfold writ
    by_cases hc : m.te < r.prom
    · simp only [if_pos hc]; rfl
    · simp only [if_neg hc]
      by_cases hl : tagLt m.te m.ts r.te r.ts
      · simp only [if_pos hl]
        rw [if_neg (by show ¬ m.te < m.te; omega), if_pos (show tagLt m.te m.ts (r.take_ m.te m.span).te (r.take_ m.te m.span).ts from hl)]
        simp [RS.take_]
      · simp only [if_neg hl]
        have hs : ¬ tagLt m.te m.ts m.te m.ts := by unfold tagLt; omega
        by_cases hg : tagLt r.te r.ts m.te m.ts
        · simp only [if_pos hg]
          rw [if_neg (by show ¬ m.te < m.te; omega), if_neg hs, if_neg hs]
          simp [RS.take_]
        · simp only [if_neg hg]
          rw [if_neg (by show ¬ m.te < m.te; omega), if_neg (show ¬ tagLt m.te m.ts (r.take_ m.te m.span).te (r.take_ m.te m.span).ts from hl), if_neg (show ¬ tagLt (r.take_ m.te m.span).te (r.take_ m.te m.span).ts m.te m.ts from hg)]
          simp [RS.take_]
  by_cases h6 : m.kind = 6
  · simp only [if_neg h1, if_neg h4, if_pos h6]
    unfold beats
    by_cases hc : m.epoch < r.prom
    · simp only [if_pos hc]; rfl
    · simp only [if_neg hc]
      rw [if_neg (by show ¬ m.epoch < m.epoch; omega)]
      simp [RS.take_]
  · simp only [if_neg h1, if_neg h4, if_neg h6]; rfl
theorem hear_twice (r : RS) (m : Mg) : hearS (hearS r m).1 m = ((hearS r m).1, { (hearS r m).2 with chg := false }) := by
  have h := act_twice r m
  unfold hearS
  dsimp only
  rw [h]
  unfold HD.seal
  by_cases hk : (act r m).2.kind = 0
  · simp only [if_pos hk]
  · simp only [if_neg hk]
theorem replicaTwice_main (H : Heap) (cs : List Value) (F : Fit H 140737488351232 tyLife cs) : E_law9_ReplicaTwice [.agg cs.toArray] H (fun r h' => r = .bool true ∧ KeptH H h') := by
  replace F := Fit.g F
  obtain ⟨t1, _, rfl, t1a, t1b, F⟩ := Fit.i F
  replace F := Fit.g F
  replace F := Fit.g F
  obtain ⟨t2, _, rfl, t2a, t2b, F⟩ := Fit.i F
  replace F := Fit.g F
  obtain ⟨t3, _, rfl, t3a, t3b, F⟩ := Fit.i F
  replace F := Fit.z F
  replace F := Fit.g F
  obtain ⟨t4, _, rfl, t4S, F⟩ := Fit.s F
  replace F := Fit.z F
  obtain ⟨t5, _, rfl, t5a, t5b, F⟩ := Fit.i F
  obtain ⟨t6, _, rfl, t6S, F⟩ := Fit.s F
  obtain rfl := Fit.e F
  refine Eq.mpr (E_law9_ReplicaTwice.at F_law9_ReplicaTwice t1 t2 t3 t4 t5 t6 H _) ?_
  obtain ⟨ops, Vo⟩ := t6S.rops
  obtain ⟨_, b2, lv, Vl⟩ := t4S.bytes
  have hlv := Vl.len
  rw [i64_max] at t5b
  rw [F_law9_ReplicaTwice.eq_1, F_law9_ReplicaTwice_of.eq_1]
  refine Sat.al (Sat.nil H) fun x7 h1 O => ?_
  repeat (first
    | (with_reducible refine al_id ?_); refine O.al fun _ h O => ?_
    | (with_reducible refine nn_id ?_); refine ⟨_, rfl, ?_⟩
    | (with_reducible refine ld_id ?_); (first | refine O.ld 0 rfl ?_); (repeat (first | (with_reducible refine ldL_n ?_) | refine ldL_s ?_ | refine ldL_c ?_))
    | (with_reducible refine st_ad (by first | (with_reducible rfl) | (simp only [pt_add, Nat.zero_add, Nat.add_zero, Nat.reduceAdd]; with_reducible rfl)) ?_); (first | refine O.st 0 rfl (by simp) rfl fun h O => ?_); (dsimp only [V.put, List.set, List.length_cons, List.length_nil] at O)
    | (with_reducible refine ca_id ?_); (first | refine ⟨cellsAre_blk (O.blk (i := 0) (by simp) rfl).2 _ 1, ?_⟩ | refine ⟨cellsAre_blk (O.blk (i := 0) (by simp) rfl).2 _ 2, ?_⟩))
  refine F_ref0_Copy.is O (Vl.kept O.kept) (by omega) fun s h O _ _ => ?_
  repeat (first
    | (with_reducible refine al_id ?_); refine O.al fun _ h O => ?_
    | (with_reducible refine nn_id ?_); refine ⟨_, rfl, ?_⟩
    | (with_reducible refine ld_id ?_); (first | refine O.ld 0 rfl ?_ | refine O.ld 1 rfl ?_); (repeat (first | (with_reducible refine ldL_n ?_) | refine ldL_s ?_ | refine ldL_c ?_))
    | (with_reducible refine st_ad (by first | (with_reducible rfl) | (simp only [pt_add, Nat.zero_add, Nat.add_zero, Nat.reduceAdd]; with_reducible rfl)) ?_); (first | refine O.st 0 rfl (by simp) rfl fun h O => ?_ | refine O.st 1 rfl (by simp) rfl fun h O => ?_); (dsimp only [V.put, List.set, List.length_cons, List.length_nil] at O)
    | (with_reducible refine ca_id ?_); (first | refine ⟨cellsAre_blk (O.blk (i := 0) (by simp) rfl).2 _ 1, ?_⟩ | refine ⟨cellsAre_blk (O.blk (i := 0) (by simp) rfl).2 _ 2, ?_⟩ | refine ⟨cellsAre_blk (O.blk (i := 1) (by simp) rfl).2 _ 1, ?_⟩ | refine ⟨cellsAre_blk (O.blk (i := 1) (by simp) rfl).2 _ 2, ?_⟩))
  refine F_replica_Load.is O (fun h O => (O.view 0 u8_len (by simp) rfl).1) (by omega) fun p h O => ?_
  have O := O.sel [0, 2] 3 rfl (Nat.le_add_left _ _)
  have start : ∃ r : RS, r.Ok ∧ Sat H h [repR p r, own x7 [.int .u64 t1, .int .u64 t2, .int .u64 t3, .slice t4.ptr t4.len t4.cap, .int .i64 t5, .slice t6.ptr t6.len t6.cap]] :=
    ⟨_, ⟨by show lv.length ≤ _; omega, (spanOf_ok t5b).1, (spanOf_ok t5b).2⟩, O⟩
  clear O
  obtain ⟨r, ok, O⟩ := start
  refine jn1 (fun z h' => z = false ∧ Sat H h' [repR p r, own x7 [.int .u64 t1, .int .u64 t2, .int .u64 t3, .slice t4.ptr t4.len t4.cap, .int .i64 t5, .slice t6.ptr t6.len t6.cap]]) ?_ ?_
  case refine_2 =>
    intro j hj
    refine brr_ff rfl ?_
    refine F_law9_lives.is O fun h O => ?_
    exact hj _ _ ⟨rfl, O⟩
  clear O
  rintro z h ⟨rfl, O⟩
  refine brr_ff rfl ?_
  refine jn0 (fun h' => KeptH H h') (fun h hk => ⟨rfl, hk⟩) fun j23 hj23 => ?_
  rw [F_law9_ReplicaTwice.l1.eq_1]
  refine wl1 (k := .int .i64) (fun (m : Nat) (i : Int) (h' : Heap) => i + m = ops.length ∧ 0 ≤ i ∧ i ≤ 500 ∧ ∃ r : RS, r.Ok ∧ Sat H h' [repR p r, own x7 [.int .u64 t1, .int .u64 t2, .int .u64 t3, .slice t4.ptr t4.len t4.cap, .int .i64 t5, .slice t6.ptr t6.len t6.cap]]) ?_ (m := ops.length) ⟨by omega, by omega, by omega, r, ok, O⟩
  clear O ok r
  rintro m (i : Int) h next hn ⟨hi, hi0, hi5, r, ok, O⟩
  refine jn1 (fun t h' => h' = h ∧ t = decide (i < ops.length ∧ i < 500)) ?_ ?_
  case refine_2 =>
    intro j2 hj2
    repeat (first
      | (with_reducible refine al_id ?_); refine O.al fun _ h O => ?_
      | (with_reducible refine nn_id ?_); refine ⟨_, rfl, ?_⟩
      | (with_reducible refine ld_id ?_); (first | refine O.ld 0 rfl ?_ | refine O.ld 1 rfl ?_); (repeat (first | (with_reducible refine ldL_n ?_) | refine ldL_s ?_ | refine ldL_c ?_))
      | (with_reducible refine st_ad (by first | (with_reducible rfl) | (simp only [pt_add, Nat.zero_add, Nat.add_zero, Nat.reduceAdd]; with_reducible rfl)) ?_); (first | refine O.st 0 rfl (by simp) rfl fun h O => ?_ | refine O.st 1 rfl (by simp) rfl fun h O => ?_); (dsimp only [V.put, List.set, List.length_cons, List.length_nil] at O)
      | (with_reducible refine ca_id ?_); (first | refine ⟨cellsAre_blk (O.blk (i := 0) (by simp) rfl).2 _ 1, ?_⟩ | refine ⟨cellsAre_blk (O.blk (i := 0) (by simp) rfl).2 _ 2, ?_⟩ | refine ⟨cellsAre_blk (O.blk (i := 1) (by simp) rfl).2 _ 1, ?_⟩ | refine ⟨cellsAre_blk (O.blk (i := 1) (by simp) rfl).2 _ 2, ?_⟩))
    rw [Vo.len]
    refine brr_p (fun hlt => ?_) (fun hlt => ?_)
    · exact hj2 _ _ ⟨rfl, by simp [hlt]⟩
    · exact hj2 _ _ ⟨rfl, by simp; intro h; omega⟩
  rintro t h ⟨rfl, rfl⟩
  refine brr_p (fun ht => ?_) (fun ht => hj23 _ O.kept)
  obtain ⟨hlt, hlt5⟩ := ht
  refine jn0 (fun h' => ∃ r : RS, r.Ok ∧ Sat H h' [repR p r, own x7 [.int .u64 t1, .int .u64 t2, .int .u64 t3, .slice t4.ptr t4.len t4.cap, .int .i64 t5, .slice t6.ptr t6.len t6.cap]]) ?_ ?_
  · clear O ok r
    rintro h ⟨r, ok, O⟩
    rw [wrap64 (by omega) (by omega)]
    exact hn (m - 1) _ _ (by omega) ⟨by omega, by omega, by omega, r, ok, O⟩
  clear hn
  intro j31 hj31
  obtain ⟨o, ho⟩ : ∃ o, ops[i.toNat]? = some o := ⟨_, List.getElem?_eq_getElem (by omega)⟩
  have oo : o.Ok H := by
    obtain ⟨a, cs, _, _, ⟨_, oo⟩, _⟩ := Vo.2 _ _ ho
    exact oo
  have ok2 : (lifeS r o).Ok := lifeS_ok ok oo
  have hdv := lifeD_val (o := o) ok
  refine F_replica_Replica_Stored.is ok O fun s h O => ?_
  refine F_replica_Replica_Wait.is O.swap ?_
  refine F_replica_Load.is O (fun h O => (O.view 0 u8_len (by simp) rfl).1) ok.v fun q h O => ?_
  rw [show (⟨r.prom, r.te, r.ts, r.val, spanOf r.wait⟩ : RS) = r by rw [spanOf_id ok.w0]] at O
  refine brr_ff rfl ?_
  repeat (first
    | (with_reducible refine al_id ?_); refine O.al fun _ h O => ?_
    | (with_reducible refine nn_id ?_); refine ⟨_, rfl, ?_⟩
    | (with_reducible refine ld_id ?_); (first | refine O.ld 0 rfl ?_ | refine O.ld 1 rfl ?_ | refine O.ld 2 rfl ?_ | refine O.ld 3 rfl ?_); (repeat (first | (with_reducible refine ldL_n ?_) | refine ldL_s ?_ | refine ldL_c ?_))
    | (with_reducible refine st_ad (by first | (with_reducible rfl) | (simp only [pt_add, Nat.zero_add, Nat.add_zero, Nat.reduceAdd]; with_reducible rfl)) ?_); (first | refine O.st 0 rfl (by simp) rfl fun h O => ?_ | refine O.st 1 rfl (by simp) rfl fun h O => ?_ | refine O.st 2 rfl (by simp) rfl fun h O => ?_ | refine O.st 3 rfl (by simp) rfl fun h O => ?_); (dsimp only [V.put, List.set, List.length_cons, List.length_nil] at O)
    | (with_reducible refine ca_id ?_); (first | refine ⟨cellsAre_blk (O.blk (i := 0) (by simp) rfl).2 _ 1, ?_⟩ | refine ⟨cellsAre_blk (O.blk (i := 0) (by simp) rfl).2 _ 2, ?_⟩ | refine ⟨cellsAre_blk (O.blk (i := 1) (by simp) rfl).2 _ 1, ?_⟩ | refine ⟨cellsAre_blk (O.blk (i := 1) (by simp) rfl).2 _ 2, ?_⟩ | refine ⟨cellsAre_blk (O.blk (i := 2) (by simp) rfl).2 _ 1, ?_⟩ | refine ⟨cellsAre_blk (O.blk (i := 2) (by simp) rfl).2 _ 2, ?_⟩ | refine ⟨cellsAre_blk (O.blk (i := 3) (by simp) rfl).2 _ 1, ?_⟩ | refine ⟨cellsAre_blk (O.blk (i := 3) (by simp) rfl).2 _ 2, ?_⟩))
  replace O := O.sel [2, 0, 3] 4 rfl (Nat.le_add_left _ _)
  simp only [selT, List.map, nth, List.drop, List.cons_append, List.nil_append] at O
  refine F_law9_Life_at.is Vo hi0 ho ok O fun s1 h O => ?_
  refine O.al fun x95 h O => ?_
  refine O.al fun x97 h O => ?_
  refine O.st 1 rfl (by simp) rfl fun h O => ?_
  dsimp only [V.put, List.set] at O
  refine O.st 0 rfl (by simp) rfl fun h O => ?_
  dsimp only [V.put, List.set] at O
  repeat (first
    | (with_reducible refine al_id ?_); refine O.al fun _ h O => ?_
    | (with_reducible refine nn_id ?_); refine ⟨_, rfl, ?_⟩
    | (with_reducible refine ld_id ?_); (first | refine O.ld 0 rfl ?_ | refine O.ld 1 rfl ?_ | refine O.ld 2 rfl ?_ | refine O.ld 3 rfl ?_ | refine O.ld 4 rfl ?_ | refine O.ld 5 rfl ?_); (repeat (first | (with_reducible refine ldL_n ?_) | refine ldL_s ?_ | refine ldL_c ?_))
    | (with_reducible refine st_ad (by first | (with_reducible rfl) | (simp only [pt_add, Nat.zero_add, Nat.add_zero, Nat.reduceAdd]; with_reducible rfl)) ?_); (first | refine O.st 0 rfl (by simp) rfl fun h O => ?_ | refine O.st 1 rfl (by simp) rfl fun h O => ?_ | refine O.st 2 rfl (by simp) rfl fun h O => ?_ | refine O.st 3 rfl (by simp) rfl fun h O => ?_ | refine O.st 4 rfl (by simp) rfl fun h O => ?_ | refine O.st 5 rfl (by simp) rfl fun h O => ?_); (dsimp only [V.put, List.set, List.length_cons, List.length_nil] at O)
    | (with_reducible refine ca_id ?_); (first | refine ⟨cellsAre_blk (O.blk (i := 0) (by simp) rfl).2 _ 1, ?_⟩ | refine ⟨cellsAre_blk (O.blk (i := 0) (by simp) rfl).2 _ 2, ?_⟩ | refine ⟨cellsAre_blk (O.blk (i := 1) (by simp) rfl).2 _ 1, ?_⟩ | refine ⟨cellsAre_blk (O.blk (i := 1) (by simp) rfl).2 _ 2, ?_⟩ | refine ⟨cellsAre_blk (O.blk (i := 2) (by simp) rfl).2 _ 1, ?_⟩ | refine ⟨cellsAre_blk (O.blk (i := 2) (by simp) rfl).2 _ 2, ?_⟩ | refine ⟨cellsAre_blk (O.blk (i := 3) (by simp) rfl).2 _ 1, ?_⟩ | refine ⟨cellsAre_blk (O.blk (i := 3) (by simp) rfl).2 _ 2, ?_⟩ | refine ⟨cellsAre_blk (O.blk (i := 4) (by simp) rfl).2 _ 1, ?_⟩ | refine ⟨cellsAre_blk (O.blk (i := 4) (by simp) rfl).2 _ 2, ?_⟩ | refine ⟨cellsAre_blk (O.blk (i := 5) (by simp) rfl).2 _ 1, ?_⟩ | refine ⟨cellsAre_blk (O.blk (i := 5) (by simp) rfl).2 _ 2, ?_⟩))
  replace O := O.sel [4, 0, 1, 2, 3, 5] 6 rfl (Nat.le_add_left _ _)
  simp only [selT, List.map, nth, List.drop, List.cons_append, List.nil_append] at O
  refine F_law9_Life_at.is Vo hi0 ho ok O fun s2 h O => ?_
  refine O.al fun x155 h O => ?_
  refine O.al fun x157 h O => ?_
  refine O.st 1 rfl (by simp) rfl fun h O => ?_
  dsimp only [V.put, List.set] at O
  refine O.st 0 rfl (by simp) rfl fun h O => ?_
  dsimp only [V.put, List.set] at O
  -- x157, x155, buf s2, repR q, x97, x95, buf s1, repR p, x7
  have O : Sat H h [own x157 (hdC (lifeD r o) s2), own x155 (mgC (lifeM o)), buf 1 u8 s2 (lifeD r o).val, repR q (lifeS r o), own x97 (hdC (lifeD r o) s1), own x95 (mgC (lifeM o)), buf 1 u8 s1 (lifeD r o).val, repR p (lifeS r o), own x7 [.int .u64 t1, .int .u64 t2, .int .u64 t3, .slice t4.ptr t4.len t4.cap, .int .i64 t5, .slice t6.ptr t6.len t6.cap]] := O
  refine jn1 (fun z h' => z = false ∧ Sat H h' [repR p (lifeS r o), own x97 (hdC (lifeD r o) s1), own x95 (mgC (lifeM o)), own x157 (hdC (lifeD r o) s2), buf 1 u8 s2 (lifeD r o).val, own x7 [.int .u64 t1, .int .u64 t2, .int .u64 t3, .slice t4.ptr t4.len t4.cap, .int .i64 t5, .slice t6.ptr t6.len t6.cap]]) ?_ ?_
  case refine_2 =>
    intro j161 hj
    repeat (first
      | (with_reducible refine al_id ?_); refine O.al fun _ h O => ?_
      | (with_reducible refine nn_id ?_); refine ⟨_, rfl, ?_⟩
      | (with_reducible refine ld_id ?_); (first | refine O.ld 0 rfl ?_ | refine O.ld 1 rfl ?_ | refine O.ld 2 rfl ?_ | refine O.ld 3 rfl ?_ | refine O.ld 4 rfl ?_ | refine O.ld 5 rfl ?_); (repeat (first | (with_reducible refine ldL_n ?_) | refine ldL_s ?_ | refine ldL_c ?_))
      | (with_reducible refine st_ad (by first | (with_reducible rfl) | (simp only [pt_add, Nat.zero_add, Nat.add_zero, Nat.reduceAdd]; with_reducible rfl)) ?_); (first | refine O.st 0 rfl (by simp) rfl fun h O => ?_ | refine O.st 1 rfl (by simp) rfl fun h O => ?_ | refine O.st 2 rfl (by simp) rfl fun h O => ?_ | refine O.st 3 rfl (by simp) rfl fun h O => ?_ | refine O.st 4 rfl (by simp) rfl fun h O => ?_ | refine O.st 5 rfl (by simp) rfl fun h O => ?_); (dsimp only [V.put, List.set, List.length_cons, List.length_nil] at O)
      | (with_reducible refine ca_id ?_); (first | refine ⟨cellsAre_blk (O.blk (i := 0) (by simp) rfl).2 _ 1, ?_⟩ | refine ⟨cellsAre_blk (O.blk (i := 0) (by simp) rfl).2 _ 2, ?_⟩ | refine ⟨cellsAre_blk (O.blk (i := 1) (by simp) rfl).2 _ 1, ?_⟩ | refine ⟨cellsAre_blk (O.blk (i := 1) (by simp) rfl).2 _ 2, ?_⟩ | refine ⟨cellsAre_blk (O.blk (i := 2) (by simp) rfl).2 _ 1, ?_⟩ | refine ⟨cellsAre_blk (O.blk (i := 2) (by simp) rfl).2 _ 2, ?_⟩ | refine ⟨cellsAre_blk (O.blk (i := 3) (by simp) rfl).2 _ 1, ?_⟩ | refine ⟨cellsAre_blk (O.blk (i := 3) (by simp) rfl).2 _ 2, ?_⟩ | refine ⟨cellsAre_blk (O.blk (i := 4) (by simp) rfl).2 _ 1, ?_⟩ | refine ⟨cellsAre_blk (O.blk (i := 4) (by simp) rfl).2 _ 2, ?_⟩ | refine ⟨cellsAre_blk (O.blk (i := 5) (by simp) rfl).2 _ 1, ?_⟩ | refine ⟨cellsAre_blk (O.blk (i := 5) (by simp) rfl).2 _ 2, ?_⟩))
    refine F_ref0_EqMsg.is (m := hdM (lifeD r o) s1) (t := s2) O (fun h O => (O.view 6 u8_len (by simp) rfl).1) (fun h O => (O.view 2 u8_len (by simp) rfl).1) hdv fun h O => ?_
    refine brr_ff rfl ?_
    repeat (first
      | (with_reducible refine al_id ?_); refine O.al fun _ h O => ?_
      | (with_reducible refine nn_id ?_); refine ⟨_, rfl, ?_⟩
      | (with_reducible refine ld_id ?_); (first | refine O.ld 0 rfl ?_ | refine O.ld 1 rfl ?_ | refine O.ld 2 rfl ?_ | refine O.ld 3 rfl ?_ | refine O.ld 4 rfl ?_ | refine O.ld 5 rfl ?_); (repeat (first | (with_reducible refine ldL_n ?_) | refine ldL_s ?_ | refine ldL_c ?_))
      | (with_reducible refine st_ad (by first | (with_reducible rfl) | (simp only [pt_add, Nat.zero_add, Nat.add_zero, Nat.reduceAdd]; with_reducible rfl)) ?_); (first | refine O.st 0 rfl (by simp) rfl fun h O => ?_ | refine O.st 1 rfl (by simp) rfl fun h O => ?_ | refine O.st 2 rfl (by simp) rfl fun h O => ?_ | refine O.st 3 rfl (by simp) rfl fun h O => ?_ | refine O.st 4 rfl (by simp) rfl fun h O => ?_ | refine O.st 5 rfl (by simp) rfl fun h O => ?_); (dsimp only [V.put, List.set, List.length_cons, List.length_nil] at O)
      | (with_reducible refine ca_id ?_); (first | refine ⟨cellsAre_blk (O.blk (i := 0) (by simp) rfl).2 _ 1, ?_⟩ | refine ⟨cellsAre_blk (O.blk (i := 0) (by simp) rfl).2 _ 2, ?_⟩ | refine ⟨cellsAre_blk (O.blk (i := 1) (by simp) rfl).2 _ 1, ?_⟩ | refine ⟨cellsAre_blk (O.blk (i := 1) (by simp) rfl).2 _ 2, ?_⟩ | refine ⟨cellsAre_blk (O.blk (i := 2) (by simp) rfl).2 _ 1, ?_⟩ | refine ⟨cellsAre_blk (O.blk (i := 2) (by simp) rfl).2 _ 2, ?_⟩ | refine ⟨cellsAre_blk (O.blk (i := 3) (by simp) rfl).2 _ 1, ?_⟩ | refine ⟨cellsAre_blk (O.blk (i := 3) (by simp) rfl).2 _ 2, ?_⟩ | refine ⟨cellsAre_blk (O.blk (i := 4) (by simp) rfl).2 _ 1, ?_⟩ | refine ⟨cellsAre_blk (O.blk (i := 4) (by simp) rfl).2 _ 2, ?_⟩ | refine ⟨cellsAre_blk (O.blk (i := 5) (by simp) rfl).2 _ 1, ?_⟩ | refine ⟨cellsAre_blk (O.blk (i := 5) (by simp) rfl).2 _ 2, ?_⟩))
    refine brr_ff (by simp) ?_
    repeat (first
      | (with_reducible refine al_id ?_); refine O.al fun _ h O => ?_
      | (with_reducible refine nn_id ?_); refine ⟨_, rfl, ?_⟩
      | (with_reducible refine ld_id ?_); (first | refine O.ld 0 rfl ?_ | refine O.ld 1 rfl ?_ | refine O.ld 2 rfl ?_ | refine O.ld 3 rfl ?_ | refine O.ld 4 rfl ?_ | refine O.ld 5 rfl ?_); (repeat (first | (with_reducible refine ldL_n ?_) | refine ldL_s ?_ | refine ldL_c ?_))
      | (with_reducible refine st_ad (by first | (with_reducible rfl) | (simp only [pt_add, Nat.zero_add, Nat.add_zero, Nat.reduceAdd]; with_reducible rfl)) ?_); (first | refine O.st 0 rfl (by simp) rfl fun h O => ?_ | refine O.st 1 rfl (by simp) rfl fun h O => ?_ | refine O.st 2 rfl (by simp) rfl fun h O => ?_ | refine O.st 3 rfl (by simp) rfl fun h O => ?_ | refine O.st 4 rfl (by simp) rfl fun h O => ?_ | refine O.st 5 rfl (by simp) rfl fun h O => ?_); (dsimp only [V.put, List.set, List.length_cons, List.length_nil] at O)
      | (with_reducible refine ca_id ?_); (first | refine ⟨cellsAre_blk (O.blk (i := 0) (by simp) rfl).2 _ 1, ?_⟩ | refine ⟨cellsAre_blk (O.blk (i := 0) (by simp) rfl).2 _ 2, ?_⟩ | refine ⟨cellsAre_blk (O.blk (i := 1) (by simp) rfl).2 _ 1, ?_⟩ | refine ⟨cellsAre_blk (O.blk (i := 1) (by simp) rfl).2 _ 2, ?_⟩ | refine ⟨cellsAre_blk (O.blk (i := 2) (by simp) rfl).2 _ 1, ?_⟩ | refine ⟨cellsAre_blk (O.blk (i := 2) (by simp) rfl).2 _ 2, ?_⟩ | refine ⟨cellsAre_blk (O.blk (i := 3) (by simp) rfl).2 _ 1, ?_⟩ | refine ⟨cellsAre_blk (O.blk (i := 3) (by simp) rfl).2 _ 2, ?_⟩ | refine ⟨cellsAre_blk (O.blk (i := 4) (by simp) rfl).2 _ 1, ?_⟩ | refine ⟨cellsAre_blk (O.blk (i := 4) (by simp) rfl).2 _ 2, ?_⟩ | refine ⟨cellsAre_blk (O.blk (i := 5) (by simp) rfl).2 _ 1, ?_⟩ | refine ⟨cellsAre_blk (O.blk (i := 5) (by simp) rfl).2 _ 2, ?_⟩))
    refine brr_ff (by simp) ?_
    repeat (first
      | (with_reducible refine al_id ?_); refine O.al fun _ h O => ?_
      | (with_reducible refine nn_id ?_); refine ⟨_, rfl, ?_⟩
      | (with_reducible refine ld_id ?_); (first | refine O.ld 0 rfl ?_ | refine O.ld 1 rfl ?_ | refine O.ld 2 rfl ?_ | refine O.ld 3 rfl ?_ | refine O.ld 4 rfl ?_ | refine O.ld 5 rfl ?_); (repeat (first | (with_reducible refine ldL_n ?_) | refine ldL_s ?_ | refine ldL_c ?_))
      | (with_reducible refine st_ad (by first | (with_reducible rfl) | (simp only [pt_add, Nat.zero_add, Nat.add_zero, Nat.reduceAdd]; with_reducible rfl)) ?_); (first | refine O.st 0 rfl (by simp) rfl fun h O => ?_ | refine O.st 1 rfl (by simp) rfl fun h O => ?_ | refine O.st 2 rfl (by simp) rfl fun h O => ?_ | refine O.st 3 rfl (by simp) rfl fun h O => ?_ | refine O.st 4 rfl (by simp) rfl fun h O => ?_ | refine O.st 5 rfl (by simp) rfl fun h O => ?_); (dsimp only [V.put, List.set, List.length_cons, List.length_nil] at O)
      | (with_reducible refine ca_id ?_); (first | refine ⟨cellsAre_blk (O.blk (i := 0) (by simp) rfl).2 _ 1, ?_⟩ | refine ⟨cellsAre_blk (O.blk (i := 0) (by simp) rfl).2 _ 2, ?_⟩ | refine ⟨cellsAre_blk (O.blk (i := 1) (by simp) rfl).2 _ 1, ?_⟩ | refine ⟨cellsAre_blk (O.blk (i := 1) (by simp) rfl).2 _ 2, ?_⟩ | refine ⟨cellsAre_blk (O.blk (i := 2) (by simp) rfl).2 _ 1, ?_⟩ | refine ⟨cellsAre_blk (O.blk (i := 2) (by simp) rfl).2 _ 2, ?_⟩ | refine ⟨cellsAre_blk (O.blk (i := 3) (by simp) rfl).2 _ 1, ?_⟩ | refine ⟨cellsAre_blk (O.blk (i := 3) (by simp) rfl).2 _ 2, ?_⟩ | refine ⟨cellsAre_blk (O.blk (i := 4) (by simp) rfl).2 _ 1, ?_⟩ | refine ⟨cellsAre_blk (O.blk (i := 4) (by simp) rfl).2 _ 2, ?_⟩ | refine ⟨cellsAre_blk (O.blk (i := 5) (by simp) rfl).2 _ 1, ?_⟩ | refine ⟨cellsAre_blk (O.blk (i := 5) (by simp) rfl).2 _ 2, ?_⟩))
    refine brr_ff (by simp) ?_
    replace O := O.sel [7, 0, 1, 2, 3, 4, 5, 6, 8] 9 rfl (Nat.le_add_left _ _)
    simp only [selT, List.map, nth, List.drop, List.cons_append, List.nil_append] at O
    refine F_replica_Replica_Stored.is ok2 O fun u1 h O => ?_
    replace O := O.sel [5, 0, 1, 2, 3, 4, 6, 7, 8, 9] 10 rfl (Nat.le_add_left _ _)
    simp only [selT, List.map, nth, List.drop, List.cons_append, List.nil_append] at O
    refine F_replica_Replica_Stored.is ok2 O fun u2 h O => ?_
    refine F_ref0_EqStored.is O (fun h O => (O.view 2 u8_len (by simp) rfl).1) (fun h O => (O.view 0 u8_len (by simp) rfl).1) ok2.v ok2.v fun h O => ?_
    refine brr_ff (by simp) ?_
    replace O := O.sel [3, 0, 1, 2, 4, 5, 6, 7, 8, 9, 10] 11 rfl (Nat.le_add_left _ _)
    simp only [selT, List.map, nth, List.drop, List.cons_append, List.nil_append] at O
    refine F_replica_Replica_Wait.is O ?_
    replace O := O.sel [2, 0, 1, 3, 4, 5, 6, 7, 8, 9, 10] 11 rfl (Nat.le_add_left _ _)
    simp only [selT, List.map, nth, List.drop, List.cons_append, List.nil_append] at O
    refine F_replica_Replica_Wait.is O ?_
    refine hj _ _ ⟨by simp, ?_⟩
    exact O.sel [1, 7, 8, 4, 6, 10] 11 rfl (Nat.le_add_left _ _)
  clear O
  rintro z h ⟨rfl, O⟩
  refine brr_ff rfl ?_
  repeat (first
    | (with_reducible refine al_id ?_); refine O.al fun _ h O => ?_
    | (with_reducible refine nn_id ?_); refine ⟨_, rfl, ?_⟩
    | (with_reducible refine ld_id ?_); (first | refine O.ld 0 rfl ?_ | refine O.ld 1 rfl ?_ | refine O.ld 2 rfl ?_); (repeat (first | (with_reducible refine ldL_n ?_) | refine ldL_s ?_ | refine ldL_c ?_))
    | (with_reducible refine st_ad (by first | (with_reducible rfl) | (simp only [pt_add, Nat.zero_add, Nat.add_zero, Nat.reduceAdd]; with_reducible rfl)) ?_); (first | refine O.st 0 rfl (by simp) rfl fun h O => ?_ | refine O.st 1 rfl (by simp) rfl fun h O => ?_ | refine O.st 2 rfl (by simp) rfl fun h O => ?_); (dsimp only [V.put, List.set, List.length_cons, List.length_nil] at O)
    | (with_reducible refine ca_id ?_); (first | refine ⟨cellsAre_blk (O.blk (i := 0) (by simp) rfl).2 _ 1, ?_⟩ | refine ⟨cellsAre_blk (O.blk (i := 0) (by simp) rfl).2 _ 2, ?_⟩ | refine ⟨cellsAre_blk (O.blk (i := 1) (by simp) rfl).2 _ 1, ?_⟩ | refine ⟨cellsAre_blk (O.blk (i := 1) (by simp) rfl).2 _ 2, ?_⟩ | refine ⟨cellsAre_blk (O.blk (i := 2) (by simp) rfl).2 _ 1, ?_⟩ | refine ⟨cellsAre_blk (O.blk (i := 2) (by simp) rfl).2 _ 2, ?_⟩))
  refine brr_eq (fun hk0 => ?_) (fun hk0 => ?_)
  · exact hj31 _ ⟨_, ok2, O.sel [0, 5] 6 rfl (Nat.le_add_left _ _)⟩
  have hdo : o.do_ = 1 := by
    by_cases h1 : o.do_ = 1
    · exact h1
    · exact absurd (show (lifeM o).kind = 0 by unfold lifeM; rw [if_neg h1]; rfl) hk0
  have e1 : lifeM o = o.m := by unfold lifeM; rw [if_pos hdo]
  have e2 : lifeD r o = (hearS r o.m).2 := by unfold lifeD; rw [if_pos hdo]
  have e3 : lifeS r o = (hearS r o.m).1 := by unfold lifeS; rw [if_pos hdo]
  refine F_replica_Replica_Stored.is ok2 O fun u3 h O => ?_
  refine O.al fun x238 h O => ?_
  refine O.st 0 rfl (by simp) rfl fun h O => ?_
  dsimp only [V.put, List.set] at O
  repeat (first
    | (with_reducible refine al_id ?_); refine O.al fun _ h O => ?_
    | (with_reducible refine nn_id ?_); refine ⟨_, rfl, ?_⟩
    | (with_reducible refine ld_id ?_); (first | refine O.ld 0 rfl ?_ | refine O.ld 1 rfl ?_ | refine O.ld 2 rfl ?_ | refine O.ld 3 rfl ?_ | refine O.ld 4 rfl ?_); (repeat (first | (with_reducible refine ldL_n ?_) | refine ldL_s ?_ | refine ldL_c ?_))
    | (with_reducible refine st_ad (by first | (with_reducible rfl) | (simp only [pt_add, Nat.zero_add, Nat.add_zero, Nat.reduceAdd]; with_reducible rfl)) ?_); (first | refine O.st 0 rfl (by simp) rfl fun h O => ?_ | refine O.st 1 rfl (by simp) rfl fun h O => ?_ | refine O.st 2 rfl (by simp) rfl fun h O => ?_ | refine O.st 3 rfl (by simp) rfl fun h O => ?_ | refine O.st 4 rfl (by simp) rfl fun h O => ?_); (dsimp only [V.put, List.set, List.length_cons, List.length_nil] at O)
    | (with_reducible refine ca_id ?_); (first | refine ⟨cellsAre_blk (O.blk (i := 0) (by simp) rfl).2 _ 1, ?_⟩ | refine ⟨cellsAre_blk (O.blk (i := 0) (by simp) rfl).2 _ 2, ?_⟩ | refine ⟨cellsAre_blk (O.blk (i := 1) (by simp) rfl).2 _ 1, ?_⟩ | refine ⟨cellsAre_blk (O.blk (i := 1) (by simp) rfl).2 _ 2, ?_⟩ | refine ⟨cellsAre_blk (O.blk (i := 2) (by simp) rfl).2 _ 1, ?_⟩ | refine ⟨cellsAre_blk (O.blk (i := 2) (by simp) rfl).2 _ 2, ?_⟩ | refine ⟨cellsAre_blk (O.blk (i := 3) (by simp) rfl).2 _ 1, ?_⟩ | refine ⟨cellsAre_blk (O.blk (i := 3) (by simp) rfl).2 _ 2, ?_⟩ | refine ⟨cellsAre_blk (O.blk (i := 4) (by simp) rfl).2 _ 1, ?_⟩ | refine ⟨cellsAre_blk (O.blk (i := 4) (by simp) rfl).2 _ 2, ?_⟩))
  refine F_ref0_CopyMsg.is (m := lifeM o) O (fun h O => (lifeM_b oo).1.kept O.kept) (lifeM_b oo).2 fun sc h O => ?_
  replace O := O.sel [3, 0, 1, 2, 4, 5, 6, 7, 8] 9 rfl (Nat.le_add_left _ _)
  simp only [selT, List.map, nth, List.drop, List.cons_append, List.nil_append] at O
  refine F_replica_Replica_Hear.is (m := { lifeM o with v := sc }) ok2 (fun h O => (O.view 0 u8_len (by simp) rfl).1) (lifeM_b oo).2 O fun s4 h O => ?_
  have e4 : hearS (lifeS r o) { lifeM o with v := sc } = (lifeS r o, { lifeD r o with chg := false }) := by
    have := hear_twice r o.m
    rw [e1, e2, e3]
    exact this
  rw [e4] at O ⊢
  -- buf s4, repR p, buf sc, x238, buf u3, x97, x95, x157, buf s2, x7
  refine O.st 5 rfl (by simp [hdC]) rfl fun h O => ?_
  simp only [V.put, List.set, hdC] at O
  refine jn1 (fun z h' => z = false ∧ Sat H h' [repR p (lifeS r o), own x7 [.int .u64 t1, .int .u64 t2, .int .u64 t3, .slice t4.ptr t4.len t4.cap, .int .i64 t5, .slice t6.ptr t6.len t6.cap]]) ?_ ?_
  · clear O
    rintro z h ⟨rfl, O⟩
    refine brr_ff rfl ?_
    exact hj31 _ ⟨_, ok2, O⟩
  · intro j313 hj
    repeat (first
      | (with_reducible refine al_id ?_); refine O.al fun _ h O => ?_
      | (with_reducible refine nn_id ?_); refine ⟨_, rfl, ?_⟩
      | (with_reducible refine ld_id ?_); (first | refine O.ld 0 rfl ?_ | refine O.ld 1 rfl ?_ | refine O.ld 2 rfl ?_ | refine O.ld 3 rfl ?_ | refine O.ld 4 rfl ?_ | refine O.ld 5 rfl ?_ | refine O.ld 6 rfl ?_ | refine O.ld 7 rfl ?_); (repeat (first | (with_reducible refine ldL_n ?_) | refine ldL_s ?_ | refine ldL_c ?_))
      | (with_reducible refine st_ad (by first | (with_reducible rfl) | (simp only [pt_add, Nat.zero_add, Nat.add_zero, Nat.reduceAdd]; with_reducible rfl)) ?_); (first | refine O.st 0 rfl (by simp) rfl fun h O => ?_ | refine O.st 1 rfl (by simp) rfl fun h O => ?_ | refine O.st 2 rfl (by simp) rfl fun h O => ?_ | refine O.st 3 rfl (by simp) rfl fun h O => ?_ | refine O.st 4 rfl (by simp) rfl fun h O => ?_ | refine O.st 5 rfl (by simp) rfl fun h O => ?_ | refine O.st 6 rfl (by simp) rfl fun h O => ?_ | refine O.st 7 rfl (by simp) rfl fun h O => ?_); (dsimp only [V.put, List.set, List.length_cons, List.length_nil] at O)
      | (with_reducible refine ca_id ?_); (first | refine ⟨cellsAre_blk (O.blk (i := 0) (by simp) rfl).2 _ 1, ?_⟩ | refine ⟨cellsAre_blk (O.blk (i := 0) (by simp) rfl).2 _ 2, ?_⟩ | refine ⟨cellsAre_blk (O.blk (i := 1) (by simp) rfl).2 _ 1, ?_⟩ | refine ⟨cellsAre_blk (O.blk (i := 1) (by simp) rfl).2 _ 2, ?_⟩ | refine ⟨cellsAre_blk (O.blk (i := 2) (by simp) rfl).2 _ 1, ?_⟩ | refine ⟨cellsAre_blk (O.blk (i := 2) (by simp) rfl).2 _ 2, ?_⟩ | refine ⟨cellsAre_blk (O.blk (i := 3) (by simp) rfl).2 _ 1, ?_⟩ | refine ⟨cellsAre_blk (O.blk (i := 3) (by simp) rfl).2 _ 2, ?_⟩ | refine ⟨cellsAre_blk (O.blk (i := 4) (by simp) rfl).2 _ 1, ?_⟩ | refine ⟨cellsAre_blk (O.blk (i := 4) (by simp) rfl).2 _ 2, ?_⟩ | refine ⟨cellsAre_blk (O.blk (i := 5) (by simp) rfl).2 _ 1, ?_⟩ | refine ⟨cellsAre_blk (O.blk (i := 5) (by simp) rfl).2 _ 2, ?_⟩ | refine ⟨cellsAre_blk (O.blk (i := 6) (by simp) rfl).2 _ 1, ?_⟩ | refine ⟨cellsAre_blk (O.blk (i := 6) (by simp) rfl).2 _ 2, ?_⟩ | refine ⟨cellsAre_blk (O.blk (i := 7) (by simp) rfl).2 _ 1, ?_⟩ | refine ⟨cellsAre_blk (O.blk (i := 7) (by simp) rfl).2 _ 2, ?_⟩))
    refine F_ref0_EqMsg.is (m := hdM (lifeD r o) s4) (t := s2) O (fun h O => (O.view 0 u8_len (by simp) rfl).1) (fun h O => (O.view 8 u8_len (by simp) rfl).1) hdv fun h O => ?_
    refine brr_ff rfl ?_
    repeat (first
      | (with_reducible refine al_id ?_); refine O.al fun _ h O => ?_
      | (with_reducible refine nn_id ?_); refine ⟨_, rfl, ?_⟩
      | (with_reducible refine ld_id ?_); (first | refine O.ld 0 rfl ?_ | refine O.ld 1 rfl ?_ | refine O.ld 2 rfl ?_ | refine O.ld 3 rfl ?_ | refine O.ld 4 rfl ?_ | refine O.ld 5 rfl ?_ | refine O.ld 6 rfl ?_ | refine O.ld 7 rfl ?_); (repeat (first | (with_reducible refine ldL_n ?_) | refine ldL_s ?_ | refine ldL_c ?_))
      | (with_reducible refine st_ad (by first | (with_reducible rfl) | (simp only [pt_add, Nat.zero_add, Nat.add_zero, Nat.reduceAdd]; with_reducible rfl)) ?_); (first | refine O.st 0 rfl (by simp) rfl fun h O => ?_ | refine O.st 1 rfl (by simp) rfl fun h O => ?_ | refine O.st 2 rfl (by simp) rfl fun h O => ?_ | refine O.st 3 rfl (by simp) rfl fun h O => ?_ | refine O.st 4 rfl (by simp) rfl fun h O => ?_ | refine O.st 5 rfl (by simp) rfl fun h O => ?_ | refine O.st 6 rfl (by simp) rfl fun h O => ?_ | refine O.st 7 rfl (by simp) rfl fun h O => ?_); (dsimp only [V.put, List.set, List.length_cons, List.length_nil] at O)
      | (with_reducible refine ca_id ?_); (first | refine ⟨cellsAre_blk (O.blk (i := 0) (by simp) rfl).2 _ 1, ?_⟩ | refine ⟨cellsAre_blk (O.blk (i := 0) (by simp) rfl).2 _ 2, ?_⟩ | refine ⟨cellsAre_blk (O.blk (i := 1) (by simp) rfl).2 _ 1, ?_⟩ | refine ⟨cellsAre_blk (O.blk (i := 1) (by simp) rfl).2 _ 2, ?_⟩ | refine ⟨cellsAre_blk (O.blk (i := 2) (by simp) rfl).2 _ 1, ?_⟩ | refine ⟨cellsAre_blk (O.blk (i := 2) (by simp) rfl).2 _ 2, ?_⟩ | refine ⟨cellsAre_blk (O.blk (i := 3) (by simp) rfl).2 _ 1, ?_⟩ | refine ⟨cellsAre_blk (O.blk (i := 3) (by simp) rfl).2 _ 2, ?_⟩ | refine ⟨cellsAre_blk (O.blk (i := 4) (by simp) rfl).2 _ 1, ?_⟩ | refine ⟨cellsAre_blk (O.blk (i := 4) (by simp) rfl).2 _ 2, ?_⟩ | refine ⟨cellsAre_blk (O.blk (i := 5) (by simp) rfl).2 _ 1, ?_⟩ | refine ⟨cellsAre_blk (O.blk (i := 5) (by simp) rfl).2 _ 2, ?_⟩ | refine ⟨cellsAre_blk (O.blk (i := 6) (by simp) rfl).2 _ 1, ?_⟩ | refine ⟨cellsAre_blk (O.blk (i := 6) (by simp) rfl).2 _ 2, ?_⟩ | refine ⟨cellsAre_blk (O.blk (i := 7) (by simp) rfl).2 _ 1, ?_⟩ | refine ⟨cellsAre_blk (O.blk (i := 7) (by simp) rfl).2 _ 2, ?_⟩))
    refine brr_ff (by simp) ?_
    repeat (first
      | (with_reducible refine al_id ?_); refine O.al fun _ h O => ?_
      | (with_reducible refine nn_id ?_); refine ⟨_, rfl, ?_⟩
      | (with_reducible refine ld_id ?_); (first | refine O.ld 0 rfl ?_ | refine O.ld 1 rfl ?_ | refine O.ld 2 rfl ?_ | refine O.ld 3 rfl ?_ | refine O.ld 4 rfl ?_ | refine O.ld 5 rfl ?_ | refine O.ld 6 rfl ?_ | refine O.ld 7 rfl ?_); (repeat (first | (with_reducible refine ldL_n ?_) | refine ldL_s ?_ | refine ldL_c ?_))
      | (with_reducible refine st_ad (by first | (with_reducible rfl) | (simp only [pt_add, Nat.zero_add, Nat.add_zero, Nat.reduceAdd]; with_reducible rfl)) ?_); (first | refine O.st 0 rfl (by simp) rfl fun h O => ?_ | refine O.st 1 rfl (by simp) rfl fun h O => ?_ | refine O.st 2 rfl (by simp) rfl fun h O => ?_ | refine O.st 3 rfl (by simp) rfl fun h O => ?_ | refine O.st 4 rfl (by simp) rfl fun h O => ?_ | refine O.st 5 rfl (by simp) rfl fun h O => ?_ | refine O.st 6 rfl (by simp) rfl fun h O => ?_ | refine O.st 7 rfl (by simp) rfl fun h O => ?_); (dsimp only [V.put, List.set, List.length_cons, List.length_nil] at O)
      | (with_reducible refine ca_id ?_); (first | refine ⟨cellsAre_blk (O.blk (i := 0) (by simp) rfl).2 _ 1, ?_⟩ | refine ⟨cellsAre_blk (O.blk (i := 0) (by simp) rfl).2 _ 2, ?_⟩ | refine ⟨cellsAre_blk (O.blk (i := 1) (by simp) rfl).2 _ 1, ?_⟩ | refine ⟨cellsAre_blk (O.blk (i := 1) (by simp) rfl).2 _ 2, ?_⟩ | refine ⟨cellsAre_blk (O.blk (i := 2) (by simp) rfl).2 _ 1, ?_⟩ | refine ⟨cellsAre_blk (O.blk (i := 2) (by simp) rfl).2 _ 2, ?_⟩ | refine ⟨cellsAre_blk (O.blk (i := 3) (by simp) rfl).2 _ 1, ?_⟩ | refine ⟨cellsAre_blk (O.blk (i := 3) (by simp) rfl).2 _ 2, ?_⟩ | refine ⟨cellsAre_blk (O.blk (i := 4) (by simp) rfl).2 _ 1, ?_⟩ | refine ⟨cellsAre_blk (O.blk (i := 4) (by simp) rfl).2 _ 2, ?_⟩ | refine ⟨cellsAre_blk (O.blk (i := 5) (by simp) rfl).2 _ 1, ?_⟩ | refine ⟨cellsAre_blk (O.blk (i := 5) (by simp) rfl).2 _ 2, ?_⟩ | refine ⟨cellsAre_blk (O.blk (i := 6) (by simp) rfl).2 _ 1, ?_⟩ | refine ⟨cellsAre_blk (O.blk (i := 6) (by simp) rfl).2 _ 2, ?_⟩ | refine ⟨cellsAre_blk (O.blk (i := 7) (by simp) rfl).2 _ 1, ?_⟩ | refine ⟨cellsAre_blk (O.blk (i := 7) (by simp) rfl).2 _ 2, ?_⟩))
    refine brr_ff rfl ?_
    repeat (first
      | (with_reducible refine al_id ?_); refine O.al fun _ h O => ?_
      | (with_reducible refine nn_id ?_); refine ⟨_, rfl, ?_⟩
      | (with_reducible refine ld_id ?_); (first | refine O.ld 0 rfl ?_ | refine O.ld 1 rfl ?_ | refine O.ld 2 rfl ?_ | refine O.ld 3 rfl ?_ | refine O.ld 4 rfl ?_ | refine O.ld 5 rfl ?_ | refine O.ld 6 rfl ?_ | refine O.ld 7 rfl ?_); (repeat (first | (with_reducible refine ldL_n ?_) | refine ldL_s ?_ | refine ldL_c ?_))
      | (with_reducible refine st_ad (by first | (with_reducible rfl) | (simp only [pt_add, Nat.zero_add, Nat.add_zero, Nat.reduceAdd]; with_reducible rfl)) ?_); (first | refine O.st 0 rfl (by simp) rfl fun h O => ?_ | refine O.st 1 rfl (by simp) rfl fun h O => ?_ | refine O.st 2 rfl (by simp) rfl fun h O => ?_ | refine O.st 3 rfl (by simp) rfl fun h O => ?_ | refine O.st 4 rfl (by simp) rfl fun h O => ?_ | refine O.st 5 rfl (by simp) rfl fun h O => ?_ | refine O.st 6 rfl (by simp) rfl fun h O => ?_ | refine O.st 7 rfl (by simp) rfl fun h O => ?_); (dsimp only [V.put, List.set, List.length_cons, List.length_nil] at O)
      | (with_reducible refine ca_id ?_); (first | refine ⟨cellsAre_blk (O.blk (i := 0) (by simp) rfl).2 _ 1, ?_⟩ | refine ⟨cellsAre_blk (O.blk (i := 0) (by simp) rfl).2 _ 2, ?_⟩ | refine ⟨cellsAre_blk (O.blk (i := 1) (by simp) rfl).2 _ 1, ?_⟩ | refine ⟨cellsAre_blk (O.blk (i := 1) (by simp) rfl).2 _ 2, ?_⟩ | refine ⟨cellsAre_blk (O.blk (i := 2) (by simp) rfl).2 _ 1, ?_⟩ | refine ⟨cellsAre_blk (O.blk (i := 2) (by simp) rfl).2 _ 2, ?_⟩ | refine ⟨cellsAre_blk (O.blk (i := 3) (by simp) rfl).2 _ 1, ?_⟩ | refine ⟨cellsAre_blk (O.blk (i := 3) (by simp) rfl).2 _ 2, ?_⟩ | refine ⟨cellsAre_blk (O.blk (i := 4) (by simp) rfl).2 _ 1, ?_⟩ | refine ⟨cellsAre_blk (O.blk (i := 4) (by simp) rfl).2 _ 2, ?_⟩ | refine ⟨cellsAre_blk (O.blk (i := 5) (by simp) rfl).2 _ 1, ?_⟩ | refine ⟨cellsAre_blk (O.blk (i := 5) (by simp) rfl).2 _ 2, ?_⟩ | refine ⟨cellsAre_blk (O.blk (i := 6) (by simp) rfl).2 _ 1, ?_⟩ | refine ⟨cellsAre_blk (O.blk (i := 6) (by simp) rfl).2 _ 2, ?_⟩ | refine ⟨cellsAre_blk (O.blk (i := 7) (by simp) rfl).2 _ 1, ?_⟩ | refine ⟨cellsAre_blk (O.blk (i := 7) (by simp) rfl).2 _ 2, ?_⟩))
    replace O := O.sel [1, 0, 2, 3, 4, 9] 10 rfl (Nat.le_add_left _ _)
    have O : Sat H h (repR p (lifeS r o) :: _) := O
    refine F_replica_Replica_Stored.is ok2 O fun u5 h O => ?_
    refine ⟨cellsAre_blk (O.blk (i := 4) (by simp [selT]) rfl).2 0 4, ?_⟩
    refine F_ref0_EqStored.is O (fun h O => (O.view 0 u8_len (by simp) rfl).1) (fun h O => (O.view 5 u8_len (by simp) rfl).1) ok2.v ok2.v fun h O => ?_
    refine hj _ _ ⟨by simp, ?_⟩
    exact O.sel [1, 6] 7 rfl (Nat.le_add_left _ _)
end Go.Proofs.Ytcbelendjpnmiaa.V
namespace Go.Proofs.Ytcbelendjpnmiaa.V
open Go Go.RowKit
set_option linter.unusedVariables false
set_option maxRecDepth 100000
/-! tally/tallylaw9.ReplicaKeeps -/
def F_law9_ReplicaKeeps.l1 (f23_ : Option Addr → Heap → (Int → Int → Int → Sl → Heap → Prop) → Prop) (f24_ : Int → Int → Int → Sl → Int → Sl → Option Addr → Int → Heap → (Int → Int → Int → Int → Int → Int → Int → Int → Int → Int → Sl → Int → Int → ByteArray → ByteArray → Int → Int → Int → Int → Int → Int → Int → Int → Int → Int → Int → Int → Int → Int → Int → Int → Int → Sl → Int → Int → ByteArray → ByteArray → Int → Int → Int → Int → Int → Int → Int → Bool → Bool → Bool → Heap → Prop) → Prop) (f28_ : Option Addr → Heap → (Int → Heap → Prop) → Prop) (Q : Bool → Heap → Prop) (a8 : Addr) (r17 : Option Addr) (j25 : Int → Heap → Prop) : Int → Int → Heap → Prop :=
  wl [(6, .one (.int .i64)), (7, .one (.int .i64))] (fun (next26 : Int → Int → Heap → Prop) (left27 : Int) (i28 : Int) (h29 : Heap) =>
  jn [(49, .one .bool)] (fun (x32 : Bool) (h33 : Heap) =>
  brr x32
  (ld [.sl] (a8.add 5) h33 fun (v34 : Sl) =>
  ixS 30 v34 i28 fun (a35 : Addr) =>
  ld [.int .i64, .int .i64, .int .i64, .int .u64, .int .i64, .int .i64, .int .i64, .int .i64, .int .u64, .int .u64, .int .u64, .int .u64, .int .i64, .int .u64, .sl, .int .i64, .int .u64, .str, .str, .int .u64, .int .u64, .int .u64, .int .i64, .int .i64, .int .i64, .int .i64, .int .u64, .int .u64, .int .u64, .sl] a35 h33 fun (v36 : Int) (v37 : Int) (v38 : Int) (v39 : Int) (v40 : Int) (v41 : Int) (v42 : Int) (v43 : Int) (v44 : Int) (v45 : Int) (v46 : Int) (v47 : Int) (v48 : Int) (v49 : Int) (v50 : Sl) (v51 : Int) (v52 : Int) (v53 : ByteArray) (v54 : ByteArray) (v55 : Int) (v56 : Int) (v57 : Int) (v58 : Int) (v59 : Int) (v60 : Int) (v61 : Int) (v62 : Int) (v63 : Int) (v64 : Int) (v65 : Sl) =>
  al 46 [.int .i64 0, .int .i64 0, .int .i64 0, .int .u64 0, .int .i64 0, .int .i64 0, .int .i64 0, .int .i64 0, .int .u64 0, .int .u64 0, .int .u64 0, .int .u64 0, .int .i64 0, .int .u64 0, .slice none 0 0, .int .i64 0, .int .u64 0, .string (⟨#[]⟩ : ByteArray), .string (⟨#[]⟩ : ByteArray), .int .u64 0, .int .u64 0, .int .u64 0, .int .i64 0, .int .i64 0, .int .i64 0, .int .i64 0, .int .u64 0, .int .u64 0, .int .u64 0, .slice none 0 0] h33 fun (a66 : Addr) (h67 : Heap) =>
  st a66 [.int .i64 v36, .int .i64 v37, .int .i64 v38, .int .u64 v39, .int .i64 v40, .int .i64 v41, .int .i64 v42, .int .i64 v43, .int .u64 v44, .int .u64 v45, .int .u64 v46, .int .u64 v47, .int .i64 v48, .int .u64 v49, .slice v50.ptr v50.len v50.cap, .int .i64 v51, .int .u64 v52, .string v53, .string v54, .int .u64 v55, .int .u64 v56, .int .u64 v57, .int .i64 v58, .int .i64 v59, .int .i64 v60, .int .i64 v61, .int .u64 v62, .int .u64 v63, .int .u64 v64, .slice v65.ptr v65.len v65.cap] h67 fun (h68 : Heap) =>
  f23_ r17 h68 fun (r69 : Int) (r70 : Int) (r71 : Int) (r72 : Sl) (h73 : Heap) =>
  al 44 [.int .u64 0, .int .u64 0, .int .u64 0, .slice none 0 0] h73 fun (a74 : Addr) (h75 : Heap) =>
  st a74 [.int .u64 r69, .int .u64 r70, .int .u64 r71, .slice r72.ptr r72.len r72.cap] h75 fun (h76 : Heap) =>
  ld [.int .u64, .int .u64, .int .u64, .sl, .int .i64, .sl] a8 h76 fun (v77 : Int) (v78 : Int) (v79 : Int) (v80 : Sl) (v81 : Int) (v82 : Sl) =>
  f24_ v77 v78 v79 v80 v81 v82 r17 i28 h76 fun (r83 : Int) (r84 : Int) (r85 : Int) (r86 : Int) (r87 : Int) (r88 : Int) (r89 : Int) (r90 : Int) (r91 : Int) (r92 : Int) (r93 : Sl) (r94 : Int) (r95 : Int) (r96 : ByteArray) (r97 : ByteArray) (r98 : Int) (r99 : Int) (r100 : Int) (r101 : Int) (r102 : Int) (r103 : Int) (r104 : Int) (r105 : Int) (r106 : Int) (r107 : Int) (r108 : Int) (r109 : Int) (r110 : Int) (r111 : Int) (r112 : Int) (r113 : Int) (r114 : Int) (r115 : Sl) (r116 : Int) (r117 : Int) (r118 : ByteArray) (r119 : ByteArray) (r120 : Int) (r121 : Int) (r122 : Int) (r123 : Int) (r124 : Int) (r125 : Int) (r126 : Int) (r127 : Bool) (r128 : Bool) (r129 : Bool) (h130 : Heap) =>
  al 42 [.int .i64 0, .int .i64 0, .int .i64 0, .int .i64 0, .int .u64 0, .int .u64 0, .int .u64 0, .int .u64 0, .int .i64 0, .int .u64 0, .slice none 0 0, .int .i64 0, .int .u64 0, .string (⟨#[]⟩ : ByteArray), .string (⟨#[]⟩ : ByteArray), .int .u64 0, .int .u64 0, .int .u64 0, .int .i64 0, .int .i64 0, .int .i64 0, .int .i64 0] h130 fun (a131 : Addr) (h132 : Heap) =>
  al 49 [.int .i64 0, .int .i64 0, .int .i64 0, .int .i64 0, .int .u64 0, .int .u64 0, .int .u64 0, .int .u64 0, .int .i64 0, .int .u64 0, .slice none 0 0, .int .i64 0, .int .u64 0, .string (⟨#[]⟩ : ByteArray), .string (⟨#[]⟩ : ByteArray), .int .u64 0, .int .u64 0, .int .u64 0, .int .i64 0, .int .i64 0, .int .i64 0, .int .i64 0, .bool false, .bool false, .bool false] h132 fun (a133 : Addr) (h134 : Heap) =>
  st a131 [.int .i64 r83, .int .i64 r84, .int .i64 r85, .int .i64 r86, .int .u64 r87, .int .u64 r88, .int .u64 r89, .int .u64 r90, .int .i64 r91, .int .u64 r92, .slice r93.ptr r93.len r93.cap, .int .i64 r94, .int .u64 r95, .string r96, .string r97, .int .u64 r98, .int .u64 r99, .int .u64 r100, .int .i64 r101, .int .i64 r102, .int .i64 r103, .int .i64 r104] h134 fun (h135 : Heap) =>
  st a133 [.int .i64 r105, .int .i64 r106, .int .i64 r107, .int .i64 r108, .int .u64 r109, .int .u64 r110, .int .u64 r111, .int .u64 r112, .int .i64 r113, .int .u64 r114, .slice r115.ptr r115.len r115.cap, .int .i64 r116, .int .u64 r117, .string r118, .string r119, .int .u64 r120, .int .u64 r121, .int .u64 r122, .int .i64 r123, .int .i64 r124, .int .i64 r125, .int .i64 r126, .bool r127, .bool r128, .bool r129] h135 fun (h136 : Heap) =>
  jn [(72, .one .bool)] (fun (x139 : Bool) (h140 : Heap) =>
  jn [(6, .one (.int .i64))] (fun (left142 : Int) (h143 : Heap) =>
  ld [.bool] (a133.add 23) h143 fun (v144 : Bool) =>
  jn [(6, .one (.int .i64))] (fun (left147 : Int) (h148 : Heap) =>
  jn [(88, .one .bool)] (fun (x152 : Bool) (h153 : Heap) =>
  jn [] (fun  (h172 : Heap) =>
  f28_ r17 h172 fun (r173 : Int) (h174 : Heap) =>
  brr (r173 != left147)
  (Q false h174)
  (next26 left147 (IntKind.i64.wrap (i28 + 1)) h174)) (fun (j154 : Heap → Prop) =>
  brr x152
  (jn [(12, .one .bool)] (fun (promise160 : Bool) (h161 : Heap) =>
  jn [(120, .one .bool)] (fun (x165 : Bool) (h166 : Heap) =>
  brr x165
  (Q false h166)
  (jn [(130, .one .bool)] (fun (x170 : Bool) (h171 : Heap) =>
  brr x170
  (Q false h171)
  (j154 h171)) (fun (j167 : Bool → Heap → Prop) =>
  brr (!promise160)
  (ld [.int .u64] ((a133.add 0).add 9) h166 fun (v168 : Int) =>
  ld [.int .u64] (a74.add 0) h166 fun (v169 : Int) =>
  j167 (v168 != v169) h166)
  (j167 false h166)))) (fun (j162 : Bool → Heap → Prop) =>
  ld [.int .i64] (((a133.add 0).add 0).add 0) h161 fun (v163 : Int) =>
  brr (!(promise160 == (v163 == 2)))
  (j162 true h161)
  (ld [.int .i64] (((a133.add 0).add 0).add 0) h161 fun (v164 : Int) =>
  j162 (promise160 == (v164 == 3)) h161))) (fun (j155 : Bool → Heap → Prop) =>
  ld [.int .u64] (a131.add 4) h153 fun (v156 : Int) =>
  ld [.int .u64] (a74.add 0) h153 fun (v157 : Int) =>
  brr (v156 == v157)
  (j155 true h153)
  (ld [.int .u64] (a131.add 4) h153 fun (v158 : Int) =>
  ld [.int .u64] (a74.add 0) h153 fun (v159 : Int) =>
  brr (decide (v158 > v159))
  (j155 (left147 == 0) h153)
  (j155 false h153))))
  (j154 h153))) (fun (j149 : Bool → Heap → Prop) =>
  ld [.int .i64] (a66.add 0) h148 fun (v150 : Int) =>
  brr (v150 == 1)
  (ld [.int .i64] ((a131.add 0).add 0) h148 fun (v151 : Int) =>
  j149 (v151 == 1) h148)
  (j149 false h148))) (fun (j145 : Int → Heap → Prop) =>
  brr v144
  (ld [.int .i64] (a131.add 8) h143 fun (v146 : Int) =>
  j145 (if (0 : Int) > v146 then 0 else v146) h143)
  (j145 left142 h143))) (fun (j141 : Int → Heap → Prop) =>
  brr x139
  (j141 (IntKind.i64.wrap (left27 - 1)) h140)
  (j141 left27 h140))) (fun (j137 : Bool → Heap → Prop) =>
  ld [.int .i64] (a66.add 0) h136 fun (v138 : Int) =>
  brr (v138 == 2)
  (j137 (decide (left27 > 0)) h136)
  (j137 false h136)))
  (j25 left27 h33)) (fun (j30 : Bool → Heap → Prop) =>
  ld [.sl] (a8.add 5) h29 fun (v31 : Sl) =>
  brr (decide (i28 < ((v31.len : Nat) : Int)))
  (j30 (decide (i28 < 500)) h29)
  (j30 false h29)))
def F_law9_ReplicaKeeps.l2 (f11_ : Option Addr → Heap → (Heap → Prop) → Prop) (f13_ : Option Addr → Int → Int → Int → Int → Int → Int → Int → Int → Int → Int → Sl → Int → Int → ByteArray → ByteArray → Int → Int → Int → Int → Int → Int → Int → Heap → (Int → Int → Int → Int → Int → Int → Int → Int → Int → Int → Sl → Int → Int → ByteArray → ByteArray → Int → Int → Int → Int → Int → Int → Int → Bool → Bool → Bool → Heap → Prop) → Prop) (ahead7 : Int) (Q : Bool → Heap → Prop) (r17 : Option Addr) (left175 : Int) (v185 : Int) (j187 : Heap → Prop) : Int → Heap → Prop :=
  wl [(15, .one (.int .i64))] (fun (next188 : Int → Heap → Prop) (i189 : Int) (h190 : Heap) =>
  jn [(153, .one .bool)] (fun (x192 : Bool) (h193 : Heap) =>
  brr x192
  (f13_ r17 1 0 0 0 (IntKind.u64.wrap ((IntKind.u64.wrap (v185 + 1)) + (ahead7.tmod 1000))) 0 0 0 0 0 (⟨none, 0, 0⟩ : Sl) 0 0 (⟨#[]⟩ : ByteArray) (⟨#[]⟩ : ByteArray) 0 0 0 0 0 0 0 h193 fun (r194 : Int) (r195 : Int) (r196 : Int) (r197 : Int) (r198 : Int) (r199 : Int) (r200 : Int) (r201 : Int) (r202 : Int) (r203 : Int) (r204 : Sl) (r205 : Int) (r206 : Int) (r207 : ByteArray) (r208 : ByteArray) (r209 : Int) (r210 : Int) (r211 : Int) (r212 : Int) (r213 : Int) (r214 : Int) (r215 : Int) (r216 : Bool) (r217 : Bool) (r218 : Bool) (h219 : Heap) =>
  al 49 [.int .i64 0, .int .i64 0, .int .i64 0, .int .i64 0, .int .u64 0, .int .u64 0, .int .u64 0, .int .u64 0, .int .i64 0, .int .u64 0, .slice none 0 0, .int .i64 0, .int .u64 0, .string (⟨#[]⟩ : ByteArray), .string (⟨#[]⟩ : ByteArray), .int .u64 0, .int .u64 0, .int .u64 0, .int .i64 0, .int .i64 0, .int .i64 0, .int .i64 0, .bool false, .bool false, .bool false] h219 fun (a220 : Addr) (h221 : Heap) =>
  st a220 [.int .i64 r194, .int .i64 r195, .int .i64 r196, .int .i64 r197, .int .u64 r198, .int .u64 r199, .int .u64 r200, .int .u64 r201, .int .i64 r202, .int .u64 r203, .slice r204.ptr r204.len r204.cap, .int .i64 r205, .int .u64 r206, .string r207, .string r208, .int .u64 r209, .int .u64 r210, .int .u64 r211, .int .i64 r212, .int .i64 r213, .int .i64 r214, .int .i64 r215, .bool r216, .bool r217, .bool r218] h221 fun (h222 : Heap) =>
  jn [(169, .one .bool)] (fun (x226 : Bool) (h227 : Heap) =>
  brr x226
  (Q false h227)
  (f11_ r17 h227 fun  (h228 : Heap) =>
  next188 (IntKind.i64.wrap (i189 + 1)) h228)) (fun (j223 : Bool → Heap → Prop) =>
  ld [.int .i64] (((a220.add 0).add 0).add 0) h222 fun (v224 : Int) =>
  brr (v224 != 3)
  (j223 true h222)
  (ld [.bool] (a220.add 24) h222 fun (v225 : Bool) =>
  j223 v225 h222)))
  (j187 h193)) (fun (j191 : Bool → Heap → Prop) =>
  brr (decide (i189 < left175))
  (j191 (decide (i189 < 3000)) h190)
  (j191 false h190)))
def F_law9_ReplicaKeeps_of (f11_ : Option Addr → Heap → (Heap → Prop) → Prop) (f13_ : Option Addr → Int → Int → Int → Int → Int → Int → Int → Int → Int → Int → Sl → Int → Int → ByteArray → ByteArray → Int → Int → Int → Int → Int → Int → Int → Heap → (Int → Int → Int → Int → Int → Int → Int → Int → Int → Int → Sl → Int → Int → ByteArray → ByteArray → Int → Int → Int → Int → Int → Int → Int → Bool → Bool → Bool → Heap → Prop) → Prop) (f18_ : Heap → (Bool → Heap → Prop) → Prop) (f21_ : Int → Int → Int → Sl → Int → Heap → (Option Addr → Heap → Prop) → Prop) (f22_ : Sl → Heap → (Sl → Heap → Prop) → Prop) (f23_ : Option Addr → Heap → (Int → Int → Int → Sl → Heap → Prop) → Prop) (f24_ : Int → Int → Int → Sl → Int → Sl → Option Addr → Int → Heap → (Int → Int → Int → Int → Int → Int → Int → Int → Int → Int → Sl → Int → Int → ByteArray → ByteArray → Int → Int → Int → Int → Int → Int → Int → Int → Int → Int → Int → Int → Int → Int → Int → Int → Int → Sl → Int → Int → ByteArray → ByteArray → Int → Int → Int → Int → Int → Int → Int → Bool → Bool → Bool → Heap → Prop) → Prop) (f28_ : Option Addr → Heap → (Int → Heap → Prop) → Prop) (l1 : Int) (l2 : Int) (l3 : Int) (l4 : Sl) (l5 : Int) (l6 : Sl) (ahead7 : Int) (h : Heap) (Q : Bool → Heap → Prop) : Prop :=
  al 63 [.int .u64 l1, .int .u64 l2, .int .u64 l3, .slice l4.ptr l4.len l4.cap, .int .i64 l5, .slice l6.ptr l6.len l6.cap] h fun (a8 : Addr) (h9 : Heap) =>
  ld [.int .u64] ((a8.add 0).add 0) h9 fun (v10 : Int) =>
  ld [.int .u64, .int .u64] ((a8.add 0).add 1) h9 fun (v11 : Int) (v12 : Int) =>
  ld [.sl] ((a8.add 0).add 3) h9 fun (v13 : Sl) =>
  ld [.int .i64] (a8.add 4) h9 fun (v14 : Int) =>
  f22_ v13 h9 fun (r15 : Sl) (h16 : Heap) =>
  cellsAre h16 ((a8.add 0).add 0) [.int .u64 v10] ∧
  cellsAre h16 ((a8.add 0).add 1) [.int .u64 v11, .int .u64 v12] ∧
  cellsAre h16 (a8.add 4) [.int .i64 v14] ∧
  f21_ v10 v11 v12 r15 v14 h16 fun (r17 : Option Addr) (h18 : Heap) =>
  jn [(37, .one .bool)] (fun (x22 : Bool) (h23 : Heap) =>
  brr x22
  (Q false h23)
  (ld [.int .i64] (a8.add 4) h23 fun (v24 : Int) =>
  jn [(6, .one (.int .i64))] (fun (left175 : Int) (h176 : Heap) =>
  f23_ r17 h176 fun (r177 : Int) (r178 : Int) (r179 : Int) (r180 : Sl) (h181 : Heap) =>
  al 44 [.int .u64 0, .int .u64 0, .int .u64 0, .slice none 0 0] h181 fun (a182 : Addr) (h183 : Heap) =>
  st a182 [.int .u64 r177, .int .u64 r178, .int .u64 r179, .slice r180.ptr r180.len r180.cap] h183 fun (h184 : Heap) =>
  ld [.int .u64] (a182.add 0) h184 fun (v185 : Int) =>
  (1000 : Int) ≠ 0 ∧
  ld [.int .u64] (a182.add 0) h184 fun (v186 : Int) =>
  brr (decide ((IntKind.u64.wrap ((IntKind.u64.wrap (v185 + 1)) + (ahead7.tmod 1000))) ≤ v186))
  (Q true h184)
  (jn [] (fun  (h229 : Heap) =>
  brr (decide (left175 > 3000))
  (Q true h229)
  (f13_ r17 1 0 0 0 (IntKind.u64.wrap ((IntKind.u64.wrap (v185 + 1)) + (ahead7.tmod 1000))) 0 0 0 0 0 (⟨none, 0, 0⟩ : Sl) 0 0 (⟨#[]⟩ : ByteArray) (⟨#[]⟩ : ByteArray) 0 0 0 0 0 0 0 h229 fun (r230 : Int) (r231 : Int) (r232 : Int) (r233 : Int) (r234 : Int) (r235 : Int) (r236 : Int) (r237 : Int) (r238 : Int) (r239 : Int) (r240 : Sl) (r241 : Int) (r242 : Int) (r243 : ByteArray) (r244 : ByteArray) (r245 : Int) (r246 : Int) (r247 : Int) (r248 : Int) (r249 : Int) (r250 : Int) (r251 : Int) (r252 : Bool) (r253 : Bool) (r254 : Bool) (h255 : Heap) =>
  al 49 [.int .i64 0, .int .i64 0, .int .i64 0, .int .i64 0, .int .u64 0, .int .u64 0, .int .u64 0, .int .u64 0, .int .i64 0, .int .u64 0, .slice none 0 0, .int .i64 0, .int .u64 0, .string (⟨#[]⟩ : ByteArray), .string (⟨#[]⟩ : ByteArray), .int .u64 0, .int .u64 0, .int .u64 0, .int .i64 0, .int .i64 0, .int .i64 0, .int .i64 0, .bool false, .bool false, .bool false] h255 fun (a256 : Addr) (h257 : Heap) =>
  st a256 [.int .i64 r230, .int .i64 r231, .int .i64 r232, .int .i64 r233, .int .u64 r234, .int .u64 r235, .int .u64 r236, .int .u64 r237, .int .i64 r238, .int .u64 r239, .slice r240.ptr r240.len r240.cap, .int .i64 r241, .int .u64 r242, .string r243, .string r244, .int .u64 r245, .int .u64 r246, .int .u64 r247, .int .i64 r248, .int .i64 r249, .int .i64 r250, .int .i64 r251, .bool r252, .bool r253, .bool r254] h257 fun (h258 : Heap) =>
  jn [(4, .one .bool)] (fun (x267 : Bool) (h268 : Heap) =>
  Q x267 h268) (fun (j259 : Bool → Heap → Prop) =>
  ld [.int .i64] (((a256.add 0).add 0).add 0) h258 fun (v260 : Int) =>
  brr (v260 == 2)
  (ld [.int .u64] ((a256.add 0).add 4) h258 fun (v261 : Int) =>
  brr (v261 == (IntKind.u64.wrap ((IntKind.u64.wrap (v185 + 1)) + (ahead7.tmod 1000))))
  (ld [.int .u64, .int .u64] ((a256.add 0).add 5) h258 fun (v262 : Int) (v263 : Int) =>
  ld [.int .u64, .int .u64] (a182.add 1) h258 fun (v264 : Int) (v265 : Int) =>
  brr ((v262 == v264) && ((v263 == v265) && (true)))
  (ld [.bool] (a256.add 24) h258 fun (v266 : Bool) =>
  j259 v266 h258)
  (j259 false h258))
  (j259 false h258))
  (j259 false h258)))) (fun (j187 : Heap → Prop) =>
  F_law9_ReplicaKeeps.l2 f11_ f13_ ahead7 Q r17 left175 v185 j187 0 h184))) (fun (j25 : Int → Heap → Prop) =>
  F_law9_ReplicaKeeps.l1 f23_ f24_ f28_ Q a8 r17 j25 (if (0 : Int) > v24 then 0 else v24) 0 h23))) (fun (j19 : Bool → Heap → Prop) =>
  brr r17.isNone
  (j19 true h18)
  (f18_ h18 fun (r20 : Bool) (h21 : Heap) =>
  j19 (!r20) h21))
def F_law9_ReplicaKeeps (l1 : Int) (l2 : Int) (l3 : Int) (l4 : Sl) (l5 : Int) (l6 : Sl) (ahead7 : Int) (h : Heap) (Q : Bool → Heap → Prop) : Prop := F_law9_ReplicaKeeps_of F_replica_Replica_Tick F_replica_Replica_Hear F_law9_lives F_replica_Load F_ref0_Copy F_replica_Replica_Stored F_law9_Life_at F_replica_Replica_Wait l1 l2 l3 l4 l5 l6 ahead7 h Q
def plan7 : Plan := .s (.r [1, 2]) (.s (.d [0, 1, 3, 0, 8, 24, 0, 64, 192, 448, 1023, 0, 2048, 8191, 16383] [[0, 1, 2, 3, 4, 5, 6, 7, 8, 11, 12, 9, 10, 13, 14]] [1, 2, 5]) (.s (.s (.rj [(37, .one .bool)] [1, 2, 5]) (.c (.s (.r [4]) .z) .z)) (.s (.r [1, 2, 5, 6]) (.s (.s (.r [1, 2, 5, 6, 7]) (.bj [(6, .one (.int .i64))] [1, 5] (.l [(6, .one (.int .i64)), (7, .one (.int .i64))] [1, 2, 5] (.s (.s (.rj [(49, .one .bool)] [1, 2, 5, 6, 7]) (.c .z .z)) (.s (.b (.s (.r [1, 2, 5, 6, 7, 8]) (.s (.r [1, 2, 5, 6, 7, 8, 9]) (.s (.r [1, 2, 5, 6, 7, 8, 9, 10, 11]) (.s (.s (.rj [(72, .one .bool)] [1, 2, 5, 6, 7, 8, 9, 10, 11]) (.cj [(6, .one (.int .i64))] [1, 2, 5, 7, 8, 9, 10, 11] (.r [1, 2, 5, 6, 7, 8, 9, 10, 11]) .z)) (.s (.s (.r [1, 2, 5, 6, 7, 8, 9, 10, 11, 76]) (.cj [(6, .one (.int .i64))] [1, 2, 5, 7, 8, 9, 10, 11] (.r [1, 2, 5, 6, 7, 8, 9, 10, 11]) .z)) (.s (.s (.rj [(88, .one .bool)] [1, 2, 5, 6, 7, 9, 10, 11]) (.cj [] [1, 2, 5, 6, 7] (.s (.rj [(12, .one .bool)] [1, 2, 5, 6, 7, 9, 11]) (.s (.s (.rj [(120, .one .bool)] [1, 2, 5, 6, 7, 9, 11, 12]) (.c (.s (.r [4]) .z) .z)) (.s (.rj [(130, .one .bool)] [1, 2, 5, 6, 7]) (.c (.s (.r [4]) .z) .z)))) .z)) (.s (.r [1, 2, 5, 6, 7, 134]) (.c (.s (.r [4]) .z) .z))))))))) (.r [1, 2, 5, 6, 7])))))) (.s (.r [1, 5, 6, 13]) (.s (.r [5, 6, 13, 14]) (.s (.s (.r [5, 6, 13, 14, 146]) (.c (.s (.r [4]) .z) .z)) (.s (.s (.r [5, 6, 13, 14, 15]) (.bj [] [5, 6, 13, 14] (.l [(15, .one (.int .i64))] [5, 6, 13, 14] (.s (.s (.rj [(153, .one .bool)] [5, 6, 13, 14, 15]) (.c .z .z)) (.s (.b (.s (.r [5, 6, 13, 14, 15, 16]) (.s (.s (.rj [(169, .one .bool)] [5, 6, 13, 14, 15]) (.c (.s (.r [4]) .z) .z)) (.r [5, 6, 13, 14, 15])))) (.r [5, 6, 13, 14, 15])))))) (.s (.s (.r [5, 13, 14, 173]) (.c (.s (.r [4]) .z) .z)) (.s (.r [13, 14, 17]) (.s (.rj [(4, .one .bool)] []) .z)))))))))))
theorem F_law9_ReplicaKeeps.eq (f11_ : Option Addr → Heap → (Heap → Prop) → Prop) (f13_ : Option Addr → Int → Int → Int → Int → Int → Int → Int → Int → Int → Int → Sl → Int → Int → ByteArray → ByteArray → Int → Int → Int → Int → Int → Int → Int → Heap → (Int → Int → Int → Int → Int → Int → Int → Int → Int → Int → Sl → Int → Int → ByteArray → ByteArray → Int → Int → Int → Int → Int → Int → Int → Bool → Bool → Bool → Heap → Prop) → Prop) (f18_ : Heap → (Bool → Heap → Prop) → Prop) (f21_ : Int → Int → Int → Sl → Int → Heap → (Option Addr → Heap → Prop) → Prop) (f22_ : Sl → Heap → (Sl → Heap → Prop) → Prop) (f23_ : Option Addr → Heap → (Int → Int → Int → Sl → Heap → Prop) → Prop) (f24_ : Int → Int → Int → Sl → Int → Sl → Option Addr → Int → Heap → (Int → Int → Int → Int → Int → Int → Int → Int → Int → Int → Sl → Int → Int → ByteArray → ByteArray → Int → Int → Int → Int → Int → Int → Int → Int → Int → Int → Int → Int → Int → Int → Int → Int → Int → Sl → Int → Int → ByteArray → ByteArray → Int → Int → Int → Int → Int → Int → Int → Bool → Bool → Bool → Heap → Prop) → Prop) (f28_ : Option Addr → Heap → (Int → Heap → Prop) → Prop) (l1 : Int) (l2 : Int) (l3 : Int) (l4 : Sl) (l5 : Int) (l6 : Sl) (ahead7 : Int) (h : Heap) (K : Value → Heap → Prop) : F_law9_ReplicaKeeps_of f11_ f13_ f18_ f21_ f22_ f23_ f24_ f28_ l1 l2 l3 l4 l5 l6 ahead7 h (fun (r0 : Bool) (h : Heap) => K (.bool r0) h) =
    den Try.prog (fn1 11 (E_replica_Replica_Tick_of f11_) (fn1 13 (E_replica_Replica_Hear_of f13_) (fn1 18 (E_law9_lives_of f18_) (fn1 21 (E_replica_Load_of f21_) (fn1 22 (E_ref0_Copy_of f22_) (fn1 23 (E_replica_Replica_Stored_of f23_) (fn1 24 (E_law9_Life_at_of f24_) (fn1 28 (E_replica_Replica_Wait_of f28_) noFns)))))))) Try.f7.ntmps plan7 (bodyOf Try.f7) (args0 0 [(.agg #[.int .u64 l1, .int .u64 l2, .int .u64 l3, .slice l4.ptr l4.len l4.cap, .int .i64 l5, .slice l6.ptr l6.len l6.cap] : Value), (.int .u64 ahead7 : Value)]) h ⟨fun env h => dRes Try.prog Try.f7.results.toList env h K, fun _ _ _ => False, fun env h => dRes Try.prog Try.f7.results.toList env h K⟩ := by kernel_rfl
def E_law9_ReplicaKeeps_of (f : Int → Int → Int → Sl → Int → Sl → Int → Heap → (Bool → Heap → Prop) → Prop) : List Value → Heap → (Value → Heap → Prop) → Prop
  | [v0, v1], h, K => vAgg v0 fun cs0 => decs [.int .u64, .int .u64, .int .u64, .sl, .int .i64, .sl] cs0.toList fun (l1 : Int) (l2 : Int) (l3 : Int) (l4 : Sl) (l5 : Int) (l6 : Sl) =>
  dec1 (.int .u64) v1 fun (ahead7 : Int) =>
  f l1 l2 l3 l4 l5 l6 ahead7 h (fun (r0 : Bool) (h : Heap) => K (.bool r0) h)
  | _, _, _ => False
abbrev E_law9_ReplicaKeeps := E_law9_ReplicaKeeps_of F_law9_ReplicaKeeps
theorem E_law9_ReplicaKeeps.at (f : Int → Int → Int → Sl → Int → Sl → Int → Heap → (Bool → Heap → Prop) → Prop) (l1 : Int) (l2 : Int) (l3 : Int) (l4 : Sl) (l5 : Int) (l6 : Sl) (ahead7 : Int) (h : Heap) (K : Value → Heap → Prop) : E_law9_ReplicaKeeps_of f [.agg ([.int .u64 l1, .int .u64 l2, .int .u64 l3, .slice l4.ptr l4.len l4.cap, .int .i64 l5, .slice l6.ptr l6.len l6.cap] : List Value).toArray, .int .u64 ahead7] h K = f l1 l2 l3 l4 l5 l6 ahead7 h (fun (r0 : Bool) (h : Heap) => K (.bool r0) h) := rfl
theorem E_law9_ReplicaKeeps.right : IsRight Try.prog 7 E_law9_ReplicaKeeps := by
  refine isRight fun vs K w hh => ?_
  match vs, hh with
  | [v0, v1], hh =>
    unfold E_law9_ReplicaKeeps E_law9_ReplicaKeeps_of at hh
    replace hh := vAgg_sound hh; obtain ⟨cs0, rfl, hh⟩ := hh
    replace hh := decs_cons hh; obtain ⟨l1, l0_0, e0_0, hh⟩ := hh
    replace hh := decs_cons hh; obtain ⟨l2, l0_1, e0_1, hh⟩ := hh
    replace hh := decs_cons hh; obtain ⟨l3, l0_2, e0_2, hh⟩ := hh
    replace hh := decs_cons hh; obtain ⟨l4, l0_3, e0_3, hh⟩ := hh
    replace hh := decs_cons hh; obtain ⟨l5, l0_4, e0_4, hh⟩ := hh
    replace hh := decs_cons hh; obtain ⟨l6, l0_5, e0_5, hh⟩ := hh
    replace hh := decs_nil hh; obtain ⟨rfl, hh⟩ := hh
    subst e0_5
    subst e0_4
    subst e0_3
    subst e0_2
    subst e0_1
    have ec0 := toArray_eq e0_0
    subst ec0
    replace hh := dec1_sound hh; obtain ⟨ahead7, rfl, hh⟩ := hh
    unfold F_law9_ReplicaKeeps at hh
    exact calls_den (fn1_right ok11 E_replica_Replica_Tick.right (fn1_right ok13 E_replica_Replica_Hear.right (fn1_right ok18 E_law9_lives.right (fn1_right ok21 E_replica_Load.right (fn1_right ok22 E_ref0_Copy.right (fn1_right ok23 E_replica_Replica_Stored.right (fn1_right ok24 E_law9_Life_at.right (fn1_right ok28 E_replica_Replica_Wait.right noFns_right)))))))) plan7 _ w K Try.func7 (by kernel_rfl) (by kernel_rfl) (Eq.mp (F_law9_ReplicaKeeps.eq F_replica_Replica_Tick F_replica_Replica_Hear F_law9_lives F_replica_Load F_ref0_Copy F_replica_Replica_Stored F_law9_Life_at F_replica_Replica_Wait l1 l2 l3 l4 l5 l6 ahead7 w.heap K) hh)
theorem ok7 : okFn Try.prog 7 = true := by kernel_rfl
end Go.Proofs.Ytcbelendjpnmiaa.V
/- For how long a replica keeps others out: what ReplicaKeeps plays. -/
namespace Go.Proofs.Ytcbelendjpnmiaa.V
open Go Go.RowKit
set_option linter.unusedVariables false
set_option linter.unusedSimpArgs false
theorem act_wait (r : RS) (m : Mg) : (act r m).1.wait = if (act r m).2.tak then spanOf m.span else r.wait := by
  unfold act
  split
  · unfold prep; split <;> rfl
  split
  · unfold writ; split
    · rfl
    split
    · rfl
    split
    · rfl
    · rfl
  split
  · unfold beats; split <;> rfl
  · rfl
theorem seal_tak {d : HD} {m : Mg} : (d.seal m).tak = d.tak := by unfold HD.seal; split <;> rfl
theorem seal_kind {d : HD} {m : Mg} : (d.seal m).kind = d.kind := by unfold HD.seal; split <;> rfl
theorem seal_seen {d : HD} {m : Mg} : (d.seal m).seen = d.seen := by unfold HD.seal; split <;> rfl
theorem keeps_left {r : RS} {o : ROp} (ok : r.Ok) : (if (lifeD r o).tak then spanOf (lifeM o).span else if o.do_ = 2 ∧ 0 < r.wait then r.wait - 1 else r.wait) = (lifeS r o).wait := by
  have h0 := ok.w0
  unfold lifeD lifeM lifeS
  by_cases h1 : o.do_ = 1
  · simp only [if_pos h1]
    rw [if_neg (show ¬ (o.do_ = 2 ∧ 0 < r.wait) by omega)]
    show (if ((act r o.m).2.seal o.m).tak then spanOf o.m.span else r.wait) = (act r o.m).1.wait
    rw [seal_tak, act_wait]
  · simp only [if_neg h1]
    rw [if_neg (by simp [hd0])]
    by_cases h2 : o.do_ = 2
    · rw [if_pos h2]
      show _ = (if r.wait = 0 then 0 else r.wait - 1)
      split <;> split <;> omega
    · rw [if_neg h2, if_neg (show ¬ (o.do_ = 2 ∧ 0 < r.wait) by omega)]
      split <;> rfl
theorem keeps_prep {r : RS} {m : Mg} (hk : m.kind = 1) (ok : r.Ok) : (hearS r m).1.wait = r.wait ∧ ((m.epoch = r.prom ∨ (r.prom < m.epoch ∧ r.wait = 0)) → (hearS r m).2.kind = 2 ∧ (hearS r m).2.epoch = m.epoch ∧ (hearS r m).2.te = r.te ∧ (hearS r m).2.ts = r.ts ∧ (hearS r m).2.chg = (r.prom != m.epoch)) ∧ (¬ (m.epoch = r.prom ∨ (r.prom < m.epoch ∧ r.wait = 0)) → (hearS r m).2.kind = 3 ∧ (hearS r m).2.seen = r.prom ∧ (hearS r m).2.chg = false ∧ (hearS r m).1 = r) := by
  have h0 := ok.w0
  have e : act r m = prep r m := by unfold act; rw [if_pos hk]
  unfold hearS
  rw [e]
  unfold prep
  by_cases hc : m.epoch < r.prom ∨ (r.prom < m.epoch ∧ 0 < r.wait)
  · simp only [if_pos hc]
    refine ⟨by trivial, fun q => by omega, fun _ => ⟨?_, ?_, ?_, by trivial⟩⟩
    · rw [seal_kind]; rfl
    · rw [seal_seen]; rfl
    · unfold HD.seal; split <;> rfl
  · simp only [if_neg hc]
    refine ⟨by trivial, fun _ => ?_, fun q => by omega⟩
    unfold HD.seal
    rw [if_neg (by show ¬ ((2 : Int) = 0); decide)]
    exact ⟨rfl, rfl, rfl, rfl, rfl⟩
theorem replicaKeeps_main (H : Heap) (cs : List Value) (n : Int) (hn0 : 0 ≤ n) (F : Fit H 140737488351232 tyLife cs) : E_law9_ReplicaKeeps [.agg cs.toArray, .int .u64 n] H (fun r h' => r = .bool true ∧ KeptH H h') := by
  replace F := Fit.g F
  obtain ⟨t1, _, rfl, t1a, t1b, F⟩ := Fit.i F
  replace F := Fit.g F
  replace F := Fit.g F
  obtain ⟨t2, _, rfl, t2a, t2b, F⟩ := Fit.i F
  replace F := Fit.g F
  obtain ⟨t3, _, rfl, t3a, t3b, F⟩ := Fit.i F
  replace F := Fit.z F
  replace F := Fit.g F
  obtain ⟨t4, _, rfl, t4S, F⟩ := Fit.s F
  replace F := Fit.z F
  obtain ⟨t5, _, rfl, t5a, t5b, F⟩ := Fit.i F
  obtain ⟨t6, _, rfl, t6S, F⟩ := Fit.s F
  obtain rfl := Fit.e F
  refine Eq.mpr (E_law9_ReplicaKeeps.at F_law9_ReplicaKeeps t1 t2 t3 t4 t5 t6 n H _) ?_
  obtain ⟨ops, Vo⟩ := t6S.rops
  obtain ⟨_, b2, lv, Vl⟩ := t4S.bytes
  have hlv := Vl.len
  rw [i64_max] at t5b
  rw [F_law9_ReplicaKeeps.eq_1, F_law9_ReplicaKeeps_of.eq_1]
  refine Sat.al (Sat.nil H) fun x7 h1 O => ?_
  repeat (first
    | (with_reducible refine al_id ?_); refine O.al fun _ h O => ?_
    | (with_reducible refine nn_id ?_); refine ⟨_, rfl, ?_⟩
    | (with_reducible refine ld_id ?_); (first | refine O.ld 0 rfl ?_); (repeat (first | (with_reducible refine ldL_n ?_) | refine ldL_s ?_ | refine ldL_c ?_))
    | (with_reducible refine st_ad (by first | (with_reducible rfl) | (simp only [pt_add, Nat.zero_add, Nat.add_zero, Nat.reduceAdd]; with_reducible rfl)) ?_); (first | refine O.st 0 rfl (by simp) rfl fun h O => ?_); (dsimp only [V.put, List.set, List.length_cons, List.length_nil] at O)
    | (with_reducible refine ca_id ?_); (first | refine ⟨cellsAre_blk (O.blk (i := 0) (by simp) rfl).2 _ 1, ?_⟩ | refine ⟨cellsAre_blk (O.blk (i := 0) (by simp) rfl).2 _ 2, ?_⟩))
  refine F_ref0_Copy.is O (Vl.kept O.kept) (by omega) fun s h O _ _ => ?_
  repeat (first
    | (with_reducible refine al_id ?_); refine O.al fun _ h O => ?_
    | (with_reducible refine nn_id ?_); refine ⟨_, rfl, ?_⟩
    | (with_reducible refine ld_id ?_); (first | refine O.ld 0 rfl ?_ | refine O.ld 1 rfl ?_); (repeat (first | (with_reducible refine ldL_n ?_) | refine ldL_s ?_ | refine ldL_c ?_))
    | (with_reducible refine st_ad (by first | (with_reducible rfl) | (simp only [pt_add, Nat.zero_add, Nat.add_zero, Nat.reduceAdd]; with_reducible rfl)) ?_); (first | refine O.st 0 rfl (by simp) rfl fun h O => ?_ | refine O.st 1 rfl (by simp) rfl fun h O => ?_); (dsimp only [V.put, List.set, List.length_cons, List.length_nil] at O)
    | (with_reducible refine ca_id ?_); (first | refine ⟨cellsAre_blk (O.blk (i := 0) (by simp) rfl).2 _ 1, ?_⟩ | refine ⟨cellsAre_blk (O.blk (i := 0) (by simp) rfl).2 _ 2, ?_⟩ | refine ⟨cellsAre_blk (O.blk (i := 1) (by simp) rfl).2 _ 1, ?_⟩ | refine ⟨cellsAre_blk (O.blk (i := 1) (by simp) rfl).2 _ 2, ?_⟩))
  refine F_replica_Load.is O (fun h O => (O.view 0 u8_len (by simp) rfl).1) (by omega) fun p h O => ?_
  have O := O.sel [0, 2] 3 rfl (Nat.le_add_left _ _)
  have start : ∃ r : RS, r.Ok ∧ r.wait = spanOf t5 ∧ Sat H h [repR p r, own x7 [.int .u64 t1, .int .u64 t2, .int .u64 t3, .slice t4.ptr t4.len t4.cap, .int .i64 t5, .slice t6.ptr t6.len t6.cap]] :=
    ⟨_, ⟨by show lv.length ≤ _; omega, (spanOf_ok t5b).1, (spanOf_ok t5b).2⟩, rfl, O⟩
  clear O
  obtain ⟨r, ok, hw, O⟩ := start
  refine jn1 (fun z h' => z = false ∧ Sat H h' [repR p r, own x7 [.int .u64 t1, .int .u64 t2, .int .u64 t3, .slice t4.ptr t4.len t4.cap, .int .i64 t5, .slice t6.ptr t6.len t6.cap]]) ?_ ?_
  case refine_2 =>
    intro j hj
    refine brr_ff rfl ?_
    refine F_law9_lives.is O fun h O => ?_
    exact hj _ _ ⟨rfl, O⟩
  clear O
  rintro z h ⟨rfl, O⟩
  refine brr_ff rfl ?_
  repeat (first
    | (with_reducible refine al_id ?_); refine O.al fun _ h O => ?_
    | (with_reducible refine nn_id ?_); refine ⟨_, rfl, ?_⟩
    | (with_reducible refine ld_id ?_); (first | refine O.ld 0 rfl ?_ | refine O.ld 1 rfl ?_); (repeat (first | (with_reducible refine ldL_n ?_) | refine ldL_s ?_ | refine ldL_c ?_))
    | (with_reducible refine st_ad (by first | (with_reducible rfl) | (simp only [pt_add, Nat.zero_add, Nat.add_zero, Nat.reduceAdd]; with_reducible rfl)) ?_); (first | refine O.st 0 rfl (by simp) rfl fun h O => ?_ | refine O.st 1 rfl (by simp) rfl fun h O => ?_); (dsimp only [V.put, List.set, List.length_cons, List.length_nil] at O)
    | (with_reducible refine ca_id ?_); (first | refine ⟨cellsAre_blk (O.blk (i := 0) (by simp) rfl).2 _ 1, ?_⟩ | refine ⟨cellsAre_blk (O.blk (i := 0) (by simp) rfl).2 _ 2, ?_⟩ | refine ⟨cellsAre_blk (O.blk (i := 1) (by simp) rfl).2 _ 1, ?_⟩ | refine ⟨cellsAre_blk (O.blk (i := 1) (by simp) rfl).2 _ 2, ?_⟩))
  rw [show (if (0 : Int) > t5 then 0 else t5) = r.wait from hw.symm]
  refine jn1 (fun (l : Int) h' => ∃ r : RS, r.Ok ∧ l = r.wait ∧ Sat H h' [repR p r]) ?_ ?_
  · clear O ok hw r
    rintro (l : Int) h ⟨r, ok, rfl, O⟩
    refine F_replica_Replica_Stored.is ok O fun s h O => ?_
    refine O.al fun x182 h O => ?_
    repeat (first
      | (with_reducible refine al_id ?_); refine O.al fun _ h O => ?_
      | (with_reducible refine nn_id ?_); refine ⟨_, rfl, ?_⟩
      | (with_reducible refine ld_id ?_); (first | refine O.ld 0 rfl ?_ | refine O.ld 1 rfl ?_ | refine O.ld 2 rfl ?_); (repeat (first | (with_reducible refine ldL_n ?_) | refine ldL_s ?_ | refine ldL_c ?_))
      | (with_reducible refine st_ad (by first | (with_reducible rfl) | (simp only [pt_add, Nat.zero_add, Nat.add_zero, Nat.reduceAdd]; with_reducible rfl)) ?_); (first | refine O.st 0 rfl (by simp) rfl fun h O => ?_ | refine O.st 1 rfl (by simp) rfl fun h O => ?_ | refine O.st 2 rfl (by simp) rfl fun h O => ?_); (dsimp only [V.put, List.set, List.length_cons, List.length_nil] at O)
      | (with_reducible refine ca_id ?_); (first | refine ⟨cellsAre_blk (O.blk (i := 0) (by simp) rfl).2 _ 1, ?_⟩ | refine ⟨cellsAre_blk (O.blk (i := 0) (by simp) rfl).2 _ 2, ?_⟩ | refine ⟨cellsAre_blk (O.blk (i := 1) (by simp) rfl).2 _ 1, ?_⟩ | refine ⟨cellsAre_blk (O.blk (i := 1) (by simp) rfl).2 _ 2, ?_⟩ | refine ⟨cellsAre_blk (O.blk (i := 2) (by simp) rfl).2 _ 1, ?_⟩ | refine ⟨cellsAre_blk (O.blk (i := 2) (by simp) rfl).2 _ 2, ?_⟩))
    refine ⟨by decide, ?_⟩
    repeat (first
      | (with_reducible refine al_id ?_); refine O.al fun _ h O => ?_
      | (with_reducible refine nn_id ?_); refine ⟨_, rfl, ?_⟩
      | (with_reducible refine ld_id ?_); (first | refine O.ld 0 rfl ?_ | refine O.ld 1 rfl ?_ | refine O.ld 2 rfl ?_); (repeat (first | (with_reducible refine ldL_n ?_) | refine ldL_s ?_ | refine ldL_c ?_))
      | (with_reducible refine st_ad (by first | (with_reducible rfl) | (simp only [pt_add, Nat.zero_add, Nat.add_zero, Nat.reduceAdd]; with_reducible rfl)) ?_); (first | refine O.st 0 rfl (by simp) rfl fun h O => ?_ | refine O.st 1 rfl (by simp) rfl fun h O => ?_ | refine O.st 2 rfl (by simp) rfl fun h O => ?_); (dsimp only [V.put, List.set, List.length_cons, List.length_nil] at O)
      | (with_reducible refine ca_id ?_); (first | refine ⟨cellsAre_blk (O.blk (i := 0) (by simp) rfl).2 _ 1, ?_⟩ | refine ⟨cellsAre_blk (O.blk (i := 0) (by simp) rfl).2 _ 2, ?_⟩ | refine ⟨cellsAre_blk (O.blk (i := 1) (by simp) rfl).2 _ 1, ?_⟩ | refine ⟨cellsAre_blk (O.blk (i := 1) (by simp) rfl).2 _ 2, ?_⟩ | refine ⟨cellsAre_blk (O.blk (i := 2) (by simp) rfl).2 _ 1, ?_⟩ | refine ⟨cellsAre_blk (O.blk (i := 2) (by simp) rfl).2 _ 2, ?_⟩))
    generalize hnx : IntKind.u64.wrap (IntKind.u64.wrap (r.prom + 1) + n.tmod 1000) = nx
    refine brr_p (fun hc => ⟨rfl, O.kept⟩) (fun hc => ?_)
    have hw1 := ok.w1
    have hw0 := ok.w0
    have okw : ∀ w : Int, 0 ≤ w → w ≤ r.wait → RS.Ok { r with wait := w } := fun w a b => ⟨ok.v, a, Int.le_trans b hw1⟩
    refine jn0 (fun h' => ∃ w : Int, 0 ≤ w ∧ w ≤ r.wait ∧ (r.wait ≤ 3000 → w = 0) ∧ Sat H h' [repR p { r with wait := w }, own x182 [.int .u64 r.prom, .int .u64 r.te, .int .u64 r.ts, .slice s.ptr s.len s.cap]]) ?_ ?_
    · clear O
      rintro h ⟨w, wa, wb, wz, O⟩
      refine brr_p (fun hg => ⟨rfl, O.kept⟩) (fun hg => ?_)
      have hz := wz (by omega)
      subst hz
      have ok0 := okw 0 wa wb
      refine F_replica_Replica_Hear.is (m := { mg0 with kind := 1, epoch := nx }) ok0 (fun h O => View.nil (p := none) (c := 0)) (by simp [mg0]) O fun s1 h O => ?_
      obtain ⟨_, kp, _⟩ := keeps_prep (r := { r with wait := 0 }) (m := { mg0 with kind := 1, epoch := nx }) rfl ok0
      obtain ⟨k1, k2, k3, k4, k5⟩ := kp (.inr ⟨by show r.prom < nx; omega, rfl⟩)
      rw [k1, k2, k3, k4, k5]
      refine O.al fun x256 h O => ?_
      refine O.st 0 rfl (by simp) rfl fun h O => ?_
      dsimp only [V.put, List.set] at O
      refine jn1 (fun z h' => z = true ∧ h' = h) ?_ ?_
      · rintro z h ⟨rfl, rfl⟩
        exact ⟨rfl, O.kept⟩
      · intro j hj
        repeat (first
          | (with_reducible refine al_id ?_); refine O.al fun _ h O => ?_
          | (with_reducible refine nn_id ?_); refine ⟨_, rfl, ?_⟩
          | (with_reducible refine ld_id ?_); (first | refine O.ld 0 rfl ?_ | refine O.ld 1 rfl ?_ | refine O.ld 2 rfl ?_ | refine O.ld 3 rfl ?_); (repeat (first | (with_reducible refine ldL_n ?_) | refine ldL_s ?_ | refine ldL_c ?_))
          | (with_reducible refine st_ad (by first | (with_reducible rfl) | (simp only [pt_add, Nat.zero_add, Nat.add_zero, Nat.reduceAdd]; with_reducible rfl)) ?_); (first | refine O.st 0 rfl (by simp) rfl fun h O => ?_ | refine O.st 1 rfl (by simp) rfl fun h O => ?_ | refine O.st 2 rfl (by simp) rfl fun h O => ?_ | refine O.st 3 rfl (by simp) rfl fun h O => ?_); (dsimp only [V.put, List.set, List.length_cons, List.length_nil] at O)
          | (with_reducible refine ca_id ?_); (first | refine ⟨cellsAre_blk (O.blk (i := 0) (by simp) rfl).2 _ 1, ?_⟩ | refine ⟨cellsAre_blk (O.blk (i := 0) (by simp) rfl).2 _ 2, ?_⟩ | refine ⟨cellsAre_blk (O.blk (i := 1) (by simp) rfl).2 _ 1, ?_⟩ | refine ⟨cellsAre_blk (O.blk (i := 1) (by simp) rfl).2 _ 2, ?_⟩ | refine ⟨cellsAre_blk (O.blk (i := 2) (by simp) rfl).2 _ 1, ?_⟩ | refine ⟨cellsAre_blk (O.blk (i := 2) (by simp) rfl).2 _ 2, ?_⟩ | refine ⟨cellsAre_blk (O.blk (i := 3) (by simp) rfl).2 _ 1, ?_⟩ | refine ⟨cellsAre_blk (O.blk (i := 3) (by simp) rfl).2 _ 2, ?_⟩))
        refine brr_tt rfl ?_
        repeat (first
          | (with_reducible refine al_id ?_); refine O.al fun _ h O => ?_
          | (with_reducible refine nn_id ?_); refine ⟨_, rfl, ?_⟩
          | (with_reducible refine ld_id ?_); (first | refine O.ld 0 rfl ?_ | refine O.ld 1 rfl ?_ | refine O.ld 2 rfl ?_ | refine O.ld 3 rfl ?_); (repeat (first | (with_reducible refine ldL_n ?_) | refine ldL_s ?_ | refine ldL_c ?_))
          | (with_reducible refine st_ad (by first | (with_reducible rfl) | (simp only [pt_add, Nat.zero_add, Nat.add_zero, Nat.reduceAdd]; with_reducible rfl)) ?_); (first | refine O.st 0 rfl (by simp) rfl fun h O => ?_ | refine O.st 1 rfl (by simp) rfl fun h O => ?_ | refine O.st 2 rfl (by simp) rfl fun h O => ?_ | refine O.st 3 rfl (by simp) rfl fun h O => ?_); (dsimp only [V.put, List.set, List.length_cons, List.length_nil] at O)
          | (with_reducible refine ca_id ?_); (first | refine ⟨cellsAre_blk (O.blk (i := 0) (by simp) rfl).2 _ 1, ?_⟩ | refine ⟨cellsAre_blk (O.blk (i := 0) (by simp) rfl).2 _ 2, ?_⟩ | refine ⟨cellsAre_blk (O.blk (i := 1) (by simp) rfl).2 _ 1, ?_⟩ | refine ⟨cellsAre_blk (O.blk (i := 1) (by simp) rfl).2 _ 2, ?_⟩ | refine ⟨cellsAre_blk (O.blk (i := 2) (by simp) rfl).2 _ 1, ?_⟩ | refine ⟨cellsAre_blk (O.blk (i := 2) (by simp) rfl).2 _ 2, ?_⟩ | refine ⟨cellsAre_blk (O.blk (i := 3) (by simp) rfl).2 _ 1, ?_⟩ | refine ⟨cellsAre_blk (O.blk (i := 3) (by simp) rfl).2 _ 2, ?_⟩))
        refine brr_tt (by simp) ?_
        repeat (first
          | (with_reducible refine al_id ?_); refine O.al fun _ h O => ?_
          | (with_reducible refine nn_id ?_); refine ⟨_, rfl, ?_⟩
          | (with_reducible refine ld_id ?_); (first | refine O.ld 0 rfl ?_ | refine O.ld 1 rfl ?_ | refine O.ld 2 rfl ?_ | refine O.ld 3 rfl ?_); (repeat (first | (with_reducible refine ldL_n ?_) | refine ldL_s ?_ | refine ldL_c ?_))
          | (with_reducible refine st_ad (by first | (with_reducible rfl) | (simp only [pt_add, Nat.zero_add, Nat.add_zero, Nat.reduceAdd]; with_reducible rfl)) ?_); (first | refine O.st 0 rfl (by simp) rfl fun h O => ?_ | refine O.st 1 rfl (by simp) rfl fun h O => ?_ | refine O.st 2 rfl (by simp) rfl fun h O => ?_ | refine O.st 3 rfl (by simp) rfl fun h O => ?_); (dsimp only [V.put, List.set, List.length_cons, List.length_nil] at O)
          | (with_reducible refine ca_id ?_); (first | refine ⟨cellsAre_blk (O.blk (i := 0) (by simp) rfl).2 _ 1, ?_⟩ | refine ⟨cellsAre_blk (O.blk (i := 0) (by simp) rfl).2 _ 2, ?_⟩ | refine ⟨cellsAre_blk (O.blk (i := 1) (by simp) rfl).2 _ 1, ?_⟩ | refine ⟨cellsAre_blk (O.blk (i := 1) (by simp) rfl).2 _ 2, ?_⟩ | refine ⟨cellsAre_blk (O.blk (i := 2) (by simp) rfl).2 _ 1, ?_⟩ | refine ⟨cellsAre_blk (O.blk (i := 2) (by simp) rfl).2 _ 2, ?_⟩ | refine ⟨cellsAre_blk (O.blk (i := 3) (by simp) rfl).2 _ 1, ?_⟩ | refine ⟨cellsAre_blk (O.blk (i := 3) (by simp) rfl).2 _ 2, ?_⟩))
        refine brr_tt (by simp) ?_
        repeat (first
          | (with_reducible refine al_id ?_); refine O.al fun _ h O => ?_
          | (with_reducible refine nn_id ?_); refine ⟨_, rfl, ?_⟩
          | (with_reducible refine ld_id ?_); (first | refine O.ld 0 rfl ?_ | refine O.ld 1 rfl ?_ | refine O.ld 2 rfl ?_ | refine O.ld 3 rfl ?_); (repeat (first | (with_reducible refine ldL_n ?_) | refine ldL_s ?_ | refine ldL_c ?_))
          | (with_reducible refine st_ad (by first | (with_reducible rfl) | (simp only [pt_add, Nat.zero_add, Nat.add_zero, Nat.reduceAdd]; with_reducible rfl)) ?_); (first | refine O.st 0 rfl (by simp) rfl fun h O => ?_ | refine O.st 1 rfl (by simp) rfl fun h O => ?_ | refine O.st 2 rfl (by simp) rfl fun h O => ?_ | refine O.st 3 rfl (by simp) rfl fun h O => ?_); (dsimp only [V.put, List.set, List.length_cons, List.length_nil] at O)
          | (with_reducible refine ca_id ?_); (first | refine ⟨cellsAre_blk (O.blk (i := 0) (by simp) rfl).2 _ 1, ?_⟩ | refine ⟨cellsAre_blk (O.blk (i := 0) (by simp) rfl).2 _ 2, ?_⟩ | refine ⟨cellsAre_blk (O.blk (i := 1) (by simp) rfl).2 _ 1, ?_⟩ | refine ⟨cellsAre_blk (O.blk (i := 1) (by simp) rfl).2 _ 2, ?_⟩ | refine ⟨cellsAre_blk (O.blk (i := 2) (by simp) rfl).2 _ 1, ?_⟩ | refine ⟨cellsAre_blk (O.blk (i := 2) (by simp) rfl).2 _ 2, ?_⟩ | refine ⟨cellsAre_blk (O.blk (i := 3) (by simp) rfl).2 _ 1, ?_⟩ | refine ⟨cellsAre_blk (O.blk (i := 3) (by simp) rfl).2 _ 2, ?_⟩))
        exact hj _ _ ⟨by simp; omega, rfl⟩
    · intro j187 hj187
      rw [F_law9_ReplicaKeeps.l2.eq_1, hnx]
      have O : Sat H h [repR p { r with wait := r.wait - 0 }, own x182 [.int .u64 r.prom, .int .u64 r.te, .int .u64 r.ts, .slice s.ptr s.len s.cap]] := by
        rw [Int.sub_zero]
        exact O.sel [2, 0] 3 rfl (Nat.le_add_left _ _)
      refine wl1 (k := .int .i64) (fun (m : Nat) (i : Int) (h' : Heap) => i + m = 3000 ∧ 0 ≤ i ∧ i ≤ r.wait ∧ Sat H h' [repR p { r with wait := r.wait - i }, own x182 [.int .u64 r.prom, .int .u64 r.te, .int .u64 r.ts, .slice s.ptr s.len s.cap]]) ?_ (m := 3000) ⟨by omega, by omega, by omega, O⟩
      clear O
      rintro m (i : Int) h next hn ⟨hi, hi0, hiw, O⟩
      refine jn1 (fun t h' => h' = h ∧ t = decide (i < r.wait ∧ i < 3000)) ?_ ?_
      case refine_2 =>
        intro j2 hj2
        refine brr_p (fun hlt => ?_) (fun hlt => ?_)
        · exact hj2 _ _ ⟨rfl, by simp [hlt]⟩
        · exact hj2 _ _ ⟨rfl, by simp; intro h; omega⟩
      rintro t h ⟨rfl, rfl⟩
      refine brr_p (fun ht => ?_) (fun ht => hj187 _ ⟨r.wait - i, by omega, by omega, fun q => by omega, O⟩)
      obtain ⟨hlt, hlt3⟩ := ht
      have okc := okw (r.wait - i) (by omega) (by omega)
      refine F_replica_Replica_Hear.is (m := { mg0 with kind := 1, epoch := nx }) okc (fun h O => View.nil (p := none) (c := 0)) (by simp [mg0]) O fun s1 h O => ?_
      obtain ⟨_, _, kn⟩ := keeps_prep (r := { r with wait := r.wait - i }) (m := { mg0 with kind := 1, epoch := nx }) rfl okc
      obtain ⟨k1, k2, k3, k4⟩ := kn (by show ¬ (nx = r.prom ∨ (r.prom < nx ∧ r.wait - i = 0)); omega)
      rw [k4] at O
      rw [k1, k3]
      refine O.al fun x220 h O => ?_
      refine O.st 0 rfl (by simp) rfl fun h O => ?_
      dsimp only [V.put, List.set] at O
      refine jn1 (fun z h' => z = false ∧ h' = h) ?_ ?_
      · rintro z h ⟨rfl, rfl⟩
        refine brr_ff rfl ?_
        replace O := O.sel [2, 3] 4 rfl (Nat.le_add_left _ _)
        simp only [selT, List.map, nth, List.drop, List.cons_append, List.nil_append] at O
        refine F_replica_Replica_Tick.is okc O fun h O => ?_
        rw [wrap64 (by omega) (by omega)]
        refine hn (m - 1) _ _ (by omega) ⟨by omega, by omega, by omega, ?_⟩
        have e : (if r.wait - i = 0 then (0 : Int) else r.wait - i - 1) = r.wait - (i + 1) := by rw [if_neg (by omega)]; omega
        rw [e] at O
        exact O
      · intro j hj
        repeat (first
          | (with_reducible refine al_id ?_); refine O.al fun _ h O => ?_
          | (with_reducible refine nn_id ?_); refine ⟨_, rfl, ?_⟩
          | (with_reducible refine ld_id ?_); (first | refine O.ld 0 rfl ?_ | refine O.ld 1 rfl ?_ | refine O.ld 2 rfl ?_ | refine O.ld 3 rfl ?_); (repeat (first | (with_reducible refine ldL_n ?_) | refine ldL_s ?_ | refine ldL_c ?_))
          | (with_reducible refine st_ad (by first | (with_reducible rfl) | (simp only [pt_add, Nat.zero_add, Nat.add_zero, Nat.reduceAdd]; with_reducible rfl)) ?_); (first | refine O.st 0 rfl (by simp) rfl fun h O => ?_ | refine O.st 1 rfl (by simp) rfl fun h O => ?_ | refine O.st 2 rfl (by simp) rfl fun h O => ?_ | refine O.st 3 rfl (by simp) rfl fun h O => ?_); (dsimp only [V.put, List.set, List.length_cons, List.length_nil] at O)
          | (with_reducible refine ca_id ?_); (first | refine ⟨cellsAre_blk (O.blk (i := 0) (by simp) rfl).2 _ 1, ?_⟩ | refine ⟨cellsAre_blk (O.blk (i := 0) (by simp) rfl).2 _ 2, ?_⟩ | refine ⟨cellsAre_blk (O.blk (i := 1) (by simp) rfl).2 _ 1, ?_⟩ | refine ⟨cellsAre_blk (O.blk (i := 1) (by simp) rfl).2 _ 2, ?_⟩ | refine ⟨cellsAre_blk (O.blk (i := 2) (by simp) rfl).2 _ 1, ?_⟩ | refine ⟨cellsAre_blk (O.blk (i := 2) (by simp) rfl).2 _ 2, ?_⟩ | refine ⟨cellsAre_blk (O.blk (i := 3) (by simp) rfl).2 _ 1, ?_⟩ | refine ⟨cellsAre_blk (O.blk (i := 3) (by simp) rfl).2 _ 2, ?_⟩))
        refine brr_ff rfl ?_
        repeat (first
          | (with_reducible refine al_id ?_); refine O.al fun _ h O => ?_
          | (with_reducible refine nn_id ?_); refine ⟨_, rfl, ?_⟩
          | (with_reducible refine ld_id ?_); (first | refine O.ld 0 rfl ?_ | refine O.ld 1 rfl ?_ | refine O.ld 2 rfl ?_ | refine O.ld 3 rfl ?_); (repeat (first | (with_reducible refine ldL_n ?_) | refine ldL_s ?_ | refine ldL_c ?_))
          | (with_reducible refine st_ad (by first | (with_reducible rfl) | (simp only [pt_add, Nat.zero_add, Nat.add_zero, Nat.reduceAdd]; with_reducible rfl)) ?_); (first | refine O.st 0 rfl (by simp) rfl fun h O => ?_ | refine O.st 1 rfl (by simp) rfl fun h O => ?_ | refine O.st 2 rfl (by simp) rfl fun h O => ?_ | refine O.st 3 rfl (by simp) rfl fun h O => ?_); (dsimp only [V.put, List.set, List.length_cons, List.length_nil] at O)
          | (with_reducible refine ca_id ?_); (first | refine ⟨cellsAre_blk (O.blk (i := 0) (by simp) rfl).2 _ 1, ?_⟩ | refine ⟨cellsAre_blk (O.blk (i := 0) (by simp) rfl).2 _ 2, ?_⟩ | refine ⟨cellsAre_blk (O.blk (i := 1) (by simp) rfl).2 _ 1, ?_⟩ | refine ⟨cellsAre_blk (O.blk (i := 1) (by simp) rfl).2 _ 2, ?_⟩ | refine ⟨cellsAre_blk (O.blk (i := 2) (by simp) rfl).2 _ 1, ?_⟩ | refine ⟨cellsAre_blk (O.blk (i := 2) (by simp) rfl).2 _ 2, ?_⟩ | refine ⟨cellsAre_blk (O.blk (i := 3) (by simp) rfl).2 _ 1, ?_⟩ | refine ⟨cellsAre_blk (O.blk (i := 3) (by simp) rfl).2 _ 2, ?_⟩))
        exact hj _ _ ⟨rfl, rfl⟩
  · intro j25 hj25
    rw [F_law9_ReplicaKeeps.l1.eq_1]
    refine wl2 (k := .int .i64) (l := .int .i64) (fun (m : Nat) (l : Int) (i : Int) (h' : Heap) => i + m = ops.length ∧ 0 ≤ i ∧ i ≤ 500 ∧ ∃ r : RS, r.Ok ∧ l = r.wait ∧ Sat H h' [repR p r, own x7 [.int .u64 t1, .int .u64 t2, .int .u64 t3, .slice t4.ptr t4.len t4.cap, .int .i64 t5, .slice t6.ptr t6.len t6.cap]]) ?_ (m := ops.length) ⟨by omega, by omega, by omega, r, ok, rfl, O⟩
    clear O ok hw r
    rintro m (l : Int) (i : Int) h next hn ⟨hi, hi0, hi5, r, ok, rfl, O⟩
    refine jn1 (fun t h' => h' = h ∧ t = decide (i < ops.length ∧ i < 500)) ?_ ?_
    case refine_2 =>
      intro j2 hj2
      repeat (first
        | (with_reducible refine al_id ?_); refine O.al fun _ h O => ?_
        | (with_reducible refine nn_id ?_); refine ⟨_, rfl, ?_⟩
        | (with_reducible refine ld_id ?_); (first | refine O.ld 0 rfl ?_ | refine O.ld 1 rfl ?_); (repeat (first | (with_reducible refine ldL_n ?_) | refine ldL_s ?_ | refine ldL_c ?_))
        | (with_reducible refine st_ad (by first | (with_reducible rfl) | (simp only [pt_add, Nat.zero_add, Nat.add_zero, Nat.reduceAdd]; with_reducible rfl)) ?_); (first | refine O.st 0 rfl (by simp) rfl fun h O => ?_ | refine O.st 1 rfl (by simp) rfl fun h O => ?_); (dsimp only [V.put, List.set, List.length_cons, List.length_nil] at O)
        | (with_reducible refine ca_id ?_); (first | refine ⟨cellsAre_blk (O.blk (i := 0) (by simp) rfl).2 _ 1, ?_⟩ | refine ⟨cellsAre_blk (O.blk (i := 0) (by simp) rfl).2 _ 2, ?_⟩ | refine ⟨cellsAre_blk (O.blk (i := 1) (by simp) rfl).2 _ 1, ?_⟩ | refine ⟨cellsAre_blk (O.blk (i := 1) (by simp) rfl).2 _ 2, ?_⟩))
      rw [Vo.len]
      refine brr_p (fun hlt => ?_) (fun hlt => ?_)
      · exact hj2 _ _ ⟨rfl, by simp [hlt]⟩
      · exact hj2 _ _ ⟨rfl, by simp; intro h; omega⟩
    rintro t h ⟨rfl, rfl⟩
    refine brr_p (fun ht => ?_) (fun ht => hj25 _ _ ⟨r, ok, rfl, O.sel [0] 2 rfl (Nat.le_add_left _ _)⟩)
    obtain ⟨hlt, hlt5⟩ := ht
    repeat (first
      | (with_reducible refine al_id ?_); refine O.al fun _ h O => ?_
      | (with_reducible refine nn_id ?_); refine ⟨_, rfl, ?_⟩
      | (with_reducible refine ld_id ?_); (first | refine O.ld 0 rfl ?_ | refine O.ld 1 rfl ?_); (repeat (first | (with_reducible refine ldL_n ?_) | refine ldL_s ?_ | refine ldL_c ?_))
      | (with_reducible refine st_ad (by first | (with_reducible rfl) | (simp only [pt_add, Nat.zero_add, Nat.add_zero, Nat.reduceAdd]; with_reducible rfl)) ?_); (first | refine O.st 0 rfl (by simp) rfl fun h O => ?_ | refine O.st 1 rfl (by simp) rfl fun h O => ?_); (dsimp only [V.put, List.set, List.length_cons, List.length_nil] at O)
      | (with_reducible refine ca_id ?_); (first | refine ⟨cellsAre_blk (O.blk (i := 0) (by simp) rfl).2 _ 1, ?_⟩ | refine ⟨cellsAre_blk (O.blk (i := 0) (by simp) rfl).2 _ 2, ?_⟩ | refine ⟨cellsAre_blk (O.blk (i := 1) (by simp) rfl).2 _ 1, ?_⟩ | refine ⟨cellsAre_blk (O.blk (i := 1) (by simp) rfl).2 _ 2, ?_⟩))
    refine (Vo.kept O.kept).ix hi0 hlt fun a2 cs o ho hlen hR hc => ?_
    obtain ⟨rfl, oo⟩ := hR
    refine ld_are hc ?_
    unfold ropC
    repeat (first | (with_reducible refine ldL_n ?_) | refine ldL_s ?_ | refine ldL_c ?_)
    refine O.al fun x66 h O => ?_
    refine O.st 0 rfl (by simp) rfl fun h O => ?_
    dsimp only [V.put, List.set] at O
    replace O := O.sel [1, 0, 2] 3 rfl (Nat.le_add_left _ _)
    simp only [selT, List.map, nth, List.drop, List.cons_append, List.nil_append] at O
    refine F_replica_Replica_Stored.is ok O fun s h O => ?_
    refine O.al fun x74 h O => ?_
    refine O.st 0 rfl (by simp) rfl fun h O => ?_
    dsimp only [V.put, List.set] at O
    repeat (first
      | (with_reducible refine al_id ?_); refine O.al fun _ h O => ?_
      | (with_reducible refine nn_id ?_); refine ⟨_, rfl, ?_⟩
      | (with_reducible refine ld_id ?_); (first | refine O.ld 0 rfl ?_ | refine O.ld 1 rfl ?_ | refine O.ld 2 rfl ?_ | refine O.ld 3 rfl ?_ | refine O.ld 4 rfl ?_); (repeat (first | (with_reducible refine ldL_n ?_) | refine ldL_s ?_ | refine ldL_c ?_))
      | (with_reducible refine st_ad (by first | (with_reducible rfl) | (simp only [pt_add, Nat.zero_add, Nat.add_zero, Nat.reduceAdd]; with_reducible rfl)) ?_); (first | refine O.st 0 rfl (by simp) rfl fun h O => ?_ | refine O.st 1 rfl (by simp) rfl fun h O => ?_ | refine O.st 2 rfl (by simp) rfl fun h O => ?_ | refine O.st 3 rfl (by simp) rfl fun h O => ?_ | refine O.st 4 rfl (by simp) rfl fun h O => ?_); (dsimp only [V.put, List.set, List.length_cons, List.length_nil] at O)
      | (with_reducible refine ca_id ?_); (first | refine ⟨cellsAre_blk (O.blk (i := 0) (by simp) rfl).2 _ 1, ?_⟩ | refine ⟨cellsAre_blk (O.blk (i := 0) (by simp) rfl).2 _ 2, ?_⟩ | refine ⟨cellsAre_blk (O.blk (i := 1) (by simp) rfl).2 _ 1, ?_⟩ | refine ⟨cellsAre_blk (O.blk (i := 1) (by simp) rfl).2 _ 2, ?_⟩ | refine ⟨cellsAre_blk (O.blk (i := 2) (by simp) rfl).2 _ 1, ?_⟩ | refine ⟨cellsAre_blk (O.blk (i := 2) (by simp) rfl).2 _ 2, ?_⟩ | refine ⟨cellsAre_blk (O.blk (i := 3) (by simp) rfl).2 _ 1, ?_⟩ | refine ⟨cellsAre_blk (O.blk (i := 3) (by simp) rfl).2 _ 2, ?_⟩ | refine ⟨cellsAre_blk (O.blk (i := 4) (by simp) rfl).2 _ 1, ?_⟩ | refine ⟨cellsAre_blk (O.blk (i := 4) (by simp) rfl).2 _ 2, ?_⟩))
    replace O := O.sel [2, 0, 1, 3, 4] 5 rfl (Nat.le_add_left _ _)
    simp only [selT, List.map, nth, List.drop, List.cons_append, List.nil_append] at O
    refine F_law9_Life_at.is Vo hi0 ho ok O fun s1 h O => ?_
    refine O.al fun x131 h O => ?_
    refine O.al fun x133 h O => ?_
    refine O.st 1 rfl (by simp) rfl fun h O => ?_
    dsimp only [V.put, List.set] at O
    refine O.st 0 rfl (by simp) rfl fun h O => ?_
    dsimp only [V.put, List.set] at O
    have ok2 : (lifeS r o).Ok := lifeS_ok ok oo
    have hl := keeps_left (o := o) ok
    have hw0 := ok.w0
    have hw1 := ok.w1
    -- x133, x131, buf s1, repR p, x74, buf s, x66, x7
    refine jn1 (fun t h' => h' = h ∧ t = decide (o.do_ = 2 ∧ 0 < r.wait)) ?_ ?_
    case refine_2 =>
      intro j2 hj2
      repeat (first
        | (with_reducible refine al_id ?_); refine O.al fun _ h O => ?_
        | (with_reducible refine nn_id ?_); refine ⟨_, rfl, ?_⟩
        | (with_reducible refine ld_id ?_); (first | refine O.ld 0 rfl ?_ | refine O.ld 1 rfl ?_ | refine O.ld 2 rfl ?_ | refine O.ld 3 rfl ?_ | refine O.ld 4 rfl ?_ | refine O.ld 5 rfl ?_ | refine O.ld 6 rfl ?_ | refine O.ld 7 rfl ?_); (repeat (first | (with_reducible refine ldL_n ?_) | refine ldL_s ?_ | refine ldL_c ?_))
        | (with_reducible refine st_ad (by first | (with_reducible rfl) | (simp only [pt_add, Nat.zero_add, Nat.add_zero, Nat.reduceAdd]; with_reducible rfl)) ?_); (first | refine O.st 0 rfl (by simp) rfl fun h O => ?_ | refine O.st 1 rfl (by simp) rfl fun h O => ?_ | refine O.st 2 rfl (by simp) rfl fun h O => ?_ | refine O.st 3 rfl (by simp) rfl fun h O => ?_ | refine O.st 4 rfl (by simp) rfl fun h O => ?_ | refine O.st 5 rfl (by simp) rfl fun h O => ?_ | refine O.st 6 rfl (by simp) rfl fun h O => ?_ | refine O.st 7 rfl (by simp) rfl fun h O => ?_); (dsimp only [V.put, List.set, List.length_cons, List.length_nil] at O)
        | (with_reducible refine ca_id ?_); (first | refine ⟨cellsAre_blk (O.blk (i := 0) (by simp) rfl).2 _ 1, ?_⟩ | refine ⟨cellsAre_blk (O.blk (i := 0) (by simp) rfl).2 _ 2, ?_⟩ | refine ⟨cellsAre_blk (O.blk (i := 1) (by simp) rfl).2 _ 1, ?_⟩ | refine ⟨cellsAre_blk (O.blk (i := 1) (by simp) rfl).2 _ 2, ?_⟩ | refine ⟨cellsAre_blk (O.blk (i := 2) (by simp) rfl).2 _ 1, ?_⟩ | refine ⟨cellsAre_blk (O.blk (i := 2) (by simp) rfl).2 _ 2, ?_⟩ | refine ⟨cellsAre_blk (O.blk (i := 3) (by simp) rfl).2 _ 1, ?_⟩ | refine ⟨cellsAre_blk (O.blk (i := 3) (by simp) rfl).2 _ 2, ?_⟩ | refine ⟨cellsAre_blk (O.blk (i := 4) (by simp) rfl).2 _ 1, ?_⟩ | refine ⟨cellsAre_blk (O.blk (i := 4) (by simp) rfl).2 _ 2, ?_⟩ | refine ⟨cellsAre_blk (O.blk (i := 5) (by simp) rfl).2 _ 1, ?_⟩ | refine ⟨cellsAre_blk (O.blk (i := 5) (by simp) rfl).2 _ 2, ?_⟩ | refine ⟨cellsAre_blk (O.blk (i := 6) (by simp) rfl).2 _ 1, ?_⟩ | refine ⟨cellsAre_blk (O.blk (i := 6) (by simp) rfl).2 _ 2, ?_⟩ | refine ⟨cellsAre_blk (O.blk (i := 7) (by simp) rfl).2 _ 1, ?_⟩ | refine ⟨cellsAre_blk (O.blk (i := 7) (by simp) rfl).2 _ 2, ?_⟩))
      refine brr_eq (fun hd => ?_) (fun hd => ?_)
      · exact hj2 _ _ ⟨rfl, decide_eq_decide.2 ⟨fun q => ⟨hd, q⟩, fun q => q.2⟩⟩
      · exact hj2 _ _ ⟨rfl, (decide_eq_false fun q => hd q.1).symm⟩
    rintro t h ⟨rfl, rfl⟩
    refine jn1 (fun (l : Int) h' => h' = h ∧ l = if o.do_ = 2 ∧ 0 < r.wait then r.wait - 1 else r.wait) ?_ ?_
    case refine_2 =>
      intro j2 hj2
      refine brr_p (fun hd => ?_) (fun hd => ?_)
      · rw [wrap64 (by omega) (by omega)]
        exact hj2 _ _ ⟨rfl, by rw [if_pos hd]⟩
      · exact hj2 _ _ ⟨rfl, by rw [if_neg hd]⟩
    rintro (l : Int) h ⟨rfl, rfl⟩
    repeat (first
      | (with_reducible refine al_id ?_); refine O.al fun _ h O => ?_
      | (with_reducible refine nn_id ?_); refine ⟨_, rfl, ?_⟩
      | (with_reducible refine ld_id ?_); (first | refine O.ld 0 rfl ?_ | refine O.ld 1 rfl ?_ | refine O.ld 2 rfl ?_ | refine O.ld 3 rfl ?_ | refine O.ld 4 rfl ?_ | refine O.ld 5 rfl ?_ | refine O.ld 6 rfl ?_ | refine O.ld 7 rfl ?_); (repeat (first | (with_reducible refine ldL_n ?_) | refine ldL_s ?_ | refine ldL_c ?_))
      | (with_reducible refine st_ad (by first | (with_reducible rfl) | (simp only [pt_add, Nat.zero_add, Nat.add_zero, Nat.reduceAdd]; with_reducible rfl)) ?_); (first | refine O.st 0 rfl (by simp) rfl fun h O => ?_ | refine O.st 1 rfl (by simp) rfl fun h O => ?_ | refine O.st 2 rfl (by simp) rfl fun h O => ?_ | refine O.st 3 rfl (by simp) rfl fun h O => ?_ | refine O.st 4 rfl (by simp) rfl fun h O => ?_ | refine O.st 5 rfl (by simp) rfl fun h O => ?_ | refine O.st 6 rfl (by simp) rfl fun h O => ?_ | refine O.st 7 rfl (by simp) rfl fun h O => ?_); (dsimp only [V.put, List.set, List.length_cons, List.length_nil] at O)
      | (with_reducible refine ca_id ?_); (first | refine ⟨cellsAre_blk (O.blk (i := 0) (by simp) rfl).2 _ 1, ?_⟩ | refine ⟨cellsAre_blk (O.blk (i := 0) (by simp) rfl).2 _ 2, ?_⟩ | refine ⟨cellsAre_blk (O.blk (i := 1) (by simp) rfl).2 _ 1, ?_⟩ | refine ⟨cellsAre_blk (O.blk (i := 1) (by simp) rfl).2 _ 2, ?_⟩ | refine ⟨cellsAre_blk (O.blk (i := 2) (by simp) rfl).2 _ 1, ?_⟩ | refine ⟨cellsAre_blk (O.blk (i := 2) (by simp) rfl).2 _ 2, ?_⟩ | refine ⟨cellsAre_blk (O.blk (i := 3) (by simp) rfl).2 _ 1, ?_⟩ | refine ⟨cellsAre_blk (O.blk (i := 3) (by simp) rfl).2 _ 2, ?_⟩ | refine ⟨cellsAre_blk (O.blk (i := 4) (by simp) rfl).2 _ 1, ?_⟩ | refine ⟨cellsAre_blk (O.blk (i := 4) (by simp) rfl).2 _ 2, ?_⟩ | refine ⟨cellsAre_blk (O.blk (i := 5) (by simp) rfl).2 _ 1, ?_⟩ | refine ⟨cellsAre_blk (O.blk (i := 5) (by simp) rfl).2 _ 2, ?_⟩ | refine ⟨cellsAre_blk (O.blk (i := 6) (by simp) rfl).2 _ 1, ?_⟩ | refine ⟨cellsAre_blk (O.blk (i := 6) (by simp) rfl).2 _ 2, ?_⟩ | refine ⟨cellsAre_blk (O.blk (i := 7) (by simp) rfl).2 _ 1, ?_⟩ | refine ⟨cellsAre_blk (O.blk (i := 7) (by simp) rfl).2 _ 2, ?_⟩))
    refine jn1 (fun (l : Int) h' => h' = h ∧ l = (lifeS r o).wait) ?_ ?_
    case refine_2 =>
      intro j2 hj2
      refine brr_of (fun hd => ?_) (fun hd => ?_)
      · repeat (first
          | (with_reducible refine al_id ?_); refine O.al fun _ h O => ?_
          | (with_reducible refine nn_id ?_); refine ⟨_, rfl, ?_⟩
          | (with_reducible refine ld_id ?_); (first | refine O.ld 0 rfl ?_ | refine O.ld 1 rfl ?_ | refine O.ld 2 rfl ?_ | refine O.ld 3 rfl ?_ | refine O.ld 4 rfl ?_ | refine O.ld 5 rfl ?_ | refine O.ld 6 rfl ?_ | refine O.ld 7 rfl ?_); (repeat (first | (with_reducible refine ldL_n ?_) | refine ldL_s ?_ | refine ldL_c ?_))
          | (with_reducible refine st_ad (by first | (with_reducible rfl) | (simp only [pt_add, Nat.zero_add, Nat.add_zero, Nat.reduceAdd]; with_reducible rfl)) ?_); (first | refine O.st 0 rfl (by simp) rfl fun h O => ?_ | refine O.st 1 rfl (by simp) rfl fun h O => ?_ | refine O.st 2 rfl (by simp) rfl fun h O => ?_ | refine O.st 3 rfl (by simp) rfl fun h O => ?_ | refine O.st 4 rfl (by simp) rfl fun h O => ?_ | refine O.st 5 rfl (by simp) rfl fun h O => ?_ | refine O.st 6 rfl (by simp) rfl fun h O => ?_ | refine O.st 7 rfl (by simp) rfl fun h O => ?_); (dsimp only [V.put, List.set, List.length_cons, List.length_nil] at O)
          | (with_reducible refine ca_id ?_); (first | refine ⟨cellsAre_blk (O.blk (i := 0) (by simp) rfl).2 _ 1, ?_⟩ | refine ⟨cellsAre_blk (O.blk (i := 0) (by simp) rfl).2 _ 2, ?_⟩ | refine ⟨cellsAre_blk (O.blk (i := 1) (by simp) rfl).2 _ 1, ?_⟩ | refine ⟨cellsAre_blk (O.blk (i := 1) (by simp) rfl).2 _ 2, ?_⟩ | refine ⟨cellsAre_blk (O.blk (i := 2) (by simp) rfl).2 _ 1, ?_⟩ | refine ⟨cellsAre_blk (O.blk (i := 2) (by simp) rfl).2 _ 2, ?_⟩ | refine ⟨cellsAre_blk (O.blk (i := 3) (by simp) rfl).2 _ 1, ?_⟩ | refine ⟨cellsAre_blk (O.blk (i := 3) (by simp) rfl).2 _ 2, ?_⟩ | refine ⟨cellsAre_blk (O.blk (i := 4) (by simp) rfl).2 _ 1, ?_⟩ | refine ⟨cellsAre_blk (O.blk (i := 4) (by simp) rfl).2 _ 2, ?_⟩ | refine ⟨cellsAre_blk (O.blk (i := 5) (by simp) rfl).2 _ 1, ?_⟩ | refine ⟨cellsAre_blk (O.blk (i := 5) (by simp) rfl).2 _ 2, ?_⟩ | refine ⟨cellsAre_blk (O.blk (i := 6) (by simp) rfl).2 _ 1, ?_⟩ | refine ⟨cellsAre_blk (O.blk (i := 6) (by simp) rfl).2 _ 2, ?_⟩ | refine ⟨cellsAre_blk (O.blk (i := 7) (by simp) rfl).2 _ 1, ?_⟩ | refine ⟨cellsAre_blk (O.blk (i := 7) (by simp) rfl).2 _ 2, ?_⟩))
        refine hj2 _ _ ⟨rfl, ?_⟩
        rw [if_pos hd] at hl
        exact hl
      · refine hj2 _ _ ⟨rfl, ?_⟩
        rw [if_neg (by rw [hd]; decide)] at hl
        exact hl
    rintro (l : Int) h ⟨rfl, rfl⟩
    refine jn1 (fun t h' => h' = h ∧ t = decide (o.do_ = 1 ∧ (lifeM o).kind = 1)) ?_ ?_
    case refine_2 =>
      intro j2 hj2
      repeat (first
        | (with_reducible refine al_id ?_); refine O.al fun _ h O => ?_
        | (with_reducible refine nn_id ?_); refine ⟨_, rfl, ?_⟩
        | (with_reducible refine ld_id ?_); (first | refine O.ld 0 rfl ?_ | refine O.ld 1 rfl ?_ | refine O.ld 2 rfl ?_ | refine O.ld 3 rfl ?_ | refine O.ld 4 rfl ?_ | refine O.ld 5 rfl ?_ | refine O.ld 6 rfl ?_ | refine O.ld 7 rfl ?_); (repeat (first | (with_reducible refine ldL_n ?_) | refine ldL_s ?_ | refine ldL_c ?_))
        | (with_reducible refine st_ad (by first | (with_reducible rfl) | (simp only [pt_add, Nat.zero_add, Nat.add_zero, Nat.reduceAdd]; with_reducible rfl)) ?_); (first | refine O.st 0 rfl (by simp) rfl fun h O => ?_ | refine O.st 1 rfl (by simp) rfl fun h O => ?_ | refine O.st 2 rfl (by simp) rfl fun h O => ?_ | refine O.st 3 rfl (by simp) rfl fun h O => ?_ | refine O.st 4 rfl (by simp) rfl fun h O => ?_ | refine O.st 5 rfl (by simp) rfl fun h O => ?_ | refine O.st 6 rfl (by simp) rfl fun h O => ?_ | refine O.st 7 rfl (by simp) rfl fun h O => ?_); (dsimp only [V.put, List.set, List.length_cons, List.length_nil] at O)
        | (with_reducible refine ca_id ?_); (first | refine ⟨cellsAre_blk (O.blk (i := 0) (by simp) rfl).2 _ 1, ?_⟩ | refine ⟨cellsAre_blk (O.blk (i := 0) (by simp) rfl).2 _ 2, ?_⟩ | refine ⟨cellsAre_blk (O.blk (i := 1) (by simp) rfl).2 _ 1, ?_⟩ | refine ⟨cellsAre_blk (O.blk (i := 1) (by simp) rfl).2 _ 2, ?_⟩ | refine ⟨cellsAre_blk (O.blk (i := 2) (by simp) rfl).2 _ 1, ?_⟩ | refine ⟨cellsAre_blk (O.blk (i := 2) (by simp) rfl).2 _ 2, ?_⟩ | refine ⟨cellsAre_blk (O.blk (i := 3) (by simp) rfl).2 _ 1, ?_⟩ | refine ⟨cellsAre_blk (O.blk (i := 3) (by simp) rfl).2 _ 2, ?_⟩ | refine ⟨cellsAre_blk (O.blk (i := 4) (by simp) rfl).2 _ 1, ?_⟩ | refine ⟨cellsAre_blk (O.blk (i := 4) (by simp) rfl).2 _ 2, ?_⟩ | refine ⟨cellsAre_blk (O.blk (i := 5) (by simp) rfl).2 _ 1, ?_⟩ | refine ⟨cellsAre_blk (O.blk (i := 5) (by simp) rfl).2 _ 2, ?_⟩ | refine ⟨cellsAre_blk (O.blk (i := 6) (by simp) rfl).2 _ 1, ?_⟩ | refine ⟨cellsAre_blk (O.blk (i := 6) (by simp) rfl).2 _ 2, ?_⟩ | refine ⟨cellsAre_blk (O.blk (i := 7) (by simp) rfl).2 _ 1, ?_⟩ | refine ⟨cellsAre_blk (O.blk (i := 7) (by simp) rfl).2 _ 2, ?_⟩))
      refine brr_eq (fun hd => ?_) (fun hd => ?_)
      · repeat (first
          | (with_reducible refine al_id ?_); refine O.al fun _ h O => ?_
          | (with_reducible refine nn_id ?_); refine ⟨_, rfl, ?_⟩
          | (with_reducible refine ld_id ?_); (first | refine O.ld 0 rfl ?_ | refine O.ld 1 rfl ?_ | refine O.ld 2 rfl ?_ | refine O.ld 3 rfl ?_ | refine O.ld 4 rfl ?_ | refine O.ld 5 rfl ?_ | refine O.ld 6 rfl ?_ | refine O.ld 7 rfl ?_); (repeat (first | (with_reducible refine ldL_n ?_) | refine ldL_s ?_ | refine ldL_c ?_))
          | (with_reducible refine st_ad (by first | (with_reducible rfl) | (simp only [pt_add, Nat.zero_add, Nat.add_zero, Nat.reduceAdd]; with_reducible rfl)) ?_); (first | refine O.st 0 rfl (by simp) rfl fun h O => ?_ | refine O.st 1 rfl (by simp) rfl fun h O => ?_ | refine O.st 2 rfl (by simp) rfl fun h O => ?_ | refine O.st 3 rfl (by simp) rfl fun h O => ?_ | refine O.st 4 rfl (by simp) rfl fun h O => ?_ | refine O.st 5 rfl (by simp) rfl fun h O => ?_ | refine O.st 6 rfl (by simp) rfl fun h O => ?_ | refine O.st 7 rfl (by simp) rfl fun h O => ?_); (dsimp only [V.put, List.set, List.length_cons, List.length_nil] at O)
          | (with_reducible refine ca_id ?_); (first | refine ⟨cellsAre_blk (O.blk (i := 0) (by simp) rfl).2 _ 1, ?_⟩ | refine ⟨cellsAre_blk (O.blk (i := 0) (by simp) rfl).2 _ 2, ?_⟩ | refine ⟨cellsAre_blk (O.blk (i := 1) (by simp) rfl).2 _ 1, ?_⟩ | refine ⟨cellsAre_blk (O.blk (i := 1) (by simp) rfl).2 _ 2, ?_⟩ | refine ⟨cellsAre_blk (O.blk (i := 2) (by simp) rfl).2 _ 1, ?_⟩ | refine ⟨cellsAre_blk (O.blk (i := 2) (by simp) rfl).2 _ 2, ?_⟩ | refine ⟨cellsAre_blk (O.blk (i := 3) (by simp) rfl).2 _ 1, ?_⟩ | refine ⟨cellsAre_blk (O.blk (i := 3) (by simp) rfl).2 _ 2, ?_⟩ | refine ⟨cellsAre_blk (O.blk (i := 4) (by simp) rfl).2 _ 1, ?_⟩ | refine ⟨cellsAre_blk (O.blk (i := 4) (by simp) rfl).2 _ 2, ?_⟩ | refine ⟨cellsAre_blk (O.blk (i := 5) (by simp) rfl).2 _ 1, ?_⟩ | refine ⟨cellsAre_blk (O.blk (i := 5) (by simp) rfl).2 _ 2, ?_⟩ | refine ⟨cellsAre_blk (O.blk (i := 6) (by simp) rfl).2 _ 1, ?_⟩ | refine ⟨cellsAre_blk (O.blk (i := 6) (by simp) rfl).2 _ 2, ?_⟩ | refine ⟨cellsAre_blk (O.blk (i := 7) (by simp) rfl).2 _ 1, ?_⟩ | refine ⟨cellsAre_blk (O.blk (i := 7) (by simp) rfl).2 _ 2, ?_⟩))
        exact hj2 _ _ ⟨rfl, by rw [Bool.eq_iff_iff]; simp [hd]⟩
      · exact hj2 _ _ ⟨rfl, (decide_eq_false fun q => hd q.1).symm⟩
    rintro t h ⟨rfl, rfl⟩
    refine jn0 (fun h' => h' = h) ?_ ?_
    · rintro h rfl
      replace O := O.sel [3, 7] 8 rfl (Nat.le_add_left _ _)
      simp only [selT, List.map, nth, List.drop, List.cons_append, List.nil_append] at O
      refine F_replica_Replica_Wait.is O ?_
      refine brr_ff (by simp) ?_
      rw [wrap64 (by omega) (by omega)]
      exact hn (m - 1) _ _ _ (by omega) ⟨by omega, by omega, by omega, _, ok2, rfl, O⟩
    intro j154 hj154
    refine brr_p (fun hp => ?_) (fun hp => hj154 _ rfl)
    obtain ⟨hd1, hk1⟩ := hp
    have e1 : lifeM o = o.m := by unfold lifeM; rw [if_pos hd1]
    have e2 : lifeD r o = (hearS r o.m).2 := by unfold lifeD; rw [if_pos hd1]
    have e3 : lifeS r o = (hearS r o.m).1 := by unfold lifeS; rw [if_pos hd1]
    rw [e1] at hk1
    obtain ⟨kw, kp, kn⟩ := keeps_prep hk1 ok
    rw [e1, e2, e3] at O
    rw [e3, kw]
    refine jn1 (fun t h' => h' = h ∧ t = decide (o.m.epoch = r.prom ∨ (r.prom < o.m.epoch ∧ r.wait = 0))) ?_ ?_
    case refine_2 =>
      intro j2 hj2
      repeat (first
        | (with_reducible refine al_id ?_); refine O.al fun _ h O => ?_
        | (with_reducible refine nn_id ?_); refine ⟨_, rfl, ?_⟩
        | (with_reducible refine ld_id ?_); (first | refine O.ld 0 rfl ?_ | refine O.ld 1 rfl ?_ | refine O.ld 2 rfl ?_ | refine O.ld 3 rfl ?_ | refine O.ld 4 rfl ?_ | refine O.ld 5 rfl ?_ | refine O.ld 6 rfl ?_ | refine O.ld 7 rfl ?_); (repeat (first | (with_reducible refine ldL_n ?_) | refine ldL_s ?_ | refine ldL_c ?_))
        | (with_reducible refine st_ad (by first | (with_reducible rfl) | (simp only [pt_add, Nat.zero_add, Nat.add_zero, Nat.reduceAdd]; with_reducible rfl)) ?_); (first | refine O.st 0 rfl (by simp) rfl fun h O => ?_ | refine O.st 1 rfl (by simp) rfl fun h O => ?_ | refine O.st 2 rfl (by simp) rfl fun h O => ?_ | refine O.st 3 rfl (by simp) rfl fun h O => ?_ | refine O.st 4 rfl (by simp) rfl fun h O => ?_ | refine O.st 5 rfl (by simp) rfl fun h O => ?_ | refine O.st 6 rfl (by simp) rfl fun h O => ?_ | refine O.st 7 rfl (by simp) rfl fun h O => ?_); (dsimp only [V.put, List.set, List.length_cons, List.length_nil] at O)
        | (with_reducible refine ca_id ?_); (first | refine ⟨cellsAre_blk (O.blk (i := 0) (by simp) rfl).2 _ 1, ?_⟩ | refine ⟨cellsAre_blk (O.blk (i := 0) (by simp) rfl).2 _ 2, ?_⟩ | refine ⟨cellsAre_blk (O.blk (i := 1) (by simp) rfl).2 _ 1, ?_⟩ | refine ⟨cellsAre_blk (O.blk (i := 1) (by simp) rfl).2 _ 2, ?_⟩ | refine ⟨cellsAre_blk (O.blk (i := 2) (by simp) rfl).2 _ 1, ?_⟩ | refine ⟨cellsAre_blk (O.blk (i := 2) (by simp) rfl).2 _ 2, ?_⟩ | refine ⟨cellsAre_blk (O.blk (i := 3) (by simp) rfl).2 _ 1, ?_⟩ | refine ⟨cellsAre_blk (O.blk (i := 3) (by simp) rfl).2 _ 2, ?_⟩ | refine ⟨cellsAre_blk (O.blk (i := 4) (by simp) rfl).2 _ 1, ?_⟩ | refine ⟨cellsAre_blk (O.blk (i := 4) (by simp) rfl).2 _ 2, ?_⟩ | refine ⟨cellsAre_blk (O.blk (i := 5) (by simp) rfl).2 _ 1, ?_⟩ | refine ⟨cellsAre_blk (O.blk (i := 5) (by simp) rfl).2 _ 2, ?_⟩ | refine ⟨cellsAre_blk (O.blk (i := 6) (by simp) rfl).2 _ 1, ?_⟩ | refine ⟨cellsAre_blk (O.blk (i := 6) (by simp) rfl).2 _ 2, ?_⟩ | refine ⟨cellsAre_blk (O.blk (i := 7) (by simp) rfl).2 _ 1, ?_⟩ | refine ⟨cellsAre_blk (O.blk (i := 7) (by simp) rfl).2 _ 2, ?_⟩))
      refine brr_eq (fun q1 => ?_) (fun q1 => ?_)
      · exact hj2 _ _ ⟨rfl, (decide_eq_true (.inl q1)).symm⟩
      repeat (first
        | (with_reducible refine al_id ?_); refine O.al fun _ h O => ?_
        | (with_reducible refine nn_id ?_); refine ⟨_, rfl, ?_⟩
        | (with_reducible refine ld_id ?_); (first | refine O.ld 0 rfl ?_ | refine O.ld 1 rfl ?_ | refine O.ld 2 rfl ?_ | refine O.ld 3 rfl ?_ | refine O.ld 4 rfl ?_ | refine O.ld 5 rfl ?_ | refine O.ld 6 rfl ?_ | refine O.ld 7 rfl ?_); (repeat (first | (with_reducible refine ldL_n ?_) | refine ldL_s ?_ | refine ldL_c ?_))
        | (with_reducible refine st_ad (by first | (with_reducible rfl) | (simp only [pt_add, Nat.zero_add, Nat.add_zero, Nat.reduceAdd]; with_reducible rfl)) ?_); (first | refine O.st 0 rfl (by simp) rfl fun h O => ?_ | refine O.st 1 rfl (by simp) rfl fun h O => ?_ | refine O.st 2 rfl (by simp) rfl fun h O => ?_ | refine O.st 3 rfl (by simp) rfl fun h O => ?_ | refine O.st 4 rfl (by simp) rfl fun h O => ?_ | refine O.st 5 rfl (by simp) rfl fun h O => ?_ | refine O.st 6 rfl (by simp) rfl fun h O => ?_ | refine O.st 7 rfl (by simp) rfl fun h O => ?_); (dsimp only [V.put, List.set, List.length_cons, List.length_nil] at O)
        | (with_reducible refine ca_id ?_); (first | refine ⟨cellsAre_blk (O.blk (i := 0) (by simp) rfl).2 _ 1, ?_⟩ | refine ⟨cellsAre_blk (O.blk (i := 0) (by simp) rfl).2 _ 2, ?_⟩ | refine ⟨cellsAre_blk (O.blk (i := 1) (by simp) rfl).2 _ 1, ?_⟩ | refine ⟨cellsAre_blk (O.blk (i := 1) (by simp) rfl).2 _ 2, ?_⟩ | refine ⟨cellsAre_blk (O.blk (i := 2) (by simp) rfl).2 _ 1, ?_⟩ | refine ⟨cellsAre_blk (O.blk (i := 2) (by simp) rfl).2 _ 2, ?_⟩ | refine ⟨cellsAre_blk (O.blk (i := 3) (by simp) rfl).2 _ 1, ?_⟩ | refine ⟨cellsAre_blk (O.blk (i := 3) (by simp) rfl).2 _ 2, ?_⟩ | refine ⟨cellsAre_blk (O.blk (i := 4) (by simp) rfl).2 _ 1, ?_⟩ | refine ⟨cellsAre_blk (O.blk (i := 4) (by simp) rfl).2 _ 2, ?_⟩ | refine ⟨cellsAre_blk (O.blk (i := 5) (by simp) rfl).2 _ 1, ?_⟩ | refine ⟨cellsAre_blk (O.blk (i := 5) (by simp) rfl).2 _ 2, ?_⟩ | refine ⟨cellsAre_blk (O.blk (i := 6) (by simp) rfl).2 _ 1, ?_⟩ | refine ⟨cellsAre_blk (O.blk (i := 6) (by simp) rfl).2 _ 2, ?_⟩ | refine ⟨cellsAre_blk (O.blk (i := 7) (by simp) rfl).2 _ 1, ?_⟩ | refine ⟨cellsAre_blk (O.blk (i := 7) (by simp) rfl).2 _ 2, ?_⟩))
      refine brr_p (fun q2 => ?_) (fun q2 => ?_)
      · exact hj2 _ _ ⟨rfl, by rw [Bool.eq_iff_iff]; simp only [beq_iff_eq, decide_eq_true_eq]; omega⟩
      · exact hj2 _ _ ⟨rfl, (decide_eq_false (by omega)).symm⟩
    rintro t h ⟨rfl, rfl⟩
    refine jn1 (fun t h' => h' = h ∧ t = false) ?_ ?_
    · rintro t h ⟨rfl, rfl⟩
      refine brr_ff rfl ?_
      refine jn1 (fun t h' => h' = h ∧ t = false) ?_ ?_
      · rintro t h ⟨rfl, rfl⟩
        refine brr_ff rfl ?_
        exact hj154 _ rfl
      · intro j2 hj2
        by_cases hpr : o.m.epoch = r.prom ∨ (r.prom < o.m.epoch ∧ r.wait = 0)
        · rw [decide_eq_true hpr]
          exact brr_ff rfl (hj2 _ _ ⟨rfl, rfl⟩)
        · rw [decide_eq_false hpr]
          refine brr_tt rfl ?_
          repeat (first
            | (with_reducible refine al_id ?_); refine O.al fun _ h O => ?_
            | (with_reducible refine nn_id ?_); refine ⟨_, rfl, ?_⟩
            | (with_reducible refine ld_id ?_); (first | refine O.ld 0 rfl ?_ | refine O.ld 1 rfl ?_ | refine O.ld 2 rfl ?_ | refine O.ld 3 rfl ?_ | refine O.ld 4 rfl ?_ | refine O.ld 5 rfl ?_ | refine O.ld 6 rfl ?_ | refine O.ld 7 rfl ?_); (repeat (first | (with_reducible refine ldL_n ?_) | refine ldL_s ?_ | refine ldL_c ?_))
            | (with_reducible refine st_ad (by first | (with_reducible rfl) | (simp only [pt_add, Nat.zero_add, Nat.add_zero, Nat.reduceAdd]; with_reducible rfl)) ?_); (first | refine O.st 0 rfl (by simp) rfl fun h O => ?_ | refine O.st 1 rfl (by simp) rfl fun h O => ?_ | refine O.st 2 rfl (by simp) rfl fun h O => ?_ | refine O.st 3 rfl (by simp) rfl fun h O => ?_ | refine O.st 4 rfl (by simp) rfl fun h O => ?_ | refine O.st 5 rfl (by simp) rfl fun h O => ?_ | refine O.st 6 rfl (by simp) rfl fun h O => ?_ | refine O.st 7 rfl (by simp) rfl fun h O => ?_); (dsimp only [V.put, List.set, List.length_cons, List.length_nil] at O)
            | (with_reducible refine ca_id ?_); (first | refine ⟨cellsAre_blk (O.blk (i := 0) (by simp) rfl).2 _ 1, ?_⟩ | refine ⟨cellsAre_blk (O.blk (i := 0) (by simp) rfl).2 _ 2, ?_⟩ | refine ⟨cellsAre_blk (O.blk (i := 1) (by simp) rfl).2 _ 1, ?_⟩ | refine ⟨cellsAre_blk (O.blk (i := 1) (by simp) rfl).2 _ 2, ?_⟩ | refine ⟨cellsAre_blk (O.blk (i := 2) (by simp) rfl).2 _ 1, ?_⟩ | refine ⟨cellsAre_blk (O.blk (i := 2) (by simp) rfl).2 _ 2, ?_⟩ | refine ⟨cellsAre_blk (O.blk (i := 3) (by simp) rfl).2 _ 1, ?_⟩ | refine ⟨cellsAre_blk (O.blk (i := 3) (by simp) rfl).2 _ 2, ?_⟩ | refine ⟨cellsAre_blk (O.blk (i := 4) (by simp) rfl).2 _ 1, ?_⟩ | refine ⟨cellsAre_blk (O.blk (i := 4) (by simp) rfl).2 _ 2, ?_⟩ | refine ⟨cellsAre_blk (O.blk (i := 5) (by simp) rfl).2 _ 1, ?_⟩ | refine ⟨cellsAre_blk (O.blk (i := 5) (by simp) rfl).2 _ 2, ?_⟩ | refine ⟨cellsAre_blk (O.blk (i := 6) (by simp) rfl).2 _ 1, ?_⟩ | refine ⟨cellsAre_blk (O.blk (i := 6) (by simp) rfl).2 _ 2, ?_⟩ | refine ⟨cellsAre_blk (O.blk (i := 7) (by simp) rfl).2 _ 1, ?_⟩ | refine ⟨cellsAre_blk (O.blk (i := 7) (by simp) rfl).2 _ 2, ?_⟩))
          exact hj2 _ _ ⟨rfl, by simp [(kn hpr).2.1]⟩
    · intro j2 hj2
      repeat (first
        | (with_reducible refine al_id ?_); refine O.al fun _ h O => ?_
        | (with_reducible refine nn_id ?_); refine ⟨_, rfl, ?_⟩
        | (with_reducible refine ld_id ?_); (first | refine O.ld 0 rfl ?_ | refine O.ld 1 rfl ?_ | refine O.ld 2 rfl ?_ | refine O.ld 3 rfl ?_ | refine O.ld 4 rfl ?_ | refine O.ld 5 rfl ?_ | refine O.ld 6 rfl ?_ | refine O.ld 7 rfl ?_); (repeat (first | (with_reducible refine ldL_n ?_) | refine ldL_s ?_ | refine ldL_c ?_))
        | (with_reducible refine st_ad (by first | (with_reducible rfl) | (simp only [pt_add, Nat.zero_add, Nat.add_zero, Nat.reduceAdd]; with_reducible rfl)) ?_); (first | refine O.st 0 rfl (by simp) rfl fun h O => ?_ | refine O.st 1 rfl (by simp) rfl fun h O => ?_ | refine O.st 2 rfl (by simp) rfl fun h O => ?_ | refine O.st 3 rfl (by simp) rfl fun h O => ?_ | refine O.st 4 rfl (by simp) rfl fun h O => ?_ | refine O.st 5 rfl (by simp) rfl fun h O => ?_ | refine O.st 6 rfl (by simp) rfl fun h O => ?_ | refine O.st 7 rfl (by simp) rfl fun h O => ?_); (dsimp only [V.put, List.set, List.length_cons, List.length_nil] at O)
        | (with_reducible refine ca_id ?_); (first | refine ⟨cellsAre_blk (O.blk (i := 0) (by simp) rfl).2 _ 1, ?_⟩ | refine ⟨cellsAre_blk (O.blk (i := 0) (by simp) rfl).2 _ 2, ?_⟩ | refine ⟨cellsAre_blk (O.blk (i := 1) (by simp) rfl).2 _ 1, ?_⟩ | refine ⟨cellsAre_blk (O.blk (i := 1) (by simp) rfl).2 _ 2, ?_⟩ | refine ⟨cellsAre_blk (O.blk (i := 2) (by simp) rfl).2 _ 1, ?_⟩ | refine ⟨cellsAre_blk (O.blk (i := 2) (by simp) rfl).2 _ 2, ?_⟩ | refine ⟨cellsAre_blk (O.blk (i := 3) (by simp) rfl).2 _ 1, ?_⟩ | refine ⟨cellsAre_blk (O.blk (i := 3) (by simp) rfl).2 _ 2, ?_⟩ | refine ⟨cellsAre_blk (O.blk (i := 4) (by simp) rfl).2 _ 1, ?_⟩ | refine ⟨cellsAre_blk (O.blk (i := 4) (by simp) rfl).2 _ 2, ?_⟩ | refine ⟨cellsAre_blk (O.blk (i := 5) (by simp) rfl).2 _ 1, ?_⟩ | refine ⟨cellsAre_blk (O.blk (i := 5) (by simp) rfl).2 _ 2, ?_⟩ | refine ⟨cellsAre_blk (O.blk (i := 6) (by simp) rfl).2 _ 1, ?_⟩ | refine ⟨cellsAre_blk (O.blk (i := 6) (by simp) rfl).2 _ 2, ?_⟩ | refine ⟨cellsAre_blk (O.blk (i := 7) (by simp) rfl).2 _ 1, ?_⟩ | refine ⟨cellsAre_blk (O.blk (i := 7) (by simp) rfl).2 _ 2, ?_⟩))
      by_cases hpr : o.m.epoch = r.prom ∨ (r.prom < o.m.epoch ∧ r.wait = 0)
      · rw [decide_eq_true hpr]
        refine brr_ff (by simp [(kp hpr).1]) ?_
        repeat (first
          | (with_reducible refine al_id ?_); refine O.al fun _ h O => ?_
          | (with_reducible refine nn_id ?_); refine ⟨_, rfl, ?_⟩
          | (with_reducible refine ld_id ?_); (first | refine O.ld 0 rfl ?_ | refine O.ld 1 rfl ?_ | refine O.ld 2 rfl ?_ | refine O.ld 3 rfl ?_ | refine O.ld 4 rfl ?_ | refine O.ld 5 rfl ?_ | refine O.ld 6 rfl ?_ | refine O.ld 7 rfl ?_); (repeat (first | (with_reducible refine ldL_n ?_) | refine ldL_s ?_ | refine ldL_c ?_))
          | (with_reducible refine st_ad (by first | (with_reducible rfl) | (simp only [pt_add, Nat.zero_add, Nat.add_zero, Nat.reduceAdd]; with_reducible rfl)) ?_); (first | refine O.st 0 rfl (by simp) rfl fun h O => ?_ | refine O.st 1 rfl (by simp) rfl fun h O => ?_ | refine O.st 2 rfl (by simp) rfl fun h O => ?_ | refine O.st 3 rfl (by simp) rfl fun h O => ?_ | refine O.st 4 rfl (by simp) rfl fun h O => ?_ | refine O.st 5 rfl (by simp) rfl fun h O => ?_ | refine O.st 6 rfl (by simp) rfl fun h O => ?_ | refine O.st 7 rfl (by simp) rfl fun h O => ?_); (dsimp only [V.put, List.set, List.length_cons, List.length_nil] at O)
          | (with_reducible refine ca_id ?_); (first | refine ⟨cellsAre_blk (O.blk (i := 0) (by simp) rfl).2 _ 1, ?_⟩ | refine ⟨cellsAre_blk (O.blk (i := 0) (by simp) rfl).2 _ 2, ?_⟩ | refine ⟨cellsAre_blk (O.blk (i := 1) (by simp) rfl).2 _ 1, ?_⟩ | refine ⟨cellsAre_blk (O.blk (i := 1) (by simp) rfl).2 _ 2, ?_⟩ | refine ⟨cellsAre_blk (O.blk (i := 2) (by simp) rfl).2 _ 1, ?_⟩ | refine ⟨cellsAre_blk (O.blk (i := 2) (by simp) rfl).2 _ 2, ?_⟩ | refine ⟨cellsAre_blk (O.blk (i := 3) (by simp) rfl).2 _ 1, ?_⟩ | refine ⟨cellsAre_blk (O.blk (i := 3) (by simp) rfl).2 _ 2, ?_⟩ | refine ⟨cellsAre_blk (O.blk (i := 4) (by simp) rfl).2 _ 1, ?_⟩ | refine ⟨cellsAre_blk (O.blk (i := 4) (by simp) rfl).2 _ 2, ?_⟩ | refine ⟨cellsAre_blk (O.blk (i := 5) (by simp) rfl).2 _ 1, ?_⟩ | refine ⟨cellsAre_blk (O.blk (i := 5) (by simp) rfl).2 _ 2, ?_⟩ | refine ⟨cellsAre_blk (O.blk (i := 6) (by simp) rfl).2 _ 1, ?_⟩ | refine ⟨cellsAre_blk (O.blk (i := 6) (by simp) rfl).2 _ 2, ?_⟩ | refine ⟨cellsAre_blk (O.blk (i := 7) (by simp) rfl).2 _ 1, ?_⟩ | refine ⟨cellsAre_blk (O.blk (i := 7) (by simp) rfl).2 _ 2, ?_⟩))
        exact hj2 _ _ ⟨rfl, by simp [(kp hpr).1]⟩
      · rw [decide_eq_false hpr]
        refine brr_ff (by simp [(kn hpr).1]) ?_
        repeat (first
          | (with_reducible refine al_id ?_); refine O.al fun _ h O => ?_
          | (with_reducible refine nn_id ?_); refine ⟨_, rfl, ?_⟩
          | (with_reducible refine ld_id ?_); (first | refine O.ld 0 rfl ?_ | refine O.ld 1 rfl ?_ | refine O.ld 2 rfl ?_ | refine O.ld 3 rfl ?_ | refine O.ld 4 rfl ?_ | refine O.ld 5 rfl ?_ | refine O.ld 6 rfl ?_ | refine O.ld 7 rfl ?_); (repeat (first | (with_reducible refine ldL_n ?_) | refine ldL_s ?_ | refine ldL_c ?_))
          | (with_reducible refine st_ad (by first | (with_reducible rfl) | (simp only [pt_add, Nat.zero_add, Nat.add_zero, Nat.reduceAdd]; with_reducible rfl)) ?_); (first | refine O.st 0 rfl (by simp) rfl fun h O => ?_ | refine O.st 1 rfl (by simp) rfl fun h O => ?_ | refine O.st 2 rfl (by simp) rfl fun h O => ?_ | refine O.st 3 rfl (by simp) rfl fun h O => ?_ | refine O.st 4 rfl (by simp) rfl fun h O => ?_ | refine O.st 5 rfl (by simp) rfl fun h O => ?_ | refine O.st 6 rfl (by simp) rfl fun h O => ?_ | refine O.st 7 rfl (by simp) rfl fun h O => ?_); (dsimp only [V.put, List.set, List.length_cons, List.length_nil] at O)
          | (with_reducible refine ca_id ?_); (first | refine ⟨cellsAre_blk (O.blk (i := 0) (by simp) rfl).2 _ 1, ?_⟩ | refine ⟨cellsAre_blk (O.blk (i := 0) (by simp) rfl).2 _ 2, ?_⟩ | refine ⟨cellsAre_blk (O.blk (i := 1) (by simp) rfl).2 _ 1, ?_⟩ | refine ⟨cellsAre_blk (O.blk (i := 1) (by simp) rfl).2 _ 2, ?_⟩ | refine ⟨cellsAre_blk (O.blk (i := 2) (by simp) rfl).2 _ 1, ?_⟩ | refine ⟨cellsAre_blk (O.blk (i := 2) (by simp) rfl).2 _ 2, ?_⟩ | refine ⟨cellsAre_blk (O.blk (i := 3) (by simp) rfl).2 _ 1, ?_⟩ | refine ⟨cellsAre_blk (O.blk (i := 3) (by simp) rfl).2 _ 2, ?_⟩ | refine ⟨cellsAre_blk (O.blk (i := 4) (by simp) rfl).2 _ 1, ?_⟩ | refine ⟨cellsAre_blk (O.blk (i := 4) (by simp) rfl).2 _ 2, ?_⟩ | refine ⟨cellsAre_blk (O.blk (i := 5) (by simp) rfl).2 _ 1, ?_⟩ | refine ⟨cellsAre_blk (O.blk (i := 5) (by simp) rfl).2 _ 2, ?_⟩ | refine ⟨cellsAre_blk (O.blk (i := 6) (by simp) rfl).2 _ 1, ?_⟩ | refine ⟨cellsAre_blk (O.blk (i := 6) (by simp) rfl).2 _ 2, ?_⟩ | refine ⟨cellsAre_blk (O.blk (i := 7) (by simp) rfl).2 _ 1, ?_⟩ | refine ⟨cellsAre_blk (O.blk (i := 7) (by simp) rfl).2 _ 2, ?_⟩))
        exact hj2 _ _ ⟨rfl, by simp [(kn hpr).1]⟩
end Go.Proofs.Ytcbelendjpnmiaa.V
