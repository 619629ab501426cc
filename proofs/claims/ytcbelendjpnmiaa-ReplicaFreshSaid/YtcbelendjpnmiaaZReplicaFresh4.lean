import Derived.Test.YtcbelendjpnmiaaZReplicaFresh3
import Derived.Test.YtcbelendjpnmiaaProg
/- Lists of bytes that carry marks, and grow: their blocks may be shared by lists of one mark. -/
namespace Go.Proofs.Ytcbelendjpnmiaa.V
open Go Go.RowKit
set_option linter.unusedVariables false
set_option linter.unusedSimpArgs false
/-- Byte k of the mark of list n. -/
def atB (m k : Nat) : UInt8 := if k % 2 = 0 then UInt8.ofNat (1 + m % 251) else UInt8.ofNat (1 + (7 * m + m / 251) % 251)
def atC (m k : Nat) : Value := .int .u8 ((atB m k).toNat : Int)
def marksB (m n : Nat) : List UInt8 := (List.range n).map (atB m)
theorem marksB_len (m n : Nat) : (marksB m n).length = n := by simp [marksB]
theorem marksB_at {m n i : Nat} (h : i < n) : (marksB m n)[i]? = some (atB m i) := by simp [marksB, h]
abbrev BE := Sl × Nat
def inFam (lab : Nat → Nat) (E : Blks) (e : BE) : Prop := e.1 = ⟨none, 0, 0⟩ ∨ ∃ b cs, (b, cs) ∈ E ∧ e.1.ptr = some (pt b 0) ∧ e.1.len ≤ e.1.cap ∧ e.1.cap = cs.length ∧ lab b = e.2 ∧ ∀ i, i < e.1.len → cs[i]? = some (atC e.2 i)
def famR (es : List BE) : Res := fun E => ∃ lab : Nat → Nat, ∀ e ∈ es, inFam lab E e
theorem famR.sub {h0 h : Heap} {L : List Res} {es fs : List BE} (O : Sat h0 h (famR es :: L)) (s : ∀ e ∈ fs, e ∈ es) : Sat h0 h (famR fs :: L) :=
  O.mono fun E ⟨lab, k⟩ => ⟨lab, fun e he => k e (s e he)⟩
theorem famR.none {h0 h : Heap} {L : List Res} (O : Sat h0 h L) : Sat h0 h (famR [] :: L) := O.empI.mono fun E _ => ⟨fun _ => 0, fun e he => by cases he⟩
theorem fam_view {h0 h : Heap} {L : List Res} (O : Sat h0 h L) (i : Nat) {es : List BE} {e : BE} (hi : i < L.length) (hn : nth i L = famR es) (he : e ∈ es) : Bytes h e.1 (marksB e.2 e.1.len) := by
  obtain ⟨E1, E2, h1, O', _⟩ := O.at i hi
  rw [hn] at h1
  obtain ⟨lab, k⟩ := h1
  rcases k e he with h | ⟨b, cs, hm, hp, hl, hc, _, ha⟩
  · rw [h]; exact View.nil
  · have B := (O'.blk _ (List.mem_append.2 (.inl hm))).2
    refine ⟨(marksB_len _ _).symm, fun j x hj => ?_⟩
    have hjl : j < e.1.len := by
      have := (List.getElem?_eq_some_iff.1 hj).1
      rwa [marksB_len] at this
    rw [marksB_at hjl] at hj
    cases hj
    refine ⟨pt b 0, u8 (atB e.2 j), hp, rfl, rfl, ?_⟩
    have hcell := ha j hjl
    have h2 := cellsAre_blk B j 1
    have e3 : (cs.drop j).take 1 = u8 (atB e.2 j) := by
      obtain ⟨hlt, e4⟩ := List.getElem?_eq_some_iff.1 hcell
      rw [List.drop_eq_getElem_cons hlt, e4]
      rfl
    rw [e3] at h2
    rw [pt_add, Nat.zero_add, Nat.mul_one]
    exact h2
theorem put_one : ∀ (cs : List Value) (o : Nat) (v : Value), V.put cs o [v] = cs.set o v
  | [], 0, v => by simp [V.put]
  | c :: cs, 0, v => by simp [V.put, put_nil]
  | [], o + 1, v => by simp [V.put]
  | c :: cs, o + 1, v => by simp [V.put, put_one cs o v]
theorem atC_one (m k : Nat) : oneV (atC m k) = true := rfl
/-- A new block becomes one of the lists. -/
theorem fam_new {h0 h : Heap} {L : List Res} {es : List BE} {b len m : Nat} {cs : List Value} (O : Sat h0 h (own b cs :: famR es :: L)) (hl : len ≤ cs.length) (ha : ∀ i, i < len → cs[i]? = some (atC m i)) : Sat h0 h (famR (es ++ [(⟨some (pt b 0), len, cs.length⟩, m)]) :: L) := by
  obtain ⟨E, ⟨E1, E2, p, hA, F1, F2, p2, ⟨lab, k⟩, h2⟩, O'⟩ := O
  have hA : E1 = [(b, cs)] := hA
  subst hA
  have pp : E.Perm (((b, cs) :: F1) ++ F2) := p.trans (List.Perm.cons _ p2)
  have OO := O'.perm pp.symm
  have hd := OO.dis
  rw [List.cons_append, List.map_cons, List.nodup_cons] at hd
  refine ⟨E, ⟨(b, cs) :: F1, F2, pp, ⟨fun x => if x = b then m else lab x, fun e he => ?_⟩, h2⟩, O'⟩
  rcases List.mem_append.1 he with he | he
  · rcases k e he with h | ⟨b', cs', hm, hp, hl', hc, hlab, ha'⟩
    · exact .inl h
    · refine .inr ⟨b', cs', List.mem_cons_of_mem _ hm, hp, hl', hc, ?_, ha'⟩
      have : b' ≠ b := by
        intro e
        subst e
        exact hd.1 (List.mem_map.2 ⟨_, List.mem_append.2 (.inl hm), rfl⟩)
      simp only [if_neg this]
      exact hlab
  · rw [List.mem_singleton.1 he]
    exact .inr ⟨b, cs, List.mem_cons_self, rfl, hl, rfl, by simp, ha⟩
theorem Sat.buf_own' {α : Type} {h0 h : Heap} {L : List Res} {sz : Nat} {enc : α → List Value} {s : Sl} {xs : List α} (O : Sat h0 h (buf sz enc s xs :: L)) (hne : xs ≠ []) : ∃ b k sp, s = ⟨some (pt b 0), xs.length, xs.length + k⟩ ∧ sp.length = k * sz ∧ Sat h0 h (own b (xs.flatMap enc ++ sp) :: L) := by
  obtain ⟨sp, O1⟩ := O.ex
  obtain ⟨E, ⟨E1, E2, p, hA, h2⟩, O2⟩ := O1
  rcases hA with ⟨rfl, rfl, _, _⟩ | ⟨b, j, rfl, hsp, rfl⟩
  · exact absurd rfl hne
  · exact ⟨b, j, sp, rfl, hsp, E, ⟨[(b, _)], E2, p, rfl, h2⟩, O2⟩
/-- A list of one's own that carries its mark becomes one of the lists. -/
theorem fam_take {h0 h : Heap} {L : List Res} {es : List BE} {s : Sl} {m : Nat} (O : Sat h0 h (buf 1 u8 s (marksB m s.len) :: famR es :: L)) : Sat h0 h (famR (es ++ [(s, m)]) :: L) := by
  by_cases hz : marksB m s.len = []
  · obtain ⟨sp, O⟩ := O.ex
    obtain ⟨E, ⟨E1, E2, p, hA, h2⟩, O'⟩ := O
    rcases hA with ⟨rfl, _, _, rfl⟩ | ⟨b, j, hs, hsp, rfl⟩
    · obtain ⟨F1, F2, p2, ⟨lab, k⟩, h2⟩ := h2
      refine ⟨E, ⟨F1, F2, p.trans p2, ⟨lab, fun e he => ?_⟩, h2⟩, O'⟩
      rcases List.mem_append.1 he with he | he
      · exact k e he
      · rw [List.mem_singleton.1 he]; exact .inl rfl
    · have O2 : Sat h0 h (own b ((marksB m s.len).flatMap u8 ++ sp) :: famR es :: L) := ⟨E, ⟨[(b, _)], E2, p, rfl, h2⟩, O'⟩
      have hl : s.len = 0 := by
        have := congrArg List.length hz
        rwa [marksB_len] at this
      have := fam_new (len := 0) (m := m) O2 (by omega) (fun i hi => by omega)
      have e : s = ⟨some (pt b 0), 0, ((marksB m s.len).flatMap u8 ++ sp).length⟩ := by
        rw [hz, List.flatMap_nil, List.nil_append, hsp]
        rw [hz] at hs
        rw [hs]
        simp
      rw [← e] at this
      exact this
  · obtain ⟨b, j, sp, hs, hsp, O⟩ := O.buf_own' hz
    have hlen := flatMap_len u8_len (marksB m s.len)
    rw [marksB_len] at hlen hs
    have := fam_new (len := s.len) (m := m) O (by rw [List.length_append]; omega) (fun i hi => by
      rw [List.getElem?_append_left (by omega)]
      have key : ∀ (l : List UInt8) (i : Nat), (l.flatMap u8)[i]? = (l[i]?).map fun x => Value.int .u8 (x.toNat : Int) := by
        intro l
        induction l with
        | nil => intro i; simp
        | cons x l ih =>
          intro i
          rw [List.flatMap_cons]
          cases i with
          | zero => rfl
          | succ i => exact ih i
      rw [key, marksB_at hi]
      rfl)
    have e : s = ⟨some (pt b 0), s.len, ((marksB m s.len).flatMap u8 ++ sp).length⟩ := by
      rw [List.length_append, hlen, hsp, Nat.mul_one, Nat.mul_one]
      exact hs
    rw [← e] at this
    exact this
/-- One byte of its mark is appended to a list. -/
theorem fam_app {h0 h : Heap} {L : List Res} {es : List BE} {a T m : Nat} {g : Sl} {K : Sl → Heap → Prop} (hl : g.len ≤ 1099511627776) (O : Sat h0 h (own a [atC m g.len] :: famR (es ++ [(g, m)]) :: L)) (k : ∀ g' h', g'.len = g.len + 1 → Sat h0 h' (famR (es ++ [(g', m)]) :: L) → K g' h') : V.app T 1 1 (.int .u8 0) g (some (pt a 0)) 1 h K := by
  have hv := fam_view O 1 (by simp) rfl (List.mem_append.2 (.inr (List.mem_singleton.2 rfl)))
  have hmem : (g, m) ∈ es ++ [(g, m)] := List.mem_append.2 (.inr (List.mem_singleton.2 rfl))
  refine ⟨[atC m g.len], rdP_own O 0 rfl 1 (by simp), fun hcap => ?_, fun hcap => ⟨growslice_fits (by exact hcap) (by simp only [Nat.mul_one]; omega), ?_⟩⟩
  · have O := O.drop
    obtain ⟨E, ⟨E1, E2, p, ⟨lab, kk⟩, h2⟩, O'⟩ := O
    rcases kk (g, m) hmem with hn | ⟨b, cs, hm, hp, hle, hc, hlab, ha⟩
    · simp only at hn
      rw [hn] at hcap
      simp at hcap
    · simp only at hp hle hc hlab ha
      obtain ⟨A, B, rfl⟩ := List.append_of_mem hm
      have pE : E.Perm ((b, cs) :: (A ++ B ++ E2)) := by
        refine p.trans ?_
        rw [List.append_assoc, List.cons_append, List.append_assoc]
        exact List.perm_middle
      have O1 := O'.perm pE.symm
      have hd := O1.dis
      rw [List.map_cons, List.nodup_cons] at hd
      rw [hp]
      simp only [Option.map_some, stP, pt_add, Nat.zero_add, Nat.mul_one]
      refine Held.st O1 (by simp only [List.length_singleton]; omega) rfl fun h' O2 => ?_
      have eput : V.put cs g.len [atC m g.len] = cs.set g.len (atC m g.len) := put_one _ _ _
      rw [eput] at O2
      refine k ⟨some (pt b 0), g.len + 1, g.cap⟩ h' rfl ⟨_, ⟨(b, cs.set g.len (atC m g.len)) :: (A ++ B), E2, List.Perm.refl _, ⟨lab, fun e he => ?_⟩, h2⟩, O2⟩
      have other : ∀ e : BE, inFam lab (A ++ (b, cs) :: B) e → inFam lab ((b, cs.set g.len (atC m g.len)) :: (A ++ B)) e := by
        intro e ie
        rcases ie with h | ⟨b', cs', hm', hp', hl', hc', hlab', ha'⟩
        · exact .inl h
        · by_cases hb : b' = b
          · subst hb
            have ecs : cs' = cs := by
              rcases List.mem_append.1 hm' with x | x
              · exact absurd (List.mem_map.2 ⟨_, List.mem_append.2 (.inl (List.mem_append.2 (.inl x))), rfl⟩) hd.1
              · rcases List.mem_cons.1 x with x | x
                · exact (Prod.mk.inj x).2
                · exact absurd (List.mem_map.2 ⟨_, List.mem_append.2 (.inl (List.mem_append.2 (.inr x))), rfl⟩) hd.1
            subst ecs
            refine .inr ⟨b', _, List.mem_cons_self, hp', hl', by rw [List.length_set]; exact hc', hlab', fun i hi => ?_⟩
            rw [List.getElem?_set]
            by_cases e2 : g.len = i
            · subst e2
              rw [if_pos rfl, if_pos (by omega), ← hlab', hlab]
            · rw [if_neg e2]
              exact ha' i hi
          · refine .inr ⟨b', cs', ?_, hp', hl', hc', hlab', ha'⟩
            rcases List.mem_append.1 hm' with x | x
            · exact List.mem_cons_of_mem _ (List.mem_append.2 (.inl x))
            · rcases List.mem_cons.1 x with x | x
              · exact absurd (Prod.mk.inj x).1 hb
              · exact List.mem_cons_of_mem _ (List.mem_append.2 (.inr x))
      rcases List.mem_append.1 he with he | he
      · exact other e (kk e (List.mem_append.2 (.inl he)))
      · rw [List.mem_singleton.1 he]
        refine .inr ⟨b, _, List.mem_cons_self, rfl, hcap, by rw [List.length_set]; exact hc, hlab, fun i hi => ?_⟩
        simp only at hi
        rw [List.getElem?_set]
        by_cases e2 : g.len = i
        · subst e2
          rw [if_pos rfl, if_pos (by omega)]
        · rw [if_neg e2]
          exact ha i (by omega)
  · refine ⟨(marksB m g.len).flatMap u8, ?_, fun c hc => ?_⟩
    · have := hv.rd u8_len
      exact this
    · have hlen := flatMap_len u8_len (marksB m g.len)
      rw [marksB_len] at hlen
      have O := O.drop
      have O2 := O.push ((marksB m g.len).flatMap u8 ++ [atC m g.len] ++ (Builtin.zeroCells (Value.int .u8 0).cells (c - (g.len + 1))).toList) T (0, 0) (.inl rfl)
      have hzl : (Builtin.zeroCells (Value.int .u8 0).cells (c - (g.len + 1))).toList.length = c - (g.len + 1) := by simp [Builtin.zeroCells, Value.cells]
      have htot : ((marksB m g.len).flatMap u8 ++ [atC m g.len] ++ (Builtin.zeroCells (Value.int .u8 0).cells (c - (g.len + 1))).toList).length = c := by
        rw [List.length_append, List.length_append, hlen, hzl, List.length_singleton]; omega
      have key : ∀ (l : List UInt8) (i : Nat), (l.flatMap u8)[i]? = (l[i]?).map fun x => Value.int .u8 (x.toNat : Int) := by
        intro l
        induction l with
        | nil => intro i; simp
        | cons x l ih =>
          intro i
          rw [List.flatMap_cons]
          cases i with
          | zero => rfl
          | succ i => exact ih i
      have O3 := fam_new (len := g.len + 1) (m := m) O2 (by omega) (fun i hi => by
        rw [List.getElem?_append_left (by rw [List.length_append, hlen, List.length_singleton]; omega)]
        by_cases e2 : i = g.len
        · subst e2
          rw [List.getElem?_append_right (by omega), hlen]
          simp
        · rw [List.getElem?_append_left (by omega), key, marksB_at (by omega)]
          rfl)
      rw [htot] at O3
      refine k _ _ rfl (famR.sub O3 fun e he => ?_)
      rcases List.mem_append.1 he with he | he
      · exact List.mem_append.2 (.inl (List.mem_append.2 (.inl he)))
      · exact List.mem_append.2 (.inr he)
end Go.Proofs.Ytcbelendjpnmiaa.V
/- The Book over lists of bytes: it finds its marks, always. -/
namespace Go.Proofs.Ytcbelendjpnmiaa.V
open Go Go.RowKit
set_option linter.unusedVariables false
set_option linter.unusedSimpArgs false
theorem wrap8K (n : Nat) : IntKind.u8.wrap (n : Int) = ((UInt8.ofNat n).toNat : Int) := by
  unfold IntKind.wrap
  simp [IntKind.bits, IntKind.signed]
theorem F_law1_at.is {h : Heap} {m k : Nat} {Q : Int → Heap → Prop} (hm : m ≤ 1099511627776) (hq : Q ((atB m k).toNat : Int) h) : F_law1_at m k h Q := by
  rw [F_law1_at.eq_1, F_law1_at_of.eq_1]
  have e2 : ((k : Int)).tmod 2 = ((k % 2 : Nat) : Int) := by rw [Int.tmod_eq_emod_of_nonneg (by omega)]; omega
  have e3 : ((m : Int)).tmod 251 = ((m % 251 : Nat) : Int) := by rw [Int.tmod_eq_emod_of_nonneg (by omega)]; omega
  have e4 : ((m : Int)).tdiv 251 = ((m / 251 : Nat) : Int) := by rw [Int.tdiv_eq_ediv_of_nonneg (by omega)]; omega
  unfold atB at hq
  refine ⟨by decide, ?_⟩
  rw [e2, e3, e4]
  refine brr_eq (fun e => ?_) (fun e => ?_)
  · rw [if_pos (by omega)] at hq
    refine ⟨by decide, ?_⟩
    rw [wrap64 (by omega) (by omega), show (1 + ((m % 251 : Nat) : Int)) = ((1 + m % 251 : Nat) : Int) by omega, wrap8K]
    exact hq
  · rw [if_neg (by omega)] at hq
    refine ⟨by decide, by decide, ?_⟩
    rw [wrap64 (x := 7 * (m : Int)) (by omega) (by omega), wrap64 (x := ((m / 251 : Nat) : Int)) (by omega) (by omega), wrap64 (x := 7 * (m : Int) + ((m / 251 : Nat) : Int)) (by omega) (by omega)]
    have e5 : (7 * (m : Int) + ((m / 251 : Nat) : Int)).tmod 251 = (((7 * m + m / 251) % 251 : Nat) : Int) := by rw [Int.tmod_eq_emod_of_nonneg (by omega)]; omega
    rw [e5, wrap64 (by omega) (by omega), show (1 + (((7 * m + m / 251) % 251 : Nat) : Int)) = ((1 + (7 * m + m / 251) % 251 : Nat) : Int) by omega, wrap8K]
    exact hq
section
variable {h0 h : Heap} {L : List Res} {bk : Nat} {s0 s1 : Sl} {n t d u : Int} {es : List BE}
theorem F_law1_Book_plain.is {Q : Bool → Heap → Prop} (hb : ∀ e ∈ es, e.1.len ≤ 1099511627776 ∧ e.2 ≤ 1099511627776) (hn : es.length ≤ 1099511627776) (O : Sat h0 h (own bk (bkC s0 s1 n t d u) :: buf 1 slc s0 (es.map (·.1)) :: buf 1 natc s1 (es.map (·.2)) :: famR es :: L)) (k : Q true h) : F_law1_Book_plain (some (pt bk 0)) h Q := by
  rw [F_law1_Book_plain.eq_1, F_law1_Book_plain_of.eq_1]
  have v0 := (O.view 1 slc_len (by simp) rfl).1
  have v1 := (O.view 2 natc_len (by simp) rfl).1
  have O1 := O
  unfold bkC at O
  refine jn0 (fun h' => h' = h) ?_ ?_
  · rintro h rfl
    refine jn_go ?_
    rw [F_law1_Book_plain.l4.eq_1]
    refine wl_now1 fun next => ?_
    simp only [nn_some, pt_add, Nat.zero_add, Nat.add_zero, Nat.reduceAdd, Nat.reduceMul, Int.toNat_zero, Int.toNat_one, Nat.zero_mul, Nat.one_mul]
    refine O.ld 0 rfl (ldL_c (k := .sl) (x := (⟨none, 0, 0⟩ : Sl)) (ldL_n ?_))
    refine brr_ff (by decide) ?_
    exact k
  intro j hj
  rw [F_law1_Book_plain.l2.eq_1]
  simp only [nn_some, pt_add, Nat.zero_add, Nat.add_zero, Nat.reduceAdd, Nat.reduceMul, Int.toNat_zero, Int.toNat_one, Nat.zero_mul, Nat.one_mul]
  refine wl1 (k := .int .i64) (fun (m : Nat) (i : Int) (h' : Heap) => 0 ≤ i ∧ i + m = es.length ∧ h' = h) ?_ (m := es.length) ⟨by omega, by omega, rfl⟩
  rintro m (i : Int) h2 next hnx ⟨hi0, him, rfl⟩
  refine O.ld 0 rfl (ldL_c (k := .sl) (x := s0) (ldL_n ?_))
  rw [v0.len, List.length_map]
  refine brr_p (fun hlt => ?_) (fun hlt => hj _ rfl)
  have hil : i.toNat < es.length := by omega
  obtain ⟨e, he⟩ : ∃ e, es[i.toNat]? = some e := ⟨_, List.getElem?_eq_getElem hil⟩
  have hem := List.mem_of_getElem? he
  have hbe := hb e hem
  have ve := fam_view O1 3 (by simp) rfl hem
  have q0 : (es.map (·.1))[i.toNat]? = some e.1 := by rw [List.getElem?_map, he]; rfl
  have q1 : (es.map (·.2))[i.toNat]? = some e.2 := by rw [List.getElem?_map, he]; rfl
  refine jn_go ?_
  refine jn_go ?_
  rw [F_law1_Book_plain.l1.eq_1]
  simp only [nn_some, pt_add, Nat.zero_add, Nat.add_zero, Nat.reduceAdd, Nat.reduceMul, Int.toNat_zero, Int.toNat_one, Nat.zero_mul, Nat.one_mul]
  refine wl1 (k := .int .i64) (fun (m' : Nat) (i' : Int) (h' : Heap) => 0 ≤ i' ∧ i' + m' = e.1.len ∧ h' = h2) ?_ (m := e.1.len) ⟨by omega, by omega, rfl⟩
  rintro m' (i' : Int) h3 next' hnx' ⟨hi0', him', rfl⟩
  refine O.ld 0 rfl (ldL_c (k := .sl) (x := s0) (ldL_n ?_))
  refine v0.getP hi0 q0 fun a hca => ?_
  refine ld_are (hca v0) (ldL_c (k := .sl) (x := e.1) (ldL_n ?_))
  refine brr_p (fun hlt' => ?_) (fun hlt' => ?_)
  · refine O.ld 0 rfl (ldL_c (k := .sl) (x := s0) (ldL_n ?_))
    refine v0.getP hi0 q0 fun a hca => ?_
    refine ld_are (hca v0) (ldL_c (k := .sl) (x := e.1) (ldL_n ?_))
    have hlt2 : i' < (e.1.len : Int) := hlt'
    refine ve.getP (x := atB e.2 i'.toNat) hi0' (marksB_at (by omega)) fun b hcb => ?_
    refine ld_are (hcb ve) (ldL_c (k := .int .u8) (x := ((atB e.2 i'.toNat).toNat : Int)) (ldL_n ?_))
    refine O.ld 0 rfl (ldL_c (k := .sl) (x := s1) (ldL_n ?_))
    refine v1.getP hi0 q1 fun c hcc => ?_
    refine ld_are (hcc v1) (ldL_c (ldL_n ?_))
    obtain ⟨kN, rfl⟩ := Int.eq_ofNat_of_zero_le hi0'
    refine F_law1_at.is hbe.2 ?_
    refine ⟨O.cells 0 rfl 0 1, hca v0, hcb ve, ?_⟩
    refine brr_ne (fun e => absurd rfl e) (fun _ => ?_)
    rw [wrap64 (by omega) (by omega)]
    exact hnx' (m' - 1) _ _ (by omega) ⟨by omega, by omega, rfl⟩
  · rw [wrap64 (by omega) (by omega)]
    exact hnx (m - 1) _ _ (by omega) ⟨by omega, by omega, rfl⟩
theorem F_law1_Book_growBytes.is {nN T : Nat} {Q : Heap → Prop} (hb : ∀ (i : Nat) e, es[i]? = some e → e.1.len ≤ (if i < nN then 5600096 else 5600000) ∧ e.2 ≤ T) (hT : T ≤ 1099511627776) (hn : nN ≤ es.length) (hes : es.length ≤ 1000000)
    (O : Sat h0 h (own bk (bkC s0 s1 nN t d u) :: buf 1 slc s0 (es.map (·.1)) :: buf 1 natc s1 (es.map (·.2)) :: famR es :: L))
    (k : ∀ s0 s1 (fs : List BE) h', fs.length ≤ es.length + 9 * (es.length - nN) → (∀ e ∈ fs, e.1.len ≤ 5600096 ∧ e.2 ≤ T) → Sat h0 h' (own bk (bkC s0 s1 fs.length t d u) :: buf 1 slc s0 (fs.map (·.1)) :: buf 1 natc s1 (fs.map (·.2)) :: famR fs :: L) → Q h') : F_law1_Book_growBytes (some (pt bk 0)) h Q := by
  rw [F_law1_Book_growBytes.eq_1, F_law1_Book_growBytes_of.eq_1]
  have v0 := (O.view 1 slc_len (by simp) rfl).1
  have hs0 := v0.len
  rw [List.length_map] at hs0
  have ld0 : ∀ {h : Heap} {M : List Res} {s0 s1 : Sl} {n : Int} {K : Sl → Prop}, Sat h0 h (own bk (bkC s0 s1 n t d u) :: M) → K s0 → ld [.sl] (pt bk 0) h K := fun O k => O.ld 0 rfl (ldL_c (k := .sl) (ldL_n k))
  have ld1 : ∀ {h : Heap} {M : List Res} {s0 s1 : Sl} {n : Int} {K : Sl → Prop}, Sat h0 h (own bk (bkC s0 s1 n t d u) :: M) → K s1 → ld [.sl] (pt bk 1) h K := fun O k => O.ld 0 rfl (ldL_c (k := .sl) (ldL_n k))
  have ld2 : ∀ {h : Heap} {M : List Res} {s0 s1 : Sl} {n : Int} {K : Int → Prop}, Sat h0 h (own bk (bkC s0 s1 n t d u) :: M) → K n → ld [.int .i64] (pt bk 2) h K := fun O k => O.ld 0 rfl (ldL_c (ldL_n k))
  have st0 : ∀ {h : Heap} {M : List Res} {s0 s1 s : Sl} {n : Int} {K : Heap → Prop}, Sat h0 h (own bk (bkC s0 s1 n t d u) :: M) → (∀ h', Sat h0 h' (own bk (bkC s s1 n t d u) :: M) → K h') → st (pt bk 0) [.slice s.ptr s.len s.cap] h K := by
    intro h M s0 s1 s n K O k
    unfold bkC at O
    refine O.st 0 rfl (by simp) rfl fun h O => ?_
    dsimp only [V.put, List.set] at O
    exact k h O
  have st1 : ∀ {h : Heap} {M : List Res} {s0 s1 s : Sl} {n : Int} {K : Heap → Prop}, Sat h0 h (own bk (bkC s0 s1 n t d u) :: M) → (∀ h', Sat h0 h' (own bk (bkC s0 s n t d u) :: M) → K h') → st (pt bk 1) [.slice s.ptr s.len s.cap] h K := by
    intro h M s0 s1 s n K O k
    unfold bkC at O
    refine O.st 0 rfl (by simp) rfl fun h O => ?_
    dsimp only [V.put, List.set] at O
    exact k h O
  have st2 : ∀ {h : Heap} {M : List Res} {s0 s1 : Sl} {n n' : Int} {K : Heap → Prop}, Sat h0 h (own bk (bkC s0 s1 n t d u) :: M) → (∀ h', Sat h0 h' (own bk (bkC s0 s1 n' t d u) :: M) → K h') → st (pt bk 2) [.int .i64 n'] h K := by
    intro h M s0 s1 n n' K O k
    unfold bkC at O
    refine O.st 0 rfl (by simp) rfl fun h O => ?_
    dsimp only [V.put, List.set] at O
    exact k h O
  simp only [nn_some, pt_add, Nat.zero_add, Nat.add_zero, Nat.reduceAdd, Nat.reduceMul, Int.toNat_zero, Int.toNat_one, Nat.zero_mul, Nat.one_mul]
  refine ld0 O ?_
  refine ld2 O ?_
  refine jn0 (fun h' => ∃ (s0 s1 : Sl) (X : List BE), X.length ≤ 9 * (es.length - nN) ∧ (∀ e ∈ X, e.1.len ≤ 5600096 ∧ e.2 ≤ T) ∧ Sat h0 h' (own bk (bkC s0 s1 nN t d u) :: buf 1 slc s0 ((es ++ X).map (·.1)) :: buf 1 natc s1 ((es ++ X).map (·.2)) :: famR (es ++ X) :: L)) ?_ ?_
  · clear O v0
    rintro h ⟨s0, s1, X, hX, hXb, O⟩
    refine ld0 O ?_
    have hl := (O.view 1 slc_len (by simp) rfl).1.len
    rw [List.length_map] at hl
    rw [hl]
    refine st2 O fun h O => ?_
    refine k s0 s1 (es ++ X) h (by rw [List.length_append]; omega) (fun e he => ?_) O
    rcases List.mem_append.1 he with he | he
    · obtain ⟨i, hi⟩ := List.getElem?_of_mem he
      have := hb i e hi
      refine ⟨?_, this.2⟩
      have h2 := this.1
      split at h2 <;> omega
    · exact hXb e he
  intro j6 hj6
  rw [F_law1_Book_growBytes.l2.eq_1, hs0]
  simp only [nn_some, pt_add, Nat.zero_add, Nat.add_zero, Nat.reduceAdd, Nat.reduceMul, Int.toNat_zero, Int.toNat_one, Nat.zero_mul, Nat.one_mul]
  refine wl1 (k := .int .i64) (fun (m : Nat) (kk : Int) (h' : Heap) => (nN : Int) ≤ kk ∧ kk + m = es.length ∧ ∃ (s0 s1 : Sl) (X : List BE), (X.length : Int) ≤ 9 * (kk - nN) ∧ (∀ e ∈ X, e.1.len ≤ 5600096 ∧ e.2 ≤ T) ∧ Sat h0 h' (own bk (bkC s0 s1 nN t d u) :: buf 1 slc s0 ((es ++ X).map (·.1)) :: buf 1 natc s1 ((es ++ X).map (·.2)) :: famR (es ++ X) :: L)) ?_ (m := es.length - nN) ⟨by omega, by omega, s0, s1, [], by simp, by simp, by rw [List.append_nil]; exact O⟩
  clear O v0 hs0
  rintro m (kk : Int) h next hnx ⟨hk0, hkm, s0, s1, X, hX, hXb, O⟩
  refine brr_p (fun hlt => ?_) (fun hlt => hj6 _ ⟨s0, s1, X, by omega, hXb, O⟩)
  obtain ⟨kN, rfl⟩ := Int.eq_ofNat_of_zero_le (show 0 ≤ kk by omega)
  have hlt : kN < es.length := by
    have hlt : (kN : Int) < (es.length : Int) := hlt
    omega
  obtain ⟨⟨g0, m0⟩, he⟩ : ∃ e, es[kN]? = some e := ⟨_, List.getElem?_eq_getElem hlt⟩
  obtain ⟨hg0, hm0⟩ := hb kN _ he
  rw [if_neg (by omega)] at hg0
  simp only at hg0 hm0
  have he2 : (es ++ X)[((kN : Nat) : Int).toNat]? = some (g0, m0) := by rw [Int.toNat_natCast, List.getElem?_append_left hlt]; exact he
  refine ld0 O ?_
  have v0 := (O.view 1 slc_len (by simp) rfl).1
  have v1 := (O.view 2 natc_len (by simp) rfl).1
  refine v0.get1 (k := .sl) (by omega) (x := g0) (by rw [List.getElem?_map, he2]; rfl) id (fun _ => rfl) ?_
  refine ld1 O ?_
  refine v1.get1 (k := .int .i64) (by omega) (x := m0) (by rw [List.getElem?_map, he2]; rfl) (fun x => (x : Int)) (fun _ => rfl) ?_
  simp only [id_eq]
  clear v0 v1
  refine jn_go ?_
  rw [F_law1_Book_growBytes.l1.eq_1]
  simp only [nn_some, pt_add, Nat.zero_add, Nat.add_zero, Nat.reduceAdd, Nat.reduceMul, Int.toNat_zero, Int.toNat_one, Nat.zero_mul, Nat.one_mul]
  have O : Sat h0 h (own bk (bkC s0 s1 nN t d u) :: buf 1 slc s0 ((es ++ X).map (·.1)) :: buf 1 natc s1 ((es ++ X).map (·.2)) :: famR (es ++ X ++ [(g0, m0)]) :: L) := by
    have O2 := O.sel [3, 0, 1, 2] 4 rfl (Nat.le_add_left _ _)
    have O3 := famR.sub (fs := es ++ X ++ [(g0, m0)]) O2 (fun e hx => by
      rcases List.mem_append.1 hx with hx | hx
      · exact hx
      · rw [List.mem_singleton.1 hx]; exact List.mem_append.2 (.inl (List.mem_of_getElem? he)))
    exact O3.sel [1, 2, 3, 0] 4 rfl (Nat.le_add_left _ _)
  refine wl2 (k := .sl) (l := .int .i64) (fun (M : Nat) (g : Sl) (i : Int) (h' : Heap) => i + M = 97 ∧ 1 ≤ i ∧ (g.len : Int) = g0.len + (i - 1) ∧ ∃ (s0 s1 : Sl) (X : List BE), (X.length : Int) ≤ 9 * ((kN : Int) - nN) + (if i - 1 < 3 then i - 1 else 3) + (i - 1) / 16 ∧ (∀ e ∈ X, e.1.len ≤ 5600096 ∧ e.2 ≤ T) ∧ Sat h0 h' (own bk (bkC s0 s1 nN t d u) :: buf 1 slc s0 ((es ++ X).map (·.1)) :: buf 1 natc s1 ((es ++ X).map (·.2)) :: famR (es ++ X ++ [(g, m0)]) :: L)) ?_ (m := 96) ⟨by omega, by omega, by omega, s0, s1, X, by split <;> omega, hXb, O⟩
  clear O hXb hX he2
  rintro M (g : Sl) (i : Int) h next' hnx' ⟨hiM, hi1, hgl, s0, s1, X, hX, hXb, O⟩
  refine brr_p (fun hlt2 => ?_) (fun hlt2 => ?_)
  case refine_2 =>
    have h97 : i = 97 := by
      have hlt2 : ¬ i ≤ 96 := hlt2
      omega
    subst h97
    rw [wrap64 (by omega) (by omega)]
    refine hnx (m - 1) _ _ (by omega) ⟨by omega, by omega, s0, s1, X, by split at hX <;> omega, hXb, ?_⟩
    have O2 := O.sel [3, 0, 1, 2] 4 rfl (Nat.le_add_left _ _)
    have O3 := famR.sub (fs := es ++ X) O2 (fun e hx => List.mem_append.2 (.inl hx))
    exact O3.sel [1, 2, 3, 0] 4 rfl (Nat.le_add_left _ _)
  have hlt2 : i ≤ 96 := hlt2
  refine F_law1_at.is (by omega) ?_
  refine O.al fun a h O => ?_
  replace O := O.sel [0, 4, 1, 2, 3] 5 rfl (Nat.le_add_left _ _)
  simp only [selT, List.map, nth, List.drop, List.cons_append, List.nil_append] at O
  refine fam_app (by omega) O fun g' h hg' O => ?_
  refine jn1 (fun z h' => z = decide (i < 4 ∨ i % 16 = 0) ∧ h' = h) ?_ ?_
  case refine_2 =>
    intro j30 hj30
    refine brr_p (fun h4 => ?_) (fun h4 => ?_)
    · exact hj30 _ _ ⟨(decide_eq_true (.inl h4)).symm, rfl⟩
    · refine ⟨by decide, hj30 _ _ ⟨?_, rfl⟩⟩
      rw [Int.tmod_eq_emod_of_nonneg (by omega)]
      by_cases h16 : i % 16 = 0
      · rw [decide_eq_true (.inr h16), h16]; rfl
      · rw [decide_eq_false (fun x => x.elim h4 h16)]
        exact beq_eq_false_iff_ne.2 h16
  rintro z h2 ⟨rfl, rfl⟩
  refine jn0 (fun h' => ∃ (s0 s1 : Sl) (X : List BE), (X.length : Int) ≤ 9 * ((kN : Int) - nN) + (if i < 3 then i else 3) + i / 16 ∧ (∀ e ∈ X, e.1.len ≤ 5600096 ∧ e.2 ≤ T) ∧ Sat h0 h' (own bk (bkC s0 s1 nN t d u) :: buf 1 slc s0 ((es ++ X).map (·.1)) :: buf 1 natc s1 ((es ++ X).map (·.2)) :: famR (es ++ X ++ [(g', m0)]) :: L)) ?_ ?_
  · clear O
    rintro h ⟨s0, s1, X, hX', hXb, O⟩
    rw [wrap64 (by omega) (by omega)]
    refine hnx' (M - 1) _ _ _ (by omega) ⟨by omega, by omega, by omega, s0, s1, X, by rw [show i + 1 - 1 = i by omega]; exact hX', hXb, O⟩
  intro j33 hj33
  refine brr_p (fun hp => ?_) (fun hp => ?_)
  case refine_2 =>
    refine hj33 _ ⟨s0, s1, X, ?_, hXb, O.sel [1, 2, 3, 0] 4 rfl (Nat.le_add_left _ _)⟩
    split at hX <;> split <;> omega
  have hXl : X.length ≤ 9000100 := by split at hX <;> omega
  have hesX : (es ++ X).length ≤ 10000100 := by rw [List.length_append]; omega
  have O : Sat h0 h2 (own bk (bkC s0 s1 nN t d u) :: buf 1 slc s0 ((es ++ X).map (·.1)) :: buf 1 natc s1 ((es ++ X).map (·.2)) :: famR (es ++ X ++ [(g', m0)]) :: L) := O.sel [1, 2, 3, 0] 4 rfl (Nat.le_add_left _ _)
  refine ld0 O ?_
  have O := O.swap
  refine O.push_buf g' rfl slc_len slc_one rfl (by rw [List.length_map]; omega) fun s38 h O _ => ?_
  refine st0 O.swap fun h O => ?_
  refine ld1 O ?_
  replace O := O.sel [2, 0, 1, 3] 4 rfl (Nat.le_add_left _ _)
  simp only [selT, List.map, nth, List.drop, List.cons_append, List.nil_append] at O
  refine O.push_buf m0 rfl natc_len natc_one rfl (by rw [List.length_map]; omega) fun s46 h O _ => ?_
  refine st1 O.swap fun h O => ?_
  have e1 : (es ++ X).map (·.1) ++ [g'] = (es ++ (X ++ [(g', m0)])).map (·.1) := by simp
  have e2 : (es ++ X).map (·.2) ++ [m0] = (es ++ (X ++ [(g', m0)])).map (·.2) := by simp
  rw [e1, e2] at O
  refine hj33 _ ⟨s38, s46, X ++ [(g', m0)], ?_, ?_, ?_⟩
  · rw [List.length_append, List.length_singleton]
    split at hX <;> split <;> omega
  · intro e hx
    rcases List.mem_append.1 hx with hx | hx
    · exact hXb e hx
    · rw [List.mem_singleton.1 hx]
      exact ⟨by show g'.len ≤ _; omega, hm0⟩
  · have O2 := O.sel [3, 0, 1, 2] 4 rfl (Nat.le_add_left _ _)
    have O3 := famR.sub (fs := es ++ (X ++ [(g', m0)]) ++ [(g', m0)]) O2 (fun e hx => by
      rcases List.mem_append.1 hx with hx | hx
      · rw [← List.append_assoc] at hx; exact hx
      · exact List.mem_append.2 (.inr hx))
    exact O3.sel [1, 3, 2, 0] 4 rfl (Nat.le_add_left _ _)
end
end Go.Proofs.Ytcbelendjpnmiaa.V
/- The Book over lists of bytes: what is given to it, what it answers. -/
namespace Go.Proofs.Ytcbelendjpnmiaa.V
open Go Go.RowKit
set_option linter.unusedVariables false
set_option linter.unusedSimpArgs false
structure BkS where
  s0 : Sl
  s1 : Sl
  es : List BE
  n : Nat
  t : Nat
  d : Nat
  u : Nat
structure BkS.Ok (x : BkS) (T : Nat) : Prop where
  t : x.t ≤ T
  n : x.n ≤ x.es.length
  room : 120 * (x.es.length + 9 * (x.es.length - x.n)) ≤ x.u
  u : x.u ≤ 16777216
  len : ∀ (i : Nat) e, x.es[i]? = some e → e.1.len ≤ (if i < x.n then 5600096 else 5600000) ∧ e.2 ≤ T
def bkR (bk T : Nat) : Res := ex fun x : BkS => pr (x.Ok T) (sep (own bk (bkC x.s0 x.s1 x.n x.t x.d x.u)) (sep (buf 1 slc x.s0 (x.es.map (·.1))) (sep (buf 1 natc x.s1 (x.es.map (·.2))) (famR x.es))))
theorem Sat.book {h0 h : Heap} {L : List Res} {bk T : Nat} (O : Sat h0 h (bkR bk T :: L)) : ∃ x : BkS, x.Ok T ∧ Sat h0 h (own bk (bkC x.s0 x.s1 x.n x.t x.d x.u) :: buf 1 slc x.s0 (x.es.map (·.1)) :: buf 1 natc x.s1 (x.es.map (·.2)) :: famR x.es :: L) := by
  obtain ⟨x, O⟩ := O.ex
  obtain ⟨o, O⟩ := O.pr
  have O := O.sep.swap.sep.swap.sep
  exact ⟨x, o, O.sel [3, 2, 0, 1] 4 rfl (Nat.le_add_left _ _)⟩
theorem Sat.bookI {h0 h : Heap} {L : List Res} {bk T : Nat} {x : BkS} (o : x.Ok T) (O : Sat h0 h (own bk (bkC x.s0 x.s1 x.n x.t x.d x.u) :: buf 1 slc x.s0 (x.es.map (·.1)) :: buf 1 natc x.s1 (x.es.map (·.2)) :: famR x.es :: L)) : Sat h0 h (bkR bk T :: L) := by
  have O := (O.sel [2, 3, 0, 1] 4 rfl (Nat.le_add_left _ _)).sepI
  have O := (O.sel [2, 0, 1] 3 rfl (Nat.le_add_left _ _)).sepI
  exact (Sat.prI o (O.swap.sepI)).exI x
section
variable {h0 h : Heap} {L : List Res} {bk T : Nat}
theorem F_law1_Book_holds.is {x : BkS} {Q : Bool → Heap → Prop} (hb : ∀ e ∈ x.es, e.1.len ≤ 1099511627776 ∧ e.2 ≤ 1099511627776) (hn : x.es.length ≤ 1099511627776) (O : Sat h0 h (own bk (bkC x.s0 x.s1 x.n x.t x.d x.u) :: buf 1 slc x.s0 (x.es.map (·.1)) :: buf 1 natc x.s1 (x.es.map (·.2)) :: famR x.es :: L)) (k : Q true h) : F_law1_Book_holds (some (pt bk 0)) h Q := by
  rw [F_law1_Book_holds.eq_1, F_law1_Book_holds_of.eq_1]
  refine jn1 (fun z h' => z = true ∧ h' = h) ?_ ?_
  · rintro z h ⟨rfl, rfl⟩
    exact k
  · intro j hj
    refine F_law1_Book_plain.is hb hn O ?_
    refine brr_tt rfl ?_
    refine F_law1_Book_kept.is O ?_
    refine brr_tt rfl ?_
    refine F_law1_Book_told.is O ?_
    refine brr_tt rfl ?_
    refine F_law1_Book_held.is O ?_
    exact hj _ _ ⟨rfl, rfl⟩
theorem BkS.Ok.lens {x : BkS} (o : x.Ok T) (hT : T ≤ 1099511627776) : ∀ e ∈ x.es, e.1.len ≤ 1099511627776 ∧ e.2 ≤ 1099511627776 := by
  intro e he
  obtain ⟨i, hi⟩ := List.getElem?_of_mem he
  have := o.len i e hi
  refine ⟨?_, by omega⟩
  have h2 := this.1
  split at h2 <;> omega
theorem F_law1_Book_Look.is {Q : Bool → Heap → Prop} (hT : T ≤ 1099511627776) (O : Sat h0 h (bkR bk T :: L)) (k : ∀ h', Sat h0 h' (bkR bk T :: L) → Q true h') : F_law1_Book_Look (some (pt bk 0)) h Q := by
  rw [F_law1_Book_Look.eq_1, F_law1_Book_Look_of.eq_1]
  obtain ⟨x, o, O⟩ := O.book
  have h1 := o.room; have h2 := o.u; have h3 := o.n
  refine F_law1_Book_holds.is (o.lens hT) (by omega) O ?_
  refine brr_ff rfl ?_
  simp only [nn_some, pt_add, Nat.zero_add, Nat.add_zero, Nat.reduceAdd, Nat.reduceMul, Int.toNat_zero, Int.toNat_one, Nat.zero_mul, Nat.one_mul]
  have O1 := O
  unfold bkC at O1
  refine O1.ld 0 rfl (ldL_c (ldL_n ?_))
  refine O1.ld 0 rfl (ldL_c (ldL_n ?_))
  refine brr_eq (fun _ => k h (Sat.bookI o O)) (fun _ => ?_)
  rw [F_law1_Book_grow.eq_1, F_law1_Book_grow_of.eq_1]
  refine F_law1_Book_growBytes.is o.len hT o.n (by omega) O fun s0 s1 fs h hfs hfb O => ?_
  refine F_law1_Book_growRows.is O fun h O => ?_
  refine F_law1_Book_growTexts.is O fun h O => ?_
  refine F_law1_Book_growInts.is O fun h O => ?_
  refine F_law1_Book_growWords.is O fun h O => ?_
  refine F_law1_Book_growDones.is O fun h O => ?_
  refine F_law1_Book_growAccts.is O fun h O => ?_
  refine F_law1_Book_growQueue.is O fun h O => ?_
  refine F_law1_Book_growSlots.is O fun h O => ?_
  refine F_law1_Book_growMsgs.is O fun h O => ?_
  refine F_law1_Book_growFlights.is O fun h O => ?_
  refine F_law1_Book_growFiles.is O fun h O => ?_
  simp only [nn_some, pt_add, Nat.zero_add, Nat.add_zero, Nat.reduceAdd, Nat.reduceMul, Int.toNat_zero, Int.toNat_one, Nat.zero_mul, Nat.one_mul]
  have O1 := O
  unfold bkC at O1
  refine O1.ld 0 rfl (ldL_c (ldL_n ?_))
  refine O1.st 0 rfl (by simp) rfl fun h O => ?_
  dsimp only [V.put, List.set] at O
  have O : Sat h0 h (own bk (bkC s0 s1 fs.length x.t x.t x.u) :: buf 1 slc s0 (fs.map (·.1)) :: buf 1 natc s1 (fs.map (·.2)) :: famR fs :: L) := O
  have o2 : BkS.Ok ⟨s0, s1, fs, fs.length, x.t, x.t, x.u⟩ T := by
    refine ⟨o.t, Nat.le_refl _, ?_, o.u, fun i e hi => ?_⟩
    · show 120 * (fs.length + 9 * (fs.length - fs.length)) ≤ x.u
      omega
    · have hl := (List.getElem?_eq_some_iff.1 hi).1
      rw [if_pos hl]
      exact hfb e (List.mem_of_getElem? hi)
  refine F_law1_Book_holds.is (x := ⟨s0, s1, fs, fs.length, x.t, x.t, x.u⟩) (o2.lens hT) (by show fs.length ≤ _; omega) O ?_
  exact k h (Sat.bookI o2 O)
theorem marks_set {m i : Nat} {xs : List UInt8} (hi : i < xs.length) : (marksB m i ++ xs.drop i).set i (atB m i) = marksB m (i + 1) ++ xs.drop (i + 1) := by
  have e1 : xs.drop i = xs[i] :: xs.drop (i + 1) := List.drop_eq_getElem_cons hi
  rw [e1, List.set_append_right _ _ (by rw [marksB_len]; exact Nat.le_refl _), marksB_len, Nat.sub_self, List.set_cons_zero]
  have e2 : marksB m (i + 1) = marksB m i ++ [atB m i] := by unfold marksB; rw [List.range_succ, List.map_append]; rfl
  rw [e2, List.append_assoc]
  rfl
theorem F_law1_Book_Bytes.is {s : Sl} {xs : List UInt8} {Q : Heap → Prop} (hT : T ≤ 1099511627) (hx : xs.length ≤ 281474976710656) (O : Sat h0 h (buf 1 u8 s xs :: bkR bk T :: L)) (k : ∀ h', Sat h0 h' (bkR bk (T + 1) :: L) → Q h') : F_law1_Book_Bytes (some (pt bk 0)) s h Q := by
  rw [F_law1_Book_Bytes.eq_1, F_law1_Book_Bytes_of.eq_1]
  obtain ⟨x, o, O⟩ := O.swap.book
  have h1 := o.room; have h2 := o.u; have h3 := o.n; have h4 := o.t
  have hsl := (O.view 4 u8_len (by simp) rfl).1.len
  simp only [nn_some, pt_add, Nat.zero_add, Nat.add_zero, Nat.reduceAdd, Nat.reduceMul, Int.toNat_zero, Int.toNat_one, Nat.zero_mul, Nat.one_mul]
  unfold bkC at O
  refine O.ld 0 rfl (ldL_c (ldL_n ?_))
  refine O.st 0 rfl (by simp) rfl fun h O => ?_
  dsimp only [V.put, List.set] at O
  rw [wrap64 (by omega) (by omega)] at O
  refine O.ld 0 rfl (ldL_c (ldL_n ?_))
  have em : (x.t : Int) + 1 = ((x.t + 1 : Nat) : Int) := by omega
  rw [em] at O ⊢
  have O : Sat h0 h (own bk (bkC x.s0 x.s1 x.n (x.t + 1 : Nat) x.d x.u) :: buf 1 slc x.s0 (x.es.map (·.1)) :: buf 1 natc x.s1 (x.es.map (·.2)) :: famR x.es :: buf 1 u8 s xs :: L) := O
  replace O := O.sel [4, 0, 1, 2, 3] 5 rfl (Nat.le_add_left _ _)
  simp only [selT, List.map, nth, List.drop, List.cons_append, List.nil_append] at O
  refine jn0 (fun h' => Sat h0 h' (buf 1 u8 s (marksB (x.t + 1) s.len) :: own bk (bkC x.s0 x.s1 x.n (x.t + 1 : Nat) x.d x.u) :: buf 1 slc x.s0 (x.es.map (·.1)) :: buf 1 natc x.s1 (x.es.map (·.2)) :: famR x.es :: L)) ?_ ?_
  case refine_2 =>
    intro j hj
    rw [F_law1_Book_Bytes.l1.eq_1, hsl]
    rw [hsl] at hj
    refine wl1 (k := .int .i64) (fun (m : Nat) (i : Int) (h' : Heap) => 0 ≤ i ∧ i + m = xs.length ∧ Sat h0 h' (buf 1 u8 s (marksB (x.t + 1) i.toNat ++ xs.drop i.toNat) :: own bk (bkC x.s0 x.s1 x.n (x.t + 1 : Nat) x.d x.u) :: buf 1 slc x.s0 (x.es.map (·.1)) :: buf 1 natc x.s1 (x.es.map (·.2)) :: famR x.es :: L)) ?_ (m := xs.length) ⟨by omega, by omega, by rw [show marksB (x.t + 1) (0 : Int).toNat = [] from rfl]; exact O⟩
    clear O
    rintro m (i : Int) h next hn ⟨hi0, him, O⟩
    obtain ⟨i, rfl⟩ := Int.eq_ofNat_of_zero_le hi0
    simp only [Int.toNat_natCast] at O
    refine brr_p (fun hlt => ?_) (fun hlt => ?_)
    · have hil : i < xs.length := by omega
      refine F_law1_at.is (by omega) ?_
      refine O.put1 u8_len u8_one (by omega) (by rw [List.length_append, marksB_len, List.length_drop]; omega) (atB (x.t + 1) i) rfl fun h O => ?_
      rw [Int.toNat_natCast, marks_set hil] at O
      rw [wrap64 (by omega) (by omega)]
      refine hn (m - 1) _ _ (by omega) ⟨by omega, by omega, ?_⟩
      rw [show ((i : Int) + 1).toNat = i + 1 by omega]
      exact O
    · rw [List.drop_eq_nil_of_le (by omega), List.append_nil, show i = xs.length by omega] at O
      exact hj _ O
  clear O
  intro h O
  rw [F_law1_Book_tight.eq_1, F_law1_Book_tight_of.eq_1]
  simp only [nn_some, pt_add, Nat.zero_add, Nat.add_zero, Nat.reduceAdd, Nat.reduceMul, Int.toNat_zero, Int.toNat_one, Nat.zero_mul, Nat.one_mul]
  replace O := O.sel [1, 2, 3, 4, 0] 5 rfl (Nat.le_add_left _ _)
  simp only [selT, List.map, nth, List.drop, List.cons_append, List.nil_append] at O
  unfold bkC at O
  refine O.ld 0 rfl (ldL_c (ldL_n ?_))
  have ew : IntKind.i64.wrap (1200 + IntKind.i64.wrap (3 * ((s.len : Nat) : Int))) = 1200 + 3 * (xs.length : Int) := by
    rw [hsl, wrap64 (x := 3 * (xs.length : Int)) (by omega) (by omega), wrap64 (by omega) (by omega)]
  rw [ew, wrap64 (x := (x.u : Int) + (1200 + 3 * (xs.length : Int))) (by omega) (by omega)]
  have olen : ∀ (i : Nat) e, x.es[i]? = some e → e.1.len ≤ (if i < x.n then 5600096 else 5600000) ∧ e.2 ≤ T + 1 := fun i e hi => ⟨(o.len i e hi).1, Nat.le_succ_of_le (o.len i e hi).2⟩
  refine brr_p (fun hp => ?_) (fun hp => ?_)
  · refine brr_tt rfl ?_
    have O := O.sel [0, 1, 2, 3] 5 rfl (Nat.le_add_left _ _)
    exact k h (Sat.bookI (x := ⟨x.s0, x.s1, x.es, x.n, x.t + 1, x.d, x.u⟩) ⟨by show x.t + 1 ≤ T + 1; omega, o.n, o.room, o.u, olen⟩ O)
  · have hp : ¬ (x.u : Int) + (1200 + 3 * (xs.length : Int)) > 16777216 := hp
    refine O.ld 0 rfl (ldL_c (ldL_n ?_))
    refine O.st 0 rfl (by simp) rfl fun h O => ?_
    dsimp only [V.put, List.set] at O
    rw [show (x.u : Int) + (1200 + 3 * (xs.length : Int)) = ((x.u + (1200 + 3 * xs.length) : Nat) : Int) by omega, wrap64 (by omega) (by omega)] at O
    refine brr_ff rfl ?_
    refine O.ld 0 rfl (ldL_c (k := .sl) (x := x.s0) (ldL_n ?_))
    have O := O.swap
    refine O.push_buf s rfl slc_len slc_one rfl (by rw [List.length_map]; omega) fun s2 h O _ => ?_
    have O := O.swap
    refine O.st 0 rfl (by simp) rfl fun h O => ?_
    dsimp only [V.put, List.set] at O
    refine O.ld 0 rfl (ldL_c (k := .sl) (x := x.s1) (ldL_n ?_))
    replace O := O.sel [2, 0, 1, 3, 4] 5 rfl (Nat.le_add_left _ _)
    simp only [selT, List.map, nth, List.drop, List.cons_append, List.nil_append] at O
    refine O.push_buf (x.t + 1) rfl natc_len natc_one rfl (by rw [List.length_map]; omega) fun s3 h O _ => ?_
    have O := O.swap
    refine O.st 0 rfl (by simp) rfl fun h O => ?_
    dsimp only [V.put, List.set] at O
    replace O := O.sel [4, 3, 0, 2, 1] 5 rfl (Nat.le_add_left _ _)
    simp only [selT, List.map, nth, List.drop, List.cons_append, List.nil_append] at O
    have O := fam_take O
    have O : Sat h0 h (famR (x.es ++ [(s, x.t + 1)]) :: own bk (bkC s2 s3 x.n (x.t + 1 : Nat) x.d (x.u + (1200 + 3 * xs.length) : Nat)) :: buf 1 slc s2 (x.es.map (·.1) ++ [s]) :: buf 1 natc s3 (x.es.map (·.2) ++ [x.t + 1]) :: L) := O
    have e1 : x.es.map (·.1) ++ [s] = (x.es ++ [(s, x.t + 1)]).map (·.1) := by simp
    have e2 : x.es.map (·.2) ++ [x.t + 1] = (x.es ++ [(s, x.t + 1)]).map (·.2) := by simp
    rw [e1, e2] at O
    replace O := O.sel [1, 2, 3, 0] 4 rfl (Nat.le_add_left _ _)
    simp only [selT, List.map, nth, List.drop, List.cons_append, List.nil_append] at O
    have el : (x.es ++ [(s, x.t + 1)]).length = x.es.length + 1 := by simp
    refine k h (Sat.bookI (x := ⟨s2, s3, x.es ++ [(s, x.t + 1)], x.n, x.t + 1, x.d, x.u + (1200 + 3 * xs.length)⟩) ⟨by show x.t + 1 ≤ T + 1; omega, by show x.n ≤ (x.es ++ [(s, x.t + 1)]).length; omega, by show 120 * ((x.es ++ [(s, x.t + 1)]).length + 9 * ((x.es ++ [(s, x.t + 1)]).length - x.n)) ≤ x.u + (1200 + 3 * xs.length); omega, by show x.u + (1200 + 3 * xs.length) ≤ _; omega, fun i e hi => ?_⟩ O)
    have hi : (x.es ++ [(s, x.t + 1)])[i]? = some e := hi
    by_cases hlt : i < x.es.length
    · rw [List.getElem?_append_left hlt] at hi
      exact olen i e hi
    · rw [List.getElem?_append_right (by omega)] at hi
      have hi0 : i - x.es.length = 0 := by
        have := (List.getElem?_eq_some_iff.1 hi).1
        simp at this
        omega
      rw [hi0] at hi
      cases hi
      refine ⟨?_, by show x.t + 1 ≤ T + 1; omega⟩
      rw [if_neg (by show ¬ i < x.n; omega)]
      show s.len ≤ _
      omega
end
end Go.Proofs.Ytcbelendjpnmiaa.V
/- An array in the midst of a struct: its elements of one cell are read and written. -/
namespace Go.Proofs.Ytcbelendjpnmiaa.V
open Go Go.RowKit
set_option linter.unusedVariables false
set_option linter.unusedSimpArgs false
variable {α : Type}
theorem flat1_at {enc : α → List Value} (he : ∀ x, (enc x).length = 1) : ∀ {xs : List α} {i : Nat} {x : α}, xs[i]? = some x → (xs.flatMap enc).drop i = enc x ++ (xs.drop (i + 1)).flatMap enc := by
  intro xs
  induction xs with
  | nil => intro i x h; simp at h
  | cons y xs ih =>
    intro i x h
    cases i with
    | zero => cases h; rfl
    | succ i =>
      rw [List.flatMap_cons]
      have hy := he y
      match hyy : enc y, hy with
      | [v], _ => exact ih h
theorem Sat.getO {h0 h : Heap} {L : List Res} (O : Sat h0 h L) (j : Nat) {b o n : Nat} {enc : α → List Value} {xs : List α} {pre ys : List Value} {i : Int} {k : Kd} {K : Addr → k.T → Prop} {x : α} (he : ∀ x, (enc x).length = 1) (hj : nth j L = own b (pre ++ (xs.flatMap enc ++ ys))) (ho : o = pre.length) (h0 : 0 ≤ i) (h1 : i < (n : Int)) (hx : xs[i.toNat]? = some x) (f : α → k.T) (hf : ∀ x, enc x = [k.enc (f x)])
    (kk : ∀ a, (∀ {h0' h' : Heap} {L' : List Res}, Sat h0' h' L' → ∀ j', nth j' L' = own b (pre ++ (xs.flatMap enc ++ ys)) → cellsAre h' a (enc x)) → K a (f x)) : ixA 1 (pt b o) n i fun a => V.ld [k] a h (K a) := by
  refine ⟨h0, h1, ?_⟩
  have hc : ∀ {h0' h' : Heap} {L' : List Res}, Sat h0' h' L' → ∀ j', nth j' L' = own b (pre ++ (xs.flatMap enc ++ ys)) → cellsAre h' ((pt b o).add (i.toNat * 1)) (enc x) := by
    intro h0' h' L' O' j' hj'
    have B := (O'.blk (nth_lt hj') hj').2
    have h2 := cellsAre_blk B (o + i.toNat) 1
    have hl := (List.getElem?_eq_some_iff.1 hx).1
    have e1 : ((pre ++ (xs.flatMap enc ++ ys)).drop (o + i.toNat)).take 1 = enc x := by
      rw [ho, ← List.drop_drop, List.drop_left, List.drop_append_of_le_length (by rw [flatMap_len he]; omega), flat1_at he hx, List.append_assoc, List.take_append_of_le_length (by rw [he]; exact Nat.le_refl _), List.take_of_length_le (by rw [he]; exact Nat.le_refl _)]
    rw [e1] at h2
    rw [pt_add, Nat.mul_one]
    exact h2
  have h1 := hc O j hj
  rw [hf] at h1
  exact ld_are h1 (ldL_c (ldL_n (kk _ hc)))
theorem put_behind {pre : List Value} : ∀ (cs : List Value) (i : Nat) (v : List Value), V.put (pre ++ cs) (pre.length + i) v = pre ++ V.put cs i v := by
  induction pre with
  | nil => intro cs i v; simp
  | cons c pre ih =>
    intro cs i v
    rw [List.length_cons, show pre.length + 1 + i = (pre.length + i) + 1 by omega]
    show c :: V.put (pre ++ cs) (pre.length + i) v = _
    rw [ih]
    rfl
theorem Sat.putO {h0 h : Heap} {L : List Res} {b o n : Nat} {enc : α → List Value} {xs : List α} {pre ys : List Value} {i : Int} {K : Heap → Prop} (O : Sat h0 h (own b (pre ++ (xs.flatMap enc ++ ys)) :: L)) (he : ∀ x, (enc x).length = 1) (ho : ∀ x, (enc x).all oneV = true) (hoo : o = pre.length) (hn : n = xs.length)
    (hi0 : 0 ≤ i) (hi1 : i < (n : Int)) (y : α) {cs : List Value} (hcs : cs = enc y) (k : ∀ h', Sat h0 h' (own b (pre ++ ((xs.set i.toNat y).flatMap enc ++ ys)) :: L) → K h') : ixA 1 (pt b o) n i fun a => V.st a cs h K := by
  subst hcs hn hoo
  refine ⟨hi0, hi1, ?_⟩
  rw [pt_add, Nat.mul_one]
  have hl := flatMap_len he xs
  refine O.st 0 rfl (by rw [he, List.length_append, List.length_append, hl]; omega) (ho y) fun h' O => ?_
  rw [put_behind, set_flat1 he xs ys i.toNat y (by omega)] at O
  exact k _ O
end Go.Proofs.Ytcbelendjpnmiaa.V
namespace Go.Proofs.Ytcbelendjpnmiaa.V
open Go Go.RowKit
set_option linter.unusedVariables false
set_option maxRecDepth 100000
def F_law1_Over.l1 (l1 : Sl) (j2 : Heap → Prop) : Int → Heap → Prop :=
  wl [(2, .one (.int .i64))] (fun (next3 : Int → Heap → Prop) (i4 : Int) (h5 : Heap) =>
  brr (decide (i4 < ((l1.len : Nat) : Int)))
  (ixS 1 l1 i4 fun (a6 : Addr) =>
  st a6 [.int .u8 238] h5 fun (h7 : Heap) =>
  next3 (IntKind.i64.wrap (i4 + 1)) h7)
  (j2 h5))
def F_law1_Over_of  (l1 : Sl) (h : Heap) (Q : Heap → Prop) : Prop :=
  jn [] (fun  (h8 : Heap) =>
  Q h8) (fun (j2 : Heap → Prop) =>
  F_law1_Over.l1 l1 j2 0 h)
def F_law1_Over (l1 : Sl) (h : Heap) (Q : Heap → Prop) : Prop := F_law1_Over_of  l1 h Q
def plan50 : Plan := .s (.r [0, 2]) (.bj [] [] (.l [(2, .one (.int .i64))] [0] (.s (.s (.r [0, 2, 6]) (.c .z .z)) (.s (.b (.r [0, 2])) (.r [0, 2])))))
theorem F_law1_Over.eq  (l1 : Sl) (h : Heap) (K : Value → Heap → Prop) : F_law1_Over_of  l1 h (fun  (h : Heap) => K (.tuple #[]) h) =
    den Try.prog noFns Try.f50.ntmps plan50 (bodyOf Try.f50) (args0 0 [(.slice l1.ptr l1.len l1.cap : Value)]) h ⟨fun env h => dRes Try.prog Try.f50.results.toList env h K, fun _ _ _ => False, fun env h => dRes Try.prog Try.f50.results.toList env h K⟩ := by kernel_rfl
def E_law1_Over_of (f : Sl → Heap → (Heap → Prop) → Prop) : List Value → Heap → (Value → Heap → Prop) → Prop
  | [v0], h, K => dec1 .sl v0 fun (l1 : Sl) =>
  f l1 h (fun  (h : Heap) => K (.tuple #[]) h)
  | _, _, _ => False
abbrev E_law1_Over := E_law1_Over_of F_law1_Over
theorem E_law1_Over.right : IsRight Try.prog 50 E_law1_Over := by
  refine isRight fun vs K w hh => ?_
  match vs, hh with
  | [v0], hh =>
    unfold E_law1_Over E_law1_Over_of at hh
    replace hh := dec1_sound hh; obtain ⟨l1, rfl, hh⟩ := hh
    unfold F_law1_Over at hh
    exact calls_den noFns_right plan50 _ w K Try.func50 (by kernel_rfl) (by kernel_rfl) (Eq.mp (F_law1_Over.eq  l1 w.heap K) hh)
theorem ok50 : okFn Try.prog 50 = true := by kernel_rfl
end Go.Proofs.Ytcbelendjpnmiaa.V
namespace Go.Proofs.Ytcbelendjpnmiaa.V
open Go Go.RowKit
set_option linter.unusedVariables false
set_option maxRecDepth 100000
def F_law9_stage_fresh_of (f10_ : Sl → Heap → (Option Addr → Heap → Prop) → Prop) (f47_ : Sl → Heap → (Sl → Heap → Prop) → Prop) (f48_ : Sl → Heap → (Option Addr → Heap → Prop) → Prop) (f49_ : Sl → Sl → Heap → (Bool → Heap → Prop) → Prop) (f50_ : Sl → Heap → (Heap → Prop) → Prop) (t1 : Option Addr) (k2 : Int) (value3 : Sl) (h : Heap) (Q : Bool → Heap → Prop) : Prop :=
  f47_ value3 h fun (r4 : Sl) (h5 : Heap) =>
  nn t1 fun (a6 : Addr) =>
  f10_ r4 h5 fun (r7 : Option Addr) (h8 : Heap) =>
  ixA 1 (a6.add 0) 2 k2 fun (a9 : Addr) =>
  st a9 [.pointer r7] h8 fun (h10 : Heap) =>
  nn t1 fun (a11 : Addr) =>
  f48_ value3 h10 fun (r12 : Option Addr) (h13 : Heap) =>
  ixA 1 (a11.add 2) 2 k2 fun (a14 : Addr) =>
  st a14 [.pointer r12] h13 fun (h15 : Heap) =>
  f49_ r4 value3 h15 fun (r16 : Bool) (h17 : Heap) =>
  f50_ r4 h17 fun  (h18 : Heap) =>
  jn [(6, .one .bool)] (fun (x23 : Bool) (h24 : Heap) =>
  Q x23 h24) (fun (j19 : Bool → Heap → Prop) =>
  brr r16
  (nn t1 fun (a20 : Addr) =>
  ixA 1 (a20.add 0) 2 k2 fun (a21 : Addr) =>
  ld [.ptr] a21 h18 fun (v22 : Option Addr) =>
  j19 (!v22.isNone) h18)
  (j19 false h18))
def F_law9_stage_fresh (t1 : Option Addr) (k2 : Int) (value3 : Sl) (h : Heap) (Q : Bool → Heap → Prop) : Prop := F_law9_stage_fresh_of F_replica_New F_law1_Lend F_ref9_New F_law1_Intact F_law1_Over t1 k2 value3 h Q
def plan33 : Plan := .s (.r [0, 1, 2]) (.s (.r [0, 1, 2, 7]) (.s (.d [0, 0, 0, 4, 1, 17, 63, 127] [[0, 1, 2, 4, 5, 3, 6, 7]] [0, 1, 2, 7]) (.s (.d [0, 0, 0, 4, 1, 17, 63, 127] [[0, 1, 2, 4, 5, 3, 6, 7]] [0, 1, 2, 7]) (.s (.r [0, 1, 7, 8]) (.s (.r [0, 1, 8]) (.s (.rj [(6, .one .bool)] []) .z))))))
theorem F_law9_stage_fresh.eq (f10_ : Sl → Heap → (Option Addr → Heap → Prop) → Prop) (f47_ : Sl → Heap → (Sl → Heap → Prop) → Prop) (f48_ : Sl → Heap → (Option Addr → Heap → Prop) → Prop) (f49_ : Sl → Sl → Heap → (Bool → Heap → Prop) → Prop) (f50_ : Sl → Heap → (Heap → Prop) → Prop) (t1 : Option Addr) (k2 : Int) (value3 : Sl) (h : Heap) (K : Value → Heap → Prop) : F_law9_stage_fresh_of f10_ f47_ f48_ f49_ f50_ t1 k2 value3 h (fun (r0 : Bool) (h : Heap) => K (.bool r0) h) =
    den Try.prog (fn1 10 (E_replica_New_of f10_) (fn1 47 (E_law1_Lend_of f47_) (fn1 48 (E_ref9_New_of f48_) (fn1 49 (E_law1_Intact_of f49_) (fn1 50 (E_law1_Over_of f50_) noFns))))) Try.f33.ntmps plan33 (bodyOf Try.f33) (args0 0 [(.pointer t1 : Value), (.int .i64 k2 : Value), (.slice value3.ptr value3.len value3.cap : Value)]) h ⟨fun env h => dRes Try.prog Try.f33.results.toList env h K, fun _ _ _ => False, fun env h => dRes Try.prog Try.f33.results.toList env h K⟩ := by kernel_rfl
def E_law9_stage_fresh_of (f : Option Addr → Int → Sl → Heap → (Bool → Heap → Prop) → Prop) : List Value → Heap → (Value → Heap → Prop) → Prop
  | [v0, v1, v2], h, K => dec1 .ptr v0 fun (t1 : Option Addr) =>
  dec1 (.int .i64) v1 fun (k2 : Int) =>
  dec1 .sl v2 fun (value3 : Sl) =>
  f t1 k2 value3 h (fun (r0 : Bool) (h : Heap) => K (.bool r0) h)
  | _, _, _ => False
abbrev E_law9_stage_fresh := E_law9_stage_fresh_of F_law9_stage_fresh
theorem E_law9_stage_fresh.right : IsRight Try.prog 33 E_law9_stage_fresh := by
  refine isRight fun vs K w hh => ?_
  match vs, hh with
  | [v0, v1, v2], hh =>
    unfold E_law9_stage_fresh E_law9_stage_fresh_of at hh
    replace hh := dec1_sound hh; obtain ⟨t1, rfl, hh⟩ := hh
    replace hh := dec1_sound hh; obtain ⟨k2, rfl, hh⟩ := hh
    replace hh := dec1_sound hh; obtain ⟨value3, rfl, hh⟩ := hh
    unfold F_law9_stage_fresh at hh
    exact calls_den (fn1_right ok10 E_replica_New.right (fn1_right ok47 E_law1_Lend.right (fn1_right ok48 E_ref9_New.right (fn1_right ok49 E_law1_Intact.right (fn1_right ok50 E_law1_Over.right noFns_right))))) plan33 _ w K Try.func33 (by kernel_rfl) (by kernel_rfl) (Eq.mp (F_law9_stage_fresh.eq F_replica_New F_law1_Lend F_ref9_New F_law1_Intact F_law1_Over t1 k2 value3 w.heap K) hh)
theorem ok33 : okFn Try.prog 33 = true := by kernel_rfl
end Go.Proofs.Ytcbelendjpnmiaa.V
namespace Go.Proofs.Ytcbelendjpnmiaa.V
open Go Go.RowKit
set_option linter.unusedVariables false
set_option maxRecDepth 100000
def F_law9_into_of  (n1 m2 : Int) (h : Heap) (Q : Int → Heap → Prop) : Prop :=
  m2 ≠ 0 ∧
  jn [(5, .one (.int .i64))] (fun (k4 : Int) (h5 : Heap) =>
  Q k4 h5) (fun (j3 : Int → Heap → Prop) =>
  brr (decide ((n1.tmod m2) < 0))
  (j3 (IntKind.i64.wrap ((n1.tmod m2) + m2)) h)
  (j3 (n1.tmod m2) h))
def F_law9_into (n1 m2 : Int) (h : Heap) (Q : Int → Heap → Prop) : Prop := F_law9_into_of  n1 m2 h Q
def plan9 : Plan := .s (.r [0, 1]) (.s (.r [1, 5]) (.s (.s (.r [1, 5, 10]) (.cj [(5, .one (.int .i64))] [] (.r [5]) .z)) (.s (.r [4]) .z)))
theorem F_law9_into.eq  (n1 m2 : Int) (h : Heap) (K : Value → Heap → Prop) : F_law9_into_of  n1 m2 h (fun (r0 : Int) (h : Heap) => K (.int .i64 r0) h) =
    den Try.prog noFns Try.f9.ntmps plan9 (bodyOf Try.f9) (args0 0 [(.int .i64 n1 : Value), (.int .i64 m2 : Value)]) h ⟨fun env h => dRes Try.prog Try.f9.results.toList env h K, fun _ _ _ => False, fun env h => dRes Try.prog Try.f9.results.toList env h K⟩ := by kernel_rfl
def E_law9_into_of (f : Int → Int → Heap → (Int → Heap → Prop) → Prop) : List Value → Heap → (Value → Heap → Prop) → Prop
  | [v0, v1], h, K => dec1 (.int .i64) v0 fun (n1 : Int) =>
  dec1 (.int .i64) v1 fun (m2 : Int) =>
  f n1 m2 h (fun (r0 : Int) (h : Heap) => K (.int .i64 r0) h)
  | _, _, _ => False
abbrev E_law9_into := E_law9_into_of F_law9_into
theorem E_law9_into.right : IsRight Try.prog 9 E_law9_into := by
  refine isRight fun vs K w hh => ?_
  match vs, hh with
  | [v0, v1], hh =>
    unfold E_law9_into E_law9_into_of at hh
    replace hh := dec1_sound hh; obtain ⟨n1, rfl, hh⟩ := hh
    replace hh := dec1_sound hh; obtain ⟨m2, rfl, hh⟩ := hh
    unfold F_law9_into at hh
    exact calls_den noFns_right plan9 _ w K Try.func9 (by kernel_rfl) (by kernel_rfl) (Eq.mp (F_law9_into.eq  n1 m2 w.heap K) hh)
theorem ok9 : okFn Try.prog 9 = true := by kernel_rfl
end Go.Proofs.Ytcbelendjpnmiaa.V
namespace Go.Proofs.Ytcbelendjpnmiaa.V
open Go Go.RowKit
set_option linter.unusedVariables false
set_option maxRecDepth 100000
def F_law9_stage_stored_of (f23_ : Option Addr → Heap → (Int → Int → Int → Sl → Heap → Prop) → Prop) (f26_ : Int → Int → Int → Sl → Int → Int → Int → Sl → Heap → (Bool → Heap → Prop) → Prop) (f28_ : Option Addr → Heap → (Int → Heap → Prop) → Prop) (f40_ : Option Addr → Heap → (Int → Int → Int → Sl → Heap → Prop) → Prop) (f57_ : Option Addr → Heap → (Int → Heap → Prop) → Prop) (f58_ : Option Addr → Sl → Heap → (Heap → Prop) → Prop) (t1 : Option Addr) (k2 : Int) (h : Heap) (Q : Bool → Heap → Prop) : Prop :=
  nn t1 fun (a3 : Addr) =>
  ixA 1 (a3.add 0) 2 k2 fun (a4 : Addr) =>
  ld [.ptr] a4 h fun (v5 : Option Addr) =>
  f23_ v5 h fun (r6 r7 r8 : Int) (r9 : Sl) (h10 : Heap) =>
  al 44 [.int .u64 0, .int .u64 0, .int .u64 0, .slice none 0 0] h10 fun (a11 : Addr) (h12 : Heap) =>
  st a11 [.int .u64 r6, .int .u64 r7, .int .u64 r8, .slice r9.ptr r9.len r9.cap] h12 fun (h13 : Heap) =>
  jn [(6, .one .bool)] (fun (ok39 : Bool) (h40 : Heap) =>
  nn t1 fun (a41 : Addr) =>
  ld [.bool] (a41.add 5) h40 fun (v42 : Bool) =>
  jn [] (fun  (h48 : Heap) =>
  Q ok39 h48) (fun (j43 : Heap → Prop) =>
  brr v42
  (nn t1 fun (a44 : Addr) =>
  ld [.ptr] (a44.add 4) h40 fun (v45 : Option Addr) =>
  ld [.sl] (a11.add 3) h40 fun (v46 : Sl) =>
  f58_ v45 v46 h40 fun  (h47 : Heap) =>
  j43 h47)
  (j43 h40))) (fun (j14 : Bool → Heap → Prop) =>
  ld [.int .u64, .int .u64, .int .u64, .sl] a11 h13 fun (v15 v16 v17 : Int) (v18 : Sl) =>
  nn t1 fun (a19 : Addr) =>
  ixA 1 (a19.add 2) 2 k2 fun (a20 : Addr) =>
  ld [.ptr] a20 h13 fun (v21 : Option Addr) =>
  f40_ v21 h13 fun (r22 r23 r24 : Int) (r25 : Sl) (h26 : Heap) =>
  cellsAre h26 a11 [.int .u64 v15, .int .u64 v16, .int .u64 v17, .slice v18.ptr v18.len v18.cap] ∧
  f26_ v15 v16 v17 v18 r22 r23 r24 r25 h26 fun (r27 : Bool) (h28 : Heap) =>
  brr r27
  (nn t1 fun (a29 : Addr) =>
  ixA 1 (a29.add 0) 2 k2 fun (a30 : Addr) =>
  ld [.ptr] a30 h28 fun (v31 : Option Addr) =>
  nn t1 fun (a32 : Addr) =>
  ixA 1 (a32.add 2) 2 k2 fun (a33 : Addr) =>
  ld [.ptr] a33 h28 fun (v34 : Option Addr) =>
  f28_ v31 h28 fun (r35 : Int) (h36 : Heap) =>
  cellsAre h36 a33 [.pointer v34] ∧
  f57_ v34 h36 fun (r37 : Int) (h38 : Heap) =>
  j14 (r35 == r37) h38)
  (j14 false h28))
def F_law9_stage_stored (t1 : Option Addr) (k2 : Int) (h : Heap) (Q : Bool → Heap → Prop) : Prop := F_law9_stage_stored_of F_replica_Replica_Stored F_ref0_EqStored F_replica_Replica_Wait F_ref9_Replica_Stored F_ref9_Replica_Wait F_law1_Book_Bytes t1 k2 h Q
def plan36 : Plan := .s (.r [0, 1]) (.s (.r [0, 1, 5]) (.s (.dj [0, 0, 0, 2, 10, 30, 62, 126, 255, 511, 1023, 1023, 2047, 6143, 16383, 32767, 65535, 1023, 1023, 132095, 656383, 1967103, 4064255, 8388607, 16777215, 33554431, 67108863] [[0, 1, 2, 3, 4, 5, 6, 7, 8, 9, 10, 11, 12, 13, 14, 15, 17, 18, 19, 20, 21, 22, 16, 23, 24, 25, 26]] [(6, .one .bool)] [0, 5]) (.s (.s (.r [0, 5, 6, 43]) (.cj [] [6] (.d [0, 1, 3, 7, 0, 16, 63] [[0, 1, 2, 3, 4, 5, 6]] [6]) .z)) (.s (.r [4]) .z))))
theorem F_law9_stage_stored.eq (f23_ : Option Addr → Heap → (Int → Int → Int → Sl → Heap → Prop) → Prop) (f26_ : Int → Int → Int → Sl → Int → Int → Int → Sl → Heap → (Bool → Heap → Prop) → Prop) (f28_ : Option Addr → Heap → (Int → Heap → Prop) → Prop) (f40_ : Option Addr → Heap → (Int → Int → Int → Sl → Heap → Prop) → Prop) (f57_ : Option Addr → Heap → (Int → Heap → Prop) → Prop) (f58_ : Option Addr → Sl → Heap → (Heap → Prop) → Prop) (t1 : Option Addr) (k2 : Int) (h : Heap) (K : Value → Heap → Prop) : F_law9_stage_stored_of f23_ f26_ f28_ f40_ f57_ f58_ t1 k2 h (fun (r0 : Bool) (h : Heap) => K (.bool r0) h) =
    den Try.prog (fn1 23 (E_replica_Replica_Stored_of f23_) (fn1 26 (E_ref0_EqStored_of f26_) (fn1 28 (E_replica_Replica_Wait_of f28_) (fn1 40 (E_ref9_Replica_Stored_of f40_) (fn1 57 (E_ref9_Replica_Wait_of f57_) (fn1 58 (E_law1_Book_Bytes_of f58_) noFns)))))) Try.f36.ntmps plan36 (bodyOf Try.f36) (args0 0 [(.pointer t1 : Value), (.int .i64 k2 : Value)]) h ⟨fun env h => dRes Try.prog Try.f36.results.toList env h K, fun _ _ _ => False, fun env h => dRes Try.prog Try.f36.results.toList env h K⟩ := by kernel_rfl
def E_law9_stage_stored_of (f : Option Addr → Int → Heap → (Bool → Heap → Prop) → Prop) : List Value → Heap → (Value → Heap → Prop) → Prop
  | [v0, v1], h, K => dec1 .ptr v0 fun (t1 : Option Addr) =>
  dec1 (.int .i64) v1 fun (k2 : Int) =>
  f t1 k2 h (fun (r0 : Bool) (h : Heap) => K (.bool r0) h)
  | _, _, _ => False
abbrev E_law9_stage_stored := E_law9_stage_stored_of F_law9_stage_stored
theorem E_law9_stage_stored.right : IsRight Try.prog 36 E_law9_stage_stored := by
  refine isRight fun vs K w hh => ?_
  match vs, hh with
  | [v0, v1], hh =>
    unfold E_law9_stage_stored E_law9_stage_stored_of at hh
    replace hh := dec1_sound hh; obtain ⟨t1, rfl, hh⟩ := hh
    replace hh := dec1_sound hh; obtain ⟨k2, rfl, hh⟩ := hh
    unfold F_law9_stage_stored at hh
    exact calls_den (fn1_right ok23 E_replica_Replica_Stored.right (fn1_right ok26 E_ref0_EqStored.right (fn1_right ok28 E_replica_Replica_Wait.right (fn1_right ok40 E_ref9_Replica_Stored.right (fn1_right ok57 E_ref9_Replica_Wait.right (fn1_right ok58 E_law1_Book_Bytes.right noFns_right)))))) plan36 _ w K Try.func36 (by kernel_rfl) (by kernel_rfl) (Eq.mp (F_law9_stage_stored.eq F_replica_Replica_Stored F_ref0_EqStored F_replica_Replica_Wait F_ref9_Replica_Stored F_ref9_Replica_Wait F_law1_Book_Bytes t1 k2 w.heap K) hh)
theorem ok36 : okFn Try.prog 36 = true := by kernel_rfl
end Go.Proofs.Ytcbelendjpnmiaa.V
namespace Go.Proofs.Ytcbelendjpnmiaa.V
open Go Go.RowKit
set_option linter.unusedVariables false
set_option maxRecDepth 100000
def F_law9_stage_hear_of (f12_ : Int → Int → Int → Int → Int → Int → Int → Int → Int → Int → Sl → Int → Int → ByteArray → ByteArray → Int → Int → Int → Int → Int → Int → Int → Heap → (Int → Int → Int → Int → Int → Int → Int → Int → Int → Int → Sl → Int → Int → ByteArray → ByteArray → Int → Int → Int → Int → Int → Int → Int → Heap → Prop) → Prop) (f13_ : Option Addr → Int → Int → Int → Int → Int → Int → Int → Int → Int → Int → Sl → Int → Int → ByteArray → ByteArray → Int → Int → Int → Int → Int → Int → Int → Heap → (Int → Int → Int → Int → Int → Int → Int → Int → Int → Int → Sl → Int → Int → ByteArray → ByteArray → Int → Int → Int → Int → Int → Int → Int → Bool → Bool → Bool → Heap → Prop) → Prop) (f29_ : Int → Int → Int → Int → Int → Int → Int → Int → Int → Int → Sl → Int → Int → ByteArray → ByteArray → Int → Int → Int → Int → Int → Int → Int → Int → Int → Int → Int → Int → Int → Int → Int → Int → Int → Sl → Int → Int → ByteArray → ByteArray → Int → Int → Int → Int → Int → Int → Int → Heap → (Bool → Heap → Prop) → Prop) (f38_ : Option Addr → Int → Int → Int → Int → Int → Int → Int → Int → Int → Int → Sl → Int → Int → ByteArray → ByteArray → Int → Int → Int → Int → Int → Int → Int → Heap → (Int → Int → Int → Int → Int → Int → Int → Int → Int → Int → Sl → Int → Int → ByteArray → ByteArray → Int → Int → Int → Int → Int → Int → Int → Bool → Bool → Bool → Heap → Prop) → Prop) (f47_ : Sl → Heap → (Sl → Heap → Prop) → Prop) (f49_ : Sl → Sl → Heap → (Bool → Heap → Prop) → Prop) (f50_ : Sl → Heap → (Heap → Prop) → Prop) (f58_ : Option Addr → Sl → Heap → (Heap → Prop) → Prop) (t1 : Option Addr) (k2 m3 m4 m5 m6 m7 m8 m9 m10 m11 m12 : Int) (m13 : Sl) (m14 m15 : Int) (m16 m17 : ByteArray) (m18 m19 m20 m21 m22 m23 m24 : Int) (h : Heap) (Q : Bool → Heap → Prop) : Prop :=
  al 42 [.int .i64 m3, .int .i64 m4, .int .i64 m5, .int .i64 m6, .int .u64 m7, .int .u64 m8, .int .u64 m9, .int .u64 m10, .int .i64 m11, .int .u64 m12, .slice m13.ptr m13.len m13.cap, .int .i64 m14, .int .u64 m15, .string m16, .string m17, .int .u64 m18, .int .u64 m19, .int .u64 m20, .int .i64 m21, .int .i64 m22, .int .i64 m23, .int .i64 m24] h fun (a25 : Addr) (h26 : Heap) =>
  ld [.sl] (a25.add 10) h26 fun (v27 : Sl) =>
  f47_ v27 h26 fun (r28 : Sl) (h29 : Heap) =>
  ld [.int .i64, .int .i64, .int .i64, .int .i64, .int .u64, .int .u64, .int .u64, .int .u64, .int .i64, .int .u64, .sl, .int .i64, .int .u64, .str, .str, .int .u64, .int .u64, .int .u64, .int .i64, .int .i64, .int .i64, .int .i64] a25 h29 fun (v30 v31 v32 v33 v34 v35 v36 v37 v38 v39 : Int) (v40 : Sl) (v41 v42 : Int) (v43 v44 : ByteArray) (v45 v46 v47 v48 v49 v50 v51 : Int) =>
  al 42 [.int .i64 0, .int .i64 0, .int .i64 0, .int .i64 0, .int .u64 0, .int .u64 0, .int .u64 0, .int .u64 0, .int .i64 0, .int .u64 0, .slice none 0 0, .int .i64 0, .int .u64 0, .string (⟨#[]⟩ : ByteArray), .string (⟨#[]⟩ : ByteArray), .int .u64 0, .int .u64 0, .int .u64 0, .int .i64 0, .int .i64 0, .int .i64 0, .int .i64 0] h29 fun (a52 : Addr) (h53 : Heap) =>
  st a52 [.int .i64 v30, .int .i64 v31, .int .i64 v32, .int .i64 v33, .int .u64 v34, .int .u64 v35, .int .u64 v36, .int .u64 v37, .int .i64 v38, .int .u64 v39, .slice v40.ptr v40.len v40.cap, .int .i64 v41, .int .u64 v42, .string v43, .string v44, .int .u64 v45, .int .u64 v46, .int .u64 v47, .int .i64 v48, .int .i64 v49, .int .i64 v50, .int .i64 v51] h53 fun (h54 : Heap) =>
  st (a52.add 10) [.slice r28.ptr r28.len r28.cap] h54 fun (h55 : Heap) =>
  jn [(9, .one .addr)] (fun (h_165 : Addr) (h166 : Heap) =>
  jn [(10, .one .addr)] (fun (w399 : Addr) (h400 : Heap) =>
  jn [(11, .one .bool)] (fun (ok457 : Bool) (h458 : Heap) =>
  f50_ r28 h458 fun  (h459 : Heap) =>
  nn t1 fun (a460 : Addr) =>
  ld [.bool] (a460.add 5) h459 fun (v461 : Bool) =>
  jn [] (fun  (h467 : Heap) =>
  Q ok457 h467) (fun (j462 : Heap → Prop) =>
  brr v461
  (nn t1 fun (a463 : Addr) =>
  ld [.ptr] (a463.add 4) h459 fun (v464 : Option Addr) =>
  ld [.sl] ((h_165.add 0).add 10) h459 fun (v465 : Sl) =>
  f58_ v464 v465 h459 fun  (h466 : Heap) =>
  j462 h466)
  (j462 h459))) (fun (j401 : Bool → Heap → Prop) =>
  ld [.int .i64, .int .i64, .int .i64, .int .i64, .int .u64, .int .u64, .int .u64, .int .u64, .int .i64, .int .u64, .sl, .int .i64, .int .u64, .str, .str, .int .u64, .int .u64, .int .u64, .int .i64, .int .i64, .int .i64, .int .i64] (h_165.add 0) h400 fun (v402 v403 v404 v405 v406 v407 v408 v409 v410 v411 : Int) (v412 : Sl) (v413 v414 : Int) (v415 v416 : ByteArray) (v417 v418 v419 v420 v421 v422 v423 : Int) =>
  ld [.int .i64, .int .i64, .int .i64, .int .i64, .int .u64, .int .u64, .int .u64, .int .u64, .int .i64, .int .u64, .sl, .int .i64, .int .u64, .str, .str, .int .u64, .int .u64, .int .u64, .int .i64, .int .i64, .int .i64, .int .i64] (w399.add 0) h400 fun (v424 v425 v426 v427 v428 v429 v430 v431 v432 v433 : Int) (v434 : Sl) (v435 v436 : Int) (v437 v438 : ByteArray) (v439 v440 v441 v442 v443 v444 v445 : Int) =>
  f29_ v402 v403 v404 v405 v406 v407 v408 v409 v410 v411 v412 v413 v414 v415 v416 v417 v418 v419 v420 v421 v422 v423 v424 v425 v426 v427 v428 v429 v430 v431 v432 v433 v434 v435 v436 v437 v438 v439 v440 v441 v442 v443 v444 v445 h400 fun (r446 : Bool) (h447 : Heap) =>
  brr r446
  (ld [.bool] (h_165.add 22) h447 fun (v448 : Bool) =>
  ld [.bool] (w399.add 22) h447 fun (v449 : Bool) =>
  brr (v448 == v449)
  (ld [.bool] (h_165.add 23) h447 fun (v450 : Bool) =>
  ld [.bool] (w399.add 23) h447 fun (v451 : Bool) =>
  brr (v450 == v451)
  (ld [.bool] (h_165.add 24) h447 fun (v452 : Bool) =>
  ld [.bool] (w399.add 24) h447 fun (v453 : Bool) =>
  brr (v452 == v453)
  (ld [.sl] (a25.add 10) h447 fun (v454 : Sl) =>
  f49_ r28 v454 h447 fun (r455 : Bool) (h456 : Heap) =>
  j401 r455 h456)
  (j401 false h447))
  (j401 false h447))
  (j401 false h447))
  (j401 false h447))) (fun (j167 : Addr → Heap → Prop) =>
  (nn t1 fun (a168 : Addr) =>
  ixA 1 (a168.add 2) 2 k2 fun (a169 : Addr) =>
  ld [.ptr] a169 h166 fun (v170 : Option Addr) =>
  ld [.int .i64, .int .i64, .int .i64, .int .i64, .int .u64, .int .u64, .int .u64, .int .u64, .int .i64, .int .u64, .sl, .int .i64, .int .u64, .str, .str, .int .u64, .int .u64, .int .u64, .int .i64, .int .i64, .int .i64, .int .i64] a25 h166 fun (v171 v172 v173 v174 v175 v176 v177 v178 v179 v180 : Int) (v181 : Sl) (v182 v183 : Int) (v184 v185 : ByteArray) (v186 v187 v188 v189 v190 v191 v192 : Int) =>
  f12_ v171 v172 v173 v174 v175 v176 v177 v178 v179 v180 v181 v182 v183 v184 v185 v186 v187 v188 v189 v190 v191 v192 h166 fun (r193 r194 r195 r196 r197 r198 r199 r200 r201 r202 : Int) (r203 : Sl) (r204 r205 : Int) (r206 r207 : ByteArray) (r208 r209 r210 r211 r212 r213 r214 : Int) (h215 : Heap) =>
  cellsAre h215 a169 [.pointer v170] ∧
  f38_ v170 r193 r194 r195 r196 r197 r198 r199 r200 r201 r202 r203 r204 r205 r206 r207 r208 r209 r210 r211 r212 r213 r214 h215 fun (r216 r217 r218 r219 r220 r221 r222 r223 r224 r225 : Int) (r226 : Sl) (r227 r228 : Int) (r229 r230 : ByteArray) (r231 r232 r233 r234 r235 r236 r237 : Int) (r238 r239 r240 : Bool) (h241 : Heap) =>
  al 115 [.int .i64 0, .int .i64 0, .int .i64 0, .int .i64 0, .int .u64 0, .int .u64 0, .int .u64 0, .int .u64 0, .int .i64 0, .int .u64 0, .slice none 0 0, .int .i64 0, .int .u64 0, .string (⟨#[]⟩ : ByteArray), .string (⟨#[]⟩ : ByteArray), .int .u64 0, .int .u64 0, .int .u64 0, .int .i64 0, .int .i64 0, .int .i64 0, .int .i64 0, .bool false, .bool false, .bool false] h241 fun (a242 : Addr) (h243 : Heap) =>
  cellsAre h243 a169 [.pointer v170] ∧
  cellsAre h243 a25 [.int .i64 v171, .int .i64 v172, .int .i64 v173, .int .i64 v174, .int .u64 v175, .int .u64 v176, .int .u64 v177, .int .u64 v178, .int .i64 v179, .int .u64 v180, .slice v181.ptr v181.len v181.cap, .int .i64 v182, .int .u64 v183, .string v184, .string v185, .int .u64 v186, .int .u64 v187, .int .u64 v188, .int .i64 v189, .int .i64 v190, .int .i64 v191, .int .i64 v192] ∧
  st a242 [.int .i64 r216, .int .i64 r217, .int .i64 r218, .int .i64 r219, .int .u64 r220, .int .u64 r221, .int .u64 r222, .int .u64 r223, .int .i64 r224, .int .u64 r225, .slice r226.ptr r226.len r226.cap, .int .i64 r227, .int .u64 r228, .string r229, .string r230, .int .u64 r231, .int .u64 r232, .int .u64 r233, .int .i64 r234, .int .i64 r235, .int .i64 r236, .int .i64 r237, .bool r238, .bool r239, .bool r240] h243 fun (h244 : Heap) =>
  j167 a242 h244) ∧
  (nn t1 fun (a245 : Addr) =>
  ixA 1 (a245.add 2) 2 k2 fun (a246 : Addr) =>
  ld [.ptr] a246 h166 fun (v247 : Option Addr) =>
  ld [.int .i64, .int .i64, .int .i64, .int .i64, .int .u64, .int .u64, .int .u64, .int .u64, .int .i64, .int .u64, .sl, .int .i64, .int .u64, .str, .str, .int .u64, .int .u64, .int .u64, .int .i64, .int .i64, .int .i64, .int .i64] a25 h166 fun (v248 v249 v250 v251 v252 v253 v254 v255 v256 v257 : Int) (v258 : Sl) (v259 v260 : Int) (v261 v262 : ByteArray) (v263 v264 v265 v266 v267 v268 v269 : Int) =>
  f12_ v248 v249 v250 v251 v252 v253 v254 v255 v256 v257 v258 v259 v260 v261 v262 v263 v264 v265 v266 v267 v268 v269 h166 fun (r270 r271 r272 r273 r274 r275 r276 r277 r278 r279 : Int) (r280 : Sl) (r281 r282 : Int) (r283 r284 : ByteArray) (r285 r286 r287 r288 r289 r290 r291 : Int) (h292 : Heap) =>
  cellsAre h292 a246 [.pointer v247] ∧
  al 115 [.int .i64 0, .int .i64 0, .int .i64 0, .int .i64 0, .int .u64 0, .int .u64 0, .int .u64 0, .int .u64 0, .int .i64 0, .int .u64 0, .slice none 0 0, .int .i64 0, .int .u64 0, .string (⟨#[]⟩ : ByteArray), .string (⟨#[]⟩ : ByteArray), .int .u64 0, .int .u64 0, .int .u64 0, .int .i64 0, .int .i64 0, .int .i64 0, .int .i64 0, .bool false, .bool false, .bool false] h292 fun (a293 : Addr) (h294 : Heap) =>
  cellsAre h294 a246 [.pointer v247] ∧
  cellsAre h294 a25 [.int .i64 v248, .int .i64 v249, .int .i64 v250, .int .i64 v251, .int .u64 v252, .int .u64 v253, .int .u64 v254, .int .u64 v255, .int .i64 v256, .int .u64 v257, .slice v258.ptr v258.len v258.cap, .int .i64 v259, .int .u64 v260, .string v261, .string v262, .int .u64 v263, .int .u64 v264, .int .u64 v265, .int .i64 v266, .int .i64 v267, .int .i64 v268, .int .i64 v269] ∧
  f38_ v247 r270 r271 r272 r273 r274 r275 r276 r277 r278 r279 r280 r281 r282 r283 r284 r285 r286 r287 r288 r289 r290 r291 h294 fun (r295 r296 r297 r298 r299 r300 r301 r302 r303 r304 : Int) (r305 : Sl) (r306 r307 : Int) (r308 r309 : ByteArray) (r310 r311 r312 r313 r314 r315 r316 : Int) (r317 r318 r319 : Bool) (h320 : Heap) =>
  st a293 [.int .i64 r295, .int .i64 r296, .int .i64 r297, .int .i64 r298, .int .u64 r299, .int .u64 r300, .int .u64 r301, .int .u64 r302, .int .i64 r303, .int .u64 r304, .slice r305.ptr r305.len r305.cap, .int .i64 r306, .int .u64 r307, .string r308, .string r309, .int .u64 r310, .int .u64 r311, .int .u64 r312, .int .i64 r313, .int .i64 r314, .int .i64 r315, .int .i64 r316, .bool r317, .bool r318, .bool r319] h320 fun (h321 : Heap) =>
  j167 a293 h321) ∧
  (nn t1 fun (a322 : Addr) =>
  ixA 1 (a322.add 2) 2 k2 fun (a323 : Addr) =>
  ld [.ptr] a323 h166 fun (v324 : Option Addr) =>
  ld [.int .i64, .int .i64, .int .i64, .int .i64, .int .u64, .int .u64, .int .u64, .int .u64, .int .i64, .int .u64, .sl, .int .i64, .int .u64, .str, .str, .int .u64, .int .u64, .int .u64, .int .i64, .int .i64, .int .i64, .int .i64] a25 h166 fun (v325 v326 v327 v328 v329 v330 v331 v332 v333 v334 : Int) (v335 : Sl) (v336 v337 : Int) (v338 v339 : ByteArray) (v340 v341 v342 v343 v344 v345 v346 : Int) =>
  al 115 [.int .i64 0, .int .i64 0, .int .i64 0, .int .i64 0, .int .u64 0, .int .u64 0, .int .u64 0, .int .u64 0, .int .i64 0, .int .u64 0, .slice none 0 0, .int .i64 0, .int .u64 0, .string (⟨#[]⟩ : ByteArray), .string (⟨#[]⟩ : ByteArray), .int .u64 0, .int .u64 0, .int .u64 0, .int .i64 0, .int .i64 0, .int .i64 0, .int .i64 0, .bool false, .bool false, .bool false] h166 fun (a347 : Addr) (h348 : Heap) =>
  cellsAre h348 a323 [.pointer v324] ∧
  cellsAre h348 a25 [.int .i64 v325, .int .i64 v326, .int .i64 v327, .int .i64 v328, .int .u64 v329, .int .u64 v330, .int .u64 v331, .int .u64 v332, .int .i64 v333, .int .u64 v334, .slice v335.ptr v335.len v335.cap, .int .i64 v336, .int .u64 v337, .string v338, .string v339, .int .u64 v340, .int .u64 v341, .int .u64 v342, .int .i64 v343, .int .i64 v344, .int .i64 v345, .int .i64 v346] ∧
  f12_ v325 v326 v327 v328 v329 v330 v331 v332 v333 v334 v335 v336 v337 v338 v339 v340 v341 v342 v343 v344 v345 v346 h348 fun (r349 r350 r351 r352 r353 r354 r355 r356 r357 r358 : Int) (r359 : Sl) (r360 r361 : Int) (r362 r363 : ByteArray) (r364 r365 r366 r367 r368 r369 r370 : Int) (h371 : Heap) =>
  cellsAre h371 a323 [.pointer v324] ∧
  f38_ v324 r349 r350 r351 r352 r353 r354 r355 r356 r357 r358 r359 r360 r361 r362 r363 r364 r365 r366 r367 r368 r369 r370 h371 fun (r372 r373 r374 r375 r376 r377 r378 r379 r380 r381 : Int) (r382 : Sl) (r383 r384 : Int) (r385 r386 : ByteArray) (r387 r388 r389 r390 r391 r392 r393 : Int) (r394 r395 r396 : Bool) (h397 : Heap) =>
  st a347 [.int .i64 r372, .int .i64 r373, .int .i64 r374, .int .i64 r375, .int .u64 r376, .int .u64 r377, .int .u64 r378, .int .u64 r379, .int .i64 r380, .int .u64 r381, .slice r382.ptr r382.len r382.cap, .int .i64 r383, .int .u64 r384, .string r385, .string r386, .int .u64 r387, .int .u64 r388, .int .u64 r389, .int .i64 r390, .int .i64 r391, .int .i64 r392, .int .i64 r393, .bool r394, .bool r395, .bool r396] h397 fun (h398 : Heap) =>
  j167 a347 h398))) (fun (j56 : Addr → Heap → Prop) =>
  (nn t1 fun (a57 : Addr) =>
  ixA 1 (a57.add 0) 2 k2 fun (a58 : Addr) =>
  ld [.ptr] a58 h55 fun (v59 : Option Addr) =>
  ld [.int .i64, .int .i64, .int .i64, .int .i64, .int .u64, .int .u64, .int .u64, .int .u64, .int .i64, .int .u64, .sl, .int .i64, .int .u64, .str, .str, .int .u64, .int .u64, .int .u64, .int .i64, .int .i64, .int .i64, .int .i64] a52 h55 fun (v60 v61 v62 v63 v64 v65 v66 v67 v68 v69 : Int) (v70 : Sl) (v71 v72 : Int) (v73 v74 : ByteArray) (v75 v76 v77 v78 v79 v80 v81 : Int) =>
  f13_ v59 v60 v61 v62 v63 v64 v65 v66 v67 v68 v69 v70 v71 v72 v73 v74 v75 v76 v77 v78 v79 v80 v81 h55 fun (r82 r83 r84 r85 r86 r87 r88 r89 r90 r91 : Int) (r92 : Sl) (r93 r94 : Int) (r95 r96 : ByteArray) (r97 r98 r99 r100 r101 r102 r103 : Int) (r104 r105 r106 : Bool) (h107 : Heap) =>
  al 49 [.int .i64 0, .int .i64 0, .int .i64 0, .int .i64 0, .int .u64 0, .int .u64 0, .int .u64 0, .int .u64 0, .int .i64 0, .int .u64 0, .slice none 0 0, .int .i64 0, .int .u64 0, .string (⟨#[]⟩ : ByteArray), .string (⟨#[]⟩ : ByteArray), .int .u64 0, .int .u64 0, .int .u64 0, .int .i64 0, .int .i64 0, .int .i64 0, .int .i64 0, .bool false, .bool false, .bool false] h107 fun (a108 : Addr) (h109 : Heap) =>
  cellsAre h109 a58 [.pointer v59] ∧
  cellsAre h109 a52 [.int .i64 v60, .int .i64 v61, .int .i64 v62, .int .i64 v63, .int .u64 v64, .int .u64 v65, .int .u64 v66, .int .u64 v67, .int .i64 v68, .int .u64 v69, .slice v70.ptr v70.len v70.cap, .int .i64 v71, .int .u64 v72, .string v73, .string v74, .int .u64 v75, .int .u64 v76, .int .u64 v77, .int .i64 v78, .int .i64 v79, .int .i64 v80, .int .i64 v81] ∧
  st a108 [.int .i64 r82, .int .i64 r83, .int .i64 r84, .int .i64 r85, .int .u64 r86, .int .u64 r87, .int .u64 r88, .int .u64 r89, .int .i64 r90, .int .u64 r91, .slice r92.ptr r92.len r92.cap, .int .i64 r93, .int .u64 r94, .string r95, .string r96, .int .u64 r97, .int .u64 r98, .int .u64 r99, .int .i64 r100, .int .i64 r101, .int .i64 r102, .int .i64 r103, .bool r104, .bool r105, .bool r106] h109 fun (h110 : Heap) =>
  j56 a108 h110) ∧
  (nn t1 fun (a111 : Addr) =>
  ixA 1 (a111.add 0) 2 k2 fun (a112 : Addr) =>
  ld [.ptr] a112 h55 fun (v113 : Option Addr) =>
  ld [.int .i64, .int .i64, .int .i64, .int .i64, .int .u64, .int .u64, .int .u64, .int .u64, .int .i64, .int .u64, .sl, .int .i64, .int .u64, .str, .str, .int .u64, .int .u64, .int .u64, .int .i64, .int .i64, .int .i64, .int .i64] a52 h55 fun (v114 v115 v116 v117 v118 v119 v120 v121 v122 v123 : Int) (v124 : Sl) (v125 v126 : Int) (v127 v128 : ByteArray) (v129 v130 v131 v132 v133 v134 v135 : Int) =>
  al 49 [.int .i64 0, .int .i64 0, .int .i64 0, .int .i64 0, .int .u64 0, .int .u64 0, .int .u64 0, .int .u64 0, .int .i64 0, .int .u64 0, .slice none 0 0, .int .i64 0, .int .u64 0, .string (⟨#[]⟩ : ByteArray), .string (⟨#[]⟩ : ByteArray), .int .u64 0, .int .u64 0, .int .u64 0, .int .i64 0, .int .i64 0, .int .i64 0, .int .i64 0, .bool false, .bool false, .bool false] h55 fun (a136 : Addr) (h137 : Heap) =>
  cellsAre h137 a112 [.pointer v113] ∧
  cellsAre h137 a52 [.int .i64 v114, .int .i64 v115, .int .i64 v116, .int .i64 v117, .int .u64 v118, .int .u64 v119, .int .u64 v120, .int .u64 v121, .int .i64 v122, .int .u64 v123, .slice v124.ptr v124.len v124.cap, .int .i64 v125, .int .u64 v126, .string v127, .string v128, .int .u64 v129, .int .u64 v130, .int .u64 v131, .int .i64 v132, .int .i64 v133, .int .i64 v134, .int .i64 v135] ∧
  f13_ v113 v114 v115 v116 v117 v118 v119 v120 v121 v122 v123 v124 v125 v126 v127 v128 v129 v130 v131 v132 v133 v134 v135 h137 fun (r138 r139 r140 r141 r142 r143 r144 r145 r146 r147 : Int) (r148 : Sl) (r149 r150 : Int) (r151 r152 : ByteArray) (r153 r154 r155 r156 r157 r158 r159 : Int) (r160 r161 r162 : Bool) (h163 : Heap) =>
  st a136 [.int .i64 r138, .int .i64 r139, .int .i64 r140, .int .i64 r141, .int .u64 r142, .int .u64 r143, .int .u64 r144, .int .u64 r145, .int .i64 r146, .int .u64 r147, .slice r148.ptr r148.len r148.cap, .int .i64 r149, .int .u64 r150, .string r151, .string r152, .int .u64 r153, .int .u64 r154, .int .u64 r155, .int .i64 r156, .int .i64 r157, .int .i64 r158, .int .i64 r159, .bool r160, .bool r161, .bool r162] h163 fun (h164 : Heap) =>
  j56 a136 h164))
def F_law9_stage_hear (t1 : Option Addr) (k2 m3 m4 m5 m6 m7 m8 m9 m10 m11 m12 : Int) (m13 : Sl) (m14 m15 : Int) (m16 m17 : ByteArray) (m18 m19 m20 m21 m22 m23 m24 : Int) (h : Heap) (Q : Bool → Heap → Prop) : Prop := F_law9_stage_hear_of F_ref0_CopyMsg F_replica_Replica_Hear F_ref0_EqMsg F_ref9_Replica_Hear F_law1_Lend F_law1_Intact F_law1_Over F_law1_Book_Bytes t1 k2 m3 m4 m5 m6 m7 m8 m9 m10 m11 m12 m13 m14 m15 m16 m17 m18 m19 m20 m21 m22 m23 m24 h Q
def plan51 : Plan := .s (.r [0, 1, 5]) (.s (.r [0, 1, 5, 7]) (.s (.r [0, 1, 5, 7, 8]) (.s (.r [0, 1, 5, 7, 8]) (.s (.dj [0, 0, 1, 5, 15, 31, 0, 127, 0, 511] [[0, 1, 2, 3, 4, 5, 6, 7, 8, 9], [0, 1, 2, 3, 4, 5, 6, 8, 7, 9]] [(9, .one .addr)] [0, 1, 5, 7]) (.s (.dj [0, 0, 1, 5, 15, 31, 0, 64, 255, 0, 1023] [[0, 1, 2, 3, 4, 5, 6, 7, 8, 9, 10], [0, 1, 2, 3, 4, 5, 6, 7, 9, 8, 10], [0, 1, 2, 3, 4, 5, 6, 9, 7, 8, 10]] [(10, .one .addr)] [0, 5, 7, 9]) (.s (.rj [(11, .one .bool)] [0, 7, 9]) (.s (.r [0, 9, 11]) (.s (.s (.r [0, 9, 11, 72]) (.cj [] [11] (.d [0, 1, 3, 7, 0, 16, 48, 127] [[0, 1, 2, 3, 4, 5, 6, 7]] [11]) .z)) (.s (.r [6]) .z)))))))))
theorem F_law9_stage_hear.eq (f12_ : Int → Int → Int → Int → Int → Int → Int → Int → Int → Int → Sl → Int → Int → ByteArray → ByteArray → Int → Int → Int → Int → Int → Int → Int → Heap → (Int → Int → Int → Int → Int → Int → Int → Int → Int → Int → Sl → Int → Int → ByteArray → ByteArray → Int → Int → Int → Int → Int → Int → Int → Heap → Prop) → Prop) (f13_ : Option Addr → Int → Int → Int → Int → Int → Int → Int → Int → Int → Int → Sl → Int → Int → ByteArray → ByteArray → Int → Int → Int → Int → Int → Int → Int → Heap → (Int → Int → Int → Int → Int → Int → Int → Int → Int → Int → Sl → Int → Int → ByteArray → ByteArray → Int → Int → Int → Int → Int → Int → Int → Bool → Bool → Bool → Heap → Prop) → Prop) (f29_ : Int → Int → Int → Int → Int → Int → Int → Int → Int → Int → Sl → Int → Int → ByteArray → ByteArray → Int → Int → Int → Int → Int → Int → Int → Int → Int → Int → Int → Int → Int → Int → Int → Int → Int → Sl → Int → Int → ByteArray → ByteArray → Int → Int → Int → Int → Int → Int → Int → Heap → (Bool → Heap → Prop) → Prop) (f38_ : Option Addr → Int → Int → Int → Int → Int → Int → Int → Int → Int → Int → Sl → Int → Int → ByteArray → ByteArray → Int → Int → Int → Int → Int → Int → Int → Heap → (Int → Int → Int → Int → Int → Int → Int → Int → Int → Int → Sl → Int → Int → ByteArray → ByteArray → Int → Int → Int → Int → Int → Int → Int → Bool → Bool → Bool → Heap → Prop) → Prop) (f47_ : Sl → Heap → (Sl → Heap → Prop) → Prop) (f49_ : Sl → Sl → Heap → (Bool → Heap → Prop) → Prop) (f50_ : Sl → Heap → (Heap → Prop) → Prop) (f58_ : Option Addr → Sl → Heap → (Heap → Prop) → Prop) (t1 : Option Addr) (k2 m3 m4 m5 m6 m7 m8 m9 m10 m11 m12 : Int) (m13 : Sl) (m14 m15 : Int) (m16 m17 : ByteArray) (m18 m19 m20 m21 m22 m23 m24 : Int) (h : Heap) (K : Value → Heap → Prop) : F_law9_stage_hear_of f12_ f13_ f29_ f38_ f47_ f49_ f50_ f58_ t1 k2 m3 m4 m5 m6 m7 m8 m9 m10 m11 m12 m13 m14 m15 m16 m17 m18 m19 m20 m21 m22 m23 m24 h (fun (r0 : Bool) (h : Heap) => K (.bool r0) h) =
    den Try.prog (fn1 12 (E_ref0_CopyMsg_of f12_) (fn1 13 (E_replica_Replica_Hear_of f13_) (fn1 29 (E_ref0_EqMsg_of f29_) (fn1 38 (E_ref9_Replica_Hear_of f38_) (fn1 47 (E_law1_Lend_of f47_) (fn1 49 (E_law1_Intact_of f49_) (fn1 50 (E_law1_Over_of f50_) (fn1 58 (E_law1_Book_Bytes_of f58_) noFns)))))))) Try.f51.ntmps plan51 (bodyOf Try.f51) (args0 0 [(.pointer t1 : Value), (.int .i64 k2 : Value), (.agg #[.int .i64 m3, .int .i64 m4, .int .i64 m5, .int .i64 m6, .int .u64 m7, .int .u64 m8, .int .u64 m9, .int .u64 m10, .int .i64 m11, .int .u64 m12, .slice m13.ptr m13.len m13.cap, .int .i64 m14, .int .u64 m15, .string m16, .string m17, .int .u64 m18, .int .u64 m19, .int .u64 m20, .int .i64 m21, .int .i64 m22, .int .i64 m23, .int .i64 m24] : Value)]) h ⟨fun env h => dRes Try.prog Try.f51.results.toList env h K, fun _ _ _ => False, fun env h => dRes Try.prog Try.f51.results.toList env h K⟩ := by kernel_rfl
def E_law9_stage_hear_of (f : Option Addr → Int → Int → Int → Int → Int → Int → Int → Int → Int → Int → Int → Sl → Int → Int → ByteArray → ByteArray → Int → Int → Int → Int → Int → Int → Int → Heap → (Bool → Heap → Prop) → Prop) : List Value → Heap → (Value → Heap → Prop) → Prop
  | [v0, v1, v2], h, K => dec1 .ptr v0 fun (t1 : Option Addr) =>
  dec1 (.int .i64) v1 fun (k2 : Int) =>
  vAgg v2 fun cs2 => decs [.int .i64, .int .i64, .int .i64, .int .i64, .int .u64, .int .u64, .int .u64, .int .u64, .int .i64, .int .u64, .sl, .int .i64, .int .u64, .str, .str, .int .u64, .int .u64, .int .u64, .int .i64, .int .i64, .int .i64, .int .i64] cs2.toList fun (m3 m4 m5 m6 m7 m8 m9 m10 m11 m12 : Int) (m13 : Sl) (m14 m15 : Int) (m16 m17 : ByteArray) (m18 m19 m20 m21 m22 m23 m24 : Int) =>
  f t1 k2 m3 m4 m5 m6 m7 m8 m9 m10 m11 m12 m13 m14 m15 m16 m17 m18 m19 m20 m21 m22 m23 m24 h (fun (r0 : Bool) (h : Heap) => K (.bool r0) h)
  | _, _, _ => False
abbrev E_law9_stage_hear := E_law9_stage_hear_of F_law9_stage_hear
theorem E_law9_stage_hear.right : IsRight Try.prog 51 E_law9_stage_hear := by
  refine isRight fun vs K w hh => ?_
  match vs, hh with
  | [v0, v1, v2], hh =>
    unfold E_law9_stage_hear E_law9_stage_hear_of at hh
    replace hh := dec1_sound hh; obtain ⟨t1, rfl, hh⟩ := hh
    replace hh := dec1_sound hh; obtain ⟨k2, rfl, hh⟩ := hh
    replace hh := vAgg_sound hh; obtain ⟨cs2, rfl, hh⟩ := hh
    replace hh := decs_cons hh; obtain ⟨m3, l2_0, e2_0, hh⟩ := hh
    replace hh := decs_cons hh; obtain ⟨m4, l2_1, e2_1, hh⟩ := hh
    replace hh := decs_cons hh; obtain ⟨m5, l2_2, e2_2, hh⟩ := hh
    replace hh := decs_cons hh; obtain ⟨m6, l2_3, e2_3, hh⟩ := hh
    replace hh := decs_cons hh; obtain ⟨m7, l2_4, e2_4, hh⟩ := hh
    replace hh := decs_cons hh; obtain ⟨m8, l2_5, e2_5, hh⟩ := hh
    replace hh := decs_cons hh; obtain ⟨m9, l2_6, e2_6, hh⟩ := hh
    replace hh := decs_cons hh; obtain ⟨m10, l2_7, e2_7, hh⟩ := hh
    replace hh := decs_cons hh; obtain ⟨m11, l2_8, e2_8, hh⟩ := hh
    replace hh := decs_cons hh; obtain ⟨m12, l2_9, e2_9, hh⟩ := hh
    replace hh := decs_cons hh; obtain ⟨m13, l2_10, e2_10, hh⟩ := hh
    replace hh := decs_cons hh; obtain ⟨m14, l2_11, e2_11, hh⟩ := hh
    replace hh := decs_cons hh; obtain ⟨m15, l2_12, e2_12, hh⟩ := hh
    replace hh := decs_cons hh; obtain ⟨m16, l2_13, e2_13, hh⟩ := hh
    replace hh := decs_cons hh; obtain ⟨m17, l2_14, e2_14, hh⟩ := hh
    replace hh := decs_cons hh; obtain ⟨m18, l2_15, e2_15, hh⟩ := hh
    replace hh := decs_cons hh; obtain ⟨m19, l2_16, e2_16, hh⟩ := hh
    replace hh := decs_cons hh; obtain ⟨m20, l2_17, e2_17, hh⟩ := hh
    replace hh := decs_cons hh; obtain ⟨m21, l2_18, e2_18, hh⟩ := hh
    replace hh := decs_cons hh; obtain ⟨m22, l2_19, e2_19, hh⟩ := hh
    replace hh := decs_cons hh; obtain ⟨m23, l2_20, e2_20, hh⟩ := hh
    replace hh := decs_cons hh; obtain ⟨m24, l2_21, e2_21, hh⟩ := hh
    replace hh := decs_nil hh; obtain ⟨rfl, hh⟩ := hh
    subst e2_21
    subst e2_20
    subst e2_19
    subst e2_18
    subst e2_17
    subst e2_16
    subst e2_15
    subst e2_14
    subst e2_13
    subst e2_12
    subst e2_11
    subst e2_10
    subst e2_9
    subst e2_8
    subst e2_7
    subst e2_6
    subst e2_5
    subst e2_4
    subst e2_3
    subst e2_2
    subst e2_1
    have ec2 := toArray_eq e2_0
    subst ec2
    unfold F_law9_stage_hear at hh
    exact calls_den (fn1_right ok12 E_ref0_CopyMsg.right (fn1_right ok13 E_replica_Replica_Hear.right (fn1_right ok29 E_ref0_EqMsg.right (fn1_right ok38 E_ref9_Replica_Hear.right (fn1_right ok47 E_law1_Lend.right (fn1_right ok49 E_law1_Intact.right (fn1_right ok50 E_law1_Over.right (fn1_right ok58 E_law1_Book_Bytes.right noFns_right)))))))) plan51 _ w K Try.func51 (by kernel_rfl) (by kernel_rfl) (Eq.mp (F_law9_stage_hear.eq F_ref0_CopyMsg F_replica_Replica_Hear F_ref0_EqMsg F_ref9_Replica_Hear F_law1_Lend F_law1_Intact F_law1_Over F_law1_Book_Bytes t1 k2 m3 m4 m5 m6 m7 m8 m9 m10 m11 m12 m13 m14 m15 m16 m17 m18 m19 m20 m21 m22 m23 m24 w.heap K) hh)
theorem ok51 : okFn Try.prog 51 = true := by kernel_rfl
end Go.Proofs.Ytcbelendjpnmiaa.V
namespace Go.Proofs.Ytcbelendjpnmiaa.V
open Go Go.RowKit
set_option linter.unusedVariables false
set_option maxRecDepth 100000
def F_law9_stage_load_of (f21_ : Int → Int → Int → Sl → Int → Heap → (Option Addr → Heap → Prop) → Prop) (f47_ : Sl → Heap → (Sl → Heap → Prop) → Prop) (f49_ : Sl → Sl → Heap → (Bool → Heap → Prop) → Prop) (f50_ : Sl → Heap → (Heap → Prop) → Prop) (f71_ : Int → Int → Int → Sl → Int → Heap → (Option Addr → Heap → Prop) → Prop) (t1 : Option Addr) (k2 s3 s4 s5 : Int) (s6 : Sl) (span7 : Int) (h : Heap) (Q : Bool → Heap → Prop) : Prop :=
  al 44 [.int .u64 s3, .int .u64 s4, .int .u64 s5, .slice s6.ptr s6.len s6.cap] h fun (a8 : Addr) (h9 : Heap) =>
  ld [.sl] (a8.add 3) h9 fun (v10 : Sl) =>
  f47_ v10 h9 fun (r11 : Sl) (h12 : Heap) =>
  ld [.int .u64, .int .u64, .int .u64, .sl] a8 h12 fun (v13 v14 v15 : Int) (v16 : Sl) =>
  al 44 [.int .u64 0, .int .u64 0, .int .u64 0, .slice none 0 0] h12 fun (a17 : Addr) (h18 : Heap) =>
  st a17 [.int .u64 v13, .int .u64 v14, .int .u64 v15, .slice v16.ptr v16.len v16.cap] h18 fun (h19 : Heap) =>
  st (a17.add 3) [.slice r11.ptr r11.len r11.cap] h19 fun (h20 : Heap) =>
  ld [.int .u64, .int .u64, .int .u64, .sl] a17 h20 fun (v21 v22 v23 : Int) (v24 : Sl) =>
  nn t1 fun (a25 : Addr) =>
  f21_ v21 v22 v23 v24 span7 h20 fun (r26 : Option Addr) (h27 : Heap) =>
  ixA 1 (a25.add 0) 2 k2 fun (a28 : Addr) =>
  st a28 [.pointer r26] h27 fun (h29 : Heap) =>
  ld [.int .u64, .int .u64, .int .u64, .sl] a8 h29 fun (v30 v31 v32 : Int) (v33 : Sl) =>
  nn t1 fun (a34 : Addr) =>
  f71_ v30 v31 v32 v33 span7 h29 fun (r35 : Option Addr) (h36 : Heap) =>
  ixA 1 (a34.add 2) 2 k2 fun (a37 : Addr) =>
  st a37 [.pointer r35] h36 fun (h38 : Heap) =>
  ld [.sl] (a8.add 3) h38 fun (v39 : Sl) =>
  f49_ r11 v39 h38 fun (r40 : Bool) (h41 : Heap) =>
  f50_ r11 h41 fun  (h42 : Heap) =>
  jn [(8, .one .bool)] (fun (x47 : Bool) (h48 : Heap) =>
  Q x47 h48) (fun (j43 : Bool → Heap → Prop) =>
  brr r40
  (nn t1 fun (a44 : Addr) =>
  ixA 1 (a44.add 0) 2 k2 fun (a45 : Addr) =>
  ld [.ptr] a45 h42 fun (v46 : Option Addr) =>
  j43 (!v46.isNone) h42)
  (j43 false h42))
def F_law9_stage_load (t1 : Option Addr) (k2 s3 s4 s5 : Int) (s6 : Sl) (span7 : Int) (h : Heap) (Q : Bool → Heap → Prop) : Prop := F_law9_stage_load_of F_replica_Load F_law1_Lend F_law1_Intact F_law1_Over F_ref9_Load t1 k2 s3 s4 s5 s6 span7 h Q
def plan54 : Plan := .s (.r [0, 1, 3, 6]) (.s (.r [0, 1, 3, 6, 9]) (.s (.r [0, 1, 3, 6, 9, 10]) (.s (.r [0, 1, 3, 6, 9, 10]) (.s (.d [0, 0, 0, 0, 12, 1, 33, 127, 255] [[0, 1, 2, 3, 5, 6, 4, 7, 8]] [0, 1, 3, 6, 9]) (.s (.d [0, 0, 0, 0, 12, 1, 33, 127, 255] [[0, 1, 2, 3, 5, 6, 4, 7, 8]] [0, 1, 6, 9]) (.s (.r [0, 1, 9, 11]) (.s (.r [0, 1, 11]) (.s (.rj [(8, .one .bool)] []) .z))))))))
theorem F_law9_stage_load.eq (f21_ : Int → Int → Int → Sl → Int → Heap → (Option Addr → Heap → Prop) → Prop) (f47_ : Sl → Heap → (Sl → Heap → Prop) → Prop) (f49_ : Sl → Sl → Heap → (Bool → Heap → Prop) → Prop) (f50_ : Sl → Heap → (Heap → Prop) → Prop) (f71_ : Int → Int → Int → Sl → Int → Heap → (Option Addr → Heap → Prop) → Prop) (t1 : Option Addr) (k2 s3 s4 s5 : Int) (s6 : Sl) (span7 : Int) (h : Heap) (K : Value → Heap → Prop) : F_law9_stage_load_of f21_ f47_ f49_ f50_ f71_ t1 k2 s3 s4 s5 s6 span7 h (fun (r0 : Bool) (h : Heap) => K (.bool r0) h) =
    den Try.prog (fn1 21 (E_replica_Load_of f21_) (fn1 47 (E_law1_Lend_of f47_) (fn1 49 (E_law1_Intact_of f49_) (fn1 50 (E_law1_Over_of f50_) (fn1 71 (E_ref9_Load_of f71_) noFns))))) Try.f54.ntmps plan54 (bodyOf Try.f54) (args0 0 [(.pointer t1 : Value), (.int .i64 k2 : Value), (.agg #[.int .u64 s3, .int .u64 s4, .int .u64 s5, .slice s6.ptr s6.len s6.cap] : Value), (.int .i64 span7 : Value)]) h ⟨fun env h => dRes Try.prog Try.f54.results.toList env h K, fun _ _ _ => False, fun env h => dRes Try.prog Try.f54.results.toList env h K⟩ := by kernel_rfl
def E_law9_stage_load_of (f : Option Addr → Int → Int → Int → Int → Sl → Int → Heap → (Bool → Heap → Prop) → Prop) : List Value → Heap → (Value → Heap → Prop) → Prop
  | [v0, v1, v2, v3], h, K => dec1 .ptr v0 fun (t1 : Option Addr) =>
  dec1 (.int .i64) v1 fun (k2 : Int) =>
  vAgg v2 fun cs2 => decs [.int .u64, .int .u64, .int .u64, .sl] cs2.toList fun (s3 s4 s5 : Int) (s6 : Sl) =>
  dec1 (.int .i64) v3 fun (span7 : Int) =>
  f t1 k2 s3 s4 s5 s6 span7 h (fun (r0 : Bool) (h : Heap) => K (.bool r0) h)
  | _, _, _ => False
abbrev E_law9_stage_load := E_law9_stage_load_of F_law9_stage_load
theorem E_law9_stage_load.right : IsRight Try.prog 54 E_law9_stage_load := by
  refine isRight fun vs K w hh => ?_
  match vs, hh with
  | [v0, v1, v2, v3], hh =>
    unfold E_law9_stage_load E_law9_stage_load_of at hh
    replace hh := dec1_sound hh; obtain ⟨t1, rfl, hh⟩ := hh
    replace hh := dec1_sound hh; obtain ⟨k2, rfl, hh⟩ := hh
    replace hh := vAgg_sound hh; obtain ⟨cs2, rfl, hh⟩ := hh
    replace hh := decs_cons hh; obtain ⟨s3, l2_0, e2_0, hh⟩ := hh
    replace hh := decs_cons hh; obtain ⟨s4, l2_1, e2_1, hh⟩ := hh
    replace hh := decs_cons hh; obtain ⟨s5, l2_2, e2_2, hh⟩ := hh
    replace hh := decs_cons hh; obtain ⟨s6, l2_3, e2_3, hh⟩ := hh
    replace hh := decs_nil hh; obtain ⟨rfl, hh⟩ := hh
    subst e2_3
    subst e2_2
    subst e2_1
    have ec2 := toArray_eq e2_0
    subst ec2
    replace hh := dec1_sound hh; obtain ⟨span7, rfl, hh⟩ := hh
    unfold F_law9_stage_load at hh
    exact calls_den (fn1_right ok21 E_replica_Load.right (fn1_right ok47 E_law1_Lend.right (fn1_right ok49 E_law1_Intact.right (fn1_right ok50 E_law1_Over.right (fn1_right ok71 E_ref9_Load.right noFns_right))))) plan54 _ w K Try.func54 (by kernel_rfl) (by kernel_rfl) (Eq.mp (F_law9_stage_load.eq F_replica_Load F_law1_Lend F_law1_Intact F_law1_Over F_ref9_Load t1 k2 s3 s4 s5 s6 span7 w.heap K) hh)
theorem ok54 : okFn Try.prog 54 = true := by kernel_rfl
end Go.Proofs.Ytcbelendjpnmiaa.V
namespace Go.Proofs.Ytcbelendjpnmiaa.V
open Go Go.RowKit
set_option linter.unusedVariables false
set_option maxRecDepth 100000
def F_law9_stage_plays_of (f9_ : Int → Int → Heap → (Int → Heap → Prop) → Prop) (f11_ : Option Addr → Heap → (Heap → Prop) → Prop) (f33_ : Option Addr → Int → Sl → Heap → (Bool → Heap → Prop) → Prop) (f36_ : Option Addr → Int → Heap → (Bool → Heap → Prop) → Prop) (f40_ : Option Addr → Heap → (Int → Int → Int → Sl → Heap → Prop) → Prop) (f42_ : Option Addr → Int → Heap → (Bool → Heap → Prop) → Prop) (f51_ : Option Addr → Int → Int → Int → Int → Int → Int → Int → Int → Int → Int → Int → Sl → Int → Int → ByteArray → ByteArray → Int → Int → Int → Int → Int → Int → Int → Heap → (Bool → Heap → Prop) → Prop) (f52_ : Option Addr → Heap → (Heap → Prop) → Prop) (f53_ : Option Addr → Int → Heap → (Bool → Heap → Prop) → Prop) (f54_ : Option Addr → Int → Int → Int → Int → Sl → Int → Heap → (Bool → Heap → Prop) → Prop) (t1 : Option Addr) (o2 o3 o4 o5 o6 o7 o8 o9 o10 o11 o12 o13 o14 o15 : Int) (o16 : Sl) (o17 o18 : Int) (o19 o20 : ByteArray) (o21 o22 o23 o24 o25 o26 o27 o28 o29 o30 : Int) (o31 : Sl) (h : Heap) (Q : Bool → Heap → Prop) : Prop :=
  al 46 [.int .i64 o2, .int .i64 o3, .int .i64 o4, .int .u64 o5, .int .i64 o6, .int .i64 o7, .int .i64 o8, .int .i64 o9, .int .u64 o10, .int .u64 o11, .int .u64 o12, .int .u64 o13, .int .i64 o14, .int .u64 o15, .slice o16.ptr o16.len o16.cap, .int .i64 o17, .int .u64 o18, .string o19, .string o20, .int .u64 o21, .int .u64 o22, .int .u64 o23, .int .i64 o24, .int .i64 o25, .int .i64 o26, .int .i64 o27, .int .u64 o28, .int .u64 o29, .int .u64 o30, .slice o31.ptr o31.len o31.cap] h fun (a32 : Addr) (h33 : Heap) =>
  ld [.int .i64] (a32.add 1) h33 fun (v34 : Int) =>
  f9_ v34 2 h33 fun (r35 : Int) (h36 : Heap) =>
  ld [.int .i64] (a32.add 0) h36 fun (v37 : Int) =>
  brr (v37 == 1)
  (ld [.int .i64, .int .i64, .int .i64, .int .i64, .int .u64, .int .u64, .int .u64, .int .u64, .int .i64, .int .u64, .sl, .int .i64, .int .u64, .str, .str, .int .u64, .int .u64, .int .u64, .int .i64, .int .i64, .int .i64, .int .i64] (a32.add 4) h36 fun (v38 v39 v40 v41 v42 v43 v44 v45 v46 v47 : Int) (v48 : Sl) (v49 v50 : Int) (v51 v52 : ByteArray) (v53 v54 v55 v56 v57 v58 v59 : Int) =>
  f51_ t1 r35 v38 v39 v40 v41 v42 v43 v44 v45 v46 v47 v48 v49 v50 v51 v52 v53 v54 v55 v56 v57 v58 v59 h36 fun (r60 : Bool) (h61 : Heap) =>
  Q r60 h61)
  (jn [] (fun  (h106 : Heap) =>
  Q true h106) (fun (j62 : Heap → Prop) =>
  brr (v37 == 2)
  (nn t1 fun (a63 : Addr) =>
  ixA 1 (a63.add 0) 2 r35 fun (a64 : Addr) =>
  ld [.ptr] a64 h36 fun (v65 : Option Addr) =>
  f11_ v65 h36 fun  (h66 : Heap) =>
  nn t1 fun (a67 : Addr) =>
  ixA 1 (a67.add 2) 2 r35 fun (a68 : Addr) =>
  ld [.ptr] a68 h66 fun (v69 : Option Addr) =>
  f52_ v69 h66 fun  (h70 : Heap) =>
  j62 h70)
  (brr (v37 == 3)
  (nn t1 fun (a71 : Addr) =>
  ixA 1 (a71.add 0) 2 r35 fun (a72 : Addr) =>
  ld [.ptr] a72 h36 fun (v73 : Option Addr) =>
  ld [.int .u64] (a32.add 3) h36 fun (v74 : Int) =>
  nn t1 fun (a75 : Addr) =>
  ixA 1 (a75.add 2) 2 r35 fun (a76 : Addr) =>
  ld [.ptr] a76 h36 fun (v77 : Option Addr) =>
  ld [.int .u64] (a32.add 3) h36 fun (v78 : Int) =>
  f42_ v73 v74 h36 fun (r79 : Bool) (h80 : Heap) =>
  cellsAre h80 a76 [.pointer v77] ∧
  cellsAre h80 (a32.add 3) [.int .u64 v78] ∧
  f53_ v77 v78 h80 fun (r81 : Bool) (h82 : Heap) =>
  Q (r79 == r81) h82)
  (brr (v37 == 4)
  (f36_ t1 r35 h36 fun (r83 : Bool) (h84 : Heap) =>
  Q r83 h84)
  (brr (v37 == 5)
  (ld [.int .u64, .int .u64, .int .u64, .sl] (a32.add 26) h36 fun (v85 v86 v87 : Int) (v88 : Sl) =>
  ld [.int .i64] (a32.add 2) h36 fun (v89 : Int) =>
  f54_ t1 r35 v85 v86 v87 v88 v89 h36 fun (r90 : Bool) (h91 : Heap) =>
  Q r90 h91)
  (brr (v37 == 6)
  (ld [.sl] ((a32.add 26).add 3) h36 fun (v92 : Sl) =>
  f33_ t1 r35 v92 h36 fun (r93 : Bool) (h94 : Heap) =>
  Q r93 h94)
  (brr (v37 == 7)
  (nn t1 fun (a95 : Addr) =>
  ixA 1 (a95.add 2) 2 r35 fun (a96 : Addr) =>
  ld [.ptr] a96 h36 fun (v97 : Option Addr) =>
  ld [.int .i64] (a32.add 2) h36 fun (v98 : Int) =>
  f40_ v97 h36 fun (r99 r100 r101 : Int) (r102 : Sl) (h103 : Heap) =>
  cellsAre h103 (a32.add 2) [.int .i64 v98] ∧
  f54_ t1 r35 r99 r100 r101 r102 v98 h103 fun (r104 : Bool) (h105 : Heap) =>
  Q r104 h105)
  (j62 h36))))))))
def F_law9_stage_plays (t1 : Option Addr) (o2 o3 o4 o5 o6 o7 o8 o9 o10 o11 o12 o13 o14 o15 : Int) (o16 : Sl) (o17 o18 : Int) (o19 o20 : ByteArray) (o21 o22 o23 o24 o25 o26 o27 o28 o29 o30 : Int) (o31 : Sl) (h : Heap) (Q : Bool → Heap → Prop) : Prop := F_law9_stage_plays_of F_law9_into F_replica_Replica_Tick F_law9_stage_fresh F_law9_stage_stored F_ref9_Replica_Stored F_replica_Replica_Own F_law9_stage_hear F_ref9_Replica_Tick F_ref9_Replica_Own F_law9_stage_load t1 o2 o3 o4 o5 o6 o7 o8 o9 o10 o11 o12 o13 o14 o15 o16 o17 o18 o19 o20 o21 o22 o23 o24 o25 o26 o27 o28 o29 o30 o31 h Q
def plan34 : Plan := .s (.r [0, 3]) (.s (.r [0, 3, 5]) (.s (.s (.r [0, 3, 5, 10]) (.b (.s (.r [0, 3, 5, 10, 11]) (.c (.s (.r [4]) .z) (.s (.r [0, 3, 5, 10, 18]) (.cj [] [] (.s (.r [0, 5]) (.r [])) (.s (.r [0, 3, 5, 10, 34]) (.c (.s (.d [0, 0, 1, 5, 15, 31, 0, 64, 255, 0, 0, 512, 2560, 7680, 15872, 0, 32768, 131071, 262143, 524287] [[0, 1, 2, 3, 4, 5, 6, 7, 9, 10, 11, 12, 13, 14, 15, 16, 8, 17, 18, 19]] [4]) .z) (.s (.r [0, 3, 5, 10, 55]) (.c (.s (.r [4]) .z) (.s (.r [0, 3, 5, 10, 60]) (.c (.s (.r [4]) .z) (.s (.r [0, 3, 5, 10, 69]) (.c (.s (.r [4]) .z) (.s (.r [0, 3, 5, 77]) (.c (.s (.d [0, 0, 0, 0, 4, 20, 60, 124, 252, 0, 512, 2047, 4095] [[0, 1, 2, 3, 4, 5, 6, 7, 9, 10, 8, 11, 12]] [4]) .z) .z)))))))))))))))) (.s (.r [4]) .z)))
theorem F_law9_stage_plays.eq (f9_ : Int → Int → Heap → (Int → Heap → Prop) → Prop) (f11_ : Option Addr → Heap → (Heap → Prop) → Prop) (f33_ : Option Addr → Int → Sl → Heap → (Bool → Heap → Prop) → Prop) (f36_ : Option Addr → Int → Heap → (Bool → Heap → Prop) → Prop) (f40_ : Option Addr → Heap → (Int → Int → Int → Sl → Heap → Prop) → Prop) (f42_ : Option Addr → Int → Heap → (Bool → Heap → Prop) → Prop) (f51_ : Option Addr → Int → Int → Int → Int → Int → Int → Int → Int → Int → Int → Int → Sl → Int → Int → ByteArray → ByteArray → Int → Int → Int → Int → Int → Int → Int → Heap → (Bool → Heap → Prop) → Prop) (f52_ : Option Addr → Heap → (Heap → Prop) → Prop) (f53_ : Option Addr → Int → Heap → (Bool → Heap → Prop) → Prop) (f54_ : Option Addr → Int → Int → Int → Int → Sl → Int → Heap → (Bool → Heap → Prop) → Prop) (t1 : Option Addr) (o2 o3 o4 o5 o6 o7 o8 o9 o10 o11 o12 o13 o14 o15 : Int) (o16 : Sl) (o17 o18 : Int) (o19 o20 : ByteArray) (o21 o22 o23 o24 o25 o26 o27 o28 o29 o30 : Int) (o31 : Sl) (h : Heap) (K : Value → Heap → Prop) : F_law9_stage_plays_of f9_ f11_ f33_ f36_ f40_ f42_ f51_ f52_ f53_ f54_ t1 o2 o3 o4 o5 o6 o7 o8 o9 o10 o11 o12 o13 o14 o15 o16 o17 o18 o19 o20 o21 o22 o23 o24 o25 o26 o27 o28 o29 o30 o31 h (fun (r0 : Bool) (h : Heap) => K (.bool r0) h) =
    den Try.prog (fn1 9 (E_law9_into_of f9_) (fn1 11 (E_replica_Replica_Tick_of f11_) (fn1 33 (E_law9_stage_fresh_of f33_) (fn1 36 (E_law9_stage_stored_of f36_) (fn1 40 (E_ref9_Replica_Stored_of f40_) (fn1 42 (E_replica_Replica_Own_of f42_) (fn1 51 (E_law9_stage_hear_of f51_) (fn1 52 (E_ref9_Replica_Tick_of f52_) (fn1 53 (E_ref9_Replica_Own_of f53_) (fn1 54 (E_law9_stage_load_of f54_) noFns)))))))))) Try.f34.ntmps plan34 (bodyOf Try.f34) (args0 0 [(.pointer t1 : Value), (.agg #[.int .i64 o2, .int .i64 o3, .int .i64 o4, .int .u64 o5, .int .i64 o6, .int .i64 o7, .int .i64 o8, .int .i64 o9, .int .u64 o10, .int .u64 o11, .int .u64 o12, .int .u64 o13, .int .i64 o14, .int .u64 o15, .slice o16.ptr o16.len o16.cap, .int .i64 o17, .int .u64 o18, .string o19, .string o20, .int .u64 o21, .int .u64 o22, .int .u64 o23, .int .i64 o24, .int .i64 o25, .int .i64 o26, .int .i64 o27, .int .u64 o28, .int .u64 o29, .int .u64 o30, .slice o31.ptr o31.len o31.cap] : Value)]) h ⟨fun env h => dRes Try.prog Try.f34.results.toList env h K, fun _ _ _ => False, fun env h => dRes Try.prog Try.f34.results.toList env h K⟩ := by kernel_rfl
def E_law9_stage_plays_of (f : Option Addr → Int → Int → Int → Int → Int → Int → Int → Int → Int → Int → Int → Int → Int → Int → Sl → Int → Int → ByteArray → ByteArray → Int → Int → Int → Int → Int → Int → Int → Int → Int → Int → Sl → Heap → (Bool → Heap → Prop) → Prop) : List Value → Heap → (Value → Heap → Prop) → Prop
  | [v0, v1], h, K => dec1 .ptr v0 fun (t1 : Option Addr) =>
  vAgg v1 fun cs1 => decs [.int .i64, .int .i64, .int .i64, .int .u64, .int .i64, .int .i64, .int .i64, .int .i64, .int .u64, .int .u64, .int .u64, .int .u64, .int .i64, .int .u64, .sl, .int .i64, .int .u64, .str, .str, .int .u64, .int .u64, .int .u64, .int .i64, .int .i64, .int .i64, .int .i64, .int .u64, .int .u64, .int .u64, .sl] cs1.toList fun (o2 o3 o4 o5 o6 o7 o8 o9 o10 o11 o12 o13 o14 o15 : Int) (o16 : Sl) (o17 o18 : Int) (o19 o20 : ByteArray) (o21 o22 o23 o24 o25 o26 o27 o28 o29 o30 : Int) (o31 : Sl) =>
  f t1 o2 o3 o4 o5 o6 o7 o8 o9 o10 o11 o12 o13 o14 o15 o16 o17 o18 o19 o20 o21 o22 o23 o24 o25 o26 o27 o28 o29 o30 o31 h (fun (r0 : Bool) (h : Heap) => K (.bool r0) h)
  | _, _, _ => False
abbrev E_law9_stage_plays := E_law9_stage_plays_of F_law9_stage_plays
theorem E_law9_stage_plays.right : IsRight Try.prog 34 E_law9_stage_plays := by
  refine isRight fun vs K w hh => ?_
  match vs, hh with
  | [v0, v1], hh =>
    unfold E_law9_stage_plays E_law9_stage_plays_of at hh
    replace hh := dec1_sound hh; obtain ⟨t1, rfl, hh⟩ := hh
    replace hh := vAgg_sound hh; obtain ⟨cs1, rfl, hh⟩ := hh
    replace hh := decs_cons hh; obtain ⟨o2, l1_0, e1_0, hh⟩ := hh
    replace hh := decs_cons hh; obtain ⟨o3, l1_1, e1_1, hh⟩ := hh
    replace hh := decs_cons hh; obtain ⟨o4, l1_2, e1_2, hh⟩ := hh
    replace hh := decs_cons hh; obtain ⟨o5, l1_3, e1_3, hh⟩ := hh
    replace hh := decs_cons hh; obtain ⟨o6, l1_4, e1_4, hh⟩ := hh
    replace hh := decs_cons hh; obtain ⟨o7, l1_5, e1_5, hh⟩ := hh
    replace hh := decs_cons hh; obtain ⟨o8, l1_6, e1_6, hh⟩ := hh
    replace hh := decs_cons hh; obtain ⟨o9, l1_7, e1_7, hh⟩ := hh
    replace hh := decs_cons hh; obtain ⟨o10, l1_8, e1_8, hh⟩ := hh
    replace hh := decs_cons hh; obtain ⟨o11, l1_9, e1_9, hh⟩ := hh
    replace hh := decs_cons hh; obtain ⟨o12, l1_10, e1_10, hh⟩ := hh
    replace hh := decs_cons hh; obtain ⟨o13, l1_11, e1_11, hh⟩ := hh
    replace hh := decs_cons hh; obtain ⟨o14, l1_12, e1_12, hh⟩ := hh
    replace hh := decs_cons hh; obtain ⟨o15, l1_13, e1_13, hh⟩ := hh
    replace hh := decs_cons hh; obtain ⟨o16, l1_14, e1_14, hh⟩ := hh
    replace hh := decs_cons hh; obtain ⟨o17, l1_15, e1_15, hh⟩ := hh
    replace hh := decs_cons hh; obtain ⟨o18, l1_16, e1_16, hh⟩ := hh
    replace hh := decs_cons hh; obtain ⟨o19, l1_17, e1_17, hh⟩ := hh
    replace hh := decs_cons hh; obtain ⟨o20, l1_18, e1_18, hh⟩ := hh
    replace hh := decs_cons hh; obtain ⟨o21, l1_19, e1_19, hh⟩ := hh
    replace hh := decs_cons hh; obtain ⟨o22, l1_20, e1_20, hh⟩ := hh
    replace hh := decs_cons hh; obtain ⟨o23, l1_21, e1_21, hh⟩ := hh
    replace hh := decs_cons hh; obtain ⟨o24, l1_22, e1_22, hh⟩ := hh
    replace hh := decs_cons hh; obtain ⟨o25, l1_23, e1_23, hh⟩ := hh
    replace hh := decs_cons hh; obtain ⟨o26, l1_24, e1_24, hh⟩ := hh
    replace hh := decs_cons hh; obtain ⟨o27, l1_25, e1_25, hh⟩ := hh
    replace hh := decs_cons hh; obtain ⟨o28, l1_26, e1_26, hh⟩ := hh
    replace hh := decs_cons hh; obtain ⟨o29, l1_27, e1_27, hh⟩ := hh
    replace hh := decs_cons hh; obtain ⟨o30, l1_28, e1_28, hh⟩ := hh
    replace hh := decs_cons hh; obtain ⟨o31, l1_29, e1_29, hh⟩ := hh
    replace hh := decs_nil hh; obtain ⟨rfl, hh⟩ := hh
    subst e1_29
    subst e1_28
    subst e1_27
    subst e1_26
    subst e1_25
    subst e1_24
    subst e1_23
    subst e1_22
    subst e1_21
    subst e1_20
    subst e1_19
    subst e1_18
    subst e1_17
    subst e1_16
    subst e1_15
    subst e1_14
    subst e1_13
    subst e1_12
    subst e1_11
    subst e1_10
    subst e1_9
    subst e1_8
    subst e1_7
    subst e1_6
    subst e1_5
    subst e1_4
    subst e1_3
    subst e1_2
    subst e1_1
    have ec1 := toArray_eq e1_0
    subst ec1
    unfold F_law9_stage_plays at hh
    exact calls_den (fn1_right ok9 E_law9_into.right (fn1_right ok11 E_replica_Replica_Tick.right (fn1_right ok33 E_law9_stage_fresh.right (fn1_right ok36 E_law9_stage_stored.right (fn1_right ok40 E_ref9_Replica_Stored.right (fn1_right ok42 E_replica_Replica_Own.right (fn1_right ok51 E_law9_stage_hear.right (fn1_right ok52 E_ref9_Replica_Tick.right (fn1_right ok53 E_ref9_Replica_Own.right (fn1_right ok54 E_law9_stage_load.right noFns_right)))))))))) plan34 _ w K Try.func34 (by kernel_rfl) (by kernel_rfl) (Eq.mp (F_law9_stage_plays.eq F_law9_into F_replica_Replica_Tick F_law9_stage_fresh F_law9_stage_stored F_ref9_Replica_Stored F_replica_Replica_Own F_law9_stage_hear F_ref9_Replica_Tick F_ref9_Replica_Own F_law9_stage_load t1 o2 o3 o4 o5 o6 o7 o8 o9 o10 o11 o12 o13 o14 o15 o16 o17 o18 o19 o20 o21 o22 o23 o24 o25 o26 o27 o28 o29 o30 o31 w.heap K) hh)
theorem ok34 : okFn Try.prog 34 = true := by kernel_rfl
end Go.Proofs.Ytcbelendjpnmiaa.V
namespace Go.Proofs.Ytcbelendjpnmiaa.V
open Go Go.RowKit
set_option linter.unusedVariables false
set_option maxRecDepth 100000
def F_law9_play.l1 (f34_ : Option Addr → Int → Int → Int → Int → Int → Int → Int → Int → Int → Int → Int → Int → Int → Int → Sl → Int → Int → ByteArray → ByteArray → Int → Int → Int → Int → Int → Int → Int → Int → Int → Int → Sl → Heap → (Bool → Heap → Prop) → Prop) (f35_ : Option Addr → Heap → (Bool → Heap → Prop) → Prop) (Q : Bool → Heap → Prop) (a4 a8 : Addr) (j19 : Heap → Prop) : Int → Heap → Prop :=
  wl [(6, .one (.int .i64))] (fun (next20 : Int → Heap → Prop) (i21 : Int) (h22 : Heap) =>
  jn [(32, .one .bool)] (fun (x25 : Bool) (h26 : Heap) =>
  brr x25
  (jn [(50, .one .bool)] (fun (x66 : Bool) (h67 : Heap) =>
  brr x66
  (Q false h67)
  (next20 (IntKind.i64.wrap (i21 + 1)) h67)) (fun (j27 : Bool → Heap → Prop) =>
  ld [.sl] (a4.add 1) h26 fun (v28 : Sl) =>
  ixS 30 v28 i21 fun (a29 : Addr) =>
  ld [.int .i64, .int .i64, .int .i64, .int .u64, .int .i64, .int .i64, .int .i64, .int .i64, .int .u64, .int .u64, .int .u64, .int .u64, .int .i64, .int .u64, .sl, .int .i64, .int .u64, .str, .str, .int .u64, .int .u64, .int .u64, .int .i64, .int .i64, .int .i64, .int .i64, .int .u64, .int .u64, .int .u64, .sl] a29 h26 fun (v30 v31 v32 v33 v34 v35 v36 v37 v38 v39 v40 v41 v42 v43 : Int) (v44 : Sl) (v45 v46 : Int) (v47 v48 : ByteArray) (v49 v50 v51 v52 v53 v54 v55 v56 v57 v58 : Int) (v59 : Sl) =>
  f34_ (some a8) v30 v31 v32 v33 v34 v35 v36 v37 v38 v39 v40 v41 v42 v43 v44 v45 v46 v47 v48 v49 v50 v51 v52 v53 v54 v55 v56 v57 v58 v59 h26 fun (r60 : Bool) (h61 : Heap) =>
  brr (!r60)
  (j27 true h61)
  (nn (some a8) fun (a62 : Addr) =>
  ld [.ptr] (a62.add 4) h61 fun (v63 : Option Addr) =>
  f35_ v63 h61 fun (r64 : Bool) (h65 : Heap) =>
  j27 (!r64) h65)))
  (j19 h26)) (fun (j23 : Bool → Heap → Prop) =>
  ld [.sl] (a4.add 1) h22 fun (v24 : Sl) =>
  brr (decide (i21 < ((v24.len : Nat) : Int)))
  (j23 (decide (i21 < 500)) h22)
  (j23 false h22)))
def F_law9_play_of (f18_ : Heap → (Bool → Heap → Prop) → Prop) (f33_ : Option Addr → Int → Sl → Heap → (Bool → Heap → Prop) → Prop) (f34_ : Option Addr → Int → Int → Int → Int → Int → Int → Int → Int → Int → Int → Int → Int → Int → Int → Sl → Int → Int → ByteArray → ByteArray → Int → Int → Int → Int → Int → Int → Int → Int → Int → Int → Sl → Heap → (Bool → Heap → Prop) → Prop) (f35_ : Option Addr → Heap → (Bool → Heap → Prop) → Prop) (f36_ : Option Addr → Int → Heap → (Bool → Heap → Prop) → Prop) (s1 s2 : Sl) (mark3 : Bool) (h : Heap) (Q : Bool → Heap → Prop) : Prop :=
  al 59 [.slice s1.ptr s1.len s1.cap, .slice s2.ptr s2.len s2.cap] h fun (a4 : Addr) (h5 : Heap) =>
  al 99 [.slice none 0 0, .slice none 0 0, .int .i64 0, .slice none 0 0, .slice none 0 0, .int .i64 0, .slice none 0 0, .slice none 0 0, .int .i64 0, .slice none 0 0, .slice none 0 0, .int .i64 0, .slice none 0 0, .slice none 0 0, .int .i64 0, .slice none 0 0, .slice none 0 0, .int .i64 0, .slice none 0 0, .slice none 0 0, .int .i64 0, .slice none 0 0, .slice none 0 0, .int .i64 0, .slice none 0 0, .slice none 0 0, .int .i64 0, .slice none 0 0, .slice none 0 0, .int .i64 0, .slice none 0 0, .slice none 0 0, .int .i64 0, .slice none 0 0, .slice none 0 0, .int .i64 0, .int .i64 0, .int .i64 0, .int .i64 0] h5 fun (a6 : Addr) (h7 : Heap) =>
  al 104 [.pointer none, .pointer none, .pointer none, .pointer none, .pointer (some a6), .bool mark3] h7 fun (a8 : Addr) (h9 : Heap) =>
  jn [(23, .one .bool)] (fun (x17 : Bool) (h18 : Heap) =>
  brr x17
  (Q false h18)
  (jn [] (fun  (h68 : Heap) =>
  jn [(4, .one .bool)] (fun (x76 : Bool) (h77 : Heap) =>
  Q x76 h77) (fun (j69 : Bool → Heap → Prop) =>
  f36_ (some a8) 0 h68 fun (r70 : Bool) (h71 : Heap) =>
  brr r70
  (f36_ (some a8) 1 h71 fun (r72 : Bool) (h73 : Heap) =>
  brr r72
  (f18_ h73 fun (r74 : Bool) (h75 : Heap) =>
  j69 r74 h75)
  (j69 false h73))
  (j69 false h71))) (fun (j19 : Heap → Prop) =>
  F_law9_play.l1 f34_ f35_ Q a4 a8 j19 0 h18))) (fun (j10 : Bool → Heap → Prop) =>
  ld [.sl] (a4.add 0) h9 fun (v11 : Sl) =>
  f33_ (some a8) 0 v11 h9 fun (r12 : Bool) (h13 : Heap) =>
  brr (!r12)
  (j10 true h13)
  (ld [.sl] (a4.add 0) h13 fun (v14 : Sl) =>
  f33_ (some a8) 1 v14 h13 fun (r15 : Bool) (h16 : Heap) =>
  j10 (!r15) h16))
def F_law9_play (s1 s2 : Sl) (mark3 : Bool) (h : Heap) (Q : Bool → Heap → Prop) : Prop := F_law9_play_of F_law9_lives F_law9_stage_fresh F_law9_stage_plays F_law1_Book_Look F_law9_stage_stored s1 s2 mark3 h Q
def plan19 : Plan := .s (.r [1, 2]) (.s (.r [2, 5]) (.s (.s (.rj [(23, .one .bool)] [2, 5]) (.c (.s (.r [4]) .z) .z)) (.s (.s (.r [2, 5, 6]) (.bj [] [5] (.l [(6, .one (.int .i64))] [2, 5] (.s (.s (.rj [(32, .one .bool)] [2, 5, 6]) (.c .z .z)) (.s (.b (.s (.rj [(50, .one .bool)] [2, 5, 6]) (.c (.s (.r [4]) .z) .z))) (.r [2, 5, 6])))))) (.s (.rj [(4, .one .bool)] []) .z))))
theorem F_law9_play.eq (f18_ : Heap → (Bool → Heap → Prop) → Prop) (f33_ : Option Addr → Int → Sl → Heap → (Bool → Heap → Prop) → Prop) (f34_ : Option Addr → Int → Int → Int → Int → Int → Int → Int → Int → Int → Int → Int → Int → Int → Int → Sl → Int → Int → ByteArray → ByteArray → Int → Int → Int → Int → Int → Int → Int → Int → Int → Int → Sl → Heap → (Bool → Heap → Prop) → Prop) (f35_ : Option Addr → Heap → (Bool → Heap → Prop) → Prop) (f36_ : Option Addr → Int → Heap → (Bool → Heap → Prop) → Prop) (s1 s2 : Sl) (mark3 : Bool) (h : Heap) (K : Value → Heap → Prop) : F_law9_play_of f18_ f33_ f34_ f35_ f36_ s1 s2 mark3 h (fun (r0 : Bool) (h : Heap) => K (.bool r0) h) =
    den Try.prog (fn1 18 (E_law9_lives_of f18_) (fn1 33 (E_law9_stage_fresh_of f33_) (fn1 34 (E_law9_stage_plays_of f34_) (fn1 35 (E_law1_Book_Look_of f35_) (fn1 36 (E_law9_stage_stored_of f36_) noFns))))) Try.f19.ntmps plan19 (bodyOf Try.f19) (args0 0 [(.agg #[.slice s1.ptr s1.len s1.cap, .slice s2.ptr s2.len s2.cap] : Value), (.bool mark3 : Value)]) h ⟨fun env h => dRes Try.prog Try.f19.results.toList env h K, fun _ _ _ => False, fun env h => dRes Try.prog Try.f19.results.toList env h K⟩ := by kernel_rfl
def E_law9_play_of (f : Sl → Sl → Bool → Heap → (Bool → Heap → Prop) → Prop) : List Value → Heap → (Value → Heap → Prop) → Prop
  | [v0, v1], h, K => vAgg v0 fun cs0 => decs [.sl, .sl] cs0.toList fun (s1 s2 : Sl) =>
  dec1 .bool v1 fun (mark3 : Bool) =>
  f s1 s2 mark3 h (fun (r0 : Bool) (h : Heap) => K (.bool r0) h)
  | _, _, _ => False
abbrev E_law9_play := E_law9_play_of F_law9_play
theorem E_law9_play.right : IsRight Try.prog 19 E_law9_play := by
  refine isRight fun vs K w hh => ?_
  match vs, hh with
  | [v0, v1], hh =>
    unfold E_law9_play E_law9_play_of at hh
    replace hh := vAgg_sound hh; obtain ⟨cs0, rfl, hh⟩ := hh
    replace hh := decs_cons hh; obtain ⟨s1, l0_0, e0_0, hh⟩ := hh
    replace hh := decs_cons hh; obtain ⟨s2, l0_1, e0_1, hh⟩ := hh
    replace hh := decs_nil hh; obtain ⟨rfl, hh⟩ := hh
    subst e0_1
    have ec0 := toArray_eq e0_0
    subst ec0
    replace hh := dec1_sound hh; obtain ⟨mark3, rfl, hh⟩ := hh
    unfold F_law9_play at hh
    exact calls_den (fn1_right ok18 E_law9_lives.right (fn1_right ok33 E_law9_stage_fresh.right (fn1_right ok34 E_law9_stage_plays.right (fn1_right ok35 E_law1_Book_Look.right (fn1_right ok36 E_law9_stage_stored.right noFns_right))))) plan19 _ w K Try.func19 (by kernel_rfl) (by kernel_rfl) (Eq.mp (F_law9_play.eq F_law9_lives F_law9_stage_fresh F_law9_stage_plays F_law1_Book_Look F_law9_stage_stored s1 s2 mark3 w.heap K) hh)
theorem ok19 : okFn Try.prog 19 = true := by kernel_rfl
end Go.Proofs.Ytcbelendjpnmiaa.V
/- Two replicas in turns, beside the document's: the stage. -/
namespace Go.Proofs.Ytcbelendjpnmiaa.V
open Go Go.RowKit
set_option linter.unusedVariables false
set_option linter.unusedSimpArgs false
/-- A replica and the document's, or none yet. -/
abbrev PR := Option (Nat × Nat × RS)
def prN : PR → Option Addr | none => none | some x => some (pt x.1 0)
def prW : PR → Option Addr | none => none | some x => some (pt x.2.1 0)
def prR : PR → Res | none => emp | some x => sep (repR x.1 x.2.2) (repR x.2.1 x.2.2)
def stR (xs : List PR) (bk : Nat) (mark : Bool) : List Value := [] ++ ((xs.map prN).flatMap optc ++ ((xs.map prW).flatMap optc ++ [.pointer (some (pt bk 0)), .bool mark]))
theorem BkS.Ok.up {x : BkS} {T T' : Nat} (o : x.Ok T) (h : T ≤ T') : x.Ok T' := ⟨Nat.le_trans o.t h, o.n, o.room, o.u, fun i e hi => ⟨(o.len i e hi).1, Nat.le_trans (o.len i e hi).2 h⟩⟩
theorem bk_up {h0 h : Heap} {L : List Res} {bk T T' : Nat} (O : Sat h0 h (bkR bk T :: L)) (ht : T ≤ T') : Sat h0 h (bkR bk T' :: L) := by
  obtain ⟨x, o, O⟩ := O.book
  exact Sat.bookI (o.up ht) O
theorem stR_tail {xs : List PR} {bk : Nat} {mark : Bool} (hx : xs.length = 2) : (stR xs bk mark).drop 4 = [.pointer (some (pt bk 0)), .bool mark] := by
  match xs, hx with
  | [x, y], _ => rfl
section
variable {h0 h : Heap} {L : List Res}
theorem F_law1_Over.is {s : Sl} {zs : List UInt8} {Q : Heap → Prop} (O : Sat h0 h (lent s zs :: L)) (hs : s.len = zs.length) (hz : zs.length ≤ 4611686018427387904) (k : ∀ h', Sat h0 h' L → Q h') : F_law1_Over s h Q := by
  rw [F_law1_Over.eq_1, F_law1_Over_of.eq_1]
  refine jn_go ?_
  rw [F_law1_Over.l1.eq_1]
  exact fill_lent O hs hz fun zs' h' _ O => k h' O.drop
theorem sr_n {a bk : Nat} {mark : Bool} {xs : List PR} {k : Nat} {x : PR} {K : Addr → Option Addr → Prop} (hx : xs[k]? = some x) (hk : k < 2) (O : Sat h0 h L) (j : Nat) (hj : nth j L = own a (stR xs bk mark))
    (kk : ∀ c, (∀ {h0' h' : Heap} {L' : List Res}, Sat h0' h' L' → ∀ j', nth j' L' = own a (stR xs bk mark) → cellsAre h' c [.pointer (prN x)]) → K c (prN x)) : ixA 1 ((pt a 0).add 0) 2 k fun c => V.ld [.ptr] c h (K c) :=
  Sat.getO O j (enc := optc) (pre := []) (xs := xs.map prN) (ys := (xs.map prW).flatMap optc ++ [.pointer (some (pt bk 0)), .bool mark]) optc_len hj rfl (by omega) (by omega) (x := prN x) (by rw [Int.toNat_natCast, List.getElem?_map, hx]; rfl) id (fun _ => rfl) kk
theorem sr_w {a bk : Nat} {mark : Bool} {xs : List PR} {k : Nat} {x : PR} {K : Addr → Option Addr → Prop} (h2 : xs.length = 2) (hx : xs[k]? = some x) (hk : k < 2) (O : Sat h0 h L) (j : Nat) (hj : nth j L = own a (stR xs bk mark))
    (kk : ∀ c, (∀ {h0' h' : Heap} {L' : List Res}, Sat h0' h' L' → ∀ j', nth j' L' = own a (stR xs bk mark) → cellsAre h' c [.pointer (prW x)]) → K c (prW x)) : ixA 1 ((pt a 0).add 2) 2 k fun c => V.ld [.ptr] c h (K c) :=
  Sat.getO O j (enc := optc) (pre := (xs.map prN).flatMap optc) (xs := xs.map prW) (ys := [.pointer (some (pt bk 0)), .bool mark]) optc_len hj (by rw [flatMap_len optc_len]; simp [h2]) (by omega) (by omega) (x := prW x) (by rw [Int.toNat_natCast, List.getElem?_map, hx]; rfl) id (fun _ => rfl) kk
/-- A pair is laid into the stage. -/
theorem sr_put {a bk : Nat} {mark : Bool} {xs : List PR} {k : Nat} {p q : Nat} {r : RS} {h : Heap} (hx : xs.length = 2) (hk : k < 2) (O : Sat h0 h (own a (((xs.map prN).set k (some (pt p 0))).flatMap optc ++ (((xs.map prW).set k (some (pt q 0))).flatMap optc ++ [.pointer (some (pt bk 0)), .bool mark])) :: repR p r :: repR q r :: many prR xs :: L)) :
    Sat h0 h (own a (stR (xs.set k (some (p, q, r))) bk mark) :: many prR (xs.set k (some (p, q, r))) :: L) := by
  obtain ⟨x, hxk⟩ : ∃ x, xs[k]? = some x := ⟨_, List.getElem?_eq_getElem (by omega)⟩
  have O : Sat h0 h (own a (stR (xs.set k (some (p, q, r))) bk mark) :: repR p r :: repR q r :: many prR xs :: L) := by
    unfold stR
    rw [List.map_set, List.map_set]
    exact O
  have O2 := (O.sel [3, 0, 1, 2] 4 rfl (Nat.le_add_left _ _)).take k hxk
  have O3 := (O2.drop.sel [2, 3, 0, 1] 4 rfl (Nat.le_add_left _ _)).sepI
  have O4 := Sat.give (f := prR) (y := some (p, q, r)) (O3.sel [0, 1, 2] 3 rfl (Nat.le_add_left _ _)) (by omega)
  exact O4.swap
theorem F_law9_stage_fresh.is {a bk : Nat} {mark : Bool} {xs : List PR} {k : Nat} {v : Sl} {zs : List UInt8} {Q : Bool → Heap → Prop} (hx : xs.length = 2) (hk : k < 2) (Vv : Bytes h0 v zs) (hb : zs.length ≤ (140737488355325 : Nat)) (O : Sat h0 h (own a (stR xs bk mark) :: many prR xs :: L))
    (kk : ∀ p q h', Sat h0 h' (own a (stR (xs.set k (some (p, q, ⟨0, 0, 0, zs, 0⟩))) bk mark) :: many prR (xs.set k (some (p, q, ⟨0, 0, 0, zs, 0⟩))) :: L) → Q true h') : F_law9_stage_fresh (some (pt a 0)) k v h Q := by
  rw [F_law9_stage_fresh.eq_1, F_law9_stage_fresh_of.eq_1]
  refine F_law1_Lend.is O (Vv.kept O.kept) (by omega) fun s h O hs => ?_
  refine ⟨_, rfl, ?_⟩
  refine F_replica_New.is O (fun h O => (O.lent 0 (by simp) rfl).1) hb fun p h O => ?_
  replace O := O.sel [2, 0, 1, 3] 4 rfl (Nat.le_add_left _ _)
  simp only [selT, List.map, nth, List.drop, List.cons_append, List.nil_append] at O
  refine Sat.putO O optc_len optc_one rfl (by simp [hx]) (by omega) (by omega) (some (pt p 0)) rfl fun h O => ?_
  rw [Int.toNat_natCast] at O
  have O : Sat h0 h (own a (((xs.map prN).set k (some (pt p 0))).flatMap optc ++ ((xs.map prW).flatMap optc ++ [.pointer (some (pt bk 0)), .bool mark])) :: _) := O
  refine ⟨_, rfl, ?_⟩
  refine F_ref9_New.is O (Vv.kept O.kept) hb fun q h O => ?_
  replace O := O.sel [1, 0, 2, 3, 4] 5 rfl (Nat.le_add_left _ _)
  simp only [selT, List.map, nth, List.drop, List.cons_append, List.nil_append] at O
  rw [show (pt a 0).add 2 = pt a 2 from by rw [pt_add]]
  refine Sat.putO O optc_len optc_one (by rw [flatMap_len optc_len]; simp [hx]) (by simp [hx]) (by omega) (by omega) (some (pt q 0)) rfl fun h O => ?_
  rw [Int.toNat_natCast] at O
  refine F_law1_Intact.is O 3 (by simp) rfl (Vv.kept O.kept) (by omega) ?_
  replace O := O.sel [3, 0, 2, 1, 4] 5 rfl (Nat.le_add_left _ _)
  simp only [selT, List.map, nth, List.drop, List.cons_append, List.nil_append] at O
  refine F_law1_Over.is O hs (by omega) fun h O => ?_
  have O := sr_put hx hk O
  refine jn1 (fun z h' => z = true ∧ h' = h) (fun z h' ⟨e, e2⟩ => by subst e; subst e2; exact kk p q _ O) fun j hj => ?_
  refine brr_tt (by simp) ?_
  refine ⟨_, rfl, ?_⟩
  refine sr_n (x := some (p, q, ⟨0, 0, 0, zs, 0⟩)) (by rw [List.getElem?_set_self (by omega)]) hk O 0 rfl fun c _ => ?_
  exact hj _ _ ⟨rfl, rfl⟩
theorem F_law9_stage_load.is {a bk : Nat} {mark : Bool} {xs : List PR} {k : Nat} {e1 e2 e3 sp : Int} {v : Sl} {zs : List UInt8} {Q : Bool → Heap → Prop} (hx : xs.length = 2) (hk : k < 2) (Vv : Stays h0 L fun h => Bytes h v zs) (hb : zs.length ≤ (140737488355325 : Nat)) (O : Sat h0 h (own a (stR xs bk mark) :: many prR xs :: L))
    (kk : ∀ p q h', Sat h0 h' (own a (stR (xs.set k (some (p, q, ⟨e1, e2, e3, zs, spanOf sp⟩))) bk mark) :: many prR (xs.set k (some (p, q, ⟨e1, e2, e3, zs, spanOf sp⟩))) :: L) → Q true h') : F_law9_stage_load (some (pt a 0)) k e1 e2 e3 v sp h Q := by
  rw [F_law9_stage_load.eq_1, F_law9_stage_load_of.eq_1]
  refine O.al fun x8 h O => ?_
  repeat (first | (with_reducible refine al_id ?_); refine O.al fun _ h O => ?_ | (with_reducible refine nn_id ?_); refine ⟨_, rfl, ?_⟩ | (with_reducible refine ld_id ?_); (first | refine O.ld 0 rfl ?_); (repeat (first | (with_reducible refine ldL_n ?_) | refine ldL_s ?_ | refine ldL_c ?_)) | (with_reducible refine st_ad (by first | (with_reducible rfl) | (simp only [pt_add, Nat.zero_add, Nat.add_zero, Nat.reduceAdd]; with_reducible rfl)) ?_); (first | refine O.st 0 rfl (by simp) rfl fun h O => ?_); (dsimp only [V.put, List.set, List.length_cons, List.length_nil] at O) | (with_reducible refine ca_id ?_); (first | refine O.ca 0 1 rfl ?_ | refine O.ca 0 2 rfl ?_))
  refine F_law1_Lend.is O (Vv h O.drop.drop.drop) (by omega) fun s h O hs => ?_
  repeat (first | (with_reducible refine al_id ?_); refine O.al fun _ h O => ?_ | (with_reducible refine nn_id ?_); refine ⟨_, rfl, ?_⟩ | (with_reducible refine ld_id ?_); (first | refine O.ld 0 rfl ?_ | refine O.ld 1 rfl ?_); (repeat (first | (with_reducible refine ldL_n ?_) | refine ldL_s ?_ | refine ldL_c ?_)) | (with_reducible refine st_ad (by first | (with_reducible rfl) | (simp only [pt_add, Nat.zero_add, Nat.add_zero, Nat.reduceAdd]; with_reducible rfl)) ?_); (first | refine O.st 0 rfl (by simp) rfl fun h O => ?_ | refine O.st 1 rfl (by simp) rfl fun h O => ?_); (dsimp only [V.put, List.set, List.length_cons, List.length_nil] at O) | (with_reducible refine ca_id ?_); (first | refine O.ca 0 1 rfl ?_ | refine O.ca 0 2 rfl ?_ | refine O.ca 1 1 rfl ?_ | refine O.ca 1 2 rfl ?_))
  refine F_replica_Load.is O (fun h O => (O.lent 1 (by simp) rfl).1) hb fun p h O => ?_
  replace O := O.sel [4, 0, 1, 2, 3, 5] 6 rfl (Nat.le_add_left _ _)
  simp only [selT, List.map, nth, List.drop, List.cons_append, List.nil_append] at O
  refine Sat.putO O optc_len optc_one rfl (by simp [hx]) (by omega) (by omega) (some (pt p 0)) rfl fun h O => ?_
  rw [Int.toNat_natCast] at O
  have O : Sat h0 h (own a (((xs.map prN).set k (some (pt p 0))).flatMap optc ++ ((xs.map prW).flatMap optc ++ [.pointer (some (pt bk 0)), .bool mark])) :: _) := O
  repeat (first | (with_reducible refine al_id ?_); refine O.al fun _ h O => ?_ | (with_reducible refine nn_id ?_); refine ⟨_, rfl, ?_⟩ | (with_reducible refine ld_id ?_); (first | refine O.ld 0 rfl ?_ | refine O.ld 1 rfl ?_ | refine O.ld 2 rfl ?_ | refine O.ld 3 rfl ?_ | refine O.ld 4 rfl ?_); (repeat (first | (with_reducible refine ldL_n ?_) | refine ldL_s ?_ | refine ldL_c ?_)) | (with_reducible refine st_ad (by first | (with_reducible rfl) | (simp only [pt_add, Nat.zero_add, Nat.add_zero, Nat.reduceAdd]; with_reducible rfl)) ?_); (first | refine O.st 0 rfl (by simp) rfl fun h O => ?_ | refine O.st 1 rfl (by simp) rfl fun h O => ?_ | refine O.st 2 rfl (by simp) rfl fun h O => ?_ | refine O.st 3 rfl (by simp) rfl fun h O => ?_ | refine O.st 4 rfl (by simp) rfl fun h O => ?_); (dsimp only [V.put, List.set, List.length_cons, List.length_nil] at O) | (with_reducible refine ca_id ?_); (first | refine O.ca 0 1 rfl ?_ | refine O.ca 0 2 rfl ?_ | refine O.ca 1 1 rfl ?_ | refine O.ca 1 2 rfl ?_ | refine O.ca 2 1 rfl ?_ | refine O.ca 2 2 rfl ?_ | refine O.ca 3 1 rfl ?_ | refine O.ca 3 2 rfl ?_ | refine O.ca 4 1 rfl ?_ | refine O.ca 4 2 rfl ?_))
  refine F_ref9_Load.is O (fun h O => Vv h (O.sel [] 6 rfl (Nat.le_add_left _ _))) hb fun q h O => ?_
  replace O := O.sel [1, 0, 2, 3, 4, 5, 6] 7 rfl (Nat.le_add_left _ _)
  simp only [selT, List.map, nth, List.drop, List.cons_append, List.nil_append] at O
  rw [show (pt a 0).add 2 = pt a 2 from by rw [pt_add]]
  refine Sat.putO O optc_len optc_one (by rw [flatMap_len optc_len]; simp [hx]) (by simp [hx]) (by omega) (by omega) (some (pt q 0)) rfl fun h O => ?_
  rw [Int.toNat_natCast] at O
  repeat (first | (with_reducible refine al_id ?_); refine O.al fun _ h O => ?_ | (with_reducible refine nn_id ?_); refine ⟨_, rfl, ?_⟩ | (with_reducible refine ld_id ?_); (first | refine O.ld 0 rfl ?_ | refine O.ld 1 rfl ?_ | refine O.ld 2 rfl ?_ | refine O.ld 3 rfl ?_ | refine O.ld 4 rfl ?_ | refine O.ld 5 rfl ?_); (repeat (first | (with_reducible refine ldL_n ?_) | refine ldL_s ?_ | refine ldL_c ?_)) | (with_reducible refine st_ad (by first | (with_reducible rfl) | (simp only [pt_add, Nat.zero_add, Nat.add_zero, Nat.reduceAdd]; with_reducible rfl)) ?_); (first | refine O.st 0 rfl (by simp) rfl fun h O => ?_ | refine O.st 1 rfl (by simp) rfl fun h O => ?_ | refine O.st 2 rfl (by simp) rfl fun h O => ?_ | refine O.st 3 rfl (by simp) rfl fun h O => ?_ | refine O.st 4 rfl (by simp) rfl fun h O => ?_ | refine O.st 5 rfl (by simp) rfl fun h O => ?_); (dsimp only [V.put, List.set, List.length_cons, List.length_nil] at O) | (with_reducible refine ca_id ?_); (first | refine O.ca 0 1 rfl ?_ | refine O.ca 0 2 rfl ?_ | refine O.ca 1 1 rfl ?_ | refine O.ca 1 2 rfl ?_ | refine O.ca 2 1 rfl ?_ | refine O.ca 2 2 rfl ?_ | refine O.ca 3 1 rfl ?_ | refine O.ca 3 2 rfl ?_ | refine O.ca 4 1 rfl ?_ | refine O.ca 4 2 rfl ?_ | refine O.ca 5 1 rfl ?_ | refine O.ca 5 2 rfl ?_))
  refine F_law1_Intact.is O 4 (by simp) rfl (Vv h (O.sel [] 7 rfl (Nat.le_add_left _ _))) (by omega) ?_
  replace O := O.sel [4, 0, 2, 1, 6] 7 rfl (Nat.le_add_left _ _)
  simp only [selT, List.map, nth, List.drop, List.cons_append, List.nil_append] at O
  refine F_law1_Over.is O hs (by omega) fun h O => ?_
  have O := sr_put hx hk O
  refine jn1 (fun z h' => z = true ∧ h' = h) (fun z h' ⟨e, e2⟩ => by subst e; subst e2; exact kk p q _ O) fun j hj => ?_
  refine brr_tt (by simp) ?_
  refine ⟨_, rfl, ?_⟩
  refine sr_n (x := some (p, q, ⟨e1, e2, e3, zs, spanOf sp⟩)) (by rw [List.getElem?_set_self (by omega)]) hk O 0 rfl fun c _ => ?_
  exact hj _ _ ⟨rfl, rfl⟩
end
end Go.Proofs.Ytcbelendjpnmiaa.V
namespace Go.Proofs.Ytcbelendjpnmiaa.V
open Go Go.RowKit
set_option linter.unusedVariables false
set_option maxRecDepth 100000
def F_law9_ReplicaExact_of (f19_ : Sl → Sl → Bool → Heap → (Bool → Heap → Prop) → Prop) (s1 s2 : Sl) (h : Heap) (Q : Bool → Heap → Prop) : Prop :=
  al 59 [.slice s1.ptr s1.len s1.cap, .slice s2.ptr s2.len s2.cap] h fun (a3 : Addr) (h4 : Heap) =>
  ld [.sl, .sl] a3 h4 fun (v5 v6 : Sl) =>
  f19_ v5 v6 false h4 fun (r7 : Bool) (h8 : Heap) =>
  Q r7 h8
def F_law9_ReplicaExact (s1 s2 : Sl) (h : Heap) (Q : Bool → Heap → Prop) : Prop := F_law9_ReplicaExact_of F_law9_play s1 s2 h Q
def plan4 : Plan := .s (.r [1]) (.s (.r [2]) .z)
theorem F_law9_ReplicaExact.eq (f19_ : Sl → Sl → Bool → Heap → (Bool → Heap → Prop) → Prop) (s1 s2 : Sl) (h : Heap) (K : Value → Heap → Prop) : F_law9_ReplicaExact_of f19_ s1 s2 h (fun (r0 : Bool) (h : Heap) => K (.bool r0) h) =
    den Try.prog (fn1 19 (E_law9_play_of f19_) noFns) Try.f4.ntmps plan4 (bodyOf Try.f4) (args0 0 [(.agg #[.slice s1.ptr s1.len s1.cap, .slice s2.ptr s2.len s2.cap] : Value)]) h ⟨fun env h => dRes Try.prog Try.f4.results.toList env h K, fun _ _ _ => False, fun env h => dRes Try.prog Try.f4.results.toList env h K⟩ := by kernel_rfl
def E_law9_ReplicaExact_of (f : Sl → Sl → Heap → (Bool → Heap → Prop) → Prop) : List Value → Heap → (Value → Heap → Prop) → Prop
  | [v0], h, K => vAgg v0 fun cs0 => decs [.sl, .sl] cs0.toList fun (s1 s2 : Sl) =>
  f s1 s2 h (fun (r0 : Bool) (h : Heap) => K (.bool r0) h)
  | _, _, _ => False
abbrev E_law9_ReplicaExact := E_law9_ReplicaExact_of F_law9_ReplicaExact
theorem E_law9_ReplicaExact.at (f : Sl → Sl → Heap → (Bool → Heap → Prop) → Prop) (s1 s2 : Sl) (h : Heap) (K : Value → Heap → Prop) : E_law9_ReplicaExact_of f [.agg ([.slice s1.ptr s1.len s1.cap, .slice s2.ptr s2.len s2.cap] : List Value).toArray] h K = f s1 s2 h (fun (r0 : Bool) (h : Heap) => K (.bool r0) h) := rfl
theorem E_law9_ReplicaExact.right : IsRight Try.prog 4 E_law9_ReplicaExact := by
  refine isRight fun vs K w hh => ?_
  match vs, hh with
  | [v0], hh =>
    unfold E_law9_ReplicaExact E_law9_ReplicaExact_of at hh
    replace hh := vAgg_sound hh; obtain ⟨cs0, rfl, hh⟩ := hh
    replace hh := decs_cons hh; obtain ⟨s1, l0_0, e0_0, hh⟩ := hh
    replace hh := decs_cons hh; obtain ⟨s2, l0_1, e0_1, hh⟩ := hh
    replace hh := decs_nil hh; obtain ⟨rfl, hh⟩ := hh
    subst e0_1
    have ec0 := toArray_eq e0_0
    subst ec0
    unfold F_law9_ReplicaExact at hh
    exact calls_den (fn1_right ok19 E_law9_play.right noFns_right) plan4 _ w K Try.func4 (by kernel_rfl) (by kernel_rfl) (Eq.mp (F_law9_ReplicaExact.eq F_law9_play s1 s2 w.heap K) hh)
theorem ok4 : okFn Try.prog 4 = true := by kernel_rfl
end Go.Proofs.Ytcbelendjpnmiaa.V
/- Two replicas in turns: every answer is the document's: what ReplicaExact plays. -/
namespace Go.Proofs.Ytcbelendjpnmiaa.V
open Go Go.RowKit
set_option linter.unusedVariables false
set_option linter.unusedSimpArgs false
theorem stR_same {xs : List PR} {k p q bk : Nat} {r r' : RS} {mark : Bool} (hx : xs[k]? = some (some (p, q, r))) : stR (xs.set k (some (p, q, r'))) bk mark = stR xs bk mark := by
  unfold stR
  rw [List.map_set, List.map_set, set_same (show (xs.map prN)[k]? = some (prN (some (p, q, r'))) by rw [List.getElem?_map, hx]; rfl), set_same (show (xs.map prW)[k]? = some (prW (some (p, q, r'))) by rw [List.getElem?_map, hx]; rfl)]
section
variable {h0 h : Heap} {L : List Res}
theorem ld_mark {a bk : Nat} {mark : Bool} {xs : List PR} {K : Bool → Prop} (h2 : xs.length = 2) (O : Sat h0 h L) (j : Nat) (hj : nth j L = own a (stR xs bk mark)) (k : K mark) : ld [.bool] ((pt a 0).add 5) h K := by
  rw [show (pt a 0).add 5 = pt a 5 from by rw [pt_add]]
  refine O.ld j hj ?_
  have e : (stR xs bk mark).drop 5 = [.bool mark] := by rw [show 5 = 4 + 1 from rfl, ← List.drop_drop, stR_tail h2]; rfl
  rw [e]
  exact ldL_c (k := .bool) (ldL_n k)
theorem ld_book {a bk : Nat} {mark : Bool} {xs : List PR} {K : Option Addr → Prop} (h2 : xs.length = 2) (O : Sat h0 h L) (j : Nat) (hj : nth j L = own a (stR xs bk mark)) (k : K (some (pt bk 0))) : ld [.ptr] ((pt a 0).add 4) h K := by
  rw [show (pt a 0).add 4 = pt a 4 from by rw [pt_add]]
  refine O.ld j hj ?_
  rw [stR_tail h2]
  exact ldL_c (k := .ptr) (ldL_n k)
theorem F_law9_stage_stored.is {a bk T k p q : Nat} {mark : Bool} {xs : List PR} {r : RS} {Q : Bool → Heap → Prop} (h2 : xs.length = 2) (hk : k < 2) (hx : xs[k]? = some (some (p, q, r))) (ok : r.Ok) (hT : T ≤ 100000000) (O : Sat h0 h (own a (stR xs bk mark) :: bkR bk T :: many prR xs :: L))
    (kk : ∀ h', Sat h0 h' (own a (stR xs bk mark) :: bkR bk (T + 1) :: many prR xs :: L) → Q true h') : F_law9_stage_stored (some (pt a 0)) k h Q := by
  rw [F_law9_stage_stored.eq_1, F_law9_stage_stored_of.eq_1]
  have hv := ok.v
  have O := ((O.sel [2, 0, 1] 3 rfl (Nat.le_add_left _ _)).take k hx).sep
  have O : Sat h0 h (repR p r :: repR q r :: hole prR xs k :: own a (stR xs bk mark) :: bkR bk T :: L) := O
  have back : ∀ {h : Heap}, Sat h0 h (repR p r :: repR q r :: hole prR xs k :: own a (stR xs bk mark) :: bkR bk (T + 1) :: L) → Q true h := by
    intro h O
    have O := Sat.give (f := prR) (y := some (p, q, r)) O.sepI (List.getElem?_eq_some_iff.1 hx).1
    rw [set_same hx] at O
    exact kk _ (O.sel [1, 2, 0] 3 rfl (Nat.le_add_left _ _))
  refine ⟨_, rfl, ?_⟩
  refine sr_n hx hk O 3 rfl fun c _ => ?_
  refine F_replica_Replica_Stored.is ok O fun s h O => ?_
  refine O.al fun x11 h O => ?_
  refine O.st 0 rfl (by simp) rfl fun h O => ?_
  dsimp only [V.put, List.set] at O
  refine jn1 (fun z h' => z = true ∧ Sat h0 h' (own x11 [.int .u64 r.prom, .int .u64 r.te, .int .u64 r.ts, .slice s.ptr s.len s.cap] :: buf 1 u8 s r.val :: repR p r :: repR q r :: hole prR xs k :: own a (stR xs bk mark) :: bkR bk T :: L)) ?_ ?_
  · clear O
    rintro z h ⟨rfl, O⟩
    refine ⟨_, rfl, ?_⟩
    refine ld_mark h2 O 5 rfl ?_
    refine jn0 (fun h' => Sat h0 h' (repR p r :: repR q r :: hole prR xs k :: own a (stR xs bk mark) :: bkR bk (T + 1) :: L)) (fun h O => back O) fun j hj => ?_
    refine brr_of (fun _ => ?_) (fun _ => ?_)
    · refine ⟨_, rfl, ?_⟩
      refine ld_book h2 O 5 rfl ?_
      repeat (first | (with_reducible refine al_id ?_); refine O.al fun _ h O => ?_ | (with_reducible refine nn_id ?_); refine ⟨_, rfl, ?_⟩ | (with_reducible refine ld_id ?_); (first | refine O.ld 0 rfl ?_); (repeat (first | (with_reducible refine ldL_n ?_) | refine ldL_s ?_ | refine ldL_c ?_)) | (with_reducible refine st_ad (by first | (with_reducible rfl) | (simp only [pt_add, Nat.zero_add, Nat.add_zero, Nat.reduceAdd]; with_reducible rfl)) ?_); (first | refine O.st 0 rfl (by simp) rfl fun h O => ?_); (dsimp only [V.put, List.set, List.length_cons, List.length_nil] at O) | (with_reducible refine ca_id ?_); (first | refine O.ca 0 1 rfl ?_ | refine O.ca 0 2 rfl ?_))
      replace O := O.sel [1, 6, 2, 3, 4, 5] 7 rfl (Nat.le_add_left _ _)
      simp only [selT, List.map, nth, List.drop, List.cons_append, List.nil_append] at O
      refine F_law1_Book_Bytes.is (by omega) (by omega) O fun h O => ?_
      exact hj _ (O.sel [1, 2, 3, 4, 0] 5 rfl (Nat.le_add_left _ _))
    · have O := bk_up (O.sel [6, 2, 3, 4, 5] 7 rfl (Nat.le_add_left _ _)) (Nat.le_succ T)
      exact hj _ (O.sel [1, 2, 3, 4, 0] 5 rfl (Nat.le_add_left _ _))
  · intro j hj
    refine O.ld 0 rfl (ldL_c (ldL_c (ldL_c (ldL_s (ldL_n ?_)))))
    refine ⟨_, rfl, ?_⟩
    refine sr_w h2 hx hk O 5 rfl fun c _ => ?_
    replace O := O.sel [3, 0, 1, 2, 4, 5, 6] 7 rfl (Nat.le_add_left _ _)
    simp only [selT, List.map, nth, List.drop, List.cons_append, List.nil_append] at O
    refine F_ref9_Replica_Stored.is ok O fun s2 h O => ?_
    refine ⟨cellsAre_blk (O.blk (i := 2) (by simp) rfl).2 0 4, ?_⟩
    refine F_ref0_EqStored.is O (fun h O => (O.view 3 u8_len (by simp) rfl).1) (fun h O => (O.view 0 u8_len (by simp) rfl).1) ok.v ok.v fun h O => ?_
    refine brr_tt (by simp) ?_
    refine ⟨_, rfl, ?_⟩
    refine sr_n hx hk O 6 rfl fun c1 _ => ?_
    refine ⟨_, rfl, ?_⟩
    refine sr_w h2 hx hk O 6 rfl fun c2 hc2 => ?_
    replace O := O.sel [4, 0, 1, 2, 3, 5, 6, 7] 8 rfl (Nat.le_add_left _ _)
    simp only [selT, List.map, nth, List.drop, List.cons_append, List.nil_append] at O
    refine F_replica_Replica_Wait.is O ?_
    refine ⟨hc2 O 6 rfl, ?_⟩
    replace O := O.sel [2, 0, 1, 3, 4, 5, 6, 7] 8 rfl (Nat.le_add_left _ _)
    simp only [selT, List.map, nth, List.drop, List.cons_append, List.nil_append] at O
    refine F_ref9_Replica_Wait.is O ?_
    refine hj _ _ ⟨by simp, ?_⟩
    exact O.sel [3, 4, 1, 0, 5, 6, 7] 8 rfl (Nat.le_add_left _ _)
theorem F_law9_stage_hear.is {a bk T k p q : Nat} {mark : Bool} {xs : List PR} {r : RS} {m : Mg} {Q : Bool → Heap → Prop} (h2 : xs.length = 2) (hk : k < 2) (hx : xs[k]? = some (some (p, q, r))) (ok : r.Ok) (hT : T ≤ 100000000) (Vm : Bytes h0 m.v m.b) (hb : m.b.length ≤ (140737488355325 : Nat)) (O : Sat h0 h (own a (stR xs bk mark) :: bkR bk T :: many prR xs :: L))
    (kk : ∀ h', Sat h0 h' (own a (stR (xs.set k (some (p, q, (hearS r m).1))) bk mark) :: bkR bk (T + 1) :: many prR (xs.set k (some (p, q, (hearS r m).1))) :: L) → Q true h') : F_law9_stage_hear (some (pt a 0)) k m.kind m.frm m.to m.shard m.epoch m.te m.ts m.round m.span m.seen m.v m.peer m.num m.name m.other m.amount m.life m.id m.op m.client m.state m.bad h Q := by
  rw [F_law9_stage_hear.eq_1, F_law9_stage_hear_of.eq_1]
  have hdv := hearS_val (m := m) ok
  have O := ((O.sel [2, 0, 1] 3 rfl (Nat.le_add_left _ _)).take k hx).sep
  have O : Sat h0 h (repR p r :: repR q r :: hole prR xs k :: own a (stR xs bk mark) :: bkR bk T :: L) := O
  have back : ∀ {h : Heap}, Sat h0 h (repR p (hearS r m).1 :: repR q (hearS r m).1 :: hole prR xs k :: own a (stR xs bk mark) :: bkR bk (T + 1) :: L) → Q true h := by
    intro h O
    have O := Sat.give (f := prR) (y := some (p, q, (hearS r m).1)) O.sepI (List.getElem?_eq_some_iff.1 hx).1
    have O := O.sel [1, 2, 0] 3 rfl (Nat.le_add_left _ _)
    have O : Sat h0 h (own a (stR xs bk mark) :: bkR bk (T + 1) :: many prR (xs.set k (some (p, q, (hearS r m).1))) :: L) := O
    rw [← stR_same (r' := (hearS r m).1) hx] at O
    exact kk _ O
  refine O.al fun x25 h O => ?_
  repeat (first | (with_reducible refine al_id ?_); refine O.al fun _ h O => ?_ | (with_reducible refine nn_id ?_); refine ⟨_, rfl, ?_⟩ | (with_reducible refine ld_id ?_); (first | refine O.ld 0 rfl ?_); (repeat (first | (with_reducible refine ldL_n ?_) | refine ldL_s ?_ | refine ldL_c ?_)) | (with_reducible refine st_ad (by first | (with_reducible rfl) | (simp only [pt_add, Nat.zero_add, Nat.add_zero, Nat.reduceAdd]; with_reducible rfl)) ?_); (first | refine O.st 0 rfl (by simp) rfl fun h O => ?_); (dsimp only [V.put, List.set, List.length_cons, List.length_nil] at O) | (with_reducible refine ca_id ?_); (first | refine O.ca 0 1 rfl ?_ | refine O.ca 0 2 rfl ?_))
  refine F_law1_Lend.is O (Vm.kept O.kept) (by omega) fun s28 h O hs => ?_
  refine O.ld 1 rfl ?_
  repeat (first | (with_reducible refine ldL_n ?_) | refine ldL_s ?_ | refine ldL_c ?_)
  refine O.al fun x52 h O => ?_
  repeat (first | (with_reducible refine al_id ?_); refine O.al fun _ h O => ?_ | (with_reducible refine nn_id ?_); refine ⟨_, rfl, ?_⟩ | (with_reducible refine ld_id ?_); (first | refine O.ld 0 rfl ?_); (repeat (first | (with_reducible refine ldL_n ?_) | refine ldL_s ?_ | refine ldL_c ?_)) | (with_reducible refine st_ad (by first | (with_reducible rfl) | (simp only [pt_add, Nat.zero_add, Nat.add_zero, Nat.reduceAdd]; with_reducible rfl)) ?_); (first | refine O.st 0 rfl (by simp) rfl fun h O => ?_); (dsimp only [V.put, List.set, List.length_cons, List.length_nil] at O) | (with_reducible refine ca_id ?_); (first | refine O.ca 0 1 rfl ?_ | refine O.ca 0 2 rfl ?_))
  generalize hd : (hearS r m).2 = d at hdv
  have O : Sat h0 h (own x52 (mgC { m with v := s28 }) :: lent s28 m.b :: own x25 (mgC m) :: repR p r :: repR q r :: hole prR xs k :: own a (stR xs bk mark) :: bkR bk T :: L) := O
  refine jn1 (fun f h' => ∃ x s, f = pt x 0 ∧ Sat h0 h' (own x (hdC d s) :: buf 1 u8 s d.val :: repR p (hearS r m).1 :: lent s28 m.b :: own x25 (mgC m) :: repR q r :: hole prR xs k :: own a (stR xs bk mark) :: bkR bk T :: L)) ?_ ?_
  case refine_2 =>
    subst hd
    intro j hj
    refine ⟨?_, ?_⟩
    · refine ⟨_, rfl, ?_⟩
      refine sr_n hx hk O 6 rfl fun c hc => ?_
      refine O.ld 0 rfl ?_
      repeat (first | (with_reducible refine ldL_n ?_) | refine ldL_s ?_ | refine ldL_c ?_)
      replace O := O.sel [3, 0, 1, 2, 4, 5, 6, 7] 8 rfl (Nat.le_add_left _ _)
      simp only [selT, List.map, nth, List.drop, List.cons_append, List.nil_append] at O
      refine F_replica_Replica_Hear.is (m := { m with v := s28 }) ok (fun h O => (O.lent 1 (by simp) rfl).1) hb O fun s h O => ?_
      refine O.al fun x108 h O => ?_
      refine ⟨hc O 8 rfl, cellsAre_blk (O.blk (i := 3) (by simp) rfl).2 0 22, ?_⟩
      refine O.st 0 rfl (by simp) rfl fun h O => ?_
      dsimp only [V.put, List.set] at O
      exact hj _ _ ⟨x108, s, rfl, O.sel [0, 1, 2, 4, 5, 6, 7, 8, 9] 10 rfl (Nat.le_add_left _ _)⟩
    · refine ⟨_, rfl, ?_⟩
      refine sr_n hx hk O 6 rfl fun c hc => ?_
      refine O.ld 0 rfl ?_
      repeat (first | (with_reducible refine ldL_n ?_) | refine ldL_s ?_ | refine ldL_c ?_)
      refine O.al fun x108 h O => ?_
      refine ⟨hc O 7 rfl, cellsAre_blk (O.blk (i := 1) (by simp) rfl).2 0 22, ?_⟩
      replace O := O.sel [4, 0, 1, 2, 3, 5, 6, 7, 8] 9 rfl (Nat.le_add_left _ _)
      simp only [selT, List.map, nth, List.drop, List.cons_append, List.nil_append] at O
      refine F_replica_Replica_Hear.is (m := { m with v := s28 }) ok (fun h O => (O.lent 2 (by simp) rfl).1) hb O fun s h O => ?_
      replace O := O.sel [2, 0, 1, 3, 4, 5, 6, 7, 8, 9] 10 rfl (Nat.le_add_left _ _)
      simp only [selT, List.map, nth, List.drop, List.cons_append, List.nil_append] at O
      refine O.st 0 rfl (by simp) rfl fun h O => ?_
      dsimp only [V.put, List.set] at O
      exact hj _ _ ⟨x108, s, rfl, O.sel [0, 1, 2, 4, 5, 6, 7, 8, 9] 10 rfl (Nat.le_add_left _ _)⟩
  clear O
  rintro f h ⟨x, s, rfl, O⟩
  refine jn1 (fun f h' => ∃ y u, f = pt y 0 ∧ Sat h0 h' (own y (hdC d u) :: buf 1 u8 u d.val :: own x (hdC d s) :: buf 1 u8 s d.val :: lent s28 m.b :: own x25 (mgC m) :: repR p (hearS r m).1 :: repR q (hearS r m).1 :: hole prR xs k :: own a (stR xs bk mark) :: bkR bk T :: L)) ?_ ?_
  case refine_2 =>
    subst hd
    intro j hj
    -- x, buf s, repR p, lent, x25, repR q, hole, a, bk
    refine ⟨?_, ?_, ?_⟩
    · refine ⟨_, rfl, ?_⟩
      refine sr_w h2 hx hk O 7 rfl fun c hc => ?_
      refine O.ld 4 rfl ?_
      repeat (first | (with_reducible refine ldL_n ?_) | refine ldL_s ?_ | refine ldL_c ?_)
      refine F_ref0_CopyMsg.is (m := m) O (fun h O => Vm.kept O.kept) hb fun sc h O => ?_
      refine ⟨hc O 8 rfl, ?_⟩
      replace O := O.sel [6, 0, 1, 2, 3, 4, 5, 7, 8, 9] 10 rfl (Nat.le_add_left _ _)
      simp only [selT, List.map, nth, List.drop, List.cons_append, List.nil_append] at O
      refine F_ref9_Replica_Hear.is (m := { m with v := sc }) ok (fun h O => (O.view 0 u8_len (by simp) rfl).1) hb O fun u h O => ?_
      refine O.al fun y h O => ?_
      refine ⟨hc O 10 rfl, cellsAre_blk (O.blk (i := 8) (by simp) rfl).2 0 22, ?_⟩
      refine O.st 0 rfl (by simp) rfl fun h O => ?_
      dsimp only [V.put, List.set] at O
      exact hj _ _ ⟨y, u, rfl, O.sel [0, 1, 4, 5, 7, 8, 6, 2, 9, 10, 11] 12 rfl (Nat.le_add_left _ _)⟩
    · refine ⟨_, rfl, ?_⟩
      refine sr_w h2 hx hk O 7 rfl fun c hc => ?_
      refine O.ld 4 rfl ?_
      repeat (first | (with_reducible refine ldL_n ?_) | refine ldL_s ?_ | refine ldL_c ?_)
      refine F_ref0_CopyMsg.is (m := m) O (fun h O => Vm.kept O.kept) hb fun sc h O => ?_
      refine ⟨hc O 8 rfl, ?_⟩
      refine O.al fun y h O => ?_
      refine ⟨hc O 9 rfl, cellsAre_blk (O.blk (i := 6) (by simp) rfl).2 0 22, ?_⟩
      replace O := O.sel [7, 1, 0, 2, 3, 4, 5, 6, 8, 9, 10] 11 rfl (Nat.le_add_left _ _)
      simp only [selT, List.map, nth, List.drop, List.cons_append, List.nil_append] at O
      refine F_ref9_Replica_Hear.is (m := { m with v := sc }) ok (fun h O => (O.view 0 u8_len (by simp) rfl).1) hb O fun u h O => ?_
      replace O := O.sel [3, 0, 1, 2, 4, 5, 6, 7, 8, 9, 10, 11] 12 rfl (Nat.le_add_left _ _)
      simp only [selT, List.map, nth, List.drop, List.cons_append, List.nil_append] at O
      refine O.st 0 rfl (by simp) rfl fun h O => ?_
      dsimp only [V.put, List.set] at O
      exact hj _ _ ⟨y, u, rfl, O.sel [0, 1, 4, 5, 7, 8, 6, 2, 9, 10, 11] 12 rfl (Nat.le_add_left _ _)⟩
    · refine ⟨_, rfl, ?_⟩
      refine sr_w h2 hx hk O 7 rfl fun c hc => ?_
      refine O.ld 4 rfl ?_
      repeat (first | (with_reducible refine ldL_n ?_) | refine ldL_s ?_ | refine ldL_c ?_)
      refine O.al fun y h O => ?_
      refine ⟨hc O 8 rfl, cellsAre_blk (O.blk (i := 5) (by simp) rfl).2 0 22, ?_⟩
      refine F_ref0_CopyMsg.is (m := m) O (fun h O => Vm.kept O.kept) hb fun sc h O => ?_
      refine ⟨hc O 9 rfl, ?_⟩
      replace O := O.sel [7, 0, 1, 2, 3, 4, 5, 6, 8, 9, 10] 11 rfl (Nat.le_add_left _ _)
      simp only [selT, List.map, nth, List.drop, List.cons_append, List.nil_append] at O
      refine F_ref9_Replica_Hear.is (m := { m with v := sc }) ok (fun h O => (O.view 0 u8_len (by simp) rfl).1) hb O fun u h O => ?_
      replace O := O.sel [3, 0, 1, 2, 4, 5, 6, 7, 8, 9, 10, 11] 12 rfl (Nat.le_add_left _ _)
      simp only [selT, List.map, nth, List.drop, List.cons_append, List.nil_append] at O
      refine O.st 0 rfl (by simp) rfl fun h O => ?_
      dsimp only [V.put, List.set] at O
      exact hj _ _ ⟨y, u, rfl, O.sel [0, 1, 4, 5, 7, 8, 6, 2, 9, 10, 11] 12 rfl (Nat.le_add_left _ _)⟩
  clear O
  rintro f h ⟨y, u, rfl, O⟩
  -- y, buf u, x, buf s, lent, x25, repR p, repR q, hole, a, bk
  refine jn1 (fun z h' => z = true ∧ Sat h0 h' (lent s28 m.b :: own x (hdC d s) :: buf 1 u8 s d.val :: repR p (hearS r m).1 :: repR q (hearS r m).1 :: hole prR xs k :: own a (stR xs bk mark) :: bkR bk T :: L)) ?_ ?_
  case refine_2 =>
    intro j hj
    repeat (first | (with_reducible refine al_id ?_); refine O.al fun _ h O => ?_ | (with_reducible refine nn_id ?_); refine ⟨_, rfl, ?_⟩ | (with_reducible refine ld_id ?_); (first | refine O.ld 0 rfl ?_ | refine O.ld 1 rfl ?_ | refine O.ld 2 rfl ?_ | refine O.ld 3 rfl ?_ | refine O.ld 4 rfl ?_ | refine O.ld 5 rfl ?_); (repeat (first | (with_reducible refine ldL_n ?_) | refine ldL_s ?_ | refine ldL_c ?_)) | (with_reducible refine st_ad (by first | (with_reducible rfl) | (simp only [pt_add, Nat.zero_add, Nat.add_zero, Nat.reduceAdd]; with_reducible rfl)) ?_); (first | refine O.st 0 rfl (by simp) rfl fun h O => ?_ | refine O.st 1 rfl (by simp) rfl fun h O => ?_ | refine O.st 2 rfl (by simp) rfl fun h O => ?_ | refine O.st 3 rfl (by simp) rfl fun h O => ?_ | refine O.st 4 rfl (by simp) rfl fun h O => ?_ | refine O.st 5 rfl (by simp) rfl fun h O => ?_); (dsimp only [V.put, List.set, List.length_cons, List.length_nil] at O) | (with_reducible refine ca_id ?_); (first | refine O.ca 0 1 rfl ?_ | refine O.ca 0 2 rfl ?_ | refine O.ca 1 1 rfl ?_ | refine O.ca 1 2 rfl ?_ | refine O.ca 2 1 rfl ?_ | refine O.ca 2 2 rfl ?_ | refine O.ca 3 1 rfl ?_ | refine O.ca 3 2 rfl ?_ | refine O.ca 4 1 rfl ?_ | refine O.ca 4 2 rfl ?_ | refine O.ca 5 1 rfl ?_ | refine O.ca 5 2 rfl ?_))
    refine F_ref0_EqMsg.is (m := hdM d s) (t := u) O (fun h O => (O.view 3 u8_len (by simp) rfl).1) (fun h O => (O.view 1 u8_len (by simp) rfl).1) hdv fun h O => ?_
    refine brr_tt rfl ?_
    repeat (first | (with_reducible refine al_id ?_); refine O.al fun _ h O => ?_ | (with_reducible refine nn_id ?_); refine ⟨_, rfl, ?_⟩ | (with_reducible refine ld_id ?_); (first | refine O.ld 0 rfl ?_ | refine O.ld 1 rfl ?_ | refine O.ld 2 rfl ?_ | refine O.ld 3 rfl ?_ | refine O.ld 4 rfl ?_ | refine O.ld 5 rfl ?_); (repeat (first | (with_reducible refine ldL_n ?_) | refine ldL_s ?_ | refine ldL_c ?_)) | (with_reducible refine st_ad (by first | (with_reducible rfl) | (simp only [pt_add, Nat.zero_add, Nat.add_zero, Nat.reduceAdd]; with_reducible rfl)) ?_); (first | refine O.st 0 rfl (by simp) rfl fun h O => ?_ | refine O.st 1 rfl (by simp) rfl fun h O => ?_ | refine O.st 2 rfl (by simp) rfl fun h O => ?_ | refine O.st 3 rfl (by simp) rfl fun h O => ?_ | refine O.st 4 rfl (by simp) rfl fun h O => ?_ | refine O.st 5 rfl (by simp) rfl fun h O => ?_); (dsimp only [V.put, List.set, List.length_cons, List.length_nil] at O) | (with_reducible refine ca_id ?_); (first | refine O.ca 0 1 rfl ?_ | refine O.ca 0 2 rfl ?_ | refine O.ca 1 1 rfl ?_ | refine O.ca 1 2 rfl ?_ | refine O.ca 2 1 rfl ?_ | refine O.ca 2 2 rfl ?_ | refine O.ca 3 1 rfl ?_ | refine O.ca 3 2 rfl ?_ | refine O.ca 4 1 rfl ?_ | refine O.ca 4 2 rfl ?_ | refine O.ca 5 1 rfl ?_ | refine O.ca 5 2 rfl ?_))
    refine brr_tt (by simp) ?_
    repeat (first | (with_reducible refine al_id ?_); refine O.al fun _ h O => ?_ | (with_reducible refine nn_id ?_); refine ⟨_, rfl, ?_⟩ | (with_reducible refine ld_id ?_); (first | refine O.ld 0 rfl ?_ | refine O.ld 1 rfl ?_ | refine O.ld 2 rfl ?_ | refine O.ld 3 rfl ?_ | refine O.ld 4 rfl ?_ | refine O.ld 5 rfl ?_); (repeat (first | (with_reducible refine ldL_n ?_) | refine ldL_s ?_ | refine ldL_c ?_)) | (with_reducible refine st_ad (by first | (with_reducible rfl) | (simp only [pt_add, Nat.zero_add, Nat.add_zero, Nat.reduceAdd]; with_reducible rfl)) ?_); (first | refine O.st 0 rfl (by simp) rfl fun h O => ?_ | refine O.st 1 rfl (by simp) rfl fun h O => ?_ | refine O.st 2 rfl (by simp) rfl fun h O => ?_ | refine O.st 3 rfl (by simp) rfl fun h O => ?_ | refine O.st 4 rfl (by simp) rfl fun h O => ?_ | refine O.st 5 rfl (by simp) rfl fun h O => ?_); (dsimp only [V.put, List.set, List.length_cons, List.length_nil] at O) | (with_reducible refine ca_id ?_); (first | refine O.ca 0 1 rfl ?_ | refine O.ca 0 2 rfl ?_ | refine O.ca 1 1 rfl ?_ | refine O.ca 1 2 rfl ?_ | refine O.ca 2 1 rfl ?_ | refine O.ca 2 2 rfl ?_ | refine O.ca 3 1 rfl ?_ | refine O.ca 3 2 rfl ?_ | refine O.ca 4 1 rfl ?_ | refine O.ca 4 2 rfl ?_ | refine O.ca 5 1 rfl ?_ | refine O.ca 5 2 rfl ?_))
    refine brr_tt (by simp) ?_
    repeat (first | (with_reducible refine al_id ?_); refine O.al fun _ h O => ?_ | (with_reducible refine nn_id ?_); refine ⟨_, rfl, ?_⟩ | (with_reducible refine ld_id ?_); (first | refine O.ld 0 rfl ?_ | refine O.ld 1 rfl ?_ | refine O.ld 2 rfl ?_ | refine O.ld 3 rfl ?_ | refine O.ld 4 rfl ?_ | refine O.ld 5 rfl ?_); (repeat (first | (with_reducible refine ldL_n ?_) | refine ldL_s ?_ | refine ldL_c ?_)) | (with_reducible refine st_ad (by first | (with_reducible rfl) | (simp only [pt_add, Nat.zero_add, Nat.add_zero, Nat.reduceAdd]; with_reducible rfl)) ?_); (first | refine O.st 0 rfl (by simp) rfl fun h O => ?_ | refine O.st 1 rfl (by simp) rfl fun h O => ?_ | refine O.st 2 rfl (by simp) rfl fun h O => ?_ | refine O.st 3 rfl (by simp) rfl fun h O => ?_ | refine O.st 4 rfl (by simp) rfl fun h O => ?_ | refine O.st 5 rfl (by simp) rfl fun h O => ?_); (dsimp only [V.put, List.set, List.length_cons, List.length_nil] at O) | (with_reducible refine ca_id ?_); (first | refine O.ca 0 1 rfl ?_ | refine O.ca 0 2 rfl ?_ | refine O.ca 1 1 rfl ?_ | refine O.ca 1 2 rfl ?_ | refine O.ca 2 1 rfl ?_ | refine O.ca 2 2 rfl ?_ | refine O.ca 3 1 rfl ?_ | refine O.ca 3 2 rfl ?_ | refine O.ca 4 1 rfl ?_ | refine O.ca 4 2 rfl ?_ | refine O.ca 5 1 rfl ?_ | refine O.ca 5 2 rfl ?_))
    refine brr_tt (by simp) ?_
    repeat (first | (with_reducible refine al_id ?_); refine O.al fun _ h O => ?_ | (with_reducible refine nn_id ?_); refine ⟨_, rfl, ?_⟩ | (with_reducible refine ld_id ?_); (first | refine O.ld 0 rfl ?_ | refine O.ld 1 rfl ?_ | refine O.ld 2 rfl ?_ | refine O.ld 3 rfl ?_ | refine O.ld 4 rfl ?_ | refine O.ld 5 rfl ?_); (repeat (first | (with_reducible refine ldL_n ?_) | refine ldL_s ?_ | refine ldL_c ?_)) | (with_reducible refine st_ad (by first | (with_reducible rfl) | (simp only [pt_add, Nat.zero_add, Nat.add_zero, Nat.reduceAdd]; with_reducible rfl)) ?_); (first | refine O.st 0 rfl (by simp) rfl fun h O => ?_ | refine O.st 1 rfl (by simp) rfl fun h O => ?_ | refine O.st 2 rfl (by simp) rfl fun h O => ?_ | refine O.st 3 rfl (by simp) rfl fun h O => ?_ | refine O.st 4 rfl (by simp) rfl fun h O => ?_ | refine O.st 5 rfl (by simp) rfl fun h O => ?_); (dsimp only [V.put, List.set, List.length_cons, List.length_nil] at O) | (with_reducible refine ca_id ?_); (first | refine O.ca 0 1 rfl ?_ | refine O.ca 0 2 rfl ?_ | refine O.ca 1 1 rfl ?_ | refine O.ca 1 2 rfl ?_ | refine O.ca 2 1 rfl ?_ | refine O.ca 2 2 rfl ?_ | refine O.ca 3 1 rfl ?_ | refine O.ca 3 2 rfl ?_ | refine O.ca 4 1 rfl ?_ | refine O.ca 4 2 rfl ?_ | refine O.ca 5 1 rfl ?_ | refine O.ca 5 2 rfl ?_))
    refine F_law1_Intact.is O 4 (by simp) rfl (Vm.kept O.kept) (by omega) ?_
    exact hj _ _ ⟨by simp, O.sel [4, 2, 3, 6, 7, 8, 9, 10] 11 rfl (Nat.le_add_left _ _)⟩
  clear O
  rintro z h ⟨rfl, O⟩
  refine F_law1_Over.is O hs (by omega) fun h O => ?_
  refine ⟨_, rfl, ?_⟩
  refine ld_mark h2 O 5 rfl ?_
  refine jn0 (fun h' => Sat h0 h' (repR p (hearS r m).1 :: repR q (hearS r m).1 :: hole prR xs k :: own a (stR xs bk mark) :: bkR bk (T + 1) :: L)) (fun h O => back O) fun j hj => ?_
  refine brr_of (fun _ => ?_) (fun _ => ?_)
  · refine ⟨_, rfl, ?_⟩
    refine ld_book h2 O 5 rfl ?_
    repeat (first | (with_reducible refine al_id ?_); refine O.al fun _ h O => ?_ | (with_reducible refine nn_id ?_); refine ⟨_, rfl, ?_⟩ | (with_reducible refine ld_id ?_); (first | refine O.ld 0 rfl ?_); (repeat (first | (with_reducible refine ldL_n ?_) | refine ldL_s ?_ | refine ldL_c ?_)) | (with_reducible refine st_ad (by first | (with_reducible rfl) | (simp only [pt_add, Nat.zero_add, Nat.add_zero, Nat.reduceAdd]; with_reducible rfl)) ?_); (first | refine O.st 0 rfl (by simp) rfl fun h O => ?_); (dsimp only [V.put, List.set, List.length_cons, List.length_nil] at O) | (with_reducible refine ca_id ?_); (first | refine O.ca 0 1 rfl ?_ | refine O.ca 0 2 rfl ?_))
    replace O := O.sel [1, 6, 2, 3, 4, 5] 7 rfl (Nat.le_add_left _ _)
    simp only [selT, List.map, nth, List.drop, List.cons_append, List.nil_append] at O
    refine F_law1_Book_Bytes.is (by omega) (by omega) O fun h O => ?_
    exact hj _ (O.sel [1, 2, 3, 4, 0] 5 rfl (Nat.le_add_left _ _))
  · have O := bk_up (O.sel [6, 2, 3, 4, 5] 7 rfl (Nat.le_add_left _ _)) (Nat.le_succ T)
    exact hj _ (O.sel [1, 2, 3, 4, 0] 5 rfl (Nat.le_add_left _ _))
end
end Go.Proofs.Ytcbelendjpnmiaa.V
/- Two replicas in turns: the whole play; ReplicaExact. -/
namespace Go.Proofs.Ytcbelendjpnmiaa.V
open Go Go.RowKit
set_option linter.unusedVariables false
set_option linter.unusedSimpArgs false
abbrev tyRScript : Ty := .cons tyB (.cons (.sl 30 288 tyROp) .nil)
def prC : PR → Prop | none => False | some x => x.2.2.Ok
section
variable {h0 h : Heap} {L : List Res}
theorem F_law9_into.is {i n : Int} {Q : Int → Heap → Prop} (hn : 0 < n) (hn2 : n < 4611686018427387904) (k : Q (i % n) h) : F_law9_into i n h Q := by
  rw [F_law9_into.eq_1, F_law9_into_of.eq_1]
  have hf := tmod_fix (a := i) hn
  have hl := tmod_lt (a := i) hn
  refine ⟨by omega, ?_⟩
  refine jn1 (fun x h' => x = i % n ∧ h' = h) ?_ ?_
  · rintro x h ⟨rfl, rfl⟩
    exact k
  · intro j hj
    refine brr_p (fun hlt => ?_) (fun hlt => ?_)
    · rw [if_pos hlt] at hf
      rw [wrap64 (by omega) (by omega)]
      exact hj _ _ ⟨hf, rfl⟩
    · rw [if_neg hlt] at hf
      exact hj _ _ ⟨hf, rfl⟩
theorem prC_set {xs : List PR} {k : Nat} {y : PR} (h : ∀ x ∈ xs, prC x) (hy : prC y) : ∀ x ∈ xs.set k y, prC x := by
  intro z hz
  rcases List.mem_or_eq_of_mem_set hz with hz | rfl
  · exact h z hz
  · exact hy
theorem prC_put {xs : List PR} {k p q : Nat} {r : RS} (h : ∀ x ∈ xs, prC x) (ok : r.Ok) : ∀ x ∈ xs.set k (some (p, q, r)), prC x := prC_set h ok
theorem ok_new {zs : List UInt8} (hb : zs.length ≤ (140737488355325 : Nat)) : RS.Ok ⟨0, 0, 0, zs, 0⟩ := ⟨hb, Int.le_refl _, by show (0 : Int) ≤ _; decide⟩
theorem F_law9_stage_plays.is {a bk T : Nat} {mark : Bool} {xs : List PR} {o : ROp} {Q : Bool → Heap → Prop} (h2 : xs.length = 2) (hpr : ∀ x ∈ xs, prC x) (hT : T ≤ 100000000) (oo : o.Ok h0)
    (O : Sat h0 h (own a (stR xs bk mark) :: bkR bk T :: many prR xs :: L)) (kk : ∀ (ys : List PR) h', ys.length = 2 → (∀ x ∈ ys, prC x) → Sat h0 h' (own a (stR ys bk mark) :: bkR bk (T + 1) :: many prR ys :: L) → Q true h') : F_law9_stage_plays (some (pt a 0)) o.do_ o.which o.span o.epoch (o.m).kind (o.m).frm (o.m).to (o.m).shard (o.m).epoch (o.m).te (o.m).ts (o.m).round (o.m).span (o.m).seen (o.m).v (o.m).peer (o.m).num (o.m).name (o.m).other (o.m).amount (o.m).life (o.m).id (o.m).op (o.m).client (o.m).state (o.m).bad o.sp o.ste o.sts o.sv h Q := by
  rw [F_law9_stage_plays.eq_1, F_law9_stage_plays_of.eq_1]
  refine O.al fun x32 h O => ?_
  refine O.ld 0 rfl (ldL_c (ldL_n ?_))
  refine F_law9_into.is (by decide) (by decide) ?_
  have n0 := Int.emod_nonneg o.which (show (2 : Int) ≠ 0 by decide)
  have n1 := Int.emod_lt_of_pos o.which (show (0 : Int) < 2 by decide)
  obtain ⟨k, hkk⟩ : ∃ k : Nat, o.which % 2 = k := ⟨(o.which % 2).toNat, by omega⟩
  rw [hkk] at n0 n1 ⊢
  have hk : k < 2 := by omega
  obtain ⟨x, hx⟩ : ∃ x, xs[k]? = some x := ⟨_, List.getElem?_eq_getElem (by omega)⟩
  have hxc := hpr _ (List.mem_of_getElem? hx)
  obtain ⟨⟨p, q, r⟩, rfl⟩ : ∃ y, x = some y := by
    cases x with
    | none => exact hxc.elim
    | some y => exact ⟨y, rfl⟩
  have ok : r.Ok := hxc
  have sz : ∀ y : PR, (xs.set k y).length = 2 := fun y => by rw [List.length_set]; exact h2
  refine O.ld 0 rfl (ldL_c (ldL_n ?_))
  refine brr_eq (fun d1 => ?_) (fun d1 => ?_)
  · refine O.ld 0 rfl ?_
    repeat (first | (with_reducible refine ldL_n ?_) | refine ldL_s ?_ | refine ldL_c ?_)
    refine F_law9_stage_hear.is (m := o.m) h2 hk hx ok hT oo.mv oo.mb O.drop fun h O => ?_
    exact kk _ h (sz _) (prC_put hpr (hearS_ok ok oo.mb oo.mspan)) O
  have O1 : Sat h0 h (repR p r :: repR q r :: hole prR xs k :: own x32 (ropC o) :: own a (stR xs bk mark) :: bkR bk T :: L) :=
    ((O.sel [3, 0, 1, 2] 4 rfl (Nat.le_add_left _ _)).take k hx).sep
  have back : ∀ {h : Heap} {r' : RS} {M : List Res}, r'.Ok → Sat h0 h (repR p r' :: repR q r' :: hole prR xs k :: own x32 (ropC o) :: own a (stR xs bk mark) :: bkR bk T :: L) → Q true h := by
    intro h r' M ok' O
    have O := Sat.give (f := prR) (y := some (p, q, r')) O.sepI (List.getElem?_eq_some_iff.1 hx).1
    have O : Sat h0 h (own a (stR xs bk mark) :: bkR bk T :: many prR (xs.set k (some (p, q, r'))) :: L) := O.sel [2, 3, 0] 4 rfl (Nat.le_add_left _ _)
    rw [← stR_same (r' := r') hx] at O
    exact kk _ _ (sz _) (prC_put hpr ok') ((bk_up O.swap (Nat.le_succ T)).swap)
  refine jn0 (fun h' => Q true h') (fun h hq => hq) fun j62 hj => ?_
  refine brr_eq (fun d2 => ?_) (fun d2 => ?_)
  · refine ⟨_, rfl, ?_⟩
    refine sr_n hx hk O1 4 rfl fun c1 _ => ?_
    refine F_replica_Replica_Tick.is ok O1 fun h O => ?_
    refine ⟨_, rfl, ?_⟩
    refine sr_w h2 hx hk O 4 rfl fun c2 _ => ?_
    refine F_ref9_Replica_Tick.is ok O.swap fun h O => ?_
    exact hj _ (back (M := L) (tickS_ok ok) O.swap)
  refine brr_eq (fun d3 => ?_) (fun d3 => ?_)
  · refine ⟨_, rfl, ?_⟩
    refine sr_n hx hk O1 4 rfl fun c1 _ => ?_
    refine O1.ld 3 rfl (ldL_c (ldL_n ?_))
    refine ⟨_, rfl, ?_⟩
    refine sr_w h2 hx hk O1 4 rfl fun c2 hc2 => ?_
    refine O1.ld 3 rfl (ldL_c (ldL_n ?_))
    refine F_replica_Replica_Own.is O1 fun h O => ?_
    refine ⟨hc2 O 4 rfl, cellsAre_blk (O.blk (i := 3) (by simp) rfl).2 3 1, ?_⟩
    refine F_ref9_Replica_Own.is O.swap fun h O => ?_
    have := back (r' := ownS r o.epoch) (M := L) ⟨ok.v, ok.w0, ok.w1⟩ O.swap
    simpa using this
  refine brr_eq (fun d4 => ?_) (fun d4 => ?_)
  · refine F_law9_stage_stored.is h2 hk hx ok hT O.drop fun h O => ?_
    exact kk _ h h2 hpr O
  refine brr_eq (fun d5 => ?_) (fun d5 => ?_)
  · refine O.ld 0 rfl (ldL_c (ldL_c (ldL_c (ldL_s (ldL_n ?_)))))
    refine O.ld 0 rfl (ldL_c (ldL_n ?_))
    replace O := O.sel [1, 3, 2] 4 rfl (Nat.le_add_left _ _)
    have O : Sat h0 h (own a (stR xs bk mark) :: many prR xs :: bkR bk T :: L) := O
    refine F_law9_stage_load.is h2 hk (fun h O => oo.sv.kept O.kept) oo.sb O fun p' q' h O => ?_
    have hsp := spanOf_ok oo.span
    exact kk _ h (sz _) (prC_put hpr ⟨oo.sb, hsp.1, hsp.2⟩) ((bk_up (O.sel [2, 0, 1] 3 rfl (Nat.le_add_left _ _)) (Nat.le_succ T)).swap)
  refine brr_eq (fun d6 => ?_) (fun d6 => ?_)
  · refine O.ld 0 rfl (ldL_s (ldL_n ?_))
    replace O := O.sel [1, 3, 2] 4 rfl (Nat.le_add_left _ _)
    have O : Sat h0 h (own a (stR xs bk mark) :: many prR xs :: bkR bk T :: L) := O
    refine F_law9_stage_fresh.is h2 hk oo.sv oo.sb O fun p' q' h O => ?_
    exact kk _ h (sz _) (prC_put hpr (ok_new oo.sb)) ((bk_up (O.sel [2, 0, 1] 3 rfl (Nat.le_add_left _ _)) (Nat.le_succ T)).swap)
  refine brr_eq (fun d7 => ?_) (fun d7 => ?_)
  · refine ⟨_, rfl, ?_⟩
    refine sr_w h2 hx hk O1 4 rfl fun c2 hc2 => ?_
    refine O1.ld 3 rfl (ldL_c (ldL_n ?_))
    refine F_ref9_Replica_Stored.is ok O1.swap fun s h O => ?_
    refine ⟨cellsAre_blk (O.blk (i := 4) (by simp) rfl).2 2 1, ?_⟩
    have O2 := Sat.give (f := prR) (y := some (p, q, r)) (Sat.sepI (O.sel [2, 1, 3, 0, 4, 5, 6] 7 rfl (Nat.le_add_left _ _))) (List.getElem?_eq_some_iff.1 hx).1
    rw [set_same hx] at O2
    have O : Sat h0 h (own a (stR xs bk mark) :: many prR xs :: bkR bk T :: buf 1 u8 s r.val :: L) := O2.sel [3, 0, 4, 1] 5 rfl (Nat.le_add_left _ _)
    have hsp := spanOf_ok oo.span
    refine F_law9_stage_load.is h2 hk (fun h O => (O.view 1 u8_len (by simp) rfl).1) ok.v O fun p' q' h O => ?_
    exact kk _ h (sz _) (prC_put (r := ⟨r.prom, r.te, r.ts, r.val, spanOf o.span⟩) hpr ⟨ok.v, hsp.1, hsp.2⟩) ((bk_up (O.sel [2, 0, 1] 4 rfl (Nat.le_add_left _ _)) (Nat.le_succ T)).swap)
  · exact hj _ (back (r' := r) (M := L) ok O1)
theorem book_new {bk : Nat} (O : Sat h0 h (own bk (bkC ⟨none, 0, 0⟩ ⟨none, 0, 0⟩ 0 0 0 0) :: L)) : Sat h0 h (bkR bk 0 :: L) := by
  have O := famR.none O
  have O := O.nil_buf (sz := 1) (enc := natc)
  have O := O.nil_buf (sz := 1) (enc := slc)
  replace O := O.sel [3, 0, 1, 2] 4 rfl (Nat.le_add_left _ _)
  simp only [selT, List.map, nth, List.drop, List.cons_append, List.nil_append] at O
  exact Sat.bookI (x := ⟨⟨none, 0, 0⟩, ⟨none, 0, 0⟩, [], 0, 0, 0, 0⟩) ⟨Nat.le_refl _, Nat.le_refl _, by simp, by decide, fun i e hi => by simp at hi⟩ O
theorem rstage0 {bk a c4 : Nat} {mark : Bool} {s1 s2 : Sl} {zs : List UInt8} {j : Bool → Heap → Prop} (Vv : Bytes h0 s1 zs) (hb : zs.length ≤ (140737488355325 : Nat)) (O : Sat h0 h (own a [.pointer none, .pointer none, .pointer none, .pointer none, .pointer (some (pt bk 0)), .bool mark] :: own bk (bkC ⟨none, 0, 0⟩ ⟨none, 0, 0⟩ 0 0 0 0) :: own c4 [.slice s1.ptr s1.len s1.cap, .slice s2.ptr s2.len s2.cap] :: L))
    (kk : ∀ (xs : List PR) h', xs.length = 2 → (∀ x ∈ xs, prC x) → Sat h0 h' (own a (stR xs bk mark) :: bkR bk 0 :: many prR xs :: own c4 [.slice s1.ptr s1.len s1.cap, .slice s2.ptr s2.len s2.cap] :: L) → j false h') :
    ld [.sl] ((pt c4 0).add 0) h fun v11 => F_law9_stage_fresh (some (pt a 0)) 0 v11 h fun r12 h13 => brr (!r12) (j true h13) (ld [.sl] ((pt c4 0).add 0) h13 fun v14 => F_law9_stage_fresh (some (pt a 0)) 1 v14 h13 fun r15 h16 => j (!r15) h16) := by
  have O := (book_new O.swap).swap
  have O : Sat h0 h (many prR [] :: own a (stR [none, none] bk mark) :: bkR bk 0 :: own c4 [.slice s1.ptr s1.len s1.cap, .slice s2.ptr s2.len s2.cap] :: L) := O.none (f := prR)
  have O : Sat h0 h (prR none :: many prR [] :: own a (stR [none, none] bk mark) :: bkR bk 0 :: own c4 [.slice s1.ptr s1.len s1.cap, .slice s2.ptr s2.len s2.cap] :: L) := O.empI
  have O := O.more
  have O : Sat h0 h (prR none :: many prR [none] :: own a (stR [none, none] bk mark) :: bkR bk 0 :: own c4 [.slice s1.ptr s1.len s1.cap, .slice s2.ptr s2.len s2.cap] :: L) := O.empI
  have O := O.more
  have O : Sat h0 h (many prR [none, none] :: own a (stR [none, none] bk mark) :: bkR bk 0 :: own c4 [.slice s1.ptr s1.len s1.cap, .slice s2.ptr s2.len s2.cap] :: L) := O
  repeat (first | (with_reducible refine al_id ?_); refine O.al fun _ h O => ?_ | (with_reducible refine nn_id ?_); refine ⟨_, rfl, ?_⟩ | (with_reducible refine ld_id ?_); (first | refine O.ld 0 rfl ?_ | refine O.ld 1 rfl ?_ | refine O.ld 2 rfl ?_ | refine O.ld 3 rfl ?_); (repeat (first | (with_reducible refine ldL_n ?_) | refine ldL_s ?_ | refine ldL_c ?_)) | (with_reducible refine st_ad (by first | (with_reducible rfl) | (simp only [pt_add, Nat.zero_add, Nat.add_zero, Nat.reduceAdd]; with_reducible rfl)) ?_); (first | refine O.st 0 rfl (by simp) rfl fun h O => ?_ | refine O.st 1 rfl (by simp) rfl fun h O => ?_ | refine O.st 2 rfl (by simp) rfl fun h O => ?_ | refine O.st 3 rfl (by simp) rfl fun h O => ?_); (dsimp only [V.put, List.set, List.length_cons, List.length_nil] at O) | (with_reducible refine ca_id ?_); (first | refine O.ca 0 1 rfl ?_ | refine O.ca 0 2 rfl ?_ | refine O.ca 1 1 rfl ?_ | refine O.ca 1 2 rfl ?_ | refine O.ca 2 1 rfl ?_ | refine O.ca 2 2 rfl ?_ | refine O.ca 3 1 rfl ?_ | refine O.ca 3 2 rfl ?_))
  replace O := O.sel [1, 0, 2, 3] 4 rfl (Nat.le_add_left _ _)
  simp only [selT, List.map, nth, List.drop, List.cons_append, List.nil_append] at O
  refine F_law9_stage_fresh.is (k := 0) rfl (by decide) Vv hb O fun p0 q0 h O => ?_
  refine brr_ff rfl ?_
  repeat (first | (with_reducible refine al_id ?_); refine O.al fun _ h O => ?_ | (with_reducible refine nn_id ?_); refine ⟨_, rfl, ?_⟩ | (with_reducible refine ld_id ?_); (first | refine O.ld 0 rfl ?_ | refine O.ld 1 rfl ?_ | refine O.ld 2 rfl ?_ | refine O.ld 3 rfl ?_); (repeat (first | (with_reducible refine ldL_n ?_) | refine ldL_s ?_ | refine ldL_c ?_)) | (with_reducible refine st_ad (by first | (with_reducible rfl) | (simp only [pt_add, Nat.zero_add, Nat.add_zero, Nat.reduceAdd]; with_reducible rfl)) ?_); (first | refine O.st 0 rfl (by simp) rfl fun h O => ?_ | refine O.st 1 rfl (by simp) rfl fun h O => ?_ | refine O.st 2 rfl (by simp) rfl fun h O => ?_ | refine O.st 3 rfl (by simp) rfl fun h O => ?_); (dsimp only [V.put, List.set, List.length_cons, List.length_nil] at O) | (with_reducible refine ca_id ?_); (first | refine O.ca 0 1 rfl ?_ | refine O.ca 0 2 rfl ?_ | refine O.ca 1 1 rfl ?_ | refine O.ca 1 2 rfl ?_ | refine O.ca 2 1 rfl ?_ | refine O.ca 2 2 rfl ?_ | refine O.ca 3 1 rfl ?_ | refine O.ca 3 2 rfl ?_))
  refine F_law9_stage_fresh.is (k := 1) rfl (by decide) Vv hb O fun p1 q1 h O => ?_
  refine kk _ h rfl (fun x hx => ?_) (O.sel [0, 2, 1, 3] 4 rfl (Nat.le_add_left _ _))
  simp only [List.set, List.mem_cons, List.not_mem_nil, or_false] at hx
  rcases hx with rfl | rfl
  · exact ok_new hb
  · exact ok_new hb
theorem F_law9_play.is {s1 s2 : Sl} {mark : Bool} {zs : List UInt8} {ops : List ROp} {Q : Bool → Heap → Prop} (Vv : Bytes h0 s1 zs) (hb : zs.length ≤ (140737488355325 : Nat)) (Vo : View h0 30 (ropR h0) s2 ops) (O : Sat h0 h L) (kk : ∀ h', Sat h0 h' L → Q true h') : F_law9_play s1 s2 mark h Q := by
  rw [F_law9_play.eq_1, F_law9_play_of.eq_1]
  refine O.al fun c4 h O => ?_
  refine O.al fun bk h O => ?_
  refine O.al fun a h O => ?_
  refine jn1 (fun z h' => z = false ∧ ∃ xs : List PR, xs.length = 2 ∧ (∀ x ∈ xs, prC x) ∧ Sat h0 h' (own a (stR xs bk mark) :: bkR bk 0 :: many prR xs :: own c4 [.slice s1.ptr s1.len s1.cap, .slice s2.ptr s2.len s2.cap] :: L)) ?_ ?_
  case refine_2 =>
    intro j hj
    exact rstage0 Vv hb O fun xs h h2 hx O => hj _ _ ⟨rfl, xs, h2, hx, O⟩
  clear O
  rintro z h ⟨rfl, xs, h2, hx, O⟩
  refine brr_ff rfl ?_
  refine jn0 (fun h' => ∃ xs : List PR, xs.length = 2 ∧ (∀ x ∈ xs, prC x) ∧ Sat h0 h' (own a (stR xs bk mark) :: bkR bk 500 :: many prR xs :: L)) ?_ ?_
  · clear O hx h2 xs
    rintro h ⟨xs, h2, hx, O⟩
    refine jn1 (fun z h' => z = true ∧ Sat h0 h' L) (fun z h' ⟨e, O⟩ => e ▸ kk h' O) fun j hj => ?_
    have get : ∀ k, k < 2 → ∃ p q r, xs[k]? = some (some (p, q, r)) ∧ RS.Ok r := by
      intro k hk
      obtain ⟨x, hxk⟩ : ∃ x, xs[k]? = some x := ⟨_, List.getElem?_eq_getElem (by omega)⟩
      have hc := hx _ (List.mem_of_getElem? hxk)
      cases x with
      | none => exact hc.elim
      | some y => exact ⟨y.1, y.2.1, y.2.2, hxk, hc⟩
    obtain ⟨p0, q0, r0, hx0, ok0⟩ := get 0 (by decide)
    obtain ⟨p1, q1, r1, hx1, ok1⟩ := get 1 (by decide)
    refine F_law9_stage_stored.is (k := 0) h2 (by decide) hx0 ok0 (by decide) O fun h O => ?_
    refine brr_tt rfl ?_
    refine F_law9_stage_stored.is (k := 1) h2 (by decide) hx1 ok1 (by decide) O fun h O => ?_
    refine brr_tt rfl ?_
    refine F_law9_lives.is O.drop.drop.drop fun h O => ?_
    exact hj _ _ ⟨rfl, O⟩
  intro j22 hj22
  rw [F_law9_play.l1.eq_1]
  refine wl1 (k := .int .i64) (fun (m : Nat) (i : Int) (h' : Heap) => i + m = ops.length ∧ 0 ≤ i ∧ i ≤ 500 ∧ ∃ xs : List PR, xs.length = 2 ∧ (∀ x ∈ xs, prC x) ∧ Sat h0 h' (own a (stR xs bk mark) :: bkR bk i.toNat :: many prR xs :: own c4 [.slice s1.ptr s1.len s1.cap, .slice s2.ptr s2.len s2.cap] :: L)) ?_ (m := ops.length) ⟨by omega, by omega, by omega, xs, h2, hx, O⟩
  clear O hx h2 xs
  rintro m (i : Int) h next hn ⟨hi, hi0, hi4, xs, h2, hx, O⟩
  refine jn1 (fun t h' => h' = h ∧ t = decide (i < ops.length ∧ i < 500)) ?_ ?_
  case refine_2 =>
    intro j2 hj2
    repeat (first | (with_reducible refine al_id ?_); refine O.al fun _ h O => ?_ | (with_reducible refine nn_id ?_); refine ⟨_, rfl, ?_⟩ | (with_reducible refine ld_id ?_); (first | refine O.ld 0 rfl ?_ | refine O.ld 1 rfl ?_ | refine O.ld 2 rfl ?_ | refine O.ld 3 rfl ?_); (repeat (first | (with_reducible refine ldL_n ?_) | refine ldL_s ?_ | refine ldL_c ?_)) | (with_reducible refine st_ad (by first | (with_reducible rfl) | (simp only [pt_add, Nat.zero_add, Nat.add_zero, Nat.reduceAdd]; with_reducible rfl)) ?_); (first | refine O.st 0 rfl (by simp) rfl fun h O => ?_ | refine O.st 1 rfl (by simp) rfl fun h O => ?_ | refine O.st 2 rfl (by simp) rfl fun h O => ?_ | refine O.st 3 rfl (by simp) rfl fun h O => ?_); (dsimp only [V.put, List.set, List.length_cons, List.length_nil] at O) | (with_reducible refine ca_id ?_); (first | refine O.ca 0 1 rfl ?_ | refine O.ca 0 2 rfl ?_ | refine O.ca 1 1 rfl ?_ | refine O.ca 1 2 rfl ?_ | refine O.ca 2 1 rfl ?_ | refine O.ca 2 2 rfl ?_ | refine O.ca 3 1 rfl ?_ | refine O.ca 3 2 rfl ?_))
    rw [Vo.len]
    refine brr_p (fun hlt => ?_) (fun hlt => ?_)
    · exact hj2 _ _ ⟨rfl, by simp [hlt]⟩
    · exact hj2 _ _ ⟨rfl, by simp; intro h; omega⟩
  rintro t h ⟨rfl, rfl⟩
  refine brr_p (fun ht => ?_) (fun ht => hj22 _ ⟨xs, h2, hx, (bk_up (O.sel [1, 0, 2] 4 rfl (Nat.le_add_left _ _)) (by omega)).swap⟩)
  obtain ⟨hlt, hlt4⟩ := ht
  refine jn1 (fun z h' => z = false ∧ ∃ xs : List PR, xs.length = 2 ∧ (∀ x ∈ xs, prC x) ∧ Sat h0 h' (own a (stR xs bk mark) :: bkR bk (i.toNat + 1) :: many prR xs :: own c4 [.slice s1.ptr s1.len s1.cap, .slice s2.ptr s2.len s2.cap] :: L)) ?_ ?_
  · clear O hx h2 xs
    rintro z h ⟨rfl, xs, h2, hx, O⟩
    refine brr_ff rfl ?_
    have e1 : (i + 1).toNat = i.toNat + 1 := by omega
    rw [wrap64 (by omega) (by omega)]
    exact hn (m - 1) _ _ (by omega) ⟨by omega, by omega, by omega, xs, h2, hx, by rw [e1]; exact O⟩
  intro j30 hj30
  repeat (first | (with_reducible refine al_id ?_); refine O.al fun _ h O => ?_ | (with_reducible refine nn_id ?_); refine ⟨_, rfl, ?_⟩ | (with_reducible refine ld_id ?_); (first | refine O.ld 0 rfl ?_ | refine O.ld 1 rfl ?_ | refine O.ld 2 rfl ?_ | refine O.ld 3 rfl ?_); (repeat (first | (with_reducible refine ldL_n ?_) | refine ldL_s ?_ | refine ldL_c ?_)) | (with_reducible refine st_ad (by first | (with_reducible rfl) | (simp only [pt_add, Nat.zero_add, Nat.add_zero, Nat.reduceAdd]; with_reducible rfl)) ?_); (first | refine O.st 0 rfl (by simp) rfl fun h O => ?_ | refine O.st 1 rfl (by simp) rfl fun h O => ?_ | refine O.st 2 rfl (by simp) rfl fun h O => ?_ | refine O.st 3 rfl (by simp) rfl fun h O => ?_); (dsimp only [V.put, List.set, List.length_cons, List.length_nil] at O) | (with_reducible refine ca_id ?_); (first | refine O.ca 0 1 rfl ?_ | refine O.ca 0 2 rfl ?_ | refine O.ca 1 1 rfl ?_ | refine O.ca 1 2 rfl ?_ | refine O.ca 2 1 rfl ?_ | refine O.ca 2 2 rfl ?_ | refine O.ca 3 1 rfl ?_ | refine O.ca 3 2 rfl ?_))
  refine (Vo.kept O.kept).ix hi0 hlt fun a2 cs o ho hlen hR hc => ?_
  obtain ⟨rfl, oo⟩ := hR
  refine ld_are hc ?_
  unfold ropC
  repeat (first | (with_reducible refine ldL_n ?_) | refine ldL_s ?_ | refine ldL_c ?_)
  refine F_law9_stage_plays.is (o := o) h2 hx (by omega) oo O fun ys h h2 hy O => ?_
  refine brr_ff rfl ?_
  refine ⟨_, rfl, ?_⟩
  refine ld_book h2 O 0 rfl ?_
  refine F_law1_Book_Look.is (by omega) O.swap fun h O => ?_
  exact hj30 _ _ ⟨rfl, ys, h2, hy, O.swap⟩
end
theorem replicaExact_main (H : Heap) (cs : List Value) (F : Fit H 140737488351232 tyRScript cs) : E_law9_ReplicaExact [.agg cs.toArray] H (fun r h' => r = .bool true ∧ KeptH H h') := by
  obtain ⟨t1, _, rfl, t1S, F⟩ := Fit.s F
  obtain ⟨t2, _, rfl, t2S, F⟩ := Fit.s F
  obtain rfl := Fit.e F
  refine Eq.mpr (E_law9_ReplicaExact.at F_law9_ReplicaExact t1 t2 H _) ?_
  obtain ⟨ops, Vo⟩ := t2S.rops
  obtain ⟨_, b2, lv, Vl⟩ := t1S.bytes
  have hlv := Vl.len
  rw [F_law9_ReplicaExact.eq_1, F_law9_ReplicaExact_of.eq_1]
  refine Sat.al (Sat.nil H) fun x3 h1 O => ?_
  repeat (first | (with_reducible refine al_id ?_); refine O.al fun _ h O => ?_ | (with_reducible refine nn_id ?_); refine ⟨_, rfl, ?_⟩ | (with_reducible refine ld_id ?_); (first | refine O.ld 0 rfl ?_); (repeat (first | (with_reducible refine ldL_n ?_) | refine ldL_s ?_ | refine ldL_c ?_)) | (with_reducible refine st_ad (by first | (with_reducible rfl) | (simp only [pt_add, Nat.zero_add, Nat.add_zero, Nat.reduceAdd]; with_reducible rfl)) ?_); (first | refine O.st 0 rfl (by simp) rfl fun h O => ?_); (dsimp only [V.put, List.set, List.length_cons, List.length_nil] at O) | (with_reducible refine ca_id ?_); (first | refine O.ca 0 1 rfl ?_ | refine O.ca 0 2 rfl ?_))
  refine F_law9_play.is Vl (by omega) Vo O fun h O => ?_
  exact ⟨rfl, O.kept⟩
end Go.Proofs.Ytcbelendjpnmiaa.V
/- Lists of bytes that are kept and never written again. -/
namespace Go.Proofs.Ytcbelendjpnmiaa.V
open Go Go.RowKit
set_option linter.unusedVariables false
set_option linter.unusedSimpArgs false
abbrev PE := Sl × List UInt8
def inPool (E : Blks) (m : PE) : Prop := (m.1.len = 0 ∧ m.2 = []) ∨ ∃ b cs, (b, cs) ∈ E ∧ m.1.ptr = some (pt b 0) ∧ m.1.len = m.2.length ∧ ∀ (i : Nat) x, m.2[i]? = some x → cs[i]? = some (.int .u8 (x.toNat : Int))
def poolR (ms : List PE) : Res := fun E => ∀ m ∈ ms, inPool E m
theorem pool_sub {h0 h : Heap} {L : List Res} {ms fs : List PE} (O : Sat h0 h (poolR ms :: L)) (s : ∀ e ∈ fs, e ∈ ms) : Sat h0 h (poolR fs :: L) :=
  O.mono fun E k e he => k e (s e he)
theorem pool_none {h0 h : Heap} {L : List Res} (O : Sat h0 h L) : Sat h0 h (poolR [] :: L) := O.empI.mono fun E _ e he => by cases he
theorem pool_view {h0 h : Heap} {L : List Res} (O : Sat h0 h L) (i : Nat) {ms : List PE} {e : PE} (hi : i < L.length) (hn : nth i L = poolR ms) (he : e ∈ ms) : Bytes h e.1 e.2 := by
  obtain ⟨E1, E2, h1, O', _⟩ := O.at i hi
  rw [hn] at h1
  rcases h1 e he with ⟨h2, h3⟩ | ⟨b, cs, hm, hp, hl, ha⟩
  · rw [h3]
    refine ⟨h2, fun j x hj => by simp at hj⟩
  · have B := (O'.blk _ (List.mem_append.2 (.inl hm))).2
    refine ⟨hl, fun j x hj => ⟨pt b 0, u8 x, hp, rfl, rfl, ?_⟩⟩
    have hcell := ha j x hj
    have h2 := cellsAre_blk B j 1
    have e3 : (cs.drop j).take 1 = u8 x := by
      obtain ⟨hlt, e4⟩ := List.getElem?_eq_some_iff.1 hcell
      rw [List.drop_eq_getElem_cons hlt, e4]
      rfl
    rw [e3] at h2
    rw [pt_add, Nat.zero_add, Nat.mul_one]
    exact h2
theorem flat_u8_at : ∀ (l : List UInt8) (i : Nat), (l.flatMap u8)[i]? = (l[i]?).map fun x => Value.int .u8 (x.toNat : Int) := by
  intro l
  induction l with
  | nil => intro i; simp
  | cons x l ih =>
    intro i
    rw [List.flatMap_cons]
    cases i with
    | zero => rfl
    | succ i => exact ih i
/-- A list of one's own is kept from now on. -/
theorem pool_take {h0 h : Heap} {L : List Res} {ms : List PE} {s : Sl} {xs : List UInt8} (O : Sat h0 h (buf 1 u8 s xs :: poolR ms :: L)) : Sat h0 h (poolR (ms ++ [(s, xs)]) :: L) := by
  obtain ⟨sp, O⟩ := O.ex
  obtain ⟨E, ⟨E1, E2, p, hA, F1, F2, p2, k, h2⟩, O'⟩ := O
  rcases hA with ⟨rfl, rfl, _, rfl⟩ | ⟨b, j, rfl, hsp, rfl⟩
  · refine ⟨E, ⟨F1, F2, p.trans p2, fun e he => ?_, h2⟩, O'⟩
    rcases List.mem_append.1 he with he | he
    · exact k e he
    · rw [List.mem_singleton.1 he]; exact .inl ⟨rfl, rfl⟩
  · refine ⟨E, ⟨(b, xs.flatMap u8 ++ sp) :: F1, F2, p.trans (List.Perm.cons _ p2), fun e he => ?_, h2⟩, O'⟩
    rcases List.mem_append.1 he with he | he
    · rcases k e he with h | ⟨b', cs', hm, hp, hl, ha⟩
      · exact .inl h
      · exact .inr ⟨b', cs', List.mem_cons_of_mem _ hm, hp, hl, ha⟩
    · rw [List.mem_singleton.1 he]
      refine .inr ⟨b, _, List.mem_cons_self, rfl, rfl, fun i x hx => ?_⟩
      have hx : xs[i]? = some x := hx
      have hl := flatMap_len u8_len xs
      have hi := (List.getElem?_eq_some_iff.1 hx).1
      rw [List.getElem?_append_left (by omega), flat_u8_at, hx]
      rfl
end Go.Proofs.Ytcbelendjpnmiaa.V
namespace Go.Proofs.Ytcbelendjpnmiaa.V
open Go Go.RowKit
set_option linter.unusedVariables false
set_option maxRecDepth 100000
def F_law3_Shelf_holds_of  (x1 : Option Addr) (n2 : Int) (h : Heap) (Q : Bool → Heap → Prop) : Prop :=
  nn x1 fun (a3 : Addr) =>
  ld [.int .i64] (a3.add 0) h fun (v4 : Int) =>
  nn x1 fun (a5 : Addr) =>
  st (a5.add 0) [.int .i64 (IntKind.i64.wrap ((IntKind.i64.wrap (v4 + n2)) + 50))] h fun (h6 : Heap) =>
  nn x1 fun (a7 : Addr) =>
  ld [.int .i64] (a7.add 0) h6 fun (v8 : Int) =>
  Q (decide (v8 ≤ 4194304)) h6
def F_law3_Shelf_holds (x1 : Option Addr) (n2 : Int) (h : Heap) (Q : Bool → Heap → Prop) : Prop := F_law3_Shelf_holds_of  x1 n2 h Q
def plan60 : Plan := .s (.r [0, 1]) (.s (.r [0]) (.s (.r [4]) .z))
theorem F_law3_Shelf_holds.eq  (x1 : Option Addr) (n2 : Int) (h : Heap) (K : Value → Heap → Prop) : F_law3_Shelf_holds_of  x1 n2 h (fun (r0 : Bool) (h : Heap) => K (.bool r0) h) =
    den Try.prog noFns Try.f60.ntmps plan60 (bodyOf Try.f60) (args0 0 [(.pointer x1 : Value), (.int .i64 n2 : Value)]) h ⟨fun env h => dRes Try.prog Try.f60.results.toList env h K, fun _ _ _ => False, fun env h => dRes Try.prog Try.f60.results.toList env h K⟩ := by kernel_rfl
def E_law3_Shelf_holds_of (f : Option Addr → Int → Heap → (Bool → Heap → Prop) → Prop) : List Value → Heap → (Value → Heap → Prop) → Prop
  | [v0, v1], h, K => dec1 .ptr v0 fun (x1 : Option Addr) =>
  dec1 (.int .i64) v1 fun (n2 : Int) =>
  f x1 n2 h (fun (r0 : Bool) (h : Heap) => K (.bool r0) h)
  | _, _, _ => False
abbrev E_law3_Shelf_holds := E_law3_Shelf_holds_of F_law3_Shelf_holds
theorem E_law3_Shelf_holds.right : IsRight Try.prog 60 E_law3_Shelf_holds := by
  refine isRight fun vs K w hh => ?_
  match vs, hh with
  | [v0, v1], hh =>
    unfold E_law3_Shelf_holds E_law3_Shelf_holds_of at hh
    replace hh := dec1_sound hh; obtain ⟨x1, rfl, hh⟩ := hh
    replace hh := dec1_sound hh; obtain ⟨n2, rfl, hh⟩ := hh
    unfold F_law3_Shelf_holds at hh
    exact calls_den noFns_right plan60 _ w K Try.func60 (by kernel_rfl) (by kernel_rfl) (Eq.mp (F_law3_Shelf_holds.eq  x1 n2 w.heap K) hh)
theorem ok60 : okFn Try.prog 60 = true := by kernel_rfl
end Go.Proofs.Ytcbelendjpnmiaa.V
namespace Go.Proofs.Ytcbelendjpnmiaa.V
open Go Go.RowKit
set_option linter.unusedVariables false
set_option maxRecDepth 100000
def F_law3_Shelf_Bytes_of (f22_ : Sl → Heap → (Sl → Heap → Prop) → Prop) (f60_ : Option Addr → Int → Heap → (Bool → Heap → Prop) → Prop) (x1 : Option Addr) (l2 : Sl) (h : Heap) (Q : Heap → Prop) : Prop :=
  f60_ x1 ((l2.len : Nat) : Int) h fun (r3 : Bool) (h4 : Heap) =>
  jn [] (fun  (h24 : Heap) =>
  Q h24) (fun (j5 : Heap → Prop) =>
  brr r3
  (nn x1 fun (a6 : Addr) =>
  ld [.sl] (a6.add 3) h4 fun (v7 : Sl) =>
  al 29 [.slice l2.ptr l2.len l2.cap] h4 fun (a8 : Addr) (h9 : Heap) =>
  app 29 1 24 (.slice none 0 0) v7 (some a8) 1 h9 fun (s10 : Sl) (h11 : Heap) =>
  nn x1 fun (a12 : Addr) =>
  st (a12.add 3) [.slice s10.ptr s10.len s10.cap] h11 fun (h13 : Heap) =>
  nn x1 fun (a14 : Addr) =>
  ld [.sl] (a14.add 4) h13 fun (v15 : Sl) =>
  f22_ l2 h13 fun (r16 : Sl) (h17 : Heap) =>
  cellsAre h17 (a14.add 4) [.slice v15.ptr v15.len v15.cap] ∧
  al 29 [.slice r16.ptr r16.len r16.cap] h17 fun (a18 : Addr) (h19 : Heap) =>
  cellsAre h19 (a14.add 4) [.slice v15.ptr v15.len v15.cap] ∧
  app 29 1 24 (.slice none 0 0) v15 (some a18) 1 h19 fun (s20 : Sl) (h21 : Heap) =>
  nn x1 fun (a22 : Addr) =>
  st (a22.add 4) [.slice s20.ptr s20.len s20.cap] h21 fun (h23 : Heap) =>
  j5 h23)
  (j5 h4))
def F_law3_Shelf_Bytes (x1 : Option Addr) (l2 : Sl) (h : Heap) (Q : Heap → Prop) : Prop := F_law3_Shelf_Bytes_of F_ref0_Copy F_law3_Shelf_holds x1 l2 h Q
def plan39 : Plan := .s (.r [0, 1, 7]) (.cj [] [] (.s (.r [0, 1]) (.d [0, 0, 2, 6, 14, 0, 32, 96, 254, 511, 1023, 2047] [[0, 1, 2, 3, 4, 5, 6, 7, 8, 9, 10, 11]] [])) .z)
theorem F_law3_Shelf_Bytes.eq (f22_ : Sl → Heap → (Sl → Heap → Prop) → Prop) (f60_ : Option Addr → Int → Heap → (Bool → Heap → Prop) → Prop) (x1 : Option Addr) (l2 : Sl) (h : Heap) (K : Value → Heap → Prop) : F_law3_Shelf_Bytes_of f22_ f60_ x1 l2 h (fun  (h : Heap) => K (.tuple #[]) h) =
    den Try.prog (fn1 22 (E_ref0_Copy_of f22_) (fn1 60 (E_law3_Shelf_holds_of f60_) noFns)) Try.f39.ntmps plan39 (bodyOf Try.f39) (args0 0 [(.pointer x1 : Value), (.slice l2.ptr l2.len l2.cap : Value)]) h ⟨fun env h => dRes Try.prog Try.f39.results.toList env h K, fun _ _ _ => False, fun env h => dRes Try.prog Try.f39.results.toList env h K⟩ := by kernel_rfl
def E_law3_Shelf_Bytes_of (f : Option Addr → Sl → Heap → (Heap → Prop) → Prop) : List Value → Heap → (Value → Heap → Prop) → Prop
  | [v0, v1], h, K => dec1 .ptr v0 fun (x1 : Option Addr) =>
  dec1 .sl v1 fun (l2 : Sl) =>
  f x1 l2 h (fun  (h : Heap) => K (.tuple #[]) h)
  | _, _, _ => False
abbrev E_law3_Shelf_Bytes := E_law3_Shelf_Bytes_of F_law3_Shelf_Bytes
theorem E_law3_Shelf_Bytes.right : IsRight Try.prog 39 E_law3_Shelf_Bytes := by
  refine isRight fun vs K w hh => ?_
  match vs, hh with
  | [v0, v1], hh =>
    unfold E_law3_Shelf_Bytes E_law3_Shelf_Bytes_of at hh
    replace hh := dec1_sound hh; obtain ⟨x1, rfl, hh⟩ := hh
    replace hh := dec1_sound hh; obtain ⟨l2, rfl, hh⟩ := hh
    unfold F_law3_Shelf_Bytes at hh
    exact calls_den (fn1_right ok22 E_ref0_Copy.right (fn1_right ok60 E_law3_Shelf_holds.right noFns_right)) plan39 _ w K Try.func39 (by kernel_rfl) (by kernel_rfl) (Eq.mp (F_law3_Shelf_Bytes.eq F_ref0_Copy F_law3_Shelf_holds x1 l2 w.heap K) hh)
theorem ok39 : okFn Try.prog 39 = true := by kernel_rfl
end Go.Proofs.Ytcbelendjpnmiaa.V
namespace Go.Proofs.Ytcbelendjpnmiaa.V
open Go Go.RowKit
set_option linter.unusedVariables false
set_option maxRecDepth 100000
def F_ref0_EqInts.l1 (a1 b2 : Sl) (Q : Bool → Heap → Prop) (j3 : Heap → Prop) : Int → Heap → Prop :=
  wl [(5, .one (.int .i64))] (fun (next4 : Int → Heap → Prop) (i5 : Int) (h6 : Heap) =>
  brr (decide (i5 < ((a1.len : Nat) : Int)))
  (ixS 1 a1 i5 fun (a7 : Addr) =>
  ld [.int .i64] a7 h6 fun (v8 : Int) =>
  ixS 1 b2 i5 fun (a9 : Addr) =>
  ld [.int .i64] a9 h6 fun (v10 : Int) =>
  brr (v8 != v10)
  (Q false h6)
  (next4 (IntKind.i64.wrap (i5 + 1)) h6))
  (j3 h6))
def F_ref0_EqInts_of  (a1 b2 : Sl) (h : Heap) (Q : Bool → Heap → Prop) : Prop :=
  brr (((a1.len : Nat) : Int) != ((b2.len : Nat) : Int))
  (Q false h)
  (jn [] (fun  (h11 : Heap) =>
  Q true h11) (fun (j3 : Heap → Prop) =>
  F_ref0_EqInts.l1 a1 b2 Q j3 0 h))
def F_ref0_EqInts (a1 b2 : Sl) (h : Heap) (Q : Bool → Heap → Prop) : Prop := F_ref0_EqInts_of  a1 b2 h Q
def plan90 : Plan := .s (.r [0, 1]) (.s (.s (.r [0, 1, 10]) (.c (.s (.r [4]) .z) .z)) (.s (.s (.r [0, 1, 5]) (.bj [] [] (.l [(5, .one (.int .i64))] [0, 1] (.s (.s (.r [0, 1, 5, 14]) (.c .z .z)) (.s (.b (.s (.d [0, 0, 3, 7, 0, 0, 48, 112, 255] [[0, 1, 2, 3, 4, 5, 6, 7, 8]] [0, 1, 5, 25]) (.c (.s (.r [4]) .z) .z))) (.r [0, 1, 5])))))) (.s (.r [4]) .z)))
theorem F_ref0_EqInts.eq  (a1 b2 : Sl) (h : Heap) (K : Value → Heap → Prop) : F_ref0_EqInts_of  a1 b2 h (fun (r0 : Bool) (h : Heap) => K (.bool r0) h) =
    den Try.prog noFns Try.f90.ntmps plan90 (bodyOf Try.f90) (args0 0 [(.slice a1.ptr a1.len a1.cap : Value), (.slice b2.ptr b2.len b2.cap : Value)]) h ⟨fun env h => dRes Try.prog Try.f90.results.toList env h K, fun _ _ _ => False, fun env h => dRes Try.prog Try.f90.results.toList env h K⟩ := by kernel_rfl
def E_ref0_EqInts_of (f : Sl → Sl → Heap → (Bool → Heap → Prop) → Prop) : List Value → Heap → (Value → Heap → Prop) → Prop
  | [v0, v1], h, K => dec1 .sl v0 fun (a1 : Sl) =>
  dec1 .sl v1 fun (b2 : Sl) =>
  f a1 b2 h (fun (r0 : Bool) (h : Heap) => K (.bool r0) h)
  | _, _, _ => False
abbrev E_ref0_EqInts := E_ref0_EqInts_of F_ref0_EqInts
theorem E_ref0_EqInts.right : IsRight Try.prog 90 E_ref0_EqInts := by
  refine isRight fun vs K w hh => ?_
  match vs, hh with
  | [v0, v1], hh =>
    unfold E_ref0_EqInts E_ref0_EqInts_of at hh
    replace hh := dec1_sound hh; obtain ⟨a1, rfl, hh⟩ := hh
    replace hh := dec1_sound hh; obtain ⟨b2, rfl, hh⟩ := hh
    unfold F_ref0_EqInts at hh
    exact calls_den noFns_right plan90 _ w K Try.func90 (by kernel_rfl) (by kernel_rfl) (Eq.mp (F_ref0_EqInts.eq  a1 b2 w.heap K) hh)
theorem ok90 : okFn Try.prog 90 = true := by kernel_rfl
end Go.Proofs.Ytcbelendjpnmiaa.V
namespace Go.Proofs.Ytcbelendjpnmiaa.V
open Go Go.RowKit
set_option linter.unusedVariables false
set_option maxRecDepth 100000
def F_ref0_EqMsgs.l1 (f29_ : Int → Int → Int → Int → Int → Int → Int → Int → Int → Int → Sl → Int → Int → ByteArray → ByteArray → Int → Int → Int → Int → Int → Int → Int → Int → Int → Int → Int → Int → Int → Int → Int → Int → Int → Sl → Int → Int → ByteArray → ByteArray → Int → Int → Int → Int → Int → Int → Int → Heap → (Bool → Heap → Prop) → Prop) (a1 b2 : Sl) (Q : Bool → Heap → Prop) (j3 : Heap → Prop) : Int → Heap → Prop :=
  wl [(5, .one (.int .i64))] (fun (next4 : Int → Heap → Prop) (i5 : Int) (h6 : Heap) =>
  brr (decide (i5 < ((a1.len : Nat) : Int)))
  (ixS 22 a1 i5 fun (a7 : Addr) =>
  ld [.int .i64, .int .i64, .int .i64, .int .i64, .int .u64, .int .u64, .int .u64, .int .u64, .int .i64, .int .u64, .sl, .int .i64, .int .u64, .str, .str, .int .u64, .int .u64, .int .u64, .int .i64, .int .i64, .int .i64, .int .i64] a7 h6 fun (v8 v9 v10 v11 v12 v13 v14 v15 v16 v17 : Int) (v18 : Sl) (v19 v20 : Int) (v21 v22 : ByteArray) (v23 v24 v25 v26 v27 v28 v29 : Int) =>
  ixS 22 b2 i5 fun (a30 : Addr) =>
  ld [.int .i64, .int .i64, .int .i64, .int .i64, .int .u64, .int .u64, .int .u64, .int .u64, .int .i64, .int .u64, .sl, .int .i64, .int .u64, .str, .str, .int .u64, .int .u64, .int .u64, .int .i64, .int .i64, .int .i64, .int .i64] a30 h6 fun (v31 v32 v33 v34 v35 v36 v37 v38 v39 v40 : Int) (v41 : Sl) (v42 v43 : Int) (v44 v45 : ByteArray) (v46 v47 v48 v49 v50 v51 v52 : Int) =>
  f29_ v8 v9 v10 v11 v12 v13 v14 v15 v16 v17 v18 v19 v20 v21 v22 v23 v24 v25 v26 v27 v28 v29 v31 v32 v33 v34 v35 v36 v37 v38 v39 v40 v41 v42 v43 v44 v45 v46 v47 v48 v49 v50 v51 v52 h6 fun (r53 : Bool) (h54 : Heap) =>
  brr (!r53)
  (Q false h54)
  (next4 (IntKind.i64.wrap (i5 + 1)) h54))
  (j3 h6))
def F_ref0_EqMsgs_of (f29_ : Int → Int → Int → Int → Int → Int → Int → Int → Int → Int → Sl → Int → Int → ByteArray → ByteArray → Int → Int → Int → Int → Int → Int → Int → Int → Int → Int → Int → Int → Int → Int → Int → Int → Int → Sl → Int → Int → ByteArray → ByteArray → Int → Int → Int → Int → Int → Int → Int → Heap → (Bool → Heap → Prop) → Prop) (a1 b2 : Sl) (h : Heap) (Q : Bool → Heap → Prop) : Prop :=
  brr (((a1.len : Nat) : Int) != ((b2.len : Nat) : Int))
  (Q false h)
  (jn [] (fun  (h55 : Heap) =>
  Q true h55) (fun (j3 : Heap → Prop) =>
  F_ref0_EqMsgs.l1 f29_ a1 b2 Q j3 0 h))
def F_ref0_EqMsgs (a1 b2 : Sl) (h : Heap) (Q : Bool → Heap → Prop) : Prop := F_ref0_EqMsgs_of F_ref0_EqMsg a1 b2 h Q
def plan91 : Plan := .s (.r [0, 1]) (.s (.s (.r [0, 1, 10]) (.c (.s (.r [4]) .z) .z)) (.s (.s (.r [0, 1, 5]) (.bj [] [] (.l [(5, .one (.int .i64))] [0, 1] (.s (.s (.r [0, 1, 5, 14]) (.c .z .z)) (.s (.b (.s (.d [0, 0, 3, 7, 0, 0, 48, 112, 255, 511] [[0, 1, 2, 3, 4, 5, 6, 7, 8, 9]] [0, 1, 5, 26]) (.c (.s (.r [4]) .z) .z))) (.r [0, 1, 5])))))) (.s (.r [4]) .z)))
theorem F_ref0_EqMsgs.eq (f29_ : Int → Int → Int → Int → Int → Int → Int → Int → Int → Int → Sl → Int → Int → ByteArray → ByteArray → Int → Int → Int → Int → Int → Int → Int → Int → Int → Int → Int → Int → Int → Int → Int → Int → Int → Sl → Int → Int → ByteArray → ByteArray → Int → Int → Int → Int → Int → Int → Int → Heap → (Bool → Heap → Prop) → Prop) (a1 b2 : Sl) (h : Heap) (K : Value → Heap → Prop) : F_ref0_EqMsgs_of f29_ a1 b2 h (fun (r0 : Bool) (h : Heap) => K (.bool r0) h) =
    den Try.prog (fn1 29 (E_ref0_EqMsg_of f29_) noFns) Try.f91.ntmps plan91 (bodyOf Try.f91) (args0 0 [(.slice a1.ptr a1.len a1.cap : Value), (.slice b2.ptr b2.len b2.cap : Value)]) h ⟨fun env h => dRes Try.prog Try.f91.results.toList env h K, fun _ _ _ => False, fun env h => dRes Try.prog Try.f91.results.toList env h K⟩ := by kernel_rfl
def E_ref0_EqMsgs_of (f : Sl → Sl → Heap → (Bool → Heap → Prop) → Prop) : List Value → Heap → (Value → Heap → Prop) → Prop
  | [v0, v1], h, K => dec1 .sl v0 fun (a1 : Sl) =>
  dec1 .sl v1 fun (b2 : Sl) =>
  f a1 b2 h (fun (r0 : Bool) (h : Heap) => K (.bool r0) h)
  | _, _, _ => False
abbrev E_ref0_EqMsgs := E_ref0_EqMsgs_of F_ref0_EqMsgs
theorem E_ref0_EqMsgs.right : IsRight Try.prog 91 E_ref0_EqMsgs := by
  refine isRight fun vs K w hh => ?_
  match vs, hh with
  | [v0, v1], hh =>
    unfold E_ref0_EqMsgs E_ref0_EqMsgs_of at hh
    replace hh := dec1_sound hh; obtain ⟨a1, rfl, hh⟩ := hh
    replace hh := dec1_sound hh; obtain ⟨b2, rfl, hh⟩ := hh
    unfold F_ref0_EqMsgs at hh
    exact calls_den (fn1_right ok29 E_ref0_EqMsg.right noFns_right) plan91 _ w K Try.func91 (by kernel_rfl) (by kernel_rfl) (Eq.mp (F_ref0_EqMsgs.eq F_ref0_EqMsg a1 b2 w.heap K) hh)
theorem ok91 : okFn Try.prog 91 = true := by kernel_rfl
end Go.Proofs.Ytcbelendjpnmiaa.V
namespace Go.Proofs.Ytcbelendjpnmiaa.V
open Go Go.RowKit
set_option linter.unusedVariables false
set_option maxRecDepth 100000
def F_ref0_EqDones.l1 (a1 b2 : Sl) (Q : Bool → Heap → Prop) (j3 : Heap → Prop) : Int → Heap → Prop :=
  wl [(5, .one (.int .i64))] (fun (next4 : Int → Heap → Prop) (i5 : Int) (h6 : Heap) =>
  brr (decide (i5 < ((a1.len : Nat) : Int)))
  (ixS 5 a1 i5 fun (a7 : Addr) =>
  ld [.int .i64, .int .u64, .int .i64, .int .i64, .int .u64] a7 h6 fun (v8 v9 v10 v11 v12 : Int) =>
  ixS 5 b2 i5 fun (a13 : Addr) =>
  ld [.int .i64, .int .u64, .int .i64, .int .i64, .int .u64] a13 h6 fun (v14 v15 v16 v17 v18 : Int) =>
  brr (!((v8 == v14) && ((v9 == v15) && ((v10 == v16) && ((v11 == v17) && ((v12 == v18) && (true)))))))
  (Q false h6)
  (next4 (IntKind.i64.wrap (i5 + 1)) h6))
  (j3 h6))
def F_ref0_EqDones_of  (a1 b2 : Sl) (h : Heap) (Q : Bool → Heap → Prop) : Prop :=
  brr (((a1.len : Nat) : Int) != ((b2.len : Nat) : Int))
  (Q false h)
  (jn [] (fun  (h19 : Heap) =>
  Q true h19) (fun (j3 : Heap → Prop) =>
  F_ref0_EqDones.l1 a1 b2 Q j3 0 h))
def F_ref0_EqDones (a1 b2 : Sl) (h : Heap) (Q : Bool → Heap → Prop) : Prop := F_ref0_EqDones_of  a1 b2 h Q
def plan92 : Plan := .s (.r [0, 1]) (.s (.s (.r [0, 1, 10]) (.c (.s (.r [4]) .z) .z)) (.s (.s (.r [0, 1, 5]) (.bj [] [] (.l [(5, .one (.int .i64))] [0, 1] (.s (.s (.r [0, 1, 5, 14]) (.c .z .z)) (.s (.b (.s (.d [0, 0, 3, 7, 0, 0, 48, 112, 255] [[0, 1, 2, 3, 4, 5, 6, 7, 8]] [0, 1, 5, 25]) (.c (.s (.r [4]) .z) .z))) (.r [0, 1, 5])))))) (.s (.r [4]) .z)))
theorem F_ref0_EqDones.eq  (a1 b2 : Sl) (h : Heap) (K : Value → Heap → Prop) : F_ref0_EqDones_of  a1 b2 h (fun (r0 : Bool) (h : Heap) => K (.bool r0) h) =
    den Try.prog noFns Try.f92.ntmps plan92 (bodyOf Try.f92) (args0 0 [(.slice a1.ptr a1.len a1.cap : Value), (.slice b2.ptr b2.len b2.cap : Value)]) h ⟨fun env h => dRes Try.prog Try.f92.results.toList env h K, fun _ _ _ => False, fun env h => dRes Try.prog Try.f92.results.toList env h K⟩ := by kernel_rfl
def E_ref0_EqDones_of (f : Sl → Sl → Heap → (Bool → Heap → Prop) → Prop) : List Value → Heap → (Value → Heap → Prop) → Prop
  | [v0, v1], h, K => dec1 .sl v0 fun (a1 : Sl) =>
  dec1 .sl v1 fun (b2 : Sl) =>
  f a1 b2 h (fun (r0 : Bool) (h : Heap) => K (.bool r0) h)
  | _, _, _ => False
abbrev E_ref0_EqDones := E_ref0_EqDones_of F_ref0_EqDones
theorem E_ref0_EqDones.right : IsRight Try.prog 92 E_ref0_EqDones := by
  refine isRight fun vs K w hh => ?_
  match vs, hh with
  | [v0, v1], hh =>
    unfold E_ref0_EqDones E_ref0_EqDones_of at hh
    replace hh := dec1_sound hh; obtain ⟨a1, rfl, hh⟩ := hh
    replace hh := dec1_sound hh; obtain ⟨b2, rfl, hh⟩ := hh
    unfold F_ref0_EqDones at hh
    exact calls_den noFns_right plan92 _ w K Try.func92 (by kernel_rfl) (by kernel_rfl) (Eq.mp (F_ref0_EqDones.eq  a1 b2 w.heap K) hh)
theorem ok92 : okFn Try.prog 92 = true := by kernel_rfl
end Go.Proofs.Ytcbelendjpnmiaa.V
namespace Go.Proofs.Ytcbelendjpnmiaa.V
open Go Go.RowKit
set_option linter.unusedVariables false
set_option maxRecDepth 100000
def F_ref0_EqBook.l1 (Q : Bool → Heap → Prop) (a13 a15 : Addr) (j32 : Heap → Prop) : Int → Heap → Prop :=
  wl [(5, .one (.int .i64))] (fun (next33 : Int → Heap → Prop) (i34 : Int) (h35 : Heap) =>
  ld [.sl] (a13.add 1) h35 fun (v36 : Sl) =>
  brr (decide (i34 < ((v36.len : Nat) : Int)))
  (ld [.sl] (a13.add 1) h35 fun (v37 : Sl) =>
  ixS 2 v37 i34 fun (a38 : Addr) =>
  ld [.str, .int .u64] a38 h35 fun (v39 : ByteArray) (v40 : Int) =>
  ld [.sl] (a15.add 1) h35 fun (v41 : Sl) =>
  ixS 2 v41 i34 fun (a42 : Addr) =>
  ld [.str, .int .u64] a42 h35 fun (v43 : ByteArray) (v44 : Int) =>
  brr (!((v39.toList == v43.toList) && ((v40 == v44) && (true))))
  (Q false h35)
  (next33 (IntKind.i64.wrap (i34 + 1)) h35))
  (j32 h35))
def F_ref0_EqBook.l2 (Q : Bool → Heap → Prop) (a13 a15 : Addr) (j46 : Heap → Prop) : Int → Heap → Prop :=
  wl [(6, .one (.int .i64))] (fun (next47 : Int → Heap → Prop) (i48 : Int) (h49 : Heap) =>
  ld [.sl] (a13.add 2) h49 fun (v50 : Sl) =>
  brr (decide (i48 < ((v50.len : Nat) : Int)))
  (ld [.sl] (a13.add 2) h49 fun (v51 : Sl) =>
  ixS 4 v51 i48 fun (a52 : Addr) =>
  ld [.int .i64, .int .u64, .str, .int .u64] a52 h49 fun (v53 v54 : Int) (v55 : ByteArray) (v56 : Int) =>
  ld [.sl] (a15.add 2) h49 fun (v57 : Sl) =>
  ixS 4 v57 i48 fun (a58 : Addr) =>
  ld [.int .i64, .int .u64, .str, .int .u64] a58 h49 fun (v59 v60 : Int) (v61 : ByteArray) (v62 : Int) =>
  brr (!((v53 == v59) && ((v54 == v60) && ((v55.toList == v61.toList) && ((v56 == v62) && (true))))))
  (Q false h49)
  (next47 (IntKind.i64.wrap (i48 + 1)) h49))
  (j46 h49))
def F_ref0_EqBook.l3 (Q : Bool → Heap → Prop) (a13 a15 : Addr) (j64 : Heap → Prop) : Int → Heap → Prop :=
  wl [(7, .one (.int .i64))] (fun (next65 : Int → Heap → Prop) (i66 : Int) (h67 : Heap) =>
  ld [.sl] (a13.add 3) h67 fun (v68 : Sl) =>
  brr (decide (i66 < ((v68.len : Nat) : Int)))
  (ld [.sl] (a13.add 3) h67 fun (v69 : Sl) =>
  ixS 1 v69 i66 fun (a70 : Addr) =>
  ld [.int .u64] a70 h67 fun (v71 : Int) =>
  ld [.sl] (a15.add 3) h67 fun (v72 : Sl) =>
  ixS 1 v72 i66 fun (a73 : Addr) =>
  ld [.int .u64] a73 h67 fun (v74 : Int) =>
  brr (v71 != v74)
  (Q false h67)
  (next65 (IntKind.i64.wrap (i66 + 1)) h67))
  (j64 h67))
def F_ref0_EqBook.l4 (Q : Bool → Heap → Prop) (a13 a15 : Addr) (j76 : Heap → Prop) : Int → Heap → Prop :=
  wl [(8, .one (.int .i64))] (fun (next77 : Int → Heap → Prop) (i78 : Int) (h79 : Heap) =>
  ld [.sl] (a13.add 4) h79 fun (v80 : Sl) =>
  brr (decide (i78 < ((v80.len : Nat) : Int)))
  (ld [.sl] (a13.add 4) h79 fun (v81 : Sl) =>
  ixS 1 v81 i78 fun (a82 : Addr) =>
  ld [.int .u64] a82 h79 fun (v83 : Int) =>
  ld [.sl] (a15.add 4) h79 fun (v84 : Sl) =>
  ixS 1 v84 i78 fun (a85 : Addr) =>
  ld [.int .u64] a85 h79 fun (v86 : Int) =>
  brr (v83 != v86)
  (Q false h79)
  (next77 (IntKind.i64.wrap (i78 + 1)) h79))
  (j76 h79))
def F_ref0_EqBook.l5 (Q : Bool → Heap → Prop) (a13 a15 : Addr) (j88 : Heap → Prop) : Int → Heap → Prop :=
  wl [(9, .one (.int .i64))] (fun (next89 : Int → Heap → Prop) (i90 : Int) (h91 : Heap) =>
  ld [.sl] (a13.add 5) h91 fun (v92 : Sl) =>
  brr (decide (i90 < ((v92.len : Nat) : Int)))
  (ld [.sl] (a13.add 5) h91 fun (v93 : Sl) =>
  ixS 4 v93 i90 fun (a94 : Addr) =>
  ld [.int .u64, .int .i64, .int .i64, .int .u64] a94 h91 fun (v95 v96 v97 v98 : Int) =>
  ld [.sl] (a15.add 5) h91 fun (v99 : Sl) =>
  ixS 4 v99 i90 fun (a100 : Addr) =>
  ld [.int .u64, .int .i64, .int .i64, .int .u64] a100 h91 fun (v101 v102 v103 v104 : Int) =>
  brr (!((v95 == v101) && ((v96 == v102) && ((v97 == v103) && ((v98 == v104) && (true))))))
  (Q false h91)
  (next89 (IntKind.i64.wrap (i90 + 1)) h91))
  (j88 h91))
def F_ref0_EqBook_of  (a1 : Int) (a2 a3 a4 a5 a6 : Sl) (b7 : Int) (b8 b9 b10 b11 b12 : Sl) (h : Heap) (Q : Bool → Heap → Prop) : Prop :=
  al 134 [.int .i64 a1, .slice a2.ptr a2.len a2.cap, .slice a3.ptr a3.len a3.cap, .slice a4.ptr a4.len a4.cap, .slice a5.ptr a5.len a5.cap, .slice a6.ptr a6.len a6.cap] h fun (a13 : Addr) (h14 : Heap) =>
  al 134 [.int .i64 b7, .slice b8.ptr b8.len b8.cap, .slice b9.ptr b9.len b9.cap, .slice b10.ptr b10.len b10.cap, .slice b11.ptr b11.len b11.cap, .slice b12.ptr b12.len b12.cap] h14 fun (a15 : Addr) (h16 : Heap) =>
  jn [(59, .one .bool)] (fun (x30 : Bool) (h31 : Heap) =>
  brr x30
  (Q false h31)
  (jn [] (fun  (h45 : Heap) =>
  jn [] (fun  (h63 : Heap) =>
  jn [] (fun  (h75 : Heap) =>
  jn [] (fun  (h87 : Heap) =>
  jn [] (fun  (h105 : Heap) =>
  Q true h105) (fun (j88 : Heap → Prop) =>
  F_ref0_EqBook.l5 Q a13 a15 j88 0 h87)) (fun (j76 : Heap → Prop) =>
  F_ref0_EqBook.l4 Q a13 a15 j76 0 h75)) (fun (j64 : Heap → Prop) =>
  F_ref0_EqBook.l3 Q a13 a15 j64 0 h63)) (fun (j46 : Heap → Prop) =>
  F_ref0_EqBook.l2 Q a13 a15 j46 0 h45)) (fun (j32 : Heap → Prop) =>
  F_ref0_EqBook.l1 Q a13 a15 j32 0 h31))) (fun (j17 : Bool → Heap → Prop) =>
  ld [.int .i64] (a13.add 0) h16 fun (v18 : Int) =>
  ld [.int .i64] (a15.add 0) h16 fun (v19 : Int) =>
  brr (v18 != v19)
  (j17 true h16)
  (ld [.sl] (a13.add 1) h16 fun (v20 : Sl) =>
  ld [.sl] (a15.add 1) h16 fun (v21 : Sl) =>
  brr (((v20.len : Nat) : Int) != ((v21.len : Nat) : Int))
  (j17 true h16)
  (ld [.sl] (a13.add 2) h16 fun (v22 : Sl) =>
  ld [.sl] (a15.add 2) h16 fun (v23 : Sl) =>
  brr (((v22.len : Nat) : Int) != ((v23.len : Nat) : Int))
  (j17 true h16)
  (ld [.sl] (a13.add 3) h16 fun (v24 : Sl) =>
  ld [.sl] (a15.add 3) h16 fun (v25 : Sl) =>
  brr (((v24.len : Nat) : Int) != ((v25.len : Nat) : Int))
  (j17 true h16)
  (ld [.sl] (a13.add 4) h16 fun (v26 : Sl) =>
  ld [.sl] (a15.add 4) h16 fun (v27 : Sl) =>
  brr (((v26.len : Nat) : Int) != ((v27.len : Nat) : Int))
  (j17 true h16)
  (ld [.sl] (a13.add 5) h16 fun (v28 : Sl) =>
  ld [.sl] (a15.add 5) h16 fun (v29 : Sl) =>
  j17 (((v28.len : Nat) : Int) != ((v29.len : Nat) : Int)) h16))))))
def F_ref0_EqBook (a1 : Int) (a2 a3 a4 a5 a6 : Sl) (b7 : Int) (b8 b9 b10 b11 b12 : Sl) (h : Heap) (Q : Bool → Heap → Prop) : Prop := F_ref0_EqBook_of  a1 a2 a3 a4 a5 a6 b7 b8 b9 b10 b11 b12 h Q
def plan93 : Plan := .s (.r [2, 3]) (.s (.s (.rj [(59, .one .bool)] [2, 3]) (.c (.s (.r [4]) .z) .z)) (.s (.s (.r [2, 3, 5]) (.bj [] [2, 3] (.l [(5, .one (.int .i64))] [2, 3] (.s (.s (.r [2, 3, 5, 64]) (.c .z .z)) (.s (.b (.s (.d [0, 1, 0, 7, 15, 0, 32, 0, 224, 480, 1023] [[0, 1, 2, 3, 4, 5, 6, 7, 8, 9, 10]] [2, 3, 5, 77]) (.c (.s (.r [4]) .z) .z))) (.r [2, 3, 5])))))) (.s (.s (.r [2, 3, 6]) (.bj [] [2, 3] (.l [(6, .one (.int .i64))] [2, 3] (.s (.s (.r [2, 3, 6, 82]) (.c .z .z)) (.s (.b (.s (.d [0, 1, 0, 7, 15, 0, 32, 0, 224, 480, 1023] [[0, 1, 2, 3, 4, 5, 6, 7, 8, 9, 10]] [2, 3, 6, 95]) (.c (.s (.r [4]) .z) .z))) (.r [2, 3, 6])))))) (.s (.s (.r [2, 3, 7]) (.bj [] [2, 3] (.l [(7, .one (.int .i64))] [2, 3] (.s (.s (.r [2, 3, 7, 100]) (.c .z .z)) (.s (.b (.s (.d [0, 1, 0, 7, 15, 0, 32, 0, 224, 480, 1023] [[0, 1, 2, 3, 4, 5, 6, 7, 8, 9, 10]] [2, 3, 7, 113]) (.c (.s (.r [4]) .z) .z))) (.r [2, 3, 7])))))) (.s (.s (.r [2, 3, 8]) (.bj [] [2, 3] (.l [(8, .one (.int .i64))] [2, 3] (.s (.s (.r [2, 3, 8, 118]) (.c .z .z)) (.s (.b (.s (.d [0, 1, 0, 7, 15, 0, 32, 0, 224, 480, 1023] [[0, 1, 2, 3, 4, 5, 6, 7, 8, 9, 10]] [2, 3, 8, 131]) (.c (.s (.r [4]) .z) .z))) (.r [2, 3, 8])))))) (.s (.s (.r [2, 3, 9]) (.bj [] [] (.l [(9, .one (.int .i64))] [2, 3] (.s (.s (.r [2, 3, 9, 136]) (.c .z .z)) (.s (.b (.s (.d [0, 1, 0, 7, 15, 0, 32, 0, 224, 480, 1023] [[0, 1, 2, 3, 4, 5, 6, 7, 8, 9, 10]] [2, 3, 9, 149]) (.c (.s (.r [4]) .z) .z))) (.r [2, 3, 9])))))) (.s (.r [4]) .z)))))))
theorem F_ref0_EqBook.eq  (a1 : Int) (a2 a3 a4 a5 a6 : Sl) (b7 : Int) (b8 b9 b10 b11 b12 : Sl) (h : Heap) (K : Value → Heap → Prop) : F_ref0_EqBook_of  a1 a2 a3 a4 a5 a6 b7 b8 b9 b10 b11 b12 h (fun (r0 : Bool) (h : Heap) => K (.bool r0) h) =
    den Try.prog noFns Try.f93.ntmps plan93 (bodyOf Try.f93) (args0 0 [(.agg #[.int .i64 a1, .slice a2.ptr a2.len a2.cap, .slice a3.ptr a3.len a3.cap, .slice a4.ptr a4.len a4.cap, .slice a5.ptr a5.len a5.cap, .slice a6.ptr a6.len a6.cap] : Value), (.agg #[.int .i64 b7, .slice b8.ptr b8.len b8.cap, .slice b9.ptr b9.len b9.cap, .slice b10.ptr b10.len b10.cap, .slice b11.ptr b11.len b11.cap, .slice b12.ptr b12.len b12.cap] : Value)]) h ⟨fun env h => dRes Try.prog Try.f93.results.toList env h K, fun _ _ _ => False, fun env h => dRes Try.prog Try.f93.results.toList env h K⟩ := by kernel_rfl
def E_ref0_EqBook_of (f : Int → Sl → Sl → Sl → Sl → Sl → Int → Sl → Sl → Sl → Sl → Sl → Heap → (Bool → Heap → Prop) → Prop) : List Value → Heap → (Value → Heap → Prop) → Prop
  | [v0, v1], h, K => vAgg v0 fun cs0 => decs [.int .i64, .sl, .sl, .sl, .sl, .sl] cs0.toList fun (a1 : Int) (a2 a3 a4 a5 a6 : Sl) =>
  vAgg v1 fun cs1 => decs [.int .i64, .sl, .sl, .sl, .sl, .sl] cs1.toList fun (b7 : Int) (b8 b9 b10 b11 b12 : Sl) =>
  f a1 a2 a3 a4 a5 a6 b7 b8 b9 b10 b11 b12 h (fun (r0 : Bool) (h : Heap) => K (.bool r0) h)
  | _, _, _ => False
abbrev E_ref0_EqBook := E_ref0_EqBook_of F_ref0_EqBook
theorem E_ref0_EqBook.right : IsRight Try.prog 93 E_ref0_EqBook := by
  refine isRight fun vs K w hh => ?_
  match vs, hh with
  | [v0, v1], hh =>
    unfold E_ref0_EqBook E_ref0_EqBook_of at hh
    replace hh := vAgg_sound hh; obtain ⟨cs0, rfl, hh⟩ := hh
    replace hh := decs_cons hh; obtain ⟨a1, l0_0, e0_0, hh⟩ := hh
    replace hh := decs_cons hh; obtain ⟨a2, l0_1, e0_1, hh⟩ := hh
    replace hh := decs_cons hh; obtain ⟨a3, l0_2, e0_2, hh⟩ := hh
    replace hh := decs_cons hh; obtain ⟨a4, l0_3, e0_3, hh⟩ := hh
    replace hh := decs_cons hh; obtain ⟨a5, l0_4, e0_4, hh⟩ := hh
    replace hh := decs_cons hh; obtain ⟨a6, l0_5, e0_5, hh⟩ := hh
    replace hh := decs_nil hh; obtain ⟨rfl, hh⟩ := hh
    subst e0_5
    subst e0_4
    subst e0_3
    subst e0_2
    subst e0_1
    have ec0 := toArray_eq e0_0
    subst ec0
    replace hh := vAgg_sound hh; obtain ⟨cs1, rfl, hh⟩ := hh
    replace hh := decs_cons hh; obtain ⟨b7, l1_0, e1_0, hh⟩ := hh
    replace hh := decs_cons hh; obtain ⟨b8, l1_1, e1_1, hh⟩ := hh
    replace hh := decs_cons hh; obtain ⟨b9, l1_2, e1_2, hh⟩ := hh
    replace hh := decs_cons hh; obtain ⟨b10, l1_3, e1_3, hh⟩ := hh
    replace hh := decs_cons hh; obtain ⟨b11, l1_4, e1_4, hh⟩ := hh
    replace hh := decs_cons hh; obtain ⟨b12, l1_5, e1_5, hh⟩ := hh
    replace hh := decs_nil hh; obtain ⟨rfl, hh⟩ := hh
    subst e1_5
    subst e1_4
    subst e1_3
    subst e1_2
    subst e1_1
    have ec1 := toArray_eq e1_0
    subst ec1
    unfold F_ref0_EqBook at hh
    exact calls_den noFns_right plan93 _ w K Try.func93 (by kernel_rfl) (by kernel_rfl) (Eq.mp (F_ref0_EqBook.eq  a1 a2 a3 a4 a5 a6 b7 b8 b9 b10 b11 b12 w.heap K) hh)
theorem ok93 : okFn Try.prog 93 = true := by kernel_rfl
end Go.Proofs.Ytcbelendjpnmiaa.V
namespace Go.Proofs.Ytcbelendjpnmiaa.V
open Go Go.RowKit
set_option linter.unusedVariables false
set_option maxRecDepth 100000
def F_law3_Shelf_Same.l1 (f90_ : Sl → Sl → Heap → (Bool → Heap → Prop) → Prop) (x1 : Option Addr) (Q : Bool → Heap → Prop) (j2 : Heap → Prop) : Int → Heap → Prop :=
  wl [(3, .one (.int .i64))] (fun (next3 : Int → Heap → Prop) (i4 : Int) (h5 : Heap) =>
  nn x1 fun (a6 : Addr) =>
  ld [.sl] (a6.add 1) h5 fun (v7 : Sl) =>
  brr (decide (i4 < ((v7.len : Nat) : Int)))
  (nn x1 fun (a8 : Addr) =>
  ld [.sl] (a8.add 1) h5 fun (v9 : Sl) =>
  ixS 1 v9 i4 fun (a10 : Addr) =>
  ld [.sl] a10 h5 fun (v11 : Sl) =>
  nn x1 fun (a12 : Addr) =>
  ld [.sl] (a12.add 2) h5 fun (v13 : Sl) =>
  ixS 1 v13 i4 fun (a14 : Addr) =>
  ld [.sl] a14 h5 fun (v15 : Sl) =>
  f90_ v11 v15 h5 fun (r16 : Bool) (h17 : Heap) =>
  brr (!r16)
  (Q false h17)
  (next3 (IntKind.i64.wrap (i4 + 1)) h17))
  (j2 h5))
def F_law3_Shelf_Same.l2 (f25_ : Sl → Sl → Heap → (Bool → Heap → Prop) → Prop) (x1 : Option Addr) (Q : Bool → Heap → Prop) (j19 : Heap → Prop) : Int → Heap → Prop :=
  wl [(4, .one (.int .i64))] (fun (next20 : Int → Heap → Prop) (i21 : Int) (h22 : Heap) =>
  nn x1 fun (a23 : Addr) =>
  ld [.sl] (a23.add 3) h22 fun (v24 : Sl) =>
  brr (decide (i21 < ((v24.len : Nat) : Int)))
  (nn x1 fun (a25 : Addr) =>
  ld [.sl] (a25.add 3) h22 fun (v26 : Sl) =>
  ixS 1 v26 i21 fun (a27 : Addr) =>
  ld [.sl] a27 h22 fun (v28 : Sl) =>
  nn x1 fun (a29 : Addr) =>
  ld [.sl] (a29.add 4) h22 fun (v30 : Sl) =>
  ixS 1 v30 i21 fun (a31 : Addr) =>
  ld [.sl] a31 h22 fun (v32 : Sl) =>
  f25_ v28 v32 h22 fun (r33 : Bool) (h34 : Heap) =>
  brr (!r33)
  (Q false h34)
  (next20 (IntKind.i64.wrap (i21 + 1)) h34))
  (j19 h22))
def F_law3_Shelf_Same.l3 (f91_ : Sl → Sl → Heap → (Bool → Heap → Prop) → Prop) (x1 : Option Addr) (Q : Bool → Heap → Prop) (j36 : Heap → Prop) : Int → Heap → Prop :=
  wl [(5, .one (.int .i64))] (fun (next37 : Int → Heap → Prop) (i38 : Int) (h39 : Heap) =>
  nn x1 fun (a40 : Addr) =>
  ld [.sl] (a40.add 5) h39 fun (v41 : Sl) =>
  brr (decide (i38 < ((v41.len : Nat) : Int)))
  (nn x1 fun (a42 : Addr) =>
  ld [.sl] (a42.add 5) h39 fun (v43 : Sl) =>
  ixS 1 v43 i38 fun (a44 : Addr) =>
  ld [.sl] a44 h39 fun (v45 : Sl) =>
  nn x1 fun (a46 : Addr) =>
  ld [.sl] (a46.add 6) h39 fun (v47 : Sl) =>
  ixS 1 v47 i38 fun (a48 : Addr) =>
  ld [.sl] a48 h39 fun (v49 : Sl) =>
  f91_ v45 v49 h39 fun (r50 : Bool) (h51 : Heap) =>
  brr (!r50)
  (Q false h51)
  (next37 (IntKind.i64.wrap (i38 + 1)) h51))
  (j36 h39))
def F_law3_Shelf_Same.l4 (f92_ : Sl → Sl → Heap → (Bool → Heap → Prop) → Prop) (x1 : Option Addr) (Q : Bool → Heap → Prop) (j53 : Heap → Prop) : Int → Heap → Prop :=
  wl [(6, .one (.int .i64))] (fun (next54 : Int → Heap → Prop) (i55 : Int) (h56 : Heap) =>
  nn x1 fun (a57 : Addr) =>
  ld [.sl] (a57.add 7) h56 fun (v58 : Sl) =>
  brr (decide (i55 < ((v58.len : Nat) : Int)))
  (nn x1 fun (a59 : Addr) =>
  ld [.sl] (a59.add 7) h56 fun (v60 : Sl) =>
  ixS 1 v60 i55 fun (a61 : Addr) =>
  ld [.sl] a61 h56 fun (v62 : Sl) =>
  nn x1 fun (a63 : Addr) =>
  ld [.sl] (a63.add 8) h56 fun (v64 : Sl) =>
  ixS 1 v64 i55 fun (a65 : Addr) =>
  ld [.sl] a65 h56 fun (v66 : Sl) =>
  f92_ v62 v66 h56 fun (r67 : Bool) (h68 : Heap) =>
  brr (!r67)
  (Q false h68)
  (next54 (IntKind.i64.wrap (i55 + 1)) h68))
  (j53 h56))
def F_law3_Shelf_Same.l5 (f93_ : Int → Sl → Sl → Sl → Sl → Sl → Int → Sl → Sl → Sl → Sl → Sl → Heap → (Bool → Heap → Prop) → Prop) (x1 : Option Addr) (Q : Bool → Heap → Prop) (j70 : Heap → Prop) : Int → Heap → Prop :=
  wl [(7, .one (.int .i64))] (fun (next71 : Int → Heap → Prop) (i72 : Int) (h73 : Heap) =>
  nn x1 fun (a74 : Addr) =>
  ld [.sl] (a74.add 9) h73 fun (v75 : Sl) =>
  brr (decide (i72 < ((v75.len : Nat) : Int)))
  (nn x1 fun (a76 : Addr) =>
  ld [.sl] (a76.add 9) h73 fun (v77 : Sl) =>
  ixS 6 v77 i72 fun (a78 : Addr) =>
  ld [.int .i64, .sl, .sl, .sl, .sl, .sl] a78 h73 fun (v79 : Int) (v80 v81 v82 v83 v84 : Sl) =>
  nn x1 fun (a85 : Addr) =>
  ld [.sl] (a85.add 10) h73 fun (v86 : Sl) =>
  ixS 6 v86 i72 fun (a87 : Addr) =>
  ld [.int .i64, .sl, .sl, .sl, .sl, .sl] a87 h73 fun (v88 : Int) (v89 v90 v91 v92 v93 : Sl) =>
  f93_ v79 v80 v81 v82 v83 v84 v88 v89 v90 v91 v92 v93 h73 fun (r94 : Bool) (h95 : Heap) =>
  brr (!r94)
  (Q false h95)
  (next71 (IntKind.i64.wrap (i72 + 1)) h95))
  (j70 h73))
def F_law3_Shelf_Same_of (f25_ : Sl → Sl → Heap → (Bool → Heap → Prop) → Prop) (f90_ : Sl → Sl → Heap → (Bool → Heap → Prop) → Prop) (f91_ : Sl → Sl → Heap → (Bool → Heap → Prop) → Prop) (f92_ : Sl → Sl → Heap → (Bool → Heap → Prop) → Prop) (f93_ : Int → Sl → Sl → Sl → Sl → Sl → Int → Sl → Sl → Sl → Sl → Sl → Heap → (Bool → Heap → Prop) → Prop) (x1 : Option Addr) (h : Heap) (Q : Bool → Heap → Prop) : Prop :=
  jn [] (fun  (h18 : Heap) =>
  jn [] (fun  (h35 : Heap) =>
  jn [] (fun  (h52 : Heap) =>
  jn [] (fun  (h69 : Heap) =>
  jn [] (fun  (h96 : Heap) =>
  Q true h96) (fun (j70 : Heap → Prop) =>
  F_law3_Shelf_Same.l5 f93_ x1 Q j70 0 h69)) (fun (j53 : Heap → Prop) =>
  F_law3_Shelf_Same.l4 f92_ x1 Q j53 0 h52)) (fun (j36 : Heap → Prop) =>
  F_law3_Shelf_Same.l3 f91_ x1 Q j36 0 h35)) (fun (j19 : Heap → Prop) =>
  F_law3_Shelf_Same.l2 f25_ x1 Q j19 0 h18)) (fun (j2 : Heap → Prop) =>
  F_law3_Shelf_Same.l1 f90_ x1 Q j2 0 h)
def F_law3_Shelf_Same (x1 : Option Addr) (h : Heap) (Q : Bool → Heap → Prop) : Prop := F_law3_Shelf_Same_of F_ref0_Eq F_ref0_EqInts F_ref0_EqMsgs F_ref0_EqDones F_ref0_EqBook x1 h Q
def plan61 : Plan := .s (.r [0]) (.s (.s (.r [0, 3]) (.bj [] [0] (.l [(3, .one (.int .i64))] [0] (.s (.s (.r [0, 3, 14]) (.c .z .z)) (.s (.b (.s (.d [0, 1, 3, 7, 0, 31, 63, 0, 128, 384, 896, 0, 3968, 8064, 16383, 32767] [[0, 1, 2, 3, 4, 5, 6, 7, 8, 9, 10, 11, 12, 13, 14, 15]] [0, 3, 32]) (.c (.s (.r [2]) .z) .z))) (.r [0, 3])))))) (.s (.s (.r [0, 4]) (.bj [] [0] (.l [(4, .one (.int .i64))] [0] (.s (.s (.r [0, 4, 39]) (.c .z .z)) (.s (.b (.s (.d [0, 1, 3, 7, 0, 31, 63, 0, 128, 384, 896, 0, 3968, 8064, 16383, 32767] [[0, 1, 2, 3, 4, 5, 6, 7, 8, 9, 10, 11, 12, 13, 14, 15]] [0, 4, 57]) (.c (.s (.r [2]) .z) .z))) (.r [0, 4])))))) (.s (.s (.r [0, 5]) (.bj [] [0] (.l [(5, .one (.int .i64))] [0] (.s (.s (.r [0, 5, 64]) (.c .z .z)) (.s (.b (.s (.d [0, 1, 3, 7, 0, 31, 63, 0, 128, 384, 896, 0, 3968, 8064, 16383, 32767] [[0, 1, 2, 3, 4, 5, 6, 7, 8, 9, 10, 11, 12, 13, 14, 15]] [0, 5, 82]) (.c (.s (.r [2]) .z) .z))) (.r [0, 5])))))) (.s (.s (.r [0, 6]) (.bj [] [0] (.l [(6, .one (.int .i64))] [0] (.s (.s (.r [0, 6, 89]) (.c .z .z)) (.s (.b (.s (.d [0, 1, 3, 7, 0, 31, 63, 0, 128, 384, 896, 0, 3968, 8064, 16383, 32767] [[0, 1, 2, 3, 4, 5, 6, 7, 8, 9, 10, 11, 12, 13, 14, 15]] [0, 6, 107]) (.c (.s (.r [2]) .z) .z))) (.r [0, 6])))))) (.s (.s (.r [0, 7]) (.bj [] [] (.l [(7, .one (.int .i64))] [0] (.s (.s (.r [0, 7, 114]) (.c .z .z)) (.s (.b (.s (.d [0, 1, 3, 7, 0, 31, 63, 0, 128, 384, 896, 0, 3968, 8064, 16383, 32767] [[0, 1, 2, 3, 4, 5, 6, 7, 8, 9, 10, 11, 12, 13, 14, 15]] [0, 7, 132]) (.c (.s (.r [2]) .z) .z))) (.r [0, 7])))))) (.s (.r [2]) .z))))))
theorem F_law3_Shelf_Same.eq (f25_ : Sl → Sl → Heap → (Bool → Heap → Prop) → Prop) (f90_ : Sl → Sl → Heap → (Bool → Heap → Prop) → Prop) (f91_ : Sl → Sl → Heap → (Bool → Heap → Prop) → Prop) (f92_ : Sl → Sl → Heap → (Bool → Heap → Prop) → Prop) (f93_ : Int → Sl → Sl → Sl → Sl → Sl → Int → Sl → Sl → Sl → Sl → Sl → Heap → (Bool → Heap → Prop) → Prop) (x1 : Option Addr) (h : Heap) (K : Value → Heap → Prop) : F_law3_Shelf_Same_of f25_ f90_ f91_ f92_ f93_ x1 h (fun (r0 : Bool) (h : Heap) => K (.bool r0) h) =
    den Try.prog (fn1 25 (E_ref0_Eq_of f25_) (fn1 90 (E_ref0_EqInts_of f90_) (fn1 91 (E_ref0_EqMsgs_of f91_) (fn1 92 (E_ref0_EqDones_of f92_) (fn1 93 (E_ref0_EqBook_of f93_) noFns))))) Try.f61.ntmps plan61 (bodyOf Try.f61) (args0 0 [(.pointer x1 : Value)]) h ⟨fun env h => dRes Try.prog Try.f61.results.toList env h K, fun _ _ _ => False, fun env h => dRes Try.prog Try.f61.results.toList env h K⟩ := by kernel_rfl
def E_law3_Shelf_Same_of (f : Option Addr → Heap → (Bool → Heap → Prop) → Prop) : List Value → Heap → (Value → Heap → Prop) → Prop
  | [v0], h, K => dec1 .ptr v0 fun (x1 : Option Addr) =>
  f x1 h (fun (r0 : Bool) (h : Heap) => K (.bool r0) h)
  | _, _, _ => False
abbrev E_law3_Shelf_Same := E_law3_Shelf_Same_of F_law3_Shelf_Same
theorem E_law3_Shelf_Same.right : IsRight Try.prog 61 E_law3_Shelf_Same := by
  refine isRight fun vs K w hh => ?_
  match vs, hh with
  | [v0], hh =>
    unfold E_law3_Shelf_Same E_law3_Shelf_Same_of at hh
    replace hh := dec1_sound hh; obtain ⟨x1, rfl, hh⟩ := hh
    unfold F_law3_Shelf_Same at hh
    exact calls_den (fn1_right ok25 E_ref0_Eq.right (fn1_right ok90 E_ref0_EqInts.right (fn1_right ok91 E_ref0_EqMsgs.right (fn1_right ok92 E_ref0_EqDones.right (fn1_right ok93 E_ref0_EqBook.right noFns_right))))) plan61 _ w K Try.func61 (by kernel_rfl) (by kernel_rfl) (Eq.mp (F_law3_Shelf_Same.eq F_ref0_Eq F_ref0_EqInts F_ref0_EqMsgs F_ref0_EqDones F_ref0_EqBook x1 w.heap K) hh)
theorem ok61 : okFn Try.prog 61 = true := by kernel_rfl
end Go.Proofs.Ytcbelendjpnmiaa.V
namespace Go.Proofs.Ytcbelendjpnmiaa.V
open Go Go.RowKit
set_option linter.unusedVariables false
set_option maxRecDepth 100000
def F_law3_sign_of  (n1 k2 : Int) (h : Heap) (Q : Int → Heap → Prop) : Prop :=
  (2 : Int) ≠ 0 ∧
  brr ((k2.tmod 2) == 0)
  ((251 : Int) ≠ 0 ∧
  Q (IntKind.u8.wrap (IntKind.i64.wrap (1 + (n1.tmod 251)))) h)
  ((251 : Int) ≠ 0 ∧
  (251 : Int) ≠ 0 ∧
  Q (IntKind.u8.wrap (IntKind.i64.wrap (1 + ((IntKind.i64.wrap ((IntKind.i64.wrap (7 * n1)) + (IntKind.i64.wrap (n1.tdiv 251)))).tmod 251)))) h)
def F_law3_sign (n1 k2 : Int) (h : Heap) (Q : Int → Heap → Prop) : Prop := F_law3_sign_of  n1 k2 h Q
def plan94 : Plan := .s (.r [0, 1]) (.s (.s (.r [0, 7]) (.c (.s (.r [4]) .z) .z)) (.s (.r [4]) .z))
theorem F_law3_sign.eq  (n1 k2 : Int) (h : Heap) (K : Value → Heap → Prop) : F_law3_sign_of  n1 k2 h (fun (r0 : Int) (h : Heap) => K (.int .u8 r0) h) =
    den Try.prog noFns Try.f94.ntmps plan94 (bodyOf Try.f94) (args0 0 [(.int .i64 n1 : Value), (.int .i64 k2 : Value)]) h ⟨fun env h => dRes Try.prog Try.f94.results.toList env h K, fun _ _ _ => False, fun env h => dRes Try.prog Try.f94.results.toList env h K⟩ := by kernel_rfl
def E_law3_sign_of (f : Int → Int → Heap → (Int → Heap → Prop) → Prop) : List Value → Heap → (Value → Heap → Prop) → Prop
  | [v0, v1], h, K => dec1 (.int .i64) v0 fun (n1 : Int) =>
  dec1 (.int .i64) v1 fun (k2 : Int) =>
  f n1 k2 h (fun (r0 : Int) (h : Heap) => K (.int .u8 r0) h)
  | _, _, _ => False
abbrev E_law3_sign := E_law3_sign_of F_law3_sign
theorem E_law3_sign.right : IsRight Try.prog 94 E_law3_sign := by
  refine isRight fun vs K w hh => ?_
  match vs, hh with
  | [v0, v1], hh =>
    unfold E_law3_sign E_law3_sign_of at hh
    replace hh := dec1_sound hh; obtain ⟨n1, rfl, hh⟩ := hh
    replace hh := dec1_sound hh; obtain ⟨k2, rfl, hh⟩ := hh
    unfold F_law3_sign at hh
    exact calls_den noFns_right plan94 _ w K Try.func94 (by kernel_rfl) (by kernel_rfl) (Eq.mp (F_law3_sign.eq  n1 k2 w.heap K) hh)
theorem ok94 : okFn Try.prog 94 = true := by kernel_rfl
end Go.Proofs.Ytcbelendjpnmiaa.V
namespace Go.Proofs.Ytcbelendjpnmiaa.V
open Go Go.RowKit
set_option linter.unusedVariables false
set_option maxRecDepth 100000
def F_law3_spread_mark.l1 (y1 : Option Addr) (i4 : Int) (j9 : Heap → Prop) : Int → Heap → Prop :=
  wl [(3, .one (.int .i64))] (fun (next10 : Int → Heap → Prop) (k11 : Int) (h12 : Heap) =>
  nn y1 fun (a13 : Addr) =>
  ld [.sl] (a13.add 0) h12 fun (v14 : Sl) =>
  ixS 1 v14 i4 fun (a15 : Addr) =>
  ld [.sl] a15 h12 fun (v16 : Sl) =>
  brr (decide (k11 < ((v16.len : Nat) : Int)))
  (nn y1 fun (a17 : Addr) =>
  ld [.sl] (a17.add 0) h12 fun (v18 : Sl) =>
  ixS 1 v18 i4 fun (a19 : Addr) =>
  ld [.sl] a19 h12 fun (v20 : Sl) =>
  ixS 1 v20 k11 fun (a21 : Addr) =>
  st a21 [.int .i64 (IntKind.i64.wrap ((-1) - i4))] h12 fun (h22 : Heap) =>
  next10 (IntKind.i64.wrap (k11 + 1)) h22)
  (j9 h12))
def F_law3_spread_mark.l2 (y1 : Option Addr) (j2 : Heap → Prop) : Int → Heap → Prop :=
  wl [(2, .one (.int .i64))] (fun (next3 : Int → Heap → Prop) (i4 : Int) (h5 : Heap) =>
  nn y1 fun (a6 : Addr) =>
  ld [.sl] (a6.add 0) h5 fun (v7 : Sl) =>
  brr (decide (i4 < ((v7.len : Nat) : Int)))
  (jn [] (fun  (h24 : Heap) =>
  next3 (IntKind.i64.wrap (i4 + 1)) h24) (fun (j8 : Heap → Prop) =>
  jn [] (fun  (h23 : Heap) =>
  j8 h23) (fun (j9 : Heap → Prop) =>
  F_law3_spread_mark.l1 y1 i4 j9 0 h5)))
  (j2 h5))
def F_law3_spread_mark.l3 (f94_ : Int → Int → Heap → (Int → Heap → Prop) → Prop) (y1 : Option Addr) (i28 : Int) (j33 : Heap → Prop) : Int → Heap → Prop :=
  wl [(5, .one (.int .i64))] (fun (next34 : Int → Heap → Prop) (k35 : Int) (h36 : Heap) =>
  nn y1 fun (a37 : Addr) =>
  ld [.sl] (a37.add 1) h36 fun (v38 : Sl) =>
  ixS 1 v38 i28 fun (a39 : Addr) =>
  ld [.sl] a39 h36 fun (v40 : Sl) =>
  brr (decide (k35 < ((v40.len : Nat) : Int)))
  (nn y1 fun (a41 : Addr) =>
  ld [.sl] (a41.add 1) h36 fun (v42 : Sl) =>
  ixS 1 v42 i28 fun (a43 : Addr) =>
  ld [.sl] a43 h36 fun (v44 : Sl) =>
  f94_ i28 k35 h36 fun (r45 : Int) (h46 : Heap) =>
  cellsAre h46 (a41.add 1) [.slice v42.ptr v42.len v42.cap] ∧
  cellsAre h46 a43 [.slice v44.ptr v44.len v44.cap] ∧
  ixS 1 v44 k35 fun (a47 : Addr) =>
  st a47 [.int .u8 r45] h46 fun (h48 : Heap) =>
  next34 (IntKind.i64.wrap (k35 + 1)) h48)
  (j33 h36))
def F_law3_spread_mark.l4 (f94_ : Int → Int → Heap → (Int → Heap → Prop) → Prop) (y1 : Option Addr) (j26 : Heap → Prop) : Int → Heap → Prop :=
  wl [(4, .one (.int .i64))] (fun (next27 : Int → Heap → Prop) (i28 : Int) (h29 : Heap) =>
  nn y1 fun (a30 : Addr) =>
  ld [.sl] (a30.add 1) h29 fun (v31 : Sl) =>
  brr (decide (i28 < ((v31.len : Nat) : Int)))
  (jn [] (fun  (h50 : Heap) =>
  next27 (IntKind.i64.wrap (i28 + 1)) h50) (fun (j32 : Heap → Prop) =>
  jn [] (fun  (h49 : Heap) =>
  j32 h49) (fun (j33 : Heap → Prop) =>
  F_law3_spread_mark.l3 f94_ y1 i28 j33 0 h29)))
  (j26 h29))
def F_law3_spread_mark.l5 (y1 : Option Addr) (i54 : Int) (j59 : Heap → Prop) : Int → Heap → Prop :=
  wl [(7, .one (.int .i64))] (fun (next60 : Int → Heap → Prop) (k61 : Int) (h62 : Heap) =>
  nn y1 fun (a63 : Addr) =>
  ld [.sl] (a63.add 2) h62 fun (v64 : Sl) =>
  ixS 1 v64 i54 fun (a65 : Addr) =>
  ld [.sl] a65 h62 fun (v66 : Sl) =>
  brr (decide (k61 < ((v66.len : Nat) : Int)))
  (nn y1 fun (a67 : Addr) =>
  ld [.sl] (a67.add 2) h62 fun (v68 : Sl) =>
  ixS 1 v68 i54 fun (a69 : Addr) =>
  ld [.sl] a69 h62 fun (v70 : Sl) =>
  ixS 1 v70 k61 fun (a71 : Addr) =>
  st a71 [.int .u64 (IntKind.u64.wrap (1125899906842624 + (IntKind.u64.wrap i54)))] h62 fun (h72 : Heap) =>
  next60 (IntKind.i64.wrap (k61 + 1)) h72)
  (j59 h62))
def F_law3_spread_mark.l6 (y1 : Option Addr) (j52 : Heap → Prop) : Int → Heap → Prop :=
  wl [(6, .one (.int .i64))] (fun (next53 : Int → Heap → Prop) (i54 : Int) (h55 : Heap) =>
  nn y1 fun (a56 : Addr) =>
  ld [.sl] (a56.add 2) h55 fun (v57 : Sl) =>
  brr (decide (i54 < ((v57.len : Nat) : Int)))
  (jn [] (fun  (h74 : Heap) =>
  next53 (IntKind.i64.wrap (i54 + 1)) h74) (fun (j58 : Heap → Prop) =>
  jn [] (fun  (h73 : Heap) =>
  j58 h73) (fun (j59 : Heap → Prop) =>
  F_law3_spread_mark.l5 y1 i54 j59 0 h55)))
  (j52 h55))
def F_law3_spread_mark.l7 (y1 : Option Addr) (i78 : Int) (j83 : Heap → Prop) : Int → Heap → Prop :=
  wl [(9, .one (.int .i64))] (fun (next84 : Int → Heap → Prop) (k85 : Int) (h86 : Heap) =>
  nn y1 fun (a87 : Addr) =>
  ld [.sl] (a87.add 3) h86 fun (v88 : Sl) =>
  ixS 1 v88 i78 fun (a89 : Addr) =>
  ld [.sl] a89 h86 fun (v90 : Sl) =>
  brr (decide (k85 < ((v90.len : Nat) : Int)))
  (nn y1 fun (a91 : Addr) =>
  ld [.sl] (a91.add 3) h86 fun (v92 : Sl) =>
  ixS 1 v92 i78 fun (a93 : Addr) =>
  ld [.sl] a93 h86 fun (v94 : Sl) =>
  ixS 22 v94 k85 fun (a95 : Addr) =>
  st a95 [.int .i64 0, .int .i64 0, .int .i64 0, .int .i64 0, .int .u64 0, .int .u64 0, .int .u64 0, .int .u64 0, .int .i64 (IntKind.i64.wrap ((-1) - i78)), .int .u64 0, .slice none 0 0, .int .i64 0, .int .u64 0, .string (⟨#[]⟩ : ByteArray), .string (⟨#[]⟩ : ByteArray), .int .u64 0, .int .u64 0, .int .u64 0, .int .i64 0, .int .i64 0, .int .i64 0, .int .i64 0] h86 fun (h96 : Heap) =>
  next84 (IntKind.i64.wrap (k85 + 1)) h96)
  (j83 h86))
def F_law3_spread_mark.l8 (y1 : Option Addr) (j76 : Heap → Prop) : Int → Heap → Prop :=
  wl [(8, .one (.int .i64))] (fun (next77 : Int → Heap → Prop) (i78 : Int) (h79 : Heap) =>
  nn y1 fun (a80 : Addr) =>
  ld [.sl] (a80.add 3) h79 fun (v81 : Sl) =>
  brr (decide (i78 < ((v81.len : Nat) : Int)))
  (jn [] (fun  (h98 : Heap) =>
  next77 (IntKind.i64.wrap (i78 + 1)) h98) (fun (j82 : Heap → Prop) =>
  jn [] (fun  (h97 : Heap) =>
  j82 h97) (fun (j83 : Heap → Prop) =>
  F_law3_spread_mark.l7 y1 i78 j83 0 h79)))
  (j76 h79))
def F_law3_spread_mark.l9 (y1 : Option Addr) (i102 : Int) (j107 : Heap → Prop) : Int → Heap → Prop :=
  wl [(11, .one (.int .i64))] (fun (next108 : Int → Heap → Prop) (k109 : Int) (h110 : Heap) =>
  nn y1 fun (a111 : Addr) =>
  ld [.sl] (a111.add 4) h110 fun (v112 : Sl) =>
  ixS 1 v112 i102 fun (a113 : Addr) =>
  ld [.sl] a113 h110 fun (v114 : Sl) =>
  brr (decide (k109 < ((v114.len : Nat) : Int)))
  (nn y1 fun (a115 : Addr) =>
  ld [.sl] (a115.add 4) h110 fun (v116 : Sl) =>
  ixS 1 v116 i102 fun (a117 : Addr) =>
  ld [.sl] a117 h110 fun (v118 : Sl) =>
  ixS 5 v118 k109 fun (a119 : Addr) =>
  st a119 [.int .i64 (IntKind.i64.wrap ((-1) - i102)), .int .u64 0, .int .i64 0, .int .i64 0, .int .u64 0] h110 fun (h120 : Heap) =>
  next108 (IntKind.i64.wrap (k109 + 1)) h120)
  (j107 h110))
def F_law3_spread_mark.l10 (y1 : Option Addr) (j100 : Heap → Prop) : Int → Heap → Prop :=
  wl [(10, .one (.int .i64))] (fun (next101 : Int → Heap → Prop) (i102 : Int) (h103 : Heap) =>
  nn y1 fun (a104 : Addr) =>
  ld [.sl] (a104.add 4) h103 fun (v105 : Sl) =>
  brr (decide (i102 < ((v105.len : Nat) : Int)))
  (jn [] (fun  (h122 : Heap) =>
  next101 (IntKind.i64.wrap (i102 + 1)) h122) (fun (j106 : Heap → Prop) =>
  jn [] (fun  (h121 : Heap) =>
  j106 h121) (fun (j107 : Heap → Prop) =>
  F_law3_spread_mark.l9 y1 i102 j107 0 h103)))
  (j100 h103))
def F_law3_spread_mark.l11 (y1 : Option Addr) (i126 : Int) (j131 : Heap → Prop) : Int → Heap → Prop :=
  wl [(13, .one (.int .i64))] (fun (next132 : Int → Heap → Prop) (k133 : Int) (h134 : Heap) =>
  nn y1 fun (a135 : Addr) =>
  ld [.sl] (a135.add 5) h134 fun (v136 : Sl) =>
  ixS 1 v136 i126 fun (a137 : Addr) =>
  ld [.sl] a137 h134 fun (v138 : Sl) =>
  brr (decide (k133 < ((v138.len : Nat) : Int)))
  (nn y1 fun (a139 : Addr) =>
  ld [.sl] (a139.add 5) h134 fun (v140 : Sl) =>
  ixS 1 v140 i126 fun (a141 : Addr) =>
  ld [.sl] a141 h134 fun (v142 : Sl) =>
  ixS 2 v142 k133 fun (a143 : Addr) =>
  st a143 [.string (⟨#[109, 97, 114, 107]⟩ : ByteArray), .int .u64 (IntKind.u64.wrap i126)] h134 fun (h144 : Heap) =>
  next132 (IntKind.i64.wrap (k133 + 1)) h144)
  (j131 h134))
def F_law3_spread_mark.l12 (y1 : Option Addr) (j124 : Heap → Prop) : Int → Heap → Prop :=
  wl [(12, .one (.int .i64))] (fun (next125 : Int → Heap → Prop) (i126 : Int) (h127 : Heap) =>
  nn y1 fun (a128 : Addr) =>
  ld [.sl] (a128.add 5) h127 fun (v129 : Sl) =>
  brr (decide (i126 < ((v129.len : Nat) : Int)))
  (jn [] (fun  (h146 : Heap) =>
  next125 (IntKind.i64.wrap (i126 + 1)) h146) (fun (j130 : Heap → Prop) =>
  jn [] (fun  (h145 : Heap) =>
  j130 h145) (fun (j131 : Heap → Prop) =>
  F_law3_spread_mark.l11 y1 i126 j131 0 h127)))
  (j124 h127))
def F_law3_spread_mark.l13 (y1 : Option Addr) (i150 : Int) (j155 : Heap → Prop) : Int → Heap → Prop :=
  wl [(15, .one (.int .i64))] (fun (next156 : Int → Heap → Prop) (k157 : Int) (h158 : Heap) =>
  nn y1 fun (a159 : Addr) =>
  ld [.sl] (a159.add 6) h158 fun (v160 : Sl) =>
  ixS 1 v160 i150 fun (a161 : Addr) =>
  ld [.sl] a161 h158 fun (v162 : Sl) =>
  brr (decide (k157 < ((v162.len : Nat) : Int)))
  (nn y1 fun (a163 : Addr) =>
  ld [.sl] (a163.add 6) h158 fun (v164 : Sl) =>
  ixS 1 v164 i150 fun (a165 : Addr) =>
  ld [.sl] a165 h158 fun (v166 : Sl) =>
  ixS 4 v166 k157 fun (a167 : Addr) =>
  st a167 [.int .i64 (IntKind.i64.wrap ((-1) - i150)), .int .u64 0, .string (⟨#[]⟩ : ByteArray), .int .u64 0] h158 fun (h168 : Heap) =>
  next156 (IntKind.i64.wrap (k157 + 1)) h168)
  (j155 h158))
def F_law3_spread_mark.l14 (y1 : Option Addr) (j148 : Heap → Prop) : Int → Heap → Prop :=
  wl [(14, .one (.int .i64))] (fun (next149 : Int → Heap → Prop) (i150 : Int) (h151 : Heap) =>
  nn y1 fun (a152 : Addr) =>
  ld [.sl] (a152.add 6) h151 fun (v153 : Sl) =>
  brr (decide (i150 < ((v153.len : Nat) : Int)))
  (jn [] (fun  (h170 : Heap) =>
  next149 (IntKind.i64.wrap (i150 + 1)) h170) (fun (j154 : Heap → Prop) =>
  jn [] (fun  (h169 : Heap) =>
  j154 h169) (fun (j155 : Heap → Prop) =>
  F_law3_spread_mark.l13 y1 i150 j155 0 h151)))
  (j148 h151))
def F_law3_spread_mark.l15 (y1 : Option Addr) (i174 : Int) (j179 : Heap → Prop) : Int → Heap → Prop :=
  wl [(17, .one (.int .i64))] (fun (next180 : Int → Heap → Prop) (k181 : Int) (h182 : Heap) =>
  nn y1 fun (a183 : Addr) =>
  ld [.sl] (a183.add 7) h182 fun (v184 : Sl) =>
  ixS 1 v184 i174 fun (a185 : Addr) =>
  ld [.sl] a185 h182 fun (v186 : Sl) =>
  brr (decide (k181 < ((v186.len : Nat) : Int)))
  (nn y1 fun (a187 : Addr) =>
  ld [.sl] (a187.add 7) h182 fun (v188 : Sl) =>
  ixS 1 v188 i174 fun (a189 : Addr) =>
  ld [.sl] a189 h182 fun (v190 : Sl) =>
  ixS 4 v190 k181 fun (a191 : Addr) =>
  st a191 [.int .u64 0, .int .i64 0, .int .i64 (IntKind.i64.wrap ((-1) - i174)), .int .u64 0] h182 fun (h192 : Heap) =>
  next180 (IntKind.i64.wrap (k181 + 1)) h192)
  (j179 h182))
def F_law3_spread_mark.l16 (y1 : Option Addr) (j172 : Heap → Prop) : Int → Heap → Prop :=
  wl [(16, .one (.int .i64))] (fun (next173 : Int → Heap → Prop) (i174 : Int) (h175 : Heap) =>
  nn y1 fun (a176 : Addr) =>
  ld [.sl] (a176.add 7) h175 fun (v177 : Sl) =>
  brr (decide (i174 < ((v177.len : Nat) : Int)))
  (jn [] (fun  (h194 : Heap) =>
  next173 (IntKind.i64.wrap (i174 + 1)) h194) (fun (j178 : Heap → Prop) =>
  jn [] (fun  (h193 : Heap) =>
  j178 h193) (fun (j179 : Heap → Prop) =>
  F_law3_spread_mark.l15 y1 i174 j179 0 h175)))
  (j172 h175))
def F_law3_spread_mark_of (f94_ : Int → Int → Heap → (Int → Heap → Prop) → Prop) (y1 : Option Addr) (h : Heap) (Q : Heap → Prop) : Prop :=
  jn [] (fun  (h25 : Heap) =>
  jn [] (fun  (h51 : Heap) =>
  jn [] (fun  (h75 : Heap) =>
  jn [] (fun  (h99 : Heap) =>
  jn [] (fun  (h123 : Heap) =>
  jn [] (fun  (h147 : Heap) =>
  jn [] (fun  (h171 : Heap) =>
  jn [] (fun  (h195 : Heap) =>
  Q h195) (fun (j172 : Heap → Prop) =>
  F_law3_spread_mark.l16 y1 j172 0 h171)) (fun (j148 : Heap → Prop) =>
  F_law3_spread_mark.l14 y1 j148 0 h147)) (fun (j124 : Heap → Prop) =>
  F_law3_spread_mark.l12 y1 j124 0 h123)) (fun (j100 : Heap → Prop) =>
  F_law3_spread_mark.l10 y1 j100 0 h99)) (fun (j76 : Heap → Prop) =>
  F_law3_spread_mark.l8 y1 j76 0 h75)) (fun (j52 : Heap → Prop) =>
  F_law3_spread_mark.l6 y1 j52 0 h51)) (fun (j26 : Heap → Prop) =>
  F_law3_spread_mark.l4 f94_ y1 j26 0 h25)) (fun (j2 : Heap → Prop) =>
  F_law3_spread_mark.l2 y1 j2 0 h)
def F_law3_spread_mark (y1 : Option Addr) (h : Heap) (Q : Heap → Prop) : Prop := F_law3_spread_mark_of F_law3_sign y1 h Q
def plan62 : Plan := .s (.s (.r [0, 2]) (.bj [] [0] (.l [(2, .one (.int .i64))] [0] (.s (.s (.r [0, 2, 24]) (.c .z .z)) (.s (.bj [] [0, 2] (.s (.r [0, 2, 3]) (.bj [] [0, 2] (.l [(3, .one (.int .i64))] [0, 2] (.s (.s (.r [0, 2, 3, 36]) (.c .z .z)) (.s (.b (.r [0, 2, 3])) (.r [0, 2, 3]))))))) (.r [0, 2])))))) (.s (.s (.r [0, 4]) (.bj [] [0] (.l [(4, .one (.int .i64))] [0] (.s (.s (.r [0, 4, 56]) (.c .z .z)) (.s (.bj [] [0, 4] (.s (.r [0, 4, 5]) (.bj [] [0, 4] (.l [(5, .one (.int .i64))] [0, 4] (.s (.s (.r [0, 4, 5, 68]) (.c .z .z)) (.s (.b (.d [0, 1, 3, 7, 0, 31, 63, 0, 0, 0, 768, 2047, 4095] [[0, 1, 2, 3, 4, 5, 6, 7, 8, 9, 10, 11, 12]] [0, 4, 5])) (.r [0, 4, 5]))))))) (.r [0, 4])))))) (.s (.s (.r [0, 6]) (.bj [] [0] (.l [(6, .one (.int .i64))] [0] (.s (.s (.r [0, 6, 89]) (.c .z .z)) (.s (.bj [] [0, 6] (.s (.r [0, 6, 7]) (.bj [] [0, 6] (.l [(7, .one (.int .i64))] [0, 6] (.s (.s (.r [0, 6, 7, 101]) (.c .z .z)) (.s (.b (.r [0, 6, 7])) (.r [0, 6, 7]))))))) (.r [0, 6])))))) (.s (.s (.r [0, 8]) (.bj [] [0] (.l [(8, .one (.int .i64))] [0] (.s (.s (.r [0, 8, 122]) (.c .z .z)) (.s (.bj [] [0, 8] (.s (.r [0, 8, 9]) (.bj [] [0, 8] (.l [(9, .one (.int .i64))] [0, 8] (.s (.s (.r [0, 8, 9, 134]) (.c .z .z)) (.s (.b (.r [0, 8, 9])) (.r [0, 8, 9]))))))) (.r [0, 8])))))) (.s (.s (.r [0, 10]) (.bj [] [0] (.l [(10, .one (.int .i64))] [0] (.s (.s (.r [0, 10, 155]) (.c .z .z)) (.s (.bj [] [0, 10] (.s (.r [0, 10, 11]) (.bj [] [0, 10] (.l [(11, .one (.int .i64))] [0, 10] (.s (.s (.r [0, 10, 11, 167]) (.c .z .z)) (.s (.b (.r [0, 10, 11])) (.r [0, 10, 11]))))))) (.r [0, 10])))))) (.s (.s (.r [0, 12]) (.bj [] [0] (.l [(12, .one (.int .i64))] [0] (.s (.s (.r [0, 12, 188]) (.c .z .z)) (.s (.bj [] [0, 12] (.s (.r [0, 12, 13]) (.bj [] [0, 12] (.l [(13, .one (.int .i64))] [0, 12] (.s (.s (.r [0, 12, 13, 200]) (.c .z .z)) (.s (.b (.r [0, 12, 13])) (.r [0, 12, 13]))))))) (.r [0, 12])))))) (.s (.s (.r [0, 14]) (.bj [] [0] (.l [(14, .one (.int .i64))] [0] (.s (.s (.r [0, 14, 221]) (.c .z .z)) (.s (.bj [] [0, 14] (.s (.r [0, 14, 15]) (.bj [] [0, 14] (.l [(15, .one (.int .i64))] [0, 14] (.s (.s (.r [0, 14, 15, 233]) (.c .z .z)) (.s (.b (.r [0, 14, 15])) (.r [0, 14, 15]))))))) (.r [0, 14])))))) (.s (.r [0, 16]) (.bj [] [] (.l [(16, .one (.int .i64))] [0] (.s (.s (.r [0, 16, 254]) (.c .z .z)) (.s (.bj [] [0, 16] (.s (.r [0, 16, 17]) (.bj [] [0, 16] (.l [(17, .one (.int .i64))] [0, 16] (.s (.s (.r [0, 16, 17, 266]) (.c .z .z)) (.s (.b (.r [0, 16, 17])) (.r [0, 16, 17]))))))) (.r [0, 16]))))))))))))
theorem F_law3_spread_mark.eq (f94_ : Int → Int → Heap → (Int → Heap → Prop) → Prop) (y1 : Option Addr) (h : Heap) (K : Value → Heap → Prop) : F_law3_spread_mark_of f94_ y1 h (fun  (h : Heap) => K (.tuple #[]) h) =
    den Try.prog (fn1 94 (E_law3_sign_of f94_) noFns) Try.f62.ntmps plan62 (bodyOf Try.f62) (args0 0 [(.pointer y1 : Value)]) h ⟨fun env h => dRes Try.prog Try.f62.results.toList env h K, fun _ _ _ => False, fun env h => dRes Try.prog Try.f62.results.toList env h K⟩ := by kernel_rfl
def E_law3_spread_mark_of (f : Option Addr → Heap → (Heap → Prop) → Prop) : List Value → Heap → (Value → Heap → Prop) → Prop
  | [v0], h, K => dec1 .ptr v0 fun (y1 : Option Addr) =>
  f y1 h (fun  (h : Heap) => K (.tuple #[]) h)
  | _, _, _ => False
abbrev E_law3_spread_mark := E_law3_spread_mark_of F_law3_spread_mark
theorem E_law3_spread_mark.right : IsRight Try.prog 62 E_law3_spread_mark := by
  refine isRight fun vs K w hh => ?_
  match vs, hh with
  | [v0], hh =>
    unfold E_law3_spread_mark E_law3_spread_mark_of at hh
    replace hh := dec1_sound hh; obtain ⟨y1, rfl, hh⟩ := hh
    unfold F_law3_spread_mark at hh
    exact calls_den (fn1_right ok94 E_law3_sign.right noFns_right) plan62 _ w K Try.func62 (by kernel_rfl) (by kernel_rfl) (Eq.mp (F_law3_spread_mark.eq F_law3_sign y1 w.heap K) hh)
theorem ok62 : okFn Try.prog 62 = true := by kernel_rfl
end Go.Proofs.Ytcbelendjpnmiaa.V
namespace Go.Proofs.Ytcbelendjpnmiaa.V
open Go Go.RowKit
set_option linter.unusedVariables false
set_option maxRecDepth 100000
def F_law3_spread_rest.l1 (i5 : Int) (j14 : Sl → Heap → Prop) : Sl → Int → Heap → Prop :=
  wl [(5, .one .sl), (6, .one (.int .i64))] (fun (next15 : Sl → Int → Heap → Prop) (l16 : Sl) (k17 : Int) (h18 : Heap) =>
  brr (decide (k17 < 40))
  (al 150 [.int .i64 (IntKind.i64.wrap ((-1) - i5)), .int .u64 0, .int .i64 0, .int .i64 0, .int .u64 0] h18 fun (a19 : Addr) (h20 : Heap) =>
  app 150 5 40 (.agg #[.int .i64 0, .int .u64 0, .int .i64 0, .int .i64 0, .int .u64 0]) l16 (some a19) 1 h20 fun (s21 : Sl) (h22 : Heap) =>
  next15 s21 (IntKind.i64.wrap (k17 + 1)) h22)
  (j14 l16 h18))
def F_law3_spread_rest.l2 (y1 z2 : Option Addr) (j3 : Heap → Prop) : Int → Heap → Prop :=
  wl [(4, .one (.int .i64))] (fun (next4 : Int → Heap → Prop) (i5 : Int) (h6 : Heap) =>
  nn y1 fun (a7 : Addr) =>
  ld [.sl] (a7.add 4) h6 fun (v8 : Sl) =>
  brr (decide (i5 < ((v8.len : Nat) : Int)))
  (jn [] (fun  (h33 : Heap) =>
  next4 (IntKind.i64.wrap (i5 + 1)) h33) (fun (j9 : Heap → Prop) =>
  nn y1 fun (a10 : Addr) =>
  ld [.sl] (a10.add 4) h6 fun (v11 : Sl) =>
  ixS 1 v11 i5 fun (a12 : Addr) =>
  ld [.sl] a12 h6 fun (v13 : Sl) =>
  jn [(5, .one .sl)] (fun (l23 : Sl) (h24 : Heap) =>
  nn z2 fun (a25 : Addr) =>
  ld [.sl] (a25.add 4) h24 fun (v26 : Sl) =>
  al 147 [.slice l23.ptr l23.len l23.cap] h24 fun (a27 : Addr) (h28 : Heap) =>
  app 147 1 24 (.slice none 0 0) v26 (some a27) 1 h28 fun (s29 : Sl) (h30 : Heap) =>
  nn z2 fun (a31 : Addr) =>
  st (a31.add 4) [.slice s29.ptr s29.len s29.cap] h30 fun (h32 : Heap) =>
  j9 h32) (fun (j14 : Sl → Heap → Prop) =>
  F_law3_spread_rest.l1 i5 j14 v13 0 h6)))
  (j3 h6))
def F_law3_spread_rest.l3 (i37 : Int) (j46 : Sl → Heap → Prop) : Sl → Int → Heap → Prop :=
  wl [(8, .one .sl), (9, .one (.int .i64))] (fun (next47 : Sl → Int → Heap → Prop) (l48 : Sl) (k49 : Int) (h50 : Heap) =>
  brr (decide (k49 < 40))
  (al 152 [.string (⟨#[109, 97, 114, 107]⟩ : ByteArray), .int .u64 (IntKind.u64.wrap i37)] h50 fun (a51 : Addr) (h52 : Heap) =>
  app 152 2 24 (.agg #[.string (⟨#[]⟩ : ByteArray), .int .u64 0]) l48 (some a51) 1 h52 fun (s53 : Sl) (h54 : Heap) =>
  next47 s53 (IntKind.i64.wrap (k49 + 1)) h54)
  (j46 l48 h50))
def F_law3_spread_rest.l4 (y1 z2 : Option Addr) (j35 : Heap → Prop) : Int → Heap → Prop :=
  wl [(7, .one (.int .i64))] (fun (next36 : Int → Heap → Prop) (i37 : Int) (h38 : Heap) =>
  nn y1 fun (a39 : Addr) =>
  ld [.sl] (a39.add 5) h38 fun (v40 : Sl) =>
  brr (decide (i37 < ((v40.len : Nat) : Int)))
  (jn [] (fun  (h65 : Heap) =>
  next36 (IntKind.i64.wrap (i37 + 1)) h65) (fun (j41 : Heap → Prop) =>
  nn y1 fun (a42 : Addr) =>
  ld [.sl] (a42.add 5) h38 fun (v43 : Sl) =>
  ixS 1 v43 i37 fun (a44 : Addr) =>
  ld [.sl] a44 h38 fun (v45 : Sl) =>
  jn [(8, .one .sl)] (fun (l55 : Sl) (h56 : Heap) =>
  nn z2 fun (a57 : Addr) =>
  ld [.sl] (a57.add 5) h56 fun (v58 : Sl) =>
  al 130 [.slice l55.ptr l55.len l55.cap] h56 fun (a59 : Addr) (h60 : Heap) =>
  app 130 1 24 (.slice none 0 0) v58 (some a59) 1 h60 fun (s61 : Sl) (h62 : Heap) =>
  nn z2 fun (a63 : Addr) =>
  st (a63.add 5) [.slice s61.ptr s61.len s61.cap] h62 fun (h64 : Heap) =>
  j41 h64) (fun (j46 : Sl → Heap → Prop) =>
  F_law3_spread_rest.l3 i37 j46 v45 0 h38)))
  (j35 h38))
def F_law3_spread_rest.l5 (i69 : Int) (j78 : Sl → Heap → Prop) : Sl → Int → Heap → Prop :=
  wl [(11, .one .sl), (12, .one (.int .i64))] (fun (next79 : Sl → Int → Heap → Prop) (l80 : Sl) (k81 : Int) (h82 : Heap) =>
  brr (decide (k81 < 40))
  (al 154 [.int .i64 (IntKind.i64.wrap ((-1) - i69)), .int .u64 0, .string (⟨#[]⟩ : ByteArray), .int .u64 0] h82 fun (a83 : Addr) (h84 : Heap) =>
  app 154 4 40 (.agg #[.int .i64 0, .int .u64 0, .string (⟨#[]⟩ : ByteArray), .int .u64 0]) l80 (some a83) 1 h84 fun (s85 : Sl) (h86 : Heap) =>
  next79 s85 (IntKind.i64.wrap (k81 + 1)) h86)
  (j78 l80 h82))
def F_law3_spread_rest.l6 (y1 z2 : Option Addr) (j67 : Heap → Prop) : Int → Heap → Prop :=
  wl [(10, .one (.int .i64))] (fun (next68 : Int → Heap → Prop) (i69 : Int) (h70 : Heap) =>
  nn y1 fun (a71 : Addr) =>
  ld [.sl] (a71.add 6) h70 fun (v72 : Sl) =>
  brr (decide (i69 < ((v72.len : Nat) : Int)))
  (jn [] (fun  (h97 : Heap) =>
  next68 (IntKind.i64.wrap (i69 + 1)) h97) (fun (j73 : Heap → Prop) =>
  nn y1 fun (a74 : Addr) =>
  ld [.sl] (a74.add 6) h70 fun (v75 : Sl) =>
  ixS 1 v75 i69 fun (a76 : Addr) =>
  ld [.sl] a76 h70 fun (v77 : Sl) =>
  jn [(11, .one .sl)] (fun (l87 : Sl) (h88 : Heap) =>
  nn z2 fun (a89 : Addr) =>
  ld [.sl] (a89.add 6) h88 fun (v90 : Sl) =>
  al 131 [.slice l87.ptr l87.len l87.cap] h88 fun (a91 : Addr) (h92 : Heap) =>
  app 131 1 24 (.slice none 0 0) v90 (some a91) 1 h92 fun (s93 : Sl) (h94 : Heap) =>
  nn z2 fun (a95 : Addr) =>
  st (a95.add 6) [.slice s93.ptr s93.len s93.cap] h94 fun (h96 : Heap) =>
  j73 h96) (fun (j78 : Sl → Heap → Prop) =>
  F_law3_spread_rest.l5 i69 j78 v77 0 h70)))
  (j67 h70))
def F_law3_spread_rest.l7 (i101 : Int) (j110 : Sl → Heap → Prop) : Sl → Int → Heap → Prop :=
  wl [(14, .one .sl), (15, .one (.int .i64))] (fun (next111 : Sl → Int → Heap → Prop) (l112 : Sl) (k113 : Int) (h114 : Heap) =>
  brr (decide (k113 < 40))
  (al 156 [.int .u64 0, .int .i64 0, .int .i64 (IntKind.i64.wrap ((-1) - i101)), .int .u64 0] h114 fun (a115 : Addr) (h116 : Heap) =>
  app 156 4 32 (.agg #[.int .u64 0, .int .i64 0, .int .i64 0, .int .u64 0]) l112 (some a115) 1 h116 fun (s117 : Sl) (h118 : Heap) =>
  next111 s117 (IntKind.i64.wrap (k113 + 1)) h118)
  (j110 l112 h114))
def F_law3_spread_rest.l8 (y1 z2 : Option Addr) (j99 : Heap → Prop) : Int → Heap → Prop :=
  wl [(13, .one (.int .i64))] (fun (next100 : Int → Heap → Prop) (i101 : Int) (h102 : Heap) =>
  nn y1 fun (a103 : Addr) =>
  ld [.sl] (a103.add 7) h102 fun (v104 : Sl) =>
  brr (decide (i101 < ((v104.len : Nat) : Int)))
  (jn [] (fun  (h129 : Heap) =>
  next100 (IntKind.i64.wrap (i101 + 1)) h129) (fun (j105 : Heap → Prop) =>
  nn y1 fun (a106 : Addr) =>
  ld [.sl] (a106.add 7) h102 fun (v107 : Sl) =>
  ixS 1 v107 i101 fun (a108 : Addr) =>
  ld [.sl] a108 h102 fun (v109 : Sl) =>
  jn [(14, .one .sl)] (fun (l119 : Sl) (h120 : Heap) =>
  nn z2 fun (a121 : Addr) =>
  ld [.sl] (a121.add 7) h120 fun (v122 : Sl) =>
  al 132 [.slice l119.ptr l119.len l119.cap] h120 fun (a123 : Addr) (h124 : Heap) =>
  app 132 1 24 (.slice none 0 0) v122 (some a123) 1 h124 fun (s125 : Sl) (h126 : Heap) =>
  nn z2 fun (a127 : Addr) =>
  st (a127.add 7) [.slice s125.ptr s125.len s125.cap] h126 fun (h128 : Heap) =>
  j105 h128) (fun (j110 : Sl → Heap → Prop) =>
  F_law3_spread_rest.l7 i101 j110 v109 0 h102)))
  (j99 h102))
def F_law3_spread_rest_of  (y1 z2 : Option Addr) (h : Heap) (Q : Heap → Prop) : Prop :=
  jn [] (fun  (h34 : Heap) =>
  jn [] (fun  (h66 : Heap) =>
  jn [] (fun  (h98 : Heap) =>
  jn [] (fun  (h130 : Heap) =>
  Q h130) (fun (j99 : Heap → Prop) =>
  F_law3_spread_rest.l8 y1 z2 j99 0 h98)) (fun (j67 : Heap → Prop) =>
  F_law3_spread_rest.l6 y1 z2 j67 0 h66)) (fun (j35 : Heap → Prop) =>
  F_law3_spread_rest.l4 y1 z2 j35 0 h34)) (fun (j3 : Heap → Prop) =>
  F_law3_spread_rest.l2 y1 z2 j3 0 h)
def F_law3_spread_rest (y1 z2 : Option Addr) (h : Heap) (Q : Heap → Prop) : Prop := F_law3_spread_rest_of  y1 z2 h Q
def plan95 : Plan := .s (.s (.r [0, 1, 4]) (.bj [] [0, 1] (.l [(4, .one (.int .i64))] [0, 1] (.s (.s (.r [0, 1, 4, 22]) (.c .z .z)) (.s (.bj [] [0, 1, 4] (.s (.r [0, 1, 4, 5]) (.s (.s (.r [0, 1, 4, 5, 6]) (.bj [(5, .one .sl)] [0, 1, 4] (.l [(5, .one .sl), (6, .one (.int .i64))] [0, 1, 4] (.s (.s (.r [0, 1, 4, 5, 6, 33]) (.c .z .z)) (.s (.b (.r [0, 1, 4, 5, 6])) (.r [0, 1, 4, 5, 6])))))) (.r [0, 1, 4])))) (.r [0, 1, 4])))))) (.s (.s (.r [0, 1, 7]) (.bj [] [0, 1] (.l [(7, .one (.int .i64))] [0, 1] (.s (.s (.r [0, 1, 7, 58]) (.c .z .z)) (.s (.bj [] [0, 1, 7] (.s (.r [0, 1, 7, 8]) (.s (.s (.r [0, 1, 7, 8, 9]) (.bj [(8, .one .sl)] [0, 1, 7] (.l [(8, .one .sl), (9, .one (.int .i64))] [0, 1, 7] (.s (.s (.r [0, 1, 7, 8, 9, 69]) (.c .z .z)) (.s (.b (.r [0, 1, 7, 8, 9])) (.r [0, 1, 7, 8, 9])))))) (.r [0, 1, 7])))) (.r [0, 1, 7])))))) (.s (.s (.r [0, 1, 10]) (.bj [] [0, 1] (.l [(10, .one (.int .i64))] [0, 1] (.s (.s (.r [0, 1, 10, 94]) (.c .z .z)) (.s (.bj [] [0, 1, 10] (.s (.r [0, 1, 10, 11]) (.s (.s (.r [0, 1, 10, 11, 12]) (.bj [(11, .one .sl)] [0, 1, 10] (.l [(11, .one .sl), (12, .one (.int .i64))] [0, 1, 10] (.s (.s (.r [0, 1, 10, 11, 12, 105]) (.c .z .z)) (.s (.b (.r [0, 1, 10, 11, 12])) (.r [0, 1, 10, 11, 12])))))) (.r [0, 1, 10])))) (.r [0, 1, 10])))))) (.s (.r [0, 1, 13]) (.bj [] [] (.l [(13, .one (.int .i64))] [0, 1] (.s (.s (.r [0, 1, 13, 130]) (.c .z .z)) (.s (.bj [] [0, 1, 13] (.s (.r [0, 1, 13, 14]) (.s (.s (.r [0, 1, 13, 14, 15]) (.bj [(14, .one .sl)] [0, 1, 13] (.l [(14, .one .sl), (15, .one (.int .i64))] [0, 1, 13] (.s (.s (.r [0, 1, 13, 14, 15, 141]) (.c .z .z)) (.s (.b (.r [0, 1, 13, 14, 15])) (.r [0, 1, 13, 14, 15])))))) (.r [0, 1, 13])))) (.r [0, 1, 13]))))))))
theorem F_law3_spread_rest.eq  (y1 z2 : Option Addr) (h : Heap) (K : Value → Heap → Prop) : F_law3_spread_rest_of  y1 z2 h (fun  (h : Heap) => K (.tuple #[]) h) =
    den Try.prog noFns Try.f95.ntmps plan95 (bodyOf Try.f95) (args0 0 [(.pointer y1 : Value), (.pointer z2 : Value)]) h ⟨fun env h => dRes Try.prog Try.f95.results.toList env h K, fun _ _ _ => False, fun env h => dRes Try.prog Try.f95.results.toList env h K⟩ := by kernel_rfl
def E_law3_spread_rest_of (f : Option Addr → Option Addr → Heap → (Heap → Prop) → Prop) : List Value → Heap → (Value → Heap → Prop) → Prop
  | [v0, v1], h, K => dec1 .ptr v0 fun (y1 : Option Addr) =>
  dec1 .ptr v1 fun (z2 : Option Addr) =>
  f y1 z2 h (fun  (h : Heap) => K (.tuple #[]) h)
  | _, _, _ => False
abbrev E_law3_spread_rest := E_law3_spread_rest_of F_law3_spread_rest
theorem E_law3_spread_rest.right : IsRight Try.prog 95 E_law3_spread_rest := by
  refine isRight fun vs K w hh => ?_
  match vs, hh with
  | [v0, v1], hh =>
    unfold E_law3_spread_rest E_law3_spread_rest_of at hh
    replace hh := dec1_sound hh; obtain ⟨y1, rfl, hh⟩ := hh
    replace hh := dec1_sound hh; obtain ⟨z2, rfl, hh⟩ := hh
    unfold F_law3_spread_rest at hh
    exact calls_den noFns_right plan95 _ w K Try.func95 (by kernel_rfl) (by kernel_rfl) (Eq.mp (F_law3_spread_rest.eq  y1 z2 w.heap K) hh)
theorem ok95 : okFn Try.prog 95 = true := by kernel_rfl
end Go.Proofs.Ytcbelendjpnmiaa.V
namespace Go.Proofs.Ytcbelendjpnmiaa.V
open Go Go.RowKit
set_option linter.unusedVariables false
set_option maxRecDepth 100000
def F_law3_spread_grown.l1 (i6 : Int) (j15 : Sl → Heap → Prop) : Sl → Int → Heap → Prop :=
  wl [(5, .one .sl), (6, .one (.int .i64))] (fun (next16 : Sl → Int → Heap → Prop) (l17 : Sl) (k18 : Int) (h19 : Heap) =>
  brr (decide (k18 < 40))
  (al 3 [.int .i64 (IntKind.i64.wrap ((-1) - i6))] h19 fun (a20 : Addr) (h21 : Heap) =>
  app 3 1 8 (.int .i64 0) l17 (some a20) 1 h21 fun (s22 : Sl) (h23 : Heap) =>
  next16 s22 (IntKind.i64.wrap (k18 + 1)) h23)
  (j15 l17 h19))
def F_law3_spread_grown.l2 (y1 : Option Addr) (a2 : Addr) (j4 : Heap → Prop) : Int → Heap → Prop :=
  wl [(4, .one (.int .i64))] (fun (next5 : Int → Heap → Prop) (i6 : Int) (h7 : Heap) =>
  nn y1 fun (a8 : Addr) =>
  ld [.sl] (a8.add 0) h7 fun (v9 : Sl) =>
  brr (decide (i6 < ((v9.len : Nat) : Int)))
  (jn [] (fun  (h34 : Heap) =>
  next5 (IntKind.i64.wrap (i6 + 1)) h34) (fun (j10 : Heap → Prop) =>
  nn y1 fun (a11 : Addr) =>
  ld [.sl] (a11.add 0) h7 fun (v12 : Sl) =>
  ixS 1 v12 i6 fun (a13 : Addr) =>
  ld [.sl] a13 h7 fun (v14 : Sl) =>
  jn [(5, .one .sl)] (fun (l24 : Sl) (h25 : Heap) =>
  nn (some a2) fun (a26 : Addr) =>
  ld [.sl] (a26.add 0) h25 fun (v27 : Sl) =>
  al 86 [.slice l24.ptr l24.len l24.cap] h25 fun (a28 : Addr) (h29 : Heap) =>
  app 86 1 24 (.slice none 0 0) v27 (some a28) 1 h29 fun (s30 : Sl) (h31 : Heap) =>
  nn (some a2) fun (a32 : Addr) =>
  st (a32.add 0) [.slice s30.ptr s30.len s30.cap] h31 fun (h33 : Heap) =>
  j10 h33) (fun (j15 : Sl → Heap → Prop) =>
  F_law3_spread_grown.l1 i6 j15 v14 0 h7)))
  (j4 h7))
def F_law3_spread_grown.l3 (f94_ : Int → Int → Heap → (Int → Heap → Prop) → Prop) (i38 : Int) (j47 : Sl → Heap → Prop) : Sl → Int → Heap → Prop :=
  wl [(8, .one .sl), (9, .one (.int .i64))] (fun (next48 : Sl → Int → Heap → Prop) (l49 : Sl) (k50 : Int) (h51 : Heap) =>
  brr (decide (k50 < 96))
  (f94_ i38 ((l49.len : Nat) : Int) h51 fun (r52 : Int) (h53 : Heap) =>
  al 5 [.int .u8 r52] h53 fun (a54 : Addr) (h55 : Heap) =>
  app 5 1 1 (.int .u8 0) l49 (some a54) 1 h55 fun (s56 : Sl) (h57 : Heap) =>
  next48 s56 (IntKind.i64.wrap (k50 + 1)) h57)
  (j47 l49 h51))
def F_law3_spread_grown.l4 (f94_ : Int → Int → Heap → (Int → Heap → Prop) → Prop) (y1 : Option Addr) (a2 : Addr) (j36 : Heap → Prop) : Int → Heap → Prop :=
  wl [(7, .one (.int .i64))] (fun (next37 : Int → Heap → Prop) (i38 : Int) (h39 : Heap) =>
  nn y1 fun (a40 : Addr) =>
  ld [.sl] (a40.add 1) h39 fun (v41 : Sl) =>
  brr (decide (i38 < ((v41.len : Nat) : Int)))
  (jn [] (fun  (h68 : Heap) =>
  next37 (IntKind.i64.wrap (i38 + 1)) h68) (fun (j42 : Heap → Prop) =>
  nn y1 fun (a43 : Addr) =>
  ld [.sl] (a43.add 1) h39 fun (v44 : Sl) =>
  ixS 1 v44 i38 fun (a45 : Addr) =>
  ld [.sl] a45 h39 fun (v46 : Sl) =>
  jn [(8, .one .sl)] (fun (l58 : Sl) (h59 : Heap) =>
  nn (some a2) fun (a60 : Addr) =>
  ld [.sl] (a60.add 1) h59 fun (v61 : Sl) =>
  al 29 [.slice l58.ptr l58.len l58.cap] h59 fun (a62 : Addr) (h63 : Heap) =>
  app 29 1 24 (.slice none 0 0) v61 (some a62) 1 h63 fun (s64 : Sl) (h65 : Heap) =>
  nn (some a2) fun (a66 : Addr) =>
  st (a66.add 1) [.slice s64.ptr s64.len s64.cap] h65 fun (h67 : Heap) =>
  j42 h67) (fun (j47 : Sl → Heap → Prop) =>
  F_law3_spread_grown.l3 f94_ i38 j47 v46 0 h39)))
  (j36 h39))
def F_law3_spread_grown.l5 (i72 : Int) (j81 : Sl → Heap → Prop) : Sl → Int → Heap → Prop :=
  wl [(11, .one .sl), (12, .one (.int .i64))] (fun (next82 : Sl → Int → Heap → Prop) (l83 : Sl) (k84 : Int) (h85 : Heap) =>
  brr (decide (k84 < 40))
  (al 33 [.int .u64 (IntKind.u64.wrap (1125899906842624 + (IntKind.u64.wrap i72)))] h85 fun (a86 : Addr) (h87 : Heap) =>
  app 33 1 8 (.int .u64 0) l83 (some a86) 1 h87 fun (s88 : Sl) (h89 : Heap) =>
  next82 s88 (IntKind.i64.wrap (k84 + 1)) h89)
  (j81 l83 h85))
def F_law3_spread_grown.l6 (y1 : Option Addr) (a2 : Addr) (j70 : Heap → Prop) : Int → Heap → Prop :=
  wl [(10, .one (.int .i64))] (fun (next71 : Int → Heap → Prop) (i72 : Int) (h73 : Heap) =>
  nn y1 fun (a74 : Addr) =>
  ld [.sl] (a74.add 2) h73 fun (v75 : Sl) =>
  brr (decide (i72 < ((v75.len : Nat) : Int)))
  (jn [] (fun  (h100 : Heap) =>
  next71 (IntKind.i64.wrap (i72 + 1)) h100) (fun (j76 : Heap → Prop) =>
  nn y1 fun (a77 : Addr) =>
  ld [.sl] (a77.add 2) h73 fun (v78 : Sl) =>
  ixS 1 v78 i72 fun (a79 : Addr) =>
  ld [.sl] a79 h73 fun (v80 : Sl) =>
  jn [(11, .one .sl)] (fun (l90 : Sl) (h91 : Heap) =>
  nn (some a2) fun (a92 : Addr) =>
  ld [.sl] (a92.add 2) h91 fun (v93 : Sl) =>
  al 32 [.slice l90.ptr l90.len l90.cap] h91 fun (a94 : Addr) (h95 : Heap) =>
  app 32 1 24 (.slice none 0 0) v93 (some a94) 1 h95 fun (s96 : Sl) (h97 : Heap) =>
  nn (some a2) fun (a98 : Addr) =>
  st (a98.add 2) [.slice s96.ptr s96.len s96.cap] h97 fun (h99 : Heap) =>
  j76 h99) (fun (j81 : Sl → Heap → Prop) =>
  F_law3_spread_grown.l5 i72 j81 v80 0 h73)))
  (j70 h73))
def F_law3_spread_grown.l7 (i104 : Int) (j113 : Sl → Heap → Prop) : Sl → Int → Heap → Prop :=
  wl [(14, .one .sl), (15, .one (.int .i64))] (fun (next114 : Sl → Int → Heap → Prop) (l115 : Sl) (k116 : Int) (h117 : Heap) =>
  brr (decide (k116 < 40))
  (al 42 [.int .i64 0, .int .i64 0, .int .i64 0, .int .i64 0, .int .u64 0, .int .u64 0, .int .u64 0, .int .u64 0, .int .i64 (IntKind.i64.wrap ((-1) - i104)), .int .u64 0, .slice none 0 0, .int .i64 0, .int .u64 0, .string (⟨#[]⟩ : ByteArray), .string (⟨#[]⟩ : ByteArray), .int .u64 0, .int .u64 0, .int .u64 0, .int .i64 0, .int .i64 0, .int .i64 0, .int .i64 0] h117 fun (a118 : Addr) (h119 : Heap) =>
  app 42 22 208 (.agg #[.int .i64 0, .int .i64 0, .int .i64 0, .int .i64 0, .int .u64 0, .int .u64 0, .int .u64 0, .int .u64 0, .int .i64 0, .int .u64 0, .slice none 0 0, .int .i64 0, .int .u64 0, .string (⟨#[]⟩ : ByteArray), .string (⟨#[]⟩ : ByteArray), .int .u64 0, .int .u64 0, .int .u64 0, .int .i64 0, .int .i64 0, .int .i64 0, .int .i64 0]) l115 (some a118) 1 h119 fun (s120 : Sl) (h121 : Heap) =>
  next114 s120 (IntKind.i64.wrap (k116 + 1)) h121)
  (j113 l115 h117))
def F_law3_spread_grown.l8 (y1 : Option Addr) (a2 : Addr) (j102 : Heap → Prop) : Int → Heap → Prop :=
  wl [(13, .one (.int .i64))] (fun (next103 : Int → Heap → Prop) (i104 : Int) (h105 : Heap) =>
  nn y1 fun (a106 : Addr) =>
  ld [.sl] (a106.add 3) h105 fun (v107 : Sl) =>
  brr (decide (i104 < ((v107.len : Nat) : Int)))
  (jn [] (fun  (h132 : Heap) =>
  next103 (IntKind.i64.wrap (i104 + 1)) h132) (fun (j108 : Heap → Prop) =>
  nn y1 fun (a109 : Addr) =>
  ld [.sl] (a109.add 3) h105 fun (v110 : Sl) =>
  ixS 1 v110 i104 fun (a111 : Addr) =>
  ld [.sl] a111 h105 fun (v112 : Sl) =>
  jn [(14, .one .sl)] (fun (l122 : Sl) (h123 : Heap) =>
  nn (some a2) fun (a124 : Addr) =>
  ld [.sl] (a124.add 3) h123 fun (v125 : Sl) =>
  al 129 [.slice l122.ptr l122.len l122.cap] h123 fun (a126 : Addr) (h127 : Heap) =>
  app 129 1 24 (.slice none 0 0) v125 (some a126) 1 h127 fun (s128 : Sl) (h129 : Heap) =>
  nn (some a2) fun (a130 : Addr) =>
  st (a130.add 3) [.slice s128.ptr s128.len s128.cap] h129 fun (h131 : Heap) =>
  j108 h131) (fun (j113 : Sl → Heap → Prop) =>
  F_law3_spread_grown.l7 i104 j113 v112 0 h105)))
  (j102 h105))
def F_law3_spread_grown_of (f94_ : Int → Int → Heap → (Int → Heap → Prop) → Prop) (f95_ : Option Addr → Option Addr → Heap → (Heap → Prop) → Prop) (y1 : Option Addr) (h : Heap) (Q : Option Addr → Heap → Prop) : Prop :=
  al 128 [.slice none 0 0, .slice none 0 0, .slice none 0 0, .slice none 0 0, .slice none 0 0, .slice none 0 0, .slice none 0 0, .slice none 0 0] h fun (a2 : Addr) (h3 : Heap) =>
  jn [] (fun  (h35 : Heap) =>
  jn [] (fun  (h69 : Heap) =>
  jn [] (fun  (h101 : Heap) =>
  jn [] (fun  (h133 : Heap) =>
  f95_ y1 (some a2) h133 fun  (h134 : Heap) =>
  Q (some a2) h134) (fun (j102 : Heap → Prop) =>
  F_law3_spread_grown.l8 y1 a2 j102 0 h101)) (fun (j70 : Heap → Prop) =>
  F_law3_spread_grown.l6 y1 a2 j70 0 h69)) (fun (j36 : Heap → Prop) =>
  F_law3_spread_grown.l4 f94_ y1 a2 j36 0 h35)) (fun (j4 : Heap → Prop) =>
  F_law3_spread_grown.l2 y1 a2 j4 0 h3)
def F_law3_spread_grown (y1 : Option Addr) (h : Heap) (Q : Option Addr → Heap → Prop) : Prop := F_law3_spread_grown_of F_law3_sign F_law3_spread_rest y1 h Q
def plan63 : Plan := .s (.r [0]) (.s (.r [0, 3]) (.s (.s (.r [0, 3, 4]) (.bj [] [0, 3] (.l [(4, .one (.int .i64))] [0, 3] (.s (.s (.r [0, 3, 4, 24]) (.c .z .z)) (.s (.bj [] [0, 3, 4] (.s (.r [0, 3, 4, 5]) (.s (.s (.r [0, 3, 4, 5, 6]) (.bj [(5, .one .sl)] [0, 3, 4] (.l [(5, .one .sl), (6, .one (.int .i64))] [0, 3, 4] (.s (.s (.r [0, 3, 4, 5, 6, 35]) (.c .z .z)) (.s (.b (.r [0, 3, 4, 5, 6])) (.r [0, 3, 4, 5, 6])))))) (.r [0, 3, 4])))) (.r [0, 3, 4])))))) (.s (.s (.r [0, 3, 7]) (.bj [] [0, 3] (.l [(7, .one (.int .i64))] [0, 3] (.s (.s (.r [0, 3, 7, 59]) (.c .z .z)) (.s (.bj [] [0, 3, 7] (.s (.r [0, 3, 7, 8]) (.s (.s (.r [0, 3, 7, 8, 9]) (.bj [(8, .one .sl)] [0, 3, 7] (.l [(8, .one .sl), (9, .one (.int .i64))] [0, 3, 7] (.s (.s (.r [0, 3, 7, 8, 9, 70]) (.c .z .z)) (.s (.b (.r [0, 3, 7, 8, 9])) (.r [0, 3, 7, 8, 9])))))) (.r [0, 3, 7])))) (.r [0, 3, 7])))))) (.s (.s (.r [0, 3, 10]) (.bj [] [0, 3] (.l [(10, .one (.int .i64))] [0, 3] (.s (.s (.r [0, 3, 10, 96]) (.c .z .z)) (.s (.bj [] [0, 3, 10] (.s (.r [0, 3, 10, 11]) (.s (.s (.r [0, 3, 10, 11, 12]) (.bj [(11, .one .sl)] [0, 3, 10] (.l [(11, .one .sl), (12, .one (.int .i64))] [0, 3, 10] (.s (.s (.r [0, 3, 10, 11, 12, 107]) (.c .z .z)) (.s (.b (.r [0, 3, 10, 11, 12])) (.r [0, 3, 10, 11, 12])))))) (.r [0, 3, 10])))) (.r [0, 3, 10])))))) (.s (.s (.r [0, 3, 13]) (.bj [] [0, 3] (.l [(13, .one (.int .i64))] [0, 3] (.s (.s (.r [0, 3, 13, 132]) (.c .z .z)) (.s (.bj [] [0, 3, 13] (.s (.r [0, 3, 13, 14]) (.s (.s (.r [0, 3, 13, 14, 15]) (.bj [(14, .one .sl)] [0, 3, 13] (.l [(14, .one .sl), (15, .one (.int .i64))] [0, 3, 13] (.s (.s (.r [0, 3, 13, 14, 15, 143]) (.c .z .z)) (.s (.b (.r [0, 3, 13, 14, 15])) (.r [0, 3, 13, 14, 15])))))) (.r [0, 3, 13])))) (.r [0, 3, 13])))))) (.s (.r [3]) (.s (.r [2]) .z)))))))
theorem F_law3_spread_grown.eq (f94_ : Int → Int → Heap → (Int → Heap → Prop) → Prop) (f95_ : Option Addr → Option Addr → Heap → (Heap → Prop) → Prop) (y1 : Option Addr) (h : Heap) (K : Value → Heap → Prop) : F_law3_spread_grown_of f94_ f95_ y1 h (fun (r0 : Option Addr) (h : Heap) => K (.pointer r0) h) =
    den Try.prog (fn1 94 (E_law3_sign_of f94_) (fn1 95 (E_law3_spread_rest_of f95_) noFns)) Try.f63.ntmps plan63 (bodyOf Try.f63) (args0 0 [(.pointer y1 : Value)]) h ⟨fun env h => dRes Try.prog Try.f63.results.toList env h K, fun _ _ _ => False, fun env h => dRes Try.prog Try.f63.results.toList env h K⟩ := by kernel_rfl
def E_law3_spread_grown_of (f : Option Addr → Heap → (Option Addr → Heap → Prop) → Prop) : List Value → Heap → (Value → Heap → Prop) → Prop
  | [v0], h, K => dec1 .ptr v0 fun (y1 : Option Addr) =>
  f y1 h (fun (r0 : Option Addr) (h : Heap) => K (.pointer r0) h)
  | _, _, _ => False
abbrev E_law3_spread_grown := E_law3_spread_grown_of F_law3_spread_grown
theorem E_law3_spread_grown.right : IsRight Try.prog 63 E_law3_spread_grown := by
  refine isRight fun vs K w hh => ?_
  match vs, hh with
  | [v0], hh =>
    unfold E_law3_spread_grown E_law3_spread_grown_of at hh
    replace hh := dec1_sound hh; obtain ⟨y1, rfl, hh⟩ := hh
    unfold F_law3_spread_grown at hh
    exact calls_den (fn1_right ok94 E_law3_sign.right (fn1_right ok95 E_law3_spread_rest.right noFns_right)) plan63 _ w K Try.func63 (by kernel_rfl) (by kernel_rfl) (Eq.mp (F_law3_spread_grown.eq F_law3_sign F_law3_spread_rest y1 w.heap K) hh)
theorem ok63 : okFn Try.prog 63 = true := by kernel_rfl
end Go.Proofs.Ytcbelendjpnmiaa.V
namespace Go.Proofs.Ytcbelendjpnmiaa.V
open Go Go.RowKit
set_option linter.unusedVariables false
set_option maxRecDepth 100000
def F_law3_spread_others.l1 (y1 : Option Addr) (Q : Bool → Heap → Prop) (i4 : Int) (j9 : Heap → Prop) : Int → Heap → Prop :=
  wl [(4, .one (.int .i64))] (fun (next10 : Int → Heap → Prop) (k11 : Int) (h12 : Heap) =>
  nn y1 fun (a13 : Addr) =>
  ld [.sl] (a13.add 4) h12 fun (v14 : Sl) =>
  ixS 1 v14 i4 fun (a15 : Addr) =>
  ld [.sl] a15 h12 fun (v16 : Sl) =>
  brr (decide (k11 < ((v16.len : Nat) : Int)))
  (nn y1 fun (a17 : Addr) =>
  ld [.sl] (a17.add 4) h12 fun (v18 : Sl) =>
  ixS 1 v18 i4 fun (a19 : Addr) =>
  ld [.sl] a19 h12 fun (v20 : Sl) =>
  ixS 5 v20 k11 fun (a21 : Addr) =>
  ld [.int .i64, .int .u64, .int .i64, .int .i64, .int .u64] a21 h12 fun (v22 v23 v24 v25 v26 : Int) =>
  brr (!((v22 == (IntKind.i64.wrap ((-1) - i4))) && ((v23 == 0) && ((v24 == 0) && ((v25 == 0) && ((v26 == 0) && (true)))))))
  (Q false h12)
  (next10 (IntKind.i64.wrap (k11 + 1)) h12))
  (j9 h12))
def F_law3_spread_others.l2 (y1 : Option Addr) (Q : Bool → Heap → Prop) (j2 : Heap → Prop) : Int → Heap → Prop :=
  wl [(3, .one (.int .i64))] (fun (next3 : Int → Heap → Prop) (i4 : Int) (h5 : Heap) =>
  nn y1 fun (a6 : Addr) =>
  ld [.sl] (a6.add 4) h5 fun (v7 : Sl) =>
  brr (decide (i4 < ((v7.len : Nat) : Int)))
  (jn [] (fun  (h28 : Heap) =>
  next3 (IntKind.i64.wrap (i4 + 1)) h28) (fun (j8 : Heap → Prop) =>
  jn [] (fun  (h27 : Heap) =>
  j8 h27) (fun (j9 : Heap → Prop) =>
  F_law3_spread_others.l1 y1 Q i4 j9 0 h5)))
  (j2 h5))
def F_law3_spread_others.l3 (y1 : Option Addr) (Q : Bool → Heap → Prop) (i32 : Int) (j37 : Heap → Prop) : Int → Heap → Prop :=
  wl [(6, .one (.int .i64))] (fun (next38 : Int → Heap → Prop) (k39 : Int) (h40 : Heap) =>
  nn y1 fun (a41 : Addr) =>
  ld [.sl] (a41.add 5) h40 fun (v42 : Sl) =>
  ixS 1 v42 i32 fun (a43 : Addr) =>
  ld [.sl] a43 h40 fun (v44 : Sl) =>
  brr (decide (k39 < ((v44.len : Nat) : Int)))
  (nn y1 fun (a45 : Addr) =>
  ld [.sl] (a45.add 5) h40 fun (v46 : Sl) =>
  ixS 1 v46 i32 fun (a47 : Addr) =>
  ld [.sl] a47 h40 fun (v48 : Sl) =>
  ixS 2 v48 k39 fun (a49 : Addr) =>
  ld [.str, .int .u64] a49 h40 fun (v50 : ByteArray) (v51 : Int) =>
  brr (!((v50.toList == (⟨#[109, 97, 114, 107]⟩ : ByteArray).toList) && ((v51 == (IntKind.u64.wrap i32)) && (true))))
  (Q false h40)
  (next38 (IntKind.i64.wrap (k39 + 1)) h40))
  (j37 h40))
def F_law3_spread_others.l4 (y1 : Option Addr) (Q : Bool → Heap → Prop) (j30 : Heap → Prop) : Int → Heap → Prop :=
  wl [(5, .one (.int .i64))] (fun (next31 : Int → Heap → Prop) (i32 : Int) (h33 : Heap) =>
  nn y1 fun (a34 : Addr) =>
  ld [.sl] (a34.add 5) h33 fun (v35 : Sl) =>
  brr (decide (i32 < ((v35.len : Nat) : Int)))
  (jn [] (fun  (h53 : Heap) =>
  next31 (IntKind.i64.wrap (i32 + 1)) h53) (fun (j36 : Heap → Prop) =>
  jn [] (fun  (h52 : Heap) =>
  j36 h52) (fun (j37 : Heap → Prop) =>
  F_law3_spread_others.l3 y1 Q i32 j37 0 h33)))
  (j30 h33))
def F_law3_spread_others.l5 (y1 : Option Addr) (Q : Bool → Heap → Prop) (i57 : Int) (j62 : Heap → Prop) : Int → Heap → Prop :=
  wl [(8, .one (.int .i64))] (fun (next63 : Int → Heap → Prop) (k64 : Int) (h65 : Heap) =>
  nn y1 fun (a66 : Addr) =>
  ld [.sl] (a66.add 6) h65 fun (v67 : Sl) =>
  ixS 1 v67 i57 fun (a68 : Addr) =>
  ld [.sl] a68 h65 fun (v69 : Sl) =>
  brr (decide (k64 < ((v69.len : Nat) : Int)))
  (nn y1 fun (a70 : Addr) =>
  ld [.sl] (a70.add 6) h65 fun (v71 : Sl) =>
  ixS 1 v71 i57 fun (a72 : Addr) =>
  ld [.sl] a72 h65 fun (v73 : Sl) =>
  ixS 4 v73 k64 fun (a74 : Addr) =>
  ld [.int .i64, .int .u64, .str, .int .u64] a74 h65 fun (v75 v76 : Int) (v77 : ByteArray) (v78 : Int) =>
  brr (!((v75 == (IntKind.i64.wrap ((-1) - i57))) && ((v76 == 0) && ((v77.toList == (⟨#[]⟩ : ByteArray).toList) && ((v78 == 0) && (true))))))
  (Q false h65)
  (next63 (IntKind.i64.wrap (k64 + 1)) h65))
  (j62 h65))
def F_law3_spread_others.l6 (y1 : Option Addr) (Q : Bool → Heap → Prop) (j55 : Heap → Prop) : Int → Heap → Prop :=
  wl [(7, .one (.int .i64))] (fun (next56 : Int → Heap → Prop) (i57 : Int) (h58 : Heap) =>
  nn y1 fun (a59 : Addr) =>
  ld [.sl] (a59.add 6) h58 fun (v60 : Sl) =>
  brr (decide (i57 < ((v60.len : Nat) : Int)))
  (jn [] (fun  (h80 : Heap) =>
  next56 (IntKind.i64.wrap (i57 + 1)) h80) (fun (j61 : Heap → Prop) =>
  jn [] (fun  (h79 : Heap) =>
  j61 h79) (fun (j62 : Heap → Prop) =>
  F_law3_spread_others.l5 y1 Q i57 j62 0 h58)))
  (j55 h58))
def F_law3_spread_others.l7 (y1 : Option Addr) (Q : Bool → Heap → Prop) (i84 : Int) (j89 : Heap → Prop) : Int → Heap → Prop :=
  wl [(10, .one (.int .i64))] (fun (next90 : Int → Heap → Prop) (k91 : Int) (h92 : Heap) =>
  nn y1 fun (a93 : Addr) =>
  ld [.sl] (a93.add 7) h92 fun (v94 : Sl) =>
  ixS 1 v94 i84 fun (a95 : Addr) =>
  ld [.sl] a95 h92 fun (v96 : Sl) =>
  brr (decide (k91 < ((v96.len : Nat) : Int)))
  (nn y1 fun (a97 : Addr) =>
  ld [.sl] (a97.add 7) h92 fun (v98 : Sl) =>
  ixS 1 v98 i84 fun (a99 : Addr) =>
  ld [.sl] a99 h92 fun (v100 : Sl) =>
  ixS 4 v100 k91 fun (a101 : Addr) =>
  ld [.int .u64, .int .i64, .int .i64, .int .u64] a101 h92 fun (v102 v103 v104 v105 : Int) =>
  brr (!((v102 == 0) && ((v103 == 0) && ((v104 == (IntKind.i64.wrap ((-1) - i84))) && ((v105 == 0) && (true))))))
  (Q false h92)
  (next90 (IntKind.i64.wrap (k91 + 1)) h92))
  (j89 h92))
def F_law3_spread_others.l8 (y1 : Option Addr) (Q : Bool → Heap → Prop) (j82 : Heap → Prop) : Int → Heap → Prop :=
  wl [(9, .one (.int .i64))] (fun (next83 : Int → Heap → Prop) (i84 : Int) (h85 : Heap) =>
  nn y1 fun (a86 : Addr) =>
  ld [.sl] (a86.add 7) h85 fun (v87 : Sl) =>
  brr (decide (i84 < ((v87.len : Nat) : Int)))
  (jn [] (fun  (h107 : Heap) =>
  next83 (IntKind.i64.wrap (i84 + 1)) h107) (fun (j88 : Heap → Prop) =>
  jn [] (fun  (h106 : Heap) =>
  j88 h106) (fun (j89 : Heap → Prop) =>
  F_law3_spread_others.l7 y1 Q i84 j89 0 h85)))
  (j82 h85))
def F_law3_spread_others_of  (y1 : Option Addr) (h : Heap) (Q : Bool → Heap → Prop) : Prop :=
  jn [] (fun  (h29 : Heap) =>
  jn [] (fun  (h54 : Heap) =>
  jn [] (fun  (h81 : Heap) =>
  jn [] (fun  (h108 : Heap) =>
  Q true h108) (fun (j82 : Heap → Prop) =>
  F_law3_spread_others.l8 y1 Q j82 0 h81)) (fun (j55 : Heap → Prop) =>
  F_law3_spread_others.l6 y1 Q j55 0 h54)) (fun (j30 : Heap → Prop) =>
  F_law3_spread_others.l4 y1 Q j30 0 h29)) (fun (j2 : Heap → Prop) =>
  F_law3_spread_others.l2 y1 Q j2 0 h)
def F_law3_spread_others (y1 : Option Addr) (h : Heap) (Q : Bool → Heap → Prop) : Prop := F_law3_spread_others_of  y1 h Q
def plan96 : Plan := .s (.r [0]) (.s (.s (.r [0, 3]) (.bj [] [0] (.l [(3, .one (.int .i64))] [0] (.s (.s (.r [0, 3, 17]) (.c .z .z)) (.s (.bj [] [0, 3] (.s (.r [0, 3, 4]) (.bj [] [0, 3] (.l [(4, .one (.int .i64))] [0, 3] (.s (.s (.r [0, 3, 4, 29]) (.c .z .z)) (.s (.b (.s (.r [0, 3, 4, 45]) (.c (.s (.r [2]) .z) .z))) (.r [0, 3, 4]))))))) (.r [0, 3])))))) (.s (.s (.r [0, 5]) (.bj [] [0] (.l [(5, .one (.int .i64))] [0] (.s (.s (.r [0, 5, 52]) (.c .z .z)) (.s (.bj [] [0, 5] (.s (.r [0, 5, 6]) (.bj [] [0, 5] (.l [(6, .one (.int .i64))] [0, 5] (.s (.s (.r [0, 5, 6, 64]) (.c .z .z)) (.s (.b (.s (.r [0, 5, 6, 80]) (.c (.s (.r [2]) .z) .z))) (.r [0, 5, 6]))))))) (.r [0, 5])))))) (.s (.s (.r [0, 7]) (.bj [] [0] (.l [(7, .one (.int .i64))] [0] (.s (.s (.r [0, 7, 87]) (.c .z .z)) (.s (.bj [] [0, 7] (.s (.r [0, 7, 8]) (.bj [] [0, 7] (.l [(8, .one (.int .i64))] [0, 7] (.s (.s (.r [0, 7, 8, 99]) (.c .z .z)) (.s (.b (.s (.r [0, 7, 8, 115]) (.c (.s (.r [2]) .z) .z))) (.r [0, 7, 8]))))))) (.r [0, 7])))))) (.s (.s (.r [0, 9]) (.bj [] [] (.l [(9, .one (.int .i64))] [0] (.s (.s (.r [0, 9, 122]) (.c .z .z)) (.s (.bj [] [0, 9] (.s (.r [0, 9, 10]) (.bj [] [0, 9] (.l [(10, .one (.int .i64))] [0, 9] (.s (.s (.r [0, 9, 10, 134]) (.c .z .z)) (.s (.b (.s (.r [0, 9, 10, 150]) (.c (.s (.r [2]) .z) .z))) (.r [0, 9, 10]))))))) (.r [0, 9])))))) (.s (.r [2]) .z)))))
theorem F_law3_spread_others.eq  (y1 : Option Addr) (h : Heap) (K : Value → Heap → Prop) : F_law3_spread_others_of  y1 h (fun (r0 : Bool) (h : Heap) => K (.bool r0) h) =
    den Try.prog noFns Try.f96.ntmps plan96 (bodyOf Try.f96) (args0 0 [(.pointer y1 : Value)]) h ⟨fun env h => dRes Try.prog Try.f96.results.toList env h K, fun _ _ _ => False, fun env h => dRes Try.prog Try.f96.results.toList env h K⟩ := by kernel_rfl
def E_law3_spread_others_of (f : Option Addr → Heap → (Bool → Heap → Prop) → Prop) : List Value → Heap → (Value → Heap → Prop) → Prop
  | [v0], h, K => dec1 .ptr v0 fun (y1 : Option Addr) =>
  f y1 h (fun (r0 : Bool) (h : Heap) => K (.bool r0) h)
  | _, _, _ => False
abbrev E_law3_spread_others := E_law3_spread_others_of F_law3_spread_others
theorem E_law3_spread_others.right : IsRight Try.prog 96 E_law3_spread_others := by
  refine isRight fun vs K w hh => ?_
  match vs, hh with
  | [v0], hh =>
    unfold E_law3_spread_others E_law3_spread_others_of at hh
    replace hh := dec1_sound hh; obtain ⟨y1, rfl, hh⟩ := hh
    unfold F_law3_spread_others at hh
    exact calls_den noFns_right plan96 _ w K Try.func96 (by kernel_rfl) (by kernel_rfl) (Eq.mp (F_law3_spread_others.eq  y1 w.heap K) hh)
theorem ok96 : okFn Try.prog 96 = true := by kernel_rfl
end Go.Proofs.Ytcbelendjpnmiaa.V
