import Derived.Test.YthiginhigfieiaaGreatDoorZMessageTurned2
import Derived.Test.YthiginhigfieiaaGreatDoorProg
/- What the fields' function values write and read. -/
namespace Go.Proofs.YthiginhigfieiaaGreatDoor.V
open Go Go.RowKit
set_option linter.unusedVariables false
set_option linter.unusedSimpArgs false
section
variable {h0 h : Heap} {L : List Res} {b w : Nat} {m : Mg} {T : Bxs}
theorem Sat.s2bM {T : Nat} {bs : ByteArray} {xs : List UInt8} {K : Sl → Heap → Prop} (O : Sat h0 h L) (hb : bs = ⟨xs.toArray⟩) (k : ∀ s h', Sat h0 h' (buf 1 u8 s xs :: L) → K s h') : V.s2b T bs h K := by
  subst hb
  intro c hc
  have hs : (⟨xs.toArray⟩ : ByteArray).size = xs.length := rfl
  rw [hs] at hc ⊢
  have fl : ∀ l : List UInt8, (l.map fun b => Value.int .u8 (b.toNat : Int)) = l.flatMap u8 := by
    intro l
    induction l with
    | nil => rfl
    | cons x l ih => rw [List.map_cons, List.flatMap_cons, ih]; rfl
  have e : (⟨xs.toArray⟩ : ByteArray).data.toList = xs := rfl
  rw [e, fl]
  have hl := flatMap_len u8_len xs
  have O' := O.push (xs.flatMap u8 ++ List.replicate (c - xs.length) (Value.int .u8 0)) T (c, c + 1) (.inr (by rw [List.length_append, hl, List.length_replicate]; omega))
  have O2 := (O'.own_buf (k := c - xs.length) (sz := 1) (by simp)).bufsI
  rw [show xs.length + (c - xs.length) = c by omega] at O2
  exact k _ _ O2
def Sees (h0 : Heap) (L : List Res) (b : Nat) (m : Mg) (T : Bxs) : Prop := Stays h0 L fun h => MsgAt h b m ∧ Bytes h m.v m.b ∧ Bx h T
theorem F_message_number_3.is {p x : Nat} {l : List UInt8} {Q : Heap → Prop} (hp : p < 18) (hc : pc p = 0) (hm : mayB p m = true) (S : Sees h0 L b m T) (e1 : (x, [Kd.enc .fn (atV p)]) ∈ T) (hl : l.length + 10 ≤ (140737488355328 : Nat)) (O : Sat h0 h (wrR w l :: L)) (k : ∀ h', Sat h0 h' (wrR w (l ++ bytP p m) :: L) → Q h') : F_message_number_3 (some (pt w 0)) (some (pt b 0)) (pt x 0) h Q := by
  rw [F_message_number_3.eq_1, F_message_number_3_of.eq_1]
  obtain ⟨C, _, B⟩ := S h O.drop
  refine ld_are (B _ e1) (ldL_c (ldL_n ?_))
  refine at_num hp hc ⟨rfl, rfl, rfl, rfl, rfl, rfl, rfl, rfl, rfl⟩ ?_
  simp only [nn_some, pt_add, Nat.zero_add, Nat.add_zero, Nat.reduceAdd, Nat.reduceMul, Int.toNat_zero, Int.toNat_one, Nat.zero_mul, Nat.one_mul]
  refine ld_u hp hc C.1 ?_
  have h2 : pk p = 0 := by rcases (cas hp hc).1 rfl with rfl | rfl | rfl | rfl | rfl | rfl | rfl | rfl | rfl <;> rfl
  obtain ⟨g1, g2⟩ := may_num hm (by omega)
  have g3 := pmax_le p
  have e : bytP p m = varB (pget p m).toNat := by unfold bytP; rw [if_neg (by omega), if_neg (by omega)]
  rw [e] at k
  have F := F_code_Writer_Var.is (n := (pget p m).toNat) (Q := Q) O (by omega) hl k
  rwa [show (((pget p m).toNat : Nat) : Int) = pget p m by omega] at F
theorem F_message_small_3.is {p x : Nat} {l : List UInt8} {Q : Heap → Prop} (hp : p < 18) (hc : pc p = 1) (hm : mayB p m = true) (S : Sees h0 L b m T) (e1 : (x, [Kd.enc .fn (atV p)]) ∈ T) (hl : l.length + 10 ≤ (140737488355328 : Nat)) (O : Sat h0 h (wrR w l :: L)) (k : ∀ h', Sat h0 h' (wrR w (l ++ bytP p m) :: L) → Q h') : F_message_small_3 (some (pt w 0)) (some (pt b 0)) (pt x 0) h Q := by
  rw [F_message_small_3.eq_1, F_message_small_3_of.eq_1]
  obtain ⟨C, _, B⟩ := S h O.drop
  refine ld_are (B _ e1) (ldL_c (ldL_n ?_))
  refine at_sml hp hc ⟨rfl, rfl, rfl, rfl⟩ ?_
  simp only [nn_some, pt_add, Nat.zero_add, Nat.add_zero, Nat.reduceAdd, Nat.reduceMul, Int.toNat_zero, Int.toNat_one, Nat.zero_mul, Nat.one_mul]
  refine ld_i hp hc C.1 ?_
  have h2 : pk p = 1 := by rcases (cas hp hc).2.1 rfl with rfl | rfl | rfl | rfl <;> rfl
  obtain ⟨g1, g2⟩ := may_num hm (by omega)
  have g3 := pmax_small h2
  have e : bytP p m = fixB (pget p m).toNat 1 := by unfold bytP; rw [if_neg (by omega), if_pos h2]
  rw [e] at k
  have F := F_code_Writer_U8.is (n := (pget p m).toNat) (Q := Q) O (by omega) (by omega) k
  rw [wrapu8 (x := pget p m) (by omega) (by omega)]
  rwa [show (((pget p m).toNat : Nat) : Int) = pget p m by omega] at F
theorem F_message_name_3.is {p x : Nat} {l : List UInt8} {Q : Heap → Prop} (hp : p < 18) (hc : pc p = 2) (hm : mayB p m = true) (S : Sees h0 L b m T) (e1 : (x, [Kd.enc .fn (atV p)]) ∈ T) (hl : l.length + 20000 ≤ (140737488355328 : Nat)) (O : Sat h0 h (wrR w l :: L)) (k : ∀ h', Sat h0 h' (wrR w (l ++ bytP p m) :: L) → Q h') : F_message_name_3 (some (pt w 0)) (some (pt b 0)) (pt x 0) h Q := by
  rw [F_message_name_3.eq_1, F_message_name_3_of.eq_1]
  obtain ⟨C, _, B⟩ := S h O.drop
  refine ld_are (B _ e1) (ldL_c (ldL_n ?_))
  refine at_nam hp hc ⟨rfl, rfl⟩ ?_
  simp only [nn_some, pt_add, Nat.zero_add, Nat.add_zero, Nat.reduceAdd, Nat.reduceMul, Int.toNat_zero, Int.toNat_one, Nat.zero_mul, Nat.one_mul]
  refine ld_a hp hc C.1 ?_
  have h2 : pk p = 2 ∧ pmax p = 64 := by rcases (cas hp hc).2.2.1 rfl with rfl | rfl <;> decide
  have g := may_txt hm h2.1
  have e : bytP p m = varB (ptxt p m).length ++ ptxt p m := by unfold bytP; rw [if_pos h2.1]
  rw [e] at k
  refine O.s2bM (xs := ptxt p m) (by rw [← pstr_txt hp hc]) fun s h O => ?_
  refine F_code_Writer_Bytes.is O.swap (fun h O => (O.view 0 u8_len (by simp) rfl).1) (by omega) fun h O => ?_
  exact k h O.swap.drop
theorem F_message_table_7.is {l : List UInt8} {Q : Heap → Prop} (hm : mayB 4 m = true) (S : Sees h0 L b m T) (hl : l.length + 10 ≤ (140737488355328 : Nat)) (O : Sat h0 h (wrR w l :: L)) (k : ∀ h', Sat h0 h' (wrR w (l ++ bytP 4 m) :: L) → Q h') : F_message_table_7 (some (pt w 0)) (some (pt b 0)) h Q := by
  rw [F_message_table_7.eq_1, F_message_table_7_of.eq_1]
  obtain ⟨C, _, B⟩ := S h O.drop
  simp only [nn_some, pt_add, Nat.zero_add, Nat.add_zero, Nat.reduceAdd, Nat.reduceMul, Int.toNat_zero, Int.toNat_one, Nat.zero_mul, Nat.one_mul]
  refine ldo C.1 (ldL_c (ldL_n ?_))
  obtain ⟨g1, g2⟩ := may_num hm (by decide)
  have g1 : 0 ≤ m.span := g1
  have g2 : m.span ≤ ((1025 : Nat) : Int) := g2
  have F := F_code_Writer_Var.is (n := m.span.toNat) (Q := Q) O (by omega) hl k
  rw [wrapu64 (x := m.span) (by omega) (by omega)]
  rwa [show ((m.span.toNat : Nat) : Int) = m.span by omega] at F
theorem F_message_table_26.is {l : List UInt8} {Q : Heap → Prop} (hm : mayB 17 m = true) (S : Sees h0 L b m T) (hl : l.length + 10 ≤ (140737488355328 : Nat)) (O : Sat h0 h (wrR w l :: L)) (k : ∀ h', Sat h0 h' (wrR w (l ++ bytP 17 m) :: L) → Q h') : F_message_table_26 (some (pt w 0)) (some (pt b 0)) h Q := by
  rw [F_message_table_26.eq_1, F_message_table_26_of.eq_1]
  obtain ⟨C, _, B⟩ := S h O.drop
  simp only [nn_some, pt_add, Nat.zero_add, Nat.add_zero, Nat.reduceAdd, Nat.reduceMul, Int.toNat_zero, Int.toNat_one, Nat.zero_mul, Nat.one_mul]
  refine ldo C.1 (ldL_c (ldL_n ?_))
  obtain ⟨g1, g2⟩ := may_num hm (by decide)
  have g1 : 0 ≤ m.bad := g1
  have g2 : m.bad ≤ ((307 : Nat) : Int) := g2
  have F := F_code_Writer_Var.is (n := m.bad.toNat) (Q := Q) O (by omega) hl k
  rw [wrapu64 (x := m.bad) (by omega) (by omega)]
  rwa [show ((m.bad.toNat : Nat) : Int) = m.bad by omega] at F
theorem F_message_table_12.is {l : List UInt8} {Q : Heap → Prop} (hm : mayB 6 m = true) (S : Sees h0 L b m T) (hl : l.length + 20000 ≤ (140737488355328 : Nat)) (O : Sat h0 h (wrR w l :: L)) (k : ∀ h', Sat h0 h' (wrR w (l ++ bytP 6 m) :: L) → Q h') : F_message_table_12 (some (pt w 0)) (some (pt b 0)) h Q := by
  rw [F_message_table_12.eq_1, F_message_table_12_of.eq_1]
  obtain ⟨C, _, B⟩ := S h O.drop
  simp only [nn_some, pt_add, Nat.zero_add, Nat.add_zero, Nat.reduceAdd, Nat.reduceMul, Int.toNat_zero, Int.toNat_one, Nat.zero_mul, Nat.one_mul]
  refine ldo C.1 (ldL_s (ldL_n ?_))
  have g : m.b.length ≤ 16384 := may_txt hm rfl
  exact F_code_Writer_Bytes.is O (fun h O => (S h O).2.1) (by omega) k
structure WrC (Φ : Fns) : Prop where
  table_7 : Φ 63 = E_message_table_7
  table_12 : Φ 70 = E_message_table_12
  table_26 : Φ 89 = E_message_table_26
  number_3 : Φ 124 = E_message_number_3
  small_3 : Φ 136 = E_message_small_3
  name_3 : Φ 140 = E_message_name_3
theorem pwrite_is {Φ : Fns} {p : Nat} {v1 v2 v3 v4 : Option FV} {l : List UInt8} {K : Heap → Prop} (A : WrC Φ) (hp : p < 18) (P : PrimOk T p v1 v2 v3 v4) (hm : mayB p m = true) (S : Sees h0 L b m T) (hl : l.length + 20000 ≤ (140737488355328 : Nat)) (O : Sat h0 h (wrR w l :: L)) (k : ∀ h', Sat h0 h' (wrR w (l ++ bytP p m) :: L) → K h') : dyn0 Φ (Kd.enc .fn v3) [.pointer (some (pt w 0)), .pointer (some (pt b 0))] h K := by
  have h4 : pc p < 4 := (cas hp rfl).2.2.2.2
  rcases (by omega : pc p = 0 ∨ pc p = 1 ∨ pc p = 2 ∨ pc p = 3) with hc | hc | hc | hc
  · obtain ⟨x, y, e1, e2, q1, q2, q3, q4⟩ := P.num hc
    subst q1 q2 q3 q4
    refine dyn0_of A.number_3 ?_
    refine Eq.mpr (E_message_number_3.at ..) ?_
    exact F_message_number_3.is hp hc hm S e1 (by omega) O fun h O => ⟨rfl, k h O⟩
  · obtain ⟨x, y, e1, e2, q1, q2, q3, q4⟩ := P.sml hc
    subst q1 q2 q3 q4
    refine dyn0_of A.small_3 ?_
    refine Eq.mpr (E_message_small_3.at ..) ?_
    exact F_message_small_3.is hp hc hm S e1 (by omega) O fun h O => ⟨rfl, k h O⟩
  · obtain ⟨x, e1, q1, q2, q3, q4⟩ := P.nam hc
    subst q1 q2 q3 q4
    refine dyn0_of A.name_3 ?_
    refine Eq.mpr (E_message_name_3.at ..) ?_
    exact F_message_name_3.is hp hc hm S e1 (by omega) O fun h O => ⟨rfl, k h O⟩
  · rcases (cas hp hc).2.2.2.1 rfl with rfl | rfl | rfl
    · obtain ⟨q1, q2, q3, q4⟩ := P.c4 rfl
      subst q1 q2 q3 q4
      refine dyn0_of A.table_7 ?_
      refine Eq.mpr (E_message_table_7.at ..) ?_
      exact F_message_table_7.is hm S (by omega) O fun h O => ⟨rfl, k h O⟩
    · obtain ⟨q1, q2, q3, q4⟩ := P.c6 rfl
      subst q1 q2 q3 q4
      refine dyn0_of A.table_12 ?_
      refine Eq.mpr (E_message_table_12.at ..) ?_
      exact F_message_table_12.is hm S (by omega) O fun h O => ⟨rfl, k h O⟩
    · obtain ⟨q1, q2, q3, q4⟩ := P.c17 rfl
      subst q1 q2 q3 q4
      refine dyn0_of A.table_26 ?_
      refine Eq.mpr (E_message_table_26.at ..) ?_
      exact F_message_table_26.is hm S (by omega) O fun h O => ⟨rfl, k h O⟩
theorem bytP_le {p : Nat} (hp : p < 18) (hm : mayB p m = true) : (bytP p m).length ≤ 16394 := by
  unfold bytP
  split
  · rename_i h2
    have g := may_txt hm h2
    have g2 : pmax p ≤ 16384 := by
      have h4 : pc p < 4 := (cas hp rfl).2.2.2.2
      unfold pk at h2
      split at h2 <;> first | (exact absurd h2 (by decide)) | decide
    rw [List.length_append]
    have := (varB_le (n := (ptxt p m).length) (by omega)).1
    omega
  · rename_i h2
    split
    · rw [fixB_len]; omega
    · obtain ⟨g1, g2⟩ := may_num hm h2
      have g3 := pmax_le p
      have := (varB_le (n := (pget p m).toNat) (by omega)).1
      omega
theorem F_message_both_3.is {p q x y : Nat} {a1 a2 a3 a4 c1 c2 c3 c4 : Option FV} {l : List UInt8} {Q : Heap → Prop} (hp : p < 18) (hq : q < 18) (P : PrimOk T p a1 a2 a3 a4) (P2 : PrimOk T q c1 c2 c3 c4) (hm : mayB p m = true) (hm2 : mayB q m = true) (S : Sees h0 L b m T) (e1 : (x, [Kd.enc .fn a1, Kd.enc .fn a2, Kd.enc .fn a3, Kd.enc .fn a4]) ∈ T) (e2 : (y, [Kd.enc .fn c1, Kd.enc .fn c2, Kd.enc .fn c3, Kd.enc .fn c4]) ∈ T) (hl : l.length + 40000 ≤ (140737488355328 : Nat)) (O : Sat h0 h (wrR w l :: L)) (k : ∀ h', Sat h0 h' (wrR w (l ++ (bytP p m ++ bytP q m)) :: L) → Q h') : F_message_both_3 (some (pt w 0)) (some (pt b 0)) (pt x 0) (pt y 0) h Q := by
  rw [F_message_both_3.eq_1, F_message_both_3_of.eq_1]
  simp only [nn_some, pt_add, Nat.zero_add, Nat.add_zero, Nat.reduceAdd, Nat.reduceMul, Int.toNat_zero, Int.toNat_one, Nat.zero_mul, Nat.one_mul]
  refine (ld4 ((S h O.drop).2.2 _ e1)).2.2.1 ?_
  refine pwrite_is ⟨rfl, rfl, rfl, rfl, rfl, rfl⟩ hp P hm S (by omega) O fun h O => ?_
  refine (ld4 ((S h O.drop).2.2 _ e2)).2.2.1 ?_
  have := bytP_le hp hm
  refine pwrite_is ⟨rfl, rfl, rfl, rfl, rfl, rfl⟩ hq P2 hm2 S (by rw [List.length_append]; omega) O fun h O => ?_
  refine k h ?_
  rw [← List.append_assoc]
  exact O
structure Wr2C (Φ : Fns) : Prop where
  p : WrC Φ
  both_3 : Φ 128 = E_message_both_3
def bytF (f : Nat) (m : Mg) : List UInt8 := (fp f).flatMap fun p => bytP p m
theorem fwrite_is {Φ : Fns} {f : Nat} {v1 v2 v3 v4 : Option FV} {l : List UInt8} {K : Heap → Prop} (A : Wr2C Φ) (F : FieldOk T f v1 v2 v3 v4) (hm : mayF f m = true) (S : Sees h0 L b m T) (hl : l.length + 40000 ≤ (140737488355328 : Nat)) (O : Sat h0 h (wrR w l :: L)) (k : ∀ h', Sat h0 h' (wrR w (l ++ bytF f m) :: L) → K h') : dyn0 Φ (Kd.enc .fn v3) [.pointer (some (pt w 0)), .pointer (some (pt b 0))] h K := by
  unfold bytF at k
  unfold mayF at hm
  rcases F with ⟨p, hp, e, P⟩ | ⟨p, q, x, y, a1, a2, a3, a4, c1, c2, c3, c4, hp, hq, e, e1, e2, P, P2, q1, q2, q3, q4⟩
  · rw [e] at k hm
    refine pwrite_is A.p hp P (by simpa using hm) S (by omega) O fun h O => k h ?_
    simpa using O
  · subst q1 q2 q3 q4
    rw [e] at k hm
    have hm : mayB p m = true ∧ mayB q m = true := by simpa using hm
    refine dyn0_of A.both_3 ?_
    refine Eq.mpr (E_message_both_3.at ..) ?_
    refine F_message_both_3.is hp hq P P2 hm.1 hm.2 S e1 e2 hl O fun h O => ⟨rfl, k h ?_⟩
    simpa using O
def mdR (b : Nat) (m : Mg) : Res := ex fun s : Sl => sep (own b (mgC { m with v := s })) (buf 1 u8 s m.b)
theorem Sat.md {h0 h : Heap} {L : List Res} {b : Nat} {m : Mg} (O : Sat h0 h (mdR b m :: L)) : ∃ s : Sl, Sat h0 h (own b (mgC { m with v := s }) :: buf 1 u8 s m.b :: L) := by
  obtain ⟨s, O⟩ := O.ex
  exact ⟨s, O.sep⟩
theorem Sat.mdI {h0 h : Heap} {L : List Res} {b : Nat} {m : Mg} {s : Sl} (O : Sat h0 h (own b (mgC { m with v := s }) :: buf 1 u8 s m.b :: L)) : Sat h0 h (mdR b m :: L) := O.sepI.exI s
theorem pset_put {p : Nat} {n : Int} {s : Sl} (hp : p < 18) : (pc p = 0 → V.put (mgC { m with v := s }) (p + 4) [.int .u64 n] = mgC { pset p n [] m with v := s } ∧ (pset p n [] m).b = m.b) ∧ ((pc p = 1 ∨ p = 4 ∨ p = 17) → V.put (mgC { m with v := s }) (p + 4) [.int .i64 n] = mgC { pset p n [] m with v := s } ∧ (pset p n [] m).b = m.b) := by
  refine ⟨fun hc => ?_, fun hc => ?_⟩
  · rcases (cas hp hc).1 rfl with rfl | rfl | rfl | rfl | rfl | rfl | rfl | rfl | rfl <;> exact ⟨rfl, rfl⟩
  · rcases hc with hc | rfl | rfl
    · rcases (cas hp hc).2.1 rfl with rfl | rfl | rfl | rfl <;> exact ⟨rfl, rfl⟩
    · exact ⟨rfl, rfl⟩
    · exact ⟨rfl, rfl⟩
theorem pset_puta {p : Nat} {l : List UInt8} {s : Sl} (hp : p < 18) (hc : pc p = 2) : V.put (mgC { m with v := s }) (p + 4) [.string ⟨l.toArray⟩] = mgC { pset p 0 l m with v := s } ∧ (pset p 0 l m).b = m.b := by
  rcases (cas hp hc).2.2.1 rfl with rfl | rfl <;> exact ⟨rfl, rfl⟩
theorem mgC_le {p : Nat} (hp : p < 18) {vs : List Value} (h1 : vs.length = 1) (m : Mg) : p + 4 + vs.length ≤ (mgC m).length := by
  rw [mgC_len]; omega
theorem Sat.setU {p : Nat} {n : Int} {K : Heap → Prop} (hp : p < 18) (hc : pc p = 0) (O : Sat h0 h (mdR b m :: L)) (k : ∀ h', Sat h0 h' (mdR b (pset p n [] m) :: L) → K h') : V.st (pt b (p + 4)) [.int .u64 n] h K := by
  obtain ⟨s, O⟩ := O.md
  refine O.st 0 rfl (mgC_le hp rfl _) rfl fun h O => k h ?_
  dsimp only [List.set] at O
  obtain ⟨e1, e2⟩ := (pset_put (m := m) (n := n) (s := s) hp).1 hc
  rw [e1, ← e2] at O
  exact O.mdI
theorem Sat.setI {p : Nat} {n : Int} {K : Heap → Prop} (hp : p < 18) (hc : pc p = 1 ∨ p = 4 ∨ p = 17) (O : Sat h0 h (mdR b m :: L)) (k : ∀ h', Sat h0 h' (mdR b (pset p n [] m) :: L) → K h') : V.st (pt b (p + 4)) [.int .i64 n] h K := by
  obtain ⟨s, O⟩ := O.md
  refine O.st 0 rfl (mgC_le hp rfl _) rfl fun h O => k h ?_
  dsimp only [List.set] at O
  obtain ⟨e1, e2⟩ := (pset_put (m := m) (n := n) (s := s) hp).2 hc
  rw [e1, ← e2] at O
  exact O.mdI
theorem Sat.setA {p : Nat} {l : List UInt8} {K : Heap → Prop} (hp : p < 18) (hc : pc p = 2) (O : Sat h0 h (mdR b m :: L)) (k : ∀ h', Sat h0 h' (mdR b (pset p 0 l m) :: L) → K h') : V.st (pt b (p + 4)) [.string ⟨l.toArray⟩] h K := by
  obtain ⟨s, O⟩ := O.md
  refine O.st 0 rfl (mgC_le hp rfl _) rfl fun h O => k h ?_
  dsimp only [List.set] at O
  obtain ⟨e1, e2⟩ := pset_puta (m := m) (l := l) (s := s) hp hc
  rw [e1, ← e2] at O
  exact O.mdI
theorem Sat.setV {l : List UInt8} {s : Sl} {K : Heap → Prop} (O : Sat h0 h (buf 1 u8 s l :: mdR b m :: L)) (k : ∀ h', Sat h0 h' (mdR b (pset 6 0 l m) :: L) → K h') : V.st (pt b 10) [.slice s.ptr s.len s.cap] h K := by
  obtain ⟨s0, O⟩ := O.swap.md
  have O := O.sel [0, 2] 3 rfl (Nat.le_add_left _ _)
  simp only [selT, List.map, nth, List.drop, List.cons_append, List.nil_append] at O
  refine O.st 0 rfl (mgC_le (p := 6) (by decide) rfl _) rfl fun h O => k h ?_
  dsimp only [List.set] at O
  have O : Sat h0 h (own b (mgC { pset 6 0 l m with v := s }) :: buf 1 u8 s (pset 6 0 l m).b :: L) := O
  exact O.mdI
theorem at_of {p : Nat} (hp : p < 18) {x : RS × Mg} {lim : Nat → Nat} : (pc p = 0 → rdP1 lim x p = ((x.1.varP (lim p)).1, pset p (((x.1.varP (lim p)).2 : Nat) : Int) [] x.2)) ∧ (pc p = 1 → rdP1 lim x p = (x.1.next 1, pset p ((beN (x.1.nextB 1) : Nat) : Int) [] x.2)) ∧ (pc p = 2 → rdP1 lim x p = ((x.1.bytesP (lim p)).1, pset p 0 (x.1.bytesP (lim p)).2 x.2)) := by
  refine ⟨fun hc => ?_, fun hc => ?_, fun hc => ?_⟩
  · rcases (cas hp hc).1 rfl with rfl | rfl | rfl | rfl | rfl | rfl | rfl | rfl | rfl <;> rfl
  · rcases (cas hp hc).2.1 rfl with rfl | rfl | rfl | rfl <;> rfl
  · rcases (cas hp hc).2.2.1 rfl with rfl | rfl <;> rfl
variable {r : Nat} {x : RS}
theorem F_message_number_4.is {p y z : Nat} {Q : Heap → Prop} (hp : p < 18) (hc : pc p = 0) (S : Stays h0 L fun h => Bx h T) (e1 : (y, [Kd.enc .fn (atV p)]) ∈ T) (e2 : (z, [.int .u64 (pmax p : Nat)]) ∈ T) (o : x.Ok) (O : Sat h0 h (rdR r x :: mdR b m :: L)) (k : ∀ h', Sat h0 h' (rdR r (rdP1 pmax (x, m) p).1 :: mdR b (rdP1 pmax (x, m) p).2 :: L) → Q h') : F_message_number_4 (some (pt r 0)) (some (pt b 0)) (pt z 0) (pt y 0) h Q := by
  rw [F_message_number_4.eq_1, F_message_number_4_of.eq_1]
  have B := S h O.drop.drop
  refine ld_are (B _ e1) (ldL_c (ldL_n ?_))
  refine ld_are (B _ e2) (ldL_c (ldL_n ?_))
  refine at_num hp hc ⟨rfl, rfl, rfl, rfl, rfl, rfl, rfl, rfl, rfl⟩ ⟨B _ e2, ?_⟩
  refine F_code_Reader_Var.is (most := pmax p) o O fun h O => ?_
  simp only [nn_some, pt_add, Nat.zero_add, Nat.add_zero, Nat.reduceAdd, Nat.reduceMul, Int.toNat_zero, Int.toNat_one, Nat.zero_mul, Nat.one_mul]
  refine O.swap.setU hp hc fun h O => k h ?_
  rw [(at_of hp).1 hc]
  exact O.swap
theorem F_message_small_4.is {p y : Nat} {Q : Heap → Prop} (hp : p < 18) (hc : pc p = 1) (S : Stays h0 L fun h => Bx h T) (e1 : (y, [Kd.enc .fn (atV p)]) ∈ T) (o : x.Ok) (O : Sat h0 h (rdR r x :: mdR b m :: L)) (k : ∀ h', Sat h0 h' (rdR r (rdP1 pmax (x, m) p).1 :: mdR b (rdP1 pmax (x, m) p).2 :: L) → Q h') : F_message_small_4 (some (pt r 0)) (some (pt b 0)) (pt y 0) h Q := by
  rw [F_message_small_4.eq_1, F_message_small_4_of.eq_1]
  have B := S h O.drop.drop
  refine ld_are (B _ e1) (ldL_c (ldL_n ?_))
  refine at_sml hp hc ⟨rfl, rfl, rfl, rfl⟩ ?_
  refine F_code_Reader_U8.is o O fun h O => ?_
  simp only [nn_some, pt_add, Nat.zero_add, Nat.add_zero, Nat.reduceAdd, Nat.reduceMul, Int.toNat_zero, Int.toNat_one, Nat.zero_mul, Nat.one_mul]
  have hb := beN_lt (x.nextB 1)
  have hb1 : 256 ^ (x.nextB 1).length ≤ 256 ^ 1 := Nat.pow_le_pow_right (by decide) (nextB_len x 1)
  rw [wrap64 (by omega) (by omega)]
  refine O.swap.setI hp (.inl hc) fun h O => k h ?_
  rw [(at_of hp).2.1 hc]
  exact O.swap
theorem F_message_name_4.is {p y : Nat} {Q : Heap → Prop} (hp : p < 18) (hc : pc p = 2) (S : Stays h0 L fun h => Bx h T) (e1 : (y, [Kd.enc .fn (atV p)]) ∈ T) (o : x.Ok) (O : Sat h0 h (rdR r x :: mdR b m :: L)) (k : ∀ h', Sat h0 h' (rdR r (rdP1 pmax (x, m) p).1 :: mdR b (rdP1 pmax (x, m) p).2 :: L) → Q h') : F_message_name_4 (some (pt r 0)) (some (pt b 0)) (pt y 0) h Q := by
  rw [F_message_name_4.eq_1, F_message_name_4_of.eq_1]
  have B := S h O.drop.drop
  refine ld_are (B _ e1) (ldL_c (ldL_n ?_))
  refine at_nam hp hc ⟨rfl, rfl⟩ ?_
  refine F_code_Reader_Bytes.is (most := 64) o (by omega) O fun s h O => ?_
  refine b2s_view (O.view 0 u8_len (by simp) rfl).1 ?_
  simp only [nn_some, pt_add, Nat.zero_add, Nat.add_zero, Nat.reduceAdd, Nat.reduceMul, Int.toNat_zero, Int.toNat_one, Nat.zero_mul, Nat.one_mul]
  refine O.drop.swap.setA hp hc fun h O => k h ?_
  have h2 : pmax p = 64 := by rcases (cas hp hc).2.2.1 rfl with rfl | rfl <;> rfl
  rw [(at_of hp).2.2 hc, h2]
  exact O.swap
theorem F_message_table_8.is {Q : Heap → Prop} (o : x.Ok) (O : Sat h0 h (rdR r x :: mdR b m :: L)) (k : ∀ h', Sat h0 h' (rdR r (rdP1 pmax (x, m) 4).1 :: mdR b (rdP1 pmax (x, m) 4).2 :: L) → Q h') : F_message_table_8 (some (pt r 0)) (some (pt b 0)) h Q := by
  rw [F_message_table_8.eq_1, F_message_table_8_of.eq_1]
  refine F_code_Reader_Var.is (most := 1025) o O fun h O => ?_
  simp only [nn_some, pt_add, Nat.zero_add, Nat.add_zero, Nat.reduceAdd, Nat.reduceMul, Int.toNat_zero, Int.toNat_one, Nat.zero_mul, Nat.one_mul]
  refine O.swap.setI (p := 4) (by decide) (.inr (.inl rfl)) fun h O => k h ?_
  exact O.swap
theorem F_message_table_27.is {Q : Heap → Prop} (o : x.Ok) (O : Sat h0 h (rdR r x :: mdR b m :: L)) (k : ∀ h', Sat h0 h' (rdR r (rdP1 pmax (x, m) 17).1 :: mdR b (rdP1 pmax (x, m) 17).2 :: L) → Q h') : F_message_table_27 (some (pt r 0)) (some (pt b 0)) h Q := by
  rw [F_message_table_27.eq_1, F_message_table_27_of.eq_1]
  refine F_code_Reader_Var.is (most := 307) o O fun h O => ?_
  simp only [nn_some, pt_add, Nat.zero_add, Nat.add_zero, Nat.reduceAdd, Nat.reduceMul, Int.toNat_zero, Int.toNat_one, Nat.zero_mul, Nat.one_mul]
  refine O.swap.setI (p := 17) (by decide) (.inr (.inr rfl)) fun h O => k h ?_
  exact O.swap
theorem F_bytes_Clone.isM {a : Sl} {xs : List UInt8} {Q : Sl → Heap → Prop} (O : Sat h0 h L) (V1 : Stays h0 L fun h => Bytes h a xs) (hl : xs.length ≤ (140737488355325 : Nat)) (k : ∀ s h', Sat h0 h' (buf 1 u8 s xs :: L) → Q s h') : F_bytes_Clone a h Q := by
  rw [F_bytes_Clone.eq_1, F_bytes_Clone_of.eq_1]
  have hn := (V1 h O).len
  cases e : a.ptr with
  | none =>
    refine brr_tt rfl ?_
    have hx : xs = [] := by
      cases xs with
      | nil => rfl
      | cons x xs =>
        obtain ⟨p, cs, h1, _⟩ := (V1 h O).2 0 x rfl
        rw [e] at h1; cases h1
    subst hx
    exact k _ _ O.nil_buf
  | some p =>
    refine brr_ff rfl ?_
    refine O.al fun b h O => ?_
    have O : Sat h0 h (own b (([] : List UInt8).flatMap u8 ++ []) :: L) := O
    have O := O.own_buf (k := 0) (sz := 1) (by simp)
    have O : Sat h0 h (buf 1 u8 ⟨some (pt b 0), 0, 0⟩ [] :: L) := O.bufsI
    have V2 := V1 h O.drop
    rw [← e]
    refine O.app_buf u8_len u8_one rfl (ys := xs) hn ?_ (by simp; omega) fun s h O _ => ?_
    · have := V2.rd u8_len
      simpa using this
    · exact k _ _ (by rwa [List.nil_append] at O)
theorem F_message_table_13.is {Q : Heap → Prop} (o : x.Ok) (hx : x.b.length ≤ (140737488355325 : Nat)) (O : Sat h0 h (rdR r x :: mdR b m :: L)) (k : ∀ h', Sat h0 h' (rdR r (rdP1 pmax (x, m) 6).1 :: mdR b (rdP1 pmax (x, m) 6).2 :: L) → Q h') : F_message_table_13 (some (pt r 0)) (some (pt b 0)) h Q := by
  rw [F_message_table_13.eq_1, F_message_table_13_of.eq_1]
  refine F_code_Reader_Bytes.is (most := 16384) o (by omega) O fun s h O => ?_
  have hle := RS.bytesP_le (r := x) (n := 16384)
  refine F_bytes_Clone.isM O (fun h O => (O.view 0 u8_len (by simp) rfl).1) (by omega) fun s h O => ?_
  simp only [nn_some, pt_add, Nat.zero_add, Nat.add_zero, Nat.reduceAdd, Nat.reduceMul, Int.toNat_zero, Int.toNat_one, Nat.zero_mul, Nat.one_mul]
  have O := O.sel [0, 3, 2] 4 rfl (Nat.le_add_left _ _)
  simp only [selT, List.map, nth, List.drop, List.cons_append, List.nil_append] at O
  refine O.setV fun h O => k h ?_
  exact O.swap
structure RdC (Φ : Fns) : Prop where
  table_8 : Φ 65 = E_message_table_8
  table_13 : Φ 72 = E_message_table_13
  table_27 : Φ 90 = E_message_table_27
  number_4 : Φ 125 = E_message_number_4
  small_4 : Φ 137 = E_message_small_4
  name_4 : Φ 141 = E_message_name_4
theorem pread_is {Φ : Fns} {p : Nat} {v1 v2 v3 v4 : Option FV} {K : Heap → Prop} (A : RdC Φ) (hp : p < 18) (P : PrimOk T p v1 v2 v3 v4) (S : Stays h0 L fun h => Bx h T) (o : x.Ok) (hx : x.b.length ≤ (140737488355325 : Nat)) (O : Sat h0 h (rdR r x :: mdR b m :: L)) (k : ∀ h', Sat h0 h' (rdR r (rdP1 pmax (x, m) p).1 :: mdR b (rdP1 pmax (x, m) p).2 :: L) → K h') : dyn0 Φ (Kd.enc .fn v4) [.pointer (some (pt r 0)), .pointer (some (pt b 0))] h K := by
  have h4 : pc p < 4 := (cas hp rfl).2.2.2.2
  rcases (by omega : pc p = 0 ∨ pc p = 1 ∨ pc p = 2 ∨ pc p = 3) with hc | hc | hc | hc
  · obtain ⟨y, z, e1, e2, q1, q2, q3, q4⟩ := P.num hc
    subst q1 q2 q3 q4
    refine dyn0_of A.number_4 ?_
    refine Eq.mpr (E_message_number_4.at ..) ?_
    exact F_message_number_4.is hp hc S e1 e2 o O fun h O => ⟨rfl, k h O⟩
  · obtain ⟨y, z, e1, e2, q1, q2, q3, q4⟩ := P.sml hc
    subst q1 q2 q3 q4
    refine dyn0_of A.small_4 ?_
    refine Eq.mpr (E_message_small_4.at ..) ?_
    exact F_message_small_4.is hp hc S e1 o O fun h O => ⟨rfl, k h O⟩
  · obtain ⟨y, e1, q1, q2, q3, q4⟩ := P.nam hc
    subst q1 q2 q3 q4
    refine dyn0_of A.name_4 ?_
    refine Eq.mpr (E_message_name_4.at ..) ?_
    exact F_message_name_4.is hp hc S e1 o O fun h O => ⟨rfl, k h O⟩
  · rcases (cas hp hc).2.2.2.1 rfl with rfl | rfl | rfl
    · obtain ⟨q1, q2, q3, q4⟩ := P.c4 rfl
      subst q1 q2 q3 q4
      refine dyn0_of A.table_8 ?_
      refine Eq.mpr (E_message_table_8.at ..) ?_
      exact F_message_table_8.is o O fun h O => ⟨rfl, k h O⟩
    · obtain ⟨q1, q2, q3, q4⟩ := P.c6 rfl
      subst q1 q2 q3 q4
      refine dyn0_of A.table_13 ?_
      refine Eq.mpr (E_message_table_13.at ..) ?_
      exact F_message_table_13.is o hx O fun h O => ⟨rfl, k h O⟩
    · obtain ⟨q1, q2, q3, q4⟩ := P.c17 rfl
      subst q1 q2 q3 q4
      refine dyn0_of A.table_27 ?_
      refine Eq.mpr (E_message_table_27.at ..) ?_
      exact F_message_table_27.is o O fun h O => ⟨rfl, k h O⟩
theorem F_message_both_4.is {p q y z : Nat} {a1 a2 a3 a4 c1 c2 c3 c4 : Option FV} {Q : Heap → Prop} (hp : p < 18) (hq : q < 18) (P : PrimOk T p a1 a2 a3 a4) (P2 : PrimOk T q c1 c2 c3 c4) (S : Stays h0 L fun h => Bx h T) (e1 : (y, [Kd.enc .fn a1, Kd.enc .fn a2, Kd.enc .fn a3, Kd.enc .fn a4]) ∈ T) (e2 : (z, [Kd.enc .fn c1, Kd.enc .fn c2, Kd.enc .fn c3, Kd.enc .fn c4]) ∈ T) (o : x.Ok) (hx : x.b.length ≤ (140737488355325 : Nat)) (O : Sat h0 h (rdR r x :: mdR b m :: L)) (k : ∀ h', Sat h0 h' (rdR r (rdP1 pmax (rdP1 pmax (x, m) p) q).1 :: mdR b (rdP1 pmax (rdP1 pmax (x, m) p) q).2 :: L) → Q h') : F_message_both_4 (some (pt r 0)) (some (pt b 0)) (pt y 0) (pt z 0) h Q := by
  rw [F_message_both_4.eq_1, F_message_both_4_of.eq_1]
  simp only [nn_some, pt_add, Nat.zero_add, Nat.add_zero, Nat.reduceAdd, Nat.reduceMul, Int.toNat_zero, Int.toNat_one, Nat.zero_mul, Nat.one_mul]
  refine (ld4 (S h O.drop.drop _ e1)).2.2.2 ?_
  refine pread_is ⟨rfl, rfl, rfl, rfl, rfl, rfl⟩ hp P S o hx O fun h O => ?_
  refine (ld4 (S h O.drop.drop _ e2)).2.2.2 ?_
  have o2 := one_ok (lim := pmax) (x := (x, m)) (p := p) o
  exact pread_is ⟨rfl, rfl, rfl, rfl, rfl, rfl⟩ hq P2 S o2.1 (by rw [o2.2]; exact hx) O k
structure Rd2C (Φ : Fns) : Prop where
  p : RdC Φ
  both_4 : Φ 129 = E_message_both_4
theorem fread_is {Φ : Fns} {f : Nat} {v1 v2 v3 v4 : Option FV} {K : Heap → Prop} (A : Rd2C Φ) (F : FieldOk T f v1 v2 v3 v4) (S : Stays h0 L fun h => Bx h T) (o : x.Ok) (hx : x.b.length ≤ (140737488355325 : Nat)) (O : Sat h0 h (rdR r x :: mdR b m :: L)) (k : ∀ h', Sat h0 h' (rdR r ((fp f).foldl (rdP1 pmax) (x, m)).1 :: mdR b ((fp f).foldl (rdP1 pmax) (x, m)).2 :: L) → K h') : dyn0 Φ (Kd.enc .fn v4) [.pointer (some (pt r 0)), .pointer (some (pt b 0))] h K := by
  rcases F with ⟨p, hp, e, P⟩ | ⟨p, q, y, z, a1, a2, a3, a4, c1, c2, c3, c4, hp, hq, e, e1, e2, P, P2, q1, q2, q3, q4⟩
  · rw [e] at k
    exact pread_is A.p hp P S o hx O k
  · subst q1 q2 q3 q4
    rw [e] at k
    refine dyn0_of A.both_4 ?_
    refine Eq.mpr (E_message_both_4.at ..) ?_
    exact F_message_both_4.is hp hq P P2 S e1 e2 o hx O fun h O => ⟨rfl, k h O⟩
end
end Go.Proofs.YthiginhigfieiaaGreatDoor.V
/- The table of the fields; what speaks against a message. -/
namespace Go.Proofs.YthiginhigfieiaaGreatDoor.V
open Go Go.RowKit
set_option linter.unusedVariables false
set_option linter.unusedSimpArgs false
section
variable {h0 h : Heap} {L : List Res} {b : Nat} {m : Mg} {T : Bxs}
theorem dec1_fn {f : Option FV} {K : Option FV → Prop} (k : K f) : dec1 .fn (Kd.enc .fn f) K := by
  rw [dec1_enc]
  exact k
theorem oneV_fn (f : Option FV) : oneV (Kd.enc .fn f) = true := by cases f <;> rfl
theorem F_message_number.is {at_ : Option FV} {mx : Int} {Q : Option FV → Option FV → Option FV → Option FV → Heap → Prop} (O : Sat h0 h L) (k : ∀ a m h', Sat h0 h' (own a [Kd.enc .fn at_] :: own m [.int .u64 mx] :: L) → Q (fv 122 [pv a, pv m]) (fv 123 [pv a]) (fv 124 [pv a]) (fv 125 [pv m, pv a]) h') : F_message_number at_ mx h Q := by
  rw [F_message_number.eq_1, F_message_number_of.eq_1]
  refine boxF_of ?_
  refine O.al fun a h O => ?_
  refine O.al fun m h O => ?_
  refine O.al fun x h O => ?_
  refine O.st 0 rfl (by simp) rfl fun h O => ?_
  dsimp only [V.put, List.set] at O
  refine O.ld 0 rfl ⟨fv 122 [pv a, pv m], rfl, fv 123 [pv a], rfl, fv 124 [pv a], rfl, fv 125 [pv m, pv a], rfl, ldL_n ?_⟩
  exact k a m h O.drop.swap
theorem F_message_small.is {at_ : Option FV} {mx : Int} {Q : Option FV → Option FV → Option FV → Option FV → Heap → Prop} (O : Sat h0 h L) (k : ∀ a m h', Sat h0 h' (own a [Kd.enc .fn at_] :: own m [.int .i64 mx] :: L) → Q (fv 134 [pv a, pv m]) (fv 135 [pv a]) (fv 136 [pv a]) (fv 137 [pv a]) h') : F_message_small at_ mx h Q := by
  rw [F_message_small.eq_1, F_message_small_of.eq_1]
  refine boxF_of ?_
  refine O.al fun a h O => ?_
  refine O.al fun m h O => ?_
  refine O.al fun x h O => ?_
  refine O.st 0 rfl (by simp) rfl fun h O => ?_
  dsimp only [V.put, List.set] at O
  refine O.ld 0 rfl ⟨fv 134 [pv a, pv m], rfl, fv 135 [pv a], rfl, fv 136 [pv a], rfl, fv 137 [pv a], rfl, ldL_n ?_⟩
  exact k a m h O.drop.swap
theorem F_message_name.is {at_ : Option FV} {Q : Option FV → Option FV → Option FV → Option FV → Heap → Prop} (O : Sat h0 h L) (k : ∀ a h', Sat h0 h' (own a [Kd.enc .fn at_] :: L) → Q (fv 138 [pv a]) (fv 139 [pv a]) (fv 140 [pv a]) (fv 141 [pv a]) h') : F_message_name at_ h Q := by
  rw [F_message_name.eq_1, F_message_name_of.eq_1]
  refine boxF_of ?_
  refine O.al fun a h O => ?_
  refine O.al fun x h O => ?_
  refine O.st 0 rfl (by simp) rfl fun h O => ?_
  dsimp only [V.put, List.set] at O
  refine O.ld 0 rfl ⟨fv 138 [pv a], rfl, fv 139 [pv a], rfl, fv 140 [pv a], rfl, fv 141 [pv a], rfl, ldL_n ?_⟩
  exact k a h O.drop
theorem F_message_both.is {a1 a2 a3 a4 c1 c2 c3 c4 : Option FV} {Q : Option FV → Option FV → Option FV → Option FV → Heap → Prop} (O : Sat h0 h L) (k : ∀ a c h', Sat h0 h' (own a [Kd.enc .fn a1, Kd.enc .fn a2, Kd.enc .fn a3, Kd.enc .fn a4] :: own c [Kd.enc .fn c1, Kd.enc .fn c2, Kd.enc .fn c3, Kd.enc .fn c4] :: L) → Q (fv 126 [pv a, pv c]) (fv 127 [pv a, pv c]) (fv 128 [pv a, pv c]) (fv 129 [pv a, pv c]) h') : F_message_both a1 a2 a3 a4 c1 c2 c3 c4 h Q := by
  rw [F_message_both.eq_1, F_message_both_of.eq_1]
  refine O.al fun a h O => ?_
  refine O.al fun c h O => ?_
  refine O.al fun x h O => ?_
  refine O.st 0 rfl (by simp) rfl fun h O => ?_
  dsimp only [V.put, List.set] at O
  refine O.ld 0 rfl ⟨fv 126 [pv a, pv c], rfl, fv 127 [pv a, pv c], rfl, fv 128 [pv a, pv c], rfl, fv 129 [pv a, pv c], rfl, ldL_n ?_⟩
  exact k a c h O.drop.swap
def bxR (T : Bxs) : Res := many (fun x : Nat × List Value => own x.1 x.2) T
theorem Sat.pack {f : Nat × List Value → Res} : ∀ {T : Bxs} {L : List Res}, Sat h0 h (T.map f ++ L) → Sat h0 h (many f T :: L)
  | [], L, O => O.empI
  | x :: T, L, O => by
    have O : Sat h0 h (f x :: (T.map f ++ L)) := O
    obtain ⟨E, ⟨E1, E2, p, h1, h2⟩, O⟩ := O
    have key : ∀ {Rs L : List Res} {E : Blks}, star (Rs ++ L) E → star (star Rs :: L) E := by
      intro Rs
      induction Rs with
      | nil => intro L E hs; exact ⟨[], E, List.Perm.refl _, rfl, hs⟩
      | cons A Rs ih =>
        intro L E hs
        obtain ⟨F1, F2, q, g1, g2⟩ := hs
        obtain ⟨G1, G2, q2, g3, g4⟩ := ih g2
        exact ⟨F1 ++ G1, G2, q.trans ((q2.append_left _).trans (by rw [List.append_assoc])), ⟨F1, G1, List.Perm.refl _, g1, g3⟩, g4⟩
    exact ⟨E, key (Rs := (x :: T).map f) (L := L) ⟨E1, E2, p, h1, h2⟩, O⟩
theorem Sat.bx (O : Sat h0 h (bxR T :: L)) : Bx h T := by
  intro x hx
  obtain ⟨i, hi, e⟩ := List.mem_iff_getElem.1 hx
  have O := Sat.take O i (List.getElem?_eq_some_iff.2 ⟨hi, e⟩)
  have := O.cells 0 rfl 0 x.2.length
  rwa [List.drop_zero, List.take_length] at this
theorem primNum {p a m : Nat} (hc : pc p = 0) (e1 : (a, [Kd.enc .fn (atV p)]) ∈ T) (e2 : (m, [.int .u64 (pmax p : Nat)]) ∈ T) : PrimOk T p (fv 122 [pv a, pv m]) (fv 123 [pv a]) (fv 124 [pv a]) (fv 125 [pv m, pv a]) where
  num := fun _ => ⟨a, m, e1, e2, rfl, rfl, rfl, rfl⟩
  sml := fun g => absurd (hc.symm.trans g) (by decide)
  nam := fun g => absurd (hc.symm.trans g) (by decide)
  c4 := fun g => absurd (by rw [← hc, g]; rfl : (0 : Nat) = 3) (by decide)
  c6 := fun g => absurd (by rw [← hc, g]; rfl : (0 : Nat) = 3) (by decide)
  c17 := fun g => absurd (by rw [← hc, g]; rfl : (0 : Nat) = 3) (by decide)
theorem primSml {p a m : Nat} (hc : pc p = 1) (e1 : (a, [Kd.enc .fn (atV p)]) ∈ T) (e2 : (m, [.int .i64 (pmax p : Nat)]) ∈ T) : PrimOk T p (fv 134 [pv a, pv m]) (fv 135 [pv a]) (fv 136 [pv a]) (fv 137 [pv a]) where
  sml := fun _ => ⟨a, m, e1, e2, rfl, rfl, rfl, rfl⟩
  num := fun g => absurd (hc.symm.trans g) (by decide)
  nam := fun g => absurd (hc.symm.trans g) (by decide)
  c4 := fun g => absurd (by rw [← hc, g]; rfl : (1 : Nat) = 3) (by decide)
  c6 := fun g => absurd (by rw [← hc, g]; rfl : (1 : Nat) = 3) (by decide)
  c17 := fun g => absurd (by rw [← hc, g]; rfl : (1 : Nat) = 3) (by decide)
theorem primNam {p a : Nat} (hc : pc p = 2) (e1 : (a, [Kd.enc .fn (atV p)]) ∈ T) : PrimOk T p (fv 138 [pv a]) (fv 139 [pv a]) (fv 140 [pv a]) (fv 141 [pv a]) where
  nam := fun _ => ⟨a, e1, rfl, rfl, rfl, rfl⟩
  num := fun g => absurd (hc.symm.trans g) (by decide)
  sml := fun g => absurd (hc.symm.trans g) (by decide)
  c4 := fun g => absurd (by rw [← hc, g]; rfl : (2 : Nat) = 3) (by decide)
  c6 := fun g => absurd (by rw [← hc, g]; rfl : (2 : Nat) = 3) (by decide)
  c17 := fun g => absurd (by rw [← hc, g]; rfl : (2 : Nat) = 3) (by decide)
theorem prim4 : PrimOk T 4 (fv 61 []) (fv 62 []) (fv 63 []) (fv 65 []) where
  num := fun g => absurd g (by decide)
  sml := fun g => absurd g (by decide)
  nam := fun g => absurd g (by decide)
  c4 := fun g => ⟨rfl, rfl, rfl, rfl⟩
  c6 := fun g => absurd g (by decide)
  c17 := fun g => absurd g (by decide)
theorem prim6 : PrimOk T 6 (fv 68 []) (fv 69 []) (fv 70 []) (fv 72 []) where
  num := fun g => absurd g (by decide)
  sml := fun g => absurd g (by decide)
  nam := fun g => absurd g (by decide)
  c4 := fun g => absurd g (by decide)
  c6 := fun g => ⟨rfl, rfl, rfl, rfl⟩
  c17 := fun g => absurd g (by decide)
theorem prim17 : PrimOk T 17 (fv 87 []) (fv 88 []) (fv 89 []) (fv 90 []) where
  num := fun g => absurd g (by decide)
  sml := fun g => absurd g (by decide)
  nam := fun g => absurd g (by decide)
  c4 := fun g => absurd g (by decide)
  c6 := fun g => absurd g (by decide)
  c17 := fun g => ⟨rfl, rfl, rfl, rfl⟩
def tabC (v : Nat → Option FV) : List Value := Kd.enc .fn (v 0) :: Kd.enc .fn (v 1) :: Kd.enc .fn (v 2) :: Kd.enc .fn (v 3) :: Kd.enc .fn (v 4) :: Kd.enc .fn (v 5) :: Kd.enc .fn (v 6) :: Kd.enc .fn (v 7) :: Kd.enc .fn (v 8) :: Kd.enc .fn (v 9) :: Kd.enc .fn (v 10) :: Kd.enc .fn (v 11) :: Kd.enc .fn (v 12) :: Kd.enc .fn (v 13) :: Kd.enc .fn (v 14) :: Kd.enc .fn (v 15) :: Kd.enc .fn (v 16) :: Kd.enc .fn (v 17) :: Kd.enc .fn (v 18) :: Kd.enc .fn (v 19) :: Kd.enc .fn (v 20) :: Kd.enc .fn (v 21) :: Kd.enc .fn (v 22) :: Kd.enc .fn (v 23) :: Kd.enc .fn (v 24) :: Kd.enc .fn (v 25) :: Kd.enc .fn (v 26) :: Kd.enc .fn (v 27) :: Kd.enc .fn (v 28) :: Kd.enc .fn (v 29) :: Kd.enc .fn (v 30) :: Kd.enc .fn (v 31) :: Kd.enc .fn (v 32) :: Kd.enc .fn (v 33) :: Kd.enc .fn (v 34) :: Kd.enc .fn (v 35) :: Kd.enc .fn (v 36) :: Kd.enc .fn (v 37) :: Kd.enc .fn (v 38) :: Kd.enc .fn (v 39) :: Kd.enc .fn (v 40) :: Kd.enc .fn (v 41) :: Kd.enc .fn (v 42) :: Kd.enc .fn (v 43) :: Kd.enc .fn (v 44) :: Kd.enc .fn (v 45) :: Kd.enc .fn (v 46) :: Kd.enc .fn (v 47) :: Kd.enc .fn (v 48) :: Kd.enc .fn (v 49) :: Kd.enc .fn (v 50) :: Kd.enc .fn (v 51) :: Kd.enc .fn (v 52) :: Kd.enc .fn (v 53) :: Kd.enc .fn (v 54) :: Kd.enc .fn (v 55) :: Kd.enc .fn (v 56) :: Kd.enc .fn (v 57) :: Kd.enc .fn (v 58) :: Kd.enc .fn (v 59) :: Kd.enc .fn (v 60) :: Kd.enc .fn (v 61) :: Kd.enc .fn (v 62) :: Kd.enc .fn (v 63) :: []
def TabOk (T : Bxs) (v : Nat → Option FV) : Prop := ∀ f < 16, FieldOk T f (v (4 * f)) (v (4 * f + 1)) (v (4 * f + 2)) (v (4 * f + 3))
set_option maxRecDepth 20000 in
theorem F_message_table.is {Q : YO} (O : Sat h0 h L) (k : ∀ (T : Bxs) (v : Nat → Option FV) h', Sat h0 h' (bxR T :: L) → TabOk T v → Q (v 0) (v 1) (v 2) (v 3) (v 4) (v 5) (v 6) (v 7) (v 8) (v 9) (v 10) (v 11) (v 12) (v 13) (v 14) (v 15) (v 16) (v 17) (v 18) (v 19) (v 20) (v 21) (v 22) (v 23) (v 24) (v 25) (v 26) (v 27) (v 28) (v 29) (v 30) (v 31) (v 32) (v 33) (v 34) (v 35) (v 36) (v 37) (v 38) (v 39) (v 40) (v 41) (v 42) (v 43) (v 44) (v 45) (v 46) (v 47) (v 48) (v 49) (v 50) (v 51) (v 52) (v 53) (v 54) (v 55) (v 56) (v 57) (v 58) (v 59) (v 60) (v 61) (v 62) (v 63) h') : F_message_table h Q := by
  rw [F_message_table.eq_1, F_message_table_of.eq_1]
  refine O.al fun a1 h O => ?_
  refine F_message_number.is O fun a0 m0 h O => ?_
  refine F_message_number.is O fun a1 m1 h O => ?_
  refine F_message_number.is O fun a2 m2 h O => ?_
  refine dec1_fn ?_
  refine dec1_fn ?_
  refine dec1_fn ?_
  refine dec1_fn ?_
  refine dec1_fn ?_
  refine dec1_fn ?_
  refine dec1_fn ?_
  refine dec1_fn ?_
  refine F_message_both.is O fun x1 y1 h O => ?_
  refine F_message_number.is O fun a3 m3 h O => ?_
  refine F_message_number.is O fun a5 m5 h O => ?_
  refine F_message_small.is O fun a7 m7 h O => ?_
  refine F_message_number.is O fun a8 m8 h O => ?_
  refine F_message_name.is O fun a9 h O => ?_
  refine F_message_name.is O fun a10 h O => ?_
  refine F_message_number.is O fun a11 m11 h O => ?_
  refine F_message_number.is O fun a12 m12 h O => ?_
  refine F_message_number.is O fun a13 m13 h O => ?_
  refine dec1_fn ?_
  refine dec1_fn ?_
  refine dec1_fn ?_
  refine dec1_fn ?_
  refine dec1_fn ?_
  refine dec1_fn ?_
  refine dec1_fn ?_
  refine dec1_fn ?_
  refine F_message_both.is O fun x12 y12 h O => ?_
  refine F_message_small.is O fun a14 m14 h O => ?_
  refine F_message_small.is O fun a15 m15 h O => ?_
  refine F_message_small.is O fun a16 m16 h O => ?_
  refine O.st 32 rfl (by simp only [List.length_cons, List.length_nil]; omega) rfl fun h O => ?_
  dsimp only [List.set] at O
  rw [put_all (by rfl)] at O
  refine O.ld 32 rfl ⟨fv 122 [pv a0, pv m0], rfl, fv 123 [pv a0], rfl, fv 124 [pv a0], rfl, fv 125 [pv m0, pv a0], rfl, fv 126 [pv x1, pv y1], rfl, fv 127 [pv x1, pv y1], rfl, fv 128 [pv x1, pv y1], rfl, fv 129 [pv x1, pv y1], rfl, fv 122 [pv a3, pv m3], rfl, fv 123 [pv a3], rfl, fv 124 [pv a3], rfl, fv 125 [pv m3, pv a3], rfl, fv 61 [], rfl, fv 62 [], rfl, fv 63 [], rfl, fv 65 [], rfl, fv 122 [pv a5, pv m5], rfl, fv 123 [pv a5], rfl, fv 124 [pv a5], rfl, fv 125 [pv m5, pv a5], rfl, fv 68 [], rfl, fv 69 [], rfl, fv 70 [], rfl, fv 72 [], rfl, fv 134 [pv a7, pv m7], rfl, fv 135 [pv a7], rfl, fv 136 [pv a7], rfl, fv 137 [pv a7], rfl, fv 122 [pv a8, pv m8], rfl, fv 123 [pv a8], rfl, fv 124 [pv a8], rfl, fv 125 [pv m8, pv a8], rfl, fv 138 [pv a9], rfl, fv 139 [pv a9], rfl, fv 140 [pv a9], rfl, fv 141 [pv a9], rfl, fv 138 [pv a10], rfl, fv 139 [pv a10], rfl, fv 140 [pv a10], rfl, fv 141 [pv a10], rfl, fv 122 [pv a11, pv m11], rfl, fv 123 [pv a11], rfl, fv 124 [pv a11], rfl, fv 125 [pv m11, pv a11], rfl, fv 126 [pv x12, pv y12], rfl, fv 127 [pv x12, pv y12], rfl, fv 128 [pv x12, pv y12], rfl, fv 129 [pv x12, pv y12], rfl, fv 134 [pv a14, pv m14], rfl, fv 135 [pv a14], rfl, fv 136 [pv a14], rfl, fv 137 [pv a14], rfl, fv 134 [pv a15, pv m15], rfl, fv 135 [pv a15], rfl, fv 136 [pv a15], rfl, fv 137 [pv a15], rfl, fv 134 [pv a16, pv m16], rfl, fv 135 [pv a16], rfl, fv 136 [pv a16], rfl, fv 137 [pv a16], rfl, fv 87 [], rfl, fv 88 [], rfl, fv 89 [], rfl, fv 90 [], rfl, ldL_n ?_⟩
  have O := O.sel [0, 1, 2, 3, 4, 5, 6, 7, 8, 9, 10, 11, 12, 13, 14, 15, 16, 17, 18, 19, 20, 21, 22, 23, 24, 25, 26, 27, 28, 29, 30, 31] 33 rfl (Nat.le_add_left _ _)
  have O := Sat.pack (f := fun x : Nat × List Value => own x.1 x.2) (T := [(a16, [Kd.enc .fn (atV 16)]), (m16, [.int .i64 (pmax 16 : Nat)]), (a15, [Kd.enc .fn (atV 15)]), (m15, [.int .i64 (pmax 15 : Nat)]), (a14, [Kd.enc .fn (atV 14)]), (m14, [.int .i64 (pmax 14 : Nat)]), (x12, [Kd.enc .fn (fv 122 [pv a12, pv m12]), Kd.enc .fn (fv 123 [pv a12]), Kd.enc .fn (fv 124 [pv a12]), Kd.enc .fn (fv 125 [pv m12, pv a12])]), (y12, [Kd.enc .fn (fv 122 [pv a13, pv m13]), Kd.enc .fn (fv 123 [pv a13]), Kd.enc .fn (fv 124 [pv a13]), Kd.enc .fn (fv 125 [pv m13, pv a13])]), (a13, [Kd.enc .fn (atV 13)]), (m13, [.int .u64 (pmax 13 : Nat)]), (a12, [Kd.enc .fn (atV 12)]), (m12, [.int .u64 (pmax 12 : Nat)]), (a11, [Kd.enc .fn (atV 11)]), (m11, [.int .u64 (pmax 11 : Nat)]), (a10, [Kd.enc .fn (atV 10)]), (a9, [Kd.enc .fn (atV 9)]), (a8, [Kd.enc .fn (atV 8)]), (m8, [.int .u64 (pmax 8 : Nat)]), (a7, [Kd.enc .fn (atV 7)]), (m7, [.int .i64 (pmax 7 : Nat)]), (a5, [Kd.enc .fn (atV 5)]), (m5, [.int .u64 (pmax 5 : Nat)]), (a3, [Kd.enc .fn (atV 3)]), (m3, [.int .u64 (pmax 3 : Nat)]), (x1, [Kd.enc .fn (fv 122 [pv a1, pv m1]), Kd.enc .fn (fv 123 [pv a1]), Kd.enc .fn (fv 124 [pv a1]), Kd.enc .fn (fv 125 [pv m1, pv a1])]), (y1, [Kd.enc .fn (fv 122 [pv a2, pv m2]), Kd.enc .fn (fv 123 [pv a2]), Kd.enc .fn (fv 124 [pv a2]), Kd.enc .fn (fv 125 [pv m2, pv a2])]), (a2, [Kd.enc .fn (atV 2)]), (m2, [.int .u64 (pmax 2 : Nat)]), (a1, [Kd.enc .fn (atV 1)]), (m1, [.int .u64 (pmax 1 : Nat)]), (a0, [Kd.enc .fn (atV 0)]), (m0, [.int .u64 (pmax 0 : Nat)])]) (L := L) O
  refine k _ (fun i => (fv 122 [pv a0, pv m0] :: fv 123 [pv a0] :: fv 124 [pv a0] :: fv 125 [pv m0, pv a0] :: fv 126 [pv x1, pv y1] :: fv 127 [pv x1, pv y1] :: fv 128 [pv x1, pv y1] :: fv 129 [pv x1, pv y1] :: fv 122 [pv a3, pv m3] :: fv 123 [pv a3] :: fv 124 [pv a3] :: fv 125 [pv m3, pv a3] :: fv 61 [] :: fv 62 [] :: fv 63 [] :: fv 65 [] :: fv 122 [pv a5, pv m5] :: fv 123 [pv a5] :: fv 124 [pv a5] :: fv 125 [pv m5, pv a5] :: fv 68 [] :: fv 69 [] :: fv 70 [] :: fv 72 [] :: fv 134 [pv a7, pv m7] :: fv 135 [pv a7] :: fv 136 [pv a7] :: fv 137 [pv a7] :: fv 122 [pv a8, pv m8] :: fv 123 [pv a8] :: fv 124 [pv a8] :: fv 125 [pv m8, pv a8] :: fv 138 [pv a9] :: fv 139 [pv a9] :: fv 140 [pv a9] :: fv 141 [pv a9] :: fv 138 [pv a10] :: fv 139 [pv a10] :: fv 140 [pv a10] :: fv 141 [pv a10] :: fv 122 [pv a11, pv m11] :: fv 123 [pv a11] :: fv 124 [pv a11] :: fv 125 [pv m11, pv a11] :: fv 126 [pv x12, pv y12] :: fv 127 [pv x12, pv y12] :: fv 128 [pv x12, pv y12] :: fv 129 [pv x12, pv y12] :: fv 134 [pv a14, pv m14] :: fv 135 [pv a14] :: fv 136 [pv a14] :: fv 137 [pv a14] :: fv 134 [pv a15, pv m15] :: fv 135 [pv a15] :: fv 136 [pv a15] :: fv 137 [pv a15] :: fv 134 [pv a16, pv m16] :: fv 135 [pv a16] :: fv 136 [pv a16] :: fv 137 [pv a16] :: fv 87 [] :: fv 88 [] :: fv 89 [] :: fv 90 [] :: []).getD i none) h O ?_
  intro f hf
  rcases (by omega : f = 0 ∨ f = 1 ∨ f = 2 ∨ f = 3 ∨ f = 4 ∨ f = 5 ∨ f = 6 ∨ f = 7 ∨ f = 8 ∨ f = 9 ∨ f = 10 ∨ f = 11 ∨ f = 12 ∨ f = 13 ∨ f = 14 ∨ f = 15) with rfl | rfl | rfl | rfl | rfl | rfl | rfl | rfl | rfl | rfl | rfl | rfl | rfl | rfl | rfl | rfl
  · exact .inl ⟨0, by decide, rfl, (primNum rfl (List.mem_of_getElem? (i := 30) rfl) (List.mem_of_getElem? (i := 31) rfl))⟩
  · exact .inr ⟨1, 2, x1, y1, _, _, _, _, _, _, _, _, by decide, by decide, rfl, (List.mem_of_getElem? (i := 24) rfl), (List.mem_of_getElem? (i := 25) rfl), (primNum rfl (List.mem_of_getElem? (i := 28) rfl) (List.mem_of_getElem? (i := 29) rfl)), (primNum rfl (List.mem_of_getElem? (i := 26) rfl) (List.mem_of_getElem? (i := 27) rfl)), rfl, rfl, rfl, rfl⟩
  · exact .inl ⟨3, by decide, rfl, (primNum rfl (List.mem_of_getElem? (i := 22) rfl) (List.mem_of_getElem? (i := 23) rfl))⟩
  · exact .inl ⟨4, by decide, rfl, prim4⟩
  · exact .inl ⟨5, by decide, rfl, (primNum rfl (List.mem_of_getElem? (i := 20) rfl) (List.mem_of_getElem? (i := 21) rfl))⟩
  · exact .inl ⟨6, by decide, rfl, prim6⟩
  · exact .inl ⟨7, by decide, rfl, (primSml rfl (List.mem_of_getElem? (i := 18) rfl) (List.mem_of_getElem? (i := 19) rfl))⟩
  · exact .inl ⟨8, by decide, rfl, (primNum rfl (List.mem_of_getElem? (i := 16) rfl) (List.mem_of_getElem? (i := 17) rfl))⟩
  · exact .inl ⟨9, by decide, rfl, (primNam rfl (List.mem_of_getElem? (i := 15) rfl))⟩
  · exact .inl ⟨10, by decide, rfl, (primNam rfl (List.mem_of_getElem? (i := 14) rfl))⟩
  · exact .inl ⟨11, by decide, rfl, (primNum rfl (List.mem_of_getElem? (i := 12) rfl) (List.mem_of_getElem? (i := 13) rfl))⟩
  · exact .inr ⟨12, 13, x12, y12, _, _, _, _, _, _, _, _, by decide, by decide, rfl, (List.mem_of_getElem? (i := 6) rfl), (List.mem_of_getElem? (i := 7) rfl), (primNum rfl (List.mem_of_getElem? (i := 10) rfl) (List.mem_of_getElem? (i := 11) rfl)), (primNum rfl (List.mem_of_getElem? (i := 8) rfl) (List.mem_of_getElem? (i := 9) rfl)), rfl, rfl, rfl, rfl⟩
  · exact .inl ⟨14, by decide, rfl, (primSml rfl (List.mem_of_getElem? (i := 4) rfl) (List.mem_of_getElem? (i := 5) rfl))⟩
  · exact .inl ⟨15, by decide, rfl, (primSml rfl (List.mem_of_getElem? (i := 2) rfl) (List.mem_of_getElem? (i := 3) rfl))⟩
  · exact .inl ⟨16, by decide, rfl, (primSml rfl (List.mem_of_getElem? (i := 0) rfl) (List.mem_of_getElem? (i := 1) rfl))⟩
  · exact .inl ⟨17, by decide, rfl, prim17⟩
end
end Go.Proofs.YthiginhigfieiaaGreatDoor.V
/- What speaks against a message. -/
namespace Go.Proofs.YthiginhigfieiaaGreatDoor.V
open Go Go.RowKit
set_option linter.unusedVariables false
set_option linter.unusedSimpArgs false
section
variable {h0 h : Heap} {L : List Res} {b : Nat} {m : Mg} {T : Bxs}
def usN : Nat → List Nat
  | 1 => [0]
  | 2 => [0, 1, 5]
  | 3 => [0, 4]
  | 4 => [1, 3, 5]
  | 5 => [1]
  | 6 => [0, 2, 3]
  | 7 => [0, 2]
  | 8 => [6, 7, 8, 10]
  | 9 => [6, 7]
  | 10 => [7, 8, 9, 10, 11, 12, 13]
  | 11 => [10, 11, 14, 15]
  | _ => []
def fo : Nat → Nat
  | 0 => 0
  | 1 => 1
  | 2 => 1
  | 3 => 2
  | 4 => 3
  | 5 => 4
  | 6 => 5
  | 7 => 6
  | 8 => 7
  | 9 => 8
  | 10 => 9
  | 11 => 10
  | 12 => 11
  | 13 => 11
  | 14 => 12
  | 15 => 13
  | 16 => 14
  | 17 => 15
  | _ => 0
def usC (x : Nat) : List Value := [.int .i64 (x : Int)]
structure Us (h : Heap) : Prop where
  at_ : ∀ k, k < 12 → ∃ s : Sl, cellsAre h (pt 0 k) [.slice s.ptr s.len s.cap] ∧ View h 1 (En usC) s (usN k)
theorem us_small (k : Nat) : (usN k).length ≤ 7 ∧ ∀ f ∈ usN k, f < 16 := by
  unfold usN
  split <;> simp
theorem kp_us : ∀ {k : Nat}, (usN k).flatMap fp = kpN k
  | 0 => rfl
  | 1 => rfl
  | 2 => rfl
  | 3 => rfl
  | 4 => rfl
  | 5 => rfl
  | 6 => rfl
  | 7 => rfl
  | 8 => rfl
  | 9 => rfl
  | 10 => rfl
  | 11 => rfl
  | _ + 12 => rfl
theorem fp_fo {p : Nat} (hp : p < 18) : fo p < 16 ∧ p ∈ fp (fo p) := by
  rcases (by omega : p = 0 ∨ p = 1 ∨ p = 2 ∨ p = 3 ∨ p = 4 ∨ p = 5 ∨ p = 6 ∨ p = 7 ∨ p = 8 ∨ p = 9 ∨ p = 10 ∨ p = 11 ∨ p = 12 ∨ p = 13 ∨ p = 14 ∨ p = 15 ∨ p = 16 ∨ p = 17) with rfl | rfl | rfl | rfl | rfl | rfl | rfl | rfl | rfl | rfl | rfl | rfl | rfl | rfl | rfl | rfl | rfl | rfl <;> exact ⟨by decide, by decide⟩
theorem fp_lt {f p : Nat} (h : p ∈ fp f) : p < 18 ∧ fo p = f := by
  unfold fp at h
  split at h <;> simp at h <;> first | (subst h; exact ⟨by decide, rfl⟩) | (rcases h with rfl | rfl <;> exact ⟨by decide, rfl⟩)
theorem fp_us {k f p : Nat} (h : p ∈ fp f) : p ∈ kpN k ↔ f ∈ usN k := by
  rw [← kp_us, List.mem_flatMap]
  constructor
  · rintro ⟨g, hg, hp⟩
    rw [← (fp_lt h).2, (fp_lt hp).2]
    exact hg
  · exact fun hf => ⟨f, hf, h⟩
def okF (fs : List Nat) (f : Nat) (m : Mg) : Bool := if f ∈ fs then mayF f m else zeroF f m
theorem fld_iff : fldB m = true ↔ ∀ f < 16, okF (usN m.kind.toNat) f m = true := by
  unfold fldB okF mayF zeroF kp
  rw [List.all_eq_true]
  constructor
  · intro h f hf
    split
    · rename_i hm
      rw [List.all_eq_true]
      intro p hp
      have := h p (List.mem_range.2 (fp_lt hp).1)
      rwa [if_pos ((fp_us hp).2 hm)] at this
    · rename_i hm
      rw [List.all_eq_true]
      intro p hp
      have := h p (List.mem_range.2 (fp_lt hp).1)
      rwa [if_neg (fun e => hm ((fp_us hp).1 e))] at this
  · intro h p hp
    obtain ⟨h1, h2⟩ := fp_fo (List.mem_range.1 hp)
    have := h _ h1
    split
    · rename_i hm
      rw [if_pos ((fp_us h2).1 hm), List.all_eq_true] at this
      exact this p h2
    · rename_i hm
      rw [if_neg (fun e => hm ((fp_us h2).2 e)), List.all_eq_true] at this
      exact this p h2
def boolC (x : Bool) : List Value := [.bool x]
def ubN (l : List Nat) : List Bool := (List.range 16).map fun f => decide (f ∈ l)
theorem ub_len (l : List Nat) : (ubN l).length = 16 := by simp [ubN]
theorem ub_at {l : List Nat} {f : Nat} (hf : f < 16) : (ubN l)[f]? = some (decide (f ∈ l)) := by simp [ubN, hf]
theorem ub_set {l : List Nat} {f : Nat} : (ubN l).set f true = ubN (l ++ [f]) := by
  apply List.ext_getElem (by simp [ubN])
  intro i h1 h2
  rw [List.getElem_set]
  unfold ubN
  simp only [List.getElem_map, List.getElem_range, List.mem_append, List.mem_singleton]
  by_cases e : f = i
  · rw [if_pos e]; simp [e]
  · rw [if_neg e]
    have : ¬ i = f := fun x => e x.symm
    simp [this]
theorem F_message_wrong.l1.is {a : Nat} {s : Sl} {fs : List Nat} {j : Heap → Prop} (O : Sat h0 h (own a ((ubN []).flatMap boolC) :: L)) (V : Stays h0 L fun h => View h 1 (En usC) s fs) (hf : ∀ f ∈ fs, f < 16) (hn : fs.length ≤ 7) (hj : ∀ h', Sat h0 h' (own a ((ubN fs).flatMap boolC) :: L) → j h') : F_message_wrong.l1 (pt a 0) s j 0 h := by
  rw [F_message_wrong.l1.eq_1]
  have hl : s.len = fs.length := (V h O.drop).len
  refine wl1 (k := .int .i64) (fun (m : Nat) (i : Int) (h' : Heap) => 0 ≤ i ∧ i + m = fs.length ∧ Sat h0 h' (own a ((ubN (fs.take i.toNat)).flatMap boolC) :: L)) ?_ (m := fs.length) ⟨by omega, by omega, by simpa using O⟩
  clear O
  intro m (i : Int) h next hnx ⟨hi0, him, O⟩
  rw [hl]
  refine brr_p (fun hlt => ?_) (fun hlt => ?_)
  · have hx : fs[i.toNat]? = some (fs[i.toNat]'(by omega)) := List.getElem?_eq_getElem (by omega)
    generalize fs[i.toNat]'(by omega) = x at hx
    have hx16 := hf x (List.mem_of_getElem? hx)
    refine (V h O.drop).get1 hi0 hx (fun x => (x : Int)) (fun _ => rfl) ?_
    refine O.putA (fun _ => rfl) (fun _ => rfl) (ub_len _).symm (by omega) (by rw [ub_len]; omega) true rfl fun h O => ?_
    rw [wrap64 (by omega) (by omega)]
    refine hnx (m - 1) _ _ (by omega) ⟨by omega, by omega, ?_⟩
    rw [show (i + 1).toNat = i.toNat + 1 by omega, take_succ_eq hx, ← ub_set]
    exact O
  · rw [List.take_of_length_le (by omega)] at O
    exact hj _ O
theorem decs4 {x0 x1 x2 x3 : Option FV} {K : Option FV → Option FV → Option FV → Option FV → Prop} (k : K x0 x1 x2 x3) : decs [.fn, .fn, .fn, .fn] [Kd.enc .fn x0, Kd.enc .fn x1, Kd.enc .fn x2, Kd.enc .fn x3] K := dec1_fn (dec1_fn (dec1_fn (dec1_fn k)))
theorem idx_tab {v : Nat → Option FV} {x : Int} (h0 : 0 ≤ x) (h1 : x < 16) {K : Option FV → Option FV → Option FV → Option FV → Prop} (k : K (v (4 * x.toNat)) (v (4 * x.toNat + 1)) (v (4 * x.toNat + 2)) (v (4 * x.toNat + 3))) : idxA [.fn, .fn, .fn, .fn] 4 (tabC v) (x.toNat * 4) K := by
  have hn : x.toNat < 16 := by omega
  generalize x.toNat = n at k hn
  rcases (by omega : n = 0 ∨ n = 1 ∨ n = 2 ∨ n = 3 ∨ n = 4 ∨ n = 5 ∨ n = 6 ∨ n = 7 ∨ n = 8 ∨ n = 9 ∨ n = 10 ∨ n = 11 ∨ n = 12 ∨ n = 13 ∨ n = 14 ∨ n = 15) with rfl | rfl | rfl | rfl | rfl | rfl | rfl | rfl | rfl | rfl | rfl | rfl | rfl | rfl | rfl | rfl <;> exact decs4 k
theorem tabC_at {v : Nat → Option FV} : ∀ i < 64, (tabC v)[i]? = some (Kd.enc .fn (v i)) := by
  have e : tabC v = (List.range 64).map fun i => Kd.enc .fn (v i) := rfl
  intro i hi
  rw [e]
  simp [hi]
theorem tabC_one {v : Nat → Option FV} : (tabC v).all oneV = true := by
  have e : tabC v = (List.range 64).map fun i => Kd.enc .fn (v i) := rfl
  rw [e, List.all_map, List.all_eq_true]
  intro i _
  exact oneV_fn _
theorem tab_ld {v : Nat → Option FV} {a i : Nat} (hi : i < 64) (C : cellsAre h (pt a 0) (tabC v)) {K : Option FV → Prop} (k : K (v i)) : ld [.fn] (pt a i) h K := by
  have hlt : i < (tabC v).length := by
    have := tabC_at (v := v) i hi
    exact (List.getElem?_eq_some_iff.1 this).1
  have e : (tabC v).drop i = Kd.enc .fn (v i) :: (tabC v).drop (i + 1) := by
    rw [List.drop_eq_getElem_cons hlt]
    congr 1
    have := tabC_at (v := v) i hi
    exact (List.getElem?_eq_some_iff.1 this).2
  have := ld_drop C i (ks := [.fn]) (K := K) (by rw [e]; exact ldL_c (ldL_n k))
  rwa [pt_add, Nat.zero_add] at this
set_option maxRecDepth 20000 in
theorem F_message_wrong.l2.is {v : Nat → Option FV} {fs : List Nat} {a : Nat} {Φ : Fns} {Q : Int → Heap → Prop} {j : Heap → Prop} (A : BothC Φ) (O : Sat h0 h (own a ((ubN fs).flatMap boolC) :: bxR T :: L)) (F : TabOk T v) (C : Stays h0 L fun h => MsgAt h b m) (ok : Pos m) (h83 : (∃ f < 16, okF fs f m = false) → ∀ h', Sat h0 h' L → Q 83 h') (hj : (∀ f < 16, okF fs f m = true) → ∀ h', Sat h0 h' L → j h') : F_message_wrong.l2 (some (pt b 0)) Φ Q (pt a 0) (v 0) (v 1) (v 2) (v 3) (v 4) (v 5) (v 6) (v 7) (v 8) (v 9) (v 10) (v 11) (v 12) (v 13) (v 14) (v 15) (v 16) (v 17) (v 18) (v 19) (v 20) (v 21) (v 22) (v 23) (v 24) (v 25) (v 26) (v 27) (v 28) (v 29) (v 30) (v 31) (v 32) (v 33) (v 34) (v 35) (v 36) (v 37) (v 38) (v 39) (v 40) (v 41) (v 42) (v 43) (v 44) (v 45) (v 46) (v 47) (v 48) (v 49) (v 50) (v 51) (v 52) (v 53) (v 54) (v 55) (v 56) (v 57) (v 58) (v 59) (v 60) (v 61) (v 62) (v 63) j 0 h := by
  rw [F_message_wrong.l2.eq_1]
  refine wl1 (k := .int .i64) (fun (n : Nat) (i : Int) (h' : Heap) => 0 ≤ i ∧ i + n = 16 ∧ (∀ f < i.toNat, okF fs f m = true) ∧ Sat h0 h' (own a ((ubN fs).flatMap boolC) :: bxR T :: L)) ?_ (m := 16) ⟨by omega, by omega, fun f hf => absurd hf (by simp), O⟩
  clear O
  intro n (i : Int) h next hnx ⟨hi0, him, hall, O⟩
  refine brr_p (fun hlt => ?_) (fun hlt => ?_)
  · refine ⟨hi0, by omega, idx_tab hi0 hlt ?_⟩
    have Ff := F i.toNat (by omega)
    obtain ⟨w1, hw1⟩ : ∃ w, w = v (4 * i.toNat) := ⟨_, rfl⟩
    obtain ⟨w2, hw2⟩ : ∃ w, w = v (4 * i.toNat + 1) := ⟨_, rfl⟩
    obtain ⟨w3, hw3⟩ : ∃ w, w = v (4 * i.toNat + 2) := ⟨_, rfl⟩
    obtain ⟨w4, hw4⟩ : ∃ w, w = v (4 * i.toNat + 3) := ⟨_, rfl⟩
    rw [← hw1, ← hw2, ← hw3, ← hw4] at Ff ⊢
    clear hw1 hw2 hw3 hw4
    refine O.al fun x h O => ?_
    refine O.st 0 rfl (by simp) (by simp only [List.all_cons, List.all_nil, oneV_fn, Bool.and_self]) fun h O => ?_
    dsimp only [V.put, List.set] at O
    refine jn1 (fun (z : Bool) h' => z = (!okF fs i.toNat m) ∧ Sat h0 h' (own a ((ubN fs).flatMap boolC) :: bxR T :: L)) ?_ ?_
    · clear O
      rintro z h ⟨rfl, O⟩
      refine brr_of (fun e => ?_) (fun e => ?_)
      · refine h83 ⟨i.toNat, by omega, by simpa using e⟩ h O.drop.drop
      · rw [wrap64 (by omega) (by omega)]
        refine hnx (n - 1) _ _ (by omega) ⟨by omega, by omega, fun f hf => ?_, O⟩
        by_cases ef : f = i.toNat
        · subst ef; simpa using e
        · exact hall f (by omega)
    · intro j' hj'
      have C1 := C h O.drop.drop.drop
      have B := O.drop.drop.bx
      have c4 := O.cells 0 rfl 0 4
      have hx := ub_at (l := fs) (f := i.toNat) (by omega)
      by_cases hm : i.toNat ∈ fs
      · have e : okF fs i.toNat m = mayF i.toNat m := by unfold okF; rw [if_pos hm]
        rw [decide_eq_true hm] at hx
        refine O.getA 1 (fun _ => rfl) rfl (ub_len _).symm hi0 hx (fun x => x) (fun _ => rfl) ?_
        refine brr_tt rfl ?_
        simp only [nn_some, pt_add, Nat.zero_add, Nat.add_zero, Nat.reduceAdd, Nat.reduceMul, Int.toNat_zero, Int.toNat_one, Nat.zero_mul, Nat.one_mul]
        refine (ld4 c4).1 ?_
        refine fmay_is A Ff ok C1 B ?_
        refine brr_of (fun e2 => ?_) (fun e2 => ?_)
        · exact hj' _ _ ⟨by rw [e, e2], O.drop⟩
        · refine O.getA 1 (fun _ => rfl) rfl (ub_len _).symm hi0 hx (fun x => x) (fun _ => rfl) ?_
          refine brr_ff rfl ?_
          exact hj' _ _ ⟨by rw [e, e2], O.drop⟩
      · have e : okF fs i.toNat m = zeroF i.toNat m := by unfold okF; rw [if_neg hm]
        rw [decide_eq_false hm] at hx
        refine O.getA 1 (fun _ => rfl) rfl (ub_len _).symm hi0 hx (fun x => x) (fun _ => rfl) ?_
        refine brr_ff rfl ?_
        refine O.getA 1 (fun _ => rfl) rfl (ub_len _).symm hi0 hx (fun x => x) (fun _ => rfl) ?_
        refine brr_tt rfl ?_
        simp only [nn_some, pt_add, Nat.zero_add, Nat.add_zero, Nat.reduceAdd, Nat.reduceMul, Int.toNat_zero, Int.toNat_one, Nat.zero_mul, Nat.one_mul]
        refine (ld4 c4).2.1 ?_
        refine fzero_is A Ff ok C1 B ?_
        exact hj' _ _ ⟨by rw [e], O.drop⟩
  · exact hj (fun f hf => hall f (by omega)) h O.drop.drop
theorem F_message_between.is {n mo : Int} {Q : Bool → Heap → Prop} (k : Q (decide (0 ≤ n ∧ n < mo)) h) : F_message_between n mo h Q := by
  rw [F_message_between.eq_1, F_message_between_of.eq_1]
  refine jn_go ?_
  refine brr_p (fun h1 => ?_) (fun h1 => ?_)
  · rw [show decide (n < mo) = decide (0 ≤ n ∧ n < mo) from decide_eq_decide.2 (by omega)]
    exact k
  · rw [show false = decide (0 ≤ n ∧ n < mo) by simp; omega]
    exact k
theorem F_message_wrong.is {Q : Int → Heap → Prop} (O : Sat h0 h L) (U : Us h0) (C : Stays h0 L fun h => MsgAt h b m) (ok : Pos m) (k : ∀ h', Sat h0 h' L → Q (wrongM m) h') : F_message_wrong (some (pt b 0)) h Q := by
  rw [F_message_wrong.eq_1, F_message_wrong_of.eq_1]
  have C1 := (C h O).1
  refine jn1 (fun (z : Bool) h' => h' = h ∧ z = !kindB m) ?_ ?_
  · rintro z h1 ⟨e, rfl⟩
    subst e
    refine brr_of (fun e => ?_) (fun e => ?_)
    · rw [show (80 : Int) = wrongM m by unfold wrongM; rw [if_neg (by simpa using e)]]
      exact k _ O
    have hk : 1 ≤ m.kind ∧ m.kind ≤ 11 := by
      have e : kindB m = true := by simpa using e
      exact of_decide_eq_true e
    have hk1 : kindB m = true := by simpa using e
    refine jn1 (fun (z : Bool) h' => h' = h1 ∧ z = !headB m) ?_ ?_
    · rintro z h2 ⟨e, rfl⟩
      subst e
      refine brr_of (fun e => ?_) (fun e => ?_)
      · rw [show (83 : Int) = wrongM m by unfold wrongM; rw [if_pos hk1, if_neg (fun g => by rw [g.1] at e; cases e)]]
        exact k _ O
      have hh : headB m = true := by simpa using e
      refine O.al fun a h O => ?_
      have C2 := (C h O.drop).1
      rw [nn_some]
      simp only [nn_some, pt_add, Nat.zero_add, Nat.add_zero, Nat.reduceAdd, Nat.reduceMul, Int.toNat_zero, Int.toNat_one, Nat.zero_mul, Nat.one_mul]
      refine ldo C2 (ldL_c (ldL_n ?_))
      obtain ⟨s, c1, hV⟩ := U.at_ m.kind.toNat (by omega)
      refine ⟨by omega, by omega, ?_⟩
      simp only [nn_some, pt_add, Nat.zero_add, Nat.add_zero, Nat.reduceAdd, Nat.reduceMul, Int.toNat_zero, Int.toNat_one, Nat.zero_mul, Nat.one_mul, Nat.mul_one]
      refine ld_are (cellsAre_kept O.kept c1) (ldL_s (ldL_n ?_))
      refine jn0 (fun h' => Sat h0 h' (own a ((ubN (usN m.kind.toNat)).flatMap boolC) :: L)) ?_ ?_
      · clear O C2
        intro h O
        refine F_message_table.is O fun T v h O F => ?_
        have O := O.swap
        refine jn0 (fun h' => fldB m = true ∧ Sat h0 h' L) ?_ ?_
        · rintro h ⟨e, O⟩
          rw [show (0 : Int) = wrongM m by unfold wrongM; rw [if_pos hk1, if_pos ⟨hh, e⟩]]
          exact k _ O
        · intro j hj
          refine F_message_wrong.l2.is ⟨⟨rfl, rfl, rfl, rfl, rfl, rfl, rfl, rfl, rfl, rfl, rfl, rfl⟩, rfl, rfl⟩ O F C ok ?_ ?_
          · rintro ⟨f, hf, e⟩ h O
            rw [show (83 : Int) = wrongM m by
              unfold wrongM
              rw [if_pos hk1, if_neg]
              intro g
              have := fld_iff.1 g.2 f hf
              rw [e] at this
              cases this]
            exact k _ O
          · intro e h O
            exact hj _ ⟨fld_iff.2 e, O⟩
      · intro j hj
        exact F_message_wrong.l1.is (s := s) (fs := usN m.kind.toNat) O (fun h O => hV.kept O.kept) (us_small _).2 (us_small _).1 hj
    · intro j hj
      simp only [nn_some, pt_add, Nat.zero_add, Nat.add_zero, Nat.reduceAdd, Nat.reduceMul, Int.toNat_zero, Int.toNat_one, Nat.zero_mul, Nat.one_mul]
      refine ldo C1 (ldL_c (ldL_n ?_))
      refine F_message_between.is ?_
      have hb : headB m = (decide (0 ≤ m.frm ∧ m.frm < 9) && (decide (0 ≤ m.to ∧ m.to < 9) && decide (0 ≤ m.shard ∧ m.shard < 8))) := by
        unfold headB
        simp only [Bool.decide_and, Bool.and_assoc]
      refine brr_of (fun e => ?_) (fun e => ?_)
      · refine hj _ _ ⟨rfl, ?_⟩
        rw [hb]
        rw [Bool.not_eq_true'] at e
        rw [e]; rfl
      rw [Bool.not_eq_false'] at e
      refine ldo C1 (ldL_c (ldL_n ?_))
      refine F_message_between.is ?_
      refine brr_of (fun e2 => ?_) (fun e2 => ?_)
      · refine hj _ _ ⟨rfl, ?_⟩
        rw [hb]
        rw [Bool.not_eq_true'] at e2
        rw [e, e2]; rfl
      rw [Bool.not_eq_false'] at e2
      refine ldo C1 (ldL_c (ldL_n ?_))
      refine F_message_between.is ?_
      refine hj _ _ ⟨rfl, ?_⟩
      rw [hb, e, e2]; rfl
  · intro j hj
    simp only [nn_some, pt_add, Nat.zero_add, Nat.add_zero, Nat.reduceAdd, Nat.reduceMul, Int.toNat_zero, Int.toNat_one, Nat.zero_mul, Nat.one_mul]
    refine ldo C1 (ldL_c (ldL_n ?_))
    refine brr_p (fun h1 => ?_) (fun h1 => ?_)
    · refine hj _ _ ⟨rfl, ?_⟩
      unfold kindB
      simp; omega
    · refine ldo C1 (ldL_c (ldL_n ?_))
      refine hj _ _ ⟨rfl, ?_⟩
      unfold kindB
      rw [← decide_not]
      exact decide_eq_decide.2 (by omega)
end
end Go.Proofs.YthiginhigfieiaaGreatDoor.V
/- What the check sum tells apart, in plain terms. -/
namespace Go.Proofs.YthiginhigfieiaaGreatDoor.V
open Go Go.RowKit
set_option linter.unusedVariables false
set_option linter.unusedSimpArgs false
def Rev (r m : W32) : Prop := ∀ i, i < 32 → r.getLsbD i = m.getLsbD (31 - i)
def refStep (r : W32) (b : Bool) : W32 := ((r <<< 1) ^^^ bitAt b 1#32) ^^^ (if r.getLsbD 31 then 0x04c11db7#32 else 0#32)
theorem Rev.xor {r m r' m' : W32} (h : Rev r m) (h' : Rev r' m') : Rev (r ^^^ r') (m ^^^ m') := by
  intro i hi
  rw [BitVec.getLsbD_xor, BitVec.getLsbD_xor, h i hi, h' i hi]
theorem Rev.shift {r m : W32} (h : Rev r m) : Rev (r <<< 1) (m >>> 1) := by
  intro i hi
  rw [BitVec.getLsbD_shiftLeft, BitVec.getLsbD_ushiftRight]
  by_cases h0 : i = 0
  · subst h0
    simp [BitVec.getLsbD_of_ge m 32 (by omega)]
  · rw [h (i - 1) (by omega)]
    simp [hi]
    rw [show 31 - (i - 1) = 1 + (31 - i) by omega]
    simp [h0]
theorem Rev.step {r m : W32} (h : Rev r m) (b : Bool) : Rev (refStep r b) (crcT m ^^^ bitAt b e31) := by
  unfold refStep crcT
  rw [BitVec.xor_assoc, BitVec.xor_assoc, BitVec.xor_comm (bitAt b 1#32)]
  refine h.shift.xor (Rev.xor ?_ ?_)
  · have := h 31 (by decide)
    rw [this]
    cases m.getLsbD (31 - 31) with
    | false => intro i hi; simp
    | true =>
      have : ∀ i : Fin 32, (0x04c11db7#32).getLsbD i = poly.getLsbD (31 - i) := by decide +kernel
      intro i hi
      exact this ⟨i, hi⟩
  · cases b with
    | false => intro i hi; simp [bitAt]
    | true =>
      have : ∀ i : Fin 32, (1#32).getLsbD i = e31.getLsbD (31 - i) := by decide +kernel
      intro i hi
      exact this ⟨i, hi⟩
theorem Rev.steps : ∀ (l : List Bool) {r m : W32}, Rev r m → Rev (l.foldl refStep r) (aug m l)
  | [], _, _, h => h
  | b :: l, _, _, h => Rev.steps l (h.step b)
theorem Rev.zero : Rev 0#32 0#32 := by intro i hi; simp
def mirr : Nat → W32 → W32 → W32
  | 0, _, m => m
  | k + 1, n, m => mirr k (n >>> 1) ((m <<< 1) ^^^ (n &&& 1#32))
theorem mirr_bits : ∀ (k : Nat) (n m : W32), k ≤ 32 → (∀ i, 32 - k ≤ i → m.getLsbD i = false) → ∀ i, i < 32 → (mirr k n m).getLsbD i = if i < k then n.getLsbD (k - 1 - i) else m.getLsbD (i - k)
  | 0, n, m, _, _, i, _ => by simp [mirr]
  | k + 1, n, m, hk, hm, i, hi => by
    rw [mirr, mirr_bits k (n >>> 1) ((m <<< 1) ^^^ (n &&& 1#32)) (by omega) ?_ i hi]
    · by_cases h : i < k
      · rw [if_pos h, if_pos (by omega), BitVec.getLsbD_ushiftRight]
        congr 1; omega
      · rw [if_neg h]
        by_cases h2 : i = k
        · subst h2
          rw [if_pos (by omega)]
          simp
        · rw [if_neg (by omega), BitVec.getLsbD_xor, BitVec.getLsbD_shiftLeft, BitVec.getLsbD_and]
          have : (1#32).getLsbD (i - k) = false := by
            rw [BitVec.getLsbD_one]
            simp; omega
          rw [this]
          simp
          rw [show i - k - 1 = i - (k + 1) by omega]
          have q1 : ¬ (i - k = 0) := by omega
          have q2 : i - k < 32 := by omega
          simp [q1, q2]
    · intro j hj
      rw [BitVec.getLsbD_xor, BitVec.getLsbD_shiftLeft, BitVec.getLsbD_and]
      have h1 : (1#32).getLsbD j = false ∨ k = 32 := by
        by_cases hk2 : k = 32
        · exact .inr hk2
        · left; rw [BitVec.getLsbD_one]; simp; omega
      rcases h1 with h1 | h1
      · rw [h1]
        by_cases hj2 : j < 1
        · simp [hj2]
        · rw [hm (j - 1) (by omega)]; simp
      · omega
theorem Rev.mirr {r m : W32} (h : Rev r m) : V.mirr 32 r 0#32 = m := by
  apply BitVec.eq_of_getLsbD_eq
  intro i hi
  rw [mirr_bits 32 r 0#32 (by decide) (by intro i _; simp) i hi, if_pos hi, h (31 - i) (by omega)]
  congr 1; omega
theorem crcT_inj0 {x : W32} (h : crcT x = 0#32) : x = 0#32 := by
  unfold crcT at h
  have h31 := congrArg (fun y => BitVec.getLsbD y 31) h
  simp only [BitVec.getLsbD_xor, BitVec.getLsbD_ushiftRight, BitVec.getLsbD_of_ge x (1 + 31) (by omega)] at h31
  have hl : x.getLsbD 0 = false := by
    cases hx : x.getLsbD 0 with
    | false => rfl
    | true => rw [hx] at h31; exact absurd h31 (by decide)
  rw [hl] at h
  simp at h
  apply BitVec.eq_of_getLsbD_eq
  intro i hi
  by_cases h0 : i = 0
  · subst h0; rw [hl]; simp
  · have := congrArg (fun y => BitVec.getLsbD y (i - 1)) h
    simp only [BitVec.getLsbD_ushiftRight] at this
    rw [show 1 + (i - 1) = i by omega] at this
    simpa using this
theorem iter_inj0 : ∀ (n : Nat) {x : W32}, iter n x = 0#32 → x = 0#32
  | 0, _, h => h
  | n + 1, x, h => crcT_inj0 (iter_inj0 n h)
def crcS (x : W32) : W32 := (x <<< 1) ^^^ (if x.getLsbD 31 then 0xdb710641#32 else 0#32)
def iterS : Nat → W32 → W32
  | 0, x => x
  | n + 1, x => crcS (iterS n x)
theorem iterS_add : ∀ (n m : Nat) (x : W32), iterS (n + m) x = iterS n (iterS m x)
  | 0, m, x => by rw [Nat.zero_add]; rfl
  | n + 1, m, x => by rw [show n + 1 + m = (n + m) + 1 by omega, iterS, iterS_add n m, iterS]
def Back (n : Nat) : Prop := iterS n e0 = e0
theorem Back.sub {a b : Nat} (ha : Back (a + b)) (hb : Back b) : Back a := by
  unfold Back at *
  rw [iterS_add, hb] at ha
  exact ha
theorem Back.mul {a : Nat} (ha : Back a) : ∀ k, Back (a * k)
  | 0 => rfl
  | k + 1 => by
    have := Back.mul ha k
    unfold Back at *
    rw [Nat.mul_succ, Nat.add_comm, iterS_add, this, ha]
end Go.Proofs.YthiginhigfieiaaGreatDoor.V
namespace Go.Proofs.YthiginhigfieiaaGreatDoor.V
open Go Go.RowKit
set_option linter.unusedVariables false
set_option maxRecDepth 100000
def F_ref1_power.l1 (k1 : Int) (j2 : Int → Heap → Prop) : Int → Int → Heap → Prop :=
  wl [(3, .one (.int .u32)), (4, .one (.int .i64))] (fun (next3 : Int → Int → Heap → Prop) (n4 i5 : Int) (h6 : Heap) =>
  brr (decide (i5 < k1))
  (next3 (IntKind.u32.wrap (n4 * 2)) (IntKind.i64.wrap (i5 + 1)) h6)
  (j2 n4 h6))
def F_ref1_power_of  (k1 : Int) (h : Heap) (Q : Int → Heap → Prop) : Prop :=
  jn [(3, .one (.int .u32))] (fun (n7 : Int) (h8 : Heap) =>
  Q n7 h8) (fun (j2 : Int → Heap → Prop) =>
  F_ref1_power.l1 k1 j2 1 0 h)
def F_ref1_power (k1 : Int) (h : Heap) (Q : Int → Heap → Prop) : Prop := F_ref1_power_of  k1 h Q
def plan120 : Plan := .s (.r [0]) (.s (.r [0, 3]) (.s (.s (.r [0, 3, 4]) (.bj [(3, .one (.int .u32))] [] (.l [(3, .one (.int .u32)), (4, .one (.int .i64))] [0] (.s (.s (.r [0, 3, 4, 7]) (.c .z .z)) (.s (.b (.r [0, 3, 4])) (.r [0, 3, 4])))))) (.s (.r [2]) .z)))
theorem F_ref1_power.eq  (k1 : Int) (h : Heap) (K : YV) : F_ref1_power_of  k1 h (fun (r0 : Int) (h : Heap) => K (.int .u32 r0) h) =
    den Tryz.prog noFns Tryz.f120.ntmps plan120 (bodyOf Tryz.f120) (args0 0 [(.int .i64 k1 : Value)]) h (konF Tryz.f120 K) := by kernel_rfl
def E_ref1_power_of (f : Y12) : List Value → Heap → YV → Prop
  | [v0], h, K => dec1 (.int .i64) v0 fun (k1 : Int) =>
  f k1 h (fun (r0 : Int) (h : Heap) => K (.int .u32 r0) h)
  | _, _, _ => False
abbrev E_ref1_power := E_ref1_power_of F_ref1_power
theorem E_ref1_power.right : IsRight Tryz.prog 120 E_ref1_power := by
  refine isRight fun vs K w hh => ?_
  match vs, hh with
  | [v0], hh =>
    unfold E_ref1_power E_ref1_power_of at hh
    replace hh := dec1_sound hh; obtain ⟨k1, rfl, hh⟩ := hh
    unfold F_ref1_power at hh
    exact calls_den noFns_right plan120 _ w K Tryz.func120 (by kernel_rfl) (by kernel_rfl) (Eq.mp (F_ref1_power.eq  k1 w.heap K) hh)
theorem ok120 : okFn Tryz.prog 120 = true := by kernel_rfl
def F_ref1_mirrored.l1 (j2 : Int → Heap → Prop) : Int → Int → Int → Heap → Prop :=
  wl [(0, .one (.int .u32)), (3, .one (.int .u32)), (4, .one (.int .i64))] (fun (next3 : Int → Int → Int → Heap → Prop) (n4 m5 k6 : Int) (h7 : Heap) =>
  brr (decide (k6 < 32))
  ((2 : Int) ≠ 0 ∧
  (2 : Int) ≠ 0 ∧
  next3 (IntKind.u32.wrap (n4.tdiv 2)) (IntKind.u32.wrap ((IntKind.u32.wrap (m5 * 2)) + (n4.tmod 2))) (IntKind.i64.wrap (k6 + 1)) h7)
  (j2 m5 h7))
def F_ref1_mirrored_of  (n1 : Int) (h : Heap) (Q : Int → Heap → Prop) : Prop :=
  jn [(3, .one (.int .u32))] (fun (m8 : Int) (h9 : Heap) =>
  Q m8 h9) (fun (j2 : Int → Heap → Prop) =>
  F_ref1_mirrored.l1 j2 n1 0 0 h)
def F_ref1_mirrored (n1 : Int) (h : Heap) (Q : Int → Heap → Prop) : Prop := F_ref1_mirrored_of  n1 h Q
def plan121 : Plan := .s (.r [0]) (.s (.r [0, 3]) (.s (.s (.r [0, 3, 4]) (.bj [(3, .one (.int .u32))] [] (.l [(0, .one (.int .u32)), (3, .one (.int .u32)), (4, .one (.int .i64))] [] (.s (.s (.r [0, 3, 4, 6]) (.c .z .z)) (.s (.b (.s (.r [0, 3, 4]) (.r [0, 3, 4]))) (.r [0, 3, 4])))))) (.s (.r [2]) .z)))
theorem F_ref1_mirrored.eq  (n1 : Int) (h : Heap) (K : YV) : F_ref1_mirrored_of  n1 h (fun (r0 : Int) (h : Heap) => K (.int .u32 r0) h) =
    den Tryz.prog noFns Tryz.f121.ntmps plan121 (bodyOf Tryz.f121) (args0 0 [(.int .u32 n1 : Value)]) h (konF Tryz.f121 K) := by kernel_rfl
def E_ref1_mirrored_of (f : Y12) : List Value → Heap → YV → Prop
  | [v0], h, K => dec1 (.int .u32) v0 fun (n1 : Int) =>
  f n1 h (fun (r0 : Int) (h : Heap) => K (.int .u32 r0) h)
  | _, _, _ => False
abbrev E_ref1_mirrored := E_ref1_mirrored_of F_ref1_mirrored
theorem E_ref1_mirrored.right : IsRight Tryz.prog 121 E_ref1_mirrored := by
  refine isRight fun vs K w hh => ?_
  match vs, hh with
  | [v0], hh =>
    unfold E_ref1_mirrored E_ref1_mirrored_of at hh
    replace hh := dec1_sound hh; obtain ⟨n1, rfl, hh⟩ := hh
    unfold F_ref1_mirrored at hh
    exact calls_den noFns_right plan121 _ w K Tryz.func121 (by kernel_rfl) (by kernel_rfl) (Eq.mp (F_ref1_mirrored.eq  n1 w.heap K) hh)
theorem ok121 : okFn Tryz.prog 121 = true := by kernel_rfl
def F_ref1_Sum.l1 (f120_ : Y12) (b1 : Sl) (i5 : Int) (j8 : Int → Heap → Prop) : Int → Int → Heap → Prop :=
  wl [(3, .one (.int .u32)), (5, .one (.int .i64))] (fun (next9 : Int → Int → Heap → Prop) (rest10 k11 : Int) (h12 : Heap) =>
  brr (decide (k11 < 8))
  (jn [(6, .one (.int .u32))] (fun (bit18 : Int) (h19 : Heap) =>
  jn [(6, .one (.int .u32))] (fun (bit21 : Int) (h22 : Heap) =>
  (2147483648 : Int) ≠ 0 ∧
  jn [(3, .one (.int .u32))] (fun (rest24 : Int) (h25 : Heap) =>
  next9 rest24 (IntKind.i64.wrap (k11 + 1)) h25) (fun (j23 : Int → Heap → Prop) =>
  brr ((IntKind.u32.wrap (rest10.tdiv 2147483648)) == 1)
  (j23 (IntKind.u32.wrap (BitVec.ofInt IntKind.u32.bits (IntKind.u32.wrap ((IntKind.u32.wrap (rest10 * 2)) + bit21)) ^^^ BitVec.ofInt IntKind.u32.bits 79764919).toNat) h22)
  (j23 (IntKind.u32.wrap ((IntKind.u32.wrap (rest10 * 2)) + bit21)) h22))) (fun (j20 : Int → Heap → Prop) =>
  brr (decide (i5 < 4))
  (j20 (IntKind.u32.wrap (1 - bit18)) h19)
  (j20 bit18 h19))) (fun (j13 : Int → Heap → Prop) =>
  brr (decide (i5 < ((b1.len : Nat) : Int)))
  (ixS 1 b1 i5 fun (a14 : Addr) =>
  ld [.int .u8] a14 h12 fun (v15 : Int) =>
  f120_ k11 h12 fun (r16 : Int) (h17 : Heap) =>
  cellsAre h17 a14 [.int .u8 v15] ∧
  r16 ≠ 0 ∧
  (2 : Int) ≠ 0 ∧
  j13 ((IntKind.u32.wrap ((IntKind.u32.wrap v15).tdiv r16)).tmod 2) h17)
  (j13 0 h12)))
  (j8 rest10 h12))
def F_ref1_Sum.l2 (f120_ : Y12) (b1 : Sl) (j2 : Int → Heap → Prop) : Int → Int → Heap → Prop :=
  wl [(3, .one (.int .u32)), (4, .one (.int .i64))] (fun (next3 : Int → Int → Heap → Prop) (rest4 i5 : Int) (h6 : Heap) =>
  brr (decide (i5 < (IntKind.i64.wrap (((b1.len : Nat) : Int) + 4))))
  (jn [(3, .one (.int .u32))] (fun (rest28 : Int) (h29 : Heap) =>
  next3 rest28 (IntKind.i64.wrap (i5 + 1)) h29) (fun (j7 : Int → Heap → Prop) =>
  jn [(3, .one (.int .u32))] (fun (rest26 : Int) (h27 : Heap) =>
  j7 rest26 h27) (fun (j8 : Int → Heap → Prop) =>
  F_ref1_Sum.l1 f120_ b1 i5 j8 rest4 0 h6)))
  (j2 rest4 h6))
def F_ref1_Sum_of (f120_ f121_ : Y12) (b1 : Sl) (h : Heap) (Q : Int → Heap → Prop) : Prop :=
  jn [(3, .one (.int .u32))] (fun (rest30 : Int) (h31 : Heap) =>
  f121_ rest30 h31 fun (r32 : Int) (h33 : Heap) =>
  Q (IntKind.u32.wrap (BitVec.ofInt IntKind.u32.bits (if IntKind.u32.signed then -1 else IntKind.u32.max) ^^^ BitVec.ofInt IntKind.u32.bits r32).toNat) h33) (fun (j2 : Int → Heap → Prop) =>
  F_ref1_Sum.l2 f120_ b1 j2 0 0 h)
def F_ref1_Sum (b1 : Sl) (h : Heap) (Q : Int → Heap → Prop) : Prop := F_ref1_Sum_of F_ref1_power F_ref1_mirrored b1 h Q
def plan52 : Plan := .s (.r [0]) (.s (.r [0, 3]) (.s (.s (.r [0, 3, 4]) (.bj [(3, .one (.int .u32))] [] (.l [(3, .one (.int .u32)), (4, .one (.int .i64))] [0] (.s (.s (.r [0, 3, 4, 12]) (.c .z .z)) (.s (.bj [(3, .one (.int .u32))] [0, 4] (.s (.r [0, 3, 4, 5]) (.bj [(3, .one (.int .u32))] [0, 4] (.l [(3, .one (.int .u32)), (5, .one (.int .i64))] [0, 4] (.s (.s (.r [0, 3, 4, 5, 16]) (.c .z .z)) (.s (.b (.s (.r [0, 3, 4, 5, 6]) (.s (.s (.r [0, 3, 4, 5, 6, 22]) (.cj [(6, .one (.int .u32))] [0, 3, 4, 5] (.d [0, 0, 3, 7, 15, 0, 32, 127, 255, 511] [[0, 1, 2, 3, 4, 5, 6, 7, 8, 9]] [0, 3, 4, 5, 6]) .z)) (.s (.s (.r [0, 3, 4, 5, 6, 33]) (.cj [(6, .one (.int .u32))] [0, 3, 4, 5] (.r [0, 3, 4, 5, 6]) .z)) (.s (.r [0, 3, 4, 5, 6, 7]) (.s (.r [0, 3, 4, 5, 7]) (.s (.r [0, 3, 4, 5, 43]) (.cj [(3, .one (.int .u32))] [0, 4, 5] (.r [0, 3, 4, 5]) .z)))))))) (.r [0, 3, 4, 5]))))))) (.r [0, 3, 4])))))) (.s (.r [2]) .z)))
theorem F_ref1_Sum.eq (f120_ f121_ : Y12) (b1 : Sl) (h : Heap) (K : YV) : F_ref1_Sum_of f120_ f121_ b1 h (fun (r0 : Int) (h : Heap) => K (.int .u32 r0) h) =
    den Tryz.prog (fn1 120 (E_ref1_power_of f120_) (fn1 121 (E_ref1_mirrored_of f121_) noFns)) Tryz.f52.ntmps plan52 (bodyOf Tryz.f52) (args0 0 [(.slice b1.ptr b1.len b1.cap : Value)]) h (konF Tryz.f52 K) := by kernel_rfl
def E_ref1_Sum_of (f : Y20) : List Value → Heap → YV → Prop
  | [v0], h, K => dec1 .sl v0 fun (b1 : Sl) =>
  f b1 h (fun (r0 : Int) (h : Heap) => K (.int .u32 r0) h)
  | _, _, _ => False
abbrev E_ref1_Sum := E_ref1_Sum_of F_ref1_Sum
theorem E_ref1_Sum.right : IsRight Tryz.prog 52 E_ref1_Sum := by
  refine isRight fun vs K w hh => ?_
  match vs, hh with
  | [v0], hh =>
    unfold E_ref1_Sum E_ref1_Sum_of at hh
    replace hh := dec1_sound hh; obtain ⟨b1, rfl, hh⟩ := hh
    unfold F_ref1_Sum at hh
    exact calls_den (fn1_right ok120 E_ref1_power.right (fn1_right ok121 E_ref1_mirrored.right noFns_right)) plan52 _ w K Tryz.func52 (by kernel_rfl) (by kernel_rfl) (Eq.mp (F_ref1_Sum.eq F_ref1_power F_ref1_mirrored b1 w.heap K) hh)
theorem ok52 : okFn Tryz.prog 52 = true := by kernel_rfl
end Go.Proofs.YthiginhigfieiaaGreatDoor.V
/- The program's check sum and the document's: both are the plain one. -/
namespace Go.Proofs.YthiginhigfieiaaGreatDoor.V
open Go Go.RowKit
set_option linter.unusedVariables false
set_option linter.unusedSimpArgs false
def w32c (x : W32) : List Value := [.int .u32 (x.toNat : Int)]
theorem w32c_len (x : W32) : (w32c x).length = 1 := rfl
theorem w32c_one (x : W32) : (w32c x).all oneV = true := rfl
theorem ofInt32 (x : W32) : BitVec.ofInt IntKind.u32.bits (x.toNat : Int) = x := by
  show BitVec.ofInt 32 (x.toNat : Int) = x
  apply BitVec.eq_of_toNat_eq
  have := x.isLt
  simp
theorem wrap32 (x : W32) : IntKind.u32.wrap (x.toNat : Int) = x.toNat := by
  have := x.isLt
  exact wrapu32 (by omega) (by omega)
theorem xor32 (a b : W32) : IntKind.u32.wrap (BitVec.ofInt IntKind.u32.bits (a.toNat : Int) ^^^ BitVec.ofInt IntKind.u32.bits (b.toNat : Int)).toNat = ((a ^^^ b).toNat : Int) := by
  rw [ofInt32, ofInt32]; exact wrap32 (a ^^^ b)
theorem and32 (a b : W32) : IntKind.u32.wrap (BitVec.ofInt IntKind.u32.bits (a.toNat : Int) &&& BitVec.ofInt IntKind.u32.bits (b.toNat : Int)).toNat = ((a &&& b).toNat : Int) := by
  rw [ofInt32, ofInt32]; exact wrap32 (a &&& b)
theorem and32_1 (a : W32) : IntKind.u32.wrap (BitVec.ofInt IntKind.u32.bits (a.toNat : Int) &&& BitVec.ofInt IntKind.u32.bits 1).toNat = ((a &&& 1#32).toNat : Int) := and32 a 1#32
theorem and32_15 (a : W32) : IntKind.u32.wrap (BitVec.ofInt IntKind.u32.bits (a.toNat : Int) &&& BitVec.ofInt IntKind.u32.bits 15).toNat = ((a &&& 15#32).toNat : Int) := and32 a 15#32
theorem and32_poly (a : W32) : IntKind.u32.wrap (BitVec.ofInt IntKind.u32.bits (a.toNat : Int) &&& BitVec.ofInt IntKind.u32.bits 3988292384).toNat = ((a &&& poly).toNat : Int) := and32 a poly
theorem xor32_ref (a : W32) : IntKind.u32.wrap (BitVec.ofInt IntKind.u32.bits (a.toNat : Int) ^^^ BitVec.ofInt IntKind.u32.bits 79764919).toNat = ((a ^^^ 0x04c11db7#32).toNat : Int) := xor32 a 0x04c11db7#32
theorem not32 (a : W32) : IntKind.u32.wrap (BitVec.ofInt IntKind.u32.bits (if IntKind.u32.signed then -1 else IntKind.u32.max) ^^^ BitVec.ofInt IntKind.u32.bits (a.toNat : Int)).toNat = ((~~~ a).toNat : Int) := by
  have h : (if IntKind.u32.signed = true then -1 else IntKind.u32.max) = (((~~~ 0#32 : W32)).toNat : Int) := by decide
  have hx : (~~~ 0#32 : W32) ^^^ a = ~~~ a := by
    apply BitVec.eq_of_getLsbD_eq
    intro i hi
    rw [BitVec.getLsbD_xor, BitVec.getLsbD_not, BitVec.getLsbD_zero, BitVec.getLsbD_not]
    simp only [hi, decide_true, Bool.not_false, Bool.and_self, Bool.true_and]
    cases a.getLsbD i <;> rfl
  rw [h, xor32, hx]
theorem shr32 (a : W32) (k : Nat) (hk : k ≤ 32) : (a.toNat : Int).fdiv (2 ^ min (k : Int).toNat IntKind.u32.bits) = ((a >>> k).toNat : Int) := by
  have h : min (k : Int).toNat IntKind.u32.bits = k := by
    show min (k : Int).toNat 32 = k
    omega
  rw [h, BitVec.toNat_ushiftRight, Nat.shiftRight_eq_div_pow, Int.fdiv_eq_ediv_of_nonneg _ (Int.pow_nonneg (by omega))]
  simp
theorem shr32_1 (a : W32) : (a.toNat : Int).fdiv (2 ^ min (1 : Int).toNat IntKind.u32.bits) = ((a >>> 1).toNat : Int) := shr32 a 1 (by decide)
theorem shr32_4 (a : W32) : (a.toNat : Int).fdiv (2 ^ min (4 : Int).toNat IntKind.u32.bits) = ((a >>> 4).toNat : Int) := shr32 a 4 (by decide)
theorem neg32 (a : W32) : IntKind.u32.wrap (0 - (a.toNat : Int)) = ((0#32 - a).toNat : Int) := by
  have := a.isLt
  rw [BitVec.toNat_sub]
  unfold IntKind.wrap
  simp [IntKind.bits, IntKind.signed]
  omega
theorem crcT_machine (y : W32) : IntKind.u32.wrap (BitVec.ofInt IntKind.u32.bits ((y.toNat : Int).fdiv (2 ^ min (1 : Int).toNat IntKind.u32.bits)) ^^^ BitVec.ofInt IntKind.u32.bits (IntKind.u32.wrap (BitVec.ofInt IntKind.u32.bits (IntKind.u32.wrap (0 - (IntKind.u32.wrap (BitVec.ofInt IntKind.u32.bits (y.toNat : Int) &&& BitVec.ofInt IntKind.u32.bits 1).toNat))) &&& BitVec.ofInt IntKind.u32.bits 3988292384).toNat)).toNat = ((crcT y).toNat : Int) := by
  rw [shr32_1, and32_1, neg32, and32_poly, xor32]
  congr 2
  unfold crcT
  congr 1
  have h1 : y &&& 1#32 = if y.getLsbD 0 then 1#32 else 0#32 := by
    apply BitVec.eq_of_getLsbD_eq
    intro i hi
    rw [BitVec.getLsbD_and, BitVec.getLsbD_one]
    by_cases h0 : i = 0
    · subst h0; cases y.getLsbD 0 <;> simp
    · cases y.getLsbD 0 <;> simp [h0]
  rw [h1]
  cases y.getLsbD 0 with
  | false => simp
  | true => decide
theorem u8to32 (c : UInt8) : IntKind.u32.wrap (c.toNat : Int) = ((BitVec.ofNat 32 c.toNat).toNat : Int) := by
  have := c.toNat_lt
  rw [wrapu32 (by omega) (by omega), BitVec.toNat_ofNat]
  omega
theorem i32_ofNat {x : Int} (h0 : 0 ≤ x) (h1 : x < 16) : IntKind.u32.wrap x = ((BitVec.ofNat 32 x.toNat).toNat : Int) := by
  rw [wrapu32 h0 (by omega), BitVec.toNat_ofNat]
  omega
section
variable {h : Heap}
theorem F_code_Sum.is {s : Sl} {l : List UInt8} {Q : Int → Heap → Prop} (V : Bytes h s l) (hl : l.length < 4611686018427387904) (k : ∀ h', KeptH h h' → Q ((crc l).toNat : Int) h') : F_code_Sum s h Q := by
  rw [F_code_Sum.eq_1, F_code_Sum_of.eq_1]
  refine Sat.al (Sat.nil h) fun b h1 O => ?_
  refine jn0 (fun h' => ∃ ts : List W32, ts.length = 16 ∧ (∀ (k : Nat), k < 16 → ts[k]? = some (iter 4 (BitVec.ofNat 32 k))) ∧ Sat h h' [own b (ts.flatMap w32c)]) ?_ ?_
  · clear O
    rintro h1 ⟨ts, ht, htk, O⟩
    refine jn1 (fun (n : Int) h' => n = ((crcFrom (~~~ 0#32) l).toNat : Int) ∧ Sat h h' [own b (ts.flatMap w32c)]) ?_ ?_
    · rintro n h2 ⟨rfl, O⟩
      rw [not32]
      exact k _ O.kept
    · intro j hj
      rw [F_code_Sum.l3.eq_1]
      refine wl2 (k := .int .u32) (l := .int .i64) (fun (m : Nat) (n x : Int) (h' : Heap) => x + m = l.length ∧ 0 ≤ x ∧ h' = h1 ∧ n = ((crcFrom (~~~ 0#32) (l.take x.toNat)).toNat : Int)) ?_ (m := l.length) ⟨by omega, by omega, rfl, rfl⟩
      rintro m (n : Int) (x : Int) h1 next hn ⟨hx, hx0, rfl, rfl⟩
      rw [V.len]
      refine brr_p (fun hlt => ?_) (fun hlt => ?_)
      · refine Bytes.at (V.kept O.kept) hx0 hlt fun c hc => ?_
        have hc' : l.take (x.toNat + 1) = l.take x.toNat ++ [c] := by
          rw [List.take_add_one, hc]; rfl
        rw [u8to32, xor32, and32_15]
        generalize hz : crcFrom (~~~ 0#32) (l.take x.toNat) ^^^ BitVec.ofNat 32 c.toNat = z
        have h15 : ∀ y : W32, (y &&& 15#32).toNat < 16 := fun y => by
          rw [BitVec.toNat_and]
          exact Nat.lt_of_le_of_lt Nat.and_le_right (by decide)
        have hof : ∀ y : W32, BitVec.ofNat 32 (y &&& 15#32).toNat = y &&& 15#32 := fun y => by simp
        refine ⟨by decide, ?_⟩
        refine O.getA (k := .int .u32) 0 w32c_len rfl ht.symm (by omega) (x := iter 4 (z &&& 15#32)) (by have := htk _ (h15 z); rw [hof] at this; exact this) (fun x => (x.toNat : Int)) (fun _ => rfl) ?_
        rw [shr32_4, xor32, nib, and32_15]
        refine ⟨by decide, ?_⟩
        refine O.getA (k := .int .u32) 0 w32c_len rfl ht.symm (by omega) (x := iter 4 (iter 4 z &&& 15#32)) (by have := htk _ (h15 (iter 4 z)); rw [hof] at this; exact this) (fun x => (x.toNat : Int)) (fun _ => rfl) ?_
        rw [shr32_4, xor32, nib, wrap64 (by omega) (by omega)]
        refine hn (m - 1) _ _ _ (by omega) ⟨by omega, by omega, rfl, ?_⟩
        rw [show (x + 1).toNat = x.toNat + 1 by omega, hc']
        unfold crcFrom
        rw [List.foldl_append]
        show _ = ((crcByte (crcFrom (~~~ 0#32) (l.take x.toNat)) c).toNat : Int)
        unfold crcByte
        rw [hz, iter_add 4 4]
      · refine hj _ _ ⟨?_, O⟩
        rw [List.take_of_length_le (by omega)]
  · intro j hj
    rw [F_code_Sum.l2.eq_1]
    refine wl1 (k := .int .i64) (fun (m : Nat) (x : Int) (h' : Heap) => x + m = 16 ∧ 0 ≤ x ∧ ∃ ts : List W32, ts.length = 16 ∧ (∀ (k : Nat), (k : Int) < x → ts[k]? = some (iter 4 (BitVec.ofNat 32 k))) ∧ Sat h h' [own b (ts.flatMap w32c)]) ?_ (m := 16) ⟨by omega, by omega, List.replicate 16 0#32, by simp, by intro k hk; omega, O⟩
    clear O
    rintro m (x : Int) h1 next hn ⟨hx, hx0, ts, ht, htk, O⟩
    refine brr_p (fun hlt => ?_) (fun hlt => ?_)
    · refine jn0 (fun h' => ∃ ts : List W32, ts.length = 16 ∧ (∀ (k : Nat), (k : Int) < x + 1 → ts[k]? = some (iter 4 (BitVec.ofNat 32 k))) ∧ Sat h h' [own b (ts.flatMap w32c)]) ?_ ?_
      · rintro h2 ⟨ts, h3⟩
        rw [wrap64 (by omega) (by omega)]
        exact hn (m - 1) _ _ (by omega) ⟨by omega, by omega, ts, h3⟩
      · intro j2 hj2
        refine jn1 (fun (n : Int) h' => h' = h1 ∧ n = ((iter 4 (BitVec.ofNat 32 x.toNat)).toNat : Int)) ?_ ?_
        · rintro n h1 ⟨rfl, rfl⟩
          refine O.putA w32c_len w32c_one ht.symm hx0 (by omega) (iter 4 (BitVec.ofNat 32 x.toNat)) rfl fun h2 O => ?_
          refine hj2 _ ⟨_, by simp [ht], fun k hk => ?_, O⟩
          rw [List.getElem?_set]
          by_cases e : x.toNat = k
          · subst e
            rw [if_pos rfl, if_pos (by omega)]
          · rw [if_neg e]
            exact htk k (by omega)
        · intro j3 hj3
          rw [F_code_Sum.l1.eq_1, i32_ofNat hx0 hlt]
          refine wl2 (k := .int .u32) (l := .int .i64) (fun (m : Nat) (n y : Int) (h' : Heap) => y + m = 4 ∧ 0 ≤ y ∧ h' = h1 ∧ n = ((iter y.toNat (BitVec.ofNat 32 x.toNat)).toNat : Int)) ?_ (m := 4) ⟨by omega, by omega, rfl, rfl⟩
          rintro m (n : Int) (y : Int) h1 next2 hn2 ⟨hy, hy0, rfl, rfl⟩
          refine brr_p (fun hlt => ?_) (fun hlt => ?_)
          · refine ⟨by decide, ?_⟩
            rw [crcT_machine, wrap64 (by omega) (by omega)]
            refine hn2 (m - 1) _ _ _ (by omega) ⟨by omega, by omega, rfl, ?_⟩
            rw [show (y + 1).toNat = y.toNat + 1 by omega, iter_succ']
          · have : y = 4 := by omega
            subst this
            exact hj3 _ _ ⟨rfl, rfl⟩
    · refine hj _ ⟨ts, ht, fun k hk => htk k (by omega), O⟩
theorem F_ref1_power.is {n : Int} {Q : Int → Heap → Prop} (h0 : 0 ≤ n) (h1 : n < 32) (k : Q ((2 ^ n.toNat : Nat) : Int) h) : F_ref1_power n h Q := by
  rw [F_ref1_power.eq_1, F_ref1_power_of.eq_1]
  refine jn1 (fun (x : Int) h' => h' = h ∧ x = ((2 ^ n.toNat : Nat) : Int)) ?_ ?_
  · rintro x h ⟨rfl, rfl⟩
    exact k
  · intro j hj
    rw [F_ref1_power.l1.eq_1]
    refine wl2 (k := .int .u32) (l := .int .i64) (fun (m : Nat) (x i : Int) (h' : Heap) => i + m = n ∧ 0 ≤ i ∧ h' = h ∧ x = ((2 ^ i.toNat : Nat) : Int)) ?_ (m := n.toNat) ⟨by omega, by omega, rfl, rfl⟩
    rintro m (x : Int) (i : Int) h next hn ⟨hi, hi0, rfl, rfl⟩
    refine brr_p (fun hlt => ?_) (fun hlt => ?_)
    · have hp : 2 ^ (i.toNat + 1) ≤ 2 ^ 31 := Nat.pow_le_pow_right (by decide) (by omega)
      rw [Nat.pow_succ] at hp
      rw [wrapu32 (by omega) (by omega), wrap64 (by omega) (by omega)]
      refine hn (m - 1) _ _ _ (by omega) ⟨by omega, by omega, rfl, ?_⟩
      rw [show (i + 1).toNat = i.toNat + 1 by omega, Nat.pow_succ]
      simp
    · have : i = n := by omega
      subst this
      exact hj _ _ ⟨rfl, rfl⟩
theorem mirr_machine1 (n : W32) : IntKind.u32.wrap ((n.toNat : Int).tdiv 2) = ((n >>> 1).toNat : Int) := by
  have := n.isLt
  rw [Int.tdiv_eq_ediv_of_nonneg (by omega), wrapu32 (by omega) (by omega), BitVec.toNat_ushiftRight, Nat.shiftRight_eq_div_pow]
  simp
theorem dbl32 (m : W32) (b : Bool) : IntKind.u32.wrap ((IntKind.u32.wrap ((m.toNat : Int) * 2)) + (if b then 1 else 0)) = (((m <<< 1) ^^^ bitAt b 1#32).toNat : Int) := by
  have hm := m.isLt
  have h1 : IntKind.u32.wrap ((m.toNat : Int) * 2) = ((m <<< 1).toNat : Int) := by
    rw [BitVec.toNat_shiftLeft, Nat.shiftLeft_eq]
    unfold IntKind.wrap
    simp [IntKind.bits, IntKind.signed]
  rw [h1]
  have he : (m <<< 1).toNat % 2 = 0 := by
    rw [BitVec.toNat_shiftLeft, Nat.shiftLeft_eq]; omega
  have hlt := (m <<< 1).isLt
  cases b with
  | false => rw [if_neg (by decide), Int.add_zero, wrap32 (m <<< 1)]; simp [bitAt]
  | true =>
    rw [if_pos rfl, wrapu32 (by omega) (by omega)]
    simp only [bitAt, if_true, BitVec.toNat_xor]
    have : (m <<< 1).toNat ^^^ (1#32).toNat = (m <<< 1).toNat + 1 := by
      show (m <<< 1).toNat ^^^ 1 = _
      generalize (m <<< 1).toNat = n at *
      apply Nat.eq_of_testBit_eq
      intro i
      rw [Nat.testBit_xor]
      cases i with
      | zero => rw [Nat.testBit_zero, Nat.testBit_zero, Nat.testBit_zero, he, show (n + 1) % 2 = 1 by omega]; rfl
      | succ i => rw [Nat.testBit_succ, Nat.testBit_succ, Nat.testBit_succ, show (n + 1) / 2 = n / 2 by omega]; simp
    rw [this]
    simp
theorem mod2_bit (n : W32) : ((n.toNat : Int).tmod 2) = (if n.getLsbD 0 then 1 else 0) := by
  rw [Int.tmod_eq_emod_of_nonneg (by omega)]
  have h : n.getLsbD 0 = decide (n.toNat % 2 = 1) := by
    rw [← BitVec.testBit_toNat, Nat.testBit_zero]
  rw [h]
  by_cases e : n.toNat % 2 = 1
  · rw [if_pos (by simpa using e)]; omega
  · rw [if_neg (by simpa using e)]; omega
theorem and1_bitAt (n : W32) : n &&& 1#32 = bitAt (n.getLsbD 0) 1#32 := by
  apply BitVec.eq_of_getLsbD_eq
  intro i hi
  rw [BitVec.getLsbD_and, BitVec.getLsbD_one]
  by_cases h0 : i = 0
  · subst h0; cases n.getLsbD 0 <;> simp [bitAt]
  · cases n.getLsbD 0 <;> simp [bitAt, h0]
theorem F_ref1_mirrored.is {n : W32} {Q : Int → Heap → Prop} (k : Q ((mirr 32 n 0#32).toNat : Int) h) : F_ref1_mirrored (n.toNat : Int) h Q := by
  rw [F_ref1_mirrored.eq_1, F_ref1_mirrored_of.eq_1]
  refine jn1 (fun (x : Int) h' => h' = h ∧ x = ((mirr 32 n 0#32).toNat : Int)) ?_ ?_
  · rintro x h ⟨rfl, rfl⟩
    exact k
  · intro j hj
    rw [F_ref1_mirrored.l1.eq_1]
    refine wl3 (k := .int .u32) (l := .int .u32) (l3 := .int .i64) (fun (m : Nat) (x y i : Int) (h' : Heap) => i + m = 32 ∧ 0 ≤ i ∧ h' = h ∧ ∃ a c : W32, x = (a.toNat : Int) ∧ y = (c.toNat : Int) ∧ mirr m a c = mirr 32 n 0#32) ?_ (m := 32) ⟨by omega, by omega, rfl, n, 0#32, rfl, rfl, rfl⟩
    rintro m (x : Int) (y : Int) (i : Int) h next hn ⟨hi, hi0, rfl, a, c, rfl, rfl, he⟩
    refine brr_p (fun hlt => ?_) (fun hlt => ?_)
    · refine ⟨by decide, by decide, ?_⟩
      rw [mirr_machine1, mod2_bit, dbl32, wrap64 (by omega) (by omega)]
      obtain ⟨m, rfl⟩ : ∃ k, m = k + 1 := ⟨m - 1, by omega⟩
      refine hn m _ _ _ _ (by omega) ⟨by omega, by omega, rfl, _, _, rfl, rfl, ?_⟩
      rw [← he, mirr, and1_bitAt]
    · have : m = 0 := by omega
      subst this
      exact hj _ _ ⟨rfl, by rw [← he]; rfl⟩
def refBits (l : List UInt8) : List Bool := ((bitsOf l ++ List.replicate 32 false).take 32).map (!·) ++ (bitsOf l ++ List.replicate 32 false).drop 32
theorem bitsOf_len : ∀ (l : List UInt8), (bitsOf l).length = 8 * l.length
  | [] => rfl
  | c :: l => by
    unfold bitsOf
    rw [List.flatMap_cons, List.length_append, show (bits8 c).length = 8 by simp [bits8]]
    have := bitsOf_len l
    unfold bitsOf at this
    rw [this, List.length_cons]
    omega
theorem bitsOf_at : ∀ (l : List UInt8) (i k : Nat) (c : UInt8), l[i]? = some c → k < 8 → (bitsOf l)[8 * i + k]? = some (c.toNat.testBit k)
  | [], i, k, c, h, _ => by simp at h
  | d :: l, 0, k, c, h, hk => by
    simp at h; subst h
    unfold bitsOf
    rw [List.flatMap_cons, List.getElem?_append_left (by simp [bits8]; omega)]
    simp [bits8, hk]
  | d :: l, i + 1, k, c, h, hk => by
    unfold bitsOf
    rw [List.flatMap_cons, List.getElem?_append_right (by simp [bits8]; omega)]
    have := bitsOf_at l i k c (by simpa using h) hk
    unfold bitsOf at this
    rw [show 8 * (i + 1) + k - (bits8 d).length = 8 * i + k by simp [bits8]; omega]
    exact this
def refBit (l : List UInt8) (i k : Nat) : Bool := (match l[i]? with | some c => c.toNat.testBit k | none => false) ^^ decide (i < 4)
theorem refBits_at (l : List UInt8) (i k : Nat) (hi : i < l.length + 4) (hk : k < 8) : (refBits l)[8 * i + k]? = some (refBit l i k) := by
  have hz : (bitsOf l ++ List.replicate 32 false)[8 * i + k]? = some (match l[i]? with | some c => c.toNat.testBit k | none => false) := by
    by_cases h : i < l.length
    · have hc : l[i]? = some l[i] := List.getElem?_eq_getElem h
      rw [List.getElem?_append_left (by rw [bitsOf_len]; omega), hc, bitsOf_at l i k _ hc hk]
    · rw [List.getElem?_append_right (by rw [bitsOf_len]; omega), List.getElem?_eq_none (by omega : l.length ≤ i), bitsOf_len, List.getElem?_replicate, if_pos (by omega)]
  have hlen : ((bitsOf l ++ List.replicate 32 false).take 32).length = 32 := by simp
  unfold refBits refBit
  by_cases h4 : i < 4
  · rw [List.getElem?_append_left (by simp; omega), List.getElem?_map, List.getElem?_take, if_pos (by omega), hz]
    simp [h4]
  · rw [List.getElem?_append_right (by simp; omega), List.length_map, hlen, List.getElem?_drop, show 32 + (8 * i + k - 32) = 8 * i + k by omega, hz]
    simp [h4]
theorem refBits_len (l : List UInt8) : (refBits l).length = 8 * (l.length + 4) := by
  unfold refBits
  simp [bitsOf_len]
  omega
theorem ref_crc (l : List UInt8) : ~~~ (mirr 32 ((refBits l).foldl refStep 0#32) 0#32) = crc l := by
  rw [(Rev.zero.steps (refBits l)).mirr]
  unfold refBits crc
  rw [aug_turned (bitsOf l) ((bitsOf l ++ List.replicate 32 false).take 32) ((bitsOf l ++ List.replicate 32 false).drop 32) (List.take_append_drop _ _).symm (by simp), non_bits]
theorem take_snoc {α : Type} {l : List α} {j : Nat} {x : α} (h : l[j]? = some x) : l.take (j + 1) = l.take j ++ [x] := by
  rw [List.take_add_one, h]; rfl
theorem F_ref1_Sum.is {s : Sl} {l : List UInt8} {Q : Int → Heap → Prop} (V : Bytes h s l) (hl : l.length < 4611686018427387904) (kk : Q ((crc l).toNat : Int) h) : F_ref1_Sum s h Q := by
  rw [F_ref1_Sum.eq_1, F_ref1_Sum_of.eq_1]
  refine jn1 (fun (x : Int) h' => h' = h ∧ x = (((refBits l).foldl refStep 0#32).toNat : Int)) ?_ ?_
  · rintro x h ⟨rfl, rfl⟩
    refine F_ref1_mirrored.is ?_
    rw [not32, ref_crc]
    exact kk
  · intro j hj
    rw [F_ref1_Sum.l2.eq_1, V.len, wrap64 (by omega) (by omega)]
    refine wl2 (k := .int .u32) (l := .int .i64) (fun (m : Nat) (x i : Int) (h' : Heap) => i + m = l.length + 4 ∧ 0 ≤ i ∧ h' = h ∧ x = ((((refBits l).take (8 * i.toNat)).foldl refStep 0#32).toNat : Int)) ?_ (m := l.length + 4) ⟨by omega, by omega, rfl, rfl⟩
    rintro m (x : Int) (i : Int) h next hn ⟨hi, hi0, rfl, rfl⟩
    refine brr_p (fun hlt => ?_) (fun hlt => ?_)
    · refine jn1 (fun (x : Int) h' => h' = h ∧ x = ((((refBits l).take (8 * (i + 1).toNat)).foldl refStep 0#32).toNat : Int)) ?_ ?_
      · rintro x h ⟨rfl, rfl⟩
        rw [wrap64 (by omega) (by omega)]
        exact hn (m - 1) _ _ _ (by omega) ⟨by omega, by omega, rfl, rfl⟩
      · intro j2 hj2
        refine jn1 _ hj2 fun j3 hj3 => ?_
        rw [F_ref1_Sum.l1.eq_1, V.len]
        refine wl2 (k := .int .u32) (l := .int .i64) (fun (m : Nat) (x k : Int) (h' : Heap) => k + m = 8 ∧ 0 ≤ k ∧ h' = h ∧ x = ((((refBits l).take (8 * i.toNat + k.toNat)).foldl refStep 0#32).toNat : Int)) ?_ (m := 8) ⟨by omega, by omega, rfl, rfl⟩
        rintro m2 (x : Int) (k : Int) h next2 hn2 ⟨hk, hk0, rfl, rfl⟩
        refine brr_p (fun hlt8 => ?_) (fun hlt8 => ?_)
        · refine jn1 (fun (x : Int) h' => h' = h ∧ x = (if (match l[i.toNat]? with | some c => c.toNat.testBit k.toNat | none => false) then 1 else 0)) ?_ ?_
          · rintro x h ⟨rfl, rfl⟩
            refine jn1 (fun (x : Int) h' => h' = h ∧ x = (if refBit l i.toNat k.toNat then 1 else 0)) ?_ ?_
            · rintro x h ⟨rfl, rfl⟩
              refine ⟨by decide, ?_⟩
              have hb := refBits_at l i.toNat k.toNat (by omega) (by omega)
              have htk : (refBits l).take (8 * i.toNat + (k + 1).toNat) = (refBits l).take (8 * i.toNat + k.toNat) ++ [refBit l i.toNat k.toNat] := by
                rw [show 8 * i.toNat + (k + 1).toNat = 8 * i.toNat + k.toNat + 1 by omega]
                exact take_snoc hb
              generalize hr : ((refBits l).take (8 * i.toNat + k.toNat)).foldl refStep 0#32 = r at *
              have hnew : ((refBits l).take (8 * i.toNat + (k + 1).toNat)).foldl refStep 0#32 = refStep r (refBit l i.toNat k.toNat) := by
                rw [htk, List.foldl_append, hr]; rfl
              have htop : (IntKind.u32.wrap ((r.toNat : Int).tdiv 2147483648) == 1) = r.getLsbD 31 := by
                have hrl := r.isLt
                rw [Int.tdiv_eq_ediv_of_nonneg (by omega), wrapu32 (by omega) (by omega), ← BitVec.testBit_toNat, Nat.testBit_eq_decide_div_mod_eq]
                by_cases h : r.toNat / 2147483648 = 1
                · have h1 : ((r.toNat : Int) / 2147483648 == 1) = true := by simp; omega
                  rw [h1, show r.toNat / 2 ^ 31 % 2 = 1 by rw [show 2 ^ 31 = 2147483648 by decide, h]]
                  rfl
                · have h1 : ((r.toNat : Int) / 2147483648 == 1) = false := by simp; omega
                  rw [h1, show r.toNat / 2 ^ 31 % 2 = 0 by rw [show 2 ^ 31 = 2147483648 by decide]; omega]
                  rfl
              refine jn1 (fun (x : Int) h' => h' = h ∧ x = ((refStep r (refBit l i.toNat k.toNat)).toNat : Int)) ?_ ?_
              · rintro x h ⟨rfl, rfl⟩
                rw [wrap64 (by omega) (by omega)]
                exact hn2 (m2 - 1) _ _ _ (by omega) ⟨by omega, by omega, rfl, by rw [hnew]⟩
              · intro j4 hj4
                rw [htop, dbl32, xor32_ref]
                refine brr_of (fun ht => ?_) (fun ht => ?_)
                · refine hj4 _ _ ⟨rfl, ?_⟩
                  unfold refStep
                  rw [ht]; rfl
                · refine hj4 _ _ ⟨rfl, ?_⟩
                  unfold refStep
                  rw [ht]; simp
            · intro j4 hj4
              unfold refBit at hj4
              refine brr_p (fun h4 => ?_) (fun h4 => ?_)
              · refine hj4 _ _ ⟨rfl, ?_⟩
                rw [show decide (i.toNat < 4) = true by simp; omega]
                cases (match l[i.toNat]? with | some c => c.toNat.testBit k.toNat | none => false) <;> decide
              · refine hj4 _ _ ⟨rfl, ?_⟩
                rw [show decide (i.toNat < 4) = false by simp; omega]
                simp
          · intro j4 hj4
            refine brr_p (fun hil => ?_) (fun hil => ?_)
            · refine V.ix hi0 hil fun a cs c hc hlen hR hca => ?_
              subst hR
              refine ld_are hca (ldL_c (ldL_n ?_))
              refine F_ref1_power.is hk0 (by omega) ?_
              refine ⟨hca, ?_⟩
              have hp : 0 < 2 ^ k.toNat := Nat.pow_pos (by decide)
              refine ⟨by omega, by decide, ?_⟩
              refine hj4 _ _ ⟨rfl, ?_⟩
              have hcl := c.toNat_lt
              have hq : c.toNat / 2 ^ k.toNat ≤ c.toNat := Nat.div_le_self _ _
              have e1 : (c.toNat : Int) / ((2 ^ k.toNat : Nat) : Int) = ((c.toNat / 2 ^ k.toNat : Nat) : Int) := (Int.natCast_ediv _ _).symm
              rw [wrapu32 (x := (c.toNat : Int)) (by omega) (by omega), Int.tdiv_eq_ediv_of_nonneg (by omega), e1, hc]
              simp only [Nat.testBit_eq_decide_div_mod_eq]
              generalize c.toNat / 2 ^ k.toNat = q at *
              rw [wrapu32 (by omega) (by omega), Int.tmod_eq_emod_of_nonneg (by omega)]
              by_cases e : q % 2 = 1
              · rw [if_pos (by simpa using e)]; omega
              · rw [if_neg (by simpa using e)]; omega
            · refine hj4 _ _ ⟨rfl, ?_⟩
              rw [List.getElem?_eq_none (by omega)]
              rfl
        · have : k = 8 := by omega
          subst this
          refine hj3 _ _ ⟨rfl, ?_⟩
          rw [show 8 * i.toNat + (8 : Int).toNat = 8 * (i + 1).toNat by omega]
    · refine hj _ _ ⟨rfl, ?_⟩
      rw [List.take_of_length_le (by rw [refBits_len]; omega)]
end
end Go.Proofs.YthiginhigfieiaaGreatDoor.V
/- The program's Encode and Decode. -/
namespace Go.Proofs.YthiginhigfieiaaGreatDoor.V
open Go Go.RowKit
set_option linter.unusedVariables false
set_option linter.unusedSimpArgs false
section
variable {h0 h : Heap} {L : List Res} {b w : Nat} {m : Mg} {T : Bxs}
def encB (m : Mg) : List UInt8 := if wrongM m = 0 then sealB (bodyM m) else []
def hdB (ns : List Int) : List UInt8 := ns.flatMap fun n => fixB n.toNat 1
theorem hdB_len (ns : List Int) : (hdB ns).length = ns.length := by
  unfold hdB
  induction ns with
  | nil => rfl
  | cons n ns ih => rw [List.flatMap_cons, List.length_append, ih, fixB_len, List.length_cons]; omega
theorem F_message_Encode.l1.is {a : Nat} {ns : List Int} {j : Heap → Prop} (hn : ns.length = 4) (hb : ∀ n ∈ ns, 0 ≤ n ∧ n < 256) (O : Sat h0 h (wrR w [] :: own a (ns.flatMap i64c) :: L)) (hj : ∀ h', Sat h0 h' (wrR w (hdB ns) :: L) → j h') : F_message_Encode.l1 F_code_Writer_U8 (some (pt w 0)) (pt a 0) j 0 h := by
  rw [F_message_Encode.l1.eq_1]
  refine wl1 (k := .int .i64) (fun (n : Nat) (i : Int) (h' : Heap) => 0 ≤ i ∧ i + n = 4 ∧ Sat h0 h' (wrR w (hdB (ns.take i.toNat)) :: own a (ns.flatMap i64c) :: L)) ?_ (m := 4) ⟨by omega, by omega, by simpa [hdB] using O⟩
  clear O
  intro n (i : Int) h next hnx ⟨hi0, him, O⟩
  refine brr_p (fun hlt => ?_) (fun hlt => ?_)
  · have hx : ns[i.toNat]? = some (ns[i.toNat]'(by omega)) := List.getElem?_eq_getElem (by omega)
    generalize ns[i.toNat]'(by omega) = x at hx
    obtain ⟨g1, g2⟩ := hb x (List.mem_of_getElem? hx)
    have V := O.arr 1 i64c_len rfl
    rw [hn] at V
    refine V.get1 hi0 hx (fun x => x) (fun _ => rfl) ?_
    rw [wrapu8 (x := x) (by omega) (by omega)]
    have hl := hdB_len (ns.take i.toNat)
    have F := F_code_Writer_U8.is (n := x.toNat) (Q := fun h41 => next (IntKind.i64.wrap (i + 1)) h41) O (by omega) (by rw [hl, List.length_take]; omega) fun h O => ?_
    · rwa [show ((x.toNat : Nat) : Int) = x by omega] at F
    · rw [wrap64 (by omega) (by omega)]
      refine hnx (n - 1) _ _ (by omega) ⟨by omega, by omega, ?_⟩
      rw [show (i + 1).toNat = i.toNat + 1 by omega, take_succ_eq hx]
      unfold hdB at O ⊢
      rw [List.flatMap_append, List.flatMap_cons, List.flatMap_nil, List.append_nil]
      exact O
  · rw [List.take_of_length_le (by omega)] at O
    have O := O.swap.drop
    exact hj _ O
theorem bytF_le {f : Nat} (hm : mayF f m = true) : (bytF f m).length ≤ 32788 := by
  unfold mayF at hm
  rw [List.all_eq_true] at hm
  have key : ∀ p ∈ fp f, (bytP p m).length ≤ 16394 := fun p hp => bytP_le (fp_lt hp).1 (hm p hp)
  unfold bytF
  have h2 : ∀ l : List Nat, l.length ≤ 2 → (∀ p ∈ l, (bytP p m).length ≤ 16394) → (l.flatMap fun p => bytP p m).length ≤ 32788 := by
    intro l hl hk
    match l, hl with
    | [], _ => simp
    | [p], _ => have := hk p (by simp); simp; omega
    | [p, q], _ => have := hk p (by simp); have := hk q (by simp); simp; omega
  refine h2 _ ?_ key
  unfold fp
  split <;> simp
theorem fields_le {fs : List Nat} : (∀ f ∈ fs, mayF f m = true) → (fs.flatMap fun f => bytF f m).length ≤ fs.length * 32788 := by
  induction fs with
  | nil => intro _; simp
  | cons f fs ih =>
    intro hm
    have h1 := bytF_le (hm f List.mem_cons_self)
    have h2 := ih fun g hg => hm g (List.mem_cons_of_mem _ hg)
    rw [List.flatMap_cons, List.length_append, List.length_cons]
    omega
theorem F_message_Encode.l2.is {a : Nat} {v : Nat → Option FV} {s : Sl} {fs : List Nat} {l : List UInt8} {Φ : Fns} {j : Heap → Prop} (A : Wr2C Φ) (F : TabOk T v) (O : Sat h0 h (wrR w l :: own a (tabC v) :: bxR T :: L)) (S : Stays h0 L fun h => MsgAt h b m ∧ Bytes h m.v m.b) (V : Stays h0 L fun h => View h 1 (En usC) s fs) (hf : ∀ f ∈ fs, f < 16) (hn : fs.length ≤ 7) (hm : ∀ f ∈ fs, mayF f m = true) (hl : l.length ≤ 1000) (hj : ∀ h', Sat h0 h' (wrR w (l ++ fs.flatMap fun f => bytF f m) :: L) → j h') : F_message_Encode.l2 Φ (pt b 0) (some (pt w 0)) (pt a 0) s j 0 h := by
  rw [F_message_Encode.l2.eq_1]
  have hsl : s.len = fs.length := (V h O.drop.drop.drop).len
  refine wl1 (k := .int .i64) (fun (n : Nat) (i : Int) (h' : Heap) => 0 ≤ i ∧ i + n = fs.length ∧ Sat h0 h' (wrR w (l ++ (fs.take i.toNat).flatMap fun f => bytF f m) :: own a (tabC v) :: bxR T :: L)) ?_ (m := fs.length) ⟨by omega, by omega, by simpa using O⟩
  clear O
  intro n (i : Int) h next hnx ⟨hi0, him, O⟩
  rw [hsl]
  refine brr_p (fun hlt => ?_) (fun hlt => ?_)
  · have hx : fs[i.toNat]? = some (fs[i.toNat]'(by omega)) := List.getElem?_eq_getElem (by omega)
    generalize fs[i.toNat]'(by omega) = x at hx
    have hmx := hm x (List.mem_of_getElem? hx)
    have hx16 := hf x (List.mem_of_getElem? hx)
    refine (V h O.drop.drop.drop).get1 hi0 hx (fun x => (x : Int)) (fun _ => rfl) ?_
    refine ⟨by omega, by omega, ?_⟩
    simp only [pt_add, Nat.zero_add, Int.toNat_natCast]
    have c := O.cells 1 rfl 0 (tabC v).length
    rw [List.drop_zero, List.take_length] at c
    refine tab_ld (by omega) c ?_
    have Fx := F x hx16
    rw [show 4 * x + 2 = x * 4 + 2 by omega] at Fx
    have S2 : Sees h0 (own a (tabC v) :: bxR T :: L) b m T := fun h O => ⟨(S h O.drop.drop).1, (S h O.drop.drop).2, O.drop.bx⟩
    have hfl := fields_le (m := m) (fs := fs.take i.toNat) fun f hf => hm f (List.mem_of_mem_take hf)
    have htl : (fs.take i.toNat).length ≤ 7 := by rw [List.length_take]; omega
    refine fwrite_is A Fx hmx S2 (by rw [List.length_append]; omega) O fun h O => ?_
    rw [wrap64 (by omega) (by omega)]
    refine hnx (n - 1) _ _ (by omega) ⟨by omega, by omega, ?_⟩
    rw [show (i + 1).toNat = i.toNat + 1 by omega, take_succ_eq hx, List.flatMap_append, List.flatMap_cons, List.flatMap_nil, List.append_nil, ← List.append_assoc]
    exact O
  · rw [List.take_of_length_le (by omega)] at O
    have O := O.sel [0] 3 rfl (Nat.le_add_left _ _)
    simp only [selT, List.map, nth, List.drop, List.cons_append, List.nil_append] at O
    exact hj _ O
theorem flat_kp {k : Int} : ((usN k.toNat).flatMap fun f => bytF f m) = (kp k).flatMap fun p => bytP p m := by
  unfold kp bytF
  rw [← kp_us, List.flatMap_assoc]
set_option maxRecDepth 20000 in
theorem F_message_Encode.is {Q : Sl → Int → Heap → Prop} (O : Sat h0 h L) (U : Us h0) (V : Stays h0 L fun h => Bytes h m.v m.b) (ok : Pos m) (k : ∀ s h', Sat h0 h' (buf 1 u8 s (encB m) :: L) → Q s (wrongM m) h') : F_message_Encode m.kind m.frm m.to m.shard m.epoch m.te m.ts m.round m.span m.seen m.v m.peer m.num m.name m.other m.amount m.life m.id m.op m.client m.state m.bad h Q := by
  rw [F_message_Encode.eq_1, F_message_Encode_of.eq_1]
  refine O.al fun b h O => ?_
  have O : Sat h0 h (own b (mgC m) :: L) := O
  have C : Stays h0 (own b (mgC m) :: L) fun h => MsgAt h b m ∧ Bytes h m.v m.b := fun h O => by
    have c := O.cells 0 rfl 0 (mgC m).length
    rw [List.drop_zero, List.take_length] at c
    have V1 := V h O.drop
    exact ⟨⟨c, V1.len⟩, V1⟩
  refine F_message_wrong.is O U (fun h O => (C h O).1) ok fun h O => ?_
  refine brr_ne (fun e => ?_) (fun e => ?_)
  · refine k _ _ ?_
    unfold encB
    rw [if_neg e]
    exact O.drop.nil_buf
  obtain ⟨hk, hh, hf⟩ := wrong_zero e
  refine F_code_New.is O fun w h O => ?_
  have C1 := (C h O.drop).1.1
  simp only [nn_some, pt_add, Nat.zero_add, Nat.add_zero, Nat.reduceAdd, Nat.reduceMul, Int.toNat_zero, Int.toNat_one, Nat.zero_mul, Nat.one_mul]
  refine ldo C1 (ldL_c (ldL_n ?_))
  refine ldo C1 (ldL_c (ldL_n ?_))
  refine ldo C1 (ldL_c (ldL_n ?_))
  refine ldo C1 (ldL_c (ldL_n ?_))
  refine O.al fun a h O => ?_
  have O : Sat h0 h (own a ([m.kind, m.frm, m.to, m.shard].flatMap i64c) :: wrR w [] :: own b (mgC m) :: L) := O
  refine jn0 (fun h' => Sat h0 h' (wrR w (hdB [m.kind, m.frm, m.to, m.shard]) :: own b (mgC m) :: L)) ?_ ?_
  · clear O C1
    intro h O
    refine F_message_table.is O fun T v h O F => ?_
    refine O.al fun a h O => ?_
    refine O.st 0 rfl (by simp only [List.length_cons, List.length_nil]; omega) (tabC_one (v := v)) fun h O => ?_
    dsimp only [List.set] at O
    rw [put_all (by rfl)] at O
    have O : Sat h0 h (own a (tabC v) :: bxR T :: wrR w (hdB [m.kind, m.frm, m.to, m.shard]) :: own b (mgC m) :: L) := O
    have C1 := (C h O.drop.drop.drop).1.1
    refine ldo C1 (ldL_c (ldL_n ?_))
    obtain ⟨s, c1, hV⟩ := U.at_ m.kind.toNat (by omega)
    refine ⟨by omega, by omega, ?_⟩
    simp only [nn_some, pt_add, Nat.zero_add, Nat.add_zero, Nat.reduceAdd, Nat.reduceMul, Int.toNat_zero, Int.toNat_one, Nat.zero_mul, Nat.one_mul, Nat.mul_one]
    refine ld_are (cellsAre_kept O.kept c1) (ldL_s (ldL_n ?_))
    refine jn0 (fun h' => Sat h0 h' (wrR w (bodyM m) :: L)) ?_ ?_
    · clear O C1
      intro h O
      have hlen : (bodyM m).length ≤ 300000 := by
        have := fields_le (m := m) (fs := usN m.kind.toNat) fun f hfm => by
          unfold mayF
          rw [List.all_eq_true]
          intro p hp
          exact (hf p (fp_lt hp).1).1 ((fp_us hp).2 hfm)
        have h7 := (us_small m.kind.toNat).1
        rw [flat_kp] at this
        unfold bodyM bodyH
        simp only [List.length_append, fixB_len]
        omega
      refine F_code_Writer_Out.is O (by omega) fun s h O => ?_
      have V1 := (O.view 0 u8_len (by simp) rfl).1
      refine F_code_Sum.is V1 (by omega) fun h2 hk2 => ?_
      have O := O.kept2 hk2
      have O := O.drop
      have hlt := (crc (bodyM m)).isLt
      refine F_code_Writer_U32.is O (by omega) (by omega) fun h O => ?_
      refine F_code_Writer_Out.is O (by rw [List.length_append, fixB_len]; omega) fun s h O => ?_
      have O := O.sel [0] 2 rfl (Nat.le_add_left _ _)
      simp only [selT, List.map, nth, List.drop, List.cons_append, List.nil_append] at O
      have := k s h (by unfold encB; rw [if_pos e]; exact O)
      rwa [e] at this
    · intro j hj
      have O := O.sel [2, 0, 1] 3 rfl (Nat.le_add_left _ _)
      simp only [selT, List.map, nth, List.drop, List.cons_append, List.nil_append] at O
      refine F_message_Encode.l2.is (fs := usN m.kind.toNat) ⟨⟨rfl, rfl, rfl, rfl, rfl, rfl⟩, rfl⟩ F O C (fun h O => hV.kept O.kept) (us_small _).2 (us_small _).1 ?_ (by rw [hdB_len]; simp) ?_
      · intro f hfm
        unfold mayF
        rw [List.all_eq_true]
        intro p hp
        exact (hf p (fp_lt hp).1).1 ((fp_us hp).2 hfm)
      · intro h O
        refine hj h ?_
        rw [flat_kp] at O
        have O := O.swap.drop
        have e : hdB [m.kind, m.frm, m.to, m.shard] = bodyH m := by
          unfold hdB bodyH
          simp only [List.flatMap_cons, List.flatMap_nil, List.append_nil, List.append_assoc]
        rw [e] at O
        exact O
  · intro j hj
    refine F_message_Encode.l1.is (ns := [m.kind, m.frm, m.to, m.shard]) rfl ?_ O.swap ?_
    · intro n hn
      simp at hn
      rcases hn with rfl | rfl | rfl | rfl <;> omega
    · intro h O
      exact hj h O
end
end Go.Proofs.YthiginhigfieiaaGreatDoor.V
/- The program's Decode. -/
namespace Go.Proofs.YthiginhigfieiaaGreatDoor.V
open Go Go.RowKit
set_option linter.unusedVariables false
set_option linter.unusedSimpArgs false
section
variable {h0 h : Heap} {L : List Res} {b r : Nat} {m : Mg} {T : Bxs} {x : RS}
theorem fold_ok {lim : Nat → Nat} : ∀ (ps : List Nat) (x : RS × Mg), x.1.Ok → (ps.foldl (rdP1 lim) x).1.Ok ∧ (ps.foldl (rdP1 lim) x).1.b = x.1.b
  | [], x, o => ⟨o, rfl⟩
  | p :: ps, x, o => by
    have h1 := one_ok (lim := lim) (p := p) o
    have h2 := fold_ok (lim := lim) ps (rdP1 lim x p) h1.1
    exact ⟨h2.1, h2.2.trans h1.2⟩
theorem pos_one {lim : Nat → Nat} {x : RS × Mg} {p : Nat} (hp : p < 18) (h : Pos x.2) : Pos (rdP1 lim x p).2 := by
  intro q hq
  by_cases e : p = q
  · subst e
    rw [(at_of hp).1 hq]
    have h2 : pk p ≠ 2 := by rcases (cas hp hq).1 rfl with rfl | rfl | rfl | rfl | rfl | rfl | rfl | rfl | rfl <;> decide
    show 0 ≤ pget p (pset p _ [] x.2)
    rw [(pset_self hp).1 h2]
    exact Int.natCast_nonneg _
  · have : pget q (rdP1 lim x p).2 = pget q x.2 := by
      unfold rdP1
      split
      · exact (pset_get e).1
      split
      · exact (pset_get e).1
      · exact (pset_get e).1
    rw [this]
    exact h q hq
theorem pos_fold {lim : Nat → Nat} : ∀ (ps : List Nat) (x : RS × Mg), (∀ p ∈ ps, p < 18) → Pos x.2 → Pos (ps.foldl (rdP1 lim) x).2
  | [], x, _, o => o
  | p :: ps, x, hp, o => pos_fold ps _ (fun q hq => hp q (List.mem_cons_of_mem _ hq)) (pos_one (hp p List.mem_cons_self) o)
def hdSet (i : Nat) (n : Int) (m : Mg) : Mg := { m with kind := if i = 0 then n else m.kind, frm := if i = 1 then n else m.frm, to := if i = 2 then n else m.to, shard := if i = 3 then n else m.shard }
def hstep (x : RS × Mg) (i : Nat) : RS × Mg := (x.1.next 1, hdSet i ((beN (x.1.nextB 1) : Nat) : Int) x.2)
theorem rdH_fold (r : RS) : (List.range 4).foldl hstep (r, mgz) = rdH r := rfl
theorem hstep_ok : ∀ (ps : List Nat) (x : RS × Mg), x.1.Ok → (ps.foldl hstep x).1.Ok ∧ (ps.foldl hstep x).1.b = x.1.b
  | [], x, o => ⟨o, rfl⟩
  | p :: ps, x, o => by
    have h2 := hstep_ok ps (hstep x p) (o.next 1)
    exact ⟨h2.1, h2.2.trans RS.next_b⟩
theorem hdSet_put {i : Nat} {n : Int} {s : Sl} (hi : i < 4) : V.put (mgC { m with v := s }) i [.int .i64 n] = mgC { hdSet i n m with v := s } ∧ (hdSet i n m).b = m.b := by
  rcases (by omega : i = 0 ∨ i = 1 ∨ i = 2 ∨ i = 3) with rfl | rfl | rfl | rfl <;> exact ⟨rfl, rfl⟩
theorem Sat.setHd {i : Nat} {n : Int} {K : Heap → Prop} (hi : i < 4) (O : Sat h0 h (mdR b m :: L)) (k : ∀ h', Sat h0 h' (mdR b (hdSet i n m) :: L) → K h') : V.st (pt b i) [.int .i64 n] h K := by
  obtain ⟨s, O⟩ := O.md
  refine O.st 0 rfl (by rw [mgC_len]; simp; omega) rfl fun h O => k h ?_
  dsimp only [List.set] at O
  obtain ⟨e1, e2⟩ := hdSet_put (m := m) (n := n) (s := s) hi
  rw [e1, ← e2] at O
  exact O.mdI
def ptC (b : Nat) (i : Nat) : List Value := [.pointer (some (pt b i))]
theorem F_message_Decode.l1.is {a : Nat} {j : Heap → Prop} (o : x.Ok) (O : Sat h0 h (rdR r x :: mdR b mgz :: own a ((List.range 4).flatMap (ptC b)) :: L)) (hj : ∀ h', Sat h0 h' (rdR r (rdH x).1 :: mdR b (rdH x).2 :: L) → j h') : F_message_Decode.l1 F_code_Reader_U8 (some (pt r 0)) (pt a 0) j 0 h := by
  rw [F_message_Decode.l1.eq_1]
  refine wl1 (k := .int .i64) (fun (n : Nat) (i : Int) (h' : Heap) => 0 ≤ i ∧ i + n = 4 ∧ Sat h0 h' (rdR r ((List.range i.toNat).foldl hstep (x, mgz)).1 :: mdR b ((List.range i.toNat).foldl hstep (x, mgz)).2 :: own a ((List.range 4).flatMap (ptC b)) :: L)) ?_ (m := 4) ⟨by omega, by omega, O⟩
  clear O
  intro n (i : Int) h next hnx ⟨hi0, him, O⟩
  refine brr_p (fun hlt => ?_) (fun hlt => ?_)
  · have hx : (List.range 4)[i.toNat]? = some i.toNat := by rw [List.getElem?_range (by omega)]
    have V := O.arr (enc := ptC b) (xs := List.range 4) 2 (fun _ => rfl) rfl
    refine View.get1 (k := .ptr) V hi0 hx (fun i => some (pt b i)) (fun _ => rfl) ?_
    have o1 := hstep_ok (List.range i.toNat) (x, mgz) o
    generalize he : (List.range i.toNat).foldl hstep (x, mgz) = y at O o1
    refine F_code_Reader_U8.is o1.1 O fun h O => ?_
    have hb := beN_lt (y.1.nextB 1)
    have hb1 : 256 ^ (y.1.nextB 1).length ≤ 256 ^ 1 := Nat.pow_le_pow_right (by decide) (nextB_len y.1 1)
    rw [nn_some, wrap64 (by omega) (by omega), wrap64 (by omega) (by omega)]
    refine O.swap.setHd (by omega) fun h O => ?_
    refine hnx (n - 1) _ _ (by omega) ⟨by omega, by omega, ?_⟩
    rw [show (i + 1).toNat = i.toNat + 1 by omega, List.range_succ, List.foldl_append, he]
    exact O.swap
  · rw [show i.toNat = 4 by omega, rdH_fold] at O
    have O := O.sel [0, 1] 3 rfl (Nat.le_add_left _ _)
    simp only [selT, List.map, nth, List.drop, List.cons_append, List.nil_append] at O
    exact hj _ O
theorem F_message_Decode.l2.is {a : Nat} {v : Nat → Option FV} {s : Sl} {fs : List Nat} {Φ : Fns} {j : Heap → Prop} (A : Rd2C Φ) (F : TabOk T v) (o : x.Ok) (hx0 : x.b.length ≤ (140737488355325 : Nat)) (O : Sat h0 h (rdR r x :: mdR b m :: own a (tabC v) :: bxR T :: L)) (V : Stays h0 L fun h => View h 1 (En usC) s fs) (hf : ∀ f ∈ fs, f < 16) (hn : fs.length ≤ 7) (hj : ∀ h', Sat h0 h' (rdR r ((fs.flatMap fp).foldl (rdP1 pmax) (x, m)).1 :: mdR b ((fs.flatMap fp).foldl (rdP1 pmax) (x, m)).2 :: L) → j h') : F_message_Decode.l2 Φ (some (pt r 0)) (pt b 0) (pt a 0) s j 0 h := by
  rw [F_message_Decode.l2.eq_1]
  have hsl : s.len = fs.length := (V h O.drop.drop.drop.drop).len
  refine wl1 (k := .int .i64) (fun (n : Nat) (i : Int) (h' : Heap) => 0 ≤ i ∧ i + n = fs.length ∧ Sat h0 h' (rdR r (((fs.take i.toNat).flatMap fp).foldl (rdP1 pmax) (x, m)).1 :: mdR b (((fs.take i.toNat).flatMap fp).foldl (rdP1 pmax) (x, m)).2 :: own a (tabC v) :: bxR T :: L)) ?_ (m := fs.length) ⟨by omega, by omega, O⟩
  clear O
  intro n (i : Int) h next hnx ⟨hi0, him, O⟩
  rw [hsl]
  refine brr_p (fun hlt => ?_) (fun hlt => ?_)
  · have hx : fs[i.toNat]? = some (fs[i.toNat]'(by omega)) := List.getElem?_eq_getElem (by omega)
    generalize fs[i.toNat]'(by omega) = f at hx
    have hx16 := hf f (List.mem_of_getElem? hx)
    refine (V h O.drop.drop.drop.drop).get1 hi0 hx (fun x => (x : Int)) (fun _ => rfl) ?_
    refine ⟨by omega, by omega, ?_⟩
    simp only [pt_add, Nat.zero_add, Int.toNat_natCast]
    have c := O.cells 2 rfl 0 (tabC v).length
    rw [List.drop_zero, List.take_length] at c
    refine tab_ld (by omega) c ?_
    have Fx := F f hx16
    rw [show 4 * f + 3 = f * 4 + 3 by omega] at Fx
    have o1 := fold_ok (lim := pmax) ((fs.take i.toNat).flatMap fp) (x, m) o
    generalize he : ((fs.take i.toNat).flatMap fp).foldl (rdP1 pmax) (x, m) = y at O o1
    refine fread_is A Fx (fun h O => O.drop.bx) o1.1 (by rw [o1.2]; exact hx0) O fun h O => ?_
    rw [wrap64 (by omega) (by omega)]
    refine hnx (n - 1) _ _ (by omega) ⟨by omega, by omega, ?_⟩
    rw [show (i + 1).toNat = i.toNat + 1 by omega, take_succ_eq hx, List.flatMap_append, List.flatMap_cons, List.flatMap_nil, List.append_nil, List.foldl_append, he]
    exact O
  · rw [List.take_of_length_le (by omega)] at O
    have O := O.sel [0, 1] 4 rfl (Nat.le_add_left _ _)
    simp only [selT, List.map, nth, List.drop, List.cons_append, List.nil_append] at O
    exact hj _ O
def decP (l : List UInt8) : Mg × Int := if l.length < 4 ∨ 17000 < l.length then (mgz, 81) else if beN (l.drop (l.length - 4)) = (crc (l.take (l.length - 4))).toNat then decX (l.take (l.length - 4)) else (mgz, 82)
def zC : List Value := mgC mgz
def nilS : Sl := ⟨none, 0, 0⟩
theorem zero_out {Q : YQ} {a : Nat} (O : Sat h0 h (own a zC :: L)) (k : ∀ h', Sat h0 h' L → Q mgz.kind mgz.frm mgz.to mgz.shard mgz.epoch mgz.te mgz.ts mgz.round mgz.span mgz.seen nilS mgz.peer mgz.num mgz.name mgz.other mgz.amount mgz.life mgz.id mgz.op mgz.client mgz.state mgz.bad h') : V.st (pt a 0) zC h fun h7 => ld K22 (pt a 0) h7 fun (v8 : Int) (v9 : Int) (v10 : Int) (v11 : Int) (v12 : Int) (v13 : Int) (v14 : Int) (v15 : Int) (v16 : Int) (v17 : Int) (v18 : Sl) (v19 : Int) (v20 : Int) (v21 : ByteArray) (v22 : ByteArray) (v23 : Int) (v24 : Int) (v25 : Int) (v26 : Int) (v27 : Int) (v28 : Int) (v29 : Int) => Q v8 v9 v10 v11 v12 v13 v14 v15 v16 v17 v18 v19 v20 v21 v22 v23 v24 v25 v26 v27 v28 v29 h7 := by
  refine O.st 0 rfl (by simp) rfl fun h O => ?_
  dsimp only [List.set] at O
  rw [put_all rfl] at O
  refine O.ld 0 rfl (ldL_c (ldL_c (ldL_c (ldL_c (ldL_c (ldL_c (ldL_c (ldL_c (ldL_c (ldL_c (ldL_s (ldL_c (ldL_c (ldL_c (ldL_c (ldL_c (ldL_c (ldL_c (ldL_c (ldL_c (ldL_c (ldL_c (ldL_n ?_)))))))))))))))))))))))
  exact k h O.drop
theorem mgC_ld {s : Sl} {K : Int → Int → Int → Int → Int → Int → Int → Int → Int → Int → Sl → Int → Int → ByteArray → ByteArray → Int → Int → Int → Int → Int → Int → Int → Prop} (k : K m.kind m.frm m.to m.shard m.epoch m.te m.ts m.round m.span m.seen s m.peer m.num m.name m.other m.amount m.life m.id m.op m.client m.state m.bad) : ldL K22 (mgC { m with v := s }) K := (ldL_c (ldL_c (ldL_c (ldL_c (ldL_c (ldL_c (ldL_c (ldL_c (ldL_c (ldL_c (ldL_s (ldL_c (ldL_c (ldL_c (ldL_c (ldL_c (ldL_c (ldL_c (ldL_c (ldL_c (ldL_c (ldL_c (ldL_n k)))))))))))))))))))))))
set_option maxRecDepth 20000 in
theorem F_message_Decode.isW {a : Sl} {xs : List UInt8} {Q : Int → Int → Int → Int → Int → Int → Int → Int → Int → Int → Sl → Int → Int → ByteArray → ByteArray → Int → Int → Int → Int → Int → Int → Int → Int → Heap → Prop} (O : Sat h0 h L) (U : Us h0) (E : Er h0) (Vx : Stays h0 L fun h => Bytes h a xs ∧ a.len ≤ a.cap) {d : Mg} {e : Int} (hx : xs.length < 4611686018427387904) (hd : decP xs = (d, e)) (k : ∀ s h', Sat h0 h' (buf 1 u8 s d.b :: L) → Q d.kind d.frm d.to d.shard d.epoch d.te d.ts d.round d.span d.seen s d.peer d.num d.name d.other d.amount d.life d.id d.op d.client d.state d.bad e h') : F_message_Decode a h Q := by
  rw [F_message_Decode.eq_1, F_message_Decode_of.eq_1]
  have hlen := (Vx h O).1.len
  refine O.al fun z h O => ?_
  have O : Sat h0 h (own z zC :: L) := O
  have bad : ∀ (e : Int) (h : Heap), decP xs = (mgz, e) → Sat h0 h (own z zC :: L) → V.st (pt z 0) zC h fun h7 => ld K22 (pt z 0) h7 fun (v8 : Int) (v9 : Int) (v10 : Int) (v11 : Int) (v12 : Int) (v13 : Int) (v14 : Int) (v15 : Int) (v16 : Int) (v17 : Int) (v18 : Sl) (v19 : Int) (v20 : Int) (v21 : ByteArray) (v22 : ByteArray) (v23 : Int) (v24 : Int) (v25 : Int) (v26 : Int) (v27 : Int) (v28 : Int) (v29 : Int) => Q v8 v9 v10 v11 v12 v13 v14 v15 v16 v17 v18 v19 v20 v21 v22 v23 v24 v25 v26 v27 v28 v29 e h7 := by
    intro e h he O
    refine zero_out (Q := fun v8 v9 v10 v11 v12 v13 v14 v15 v16 v17 v18 v19 v20 v21 v22 v23 v24 v25 v26 v27 v28 v29 h7 => Q v8 v9 v10 v11 v12 v13 v14 v15 v16 v17 v18 v19 v20 v21 v22 v23 v24 v25 v26 v27 v28 v29 e h7) O fun h O => ?_
    obtain ⟨rfl, rfl⟩ := Prod.mk.inj (hd.symm.trans he)
    exact k nilS h O.nil_buf
  refine jn1 (fun (y : Bool) h' => h' = h ∧ y = decide (xs.length < 4 ∨ 17000 < xs.length)) ?_ ?_
  · rintro y h1 ⟨e, rfl⟩
    subst e
    refine brr_p (fun hb => ?_) (fun hb => ?_)
    · exact bad 81 _ (by unfold decP; rw [if_pos hb]) O
    have hx : xs.length ≤ (140737488355325 : Nat) := by omega
    obtain ⟨hV, hcap⟩ := Vx h1 O.drop
    rw [hlen, wrap64 (by omega) (by omega)]
    have et : (((xs.length : Nat) : Int) - 4).toNat = xs.length - 4 := by omega
    refine ⟨by omega, by omega, ?_⟩
    refine ⟨by omega, by omega, ?_⟩
    rw [et]
    have Vt : Stays h0 L fun h => Bytes h ⟨a.ptr, xs.length - 4, a.cap⟩ (xs.take (xs.length - 4)) := fun h O => (Vx h O).1.take _ _ (by omega)
    have Vd : Stays h0 L fun h => Bytes h ⟨slp 1 a (xs.length - 4), a.len - (xs.length - 4), a.cap - (xs.length - 4)⟩ (xs.drop (xs.length - 4)) := fun h O => by
      have := (Vx h O).1.slice (xs.length - 4) xs.length (a.cap - (xs.length - 4)) (by omega) (Nat.le_refl _) (Vx h O).2
      rw [List.take_of_length_le (by rw [List.length_drop]; omega)] at this
      rw [hlen]
      exact this
    refine F_code_Read.is O (Vd h1 O.drop) (by rw [List.length_drop]; omega) fun r h O => ?_
    have o0 : RS.Ok ⟨xs.drop (xs.length - 4), 0, 0⟩ := ⟨Nat.zero_le _, by show (xs.drop (xs.length - 4)).length ≤ _; rw [List.length_drop]; omega, Nat.zero_le _⟩
    refine F_code_Reader_U32.is o0 O fun h O => ?_
    refine F_code_Sum.is (Vt h O.drop.drop) (by rw [List.length_take]; omega) fun h2 hk2 => ?_
    have O := (O.kept2 hk2).drop
    have e4 : RS.nextB ⟨xs.drop (xs.length - 4), 0, 0⟩ 4 = xs.drop (xs.length - 4) := by
      unfold RS.nextB RS.left
      rw [if_neg (by simp), if_neg (by simp only [List.length_drop]; omega)]
      simp only [List.drop_zero]
      rw [List.take_of_length_le (by rw [List.length_drop]; omega)]
    rw [e4]
    refine brr_ne (fun he => ?_) (fun he => ?_)
    · exact bad 82 _ (by unfold decP; rw [if_neg hb, if_neg (by omega)]) O
    have hdec : decP xs = decX (xs.take (xs.length - 4)) := by unfold decP; rw [if_neg hb, if_pos (by omega)]
    generalize hys : xs.take (xs.length - 4) = ys at *
    have hyl : ys.length ≤ 17000 := by rw [← hys, List.length_take]; omega
    refine ⟨by omega, by omega, ?_⟩
    rw [et]
    refine F_code_Read.is O (Vt h2 O.drop) (by omega) fun r h O => ?_
    have o1 : RS.Ok ⟨ys, 0, 0⟩ := ⟨Nat.zero_le _, by show ys.length ≤ _; omega, Nat.zero_le _⟩
    refine O.al fun b h O => ?_
    have O : Sat h0 h (own b (mgC { mgz with v := ⟨none, 0, 0⟩ }) :: rdR r ⟨ys, 0, 0⟩ :: own z zC :: L) := O
    have O := (O.nil_buf (sz := 1) (enc := u8)).swap
    have O : Sat h0 h (mdR b mgz :: rdR r ⟨ys, 0, 0⟩ :: own z zC :: L) := O.mdI
    have O := O.swap
    refine O.al fun p h O => ?_
    simp only [nn_some, pt_add, Nat.zero_add, Nat.add_zero, Nat.reduceAdd, Nat.reduceMul, Int.toNat_zero, Int.toNat_one, Nat.zero_mul, Nat.one_mul]
    have O : Sat h0 h (own p ((List.range 4).flatMap (ptC b)) :: rdR r ⟨ys, 0, 0⟩ :: mdR b mgz :: own z zC :: L) := O
    have O := O.sel [1, 2, 0] 3 rfl (Nat.le_add_left _ _)
    simp only [selT, List.map, nth, List.drop, List.cons_append, List.nil_append] at O
    refine jn0 (fun h' => Sat h0 h' (rdR r (rdH ⟨ys, 0, 0⟩).1 :: mdR b (rdH ⟨ys, 0, 0⟩).2 :: own z zC :: L)) ?_ ?_
    · clear O
      intro h O
      obtain ⟨y, hy⟩ : ∃ y, y = rdH ⟨ys, 0, 0⟩ := ⟨_, rfl⟩
      have hkin : 0 ≤ y.2.kind := by rw [hy]; exact Int.natCast_nonneg _
      have oy : y.1.Ok ∧ y.1.b = ys := by rw [hy, ← rdH_fold]; exact hstep_ok _ _ o1
      have py : Pos y.2 := by
        rw [hy]
        intro q hq
        show 0 ≤ pget q mgz
        unfold pget
        split <;> decide
      have hall : rdAll pmax ⟨ys, 0, 0⟩ = (kp y.2.kind).foldl (rdP1 pmax) y := by unfold rdAll; rw [hy]
      rw [← hy] at O
      obtain ⟨s, O2⟩ := O.swap.md
      refine O2.ld 0 rfl (ldL_c (ldL_n ?_))
      show brr (decide (y.2.kind > 11)) _ _
      refine brr_p (fun hk => ?_) (fun hk => ?_)
      · refine bad 81 _ ?_ O.drop.drop
        rw [hdec]
        unfold decX
        rw [if_neg]
        rintro ⟨_, _, g⟩
        rw [hall] at g
        have := (wrong_zero g).1
        rw [(fold_head _ _).1] at this
        omega
      clear O2
      refine F_message_table.is O fun T v h O F => ?_
      refine O.al fun t h O => ?_
      refine O.st 0 rfl (by simp only [List.length_cons, List.length_nil]; omega) (tabC_one (v := v)) fun h O => ?_
      dsimp only [List.set] at O
      rw [put_all (by rfl)] at O
      have O : Sat h0 h (own t (tabC v) :: bxR T :: rdR r y.1 :: mdR b y.2 :: own z zC :: L) := O
      have O := O.sel [2, 3, 0, 1] 4 rfl (Nat.le_add_left _ _)
      simp only [selT, List.map, nth, List.drop, List.cons_append, List.nil_append] at O
      obtain ⟨s, O2⟩ := O.swap.md
      refine O2.ld 0 rfl (ldL_c (ldL_n ?_))
      clear O2
      obtain ⟨u, c1, hVu⟩ := U.at_ y.2.kind.toNat (by omega)
      show ixA 1 (pt 0 0) 12 y.2.kind _
      refine ⟨by omega, by omega, ?_⟩
      simp only [nn_some, pt_add, Nat.zero_add, Nat.add_zero, Nat.reduceAdd, Nat.reduceMul, Int.toNat_zero, Int.toNat_one, Nat.zero_mul, Nat.one_mul, Nat.mul_one]
      refine ld_are (cellsAre_kept O.kept c1) (ldL_s (ldL_n ?_))
      obtain ⟨w, hw⟩ : ∃ w, w = rdAll pmax ⟨ys, 0, 0⟩ := ⟨_, rfl⟩
      have hfl : (kp y.2.kind).foldl (rdP1 pmax) y = w := by rw [hw, hall]
      have ow : w.1.Ok ∧ w.1.b = ys := by
        have := fold_ok (lim := pmax) (kp y.2.kind) y oy.1
        rw [hfl] at this
        exact ⟨this.1, this.2.trans oy.2⟩
      have pw : Pos w.2 := by
        have := pos_fold (lim := pmax) (kp y.2.kind) y (kp_lt.2) py
        rwa [hfl] at this
      refine jn0 (fun h' => Sat h0 h' (rdR r w.1 :: mdR b w.2 :: own z zC :: L)) ?_ ?_
      · clear O
        intro h O
        obtain ⟨s, O⟩ := O.swap.md
        have hsl : s.len = w.2.b.length := (O.view 1 u8_len (by simp) rfl).1.len
        refine jn1 (fun (q : Bool) h' => q = !decide (w.1.met = 0 ∧ w.1.left = 0 ∧ wrongM w.2 = 0) ∧ Sat h0 h' (own b (mgC { w.2 with v := s }) :: buf 1 u8 s w.2.b :: rdR r w.1 :: own z zC :: L)) ?_ ?_
        · clear O
          rintro q h ⟨rfl, O⟩
          refine brr_not ?_
          refine brr_p (fun hg => ?_) (fun hg => ?_)
          · have hd2 : decP xs = (w.2, 0) := by
              rw [hdec]
              unfold decX
              rw [← hw, if_pos hg]
            obtain ⟨ed, ee⟩ := Prod.mk.inj (hd.symm.trans hd2)
            refine O.ld 0 rfl ?_
            refine mgC_ld ?_
            have O := O.sel [3, 0, 1] 4 rfl (Nat.le_add_left _ _)
            simp only [selT, List.map, nth, List.drop, List.cons_append, List.nil_append] at O
            refine O.st 0 rfl (by simp [zC, mgC]) rfl fun h O => ?_
            dsimp only [List.set] at O
            rw [put_all (by rfl)] at O
            have O : Sat h0 h (own z (mgC { w.2 with v := s }) :: own b (mgC { w.2 with v := s }) :: buf 1 u8 s w.2.b :: L) := O
            refine O.ld 0 rfl ?_
            refine mgC_ld ?_
            have k2 := k s h
            rw [ed, ee] at k2
            exact k2 O.drop.drop
          · refine bad 81 _ ?_ (O.sel [3] 4 rfl (Nat.le_add_left _ _))
            rw [hdec]
            unfold decX
            rw [← hw, if_neg hg]
        · intro j hj
          have O := O.sel [2, 0, 1] 3 rfl (Nat.le_add_left _ _)
          simp only [selT, List.map, nth, List.drop, List.cons_append, List.nil_append] at O
          refine F_code_Reader_End.is (E.sat O) ow.1 O ?_
          have hend : w.1.endN = 0 ↔ w.1.met = 0 ∧ w.1.left = 0 := by
            unfold RS.endN
            split
            · rename_i g
              exact ⟨fun e => absurd e (by decide), fun e => by omega⟩
            · rename_i g
              rw [erN_zero]
              exact ⟨fun e => ⟨e, by omega⟩, fun e => e.1⟩
          have O := O.sel [1, 2, 0] 3 rfl (Nat.le_add_left _ _)
          simp only [selT, List.map, nth, List.drop, List.cons_append, List.nil_append] at O
          refine brr_ne (fun e => ?_) (fun e => ?_)
          · refine hj _ _ ⟨?_, O⟩
            rw [decide_eq_false]
            · rfl
            · exact fun g => e (hend.2 ⟨g.1, g.2.1⟩)
          · have C : Stays h0 (own b (mgC { w.2 with v := s }) :: buf 1 u8 s w.2.b :: rdR r w.1 :: own z zC :: L) fun h => MsgAt h b { w.2 with v := s } := fun h O => by
              have c := O.cells 0 rfl 0 (mgC { w.2 with v := s }).length
              rw [List.drop_zero, List.take_length] at c
              exact ⟨c, hsl⟩
            refine F_message_wrong.is O U C pw fun h O => ?_
            refine hj _ _ ⟨?_, O⟩
            have e2 := hend.1 e
            show (wrongM w.2 != 0) = _
            by_cases e3 : wrongM w.2 = 0
            · rw [decide_eq_true ⟨e2.1, e2.2, e3⟩, e3]; rfl
            · rw [decide_eq_false fun g => e3 g.2.2]
              simpa using e3
      · intro j hj
        refine F_message_Decode.l2.is (fs := usN y.2.kind.toNat) ⟨⟨rfl, rfl, rfl, rfl, rfl, rfl⟩, rfl⟩ F oy.1 (by rw [oy.2]; omega) O (fun h O => hVu.kept O.kept) (us_small _).2 (us_small _).1 ?_
        intro h O
        rw [kp_us] at O
        have e : (kpN y.2.kind.toNat).foldl (rdP1 pmax) (y.1, y.2) = w := hfl
        rw [e] at O
        exact hj h O
    · intro j hj
      exact F_message_Decode.l1.is o1 O hj
  · intro j hj
    rw [hlen, wrap64 (by omega) (by omega)]
    refine brr_p (fun h1 => ?_) (fun h1 => ?_)
    · refine hj _ _ ⟨rfl, ?_⟩
      simp; omega
    · refine hj _ _ ⟨rfl, ?_⟩
      exact decide_eq_decide.2 (by omega)
theorem F_message_Decode.is {a : Sl} {xs : List UInt8} {Q : Int → Int → Int → Int → Int → Int → Int → Int → Int → Int → Sl → Int → Int → ByteArray → ByteArray → Int → Int → Int → Int → Int → Int → Int → Int → Heap → Prop} (O : Sat h0 h L) (U : Us h0) (E : Er h0) (Vx : Stays h0 L fun h => Bytes h a xs ∧ a.len ≤ a.cap) {d : Mg} {e : Int} (hx : xs.length ≤ (140737488355325 : Nat)) (hd : decP xs = (d, e)) (k : ∀ s h', Sat h0 h' (buf 1 u8 s d.b :: L) → Q d.kind d.frm d.to d.shard d.epoch d.te d.ts d.round d.span d.seen s d.peer d.num d.name d.other d.amount d.life d.id d.op d.client d.state d.bad e h') : F_message_Decode a h Q :=
  F_message_Decode.isW O U E Vx (by omega) hd k
end
end Go.Proofs.YthiginhigfieiaaGreatDoor.V
namespace Go.Proofs.YthiginhigfieiaaGreatDoor.V
open Go Go.RowKit
set_option linter.unusedVariables false
set_option maxRecDepth 100000
def F_ref0_EqMsg_of (f39_ : Y25) (a1 a2 a3 a4 a5 a6 a7 a8 a9 a10 : Int) (a11 : Sl) (a12 a13 : Int) (a14 a15 : ByteArray) (a16 a17 a18 a19 a20 a21 a22 b23 b24 b25 b26 b27 b28 b29 b30 b31 b32 : Int) (b33 : Sl) (b34 b35 : Int) (b36 b37 : ByteArray) (b38 b39 b40 b41 b42 b43 b44 : Int) (h : Heap) (Q : Bool → Heap → Prop) : Prop :=
  al 52 [.int .i64 a1, .int .i64 a2, .int .i64 a3, .int .i64 a4, .int .u64 a5, .int .u64 a6, .int .u64 a7, .int .u64 a8, .int .i64 a9, .int .u64 a10, .slice a11.ptr a11.len a11.cap, .int .i64 a12, .int .u64 a13, .string a14, .string a15, .int .u64 a16, .int .u64 a17, .int .u64 a18, .int .i64 a19, .int .i64 a20, .int .i64 a21, .int .i64 a22] h fun (a45 : Addr) (h46 : Heap) =>
  al 52 [.int .i64 b23, .int .i64 b24, .int .i64 b25, .int .i64 b26, .int .u64 b27, .int .u64 b28, .int .u64 b29, .int .u64 b30, .int .i64 b31, .int .u64 b32, .slice b33.ptr b33.len b33.cap, .int .i64 b34, .int .u64 b35, .string b36, .string b37, .int .u64 b38, .int .u64 b39, .int .u64 b40, .int .i64 b41, .int .i64 b42, .int .i64 b43, .int .i64 b44] h46 fun (a47 : Addr) (h48 : Heap) =>
  jn [(4, .one .bool)] (fun (x96 : Bool) (h97 : Heap) =>
  Q x96 h97) (fun (j49 : Bool → Heap → Prop) =>
  ld [.int .i64, .int .i64, .int .i64, .int .i64] (a45.add 0) h48 fun (v50 v51 v52 v53 : Int) =>
  ld [.int .i64, .int .i64, .int .i64, .int .i64] (a47.add 0) h48 fun (v54 v55 v56 v57 : Int) =>
  brr ((v50 == v54) && ((v51 == v55) && ((v52 == v56) && ((v53 == v57) && (true)))))
  (ld [.int .u64] (a45.add 4) h48 fun (v58 : Int) =>
  ld [.int .u64] (a47.add 4) h48 fun (v59 : Int) =>
  brr (v58 == v59)
  (ld [.int .u64, .int .u64] (a45.add 5) h48 fun (v60 v61 : Int) =>
  ld [.int .u64, .int .u64] (a47.add 5) h48 fun (v62 v63 : Int) =>
  brr ((v60 == v62) && ((v61 == v63) && (true)))
  (ld [.int .u64] (a45.add 7) h48 fun (v64 : Int) =>
  ld [.int .u64] (a47.add 7) h48 fun (v65 : Int) =>
  brr (v64 == v65)
  (ld [.int .i64] (a45.add 8) h48 fun (v66 : Int) =>
  ld [.int .i64] (a47.add 8) h48 fun (v67 : Int) =>
  brr (v66 == v67)
  (ld [.int .u64] (a45.add 9) h48 fun (v68 : Int) =>
  ld [.int .u64] (a47.add 9) h48 fun (v69 : Int) =>
  brr (v68 == v69)
  (ld [.sl] (a45.add 10) h48 fun (v70 : Sl) =>
  ld [.sl] (a47.add 10) h48 fun (v71 : Sl) =>
  f39_ v70 v71 h48 fun (r72 : Int) (h73 : Heap) =>
  brr (r72 == 0)
  (ld [.int .i64] (a45.add 11) h73 fun (v74 : Int) =>
  ld [.int .i64] (a47.add 11) h73 fun (v75 : Int) =>
  brr (v74 == v75)
  (ld [.int .u64] (a45.add 12) h73 fun (v76 : Int) =>
  ld [.int .u64] (a47.add 12) h73 fun (v77 : Int) =>
  brr (v76 == v77)
  (ld [.str] (a45.add 13) h73 fun (v78 : ByteArray) =>
  ld [.str] (a47.add 13) h73 fun (v79 : ByteArray) =>
  brr (v78.toList == v79.toList)
  (ld [.str] (a45.add 14) h73 fun (v80 : ByteArray) =>
  ld [.str] (a47.add 14) h73 fun (v81 : ByteArray) =>
  brr (v80.toList == v81.toList)
  (ld [.int .u64] (a45.add 15) h73 fun (v82 : Int) =>
  ld [.int .u64] (a47.add 15) h73 fun (v83 : Int) =>
  brr (v82 == v83)
  (ld [.int .u64, .int .u64] (a45.add 16) h73 fun (v84 v85 : Int) =>
  ld [.int .u64, .int .u64] (a47.add 16) h73 fun (v86 v87 : Int) =>
  brr ((v84 == v86) && ((v85 == v87) && (true)))
  (ld [.int .i64] (a45.add 18) h73 fun (v88 : Int) =>
  ld [.int .i64] (a47.add 18) h73 fun (v89 : Int) =>
  brr (v88 == v89)
  (ld [.int .i64] (a45.add 19) h73 fun (v90 : Int) =>
  ld [.int .i64] (a47.add 19) h73 fun (v91 : Int) =>
  brr (v90 == v91)
  (ld [.int .i64] (a45.add 20) h73 fun (v92 : Int) =>
  ld [.int .i64] (a47.add 20) h73 fun (v93 : Int) =>
  brr (v92 == v93)
  (ld [.int .i64] (a45.add 21) h73 fun (v94 : Int) =>
  ld [.int .i64] (a47.add 21) h73 fun (v95 : Int) =>
  j49 (v94 == v95) h73)
  (j49 false h73))
  (j49 false h73))
  (j49 false h73))
  (j49 false h73))
  (j49 false h73))
  (j49 false h73))
  (j49 false h73))
  (j49 false h73))
  (j49 false h73))
  (j49 false h73))
  (j49 false h48))
  (j49 false h48))
  (j49 false h48))
  (j49 false h48))
  (j49 false h48))
  (j49 false h48))
def F_ref0_EqMsg (a1 a2 a3 a4 a5 a6 a7 a8 a9 a10 : Int) (a11 : Sl) (a12 a13 : Int) (a14 a15 : ByteArray) (a16 a17 a18 a19 a20 a21 a22 b23 b24 b25 b26 b27 b28 b29 b30 b31 b32 : Int) (b33 : Sl) (b34 b35 : Int) (b36 b37 : ByteArray) (b38 b39 b40 b41 b42 b43 b44 : Int) (h : Heap) (Q : Bool → Heap → Prop) : Prop := F_ref0_EqMsg_of F_ref0_Cmp a1 a2 a3 a4 a5 a6 a7 a8 a9 a10 a11 a12 a13 a14 a15 a16 a17 a18 a19 a20 a21 a22 b23 b24 b25 b26 b27 b28 b29 b30 b31 b32 b33 b34 b35 b36 b37 b38 b39 b40 b41 b42 b43 b44 h Q
def plan18 : Plan := .s (.r [2, 3]) (.s (.rj [(4, .one .bool)] []) .z)
theorem F_ref0_EqMsg.eq (f39_ : Y25) (a1 a2 a3 a4 a5 a6 a7 a8 a9 a10 : Int) (a11 : Sl) (a12 a13 : Int) (a14 a15 : ByteArray) (a16 a17 a18 a19 a20 a21 a22 b23 b24 b25 b26 b27 b28 b29 b30 b31 b32 : Int) (b33 : Sl) (b34 b35 : Int) (b36 b37 : ByteArray) (b38 b39 b40 b41 b42 b43 b44 : Int) (h : Heap) (K : YV) : F_ref0_EqMsg_of f39_ a1 a2 a3 a4 a5 a6 a7 a8 a9 a10 a11 a12 a13 a14 a15 a16 a17 a18 a19 a20 a21 a22 b23 b24 b25 b26 b27 b28 b29 b30 b31 b32 b33 b34 b35 b36 b37 b38 b39 b40 b41 b42 b43 b44 h (fun (r0 : Bool) (h : Heap) => K (.bool r0) h) =
    den Tryz.prog (fn1 39 (E_ref0_Cmp_of f39_) noFns) Tryz.f18.ntmps plan18 (bodyOf Tryz.f18) (args0 0 [(.agg #[.int .i64 a1, .int .i64 a2, .int .i64 a3, .int .i64 a4, .int .u64 a5, .int .u64 a6, .int .u64 a7, .int .u64 a8, .int .i64 a9, .int .u64 a10, .slice a11.ptr a11.len a11.cap, .int .i64 a12, .int .u64 a13, .string a14, .string a15, .int .u64 a16, .int .u64 a17, .int .u64 a18, .int .i64 a19, .int .i64 a20, .int .i64 a21, .int .i64 a22] : Value), (.agg #[.int .i64 b23, .int .i64 b24, .int .i64 b25, .int .i64 b26, .int .u64 b27, .int .u64 b28, .int .u64 b29, .int .u64 b30, .int .i64 b31, .int .u64 b32, .slice b33.ptr b33.len b33.cap, .int .i64 b34, .int .u64 b35, .string b36, .string b37, .int .u64 b38, .int .u64 b39, .int .u64 b40, .int .i64 b41, .int .i64 b42, .int .i64 b43, .int .i64 b44] : Value)]) h (konF Tryz.f18 K) := by kernel_rfl
def E_ref0_EqMsg_of (f : Y23) : List Value → Heap → YV → Prop
  | [v0, v1], h, K => vAgg v0 fun cs0 => decs K22 cs0.toList fun (a1 a2 a3 a4 a5 a6 a7 a8 a9 a10 : Int) (a11 : Sl) (a12 a13 : Int) (a14 a15 : ByteArray) (a16 a17 a18 a19 a20 a21 a22 : Int) =>
  vAgg v1 fun cs1 => decs K22 cs1.toList fun (b23 b24 b25 b26 b27 b28 b29 b30 b31 b32 : Int) (b33 : Sl) (b34 b35 : Int) (b36 b37 : ByteArray) (b38 b39 b40 b41 b42 b43 b44 : Int) =>
  f a1 a2 a3 a4 a5 a6 a7 a8 a9 a10 a11 a12 a13 a14 a15 a16 a17 a18 a19 a20 a21 a22 b23 b24 b25 b26 b27 b28 b29 b30 b31 b32 b33 b34 b35 b36 b37 b38 b39 b40 b41 b42 b43 b44 h (fun (r0 : Bool) (h : Heap) => K (.bool r0) h)
  | _, _, _ => False
abbrev E_ref0_EqMsg := E_ref0_EqMsg_of F_ref0_EqMsg
theorem E_ref0_EqMsg.right : IsRight Tryz.prog 18 E_ref0_EqMsg := by
  refine isRight fun vs K w hh => ?_
  match vs, hh with
  | [v0, v1], hh =>
    unfold E_ref0_EqMsg E_ref0_EqMsg_of at hh
    replace hh := vAgg_sound hh; obtain ⟨cs0, rfl, hh⟩ := hh
    replace hh := decs_cons hh; obtain ⟨a1, l0_0, e0_0, hh⟩ := hh
    replace hh := decs_cons hh; obtain ⟨a2, l0_1, e0_1, hh⟩ := hh
    replace hh := decs_cons hh; obtain ⟨a3, l0_2, e0_2, hh⟩ := hh
    replace hh := decs_cons hh; obtain ⟨a4, l0_3, e0_3, hh⟩ := hh
    replace hh := decs_cons hh; obtain ⟨a5, l0_4, e0_4, hh⟩ := hh
    replace hh := decs_cons hh; obtain ⟨a6, l0_5, e0_5, hh⟩ := hh
    replace hh := decs_cons hh; obtain ⟨a7, l0_6, e0_6, hh⟩ := hh
    replace hh := decs_cons hh; obtain ⟨a8, l0_7, e0_7, hh⟩ := hh
    replace hh := decs_cons hh; obtain ⟨a9, l0_8, e0_8, hh⟩ := hh
    replace hh := decs_cons hh; obtain ⟨a10, l0_9, e0_9, hh⟩ := hh
    replace hh := decs_cons hh; obtain ⟨a11, l0_10, e0_10, hh⟩ := hh
    replace hh := decs_cons hh; obtain ⟨a12, l0_11, e0_11, hh⟩ := hh
    replace hh := decs_cons hh; obtain ⟨a13, l0_12, e0_12, hh⟩ := hh
    replace hh := decs_cons hh; obtain ⟨a14, l0_13, e0_13, hh⟩ := hh
    replace hh := decs_cons hh; obtain ⟨a15, l0_14, e0_14, hh⟩ := hh
    replace hh := decs_cons hh; obtain ⟨a16, l0_15, e0_15, hh⟩ := hh
    replace hh := decs_cons hh; obtain ⟨a17, l0_16, e0_16, hh⟩ := hh
    replace hh := decs_cons hh; obtain ⟨a18, l0_17, e0_17, hh⟩ := hh
    replace hh := decs_cons hh; obtain ⟨a19, l0_18, e0_18, hh⟩ := hh
    replace hh := decs_cons hh; obtain ⟨a20, l0_19, e0_19, hh⟩ := hh
    replace hh := decs_cons hh; obtain ⟨a21, l0_20, e0_20, hh⟩ := hh
    replace hh := decs_cons hh; obtain ⟨a22, l0_21, e0_21, hh⟩ := hh
    replace hh := decs_nil hh; obtain ⟨rfl, hh⟩ := hh
    subst e0_21
    subst e0_20
    subst e0_19
    subst e0_18
    subst e0_17
    subst e0_16
    subst e0_15
    subst e0_14
    subst e0_13
    subst e0_12
    subst e0_11
    subst e0_10
    subst e0_9
    subst e0_8
    subst e0_7
    subst e0_6
    subst e0_5
    subst e0_4
    subst e0_3
    subst e0_2
    subst e0_1
    have ec0 := toArray_eq e0_0
    subst ec0
    replace hh := vAgg_sound hh; obtain ⟨cs1, rfl, hh⟩ := hh
    replace hh := decs_cons hh; obtain ⟨b23, l1_0, e1_0, hh⟩ := hh
    replace hh := decs_cons hh; obtain ⟨b24, l1_1, e1_1, hh⟩ := hh
    replace hh := decs_cons hh; obtain ⟨b25, l1_2, e1_2, hh⟩ := hh
    replace hh := decs_cons hh; obtain ⟨b26, l1_3, e1_3, hh⟩ := hh
    replace hh := decs_cons hh; obtain ⟨b27, l1_4, e1_4, hh⟩ := hh
    replace hh := decs_cons hh; obtain ⟨b28, l1_5, e1_5, hh⟩ := hh
    replace hh := decs_cons hh; obtain ⟨b29, l1_6, e1_6, hh⟩ := hh
    replace hh := decs_cons hh; obtain ⟨b30, l1_7, e1_7, hh⟩ := hh
    replace hh := decs_cons hh; obtain ⟨b31, l1_8, e1_8, hh⟩ := hh
    replace hh := decs_cons hh; obtain ⟨b32, l1_9, e1_9, hh⟩ := hh
    replace hh := decs_cons hh; obtain ⟨b33, l1_10, e1_10, hh⟩ := hh
    replace hh := decs_cons hh; obtain ⟨b34, l1_11, e1_11, hh⟩ := hh
    replace hh := decs_cons hh; obtain ⟨b35, l1_12, e1_12, hh⟩ := hh
    replace hh := decs_cons hh; obtain ⟨b36, l1_13, e1_13, hh⟩ := hh
    replace hh := decs_cons hh; obtain ⟨b37, l1_14, e1_14, hh⟩ := hh
    replace hh := decs_cons hh; obtain ⟨b38, l1_15, e1_15, hh⟩ := hh
    replace hh := decs_cons hh; obtain ⟨b39, l1_16, e1_16, hh⟩ := hh
    replace hh := decs_cons hh; obtain ⟨b40, l1_17, e1_17, hh⟩ := hh
    replace hh := decs_cons hh; obtain ⟨b41, l1_18, e1_18, hh⟩ := hh
    replace hh := decs_cons hh; obtain ⟨b42, l1_19, e1_19, hh⟩ := hh
    replace hh := decs_cons hh; obtain ⟨b43, l1_20, e1_20, hh⟩ := hh
    replace hh := decs_cons hh; obtain ⟨b44, l1_21, e1_21, hh⟩ := hh
    replace hh := decs_nil hh; obtain ⟨rfl, hh⟩ := hh
    subst e1_21
    subst e1_20
    subst e1_19
    subst e1_18
    subst e1_17
    subst e1_16
    subst e1_15
    subst e1_14
    subst e1_13
    subst e1_12
    subst e1_11
    subst e1_10
    subst e1_9
    subst e1_8
    subst e1_7
    subst e1_6
    subst e1_5
    subst e1_4
    subst e1_3
    subst e1_2
    subst e1_1
    have ec1 := toArray_eq e1_0
    subst ec1
    unfold F_ref0_EqMsg at hh
    exact calls_den (fn1_right ok39 E_ref0_Cmp.right noFns_right) plan18 _ w K Tryz.func18 (by kernel_rfl) (by kernel_rfl) (Eq.mp (F_ref0_EqMsg.eq F_ref0_Cmp a1 a2 a3 a4 a5 a6 a7 a8 a9 a10 a11 a12 a13 a14 a15 a16 a17 a18 a19 a20 a21 a22 b23 b24 b25 b26 b27 b28 b29 b30 b31 b32 b33 b34 b35 b36 b37 b38 b39 b40 b41 b42 b43 b44 w.heap K) hh)
theorem ok18 : okFn Tryz.prog 18 = true := by kernel_rfl
def F_ref1_fixed.l1 (s3 : Sl) (j5 : Heap → Prop) : Int → Int → Heap → Prop :=
  wl [(0, .one (.int .u64)), (6, .one (.int .i64))] (fun (next6 : Int → Int → Heap → Prop) (n7 i8 : Int) (h9 : Heap) =>
  brr (decide (i8 ≥ 0))
  ((256 : Int) ≠ 0 ∧
  ixS 1 s3 i8 fun (a10 : Addr) =>
  st a10 [.int .u8 (IntKind.u8.wrap (n7.tmod 256))] h9 fun (h11 : Heap) =>
  (256 : Int) ≠ 0 ∧
  next6 (IntKind.u64.wrap (n7.tdiv 256)) (IntKind.i64.wrap (i8 - 1)) h11)
  (j5 h9))
def F_ref1_fixed_of  (n1 size2 : Int) (h : Heap) (Q : Sl → Heap → Prop) : Prop :=
  mk 5 1 1 (.int .u8 0) size2 size2 h fun (s3 : Sl) (h4 : Heap) =>
  jn [] (fun  (h12 : Heap) =>
  Q s3 h12) (fun (j5 : Heap → Prop) =>
  F_ref1_fixed.l1 s3 j5 n1 (IntKind.i64.wrap (size2 - 1)) h4)
def F_ref1_fixed (n1 size2 : Int) (h : Heap) (Q : Sl → Heap → Prop) : Prop := F_ref1_fixed_of  n1 size2 h Q
def plan119 : Plan := .s (.r [0, 1]) (.s (.r [0, 1, 5]) (.s (.s (.r [0, 5, 6]) (.bj [] [5] (.l [(0, .one (.int .u64)), (6, .one (.int .i64))] [5] (.s (.s (.r [0, 5, 6, 12]) (.c .z .z)) (.s (.b (.s (.r [0, 5, 6]) (.r [0, 5, 6]))) (.r [0, 5, 6])))))) (.s (.r [4]) .z)))
theorem F_ref1_fixed.eq  (n1 size2 : Int) (h : Heap) (K : YV) : F_ref1_fixed_of  n1 size2 h (fun (r0 : Sl) (h : Heap) => K (.slice r0.ptr r0.len r0.cap) h) =
    den Tryz.prog noFns Tryz.f119.ntmps plan119 (bodyOf Tryz.f119) (args0 0 [(.int .u64 n1 : Value), (.int .i64 size2 : Value)]) h (konF Tryz.f119 K) := by kernel_rfl
def E_ref1_fixed_of (f : Y32) : List Value → Heap → YV → Prop
  | [v0, v1], h, K => dec1 (.int .u64) v0 fun (n1 : Int) =>
  dec1 (.int .i64) v1 fun (size2 : Int) =>
  f n1 size2 h (fun (r0 : Sl) (h : Heap) => K (.slice r0.ptr r0.len r0.cap) h)
  | _, _, _ => False
abbrev E_ref1_fixed := E_ref1_fixed_of F_ref1_fixed
theorem E_ref1_fixed.right : IsRight Tryz.prog 119 E_ref1_fixed := by
  refine isRight fun vs K w hh => ?_
  match vs, hh with
  | [v0, v1], hh =>
    unfold E_ref1_fixed E_ref1_fixed_of at hh
    replace hh := dec1_sound hh; obtain ⟨n1, rfl, hh⟩ := hh
    replace hh := dec1_sound hh; obtain ⟨size2, rfl, hh⟩ := hh
    unfold F_ref1_fixed at hh
    exact calls_den noFns_right plan119 _ w K Tryz.func119 (by kernel_rfl) (by kernel_rfl) (Eq.mp (F_ref1_fixed.eq  n1 size2 w.heap K) hh)
theorem ok119 : okFn Tryz.prog 119 = true := by kernel_rfl
def F_ref1_U32_of (f119_ : Y32) (n1 : Int) (h : Heap) (Q : Sl → Heap → Prop) : Prop :=
  f119_ (IntKind.u64.wrap n1) 4 h fun (r2 : Sl) (h3 : Heap) =>
  Q r2 h3
def F_ref1_U32 (n1 : Int) (h : Heap) (Q : Sl → Heap → Prop) : Prop := F_ref1_U32_of F_ref1_fixed n1 h Q
def plan51 : Plan := .s (.r [0]) (.s (.r [2]) .z)
theorem F_ref1_U32.eq (f119_ : Y32) (n1 : Int) (h : Heap) (K : YV) : F_ref1_U32_of f119_ n1 h (fun (r0 : Sl) (h : Heap) => K (.slice r0.ptr r0.len r0.cap) h) =
    den Tryz.prog (fn1 119 (E_ref1_fixed_of f119_) noFns) Tryz.f51.ntmps plan51 (bodyOf Tryz.f51) (args0 0 [(.int .u32 n1 : Value)]) h (konF Tryz.f51 K) := by kernel_rfl
def E_ref1_U32_of (f : Y15) : List Value → Heap → YV → Prop
  | [v0], h, K => dec1 (.int .u32) v0 fun (n1 : Int) =>
  f n1 h (fun (r0 : Sl) (h : Heap) => K (.slice r0.ptr r0.len r0.cap) h)
  | _, _, _ => False
abbrev E_ref1_U32 := E_ref1_U32_of F_ref1_U32
theorem E_ref1_U32.right : IsRight Tryz.prog 51 E_ref1_U32 := by
  refine isRight fun vs K w hh => ?_
  match vs, hh with
  | [v0], hh =>
    unfold E_ref1_U32 E_ref1_U32_of at hh
    replace hh := dec1_sound hh; obtain ⟨n1, rfl, hh⟩ := hh
    unfold F_ref1_U32 at hh
    exact calls_den (fn1_right ok119 E_ref1_fixed.right noFns_right) plan51 _ w K Tryz.func51 (by kernel_rfl) (by kernel_rfl) (Eq.mp (F_ref1_U32.eq F_ref1_fixed n1 w.heap K) hh)
theorem ok51 : okFn Tryz.prog 51 = true := by kernel_rfl
def F_ref8_Seal_of (f51_ : Y15) (f52_ : Y20) (b1 : Sl) (h : Heap) (Q : Sl → Heap → Prop) : Prop :=
  app 5 1 1 (.int .u8 0) (⟨none, 0, 0⟩ : Sl) b1.ptr b1.len h fun (s2 : Sl) (h3 : Heap) =>
  f52_ b1 h3 fun (r4 : Int) (h5 : Heap) =>
  f51_ r4 h5 fun (r6 : Sl) (h7 : Heap) =>
  app 5 1 1 (.int .u8 0) s2 r6.ptr r6.len h7 fun (s8 : Sl) (h9 : Heap) =>
  Q s8 h9
def F_ref8_Seal (b1 : Sl) (h : Heap) (Q : Sl → Heap → Prop) : Prop := F_ref8_Seal_of F_ref1_U32 F_ref1_Sum b1 h Q
def plan28 : Plan := .s (.r [0]) (.s (.r [0, 3]) (.s (.r [0, 3]) (.s (.r [2]) .z)))
theorem F_ref8_Seal.eq (f51_ : Y15) (f52_ : Y20) (b1 : Sl) (h : Heap) (K : YV) : F_ref8_Seal_of f51_ f52_ b1 h (fun (r0 : Sl) (h : Heap) => K (.slice r0.ptr r0.len r0.cap) h) =
    den Tryz.prog (fn1 51 (E_ref1_U32_of f51_) (fn1 52 (E_ref1_Sum_of f52_) noFns)) Tryz.f28.ntmps plan28 (bodyOf Tryz.f28) (args0 0 [(.slice b1.ptr b1.len b1.cap : Value)]) h (konF Tryz.f28 K) := by kernel_rfl
def E_ref8_Seal_of (f : Y7) : List Value → Heap → YV → Prop
  | [v0], h, K => dec1 .sl v0 fun (b1 : Sl) =>
  f b1 h (fun (r0 : Sl) (h : Heap) => K (.slice r0.ptr r0.len r0.cap) h)
  | _, _, _ => False
abbrev E_ref8_Seal := E_ref8_Seal_of F_ref8_Seal
theorem E_ref8_Seal.right : IsRight Tryz.prog 28 E_ref8_Seal := by
  refine isRight fun vs K w hh => ?_
  match vs, hh with
  | [v0], hh =>
    unfold E_ref8_Seal E_ref8_Seal_of at hh
    replace hh := dec1_sound hh; obtain ⟨b1, rfl, hh⟩ := hh
    unfold F_ref8_Seal at hh
    exact calls_den (fn1_right ok51 E_ref1_U32.right (fn1_right ok52 E_ref1_Sum.right noFns_right)) plan28 _ w K Tryz.func28 (by kernel_rfl) (by kernel_rfl) (Eq.mp (F_ref8_Seal.eq F_ref1_U32 F_ref1_Sum b1 w.heap K) hh)
theorem ok28 : okFn Tryz.prog 28 = true := by kernel_rfl
def F_ref8_Only_of  (m1 m2 m3 m4 m5 m6 m7 m8 m9 m10 : Int) (m11 : Sl) (m12 m13 : Int) (m14 m15 : ByteArray) (m16 m17 m18 m19 m20 m21 m22 : Int) (h : Heap) (Q : YQ) : Prop :=
  al 52 [.int .i64 m1, .int .i64 m2, .int .i64 m3, .int .i64 m4, .int .u64 m5, .int .u64 m6, .int .u64 m7, .int .u64 m8, .int .i64 m9, .int .u64 m10, .slice m11.ptr m11.len m11.cap, .int .i64 m12, .int .u64 m13, .string m14, .string m15, .int .u64 m16, .int .u64 m17, .int .u64 m18, .int .i64 m19, .int .i64 m20, .int .i64 m21, .int .i64 m22] h fun (a23 : Addr) (h24 : Heap) =>
  al 52 [.int .i64 0, .int .i64 0, .int .i64 0, .int .i64 0, .int .u64 0, .int .u64 0, .int .u64 0, .int .u64 0, .int .i64 0, .int .u64 0, .slice none 0 0, .int .i64 0, .int .u64 0, .string (⟨#[]⟩ : ByteArray), .string (⟨#[]⟩ : ByteArray), .int .u64 0, .int .u64 0, .int .u64 0, .int .i64 0, .int .i64 0, .int .i64 0, .int .i64 0] h24 fun (a25 : Addr) (h26 : Heap) =>
  ld [.int .i64, .int .i64, .int .i64, .int .i64] (a23.add 0) h26 fun (v27 v28 v29 v30 : Int) =>
  al 52 [.int .i64 0, .int .i64 0, .int .i64 0, .int .i64 0, .int .u64 0, .int .u64 0, .int .u64 0, .int .u64 0, .int .i64 0, .int .u64 0, .slice none 0 0, .int .i64 0, .int .u64 0, .string (⟨#[]⟩ : ByteArray), .string (⟨#[]⟩ : ByteArray), .int .u64 0, .int .u64 0, .int .u64 0, .int .i64 0, .int .i64 0, .int .i64 0, .int .i64 0] h26 fun (a31 : Addr) (h32 : Heap) =>
  st a31 [.int .i64 v27, .int .i64 v28, .int .i64 v29, .int .i64 v30, .int .u64 0, .int .u64 0, .int .u64 0, .int .u64 0, .int .i64 0, .int .u64 0, .slice none 0 0, .int .i64 0, .int .u64 0, .string (⟨#[]⟩ : ByteArray), .string (⟨#[]⟩ : ByteArray), .int .u64 0, .int .u64 0, .int .u64 0, .int .i64 0, .int .i64 0, .int .i64 0, .int .i64 0] h32 fun (h33 : Heap) =>
  ld [.int .i64] ((a23.add 0).add 0) h33 fun (v34 : Int) =>
  jn [] (fun  (h125 : Heap) =>
  ld K22 a31 h125 fun (v126 v127 v128 v129 v130 v131 v132 v133 v134 v135 : Int) (v136 : Sl) (v137 v138 : Int) (v139 v140 : ByteArray) (v141 v142 v143 v144 v145 v146 v147 : Int) =>
  st a25 [.int .i64 v126, .int .i64 v127, .int .i64 v128, .int .i64 v129, .int .u64 v130, .int .u64 v131, .int .u64 v132, .int .u64 v133, .int .i64 v134, .int .u64 v135, .slice v136.ptr v136.len v136.cap, .int .i64 v137, .int .u64 v138, .string v139, .string v140, .int .u64 v141, .int .u64 v142, .int .u64 v143, .int .i64 v144, .int .i64 v145, .int .i64 v146, .int .i64 v147] h125 fun (h148 : Heap) =>
  ld K22 a25 h148 fun (v149 v150 v151 v152 v153 v154 v155 v156 v157 v158 : Int) (v159 : Sl) (v160 v161 : Int) (v162 v163 : ByteArray) (v164 v165 v166 v167 v168 v169 v170 : Int) =>
  Q v149 v150 v151 v152 v153 v154 v155 v156 v157 v158 v159 v160 v161 v162 v163 v164 v165 v166 v167 v168 v169 v170 h148) (fun (j35 : Heap → Prop) =>
  brr (v34 == 1)
  (ld [.int .u64] (a23.add 4) h33 fun (v36 : Int) =>
  st (a31.add 4) [.int .u64 v36] h33 fun (h37 : Heap) =>
  j35 h37)
  (jn [] (fun  (h124 : Heap) =>
  j35 h124) (fun (j38 : Heap → Prop) =>
  brr (v34 == 2)
  (ld [.int .u64] (a23.add 4) h33 fun (v39 : Int) =>
  st (a31.add 4) [.int .u64 v39] h33 fun (h40 : Heap) =>
  ld [.int .u64, .int .u64] (a23.add 5) h40 fun (v41 v42 : Int) =>
  st (a31.add 5) [.int .u64 v41, .int .u64 v42] h40 fun (h43 : Heap) =>
  ld [.sl] (a23.add 10) h43 fun (v44 : Sl) =>
  st (a31.add 10) [.slice v44.ptr v44.len v44.cap] h43 fun (h45 : Heap) =>
  j38 h45)
  (jn [] (fun  (h123 : Heap) =>
  j38 h123) (fun (j46 : Heap → Prop) =>
  brr (v34 == 3)
  (ld [.int .u64] (a23.add 4) h33 fun (v47 : Int) =>
  st (a31.add 4) [.int .u64 v47] h33 fun (h48 : Heap) =>
  ld [.int .u64] (a23.add 9) h48 fun (v49 : Int) =>
  st (a31.add 9) [.int .u64 v49] h48 fun (h50 : Heap) =>
  j46 h50)
  (jn [] (fun  (h122 : Heap) =>
  j46 h122) (fun (j51 : Heap → Prop) =>
  brr (v34 == 4)
  (ld [.int .u64, .int .u64] (a23.add 5) h33 fun (v52 v53 : Int) =>
  st (a31.add 5) [.int .u64 v52, .int .u64 v53] h33 fun (h54 : Heap) =>
  ld [.int .i64] (a23.add 8) h54 fun (v55 : Int) =>
  st (a31.add 8) [.int .i64 v55] h54 fun (h56 : Heap) =>
  ld [.sl] (a23.add 10) h56 fun (v57 : Sl) =>
  st (a31.add 10) [.slice v57.ptr v57.len v57.cap] h56 fun (h58 : Heap) =>
  j51 h58)
  (jn [] (fun  (h121 : Heap) =>
  j51 h121) (fun (j59 : Heap → Prop) =>
  brr (v34 == 5)
  (ld [.int .u64, .int .u64] (a23.add 5) h33 fun (v60 v61 : Int) =>
  st (a31.add 5) [.int .u64 v60, .int .u64 v61] h33 fun (h62 : Heap) =>
  j59 h62)
  (jn [] (fun  (h120 : Heap) =>
  j59 h120) (fun (j63 : Heap → Prop) =>
  brr (v34 == 6)
  (ld [.int .u64] (a23.add 4) h33 fun (v64 : Int) =>
  st (a31.add 4) [.int .u64 v64] h33 fun (h65 : Heap) =>
  ld [.int .u64] (a23.add 7) h65 fun (v66 : Int) =>
  st (a31.add 7) [.int .u64 v66] h65 fun (h67 : Heap) =>
  ld [.int .i64] (a23.add 8) h67 fun (v68 : Int) =>
  st (a31.add 8) [.int .i64 v68] h67 fun (h69 : Heap) =>
  j63 h69)
  (jn [] (fun  (h119 : Heap) =>
  j63 h119) (fun (j70 : Heap → Prop) =>
  brr (v34 == 7)
  (ld [.int .u64] (a23.add 4) h33 fun (v71 : Int) =>
  st (a31.add 4) [.int .u64 v71] h33 fun (h72 : Heap) =>
  ld [.int .u64] (a23.add 7) h72 fun (v73 : Int) =>
  st (a31.add 7) [.int .u64 v73] h72 fun (h74 : Heap) =>
  j70 h74)
  (jn [] (fun  (h118 : Heap) =>
  j70 h118) (fun (j75 : Heap → Prop) =>
  brr (v34 == 8)
  (ld [.int .i64] (a23.add 11) h33 fun (v76 : Int) =>
  st (a31.add 11) [.int .i64 v76] h33 fun (h77 : Heap) =>
  ld [.int .u64] (a23.add 12) h77 fun (v78 : Int) =>
  st (a31.add 12) [.int .u64 v78] h77 fun (h79 : Heap) =>
  ld [.str] (a23.add 13) h79 fun (v80 : ByteArray) =>
  st (a31.add 13) [.string v80] h79 fun (h81 : Heap) =>
  ld [.int .u64] (a23.add 15) h81 fun (v82 : Int) =>
  st (a31.add 15) [.int .u64 v82] h81 fun (h83 : Heap) =>
  j75 h83)
  (jn [] (fun  (h117 : Heap) =>
  j75 h117) (fun (j84 : Heap → Prop) =>
  brr (v34 == 9)
  (ld [.int .i64] (a23.add 11) h33 fun (v85 : Int) =>
  st (a31.add 11) [.int .i64 v85] h33 fun (h86 : Heap) =>
  ld [.int .u64] (a23.add 12) h86 fun (v87 : Int) =>
  st (a31.add 12) [.int .u64 v87] h86 fun (h88 : Heap) =>
  j84 h88)
  (jn [] (fun  (h116 : Heap) =>
  j84 h116) (fun (j89 : Heap → Prop) =>
  brr (v34 == 10)
  (ld [.int .u64] (a23.add 12) h33 fun (v90 : Int) =>
  st (a31.add 12) [.int .u64 v90] h33 fun (h91 : Heap) =>
  ld [.str] (a23.add 13) h91 fun (v92 : ByteArray) =>
  st (a31.add 13) [.string v92] h91 fun (h93 : Heap) =>
  ld [.str] (a23.add 14) h93 fun (v94 : ByteArray) =>
  st (a31.add 14) [.string v94] h93 fun (h95 : Heap) =>
  ld [.int .u64] (a23.add 15) h95 fun (v96 : Int) =>
  st (a31.add 15) [.int .u64 v96] h95 fun (h97 : Heap) =>
  ld [.int .u64, .int .u64] (a23.add 16) h97 fun (v98 v99 : Int) =>
  st (a31.add 16) [.int .u64 v98, .int .u64 v99] h97 fun (h100 : Heap) =>
  ld [.int .i64] (a23.add 18) h100 fun (v101 : Int) =>
  st (a31.add 18) [.int .i64 v101] h100 fun (h102 : Heap) =>
  ld [.int .i64] (a23.add 19) h102 fun (v103 : Int) =>
  st (a31.add 19) [.int .i64 v103] h102 fun (h104 : Heap) =>
  j89 h104)
  (jn [] (fun  (h115 : Heap) =>
  j89 h115) (fun (j105 : Heap → Prop) =>
  brr (v34 == 11)
  (ld [.int .u64] (a23.add 15) h33 fun (v106 : Int) =>
  st (a31.add 15) [.int .u64 v106] h33 fun (h107 : Heap) =>
  ld [.int .u64, .int .u64] (a23.add 16) h107 fun (v108 v109 : Int) =>
  st (a31.add 16) [.int .u64 v108, .int .u64 v109] h107 fun (h110 : Heap) =>
  ld [.int .i64] (a23.add 20) h110 fun (v111 : Int) =>
  st (a31.add 20) [.int .i64 v111] h110 fun (h112 : Heap) =>
  ld [.int .i64] (a23.add 21) h112 fun (v113 : Int) =>
  st (a31.add 21) [.int .i64 v113] h112 fun (h114 : Heap) =>
  j105 h114)
  (j105 h33))))))))))))))))))))))
def F_ref8_Only (m1 m2 m3 m4 m5 m6 m7 m8 m9 m10 : Int) (m11 : Sl) (m12 m13 : Int) (m14 m15 : ByteArray) (m16 m17 m18 m19 m20 m21 m22 : Int) (h : Heap) (Q : YQ) : Prop := F_ref8_Only_of  m1 m2 m3 m4 m5 m6 m7 m8 m9 m10 m11 m12 m13 m14 m15 m16 m17 m18 m19 m20 m21 m22 h Q
def plan36 : Plan := .s (.r [1, 2]) (.s (.r [1, 2, 3]) (.s (.s (.r [1, 2, 3, 9]) (.b (.s (.r [1, 2, 3, 9, 10]) (.cj [] [2, 3] (.r [2, 3]) (.s (.r [1, 2, 3, 9, 15]) (.cj [] [2, 3] (.s (.r [1, 2, 3]) (.s (.r [1, 2, 3]) (.r [2, 3]))) (.s (.r [1, 2, 3, 9, 26]) (.cj [] [2, 3] (.s (.r [1, 2, 3]) (.r [2, 3])) (.s (.r [1, 2, 3, 9, 34]) (.cj [] [2, 3] (.s (.r [1, 2, 3]) (.s (.r [1, 2, 3]) (.r [2, 3]))) (.s (.r [1, 2, 3, 9, 45]) (.cj [] [2, 3] (.r [2, 3]) (.s (.r [1, 2, 3, 9, 50]) (.cj [] [2, 3] (.s (.r [1, 2, 3]) (.s (.r [1, 2, 3]) (.r [2, 3]))) (.s (.r [1, 2, 3, 9, 61]) (.cj [] [2, 3] (.s (.r [1, 2, 3]) (.r [2, 3])) (.s (.r [1, 2, 3, 9, 69]) (.cj [] [2, 3] (.s (.r [1, 2, 3]) (.s (.r [1, 2, 3]) (.s (.r [1, 2, 3]) (.r [2, 3])))) (.s (.r [1, 2, 3, 9, 83]) (.cj [] [2, 3] (.s (.r [1, 2, 3]) (.r [2, 3])) (.s (.r [1, 2, 3, 9, 91]) (.cj [] [2, 3] (.s (.r [1, 2, 3]) (.s (.r [1, 2, 3]) (.s (.r [1, 2, 3]) (.s (.r [1, 2, 3]) (.s (.r [1, 2, 3]) (.s (.r [1, 2, 3]) (.r [2, 3]))))))) (.s (.r [1, 2, 3, 114]) (.cj [] [2, 3] (.s (.r [1, 2, 3]) (.s (.r [1, 2, 3]) (.s (.r [1, 2, 3]) (.r [2, 3])))) .z)))))))))))))))))))))))) (.s (.r [2]) .z)))
theorem F_ref8_Only.eq  (m1 m2 m3 m4 m5 m6 m7 m8 m9 m10 : Int) (m11 : Sl) (m12 m13 : Int) (m14 m15 : ByteArray) (m16 m17 m18 m19 m20 m21 m22 : Int) (h : Heap) (K : YV) : F_ref8_Only_of  m1 m2 m3 m4 m5 m6 m7 m8 m9 m10 m11 m12 m13 m14 m15 m16 m17 m18 m19 m20 m21 m22 h (fun (r0 r1 r2 r3 r4 r5 r6 r7 r8 r9 : Int) (r10 : Sl) (r11 r12 : Int) (r13 r14 : ByteArray) (r15 r16 r17 r18 r19 r20 r21 : Int) (h : Heap) => K (.agg #[.int .i64 r0, .int .i64 r1, .int .i64 r2, .int .i64 r3, .int .u64 r4, .int .u64 r5, .int .u64 r6, .int .u64 r7, .int .i64 r8, .int .u64 r9, .slice r10.ptr r10.len r10.cap, .int .i64 r11, .int .u64 r12, .string r13, .string r14, .int .u64 r15, .int .u64 r16, .int .u64 r17, .int .i64 r18, .int .i64 r19, .int .i64 r20, .int .i64 r21]) h) =
    den Tryz.prog noFns Tryz.f36.ntmps plan36 (bodyOf Tryz.f36) (args0 0 [(.agg #[.int .i64 m1, .int .i64 m2, .int .i64 m3, .int .i64 m4, .int .u64 m5, .int .u64 m6, .int .u64 m7, .int .u64 m8, .int .i64 m9, .int .u64 m10, .slice m11.ptr m11.len m11.cap, .int .i64 m12, .int .u64 m13, .string m14, .string m15, .int .u64 m16, .int .u64 m17, .int .u64 m18, .int .i64 m19, .int .i64 m20, .int .i64 m21, .int .i64 m22] : Value)]) h (konF Tryz.f36 K) := by kernel_rfl
def E_ref8_Only_of (f : Y33) : List Value → Heap → YV → Prop
  | [v0], h, K => vAgg v0 fun cs0 => decs K22 cs0.toList fun (m1 m2 m3 m4 m5 m6 m7 m8 m9 m10 : Int) (m11 : Sl) (m12 m13 : Int) (m14 m15 : ByteArray) (m16 m17 m18 m19 m20 m21 m22 : Int) =>
  f m1 m2 m3 m4 m5 m6 m7 m8 m9 m10 m11 m12 m13 m14 m15 m16 m17 m18 m19 m20 m21 m22 h (fun (r0 r1 r2 r3 r4 r5 r6 r7 r8 r9 : Int) (r10 : Sl) (r11 r12 : Int) (r13 r14 : ByteArray) (r15 r16 r17 r18 r19 r20 r21 : Int) (h : Heap) => K (.agg #[.int .i64 r0, .int .i64 r1, .int .i64 r2, .int .i64 r3, .int .u64 r4, .int .u64 r5, .int .u64 r6, .int .u64 r7, .int .i64 r8, .int .u64 r9, .slice r10.ptr r10.len r10.cap, .int .i64 r11, .int .u64 r12, .string r13, .string r14, .int .u64 r15, .int .u64 r16, .int .u64 r17, .int .i64 r18, .int .i64 r19, .int .i64 r20, .int .i64 r21]) h)
  | _, _, _ => False
abbrev E_ref8_Only := E_ref8_Only_of F_ref8_Only
theorem E_ref8_Only.right : IsRight Tryz.prog 36 E_ref8_Only := by
  refine isRight fun vs K w hh => ?_
  match vs, hh with
  | [v0], hh =>
    unfold E_ref8_Only E_ref8_Only_of at hh
    replace hh := vAgg_sound hh; obtain ⟨cs0, rfl, hh⟩ := hh
    replace hh := decs_cons hh; obtain ⟨m1, l0_0, e0_0, hh⟩ := hh
    replace hh := decs_cons hh; obtain ⟨m2, l0_1, e0_1, hh⟩ := hh
    replace hh := decs_cons hh; obtain ⟨m3, l0_2, e0_2, hh⟩ := hh
    replace hh := decs_cons hh; obtain ⟨m4, l0_3, e0_3, hh⟩ := hh
    replace hh := decs_cons hh; obtain ⟨m5, l0_4, e0_4, hh⟩ := hh
    replace hh := decs_cons hh; obtain ⟨m6, l0_5, e0_5, hh⟩ := hh
    replace hh := decs_cons hh; obtain ⟨m7, l0_6, e0_6, hh⟩ := hh
    replace hh := decs_cons hh; obtain ⟨m8, l0_7, e0_7, hh⟩ := hh
    replace hh := decs_cons hh; obtain ⟨m9, l0_8, e0_8, hh⟩ := hh
    replace hh := decs_cons hh; obtain ⟨m10, l0_9, e0_9, hh⟩ := hh
    replace hh := decs_cons hh; obtain ⟨m11, l0_10, e0_10, hh⟩ := hh
    replace hh := decs_cons hh; obtain ⟨m12, l0_11, e0_11, hh⟩ := hh
    replace hh := decs_cons hh; obtain ⟨m13, l0_12, e0_12, hh⟩ := hh
    replace hh := decs_cons hh; obtain ⟨m14, l0_13, e0_13, hh⟩ := hh
    replace hh := decs_cons hh; obtain ⟨m15, l0_14, e0_14, hh⟩ := hh
    replace hh := decs_cons hh; obtain ⟨m16, l0_15, e0_15, hh⟩ := hh
    replace hh := decs_cons hh; obtain ⟨m17, l0_16, e0_16, hh⟩ := hh
    replace hh := decs_cons hh; obtain ⟨m18, l0_17, e0_17, hh⟩ := hh
    replace hh := decs_cons hh; obtain ⟨m19, l0_18, e0_18, hh⟩ := hh
    replace hh := decs_cons hh; obtain ⟨m20, l0_19, e0_19, hh⟩ := hh
    replace hh := decs_cons hh; obtain ⟨m21, l0_20, e0_20, hh⟩ := hh
    replace hh := decs_cons hh; obtain ⟨m22, l0_21, e0_21, hh⟩ := hh
    replace hh := decs_nil hh; obtain ⟨rfl, hh⟩ := hh
    subst e0_21
    subst e0_20
    subst e0_19
    subst e0_18
    subst e0_17
    subst e0_16
    subst e0_15
    subst e0_14
    subst e0_13
    subst e0_12
    subst e0_11
    subst e0_10
    subst e0_9
    subst e0_8
    subst e0_7
    subst e0_6
    subst e0_5
    subst e0_4
    subst e0_3
    subst e0_2
    subst e0_1
    have ec0 := toArray_eq e0_0
    subst ec0
    unfold F_ref8_Only at hh
    exact calls_den noFns_right plan36 _ w K Tryz.func36 (by kernel_rfl) (by kernel_rfl) (Eq.mp (F_ref8_Only.eq  m1 m2 m3 m4 m5 m6 m7 m8 m9 m10 m11 m12 m13 m14 m15 m16 m17 m18 m19 m20 m21 m22 w.heap K) hh)
theorem ok36 : okFn Tryz.prog 36 = true := by kernel_rfl
def F_ref8_upTo.l1 (most1 : Int) (l2 : Sl) (Q : Bool → Heap → Prop) (j3 : Heap → Prop) : Int → Heap → Prop :=
  wl [(5, .one (.int .i64))] (fun (next4 : Int → Heap → Prop) (i5 : Int) (h6 : Heap) =>
  brr (decide (i5 < ((l2.len : Nat) : Int)))
  (ixS 1 l2 i5 fun (a7 : Addr) =>
  ld [.int .u64] a7 h6 fun (v8 : Int) =>
  brr (decide (v8 > most1))
  (Q false h6)
  (next4 (IntKind.i64.wrap (i5 + 1)) h6))
  (j3 h6))
def F_ref8_upTo_of  (most1 : Int) (l2 : Sl) (h : Heap) (Q : Bool → Heap → Prop) : Prop :=
  jn [] (fun  (h9 : Heap) =>
  Q true h9) (fun (j3 : Heap → Prop) =>
  F_ref8_upTo.l1 most1 l2 Q j3 0 h)
def F_ref8_upTo (most1 : Int) (l2 : Sl) (h : Heap) (Q : Bool → Heap → Prop) : Prop := F_ref8_upTo_of  most1 l2 h Q
def plan92 : Plan := .s (.r [0, 1]) (.s (.s (.r [0, 1, 5]) (.bj [] [] (.l [(5, .one (.int .i64))] [0, 1] (.s (.s (.r [0, 1, 5, 9]) (.c .z .z)) (.s (.b (.s (.r [0, 1, 5, 17]) (.c (.s (.r [4]) .z) .z))) (.r [0, 1, 5])))))) (.s (.r [4]) .z))
theorem F_ref8_upTo.eq  (most1 : Int) (l2 : Sl) (h : Heap) (K : YV) : F_ref8_upTo_of  most1 l2 h (fun (r0 : Bool) (h : Heap) => K (.bool r0) h) =
    den Tryz.prog noFns Tryz.f92.ntmps plan92 (bodyOf Tryz.f92) (args0 0 [(.int .u64 most1 : Value), (.slice l2.ptr l2.len l2.cap : Value)]) h (konF Tryz.f92 K) := by kernel_rfl
def E_ref8_upTo_of (f : Y34) : List Value → Heap → YV → Prop
  | [v0, v1], h, K => dec1 (.int .u64) v0 fun (most1 : Int) =>
  dec1 .sl v1 fun (l2 : Sl) =>
  f most1 l2 h (fun (r0 : Bool) (h : Heap) => K (.bool r0) h)
  | _, _, _ => False
abbrev E_ref8_upTo := E_ref8_upTo_of F_ref8_upTo
theorem E_ref8_upTo.right : IsRight Tryz.prog 92 E_ref8_upTo := by
  refine isRight fun vs K w hh => ?_
  match vs, hh with
  | [v0, v1], hh =>
    unfold E_ref8_upTo E_ref8_upTo_of at hh
    replace hh := dec1_sound hh; obtain ⟨most1, rfl, hh⟩ := hh
    replace hh := dec1_sound hh; obtain ⟨l2, rfl, hh⟩ := hh
    unfold F_ref8_upTo at hh
    exact calls_den noFns_right plan92 _ w K Tryz.func92 (by kernel_rfl) (by kernel_rfl) (Eq.mp (F_ref8_upTo.eq  most1 l2 w.heap K) hh)
theorem ok92 : okFn Tryz.prog 92 = true := by kernel_rfl
def F_ref8_May_of (f92_ : Y34) (m1 m2 m3 m4 m5 m6 m7 m8 m9 m10 : Int) (m11 : Sl) (m12 m13 : Int) (m14 m15 : ByteArray) (m16 m17 m18 m19 m20 m21 m22 : Int) (h : Heap) (Q : Bool → Heap → Prop) : Prop :=
  al 52 [.int .i64 m1, .int .i64 m2, .int .i64 m3, .int .i64 m4, .int .u64 m5, .int .u64 m6, .int .u64 m7, .int .u64 m8, .int .i64 m9, .int .u64 m10, .slice m11.ptr m11.len m11.cap, .int .i64 m12, .int .u64 m13, .string m14, .string m15, .int .u64 m16, .int .u64 m17, .int .u64 m18, .int .i64 m19, .int .i64 m20, .int .i64 m21, .int .i64 m22] h fun (a23 : Addr) (h24 : Heap) =>
  jn [(3, .one .bool)] (fun (nodes30 : Bool) (h31 : Heap) =>
  jn [(4, .one .bool)] (fun (shards37 : Bool) (h38 : Heap) =>
  ld [.int .u64] (a23.add 4) h38 fun (v39 : Int) =>
  ld [.int .u64] ((a23.add 5).add 0) h38 fun (v40 : Int) =>
  ld [.int .u64] ((a23.add 5).add 1) h38 fun (v41 : Int) =>
  ld [.int .u64] (a23.add 7) h38 fun (v42 : Int) =>
  ld [.int .u64] (a23.add 9) h38 fun (v43 : Int) =>
  ld [.int .u64] (a23.add 12) h38 fun (v44 : Int) =>
  ld [.int .u64] ((a23.add 16).add 0) h38 fun (v45 : Int) =>
  ld [.int .u64] ((a23.add 16).add 1) h38 fun (v46 : Int) =>
  al 44 [.int .u64 v39, .int .u64 v40, .int .u64 v41, .int .u64 v42, .int .u64 v43, .int .u64 v44, .int .u64 v45, .int .u64 v46] h38 fun (a47 : Addr) (h48 : Heap) =>
  f92_ 1099511627776 ⟨(some a47), 8, 8⟩ h48 fun (r49 : Bool) (h50 : Heap) =>
  jn [(6, .one .bool)] (fun (span54 : Bool) (h55 : Heap) =>
  jn [(7, .one .bool)] (fun (lengths60 : Bool) (h61 : Heap) =>
  jn [(8, .one .bool)] (fun (small69 : Bool) (h70 : Heap) =>
  jn [(9, .one .bool)] (fun (bad75 : Bool) (h76 : Heap) =>
  jn [(2, .one .bool)] (fun (x79 : Bool) (h80 : Heap) =>
  Q x79 h80) (fun (j77 : Bool → Heap → Prop) =>
  brr nodes30
  (brr shards37
  (brr r49
  (brr span54
  (brr lengths60
  (brr small69
  (brr bad75
  (ld [.int .u64] (a23.add 15) h76 fun (v78 : Int) =>
  j77 (decide (v78 ≤ 9007199254740992)) h76)
  (j77 false h76))
  (j77 false h76))
  (j77 false h76))
  (j77 false h76))
  (j77 false h76))
  (j77 false h76))
  (j77 false h76))) (fun (j71 : Bool → Heap → Prop) =>
  ld [.int .i64] (a23.add 21) h70 fun (v72 : Int) =>
  brr (v72 == 0)
  (j71 true h70)
  (ld [.int .i64] (a23.add 21) h70 fun (v73 : Int) =>
  brr (decide (v73 ≥ 300))
  (ld [.int .i64] (a23.add 21) h70 fun (v74 : Int) =>
  j71 (decide (v74 ≤ 307)) h70)
  (j71 false h70)))) (fun (j62 : Bool → Heap → Prop) =>
  ld [.int .i64] (a23.add 18) h61 fun (v63 : Int) =>
  brr (decide (v63 ≥ 0))
  (ld [.int .i64] (a23.add 18) h61 fun (v64 : Int) =>
  brr (decide (v64 ≤ 3))
  (ld [.int .i64] (a23.add 19) h61 fun (v65 : Int) =>
  brr (decide (v65 ≥ 0))
  (ld [.int .i64] (a23.add 19) h61 fun (v66 : Int) =>
  brr (decide (v66 < 8))
  (ld [.int .i64] (a23.add 20) h61 fun (v67 : Int) =>
  brr (decide (v67 ≥ 0))
  (ld [.int .i64] (a23.add 20) h61 fun (v68 : Int) =>
  j62 (decide (v68 ≤ 4)) h61)
  (j62 false h61))
  (j62 false h61))
  (j62 false h61))
  (j62 false h61))
  (j62 false h61))) (fun (j56 : Bool → Heap → Prop) =>
  ld [.sl] (a23.add 10) h55 fun (v57 : Sl) =>
  brr (decide (((v57.len : Nat) : Int) ≤ 16384))
  (ld [.str] (a23.add 13) h55 fun (v58 : ByteArray) =>
  brr (decide ((v58.size : Int) ≤ 64))
  (ld [.str] (a23.add 14) h55 fun (v59 : ByteArray) =>
  j56 (decide ((v59.size : Int) ≤ 64)) h55)
  (j56 false h55))
  (j56 false h55))) (fun (j51 : Bool → Heap → Prop) =>
  ld [.int .i64] (a23.add 8) h50 fun (v52 : Int) =>
  brr (decide (v52 ≥ 0))
  (ld [.int .i64] (a23.add 8) h50 fun (v53 : Int) =>
  j51 (decide (v53 ≤ 1025)) h50)
  (j51 false h50))) (fun (j32 : Bool → Heap → Prop) =>
  ld [.int .i64] ((a23.add 0).add 3) h31 fun (v33 : Int) =>
  brr (decide (v33 ≥ 0))
  (ld [.int .i64] ((a23.add 0).add 3) h31 fun (v34 : Int) =>
  brr (decide (v34 < 8))
  (ld [.int .i64] (a23.add 11) h31 fun (v35 : Int) =>
  brr (decide (v35 ≥ 0))
  (ld [.int .i64] (a23.add 11) h31 fun (v36 : Int) =>
  j32 (decide (v36 < 8)) h31)
  (j32 false h31))
  (j32 false h31))
  (j32 false h31))) (fun (j25 : Bool → Heap → Prop) =>
  ld [.int .i64] ((a23.add 0).add 1) h24 fun (v26 : Int) =>
  brr (decide (v26 ≥ 0))
  (ld [.int .i64] ((a23.add 0).add 1) h24 fun (v27 : Int) =>
  brr (decide (v27 < 9))
  (ld [.int .i64] ((a23.add 0).add 2) h24 fun (v28 : Int) =>
  brr (decide (v28 ≥ 0))
  (ld [.int .i64] ((a23.add 0).add 2) h24 fun (v29 : Int) =>
  j25 (decide (v29 < 9)) h24)
  (j25 false h24))
  (j25 false h24))
  (j25 false h24))
def F_ref8_May (m1 m2 m3 m4 m5 m6 m7 m8 m9 m10 : Int) (m11 : Sl) (m12 m13 : Int) (m14 m15 : ByteArray) (m16 m17 m18 m19 m20 m21 m22 : Int) (h : Heap) (Q : Bool → Heap → Prop) : Prop := F_ref8_May_of F_ref8_upTo m1 m2 m3 m4 m5 m6 m7 m8 m9 m10 m11 m12 m13 m14 m15 m16 m17 m18 m19 m20 m21 m22 h Q
def plan37 : Plan := .s (.r [1]) (.s (.rj [(3, .one .bool)] [1]) (.s (.rj [(4, .one .bool)] [1, 3]) (.s (.r [1, 3, 4, 5]) (.s (.rj [(6, .one .bool)] [1, 3, 4, 5]) (.s (.rj [(7, .one .bool)] [1, 3, 4, 5, 6]) (.s (.rj [(8, .one .bool)] [1, 3, 4, 5, 6, 7]) (.s (.rj [(9, .one .bool)] [1, 3, 4, 5, 6, 7, 8]) (.s (.rj [(2, .one .bool)] []) .z))))))))
theorem F_ref8_May.eq (f92_ : Y34) (m1 m2 m3 m4 m5 m6 m7 m8 m9 m10 : Int) (m11 : Sl) (m12 m13 : Int) (m14 m15 : ByteArray) (m16 m17 m18 m19 m20 m21 m22 : Int) (h : Heap) (K : YV) : F_ref8_May_of f92_ m1 m2 m3 m4 m5 m6 m7 m8 m9 m10 m11 m12 m13 m14 m15 m16 m17 m18 m19 m20 m21 m22 h (fun (r0 : Bool) (h : Heap) => K (.bool r0) h) =
    den Tryz.prog (fn1 92 (E_ref8_upTo_of f92_) noFns) Tryz.f37.ntmps plan37 (bodyOf Tryz.f37) (args0 0 [(.agg #[.int .i64 m1, .int .i64 m2, .int .i64 m3, .int .i64 m4, .int .u64 m5, .int .u64 m6, .int .u64 m7, .int .u64 m8, .int .i64 m9, .int .u64 m10, .slice m11.ptr m11.len m11.cap, .int .i64 m12, .int .u64 m13, .string m14, .string m15, .int .u64 m16, .int .u64 m17, .int .u64 m18, .int .i64 m19, .int .i64 m20, .int .i64 m21, .int .i64 m22] : Value)]) h (konF Tryz.f37 K) := by kernel_rfl
def E_ref8_May_of (f : Y35) : List Value → Heap → YV → Prop
  | [v0], h, K => vAgg v0 fun cs0 => decs K22 cs0.toList fun (m1 m2 m3 m4 m5 m6 m7 m8 m9 m10 : Int) (m11 : Sl) (m12 m13 : Int) (m14 m15 : ByteArray) (m16 m17 m18 m19 m20 m21 m22 : Int) =>
  f m1 m2 m3 m4 m5 m6 m7 m8 m9 m10 m11 m12 m13 m14 m15 m16 m17 m18 m19 m20 m21 m22 h (fun (r0 : Bool) (h : Heap) => K (.bool r0) h)
  | _, _, _ => False
abbrev E_ref8_May := E_ref8_May_of F_ref8_May
theorem E_ref8_May.right : IsRight Tryz.prog 37 E_ref8_May := by
  refine isRight fun vs K w hh => ?_
  match vs, hh with
  | [v0], hh =>
    unfold E_ref8_May E_ref8_May_of at hh
    replace hh := vAgg_sound hh; obtain ⟨cs0, rfl, hh⟩ := hh
    replace hh := decs_cons hh; obtain ⟨m1, l0_0, e0_0, hh⟩ := hh
    replace hh := decs_cons hh; obtain ⟨m2, l0_1, e0_1, hh⟩ := hh
    replace hh := decs_cons hh; obtain ⟨m3, l0_2, e0_2, hh⟩ := hh
    replace hh := decs_cons hh; obtain ⟨m4, l0_3, e0_3, hh⟩ := hh
    replace hh := decs_cons hh; obtain ⟨m5, l0_4, e0_4, hh⟩ := hh
    replace hh := decs_cons hh; obtain ⟨m6, l0_5, e0_5, hh⟩ := hh
    replace hh := decs_cons hh; obtain ⟨m7, l0_6, e0_6, hh⟩ := hh
    replace hh := decs_cons hh; obtain ⟨m8, l0_7, e0_7, hh⟩ := hh
    replace hh := decs_cons hh; obtain ⟨m9, l0_8, e0_8, hh⟩ := hh
    replace hh := decs_cons hh; obtain ⟨m10, l0_9, e0_9, hh⟩ := hh
    replace hh := decs_cons hh; obtain ⟨m11, l0_10, e0_10, hh⟩ := hh
    replace hh := decs_cons hh; obtain ⟨m12, l0_11, e0_11, hh⟩ := hh
    replace hh := decs_cons hh; obtain ⟨m13, l0_12, e0_12, hh⟩ := hh
    replace hh := decs_cons hh; obtain ⟨m14, l0_13, e0_13, hh⟩ := hh
    replace hh := decs_cons hh; obtain ⟨m15, l0_14, e0_14, hh⟩ := hh
    replace hh := decs_cons hh; obtain ⟨m16, l0_15, e0_15, hh⟩ := hh
    replace hh := decs_cons hh; obtain ⟨m17, l0_16, e0_16, hh⟩ := hh
    replace hh := decs_cons hh; obtain ⟨m18, l0_17, e0_17, hh⟩ := hh
    replace hh := decs_cons hh; obtain ⟨m19, l0_18, e0_18, hh⟩ := hh
    replace hh := decs_cons hh; obtain ⟨m20, l0_19, e0_19, hh⟩ := hh
    replace hh := decs_cons hh; obtain ⟨m21, l0_20, e0_20, hh⟩ := hh
    replace hh := decs_cons hh; obtain ⟨m22, l0_21, e0_21, hh⟩ := hh
    replace hh := decs_nil hh; obtain ⟨rfl, hh⟩ := hh
    subst e0_21
    subst e0_20
    subst e0_19
    subst e0_18
    subst e0_17
    subst e0_16
    subst e0_15
    subst e0_14
    subst e0_13
    subst e0_12
    subst e0_11
    subst e0_10
    subst e0_9
    subst e0_8
    subst e0_7
    subst e0_6
    subst e0_5
    subst e0_4
    subst e0_3
    subst e0_2
    subst e0_1
    have ec0 := toArray_eq e0_0
    subst ec0
    unfold F_ref8_May at hh
    exact calls_den (fn1_right ok92 E_ref8_upTo.right noFns_right) plan37 _ w K Tryz.func37 (by kernel_rfl) (by kernel_rfl) (Eq.mp (F_ref8_May.eq F_ref8_upTo m1 m2 m3 m4 m5 m6 m7 m8 m9 m10 m11 m12 m13 m14 m15 m16 m17 m18 m19 m20 m21 m22 w.heap K) hh)
theorem ok37 : okFn Tryz.prog 37 = true := by kernel_rfl
def F_ref8_pen_number_of (f142_ : Y15) (p1 : Option Addr) (n2 : Int) (h : Heap) (Q : Heap → Prop) : Prop :=
  nn p1 fun (a3 : Addr) =>
  ld [.sl] (a3.add 0) h fun (v4 : Sl) =>
  f142_ n2 h fun (r5 : Sl) (h6 : Heap) =>
  cellsAre h6 (a3.add 0) [.slice v4.ptr v4.len v4.cap] ∧
  app 5 1 1 (.int .u8 0) v4 r5.ptr r5.len h6 fun (s7 : Sl) (h8 : Heap) =>
  nn p1 fun (a9 : Addr) =>
  st (a9.add 0) [.slice s7.ptr s7.len s7.cap] h8 fun (h10 : Heap) =>
  Q h10
def F_ref8_pen_number (p1 : Option Addr) (n2 : Int) (h : Heap) (Q : Heap → Prop) : Prop := F_ref8_pen_number_of F_ref1_Var p1 n2 h Q
def plan93 : Plan := .d [0, 0, 2, 6, 14, 0, 32, 126, 255, 511, 1023] [[0, 1, 2, 3, 4, 5, 6, 7, 8, 9, 10]] []
theorem F_ref8_pen_number.eq (f142_ : Y15) (p1 : Option Addr) (n2 : Int) (h : Heap) (K : YV) : F_ref8_pen_number_of f142_ p1 n2 h (fun  (h : Heap) => K (.tuple #[]) h) =
    den Tryz.prog (fn1 142 (E_ref1_Var_of f142_) noFns) Tryz.f93.ntmps plan93 (bodyOf Tryz.f93) (args0 0 [(.pointer p1 : Value), (.int .u64 n2 : Value)]) h (konF Tryz.f93 K) := by kernel_rfl
def E_ref8_pen_number_of (f : Y8) : List Value → Heap → YV → Prop
  | [v0, v1], h, K => dec1 .ptr v0 fun (p1 : Option Addr) =>
  dec1 (.int .u64) v1 fun (n2 : Int) =>
  f p1 n2 h (fun  (h : Heap) => K (.tuple #[]) h)
  | _, _, _ => False
abbrev E_ref8_pen_number := E_ref8_pen_number_of F_ref8_pen_number
theorem E_ref8_pen_number.right : IsRight Tryz.prog 93 E_ref8_pen_number := by
  refine isRight fun vs K w hh => ?_
  match vs, hh with
  | [v0, v1], hh =>
    unfold E_ref8_pen_number E_ref8_pen_number_of at hh
    replace hh := dec1_sound hh; obtain ⟨p1, rfl, hh⟩ := hh
    replace hh := dec1_sound hh; obtain ⟨n2, rfl, hh⟩ := hh
    unfold F_ref8_pen_number at hh
    exact calls_den (fn1_right ok142 E_ref1_Var.right noFns_right) plan93 _ w K Tryz.func93 (by kernel_rfl) (by kernel_rfl) (Eq.mp (F_ref8_pen_number.eq F_ref1_Var p1 n2 w.heap K) hh)
theorem ok93 : okFn Tryz.prog 93 = true := by kernel_rfl
def F_ref8_pen_text_of (f143_ : Y7) (p1 : Option Addr) (s2 : Sl) (h : Heap) (Q : Heap → Prop) : Prop :=
  nn p1 fun (a3 : Addr) =>
  ld [.sl] (a3.add 0) h fun (v4 : Sl) =>
  f143_ s2 h fun (r5 : Sl) (h6 : Heap) =>
  cellsAre h6 (a3.add 0) [.slice v4.ptr v4.len v4.cap] ∧
  app 5 1 1 (.int .u8 0) v4 r5.ptr r5.len h6 fun (s7 : Sl) (h8 : Heap) =>
  nn p1 fun (a9 : Addr) =>
  st (a9.add 0) [.slice s7.ptr s7.len s7.cap] h8 fun (h10 : Heap) =>
  Q h10
def F_ref8_pen_text (p1 : Option Addr) (s2 : Sl) (h : Heap) (Q : Heap → Prop) : Prop := F_ref8_pen_text_of F_ref1_Text p1 s2 h Q
def plan94 : Plan := .d [0, 0, 2, 6, 14, 0, 32, 126, 255, 511, 1023] [[0, 1, 2, 3, 4, 5, 6, 7, 8, 9, 10]] []
theorem F_ref8_pen_text.eq (f143_ : Y7) (p1 : Option Addr) (s2 : Sl) (h : Heap) (K : YV) : F_ref8_pen_text_of f143_ p1 s2 h (fun  (h : Heap) => K (.tuple #[]) h) =
    den Tryz.prog (fn1 143 (E_ref1_Text_of f143_) noFns) Tryz.f94.ntmps plan94 (bodyOf Tryz.f94) (args0 0 [(.pointer p1 : Value), (.slice s2.ptr s2.len s2.cap : Value)]) h (konF Tryz.f94 K) := by kernel_rfl
def E_ref8_pen_text_of (f : Y16) : List Value → Heap → YV → Prop
  | [v0, v1], h, K => dec1 .ptr v0 fun (p1 : Option Addr) =>
  dec1 .sl v1 fun (s2 : Sl) =>
  f p1 s2 h (fun  (h : Heap) => K (.tuple #[]) h)
  | _, _, _ => False
abbrev E_ref8_pen_text := E_ref8_pen_text_of F_ref8_pen_text
theorem E_ref8_pen_text.right : IsRight Tryz.prog 94 E_ref8_pen_text := by
  refine isRight fun vs K w hh => ?_
  match vs, hh with
  | [v0, v1], hh =>
    unfold E_ref8_pen_text E_ref8_pen_text_of at hh
    replace hh := dec1_sound hh; obtain ⟨p1, rfl, hh⟩ := hh
    replace hh := dec1_sound hh; obtain ⟨s2, rfl, hh⟩ := hh
    unfold F_ref8_pen_text at hh
    exact calls_den (fn1_right ok143 E_ref1_Text.right noFns_right) plan94 _ w K Tryz.func94 (by kernel_rfl) (by kernel_rfl) (Eq.mp (F_ref8_pen_text.eq F_ref1_Text p1 s2 w.heap K) hh)
theorem ok94 : okFn Tryz.prog 94 = true := by kernel_rfl
def F_ref8_pen_small_of  (p1 : Option Addr) (n2 : Int) (h : Heap) (Q : Heap → Prop) : Prop :=
  nn p1 fun (a3 : Addr) =>
  ld [.sl] (a3.add 0) h fun (v4 : Sl) =>
  al 5 [.int .u8 (IntKind.u8.wrap n2)] h fun (a5 : Addr) (h6 : Heap) =>
  app 5 1 1 (.int .u8 0) v4 (some a5) 1 h6 fun (s7 : Sl) (h8 : Heap) =>
  nn p1 fun (a9 : Addr) =>
  st (a9.add 0) [.slice s7.ptr s7.len s7.cap] h8 fun (h10 : Heap) =>
  Q h10
def F_ref8_pen_small (p1 : Option Addr) (n2 : Int) (h : Heap) (Q : Heap → Prop) : Prop := F_ref8_pen_small_of  p1 n2 h Q
def plan95 : Plan := .r []
theorem F_ref8_pen_small.eq  (p1 : Option Addr) (n2 : Int) (h : Heap) (K : YV) : F_ref8_pen_small_of  p1 n2 h (fun  (h : Heap) => K (.tuple #[]) h) =
    den Tryz.prog noFns Tryz.f95.ntmps plan95 (bodyOf Tryz.f95) (args0 0 [(.pointer p1 : Value), (.int .i64 n2 : Value)]) h (konF Tryz.f95 K) := by kernel_rfl
def E_ref8_pen_small_of (f : Y8) : List Value → Heap → YV → Prop
  | [v0, v1], h, K => dec1 .ptr v0 fun (p1 : Option Addr) =>
  dec1 (.int .i64) v1 fun (n2 : Int) =>
  f p1 n2 h (fun  (h : Heap) => K (.tuple #[]) h)
  | _, _, _ => False
abbrev E_ref8_pen_small := E_ref8_pen_small_of F_ref8_pen_small
theorem E_ref8_pen_small.right : IsRight Tryz.prog 95 E_ref8_pen_small := by
  refine isRight fun vs K w hh => ?_
  match vs, hh with
  | [v0, v1], hh =>
    unfold E_ref8_pen_small E_ref8_pen_small_of at hh
    replace hh := dec1_sound hh; obtain ⟨p1, rfl, hh⟩ := hh
    replace hh := dec1_sound hh; obtain ⟨n2, rfl, hh⟩ := hh
    unfold F_ref8_pen_small at hh
    exact calls_den noFns_right plan95 _ w K Tryz.func95 (by kernel_rfl) (by kernel_rfl) (Eq.mp (F_ref8_pen_small.eq  p1 n2 w.heap K) hh)
theorem ok95 : okFn Tryz.prog 95 = true := by kernel_rfl
def F_ref8_Body_of (f93_ : Y8) (f94_ : Y16) (f95_ : Y8) (m1 m2 m3 m4 m5 m6 m7 m8 m9 m10 : Int) (m11 : Sl) (m12 m13 : Int) (m14 m15 : ByteArray) (m16 m17 m18 m19 m20 m21 m22 : Int) (h : Heap) (Q : Sl → Heap → Prop) : Prop :=
  al 52 [.int .i64 m1, .int .i64 m2, .int .i64 m3, .int .i64 m4, .int .u64 m5, .int .u64 m6, .int .u64 m7, .int .u64 m8, .int .i64 m9, .int .u64 m10, .slice m11.ptr m11.len m11.cap, .int .i64 m12, .int .u64 m13, .string m14, .string m15, .int .u64 m16, .int .u64 m17, .int .u64 m18, .int .i64 m19, .int .i64 m20, .int .i64 m21, .int .i64 m22] h fun (a23 : Addr) (h24 : Heap) =>
  ld [.int .i64] ((a23.add 0).add 0) h24 fun (v25 : Int) =>
  ld [.int .i64] ((a23.add 0).add 1) h24 fun (v26 : Int) =>
  ld [.int .i64] ((a23.add 0).add 2) h24 fun (v27 : Int) =>
  ld [.int .i64] ((a23.add 0).add 3) h24 fun (v28 : Int) =>
  al 5 [.int .u8 (IntKind.u8.wrap v25), .int .u8 (IntKind.u8.wrap v26), .int .u8 (IntKind.u8.wrap v27), .int .u8 (IntKind.u8.wrap v28)] h24 fun (a29 : Addr) (h30 : Heap) =>
  al 134 [.slice (some a29) 4 4] h30 fun (a31 : Addr) (h32 : Heap) =>
  ld [.int .i64] ((a23.add 0).add 0) h32 fun (v33 : Int) =>
  jn [] (fun  (h135 : Heap) =>
  nn (some a31) fun (a136 : Addr) =>
  ld [.sl] (a136.add 0) h135 fun (v137 : Sl) =>
  Q v137 h135) (fun (j34 : Heap → Prop) =>
  brr (v33 == 1)
  (ld [.int .u64] (a23.add 4) h32 fun (v35 : Int) =>
  f93_ (some a31) v35 h32 fun  (h36 : Heap) =>
  j34 h36)
  (jn [] (fun  (h134 : Heap) =>
  j34 h134) (fun (j37 : Heap → Prop) =>
  brr (v33 == 2)
  (ld [.int .u64] (a23.add 4) h32 fun (v38 : Int) =>
  f93_ (some a31) v38 h32 fun  (h39 : Heap) =>
  ld [.int .u64] ((a23.add 5).add 0) h39 fun (v40 : Int) =>
  f93_ (some a31) v40 h39 fun  (h41 : Heap) =>
  ld [.int .u64] ((a23.add 5).add 1) h41 fun (v42 : Int) =>
  f93_ (some a31) v42 h41 fun  (h43 : Heap) =>
  ld [.sl] (a23.add 10) h43 fun (v44 : Sl) =>
  f94_ (some a31) v44 h43 fun  (h45 : Heap) =>
  j37 h45)
  (jn [] (fun  (h133 : Heap) =>
  j37 h133) (fun (j46 : Heap → Prop) =>
  brr (v33 == 3)
  (ld [.int .u64] (a23.add 4) h32 fun (v47 : Int) =>
  f93_ (some a31) v47 h32 fun  (h48 : Heap) =>
  ld [.int .u64] (a23.add 9) h48 fun (v49 : Int) =>
  f93_ (some a31) v49 h48 fun  (h50 : Heap) =>
  j46 h50)
  (jn [] (fun  (h132 : Heap) =>
  j46 h132) (fun (j51 : Heap → Prop) =>
  brr (v33 == 4)
  (ld [.int .u64] ((a23.add 5).add 0) h32 fun (v52 : Int) =>
  f93_ (some a31) v52 h32 fun  (h53 : Heap) =>
  ld [.int .u64] ((a23.add 5).add 1) h53 fun (v54 : Int) =>
  f93_ (some a31) v54 h53 fun  (h55 : Heap) =>
  ld [.int .i64] (a23.add 8) h55 fun (v56 : Int) =>
  f93_ (some a31) (IntKind.u64.wrap v56) h55 fun  (h57 : Heap) =>
  ld [.sl] (a23.add 10) h57 fun (v58 : Sl) =>
  f94_ (some a31) v58 h57 fun  (h59 : Heap) =>
  j51 h59)
  (jn [] (fun  (h131 : Heap) =>
  j51 h131) (fun (j60 : Heap → Prop) =>
  brr (v33 == 5)
  (ld [.int .u64] ((a23.add 5).add 0) h32 fun (v61 : Int) =>
  f93_ (some a31) v61 h32 fun  (h62 : Heap) =>
  ld [.int .u64] ((a23.add 5).add 1) h62 fun (v63 : Int) =>
  f93_ (some a31) v63 h62 fun  (h64 : Heap) =>
  j60 h64)
  (jn [] (fun  (h130 : Heap) =>
  j60 h130) (fun (j65 : Heap → Prop) =>
  brr (v33 == 6)
  (ld [.int .u64] (a23.add 4) h32 fun (v66 : Int) =>
  f93_ (some a31) v66 h32 fun  (h67 : Heap) =>
  ld [.int .u64] (a23.add 7) h67 fun (v68 : Int) =>
  f93_ (some a31) v68 h67 fun  (h69 : Heap) =>
  ld [.int .i64] (a23.add 8) h69 fun (v70 : Int) =>
  f93_ (some a31) (IntKind.u64.wrap v70) h69 fun  (h71 : Heap) =>
  j65 h71)
  (jn [] (fun  (h129 : Heap) =>
  j65 h129) (fun (j72 : Heap → Prop) =>
  brr (v33 == 7)
  (ld [.int .u64] (a23.add 4) h32 fun (v73 : Int) =>
  f93_ (some a31) v73 h32 fun  (h74 : Heap) =>
  ld [.int .u64] (a23.add 7) h74 fun (v75 : Int) =>
  f93_ (some a31) v75 h74 fun  (h76 : Heap) =>
  j72 h76)
  (jn [] (fun  (h128 : Heap) =>
  j72 h128) (fun (j77 : Heap → Prop) =>
  brr (v33 == 8)
  (ld [.int .i64] (a23.add 11) h32 fun (v78 : Int) =>
  f95_ (some a31) v78 h32 fun  (h79 : Heap) =>
  ld [.int .u64] (a23.add 12) h79 fun (v80 : Int) =>
  f93_ (some a31) v80 h79 fun  (h81 : Heap) =>
  ld [.str] (a23.add 13) h81 fun (v82 : ByteArray) =>
  s2b 5 v82 h81 fun (s83 : Sl) (h84 : Heap) =>
  f94_ (some a31) s83 h84 fun  (h85 : Heap) =>
  ld [.int .u64] (a23.add 15) h85 fun (v86 : Int) =>
  f93_ (some a31) v86 h85 fun  (h87 : Heap) =>
  j77 h87)
  (jn [] (fun  (h127 : Heap) =>
  j77 h127) (fun (j88 : Heap → Prop) =>
  brr (v33 == 9)
  (ld [.int .i64] (a23.add 11) h32 fun (v89 : Int) =>
  f95_ (some a31) v89 h32 fun  (h90 : Heap) =>
  ld [.int .u64] (a23.add 12) h90 fun (v91 : Int) =>
  f93_ (some a31) v91 h90 fun  (h92 : Heap) =>
  j88 h92)
  (jn [] (fun  (h126 : Heap) =>
  j88 h126) (fun (j93 : Heap → Prop) =>
  brr (v33 == 10)
  (ld [.int .u64] (a23.add 12) h32 fun (v94 : Int) =>
  f93_ (some a31) v94 h32 fun  (h95 : Heap) =>
  ld [.str] (a23.add 13) h95 fun (v96 : ByteArray) =>
  s2b 5 v96 h95 fun (s97 : Sl) (h98 : Heap) =>
  f94_ (some a31) s97 h98 fun  (h99 : Heap) =>
  ld [.str] (a23.add 14) h99 fun (v100 : ByteArray) =>
  s2b 5 v100 h99 fun (s101 : Sl) (h102 : Heap) =>
  f94_ (some a31) s101 h102 fun  (h103 : Heap) =>
  ld [.int .u64] (a23.add 15) h103 fun (v104 : Int) =>
  f93_ (some a31) v104 h103 fun  (h105 : Heap) =>
  ld [.int .u64] ((a23.add 16).add 0) h105 fun (v106 : Int) =>
  f93_ (some a31) v106 h105 fun  (h107 : Heap) =>
  ld [.int .u64] ((a23.add 16).add 1) h107 fun (v108 : Int) =>
  f93_ (some a31) v108 h107 fun  (h109 : Heap) =>
  ld [.int .i64] (a23.add 18) h109 fun (v110 : Int) =>
  f95_ (some a31) v110 h109 fun  (h111 : Heap) =>
  ld [.int .i64] (a23.add 19) h111 fun (v112 : Int) =>
  f95_ (some a31) v112 h111 fun  (h113 : Heap) =>
  j93 h113)
  (jn [] (fun  (h125 : Heap) =>
  j93 h125) (fun (j114 : Heap → Prop) =>
  brr (v33 == 11)
  (ld [.int .u64] (a23.add 15) h32 fun (v115 : Int) =>
  f93_ (some a31) v115 h32 fun  (h116 : Heap) =>
  ld [.int .u64] ((a23.add 16).add 0) h116 fun (v117 : Int) =>
  f93_ (some a31) v117 h116 fun  (h118 : Heap) =>
  ld [.int .u64] ((a23.add 16).add 1) h118 fun (v119 : Int) =>
  f93_ (some a31) v119 h118 fun  (h120 : Heap) =>
  ld [.int .i64] (a23.add 20) h120 fun (v121 : Int) =>
  f95_ (some a31) v121 h120 fun  (h122 : Heap) =>
  ld [.int .i64] (a23.add 21) h122 fun (v123 : Int) =>
  f93_ (some a31) (IntKind.u64.wrap v123) h122 fun  (h124 : Heap) =>
  j114 h124)
  (j114 h32))))))))))))))))))))))
def F_ref8_Body (m1 m2 m3 m4 m5 m6 m7 m8 m9 m10 : Int) (m11 : Sl) (m12 m13 : Int) (m14 m15 : ByteArray) (m16 m17 m18 m19 m20 m21 m22 : Int) (h : Heap) (Q : Sl → Heap → Prop) : Prop := F_ref8_Body_of F_ref8_pen_number F_ref8_pen_text F_ref8_pen_small m1 m2 m3 m4 m5 m6 m7 m8 m9 m10 m11 m12 m13 m14 m15 m16 m17 m18 m19 m20 m21 m22 h Q
def plan38 : Plan := .s (.r [1]) (.s (.r [1, 3]) (.s (.s (.r [1, 3, 25]) (.b (.s (.r [1, 3, 25, 26]) (.cj [] [3] (.r [3]) (.s (.r [1, 3, 25, 32]) (.cj [] [3] (.s (.r [1, 3]) (.s (.r [1, 3]) (.s (.r [1, 3]) (.r [3])))) (.s (.r [1, 3, 25, 52]) (.cj [] [3] (.s (.r [1, 3]) (.r [3])) (.s (.r [1, 3, 25, 62]) (.cj [] [3] (.s (.r [1, 3]) (.s (.r [1, 3]) (.s (.r [1, 3]) (.r [3])))) (.s (.r [1, 3, 25, 83]) (.cj [] [3] (.s (.r [1, 3]) (.r [3])) (.s (.r [1, 3, 25, 95]) (.cj [] [3] (.s (.r [1, 3]) (.s (.r [1, 3]) (.r [3]))) (.s (.r [1, 3, 25, 110]) (.cj [] [3] (.s (.r [1, 3]) (.r [3])) (.s (.r [1, 3, 25, 120]) (.cj [] [3] (.s (.r [1, 3]) (.s (.r [1, 3]) (.s (.r [1, 3]) (.r [3])))) (.s (.r [1, 3, 25, 139]) (.cj [] [3] (.s (.r [1, 3]) (.r [3])) (.s (.r [1, 3, 25, 149]) (.cj [] [3] (.s (.r [1, 3]) (.s (.r [1, 3]) (.s (.r [1, 3]) (.s (.r [1, 3]) (.s (.r [1, 3]) (.s (.r [1, 3]) (.s (.r [1, 3]) (.r [3])))))))) (.s (.r [1, 3, 187]) (.cj [] [3] (.s (.r [1, 3]) (.s (.r [1, 3]) (.s (.r [1, 3]) (.s (.r [1, 3]) (.r [3]))))) .z)))))))))))))))))))))))) (.s (.r [2]) .z)))
theorem F_ref8_Body.eq (f93_ : Y8) (f94_ : Y16) (f95_ : Y8) (m1 m2 m3 m4 m5 m6 m7 m8 m9 m10 : Int) (m11 : Sl) (m12 m13 : Int) (m14 m15 : ByteArray) (m16 m17 m18 m19 m20 m21 m22 : Int) (h : Heap) (K : YV) : F_ref8_Body_of f93_ f94_ f95_ m1 m2 m3 m4 m5 m6 m7 m8 m9 m10 m11 m12 m13 m14 m15 m16 m17 m18 m19 m20 m21 m22 h (fun (r0 : Sl) (h : Heap) => K (.slice r0.ptr r0.len r0.cap) h) =
    den Tryz.prog (fn1 93 (E_ref8_pen_number_of f93_) (fn1 94 (E_ref8_pen_text_of f94_) (fn1 95 (E_ref8_pen_small_of f95_) noFns))) Tryz.f38.ntmps plan38 (bodyOf Tryz.f38) (args0 0 [(.agg #[.int .i64 m1, .int .i64 m2, .int .i64 m3, .int .i64 m4, .int .u64 m5, .int .u64 m6, .int .u64 m7, .int .u64 m8, .int .i64 m9, .int .u64 m10, .slice m11.ptr m11.len m11.cap, .int .i64 m12, .int .u64 m13, .string m14, .string m15, .int .u64 m16, .int .u64 m17, .int .u64 m18, .int .i64 m19, .int .i64 m20, .int .i64 m21, .int .i64 m22] : Value)]) h (konF Tryz.f38 K) := by kernel_rfl
def E_ref8_Body_of (f : Y36) : List Value → Heap → YV → Prop
  | [v0], h, K => vAgg v0 fun cs0 => decs K22 cs0.toList fun (m1 m2 m3 m4 m5 m6 m7 m8 m9 m10 : Int) (m11 : Sl) (m12 m13 : Int) (m14 m15 : ByteArray) (m16 m17 m18 m19 m20 m21 m22 : Int) =>
  f m1 m2 m3 m4 m5 m6 m7 m8 m9 m10 m11 m12 m13 m14 m15 m16 m17 m18 m19 m20 m21 m22 h (fun (r0 : Sl) (h : Heap) => K (.slice r0.ptr r0.len r0.cap) h)
  | _, _, _ => False
abbrev E_ref8_Body := E_ref8_Body_of F_ref8_Body
theorem E_ref8_Body.right : IsRight Tryz.prog 38 E_ref8_Body := by
  refine isRight fun vs K w hh => ?_
  match vs, hh with
  | [v0], hh =>
    unfold E_ref8_Body E_ref8_Body_of at hh
    replace hh := vAgg_sound hh; obtain ⟨cs0, rfl, hh⟩ := hh
    replace hh := decs_cons hh; obtain ⟨m1, l0_0, e0_0, hh⟩ := hh
    replace hh := decs_cons hh; obtain ⟨m2, l0_1, e0_1, hh⟩ := hh
    replace hh := decs_cons hh; obtain ⟨m3, l0_2, e0_2, hh⟩ := hh
    replace hh := decs_cons hh; obtain ⟨m4, l0_3, e0_3, hh⟩ := hh
    replace hh := decs_cons hh; obtain ⟨m5, l0_4, e0_4, hh⟩ := hh
    replace hh := decs_cons hh; obtain ⟨m6, l0_5, e0_5, hh⟩ := hh
    replace hh := decs_cons hh; obtain ⟨m7, l0_6, e0_6, hh⟩ := hh
    replace hh := decs_cons hh; obtain ⟨m8, l0_7, e0_7, hh⟩ := hh
    replace hh := decs_cons hh; obtain ⟨m9, l0_8, e0_8, hh⟩ := hh
    replace hh := decs_cons hh; obtain ⟨m10, l0_9, e0_9, hh⟩ := hh
    replace hh := decs_cons hh; obtain ⟨m11, l0_10, e0_10, hh⟩ := hh
    replace hh := decs_cons hh; obtain ⟨m12, l0_11, e0_11, hh⟩ := hh
    replace hh := decs_cons hh; obtain ⟨m13, l0_12, e0_12, hh⟩ := hh
    replace hh := decs_cons hh; obtain ⟨m14, l0_13, e0_13, hh⟩ := hh
    replace hh := decs_cons hh; obtain ⟨m15, l0_14, e0_14, hh⟩ := hh
    replace hh := decs_cons hh; obtain ⟨m16, l0_15, e0_15, hh⟩ := hh
    replace hh := decs_cons hh; obtain ⟨m17, l0_16, e0_16, hh⟩ := hh
    replace hh := decs_cons hh; obtain ⟨m18, l0_17, e0_17, hh⟩ := hh
    replace hh := decs_cons hh; obtain ⟨m19, l0_18, e0_18, hh⟩ := hh
    replace hh := decs_cons hh; obtain ⟨m20, l0_19, e0_19, hh⟩ := hh
    replace hh := decs_cons hh; obtain ⟨m21, l0_20, e0_20, hh⟩ := hh
    replace hh := decs_cons hh; obtain ⟨m22, l0_21, e0_21, hh⟩ := hh
    replace hh := decs_nil hh; obtain ⟨rfl, hh⟩ := hh
    subst e0_21
    subst e0_20
    subst e0_19
    subst e0_18
    subst e0_17
    subst e0_16
    subst e0_15
    subst e0_14
    subst e0_13
    subst e0_12
    subst e0_11
    subst e0_10
    subst e0_9
    subst e0_8
    subst e0_7
    subst e0_6
    subst e0_5
    subst e0_4
    subst e0_3
    subst e0_2
    subst e0_1
    have ec0 := toArray_eq e0_0
    subst ec0
    unfold F_ref8_Body at hh
    exact calls_den (fn1_right ok93 E_ref8_pen_number.right (fn1_right ok94 E_ref8_pen_text.right (fn1_right ok95 E_ref8_pen_small.right noFns_right))) plan38 _ w K Tryz.func38 (by kernel_rfl) (by kernel_rfl) (Eq.mp (F_ref8_Body.eq F_ref8_pen_number F_ref8_pen_text F_ref8_pen_small m1 m2 m3 m4 m5 m6 m7 m8 m9 m10 m11 m12 m13 m14 m15 m16 m17 m18 m19 m20 m21 m22 w.heap K) hh)
theorem ok38 : okFn Tryz.prog 38 = true := by kernel_rfl
def F_ref8_Encode_of (f18_ : Y23) (f28_ : Y7) (f36_ : Y33) (f37_ : Y35) (f38_ : Y36) (m1 m2 m3 m4 m5 m6 m7 m8 m9 m10 : Int) (m11 : Sl) (m12 m13 : Int) (m14 m15 : ByteArray) (m16 m17 m18 m19 m20 m21 m22 : Int) (h : Heap) (Q : Sl → Int → Heap → Prop) : Prop :=
  al 52 [.int .i64 m1, .int .i64 m2, .int .i64 m3, .int .i64 m4, .int .u64 m5, .int .u64 m6, .int .u64 m7, .int .u64 m8, .int .i64 m9, .int .u64 m10, .slice m11.ptr m11.len m11.cap, .int .i64 m12, .int .u64 m13, .string m14, .string m15, .int .u64 m16, .int .u64 m17, .int .u64 m18, .int .i64 m19, .int .i64 m20, .int .i64 m21, .int .i64 m22] h fun (a23 : Addr) (h24 : Heap) =>
  jn [(13, .one .bool)] (fun (x28 : Bool) (h29 : Heap) =>
  brr x28
  (Q (⟨none, 0, 0⟩ : Sl) 80 h29)
  (jn [(23, .one .bool)] (fun (x124 : Bool) (h125 : Heap) =>
  brr x124
  (Q (⟨none, 0, 0⟩ : Sl) 83 h125)
  (ld K22 a23 h125 fun (v126 v127 v128 v129 v130 v131 v132 v133 v134 v135 : Int) (v136 : Sl) (v137 v138 : Int) (v139 v140 : ByteArray) (v141 v142 v143 v144 v145 v146 v147 : Int) =>
  f38_ v126 v127 v128 v129 v130 v131 v132 v133 v134 v135 v136 v137 v138 v139 v140 v141 v142 v143 v144 v145 v146 v147 h125 fun (r148 : Sl) (h149 : Heap) =>
  f28_ r148 h149 fun (r150 : Sl) (h151 : Heap) =>
  Q r150 0 h151)) (fun (j30 : Bool → Heap → Prop) =>
  ld K22 a23 h29 fun (v31 v32 v33 v34 v35 v36 v37 v38 v39 v40 : Int) (v41 : Sl) (v42 v43 : Int) (v44 v45 : ByteArray) (v46 v47 v48 v49 v50 v51 v52 : Int) =>
  ld K22 a23 h29 fun (v53 v54 v55 v56 v57 v58 v59 v60 v61 v62 : Int) (v63 : Sl) (v64 v65 : Int) (v66 v67 : ByteArray) (v68 v69 v70 v71 v72 v73 v74 : Int) =>
  f36_ v53 v54 v55 v56 v57 v58 v59 v60 v61 v62 v63 v64 v65 v66 v67 v68 v69 v70 v71 v72 v73 v74 h29 fun (r75 r76 r77 r78 r79 r80 r81 r82 r83 r84 : Int) (r85 : Sl) (r86 r87 : Int) (r88 r89 : ByteArray) (r90 r91 r92 r93 r94 r95 r96 : Int) (h97 : Heap) =>
  cellsAre h97 a23 [.int .i64 v31, .int .i64 v32, .int .i64 v33, .int .i64 v34, .int .u64 v35, .int .u64 v36, .int .u64 v37, .int .u64 v38, .int .i64 v39, .int .u64 v40, .slice v41.ptr v41.len v41.cap, .int .i64 v42, .int .u64 v43, .string v44, .string v45, .int .u64 v46, .int .u64 v47, .int .u64 v48, .int .i64 v49, .int .i64 v50, .int .i64 v51, .int .i64 v52] ∧
  f18_ v31 v32 v33 v34 v35 v36 v37 v38 v39 v40 v41 v42 v43 v44 v45 v46 v47 v48 v49 v50 v51 v52 r75 r76 r77 r78 r79 r80 r81 r82 r83 r84 r85 r86 r87 r88 r89 r90 r91 r92 r93 r94 r95 r96 h97 fun (r98 : Bool) (h99 : Heap) =>
  brr (!r98)
  (j30 true h99)
  (ld K22 a23 h99 fun (v100 v101 v102 v103 v104 v105 v106 v107 v108 v109 : Int) (v110 : Sl) (v111 v112 : Int) (v113 v114 : ByteArray) (v115 v116 v117 v118 v119 v120 v121 : Int) =>
  f37_ v100 v101 v102 v103 v104 v105 v106 v107 v108 v109 v110 v111 v112 v113 v114 v115 v116 v117 v118 v119 v120 v121 h99 fun (r122 : Bool) (h123 : Heap) =>
  j30 (!r122) h123)))) (fun (j25 : Bool → Heap → Prop) =>
  ld [.int .i64] ((a23.add 0).add 0) h24 fun (v26 : Int) =>
  brr (decide (v26 < 1))
  (j25 true h24)
  (ld [.int .i64] ((a23.add 0).add 0) h24 fun (v27 : Int) =>
  j25 (decide (v27 > 11)) h24))
def F_ref8_Encode (m1 m2 m3 m4 m5 m6 m7 m8 m9 m10 : Int) (m11 : Sl) (m12 m13 : Int) (m14 m15 : ByteArray) (m16 m17 m18 m19 m20 m21 m22 : Int) (h : Heap) (Q : Sl → Int → Heap → Prop) : Prop := F_ref8_Encode_of F_ref0_EqMsg F_ref8_Seal F_ref8_Only F_ref8_May F_ref8_Body m1 m2 m3 m4 m5 m6 m7 m8 m9 m10 m11 m12 m13 m14 m15 m16 m17 m18 m19 m20 m21 m22 h Q
def plan10 : Plan := .s (.r [1]) (.s (.s (.rj [(13, .one .bool)] [1]) (.c (.s (.r [2, 3]) .z) .z)) (.s (.s (.dj [0, 0, 2, 7, 15, 31, 63, 127, 255, 511] [[0, 1, 2, 3, 4, 5, 6, 7, 8, 9]] [(23, .one .bool)] [1]) (.c (.s (.r [2, 3]) .z) .z)) (.s (.r [2, 3]) .z)))
theorem F_ref8_Encode.eq (f18_ : Y23) (f28_ : Y7) (f36_ : Y33) (f37_ : Y35) (f38_ : Y36) (m1 m2 m3 m4 m5 m6 m7 m8 m9 m10 : Int) (m11 : Sl) (m12 m13 : Int) (m14 m15 : ByteArray) (m16 m17 m18 m19 m20 m21 m22 : Int) (h : Heap) (K : YV) : F_ref8_Encode_of f18_ f28_ f36_ f37_ f38_ m1 m2 m3 m4 m5 m6 m7 m8 m9 m10 m11 m12 m13 m14 m15 m16 m17 m18 m19 m20 m21 m22 h (fun (r0 : Sl) (r1 : Int) (h : Heap) => K (.tuple #[.slice r0.ptr r0.len r0.cap, .int .i64 r1]) h) =
    den Tryz.prog (fn1 18 (E_ref0_EqMsg_of f18_) (fn1 28 (E_ref8_Seal_of f28_) (fn1 36 (E_ref8_Only_of f36_) (fn1 37 (E_ref8_May_of f37_) (fn1 38 (E_ref8_Body_of f38_) noFns))))) Tryz.f10.ntmps plan10 (bodyOf Tryz.f10) (args0 0 [(.agg #[.int .i64 m1, .int .i64 m2, .int .i64 m3, .int .i64 m4, .int .u64 m5, .int .u64 m6, .int .u64 m7, .int .u64 m8, .int .i64 m9, .int .u64 m10, .slice m11.ptr m11.len m11.cap, .int .i64 m12, .int .u64 m13, .string m14, .string m15, .int .u64 m16, .int .u64 m17, .int .u64 m18, .int .i64 m19, .int .i64 m20, .int .i64 m21, .int .i64 m22] : Value)]) h (konF Tryz.f10 K) := by kernel_rfl
def E_ref8_Encode_of (f : Y21) : List Value → Heap → YV → Prop
  | [v0], h, K => vAgg v0 fun cs0 => decs K22 cs0.toList fun (m1 m2 m3 m4 m5 m6 m7 m8 m9 m10 : Int) (m11 : Sl) (m12 m13 : Int) (m14 m15 : ByteArray) (m16 m17 m18 m19 m20 m21 m22 : Int) =>
  f m1 m2 m3 m4 m5 m6 m7 m8 m9 m10 m11 m12 m13 m14 m15 m16 m17 m18 m19 m20 m21 m22 h (fun (r0 : Sl) (r1 : Int) (h : Heap) => K (.tuple #[.slice r0.ptr r0.len r0.cap, .int .i64 r1]) h)
  | _, _, _ => False
abbrev E_ref8_Encode := E_ref8_Encode_of F_ref8_Encode
theorem E_ref8_Encode.right : IsRight Tryz.prog 10 E_ref8_Encode := by
  refine isRight fun vs K w hh => ?_
  match vs, hh with
  | [v0], hh =>
    unfold E_ref8_Encode E_ref8_Encode_of at hh
    replace hh := vAgg_sound hh; obtain ⟨cs0, rfl, hh⟩ := hh
    replace hh := decs_cons hh; obtain ⟨m1, l0_0, e0_0, hh⟩ := hh
    replace hh := decs_cons hh; obtain ⟨m2, l0_1, e0_1, hh⟩ := hh
    replace hh := decs_cons hh; obtain ⟨m3, l0_2, e0_2, hh⟩ := hh
    replace hh := decs_cons hh; obtain ⟨m4, l0_3, e0_3, hh⟩ := hh
    replace hh := decs_cons hh; obtain ⟨m5, l0_4, e0_4, hh⟩ := hh
    replace hh := decs_cons hh; obtain ⟨m6, l0_5, e0_5, hh⟩ := hh
    replace hh := decs_cons hh; obtain ⟨m7, l0_6, e0_6, hh⟩ := hh
    replace hh := decs_cons hh; obtain ⟨m8, l0_7, e0_7, hh⟩ := hh
    replace hh := decs_cons hh; obtain ⟨m9, l0_8, e0_8, hh⟩ := hh
    replace hh := decs_cons hh; obtain ⟨m10, l0_9, e0_9, hh⟩ := hh
    replace hh := decs_cons hh; obtain ⟨m11, l0_10, e0_10, hh⟩ := hh
    replace hh := decs_cons hh; obtain ⟨m12, l0_11, e0_11, hh⟩ := hh
    replace hh := decs_cons hh; obtain ⟨m13, l0_12, e0_12, hh⟩ := hh
    replace hh := decs_cons hh; obtain ⟨m14, l0_13, e0_13, hh⟩ := hh
    replace hh := decs_cons hh; obtain ⟨m15, l0_14, e0_14, hh⟩ := hh
    replace hh := decs_cons hh; obtain ⟨m16, l0_15, e0_15, hh⟩ := hh
    replace hh := decs_cons hh; obtain ⟨m17, l0_16, e0_16, hh⟩ := hh
    replace hh := decs_cons hh; obtain ⟨m18, l0_17, e0_17, hh⟩ := hh
    replace hh := decs_cons hh; obtain ⟨m19, l0_18, e0_18, hh⟩ := hh
    replace hh := decs_cons hh; obtain ⟨m20, l0_19, e0_19, hh⟩ := hh
    replace hh := decs_cons hh; obtain ⟨m21, l0_20, e0_20, hh⟩ := hh
    replace hh := decs_cons hh; obtain ⟨m22, l0_21, e0_21, hh⟩ := hh
    replace hh := decs_nil hh; obtain ⟨rfl, hh⟩ := hh
    subst e0_21
    subst e0_20
    subst e0_19
    subst e0_18
    subst e0_17
    subst e0_16
    subst e0_15
    subst e0_14
    subst e0_13
    subst e0_12
    subst e0_11
    subst e0_10
    subst e0_9
    subst e0_8
    subst e0_7
    subst e0_6
    subst e0_5
    subst e0_4
    subst e0_3
    subst e0_2
    subst e0_1
    have ec0 := toArray_eq e0_0
    subst ec0
    unfold F_ref8_Encode at hh
    exact calls_den (fn1_right ok18 E_ref0_EqMsg.right (fn1_right ok28 E_ref8_Seal.right (fn1_right ok36 E_ref8_Only.right (fn1_right ok37 E_ref8_May.right (fn1_right ok38 E_ref8_Body.right noFns_right))))) plan10 _ w K Tryz.func10 (by kernel_rfl) (by kernel_rfl) (Eq.mp (F_ref8_Encode.eq F_ref0_EqMsg F_ref8_Seal F_ref8_Only F_ref8_May F_ref8_Body m1 m2 m3 m4 m5 m6 m7 m8 m9 m10 m11 m12 m13 m14 m15 m16 m17 m18 m19 m20 m21 m22 w.heap K) hh)
theorem ok10 : okFn Tryz.prog 10 = true := by kernel_rfl
end Go.Proofs.YthiginhigfieiaaGreatDoor.V
