/- Sums of mixtures by exclusive or: what CodeMixed plays. -/
import Derived.Test.YtompmkmbppcadaaMSum
import Derived.Test.YtompmkmbppcadaaMTexts
import Derived.Test.YtompmkmbppcadaaGlaw1CodeMixed
namespace Go.Proofs.Ytompmkmbppcadaa.V
open Go Go.RowKit
set_option linter.unusedVariables false
set_option linter.unusedSimpArgs false
theorem mkCells1 {z : Value} (hz : z.cells = #[z]) (k : Nat) : mkCells z k = List.replicate k z := by
  unfold mkCells
  rw [hz]
  apply List.ext_getElem
  · simp
  · intro i h1 h2
    simp [Nat.mod_one]
def mix3 : List UInt8 → List UInt8 → List UInt8 → List UInt8
  | a :: ps, b :: qs, c :: rs => (a ^^^ b ^^^ c) :: mix3 ps qs rs
  | _, _, _ => []
theorem mix3_len : ∀ (ps qs rs : List UInt8), ps.length = qs.length → ps.length = rs.length → (mix3 ps qs rs).length = ps.length
  | [], _, _, _, _ => by simp [mix3]
  | _ :: _, [], _, h, _ => by simp at h
  | _ :: _, _ :: _, [], _, h => by simp at h
  | a :: ps, b :: qs, c :: rs, h, k => by simp [mix3, mix3_len ps qs rs (by simpa using h) (by simpa using k)]
theorem mix3_at : ∀ (ps qs rs : List UInt8) (i : Nat) (a b c : UInt8), ps[i]? = some a → qs[i]? = some b → rs[i]? = some c → (mix3 ps qs rs)[i]? = some (a ^^^ b ^^^ c)
  | [], _, _, i, a, b, c, h, _, _ => by simp at h
  | _ :: _, [], _, i, a, b, c, _, h, _ => by simp at h
  | _ :: _, _ :: _, [], i, a, b, c, _, _, h => by simp at h
  | x :: ps, y :: qs, z :: rs, 0, a, b, c, h1, h2, h3 => by simp at h1 h2 h3; subst h1 h2 h3; rfl
  | x :: ps, y :: qs, z :: rs, i + 1, a, b, c, h1, h2, h3 => mix3_at ps qs rs i a b c (by simpa using h1) (by simpa using h2) (by simpa using h3)
theorem ofNat_u8_xor (a b : UInt8) : BitVec.ofNat 32 (a ^^^ b).toNat = BitVec.ofNat 32 a.toNat ^^^ BitVec.ofNat 32 b.toNat := by
  rw [UInt8.toNat_xor]
  apply BitVec.eq_of_getLsbD_eq
  intro i hi
  rw [BitVec.getLsbD_xor, BitVec.getLsbD_ofNat, BitVec.getLsbD_ofNat, BitVec.getLsbD_ofNat, Nat.testBit_xor]
  simp [hi]
theorem crcByte_xor (x y : W32) (a b : UInt8) : crcByte (x ^^^ y) (a ^^^ b) = crcByte x a ^^^ crcByte y b := by
  unfold crcByte
  rw [ofNat_u8_xor, ← iter_xor]
  congr 1
  ac_rfl
theorem crcFrom_mix : ∀ (ps qs rs : List UInt8) (x y z : W32), ps.length = qs.length → ps.length = rs.length → crcFrom (x ^^^ y ^^^ z) (mix3 ps qs rs) = crcFrom x ps ^^^ crcFrom y qs ^^^ crcFrom z rs
  | [], qs, rs, x, y, z, h, k => by
    have h1 : qs = [] := List.length_eq_zero_iff.1 h.symm
    have h2 : rs = [] := List.length_eq_zero_iff.1 k.symm
    subst h1 h2; rfl
  | _ :: _, [], _, _, _, _, h, _ => by simp at h
  | _ :: _, _ :: _, [], _, _, _, _, h => by simp at h
  | a :: ps, b :: qs, c :: rs, x, y, z, h, k => by
    show crcFrom (crcByte (x ^^^ y ^^^ z) (a ^^^ b ^^^ c)) (mix3 ps qs rs) = crcFrom (crcByte x a) ps ^^^ crcFrom (crcByte y b) qs ^^^ crcFrom (crcByte z c) rs
    rw [crcByte_xor, crcByte_xor]
    exact crcFrom_mix ps qs rs _ _ _ (by simpa using h) (by simpa using k)
theorem crc_mix (ps qs rs : List UInt8) (h : ps.length = qs.length) (k : ps.length = rs.length) : crc (mix3 ps qs rs) = crc ps ^^^ crc qs ^^^ crc rs := by
  unfold crc
  have e : (~~~ 0#32 : W32) = ~~~ 0#32 ^^^ ~~~ 0#32 ^^^ ~~~ 0#32 := by decide
  conv => lhs; rw [e]
  rw [crcFrom_mix ps qs rs _ _ _ h k]
  generalize crcFrom (~~~ 0#32) ps = a
  generalize crcFrom (~~~ 0#32) qs = b
  generalize crcFrom (~~~ 0#32) rs = c
  apply BitVec.eq_of_getLsbD_eq
  intro i hi
  simp only [BitVec.getLsbD_not, BitVec.getLsbD_xor, hi, decide_true, Bool.true_and]
  cases a.getLsbD i <;> cases b.getLsbD i <;> cases c.getLsbD i <;> rfl
theorem xor8 (a b : UInt8) : IntKind.u8.wrap (BitVec.ofInt IntKind.u8.bits (a.toNat : Int) ^^^ BitVec.ofInt IntKind.u8.bits (b.toNat : Int)).toNat = ((a ^^^ b).toNat : Int) := by
  have h : ∀ x : UInt8, BitVec.ofInt IntKind.u8.bits (x.toNat : Int) = x.toBitVec := by
    intro x
    show BitVec.ofInt 8 (x.toNat : Int) = x.toBitVec
    apply BitVec.eq_of_toNat_eq
    have := x.toNat_lt
    simp
  rw [h, h]
  have := (a ^^^ b).toNat_lt
  show IntKind.u8.wrap ((a ^^^ b).toNat : Int) = _
  exact wrapu8 (by omega) (by omega)
/-- The first so many of a text, read where they lie. -/
theorem Bytes.take {h : Heap} {s : Sl} {l : List UInt8} (V : Bytes h s l) (n : Nat) (hn : n ≤ l.length) : Bytes h ⟨s.ptr, n, s.cap⟩ (l.take n) := View.take V n _ hn
set_option maxRecDepth 10000 in
theorem codeMixed_main (H : Heap) (cs : List Value) (F : Fit H 140737488351232 tyTexts cs) : E_law1_CodeMixed [.agg cs.toArray] H (fun r h' => r = .bool true ∧ KeptH H h') := by
  obtain ⟨_, _, rfl, _, ⟨t1, rfl, t1S⟩, rfl⟩ := F
  simp only [List.cons_append, List.nil_append, List.append_nil]
  refine Eq.mpr (E_law1_CodeMixed.at F_law1_CodeMixed t1 H _) ?_
  obtain ⟨xs, Vx, hxl⟩ := t1S.texts
  rw [F_law1_CodeMixed.eq_1, F_law1_CodeMixed_of.eq_1]
  refine Sat.al (Sat.nil H) fun ba h1 O => ?_
  simp only [nn_some, pt_add, Nat.zero_add, Nat.add_zero, Nat.reduceAdd, Nat.reduceMul, Int.toNat_zero, Int.toNat_one, Nat.zero_mul, Nat.one_mul]
  refine O.al fun b h O => ?_
  refine O.frz fun h O => ?_
  have Vs : Bytes h ⟨some (pt b 0), 1, 1⟩ [97] := O.arr 0 (enc := u8) (xs := [97]) u8_len rfl
  refine F_code_Sum.is Vs (by decide) fun h k => ?_
  have O := (O.kept2 k).drop
  refine brr_ff (by decide +kernel) ?_
  refine jn0 (fun h' => KeptH H h') (fun h k => And.intro (by first | rfl | trivial) k) fun j hj => ?_
  rw [F_law1_CodeMixed.l2.eq_1]
  simp only [nn_some, pt_add, Nat.zero_add, Nat.add_zero, Nat.reduceAdd, Nat.reduceMul, Int.toNat_zero, Int.toNat_one, Nat.zero_mul, Nat.one_mul]
  refine wl1 (k := .int .i64) (fun (m : Nat) (i : Int) (h' : Heap) => 0 ≤ i ∧ (m = xs.length - i.toNat) ∧ i ≤ xs.length ∧ Sat H h' [own ba [.slice t1.ptr t1.len t1.cap]]) ?_ (m := xs.length) ⟨by omega, by omega, by omega, O⟩
  clear O Vs
  intro m (i : Int) h next hn ⟨hi0, him, hil, O⟩
  have ix : ∀ {h' : Heap} {i : Int} {K : Sl → Prop}, KeptH H h' → 0 ≤ i → i < xs.length → (∀ x, x ∈ xs → xs[i.toNat]? = some x → K x.1) → ixS 1 t1 i fun a => ld [.sl] a h' K := by
    intro h' i K k h0 h1 kk
    refine (Vx.kept k).ix h0 h1 fun a cs x hx hlen hR hc => ?_
    obtain ⟨rfl, _⟩ := hR
    exact ld_are hc (ldL_c (ldL_n (kk x (List.mem_of_getElem? hx) hx)))
  have inb : ∀ y, y ∈ xs → Bytes H y.1 y.2 ∧ y.2.length ≤ 140737488351232 ∧ y.1.len ≤ y.1.cap := by
    intro y hy
    obtain ⟨k, hk⟩ := List.mem_iff_getElem?.1 hy
    obtain ⟨_, _, _, _, hR, _⟩ := Vx.2 k y hk
    exact ⟨hR.2.1, hR.2.2.1, hR.2.2.2⟩
  refine O.ld 0 rfl (ldL_c (ldL_n ?_))
  rw [Vx.len, wrap64 (x := i + 2) (by omega) (by omega)]
  refine brr_p (fun hlt => ?_) (fun hlt => hj _ O.kept)
  refine jn0 (fun h' => Sat H h' [own ba [.slice t1.ptr t1.len t1.cap]]) ?_ ?_
  · clear O
    intro h O
    rw [wrap64 (by omega) (by omega)]
    exact hn (m - 1) _ _ (by omega) ⟨by omega, by omega, by omega, O⟩
  · intro j2 hj2
    rw [wrap64 (x := i + 1) (by omega) (by omega)]
    refine O.ld 0 rfl (ldL_c (ldL_n ?_))
    refine ix O.kept hi0 (by omega) fun x hxm _ => ?_
    refine O.ld 0 rfl (ldL_c (ldL_n ?_))
    refine ix O.kept (by omega) (by omega) fun y hym _ => ?_
    refine O.ld 0 rfl (ldL_c (ldL_n ?_))
    refine ix O.kept (by omega) hlt fun z hzm _ => ?_
    obtain ⟨Vx1, lx, cx⟩ := inb x hxm
    obtain ⟨Vy1, ly, cy⟩ := inb y hym
    obtain ⟨Vz1, lz, cz⟩ := inb z hzm
    have hxl := Vx1.len
    have hyl := Vy1.len
    have hzl := Vz1.len
    rw [hxl, hyl, hzl]
    refine jn1 (fun (n : Int) h' => h' = h ∧ 0 ≤ n ∧ n ≤ x.2.length ∧ n ≤ y.2.length) ?_ ?_
    · rintro (n : Int) h ⟨rfl, a0, a1, a2⟩
      refine jn1 (fun (n : Int) h' => h' = h ∧ 0 ≤ n ∧ n ≤ x.2.length ∧ n ≤ y.2.length ∧ n ≤ z.2.length) ?_ ?_
      · clear a2 a1 a0 n
        rintro (n : Int) h ⟨rfl, a0, a1, a2, a3⟩
        refine O.mk_buf a0 (by omega) (by omega) fun b h O => ?_
        have e0 : mkCells (Value.int .u8 0) (n.toNat * 1) = (List.replicate n.toNat (0 : UInt8)).flatMap u8 ++ [] := by
          have := mkCells1 (z := Value.int .u8 0) rfl (n.toNat * 1)
          rw [this, Nat.mul_one, List.append_nil]
          have : ∀ k : Nat, List.replicate k (Value.int .u8 0) = (List.replicate k (0 : UInt8)).flatMap u8 := by
            intro k
            induction k with
            | zero => rfl
            | succ k ih => rw [List.replicate_succ, List.replicate_succ, List.flatMap_cons, ih]; rfl
          exact this _
        rw [e0] at O
        have O := O.own_buf (k := 0) (sz := 1) (by simp)
        rw [List.length_replicate] at O
        have O := O.bufsI
        rw [Nat.add_zero] at O
        have hm3 := mix3_len (x.2.take n.toNat) (y.2.take n.toNat) (z.2.take n.toNat) (by rw [List.length_take, List.length_take]; omega) (by rw [List.length_take, List.length_take]; omega)
        rw [List.length_take, Nat.min_eq_left (by omega)] at hm3
        refine jn0 (fun h' => Sat H h' [buf 1 u8 ⟨some (pt b 0), n.toNat, n.toNat⟩ (mix3 (x.2.take n.toNat) (y.2.take n.toNat) (z.2.take n.toNat)), own ba [.slice t1.ptr t1.len t1.cap]]) ?_ ?_
        · clear O
          intro h O
          refine ⟨a0, by omega, a0, by omega, a0, by omega, ?_⟩
          refine F_code_Sum.is (O.view 0 u8_len (by simp) rfl).1 (by omega) fun h k => ?_
          have O := O.kept2 k
          refine F_code_Sum.is ((Bytes.take Vx1 n.toNat (by omega)).kept O.kept) (by rw [List.length_take]; omega) fun h k => ?_
          have O := O.kept2 k
          refine F_code_Sum.is ((Bytes.take Vy1 n.toNat (by omega)).kept O.kept) (by rw [List.length_take]; omega) fun h k => ?_
          have O := O.kept2 k
          refine F_code_Sum.is ((Bytes.take Vz1 n.toNat (by omega)).kept O.kept) (by rw [List.length_take]; omega) fun h k => ?_
          have O := O.kept2 k
          rw [xor32, xor32, crc_mix _ _ _ (by rw [List.length_take, List.length_take]; omega) (by rw [List.length_take, List.length_take]; omega)]
          refine brr_ff (by simp) ?_
          exact hj2 _ O.drop
        · intro j3 hj3
          rw [F_law1_CodeMixed.l1.eq_1]
          refine wl1 (k := .int .i64) (fun (m : Nat) (k : Int) (h' : Heap) => 0 ≤ k ∧ k + m = n ∧ ∃ ds : List UInt8, ds.length = n.toNat ∧ (∀ (j : Nat), (j : Int) < k → ds[j]? = (mix3 (x.2.take n.toNat) (y.2.take n.toNat) (z.2.take n.toNat))[j]?) ∧ Sat H h' [buf 1 u8 ⟨some (pt b 0), n.toNat, n.toNat⟩ ds, own ba [.slice t1.ptr t1.len t1.cap]]) ?_ (m := n.toNat) ⟨by omega, by omega, _, by simp, by intro j hjj; omega, O⟩
          clear O
          intro m2 (k : Int) h next2 hn2 ⟨hk0, hkm, ds, hds, hdj, O⟩
          refine brr_p (fun hkn => ?_) (fun hkn => ?_)
          · refine Bytes.at (Vx1.kept O.kept) hk0 (by omega) fun p hp => ?_
            refine Bytes.at (Vy1.kept O.kept) hk0 (by omega) fun q hq => ?_
            refine Bytes.at (Vz1.kept O.kept) hk0 (by omega) fun r hr => ?_
            rw [xor8, xor8]
            refine O.put1 u8_len u8_one hk0 (by omega) (p ^^^ q ^^^ r) rfl fun h O => ?_
            rw [wrap64 (by omega) (by omega)]
            refine hn2 (m2 - 1) _ _ (by omega) ⟨by omega, by omega, _, by simp [hds], fun j hjk => ?_, O⟩
            rw [List.getElem?_set]
            by_cases e : k.toNat = j
            · subst e
              rw [if_pos rfl, if_pos (by omega)]
              refine (mix3_at _ _ _ _ p q r ?_ ?_ ?_).symm
              · rw [List.getElem?_take, if_pos (by omega)]; exact hp
              · rw [List.getElem?_take, if_pos (by omega)]; exact hq
              · rw [List.getElem?_take, if_pos (by omega)]; exact hr
            · rw [if_neg e]
              exact hdj j (by omega)
          · refine hj3 _ ?_
            have : ds = mix3 (x.2.take n.toNat) (y.2.take n.toNat) (z.2.take n.toNat) := by
              apply List.ext_getElem?
              intro j
              by_cases hjn : j < n.toNat
              · exact hdj j (by omega)
              · rw [List.getElem?_eq_none (by omega), List.getElem?_eq_none (by omega)]
            rw [← this]
            exact O
      · intro j3 hj3
        refine brr_p (fun hz => ?_) (fun hz => ?_)
        · exact hj3 _ _ ⟨rfl, by omega, by omega, by omega, by omega⟩
        · exact hj3 _ _ ⟨rfl, by omega, by omega, by omega, by omega⟩
    · intro j3 hj3
      refine brr_p (fun hz => ?_) (fun hz => ?_)
      · exact hj3 _ _ ⟨rfl, by omega, by omega, by omega⟩
      · exact hj3 _ _ ⟨rfl, by omega, by omega, by omega⟩
end Go.Proofs.Ytompmkmbppcadaa.V
