/- The program's check sum and the document's: both are the plain one. -/
import Derived.Test.YtompmkmbppcadaaMCrc2
import Derived.Test.YtompmkmbppcadaaGcodeSum
import Derived.Test.YtompmkmbppcadaaGref1Sum
namespace Go.Proofs.Ytompmkmbppcadaa.V
open Go Go.RowKit
set_option linter.unusedVariables false
set_option linter.unusedSimpArgs false
def w32c (x : W32) : List Value := [.int .u32 (x.toNat : Int)]
theorem w32c_len (x : W32) : (w32c x).length = 1 := rfl
theorem w32c_one (x : W32) : (w32c x).all oneV = true := rfl
theorem ofInt32 (x : W32) : BitVec.ofInt IntKind.u32.bits (x.toNat : Int) = x := by
  show BitVec.ofInt 32 (x.toNat : Int) = x
  apply BitVec.eq_of_toNat_eq
  have := x.isLt
  simp
theorem wrap32n {x : Int} (h1 : 0 ≤ x) (h2 : x < 4294967296) : IntKind.u32.wrap x = x := wrapu32 h1 h2
theorem wrap32 (x : W32) : IntKind.u32.wrap (x.toNat : Int) = x.toNat := by
  have := x.isLt
  exact wrapu32 (by omega) (by omega)
theorem xor32 (a b : W32) : IntKind.u32.wrap (BitVec.ofInt IntKind.u32.bits (a.toNat : Int) ^^^ BitVec.ofInt IntKind.u32.bits (b.toNat : Int)).toNat = ((a ^^^ b).toNat : Int) := by
  rw [ofInt32, ofInt32]; exact wrap32 (a ^^^ b)
theorem and32 (a b : W32) : IntKind.u32.wrap (BitVec.ofInt IntKind.u32.bits (a.toNat : Int) &&& BitVec.ofInt IntKind.u32.bits (b.toNat : Int)).toNat = ((a &&& b).toNat : Int) := by
  rw [ofInt32, ofInt32]; exact wrap32 (a &&& b)
theorem and32_1 (a : W32) : IntKind.u32.wrap (BitVec.ofInt IntKind.u32.bits (a.toNat : Int) &&& BitVec.ofInt IntKind.u32.bits 1).toNat = ((a &&& 1#32).toNat : Int) := and32 a 1#32
theorem and32_15 (a : W32) : IntKind.u32.wrap (BitVec.ofInt IntKind.u32.bits (a.toNat : Int) &&& BitVec.ofInt IntKind.u32.bits 15).toNat = ((a &&& 15#32).toNat : Int) := and32 a 15#32
theorem and32_poly (a : W32) : IntKind.u32.wrap (BitVec.ofInt IntKind.u32.bits (a.toNat : Int) &&& BitVec.ofInt IntKind.u32.bits 3988292384).toNat = ((a &&& poly).toNat : Int) := and32 a poly
theorem xor32_ref (a : W32) : IntKind.u32.wrap (BitVec.ofInt IntKind.u32.bits (a.toNat : Int) ^^^ BitVec.ofInt IntKind.u32.bits 79764919).toNat = ((a ^^^ 0x04c11db7#32).toNat : Int) := xor32 a 0x04c11db7#32
theorem not32 (a : W32) : IntKind.u32.wrap (BitVec.ofInt IntKind.u32.bits (if IntKind.u32.signed then -1 else IntKind.u32.max) ^^^ BitVec.ofInt IntKind.u32.bits (a.toNat : Int)).toNat = ((~~~ a).toNat : Int) := by
  have h : (if IntKind.u32.signed = true then -1 else IntKind.u32.max) = (((~~~ 0#32 : W32)).toNat : Int) := by decide
  have hx : (~~~ 0#32 : W32) ^^^ a = ~~~ a := by
    apply BitVec.eq_of_getLsbD_eq
    intro i hi
    rw [BitVec.getLsbD_xor, BitVec.getLsbD_not, BitVec.getLsbD_zero, BitVec.getLsbD_not]
    simp only [hi, decide_true, Bool.not_false, Bool.and_self, Bool.true_and]
    cases a.getLsbD i <;> rfl
  rw [h, xor32, hx]
theorem shr32 (a : W32) (k : Nat) (hk : k ≤ 32) : (a.toNat : Int).fdiv (2 ^ min (k : Int).toNat IntKind.u32.bits) = ((a >>> k).toNat : Int) := by
  have h : min (k : Int).toNat IntKind.u32.bits = k := by
    show min (k : Int).toNat 32 = k
    omega
  rw [h, BitVec.toNat_ushiftRight, Nat.shiftRight_eq_div_pow, Int.fdiv_eq_ediv_of_nonneg _ (Int.pow_nonneg (by omega))]
  simp
theorem shr32_1 (a : W32) : (a.toNat : Int).fdiv (2 ^ min (1 : Int).toNat IntKind.u32.bits) = ((a >>> 1).toNat : Int) := shr32 a 1 (by decide)
theorem shr32_4 (a : W32) : (a.toNat : Int).fdiv (2 ^ min (4 : Int).toNat IntKind.u32.bits) = ((a >>> 4).toNat : Int) := shr32 a 4 (by decide)
theorem neg32 (a : W32) : IntKind.u32.wrap (0 - (a.toNat : Int)) = ((0#32 - a).toNat : Int) := by
  have := a.isLt
  rw [BitVec.toNat_sub]
  unfold IntKind.wrap
  simp [IntKind.bits, IntKind.signed]
  omega
theorem crcT_machine (y : W32) : IntKind.u32.wrap (BitVec.ofInt IntKind.u32.bits ((y.toNat : Int).fdiv (2 ^ min (1 : Int).toNat IntKind.u32.bits)) ^^^ BitVec.ofInt IntKind.u32.bits (IntKind.u32.wrap (BitVec.ofInt IntKind.u32.bits (IntKind.u32.wrap (0 - (IntKind.u32.wrap (BitVec.ofInt IntKind.u32.bits (y.toNat : Int) &&& BitVec.ofInt IntKind.u32.bits 1).toNat))) &&& BitVec.ofInt IntKind.u32.bits 3988292384).toNat)).toNat = ((crcT y).toNat : Int) := by
  rw [shr32_1, and32_1, neg32, and32_poly, xor32]
  congr 2
  unfold crcT
  congr 1
  have h1 : y &&& 1#32 = if y.getLsbD 0 then 1#32 else 0#32 := by
    apply BitVec.eq_of_getLsbD_eq
    intro i hi
    rw [BitVec.getLsbD_and, BitVec.getLsbD_one]
    by_cases h0 : i = 0
    · subst h0; cases y.getLsbD 0 <;> simp
    · cases y.getLsbD 0 <;> simp [h0]
  rw [h1]
  cases y.getLsbD 0 with
  | false => simp
  | true => decide
theorem u8to32 (c : UInt8) : IntKind.u32.wrap (c.toNat : Int) = ((BitVec.ofNat 32 c.toNat).toNat : Int) := by
  have := c.toNat_lt
  rw [wrapu32 (by omega) (by omega), BitVec.toNat_ofNat]
  omega
theorem i32_ofNat {x : Int} (h0 : 0 ≤ x) (h1 : x < 16) : IntKind.u32.wrap x = ((BitVec.ofNat 32 x.toNat).toNat : Int) := by
  rw [wrapu32 h0 (by omega), BitVec.toNat_ofNat]
  omega
section
variable {h : Heap}
theorem F_code_Sum.is {s : Sl} {l : List UInt8} {Q : Int → Heap → Prop} (V : Bytes h s l) (hl : l.length < 4611686018427387904) (k : ∀ h', KeptH h h' → Q ((crc l).toNat : Int) h') : F_code_Sum s h Q := by
  rw [F_code_Sum.eq_1, F_code_Sum_of.eq_1]
  refine Sat.al (Sat.nil h) fun b h1 O => ?_
  refine jn0 (fun h' => ∃ ts : List W32, ts.length = 16 ∧ (∀ (k : Nat), k < 16 → ts[k]? = some (iter 4 (BitVec.ofNat 32 k))) ∧ Sat h h' [own b (ts.flatMap w32c)]) ?_ ?_
  · clear O
    rintro h1 ⟨ts, ht, htk, O⟩
    refine jn1 (fun (n : Int) h' => n = ((crcFrom (~~~ 0#32) l).toNat : Int) ∧ Sat h h' [own b (ts.flatMap w32c)]) ?_ ?_
    · rintro n h2 ⟨rfl, O⟩
      rw [not32]
      exact k _ O.kept
    · intro j hj
      rw [F_code_Sum.l3.eq_1]
      refine wl2 (k := .int .u32) (l := .int .i64) (fun (m : Nat) (n x : Int) (h' : Heap) => x + m = l.length ∧ 0 ≤ x ∧ h' = h1 ∧ n = ((crcFrom (~~~ 0#32) (l.take x.toNat)).toNat : Int)) ?_ (m := l.length) ⟨by omega, by omega, rfl, rfl⟩
      rintro m (n : Int) (x : Int) h1 next hn ⟨hx, hx0, rfl, rfl⟩
      rw [V.len]
      refine brr_p (fun hlt => ?_) (fun hlt => ?_)
      · refine Bytes.at (V.kept O.kept) hx0 hlt fun c hc => ?_
        have hc' : l.take (x.toNat + 1) = l.take x.toNat ++ [c] := by
          rw [List.take_add_one, hc]; rfl
        rw [u8to32, xor32, and32_15]
        generalize hz : crcFrom (~~~ 0#32) (l.take x.toNat) ^^^ BitVec.ofNat 32 c.toNat = z
        have h15 : ∀ y : W32, (y &&& 15#32).toNat < 16 := fun y => by
          rw [BitVec.toNat_and]
          exact Nat.lt_of_le_of_lt Nat.and_le_right (by decide)
        have hof : ∀ y : W32, BitVec.ofNat 32 (y &&& 15#32).toNat = y &&& 15#32 := fun y => by simp
        refine ⟨by decide, ?_⟩
        refine O.getA (k := .int .u32) 0 w32c_len rfl ht.symm (by omega) (x := iter 4 (z &&& 15#32)) (by have := htk _ (h15 z); rw [hof] at this; exact this) (fun x => (x.toNat : Int)) (fun _ => rfl) ?_
        rw [shr32_4, xor32, nib, and32_15]
        refine ⟨by decide, ?_⟩
        refine O.getA (k := .int .u32) 0 w32c_len rfl ht.symm (by omega) (x := iter 4 (iter 4 z &&& 15#32)) (by have := htk _ (h15 (iter 4 z)); rw [hof] at this; exact this) (fun x => (x.toNat : Int)) (fun _ => rfl) ?_
        rw [shr32_4, xor32, nib, wrap64 (by omega) (by omega)]
        refine hn (m - 1) _ _ _ (by omega) ⟨by omega, by omega, rfl, ?_⟩
        rw [show (x + 1).toNat = x.toNat + 1 by omega, hc']
        unfold crcFrom
        rw [List.foldl_append]
        show _ = ((crcByte (crcFrom (~~~ 0#32) (l.take x.toNat)) c).toNat : Int)
        unfold crcByte
        rw [hz, iter_add 4 4]
      · refine hj _ _ ⟨?_, O⟩
        rw [List.take_of_length_le (by omega)]
  · intro j hj
    rw [F_code_Sum.l2.eq_1]
    refine wl1 (k := .int .i64) (fun (m : Nat) (x : Int) (h' : Heap) => x + m = 16 ∧ 0 ≤ x ∧ ∃ ts : List W32, ts.length = 16 ∧ (∀ (k : Nat), (k : Int) < x → ts[k]? = some (iter 4 (BitVec.ofNat 32 k))) ∧ Sat h h' [own b (ts.flatMap w32c)]) ?_ (m := 16) ⟨by omega, by omega, List.replicate 16 0#32, by simp, by intro k hk; omega, O⟩
    clear O
    rintro m (x : Int) h1 next hn ⟨hx, hx0, ts, ht, htk, O⟩
    refine brr_p (fun hlt => ?_) (fun hlt => ?_)
    · refine jn0 (fun h' => ∃ ts : List W32, ts.length = 16 ∧ (∀ (k : Nat), (k : Int) < x + 1 → ts[k]? = some (iter 4 (BitVec.ofNat 32 k))) ∧ Sat h h' [own b (ts.flatMap w32c)]) ?_ ?_
      · rintro h2 ⟨ts, h3⟩
        rw [wrap64 (by omega) (by omega)]
        exact hn (m - 1) _ _ (by omega) ⟨by omega, by omega, ts, h3⟩
      · intro j2 hj2
        refine jn1 (fun (n : Int) h' => h' = h1 ∧ n = ((iter 4 (BitVec.ofNat 32 x.toNat)).toNat : Int)) ?_ ?_
        · rintro n h1 ⟨rfl, rfl⟩
          refine O.putA w32c_len w32c_one ht.symm hx0 (by omega) (iter 4 (BitVec.ofNat 32 x.toNat)) rfl fun h2 O => ?_
          refine hj2 _ ⟨_, by simp [ht], fun k hk => ?_, O⟩
          rw [List.getElem?_set]
          by_cases e : x.toNat = k
          · subst e
            rw [if_pos rfl, if_pos (by omega)]
          · rw [if_neg e]
            exact htk k (by omega)
        · intro j3 hj3
          rw [F_code_Sum.l1.eq_1, i32_ofNat hx0 hlt]
          refine wl2 (k := .int .u32) (l := .int .i64) (fun (m : Nat) (n y : Int) (h' : Heap) => y + m = 4 ∧ 0 ≤ y ∧ h' = h1 ∧ n = ((iter y.toNat (BitVec.ofNat 32 x.toNat)).toNat : Int)) ?_ (m := 4) ⟨by omega, by omega, rfl, rfl⟩
          rintro m (n : Int) (y : Int) h1 next2 hn2 ⟨hy, hy0, rfl, rfl⟩
          refine brr_p (fun hlt => ?_) (fun hlt => ?_)
          · refine ⟨by decide, ?_⟩
            rw [crcT_machine, wrap64 (by omega) (by omega)]
            refine hn2 (m - 1) _ _ _ (by omega) ⟨by omega, by omega, rfl, ?_⟩
            rw [show (y + 1).toNat = y.toNat + 1 by omega, iter_succ']
          · have : y = 4 := by omega
            subst this
            exact hj3 _ _ ⟨rfl, rfl⟩
    · refine hj _ ⟨ts, ht, fun k hk => htk k (by omega), O⟩
theorem F_ref1_power.is {n : Int} {Q : Int → Heap → Prop} (h0 : 0 ≤ n) (h1 : n < 32) (k : Q ((2 ^ n.toNat : Nat) : Int) h) : F_ref1_power n h Q := by
  rw [F_ref1_power.eq_1, F_ref1_power_of.eq_1]
  refine jn1 (fun (x : Int) h' => h' = h ∧ x = ((2 ^ n.toNat : Nat) : Int)) ?_ ?_
  · rintro x h ⟨rfl, rfl⟩
    exact k
  · intro j hj
    rw [F_ref1_power.l1.eq_1]
    refine wl2 (k := .int .u32) (l := .int .i64) (fun (m : Nat) (x i : Int) (h' : Heap) => i + m = n ∧ 0 ≤ i ∧ h' = h ∧ x = ((2 ^ i.toNat : Nat) : Int)) ?_ (m := n.toNat) ⟨by omega, by omega, rfl, rfl⟩
    rintro m (x : Int) (i : Int) h next hn ⟨hi, hi0, rfl, rfl⟩
    refine brr_p (fun hlt => ?_) (fun hlt => ?_)
    · have hp : 2 ^ (i.toNat + 1) ≤ 2 ^ 31 := Nat.pow_le_pow_right (by decide) (by omega)
      rw [Nat.pow_succ] at hp
      rw [wrapu32 (by omega) (by omega), wrap64 (by omega) (by omega)]
      refine hn (m - 1) _ _ _ (by omega) ⟨by omega, by omega, rfl, ?_⟩
      rw [show (i + 1).toNat = i.toNat + 1 by omega, Nat.pow_succ]
      simp
    · have : i = n := by omega
      subst this
      exact hj _ _ ⟨rfl, rfl⟩
theorem mirr_machine1 (n : W32) : IntKind.u32.wrap ((n.toNat : Int).tdiv 2) = ((n >>> 1).toNat : Int) := by
  have := n.isLt
  rw [Int.tdiv_eq_ediv_of_nonneg (by omega), wrapu32 (by omega) (by omega), BitVec.toNat_ushiftRight, Nat.shiftRight_eq_div_pow]
  simp
theorem dbl32 (m : W32) (b : Bool) : IntKind.u32.wrap ((IntKind.u32.wrap ((m.toNat : Int) * 2)) + (if b then 1 else 0)) = (((m <<< 1) ^^^ bitAt b 1#32).toNat : Int) := by
  have hm := m.isLt
  have h1 : IntKind.u32.wrap ((m.toNat : Int) * 2) = ((m <<< 1).toNat : Int) := by
    rw [BitVec.toNat_shiftLeft, Nat.shiftLeft_eq]
    unfold IntKind.wrap
    simp [IntKind.bits, IntKind.signed]
  rw [h1]
  have he : (m <<< 1).toNat % 2 = 0 := by
    rw [BitVec.toNat_shiftLeft, Nat.shiftLeft_eq]; omega
  have hlt := (m <<< 1).isLt
  cases b with
  | false => rw [if_neg (by decide), Int.add_zero, wrap32 (m <<< 1)]; simp [bitAt]
  | true =>
    rw [if_pos rfl, wrapu32 (by omega) (by omega)]
    simp only [bitAt, if_true, BitVec.toNat_xor]
    have : (m <<< 1).toNat ^^^ (1#32).toNat = (m <<< 1).toNat + 1 := by
      show (m <<< 1).toNat ^^^ 1 = _
      generalize (m <<< 1).toNat = n at *
      apply Nat.eq_of_testBit_eq
      intro i
      rw [Nat.testBit_xor]
      cases i with
      | zero => rw [Nat.testBit_zero, Nat.testBit_zero, Nat.testBit_zero, he, show (n + 1) % 2 = 1 by omega]; rfl
      | succ i => rw [Nat.testBit_succ, Nat.testBit_succ, Nat.testBit_succ, show (n + 1) / 2 = n / 2 by omega]; simp
    rw [this]
    simp
theorem mod2_bit (n : W32) : ((n.toNat : Int).tmod 2) = (if n.getLsbD 0 then 1 else 0) := by
  rw [Int.tmod_eq_emod_of_nonneg (by omega)]
  have h : n.getLsbD 0 = decide (n.toNat % 2 = 1) := by
    rw [← BitVec.testBit_toNat, Nat.testBit_zero]
  rw [h]
  by_cases e : n.toNat % 2 = 1
  · rw [if_pos (by simpa using e)]; omega
  · rw [if_neg (by simpa using e)]; omega
theorem and1_bitAt (n : W32) : n &&& 1#32 = bitAt (n.getLsbD 0) 1#32 := by
  apply BitVec.eq_of_getLsbD_eq
  intro i hi
  rw [BitVec.getLsbD_and, BitVec.getLsbD_one]
  by_cases h0 : i = 0
  · subst h0; cases n.getLsbD 0 <;> simp [bitAt]
  · cases n.getLsbD 0 <;> simp [bitAt, h0]
theorem F_ref1_mirrored.is {n : W32} {Q : Int → Heap → Prop} (k : Q ((mirr 32 n 0#32).toNat : Int) h) : F_ref1_mirrored (n.toNat : Int) h Q := by
  rw [F_ref1_mirrored.eq_1, F_ref1_mirrored_of.eq_1]
  refine jn1 (fun (x : Int) h' => h' = h ∧ x = ((mirr 32 n 0#32).toNat : Int)) ?_ ?_
  · rintro x h ⟨rfl, rfl⟩
    exact k
  · intro j hj
    rw [F_ref1_mirrored.l1.eq_1]
    refine wl3 (k := .int .u32) (l := .int .u32) (l3 := .int .i64) (fun (m : Nat) (x y i : Int) (h' : Heap) => i + m = 32 ∧ 0 ≤ i ∧ h' = h ∧ ∃ a c : W32, x = (a.toNat : Int) ∧ y = (c.toNat : Int) ∧ mirr m a c = mirr 32 n 0#32) ?_ (m := 32) ⟨by omega, by omega, rfl, n, 0#32, rfl, rfl, rfl⟩
    rintro m (x : Int) (y : Int) (i : Int) h next hn ⟨hi, hi0, rfl, a, c, rfl, rfl, he⟩
    refine brr_p (fun hlt => ?_) (fun hlt => ?_)
    · refine ⟨by decide, by decide, ?_⟩
      rw [mirr_machine1, mod2_bit, dbl32, wrap64 (by omega) (by omega)]
      obtain ⟨m, rfl⟩ : ∃ k, m = k + 1 := ⟨m - 1, by omega⟩
      refine hn m _ _ _ _ (by omega) ⟨by omega, by omega, rfl, _, _, rfl, rfl, ?_⟩
      rw [← he, mirr, and1_bitAt]
    · have : m = 0 := by omega
      subst this
      exact hj _ _ ⟨rfl, by rw [← he]; rfl⟩
/-- The bits in the order in which the document takes them: the first 32 turned over, 32 zeros behind. -/
def refBits (l : List UInt8) : List Bool := ((bitsOf l ++ List.replicate 32 false).take 32).map (!·) ++ (bitsOf l ++ List.replicate 32 false).drop 32
theorem bitsOf_len : ∀ (l : List UInt8), (bitsOf l).length = 8 * l.length
  | [] => rfl
  | c :: l => by
    unfold bitsOf
    rw [List.flatMap_cons, List.length_append, show (bits8 c).length = 8 by simp [bits8]]
    have := bitsOf_len l
    unfold bitsOf at this
    rw [this, List.length_cons]
    omega
theorem bitsOf_at : ∀ (l : List UInt8) (i k : Nat) (c : UInt8), l[i]? = some c → k < 8 → (bitsOf l)[8 * i + k]? = some (c.toNat.testBit k)
  | [], i, k, c, h, _ => by simp at h
  | d :: l, 0, k, c, h, hk => by
    simp at h; subst h
    unfold bitsOf
    rw [List.flatMap_cons, List.getElem?_append_left (by simp [bits8]; omega)]
    simp [bits8, hk]
  | d :: l, i + 1, k, c, h, hk => by
    unfold bitsOf
    rw [List.flatMap_cons, List.getElem?_append_right (by simp [bits8]; omega)]
    have := bitsOf_at l i k c (by simpa using h) hk
    unfold bitsOf at this
    rw [show 8 * (i + 1) + k - (bits8 d).length = 8 * i + k by simp [bits8]; omega]
    exact this
def refBit (l : List UInt8) (i k : Nat) : Bool := (match l[i]? with | some c => c.toNat.testBit k | none => false) ^^ decide (i < 4)
theorem refBits_at (l : List UInt8) (i k : Nat) (hi : i < l.length + 4) (hk : k < 8) : (refBits l)[8 * i + k]? = some (refBit l i k) := by
  have hz : (bitsOf l ++ List.replicate 32 false)[8 * i + k]? = some (match l[i]? with | some c => c.toNat.testBit k | none => false) := by
    by_cases h : i < l.length
    · have hc : l[i]? = some l[i] := List.getElem?_eq_getElem h
      rw [List.getElem?_append_left (by rw [bitsOf_len]; omega), hc, bitsOf_at l i k _ hc hk]
    · rw [List.getElem?_append_right (by rw [bitsOf_len]; omega), List.getElem?_eq_none (by omega : l.length ≤ i), bitsOf_len, List.getElem?_replicate, if_pos (by omega)]
  have hlen : ((bitsOf l ++ List.replicate 32 false).take 32).length = 32 := by simp
  unfold refBits refBit
  by_cases h4 : i < 4
  · rw [List.getElem?_append_left (by simp; omega), List.getElem?_map, List.getElem?_take, if_pos (by omega), hz]
    simp [h4]
  · rw [List.getElem?_append_right (by simp; omega), List.length_map, hlen, List.getElem?_drop, show 32 + (8 * i + k - 32) = 8 * i + k by omega, hz]
    simp [h4]
theorem refBits_len (l : List UInt8) : (refBits l).length = 8 * (l.length + 4) := by
  unfold refBits
  simp [bitsOf_len]
  omega
theorem ref_crc (l : List UInt8) : ~~~ (mirr 32 ((refBits l).foldl refStep 0#32) 0#32) = crc l := by
  rw [(Rev.zero.steps (refBits l)).mirr]
  unfold refBits crc
  rw [aug_turned (bitsOf l) ((bitsOf l ++ List.replicate 32 false).take 32) ((bitsOf l ++ List.replicate 32 false).drop 32) (List.take_append_drop _ _).symm (by simp), non_bits]
theorem take_snoc {α : Type} {l : List α} {j : Nat} {x : α} (h : l[j]? = some x) : l.take (j + 1) = l.take j ++ [x] := by
  rw [List.take_add_one, h]; rfl
theorem F_ref1_Sum.is {s : Sl} {l : List UInt8} {Q : Int → Heap → Prop} (V : Bytes h s l) (hl : l.length < 4611686018427387904) (kk : Q ((crc l).toNat : Int) h) : F_ref1_Sum s h Q := by
  rw [F_ref1_Sum.eq_1, F_ref1_Sum_of.eq_1]
  refine jn1 (fun (x : Int) h' => h' = h ∧ x = (((refBits l).foldl refStep 0#32).toNat : Int)) ?_ ?_
  · rintro x h ⟨rfl, rfl⟩
    refine F_ref1_mirrored.is ?_
    rw [not32, ref_crc]
    exact kk
  · intro j hj
    rw [F_ref1_Sum.l2.eq_1, V.len, wrap64 (by omega) (by omega)]
    refine wl2 (k := .int .u32) (l := .int .i64) (fun (m : Nat) (x i : Int) (h' : Heap) => i + m = l.length + 4 ∧ 0 ≤ i ∧ h' = h ∧ x = ((((refBits l).take (8 * i.toNat)).foldl refStep 0#32).toNat : Int)) ?_ (m := l.length + 4) ⟨by omega, by omega, rfl, rfl⟩
    rintro m (x : Int) (i : Int) h next hn ⟨hi, hi0, rfl, rfl⟩
    refine brr_p (fun hlt => ?_) (fun hlt => ?_)
    · refine jn1 (fun (x : Int) h' => h' = h ∧ x = ((((refBits l).take (8 * (i + 1).toNat)).foldl refStep 0#32).toNat : Int)) ?_ ?_
      · rintro x h ⟨rfl, rfl⟩
        rw [wrap64 (by omega) (by omega)]
        exact hn (m - 1) _ _ _ (by omega) ⟨by omega, by omega, rfl, rfl⟩
      · intro j2 hj2
        refine jn1 _ hj2 fun j3 hj3 => ?_
        rw [F_ref1_Sum.l1.eq_1, V.len]
        refine wl2 (k := .int .u32) (l := .int .i64) (fun (m : Nat) (x k : Int) (h' : Heap) => k + m = 8 ∧ 0 ≤ k ∧ h' = h ∧ x = ((((refBits l).take (8 * i.toNat + k.toNat)).foldl refStep 0#32).toNat : Int)) ?_ (m := 8) ⟨by omega, by omega, rfl, rfl⟩
        rintro m2 (x : Int) (k : Int) h next2 hn2 ⟨hk, hk0, rfl, rfl⟩
        refine brr_p (fun hlt8 => ?_) (fun hlt8 => ?_)
        · refine jn1 (fun (x : Int) h' => h' = h ∧ x = (if (match l[i.toNat]? with | some c => c.toNat.testBit k.toNat | none => false) then 1 else 0)) ?_ ?_
          · rintro x h ⟨rfl, rfl⟩
            refine jn1 (fun (x : Int) h' => h' = h ∧ x = (if refBit l i.toNat k.toNat then 1 else 0)) ?_ ?_
            · rintro x h ⟨rfl, rfl⟩
              refine ⟨by decide, ?_⟩
              have hb := refBits_at l i.toNat k.toNat (by omega) (by omega)
              have htk : (refBits l).take (8 * i.toNat + (k + 1).toNat) = (refBits l).take (8 * i.toNat + k.toNat) ++ [refBit l i.toNat k.toNat] := by
                rw [show 8 * i.toNat + (k + 1).toNat = 8 * i.toNat + k.toNat + 1 by omega]
                exact take_snoc hb
              generalize hr : ((refBits l).take (8 * i.toNat + k.toNat)).foldl refStep 0#32 = r at *
              have hnew : ((refBits l).take (8 * i.toNat + (k + 1).toNat)).foldl refStep 0#32 = refStep r (refBit l i.toNat k.toNat) := by
                rw [htk, List.foldl_append, hr]; rfl
              have htop : (IntKind.u32.wrap ((r.toNat : Int).tdiv 2147483648) == 1) = r.getLsbD 31 := by
                have hrl := r.isLt
                rw [Int.tdiv_eq_ediv_of_nonneg (by omega), wrapu32 (by omega) (by omega), ← BitVec.testBit_toNat, Nat.testBit_eq_decide_div_mod_eq]
                by_cases h : r.toNat / 2147483648 = 1
                · have h1 : ((r.toNat : Int) / 2147483648 == 1) = true := by simp; omega
                  rw [h1, show r.toNat / 2 ^ 31 % 2 = 1 by rw [show 2 ^ 31 = 2147483648 by decide, h]]
                  rfl
                · have h1 : ((r.toNat : Int) / 2147483648 == 1) = false := by simp; omega
                  rw [h1, show r.toNat / 2 ^ 31 % 2 = 0 by rw [show 2 ^ 31 = 2147483648 by decide]; omega]
                  rfl
              refine jn1 (fun (x : Int) h' => h' = h ∧ x = ((refStep r (refBit l i.toNat k.toNat)).toNat : Int)) ?_ ?_
              · rintro x h ⟨rfl, rfl⟩
                rw [wrap64 (by omega) (by omega)]
                exact hn2 (m2 - 1) _ _ _ (by omega) ⟨by omega, by omega, rfl, by rw [hnew]⟩
              · intro j4 hj4
                rw [htop, dbl32, xor32_ref]
                refine brr_of (fun ht => ?_) (fun ht => ?_)
                · refine hj4 _ _ ⟨rfl, ?_⟩
                  unfold refStep
                  rw [ht]; rfl
                · refine hj4 _ _ ⟨rfl, ?_⟩
                  unfold refStep
                  rw [ht]; simp
            · intro j4 hj4
              unfold refBit at hj4
              refine brr_p (fun h4 => ?_) (fun h4 => ?_)
              · refine hj4 _ _ ⟨rfl, ?_⟩
                rw [show decide (i.toNat < 4) = true by simp; omega]
                cases (match l[i.toNat]? with | some c => c.toNat.testBit k.toNat | none => false) <;> decide
              · refine hj4 _ _ ⟨rfl, ?_⟩
                rw [show decide (i.toNat < 4) = false by simp; omega]
                simp
          · intro j4 hj4
            refine brr_p (fun hil => ?_) (fun hil => ?_)
            · refine V.ix hi0 hil fun a cs c hc hlen hR hca => ?_
              subst hR
              refine ld_are hca (ldL_c (ldL_n ?_))
              refine F_ref1_power.is hk0 (by omega) ?_
              refine ⟨hca, ?_⟩
              have hp : 0 < 2 ^ k.toNat := Nat.pow_pos (by decide)
              refine ⟨by omega, by decide, ?_⟩
              refine hj4 _ _ ⟨rfl, ?_⟩
              have hcl := c.toNat_lt
              have hq : c.toNat / 2 ^ k.toNat ≤ c.toNat := Nat.div_le_self _ _
              have e1 : (c.toNat : Int) / ((2 ^ k.toNat : Nat) : Int) = ((c.toNat / 2 ^ k.toNat : Nat) : Int) := (Int.natCast_ediv _ _).symm
              rw [wrapu32 (x := (c.toNat : Int)) (by omega) (by omega), Int.tdiv_eq_ediv_of_nonneg (by omega), e1, hc]
              simp only [Nat.testBit_eq_decide_div_mod_eq]
              generalize c.toNat / 2 ^ k.toNat = q at *
              rw [wrapu32 (by omega) (by omega), Int.tmod_eq_emod_of_nonneg (by omega)]
              by_cases e : q % 2 = 1
              · rw [if_pos (by simpa using e)]; omega
              · rw [if_neg (by simpa using e)]; omega
            · refine hj4 _ _ ⟨rfl, ?_⟩
              rw [List.getElem?_eq_none (by omega)]
              rfl
        · have : k = 8 := by omega
          subst this
          refine hj3 _ _ ⟨rfl, ?_⟩
          rw [show 8 * i.toNat + (8 : Int).toNat = 8 * (i + 1).toNat by omega]
    · refine hj _ _ ⟨rfl, ?_⟩
      rw [List.take_of_length_le (by rw [refBits_len]; omega)]
end
end Go.Proofs.Ytompmkmbppcadaa.V
