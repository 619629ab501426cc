/- What the check sum tells apart, in plain terms. -/
import Derived.Test.YtompmkmbppcadaaMCrc
namespace Go.Proofs.Ytompmkmbppcadaa.V
open Go Go.RowKit
set_option linter.unusedVariables false
set_option linter.unusedSimpArgs false
/-! ### turned over: the register from the other end -/
def Rev (r m : W32) : Prop := ∀ i, i < 32 → r.getLsbD i = m.getLsbD (31 - i)
def refStep (r : W32) (b : Bool) : W32 := ((r <<< 1) ^^^ bitAt b 1#32) ^^^ (if r.getLsbD 31 then 0x04c11db7#32 else 0#32)
theorem Rev.xor {r m r' m' : W32} (h : Rev r m) (h' : Rev r' m') : Rev (r ^^^ r') (m ^^^ m') := by
  intro i hi
  rw [BitVec.getLsbD_xor, BitVec.getLsbD_xor, h i hi, h' i hi]
theorem Rev.shift {r m : W32} (h : Rev r m) : Rev (r <<< 1) (m >>> 1) := by
  intro i hi
  rw [BitVec.getLsbD_shiftLeft, BitVec.getLsbD_ushiftRight]
  by_cases h0 : i = 0
  · subst h0
    simp [BitVec.getLsbD_of_ge m 32 (by omega)]
  · rw [h (i - 1) (by omega)]
    simp [hi]
    rw [show 31 - (i - 1) = 1 + (31 - i) by omega]
    simp [h0]
theorem Rev.step {r m : W32} (h : Rev r m) (b : Bool) : Rev (refStep r b) (crcT m ^^^ bitAt b e31) := by
  unfold refStep crcT
  rw [BitVec.xor_assoc, BitVec.xor_assoc, BitVec.xor_comm (bitAt b 1#32)]
  refine h.shift.xor (Rev.xor ?_ ?_)
  · have := h 31 (by decide)
    rw [this]
    cases m.getLsbD (31 - 31) with
    | false => intro i hi; simp
    | true =>
      have : ∀ i : Fin 32, (0x04c11db7#32).getLsbD i = poly.getLsbD (31 - i) := by decide +kernel
      intro i hi
      exact this ⟨i, hi⟩
  · cases b with
    | false => intro i hi; simp [bitAt]
    | true =>
      have : ∀ i : Fin 32, (1#32).getLsbD i = e31.getLsbD (31 - i) := by decide +kernel
      intro i hi
      exact this ⟨i, hi⟩
theorem Rev.steps : ∀ (l : List Bool) {r m : W32}, Rev r m → Rev (l.foldl refStep r) (aug m l)
  | [], _, _, h => h
  | b :: l, _, _, h => Rev.steps l (h.step b)
theorem Rev.zero : Rev 0#32 0#32 := by intro i hi; simp
def mirr : Nat → W32 → W32 → W32
  | 0, _, m => m
  | k + 1, n, m => mirr k (n >>> 1) ((m <<< 1) ^^^ (n &&& 1#32))
theorem mirr_bits : ∀ (k : Nat) (n m : W32), k ≤ 32 → (∀ i, 32 - k ≤ i → m.getLsbD i = false) → ∀ i, i < 32 → (mirr k n m).getLsbD i = if i < k then n.getLsbD (k - 1 - i) else m.getLsbD (i - k)
  | 0, n, m, _, _, i, _ => by simp [mirr]
  | k + 1, n, m, hk, hm, i, hi => by
    rw [mirr, mirr_bits k (n >>> 1) ((m <<< 1) ^^^ (n &&& 1#32)) (by omega) ?_ i hi]
    · by_cases h : i < k
      · rw [if_pos h, if_pos (by omega), BitVec.getLsbD_ushiftRight]
        congr 1; omega
      · rw [if_neg h]
        by_cases h2 : i = k
        · subst h2
          rw [if_pos (by omega)]
          simp
        · rw [if_neg (by omega), BitVec.getLsbD_xor, BitVec.getLsbD_shiftLeft, BitVec.getLsbD_and]
          have : (1#32).getLsbD (i - k) = false := by
            rw [BitVec.getLsbD_one]
            simp; omega
          rw [this]
          simp
          rw [show i - k - 1 = i - (k + 1) by omega]
          have q1 : ¬ (i - k = 0) := by omega
          have q2 : i - k < 32 := by omega
          simp [q1, q2]
    · intro j hj
      rw [BitVec.getLsbD_xor, BitVec.getLsbD_shiftLeft, BitVec.getLsbD_and]
      have h1 : (1#32).getLsbD j = false ∨ k = 32 := by
        by_cases hk2 : k = 32
        · exact .inr hk2
        · left; rw [BitVec.getLsbD_one]; simp; omega
      rcases h1 with h1 | h1
      · rw [h1]
        by_cases hj2 : j < 1
        · simp [hj2]
        · rw [hm (j - 1) (by omega)]; simp
      · omega
theorem Rev.mirr {r m : W32} (h : Rev r m) : V.mirr 32 r 0#32 = m := by
  apply BitVec.eq_of_getLsbD_eq
  intro i hi
  rw [mirr_bits 32 r 0#32 (by decide) (by intro i _; simp) i hi, if_pos hi, h (31 - i) (by omega)]
  congr 1; omega
/-! ### one step is one to one -/
theorem crcT_inj0 {x : W32} (h : crcT x = 0#32) : x = 0#32 := by
  unfold crcT at h
  have h31 := congrArg (fun y => BitVec.getLsbD y 31) h
  simp only [BitVec.getLsbD_xor, BitVec.getLsbD_ushiftRight, BitVec.getLsbD_of_ge x (1 + 31) (by omega)] at h31
  have hl : x.getLsbD 0 = false := by
    cases hx : x.getLsbD 0 with
    | false => rfl
    | true => rw [hx] at h31; exact absurd h31 (by decide)
  rw [hl] at h
  simp at h
  apply BitVec.eq_of_getLsbD_eq
  intro i hi
  by_cases h0 : i = 0
  · subst h0; rw [hl]; simp
  · have := congrArg (fun y => BitVec.getLsbD y (i - 1)) h
    simp only [BitVec.getLsbD_ushiftRight] at this
    rw [show 1 + (i - 1) = i by omega] at this
    simpa using this
theorem iter_inj0 : ∀ (n : Nat) {x : W32}, iter n x = 0#32 → x = 0#32
  | 0, _, h => h
  | n + 1, x, h => crcT_inj0 (iter_inj0 n h)
theorem xor_eq_zero {x y : W32} (h : x ^^^ y = 0#32) : x = y := by
  have := congrArg (· ^^^ y) h
  simpa [BitVec.xor_assoc] using this
theorem iter_inj {n : Nat} {x y : W32} (h : iter n x = iter n y) : x = y := by
  refine xor_eq_zero (iter_inj0 n ?_)
  rw [iter_xor, h, BitVec.xor_self]
/-! ### the order of one step -/
def crcS (x : W32) : W32 := (x <<< 1) ^^^ (if x.getLsbD 31 then 0xdb710641#32 else 0#32)
theorem crcS_xor (x y : W32) : crcS (x ^^^ y) = crcS x ^^^ crcS y := by
  unfold crcS
  rw [BitVec.shiftLeft_xor_distrib, BitVec.getLsbD_xor]
  have h : ∀ a b p : W32, a ^^^ b = a ^^^ (p ^^^ (b ^^^ p)) := by
    intro a b p
    apply BitVec.eq_of_getLsbD_eq
    intro i hi
    simp only [BitVec.getLsbD_xor]
    cases a.getLsbD i <;> cases b.getLsbD i <;> cases p.getLsbD i <;> rfl
  cases x.getLsbD 31 <;> cases y.getLsbD 31
  · simp
  · simp [BitVec.xor_assoc]
  · simp; ac_rfl
  · simp only [Bool.xor_self, Bool.false_eq_true, if_false, if_true, BitVec.xor_zero]
    rw [h (x <<< 1) (y <<< 1) 0xdb710641#32]
    ac_rfl
theorem shl_shr (x : W32) (h : x.getLsbD 31 = false) : (x <<< 1) >>> 1 = x := by
  apply BitVec.eq_of_getLsbD_eq
  intro i hi
  rw [BitVec.getLsbD_ushiftRight, BitVec.getLsbD_shiftLeft]
  by_cases h31 : i = 31
  · subst h31; rw [h]; simp
  · simp; omega
theorem crcT_S (x : W32) : crcT (crcS x) = x := by
  have hlow : ∀ y : W32, y.getLsbD 31 = false → crcT (y <<< 1) = y := fun y hy => by
    rw [crcT_even (by simp), shl_shr y hy]
  unfold crcS
  rw [crcT_xor]
  cases h : x.getLsbD 31 with
  | false => simp [crcT_zero, hlow x h]
  | true =>
    have hx : x = (x ^^^ e31) ^^^ e31 := by simp [BitVec.xor_assoc]
    have h2 : (x ^^^ e31).getLsbD 31 = false := by rw [BitVec.getLsbD_xor, h]; decide
    have h3 : x <<< 1 = (x ^^^ e31) <<< 1 := by
      conv => lhs; rw [hx]
      rw [BitVec.shiftLeft_xor_distrib, show e31 <<< 1 = 0#32 by decide, BitVec.xor_zero]
    rw [h3, hlow _ h2, if_pos rfl, show crcT 0xdb710641#32 = e31 by decide]
    exact hx.symm
theorem crcS_zero : crcS 0#32 = 0#32 := by decide
def iterS : Nat → W32 → W32
  | 0, x => x
  | n + 1, x => crcS (iterS n x)
theorem iterS_xor : ∀ (n : Nat) (x y : W32), iterS n (x ^^^ y) = iterS n x ^^^ iterS n y
  | 0, _, _ => rfl
  | n + 1, x, y => by simp only [iterS, iterS_xor n, crcS_xor]
theorem iterS_add : ∀ (n m : Nat) (x : W32), iterS (n + m) x = iterS n (iterS m x)
  | 0, m, x => by rw [Nat.zero_add]; rfl
  | n + 1, m, x => by rw [show n + 1 + m = (n + m) + 1 by omega, iterS, iterS_add n m, iterS]
theorem iter_iterS : ∀ (n : Nat) (x : W32), iter n (iterS n x) = x
  | 0, _ => rfl
  | n + 1, x => by rw [iter, iterS, crcT_S, iter_iterS n]
/-- A product: what the second's bits say of the first and its steps. -/
def mulK (a b : W32) : Nat → W32 → W32
  | 0, acc => acc
  | k + 1, acc => mulK a b k (crcS acc ^^^ bitAt (b.getLsbD k) a)
def mulW (a b : W32) : W32 := mulK a b 32 0#32
theorem mulK_S (a b : W32) : ∀ (k : Nat) (acc : W32), mulK (crcS a) b k (crcS acc) = crcS (mulK a b k acc)
  | 0, _ => rfl
  | k + 1, acc => by
    rw [mulK, mulK, ← mulK_S a b k, crcS_xor]
    cases b.getLsbD k <;> simp [bitAt, crcS_zero]
theorem mulW_S (a b : W32) : mulW (crcS a) b = crcS (mulW a b) := by
  unfold mulW
  rw [← mulK_S a b 32, crcS_zero]
theorem mulK_one (b : W32) : ∀ (k : Nat) (acc : W32), k ≤ 32 → acc = b >>> k → mulK e0 b k acc = b
  | 0, acc, _, h => by rw [h]; simp [mulK]
  | k + 1, acc, hk, h => by
    rw [mulK]
    refine mulK_one b k _ (by omega) ?_
    subst h
    have h31 : (b >>> (k + 1)).getLsbD 31 = false := by
      rw [BitVec.getLsbD_ushiftRight, BitVec.getLsbD_of_ge b (k + 1 + 31) (by omega)]
    unfold crcS
    rw [h31]
    apply BitVec.eq_of_getLsbD_eq
    intro i hi
    have hbit : (bitAt (b.getLsbD k) e0).getLsbD i = (decide (i = 0) && b.getLsbD k) := by
      cases b.getLsbD k with
      | false => simp [bitAt]
      | true => simp [bitAt]
    rw [BitVec.getLsbD_xor, hbit]
    simp only [Bool.false_eq_true, if_false, BitVec.xor_zero, BitVec.getLsbD_shiftLeft, BitVec.getLsbD_ushiftRight]
    by_cases h0 : i = 0
    · subst h0; simp
    · rw [show k + 1 + (i - 1) = k + i by omega]
      simp [h0, hi]
theorem mulW_one (b : W32) : mulW e0 b = b := mulK_one b 32 0#32 (Nat.le_refl _) (by
  apply BitVec.eq_of_getLsbD_eq
  intro i hi
  rw [BitVec.getLsbD_ushiftRight, BitVec.getLsbD_of_ge b (32 + i) (by omega)]
  simp)
theorem mulW_iter : ∀ (n : Nat) (b : W32), mulW (iterS n e0) b = iterS n b
  | 0, b => mulW_one b
  | n + 1, b => by rw [iterS, mulW_S, mulW_iter n]; rfl
def powW : Nat → Nat → W32
  | 0, _ => e0
  | f + 1, n => match n with
    | 0 => e0
    | n + 1 => let p := powW f ((n + 1) / 2); let q := mulW p p; if (n + 1) % 2 == 1 then crcS q else q
theorem powW_eq : ∀ (f n : Nat), n < 2 ^ f → powW f n = iterS n e0
  | 0, n, h => by simp at h; subst h; rfl
  | f + 1, 0, h => rfl
  | f + 1, n + 1, h => by
    have hlt : (n + 1) / 2 < 2 ^ f := by rw [Nat.pow_succ] at h; omega
    have hp := powW_eq f ((n + 1) / 2) hlt
    simp only [powW, hp, mulW_iter, ← iterS_add]
    by_cases h2 : (n + 1) % 2 = 1
    · rw [show ((n + 1) % 2 == 1) = true by simpa using h2, if_pos rfl]
      show iterS ((n + 1) / 2 + (n + 1) / 2 + 1) e0 = _
      congr 1; omega
    · rw [show ((n + 1) % 2 == 1) = false by simpa using h2, if_neg (by decide)]
      congr 1; omega
/-- So many steps bring the one back. -/
def Back (n : Nat) : Prop := iterS n e0 = e0
theorem Back.sub {a b : Nat} (ha : Back (a + b)) (hb : Back b) : Back a := by
  unfold Back at *
  rw [iterS_add, hb] at ha
  exact ha
theorem Back.mul {a : Nat} (ha : Back a) : ∀ k, Back (a * k)
  | 0 => rfl
  | k + 1 => by
    have := Back.mul ha k
    unfold Back at *
    rw [Nat.mul_succ, Nat.add_comm, iterS_add, this, ha]
theorem Back.mod {a b : Nat} (ha : Back a) (hb : Back b) : Back (a % b) := by
  have h := Nat.mod_add_div a b
  exact Back.sub (b := b * (a / b)) (by rw [h]; exact ha) (hb.mul _)
theorem Back.gcd {a b : Nat} (ha : Back a) (hb : Back b) : Back (Nat.gcd a b) := by
  induction a, b using Nat.gcd.induction with
  | H0 n => rw [Nat.gcd_zero_left]; exact hb
  | H1 m n hm ih =>
    rw [Nat.gcd_rec]
    exact ih (hb.mod ha) ha
theorem Back.dvd {a b : Nat} (ha : Back a) (h : a ∣ b) : Back b := by
  obtain ⟨k, rfl⟩ := h
  exact ha.mul k
theorem back_all : Back 4294967295 := by
  unfold Back
  rw [← powW_eq 32 4294967295 (by decide)]
  decide +kernel
theorem not_back (n : Nat) (hn : n < 2 ^ 32) (h : (powW 32 n == e0) = false) : ¬ Back n := by
  unfold Back
  rw [← powW_eq 32 n hn]
  simpa using h
theorem prime_dvd {p g k : Nat} (hp : ∀ m, m ∣ p → m = 1 ∨ m = p) (h : p ∣ g * k) : p ∣ g ∨ p ∣ k := by
  rcases hp (Nat.gcd p g) (Nat.gcd_dvd_left p g) with h1 | h1
  · exact .inr (Nat.Coprime.dvd_of_dvd_mul_left h1 h)
  · left
    rw [← h1]
    exact Nat.gcd_dvd_right p g
theorem prime_of {p : Nat} (r : Nat) (hr : p < (r + 1) * (r + 1)) (hp : 0 < p) (h : ∀ m, m < r + 1 → 1 < m → p % m ≠ 0) : ∀ m, m ∣ p → m = 1 ∨ m = p := by
  intro m hm
  obtain ⟨k, hk⟩ := hm
  have hm0 : 0 < m := by rcases Nat.eq_zero_or_pos m with h0 | h0; rw [h0] at hk; omega; exact h0
  have hk0 : 0 < k := by rcases Nat.eq_zero_or_pos k with h0 | h0; rw [h0] at hk; omega; exact h0
  by_cases h1 : m < r + 1
  · by_cases h2 : m = 1
    · exact .inl h2
    · exact absurd (by rw [hk]; exact Nat.mul_mod_right m k) (h m h1 (by omega))
  · by_cases h3 : k < r + 1
    · by_cases h4 : k = 1
      · right; rw [h4] at hk; omega
      · exact absurd (by rw [hk]; exact Nat.mul_mod_left m k) (h k h3 (by omega))
    · have : (r + 1) * (r + 1) ≤ m * k := Nat.mul_le_mul (by omega) (by omega)
      omega
theorem part_dvd {p g : Nat} (hp : ∀ m, m ∣ p → m = 1 ∨ m = p) (q : Nat) (hN : 4294967295 = p * q) (hp0 : 0 < p) (hg : g ∣ 4294967295) (hb : Back g) (hn : ¬ Back q) : p ∣ g := by
  obtain ⟨k, hk⟩ := hg
  have h1 : p ∣ g * k := ⟨q, by omega⟩
  rcases prime_dvd hp h1 with h | ⟨k', rfl⟩
  · exact h
  · exfalso
    apply hn
    refine hb.dvd ⟨k', ?_⟩
    have : p * q = p * (g * k') := by rw [← hN, hk, Nat.mul_left_comm]
    exact Nat.eq_of_mul_eq_mul_left hp0 this
theorem not3 : ¬ Back 1431655765 := not_back _ (by omega) (by decide +kernel)
theorem not5 : ¬ Back 858993459 := not_back _ (by omega) (by decide +kernel)
theorem not17 : ¬ Back 252645135 := not_back _ (by omega) (by decide +kernel)
theorem not257 : ¬ Back 16711935 := not_back _ (by omega) (by decide +kernel)
theorem not65537 : ¬ Back 65535 := not_back _ (by omega) (by decide +kernel)
theorem pr3 : ∀ m, m ∣ 3 → m = 1 ∨ m = 3 := prime_of 1 (by decide) (by decide) (by decide)
theorem pr5 : ∀ m, m ∣ 5 → m = 1 ∨ m = 5 := prime_of 2 (by decide) (by decide) (by decide)
theorem pr17 : ∀ m, m ∣ 17 → m = 1 ∨ m = 17 := prime_of 4 (by decide) (by decide) (by decide)
theorem pr257 : ∀ m, m ∣ 257 → m = 1 ∨ m = 257 := prime_of 16 (by decide) (by decide) (by decide)
theorem pr65537 : ∀ m, m ∣ 65537 → m = 1 ∨ m = 65537 := prime_of 256 (by decide) (by decide) (by decide +kernel)
theorem all_dvd {g : Nat} (hg : g ∣ 4294967295) (hb : Back g) : 3 * 5 * 17 * 257 * 65537 ∣ g := by
  have a1 : 3 ∣ g := part_dvd pr3 1431655765 (by omega) (by omega) hg hb not3
  have a2 : 5 ∣ g := part_dvd pr5 858993459 (by omega) (by omega) hg hb not5
  have a3 : 17 ∣ g := part_dvd pr17 252645135 (by omega) (by omega) hg hb not17
  have a4 : 257 ∣ g := part_dvd pr257 16711935 (by omega) (by omega) hg hb not257
  have a5 : 65537 ∣ g := part_dvd pr65537 65535 (by omega) (by omega) hg hb not65537
  have b2 := Nat.Coprime.mul_dvd_of_dvd_of_dvd (by decide +kernel : Nat.Coprime 3 5) a1 a2
  have b3 := Nat.Coprime.mul_dvd_of_dvd_of_dvd (by decide +kernel : Nat.Coprime (3 * 5) 17) b2 a3
  have b4 := Nat.Coprime.mul_dvd_of_dvd_of_dvd (by decide +kernel : Nat.Coprime (3 * 5 * 17) 257) b3 a4
  exact Nat.Coprime.mul_dvd_of_dvd_of_dvd (by decide +kernel : Nat.Coprime (3 * 5 * 17 * 257) 65537) b4 a5
theorem no_back {d : Nat} (h0 : 0 < d) (h1 : d < 4294967295) : ¬ Back d := by
  intro hd
  have hb := hd.gcd back_all
  have b5 := all_dvd (Nat.gcd_dvd_right d 4294967295) hb
  have := Nat.le_of_dvd h0 (Nat.dvd_trans b5 (Nat.gcd_dvd_left d 4294967295))
  omega
theorem iter_back {d : Nat} (h0 : 0 < d) (h1 : d < 4294967295) : iter d e0 ≠ e0 := by
  intro h
  refine no_back h0 h1 ?_
  have h2 := iter_iterS d e0
  unfold Back
  exact iter_inj (h2.trans h.symm)
end Go.Proofs.Ytompmkmbppcadaa.V
