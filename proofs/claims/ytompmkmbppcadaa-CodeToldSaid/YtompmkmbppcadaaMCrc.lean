/- The check sum, in plain terms: by bits from the lowest, by bits into the other end, by halves of bytes; what it tells apart. -/
import Derived.Test.YtompmkmbppcadaaV17
namespace Go.Proofs.Ytompmkmbppcadaa.V
open Go Go.RowKit
set_option linter.unusedVariables false
set_option linter.unusedSimpArgs false
abbrev W32 := BitVec 32
def poly : W32 := 0xedb88320#32
def crcT (x : W32) : W32 := (x >>> 1) ^^^ (if x.getLsbD 0 then poly else 0#32)
def iter (n : Nat) (x : W32) : W32 := match n with
  | 0 => x
  | n + 1 => iter n (crcT x)
theorem crcT_xor (x y : W32) : crcT (x ^^^ y) = crcT x ^^^ crcT y := by
  unfold crcT
  rw [BitVec.ushiftRight_xor_distrib, BitVec.getLsbD_xor]
  have h : ∀ a b p : W32, a ^^^ b = a ^^^ (p ^^^ (b ^^^ p)) := by
    intro a b p
    apply BitVec.eq_of_getLsbD_eq
    intro i hi
    simp only [BitVec.getLsbD_xor]
    cases a.getLsbD i <;> cases b.getLsbD i <;> cases p.getLsbD i <;> rfl
  cases x.getLsbD 0 <;> cases y.getLsbD 0
  · simp
  · simp [BitVec.xor_assoc]
  · simp; ac_rfl
  · simp only [Bool.xor_self, Bool.false_eq_true, if_false, if_true, BitVec.xor_zero]
    rw [h (x >>> 1) (y >>> 1) poly]
    ac_rfl
theorem iter_xor : ∀ (n : Nat) (x y : W32), iter n (x ^^^ y) = iter n x ^^^ iter n y
  | 0, _, _ => rfl
  | n + 1, x, y => by simp only [iter, crcT_xor, iter_xor n]
theorem iter_succ' : ∀ (n : Nat) (x : W32), iter (n + 1) x = crcT (iter n x)
  | 0, _ => rfl
  | n + 1, x => by rw [iter, iter_succ' n, iter]
theorem iter_add : ∀ (n m : Nat) (x : W32), iter (n + m) x = iter n (iter m x)
  | n, 0, x => rfl
  | n, m + 1, x => by rw [← Nat.add_assoc, iter, iter_add n m, iter]
theorem crcT_zero : crcT 0#32 = 0#32 := by decide
theorem iter_zero : ∀ n, iter n 0#32 = 0#32
  | 0 => rfl
  | n + 1 => by rw [iter, crcT_zero, iter_zero n]
def crcByte (n : W32) (c : UInt8) : W32 := iter 8 (n ^^^ BitVec.ofNat 32 c.toNat)
def crcFrom (n : W32) (l : List UInt8) : W32 := l.foldl crcByte n
def crc (l : List UInt8) : W32 := ~~~ (crcFrom (~~~ 0#32) l)
/-! ### by halves of bytes -/
theorem crcT_even {x : W32} (h : x.getLsbD 0 = false) : crcT x = x >>> 1 := by
  unfold crcT; rw [h]; simp
theorem iter4_even {x : W32} (h0 : x.getLsbD 0 = false) (h1 : x.getLsbD 1 = false) (h2 : x.getLsbD 2 = false) (h3 : x.getLsbD 3 = false) : iter 4 x = x >>> 4 := by
  simp only [iter]
  rw [crcT_even h0, crcT_even (x := x >>> 1) (by simpa using h1), ← BitVec.shiftRight_add, crcT_even (x := x >>> (1 + 1)) (by simpa using h2), ← BitVec.shiftRight_add, crcT_even (x := x >>> (1 + 1 + 1)) (by simpa using h3), ← BitVec.shiftRight_add]
theorem nib (x : W32) : (x >>> 4) ^^^ iter 4 (x &&& 15#32) = iter 4 x := by
  have e : x = (x &&& ~~~ 15#32) ^^^ (x &&& 15#32) := by
    apply BitVec.eq_of_getLsbD_eq
    intro i hi
    simp only [BitVec.getLsbD_xor, BitVec.getLsbD_and, BitVec.getLsbD_not, hi, decide_true, Bool.true_and]
    cases x.getLsbD i <;> cases (15#32).getLsbD i <;> rfl
  have hs : (x &&& ~~~ 15#32) >>> 4 = x >>> 4 := by
    apply BitVec.eq_of_getLsbD_eq
    intro i hi
    have h15 : (15#32).getLsbD (4 + i) = false := by
      rw [BitVec.getLsbD_ofNat]
      have : Nat.testBit 15 (4 + i) = false := Nat.testBit_lt_two_pow (Nat.lt_of_lt_of_le (by decide : 15 < 2 ^ 4) (Nat.pow_le_pow_right (by decide) (Nat.le_add_right _ _)))
      simp [this]
    simp only [BitVec.getLsbD_ushiftRight, BitVec.getLsbD_and, BitVec.getLsbD_not, h15]
    by_cases h : 4 + i < 32
    · simp [h]
    · simp [BitVec.getLsbD_of_ge x (4 + i) (by omega)]
  conv => rhs; rw [e, iter_xor]
  rw [iter4_even (x := x &&& ~~~ 15#32) (by simp) (by simp) (by simp) (by simp), hs]
/-! ### into the other end -/
def bitAt (b : Bool) (e : W32) : W32 := if b then e else 0#32
abbrev e31 : W32 := 0x80000000#32
abbrev e0 : W32 := 1#32
def aug (m : W32) (l : List Bool) : W32 := l.foldl (fun m b => crcT m ^^^ bitAt b e31) m
def non (n : W32) (l : List Bool) : W32 := l.foldl (fun n b => crcT (n ^^^ bitAt b e0)) n
theorem bitAt_xor (a b : Bool) (e : W32) : bitAt (a ^^ b) e = bitAt a e ^^^ bitAt b e := by cases a <;> cases b <;> simp [bitAt]
theorem iter_bitAt (n : Nat) (b : Bool) (e : W32) : iter n (bitAt b e) = bitAt b (iter n e) := by cases b <;> simp [bitAt, iter_zero]
theorem aug_zeros : ∀ (n : Nat) (m : W32), aug m (List.replicate n false) = iter n m
  | 0, _ => rfl
  | n + 1, m => by
    rw [List.replicate_succ]
    show aug (crcT m ^^^ bitAt false e31) (List.replicate n false) = _
    rw [aug_zeros n]
    simp [bitAt, iter]
theorem aug_app (m : W32) (l k : List Bool) : aug m (l ++ k) = aug (aug m l) k := List.foldl_append
theorem non_app (m : W32) (l k : List Bool) : non m (l ++ k) = non (non m l) k := List.foldl_append
theorem aug_xor : ∀ (l : List Bool) (x y : W32), aug (x ^^^ y) l = aug x l ^^^ iter l.length y
  | [], _, _ => rfl
  | b :: l, x, y => by
    show aug (crcT (x ^^^ y) ^^^ bitAt b e31) l = aug (crcT x ^^^ bitAt b e31) l ^^^ iter l.length (crcT y)
    rw [← aug_xor l, crcT_xor]
    congr 1
    ac_rfl
theorem non_xor : ∀ (l : List Bool) (x y : W32), non (x ^^^ y) l = non x l ^^^ iter l.length y
  | [], _, _ => rfl
  | b :: l, x, y => by
    show non (crcT (x ^^^ y ^^^ bitAt b e0)) l = non (crcT (x ^^^ bitAt b e0)) l ^^^ iter l.length (crcT y)
    rw [← non_xor l, ← crcT_xor]
    congr 2
    ac_rfl
theorem iter_comm (n : Nat) (x : W32) : iter n (crcT x) = crcT (iter n x) := (iter_succ' n x ▸ rfl : iter (n + 1) x = crcT (iter n x))
/-- What goes in at the other end comes out 32 steps on. -/
theorem aug_non : ∀ (l : List Bool) (m : W32), iter 32 (aug m l) = non (iter 32 m) l
  | [], _ => rfl
  | b :: l, m => by
    show iter 32 (aug (crcT m ^^^ bitAt b e31) l) = non (crcT (iter 32 m ^^^ bitAt b e0)) l
    rw [aug_non l, iter_xor, iter_bitAt, iter_comm, show iter 32 e31 = crcT e0 by decide +kernel, crcT_xor]
    congr 2
    cases b <;> simp [bitAt, crcT_zero]
theorem aug_not : ∀ (l : List Bool) (x : W32), aug x (l.map (!·)) = aug x l ^^^ aug 0#32 (List.replicate l.length true)
  | [], x => by simp [aug]
  | b :: l, x => by
    show aug (crcT x ^^^ bitAt (!b) e31) (l.map (!·)) = aug (crcT x ^^^ bitAt b e31) l ^^^ aug (crcT 0#32 ^^^ bitAt true e31) (List.replicate l.length true)
    rw [aug_not l]
    have h1 : bitAt (!b) e31 = bitAt b e31 ^^^ bitAt true e31 := by cases b <;> simp [bitAt]
    rw [h1, ← BitVec.xor_assoc, aug_xor, crcT_zero]
    have h2 := aug_xor (List.replicate l.length true) 0#32 (bitAt true e31)
    rw [h2]
    simp only [List.length_replicate]
    ac_rfl
/-- The first 32 bits turned over, 32 zeros behind: all ones at first. -/
theorem aug_turned (l : List Bool) (k1 k2 : List Bool) (h : l ++ List.replicate 32 false = k1 ++ k2) (hk : k1.length = 32) : aug 0#32 (k1.map (!·) ++ k2) = non (~~~ 0#32) l := by
  have hones : aug 0#32 (List.replicate 32 true) = ~~~ 0#32 := by decide +kernel
  rw [aug_app, aug_not, hk, hones, aug_xor, ← aug_app, ← h, aug_app, aug_zeros, aug_non, iter_zero]
  have hl : k2.length = l.length := by
    have := congrArg List.length h
    simp at this
    omega
  rw [hl, ← non_xor]
  simp
/-! ### bits of bytes -/
def bits8 (c : UInt8) : List Bool := (List.range 8).map (fun k => c.toNat.testBit k)
def bitsOf (l : List UInt8) : List Bool := l.flatMap bits8
theorem non8 (n : W32) (c : UInt8) : non n (bits8 c) = crcByte n c := by
  have h : non n (bits8 c) = iter 8 n ^^^ non 0#32 (bits8 c) := by
    have := non_xor (bits8 c) 0#32 n
    simpa [bits8, BitVec.xor_comm] using this
  rw [h]
  unfold crcByte
  rw [iter_xor]
  congr 1
  have : ∀ k : Fin 256, non 0#32 (bits8 (UInt8.ofNat k)) = iter 8 (BitVec.ofNat 32 (UInt8.ofNat k).toNat) := by decide +kernel
  have h2 := this ⟨c.toNat, c.toNat_lt⟩
  simpa using h2
theorem non_bits : ∀ (l : List UInt8) (n : W32), non n (bitsOf l) = crcFrom n l
  | [], _ => rfl
  | c :: l, n => by
    unfold bitsOf
    rw [List.flatMap_cons, non_app, non8]
    exact non_bits l _
end Go.Proofs.Ytompmkmbppcadaa.V
