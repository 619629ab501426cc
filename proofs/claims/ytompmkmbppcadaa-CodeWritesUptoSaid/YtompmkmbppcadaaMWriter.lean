/- The program's Writer and what the document writes. -/
import Derived.Test.YtompmkmbppcadaaMBytes
import Derived.Test.YtompmkmbppcadaaGcodeWriterU8
import Derived.Test.YtompmkmbppcadaaGcodeWriterU32
import Derived.Test.YtompmkmbppcadaaGcodeWriterU64
import Derived.Test.YtompmkmbppcadaaGcodeWriterBytes
import Derived.Test.YtompmkmbppcadaaGcodeWriterLen
import Derived.Test.YtompmkmbppcadaaGcodeWriterOut
import Derived.Test.YtompmkmbppcadaaGcodeNew
import Derived.Test.YtompmkmbppcadaaGref1Text
import Derived.Test.YtompmkmbppcadaaGref1U8
import Derived.Test.YtompmkmbppcadaaGref1U32
import Derived.Test.YtompmkmbppcadaaGref1U64
namespace Go.Proofs.Ytompmkmbppcadaa.V
open Go Go.RowKit
set_option linter.unusedVariables false
set_option linter.unusedSimpArgs false
/-- A number in its shortest form. -/
def varB (n : Nat) : List UInt8 := if n < 128 then [UInt8.ofNat n] else UInt8.ofNat (128 + n % 128) :: varB (n / 128)
decreasing_by omega
/-- A number in so many bytes, the highest first. -/
def fixB (n size : Nat) : List UInt8 := (List.range size).map fun i => UInt8.ofNat (n / 256 ^ (size - 1 - i))
theorem fixB_len (n size : Nat) : (fixB n size).length = size := by simp [fixB]
theorem varB_len : ∀ (k n : Nat), n < 128 ^ (k + 1) → (varB n).length ≤ k + 1 ∧ 1 ≤ (varB n).length
  | 0, n, h => by
    rw [varB, if_pos (by simpa using h)]
    simp
  | k + 1, n, h => by
    rw [varB]
    split
    · simp
    · have := varB_len k (n / 128) (by rw [Nat.div_lt_iff_lt_mul (by decide)]; rw [Nat.pow_succ] at h; exact h)
      simp only [List.length_cons]
      omega
theorem varB_le {n : Nat} (h : n < 18446744073709551616) : (varB n).length ≤ 10 ∧ 1 ≤ (varB n).length := varB_len 9 n (by omega)
/-- A Writer in memory that holds these bytes. -/
def wrR (b : Nat) (l : List UInt8) : Res := ex fun s : Sl => sep (own b [.slice s.ptr s.len s.cap]) (buf 1 u8 s l)
theorem Sat.wr {h0 h : Heap} {L : List Res} {b : Nat} {l : List UInt8} (O : Sat h0 h (wrR b l :: L)) : ∃ s : Sl, Sat h0 h (own b [.slice s.ptr s.len s.cap] :: buf 1 u8 s l :: L) := by
  obtain ⟨s, O⟩ := O.ex
  exact ⟨s, O.sep⟩
theorem Sat.wrI {h0 h : Heap} {L : List Res} {b : Nat} {l : List UInt8} {s : Sl} (O : Sat h0 h (own b [.slice s.ptr s.len s.cap] :: buf 1 u8 s l :: L)) : Sat h0 h (wrR b l :: L) := O.sepI.exI s
/-- How many bits. -/
def BL (n b : Nat) : Prop := n < 2 ^ b ∧ (b = 0 ∨ 2 ^ (b - 1) ≤ n)
theorem BL.shift {n b k : Nat} (h : BL (n / 2 ^ k) b) (hn : 2 ^ k ≤ n) : BL n (b + k) := by
  have hp : 0 < 2 ^ k := Nat.pow_pos (by decide)
  have h1 : 1 ≤ n / 2 ^ k := (Nat.le_div_iff_mul_le hp).2 (by omega)
  obtain ⟨h2, h3⟩ := h
  refine ⟨?_, .inr ?_⟩
  · rw [Nat.pow_add]
    exact (Nat.div_lt_iff_lt_mul hp).1 h2
  · rcases h3 with h3 | h3
    · subst h3; simp at h2; omega
    · have hb : b ≠ 0 := by intro e; subst e; simp at h2; omega
      rw [show b + k - 1 = (b - 1) + k by omega, Nat.pow_add]
      exact (Nat.le_div_iff_mul_le hp).1 h3
theorem BL.count {n b : Nat} (h : BL n b) : n < 128 ^ (((if b > 1 then b else 1) - 1) / 7 + 1) ∧ (((if b > 1 then b else 1) - 1) / 7 = 0 ∨ 128 ^ (((if b > 1 then b else 1) - 1) / 7) ≤ n) := by
  obtain ⟨h1, h2⟩ := h
  have e : ∀ c, 128 ^ c = 2 ^ (7 * c) := fun c => by rw [Nat.pow_mul]
  rw [e, e]
  refine ⟨Nat.lt_of_lt_of_le h1 (Nat.pow_le_pow_right (by decide) ?_), ?_⟩
  · split <;> omega
  · by_cases hb : b > 1
    · rw [if_pos hb]
      right
      rcases h2 with h2 | h2
      · omega
      · exact Nat.le_trans (Nat.pow_le_pow_right (by decide) (by omega)) h2
    · rw [if_neg hb]; left; rfl
section
variable {h0 h : Heap} {L : List Res}
theorem shr64 (a k : Nat) (hk : k ≤ 64) : (a : Int).fdiv (2 ^ min (k : Int).toNat IntKind.u64.bits) = ((a / 2 ^ k : Nat) : Int) := by
  have h : min (k : Int).toNat IntKind.u64.bits = k := by
    show min (k : Int).toNat 64 = k
    omega
  rw [h, Int.fdiv_eq_ediv_of_nonneg _ (Int.pow_nonneg (by omega))]
  simp
set_option maxRecDepth 20000 in
theorem F_math_bits_Len64.is {n : Nat} {Q : Int → Heap → Prop} (hn : n < 18446744073709551616) (k : ∀ b : Nat, b ≤ 64 → BL n b → Q b h) : F_math_bits_Len64 n h Q := by
  rw [F_math_bits_Len64.eq_1, F_math_bits_Len64_of.eq_1]
  refine jn2 (fun (x y : Int) h' => h' = h ∧ ∃ a c : Nat, x = a ∧ y = c ∧ a < 4294967296 ∧ c ≤ 32 ∧ ∀ b : Nat, BL a b → b ≤ 32 → BL n (b + c)) ?_ ?_
  · rintro x y h ⟨rfl, a, c, rfl, rfl, ha, hc, hb⟩
    refine jn2 (fun (x y : Int) h' => h' = h ∧ ∃ a c : Nat, x = a ∧ y = c ∧ a < 65536 ∧ c ≤ 48 ∧ ∀ b : Nat, BL a b → b ≤ 16 → BL n (b + c)) ?_ ?_
    · clear ha hc hb a c
      rintro x y h ⟨rfl, a, c, rfl, rfl, ha, hc, hb⟩
      refine jn2 (fun (x y : Int) h' => h' = h ∧ ∃ a c : Nat, x = a ∧ y = c ∧ a < 256 ∧ c ≤ 56 ∧ ∀ b : Nat, BL a b → b ≤ 8 → BL n (b + c)) ?_ ?_
      · clear ha hc hb a c
        rintro x y h ⟨rfl, a, c, rfl, rfl, ha, hc, hb⟩
        have key : ∀ a : Fin 256, ∃ b : Nat, b ≤ 8 ∧ BL a b ∧ (⟨#[0, 1, 2, 2, 3, 3, 3, 3, 4, 4, 4, 4, 4, 4, 4, 4, 5, 5, 5, 5, 5, 5, 5, 5, 5, 5, 5, 5, 5, 5, 5, 5, 6, 6, 6, 6, 6, 6, 6, 6, 6, 6, 6, 6, 6, 6, 6, 6, 6, 6, 6, 6, 6, 6, 6, 6, 6, 6, 6, 6, 6, 6, 6, 6, 7, 7, 7, 7, 7, 7, 7, 7, 7, 7, 7, 7, 7, 7, 7, 7, 7, 7, 7, 7, 7, 7, 7, 7, 7, 7, 7, 7, 7, 7, 7, 7, 7, 7, 7, 7, 7, 7, 7, 7, 7, 7, 7, 7, 7, 7, 7, 7, 7, 7, 7, 7, 7, 7, 7, 7, 7, 7, 7, 7, 7, 7, 7, 7, 8, 8, 8, 8, 8, 8, 8, 8, 8, 8, 8, 8, 8, 8, 8, 8, 8, 8, 8, 8, 8, 8, 8, 8, 8, 8, 8, 8, 8, 8, 8, 8, 8, 8, 8, 8, 8, 8, 8, 8, 8, 8, 8, 8, 8, 8, 8, 8, 8, 8, 8, 8, 8, 8, 8, 8, 8, 8, 8, 8, 8, 8, 8, 8, 8, 8, 8, 8, 8, 8, 8, 8, 8, 8, 8, 8, 8, 8, 8, 8, 8, 8, 8, 8, 8, 8, 8, 8, 8, 8, 8, 8, 8, 8, 8, 8, 8, 8, 8, 8, 8, 8, 8, 8, 8, 8, 8, 8, 8, 8, 8, 8, 8, 8, 8, 8, 8, 8, 8, 8, 8, 8, 8, 8, 8, 8, 8, 8]⟩ : ByteArray)[a.val]? = some (UInt8.ofNat b) := by
          have : ∀ a : Fin 256, (List.range 9).any (fun b => decide (a.val < 2 ^ b) && (decide (b = 0) || decide (2 ^ (b - 1) ≤ a.val)) && decide ((⟨#[0, 1, 2, 2, 3, 3, 3, 3, 4, 4, 4, 4, 4, 4, 4, 4, 5, 5, 5, 5, 5, 5, 5, 5, 5, 5, 5, 5, 5, 5, 5, 5, 6, 6, 6, 6, 6, 6, 6, 6, 6, 6, 6, 6, 6, 6, 6, 6, 6, 6, 6, 6, 6, 6, 6, 6, 6, 6, 6, 6, 6, 6, 6, 6, 7, 7, 7, 7, 7, 7, 7, 7, 7, 7, 7, 7, 7, 7, 7, 7, 7, 7, 7, 7, 7, 7, 7, 7, 7, 7, 7, 7, 7, 7, 7, 7, 7, 7, 7, 7, 7, 7, 7, 7, 7, 7, 7, 7, 7, 7, 7, 7, 7, 7, 7, 7, 7, 7, 7, 7, 7, 7, 7, 7, 7, 7, 7, 7, 8, 8, 8, 8, 8, 8, 8, 8, 8, 8, 8, 8, 8, 8, 8, 8, 8, 8, 8, 8, 8, 8, 8, 8, 8, 8, 8, 8, 8, 8, 8, 8, 8, 8, 8, 8, 8, 8, 8, 8, 8, 8, 8, 8, 8, 8, 8, 8, 8, 8, 8, 8, 8, 8, 8, 8, 8, 8, 8, 8, 8, 8, 8, 8, 8, 8, 8, 8, 8, 8, 8, 8, 8, 8, 8, 8, 8, 8, 8, 8, 8, 8, 8, 8, 8, 8, 8, 8, 8, 8, 8, 8, 8, 8, 8, 8, 8, 8, 8, 8, 8, 8, 8, 8, 8, 8, 8, 8, 8, 8, 8, 8, 8, 8, 8, 8, 8, 8, 8, 8, 8, 8, 8, 8, 8, 8, 8, 8]⟩ : ByteArray)[a.val]? = some (UInt8.ofNat b))) = true := by decide +kernel
          intro a
          have := this a
          obtain ⟨b, h1, h2⟩ := List.any_eq_true.1 this
          rw [Bool.and_eq_true, Bool.and_eq_true, Bool.or_eq_true] at h2
          obtain ⟨⟨h2, h3⟩, h4⟩ := h2
          exact ⟨b, by have := List.mem_range.1 h1; omega, ⟨of_decide_eq_true h2, h3.imp of_decide_eq_true of_decide_eq_true⟩, of_decide_eq_true h4⟩
        obtain ⟨b, hb8, hbl, hat⟩ := key ⟨a, ha⟩
        rw [wrapu8 (x := (a : Int)) (by omega) (by omega)]
        refine ⟨UInt8.ofNat b, by omega, hat, ?_⟩
        have hbn : (UInt8.ofNat b).toNat = b := by rw [UInt8.toNat_ofNat']; omega
        show Q (IntKind.i64.wrap ((c : Int) + IntKind.i64.wrap ((UInt8.ofNat b).toNat : Int))) h
        rw [hbn, wrap64 (x := (b : Int)) (by omega) (by omega), wrap64 (by omega) (by omega)]
        have := k (b + c) (by omega) (hb b hbl hb8)
        rw [show (c : Int) + (b : Int) = ((b + c : Nat) : Int) by omega]
        exact this
      · intro j hj
        refine brr_p (fun hlt => ?_) (fun hlt => ?_)
        · refine ⟨by decide, ?_⟩
          rw [show ((8 : Int)) = ((8 : Nat) : Int) from rfl, shr64 a 8 (by decide), wrap64 (by omega) (by omega)]
          refine hj _ _ _ ⟨rfl, a / 2 ^ 8, c + 8, rfl, by omega, by omega, by omega, fun b h1 h2 => ?_⟩
          have := hb _ (h1.shift (by omega)) (by omega)
          rwa [show b + (c + 8) = b + 8 + c by omega]
        · exact hj _ _ _ ⟨rfl, a, c, rfl, rfl, by omega, by omega, fun b h1 h2 => hb b h1 (by omega)⟩
    · intro j hj
      refine brr_p (fun hlt => ?_) (fun hlt => ?_)
      · refine ⟨by decide, ?_⟩
        rw [show ((16 : Int)) = ((16 : Nat) : Int) from rfl, shr64 a 16 (by decide), wrap64 (by omega) (by omega)]
        refine hj _ _ _ ⟨rfl, a / 2 ^ 16, c + 16, rfl, by omega, by omega, by omega, fun b h1 h2 => ?_⟩
        have := hb _ (h1.shift (by omega)) (by omega)
        rwa [show b + (c + 16) = b + 16 + c by omega]
      · exact hj _ _ _ ⟨rfl, a, c, rfl, rfl, by omega, by omega, fun b h1 h2 => hb b h1 (by omega)⟩
  · intro j hj
    refine brr_p (fun hlt => ?_) (fun hlt => ?_)
    · refine ⟨by decide, ?_⟩
      rw [show ((32 : Int)) = ((32 : Nat) : Int) from rfl, shr64 n 32 (by decide)]
      exact hj _ _ _ ⟨rfl, n / 2 ^ 32, 32, rfl, rfl, by omega, by omega, fun b h1 h2 => h1.shift (by omega)⟩
    · exact hj _ _ _ ⟨rfl, n, 0, rfl, rfl, by omega, by omega, fun b h1 h2 => h1⟩
theorem F_code_New.is {Q : Option Addr → Heap → Prop} (O : Sat h0 h L) (k : ∀ b h', Sat h0 h' (wrR b [] :: L) → Q (some (pt b 0)) h') : F_code_New h Q := by
  rw [F_code_New.eq_1, F_code_New_of.eq_1]
  refine O.al fun b h O => ?_
  refine k b h ?_
  have O := (O.nil_buf (sz := 1) (enc := u8)).swap
  exact O.wrI (s := ⟨none, 0, 0⟩)
theorem F_code_Writer_Len.is {b : Nat} {l : List UInt8} {Q : Int → Heap → Prop} (O : Sat h0 h (wrR b l :: L)) (k : Q l.length h) : F_code_Writer_Len (some (pt b 0)) h Q := by
  rw [F_code_Writer_Len.eq_1, F_code_Writer_Len_of.eq_1]
  simp only [nn_some, pt_add, Nat.zero_add, Nat.add_zero, Nat.reduceAdd, Nat.reduceMul, Int.toNat_zero, Int.toNat_one, Nat.zero_mul, Nat.one_mul]
  obtain ⟨s, O⟩ := O.wr
  refine O.ld 0 rfl (ldL_c (ldL_n ?_))
  rw [(O.view 1 u8_len (by simp) rfl).1.len]
  exact k
theorem F_code_taken.is {a : Sl} {xs : List UInt8} {Q : Sl → Heap → Prop} (O : Sat h0 h L) (V1 : Bytes h a xs) (h1 : xs.length ≤ 281474976710656) (k : ∀ s h', Sat h0 h' (buf 1 u8 s xs :: L) → s.len = xs.length → s.ptr ≠ none → Q s h') : F_code_taken a h Q := by
  rw [F_code_taken.eq_1, F_code_taken_of.eq_1]
  have := F_ref0_Copy.is O V1 h1 k
  rw [F_ref0_Copy.eq_1, F_ref0_Copy_of.eq_1] at this
  exact this
theorem F_code_Writer_Out.is {b : Nat} {l : List UInt8} {Q : Sl → Heap → Prop} (O : Sat h0 h (wrR b l :: L)) (hl : l.length ≤ (70368744177664 : Nat)) (k : ∀ s h', Sat h0 h' (buf 1 u8 s l :: wrR b l :: L) → Q s h') : F_code_Writer_Out (some (pt b 0)) h Q := by
  rw [F_code_Writer_Out.eq_1, F_code_Writer_Out_of.eq_1]
  simp only [nn_some, pt_add, Nat.zero_add, Nat.add_zero, Nat.reduceAdd, Nat.reduceMul, Int.toNat_zero, Int.toNat_one, Nat.zero_mul, Nat.one_mul]
  obtain ⟨s, O⟩ := O.wr
  refine O.ld 0 rfl (ldL_c (ldL_n ?_))
  refine F_code_taken.is O (O.view 1 u8_len (by simp) rfl).1 (by omega) fun s2 h O _ _ => ?_
  refine k s2 h ?_
  have O := O.sel [1, 2, 0] 3 rfl (Nat.le_add_left _ _)
  simp only [selT, List.map, nth, List.drop, List.cons_append, List.nil_append] at O
  exact O.wrI.swap
theorem F_code_Writer_Raw.is {b : Nat} {l ys : List UInt8} {a : Sl} {Q : Heap → Prop} (O : Sat h0 h (wrR b l :: L)) (V1 : Bytes h a ys) (hl : l.length + ys.length ≤ (70368744177664 : Nat)) (k : ∀ h', Sat h0 h' (wrR b (l ++ ys) :: L) → Q h') : F_code_Writer_Raw (some (pt b 0)) a h Q := by
  rw [F_code_Writer_Raw.eq_1, F_code_Writer_Raw_of.eq_1]
  simp only [nn_some, pt_add, Nat.zero_add, Nat.add_zero, Nat.reduceAdd, Nat.reduceMul, Int.toNat_zero, Int.toNat_one, Nat.zero_mul, Nat.one_mul]
  obtain ⟨s, O⟩ := O.wr
  refine O.ld 0 rfl (ldL_c (ldL_n ?_))
  have O := O.swap
  refine O.app_buf u8_len u8_one rfl (ys := ys) V1.len (V1.len ▸ V1.rd u8_len) (by omega) fun s2 h O hs => ?_
  have O := O.swap
  refine O.st 0 rfl (by simp) rfl fun h O => ?_
  dsimp only [V.put, List.set] at O
  exact k _ (Sat.wrI (s := s2) O)
/-- One byte more. -/
theorem wr_push {b : Nat} {l : List UInt8} {s : Sl} {T T' : Nat} {x : UInt8} {cs : List Value} {K : Heap → Prop} (O : Sat h0 h (own b [.slice s.ptr s.len s.cap] :: buf 1 u8 s l :: L)) (hc : cs = u8 x) (hl : l.length + 1 ≤ (70368744177664 : Nat)) (k : ∀ h', Sat h0 h' (wrR b (l ++ [x]) :: L) → K h') :
    al T' cs h fun a h1 => app T 1 1 (.int .u8 0) s (some a) 1 h1 fun s2 h2 => st (pt b 0) [.slice s2.ptr s2.len s2.cap] h2 K := by
  refine O.swap.push_buf x hc u8_len u8_one rfl (by omega) fun s2 h2 O hs => ?_
  have O := O.swap
  refine O.st 0 rfl (by simp) rfl fun h O => ?_
  dsimp only [V.put, List.set] at O
  exact k _ (Sat.wrI (s := s2) O)
theorem fixB_at {n size i : Nat} (hi : i < size) : (fixB n size)[i]? = some (UInt8.ofNat (n / 256 ^ (size - 1 - i))) := by simp [fixB, hi]
theorem pow256 (k : Nat) : 256 ^ k = 2 ^ (8 * k) := by rw [Nat.pow_mul]
theorem wrap8_ofNat (n : Nat) : IntKind.u8.wrap (n : Int) = ((UInt8.ofNat n).toNat : Int) := by
  unfold IntKind.wrap
  simp [IntKind.bits, IntKind.signed]
theorem F_code_Writer_fixed.is {b n size : Nat} {l : List UInt8} {Q : Heap → Prop} (O : Sat h0 h (wrR b l :: L)) (hs : 0 < size) (hs8 : size ≤ 8) (hl : l.length + 8 ≤ (70368744177664 : Nat)) (k : ∀ h', Sat h0 h' (wrR b (l ++ fixB n size) :: L) → Q h') : F_code_Writer_fixed (some (pt b 0)) n size h Q := by
  rw [F_code_Writer_fixed.eq_1, F_code_Writer_fixed_of.eq_1]
  refine jn0 (fun h' => Sat h0 h' (wrR b (l ++ fixB n size) :: L)) (fun h O => k h O) fun j hj => ?_
  rw [F_code_Writer_fixed.l1.eq_1]
  simp only [nn_some, pt_add, Nat.zero_add, Nat.add_zero, Nat.reduceAdd, Nat.reduceMul, Int.toNat_zero, Int.toNat_one, Nat.zero_mul, Nat.one_mul]
  refine wl1 (k := .int .i64) (fun (m : Nat) (i : Int) (h' : Heap) => 0 ≤ i ∧ i + m = size ∧ Sat h0 h' (wrR b (l ++ (fixB n size).take i.toNat) :: L)) ?_ (m := size) ⟨by omega, by omega, by simpa using O⟩
  clear O
  intro m (i : Int) h next hn ⟨hi0, him, O⟩
  refine brr_p (fun hlt => ?_) (fun hlt => ?_)
  · obtain ⟨s, O⟩ := O.wr
    refine O.ld 0 rfl (ldL_c (ldL_n ?_))
    rw [wrap64 (x := (size : Int) - 1) (by omega) (by omega), wrap64 (x := (size : Int) - 1 - i) (by omega) (by omega), wrap64 (x := 8 * ((size : Int) - 1 - i)) (by omega) (by omega)]
    refine ⟨by omega, ?_⟩
    have e8 : 8 * ((size : Int) - 1 - i) = ((8 * (size - 1 - i.toNat) : Nat) : Int) := by omega
    rw [e8, shr64 n _ (by omega), ← pow256, wrap8_ofNat]
    refine O.al fun b2 h2 O => ?_
    refine ⟨O.cells 1 rfl 0 1, ?_⟩
    have hlen : (l ++ (fixB n size).take i.toNat).length ≤ l.length + 8 := by
      rw [List.length_append, List.length_take, fixB_len]; omega
    have O := O.sel [2, 0, 1] 3 rfl (Nat.le_add_left _ _)
    simp only [selT, List.map, nth, List.drop, List.cons_append, List.nil_append] at O
    have hr := rdP_own O 1 rfl 1 (by simp)
    refine O.app_buf u8_len u8_one rfl (ys := [UInt8.ofNat (n / 256 ^ (size - 1 - i.toNat))]) rfl hr (by simp only [List.length_cons, List.length_nil]; omega) fun s2 h2 O hs2 => ?_
    have O := O.sel [2, 0] 3 rfl (Nat.le_add_left _ _)
    simp only [selT, List.map, nth, List.drop, List.cons_append, List.nil_append] at O
    refine O.st 0 rfl (by simp) rfl fun h O => ?_
    dsimp only [V.put, List.set] at O
    have O := Sat.wrI (s := s2) O
    rw [wrap64 (by omega) (by omega)]
    refine hn (m - 1) _ _ (by omega) ⟨by omega, by omega, ?_⟩
    rw [show (i + 1).toNat = i.toNat + 1 by omega, take_succ_eq (fixB_at (by omega)), ← List.append_assoc]
    exact O
  · refine hj _ ?_
    rw [List.take_of_length_le (by rw [fixB_len]; omega)] at O
    exact O
theorem F_code_Writer_U8.is {b n : Nat} {l : List UInt8} {Q : Heap → Prop} (O : Sat h0 h (wrR b l :: L)) (hn : n < 256) (hl : l.length + 8 ≤ (70368744177664 : Nat)) (k : ∀ h', Sat h0 h' (wrR b (l ++ fixB n 1) :: L) → Q h') : F_code_Writer_U8 (some (pt b 0)) n h Q := by
  rw [F_code_Writer_U8.eq_1, F_code_Writer_U8_of.eq_1]
  rw [wrapu64 (by omega) (by omega)]
  exact F_code_Writer_fixed.is (size := 1) O (by decide) (by decide) hl k
theorem F_code_Writer_U32.is {b n : Nat} {l : List UInt8} {Q : Heap → Prop} (O : Sat h0 h (wrR b l :: L)) (hn : n < 4294967296) (hl : l.length + 8 ≤ (70368744177664 : Nat)) (k : ∀ h', Sat h0 h' (wrR b (l ++ fixB n 4) :: L) → Q h') : F_code_Writer_U32 (some (pt b 0)) n h Q := by
  rw [F_code_Writer_U32.eq_1, F_code_Writer_U32_of.eq_1]
  rw [wrapu64 (by omega) (by omega)]
  exact F_code_Writer_fixed.is (size := 4) O (by decide) (by decide) hl k
theorem F_code_Writer_U64.is {b n : Nat} {l : List UInt8} {Q : Heap → Prop} (O : Sat h0 h (wrR b l :: L)) (hl : l.length + 8 ≤ (70368744177664 : Nat)) (k : ∀ h', Sat h0 h' (wrR b (l ++ fixB n 8) :: L) → Q h') : F_code_Writer_U64 (some (pt b 0)) n h Q := by
  rw [F_code_Writer_U64.eq_1, F_code_Writer_U64_of.eq_1]
  exact F_code_Writer_fixed.is (size := 8) O (by decide) (by decide) hl k
theorem or128 (n : Nat) : IntKind.u8.wrap (BitVec.ofInt IntKind.u8.bits (IntKind.u8.wrap (n : Int)) ||| BitVec.ofInt IntKind.u8.bits 128).toNat = ((UInt8.ofNat (128 + n % 128)).toNat : Int) := by
  rw [wrap8_ofNat n]
  have key : ∀ c : Fin 256, IntKind.u8.wrap (BitVec.ofInt IntKind.u8.bits (c.val : Int) ||| BitVec.ofInt IntKind.u8.bits 128).toNat = ((UInt8.ofNat (128 + c.val % 128)).toNat : Int) := by decide +kernel
  have h := key ⟨(UInt8.ofNat n).toNat, (UInt8.ofNat n).toNat_lt⟩
  simp only at h
  rw [h]
  congr 3
  have : (UInt8.ofNat n).toNat = n % 256 := by simp
  rw [this]
  omega
theorem F_code_Writer_Var.is {b n : Nat} {l : List UInt8} {Q : Heap → Prop} (O : Sat h0 h (wrR b l :: L)) (hn : n < 18446744073709551616) (hl : l.length + 10 ≤ (70368744177664 : Nat)) (k : ∀ h', Sat h0 h' (wrR b (l ++ varB n) :: L) → Q h') : F_code_Writer_Var (some (pt b 0)) n h Q := by
  rw [F_code_Writer_Var.eq_1, F_code_Writer_Var_of.eq_1]
  simp only [nn_some, pt_add, Nat.zero_add, Nat.add_zero, Nat.reduceAdd, Nat.reduceMul, Int.toNat_zero, Int.toNat_one, Nat.zero_mul, Nat.one_mul]
  refine F_math_bits_Len64.is hn fun bl hb64 hbl => ?_
  refine ⟨by decide, ?_⟩
  obtain ⟨c1, c2⟩ := hbl.count
  have hc : ((if bl > 1 then bl else 1) - 1) / 7 ≤ 9 := by split <;> omega
  have ec : IntKind.i64.wrap ((IntKind.i64.wrap ((if (bl : Int) > 1 then (bl : Int) else 1) - 1)).tdiv 7) = ((((if bl > 1 then bl else 1) - 1) / 7 : Nat) : Int) := by
    rw [wrap64 (x := (if (bl : Int) > 1 then (bl : Int) else 1) - 1) (by split <;> omega) (by split <;> omega), Int.tdiv_eq_ediv_of_nonneg (by split <;> omega), wrap64 (by split <;> omega) (by split <;> omega)]
    split <;> split <;> omega
  generalize hcc : ((if bl > 1 then bl else 1) - 1) / 7 = c at *
  refine jn1 (fun (x : Int) h' => ∃ (pre : List UInt8) (n' : Nat), x = n' ∧ n' < 128 ∧ varB n = pre ++ varB n' ∧ pre.length ≤ 9 ∧ Sat h0 h' (wrR b (l ++ pre) :: L)) ?_ ?_
  · clear O
    rintro x h ⟨pre, n', rfl, hn', hv, hp, O⟩
    obtain ⟨s, O⟩ := O.wr
    refine O.ld 0 rfl (ldL_c (ldL_n ?_))
    refine wr_push O (x := UInt8.ofNat n') (by rw [wrap8_ofNat]; rfl) (by rw [List.length_append]; omega) fun h O => ?_
    refine k h ?_
    rw [hv, varB, if_pos hn', ← List.append_assoc]
    exact O
  · intro j hj
    rw [F_code_Writer_Var.l1.eq_1, ec]
    simp only [nn_some, pt_add, Nat.zero_add, Nat.add_zero, Nat.reduceAdd, Nat.reduceMul, Int.toNat_zero, Int.toNat_one, Nat.zero_mul, Nat.one_mul]
    refine wl2 (k := .int .u64) (l := .int .i64) (fun (m : Nat) (x i : Int) (h' : Heap) => 0 ≤ i ∧ i + m = c ∧ ∃ (pre : List UInt8) (n' : Nat), x = n' ∧ n' < 128 ^ (m + 1) ∧ (m = 0 ∨ 128 ^ m ≤ n') ∧ varB n = pre ++ varB n' ∧ pre.length = i.toNat ∧ Sat h0 h' (wrR b (l ++ pre) :: L)) ?_ (m := c) ⟨by omega, by omega, [], n, rfl, c1, c2, rfl, rfl, by simpa using O⟩
    clear O
    rintro m (x : Int) (i : Int) h next hn2 ⟨hi0, him, pre, n', rfl, h1, h2, hv, hp, O⟩
    refine brr_p (fun hlt => ?_) (fun hlt => ?_)
    · obtain ⟨m, rfl⟩ : ∃ q, m = q + 1 := ⟨m - 1, by omega⟩
      have hge : 128 ^ (m + 1) ≤ n' := by
        rcases h2 with h2 | h2
        · omega
        · exact h2
      have h128 : 128 ≤ n' := Nat.le_trans (by rw [Nat.pow_succ]; have : 0 < 128 ^ m := Nat.pow_pos (by decide); omega) hge
      obtain ⟨s, O⟩ := O.wr
      refine O.ld 0 rfl (ldL_c (ldL_n ?_))
      refine wr_push O (x := UInt8.ofNat (128 + n' % 128)) (by rw [or128]; rfl) (by rw [List.length_append]; omega) fun h O => ?_
      refine ⟨by decide, ?_⟩
      rw [show ((7 : Int)) = ((7 : Nat) : Int) from rfl, shr64 n' 7 (by decide), wrap64 (by omega) (by omega)]
      refine hn2 m _ _ _ (by omega) ⟨by omega, by omega, pre ++ [UInt8.ofNat (128 + n' % 128)], n' / 2 ^ 7, rfl, ?_, ?_, ?_, by simp; omega, by rw [← List.append_assoc]; exact O⟩
      · rw [Nat.div_lt_iff_lt_mul (by decide)]
        rw [Nat.pow_succ 128 (m + 1)] at h1
        exact h1
      · right
        rw [Nat.le_div_iff_mul_le (by decide)]
        rw [Nat.pow_succ] at hge
        exact hge
      · rw [hv, varB, if_neg (by omega), List.append_assoc]
        rfl
    · have hm : m = 0 := by omega
      subst hm
      exact hj _ _ ⟨pre, n', rfl, by simpa using h1, hv, by omega, O⟩
theorem F_code_Writer_Bytes.is {b : Nat} {l ys : List UInt8} {a : Sl} {Q : Heap → Prop} (O : Sat h0 h (wrR b l :: L)) (V1 : Stays h0 L fun h => Bytes h a ys) (hl : l.length + ys.length + 10 ≤ (70368744177664 : Nat)) (k : ∀ h', Sat h0 h' (wrR b (l ++ (varB ys.length ++ ys)) :: L) → Q h') : F_code_Writer_Bytes (some (pt b 0)) a h Q := by
  rw [F_code_Writer_Bytes.eq_1, F_code_Writer_Bytes_of.eq_1]
  have V0 := V1 h O.drop
  rw [V0.len, wrapu64 (by omega) (by omega)]
  refine F_code_Writer_Var.is O (by omega) (by omega) fun h O => ?_
  have hv := (varB_le (n := ys.length) (by omega)).1
  refine F_code_Writer_Raw.is O (V1 h O.drop) (by rw [List.length_append]; omega) fun h O => ?_
  refine k h ?_
  rw [← List.append_assoc]
  exact O
/-! ### the document's -/
set_option maxRecDepth 100000 in
theorem F_ref1_Var_fuel.is (d : Nat) : ∀ (n : Nat) {h0 h : Heap} {L : List Res} {Q : Sl → Heap → Prop}, n < 128 ^ (d + 1) → d ≤ 9 → n < 18446744073709551616 → Sat h0 h L → (∀ s h', Sat h0 h' (buf 1 u8 s (varB n) :: L) → Q s h') → F_ref1_Var_fuel (d + 1) n h Q := by
  have key : ∀ d' n : Nat, d' ≤ d → ∀ {h0 h : Heap} {L : List Res} {Q : Sl → Heap → Prop}, n < 128 ^ (d' + 1) → d' ≤ 9 → n < 18446744073709551616 → Sat h0 h L → (∀ s h', Sat h0 h' (buf 1 u8 s (varB n) :: L) → Q s h') → F_ref1_Var_fuel (d' + 1) n h Q := by
    intro d'
    induction d' with
    | zero =>
      intro n _ h0 h L Q hn hd hn2 O k
      rw [F_ref1_Var_fuel.eq_2]
      show F_ref1_Var_of (F_ref1_Var_fuel 0) (n : Int) h Q
      rw [F_ref1_Var_of.eq_1]
      refine brr_tt (by simp at hn ⊢; omega) ?_
      refine O.al fun b h O => ?_
      rw [wrap8_ofNat] at O
      have O : Sat h0 h (own b ([UInt8.ofNat n].flatMap u8 ++ []) :: L) := O
      have O := (O.own_buf (k := 0) (sz := 1) (by simp)).bufsI
      refine k _ h ?_
      rw [varB, if_pos (by simpa using hn)]
      exact O
    | succ d ih =>
    intro n hdd h0 h L Q hn hd hn2 O k
    rw [F_ref1_Var_fuel.eq_2]
    show F_ref1_Var_of (F_ref1_Var_fuel (d + 1)) (n : Int) h Q
    rw [F_ref1_Var_of.eq_1]
    refine brr_p (fun hlt => ?_) (fun hlt => ?_)
    · refine O.al fun b h O => ?_
      rw [wrap8_ofNat] at O
      have O : Sat h0 h (own b ([UInt8.ofNat n].flatMap u8 ++ []) :: L) := O
      have O := (O.own_buf (k := 0) (sz := 1) (by simp)).bufsI
      refine k _ h ?_
      rw [varB, if_pos (by omega)]
      exact O
    · refine ⟨by decide, ?_⟩
      have hw : IntKind.u8.wrap (IntKind.u64.wrap (128 + ((n : Int).tmod 128))) = ((UInt8.ofNat (128 + n % 128)).toNat : Int) := by
        rw [Int.tmod_eq_emod_of_nonneg (by omega), wrapu64 (by omega) (by omega), show (128 : Int) + (n : Int) % 128 = ((128 + n % 128 : Nat) : Int) by omega, wrap8_ofNat]
      rw [hw]
      refine O.al fun b h O => ?_
      refine ⟨by decide, ?_⟩
      have O : Sat h0 h (own b ([UInt8.ofNat (128 + n % 128)].flatMap u8 ++ []) :: L) := O
      have O := (O.own_buf (k := 0) (sz := 1) (by simp)).bufsI
      rw [show IntKind.u64.wrap ((n : Int).tdiv 128) = ((n / 128 : Nat) : Int) by rw [Int.tdiv_eq_ediv_of_nonneg (by omega), wrapu64 (by omega) (by omega)]; omega]
      have hlt2 : n / 128 < 128 ^ (d + 1) := by rw [Nat.div_lt_iff_lt_mul (by decide)]; rw [Nat.pow_succ] at hn; exact hn
      refine ih (n / 128) (by omega) hlt2 (by omega) (by omega) O fun s h O => ?_
      have hlv := varB_len d (n / 128) hlt2
      have V2 := (O.view 0 u8_len (by simp) rfl).1
      have O := O.swap
      refine O.app_buf u8_len u8_one rfl (ys := varB (n / 128)) V2.len (V2.len ▸ V2.rd u8_len) (by simp only [List.length_cons, List.length_nil]; omega) fun s2 h O hs => ?_
      refine k s2 h ?_
      rw [varB, if_neg (by omega)]
      have O := O.sel [0] 2 rfl (Nat.le_add_left _ _)
      simp only [selT, List.map, nth, List.drop, List.cons_append, List.nil_append] at O
      exact O
  intro n h0 h L Q a b c e f
  exact key d n (Nat.le_refl _) a b c e f
set_option maxRecDepth 100000 in
theorem F_ref1_Var.is {n : Nat} {Q : Sl → Heap → Prop} (O : Sat h0 h L) (hn : n < 18446744073709551616) (k : ∀ s h', Sat h0 h' (buf 1 u8 s (varB n) :: L) → Q s h') : F_ref1_Var n h Q := by
  rw [F_ref1_Var.eq_1]
  exact Exists.intro (9 + 1) (F_ref1_Var_fuel.is 9 n (Nat.lt_of_lt_of_le hn (by decide)) (by decide) hn O k)
theorem F_ref1_Text.is {a : Sl} {ys : List UInt8} {Q : Sl → Heap → Prop} (O : Sat h0 h L) (V1 : Stays h0 L fun h => Bytes h a ys) (hl : ys.length + 10 ≤ (70368744177664 : Nat)) (k : ∀ s h', Sat h0 h' (buf 1 u8 s (varB ys.length ++ ys) :: L) → Q s h') : F_ref1_Text a h Q := by
  rw [F_ref1_Text.eq_1, F_ref1_Text_of.eq_1]
  have V0 := V1 h O
  rw [V0.len, wrapu64 (by omega) (by omega)]
  refine F_ref1_Var.is O (by omega) fun s h O => ?_
  have V2 := V1 h O.drop
  have hv := (varB_le (n := ys.length) (by omega)).1
  refine O.app_buf u8_len u8_one rfl (ys := ys) rfl (V2.len ▸ V2.rd u8_len) (by omega) fun s2 h O hs => ?_
  exact k s2 h O
theorem F_ref1_fixed.is {n size : Nat} {Q : Sl → Heap → Prop} (O : Sat h0 h L) (hs : 0 < size) (hs8 : size ≤ 8) (hn : n < 18446744073709551616) (k : ∀ s h', Sat h0 h' (buf 1 u8 s (fixB n size) :: L) → Q s h') : F_ref1_fixed n size h Q := by
  rw [F_ref1_fixed.eq_1, F_ref1_fixed_of.eq_1]
  refine O.mk_buf (by omega) (by omega) (by omega) fun b h O => ?_
  have e0 : mkCells (Value.int .u8 0) ((size : Int).toNat * 1) = (List.replicate size (0 : UInt8)).flatMap u8 ++ [] := by
    have h1 : mkCells (Value.int .u8 0) ((size : Int).toNat * 1) = List.replicate size (.int .u8 0) := by
      unfold mkCells
      apply List.ext_getElem
      · simp
      · intro i h1 h2
        simp [Value.cells, Nat.mod_one]
    rw [h1, List.append_nil]
    have : ∀ k : Nat, List.replicate k (Value.int .u8 0) = (List.replicate k (0 : UInt8)).flatMap u8 := by
      intro k
      induction k with
      | zero => rfl
      | succ k ih => rw [List.replicate_succ, List.replicate_succ, List.flatMap_cons, ih]; rfl
    exact this _
  rw [e0] at O
  have O := (O.own_buf (k := 0) (sz := 1) (by simp)).bufsI
  rw [List.length_replicate, Nat.add_zero] at O
  rw [show (size : Int).toNat = size by omega]
  refine jn0 (fun h' => Sat h0 h' (buf 1 u8 ⟨some (pt b 0), size, size⟩ (fixB n size) :: L)) (fun h O => k _ h O) fun j hj => ?_
  rw [F_ref1_fixed.l1.eq_1, wrap64 (by omega) (by omega)]
  refine wl2 (k := .int .u64) (l := .int .i64) (fun (m : Nat) (x i : Int) (h' : Heap) => i + 1 = m ∧ m ≤ size ∧ x = ((n / 256 ^ (size - m) : Nat) : Int) ∧ ∃ ds : List UInt8, ds.length = size ∧ (∀ (j : Nat), m ≤ j → ds[j]? = (fixB n size)[j]?) ∧ Sat h0 h' (buf 1 u8 ⟨some (pt b 0), size, size⟩ ds :: L)) ?_ (m := size) ⟨by omega, by omega, by simp, _, by simp, by intro j hjj; rw [List.getElem?_eq_none (by simpa using hjj), List.getElem?_eq_none (by rw [fixB_len]; exact hjj)], O⟩
  clear O
  rintro m (x : Int) (i : Int) h next hn2 ⟨him, hms, rfl, ds, hds, hdj, O⟩
  refine brr_p (fun hge => ?_) (fun hge => ?_)
  · have hge : 0 ≤ i := hge
    refine ⟨by decide, ?_⟩
    have e2 : n / 256 ^ (size - (m - 1)) = n / 256 ^ (size - m) / 256 := by
      rw [show size - (m - 1) = size - m + 1 by omega, Nat.pow_succ, ← Nat.div_div_eq_div_mul]
    have hqn : n / 256 ^ (size - m) ≤ n := Nat.div_le_self _ _
    have hfx : (fixB n size)[i.toNat]? = some (UInt8.ofNat (n / 256 ^ (size - m))) := by
      rw [fixB_at (by omega), show size - 1 - i.toNat = size - m by omega]
    generalize n / 256 ^ (size - m) = q at *
    have hw : IntKind.u8.wrap ((q : Int).tmod 256) = ((UInt8.ofNat q).toNat : Int) := by
      rw [Int.tmod_eq_emod_of_nonneg (by omega), show (q : Int) % 256 = ((q % 256 : Nat) : Int) by omega, wrap8_ofNat]
      simp
    rw [hw]
    refine O.put1 u8_len u8_one hge (by omega) (UInt8.ofNat q) rfl fun h O => ?_
    refine ⟨by decide, ?_⟩
    rw [Int.tdiv_eq_ediv_of_nonneg (by omega), wrapu64 (by omega) (by omega), wrap64 (by omega) (by omega)]
    refine hn2 (m - 1) _ _ _ (by omega) ⟨by omega, by omega, by rw [e2]; omega, _, by simp [hds], fun j hj => ?_, O⟩
    rw [List.getElem?_set]
    by_cases e : i.toNat = j
    · subst e
      rw [if_pos rfl, if_pos (by omega), hfx]
    · rw [if_neg e]
      exact hdj j (by omega)
  · refine hj _ ?_
    have : ds = fixB n size := by
      apply List.ext_getElem?
      intro j
      exact hdj j (by omega)
    rw [← this]
    exact O
end
end Go.Proofs.Ytompmkmbppcadaa.V
