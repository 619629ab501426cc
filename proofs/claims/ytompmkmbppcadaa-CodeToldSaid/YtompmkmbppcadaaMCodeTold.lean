/- Texts that differ in bits within 32 in a row, in one or two bits anywhere, have other sums: what CodeTold plays. -/
import Derived.Test.YtompmkmbppcadaaMCodeMixed
import Derived.Test.YtompmkmbppcadaaGlaw1CodeTold
namespace Go.Proofs.Ytompmkmbppcadaa.V
open Go Go.RowKit
set_option linter.unusedVariables false
set_option linter.unusedSimpArgs false
theorem crcFrom_lin : ∀ (l : List UInt8) (x y : W32), crcFrom (x ^^^ y) l = crcFrom x l ^^^ iter (8 * l.length) y
  | [], _, _ => rfl
  | c :: l, x, y => by
    show crcFrom (crcByte (x ^^^ y) c) l = crcFrom (crcByte x c) l ^^^ _
    have e : crcByte (x ^^^ y) c = crcByte x c ^^^ iter 8 y := by
      unfold crcByte
      rw [← iter_xor]
      congr 1
      ac_rfl
    rw [e, crcFrom_lin l, ← iter_add]
    congr 2
theorem one_bit : ∀ k : Fin 8, crcByte 0#32 (UInt8.ofNat (2 ^ k.val)) = iter (8 - k.val) e0 := by decide +kernel
theorem crc_flip : ∀ (l : List UInt8) (j k : Nat) (c : UInt8) (n : W32), l[j]? = some c → k < 8 → crcFrom n (l.set j (c ^^^ UInt8.ofNat (2 ^ k))) = crcFrom n l ^^^ iter (8 * l.length - (8 * j + k)) e0
  | [], j, k, c, n, h, _ => by simp at h
  | d :: l, 0, k, c, n, h, hk => by
    simp at h; subst h
    show crcFrom (crcByte n (d ^^^ UInt8.ofNat (2 ^ k))) l = crcFrom (crcByte n d) l ^^^ _
    have e : crcByte n (d ^^^ UInt8.ofNat (2 ^ k)) = crcByte n d ^^^ crcByte 0#32 (UInt8.ofNat (2 ^ k)) := by
      have := crcByte_xor n 0#32 d (UInt8.ofNat (2 ^ k))
      rwa [BitVec.xor_zero] at this
    have h1 := one_bit ⟨k, hk⟩
    simp only at h1
    rw [e, h1, crcFrom_lin, ← iter_add]
    congr 2
    rw [List.length_cons]
    omega
  | d :: l, j + 1, k, c, n, h, hk => by
    rw [List.set_cons_succ]
    show crcFrom (crcByte n d) (l.set j (c ^^^ UInt8.ofNat (2 ^ k))) = crcFrom (crcByte n d) l ^^^ _
    rw [crc_flip l j k c _ (by simpa using h) hk]
    congr 2
    rw [List.length_cons]
    omega
theorem bit_back : ∀ k : Fin 32, iter k.val (1#32 <<< k.val) = e0 := by decide +kernel
theorem not_inj {x y : W32} : (~~~ x = ~~~ y) ↔ x = y := by
  constructor
  · intro h
    have := congrArg (~~~ ·) h
    simpa using this
  · intro h; rw [h]
theorem toNat_ne (x y : W32) : (((x.toNat : Int)) != (y.toNat : Int)) = decide (x ≠ y) := by
  by_cases h : x = y
  · simp [h]
  · have : ¬ x.toNat = y.toNat := fun e => h (BitVec.eq_of_toNat_eq e)
    simp [h]; omega
theorem toNat_eq (x y : W32) : (((x.toNat : Int)) == (y.toNat : Int)) = decide (x = y) := by
  by_cases h : x = y
  · simp [h]
  · have : ¬ x.toNat = y.toNat := fun e => h (BitVec.eq_of_toNat_eq e)
    simp [h]; omega
theorem xor_ne {x y : W32} : (x ^^^ y = x) ↔ y = 0#32 := by
  constructor
  · intro h
    have := congrArg (x ^^^ ·) h
    simpa [← BitVec.xor_assoc] using this
  · intro h; rw [h]; simp
theorem two_bits {n one two : Nat} (hn : n ≤ 8388608) (h1 : one < n) (h2 : two < n) : (iter (n - one) e0 = iter (n - two) e0) ↔ one = two := by
  have key : ∀ a b, a < b → b < n → iter (n - a) e0 ≠ iter (n - b) e0 := by
    intro a b hab hb h
    rw [show n - a = (n - b) + (b - a) by omega, iter_add] at h
    exact iter_back (by omega) (by omega) (iter_inj h)
  constructor
  · intro h
    rcases Nat.lt_trichotomy one two with hl | he | hl
    · exact absurd h (key _ _ hl h2)
    · exact he
    · exact absurd h.symm (key _ _ hl h1)
  · intro h; rw [h]
/-- The machine's mask of one bit. -/
theorem mask8 {i : Int} (h0 : 0 ≤ i) : IntKind.u8.wrap (1 * 2 ^ min (IntKind.u64.wrap (i.tmod 8)).toNat IntKind.u8.bits) = ((UInt8.ofNat (2 ^ (i.toNat % 8))).toNat : Int) := by
  rw [Int.tmod_eq_emod_of_nonneg h0, wrapu64 (by omega) (by omega)]
  have h8 : (i % 8).toNat = i.toNat % 8 := by omega
  have hk : i.toNat % 8 < 8 := Nat.mod_lt _ (by decide)
  rw [h8]
  generalize i.toNat % 8 = k at *
  have : ∀ k : Fin 8, IntKind.u8.wrap (1 * 2 ^ min k.val IntKind.u8.bits) = ((UInt8.ofNat (2 ^ k.val)).toNat : Int) := by decide
  exact this ⟨k, hk⟩
def flipU (l : List UInt8) (i : Nat) : List UInt8 := match l[i / 8]? with
  | some c => l.set (i / 8) (c ^^^ UInt8.ofNat (2 ^ (i % 8)))
  | none => l
theorem flipU_len (l : List UInt8) (i : Nat) : (flipU l i).length = l.length := by unfold flipU; split <;> simp
theorem flipU_crc (l : List UInt8) (i : Nat) (hi : i < 8 * l.length) (n : W32) : crcFrom n (flipU l i) = crcFrom n l ^^^ iter (8 * l.length - i) e0 := by
  unfold flipU
  rw [List.getElem?_eq_getElem (by omega : i / 8 < l.length)]
  simp only
  rw [crc_flip l (i / 8) (i % 8) _ n (List.getElem?_eq_getElem (by omega)) (Nat.mod_lt _ (by decide))]
  congr 2
  omega
section
variable {h0 h : Heap} {L : List Res}
/-- One bit of one's own list is turned. -/
theorem flip_step {s : Sl} {l : List UInt8} {i : Int} {K : Heap → Prop} (O : Sat h0 h (buf 1 u8 s l :: L)) (h0i : 0 ≤ i) (hi : i < 8 * l.length) (hl : l.length ≤ 281474976710656)
    (k : ∀ h', Sat h0 h' (buf 1 u8 s (flipU l i.toNat) :: L) → K h') :
    (8 : Int) ≠ 0 ∧ (8 : Int) ≠ 0 ∧ ixS 1 s (IntKind.i64.wrap (i.tdiv 8)) fun a39 => ld [.int .u8] a39 h fun v40 => (8 : Int) ≠ 0 ∧ 0 ≤ (IntKind.u64.wrap (i.tmod 8)) ∧ ixS 1 s (IntKind.i64.wrap (i.tdiv 8)) fun a41 =>
      st a41 [.int .u8 (IntKind.u8.wrap (BitVec.ofInt IntKind.u8.bits v40 ^^^ BitVec.ofInt IntKind.u8.bits (IntKind.u8.wrap (1 * 2 ^ min (IntKind.u64.wrap (i.tmod 8)).toNat IntKind.u8.bits))).toNat)] h K := by
  have e : IntKind.i64.wrap (i.tdiv 8) = i / 8 := by
    rw [Int.tdiv_eq_ediv_of_nonneg h0i, wrap64 (by omega) (by omega)]
  rw [e]
  refine ⟨by decide, by decide, ?_⟩
  refine Bytes.at (O.view 0 u8_len (by simp) rfl).1 (by omega) (by omega) fun c hc => ?_
  refine ⟨by decide, by rw [Int.tmod_eq_emod_of_nonneg h0i, wrapu64 (by omega) (by omega)]; omega, ?_⟩
  rw [mask8 h0i, xor8]
  refine O.put1 u8_len u8_one (by omega) (by omega) (c ^^^ UInt8.ofNat (2 ^ (i.toNat % 8))) rfl fun h' O => k h' ?_
  have e2 : (i / 8).toNat = i.toNat / 8 := by omega
  unfold flipU
  rw [← e2, hc]
  exact O
theorem F_law1_turned.is {b : Sl} {l : List UInt8} {i : Int} {Q : Sl → Heap → Prop} (O : Sat h0 h L) (V1 : Bytes h b l) (h0i : 0 ≤ i) (hi : i < 8 * l.length) (hl : l.length ≤ 281474976710656) (k : ∀ s h', Sat h0 h' (buf 1 u8 s (flipU l i.toNat) :: L) → Q s h') : F_law1_turned b i h Q := by
  rw [F_law1_turned.eq_1, F_law1_turned_of.eq_1]
  refine F_ref0_Copy.is O V1 hl fun s h O hs _ => ?_
  exact flip_step O h0i hi hl fun h' O => k s h' O
theorem F_law1_place.is {i n : Int} {Q : Int → Heap → Prop} (hn : 0 < n) (hn2 : n < 4611686018427387904) (k : Q (i % n) h) : F_law1_place i n h Q := by
  rw [F_law1_place.eq_1, F_law1_place_of.eq_1]
  have hf := tmod_fix (a := i) hn
  have hl := tmod_lt (a := i) hn
  refine ⟨by omega, ?_⟩
  refine jn1 (fun x h' => x = i % n ∧ h' = h) ?_ ?_
  · rintro x h ⟨rfl, rfl⟩
    exact k
  · intro j hj
    refine brr_p (fun hlt => ?_) (fun hlt => ?_)
    · rw [if_pos hlt] at hf
      rw [wrap64 (by omega) (by omega)]
      exact hj _ _ ⟨hf, rfl⟩
    · rw [if_neg hlt] at hf
      exact hj _ _ ⟨hf, rfl⟩
end
abbrev tyHurt : Ty := .cons tyBytes (.cons (.int .i64) (.cons (.int .u32) (.cons (.int .i64) (.cons (.int .i64) .nil))))
set_option maxRecDepth 10000 in
theorem codeTold_main (H : Heap) (cs : List Value) (F : Fit H 140737488351232 tyHurt cs) : E_law1_CodeTold [.agg cs.toArray] H (fun r h' => r = .bool true ∧ KeptH H h') := by
  obtain ⟨_, _, rfl, _, ⟨t1, rfl, t1S⟩, _, _, rfl, _, ⟨t2, rfl, t2a, t2b⟩, _, _, rfl, _, ⟨t3, rfl, t3a, t3b⟩, _, _, rfl, _, ⟨t4, rfl, t4a, t4b⟩, _, _, rfl, _, ⟨t5, rfl, t5a, t5b⟩, rfl⟩ := F
  simp only [List.cons_append, List.nil_append, List.append_nil]
  refine Eq.mpr (E_law1_CodeTold.at F_law1_CodeTold t1 t2 t3 t4 t5 H _) ?_
  obtain ⟨_, l, Vl, hl⟩ := t1S.bytesN
  have hll := Vl.len
  rw [u32_min] at t3a; rw [u32_max] at t3b
  rw [F_law1_CodeTold.eq_1, F_law1_CodeTold_of.eq_1]
  refine Sat.al (Sat.nil H) fun ba h1 O => ?_
  simp only [nn_some, pt_add, Nat.zero_add, Nat.add_zero, Nat.reduceAdd, Nat.reduceMul, Int.toNat_zero, Int.toNat_one, Nat.zero_mul, Nat.one_mul]
  refine O.ld 0 rfl (ldL_c (ldL_n ?_))
  refine O.al fun b h O => ?_
  refine O.frz fun h O => ?_
  have Vs : Bytes h ⟨some (pt b 0), 1, 1⟩ [97] := O.arr 0 (enc := u8) (xs := [97]) u8_len rfl
  refine F_code_Sum.is Vs (by decide) fun h k => ?_
  have O := (O.kept2 k).drop
  clear Vs
  refine brr_ff (by decide +kernel) ?_
  rw [hll, wrap64 (x := 8 * (l.length : Int)) (by omega) (by omega)]
  refine jn1 (fun t h' => h' = h ∧ (t = false → 0 < l.length ∧ l.length ≤ 1048576)) ?_ ?_
  · rintro t h ⟨rfl, ht⟩
    refine brr_of (fun e => And.intro (by first | rfl | trivial) O.kept) (fun e => ?_)
    obtain ⟨hp, hs⟩ := ht e
    have hn0 : (0 : Int) < 8 * (l.length : Int) := by omega
    refine O.ld 0 rfl (ldL_c (ldL_n ?_))
    refine F_ref0_Copy.is O (Vl.kept O.kept) (by omega) fun s1 h O _ _ => ?_
    refine F_code_Sum.is (O.view 0 u8_len (by simp) rfl).1 (by omega) fun h k => ?_
    have O := (O.kept2 k).drop
    refine O.ld 0 rfl (ldL_c (ldL_n ?_))
    refine F_law1_place.is hn0 (by omega) ?_
    have p0 := Int.emod_nonneg t2 (show 8 * (l.length : Int) ≠ 0 by omega)
    have p1 := Int.emod_lt_of_pos t2 hn0
    generalize t2 % (8 * (l.length : Int)) = at_ at *
    refine O.ld 0 rfl (ldL_c (ldL_n ?_))
    refine F_ref0_Copy.is O (Vl.kept O.kept) (by omega) fun sc h O _ _ => ?_
    refine jn1 (fun (any : Bool) h' => ∃ (cs : List UInt8) (v : W32), cs.length = l.length ∧ crcFrom (~~~ 0#32) cs = crcFrom (~~~ 0#32) l ^^^ iter (8 * l.length - at_.toNat) v ∧ (any = true ↔ v ≠ 0#32) ∧
      Sat H h' [buf 1 u8 sc cs, own ba [.slice t1.ptr t1.len t1.cap, .int .i64 t2, .int .u32 t3, .int .i64 t4, .int .i64 t5]]) ?_ ?_
    · clear O
      rintro (any : Bool) h ⟨cs, v, hcl, hcc, hany, O⟩
      refine F_code_Sum.is (O.view 0 u8_len (by simp) rfl).1 (by omega) fun h k => ?_
      have O := (O.kept2 k).drop
      have hne : ((((crc cs).toNat : Int)) != ((crc l).toNat : Int)) = any := by
        rw [toNat_ne]
        unfold crc
        have h1 : (~~~ crcFrom (~~~ 0#32) cs ≠ ~~~ crcFrom (~~~ 0#32) l) ↔ v ≠ 0#32 := by
          rw [Ne, not_inj, hcc, xor_ne]
          constructor
          · intro h e
            exact h (by rw [e, iter_zero])
          · intro h e
            exact h (iter_inj0 _ e)
        cases any with
        | true => exact decide_eq_true (h1.2 (hany.1 rfl))
        | false =>
          have : ¬ v ≠ 0#32 := fun e => by have := hany.2 e; cases this
          exact decide_eq_false fun e => this (h1.1 e)
      rw [hne]
      refine brr_ff (by simp) ?_
      refine O.ld 0 rfl (ldL_c (ldL_n ?_))
      refine F_law1_place.is hn0 (by omega) ?_
      refine O.ld 0 rfl (ldL_c (ldL_n ?_))
      refine F_law1_place.is hn0 (by omega) ?_
      have q0 := Int.emod_nonneg t4 (show 8 * (l.length : Int) ≠ 0 by omega)
      have q1 := Int.emod_lt_of_pos t4 hn0
      have r0 := Int.emod_nonneg t5 (show 8 * (l.length : Int) ≠ 0 by omega)
      have r1 := Int.emod_lt_of_pos t5 hn0
      generalize t4 % (8 * (l.length : Int)) = one at *
      generalize t5 % (8 * (l.length : Int)) = two at *
      refine O.ld 0 rfl (ldL_c (ldL_n ?_))
      refine F_law1_turned.is O (Vl.kept O.kept) q0 q1 (by omega) fun sd h O => ?_
      have hd1 := flipU_len l one.toNat
      refine F_law1_turned.is O (O.view 0 u8_len (by simp) rfl).1 r0 (by omega) (by omega) fun se h O => ?_
      have hd2 := flipU_len (flipU l one.toNat) two.toNat
      have c1 := flipU_crc l one.toNat (by omega) (~~~ 0#32)
      have c2 := flipU_crc (flipU l one.toNat) two.toNat (by omega) (~~~ 0#32)
      rw [hd1, c1] at c2
      refine jn1 (fun t h' => t = true ∧ KeptH H h') ?_ ?_
      · rintro t h ⟨rfl, k⟩
        exact And.intro (by first | rfl | trivial) k
      · intro j hj
        refine F_code_Sum.is (O.view 1 u8_len (by simp) rfl).1 (by omega) fun h k => ?_
        have O := O.kept2 k
        refine brr_tt ?_ ?_
        · rw [toNat_ne]
          unfold crc
          rw [c1]
          simp only [Ne, not_inj, xor_ne, decide_eq_true_eq]
          intro e
          exact absurd (iter_inj0 _ e) (by decide)
        · refine F_code_Sum.is (O.view 0 u8_len (by simp) rfl).1 (by omega) fun h k => ?_
          have O := O.kept2 k
          refine hj _ _ ⟨?_, O.kept⟩
          rw [toNat_eq]
          unfold crc
          have h2 := two_bits (n := 8 * l.length) (one := one.toNat) (two := two.toNat) (by omega) (by omega) (by omega)
          have h3 : (~~~ crcFrom (~~~ 0#32) (flipU (flipU l one.toNat) two.toNat) = ~~~ crcFrom (~~~ 0#32) l) ↔ one = two := by
            rw [not_inj, c2, BitVec.xor_assoc, xor_ne]
            constructor
            · intro e
              have := h2.1 (xor_eq_zero e)
              omega
            · intro e
              subst e
              rw [BitVec.xor_self]
          by_cases e : one = two
          · rw [decide_eq_true (h3.2 e)]; simp [e]
          · rw [decide_eq_false fun x => e (h3.1 x)]; simp [e]
    · intro j hj
      rw [F_law1_CodeTold.l1.eq_1]
      simp only [nn_some, pt_add, Nat.zero_add, Nat.add_zero, Nat.reduceAdd, Nat.reduceMul, Int.toNat_zero, Int.toNat_one, Nat.zero_mul, Nat.one_mul]
      rw [hll, wrap64 (x := 8 * (l.length : Int)) (by omega) (by omega)]
      refine wl2 (k := .bool) (l := .int .i64) (fun (m : Nat) (any : Bool) (k : Int) (h' : Heap) => 0 ≤ k ∧ k + m = 32 ∧ ∃ (cs : List UInt8) (v : W32), cs.length = l.length ∧ crcFrom (~~~ 0#32) cs = crcFrom (~~~ 0#32) l ^^^ iter (8 * l.length - at_.toNat) v ∧ (∀ i, k ≤ (i : Nat) → v.getLsbD i = false) ∧ (any = true ↔ v ≠ 0#32) ∧
        Sat H h' [buf 1 u8 sc cs, own ba [.slice t1.ptr t1.len t1.cap, .int .i64 t2, .int .u32 t3, .int .i64 t4, .int .i64 t5]]) ?_ (m := 32) ⟨by omega, by omega, l, 0#32, rfl, by rw [iter_zero]; simp, by simp, by simp, O⟩
      clear O
      rintro m (any : Bool) (k : Int) h next hn ⟨hk0, hkm, cs, v, hcl, hcc, hv, hany, O⟩
      refine jn1 (fun t h' => h' = h ∧ (t = true → k < 32 ∧ at_ + k < 8 * (l.length : Int))) ?_ ?_
      · rintro t h ⟨rfl, ht⟩
        refine brr_of (fun e => ?_) (fun e => hj _ _ ⟨cs, v, hcl, hcc, hany, O⟩)
        obtain ⟨hk32, hkn⟩ := ht e
        refine O.ld 1 rfl (ldL_c (ldL_n ?_))
        refine ⟨by rw [wrapu64 (by omega) (by omega)]; omega, ?_⟩
        refine jn1 (fun (any' : Bool) h' => ∃ (cs : List UInt8) (v : W32), cs.length = l.length ∧ crcFrom (~~~ 0#32) cs = crcFrom (~~~ 0#32) l ^^^ iter (8 * l.length - at_.toNat) v ∧ (∀ i, k + 1 ≤ (i : Nat) → v.getLsbD i = false) ∧ (any' = true ↔ v ≠ 0#32) ∧
          Sat H h' [buf 1 u8 sc cs, own ba [.slice t1.ptr t1.len t1.cap, .int .i64 t2, .int .u32 t3, .int .i64 t4, .int .i64 t5]]) ?_ ?_
        · rintro (any' : Bool) h ⟨cs, v, g1, g2, g3, g4, g5⟩
          rw [wrap64 (by omega) (by omega)]
          exact hn (m - 1) _ _ _ (by omega) ⟨by omega, by omega, cs, v, g1, g2, g3, g4, g5⟩
        · intro j2 hj2
          refine brr_of (fun eb => ?_) (fun eb => hj2 _ _ ⟨cs, v, hcl, hcc, fun i hi => hv i (by omega), hany, O⟩)
          rw [wrap64 (x := at_ + k) (by omega) (by omega)]
          refine flip_step O (by omega) (by omega) (by omega) fun h O => ?_
          have hb := bit_back ⟨k.toNat, by omega⟩
          simp only at hb
          refine hj2 _ _ ⟨_, v ^^^ (1#32 <<< k.toNat), by rw [flipU_len]; exact hcl, ?_, fun i hi => ?_, ?_, O⟩
          · rw [flipU_crc _ _ (by omega), hcc, BitVec.xor_assoc, iter_xor, hcl]
            congr 2
            rw [show 8 * l.length - at_.toNat = (8 * l.length - (at_ + k).toNat) + k.toNat by omega, iter_add, hb]
          · rw [BitVec.getLsbD_xor, hv i (by omega), BitVec.getLsbD_shiftLeft, BitVec.getLsbD_one]
            simp; omega
          · refine ⟨fun _ => ?_, fun _ => rfl⟩
            intro e0
            have := congrArg (fun x => BitVec.getLsbD x k.toNat) e0
            simp only [BitVec.getLsbD_xor] at this
            rw [hv k.toNat (by omega), BitVec.getLsbD_shiftLeft] at this
            simp at this
            omega
      · intro j2 hj2
        refine brr_p (fun hk => ?_) (fun hk => ?_)
        · refine hj2 _ _ ⟨rfl, fun e => ⟨hk, ?_⟩⟩
          rw [wrap64 (by omega) (by omega)] at e
          simpa using e
        · exact hj2 _ _ ⟨rfl, fun e => by cases e⟩
  · intro j hj
    refine brr_eq (fun he => hj _ _ ⟨rfl, fun e => by cases e⟩) (fun he => ?_)
    refine O.ld 0 rfl (ldL_c (ldL_n ?_))
    rw [hll]
    refine hj _ _ ⟨rfl, fun e => ?_⟩
    simp at e
    omega
end Go.Proofs.Ytompmkmbppcadaa.V
