/- Lists of bytes: compared, copied, lent with marks in their spare room, laid over. -/
import Derived.Test.YtompmkmbppcadaaV17
import Derived.Test.YtompmkmbppcadaaGref0Eq
import Derived.Test.YtompmkmbppcadaaGref0Copy
import Derived.Test.YtompmkmbppcadaaGlaw1Lend
import Derived.Test.YtompmkmbppcadaaGlaw1Intact
namespace Go.Proofs.Ytompmkmbppcadaa.V
open Go Go.RowKit
set_option linter.unusedVariables false
set_option linter.unusedSimpArgs false
variable {α : Type}
theorem take_succ_eq {xs : List α} {i : Nat} {x : α} (h : xs[i]? = some x) : xs.take (i + 1) = xs.take i ++ [x] := by rw [List.take_add_one, h]; rfl
theorem F_ref0_Cmp.is {h : Heap} {a b : Sl} {xs ys : List UInt8} {Q : Int → Heap → Prop} (V1 : Bytes h a xs) (V2 : Bytes h b ys) (h1 : xs.length < 4611686018427387904) (h2 : ys.length < 4611686018427387904) (k : ∀ r : Int, (r = 0 ↔ xs = ys) → Q r h) : F_ref0_Cmp a b h Q := by
  rw [F_ref0_Cmp.eq_1, F_ref0_Cmp_of.eq_1]
  rw [V1.len, V2.len]
  refine jn0 (fun h' => h' = h ∧ ∃ i, xs.take i = ys.take i ∧ (xs.length ≤ i ∨ ys.length ≤ i)) ?_ ?_
  · rintro h ⟨rfl, i, he, hi⟩
    refine brr_p (fun hlt => ?_) (fun hlt => ?_)
    · exact k _ ⟨fun h => (by cases h), fun h => by subst h; omega⟩
    · refine brr_p (fun hgt => ?_) (fun hgt => ?_)
      · exact k _ ⟨fun h => (by cases h), fun h => by subst h; omega⟩
      · refine k _ ⟨fun _ => ?_, fun _ => rfl⟩
        rw [List.take_of_length_le (by omega), List.take_of_length_le (by omega)] at he
        exact he
  · intro j hj
    rw [F_ref0_Cmp.l1.eq_1]
    refine wl1 (k := .int .i64) (fun (m : Nat) (i : Int) (h' : Heap) => h' = h ∧ 0 ≤ i ∧ i ≤ xs.length ∧ i + m = xs.length ∧ xs.take i.toNat = ys.take i.toNat) ?_ (m := xs.length) ⟨rfl, by omega, by omega, by omega, by simp⟩
    rintro m (i : Int) h next hn ⟨rfl, hi0, hi1, him, he⟩
    rw [V1.len, V2.len]
    refine jn1 (fun t h' => h' = h ∧ (t = true → i < xs.length ∧ i < ys.length) ∧ (t = false → (xs.length : Int) ≤ i ∨ (ys.length : Int) ≤ i)) ?_ ?_
    · rintro t h ⟨rfl, ht, hf⟩
      refine brr_of (fun e => ?_) (fun e => ?_)
      · obtain ⟨hx, hy⟩ := ht e
        refine Bytes.at V1 hi0 hx fun x hxx => ?_
        refine Bytes.at V2 hi0 hy fun y hyy => ?_
        have hne : x ≠ y → xs ≠ ys := fun hxy hs => by
          subst hs
          rw [hxx] at hyy
          exact hxy (Option.some.inj hyy)
        refine brr_p (fun hlt => ?_) (fun hlt => ?_)
        · exact k _ ⟨fun h => (by cases h), fun h => absurd h (hne (by intro h; subst h; omega))⟩
        · refine Bytes.at V1 hi0 hx fun x' hxx' => ?_
          refine Bytes.at V2 hi0 hy fun y' hyy' => ?_
          obtain rfl : x = x' := by rw [hxx] at hxx'; exact Option.some.inj hxx'
          obtain rfl : y = y' := by rw [hyy] at hyy'; exact Option.some.inj hyy'
          refine brr_p (fun hgt => ?_) (fun hgt => ?_)
          · exact k _ ⟨fun h => (by cases h), fun h => absurd h (hne (by intro h; subst h; omega))⟩
          · have hxy : x = y := UInt8.toNat.inj (by omega)
            rw [wrap64 (by omega) (by omega)]
            refine hn (m - 1) _ _ (by omega) ⟨rfl, by omega, by omega, by omega, ?_⟩
            rw [show (i + 1).toNat = i.toNat + 1 by omega, take_succ_eq hxx, take_succ_eq hyy, he, hxy]
      · refine hj _ ⟨rfl, i.toNat, he, ?_⟩
        rcases hf e with h | h
        · exact .inl (by omega)
        · exact .inr (by omega)
    · intro j2 hj2
      refine brr_p (fun hlt => ?_) (fun hlt => ?_)
      · refine hj2 _ _ ⟨rfl, fun e => ⟨hlt, by simpa using e⟩, fun e => .inr (by simpa using e)⟩
      · exact hj2 _ _ ⟨rfl, fun e => (by cases e), fun _ => .inl (by omega)⟩
theorem F_ref0_Eq.is {h : Heap} {a b : Sl} {xs ys : List UInt8} {Q : Bool → Heap → Prop} (V1 : Bytes h a xs) (V2 : Bytes h b ys) (h1 : xs.length < 4611686018427387904) (h2 : ys.length < 4611686018427387904) (k : Q (decide (xs = ys)) h) : F_ref0_Eq a b h Q := by
  rw [F_ref0_Eq.eq_1, F_ref0_Eq_of.eq_1]
  refine F_ref0_Cmp.is V1 V2 h1 h2 fun r hr => ?_
  have e : (r == 0) = decide (xs = ys) := by
    by_cases h : xs = ys
    · simp [h, hr.2 h]
    · have : r ≠ 0 := fun e => h (hr.1 e)
      simp [h, this]
  rw [e]
  exact k
theorem put_all {cs vs : List Value} (h : vs.length = cs.length) : V.put cs 0 vs = vs := by
  have := put_app [] cs vs (by omega)
  simp only [List.nil_append, List.length_nil] at this
  rw [this, h]; simp
theorem flat_u8 (l : List UInt8) : (l.flatMap u8).length = l.length := by rw [flatMap_len u8_len]; omega
theorem all_one {enc : α → List Value} (ho : ∀ x, (enc x).all oneV = true) (xs : List α) : (xs.flatMap enc).all oneV = true := by
  simp only [List.all_eq_true, List.mem_flatMap]
  rintro v ⟨x, _, hv⟩
  exact List.all_eq_true.1 (ho x) v hv
theorem F_ref0_Copy.is {h0 h : Heap} {L : List Res} {a : Sl} {xs : List UInt8} {Q : Sl → Heap → Prop} (O : Sat h0 h L) (V1 : Bytes h a xs) (h1 : xs.length ≤ 281474976710656) (k : ∀ s h', Sat h0 h' (buf 1 u8 s xs :: L) → s.len = xs.length → s.ptr ≠ none → Q s h') : F_ref0_Copy a h Q := by
  rw [F_ref0_Copy.eq_1, F_ref0_Copy_of.eq_1]
  have hl := V1.len
  refine (Sat.nil h).mk_buf (by omega) (by omega) (by omega) fun b h2 N => ?_
  refine ⟨xs.flatMap u8, ?_, ?_⟩
  · have := (V1.kept N.kept).rd u8_len
    rw [show Nat.min a.len ((a.len : Int).toNat) = a.len by simp]
    exact this
  · simp only [stP]
    have O := O.stack N
    refine O.st 0 rfl (by rw [flat_u8, mkCells_len]; omega) (all_one u8_one xs) fun h3 O => ?_
    have O : Sat h0 h3 (own b (V.put (mkCells (Value.int .u8 0) ((a.len : Int).toNat * 1)) 0 (xs.flatMap u8)) :: L) := O
    rw [put_all (by rw [flat_u8, mkCells_len]; omega)] at O
    have O : Sat h0 h3 (own b (xs.flatMap u8 ++ []) :: L) := by rw [List.append_nil]; exact O
    have O := O.own_buf (k := 0) (sz := 1) (by simp)
    refine k _ _ ?_ (by simp [hl]) (by simp)
    have e : (⟨some (pt b 0), (a.len : Int).toNat, (a.len : Int).toNat⟩ : Sl) = ⟨some (pt b 0), xs.length, xs.length + 0⟩ := by simp [hl]
    rw [e]
    exact O.bufsI
/-! ### lent, with marks behind -/
def marks : List UInt8 := [165, 90, 165]
def lent (s : Sl) (xs : List UInt8) : Res := ex fun sp => bufs 1 u8 s xs (marks.flatMap u8 ++ sp)
theorem lent.split {s : Sl} {xs : List UInt8} {E : Blks} (h : lent s xs E) : ∃ b k sp, s = ⟨some (pt b 0), xs.length, xs.length + k⟩ ∧ 3 ≤ k ∧ E = [(b, (xs ++ marks).flatMap u8 ++ sp)] ∧ sp.length + 3 = k := by
  obtain ⟨sp, h⟩ := h
  rcases h with ⟨_, _, h, _⟩ | ⟨b, k, rfl, h2, rfl⟩
  · simp [marks, u8] at h
  · rw [List.length_append, flat_u8] at h2
    have : marks.length = 3 := rfl
    exact ⟨b, k, sp, rfl, by omega, by rw [List.flatMap_append, List.append_assoc], by omega⟩
theorem Sat.lent {h0 h : Heap} {L : List Res} (O : Sat h0 h L) (i : Nat) {s : Sl} {xs : List UInt8} (hl : i < L.length) (hi : nth i L = V.lent s xs) : Bytes h s xs ∧ s.len + 3 ≤ s.cap ∧ Bytes h ⟨s.ptr, s.len + 3, s.cap⟩ (xs ++ marks) := by
  obtain ⟨E1, E2, h1, O', _⟩ := O.at i hl
  rw [hi] at h1
  obtain ⟨b, k, sp, rfl, hk, rfl, _⟩ := lent.split h1
  have B := (O'.blk _ List.mem_cons_self).2
  have e : (xs ++ marks).length = xs.length + 3 := by simp [marks]
  have V3 := view_of_blk (k := xs.length + k) u8_len B
  rw [e] at V3
  refine ⟨?_, by simp; omega, V3⟩
  rw [List.flatMap_append, List.append_assoc] at B
  exact view_of_blk u8_len B
theorem b2s_view {h : Heap} {s : Sl} {l : List UInt8} {K : ByteArray → Prop} (V1 : Bytes h s l) (k : K ⟨l.toArray⟩) : b2s s.ptr s.len h K := by
  refine ⟨l.map fun x => (x.toNat : Int), ?_, ?_⟩
  · have := V1.rd u8_len
    rw [Nat.mul_one] at this
    rw [this]
    congr 1
    rw [List.map_map]
    induction l with
    | nil => rfl
    | cons x l ih =>
      rw [List.flatMap_cons, List.map_cons, ih' l]
      rfl
  · have e : bytesOfInts (l.map fun x => (x.toNat : Int)) = ⟨l.toArray⟩ := by
      unfold bytesOfInts
      congr 2
      rw [List.map_map]
      conv => rhs; rw [← List.map_id l]
      congr 1
      funext x
      simp
    rw [e]; exact k
where ih' : ∀ l : List UInt8, l.flatMap u8 = l.map (Value.int .u8 ∘ fun x => (x.toNat : Int))
  | [] => rfl
  | x :: l => by rw [List.flatMap_cons, List.map_cons, ih' l]; rfl
theorem bytes_toList (l : List UInt8) : (⟨l.toArray⟩ : ByteArray).toList = l := by rw [ByteArray.toList_eq]
theorem Sat.lendI {h0 h : Heap} {L : List Res} {s : Sl} {xs : List UInt8} (O : Sat h0 h (buf 1 u8 s (xs ++ marks) :: L)) : Sat h0 h (V.lent ⟨s.ptr, xs.length, s.cap⟩ xs :: L) := by
  refine O.mono fun E hE => ?_
  obtain ⟨sp, hE⟩ := hE
  rcases hE with ⟨_, h, _, _⟩ | ⟨b, k, rfl, h2, rfl⟩
  · simp [marks] at h
  · refine ⟨sp, .inr ⟨b, k + 3, ?_, ?_, ?_⟩⟩
    · simp [marks]; omega
    · rw [List.length_append, flat_u8, h2]
      show 3 + k * 1 = (k + 3) * 1
      omega
    · rw [List.flatMap_append, List.append_assoc]
theorem F_law1_Lend.is {h0 h : Heap} {L : List Res} {a : Sl} {xs : List UInt8} {Q : Sl → Heap → Prop} (O : Sat h0 h L) (V1 : Bytes h a xs) (h1 : xs.length + 3 ≤ 140737488355328) (k : ∀ s h', Sat h0 h' (lent s xs :: L) → s.len = xs.length → Q s h') : F_law1_Lend a h Q := by
  rw [F_law1_Lend.eq_1, F_law1_Lend_of.eq_1]
  have hl := V1.len
  have O := O.nil_buf (sz := 1) (enc := u8)
  refine O.app_buf u8_len u8_one rfl (ys := xs) hl (V1.rd u8_len) (by simp; omega) fun s2 h2 O hs2 => ?_
  have O := O
  rw [List.nil_append] at O
  refine O.al fun b h3 O => ?_
  have O := O.swap
  refine O.app_buf u8_len u8_one rfl (ys := marks) rfl ?_ (by simp [marks]; omega) fun s4 h4 O hs4 => ?_
  · have := rdP_own O.swap 0 rfl 3 (by simp)
    exact this
  · have O := O.swap.drop
    have hv := (O.view 0 u8_len (by simp) rfl).2
    have O := O.lendI
    refine ⟨by omega, ?_, ?_⟩
    · rw [hl, hs4] at *; simp [marks] at hv; omega
    · rw [hl]
      exact k _ _ O rfl
theorem F_law1_Intact.is {h0 h : Heap} {L : List Res} (O : Sat h0 h L) (i : Nat) {s b : Sl} {xs ys : List UInt8} {Q : Bool → Heap → Prop} (hi : i < L.length) (hn : nth i L = lent s xs) (V2 : Bytes h b ys) (h1 : xs.length < 4611686018427387904) (k : Q (decide (xs = ys)) h) : F_law1_Intact s b h Q := by
  rw [F_law1_Intact.eq_1, F_law1_Intact_of.eq_1]
  obtain ⟨V1, hc, V3⟩ := O.lent i hi hn
  have hl := V1.len
  refine b2s_view V1 ?_
  refine b2s_view V2 ?_
  rw [bytes_toList, bytes_toList]
  by_cases e : xs = ys
  · rw [show (xs == ys) = true by simpa using e]
    rw [show decide (xs = ys) = true by simpa using e] at k
    refine brr_ff rfl ?_
    rw [wrap64 (x := (s.len : Int) + 3) (by omega) (by omega), wrap64 (x := (s.len : Int) + 1) (by omega) (by omega), wrap64 (x := (s.len : Int) + 2) (by omega) (by omega)]
    refine ⟨by omega, by omega, ?_⟩
    have V3 : Bytes h ⟨s.ptr, ((s.len : Int) + 3).toNat, s.cap⟩ (xs ++ marks) := V3
    refine jn1 (fun t h' => t = true ∧ h' = h) ?_ ?_
    · rintro t h ⟨rfl, rfl⟩
      exact k
    · intro j hj
      have m3 : marks.length = 3 := rfl
      refine Bytes.at V3 (by omega) (by simp; omega) fun x hx => ?_
      have hx' : (xs ++ marks)[xs.length + 0]? = some x := by rw [← hx]; congr 1; omega
      rw [List.getElem?_append_right (by omega)] at hx'
      simp [marks] at hx'; subst hx'
      refine brr_tt (by decide) ?_
      refine Bytes.at V3 (by omega) (by simp; omega) fun x hx => ?_
      have hx' : (xs ++ marks)[xs.length + 1]? = some x := by rw [← hx]; congr 1; omega
      rw [List.getElem?_append_right (by omega)] at hx'
      simp [marks] at hx'; subst hx'
      refine brr_tt (by decide) ?_
      refine Bytes.at V3 (by omega) (by simp; omega) fun x hx => ?_
      have hx' : (xs ++ marks)[xs.length + 2]? = some x := by rw [← hx]; congr 1; omega
      rw [List.getElem?_append_right (by omega)] at hx'
      simp [marks] at hx'; subst hx'
      exact hj _ _ ⟨by decide, rfl⟩
  · rw [show (xs == ys) = false by simpa using e]
    rw [show decide (xs = ys) = false by simpa using e] at k
    exact brr_tt rfl k
/-- A byte of one's own list is written. -/
theorem Sat.putL {h0 h : Heap} {L : List Res} {s : Sl} {xs : List UInt8} {i : Int} {K : Heap → Prop} (O : Sat h0 h (V.lent s xs :: L)) (hi0 : 0 ≤ i) (hi1 : i < (xs.length : Int)) (y : UInt8) {cs : List Value} (hcs : cs = u8 y) (k : ∀ h', Sat h0 h' (V.lent s (xs.set i.toNat y) :: L) → K h') : ixS 1 s i fun a => V.st a cs h K := by
  subst hcs
  obtain ⟨E, ⟨E1, E2, p, hA, h2⟩, O⟩ := O
  have O := O.perm p.symm
  obtain ⟨sp, hA⟩ := hA
  rcases hA with ⟨_, _, h, _⟩ | ⟨b, j, rfl, hsp, rfl⟩
  · simp [marks, u8] at h
  · refine ⟨pt b 0, rfl, hi0, hi1, ?_⟩
    rw [pt_add, Nat.zero_add, Nat.mul_one]
    have hl := flatMap_len u8_len xs
    refine Held.st O (by rw [u8_len, List.length_append, hl]; omega) (u8_one y) fun h' O' => ?_
    rw [set_flat1 u8_len _ _ _ _ (by omega)] at O'
    exact k _ ⟨_, ⟨[(b, _)], E2, List.Perm.refl _, ⟨sp, .inr ⟨b, j, by simp, hsp, rfl⟩⟩, h2⟩, O'⟩
end Go.Proofs.Ytompmkmbppcadaa.V
