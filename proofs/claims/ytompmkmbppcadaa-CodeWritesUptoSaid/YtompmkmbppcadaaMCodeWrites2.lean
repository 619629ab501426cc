/- Two Writers in turns: the whole play. -/
import Derived.Test.YtompmkmbppcadaaMCodeWrites
namespace Go.Proofs.Ytompmkmbppcadaa.V
open Go Go.RowKit
set_option linter.unusedVariables false
set_option linter.unusedSimpArgs false
abbrev WX := Nat × Sl × List UInt8
def wxR (x : WX) : Res := sep (wrR x.1 x.2.2) (buf 1 u8 x.2.1 x.2.2)
theorem codeWrites_main (H : Heap) (cs : List Value) (F : Fit H 1048576 tyCScript cs) : E_law1_CodeWrites [.agg cs.toArray] H (fun r h' => r = .bool true ∧ KeptH H h') := by
  obtain ⟨_, _, rfl, _, ⟨_, _, rfl, _, ⟨t1, rfl, t1S⟩, _, _, rfl, _, ⟨t2, rfl, t2S⟩, rfl⟩, _, _, rfl, _, ⟨t3, rfl, t3S⟩, rfl⟩ := F
  simp only [List.cons_append, List.nil_append, List.append_nil]
  refine Eq.mpr (E_law1_CodeWrites.at F_law1_CodeWrites t1 t2 t3 H _) ?_
  obtain ⟨ops, Vo, hol⟩ := t3S.cops
  rw [F_law1_CodeWrites.eq_1, F_law1_CodeWrites_of.eq_1]
  refine Sat.al (Sat.nil H) fun ba h1 O => ?_
  refine F_code_New.is O fun b0 h O => ?_
  refine F_code_New.is O fun b1 h O => ?_
  refine O.al fun bA h O => ?_
  refine O.st 0 rfl (by simp) rfl fun h O => ?_
  dsimp only [V.put, List.set] at O
  have O : Sat H h [own bA ([b0, b1].flatMap ptrc), wrR b1 [], wrR b0 [], own ba [.slice t1.ptr t1.len t1.cap, .slice t2.ptr t2.len t2.cap, .slice t3.ptr t3.len t3.cap]] := O
  refine jn1 (fun t h' => t = false ∧ h' = h) ?_ ?_
  · rintro t h ⟨rfl, rfl⟩
    refine brr_ff rfl ?_
    refine O.al fun bB h O => ?_
    have start : ∃ xs : List WX, xs.length = 2 ∧ (∀ x ∈ xs, x.2.2.length ≤ 0) ∧ Sat H h [many wxR xs, own bA ((xs.map (·.1)).flatMap ptrc), own bB ((xs.map (·.2.1)).flatMap slc), own ba [.slice t1.ptr t1.len t1.cap, .slice t2.ptr t2.len t2.cap, .slice t3.ptr t3.len t3.cap]] := by
      refine ⟨[(b0, ⟨none, 0, 0⟩, []), (b1, ⟨none, 0, 0⟩, [])], rfl, by intro x hx; simp at hx; rcases hx with rfl | rfl <;> simp, ?_⟩
      have O : Sat H h [own bB ([(⟨none, 0, 0⟩ : Sl), ⟨none, 0, 0⟩].flatMap slc), own bA ([b0, b1].flatMap ptrc), wrR b1 [], wrR b0 [], own ba [.slice t1.ptr t1.len t1.cap, .slice t2.ptr t2.len t2.cap, .slice t3.ptr t3.len t3.cap]] := O
      replace O := O.sel [3, 2, 1, 0, 4] 5 rfl (Nat.le_add_left _ _)
      simp only [selT, List.map, nth, List.drop, List.cons_append, List.nil_append] at O
      have O := (O.nil_buf (sz := 1) (enc := u8)).swap
      have O : Sat H h (wxR (b0, ⟨none, 0, 0⟩, []) :: _) := O.sepI
      have O := (O.none (f := wxR)).swap.more
      have O := O.swap
      have O := (O.nil_buf (sz := 1) (enc := u8)).swap
      have O : Sat H h (wxR (b1, ⟨none, 0, 0⟩, []) :: _) := O.sepI
      exact O.more
    clear O
    obtain ⟨xs, hx2, hxl, O⟩ := start
    refine jn0 (fun h' => ∃ xs : List WX, xs.length = 2 ∧ (∀ x ∈ xs, x.2.2.length ≤ 400 * 1048600) ∧ Sat H h' [many wxR xs, own bA ((xs.map (·.1)).flatMap ptrc), own bB ((xs.map (·.2.1)).flatMap slc), own ba [.slice t1.ptr t1.len t1.cap, .slice t2.ptr t2.len t2.cap, .slice t3.ptr t3.len t3.cap]]) ?_ ?_
    · clear O hxl hx2 xs
      rintro h ⟨xs, hx2, hxl, O⟩
      refine jn1 (fun t h' => t = true ∧ KeptH H h') ?_ ?_
      · rintro t h ⟨rfl, k⟩
        exact ⟨by first | rfl | trivial, k⟩
      · intro j hj
        obtain ⟨x0, hx0⟩ : ∃ x, xs[(0 : Int).toNat]? = some x := ⟨_, List.getElem?_eq_getElem (by rw [hx2]; decide)⟩
        obtain ⟨x1, hx1⟩ : ∃ x, xs[(1 : Int).toNat]? = some x := ⟨_, List.getElem?_eq_getElem (by rw [hx2]; decide)⟩
        have l0 := hxl _ (List.mem_of_getElem? hx0)
        have l1 := hxl _ (List.mem_of_getElem? hx1)
        refine O.getA (k := .ptr) 1 ptrc_len rfl (by simp [hx2]) (by decide) (x := x0.1) (by rw [List.getElem?_map, hx0]; rfl) (fun b => some (pt b 0)) (fun _ => rfl) ?_
        refine O.getA' (k := .sl) 2 slc_len rfl (by simp [hx2]) (by decide) (x := x0.2.1) (by rw [List.getElem?_map, hx0]; rfl) id (fun _ => rfl) fun a hca => ?_
        have O0 := (O.take _ hx0).sep
        refine F_code_Writer_Out.is O0 (by omega) fun s h O => ?_
        refine ⟨hca O 5 rfl, ?_⟩
        refine F_ref0_Eq.is (O.view 0 u8_len (by simp) rfl).1 (O.view 2 u8_len (by simp) rfl).1 (by omega) (by omega) ?_
        refine brr_tt (by simp) ?_
        have O := O.drop
        have O : Sat H h (wxR x0 :: _) := O.sepI
        have O := O.give (List.getElem?_eq_some_iff.1 hx0).1
        rw [set_same hx0] at O
        refine O.getA (k := .ptr) 1 ptrc_len rfl (by simp [hx2]) (by decide) (x := x1.1) (by rw [List.getElem?_map, hx1]; rfl) (fun b => some (pt b 0)) (fun _ => rfl) ?_
        refine O.getA' (k := .sl) 2 slc_len rfl (by simp [hx2]) (by decide) (x := x1.2.1) (by rw [List.getElem?_map, hx1]; rfl) id (fun _ => rfl) fun a hca => ?_
        have O1 := (O.take _ hx1).sep
        refine F_code_Writer_Out.is O1 (by omega) fun s h O => ?_
        refine ⟨hca O 5 rfl, ?_⟩
        refine F_ref0_Eq.is (O.view 0 u8_len (by simp) rfl).1 (O.view 2 u8_len (by simp) rfl).1 (by omega) (by omega) ?_
        refine brr_tt (by simp) ?_
        have O := O.drop
        have O : Sat H h (wxR x1 :: _) := O.sepI
        have O := O.give (List.getElem?_eq_some_iff.1 hx1).1
        rw [set_same hx1] at O
        refine O.getA (k := .ptr) 1 ptrc_len rfl (by simp [hx2]) (by decide) (x := x0.1) (by rw [List.getElem?_map, hx0]; rfl) (fun b => some (pt b 0)) (fun _ => rfl) ?_
        refine O.getA' (k := .sl) 2 slc_len rfl (by simp [hx2]) (by decide) (x := x0.2.1) (by rw [List.getElem?_map, hx0]; rfl) id (fun _ => rfl) fun a hca => ?_
        have O0 := (O.take _ hx0).sep
        refine F_code_Writer_Len.is O0 ?_
        refine ⟨hca O0 4 rfl, ?_⟩
        refine hj _ _ ⟨?_, O0.kept⟩
        have := (O0.view 1 u8_len (by simp) rfl).1.len
        show ((x0.2.2.length : Int) == ((x0.2.1.len : Nat) : Int)) = true
        rw [this]; simp
    · intro j hj
      rw [F_law1_CodeWrites.l1.eq_1]
      simp only [nn_some, pt_add, Nat.zero_add, Nat.add_zero, Nat.reduceAdd, Nat.reduceMul, Int.toNat_zero, Int.toNat_one, Nat.zero_mul, Nat.one_mul]
      refine wl1 (k := .int .i64) (fun (m : Nat) (i : Int) (h' : Heap) => i + m = ops.length ∧ 0 ≤ i ∧ i ≤ 400 ∧ ∃ xs : List WX, xs.length = 2 ∧ (∀ x ∈ xs, (x.2.2.length : Int) ≤ i * 1048600) ∧ Sat H h' [many wxR xs, own bA ((xs.map (·.1)).flatMap ptrc), own bB ((xs.map (·.2.1)).flatMap slc), own ba [.slice t1.ptr t1.len t1.cap, .slice t2.ptr t2.len t2.cap, .slice t3.ptr t3.len t3.cap]]) ?_ (m := ops.length) ⟨by omega, by omega, by omega, xs, hx2, fun x hx => by have := hxl x hx; omega, O⟩
      clear O hxl hx2 xs
      intro m (i : Int) h2 next hn ⟨hi, hi0, hi4, xs, hx2, hxl, O⟩
      refine jn1 (fun t h' => h' = h2 ∧ (t = true → i < ops.length ∧ i < 400)) ?_ ?_
      · rintro t h2 ⟨rfl, ht⟩
        refine brr_of (fun ht' => ?_) (fun ht' => hj _ ⟨xs, hx2, fun x hx => by have := hxl x hx; omega, O⟩)
        obtain ⟨hlt, hlt4⟩ := ht ht'
        refine O.ld 3 rfl (ldL_c (ldL_n ?_))
        refine (Vo.kept O.kept).ix hi0 hlt fun a cs op hx hlen hR hc => ?_
        obtain ⟨rfl, r1, r2, r3, r4⟩ := hR
        refine ld_are hc (ldL_c (ldL_c (ldL_c (ldL_c (ldL_c (k := .sl) (x := op.s) (ldL_n ?_))))))
        refine O.al fun bo h O => ?_
        refine O.st 0 rfl (by simp) rfl fun h O => ?_
        dsimp only [V.put, List.set] at O
        refine O.ld 0 rfl (ldL_c (ldL_n ?_))
        refine F_law1_into.is (by decide) (by decide) ?_
        have n0 := Int.emod_nonneg op.which (show (2 : Int) ≠ 0 by decide)
        have n1 := Int.emod_lt_of_pos op.which (show (0 : Int) < 2 by decide)
        generalize op.which % 2 = n at *
        have hnl : n.toNat < xs.length := by omega
        obtain ⟨⟨b, hs, l⟩, hxn⟩ : ∃ x, xs[n.toNat]? = some x := ⟨_, List.getElem?_eq_getElem hnl⟩
        have hll := hxl _ (List.mem_of_getElem? hxn)
        simp only at hll
        refine O.getA (k := .ptr) 2 ptrc_len rfl (by simp [hx2]) n0 (x := b) (by rw [List.getElem?_map, hxn]; rfl) (fun b => some (pt b 0)) (fun _ => rfl) ?_
        refine O.getA (k := .sl) 3 slc_len rfl (by simp [hx2]) n0 (x := hs) (by rw [List.getElem?_map, hxn]; rfl) id (fun _ => rfl) ?_
        refine O.ld 0 rfl (ldL_c (ldL_c (ldL_c (ldL_c (ldL_c (k := .sl) (x := op.s) (ldL_n ?_))))))
        replace O := O.sel [1, 0, 2, 3, 4] 5 rfl (Nat.le_add_left _ _)
        simp only [selT, List.map, nth, List.drop, List.cons_append, List.nil_append] at O
        have O := (O.take _ hxn).sep
        simp only at O
        refine F_law1_writes.is O r1 (fun h O => r2.kept O.kept) (by omega) (by omega) fun s h O => ?_
        have hlaid := laid_len r1 (show op.b.length < 18446744073709551616 by omega)
        replace O := O.sel [5, 0, 1, 2, 4, 6] 7 rfl (Nat.le_add_left _ _)
        simp only [selT, List.map, nth, List.drop, List.cons_append, List.nil_append] at O
        refine O.putA slc_len slc_one (by simp [hx2]) n0 (by simp; omega) s rfl fun h O => ?_
        refine brr_ff rfl ?_
        replace O := O.sel [1, 2, 3, 4, 0, 5] 6 rfl (Nat.le_add_left _ _)
        simp only [selT, List.map, nth, List.drop, List.cons_append, List.nil_append] at O
        have O : Sat H h (wxR (b, s, l ++ laid op) :: hole wxR xs n.toNat :: _) := O.sepI
        have O := O.give hnl
        rw [wrap64 (by omega) (by omega)]
        refine hn (m - 1) _ _ (by omega) ⟨by omega, by omega, by omega, xs.set n.toNat (b, s, l ++ laid op), by simp [hx2], ?_, ?_⟩
        · intro x hx
          rcases List.mem_or_eq_of_mem_set hx with hx | rfl
          · have := hxl x hx; omega
          · show (((l ++ laid op).length : Nat) : Int) ≤ _
            rw [List.length_append]
            omega
        · rw [List.map_set, List.map_set]
          rw [set_same (show (xs.map (·.1))[n.toNat]? = some b by rw [List.getElem?_map, hxn]; rfl)]
          exact O
      · intro j2 hj2
        refine O.ld 3 rfl (ldL_c (ldL_n ?_))
        rw [Vo.len]
        refine brr_p (fun hlt => ?_) (fun hlt => ?_)
        · exact hj2 _ _ ⟨rfl, fun e => ⟨hlt, by simpa using e⟩⟩
        · exact hj2 _ _ ⟨rfl, fun e => by cases e⟩
  · intro j hj
    refine O.getA (k := .ptr) 0 ptrc_len rfl rfl (by decide) (x := b0) rfl (fun b => some (pt b 0)) (fun _ => rfl) ?_
    refine brr_ff rfl ?_
    refine O.getA (k := .ptr) 0 ptrc_len rfl rfl (by decide) (x := b1) rfl (fun b => some (pt b 0)) (fun _ => rfl) ?_
    exact hj _ _ ⟨rfl, rfl⟩
end Go.Proofs.Ytompmkmbppcadaa.V
