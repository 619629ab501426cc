/- The sum of any text: what CodeSums plays. -/
import Derived.Test.YtompmkmbppcadaaMSum
import Derived.Test.YtompmkmbppcadaaMTexts
import Derived.Test.YtompmkmbppcadaaGlaw1CodeSums
namespace Go.Proofs.Ytompmkmbppcadaa.V
open Go Go.RowKit
set_option linter.unusedVariables false
set_option linter.unusedSimpArgs false
set_option maxRecDepth 10000 in
theorem codeSums_main (H : Heap) (cs : List Value) (F : Fit H 140737488351232 tyTexts cs) : E_law1_CodeSums [.agg cs.toArray] H (fun r h' => r = .bool true ∧ KeptH H h') := by
  obtain ⟨_, _, rfl, _, ⟨t1, rfl, t1S⟩, rfl⟩ := F
  simp only [List.cons_append, List.nil_append, List.append_nil]
  refine Eq.mpr (E_law1_CodeSums.at F_law1_CodeSums t1 H _) ?_
  obtain ⟨xs, Vx, hxl⟩ := t1S.texts
  rw [F_law1_CodeSums.eq_1, F_law1_CodeSums_of.eq_1]
  refine Sat.al (Sat.nil H) fun ba h1 O => ?_
  simp only [nn_some, pt_add, Nat.zero_add, Nat.add_zero, Nat.reduceAdd, Nat.reduceMul, Int.toNat_zero, Int.toNat_one, Nat.zero_mul, Nat.one_mul]
  refine jn1 (fun t h' => t = false ∧ Sat H h' [own ba [.slice t1.ptr t1.len t1.cap]]) ?_ ?_
  · clear O
    rintro t h ⟨rfl, O⟩
    refine brr_ff rfl ?_
    refine jn0 (fun h' => KeptH H h') (fun h k => And.intro (by first | rfl | trivial) k) fun j hj => ?_
    rw [F_law1_CodeSums.l1.eq_1]
    simp only [nn_some, pt_add, Nat.zero_add, Nat.add_zero, Nat.reduceAdd, Nat.reduceMul, Int.toNat_zero, Int.toNat_one, Nat.zero_mul, Nat.one_mul]
    refine wl1 (k := .int .i64) (fun (m : Nat) (i : Int) (h' : Heap) => 0 ≤ i ∧ i + m = xs.length ∧ Sat H h' [own ba [.slice t1.ptr t1.len t1.cap]]) ?_ (m := xs.length) ⟨by omega, by omega, O⟩
    clear O
    intro m (i : Int) h next hn ⟨hi0, him, O⟩
    have ix : ∀ {h' : Heap} {i : Int} {K : Sl → Prop}, KeptH H h' → 0 ≤ i → i < xs.length → (∀ x, x ∈ xs → xs[i.toNat]? = some x → K x.1) → ixS 1 t1 i fun a => ld [.sl] a h' K := by
      intro h' i K k h0 h1 kk
      refine (Vx.kept k).ix h0 h1 fun a cs x hx hlen hR hc => ?_
      obtain ⟨rfl, _⟩ := hR
      exact ld_are hc (ldL_c (ldL_n (kk x (List.mem_of_getElem? hx) hx)))
    have ix2 : ∀ {h' : Heap} {i : Int} {K : Addr → Sl → Prop}, KeptH H h' → 0 ≤ i → i < xs.length → (∀ x a, x ∈ xs → xs[i.toNat]? = some x → (∀ h'', KeptH H h'' → cellsAre h'' a [.slice x.1.ptr x.1.len x.1.cap]) → K a x.1) → ixS 1 t1 i fun a => ld [.sl] a h' (K a) := by
      intro h' i K k h0 h1 kk
      refine Vx.ix h0 h1 fun a cs x hx hlen hR hc => ?_
      obtain ⟨rfl, _⟩ := hR
      exact ld_are (cellsAre_kept k hc) (ldL_c (ldL_n (kk x a (List.mem_of_getElem? hx) hx fun h'' k' => cellsAre_kept k' hc)))
    refine O.ld 0 rfl (ldL_c (ldL_n ?_))
    rw [Vx.len]
    refine brr_p (fun hlt => ?_) (fun hlt => hj _ O.kept)
    obtain ⟨x, hx⟩ : ∃ x, xs[i.toNat]? = some x := ⟨_, List.getElem?_eq_getElem (by omega)⟩
    have inb : ∀ y, y ∈ xs → Bytes H y.1 y.2 ∧ y.2.length ≤ 140737488351232 := by
      intro y hy
      obtain ⟨k, hk⟩ := List.mem_iff_getElem?.1 hy
      obtain ⟨_, _, _, _, hR, _⟩ := Vx.2 k y hk
      exact ⟨hR.2.1, hR.2.2.1⟩
    have hxm := List.mem_of_getElem? hx
    obtain ⟨Vb, hbl⟩ := inb x hxm
    have same : ∀ {y}, xs[i.toNat]? = some y → y = x := fun hy => by rw [hx] at hy; exact (Option.some.inj hy).symm
    refine O.ld 0 rfl (ldL_c (ldL_n ?_))
    refine ix O.kept hi0 hlt fun y _ hy => ?_
    obtain rfl := same hy
    refine F_law1_Lend.is O (Vb.kept O.kept) (by omega) fun s h O hs => ?_
    refine jn1 (fun t h' => t = false ∧ Sat H h' [lent s y.2, own ba [.slice t1.ptr t1.len t1.cap]]) ?_ ?_
    · clear O
      rintro t h ⟨rfl, O⟩
      refine brr_ff rfl ?_
      refine O.ld 1 rfl (ldL_c (ldL_n ?_))
      refine ix O.kept hi0 hlt fun z _ hz => ?_
      obtain rfl := same hz
      refine F_law1_Other.is O (fun h O => Vb.kept O.kept) (by omega) fun s2 ys h hys O => ?_
      replace O := O.sel [1, 0, 2] 3 rfl (Nat.le_add_left _ _)
      simp only [selT, List.map, nth, List.drop, List.cons_append, List.nil_append] at O
      refine F_law1_Into.is O (fun h O => (O.view 0 u8_len (by simp) rfl).1) (by omega) (by omega) fun h O => ?_
      refine F_code_Sum.is (O.lent 0 (by simp) rfl).1 (by omega) fun h' k => ?_
      have O := O.kept2 k
      refine F_ref1_Sum.is (O.view 1 u8_len (by simp) rfl).1 (by omega) ?_
      refine brr_ff (by simp) ?_
      rw [wrap64 (by omega) (by omega)]
      replace O := O.sel [2] 3 rfl (Nat.le_add_left _ _)
      simp only [selT, List.map, nth, List.drop, List.cons_append, List.nil_append] at O
      exact hn (m - 1) _ _ (by omega) ⟨by omega, by omega, O⟩
    · intro j2 hj2
      refine O.ld 1 rfl (ldL_c (ldL_n ?_))
      refine ix2 O.kept hi0 hlt fun z a1 _ hz hca1 => ?_
      obtain rfl := same hz
      refine F_code_Sum.is (O.lent 0 (by simp) rfl).1 (by omega) fun h k => ?_
      have O := O.kept2 k
      refine ⟨O.cells 1 rfl 0 1, hca1 _ O.kept, ?_⟩
      refine F_ref1_Sum.is (Vb.kept O.kept) (by omega) ?_
      refine brr_ff (by simp) ?_
      refine O.ld 1 rfl (ldL_c (ldL_n ?_))
      refine ix O.kept hi0 hlt fun z _ hz => ?_
      obtain rfl := same hz
      refine F_law1_Intact.is O 0 (by simp) rfl (Vb.kept O.kept) (by omega) ?_
      refine brr_ff (by simp) ?_
      have w2 : IntKind.i64.wrap (i.tdiv 2) = i / 2 := by
        rw [Int.tdiv_eq_ediv_of_nonneg hi0, wrap64 (by omega) (by omega)]
      refine O.ld 1 rfl (ldL_c (ldL_n ?_))
      refine ⟨by decide, ?_⟩
      rw [w2]
      refine ix O.kept (by omega) (by omega) fun w hwm hw => ?_
      refine O.ld 1 rfl (ldL_c (ldL_n ?_))
      refine ⟨by decide, ?_⟩
      refine ix2 O.kept (by omega) (by omega) fun w' a2 hwm' hw' hca2 => ?_
      obtain rfl : w' = w := by rw [hw] at hw'; exact (Option.some.inj hw').symm
      obtain ⟨Vw, hwl⟩ := inb w' hwm'
      refine F_code_Sum.is (Vw.kept O.kept) (by omega) fun h k => ?_
      have O := O.kept2 k
      refine ⟨O.cells 1 rfl 0 1, hca2 _ O.kept, ?_⟩
      refine F_ref1_Sum.is (Vw.kept O.kept) (by omega) ?_
      refine brr_ff (by simp) ?_
      refine O.ld 1 rfl (ldL_c (ldL_n ?_))
      refine ix2 O.kept hi0 hlt fun z a3 _ hz hca3 => ?_
      obtain rfl := same hz
      refine F_code_Sum.is (O.lent 0 (by simp) rfl).1 (by omega) fun h k => ?_
      have O := O.kept2 k
      refine ⟨O.cells 1 rfl 0 1, hca3 _ O.kept, ?_⟩
      refine F_ref1_Sum.is (Vb.kept O.kept) (by omega) ?_
      exact hj2 _ _ ⟨by simp, O⟩
  · intro j hj
    refine O.al fun b h O => ?_
    refine O.frz fun h O => ?_
    have Vs : Bytes h ⟨some (pt b 0), 9, 9⟩ [49, 50, 51, 52, 53, 54, 55, 56, 57] := O.arr 0 (enc := u8) (xs := [49, 50, 51, 52, 53, 54, 55, 56, 57]) u8_len rfl
    refine F_code_Sum.is Vs (by decide) fun h k => ?_
    have O := O.kept2 k
    refine brr_ff (by decide +kernel) ?_
    refine F_code_Sum.is (l := []) View.nil (by decide) fun h k => ?_
    have O := O.kept2 k
    exact hj _ _ ⟨by decide +kernel, O.drop⟩
end Go.Proofs.Ytompmkmbppcadaa.V
