/- Two Writers in turns: each holds just what was laid into it: what CodeWrites plays. -/
import Derived.Test.YtompmkmbppcadaaMWriter
import Derived.Test.YtompmkmbppcadaaMTexts
import Derived.Test.YtompmkmbppcadaaGlaw1CodeWrites
namespace Go.Proofs.Ytompmkmbppcadaa.V
open Go Go.RowKit
set_option linter.unusedVariables false
set_option linter.unusedSimpArgs false
structure COp where
  kind : Int
  which : Int
  m : Int
  n : Nat
  s : Sl
  b : List UInt8
abbrev tyCOp : Ty := .cons (.int .i64) (.cons (.int .i64) (.cons (.int .i64) (.cons (.int .u64) (.cons tyBytes .nil))))
abbrev tyCScript : Ty := .cons (.cons tyBytes (.cons tyBytes .nil)) (.cons (.sl 5 56 tyCOp) .nil)
def copC (o : COp) : List Value := [.int .i64 o.kind, .int .i64 o.which, .int .i64 o.m, .int .u64 o.n, .slice o.s.ptr o.s.len o.s.cap]
def copR (H : Heap) (N : Nat) (o : COp) (cs : List Value) : Prop := cs = copC o ∧ o.n < 18446744073709551616 ∧ Bytes H o.s o.b ∧ o.b.length ≤ N ∧ o.s.len ≤ o.s.cap ∧ IntKind.i64.min ≤ o.which ∧ o.which ≤ IntKind.i64.max ∧ IntKind.i64.min ≤ o.m ∧ o.m ≤ IntKind.i64.max
theorem SlN.cops {h : Heap} {N : Nat} {s : Sl} (S : SlN h N 5 56 s fun cs => Fit h N tyCOp cs) : ∃ l : List COp, View h 5 (copR h N) s l ∧ l.length ≤ N := by
  obtain ⟨h1, h2, _, xs, V⟩ := S.view (copR h N) (fun cs F => by
    obtain ⟨_, _, rfl, _, ⟨t1, rfl, t1a, t1b⟩, _, _, rfl, _, ⟨t2, rfl, t2a, t2b⟩, _, _, rfl, _, ⟨t3, rfl, t3a, t3b⟩, _, _, rfl, _, ⟨t4, rfl, t4a, t4b⟩, _, _, rfl, _, ⟨t5, rfl, t5S⟩, rfl⟩ := F
    rw [u64_min] at t4a; rw [u64_max] at t4b
    obtain ⟨hc, l, Vl, hl⟩ := t5S.bytesN
    refine ⟨⟨t1, t2, t3, t4.toNat, t5, l⟩, ?_, by show t4.toNat < _; omega, Vl, hl, hc, t2a, t2b, t3a, t3b⟩
    show _ = [_, _, _, Value.int .u64 ((t4.toNat : Nat) : Int), _]
    rw [show ((t4.toNat : Nat) : Int) = t4 by omega]
    rfl)
  exact ⟨xs, V, by rw [← V.len]; omega⟩
theorem wrap8n (n : Nat) : IntKind.u8.wrap (n : Int) = ((n % 256 : Nat) : Int) := by
  rw [wrap8_ofNat]; simp
theorem wrap32m (n : Nat) : IntKind.u32.wrap (n : Int) = ((n % 4294967296 : Nat) : Int) := by
  unfold IntKind.wrap
  simp [IntKind.bits, IntKind.signed]
section
variable {h0 h : Heap} {L : List Res}
theorem F_law1_into.is {i n : Int} {Q : Int → Heap → Prop} (hn : 0 < n) (hn2 : n < 4611686018427387904) (k : Q (i % n) h) : F_law1_into i n h Q := by
  rw [F_law1_into.eq_1, F_law1_into_of.eq_1]
  have hf := tmod_fix (a := i) hn
  have hl := tmod_lt (a := i) hn
  refine ⟨by omega, ?_⟩
  refine jn1 (fun x h' => x = i % n ∧ h' = h) ?_ ?_
  · rintro x h ⟨rfl, rfl⟩
    exact k
  · intro j hj
    refine brr_p (fun hlt => ?_) (fun hlt => ?_)
    · rw [if_pos hlt] at hf
      rw [wrap64 (by omega) (by omega)]
      exact hj _ _ ⟨hf, rfl⟩
    · rw [if_neg hlt] at hf
      exact hj _ _ ⟨hf, rfl⟩
/-- What one call lays. -/
def laid (o : COp) : List UInt8 :=
  if o.kind = 1 then fixB (o.n % 256) 1 else if o.kind = 2 then fixB (o.n % 4294967296) 4 else if o.kind = 3 then fixB o.n 8 else if o.kind = 4 then varB o.n else if o.kind = 5 then varB o.b.length ++ o.b else if o.kind = 6 then o.b else []
theorem laid_len {o : COp} (hn : o.n < 18446744073709551616) (hb : o.b.length < 18446744073709551616) : (laid o).length ≤ o.b.length + 18 := by
  unfold laid
  have h1 := (varB_le hn).1
  have h2 := (varB_le hb).1
  split
  · rw [fixB_len]; omega
  split
  · rw [fixB_len]; omega
  split
  · rw [fixB_len]; omega
  split
  · omega
  split
  · rw [List.length_append]; omega
  split
  · omega
  · simp
theorem app_held' {a : Sl} {hs : Sl} {l ys : List UInt8} {T : Nat} {K : Sl → Heap → Prop} (O : Sat h0 h (buf 1 u8 hs l :: L)) (V1 : Bytes h a ys) (hl : l.length + ys.length ≤ (70368744177664 : Nat)) (k : ∀ s h', Sat h0 h' (buf 1 u8 s (l ++ ys) :: L) → K s h') :
    app T 1 1 (.int .u8 0) hs a.ptr a.len h K :=
  O.app_buf u8_len u8_one rfl (ys := ys) V1.len (V1.rd u8_len) (by omega) fun s h' O _ => k s h' O
theorem F_law1_writes.is {w : Nat} {hs : Sl} {l : List UInt8} {o : COp} {Q : Sl → Bool → Heap → Prop} (O : Sat h0 h (wrR w l :: buf 1 u8 hs l :: L)) (ho : o.n < 18446744073709551616) (Vb : Stays h0 L fun h => Bytes h o.s o.b) (hb : o.b.length ≤ 1099511627776) (hl : l.length ≤ 35184372088832)
    (k : ∀ s h' , Sat h0 h' (wrR w (l ++ laid o) :: buf 1 u8 s (l ++ laid o) :: L) → Q s true h') : F_law1_writes (some (pt w 0)) hs o.kind o.which o.m o.n o.s h Q := by
  rw [F_law1_writes.eq_1, F_law1_writes_of.eq_1]
  have hlaid := laid_len ho (by omega)
  refine O.al fun a h O => ?_
  simp only [nn_some, pt_add, Nat.zero_add, Nat.add_zero, Nat.reduceAdd, Nat.reduceMul, Int.toNat_zero, Int.toNat_one, Nat.zero_mul, Nat.one_mul]
  refine O.ld 0 rfl (ldL_c (ldL_n ?_))
  refine F_law1_Lend.is O (Vb h O.drop.drop.drop) (by omega) fun r h O hr => ?_
  refine O.ld 1 rfl (ldL_c (ldL_n ?_))
  refine jn1 (fun (s : Sl) h' => Sat h0 h' (lent r o.b :: own a (copC o) :: wrR w (l ++ laid o) :: buf 1 u8 s (l ++ laid o) :: L)) ?_ ?_
  · clear O
    intro (s : Sl) h O
    unfold copC at O
    refine O.ld 1 rfl (ldL_c (ldL_n ?_))
    refine F_law1_Intact.is O 0 (by simp) rfl (Vb h O.drop.drop.drop.drop) (by omega) ?_
    rw [show decide (o.b = o.b) = true by simp]
    refine jn0 (fun h' => ∃ zs, Sat h0 h' (lent r zs :: own a (copC o) :: wrR w (l ++ laid o) :: buf 1 u8 s (l ++ laid o) :: L)) ?_ ?_
    · rintro h ⟨zs, O⟩
      exact k s h O.drop.drop
    · intro j hj
      rw [F_law1_writes.l1.eq_1]
      refine wl1 (k := .int .i64) (fun (m : Nat) (i : Int) (h' : Heap) => 0 ≤ i ∧ i + m = o.b.length ∧ ∃ zs : List UInt8, zs.length = o.b.length ∧ Sat h0 h' (lent r zs :: own a (copC o) :: wrR w (l ++ laid o) :: buf 1 u8 s (l ++ laid o) :: L)) ?_ (m := o.b.length) ⟨by omega, by omega, o.b, rfl, O⟩
      clear O
      intro m (i : Int) h next hn ⟨hi0, him, zs, hz, O⟩
      rw [hr]
      refine brr_p (fun hlt => ?_) (fun hlt => hj _ ⟨zs, O⟩)
      refine O.putL hi0 (by omega) 238 rfl fun h O => ?_
      rw [wrap64 (by omega) (by omega)]
      exact hn (m - 1) _ _ (by omega) ⟨by omega, by omega, _, by simp [hz], O⟩
  · intro j hj
    have fin : ∀ {s : Sl} {h : Heap} {ys}, laid o = ys → Sat h0 h (lent r o.b :: own a (copC o) :: wrR w (l ++ ys) :: buf 1 u8 s (l ++ ys) :: L) → j s h := by
      intro s h ys e O
      subst e
      exact hj s h O
    have O : Sat h0 h (lent r o.b :: own a (copC o) :: wrR w l :: buf 1 u8 hs l :: L) := O
    unfold copC at O fin
    unfold laid at fin
    refine brr_eq (fun hk => ?_) (fun hk => ?_)
    · rw [if_pos hk] at fin
      refine O.ld 1 rfl (ldL_c (ldL_n ?_))
      rw [wrap8n]
      replace O := O.sel [2, 0, 1, 3] 4 rfl (Nat.le_add_left _ _)
      simp only [selT, List.map, nth, List.drop, List.cons_append, List.nil_append] at O
      refine F_code_Writer_U8.is O (Nat.mod_lt _ (by decide)) (by omega) fun h O => ?_
      refine O.ld 2 rfl (ldL_c (ldL_n ?_))
      rw [wrap8n]
      rw [F_ref1_U8.eq_1, F_ref1_U8_of.eq_1, wrapu64 (by omega) (by omega)]
      refine F_ref1_fixed.is (size := 1) O (by decide) (by decide) (by omega) fun s2 h O => ?_
      have V2 := (O.view 0 u8_len (by simp) rfl).1
      replace O := O.sel [4, 1, 2, 3] 5 rfl (Nat.le_add_left _ _)
      simp only [selT, List.map, nth, List.drop, List.cons_append, List.nil_append] at O
      refine app_held' O V2 (by rw [fixB_len]; omega) fun s h O => ?_
      replace O := O.sel [2, 3, 1, 0] 4 rfl (Nat.le_add_left _ _)
      simp only [selT, List.map, nth, List.drop, List.cons_append, List.nil_append] at O
      exact fin rfl O
    · rw [if_neg hk] at fin
      refine jn1 (fun (s : Sl) h' => j s h') (fun _ _ h => h) fun j2 hj2 => ?_
      replace fin := fun {s : Sl} {h : Heap} {ys} (e : _ = ys) O => hj2 s h (fin (s := s) (h := h) (ys := ys) e O)
      clear hj2 hj j
      refine brr_eq (fun hk => ?_) (fun hk => ?_)
      · rw [if_pos hk] at fin
        refine O.ld 1 rfl (ldL_c (ldL_n ?_))
        rw [wrap32m]
        replace O := O.sel [2, 0, 1, 3] 4 rfl (Nat.le_add_left _ _)
        simp only [selT, List.map, nth, List.drop, List.cons_append, List.nil_append] at O
        refine F_code_Writer_U32.is O (Nat.mod_lt _ (by decide)) (by omega) fun h O => ?_
        refine O.ld 2 rfl (ldL_c (ldL_n ?_))
        rw [wrap32m]
        rw [F_ref1_U32.eq_1, F_ref1_U32_of.eq_1, wrapu64 (by omega) (by omega)]
        refine F_ref1_fixed.is (size := 4) O (by decide) (by decide) (by omega) fun s2 h O => ?_
        have V2 := (O.view 0 u8_len (by simp) rfl).1
        replace O := O.sel [4, 1, 2, 3] 5 rfl (Nat.le_add_left _ _)
        simp only [selT, List.map, nth, List.drop, List.cons_append, List.nil_append] at O
        refine app_held' O V2 (by rw [fixB_len]; omega) fun s h O => ?_
        replace O := O.sel [2, 3, 1, 0] 4 rfl (Nat.le_add_left _ _)
        simp only [selT, List.map, nth, List.drop, List.cons_append, List.nil_append] at O
        exact fin rfl O
      · rw [if_neg hk] at fin
        refine jn1 (fun (s : Sl) h' => j2 s h') (fun _ _ h => h) fun j3 hj3 => ?_
        replace fin := fun {s : Sl} {h : Heap} {ys} (e : _ = ys) O => hj3 s h (fin (s := s) (h := h) (ys := ys) e O)
        clear hj3 j2
        refine brr_eq (fun hk => ?_) (fun hk => ?_)
        · rw [if_pos hk] at fin
          refine O.ld 1 rfl (ldL_c (ldL_n ?_))
          replace O := O.sel [2, 0, 1, 3] 4 rfl (Nat.le_add_left _ _)
          simp only [selT, List.map, nth, List.drop, List.cons_append, List.nil_append] at O
          refine F_code_Writer_U64.is O (by omega) fun h O => ?_
          refine O.ld 2 rfl (ldL_c (ldL_n ?_))
          rw [F_ref1_U64.eq_1, F_ref1_U64_of.eq_1]
          refine F_ref1_fixed.is (size := 8) O (by decide) (by decide) ho fun s2 h O => ?_
          have V2 := (O.view 0 u8_len (by simp) rfl).1
          replace O := O.sel [4, 1, 2, 3] 5 rfl (Nat.le_add_left _ _)
          simp only [selT, List.map, nth, List.drop, List.cons_append, List.nil_append] at O
          refine app_held' O V2 (by rw [fixB_len]; omega) fun s h O => ?_
          replace O := O.sel [2, 3, 1, 0] 4 rfl (Nat.le_add_left _ _)
          simp only [selT, List.map, nth, List.drop, List.cons_append, List.nil_append] at O
          exact fin rfl O
        · rw [if_neg hk] at fin
          refine jn1 (fun (s : Sl) h' => j3 s h') (fun _ _ h => h) fun j4 hj4 => ?_
          replace fin := fun {s : Sl} {h : Heap} {ys} (e : _ = ys) O => hj4 s h (fin (s := s) (h := h) (ys := ys) e O)
          clear hj4 j3
          refine brr_eq (fun hk => ?_) (fun hk => ?_)
          · rw [if_pos hk] at fin
            have hv := (varB_le ho).1
            refine O.ld 1 rfl (ldL_c (ldL_n ?_))
            replace O := O.sel [2, 0, 1, 3] 4 rfl (Nat.le_add_left _ _)
            simp only [selT, List.map, nth, List.drop, List.cons_append, List.nil_append] at O
            refine F_code_Writer_Var.is O ho (by omega) fun h O => ?_
            refine O.ld 2 rfl (ldL_c (ldL_n ?_))
            refine F_ref1_Var.is O ho fun s2 h O => ?_
            have V2 := (O.view 0 u8_len (by simp) rfl).1
            replace O := O.sel [4, 1, 2, 3] 5 rfl (Nat.le_add_left _ _)
            simp only [selT, List.map, nth, List.drop, List.cons_append, List.nil_append] at O
            refine app_held' O V2 (by omega) fun s h O => ?_
            replace O := O.sel [2, 3, 1, 0] 4 rfl (Nat.le_add_left _ _)
            simp only [selT, List.map, nth, List.drop, List.cons_append, List.nil_append] at O
            exact fin rfl O
          · rw [if_neg hk] at fin
            refine jn1 (fun (s : Sl) h' => j4 s h') (fun _ _ h => h) fun j5 hj5 => ?_
            replace fin := fun {s : Sl} {h : Heap} {ys} (e : _ = ys) O => hj5 s h (fin (s := s) (h := h) (ys := ys) e O)
            clear hj5 j4
            refine brr_eq (fun hk => ?_) (fun hk => ?_)
            · rw [if_pos hk] at fin
              have hv := (varB_le (n := o.b.length) (by omega)).1
              replace O := O.sel [2, 0, 1, 3] 4 rfl (Nat.le_add_left _ _)
              simp only [selT, List.map, nth, List.drop, List.cons_append, List.nil_append] at O
              refine F_code_Writer_Bytes.is O (fun h O => (O.lent 0 (by simp) rfl).1) (by omega) fun h O => ?_
              refine O.ld 2 rfl (ldL_c (ldL_n ?_))
              refine F_ref1_Text.is O (fun h O => Vb h O.drop.drop.drop.drop) (by omega) fun s2 h O => ?_
              have V2 := (O.view 0 u8_len (by simp) rfl).1
              replace O := O.sel [4, 1, 2, 3] 5 rfl (Nat.le_add_left _ _)
              simp only [selT, List.map, nth, List.drop, List.cons_append, List.nil_append] at O
              refine app_held' O V2 (by rw [List.length_append]; omega) fun s h O => ?_
              replace O := O.sel [2, 3, 1, 0] 4 rfl (Nat.le_add_left _ _)
              simp only [selT, List.map, nth, List.drop, List.cons_append, List.nil_append] at O
              exact fin rfl O
            · rw [if_neg hk] at fin
              refine jn1 (fun (s : Sl) h' => j5 s h') (fun _ _ h => h) fun j6 hj6 => ?_
              replace fin := fun {s : Sl} {h : Heap} {ys} (e : _ = ys) O => hj6 s h (fin (s := s) (h := h) (ys := ys) e O)
              clear hj6 j5
              refine brr_eq (fun hk => ?_) (fun hk => ?_)
              · rw [if_pos hk] at fin
                replace O := O.sel [2, 0, 1, 3] 4 rfl (Nat.le_add_left _ _)
                simp only [selT, List.map, nth, List.drop, List.cons_append, List.nil_append] at O
                refine F_code_Writer_Raw.is O (O.lent 1 (by simp) rfl).1 (by omega) fun h O => ?_
                refine O.ld 2 rfl (ldL_c (ldL_n ?_))
                have V2 := Vb h O.drop.drop.drop.drop
                replace O := O.sel [3, 0, 1, 2] 4 rfl (Nat.le_add_left _ _)
                simp only [selT, List.map, nth, List.drop, List.cons_append, List.nil_append] at O
                refine app_held' O V2 (by omega) fun s h O => ?_
                replace O := O.sel [2, 3, 1, 0] 4 rfl (Nat.le_add_left _ _)
                simp only [selT, List.map, nth, List.drop, List.cons_append, List.nil_append] at O
                exact fin rfl O
              · rw [if_neg hk] at fin
                have hlz : laid o = [] := by unfold laid; simp [*]
                rw [hlz, List.append_nil] at k
                refine brr_eq (fun hk7 => ?_) (fun hk7 => ?_)
                · replace O := O.sel [2, 0, 1, 3] 4 rfl (Nat.le_add_left _ _)
                  simp only [selT, List.map, nth, List.drop, List.cons_append, List.nil_append] at O
                  refine F_code_Writer_Len.is O ?_
                  rw [(O.view 3 u8_len (by simp) rfl).1.len]
                  replace O := O.sel [0, 3] 4 rfl (Nat.le_add_left _ _)
                  simp only [selT, List.map, nth, List.drop, List.cons_append, List.nil_append] at O
                  have := k _ _ O
                  simpa using this
                · refine brr_eq (fun hk8 => ?_) (fun hk8 => ?_)
                  · replace O := O.sel [2, 0, 1, 3] 4 rfl (Nat.le_add_left _ _)
                    simp only [selT, List.map, nth, List.drop, List.cons_append, List.nil_append] at O
                    refine F_code_Writer_Out.is O (by omega) fun s h O => ?_
                    refine F_ref0_Eq.is (O.view 0 u8_len (by simp) rfl).1 (O.view 4 u8_len (by simp) rfl).1 (by omega) (by omega) ?_
                    replace O := O.sel [1, 4] 5 rfl (Nat.le_add_left _ _)
                    simp only [selT, List.map, nth, List.drop, List.cons_append, List.nil_append] at O
                    have := k _ _ O
                    simpa using this
                  · refine fin rfl ?_
                    rw [List.append_nil]
                    exact O
end
end Go.Proofs.Ytompmkmbppcadaa.V
