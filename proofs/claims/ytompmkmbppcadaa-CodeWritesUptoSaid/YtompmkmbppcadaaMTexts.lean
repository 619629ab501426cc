/- Lists of texts as they come in; a text turned round; a text laid over another. -/
import Derived.Test.YtompmkmbppcadaaMBytes
import Derived.Test.YtompmkmbppcadaaGlaw1Into
import Derived.Test.YtompmkmbppcadaaGlaw1Other
namespace Go.Proofs.Ytompmkmbppcadaa.V
open Go Go.RowKit
set_option linter.unusedVariables false
set_option linter.unusedSimpArgs false
abbrev tyBytes : Ty := .sl 1 1 (.int .u8)
abbrev tyTexts : Ty := .cons (.sl 1 24 tyBytes) .nil
/-- A text of a list that came in. -/
def txR (H : Heap) (N : Nat) (x : Sl × List UInt8) (cs : List Value) : Prop := cs = [.slice x.1.ptr x.1.len x.1.cap] ∧ Bytes H x.1 x.2 ∧ x.2.length ≤ N ∧ x.1.len ≤ x.1.cap
theorem SlN.bytesN {h : Heap} {N : Nat} {s : Sl} (S : SlN h N 1 1 s fun cs => Fit h N (.int .u8) cs) : s.len ≤ s.cap ∧ ∃ l : List UInt8, Bytes h s l ∧ l.length ≤ N := by
  obtain ⟨h1, h2, l, V⟩ := S.bytes
  exact ⟨h1, l, V, by rw [← V.len]; omega⟩
theorem SlN.texts {h : Heap} {N : Nat} {s : Sl} (S : SlN h N 1 24 s fun cs => Fit h N tyBytes cs) : ∃ xs : List (Sl × List UInt8), View h 1 (txR h N) s xs ∧ xs.length ≤ N := by
  obtain ⟨h1, h2, _, xs, V⟩ := S.view (txR h N) (fun cs ⟨t, e, tS⟩ => by
    obtain ⟨h1, l, V, hl⟩ := tS.bytesN
    exact ⟨(t, l), e, V, hl, h1⟩)
  exact ⟨xs, V, by rw [← V.len]; omega⟩
section
variable {h0 h : Heap} {L : List Res}
theorem F_law1_Into.is {s b : Sl} {xs ys : List UInt8} {Q : Heap → Prop} (O : Sat h0 h (lent s xs :: L)) (V1 : Stays h0 L fun h => Bytes h b ys) (hl : xs.length = ys.length) (hl2 : xs.length < 4611686018427387904) (k : ∀ h', Sat h0 h' (lent s ys :: L) → Q h') : F_law1_Into s b h Q := by
  rw [F_law1_Into.eq_1, F_law1_Into_of.eq_1]
  refine jn0 (fun h' => Sat h0 h' (lent s ys :: L)) (fun h O => k h O) fun j hj => ?_
  rw [F_law1_Into.l1.eq_1]
  refine wl1 (k := .int .i64) (fun (m : Nat) (i : Int) (h' : Heap) => 0 ≤ i ∧ i + m = xs.length ∧ Sat h0 h' (lent s (ys.take i.toNat ++ xs.drop i.toNat) :: L)) ?_ (m := xs.length) ⟨by omega, by omega, O⟩
  clear O
  intro m (i : Int) h next hn ⟨hi0, him, O⟩
  have hlen := (O.lent 0 (by simp) rfl).1.len
  rw [List.length_append, List.length_take, List.length_drop] at hlen
  rw [show s.len = xs.length by omega]
  refine brr_p (fun hlt => ?_) (fun hlt => ?_)
  · refine Bytes.at (V1 h O.drop) hi0 (by omega) fun y hy => ?_
    refine O.putL hi0 (by simp; omega) y rfl fun h O => ?_
    rw [wrap64 (by omega) (by omega)]
    refine hn (m - 1) _ _ (by omega) ⟨by omega, by omega, ?_⟩
    have e : (ys.take i.toNat ++ xs.drop i.toNat).set i.toNat y = ys.take (i + 1).toNat ++ xs.drop (i + 1).toNat := by
      have ht : (ys.take i.toNat).length = i.toNat := by rw [List.length_take]; omega
      rw [List.set_append_right _ _ (by omega), ht, Nat.sub_self, show (i + 1).toNat = i.toNat + 1 by omega, take_succ_eq hy, List.append_assoc]
      rw [List.drop_eq_getElem_cons (i := i.toNat) (by omega)]
      rfl
    rw [e] at O
    exact O
  · refine hj _ ?_
    have : i.toNat = xs.length := by omega
    rw [this, List.drop_of_length_le (Nat.le_refl _), List.take_of_length_le (by omega), List.append_nil] at O
    exact O
theorem F_law1_Other.is {b : Sl} {xs : List UInt8} {Q : Sl → Heap → Prop} (O : Sat h0 h L) (V1 : Stays h0 L fun h => Bytes h b xs) (hl : xs.length ≤ 140737488355328) (k : ∀ s ys h', ys.length = xs.length → Sat h0 h' (buf 1 u8 s ys :: L) → Q s h') : F_law1_Other b h Q := by
  rw [F_law1_Other.eq_1, F_law1_Other_of.eq_1]
  have hbl := (V1 h O).len
  rw [hbl]
  refine jn1 (fun (s : Sl) h' => ∃ ys, ys.length = xs.length ∧ Sat h0 h' (buf 1 u8 s ys :: L)) ?_ ?_
  · clear O
    rintro (s : Sl) h ⟨ys, hy, O⟩
    have VL := (O.view 0 u8_len (by simp) rfl).1
    rw [VL.len]
    refine jn1 (fun t h' => h' = h ∧ (t = true → 0 < xs.length)) ?_ ?_
    · rintro t h ⟨rfl, ht⟩
      refine jn0 (fun h' => ∃ ys, ys.length = xs.length ∧ Sat h0 h' (buf 1 u8 s ys :: L)) ?_ ?_
      · rintro h ⟨ys, hy, O⟩
        exact k _ _ _ hy O
      · intro j hj
        refine brr_of (fun e => ?_) (fun e => hj _ ⟨ys, hy, O⟩)
        have hp := ht e
        rw [wrap64 (by omega) (by omega)]
        refine Bytes.at VL (by omega) (by omega) fun y hyy => ?_
        have hw : ∃ z : UInt8, [Value.int .u8 (IntKind.u8.wrap (BitVec.ofInt IntKind.u8.bits (y.toNat : Int) ^^^ BitVec.ofInt IntKind.u8.bits 1).toNat)] = u8 z := by
          refine ⟨UInt8.ofNat (BitVec.ofInt IntKind.u8.bits (y.toNat : Int) ^^^ BitVec.ofInt IntKind.u8.bits 1).toNat, ?_⟩
          have hlt : (BitVec.ofInt IntKind.u8.bits (y.toNat : Int) ^^^ BitVec.ofInt IntKind.u8.bits 1).toNat < 2 ^ 8 := (BitVec.ofInt IntKind.u8.bits (y.toNat : Int) ^^^ BitVec.ofInt IntKind.u8.bits 1).isLt
          unfold u8
          rw [wrapu8 (by omega) (by omega), UInt8.toNat_ofNat']
          congr 3
          omega
        obtain ⟨z, hz⟩ := hw
        refine O.put1 u8_len u8_one (by omega) (by omega) z hz fun h O => ?_
        exact hj _ ⟨_, by simp [hy], O⟩
    · intro j hj
      refine brr_p (fun hlt => ?_) (fun hlt => ?_)
      · have h1 := VL
        rw [← VL.len]
        refine b2s_view VL ?_
        rw [← hbl]
        refine b2s_view (V1 h O.drop) ?_
        exact hj _ _ ⟨rfl, fun _ => by omega⟩
      · exact hj _ _ ⟨rfl, fun e => by cases e⟩
  · intro j hj
    rw [F_law1_Other.l1.eq_1, wrap64 (by omega) (by omega)]
    have O := O.nil_buf (sz := 1) (enc := u8)
    refine wl2 (k := .sl) (l := .int .i64) (fun (m : Nat) (s : Sl) (i : Int) (h' : Heap) => m = i + 1 ∧ i < xs.length ∧ ∃ ys : List UInt8, (ys.length : Int) = xs.length - 1 - i ∧ Sat h0 h' (buf 1 u8 s ys :: L)) ?_ (m := xs.length) ⟨by omega, by omega, [], by simp, O⟩
    clear O
    intro m (s : Sl) (i : Int) h next hn ⟨hm, hi, ys, hy, O⟩
    refine brr_p (fun hge => ?_) (fun hge => ?_)
    · have hge : 0 ≤ i := hge
      refine Bytes.at (V1 h O.drop) hge hi fun y hyy => ?_
      refine O.push_buf y rfl u8_len u8_one rfl (by omega) fun s h O hs => ?_
      rw [wrap64 (by omega) (by omega)]
      exact hn (m - 1) _ _ _ (by omega) ⟨by omega, by omega, _, by simp; omega, O⟩
    · exact hj _ _ ⟨ys, by omega, O⟩
end
end Go.Proofs.Ytompmkmbppcadaa.V
