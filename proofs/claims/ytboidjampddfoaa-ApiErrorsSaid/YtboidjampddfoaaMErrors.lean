/- Every error and verdict has the number that the document gives it. -/
import Derived.Test.YtboidjampddfoaaV12
import Derived.Test.YtboidjampddfoaaGlaw0ApiErrors
namespace Go.Proofs.Ytboidjampddfoaa.V
open Go Go.RowKit
set_option linter.unusedVariables false
set_option linter.unusedSimpArgs false
theorem F_law0_num.is {x : Int} {h : Heap} {Q : Int → Heap → Prop} (k : Q x h) : F_law0_num x h Q := by
  unfold F_law0_num F_law0_num_of
  exact k
def twice : List Int → List Value
  | [] => []
  | x :: xs => .int .i64 x :: .int .i64 x :: twice xs
theorem twice_drop : ∀ (xs : List Int) (i : Nat), i < xs.length → ∃ x r, (twice xs).drop (i * 2) = .int .i64 x :: .int .i64 x :: r
  | [], i, h => by simp at h
  | x :: xs, 0, h => ⟨x, twice xs, rfl⟩
  | x :: xs, i + 1, h => by
    obtain ⟨y, r, hy⟩ := twice_drop xs i (by simpa using h)
    exact ⟨y, r, by rw [Nat.add_mul]; simpa [twice] using hy⟩
theorem F_law0_all.is {h0 h : Heap} {L : List Ent} (O : Own h0 h L) (k : Nat) {b : Nat} {cs : List Value} (hk : L[k]? = some (some b, cs)) (xs : List Int) (hx : cs = twice xs) (n : Nat) (hn : n = xs.length) (h1 : 0 < n) (h2 : n < 9223372036854775807) {Q : Bool → Heap → Prop} (q : Q true h) : F_law0_all ⟨some (pt b 0), n, n⟩ h Q := by
  subst hx hn
  unfold F_law0_all F_law0_all_of
  simp only [jn]
  unfold F_law0_all.l1
  refine wl1 (k := .int .i64) (fun (m : Nat) (i : Int) (h' : Heap) => h' = h ∧ 0 ≤ i ∧ i + (m : Int) = (xs.length : Int)) ?_ (m := xs.length) ⟨rfl, by simp, by simp⟩
  intro m i h' next hnext ⟨e, hi, hm⟩
  subst e
  dsimp only
  rw [brr_dec]
  split
  · rename_i hlt
    obtain ⟨x, r, hx⟩ := twice_drop xs i.toNat (by omega)
    refine ⟨pt b 0, rfl, hi, hlt, ?_⟩
    simp only [pt_add, Nat.zero_add, Nat.add_zero]
    refine O.ld k hk ?_
    rw [hx]
    refine ⟨_, rfl, ?_⟩
    refine ⟨pt b 0, rfl, hi, hlt, ?_⟩
    simp only [pt_add, Nat.zero_add, Nat.add_zero]
    refine O.ld k hk ?_
    rw [← List.drop_drop, hx]
    refine ⟨_, rfl, ?_⟩
    simp only [ldL, bne_self_eq_false, brr_false]
    rw [wrap64 (by omega) (by omega)]
    exact hnext (m - 1) _ _ (by omega) ⟨rfl, by omega, by omega⟩
  · rw [brr_dec, if_pos (by omega)]
    exact q
def errs : List Int := [0, 10, 11, 12, 13, 14, 20, 21, 22, 23, 30, 40, 41, 42, 43, 44, 45, 46, 50, 51, 52, 60, 70, 80, 81, 82, 83, 120, 150, 151, 160, 161, 162, 170, 171, 180, 300, 301, 302, 303, 304, 305, 306, 307]
theorem errors_eq (h : Heap) (Q : Sl → Heap → Prop) : F_law0_errors1 h Q = al 98 (twice errs) h fun a h' => Q ⟨some a, 44, 44⟩ h' := by kernel_rfl
theorem errors_main (h : Heap) : E_law0_ApiErrors [] h (fun r h' => r = .bool true ∧ KeptH h h') := by
  refine Eq.mpr (E_law0_ApiErrors.nil F_law0_ApiErrors h _) ?_
  rw [F_law0_ApiErrors.eq_1, F_law0_ApiErrors_of.eq_1, errors_eq]
  refine al_own (Own.none h) fun b h1 O => ?_
  refine F_law0_all.is O 0 rfl errs rfl 44 rfl (by omega) (by omega) ?_
  exact ⟨rfl, O.kept⟩
end Go.Proofs.Ytboidjampddfoaa.V
