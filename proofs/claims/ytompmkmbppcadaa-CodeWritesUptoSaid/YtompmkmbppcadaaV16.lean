/-
  SMALL RULES: branches, joins, numbers; and the last step of a law.
-/
import Derived.Test.YtompmkmbppcadaaV15
namespace Go.Proofs.Ytompmkmbppcadaa.V
open Go Go.RowKit
set_option linter.unusedVariables false
set_option linter.unusedSimpArgs false

theorem brr_p {p : Prop} [Decidable p] {A B : Prop} (h1 : p → A) (h2 : ¬ p → B) : brr (decide p) A B := by
  rw [brr_dec]; split
  · rename_i h; exact h1 h
  · rename_i h; exact h2 h
theorem brr_eq {a b : Int} {A B : Prop} (h1 : a = b → A) (h2 : a ≠ b → B) : brr (a == b) A B := by
  by_cases h : a = b
  · rw [show (a == b) = true by simpa using h]; exact h1 h
  · rw [show (a == b) = false by simpa using h]; exact h2 h
theorem brr_ne {a b : Int} {A B : Prop} (h1 : a ≠ b → A) (h2 : a = b → B) : brr (a != b) A B := by
  by_cases h : a = b
  · rw [show (a != b) = false by simpa using h]; exact h2 h
  · rw [show (a != b) = true by simpa using h]; exact h1 h
theorem brr_not {b : Bool} {A B : Prop} (h : brr b B A) : brr (!b) A B := by cases b <;> exact h
theorem brr_of {b : Bool} {A B : Prop} (h1 : b = true → A) (h2 : b = false → B) : brr b A B := by cases b; exact h2 rfl; exact h1 rfl
theorem brr_tt {b : Bool} {A B : Prop} (e : b = true) (h : A) : brr b A B := by subst e; exact h
theorem brr_ff {b : Bool} {A B : Prop} (e : b = false) (h : B) : brr b A B := by subst e; exact h
theorem ldL_n {vs : List Value} {K : Prop} (h : K) : ldL [] vs K := by cases vs <;> exact h
theorem ldL_c {k : Kd} {ks : List Kd} {x : k.T} {vs : List Value} {K : k.T → Fn ks Prop} (h : ldL ks vs (K x)) : ldL (k :: ks) (k.enc x :: vs) K := ⟨x, rfl, h⟩
/-! ways meet: what holds there -/
theorem jn0 {rest : Heap → Prop} {body : (Heap → Prop) → Prop} (C : Heap → Prop) (h1 : ∀ h, C h → rest h) (h2 : ∀ j : Heap → Prop, (∀ h, C h → j h) → body j) : jn [] rest body := h2 rest h1
theorem jn1 {i : Nat} {k : Kd} {rest : k.T → Heap → Prop} {body : (k.T → Heap → Prop) → Prop} (C : k.T → Heap → Prop) (h1 : ∀ x h, C x h → rest x h) (h2 : ∀ j : k.T → Heap → Prop, (∀ x h, C x h → j x h) → body j) : jn [(i, .one k)] rest body := h2 rest h1
theorem jn2 {i i2 : Nat} {k k2 : Kd} {rest : k.T → k2.T → Heap → Prop} {body : (k.T → k2.T → Heap → Prop) → Prop} (C : k.T → k2.T → Heap → Prop) (h1 : ∀ x y h, C x y h → rest x y h) (h2 : ∀ j : k.T → k2.T → Heap → Prop, (∀ x y h, C x y h → j x y h) → body j) : jn [(i, .one k), (i2, .one k2)] rest body := h2 rest h1
/-! more loops and joins -/
theorem wl5 {i1 i2 i3 i4 i5 : Nat} {k1 k2 k3 k4 k5 : Kd} {B : (k1.T → k2.T → k3.T → k4.T → k5.T → Heap → Prop) → k1.T → k2.T → k3.T → k4.T → k5.T → Heap → Prop} (I : Nat → k1.T → k2.T → k3.T → k4.T → k5.T → Heap → Prop)
    (step : ∀ m x1 x2 x3 x4 x5 h (next : k1.T → k2.T → k3.T → k4.T → k5.T → Heap → Prop), (∀ m' x1' x2' x3' x4' x5' h', m' < m → I m' x1' x2' x3' x4' x5' h' → next x1' x2' x3' x4' x5' h') → I m x1 x2 x3 x4 x5 h → B next x1 x2 x3 x4 x5 h) {m : Nat} {x1 : k1.T} {x2 : k2.T} {x3 : k3.T} {x4 : k4.T} {x5 : k5.T} {h : Heap} (hI : I m x1 x2 x3 x4 x5 h) : wl [(i1, .one k1), (i2, .one k2), (i3, .one k3), (i4, .one k4), (i5, .one k5)] B x1 x2 x3 x4 x5 h := by
  have key : ∀ n x1 x2 x3 x4 x5 h, (∃ m, m < n ∧ I m x1 x2 x3 x4 x5 h) → wit [(i1, .one k1), (i2, .one k2), (i3, .one k3), (i4, .one k4), (i5, .one k5)] B n x1 x2 x3 x4 x5 h := by
    intro n
    induction n with
    | zero => intro x1 x2 x3 x4 x5 h ⟨m, hm, _⟩; omega
    | succ n ih => intro x1 x2 x3 x4 x5 h ⟨m, hm, hI⟩; exact step m x1 x2 x3 x4 x5 h _ (fun m' x1' x2' x3' x4' x5' h' hm' hI' => ih x1' x2' x3' x4' x5' h' ⟨m', by omega, hI'⟩) hI
  exact ⟨m + 1, key (m + 1) x1 x2 x3 x4 x5 h ⟨m, by omega, hI⟩⟩
theorem wl6 {i1 i2 i3 i4 i5 i6 : Nat} {k1 k2 k3 k4 k5 k6 : Kd} {B : (k1.T → k2.T → k3.T → k4.T → k5.T → k6.T → Heap → Prop) → k1.T → k2.T → k3.T → k4.T → k5.T → k6.T → Heap → Prop} (I : Nat → k1.T → k2.T → k3.T → k4.T → k5.T → k6.T → Heap → Prop)
    (step : ∀ m x1 x2 x3 x4 x5 x6 h (next : k1.T → k2.T → k3.T → k4.T → k5.T → k6.T → Heap → Prop), (∀ m' x1' x2' x3' x4' x5' x6' h', m' < m → I m' x1' x2' x3' x4' x5' x6' h' → next x1' x2' x3' x4' x5' x6' h') → I m x1 x2 x3 x4 x5 x6 h → B next x1 x2 x3 x4 x5 x6 h) {m : Nat} {x1 : k1.T} {x2 : k2.T} {x3 : k3.T} {x4 : k4.T} {x5 : k5.T} {x6 : k6.T} {h : Heap} (hI : I m x1 x2 x3 x4 x5 x6 h) : wl [(i1, .one k1), (i2, .one k2), (i3, .one k3), (i4, .one k4), (i5, .one k5), (i6, .one k6)] B x1 x2 x3 x4 x5 x6 h := by
  have key : ∀ n x1 x2 x3 x4 x5 x6 h, (∃ m, m < n ∧ I m x1 x2 x3 x4 x5 x6 h) → wit [(i1, .one k1), (i2, .one k2), (i3, .one k3), (i4, .one k4), (i5, .one k5), (i6, .one k6)] B n x1 x2 x3 x4 x5 x6 h := by
    intro n
    induction n with
    | zero => intro x1 x2 x3 x4 x5 x6 h ⟨m, hm, _⟩; omega
    | succ n ih => intro x1 x2 x3 x4 x5 x6 h ⟨m, hm, hI⟩; exact step m x1 x2 x3 x4 x5 x6 h _ (fun m' x1' x2' x3' x4' x5' x6' h' hm' hI' => ih x1' x2' x3' x4' x5' x6' h' ⟨m', by omega, hI'⟩) hI
  exact ⟨m + 1, key (m + 1) x1 x2 x3 x4 x5 x6 h ⟨m, by omega, hI⟩⟩
theorem wl7 {i1 i2 i3 i4 i5 i6 i7 : Nat} {k1 k2 k3 k4 k5 k6 k7 : Kd} {B : (k1.T → k2.T → k3.T → k4.T → k5.T → k6.T → k7.T → Heap → Prop) → k1.T → k2.T → k3.T → k4.T → k5.T → k6.T → k7.T → Heap → Prop} (I : Nat → k1.T → k2.T → k3.T → k4.T → k5.T → k6.T → k7.T → Heap → Prop)
    (step : ∀ m x1 x2 x3 x4 x5 x6 x7 h (next : k1.T → k2.T → k3.T → k4.T → k5.T → k6.T → k7.T → Heap → Prop), (∀ m' x1' x2' x3' x4' x5' x6' x7' h', m' < m → I m' x1' x2' x3' x4' x5' x6' x7' h' → next x1' x2' x3' x4' x5' x6' x7' h') → I m x1 x2 x3 x4 x5 x6 x7 h → B next x1 x2 x3 x4 x5 x6 x7 h) {m : Nat} {x1 : k1.T} {x2 : k2.T} {x3 : k3.T} {x4 : k4.T} {x5 : k5.T} {x6 : k6.T} {x7 : k7.T} {h : Heap} (hI : I m x1 x2 x3 x4 x5 x6 x7 h) : wl [(i1, .one k1), (i2, .one k2), (i3, .one k3), (i4, .one k4), (i5, .one k5), (i6, .one k6), (i7, .one k7)] B x1 x2 x3 x4 x5 x6 x7 h := by
  have key : ∀ n x1 x2 x3 x4 x5 x6 x7 h, (∃ m, m < n ∧ I m x1 x2 x3 x4 x5 x6 x7 h) → wit [(i1, .one k1), (i2, .one k2), (i3, .one k3), (i4, .one k4), (i5, .one k5), (i6, .one k6), (i7, .one k7)] B n x1 x2 x3 x4 x5 x6 x7 h := by
    intro n
    induction n with
    | zero => intro x1 x2 x3 x4 x5 x6 x7 h ⟨m, hm, _⟩; omega
    | succ n ih => intro x1 x2 x3 x4 x5 x6 x7 h ⟨m, hm, hI⟩; exact step m x1 x2 x3 x4 x5 x6 x7 h _ (fun m' x1' x2' x3' x4' x5' x6' x7' h' hm' hI' => ih x1' x2' x3' x4' x5' x6' x7' h' ⟨m', by omega, hI'⟩) hI
  exact ⟨m + 1, key (m + 1) x1 x2 x3 x4 x5 x6 x7 h ⟨m, by omega, hI⟩⟩
theorem wl8 {i1 i2 i3 i4 i5 i6 i7 i8 : Nat} {k1 k2 k3 k4 k5 k6 k7 k8 : Kd} {B : (k1.T → k2.T → k3.T → k4.T → k5.T → k6.T → k7.T → k8.T → Heap → Prop) → k1.T → k2.T → k3.T → k4.T → k5.T → k6.T → k7.T → k8.T → Heap → Prop} (I : Nat → k1.T → k2.T → k3.T → k4.T → k5.T → k6.T → k7.T → k8.T → Heap → Prop)
    (step : ∀ m x1 x2 x3 x4 x5 x6 x7 x8 h (next : k1.T → k2.T → k3.T → k4.T → k5.T → k6.T → k7.T → k8.T → Heap → Prop), (∀ m' x1' x2' x3' x4' x5' x6' x7' x8' h', m' < m → I m' x1' x2' x3' x4' x5' x6' x7' x8' h' → next x1' x2' x3' x4' x5' x6' x7' x8' h') → I m x1 x2 x3 x4 x5 x6 x7 x8 h → B next x1 x2 x3 x4 x5 x6 x7 x8 h) {m : Nat} {x1 : k1.T} {x2 : k2.T} {x3 : k3.T} {x4 : k4.T} {x5 : k5.T} {x6 : k6.T} {x7 : k7.T} {x8 : k8.T} {h : Heap} (hI : I m x1 x2 x3 x4 x5 x6 x7 x8 h) : wl [(i1, .one k1), (i2, .one k2), (i3, .one k3), (i4, .one k4), (i5, .one k5), (i6, .one k6), (i7, .one k7), (i8, .one k8)] B x1 x2 x3 x4 x5 x6 x7 x8 h := by
  have key : ∀ n x1 x2 x3 x4 x5 x6 x7 x8 h, (∃ m, m < n ∧ I m x1 x2 x3 x4 x5 x6 x7 x8 h) → wit [(i1, .one k1), (i2, .one k2), (i3, .one k3), (i4, .one k4), (i5, .one k5), (i6, .one k6), (i7, .one k7), (i8, .one k8)] B n x1 x2 x3 x4 x5 x6 x7 x8 h := by
    intro n
    induction n with
    | zero => intro x1 x2 x3 x4 x5 x6 x7 x8 h ⟨m, hm, _⟩; omega
    | succ n ih => intro x1 x2 x3 x4 x5 x6 x7 x8 h ⟨m, hm, hI⟩; exact step m x1 x2 x3 x4 x5 x6 x7 x8 h _ (fun m' x1' x2' x3' x4' x5' x6' x7' x8' h' hm' hI' => ih x1' x2' x3' x4' x5' x6' x7' x8' h' ⟨m', by omega, hI'⟩) hI
  exact ⟨m + 1, key (m + 1) x1 x2 x3 x4 x5 x6 x7 x8 h ⟨m, by omega, hI⟩⟩
theorem jn3 {i1 i2 i3 : Nat} {k1 k2 k3 : Kd} {rest : k1.T → k2.T → k3.T → Heap → Prop} {body : (k1.T → k2.T → k3.T → Heap → Prop) → Prop} (C : k1.T → k2.T → k3.T → Heap → Prop) (h1 : ∀ x1 x2 x3 h, C x1 x2 x3 h → rest x1 x2 x3 h) (h2 : ∀ j : k1.T → k2.T → k3.T → Heap → Prop, (∀ x1 x2 x3 h, C x1 x2 x3 h → j x1 x2 x3 h) → body j) : jn [(i1, .one k1), (i2, .one k2), (i3, .one k3)] rest body := h2 rest h1
theorem jn4 {i1 i2 i3 i4 : Nat} {k1 k2 k3 k4 : Kd} {rest : k1.T → k2.T → k3.T → k4.T → Heap → Prop} {body : (k1.T → k2.T → k3.T → k4.T → Heap → Prop) → Prop} (C : k1.T → k2.T → k3.T → k4.T → Heap → Prop) (h1 : ∀ x1 x2 x3 x4 h, C x1 x2 x3 x4 h → rest x1 x2 x3 x4 h) (h2 : ∀ j : k1.T → k2.T → k3.T → k4.T → Heap → Prop, (∀ x1 x2 x3 x4 h, C x1 x2 x3 x4 h → j x1 x2 x3 x4 h) → body j) : jn [(i1, .one k1), (i2, .one k2), (i3, .one k3), (i4, .one k4)] rest body := h2 rest h1
theorem jn5 {i1 i2 i3 i4 i5 : Nat} {k1 k2 k3 k4 k5 : Kd} {rest : k1.T → k2.T → k3.T → k4.T → k5.T → Heap → Prop} {body : (k1.T → k2.T → k3.T → k4.T → k5.T → Heap → Prop) → Prop} (C : k1.T → k2.T → k3.T → k4.T → k5.T → Heap → Prop) (h1 : ∀ x1 x2 x3 x4 x5 h, C x1 x2 x3 x4 x5 h → rest x1 x2 x3 x4 x5 h) (h2 : ∀ j : k1.T → k2.T → k3.T → k4.T → k5.T → Heap → Prop, (∀ x1 x2 x3 x4 x5 h, C x1 x2 x3 x4 x5 h → j x1 x2 x3 x4 x5 h) → body j) : jn [(i1, .one k1), (i2, .one k2), (i3, .one k3), (i4, .one k4), (i5, .one k5)] rest body := h2 rest h1
theorem jn6 {i1 i2 i3 i4 i5 i6 : Nat} {k1 k2 k3 k4 k5 k6 : Kd} {rest : k1.T → k2.T → k3.T → k4.T → k5.T → k6.T → Heap → Prop} {body : (k1.T → k2.T → k3.T → k4.T → k5.T → k6.T → Heap → Prop) → Prop} (C : k1.T → k2.T → k3.T → k4.T → k5.T → k6.T → Heap → Prop) (h1 : ∀ x1 x2 x3 x4 x5 x6 h, C x1 x2 x3 x4 x5 x6 h → rest x1 x2 x3 x4 x5 x6 h) (h2 : ∀ j : k1.T → k2.T → k3.T → k4.T → k5.T → k6.T → Heap → Prop, (∀ x1 x2 x3 x4 x5 x6 h, C x1 x2 x3 x4 x5 x6 h → j x1 x2 x3 x4 x5 x6 h) → body j) : jn [(i1, .one k1), (i2, .one k2), (i3, .one k3), (i4, .one k4), (i5, .one k5), (i6, .one k6)] rest body := h2 rest h1
/-! numbers -/
theorem i64_min : IntKind.i64.min = -9223372036854775808 := by decide
theorem i64_max : IntKind.i64.max = 9223372036854775807 := by decide
theorem u64_min : IntKind.u64.min = 0 := by decide
theorem u64_max : IntKind.u64.max = 18446744073709551615 := by decide
theorem u32_min : IntKind.u32.min = 0 := by decide
theorem u32_max : IntKind.u32.max = 4294967295 := by decide
theorem u8_min : IntKind.u8.min = 0 := by decide
theorem u8_max : IntKind.u8.max = 255 := by decide
theorem tmod_fix {a c : Int} (hc : 0 < c) : (if a.tmod c < 0 then a.tmod c + c else a.tmod c) = a % c := by
  have h1 := Int.emod_nonneg a (show c ≠ 0 by omega)
  have h2 := Int.emod_lt_of_pos a hc
  have h3 := Int.tmod_eq_emod (a := a) (b := c)
  split at h3
  · rw [if_neg (by omega)]; omega
  · rw [if_pos (by omega)]; omega
theorem tmod_lt {a c : Int} (hc : 0 < c) : -c < a.tmod c ∧ a.tmod c < c := by
  have h1 := Int.emod_nonneg a (show c ≠ 0 by omega)
  have h2 := Int.emod_lt_of_pos a hc
  have h3 := Int.tmod_eq_emod (a := a) (b := c)
  by_cases h : c ∣ a
  · rw [if_pos (.inr h)] at h3
    omega
  · have : a % c ≠ 0 := fun e => h (Int.dvd_of_emod_eq_zero e)
    split at h3 <;> omega
theorem within_mod {n m : Int} (hm : 0 < m) : (n.tmod m + m).tmod m = n % m := by
  have h := tmod_lt (a := n) hm
  rw [Int.tmod_eq_emod_of_nonneg (by omega), Int.add_emod_right]
  have h3 := Int.tmod_eq_emod (a := n) (b := m)
  split at h3
  · rw [h3]; simp
  · rw [h3, Int.sub_emod, show ((m.natAbs : Nat) : Int) = m by omega]; simp
/-! a law's last step -/
theorem okv_agg {P : Program} {t : TypeId} {v : Value} (ha : aggT P t = some true) (h : okv P t v) : ∃ cs, v = .agg cs := by
  unfold aggT at ha
  unfold okv at h
  cases hu : P.underlying t with
  | none => simp [hu] at ha
  | some d =>
    rw [hu] at ha h
    cases d <;> first | exact h | simp at ha
end Go.Proofs.Ytompmkmbppcadaa.V
