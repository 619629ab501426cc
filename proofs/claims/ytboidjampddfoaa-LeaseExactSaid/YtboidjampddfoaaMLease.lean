/- The lease of the program and the document's: what each of their functions does to what it keeps. -/
import Derived.Test.YtboidjampddfoaaV16
import Derived.Test.YtboidjampddfoaaGleaseNew
import Derived.Test.YtboidjampddfoaaGleaseLeaseHeard
import Derived.Test.YtboidjampddfoaaGleaseLeaseRest
import Derived.Test.YtboidjampddfoaaGleaseLeaseBegun
import Derived.Test.YtboidjampddfoaaGleaseLeaseDone
import Derived.Test.YtboidjampddfoaaGleaseLeaseTick
import Derived.Test.YtboidjampddfoaaGleaseLeaseSeen
import Derived.Test.YtboidjampddfoaaGleaseLeasePatience
import Derived.Test.YtboidjampddfoaaGleaseLeaseLeft
import Derived.Test.YtboidjampddfoaaGleaseLeaseSpan
import Derived.Test.YtboidjampddfoaaGlaw11within
import Derived.Test.YtboidjampddfoaaGlaw11begun
namespace Go.Proofs.Ytboidjampddfoaa.V
open Go Go.RowKit
set_option linter.unusedVariables false
set_option linter.unusedSimpArgs false
/-- What a lease keeps. -/
structure LS where
  left : Int
  since : Int
  quiet : Int
  place : Int
  copies : Int
  most : Int
  patience : Int
  seen : Int
structure LS.Ok (l : LS) : Prop where
  left0 : 0 ≤ l.left
  left1 : l.left ≤ (9223372036854775807 : Int)
  since0 : 0 ≤ l.since
  since1 : l.since ≤ (9223372036854775807 : Int)
  quiet0 : 0 ≤ l.quiet
  quiet1 : l.quiet ≤ (9223372036854775807 : Int)
  place0 : 0 ≤ l.place
  place1 : l.place < l.copies
  copies1 : l.copies ≤ (9223372036854775807 : Int)
  most0 : 4 ≤ l.most
  most1 : l.most ≤ (9223372036854775807 : Int)
  pat0 : 4 ≤ l.patience
  pat1 : l.patience ≤ l.most
  seen0 : 0 ≤ l.seen
  seen1 : l.seen < 18446744073709551616
def LS.new (place copies most seen : Int) : LS :=
  let c := if 1 > copies then 1 else copies
  let p := place % c
  ⟨if p < 9223372036854775803 then 4 + p else (9223372036854775807 : Int), 0, 0, p, c, if 4 > most then 4 else most, 4, seen⟩
def LS.heard (l : LS) (e : Int) (prepare taken : Bool) : LS :=
  { l with left := if taken = true ∨ (prepare = true ∧ e ≥ l.seen) then l.patience else l.left, seen := if e > l.seen then e else l.seen }
def LS.rest (l : LS) : LS := { l with left := l.patience }
def LS.begun (l : LS) : LS := { l with since := 0 }
def LS.done (l : LS) : LS := { l with quiet := l.since }
def up (n : Int) : Int := if n < (9223372036854775807 : Int) then n + 1 else n
def LS.pass (l : LS) : LS := { l with since := up l.since, quiet := up l.quiet }
def LS.next (l : LS) : Int :=
  if l.seen ≥ (1099511627776 : Int) ∨ l.place > (1099511627776 : Int) then 0 else
    let at_ := l.seen % l.copies
    let step := if l.place ≤ at_ then l.copies - at_ + l.place else l.place - at_
    if step > (1099511627776 : Int) - l.seen then 0 else l.seen + step
def LS.begin (l : LS) : LS :=
  if l.next > 0 then { l with seen := l.next, patience := if 2 * l.patience > l.most then l.most else 2 * l.patience, left := if 2 * l.patience > l.most then l.most else 2 * l.patience }
  else { l with left := l.patience }
def LS.down (l : LS) : LS := { l with left := if l.left - 1 < 0 then 0 else l.left - 1 }
def LS.tick (l : LS) (phase : Int) (holds free : Bool) : LS :=
  if holds = true then l.pass else if phase = 0 then (if l.pass.down.left = 0 ∧ free = true then l.pass.down.begin else l.pass.down) else l.pass
def LS.tickE (l : LS) (phase : Int) (holds free : Bool) : Int :=
  if holds = true then 0 else if phase = 0 then (if l.pass.down.left = 0 ∧ free = true then l.pass.down.next else 0) else 0
def LS.tickB (l : LS) (phase : Int) (holds free : Bool) : Bool :=
  if holds = true then decide (l.pass.quiet ≥ l.patience) else false
theorem LS.new_ok {place copies most seen : Int} (c1 : copies ≤ (9223372036854775807 : Int)) (m1 : most ≤ (9223372036854775807 : Int)) (s0 : 0 ≤ seen) (s1 : seen < 18446744073709551616) : (LS.new place copies most seen).Ok := by
  unfold LS.new
  have h0 : (0 : Int) < (if 1 > copies then 1 else copies) := by split <;> omega
  have h3 : (if 1 > copies then 1 else copies) ≤ (9223372036854775807 : Int) := by split <;> omega
  generalize (if 1 > copies then 1 else copies) = C at *
  have h1 := Int.emod_nonneg place (show C ≠ 0 by omega)
  have h2 := Int.emod_lt_of_pos place h0
  simp only
  generalize place % C = p at *
  constructor <;> simp only <;> (try split) <;> omega
theorem up_le {n : Int} (h : n ≤ (9223372036854775807 : Int)) : up n ≤ (9223372036854775807 : Int) := by unfold up; split <;> omega
theorem up_nn {n : Int} (h : 0 ≤ n) : 0 ≤ up n := by unfold up; split <;> omega
theorem LS.Ok.heard {l : LS} (o : l.Ok) {e : Int} {a b : Bool} (h0 : 0 ≤ e) (h1 : e < 18446744073709551616) : (l.heard e a b).Ok := by
  unfold LS.heard
  cases o
  constructor <;> simp only <;> (try split) <;> omega
theorem LS.Ok.rest {l : LS} (o : l.Ok) : l.rest.Ok := by
  unfold LS.rest
  cases o
  constructor <;> simp only <;> omega
theorem LS.Ok.begun {l : LS} (o : l.Ok) : l.begun.Ok := by
  unfold LS.begun
  cases o
  constructor <;> simp only <;> omega
theorem LS.Ok.done {l : LS} (o : l.Ok) : l.done.Ok := by
  unfold LS.done
  cases o
  constructor <;> simp only <;> omega
theorem LS.Ok.pass {l : LS} (o : l.Ok) : l.pass.Ok := by
  unfold LS.pass
  have h1 := up_le o.since1; have h2 := up_nn o.since0; have h3 := up_le o.quiet1; have h4 := up_nn o.quiet0
  cases o
  constructor <;> simp only <;> omega
theorem LS.Ok.down {l : LS} (o : l.Ok) : l.down.Ok := by
  unfold LS.down
  cases o
  constructor <;> simp only <;> (try split) <;> omega
theorem LS.Ok.next {l : LS} (o : l.Ok) : 0 ≤ l.next ∧ (l.next = 0 ∨ (l.seen < l.next ∧ l.next ≤ (1099511627776 : Int) ∧ l.next ≤ l.seen + l.copies ∧ l.next % l.copies = l.place)) := by
  unfold LS.next
  cases o
  have hc : 0 < l.copies := by omega
  have h1 := Int.emod_nonneg l.seen (show l.copies ≠ 0 by omega)
  have h2 := Int.emod_lt_of_pos l.seen hc
  have h3 := Int.mul_ediv_add_emod l.seen l.copies
  split
  · simp
  · simp only
    split
    · rename_i h5
      split
      · simp
      · refine ⟨by omega, .inr ⟨by omega, by omega, by omega, ?_⟩⟩
        rw [show l.seen + (l.copies - l.seen % l.copies + l.place) = l.place + l.copies * (l.seen / l.copies + 1) by rw [Int.mul_add, Int.mul_one]; omega, Int.add_mul_emod_self_left]
        exact Int.emod_eq_of_lt (by omega) (by omega)
    · rename_i h5
      split
      · simp
      · refine ⟨by omega, .inr ⟨by omega, by omega, by omega, ?_⟩⟩
        rw [show l.seen + (l.place - l.seen % l.copies) = l.place + l.copies * (l.seen / l.copies) by omega, Int.add_mul_emod_self_left]
        exact Int.emod_eq_of_lt (by omega) (by omega)
theorem LS.Ok.begin {l : LS} (o : l.Ok) : l.begin.Ok := by
  unfold LS.begin
  have h := o.next
  cases o
  split
  · constructor <;> simp only <;> (try split) <;> omega
  · constructor <;> simp only <;> omega
theorem LS.Ok.tick {l : LS} (o : l.Ok) {ph : Int} {a b : Bool} : (l.tick ph a b).Ok := by
  unfold LS.tick
  split
  · exact o.pass
  · split
    · split
      · exact o.pass.down.begin
      · exact o.pass.down
    · exact o.pass
/-- A lease in memory. -/
def leaseC (l : LS) : List Value := [.int .i64 l.left, .int .i64 l.since, .int .i64 l.quiet, .int .u64 l.place, .int .u64 l.copies, .int .i64 l.most, .int .i64 l.patience, .int .u64 l.seen]
section
variable {h0 h : Heap} {L : List Res} {b : Nat} {l : LS}
theorem F_lease_New.is {p c m s : Int} {Q : Option Addr → Heap → Prop} (O : Sat h0 h L) (p0 : IntKind.i64.min ≤ p) (p1 : p ≤ IntKind.i64.max) (c1 : c ≤ IntKind.i64.max) (m1 : m ≤ IntKind.i64.max)
    (k : ∀ b h', Sat h0 h' (own b (leaseC (LS.new p c m s)) :: L) → Q (some (pt b 0)) h') : F_lease_New p c m s h Q := by
  rw [i64_min] at p0; rw [i64_max] at p1 c1 m1
  rw [F_lease_New.eq_1, F_lease_New_of.eq_1]
  have hc : (0 : Int) < (if 1 > c then 1 else c) := by split <;> omega
  have hc1 : (if 1 > c then 1 else c) ≤ (9223372036854775807 : Int) := by split <;> omega
  refine ⟨by omega, ?_⟩
  unfold LS.new at k
  simp only at k
  generalize (if (1 : Int) > c then 1 else c) = C at *
  have h1 := Int.emod_nonneg p (show C ≠ 0 by omega)
  have h2 := Int.emod_lt_of_pos p hc
  have hf := tmod_fix (a := p) hc
  have hl := tmod_lt (a := p) hc
  refine jn1 (fun x h' => x = p % C ∧ h' = h) ?_ ?_
  · rintro x h ⟨rfl, rfl⟩
    refine O.al fun b h O => ?_
    simp only [nn_some, pt_add, Nat.zero_add, Nat.add_zero, Nat.reduceAdd, Nat.reduceMul, Int.toNat_zero, Int.toNat_one, Nat.zero_mul, Nat.one_mul]
    refine O.st 0 rfl (by simp) rfl fun h O => ?_
    dsimp only [V.put, List.set] at O
    refine k b h ?_
    have e : IntKind.i64.wrap (4 + if 9223372036854775803 < p % C then 9223372036854775803 else p % C) = if p % C < 9223372036854775803 then 4 + p % C else (9223372036854775807 : Int) := by
      rw [wrap64 (by split <;> omega) (by split <;> omega)]
      split <;> split <;> omega
    rw [e, wrapu64 h1 (by omega), wrapu64 (by omega) (by omega)] at O
    exact O
  · intro j hj
    refine brr_p (fun hlt => ?_) (fun hlt => ?_)
    · rw [if_pos hlt] at hf
      rw [wrap64 (by omega) (by omega)]
      exact hj _ _ ⟨hf, rfl⟩
    · rw [if_neg hlt] at hf
      exact hj _ _ ⟨hf, rfl⟩
theorem F_lease_Lease_Heard.is {e : Int} {x y : Bool} {Q : Heap → Prop} (O : Sat h0 h (own b (leaseC l) :: L)) (k : ∀ h', Sat h0 h' (own b (leaseC (l.heard e x y)) :: L) → Q h') : F_lease_Lease_Heard (some (pt b 0)) e x y h Q := by
  rw [F_lease_Lease_Heard.eq_1, F_lease_Lease_Heard_of.eq_1]
  simp only [nn_some, pt_add, Nat.zero_add, Nat.add_zero, Nat.reduceAdd, Nat.reduceMul, Int.toNat_zero, Int.toNat_one, Nat.zero_mul, Nat.one_mul]
  unfold leaseC at O
  refine jn1 (fun t h' => h' = h ∧ (t = true ↔ (y = true ∨ (x = true ∧ e ≥ l.seen)))) ?_ ?_
  · rintro t h ⟨rfl, ht⟩
    unfold LS.heard at k
    refine jn0 (fun h' => Sat h0 h' (own b (leaseC { l with left := if y = true ∨ (x = true ∧ e ≥ l.seen) then l.patience else l.left }) :: L)) ?_ ?_
    · intro h O
      unfold leaseC at O
      refine O.ld 0 rfl (ldL_c (ldL_n ?_))
      refine O.st 0 rfl (by simp) rfl fun h O => ?_
      dsimp only [V.put, List.set] at O
      exact k _ O
    · intro j hj
      refine brr_of (fun ht' => ?_) (fun ht' => ?_)
      · refine O.ld 0 rfl (ldL_c (ldL_n ?_))
        refine O.st 0 rfl (by simp) rfl fun h O => ?_
        dsimp only [V.put, List.set] at O
        refine hj _ ?_
        rw [if_pos (ht.1 ht')]
        exact O
      · refine hj _ ?_
        rw [if_neg (by intro hc; rw [ht.2 hc] at ht'; cases ht')]
        exact O
  · intro j hj
    refine brr_of (fun hy => ?_) (fun hy => ?_)
    · exact hj _ _ ⟨rfl, by simp [hy]⟩
    · refine brr_of (fun hx => ?_) (fun hx => ?_)
      · refine O.ld 0 rfl (ldL_c (ldL_n ?_))
        exact hj _ _ ⟨rfl, by simp [hy, hx]⟩
      · exact hj _ _ ⟨rfl, by simp [hy, hx]⟩
theorem F_lease_Lease_Rest.is {Q : Heap → Prop} (O : Sat h0 h (own b (leaseC l) :: L)) (k : ∀ h', Sat h0 h' (own b (leaseC l.rest) :: L) → Q h') : F_lease_Lease_Rest (some (pt b 0)) h Q := by
  rw [F_lease_Lease_Rest.eq_1, F_lease_Lease_Rest_of.eq_1]
  simp only [nn_some, pt_add, Nat.zero_add, Nat.add_zero, Nat.reduceAdd, Nat.reduceMul, Int.toNat_zero, Int.toNat_one, Nat.zero_mul, Nat.one_mul]
  unfold leaseC at O
  refine O.ld 0 rfl (ldL_c (ldL_n ?_))
  refine O.st 0 rfl (by simp) rfl fun h O => ?_
  dsimp only [V.put, List.set] at O
  exact k _ O
theorem F_lease_Lease_Begun.is {Q : Heap → Prop} (O : Sat h0 h (own b (leaseC l) :: L)) (k : ∀ h', Sat h0 h' (own b (leaseC l.begun) :: L) → Q h') : F_lease_Lease_Begun (some (pt b 0)) h Q := by
  rw [F_lease_Lease_Begun.eq_1, F_lease_Lease_Begun_of.eq_1]
  simp only [nn_some, pt_add, Nat.zero_add, Nat.add_zero, Nat.reduceAdd, Nat.reduceMul, Int.toNat_zero, Int.toNat_one, Nat.zero_mul, Nat.one_mul]
  unfold leaseC at O
  refine O.st 0 rfl (by simp) rfl fun h O => ?_
  dsimp only [V.put, List.set] at O
  exact k _ O
theorem F_lease_Lease_Done.is {Q : Heap → Prop} (O : Sat h0 h (own b (leaseC l) :: L)) (k : ∀ h', Sat h0 h' (own b (leaseC l.done) :: L) → Q h') : F_lease_Lease_Done (some (pt b 0)) h Q := by
  rw [F_lease_Lease_Done.eq_1, F_lease_Lease_Done_of.eq_1]
  simp only [nn_some, pt_add, Nat.zero_add, Nat.add_zero, Nat.reduceAdd, Nat.reduceMul, Int.toNat_zero, Int.toNat_one, Nat.zero_mul, Nat.one_mul]
  unfold leaseC at O
  refine O.ld 0 rfl (ldL_c (ldL_n ?_))
  refine O.st 0 rfl (by simp) rfl fun h O => ?_
  dsimp only [V.put, List.set] at O
  exact k _ O
theorem up_wrap {n : Int} (h1 : 0 ≤ n) (h2 : n ≤ (9223372036854775807 : Int)) : IntKind.i64.wrap (n + (if (IntKind.i64.wrap (9223372036854775807 - n)) < 1 then (IntKind.i64.wrap (9223372036854775807 - n)) else 1)) = up n := by
  unfold up
  rw [wrap64 (x := 9223372036854775807 - n) (by omega) (by omega), wrap64 (by split <;> omega) (by split <;> omega)]
  split <;> split <;> omega
theorem F_lease_clock_pass.is {Q : Heap → Prop} (o : l.Ok) (O : Sat h0 h (own b (leaseC l) :: L)) (k : ∀ h', Sat h0 h' (own b (leaseC l.pass) :: L) → Q h') : F_lease_clock_pass (some (pt b 0)) h Q := by
  rw [F_lease_clock_pass.eq_1, F_lease_clock_pass_of.eq_1]
  simp only [nn_some, pt_add, Nat.zero_add, Nat.add_zero, Nat.reduceAdd, Nat.reduceMul, Int.toNat_zero, Int.toNat_one, Nat.zero_mul, Nat.one_mul]
  unfold leaseC at O
  refine O.ld 0 rfl (ldL_c (ldL_n ?_))
  refine O.ld 0 rfl (ldL_c (ldL_n ?_))
  rw [up_wrap o.since0 o.since1]
  refine O.st 0 rfl (by simp) rfl fun h O => ?_
  dsimp only [V.put, List.set] at O
  refine O.ld 0 rfl (ldL_c (ldL_n ?_))
  refine O.ld 0 rfl (ldL_c (ldL_n ?_))
  rw [up_wrap o.quiet0 o.quiet1]
  refine O.st 0 rfl (by simp) rfl fun h O => ?_
  dsimp only [V.put, List.set] at O
  exact k _ O
theorem F_lease_Lease_next.is {Q : Int → Heap → Prop} (o : l.Ok) (O : Sat h0 h (own b (leaseC l) :: L)) (k : Q l.next h) : F_lease_Lease_next (some (pt b 0)) h Q := by
  rw [F_lease_Lease_next.eq_1, F_lease_Lease_next_of.eq_1]
  simp only [nn_some, pt_add, Nat.zero_add, Nat.add_zero, Nat.reduceAdd, Nat.reduceMul, Int.toNat_zero, Int.toNat_one, Nat.zero_mul, Nat.one_mul]
  unfold leaseC at O
  unfold LS.next at k
  have o' := o
  cases o
  have h1 := Int.emod_nonneg l.seen (show l.copies ≠ 0 by omega)
  have h2 := Int.emod_lt_of_pos l.seen (show 0 < l.copies by omega)
  refine jn1 (fun t h' => h' = h ∧ (t = true ↔ (l.seen ≥ (1099511627776 : Int) ∨ l.place > (1099511627776 : Int)))) ?_ ?_
  · rintro t h ⟨rfl, ht⟩
    refine brr_of (fun ht' => ?_) (fun ht' => ?_)
    · rw [if_pos (ht.1 ht')] at k; exact k
    · have hn : ¬ (l.seen ≥ (1099511627776 : Int) ∨ l.place > (1099511627776 : Int)) := fun hc => by rw [ht.2 hc] at ht'; cases ht'
      rw [if_neg hn] at k
      refine O.ld 0 rfl (ldL_c (ldL_n ?_))
      refine O.ld 0 rfl (ldL_c (ldL_n ?_))
      refine ⟨by omega, ?_⟩
      refine O.ld 0 rfl (ldL_c (ldL_n ?_))
      refine O.ld 0 rfl (ldL_c (ldL_n ?_))
      rw [Int.tmod_eq_emod_of_nonneg (by omega)]
      refine jn1 (fun t h' => h' = h ∧ t = if l.place ≤ l.seen % l.copies then l.copies - l.seen % l.copies + l.place else l.place - l.seen % l.copies) ?_ ?_
      · rintro t h ⟨rfl, rfl⟩
        simp only at k
        have hst : 0 ≤ (if l.place ≤ l.seen % l.copies then l.copies - l.seen % l.copies + l.place else l.place - l.seen % l.copies) := by split <;> omega
        generalize (if l.place ≤ l.seen % l.copies then l.copies - l.seen % l.copies + l.place else l.place - l.seen % l.copies) = st at *
        refine O.ld 0 rfl (ldL_c (ldL_n ?_))
        rw [wrapu64 (x := 1099511627776 - l.seen) (by omega) (by omega)]
        refine brr_p (fun hs => ?_) (fun hs => ?_)
        · rw [if_pos (by omega)] at k; exact k
        · rw [if_neg (by omega)] at k
          refine O.ld 0 rfl (ldL_c (ldL_n ?_))
          rw [wrapu64 (by omega) (by omega)]
          exact k
      · intro j hj
        refine brr_p (fun hs => ?_) (fun hs => ?_)
        · refine O.ld 0 rfl (ldL_c (ldL_n ?_))
          refine O.ld 0 rfl (ldL_c (ldL_n ?_))
          rw [wrapu64 (x := l.copies - l.seen % l.copies) (by omega) (by omega), wrapu64 (by omega) (by omega)]
          exact hj _ _ ⟨rfl, by rw [if_pos hs]⟩
        · rw [wrapu64 (by omega) (by omega)]
          exact hj _ _ ⟨rfl, by rw [if_neg hs]⟩
  · intro j hj
    refine O.ld 0 rfl (ldL_c (ldL_n ?_))
    refine brr_p (fun hx => ?_) (fun hx => ?_)
    · exact hj _ _ ⟨rfl, by simp; omega⟩
    · refine O.ld 0 rfl (ldL_c (ldL_n ?_))
      exact hj _ _ ⟨rfl, by simp; omega⟩
theorem F_lease_Lease_begin.is {Q : Int → Heap → Prop} (o : l.Ok) (O : Sat h0 h (own b (leaseC l) :: L)) (k : ∀ h', Sat h0 h' (own b (leaseC l.begin) :: L) → Q l.next h') : F_lease_Lease_begin (some (pt b 0)) h Q := by
  rw [F_lease_Lease_begin.eq_1, F_lease_Lease_begin_of.eq_1]
  refine F_lease_Lease_next.is o O ?_
  simp only [nn_some, pt_add, Nat.zero_add, Nat.add_zero, Nat.reduceAdd, Nat.reduceMul, Int.toNat_zero, Int.toNat_one, Nat.zero_mul, Nat.one_mul]
  have hn := o.next
  unfold LS.begin at k
  have ho := o
  cases o
  generalize l.next = n at *
  refine jn0 (fun h' => Sat h0 h' (own b (leaseC (if n > 0 then { l with seen := n, patience := if 2 * l.patience > l.most then l.most else 2 * l.patience } else l)) :: L)) ?_ ?_
  · intro h O
    by_cases hp : n > 0
    · rw [if_pos hp] at O k
      unfold leaseC at O
      refine O.ld 0 rfl (ldL_c (ldL_n ?_))
      refine O.st 0 rfl (by simp) rfl fun h O => ?_
      dsimp only [V.put, List.set] at O
      exact k _ O
    · rw [if_neg hp] at O k
      unfold leaseC at O
      refine O.ld 0 rfl (ldL_c (ldL_n ?_))
      refine O.st 0 rfl (by simp) rfl fun h O => ?_
      dsimp only [V.put, List.set] at O
      exact k _ O
  · intro j hj
    refine brr_p (fun hp => ?_) (fun hp => ?_)
    · unfold leaseC at O
      refine O.st 0 rfl (by simp) rfl fun h O => ?_
      dsimp only [V.put, List.set] at O
      refine O.ld 0 rfl (ldL_c (ldL_n ?_))
      refine O.ld 0 rfl (ldL_c (ldL_n ?_))
      refine O.ld 0 rfl (ldL_c (ldL_n ?_))
      refine O.ld 0 rfl (ldL_c (ldL_n ?_))
      have e : IntKind.i64.wrap (l.patience + (if (IntKind.i64.wrap (l.most - l.patience)) < l.patience then (IntKind.i64.wrap (l.most - l.patience)) else l.patience)) = if 2 * l.patience > l.most then l.most else 2 * l.patience := by
        rw [wrap64 (x := l.most - l.patience) (by omega) (by omega), wrap64 (by split <;> omega) (by split <;> omega)]
        split <;> split <;> omega
      rw [e]
      refine O.st 0 rfl (by simp) rfl fun h O => ?_
      dsimp only [V.put, List.set] at O
      refine hj _ ?_
      rw [if_pos hp]
      exact O
    · refine hj _ ?_
      rw [if_neg hp]
      exact O
theorem F_lease_Lease_Tick.is {ph : Int} {x y : Bool} {Q : Int → Bool → Heap → Prop} (o : l.Ok) (O : Sat h0 h (own b (leaseC l) :: L)) (k : ∀ h', Sat h0 h' (own b (leaseC (l.tick ph x y)) :: L) → Q (l.tickE ph x y) (l.tickB ph x y) h') : F_lease_Lease_Tick (some (pt b 0)) ph x y h Q := by
  rw [F_lease_Lease_Tick.eq_1, F_lease_Lease_Tick_of.eq_1]
  simp only [nn_some, pt_add, Nat.zero_add, Nat.add_zero, Nat.reduceAdd, Nat.reduceMul, Int.toNat_zero, Int.toNat_one, Nat.zero_mul, Nat.one_mul]
  refine F_lease_clock_pass.is o O fun h O => ?_
  unfold LS.tick LS.tickE LS.tickB at k
  have op := o.pass
  rw [show l.patience = l.pass.patience from rfl] at k
  generalize l.pass = l at *
  clear o
  refine jn2 (fun a c h' => Q a c h') (fun _ _ _ h => h) fun j hj => ?_
  refine brr_of (fun hx => ?_) (fun hx => ?_)
  · simp only [hx, if_true] at k
    have O' := O
    unfold leaseC at O
    refine O.ld 0 rfl (ldL_c (ldL_n ?_))
    refine O.ld 0 rfl (ldL_c (ldL_n ?_))
    exact hj _ _ _ (k _ O')
  · simp only [hx, Bool.false_eq_true, if_false] at k
    refine jn1 (fun a h' => Q a false h') (fun _ _ h => hj _ _ _ h) fun j hj => ?_
    refine brr_eq (fun hp => ?_) (fun hp => ?_)
    · simp only [hp, if_true] at k
      have e : (if (0 : Int) > IntKind.i64.wrap (l.left - 1) then 0 else IntKind.i64.wrap (l.left - 1)) = l.down.left := by
        have := op.left0; have := op.left1
        unfold LS.down
        rw [wrap64 (by omega) (by omega)]
      unfold leaseC at O
      refine O.ld 0 rfl (ldL_c (ldL_n ?_))
      rw [e]
      refine O.st 0 rfl (by simp) rfl fun h O => ?_
      dsimp only [V.put, List.set] at O
      replace O : Sat h0 h (own b (leaseC l.down) :: L) := O
      have od := op.down
      generalize l.down = l at *
      refine jn1 (fun t h' => h' = h ∧ (t = true ↔ (l.left = 0 ∧ y = true))) ?_ ?_
      · rintro t h ⟨rfl, ht⟩
        refine jn1 (fun a h' => Q a false h') (fun _ _ h => hj _ _ h) fun j hj => ?_
        refine brr_of (fun ht' => ?_) (fun ht' => ?_)
        · simp only [if_pos (ht.1 ht')] at k
          refine F_lease_Lease_begin.is od O fun h O => ?_
          exact hj _ _ (k _ O)
        · have hn : ¬ (l.left = 0 ∧ y = true) := fun hc => by rw [ht.2 hc] at ht'; cases ht'
          simp only [if_neg hn] at k
          exact hj _ _ (k _ O)
      · intro j hj
        unfold leaseC at O
        refine O.ld 0 rfl (ldL_c (ldL_n ?_))
        refine brr_eq (fun hl => ?_) (fun hl => ?_)
        · exact hj _ _ ⟨rfl, by simp [hl]⟩
        · exact hj _ _ ⟨rfl, by simp [hl]⟩
    · simp only [if_neg hp] at k
      exact hj _ _ (k _ O)
theorem F_lease_Lease_Seen.is {Q : Int → Heap → Prop} (O : Sat h0 h (own b (leaseC l) :: L)) (k : Q l.seen h) : F_lease_Lease_Seen (some (pt b 0)) h Q := by
  rw [F_lease_Lease_Seen.eq_1, F_lease_Lease_Seen_of.eq_1]
  simp only [nn_some, pt_add, Nat.zero_add, Nat.add_zero, Nat.reduceAdd, Nat.reduceMul, Int.toNat_zero, Int.toNat_one, Nat.zero_mul, Nat.one_mul]
  unfold leaseC at O
  refine O.ld 0 rfl (ldL_c (ldL_n ?_))
  exact k
theorem F_lease_Lease_Patience.is {Q : Int → Heap → Prop} (O : Sat h0 h (own b (leaseC l) :: L)) (k : Q l.patience h) : F_lease_Lease_Patience (some (pt b 0)) h Q := by
  rw [F_lease_Lease_Patience.eq_1, F_lease_Lease_Patience_of.eq_1]
  simp only [nn_some, pt_add, Nat.zero_add, Nat.add_zero, Nat.reduceAdd, Nat.reduceMul, Int.toNat_zero, Int.toNat_one, Nat.zero_mul, Nat.one_mul]
  unfold leaseC at O
  refine O.ld 0 rfl (ldL_c (ldL_n ?_))
  exact k
theorem F_lease_Lease_Left.is {Q : Int → Heap → Prop} (O : Sat h0 h (own b (leaseC l) :: L)) (k : Q l.left h) : F_lease_Lease_Left (some (pt b 0)) h Q := by
  rw [F_lease_Lease_Left.eq_1, F_lease_Lease_Left_of.eq_1]
  simp only [nn_some, pt_add, Nat.zero_add, Nat.add_zero, Nat.reduceAdd, Nat.reduceMul, Int.toNat_zero, Int.toNat_one, Nat.zero_mul, Nat.one_mul]
  unfold leaseC at O
  refine O.ld 0 rfl (ldL_c (ldL_n ?_))
  exact k
theorem F_lease_Lease_Span.is {Q : Int → Heap → Prop} (o : l.Ok) (O : Sat h0 h (own b (leaseC l) :: L)) (k : Q (up l.patience) h) : F_lease_Lease_Span (some (pt b 0)) h Q := by
  rw [F_lease_Lease_Span.eq_1, F_lease_Lease_Span_of.eq_1]
  simp only [nn_some, pt_add, Nat.zero_add, Nat.add_zero, Nat.reduceAdd, Nat.reduceMul, Int.toNat_zero, Int.toNat_one, Nat.zero_mul, Nat.one_mul]
  unfold leaseC at O
  refine O.ld 0 rfl (ldL_c (ldL_n ?_))
  refine O.ld 0 rfl (ldL_c (ldL_n ?_))
  rw [up_wrap (by have := o.pat0; omega) (by have := o.pat1; have := o.most1; omega)]
  exact k
theorem F_law11_within.is {n m : Int} {Q : Int → Heap → Prop} (hm : 0 < m) (hm2 : m < 4611686018427387904) (k : Q (n % m) h) : F_law11_within n m h Q := by
  rw [F_law11_within.eq_1, F_law11_within_of.eq_1]
  have := tmod_lt (a := n) hm
  rw [wrap64 (by omega) (by omega), within_mod hm]
  exact ⟨by omega, by omega, k⟩
/-- The lease of place 1 among 3 at each tick. -/
theorem F_law11_begun.is {Q : Bool → Heap → Prop} (O : Sat h0 h L) (k : ∀ h', Sat h0 h' L → Q true h') : F_law11_begun h Q := by
  rw [F_law11_begun.eq_1, F_law11_begun_of.eq_1]
  refine F_lease_New.is O (by decide) (by decide) (by decide) (by decide) fun b h O => ?_
  have o : (LS.new 1 3 10 0).Ok := LS.new_ok (by decide) (by decide) (by decide) (by decide)
  rw [show LS.new 1 3 10 0 = ⟨5 - 0, 0, 0, 1, 3, 10, 4, 0⟩ from rfl] at o O
  refine jn1 (fun t h' => h' = h ∧ t = false) ?_ ?_
  · rintro t h ⟨rfl, rfl⟩
    refine brr_ff rfl ?_
    refine jn0 (fun h' => Sat h0 h' (own b (leaseC ⟨1, 4, 4, 1, 3, 10, 4, 0⟩) :: L)) ?_ ?_
    · intro h O
      refine F_lease_Lease_Tick.is ⟨by decide, by decide, by decide, by decide, by decide, by decide, by decide, by decide, by decide, by decide, by decide, by decide, by decide, by decide, by decide⟩ O fun h O => ?_
      refine jn1 (fun t h' => t = true ∧ Sat h0 h' L) ?_ ?_
      · rintro t h ⟨rfl, O⟩
        exact k _ O
      · intro j hj
        refine brr_tt (by decide) ?_
        refine F_lease_Lease_Patience.is O ?_
        refine brr_tt (by decide) ?_
        refine F_lease_Lease_Seen.is O ?_
        exact hj _ _ ⟨by decide, O.drop⟩
    · intro j hj
      rw [F_law11_begun.l1.eq_1]
      refine wl1 (k := .int .i64) (fun (m : Nat) (i : Int) (h' : Heap) => i + m = 4 ∧ 0 ≤ i ∧ Sat h0 h' (own b (leaseC ⟨5 - i, i, i, 1, 3, 10, 4, 0⟩) :: L)) ?_ (m := 4) ⟨rfl, by omega, O⟩
      intro m (i : Int) h next hn ⟨e, hi, O⟩
      refine brr_p (fun hl => ?_) (fun hl => ?_)
      · have hi4 : i = 0 ∨ i = 1 ∨ i = 2 ∨ i = 3 := by omega
        have oi : (⟨5 - i, i, i, 1, 3, 10, 4, 0⟩ : LS).Ok := by constructor <;> simp only <;> omega
        refine F_lease_Lease_Tick.is oi O fun h O => ?_
        refine jn1 (fun t h' => t = false ∧ Sat h0 h' (own b (leaseC ⟨5 - (i + 1), i + 1, i + 1, 1, 3, 10, 4, 0⟩) :: L)) ?_ ?_
        · rintro t h ⟨rfl, O⟩
          refine brr_ff rfl ?_
          rw [wrap64 (by omega) (by omega)]
          exact hn (m - 1) _ _ (by omega) ⟨by omega, by omega, O⟩
        · intro j hj
          rcases hi4 with rfl | rfl | rfl | rfl <;> exact brr_ff (by decide) (hj _ _ ⟨by decide, O⟩)
      · have : i = 4 := by omega
        subst this
        exact hj _ O
  · intro j hj
    refine brr_ff rfl ?_
    refine F_lease_Lease_Left.is O ?_
    refine brr_ff (by decide) ?_
    refine F_lease_Lease_Span.is o O ?_
    exact hj _ _ ⟨rfl, by decide⟩
end
end Go.Proofs.Ytboidjampddfoaa.V
