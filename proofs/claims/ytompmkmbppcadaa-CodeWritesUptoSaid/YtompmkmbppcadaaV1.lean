/-
  A VIEW OF THE MACHINE AS A PREDICATE TRANSFORMER OVER THE HEAP. Part 1: values, the heap's cells, the operations that only read.
  Own work. For each operation there is a formula over values and the heap ('dQ': what it gives; 'dE': what it does), and a proof that the machine's operation does so.
-/
import Derived.Orders
import Derived.Below
import Derived.KernelRfl
import Derived.Laws.Cells
import Derived.Laws.Panics
namespace Go.Proofs.Ytompmkmbppcadaa.V
open Go Go.RowKit
set_option linter.unusedVariables false
set_option linter.unusedSimpArgs false

abbrev Heap := Array Obj

inductive Kd where
  | int (k : IntKind) | bool | str | ptr | sl | addr
structure Sl where
  ptr : Option Addr
  len : Nat
  cap : Nat
def Sl.nil : Sl := ⟨none, 0, 0⟩
abbrev Kd.T : Kd → Type
  | .int _ => Int
  | .bool => Bool
  | .str => ByteArray
  | .ptr => Option Addr
  | .sl => Sl
  | .addr => Addr
def Kd.enc : (k : Kd) → k.T → Value
  | .int k, x => .int k x
  | .bool, b => .bool b
  | .str, s => .string s
  | .ptr, p => .pointer p
  | .sl, s => .slice s.ptr s.len s.cap
  | .addr, a => .pointer (some a)
def dec1 : (k : Kd) → Value → (k.T → Prop) → Prop
  | .int k, .int k' x, K => if k' = k then K x else False
  | .bool, .bool b, K => K b
  | .str, .string s, K => K s
  | .ptr, .pointer p, K => K p
  | .sl, .slice a n c, K => K ⟨a, n, c⟩
  | .addr, .pointer (some a), K => K a
  | _, _, _ => False
theorem dec1_sound {k : Kd} {v : Value} {K : k.T → Prop} (h : dec1 k v K) : ∃ x, v = k.enc x ∧ K x := by
  cases k with
  | int k =>
    cases v <;> simp only [dec1] at h
    split at h
    · rename_i e; subst e; exact ⟨_, rfl, h⟩
    · exact h.elim
  | bool => cases v <;> simp only [dec1] at h; exact ⟨_, rfl, h⟩
  | str => cases v <;> simp only [dec1] at h; exact ⟨_, rfl, h⟩
  | ptr => cases v <;> simp only [dec1] at h; exact ⟨_, rfl, h⟩
  | sl => cases v <;> simp only [dec1] at h; exact ⟨_, rfl, h⟩
  | addr =>
    unfold dec1 at h; split at h <;> first | contradiction | exact ⟨_, rfl, h⟩
/-- A function of typed values. -/
abbrev Fn : List Kd → Type → Type
  | [], R => R
  | k :: ks, R => k.T → Fn ks R
def lam : (ks : List Kd) → (List Value → Prop) → Fn ks Prop
  | [], K => K []
  | k :: ks, K => fun x => lam ks fun vs => K (k.enc x :: vs)
def lamH : (ks : List Kd) → (List Value → Heap → Prop) → Fn ks (Heap → Prop)
  | [], K => fun h => K [] h
  | k :: ks, K => fun x => lamH ks fun vs h => K (k.enc x :: vs) h
/-- A typed function at values. -/
def decs : (ks : List Kd) → List Value → Fn ks Prop → Prop
  | [], [], K => K
  | k :: ks, v :: vs, K => dec1 k v fun x => decs ks vs (K x)
  | _, _, _ => False
def decsH : (ks : List Kd) → List Value → Fn ks (Heap → Prop) → Heap → Prop
  | [], [], K, h => K h
  | k :: ks, v :: vs, K, h => dec1 k v fun x => decsH ks vs (K x) h
  | _, _, _, _ => False
theorem decs_lam : ∀ {ks : List Kd} {vs : List Value} {K : List Value → Prop}, decs ks vs (lam ks K) → K vs
  | [], [], K, h => h
  | [], _ :: _, K, h => h.elim
  | _ :: _, [], K, h => h.elim
  | k :: ks, v :: vs, K, h => by
    obtain ⟨x, rfl, h2⟩ := dec1_sound h
    exact decs_lam (ks := ks) (K := fun vs => K (k.enc x :: vs)) h2
theorem decsH_lamH : ∀ {ks : List Kd} {vs : List Value} {K : List Value → Heap → Prop} {h : Heap}, decsH ks vs (lamH ks K) h → K vs h
  | [], [], K, _, h => h
  | [], _ :: _, K, _, h => h.elim
  | _ :: _, [], K, _, h => h.elim
  | k :: ks, v :: vs, K, _, h => by
    obtain ⟨x, rfl, h2⟩ := dec1_sound h
    exact decsH_lamH (ks := ks) (K := fun vs => K (k.enc x :: vs)) h2

/-! ### the heap's cells -/
def cellH (h : Heap) (a : Addr) : Option Value :=
  match h[a.block]? with
  | some (.cells c _ _) => if a.spot.isSome then none else c[a.off]?
  | _ => none
def frozenH (h : Heap) (a : Addr) : Bool :=
  match h[a.block]? with
  | some (.cells _ _ (lo, hi)) => lo ≤ a.off && a.off < hi
  | _ => false
def setH (h : Heap) (a : Addr) (v : Value) : Heap :=
  h.modify a.block fun
    | .cells c elem frozen => .cells (if a.spot.isSome then c else c.setIfInBounds a.off v) elem frozen
    | o => o
theorem cell_eq (w : World) (a : Addr) : w.cell? a = cellH w.heap a := rfl
theorem frozen_eq (w : World) (a : Addr) : w.frozen? a = frozenH w.heap a := rfl
theorem set_eq (w : World) (a : Addr) (v : Value) : w.setCell a v = { w with heap := setH w.heap a v } := rfl
/-- The value of one cell. -/
def oneV : Value → Bool
  | .agg _ | .tuple _ => false
  | _ => true
/-- Typed cells from an address on. -/
def ld : (ks : List Kd) → Addr → Heap → Fn ks Prop → Prop
  | [], _, _, K => K
  | k :: ks, a, h, K => ∃ x : k.T, cellH h a = some (k.enc x) ∧ ld ks (a.add 1) h (K x)
def cellsAre : Heap → Addr → List Value → Prop
  | _, _, [] => True
  | h, a, v :: vs => cellH h a = some v ∧ cellsAre h (a.add 1) vs
def rdL (h : Heap) : Addr → Nat → Option (List Value)
  | _, 0 => some []
  | a, n + 1 => match cellH h a with
    | some v => (rdL h (a.add 1) n).map (v :: ·)
    | none => none
def rdP (h : Heap) (p : Option Addr) (n : Nat) : Option (List Value) :=
  match p with
  | some a => rdL h a n
  | none => some []
theorem Addr_add_add (a : Addr) (i j : Nat) : (a.add i).add j = a.add (i + j) := by
  unfold Addr.add
  by_cases hi : i = 0 <;> by_cases hj : j = 0 <;> simp [hi, hj, Nat.add_assoc]
theorem Addr_add_block (a : Addr) (i : Nat) : (a.add i).block = a.block := by unfold Addr.add; split <;> rfl
theorem ld_sound : ∀ {ks : List Kd} {a : Addr} {h : Heap} {K : List Value → Prop}, ld ks a h (lam ks K) → ∃ vs, vs.length = ks.length ∧ cellsAre h a vs ∧ (∀ v ∈ vs, oneV v = true) ∧ K vs
  | [], _, _, K, h => ⟨[], rfl, trivial, by simp, h⟩
  | k :: ks, a, hp, K, h => by
    obtain ⟨x, hc, h⟩ := h
    obtain ⟨vs, hl, hcs, ho, hK⟩ := ld_sound (ks := ks) (K := fun vs => K (k.enc x :: vs)) h
    exact ⟨k.enc x :: vs, by simp [hl], ⟨hc, hcs⟩, by
      intro v hv; rcases List.mem_cons.1 hv with rfl | hv
      · cases k <;> rfl
      · exact ho v hv, hK⟩
theorem cellsAre_get : ∀ {vs : List Value} {h : Heap} {a : Addr}, cellsAre h a vs → ∀ j v, vs[j]? = some v → cellH h (a.add j) = some v
  | [], _, _, _, j, v, e => by simp at e
  | u :: us, h, a, hc, 0, v, e => by simp at e; subst e; rw [Addr.add_zero']; exact hc.1
  | u :: us, h, a, hc, j + 1, v, e => by
    have := cellsAre_get hc.2 j v (by simpa using e)
    rwa [Addr_add_add, Nat.add_comm] at this
theorem rdL_get : ∀ {n : Nat} {h : Heap} {a : Addr} {vs : List Value}, rdL h a n = some vs → vs.length = n ∧ ∀ j v, vs[j]? = some v → cellH h (a.add j) = some v
  | 0, _, _, vs, e => by simp [rdL] at e; subst e; simp
  | n + 1, h, a, vs, e => by
    simp only [rdL] at e
    split at e
    · rename_i v hv
      cases hr : rdL h (a.add 1) n with
      | none => simp [hr] at e
      | some us =>
        simp [hr] at e; subst e
        obtain ⟨hl, hg⟩ := rdL_get hr
        refine ⟨by simp [hl], ?_⟩
        intro j u hu
        cases j with
        | zero => simp at hu; subst hu; rw [Addr.add_zero']; exact hv
        | succ j => have := hg j u (by simpa using hu); rwa [Addr_add_add, Nat.add_comm] at this
    · simp at e
section
variable {P : Program} {w : World}
theorem run_loadCells_are {a : Addr} {vs : List Value} (h : cellsAre w.heap a vs) : (loadCells a vs.length).run P w = .ok vs.toArray w :=
  run_loadCells_list w a vs fun j v e => by rw [cell_eq]; exact cellsAre_get h j v e
theorem run_loadCells_rd {a : Addr} {n : Nat} {vs : List Value} (h : rdL w.heap a n = some vs) : (loadCells a n).run P w = .ok vs.toArray w := by
  obtain ⟨hl, hg⟩ := rdL_get h
  subst hl
  exact run_loadCells_list w a vs fun j v e => by rw [cell_eq]; exact hg j v e
end

/-! ### the program's types -/
/-- The kinds of a type's cells. -/
def leaves (P : Program) : Nat → TypeId → Option (List Kd)
  | 0, _ => none
  | d + 1, t =>
    match P.underlying t with
    | some (.int k) => some [.int k]
    | some .bool => some [.bool]
    | some .string => some [.str]
    | some (.pointer _) => some [.ptr]
    | some (.slice _) => some [.sl]
    | some (.struct fs) => fs.toList.foldr (fun f r => match leaves P d f.type, r with | some l, some m => some (l ++ m) | _, _ => none) (some [])
    | some (.array n e) => match leaves P d e with
      | some l => some (List.replicate n l).flatten
      | none => none
    | _ => none
def aggT (P : Program) (t : TypeId) : Option Bool :=
  match P.underlying t with
  | some (.struct _) | some (.array _ _) => some true
  | some _ => some false
  | none => none
theorem run_isAgg {P : Program} {t : TypeId} {b : Bool} (h : aggT P t = some b) (w : World) : (isAgg t).run P w = .ok b w := by
  unfold aggT at h
  cases hu : P.underlying t with
  | none => simp [hu] at h
  | some d =>
    simp only [isAgg, Sem.run_bind, run_underlying hu, Result.andThen_ok]
    rw [hu] at h
    cases d <;> simp at h <;> subst h <;> rfl
def sizeT (P : Program) (t : TypeId) : Option Nat := (P.info? t).map (·.size)
theorem run_sizeT {P : Program} {t : TypeId} {n : Nat} (h : sizeT P t = some n) (w : World) : (sizeOf t).run P w = .ok n w := by
  unfold sizeT at h
  cases hi : P.info? t with
  | none => simp [hi] at h
  | some i => simp [hi] at h; subst h; simp [sizeOf, typeInfo, program, hi, Sem.run, Sem.run_bind]
def zeroT (P : Program) (t : TypeId) : Option Value := (P.info? t).bind (·.zero)
theorem run_zeroT {P : Program} {t : TypeId} {v : Value} (h : zeroT P t = some v) (w : World) : (zeroValue t).run P w = .ok v w := by
  unfold zeroT at h
  cases hi : P.info? t with
  | none => simp [hi] at h
  | some i => simp [hi] at h; simp [zeroValue, typeInfo, program, hi, Sem.run, Sem.run_bind, h]
def bytesT (P : Program) (t : TypeId) : Option Nat := (P.info? t).map (·.bytes)
theorem info_of_bytesT {P : Program} {t : TypeId} {n : Nat} (h : bytesT P t = some n) : ∃ i, P.info? t = some i ∧ i.bytes = n := by
  unfold bytesT at h
  cases hi : P.info? t with
  | none => simp [hi] at h
  | some i => simp [hi] at h; exact ⟨i, rfl, h⟩
end Go.Proofs.Ytompmkmbppcadaa.V
