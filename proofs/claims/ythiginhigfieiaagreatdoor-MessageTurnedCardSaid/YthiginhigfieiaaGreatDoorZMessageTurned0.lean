import Derived.Orders
import Derived.Below
import Derived.KernelRfl
import Derived.Laws.Cells
import Derived.Laws.Panics
import Derived.Laws.StructEq
import Derived.Laws.Tables
import Derived.Laws.PanicsMore
import Derived.Laws.BytesString
import Derived.Laws.Append
import Derived.LoopN
import Derived.Laws.ByValue
import Derived.Test.YthiginhigfieiaaGreatDoorProg
/-
  A VIEW OF THE MACHINE AS A PREDICATE TRANSFORMER OVER THE HEAP. Part 1: values, the heap's cells, the operations that only read.
  Own work. For each operation there is a formula over values and the heap ('dQ': what it gives; 'dE': what it does), and a proof that the machine's operation does so.
-/
namespace Go.Proofs.YthiginhigfieiaaGreatDoor.V
open Go Go.RowKit
set_option linter.unusedVariables false
set_option linter.unusedSimpArgs false

abbrev Heap := Array Obj

inductive Kd where
  | int (k : IntKind) | bool | str | ptr | sl | addr | map | fn
/-- A function value that is not nil: which, what stands ahead of its arguments, what it has captured. -/
structure FV where
  fn : Go.Fn
  first : List Value
  cap : List Value
structure Sl where
  ptr : Option Addr
  len : Nat
  cap : Nat
def Sl.nil : Sl := ⟨none, 0, 0⟩
abbrev Kd.T : Kd → Type
  | .int _ => Int
  | .bool => Bool
  | .str => ByteArray
  | .ptr => Option Addr
  | .sl => Sl
  | .addr => Addr
  | .map => Option Nat
  | .fn => Option FV
def Kd.enc : (k : Kd) → k.T → Value
  | .int k, x => .int k x
  | .bool, b => .bool b
  | .str, s => .string s
  | .ptr, p => .pointer p
  | .sl, s => .slice s.ptr s.len s.cap
  | .addr, a => .pointer (some a)
  | .map, r => .map r
  | .fn, none => .nilFunc
  | .fn, some f => .func f.fn f.first.toArray f.cap.toArray
def dec1 : (k : Kd) → Value → (k.T → Prop) → Prop
  | .int k, .int k' x, K => if k' = k then K x else False
  | .bool, .bool b, K => K b
  | .str, .string s, K => K s
  | .ptr, .pointer p, K => K p
  | .sl, .slice a n c, K => K ⟨a, n, c⟩
  | .addr, .pointer (some a), K => K a
  | .map, .map r, K => K r
  | .fn, .nilFunc, K => K none
  | .fn, .func f a c, K => K (some ⟨f, a.toList, c.toList⟩)
  | _, _, _ => False
theorem dec1_sound {k : Kd} {v : Value} {K : k.T → Prop} (h : dec1 k v K) : ∃ x, v = k.enc x ∧ K x := by
  cases k with
  | int k =>
    cases v <;> simp only [dec1] at h
    split at h
    · rename_i e; subst e; exact ⟨_, rfl, h⟩
    · exact h.elim
  | bool => cases v <;> simp only [dec1] at h; exact ⟨_, rfl, h⟩
  | str => cases v <;> simp only [dec1] at h; exact ⟨_, rfl, h⟩
  | ptr => cases v <;> simp only [dec1] at h; exact ⟨_, rfl, h⟩
  | sl => cases v <;> simp only [dec1] at h; exact ⟨_, rfl, h⟩
  | addr =>
    unfold dec1 at h; split at h <;> first | contradiction | exact ⟨_, rfl, h⟩
  | map => cases v <;> simp only [dec1] at h; exact ⟨_, rfl, h⟩
  | fn =>
    cases v <;> simp only [dec1] at h
    · exact ⟨_, by simp [Kd.enc], h⟩
    · exact ⟨none, rfl, h⟩
theorem dec1_enc : ∀ {k : Kd} {x : k.T} {K : k.T → Prop}, dec1 k (k.enc x) K = K x
  | .int k, x, K => by simp [Kd.enc, dec1]
  | .bool, x, K => rfl
  | .str, x, K => rfl
  | .ptr, x, K => rfl
  | .sl, x, K => rfl
  | .addr, x, K => rfl
  | .map, x, K => rfl
  | .fn, none, K => rfl
  | .fn, some f, K => rfl
/-- A function of typed values. -/
abbrev Fn : List Kd → Type → Type
  | [], R => R
  | k :: ks, R => k.T → Fn ks R
def lam : (ks : List Kd) → (List Value → Prop) → Fn ks Prop
  | [], K => K []
  | k :: ks, K => fun x => lam ks fun vs => K (k.enc x :: vs)
def lamH : (ks : List Kd) → (List Value → Heap → Prop) → Fn ks (Heap → Prop)
  | [], K => fun h => K [] h
  | k :: ks, K => fun x => lamH ks fun vs h => K (k.enc x :: vs) h
/-- A typed function at values. -/
def decs : (ks : List Kd) → List Value → Fn ks Prop → Prop
  | [], [], K => K
  | k :: ks, v :: vs, K => dec1 k v fun x => decs ks vs (K x)
  | _, _, _ => False
def decsH : (ks : List Kd) → List Value → Fn ks (Heap → Prop) → Heap → Prop
  | [], [], K, h => K h
  | k :: ks, v :: vs, K, h => dec1 k v fun x => decsH ks vs (K x) h
  | _, _, _, _ => False
theorem decs_lam : ∀ {ks : List Kd} {vs : List Value} {K : List Value → Prop}, decs ks vs (lam ks K) → K vs
  | [], [], K, h => h
  | [], _ :: _, K, h => h.elim
  | _ :: _, [], K, h => h.elim
  | k :: ks, v :: vs, K, h => by
    obtain ⟨x, rfl, h2⟩ := dec1_sound h
    exact decs_lam (ks := ks) (K := fun vs => K (k.enc x :: vs)) h2
theorem decsH_lamH : ∀ {ks : List Kd} {vs : List Value} {K : List Value → Heap → Prop} {h : Heap}, decsH ks vs (lamH ks K) h → K vs h
  | [], [], K, _, h => h
  | [], _ :: _, K, _, h => h.elim
  | _ :: _, [], K, _, h => h.elim
  | k :: ks, v :: vs, K, _, h => by
    obtain ⟨x, rfl, h2⟩ := dec1_sound h
    exact decsH_lamH (ks := ks) (K := fun vs => K (k.enc x :: vs)) h2

def cellH (h : Heap) (a : Addr) : Option Value :=
  match h[a.block]? with
  | some (.cells c _ _) => if a.spot.isSome then none else c[a.off]?
  | _ => none
def frozenH (h : Heap) (a : Addr) : Bool :=
  match h[a.block]? with
  | some (.cells _ _ (lo, hi)) => lo ≤ a.off && a.off < hi
  | _ => false
def setH (h : Heap) (a : Addr) (v : Value) : Heap :=
  h.modify a.block fun
    | .cells c elem frozen => .cells (if a.spot.isSome then c else c.setIfInBounds a.off v) elem frozen
    | o => o
theorem cell_eq (w : World) (a : Addr) : w.cell? a = cellH w.heap a := rfl
theorem set_eq (w : World) (a : Addr) (v : Value) : w.setCell a v = { w with heap := setH w.heap a v } := rfl
/-- The value of one cell. -/
def oneV : Value → Bool
  | .agg _ | .tuple _ => false
  | _ => true
/-- Typed cells from an address on. -/
def ld : (ks : List Kd) → Addr → Heap → Fn ks Prop → Prop
  | [], _, _, K => K
  | k :: ks, a, h, K => ∃ x : k.T, cellH h a = some (k.enc x) ∧ ld ks (a.add 1) h (K x)
def cellsAre : Heap → Addr → List Value → Prop
  | _, _, [] => True
  | h, a, v :: vs => cellH h a = some v ∧ cellsAre h (a.add 1) vs
def rdL (h : Heap) : Addr → Nat → Option (List Value)
  | _, 0 => some []
  | a, n + 1 => match cellH h a with
    | some v => (rdL h (a.add 1) n).map (v :: ·)
    | none => none
def rdP (h : Heap) (p : Option Addr) (n : Nat) : Option (List Value) :=
  match p with
  | some a => rdL h a n
  | none => some []
theorem Addr_add_add (a : Addr) (i j : Nat) : (a.add i).add j = a.add (i + j) := by
  unfold Addr.add
  by_cases hi : i = 0 <;> by_cases hj : j = 0 <;> simp [hi, hj, Nat.add_assoc]
theorem ld_sound : ∀ {ks : List Kd} {a : Addr} {h : Heap} {K : List Value → Prop}, ld ks a h (lam ks K) → ∃ vs, vs.length = ks.length ∧ cellsAre h a vs ∧ (∀ v ∈ vs, oneV v = true) ∧ K vs
  | [], _, _, K, h => ⟨[], rfl, trivial, by simp, h⟩
  | k :: ks, a, hp, K, h => by
    obtain ⟨x, hc, h⟩ := h
    obtain ⟨vs, hl, hcs, ho, hK⟩ := ld_sound (ks := ks) (K := fun vs => K (k.enc x :: vs)) h
    exact ⟨k.enc x :: vs, by simp [hl], ⟨hc, hcs⟩, by
      intro v hv; rcases List.mem_cons.1 hv with rfl | hv
      · cases k <;> first | rfl | (cases x <;> rfl)
      · exact ho v hv, hK⟩
theorem cellsAre_get : ∀ {vs : List Value} {h : Heap} {a : Addr}, cellsAre h a vs → ∀ j v, vs[j]? = some v → cellH h (a.add j) = some v
  | [], _, _, _, j, v, e => by simp at e
  | u :: us, h, a, hc, 0, v, e => by simp at e; subst e; rw [Addr.add_zero']; exact hc.1
  | u :: us, h, a, hc, j + 1, v, e => by
    have := cellsAre_get hc.2 j v (by simpa using e)
    rwa [Addr_add_add, Nat.add_comm] at this
theorem rdL_get : ∀ {n : Nat} {h : Heap} {a : Addr} {vs : List Value}, rdL h a n = some vs → vs.length = n ∧ ∀ j v, vs[j]? = some v → cellH h (a.add j) = some v
  | 0, _, _, vs, e => by simp [rdL] at e; subst e; simp
  | n + 1, h, a, vs, e => by
    simp only [rdL] at e
    split at e
    · rename_i v hv
      cases hr : rdL h (a.add 1) n with
      | none => simp [hr] at e
      | some us =>
        simp [hr] at e; subst e
        obtain ⟨hl, hg⟩ := rdL_get hr
        refine ⟨by simp [hl], ?_⟩
        intro j u hu
        cases j with
        | zero => simp at hu; subst hu; rw [Addr.add_zero']; exact hv
        | succ j => have := hg j u (by simpa using hu); rwa [Addr_add_add, Nat.add_comm] at this
    · simp at e
section
variable {P : Program} {w : World}
theorem run_loadCells_are {a : Addr} {vs : List Value} (h : cellsAre w.heap a vs) : (loadCells a vs.length).run P w = .ok vs.toArray w :=
  run_loadCells_list w a vs fun j v e => by rw [cell_eq]; exact cellsAre_get h j v e
theorem run_loadCells_rd {a : Addr} {n : Nat} {vs : List Value} (h : rdL w.heap a n = some vs) : (loadCells a n).run P w = .ok vs.toArray w := by
  obtain ⟨hl, hg⟩ := rdL_get h
  subst hl
  exact run_loadCells_list w a vs fun j v e => by rw [cell_eq]; exact hg j v e
end

/-- The kinds of a type's cells. -/
def leaves (P : Program) : Nat → TypeId → Option (List Kd)
  | 0, _ => none
  | d + 1, t =>
    match P.underlying t with
    | some (.int k) => some [.int k]
    | some .bool => some [.bool]
    | some .string => some [.str]
    | some (.pointer _) => some [.ptr]
    | some (.slice _) => some [.sl]
    | some (.map _ _) => some [.map]
    | some (.func _ _ _) => some [.fn]
    | some (.struct fs) => fs.toList.foldr (fun f r => match leaves P d f.type, r with | some l, some m => some (l ++ m) | _, _ => none) (some [])
    | some (.array n e) => match leaves P d e with
      | some l => some (List.replicate n l).flatten
      | none => none
    | _ => none
def aggT (P : Program) (t : TypeId) : Option Bool :=
  match P.underlying t with
  | some (.struct _) | some (.array _ _) => some true
  | some _ => some false
  | none => none
theorem run_isAgg {P : Program} {t : TypeId} {b : Bool} (h : aggT P t = some b) (w : World) : (isAgg t).run P w = .ok b w := by
  unfold aggT at h
  cases hu : P.underlying t with
  | none => simp [hu] at h
  | some d =>
    simp only [isAgg, Sem.run_bind, run_underlying hu, Result.andThen_ok]
    rw [hu] at h
    cases d <;> simp at h <;> subst h <;> rfl
def sizeT (P : Program) (t : TypeId) : Option Nat := (P.info? t).map (·.size)
theorem run_sizeT {P : Program} {t : TypeId} {n : Nat} (h : sizeT P t = some n) (w : World) : (sizeOf t).run P w = .ok n w := by
  unfold sizeT at h
  cases hi : P.info? t with
  | none => simp [hi] at h
  | some i => simp [hi] at h; subst h; simp [sizeOf, typeInfo, program, hi, Sem.run, Sem.run_bind]
def zeroT (P : Program) (t : TypeId) : Option Value := (P.info? t).bind (·.zero)
theorem run_zeroT {P : Program} {t : TypeId} {v : Value} (h : zeroT P t = some v) (w : World) : (zeroValue t).run P w = .ok v w := by
  unfold zeroT at h
  cases hi : P.info? t with
  | none => simp [hi] at h
  | some i => simp [hi] at h; simp [zeroValue, typeInfo, program, hi, Sem.run, Sem.run_bind, h]
end Go.Proofs.YthiginhigfieiaaGreatDoor.V
/-
  A VIEW OF THE MACHINE AS A PREDICATE TRANSFORMER OVER THE HEAP. Part 2: the operations that read, and change nothing.
-/
namespace Go.Proofs.YthiginhigfieiaaGreatDoor.V
open Go Go.RowKit
set_option linter.unusedVariables false
set_option linter.unusedSimpArgs false

abbrev Env := List (Nat × Value)
def lk : Env → Nat → Option Value
  | [], _ => none
  | (i, v) :: r, j => match Nat.beq i j with
    | true => some v
    | false => lk r j
def ev (env : Env) : Operand → Option Value
  | .tmp t => lk env t
  | .const v => some v
  | .global g => some (.pointer (some ⟨g, 0, none⟩))
  | .func f => some (.func (.func f) #[] #[])
/-- What the frame holds is what is known of it, at these slots. -/
def AgrOn (S : Nat → Prop) (env : Env) (a : Act) : Prop := ∀ t, S t → ∀ u, lk env t = some u → a.tmps[t]? = some u
theorem ev_sound {S : Nat → Prop} {env : Env} {a : Act} {x : Operand} {v : Value} (h : ev env x = some v) (hs : ∀ t, x = .tmp t → S t) (ha : AgrOn S env a) : a.eval x = v := by
  cases x with
  | tmp t =>
    have := ha t (hs t rfl) v h
    simp only [Act.eval, Array.getD_eq_getD_getElem?, this, Option.getD_some]
  | const c => simp [ev] at h; subst h; rfl
  | global g => simp [ev] at h; subst h; rfl
  | func f => simp [ev] at h; subst h; rfl
/-- A test whose outcome is told by its value. -/
def brr (b : Bool) (A B : Prop) : Prop := match b with
  | true => A
  | false => B
def chk (b : Bool) (A : Prop) : Prop := match b with
  | true => A
  | false => False
theorem chk_sound {b : Bool} {A : Prop} (h : chk b A) : b = true ∧ A := by cases b; exact h.elim; exact ⟨rfl, h⟩
def ev1 (env : Env) (x : Operand) (K : Value → Prop) : Prop := match ev env x with
  | some v => K v
  | none => False
theorem ev1_sound {env : Env} {x : Operand} {K : Value → Prop} (h : ev1 env x K) : ∃ v, ev env x = some v ∧ K v := by
  unfold ev1 at h; split at h
  · rename_i v e; exact ⟨v, e, h⟩
  · exact h.elim
/-- The pointer is not nil. -/
def nn (p : Option Addr) (K : Addr → Prop) : Prop := ∃ a, p = some a ∧ K a
def forceL : List Value → (List Value → Prop) → Prop
  | [], K => K []
  | v :: vs, K => forceL vs fun us => K (v :: us)
theorem forceL_sound : ∀ {l : List Value} {K : List Value → Prop}, forceL l K → K l
  | [], _, h => h
  | v :: vs, K, h => forceL_sound (l := vs) (K := fun us => K (v :: us)) h
def bytesOfInts (xs : List Int) : ByteArray := ⟨(xs.map fun n => UInt8.ofNat n.toNat).toArray⟩

/-- Sums, tests .. of two whole numbers of one kind, that can't fail. -/
def iop : BinOp → IntKind → Int → Int → Option Value
  | .add, k, a, b => some (.int k (k.wrap (a + b)))
  | .sub, k, a, b => some (.int k (k.wrap (a - b)))
  | .mul, k, a, b => some (.int k (k.wrap (a * b)))
  | .and, k, a, b => some (.int k (k.wrap (BitVec.ofInt k.bits a &&& BitVec.ofInt k.bits b).toNat))
  | .or, k, a, b => some (.int k (k.wrap (BitVec.ofInt k.bits a ||| BitVec.ofInt k.bits b).toNat))
  | .xor, k, a, b => some (.int k (k.wrap (BitVec.ofInt k.bits a ^^^ BitVec.ofInt k.bits b).toNat))
  | .andNot, k, a, b => some (.int k (k.wrap (BitVec.ofInt k.bits a &&& ~~~BitVec.ofInt k.bits b).toNat))
  | .eql, _, a, b => some (.bool (a == b))
  | .neq, _, a, b => some (.bool (a != b))
  | .lss, _, a, b => some (.bool (decide (a < b)))
  | .leq, _, a, b => some (.bool (decide (a ≤ b)))
  | .gtr, _, a, b => some (.bool (decide (a > b)))
  | .geq, _, a, b => some (.bool (decide (a ≥ b)))
  | _, _, _, _ => none
def sop : BinOp → ByteArray → ByteArray → Option Value
  | .eql, a, b => some (.bool (a.toList == b.toList))
  | .neq, a, b => some (.bool (!(a.toList == b.toList)))
  | .lss, a, b => some (.bool (Op.bytesLess a.toList b.toList))
  | .leq, a, b => some (.bool (Op.bytesLess a.toList b.toList || a.toList == b.toList))
  | .gtr, a, b => some (.bool (!(Op.bytesLess a.toList b.toList || a.toList == b.toList)))
  | .geq, a, b => some (.bool (!(Op.bytesLess a.toList b.toList)))
  | _, _, _ => none
def isBoolT (P : Program) (t : TypeId) : Bool := match P.underlying t with | some .bool => true | _ => false
def isPtrT (P : Program) (t : TypeId) : Bool := match P.underlying t with | some (.pointer _) => true | _ => false
def isSliceT (P : Program) (t : TypeId) : Bool := match P.underlying t with | some (.slice _) => true | _ => false
def partV (P : Program) (t : TypeId) (cs : List Value) (off : Nat) : Option Value :=
  match aggT P t with
  | some true => match sizeT P t with
    | some n => some (.agg ((cs.drop off).take n).toArray)
    | none => none
  | some false => cs[off]?
  | none => none
theorem partV_sound {P : Program} {t : TypeId} {cs : Array Value} {off : Nat} {v : Value} (h : partV P t cs.toList off = some v) (w : World) : (part t cs off).run P w = .ok v w := by
  unfold partV at h
  split at h
  · rename_i hb
    split at h
    · rename_i n hn
      simp at h; subst h
      simp only [part, Sem.run_bind, run_isAgg hb, Result.andThen_ok, if_true, run_sizeT hn, Sem.run_pure]
      congr 2
      apply Array.ext'
      simp [List.take_drop]
    · simp at h
  · rename_i hb
    rw [Array.getElem?_toList] at h
    simp only [part, Sem.run_bind, run_isAgg hb, Result.andThen_ok, Bool.false_eq_true, if_false, h, Sem.run_pure]
  · simp at h
def eqFs (P : Program) (eq : TypeId → Value → Value → Option Bool) (xs ys : List Value) : List Field → Option Bool
  | [] => some true
  | f :: fs => match decide (f.name = "_") with
    | true => none
    | false => match partV P f.type xs f.offset, partV P f.type ys f.offset with
      | some a, some b => match eq f.type a b, eqFs P eq xs ys fs with
        | some r, some s => some (r && s)
        | _, _ => none
      | _, _ => none
def eqV (P : Program) : Nat → TypeId → Value → Value → Option Bool
  | 0, _, _, _ => none
  | d + 1, t, x, y => match P.underlying t, x, y with
    | some (.int _), .int k a, .int k' b => match decide (k = k') with
      | true => some (a == b)
      | false => none
    | some .bool, .bool a, .bool b => some (a == b)
    | some .string, .string a, .string b => some (a.toList == b.toList)
    | some (.struct fs), .agg xs, .agg ys => match P.stoodInHeld t with
      | true => none
      | false => eqFs P (eqV P d) xs.toList ys.toList fs.toList
    | _, _, _ => none
theorem eqFs_sound {P : Program} {eq : TypeId → Value → Value → Option Bool} {d : Nat} (he : ∀ t x y b, eq t x y = some b → ∀ w : World, (Op.equalIn d t x y).run P w = .ok b w) (xs ys : Array Value) (w : World) :
    ∀ (fs : List Field) (b : Bool), eqFs P eq xs.toList ys.toList fs = some b → (Op.eqFields d xs ys fs).run P w = .ok b w
  | [], b, h => by simp [eqFs] at h; subst h; simp [Op.eqFields]
  | f :: fs, b, h => by
    simp only [eqFs] at h
    split at h
    · simp at h
    · rename_i hn
      have hn' : f.name ≠ "_" := by simpa using hn
      split at h
      · rename_i a c ha hc
        split at h
        · rename_i r s hr hs
          simp at h; subst h
          have ih := eqFs_sound he xs ys w fs s hs
          simp only [Op.eqFields, hn', ne_eq, not_false_eq_true, if_true, Sem.run_bind, partV_sound ha, partV_sound hc, Result.andThen_ok, he _ _ _ _ hr w, Sem.run_ite]
          cases r
          · simp
          · simpa using ih
        · simp at h
      · simp at h
theorem eqV_sound {P : Program} : ∀ (n : Nat) (t : TypeId) (x y : Value) (b : Bool), eqV P n t x y = some b → ∀ (k : Nat) (w : World), (Op.equalIn (n + k) t x y).run P w = .ok b w
  | 0, _, _, _, _, h, _, _ => by simp [eqV] at h
  | n + 1, t, x, y, b, h, k, w => by
    rw [show n + 1 + k = (n + k) + 1 by omega]
    simp only [eqV] at h
    split at h
    · rename_i hu
      split at h
      · rename_i e
        have e := of_decide_eq_true e; subst e
        simp at h; subst h
        exact run_equalIn_int w _ t _ _ _ _ hu
      · simp at h
    · rename_i hu
      simp at h; subst h
      exact run_equalIn_bool' w _ t _ _ hu
    · rename_i hu
      simp at h; subst h
      exact run_equalIn_string w _ t _ _ hu
    · rename_i fs xs ys hu
      split at h
      · simp at h
      · rename_i hs
        have hf : P.fieldsOf t = fs := by unfold Program.fieldsOf; rw [hu]
        rw [run_equalIn_agg w _ t xs ys (by rw [hf]; exact hu) hs, hf]
        exact eqFs_sound (fun t x y b hb w => eqV_sound n t x y b hb k w) xs ys w _ b h
    · simp at h
def dBin (P : Program) (op : BinOp) (t : TypeId) (x y : Value) (K : Value → Prop) : Prop :=
  match x, y with
  | .int k a, .int k' b =>
    match op with
    | .shl => 0 ≤ b ∧ K (.int k (k.wrap (a * 2 ^ min b.toNat k.bits)))
    | .shr => 0 ≤ b ∧ K (.int k (a.fdiv (2 ^ min b.toNat k.bits)))
    | .quo => chk (decide (k = k')) (b ≠ 0 ∧ K (.int k (k.wrap (a.tdiv b))))
    | .rem => chk (decide (k = k')) (b ≠ 0 ∧ K (.int k (a.tmod b)))
    | op => chk (decide (k = k')) (match iop op k a b with | some v => K v | none => False)
  | .string a, .string b =>
    match op with
    | .add => ((a.size + b.size : Nat) : Int) ≤ 9223372036854775807 ∧ K (.string (a ++ b))
    | op => match sop op a b with | some v => K v | none => False
  | .bool a, .bool b =>
    match op with
    | .eql => chk (isBoolT P t) (K (.bool (a == b)))
    | .neq => chk (isBoolT P t) (K (.bool (!(a == b))))
    | _ => False
  | .pointer a, .pointer none =>
    match op with
    | .eql => chk (isPtrT P t) (K (.bool a.isNone))
    | .neq => chk (isPtrT P t) (K (.bool (!a.isNone)))
    | _ => False
  | .slice a _ _, .slice none _ _ =>
    match op with
    | .eql => chk (isSliceT P t) (K (.bool a.isNone))
    | .neq => chk (isSliceT P t) (K (.bool (!a.isNone)))
    | _ => False
  | .agg xs, .agg ys =>
    match op with
    | .eql => chk (!P.eqGuardType P.depth t) (match eqV P 20 t (.agg xs) (.agg ys) with | some b => K (.bool b) | none => False)
    | .neq => chk (!P.eqGuardType P.depth t) (match eqV P 20 t (.agg xs) (.agg ys) with | some b => K (.bool (!b)) | none => False)
    | _ => False
  | _, _ => False
theorem binOp_eql' (t : TypeId) (a b : Bool) : binOp .eql t (.bool a) (.bool b) = (do pure (.bool (← Op.equal t (.bool a) (.bool b)))) := rfl
theorem binOp_neq' (t : TypeId) (a b : Bool) : binOp .neq t (.bool a) (.bool b) = (do pure (.bool (!(← Op.equal t (.bool a) (.bool b))))) := rfl
theorem binOp_eqlP (t : TypeId) (a b : Option Addr) : binOp .eql t (.pointer a) (.pointer b) = (do pure (.bool (← Op.equal t (.pointer a) (.pointer b)))) := rfl
theorem binOp_neqP (t : TypeId) (a b : Option Addr) : binOp .neq t (.pointer a) (.pointer b) = (do pure (.bool (!(← Op.equal t (.pointer a) (.pointer b))))) := rfl
theorem binOp_eqlS (t : TypeId) (a b : Option Addr) (m n c d : Nat) : binOp .eql t (.slice a m n) (.slice b c d) = (do pure (.bool (← Op.equal t (.slice a m n) (.slice b c d)))) := rfl
theorem binOp_neqS (t : TypeId) (a b : Option Addr) (m n c d : Nat) : binOp .neq t (.slice a m n) (.slice b c d) = (do pure (.bool (!(← Op.equal t (.slice a m n) (.slice b c d))))) := rfl
theorem equal_bool {P : Program} {t : TypeId} (hu : P.underlying t = some .bool) (a b : Bool) (w : World) : (Op.equal t (.bool a) (.bool b)).run P w = .ok (a == b) w := by
  show (Op.equalIn (9999 + 1) t (.bool a) (.bool b)).run P w = _
  unfold Op.equalIn
  simp only [Sem.run_bind, run_underlying hu, Result.andThen_ok]; rfl
theorem equal_ptr {P : Program} {t e : TypeId} (hu : P.underlying t = some (.pointer e)) (a : Option Addr) (w : World) : (Op.equal t (.pointer a) (.pointer none)).run P w = .ok a.isNone w := by
  show (Op.equalIn (9999 + 1) t (.pointer a) (.pointer none)).run P w = _
  unfold Op.equalIn
  cases a <;> (simp only [Sem.run_bind, run_underlying hu, Result.andThen_ok]; rfl)
theorem equal_sl {P : Program} {t e : TypeId} (hu : P.underlying t = some (.slice e)) (a : Option Addr) (m n c d : Nat) (w : World) : (Op.equal t (.slice a m n) (.slice none c d)).run P w = .ok a.isNone w := by
  show (Op.equalIn (9999 + 1) t (.slice a m n) (.slice none c d)).run P w = _
  unfold Op.equalIn
  cases a <;> (simp only [Sem.run_bind, run_underlying hu, Result.andThen_ok]; rfl)
theorem dBin_sound {P : Program} {op : BinOp} {t : TypeId} {x y : Value} {K : Value → Prop} (h : dBin P op t x y K) :
    ∃ v, K v ∧ ∀ (ox oy : Operand) (w : World), ((do eqGuard op t ox oy x y; binOp op t x y) : Sem Value).run P w = .ok v w := by
  unfold dBin at h
  split at h
  · rename_i k a k' b
    split at h
    · exact ⟨_, h.2, fun ox oy w => by simp [eqGuard_at_int, binOp, Op.shift, Int.not_lt.2 h.1]⟩
    · exact ⟨_, h.2, fun ox oy w => by simp [eqGuard_at_int, binOp, Op.shift, Int.not_lt.2 h.1]⟩
    · replace h := chk_sound h; obtain ⟨e, hh⟩ := h
      have e := of_decide_eq_true e; subst e
      exact ⟨_, hh.2, fun ox oy w => by simp [eqGuard_at_int, binOp, Op.intDiv, hh.1]⟩
    · replace h := chk_sound h; obtain ⟨e, hh⟩ := h
      have e := of_decide_eq_true e; subst e
      exact ⟨_, hh.2, fun ox oy w => by simp [eqGuard_at_int, binOp, Op.intDiv, hh.1]⟩
    · replace h := chk_sound h; obtain ⟨e, hh⟩ := h
      have e := of_decide_eq_true e; subst e
      split at hh
      · rename_i v hv
        refine ⟨v, hh, fun ox oy w => ?_⟩
        cases op <;> simp [iop] at hv <;> subst hv <;> simp [eqGuard_at_int, binOp, Op.intArith, Op.intBits, Op.intCmp]
      · exact hh.elim
  · rename_i a b
    split at h
    · exact ⟨_, h.2, fun ox oy w => by
        have : ¬ ((a.size + b.size : Nat) : Int) > IntKind.i64.max := by rw [IntKind.max_i64]; omega
        simp only [eqGuard_at_string, binOp, Op.stringOp, Sem.run_bind, Sem.run_pure, Result.andThen_ok, if_neg this]⟩
    · split at h
      · rename_i v hv
        refine ⟨v, h, fun ox oy w => ?_⟩
        cases op <;> simp [sop] at hv <;> subst hv <;> simp [eqGuard_at_string, binOp, Op.stringOp]
      · exact h.elim
  · rename_i a b
    split at h
    · replace h := chk_sound h; obtain ⟨e, hh⟩ := h
      refine ⟨_, hh, fun ox oy w => ?_⟩
      unfold isBoolT at e; split at e <;> simp at e
      rename_i hu
      rw [eqGuard_at_bool]; simp [binOp_eql', binOp_neq', equal_bool hu]
    · replace h := chk_sound h; obtain ⟨e, hh⟩ := h
      refine ⟨_, hh, fun ox oy w => ?_⟩
      unfold isBoolT at e; split at e <;> simp at e
      rename_i hu
      rw [eqGuard_at_bool]; simp [binOp_eql', binOp_neq', equal_bool hu]
    · exact h.elim
  · rename_i a
    split at h
    · replace h := chk_sound h; obtain ⟨e, hh⟩ := h
      refine ⟨_, hh, fun ox oy w => ?_⟩
      unfold isPtrT at e; split at e <;> simp at e
      rename_i hu
      rw [eqGuard_at_pointer]; simp [binOp_eqlP, binOp_neqP, equal_ptr hu]
    · replace h := chk_sound h; obtain ⟨e, hh⟩ := h
      refine ⟨_, hh, fun ox oy w => ?_⟩
      unfold isPtrT at e; split at e <;> simp at e
      rename_i hu
      rw [eqGuard_at_pointer]; simp [binOp_eqlP, binOp_neqP, equal_ptr hu]
    · exact h.elim
  · rename_i a _ _ _ _
    split at h
    · replace h := chk_sound h; obtain ⟨e, hh⟩ := h
      refine ⟨_, hh, fun ox oy w => ?_⟩
      unfold isSliceT at e; split at e <;> simp at e
      rename_i hu
      rw [eqGuard_at_slice]; simp [binOp_eqlS, binOp_neqS, equal_sl hu]
    · replace h := chk_sound h; obtain ⟨e, hh⟩ := h
      refine ⟨_, hh, fun ox oy w => ?_⟩
      unfold isSliceT at e; split at e <;> simp at e
      rename_i hu
      rw [eqGuard_at_slice]; simp [binOp_eqlS, binOp_neqS, equal_sl hu]
    · exact h.elim
  · rename_i xs ys
    split at h
    · replace h := chk_sound h; obtain ⟨e, hh⟩ := h
      split at hh
      · rename_i b hb
        refine ⟨_, hh, fun ox oy w => ?_⟩
        have h1 := eqV_sound 20 t _ _ b hb 9980 w
        simp only [Sem.run_bind, run_eqGuard_agg w _ t ox oy xs ys (by simpa using e), Result.andThen_ok, run_eql_struct, h1]
      · exact hh.elim
    · replace h := chk_sound h; obtain ⟨e, hh⟩ := h
      split at hh
      · rename_i b hb
        refine ⟨_, hh, fun ox oy w => ?_⟩
        have h1 := eqV_sound 20 t _ _ b hb 9980 w
        simp only [Sem.run_bind, run_eqGuard_agg w _ t ox oy xs ys (by simpa using e), Result.andThen_ok, run_neq_struct, h1]
      · exact hh.elim
    · exact h.elim
  · exact h.elim
end Go.Proofs.YthiginhigfieiaaGreatDoor.V
/-
  A VIEW OF THE MACHINE AS A PREDICATE TRANSFORMER OVER THE HEAP. Part 3: every operation that changes nothing: 'dQ', and that the machine does so.
-/
namespace Go.Proofs.YthiginhigfieiaaGreatDoor.V
open Go Go.RowKit
set_option linter.unusedVariables false
set_option linter.unusedSimpArgs false

def isIntT (P : Program) (t : TypeId) : Option IntKind := match P.underlying t with | some (.int k) => some k | _ => none
def elemT (P : Program) (t : TypeId) : Option TypeId := match P.underlying t with | some (.slice e) => some e | _ => none
def arrT (P : Program) (t : TypeId) : Option (Nat × TypeId) := match P.underlying t with | some (.array n e) => some (n, e) | _ => none
def structT (P : Program) (t : TypeId) : Option (Array Field) := match P.underlying t with | some (.struct fs) => some fs | _ => none
theorem isIntT_sound {P : Program} {t : TypeId} {k : IntKind} (h : isIntT P t = some k) : P.underlying t = some (.int k) := by
  unfold isIntT at h; split at h <;> simp at h; subst h; assumption
theorem elemT_sound {P : Program} {t : TypeId} {k : TypeId} (h : elemT P t = some k) : P.underlying t = some (.slice k) := by
  unfold elemT at h; split at h <;> simp at h; subst h; assumption
theorem arrT_sound {P : Program} {t : TypeId} {n e : Nat} (h : arrT P t = some (n, e)) : P.underlying t = some (.array n e) := by
  unfold arrT at h; split at h <;> simp at h; obtain ⟨rfl, rfl⟩ := h; assumption
theorem structT_sound {P : Program} {t : TypeId} {k : Array Field} (h : structT P t = some k) : P.underlying t = some (.struct k) := by
  unfold structT at h; split at h <;> simp at h; subst h; assumption
/-- A number behind an option. -/
def on {α : Type} (x : Option α) (K : α → Prop) : Prop := match x with
  | some a => K a
  | none => False
theorem on_sound {α : Type} {x : Option α} {K : α → Prop} (h : on x K) : ∃ a, x = some a ∧ K a := by
  cases x with
  | none => exact h.elim
  | some a => exact ⟨a, rfl, h⟩
def vPtr (v : Value) (K : Option Addr → Prop) : Prop := match v with | .pointer p => K p | _ => False
def vAddr (v : Value) (K : Addr → Prop) : Prop := match v with | .pointer (some a) => K a | _ => False
def vBool (v : Value) (K : Bool → Prop) : Prop := match v with | .bool b => K b | _ => False
def vInt (v : Value) (K : IntKind → Int → Prop) : Prop := match v with | .int k n => K k n | _ => False
def vSl (v : Value) (K : Option Addr → Nat → Nat → Prop) : Prop := match v with | .slice p n c => K p n c | _ => False
def vStr (v : Value) (K : ByteArray → Prop) : Prop := match v with | .string s => K s | _ => False
def vAgg (v : Value) (K : Array Value → Prop) : Prop := match v with | .agg cs => K cs | _ => False
def vTup (v : Value) (K : Array Value → Prop) : Prop := match v with | .tuple cs => K cs | _ => False
theorem vPtr_sound {v : Value} {K} (h : vPtr v K) : ∃ p, v = .pointer p ∧ K p := by cases v <;> first | exact h.elim | exact ⟨_, rfl, h⟩
theorem vAddr_sound {v : Value} {K} (h : vAddr v K) : ∃ p, v = .pointer (some p) ∧ K p := by
  unfold vAddr at h; split at h
  · exact ⟨_, rfl, h⟩
  · exact h.elim
theorem vBool_sound {v : Value} {K} (h : vBool v K) : ∃ p, v = .bool p ∧ K p := by cases v <;> first | exact h.elim | exact ⟨_, rfl, h⟩
theorem vInt_sound {v : Value} {K} (h : vInt v K) : ∃ k n, v = .int k n ∧ K k n := by cases v <;> first | exact h.elim | exact ⟨_, _, rfl, h⟩
theorem vSl_sound {v : Value} {K} (h : vSl v K) : ∃ p n c, v = .slice p n c ∧ K p n c := by cases v <;> first | exact h.elim | exact ⟨_, _, _, rfl, h⟩
theorem vStr_sound {v : Value} {K} (h : vStr v K) : ∃ p, v = .string p ∧ K p := by cases v <;> first | exact h.elim | exact ⟨_, rfl, h⟩
theorem vAgg_sound {v : Value} {K} (h : vAgg v K) : ∃ p, v = .agg p ∧ K p := by cases v <;> first | exact h.elim | exact ⟨_, rfl, h⟩
theorem vTup_sound {v : Value} {K} (h : vTup v K) : ∃ p, v = .tuple p ∧ K p := by cases v <;> first | exact h.elim | exact ⟨_, rfl, h⟩

def slp (size : Nat) (s : Sl) (l : Nat) : Option Addr := if s.cap = l then s.ptr else s.ptr.map (·.add (l * size))
def slTo (s : Sl) (b : Int) (K : Sl → Prop) : Prop := 0 ≤ b ∧ b ≤ (s.cap : Int) ∧ K ⟨s.ptr, b.toNat, s.cap⟩
def slFrom (size : Nat) (s : Sl) (a : Int) (K : Sl → Prop) : Prop := 0 ≤ a ∧ a ≤ (s.len : Int) ∧ K ⟨slp size s a.toNat, s.len - a.toNat, s.cap - a.toNat⟩
def slFT (size : Nat) (s : Sl) (a b : Int) (K : Sl → Prop) : Prop := 0 ≤ a ∧ a ≤ b ∧ b ≤ (s.cap : Int) ∧ K ⟨slp size s a.toNat, b.toNat - a.toNat, s.cap - a.toNat⟩
def slM (size : Nat) (s : Sl) (a b m : Int) (K : Sl → Prop) : Prop := 0 ≤ a ∧ a ≤ b ∧ b ≤ m ∧ m ≤ (s.cap : Int) ∧
  K ⟨if m.toNat = a.toNat then s.ptr else s.ptr.map (·.add (a.toNat * size)), b.toNat - a.toNat, m.toNat - a.toNat⟩
def stTo (s : ByteArray) (b : Int) (K : ByteArray → Prop) : Prop := 0 ≤ b ∧ b ≤ (s.size : Int) ∧ K (s.extract 0 b.toNat)
def stFrom (s : ByteArray) (a : Int) (K : ByteArray → Prop) : Prop := 0 ≤ a ∧ a ≤ (s.size : Int) ∧ K (s.extract a.toNat s.size)
def stFT (s : ByteArray) (a b : Int) (K : ByteArray → Prop) : Prop := 0 ≤ a ∧ a ≤ b ∧ b ≤ (s.size : Int) ∧ K (s.extract a.toNat b.toNat)
def slv (K : Value → Prop) (s : Sl) : Prop := K (.slice s.ptr s.len s.cap)
def dSlice (P : Program) (env : Env) (t : TypeId) (x : Value) (lo hi : Option Operand) (K : Value → Prop) : Prop :=
  match P.underlying t with
  | some (.slice e) => on (sizeT P e) fun size => vSl x fun p n c => match lo, hi with
      | none, none => K (.slice p n c)
      | none, some b => ev1 env b fun b => vInt b fun _ b => slTo ⟨p, n, c⟩ b (slv K)
      | some a, none => ev1 env a fun a => vInt a fun _ a => slFrom size ⟨p, n, c⟩ a (slv K)
      | some a, some b => ev1 env a fun a => vInt a fun _ a => ev1 env b fun b => vInt b fun _ b => slFT size ⟨p, n, c⟩ a b (slv K)
  | some (.array n e) => on (sizeT P e) fun size => vAddr x fun p => match lo, hi with
      | none, none => K (.slice (some p) n n)
      | none, some b => ev1 env b fun b => vInt b fun _ b => slTo ⟨some p, n, n⟩ b (slv K)
      | some a, none => ev1 env a fun a => vInt a fun _ a => slFrom size ⟨some p, n, n⟩ a (slv K)
      | some a, some b => ev1 env a fun a => vInt a fun _ a => ev1 env b fun b => vInt b fun _ b => slFT size ⟨some p, n, n⟩ a b (slv K)
  | some .string => vStr x fun s => match lo, hi with
      | none, none => K (.string (s.extract 0 s.size))
      | none, some b => ev1 env b fun b => vInt b fun _ b => stTo s b fun s => K (.string s)
      | some a, none => ev1 env a fun a => vInt a fun _ a => stFrom s a fun s => K (.string s)
      | some a, some b => ev1 env a fun a => vInt a fun _ a => ev1 env b fun b => vInt b fun _ b => stFT s a b fun s => K (.string s)
  | _ => False
theorem run_bound {P : Program} {k : IntKind} {b : Int} {y : Nat} {code : BoundsCode} (h0 : 0 ≤ b) (h1 : b ≤ (y : Int)) (w : World) : (Instr.sliceBound (.int k b) y code).run P w = .ok b.toNat w := by
  simp [Instr.sliceBound, asIntOf, h0, h1]
theorem slp_eq (size : Nat) (p : Option Addr) (n c l : Nat) : slp size ⟨p, n, c⟩ l = if c = l then p else p.map (·.add (l * size)) := rfl
theorem slp_zero (size : Nat) (p : Option Addr) (c : Nat) : (if c = 0 then p else p.map (·.add (0 * size))) = p := by
  split
  · rfl
  · cases p <;> simp [Addr.add]
theorem dSlice_sound {P : Program} {env : Env} {t : TypeId} {x : Value} {lo hi : Option Operand} {K : Value → Prop} (h : dSlice P env t x lo hi K) :
    ∃ v, K v ∧ ∀ (a : Act) (w : World), (∀ y ∈ lo.toList ++ hi.toList, ∀ u, ev env y = some u → a.eval y = u) → (Instr.sliceAt t x (lo.map a.eval) (hi.map a.eval) none).run P w = .ok v w := by
  unfold dSlice at h
  split at h
  · rename_i e hu
    replace h := on_sound h; obtain ⟨size, hs, h⟩ := h
    replace h := vSl_sound h; obtain ⟨p, n, c, rfl, h⟩ := h
    split at h
    · refine ⟨_, h, fun a w he => ?_⟩
      simp only [Instr.sliceAt, Instr.slice, Instr.sliceBounds, Option.map_none, Sem.run_bind, run_underlying hu, Result.andThen_ok, Sem.run_pure, run_sizeT hs, slp_zero, Nat.sub_zero]
    · rename_i b
      replace h := ev1_sound h; obtain ⟨vb, hb, h⟩ := h
      replace h := vInt_sound h; obtain ⟨k, b', rfl, h⟩ := h
      refine ⟨_, h.2.2, fun a w he => ?_⟩
      have eb := he b (by simp) _ hb
      simp only [Instr.sliceAt, Instr.slice, Instr.sliceBounds, Option.map_none, Option.map_some, eb, Sem.run_bind, run_underlying hu, Result.andThen_ok, Sem.run_pure, run_sizeT hs, slp_zero, Nat.sub_zero, run_bound h.1 h.2.1]
    · rename_i b
      replace h := ev1_sound h; obtain ⟨vb, hb, h⟩ := h
      replace h := vInt_sound h; obtain ⟨k, b', rfl, h⟩ := h
      refine ⟨_, h.2.2, fun a w he => ?_⟩
      have eb := he b (by simp) _ hb
      simp only [Instr.sliceAt, Instr.slice, Instr.sliceBounds, Option.map_none, Option.map_some, eb, Sem.run_bind, run_underlying hu, Result.andThen_ok, Sem.run_pure, run_sizeT hs, Option.isSome_none, run_bound h.1 h.2.1, slp_eq]
    · rename_i b d
      replace h := ev1_sound h; obtain ⟨vb, hb, h⟩ := h
      replace h := vInt_sound h; obtain ⟨k, b', rfl, h⟩ := h
      replace h := ev1_sound h; obtain ⟨vd, hd, h⟩ := h
      replace h := vInt_sound h; obtain ⟨k', d', rfl, h⟩ := h
      refine ⟨_, h.2.2.2, fun a w he => ?_⟩
      have eb := he b (by simp) _ hb
      have ed := he d (by simp) _ hd
      have h0 := h.1; have h1 := h.2.1; have h2 := h.2.2.1
      simp only [Instr.sliceAt, Instr.slice, Instr.sliceBounds, Option.map_none, Option.map_some, eb, ed, Sem.run_bind, run_underlying hu, Result.andThen_ok, Sem.run_pure, run_sizeT hs, Option.isSome_none, run_bound (show (0 : Int) ≤ d' by omega) h2, run_bound h0 (show b' ≤ (d'.toNat : Int) by omega), slp_eq]
  · rename_i n e hu
    replace h := on_sound h; obtain ⟨size, hs, h⟩ := h
    replace h := vAddr_sound h; obtain ⟨p, rfl, h⟩ := h
    have hif : ∀ l : Nat, (some (if n = l then p else p.add (l * size)) : Option Addr) = slp size ⟨some p, n, n⟩ l := fun l => by simp only [slp_eq]; split <;> rfl
    have hz : (some (if n = 0 then p else p.add (0 * size)) : Option Addr) = some p := by rw [hif 0, slp_eq, slp_zero]
    split at h
    · refine ⟨_, h, fun a w he => ?_⟩
      simp only [Instr.sliceAt, Instr.sureAddr, Instr.sliceBounds, Option.map_none, Sem.run_bind, run_underlying hu, Result.andThen_ok, Sem.run_pure, run_sizeT hs, hz, Nat.sub_zero]
    · rename_i b
      replace h := ev1_sound h; obtain ⟨vb, hb, h⟩ := h
      replace h := vInt_sound h; obtain ⟨k, b', rfl, h⟩ := h
      refine ⟨_, h.2.2, fun a w he => ?_⟩
      have eb := he b (by simp) _ hb
      simp only [Instr.sliceAt, Instr.sureAddr, Instr.sliceBounds, Option.map_none, Option.map_some, eb, Sem.run_bind, run_underlying hu, Result.andThen_ok, Sem.run_pure, run_sizeT hs, hz, Nat.sub_zero, run_bound h.1 h.2.1]
    · rename_i b
      replace h := ev1_sound h; obtain ⟨vb, hb, h⟩ := h
      replace h := vInt_sound h; obtain ⟨k, b', rfl, h⟩ := h
      refine ⟨_, h.2.2, fun a w he => ?_⟩
      have eb := he b (by simp) _ hb
      simp only [Instr.sliceAt, Instr.sureAddr, Instr.sliceBounds, Option.map_none, Option.map_some, eb, Sem.run_bind, run_underlying hu, Result.andThen_ok, Sem.run_pure, run_sizeT hs, Option.isSome_none, run_bound h.1 h.2.1, hif]
    · rename_i b d
      replace h := ev1_sound h; obtain ⟨vb, hb, h⟩ := h
      replace h := vInt_sound h; obtain ⟨k, b', rfl, h⟩ := h
      replace h := ev1_sound h; obtain ⟨vd, hd, h⟩ := h
      replace h := vInt_sound h; obtain ⟨k', d', rfl, h⟩ := h
      refine ⟨_, h.2.2.2, fun a w he => ?_⟩
      have eb := he b (by simp) _ hb
      have ed := he d (by simp) _ hd
      have h0 := h.1; have h1 := h.2.1; have h2 := h.2.2.1
      simp only [Instr.sliceAt, Instr.sureAddr, Instr.sliceBounds, Option.map_none, Option.map_some, eb, ed, Sem.run_bind, run_underlying hu, Result.andThen_ok, Sem.run_pure, run_sizeT hs, Option.isSome_none, run_bound (show (0 : Int) ≤ d' by omega) h2, run_bound h0 (show b' ≤ (d'.toNat : Int) by omega), hif]
  · rename_i hu
    replace h := vStr_sound h; obtain ⟨s, rfl, h⟩ := h
    split at h
    · refine ⟨_, h, fun a w he => ?_⟩
      simp only [Instr.sliceAt, Instr.slice, Instr.sliceBounds, Option.map_none, Sem.run_bind, run_underlying hu, Result.andThen_ok, Sem.run_pure, Option.isSome_none, Bool.false_eq_true, if_false]
    · rename_i b
      replace h := ev1_sound h; obtain ⟨vb, hb, h⟩ := h
      replace h := vInt_sound h; obtain ⟨k, b', rfl, h⟩ := h
      refine ⟨_, h.2.2, fun a w he => ?_⟩
      have eb := he b (by simp) _ hb
      simp only [Instr.sliceAt, Instr.slice, Instr.sliceBounds, Option.map_none, Option.map_some, eb, Sem.run_bind, run_underlying hu, Result.andThen_ok, Sem.run_pure, Option.isSome_none, Bool.false_eq_true, if_false, run_bound h.1 h.2.1]
    · rename_i b
      replace h := ev1_sound h; obtain ⟨vb, hb, h⟩ := h
      replace h := vInt_sound h; obtain ⟨k, b', rfl, h⟩ := h
      refine ⟨_, h.2.2, fun a w he => ?_⟩
      have eb := he b (by simp) _ hb
      simp only [Instr.sliceAt, Instr.slice, Instr.sliceBounds, Option.map_none, Option.map_some, eb, Sem.run_bind, run_underlying hu, Result.andThen_ok, Sem.run_pure, Option.isSome_none, Bool.false_eq_true, if_false, run_bound h.1 h.2.1]
    · rename_i b d
      replace h := ev1_sound h; obtain ⟨vb, hb, h⟩ := h
      replace h := vInt_sound h; obtain ⟨k, b', rfl, h⟩ := h
      replace h := ev1_sound h; obtain ⟨vd, hd, h⟩ := h
      replace h := vInt_sound h; obtain ⟨k', d', rfl, h⟩ := h
      refine ⟨_, h.2.2.2, fun a w he => ?_⟩
      have eb := he b (by simp) _ hb
      have ed := he d (by simp) _ hd
      have h0 := h.1; have h1 := h.2.1; have h2 := h.2.2.1
      simp only [Instr.sliceAt, Instr.slice, Instr.sliceBounds, Option.map_none, Option.map_some, eb, ed, Sem.run_bind, run_underlying hu, Result.andThen_ok, Sem.run_pure, Option.isSome_none, Bool.false_eq_true, if_false, run_bound (show (0 : Int) ≤ d' by omega) h2, run_bound h0 (show b' ≤ (d'.toNat : Int) by omega)]
  · exact h.elim
def dSlice3 (P : Program) (env : Env) (t : TypeId) (x : Value) (lo hi mx : Operand) (K : Value → Prop) : Prop :=
  on (elemT P t) fun e => on (sizeT P e) fun size => vSl x fun p n c =>
    ev1 env lo fun a => vInt a fun _ a => ev1 env hi fun b => vInt b fun _ b => ev1 env mx fun m => vInt m fun _ m => slM size ⟨p, n, c⟩ a b m (slv K)
theorem dSlice3_sound {P : Program} {env : Env} {t : TypeId} {x : Value} {lo hi mx : Operand} {K : Value → Prop} (h : dSlice3 P env t x lo hi mx K) :
    ∃ v, K v ∧ ∀ (a : Act) (w : World), (∀ y ∈ [lo, hi, mx], ∀ u, ev env y = some u → a.eval y = u) → (Instr.sliceAt t x (some (a.eval lo)) (some (a.eval hi)) (some (a.eval mx))).run P w = .ok v w := by
  unfold dSlice3 at h
  replace h := on_sound h; obtain ⟨e, hu, h⟩ := h
  replace h := on_sound h; obtain ⟨size, hs, h⟩ := h
  replace h := vSl_sound h; obtain ⟨p, n, c, rfl, h⟩ := h
  replace h := ev1_sound h; obtain ⟨va, ha, h⟩ := h
  replace h := vInt_sound h; obtain ⟨k, a', rfl, h⟩ := h
  replace h := ev1_sound h; obtain ⟨vb, hb, h⟩ := h
  replace h := vInt_sound h; obtain ⟨k', b', rfl, h⟩ := h
  replace h := ev1_sound h; obtain ⟨vm, hm, h⟩ := h
  replace h := vInt_sound h; obtain ⟨k'', m', rfl, h⟩ := h
  obtain ⟨h0, h1, h2, h3, hK⟩ := h
  refine ⟨_, hK, fun a w he => ?_⟩
  have ea := he lo (by simp) _ ha
  have eb := he hi (by simp) _ hb
  have em := he mx (by simp) _ hm
  simp only at h3
  simp only [Instr.sliceAt, Instr.slice, Instr.sliceBounds, ea, eb, em, Sem.run_bind, run_underlying (elemT_sound hu), Result.andThen_ok, Sem.run_pure, run_sizeT hs,
    run_bound (show (0 : Int) ≤ m' by omega) h3, run_bound (show (0 : Int) ≤ b' by omega) (show b' ≤ (m'.toNat : Int) by omega), run_bound h0 (show a' ≤ (b'.toNat : Int) by omega)]
end Go.Proofs.YthiginhigfieiaaGreatDoor.V
/-
  A VIEW OF THE MACHINE AS A PREDICATE TRANSFORMER OVER THE HEAP. Part 4: 'dQ' for all operations that change nothing.
-/
namespace Go.Proofs.YthiginhigfieiaaGreatDoor.V
open Go Go.RowKit
set_option linter.unusedVariables false
set_option linter.unusedSimpArgs false

def isU8 (P : Program) (t : TypeId) : Bool := match P.underlying t with | some (.int .u8) => true | _ => false
theorem isU8_sound {P : Program} {t : TypeId} (h : isU8 P t = true) : P.underlying t = some (.int .u8) := by
  unfold isU8 at h; split at h <;> simp at h; assumption
def b2s (p : Option Addr) (n : Nat) (h : Heap) (K : ByteArray → Prop) : Prop := ∃ xs : List Int, rdP h p n = some (xs.map (Value.int .u8)) ∧ K (bytesOfInts xs)
def dConvQ (P : Program) (s d : TypeId) (v : Value) (h : Heap) (K : Value → Prop) : Prop :=
  match P.underlying s, P.underlying d with
  | some _, some (.int k) => vInt v fun _ n => K (.int k (k.wrap n))
  | some (.slice e), some .string => chk (isU8 P e) (vSl v fun p n _ => b2s p n h fun s => K (.string s))
  | some .string, some .string => vStr v fun s => K (.string s)
  | _, _ => False
theorem push_toArray (xs : List Int) : ∀ (r : ByteArray), xs.foldl (fun r n => r.push (UInt8.ofNat n.toNat)) r = ⟨r.data ++ (xs.map fun n => UInt8.ofNat n.toNat).toArray⟩ := by
  induction xs with
  | nil => intro r; simp
  | cons x xs ih => intro r; rw [List.foldl_cons, ih]; simp [ByteArray.push]
theorem rdP_map {h : Heap} {p : Option Addr} {n : Nat} {xs : List Int} (e : rdP h p n = some (xs.map (Value.int .u8))) : p = none → xs = [] := by
  rintro rfl; simpa [rdP] using e
theorem dConvQ_sound {P : Program} {s d : TypeId} {v : Value} {h : Heap} {K : Value → Prop} (hh : dConvQ P s d v h K) :
    ∃ u, K u ∧ ∀ w : World, (∀ p n c, v = .slice p n c → rdP w.heap p n = rdP h p n) → (convert s d v).run P w = .ok u w := by
  unfold dConvQ at hh
  split at hh
  · rename_i ds k hs hd
    replace hh := vInt_sound hh; obtain ⟨k', n, rfl, hh⟩ := hh
    exact ⟨_, hh, fun w _ => by simp [convert, run_underlying hs, run_underlying hd, Conv.intToInt]⟩
  · rename_i e hs hd
    replace hh := chk_sound hh; obtain ⟨he, hh⟩ := hh
    replace hh := vSl_sound hh; obtain ⟨p, n, c, rfl, hh⟩ := hh
    obtain ⟨xs, hx, hK⟩ := hh
    refine ⟨_, hK, fun w hw => ?_⟩
    rw [run_convert_bytes_string w s d e p n c hs (isU8_sound he) hd]
    rw [← hw p n c rfl] at hx
    cases p with
    | none =>
      have := rdP_map hx rfl; subst this
      simp [Conv.bytesToString, bytesOfInts]; rfl
    | some a =>
      rw [run_bytesToString w a n c xs (run_loadCells_rd hx), push_toArray]
      simp [bytesOfInts, ByteArray.empty, ByteArray.emptyWithCapacity]
      rfl
  · rename_i hs hd
    replace hh := vStr_sound hh; obtain ⟨b, rfl, hh⟩ := hh
    exact ⟨_, hh, fun w _ => by simp [convert, run_underlying hs, run_underlying hd]⟩
  · exact hh.elim

def evs (env : Env) : List Operand → (List Value → Prop) → Prop
  | [], K => K []
  | x :: xs, K => ev1 env x fun v => evs env xs fun vs => K (v :: vs)
theorem evs_sound {env : Env} : ∀ {xs : List Operand} {K : List Value → Prop}, evs env xs K → ∃ vs, K vs ∧ ∀ (a : Act), (∀ y ∈ xs, ∀ u, ev env y = some u → a.eval y = u) → xs.map a.eval = vs
  | [], K, h => ⟨[], h, fun _ _ => rfl⟩
  | x :: xs, K, h => by
    replace h := ev1_sound h; obtain ⟨v, hv, h⟩ := h
    replace h := evs_sound (xs := xs) (K := fun vs => K (v :: vs)) h; obtain ⟨vs, hK, hs⟩ := h
    refine ⟨_, hK, fun a he => ?_⟩
    rw [List.map_cons, he x (by simp) v hv, hs a (fun y hy => he y (by simp [hy]))]
def dLen (P : Program) (t : TypeId) (v : Value) (K : Value → Prop) : Prop :=
  match P.underlying t with
  | some .string => vStr v fun s => K (.int .i64 (s.size : Int))
  | some (.slice _) => vSl v fun _ n _ => K (.int .i64 (n : Int))
  | some (.array n _) => K (.int .i64 (n : Int))
  | some (.pointer e) => on (arrT P e) fun x => K (.int .i64 (x.1 : Int))
  | _ => False
def dCap (P : Program) (t : TypeId) (v : Value) (K : Value → Prop) : Prop :=
  match P.underlying t with
  | some (.slice _) => vSl v fun _ _ n => K (.int .i64 (n : Int))
  | _ => False
/-- A builtin that changes nothing, at values. -/
def dBuiltQ (P : Program) (b : Builtin) (ts : List TypeId) (vs : List Value) (K : Value → Prop) : Prop :=
  match b, ts, vs with
  | .len, t :: _, v :: _ => dLen P t v K
  | .cap, t :: _, v :: _ => dCap P t v K
  | .max, _, [x, y] => vInt x fun k a => vInt y fun _ b => K (.int k (if b > a then b else a))
  | .min, _, [x, y] => vInt x fun k a => vInt y fun _ b => K (.int k (if b < a then b else a))
  | _, _, _ => False
theorem dBuiltQ_sound {P : Program} {b : Builtin} {ts : Array TypeId} {vs : List Value} {K : Value → Prop} (h : dBuiltQ P b ts.toList vs K) :
    ∃ u, K u ∧ ∀ (ty : TypeId) (cs : Array Bool) (w : World), (builtin b ts ty cs vs.toArray).run P w = .ok (.value u) w := by
  unfold dBuiltQ at h
  split at h
  · rename_i t ts' v vs' hts
    have e0 : ts[0]? = some t := by rw [← Array.getElem?_toList, hts]; rfl
    unfold dLen at h
    split at h
    · rename_i hu
      replace h := vStr_sound h; obtain ⟨s, rfl, h⟩ := h
      exact ⟨_, h, fun ty cs w => by simp [builtin, Builtin.len_, e0, run_underlying hu, goInt]⟩
    · rename_i hu
      replace h := vSl_sound h; obtain ⟨p, n, c, rfl, h⟩ := h
      exact ⟨_, h, fun ty cs w => by simp [builtin, Builtin.len_, e0, run_underlying hu, goInt]⟩
    · rename_i hu
      exact ⟨_, h, fun ty cs w => by simp [builtin, Builtin.len_, e0, run_underlying hu, goInt]⟩
    · rename_i hu
      replace h := on_sound h; obtain ⟨⟨n, e⟩, he, h⟩ := h
      exact ⟨_, h, fun ty cs w => by simp [builtin, Builtin.len_, e0, run_underlying hu, run_underlying (arrT_sound he), goInt]⟩
    · exact h.elim
  · rename_i t ts' v vs' hts
    have e0 : ts[0]? = some t := by rw [← Array.getElem?_toList, hts]; rfl
    unfold dCap at h
    split at h
    · rename_i hu
      replace h := vSl_sound h; obtain ⟨p, n, c, rfl, h⟩ := h
      exact ⟨_, h, fun ty cs w => by simp [builtin, Builtin.cap_, e0, run_underlying hu, goInt]⟩
    · exact h.elim
  · replace h := vInt_sound h; obtain ⟨k, a, rfl, h⟩ := h
    replace h := vInt_sound h; obtain ⟨k', b', rfl, h⟩ := h
    exact ⟨_, h, fun ty cs w => by simp [builtin, Builtin.max_, Builtin.max2]⟩
  · replace h := vInt_sound h; obtain ⟨k, a, rfl, h⟩ := h
    replace h := vInt_sound h; obtain ⟨k', b', rfl, h⟩ := h
    exact ⟨_, h, fun ty cs w => by simp [builtin, Builtin.min_, Builtin.min2]⟩
  · exact h.elim

def evP (env : Env) : List (Nat × Operand) → (List (Nat × Value) → Prop) → Prop
  | [], K => K []
  | (i, x) :: xs, K => ev1 env x fun v => evP env xs fun vs => K ((i, v) :: vs)
theorem evP_sound {env : Env} : ∀ {xs : List (Nat × Operand)} {K : List (Nat × Value) → Prop}, evP env xs K →
    ∃ vs, K vs ∧ ∀ (a : Act), (∀ y ∈ xs.map (·.2), ∀ u, ev env y = some u → a.eval y = u) → xs.map (fun (i, x) => (i, a.eval x)) = vs
  | [], K, h => ⟨[], h, fun _ _ => rfl⟩
  | (i, x) :: xs, K, h => by
    replace h := ev1_sound h; obtain ⟨v, hv, h⟩ := h
    replace h := evP_sound (xs := xs) (K := fun vs => K ((i, v) :: vs)) h; obtain ⟨vs, hK, hs⟩ := h
    refine ⟨_, hK, fun a he => ?_⟩
    rw [List.map_cons, hs a (fun y hy => he y (by simp only [List.map_cons, List.mem_cons]; exact .inr hy))]
    simp only [he x (by simp) v hv]
/-- Cells laid over others, from a place on. -/
def over : List Value → List Value → List Value
  | cs, [] => cs
  | _ :: cs, v :: vs => v :: over cs vs
  | [], _ => []
def spl : List Value → Nat → List Value → List Value
  | cs, 0, vs => over cs vs
  | c :: cs, n + 1, vs => c :: spl cs n vs
  | [], _, _ => []
theorem over_get : ∀ {cs vs : List Value} {j : Nat}, (over cs vs)[j]? = if j < vs.length ∧ j < cs.length then vs[j]? else cs[j]?
  | cs, [], j => by cases cs <;> simp [over]
  | [], v :: vs, j => by simp [over]
  | c :: cs, v :: vs, 0 => by simp [over]
  | c :: cs, v :: vs, j + 1 => by simp [over, over_get (cs := cs) (vs := vs)]
theorem spl_get : ∀ {cs vs : List Value} {n j : Nat}, (spl cs n vs)[j]? = if n ≤ j ∧ j < n + vs.length ∧ j < cs.length then vs[j - n]? else cs[j]?
  | cs, vs, 0, j => by cases cs <;> simp [spl, over_get]
  | [], vs, n + 1, j => by simp [spl]
  | c :: cs, vs, n + 1, 0 => by simp [spl]
  | c :: cs, vs, n + 1, j + 1 => by
    simp only [spl, List.getElem?_cons_succ, spl_get (cs := cs) (vs := vs) (n := n), List.length_cons, Nat.add_le_add_iff_right, Nat.add_sub_add_right]
    congr 1
    simp; omega
theorem foldl_get (off : Nat) : ∀ (vs : List Value) (k : Nat) (cs : Array Value) (j : Nat), ((vs.zipIdx k).foldl (fun (cs : Array Value) (x : Value × Nat) => cs.setIfInBounds (off + x.2) x.1) cs)[j]? =
    if off + k ≤ j ∧ j < off + k + vs.length ∧ j < cs.size then vs[j - (off + k)]? else cs[j]?
  | [], k, cs, j => by simp; omega
  | v :: vs, k, cs, j => by
    rw [List.zipIdx_cons, List.foldl_cons, foldl_get off vs (k + 1)]
    simp only [Array.getElem?_setIfInBounds, Array.size_setIfInBounds, List.length_cons]
    by_cases h1 : off + k = j
    · subst h1
      rw [if_neg (by omega), if_pos rfl]
      by_cases h2 : off + k < cs.size
      · rw [if_pos h2, if_pos (by omega)]; simp
      · rw [if_neg h2, if_neg (by omega)]; rw [Array.getElem?_eq_none (by omega)]
    · rw [if_neg h1]
      by_cases h3 : off + (k + 1) ≤ j ∧ j < off + (k + 1) + vs.length ∧ j < cs.size
      · rw [if_pos h3, if_pos (by omega), show j - (off + k) = (j - (off + (k + 1))) + 1 by omega]; simp
      · rw [if_neg h3, if_neg (by omega)]
theorem foldl_spl (off : Nat) (v : Array Value) (cs : List Value) : (v.zipIdx.foldl (fun (cs : Array Value) (x : Value × Nat) => cs.setIfInBounds (off + x.2) x.1) cs.toArray) = (spl cs off v.toList).toArray := by
  apply Array.ext_getElem?
  intro j
  have e : (spl cs off v.toList).toArray[j]? = (spl cs off v.toList)[j]? := by simp
  rw [e, ← Array.foldl_toList, Array.toList_zipIdx, foldl_get, spl_get]
  simp
def fillC (place : Nat → Option (Nat × Nat)) : List (Nat × Value) → List Value → (List Value → Prop) → Prop
  | [], cs, K => K cs
  | (i, v) :: rest, cs, K => on (place i) fun p => chk (Nat.beq v.cells.toList.length p.2 && Nat.ble (p.1 + p.2) cs.length) (forceL (spl cs p.1 v.cells.toList) fun cs => fillC place rest cs K)
theorem fillC_sound {place : Nat → Option (Nat × Nat)} : ∀ {ps : List (Nat × Value)} {cs : List Value} {K : List Value → Prop}, fillC place ps cs K → ∃ cells : Array Value, Instr.fill place cs.toArray ps = some cells ∧ K cells.toList
  | [], cs, K, h => ⟨cs.toArray, rfl, h⟩
  | (i, v) :: rest, cs, K, h => by
    simp only [fillC] at h
    replace h := on_sound h; obtain ⟨⟨off, size⟩, hp, h⟩ := h
    replace h := chk_sound h; obtain ⟨hc, h⟩ := h
    replace h := forceL_sound h
    obtain ⟨cells, hf, hK⟩ := fillC_sound h
    rw [Bool.and_eq_true] at hc
    have h1 := Nat.eq_of_beq_eq_true hc.1
    have h2 := Nat.le_of_ble_eq_true hc.2
    simp only [Array.length_toList] at h1
    refine ⟨cells, ?_, hK⟩
    unfold Instr.fill
    simp only [hp]
    have : ¬ ((decide (v.cells.size ≠ size) || decide (off + v.cells.size > cs.toArray.size)) = true) := by
      simp [h1]; simp at h2; omega
    rw [if_neg this, foldl_spl]
    exact hf
def placesT (P : Program) : List Field → Option (List (Nat × Nat))
  | [] => some []
  | f :: fs => match sizeT P f.type, placesT P fs with
    | some n, some r => some ((f.offset, n) :: r)
    | _, _ => none
theorem placesT_eq {P : Program} : ∀ (fs : List Field), fs.mapM (fun f => (P.info? f.type).map fun i => (f.offset, i.size)) = placesT P fs
  | [] => rfl
  | f :: fs => by
    simp only [List.mapM_cons, placesT, sizeT, placesT_eq fs]
    cases P.info? f.type with
    | none => rfl
    | some i => cases placesT P fs <;> rfl
def dBuild (P : Program) (t : TypeId) (ps : List (Nat × Value)) (K : Value → Prop) : Prop :=
  on (zeroT P t) fun z => match P.underlying t with
    | some (.array _ e) => on (sizeT P e) fun n => on (zeroT P e) fun _ => fillC (fun i => some (i * n, n)) ps z.cells.toList fun cs => K (.agg cs.toArray)
    | some (.struct fs) => on (placesT P fs.toList) fun pl => fillC (pl[·]?) ps z.cells.toList fun cs => K (.agg cs.toArray)
    | _ => False
theorem dBuild_sound {P : Program} {t : TypeId} {ps : List (Nat × Value)} {K : Value → Prop} (h : dBuild P t ps K) : ∃ cells, P.built t ps = some cells ∧ K (.agg cells) := by
  unfold dBuild at h
  replace h := on_sound h; obtain ⟨z, hz, h⟩ := h
  unfold zeroT at hz
  cases hi : P.info? t with
  | none => simp [hi] at hz
  | some it =>
    simp [hi] at hz
    split at h
    · rename_i e hu
      replace h := on_sound h; obtain ⟨n, hn, h⟩ := h
      replace h := on_sound h; obtain ⟨_, _, h⟩ := h
      obtain ⟨cells, hf, hK⟩ := fillC_sound h
      unfold sizeT at hn
      cases hie : P.info? e with
      | none => simp [hie] at hn
      | some ie =>
        simp [hie] at hn
        subst hn
        exact ⟨cells, by simp only [Program.built, hi, hu, hz, hie]; exact hf, hK⟩
    · rename_i fs hu
      replace h := on_sound h; obtain ⟨pl, hp, h⟩ := h
      obtain ⟨cells, hf, hK⟩ := fillC_sound h
      refine ⟨cells, ?_, hK⟩
      simp only [Program.built, hi, hu, hz, placesT_eq, hp]
      simpa using hf
    · exact h.elim

/-- An element's address. -/
def ixS (size : Nat) (s : Sl) (i : Int) (K : Addr → Prop) : Prop := ∃ a, s.ptr = some a ∧ 0 ≤ i ∧ i < (s.len : Int) ∧ K (a.add (i.toNat * size))
def ixA (size : Nat) (a : Addr) (n : Nat) (i : Int) (K : Addr → Prop) : Prop := 0 ≤ i ∧ i < (n : Int) ∧ K (a.add (i.toNat * size))
def dIndexAddr (P : Program) (t : TypeId) (x i : Value) (K : Value → Prop) : Prop :=
  match P.underlying t with
  | some (.slice e) => on (sizeT P e) fun size => vSl x fun p n c => vInt i fun _ i => ixS size ⟨p, n, c⟩ i fun a => K (.pointer (some a))
  | some (.array n e) => on (sizeT P e) fun size => vAddr x fun a => vInt i fun _ i => ixA size a n i fun a => K (.pointer (some a))
  | _ => False
theorem dIndexAddr_sound {P : Program} {t : TypeId} {x i : Value} {K : Value → Prop} (h : dIndexAddr P t x i K) :
    ∃ v, K v ∧ ∀ w : World, (Instr.indexAt t x i).run P w = .ok v w := by
  unfold dIndexAddr at h
  split at h
  · rename_i e hu
    replace h := on_sound h; obtain ⟨size, hs, h⟩ := h
    replace h := vSl_sound h; obtain ⟨p, n, c, rfl, h⟩ := h
    replace h := vInt_sound h; obtain ⟨k, i, rfl, h⟩ := h
    obtain ⟨a, hp, h0, h1, h⟩ := h
    simp only at hp h1; subst hp
    exact ⟨_, h, fun w => by simp [Instr.indexAt, asIntOf, run_underlying hu, run_sizeT hs, h0, h1]⟩
  · rename_i n e hu
    replace h := on_sound h; obtain ⟨size, hs, h⟩ := h
    replace h := vAddr_sound h; obtain ⟨a, rfl, h⟩ := h
    replace h := vInt_sound h; obtain ⟨k, i, rfl, h⟩ := h
    obtain ⟨h0, h1, h⟩ := h
    exact ⟨_, h, fun w => by simp [Instr.indexAt, asIntOf, Instr.sureAddr, run_underlying hu, run_sizeT hs, h0, h1]⟩
  · exact h.elim
/-- A byte of a string. -/
def stAt (s : ByteArray) (i : Int) (K : Int → Prop) : Prop := ∃ b : UInt8, 0 ≤ i ∧ s[i.toNat]? = some b ∧ K (b.toNat : Int)
/-- A part of an array or a struct. -/
def dPart (P : Program) (t : TypeId) (cs : List Value) (off : Nat) (K : Value → Prop) : Prop :=
  on (aggT P t) fun b => match b with
    | true => on (sizeT P t) fun size => forceL ((cs.drop off).take size) fun us => K (.agg us.toArray)
    | false => on cs[off]? K
theorem dPart_sound {P : Program} {t : TypeId} {cs : Array Value} {off : Nat} {K : Value → Prop} (h : dPart P t cs.toList off K) :
    ∃ v, K v ∧ ∀ w : World, (part t cs off).run P w = .ok v w := by
  unfold dPart at h
  replace h := on_sound h; obtain ⟨b, hb, h⟩ := h
  cases b with
  | true =>
    replace h := on_sound h; obtain ⟨size, hs, h⟩ := h
    replace h := forceL_sound h
    refine ⟨_, h, fun w => ?_⟩
    simp only [part, Sem.run_bind, run_isAgg hb, Result.andThen_ok, if_true, run_sizeT hs, Sem.run_pure]
    congr 2
    apply Array.ext'
    simp [List.take_drop]
  | false =>
    replace h := on_sound h; obtain ⟨v, hv, h⟩ := h
    refine ⟨v, h, fun w => ?_⟩
    rw [Array.getElem?_toList] at hv
    simp only [part, Sem.run_bind, run_isAgg hb, Result.andThen_ok, Bool.false_eq_true, if_false, hv, Sem.run_pure]
/-- A struct of an array, by an index. -/
def idxA (ks : List Kd) (size : Nat) (cs : List Value) (off : Nat) (K : Fn ks Prop) : Prop := decs ks ((cs.drop off).take size) K
def dIndex (P : Program) (t : TypeId) (x i : Value) (K : Value → Prop) : Prop :=
  match P.underlying t with
  | some .string => vStr x fun s => vInt i fun _ i => stAt s i fun b => K (.int .u8 b)
  | some (.array n e) => vAgg x fun cs => vInt i fun _ i => on (sizeT P e) fun size => 0 ≤ i ∧ i < (n : Int) ∧ (match aggT P e with
    | some true => on (leaves P 20 e) fun ks => idxA ks size cs.toList (i.toNat * size) (lam ks fun us => K (.agg us.toArray))
    | _ => dPart P e cs.toList (i.toNat * size) K)
  | _ => False
theorem dIndex_sound {P : Program} {t : TypeId} {x i : Value} {K : Value → Prop} (h : dIndex P t x i K) :
    ∃ v, K v ∧ ∀ w : World, (Instr.index t x i).run P w = .ok v w := by
  unfold dIndex at h
  split at h
  · rename_i hu
    replace h := vStr_sound h; obtain ⟨s, rfl, h⟩ := h
    replace h := vInt_sound h; obtain ⟨k, i, rfl, h⟩ := h
    obtain ⟨b, h0, hb, h⟩ := h
    exact ⟨_, h, fun w => by simp [Instr.index, asIntOf, run_underlying hu, h0, hb]⟩
  · rename_i n e hu
    replace h := vAgg_sound h; obtain ⟨cs, rfl, h⟩ := h
    replace h := vInt_sound h; obtain ⟨k, i, rfl, h⟩ := h
    replace h := on_sound h; obtain ⟨size, hs, h⟩ := h
    obtain ⟨h0, h1, h⟩ := h
    split at h
    · rename_i hb
      replace h := on_sound h; obtain ⟨ks, hks, h⟩ := h
      have h := decs_lam h
      have hr : ∀ w : World, (part e cs (i.toNat * size)).run P w = .ok (.agg ((cs.toList.drop (i.toNat * size)).take size).toArray) w := by
        intro w
        simp only [part, Sem.run_bind, run_isAgg hb, Result.andThen_ok, if_true, run_sizeT hs, Sem.run_pure]
        congr 2
        apply Array.ext'
        simp [List.take_drop]
      exact ⟨_, h, fun w => by simp [Instr.index, asIntOf, run_underlying hu, run_sizeT hs, h0, h1, hr]⟩
    · obtain ⟨v, hv, hr⟩ := dPart_sound h
      exact ⟨v, hv, fun w => by simp [Instr.index, asIntOf, run_underlying hu, run_sizeT hs, h0, h1, hr]⟩
  · exact h.elim
end Go.Proofs.YthiginhigfieiaaGreatDoor.V
/-
  MAPS WITH WHOLE NUMBERS AS KEYS, FUNCTION VALUES: what the operations on them give and do.
-/
namespace Go.Proofs.YthiginhigfieiaaGreatDoor.V
open Go Go.RowKit
set_option linter.unusedVariables false
set_option linter.unusedSimpArgs false

def mapAt (h : Heap) (m : Option Nat) : Option Obj := m.bind fun r => h[r]?
/-- Where a key stands. -/
def findM (kk : IntKind) (n : Int) (es : Array MapEntry) : Option (Option (Nat × Value)) := Instr.findNow (.int kk) (.int kk n) es.toList 0
def mgetV (kk : IntKind) (m : Option Nat) (n : Int) (z : Value) (h : Heap) (K : Value → Bool → Prop) : Prop :=
  match m with
  | none => K z false
  | some r => ∃ es c q, h[r]? = some (.map es c) ∧ findM kk n es = some q ∧ (match q with | some (_, v) => K v true | none => K z false)
def mg (kd : Kd) (kk : IntKind) (m : Option Nat) (n : Int) (z : Value) (h : Heap) (K : kd.T → Bool → Prop) : Prop := mgetV kk m n z h fun v ok => dec1 kd v fun x => K x ok
def vMap (v : Value) (K : Option Nat → Prop) : Prop := match v with | .map r => K r | _ => False
theorem vMap_sound {v : Value} {K} (h : vMap v K) : ∃ p, v = .map p ∧ K p := by cases v <;> first | exact h.elim | exact ⟨_, rfl, h⟩
def mapT (P : Program) (t : TypeId) : Option (TypeId × IntKind × TypeId) := match P.underlying t with
  | some (.map k e) => match isIntT P k with
    | some kk => some (k, kk, e)
    | none => none
  | _ => none
theorem mapT_sound {P : Program} {t k e : TypeId} {kk : IntKind} (h : mapT P t = some (k, kk, e)) : P.underlying t = some (.map k e) ∧ P.underlying k = some (.int kk) := by
  unfold mapT at h
  split at h
  · rename_i k' e' hu
    split at h
    · rename_i kk' hi
      simp only [Option.some.injEq, Prod.mk.injEq] at h
      obtain ⟨rfl, rfl, rfl⟩ := h
      exact ⟨hu, isIntT_sound hi⟩
    · cases h
  · cases h
def oneL (P : Program) (t : TypeId) : Option Kd := match leaves P 20 t with
  | some [k] => match aggT P t with
    | some false => some k
    | _ => none
  | _ => none
def dLookup (P : Program) (t : TypeId) (m k : Value) (ok : Bool) (h : Heap) (K : Value → Prop) : Prop :=
  on (mapT P t) fun ke => on (zeroT P ke.2.2) fun z => on (oneL P ke.2.2) fun kd => vMap m fun m => dec1 (.int ke.2.1) k fun n =>
    mg kd ke.2.1 m n z h fun x b => match ok with | true => K (.tuple #[kd.enc x, .bool b]) | false => K (kd.enc x)
theorem run_checkI {P : Program} {t : TypeId} {kk : IntKind} (hk : P.underlying t = some (.int kk)) (n : Int) (e : Bool) (w : World) : (Instr.checkKey e 10000 t (.int kk n)).run P w = .ok () w := by
  show (Instr.checkKey e (9999 + 1) t (.int kk n)).run P w = _
  unfold Instr.checkKey
  simp only [Sem.run_bind, run_underlying hk, Result.andThen_ok]; rfl
theorem run_findI {P : Program} {t : TypeId} {kk : IntKind} (hk : P.underlying t = some (.int kk)) {n : Int} {es : Array MapEntry} {q : Option (Nat × Value)} (h : findM kk n es = some q) (w : World) : (Instr.findKey t (.int kk n) es.toList).run P w = .ok q w := by
  have h' : Instr.findNow (.int kk) (.int kk n) es.toList 0 = some q := h
  simp only [Instr.findKey, Sem.run_bind, run_underlying hk, Result.andThen_ok, h', Sem.run_pure]
theorem run_getM {P : Program} {w : World} {r : Nat} {es : Array MapEntry} {c : Nat} (hb : w.heap[r]? = some (.map es c)) : (getObj r).run P w = .ok (.map es c) w := by simp [getObj, Sem.run, hb]
theorem run_setM {P : Program} {w : World} {r : Nat} {es : Array MapEntry} {c : Nat} (o : Obj) (hb : w.heap[r]? = some (.map es c)) : (setObj r o).run P w = .ok () { w with heap := w.heap.setIfInBounds r o } := by simp [setObj, Sem.run, hb]
theorem lk_fin {kd : Kd} {ok : Bool} {K : Value → Prop} {v : Value} {b : Bool} (hd : dec1 kd v (fun x => match ok with | true => K (.tuple #[kd.enc x, .bool b]) | false => K (kd.enc x))) : K (if ok = true then .tuple #[v, .bool b] else v) := by
  obtain ⟨x, rfl, h2⟩ := dec1_sound hd
  cases ok <;> exact h2
theorem dLookup_sound {P : Program} {t : TypeId} {m k : Value} {ok : Bool} {h : Heap} {K : Value → Prop} (hh : dLookup P t m k ok h K) :
    ∃ mm, m = .map mm ∧ ∃ u, K u ∧ ∀ w : World, mapAt w.heap mm = mapAt h mm → (Instr.lookup t m k ok).run P w = .ok u w := by
  replace hh := on_sound hh; obtain ⟨⟨kt, kk, e⟩, hm, hh⟩ := hh
  replace hh := on_sound hh; obtain ⟨z, hz, hh⟩ := hh
  replace hh := on_sound hh; obtain ⟨kd, hkd, hh⟩ := hh
  replace hh := vMap_sound hh; obtain ⟨mm, rfl, hh⟩ := hh
  replace hh := dec1_sound hh; obtain ⟨n, rfl, hh⟩ := hh
  obtain ⟨hu, hk⟩ := mapT_sound hm
  refine ⟨mm, rfl, ?_⟩
  cases mm with
  | none =>
    refine ⟨_, lk_fin (v := z) (b := false) hh, fun w _ => ?_⟩
    simp only [Instr.lookup, Sem.run_bind, run_underlying hu, Result.andThen_ok, Sem.run_pure, Kd.enc, run_checkI hk, run_zeroT hz]
    rw [show Instr.findKey kt (.int kk n) (#[] : Array MapEntry).toList = Instr.findKey kt (.int kk n) [] from rfl]
    rw [run_findI (es := #[]) (q := none) hk rfl]
    simp only [Sem.run_bind, run_zeroT hz, Result.andThen_ok, Sem.run_pure]
  | some r =>
    obtain ⟨es, c, q, hb, hf, hq⟩ := hh
    have get : ∀ w : World, mapAt w.heap (some r) = mapAt h (some r) → w.heap[r]? = some (.map es c) := fun w hw => Eq.trans hw hb
    match q, hf, hq with
    | some (i, v), hf, hq =>
      refine ⟨_, lk_fin (v := v) (b := true) hq, fun w hw => ?_⟩
      simp only [Instr.lookup, Sem.run_bind, run_underlying hu, Result.andThen_ok, Sem.run_pure, Kd.enc, run_checkI hk, run_getM (get w hw), run_findI hk hf]
    | none, hf, hq =>
      refine ⟨_, lk_fin (v := z) (b := false) hq, fun w hw => ?_⟩
      simp only [Instr.lookup, Sem.run_bind, run_underlying hu, Result.andThen_ok, Sem.run_pure, Kd.enc, run_checkI hk, run_getM (get w hw), run_findI hk hf, run_zeroT hz]
def mlen (m : Option Nat) (h : Heap) (K : Int → Prop) : Prop := match m with
  | none => K 0
  | some r => ∃ es c, h[r]? = some (.map es c) ∧ K ((es.size : Nat) : Int)
def isMapT (P : Program) (t : TypeId) : Bool := match P.underlying t with | some (.map _ _) => true | _ => false
def lenOfMap (P : Program) (c : Call) : Bool := match c.callee, c.argTypes.toList with
  | .builtin .len, [t] => isMapT P t
  | _, _ => false
def dLenM (vs : List Value) (h : Heap) (K : Value → Prop) : Prop := match vs with
  | [v] => vMap v fun m => mlen m h fun n => K (.int .i64 n)
  | _ => False
theorem dLenM_sound {P : Program} {c : Call} {vs : List Value} {h : Heap} {K : Value → Prop} (hc : lenOfMap P c = true) (hh : dLenM vs h K) :
    c.callee = .builtin .len ∧ ∃ mm, vs = [.map mm] ∧ ∃ u, K u ∧ ∀ (ty : TypeId) (cs : Array Bool) (w : World), mapAt w.heap mm = mapAt h mm → (builtin .len c.argTypes ty cs vs.toArray).run P w = .ok (.value u) w := by
  unfold lenOfMap at hc
  split at hc
  · rename_i t hb ht
    have ets : c.argTypes = #[t] := by rw [← Array.toList_inj]; exact ht
    refine ⟨hb, ?_⟩
    unfold dLenM at hh
    split at hh
    · rename_i v
      replace hh := vMap_sound hh; obtain ⟨mm, rfl, hh⟩ := hh
      refine ⟨mm, rfl, ?_⟩
      unfold isMapT at hc
      split at hc
      · rename_i k e hu
        cases mm with
        | none => exact ⟨_, hh, fun ty cs w _ => by simp [builtin, Builtin.len_, ets, run_underlying hu, goInt]⟩
        | some r =>
          obtain ⟨es, cl, hb, hK⟩ := hh
          refine ⟨_, hK, fun ty cs w hw => ?_⟩
          have hb' : w.heap[r]? = some (.map es cl) := Eq.trans hw hb
          simp [builtin, Builtin.len_, ets, run_underlying hu, run_getM hb', goInt]
      · cases hc
    · exact hh.elim
  · cases hc
def alM (h : Heap) (K : Nat → Heap → Prop) : Prop := K h.size (h.push (.map #[] 0))
def putM (es : Array MapEntry) (c : Nat) (q : Option (Nat × Value)) (k v : Value) : Obj := match q with
  | some (i, _) => .map (es.modify i fun e => { e with key := k, val := v }) c
  | none => .map (es.push { key := k, val := v, born := c }) (c + 1)
def mput (kk : IntKind) (m : Option Nat) (n : Int) (v : Value) (h : Heap) (K : Heap → Prop) : Prop := match m with
  | none => False
  | some r => ∃ es c q, h[r]? = some (.map es c) ∧ findM kk n es = some q ∧ K (h.setIfInBounds r (putM es c q (.int kk n) v))
def dMput (P : Program) (t : TypeId) (m k v : Value) (h : Heap) (K : Heap → Prop) : Prop :=
  on (mapT P t) fun ke => vMap m fun m => dec1 (.int ke.2.1) k fun n => mput ke.2.1 m n v h K
theorem findNow_key {kk : IntKind} {n : Int} : ∀ {es : List MapEntry} {i j : Nat} {v : Value}, Instr.findNow (.int kk) (.int kk n) es j = some (some (i, v)) → j ≤ i ∧ ∃ e, es[i - j]? = some e ∧ e.key = .int kk n
  | [], i, j, v, h => by simp [Instr.findNow] at h
  | e :: es, i, j, v, h => by
    unfold Instr.findNow at h
    split at h
    · rename_i hs
      simp only [Option.some.injEq, Prod.mk.injEq] at h
      obtain ⟨rfl, rfl⟩ := h
      refine ⟨Nat.le_refl _, e, by simp, ?_⟩
      unfold Instr.sameNow at hs
      split at hs
      · rename_i k' a k'' b h1 h2 h3
        split at hs
        · rename_i hk
          simp only [Option.some.injEq, beq_iff_eq] at hs
          rw [h2]
          simp_all
        · cases hs
      · rename_i h1 _ _; cases h1
      · rename_i h1 _ _; cases h1
      · cases hs
    · obtain ⟨h1, e', h2, h3⟩ := findNow_key h
      refine ⟨by omega, e', ?_, h3⟩
      rw [show i - j = (i - (j + 1)) + 1 by omega]
      simpa using h2
    · cases h
theorem dMput_sound {P : Program} {t : TypeId} {m k v : Value} {w : World} {K : Heap → Prop} (hh : dMput P t m k v w.heap K) :
    ∃ w', (Instr.mapUpdate t m k v).run P w = .ok () w' ∧ K w'.heap ∧ w'.os = w.os ∧ w'.tape = w.tape ∧ w'.output = w.output := by
  replace hh := on_sound hh; obtain ⟨⟨kt, kk, e⟩, hm, hh⟩ := hh
  replace hh := vMap_sound hh; obtain ⟨mm, rfl, hh⟩ := hh
  replace hh := dec1_sound hh; obtain ⟨n, rfl, hh⟩ := hh
  obtain ⟨hu, hk⟩ := mapT_sound hm
  cases mm with
  | none => exact hh.elim
  | some r =>
    obtain ⟨es, c, q, hb, hf, hK⟩ := hh
    refine ⟨{ w with heap := w.heap.setIfInBounds r (putM es c q (.int kk n) v) }, ?_, hK, rfl, rfl, rfl⟩
    match q, hf with
    | none, hf =>
      simp only [Instr.mapUpdate, Sem.run_bind, run_underlying hu, Result.andThen_ok, Kd.enc, run_checkI hk, run_getM hb, run_findI hk hf, run_setM _ hb]
      rfl
    | some (i, u), hf =>
      obtain ⟨_, e', he, hke⟩ := findNow_key (j := 0) hf
      rw [Nat.sub_zero, Array.getElem?_toList] at he
      have hs : Instr.keyThatStays (.int kk n) (.int kk n) = pure (.int kk n) := by
        unfold Instr.keyThatStays
        rw [show Instr.sameBits 10000 (.int kk n) (.int kk n) = true by show (kk == kk && n == n) = true; simp]
        rfl
      simp only [Instr.mapUpdate, Sem.run_bind, run_underlying hu, Result.andThen_ok, Kd.enc, run_checkI hk, run_getM hb, run_findI hk hf, he, Option.map_some, Option.getD_some, hke, hs, Sem.run_pure, run_setM _ hb]
      rfl
def mclr (m : Option Nat) (h : Heap) (K : Heap → Prop) : Prop := match m with
  | none => K h
  | some r => ∃ es c, h[r]? = some (.map es c) ∧ K (h.setIfInBounds r (.map #[] c))
end Go.Proofs.YthiginhigfieiaaGreatDoor.V
/-
  A VIEW OF THE MACHINE AS A PREDICATE TRANSFORMER OVER THE HEAP. Part 5: one operation: 'dQ' (it changes nothing), 'dE' (it changes the heap).
-/
namespace Go.Proofs.YthiginhigfieiaaGreatDoor.V
open Go Go.RowKit
set_option linter.unusedVariables false
set_option linter.unusedSimpArgs false

def slots (o : Op) : List Nat := o.operands.toList.filterMap fun | .tmp t => some t | _ => none
theorem mem_slots {o : Op} {t : Nat} (h : Operand.tmp t ∈ o.operands.toList) : t ∈ slots o := by
  unfold slots; rw [List.mem_filterMap]; exact ⟨_, h, rfl⟩
theorem ev_at {o : Op} {env : Env} {a : Act} (ha : AgrOn (· ∈ slots o) env a) {x : Operand} (hx : x ∈ o.operands.toList) {v : Value} (h : ev env x = some v) : a.eval x = v :=
  ev_sound h (fun t e => by subst e; exact mem_slots hx) ha
def dLoad (P : Program) (t : TypeId) (v : Value) (h : Heap) (K : Value → Prop) : Prop :=
  vAddr v fun a => on (aggT P t) fun b => on (leaves P 20 t) fun ks => match b with
    | true => chk (match sizeT P t with | some n => Nat.beq n ks.length | none => false) (ld ks a h (lam ks fun vs => K (.agg vs.toArray)))
    | false => match ks with
      | [k] => ld [k] a h fun x => K (k.enc x)
      | _ => False
theorem dLoad_sound {P : Program} {t : TypeId} {v : Value} {h : Heap} {K : Value → Prop} (hh : dLoad P t v h K) :
    ∃ a cs u, v = .pointer (some a) ∧ cellsAre h a cs ∧ K u ∧ u.cells.toList = cs ∧ ∀ w : World, cellsAre w.heap a cs → (Instr.loadAt t v).run P w = .ok u w := by
  unfold dLoad at hh
  replace hh := vAddr_sound hh; obtain ⟨a, rfl, hh⟩ := hh
  replace hh := on_sound hh; obtain ⟨b, hb, hh⟩ := hh
  replace hh := on_sound hh; obtain ⟨ks, hks, hh⟩ := hh
  cases b with
  | true =>
    dsimp only at hh
    replace hh := chk_sound hh; obtain ⟨hs, hh⟩ := hh
    split at hs <;> simp at hs
    rename_i n hn
    replace hh := ld_sound (K := fun vs => K (.agg vs.toArray)) hh; obtain ⟨vs, hl, hc, _, hK⟩ := hh
    refine ⟨a, vs, _, rfl, hc, hK, rfl, fun w hw => ?_⟩
    have hn' : sizeT P t = some vs.length := by rw [hn, hl, hs]
    simp only [Instr.loadAt, Instr.sureAddr, loadVar, Sem.run_bind, Sem.run_pure, Result.andThen_ok, run_isAgg hb, if_true, run_sizeT hn', run_loadCells_are hw]
  | false =>
    dsimp only at hh
    split at hh
    · obtain ⟨x, hc, hK⟩ := hh
      refine ⟨a, [_], _, rfl, ⟨hc, trivial⟩, hK, by rename_i k; cases k <;> first | rfl | (cases x <;> rfl), fun w hw => ?_⟩
      have h1 : w.cell? a = some _ := hw.1
      simp only [Instr.loadAt, Instr.sureAddr, loadVar, Sem.run_bind, Sem.run_pure, Result.andThen_ok, run_isAgg hb, Bool.false_eq_true, if_false, run_load, h1]
    · exact hh.elim
def dFieldAddr (P : Program) (t : TypeId) (v : Value) (f : Nat) (K : Value → Prop) : Prop :=
  on (structT P t) fun fs => on fs.toList[f]? fun fl => on (sizeT P fl.type) fun n => match n with
    | 0 => False
    | _ + 1 => vAddr v fun a => K (.pointer (some (a.add fl.offset)))
theorem dFieldAddr_sound {P : Program} {t : TypeId} {v : Value} {f : Nat} {K : Value → Prop} (h : dFieldAddr P t v f K) :
    ∃ u, K u ∧ ∀ w : World, (Instr.fieldAt t v f).run P w = .ok u w := by
  unfold dFieldAddr at h
  replace h := on_sound h; obtain ⟨fs, hfs, h⟩ := h
  replace h := on_sound h; obtain ⟨fl, hfl, h⟩ := h
  replace h := on_sound h; obtain ⟨n, hn, h⟩ := h
  rw [Array.getElem?_toList] at hfl
  split at h
  · exact h.elim
  · replace h := vAddr_sound h; obtain ⟨a, rfl, h⟩ := h
    exact ⟨_, h, fun w => by simp [Instr.fieldAt, run_underlying (structT_sound hfs), hfl, Instr.sureAddr, fieldPlace, run_sizeT hn]⟩
def dField (P : Program) (t : TypeId) (v : Value) (f : Nat) (K : Value → Prop) : Prop :=
  on (structT P t) fun fs => on fs.toList[f]? fun fl => vAgg v fun cs => dPart P fl.type cs.toList fl.offset K
theorem dField_sound {P : Program} {t : TypeId} {v : Value} {f : Nat} {K : Value → Prop} (h : dField P t v f K) :
    ∃ u, K u ∧ ∀ w : World, (Instr.field t v f).run P w = .ok u w := by
  unfold dField at h
  replace h := on_sound h; obtain ⟨fs, hfs, h⟩ := h
  replace h := on_sound h; obtain ⟨fl, hfl, h⟩ := h
  rw [Array.getElem?_toList] at hfl
  replace h := vAgg_sound h; obtain ⟨cs, rfl, h⟩ := h
  obtain ⟨v, hv, hr⟩ := dPart_sound h
  exact ⟨v, hv, fun w => by simp [Instr.field, run_underlying (structT_sound hfs), hfl, asAgg, hr]⟩
def dUn (op : UnOp) (v : Value) (K : Value → Prop) : Prop :=
  match op with
  | .not => vBool v fun b => K (.bool (!b))
  | .neg => vInt v fun k n => K (.int k (k.wrap (0 - n)))
  | .xor => vInt v fun k n => K (.int k (k.wrap (BitVec.ofInt k.bits (if k.signed then -1 else k.max) ^^^ BitVec.ofInt k.bits n).toNat))
  | _ => False
theorem dUn_sound {P : Program} {op : UnOp} {v : Value} {K : Value → Prop} (h : dUn op v K) : ∃ u, K u ∧ ∀ w : World, (Op.unary op v).run P w = .ok u w := by
  unfold dUn at h
  split at h
  · replace h := vBool_sound h; obtain ⟨b, rfl, h⟩ := h
    exact ⟨_, h, fun w => by simp [Op.unary]⟩
  · replace h := vInt_sound h; obtain ⟨k, n, rfl, h⟩ := h
    exact ⟨_, h, fun w => by simp [Op.unary, Op.intArith]⟩
  · replace h := vInt_sound h; obtain ⟨k, n, rfl, h⟩ := h
    exact ⟨_, h, fun w => by simp [Op.unary, Op.intBits]⟩
  · exact h.elim
/-- A function value against nil. -/
def isFuncT (P : Program) (t : TypeId) : Bool := match P.underlying t with | some (.func _ _ _) => true | _ => false
def dFnNil (P : Program) (op : BinOp) (t : TypeId) (x : Value) (K : Value → Prop) : Prop := dec1 .fn x fun f => match op with
  | .eql => chk (isFuncT P t) (K (.bool f.isNone))
  | .neq => chk (isFuncT P t) (K (.bool (!f.isNone)))
  | _ => False
theorem equal_fn {P : Program} {t : TypeId} {ps rs : Array TypeId} {va : Bool} (hu : P.underlying t = some (.func ps rs va)) (f : Option FV) (w : World) : (Op.equal t (Kd.fn.enc f) .nilFunc).run P w = .ok f.isNone w := by
  show (Op.equalIn (9999 + 1) t (Kd.fn.enc f) .nilFunc).run P w = _
  unfold Op.equalIn
  cases f <;> (simp only [Sem.run_bind, run_underlying hu, Result.andThen_ok, Kd.enc]; rfl)
theorem binOp_eqlF (t : TypeId) (f : Option FV) : binOp .eql t (Kd.fn.enc f) .nilFunc = (do pure (.bool (← Op.equal t (Kd.fn.enc f) .nilFunc))) := by cases f <;> rfl
theorem binOp_neqF (t : TypeId) (f : Option FV) : binOp .neq t (Kd.fn.enc f) .nilFunc = (do pure (.bool (!(← Op.equal t (Kd.fn.enc f) .nilFunc)))) := by cases f <;> rfl
theorem eqGuard_fn {op : BinOp} {t : TypeId} {ox oy : Operand} {f : Option FV} {v : Value} : eqGuard op t ox oy (Kd.fn.enc f) v = pure () := by
  cases f
  · exact eqGuard_at_nilFunc ..
  · exact eqGuard_at_func ..
theorem dFnNil_sound {P : Program} {op : BinOp} {t : TypeId} {x : Value} {K : Value → Prop} (h : dFnNil P op t x K) :
    ∃ v, K v ∧ ∀ (ox oy : Operand) (w : World), ((do eqGuard op t ox oy x .nilFunc; binOp op t x .nilFunc) : Sem Value).run P w = .ok v w := by
  replace h := dec1_sound h; obtain ⟨f, rfl, h⟩ := h
  split at h
  · replace h := chk_sound h; obtain ⟨e, hh⟩ := h
    refine ⟨_, hh, fun ox oy w => ?_⟩
    unfold isFuncT at e; split at e <;> simp at e
    rename_i hu
    rw [eqGuard_fn]; simp [binOp_eqlF, equal_fn hu]
  · replace h := chk_sound h; obtain ⟨e, hh⟩ := h
    refine ⟨_, hh, fun ox oy w => ?_⟩
    unfold isFuncT at e; split at e <;> simp at e
    rename_i hu
    rw [eqGuard_fn]; simp [binOp_neqF, equal_fn hu]
  · exact h.elim
/-- What an operation that changes nothing gives. -/
def dQ (P : Program) (o : Oper) (env : Env) (h : Heap) (K : Value → Prop) : Prop :=
  match o.op with
  | .move x => ev1 env x K
  | .assign x => ev1 env x K
  | .pick c a b => ev1 env c fun v => vBool v fun c => brr c (ev1 env a K) (ev1 env b K)
  | .build t ps => evP env ps.toList fun ps => dBuild P t ps K
  | .load t a => ev1 env a fun v => dLoad P t v h K
  | .nilCheck x => ev1 env x fun v => vPtr v fun p => nn p fun a => K (.pointer (some a))
  | .binOp op t x y _ => ev1 env x fun x => ev1 env y fun y => match y with
    | .nilFunc => dFnNil P op t x K
    | y => dBin P op t x y K
  | .unOp op _ x => ev1 env x fun v => dUn op v K
  | .convert s d x => ev1 env x fun v => dConvQ P s d v h K
  | .slice t x lo hi none => ev1 env x fun v => dSlice P env t v lo hi K
  | .slice t x (some lo) (some hi) (some mx) => ev1 env x fun v => dSlice3 P env t v lo hi mx K
  | .fieldAddr t x f => ev1 env x fun v => dFieldAddr P t v f K
  | .field t x f => ev1 env x fun v => dField P t v f K
  | .indexAddr t x i => ev1 env x fun v => ev1 env i fun i => dIndexAddr P t v i K
  | .index t x i => ev1 env x fun v => ev1 env i fun i => dIndex P t v i K
  | .extract x i => ev1 env x fun v => vTup v fun vs => on vs.toList[i]? K
  | .lookup t m k ok => ev1 env m fun m => ev1 env k fun k => dLookup P t m k ok h K
  | .makeFunc f fs cs => evs env fs.toList fun fs => evs env cs.toList fun cs => K (.func f fs.toArray cs.toArray)
  | .call c => match lenOfMap P c with
    | true => match c.args.toList with
      | [x] => ev1 env x fun v => dLenM [v] h K
      | _ => False
    | false => match c.callee with
      | .builtin b => evs env c.args.toList fun vs => dBuiltQ P b c.argTypes.toList vs K
      | _ => False
  | _ => False
/-- What an operation gives, whatever else the frame holds, in every world with such a heap. -/
def QSt (P : Program) (o : Oper) (env : Env) (C : Heap → Prop) (v : Value) : Prop :=
  ∀ (a : Act) (w : World), AgrOn (· ∈ slots o.op) env a → C w.heap → (execOp a.eval o).run P w = .ok (.value v) w
/-- What of the heap an operation has read. -/
def obOf (o : Oper) (env : Env) (h : Heap) (v : Value) : Option (Heap → Prop) :=
  match o.op with
  | .load _ x => match ev env x with
    | some (.pointer (some a)) => some fun h' => cellsAre h' a v.cells.toList
    | _ => none
  | .convert _ _ x => match ev env x with
    | some (.slice p n _) => some fun h' => rdP h' p n = rdP h p n
    | _ => none
  | .lookup _ x _ _ => match ev env x with
    | some (.map m) => some fun h' => mapAt h' m = mapAt h m
    | _ => none
  | .call c => match c.args.toList with
    | [x] => match ev env x with
      | some (.map m) => some fun h' => mapAt h' m = mapAt h m
      | _ => none
    | _ => none
  | _ => none
def obHolds (c : Option (Heap → Prop)) (h : Heap) : Prop := match c with
  | some f => f h
  | none => True
theorem dQ_sound {P : Program} {o : Oper} {env : Env} {h : Heap} {K : Value → Prop} (hh : dQ P o env h K) : ∃ v, K v ∧ obHolds (obOf o env h v) h ∧ QSt P o env (obHolds (obOf o env h v)) v := by
  unfold dQ at hh
  split at hh
  · rename_i x ho
    replace hh := ev1_sound hh; obtain ⟨v, hv, hh⟩ := hh
    refine ⟨v, hh, by simp [obOf, ho, obHolds], fun a w ha hw => ?_⟩
    rw [ho] at ha
    simp only [execOp, ho, ev_at ha (x := x) (by simp [Op.operands]) hv, Sem.run_pure]
  · rename_i x ho
    replace hh := ev1_sound hh; obtain ⟨v, hv, hh⟩ := hh
    refine ⟨v, hh, by simp [obOf, ho, obHolds], fun a w ha hw => ?_⟩
    rw [ho] at ha
    simp only [execOp, ho, ev_at ha (x := x) (by simp [Op.operands]) hv, Sem.run_pure]
  · rename_i c x y ho
    replace hh := ev1_sound hh; obtain ⟨v, hv, hh⟩ := hh
    replace hh := vBool_sound hh; obtain ⟨b, rfl, hh⟩ := hh
    cases b with
    | true =>
      replace hh := ev1_sound hh; obtain ⟨v, hx, hh⟩ := hh
      refine ⟨v, hh, by simp [obOf, ho, obHolds], fun a w ha hw => ?_⟩
      rw [ho] at ha
      simp only [execOp, ho, ev_at ha (x := c) (by simp [Op.operands]) hv, ev_at ha (x := x) (by simp [Op.operands]) hx, Sem.run_bind, asBool, Sem.run_pure, Result.andThen_ok, if_true]
    | false =>
      replace hh := ev1_sound hh; obtain ⟨v, hx, hh⟩ := hh
      refine ⟨v, hh, by simp [obOf, ho, obHolds], fun a w ha hw => ?_⟩
      rw [ho] at ha
      simp only [execOp, ho, ev_at ha (x := c) (by simp [Op.operands]) hv, ev_at ha (x := y) (by simp [Op.operands]) hx, Sem.run_bind, asBool, Sem.run_pure, Result.andThen_ok, Bool.false_eq_true, if_false]
  · rename_i t ps ho
    replace hh := evP_sound hh; obtain ⟨vs, hh, he⟩ := hh
    obtain ⟨cells, hc, hh⟩ := dBuild_sound hh
    refine ⟨_, hh, by simp [obOf, ho, obHolds], fun a w ha hw => ?_⟩
    rw [ho] at ha
    have e := he a (fun y hy u hu => ev_at ha (x := y) (by simpa [Op.operands] using hy) hu)
    have e2 : (ps.map fun (i, x) => (i, a.eval x)).toList = vs := by rw [Array.toList_map]; exact e
    simp only [execOp, ho, Sem.run_bind, run_build w t _ cells (by rw [e2]; exact hc), Result.andThen_ok, Sem.run_pure]
  · rename_i t x ho
    replace hh := ev1_sound hh; obtain ⟨v, hv, hh⟩ := hh
    obtain ⟨ad, cs, u, rfl, hc, hK, hu, hr⟩ := dLoad_sound hh
    refine ⟨u, hK, by simp only [obOf, ho, hv, obHolds, hu]; exact hc, fun a w ha hw => ?_⟩
    rw [ho] at ha
    simp only [obOf, ho, hv, obHolds, hu] at hw
    simp only [execOp, ho, ev_at ha (x := x) (by simp [Op.operands]) hv, Sem.run_bind, hr w hw, Result.andThen_ok, Sem.run_pure]
  · rename_i x ho
    replace hh := ev1_sound hh; obtain ⟨v, hv, hh⟩ := hh
    replace hh := vPtr_sound hh; obtain ⟨p, rfl, hh⟩ := hh
    obtain ⟨ad, rfl, hK⟩ := hh
    refine ⟨_, hK, by simp [obOf, ho, obHolds], fun a w ha hw => ?_⟩
    rw [ho] at ha
    simp only [execOp, ho, ev_at ha (x := x) (by simp [Op.operands]) hv, Sem.run_pure]
  · rename_i op t x y yt ho
    replace hh := ev1_sound hh; obtain ⟨v, hv, hh⟩ := hh
    replace hh := ev1_sound hh; obtain ⟨u, hu, hh⟩ := hh
    have hh2 : ∃ r, K r ∧ ∀ (ox oy : Operand) (w : World), ((do eqGuard op t ox oy v u; binOp op t v u) : Sem Value).run P w = .ok r w := by
      split at hh
      · exact dFnNil_sound hh
      · exact dBin_sound hh
    obtain ⟨r, hK, hr⟩ := hh2
    refine ⟨r, hK, by simp [obOf, ho, obHolds], fun a w ha hw => ?_⟩
    rw [ho] at ha
    simp only [execOp, ho, ev_at ha (x := x) (by simp [Op.operands]) hv, ev_at ha (x := y) (by simp [Op.operands]) hu]
    rw [Sem.run_bind, hr, Result.andThen_ok, Sem.run_pure]
  · rename_i op t x ho
    replace hh := ev1_sound hh; obtain ⟨v, hv, hh⟩ := hh
    obtain ⟨r, hK, hr⟩ := dUn_sound (P := P) hh
    refine ⟨r, hK, by simp [obOf, ho, obHolds], fun a w ha hw => ?_⟩
    rw [ho] at ha
    simp only [execOp, ho, ev_at ha (x := x) (by simp [Op.operands]) hv, Sem.run_bind, hr, Result.andThen_ok, Sem.run_pure]
  · rename_i s d x ho
    replace hh := ev1_sound hh; obtain ⟨v, hv, hh⟩ := hh
    obtain ⟨r, hK, hr⟩ := dConvQ_sound hh
    have e : obOf o env h r = match v with | .slice p n _ => some fun h' => rdP h' p n = rdP h p n | _ => none := by
      simp only [obOf, ho, hv]
      cases v <;> rfl
    refine ⟨r, hK, by rw [e]; split <;> simp [obHolds], fun a w ha hw => ?_⟩
    rw [ho] at ha
    have hw' : ∀ p n c, v = .slice p n c → rdP w.heap p n = rdP h p n := by
      intro p n c ev; subst ev; rw [e] at hw; exact hw
    simp only [execOp, ho, ev_at ha (x := x) (by simp [Op.operands]) hv, Sem.run_bind, hr w hw', Result.andThen_ok, Sem.run_pure]
  · rename_i t x lo hi ho
    replace hh := ev1_sound hh; obtain ⟨v, hv, hh⟩ := hh
    obtain ⟨r, hK, hr⟩ := dSlice_sound hh
    refine ⟨r, hK, by simp [obOf, ho, obHolds], fun a w ha hw => ?_⟩
    rw [ho] at ha
    have e1 := hr a w (fun y hy u hu => ev_at ha (x := y) (by
      simp only [Op.operands, Array.toList_append, List.mem_append, List.append_assoc]
      simp only [List.mem_append] at hy
      rcases hy with hy | hy
      · refine .inr (.inl ?_); cases lo <;> simp at hy ⊢; exact hy
      · refine .inr (.inr (.inl ?_)); cases hi <;> simp at hy ⊢; exact hy) hu)
    simp only [execOp, ho, ev_at ha (x := x) (by simp [Op.operands]) hv, Option.map_none, Sem.run_bind, e1, Result.andThen_ok, Sem.run_pure]
  · rename_i t x lo hi mx ho
    replace hh := ev1_sound hh; obtain ⟨v, hv, hh⟩ := hh
    obtain ⟨r, hK, hr⟩ := dSlice3_sound hh
    refine ⟨r, hK, by simp [obOf, ho, obHolds], fun a w ha hw => ?_⟩
    rw [ho] at ha
    have e1 := hr a w (fun y hy u hu => ev_at ha (x := y) (by
      simp only [List.mem_cons, List.mem_nil_iff, or_false] at hy
      rcases hy with rfl | rfl | rfl <;> simp [Op.operands]) hu)
    simp only [execOp, ho, ev_at ha (x := x) (by simp [Op.operands]) hv, Option.map_some, Sem.run_bind, e1, Result.andThen_ok, Sem.run_pure]
  · rename_i t x f ho
    replace hh := ev1_sound hh; obtain ⟨v, hv, hh⟩ := hh
    obtain ⟨r, hK, hr⟩ := dFieldAddr_sound hh
    refine ⟨r, hK, by simp [obOf, ho, obHolds], fun a w ha hw => ?_⟩
    rw [ho] at ha
    simp only [execOp, ho, ev_at ha (x := x) (by simp [Op.operands]) hv, Sem.run_bind, hr, Result.andThen_ok, Sem.run_pure]
  · rename_i t x f ho
    replace hh := ev1_sound hh; obtain ⟨v, hv, hh⟩ := hh
    obtain ⟨r, hK, hr⟩ := dField_sound hh
    refine ⟨r, hK, by simp [obOf, ho, obHolds], fun a w ha hw => ?_⟩
    rw [ho] at ha
    simp only [execOp, ho, ev_at ha (x := x) (by simp [Op.operands]) hv, Sem.run_bind, hr, Result.andThen_ok, Sem.run_pure]
  · rename_i t x i ho
    replace hh := ev1_sound hh; obtain ⟨v, hv, hh⟩ := hh
    replace hh := ev1_sound hh; obtain ⟨u, hu, hh⟩ := hh
    obtain ⟨r, hK, hr⟩ := dIndexAddr_sound hh
    refine ⟨r, hK, by simp [obOf, ho, obHolds], fun a w ha hw => ?_⟩
    rw [ho] at ha
    simp only [execOp, ho, ev_at ha (x := x) (by simp [Op.operands]) hv, ev_at ha (x := i) (by simp [Op.operands]) hu, Sem.run_bind, hr, Result.andThen_ok, Sem.run_pure]
  · rename_i t x i ho
    replace hh := ev1_sound hh; obtain ⟨v, hv, hh⟩ := hh
    replace hh := ev1_sound hh; obtain ⟨u, hu, hh⟩ := hh
    obtain ⟨r, hK, hr⟩ := dIndex_sound hh
    refine ⟨r, hK, by simp [obOf, ho, obHolds], fun a w ha hw => ?_⟩
    rw [ho] at ha
    simp only [execOp, ho, ev_at ha (x := x) (by simp [Op.operands]) hv, ev_at ha (x := i) (by simp [Op.operands]) hu, Sem.run_bind, hr, Result.andThen_ok, Sem.run_pure]
  · rename_i x i ho
    replace hh := ev1_sound hh; obtain ⟨v, hv, hh⟩ := hh
    replace hh := vTup_sound hh; obtain ⟨vs, rfl, hh⟩ := hh
    replace hh := on_sound hh; obtain ⟨u, hu, hK⟩ := hh
    rw [Array.getElem?_toList] at hu
    refine ⟨u, hK, by simp [obOf, ho, obHolds], fun a w ha hw => ?_⟩
    rw [ho] at ha
    simp only [execOp, ho, ev_at ha (x := x) (by simp [Op.operands]) hv, Instr.extract, hu, Sem.run_bind, Result.andThen_ok, Sem.run_pure]
  · rename_i t m k ok ho
    replace hh := ev1_sound hh; obtain ⟨v, hv, hh⟩ := hh
    replace hh := ev1_sound hh; obtain ⟨u, hu, hh⟩ := hh
    obtain ⟨mm, rfl, r, hK, hr⟩ := dLookup_sound hh
    refine ⟨r, hK, by simp [obOf, ho, hv, obHolds], fun a w ha hw => ?_⟩
    rw [ho] at ha
    simp only [obOf, ho, hv, obHolds] at hw
    simp only [execOp, ho, ev_at ha (x := m) (by simp [Op.operands]) hv, ev_at ha (x := k) (by simp [Op.operands]) hu, Sem.run_bind, hr w hw, Result.andThen_ok, Sem.run_pure]
  · rename_i f fs cs ho
    replace hh := evs_sound hh; obtain ⟨vs, hh, he⟩ := hh
    replace hh := evs_sound hh; obtain ⟨us, hh, hu⟩ := hh
    refine ⟨_, hh, by simp [obOf, ho, obHolds], fun a w ha hw => ?_⟩
    rw [ho] at ha
    have e := he a (fun y hy u hv => ev_at ha (x := y) (by simp [Op.operands]; exact .inl (by simpa using hy)) hv)
    have e' := hu a (fun y hy u hv => ev_at ha (x := y) (by simp [Op.operands]; exact .inr (by simpa using hy)) hv)
    have e2 : fs.map a.eval = vs.toArray := by apply Array.ext'; rw [Array.toList_map, e]
    have e3 : cs.map a.eval = us.toArray := by apply Array.ext'; rw [Array.toList_map, e']
    simp only [execOp, ho, Instr.makeFunc, e2, e3, Sem.run_bind, Sem.run_pure, Result.andThen_ok]
  · rename_i c ho
    split at hh
    · rename_i hlm
      split at hh
      · rename_i x hx
        replace hh := ev1_sound hh; obtain ⟨v, hv, hh⟩ := hh
        obtain ⟨hb, mm, hm, u, hK, hr⟩ := dLenM_sound hlm hh
        simp only [List.cons.injEq, and_true] at hm
        subst hm
        have eas : c.args = #[x] := by rw [← Array.toList_inj]; exact hx
        refine ⟨u, hK, by simp [obOf, ho, eas, hv, obHolds], fun a w ha hw => ?_⟩
        rw [ho] at ha
        simp only [obOf, ho, eas, hv, obHolds] at hw
        have e1 := ev_at ha (x := x) (by simp [Op.operands, Call.operands, hb, eas]) hv
        have e2 : c.args.map a.eval = ([.map mm] : List Value).toArray := by rw [eas]; simp [e1]
        simp only [execOp, ho, resolve, hb, e2, Sem.run_bind, Sem.run_pure, Result.andThen_ok, invoke, hr _ _ w hw]
      · exact hh.elim
    · split at hh
      · rename_i b hb
        replace hh := evs_sound hh; obtain ⟨vs, hh, he⟩ := hh
        obtain ⟨u, hK, hr⟩ := dBuiltQ_sound hh
        refine ⟨u, hK, ?_, fun a w ha hw => ?_⟩
        · unfold obOf; rw [ho]; dsimp only; split
          · split <;> simp [obHolds]
          · simp [obHolds]
        rw [ho] at ha
        have e := he a (fun y hy u hu => ev_at ha (x := y) (by simp [Op.operands, Call.operands, hb]; simpa using hy) hu)
        have e2 : c.args.map a.eval = vs.toArray := by apply Array.ext'; rw [Array.toList_map, e]
        simp only [execOp, ho, resolve, hb, e2, Sem.run_bind, Sem.run_pure, Result.andThen_ok, invoke, hr]
      · exact hh.elim
  · exact hh.elim
end Go.Proofs.YthiginhigfieiaaGreatDoor.V
/-
  A VIEW OF THE MACHINE AS A PREDICATE TRANSFORMER OVER THE HEAP. Part 6: the operations that change the heap: 'dE'.
-/
namespace Go.Proofs.YthiginhigfieiaaGreatDoor.V
open Go Go.RowKit
set_option linter.unusedVariables false
set_option linter.unusedSimpArgs false

/-- The streams and the tape are as they were. -/
structure Same (w w' : World) : Prop where
  os : w'.os = w.os
  tape : w'.tape = w.tape
  output : w'.output = w.output
theorem Same.refl (w : World) : Same w w := ⟨rfl, rfl, rfl⟩
theorem Same.trans {a b c : World} (h : Same a b) (k : Same b c) : Same a c := ⟨k.os.trans h.os, k.tape.trans h.tape, k.output.trans h.output⟩

def al (T : TypeId) (cs : List Value) (h : Heap) (K : Addr → Heap → Prop) : Prop := K ⟨h.size, 0, none⟩ (h.push (.cells cs.toArray T))
/-- One cell may be written. -/
def wr (h : Heap) (a : Addr) (v : Value) : Prop := oneV v = true ∧ (∃ u, cellH h a = some u) ∧ frozenH h a = false
def st : Addr → List Value → Heap → (Heap → Prop) → Prop
  | _, [], h, K => K h
  | a, v :: vs, h, K => wr h a v ∧ st (a.add 1) vs (setH h a v) K
def stP (p : Option Addr) (cs : List Value) (h : Heap) (K : Heap → Prop) : Prop := match p with
  | some a => st a cs h K
  | none => K h
section
variable {P : Program}
theorem run_new (w : World) (T : TypeId) (cs : Array Value) : (newRow T cs).run P w = .ok ⟨w.heap.size, 0, none⟩ { w with heap := w.heap.push (.cells cs T) } := by
  simp [newRow, newObj, Sem.run]
theorem run_store1 {w : World} {a : Addr} {v : Value} (h : wr w.heap a v) : (store a v).run P w = .ok () (w.setCell a v) := by
  obtain ⟨h1, ⟨u, h2⟩, h3⟩ := h
  have h2' : w.cell? a = some u := h2
  have h3' : w.frozen? a = false := h3
  unfold store
  cases v <;> first | (simp [oneV] at h1; done) | (simp only [Sem.run, h2', h3']; rfl)
theorem st_sound : ∀ {vs : List Value} {a : Addr} {w : World} {K : Heap → Prop} (i : Nat), st (a.add i) vs w.heap K →
    ∃ w', (storeCells a vs i).run P w = .ok () w' ∧ K w'.heap ∧ Same w w' ∧ w'.drawn = w.drawn
  | [], a, w, K, i, h => ⟨w, rfl, h, Same.refl _, rfl⟩
  | v :: vs, a, w, K, i, h => by
    obtain ⟨h1, h2⟩ := h
    rw [Addr_add_add] at h2
    obtain ⟨w', hr, hK, hs, hd⟩ := st_sound (w := w.setCell (a.add i) v) (i + 1) (by rw [set_eq]; exact h2)
    refine ⟨w', ?_, hK, ⟨hs.os, hs.tape, hs.output⟩, hd⟩
    unfold storeCells
    simp only [Sem.run_bind, run_store1 h1, Result.andThen_ok, hr]
theorem st_sound0 {vs : List Value} {a : Addr} {w : World} {K : Heap → Prop} (h : st a vs w.heap K) :
    ∃ w', (storeCells a vs).run P w = .ok () w' ∧ K w'.heap ∧ Same w w' ∧ w'.drawn = w.drawn := st_sound 0 (by rwa [Addr.add_zero'])
end
def dStore (P : Program) (t : TypeId) (x v : Value) (h : Heap) (K : Heap → Prop) : Prop :=
  vAddr x fun a => chk (match sizeT P t with | some n => Nat.beq v.cells.size n | none => false) (st a v.cells.toList h K)
theorem dStore_sound {P : Program} {t : TypeId} {x v : Value} {w : World} {K : Heap → Prop} (h : dStore P t x v w.heap K) :
    ∃ w', (Instr.storeAt t x v).run P w = .ok () w' ∧ K w'.heap ∧ Same w w' := by
  unfold dStore at h
  replace h := vAddr_sound h; obtain ⟨a, rfl, h⟩ := h
  replace h := chk_sound h; obtain ⟨hs, h⟩ := h
  split at hs <;> simp at hs
  rename_i n hn
  subst hs
  obtain ⟨w', hr, hK, hS, _⟩ := st_sound0 (P := P) h
  refine ⟨w', ?_, hK, hS⟩
  simp [Instr.storeAt, Instr.sureAddr, storeVar, run_sizeT hn, hr]
def dBox (t : TypeId) (v : Value) (h : Heap) (K : Value → Heap → Prop) : Prop := forceL v.cells.toList fun cs => al t cs h fun a h => K (.pointer (some a)) h
def dAlloc (P : Program) (t : TypeId) (h : Heap) (K : Value → Heap → Prop) : Prop := on (zeroT P t) fun z => dBox t z h K
def rep : Nat → List Value → List Value
  | 0, _ => []
  | n + 1, z => z ++ rep n z
def dBuildSlice (P : Program) (t : TypeId) (len : Nat) (ps : List (Nat × Value)) (h : Heap) (K : Value → Heap → Prop) : Prop :=
  on (elemT P t) fun e => on (sizeT P e) fun size => on (zeroT P e) fun z => chk (Nat.ble (len * size) 16777216 && Nat.beq z.cells.toList.length size && Nat.blt 0 size)
    (fillC (fun k => some (k * size, size)) ps (rep len z.cells.toList) fun cs => al e cs h fun a h => K (.slice (some a) len len) h)
theorem rep_get (z : Array Value) (hz : 0 < z.size) : ∀ (n j : Nat), (rep n z.toList)[j]? = if j < n * z.size then some z[j % z.size]! else none
  | 0, j => by simp [rep]
  | n + 1, j => by
    simp only [rep]
    rw [List.getElem?_append]
    split
    · rename_i h
      simp at h
      rw [if_pos (by rw [Nat.add_mul]; omega), Nat.mod_eq_of_lt h]
      simp [h]
    · rename_i h
      simp only [Array.length_toList, Nat.not_lt] at h
      rw [rep_get z hz n, Array.length_toList]
      have e : (j - z.size) % z.size = j % z.size := by
        rw [← Nat.add_mod_right (j - z.size) z.size, Nat.sub_add_cancel h]
      rw [e]
      by_cases h2 : j - z.size < n * z.size
      · rw [if_pos h2, if_pos (by rw [Nat.add_mul]; omega)]
      · rw [if_neg h2, if_neg (by rw [Nat.add_mul]; omega)]
theorem rep_eq (z : Array Value) (hz : 0 < z.size) (n : Nat) : ((Array.range (n * z.size)).map (z[· % z.size]!)) = (rep n z.toList).toArray := by
  apply Array.ext_getElem?
  intro j
  have e : (rep n z.toList).toArray[j]? = (rep n z.toList)[j]? := by simp
  rw [e, rep_get z hz, Array.getElem?_map, Array.getElem?_range]
  split <;> rfl

def mkCells (z : Value) (n : Nat) : List Value := ((Array.range n).map (z.cells[· % z.cells.size]!)).toList
def mk (e : TypeId) (size bytes : Nat) (z : Value) (l c : Int) (h : Heap) (K : Sl → Heap → Prop) : Prop :=
  0 ≤ l ∧ l ≤ c ∧ (bytes : Int) * c ≤ 281474976710656 ∧ K ⟨some ⟨h.size, 0, none⟩, l.toNat, c.toNat⟩ (h.push (.cells (mkCells z (c.toNat * size)).toArray e))
def dMake (P : Program) (t : TypeId) (l c : Value) (h : Heap) (K : Value → Heap → Prop) : Prop :=
  on (elemT P t) fun e => on (P.info? e) fun i => on i.zero fun z => chk (Nat.blt 0 i.bytes && Nat.blt 0 i.size) (vInt l fun _ l => vInt c fun _ c =>
    mk e i.size i.bytes z l c h fun s h => K (.slice s.ptr s.len s.cap) h)
theorem dMake_sound {P : Program} {t : TypeId} {l c : Value} {w : World} {K : Value → Heap → Prop} (h : dMake P t l c w.heap K) :
    ∃ v w', (Instr.makeSlice t l c).run P w = .ok v w' ∧ K v w'.heap ∧ Same w w' := by
  unfold dMake at h
  replace h := on_sound h; obtain ⟨e, he, h⟩ := h
  replace h := on_sound h; obtain ⟨i, hi, h⟩ := h
  replace h := on_sound h; obtain ⟨z, hz, h⟩ := h
  replace h := chk_sound h; obtain ⟨hb, h⟩ := h
  replace h := vInt_sound h; obtain ⟨k, l, rfl, h⟩ := h
  replace h := vInt_sound h; obtain ⟨k', c, rfl, h⟩ := h
  obtain ⟨h0, h1, h2, hK⟩ := h
  simp at hb
  have hc : c ≤ 281474976710656 := by
    have : (1 : Int) * c ≤ (i.bytes : Int) * c := Int.mul_le_mul_of_nonneg_right (by omega) (by omega)
    omega
  have wl : IntKind.i64.wrap l = l := by unfold IntKind.wrap; simp [IntKind.bits, IntKind.signed]; omega
  have wc : IntKind.i64.wrap c = c := by unfold IntKind.wrap; simp [IntKind.bits, IntKind.signed]; omega
  have t1 : (decide (c < 0) || decide ((i.bytes : Int) * c > 2 ^ 48)) = false := by
    simp only [Bool.or_eq_false_iff, decide_eq_false_iff_not]; exact ⟨by omega, by simpa using h2⟩
  refine ⟨_, { w with heap := w.heap.push (.cells (mkCells z (c.toNat * i.size)).toArray e) }, ?_, hK, ⟨rfl, rfl, rfl⟩⟩
  simp only [Instr.makeSlice, Sem.run_bind, run_underlying (elemT_sound he), Result.andThen_ok, asInt, asIntOf, Sem.run_pure, typeInfo, run_program, hi, wl, wc, t1, Bool.false_or]
  have t2 : (decide (l < 0) || decide (l > c)) = false := by simp only [Bool.or_eq_false_iff, decide_eq_false_iff_not]; exact ⟨by omega, by omega⟩
  simp only [t2, Bool.false_eq_true, if_false, Sem.run_bind, run_askRoom, Result.andThen_ok, sizeOf, typeInfo, run_program, hi, Sem.run_pure, Sem.run_ite, zeroValue, hz]
  by_cases hn : c.toNat * i.size = 0
  · have : mkCells z (c.toNat * i.size) = [] := by rw [hn]; simp [mkCells]
    simp [hn, run_new, this, mkCells]
    simp [Array.range]
  · simp only [if_neg hn, Sem.run_bind, typeInfo, run_program, hi, Result.andThen_ok, hz, Sem.run_pure, run_new]
    simp [mkCells]
    congr 2
    apply Array.ext'; simp

def app (e : TypeId) (size bytes : Nat) (z : Value) (s : Sl) (src : Option Addr) (m : Nat) (h : Heap) (K : Sl → Heap → Prop) : Prop :=
  ∃ new, rdP h src (m * size) = some new ∧
    (s.len + m ≤ s.cap → stP (s.ptr.map (·.add (s.len * size))) new h (K ⟨s.ptr, s.len + m, s.cap⟩)) ∧
    (s.cap < s.len + m → Builtin.nextslicecap (s.len + m) s.cap * bytes ≤ 281474976710656 ∧ ∃ old, rdP h s.ptr (s.len * size) = some old ∧
      ∀ c, s.len + m ≤ c → K ⟨some ⟨h.size, 0, none⟩, s.len + m, c⟩ (h.push (.cells (old ++ new ++ (Builtin.zeroCells z.cells (c - (s.len + m))).toList).toArray e)))
def dAppend (P : Program) (t u : TypeId) (x y : Value) (h : Heap) (K : Value → Heap → Prop) : Prop :=
  on (elemT P t) fun e => on (elemT P u) fun _ => on (P.info? e) fun i => on i.zero fun z => chk (Nat.blt 0 i.bytes) (vSl x fun p n c => vSl y fun q m _ =>
    app e i.size i.bytes z ⟨p, n, c⟩ q m h fun s h => K (.slice s.ptr s.len s.cap) h)
theorem run_first {P : Program} {w : World} {size m n c : Nat} {p : Option Addr} {cs : List Value} (h : rdP w.heap p (m * size) = some cs) : (Builtin.firstCells size m (.slice p n c)).run P w = .ok cs.toArray w := by
  cases p with
  | none => simp [rdP] at h; subst h; simp [Builtin.firstCells]
  | some a => simp only [Builtin.firstCells]; exact run_loadCells_rd h
theorem dAppend_sound {P : Program} {t u ty : TypeId} {x y : Value} {w : World} {K : Value → Heap → Prop} (h : dAppend P t u x y w.heap K) :
    ∃ v w', (Builtin.append_ #[t, u] ty #[x, y]).run P w = .ok v w' ∧ K v w'.heap ∧ Same w w' := by
  unfold dAppend at h
  replace h := on_sound h; obtain ⟨e, he, h⟩ := h
  replace h := on_sound h; obtain ⟨e', he', h⟩ := h
  replace h := on_sound h; obtain ⟨i, hi, h⟩ := h
  replace h := on_sound h; obtain ⟨z, hz, h⟩ := h
  replace h := chk_sound h; obtain ⟨hb, h⟩ := h
  replace h := vSl_sound h; obtain ⟨p, n, c, rfl, h⟩ := h
  replace h := vSl_sound h; obtain ⟨q, m, d, rfl, h⟩ := h
  obtain ⟨new, hnew, hin, hgrow⟩ := h
  simp only at hin hgrow
  simp at hb
  by_cases hle : n + m ≤ c
  · have hf := run_first (P := P) (n := m) (c := d) hnew
    cases p with
    | none =>
      refine ⟨_, w, ?_, hin hle, Same.refl _⟩
      simp [Builtin.append_, run_underlying (elemT_sound he), run_underlying (elemT_sound he'), sizeOf, typeInfo, hi, Builtin.lenOf, hle, hf]
    | some a =>
      obtain ⟨w', hr, hK, hS, _⟩ := st_sound0 (P := P) (hin hle)
      refine ⟨_, w', ?_, hK, hS⟩
      simp [Builtin.append_, run_underlying (elemT_sound he), run_underlying (elemT_sound he'), sizeOf, typeInfo, hi, Builtin.lenOf, hle, hf, hr]
  · obtain ⟨hcap, old, hold, hg⟩ := hgrow (by omega)
    have hcap' : ¬ (281474976710656 < Builtin.nextslicecap (n + m) c * i.bytes) := by omega
    have hb0 : ¬ (i.bytes = 0) := by omega
    have hf := run_first (P := P) (w := w.drew) (n := m) (c := d) hnew
    have hfo := run_first (P := P) (w := w.drew) (n := n) (c := c) hold
    have hge : n + m ≤ grownCap w (n + m) c e := by simp only [grownCap, Question.cut]; omega
    refine ⟨_, { w.drew with heap := w.heap.push (.cells (old ++ new ++ (Builtin.zeroCells z.cells (grownCap w (n + m) c e - (n + m))).toList).toArray e) }, ?_, hg _ hge, ⟨rfl, rfl, rfl⟩⟩
    simp [Builtin.append_, run_underlying (elemT_sound he), run_underlying (elemT_sound he'), sizeOf, typeInfo, zeroValue, hi, hz, Builtin.lenOf, hle, hb0, hcap', Question.forced, hf, hfo, newRow, grownCap]
    show w.drew.alloc _ = w.drew.alloc _
    congr 2
    apply Array.ext'; simp
def cpy (size : Nat) (d : Sl) (q : Option Addr) (m : Nat) (h : Heap) (K : Heap → Prop) : Prop := ∃ cs, rdP h q (Nat.min m d.len * size) = some cs ∧ stP d.ptr cs h K
def dCopy (P : Program) (t : TypeId) (x y : Value) (h : Heap) (K : Value → Heap → Prop) : Prop :=
  on (elemT P t) fun e => on (sizeT P e) fun size => vSl x fun p n c => vSl y fun q m _ => cpy size ⟨p, n, c⟩ q m h fun h => K (.int .i64 (Nat.min m n : Nat)) h
theorem dCopy_sound {P : Program} {t u ty : TypeId} {x y : Value} {w : World} {K : Value → Heap → Prop} (h : dCopy P t x y w.heap K) :
    ∃ v w', (Builtin.copy_ #[t, u] ty #[x, y]).run P w = .ok v w' ∧ K v w'.heap ∧ Same w w' := by
  unfold dCopy at h
  replace h := on_sound h; obtain ⟨e, he, h⟩ := h
  replace h := on_sound h; obtain ⟨size, hs, h⟩ := h
  replace h := vSl_sound h; obtain ⟨p, n, c, rfl, h⟩ := h
  replace h := vSl_sound h; obtain ⟨q, m, d, rfl, h⟩ := h
  obtain ⟨cs, hcs, hst⟩ := h
  simp only at hcs hst
  have hf := run_first (P := P) (n := m) (c := d) hcs
  cases p with
  | none => exact ⟨_, w, by simp [Builtin.copy_, run_underlying (elemT_sound he), run_sizeT hs, Builtin.lenOf, hf, goInt], hst, Same.refl _⟩
  | some a =>
    obtain ⟨w', hr, hK, hS, _⟩ := st_sound0 (P := P) hst
    exact ⟨_, w', by simp [Builtin.copy_, run_underlying (elemT_sound he), run_sizeT hs, Builtin.lenOf, hf, goInt, hr], hK, hS⟩
def clr (z : Value) (s : Sl) (h : Heap) (K : Heap → Prop) : Prop := (s.len = 0 → K h) ∧ (s.len ≠ 0 → stP s.ptr (Builtin.zeroCells z.cells s.len).toList h K)
def dClear (P : Program) (t : TypeId) (x : Value) (h : Heap) (K : Value → Heap → Prop) : Prop :=
  on (elemT P t) fun e => on (zeroT P e) fun z => vSl x fun p n c => clr z ⟨p, n, c⟩ h fun h => K (.tuple #[]) h

def s2b (e : TypeId) (s : ByteArray) (h : Heap) (K : Sl → Heap → Prop) : Prop :=
  ∀ c, s.size ≤ c → K ⟨some ⟨h.size, 0, none⟩, s.size, c⟩ (h.push (.cells ((s.data.toList.map fun b => Value.int .u8 (b.toNat : Int)) ++ List.replicate (c - s.size) (Value.int .u8 0)).toArray e (c, c + 1)))
/-- The block is marked as one that was made of a string. -/
def markH (h : Heap) (b n : Nat) : Heap := h.modify b fun
  | .cells c elem (lo, hi) => .cells c elem (if lo == hi then (n, n + 1) else (min lo n, max hi (n + 1)))
  | o => o
def frz (p : Option Addr) (h : Heap) (K : Heap → Prop) : Prop := ∃ a c T f, p = some a ∧ h[a.block]? = some (.cells c T f) ∧ K (markH h a.block c.size)
def dConvE (P : Program) (s d : TypeId) (v : Value) (h : Heap) (K : Value → Heap → Prop) : Prop :=
  match P.underlying s, P.underlying d with
  | some (.slice _), some (.slice e) => chk (isU8 P e && Nat.beq s d) (vSl v fun p n c => frz p h fun h => K (.slice p n c) h)
  | some .string, some (.slice e) => chk (isU8 P e) (vStr v fun b => s2b e b h fun s h => K (.slice s.ptr s.len s.cap) h)
  | _, _ => False
theorem dConvE_sound {P : Program} {s d : TypeId} {v : Value} {w : World} {K : Value → Heap → Prop} (h : dConvE P s d v w.heap K) :
    ∃ u w', (convert s d v).run P w = .ok u w' ∧ K u w'.heap ∧ Same w w' := by
  unfold dConvE at h
  split at h
  · rename_i e0 e hs hd
    replace h := chk_sound h; obtain ⟨he, h⟩ := h
    rw [Bool.and_eq_true] at he
    replace h := vSl_sound h; obtain ⟨p, n, c, rfl, h⟩ := h
    obtain ⟨a, cs, T, f, rfl, hb, hK⟩ := h
    have esd := Nat.eq_of_beq_eq_true he.2
    subst esd
    have e12 := hs.symm.trans hd
    simp only [Option.some.injEq, TypeDesc.slice.injEq] at e12
    subst e12
    have hsh : w.shape? a.block = some (T, cs.size) := by simp [World.shape?, hb]
    have hfr : w.freeze { block := a.block, off := cs.size } 1 = { w with heap := markH w.heap a.block cs.size } := by
      unfold World.freeze
      rw [if_neg (by omega)]
      rfl
    refine ⟨_, { w with heap := markH w.heap a.block cs.size }, ?_, hK, ⟨rfl, rfl, rfl⟩⟩
    have hmk : (markStringish a).run P w = .ok () { w with heap := markH w.heap a.block cs.size } := by
      simp only [markStringish, shape, freeze, Sem.run_bind, Sem.run, Result.andThen_ok, hsh, hfr]
    simp only [convert, Sem.run_bind, run_underlying hs, Result.andThen_ok, run_underlying (isU8_sound he.1), beq_self_eq_true, hmk, Sem.run_pure]
  · rename_i e hs hd
    replace h := chk_sound h; obtain ⟨he, h⟩ := h
    replace h := vStr_sound h; obtain ⟨b, rfl, h⟩ := h
    have hge : b.size ≤ (Question.appendCap b.size 0 e).cut (w.tape w.drawn (.appendCap b.size 0 e)) := by simp only [Question.cut]; omega
    have hK := h _ hge
    generalize hc : (Question.appendCap b.size 0 e).cut (w.tape w.drawn (.appendCap b.size 0 e)) = c at hK hge
    let arr : Array Value := ((b.data.toList.map fun b => Value.int .u8 (b.toNat : Int)) ++ List.replicate (c - b.size) (Value.int .u8 0)).toArray
    have harr : arr.size = c := by simp [arr]; have : b.data.size = b.size := rfl; omega
    have earr : (b.data.map fun b => Value.int .u8 (b.toNat : Int)) ++ Array.replicate (c - b.size) (.int .u8 0) = arr := by
      apply Array.ext'; simp [arr]
    refine ⟨_, { w.drew with heap := w.heap.push (.cells arr e (c, c + 1)) }, ?_, hK, ⟨rfl, rfl, rfl⟩⟩
    have hsh : (({ w.drew with heap := w.heap.push (.cells arr e) } : World).shape? w.heap.size) = some (e, arr.size) := by simp [World.shape?]
    simp only [convert, Sem.run_bind, run_underlying hs, run_underlying hd, Result.andThen_ok, run_underlying (isU8_sound he), Conv.stringToBytes]
    have hch : (choose (.appendCap b.size 0 e)).run P w = .ok c w.drew := by rw [← hc]; rfl
    simp only [hch, Result.andThen_ok, earr, run_new, Sem.run_bind]
    have hm : (markStringish ⟨w.drew.heap.size, 0, none⟩).run P { w.drew with heap := w.drew.heap.push (.cells arr e) } = .ok () { w.drew with heap := w.heap.push (.cells arr e (c, c + 1)) } := by
      unfold markStringish
      simp only [shape, freeze, Sem.run_bind, Sem.run, Result.andThen_ok]
      have hsh' : (({ w.drew with heap := w.drew.heap.push (.cells arr e) } : World).shape? w.drew.heap.size) = some (e, arr.size) := hsh
      rw [hsh']
      simp only [Sem.run, World.freeze]
      rw [if_neg (by omega)]
      congr 2
      rw [harr]
      apply Array.ext_getElem?
      intro k
      rw [Array.getElem?_modify]
      simp only [show w.drew.heap = w.heap from rfl]
      by_cases hk : w.heap.size = k
      · subst hk
        rw [if_pos rfl, Array.getElem?_push, Array.getElem?_push, if_pos rfl, if_pos rfl]
        simp
      · rw [if_neg hk, Array.getElem?_push, Array.getElem?_push, if_neg (fun e => hk e.symm), if_neg (fun e => hk e.symm)]
    simp only [hm, Result.andThen_ok, Sem.run_pure]
    rfl
  · exact h.elim
end Go.Proofs.YthiginhigfieiaaGreatDoor.V
/-
  A VIEW OF THE MACHINE AS A PREDICATE TRANSFORMER OVER THE HEAP. Part 7: one operation whichever: 'dOp'; a region in the text's order.
-/
namespace Go.Proofs.YthiginhigfieiaaGreatDoor.V
open Go Go.RowKit
set_option linter.unusedVariables false
set_option linter.unusedSimpArgs false

/-- What is known of the calls: a formula for each function. -/
abbrev Fns := FuncId → List Value → Heap → (Value → Heap → Prop) → Prop
def okFn (P : Program) (f : FuncId) : Bool := match P.funcs[f]? with
  | some fn => !(fn.name == "runtime.NumGoroutine") && fn.body.isSome
  | none => false
/-- The formulas are right. -/
def Right (P : Program) (Φ : Fns) : Prop := ∀ f vs h K, Φ f vs h K → okFn P f = true ∧
  ∀ w : World, w.heap = h → Calls P f vs.toArray w fun e w' => ∃ v, e = .returned v ∧ K v w'.heap ∧ Same w w'
/-- A call of a function value. -/
def dynV (Φ : Fns) (v : Value) (vs : List Value) (h : Heap) (K : Value → Heap → Prop) : Prop :=
  dec1 .fn v fun f => ∃ (g : FV) (id : FuncId), f = some g ∧ g.fn = .func id ∧ Φ id (g.first ++ vs ++ g.cap) h K
def dyn0 (Φ : Fns) (v : Value) (vs : List Value) (h : Heap) (K : Heap → Prop) : Prop := dynV Φ v vs h fun u h => u = .tuple #[] ∧ K h
def dyn1 (k : Kd) (Φ : Fns) (v : Value) (vs : List Value) (h : Heap) (K : k.T → Heap → Prop) : Prop := dynV Φ v vs h fun u h => dec1 k u fun x => K x h
def dynA (ks : List Kd) (Φ : Fns) (v : Value) (vs : List Value) (h : Heap) (K : Fn ks (Heap → Prop)) : Prop := dynV Φ v vs h fun u h => vAgg u fun cs => decsH ks cs.toList K h
def dDyn (P : Program) (Φ : Fns) (t : TypeId) (v : Value) (vs : List Value) (h : Heap) (K : Value → Heap → Prop) : Prop :=
  match aggT P t with
  | some true => on (leaves P 20 t) fun ks => dynA ks Φ v vs h (lamH ks fun cs h => K (.agg cs.toArray) h)
  | _ => match oneL P t with
    | some k => dyn1 k Φ v vs h fun x h => K (k.enc x) h
    | none => dyn0 Φ v vs h fun h => K (.tuple #[]) h
theorem dDyn_sound {P : Program} {Φ : Fns} {t : TypeId} {v : Value} {vs : List Value} {h : Heap} {K : Value → Heap → Prop} (hh : dDyn P Φ t v vs h K) :
    ∃ (g : FV) (id : FuncId) (K' : Value → Heap → Prop), v = .func g.fn g.first.toArray g.cap.toArray ∧ g.fn = .func id ∧ Φ id (g.first ++ vs ++ g.cap) h K' ∧ ∀ u h, K' u h → K u h := by
  have key : ∀ K' : Value → Heap → Prop, dynV Φ v vs h K' → (∀ u h, K' u h → K u h) → ∃ (g : FV) (id : FuncId) (K' : Value → Heap → Prop), v = .func g.fn g.first.toArray g.cap.toArray ∧ g.fn = .func id ∧ Φ id (g.first ++ vs ++ g.cap) h K' ∧ ∀ u h, K' u h → K u h := by
    intro K' hd hk
    obtain ⟨f, rfl, g, id, rfl, hg, hd⟩ := dec1_sound hd
    exact ⟨g, id, K', rfl, hg, hd, hk⟩
  unfold dDyn at hh
  split at hh
  · replace hh := on_sound hh; obtain ⟨ks, hks, hh⟩ := hh
    refine key _ hh fun u h hu => ?_
    obtain ⟨cs, rfl, hu⟩ := vAgg_sound hu
    have := decsH_lamH (K := fun cs h => K (.agg cs.toArray) h) hu
    simpa using this
  · split at hh
    · refine key _ hh fun u h hu => ?_
      obtain ⟨x, rfl, h2⟩ := dec1_sound hu
      exact h2
    · refine key _ hh fun u h hu => ?_
      obtain ⟨rfl, hu⟩ := hu
      exact hu
def dE (P : Program) (Φ : Fns) (o : Oper) (env : Env) (h : Heap) (K : Value → Heap → Prop) : Prop :=
  match o.op with
  | .alloc t => dAlloc P t h K
  | .box t x => ev1 env x fun v => dBox t v h K
  | .buildSlice t n ps => evP env ps.toList fun ps => dBuildSlice P t n ps h K
  | .store t a x => ev1 env a fun a => ev1 env x fun v => dStore P t a v h fun h => K undef h
  | .makeSlice t l c => ev1 env l fun l => ev1 env c fun c => dMake P t l c h K
  | .convert s d x => ev1 env x fun v => dConvE P s d v h K
  | .makeMap t none => alM h fun r h => K (.map (some r)) h
  | .insert t m k x => ev1 env m fun m => ev1 env k fun k => ev1 env x fun v => dMput P t m k v h fun h => K undef h
  | .mapUpdate t m k x => ev1 env m fun m => ev1 env k fun k => ev1 env x fun v => dMput P t m k v h fun h => K undef h
  | .call c => match c.callee with
    | .builtin .append => match c.argTypes.toList, c.args.toList with
      | [t, u], [x, y] => ev1 env x fun x => ev1 env y fun y => dAppend P t u x y h K
      | _, _ => False
    | .builtin .copy => match c.argTypes.toList, c.args.toList with
      | [t, u], [x, y] => ev1 env x fun x => ev1 env y fun y => dCopy P t x y h K
      | _, _ => False
    | .builtin .clear => match c.argTypes.toList, c.args.toList with
      | [t], [x] => match isMapT P t with
        | true => ev1 env x fun x => vMap x fun m => mclr m h fun h => K (.tuple #[]) h
        | false => ev1 env x fun x => dClear P t x h K
      | _, _ => False
    | .value (.func f) => evs env c.args.toList fun vs => Φ f vs h K
    | .value x => ev1 env x fun v => evs env c.args.toList fun vs => dDyn P Φ o.type v vs h K
    | _ => False
  | _ => False
/-- An operation comes to one of the ends that the formula tells of. -/
def ESt (P : Program) (o : Oper) (a : Act) (w : World) (K : Value → Heap → Prop) : Prop :=
  ∀ next Q, (∀ v w', K v w'.heap → Same w w' → next (a.put o.dst v) w') → o.wp P a w next Q
theorem ESt_value {P : Program} {o : Oper} {a : Act} {w w' : World} {K : Value → Heap → Prop} {v : Value}
    (h : (execOp a.eval o).run P w = .ok (.value v) w') (hK : K v w'.heap) (hs : Same w w') : ESt P o a w K := by
  intro next Q hn
  unfold Oper.wp
  rw [h]
  exact hn v w' hK hs
theorem ESt_skip {P : Program} {o : Oper} {a : Act} {w w' : World} {K : Value → Heap → Prop}
    (h : (execOp a.eval o).run P w = .ok .skip w') (hK : K undef w'.heap) (hs : Same w w') : ESt P o a w K := by
  intro next Q hn
  unfold Oper.wp
  rw [h]
  exact hn _ w' hK hs
theorem dE_sound {P : Program} {Φ : Fns} (hΦ : Right P Φ) {o : Oper} {env : Env} {K : Value → Heap → Prop} {a : Act} {w : World}
    (hh : dE P Φ o env w.heap K) (ha : AgrOn (· ∈ slots o.op) env a) : ESt P o a w K := by
  unfold dE at hh
  split at hh
  · rename_i t ho
    replace hh := on_sound hh; obtain ⟨z, hz, hh⟩ := hh
    replace hh := forceL_sound hh
    refine ESt_value (w' := { w with heap := w.heap.push (.cells z.cells t) }) ?_ hh ⟨rfl, rfl, rfl⟩
    simp only [execOp, ho, Instr.alloc, newVar, Sem.run_bind, run_zeroT hz, Result.andThen_ok, run_new, Sem.run_pure]
  · rename_i t x ho
    replace hh := ev1_sound hh; obtain ⟨v, hv, hh⟩ := hh
    replace hh := forceL_sound hh
    rw [ho] at ha
    refine ESt_value (w' := { w with heap := w.heap.push (.cells v.cells t) }) ?_ hh ⟨rfl, rfl, rfl⟩
    simp only [execOp, ho, Instr.box, newVar, ev_at ha (x := x) (by simp [Op.operands]) hv, Sem.run_bind, Result.andThen_ok, run_new, Sem.run_pure]
  · rename_i t n ps ho
    replace hh := evP_sound hh; obtain ⟨vs, hh, he⟩ := hh
    unfold dBuildSlice at hh
    replace hh := on_sound hh; obtain ⟨e, hel, hh⟩ := hh
    replace hh := on_sound hh; obtain ⟨size, hsz, hh⟩ := hh
    replace hh := on_sound hh; obtain ⟨z, hz, hh⟩ := hh
    replace hh := chk_sound hh; obtain ⟨hb, hh⟩ := hh
    rw [Bool.and_eq_true, Bool.and_eq_true] at hb
    have hb1 := Nat.le_of_ble_eq_true hb.1.1
    have hb2 := Nat.eq_of_beq_eq_true hb.1.2
    have hb3 : 0 < size := Nat.le_of_ble_eq_true hb.2
    rw [Array.length_toList] at hb2
    subst hb2
    obtain ⟨cells, hc, hh⟩ := fillC_sound hh
    rw [← rep_eq z.cells hb3] at hc
    rw [ho] at ha
    have e1 := he a (fun y hy u hu => ev_at ha (x := y) (by simpa [Op.operands] using hy) hu)
    have e2 : (ps.map fun (i, x) => (i, a.eval x)).toList = vs := by rw [Array.toList_map]; exact e1
    refine ESt_value (w' := { w with heap := w.heap.push (.cells cells e) }) ?_ hh ⟨rfl, rfl, rfl⟩
    have hsm : ¬ (2 ^ 24 < n * z.cells.size) := by omega
    simp only [execOp, ho, Instr.buildSlice, Sem.run_bind, run_underlying (elemT_sound hel), Result.andThen_ok, run_sizeT hsz, Sem.run_pure, Sem.run_ite]
    rw [if_neg hsm]
    by_cases hz0 : n * z.cells.size = 0
    · have hn0 : n = 0 := by rcases Nat.mul_eq_zero.1 hz0 with h | h; exact h; omega
      subst hn0
      simp only [Sem.run_bind, Sem.run_pure, Result.andThen_ok, Sem.run_ite, if_pos hz0, e2]
      have hc' : Instr.fill (fun k => some (k * z.cells.size, z.cells.size)) ((Array.range (0 * z.cells.size)).map (#[][· % (#[] : Array Value).size]!)) vs = some cells := by
        rw [← hc]; congr 1; rw [hz0]; simp [Array.range]
      simp only [hc', Sem.run_bind, run_new, Result.andThen_ok, Sem.run_pure]
    · simp only [Sem.run_bind, Sem.run_pure, Result.andThen_ok, Sem.run_ite, if_neg hz0, run_zeroT hz, e2, hc, run_new]
  · rename_i t x y ho
    replace hh := ev1_sound hh; obtain ⟨v, hv, hh⟩ := hh
    replace hh := ev1_sound hh; obtain ⟨u, hu, hh⟩ := hh
    obtain ⟨w', hr, hK, hs⟩ := dStore_sound hh
    rw [ho] at ha
    refine ESt_skip ?_ hK hs
    simp only [execOp, ho, ev_at ha (x := x) (by simp [Op.operands]) hv, ev_at ha (x := y) (by simp [Op.operands]) hu, Sem.run_bind, hr, Result.andThen_ok, Sem.run_pure]
  · rename_i t x y ho
    replace hh := ev1_sound hh; obtain ⟨v, hv, hh⟩ := hh
    replace hh := ev1_sound hh; obtain ⟨u, hu, hh⟩ := hh
    obtain ⟨r, w', hr, hK, hs⟩ := dMake_sound hh
    rw [ho] at ha
    refine ESt_value ?_ hK hs
    simp only [execOp, ho, ev_at ha (x := x) (by simp [Op.operands]) hv, ev_at ha (x := y) (by simp [Op.operands]) hu, Sem.run_bind, hr, Result.andThen_ok, Sem.run_pure]
  · rename_i s d x ho
    replace hh := ev1_sound hh; obtain ⟨v, hv, hh⟩ := hh
    obtain ⟨r, w', hr, hK, hs⟩ := dConvE_sound hh
    rw [ho] at ha
    refine ESt_value ?_ hK hs
    simp only [execOp, ho, ev_at ha (x := x) (by simp [Op.operands]) hv, Sem.run_bind, hr, Result.andThen_ok, Sem.run_pure]
  · rename_i t ho
    refine ESt_value (w' := { w with heap := w.heap.push (.map #[] 0) }) ?_ hh ⟨rfl, rfl, rfl⟩
    simp [execOp, ho, Instr.makeMap, newObj, Sem.run]
  · rename_i t m k x ho
    replace hh := ev1_sound hh; obtain ⟨v, hv, hh⟩ := hh
    replace hh := ev1_sound hh; obtain ⟨u, hu, hh⟩ := hh
    replace hh := ev1_sound hh; obtain ⟨y, hy, hh⟩ := hh
    obtain ⟨w', hr, hK, h1, h2, h3⟩ := dMput_sound hh
    rw [ho] at ha
    refine ESt_skip ?_ hK ⟨h1, h2, h3⟩
    simp only [execOp, ho, ev_at ha (x := m) (by simp [Op.operands]) hv, ev_at ha (x := k) (by simp [Op.operands]) hu, ev_at ha (x := x) (by simp [Op.operands]) hy, Sem.run_bind, hr, Result.andThen_ok, Sem.run_pure]
  · rename_i t m k x ho
    replace hh := ev1_sound hh; obtain ⟨v, hv, hh⟩ := hh
    replace hh := ev1_sound hh; obtain ⟨u, hu, hh⟩ := hh
    replace hh := ev1_sound hh; obtain ⟨y, hy, hh⟩ := hh
    obtain ⟨w', hr, hK, h1, h2, h3⟩ := dMput_sound hh
    rw [ho] at ha
    refine ESt_skip ?_ hK ⟨h1, h2, h3⟩
    simp only [execOp, ho, ev_at ha (x := m) (by simp [Op.operands]) hv, ev_at ha (x := k) (by simp [Op.operands]) hu, ev_at ha (x := x) (by simp [Op.operands]) hy, Sem.run_bind, hr, Result.andThen_ok, Sem.run_pure]
  · rename_i c ho
    rw [ho] at ha
    split at hh
    · rename_i hb
      split at hh
      · rename_i t u x y ht hx
        replace hh := ev1_sound hh; obtain ⟨v, hv, hh⟩ := hh
        replace hh := ev1_sound hh; obtain ⟨u', hu, hh⟩ := hh
        obtain ⟨r, w', hr, hK, hs⟩ := dAppend_sound (ty := o.type) hh
        have ets : c.argTypes = #[t, u] := by rw [← Array.toList_inj]; exact ht
        have eas : c.args = #[x, y] := by rw [← Array.toList_inj]; exact hx
        refine ESt_value ?_ hK hs
        simp only [execOp, ho, resolve, hb, ets, eas, Array.map, invoke, builtin]
        simp [ev_at ha (x := x) (by simp [Op.operands, Call.operands, hb, eas]) hv, ev_at ha (x := y) (by simp [Op.operands, Call.operands, hb, eas]) hu, hr]
      · exact hh.elim
    · rename_i hb
      split at hh
      · rename_i t u x y ht hx
        replace hh := ev1_sound hh; obtain ⟨v, hv, hh⟩ := hh
        replace hh := ev1_sound hh; obtain ⟨u', hu, hh⟩ := hh
        obtain ⟨r, w', hr, hK, hs⟩ := dCopy_sound (u := u) (ty := o.type) hh
        have ets : c.argTypes = #[t, u] := by rw [← Array.toList_inj]; exact ht
        have eas : c.args = #[x, y] := by rw [← Array.toList_inj]; exact hx
        refine ESt_value ?_ hK hs
        simp only [execOp, ho, resolve, hb, ets, eas, Array.map, invoke, builtin]
        simp [ev_at ha (x := x) (by simp [Op.operands, Call.operands, hb, eas]) hv, ev_at ha (x := y) (by simp [Op.operands, Call.operands, hb, eas]) hu, hr]
      · exact hh.elim
    · rename_i hb
      split at hh
      · rename_i t x ht hx
        split at hh
        · rename_i hmt
          replace hh := ev1_sound hh; obtain ⟨v, hv, hh⟩ := hh
          replace hh := vMap_sound hh; obtain ⟨m, rfl, hh⟩ := hh
          have ets : c.argTypes = #[t] := by rw [← Array.toList_inj]; exact ht
          have eas : c.args = #[x] := by rw [← Array.toList_inj]; exact hx
          have hx' := ev_at ha (x := x) (by simp [Op.operands, Call.operands, hb, eas]) hv
          unfold isMapT at hmt
          split at hmt
          · rename_i k e hu
            cases m with
            | none =>
              refine ESt_value (w' := w) ?_ hh (Same.refl _)
              simp only [execOp, ho, resolve, hb, ets, eas, Array.map, invoke, builtin]
              simp [hx', Builtin.clear_, run_underlying hu]
            | some r =>
              obtain ⟨es, cl, hbk, hK⟩ := hh
              refine ESt_value (w' := { w with heap := w.heap.setIfInBounds r (.map #[] cl) }) ?_ hK ⟨rfl, rfl, rfl⟩
              simp only [execOp, ho, resolve, hb, ets, eas, Array.map, invoke, builtin]
              simp [hx', Builtin.clear_, run_underlying hu, run_getM hbk, run_setM _ hbk]
          · cases hmt
        · replace hh := ev1_sound hh; obtain ⟨v, hv, hh⟩ := hh
          have ets : c.argTypes = #[t] := by rw [← Array.toList_inj]; exact ht
          have eas : c.args = #[x] := by rw [← Array.toList_inj]; exact hx
          unfold dClear at hh
          replace hh := on_sound hh; obtain ⟨e, hel, hh⟩ := hh
          replace hh := on_sound hh; obtain ⟨z, hz, hh⟩ := hh
          replace hh := vSl_sound hh; obtain ⟨p, n, cp, rfl, hh⟩ := hh
          have hx' := ev_at ha (x := x) (by simp [Op.operands, Call.operands, hb, eas]) hv
          obtain ⟨hz0, hz1⟩ := hh
          by_cases hn : n = 0
          · subst hn
            refine ESt_value (w' := w) ?_ (hz0 rfl) (Same.refl _)
            simp only [execOp, ho, resolve, hb, ets, eas, Array.map, invoke, builtin]
            cases p <;> simp [hx', Builtin.clear_, run_underlying (elemT_sound hel)]
          · have hst := hz1 hn
            obtain ⟨n, rfl⟩ : ∃ m, n = m + 1 := ⟨n - 1, by omega⟩
            cases p with
            | none =>
              refine ESt_value (w' := w) ?_ hst (Same.refl _)
              simp only [execOp, ho, resolve, hb, ets, eas, Array.map, invoke, builtin]
              simp [hx', Builtin.clear_, run_underlying (elemT_sound hel)]
            | some ad =>
              obtain ⟨w', hr, hK, hS, _⟩ := st_sound0 (P := P) hst
              refine ESt_value ?_ hK hS
              simp only [execOp, ho, resolve, hb, ets, eas, Array.map, invoke, builtin]
              simp [hx', Builtin.clear_, run_underlying (elemT_sound hel), run_zeroT hz, hr]
      · exact hh.elim
    · rename_i f hb
      replace hh := evs_sound hh; obtain ⟨vs, hh, he⟩ := hh
      obtain ⟨hok, hc⟩ := hΦ _ _ _ _ hh
      have e := he a (fun y hy u hu => ev_at ha (x := y) (by simp [Op.operands, Call.operands, hb]; exact .inr (by simpa using hy)) hu)
      have e2 : c.args.map a.eval = vs.toArray := by apply Array.ext'; rw [Array.toList_map, e]
      unfold okFn at hok
      split at hok
      · rename_i fn hfn
        rw [Bool.and_eq_true, Bool.not_eq_true'] at hok
        intro next Q hn
        unfold Oper.wp
        have hr : (execOp a.eval o).run P w = .ok (.enter f vs.toArray) w := by
          simp only [execOp, ho, resolve, hb, e2, Deferred.ofValue, Act.eval, Sem.run_bind, Sem.run_pure, Result.andThen_ok, invoke, callFunc, run_program, hfn]
          have hbn : fn.body.isNone = false := by rw [← Bool.not_eq_true, Option.isNone_iff_eq_none]; intro hn; simp [hn] at hok
          simp [hok.1, hbn]
        rw [hr]
        refine (hc w rfl).mono ?_
        rintro e w' ⟨v, rfl, hK, hs⟩
        exact hn v w' hK hs
      · simp at hok
    · rename_i x hnf hb
      replace hh := ev1_sound hh; obtain ⟨v, hv, hh⟩ := hh
      replace hh := evs_sound hh; obtain ⟨vs, hh, he⟩ := hh
      obtain ⟨g, f, K', rfl, hg, hh, hk⟩ := dDyn_sound hh
      obtain ⟨hok, hc⟩ := hΦ _ _ _ _ hh
      have e := he a (fun y hy u hu => ev_at ha (x := y) (by simp [Op.operands, Call.operands, hb]; exact .inr (by simpa using hy)) hu)
      have e2 : c.args.map a.eval = vs.toArray := by apply Array.ext'; rw [Array.toList_map, e]
      have e3 := ev_at ha (x := x) (by simp [Op.operands, Call.operands, hb]) hv
      unfold okFn at hok
      split at hok
      · rename_i fn hfn
        rw [Bool.and_eq_true, Bool.not_eq_true'] at hok
        intro next Q hn
        unfold Oper.wp
        have hr : (execOp a.eval o).run P w = .ok (.enter f (g.first ++ vs ++ g.cap).toArray) w := by
          simp only [execOp, ho, resolve, hb, e2, e3, Deferred.ofValue, hg, Sem.run_bind, Sem.run_pure, Result.andThen_ok, invoke, callFunc, run_program, hfn]
          have hbn : fn.body.isNone = false := by rw [← Bool.not_eq_true, Option.isNone_iff_eq_none]; intro hn; simp [hn] at hok
          simp [hok.1, hbn]
        rw [hr]
        refine (hc w rfl).mono ?_
        rintro e w' ⟨v, rfl, hK, hs⟩
        exact hn v w' (hk _ _ hK) hs
      · simp at hok
    · exact hh.elim
  · exact hh.elim
end Go.Proofs.YthiginhigfieiaaGreatDoor.V
/-
  A VIEW OF THE MACHINE AS A PREDICATE TRANSFORMER OVER THE HEAP. Part 8: regions in the text's order, and all the code round them: 'den'.
-/
namespace Go.Proofs.YthiginhigfieiaaGreatDoor.V
open Go Go.RowKit
set_option linter.unusedVariables false
set_option linter.unusedSimpArgs false

def Agr (env : Env) (a : Act) : Prop := ∀ t u, lk env t = some u → a.tmps[t]? = some u
structure Fits (n : Nat) (W : List Nat) (a0 : Act) (w0 : World) (env : Env) (a : Act) (w : World) : Prop where
  agr : Agr env a
  size : a.tmps.size = n
  def_ : a.defers = a0.defers
  off : ∀ t, t ∉ W → a.tmps[t]? = a0.tmps[t]?
  same : Same w0 w
def putE (dst : Option Nat) (v : Value) (env : Env) : Env := match dst with
  | some d => (d, v) :: env
  | none => env
def dstOk (n : Nat) (dst : Option Nat) : Bool := match dst with
  | some d => Nat.blt d n
  | none => true
theorem blt_lt {a b : Nat} (h : Nat.blt a b = true) : a < b := Nat.le_of_ble_eq_true h
theorem lk_cons (i : Nat) (v : Value) (r : Env) (j : Nat) : lk ((i, v) :: r) j = if i = j then some v else lk r j := by
  show (match Nat.beq i j with | true => some v | false => lk r j) = _
  by_cases h : i = j
  · subst h; simp [Nat.beq_refl]
  · have : Nat.beq i j = false := by rw [← Bool.not_eq_true, Nat.beq_eq]; exact h
    rw [this, if_neg h]
theorem Agr.put {env : Env} {a : Act} {n : Nat} (h : Agr env a) (hn : a.tmps.size = n) {dst : Option Nat} (hd : dstOk n dst = true) (v : Value) : Agr (putE dst v env) (a.put dst v) := by
  cases dst with
  | none => exact h
  | some d =>
    have hlt := blt_lt hd
    intro t u hu
    simp only [putE, lk_cons] at hu
    simp only [Act.put, Array.getElem?_setIfInBounds]
    by_cases e : d = t
    · subst e; rw [if_pos rfl] at hu; rw [if_pos rfl, if_pos (by omega)]; exact hu
    · rw [if_neg e] at hu; rw [if_neg e]; exact h t u hu
theorem Fits.put {n : Nat} {W : List Nat} {a0 a : Act} {w0 w w' : World} {env : Env} (h : Fits n W a0 w0 env a w) {dst : Option Nat} (hd : dstOk n dst = true) (hW : ∀ d, dst = some d → d ∈ W)
    (hs : Same w w') (v : Value) : Fits n W a0 w0 (putE dst v env) (a.put dst v) w' := by
  refine ⟨h.agr.put h.size hd v, ?_, ?_, ?_, h.same.trans hs⟩
  · cases dst <;> simp [Act.put, h.size]
  · cases dst <;> exact h.def_
  · intro t ht
    cases dst with
    | none => exact h.off t ht
    | some d =>
      have : d ≠ t := fun e => ht (e ▸ hW d rfl)
      simp only [Act.put, Array.getElem?_setIfInBounds, if_neg this]
      exact h.off t ht
theorem Agr.on {env : Env} {a : Act} (h : Agr env a) (S : Nat → Prop) : AgrOn S env a := fun t _ u hu => h t u hu
/-- What is known is forgotten but for these. -/
def restr : List Nat → Env → Env
  | [], _ => []
  | i :: M, env => match lk env i with
    | some v => (i, v) :: restr M env
    | none => restr M env
theorem restr_lk : ∀ {M : List Nat} {env : Env} {t : Nat} {u : Value}, lk (restr M env) t = some u → t ∈ M ∧ lk env t = some u
  | [], env, t, u, h => by simp [restr, lk] at h
  | i :: M, env, t, u, h => by
    simp only [restr] at h
    split at h
    · rename_i v hv
      rw [lk_cons] at h
      by_cases e : i = t
      · subst e; rw [if_pos rfl] at h; simp at h; subst h; exact ⟨by simp, hv⟩
      · rw [if_neg e] at h; have := restr_lk h; exact ⟨by simp [this.1], this.2⟩
    · have := restr_lk h; exact ⟨by simp [this.1], this.2⟩
def forceE : Env → (Env → Prop) → Prop
  | [], K => K []
  | p :: r, K => forceE r fun r' => K (p :: r')
theorem forceE_sound : ∀ {l : Env} {K : Env → Prop}, forceE l K → K l
  | [], _, h => h
  | v :: vs, K, h => forceE_sound (l := vs) (K := fun us => K (v :: us)) h
/-- None of the first in the second. -/
def disj (M W : List Nat) : Bool := M.all fun i => !W.any (Nat.beq i)
theorem disj_sound {M W : List Nat} (h : disj M W = true) : ∀ t ∈ M, t ∉ W := by
  intro t ht hw
  unfold disj at h
  rw [List.all_eq_true] at h
  have := h t ht
  rw [Bool.not_eq_true', ← Bool.not_eq_true] at this
  exact this (List.any_eq_true.2 ⟨t, hw, Nat.beq_refl t⟩)

def quietB (P : Program) (o : Oper) : Bool :=
  match o.op with
  | .move _ | .assign _ | .pick .. | .build .. | .load .. | .nilCheck _ | .binOp .. | .unOp .. | .slice .. | .fieldAddr .. | .field .. | .indexAddr .. | .index .. | .extract .. | .lookup .. | .makeFunc .. => true
  | .convert s d _ => match P.underlying s, P.underlying d with
    | some .string, some (.slice _) => false
    | some (.slice _), some (.slice _) => false
    | _, _ => true
  | .call c => match c.callee with
    | .builtin .len | .builtin .cap | .builtin .max | .builtin .min => true
    | _ => false
  | _ => false
def dOp (P : Program) (Φ : Fns) (o : Oper) (env : Env) (h : Heap) (K : Value → Heap → Prop) : Prop :=
  match quietB P o with
  | true => dQ P o env h fun v => K v h
  | false => dE P Φ o env h K
theorem dOp_sound {P : Program} {Φ : Fns} (hΦ : Right P Φ) {o : Oper} {env : Env} {K : Value → Heap → Prop} {a : Act} {w : World}
    (hh : dOp P Φ o env w.heap K) (ha : AgrOn (· ∈ slots o.op) env a) : ESt P o a w K := by
  unfold dOp at hh
  split at hh
  · obtain ⟨v, hK, hC, hr⟩ := dQ_sound hh
    exact ESt_value (hr a w ha hC) hK (Same.refl _)
  · exact dE_sound hΦ hh ha
def dstOf (ops : Array Oper) (j : Nat) : Option Nat := (ops[j]?).bind (·.dst)
def dRun (P : Program) (Φ : Fns) (o : Oper) (env : Env) (h : Heap) (K : Env → Heap → Prop) : Prop := dOp P Φ o env h fun v h => K (putE o.dst v env) h
/-- The value of a guard: a bool, or none, where the guard's own operation was not run. -/
def vGuard (v : Value) (K : Bool → Prop) (S : Prop) : Prop := match v with
  | .bool b => K b
  | .tuple _ => S
  | _ => False
theorem vGuard_sound {v : Value} {K : Bool → Prop} {S : Prop} (h : vGuard v K S) : (∃ b, v = .bool b ∧ K b) ∨ ((∃ vs, v = .tuple vs) ∧ S) := by
  cases v <;> first | exact h.elim | exact .inl ⟨_, rfl, h⟩ | exact .inr ⟨⟨_, rfl⟩, h⟩
/-- An operation under its guard. -/
def dStep (P : Program) (Φ : Fns) (ops : Array Oper) (o : Oper) (env : Env) (h : Heap) (K : Env → Heap → Prop) : Prop :=
  match o.guard with
  | none => dRun P Φ o env h K
  | some (j, want) => on (dstOf ops j) fun t => on (lk env t) fun v => vGuard v (fun b =>
    brr b (match want with
      | true => dRun P Φ o ((t, .bool true) :: env) h K
      | false => K (putE o.dst undef ((t, .bool true) :: env)) h)
    (match want with
      | true => K (putE o.dst undef ((t, .bool false) :: env)) h
      | false => dRun P Φ o ((t, .bool false) :: env) h K))
    (K (putE o.dst undef env) h)
def dOps (P : Program) (Φ : Fns) (n : Nat) (ops : Array Oper) : List Oper → Env → Heap → (Env → Heap → Prop) → Prop
  | [], env, h, K => K env h
  | o :: os, env, h, K => chk (dstOk n o.dst) (dStep P Φ ops o env h fun env h => dOps P Φ n ops os env h K)
theorem brr_sound {b : Bool} {A B : Prop} (h : brr b A B) : (b = true ∧ A) ∨ (b = false ∧ B) := by cases b; exact .inr ⟨rfl, h⟩; exact .inl ⟨rfl, h⟩
theorem Agr.lit {env : Env} {a : Act} (h : Agr env a) {t : Nat} {v : Value} (hv : lk env t = some v) : Agr ((t, v) :: env) a := by
  intro s u hu
  rw [lk_cons] at hu
  by_cases e : t = s
  · subst e; rw [if_pos rfl] at hu; simp at hu; subst hu; exact h _ _ hv
  · rw [if_neg e] at hu; exact h s u hu
theorem Fits.lit {n : Nat} {W : List Nat} {a0 a : Act} {w0 w : World} {env : Env} (h : Fits n W a0 w0 env a w) {t : Nat} {v : Value} (hv : lk env t = some v) : Fits n W a0 w0 ((t, v) :: env) a w :=
  ⟨h.agr.lit hv, h.size, h.def_, h.off, h.same⟩
section
variable {P : Program} {Φ : Fns} (hΦ : Right P Φ) {n : Nat} {W : List Nat} {a0 : Act} {w0 : World} {ops : Array Oper} {Q : Exit → Act → World → Prop}
theorem dRun_sound {o : Oper} {env : Env} {K : Env → Heap → Prop} {a : Act} {w : World} {next : Act → World → Prop} (hΦ : Right P Φ)
    (hf : Fits n W a0 w0 env a w) (hd : dstOk n o.dst = true) (hW : ∀ d, o.dst = some d → d ∈ W) (hh : dRun P Φ o env w.heap K)
    (hn : ∀ env' a' w', Fits n W a0 w0 env' a' w' → K env' w'.heap → next a' w') : o.wp P a w next Q := by
  exact dOp_sound hΦ hh (hf.agr.on _) next Q fun v w' hK hs => hn _ _ _ (hf.put hd hW hs v) hK
theorem wanted_none {o : Oper} {a : Act} (hg : o.guard = none) : Region.wanted o (yielded ops a.tmps) = true := by simp [Region.wanted, hg]
theorem wanted_some {o : Oper} {a : Act} {j t : Nat} {want b : Bool} (hg : o.guard = some (j, want)) (ht : dstOf ops j = some t) (hv : a.tmps[t]? = some (.bool b)) :
    Region.wanted o (yielded ops a.tmps) = (b == want) := by
  unfold dstOf at ht
  simp only [Region.wanted, hg, yielded, ht, Option.bind_some, hv]
  cases b <;> cases want <;> rfl
theorem wanted_undef {o : Oper} {a : Act} {j t : Nat} {want : Bool} {vs : Array Value} (hg : o.guard = some (j, want)) (ht : dstOf ops j = some t) (hv : a.tmps[t]? = some (.tuple vs)) :
    Region.wanted o (yielded ops a.tmps) = false := by
  unfold dstOf at ht
  simp only [Region.wanted, hg, yielded, ht, Option.bind_some, hv]
  cases want <;> rfl
theorem dStep_sound {i : Nat} {o : Oper} {env : Env} {K : Env → Heap → Prop} {a : Act} {w : World} {next : Act → World → Prop} (hΦ : Right P Φ) (ho : ops[i]? = some o)
    (hf : Fits n W a0 w0 env a w) (hd : dstOk n o.dst = true) (hW : ∀ d, o.dst = some d → d ∈ W) (hh : dStep P Φ ops o env w.heap K)
    (hn : ∀ env' a' w', Fits n W a0 w0 env' a' w' → K env' w'.heap → next a' w') : wpOp P ops Q i next a w := by
  unfold wpOp
  simp only [ho]
  unfold dStep at hh
  split at hh
  · rename_i hg
    rw [if_pos (wanted_none hg)]
    exact .inl (dRun_sound hΦ hf hd hW hh hn)
  · rename_i j want hg
    replace hh := on_sound hh; obtain ⟨t, ht, hh⟩ := hh
    replace hh := on_sound hh; obtain ⟨v, hv, hh⟩ := hh
    rcases vGuard_sound hh with ⟨b, rfl, hh⟩ | ⟨⟨vs, rfl⟩, hh⟩
    rotate_left
    · rw [wanted_undef hg ht (hf.agr t _ hv)]
      exact hn _ _ _ (hf.put hd hW (Same.refl _) undef) hh
    rw [wanted_some hg ht (hf.agr t _ hv)]
    rcases brr_sound hh with ⟨rfl, hh⟩ | ⟨rfl, hh⟩
    · cases want with
      | true => exact .inl (dRun_sound hΦ (hf.lit hv) hd hW hh hn)
      | false => exact hn _ _ _ ((hf.lit hv).put hd hW (Same.refl _) undef) hh
    · cases want with
      | true => exact hn _ _ _ ((hf.lit hv).put hd hW (Same.refl _) undef) hh
      | false => exact .inl (dRun_sound hΦ (hf.lit hv) hd hW hh hn)
def dsts (ops : List Oper) : List Nat := ops.filterMap (·.dst)
theorem dOps_sound (hΦ : Right P Φ) (hW : ∀ d ∈ dsts ops.toList, d ∈ W) : ∀ (os pre : List Oper) (env : Env) (K : Env → Heap → Prop) (a : Act) (w : World), ops.toList = pre ++ os → Fits n W a0 w0 env a w →
    dOps P Φ n ops os env w.heap K → (∀ env' a' w', Fits n W a0 w0 env' a' w' → K env' w'.heap → Q .normal a' w') → wpOps P ops Q (List.range' pre.length os.length) a w
  | [], pre, env, K, a, w, _, hf, hh, hn => hn _ _ _ hf hh
  | o :: os, pre, env, K, a, w, he, hf, hh, hn => by
    rw [List.length_cons, List.range'_succ, wpOps_cons]
    replace hh := chk_sound hh; obtain ⟨hd, hh⟩ := hh
    have ho : ops[pre.length]? = some o := by rw [← Array.getElem?_toList, he]; simp
    refine dStep_sound hΦ ho hf hd (fun d e => hW d ?_) hh fun env' a' w' hf' hK => ?_
    · unfold dsts; rw [List.mem_filterMap]; exact ⟨o, by rw [he]; simp, e⟩
    · have := dOps_sound hΦ hW os (pre ++ [o]) env' K a' w' (by simp [he]) hf' hK hn
      simpa using this
end
end Go.Proofs.YthiginhigfieiaaGreatDoor.V
/-
  A VIEW OF THE MACHINE AS A PREDICATE TRANSFORMER OVER THE HEAP. Part 9: regions that draw their order: one order is walked; what the others need besides is that what is read in between stays.
-/
namespace Go.Proofs.YthiginhigfieiaaGreatDoor.V
open Go Go.RowKit
set_option linter.unusedVariables false
set_option linter.unusedSimpArgs false

def dirs (o : Oper) : List Nat := (o.after.toList.filter fun e => Region.binds .any e).map (·.on)
def mask (A : List Nat) : List Nat → Nat
  | [] => 0
  | d :: ds => 2 ^ d ||| (A.getD d 0 ||| mask A ds)
theorem mask_bit {A : List Nat} {j : Nat} : ∀ {ds : List Nat}, (mask A ds).testBit j = true → ∃ d ∈ ds, j = d ∨ (A.getD d 0).testBit j = true
  | [], h => by simp [mask] at h
  | d :: ds, h => by
    simp only [mask, Nat.testBit_or, Bool.or_eq_true, Nat.testBit_two_pow, decide_eq_true_eq] at h
    rcases h with h | h | h
    · exact ⟨d, by simp, .inl h.symm⟩
    · exact ⟨d, by simp, .inr h⟩
    · obtain ⟨e, he, h⟩ := mask_bit h; exact ⟨e, by simp [he], h⟩
/-- The table is right: of each operation those that stand ahead of it, all of them earlier in the text. -/
def ancOk (A : List Nat) : Nat → List Oper → Bool
  | _, [] => true
  | i, o :: os => Nat.beq (A.getD i 0) (mask A (dirs o)) && ((dirs o).all fun d => Nat.blt d i) && ancOk A (i + 1) os
theorem ancOk_at {A : List Nat} : ∀ {os : List Oper} {i : Nat}, ancOk A i os = true → ∀ k o, os[k]? = some o → A.getD (i + k) 0 = mask A (dirs o) ∧ ∀ d ∈ dirs o, d < i + k
  | [], _, _, k, o, h => by simp at h
  | o :: os, i, h, k, o', ho => by
    simp only [ancOk, Bool.and_eq_true] at h
    cases k with
    | zero =>
      simp at ho; subst ho
      exact ⟨Nat.eq_of_beq_eq_true h.1.1, fun d hd => blt_lt (List.all_eq_true.1 h.1.2 d hd)⟩
    | succ k =>
      have := ancOk_at h.2 k o' (by simpa using ho)
      rwa [show i + (k + 1) = i + 1 + k by omega]
/-- The slots that an operation reads. -/
def reads (ops : Array Oper) (o : Oper) : List Nat := slots o.op ++ (match o.guard with | some (j, _) => (dstOf ops j).toList | none => [])
/-- The order that is walked: each operation once, behind what stands ahead of it; what only reads: behind no change that doesn't stand ahead of it. -/
def ordOk (P : Program) (A : List Nat) (ops : Array Oper) : List Nat → List Nat → List Nat → Bool
  | [], _, _ => true
  | i :: T, done, effs => (match ops.toList[i]? with
    | some o => ((dirs o).all fun d => done.any (Nat.beq d)) && (!quietB P o || (match effs with | [] => true | e :: _ => (A.getD i 0).testBit e)) && !(done.any (Nat.beq i)) &&
      ordOk P A ops T (i :: done) (match quietB P o with | true => effs | false => i :: effs)
    | none => false)
/-- Each slot is written once, and read behind or ahead of that. -/
def slotOk (A : List Nat) (ops : Array Oper) : Nat → List Oper → Bool
  | _, [] => true
  | j, o :: os => (match o.dst with
    | some t => slotAt A ops j t 0 ops.toList
    | none => true) && slotOk A ops (j + 1) os
where
  slotAt (A : List Nat) (ops : Array Oper) (j t : Nat) : Nat → List Oper → Bool
    | _, [] => true
    | i, p :: ps => (match Nat.beq i j with
      | true => true
      | false => (match (reads ops p).any (Nat.beq t) with
        | true => (A.getD i 0).testBit j || (A.getD j 0).testBit i
        | false => true) && (match p.dst with
        | some s => !Nat.beq s t
        | none => true)) && slotAt A ops j t (i + 1) ps
def effB (P : Program) (ops : Array Oper) (i : Nat) : Bool := match ops.toList[i]? with
  | some o => !quietB P o
  | none => false
def heads (e : Nat) : List (List Nat) → List (List Nat)
  | [] => []
  | [] :: r => heads e r
  | (x :: L) :: r => match Nat.beq x e with
    | true => L :: heads e r
    | false => heads e r
/-- In whatever order the changes come: it is one of these. -/
def cov (A E : List Nat) : Nat → List Nat → List (List Nat) → Bool
  | 0, _, _ => false
  | f + 1, done, Ls => match E.filter fun e => !(done.any (Nat.beq e)) with
    | [] => Ls.any (·.isEmpty)
    | rem => rem.all fun e => !(E.all fun d => !((A.getD e 0).testBit d) || done.any (Nat.beq d)) || cov A E f (e :: done) (heads e Ls)
def drawOk (P : Program) (ops : Array Oper) (A : List Nat) (Ts : List (List Nat)) : Bool :=
  ancOk A 0 ops.toList && (Ts.all fun T => ordOk P A ops T [] [] && Nat.beq T.length ops.size) && slotOk A ops 0 ops.toList &&
    cov A ((List.range ops.size).filter (effB P ops)) (ops.size + 1) [] (Ts.map fun T => T.filter (effB P ops))

abbrev Obs := List (Nat × (Heap → Prop))
def addOb (i : Nat) (c : Option (Heap → Prop)) (ob : Obs) : Obs := match c with
  | some f => ob ++ [(i, f)]
  | none => ob
def allOb (m : Nat) (h : Heap) : Obs → Prop → Prop
  | [], K => K
  | (i, f) :: r, K => match m.testBit i with
    | true => allOb m h r K
    | false => f h ∧ allOb m h r K
def dGuard (ops : Array Oper) (o : Oper) (env : Env) (run skip : Env → Prop) : Prop :=
  match o.guard with
  | none => run env
  | some (j, want) => on (dstOf ops j) fun t => on (lk env t) fun v => vGuard v (fun b =>
    brr b (match want with
      | true => run ((t, .bool true) :: env)
      | false => skip ((t, .bool true) :: env))
    (match want with
      | true => skip ((t, .bool false) :: env)
      | false => run ((t, .bool false) :: env)))
    (skip env)
def dDraw (P : Program) (Φ : Fns) (n : Nat) (ops : Array Oper) (A : List Nat) : List Nat → Env → Heap → Obs → (Env → Heap → Prop) → Prop
  | [], env, h, _, K => K env h
  | i :: T, env, h, ob, K => on ops.toList[i]? fun o => chk (dstOk n o.dst) (
    match quietB P o with
    | true => dGuard ops o env (fun env => dQ P o env h fun v => dDraw P Φ n ops A T (putE o.dst v env) h (addOb i (obOf o env h v) ob) K)
      fun env => dDraw P Φ n ops A T (putE o.dst undef env) h ob K
    | false => dGuard ops o env (fun env => dE P Φ o env h fun v h' => allOb (A.getD i 0) h' ob (dDraw P Φ n ops A T (putE o.dst v env) h' ob K))
      fun env => dDraw P Φ n ops A T (putE o.dst undef env) h ob K)

/-- Each of the orders that are walked. -/
def dDraws (P : Program) (Φ : Fns) (n : Nat) (ops : Array Oper) (A : List Nat) : List (List Nat) → Env → Heap → (Env → Heap → Prop) → Prop
  | [], _, _, _ => True
  | [T], env, h, K => dDraw P Φ n ops A T env h [] K
  | T :: Ts, env, h, K => dDraw P Φ n ops A T env h [] K ∧ dDraws P Φ n ops A Ts env h K
theorem dDraws_mem {P : Program} {Φ : Fns} {n : Nat} {ops : Array Oper} {A : List Nat} {env : Env} {h : Heap} {K : Env → Heap → Prop} {T : List Nat} : ∀ {Ts : List (List Nat)}, dDraws P Φ n ops A Ts env h K → T ∈ Ts → dDraw P Φ n ops A T env h [] K
  | [], _, hm => by simp at hm
  | [U], hh, hm => by simp at hm; subst hm; exact hh
  | U :: V :: Ts, hh, hm => by
    rcases List.mem_cons.1 hm with rfl | hm
    · exact hh.1
    · exact dDraws_mem (Ts := V :: Ts) hh.2 hm

theorem allOb_sound {m : Nat} {h : Heap} : ∀ {ob : Obs} {K : Prop}, allOb m h ob K → K ∧ ∀ i f, (i, f) ∈ ob → m.testBit i = false → f h
  | [], K, hh => ⟨hh, fun i f hm => by simp at hm⟩
  | (i, f) :: r, K, hh => by
    simp only [allOb] at hh
    split at hh
    · rename_i hb
      obtain ⟨h1, h2⟩ := allOb_sound hh
      refine ⟨h1, fun i' f' hm hf => ?_⟩
      rcases List.mem_cons.1 hm with e | hm
      · cases e; rw [hb] at hf; cases hf
      · exact h2 i' f' hm hf
    · obtain ⟨h1, h2⟩ := allOb_sound hh.2
      refine ⟨h1, fun i' f' hm hf => ?_⟩
      rcases List.mem_cons.1 hm with e | hm
      · cases e; exact hh.1
      · exact h2 i' f' hm hf
theorem dGuard_sound {P : Program} {ops : Array Oper} {o : Oper} {env : Env} {run skip : Env → Prop} (h : dGuard ops o env run skip) :
    ∃ env', (∀ t u, lk env' t = some u ↔ lk env t = some u) ∧
      ((run env' ∧ ∀ a : Act, AgrOn (· ∈ reads ops o) env a → Region.wanted o (yielded ops a.tmps) = true) ∨
       (skip env' ∧ ∀ a : Act, AgrOn (· ∈ reads ops o) env a → Region.wanted o (yielded ops a.tmps) = false)) := by
  unfold dGuard at h
  split at h
  · rename_i hg
    exact ⟨env, fun _ _ => Iff.rfl, .inl ⟨h, fun a _ => wanted_none hg⟩⟩
  · rename_i j want hg
    replace h := on_sound h; obtain ⟨t, ht, h⟩ := h
    replace h := on_sound h; obtain ⟨v, hv, h⟩ := h
    have hr : t ∈ reads ops o := by unfold reads; rw [hg]; simp [ht]
    rcases vGuard_sound h with ⟨b, rfl, h⟩ | ⟨⟨vs, rfl⟩, h⟩
    · have hl : ∀ s u, lk ((t, Value.bool b) :: env) s = some u ↔ lk env s = some u := by
        intro s u
        rw [lk_cons]
        by_cases e : t = s
        · subst e; rw [if_pos rfl, hv]
        · rw [if_neg e]
      rcases brr_sound h with ⟨rfl, h⟩ | ⟨rfl, h⟩
      · cases want with
        | true => exact ⟨_, hl, .inl ⟨h, fun a ha => by rw [wanted_some hg ht (ha t hr _ hv)]; rfl⟩⟩
        | false => exact ⟨_, hl, .inr ⟨h, fun a ha => by rw [wanted_some hg ht (ha t hr _ hv)]; rfl⟩⟩
      · cases want with
        | true => exact ⟨_, hl, .inr ⟨h, fun a ha => by rw [wanted_some hg ht (ha t hr _ hv)]; rfl⟩⟩
        | false => exact ⟨_, hl, .inl ⟨h, fun a ha => by rw [wanted_some hg ht (ha t hr _ hv)]; rfl⟩⟩
    · exact ⟨env, fun _ _ => Iff.rfl, .inr ⟨h, fun a ha => wanted_undef hg ht (ha t hr _ hv)⟩⟩

section
variable {P : Program} {Φ : Fns} {n : Nat} {ops : Array Oper} {A T : List Nat} {K : Env → Heap → Prop} {ai : Act} {wi : World} {Q : Exit → Act → World → Prop}

def EnvOk (ops : Array Oper) (ai : Act) (U : List Nat) (pv : Nat → Value) (env : Env) : Prop :=
  ∀ t u, lk env t = some u → (∀ j ∈ U, dstOf ops j = some t → u = pv j) ∧ ((∀ j ∈ U, dstOf ops j ≠ some t) → ai.tmps[t]? = some u)
/-- An operation that was walked and changes nothing: run now, wherever, it gives what was told of it. -/
def Does (P : Program) (ops : Array Oper) (o : Oper) (env : Env) (v : Value) (h : Heap) (ob : Obs) (i : Nat) : Prop :=
  ∃ c : Option (Heap → Prop), (∀ f, c = some f → (i, f) ∈ ob) ∧ obHolds c h ∧
    ∀ (a : Act) (w : World) (next : Act → World → Prop) (Q : Exit → Act → World → Prop), AgrOn (· ∈ reads ops o) env a → obHolds c w.heap → next (a.put o.dst v) w → wpOp P ops Q i next a w
def Pend (P : Program) (ops : Array Oper) (ai : Act) (U : List Nat) (pv : Nat → Value) (h : Heap) (ob : Obs) (i : Nat) : Prop :=
  ∃ U1 U2 o env, U = U1 ++ i :: U2 ∧ ops[i]? = some o ∧ EnvOk ops ai U1 pv env ∧ Does P ops o env (pv i) h ob i
def quietAt (P : Program) (ops : Array Oper) (i : Nat) : Prop := ∃ o, ops[i]? = some o ∧ quietB P o = true
def effAt (P : Program) (ops : Array Oper) (i : Nat) : Prop := ∃ o, ops[i]? = some o ∧ quietB P o = false

theorem EnvOk.congr {U : List Nat} {pv : Nat → Value} {env env' : Env} (h : EnvOk ops ai U pv env) (he : ∀ t u, lk env' t = some u ↔ lk env t = some u) : EnvOk ops ai U pv env' :=
  fun t u hu => h t u ((he t u).1 hu)
theorem EnvOk.pv {U : List Nat} {pv pv' : Nat → Value} {env : Env} (h : EnvOk ops ai U pv env) (he : ∀ j ∈ U, pv' j = pv j) : EnvOk ops ai U pv' env :=
  fun t u hu => ⟨fun j hj hd => ((h t u hu).1 j hj hd).trans (he j hj).symm, (h t u hu).2⟩
theorem EnvOk.put {U : List Nat} {pv : Nat → Value} {env : Env} {i : Nat} {o : Oper} {v : Value} (h : EnvOk ops ai U pv env) (ho : ops[i]? = some o) (hi : i ∉ U)
    (hd : ∀ j ∈ U, ∀ t, dstOf ops j = some t → dstOf ops i ≠ some t) : EnvOk ops ai (U ++ [i]) (fun j => if j = i then v else pv j) (putE o.dst v env) := by
  have hdi : dstOf ops i = o.dst := by unfold dstOf; rw [ho]; rfl
  intro t u hu
  cases hod : o.dst with
  | none =>
    rw [hod] at hu
    obtain ⟨h1, h2⟩ := h t u hu
    refine ⟨fun j hj hdj => ?_, fun hn => h2 fun j hj => hn j (by simp [hj])⟩
    rcases List.mem_append.1 hj with hj | hj
    · rw [show (fun k => if k = i then v else pv k) j = pv j from if_neg (fun e : j = i => hi (e ▸ hj))]; exact h1 j hj hdj
    · simp at hj; subst hj; rw [hdi, hod] at hdj; cases hdj
  | some d =>
    rw [hod] at hu
    simp only [putE, lk_cons] at hu
    by_cases e : d = t
    · subst e
      rw [if_pos rfl] at hu; simp at hu; subst hu
      refine ⟨fun j hj hdj => ?_, fun hn => (hn i (by simp) (by rw [hdi, hod])).elim⟩
      rcases List.mem_append.1 hj with hj | hj
      · exact (hd j hj _ hdj (by rw [hdi, hod])).elim
      · simp at hj; subst hj; exact (if_pos rfl).symm
    · rw [if_neg e] at hu
      obtain ⟨h1, h2⟩ := h t u hu
      refine ⟨fun j hj hdj => ?_, fun hn => h2 fun j hj => hn j (by simp [hj])⟩
      rcases List.mem_append.1 hj with hj | hj
      · rw [show (fun k => if k = i then v else pv k) j = pv j from if_neg (fun e : j = i => hi (e ▸ hj))]; exact h1 j hj hdj
      · simp at hj; subst hj; rw [hdi, hod] at hdj; simp at hdj; exact (e hdj).elim
theorem Pend.more {U : List Nat} {pv pv' : Nat → Value} {h h' : Heap} {ob ob' : Obs} {i : Nat} (hp : Pend P ops ai U pv h ob i) (x : List Nat) (hpv : ∀ j ∈ U, pv' j = pv j)
    (hob : ∀ f, (i, f) ∈ ob → (i, f) ∈ ob' ∧ (f h → f h')) : Pend P ops ai (U ++ x) pv' h' ob' i := by
  obtain ⟨U1, U2, o, env, rfl, ho, he, c, hc, hh, hr⟩ := hp
  refine ⟨U1, U2 ++ x, o, env, by simp, ho, he.pv fun j hj => hpv j (by simp [hj]), c, fun f e => (hob f (hc f e)).1, ?_, ?_⟩
  · cases c with
    | none => trivial
    | some f => exact (hob f (hc f rfl)).2 hh
  · rw [hpv i (by simp)]; exact hr
/-- The quiet operations that come next are walked at once. -/
theorem unfold_quiet (hd : ∀ i j t, dstOf ops i = some t → dstOf ops j = some t → i = j) : ∀ (T' U : List Nat) (env : Env) (pv : Nat → Value) (h : Heap) (ob : Obs) (S : Nat → Prop), (U ++ T').Nodup →
    dDraw P Φ n ops A T' env h ob K → EnvOk ops ai U pv env → (∀ i ∈ U, S i → Pend P ops ai U pv h ob i) →
    ∃ V T'' env' pv' ob', T' = V ++ T'' ∧ (∀ i ∈ V, quietAt P ops i) ∧ (T'' = [] ∨ ∃ e r, T'' = e :: r ∧ ¬ quietAt P ops e) ∧ dDraw P Φ n ops A T'' env' h ob' K ∧ EnvOk ops ai (U ++ V) pv' env' ∧
      (∀ j ∈ U, pv' j = pv j) ∧ (∀ i ∈ U, S i → Pend P ops ai (U ++ V) pv' h ob' i) ∧ (∀ i ∈ V, Pend P ops ai (U ++ V) pv' h ob' i) := by
  intro T'
  induction T' with
  | nil =>
    intro U env pv h ob S hnd hh he hp
    exact ⟨[], [], env, pv, ob, rfl, by simp, .inl rfl, hh, by simpa using he, fun _ _ => rfl, by simpa using hp, by simp⟩
  | cons i T' ih =>
    intro U env pv h ob S hnd hh he hp
    by_cases hq : quietAt P ops i
    · obtain ⟨o, ho, hq'⟩ := hq
      have hiU : i ∉ U := by
        intro hi
        exact (List.nodup_append.1 hnd).2.2 i hi i (by simp) rfl
      have hh2 := hh
      simp only [dDraw] at hh2
      replace hh2 := on_sound hh2; obtain ⟨o', ho', hh2⟩ := hh2
      have : o' = o := by rw [Array.getElem?_toList, ho] at ho'; simpa using ho'.symm
      subst this
      replace hh2 := chk_sound hh2; obtain ⟨hdk, hh2⟩ := hh2
      rw [hq'] at hh2
      simp only at hh2
      have hdU : ∀ j ∈ U, ∀ t, dstOf ops j = some t → dstOf ops i ≠ some t := fun j hj t h1 h2 => hiU ((hd j i t h1 h2) ▸ hj)
      -- what is known behind it
      have key : ∃ v env1 ob1, dDraw P Φ n ops A T' env1 h ob1 K ∧ EnvOk ops ai (U ++ [i]) (fun j => if j = i then v else pv j) env1 ∧ (∀ x, x ∈ ob → x ∈ ob1) ∧ Does P ops o' env v h ob1 i := by
        obtain ⟨env2, hl, ⟨hrun, hw⟩ | ⟨hskip, hw⟩⟩ := dGuard_sound (P := P) hh2
        · obtain ⟨v, hK, hC, hQ⟩ := dQ_sound hrun
          refine ⟨v, _, _, hK, (he.congr hl).put ho hiU hdU, ?_, obOf o' env2 h v, ?_, hC, ?_⟩
          · intro x hx; unfold addOb; split
            · simp [hx]
            · exact hx
          · intro f hf; rw [hf]; simp [addOb]
          · intro a w next Q ha hc hn
            unfold wpOp
            simp only [ho]
            rw [if_pos (hw a ha)]
            left
            unfold Oper.wp
            rw [hQ a w (fun t ht u hu => ha t (by unfold reads; simp [ht]) u ((hl t u).1 hu)) hc]
            exact hn
        · refine ⟨undef, _, ob, hskip, (he.congr hl).put ho hiU hdU, fun x hx => hx, none, (fun f hf => by cases hf), trivial, ?_⟩
          intro a w next Q ha hc hn
          unfold wpOp
          simp only [ho]
          rw [hw a ha]
          exact hn
      obtain ⟨v, env1, ob1, hd1, he1, hob1, hdoes⟩ := key
      have hpvU : ∀ j ∈ U, (fun j => if j = i then v else pv j) j = pv j := fun j hj => if_neg fun e : j = i => hiU (e ▸ hj)
      have hpi : Pend P ops ai (U ++ [i]) (fun j => if j = i then v else pv j) h ob1 i :=
        ⟨U, [], o', env, rfl, ho, he.pv hpvU, by simpa using hdoes⟩
      obtain ⟨V, T'', env', pv', ob', hT, hV, hT'', hdr, hee, hpv, hpU, hpV⟩ := ih (U ++ [i]) env1 _ h ob1 (fun j => S j ∨ j = i) (by simpa using hnd) hd1 he1 (by
        intro j hj hS
        rcases List.mem_append.1 hj with hj | hj
        · rcases hS with hS | rfl
          · exact (hp j hj hS).more [i] hpvU (fun f hf => ⟨hob1 _ hf, id⟩)
          · exact hpi
        · simp at hj; subst hj; exact hpi)
      refine ⟨i :: V, T'', env', pv', ob', by simp [hT], ?_, hT'', hdr, by simpa using hee, fun j hj => (hpv j (by simp [hj])).trans (hpvU j hj), ?_, ?_⟩
      · intro j hj
        rcases List.mem_cons.1 hj with rfl | hj
        · exact ⟨o', ho, hq'⟩
        · exact hV j hj
      · intro j hj hS
        have := hpU j (by simp [hj]) (.inl hS)
        simpa using this
      · intro j hj
        rcases List.mem_cons.1 hj with rfl | hj
        · have := hpU j (by simp) (.inr rfl); simpa using this
        · have := hpV j hj; simpa using this
    · exact ⟨[], i :: T', env, pv, ob, rfl, by simp, .inr ⟨i, T', rfl, hq⟩, hh, by simpa using he, fun _ _ => rfl, by simpa using hp, by simp⟩

structure Good (P : Program) (ops : Array Oper) (A T : List Nat) : Prop where
  anc : ∀ i o, ops[i]? = some o → A.getD i 0 = mask A (dirs o) ∧ ∀ d ∈ dirs o, d < i
  nodup : T.Nodup
  mem : ∀ i, i ∈ T ↔ i < ops.size
  /-- what stands ahead of it is walked ahead of it -/
  ext : ∀ U i V, T = U ++ i :: V → ∀ o, ops[i]? = some o → ∀ d ∈ dirs o, d ∈ U
  /-- the last change that is walked ahead of what only reads stands ahead of it -/
  eff : ∀ U i V, T = U ++ i :: V → quietAt P ops i → ∀ e, (U.filter (effB P ops)).getLast? = some e → (A.getD i 0).testBit e = true
  dst : ∀ i j t, dstOf ops i = some t → dstOf ops j = some t → i = j
  rd : ∀ i o t j, ops[i]? = some o → t ∈ reads ops o → dstOf ops j = some t → j ≠ i → (A.getD i 0).testBit j = true ∨ (A.getD j 0).testBit i = true
theorem nodup_le : ∀ (N : Nat) (L : List Nat), L.Nodup → (∀ x ∈ L, x < N) → L.length ≤ N
  | 0, [], _, _ => by simp
  | 0, x :: _, _, h => by have := h x (by simp); omega
  | N + 1, L, hn, h => by
    by_cases hN : N ∈ L
    · have := nodup_le N (L.erase N) (hn.erase N) (fun x hx => by
        have hx' := (List.Nodup.mem_erase_iff hn).1 hx
        have := h x hx'.2
        omega)
      rw [List.length_erase_of_mem hN] at this
      omega
    · have := nodup_le N L hn (fun x hx => by
        have := h x hx
        have : x ≠ N := fun e => hN (e ▸ hx)
        omega)
      omega
theorem nodup_all {N : Nat} {L : List Nat} (hn : L.Nodup) (h : ∀ x ∈ L, x < N) (hl : L.length = N) : ∀ i, i < N → i ∈ L := by
  intro i hi
  apply Classical.byContradiction
  intro hc
  have := nodup_le N (i :: L) (List.nodup_cons.2 ⟨hc, hn⟩) (fun x hx => by rcases List.mem_cons.1 hx with rfl | hx; exact hi; exact h x hx)
  simp at this; omega
theorem any_beq {L : List Nat} {d : Nat} : L.any (Nat.beq d) = true ↔ d ∈ L := by
  rw [List.any_eq_true]
  constructor
  · rintro ⟨x, hx, e⟩; have := Nat.eq_of_beq_eq_true e; subst this; exact hx
  · intro h; exact ⟨d, h, Nat.beq_refl d⟩
theorem effB_iff {i : Nat} : effB P ops i = true ↔ effAt P ops i := by
  unfold effB effAt
  rw [Array.getElem?_toList]
  cases h : ops[i]? with
  | none => simp
  | some o => simp
theorem ordOk_sound : ∀ (T U done effs : List Nat), ordOk P A ops T done effs = true → (∀ x, x ∈ U ↔ x ∈ done) → effs = (U.filter (effB P ops)).reverse → U.Nodup →
    (U ++ T).Nodup ∧ (∀ i ∈ T, i < ops.size) ∧ ∀ U1 i V, U ++ T = U1 ++ i :: V → U.length ≤ U1.length →
      (∀ o, ops[i]? = some o → ∀ d ∈ dirs o, d ∈ U1) ∧ (quietAt P ops i → ∀ e, (U1.filter (effB P ops)).getLast? = some e → (A.getD i 0).testBit e = true)
  | [], U, done, effs, _, hdn, hef, hnd => by
    refine ⟨by simpa using hnd, by simp, fun U1 i V e hl => ?_⟩
    have := congrArg List.length e
    simp at this; omega
  | i :: T, U, done, effs, h, hdn, hef, hnd => by
    simp only [ordOk] at h
    split at h
    · rename_i o ho
      rw [Array.getElem?_toList] at ho
      simp only [Bool.and_eq_true, Bool.not_eq_true'] at h
      obtain ⟨⟨⟨hdir, heff⟩, hnew⟩, hrest⟩ := h
      have hdir' : ∀ d ∈ dirs o, d ∈ U := fun d hd => (hdn d).2 (any_beq.1 (List.all_eq_true.1 hdir d hd))
      have heff' : quietAt P ops i → ∀ e, (U.filter (effB P ops)).getLast? = some e → (A.getD i 0).testBit e = true := by
        rintro ⟨oq, hoq, hqq⟩ e he
        rw [ho] at hoq; simp at hoq; subst hoq
        rw [hqq] at heff
        simp only [Bool.not_true, Bool.false_or] at heff
        have hh : effs.head? = some e := by rw [hef, List.head?_reverse]; exact he
        cases effs with
        | nil => simp at hh
        | cons x r => simp at hh; subst hh; exact heff
      have hiU : i ∉ U := fun hi => by have := any_beq.2 ((hdn i).1 hi); rw [hnew] at this; cases this
      have hnd' : (U ++ [i]).Nodup := by
        rw [List.nodup_append]
        exact ⟨hnd, by simp, fun a ha b hb e => by simp at hb; subst hb; subst e; exact hiU ha⟩
      obtain ⟨h1, h2, h3⟩ := ordOk_sound T (U ++ [i]) (i :: done) _ hrest (by intro x; simp [hdn x]; exact or_comm) (by
        rw [List.filter_append, List.reverse_append]
        cases hq : quietB P o with
        | true =>
          have : effB P ops i = false := by
            rw [← Bool.not_eq_true, effB_iff]
            rintro ⟨o', ho', hq'⟩
            rw [ho] at ho'; simp at ho'; subst ho'; rw [hq] at hq'; cases hq'
          simp [List.filter_cons_of_neg, this, hef]
        | false =>
          have : effB P ops i = true := effB_iff.2 ⟨o, ho, hq⟩
          simp [List.filter_cons_of_pos, this, hef]) hnd'
      refine ⟨by simpa using h1, ?_, ?_⟩
      · intro j hj
        rcases List.mem_cons.1 hj with rfl | hj
        · exact (Array.getElem?_eq_some_iff.1 ho).1
        · exact h2 j hj
      · intro U1 i' V e hl
        by_cases hl' : U1.length = U.length
        · have : U1 = U ∧ i' :: V = i :: T := by
            have := List.append_inj e hl'.symm
            exact ⟨this.1.symm, this.2.symm⟩
          obtain ⟨rfl, e2⟩ := this
          simp at e2; obtain ⟨rfl, rfl⟩ := e2
          exact ⟨fun o' ho' d hd => by rw [ho] at ho'; simp at ho'; subst ho'; exact hdir' d hd, heff'⟩
        · exact h3 U1 i' V (by simpa using e) (by simp; omega)
    · simp at h
theorem slotAt_sound {j t : Nat} : ∀ (ps : List Oper) (i : Nat), slotOk.slotAt A ops j t i ps = true → ∀ k p, ps[k]? = some p → i + k ≠ j →
    (t ∈ reads ops p → (A.getD (i + k) 0).testBit j = true ∨ (A.getD j 0).testBit (i + k) = true) ∧ p.dst ≠ some t
  | [], _, _, k, p, h, _ => by simp at h
  | q :: ps, i, h, k, p, hp, hne => by
    simp only [slotOk.slotAt, Bool.and_eq_true] at h
    cases k with
    | zero =>
      simp at hp; subst hp
      have h1 := h.1
      have : Nat.beq i j = false := by rw [← Bool.not_eq_true, Nat.beq_eq]; simpa using hne
      simp only [this, Bool.and_eq_true] at h1
      refine ⟨fun ht => ?_, fun e => ?_⟩
      · have h2 := h1.1
        rw [any_beq.2 ht] at h2
        simpa using h2
      · have h2 := h1.2
        rw [e] at h2
        simp at h2
    | succ k =>
      have := slotAt_sound ps (i + 1) h.2 k p (by simpa using hp) (by omega)
      rwa [show i + (k + 1) = i + 1 + k by omega]
theorem slotOk_sound : ∀ (os : List Oper) (j : Nat), slotOk A ops j os = true → ∀ k o t, os[k]? = some o → o.dst = some t → slotOk.slotAt A ops (j + k) t 0 ops.toList = true
  | [], _, _, k, o, t, h, _ => by simp at h
  | q :: os, j, h, k, o, t, ho, hd => by
    simp only [slotOk, Bool.and_eq_true] at h
    cases k with
    | zero => simp at ho; subst ho; have := h.1; rw [hd] at this; exact this
    | succ k =>
      have := slotOk_sound os (j + 1) h.2 k o t (by simpa using ho) hd
      rwa [show j + (k + 1) = j + 1 + k by omega]
theorem dstOf_some {i t : Nat} (h : dstOf ops i = some t) : ∃ o, ops[i]? = some o ∧ o.dst = some t := by
  unfold dstOf at h
  cases ho : ops[i]? with
  | none => rw [ho] at h; cases h
  | some o => rw [ho] at h; exact ⟨o, rfl, h⟩
theorem drawOk_good {Ts : List (List Nat)} (h : drawOk P ops A Ts = true) (hT : T ∈ Ts) : Good P ops A T := by
  unfold drawOk at h
  simp only [Bool.and_eq_true] at h
  obtain ⟨⟨⟨ha, hTs⟩, hs⟩, _⟩ := h
  have hTT := List.all_eq_true.1 hTs T hT
  rw [Bool.and_eq_true] at hTT
  obtain ⟨ho, hl⟩ := hTT
  obtain ⟨h1, h2, h3⟩ := ordOk_sound T [] [] [] ho (by simp) (by simp) (by simp)
  have hlen := Nat.eq_of_beq_eq_true hl
  have hst : ∀ i j t, dstOf ops j = some t → ∀ p, ops[i]? = some p → i ≠ j → (t ∈ reads ops p → (A.getD i 0).testBit j = true ∨ (A.getD j 0).testBit i = true) ∧ p.dst ≠ some t := by
    intro i j t hj p hp hne
    obtain ⟨o, ho, hd⟩ := dstOf_some hj
    have := slotOk_sound ops.toList 0 hs j o t (by rw [Array.getElem?_toList]; exact ho) hd
    have := slotAt_sound ops.toList 0 this i p (by rw [Array.getElem?_toList]; exact hp) (by simpa using hne)
    simpa using this
  refine ⟨?_, by simpa using h1, ?_, ?_, ?_, ?_, ?_⟩
  · intro i o hi
    have := ancOk_at ha i o (by rw [Array.getElem?_toList]; exact hi)
    simpa using this
  · exact fun i => ⟨fun hi => h2 i hi, fun hi => nodup_all (by simpa using h1) h2 hlen i hi⟩
  · exact fun U i V e => (h3 U i V (by simpa using e) (by simp)).1
  · exact fun U i V e => (h3 U i V (by simpa using e) (by simp)).2
  · intro i j t hi hj
    apply Classical.byContradiction
    intro hne
    obtain ⟨o, ho, hd⟩ := dstOf_some hi
    exact (hst i j t hj o ho hne).2 hd
  · intro i o t j hi ht hj hne
    exact (hst i j t hj o hi (fun e => hne e.symm)).1 ht
theorem Good.up (g : Good P ops A T) (L : Nat → Prop) (hL : ∀ i, L i → ∀ o, ops[i]? = some o → ∀ d ∈ dirs o, L d) : ∀ i o, ops[i]? = some o → (∀ d ∈ dirs o, L d) → ∀ j, (A.getD i 0).testBit j = true → L j := by
  intro i
  induction i using Nat.strongRecOn with
  | _ i ih =>
    intro o ho hd j hj
    obtain ⟨he, hlt⟩ := g.anc i o ho
    rw [he] at hj
    obtain ⟨d, hdm, rfl | hb⟩ := mask_bit hj
    · exact hd _ hdm
    · have hdi := hlt d hdm
      have hs := (Array.getElem?_eq_some_iff.1 ho).1
      have hod : ops[d]? = some ops[d] := Array.getElem?_eq_getElem (by omega)
      exact ih d hdi _ hod (hL d (hd d hdm) _ hod) j hb
theorem Good.ahead (g : Good P ops A T) {U V : List Nat} {i : Nat} (e : T = U ++ i :: V) : ∀ j, (A.getD i 0).testBit j = true → j ∈ U := by
  intro j hj
  have hi := (g.mem i).1 (by rw [e]; simp)
  have ho : ops[i]? = some ops[i] := Array.getElem?_eq_getElem hi
  refine g.up (· ∈ U) ?_ i _ ho (fun d hd => g.ext U i V e _ ho d hd) j hj
  intro k hk o ho' d hd
  obtain ⟨U1, U2, rfl⟩ := List.append_of_mem hk
  have := g.ext U1 k (U2 ++ i :: V) (by rw [e]; simp) o ho' d hd
  simp [this]
def lst (l : Array Bool) (i : Nat) : Prop := l[i]? = some true
structure Inv (P : Program) (Φ : Fns) (n : Nat) (ops : Array Oper) (A T : List Nat) (K : Env → Heap → Prop) (ai : Act) (wi : World) (l : Array Bool) (a : Act) (w : World) : Prop where
  lsize : l.size = ops.size
  closed : ∀ i, lst l i → ∀ o, ops[i]? = some o → ∀ d ∈ dirs o, lst l d
  size : a.tmps.size = n
  def_ : a.defers = ai.defers
  off : ∀ t, (∀ j, dstOf ops j ≠ some t) → a.tmps[t]? = ai.tmps[t]?
  same : Same wi w
  ex : ∃ U T' env pv ob, T = U ++ T' ∧ (T' = [] ∨ ∃ e r, T' = e :: r ∧ ¬ quietAt P ops e) ∧ dDraw P Φ n ops A T' env w.heap ob K ∧ EnvOk ops ai U pv env ∧ (∀ i, lst l i → i ∈ U) ∧
    (∀ e ∈ U, ¬ quietAt P ops e → lst l e) ∧ (∀ i ∈ U, ¬ lst l i → Pend P ops ai U pv w.heap ob i) ∧
    ∀ j t, dstOf ops j = some t → (lst l j → a.tmps[t]? = some (pv j)) ∧ (¬ lst l j → a.tmps[t]? = ai.tmps[t]?)
theorem lst_set {l : Array Bool} {i j : Nat} (hi : i < l.size) : lst (l.setIfInBounds i true) j ↔ j = i ∨ lst l j := by
  unfold lst
  rw [Array.getElem?_setIfInBounds]
  by_cases e : i = j
  · subst e; rw [if_pos rfl, if_pos hi]; simp
  · rw [if_neg e]; constructor
    · exact .inr
    · rintro (h | h)
      · exact (e h.symm).elim
      · exact h
theorem ready_iff {l : Array Bool} (hl : l.size = ops.size) {i : Nat} : i ∈ Region.ready .any ops l ↔ i < ops.size ∧ ¬ lst l i ∧ ∀ o, ops[i]? = some o → ∀ d ∈ dirs o, lst l d := by
  unfold Region.ready
  rw [List.mem_filter, List.mem_range]
  constructor
  · rintro ⟨hi, h⟩
    rw [Bool.and_eq_true] at h
    refine ⟨hi, ?_, ?_⟩
    · intro hc
      unfold lst at hc
      have : l.getD i true = true := by simp [Array.getD_eq_getD_getElem?, hc]
      rw [this] at h; simp at h
    · intro o ho d hd
      have h2 := h.2
      rw [ho] at h2
      simp only [Option.map_some, Option.getD_some] at h2
      unfold dirs at hd
      obtain ⟨e, he, rfl⟩ := List.mem_map.1 hd
      obtain ⟨he1, he2⟩ := List.mem_filter.1 he
      rw [Array.all_eq_true_iff_forall_mem] at h2
      have := h2 e (by simpa using he1)
      rw [he2] at this
      simp only [Bool.not_true, Bool.false_or] at this
      unfold lst
      rw [Array.getD_eq_getD_getElem?] at this
      cases hx : l[e.on]? with
      | none => rw [hx] at this; simp at this
      | some b => rw [hx] at this; simp at this; rw [this]
  · rintro ⟨hi, hn, hd⟩
    refine ⟨hi, ?_⟩
    have ho : ops[i]? = some ops[i] := Array.getElem?_eq_getElem hi
    rw [Bool.and_eq_true]
    constructor
    · have hli : l[i]? = some l[i] := Array.getElem?_eq_getElem (by omega)
      rw [Array.getD_eq_getD_getElem?, hli]
      unfold lst at hn; rw [hli] at hn
      simpa using hn
    · rw [ho]
      simp only [Option.map_some, Option.getD_some]
      rw [Array.all_eq_true_iff_forall_mem]
      intro e he
      cases hb : Region.binds .any e with
      | false => rfl
      | true =>
        have := hd _ ho e.on (by unfold dirs; exact List.mem_map.2 ⟨e, List.mem_filter.2 ⟨by simpa using he, hb⟩, rfl⟩)
        unfold lst at this
        simp [Array.getD_eq_getD_getElem?, this]
/-- What stands at the slots that an operation reads, when it is ready. -/
theorem agrees (g : Good P ops A T) {l : Array Bool} {a : Act} {i : Nat} {o : Oper} {U1 U2 V : List Nat} {pv : Nat → Value} {env : Env} (ho : ops[i]? = some o) (e : T = U1 ++ i :: V)
    (hcl : ∀ i, lst l i → ∀ o, ops[i]? = some o → ∀ d ∈ dirs o, lst l d) (hil : ¬ lst l i) (hir : ∀ d ∈ dirs o, lst l d) (he : EnvOk ops ai U1 pv env)
    (hoff : ∀ t, (∀ j, dstOf ops j ≠ some t) → a.tmps[t]? = ai.tmps[t]?)
    (hf : ∀ j t, dstOf ops j = some t → (lst l j → a.tmps[t]? = some (pv j)) ∧ (¬ lst l j → a.tmps[t]? = ai.tmps[t]?)) : AgrOn (· ∈ reads ops o) env a := by
  intro t ht u hu
  obtain ⟨h1, h2⟩ := he t u hu
  have hnd : (U1 ++ i :: V).Nodup := e ▸ g.nodup
  have hiU : i ∉ U1 := fun hi => (List.nodup_append.1 hnd).2.2 i hi i (by simp) rfl
  by_cases hw : ∃ j, dstOf ops j = some t
  · obtain ⟨j, hj⟩ := hw
    by_cases hji : j = i
    · subst hji
      rw [(hf j t hj).2 hil]
      exact h2 fun k hk hd => hiU (g.dst _ _ _ hd hj ▸ hk)
    · rcases g.rd i o t j ho ht hj hji with hb | hb
      · have hjU := g.ahead e j hb
        have hjl : lst l j := g.up (lst l) hcl i o ho hir j hb
        rw [(hf j t hj).1 hjl, h1 j hjU hj]
      · have hjs : ∃ oj, ops[j]? = some oj := by obtain ⟨oj, h, _⟩ := dstOf_some hj; exact ⟨oj, h⟩
        obtain ⟨oj, hoj⟩ := hjs
        have hjl : ¬ lst l j := fun hjl => hil (g.up (lst l) hcl j oj hoj (hcl j hjl oj hoj) i hb)
        rw [(hf j t hj).2 hjl]
        refine h2 fun k hk hd => ?_
        have hkj := g.dst _ _ _ hd hj
        subst hkj
        obtain ⟨V1, V2, e2⟩ := List.append_of_mem hk
        have hi1 := g.ahead (U := V1) (V := V2 ++ i :: V) (i := k) (by rw [e, e2]; simp) i hb
        exact hiU (by rw [e2]; simp [hi1])
  · rw [hoff t fun j hj => hw ⟨j, hj⟩]
    exact h2 fun j _ hj => hw ⟨j, hj⟩
/-- One operation more. -/
theorem Inv.step (hΦ : Right P Φ) (g : Good P ops A T) (hdk : ∀ (i : Nat) (o : Oper), ops[i]? = some o → dstOk n o.dst = true) {l : Array Bool} {a : Act} {w : World} {i : Nat} (I : Inv P Φ n ops A T K ai wi l a w)
    (hr : i ∈ Region.ready .any ops l) (hord : effAt P ops i → ∀ U V, T = U ++ i :: V → ∀ e ∈ U, effAt P ops e → lst l e)
    (hpre : ∀ X e Y, T = X ++ e :: Y → effAt P ops e → lst l e → ∀ x ∈ X, effAt P ops x → lst l x) {next : Act → World → Prop} (hn : ∀ a' w', Inv P Φ n ops A T K ai wi (l.setIfInBounds i true) a' w' → next a' w') : wpOp P ops Q i next a w := by
  obtain ⟨hi, hil, hdir⟩ := (ready_iff I.lsize).1 hr
  have ho : ops[i]? = some ops[i] := Array.getElem?_eq_getElem hi
  generalize hoi : ops[i] = o at ho
  have hir := hdir o ho
  have hisz : i < l.size := by rw [I.lsize]; exact hi
  have hdo : dstOf ops i = o.dst := by unfold dstOf; rw [ho]; rfl
  have hclosed : ∀ j, lst (l.setIfInBounds i true) j → ∀ o, ops[j]? = some o → ∀ d ∈ dirs o, lst (l.setIfInBounds i true) d := by
    intro j hj oj hoj d hd
    rw [lst_set hisz] at hj ⊢
    rcases hj with rfl | hj
    · rw [ho] at hoj; simp at hoj; subst hoj; exact .inr (hir d hd)
    · exact .inr (I.closed j hj oj hoj d hd)
  have hoff' : ∀ v t, (∀ j, dstOf ops j ≠ some t) → (a.put o.dst v).tmps[t]? = ai.tmps[t]? := by
    intro v t ht
    cases hod : o.dst with
    | none => exact I.off t ht
    | some d =>
      have : d ≠ t := fun e => ht i (by rw [hdo, hod, e])
      simp only [Act.put, Array.getElem?_setIfInBounds, if_neg this]
      exact I.off t ht
  have hsz' : ∀ v, (a.put o.dst v).tmps.size = n := by intro v; cases o.dst <;> simp [Act.put, I.size]
  have hdf' : ∀ v, (a.put o.dst v).defers = ai.defers := by intro v; cases o.dst <;> exact I.def_
  obtain ⟨U, T', env, pv, ob, eT, hT', hD, hE, hlU, heU, hP, hF⟩ := I.ex
  -- the slots behind it
  have hslots : ∀ (pv' : Nat → Value) v, pv' i = v → (∀ j, lst l j → pv' j = pv j) → ∀ j t, dstOf ops j = some t →
      (lst (l.setIfInBounds i true) j → (a.put o.dst v).tmps[t]? = some (pv' j)) ∧ (¬ lst (l.setIfInBounds i true) j → (a.put o.dst v).tmps[t]? = ai.tmps[t]?) := by
    intro pv' v hv hpv j t hj
    rw [lst_set hisz]
    by_cases hji : j = i
    · subst hji
      rw [hdo] at hj
      refine ⟨fun _ => ?_, fun h => (h (.inl rfl)).elim⟩
      have hlt := hdk j o ho
      rw [hj] at hlt
      have hlt' := blt_lt hlt
      rw [hj]
      simp only [Act.put, Array.getElem?_setIfInBounds, if_true]
      rw [if_pos (by rw [I.size]; exact hlt'), hv]
    · have hne : o.dst ≠ some t := fun e => hji (g.dst j i t hj (by rw [hdo, e]))
      have hput : (a.put o.dst v).tmps[t]? = a.tmps[t]? := by
        cases hod : o.dst with
        | none => rfl
        | some d =>
          have : d ≠ t := fun e => hne (by rw [hod, e])
          simp only [Act.put, Array.getElem?_setIfInBounds, if_neg this]
      rw [hput]
      refine ⟨fun h => ?_, fun h => (hF j t hj).2 fun hjl => h (.inr hjl)⟩
      rcases h with h | h
      · exact (hji h).elim
      · rw [(hF j t hj).1 h, hpv j h]
  by_cases hiU : i ∈ U
  · -- it was walked already
    obtain ⟨U1, U2, o', env1, eU, ho', hE1, c, hc1, hc2, hc3⟩ := hP i hiU hil
    have : o' = o := by rw [ho] at ho'; simpa using ho'.symm
    subst this
    have hag := agrees (U2 := []) g ho (V := U2 ++ T') (by rw [eT, eU]; simp) I.closed hil hir hE1 I.off hF
    refine hc3 a w next Q hag hc2 (hn _ _ ?_)
    refine ⟨by simp [I.lsize], hclosed, hsz' _, hdf' _, hoff' _, I.same, U, T', env, pv, ob, eT, hT', hD, hE, ?_, ?_, ?_, hslots pv _ rfl (fun _ _ => rfl)⟩
    · intro j hj; rw [lst_set hisz] at hj; rcases hj with rfl | hj; exact hiU; exact hlU j hj
    · intro e he hq; rw [lst_set hisz]; exact .inr (heU e he hq)
    · intro j hj hnl; exact hP j hj fun h => hnl (by rw [lst_set hisz]; exact .inr h)
  · -- it is the next change
    have hiT : i ∈ T' := by
      have := (g.mem i).2 hi
      rw [eT] at this
      exact (List.mem_append.1 this).resolve_left hiU
    rcases hT' with rfl | ⟨e, r, rfl, hqe⟩
    · simp at hiT
    have hie : i = e := by
      rcases List.mem_cons.1 hiT with h | h
      · exact h
      · obtain ⟨V1, V2, eV⟩ := List.append_of_mem h
        have hes : e < ops.size := (g.mem e).1 (by rw [eT]; simp)
        have hoe : ops[e]? = some ops[e] := Array.getElem?_eq_getElem hes
        have hee : effAt P ops e := by
          refine ⟨_, hoe, ?_⟩
          cases hq : quietB P ops[e] with
          | false => rfl
          | true => exact (hqe ⟨_, hoe, hq⟩).elim
        have hel : lst l e := by
          have eT2 : T = (U ++ e :: V1) ++ i :: V2 := by rw [eT, eV]; simp
          cases hqi : quietB P o with
          | true =>
            have hne : ((U ++ e :: V1).filter (effB P ops)) ≠ [] := by
              intro h0
              have : e ∈ (U ++ e :: V1).filter (effB P ops) := List.mem_filter.2 ⟨by simp, effB_iff.2 hee⟩
              rw [h0] at this; simp at this
            obtain ⟨e', he'⟩ : ∃ e', ((U ++ e :: V1).filter (effB P ops)).getLast? = some e' := ⟨_, List.getLast?_eq_some_getLast hne⟩
            have hl' := g.up (lst l) I.closed i o ho hir e' (g.eff (U ++ e :: V1) i V2 eT2 ⟨o, ho, hqi⟩ e' he')
            have hsplit : (U ++ e :: V1).filter (effB P ops) = (U.filter (effB P ops) ++ [e]) ++ V1.filter (effB P ops) := by
              rw [List.filter_append, List.filter_cons_of_pos (effB_iff.2 hee)]; simp
            rw [hsplit, List.getLast?_append] at he'
            cases hV : (V1.filter (effB P ops)).getLast? with
            | none => rw [hV] at he'; simp at he'; subst he'; exact hl'
            | some x =>
              rw [hV] at he'; simp at he'; subst he'
              obtain ⟨hx1, hx2⟩ := List.mem_filter.1 (List.mem_of_getLast? hV)
              obtain ⟨b1, b2, rfl⟩ := List.append_of_mem hx1
              exact hpre (U ++ e :: b1) x (b2 ++ i :: V2) (by rw [eT2]; simp) (effB_iff.1 hx2) hl' e (by simp) hee
          | false => exact hord ⟨o, ho, hqi⟩ (U ++ e :: V1) V2 eT2 e (by simp) hee
        have : e ∈ U := hlU e hel
        have hnd := g.nodup
        rw [eT] at hnd
        exact ((List.nodup_append.1 hnd).2.2 e this e (by simp) rfl).elim
    subst hie
    have hag := agrees (U2 := []) g ho eT I.closed hil hir hE I.off hF
    have hD2 := hD
    simp only [dDraw] at hD2
    replace hD2 := on_sound hD2; obtain ⟨o', ho', hD2⟩ := hD2
    have : o' = o := by rw [Array.getElem?_toList, ho] at ho'; simpa using ho'.symm
    subst this
    replace hD2 := chk_sound hD2; obtain ⟨hdk', hD2⟩ := hD2
    have hqf : quietB P o' = false := by
      cases hq : quietB P o' with
      | false => rfl
      | true => exact (hqe ⟨_, ho, hq⟩).elim
    rw [hqf] at hD2
    simp only at hD2
    have hnd : (U ++ i :: r).Nodup := eT ▸ g.nodup
    have hdU : ∀ j ∈ U, ∀ t, dstOf ops j = some t → dstOf ops i ≠ some t := fun j hj t h1 h2 => hiU ((g.dst j i t h1 h2) ▸ hj)
    -- go on behind it, with what was given
    have go : ∀ (v : Value) (env1 : Env) (w' : World), dDraw P Φ n ops A r env1 w'.heap ob K → EnvOk ops ai (U ++ [i]) (fun j => if j = i then v else pv j) env1 → Same w w' →
        (∀ j f, (j, f) ∈ ob → (A.getD i 0).testBit j = false → f w.heap → f w'.heap) → next (a.put o'.dst v) w' := by
      intro v env1 w' hd1 he1 hs hob
      have hpvU : ∀ j ∈ U, (fun j => if j = i then v else pv j) j = pv j := fun j hj => if_neg fun e : j = i => hiU (e ▸ hj)
      have hPi : ∀ j ∈ U ++ [i], (j ∈ U ∧ ¬ lst l j) → Pend P ops ai (U ++ [i]) (fun j => if j = i then v else pv j) w'.heap ob j := by
        intro j _ hj
        have hjb : (A.getD i 0).testBit j = false := by
          cases hb : (A.getD i 0).testBit j with
          | false => rfl
          | true => exact (hj.2 (g.up (lst l) I.closed i o' ho hir j hb)).elim
        exact (hP j hj.1 hj.2).more [i] hpvU fun f hf => ⟨hf, hob j f hf hjb⟩
      obtain ⟨V, T'', env', pv', ob', hT, hV, hT'', hdr, hee, hpv, hpU, hpV⟩ := unfold_quiet (ai := ai) g.dst r (U ++ [i]) env1 _ w'.heap ob (fun j => j ∈ U ∧ ¬ lst l j) (by simpa using hnd) hd1 he1 hPi
      refine hn _ _ ⟨by simp [I.lsize], hclosed, hsz' _, hdf' _, hoff' _, I.same.trans hs, U ++ [i] ++ V, T'', env', pv', ob', by rw [eT, hT]; simp, hT'', hdr, hee, ?_, ?_, ?_, hslots pv' v ?_ ?_⟩
      · intro j hj
        rw [lst_set hisz] at hj
        rcases hj with rfl | hj
        · simp
        · simp [hlU j hj]
      · intro j hj hq
        rw [lst_set hisz]
        rcases List.mem_append.1 hj with hj | hj
        · rcases List.mem_append.1 hj with hj | hj
          · exact .inr (heU j hj hq)
          · simp at hj; exact .inl hj
        · exact (hq (hV j hj)).elim
      · intro j hj hnl
        rw [lst_set hisz] at hnl
        rcases List.mem_append.1 hj with hj | hj
        · rcases List.mem_append.1 hj with hj' | hj'
          · exact hpU j hj ⟨hj', fun h => hnl (.inr h)⟩
          · simp at hj'; exact (hnl (.inl hj')).elim
        · exact hpV j hj
      · rw [hpv i (by simp)]; exact if_pos rfl
      · intro j hj
        have := hlU j hj
        rw [hpv j (by simp [this])]
        exact hpvU j this
    obtain ⟨env2, hl, ⟨hrun, hw⟩ | ⟨hskip, hw⟩⟩ := dGuard_sound (P := P) hD2
    · unfold wpOp
      simp only [ho]
      rw [if_pos (hw a hag)]
      left
      refine dE_sound hΦ hrun (a := a) (fun t ht u hu => hag t (by unfold reads; simp [ht]) u ((hl t u).1 hu)) next Q fun v w' hK hs => ?_
      obtain ⟨hK, hobs⟩ := allOb_sound hK
      exact go v _ w' hK ((hE.congr hl).put ho hiU hdU) hs fun j f hf hb _ => hobs j f hf hb
    · unfold wpOp
      simp only [ho]
      rw [hw a hag]
      exact go undef _ w hskip ((hE.congr hl).put ho hiU hdU) (Same.refl _) fun j f hf hb h => h
/-- Nothing is left: all was walked. -/
theorem Inv.done (g : Good P ops A T) {l : Array Bool} {a : Act} {w : World} (I : Inv P Φ n ops A T K ai wi l a w) (hr : Region.ready .any ops l = []) : ∃ env, Agr env a ∧ K env w.heap := by
  have hpre : ∀ m U i V, U.length = m → T = U ++ i :: V → lst l i := by
    intro m
    induction m using Nat.strongRecOn with
    | _ m ih =>
      intro U i V hm e
      have hU : ∀ j ∈ U, lst l j := by
        intro j hj
        obtain ⟨A1, A2, rfl⟩ := List.append_of_mem hj
        exact ih A1.length (by rw [← hm]; simp) A1 j (A2 ++ i :: V) rfl (by rw [e]; simp)
      apply Classical.byContradiction
      intro hx
      have : i ∈ Region.ready .any ops l := (ready_iff I.lsize).2 ⟨(g.mem i).1 (by rw [e]; simp), hx, fun o ho d hd => hU d (g.ext U i V e o ho d hd)⟩
      rw [hr] at this; simp at this
  have hall : ∀ i ∈ T, lst l i := by
    intro i hi
    obtain ⟨A1, A2, e⟩ := List.append_of_mem hi
    exact hpre _ A1 i A2 rfl e
  obtain ⟨U, T', env, pv, ob, eT, hT', hD, hE, hlU, heU, hP, hF⟩ := I.ex
  have hT0 : T' = [] := by
    rcases hT' with h | ⟨e, r, rfl, _⟩
    · exact h
    · have hel := hall e (by rw [eT]; simp)
      have hnd := g.nodup
      rw [eT] at hnd
      exact ((List.nodup_append.1 hnd).2.2 e (hlU e hel) e (by simp) rfl).elim
  subst hT0
  refine ⟨env, fun t u hu => ?_, hD⟩
  obtain ⟨h1, h2⟩ := hE t u hu
  by_cases hw : ∃ j, dstOf ops j = some t
  · obtain ⟨j, hj⟩ := hw
    obtain ⟨oj, hoj, _⟩ := dstOf_some hj
    have hjT : j ∈ T := (g.mem j).2 (Array.getElem?_eq_some_iff.1 hoj).1
    have hjl := hall j hjT
    rw [(hF j t hj).1 hjl, h1 j (hlU j hjl) hj]
  · rw [I.off t fun j hj => hw ⟨j, hj⟩]
    exact h2 fun j _ hj => hw ⟨j, hj⟩
/-- An order that the machine may draw. -/
inductive Sched (ops : Array Oper) : Array Bool → List Nat → Prop where
  | nil {l : Array Bool} : Region.ready .any ops l = [] → Sched ops l []
  | cons {l : Array Bool} {i : Nat} {σ : List Nat} : i ∈ Region.ready .any ops l → Sched ops (l.setIfInBounds i true) σ → Sched ops l (i :: σ)
theorem sched_go : ∀ (fuel t : Nat) (l : Array Bool), l.size = ops.size → (∀ L : List Nat, L.Nodup → (∀ x ∈ L, x < ops.size ∧ ¬ lst l x) → L.length ≤ fuel) → Sched ops l (Region.linearise.go .any ops fuel t l [])
  | 0, t, l, hl, hf => by
    refine .nil ?_
    cases h : Region.ready .any ops l with
    | nil => rfl
    | cons x xs =>
      obtain ⟨h1, h2, _⟩ := (ready_iff (ops := ops) hl).1 (show x ∈ Region.ready .any ops l by rw [h]; simp)
      have := hf [x] (by simp) (fun y hy => by simp at hy; subst hy; exact ⟨h1, h2⟩)
      simp at this
  | fuel + 1, t, l, hl, hf => by
    simp only [Region.linearise.go]
    change Sched ops l (match (Region.ready .any ops l)[t % (Region.ready .any ops l).length]? with
      | some i => Region.linearise.go .any ops fuel (t / (Region.ready .any ops l).length) (l.setIfInBounds i true) [i]
      | none => [].reverse)
    cases hi : (Region.ready .any ops l)[t % (Region.ready .any ops l).length]? with
    | none =>
      refine .nil ?_
      cases hr : Region.ready .any ops l with
      | nil => rfl
      | cons x xs =>
        rw [hr] at hi
        have hlt : t % (x :: xs).length < (x :: xs).length := Nat.mod_lt _ (by simp)
        rw [List.getElem?_eq_getElem hlt] at hi
        cases hi
    | some i =>
      simp only []
      rw [linearise_go_acc, List.reverse_singleton, List.singleton_append]
      have him := List.mem_of_getElem? hi
      obtain ⟨h1, h2, _⟩ := (ready_iff (ops := ops) hl).1 him
      have hisz : i < l.size := by rw [hl]; exact h1
      refine .cons him (sched_go fuel _ _ (by simp [hl]) ?_)
      intro L hn hL
      have hiL : i ∉ L := fun h => (hL i h).2 (by rw [lst_set hisz]; exact .inl rfl)
      have := hf (i :: L) (List.nodup_cons.2 ⟨hiL, hn⟩) (fun x hx => by
        rcases List.mem_cons.1 hx with rfl | hx
        · exact ⟨h1, h2⟩
        · exact ⟨(hL x hx).1, fun h => (hL x hx).2 (by rw [lst_set hisz]; exact .inr h)⟩)
      simp at this; omega
theorem Sched.fresh : ∀ {σ : List Nat} {l : Array Bool}, Sched ops l σ → l.size = ops.size → σ.Nodup ∧ ∀ x ∈ σ, x < ops.size ∧ ¬ lst l x
  | [], _, _, _ => by simp
  | i :: σ, l, h, hl => by
    cases h with
    | cons hi hs =>
      obtain ⟨h1, h2, _⟩ := (ready_iff (ops := ops) hl).1 hi
      have hisz : i < l.size := by rw [hl]; exact h1
      obtain ⟨hn, hx⟩ := Sched.fresh hs (by simp [hl])
      have hiσ : i ∉ σ := fun h => (hx i h).2 (by rw [lst_set hisz]; exact .inl rfl)
      refine ⟨List.nodup_cons.2 ⟨hiσ, hn⟩, fun x hx' => ?_⟩
      rcases List.mem_cons.1 hx' with rfl | hx'
      · exact ⟨h1, h2⟩
      · exact ⟨(hx x hx').1, fun h => (hx x hx').2 (by rw [lst_set hisz]; exact .inr h)⟩
theorem heads_mem {e : Nat} {L : List Nat} : ∀ {Ls : List (List Nat)}, L ∈ heads e Ls → e :: L ∈ Ls
  | [], h => by simp [heads] at h
  | [] :: r, h => by simp only [heads] at h; exact List.mem_cons_of_mem _ (heads_mem h)
  | (x :: M) :: r, h => by
    simp only [heads] at h
    split at h
    · rename_i hb
      have := Nat.eq_of_beq_eq_true hb; subst this
      rcases List.mem_cons.1 h with rfl | h
      · simp
      · exact List.mem_cons_of_mem _ (heads_mem h)
    · exact List.mem_cons_of_mem _ (heads_mem h)
theorem cov_sound {E : List Nat} : ∀ (f : Nat) (ε done : List Nat) (Ls : List (List Nat)), cov A E f done Ls = true → (∀ e ∈ ε, e ∈ E ∧ e ∉ done) → (∀ e ∈ E, e ∈ done ∨ e ∈ ε) → ε.Nodup →
    (∀ ε1 e ε2, ε = ε1 ++ e :: ε2 → ∀ d ∈ E, (A.getD e 0).testBit d = true → d ∈ done ∨ d ∈ ε1) → ε ∈ Ls
  | 0, _, _, _, h, _, _, _, _ => by simp [cov] at h
  | f + 1, [], done, Ls, h, h1, h2, h3, h4 => by
    simp only [cov] at h
    have : (E.filter fun e => !(done.any (Nat.beq e))) = [] := by
      rw [List.filter_eq_nil_iff]
      intro e he
      rcases h2 e he with hd | hd
      · rw [any_beq.2 hd]; simp
      · simp at hd
    rw [this] at h
    simp only at h
    obtain ⟨L, hL, hLe⟩ := List.any_eq_true.1 h
    rw [List.isEmpty_iff] at hLe
    subst hLe; exact hL
  | f + 1, e :: ε, done, Ls, h, h1, h2, h3, h4 => by
    simp only [cov] at h
    have hem : e ∈ E.filter fun e => !(done.any (Nat.beq e)) := by
      rw [List.mem_filter]
      refine ⟨(h1 e (by simp)).1, ?_⟩
      rw [Bool.not_eq_true', ← Bool.not_eq_true, any_beq]
      exact (h1 e (by simp)).2
    split at h
    · rename_i hr; rw [hr] at hem; simp at hem
    · have := List.all_eq_true.1 h e hem
      rw [Bool.or_eq_true] at this
      rcases this with hb | hb
      · rw [Bool.not_eq_true', ← Bool.not_eq_true] at hb
        refine (hb ?_).elim
        rw [List.all_eq_true]
        intro d hd
        rw [Bool.or_eq_true]
        cases ht : (A.getD e 0).testBit d with
        | false => exact .inl rfl
        | true =>
          right
          rcases h4 [] e ε rfl d hd ht with hx | hx
          · exact any_beq.2 hx
          · simp at hx
      · have hn := List.nodup_cons.1 h3
        refine heads_mem (cov_sound f ε (e :: done) _ hb ?_ ?_ hn.2 ?_)
        · intro x hx
          refine ⟨(h1 x (by simp [hx])).1, ?_⟩
          intro hc
          rcases List.mem_cons.1 hc with rfl | hc
          · exact hn.1 hx
          · exact (h1 x (by simp [hx])).2 hc
        · intro x hx
          rcases h2 x hx with h | h
          · exact .inl (by simp [h])
          · rcases List.mem_cons.1 h with rfl | h
            · exact .inl (by simp)
            · exact .inr h
        · intro ε1 x ε2 ex d hd ht
          rcases h4 (e :: ε1) x ε2 (by rw [ex]; simp) d hd ht with h | h
          · exact .inl (by simp [h])
          · rcases List.mem_cons.1 h with rfl | h
            · exact .inl (by simp)
            · exact .inr h
theorem split_uniq {i : Nat} : ∀ {a b c d : List Nat}, a ++ i :: b = c ++ i :: d → i ∉ a → i ∉ c → a = c
  | [], b, [], d, _, _, _ => rfl
  | [], b, y :: c, d, h, _, h2 => by simp at h; exact (h2 (by simp [h.1])).elim
  | x :: a, b, [], d, h, h1, _ => by simp at h; exact (h1 (by simp [h.1])).elim
  | x :: a, b, y :: c, d, h, h1, h2 => by
    simp at h
    rw [h.1, split_uniq h.2 (fun hx => h1 (by simp [hx])) (fun hx => h2 (by simp [hx]))]
theorem anc_up (hanc : ∀ i o, ops[i]? = some o → A.getD i 0 = mask A (dirs o) ∧ ∀ d ∈ dirs o, d < i) (L : Nat → Prop) (hL : ∀ i, L i → ∀ o, ops[i]? = some o → ∀ d ∈ dirs o, L d) :
    ∀ i o, ops[i]? = some o → (∀ d ∈ dirs o, L d) → ∀ j, (A.getD i 0).testBit j = true → L j := by
  intro i
  induction i using Nat.strongRecOn with
  | _ i ih =>
    intro o ho hd j hj
    obtain ⟨he, hlt⟩ := hanc i o ho
    rw [he] at hj
    obtain ⟨d, hdm, rfl | hb⟩ := mask_bit hj
    · exact hd _ hdm
    · have hdi := hlt d hdm
      have hs := (Array.getElem?_eq_some_iff.1 ho).1
      have hod : ops[d]? = some ops[d] := Array.getElem?_eq_getElem (by omega)
      exact ih d hdi _ hod (hL d (hd d hdm) _ hod) j hb
theorem Sched.split : ∀ {σ1 : List Nat} {i : Nat} {σ2 : List Nat} {l : Array Bool}, Sched ops l (σ1 ++ i :: σ2) → l.size = ops.size → ∀ o, ops[i]? = some o → ∀ d ∈ dirs o, lst l d ∨ d ∈ σ1
  | [], i, σ2, l, h, hl, o, ho, d, hd => by
    cases h with
    | cons hi hs => exact .inl (((ready_iff (ops := ops) hl).1 hi).2.2 o ho d hd)
  | x :: σ1, i, σ2, l, h, hl, o, ho, d, hd => by
    cases h with
    | cons hx hs =>
      have hxs : x < l.size := by rw [hl]; exact ((ready_iff (ops := ops) hl).1 hx).1
      rcases Sched.split hs (by simp [hl]) o ho d hd with h | h
      · rw [lst_set hxs] at h
        rcases h with rfl | h
        · exact .inr (by simp)
        · exact .inl h
      · exact .inr (by simp [h])
theorem Sched.complete (hanc : ∀ i o, ops[i]? = some o → A.getD i 0 = mask A (dirs o) ∧ ∀ d ∈ dirs o, d < i) : ∀ {σ : List Nat} {l : Array Bool}, Sched ops l σ → l.size = ops.size → ∀ i, i < ops.size → lst l i ∨ i ∈ σ
  | [], l, h, hl, i, hi => by
    cases h with
    | nil hr =>
      left
      induction i using Nat.strongRecOn with
      | _ i ih =>
        apply Classical.byContradiction
        intro hx
        have : i ∈ Region.ready .any ops l := (ready_iff hl).2 ⟨hi, hx, fun o ho d hd => by
          have := (hanc i o ho).2 d hd
          exact ih d this (by omega)⟩
        rw [hr] at this; simp at this
  | x :: σ, l, h, hl, i, hi => by
    cases h with
    | cons hx hs =>
      have hxs : x < l.size := by rw [hl]; exact ((ready_iff (ops := ops) hl).1 hx).1
      rcases Sched.complete hanc hs (by simp [hl]) i hi with h | h
      · rw [lst_set hxs] at h
        rcases h with rfl | h
        · exact .inr (by simp)
        · exact .inl h
      · exact .inr (by simp [h])
theorem filter_split {p : Nat → Bool} : ∀ {σ ε1 ε2 : List Nat} {e : Nat}, σ.filter p = ε1 ++ e :: ε2 → ∃ σ1 σ2, σ = σ1 ++ e :: σ2 ∧ σ1.filter p = ε1
  | [], ε1, ε2, e, h => by cases ε1 <;> simp at h
  | x :: σ, ε1, ε2, e, h => by
    cases hp : p x with
    | false =>
      rw [List.filter_cons_of_neg (by simp [hp])] at h
      obtain ⟨σ1, σ2, h1, h2⟩ := filter_split h
      exact ⟨x :: σ1, σ2, by rw [h1]; rfl, by rw [List.filter_cons_of_neg (by simp [hp])]; exact h2⟩
    | true =>
      rw [List.filter_cons_of_pos hp] at h
      cases ε1 with
      | nil =>
        simp at h
        exact ⟨[], σ, by rw [h.1]; rfl, rfl⟩
      | cons y ε1 =>
        simp at h
        obtain ⟨σ1, σ2, h1, h2⟩ := filter_split h.2
        exact ⟨x :: σ1, σ2, by rw [h1]; rfl, by rw [List.filter_cons_of_pos hp, h2, h.1]⟩
theorem run_sched (hΦ : Right P Φ) (g : Good P ops A T) (hdk : ∀ (i : Nat) (o : Oper), ops[i]? = some o → dstOk n o.dst = true)
    (hQ : ∀ l a w, Inv P Φ n ops A T K ai wi l a w → ∀ env, Agr env a → K env w.heap → Q .normal a w) : ∀ (σ σ1 : List Nat) (l : Array Bool) (a : Act) (w : World), Sched ops l σ → Inv P Φ n ops A T K ai wi l a w →
    (∀ x, lst l x ↔ x ∈ σ1) → (σ1 ++ σ).Nodup → (σ1 ++ σ).filter (effB P ops) = T.filter (effB P ops) → wpOps P ops Q σ a w
  | [], σ1, l, a, w, hs, I, _, _, _ => by
    cases hs with
    | nil hr =>
      obtain ⟨env, ha, hK⟩ := I.done g hr
      exact hQ l a w I env ha hK
  | i :: σ, σ1, l, a, w, hs, I, h1, hnd, heq => by
    cases hs with
    | cons hi hs =>
      rw [wpOps_cons]
      obtain ⟨hlt, _, _⟩ := (ready_iff (ops := ops) I.lsize).1 hi
      have hisz : i < l.size := by rw [I.lsize]; exact hlt
      refine I.step hΦ g hdk hi ?_ ?_ fun a' w' I' => run_sched hΦ g hdk hQ σ (σ1 ++ [i]) _ a' w' hs I' ?_ (by simpa using hnd) (by simpa using heq)
      · intro hie U V eT e he hee
        have hif := effB_iff.2 hie
        rw [eT, List.filter_append, List.filter_append, List.filter_cons_of_pos hif, List.filter_cons_of_pos hif] at heq
        have hiU : i ∉ U := fun h => by
          have hn := g.nodup; rw [eT] at hn
          exact (List.nodup_append.1 hn).2.2 i h i (by simp) rfl
        have hi1 : i ∉ σ1 := fun h => (List.nodup_append.1 hnd).2.2 i h i (by simp) rfl
        have := split_uniq heq (fun h => hi1 (List.mem_filter.1 h).1) (fun h => hiU (List.mem_filter.1 h).1)
        have hes : e ∈ σ1.filter (effB P ops) := by rw [this]; exact List.mem_filter.2 ⟨he, effB_iff.2 hee⟩
        exact (h1 e).2 (List.mem_filter.1 hes).1
      · intro X e Y eT hee hle x hx hxe
        obtain ⟨s1, s2, rfl⟩ := List.append_of_mem ((h1 e).1 hle)
        have hef := effB_iff.2 hee
        have heq2 := heq
        rw [eT, List.append_assoc, List.cons_append, List.filter_append, List.filter_append, List.filter_cons_of_pos hef, List.filter_cons_of_pos hef] at heq2
        have heX : e ∉ X := fun h => by
          have hn := g.nodup; rw [eT] at hn
          exact (List.nodup_append.1 hn).2.2 e h e (by simp) rfl
        have he1 : e ∉ s1 := fun h => by
          rw [List.append_assoc] at hnd
          exact (List.nodup_append.1 hnd).2.2 e h e (by simp) rfl
        have := split_uniq heq2 (fun h => he1 (List.mem_filter.1 h).1) (fun h => heX (List.mem_filter.1 h).1)
        have hxs : x ∈ s1.filter (effB P ops) := by rw [this]; exact List.mem_filter.2 ⟨hx, effB_iff.2 hxe⟩
        exact (h1 x).2 (by simp [(List.mem_filter.1 hxs).1])
      · intro x
        rw [lst_set hisz, h1 x]
        simp [or_comm]
end
theorem dDraw_sound {P : Program} {Φ : Fns} (hΦ : Right P Φ) {n : Nat} {W : List Nat} {a0 a : Act} {w0 w : World} {ops : Array Oper} {A : List Nat} {Ts : List (List Nat)} {Q : Exit → Act → World → Prop} {id : Nat} {env : Env} {K : Env → Heap → Prop}
    (hm : P.follows .mixedOrders = true) (ho : drawOk P ops A Ts = true) (hW : ∀ d ∈ dsts ops.toList, d ∈ W) (hf : Fits n W a0 w0 env a w) (hdk : (ops.toList.all fun o => dstOk n o.dst) = true)
    (hh : dDraws P Φ n ops A Ts env w.heap K)
    (hn : ∀ env' a' w', Fits n W a0 w0 env' a' w' → K env' w'.heap → Q .normal a' w') : (Code.region id ops true).wp P Q a w := by
  have hdk' : ∀ (i : Nat) (o : Oper), ops[i]? = some o → dstOk n o.dst = true := fun i o hi => List.all_eq_true.1 hdk o (by rw [← Array.getElem?_toList] at hi; exact List.mem_of_getElem? hi)
  have hl0 : ∀ i, ¬ lst (Array.replicate ops.size false) i := by
    intro i h
    unfold lst at h
    rw [Array.getElem?_replicate] at h
    split at h <;> simp at h
  refine wp_region_draw fun t => ?_
  simp only [Region.schedule, hm, Bool.true_or, if_true]
  -- the order that was drawn
  have hs : Sched ops (Array.replicate ops.size false) (Region.linearise .any ops t) := by
    refine sched_go ops.size t _ (by simp) ?_
    intro L hnd hL
    exact nodup_le ops.size L hnd fun x hx => (hL x hx).1
  generalize hσ : Region.linearise .any ops t = σ at hs
  obtain ⟨hnd, hlt⟩ := hs.fresh (by simp)
  have ho2 := ho
  unfold drawOk at ho2
  simp only [Bool.and_eq_true] at ho2
  obtain ⟨⟨⟨ha, _⟩, _⟩, hc⟩ := ho2
  have hanc : ∀ i o, ops[i]? = some o → A.getD i 0 = mask A (dirs o) ∧ ∀ d ∈ dirs o, d < i := by
    intro i o hi
    have := ancOk_at ha i o (by rw [Array.getElem?_toList]; exact hi)
    simpa using this
  have hcomp := fun i hi => (hs.complete hanc (by simp) i hi).resolve_left (hl0 i)
  -- one of those that are walked makes its changes in the same order
  have hmem : σ.filter (effB P ops) ∈ Ts.map fun T => T.filter (effB P ops) := by
    refine cov_sound _ _ [] _ hc ?_ ?_ (hnd.filter _) ?_
    · intro e he
      obtain ⟨h1, h2⟩ := List.mem_filter.1 he
      exact ⟨List.mem_filter.2 ⟨List.mem_range.2 (hlt e h1).1, h2⟩, by simp⟩
    · intro e he
      obtain ⟨h1, h2⟩ := List.mem_filter.1 he
      exact .inr (List.mem_filter.2 ⟨hcomp e (List.mem_range.1 h1), h2⟩)
    · intro ε1 e ε2 hε d hd hb
      right
      obtain ⟨σ1, σ2, hσ2, hσ1⟩ := filter_split hε
      have hcl : ∀ k ∈ σ1, ∀ o, ops[k]? = some o → ∀ d ∈ dirs o, d ∈ σ1 := by
        intro k hk o ho d hd
        obtain ⟨b1, b2, rfl⟩ := List.append_of_mem hk
        have := (Sched.split (σ1 := b1) (i := k) (σ2 := b2 ++ e :: σ2) (by rw [hσ2] at hs; simpa using hs) (by simp) o ho d hd).resolve_left (hl0 d)
        simp [this]
      have hes : e < ops.size := (hlt e (by rw [hσ2]; simp)).1
      have hoe : ops[e]? = some ops[e] := Array.getElem?_eq_getElem hes
      have hed : ∀ d ∈ dirs ops[e], d ∈ σ1 := fun d hd => (Sched.split (by rw [← hσ2]; exact hs) (by simp) _ hoe d hd).resolve_left (hl0 d)
      have := anc_up hanc (· ∈ σ1) hcl e _ hoe hed d hb
      rw [← hσ1]
      exact List.mem_filter.2 ⟨this, (List.mem_filter.1 hd).2⟩
  obtain ⟨T, hT, hTe⟩ := List.mem_map.1 hmem
  have g := drawOk_good ho hT
  refine run_sched (K := K) (ai := a) (wi := w) hΦ g hdk' ?_ σ [] _ a _ hs ?_ (fun x => ⟨fun h => (hl0 x h).elim, fun h => by simp at h⟩) (by simpa using hnd) (by simpa using hTe.symm)
  · intro l a' w' I env' ha hK
    refine hn env' a' w' ⟨ha, I.size, I.def_.trans hf.def_, fun t ht => ?_, hf.same.trans I.same⟩ hK
    rw [I.off t fun j hj => ?_]
    · exact hf.off t ht
    · obtain ⟨o, ho, hd⟩ := dstOf_some hj
      exact ht (hW t (by unfold dsts; rw [List.mem_filterMap]; exact ⟨o, by rw [← Array.getElem?_toList] at ho; exact List.mem_of_getElem? ho, hd⟩))
  · obtain ⟨V, T'', env', pv', ob', hT, hV, hT'', hdr, hee, hpv, hpU, hpV⟩ := unfold_quiet (ai := a) g.dst T [] env (fun _ => undef) w.heap [] (fun _ => True) (by simpa using g.nodup) (dDraws_mem hh hT)
      (fun t u hu => ⟨fun j hj => by simp at hj, fun _ => hf.agr t u hu⟩) (fun i hi => by simp at hi)
    refine ⟨by simp, fun i hi => (hl0 i hi).elim, hf.size, rfl, fun _ _ => rfl, ⟨rfl, rfl, rfl⟩, V, T'', env', pv', ob', hT, hT'', hdr, by simpa using hee, fun i hi => (hl0 i hi).elim, fun e he hq => (hq (hV e he)).elim, ?_, ?_⟩
    · intro i hi _
      simpa using hpV i hi
    · exact fun j t hj => ⟨fun h => (hl0 j h).elim, fun _ => rfl⟩
end Go.Proofs.YthiginhigfieiaaGreatDoor.V
/-
  A VIEW OF THE MACHINE AS A PREDICATE TRANSFORMER OVER THE HEAP. Part 10: all the code of a function: 'den'.
-/
namespace Go.Proofs.YthiginhigfieiaaGreatDoor.V
open Go Go.RowKit
set_option linter.unusedVariables false
set_option linter.unusedSimpArgs false

/-- The shape of a slot: one cell, or the cells of a struct or an array. -/
inductive Sh where
  | one (k : Kd)
  | agg (ks : List Kd)
abbrev Ls := List (Nat × Sh)
abbrev FnL : Ls → Type
  | [] => Heap → Prop
  | (_, .one k) :: L => k.T → FnL L
  | (_, .agg ks) :: L => Fn ks (FnL L)
def decsF {R : Type} : (ks : List Kd) → List Value → Fn ks R → (R → Prop) → Prop
  | [], [], J, K => K J
  | k :: ks, v :: vs, J, K => dec1 k v fun x => decsF ks vs (J x) K
  | _, _, _, _ => False
def lamF {R : Type} : (ks : List Kd) → (List Value → R) → Fn ks R
  | [], G => G []
  | k :: ks, G => fun x => lamF ks fun vs => G (k.enc x :: vs)
def exF {R : Type} : (ks : List Kd) → (Nat → Fn ks R) → ((Nat → R) → R) → Fn ks R
  | [], f, g => g f
  | _ :: ks, f, g => fun x => exF ks (fun n => f n x) g
def getH : (L : Ls) → Env → FnL L → Heap → Prop
  | [], _, J, h => J h
  | (i, .one k) :: L, env, J, h => on (lk env i) fun v => dec1 k v fun x => getH L env (J x) h
  | (i, .agg ks) :: L, env, J, h => on (lk env i) fun v => vAgg v fun cs => decsF ks cs.toList J fun J => getH L env J h
def bindL : (L : Ls) → (Env → Heap → Prop) → FnL L
  | [], K => fun h => K [] h
  | (i, .one k) :: L, K => fun x => bindL L fun e h => K ((i, k.enc x) :: e) h
  | (i, .agg ks) :: L, K => lamF ks fun vs => bindL L fun e h => K ((i, .agg vs.toArray) :: e) h
def botL : (L : Ls) → FnL L
  | [] => fun _ => False
  | (_, .one _) :: L => fun _ => botL L
  | (_, .agg ks) :: L => lamF ks fun _ => botL L
def exL : (L : Ls) → (Nat → FnL L) → FnL L
  | [], f => fun h => ∃ n, f n h
  | (_, .one _) :: L, f => fun x => exL L fun n => f n x
  | (_, .agg ks) :: L, f => exF ks f (exL L)
def wit (L : Ls) (B : FnL L → FnL L) : Nat → FnL L
  | 0 => botL L
  | n + 1 => B (wit L B n)
/-- A loop over typed slots: some number of rounds ends it. -/
def wl (L : Ls) (B : FnL L → FnL L) : FnL L := exL L (wit L B)
/-- Ways meet here: what follows stands once. -/
def jn (L : Ls) (rest : FnL L) (body : FnL L → Prop) : Prop := body rest
theorem decsF_lamF {R : Type} : ∀ {ks : List Kd} {vs : List Value} {G : List Value → R} {K : R → Prop}, decsF ks vs (lamF ks G) K → K (G vs)
  | [], [], _, _, h => h
  | [], _ :: _, _, _, h => h.elim
  | _ :: _, [], _, _, h => h.elim
  | k :: ks, v :: vs, G, K, h => by
    obtain ⟨x, rfl, h2⟩ := dec1_sound h
    exact decsF_lamF (ks := ks) (G := fun vs => G (k.enc x :: vs)) h2
theorem decsF_exF {R : Type} : ∀ {ks : List Kd} {vs : List Value} {f : Nat → Fn ks R} {g : (Nat → R) → R} {K : R → Prop}, decsF ks vs (exF ks f g) K →
    ∃ f' : Nat → R, K (g f') ∧ ∀ n (K' : R → Prop), K' (f' n) → decsF ks vs (f n) K'
  | [], [], f, g, K, h => ⟨f, h, fun n K' h' => h'⟩
  | [], _ :: _, _, _, _, h => h.elim
  | _ :: _, [], _, _, _, h => h.elim
  | k :: ks, v :: vs, f, g, K, h => by
    obtain ⟨x, rfl, h2⟩ := dec1_sound h
    obtain ⟨f', h3, h4⟩ := decsF_exF (ks := ks) (f := fun n => f n x) h2
    refine ⟨f', h3, fun n K' h' => ?_⟩
    show dec1 k (k.enc x) _
    rw [dec1_enc]
    exact h4 n K' h'
theorem getH_bind : ∀ {L : Ls} {env : Env} {K : Env → Heap → Prop} {h : Heap}, getH L env (bindL L K) h → ∃ e, K e h ∧ (∀ t u, lk e t = some u → lk env t = some u)
  | [], env, K, h, hh => ⟨[], hh, fun t u e => by simp [lk] at e⟩
  | (i, .one k) :: L, env, K, h, hh => by
    replace hh := on_sound hh; obtain ⟨v, hv, hh⟩ := hh
    replace hh := dec1_sound hh; obtain ⟨x, rfl, hh⟩ := hh
    obtain ⟨e, hK, he⟩ := getH_bind (L := L) (K := fun e h => K ((i, k.enc x) :: e) h) hh
    refine ⟨_, hK, fun t u hu => ?_⟩
    rw [lk_cons] at hu
    by_cases ei : i = t
    · subst ei; rw [if_pos rfl] at hu; simp at hu; subst hu; exact hv
    · rw [if_neg ei] at hu; exact he t u hu
  | (i, .agg ks) :: L, env, K, h, hh => by
    replace hh := on_sound hh; obtain ⟨v, hv, hh⟩ := hh
    replace hh := vAgg_sound hh; obtain ⟨cs, rfl, hh⟩ := hh
    replace hh := decsF_lamF (G := fun vs => bindL L fun e h => K ((i, .agg vs.toArray) :: e) h) hh
    obtain ⟨e, hK, he⟩ := getH_bind (L := L) (K := fun e h => K ((i, .agg cs.toList.toArray) :: e) h) hh
    refine ⟨_, hK, fun t u hu => ?_⟩
    rw [lk_cons] at hu
    by_cases ei : i = t
    · subst ei; rw [if_pos rfl] at hu; simp at hu; subst hu; exact hv
    · rw [if_neg ei] at hu; exact he t u hu
theorem getH_bot : ∀ {L : Ls} {env : Env} {h : Heap}, ¬ getH L env (botL L) h
  | [], env, h, hh => hh
  | (i, .one k) :: L, env, h, hh => by
    replace hh := on_sound hh; obtain ⟨v, hv, hh⟩ := hh
    replace hh := dec1_sound hh; obtain ⟨x, rfl, hh⟩ := hh
    exact getH_bot (L := L) hh
  | (i, .agg ks) :: L, env, h, hh => by
    replace hh := on_sound hh; obtain ⟨v, hv, hh⟩ := hh
    replace hh := vAgg_sound hh; obtain ⟨cs, rfl, hh⟩ := hh
    exact getH_bot (L := L) (decsF_lamF (G := fun _ => botL L) hh)
theorem getH_ex : ∀ {L : Ls} {env : Env} {f : Nat → FnL L} {h : Heap}, getH L env (exL L f) h → ∃ n, getH L env (f n) h
  | [], env, f, h, hh => hh
  | (i, .one k) :: L, env, f, h, hh => by
    replace hh := on_sound hh; obtain ⟨v, hv, hh⟩ := hh
    replace hh := dec1_sound hh; obtain ⟨x, rfl, hh⟩ := hh
    obtain ⟨n, hn⟩ := getH_ex (L := L) (f := fun n => f n x) hh
    refine ⟨n, ?_⟩
    show on (lk env i) _
    rw [hv]
    show dec1 k (k.enc x) _
    rw [dec1_enc]
    exact hn
  | (i, .agg ks) :: L, env, f, h, hh => by
    replace hh := on_sound hh; obtain ⟨v, hv, hh⟩ := hh
    replace hh := vAgg_sound hh; obtain ⟨cs, rfl, hh⟩ := hh
    obtain ⟨f', hK, hf⟩ := decsF_exF hh
    obtain ⟨n, hn⟩ := getH_ex (L := L) (f := f') hK
    refine ⟨n, ?_⟩
    show on (lk env i) _
    rw [hv]
    exact hf n _ hn

structure Cont where
  kn : Env → Heap → Prop
  kx : Nat → Env → Heap → Prop
  kr : Env → Heap → Prop
inductive Plan where
  | s (p q : Plan)
  | r (M : List Nat)
  | rj (L : Ls) (M : List Nat)
  | d (A : List Nat) (Ts : List (List Nat)) (M : List Nat)
  | dj (A : List Nat) (Ts : List (List Nat)) (L : Ls) (M : List Nat)
  | c (p q : Plan)
  | cj (L : Ls) (M : List Nat) (p q : Plan)
  | b (p : Plan)
  | bj (L : Ls) (M : List Nat) (p : Plan)
  | l (L : Ls) (M : List Nat) (p : Plan)
  | z
/-- The slots that a piece of code writes. -/
def writes : Code → List Nat
  | .region _ ops _ => dsts ops.toList
  | .seq x y => writes x ++ writes y
  | .cond _ x y => writes x ++ writes y
  | .block _ x => writes x
  | .loop x => writes x
  | _ => []
def den (P : Program) (Φ : Fns) (n : Nat) : Plan → Code → Env → Heap → Cont → Prop
  | .s p q, c, env, h, κ => match c with
    | .seq x y => den P Φ n p x env h ⟨fun env h => den P Φ n q y env h κ, κ.kx, κ.kr⟩
    | _ => False
  | .r M, c, env, h, κ => match c with
    | .region _ ops false => dOps P Φ n ops ops.toList env h fun env h => forceE (restr M env) fun env => κ.kn env h
    | _ => False
  | .rj L M, c, env, h, κ => match c with
    | .region _ ops false => chk (disj M (dsts ops.toList)) (jn L (bindL L fun e h => κ.kn (e ++ restr M env) h) fun j =>
        dOps P Φ n ops ops.toList env h fun env h => getH L env j h)
    | _ => False
  | .d A T M, c, env, h, κ => match c with
    | .region _ ops true => chk (P.follows .mixedOrders && drawOk P ops A T && ops.toList.all fun o => dstOk n o.dst) (dDraws P Φ n ops A T env h fun env h => forceE (restr M env) fun env => κ.kn env h)
    | _ => False
  | .dj A T L M, c, env, h, κ => match c with
    | .region _ ops true => chk (P.follows .mixedOrders && drawOk P ops A T && (ops.toList.all fun o => dstOk n o.dst) && disj M (dsts ops.toList)) (jn L (bindL L fun e h => κ.kn (e ++ restr M env) h) fun j =>
        dDraws P Φ n ops A T env h fun env h => getH L env j h)
    | _ => False
  | .c p q, c, env, h, κ => match c with
    | .cond x t e => ev1 env x fun v => vBool v fun b => brr b (den P Φ n p t env h κ) (den P Φ n q e env h κ)
    | _ => False
  | .cj L M p q, c, env, h, κ => match c with
    | .cond x t e => chk (disj M (writes t ++ writes e)) (jn L (bindL L fun e h => κ.kn (e ++ restr M env) h) fun j =>
        ev1 env x fun v => vBool v fun b => brr b (den P Φ n p t env h ⟨fun env h => getH L env j h, κ.kx, κ.kr⟩) (den P Φ n q e env h ⟨fun env h => getH L env j h, κ.kx, κ.kr⟩))
    | _ => False
  | .b p, c, env, h, κ => match c with
    | .block id x => den P Φ n p x env h ⟨κ.kn, fun i env h => match Nat.beq i id with | true => κ.kn env h | false => κ.kx i env h, κ.kr⟩
    | _ => False
  | .bj L M p, c, env, h, κ => match c with
    | .block id x => chk (disj M (writes x)) (jn L (bindL L fun e h => κ.kn (e ++ restr M env) h) fun j =>
        den P Φ n p x env h ⟨fun env h => getH L env j h, fun i env h => match Nat.beq i id with | true => getH L env j h | false => κ.kx i env h, κ.kr⟩)
    | _ => False
  | .l L M p, c, env, h, κ => match c with
    | .loop x => chk (disj M (writes x)) (getH L env (wl L fun next => bindL L fun e h =>
        den P Φ n p x (e ++ restr M env) h ⟨fun env h => getH L env next h, κ.kx, κ.kr⟩) h)
    | _ => False
  | .z, c, env, h, κ => match c with
    | .skip => κ.kn env h
    | .exit id => κ.kx id env h
    | .ret => κ.kr env h
    | _ => False
def Lift (n : Nat) (W : List Nat) (a0 : Act) (w0 : World) (κ : Cont) : Exit → Act → World → Prop
  | .normal, a, w => ∃ env, Fits n W a0 w0 env a w ∧ κ.kn env w.heap
  | .exit id, a, w => ∃ env, Fits n W a0 w0 env a w ∧ κ.kx id env w.heap
  | .ret, a, w => ∃ env, Fits n W a0 w0 env a w ∧ κ.kr env w.heap
  | _, _, _ => False
theorem Fits.less {n : Nat} {W : List Nat} {a0 a : Act} {w0 w : World} {env env' : Env} (h : Fits n W a0 w0 env a w) (he : ∀ t u, lk env' t = some u → a.tmps[t]? = some u) : Fits n W a0 w0 env' a w :=
  ⟨he, h.size, h.def_, h.off, h.same⟩
theorem Fits.self {n : Nat} {W : List Nat} {a0 a : Act} {w0 w : World} {env : Env} (h : Fits n W a0 w0 env a w) (W' : List Nat) : Fits n W' a w env a w :=
  ⟨h.agr, h.size, rfl, fun _ _ => rfl, Same.refl _⟩
theorem Fits.comp {n : Nat} {W W' : List Nat} {a0 a a' : Act} {w0 w w' : World} {env env' : Env} (h : Fits n W a0 w0 env a w) (h' : Fits n W' a w env' a' w') (hs : ∀ t ∈ W', t ∈ W) :
    Fits n W a0 w0 env' a' w' :=
  ⟨h'.agr, h'.size, h'.def_.trans h.def_, fun t ht => (h'.off t fun e => ht (hs t e)).trans (h.off t ht), h.same.trans h'.same⟩
theorem lk_append (e r : Env) (t : Nat) : lk (e ++ r) t = match lk e t with | some v => some v | none => lk r t := by
  induction e with
  | nil => rfl
  | cons p e ih =>
    obtain ⟨i, v⟩ := p
    rw [List.cons_append, lk_cons, lk_cons]
    by_cases h : i = t
    · rw [if_pos h, if_pos h]
    · rw [if_neg h, if_neg h, ih]
/-- What is known where ways meet: the typed slots as they are now, the others as they were at the fork. -/
theorem Fits.join {n : Nat} {W W' : List Nat} {a0 a a' : Act} {w0 w w' : World} {env env' e : Env} {M : List Nat} (h : Fits n W a0 w0 env a w) (h' : Fits n W' a w env' a' w') (hs : ∀ t ∈ W', t ∈ W)
    (hM : disj M W' = true) (he : ∀ t u, lk e t = some u → lk env' t = some u) : Fits n W a0 w0 (e ++ restr M env) a' w' := by
  refine (h.comp h' hs).less fun t u hu => ?_
  rw [lk_append] at hu
  split at hu
  · rename_i v hv; simp at hu; subst hu; exact h'.agr _ _ (he _ _ hv)
  · obtain ⟨hm, hl⟩ := restr_lk hu
    rw [h'.off t (disj_sound hM t hm)]
    exact h.agr _ _ hl
theorem den_sound {P : Program} {Φ : Fns} (hΦ : Right P Φ) {n : Nat} : ∀ (p : Plan) (c : Code) (env : Env) (κ : Cont) (W : List Nat) (a0 a : Act) (w0 w : World),
    (∀ t ∈ writes c, t ∈ W) → Fits n W a0 w0 env a w → den P Φ n p c env w.heap κ → c.wp P (Lift n W a0 w0 κ) a w := by
  intro p
  induction p with
  | s p q ihp ihq =>
    intro c env κ W a0 a w0 w hW hf hh
    cases c <;> simp only [den] at hh
    rename_i x y
    simp only [writes, List.mem_append] at hW
    refine wp_seq (wp_mono (ihp x env _ W a0 a w0 w (fun t ht => hW t (.inl ht)) hf hh) ?_)
    intro e a' w' hL
    cases e with
    | normal => obtain ⟨env', hf', hK⟩ := hL; exact ihq y env' κ W a0 a' w0 w' (fun t ht => hW t (.inr ht)) hf' hK
    | exit id => exact hL
    | goto l => exact hL.elim
    | ret => exact hL
    | panic ch => exact hL.elim
    | outgrown => exact hL.elim
  | r M =>
    intro c env κ W a0 a w0 w hW hf hh
    cases c <;> simp only [den] at hh
    rename_i id ops dr
    cases dr <;> simp only at hh
    refine wp_region ?_
    rw [List.range_eq_range', ← Array.length_toList]
    refine dOps_sound hΦ (fun d hd => hW d hd) ops.toList [] env _ a w rfl hf hh fun env' a' w' hf' hK => ?_
    exact ⟨_, hf'.less fun t u hu => hf'.agr _ _ (restr_lk hu).2, forceE_sound hK⟩
  | rj L M =>
    intro c env κ W a0 a w0 w hW hf hh
    cases c <;> simp only [den] at hh
    rename_i id ops dr
    cases dr <;> simp only at hh
    replace hh := chk_sound hh; obtain ⟨hM, hh⟩ := hh
    refine wp_region ?_
    rw [List.range_eq_range', ← Array.length_toList]
    refine dOps_sound (W := dsts ops.toList) hΦ (fun d hd => hd) ops.toList [] env _ a w rfl (hf.self _) hh fun env' a' w' hf' hK => ?_
    obtain ⟨e, hK, he⟩ := getH_bind hK
    exact ⟨_, hf.join hf' (fun t ht => hW t ht) hM he, hK⟩
  | d A T M =>
    intro c env κ W a0 a w0 w hW hf hh
    cases c <;> simp only [den] at hh
    rename_i id ops dr
    cases dr <;> simp only at hh
    replace hh := chk_sound hh; obtain ⟨hc, hh⟩ := hh
    rw [Bool.and_eq_true, Bool.and_eq_true] at hc
    refine dDraw_sound hΦ hc.1.1 hc.1.2 (W := W) (fun d hd => hW d hd) hf hc.2 hh fun env' a' w' hf' hK => ?_
    exact ⟨_, hf'.less fun t u hu => hf'.agr _ _ (restr_lk hu).2, forceE_sound hK⟩
  | dj A T L M =>
    intro c env κ W a0 a w0 w hW hf hh
    cases c <;> simp only [den] at hh
    rename_i id ops dr
    cases dr <;> simp only at hh
    replace hh := chk_sound hh; obtain ⟨hc, hh⟩ := hh
    rw [Bool.and_eq_true, Bool.and_eq_true, Bool.and_eq_true] at hc
    refine dDraw_sound hΦ hc.1.1.1 hc.1.1.2 (W := dsts ops.toList) (fun d hd => hd) (hf.self _) hc.1.2 hh fun env' a' w' hf' hK => ?_
    obtain ⟨e, hK, he⟩ := getH_bind hK
    exact ⟨_, hf.join hf' (fun t ht => hW t ht) hc.2 he, hK⟩
  | c p q ihp ihq =>
    intro c env κ W a0 a w0 w hW hf hh
    cases c <;> simp only [den] at hh
    rename_i x t e
    simp only [writes, List.mem_append] at hW
    replace hh := ev1_sound hh; obtain ⟨v, hv, hh⟩ := hh
    replace hh := vBool_sound hh; obtain ⟨b, rfl, hh⟩ := hh
    have hx := ev_sound (S := fun _ => True) hv (fun _ _ => trivial) (hf.agr.on _)
    rcases brr_sound hh with ⟨rfl, hh⟩ | ⟨rfl, hh⟩
    · exact wp_cond_true hx (ihp t env κ W a0 a w0 w (fun t ht => hW t (.inl ht)) hf hh)
    · exact wp_cond_false hx (ihq e env κ W a0 a w0 w (fun t ht => hW t (.inr ht)) hf hh)
  | cj L M p q ihp ihq =>
    intro c env κ W a0 a w0 w hW hf hh
    cases c <;> simp only [den] at hh
    rename_i x t e
    simp only [writes] at hW
    replace hh := chk_sound hh; obtain ⟨hM, hh⟩ := hh
    unfold jn at hh
    replace hh := ev1_sound hh; obtain ⟨v, hv, hh⟩ := hh
    replace hh := vBool_sound hh; obtain ⟨b, rfl, hh⟩ := hh
    have hx := ev_sound (S := fun _ => True) hv (fun _ _ => trivial) (hf.agr.on _)
    have key : ∀ ex a' w', Lift n (writes t ++ writes e) a w ⟨fun env' h => getH L env' (bindL L fun e h => κ.kn (e ++ restr M env) h) h, κ.kx, κ.kr⟩ ex a' w' → Lift n W a0 w0 κ ex a' w' := by
      intro ex a' w' hL
      cases ex with
      | normal =>
        obtain ⟨env', hf', hK⟩ := hL
        obtain ⟨e, hK, he⟩ := getH_bind hK
        exact ⟨_, hf.join hf' (fun t ht => hW t ht) hM he, hK⟩
      | exit id => obtain ⟨env', hf', hK⟩ := hL; exact ⟨env', hf.comp hf' (fun t ht => hW t ht), hK⟩
      | goto l => exact hL.elim
      | ret => obtain ⟨env', hf', hK⟩ := hL; exact ⟨env', hf.comp hf' (fun t ht => hW t ht), hK⟩
      | panic ch => exact hL.elim
      | outgrown => exact hL.elim
    rcases brr_sound hh with ⟨rfl, hh⟩ | ⟨rfl, hh⟩
    · exact wp_cond_true hx (wp_mono (ihp t env _ _ a a w w (fun t ht => by simp [ht]) (hf.self _) hh) key)
    · exact wp_cond_false hx (wp_mono (ihq e env _ _ a a w w (fun t ht => by simp [ht]) (hf.self _) hh) key)
  | b p ih =>
    intro c env κ W a0 a w0 w hW hf hh
    cases c <;> simp only [den] at hh
    rename_i id x
    simp only [writes] at hW
    refine wp_block (wp_mono (ih x env _ W a0 a w0 w hW hf hh) ?_)
    intro ex a' w' hL
    cases ex with
    | normal => exact hL
    | exit i =>
      obtain ⟨env', hf', hK⟩ := hL
      simp only [Exit.inBlock]
      by_cases e : i = id
      · subst e; rw [if_pos rfl]; simp only [Nat.beq_refl] at hK; exact ⟨env', hf', hK⟩
      · have hb : Nat.beq i id = false := by rw [← Bool.not_eq_true, Nat.beq_eq]; exact e
        rw [if_neg e]; simp only [hb] at hK; exact ⟨env', hf', hK⟩
    | goto l => exact hL.elim
    | ret => exact hL
    | panic ch => exact hL.elim
    | outgrown => exact hL.elim
  | bj L M p ih =>
    intro c env κ W a0 a w0 w hW hf hh
    cases c <;> simp only [den] at hh
    rename_i id x
    simp only [writes] at hW
    replace hh := chk_sound hh; obtain ⟨hM, hh⟩ := hh
    unfold jn at hh
    refine wp_block (wp_mono (ih x env _ (writes x) a a w w (fun t ht => ht) (hf.self _) hh) ?_)
    intro ex a' w' hL
    have join : ∀ env', Fits n (writes x) a w env' a' w' → getH L env' (bindL L fun e h => κ.kn (e ++ restr M env) h) w'.heap → Lift n W a0 w0 κ .normal a' w' := by
      intro env' hf' hK
      obtain ⟨e, hK, he⟩ := getH_bind hK
      exact ⟨_, hf.join hf' hW hM he, hK⟩
    cases ex with
    | normal => obtain ⟨env', hf', hK⟩ := hL; exact join env' hf' hK
    | exit i =>
      obtain ⟨env', hf', hK⟩ := hL
      simp only [Exit.inBlock]
      by_cases e : i = id
      · subst e; rw [if_pos rfl]; simp only [Nat.beq_refl] at hK; exact join env' hf' hK
      · have hb : Nat.beq i id = false := by rw [← Bool.not_eq_true, Nat.beq_eq]; exact e
        rw [if_neg e]; simp only [hb] at hK; exact ⟨env', hf.comp hf' hW, hK⟩
    | goto l => exact hL.elim
    | ret => obtain ⟨env', hf', hK⟩ := hL; exact ⟨env', hf.comp hf' hW, hK⟩
    | panic ch => exact hL.elim
    | outgrown => exact hL.elim
  | l L M p ih =>
    intro c env κ W a0 a w0 w hW hf hh
    cases c <;> simp only [den] at hh
    rename_i x
    simp only [writes] at hW
    replace hh := chk_sound hh; obtain ⟨hM, hh⟩ := hh
    obtain ⟨m, hh⟩ := getH_ex hh
    refine wp_loop_rounds m ?_
    have key : ∀ m (env' : Env) (a' : Act) (w' : World), Fits n (writes x) a w env' a' w' →
        getH L env' (wit L (fun next => bindL L fun e h => den P Φ n p x (e ++ restr M env) h ⟨fun env h => getH L env next h, κ.kx, κ.kr⟩) m) w'.heap → Code.rounds P x (Lift n W a0 w0 κ) m a' w' := by
      intro m
      induction m with
      | zero => intro env' a' w' hf' hg; exact (getH_bot hg).elim
      | succ m ihm =>
        intro env' a' w' hf' hg
        simp only [wit] at hg
        obtain ⟨e, hK, he⟩ := getH_bind hg
        have hfe := hf.self (writes x)
        have hj : Fits n (writes x) a w (e ++ restr M env) a' w' := hfe.join hf' (fun t ht => ht) hM he
        rw [rounds_succ]
        refine wp_mono (ih x _ _ (writes x) a a' w w' (fun t ht => ht) hj hK) ?_
        intro ex a2 w2 hL
        cases ex with
        | normal => obtain ⟨env2, hf2, hK2⟩ := hL; exact ihm env2 a2 w2 hf2 hK2
        | exit id => obtain ⟨env2, hf2, hK2⟩ := hL; exact ⟨env2, hf.comp hf2 hW, hK2⟩
        | goto l => exact hL.elim
        | ret => obtain ⟨env2, hf2, hK2⟩ := hL; exact ⟨env2, hf.comp hf2 hW, hK2⟩
        | panic ch => exact hL.elim
        | outgrown => exact hL.elim
    exact key m env a w (hf.self _) hh
  | z =>
    intro c env κ W a0 a w0 w hW hf hh
    cases c <;> simp only [den] at hh
    · exact wp_skip ⟨env, hf, hh⟩
    · exact wp_exit ⟨env, hf, hh⟩
    · exact wp_ret ⟨env, hf, hh⟩

def dResV (P : Program) (env : Env) (h : Heap) : List ResultVar → (List Value → Prop) → Prop
  | [], K => K []
  | .tmp t :: rs, K => on (lk env t) fun v => dResV P env h rs fun vs => K (v :: vs)
  | .cell x t :: rs, K => on (lk env x) fun v => dLoad P t v h fun u => dResV P env h rs fun vs => K (u :: vs)
def dRes (P : Program) (rs : List ResultVar) (env : Env) (h : Heap) (K : Value → Heap → Prop) : Prop :=
  dResV P env h rs fun vs => match vs with
    | [v] => K v h
    | vs => K (.tuple vs.toArray) h
def resOf (tmps : Array Value) : ResultVar → Sem Value
  | .tmp t => pure (tmps.getD t undef)
  | .cell a t => do loadVar t (← asAddr (tmps.getD a undef))
theorem results_eq (fn : Func) (tmps : Array Value) : results fn tmps = (do
    let vs ← fn.results.mapM (resOf tmps)
    pure (if h : vs.size = 1 then vs[0] else .tuple vs)) := by
  unfold results
  congr 1
theorem dResV_sound {P : Program} {w : World} {env : Env} {a : Act} (ha : Agr env a) : ∀ {rs : List ResultVar} {K : List Value → Prop}, dResV P env w.heap rs K → ∃ vs, K vs ∧ (rs.mapM (resOf a.tmps)).run P w = .ok vs w
  | [], K, h => ⟨[], h, by simp⟩
  | .tmp t :: rs, K, h => by
    replace h := on_sound h; obtain ⟨v, hv, h⟩ := h
    obtain ⟨vs, hK, hr⟩ := dResV_sound (P := P) (w := w) ha (rs := rs) (K := fun vs => K (v :: vs)) h
    refine ⟨_, hK, ?_⟩
    have hg : a.tmps.getD t undef = v := by simp [Array.getD_eq_getD_getElem?, ha t v hv]
    simp only [List.mapM_cons, Sem.run_bind, resOf, Sem.run_pure, Result.andThen_ok, hr, hg]
  | .cell x t :: rs, K, h => by
    replace h := on_sound h; obtain ⟨v, hv, h⟩ := h
    obtain ⟨ad, cs, u, rfl, hc, h, _, hl⟩ := dLoad_sound h
    obtain ⟨vs, hK, hr⟩ := dResV_sound (P := P) (w := w) ha (rs := rs) (K := fun vs => K (u :: vs)) h
    refine ⟨_, hK, ?_⟩
    have hg : a.tmps.getD x undef = .pointer (some ad) := by simp [Array.getD_eq_getD_getElem?, ha x _ hv]
    have hl' : (loadVar t ad).run P w = .ok u w := by
      have := hl w hc
      simpa [Instr.loadAt, Instr.sureAddr] using this
    simp only [List.mapM_cons, Sem.run_bind, resOf, asAddr, Sem.run_pure, Result.andThen_ok, hr, hg, hl']
theorem dRes_sound {P : Program} {w : World} {fn : Func} {env : Env} {a : Act} {K : Value → Heap → Prop} (ha : Agr env a) (h : dRes P fn.results.toList env w.heap K) :
    ∃ v, (results fn a.tmps).run P w = .ok v w ∧ K v w.heap := by
  obtain ⟨vs, hK, hr⟩ := dResV_sound (P := P) (w := w) ha h
  have hm : (fn.results.mapM (resOf a.tmps)).run P w = .ok vs.toArray w := by
    rw [← Array.toArray_toList (xs := fn.results), List.mapM_toArray, Sem.run_map, hr]
    rfl
  rw [results_eq]
  simp only [Sem.run_bind, hm, Result.andThen_ok, Sem.run_pure]
  split at hK
  · exact ⟨_, rfl, hK⟩
  · rename_i hne
    refine ⟨_, rfl, ?_⟩
    split
    · rename_i h1
      simp at h1
      match vs, h1 with
      | [v], _ => exact (hne v rfl).elim
    · exact hK
def args0 : Nat → List Value → Env
  | _, [] => []
  | i, v :: vs => (i, v) :: args0 (i + 1) vs
theorem args0_lk : ∀ (vs : List Value) (i t : Nat) (u : Value), lk (args0 i vs) t = some u → i ≤ t ∧ vs[t - i]? = some u
  | [], i, t, u, h => by simp [args0, lk] at h
  | v :: vs, i, t, u, h => by
    simp only [args0, lk_cons] at h
    by_cases e : i = t
    · subst e; rw [if_pos rfl] at h; simp at h; subst h; simp
    · rw [if_neg e] at h
      obtain ⟨h1, h2⟩ := args0_lk vs (i + 1) t u h
      refine ⟨by omega, ?_⟩
      rw [show t - i = (t - (i + 1)) + 1 by omega]; simpa using h2
/-- A CALL, BY ITS FORMULA. -/
theorem calls_den {P : Program} {Φ : Fns} (hΦ : Right P Φ) {f : FuncId} {fn : Func} {c : Code} (p : Plan) (vs : List Value) (w : World) (K : Value → Heap → Prop)
    (hf : P.funcs[f]? = some fn) (hb : fn.body = some c) (hn : Nat.ble vs.length fn.ntmps = true)
    (h : den P Φ fn.ntmps p c (args0 0 vs) w.heap ⟨fun env h => dRes P fn.results.toList env h K, fun _ _ _ => False, fun env h => dRes P fn.results.toList env h K⟩) :
    Calls P f vs.toArray w fun e w' => ∃ v, e = .returned v ∧ K v w'.heap ∧ Same w w' := by
  have hn' := Nat.le_of_ble_eq_true hn
  refine calls_of_wp hf hb (wp_mono (den_sound hΦ p c _ _ (writes c) { tmps := vs.toArray ++ Array.replicate (fn.ntmps - vs.toArray.size) undef, defers := [] } _ w w (fun _ ht => ht) ?_ h) ?_)
  · refine ⟨fun t u hu => ?_, by simp; omega, rfl, fun _ _ => rfl, Same.refl _⟩
    obtain ⟨_, hg⟩ := args0_lk vs 0 t u hu
    simp only [Nat.sub_zero] at hg
    rw [Array.getElem?_append_left (by simp; exact (List.getElem?_eq_some_iff.1 hg).1)]
    simpa using hg
  · intro e a' w' hL
    cases e with
    | normal =>
      obtain ⟨env, hf', hK⟩ := hL
      obtain ⟨v, hr, hK⟩ := dRes_sound (P := P) hf'.agr hK
      exact ⟨hf'.def_, v, hr, v, rfl, hK, hf'.same⟩
    | ret =>
      obtain ⟨env, hf', hK⟩ := hL
      obtain ⟨v, hr, hK⟩ := dRes_sound (P := P) hf'.agr hK
      exact ⟨hf'.def_, v, hr, v, rfl, hK, hf'.same⟩
    | exit id => obtain ⟨env, hf', hK⟩ := hL; exact hK.elim
    | goto l => exact hL.elim
    | panic ch => exact hL.elim
    | outgrown => exact hL.elim

def bodyOf (f : Func) : Code := f.body.getD .skip
def IsRight (P : Program) (f : FuncId) (E : List Value → Heap → (Value → Heap → Prop) → Prop) : Prop := ∀ vs h K, E vs h K → ∀ w : World, w.heap = h →
  Calls P f vs.toArray w fun e w' => ∃ v, e = .returned v ∧ K v w'.heap ∧ Same w w'
theorem isRight {P : Program} {f : FuncId} {E : List Value → Heap → (Value → Heap → Prop) → Prop} (H : ∀ vs K (w : World), E vs w.heap K → Calls P f vs.toArray w fun e w' => ∃ v, e = .returned v ∧ K v w'.heap ∧ Same w w') : IsRight P f E := by
  intro vs h K hh w hw
  subst hw
  exact H vs K w hh
def noFns : Fns := fun _ _ _ _ => False
def fn1 (f : FuncId) (E : List Value → Heap → (Value → Heap → Prop) → Prop) (rest : Fns) : Fns := fun g vs h K => match Nat.beq g f with
  | true => E vs h K
  | false => rest g vs h K
theorem noFns_right {P : Program} : Right P noFns := fun _ _ _ _ h => h.elim
theorem fn1_right {P : Program} {f : FuncId} {E : List Value → Heap → (Value → Heap → Prop) → Prop} {rest : Fns} (hok : okFn P f = true) (hE : IsRight P f E) (hr : Right P rest) : Right P (fn1 f E rest) := by
  intro g vs h K hh
  unfold fn1 at hh
  split at hh
  · rename_i e
    have := Nat.eq_of_beq_eq_true e; subst this
    exact ⟨hok, hE vs h K hh⟩
  · exact hr g vs h K hh
theorem decs_cons {k : Kd} {ks : List Kd} {vs : List Value} {K : k.T → Fn ks Prop} (h : decs (k :: ks) vs K) : ∃ x vs', vs = k.enc x :: vs' ∧ decs ks vs' (K x) := by
  cases vs with
  | nil => exact h.elim
  | cons v vs =>
    replace h := dec1_sound h; obtain ⟨x, rfl, h⟩ := h
    exact ⟨x, vs, rfl, h⟩
theorem decs_nil {vs : List Value} {K : Prop} (h : decs [] vs K) : vs = [] ∧ K := by
  cases vs with
  | nil => exact ⟨rfl, h⟩
  | cons v vs => exact h.elim
theorem toArray_eq {cs : Array Value} {l : List Value} (h : cs.toList = l) : cs = l.toArray := by subst h; rfl
/-- A function value in a box of its own. -/
def boxF (t : TypeId) (f : Option FV) (h : Heap) (K : Addr → Heap → Prop) : Prop := forceL (Kd.enc .fn f).cells.toList fun cs => al t cs h K
theorem boxF_of {t : TypeId} {f : Option FV} {h : Heap} {K : Addr → Heap → Prop} (k : al t [Kd.enc .fn f] h K) : boxF t f h K := by cases f <;> exact k
end Go.Proofs.YthiginhigfieiaaGreatDoor.V
namespace Go.Proofs.YthiginhigfieiaaGreatDoor.V
open Go Go.RowKit
abbrev YV : Type := Value → Heap → Prop
abbrev YO : Type := Option FV → Option FV → Option FV → Option FV → Option FV → Option FV → Option FV → Option FV → Option FV → Option FV → Option FV → Option FV → Option FV → Option FV → Option FV → Option FV → Option FV → Option FV → Option FV → Option FV → Option FV → Option FV → Option FV → Option FV → Option FV → Option FV → Option FV → Option FV → Option FV → Option FV → Option FV → Option FV → Option FV → Option FV → Option FV → Option FV → Option FV → Option FV → Option FV → Option FV → Option FV → Option FV → Option FV → Option FV → Option FV → Option FV → Option FV → Option FV → Option FV → Option FV → Option FV → Option FV → Option FV → Option FV → Option FV → Option FV → Option FV → Option FV → Option FV → Option FV → Option FV → Option FV → Option FV → Option FV → Heap → Prop
abbrev YQ : Type := Int → Int → Int → Int → Int → Int → Int → Int → Int → Int → Sl → Int → Int → ByteArray → ByteArray → Int → Int → Int → Int → Int → Int → Int → Heap → Prop
abbrev K22 : List Kd := [.int .i64, .int .i64, .int .i64, .int .i64, .int .u64, .int .u64, .int .u64, .int .u64, .int .i64, .int .u64, .sl, .int .i64, .int .u64, .str, .str, .int .u64, .int .u64, .int .u64, .int .i64, .int .i64, .int .i64, .int .i64]
abbrev konF (f : Func) (K : YV) : Cont := ⟨fun env h => dRes Tryz.prog f.results.toList env h K, fun _ _ _ => False, fun env h => dRes Tryz.prog f.results.toList env h K⟩
abbrev Y1 : Type := Option Addr → Heap → (Option Addr → Heap → Prop) → Prop
abbrev Y2 : Type := Option Addr → Heap → (Int → Heap → Prop) → Prop
abbrev Y3 : Type := Option Addr → Heap → (Bool → Heap → Prop) → Prop
abbrev Y4 : Type := Option Addr → Option Addr → Heap → (Heap → Prop) → Prop
abbrev Y5 : Type := Option Addr → Addr → Heap → (Bool → Heap → Prop) → Prop
abbrev Y6 : Type := Option Addr → Option Addr → Addr → Heap → (Heap → Prop) → Prop
abbrev Y7 : Type := Sl → Heap → (Sl → Heap → Prop) → Prop
abbrev Y8 : Type := Option Addr → Int → Heap → (Heap → Prop) → Prop
abbrev Y9 : Type := Option Addr → Addr → Addr → Heap → (Bool → Heap → Prop) → Prop
abbrev Y10 : Type := Option Addr → Int → Heap → (Int → Heap → Prop) → Prop
abbrev Y11 : Type := Option Addr → Int → Heap → (Sl → Heap → Prop) → Prop
abbrev Y12 : Type := Int → Heap → (Int → Heap → Prop) → Prop
abbrev Y13 : Type := Option Addr → Option Addr → Addr → Addr → Heap → (Heap → Prop) → Prop
abbrev Y14 : Type := Option Addr → Int → Int → Heap → (Heap → Prop) → Prop
abbrev Y15 : Type := Int → Heap → (Sl → Heap → Prop) → Prop
abbrev Y16 : Type := Option Addr → Sl → Heap → (Heap → Prop) → Prop
abbrev Y17 : Type := Sl → Heap → (Int → Int → Int → Int → Int → Int → Int → Int → Int → Int → Sl → Int → Int → ByteArray → ByteArray → Int → Int → Int → Int → Int → Int → Int → Int → Heap → Prop) → Prop
abbrev Y18 : Type := Option Addr → Heap → (Sl → Heap → Prop) → Prop
abbrev Y19 : Type := Heap → YO → Prop
abbrev Y20 : Type := Sl → Heap → (Int → Heap → Prop) → Prop
abbrev Y21 : Type := Int → Int → Int → Int → Int → Int → Int → Int → Int → Int → Sl → Int → Int → ByteArray → ByteArray → Int → Int → Int → Int → Int → Int → Int → Heap → (Sl → Int → Heap → Prop) → Prop
abbrev Y22 : Type := Sl → Sl → Heap → (Bool → Heap → Prop) → Prop
abbrev Y23 : Type := Int → Int → Int → Int → Int → Int → Int → Int → Int → Int → Sl → Int → Int → ByteArray → ByteArray → Int → Int → Int → Int → Int → Int → Int → Int → Int → Int → Int → Int → Int → Int → Int → Int → Int → Sl → Int → Int → ByteArray → ByteArray → Int → Int → Int → Int → Int → Int → Int → Heap → (Bool → Heap → Prop) → Prop
abbrev Y24 : Type := Option FV → Int → Heap → (Option FV → Option FV → Option FV → Option FV → Heap → Prop) → Prop
abbrev Y25 : Type := Sl → Sl → Heap → (Int → Heap → Prop) → Prop
abbrev Y26 : Type := Heap → (Option Addr → Heap → Prop) → Prop
abbrev Y27 : Type := Heap → (Bool → Heap → Prop) → Prop
abbrev Y28 : Type := Sl → Heap → (Option Addr → Heap → Prop) → Prop
abbrev Y29 : Type := Option FV → Option FV → Option FV → Option FV → Option FV → Option FV → Option FV → Option FV → Heap → (Option FV → Option FV → Option FV → Option FV → Heap → Prop) → Prop
abbrev Y30 : Type := Option FV → Heap → (Option FV → Option FV → Option FV → Option FV → Heap → Prop) → Prop
abbrev Y31 : Type := Int → Int → Heap → (Bool → Heap → Prop) → Prop
abbrev Y32 : Type := Int → Int → Heap → (Sl → Heap → Prop) → Prop
abbrev Y33 : Type := Int → Int → Int → Int → Int → Int → Int → Int → Int → Int → Sl → Int → Int → ByteArray → ByteArray → Int → Int → Int → Int → Int → Int → Int → Heap → YQ → Prop
abbrev Y34 : Type := Int → Sl → Heap → (Bool → Heap → Prop) → Prop
abbrev Y35 : Type := Int → Int → Int → Int → Int → Int → Int → Int → Int → Int → Sl → Int → Int → ByteArray → ByteArray → Int → Int → Int → Int → Int → Int → Int → Heap → (Bool → Heap → Prop) → Prop
abbrev Y36 : Type := Int → Int → Int → Int → Int → Int → Int → Int → Int → Int → Sl → Int → Int → ByteArray → ByteArray → Int → Int → Int → Int → Int → Int → Int → Heap → (Sl → Heap → Prop) → Prop
abbrev Y37 : Type := Sl → Heap → YQ → Prop
abbrev Y38 : Type := Sl → Heap → (Bool → Heap → Prop) → Prop
abbrev Y39 : Type := Int → Int → Int → Int → Int → Int → Int → Int → Int → Int → Sl → Int → Int → ByteArray → ByteArray → Int → Int → Int → Int → Int → Int → Int → Int → Int → Sl → Heap → (Bool → Heap → Prop) → Prop
end Go.Proofs.YthiginhigfieiaaGreatDoor.V
namespace Go.Proofs.YthiginhigfieiaaGreatDoor.V
open Go Go.RowKit
set_option linter.unusedVariables false
set_option maxRecDepth 100000
def F_ref0_Copy_of  (b1 : Sl) (h : Heap) (Q : Sl → Heap → Prop) : Prop :=
  mk 5 1 1 (.int .u8 0) ((b1.len : Nat) : Int) ((b1.len : Nat) : Int) h fun (s2 : Sl) (h3 : Heap) =>
  cpy 1 s2 b1.ptr b1.len h3 fun (h5 : Heap) =>
  Q s2 h5
def F_ref0_Copy (b1 : Sl) (h : Heap) (Q : Sl → Heap → Prop) : Prop := F_ref0_Copy_of  b1 h Q
def plan26 : Plan := .s (.r [0]) (.s (.r [0, 3]) (.s (.r [3]) (.s (.r [2]) .z)))
theorem F_ref0_Copy.eq  (b1 : Sl) (h : Heap) (K : YV) : F_ref0_Copy_of  b1 h (fun (r0 : Sl) (h : Heap) => K (.slice r0.ptr r0.len r0.cap) h) =
    den Tryz.prog noFns Tryz.f26.ntmps plan26 (bodyOf Tryz.f26) (args0 0 [(.slice b1.ptr b1.len b1.cap : Value)]) h (konF Tryz.f26 K) := by kernel_rfl
def E_ref0_Copy_of (f : Y7) : List Value → Heap → YV → Prop
  | [v0], h, K => dec1 .sl v0 fun (b1 : Sl) =>
  f b1 h (fun (r0 : Sl) (h : Heap) => K (.slice r0.ptr r0.len r0.cap) h)
  | _, _, _ => False
abbrev E_ref0_Copy := E_ref0_Copy_of F_ref0_Copy
theorem E_ref0_Copy.right : IsRight Tryz.prog 26 E_ref0_Copy := by
  refine isRight fun vs K w hh => ?_
  match vs, hh with
  | [v0], hh =>
    unfold E_ref0_Copy E_ref0_Copy_of at hh
    replace hh := dec1_sound hh; obtain ⟨b1, rfl, hh⟩ := hh
    unfold F_ref0_Copy at hh
    exact calls_den noFns_right plan26 _ w K Tryz.func26 (by kernel_rfl) (by kernel_rfl) (Eq.mp (F_ref0_Copy.eq  b1 w.heap K) hh)
theorem ok26 : okFn Tryz.prog 26 = true := by kernel_rfl
def F_ref0_Cmp.l1 (a1 b2 : Sl) (Q : Int → Heap → Prop) (j3 : Heap → Prop) : Int → Heap → Prop :=
  wl [(5, .one (.int .i64))] (fun (next4 : Int → Heap → Prop) (i5 : Int) (h6 : Heap) =>
  jn [(15, .one .bool)] (fun (x8 : Bool) (h9 : Heap) =>
  brr x8
  (ixS 1 a1 i5 fun (a10 : Addr) =>
  ld [.int .u8] a10 h9 fun (v11 : Int) =>
  ixS 1 b2 i5 fun (a12 : Addr) =>
  ld [.int .u8] a12 h9 fun (v13 : Int) =>
  brr (decide (v11 < v13))
  (Q (-1) h9)
  (ixS 1 a1 i5 fun (a14 : Addr) =>
  ld [.int .u8] a14 h9 fun (v15 : Int) =>
  ixS 1 b2 i5 fun (a16 : Addr) =>
  ld [.int .u8] a16 h9 fun (v17 : Int) =>
  brr (decide (v15 > v17))
  (Q 1 h9)
  (next4 (IntKind.i64.wrap (i5 + 1)) h9)))
  (j3 h9)) (fun (j7 : Bool → Heap → Prop) =>
  brr (decide (i5 < ((a1.len : Nat) : Int)))
  (j7 (decide (i5 < ((b2.len : Nat) : Int))) h6)
  (j7 false h6)))
def F_ref0_Cmp_of  (a1 b2 : Sl) (h : Heap) (Q : Int → Heap → Prop) : Prop :=
  jn [] (fun  (h18 : Heap) =>
  brr (decide (((a1.len : Nat) : Int) < ((b2.len : Nat) : Int)))
  (Q (-1) h18)
  (brr (decide (((a1.len : Nat) : Int) > ((b2.len : Nat) : Int)))
  (Q 1 h18)
  (Q 0 h18))) (fun (j3 : Heap → Prop) =>
  F_ref0_Cmp.l1 a1 b2 Q j3 0 h)
def F_ref0_Cmp (a1 b2 : Sl) (h : Heap) (Q : Int → Heap → Prop) : Prop := F_ref0_Cmp_of  a1 b2 h Q
def plan39 : Plan := .s (.r [0, 1]) (.s (.s (.r [0, 1, 5]) (.bj [] [0, 1] (.l [(5, .one (.int .i64))] [0, 1] (.s (.s (.rj [(15, .one .bool)] [0, 1, 5]) (.c .z .z)) (.s (.b (.s (.s (.d [0, 0, 3, 7, 0, 0, 48, 112, 255] [[0, 1, 2, 3, 4, 5, 6, 7, 8]] [0, 1, 5, 26]) (.c (.s (.r [4]) .z) .z)) (.s (.d [0, 0, 3, 7, 0, 0, 48, 112, 255] [[0, 1, 2, 3, 4, 5, 6, 7, 8]] [0, 1, 5, 35]) (.c (.s (.r [4]) .z) .z)))) (.r [0, 1, 5])))))) (.s (.s (.r [0, 1, 40]) (.c (.s (.r [4]) .z) .z)) (.s (.s (.r [45]) (.c (.s (.r [4]) .z) .z)) (.s (.r [4]) .z))))
theorem F_ref0_Cmp.eq  (a1 b2 : Sl) (h : Heap) (K : YV) : F_ref0_Cmp_of  a1 b2 h (fun (r0 : Int) (h : Heap) => K (.int .i64 r0) h) =
    den Tryz.prog noFns Tryz.f39.ntmps plan39 (bodyOf Tryz.f39) (args0 0 [(.slice a1.ptr a1.len a1.cap : Value), (.slice b2.ptr b2.len b2.cap : Value)]) h (konF Tryz.f39 K) := by kernel_rfl
def E_ref0_Cmp_of (f : Y25) : List Value → Heap → YV → Prop
  | [v0, v1], h, K => dec1 .sl v0 fun (a1 : Sl) =>
  dec1 .sl v1 fun (b2 : Sl) =>
  f a1 b2 h (fun (r0 : Int) (h : Heap) => K (.int .i64 r0) h)
  | _, _, _ => False
abbrev E_ref0_Cmp := E_ref0_Cmp_of F_ref0_Cmp
theorem E_ref0_Cmp.right : IsRight Tryz.prog 39 E_ref0_Cmp := by
  refine isRight fun vs K w hh => ?_
  match vs, hh with
  | [v0, v1], hh =>
    unfold E_ref0_Cmp E_ref0_Cmp_of at hh
    replace hh := dec1_sound hh; obtain ⟨a1, rfl, hh⟩ := hh
    replace hh := dec1_sound hh; obtain ⟨b2, rfl, hh⟩ := hh
    unfold F_ref0_Cmp at hh
    exact calls_den noFns_right plan39 _ w K Tryz.func39 (by kernel_rfl) (by kernel_rfl) (Eq.mp (F_ref0_Cmp.eq  a1 b2 w.heap K) hh)
theorem ok39 : okFn Tryz.prog 39 = true := by kernel_rfl
def F_ref0_Eq_of (f39_ : Y25) (a1 b2 : Sl) (h : Heap) (Q : Bool → Heap → Prop) : Prop :=
  f39_ a1 b2 h fun (r3 : Int) (h4 : Heap) =>
  Q (r3 == 0) h4
def F_ref0_Eq (a1 b2 : Sl) (h : Heap) (Q : Bool → Heap → Prop) : Prop := F_ref0_Eq_of F_ref0_Cmp a1 b2 h Q
def plan12 : Plan := .s (.r [0, 1]) (.s (.r [4]) .z)
theorem F_ref0_Eq.eq (f39_ : Y25) (a1 b2 : Sl) (h : Heap) (K : YV) : F_ref0_Eq_of f39_ a1 b2 h (fun (r0 : Bool) (h : Heap) => K (.bool r0) h) =
    den Tryz.prog (fn1 39 (E_ref0_Cmp_of f39_) noFns) Tryz.f12.ntmps plan12 (bodyOf Tryz.f12) (args0 0 [(.slice a1.ptr a1.len a1.cap : Value), (.slice b2.ptr b2.len b2.cap : Value)]) h (konF Tryz.f12 K) := by kernel_rfl
def E_ref0_Eq_of (f : Y22) : List Value → Heap → YV → Prop
  | [v0, v1], h, K => dec1 .sl v0 fun (a1 : Sl) =>
  dec1 .sl v1 fun (b2 : Sl) =>
  f a1 b2 h (fun (r0 : Bool) (h : Heap) => K (.bool r0) h)
  | _, _, _ => False
abbrev E_ref0_Eq := E_ref0_Eq_of F_ref0_Eq
theorem E_ref0_Eq.right : IsRight Tryz.prog 12 E_ref0_Eq := by
  refine isRight fun vs K w hh => ?_
  match vs, hh with
  | [v0, v1], hh =>
    unfold E_ref0_Eq E_ref0_Eq_of at hh
    replace hh := dec1_sound hh; obtain ⟨a1, rfl, hh⟩ := hh
    replace hh := dec1_sound hh; obtain ⟨b2, rfl, hh⟩ := hh
    unfold F_ref0_Eq at hh
    exact calls_den (fn1_right ok39 E_ref0_Cmp.right noFns_right) plan12 _ w K Tryz.func12 (by kernel_rfl) (by kernel_rfl) (Eq.mp (F_ref0_Eq.eq F_ref0_Cmp a1 b2 w.heap K) hh)
theorem ok12 : okFn Tryz.prog 12 = true := by kernel_rfl
def F_ref1_Eye_Left_of  (e1 : Option Addr) (h : Heap) (Q : Int → Heap → Prop) : Prop :=
  nn e1 fun (a2 : Addr) =>
  ld [.sl] (a2.add 0) h fun (v3 : Sl) =>
  nn e1 fun (a4 : Addr) =>
  ld [.int .i64] (a4.add 1) h fun (v5 : Int) =>
  Q (IntKind.i64.wrap (((v3.len : Nat) : Int) - v5)) h
def F_ref1_Eye_Left (e1 : Option Addr) (h : Heap) (Q : Int → Heap → Prop) : Prop := F_ref1_Eye_Left_of  e1 h Q
def plan160 : Plan := .s (.r [0]) (.s (.d [0, 1, 3, 7, 15, 0, 32, 96, 224, 511, 1023] [[0, 1, 2, 3, 4, 5, 6, 7, 8, 9, 10]] [2]) .z)
theorem F_ref1_Eye_Left.eq  (e1 : Option Addr) (h : Heap) (K : YV) : F_ref1_Eye_Left_of  e1 h (fun (r0 : Int) (h : Heap) => K (.int .i64 r0) h) =
    den Tryz.prog noFns Tryz.f160.ntmps plan160 (bodyOf Tryz.f160) (args0 0 [(.pointer e1 : Value)]) h (konF Tryz.f160 K) := by kernel_rfl
def E_ref1_Eye_Left_of (f : Y2) : List Value → Heap → YV → Prop
  | [v0], h, K => dec1 .ptr v0 fun (e1 : Option Addr) =>
  f e1 h (fun (r0 : Int) (h : Heap) => K (.int .i64 r0) h)
  | _, _, _ => False
abbrev E_ref1_Eye_Left := E_ref1_Eye_Left_of F_ref1_Eye_Left
theorem E_ref1_Eye_Left.right : IsRight Tryz.prog 160 E_ref1_Eye_Left := by
  refine isRight fun vs K w hh => ?_
  match vs, hh with
  | [v0], hh =>
    unfold E_ref1_Eye_Left E_ref1_Eye_Left_of at hh
    replace hh := dec1_sound hh; obtain ⟨e1, rfl, hh⟩ := hh
    unfold F_ref1_Eye_Left at hh
    exact calls_den noFns_right plan160 _ w K Tryz.func160 (by kernel_rfl) (by kernel_rfl) (Eq.mp (F_ref1_Eye_Left.eq  e1 w.heap K) hh)
theorem ok160 : okFn Tryz.prog 160 = true := by kernel_rfl
def F_ref1_Eye_Raw_of (f26_ : Y7) (f160_ : Y2) (e1 : Option Addr) (n2 : Int) (h : Heap) (Q : Sl → Heap → Prop) : Prop :=
  nn e1 fun (a3 : Addr) =>
  ld [.int .i64] (a3.add 2) h fun (v4 : Int) =>
  brr (v4 != 0)
  (Q (⟨none, 0, 0⟩ : Sl) h)
  (brr (decide (n2 < 0))
  (nn e1 fun (a5 : Addr) =>
  st (a5.add 2) [.int .i64 14] h fun (h6 : Heap) =>
  Q (⟨none, 0, 0⟩ : Sl) h6)
  (f160_ e1 h fun (r7 : Int) (h8 : Heap) =>
  brr (decide (n2 > r7))
  (nn e1 fun (a9 : Addr) =>
  st (a9.add 2) [.int .i64 10] h8 fun (h10 : Heap) =>
  Q (⟨none, 0, 0⟩ : Sl) h10)
  (nn e1 fun (a11 : Addr) =>
  ld [.sl] (a11.add 0) h8 fun (v12 : Sl) =>
  nn e1 fun (a13 : Addr) =>
  ld [.int .i64] (a13.add 1) h8 fun (v14 : Int) =>
  nn e1 fun (a15 : Addr) =>
  ld [.int .i64] (a15.add 1) h8 fun (v16 : Int) =>
  slFT 1 v12 v14 (IntKind.i64.wrap (v16 + n2)) fun (s17 : Sl) =>
  f26_ s17 h8 fun (r18 : Sl) (h19 : Heap) =>
  nn e1 fun (a20 : Addr) =>
  ld [.int .i64] (a20.add 1) h19 fun (v21 : Int) =>
  nn e1 fun (a22 : Addr) =>
  st (a22.add 1) [.int .i64 (IntKind.i64.wrap (v21 + n2))] h19 fun (h23 : Heap) =>
  Q r18 h23)))
def F_ref1_Eye_Raw (e1 : Option Addr) (n2 : Int) (h : Heap) (Q : Sl → Heap → Prop) : Prop := F_ref1_Eye_Raw_of F_ref0_Copy F_ref1_Eye_Left e1 n2 h Q
def plan161 : Plan := .s (.r [0, 1]) (.s (.b (.s (.r [0, 1, 6]) (.c (.s (.r [4]) .z) (.s (.r [0, 1, 12]) (.c (.s (.r []) (.s (.r [4]) .z)) (.s (.r [0, 1, 18]) (.c (.s (.r []) (.s (.r [4]) .z)) .z))))))) (.s (.d [0, 1, 3, 7, 0, 16, 48, 112, 0, 256, 768, 1792, 0, 7936, 16383, 32767, 65535] [[0, 1, 2, 3, 4, 5, 6, 7, 8, 9, 10, 11, 12, 13, 14, 15, 16]] [0, 1, 5]) (.s (.r [5]) (.s (.r [4]) .z))))
theorem F_ref1_Eye_Raw.eq (f26_ : Y7) (f160_ : Y2) (e1 : Option Addr) (n2 : Int) (h : Heap) (K : YV) : F_ref1_Eye_Raw_of f26_ f160_ e1 n2 h (fun (r0 : Sl) (h : Heap) => K (.slice r0.ptr r0.len r0.cap) h) =
    den Tryz.prog (fn1 26 (E_ref0_Copy_of f26_) (fn1 160 (E_ref1_Eye_Left_of f160_) noFns)) Tryz.f161.ntmps plan161 (bodyOf Tryz.f161) (args0 0 [(.pointer e1 : Value), (.int .i64 n2 : Value)]) h (konF Tryz.f161 K) := by kernel_rfl
def E_ref1_Eye_Raw_of (f : Y11) : List Value → Heap → YV → Prop
  | [v0, v1], h, K => dec1 .ptr v0 fun (e1 : Option Addr) =>
  dec1 (.int .i64) v1 fun (n2 : Int) =>
  f e1 n2 h (fun (r0 : Sl) (h : Heap) => K (.slice r0.ptr r0.len r0.cap) h)
  | _, _, _ => False
abbrev E_ref1_Eye_Raw := E_ref1_Eye_Raw_of F_ref1_Eye_Raw
theorem E_ref1_Eye_Raw.right : IsRight Tryz.prog 161 E_ref1_Eye_Raw := by
  refine isRight fun vs K w hh => ?_
  match vs, hh with
  | [v0, v1], hh =>
    unfold E_ref1_Eye_Raw E_ref1_Eye_Raw_of at hh
    replace hh := dec1_sound hh; obtain ⟨e1, rfl, hh⟩ := hh
    replace hh := dec1_sound hh; obtain ⟨n2, rfl, hh⟩ := hh
    unfold F_ref1_Eye_Raw at hh
    exact calls_den (fn1_right ok26 E_ref0_Copy.right (fn1_right ok160 E_ref1_Eye_Left.right noFns_right)) plan161 _ w K Tryz.func161 (by kernel_rfl) (by kernel_rfl) (Eq.mp (F_ref1_Eye_Raw.eq F_ref0_Copy F_ref1_Eye_Left e1 n2 w.heap K) hh)
theorem ok161 : okFn Tryz.prog 161 = true := by kernel_rfl
def F_ref1_Eye_fixed.l1 (r3 : Sl) (j5 : Int → Heap → Prop) : Int → Int → Heap → Prop :=
  wl [(6, .one (.int .u64)), (7, .one (.int .i64))] (fun (next6 : Int → Int → Heap → Prop) (n7 i8 : Int) (h9 : Heap) =>
  brr (decide (i8 < ((r3.len : Nat) : Int)))
  (ixS 1 r3 i8 fun (a10 : Addr) =>
  ld [.int .u8] a10 h9 fun (v11 : Int) =>
  next6 (IntKind.u64.wrap ((IntKind.u64.wrap (n7 * 256)) + (IntKind.u64.wrap v11))) (IntKind.i64.wrap (i8 + 1)) h9)
  (j5 n7 h9))
def F_ref1_Eye_fixed_of (f161_ : Y11) (e1 : Option Addr) (size2 : Int) (h : Heap) (Q : Int → Heap → Prop) : Prop :=
  f161_ e1 size2 h fun (r3 : Sl) (h4 : Heap) =>
  jn [(6, .one (.int .u64))] (fun (n12 : Int) (h13 : Heap) =>
  Q n12 h13) (fun (j5 : Int → Heap → Prop) =>
  F_ref1_Eye_fixed.l1 r3 j5 0 0 h4)
def F_ref1_Eye_fixed (e1 : Option Addr) (size2 : Int) (h : Heap) (Q : Int → Heap → Prop) : Prop := F_ref1_Eye_fixed_of F_ref1_Eye_Raw e1 size2 h Q
def plan158 : Plan := .s (.r [0, 1]) (.s (.r [5]) (.s (.r [5, 6]) (.s (.s (.r [5, 6, 7]) (.bj [(6, .one (.int .u64))] [] (.l [(6, .one (.int .u64)), (7, .one (.int .i64))] [5] (.s (.s (.r [5, 6, 7, 14]) (.c .z .z)) (.s (.b (.r [5, 6, 7])) (.r [5, 6, 7])))))) (.s (.r [4]) .z))))
theorem F_ref1_Eye_fixed.eq (f161_ : Y11) (e1 : Option Addr) (size2 : Int) (h : Heap) (K : YV) : F_ref1_Eye_fixed_of f161_ e1 size2 h (fun (r0 : Int) (h : Heap) => K (.int .u64 r0) h) =
    den Tryz.prog (fn1 161 (E_ref1_Eye_Raw_of f161_) noFns) Tryz.f158.ntmps plan158 (bodyOf Tryz.f158) (args0 0 [(.pointer e1 : Value), (.int .i64 size2 : Value)]) h (konF Tryz.f158 K) := by kernel_rfl
def E_ref1_Eye_fixed_of (f : Y10) : List Value → Heap → YV → Prop
  | [v0, v1], h, K => dec1 .ptr v0 fun (e1 : Option Addr) =>
  dec1 (.int .i64) v1 fun (size2 : Int) =>
  f e1 size2 h (fun (r0 : Int) (h : Heap) => K (.int .u64 r0) h)
  | _, _, _ => False
abbrev E_ref1_Eye_fixed := E_ref1_Eye_fixed_of F_ref1_Eye_fixed
theorem E_ref1_Eye_fixed.right : IsRight Tryz.prog 158 E_ref1_Eye_fixed := by
  refine isRight fun vs K w hh => ?_
  match vs, hh with
  | [v0, v1], hh =>
    unfold E_ref1_Eye_fixed E_ref1_Eye_fixed_of at hh
    replace hh := dec1_sound hh; obtain ⟨e1, rfl, hh⟩ := hh
    replace hh := dec1_sound hh; obtain ⟨size2, rfl, hh⟩ := hh
    unfold F_ref1_Eye_fixed at hh
    exact calls_den (fn1_right ok161 E_ref1_Eye_Raw.right noFns_right) plan158 _ w K Tryz.func158 (by kernel_rfl) (by kernel_rfl) (Eq.mp (F_ref1_Eye_fixed.eq F_ref1_Eye_Raw e1 size2 w.heap K) hh)
theorem ok158 : okFn Tryz.prog 158 = true := by kernel_rfl
def F_ref1_Eye_last.l1 (e1 : Option Addr) (Q : Int → Heap → Prop) (j2 : Heap → Prop) : Int → Heap → Prop :=
  wl [(3, .one (.int .i64))] (fun (next3 : Int → Heap → Prop) (k4 : Int) (h5 : Heap) =>
  jn [(19, .one .bool)] (fun (x11 : Bool) (h12 : Heap) =>
  brr x11
  (nn e1 fun (a13 : Addr) =>
  ld [.sl] (a13.add 0) h12 fun (v14 : Sl) =>
  nn e1 fun (a15 : Addr) =>
  ld [.int .i64] (a15.add 1) h12 fun (v16 : Int) =>
  ixS 1 v14 (IntKind.i64.wrap (v16 + k4)) fun (a17 : Addr) =>
  ld [.int .u8] a17 h12 fun (v18 : Int) =>
  brr (decide (v18 < 128))
  (nn e1 fun (a19 : Addr) =>
  ld [.int .i64] (a19.add 1) h12 fun (v20 : Int) =>
  Q (IntKind.i64.wrap (v20 + k4)) h12)
  (next3 (IntKind.i64.wrap (k4 + 1)) h12))
  (j2 h12)) (fun (j6 : Bool → Heap → Prop) =>
  brr (decide (k4 < 10))
  (nn e1 fun (a7 : Addr) =>
  ld [.int .i64] (a7.add 1) h5 fun (v8 : Int) =>
  nn e1 fun (a9 : Addr) =>
  ld [.sl] (a9.add 0) h5 fun (v10 : Sl) =>
  j6 (decide ((IntKind.i64.wrap (v8 + k4)) < ((v10.len : Nat) : Int))) h5)
  (j6 false h5)))
def F_ref1_Eye_last_of  (e1 : Option Addr) (h : Heap) (Q : Int → Heap → Prop) : Prop :=
  jn [] (fun  (h21 : Heap) =>
  Q (-1) h21) (fun (j2 : Heap → Prop) =>
  F_ref1_Eye_last.l1 e1 Q j2 0 h)
def F_ref1_Eye_last (e1 : Option Addr) (h : Heap) (Q : Int → Heap → Prop) : Prop := F_ref1_Eye_last_of  e1 h Q
def plan159 : Plan := .s (.r [0]) (.s (.s (.r [0, 3]) (.bj [] [] (.l [(3, .one (.int .i64))] [0] (.s (.s (.dj [0, 1, 3, 7, 15, 31, 63, 7, 255, 7, 519, 1543, 3591, 7687, 16383, 32767] [[0, 1, 2, 3, 4, 5, 6, 7, 8, 9, 10, 11, 12, 13, 14, 15]] [(19, .one .bool)] [0, 3]) (.c .z .z)) (.s (.b (.s (.d [0, 1, 3, 7, 0, 16, 48, 112, 0, 496, 1023, 2047, 4095] [[0, 1, 2, 3, 4, 5, 6, 7, 8, 9, 10, 11, 12]] [0, 3, 34]) (.c (.s (.r [2]) .z) .z))) (.r [0, 3])))))) (.s (.r [2]) .z))
theorem F_ref1_Eye_last.eq  (e1 : Option Addr) (h : Heap) (K : YV) : F_ref1_Eye_last_of  e1 h (fun (r0 : Int) (h : Heap) => K (.int .i64 r0) h) =
    den Tryz.prog noFns Tryz.f159.ntmps plan159 (bodyOf Tryz.f159) (args0 0 [(.pointer e1 : Value)]) h (konF Tryz.f159 K) := by kernel_rfl
def E_ref1_Eye_last_of (f : Y2) : List Value → Heap → YV → Prop
  | [v0], h, K => dec1 .ptr v0 fun (e1 : Option Addr) =>
  f e1 h (fun (r0 : Int) (h : Heap) => K (.int .i64 r0) h)
  | _, _, _ => False
abbrev E_ref1_Eye_last := E_ref1_Eye_last_of F_ref1_Eye_last
theorem E_ref1_Eye_last.right : IsRight Tryz.prog 159 E_ref1_Eye_last := by
  refine isRight fun vs K w hh => ?_
  match vs, hh with
  | [v0], hh =>
    unfold E_ref1_Eye_last E_ref1_Eye_last_of at hh
    replace hh := dec1_sound hh; obtain ⟨e1, rfl, hh⟩ := hh
    unfold F_ref1_Eye_last at hh
    exact calls_den noFns_right plan159 _ w K Tryz.func159 (by kernel_rfl) (by kernel_rfl) (Eq.mp (F_ref1_Eye_last.eq  e1 w.heap K) hh)
theorem ok159 : okFn Tryz.prog 159 = true := by kernel_rfl
def F_ref1_Var_of (f142_ : Y15) (n1 : Int) (h : Heap) (Q : Sl → Heap → Prop) : Prop :=
  brr (decide (n1 < 128))
  (al 5 [.int .u8 (IntKind.u8.wrap n1)] h fun (a2 : Addr) (h3 : Heap) =>
  Q ⟨(some a2), 1, 1⟩ h3)
  ((128 : Int) ≠ 0 ∧
  al 5 [.int .u8 (IntKind.u8.wrap (IntKind.u64.wrap (128 + (n1.tmod 128))))] h fun (a4 : Addr) (h5 : Heap) =>
  (128 : Int) ≠ 0 ∧
  f142_ (IntKind.u64.wrap (n1.tdiv 128)) h5 fun (r6 : Sl) (h7 : Heap) =>
  app 5 1 1 (.int .u8 0) ⟨(some a4), 1, 1⟩ r6.ptr r6.len h7 fun (s8 : Sl) (h9 : Heap) =>
  Q s8 h9)
def F_ref1_Var_fuel : Nat → Int → Heap → (Sl → Heap → Prop) → Prop
  | 0 => fun _ _ _ => False
  | m + 1 => fun n1 h Q => F_ref1_Var_of (F_ref1_Var_fuel m) n1 h Q
def F_ref1_Var (n1 : Int) (h : Heap) (Q : Sl → Heap → Prop) : Prop := ∃ m, F_ref1_Var_fuel m n1 h Q
def plan142 : Plan := .s (.r [0]) (.s (.s (.r [0, 5]) (.c (.s (.r [2]) .z) .z)) (.s (.r [0, 3]) (.s (.r [3]) (.s (.r [2]) .z))))
def E_ref1_Var_of (f : Y15) : List Value → Heap → YV → Prop
  | [v0], h, K => dec1 (.int .u64) v0 fun (n1 : Int) =>
  f n1 h (fun (r0 : Sl) (h : Heap) => K (.slice r0.ptr r0.len r0.cap) h)
  | _, _, _ => False
theorem F_ref1_Var.eq (f142_ : Y15) (n1 : Int) (h : Heap) (K : YV) : F_ref1_Var_of f142_ n1 h (fun (r0 : Sl) (h : Heap) => K (.slice r0.ptr r0.len r0.cap) h) =
    den Tryz.prog (fn1 142 (E_ref1_Var_of f142_) noFns) Tryz.f142.ntmps plan142 (bodyOf Tryz.f142) (args0 0 [(.int .u64 n1 : Value)]) h (konF Tryz.f142 K) := by kernel_rfl
abbrev E_ref1_Var := E_ref1_Var_of F_ref1_Var
theorem ok142 : okFn Tryz.prog 142 = true := by kernel_rfl
theorem E_ref1_Var.rightN : ∀ m, IsRight Tryz.prog 142 (E_ref1_Var_of (F_ref1_Var_fuel m))
  | 0 => isRight fun vs K w hh => by
    match vs, hh with
    | [v0], hh =>
      unfold E_ref1_Var_of at hh
      replace hh := dec1_sound hh; obtain ⟨n1, rfl, hh⟩ := hh
      exact (show False from hh).elim
  | m + 1 => isRight fun vs K w hh => by
    match vs, hh with
    | [v0], hh =>
      unfold E_ref1_Var_of at hh
      replace hh := dec1_sound hh; obtain ⟨n1, rfl, hh⟩ := hh
      exact calls_den (fn1_right ok142 (E_ref1_Var.rightN m) noFns_right) plan142 _ w K Tryz.func142 (by kernel_rfl) (by kernel_rfl) (Eq.mp (F_ref1_Var.eq (F_ref1_Var_fuel m) n1 w.heap K) hh)
theorem E_ref1_Var.right : IsRight Tryz.prog 142 E_ref1_Var := by
  refine isRight fun vs K w hh => ?_
  match vs, hh with
  | [v0], hh =>
    unfold E_ref1_Var E_ref1_Var_of at hh
    replace hh := dec1_sound hh; obtain ⟨n1, rfl, hh⟩ := hh
    unfold F_ref1_Var at hh
    obtain ⟨m, hh⟩ := hh
    cases m with
    | zero => exact (show False from hh).elim
    | succ m => exact calls_den (fn1_right ok142 (E_ref1_Var.rightN m) noFns_right) plan142 _ w K Tryz.func142 (by kernel_rfl) (by kernel_rfl) (Eq.mp (F_ref1_Var.eq (F_ref1_Var_fuel m) n1 w.heap K) hh)
def F_code_Reader_Left_of  (r1 : Option Addr) (h : Heap) (Q : Int → Heap → Prop) : Prop :=
  nn r1 fun (a2 : Addr) =>
  ld [.sl] (a2.add 0) h fun (v3 : Sl) =>
  nn r1 fun (a4 : Addr) =>
  ld [.int .i64] (a4.add 1) h fun (v5 : Int) =>
  Q (IntKind.i64.wrap (((v3.len : Nat) : Int) - v5)) h
def F_code_Reader_Left (r1 : Option Addr) (h : Heap) (Q : Int → Heap → Prop) : Prop := F_code_Reader_Left_of  r1 h Q
def plan97 : Plan := .s (.r [0]) (.s (.d [0, 1, 3, 7, 15, 0, 32, 96, 224, 511, 1023] [[0, 1, 2, 3, 4, 5, 6, 7, 8, 9, 10]] [2]) .z)
theorem F_code_Reader_Left.eq  (r1 : Option Addr) (h : Heap) (K : YV) : F_code_Reader_Left_of  r1 h (fun (r0 : Int) (h : Heap) => K (.int .i64 r0) h) =
    den Tryz.prog noFns Tryz.f97.ntmps plan97 (bodyOf Tryz.f97) (args0 0 [(.pointer r1 : Value)]) h (konF Tryz.f97 K) := by kernel_rfl
def E_code_Reader_Left_of (f : Y2) : List Value → Heap → YV → Prop
  | [v0], h, K => dec1 .ptr v0 fun (r1 : Option Addr) =>
  f r1 h (fun (r0 : Int) (h : Heap) => K (.int .i64 r0) h)
  | _, _, _ => False
abbrev E_code_Reader_Left := E_code_Reader_Left_of F_code_Reader_Left
theorem E_code_Reader_Left.right : IsRight Tryz.prog 97 E_code_Reader_Left := by
  refine isRight fun vs K w hh => ?_
  match vs, hh with
  | [v0], hh =>
    unfold E_code_Reader_Left E_code_Reader_Left_of at hh
    replace hh := dec1_sound hh; obtain ⟨r1, rfl, hh⟩ := hh
    unfold F_code_Reader_Left at hh
    exact calls_den noFns_right plan97 _ w K Tryz.func97 (by kernel_rfl) (by kernel_rfl) (Eq.mp (F_code_Reader_Left.eq  r1 w.heap K) hh)
theorem ok97 : okFn Tryz.prog 97 = true := by kernel_rfl
def F_code_Reader_stop_of  (r1 : Option Addr) (at_2 what3 : Int) (h : Heap) (Q : Heap → Prop) : Prop :=
  nn r1 fun (a4 : Addr) =>
  st (a4.add 1) [.int .i64 at_2] h fun (h5 : Heap) =>
  nn r1 fun (a6 : Addr) =>
  st (a6.add 2) [.int .i64 what3] h5 fun (h7 : Heap) =>
  Q h7
def F_code_Reader_stop (r1 : Option Addr) (at_2 what3 : Int) (h : Heap) (Q : Heap → Prop) : Prop := F_code_Reader_stop_of  r1 at_2 what3 h Q
def plan131 : Plan := .r []
theorem F_code_Reader_stop.eq  (r1 : Option Addr) (at_2 what3 : Int) (h : Heap) (K : YV) : F_code_Reader_stop_of  r1 at_2 what3 h (fun  (h : Heap) => K (.tuple #[]) h) =
    den Tryz.prog noFns Tryz.f131.ntmps plan131 (bodyOf Tryz.f131) (args0 0 [(.pointer r1 : Value), (.int .i64 at_2 : Value), (.int .i64 what3 : Value)]) h (konF Tryz.f131 K) := by kernel_rfl
def E_code_Reader_stop_of (f : Y14) : List Value → Heap → YV → Prop
  | [v0, v1, v2], h, K => dec1 .ptr v0 fun (r1 : Option Addr) =>
  dec1 (.int .i64) v1 fun (at_2 : Int) =>
  dec1 (.int .i64) v2 fun (what3 : Int) =>
  f r1 at_2 what3 h (fun  (h : Heap) => K (.tuple #[]) h)
  | _, _, _ => False
abbrev E_code_Reader_stop := E_code_Reader_stop_of F_code_Reader_stop
theorem E_code_Reader_stop.right : IsRight Tryz.prog 131 E_code_Reader_stop := by
  refine isRight fun vs K w hh => ?_
  match vs, hh with
  | [v0, v1, v2], hh =>
    unfold E_code_Reader_stop E_code_Reader_stop_of at hh
    replace hh := dec1_sound hh; obtain ⟨r1, rfl, hh⟩ := hh
    replace hh := dec1_sound hh; obtain ⟨at_2, rfl, hh⟩ := hh
    replace hh := dec1_sound hh; obtain ⟨what3, rfl, hh⟩ := hh
    unfold F_code_Reader_stop at hh
    exact calls_den noFns_right plan131 _ w K Tryz.func131 (by kernel_rfl) (by kernel_rfl) (Eq.mp (F_code_Reader_stop.eq  r1 at_2 what3 w.heap K) hh)
theorem ok131 : okFn Tryz.prog 131 = true := by kernel_rfl
def F_code_Reader_next_of (f97_ : Y2) (f131_ : Y14) (r1 : Option Addr) (n2 : Int) (h : Heap) (Q : Sl → Heap → Prop) : Prop :=
  nn r1 fun (a3 : Addr) =>
  ld [.int .i64] (a3.add 2) h fun (v4 : Int) =>
  brr (v4 != 0)
  (Q (⟨none, 0, 0⟩ : Sl) h)
  (f97_ r1 h fun (r5 : Int) (h6 : Heap) =>
  brr (decide (n2 > r5))
  (nn r1 fun (a7 : Addr) =>
  ld [.int .i64] (a7.add 1) h6 fun (v8 : Int) =>
  f131_ r1 v8 1 h6 fun  (h9 : Heap) =>
  Q (⟨none, 0, 0⟩ : Sl) h9)
  (nn r1 fun (a10 : Addr) =>
  ld [.sl] (a10.add 0) h6 fun (v11 : Sl) =>
  nn r1 fun (a12 : Addr) =>
  ld [.int .i64] (a12.add 1) h6 fun (v13 : Int) =>
  nn r1 fun (a14 : Addr) =>
  ld [.int .i64] (a14.add 1) h6 fun (v15 : Int) =>
  slFT 1 v11 v13 (IntKind.i64.wrap (v15 + n2)) fun (s16 : Sl) =>
  nn r1 fun (a17 : Addr) =>
  ld [.int .i64] (a17.add 1) h6 fun (v18 : Int) =>
  nn r1 fun (a19 : Addr) =>
  st (a19.add 1) [.int .i64 (IntKind.i64.wrap (v18 + n2))] h6 fun (h20 : Heap) =>
  Q s16 h20))
def F_code_Reader_next (r1 : Option Addr) (n2 : Int) (h : Heap) (Q : Sl → Heap → Prop) : Prop := F_code_Reader_next_of F_code_Reader_Left F_code_Reader_stop r1 n2 h Q
def plan133 : Plan := .s (.r [0, 1]) (.s (.b (.s (.r [0, 1, 6]) (.c (.s (.r [4]) .z) (.s (.r [0, 1, 12]) (.c (.s (.r []) (.s (.r [4]) .z)) .z))))) (.s (.d [0, 1, 3, 7, 0, 16, 48, 112, 0, 256, 768, 1792, 0, 7936, 16383, 32767] [[0, 1, 2, 3, 4, 5, 6, 7, 8, 9, 10, 11, 12, 13, 14, 15]] [0, 1, 5]) (.s (.r [5]) (.s (.r [4]) .z))))
theorem F_code_Reader_next.eq (f97_ : Y2) (f131_ : Y14) (r1 : Option Addr) (n2 : Int) (h : Heap) (K : YV) : F_code_Reader_next_of f97_ f131_ r1 n2 h (fun (r0 : Sl) (h : Heap) => K (.slice r0.ptr r0.len r0.cap) h) =
    den Tryz.prog (fn1 97 (E_code_Reader_Left_of f97_) (fn1 131 (E_code_Reader_stop_of f131_) noFns)) Tryz.f133.ntmps plan133 (bodyOf Tryz.f133) (args0 0 [(.pointer r1 : Value), (.int .i64 n2 : Value)]) h (konF Tryz.f133 K) := by kernel_rfl
def E_code_Reader_next_of (f : Y11) : List Value → Heap → YV → Prop
  | [v0, v1], h, K => dec1 .ptr v0 fun (r1 : Option Addr) =>
  dec1 (.int .i64) v1 fun (n2 : Int) =>
  f r1 n2 h (fun (r0 : Sl) (h : Heap) => K (.slice r0.ptr r0.len r0.cap) h)
  | _, _, _ => False
abbrev E_code_Reader_next := E_code_Reader_next_of F_code_Reader_next
theorem E_code_Reader_next.right : IsRight Tryz.prog 133 E_code_Reader_next := by
  refine isRight fun vs K w hh => ?_
  match vs, hh with
  | [v0, v1], hh =>
    unfold E_code_Reader_next E_code_Reader_next_of at hh
    replace hh := dec1_sound hh; obtain ⟨r1, rfl, hh⟩ := hh
    replace hh := dec1_sound hh; obtain ⟨n2, rfl, hh⟩ := hh
    unfold F_code_Reader_next at hh
    exact calls_den (fn1_right ok97 E_code_Reader_Left.right (fn1_right ok131 E_code_Reader_stop.right noFns_right)) plan133 _ w K Tryz.func133 (by kernel_rfl) (by kernel_rfl) (Eq.mp (F_code_Reader_next.eq F_code_Reader_Left F_code_Reader_stop r1 n2 w.heap K) hh)
theorem ok133 : okFn Tryz.prog 133 = true := by kernel_rfl
end Go.Proofs.YthiginhigfieiaaGreatDoor.V
