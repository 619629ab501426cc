/-
  A VIEW OF THE MACHINE AS A PREDICATE TRANSFORMER OVER THE HEAP. Part 2: the operations that read, and change nothing.
-/
import Derived.Test.YtompmkmbppcadaaV1
import Derived.Laws.StructEq
namespace Go.Proofs.Ytompmkmbppcadaa.V
open Go Go.RowKit
set_option linter.unusedVariables false
set_option linter.unusedSimpArgs false

abbrev Env := List (Nat × Value)
def lk : Env → Nat → Option Value
  | [], _ => none
  | (i, v) :: r, j => match Nat.beq i j with
    | true => some v
    | false => lk r j
def ev (env : Env) : Operand → Option Value
  | .tmp t => lk env t
  | .const v => some v
  | _ => none
/-- What the frame holds is what is known of it, at these slots. -/
def AgrOn (S : Nat → Prop) (env : Env) (a : Act) : Prop := ∀ t, S t → ∀ u, lk env t = some u → a.tmps[t]? = some u
theorem ev_sound {S : Nat → Prop} {env : Env} {a : Act} {x : Operand} {v : Value} (h : ev env x = some v) (hs : ∀ t, x = .tmp t → S t) (ha : AgrOn S env a) : a.eval x = v := by
  cases x with
  | tmp t =>
    have := ha t (hs t rfl) v h
    simp only [Act.eval, Array.getD_eq_getD_getElem?, this, Option.getD_some]
  | const c => simp [ev] at h; subst h; rfl
  | global g => simp [ev] at h
  | func f => simp [ev] at h
/-- A test whose outcome is told by its value. -/
def brr (b : Bool) (A B : Prop) : Prop := match b with
  | true => A
  | false => B
def chk (b : Bool) (A : Prop) : Prop := match b with
  | true => A
  | false => False
theorem chk_sound {b : Bool} {A : Prop} (h : chk b A) : b = true ∧ A := by cases b; exact h.elim; exact ⟨rfl, h⟩
def ev1 (env : Env) (x : Operand) (K : Value → Prop) : Prop := match ev env x with
  | some v => K v
  | none => False
theorem ev1_sound {env : Env} {x : Operand} {K : Value → Prop} (h : ev1 env x K) : ∃ v, ev env x = some v ∧ K v := by
  unfold ev1 at h; split at h
  · rename_i v e; exact ⟨v, e, h⟩
  · exact h.elim
/-- The pointer is not nil. -/
def nn (p : Option Addr) (K : Addr → Prop) : Prop := ∃ a, p = some a ∧ K a
def forceL : List Value → (List Value → Prop) → Prop
  | [], K => K []
  | v :: vs, K => forceL vs fun us => K (v :: us)
theorem forceL_sound : ∀ {l : List Value} {K : List Value → Prop}, forceL l K → K l
  | [], _, h => h
  | v :: vs, K, h => forceL_sound (l := vs) (K := fun us => K (v :: us)) h
/-- An element of a list of cells, by a number. -/
def ixL : List Value → Nat → Int → (Value → Prop) → Prop
  | [], _, _, _ => True
  | v :: vs, n, i, K => (i = (n : Int) → K v) ∧ ixL vs (n + 1) i K
theorem ixL_sound : ∀ {l : List Value} {n : Nat} {i : Int} {K : Value → Prop}, ixL l n i K → (n : Int) ≤ i → i < ((n + l.length : Nat) : Int) → ∃ v, l[i.toNat - n]? = some v ∧ K v
  | [], n, i, K, h, h0, h1 => by simp at h1; omega
  | v :: vs, n, i, K, h, h0, h1 => by
    by_cases e : i = (n : Int)
    · exact ⟨v, by subst e; simp, h.1 e⟩
    · obtain ⟨u, hu, hK⟩ := ixL_sound (n := n + 1) h.2 (by omega) (by simp at h1 ⊢; omega)
      refine ⟨u, ?_, hK⟩
      rw [show i.toNat - n = (i.toNat - (n + 1)) + 1 by omega]
      simpa using hu
def bytesOfInts (xs : List Int) : ByteArray := ⟨(xs.map fun n => UInt8.ofNat n.toNat).toArray⟩

/-- Sums, tests .. of two whole numbers of one kind, that can't fail. -/
def iop : BinOp → IntKind → Int → Int → Option Value
  | .add, k, a, b => some (.int k (k.wrap (a + b)))
  | .sub, k, a, b => some (.int k (k.wrap (a - b)))
  | .mul, k, a, b => some (.int k (k.wrap (a * b)))
  | .and, k, a, b => some (.int k (k.wrap (BitVec.ofInt k.bits a &&& BitVec.ofInt k.bits b).toNat))
  | .or, k, a, b => some (.int k (k.wrap (BitVec.ofInt k.bits a ||| BitVec.ofInt k.bits b).toNat))
  | .xor, k, a, b => some (.int k (k.wrap (BitVec.ofInt k.bits a ^^^ BitVec.ofInt k.bits b).toNat))
  | .andNot, k, a, b => some (.int k (k.wrap (BitVec.ofInt k.bits a &&& ~~~BitVec.ofInt k.bits b).toNat))
  | .eql, _, a, b => some (.bool (a == b))
  | .neq, _, a, b => some (.bool (a != b))
  | .lss, _, a, b => some (.bool (decide (a < b)))
  | .leq, _, a, b => some (.bool (decide (a ≤ b)))
  | .gtr, _, a, b => some (.bool (decide (a > b)))
  | .geq, _, a, b => some (.bool (decide (a ≥ b)))
  | _, _, _, _ => none
def sop : BinOp → ByteArray → ByteArray → Option Value
  | .eql, a, b => some (.bool (a.toList == b.toList))
  | .neq, a, b => some (.bool (!(a.toList == b.toList)))
  | .lss, a, b => some (.bool (Op.bytesLess a.toList b.toList))
  | .leq, a, b => some (.bool (Op.bytesLess a.toList b.toList || a.toList == b.toList))
  | .gtr, a, b => some (.bool (!(Op.bytesLess a.toList b.toList || a.toList == b.toList)))
  | .geq, a, b => some (.bool (!(Op.bytesLess a.toList b.toList)))
  | _, _, _ => none
def isBoolT (P : Program) (t : TypeId) : Bool := match P.underlying t with | some .bool => true | _ => false
def isPtrT (P : Program) (t : TypeId) : Bool := match P.underlying t with | some (.pointer _) => true | _ => false
def isSliceT (P : Program) (t : TypeId) : Bool := match P.underlying t with | some (.slice _) => true | _ => false
def isStrT (P : Program) (t : TypeId) : Bool := match P.underlying t with | some .string => true | _ => false
/-! ### equality of structs -/
def partV (P : Program) (t : TypeId) (cs : List Value) (off : Nat) : Option Value :=
  match aggT P t with
  | some true => match sizeT P t with
    | some n => some (.agg ((cs.drop off).take n).toArray)
    | none => none
  | some false => cs[off]?
  | none => none
theorem partV_sound {P : Program} {t : TypeId} {cs : Array Value} {off : Nat} {v : Value} (h : partV P t cs.toList off = some v) (w : World) : (part t cs off).run P w = .ok v w := by
  unfold partV at h
  split at h
  · rename_i hb
    split at h
    · rename_i n hn
      simp at h; subst h
      simp only [part, Sem.run_bind, run_isAgg hb, Result.andThen_ok, if_true, run_sizeT hn, Sem.run_pure]
      congr 2
      apply Array.ext'
      simp [List.take_drop]
    · simp at h
  · rename_i hb
    rw [Array.getElem?_toList] at h
    simp only [part, Sem.run_bind, run_isAgg hb, Result.andThen_ok, Bool.false_eq_true, if_false, h, Sem.run_pure]
  · simp at h
def eqFs (P : Program) (eq : TypeId → Value → Value → Option Bool) (xs ys : List Value) : List Field → Option Bool
  | [] => some true
  | f :: fs => match decide (f.name = "_") with
    | true => none
    | false => match partV P f.type xs f.offset, partV P f.type ys f.offset with
      | some a, some b => match eq f.type a b, eqFs P eq xs ys fs with
        | some r, some s => some (r && s)
        | _, _ => none
      | _, _ => none
def eqV (P : Program) : Nat → TypeId → Value → Value → Option Bool
  | 0, _, _, _ => none
  | d + 1, t, x, y => match P.underlying t, x, y with
    | some (.int _), .int k a, .int k' b => match decide (k = k') with
      | true => some (a == b)
      | false => none
    | some .bool, .bool a, .bool b => some (a == b)
    | some .string, .string a, .string b => some (a.toList == b.toList)
    | some (.struct fs), .agg xs, .agg ys => match P.stoodInHeld t with
      | true => none
      | false => eqFs P (eqV P d) xs.toList ys.toList fs.toList
    | _, _, _ => none
theorem eqFs_sound {P : Program} {eq : TypeId → Value → Value → Option Bool} {d : Nat} (he : ∀ t x y b, eq t x y = some b → ∀ w : World, (Op.equalIn d t x y).run P w = .ok b w) (xs ys : Array Value) (w : World) :
    ∀ (fs : List Field) (b : Bool), eqFs P eq xs.toList ys.toList fs = some b → (Op.eqFields d xs ys fs).run P w = .ok b w
  | [], b, h => by simp [eqFs] at h; subst h; simp [Op.eqFields]
  | f :: fs, b, h => by
    simp only [eqFs] at h
    split at h
    · simp at h
    · rename_i hn
      have hn' : f.name ≠ "_" := by simpa using hn
      split at h
      · rename_i a c ha hc
        split at h
        · rename_i r s hr hs
          simp at h; subst h
          have ih := eqFs_sound he xs ys w fs s hs
          simp only [Op.eqFields, hn', ne_eq, not_false_eq_true, if_true, Sem.run_bind, partV_sound ha, partV_sound hc, Result.andThen_ok, he _ _ _ _ hr w, Sem.run_ite]
          cases r
          · simp
          · simpa using ih
        · simp at h
      · simp at h
theorem eqV_sound {P : Program} : ∀ (n : Nat) (t : TypeId) (x y : Value) (b : Bool), eqV P n t x y = some b → ∀ (k : Nat) (w : World), (Op.equalIn (n + k) t x y).run P w = .ok b w
  | 0, _, _, _, _, h, _, _ => by simp [eqV] at h
  | n + 1, t, x, y, b, h, k, w => by
    rw [show n + 1 + k = (n + k) + 1 by omega]
    simp only [eqV] at h
    split at h
    · rename_i hu
      split at h
      · rename_i e
        have e := of_decide_eq_true e; subst e
        simp at h; subst h
        exact run_equalIn_int w _ t _ _ _ _ hu
      · simp at h
    · rename_i hu
      simp at h; subst h
      exact run_equalIn_bool' w _ t _ _ hu
    · rename_i hu
      simp at h; subst h
      exact run_equalIn_string w _ t _ _ hu
    · rename_i fs xs ys hu
      split at h
      · simp at h
      · rename_i hs
        have hf : P.fieldsOf t = fs := by unfold Program.fieldsOf; rw [hu]
        rw [run_equalIn_agg w _ t xs ys (by rw [hf]; exact hu) hs, hf]
        exact eqFs_sound (fun t x y b hb w => eqV_sound n t x y b hb k w) xs ys w _ b h
    · simp at h
def dBin (P : Program) (op : BinOp) (t : TypeId) (x y : Value) (K : Value → Prop) : Prop :=
  match x, y with
  | .int k a, .int k' b =>
    match op with
    | .shl => 0 ≤ b ∧ K (.int k (k.wrap (a * 2 ^ min b.toNat k.bits)))
    | .shr => 0 ≤ b ∧ K (.int k (a.fdiv (2 ^ min b.toNat k.bits)))
    | .quo => chk (decide (k = k')) (b ≠ 0 ∧ K (.int k (k.wrap (a.tdiv b))))
    | .rem => chk (decide (k = k')) (b ≠ 0 ∧ K (.int k (a.tmod b)))
    | op => chk (decide (k = k')) (match iop op k a b with | some v => K v | none => False)
  | .string a, .string b =>
    match op with
    | .add => ((a.size + b.size : Nat) : Int) ≤ 9223372036854775807 ∧ K (.string (a ++ b))
    | op => match sop op a b with | some v => K v | none => False
  | .bool a, .bool b =>
    match op with
    | .eql => chk (isBoolT P t) (K (.bool (a == b)))
    | .neq => chk (isBoolT P t) (K (.bool (!(a == b))))
    | _ => False
  | .pointer a, .pointer none =>
    match op with
    | .eql => chk (isPtrT P t) (K (.bool a.isNone))
    | .neq => chk (isPtrT P t) (K (.bool (!a.isNone)))
    | _ => False
  | .slice a _ _, .slice none _ _ =>
    match op with
    | .eql => chk (isSliceT P t) (K (.bool a.isNone))
    | .neq => chk (isSliceT P t) (K (.bool (!a.isNone)))
    | _ => False
  | .agg xs, .agg ys =>
    match op with
    | .eql => chk (!P.eqGuardType P.depth t) (match eqV P 20 t (.agg xs) (.agg ys) with | some b => K (.bool b) | none => False)
    | .neq => chk (!P.eqGuardType P.depth t) (match eqV P 20 t (.agg xs) (.agg ys) with | some b => K (.bool (!b)) | none => False)
    | _ => False
  | _, _ => False
theorem binOp_eql' (t : TypeId) (a b : Bool) : binOp .eql t (.bool a) (.bool b) = (do pure (.bool (← Op.equal t (.bool a) (.bool b)))) := rfl
theorem binOp_neq' (t : TypeId) (a b : Bool) : binOp .neq t (.bool a) (.bool b) = (do pure (.bool (!(← Op.equal t (.bool a) (.bool b))))) := rfl
theorem binOp_eqlP (t : TypeId) (a b : Option Addr) : binOp .eql t (.pointer a) (.pointer b) = (do pure (.bool (← Op.equal t (.pointer a) (.pointer b)))) := rfl
theorem binOp_neqP (t : TypeId) (a b : Option Addr) : binOp .neq t (.pointer a) (.pointer b) = (do pure (.bool (!(← Op.equal t (.pointer a) (.pointer b))))) := rfl
theorem binOp_eqlS (t : TypeId) (a b : Option Addr) (m n c d : Nat) : binOp .eql t (.slice a m n) (.slice b c d) = (do pure (.bool (← Op.equal t (.slice a m n) (.slice b c d)))) := rfl
theorem binOp_neqS (t : TypeId) (a b : Option Addr) (m n c d : Nat) : binOp .neq t (.slice a m n) (.slice b c d) = (do pure (.bool (!(← Op.equal t (.slice a m n) (.slice b c d))))) := rfl
theorem equal_bool {P : Program} {t : TypeId} (hu : P.underlying t = some .bool) (a b : Bool) (w : World) : (Op.equal t (.bool a) (.bool b)).run P w = .ok (a == b) w := by
  show (Op.equalIn (9999 + 1) t (.bool a) (.bool b)).run P w = _
  unfold Op.equalIn
  simp only [Sem.run_bind, run_underlying hu, Result.andThen_ok]; rfl
theorem equal_ptr {P : Program} {t e : TypeId} (hu : P.underlying t = some (.pointer e)) (a : Option Addr) (w : World) : (Op.equal t (.pointer a) (.pointer none)).run P w = .ok a.isNone w := by
  show (Op.equalIn (9999 + 1) t (.pointer a) (.pointer none)).run P w = _
  unfold Op.equalIn
  cases a <;> (simp only [Sem.run_bind, run_underlying hu, Result.andThen_ok]; rfl)
theorem equal_sl {P : Program} {t e : TypeId} (hu : P.underlying t = some (.slice e)) (a : Option Addr) (m n c d : Nat) (w : World) : (Op.equal t (.slice a m n) (.slice none c d)).run P w = .ok a.isNone w := by
  show (Op.equalIn (9999 + 1) t (.slice a m n) (.slice none c d)).run P w = _
  unfold Op.equalIn
  cases a <;> (simp only [Sem.run_bind, run_underlying hu, Result.andThen_ok]; rfl)
theorem dBin_sound {P : Program} {op : BinOp} {t : TypeId} {x y : Value} {K : Value → Prop} (h : dBin P op t x y K) :
    ∃ v, K v ∧ ∀ (ox oy : Operand) (w : World), ((do eqGuard op t ox oy x y; binOp op t x y) : Sem Value).run P w = .ok v w := by
  unfold dBin at h
  split at h
  · rename_i k a k' b
    split at h
    · exact ⟨_, h.2, fun ox oy w => by simp [eqGuard_at_int, binOp, Op.shift, Int.not_lt.2 h.1]⟩
    · exact ⟨_, h.2, fun ox oy w => by simp [eqGuard_at_int, binOp, Op.shift, Int.not_lt.2 h.1]⟩
    · replace h := chk_sound h; obtain ⟨e, hh⟩ := h
      have e := of_decide_eq_true e; subst e
      exact ⟨_, hh.2, fun ox oy w => by simp [eqGuard_at_int, binOp, Op.intDiv, hh.1]⟩
    · replace h := chk_sound h; obtain ⟨e, hh⟩ := h
      have e := of_decide_eq_true e; subst e
      exact ⟨_, hh.2, fun ox oy w => by simp [eqGuard_at_int, binOp, Op.intDiv, hh.1]⟩
    · replace h := chk_sound h; obtain ⟨e, hh⟩ := h
      have e := of_decide_eq_true e; subst e
      split at hh
      · rename_i v hv
        refine ⟨v, hh, fun ox oy w => ?_⟩
        cases op <;> simp [iop] at hv <;> subst hv <;> simp [eqGuard_at_int, binOp, Op.intArith, Op.intBits, Op.intCmp]
      · exact hh.elim
  · rename_i a b
    split at h
    · exact ⟨_, h.2, fun ox oy w => by
        have : ¬ ((a.size + b.size : Nat) : Int) > IntKind.i64.max := by rw [IntKind.max_i64]; omega
        simp only [eqGuard_at_string, binOp, Op.stringOp, Sem.run_bind, Sem.run_pure, Result.andThen_ok, if_neg this]⟩
    · split at h
      · rename_i v hv
        refine ⟨v, h, fun ox oy w => ?_⟩
        cases op <;> simp [sop] at hv <;> subst hv <;> simp [eqGuard_at_string, binOp, Op.stringOp]
      · exact h.elim
  · rename_i a b
    split at h
    · replace h := chk_sound h; obtain ⟨e, hh⟩ := h
      refine ⟨_, hh, fun ox oy w => ?_⟩
      unfold isBoolT at e; split at e <;> simp at e
      rename_i hu
      rw [eqGuard_at_bool]; simp [binOp_eql', binOp_neq', equal_bool hu]
    · replace h := chk_sound h; obtain ⟨e, hh⟩ := h
      refine ⟨_, hh, fun ox oy w => ?_⟩
      unfold isBoolT at e; split at e <;> simp at e
      rename_i hu
      rw [eqGuard_at_bool]; simp [binOp_eql', binOp_neq', equal_bool hu]
    · exact h.elim
  · rename_i a
    split at h
    · replace h := chk_sound h; obtain ⟨e, hh⟩ := h
      refine ⟨_, hh, fun ox oy w => ?_⟩
      unfold isPtrT at e; split at e <;> simp at e
      rename_i hu
      rw [eqGuard_at_pointer]; simp [binOp_eqlP, binOp_neqP, equal_ptr hu]
    · replace h := chk_sound h; obtain ⟨e, hh⟩ := h
      refine ⟨_, hh, fun ox oy w => ?_⟩
      unfold isPtrT at e; split at e <;> simp at e
      rename_i hu
      rw [eqGuard_at_pointer]; simp [binOp_eqlP, binOp_neqP, equal_ptr hu]
    · exact h.elim
  · rename_i a _ _ _ _
    split at h
    · replace h := chk_sound h; obtain ⟨e, hh⟩ := h
      refine ⟨_, hh, fun ox oy w => ?_⟩
      unfold isSliceT at e; split at e <;> simp at e
      rename_i hu
      rw [eqGuard_at_slice]; simp [binOp_eqlS, binOp_neqS, equal_sl hu]
    · replace h := chk_sound h; obtain ⟨e, hh⟩ := h
      refine ⟨_, hh, fun ox oy w => ?_⟩
      unfold isSliceT at e; split at e <;> simp at e
      rename_i hu
      rw [eqGuard_at_slice]; simp [binOp_eqlS, binOp_neqS, equal_sl hu]
    · exact h.elim
  · rename_i xs ys
    split at h
    · replace h := chk_sound h; obtain ⟨e, hh⟩ := h
      split at hh
      · rename_i b hb
        refine ⟨_, hh, fun ox oy w => ?_⟩
        have h1 := eqV_sound 20 t _ _ b hb 9980 w
        simp only [Sem.run_bind, run_eqGuard_agg w _ t ox oy xs ys (by simpa using e), Result.andThen_ok, run_eql_struct, h1]
      · exact hh.elim
    · replace h := chk_sound h; obtain ⟨e, hh⟩ := h
      split at hh
      · rename_i b hb
        refine ⟨_, hh, fun ox oy w => ?_⟩
        have h1 := eqV_sound 20 t _ _ b hb 9980 w
        simp only [Sem.run_bind, run_eqGuard_agg w _ t ox oy xs ys (by simpa using e), Result.andThen_ok, run_neq_struct, h1]
      · exact hh.elim
    · exact h.elim
  · exact h.elim
end Go.Proofs.Ytompmkmbppcadaa.V
