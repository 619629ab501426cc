/-
  A VIEW OF THE MACHINE AS A PREDICATE TRANSFORMER OVER THE HEAP. Part 8: regions in the text's order, and all the code round them: 'den'.
-/
import Derived.Test.YtompmkmbppcadaaV7
import Derived.LoopN
namespace Go.Proofs.Ytompmkmbppcadaa.V
open Go Go.RowKit
set_option linter.unusedVariables false
set_option linter.unusedSimpArgs false

/-! ### frames -/
def Agr (env : Env) (a : Act) : Prop := ∀ t u, lk env t = some u → a.tmps[t]? = some u
structure Fits (n : Nat) (W : List Nat) (a0 : Act) (w0 : World) (env : Env) (a : Act) (w : World) : Prop where
  agr : Agr env a
  size : a.tmps.size = n
  def_ : a.defers = a0.defers
  off : ∀ t, t ∉ W → a.tmps[t]? = a0.tmps[t]?
  same : Same w0 w
def putE (dst : Option Nat) (v : Value) (env : Env) : Env := match dst with
  | some d => (d, v) :: env
  | none => env
def dstOk (n : Nat) (dst : Option Nat) : Bool := match dst with
  | some d => Nat.blt d n
  | none => true
theorem blt_lt {a b : Nat} (h : Nat.blt a b = true) : a < b := Nat.le_of_ble_eq_true h
theorem lk_cons (i : Nat) (v : Value) (r : Env) (j : Nat) : lk ((i, v) :: r) j = if i = j then some v else lk r j := by
  show (match Nat.beq i j with | true => some v | false => lk r j) = _
  by_cases h : i = j
  · subst h; simp [Nat.beq_refl]
  · have : Nat.beq i j = false := by rw [← Bool.not_eq_true, Nat.beq_eq]; exact h
    rw [this, if_neg h]
theorem Agr.put {env : Env} {a : Act} {n : Nat} (h : Agr env a) (hn : a.tmps.size = n) {dst : Option Nat} (hd : dstOk n dst = true) (v : Value) : Agr (putE dst v env) (a.put dst v) := by
  cases dst with
  | none => exact h
  | some d =>
    have hlt := blt_lt hd
    intro t u hu
    simp only [putE, lk_cons] at hu
    simp only [Act.put, Array.getElem?_setIfInBounds]
    by_cases e : d = t
    · subst e; rw [if_pos rfl] at hu; rw [if_pos rfl, if_pos (by omega)]; exact hu
    · rw [if_neg e] at hu; rw [if_neg e]; exact h t u hu
theorem Fits.put {n : Nat} {W : List Nat} {a0 a : Act} {w0 w w' : World} {env : Env} (h : Fits n W a0 w0 env a w) {dst : Option Nat} (hd : dstOk n dst = true) (hW : ∀ d, dst = some d → d ∈ W)
    (hs : Same w w') (v : Value) : Fits n W a0 w0 (putE dst v env) (a.put dst v) w' := by
  refine ⟨h.agr.put h.size hd v, ?_, ?_, ?_, h.same.trans hs⟩
  · cases dst <;> simp [Act.put, h.size]
  · cases dst <;> exact h.def_
  · intro t ht
    cases dst with
    | none => exact h.off t ht
    | some d =>
      have : d ≠ t := fun e => ht (e ▸ hW d rfl)
      simp only [Act.put, Array.getElem?_setIfInBounds, if_neg this]
      exact h.off t ht
theorem Agr.on {env : Env} {a : Act} (h : Agr env a) (S : Nat → Prop) : AgrOn S env a := fun t _ u hu => h t u hu
/-- What is known is forgotten but for these. -/
def restr : List Nat → Env → Env
  | [], _ => []
  | i :: M, env => match lk env i with
    | some v => (i, v) :: restr M env
    | none => restr M env
theorem restr_lk : ∀ {M : List Nat} {env : Env} {t : Nat} {u : Value}, lk (restr M env) t = some u → t ∈ M ∧ lk env t = some u
  | [], env, t, u, h => by simp [restr, lk] at h
  | i :: M, env, t, u, h => by
    simp only [restr] at h
    split at h
    · rename_i v hv
      rw [lk_cons] at h
      by_cases e : i = t
      · subst e; rw [if_pos rfl] at h; simp at h; subst h; exact ⟨by simp, hv⟩
      · rw [if_neg e] at h; have := restr_lk h; exact ⟨by simp [this.1], this.2⟩
    · have := restr_lk h; exact ⟨by simp [this.1], this.2⟩
def forceE : Env → (Env → Prop) → Prop
  | [], K => K []
  | p :: r, K => forceE r fun r' => K (p :: r')
theorem forceE_sound : ∀ {l : Env} {K : Env → Prop}, forceE l K → K l
  | [], _, h => h
  | v :: vs, K, h => forceE_sound (l := vs) (K := fun us => K (v :: us)) h
/-- None of the first in the second. -/
def disj (M W : List Nat) : Bool := M.all fun i => !W.any (Nat.beq i)
theorem disj_sound {M W : List Nat} (h : disj M W = true) : ∀ t ∈ M, t ∉ W := by
  intro t ht hw
  unfold disj at h
  rw [List.all_eq_true] at h
  have := h t ht
  rw [Bool.not_eq_true', ← Bool.not_eq_true] at this
  exact this (List.any_eq_true.2 ⟨t, hw, Nat.beq_refl t⟩)

/-! ### regions in the text's order -/
def quietB (P : Program) (o : Oper) : Bool :=
  match o.op with
  | .move _ | .assign _ | .pick .. | .build .. | .load .. | .nilCheck _ | .binOp .. | .unOp .. | .slice .. | .fieldAddr .. | .field .. | .indexAddr .. | .index .. | .extract .. => true
  | .convert s d _ => match P.underlying s, P.underlying d with
    | some .string, some (.slice _) => false
    | some (.slice _), some (.slice _) => false
    | _, _ => true
  | .call c => match c.callee with
    | .builtin .len | .builtin .cap | .builtin .max | .builtin .min => true
    | _ => false
  | _ => false
def dOp (P : Program) (Φ : Fns) (o : Oper) (env : Env) (h : Heap) (K : Value → Heap → Prop) : Prop :=
  match quietB P o with
  | true => dQ P o env h fun v => K v h
  | false => dE P Φ o env h K
theorem dOp_sound {P : Program} {Φ : Fns} (hΦ : Right P Φ) {o : Oper} {env : Env} {K : Value → Heap → Prop} {a : Act} {w : World}
    (hh : dOp P Φ o env w.heap K) (ha : AgrOn (· ∈ slots o.op) env a) : ESt P o a w K := by
  unfold dOp at hh
  split at hh
  · obtain ⟨v, hK, hC, hr⟩ := dQ_sound hh
    exact ESt_value (hr a w ha hC) hK (Same.refl _)
  · exact dE_sound hΦ hh ha
def dstOf (ops : Array Oper) (j : Nat) : Option Nat := (ops[j]?).bind (·.dst)
def dRun (P : Program) (Φ : Fns) (o : Oper) (env : Env) (h : Heap) (K : Env → Heap → Prop) : Prop := dOp P Φ o env h fun v h => K (putE o.dst v env) h
/-- The value of a guard: a bool, or none, where the guard's own operation was not run. -/
def vGuard (v : Value) (K : Bool → Prop) (S : Prop) : Prop := match v with
  | .bool b => K b
  | .tuple _ => S
  | _ => False
theorem vGuard_sound {v : Value} {K : Bool → Prop} {S : Prop} (h : vGuard v K S) : (∃ b, v = .bool b ∧ K b) ∨ ((∃ vs, v = .tuple vs) ∧ S) := by
  cases v <;> first | exact h.elim | exact .inl ⟨_, rfl, h⟩ | exact .inr ⟨⟨_, rfl⟩, h⟩
/-- An operation under its guard. -/
def dStep (P : Program) (Φ : Fns) (ops : Array Oper) (o : Oper) (env : Env) (h : Heap) (K : Env → Heap → Prop) : Prop :=
  match o.guard with
  | none => dRun P Φ o env h K
  | some (j, want) => on (dstOf ops j) fun t => on (lk env t) fun v => vGuard v (fun b =>
    brr b (match want with
      | true => dRun P Φ o ((t, .bool true) :: env) h K
      | false => K (putE o.dst undef ((t, .bool true) :: env)) h)
    (match want with
      | true => K (putE o.dst undef ((t, .bool false) :: env)) h
      | false => dRun P Φ o ((t, .bool false) :: env) h K))
    (K (putE o.dst undef env) h)
def dOps (P : Program) (Φ : Fns) (n : Nat) (ops : Array Oper) : List Oper → Env → Heap → (Env → Heap → Prop) → Prop
  | [], env, h, K => K env h
  | o :: os, env, h, K => chk (dstOk n o.dst) (dStep P Φ ops o env h fun env h => dOps P Φ n ops os env h K)
theorem brr_sound {b : Bool} {A B : Prop} (h : brr b A B) : (b = true ∧ A) ∨ (b = false ∧ B) := by cases b; exact .inr ⟨rfl, h⟩; exact .inl ⟨rfl, h⟩
theorem Agr.lit {env : Env} {a : Act} (h : Agr env a) {t : Nat} {v : Value} (hv : lk env t = some v) : Agr ((t, v) :: env) a := by
  intro s u hu
  rw [lk_cons] at hu
  by_cases e : t = s
  · subst e; rw [if_pos rfl] at hu; simp at hu; subst hu; exact h _ _ hv
  · rw [if_neg e] at hu; exact h s u hu
theorem Fits.lit {n : Nat} {W : List Nat} {a0 a : Act} {w0 w : World} {env : Env} (h : Fits n W a0 w0 env a w) {t : Nat} {v : Value} (hv : lk env t = some v) : Fits n W a0 w0 ((t, v) :: env) a w :=
  ⟨h.agr.lit hv, h.size, h.def_, h.off, h.same⟩
section
variable {P : Program} {Φ : Fns} (hΦ : Right P Φ) {n : Nat} {W : List Nat} {a0 : Act} {w0 : World} {ops : Array Oper} {Q : Exit → Act → World → Prop}
theorem dRun_sound {o : Oper} {env : Env} {K : Env → Heap → Prop} {a : Act} {w : World} {next : Act → World → Prop} (hΦ : Right P Φ)
    (hf : Fits n W a0 w0 env a w) (hd : dstOk n o.dst = true) (hW : ∀ d, o.dst = some d → d ∈ W) (hh : dRun P Φ o env w.heap K)
    (hn : ∀ env' a' w', Fits n W a0 w0 env' a' w' → K env' w'.heap → next a' w') : o.wp P a w next Q := by
  exact dOp_sound hΦ hh (hf.agr.on _) next Q fun v w' hK hs => hn _ _ _ (hf.put hd hW hs v) hK
theorem wanted_none {o : Oper} {a : Act} (hg : o.guard = none) : Region.wanted o (yielded ops a.tmps) = true := by simp [Region.wanted, hg]
theorem wanted_some {o : Oper} {a : Act} {j t : Nat} {want b : Bool} (hg : o.guard = some (j, want)) (ht : dstOf ops j = some t) (hv : a.tmps[t]? = some (.bool b)) :
    Region.wanted o (yielded ops a.tmps) = (b == want) := by
  unfold dstOf at ht
  simp only [Region.wanted, hg, yielded, ht, Option.bind_some, hv]
  cases b <;> cases want <;> rfl
theorem wanted_undef {o : Oper} {a : Act} {j t : Nat} {want : Bool} {vs : Array Value} (hg : o.guard = some (j, want)) (ht : dstOf ops j = some t) (hv : a.tmps[t]? = some (.tuple vs)) :
    Region.wanted o (yielded ops a.tmps) = false := by
  unfold dstOf at ht
  simp only [Region.wanted, hg, yielded, ht, Option.bind_some, hv]
  cases want <;> rfl
theorem dStep_sound {i : Nat} {o : Oper} {env : Env} {K : Env → Heap → Prop} {a : Act} {w : World} {next : Act → World → Prop} (hΦ : Right P Φ) (ho : ops[i]? = some o)
    (hf : Fits n W a0 w0 env a w) (hd : dstOk n o.dst = true) (hW : ∀ d, o.dst = some d → d ∈ W) (hh : dStep P Φ ops o env w.heap K)
    (hn : ∀ env' a' w', Fits n W a0 w0 env' a' w' → K env' w'.heap → next a' w') : wpOp P ops Q i next a w := by
  unfold wpOp
  simp only [ho]
  unfold dStep at hh
  split at hh
  · rename_i hg
    rw [if_pos (wanted_none hg)]
    exact .inl (dRun_sound hΦ hf hd hW hh hn)
  · rename_i j want hg
    replace hh := on_sound hh; obtain ⟨t, ht, hh⟩ := hh
    replace hh := on_sound hh; obtain ⟨v, hv, hh⟩ := hh
    rcases vGuard_sound hh with ⟨b, rfl, hh⟩ | ⟨⟨vs, rfl⟩, hh⟩
    rotate_left
    · rw [wanted_undef hg ht (hf.agr t _ hv)]
      exact hn _ _ _ (hf.put hd hW (Same.refl _) undef) hh
    rw [wanted_some hg ht (hf.agr t _ hv)]
    rcases brr_sound hh with ⟨rfl, hh⟩ | ⟨rfl, hh⟩
    · cases want with
      | true => exact .inl (dRun_sound hΦ (hf.lit hv) hd hW hh hn)
      | false => exact hn _ _ _ ((hf.lit hv).put hd hW (Same.refl _) undef) hh
    · cases want with
      | true => exact hn _ _ _ ((hf.lit hv).put hd hW (Same.refl _) undef) hh
      | false => exact .inl (dRun_sound hΦ (hf.lit hv) hd hW hh hn)
def dsts (ops : List Oper) : List Nat := ops.filterMap (·.dst)
theorem dOps_sound (hΦ : Right P Φ) (hW : ∀ d ∈ dsts ops.toList, d ∈ W) : ∀ (os pre : List Oper) (env : Env) (K : Env → Heap → Prop) (a : Act) (w : World), ops.toList = pre ++ os → Fits n W a0 w0 env a w →
    dOps P Φ n ops os env w.heap K → (∀ env' a' w', Fits n W a0 w0 env' a' w' → K env' w'.heap → Q .normal a' w') → wpOps P ops Q (List.range' pre.length os.length) a w
  | [], pre, env, K, a, w, _, hf, hh, hn => hn _ _ _ hf hh
  | o :: os, pre, env, K, a, w, he, hf, hh, hn => by
    rw [List.length_cons, List.range'_succ, wpOps_cons]
    replace hh := chk_sound hh; obtain ⟨hd, hh⟩ := hh
    have ho : ops[pre.length]? = some o := by rw [← Array.getElem?_toList, he]; simp
    refine dStep_sound hΦ ho hf hd (fun d e => hW d ?_) hh fun env' a' w' hf' hK => ?_
    · unfold dsts; rw [List.mem_filterMap]; exact ⟨o, by rw [he]; simp, e⟩
    · have := dOps_sound hΦ hW os (pre ++ [o]) env' K a' w' (by simp [he]) hf' hK hn
      simpa using this
end
end Go.Proofs.Ytompmkmbppcadaa.V
