/-
  A VIEW OF THE MACHINE AS A PREDICATE TRANSFORMER OVER THE HEAP. Part 7: one operation whichever: 'dOp'; a region in the text's order.
-/
import Derived.Test.YtompmkmbppcadaaV6
namespace Go.Proofs.Ytompmkmbppcadaa.V
open Go Go.RowKit
set_option linter.unusedVariables false
set_option linter.unusedSimpArgs false

/-- What is known of the calls: a formula for each function. -/
abbrev Fns := FuncId → List Value → Heap → (Value → Heap → Prop) → Prop
def okFn (P : Program) (f : FuncId) : Bool := match P.funcs[f]? with
  | some fn => !(fn.name == "runtime.NumGoroutine") && fn.body.isSome
  | none => false
/-- The formulas are right. -/
def Right (P : Program) (Φ : Fns) : Prop := ∀ f vs h K, Φ f vs h K → okFn P f = true ∧
  ∀ w : World, w.heap = h → Calls P f vs.toArray w fun e w' => ∃ v, e = .returned v ∧ K v w'.heap ∧ Same w w'
def dE (P : Program) (Φ : Fns) (o : Oper) (env : Env) (h : Heap) (K : Value → Heap → Prop) : Prop :=
  match o.op with
  | .alloc t => dAlloc P t h K
  | .box t x => ev1 env x fun v => dBox t v h K
  | .buildSlice t n ps => evP env ps.toList fun ps => dBuildSlice P t n ps h K
  | .store t a x => ev1 env a fun a => ev1 env x fun v => dStore P t a v h fun h => K undef h
  | .makeSlice t l c => ev1 env l fun l => ev1 env c fun c => dMake P t l c h K
  | .convert s d x => ev1 env x fun v => dConvE P s d v h K
  | .call c => match c.callee with
    | .builtin .append => match c.argTypes.toList, c.args.toList with
      | [t, u], [x, y] => ev1 env x fun x => ev1 env y fun y => dAppend P t u x y h K
      | _, _ => False
    | .builtin .copy => match c.argTypes.toList, c.args.toList with
      | [t, u], [x, y] => ev1 env x fun x => ev1 env y fun y => dCopy P t x y h K
      | _, _ => False
    | .builtin .clear => match c.argTypes.toList, c.args.toList with
      | [t], [x] => ev1 env x fun x => dClear P t x h K
      | _, _ => False
    | .value (.func f) => evs env c.args.toList fun vs => Φ f vs h K
    | _ => False
  | _ => False
/-- An operation comes to one of the ends that the formula tells of. -/
def ESt (P : Program) (o : Oper) (a : Act) (w : World) (K : Value → Heap → Prop) : Prop :=
  ∀ next Q, (∀ v w', K v w'.heap → Same w w' → next (a.put o.dst v) w') → o.wp P a w next Q
theorem ESt_value {P : Program} {o : Oper} {a : Act} {w w' : World} {K : Value → Heap → Prop} {v : Value}
    (h : (execOp a.eval o).run P w = .ok (.value v) w') (hK : K v w'.heap) (hs : Same w w') : ESt P o a w K := by
  intro next Q hn
  unfold Oper.wp
  rw [h]
  exact hn v w' hK hs
theorem ESt_skip {P : Program} {o : Oper} {a : Act} {w w' : World} {K : Value → Heap → Prop}
    (h : (execOp a.eval o).run P w = .ok .skip w') (hK : K undef w'.heap) (hs : Same w w') : ESt P o a w K := by
  intro next Q hn
  unfold Oper.wp
  rw [h]
  exact hn _ w' hK hs
theorem dE_sound {P : Program} {Φ : Fns} (hΦ : Right P Φ) {o : Oper} {env : Env} {K : Value → Heap → Prop} {a : Act} {w : World}
    (hh : dE P Φ o env w.heap K) (ha : AgrOn (· ∈ slots o.op) env a) : ESt P o a w K := by
  unfold dE at hh
  split at hh
  · rename_i t ho
    replace hh := on_sound hh; obtain ⟨z, hz, hh⟩ := hh
    replace hh := forceL_sound hh
    refine ESt_value (w' := { w with heap := w.heap.push (.cells z.cells t) }) ?_ hh ⟨rfl, rfl, rfl⟩
    simp only [execOp, ho, Instr.alloc, newVar, Sem.run_bind, run_zeroT hz, Result.andThen_ok, run_new, Sem.run_pure]
  · rename_i t x ho
    replace hh := ev1_sound hh; obtain ⟨v, hv, hh⟩ := hh
    replace hh := forceL_sound hh
    rw [ho] at ha
    refine ESt_value (w' := { w with heap := w.heap.push (.cells v.cells t) }) ?_ hh ⟨rfl, rfl, rfl⟩
    simp only [execOp, ho, Instr.box, newVar, ev_at ha (x := x) (by simp [Op.operands]) hv, Sem.run_bind, Result.andThen_ok, run_new, Sem.run_pure]
  · rename_i t n ps ho
    replace hh := evP_sound hh; obtain ⟨vs, hh, he⟩ := hh
    unfold dBuildSlice at hh
    replace hh := on_sound hh; obtain ⟨e, hel, hh⟩ := hh
    replace hh := on_sound hh; obtain ⟨size, hsz, hh⟩ := hh
    replace hh := on_sound hh; obtain ⟨z, hz, hh⟩ := hh
    replace hh := chk_sound hh; obtain ⟨hb, hh⟩ := hh
    rw [Bool.and_eq_true, Bool.and_eq_true] at hb
    have hb1 := Nat.le_of_ble_eq_true hb.1.1
    have hb2 := Nat.eq_of_beq_eq_true hb.1.2
    have hb3 : 0 < size := Nat.le_of_ble_eq_true hb.2
    rw [Array.length_toList] at hb2
    subst hb2
    obtain ⟨cells, hc, hh⟩ := fillC_sound hh
    rw [← rep_eq z.cells hb3] at hc
    rw [ho] at ha
    have e1 := he a (fun y hy u hu => ev_at ha (x := y) (by simpa [Op.operands] using hy) hu)
    have e2 : (ps.map fun (i, x) => (i, a.eval x)).toList = vs := by rw [Array.toList_map]; exact e1
    refine ESt_value (w' := { w with heap := w.heap.push (.cells cells e) }) ?_ hh ⟨rfl, rfl, rfl⟩
    have hsm : ¬ (2 ^ 24 < n * z.cells.size) := by omega
    simp only [execOp, ho, Instr.buildSlice, Sem.run_bind, run_underlying (elemT_sound hel), Result.andThen_ok, run_sizeT hsz, Sem.run_pure, Sem.run_ite]
    rw [if_neg hsm]
    by_cases hz0 : n * z.cells.size = 0
    · have hn0 : n = 0 := by rcases Nat.mul_eq_zero.1 hz0 with h | h; exact h; omega
      subst hn0
      simp only [Sem.run_bind, Sem.run_pure, Result.andThen_ok, Sem.run_ite, if_pos hz0, e2]
      have hc' : Instr.fill (fun k => some (k * z.cells.size, z.cells.size)) ((Array.range (0 * z.cells.size)).map (#[][· % (#[] : Array Value).size]!)) vs = some cells := by
        rw [← hc]; congr 1; rw [hz0]; simp [Array.range]
      simp only [hc', Sem.run_bind, run_new, Result.andThen_ok, Sem.run_pure]
    · simp only [Sem.run_bind, Sem.run_pure, Result.andThen_ok, Sem.run_ite, if_neg hz0, run_zeroT hz, e2, hc, run_new]
  · rename_i t x y ho
    replace hh := ev1_sound hh; obtain ⟨v, hv, hh⟩ := hh
    replace hh := ev1_sound hh; obtain ⟨u, hu, hh⟩ := hh
    obtain ⟨w', hr, hK, hs⟩ := dStore_sound hh
    rw [ho] at ha
    refine ESt_skip ?_ hK hs
    simp only [execOp, ho, ev_at ha (x := x) (by simp [Op.operands]) hv, ev_at ha (x := y) (by simp [Op.operands]) hu, Sem.run_bind, hr, Result.andThen_ok, Sem.run_pure]
  · rename_i t x y ho
    replace hh := ev1_sound hh; obtain ⟨v, hv, hh⟩ := hh
    replace hh := ev1_sound hh; obtain ⟨u, hu, hh⟩ := hh
    obtain ⟨r, w', hr, hK, hs⟩ := dMake_sound hh
    rw [ho] at ha
    refine ESt_value ?_ hK hs
    simp only [execOp, ho, ev_at ha (x := x) (by simp [Op.operands]) hv, ev_at ha (x := y) (by simp [Op.operands]) hu, Sem.run_bind, hr, Result.andThen_ok, Sem.run_pure]
  · rename_i s d x ho
    replace hh := ev1_sound hh; obtain ⟨v, hv, hh⟩ := hh
    obtain ⟨r, w', hr, hK, hs⟩ := dConvE_sound hh
    rw [ho] at ha
    refine ESt_value ?_ hK hs
    simp only [execOp, ho, ev_at ha (x := x) (by simp [Op.operands]) hv, Sem.run_bind, hr, Result.andThen_ok, Sem.run_pure]
  · rename_i c ho
    rw [ho] at ha
    split at hh
    · rename_i hb
      split at hh
      · rename_i t u x y ht hx
        replace hh := ev1_sound hh; obtain ⟨v, hv, hh⟩ := hh
        replace hh := ev1_sound hh; obtain ⟨u', hu, hh⟩ := hh
        obtain ⟨r, w', hr, hK, hs⟩ := dAppend_sound (ty := o.type) hh
        have ets : c.argTypes = #[t, u] := by rw [← Array.toList_inj]; exact ht
        have eas : c.args = #[x, y] := by rw [← Array.toList_inj]; exact hx
        refine ESt_value ?_ hK hs
        simp only [execOp, ho, resolve, hb, ets, eas, Array.map, invoke, builtin]
        simp [ev_at ha (x := x) (by simp [Op.operands, Call.operands, hb, eas]) hv, ev_at ha (x := y) (by simp [Op.operands, Call.operands, hb, eas]) hu, hr]
      · exact hh.elim
    · rename_i hb
      split at hh
      · rename_i t u x y ht hx
        replace hh := ev1_sound hh; obtain ⟨v, hv, hh⟩ := hh
        replace hh := ev1_sound hh; obtain ⟨u', hu, hh⟩ := hh
        obtain ⟨r, w', hr, hK, hs⟩ := dCopy_sound (u := u) (ty := o.type) hh
        have ets : c.argTypes = #[t, u] := by rw [← Array.toList_inj]; exact ht
        have eas : c.args = #[x, y] := by rw [← Array.toList_inj]; exact hx
        refine ESt_value ?_ hK hs
        simp only [execOp, ho, resolve, hb, ets, eas, Array.map, invoke, builtin]
        simp [ev_at ha (x := x) (by simp [Op.operands, Call.operands, hb, eas]) hv, ev_at ha (x := y) (by simp [Op.operands, Call.operands, hb, eas]) hu, hr]
      · exact hh.elim
    · rename_i hb
      split at hh
      · rename_i t x ht hx
        replace hh := ev1_sound hh; obtain ⟨v, hv, hh⟩ := hh
        have ets : c.argTypes = #[t] := by rw [← Array.toList_inj]; exact ht
        have eas : c.args = #[x] := by rw [← Array.toList_inj]; exact hx
        unfold dClear at hh
        replace hh := on_sound hh; obtain ⟨e, hel, hh⟩ := hh
        replace hh := on_sound hh; obtain ⟨z, hz, hh⟩ := hh
        replace hh := vSl_sound hh; obtain ⟨p, n, cp, rfl, hh⟩ := hh
        have hx' := ev_at ha (x := x) (by simp [Op.operands, Call.operands, hb, eas]) hv
        obtain ⟨hz0, hz1⟩ := hh
        by_cases hn : n = 0
        · subst hn
          refine ESt_value (w' := w) ?_ (hz0 rfl) (Same.refl _)
          simp only [execOp, ho, resolve, hb, ets, eas, Array.map, invoke, builtin]
          cases p <;> simp [hx', Builtin.clear_, run_underlying (elemT_sound hel)]
        · have hst := hz1 hn
          obtain ⟨n, rfl⟩ : ∃ m, n = m + 1 := ⟨n - 1, by omega⟩
          cases p with
          | none =>
            refine ESt_value (w' := w) ?_ hst (Same.refl _)
            simp only [execOp, ho, resolve, hb, ets, eas, Array.map, invoke, builtin]
            simp [hx', Builtin.clear_, run_underlying (elemT_sound hel)]
          | some ad =>
            obtain ⟨w', hr, hK, hS, _⟩ := st_sound0 (P := P) hst
            refine ESt_value ?_ hK hS
            simp only [execOp, ho, resolve, hb, ets, eas, Array.map, invoke, builtin]
            simp [hx', Builtin.clear_, run_underlying (elemT_sound hel), run_zeroT hz, hr]
      · exact hh.elim
    · rename_i f hb
      replace hh := evs_sound hh; obtain ⟨vs, hh, he⟩ := hh
      obtain ⟨hok, hc⟩ := hΦ _ _ _ _ hh
      have e := he a (fun y hy u hu => ev_at ha (x := y) (by simp [Op.operands, Call.operands, hb]; exact .inr (by simpa using hy)) hu)
      have e2 : c.args.map a.eval = vs.toArray := by apply Array.ext'; rw [Array.toList_map, e]
      unfold okFn at hok
      split at hok
      · rename_i fn hfn
        rw [Bool.and_eq_true, Bool.not_eq_true'] at hok
        intro next Q hn
        unfold Oper.wp
        have hr : (execOp a.eval o).run P w = .ok (.enter f vs.toArray) w := by
          simp only [execOp, ho, resolve, hb, e2, Deferred.ofValue, Act.eval, Sem.run_bind, Sem.run_pure, Result.andThen_ok, invoke, callFunc, run_program, hfn]
          have hbn : fn.body.isNone = false := by rw [← Bool.not_eq_true, Option.isNone_iff_eq_none]; intro hn; simp [hn] at hok
          simp [hok.1, hbn]
        rw [hr]
        refine (hc w rfl).mono ?_
        rintro e w' ⟨v, rfl, hK, hs⟩
        exact hn v w' hK hs
      · simp at hok
    · exact hh.elim
  · exact hh.elim
end Go.Proofs.Ytompmkmbppcadaa.V
