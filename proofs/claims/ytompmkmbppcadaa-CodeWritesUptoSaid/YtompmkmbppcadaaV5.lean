/-
  A VIEW OF THE MACHINE AS A PREDICATE TRANSFORMER OVER THE HEAP. Part 5: one operation: 'dQ' (it changes nothing), 'dE' (it changes the heap).
-/
import Derived.Test.YtompmkmbppcadaaV4
import Derived.Laws.Append
namespace Go.Proofs.Ytompmkmbppcadaa.V
open Go Go.RowKit
set_option linter.unusedVariables false
set_option linter.unusedSimpArgs false

def slots (o : Op) : List Nat := o.operands.toList.filterMap fun | .tmp t => some t | _ => none
theorem mem_slots {o : Op} {t : Nat} (h : Operand.tmp t ∈ o.operands.toList) : t ∈ slots o := by
  unfold slots; rw [List.mem_filterMap]; exact ⟨_, h, rfl⟩
theorem ev_at {o : Op} {env : Env} {a : Act} (ha : AgrOn (· ∈ slots o) env a) {x : Operand} (hx : x ∈ o.operands.toList) {v : Value} (h : ev env x = some v) : a.eval x = v :=
  ev_sound h (fun t e => by subst e; exact mem_slots hx) ha
def dLoad (P : Program) (t : TypeId) (v : Value) (h : Heap) (K : Value → Prop) : Prop :=
  vAddr v fun a => on (aggT P t) fun b => on (leaves P 20 t) fun ks => match b with
    | true => chk (match sizeT P t with | some n => Nat.beq n ks.length | none => false) (ld ks a h (lam ks fun vs => K (.agg vs.toArray)))
    | false => match ks with
      | [k] => ld [k] a h fun x => K (k.enc x)
      | _ => False
theorem dLoad_sound {P : Program} {t : TypeId} {v : Value} {h : Heap} {K : Value → Prop} (hh : dLoad P t v h K) :
    ∃ a cs u, v = .pointer (some a) ∧ cellsAre h a cs ∧ K u ∧ u.cells.toList = cs ∧ ∀ w : World, cellsAre w.heap a cs → (Instr.loadAt t v).run P w = .ok u w := by
  unfold dLoad at hh
  replace hh := vAddr_sound hh; obtain ⟨a, rfl, hh⟩ := hh
  replace hh := on_sound hh; obtain ⟨b, hb, hh⟩ := hh
  replace hh := on_sound hh; obtain ⟨ks, hks, hh⟩ := hh
  cases b with
  | true =>
    dsimp only at hh
    replace hh := chk_sound hh; obtain ⟨hs, hh⟩ := hh
    split at hs <;> simp at hs
    rename_i n hn
    replace hh := ld_sound (K := fun vs => K (.agg vs.toArray)) hh; obtain ⟨vs, hl, hc, _, hK⟩ := hh
    refine ⟨a, vs, _, rfl, hc, hK, rfl, fun w hw => ?_⟩
    have hn' : sizeT P t = some vs.length := by rw [hn, hl, hs]
    simp only [Instr.loadAt, Instr.sureAddr, loadVar, Sem.run_bind, Sem.run_pure, Result.andThen_ok, run_isAgg hb, if_true, run_sizeT hn', run_loadCells_are hw]
  | false =>
    dsimp only at hh
    split at hh
    · obtain ⟨x, hc, hK⟩ := hh
      refine ⟨a, [_], _, rfl, ⟨hc, trivial⟩, hK, by rename_i k; cases k <;> rfl, fun w hw => ?_⟩
      have h1 : w.cell? a = some _ := hw.1
      simp only [Instr.loadAt, Instr.sureAddr, loadVar, Sem.run_bind, Sem.run_pure, Result.andThen_ok, run_isAgg hb, Bool.false_eq_true, if_false, run_load, h1]
    · exact hh.elim
def dFieldAddr (P : Program) (t : TypeId) (v : Value) (f : Nat) (K : Value → Prop) : Prop :=
  on (structT P t) fun fs => on fs.toList[f]? fun fl => on (sizeT P fl.type) fun n => match n with
    | 0 => False
    | _ + 1 => vAddr v fun a => K (.pointer (some (a.add fl.offset)))
theorem dFieldAddr_sound {P : Program} {t : TypeId} {v : Value} {f : Nat} {K : Value → Prop} (h : dFieldAddr P t v f K) :
    ∃ u, K u ∧ ∀ w : World, (Instr.fieldAt t v f).run P w = .ok u w := by
  unfold dFieldAddr at h
  replace h := on_sound h; obtain ⟨fs, hfs, h⟩ := h
  replace h := on_sound h; obtain ⟨fl, hfl, h⟩ := h
  replace h := on_sound h; obtain ⟨n, hn, h⟩ := h
  rw [Array.getElem?_toList] at hfl
  split at h
  · exact h.elim
  · replace h := vAddr_sound h; obtain ⟨a, rfl, h⟩ := h
    exact ⟨_, h, fun w => by simp [Instr.fieldAt, run_underlying (structT_sound hfs), hfl, Instr.sureAddr, fieldPlace, run_sizeT hn]⟩
def dField (P : Program) (t : TypeId) (v : Value) (f : Nat) (K : Value → Prop) : Prop :=
  on (structT P t) fun fs => on fs.toList[f]? fun fl => vAgg v fun cs => dPart P fl.type cs.toList fl.offset K
theorem dField_sound {P : Program} {t : TypeId} {v : Value} {f : Nat} {K : Value → Prop} (h : dField P t v f K) :
    ∃ u, K u ∧ ∀ w : World, (Instr.field t v f).run P w = .ok u w := by
  unfold dField at h
  replace h := on_sound h; obtain ⟨fs, hfs, h⟩ := h
  replace h := on_sound h; obtain ⟨fl, hfl, h⟩ := h
  rw [Array.getElem?_toList] at hfl
  replace h := vAgg_sound h; obtain ⟨cs, rfl, h⟩ := h
  obtain ⟨v, hv, hr⟩ := dPart_sound h
  exact ⟨v, hv, fun w => by simp [Instr.field, run_underlying (structT_sound hfs), hfl, asAgg, hr]⟩
def dUn (op : UnOp) (v : Value) (K : Value → Prop) : Prop :=
  match op with
  | .not => vBool v fun b => K (.bool (!b))
  | .neg => vInt v fun k n => K (.int k (k.wrap (0 - n)))
  | .xor => vInt v fun k n => K (.int k (k.wrap (BitVec.ofInt k.bits (if k.signed then -1 else k.max) ^^^ BitVec.ofInt k.bits n).toNat))
  | _ => False
theorem dUn_sound {P : Program} {op : UnOp} {v : Value} {K : Value → Prop} (h : dUn op v K) : ∃ u, K u ∧ ∀ w : World, (Op.unary op v).run P w = .ok u w := by
  unfold dUn at h
  split at h
  · replace h := vBool_sound h; obtain ⟨b, rfl, h⟩ := h
    exact ⟨_, h, fun w => by simp [Op.unary]⟩
  · replace h := vInt_sound h; obtain ⟨k, n, rfl, h⟩ := h
    exact ⟨_, h, fun w => by simp [Op.unary, Op.intArith]⟩
  · replace h := vInt_sound h; obtain ⟨k, n, rfl, h⟩ := h
    exact ⟨_, h, fun w => by simp [Op.unary, Op.intBits]⟩
  · exact h.elim
/-- What an operation that changes nothing gives. -/
def dQ (P : Program) (o : Oper) (env : Env) (h : Heap) (K : Value → Prop) : Prop :=
  match o.op with
  | .move x => ev1 env x K
  | .assign x => ev1 env x K
  | .pick c a b => ev1 env c fun v => vBool v fun c => brr c (ev1 env a K) (ev1 env b K)
  | .build t ps => evP env ps.toList fun ps => dBuild P t ps K
  | .load t a => ev1 env a fun v => dLoad P t v h K
  | .nilCheck x => ev1 env x fun v => vPtr v fun p => nn p fun a => K (.pointer (some a))
  | .binOp op t x y _ => ev1 env x fun x => ev1 env y fun y => dBin P op t x y K
  | .unOp op _ x => ev1 env x fun v => dUn op v K
  | .convert s d x => ev1 env x fun v => dConvQ P s d v h K
  | .slice t x lo hi none => ev1 env x fun v => dSlice P env t v lo hi K
  | .slice t x (some lo) (some hi) (some mx) => ev1 env x fun v => dSlice3 P env t v lo hi mx K
  | .fieldAddr t x f => ev1 env x fun v => dFieldAddr P t v f K
  | .field t x f => ev1 env x fun v => dField P t v f K
  | .indexAddr t x i => ev1 env x fun v => ev1 env i fun i => dIndexAddr P t v i K
  | .index t x i => ev1 env x fun v => ev1 env i fun i => dIndex P t v i K
  | .extract x i => ev1 env x fun v => vTup v fun vs => on vs.toList[i]? K
  | .call c => match c.callee with
    | .builtin b => evs env c.args.toList fun vs => dBuiltQ P b c.argTypes.toList vs K
    | _ => False
  | _ => False
/-- What an operation gives, whatever else the frame holds, in every world with such a heap. -/
def QSt (P : Program) (o : Oper) (env : Env) (C : Heap → Prop) (v : Value) : Prop :=
  ∀ (a : Act) (w : World), AgrOn (· ∈ slots o.op) env a → C w.heap → (execOp a.eval o).run P w = .ok (.value v) w
/-- What of the heap an operation has read. -/
def obOf (o : Oper) (env : Env) (h : Heap) (v : Value) : Option (Heap → Prop) :=
  match o.op with
  | .load _ x => match ev env x with
    | some (.pointer (some a)) => some fun h' => cellsAre h' a v.cells.toList
    | _ => none
  | .convert _ _ x => match ev env x with
    | some (.slice p n _) => some fun h' => rdP h' p n = rdP h p n
    | _ => none
  | _ => none
def obHolds (c : Option (Heap → Prop)) (h : Heap) : Prop := match c with
  | some f => f h
  | none => True
theorem dQ_sound {P : Program} {o : Oper} {env : Env} {h : Heap} {K : Value → Prop} (hh : dQ P o env h K) : ∃ v, K v ∧ obHolds (obOf o env h v) h ∧ QSt P o env (obHolds (obOf o env h v)) v := by
  unfold dQ at hh
  split at hh
  · rename_i x ho
    replace hh := ev1_sound hh; obtain ⟨v, hv, hh⟩ := hh
    refine ⟨v, hh, by simp [obOf, ho, obHolds], fun a w ha hw => ?_⟩
    rw [ho] at ha
    simp only [execOp, ho, ev_at ha (x := x) (by simp [Op.operands]) hv, Sem.run_pure]
  · rename_i x ho
    replace hh := ev1_sound hh; obtain ⟨v, hv, hh⟩ := hh
    refine ⟨v, hh, by simp [obOf, ho, obHolds], fun a w ha hw => ?_⟩
    rw [ho] at ha
    simp only [execOp, ho, ev_at ha (x := x) (by simp [Op.operands]) hv, Sem.run_pure]
  · rename_i c x y ho
    replace hh := ev1_sound hh; obtain ⟨v, hv, hh⟩ := hh
    replace hh := vBool_sound hh; obtain ⟨b, rfl, hh⟩ := hh
    cases b with
    | true =>
      replace hh := ev1_sound hh; obtain ⟨v, hx, hh⟩ := hh
      refine ⟨v, hh, by simp [obOf, ho, obHolds], fun a w ha hw => ?_⟩
      rw [ho] at ha
      simp only [execOp, ho, ev_at ha (x := c) (by simp [Op.operands]) hv, ev_at ha (x := x) (by simp [Op.operands]) hx, Sem.run_bind, asBool, Sem.run_pure, Result.andThen_ok, if_true]
    | false =>
      replace hh := ev1_sound hh; obtain ⟨v, hx, hh⟩ := hh
      refine ⟨v, hh, by simp [obOf, ho, obHolds], fun a w ha hw => ?_⟩
      rw [ho] at ha
      simp only [execOp, ho, ev_at ha (x := c) (by simp [Op.operands]) hv, ev_at ha (x := y) (by simp [Op.operands]) hx, Sem.run_bind, asBool, Sem.run_pure, Result.andThen_ok, Bool.false_eq_true, if_false]
  · rename_i t ps ho
    replace hh := evP_sound hh; obtain ⟨vs, hh, he⟩ := hh
    obtain ⟨cells, hc, hh⟩ := dBuild_sound hh
    refine ⟨_, hh, by simp [obOf, ho, obHolds], fun a w ha hw => ?_⟩
    rw [ho] at ha
    have e := he a (fun y hy u hu => ev_at ha (x := y) (by simpa [Op.operands] using hy) hu)
    have e2 : (ps.map fun (i, x) => (i, a.eval x)).toList = vs := by rw [Array.toList_map]; exact e
    simp only [execOp, ho, Sem.run_bind, run_build w t _ cells (by rw [e2]; exact hc), Result.andThen_ok, Sem.run_pure]
  · rename_i t x ho
    replace hh := ev1_sound hh; obtain ⟨v, hv, hh⟩ := hh
    obtain ⟨ad, cs, u, rfl, hc, hK, hu, hr⟩ := dLoad_sound hh
    refine ⟨u, hK, by simp only [obOf, ho, hv, obHolds, hu]; exact hc, fun a w ha hw => ?_⟩
    rw [ho] at ha
    simp only [obOf, ho, hv, obHolds, hu] at hw
    simp only [execOp, ho, ev_at ha (x := x) (by simp [Op.operands]) hv, Sem.run_bind, hr w hw, Result.andThen_ok, Sem.run_pure]
  · rename_i x ho
    replace hh := ev1_sound hh; obtain ⟨v, hv, hh⟩ := hh
    replace hh := vPtr_sound hh; obtain ⟨p, rfl, hh⟩ := hh
    obtain ⟨ad, rfl, hK⟩ := hh
    refine ⟨_, hK, by simp [obOf, ho, obHolds], fun a w ha hw => ?_⟩
    rw [ho] at ha
    simp only [execOp, ho, ev_at ha (x := x) (by simp [Op.operands]) hv, Sem.run_pure]
  · rename_i op t x y yt ho
    replace hh := ev1_sound hh; obtain ⟨v, hv, hh⟩ := hh
    replace hh := ev1_sound hh; obtain ⟨u, hu, hh⟩ := hh
    obtain ⟨r, hK, hr⟩ := dBin_sound hh
    refine ⟨r, hK, by simp [obOf, ho, obHolds], fun a w ha hw => ?_⟩
    rw [ho] at ha
    simp only [execOp, ho, ev_at ha (x := x) (by simp [Op.operands]) hv, ev_at ha (x := y) (by simp [Op.operands]) hu]
    rw [Sem.run_bind, hr, Result.andThen_ok, Sem.run_pure]
  · rename_i op t x ho
    replace hh := ev1_sound hh; obtain ⟨v, hv, hh⟩ := hh
    obtain ⟨r, hK, hr⟩ := dUn_sound (P := P) hh
    refine ⟨r, hK, by simp [obOf, ho, obHolds], fun a w ha hw => ?_⟩
    rw [ho] at ha
    simp only [execOp, ho, ev_at ha (x := x) (by simp [Op.operands]) hv, Sem.run_bind, hr, Result.andThen_ok, Sem.run_pure]
  · rename_i s d x ho
    replace hh := ev1_sound hh; obtain ⟨v, hv, hh⟩ := hh
    obtain ⟨r, hK, hr⟩ := dConvQ_sound hh
    have e : obOf o env h r = match v with | .slice p n _ => some fun h' => rdP h' p n = rdP h p n | _ => none := by
      simp only [obOf, ho, hv]
      cases v <;> rfl
    refine ⟨r, hK, by rw [e]; split <;> simp [obHolds], fun a w ha hw => ?_⟩
    rw [ho] at ha
    have hw' : ∀ p n c, v = .slice p n c → rdP w.heap p n = rdP h p n := by
      intro p n c ev; subst ev; rw [e] at hw; exact hw
    simp only [execOp, ho, ev_at ha (x := x) (by simp [Op.operands]) hv, Sem.run_bind, hr w hw', Result.andThen_ok, Sem.run_pure]
  · rename_i t x lo hi ho
    replace hh := ev1_sound hh; obtain ⟨v, hv, hh⟩ := hh
    obtain ⟨r, hK, hr⟩ := dSlice_sound hh
    refine ⟨r, hK, by simp [obOf, ho, obHolds], fun a w ha hw => ?_⟩
    rw [ho] at ha
    have e1 := hr a w (fun y hy u hu => ev_at ha (x := y) (by
      simp only [Op.operands, Array.toList_append, List.mem_append, List.append_assoc]
      simp only [List.mem_append] at hy
      rcases hy with hy | hy
      · refine .inr (.inl ?_); cases lo <;> simp at hy ⊢; exact hy
      · refine .inr (.inr (.inl ?_)); cases hi <;> simp at hy ⊢; exact hy) hu)
    simp only [execOp, ho, ev_at ha (x := x) (by simp [Op.operands]) hv, Option.map_none, Sem.run_bind, e1, Result.andThen_ok, Sem.run_pure]
  · rename_i t x lo hi mx ho
    replace hh := ev1_sound hh; obtain ⟨v, hv, hh⟩ := hh
    obtain ⟨r, hK, hr⟩ := dSlice3_sound hh
    refine ⟨r, hK, by simp [obOf, ho, obHolds], fun a w ha hw => ?_⟩
    rw [ho] at ha
    have e1 := hr a w (fun y hy u hu => ev_at ha (x := y) (by
      simp only [List.mem_cons, List.mem_nil_iff, or_false] at hy
      rcases hy with rfl | rfl | rfl <;> simp [Op.operands]) hu)
    simp only [execOp, ho, ev_at ha (x := x) (by simp [Op.operands]) hv, Option.map_some, Sem.run_bind, e1, Result.andThen_ok, Sem.run_pure]
  · rename_i t x f ho
    replace hh := ev1_sound hh; obtain ⟨v, hv, hh⟩ := hh
    obtain ⟨r, hK, hr⟩ := dFieldAddr_sound hh
    refine ⟨r, hK, by simp [obOf, ho, obHolds], fun a w ha hw => ?_⟩
    rw [ho] at ha
    simp only [execOp, ho, ev_at ha (x := x) (by simp [Op.operands]) hv, Sem.run_bind, hr, Result.andThen_ok, Sem.run_pure]
  · rename_i t x f ho
    replace hh := ev1_sound hh; obtain ⟨v, hv, hh⟩ := hh
    obtain ⟨r, hK, hr⟩ := dField_sound hh
    refine ⟨r, hK, by simp [obOf, ho, obHolds], fun a w ha hw => ?_⟩
    rw [ho] at ha
    simp only [execOp, ho, ev_at ha (x := x) (by simp [Op.operands]) hv, Sem.run_bind, hr, Result.andThen_ok, Sem.run_pure]
  · rename_i t x i ho
    replace hh := ev1_sound hh; obtain ⟨v, hv, hh⟩ := hh
    replace hh := ev1_sound hh; obtain ⟨u, hu, hh⟩ := hh
    obtain ⟨r, hK, hr⟩ := dIndexAddr_sound hh
    refine ⟨r, hK, by simp [obOf, ho, obHolds], fun a w ha hw => ?_⟩
    rw [ho] at ha
    simp only [execOp, ho, ev_at ha (x := x) (by simp [Op.operands]) hv, ev_at ha (x := i) (by simp [Op.operands]) hu, Sem.run_bind, hr, Result.andThen_ok, Sem.run_pure]
  · rename_i t x i ho
    replace hh := ev1_sound hh; obtain ⟨v, hv, hh⟩ := hh
    replace hh := ev1_sound hh; obtain ⟨u, hu, hh⟩ := hh
    obtain ⟨r, hK, hr⟩ := dIndex_sound hh
    refine ⟨r, hK, by simp [obOf, ho, obHolds], fun a w ha hw => ?_⟩
    rw [ho] at ha
    simp only [execOp, ho, ev_at ha (x := x) (by simp [Op.operands]) hv, ev_at ha (x := i) (by simp [Op.operands]) hu, Sem.run_bind, hr, Result.andThen_ok, Sem.run_pure]
  · rename_i x i ho
    replace hh := ev1_sound hh; obtain ⟨v, hv, hh⟩ := hh
    replace hh := vTup_sound hh; obtain ⟨vs, rfl, hh⟩ := hh
    replace hh := on_sound hh; obtain ⟨u, hu, hK⟩ := hh
    rw [Array.getElem?_toList] at hu
    refine ⟨u, hK, by simp [obOf, ho, obHolds], fun a w ha hw => ?_⟩
    rw [ho] at ha
    simp only [execOp, ho, ev_at ha (x := x) (by simp [Op.operands]) hv, Instr.extract, hu, Sem.run_bind, Result.andThen_ok, Sem.run_pure]
  · rename_i c ho
    split at hh
    · rename_i b hb
      replace hh := evs_sound hh; obtain ⟨vs, hh, he⟩ := hh
      obtain ⟨u, hK, hr⟩ := dBuiltQ_sound hh
      refine ⟨u, hK, by simp [obOf, ho, obHolds], fun a w ha hw => ?_⟩
      rw [ho] at ha
      have e := he a (fun y hy u hu => ev_at ha (x := y) (by simp [Op.operands, Call.operands, hb]; simpa using hy) hu)
      have e2 : c.args.map a.eval = vs.toArray := by apply Array.ext'; rw [Array.toList_map, e]
      simp only [execOp, ho, resolve, hb, e2, Sem.run_bind, Sem.run_pure, Result.andThen_ok, invoke, hr]
    · exact hh.elim
  · exact hh.elim
end Go.Proofs.Ytompmkmbppcadaa.V
