/-
  A VIEW OF THE MACHINE AS A PREDICATE TRANSFORMER OVER THE HEAP. Part 3: every operation that changes nothing: 'dQ', and that the machine does so.
-/
import Derived.Test.YtompmkmbppcadaaV2
import Derived.Laws.Tables
import Derived.Laws.StructEq
import Derived.Laws.PanicsMore
namespace Go.Proofs.Ytompmkmbppcadaa.V
open Go Go.RowKit
set_option linter.unusedVariables false
set_option linter.unusedSimpArgs false

def isIntT (P : Program) (t : TypeId) : Option IntKind := match P.underlying t with | some (.int k) => some k | _ => none
def elemT (P : Program) (t : TypeId) : Option TypeId := match P.underlying t with | some (.slice e) => some e | _ => none
def arrT (P : Program) (t : TypeId) : Option (Nat × TypeId) := match P.underlying t with | some (.array n e) => some (n, e) | _ => none
def structT (P : Program) (t : TypeId) : Option (Array Field) := match P.underlying t with | some (.struct fs) => some fs | _ => none
def ptrT (P : Program) (t : TypeId) : Option TypeId := match P.underlying t with | some (.pointer e) => some e | _ => none
theorem isIntT_sound {P : Program} {t : TypeId} {k : IntKind} (h : isIntT P t = some k) : P.underlying t = some (.int k) := by
  unfold isIntT at h; split at h <;> simp at h; subst h; assumption
theorem elemT_sound {P : Program} {t : TypeId} {k : TypeId} (h : elemT P t = some k) : P.underlying t = some (.slice k) := by
  unfold elemT at h; split at h <;> simp at h; subst h; assumption
theorem arrT_sound {P : Program} {t : TypeId} {n e : Nat} (h : arrT P t = some (n, e)) : P.underlying t = some (.array n e) := by
  unfold arrT at h; split at h <;> simp at h; obtain ⟨rfl, rfl⟩ := h; assumption
theorem structT_sound {P : Program} {t : TypeId} {k : Array Field} (h : structT P t = some k) : P.underlying t = some (.struct k) := by
  unfold structT at h; split at h <;> simp at h; subst h; assumption
theorem ptrT_sound {P : Program} {t : TypeId} {k : TypeId} (h : ptrT P t = some k) : P.underlying t = some (.pointer k) := by
  unfold ptrT at h; split at h <;> simp at h; subst h; assumption
/-- A number behind an option. -/
def on {α : Type} (x : Option α) (K : α → Prop) : Prop := match x with
  | some a => K a
  | none => False
theorem on_sound {α : Type} {x : Option α} {K : α → Prop} (h : on x K) : ∃ a, x = some a ∧ K a := by
  cases x with
  | none => exact h.elim
  | some a => exact ⟨a, rfl, h⟩
def vPtr (v : Value) (K : Option Addr → Prop) : Prop := match v with | .pointer p => K p | _ => False
def vAddr (v : Value) (K : Addr → Prop) : Prop := match v with | .pointer (some a) => K a | _ => False
def vBool (v : Value) (K : Bool → Prop) : Prop := match v with | .bool b => K b | _ => False
def vInt (v : Value) (K : IntKind → Int → Prop) : Prop := match v with | .int k n => K k n | _ => False
def vSl (v : Value) (K : Option Addr → Nat → Nat → Prop) : Prop := match v with | .slice p n c => K p n c | _ => False
def vStr (v : Value) (K : ByteArray → Prop) : Prop := match v with | .string s => K s | _ => False
def vAgg (v : Value) (K : Array Value → Prop) : Prop := match v with | .agg cs => K cs | _ => False
def vTup (v : Value) (K : Array Value → Prop) : Prop := match v with | .tuple cs => K cs | _ => False
theorem vPtr_sound {v : Value} {K} (h : vPtr v K) : ∃ p, v = .pointer p ∧ K p := by cases v <;> first | exact h.elim | exact ⟨_, rfl, h⟩
theorem vAddr_sound {v : Value} {K} (h : vAddr v K) : ∃ p, v = .pointer (some p) ∧ K p := by
  unfold vAddr at h; split at h
  · exact ⟨_, rfl, h⟩
  · exact h.elim
theorem vBool_sound {v : Value} {K} (h : vBool v K) : ∃ p, v = .bool p ∧ K p := by cases v <;> first | exact h.elim | exact ⟨_, rfl, h⟩
theorem vInt_sound {v : Value} {K} (h : vInt v K) : ∃ k n, v = .int k n ∧ K k n := by cases v <;> first | exact h.elim | exact ⟨_, _, rfl, h⟩
theorem vSl_sound {v : Value} {K} (h : vSl v K) : ∃ p n c, v = .slice p n c ∧ K p n c := by cases v <;> first | exact h.elim | exact ⟨_, _, _, rfl, h⟩
theorem vStr_sound {v : Value} {K} (h : vStr v K) : ∃ p, v = .string p ∧ K p := by cases v <;> first | exact h.elim | exact ⟨_, rfl, h⟩
theorem vAgg_sound {v : Value} {K} (h : vAgg v K) : ∃ p, v = .agg p ∧ K p := by cases v <;> first | exact h.elim | exact ⟨_, rfl, h⟩
theorem vTup_sound {v : Value} {K} (h : vTup v K) : ∃ p, v = .tuple p ∧ K p := by cases v <;> first | exact h.elim | exact ⟨_, rfl, h⟩

/-! ### slicing -/
def slp (size : Nat) (s : Sl) (l : Nat) : Option Addr := if s.cap = l then s.ptr else s.ptr.map (·.add (l * size))
def slTo (s : Sl) (b : Int) (K : Sl → Prop) : Prop := 0 ≤ b ∧ b ≤ (s.cap : Int) ∧ K ⟨s.ptr, b.toNat, s.cap⟩
def slFrom (size : Nat) (s : Sl) (a : Int) (K : Sl → Prop) : Prop := 0 ≤ a ∧ a ≤ (s.len : Int) ∧ K ⟨slp size s a.toNat, s.len - a.toNat, s.cap - a.toNat⟩
def slFT (size : Nat) (s : Sl) (a b : Int) (K : Sl → Prop) : Prop := 0 ≤ a ∧ a ≤ b ∧ b ≤ (s.cap : Int) ∧ K ⟨slp size s a.toNat, b.toNat - a.toNat, s.cap - a.toNat⟩
def slM (size : Nat) (s : Sl) (a b m : Int) (K : Sl → Prop) : Prop := 0 ≤ a ∧ a ≤ b ∧ b ≤ m ∧ m ≤ (s.cap : Int) ∧
  K ⟨if m.toNat = a.toNat then s.ptr else s.ptr.map (·.add (a.toNat * size)), b.toNat - a.toNat, m.toNat - a.toNat⟩
def stTo (s : ByteArray) (b : Int) (K : ByteArray → Prop) : Prop := 0 ≤ b ∧ b ≤ (s.size : Int) ∧ K (s.extract 0 b.toNat)
def stFrom (s : ByteArray) (a : Int) (K : ByteArray → Prop) : Prop := 0 ≤ a ∧ a ≤ (s.size : Int) ∧ K (s.extract a.toNat s.size)
def stFT (s : ByteArray) (a b : Int) (K : ByteArray → Prop) : Prop := 0 ≤ a ∧ a ≤ b ∧ b ≤ (s.size : Int) ∧ K (s.extract a.toNat b.toNat)
def slv (K : Value → Prop) (s : Sl) : Prop := K (.slice s.ptr s.len s.cap)
def dSlice (P : Program) (env : Env) (t : TypeId) (x : Value) (lo hi : Option Operand) (K : Value → Prop) : Prop :=
  match P.underlying t with
  | some (.slice e) => on (sizeT P e) fun size => vSl x fun p n c => match lo, hi with
      | none, none => K (.slice p n c)
      | none, some b => ev1 env b fun b => vInt b fun _ b => slTo ⟨p, n, c⟩ b (slv K)
      | some a, none => ev1 env a fun a => vInt a fun _ a => slFrom size ⟨p, n, c⟩ a (slv K)
      | some a, some b => ev1 env a fun a => vInt a fun _ a => ev1 env b fun b => vInt b fun _ b => slFT size ⟨p, n, c⟩ a b (slv K)
  | some (.array n e) => on (sizeT P e) fun size => vAddr x fun p => match lo, hi with
      | none, none => K (.slice (some p) n n)
      | none, some b => ev1 env b fun b => vInt b fun _ b => slTo ⟨some p, n, n⟩ b (slv K)
      | some a, none => ev1 env a fun a => vInt a fun _ a => slFrom size ⟨some p, n, n⟩ a (slv K)
      | some a, some b => ev1 env a fun a => vInt a fun _ a => ev1 env b fun b => vInt b fun _ b => slFT size ⟨some p, n, n⟩ a b (slv K)
  | some .string => vStr x fun s => match lo, hi with
      | none, none => K (.string (s.extract 0 s.size))
      | none, some b => ev1 env b fun b => vInt b fun _ b => stTo s b fun s => K (.string s)
      | some a, none => ev1 env a fun a => vInt a fun _ a => stFrom s a fun s => K (.string s)
      | some a, some b => ev1 env a fun a => vInt a fun _ a => ev1 env b fun b => vInt b fun _ b => stFT s a b fun s => K (.string s)
  | _ => False
theorem run_bound {P : Program} {k : IntKind} {b : Int} {y : Nat} {code : BoundsCode} (h0 : 0 ≤ b) (h1 : b ≤ (y : Int)) (w : World) : (Instr.sliceBound (.int k b) y code).run P w = .ok b.toNat w := by
  simp [Instr.sliceBound, asIntOf, h0, h1]
theorem slp_eq (size : Nat) (p : Option Addr) (n c l : Nat) : slp size ⟨p, n, c⟩ l = if c = l then p else p.map (·.add (l * size)) := rfl
theorem slp_zero (size : Nat) (p : Option Addr) (c : Nat) : (if c = 0 then p else p.map (·.add (0 * size))) = p := by
  split
  · rfl
  · cases p <;> simp [Addr.add]
theorem dSlice_sound {P : Program} {env : Env} {t : TypeId} {x : Value} {lo hi : Option Operand} {K : Value → Prop} (h : dSlice P env t x lo hi K) :
    ∃ v, K v ∧ ∀ (a : Act) (w : World), (∀ y ∈ lo.toList ++ hi.toList, ∀ u, ev env y = some u → a.eval y = u) → (Instr.sliceAt t x (lo.map a.eval) (hi.map a.eval) none).run P w = .ok v w := by
  unfold dSlice at h
  split at h
  · rename_i e hu
    replace h := on_sound h; obtain ⟨size, hs, h⟩ := h
    replace h := vSl_sound h; obtain ⟨p, n, c, rfl, h⟩ := h
    split at h
    · refine ⟨_, h, fun a w he => ?_⟩
      simp only [Instr.sliceAt, Instr.slice, Instr.sliceBounds, Option.map_none, Sem.run_bind, run_underlying hu, Result.andThen_ok, Sem.run_pure, run_sizeT hs, slp_zero, Nat.sub_zero]
    · rename_i b
      replace h := ev1_sound h; obtain ⟨vb, hb, h⟩ := h
      replace h := vInt_sound h; obtain ⟨k, b', rfl, h⟩ := h
      refine ⟨_, h.2.2, fun a w he => ?_⟩
      have eb := he b (by simp) _ hb
      simp only [Instr.sliceAt, Instr.slice, Instr.sliceBounds, Option.map_none, Option.map_some, eb, Sem.run_bind, run_underlying hu, Result.andThen_ok, Sem.run_pure, run_sizeT hs, slp_zero, Nat.sub_zero, run_bound h.1 h.2.1]
    · rename_i b
      replace h := ev1_sound h; obtain ⟨vb, hb, h⟩ := h
      replace h := vInt_sound h; obtain ⟨k, b', rfl, h⟩ := h
      refine ⟨_, h.2.2, fun a w he => ?_⟩
      have eb := he b (by simp) _ hb
      simp only [Instr.sliceAt, Instr.slice, Instr.sliceBounds, Option.map_none, Option.map_some, eb, Sem.run_bind, run_underlying hu, Result.andThen_ok, Sem.run_pure, run_sizeT hs, Option.isSome_none, run_bound h.1 h.2.1, slp_eq]
    · rename_i b d
      replace h := ev1_sound h; obtain ⟨vb, hb, h⟩ := h
      replace h := vInt_sound h; obtain ⟨k, b', rfl, h⟩ := h
      replace h := ev1_sound h; obtain ⟨vd, hd, h⟩ := h
      replace h := vInt_sound h; obtain ⟨k', d', rfl, h⟩ := h
      refine ⟨_, h.2.2.2, fun a w he => ?_⟩
      have eb := he b (by simp) _ hb
      have ed := he d (by simp) _ hd
      have h0 := h.1; have h1 := h.2.1; have h2 := h.2.2.1
      simp only [Instr.sliceAt, Instr.slice, Instr.sliceBounds, Option.map_none, Option.map_some, eb, ed, Sem.run_bind, run_underlying hu, Result.andThen_ok, Sem.run_pure, run_sizeT hs, Option.isSome_none, run_bound (show (0 : Int) ≤ d' by omega) h2, run_bound h0 (show b' ≤ (d'.toNat : Int) by omega), slp_eq]
  · rename_i n e hu
    replace h := on_sound h; obtain ⟨size, hs, h⟩ := h
    replace h := vAddr_sound h; obtain ⟨p, rfl, h⟩ := h
    have hif : ∀ l : Nat, (some (if n = l then p else p.add (l * size)) : Option Addr) = slp size ⟨some p, n, n⟩ l := fun l => by simp only [slp_eq]; split <;> rfl
    have hz : (some (if n = 0 then p else p.add (0 * size)) : Option Addr) = some p := by rw [hif 0, slp_eq, slp_zero]
    split at h
    · refine ⟨_, h, fun a w he => ?_⟩
      simp only [Instr.sliceAt, Instr.sureAddr, Instr.sliceBounds, Option.map_none, Sem.run_bind, run_underlying hu, Result.andThen_ok, Sem.run_pure, run_sizeT hs, hz, Nat.sub_zero]
    · rename_i b
      replace h := ev1_sound h; obtain ⟨vb, hb, h⟩ := h
      replace h := vInt_sound h; obtain ⟨k, b', rfl, h⟩ := h
      refine ⟨_, h.2.2, fun a w he => ?_⟩
      have eb := he b (by simp) _ hb
      simp only [Instr.sliceAt, Instr.sureAddr, Instr.sliceBounds, Option.map_none, Option.map_some, eb, Sem.run_bind, run_underlying hu, Result.andThen_ok, Sem.run_pure, run_sizeT hs, hz, Nat.sub_zero, run_bound h.1 h.2.1]
    · rename_i b
      replace h := ev1_sound h; obtain ⟨vb, hb, h⟩ := h
      replace h := vInt_sound h; obtain ⟨k, b', rfl, h⟩ := h
      refine ⟨_, h.2.2, fun a w he => ?_⟩
      have eb := he b (by simp) _ hb
      simp only [Instr.sliceAt, Instr.sureAddr, Instr.sliceBounds, Option.map_none, Option.map_some, eb, Sem.run_bind, run_underlying hu, Result.andThen_ok, Sem.run_pure, run_sizeT hs, Option.isSome_none, run_bound h.1 h.2.1, hif]
    · rename_i b d
      replace h := ev1_sound h; obtain ⟨vb, hb, h⟩ := h
      replace h := vInt_sound h; obtain ⟨k, b', rfl, h⟩ := h
      replace h := ev1_sound h; obtain ⟨vd, hd, h⟩ := h
      replace h := vInt_sound h; obtain ⟨k', d', rfl, h⟩ := h
      refine ⟨_, h.2.2.2, fun a w he => ?_⟩
      have eb := he b (by simp) _ hb
      have ed := he d (by simp) _ hd
      have h0 := h.1; have h1 := h.2.1; have h2 := h.2.2.1
      simp only [Instr.sliceAt, Instr.sureAddr, Instr.sliceBounds, Option.map_none, Option.map_some, eb, ed, Sem.run_bind, run_underlying hu, Result.andThen_ok, Sem.run_pure, run_sizeT hs, Option.isSome_none, run_bound (show (0 : Int) ≤ d' by omega) h2, run_bound h0 (show b' ≤ (d'.toNat : Int) by omega), hif]
  · rename_i hu
    replace h := vStr_sound h; obtain ⟨s, rfl, h⟩ := h
    split at h
    · refine ⟨_, h, fun a w he => ?_⟩
      simp only [Instr.sliceAt, Instr.slice, Instr.sliceBounds, Option.map_none, Sem.run_bind, run_underlying hu, Result.andThen_ok, Sem.run_pure, Option.isSome_none, Bool.false_eq_true, if_false]
    · rename_i b
      replace h := ev1_sound h; obtain ⟨vb, hb, h⟩ := h
      replace h := vInt_sound h; obtain ⟨k, b', rfl, h⟩ := h
      refine ⟨_, h.2.2, fun a w he => ?_⟩
      have eb := he b (by simp) _ hb
      simp only [Instr.sliceAt, Instr.slice, Instr.sliceBounds, Option.map_none, Option.map_some, eb, Sem.run_bind, run_underlying hu, Result.andThen_ok, Sem.run_pure, Option.isSome_none, Bool.false_eq_true, if_false, run_bound h.1 h.2.1]
    · rename_i b
      replace h := ev1_sound h; obtain ⟨vb, hb, h⟩ := h
      replace h := vInt_sound h; obtain ⟨k, b', rfl, h⟩ := h
      refine ⟨_, h.2.2, fun a w he => ?_⟩
      have eb := he b (by simp) _ hb
      simp only [Instr.sliceAt, Instr.slice, Instr.sliceBounds, Option.map_none, Option.map_some, eb, Sem.run_bind, run_underlying hu, Result.andThen_ok, Sem.run_pure, Option.isSome_none, Bool.false_eq_true, if_false, run_bound h.1 h.2.1]
    · rename_i b d
      replace h := ev1_sound h; obtain ⟨vb, hb, h⟩ := h
      replace h := vInt_sound h; obtain ⟨k, b', rfl, h⟩ := h
      replace h := ev1_sound h; obtain ⟨vd, hd, h⟩ := h
      replace h := vInt_sound h; obtain ⟨k', d', rfl, h⟩ := h
      refine ⟨_, h.2.2.2, fun a w he => ?_⟩
      have eb := he b (by simp) _ hb
      have ed := he d (by simp) _ hd
      have h0 := h.1; have h1 := h.2.1; have h2 := h.2.2.1
      simp only [Instr.sliceAt, Instr.slice, Instr.sliceBounds, Option.map_none, Option.map_some, eb, ed, Sem.run_bind, run_underlying hu, Result.andThen_ok, Sem.run_pure, Option.isSome_none, Bool.false_eq_true, if_false, run_bound (show (0 : Int) ≤ d' by omega) h2, run_bound h0 (show b' ≤ (d'.toNat : Int) by omega)]
  · exact h.elim
def dSlice3 (P : Program) (env : Env) (t : TypeId) (x : Value) (lo hi mx : Operand) (K : Value → Prop) : Prop :=
  on (elemT P t) fun e => on (sizeT P e) fun size => vSl x fun p n c =>
    ev1 env lo fun a => vInt a fun _ a => ev1 env hi fun b => vInt b fun _ b => ev1 env mx fun m => vInt m fun _ m => slM size ⟨p, n, c⟩ a b m (slv K)
theorem dSlice3_sound {P : Program} {env : Env} {t : TypeId} {x : Value} {lo hi mx : Operand} {K : Value → Prop} (h : dSlice3 P env t x lo hi mx K) :
    ∃ v, K v ∧ ∀ (a : Act) (w : World), (∀ y ∈ [lo, hi, mx], ∀ u, ev env y = some u → a.eval y = u) → (Instr.sliceAt t x (some (a.eval lo)) (some (a.eval hi)) (some (a.eval mx))).run P w = .ok v w := by
  unfold dSlice3 at h
  replace h := on_sound h; obtain ⟨e, hu, h⟩ := h
  replace h := on_sound h; obtain ⟨size, hs, h⟩ := h
  replace h := vSl_sound h; obtain ⟨p, n, c, rfl, h⟩ := h
  replace h := ev1_sound h; obtain ⟨va, ha, h⟩ := h
  replace h := vInt_sound h; obtain ⟨k, a', rfl, h⟩ := h
  replace h := ev1_sound h; obtain ⟨vb, hb, h⟩ := h
  replace h := vInt_sound h; obtain ⟨k', b', rfl, h⟩ := h
  replace h := ev1_sound h; obtain ⟨vm, hm, h⟩ := h
  replace h := vInt_sound h; obtain ⟨k'', m', rfl, h⟩ := h
  obtain ⟨h0, h1, h2, h3, hK⟩ := h
  refine ⟨_, hK, fun a w he => ?_⟩
  have ea := he lo (by simp) _ ha
  have eb := he hi (by simp) _ hb
  have em := he mx (by simp) _ hm
  simp only at h3
  simp only [Instr.sliceAt, Instr.slice, Instr.sliceBounds, ea, eb, em, Sem.run_bind, run_underlying (elemT_sound hu), Result.andThen_ok, Sem.run_pure, run_sizeT hs,
    run_bound (show (0 : Int) ≤ m' by omega) h3, run_bound (show (0 : Int) ≤ b' by omega) (show b' ≤ (m'.toNat : Int) by omega), run_bound h0 (show a' ≤ (b'.toNat : Int) by omega)]
end Go.Proofs.Ytompmkmbppcadaa.V
