/-
  FROM A LAW'S FORMULA TO ITS ROW: how an argument that can be read lies on the heap ('Rd'), and that a law whose formula answers true, with all that was there as it was, holds as its row says.
-/
import Derived.Test.YtompmkmbppcadaaV10
import Derived.Test.YtompmkmbppcadaaRows
import Derived.Carry
import Derived.ProofKit
import Derived.SizedLaws
import Derived.ChangeOld
namespace Go.Proofs.Ytompmkmbppcadaa.V
open Go Go.RowKit
set_option linter.unusedVariables false
set_option linter.unusedSimpArgs false

/-- All that was there is as it was. -/
structure KeptH (h h' : Heap) : Prop where
  size : h.size ≤ h'.size
  at_ : ∀ k, k < h.size → h'[k]? = h[k]?
theorem KeptH.refl (h : Heap) : KeptH h h := ⟨Nat.le_refl _, fun _ _ => rfl⟩
theorem KeptH.trans {a b c : Heap} (h : KeptH a b) (k : KeptH b c) : KeptH a c :=
  ⟨Nat.le_trans h.size k.size, fun i hi => (k.at_ i (Nat.lt_of_lt_of_le hi h.size)).trans (h.at_ i hi)⟩
/-- A slice that came in. -/
def SlOk (h : Heap) (size bytes : Nat) (s : Sl) (E : List Value → Prop) : Prop :=
  (s.ptr = none ∧ s.len = 0 ∧ s.cap = 0) ∨
  ∃ a, s.ptr = some a ∧ s.len ≤ s.cap ∧ s.cap * bytes ≤ 140737488351232 ∧ ∀ i, i < s.cap → ∃ cs, cs.length = size ∧ cellsAre h (a.add (i * size)) cs ∧ E cs
def Rd (P : Program) (h : Heap) : Nat → TypeId → List Value → Prop
  | 0, _, _ => False
  | n + 1, t, cs => match P.underlying t with
    | some .bool => ∃ b, cs = [.bool b]
    | some (.int k) => ∃ x, cs = [.int k x] ∧ k.min ≤ x ∧ x ≤ k.max
    | some .string => ∃ s : ByteArray, cs = [.string s] ∧ s.size ≤ 140737488351232
    | some (.slice e) => ∃ s : Sl, cs = [.slice s.ptr s.len s.cap] ∧ SlOk h (P.cellsOf e) (P.bytesOf e) s fun cs => Rd P h n e cs
    | some (.struct fs) => cs.length = P.cellsOf t ∧ ∀ f ∈ fs.toList, Rd P h n f.type ((cs.drop f.offset).take (P.cellsOf f.type))
    | some (.array m e) => cs.length = P.cellsOf t ∧ ∀ i, i < m → Rd P h n e ((cs.drop (i * P.cellsOf e)).take (P.cellsOf e))
    | _ => True
theorem mapM_at {α β : Type} {f : α → Option β} : ∀ {l : List α} {ys : List β}, l.mapM f = some ys → ys.length = l.length ∧ ∀ (i : Nat) (x : α), l[i]? = some x → ∃ y, f x = some y ∧ ys[i]? = some y
  | [], ys, h => by simp at h; subst h; simp
  | a :: l, ys, h => by
    simp only [List.mapM_cons, Option.bind_eq_bind, Option.pure_def] at h
    cases ha : f a with
    | none => simp [ha] at h
    | some b =>
      cases hl : l.mapM f with
      | none => simp [ha, hl] at h
      | some zs =>
        simp [ha, hl] at h
        subst h
        obtain ⟨h1, h2⟩ := mapM_at hl
        refine ⟨by simp [h1], fun i x hx => ?_⟩
        cases i with
        | zero => simp at hx; subst hx; exact ⟨b, ha, rfl⟩
        | succ i => obtain ⟨y, hy, hz⟩ := h2 i x (by simpa using hx); exact ⟨y, hy, by simpa using hz⟩
theorem cellsAre_of_get {h : Heap} : ∀ {cs : List Value} {a : Addr}, (∀ j v, cs[j]? = some v → cellH h (a.add j) = some v) → cellsAre h a cs
  | [], _, _ => trivial
  | c :: cs, a, hc => by
    refine ⟨by have := hc 0 c (by simp); rwa [Addr.add_zero'] at this, cellsAre_of_get fun j v hv => ?_⟩
    have := hc (j + 1) v (by simpa using hv)
    rwa [Addr_add_add, Nat.add_comm]
theorem cells_are {w : World} {a : Addr} {n : Nat} {cs : List Value} (h : w.cells? 0 a n = some cs) : cs.length = n ∧ cellsAre w.heap a cs := by
  unfold World.cells? at h
  rw [if_pos (Nat.zero_le _)] at h
  obtain ⟨h1, h2⟩ := mapM_at h
  refine ⟨by simpa using h1, cellsAre_of_get fun j v hv => ?_⟩
  have hj : j < n := by have := (List.getElem?_eq_some_iff.1 hv).1; rw [h1] at this; simpa using this
  obtain ⟨y, hy, hz⟩ := h2 j j (by simp [hj])
  rw [hv] at hz; simp at hz; subst hz
  exact hy
section
variable {H : Type} {enc : TypeId × Value → H} {P : Program} {w : World}
theorem weightsAll_mem {e : TypeId} {p : Nat → Prop} : ∀ {ds : List (DataW H)}, (∀ x ∈ DataW.weightsAll P e ds, p x) → ∀ d ∈ ds, ∀ x ∈ d.weights P e, p x
  | [], _, d, hd => by simp at hd
  | y :: ds, h, d, hd => by
    simp only [DataW.weightsAll, List.mem_append] at h
    rcases List.mem_cons.1 hd with rfl | hd
    · exact fun x hx => h x (.inl hx)
    · exact weightsAll_mem (fun x hx => h x (.inr hx)) d hd
theorem weightsEach_at {p : Nat → Prop} : ∀ {ts : List TypeId} {ds : List (DataW H)}, (∀ x ∈ DataW.weightsEach P ts ds, p x) → ∀ (i : Nat) (t : TypeId) (d : DataW H), ts[i]? = some t → ds[i]? = some d → ∀ x ∈ d.weights P t, p x
  | [], _, _, i, t, d, h1, _ => by simp at h1
  | _ :: _, [], _, i, t, d, _, h2 => by simp at h2
  | u :: ts, y :: ds, h, i, t, d, h1, h2 => by
    simp only [DataW.weightsEach, List.mem_append] at h
    cases i with
    | zero => simp at h1 h2; subst h1; subst h2; exact fun x hx => h x (.inl hx)
    | succ i => exact weightsEach_at (fun x hx => h x (.inr hx)) i t d (by simpa using h1) (by simpa using h2)
theorem bind_some {α β : Type} {x : Option α} {f : α → Option β} {b : β} (h : x.bind f = some b) : ∃ a, x = some a ∧ f a = some b := by
  cases x with
  | none => simp at h
  | some a => exact ⟨a, rfl, h⟩
theorem map_some' {α β : Type} {x : Option α} {f : α → β} {b : β} (h : x.map f = some b) : ∃ a, x = some a ∧ f a = b := by
  cases x with
  | none => simp at h
  | some a => exact ⟨a, rfl, by simpa using h⟩
theorem trod_rd : ∀ (fuel : Nat) (t : TypeId) (cs : List Value) (d : DataW H) (ps : List MemPlace), DataW.trod enc P w 0 (fun _ => true) true fuel t cs = some (d, ps) →
    (∀ x ∈ d.weights P t, x ≤ reachBytes) → Rd P w.heap fuel t cs
  | 0, _, _, _, _, h, _ => by simp [DataW.trod] at h
  | n + 1, t, cs, d, ps, h, hw => by
    unfold Rd
    unfold DataW.trod at h
    cases hu : P.underlying t with
    | none => trivial
    | some td =>
      rw [hu] at h
      cases td with
      | bool =>
        simp only
        split at h <;> simp_all
      | int k =>
        simp only
        split at h <;> simp_all [Lit.wf]
      | string =>
        simp only
        split at h <;> simp_all
        obtain ⟨_, rfl, _⟩ := h
        simp [DataW.weights, reachBytes] at hw
        exact hw
      | slice e =>
        simp only
        split at h <;> simp_all
        · exact ⟨⟨none, 0, 0⟩, ⟨rfl, rfl, rfl⟩, .inl ⟨rfl, rfl, rfl⟩⟩
        · rename_i e' a' a len cap hcs
          obtain ⟨⟨h1, h2⟩, h3⟩ := h
          replace h3 := bind_some h3; obtain ⟨elems, he, h3⟩ := h3
          replace h3 := map_some' h3; obtain ⟨rest, hr, h3⟩ := h3
          simp at h3
          obtain ⟨h3, _⟩ := h3
          subst h3
          simp only [DataW.weights, hu, List.length_map] at hw
          have hw1 := hw _ (List.mem_cons_self)
          have hwe := weightsAll_mem (p := (· ≤ reachBytes)) (fun x hx => hw x (List.mem_cons_of_mem _ (List.mem_append.2 (.inl hx))))
          have hwr := weightsAll_mem (p := (· ≤ reachBytes)) (fun x hx => hw x (List.mem_cons_of_mem _ (List.mem_append.2 (.inr hx))))
          obtain ⟨le, ge⟩ := mapM_at he
          obtain ⟨lr, gr⟩ := mapM_at hr
          simp at le lr
          refine ⟨⟨some a, len, cap⟩, ⟨rfl, rfl, rfl⟩, .inr ⟨a, rfl, h1, ?_, fun i hi => ?_⟩⟩
          · rw [le, lr, show len + (cap - len) = cap by omega] at hw1
            exact hw1
          · simp only at hi
            have key : ∃ y : DataW H × List MemPlace, ((w.cells? 0 (a.add (i * P.cellsOf a')) (P.cellsOf a')).bind (DataW.trod enc P w 0 (fun x => true) true n a')) = some y ∧ ∀ x ∈ y.1.weights P a', x ≤ reachBytes := by
              by_cases hil : i < len
              · obtain ⟨y, hy, hyi⟩ := ge i i (by simp [hil])
                exact ⟨y, hy, hwe y.1 (List.mem_map.2 ⟨y, List.mem_of_getElem? hyi, rfl⟩)⟩
              · obtain ⟨y, hy, hyi⟩ := gr (i - len) (i - len) (by rw [List.getElem?_range (by omega)])
                rw [show len + (i - len) = i by omega] at hy
                exact ⟨y, hy, hwr y.1 (List.mem_map.2 ⟨y, List.mem_of_getElem? hyi, rfl⟩)⟩
            obtain ⟨⟨yd, yp⟩, hy, hyw⟩ := key
            replace hy := bind_some hy; obtain ⟨cs', hcs', hy⟩ := hy
            obtain ⟨hl, hc⟩ := cells_are hcs'
            exact ⟨cs', hl, hc, trod_rd n _ _ _ _ hy hyw⟩
      | struct fs =>
        simp only at h ⊢
        split at h
        · rename_i hl
          replace h := map_some' h; obtain ⟨xs, hx, h⟩ := h
          simp at h
          obtain ⟨h, _⟩ := h
          subst h
          simp only [DataW.weights, hu] at hw
          obtain ⟨lx, gx⟩ := mapM_at hx
          refine ⟨hl, fun f hf => ?_⟩
          obtain ⟨i, hi⟩ := List.mem_iff_getElem?.1 hf
          obtain ⟨⟨yd, yp⟩, hy, hyi⟩ := gx i f hi
          refine trod_rd n _ _ _ _ hy (weightsEach_at (p := (· ≤ reachBytes)) (ts := fs.toList.map (·.type)) (ds := xs.map (·.1)) hw i f.type yd (by simp [hi]) (by simp [hyi]))
        · simp at h
      | array m e =>
        simp only at h ⊢
        split at h
        · rename_i hl
          replace h := map_some' h; obtain ⟨xs, hx, h⟩ := h
          simp at h
          obtain ⟨h, _⟩ := h
          subst h
          simp only [DataW.weights, hu] at hw
          obtain ⟨lx, gx⟩ := mapM_at hx
          refine ⟨hl, fun i hi => ?_⟩
          obtain ⟨⟨yd, yp⟩, hy, hyi⟩ := gx i i (by simp [hi])
          refine trod_rd n _ _ _ _ hy (weightsAll_mem (p := (· ≤ reachBytes)) hw yd (List.mem_map.2 ⟨(yd, yp), List.mem_of_getElem? hyi, rfl⟩))
        · simp at h
      | _ => trivial
end
/-- An argument is one value, or the cells of a struct or an array. -/
def okv (P : Program) (t : TypeId) (v : Value) : Prop := match P.underlying t with
  | some (.struct _) | some (.array _ _) => ∃ cs, v = .agg cs
  | _ => ∀ cs, v ≠ .agg cs
theorem okv_of {P : Program} {W : World} {r : Reach} {base : Nat} {t : TypeId} {v : Value} (h : Value.okWide P W r base t v) : okv P t v := by
  unfold Value.okWide at h
  unfold okv
  split <;> simp_all
  · obtain ⟨cs, h, _⟩ := h; exact ⟨cs, h⟩
  · obtain ⟨cs, h, _⟩ := h; exact ⟨cs, h⟩
  · intro cs hc
    subst hc
    unfold Cell.okWide at h
    split at h <;> simp_all [Cell.ok]
def zeroOf (P : Program) (t : TypeId) : Value := (zeroT P t).getD undef
end Go.Proofs.Ytompmkmbppcadaa.V
