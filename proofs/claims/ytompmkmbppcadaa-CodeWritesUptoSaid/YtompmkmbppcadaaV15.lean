/-
  WHAT AN ARGUMENT IS: from the form's reading of an argument ('trod') to typed cells ('Fits'), with bounds on lengths.
-/
import Derived.Test.YtompmkmbppcadaaV14
namespace Go.Proofs.Ytompmkmbppcadaa.V
open Go Go.RowKit
set_option linter.unusedVariables false
set_option linter.unusedSimpArgs false

/-- A slice that came in, of at most so many places. -/
def SlN (h : Heap) (N size bytes : Nat) (s : Sl) (E : List Value → Prop) : Prop :=
  (s.ptr = none ∧ s.len = 0 ∧ s.cap = 0) ∨
  ∃ a, s.ptr = some a ∧ s.len ≤ s.cap ∧ s.cap * bytes ≤ 140737488351232 ∧ s.cap ≤ N ∧ ∀ i, i < s.cap → ∃ cs, cs.length = size ∧ cellsAre h (a.add (i * size)) cs ∧ E cs
def RdN (P : Program) (h : Heap) (N : Nat) : Nat → TypeId → List Value → Prop
  | 0, _, _ => False
  | n + 1, t, cs => match P.underlying t with
    | some .bool => ∃ b, cs = [.bool b]
    | some (.int k) => ∃ x, cs = [.int k x] ∧ k.min ≤ x ∧ x ≤ k.max
    | some .string => ∃ s : ByteArray, cs = [.string s] ∧ s.size ≤ N
    | some (.slice e) => ∃ s : Sl, cs = [.slice s.ptr s.len s.cap] ∧ (0 < P.bytesOf e → SlN h N (P.cellsOf e) (P.bytesOf e) s fun cs => RdN P h N n e cs)
    | some (.struct fs) => cs.length = P.cellsOf t ∧ ∀ f ∈ fs.toList, RdN P h N n f.type ((cs.drop f.offset).take (P.cellsOf f.type))
    | some (.array m e) => cs.length = P.cellsOf t ∧ ∀ i, i < m → RdN P h N n e ((cs.drop (i * P.cellsOf e)).take (P.cellsOf e))
    | _ => True
section
variable {H : Type} {enc : TypeId × Value → H} {P : Program} {w : World}
/-- A bound that its parts bear too. -/
structure Bound (P : Program) (N : Nat) (B : TypeId → DataW H → Prop) : Prop where
  str : ∀ t b, P.underlying t = some .string → B t (.lit (.string b)) → b.length ≤ N
  sl : ∀ t e xs ys, P.underlying t = some (.slice e) → B t (.slice xs ys) → (xs.length + ys.length) * P.bytesOf e ≤ 140737488351232 ∧ (0 < P.bytesOf e → xs.length + ys.length ≤ N) ∧ (∀ d ∈ xs, B e d) ∧ ∀ d ∈ ys, B e d
  st : ∀ t fs ds, P.underlying t = some (.struct fs) → B t (.agg ds) → ∀ (i : Nat) f d, fs.toList[i]? = some f → ds[i]? = some d → B f.type d
  ar : ∀ t m e ds, P.underlying t = some (.array m e) → B t (.agg ds) → ∀ d ∈ ds, B e d
theorem bound_said {P : Program} : Bound (H := H) P 140737488351232 fun t d => ∀ x ∈ d.weights P t, x ≤ reachBytes := by
  refine ⟨?_, ?_, ?_, ?_⟩
  · intro t b hu h
    have := h b.length (by simp [DataW.weights])
    simpa [reachBytes] using this
  · intro t e xs ys hu h
    simp only [DataW.weights, hu] at h
    have h1 := h _ (List.mem_cons_self)
    simp only [reachBytes] at h1
    refine ⟨h1, fun hb => ?_, weightsAll_mem (p := (· ≤ reachBytes)) (fun x hx => h x (List.mem_cons_of_mem _ (List.mem_append.2 (.inl hx)))), weightsAll_mem (p := (· ≤ reachBytes)) (fun x hx => h x (List.mem_cons_of_mem _ (List.mem_append.2 (.inr hx))))⟩
    exact Nat.le_trans (Nat.le_mul_of_pos_right _ hb) h1
  · intro t fs ds hu h i f d hf hd
    simp only [DataW.weights, hu] at h
    exact weightsEach_at (p := (· ≤ reachBytes)) (ts := fs.toList.map (·.type)) (ds := ds) h i f.type d (by simp [hf]) hd
  · intro t m e ds hu h d hd
    simp only [DataW.weights, hu] at h
    exact weightsAll_mem (p := (· ≤ reachBytes)) h d hd
theorem bulk_mem {d : DataW H} : ∀ {l : List (DataW H)}, d ∈ l → Rows.uptoBulk d ≤ Rows.uptoBulkAll l
  | [], h => by simp at h
  | x :: l, h => by
    simp only [Rows.uptoBulkAll]
    rcases List.mem_cons.1 h with rfl | h
    · omega
    · have := bulk_mem h; omega
theorem bulk_pos (d : DataW H) : 1 ≤ Rows.uptoBulk d := by
  cases d with
  | lit l => cases l <;> simp [Rows.uptoBulk]
  | nil => simp [Rows.uptoBulk]
  | ptr d => simp [Rows.uptoBulk]
  | slice elems spare => simp [Rows.uptoBulk]
  | agg parts => simp [Rows.uptoBulk]
  | iface t d => simp [Rows.uptoBulk]
  | map entries => simp [Rows.uptoBulk]
  | held h => simp [Rows.uptoBulk]
theorem bulk_len : ∀ (l : List (DataW H)), l.length ≤ Rows.uptoBulkAll l
  | [] => by simp [Rows.uptoBulkAll]
  | x :: l => by have := bulk_pos x; have := bulk_len l; simp only [Rows.uptoBulkAll, List.length_cons]; omega
theorem bound_upto {P : Program} {N : Nat} (hN : N ≤ 1048576) : Bound (H := H) P N fun t d => (∀ x ∈ d.weights P t, x ≤ reachBytes) ∧ Rows.uptoBulk d ≤ N := by
  have s := bound_said (H := H) (P := P)
  refine ⟨?_, ?_, ?_, ?_⟩
  · intro t b hu h
    have := h.2
    simp only [Rows.uptoBulk] at this
    omega
  · intro t e xs ys hu h
    obtain ⟨h1, _, h3, h4⟩ := s.sl t e xs ys hu h.1
    have := h.2
    simp only [Rows.uptoBulk] at this
    have := bulk_len xs
    have := bulk_len ys
    refine ⟨h1, fun _ => by omega, fun d hd => ⟨h3 d hd, ?_⟩, fun d hd => ⟨h4 d hd, ?_⟩⟩
    · have := bulk_mem hd; omega
    · have := bulk_mem hd; omega
  · intro t fs ds hu h i f d hf hd
    refine ⟨s.st t fs ds hu h.1 i f d hf hd, ?_⟩
    have := h.2
    simp only [Rows.uptoBulk] at this
    have := bulk_mem (List.mem_of_getElem? hd)
    omega
  · intro t m e ds hu h d hd
    refine ⟨s.ar t m e ds hu h.1 d hd, ?_⟩
    have := h.2
    simp only [Rows.uptoBulk] at this
    have := bulk_mem hd
    omega
theorem trod_rdN {N : Nat} {B : TypeId → DataW H → Prop} (bd : Bound P N B) : ∀ (fuel : Nat) (t : TypeId) (cs : List Value) (d : DataW H) (ps : List MemPlace), DataW.trod enc P w 0 (fun _ => true) true fuel t cs = some (d, ps) →
    B t d → RdN P w.heap N fuel t cs
  | 0, _, _, _, _, h, _ => by simp [DataW.trod] at h
  | n + 1, t, cs, d, ps, h, hw => by
    unfold RdN
    unfold DataW.trod at h
    cases hu : P.underlying t with
    | none => trivial
    | some td =>
      rw [hu] at h
      cases td with
      | bool =>
        simp only
        split at h <;> simp_all
      | int k =>
        simp only
        split at h <;> simp_all [Lit.wf]
      | string =>
        simp only
        split at h <;> simp_all
        obtain ⟨_, rfl, _⟩ := h
        have := bd.str t _ hu hw
        simpa using this
      | slice e =>
        simp only
        split at h <;> simp_all
        · exact ⟨⟨none, 0, 0⟩, ⟨rfl, rfl, rfl⟩, fun _ => .inl ⟨rfl, rfl, rfl⟩⟩
        · rename_i e' a' a len cap hcs
          obtain ⟨⟨h1, h2⟩, h3⟩ := h
          replace h3 := bind_some h3; obtain ⟨elems, he, h3⟩ := h3
          replace h3 := map_some' h3; obtain ⟨rest, hr, h3⟩ := h3
          simp at h3
          obtain ⟨h3, _⟩ := h3
          subst h3
          obtain ⟨hw1, hwN, hwe, hwr⟩ := bd.sl t a' _ _ hu hw
          simp only [List.length_map] at hw1 hwN
          obtain ⟨le, ge⟩ := mapM_at he
          obtain ⟨lr, gr⟩ := mapM_at hr
          simp at le lr
          refine ⟨⟨some a, len, cap⟩, ⟨rfl, rfl, rfl⟩, fun hpos => .inr ⟨a, rfl, h1, ?_, ?_, fun i hi => ?_⟩⟩
          · rw [le, lr, show len + (cap - len) = cap by omega] at hw1
            exact hw1
          · have := hwN hpos
            rw [le, lr] at this
            simp only
            omega
          · simp only at hi
            have key : ∃ y : DataW H × List MemPlace, ((w.cells? 0 (a.add (i * P.cellsOf a')) (P.cellsOf a')).bind (DataW.trod enc P w 0 (fun x => true) true n a')) = some y ∧ B a' y.1 := by
              by_cases hil : i < len
              · obtain ⟨y, hy, hyi⟩ := ge i i (by simp [hil])
                exact ⟨y, hy, hwe y.1 (List.mem_map.2 ⟨y, List.mem_of_getElem? hyi, rfl⟩)⟩
              · obtain ⟨y, hy, hyi⟩ := gr (i - len) (i - len) (by rw [List.getElem?_range (by omega)])
                rw [show len + (i - len) = i by omega] at hy
                exact ⟨y, hy, hwr y.1 (List.mem_map.2 ⟨y, List.mem_of_getElem? hyi, rfl⟩)⟩
            obtain ⟨⟨yd, yp⟩, hy, hyw⟩ := key
            replace hy := bind_some hy; obtain ⟨cs', hcs', hy⟩ := hy
            obtain ⟨hl, hc⟩ := cells_are hcs'
            exact ⟨cs', hl, hc, trod_rdN bd n _ _ _ _ hy hyw⟩
      | struct fs =>
        simp only at h ⊢
        split at h
        · rename_i hl
          replace h := map_some' h; obtain ⟨xs, hx, h⟩ := h
          simp at h
          obtain ⟨h, _⟩ := h
          subst h
          obtain ⟨lx, gx⟩ := mapM_at hx
          refine ⟨hl, fun f hf => ?_⟩
          obtain ⟨i, hi⟩ := List.mem_iff_getElem?.1 hf
          obtain ⟨⟨yd, yp⟩, hy, hyi⟩ := gx i f hi
          exact trod_rdN bd n _ _ _ _ hy (bd.st t fs _ hu hw i f yd hi (by simp [hyi]))
        · simp at h
      | array m e =>
        simp only at h ⊢
        split at h
        · rename_i hl
          replace h := map_some' h; obtain ⟨xs, hx, h⟩ := h
          simp at h
          obtain ⟨h, _⟩ := h
          subst h
          obtain ⟨lx, gx⟩ := mapM_at hx
          refine ⟨hl, fun i hi => ?_⟩
          obtain ⟨⟨yd, yp⟩, hy, hyi⟩ := gx i i (by simp [hi])
          exact trod_rdN bd n _ _ _ _ hy (bd.ar t m e _ hu hw yd (List.mem_map.2 ⟨(yd, yp), List.mem_of_getElem? hyi, rfl⟩))
        · simp at h
      | _ => trivial
end

/-! ### the types as trees -/
inductive Ty where
  | int (k : IntKind)
  | bool
  | str
  | sl (sz bts : Nat) (e : Ty)
  | nil
  | cons (a b : Ty)
def Ty.size : Ty → Nat
  | .nil => 0
  | .cons a b => a.size + b.size
  | _ => 1
def Ty.rep : Nat → Ty → Ty
  | 0, _ => .nil
  | n + 1, x => .cons x (Ty.rep n x)
def shapeFs (P : Program) (f : TypeId → Option Ty) : Nat → List Field → Option Ty
  | _, [] => some .nil
  | off, fd :: fs => match f fd.type, shapeFs P f (off + P.cellsOf fd.type) fs with
    | some a, some b => match Nat.beq fd.offset off && Nat.beq a.size (P.cellsOf fd.type) with
      | true => some (.cons a b)
      | false => none
    | _, _ => none
def shape (P : Program) : Nat → TypeId → Option Ty
  | 0, _ => none
  | n + 1, t => match P.underlying t with
    | some .bool => some .bool
    | some (.int k) => some (.int k)
    | some .string => some .str
    | some (.slice e) => match shape P n e with
      | some x => match Nat.beq x.size (P.cellsOf e) && Nat.blt 0 (P.bytesOf e) with
        | true => some (.sl (P.cellsOf e) (P.bytesOf e) x)
        | false => none
      | none => none
    | some (.struct fs) => match shapeFs P (shape P n) 0 fs.toList with
      | some x => match Nat.beq x.size (P.cellsOf t) with
        | true => some x
        | false => none
      | none => none
    | some (.array m e) => match shape P n e with
      | some x => match Nat.beq x.size (P.cellsOf e) && Nat.beq (P.cellsOf t) (m * P.cellsOf e) with
        | true => some (Ty.rep m x)
        | false => none
      | none => none
    | _ => none
/-- Cells that are a value of that shape. -/
def Fit (h : Heap) (N : Nat) : Ty → List Value → Prop
  | .int k, cs => ∃ x, cs = [.int k x] ∧ k.min ≤ x ∧ x ≤ k.max
  | .bool, cs => ∃ b, cs = [.bool b]
  | .str, cs => ∃ s : ByteArray, cs = [.string s] ∧ s.size ≤ N
  | .sl sz bts e, cs => ∃ s : Sl, cs = [.slice s.ptr s.len s.cap] ∧ SlN h N sz bts s fun cs => Fit h N e cs
  | .nil, cs => cs = []
  | .cons a b, cs => ∃ c1 c2, cs = c1 ++ c2 ∧ c1.length = a.size ∧ Fit h N a c1 ∧ Fit h N b c2
theorem fits_fs {P : Program} {h : Heap} {N : Nat} {f : TypeId → Option Ty} {R : TypeId → List Value → Prop} (hf : ∀ t x cs, f t = some x → R t cs → cs.length = x.size → Fit h N x cs) :
    ∀ {fs : List Field} {off : Nat} {x : Ty} {cs : List Value}, shapeFs P f off fs = some x → off + x.size = cs.length → (∀ fd ∈ fs, R fd.type ((cs.drop fd.offset).take (P.cellsOf fd.type))) → Fit h N x (cs.drop off)
  | [], off, x, cs, hs, hl, _ => by
    simp only [shapeFs, Option.some.injEq] at hs
    subst hs
    simp only [Ty.size] at hl
    simp [Fit]; omega
  | fd :: fs, off, x, cs, hs, hl, hR => by
    simp only [shapeFs] at hs
    split at hs
    · rename_i a b ha hb
      split at hs
      · rename_i hc
        simp only [Option.some.injEq] at hs
        subst hs
        simp only [Bool.and_eq_true, Nat.beq_eq] at hc
        obtain ⟨h1, h2⟩ := hc
        simp only [Ty.size] at hl
        have hd := hR fd List.mem_cons_self
        rw [h1, ← h2] at hd
        have hlen : ((cs.drop off).take a.size).length = a.size := by simp; omega
        refine ⟨(cs.drop off).take a.size, cs.drop (off + a.size), ?_, hlen, hf _ _ _ ha hd hlen, ?_⟩
        · rw [← List.drop_drop, List.take_append_drop]
        · have := fits_fs hf hb (cs := cs) (by rw [← h2]; omega) fun fd' hfd => hR fd' (List.mem_cons_of_mem _ hfd)
          rw [← h2] at this
          exact this
      · simp at hs
    · simp at hs
theorem fits_rep {h : Heap} {N : Nat} {x : Ty} : ∀ (m : Nat) {cs : List Value}, cs.length = m * x.size → (∀ i, i < m → Fit h N x ((cs.drop (i * x.size)).take x.size)) → Fit h N (Ty.rep m x) cs
  | 0, cs, hl, _ => by simp at hl; simp [Ty.rep, Fit, hl]
  | m + 1, cs, hl, hR => by
    rw [Nat.add_mul, Nat.one_mul] at hl
    refine ⟨cs.take x.size, cs.drop x.size, (List.take_append_drop _ _).symm, by simp; omega, by simpa using hR 0 (by omega), fits_rep m (by simp; omega) fun i hi => ?_⟩
    have := hR (i + 1) (by omega)
    rwa [List.drop_drop, show x.size + i * x.size = (i + 1) * x.size by rw [Nat.add_mul, Nat.one_mul, Nat.add_comm]]
theorem fits_of {P : Program} {h : Heap} {N : Nat} : ∀ (d : Nat) {n : Nat} {t : TypeId} {x : Ty} {cs : List Value}, shape P d t = some x → RdN P h N n t cs → (cs.length = x.size ∨ True) → Fit h N x cs
  | 0, n, t, x, cs, hs, _, _ => by simp [shape] at hs
  | d + 1, 0, t, x, cs, hs, hR, _ => hR.elim
  | d + 1, n + 1, t, x, cs, hs, hR, _ => by
    unfold shape at hs
    unfold RdN at hR
    cases hu : P.underlying t with
    | none => rw [hu] at hs; simp at hs
    | some td =>
      rw [hu] at hs hR
      cases td <;> simp only [Option.some.injEq, reduceCtorEq] at hs hR
      case bool => subst hs; exact hR
      case int k => subst hs; exact hR
      case string => subst hs; exact hR
      case slice e =>
        split at hs
        · rename_i y hy
          split at hs
          · rename_i hc
            simp only [Option.some.injEq] at hs
            subst hs
            simp only [Bool.and_eq_true, Nat.beq_eq] at hc
            obtain ⟨s, rfl, hS⟩ := hR
            have hpos : 0 < P.bytesOf e := Nat.le_of_ble_eq_true hc.2
            refine ⟨s, rfl, ?_⟩
            rcases hS hpos with hS | ⟨a, h1, h2, h3, h4, h5⟩
            · exact .inl hS
            · refine .inr ⟨a, h1, h2, h3, h4, fun i hi => ?_⟩
              obtain ⟨cs, k1, k2, k3⟩ := h5 i hi
              exact ⟨cs, k1, k2, fits_of d hy k3 (.inr trivial)⟩
          · simp at hs
        · simp at hs
      case struct fs =>
        split at hs
        · rename_i y hy
          split at hs
          · rename_i hc
            simp only [Option.some.injEq] at hs
            subst hs
            rw [Nat.beq_eq] at hc
            have := fits_fs (P := P) (h := h) (N := N) (R := fun t cs => RdN P h N n t cs) (fun t x cs h1 h2 _ => fits_of d h1 h2 (.inr trivial)) hy (cs := cs) (by rw [hR.1, hc]; omega) hR.2
            simpa using this
          · simp at hs
        · simp at hs
      case array m e =>
        split at hs
        · rename_i y hy
          split at hs
          · rename_i hc
            simp only [Option.some.injEq] at hs
            subst hs
            simp only [Bool.and_eq_true, Nat.beq_eq] at hc
            refine fits_rep m (by rw [hR.1, hc.1]; exact hc.2) fun i hi => ?_
            rw [hc.1]
            exact fits_of d hy (hR.2 i hi) (.inr trivial)
          · simp at hs
        · simp at hs
/-- The elements of a slice that came in. -/
theorem SlN.view {α : Type} {h : Heap} {N sz bts : Nat} {s : Sl} {E : List Value → Prop} (S : SlN h N sz bts s E) (R : α → List Value → Prop) (hE : ∀ cs, E cs → ∃ x, R x cs) : s.len ≤ s.cap ∧ s.cap ≤ N ∧ s.cap * bts ≤ 140737488351232 ∧ ∃ xs : List α, View h sz R s xs := by
  rcases S with ⟨h1, h2, h3⟩ | ⟨a, h1, h2, h3, h4, h5⟩
  · exact ⟨by omega, by omega, by rw [h3]; omega, [], by rw [h2]; rfl, by simp⟩
  · refine ⟨h2, h4, h3, ?_⟩
    have : ∀ n, n ≤ s.cap → ∃ xs : List α, xs.length = n ∧ ∀ (i : Nat) x, xs[i]? = some x → ∃ a cs, s.ptr = some a ∧ cs.length = sz ∧ R x cs ∧ cellsAre h (a.add (i * sz)) cs := by
      intro n
      induction n with
      | zero => intro _; exact ⟨[], rfl, by simp⟩
      | succ n ih =>
        intro hn
        obtain ⟨xs, hl, hx⟩ := ih (by omega)
        obtain ⟨cs, k1, k2, k3⟩ := h5 n (by omega)
        obtain ⟨x, hR⟩ := hE cs k3
        refine ⟨xs ++ [x], by simp [hl], fun i y hy => ?_⟩
        rw [List.getElem?_append] at hy
        split at hy
        · exact hx i y hy
        · rename_i hi
          have : i = n := by
            rw [hl] at hi hy
            by_cases e : i - n = 0
            · omega
            · rw [List.getElem?_eq_none (by simp; omega)] at hy; simp at hy
          subst this
          rw [hl, Nat.sub_self] at hy
          simp at hy; subst hy
          exact ⟨a, cs, h1, k1, hR, k2⟩
    obtain ⟨xs, hl, hx⟩ := this s.len h2
    exact ⟨xs, hl.symm, hx⟩
theorem u8_of {cs : List Value} {h : Heap} {N : Nat} (hf : Fit h N (.int .u8) cs) : ∃ x : UInt8, En u8 x cs := by
  obtain ⟨x, rfl, h1, h2⟩ := hf
  simp [IntKind.min, IntKind.max, IntKind.bits, IntKind.signed] at h1 h2
  refine ⟨UInt8.ofNat x.toNat, ?_⟩
  simp only [En, u8, UInt8.toNat_ofNat', List.cons.injEq, Value.int.injEq, true_and, and_true]
  omega
/-- A list of bytes that came in. -/
theorem SlN.bytes {h : Heap} {N : Nat} {s : Sl} (S : SlN h N 1 1 s fun cs => Fit h N (.int .u8) cs) : s.len ≤ s.cap ∧ s.cap ≤ N ∧ ∃ l : List UInt8, Bytes h s l := by
  obtain ⟨h1, h2, _, xs, V⟩ := S.view (En u8) (fun cs hf => u8_of hf)
  exact ⟨h1, h2, xs, V⟩
end Go.Proofs.Ytompmkmbppcadaa.V
