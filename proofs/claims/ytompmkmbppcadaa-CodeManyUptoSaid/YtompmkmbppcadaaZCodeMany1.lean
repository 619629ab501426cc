import Derived.Test.YtompmkmbppcadaaZCodeMany0
import Derived.Laws.Append
import Derived.Test.YtompmkmbppcadaaProg
/-
  LISTS IN MEMORY: lists that can be read ('View'), slices that are a part's own ('bufs', 'buf'); making, appending, copying, slicing.
-/
namespace Go.Proofs.Ytompmkmbppcadaa.V
open Go Go.RowKit
set_option linter.unusedVariables false
set_option linter.unusedSimpArgs false

variable {α β : Type}
/-- A slice whose elements can be read: each in so many cells. -/
def View (h : Heap) (sz : Nat) (R : α → List Value → Prop) (s : Sl) (xs : List α) : Prop :=
  s.len = xs.length ∧ ∀ i x, xs[i]? = some x → ∃ a cs, s.ptr = some a ∧ cs.length = sz ∧ R x cs ∧ cellsAre h (a.add (i * sz)) cs
abbrev En (enc : α → List Value) : α → List Value → Prop := fun x cs => cs = enc x
def u8 (x : UInt8) : List Value := [.int .u8 (x.toNat : Int)]
abbrev Bytes (h : Heap) (s : Sl) (l : List UInt8) : Prop := View h 1 (En u8) s l
theorem View.mono {h h' : Heap} {sz : Nat} {R R' : α → List Value → Prop} {s : Sl} {xs : List α} (V : View h sz R s xs) (k : KeptH h h') (hR : ∀ x ∈ xs, ∀ cs, R x cs → R' x cs) : View h' sz R' s xs := by
  refine ⟨V.1, fun i x hx => ?_⟩
  obtain ⟨a, cs, h1, h2, h3, h4⟩ := V.2 i x hx
  exact ⟨a, cs, h1, h2, hR x (List.mem_of_getElem? hx) cs h3, cellsAre_kept k h4⟩
theorem View.kept {h h' : Heap} {sz : Nat} {R : α → List Value → Prop} {s : Sl} {xs : List α} (V : View h sz R s xs) (k : KeptH h h') : View h' sz R s xs := V.mono k fun _ _ _ h => h
theorem View.nil {h : Heap} {sz : Nat} {R : α → List Value → Prop} {p : Option Addr} {c : Nat} : View h sz R ⟨p, 0, c⟩ ([] : List α) := ⟨rfl, by simp⟩
theorem View.len {h : Heap} {sz : Nat} {R : α → List Value → Prop} {s : Sl} {xs : List α} (V : View h sz R s xs) : s.len = xs.length := V.1
theorem cellsAre_drop {h : Heap} : ∀ {cs : List Value} {a : Addr} (o : Nat), cellsAre h a cs → cellsAre h (a.add o) (cs.drop o)
  | cs, a, 0, hc => by rw [Addr.add_zero']; simpa using hc
  | [], a, o + 1, hc => by simp [cellsAre]
  | v :: vs, a, o + 1, hc => by
    have := cellsAre_drop (a := a.add 1) o hc.2
    rwa [Addr_add_add, Nat.add_comm] at this
theorem ld_drop {h : Heap} {cs : List Value} {a : Addr} {ks : List Kd} {K : Fn ks Prop} (c : cellsAre h a cs) (o : Nat) (hl : ldL ks (cs.drop o) K) : ld ks (a.add o) h K := ld_are (cellsAre_drop o c) hl
/-- An element's place. -/
theorem View.ix {h : Heap} {sz : Nat} {R : α → List Value → Prop} {s : Sl} {xs : List α} {i : Int} {K : Addr → Prop} (V : View h sz R s xs) (h0 : 0 ≤ i) (h1 : i < (xs.length : Int))
    (k : ∀ a cs x, xs[i.toNat]? = some x → cs.length = sz → R x cs → cellsAre h a cs → K a) : ixS sz s i K := by
  have hi : i.toNat < xs.length := by omega
  obtain ⟨a, cs, h2, h3, h4, h5⟩ := V.2 i.toNat _ (List.getElem?_eq_getElem hi)
  refine ⟨a, h2, h0, by rw [V.1]; exact h1, ?_⟩
  exact k _ cs _ (List.getElem?_eq_getElem hi) h3 h4 h5
/-- One byte. -/
theorem Bytes.at {h : Heap} {s : Sl} {l : List UInt8} {i : Int} {K : Int → Prop} (V : Bytes h s l) (h0 : 0 ≤ i) (h1 : i < (l.length : Int)) (k : ∀ x, l[i.toNat]? = some x → K (x.toNat : Int)) : ixS 1 s i fun a => ld [.int .u8] a h K :=
  V.ix h0 h1 fun a cs x hx hl hR hc => by
    subst hR
    exact ld_are hc ⟨_, rfl, k x hx⟩
theorem cellsAre_nil {h : Heap} {a : Addr} : cellsAre h a [] := trivial
theorem View.cells {h : Heap} {sz : Nat} {R : α → List Value → Prop} {s : Sl} : ∀ {xs : List α} {o : Nat}, (∀ (i : Nat) x, xs[i]? = some x → ∃ a cs, s.ptr = some a ∧ cs.length = sz ∧ R x cs ∧ cellsAre h (a.add ((o + i) * sz)) cs) →
    ∀ a, s.ptr = some a → ∃ css : List (List Value), css.length = xs.length ∧ (∀ (i : Nat) x cs, xs[i]? = some x → css[i]? = some cs → cs.length = sz ∧ R x cs) ∧ cellsAre h (a.add (o * sz)) css.flatten
  | [], o, _, a, _ => ⟨[], rfl, by simp, trivial⟩
  | x :: xs, o, V, a, ha => by
    obtain ⟨a', cs, h1, h2, h3, h4⟩ := V 0 x rfl
    rw [ha] at h1; simp at h1; subst h1
    obtain ⟨css, h5, h6, h7⟩ := View.cells (h := h) (R := R) (s := s) (sz := sz) (xs := xs) (o := o + 1) (fun i y hy => by
      obtain ⟨a', cs, h1, h2, h3, h4⟩ := V (i + 1) y (by simpa using hy)
      exact ⟨a', cs, h1, h2, h3, by rw [show o + 1 + i = o + (i + 1) by omega]; exact h4⟩) a ha
    refine ⟨cs :: css, by simp [h5], ?_, ?_⟩
    · intro i y ds hy hd
      cases i with
      | zero => simp at hy hd; subst hy; subst hd; exact ⟨h2, h3⟩
      | succ i => exact h6 i y ds (by simpa using hy) (by simpa using hd)
    · rw [List.flatten_cons]
      refine cellsAre_append (by simpa using h4) ?_
      rw [Addr_add_add, h2, show o * sz + sz = (o + 1) * sz by rw [Nat.add_mul, Nat.one_mul]]
      exact h7
theorem flatten_enc {enc : α → List Value} : ∀ {xs : List α} {css : List (List Value)}, css.length = xs.length → (∀ (i : Nat) x cs, xs[i]? = some x → css[i]? = some cs → cs = enc x) → css.flatten = xs.flatMap enc
  | [], [], _, _ => rfl
  | [], _ :: _, h, _ => by simp at h
  | _ :: _, [], h, _ => by simp at h
  | x :: xs, c :: css, h, k => by
    rw [List.flatten_cons, List.flatMap_cons, k 0 x c rfl rfl, flatten_enc (by simpa using h) fun i y cs hy hc => k (i + 1) y cs (by simpa using hy) (by simpa using hc)]
theorem flatMap_len {enc : α → List Value} {sz : Nat} (he : ∀ x, (enc x).length = sz) : ∀ xs : List α, (xs.flatMap enc).length = xs.length * sz
  | [] => by simp
  | x :: xs => by rw [List.flatMap_cons, List.length_append, he, flatMap_len he xs, List.length_cons, Nat.add_mul, Nat.one_mul, Nat.add_comm]
/-- All its cells, in a row. -/
theorem View.rd {h : Heap} {sz : Nat} {enc : α → List Value} {s : Sl} {xs : List α} (he : ∀ x, (enc x).length = sz) (V : View h sz (En enc) s xs) : rdP h s.ptr (s.len * sz) = some (xs.flatMap enc) := by
  rw [V.1, ← flatMap_len he]
  cases xs with
  | nil =>
    cases hp : s.ptr with
    | none => rfl
    | some a => rfl
  | cons x xs =>
    obtain ⟨a, cs, h1, _⟩ := V.2 0 x rfl
    obtain ⟨css, h2, h3, h4⟩ := View.cells (h := h) (R := En enc) (s := s) (sz := sz) (xs := x :: xs) (o := 0) (fun i y hy => by
      obtain ⟨a, cs, k1, k2, k3, k4⟩ := V.2 i y hy
      exact ⟨a, cs, k1, k2, k3, by rw [Nat.zero_add]; exact k4⟩) a h1
    rw [h1]
    have e := flatten_enc (enc := enc) h2 fun i y cs hy hc => (h3 i y cs hy hc).2
    rw [e, Nat.zero_mul, Addr.add_zero'] at h4
    exact rdL_are h4
theorem rdL_take {h : Heap} : ∀ {cs : List Value} {a : Addr} (n : Nat), n ≤ cs.length → cellsAre h a cs → rdL h a n = some (cs.take n)
  | cs, a, n, hn, hc => by
    have := rdL_are (cellsAre_take n hc)
    rwa [List.length_take, Nat.min_eq_left hn] at this
/-- The first so many elements' cells. -/
theorem View.rdn {h : Heap} {sz : Nat} {enc : α → List Value} {s : Sl} {xs : List α} (he : ∀ x, (enc x).length = sz) (V : View h sz (En enc) s xs) (n : Nat) (hn : n ≤ xs.length) : rdP h s.ptr (n * sz) = some ((xs.take n).flatMap enc) := by
  have : View h sz (En enc) ⟨s.ptr, n, n⟩ (xs.take n) := by
    refine ⟨by simp [hn], fun i x hx => ?_⟩
    rw [List.getElem?_take] at hx
    split at hx
    · exact V.2 i x hx
    · simp at hx
  exact this.rd he
/-! ### the parts of a list -/
theorem View.slice {h : Heap} {sz : Nat} {R : α → List Value → Prop} {s : Sl} {xs : List α} (V : View h sz R s xs) (i j m : Nat) (hi : i ≤ j) (hj : j ≤ xs.length) (hc : s.len ≤ s.cap) : View h sz R ⟨slp sz s i, j - i, m⟩ ((xs.drop i).take (j - i)) := by
  refine ⟨by simp; omega, fun k x hx => ?_⟩
  rw [List.getElem?_take] at hx
  split at hx
  · rename_i hk
    rw [List.getElem?_drop] at hx
    obtain ⟨a, cs, h1, h2, h3, h4⟩ := V.2 (i + k) x hx
    have hl := V.1
    refine ⟨a.add (i * sz), cs, ?_, h2, h3, ?_⟩
    · unfold slp
      rw [if_neg (by omega), h1]; rfl
    · rw [Addr_add_add, ← Nat.add_mul]; exact h4
  · simp at hx
theorem View.take {h : Heap} {sz : Nat} {R : α → List Value → Prop} {s : Sl} {xs : List α} (V : View h sz R s xs) (j m : Nat) (hj : j ≤ xs.length) : View h sz R ⟨s.ptr, j, m⟩ (xs.take j) := by
  refine ⟨by simp [hj], fun k x hx => ?_⟩
  rw [List.getElem?_take] at hx
  split at hx
  · exact V.2 k x hx
  · simp at hx

/-! ### slices of a part's own -/
def bufs (sz : Nat) (enc : α → List Value) (s : Sl) (xs : List α) (sp : List Value) : Res := fun E =>
  (s = ⟨none, 0, 0⟩ ∧ xs = [] ∧ sp = [] ∧ E = []) ∨ ∃ b k, s = ⟨some (pt b 0), xs.length, xs.length + k⟩ ∧ sp.length = k * sz ∧ E = [(b, xs.flatMap enc ++ sp)]
def buf (sz : Nat) (enc : α → List Value) (s : Sl) (xs : List α) : Res := ex fun sp => bufs sz enc s xs sp
theorem bufs.lens {sz : Nat} {enc : α → List Value} {s : Sl} {xs : List α} {sp : List Value} {E : Blks} (h : bufs sz enc s xs sp E) : s.len = xs.length ∧ s.len ≤ s.cap := by
  rcases h with ⟨rfl, rfl, _, _⟩ | ⟨b, k, rfl, _, _⟩ <;> simp
theorem nth_mem : ∀ {i : Nat} {L : List Res}, i < L.length → nth i L ∈ L
  | 0, A :: _, _ => by simp [nth]
  | i + 1, _ :: L, h => by simp only [nth]; exact List.mem_cons_of_mem _ (nth_mem (by simpa using h))
  | _, [], h => by simp at h
theorem flat_at {enc : α → List Value} {sz : Nat} (he : ∀ x, (enc x).length = sz) : ∀ {xs : List α} {i : Nat} {x : α} (sp : List Value), xs[i]? = some x → ((xs.flatMap enc ++ sp).drop (i * sz)).take sz = enc x
  | [], i, x, _, h => by simp at h
  | y :: ys, 0, x, sp, h => by
    simp at h; subst h
    rw [List.flatMap_cons, Nat.zero_mul, List.drop_zero, List.append_assoc, List.take_append_of_le_length (by rw [he]; exact Nat.le_refl _), List.take_of_length_le (by rw [he]; exact Nat.le_refl _)]
  | y :: ys, i + 1, x, sp, h => by
    have := flat_at he (xs := ys) (i := i) (x := x) sp (by simpa using h)
    rw [List.flatMap_cons, List.append_assoc, List.drop_append, List.drop_of_length_le (by rw [he, Nat.add_mul]; omega), he, List.nil_append, show (i + 1) * sz - sz = i * sz by rw [Nat.add_mul]; omega]
    exact this
theorem nth_set : ∀ {i : Nat} {L : List Res} (B : Res), i < L.length → nth i (L.set i B) = B
  | 0, _ :: _, _, _ => rfl
  | i + 1, _ :: L, B, h => nth_set (i := i) (L := L) B (by simpa using h)
  | _, [], _, h => by simp at h
theorem view_of_blk {h : Heap} {b k sz : Nat} {enc : α → List Value} (he : ∀ x, (enc x).length = sz) {xs : List α} {sp : List Value} (B : Blk h b (xs.flatMap enc ++ sp)) : View h sz (En enc) ⟨some (pt b 0), xs.length, k⟩ xs := by
  refine ⟨rfl, fun i x hx => ⟨_, _, rfl, he x, rfl, ?_⟩⟩
  rw [pt_add, Nat.zero_add, ← flat_at he sp hx]
  exact cellsAre_blk B _ _
theorem Sat.views {h0 h : Heap} {L : List Res} (O : Sat h0 h L) (i : Nat) {sz : Nat} {enc : α → List Value} {s : Sl} {xs : List α} {sp : List Value} (he : ∀ x, (enc x).length = sz) (hl : i < L.length) (hi : nth i L = bufs sz enc s xs sp) : View h sz (En enc) s xs ∧ s.len ≤ s.cap := by
  obtain ⟨E1, E2, h1, O', _⟩ := O.at i hl
  rw [hi] at h1
  refine ⟨?_, (bufs.lens h1).2⟩
  rcases h1 with ⟨rfl, rfl, rfl, rfl⟩ | ⟨b, k, rfl, hsp, rfl⟩
  · exact View.nil
  · exact view_of_blk he (O'.blk _ (List.mem_cons_self)).2
theorem Sat.view {h0 h : Heap} {L : List Res} (O : Sat h0 h L) (i : Nat) {sz : Nat} {enc : α → List Value} {s : Sl} {xs : List α} (he : ∀ x, (enc x).length = sz) (hl : i < L.length) (hi : nth i L = buf sz enc s xs) : View h sz (En enc) s xs ∧ s.len ≤ s.cap := by
  obtain ⟨E1, E2, h1, O', h2⟩ := O.at i hl
  rw [hi] at h1
  obtain ⟨sp, h1⟩ := h1
  have O2 := h2 (bufs sz enc s xs sp) E1 h h1 O'
  exact O2.views (sp := sp) i he (by simpa using hl) (nth_set _ hl)
/-- A view that stays, whatever becomes of the others. -/
def Stays (h0 : Heap) (L : List Res) (p : Heap → Prop) : Prop := ∀ h, Sat h0 h L → p h
theorem rdP_own {h0 h : Heap} {L : List Res} (O : Sat h0 h L) (i : Nat) {b : Nat} {cs : List Value} (hi : nth i L = own b cs) (n : Nat) (hn : n ≤ cs.length) : rdP h (some (pt b 0)) n = some (cs.take n) := by
  have := cellsAre_blk (O.blk (nth_lt hi) hi).2 0 cs.length
  rw [List.drop_zero, List.take_length] at this
  exact rdL_take n hn this
/-- A cell list is laid over the first of others. -/
theorem put_app : ∀ (us ss ns : List Value) , ns.length ≤ ss.length → V.put (us ++ ss) us.length ns = us ++ ns ++ ss.drop ns.length := by
  intro us ss ns h
  have := put_mid us (ss.take ns.length) (ss.drop ns.length) ns (by simp [h])
  rw [List.append_assoc, List.take_append_drop] at this
  exact this
/-- APPEND: one's own slice grows. -/
theorem Sat.app_buf {h0 h : Heap} {L : List Res} {sz bts T : Nat} {enc : α → List Value} {s : Sl} {xs : List α} {z : Value} {src : Option Addr} {m : Nat} {K : Sl → Heap → Prop} (O : Sat h0 h (buf sz enc s xs :: L))
    (he : ∀ x, (enc x).length = sz) (ho : ∀ x, (enc x).all oneV = true) (hz : z.cells.size = sz) {ys : List α} (hm : m = ys.length) (hr : rdP h src (m * sz) = some (ys.flatMap enc)) (hb : (xs.length + ys.length) * bts ≤ 140737488355328)
    (k : ∀ s' h', Sat h0 h' (buf sz enc s' (xs ++ ys) :: L) → s'.len = xs.length + ys.length → K s' h') : V.app T sz bts z s src m h K := by
  obtain ⟨sp, O⟩ := O.ex
  obtain ⟨E, ⟨E1, E2, p, hA, h2⟩, O⟩ := O
  have O := O.perm p.symm
  subst hm
  have hall : (ys.flatMap enc).all oneV = true := by simp only [List.all_eq_true, List.mem_flatMap]; rintro v ⟨x, _, hv⟩; exact List.all_eq_true.1 (ho x) v hv
  have hly : (ys.flatMap enc).length = ys.length * sz := flatMap_len he ys
  have hlx : (xs.flatMap enc).length = xs.length * sz := flatMap_len he xs
  have fresh : ∀ c, xs.length + ys.length ≤ c → Sat h0 (h.push (.cells (xs.flatMap enc ++ ys.flatMap enc ++ (Builtin.zeroCells z.cells (c - (xs.length + ys.length))).toList).toArray T)) (buf sz enc ⟨some (pt h.size 0), xs.length + ys.length, c⟩ (xs ++ ys) :: L) := by
    intro c hc
    have O' := (O.sub (List.sublist_append_right E1 E2)).push (xs.flatMap enc ++ ys.flatMap enc ++ (Builtin.zeroCells z.cells (c - (xs.length + ys.length))).toList) T (0, 0) (.inl rfl)
    refine ⟨_, ⟨[(h.size, (xs ++ ys).flatMap enc ++ (Builtin.zeroCells z.cells (c - (xs.length + ys.length))).toList)], E2, List.Perm.refl _, ⟨(Builtin.zeroCells z.cells (c - (xs.length + ys.length))).toList, .inr ⟨h.size, c - (xs.length + ys.length), ?_, ?_, rfl⟩⟩, h2⟩, ?_⟩
    · simp; omega
    · simp [Builtin.zeroCells, hz]
    · rw [List.flatMap_append]; exact O'
  refine ⟨_, hr, fun hcap => ?_, fun hcap => ⟨growslice_fits (by exact hcap) (by
    rcases hA with ⟨rfl, rfl, rfl, rfl⟩ | ⟨b, j, rfl, hsp, rfl⟩ <;> simpa using hb), ?_⟩⟩
  · rcases hA with ⟨rfl, rfl, rfl, rfl⟩ | ⟨b, j, rfl, hsp, rfl⟩
    · simp at hcap
      subst hcap
      refine k _ _ ⟨E2, ⟨[], E2, List.Perm.refl _, ⟨[], .inl ⟨by simp, by simp, rfl, rfl⟩⟩, h2⟩, O⟩ (by simp)
    · simp only [Option.map_some, stP, pt_add, Nat.zero_add]
      simp only at hcap
      have hj : ys.length ≤ j := by omega
      have hmul : ys.length * sz ≤ j * sz := Nat.mul_le_mul_right _ hj
      refine Held.st O (by simp [hlx, hly, hsp]; omega) hall fun h' O' => ?_
      rw [← hlx, put_app _ _ _ (by rw [hly, hsp]; exact hmul)] at O'
      refine k _ _ ⟨_, ⟨[(b, (xs ++ ys).flatMap enc ++ sp.drop (ys.flatMap enc).length)], E2, List.Perm.refl _, ⟨sp.drop (ys.flatMap enc).length, .inr ⟨b, j - ys.length, ?_, ?_, rfl⟩⟩, h2⟩, ?_⟩ rfl
      · simp; omega
      · rw [List.length_drop, hly, hsp, Nat.sub_mul]
      · rw [List.flatMap_append]; exact O'
  · rcases hA with ⟨rfl, rfl, rfl, rfl⟩ | ⟨b, j, rfl, hsp, rfl⟩
    · refine ⟨[], rfl, fun c hc => ?_⟩
      have := fresh c (by simpa using hc)
      simp only [List.length_nil, Nat.zero_add, List.nil_append, List.flatMap_nil] at this hc ⊢
      exact k _ _ this (by simp)
    · refine ⟨xs.flatMap enc, ?_, fun c hc => ?_⟩
      · simp only
        have := cellsAre_blk (O.blk _ (List.mem_cons_self)).2 0 (xs.flatMap enc ++ sp).length
        rw [List.drop_zero, List.take_length] at this
        simp only [rdP]
        have h3 := rdL_take (xs.length * sz) (by simp [hlx]) this
        rw [← hlx, List.take_left] at h3
        rw [← hlx]; exact h3
      · exact k _ _ (fresh c hc) rfl
/-- One value is appended. -/
theorem Sat.push_buf {h0 h : Heap} {L : List Res} {sz bts T T' : Nat} {enc : α → List Value} {s : Sl} {xs : List α} {z : Value} {K : Sl → Heap → Prop} (O : Sat h0 h (buf sz enc s xs :: L)) (y : α) {cs : List Value} (hcs : cs = enc y)
    (he : ∀ x, (enc x).length = sz) (ho : ∀ x, (enc x).all oneV = true) (hz : z.cells.size = sz) (hb : (xs.length + 1) * bts ≤ 140737488355328)
    (k : ∀ s' h', Sat h0 h' (buf sz enc s' (xs ++ [y]) :: L) → s'.len = xs.length + 1 → K s' h') : V.al T' cs h fun a h1 => V.app T sz bts z s (some a) 1 h1 K := by
  subst hcs
  refine O.al fun b h1 O1 => ?_
  have hr := rdP_own O1 0 rfl sz (by rw [he]; exact Nat.le_refl _)
  refine Sat.app_buf (O1.swap) he ho hz (ys := [y]) rfl (by rw [Nat.one_mul, hr]; simp; rw [List.take_of_length_le (by rw [he]; exact Nat.le_refl _)]) hb fun s' h' O' hl => k s' h' ?_ hl
  exact O'.swap.drop
/-- MAKE. -/
theorem mkCells_len {z : Value} {n : Nat} : (mkCells z n).length = n := by simp [mkCells]
theorem Sat.mk_buf {h0 h : Heap} {L : List Res} {T sz bts : Nat} {z : Value} {l c : Int} {K : Sl → Heap → Prop} (O : Sat h0 h L) (h1 : 0 ≤ l) (h2 : l ≤ c) (h3 : (bts : Int) * c ≤ 281474976710656)
    (k : ∀ b h', Sat h0 h' (own b (mkCells z (c.toNat * sz)) :: L) → K ⟨some (pt b 0), l.toNat, c.toNat⟩ h') : V.mk T sz bts z l c h K :=
  ⟨h1, h2, h3, k h.size _ (O.push _ T (0, 0) (.inl rfl))⟩
/-- A view over one's own block. -/
theorem Sat.own_buf {h0 h : Heap} {L : List Res} {b k sz : Nat} {enc : α → List Value} {xs : List α} {sp : List Value} (O : Sat h0 h (own b (xs.flatMap enc ++ sp) :: L)) (hsp : sp.length = k * sz) : Sat h0 h (bufs sz enc ⟨some (pt b 0), xs.length, xs.length + k⟩ xs sp :: L) :=
  O.mono fun E h => .inr ⟨b, k, rfl, hsp, h⟩
theorem Sat.bufsI {h0 h : Heap} {L : List Res} {sz : Nat} {enc : α → List Value} {s : Sl} {xs : List α} {sp : List Value} (O : Sat h0 h (bufs sz enc s xs sp :: L)) : Sat h0 h (buf sz enc s xs :: L) := O.exI sp
theorem Sat.nil_buf {h0 h : Heap} {L : List Res} {sz : Nat} {enc : α → List Value} (O : Sat h0 h L) : Sat h0 h (buf sz enc ⟨none, 0, 0⟩ [] :: L) := O.empI.mono fun E h => ⟨[], .inl ⟨rfl, rfl, rfl, h⟩⟩
end Go.Proofs.Ytompmkmbppcadaa.V
/-
  WHAT AN ARGUMENT IS: from the form's reading of an argument ('trod') to typed cells ('Fits'), with bounds on lengths.
-/
namespace Go.Proofs.Ytompmkmbppcadaa.V
open Go Go.RowKit
set_option linter.unusedVariables false
set_option linter.unusedSimpArgs false

/-- A slice that came in, of at most so many places. -/
def SlN (h : Heap) (N size bytes : Nat) (s : Sl) (E : List Value → Prop) : Prop :=
  (s.ptr = none ∧ s.len = 0 ∧ s.cap = 0) ∨
  ∃ a, s.ptr = some a ∧ s.len ≤ s.cap ∧ s.cap * bytes ≤ 140737488351232 ∧ s.cap ≤ N ∧ ∀ i, i < s.cap → ∃ cs, cs.length = size ∧ cellsAre h (a.add (i * size)) cs ∧ E cs
def RdN (P : Program) (h : Heap) (N : Nat) : Nat → TypeId → List Value → Prop
  | 0, _, _ => False
  | n + 1, t, cs => match P.underlying t with
    | some .bool => ∃ b, cs = [.bool b]
    | some (.int k) => ∃ x, cs = [.int k x] ∧ k.min ≤ x ∧ x ≤ k.max
    | some .string => ∃ s : ByteArray, cs = [.string s] ∧ s.size ≤ N
    | some (.slice e) => ∃ s : Sl, cs = [.slice s.ptr s.len s.cap] ∧ (0 < P.bytesOf e → SlN h N (P.cellsOf e) (P.bytesOf e) s fun cs => RdN P h N n e cs)
    | some (.struct fs) => cs.length = P.cellsOf t ∧ ∀ f ∈ fs.toList, RdN P h N n f.type ((cs.drop f.offset).take (P.cellsOf f.type))
    | some (.array m e) => cs.length = P.cellsOf t ∧ ∀ i, i < m → RdN P h N n e ((cs.drop (i * P.cellsOf e)).take (P.cellsOf e))
    | _ => True
section
variable {H : Type} {enc : TypeId × Value → H} {P : Program} {w : World}
/-- A bound that its parts bear too. -/
structure Bound (P : Program) (N : Nat) (B : TypeId → DataW H → Prop) : Prop where
  str : ∀ t b, P.underlying t = some .string → B t (.lit (.string b)) → b.length ≤ N
  sl : ∀ t e xs ys, P.underlying t = some (.slice e) → B t (.slice xs ys) → (xs.length + ys.length) * P.bytesOf e ≤ 140737488351232 ∧ (0 < P.bytesOf e → xs.length + ys.length ≤ N) ∧ (∀ d ∈ xs, B e d) ∧ ∀ d ∈ ys, B e d
  st : ∀ t fs ds, P.underlying t = some (.struct fs) → B t (.agg ds) → ∀ (i : Nat) f d, fs.toList[i]? = some f → ds[i]? = some d → B f.type d
  ar : ∀ t m e ds, P.underlying t = some (.array m e) → B t (.agg ds) → ∀ d ∈ ds, B e d
theorem bound_said {P : Program} : Bound (H := H) P 140737488351232 fun t d => ∀ x ∈ d.weights P t, x ≤ reachBytes := by
  refine ⟨?_, ?_, ?_, ?_⟩
  · intro t b hu h
    have := h b.length (by simp [DataW.weights])
    simpa [reachBytes] using this
  · intro t e xs ys hu h
    simp only [DataW.weights, hu] at h
    have h1 := h _ (List.mem_cons_self)
    simp only [reachBytes] at h1
    refine ⟨h1, fun hb => ?_, weightsAll_mem (p := (· ≤ reachBytes)) (fun x hx => h x (List.mem_cons_of_mem _ (List.mem_append.2 (.inl hx)))), weightsAll_mem (p := (· ≤ reachBytes)) (fun x hx => h x (List.mem_cons_of_mem _ (List.mem_append.2 (.inr hx))))⟩
    exact Nat.le_trans (Nat.le_mul_of_pos_right _ hb) h1
  · intro t fs ds hu h i f d hf hd
    simp only [DataW.weights, hu] at h
    exact weightsEach_at (p := (· ≤ reachBytes)) (ts := fs.toList.map (·.type)) (ds := ds) h i f.type d (by simp [hf]) hd
  · intro t m e ds hu h d hd
    simp only [DataW.weights, hu] at h
    exact weightsAll_mem (p := (· ≤ reachBytes)) h d hd
theorem bulk_mem {d : DataW H} : ∀ {l : List (DataW H)}, d ∈ l → Rows.uptoBulk d ≤ Rows.uptoBulkAll l
  | [], h => by simp at h
  | x :: l, h => by
    simp only [Rows.uptoBulkAll]
    rcases List.mem_cons.1 h with rfl | h
    · omega
    · have := bulk_mem h; omega
theorem bulk_pos (d : DataW H) : 1 ≤ Rows.uptoBulk d := by
  cases d with
  | lit l => cases l <;> simp [Rows.uptoBulk]
  | nil => simp [Rows.uptoBulk]
  | ptr d => simp [Rows.uptoBulk]
  | slice elems spare => simp [Rows.uptoBulk]
  | agg parts => simp [Rows.uptoBulk]
  | iface t d => simp [Rows.uptoBulk]
  | map entries => simp [Rows.uptoBulk]
  | held h => simp [Rows.uptoBulk]
theorem bulk_len : ∀ (l : List (DataW H)), l.length ≤ Rows.uptoBulkAll l
  | [] => by simp [Rows.uptoBulkAll]
  | x :: l => by have := bulk_pos x; have := bulk_len l; simp only [Rows.uptoBulkAll, List.length_cons]; omega
theorem bound_upto {P : Program} {N : Nat} (hN : N ≤ 1048576) : Bound (H := H) P N fun t d => (∀ x ∈ d.weights P t, x ≤ reachBytes) ∧ Rows.uptoBulk d ≤ N := by
  have s := bound_said (H := H) (P := P)
  refine ⟨?_, ?_, ?_, ?_⟩
  · intro t b hu h
    have := h.2
    simp only [Rows.uptoBulk] at this
    omega
  · intro t e xs ys hu h
    obtain ⟨h1, _, h3, h4⟩ := s.sl t e xs ys hu h.1
    have := h.2
    simp only [Rows.uptoBulk] at this
    have := bulk_len xs
    have := bulk_len ys
    refine ⟨h1, fun _ => by omega, fun d hd => ⟨h3 d hd, ?_⟩, fun d hd => ⟨h4 d hd, ?_⟩⟩
    · have := bulk_mem hd; omega
    · have := bulk_mem hd; omega
  · intro t fs ds hu h i f d hf hd
    refine ⟨s.st t fs ds hu h.1 i f d hf hd, ?_⟩
    have := h.2
    simp only [Rows.uptoBulk] at this
    have := bulk_mem (List.mem_of_getElem? hd)
    omega
  · intro t m e ds hu h d hd
    refine ⟨s.ar t m e ds hu h.1 d hd, ?_⟩
    have := h.2
    simp only [Rows.uptoBulk] at this
    have := bulk_mem hd
    omega
theorem trod_rdN {N : Nat} {B : TypeId → DataW H → Prop} (bd : Bound P N B) : ∀ (fuel : Nat) (t : TypeId) (cs : List Value) (d : DataW H) (ps : List MemPlace), DataW.trod enc P w 0 (fun _ => true) true fuel t cs = some (d, ps) →
    B t d → RdN P w.heap N fuel t cs
  | 0, _, _, _, _, h, _ => by simp [DataW.trod] at h
  | n + 1, t, cs, d, ps, h, hw => by
    unfold RdN
    unfold DataW.trod at h
    cases hu : P.underlying t with
    | none => trivial
    | some td =>
      rw [hu] at h
      cases td with
      | bool =>
        simp only
        split at h <;> simp_all
      | int k =>
        simp only
        split at h <;> simp_all [Lit.wf]
      | string =>
        simp only
        split at h <;> simp_all
        obtain ⟨_, rfl, _⟩ := h
        have := bd.str t _ hu hw
        simpa using this
      | slice e =>
        simp only
        split at h <;> simp_all
        · exact ⟨⟨none, 0, 0⟩, ⟨rfl, rfl, rfl⟩, fun _ => .inl ⟨rfl, rfl, rfl⟩⟩
        · rename_i e' a' a len cap hcs
          obtain ⟨⟨h1, h2⟩, h3⟩ := h
          replace h3 := bind_some h3; obtain ⟨elems, he, h3⟩ := h3
          replace h3 := map_some' h3; obtain ⟨rest, hr, h3⟩ := h3
          simp at h3
          obtain ⟨h3, _⟩ := h3
          subst h3
          obtain ⟨hw1, hwN, hwe, hwr⟩ := bd.sl t a' _ _ hu hw
          simp only [List.length_map] at hw1 hwN
          obtain ⟨le, ge⟩ := mapM_at he
          obtain ⟨lr, gr⟩ := mapM_at hr
          simp at le lr
          refine ⟨⟨some a, len, cap⟩, ⟨rfl, rfl, rfl⟩, fun hpos => .inr ⟨a, rfl, h1, ?_, ?_, fun i hi => ?_⟩⟩
          · rw [le, lr, show len + (cap - len) = cap by omega] at hw1
            exact hw1
          · have := hwN hpos
            rw [le, lr] at this
            simp only
            omega
          · simp only at hi
            have key : ∃ y : DataW H × List MemPlace, ((w.cells? 0 (a.add (i * P.cellsOf a')) (P.cellsOf a')).bind (DataW.trod enc P w 0 (fun x => true) true n a')) = some y ∧ B a' y.1 := by
              by_cases hil : i < len
              · obtain ⟨y, hy, hyi⟩ := ge i i (by simp [hil])
                exact ⟨y, hy, hwe y.1 (List.mem_map.2 ⟨y, List.mem_of_getElem? hyi, rfl⟩)⟩
              · obtain ⟨y, hy, hyi⟩ := gr (i - len) (i - len) (by rw [List.getElem?_range (by omega)])
                rw [show len + (i - len) = i by omega] at hy
                exact ⟨y, hy, hwr y.1 (List.mem_map.2 ⟨y, List.mem_of_getElem? hyi, rfl⟩)⟩
            obtain ⟨⟨yd, yp⟩, hy, hyw⟩ := key
            replace hy := bind_some hy; obtain ⟨cs', hcs', hy⟩ := hy
            obtain ⟨hl, hc⟩ := cells_are hcs'
            exact ⟨cs', hl, hc, trod_rdN bd n _ _ _ _ hy hyw⟩
      | struct fs =>
        simp only at h ⊢
        split at h
        · rename_i hl
          replace h := map_some' h; obtain ⟨xs, hx, h⟩ := h
          simp at h
          obtain ⟨h, _⟩ := h
          subst h
          obtain ⟨lx, gx⟩ := mapM_at hx
          refine ⟨hl, fun f hf => ?_⟩
          obtain ⟨i, hi⟩ := List.mem_iff_getElem?.1 hf
          obtain ⟨⟨yd, yp⟩, hy, hyi⟩ := gx i f hi
          exact trod_rdN bd n _ _ _ _ hy (bd.st t fs _ hu hw i f yd hi (by simp [hyi]))
        · simp at h
      | array m e =>
        simp only at h ⊢
        split at h
        · rename_i hl
          replace h := map_some' h; obtain ⟨xs, hx, h⟩ := h
          simp at h
          obtain ⟨h, _⟩ := h
          subst h
          obtain ⟨lx, gx⟩ := mapM_at hx
          refine ⟨hl, fun i hi => ?_⟩
          obtain ⟨⟨yd, yp⟩, hy, hyi⟩ := gx i i (by simp [hi])
          exact trod_rdN bd n _ _ _ _ hy (bd.ar t m e _ hu hw yd (List.mem_map.2 ⟨(yd, yp), List.mem_of_getElem? hyi, rfl⟩))
        · simp at h
      | _ => trivial
end

/-! ### the types as trees -/
inductive Ty where
  | int (k : IntKind)
  | bool
  | str
  | sl (sz bts : Nat) (e : Ty)
  | nil
  | cons (a b : Ty)
def Ty.size : Ty → Nat
  | .nil => 0
  | .cons a b => a.size + b.size
  | _ => 1
def Ty.rep : Nat → Ty → Ty
  | 0, _ => .nil
  | n + 1, x => .cons x (Ty.rep n x)
def shapeFs (P : Program) (f : TypeId → Option Ty) : Nat → List Field → Option Ty
  | _, [] => some .nil
  | off, fd :: fs => match f fd.type, shapeFs P f (off + P.cellsOf fd.type) fs with
    | some a, some b => match Nat.beq fd.offset off && Nat.beq a.size (P.cellsOf fd.type) with
      | true => some (.cons a b)
      | false => none
    | _, _ => none
def shape (P : Program) : Nat → TypeId → Option Ty
  | 0, _ => none
  | n + 1, t => match P.underlying t with
    | some .bool => some .bool
    | some (.int k) => some (.int k)
    | some .string => some .str
    | some (.slice e) => match shape P n e with
      | some x => match Nat.beq x.size (P.cellsOf e) && Nat.blt 0 (P.bytesOf e) with
        | true => some (.sl (P.cellsOf e) (P.bytesOf e) x)
        | false => none
      | none => none
    | some (.struct fs) => match shapeFs P (shape P n) 0 fs.toList with
      | some x => match Nat.beq x.size (P.cellsOf t) with
        | true => some x
        | false => none
      | none => none
    | some (.array m e) => match shape P n e with
      | some x => match Nat.beq x.size (P.cellsOf e) && Nat.beq (P.cellsOf t) (m * P.cellsOf e) with
        | true => some (Ty.rep m x)
        | false => none
      | none => none
    | _ => none
/-- Cells that are a value of that shape. -/
def Fit (h : Heap) (N : Nat) : Ty → List Value → Prop
  | .int k, cs => ∃ x, cs = [.int k x] ∧ k.min ≤ x ∧ x ≤ k.max
  | .bool, cs => ∃ b, cs = [.bool b]
  | .str, cs => ∃ s : ByteArray, cs = [.string s] ∧ s.size ≤ N
  | .sl sz bts e, cs => ∃ s : Sl, cs = [.slice s.ptr s.len s.cap] ∧ SlN h N sz bts s fun cs => Fit h N e cs
  | .nil, cs => cs = []
  | .cons a b, cs => ∃ c1 c2, cs = c1 ++ c2 ∧ c1.length = a.size ∧ Fit h N a c1 ∧ Fit h N b c2
theorem fits_fs {P : Program} {h : Heap} {N : Nat} {f : TypeId → Option Ty} {R : TypeId → List Value → Prop} (hf : ∀ t x cs, f t = some x → R t cs → cs.length = x.size → Fit h N x cs) :
    ∀ {fs : List Field} {off : Nat} {x : Ty} {cs : List Value}, shapeFs P f off fs = some x → off + x.size = cs.length → (∀ fd ∈ fs, R fd.type ((cs.drop fd.offset).take (P.cellsOf fd.type))) → Fit h N x (cs.drop off)
  | [], off, x, cs, hs, hl, _ => by
    simp only [shapeFs, Option.some.injEq] at hs
    subst hs
    simp only [Ty.size] at hl
    simp [Fit]; omega
  | fd :: fs, off, x, cs, hs, hl, hR => by
    simp only [shapeFs] at hs
    split at hs
    · rename_i a b ha hb
      split at hs
      · rename_i hc
        simp only [Option.some.injEq] at hs
        subst hs
        simp only [Bool.and_eq_true, Nat.beq_eq] at hc
        obtain ⟨h1, h2⟩ := hc
        simp only [Ty.size] at hl
        have hd := hR fd List.mem_cons_self
        rw [h1, ← h2] at hd
        have hlen : ((cs.drop off).take a.size).length = a.size := by simp; omega
        refine ⟨(cs.drop off).take a.size, cs.drop (off + a.size), ?_, hlen, hf _ _ _ ha hd hlen, ?_⟩
        · rw [← List.drop_drop, List.take_append_drop]
        · have := fits_fs hf hb (cs := cs) (by rw [← h2]; omega) fun fd' hfd => hR fd' (List.mem_cons_of_mem _ hfd)
          rw [← h2] at this
          exact this
      · simp at hs
    · simp at hs
theorem fits_rep {h : Heap} {N : Nat} {x : Ty} : ∀ (m : Nat) {cs : List Value}, cs.length = m * x.size → (∀ i, i < m → Fit h N x ((cs.drop (i * x.size)).take x.size)) → Fit h N (Ty.rep m x) cs
  | 0, cs, hl, _ => by simp at hl; simp [Ty.rep, Fit, hl]
  | m + 1, cs, hl, hR => by
    rw [Nat.add_mul, Nat.one_mul] at hl
    refine ⟨cs.take x.size, cs.drop x.size, (List.take_append_drop _ _).symm, by simp; omega, by simpa using hR 0 (by omega), fits_rep m (by simp; omega) fun i hi => ?_⟩
    have := hR (i + 1) (by omega)
    rwa [List.drop_drop, show x.size + i * x.size = (i + 1) * x.size by rw [Nat.add_mul, Nat.one_mul, Nat.add_comm]]
theorem fits_of {P : Program} {h : Heap} {N : Nat} : ∀ (d : Nat) {n : Nat} {t : TypeId} {x : Ty} {cs : List Value}, shape P d t = some x → RdN P h N n t cs → (cs.length = x.size ∨ True) → Fit h N x cs
  | 0, n, t, x, cs, hs, _, _ => by simp [shape] at hs
  | d + 1, 0, t, x, cs, hs, hR, _ => hR.elim
  | d + 1, n + 1, t, x, cs, hs, hR, _ => by
    unfold shape at hs
    unfold RdN at hR
    cases hu : P.underlying t with
    | none => rw [hu] at hs; simp at hs
    | some td =>
      rw [hu] at hs hR
      cases td <;> simp only [Option.some.injEq, reduceCtorEq] at hs hR
      case bool => subst hs; exact hR
      case int k => subst hs; exact hR
      case string => subst hs; exact hR
      case slice e =>
        split at hs
        · rename_i y hy
          split at hs
          · rename_i hc
            simp only [Option.some.injEq] at hs
            subst hs
            simp only [Bool.and_eq_true, Nat.beq_eq] at hc
            obtain ⟨s, rfl, hS⟩ := hR
            have hpos : 0 < P.bytesOf e := Nat.le_of_ble_eq_true hc.2
            refine ⟨s, rfl, ?_⟩
            rcases hS hpos with hS | ⟨a, h1, h2, h3, h4, h5⟩
            · exact .inl hS
            · refine .inr ⟨a, h1, h2, h3, h4, fun i hi => ?_⟩
              obtain ⟨cs, k1, k2, k3⟩ := h5 i hi
              exact ⟨cs, k1, k2, fits_of d hy k3 (.inr trivial)⟩
          · simp at hs
        · simp at hs
      case struct fs =>
        split at hs
        · rename_i y hy
          split at hs
          · rename_i hc
            simp only [Option.some.injEq] at hs
            subst hs
            rw [Nat.beq_eq] at hc
            have := fits_fs (P := P) (h := h) (N := N) (R := fun t cs => RdN P h N n t cs) (fun t x cs h1 h2 _ => fits_of d h1 h2 (.inr trivial)) hy (cs := cs) (by rw [hR.1, hc]; omega) hR.2
            simpa using this
          · simp at hs
        · simp at hs
      case array m e =>
        split at hs
        · rename_i y hy
          split at hs
          · rename_i hc
            simp only [Option.some.injEq] at hs
            subst hs
            simp only [Bool.and_eq_true, Nat.beq_eq] at hc
            refine fits_rep m (by rw [hR.1, hc.1]; exact hc.2) fun i hi => ?_
            rw [hc.1]
            exact fits_of d hy (hR.2 i hi) (.inr trivial)
          · simp at hs
        · simp at hs
/-- The elements of a slice that came in. -/
theorem SlN.view {α : Type} {h : Heap} {N sz bts : Nat} {s : Sl} {E : List Value → Prop} (S : SlN h N sz bts s E) (R : α → List Value → Prop) (hE : ∀ cs, E cs → ∃ x, R x cs) : s.len ≤ s.cap ∧ s.cap ≤ N ∧ s.cap * bts ≤ 140737488351232 ∧ ∃ xs : List α, View h sz R s xs := by
  rcases S with ⟨h1, h2, h3⟩ | ⟨a, h1, h2, h3, h4, h5⟩
  · exact ⟨by omega, by omega, by rw [h3]; omega, [], by rw [h2]; rfl, by simp⟩
  · refine ⟨h2, h4, h3, ?_⟩
    have : ∀ n, n ≤ s.cap → ∃ xs : List α, xs.length = n ∧ ∀ (i : Nat) x, xs[i]? = some x → ∃ a cs, s.ptr = some a ∧ cs.length = sz ∧ R x cs ∧ cellsAre h (a.add (i * sz)) cs := by
      intro n
      induction n with
      | zero => intro _; exact ⟨[], rfl, by simp⟩
      | succ n ih =>
        intro hn
        obtain ⟨xs, hl, hx⟩ := ih (by omega)
        obtain ⟨cs, k1, k2, k3⟩ := h5 n (by omega)
        obtain ⟨x, hR⟩ := hE cs k3
        refine ⟨xs ++ [x], by simp [hl], fun i y hy => ?_⟩
        rw [List.getElem?_append] at hy
        split at hy
        · exact hx i y hy
        · rename_i hi
          have : i = n := by
            rw [hl] at hi hy
            by_cases e : i - n = 0
            · omega
            · rw [List.getElem?_eq_none (by simp; omega)] at hy; simp at hy
          subst this
          rw [hl, Nat.sub_self] at hy
          simp at hy; subst hy
          exact ⟨a, cs, h1, k1, hR, k2⟩
    obtain ⟨xs, hl, hx⟩ := this s.len h2
    exact ⟨xs, hl.symm, hx⟩
theorem u8_of {cs : List Value} {h : Heap} {N : Nat} (hf : Fit h N (.int .u8) cs) : ∃ x : UInt8, En u8 x cs := by
  obtain ⟨x, rfl, h1, h2⟩ := hf
  simp [IntKind.min, IntKind.max, IntKind.bits, IntKind.signed] at h1 h2
  refine ⟨UInt8.ofNat x.toNat, ?_⟩
  simp only [En, u8, UInt8.toNat_ofNat', List.cons.injEq, Value.int.injEq, true_and, and_true]
  omega
/-- A list of bytes that came in. -/
theorem SlN.bytes {h : Heap} {N : Nat} {s : Sl} (S : SlN h N 1 1 s fun cs => Fit h N (.int .u8) cs) : s.len ≤ s.cap ∧ s.cap ≤ N ∧ ∃ l : List UInt8, Bytes h s l := by
  obtain ⟨h1, h2, _, xs, V⟩ := S.view (En u8) (fun cs hf => u8_of hf)
  exact ⟨h1, h2, xs, V⟩
end Go.Proofs.Ytompmkmbppcadaa.V
/-
  SMALL RULES: branches, joins, numbers; and the last step of a law.
-/
namespace Go.Proofs.Ytompmkmbppcadaa.V
open Go Go.RowKit
set_option linter.unusedVariables false
set_option linter.unusedSimpArgs false

theorem brr_p {p : Prop} [Decidable p] {A B : Prop} (h1 : p → A) (h2 : ¬ p → B) : brr (decide p) A B := by
  rw [brr_dec]; split
  · rename_i h; exact h1 h
  · rename_i h; exact h2 h
theorem brr_eq {a b : Int} {A B : Prop} (h1 : a = b → A) (h2 : a ≠ b → B) : brr (a == b) A B := by
  by_cases h : a = b
  · rw [show (a == b) = true by simpa using h]; exact h1 h
  · rw [show (a == b) = false by simpa using h]; exact h2 h
theorem brr_ne {a b : Int} {A B : Prop} (h1 : a ≠ b → A) (h2 : a = b → B) : brr (a != b) A B := by
  by_cases h : a = b
  · rw [show (a != b) = false by simpa using h]; exact h2 h
  · rw [show (a != b) = true by simpa using h]; exact h1 h
theorem brr_not {b : Bool} {A B : Prop} (h : brr b B A) : brr (!b) A B := by cases b <;> exact h
theorem brr_of {b : Bool} {A B : Prop} (h1 : b = true → A) (h2 : b = false → B) : brr b A B := by cases b; exact h2 rfl; exact h1 rfl
theorem brr_tt {b : Bool} {A B : Prop} (e : b = true) (h : A) : brr b A B := by subst e; exact h
theorem brr_ff {b : Bool} {A B : Prop} (e : b = false) (h : B) : brr b A B := by subst e; exact h
theorem ldL_n {vs : List Value} {K : Prop} (h : K) : ldL [] vs K := by cases vs <;> exact h
theorem ldL_c {k : Kd} {ks : List Kd} {x : k.T} {vs : List Value} {K : k.T → Fn ks Prop} (h : ldL ks vs (K x)) : ldL (k :: ks) (k.enc x :: vs) K := ⟨x, rfl, h⟩
/-! ways meet: what holds there -/
theorem jn0 {rest : Heap → Prop} {body : (Heap → Prop) → Prop} (C : Heap → Prop) (h1 : ∀ h, C h → rest h) (h2 : ∀ j : Heap → Prop, (∀ h, C h → j h) → body j) : jn [] rest body := h2 rest h1
theorem jn1 {i : Nat} {k : Kd} {rest : k.T → Heap → Prop} {body : (k.T → Heap → Prop) → Prop} (C : k.T → Heap → Prop) (h1 : ∀ x h, C x h → rest x h) (h2 : ∀ j : k.T → Heap → Prop, (∀ x h, C x h → j x h) → body j) : jn [(i, .one k)] rest body := h2 rest h1
theorem jn2 {i i2 : Nat} {k k2 : Kd} {rest : k.T → k2.T → Heap → Prop} {body : (k.T → k2.T → Heap → Prop) → Prop} (C : k.T → k2.T → Heap → Prop) (h1 : ∀ x y h, C x y h → rest x y h) (h2 : ∀ j : k.T → k2.T → Heap → Prop, (∀ x y h, C x y h → j x y h) → body j) : jn [(i, .one k), (i2, .one k2)] rest body := h2 rest h1
/-! more loops and joins -/
theorem wl5 {i1 i2 i3 i4 i5 : Nat} {k1 k2 k3 k4 k5 : Kd} {B : (k1.T → k2.T → k3.T → k4.T → k5.T → Heap → Prop) → k1.T → k2.T → k3.T → k4.T → k5.T → Heap → Prop} (I : Nat → k1.T → k2.T → k3.T → k4.T → k5.T → Heap → Prop)
    (step : ∀ m x1 x2 x3 x4 x5 h (next : k1.T → k2.T → k3.T → k4.T → k5.T → Heap → Prop), (∀ m' x1' x2' x3' x4' x5' h', m' < m → I m' x1' x2' x3' x4' x5' h' → next x1' x2' x3' x4' x5' h') → I m x1 x2 x3 x4 x5 h → B next x1 x2 x3 x4 x5 h) {m : Nat} {x1 : k1.T} {x2 : k2.T} {x3 : k3.T} {x4 : k4.T} {x5 : k5.T} {h : Heap} (hI : I m x1 x2 x3 x4 x5 h) : wl [(i1, .one k1), (i2, .one k2), (i3, .one k3), (i4, .one k4), (i5, .one k5)] B x1 x2 x3 x4 x5 h := by
  have key : ∀ n x1 x2 x3 x4 x5 h, (∃ m, m < n ∧ I m x1 x2 x3 x4 x5 h) → wit [(i1, .one k1), (i2, .one k2), (i3, .one k3), (i4, .one k4), (i5, .one k5)] B n x1 x2 x3 x4 x5 h := by
    intro n
    induction n with
    | zero => intro x1 x2 x3 x4 x5 h ⟨m, hm, _⟩; omega
    | succ n ih => intro x1 x2 x3 x4 x5 h ⟨m, hm, hI⟩; exact step m x1 x2 x3 x4 x5 h _ (fun m' x1' x2' x3' x4' x5' h' hm' hI' => ih x1' x2' x3' x4' x5' h' ⟨m', by omega, hI'⟩) hI
  exact ⟨m + 1, key (m + 1) x1 x2 x3 x4 x5 h ⟨m, by omega, hI⟩⟩
theorem wl6 {i1 i2 i3 i4 i5 i6 : Nat} {k1 k2 k3 k4 k5 k6 : Kd} {B : (k1.T → k2.T → k3.T → k4.T → k5.T → k6.T → Heap → Prop) → k1.T → k2.T → k3.T → k4.T → k5.T → k6.T → Heap → Prop} (I : Nat → k1.T → k2.T → k3.T → k4.T → k5.T → k6.T → Heap → Prop)
    (step : ∀ m x1 x2 x3 x4 x5 x6 h (next : k1.T → k2.T → k3.T → k4.T → k5.T → k6.T → Heap → Prop), (∀ m' x1' x2' x3' x4' x5' x6' h', m' < m → I m' x1' x2' x3' x4' x5' x6' h' → next x1' x2' x3' x4' x5' x6' h') → I m x1 x2 x3 x4 x5 x6 h → B next x1 x2 x3 x4 x5 x6 h) {m : Nat} {x1 : k1.T} {x2 : k2.T} {x3 : k3.T} {x4 : k4.T} {x5 : k5.T} {x6 : k6.T} {h : Heap} (hI : I m x1 x2 x3 x4 x5 x6 h) : wl [(i1, .one k1), (i2, .one k2), (i3, .one k3), (i4, .one k4), (i5, .one k5), (i6, .one k6)] B x1 x2 x3 x4 x5 x6 h := by
  have key : ∀ n x1 x2 x3 x4 x5 x6 h, (∃ m, m < n ∧ I m x1 x2 x3 x4 x5 x6 h) → wit [(i1, .one k1), (i2, .one k2), (i3, .one k3), (i4, .one k4), (i5, .one k5), (i6, .one k6)] B n x1 x2 x3 x4 x5 x6 h := by
    intro n
    induction n with
    | zero => intro x1 x2 x3 x4 x5 x6 h ⟨m, hm, _⟩; omega
    | succ n ih => intro x1 x2 x3 x4 x5 x6 h ⟨m, hm, hI⟩; exact step m x1 x2 x3 x4 x5 x6 h _ (fun m' x1' x2' x3' x4' x5' x6' h' hm' hI' => ih x1' x2' x3' x4' x5' x6' h' ⟨m', by omega, hI'⟩) hI
  exact ⟨m + 1, key (m + 1) x1 x2 x3 x4 x5 x6 h ⟨m, by omega, hI⟩⟩
theorem wl7 {i1 i2 i3 i4 i5 i6 i7 : Nat} {k1 k2 k3 k4 k5 k6 k7 : Kd} {B : (k1.T → k2.T → k3.T → k4.T → k5.T → k6.T → k7.T → Heap → Prop) → k1.T → k2.T → k3.T → k4.T → k5.T → k6.T → k7.T → Heap → Prop} (I : Nat → k1.T → k2.T → k3.T → k4.T → k5.T → k6.T → k7.T → Heap → Prop)
    (step : ∀ m x1 x2 x3 x4 x5 x6 x7 h (next : k1.T → k2.T → k3.T → k4.T → k5.T → k6.T → k7.T → Heap → Prop), (∀ m' x1' x2' x3' x4' x5' x6' x7' h', m' < m → I m' x1' x2' x3' x4' x5' x6' x7' h' → next x1' x2' x3' x4' x5' x6' x7' h') → I m x1 x2 x3 x4 x5 x6 x7 h → B next x1 x2 x3 x4 x5 x6 x7 h) {m : Nat} {x1 : k1.T} {x2 : k2.T} {x3 : k3.T} {x4 : k4.T} {x5 : k5.T} {x6 : k6.T} {x7 : k7.T} {h : Heap} (hI : I m x1 x2 x3 x4 x5 x6 x7 h) : wl [(i1, .one k1), (i2, .one k2), (i3, .one k3), (i4, .one k4), (i5, .one k5), (i6, .one k6), (i7, .one k7)] B x1 x2 x3 x4 x5 x6 x7 h := by
  have key : ∀ n x1 x2 x3 x4 x5 x6 x7 h, (∃ m, m < n ∧ I m x1 x2 x3 x4 x5 x6 x7 h) → wit [(i1, .one k1), (i2, .one k2), (i3, .one k3), (i4, .one k4), (i5, .one k5), (i6, .one k6), (i7, .one k7)] B n x1 x2 x3 x4 x5 x6 x7 h := by
    intro n
    induction n with
    | zero => intro x1 x2 x3 x4 x5 x6 x7 h ⟨m, hm, _⟩; omega
    | succ n ih => intro x1 x2 x3 x4 x5 x6 x7 h ⟨m, hm, hI⟩; exact step m x1 x2 x3 x4 x5 x6 x7 h _ (fun m' x1' x2' x3' x4' x5' x6' x7' h' hm' hI' => ih x1' x2' x3' x4' x5' x6' x7' h' ⟨m', by omega, hI'⟩) hI
  exact ⟨m + 1, key (m + 1) x1 x2 x3 x4 x5 x6 x7 h ⟨m, by omega, hI⟩⟩
theorem wl8 {i1 i2 i3 i4 i5 i6 i7 i8 : Nat} {k1 k2 k3 k4 k5 k6 k7 k8 : Kd} {B : (k1.T → k2.T → k3.T → k4.T → k5.T → k6.T → k7.T → k8.T → Heap → Prop) → k1.T → k2.T → k3.T → k4.T → k5.T → k6.T → k7.T → k8.T → Heap → Prop} (I : Nat → k1.T → k2.T → k3.T → k4.T → k5.T → k6.T → k7.T → k8.T → Heap → Prop)
    (step : ∀ m x1 x2 x3 x4 x5 x6 x7 x8 h (next : k1.T → k2.T → k3.T → k4.T → k5.T → k6.T → k7.T → k8.T → Heap → Prop), (∀ m' x1' x2' x3' x4' x5' x6' x7' x8' h', m' < m → I m' x1' x2' x3' x4' x5' x6' x7' x8' h' → next x1' x2' x3' x4' x5' x6' x7' x8' h') → I m x1 x2 x3 x4 x5 x6 x7 x8 h → B next x1 x2 x3 x4 x5 x6 x7 x8 h) {m : Nat} {x1 : k1.T} {x2 : k2.T} {x3 : k3.T} {x4 : k4.T} {x5 : k5.T} {x6 : k6.T} {x7 : k7.T} {x8 : k8.T} {h : Heap} (hI : I m x1 x2 x3 x4 x5 x6 x7 x8 h) : wl [(i1, .one k1), (i2, .one k2), (i3, .one k3), (i4, .one k4), (i5, .one k5), (i6, .one k6), (i7, .one k7), (i8, .one k8)] B x1 x2 x3 x4 x5 x6 x7 x8 h := by
  have key : ∀ n x1 x2 x3 x4 x5 x6 x7 x8 h, (∃ m, m < n ∧ I m x1 x2 x3 x4 x5 x6 x7 x8 h) → wit [(i1, .one k1), (i2, .one k2), (i3, .one k3), (i4, .one k4), (i5, .one k5), (i6, .one k6), (i7, .one k7), (i8, .one k8)] B n x1 x2 x3 x4 x5 x6 x7 x8 h := by
    intro n
    induction n with
    | zero => intro x1 x2 x3 x4 x5 x6 x7 x8 h ⟨m, hm, _⟩; omega
    | succ n ih => intro x1 x2 x3 x4 x5 x6 x7 x8 h ⟨m, hm, hI⟩; exact step m x1 x2 x3 x4 x5 x6 x7 x8 h _ (fun m' x1' x2' x3' x4' x5' x6' x7' x8' h' hm' hI' => ih x1' x2' x3' x4' x5' x6' x7' x8' h' ⟨m', by omega, hI'⟩) hI
  exact ⟨m + 1, key (m + 1) x1 x2 x3 x4 x5 x6 x7 x8 h ⟨m, by omega, hI⟩⟩
theorem jn3 {i1 i2 i3 : Nat} {k1 k2 k3 : Kd} {rest : k1.T → k2.T → k3.T → Heap → Prop} {body : (k1.T → k2.T → k3.T → Heap → Prop) → Prop} (C : k1.T → k2.T → k3.T → Heap → Prop) (h1 : ∀ x1 x2 x3 h, C x1 x2 x3 h → rest x1 x2 x3 h) (h2 : ∀ j : k1.T → k2.T → k3.T → Heap → Prop, (∀ x1 x2 x3 h, C x1 x2 x3 h → j x1 x2 x3 h) → body j) : jn [(i1, .one k1), (i2, .one k2), (i3, .one k3)] rest body := h2 rest h1
theorem jn4 {i1 i2 i3 i4 : Nat} {k1 k2 k3 k4 : Kd} {rest : k1.T → k2.T → k3.T → k4.T → Heap → Prop} {body : (k1.T → k2.T → k3.T → k4.T → Heap → Prop) → Prop} (C : k1.T → k2.T → k3.T → k4.T → Heap → Prop) (h1 : ∀ x1 x2 x3 x4 h, C x1 x2 x3 x4 h → rest x1 x2 x3 x4 h) (h2 : ∀ j : k1.T → k2.T → k3.T → k4.T → Heap → Prop, (∀ x1 x2 x3 x4 h, C x1 x2 x3 x4 h → j x1 x2 x3 x4 h) → body j) : jn [(i1, .one k1), (i2, .one k2), (i3, .one k3), (i4, .one k4)] rest body := h2 rest h1
theorem jn5 {i1 i2 i3 i4 i5 : Nat} {k1 k2 k3 k4 k5 : Kd} {rest : k1.T → k2.T → k3.T → k4.T → k5.T → Heap → Prop} {body : (k1.T → k2.T → k3.T → k4.T → k5.T → Heap → Prop) → Prop} (C : k1.T → k2.T → k3.T → k4.T → k5.T → Heap → Prop) (h1 : ∀ x1 x2 x3 x4 x5 h, C x1 x2 x3 x4 x5 h → rest x1 x2 x3 x4 x5 h) (h2 : ∀ j : k1.T → k2.T → k3.T → k4.T → k5.T → Heap → Prop, (∀ x1 x2 x3 x4 x5 h, C x1 x2 x3 x4 x5 h → j x1 x2 x3 x4 x5 h) → body j) : jn [(i1, .one k1), (i2, .one k2), (i3, .one k3), (i4, .one k4), (i5, .one k5)] rest body := h2 rest h1
theorem jn6 {i1 i2 i3 i4 i5 i6 : Nat} {k1 k2 k3 k4 k5 k6 : Kd} {rest : k1.T → k2.T → k3.T → k4.T → k5.T → k6.T → Heap → Prop} {body : (k1.T → k2.T → k3.T → k4.T → k5.T → k6.T → Heap → Prop) → Prop} (C : k1.T → k2.T → k3.T → k4.T → k5.T → k6.T → Heap → Prop) (h1 : ∀ x1 x2 x3 x4 x5 x6 h, C x1 x2 x3 x4 x5 x6 h → rest x1 x2 x3 x4 x5 x6 h) (h2 : ∀ j : k1.T → k2.T → k3.T → k4.T → k5.T → k6.T → Heap → Prop, (∀ x1 x2 x3 x4 x5 x6 h, C x1 x2 x3 x4 x5 x6 h → j x1 x2 x3 x4 x5 x6 h) → body j) : jn [(i1, .one k1), (i2, .one k2), (i3, .one k3), (i4, .one k4), (i5, .one k5), (i6, .one k6)] rest body := h2 rest h1
/-! numbers -/
theorem i64_min : IntKind.i64.min = -9223372036854775808 := by decide
theorem i64_max : IntKind.i64.max = 9223372036854775807 := by decide
theorem u64_min : IntKind.u64.min = 0 := by decide
theorem u64_max : IntKind.u64.max = 18446744073709551615 := by decide
theorem u32_min : IntKind.u32.min = 0 := by decide
theorem u32_max : IntKind.u32.max = 4294967295 := by decide
theorem u8_min : IntKind.u8.min = 0 := by decide
theorem u8_max : IntKind.u8.max = 255 := by decide
theorem tmod_fix {a c : Int} (hc : 0 < c) : (if a.tmod c < 0 then a.tmod c + c else a.tmod c) = a % c := by
  have h1 := Int.emod_nonneg a (show c ≠ 0 by omega)
  have h2 := Int.emod_lt_of_pos a hc
  have h3 := Int.tmod_eq_emod (a := a) (b := c)
  split at h3
  · rw [if_neg (by omega)]; omega
  · rw [if_pos (by omega)]; omega
theorem tmod_lt {a c : Int} (hc : 0 < c) : -c < a.tmod c ∧ a.tmod c < c := by
  have h1 := Int.emod_nonneg a (show c ≠ 0 by omega)
  have h2 := Int.emod_lt_of_pos a hc
  have h3 := Int.tmod_eq_emod (a := a) (b := c)
  by_cases h : c ∣ a
  · rw [if_pos (.inr h)] at h3
    omega
  · have : a % c ≠ 0 := fun e => h (Int.dvd_of_emod_eq_zero e)
    split at h3 <;> omega
theorem within_mod {n m : Int} (hm : 0 < m) : (n.tmod m + m).tmod m = n % m := by
  have h := tmod_lt (a := n) hm
  rw [Int.tmod_eq_emod_of_nonneg (by omega), Int.add_emod_right]
  have h3 := Int.tmod_eq_emod (a := n) (b := m)
  split at h3
  · rw [h3]; simp
  · rw [h3, Int.sub_emod, show ((m.natAbs : Nat) : Int) = m by omega]; simp
/-! a law's last step -/
theorem okv_agg {P : Program} {t : TypeId} {v : Value} (ha : aggT P t = some true) (h : okv P t v) : ∃ cs, v = .agg cs := by
  unfold aggT at ha
  unfold okv at h
  cases hu : P.underlying t with
  | none => simp [hu] at ha
  | some d =>
    rw [hu] at ha h
    cases d <;> first | exact h | simp at ha
end Go.Proofs.Ytompmkmbppcadaa.V
/-
  MANY RESOURCES AS ONE: a list of things of one kind, each in memory of its own; one of them is taken out and put back.
-/
namespace Go.Proofs.Ytompmkmbppcadaa.V
open Go Go.RowKit
set_option linter.unusedVariables false
set_option linter.unusedSimpArgs false
variable {α β : Type}
theorem star_perm : ∀ {L : List Res} {E F : Blks}, star L E → F.Perm E → star L F
  | [], E, F, h, p => by
    have h' : E = [] := h
    subst h'
    exact List.Perm.eq_nil p
  | A :: L, E, F, ⟨E1, E2, q, h1, h2⟩, p => ⟨E1, E2, p.trans q, h1, h2⟩
theorem star_app : ∀ {L M : List Res} {E F : Blks}, star L E → star M F → star (L ++ M) (E ++ F)
  | [], M, E, F, h, k => by
    have h' : E = [] := h
    subst h'
    exact k
  | A :: L, M, E, F, ⟨E1, E2, q, h1, h2⟩, k => ⟨E1, E2 ++ F, by rw [← List.append_assoc]; exact q.append_right F, h1, star_app h2 k⟩
theorem set_set_res : ∀ (L : List Res) (i : Nat) (A B : Res), (L.set i A).set i B = L.set i B
  | [], _, _, _ => rfl
  | _ :: _, 0, _, _ => rfl
  | _ :: L, i + 1, A, B => by simp [set_set_res L i A B]
theorem Sat.pull {h0 h : Heap} {Rs L : List Res} (O : Sat h0 h (star Rs :: L)) (i : Nat) (hi : i < Rs.length) : Sat h0 h (nth i Rs :: star (Rs.set i V.emp) :: L) := by
  obtain ⟨E, ⟨E1, E2, p, h1, h2⟩, O⟩ := O
  obtain ⟨F1, F2, q, h3, h4⟩ := star_at i hi h1
  exact ⟨E, ⟨F1, F2 ++ E2, p.trans ((q.append_right E2).trans (by rw [List.append_assoc])), h3, F2, E2, List.Perm.refl _, h4 V.emp [] rfl, h2⟩, O⟩
theorem Sat.back {h0 h : Heap} {Rs L : List Res} {B : Res} {i : Nat} (O : Sat h0 h (B :: star (Rs.set i V.emp) :: L)) (hi : i < Rs.length) : Sat h0 h (star (Rs.set i B) :: L) := by
  obtain ⟨E, ⟨E1, E2, p, h1, F1, F2, q, h2, h3⟩, O⟩ := O
  obtain ⟨G1, G2, r, h4, h5⟩ := star_at i (by simpa using hi) h2
  rw [nth_set _ hi] at h4
  have h4' : G1 = [] := h4
  subst h4'
  have := h5 B E1 h1
  rw [set_set_res] at this
  refine ⟨E, ⟨E1 ++ G2, F2, ?_, this, h3⟩, O⟩
  refine p.trans ((q.append_left E1).trans ?_)
  rw [List.append_assoc]
  exact (List.Perm.append_right F2 (by simpa using r)).append_left E1
theorem Sat.snoc {h0 h : Heap} {Rs L : List Res} {A : Res} (O : Sat h0 h (A :: star Rs :: L)) : Sat h0 h (star (Rs ++ [A]) :: L) := by
  obtain ⟨E, ⟨E1, E2, p, h1, F1, F2, q, h2, h3⟩, O⟩ := O
  refine ⟨E, ⟨F1 ++ E1, F2, ?_, ?_, h3⟩, O⟩
  · refine p.trans ((q.append_left E1).trans ?_)
    rw [← List.append_assoc]
    exact List.perm_append_comm.append_right F2
  · have h4 : star [A] E1 := ⟨E1, [], by simp, h1, rfl⟩
    exact star_app h2 h4
/-- Things of one kind. -/
def many (f : α → Res) (xs : List α) : Res := star (xs.map f)
def hole (f : α → Res) (xs : List α) (i : Nat) : Res := star ((xs.map f).set i emp)
theorem nth_mapf {f : α → Res} : ∀ {xs : List α} {i : Nat} {x : α}, xs[i]? = some x → nth i (xs.map f) = f x
  | [], i, x, h => by simp at h
  | y :: ys, 0, x, h => by simp at h; subst h; rfl
  | y :: ys, i + 1, x, h => nth_mapf (xs := ys) (i := i) (by simpa using h)
theorem Sat.take {h0 h : Heap} {f : α → Res} {xs : List α} {L : List Res} (O : Sat h0 h (many f xs :: L)) (i : Nat) {x : α} (hi : xs[i]? = some x) : Sat h0 h (f x :: hole f xs i :: L) := by
  have hl := (List.getElem?_eq_some_iff.1 hi).1
  have := Sat.pull (Rs := xs.map f) O i (by simpa using hl)
  rw [nth_mapf hi] at this
  exact this
theorem Sat.give {h0 h : Heap} {f : α → Res} {xs : List α} {L : List Res} {i : Nat} {y : α} (O : Sat h0 h (f y :: hole f xs i :: L)) (hi : i < xs.length) : Sat h0 h (many f (xs.set i y) :: L) := by
  have := Sat.back (Rs := xs.map f) O (by simpa using hi)
  unfold many
  rw [List.map_set]
  exact this
theorem Sat.more {h0 h : Heap} {f : α → Res} {xs : List α} {L : List Res} {y : α} (O : Sat h0 h (f y :: many f xs :: L)) : Sat h0 h (many f (xs ++ [y]) :: L) := by
  have := Sat.snoc (Rs := xs.map f) O
  unfold many
  rw [List.map_append]
  exact this
theorem Sat.none {h0 h : Heap} {f : α → Res} {L : List Res} (O : Sat h0 h L) : Sat h0 h (many f [] :: L) := O.empI
/-! lists of one cell each -/
def u64c (x : Int) : List Value := [.int .u64 x]
def i64c (x : Int) : List Value := [.int .i64 x]
def ptrc (b : Nat) : List Value := [.pointer (some (pt b 0))]
theorem u64c_len (x : Int) : (u64c x).length = 1 := rfl
theorem i64c_len (x : Int) : (i64c x).length = 1 := rfl
theorem ptrc_len (b : Nat) : (ptrc b).length = 1 := rfl
def slc (s : Sl) : List Value := [.slice s.ptr s.len s.cap]
theorem slc_len (s : Sl) : (slc s).length = 1 := rfl
theorem slc_one (s : Sl) : (slc s).all oneV = true := rfl
theorem u8_len (x : UInt8) : (u8 x).length = 1 := rfl
theorem u64c_one (x : Int) : (u64c x).all oneV = true := rfl
theorem i64c_one (x : Int) : (i64c x).all oneV = true := rfl
theorem ptrc_one (b : Nat) : (ptrc b).all oneV = true := rfl
theorem u8_one (x : UInt8) : (u8 x).all oneV = true := rfl
theorem set_flat1 {enc : α → List Value} (he : ∀ x, (enc x).length = 1) : ∀ (xs : List α) (sp : List Value) (i : Nat) (y : α), i < xs.length → V.put (xs.flatMap enc ++ sp) i (enc y) = (xs.set i y).flatMap enc ++ sp
  | [], sp, i, y, h => by simp at h
  | x :: xs, sp, 0, y, h => by
    have h1 := he x; have h2 := he y
    rw [List.flatMap_cons, List.set_cons_zero, List.flatMap_cons]
    match hx : enc x, hy : enc y with
    | [a], [c] => simp [V.put, put_nil]
    | [], _ => rw [hx] at h1; simp at h1
    | _ :: _ :: _, _ => rw [hx] at h1; simp at h1
    | _, [] => rw [hy] at h2; simp at h2
    | _, _ :: _ :: _ => rw [hy] at h2; simp at h2
  | x :: xs, sp, i + 1, y, h => by
    have h1 := he x
    rw [List.flatMap_cons, List.set_cons_succ, List.flatMap_cons]
    match hx : enc x with
    | [a] =>
      have := set_flat1 he xs sp i y (by simpa using h)
      simp [V.put]
      simpa using this
    | [] => rw [hx] at h1; simp at h1
    | _ :: _ :: _ => rw [hx] at h1; simp at h1
/-- An element of one's own list is written: elements of one cell. -/
theorem Sat.put1 {h0 h : Heap} {L : List Res} {enc : α → List Value} {s : Sl} {xs : List α} {i : Int} {K : Heap → Prop} (O : Sat h0 h (buf 1 enc s xs :: L)) (he : ∀ x, (enc x).length = 1) (ho : ∀ x, (enc x).all oneV = true)
    (hi0 : 0 ≤ i) (hi1 : i < (xs.length : Int)) (y : α) {cs : List Value} (hcs : cs = enc y) (k : ∀ h', Sat h0 h' (buf 1 enc s (xs.set i.toNat y) :: L) → K h') : ixS 1 s i fun a => V.st a cs h K := by
  subst hcs
  obtain ⟨sp, O⟩ := O.ex
  obtain ⟨E, ⟨E1, E2, p, hA, h2⟩, O⟩ := O
  have O := O.perm p.symm
  rcases hA with ⟨rfl, rfl, _, _⟩ | ⟨b, j, rfl, hsp, rfl⟩
  · simp at hi1; omega
  · refine ⟨pt b 0, rfl, hi0, hi1, ?_⟩
    rw [pt_add, Nat.zero_add, Nat.mul_one]
    have hl := flatMap_len he xs
    refine Held.st O (by rw [he, List.length_append, hl]; omega) (ho y) fun h' O' => ?_
    rw [set_flat1 he _ _ _ _ (by omega)] at O'
    exact k _ ⟨_, ⟨[(b, _)], E2, List.Perm.refl _, ⟨sp, .inr ⟨b, j, by simp, hsp, rfl⟩⟩, h2⟩, O'⟩
theorem View.at1 {h : Heap} {enc : α → List Value} {s : Sl} {xs : List α} {i : Int} {k : Kd} {K : k.T → Prop} (V : View h 1 (En enc) s xs) (h0 : 0 ≤ i) (h1 : i < (xs.length : Int)) (f : α → k.T) (hf : ∀ x, enc x = [k.enc (f x)])
    (kk : ∀ x, xs[i.toNat]? = some x → K (f x)) : ixS 1 s i fun a => ld [k] a h K :=
  V.ix h0 h1 fun a cs x hx hl hR hc => by
    have e : cs = [k.enc (f x)] := hR.trans (hf x)
    rw [e] at hc
    exact ld_are hc (ldL_c (ldL_n (kk x hx)))
theorem View.get1 {h : Heap} {enc : α → List Value} {s : Sl} {xs : List α} {i : Int} {k : Kd} {K : k.T → Prop} {x : α} (V : View h 1 (En enc) s xs) (h0 : 0 ≤ i) (hx : xs[i.toNat]? = some x) (f : α → k.T) (hf : ∀ x, enc x = [k.enc (f x)])
    (kk : K (f x)) : ixS 1 s i fun a => ld [k] a h K :=
  V.at1 h0 (by have := (List.getElem?_eq_some_iff.1 hx).1; omega) f hf fun y hy => by
    rw [hx] at hy
    have e := Option.some.inj hy
    subst e
    exact kk
/-- An element's place, and that it lies there for as long as the list does. -/
theorem View.getP {h : Heap} {sz : Nat} {enc : α → List Value} {s : Sl} {xs : List α} {i : Int} {K : Addr → Prop} {x : α} (V : View h sz (En enc) s xs) (h0 : 0 ≤ i) (hx : xs[i.toNat]? = some x)
    (kk : ∀ a, (∀ {h' : Heap}, View h' sz (En enc) s xs → cellsAre h' a (enc x)) → K a) : ixS sz s i K := by
  have hl := (List.getElem?_eq_some_iff.1 hx).1
  obtain ⟨a, cs, h1, _, _, _⟩ := V.2 i.toNat x hx
  refine ⟨a, h1, h0, by rw [V.1]; omega, kk _ fun {h'} V' => ?_⟩
  obtain ⟨a', cs', q1, _, q3, q4⟩ := V'.2 i.toNat x hx
  rw [h1] at q1
  have e := Option.some.inj q1
  subst e
  have e2 : cs' = enc x := q3
  subst e2
  exact q4
theorem set_same {xs : List α} {n : Nat} {x : α} (hx : xs[n]? = some x) : xs.set n x = xs := by
  obtain ⟨h, e⟩ := List.getElem?_eq_some_iff.1 hx
  rw [← e]
  exact List.set_getElem_self h
theorem map_set_fst {xs : List (Nat × β)} {n : Nat} {b : Nat} {x y : β} (hx : xs[n]? = some (b, x)) : (xs.set n (b, y)).map (·.1) = xs.map (·.1) := by
  rw [List.map_set]
  exact set_same (by simp [hx])
theorem Sat.cells {h0 h : Heap} {L : List Res} (O : Sat h0 h L) (i : Nat) {b : Nat} {cs : List Value} (hi : nth i L = own b cs) (o n : Nat) : cellsAre h (pt b o) ((cs.drop o).take n) := cellsAre_blk (O.blk (nth_lt hi) hi).2 o n
/-! arrays -/
theorem ixA_of_ixS {sz n c : Nat} {a : Addr} {i : Int} {K : Addr → Prop} (h : ixS sz ⟨some a, n, c⟩ i K) : ixA sz a n i K := by
  obtain ⟨a', h1, h2, h3, h4⟩ := h
  have e : a = a' := Option.some.inj h1
  subst e
  exact ⟨h2, h3, h4⟩
theorem Sat.arr {h0 h : Heap} {L : List Res} (O : Sat h0 h L) (i : Nat) {sz b : Nat} {enc : α → List Value} {xs : List α} (he : ∀ x, (enc x).length = sz) (hi : nth i L = own b (xs.flatMap enc)) : View h sz (En enc) ⟨some (pt b 0), xs.length, xs.length⟩ xs := by
  have B := (O.blk (nth_lt hi) hi).2
  rw [← List.append_nil (xs.flatMap enc)] at B
  exact view_of_blk he B
/-- An array's element of one cell is read. -/
theorem Sat.getA {h0 h : Heap} {L : List Res} (O : Sat h0 h L) (j : Nat) {b n : Nat} {enc : α → List Value} {xs : List α} {i : Int} {k : Kd} {K : k.T → Prop} {x : α} (he : ∀ x, (enc x).length = 1) (hj : nth j L = own b (xs.flatMap enc)) (hn : n = xs.length) (h0 : 0 ≤ i) (hx : xs[i.toNat]? = some x) (f : α → k.T) (hf : ∀ x, enc x = [k.enc (f x)])
    (kk : K (f x)) : ixA 1 (pt b 0) n i fun a => V.ld [k] a h K := by
  subst hn
  exact ixA_of_ixS ((O.arr j he hj).get1 h0 hx f hf kk)
/-- An array's element of one cell is read, and lies there for as long as the array is kept. -/
theorem Sat.getA' {h0 h : Heap} {L : List Res} (O : Sat h0 h L) (j : Nat) {b n : Nat} {enc : α → List Value} {xs : List α} {i : Int} {k : Kd} {K : Addr → k.T → Prop} {x : α} (he : ∀ x, (enc x).length = 1) (hj : nth j L = own b (xs.flatMap enc)) (hn : n = xs.length) (h0 : 0 ≤ i) (hx : xs[i.toNat]? = some x) (f : α → k.T) (hf : ∀ x, enc x = [k.enc (f x)])
    (kk : ∀ a, (∀ {h0' h' : Heap} {L' : List Res}, Sat h0' h' L' → ∀ j', nth j' L' = own b (xs.flatMap enc) → cellsAre h' a (enc x)) → K a (f x)) : ixA 1 (pt b 0) n i fun a => V.ld [k] a h (K a) := by
  subst hn
  have hl := (List.getElem?_eq_some_iff.1 hx).1
  refine ⟨h0, by omega, ?_⟩
  have hc : ∀ {h0' h' : Heap} {L' : List Res}, Sat h0' h' L' → ∀ j', nth j' L' = own b (xs.flatMap enc) → cellsAre h' ((pt b 0).add (i.toNat * 1)) (enc x) := by
    intro h0' h' L' O' j' hj'
    obtain ⟨a, cs, h1, _, h3, h4⟩ := (O'.arr j' he hj').2 i.toNat x hx
    have e : pt b 0 = a := Option.some.inj h1
    subst e
    have e2 : cs = enc x := h3
    subst e2
    exact h4
  have h1 := hc O j hj
  rw [hf] at h1
  exact ld_are h1 (ldL_c (ldL_n (kk _ hc)))
/-- An array's element of one cell is written. -/
theorem Sat.putA {h0 h : Heap} {L : List Res} {b n : Nat} {enc : α → List Value} {xs : List α} {i : Int} {K : Heap → Prop} (O : Sat h0 h (own b (xs.flatMap enc) :: L)) (he : ∀ x, (enc x).length = 1) (ho : ∀ x, (enc x).all oneV = true) (hn : n = xs.length)
    (hi0 : 0 ≤ i) (hi1 : i < (xs.length : Int)) (y : α) {cs : List Value} (hcs : cs = enc y) (k : ∀ h', Sat h0 h' (own b ((xs.set i.toNat y).flatMap enc) :: L) → K h') : ixA 1 (pt b 0) n i fun a => V.st a cs h K := by
  subst hcs hn
  refine ⟨hi0, hi1, ?_⟩
  rw [pt_add, Nat.zero_add, Nat.mul_one]
  have hl := flatMap_len he xs
  refine O.st 0 rfl (by rw [he, hl]; omega) (ho y) fun h' O => ?_
  have e := set_flat1 he xs [] i.toNat y (by omega)
  rw [List.append_nil, List.append_nil] at e
  rw [e] at O
  exact k _ O
end Go.Proofs.Ytompmkmbppcadaa.V
namespace Go.Proofs.Ytompmkmbppcadaa.V
open Go Go.RowKit
set_option linter.unusedVariables false
set_option maxRecDepth 100000
/-! tally/tallyref0.Cmp -/
def F_ref0_Cmp.l1 (a1 : Sl) (b2 : Sl) (Q : Int → Heap → Prop) (j3 : Heap → Prop) : Int → Heap → Prop :=
  wl [(5, .one (.int .i64))] (fun (next4 : Int → Heap → Prop) (i5 : Int) (h6 : Heap) =>
  jn [(15, .one .bool)] (fun (x8 : Bool) (h9 : Heap) =>
  brr x8
  (ixS 1 a1 i5 fun (a10 : Addr) =>
  ld [.int .u8] a10 h9 fun (v11 : Int) =>
  ixS 1 b2 i5 fun (a12 : Addr) =>
  ld [.int .u8] a12 h9 fun (v13 : Int) =>
  brr (decide (v11 < v13))
  (Q (-1) h9)
  (ixS 1 a1 i5 fun (a14 : Addr) =>
  ld [.int .u8] a14 h9 fun (v15 : Int) =>
  ixS 1 b2 i5 fun (a16 : Addr) =>
  ld [.int .u8] a16 h9 fun (v17 : Int) =>
  brr (decide (v15 > v17))
  (Q 1 h9)
  (next4 (IntKind.i64.wrap (i5 + 1)) h9)))
  (j3 h9)) (fun (j7 : Bool → Heap → Prop) =>
  brr (decide (i5 < ((a1.len : Nat) : Int)))
  (j7 (decide (i5 < ((b2.len : Nat) : Int))) h6)
  (j7 false h6)))
def F_ref0_Cmp_of  (a1 : Sl) (b2 : Sl) (h : Heap) (Q : Int → Heap → Prop) : Prop :=
  jn [] (fun  (h18 : Heap) =>
  brr (decide (((a1.len : Nat) : Int) < ((b2.len : Nat) : Int)))
  (Q (-1) h18)
  (brr (decide (((a1.len : Nat) : Int) > ((b2.len : Nat) : Int)))
  (Q 1 h18)
  (Q 0 h18))) (fun (j3 : Heap → Prop) =>
  F_ref0_Cmp.l1 a1 b2 Q j3 0 h)
def F_ref0_Cmp (a1 : Sl) (b2 : Sl) (h : Heap) (Q : Int → Heap → Prop) : Prop := F_ref0_Cmp_of  a1 b2 h Q
def plan47 : Plan := .s (.r [0, 1]) (.s (.s (.r [0, 1, 5]) (.bj [] [0, 1] (.l [(5, .one (.int .i64))] [0, 1] (.s (.s (.rj [(15, .one .bool)] [0, 1, 5]) (.c .z .z)) (.s (.b (.s (.s (.d [0, 0, 3, 7, 0, 0, 48, 112, 255] [[0, 1, 2, 3, 4, 5, 6, 7, 8]] [0, 1, 5, 26]) (.c (.s (.r [4]) .z) .z)) (.s (.d [0, 0, 3, 7, 0, 0, 48, 112, 255] [[0, 1, 2, 3, 4, 5, 6, 7, 8]] [0, 1, 5, 35]) (.c (.s (.r [4]) .z) .z)))) (.r [0, 1, 5])))))) (.s (.s (.r [0, 1, 40]) (.c (.s (.r [4]) .z) .z)) (.s (.s (.r [45]) (.c (.s (.r [4]) .z) .z)) (.s (.r [4]) .z))))
theorem F_ref0_Cmp.eq  (a1 : Sl) (b2 : Sl) (h : Heap) (K : Value → Heap → Prop) : F_ref0_Cmp_of  a1 b2 h (fun (r0 : Int) (h : Heap) => K (.int .i64 r0) h) =
    den Try.prog noFns Try.f47.ntmps plan47 (bodyOf Try.f47) (args0 0 [(.slice a1.ptr a1.len a1.cap : Value), (.slice b2.ptr b2.len b2.cap : Value)]) h ⟨fun env h => dRes Try.prog Try.f47.results.toList env h K, fun _ _ _ => False, fun env h => dRes Try.prog Try.f47.results.toList env h K⟩ := by kernel_rfl
def E_ref0_Cmp_of (f : Sl → Sl → Heap → (Int → Heap → Prop) → Prop) : List Value → Heap → (Value → Heap → Prop) → Prop
  | [v0, v1], h, K => dec1 .sl v0 fun (a1 : Sl) =>
  dec1 .sl v1 fun (b2 : Sl) =>
  f a1 b2 h (fun (r0 : Int) (h : Heap) => K (.int .i64 r0) h)
  | _, _, _ => False
abbrev E_ref0_Cmp := E_ref0_Cmp_of F_ref0_Cmp
theorem E_ref0_Cmp.right : IsRight Try.prog 47 E_ref0_Cmp := by
  refine isRight fun vs K w hh => ?_
  match vs, hh with
  | [v0, v1], hh =>
    unfold E_ref0_Cmp E_ref0_Cmp_of at hh
    replace hh := dec1_sound hh; obtain ⟨a1, rfl, hh⟩ := hh
    replace hh := dec1_sound hh; obtain ⟨b2, rfl, hh⟩ := hh
    unfold F_ref0_Cmp at hh
    exact calls_den noFns_right plan47 _ w K Try.func47 (by kernel_rfl) (by kernel_rfl) (Eq.mp (F_ref0_Cmp.eq  a1 b2 w.heap K) hh)
theorem ok47 : okFn Try.prog 47 = true := by kernel_rfl
end Go.Proofs.Ytompmkmbppcadaa.V
namespace Go.Proofs.Ytompmkmbppcadaa.V
open Go Go.RowKit
set_option linter.unusedVariables false
set_option maxRecDepth 100000
/-! tally/tallyref0.Eq -/
def F_ref0_Eq_of (f47_ : Sl → Sl → Heap → (Int → Heap → Prop) → Prop) (a1 : Sl) (b2 : Sl) (h : Heap) (Q : Bool → Heap → Prop) : Prop :=
  f47_ a1 b2 h fun (r3 : Int) (h4 : Heap) =>
  Q (r3 == 0) h4
def F_ref0_Eq (a1 : Sl) (b2 : Sl) (h : Heap) (Q : Bool → Heap → Prop) : Prop := F_ref0_Eq_of F_ref0_Cmp a1 b2 h Q
def plan21 : Plan := .s (.r [0, 1]) (.s (.r [4]) .z)
theorem F_ref0_Eq.eq (f47_ : Sl → Sl → Heap → (Int → Heap → Prop) → Prop) (a1 : Sl) (b2 : Sl) (h : Heap) (K : Value → Heap → Prop) : F_ref0_Eq_of f47_ a1 b2 h (fun (r0 : Bool) (h : Heap) => K (.bool r0) h) =
    den Try.prog (fn1 47 (E_ref0_Cmp_of f47_) noFns) Try.f21.ntmps plan21 (bodyOf Try.f21) (args0 0 [(.slice a1.ptr a1.len a1.cap : Value), (.slice b2.ptr b2.len b2.cap : Value)]) h ⟨fun env h => dRes Try.prog Try.f21.results.toList env h K, fun _ _ _ => False, fun env h => dRes Try.prog Try.f21.results.toList env h K⟩ := by kernel_rfl
def E_ref0_Eq_of (f : Sl → Sl → Heap → (Bool → Heap → Prop) → Prop) : List Value → Heap → (Value → Heap → Prop) → Prop
  | [v0, v1], h, K => dec1 .sl v0 fun (a1 : Sl) =>
  dec1 .sl v1 fun (b2 : Sl) =>
  f a1 b2 h (fun (r0 : Bool) (h : Heap) => K (.bool r0) h)
  | _, _, _ => False
abbrev E_ref0_Eq := E_ref0_Eq_of F_ref0_Eq
theorem E_ref0_Eq.right : IsRight Try.prog 21 E_ref0_Eq := by
  refine isRight fun vs K w hh => ?_
  match vs, hh with
  | [v0, v1], hh =>
    unfold E_ref0_Eq E_ref0_Eq_of at hh
    replace hh := dec1_sound hh; obtain ⟨a1, rfl, hh⟩ := hh
    replace hh := dec1_sound hh; obtain ⟨b2, rfl, hh⟩ := hh
    unfold F_ref0_Eq at hh
    exact calls_den (fn1_right ok47 E_ref0_Cmp.right noFns_right) plan21 _ w K Try.func21 (by kernel_rfl) (by kernel_rfl) (Eq.mp (F_ref0_Eq.eq F_ref0_Cmp a1 b2 w.heap K) hh)
theorem ok21 : okFn Try.prog 21 = true := by kernel_rfl
end Go.Proofs.Ytompmkmbppcadaa.V
namespace Go.Proofs.Ytompmkmbppcadaa.V
open Go Go.RowKit
set_option linter.unusedVariables false
set_option maxRecDepth 100000
/-! tally/tallyref0.Copy -/
def F_ref0_Copy_of  (b1 : Sl) (h : Heap) (Q : Sl → Heap → Prop) : Prop :=
  mk 5 1 1 (.int .u8 0) ((b1.len : Nat) : Int) ((b1.len : Nat) : Int) h fun (s2 : Sl) (h3 : Heap) =>
  cpy 1 s2 b1.ptr b1.len h3 fun (h5 : Heap) =>
  Q s2 h5
def F_ref0_Copy (b1 : Sl) (h : Heap) (Q : Sl → Heap → Prop) : Prop := F_ref0_Copy_of  b1 h Q
def plan15 : Plan := .s (.r [0]) (.s (.r [0, 3]) (.s (.r [3]) (.s (.r [2]) .z)))
theorem F_ref0_Copy.eq  (b1 : Sl) (h : Heap) (K : Value → Heap → Prop) : F_ref0_Copy_of  b1 h (fun (r0 : Sl) (h : Heap) => K (.slice r0.ptr r0.len r0.cap) h) =
    den Try.prog noFns Try.f15.ntmps plan15 (bodyOf Try.f15) (args0 0 [(.slice b1.ptr b1.len b1.cap : Value)]) h ⟨fun env h => dRes Try.prog Try.f15.results.toList env h K, fun _ _ _ => False, fun env h => dRes Try.prog Try.f15.results.toList env h K⟩ := by kernel_rfl
def E_ref0_Copy_of (f : Sl → Heap → (Sl → Heap → Prop) → Prop) : List Value → Heap → (Value → Heap → Prop) → Prop
  | [v0], h, K => dec1 .sl v0 fun (b1 : Sl) =>
  f b1 h (fun (r0 : Sl) (h : Heap) => K (.slice r0.ptr r0.len r0.cap) h)
  | _, _, _ => False
abbrev E_ref0_Copy := E_ref0_Copy_of F_ref0_Copy
theorem E_ref0_Copy.right : IsRight Try.prog 15 E_ref0_Copy := by
  refine isRight fun vs K w hh => ?_
  match vs, hh with
  | [v0], hh =>
    unfold E_ref0_Copy E_ref0_Copy_of at hh
    replace hh := dec1_sound hh; obtain ⟨b1, rfl, hh⟩ := hh
    unfold F_ref0_Copy at hh
    exact calls_den noFns_right plan15 _ w K Try.func15 (by kernel_rfl) (by kernel_rfl) (Eq.mp (F_ref0_Copy.eq  b1 w.heap K) hh)
theorem ok15 : okFn Try.prog 15 = true := by kernel_rfl
end Go.Proofs.Ytompmkmbppcadaa.V
namespace Go.Proofs.Ytompmkmbppcadaa.V
open Go Go.RowKit
set_option linter.unusedVariables false
set_option maxRecDepth 100000
/-! tally/tallylaw1.Lend -/
def F_law1_Lend_of  (b1 : Sl) (h : Heap) (Q : Sl → Heap → Prop) : Prop :=
  app 5 1 1 (.int .u8 0) (⟨none, 0, 0⟩ : Sl) b1.ptr b1.len h fun (s2 : Sl) (h3 : Heap) =>
  al 5 [.int .u8 165, .int .u8 90, .int .u8 165] h3 fun (a4 : Addr) (h5 : Heap) =>
  app 5 1 1 (.int .u8 0) s2 (some a4) 3 h5 fun (s6 : Sl) (h7 : Heap) =>
  slTo s6 ((b1.len : Nat) : Int) fun (s8 : Sl) =>
  Q s8 h7
def F_law1_Lend (b1 : Sl) (h : Heap) (Q : Sl → Heap → Prop) : Prop := F_law1_Lend_of  b1 h Q
def plan10 : Plan := .s (.r [0]) (.s (.r [0, 3]) (.s (.r [0, 3]) (.s (.r [0, 3]) (.s (.r [2]) .z))))
theorem F_law1_Lend.eq  (b1 : Sl) (h : Heap) (K : Value → Heap → Prop) : F_law1_Lend_of  b1 h (fun (r0 : Sl) (h : Heap) => K (.slice r0.ptr r0.len r0.cap) h) =
    den Try.prog noFns Try.f10.ntmps plan10 (bodyOf Try.f10) (args0 0 [(.slice b1.ptr b1.len b1.cap : Value)]) h ⟨fun env h => dRes Try.prog Try.f10.results.toList env h K, fun _ _ _ => False, fun env h => dRes Try.prog Try.f10.results.toList env h K⟩ := by kernel_rfl
def E_law1_Lend_of (f : Sl → Heap → (Sl → Heap → Prop) → Prop) : List Value → Heap → (Value → Heap → Prop) → Prop
  | [v0], h, K => dec1 .sl v0 fun (b1 : Sl) =>
  f b1 h (fun (r0 : Sl) (h : Heap) => K (.slice r0.ptr r0.len r0.cap) h)
  | _, _, _ => False
abbrev E_law1_Lend := E_law1_Lend_of F_law1_Lend
theorem E_law1_Lend.right : IsRight Try.prog 10 E_law1_Lend := by
  refine isRight fun vs K w hh => ?_
  match vs, hh with
  | [v0], hh =>
    unfold E_law1_Lend E_law1_Lend_of at hh
    replace hh := dec1_sound hh; obtain ⟨b1, rfl, hh⟩ := hh
    unfold F_law1_Lend at hh
    exact calls_den noFns_right plan10 _ w K Try.func10 (by kernel_rfl) (by kernel_rfl) (Eq.mp (F_law1_Lend.eq  b1 w.heap K) hh)
theorem ok10 : okFn Try.prog 10 = true := by kernel_rfl
end Go.Proofs.Ytompmkmbppcadaa.V
namespace Go.Proofs.Ytompmkmbppcadaa.V
open Go Go.RowKit
set_option linter.unusedVariables false
set_option maxRecDepth 100000
/-! tally/tallylaw1.Intact -/
def F_law1_Intact_of  (l1 : Sl) (b2 : Sl) (h : Heap) (Q : Bool → Heap → Prop) : Prop :=
  b2s l1.ptr l1.len h fun (s3 : ByteArray) =>
  b2s b2.ptr b2.len h fun (s4 : ByteArray) =>
  brr (!(s3.toList == s4.toList))
  (Q false h)
  (slTo l1 (IntKind.i64.wrap (((l1.len : Nat) : Int) + 3)) fun (s5 : Sl) =>
  jn [(4, .one .bool)] (fun (x13 : Bool) (h14 : Heap) =>
  Q x13 h14) (fun (j6 : Bool → Heap → Prop) =>
  ixS 1 s5 ((l1.len : Nat) : Int) fun (a7 : Addr) =>
  ld [.int .u8] a7 h fun (v8 : Int) =>
  brr (v8 == 165)
  (ixS 1 s5 (IntKind.i64.wrap (((l1.len : Nat) : Int) + 1)) fun (a9 : Addr) =>
  ld [.int .u8] a9 h fun (v10 : Int) =>
  brr (v10 == 90)
  (ixS 1 s5 (IntKind.i64.wrap (((l1.len : Nat) : Int) + 2)) fun (a11 : Addr) =>
  ld [.int .u8] a11 h fun (v12 : Int) =>
  j6 (v12 == 165) h)
  (j6 false h))
  (j6 false h)))
def F_law1_Intact (l1 : Sl) (b2 : Sl) (h : Heap) (Q : Bool → Heap → Prop) : Prop := F_law1_Intact_of  l1 b2 h Q
def plan12 : Plan := .s (.r [0, 1]) (.s (.s (.r [0, 10]) (.c (.s (.r [4]) .z) .z)) (.s (.r [0, 5]) (.s (.rj [(4, .one .bool)] []) .z)))
theorem F_law1_Intact.eq  (l1 : Sl) (b2 : Sl) (h : Heap) (K : Value → Heap → Prop) : F_law1_Intact_of  l1 b2 h (fun (r0 : Bool) (h : Heap) => K (.bool r0) h) =
    den Try.prog noFns Try.f12.ntmps plan12 (bodyOf Try.f12) (args0 0 [(.slice l1.ptr l1.len l1.cap : Value), (.slice b2.ptr b2.len b2.cap : Value)]) h ⟨fun env h => dRes Try.prog Try.f12.results.toList env h K, fun _ _ _ => False, fun env h => dRes Try.prog Try.f12.results.toList env h K⟩ := by kernel_rfl
def E_law1_Intact_of (f : Sl → Sl → Heap → (Bool → Heap → Prop) → Prop) : List Value → Heap → (Value → Heap → Prop) → Prop
  | [v0, v1], h, K => dec1 .sl v0 fun (l1 : Sl) =>
  dec1 .sl v1 fun (b2 : Sl) =>
  f l1 b2 h (fun (r0 : Bool) (h : Heap) => K (.bool r0) h)
  | _, _, _ => False
abbrev E_law1_Intact := E_law1_Intact_of F_law1_Intact
theorem E_law1_Intact.right : IsRight Try.prog 12 E_law1_Intact := by
  refine isRight fun vs K w hh => ?_
  match vs, hh with
  | [v0, v1], hh =>
    unfold E_law1_Intact E_law1_Intact_of at hh
    replace hh := dec1_sound hh; obtain ⟨l1, rfl, hh⟩ := hh
    replace hh := dec1_sound hh; obtain ⟨b2, rfl, hh⟩ := hh
    unfold F_law1_Intact at hh
    exact calls_den noFns_right plan12 _ w K Try.func12 (by kernel_rfl) (by kernel_rfl) (Eq.mp (F_law1_Intact.eq  l1 b2 w.heap K) hh)
theorem ok12 : okFn Try.prog 12 = true := by kernel_rfl
end Go.Proofs.Ytompmkmbppcadaa.V
/- Lists of bytes: compared, copied, lent with marks in their spare room, laid over. -/
namespace Go.Proofs.Ytompmkmbppcadaa.V
open Go Go.RowKit
set_option linter.unusedVariables false
set_option linter.unusedSimpArgs false
variable {α : Type}
theorem take_succ_eq {xs : List α} {i : Nat} {x : α} (h : xs[i]? = some x) : xs.take (i + 1) = xs.take i ++ [x] := by rw [List.take_add_one, h]; rfl
theorem F_ref0_Cmp.is {h : Heap} {a b : Sl} {xs ys : List UInt8} {Q : Int → Heap → Prop} (V1 : Bytes h a xs) (V2 : Bytes h b ys) (h1 : xs.length < 4611686018427387904) (h2 : ys.length < 4611686018427387904) (k : ∀ r : Int, (r = 0 ↔ xs = ys) → Q r h) : F_ref0_Cmp a b h Q := by
  rw [F_ref0_Cmp.eq_1, F_ref0_Cmp_of.eq_1]
  rw [V1.len, V2.len]
  refine jn0 (fun h' => h' = h ∧ ∃ i, xs.take i = ys.take i ∧ (xs.length ≤ i ∨ ys.length ≤ i)) ?_ ?_
  · rintro h ⟨rfl, i, he, hi⟩
    refine brr_p (fun hlt => ?_) (fun hlt => ?_)
    · exact k _ ⟨fun h => (by cases h), fun h => by subst h; omega⟩
    · refine brr_p (fun hgt => ?_) (fun hgt => ?_)
      · exact k _ ⟨fun h => (by cases h), fun h => by subst h; omega⟩
      · refine k _ ⟨fun _ => ?_, fun _ => rfl⟩
        rw [List.take_of_length_le (by omega), List.take_of_length_le (by omega)] at he
        exact he
  · intro j hj
    rw [F_ref0_Cmp.l1.eq_1]
    refine wl1 (k := .int .i64) (fun (m : Nat) (i : Int) (h' : Heap) => h' = h ∧ 0 ≤ i ∧ i ≤ xs.length ∧ i + m = xs.length ∧ xs.take i.toNat = ys.take i.toNat) ?_ (m := xs.length) ⟨rfl, by omega, by omega, by omega, by simp⟩
    rintro m (i : Int) h next hn ⟨rfl, hi0, hi1, him, he⟩
    rw [V1.len, V2.len]
    refine jn1 (fun t h' => h' = h ∧ (t = true → i < xs.length ∧ i < ys.length) ∧ (t = false → (xs.length : Int) ≤ i ∨ (ys.length : Int) ≤ i)) ?_ ?_
    · rintro t h ⟨rfl, ht, hf⟩
      refine brr_of (fun e => ?_) (fun e => ?_)
      · obtain ⟨hx, hy⟩ := ht e
        refine Bytes.at V1 hi0 hx fun x hxx => ?_
        refine Bytes.at V2 hi0 hy fun y hyy => ?_
        have hne : x ≠ y → xs ≠ ys := fun hxy hs => by
          subst hs
          rw [hxx] at hyy
          exact hxy (Option.some.inj hyy)
        refine brr_p (fun hlt => ?_) (fun hlt => ?_)
        · exact k _ ⟨fun h => (by cases h), fun h => absurd h (hne (by intro h; subst h; omega))⟩
        · refine Bytes.at V1 hi0 hx fun x' hxx' => ?_
          refine Bytes.at V2 hi0 hy fun y' hyy' => ?_
          obtain rfl : x = x' := by rw [hxx] at hxx'; exact Option.some.inj hxx'
          obtain rfl : y = y' := by rw [hyy] at hyy'; exact Option.some.inj hyy'
          refine brr_p (fun hgt => ?_) (fun hgt => ?_)
          · exact k _ ⟨fun h => (by cases h), fun h => absurd h (hne (by intro h; subst h; omega))⟩
          · have hxy : x = y := UInt8.toNat.inj (by omega)
            rw [wrap64 (by omega) (by omega)]
            refine hn (m - 1) _ _ (by omega) ⟨rfl, by omega, by omega, by omega, ?_⟩
            rw [show (i + 1).toNat = i.toNat + 1 by omega, take_succ_eq hxx, take_succ_eq hyy, he, hxy]
      · refine hj _ ⟨rfl, i.toNat, he, ?_⟩
        rcases hf e with h | h
        · exact .inl (by omega)
        · exact .inr (by omega)
    · intro j2 hj2
      refine brr_p (fun hlt => ?_) (fun hlt => ?_)
      · refine hj2 _ _ ⟨rfl, fun e => ⟨hlt, by simpa using e⟩, fun e => .inr (by simpa using e)⟩
      · exact hj2 _ _ ⟨rfl, fun e => (by cases e), fun _ => .inl (by omega)⟩
theorem F_ref0_Eq.is {h : Heap} {a b : Sl} {xs ys : List UInt8} {Q : Bool → Heap → Prop} (V1 : Bytes h a xs) (V2 : Bytes h b ys) (h1 : xs.length < 4611686018427387904) (h2 : ys.length < 4611686018427387904) (k : Q (decide (xs = ys)) h) : F_ref0_Eq a b h Q := by
  rw [F_ref0_Eq.eq_1, F_ref0_Eq_of.eq_1]
  refine F_ref0_Cmp.is V1 V2 h1 h2 fun r hr => ?_
  have e : (r == 0) = decide (xs = ys) := by
    by_cases h : xs = ys
    · simp [h, hr.2 h]
    · have : r ≠ 0 := fun e => h (hr.1 e)
      simp [h, this]
  rw [e]
  exact k
theorem put_all {cs vs : List Value} (h : vs.length = cs.length) : V.put cs 0 vs = vs := by
  have := put_app [] cs vs (by omega)
  simp only [List.nil_append, List.length_nil] at this
  rw [this, h]; simp
theorem flat_u8 (l : List UInt8) : (l.flatMap u8).length = l.length := by rw [flatMap_len u8_len]; omega
theorem all_one {enc : α → List Value} (ho : ∀ x, (enc x).all oneV = true) (xs : List α) : (xs.flatMap enc).all oneV = true := by
  simp only [List.all_eq_true, List.mem_flatMap]
  rintro v ⟨x, _, hv⟩
  exact List.all_eq_true.1 (ho x) v hv
theorem F_ref0_Copy.is {h0 h : Heap} {L : List Res} {a : Sl} {xs : List UInt8} {Q : Sl → Heap → Prop} (O : Sat h0 h L) (V1 : Bytes h a xs) (h1 : xs.length ≤ 281474976710656) (k : ∀ s h', Sat h0 h' (buf 1 u8 s xs :: L) → s.len = xs.length → s.ptr ≠ none → Q s h') : F_ref0_Copy a h Q := by
  rw [F_ref0_Copy.eq_1, F_ref0_Copy_of.eq_1]
  have hl := V1.len
  refine (Sat.nil h).mk_buf (by omega) (by omega) (by omega) fun b h2 N => ?_
  refine ⟨xs.flatMap u8, ?_, ?_⟩
  · have := (V1.kept N.kept).rd u8_len
    rw [show Nat.min a.len ((a.len : Int).toNat) = a.len by simp]
    exact this
  · simp only [stP]
    have O := O.stack N
    refine O.st 0 rfl (by rw [flat_u8, mkCells_len]; omega) (all_one u8_one xs) fun h3 O => ?_
    have O : Sat h0 h3 (own b (V.put (mkCells (Value.int .u8 0) ((a.len : Int).toNat * 1)) 0 (xs.flatMap u8)) :: L) := O
    rw [put_all (by rw [flat_u8, mkCells_len]; omega)] at O
    have O : Sat h0 h3 (own b (xs.flatMap u8 ++ []) :: L) := by rw [List.append_nil]; exact O
    have O := O.own_buf (k := 0) (sz := 1) (by simp)
    refine k _ _ ?_ (by simp [hl]) (by simp)
    have e : (⟨some (pt b 0), (a.len : Int).toNat, (a.len : Int).toNat⟩ : Sl) = ⟨some (pt b 0), xs.length, xs.length + 0⟩ := by simp [hl]
    rw [e]
    exact O.bufsI
/-! ### lent, with marks behind -/
def marks : List UInt8 := [165, 90, 165]
def lent (s : Sl) (xs : List UInt8) : Res := ex fun sp => bufs 1 u8 s xs (marks.flatMap u8 ++ sp)
theorem lent.split {s : Sl} {xs : List UInt8} {E : Blks} (h : lent s xs E) : ∃ b k sp, s = ⟨some (pt b 0), xs.length, xs.length + k⟩ ∧ 3 ≤ k ∧ E = [(b, (xs ++ marks).flatMap u8 ++ sp)] ∧ sp.length + 3 = k := by
  obtain ⟨sp, h⟩ := h
  rcases h with ⟨_, _, h, _⟩ | ⟨b, k, rfl, h2, rfl⟩
  · simp [marks, u8] at h
  · rw [List.length_append, flat_u8] at h2
    have : marks.length = 3 := rfl
    exact ⟨b, k, sp, rfl, by omega, by rw [List.flatMap_append, List.append_assoc], by omega⟩
theorem Sat.lent {h0 h : Heap} {L : List Res} (O : Sat h0 h L) (i : Nat) {s : Sl} {xs : List UInt8} (hl : i < L.length) (hi : nth i L = V.lent s xs) : Bytes h s xs ∧ s.len + 3 ≤ s.cap ∧ Bytes h ⟨s.ptr, s.len + 3, s.cap⟩ (xs ++ marks) := by
  obtain ⟨E1, E2, h1, O', _⟩ := O.at i hl
  rw [hi] at h1
  obtain ⟨b, k, sp, rfl, hk, rfl, _⟩ := lent.split h1
  have B := (O'.blk _ List.mem_cons_self).2
  have e : (xs ++ marks).length = xs.length + 3 := by simp [marks]
  have V3 := view_of_blk (k := xs.length + k) u8_len B
  rw [e] at V3
  refine ⟨?_, by simp; omega, V3⟩
  rw [List.flatMap_append, List.append_assoc] at B
  exact view_of_blk u8_len B
theorem b2s_view {h : Heap} {s : Sl} {l : List UInt8} {K : ByteArray → Prop} (V1 : Bytes h s l) (k : K ⟨l.toArray⟩) : b2s s.ptr s.len h K := by
  refine ⟨l.map fun x => (x.toNat : Int), ?_, ?_⟩
  · have := V1.rd u8_len
    rw [Nat.mul_one] at this
    rw [this]
    congr 1
    rw [List.map_map]
    induction l with
    | nil => rfl
    | cons x l ih =>
      rw [List.flatMap_cons, List.map_cons, ih' l]
      rfl
  · have e : bytesOfInts (l.map fun x => (x.toNat : Int)) = ⟨l.toArray⟩ := by
      unfold bytesOfInts
      congr 2
      rw [List.map_map]
      conv => rhs; rw [← List.map_id l]
      congr 1
      funext x
      simp
    rw [e]; exact k
where ih' : ∀ l : List UInt8, l.flatMap u8 = l.map (Value.int .u8 ∘ fun x => (x.toNat : Int))
  | [] => rfl
  | x :: l => by rw [List.flatMap_cons, List.map_cons, ih' l]; rfl
theorem bytes_toList (l : List UInt8) : (⟨l.toArray⟩ : ByteArray).toList = l := by rw [ByteArray.toList_eq]
theorem Sat.lendI {h0 h : Heap} {L : List Res} {s : Sl} {xs : List UInt8} (O : Sat h0 h (buf 1 u8 s (xs ++ marks) :: L)) : Sat h0 h (V.lent ⟨s.ptr, xs.length, s.cap⟩ xs :: L) := by
  refine O.mono fun E hE => ?_
  obtain ⟨sp, hE⟩ := hE
  rcases hE with ⟨_, h, _, _⟩ | ⟨b, k, rfl, h2, rfl⟩
  · simp [marks] at h
  · refine ⟨sp, .inr ⟨b, k + 3, ?_, ?_, ?_⟩⟩
    · simp [marks]; omega
    · rw [List.length_append, flat_u8, h2]
      show 3 + k * 1 = (k + 3) * 1
      omega
    · rw [List.flatMap_append, List.append_assoc]
theorem F_law1_Lend.is {h0 h : Heap} {L : List Res} {a : Sl} {xs : List UInt8} {Q : Sl → Heap → Prop} (O : Sat h0 h L) (V1 : Bytes h a xs) (h1 : xs.length + 3 ≤ 140737488355328) (k : ∀ s h', Sat h0 h' (lent s xs :: L) → s.len = xs.length → Q s h') : F_law1_Lend a h Q := by
  rw [F_law1_Lend.eq_1, F_law1_Lend_of.eq_1]
  have hl := V1.len
  have O := O.nil_buf (sz := 1) (enc := u8)
  refine O.app_buf u8_len u8_one rfl (ys := xs) hl (V1.rd u8_len) (by simp; omega) fun s2 h2 O hs2 => ?_
  have O := O
  rw [List.nil_append] at O
  refine O.al fun b h3 O => ?_
  have O := O.swap
  refine O.app_buf u8_len u8_one rfl (ys := marks) rfl ?_ (by simp [marks]; omega) fun s4 h4 O hs4 => ?_
  · have := rdP_own O.swap 0 rfl 3 (by simp)
    exact this
  · have O := O.swap.drop
    have hv := (O.view 0 u8_len (by simp) rfl).2
    have O := O.lendI
    refine ⟨by omega, ?_, ?_⟩
    · rw [hl, hs4] at *; simp [marks] at hv; omega
    · rw [hl]
      exact k _ _ O rfl
theorem F_law1_Intact.is {h0 h : Heap} {L : List Res} (O : Sat h0 h L) (i : Nat) {s b : Sl} {xs ys : List UInt8} {Q : Bool → Heap → Prop} (hi : i < L.length) (hn : nth i L = lent s xs) (V2 : Bytes h b ys) (h1 : xs.length < 4611686018427387904) (k : Q (decide (xs = ys)) h) : F_law1_Intact s b h Q := by
  rw [F_law1_Intact.eq_1, F_law1_Intact_of.eq_1]
  obtain ⟨V1, hc, V3⟩ := O.lent i hi hn
  have hl := V1.len
  refine b2s_view V1 ?_
  refine b2s_view V2 ?_
  rw [bytes_toList, bytes_toList]
  by_cases e : xs = ys
  · rw [show (xs == ys) = true by simpa using e]
    rw [show decide (xs = ys) = true by simpa using e] at k
    refine brr_ff rfl ?_
    rw [wrap64 (x := (s.len : Int) + 3) (by omega) (by omega), wrap64 (x := (s.len : Int) + 1) (by omega) (by omega), wrap64 (x := (s.len : Int) + 2) (by omega) (by omega)]
    refine ⟨by omega, by omega, ?_⟩
    have V3 : Bytes h ⟨s.ptr, ((s.len : Int) + 3).toNat, s.cap⟩ (xs ++ marks) := V3
    refine jn1 (fun t h' => t = true ∧ h' = h) ?_ ?_
    · rintro t h ⟨rfl, rfl⟩
      exact k
    · intro j hj
      have m3 : marks.length = 3 := rfl
      refine Bytes.at V3 (by omega) (by simp; omega) fun x hx => ?_
      have hx' : (xs ++ marks)[xs.length + 0]? = some x := by rw [← hx]; congr 1; omega
      rw [List.getElem?_append_right (by omega)] at hx'
      simp [marks] at hx'; subst hx'
      refine brr_tt (by decide) ?_
      refine Bytes.at V3 (by omega) (by simp; omega) fun x hx => ?_
      have hx' : (xs ++ marks)[xs.length + 1]? = some x := by rw [← hx]; congr 1; omega
      rw [List.getElem?_append_right (by omega)] at hx'
      simp [marks] at hx'; subst hx'
      refine brr_tt (by decide) ?_
      refine Bytes.at V3 (by omega) (by simp; omega) fun x hx => ?_
      have hx' : (xs ++ marks)[xs.length + 2]? = some x := by rw [← hx]; congr 1; omega
      rw [List.getElem?_append_right (by omega)] at hx'
      simp [marks] at hx'; subst hx'
      exact hj _ _ ⟨by decide, rfl⟩
  · rw [show (xs == ys) = false by simpa using e]
    rw [show decide (xs = ys) = false by simpa using e] at k
    exact brr_tt rfl k
/-- A byte of one's own list is written. -/
theorem Sat.putL {h0 h : Heap} {L : List Res} {s : Sl} {xs : List UInt8} {i : Int} {K : Heap → Prop} (O : Sat h0 h (V.lent s xs :: L)) (hi0 : 0 ≤ i) (hi1 : i < (xs.length : Int)) (y : UInt8) {cs : List Value} (hcs : cs = u8 y) (k : ∀ h', Sat h0 h' (V.lent s (xs.set i.toNat y) :: L) → K h') : ixS 1 s i fun a => V.st a cs h K := by
  subst hcs
  obtain ⟨E, ⟨E1, E2, p, hA, h2⟩, O⟩ := O
  have O := O.perm p.symm
  obtain ⟨sp, hA⟩ := hA
  rcases hA with ⟨_, _, h, _⟩ | ⟨b, j, rfl, hsp, rfl⟩
  · simp [marks, u8] at h
  · refine ⟨pt b 0, rfl, hi0, hi1, ?_⟩
    rw [pt_add, Nat.zero_add, Nat.mul_one]
    have hl := flatMap_len u8_len xs
    refine Held.st O (by rw [u8_len, List.length_append, hl]; omega) (u8_one y) fun h' O' => ?_
    rw [set_flat1 u8_len _ _ _ _ (by omega)] at O'
    exact k _ ⟨_, ⟨[(b, _)], E2, List.Perm.refl _, ⟨sp, .inr ⟨b, j, by simp, hsp, rfl⟩⟩, h2⟩, O'⟩
end Go.Proofs.Ytompmkmbppcadaa.V
namespace Go.Proofs.Ytompmkmbppcadaa.V
open Go Go.RowKit
set_option linter.unusedVariables false
set_option maxRecDepth 100000
/-! (*tally/code.Writer).fixed -/
def F_code_Writer_fixed.l1 (w1 : Option Addr) (n2 : Int) (size3 : Int) (j4 : Heap → Prop) : Int → Heap → Prop :=
  wl [(8, .one (.int .i64))] (fun (next5 : Int → Heap → Prop) (x6 : Int) (h7 : Heap) =>
  brr (decide (x6 < size3))
  (nn w1 fun (a8 : Addr) =>
  ld [.sl] (a8.add 0) h7 fun (v9 : Sl) =>
  0 ≤ (IntKind.i64.wrap (8 * (IntKind.i64.wrap ((IntKind.i64.wrap (size3 - 1)) - x6)))) ∧
  al 5 [.int .u8 (IntKind.u8.wrap (n2.fdiv (2 ^ min (IntKind.i64.wrap (8 * (IntKind.i64.wrap ((IntKind.i64.wrap (size3 - 1)) - x6)))).toNat IntKind.u64.bits)))] h7 fun (a10 : Addr) (h11 : Heap) =>
  cellsAre h11 (a8.add 0) [.slice v9.ptr v9.len v9.cap] ∧
  app 5 1 1 (.int .u8 0) v9 (some a10) 1 h11 fun (s12 : Sl) (h13 : Heap) =>
  nn w1 fun (a14 : Addr) =>
  st (a14.add 0) [.slice s12.ptr s12.len s12.cap] h13 fun (h15 : Heap) =>
  next5 (IntKind.i64.wrap (x6 + 1)) h15)
  (j4 h7))
def F_code_Writer_fixed_of  (w1 : Option Addr) (n2 : Int) (size3 : Int) (h : Heap) (Q : Heap → Prop) : Prop :=
  jn [] (fun  (h16 : Heap) =>
  Q h16) (fun (j4 : Heap → Prop) =>
  F_code_Writer_fixed.l1 w1 n2 size3 j4 0 h)
def F_code_Writer_fixed (w1 : Option Addr) (n2 : Int) (size3 : Int) (h : Heap) (Q : Heap → Prop) : Prop := F_code_Writer_fixed_of  w1 n2 size3 h Q
def plan49 : Plan := .s (.r [0, 1, 2, 7, 8]) (.bj [] [] (.l [(8, .one (.int .i64))] [0, 1, 2, 7] (.s (.r [0, 1, 2, 7, 8, 9]) (.s (.c .z .z) (.s (.b (.s (.r [0, 1, 2, 6, 7, 8]) (.d [0, 0, 2, 6, 14, 0, 0, 64, 0, 448, 960, 2016, 4064, 8160, 16382, 32767, 65535, 131071] [[0, 1, 2, 3, 4, 5, 6, 7, 8, 9, 10, 11, 12, 13, 14, 15, 16, 17]] [0, 1, 2, 7, 8]))) (.r [0, 1, 2, 7, 8]))))))
theorem F_code_Writer_fixed.eq  (w1 : Option Addr) (n2 : Int) (size3 : Int) (h : Heap) (K : Value → Heap → Prop) : F_code_Writer_fixed_of  w1 n2 size3 h (fun  (h : Heap) => K (.tuple #[]) h) =
    den Try.prog noFns Try.f49.ntmps plan49 (bodyOf Try.f49) (args0 0 [(.pointer w1 : Value), (.int .u64 n2 : Value), (.int .i64 size3 : Value)]) h ⟨fun env h => dRes Try.prog Try.f49.results.toList env h K, fun _ _ _ => False, fun env h => dRes Try.prog Try.f49.results.toList env h K⟩ := by kernel_rfl
def E_code_Writer_fixed_of (f : Option Addr → Int → Int → Heap → (Heap → Prop) → Prop) : List Value → Heap → (Value → Heap → Prop) → Prop
  | [v0, v1, v2], h, K => dec1 .ptr v0 fun (w1 : Option Addr) =>
  dec1 (.int .u64) v1 fun (n2 : Int) =>
  dec1 (.int .i64) v2 fun (size3 : Int) =>
  f w1 n2 size3 h (fun  (h : Heap) => K (.tuple #[]) h)
  | _, _, _ => False
abbrev E_code_Writer_fixed := E_code_Writer_fixed_of F_code_Writer_fixed
theorem E_code_Writer_fixed.right : IsRight Try.prog 49 E_code_Writer_fixed := by
  refine isRight fun vs K w hh => ?_
  match vs, hh with
  | [v0, v1, v2], hh =>
    unfold E_code_Writer_fixed E_code_Writer_fixed_of at hh
    replace hh := dec1_sound hh; obtain ⟨w1, rfl, hh⟩ := hh
    replace hh := dec1_sound hh; obtain ⟨n2, rfl, hh⟩ := hh
    replace hh := dec1_sound hh; obtain ⟨size3, rfl, hh⟩ := hh
    unfold F_code_Writer_fixed at hh
    exact calls_den noFns_right plan49 _ w K Try.func49 (by kernel_rfl) (by kernel_rfl) (Eq.mp (F_code_Writer_fixed.eq  w1 n2 size3 w.heap K) hh)
theorem ok49 : okFn Try.prog 49 = true := by kernel_rfl
end Go.Proofs.Ytompmkmbppcadaa.V
namespace Go.Proofs.Ytompmkmbppcadaa.V
open Go Go.RowKit
set_option linter.unusedVariables false
set_option maxRecDepth 100000
/-! (*tally/code.Writer).U8 -/
def F_code_Writer_U8_of (f49_ : Option Addr → Int → Int → Heap → (Heap → Prop) → Prop) (w1 : Option Addr) (n2 : Int) (h : Heap) (Q : Heap → Prop) : Prop :=
  f49_ w1 (IntKind.u64.wrap n2) 1 h fun  (h3 : Heap) =>
  Q h3
def F_code_Writer_U8 (w1 : Option Addr) (n2 : Int) (h : Heap) (Q : Heap → Prop) : Prop := F_code_Writer_U8_of F_code_Writer_fixed w1 n2 h Q
def plan40 : Plan := .r []
theorem F_code_Writer_U8.eq (f49_ : Option Addr → Int → Int → Heap → (Heap → Prop) → Prop) (w1 : Option Addr) (n2 : Int) (h : Heap) (K : Value → Heap → Prop) : F_code_Writer_U8_of f49_ w1 n2 h (fun  (h : Heap) => K (.tuple #[]) h) =
    den Try.prog (fn1 49 (E_code_Writer_fixed_of f49_) noFns) Try.f40.ntmps plan40 (bodyOf Try.f40) (args0 0 [(.pointer w1 : Value), (.int .u8 n2 : Value)]) h ⟨fun env h => dRes Try.prog Try.f40.results.toList env h K, fun _ _ _ => False, fun env h => dRes Try.prog Try.f40.results.toList env h K⟩ := by kernel_rfl
def E_code_Writer_U8_of (f : Option Addr → Int → Heap → (Heap → Prop) → Prop) : List Value → Heap → (Value → Heap → Prop) → Prop
  | [v0, v1], h, K => dec1 .ptr v0 fun (w1 : Option Addr) =>
  dec1 (.int .u8) v1 fun (n2 : Int) =>
  f w1 n2 h (fun  (h : Heap) => K (.tuple #[]) h)
  | _, _, _ => False
abbrev E_code_Writer_U8 := E_code_Writer_U8_of F_code_Writer_U8
theorem E_code_Writer_U8.right : IsRight Try.prog 40 E_code_Writer_U8 := by
  refine isRight fun vs K w hh => ?_
  match vs, hh with
  | [v0, v1], hh =>
    unfold E_code_Writer_U8 E_code_Writer_U8_of at hh
    replace hh := dec1_sound hh; obtain ⟨w1, rfl, hh⟩ := hh
    replace hh := dec1_sound hh; obtain ⟨n2, rfl, hh⟩ := hh
    unfold F_code_Writer_U8 at hh
    exact calls_den (fn1_right ok49 E_code_Writer_fixed.right noFns_right) plan40 _ w K Try.func40 (by kernel_rfl) (by kernel_rfl) (Eq.mp (F_code_Writer_U8.eq F_code_Writer_fixed w1 n2 w.heap K) hh)
theorem ok40 : okFn Try.prog 40 = true := by kernel_rfl
end Go.Proofs.Ytompmkmbppcadaa.V
namespace Go.Proofs.Ytompmkmbppcadaa.V
open Go Go.RowKit
set_option linter.unusedVariables false
set_option maxRecDepth 100000
/-! (*tally/code.Writer).U32 -/
def F_code_Writer_U32_of (f49_ : Option Addr → Int → Int → Heap → (Heap → Prop) → Prop) (w1 : Option Addr) (n2 : Int) (h : Heap) (Q : Heap → Prop) : Prop :=
  f49_ w1 (IntKind.u64.wrap n2) 4 h fun  (h3 : Heap) =>
  Q h3
def F_code_Writer_U32 (w1 : Option Addr) (n2 : Int) (h : Heap) (Q : Heap → Prop) : Prop := F_code_Writer_U32_of F_code_Writer_fixed w1 n2 h Q
def plan24 : Plan := .r []
theorem F_code_Writer_U32.eq (f49_ : Option Addr → Int → Int → Heap → (Heap → Prop) → Prop) (w1 : Option Addr) (n2 : Int) (h : Heap) (K : Value → Heap → Prop) : F_code_Writer_U32_of f49_ w1 n2 h (fun  (h : Heap) => K (.tuple #[]) h) =
    den Try.prog (fn1 49 (E_code_Writer_fixed_of f49_) noFns) Try.f24.ntmps plan24 (bodyOf Try.f24) (args0 0 [(.pointer w1 : Value), (.int .u32 n2 : Value)]) h ⟨fun env h => dRes Try.prog Try.f24.results.toList env h K, fun _ _ _ => False, fun env h => dRes Try.prog Try.f24.results.toList env h K⟩ := by kernel_rfl
def E_code_Writer_U32_of (f : Option Addr → Int → Heap → (Heap → Prop) → Prop) : List Value → Heap → (Value → Heap → Prop) → Prop
  | [v0, v1], h, K => dec1 .ptr v0 fun (w1 : Option Addr) =>
  dec1 (.int .u32) v1 fun (n2 : Int) =>
  f w1 n2 h (fun  (h : Heap) => K (.tuple #[]) h)
  | _, _, _ => False
abbrev E_code_Writer_U32 := E_code_Writer_U32_of F_code_Writer_U32
theorem E_code_Writer_U32.right : IsRight Try.prog 24 E_code_Writer_U32 := by
  refine isRight fun vs K w hh => ?_
  match vs, hh with
  | [v0, v1], hh =>
    unfold E_code_Writer_U32 E_code_Writer_U32_of at hh
    replace hh := dec1_sound hh; obtain ⟨w1, rfl, hh⟩ := hh
    replace hh := dec1_sound hh; obtain ⟨n2, rfl, hh⟩ := hh
    unfold F_code_Writer_U32 at hh
    exact calls_den (fn1_right ok49 E_code_Writer_fixed.right noFns_right) plan24 _ w K Try.func24 (by kernel_rfl) (by kernel_rfl) (Eq.mp (F_code_Writer_U32.eq F_code_Writer_fixed w1 n2 w.heap K) hh)
theorem ok24 : okFn Try.prog 24 = true := by kernel_rfl
end Go.Proofs.Ytompmkmbppcadaa.V
namespace Go.Proofs.Ytompmkmbppcadaa.V
open Go Go.RowKit
set_option linter.unusedVariables false
set_option maxRecDepth 100000
/-! (*tally/code.Writer).U64 -/
def F_code_Writer_U64_of (f49_ : Option Addr → Int → Int → Heap → (Heap → Prop) → Prop) (w1 : Option Addr) (n2 : Int) (h : Heap) (Q : Heap → Prop) : Prop :=
  f49_ w1 n2 8 h fun  (h3 : Heap) =>
  Q h3
def F_code_Writer_U64 (w1 : Option Addr) (n2 : Int) (h : Heap) (Q : Heap → Prop) : Prop := F_code_Writer_U64_of F_code_Writer_fixed w1 n2 h Q
def plan42 : Plan := .r []
theorem F_code_Writer_U64.eq (f49_ : Option Addr → Int → Int → Heap → (Heap → Prop) → Prop) (w1 : Option Addr) (n2 : Int) (h : Heap) (K : Value → Heap → Prop) : F_code_Writer_U64_of f49_ w1 n2 h (fun  (h : Heap) => K (.tuple #[]) h) =
    den Try.prog (fn1 49 (E_code_Writer_fixed_of f49_) noFns) Try.f42.ntmps plan42 (bodyOf Try.f42) (args0 0 [(.pointer w1 : Value), (.int .u64 n2 : Value)]) h ⟨fun env h => dRes Try.prog Try.f42.results.toList env h K, fun _ _ _ => False, fun env h => dRes Try.prog Try.f42.results.toList env h K⟩ := by kernel_rfl
def E_code_Writer_U64_of (f : Option Addr → Int → Heap → (Heap → Prop) → Prop) : List Value → Heap → (Value → Heap → Prop) → Prop
  | [v0, v1], h, K => dec1 .ptr v0 fun (w1 : Option Addr) =>
  dec1 (.int .u64) v1 fun (n2 : Int) =>
  f w1 n2 h (fun  (h : Heap) => K (.tuple #[]) h)
  | _, _, _ => False
abbrev E_code_Writer_U64 := E_code_Writer_U64_of F_code_Writer_U64
theorem E_code_Writer_U64.right : IsRight Try.prog 42 E_code_Writer_U64 := by
  refine isRight fun vs K w hh => ?_
  match vs, hh with
  | [v0, v1], hh =>
    unfold E_code_Writer_U64 E_code_Writer_U64_of at hh
    replace hh := dec1_sound hh; obtain ⟨w1, rfl, hh⟩ := hh
    replace hh := dec1_sound hh; obtain ⟨n2, rfl, hh⟩ := hh
    unfold F_code_Writer_U64 at hh
    exact calls_den (fn1_right ok49 E_code_Writer_fixed.right noFns_right) plan42 _ w K Try.func42 (by kernel_rfl) (by kernel_rfl) (Eq.mp (F_code_Writer_U64.eq F_code_Writer_fixed w1 n2 w.heap K) hh)
theorem ok42 : okFn Try.prog 42 = true := by kernel_rfl
end Go.Proofs.Ytompmkmbppcadaa.V
namespace Go.Proofs.Ytompmkmbppcadaa.V
open Go Go.RowKit
set_option linter.unusedVariables false
set_option maxRecDepth 100000
/-! math/bits.Len64 -/
def F_math_bits_Len64_of  (x1 : Int) (h : Heap) (Q : Int → Heap → Prop) : Prop :=
  jn [(0, .one (.int .u64)), (2, .one (.int .i64))] (fun (x3 : Int) (n4 : Int) (h5 : Heap) =>
  jn [(0, .one (.int .u64)), (2, .one (.int .i64))] (fun (x7 : Int) (n8 : Int) (h9 : Heap) =>
  jn [(0, .one (.int .u64)), (2, .one (.int .i64))] (fun (x11 : Int) (n12 : Int) (h13 : Heap) =>
  stAt (⟨#[0, 1, 2, 2, 3, 3, 3, 3, 4, 4, 4, 4, 4, 4, 4, 4, 5, 5, 5, 5, 5, 5, 5, 5, 5, 5, 5, 5, 5, 5, 5, 5, 6, 6, 6, 6, 6, 6, 6, 6, 6, 6, 6, 6, 6, 6, 6, 6, 6, 6, 6, 6, 6, 6, 6, 6, 6, 6, 6, 6, 6, 6, 6, 6, 7, 7, 7, 7, 7, 7, 7, 7, 7, 7, 7, 7, 7, 7, 7, 7, 7, 7, 7, 7, 7, 7, 7, 7, 7, 7, 7, 7, 7, 7, 7, 7, 7, 7, 7, 7, 7, 7, 7, 7, 7, 7, 7, 7, 7, 7, 7, 7, 7, 7, 7, 7, 7, 7, 7, 7, 7, 7, 7, 7, 7, 7, 7, 7, 8, 8, 8, 8, 8, 8, 8, 8, 8, 8, 8, 8, 8, 8, 8, 8, 8, 8, 8, 8, 8, 8, 8, 8, 8, 8, 8, 8, 8, 8, 8, 8, 8, 8, 8, 8, 8, 8, 8, 8, 8, 8, 8, 8, 8, 8, 8, 8, 8, 8, 8, 8, 8, 8, 8, 8, 8, 8, 8, 8, 8, 8, 8, 8, 8, 8, 8, 8, 8, 8, 8, 8, 8, 8, 8, 8, 8, 8, 8, 8, 8, 8, 8, 8, 8, 8, 8, 8, 8, 8, 8, 8, 8, 8, 8, 8, 8, 8, 8, 8, 8, 8, 8, 8, 8, 8, 8, 8, 8, 8, 8, 8, 8, 8, 8, 8, 8, 8, 8, 8, 8, 8, 8, 8, 8, 8, 8, 8]⟩ : ByteArray) (IntKind.u8.wrap x11) fun (b14 : Int) =>
  Q (IntKind.i64.wrap (n12 + (IntKind.i64.wrap b14))) h13) (fun (j10 : Int → Int → Heap → Prop) =>
  brr (decide (x7 ≥ 256))
  (0 ≤ (8 : Int) ∧
  j10 (x7.fdiv (2 ^ min (8 : Int).toNat IntKind.u64.bits)) (IntKind.i64.wrap (n8 + 8)) h9)
  (j10 x7 n8 h9))) (fun (j6 : Int → Int → Heap → Prop) =>
  brr (decide (x3 ≥ 65536))
  (0 ≤ (16 : Int) ∧
  j6 (x3.fdiv (2 ^ min (16 : Int).toNat IntKind.u64.bits)) (IntKind.i64.wrap (n4 + 16)) h5)
  (j6 x3 n4 h5))) (fun (j2 : Int → Int → Heap → Prop) =>
  brr (decide (x1 ≥ 4294967296))
  (0 ≤ (32 : Int) ∧
  j2 (x1.fdiv (2 ^ min (32 : Int).toNat IntKind.u64.bits)) 32 h)
  (j2 x1 0 h))
def F_math_bits_Len64 (x1 : Int) (h : Heap) (Q : Int → Heap → Prop) : Prop := F_math_bits_Len64_of  x1 h Q
def plan61 : Plan := .s (.r [0, 2]) (.s (.s (.r [0, 2, 4]) (.cj [(0, .one (.int .u64)), (2, .one (.int .i64))] [] (.s (.r [0]) (.r [0, 2])) .z)) (.s (.s (.r [0, 2, 8]) (.cj [(0, .one (.int .u64)), (2, .one (.int .i64))] [] (.s (.r [0, 2]) (.r [0, 2])) .z)) (.s (.s (.r [0, 2, 14]) (.cj [(0, .one (.int .u64)), (2, .one (.int .i64))] [] (.s (.r [0, 2]) (.r [0, 2])) .z)) (.s (.r [2]) .z))))
theorem F_math_bits_Len64.eq  (x1 : Int) (h : Heap) (K : Value → Heap → Prop) : F_math_bits_Len64_of  x1 h (fun (r0 : Int) (h : Heap) => K (.int .i64 r0) h) =
    den Try.prog noFns Try.f61.ntmps plan61 (bodyOf Try.f61) (args0 0 [(.int .u64 x1 : Value)]) h ⟨fun env h => dRes Try.prog Try.f61.results.toList env h K, fun _ _ _ => False, fun env h => dRes Try.prog Try.f61.results.toList env h K⟩ := by kernel_rfl
def E_math_bits_Len64_of (f : Int → Heap → (Int → Heap → Prop) → Prop) : List Value → Heap → (Value → Heap → Prop) → Prop
  | [v0], h, K => dec1 (.int .u64) v0 fun (x1 : Int) =>
  f x1 h (fun (r0 : Int) (h : Heap) => K (.int .i64 r0) h)
  | _, _, _ => False
abbrev E_math_bits_Len64 := E_math_bits_Len64_of F_math_bits_Len64
theorem E_math_bits_Len64.right : IsRight Try.prog 61 E_math_bits_Len64 := by
  refine isRight fun vs K w hh => ?_
  match vs, hh with
  | [v0], hh =>
    unfold E_math_bits_Len64 E_math_bits_Len64_of at hh
    replace hh := dec1_sound hh; obtain ⟨x1, rfl, hh⟩ := hh
    unfold F_math_bits_Len64 at hh
    exact calls_den noFns_right plan61 _ w K Try.func61 (by kernel_rfl) (by kernel_rfl) (Eq.mp (F_math_bits_Len64.eq  x1 w.heap K) hh)
theorem ok61 : okFn Try.prog 61 = true := by kernel_rfl
end Go.Proofs.Ytompmkmbppcadaa.V
namespace Go.Proofs.Ytompmkmbppcadaa.V
open Go Go.RowKit
set_option linter.unusedVariables false
set_option maxRecDepth 100000
/-! (*tally/code.Writer).Var -/
def F_code_Writer_Var.l1 (w1 : Option Addr) (r3 : Int) (j5 : Int → Heap → Prop) : Int → Int → Heap → Prop :=
  wl [(1, .one (.int .u64)), (9, .one (.int .i64))] (fun (next6 : Int → Int → Heap → Prop) (n7 : Int) (x8 : Int) (h9 : Heap) =>
  brr (decide (x8 < (IntKind.i64.wrap ((IntKind.i64.wrap ((if r3 > 1 then r3 else 1) - 1)).tdiv 7))))
  (nn w1 fun (a10 : Addr) =>
  ld [.sl] (a10.add 0) h9 fun (v11 : Sl) =>
  al 5 [.int .u8 (IntKind.u8.wrap (BitVec.ofInt IntKind.u8.bits (IntKind.u8.wrap n7) ||| BitVec.ofInt IntKind.u8.bits 128).toNat)] h9 fun (a12 : Addr) (h13 : Heap) =>
  app 5 1 1 (.int .u8 0) v11 (some a12) 1 h13 fun (s14 : Sl) (h15 : Heap) =>
  nn w1 fun (a16 : Addr) =>
  st (a16.add 0) [.slice s14.ptr s14.len s14.cap] h15 fun (h17 : Heap) =>
  0 ≤ (7 : Int) ∧
  next6 (n7.fdiv (2 ^ min (7 : Int).toNat IntKind.u64.bits)) (IntKind.i64.wrap (x8 + 1)) h17)
  (j5 n7 h9))
def F_code_Writer_Var_of (f61_ : Int → Heap → (Int → Heap → Prop) → Prop) (w1 : Option Addr) (n2 : Int) (h : Heap) (Q : Heap → Prop) : Prop :=
  f61_ n2 h fun (r3 : Int) (h4 : Heap) =>
  (7 : Int) ≠ 0 ∧
  jn [(1, .one (.int .u64))] (fun (n18 : Int) (h19 : Heap) =>
  nn w1 fun (a20 : Addr) =>
  ld [.sl] (a20.add 0) h19 fun (v21 : Sl) =>
  al 5 [.int .u8 (IntKind.u8.wrap n18)] h19 fun (a22 : Addr) (h23 : Heap) =>
  app 5 1 1 (.int .u8 0) v21 (some a22) 1 h23 fun (s24 : Sl) (h25 : Heap) =>
  nn w1 fun (a26 : Addr) =>
  st (a26.add 0) [.slice s24.ptr s24.len s24.cap] h25 fun (h27 : Heap) =>
  Q h27) (fun (j5 : Int → Heap → Prop) =>
  F_code_Writer_Var.l1 w1 r3 j5 n2 0 h4)
def F_code_Writer_Var (w1 : Option Addr) (n2 : Int) (h : Heap) (Q : Heap → Prop) : Prop := F_code_Writer_Var_of F_math_bits_Len64 w1 n2 h Q
def plan44 : Plan := .s (.s (.r [0, 1, 8, 9]) (.bj [(1, .one (.int .u64))] [0] (.l [(1, .one (.int .u64)), (9, .one (.int .i64))] [0, 8] (.s (.r [0, 1, 8, 9, 10]) (.s (.c .z .z) (.s (.b (.s (.r [0, 1, 8, 9]) (.r [0, 1, 8, 9]))) (.r [0, 1, 8, 9]))))))) (.r [])
theorem F_code_Writer_Var.eq (f61_ : Int → Heap → (Int → Heap → Prop) → Prop) (w1 : Option Addr) (n2 : Int) (h : Heap) (K : Value → Heap → Prop) : F_code_Writer_Var_of f61_ w1 n2 h (fun  (h : Heap) => K (.tuple #[]) h) =
    den Try.prog (fn1 61 (E_math_bits_Len64_of f61_) noFns) Try.f44.ntmps plan44 (bodyOf Try.f44) (args0 0 [(.pointer w1 : Value), (.int .u64 n2 : Value)]) h ⟨fun env h => dRes Try.prog Try.f44.results.toList env h K, fun _ _ _ => False, fun env h => dRes Try.prog Try.f44.results.toList env h K⟩ := by kernel_rfl
def E_code_Writer_Var_of (f : Option Addr → Int → Heap → (Heap → Prop) → Prop) : List Value → Heap → (Value → Heap → Prop) → Prop
  | [v0, v1], h, K => dec1 .ptr v0 fun (w1 : Option Addr) =>
  dec1 (.int .u64) v1 fun (n2 : Int) =>
  f w1 n2 h (fun  (h : Heap) => K (.tuple #[]) h)
  | _, _, _ => False
abbrev E_code_Writer_Var := E_code_Writer_Var_of F_code_Writer_Var
theorem E_code_Writer_Var.right : IsRight Try.prog 44 E_code_Writer_Var := by
  refine isRight fun vs K w hh => ?_
  match vs, hh with
  | [v0, v1], hh =>
    unfold E_code_Writer_Var E_code_Writer_Var_of at hh
    replace hh := dec1_sound hh; obtain ⟨w1, rfl, hh⟩ := hh
    replace hh := dec1_sound hh; obtain ⟨n2, rfl, hh⟩ := hh
    unfold F_code_Writer_Var at hh
    exact calls_den (fn1_right ok61 E_math_bits_Len64.right noFns_right) plan44 _ w K Try.func44 (by kernel_rfl) (by kernel_rfl) (Eq.mp (F_code_Writer_Var.eq F_math_bits_Len64 w1 n2 w.heap K) hh)
theorem ok44 : okFn Try.prog 44 = true := by kernel_rfl
end Go.Proofs.Ytompmkmbppcadaa.V
namespace Go.Proofs.Ytompmkmbppcadaa.V
open Go Go.RowKit
set_option linter.unusedVariables false
set_option maxRecDepth 100000
/-! (*tally/code.Writer).Raw -/
def F_code_Writer_Raw_of  (w1 : Option Addr) (b2 : Sl) (h : Heap) (Q : Heap → Prop) : Prop :=
  nn w1 fun (a3 : Addr) =>
  ld [.sl] (a3.add 0) h fun (v4 : Sl) =>
  app 5 1 1 (.int .u8 0) v4 b2.ptr b2.len h fun (s5 : Sl) (h6 : Heap) =>
  nn w1 fun (a7 : Addr) =>
  st (a7.add 0) [.slice s5.ptr s5.len s5.cap] h6 fun (h8 : Heap) =>
  Q h8
def F_code_Writer_Raw (w1 : Option Addr) (b2 : Sl) (h : Heap) (Q : Heap → Prop) : Prop := F_code_Writer_Raw_of  w1 b2 h Q
def plan46 : Plan := .r []
theorem F_code_Writer_Raw.eq  (w1 : Option Addr) (b2 : Sl) (h : Heap) (K : Value → Heap → Prop) : F_code_Writer_Raw_of  w1 b2 h (fun  (h : Heap) => K (.tuple #[]) h) =
    den Try.prog noFns Try.f46.ntmps plan46 (bodyOf Try.f46) (args0 0 [(.pointer w1 : Value), (.slice b2.ptr b2.len b2.cap : Value)]) h ⟨fun env h => dRes Try.prog Try.f46.results.toList env h K, fun _ _ _ => False, fun env h => dRes Try.prog Try.f46.results.toList env h K⟩ := by kernel_rfl
def E_code_Writer_Raw_of (f : Option Addr → Sl → Heap → (Heap → Prop) → Prop) : List Value → Heap → (Value → Heap → Prop) → Prop
  | [v0, v1], h, K => dec1 .ptr v0 fun (w1 : Option Addr) =>
  dec1 .sl v1 fun (b2 : Sl) =>
  f w1 b2 h (fun  (h : Heap) => K (.tuple #[]) h)
  | _, _, _ => False
abbrev E_code_Writer_Raw := E_code_Writer_Raw_of F_code_Writer_Raw
theorem E_code_Writer_Raw.right : IsRight Try.prog 46 E_code_Writer_Raw := by
  refine isRight fun vs K w hh => ?_
  match vs, hh with
  | [v0, v1], hh =>
    unfold E_code_Writer_Raw E_code_Writer_Raw_of at hh
    replace hh := dec1_sound hh; obtain ⟨w1, rfl, hh⟩ := hh
    replace hh := dec1_sound hh; obtain ⟨b2, rfl, hh⟩ := hh
    unfold F_code_Writer_Raw at hh
    exact calls_den noFns_right plan46 _ w K Try.func46 (by kernel_rfl) (by kernel_rfl) (Eq.mp (F_code_Writer_Raw.eq  w1 b2 w.heap K) hh)
theorem ok46 : okFn Try.prog 46 = true := by kernel_rfl
end Go.Proofs.Ytompmkmbppcadaa.V
namespace Go.Proofs.Ytompmkmbppcadaa.V
open Go Go.RowKit
set_option linter.unusedVariables false
set_option maxRecDepth 100000
/-! (*tally/code.Writer).Bytes -/
def F_code_Writer_Bytes_of (f44_ : Option Addr → Int → Heap → (Heap → Prop) → Prop) (f46_ : Option Addr → Sl → Heap → (Heap → Prop) → Prop) (w1 : Option Addr) (b2 : Sl) (h : Heap) (Q : Heap → Prop) : Prop :=
  f44_ w1 (IntKind.u64.wrap ((b2.len : Nat) : Int)) h fun  (h3 : Heap) =>
  f46_ w1 b2 h3 fun  (h4 : Heap) =>
  Q h4
def F_code_Writer_Bytes (w1 : Option Addr) (b2 : Sl) (h : Heap) (Q : Heap → Prop) : Prop := F_code_Writer_Bytes_of F_code_Writer_Var F_code_Writer_Raw w1 b2 h Q
def plan26 : Plan := .s (.r [0, 1]) (.r [])
theorem F_code_Writer_Bytes.eq (f44_ : Option Addr → Int → Heap → (Heap → Prop) → Prop) (f46_ : Option Addr → Sl → Heap → (Heap → Prop) → Prop) (w1 : Option Addr) (b2 : Sl) (h : Heap) (K : Value → Heap → Prop) : F_code_Writer_Bytes_of f44_ f46_ w1 b2 h (fun  (h : Heap) => K (.tuple #[]) h) =
    den Try.prog (fn1 44 (E_code_Writer_Var_of f44_) (fn1 46 (E_code_Writer_Raw_of f46_) noFns)) Try.f26.ntmps plan26 (bodyOf Try.f26) (args0 0 [(.pointer w1 : Value), (.slice b2.ptr b2.len b2.cap : Value)]) h ⟨fun env h => dRes Try.prog Try.f26.results.toList env h K, fun _ _ _ => False, fun env h => dRes Try.prog Try.f26.results.toList env h K⟩ := by kernel_rfl
def E_code_Writer_Bytes_of (f : Option Addr → Sl → Heap → (Heap → Prop) → Prop) : List Value → Heap → (Value → Heap → Prop) → Prop
  | [v0, v1], h, K => dec1 .ptr v0 fun (w1 : Option Addr) =>
  dec1 .sl v1 fun (b2 : Sl) =>
  f w1 b2 h (fun  (h : Heap) => K (.tuple #[]) h)
  | _, _, _ => False
abbrev E_code_Writer_Bytes := E_code_Writer_Bytes_of F_code_Writer_Bytes
theorem E_code_Writer_Bytes.right : IsRight Try.prog 26 E_code_Writer_Bytes := by
  refine isRight fun vs K w hh => ?_
  match vs, hh with
  | [v0, v1], hh =>
    unfold E_code_Writer_Bytes E_code_Writer_Bytes_of at hh
    replace hh := dec1_sound hh; obtain ⟨w1, rfl, hh⟩ := hh
    replace hh := dec1_sound hh; obtain ⟨b2, rfl, hh⟩ := hh
    unfold F_code_Writer_Bytes at hh
    exact calls_den (fn1_right ok44 E_code_Writer_Var.right (fn1_right ok46 E_code_Writer_Raw.right noFns_right)) plan26 _ w K Try.func26 (by kernel_rfl) (by kernel_rfl) (Eq.mp (F_code_Writer_Bytes.eq F_code_Writer_Var F_code_Writer_Raw w1 b2 w.heap K) hh)
theorem ok26 : okFn Try.prog 26 = true := by kernel_rfl
end Go.Proofs.Ytompmkmbppcadaa.V
namespace Go.Proofs.Ytompmkmbppcadaa.V
open Go Go.RowKit
set_option linter.unusedVariables false
set_option maxRecDepth 100000
/-! (*tally/code.Writer).Len -/
def F_code_Writer_Len_of  (w1 : Option Addr) (h : Heap) (Q : Int → Heap → Prop) : Prop :=
  nn w1 fun (a2 : Addr) =>
  ld [.sl] (a2.add 0) h fun (v3 : Sl) =>
  Q ((v3.len : Nat) : Int) h
def F_code_Writer_Len (w1 : Option Addr) (h : Heap) (Q : Int → Heap → Prop) : Prop := F_code_Writer_Len_of  w1 h Q
def plan23 : Plan := .s (.r [0]) (.s (.r [2]) .z)
theorem F_code_Writer_Len.eq  (w1 : Option Addr) (h : Heap) (K : Value → Heap → Prop) : F_code_Writer_Len_of  w1 h (fun (r0 : Int) (h : Heap) => K (.int .i64 r0) h) =
    den Try.prog noFns Try.f23.ntmps plan23 (bodyOf Try.f23) (args0 0 [(.pointer w1 : Value)]) h ⟨fun env h => dRes Try.prog Try.f23.results.toList env h K, fun _ _ _ => False, fun env h => dRes Try.prog Try.f23.results.toList env h K⟩ := by kernel_rfl
def E_code_Writer_Len_of (f : Option Addr → Heap → (Int → Heap → Prop) → Prop) : List Value → Heap → (Value → Heap → Prop) → Prop
  | [v0], h, K => dec1 .ptr v0 fun (w1 : Option Addr) =>
  f w1 h (fun (r0 : Int) (h : Heap) => K (.int .i64 r0) h)
  | _, _, _ => False
abbrev E_code_Writer_Len := E_code_Writer_Len_of F_code_Writer_Len
theorem E_code_Writer_Len.right : IsRight Try.prog 23 E_code_Writer_Len := by
  refine isRight fun vs K w hh => ?_
  match vs, hh with
  | [v0], hh =>
    unfold E_code_Writer_Len E_code_Writer_Len_of at hh
    replace hh := dec1_sound hh; obtain ⟨w1, rfl, hh⟩ := hh
    unfold F_code_Writer_Len at hh
    exact calls_den noFns_right plan23 _ w K Try.func23 (by kernel_rfl) (by kernel_rfl) (Eq.mp (F_code_Writer_Len.eq  w1 w.heap K) hh)
theorem ok23 : okFn Try.prog 23 = true := by kernel_rfl
end Go.Proofs.Ytompmkmbppcadaa.V
namespace Go.Proofs.Ytompmkmbppcadaa.V
open Go Go.RowKit
set_option linter.unusedVariables false
set_option maxRecDepth 100000
/-! tally/code.taken -/
def F_code_taken_of  (b1 : Sl) (h : Heap) (Q : Sl → Heap → Prop) : Prop :=
  mk 5 1 1 (.int .u8 0) ((b1.len : Nat) : Int) ((b1.len : Nat) : Int) h fun (s2 : Sl) (h3 : Heap) =>
  cpy 1 s2 b1.ptr b1.len h3 fun (h5 : Heap) =>
  Q s2 h5
def F_code_taken (b1 : Sl) (h : Heap) (Q : Sl → Heap → Prop) : Prop := F_code_taken_of  b1 h Q
def plan48 : Plan := .s (.r [0]) (.s (.r [0, 3]) (.s (.r [3]) (.s (.r [2]) .z)))
theorem F_code_taken.eq  (b1 : Sl) (h : Heap) (K : Value → Heap → Prop) : F_code_taken_of  b1 h (fun (r0 : Sl) (h : Heap) => K (.slice r0.ptr r0.len r0.cap) h) =
    den Try.prog noFns Try.f48.ntmps plan48 (bodyOf Try.f48) (args0 0 [(.slice b1.ptr b1.len b1.cap : Value)]) h ⟨fun env h => dRes Try.prog Try.f48.results.toList env h K, fun _ _ _ => False, fun env h => dRes Try.prog Try.f48.results.toList env h K⟩ := by kernel_rfl
def E_code_taken_of (f : Sl → Heap → (Sl → Heap → Prop) → Prop) : List Value → Heap → (Value → Heap → Prop) → Prop
  | [v0], h, K => dec1 .sl v0 fun (b1 : Sl) =>
  f b1 h (fun (r0 : Sl) (h : Heap) => K (.slice r0.ptr r0.len r0.cap) h)
  | _, _, _ => False
abbrev E_code_taken := E_code_taken_of F_code_taken
theorem E_code_taken.right : IsRight Try.prog 48 E_code_taken := by
  refine isRight fun vs K w hh => ?_
  match vs, hh with
  | [v0], hh =>
    unfold E_code_taken E_code_taken_of at hh
    replace hh := dec1_sound hh; obtain ⟨b1, rfl, hh⟩ := hh
    unfold F_code_taken at hh
    exact calls_den noFns_right plan48 _ w K Try.func48 (by kernel_rfl) (by kernel_rfl) (Eq.mp (F_code_taken.eq  b1 w.heap K) hh)
theorem ok48 : okFn Try.prog 48 = true := by kernel_rfl
end Go.Proofs.Ytompmkmbppcadaa.V
namespace Go.Proofs.Ytompmkmbppcadaa.V
open Go Go.RowKit
set_option linter.unusedVariables false
set_option maxRecDepth 100000
/-! (*tally/code.Writer).Out -/
def F_code_Writer_Out_of (f48_ : Sl → Heap → (Sl → Heap → Prop) → Prop) (w1 : Option Addr) (h : Heap) (Q : Sl → Heap → Prop) : Prop :=
  nn w1 fun (a2 : Addr) =>
  ld [.sl] (a2.add 0) h fun (v3 : Sl) =>
  f48_ v3 h fun (r4 : Sl) (h5 : Heap) =>
  Q r4 h5
def F_code_Writer_Out (w1 : Option Addr) (h : Heap) (Q : Sl → Heap → Prop) : Prop := F_code_Writer_Out_of F_code_taken w1 h Q
def plan22 : Plan := .s (.r [0]) (.s (.r [2]) .z)
theorem F_code_Writer_Out.eq (f48_ : Sl → Heap → (Sl → Heap → Prop) → Prop) (w1 : Option Addr) (h : Heap) (K : Value → Heap → Prop) : F_code_Writer_Out_of f48_ w1 h (fun (r0 : Sl) (h : Heap) => K (.slice r0.ptr r0.len r0.cap) h) =
    den Try.prog (fn1 48 (E_code_taken_of f48_) noFns) Try.f22.ntmps plan22 (bodyOf Try.f22) (args0 0 [(.pointer w1 : Value)]) h ⟨fun env h => dRes Try.prog Try.f22.results.toList env h K, fun _ _ _ => False, fun env h => dRes Try.prog Try.f22.results.toList env h K⟩ := by kernel_rfl
def E_code_Writer_Out_of (f : Option Addr → Heap → (Sl → Heap → Prop) → Prop) : List Value → Heap → (Value → Heap → Prop) → Prop
  | [v0], h, K => dec1 .ptr v0 fun (w1 : Option Addr) =>
  f w1 h (fun (r0 : Sl) (h : Heap) => K (.slice r0.ptr r0.len r0.cap) h)
  | _, _, _ => False
abbrev E_code_Writer_Out := E_code_Writer_Out_of F_code_Writer_Out
theorem E_code_Writer_Out.right : IsRight Try.prog 22 E_code_Writer_Out := by
  refine isRight fun vs K w hh => ?_
  match vs, hh with
  | [v0], hh =>
    unfold E_code_Writer_Out E_code_Writer_Out_of at hh
    replace hh := dec1_sound hh; obtain ⟨w1, rfl, hh⟩ := hh
    unfold F_code_Writer_Out at hh
    exact calls_den (fn1_right ok48 E_code_taken.right noFns_right) plan22 _ w K Try.func22 (by kernel_rfl) (by kernel_rfl) (Eq.mp (F_code_Writer_Out.eq F_code_taken w1 w.heap K) hh)
theorem ok22 : okFn Try.prog 22 = true := by kernel_rfl
end Go.Proofs.Ytompmkmbppcadaa.V
namespace Go.Proofs.Ytompmkmbppcadaa.V
open Go Go.RowKit
set_option linter.unusedVariables false
set_option maxRecDepth 100000
/-! tally/code.New -/
def F_code_New_of   (h : Heap) (Q : Option Addr → Heap → Prop) : Prop :=
  al 92 [.slice none 0 0] h fun (a1 : Addr) (h2 : Heap) =>
  Q (some a1) h2
def F_code_New  (h : Heap) (Q : Option Addr → Heap → Prop) : Prop := F_code_New_of   h Q
def plan18 : Plan := .s (.r []) (.s (.r [0]) .z)
theorem F_code_New.eq   (h : Heap) (K : Value → Heap → Prop) : F_code_New_of   h (fun (r0 : Option Addr) (h : Heap) => K (.pointer r0) h) =
    den Try.prog noFns Try.f18.ntmps plan18 (bodyOf Try.f18) (args0 0 []) h ⟨fun env h => dRes Try.prog Try.f18.results.toList env h K, fun _ _ _ => False, fun env h => dRes Try.prog Try.f18.results.toList env h K⟩ := by kernel_rfl
def E_code_New_of (f : Heap → (Option Addr → Heap → Prop) → Prop) : List Value → Heap → (Value → Heap → Prop) → Prop
  | [], h, K => f  h (fun (r0 : Option Addr) (h : Heap) => K (.pointer r0) h)
  | _, _, _ => False
abbrev E_code_New := E_code_New_of F_code_New
theorem E_code_New.nil (f : Heap → (Option Addr → Heap → Prop) → Prop) (h : Heap) (K : Value → Heap → Prop) : E_code_New_of f [] h K = f  h (fun (r0 : Option Addr) (h : Heap) => K (.pointer r0) h) := rfl
theorem E_code_New.right : IsRight Try.prog 18 E_code_New := by
  refine isRight fun vs K w hh => ?_
  match vs, hh with
  | [], hh =>
    replace hh := Eq.mp (E_code_New.nil F_code_New w.heap K) hh
    unfold F_code_New at hh
    exact calls_den noFns_right plan18 _ w K Try.func18 (by kernel_rfl) (by kernel_rfl) (Eq.mp (F_code_New.eq   w.heap K) hh)
theorem ok18 : okFn Try.prog 18 = true := by kernel_rfl
end Go.Proofs.Ytompmkmbppcadaa.V
namespace Go.Proofs.Ytompmkmbppcadaa.V
open Go Go.RowKit
set_option linter.unusedVariables false
set_option maxRecDepth 100000
/-! tally/tallyref1.Var -/
def F_ref1_Var_of (f45_ : Int → Heap → (Sl → Heap → Prop) → Prop) (n1 : Int) (h : Heap) (Q : Sl → Heap → Prop) : Prop :=
  brr (decide (n1 < 128))
  (al 5 [.int .u8 (IntKind.u8.wrap n1)] h fun (a2 : Addr) (h3 : Heap) =>
  Q ⟨(some a2), 1, 1⟩ h3)
  ((128 : Int) ≠ 0 ∧
  al 5 [.int .u8 (IntKind.u8.wrap (IntKind.u64.wrap (128 + (n1.tmod 128))))] h fun (a4 : Addr) (h5 : Heap) =>
  (128 : Int) ≠ 0 ∧
  f45_ (IntKind.u64.wrap (n1.tdiv 128)) h5 fun (r6 : Sl) (h7 : Heap) =>
  app 5 1 1 (.int .u8 0) ⟨(some a4), 1, 1⟩ r6.ptr r6.len h7 fun (s8 : Sl) (h9 : Heap) =>
  Q s8 h9)
def F_ref1_Var_fuel : Nat → Int → Heap → (Sl → Heap → Prop) → Prop
  | 0 => fun _ _ _ => False
  | m + 1 => fun n1 h Q => F_ref1_Var_of (F_ref1_Var_fuel m) n1 h Q
def F_ref1_Var (n1 : Int) (h : Heap) (Q : Sl → Heap → Prop) : Prop := ∃ m, F_ref1_Var_fuel m n1 h Q
def plan45 : Plan := .s (.r [0]) (.s (.s (.r [0, 5]) (.c (.s (.r [2]) .z) .z)) (.s (.r [0, 3]) (.s (.r [3]) (.s (.r [2]) .z))))
def E_ref1_Var_of (f : Int → Heap → (Sl → Heap → Prop) → Prop) : List Value → Heap → (Value → Heap → Prop) → Prop
  | [v0], h, K => dec1 (.int .u64) v0 fun (n1 : Int) =>
  f n1 h (fun (r0 : Sl) (h : Heap) => K (.slice r0.ptr r0.len r0.cap) h)
  | _, _, _ => False
theorem F_ref1_Var.eq (f45_ : Int → Heap → (Sl → Heap → Prop) → Prop) (n1 : Int) (h : Heap) (K : Value → Heap → Prop) : F_ref1_Var_of f45_ n1 h (fun (r0 : Sl) (h : Heap) => K (.slice r0.ptr r0.len r0.cap) h) =
    den Try.prog (fn1 45 (E_ref1_Var_of f45_) noFns) Try.f45.ntmps plan45 (bodyOf Try.f45) (args0 0 [(.int .u64 n1 : Value)]) h ⟨fun env h => dRes Try.prog Try.f45.results.toList env h K, fun _ _ _ => False, fun env h => dRes Try.prog Try.f45.results.toList env h K⟩ := by kernel_rfl
abbrev E_ref1_Var := E_ref1_Var_of F_ref1_Var
theorem ok45 : okFn Try.prog 45 = true := by kernel_rfl
theorem E_ref1_Var.rightN : ∀ m, IsRight Try.prog 45 (E_ref1_Var_of (F_ref1_Var_fuel m))
  | 0 => isRight fun vs K w hh => by
    match vs, hh with
    | [v0], hh =>
      unfold E_ref1_Var_of at hh
      replace hh := dec1_sound hh; obtain ⟨n1, rfl, hh⟩ := hh
      exact (show False from hh).elim
  | m + 1 => isRight fun vs K w hh => by
    match vs, hh with
    | [v0], hh =>
      unfold E_ref1_Var_of at hh
      replace hh := dec1_sound hh; obtain ⟨n1, rfl, hh⟩ := hh
      exact calls_den (fn1_right ok45 (E_ref1_Var.rightN m) noFns_right) plan45 _ w K Try.func45 (by kernel_rfl) (by kernel_rfl) (Eq.mp (F_ref1_Var.eq (F_ref1_Var_fuel m) n1 w.heap K) hh)
theorem E_ref1_Var.right : IsRight Try.prog 45 E_ref1_Var := by
  refine isRight fun vs K w hh => ?_
  match vs, hh with
  | [v0], hh =>
    unfold E_ref1_Var E_ref1_Var_of at hh
    replace hh := dec1_sound hh; obtain ⟨n1, rfl, hh⟩ := hh
    unfold F_ref1_Var at hh
    obtain ⟨m, hh⟩ := hh
    cases m with
    | zero => exact (show False from hh).elim
    | succ m => exact calls_den (fn1_right ok45 (E_ref1_Var.rightN m) noFns_right) plan45 _ w K Try.func45 (by kernel_rfl) (by kernel_rfl) (Eq.mp (F_ref1_Var.eq (F_ref1_Var_fuel m) n1 w.heap K) hh)
end Go.Proofs.Ytompmkmbppcadaa.V
namespace Go.Proofs.Ytompmkmbppcadaa.V
open Go Go.RowKit
set_option linter.unusedVariables false
set_option maxRecDepth 100000
/-! tally/tallyref1.Text -/
def F_ref1_Text_of (f45_ : Int → Heap → (Sl → Heap → Prop) → Prop) (b1 : Sl) (h : Heap) (Q : Sl → Heap → Prop) : Prop :=
  f45_ (IntKind.u64.wrap ((b1.len : Nat) : Int)) h fun (r2 : Sl) (h3 : Heap) =>
  app 5 1 1 (.int .u8 0) r2 b1.ptr b1.len h3 fun (s4 : Sl) (h5 : Heap) =>
  Q s4 h5
def F_ref1_Text (b1 : Sl) (h : Heap) (Q : Sl → Heap → Prop) : Prop := F_ref1_Text_of F_ref1_Var b1 h Q
def plan27 : Plan := .s (.r [0]) (.s (.r [0, 3]) (.s (.r [3]) (.s (.r [2]) .z)))
theorem F_ref1_Text.eq (f45_ : Int → Heap → (Sl → Heap → Prop) → Prop) (b1 : Sl) (h : Heap) (K : Value → Heap → Prop) : F_ref1_Text_of f45_ b1 h (fun (r0 : Sl) (h : Heap) => K (.slice r0.ptr r0.len r0.cap) h) =
    den Try.prog (fn1 45 (E_ref1_Var_of f45_) noFns) Try.f27.ntmps plan27 (bodyOf Try.f27) (args0 0 [(.slice b1.ptr b1.len b1.cap : Value)]) h ⟨fun env h => dRes Try.prog Try.f27.results.toList env h K, fun _ _ _ => False, fun env h => dRes Try.prog Try.f27.results.toList env h K⟩ := by kernel_rfl
def E_ref1_Text_of (f : Sl → Heap → (Sl → Heap → Prop) → Prop) : List Value → Heap → (Value → Heap → Prop) → Prop
  | [v0], h, K => dec1 .sl v0 fun (b1 : Sl) =>
  f b1 h (fun (r0 : Sl) (h : Heap) => K (.slice r0.ptr r0.len r0.cap) h)
  | _, _, _ => False
abbrev E_ref1_Text := E_ref1_Text_of F_ref1_Text
theorem E_ref1_Text.right : IsRight Try.prog 27 E_ref1_Text := by
  refine isRight fun vs K w hh => ?_
  match vs, hh with
  | [v0], hh =>
    unfold E_ref1_Text E_ref1_Text_of at hh
    replace hh := dec1_sound hh; obtain ⟨b1, rfl, hh⟩ := hh
    unfold F_ref1_Text at hh
    exact calls_den (fn1_right ok45 E_ref1_Var.right noFns_right) plan27 _ w K Try.func27 (by kernel_rfl) (by kernel_rfl) (Eq.mp (F_ref1_Text.eq F_ref1_Var b1 w.heap K) hh)
theorem ok27 : okFn Try.prog 27 = true := by kernel_rfl
end Go.Proofs.Ytompmkmbppcadaa.V
namespace Go.Proofs.Ytompmkmbppcadaa.V
open Go Go.RowKit
set_option linter.unusedVariables false
set_option maxRecDepth 100000
/-! tally/tallyref1.fixed -/
def F_ref1_fixed.l1 (s3 : Sl) (j5 : Heap → Prop) : Int → Int → Heap → Prop :=
  wl [(0, .one (.int .u64)), (6, .one (.int .i64))] (fun (next6 : Int → Int → Heap → Prop) (n7 : Int) (i8 : Int) (h9 : Heap) =>
  brr (decide (i8 ≥ 0))
  ((256 : Int) ≠ 0 ∧
  ixS 1 s3 i8 fun (a10 : Addr) =>
  st a10 [.int .u8 (IntKind.u8.wrap (n7.tmod 256))] h9 fun (h11 : Heap) =>
  (256 : Int) ≠ 0 ∧
  next6 (IntKind.u64.wrap (n7.tdiv 256)) (IntKind.i64.wrap (i8 - 1)) h11)
  (j5 h9))
def F_ref1_fixed_of  (n1 : Int) (size2 : Int) (h : Heap) (Q : Sl → Heap → Prop) : Prop :=
  mk 5 1 1 (.int .u8 0) size2 size2 h fun (s3 : Sl) (h4 : Heap) =>
  jn [] (fun  (h12 : Heap) =>
  Q s3 h12) (fun (j5 : Heap → Prop) =>
  F_ref1_fixed.l1 s3 j5 n1 (IntKind.i64.wrap (size2 - 1)) h4)
def F_ref1_fixed (n1 : Int) (size2 : Int) (h : Heap) (Q : Sl → Heap → Prop) : Prop := F_ref1_fixed_of  n1 size2 h Q
def plan50 : Plan := .s (.r [0, 1]) (.s (.r [0, 1, 5]) (.s (.s (.r [0, 5, 6]) (.bj [] [5] (.l [(0, .one (.int .u64)), (6, .one (.int .i64))] [5] (.s (.s (.r [0, 5, 6, 12]) (.c .z .z)) (.s (.b (.s (.r [0, 5, 6]) (.r [0, 5, 6]))) (.r [0, 5, 6])))))) (.s (.r [4]) .z)))
theorem F_ref1_fixed.eq  (n1 : Int) (size2 : Int) (h : Heap) (K : Value → Heap → Prop) : F_ref1_fixed_of  n1 size2 h (fun (r0 : Sl) (h : Heap) => K (.slice r0.ptr r0.len r0.cap) h) =
    den Try.prog noFns Try.f50.ntmps plan50 (bodyOf Try.f50) (args0 0 [(.int .u64 n1 : Value), (.int .i64 size2 : Value)]) h ⟨fun env h => dRes Try.prog Try.f50.results.toList env h K, fun _ _ _ => False, fun env h => dRes Try.prog Try.f50.results.toList env h K⟩ := by kernel_rfl
def E_ref1_fixed_of (f : Int → Int → Heap → (Sl → Heap → Prop) → Prop) : List Value → Heap → (Value → Heap → Prop) → Prop
  | [v0, v1], h, K => dec1 (.int .u64) v0 fun (n1 : Int) =>
  dec1 (.int .i64) v1 fun (size2 : Int) =>
  f n1 size2 h (fun (r0 : Sl) (h : Heap) => K (.slice r0.ptr r0.len r0.cap) h)
  | _, _, _ => False
abbrev E_ref1_fixed := E_ref1_fixed_of F_ref1_fixed
theorem E_ref1_fixed.right : IsRight Try.prog 50 E_ref1_fixed := by
  refine isRight fun vs K w hh => ?_
  match vs, hh with
  | [v0, v1], hh =>
    unfold E_ref1_fixed E_ref1_fixed_of at hh
    replace hh := dec1_sound hh; obtain ⟨n1, rfl, hh⟩ := hh
    replace hh := dec1_sound hh; obtain ⟨size2, rfl, hh⟩ := hh
    unfold F_ref1_fixed at hh
    exact calls_den noFns_right plan50 _ w K Try.func50 (by kernel_rfl) (by kernel_rfl) (Eq.mp (F_ref1_fixed.eq  n1 size2 w.heap K) hh)
theorem ok50 : okFn Try.prog 50 = true := by kernel_rfl
end Go.Proofs.Ytompmkmbppcadaa.V
namespace Go.Proofs.Ytompmkmbppcadaa.V
open Go Go.RowKit
set_option linter.unusedVariables false
set_option maxRecDepth 100000
/-! tally/tallyref1.U8 -/
def F_ref1_U8_of (f50_ : Int → Int → Heap → (Sl → Heap → Prop) → Prop) (n1 : Int) (h : Heap) (Q : Sl → Heap → Prop) : Prop :=
  f50_ (IntKind.u64.wrap n1) 1 h fun (r2 : Sl) (h3 : Heap) =>
  Q r2 h3
def F_ref1_U8 (n1 : Int) (h : Heap) (Q : Sl → Heap → Prop) : Prop := F_ref1_U8_of F_ref1_fixed n1 h Q
def plan41 : Plan := .s (.r [0]) (.s (.r [2]) .z)
theorem F_ref1_U8.eq (f50_ : Int → Int → Heap → (Sl → Heap → Prop) → Prop) (n1 : Int) (h : Heap) (K : Value → Heap → Prop) : F_ref1_U8_of f50_ n1 h (fun (r0 : Sl) (h : Heap) => K (.slice r0.ptr r0.len r0.cap) h) =
    den Try.prog (fn1 50 (E_ref1_fixed_of f50_) noFns) Try.f41.ntmps plan41 (bodyOf Try.f41) (args0 0 [(.int .u8 n1 : Value)]) h ⟨fun env h => dRes Try.prog Try.f41.results.toList env h K, fun _ _ _ => False, fun env h => dRes Try.prog Try.f41.results.toList env h K⟩ := by kernel_rfl
def E_ref1_U8_of (f : Int → Heap → (Sl → Heap → Prop) → Prop) : List Value → Heap → (Value → Heap → Prop) → Prop
  | [v0], h, K => dec1 (.int .u8) v0 fun (n1 : Int) =>
  f n1 h (fun (r0 : Sl) (h : Heap) => K (.slice r0.ptr r0.len r0.cap) h)
  | _, _, _ => False
abbrev E_ref1_U8 := E_ref1_U8_of F_ref1_U8
theorem E_ref1_U8.right : IsRight Try.prog 41 E_ref1_U8 := by
  refine isRight fun vs K w hh => ?_
  match vs, hh with
  | [v0], hh =>
    unfold E_ref1_U8 E_ref1_U8_of at hh
    replace hh := dec1_sound hh; obtain ⟨n1, rfl, hh⟩ := hh
    unfold F_ref1_U8 at hh
    exact calls_den (fn1_right ok50 E_ref1_fixed.right noFns_right) plan41 _ w K Try.func41 (by kernel_rfl) (by kernel_rfl) (Eq.mp (F_ref1_U8.eq F_ref1_fixed n1 w.heap K) hh)
theorem ok41 : okFn Try.prog 41 = true := by kernel_rfl
end Go.Proofs.Ytompmkmbppcadaa.V
namespace Go.Proofs.Ytompmkmbppcadaa.V
open Go Go.RowKit
set_option linter.unusedVariables false
set_option maxRecDepth 100000
/-! tally/tallyref1.U32 -/
def F_ref1_U32_of (f50_ : Int → Int → Heap → (Sl → Heap → Prop) → Prop) (n1 : Int) (h : Heap) (Q : Sl → Heap → Prop) : Prop :=
  f50_ (IntKind.u64.wrap n1) 4 h fun (r2 : Sl) (h3 : Heap) =>
  Q r2 h3
def F_ref1_U32 (n1 : Int) (h : Heap) (Q : Sl → Heap → Prop) : Prop := F_ref1_U32_of F_ref1_fixed n1 h Q
def plan25 : Plan := .s (.r [0]) (.s (.r [2]) .z)
theorem F_ref1_U32.eq (f50_ : Int → Int → Heap → (Sl → Heap → Prop) → Prop) (n1 : Int) (h : Heap) (K : Value → Heap → Prop) : F_ref1_U32_of f50_ n1 h (fun (r0 : Sl) (h : Heap) => K (.slice r0.ptr r0.len r0.cap) h) =
    den Try.prog (fn1 50 (E_ref1_fixed_of f50_) noFns) Try.f25.ntmps plan25 (bodyOf Try.f25) (args0 0 [(.int .u32 n1 : Value)]) h ⟨fun env h => dRes Try.prog Try.f25.results.toList env h K, fun _ _ _ => False, fun env h => dRes Try.prog Try.f25.results.toList env h K⟩ := by kernel_rfl
def E_ref1_U32_of (f : Int → Heap → (Sl → Heap → Prop) → Prop) : List Value → Heap → (Value → Heap → Prop) → Prop
  | [v0], h, K => dec1 (.int .u32) v0 fun (n1 : Int) =>
  f n1 h (fun (r0 : Sl) (h : Heap) => K (.slice r0.ptr r0.len r0.cap) h)
  | _, _, _ => False
abbrev E_ref1_U32 := E_ref1_U32_of F_ref1_U32
theorem E_ref1_U32.right : IsRight Try.prog 25 E_ref1_U32 := by
  refine isRight fun vs K w hh => ?_
  match vs, hh with
  | [v0], hh =>
    unfold E_ref1_U32 E_ref1_U32_of at hh
    replace hh := dec1_sound hh; obtain ⟨n1, rfl, hh⟩ := hh
    unfold F_ref1_U32 at hh
    exact calls_den (fn1_right ok50 E_ref1_fixed.right noFns_right) plan25 _ w K Try.func25 (by kernel_rfl) (by kernel_rfl) (Eq.mp (F_ref1_U32.eq F_ref1_fixed n1 w.heap K) hh)
theorem ok25 : okFn Try.prog 25 = true := by kernel_rfl
end Go.Proofs.Ytompmkmbppcadaa.V
namespace Go.Proofs.Ytompmkmbppcadaa.V
open Go Go.RowKit
set_option linter.unusedVariables false
set_option maxRecDepth 100000
/-! tally/tallyref1.U64 -/
def F_ref1_U64_of (f50_ : Int → Int → Heap → (Sl → Heap → Prop) → Prop) (n1 : Int) (h : Heap) (Q : Sl → Heap → Prop) : Prop :=
  f50_ n1 8 h fun (r2 : Sl) (h3 : Heap) =>
  Q r2 h3
def F_ref1_U64 (n1 : Int) (h : Heap) (Q : Sl → Heap → Prop) : Prop := F_ref1_U64_of F_ref1_fixed n1 h Q
def plan43 : Plan := .s (.r [0]) (.s (.r [2]) .z)
theorem F_ref1_U64.eq (f50_ : Int → Int → Heap → (Sl → Heap → Prop) → Prop) (n1 : Int) (h : Heap) (K : Value → Heap → Prop) : F_ref1_U64_of f50_ n1 h (fun (r0 : Sl) (h : Heap) => K (.slice r0.ptr r0.len r0.cap) h) =
    den Try.prog (fn1 50 (E_ref1_fixed_of f50_) noFns) Try.f43.ntmps plan43 (bodyOf Try.f43) (args0 0 [(.int .u64 n1 : Value)]) h ⟨fun env h => dRes Try.prog Try.f43.results.toList env h K, fun _ _ _ => False, fun env h => dRes Try.prog Try.f43.results.toList env h K⟩ := by kernel_rfl
def E_ref1_U64_of (f : Int → Heap → (Sl → Heap → Prop) → Prop) : List Value → Heap → (Value → Heap → Prop) → Prop
  | [v0], h, K => dec1 (.int .u64) v0 fun (n1 : Int) =>
  f n1 h (fun (r0 : Sl) (h : Heap) => K (.slice r0.ptr r0.len r0.cap) h)
  | _, _, _ => False
abbrev E_ref1_U64 := E_ref1_U64_of F_ref1_U64
theorem E_ref1_U64.right : IsRight Try.prog 43 E_ref1_U64 := by
  refine isRight fun vs K w hh => ?_
  match vs, hh with
  | [v0], hh =>
    unfold E_ref1_U64 E_ref1_U64_of at hh
    replace hh := dec1_sound hh; obtain ⟨n1, rfl, hh⟩ := hh
    unfold F_ref1_U64 at hh
    exact calls_den (fn1_right ok50 E_ref1_fixed.right noFns_right) plan43 _ w K Try.func43 (by kernel_rfl) (by kernel_rfl) (Eq.mp (F_ref1_U64.eq F_ref1_fixed n1 w.heap K) hh)
theorem ok43 : okFn Try.prog 43 = true := by kernel_rfl
end Go.Proofs.Ytompmkmbppcadaa.V
/- The program's Writer and what the document writes. -/
namespace Go.Proofs.Ytompmkmbppcadaa.V
open Go Go.RowKit
set_option linter.unusedVariables false
set_option linter.unusedSimpArgs false
/-- A number in its shortest form. -/
def varB (n : Nat) : List UInt8 := if n < 128 then [UInt8.ofNat n] else UInt8.ofNat (128 + n % 128) :: varB (n / 128)
decreasing_by omega
/-- A number in so many bytes, the highest first. -/
def fixB (n size : Nat) : List UInt8 := (List.range size).map fun i => UInt8.ofNat (n / 256 ^ (size - 1 - i))
theorem fixB_len (n size : Nat) : (fixB n size).length = size := by simp [fixB]
theorem varB_len : ∀ (k n : Nat), n < 128 ^ (k + 1) → (varB n).length ≤ k + 1 ∧ 1 ≤ (varB n).length
  | 0, n, h => by
    rw [varB, if_pos (by simpa using h)]
    simp
  | k + 1, n, h => by
    rw [varB]
    split
    · simp
    · have := varB_len k (n / 128) (by rw [Nat.div_lt_iff_lt_mul (by decide)]; rw [Nat.pow_succ] at h; exact h)
      simp only [List.length_cons]
      omega
theorem varB_le {n : Nat} (h : n < 18446744073709551616) : (varB n).length ≤ 10 ∧ 1 ≤ (varB n).length := varB_len 9 n (by omega)
/-- A Writer in memory that holds these bytes. -/
def wrR (b : Nat) (l : List UInt8) : Res := ex fun s : Sl => sep (own b [.slice s.ptr s.len s.cap]) (buf 1 u8 s l)
theorem Sat.wr {h0 h : Heap} {L : List Res} {b : Nat} {l : List UInt8} (O : Sat h0 h (wrR b l :: L)) : ∃ s : Sl, Sat h0 h (own b [.slice s.ptr s.len s.cap] :: buf 1 u8 s l :: L) := by
  obtain ⟨s, O⟩ := O.ex
  exact ⟨s, O.sep⟩
theorem Sat.wrI {h0 h : Heap} {L : List Res} {b : Nat} {l : List UInt8} {s : Sl} (O : Sat h0 h (own b [.slice s.ptr s.len s.cap] :: buf 1 u8 s l :: L)) : Sat h0 h (wrR b l :: L) := O.sepI.exI s
/-- How many bits. -/
def BL (n b : Nat) : Prop := n < 2 ^ b ∧ (b = 0 ∨ 2 ^ (b - 1) ≤ n)
theorem BL.shift {n b k : Nat} (h : BL (n / 2 ^ k) b) (hn : 2 ^ k ≤ n) : BL n (b + k) := by
  have hp : 0 < 2 ^ k := Nat.pow_pos (by decide)
  have h1 : 1 ≤ n / 2 ^ k := (Nat.le_div_iff_mul_le hp).2 (by omega)
  obtain ⟨h2, h3⟩ := h
  refine ⟨?_, .inr ?_⟩
  · rw [Nat.pow_add]
    exact (Nat.div_lt_iff_lt_mul hp).1 h2
  · rcases h3 with h3 | h3
    · subst h3; simp at h2; omega
    · have hb : b ≠ 0 := by intro e; subst e; simp at h2; omega
      rw [show b + k - 1 = (b - 1) + k by omega, Nat.pow_add]
      exact (Nat.le_div_iff_mul_le hp).1 h3
theorem BL.count {n b : Nat} (h : BL n b) : n < 128 ^ (((if b > 1 then b else 1) - 1) / 7 + 1) ∧ (((if b > 1 then b else 1) - 1) / 7 = 0 ∨ 128 ^ (((if b > 1 then b else 1) - 1) / 7) ≤ n) := by
  obtain ⟨h1, h2⟩ := h
  have e : ∀ c, 128 ^ c = 2 ^ (7 * c) := fun c => by rw [Nat.pow_mul]
  rw [e, e]
  refine ⟨Nat.lt_of_lt_of_le h1 (Nat.pow_le_pow_right (by decide) ?_), ?_⟩
  · split <;> omega
  · by_cases hb : b > 1
    · rw [if_pos hb]
      right
      rcases h2 with h2 | h2
      · omega
      · exact Nat.le_trans (Nat.pow_le_pow_right (by decide) (by omega)) h2
    · rw [if_neg hb]; left; rfl
section
variable {h0 h : Heap} {L : List Res}
theorem shr64 (a k : Nat) (hk : k ≤ 64) : (a : Int).fdiv (2 ^ min (k : Int).toNat IntKind.u64.bits) = ((a / 2 ^ k : Nat) : Int) := by
  have h : min (k : Int).toNat IntKind.u64.bits = k := by
    show min (k : Int).toNat 64 = k
    omega
  rw [h, Int.fdiv_eq_ediv_of_nonneg _ (Int.pow_nonneg (by omega))]
  simp
set_option maxRecDepth 20000 in
theorem F_math_bits_Len64.is {n : Nat} {Q : Int → Heap → Prop} (hn : n < 18446744073709551616) (k : ∀ b : Nat, b ≤ 64 → BL n b → Q b h) : F_math_bits_Len64 n h Q := by
  rw [F_math_bits_Len64.eq_1, F_math_bits_Len64_of.eq_1]
  refine jn2 (fun (x y : Int) h' => h' = h ∧ ∃ a c : Nat, x = a ∧ y = c ∧ a < 4294967296 ∧ c ≤ 32 ∧ ∀ b : Nat, BL a b → b ≤ 32 → BL n (b + c)) ?_ ?_
  · rintro x y h ⟨rfl, a, c, rfl, rfl, ha, hc, hb⟩
    refine jn2 (fun (x y : Int) h' => h' = h ∧ ∃ a c : Nat, x = a ∧ y = c ∧ a < 65536 ∧ c ≤ 48 ∧ ∀ b : Nat, BL a b → b ≤ 16 → BL n (b + c)) ?_ ?_
    · clear ha hc hb a c
      rintro x y h ⟨rfl, a, c, rfl, rfl, ha, hc, hb⟩
      refine jn2 (fun (x y : Int) h' => h' = h ∧ ∃ a c : Nat, x = a ∧ y = c ∧ a < 256 ∧ c ≤ 56 ∧ ∀ b : Nat, BL a b → b ≤ 8 → BL n (b + c)) ?_ ?_
      · clear ha hc hb a c
        rintro x y h ⟨rfl, a, c, rfl, rfl, ha, hc, hb⟩
        have key : ∀ a : Fin 256, ∃ b : Nat, b ≤ 8 ∧ BL a b ∧ (⟨#[0, 1, 2, 2, 3, 3, 3, 3, 4, 4, 4, 4, 4, 4, 4, 4, 5, 5, 5, 5, 5, 5, 5, 5, 5, 5, 5, 5, 5, 5, 5, 5, 6, 6, 6, 6, 6, 6, 6, 6, 6, 6, 6, 6, 6, 6, 6, 6, 6, 6, 6, 6, 6, 6, 6, 6, 6, 6, 6, 6, 6, 6, 6, 6, 7, 7, 7, 7, 7, 7, 7, 7, 7, 7, 7, 7, 7, 7, 7, 7, 7, 7, 7, 7, 7, 7, 7, 7, 7, 7, 7, 7, 7, 7, 7, 7, 7, 7, 7, 7, 7, 7, 7, 7, 7, 7, 7, 7, 7, 7, 7, 7, 7, 7, 7, 7, 7, 7, 7, 7, 7, 7, 7, 7, 7, 7, 7, 7, 8, 8, 8, 8, 8, 8, 8, 8, 8, 8, 8, 8, 8, 8, 8, 8, 8, 8, 8, 8, 8, 8, 8, 8, 8, 8, 8, 8, 8, 8, 8, 8, 8, 8, 8, 8, 8, 8, 8, 8, 8, 8, 8, 8, 8, 8, 8, 8, 8, 8, 8, 8, 8, 8, 8, 8, 8, 8, 8, 8, 8, 8, 8, 8, 8, 8, 8, 8, 8, 8, 8, 8, 8, 8, 8, 8, 8, 8, 8, 8, 8, 8, 8, 8, 8, 8, 8, 8, 8, 8, 8, 8, 8, 8, 8, 8, 8, 8, 8, 8, 8, 8, 8, 8, 8, 8, 8, 8, 8, 8, 8, 8, 8, 8, 8, 8, 8, 8, 8, 8, 8, 8, 8, 8, 8, 8, 8, 8]⟩ : ByteArray)[a.val]? = some (UInt8.ofNat b) := by
          have : ∀ a : Fin 256, (List.range 9).any (fun b => decide (a.val < 2 ^ b) && (decide (b = 0) || decide (2 ^ (b - 1) ≤ a.val)) && decide ((⟨#[0, 1, 2, 2, 3, 3, 3, 3, 4, 4, 4, 4, 4, 4, 4, 4, 5, 5, 5, 5, 5, 5, 5, 5, 5, 5, 5, 5, 5, 5, 5, 5, 6, 6, 6, 6, 6, 6, 6, 6, 6, 6, 6, 6, 6, 6, 6, 6, 6, 6, 6, 6, 6, 6, 6, 6, 6, 6, 6, 6, 6, 6, 6, 6, 7, 7, 7, 7, 7, 7, 7, 7, 7, 7, 7, 7, 7, 7, 7, 7, 7, 7, 7, 7, 7, 7, 7, 7, 7, 7, 7, 7, 7, 7, 7, 7, 7, 7, 7, 7, 7, 7, 7, 7, 7, 7, 7, 7, 7, 7, 7, 7, 7, 7, 7, 7, 7, 7, 7, 7, 7, 7, 7, 7, 7, 7, 7, 7, 8, 8, 8, 8, 8, 8, 8, 8, 8, 8, 8, 8, 8, 8, 8, 8, 8, 8, 8, 8, 8, 8, 8, 8, 8, 8, 8, 8, 8, 8, 8, 8, 8, 8, 8, 8, 8, 8, 8, 8, 8, 8, 8, 8, 8, 8, 8, 8, 8, 8, 8, 8, 8, 8, 8, 8, 8, 8, 8, 8, 8, 8, 8, 8, 8, 8, 8, 8, 8, 8, 8, 8, 8, 8, 8, 8, 8, 8, 8, 8, 8, 8, 8, 8, 8, 8, 8, 8, 8, 8, 8, 8, 8, 8, 8, 8, 8, 8, 8, 8, 8, 8, 8, 8, 8, 8, 8, 8, 8, 8, 8, 8, 8, 8, 8, 8, 8, 8, 8, 8, 8, 8, 8, 8, 8, 8, 8, 8]⟩ : ByteArray)[a.val]? = some (UInt8.ofNat b))) = true := by decide +kernel
          intro a
          have := this a
          obtain ⟨b, h1, h2⟩ := List.any_eq_true.1 this
          rw [Bool.and_eq_true, Bool.and_eq_true, Bool.or_eq_true] at h2
          obtain ⟨⟨h2, h3⟩, h4⟩ := h2
          exact ⟨b, by have := List.mem_range.1 h1; omega, ⟨of_decide_eq_true h2, h3.imp of_decide_eq_true of_decide_eq_true⟩, of_decide_eq_true h4⟩
        obtain ⟨b, hb8, hbl, hat⟩ := key ⟨a, ha⟩
        rw [wrapu8 (x := (a : Int)) (by omega) (by omega)]
        refine ⟨UInt8.ofNat b, by omega, hat, ?_⟩
        have hbn : (UInt8.ofNat b).toNat = b := by rw [UInt8.toNat_ofNat']; omega
        show Q (IntKind.i64.wrap ((c : Int) + IntKind.i64.wrap ((UInt8.ofNat b).toNat : Int))) h
        rw [hbn, wrap64 (x := (b : Int)) (by omega) (by omega), wrap64 (by omega) (by omega)]
        have := k (b + c) (by omega) (hb b hbl hb8)
        rw [show (c : Int) + (b : Int) = ((b + c : Nat) : Int) by omega]
        exact this
      · intro j hj
        refine brr_p (fun hlt => ?_) (fun hlt => ?_)
        · refine ⟨by decide, ?_⟩
          rw [show ((8 : Int)) = ((8 : Nat) : Int) from rfl, shr64 a 8 (by decide), wrap64 (by omega) (by omega)]
          refine hj _ _ _ ⟨rfl, a / 2 ^ 8, c + 8, rfl, by omega, by omega, by omega, fun b h1 h2 => ?_⟩
          have := hb _ (h1.shift (by omega)) (by omega)
          rwa [show b + (c + 8) = b + 8 + c by omega]
        · exact hj _ _ _ ⟨rfl, a, c, rfl, rfl, by omega, by omega, fun b h1 h2 => hb b h1 (by omega)⟩
    · intro j hj
      refine brr_p (fun hlt => ?_) (fun hlt => ?_)
      · refine ⟨by decide, ?_⟩
        rw [show ((16 : Int)) = ((16 : Nat) : Int) from rfl, shr64 a 16 (by decide), wrap64 (by omega) (by omega)]
        refine hj _ _ _ ⟨rfl, a / 2 ^ 16, c + 16, rfl, by omega, by omega, by omega, fun b h1 h2 => ?_⟩
        have := hb _ (h1.shift (by omega)) (by omega)
        rwa [show b + (c + 16) = b + 16 + c by omega]
      · exact hj _ _ _ ⟨rfl, a, c, rfl, rfl, by omega, by omega, fun b h1 h2 => hb b h1 (by omega)⟩
  · intro j hj
    refine brr_p (fun hlt => ?_) (fun hlt => ?_)
    · refine ⟨by decide, ?_⟩
      rw [show ((32 : Int)) = ((32 : Nat) : Int) from rfl, shr64 n 32 (by decide)]
      exact hj _ _ _ ⟨rfl, n / 2 ^ 32, 32, rfl, rfl, by omega, by omega, fun b h1 h2 => h1.shift (by omega)⟩
    · exact hj _ _ _ ⟨rfl, n, 0, rfl, rfl, by omega, by omega, fun b h1 h2 => h1⟩
theorem F_code_New.is {Q : Option Addr → Heap → Prop} (O : Sat h0 h L) (k : ∀ b h', Sat h0 h' (wrR b [] :: L) → Q (some (pt b 0)) h') : F_code_New h Q := by
  rw [F_code_New.eq_1, F_code_New_of.eq_1]
  refine O.al fun b h O => ?_
  refine k b h ?_
  have O := (O.nil_buf (sz := 1) (enc := u8)).swap
  exact O.wrI (s := ⟨none, 0, 0⟩)
theorem F_code_Writer_Len.is {b : Nat} {l : List UInt8} {Q : Int → Heap → Prop} (O : Sat h0 h (wrR b l :: L)) (k : Q l.length h) : F_code_Writer_Len (some (pt b 0)) h Q := by
  rw [F_code_Writer_Len.eq_1, F_code_Writer_Len_of.eq_1]
  simp only [nn_some, pt_add, Nat.zero_add, Nat.add_zero, Nat.reduceAdd, Nat.reduceMul, Int.toNat_zero, Int.toNat_one, Nat.zero_mul, Nat.one_mul]
  obtain ⟨s, O⟩ := O.wr
  refine O.ld 0 rfl (ldL_c (ldL_n ?_))
  rw [(O.view 1 u8_len (by simp) rfl).1.len]
  exact k
theorem F_code_taken.is {a : Sl} {xs : List UInt8} {Q : Sl → Heap → Prop} (O : Sat h0 h L) (V1 : Bytes h a xs) (h1 : xs.length ≤ 281474976710656) (k : ∀ s h', Sat h0 h' (buf 1 u8 s xs :: L) → s.len = xs.length → s.ptr ≠ none → Q s h') : F_code_taken a h Q := by
  rw [F_code_taken.eq_1, F_code_taken_of.eq_1]
  have := F_ref0_Copy.is O V1 h1 k
  rw [F_ref0_Copy.eq_1, F_ref0_Copy_of.eq_1] at this
  exact this
theorem F_code_Writer_Out.is {b : Nat} {l : List UInt8} {Q : Sl → Heap → Prop} (O : Sat h0 h (wrR b l :: L)) (hl : l.length ≤ (70368744177664 : Nat)) (k : ∀ s h', Sat h0 h' (buf 1 u8 s l :: wrR b l :: L) → Q s h') : F_code_Writer_Out (some (pt b 0)) h Q := by
  rw [F_code_Writer_Out.eq_1, F_code_Writer_Out_of.eq_1]
  simp only [nn_some, pt_add, Nat.zero_add, Nat.add_zero, Nat.reduceAdd, Nat.reduceMul, Int.toNat_zero, Int.toNat_one, Nat.zero_mul, Nat.one_mul]
  obtain ⟨s, O⟩ := O.wr
  refine O.ld 0 rfl (ldL_c (ldL_n ?_))
  refine F_code_taken.is O (O.view 1 u8_len (by simp) rfl).1 (by omega) fun s2 h O _ _ => ?_
  refine k s2 h ?_
  have O := O.sel [1, 2, 0] 3 rfl (Nat.le_add_left _ _)
  simp only [selT, List.map, nth, List.drop, List.cons_append, List.nil_append] at O
  exact O.wrI.swap
theorem F_code_Writer_Raw.is {b : Nat} {l ys : List UInt8} {a : Sl} {Q : Heap → Prop} (O : Sat h0 h (wrR b l :: L)) (V1 : Bytes h a ys) (hl : l.length + ys.length ≤ (70368744177664 : Nat)) (k : ∀ h', Sat h0 h' (wrR b (l ++ ys) :: L) → Q h') : F_code_Writer_Raw (some (pt b 0)) a h Q := by
  rw [F_code_Writer_Raw.eq_1, F_code_Writer_Raw_of.eq_1]
  simp only [nn_some, pt_add, Nat.zero_add, Nat.add_zero, Nat.reduceAdd, Nat.reduceMul, Int.toNat_zero, Int.toNat_one, Nat.zero_mul, Nat.one_mul]
  obtain ⟨s, O⟩ := O.wr
  refine O.ld 0 rfl (ldL_c (ldL_n ?_))
  have O := O.swap
  refine O.app_buf u8_len u8_one rfl (ys := ys) V1.len (V1.len ▸ V1.rd u8_len) (by omega) fun s2 h O hs => ?_
  have O := O.swap
  refine O.st 0 rfl (by simp) rfl fun h O => ?_
  dsimp only [V.put, List.set] at O
  exact k _ (Sat.wrI (s := s2) O)
/-- One byte more. -/
theorem wr_push {b : Nat} {l : List UInt8} {s : Sl} {T T' : Nat} {x : UInt8} {cs : List Value} {K : Heap → Prop} (O : Sat h0 h (own b [.slice s.ptr s.len s.cap] :: buf 1 u8 s l :: L)) (hc : cs = u8 x) (hl : l.length + 1 ≤ (70368744177664 : Nat)) (k : ∀ h', Sat h0 h' (wrR b (l ++ [x]) :: L) → K h') :
    al T' cs h fun a h1 => app T 1 1 (.int .u8 0) s (some a) 1 h1 fun s2 h2 => st (pt b 0) [.slice s2.ptr s2.len s2.cap] h2 K := by
  refine O.swap.push_buf x hc u8_len u8_one rfl (by omega) fun s2 h2 O hs => ?_
  have O := O.swap
  refine O.st 0 rfl (by simp) rfl fun h O => ?_
  dsimp only [V.put, List.set] at O
  exact k _ (Sat.wrI (s := s2) O)
theorem fixB_at {n size i : Nat} (hi : i < size) : (fixB n size)[i]? = some (UInt8.ofNat (n / 256 ^ (size - 1 - i))) := by simp [fixB, hi]
theorem pow256 (k : Nat) : 256 ^ k = 2 ^ (8 * k) := by rw [Nat.pow_mul]
theorem wrap8_ofNat (n : Nat) : IntKind.u8.wrap (n : Int) = ((UInt8.ofNat n).toNat : Int) := by
  unfold IntKind.wrap
  simp [IntKind.bits, IntKind.signed]
theorem F_code_Writer_fixed.is {b n size : Nat} {l : List UInt8} {Q : Heap → Prop} (O : Sat h0 h (wrR b l :: L)) (hs : 0 < size) (hs8 : size ≤ 8) (hl : l.length + 8 ≤ (70368744177664 : Nat)) (k : ∀ h', Sat h0 h' (wrR b (l ++ fixB n size) :: L) → Q h') : F_code_Writer_fixed (some (pt b 0)) n size h Q := by
  rw [F_code_Writer_fixed.eq_1, F_code_Writer_fixed_of.eq_1]
  refine jn0 (fun h' => Sat h0 h' (wrR b (l ++ fixB n size) :: L)) (fun h O => k h O) fun j hj => ?_
  rw [F_code_Writer_fixed.l1.eq_1]
  simp only [nn_some, pt_add, Nat.zero_add, Nat.add_zero, Nat.reduceAdd, Nat.reduceMul, Int.toNat_zero, Int.toNat_one, Nat.zero_mul, Nat.one_mul]
  refine wl1 (k := .int .i64) (fun (m : Nat) (i : Int) (h' : Heap) => 0 ≤ i ∧ i + m = size ∧ Sat h0 h' (wrR b (l ++ (fixB n size).take i.toNat) :: L)) ?_ (m := size) ⟨by omega, by omega, by simpa using O⟩
  clear O
  intro m (i : Int) h next hn ⟨hi0, him, O⟩
  refine brr_p (fun hlt => ?_) (fun hlt => ?_)
  · obtain ⟨s, O⟩ := O.wr
    refine O.ld 0 rfl (ldL_c (ldL_n ?_))
    rw [wrap64 (x := (size : Int) - 1) (by omega) (by omega), wrap64 (x := (size : Int) - 1 - i) (by omega) (by omega), wrap64 (x := 8 * ((size : Int) - 1 - i)) (by omega) (by omega)]
    refine ⟨by omega, ?_⟩
    have e8 : 8 * ((size : Int) - 1 - i) = ((8 * (size - 1 - i.toNat) : Nat) : Int) := by omega
    rw [e8, shr64 n _ (by omega), ← pow256, wrap8_ofNat]
    refine O.al fun b2 h2 O => ?_
    refine ⟨O.cells 1 rfl 0 1, ?_⟩
    have hlen : (l ++ (fixB n size).take i.toNat).length ≤ l.length + 8 := by
      rw [List.length_append, List.length_take, fixB_len]; omega
    have O := O.sel [2, 0, 1] 3 rfl (Nat.le_add_left _ _)
    simp only [selT, List.map, nth, List.drop, List.cons_append, List.nil_append] at O
    have hr := rdP_own O 1 rfl 1 (by simp)
    refine O.app_buf u8_len u8_one rfl (ys := [UInt8.ofNat (n / 256 ^ (size - 1 - i.toNat))]) rfl hr (by simp only [List.length_cons, List.length_nil]; omega) fun s2 h2 O hs2 => ?_
    have O := O.sel [2, 0] 3 rfl (Nat.le_add_left _ _)
    simp only [selT, List.map, nth, List.drop, List.cons_append, List.nil_append] at O
    refine O.st 0 rfl (by simp) rfl fun h O => ?_
    dsimp only [V.put, List.set] at O
    have O := Sat.wrI (s := s2) O
    rw [wrap64 (by omega) (by omega)]
    refine hn (m - 1) _ _ (by omega) ⟨by omega, by omega, ?_⟩
    rw [show (i + 1).toNat = i.toNat + 1 by omega, take_succ_eq (fixB_at (by omega)), ← List.append_assoc]
    exact O
  · refine hj _ ?_
    rw [List.take_of_length_le (by rw [fixB_len]; omega)] at O
    exact O
theorem F_code_Writer_U8.is {b n : Nat} {l : List UInt8} {Q : Heap → Prop} (O : Sat h0 h (wrR b l :: L)) (hn : n < 256) (hl : l.length + 8 ≤ (70368744177664 : Nat)) (k : ∀ h', Sat h0 h' (wrR b (l ++ fixB n 1) :: L) → Q h') : F_code_Writer_U8 (some (pt b 0)) n h Q := by
  rw [F_code_Writer_U8.eq_1, F_code_Writer_U8_of.eq_1]
  rw [wrapu64 (by omega) (by omega)]
  exact F_code_Writer_fixed.is (size := 1) O (by decide) (by decide) hl k
theorem F_code_Writer_U32.is {b n : Nat} {l : List UInt8} {Q : Heap → Prop} (O : Sat h0 h (wrR b l :: L)) (hn : n < 4294967296) (hl : l.length + 8 ≤ (70368744177664 : Nat)) (k : ∀ h', Sat h0 h' (wrR b (l ++ fixB n 4) :: L) → Q h') : F_code_Writer_U32 (some (pt b 0)) n h Q := by
  rw [F_code_Writer_U32.eq_1, F_code_Writer_U32_of.eq_1]
  rw [wrapu64 (by omega) (by omega)]
  exact F_code_Writer_fixed.is (size := 4) O (by decide) (by decide) hl k
theorem F_code_Writer_U64.is {b n : Nat} {l : List UInt8} {Q : Heap → Prop} (O : Sat h0 h (wrR b l :: L)) (hl : l.length + 8 ≤ (70368744177664 : Nat)) (k : ∀ h', Sat h0 h' (wrR b (l ++ fixB n 8) :: L) → Q h') : F_code_Writer_U64 (some (pt b 0)) n h Q := by
  rw [F_code_Writer_U64.eq_1, F_code_Writer_U64_of.eq_1]
  exact F_code_Writer_fixed.is (size := 8) O (by decide) (by decide) hl k
theorem or128 (n : Nat) : IntKind.u8.wrap (BitVec.ofInt IntKind.u8.bits (IntKind.u8.wrap (n : Int)) ||| BitVec.ofInt IntKind.u8.bits 128).toNat = ((UInt8.ofNat (128 + n % 128)).toNat : Int) := by
  rw [wrap8_ofNat n]
  have key : ∀ c : Fin 256, IntKind.u8.wrap (BitVec.ofInt IntKind.u8.bits (c.val : Int) ||| BitVec.ofInt IntKind.u8.bits 128).toNat = ((UInt8.ofNat (128 + c.val % 128)).toNat : Int) := by decide +kernel
  have h := key ⟨(UInt8.ofNat n).toNat, (UInt8.ofNat n).toNat_lt⟩
  simp only at h
  rw [h]
  congr 3
  have : (UInt8.ofNat n).toNat = n % 256 := by simp
  rw [this]
  omega
theorem F_code_Writer_Var.is {b n : Nat} {l : List UInt8} {Q : Heap → Prop} (O : Sat h0 h (wrR b l :: L)) (hn : n < 18446744073709551616) (hl : l.length + 10 ≤ (70368744177664 : Nat)) (k : ∀ h', Sat h0 h' (wrR b (l ++ varB n) :: L) → Q h') : F_code_Writer_Var (some (pt b 0)) n h Q := by
  rw [F_code_Writer_Var.eq_1, F_code_Writer_Var_of.eq_1]
  simp only [nn_some, pt_add, Nat.zero_add, Nat.add_zero, Nat.reduceAdd, Nat.reduceMul, Int.toNat_zero, Int.toNat_one, Nat.zero_mul, Nat.one_mul]
  refine F_math_bits_Len64.is hn fun bl hb64 hbl => ?_
  refine ⟨by decide, ?_⟩
  obtain ⟨c1, c2⟩ := hbl.count
  have hc : ((if bl > 1 then bl else 1) - 1) / 7 ≤ 9 := by split <;> omega
  have ec : IntKind.i64.wrap ((IntKind.i64.wrap ((if (bl : Int) > 1 then (bl : Int) else 1) - 1)).tdiv 7) = ((((if bl > 1 then bl else 1) - 1) / 7 : Nat) : Int) := by
    rw [wrap64 (x := (if (bl : Int) > 1 then (bl : Int) else 1) - 1) (by split <;> omega) (by split <;> omega), Int.tdiv_eq_ediv_of_nonneg (by split <;> omega), wrap64 (by split <;> omega) (by split <;> omega)]
    split <;> split <;> omega
  generalize hcc : ((if bl > 1 then bl else 1) - 1) / 7 = c at *
  refine jn1 (fun (x : Int) h' => ∃ (pre : List UInt8) (n' : Nat), x = n' ∧ n' < 128 ∧ varB n = pre ++ varB n' ∧ pre.length ≤ 9 ∧ Sat h0 h' (wrR b (l ++ pre) :: L)) ?_ ?_
  · clear O
    rintro x h ⟨pre, n', rfl, hn', hv, hp, O⟩
    obtain ⟨s, O⟩ := O.wr
    refine O.ld 0 rfl (ldL_c (ldL_n ?_))
    refine wr_push O (x := UInt8.ofNat n') (by rw [wrap8_ofNat]; rfl) (by rw [List.length_append]; omega) fun h O => ?_
    refine k h ?_
    rw [hv, varB, if_pos hn', ← List.append_assoc]
    exact O
  · intro j hj
    rw [F_code_Writer_Var.l1.eq_1, ec]
    simp only [nn_some, pt_add, Nat.zero_add, Nat.add_zero, Nat.reduceAdd, Nat.reduceMul, Int.toNat_zero, Int.toNat_one, Nat.zero_mul, Nat.one_mul]
    refine wl2 (k := .int .u64) (l := .int .i64) (fun (m : Nat) (x i : Int) (h' : Heap) => 0 ≤ i ∧ i + m = c ∧ ∃ (pre : List UInt8) (n' : Nat), x = n' ∧ n' < 128 ^ (m + 1) ∧ (m = 0 ∨ 128 ^ m ≤ n') ∧ varB n = pre ++ varB n' ∧ pre.length = i.toNat ∧ Sat h0 h' (wrR b (l ++ pre) :: L)) ?_ (m := c) ⟨by omega, by omega, [], n, rfl, c1, c2, rfl, rfl, by simpa using O⟩
    clear O
    rintro m (x : Int) (i : Int) h next hn2 ⟨hi0, him, pre, n', rfl, h1, h2, hv, hp, O⟩
    refine brr_p (fun hlt => ?_) (fun hlt => ?_)
    · obtain ⟨m, rfl⟩ : ∃ q, m = q + 1 := ⟨m - 1, by omega⟩
      have hge : 128 ^ (m + 1) ≤ n' := by
        rcases h2 with h2 | h2
        · omega
        · exact h2
      have h128 : 128 ≤ n' := Nat.le_trans (by rw [Nat.pow_succ]; have : 0 < 128 ^ m := Nat.pow_pos (by decide); omega) hge
      obtain ⟨s, O⟩ := O.wr
      refine O.ld 0 rfl (ldL_c (ldL_n ?_))
      refine wr_push O (x := UInt8.ofNat (128 + n' % 128)) (by rw [or128]; rfl) (by rw [List.length_append]; omega) fun h O => ?_
      refine ⟨by decide, ?_⟩
      rw [show ((7 : Int)) = ((7 : Nat) : Int) from rfl, shr64 n' 7 (by decide), wrap64 (by omega) (by omega)]
      refine hn2 m _ _ _ (by omega) ⟨by omega, by omega, pre ++ [UInt8.ofNat (128 + n' % 128)], n' / 2 ^ 7, rfl, ?_, ?_, ?_, by simp; omega, by rw [← List.append_assoc]; exact O⟩
      · rw [Nat.div_lt_iff_lt_mul (by decide)]
        rw [Nat.pow_succ 128 (m + 1)] at h1
        exact h1
      · right
        rw [Nat.le_div_iff_mul_le (by decide)]
        rw [Nat.pow_succ] at hge
        exact hge
      · rw [hv, varB, if_neg (by omega), List.append_assoc]
        rfl
    · have hm : m = 0 := by omega
      subst hm
      exact hj _ _ ⟨pre, n', rfl, by simpa using h1, hv, by omega, O⟩
theorem F_code_Writer_Bytes.is {b : Nat} {l ys : List UInt8} {a : Sl} {Q : Heap → Prop} (O : Sat h0 h (wrR b l :: L)) (V1 : Stays h0 L fun h => Bytes h a ys) (hl : l.length + ys.length + 10 ≤ (70368744177664 : Nat)) (k : ∀ h', Sat h0 h' (wrR b (l ++ (varB ys.length ++ ys)) :: L) → Q h') : F_code_Writer_Bytes (some (pt b 0)) a h Q := by
  rw [F_code_Writer_Bytes.eq_1, F_code_Writer_Bytes_of.eq_1]
  have V0 := V1 h O.drop
  rw [V0.len, wrapu64 (by omega) (by omega)]
  refine F_code_Writer_Var.is O (by omega) (by omega) fun h O => ?_
  have hv := (varB_le (n := ys.length) (by omega)).1
  refine F_code_Writer_Raw.is O (V1 h O.drop) (by rw [List.length_append]; omega) fun h O => ?_
  refine k h ?_
  rw [← List.append_assoc]
  exact O
/-! ### the document's -/
set_option maxRecDepth 100000 in
theorem F_ref1_Var_fuel.is (d : Nat) : ∀ (n : Nat) {h0 h : Heap} {L : List Res} {Q : Sl → Heap → Prop}, n < 128 ^ (d + 1) → d ≤ 9 → n < 18446744073709551616 → Sat h0 h L → (∀ s h', Sat h0 h' (buf 1 u8 s (varB n) :: L) → Q s h') → F_ref1_Var_fuel (d + 1) n h Q := by
  have key : ∀ d' n : Nat, d' ≤ d → ∀ {h0 h : Heap} {L : List Res} {Q : Sl → Heap → Prop}, n < 128 ^ (d' + 1) → d' ≤ 9 → n < 18446744073709551616 → Sat h0 h L → (∀ s h', Sat h0 h' (buf 1 u8 s (varB n) :: L) → Q s h') → F_ref1_Var_fuel (d' + 1) n h Q := by
    intro d'
    induction d' with
    | zero =>
      intro n _ h0 h L Q hn hd hn2 O k
      rw [F_ref1_Var_fuel.eq_2]
      show F_ref1_Var_of (F_ref1_Var_fuel 0) (n : Int) h Q
      rw [F_ref1_Var_of.eq_1]
      refine brr_tt (by simp at hn ⊢; omega) ?_
      refine O.al fun b h O => ?_
      rw [wrap8_ofNat] at O
      have O : Sat h0 h (own b ([UInt8.ofNat n].flatMap u8 ++ []) :: L) := O
      have O := (O.own_buf (k := 0) (sz := 1) (by simp)).bufsI
      refine k _ h ?_
      rw [varB, if_pos (by simpa using hn)]
      exact O
    | succ d ih =>
    intro n hdd h0 h L Q hn hd hn2 O k
    rw [F_ref1_Var_fuel.eq_2]
    show F_ref1_Var_of (F_ref1_Var_fuel (d + 1)) (n : Int) h Q
    rw [F_ref1_Var_of.eq_1]
    refine brr_p (fun hlt => ?_) (fun hlt => ?_)
    · refine O.al fun b h O => ?_
      rw [wrap8_ofNat] at O
      have O : Sat h0 h (own b ([UInt8.ofNat n].flatMap u8 ++ []) :: L) := O
      have O := (O.own_buf (k := 0) (sz := 1) (by simp)).bufsI
      refine k _ h ?_
      rw [varB, if_pos (by omega)]
      exact O
    · refine ⟨by decide, ?_⟩
      have hw : IntKind.u8.wrap (IntKind.u64.wrap (128 + ((n : Int).tmod 128))) = ((UInt8.ofNat (128 + n % 128)).toNat : Int) := by
        rw [Int.tmod_eq_emod_of_nonneg (by omega), wrapu64 (by omega) (by omega), show (128 : Int) + (n : Int) % 128 = ((128 + n % 128 : Nat) : Int) by omega, wrap8_ofNat]
      rw [hw]
      refine O.al fun b h O => ?_
      refine ⟨by decide, ?_⟩
      have O : Sat h0 h (own b ([UInt8.ofNat (128 + n % 128)].flatMap u8 ++ []) :: L) := O
      have O := (O.own_buf (k := 0) (sz := 1) (by simp)).bufsI
      rw [show IntKind.u64.wrap ((n : Int).tdiv 128) = ((n / 128 : Nat) : Int) by rw [Int.tdiv_eq_ediv_of_nonneg (by omega), wrapu64 (by omega) (by omega)]; omega]
      have hlt2 : n / 128 < 128 ^ (d + 1) := by rw [Nat.div_lt_iff_lt_mul (by decide)]; rw [Nat.pow_succ] at hn; exact hn
      refine ih (n / 128) (by omega) hlt2 (by omega) (by omega) O fun s h O => ?_
      have hlv := varB_len d (n / 128) hlt2
      have V2 := (O.view 0 u8_len (by simp) rfl).1
      have O := O.swap
      refine O.app_buf u8_len u8_one rfl (ys := varB (n / 128)) V2.len (V2.len ▸ V2.rd u8_len) (by simp only [List.length_cons, List.length_nil]; omega) fun s2 h O hs => ?_
      refine k s2 h ?_
      rw [varB, if_neg (by omega)]
      have O := O.sel [0] 2 rfl (Nat.le_add_left _ _)
      simp only [selT, List.map, nth, List.drop, List.cons_append, List.nil_append] at O
      exact O
  intro n h0 h L Q a b c e f
  exact key d n (Nat.le_refl _) a b c e f
set_option maxRecDepth 100000 in
theorem F_ref1_Var.is {n : Nat} {Q : Sl → Heap → Prop} (O : Sat h0 h L) (hn : n < 18446744073709551616) (k : ∀ s h', Sat h0 h' (buf 1 u8 s (varB n) :: L) → Q s h') : F_ref1_Var n h Q := by
  rw [F_ref1_Var.eq_1]
  exact Exists.intro (9 + 1) (F_ref1_Var_fuel.is 9 n (Nat.lt_of_lt_of_le hn (by decide)) (by decide) hn O k)
theorem F_ref1_Text.is {a : Sl} {ys : List UInt8} {Q : Sl → Heap → Prop} (O : Sat h0 h L) (V1 : Stays h0 L fun h => Bytes h a ys) (hl : ys.length + 10 ≤ (70368744177664 : Nat)) (k : ∀ s h', Sat h0 h' (buf 1 u8 s (varB ys.length ++ ys) :: L) → Q s h') : F_ref1_Text a h Q := by
  rw [F_ref1_Text.eq_1, F_ref1_Text_of.eq_1]
  have V0 := V1 h O
  rw [V0.len, wrapu64 (by omega) (by omega)]
  refine F_ref1_Var.is O (by omega) fun s h O => ?_
  have V2 := V1 h O.drop
  have hv := (varB_le (n := ys.length) (by omega)).1
  refine O.app_buf u8_len u8_one rfl (ys := ys) rfl (V2.len ▸ V2.rd u8_len) (by omega) fun s2 h O hs => ?_
  exact k s2 h O
theorem F_ref1_fixed.is {n size : Nat} {Q : Sl → Heap → Prop} (O : Sat h0 h L) (hs : 0 < size) (hs8 : size ≤ 8) (hn : n < 18446744073709551616) (k : ∀ s h', Sat h0 h' (buf 1 u8 s (fixB n size) :: L) → Q s h') : F_ref1_fixed n size h Q := by
  rw [F_ref1_fixed.eq_1, F_ref1_fixed_of.eq_1]
  refine O.mk_buf (by omega) (by omega) (by omega) fun b h O => ?_
  have e0 : mkCells (Value.int .u8 0) ((size : Int).toNat * 1) = (List.replicate size (0 : UInt8)).flatMap u8 ++ [] := by
    have h1 : mkCells (Value.int .u8 0) ((size : Int).toNat * 1) = List.replicate size (.int .u8 0) := by
      unfold mkCells
      apply List.ext_getElem
      · simp
      · intro i h1 h2
        simp [Value.cells, Nat.mod_one]
    rw [h1, List.append_nil]
    have : ∀ k : Nat, List.replicate k (Value.int .u8 0) = (List.replicate k (0 : UInt8)).flatMap u8 := by
      intro k
      induction k with
      | zero => rfl
      | succ k ih => rw [List.replicate_succ, List.replicate_succ, List.flatMap_cons, ih]; rfl
    exact this _
  rw [e0] at O
  have O := (O.own_buf (k := 0) (sz := 1) (by simp)).bufsI
  rw [List.length_replicate, Nat.add_zero] at O
  rw [show (size : Int).toNat = size by omega]
  refine jn0 (fun h' => Sat h0 h' (buf 1 u8 ⟨some (pt b 0), size, size⟩ (fixB n size) :: L)) (fun h O => k _ h O) fun j hj => ?_
  rw [F_ref1_fixed.l1.eq_1, wrap64 (by omega) (by omega)]
  refine wl2 (k := .int .u64) (l := .int .i64) (fun (m : Nat) (x i : Int) (h' : Heap) => i + 1 = m ∧ m ≤ size ∧ x = ((n / 256 ^ (size - m) : Nat) : Int) ∧ ∃ ds : List UInt8, ds.length = size ∧ (∀ (j : Nat), m ≤ j → ds[j]? = (fixB n size)[j]?) ∧ Sat h0 h' (buf 1 u8 ⟨some (pt b 0), size, size⟩ ds :: L)) ?_ (m := size) ⟨by omega, by omega, by simp, _, by simp, by intro j hjj; rw [List.getElem?_eq_none (by simpa using hjj), List.getElem?_eq_none (by rw [fixB_len]; exact hjj)], O⟩
  clear O
  rintro m (x : Int) (i : Int) h next hn2 ⟨him, hms, rfl, ds, hds, hdj, O⟩
  refine brr_p (fun hge => ?_) (fun hge => ?_)
  · have hge : 0 ≤ i := hge
    refine ⟨by decide, ?_⟩
    have e2 : n / 256 ^ (size - (m - 1)) = n / 256 ^ (size - m) / 256 := by
      rw [show size - (m - 1) = size - m + 1 by omega, Nat.pow_succ, ← Nat.div_div_eq_div_mul]
    have hqn : n / 256 ^ (size - m) ≤ n := Nat.div_le_self _ _
    have hfx : (fixB n size)[i.toNat]? = some (UInt8.ofNat (n / 256 ^ (size - m))) := by
      rw [fixB_at (by omega), show size - 1 - i.toNat = size - m by omega]
    generalize n / 256 ^ (size - m) = q at *
    have hw : IntKind.u8.wrap ((q : Int).tmod 256) = ((UInt8.ofNat q).toNat : Int) := by
      rw [Int.tmod_eq_emod_of_nonneg (by omega), show (q : Int) % 256 = ((q % 256 : Nat) : Int) by omega, wrap8_ofNat]
      simp
    rw [hw]
    refine O.put1 u8_len u8_one hge (by omega) (UInt8.ofNat q) rfl fun h O => ?_
    refine ⟨by decide, ?_⟩
    rw [Int.tdiv_eq_ediv_of_nonneg (by omega), wrapu64 (by omega) (by omega), wrap64 (by omega) (by omega)]
    refine hn2 (m - 1) _ _ _ (by omega) ⟨by omega, by omega, by rw [e2]; omega, _, by simp [hds], fun j hj => ?_, O⟩
    rw [List.getElem?_set]
    by_cases e : i.toNat = j
    · subst e
      rw [if_pos rfl, if_pos (by omega), hfx]
    · rw [if_neg e]
      exact hdj j (by omega)
  · refine hj _ ?_
    have : ds = fixB n size := by
      apply List.ext_getElem?
      intro j
      exact hdj j (by omega)
    rw [← this]
    exact O
end
end Go.Proofs.Ytompmkmbppcadaa.V
namespace Go.Proofs.Ytompmkmbppcadaa.V
open Go Go.RowKit
set_option linter.unusedVariables false
set_option maxRecDepth 100000
/-! tally/tallylaw1.Into -/
def F_law1_Into.l1 (l1 : Sl) (b2 : Sl) (j3 : Heap → Prop) : Int → Heap → Prop :=
  wl [(4, .one (.int .i64))] (fun (next4 : Int → Heap → Prop) (i5 : Int) (h6 : Heap) =>
  brr (decide (i5 < ((l1.len : Nat) : Int)))
  (ixS 1 b2 i5 fun (a7 : Addr) =>
  ld [.int .u8] a7 h6 fun (v8 : Int) =>
  ixS 1 l1 i5 fun (a9 : Addr) =>
  st a9 [.int .u8 v8] h6 fun (h10 : Heap) =>
  next4 (IntKind.i64.wrap (i5 + 1)) h10)
  (j3 h6))
def F_law1_Into_of  (l1 : Sl) (b2 : Sl) (h : Heap) (Q : Heap → Prop) : Prop :=
  jn [] (fun  (h11 : Heap) =>
  Q h11) (fun (j3 : Heap → Prop) =>
  F_law1_Into.l1 l1 b2 j3 0 h)
def F_law1_Into (l1 : Sl) (b2 : Sl) (h : Heap) (Q : Heap → Prop) : Prop := F_law1_Into_of  l1 b2 h Q
def plan14 : Plan := .s (.r [0, 1, 4]) (.bj [] [] (.l [(4, .one (.int .i64))] [0, 1] (.s (.s (.r [0, 1, 4, 8]) (.c .z .z)) (.s (.b (.r [0, 1, 4])) (.r [0, 1, 4])))))
theorem F_law1_Into.eq  (l1 : Sl) (b2 : Sl) (h : Heap) (K : Value → Heap → Prop) : F_law1_Into_of  l1 b2 h (fun  (h : Heap) => K (.tuple #[]) h) =
    den Try.prog noFns Try.f14.ntmps plan14 (bodyOf Try.f14) (args0 0 [(.slice l1.ptr l1.len l1.cap : Value), (.slice b2.ptr b2.len b2.cap : Value)]) h ⟨fun env h => dRes Try.prog Try.f14.results.toList env h K, fun _ _ _ => False, fun env h => dRes Try.prog Try.f14.results.toList env h K⟩ := by kernel_rfl
def E_law1_Into_of (f : Sl → Sl → Heap → (Heap → Prop) → Prop) : List Value → Heap → (Value → Heap → Prop) → Prop
  | [v0, v1], h, K => dec1 .sl v0 fun (l1 : Sl) =>
  dec1 .sl v1 fun (b2 : Sl) =>
  f l1 b2 h (fun  (h : Heap) => K (.tuple #[]) h)
  | _, _, _ => False
abbrev E_law1_Into := E_law1_Into_of F_law1_Into
theorem E_law1_Into.right : IsRight Try.prog 14 E_law1_Into := by
  refine isRight fun vs K w hh => ?_
  match vs, hh with
  | [v0, v1], hh =>
    unfold E_law1_Into E_law1_Into_of at hh
    replace hh := dec1_sound hh; obtain ⟨l1, rfl, hh⟩ := hh
    replace hh := dec1_sound hh; obtain ⟨b2, rfl, hh⟩ := hh
    unfold F_law1_Into at hh
    exact calls_den noFns_right plan14 _ w K Try.func14 (by kernel_rfl) (by kernel_rfl) (Eq.mp (F_law1_Into.eq  l1 b2 w.heap K) hh)
theorem ok14 : okFn Try.prog 14 = true := by kernel_rfl
end Go.Proofs.Ytompmkmbppcadaa.V
namespace Go.Proofs.Ytompmkmbppcadaa.V
open Go Go.RowKit
set_option linter.unusedVariables false
set_option maxRecDepth 100000
/-! tally/tallylaw1.Other -/
def F_law1_Other.l1 (b1 : Sl) (j2 : Sl → Heap → Prop) : Sl → Int → Heap → Prop :=
  wl [(3, .one .sl), (4, .one (.int .i64))] (fun (next3 : Sl → Int → Heap → Prop) (l4 : Sl) (i5 : Int) (h6 : Heap) =>
  brr (decide (i5 ≥ 0))
  (ixS 1 b1 i5 fun (a7 : Addr) =>
  ld [.int .u8] a7 h6 fun (v8 : Int) =>
  al 5 [.int .u8 v8] h6 fun (a9 : Addr) (h10 : Heap) =>
  app 5 1 1 (.int .u8 0) l4 (some a9) 1 h10 fun (s11 : Sl) (h12 : Heap) =>
  next3 s11 (IntKind.i64.wrap (i5 - 1)) h12)
  (j2 l4 h6))
def F_law1_Other_of  (b1 : Sl) (h : Heap) (Q : Sl → Heap → Prop) : Prop :=
  jn [(3, .one .sl)] (fun (l13 : Sl) (h14 : Heap) =>
  jn [(28, .one .bool)] (fun (x18 : Bool) (h19 : Heap) =>
  jn [] (fun  (h25 : Heap) =>
  Q l13 h25) (fun (j20 : Heap → Prop) =>
  brr x18
  (ixS 1 l13 (IntKind.i64.wrap (((l13.len : Nat) : Int) - 1)) fun (a21 : Addr) =>
  ld [.int .u8] a21 h19 fun (v22 : Int) =>
  ixS 1 l13 (IntKind.i64.wrap (((l13.len : Nat) : Int) - 1)) fun (a23 : Addr) =>
  st a23 [.int .u8 (IntKind.u8.wrap (BitVec.ofInt IntKind.u8.bits v22 ^^^ BitVec.ofInt IntKind.u8.bits 1).toNat)] h19 fun (h24 : Heap) =>
  j20 h24)
  (j20 h19))) (fun (j15 : Bool → Heap → Prop) =>
  brr (decide (((b1.len : Nat) : Int) > 0))
  (b2s l13.ptr l13.len h14 fun (s16 : ByteArray) =>
  b2s b1.ptr b1.len h14 fun (s17 : ByteArray) =>
  j15 (s16.toList == s17.toList) h14)
  (j15 false h14))) (fun (j2 : Sl → Heap → Prop) =>
  F_law1_Other.l1 b1 j2 (⟨none, 0, 0⟩ : Sl) (IntKind.i64.wrap (((b1.len : Nat) : Int) - 1)) h)
def F_law1_Other (b1 : Sl) (h : Heap) (Q : Sl → Heap → Prop) : Prop := F_law1_Other_of  b1 h Q
def plan13 : Plan := .s (.r [0]) (.s (.r [0, 3]) (.s (.s (.r [0, 3, 4]) (.bj [(3, .one .sl)] [0] (.l [(3, .one .sl), (4, .one (.int .i64))] [0] (.s (.s (.r [0, 3, 4, 9]) (.c .z .z)) (.s (.b (.r [0, 3, 4])) (.r [0, 3, 4])))))) (.s (.s (.rj [(28, .one .bool)] [3]) (.cj [] [3] (.r [3]) .z)) (.s (.r [2]) .z))))
theorem F_law1_Other.eq  (b1 : Sl) (h : Heap) (K : Value → Heap → Prop) : F_law1_Other_of  b1 h (fun (r0 : Sl) (h : Heap) => K (.slice r0.ptr r0.len r0.cap) h) =
    den Try.prog noFns Try.f13.ntmps plan13 (bodyOf Try.f13) (args0 0 [(.slice b1.ptr b1.len b1.cap : Value)]) h ⟨fun env h => dRes Try.prog Try.f13.results.toList env h K, fun _ _ _ => False, fun env h => dRes Try.prog Try.f13.results.toList env h K⟩ := by kernel_rfl
def E_law1_Other_of (f : Sl → Heap → (Sl → Heap → Prop) → Prop) : List Value → Heap → (Value → Heap → Prop) → Prop
  | [v0], h, K => dec1 .sl v0 fun (b1 : Sl) =>
  f b1 h (fun (r0 : Sl) (h : Heap) => K (.slice r0.ptr r0.len r0.cap) h)
  | _, _, _ => False
abbrev E_law1_Other := E_law1_Other_of F_law1_Other
theorem E_law1_Other.right : IsRight Try.prog 13 E_law1_Other := by
  refine isRight fun vs K w hh => ?_
  match vs, hh with
  | [v0], hh =>
    unfold E_law1_Other E_law1_Other_of at hh
    replace hh := dec1_sound hh; obtain ⟨b1, rfl, hh⟩ := hh
    unfold F_law1_Other at hh
    exact calls_den noFns_right plan13 _ w K Try.func13 (by kernel_rfl) (by kernel_rfl) (Eq.mp (F_law1_Other.eq  b1 w.heap K) hh)
theorem ok13 : okFn Try.prog 13 = true := by kernel_rfl
end Go.Proofs.Ytompmkmbppcadaa.V
/- Lists of texts as they come in; a text turned round; a text laid over another. -/
namespace Go.Proofs.Ytompmkmbppcadaa.V
open Go Go.RowKit
set_option linter.unusedVariables false
set_option linter.unusedSimpArgs false
abbrev tyBytes : Ty := .sl 1 1 (.int .u8)
abbrev tyTexts : Ty := .cons (.sl 1 24 tyBytes) .nil
/-- A text of a list that came in. -/
def txR (H : Heap) (N : Nat) (x : Sl × List UInt8) (cs : List Value) : Prop := cs = [.slice x.1.ptr x.1.len x.1.cap] ∧ Bytes H x.1 x.2 ∧ x.2.length ≤ N ∧ x.1.len ≤ x.1.cap
theorem SlN.bytesN {h : Heap} {N : Nat} {s : Sl} (S : SlN h N 1 1 s fun cs => Fit h N (.int .u8) cs) : s.len ≤ s.cap ∧ ∃ l : List UInt8, Bytes h s l ∧ l.length ≤ N := by
  obtain ⟨h1, h2, l, V⟩ := S.bytes
  exact ⟨h1, l, V, by rw [← V.len]; omega⟩
theorem SlN.texts {h : Heap} {N : Nat} {s : Sl} (S : SlN h N 1 24 s fun cs => Fit h N tyBytes cs) : ∃ xs : List (Sl × List UInt8), View h 1 (txR h N) s xs ∧ xs.length ≤ N := by
  obtain ⟨h1, h2, _, xs, V⟩ := S.view (txR h N) (fun cs ⟨t, e, tS⟩ => by
    obtain ⟨h1, l, V, hl⟩ := tS.bytesN
    exact ⟨(t, l), e, V, hl, h1⟩)
  exact ⟨xs, V, by rw [← V.len]; omega⟩
section
variable {h0 h : Heap} {L : List Res}
theorem F_law1_Into.is {s b : Sl} {xs ys : List UInt8} {Q : Heap → Prop} (O : Sat h0 h (lent s xs :: L)) (V1 : Stays h0 L fun h => Bytes h b ys) (hl : xs.length = ys.length) (hl2 : xs.length < 4611686018427387904) (k : ∀ h', Sat h0 h' (lent s ys :: L) → Q h') : F_law1_Into s b h Q := by
  rw [F_law1_Into.eq_1, F_law1_Into_of.eq_1]
  refine jn0 (fun h' => Sat h0 h' (lent s ys :: L)) (fun h O => k h O) fun j hj => ?_
  rw [F_law1_Into.l1.eq_1]
  refine wl1 (k := .int .i64) (fun (m : Nat) (i : Int) (h' : Heap) => 0 ≤ i ∧ i + m = xs.length ∧ Sat h0 h' (lent s (ys.take i.toNat ++ xs.drop i.toNat) :: L)) ?_ (m := xs.length) ⟨by omega, by omega, O⟩
  clear O
  intro m (i : Int) h next hn ⟨hi0, him, O⟩
  have hlen := (O.lent 0 (by simp) rfl).1.len
  rw [List.length_append, List.length_take, List.length_drop] at hlen
  rw [show s.len = xs.length by omega]
  refine brr_p (fun hlt => ?_) (fun hlt => ?_)
  · refine Bytes.at (V1 h O.drop) hi0 (by omega) fun y hy => ?_
    refine O.putL hi0 (by simp; omega) y rfl fun h O => ?_
    rw [wrap64 (by omega) (by omega)]
    refine hn (m - 1) _ _ (by omega) ⟨by omega, by omega, ?_⟩
    have e : (ys.take i.toNat ++ xs.drop i.toNat).set i.toNat y = ys.take (i + 1).toNat ++ xs.drop (i + 1).toNat := by
      have ht : (ys.take i.toNat).length = i.toNat := by rw [List.length_take]; omega
      rw [List.set_append_right _ _ (by omega), ht, Nat.sub_self, show (i + 1).toNat = i.toNat + 1 by omega, take_succ_eq hy, List.append_assoc]
      rw [List.drop_eq_getElem_cons (i := i.toNat) (by omega)]
      rfl
    rw [e] at O
    exact O
  · refine hj _ ?_
    have : i.toNat = xs.length := by omega
    rw [this, List.drop_of_length_le (Nat.le_refl _), List.take_of_length_le (by omega), List.append_nil] at O
    exact O
theorem F_law1_Other.is {b : Sl} {xs : List UInt8} {Q : Sl → Heap → Prop} (O : Sat h0 h L) (V1 : Stays h0 L fun h => Bytes h b xs) (hl : xs.length ≤ 140737488355328) (k : ∀ s ys h', ys.length = xs.length → Sat h0 h' (buf 1 u8 s ys :: L) → Q s h') : F_law1_Other b h Q := by
  rw [F_law1_Other.eq_1, F_law1_Other_of.eq_1]
  have hbl := (V1 h O).len
  rw [hbl]
  refine jn1 (fun (s : Sl) h' => ∃ ys, ys.length = xs.length ∧ Sat h0 h' (buf 1 u8 s ys :: L)) ?_ ?_
  · clear O
    rintro (s : Sl) h ⟨ys, hy, O⟩
    have VL := (O.view 0 u8_len (by simp) rfl).1
    rw [VL.len]
    refine jn1 (fun t h' => h' = h ∧ (t = true → 0 < xs.length)) ?_ ?_
    · rintro t h ⟨rfl, ht⟩
      refine jn0 (fun h' => ∃ ys, ys.length = xs.length ∧ Sat h0 h' (buf 1 u8 s ys :: L)) ?_ ?_
      · rintro h ⟨ys, hy, O⟩
        exact k _ _ _ hy O
      · intro j hj
        refine brr_of (fun e => ?_) (fun e => hj _ ⟨ys, hy, O⟩)
        have hp := ht e
        rw [wrap64 (by omega) (by omega)]
        refine Bytes.at VL (by omega) (by omega) fun y hyy => ?_
        have hw : ∃ z : UInt8, [Value.int .u8 (IntKind.u8.wrap (BitVec.ofInt IntKind.u8.bits (y.toNat : Int) ^^^ BitVec.ofInt IntKind.u8.bits 1).toNat)] = u8 z := by
          refine ⟨UInt8.ofNat (BitVec.ofInt IntKind.u8.bits (y.toNat : Int) ^^^ BitVec.ofInt IntKind.u8.bits 1).toNat, ?_⟩
          have hlt : (BitVec.ofInt IntKind.u8.bits (y.toNat : Int) ^^^ BitVec.ofInt IntKind.u8.bits 1).toNat < 2 ^ 8 := (BitVec.ofInt IntKind.u8.bits (y.toNat : Int) ^^^ BitVec.ofInt IntKind.u8.bits 1).isLt
          unfold u8
          rw [wrapu8 (by omega) (by omega), UInt8.toNat_ofNat']
          congr 3
          omega
        obtain ⟨z, hz⟩ := hw
        refine O.put1 u8_len u8_one (by omega) (by omega) z hz fun h O => ?_
        exact hj _ ⟨_, by simp [hy], O⟩
    · intro j hj
      refine brr_p (fun hlt => ?_) (fun hlt => ?_)
      · have h1 := VL
        rw [← VL.len]
        refine b2s_view VL ?_
        rw [← hbl]
        refine b2s_view (V1 h O.drop) ?_
        exact hj _ _ ⟨rfl, fun _ => by omega⟩
      · exact hj _ _ ⟨rfl, fun e => by cases e⟩
  · intro j hj
    rw [F_law1_Other.l1.eq_1, wrap64 (by omega) (by omega)]
    have O := O.nil_buf (sz := 1) (enc := u8)
    refine wl2 (k := .sl) (l := .int .i64) (fun (m : Nat) (s : Sl) (i : Int) (h' : Heap) => m = i + 1 ∧ i < xs.length ∧ ∃ ys : List UInt8, (ys.length : Int) = xs.length - 1 - i ∧ Sat h0 h' (buf 1 u8 s ys :: L)) ?_ (m := xs.length) ⟨by omega, by omega, [], by simp, O⟩
    clear O
    intro m (s : Sl) (i : Int) h next hn ⟨hm, hi, ys, hy, O⟩
    refine brr_p (fun hge => ?_) (fun hge => ?_)
    · have hge : 0 ≤ i := hge
      refine Bytes.at (V1 h O.drop) hge hi fun y hyy => ?_
      refine O.push_buf y rfl u8_len u8_one rfl (by omega) fun s h O hs => ?_
      rw [wrap64 (by omega) (by omega)]
      exact hn (m - 1) _ _ _ (by omega) ⟨by omega, by omega, _, by simp; omega, O⟩
    · exact hj _ _ ⟨ys, by omega, O⟩
end
end Go.Proofs.Ytompmkmbppcadaa.V
namespace Go.Proofs.Ytompmkmbppcadaa.V
open Go Go.RowKit
set_option linter.unusedVariables false
set_option maxRecDepth 100000
/-! tally/tallylaw1.into -/
def F_law1_into_of  (n1 : Int) (m2 : Int) (h : Heap) (Q : Int → Heap → Prop) : Prop :=
  m2 ≠ 0 ∧
  jn [(5, .one (.int .i64))] (fun (k4 : Int) (h5 : Heap) =>
  Q k4 h5) (fun (j3 : Int → Heap → Prop) =>
  brr (decide ((n1.tmod m2) < 0))
  (j3 (IntKind.i64.wrap ((n1.tmod m2) + m2)) h)
  (j3 (n1.tmod m2) h))
def F_law1_into (n1 : Int) (m2 : Int) (h : Heap) (Q : Int → Heap → Prop) : Prop := F_law1_into_of  n1 m2 h Q
def plan19 : Plan := .s (.r [0, 1]) (.s (.r [1, 5]) (.s (.s (.r [1, 5, 10]) (.cj [(5, .one (.int .i64))] [] (.r [5]) .z)) (.s (.r [4]) .z)))
theorem F_law1_into.eq  (n1 : Int) (m2 : Int) (h : Heap) (K : Value → Heap → Prop) : F_law1_into_of  n1 m2 h (fun (r0 : Int) (h : Heap) => K (.int .i64 r0) h) =
    den Try.prog noFns Try.f19.ntmps plan19 (bodyOf Try.f19) (args0 0 [(.int .i64 n1 : Value), (.int .i64 m2 : Value)]) h ⟨fun env h => dRes Try.prog Try.f19.results.toList env h K, fun _ _ _ => False, fun env h => dRes Try.prog Try.f19.results.toList env h K⟩ := by kernel_rfl
def E_law1_into_of (f : Int → Int → Heap → (Int → Heap → Prop) → Prop) : List Value → Heap → (Value → Heap → Prop) → Prop
  | [v0, v1], h, K => dec1 (.int .i64) v0 fun (n1 : Int) =>
  dec1 (.int .i64) v1 fun (m2 : Int) =>
  f n1 m2 h (fun (r0 : Int) (h : Heap) => K (.int .i64 r0) h)
  | _, _, _ => False
abbrev E_law1_into := E_law1_into_of F_law1_into
theorem E_law1_into.right : IsRight Try.prog 19 E_law1_into := by
  refine isRight fun vs K w hh => ?_
  match vs, hh with
  | [v0, v1], hh =>
    unfold E_law1_into E_law1_into_of at hh
    replace hh := dec1_sound hh; obtain ⟨n1, rfl, hh⟩ := hh
    replace hh := dec1_sound hh; obtain ⟨m2, rfl, hh⟩ := hh
    unfold F_law1_into at hh
    exact calls_den noFns_right plan19 _ w K Try.func19 (by kernel_rfl) (by kernel_rfl) (Eq.mp (F_law1_into.eq  n1 m2 w.heap K) hh)
theorem ok19 : okFn Try.prog 19 = true := by kernel_rfl
end Go.Proofs.Ytompmkmbppcadaa.V
namespace Go.Proofs.Ytompmkmbppcadaa.V
open Go Go.RowKit
set_option linter.unusedVariables false
set_option maxRecDepth 100000
/-! tally/tallylaw1.writes -/
def F_law1_writes.l1 (r11 : Sl) (j79 : Heap → Prop) : Int → Heap → Prop :=
  wl [(10, .one (.int .i64))] (fun (next80 : Int → Heap → Prop) (i81 : Int) (h82 : Heap) =>
  brr (decide (i81 < ((r11.len : Nat) : Int)))
  (ixS 1 r11 i81 fun (a83 : Addr) =>
  st a83 [.int .u8 238] h82 fun (h84 : Heap) =>
  next80 (IntKind.i64.wrap (i81 + 1)) h84)
  (j79 h82))
def F_law1_writes_of (f10_ : Sl → Heap → (Sl → Heap → Prop) → Prop) (f12_ : Sl → Sl → Heap → (Bool → Heap → Prop) → Prop) (f21_ : Sl → Sl → Heap → (Bool → Heap → Prop) → Prop) (f22_ : Option Addr → Heap → (Sl → Heap → Prop) → Prop) (f23_ : Option Addr → Heap → (Int → Heap → Prop) → Prop) (f24_ : Option Addr → Int → Heap → (Heap → Prop) → Prop) (f25_ : Int → Heap → (Sl → Heap → Prop) → Prop) (f26_ : Option Addr → Sl → Heap → (Heap → Prop) → Prop) (f27_ : Sl → Heap → (Sl → Heap → Prop) → Prop) (f40_ : Option Addr → Int → Heap → (Heap → Prop) → Prop) (f41_ : Int → Heap → (Sl → Heap → Prop) → Prop) (f42_ : Option Addr → Int → Heap → (Heap → Prop) → Prop) (f43_ : Int → Heap → (Sl → Heap → Prop) → Prop) (f44_ : Option Addr → Int → Heap → (Heap → Prop) → Prop) (f45_ : Int → Heap → (Sl → Heap → Prop) → Prop) (f46_ : Option Addr → Sl → Heap → (Heap → Prop) → Prop) (w1 : Option Addr) (held2 : Sl) (o3 : Int) (o4 : Int) (o5 : Int) (o6 : Int) (o7 : Sl) (h : Heap) (Q : Sl → Bool → Heap → Prop) : Prop :=
  al 47 [.int .i64 o3, .int .i64 o4, .int .i64 o5, .int .u64 o6, .slice o7.ptr o7.len o7.cap] h fun (a8 : Addr) (h9 : Heap) =>
  ld [.sl] (a8.add 4) h9 fun (v10 : Sl) =>
  f10_ v10 h9 fun (r11 : Sl) (h12 : Heap) =>
  ld [.int .i64] (a8.add 0) h12 fun (v13 : Int) =>
  jn [(1, .one .sl)] (fun (held74 : Sl) (h75 : Heap) =>
  ld [.sl] (a8.add 4) h75 fun (v76 : Sl) =>
  f12_ r11 v76 h75 fun (r77 : Bool) (h78 : Heap) =>
  jn [] (fun  (h85 : Heap) =>
  Q held74 r77 h85) (fun (j79 : Heap → Prop) =>
  F_law1_writes.l1 r11 j79 0 h78)) (fun (j14 : Sl → Heap → Prop) =>
  brr (v13 == 1)
  (ld [.int .u64] (a8.add 3) h12 fun (v15 : Int) =>
  f40_ w1 (IntKind.u8.wrap v15) h12 fun  (h16 : Heap) =>
  ld [.int .u64] (a8.add 3) h16 fun (v17 : Int) =>
  f41_ (IntKind.u8.wrap v17) h16 fun (r18 : Sl) (h19 : Heap) =>
  app 5 1 1 (.int .u8 0) held2 r18.ptr r18.len h19 fun (s20 : Sl) (h21 : Heap) =>
  j14 s20 h21)
  (jn [(1, .one .sl)] (fun (held72 : Sl) (h73 : Heap) =>
  j14 held72 h73) (fun (j22 : Sl → Heap → Prop) =>
  brr (v13 == 2)
  (ld [.int .u64] (a8.add 3) h12 fun (v23 : Int) =>
  f24_ w1 (IntKind.u32.wrap v23) h12 fun  (h24 : Heap) =>
  ld [.int .u64] (a8.add 3) h24 fun (v25 : Int) =>
  f25_ (IntKind.u32.wrap v25) h24 fun (r26 : Sl) (h27 : Heap) =>
  app 5 1 1 (.int .u8 0) held2 r26.ptr r26.len h27 fun (s28 : Sl) (h29 : Heap) =>
  j22 s28 h29)
  (jn [(1, .one .sl)] (fun (held70 : Sl) (h71 : Heap) =>
  j22 held70 h71) (fun (j30 : Sl → Heap → Prop) =>
  brr (v13 == 3)
  (ld [.int .u64] (a8.add 3) h12 fun (v31 : Int) =>
  f42_ w1 v31 h12 fun  (h32 : Heap) =>
  ld [.int .u64] (a8.add 3) h32 fun (v33 : Int) =>
  f43_ v33 h32 fun (r34 : Sl) (h35 : Heap) =>
  app 5 1 1 (.int .u8 0) held2 r34.ptr r34.len h35 fun (s36 : Sl) (h37 : Heap) =>
  j30 s36 h37)
  (jn [(1, .one .sl)] (fun (held68 : Sl) (h69 : Heap) =>
  j30 held68 h69) (fun (j38 : Sl → Heap → Prop) =>
  brr (v13 == 4)
  (ld [.int .u64] (a8.add 3) h12 fun (v39 : Int) =>
  f44_ w1 v39 h12 fun  (h40 : Heap) =>
  ld [.int .u64] (a8.add 3) h40 fun (v41 : Int) =>
  f45_ v41 h40 fun (r42 : Sl) (h43 : Heap) =>
  app 5 1 1 (.int .u8 0) held2 r42.ptr r42.len h43 fun (s44 : Sl) (h45 : Heap) =>
  j38 s44 h45)
  (jn [(1, .one .sl)] (fun (held66 : Sl) (h67 : Heap) =>
  j38 held66 h67) (fun (j46 : Sl → Heap → Prop) =>
  brr (v13 == 5)
  (f26_ w1 r11 h12 fun  (h47 : Heap) =>
  ld [.sl] (a8.add 4) h47 fun (v48 : Sl) =>
  f27_ v48 h47 fun (r49 : Sl) (h50 : Heap) =>
  app 5 1 1 (.int .u8 0) held2 r49.ptr r49.len h50 fun (s51 : Sl) (h52 : Heap) =>
  j46 s51 h52)
  (jn [(1, .one .sl)] (fun (held64 : Sl) (h65 : Heap) =>
  j46 held64 h65) (fun (j53 : Sl → Heap → Prop) =>
  brr (v13 == 6)
  (f46_ w1 r11 h12 fun  (h54 : Heap) =>
  ld [.sl] (a8.add 4) h54 fun (v55 : Sl) =>
  app 5 1 1 (.int .u8 0) held2 v55.ptr v55.len h54 fun (s56 : Sl) (h57 : Heap) =>
  j53 s56 h57)
  (brr (v13 == 7)
  (f23_ w1 h12 fun (r58 : Int) (h59 : Heap) =>
  Q held2 (r58 == ((held2.len : Nat) : Int)) h59)
  (brr (v13 == 8)
  (f22_ w1 h12 fun (r60 : Sl) (h61 : Heap) =>
  f21_ r60 held2 h61 fun (r62 : Bool) (h63 : Heap) =>
  Q held2 r62 h63)
  (j53 held2 h12))))))))))))))
def F_law1_writes (w1 : Option Addr) (held2 : Sl) (o3 : Int) (o4 : Int) (o5 : Int) (o6 : Int) (o7 : Sl) (h : Heap) (Q : Sl → Bool → Heap → Prop) : Prop := F_law1_writes_of F_law1_Lend F_law1_Intact F_ref0_Eq F_code_Writer_Out F_code_Writer_Len F_code_Writer_U32 F_ref1_U32 F_code_Writer_Bytes F_ref1_Text F_code_Writer_U8 F_ref1_U8 F_code_Writer_U64 F_ref1_U64 F_code_Writer_Var F_ref1_Var F_code_Writer_Raw w1 held2 o3 o4 o5 o6 o7 h Q
def plan20 : Plan := .s (.r [0, 1, 5]) (.s (.r [0, 1, 5, 8]) (.s (.s (.r [0, 1, 5, 8, 15]) (.b (.s (.r [0, 1, 5, 8, 15, 16]) (.cj [(1, .one .sl)] [5, 8] (.s (.r [1, 5, 8]) (.r [1, 5, 8])) (.s (.r [0, 1, 5, 8, 15, 29]) (.cj [(1, .one .sl)] [5, 8] (.s (.r [1, 5, 8]) (.r [1, 5, 8])) (.s (.r [0, 1, 5, 8, 15, 42]) (.cj [(1, .one .sl)] [5, 8] (.s (.r [1, 5, 8]) (.r [1, 5, 8])) (.s (.r [0, 1, 5, 8, 15, 53]) (.cj [(1, .one .sl)] [5, 8] (.s (.r [1, 5, 8]) (.r [1, 5, 8])) (.s (.r [0, 1, 5, 8, 15, 64]) (.cj [(1, .one .sl)] [5, 8] (.s (.r [1, 5, 8]) (.r [1, 5, 8])) (.s (.r [0, 1, 5, 8, 15, 74]) (.cj [(1, .one .sl)] [5, 8] (.s (.r [1, 5, 8]) (.r [1, 5, 8])) (.s (.r [0, 1, 5, 8, 15, 83]) (.c (.s (.r [6, 7]) .z) (.s (.r [0, 1, 5, 8, 91]) (.c (.s (.r [6, 7]) .z) .z)))))))))))))))))) (.s (.r [1, 8, 9]) (.s (.s (.r [1, 8, 9, 10]) (.bj [] [1, 9] (.l [(10, .one (.int .i64))] [1, 8, 9] (.s (.s (.r [1, 8, 9, 10, 105]) (.c .z .z)) (.s (.b (.r [1, 8, 9, 10])) (.r [1, 8, 9, 10])))))) (.s (.r [6, 7]) .z)))))
theorem F_law1_writes.eq (f10_ : Sl → Heap → (Sl → Heap → Prop) → Prop) (f12_ : Sl → Sl → Heap → (Bool → Heap → Prop) → Prop) (f21_ : Sl → Sl → Heap → (Bool → Heap → Prop) → Prop) (f22_ : Option Addr → Heap → (Sl → Heap → Prop) → Prop) (f23_ : Option Addr → Heap → (Int → Heap → Prop) → Prop) (f24_ : Option Addr → Int → Heap → (Heap → Prop) → Prop) (f25_ : Int → Heap → (Sl → Heap → Prop) → Prop) (f26_ : Option Addr → Sl → Heap → (Heap → Prop) → Prop) (f27_ : Sl → Heap → (Sl → Heap → Prop) → Prop) (f40_ : Option Addr → Int → Heap → (Heap → Prop) → Prop) (f41_ : Int → Heap → (Sl → Heap → Prop) → Prop) (f42_ : Option Addr → Int → Heap → (Heap → Prop) → Prop) (f43_ : Int → Heap → (Sl → Heap → Prop) → Prop) (f44_ : Option Addr → Int → Heap → (Heap → Prop) → Prop) (f45_ : Int → Heap → (Sl → Heap → Prop) → Prop) (f46_ : Option Addr → Sl → Heap → (Heap → Prop) → Prop) (w1 : Option Addr) (held2 : Sl) (o3 : Int) (o4 : Int) (o5 : Int) (o6 : Int) (o7 : Sl) (h : Heap) (K : Value → Heap → Prop) : F_law1_writes_of f10_ f12_ f21_ f22_ f23_ f24_ f25_ f26_ f27_ f40_ f41_ f42_ f43_ f44_ f45_ f46_ w1 held2 o3 o4 o5 o6 o7 h (fun (r0 : Sl) (r1 : Bool) (h : Heap) => K (.tuple #[.slice r0.ptr r0.len r0.cap, .bool r1]) h) =
    den Try.prog (fn1 10 (E_law1_Lend_of f10_) (fn1 12 (E_law1_Intact_of f12_) (fn1 21 (E_ref0_Eq_of f21_) (fn1 22 (E_code_Writer_Out_of f22_) (fn1 23 (E_code_Writer_Len_of f23_) (fn1 24 (E_code_Writer_U32_of f24_) (fn1 25 (E_ref1_U32_of f25_) (fn1 26 (E_code_Writer_Bytes_of f26_) (fn1 27 (E_ref1_Text_of f27_) (fn1 40 (E_code_Writer_U8_of f40_) (fn1 41 (E_ref1_U8_of f41_) (fn1 42 (E_code_Writer_U64_of f42_) (fn1 43 (E_ref1_U64_of f43_) (fn1 44 (E_code_Writer_Var_of f44_) (fn1 45 (E_ref1_Var_of f45_) (fn1 46 (E_code_Writer_Raw_of f46_) noFns)))))))))))))))) Try.f20.ntmps plan20 (bodyOf Try.f20) (args0 0 [(.pointer w1 : Value), (.slice held2.ptr held2.len held2.cap : Value), (.agg #[.int .i64 o3, .int .i64 o4, .int .i64 o5, .int .u64 o6, .slice o7.ptr o7.len o7.cap] : Value)]) h ⟨fun env h => dRes Try.prog Try.f20.results.toList env h K, fun _ _ _ => False, fun env h => dRes Try.prog Try.f20.results.toList env h K⟩ := by kernel_rfl
def E_law1_writes_of (f : Option Addr → Sl → Int → Int → Int → Int → Sl → Heap → (Sl → Bool → Heap → Prop) → Prop) : List Value → Heap → (Value → Heap → Prop) → Prop
  | [v0, v1, v2], h, K => dec1 .ptr v0 fun (w1 : Option Addr) =>
  dec1 .sl v1 fun (held2 : Sl) =>
  vAgg v2 fun cs2 => decs [.int .i64, .int .i64, .int .i64, .int .u64, .sl] cs2.toList fun (o3 : Int) (o4 : Int) (o5 : Int) (o6 : Int) (o7 : Sl) =>
  f w1 held2 o3 o4 o5 o6 o7 h (fun (r0 : Sl) (r1 : Bool) (h : Heap) => K (.tuple #[.slice r0.ptr r0.len r0.cap, .bool r1]) h)
  | _, _, _ => False
abbrev E_law1_writes := E_law1_writes_of F_law1_writes
theorem E_law1_writes.right : IsRight Try.prog 20 E_law1_writes := by
  refine isRight fun vs K w hh => ?_
  match vs, hh with
  | [v0, v1, v2], hh =>
    unfold E_law1_writes E_law1_writes_of at hh
    replace hh := dec1_sound hh; obtain ⟨w1, rfl, hh⟩ := hh
    replace hh := dec1_sound hh; obtain ⟨held2, rfl, hh⟩ := hh
    replace hh := vAgg_sound hh; obtain ⟨cs2, rfl, hh⟩ := hh
    replace hh := decs_cons hh; obtain ⟨o3, l2_0, e2_0, hh⟩ := hh
    replace hh := decs_cons hh; obtain ⟨o4, l2_1, e2_1, hh⟩ := hh
    replace hh := decs_cons hh; obtain ⟨o5, l2_2, e2_2, hh⟩ := hh
    replace hh := decs_cons hh; obtain ⟨o6, l2_3, e2_3, hh⟩ := hh
    replace hh := decs_cons hh; obtain ⟨o7, l2_4, e2_4, hh⟩ := hh
    replace hh := decs_nil hh; obtain ⟨rfl, hh⟩ := hh
    subst e2_4
    subst e2_3
    subst e2_2
    subst e2_1
    have ec2 := toArray_eq e2_0
    subst ec2
    unfold F_law1_writes at hh
    exact calls_den (fn1_right ok10 E_law1_Lend.right (fn1_right ok12 E_law1_Intact.right (fn1_right ok21 E_ref0_Eq.right (fn1_right ok22 E_code_Writer_Out.right (fn1_right ok23 E_code_Writer_Len.right (fn1_right ok24 E_code_Writer_U32.right (fn1_right ok25 E_ref1_U32.right (fn1_right ok26 E_code_Writer_Bytes.right (fn1_right ok27 E_ref1_Text.right (fn1_right ok40 E_code_Writer_U8.right (fn1_right ok41 E_ref1_U8.right (fn1_right ok42 E_code_Writer_U64.right (fn1_right ok43 E_ref1_U64.right (fn1_right ok44 E_code_Writer_Var.right (fn1_right ok45 E_ref1_Var.right (fn1_right ok46 E_code_Writer_Raw.right noFns_right)))))))))))))))) plan20 _ w K Try.func20 (by kernel_rfl) (by kernel_rfl) (Eq.mp (F_law1_writes.eq F_law1_Lend F_law1_Intact F_ref0_Eq F_code_Writer_Out F_code_Writer_Len F_code_Writer_U32 F_ref1_U32 F_code_Writer_Bytes F_ref1_Text F_code_Writer_U8 F_ref1_U8 F_code_Writer_U64 F_ref1_U64 F_code_Writer_Var F_ref1_Var F_code_Writer_Raw w1 held2 o3 o4 o5 o6 o7 w.heap K) hh)
theorem ok20 : okFn Try.prog 20 = true := by kernel_rfl
end Go.Proofs.Ytompmkmbppcadaa.V
namespace Go.Proofs.Ytompmkmbppcadaa.V
open Go Go.RowKit
set_option linter.unusedVariables false
set_option maxRecDepth 100000
/-! tally/tallylaw1.CodeWrites -/
def F_law1_CodeWrites.l1 (f19_ : Int → Int → Heap → (Int → Heap → Prop) → Prop) (f20_ : Option Addr → Sl → Int → Int → Int → Int → Sl → Heap → (Sl → Bool → Heap → Prop) → Prop) (Q : Bool → Heap → Prop) (a4 : Addr) (a10 : Addr) (a20 : Addr) (j22 : Heap → Prop) : Int → Heap → Prop :=
  wl [(5, .one (.int .i64))] (fun (next23 : Int → Heap → Prop) (i24 : Int) (h25 : Heap) =>
  jn [(29, .one .bool)] (fun (x28 : Bool) (h29 : Heap) =>
  brr x28
  (ld [.sl] (a4.add 2) h29 fun (v30 : Sl) =>
  ixS 5 v30 i24 fun (a31 : Addr) =>
  ld [.int .i64, .int .i64, .int .i64, .int .u64, .sl] a31 h29 fun (v32 : Int) (v33 : Int) (v34 : Int) (v35 : Int) (v36 : Sl) =>
  al 47 [.int .i64 0, .int .i64 0, .int .i64 0, .int .u64 0, .slice none 0 0] h29 fun (a37 : Addr) (h38 : Heap) =>
  st a37 [.int .i64 v32, .int .i64 v33, .int .i64 v34, .int .u64 v35, .slice v36.ptr v36.len v36.cap] h38 fun (h39 : Heap) =>
  ld [.int .i64] (a37.add 1) h39 fun (v40 : Int) =>
  f19_ v40 2 h39 fun (r41 : Int) (h42 : Heap) =>
  ixA 1 a10 2 r41 fun (a43 : Addr) =>
  ld [.ptr] a43 h42 fun (v44 : Option Addr) =>
  ixA 1 a20 2 r41 fun (a45 : Addr) =>
  ld [.sl] a45 h42 fun (v46 : Sl) =>
  ld [.int .i64, .int .i64, .int .i64, .int .u64, .sl] a37 h42 fun (v47 : Int) (v48 : Int) (v49 : Int) (v50 : Int) (v51 : Sl) =>
  f20_ v44 v46 v47 v48 v49 v50 v51 h42 fun (r52 : Sl) (r53 : Bool) (h54 : Heap) =>
  ixA 1 a20 2 r41 fun (a55 : Addr) =>
  st a55 [.slice r52.ptr r52.len r52.cap] h54 fun (h56 : Heap) =>
  brr (!r53)
  (Q false h56)
  (next23 (IntKind.i64.wrap (i24 + 1)) h56))
  (j22 h29)) (fun (j26 : Bool → Heap → Prop) =>
  ld [.sl] (a4.add 2) h25 fun (v27 : Sl) =>
  brr (decide (i24 < ((v27.len : Nat) : Int)))
  (j26 (decide (i24 < 400)) h25)
  (j26 false h25)))
def F_law1_CodeWrites_of (f18_ : Heap → (Option Addr → Heap → Prop) → Prop) (f19_ : Int → Int → Heap → (Int → Heap → Prop) → Prop) (f20_ : Option Addr → Sl → Int → Int → Int → Int → Sl → Heap → (Sl → Bool → Heap → Prop) → Prop) (f21_ : Sl → Sl → Heap → (Bool → Heap → Prop) → Prop) (f22_ : Option Addr → Heap → (Sl → Heap → Prop) → Prop) (f23_ : Option Addr → Heap → (Int → Heap → Prop) → Prop) (script1 : Sl) (script2 : Sl) (script3 : Sl) (h : Heap) (Q : Bool → Heap → Prop) : Prop :=
  al 41 [.slice script1.ptr script1.len script1.cap, .slice script2.ptr script2.len script2.cap, .slice script3.ptr script3.len script3.cap] h fun (a4 : Addr) (h5 : Heap) =>
  f18_ h5 fun (r6 : Option Addr) (h7 : Heap) =>
  f18_ h7 fun (r8 : Option Addr) (h9 : Heap) =>
  al 44 [.pointer none, .pointer none] h9 fun (a10 : Addr) (h11 : Heap) =>
  st a10 [.pointer r6, .pointer r8] h11 fun (h12 : Heap) =>
  jn [(20, .one .bool)] (fun (x18 : Bool) (h19 : Heap) =>
  brr x18
  (Q false h19)
  (al 38 [.slice none 0 0, .slice none 0 0] h19 fun (a20 : Addr) (h21 : Heap) =>
  jn [] (fun  (h57 : Heap) =>
  jn [(2, .one .bool)] (fun (x81 : Bool) (h82 : Heap) =>
  Q x81 h82) (fun (j58 : Bool → Heap → Prop) =>
  ixA 1 a10 2 0 fun (a59 : Addr) =>
  ld [.ptr] a59 h57 fun (v60 : Option Addr) =>
  ixA 1 a20 2 0 fun (a61 : Addr) =>
  ld [.sl] a61 h57 fun (v62 : Sl) =>
  f22_ v60 h57 fun (r63 : Sl) (h64 : Heap) =>
  cellsAre h64 a61 [.slice v62.ptr v62.len v62.cap] ∧
  f21_ r63 v62 h64 fun (r65 : Bool) (h66 : Heap) =>
  brr r65
  (ixA 1 a10 2 1 fun (a67 : Addr) =>
  ld [.ptr] a67 h66 fun (v68 : Option Addr) =>
  ixA 1 a20 2 1 fun (a69 : Addr) =>
  ld [.sl] a69 h66 fun (v70 : Sl) =>
  f22_ v68 h66 fun (r71 : Sl) (h72 : Heap) =>
  cellsAre h72 a69 [.slice v70.ptr v70.len v70.cap] ∧
  f21_ r71 v70 h72 fun (r73 : Bool) (h74 : Heap) =>
  brr r73
  (ixA 1 a10 2 0 fun (a75 : Addr) =>
  ld [.ptr] a75 h74 fun (v76 : Option Addr) =>
  ixA 1 a20 2 0 fun (a77 : Addr) =>
  ld [.sl] a77 h74 fun (v78 : Sl) =>
  f23_ v76 h74 fun (r79 : Int) (h80 : Heap) =>
  cellsAre h80 a77 [.slice v78.ptr v78.len v78.cap] ∧
  j58 (r79 == ((v78.len : Nat) : Int)) h80)
  (j58 false h74))
  (j58 false h66))) (fun (j22 : Heap → Prop) =>
  F_law1_CodeWrites.l1 f19_ f20_ Q a4 a10 a20 j22 0 h21))) (fun (j13 : Bool → Heap → Prop) =>
  ixA 1 a10 2 0 fun (a14 : Addr) =>
  ld [.ptr] a14 h12 fun (v15 : Option Addr) =>
  brr v15.isNone
  (j13 true h12)
  (ixA 1 a10 2 1 fun (a16 : Addr) =>
  ld [.ptr] a16 h12 fun (v17 : Option Addr) =>
  j13 v17.isNone h12))
def F_law1_CodeWrites (script1 : Sl) (script2 : Sl) (script3 : Sl) (h : Heap) (Q : Bool → Heap → Prop) : Prop := F_law1_CodeWrites_of F_code_New F_law1_into F_law1_writes F_ref0_Eq F_code_Writer_Out F_code_Writer_Len script1 script2 script3 h Q
def plan6 : Plan := .s (.r [1]) (.s (.r [1, 3]) (.s (.s (.rj [(20, .one .bool)] [1, 3]) (.c (.s (.r [2]) .z) .z)) (.s (.r [1, 3, 4]) (.s (.s (.r [1, 3, 4, 5]) (.bj [] [3, 4] (.l [(5, .one (.int .i64))] [1, 3, 4] (.s (.s (.rj [(29, .one .bool)] [1, 3, 4, 5]) (.c .z .z)) (.s (.b (.s (.r [1, 3, 4, 5, 6]) (.s (.r [1, 3, 4, 5, 6, 7]) (.s (.d [0, 1, 3, 0, 8, 24, 0, 127, 255, 511, 511, 1023, 4095] [[0, 1, 2, 3, 4, 5, 6, 7, 8, 9, 10, 11, 12]] [1, 3, 4, 5, 7, 8, 9]) (.s (.r [1, 3, 4, 5, 9]) (.s (.r [1, 3, 4, 5, 55]) (.c (.s (.r [2]) .z) .z))))))) (.r [1, 3, 4, 5])))))) (.s (.dj [0, 1, 3, 0, 8, 31, 63, 127, 255, 511, 127, 1151, 4095, 8191, 16383, 32767, 65535, 131071, 32767, 294911, 819199, 2097151, 4194303, 8388607] [[0, 1, 3, 4, 2, 5, 6, 7, 8, 10, 11, 9, 12, 13, 14, 15, 16, 18, 19, 20, 17, 21, 22, 23]] [(2, .one .bool)] []) .z)))))
theorem F_law1_CodeWrites.eq (f18_ : Heap → (Option Addr → Heap → Prop) → Prop) (f19_ : Int → Int → Heap → (Int → Heap → Prop) → Prop) (f20_ : Option Addr → Sl → Int → Int → Int → Int → Sl → Heap → (Sl → Bool → Heap → Prop) → Prop) (f21_ : Sl → Sl → Heap → (Bool → Heap → Prop) → Prop) (f22_ : Option Addr → Heap → (Sl → Heap → Prop) → Prop) (f23_ : Option Addr → Heap → (Int → Heap → Prop) → Prop) (script1 : Sl) (script2 : Sl) (script3 : Sl) (h : Heap) (K : Value → Heap → Prop) : F_law1_CodeWrites_of f18_ f19_ f20_ f21_ f22_ f23_ script1 script2 script3 h (fun (r0 : Bool) (h : Heap) => K (.bool r0) h) =
    den Try.prog (fn1 18 (E_code_New_of f18_) (fn1 19 (E_law1_into_of f19_) (fn1 20 (E_law1_writes_of f20_) (fn1 21 (E_ref0_Eq_of f21_) (fn1 22 (E_code_Writer_Out_of f22_) (fn1 23 (E_code_Writer_Len_of f23_) noFns)))))) Try.f6.ntmps plan6 (bodyOf Try.f6) (args0 0 [(.agg #[.slice script1.ptr script1.len script1.cap, .slice script2.ptr script2.len script2.cap, .slice script3.ptr script3.len script3.cap] : Value)]) h ⟨fun env h => dRes Try.prog Try.f6.results.toList env h K, fun _ _ _ => False, fun env h => dRes Try.prog Try.f6.results.toList env h K⟩ := by kernel_rfl
def E_law1_CodeWrites_of (f : Sl → Sl → Sl → Heap → (Bool → Heap → Prop) → Prop) : List Value → Heap → (Value → Heap → Prop) → Prop
  | [v0], h, K => vAgg v0 fun cs0 => decs [.sl, .sl, .sl] cs0.toList fun (script1 : Sl) (script2 : Sl) (script3 : Sl) =>
  f script1 script2 script3 h (fun (r0 : Bool) (h : Heap) => K (.bool r0) h)
  | _, _, _ => False
abbrev E_law1_CodeWrites := E_law1_CodeWrites_of F_law1_CodeWrites
theorem E_law1_CodeWrites.at (f : Sl → Sl → Sl → Heap → (Bool → Heap → Prop) → Prop) (script1 : Sl) (script2 : Sl) (script3 : Sl) (h : Heap) (K : Value → Heap → Prop) : E_law1_CodeWrites_of f [.agg ([.slice script1.ptr script1.len script1.cap, .slice script2.ptr script2.len script2.cap, .slice script3.ptr script3.len script3.cap] : List Value).toArray] h K = f script1 script2 script3 h (fun (r0 : Bool) (h : Heap) => K (.bool r0) h) := rfl
theorem E_law1_CodeWrites.right : IsRight Try.prog 6 E_law1_CodeWrites := by
  refine isRight fun vs K w hh => ?_
  match vs, hh with
  | [v0], hh =>
    unfold E_law1_CodeWrites E_law1_CodeWrites_of at hh
    replace hh := vAgg_sound hh; obtain ⟨cs0, rfl, hh⟩ := hh
    replace hh := decs_cons hh; obtain ⟨script1, l0_0, e0_0, hh⟩ := hh
    replace hh := decs_cons hh; obtain ⟨script2, l0_1, e0_1, hh⟩ := hh
    replace hh := decs_cons hh; obtain ⟨script3, l0_2, e0_2, hh⟩ := hh
    replace hh := decs_nil hh; obtain ⟨rfl, hh⟩ := hh
    subst e0_2
    subst e0_1
    have ec0 := toArray_eq e0_0
    subst ec0
    unfold F_law1_CodeWrites at hh
    exact calls_den (fn1_right ok18 E_code_New.right (fn1_right ok19 E_law1_into.right (fn1_right ok20 E_law1_writes.right (fn1_right ok21 E_ref0_Eq.right (fn1_right ok22 E_code_Writer_Out.right (fn1_right ok23 E_code_Writer_Len.right noFns_right)))))) plan6 _ w K Try.func6 (by kernel_rfl) (by kernel_rfl) (Eq.mp (F_law1_CodeWrites.eq F_code_New F_law1_into F_law1_writes F_ref0_Eq F_code_Writer_Out F_code_Writer_Len script1 script2 script3 w.heap K) hh)
theorem ok6 : okFn Try.prog 6 = true := by kernel_rfl
end Go.Proofs.Ytompmkmbppcadaa.V
/- Two Writers in turns: each holds just what was laid into it: what CodeWrites plays. -/
namespace Go.Proofs.Ytompmkmbppcadaa.V
open Go Go.RowKit
set_option linter.unusedVariables false
set_option linter.unusedSimpArgs false
structure COp where
  kind : Int
  which : Int
  m : Int
  n : Nat
  s : Sl
  b : List UInt8
abbrev tyCOp : Ty := .cons (.int .i64) (.cons (.int .i64) (.cons (.int .i64) (.cons (.int .u64) (.cons tyBytes .nil))))
abbrev tyCScript : Ty := .cons (.cons tyBytes (.cons tyBytes .nil)) (.cons (.sl 5 56 tyCOp) .nil)
def copC (o : COp) : List Value := [.int .i64 o.kind, .int .i64 o.which, .int .i64 o.m, .int .u64 o.n, .slice o.s.ptr o.s.len o.s.cap]
def copR (H : Heap) (N : Nat) (o : COp) (cs : List Value) : Prop := cs = copC o ∧ o.n < 18446744073709551616 ∧ Bytes H o.s o.b ∧ o.b.length ≤ N ∧ o.s.len ≤ o.s.cap ∧ IntKind.i64.min ≤ o.which ∧ o.which ≤ IntKind.i64.max ∧ IntKind.i64.min ≤ o.m ∧ o.m ≤ IntKind.i64.max
theorem SlN.cops {h : Heap} {N : Nat} {s : Sl} (S : SlN h N 5 56 s fun cs => Fit h N tyCOp cs) : ∃ l : List COp, View h 5 (copR h N) s l ∧ l.length ≤ N := by
  obtain ⟨h1, h2, _, xs, V⟩ := S.view (copR h N) (fun cs F => by
    obtain ⟨_, _, rfl, _, ⟨t1, rfl, t1a, t1b⟩, _, _, rfl, _, ⟨t2, rfl, t2a, t2b⟩, _, _, rfl, _, ⟨t3, rfl, t3a, t3b⟩, _, _, rfl, _, ⟨t4, rfl, t4a, t4b⟩, _, _, rfl, _, ⟨t5, rfl, t5S⟩, rfl⟩ := F
    rw [u64_min] at t4a; rw [u64_max] at t4b
    obtain ⟨hc, l, Vl, hl⟩ := t5S.bytesN
    refine ⟨⟨t1, t2, t3, t4.toNat, t5, l⟩, ?_, by show t4.toNat < _; omega, Vl, hl, hc, t2a, t2b, t3a, t3b⟩
    show _ = [_, _, _, Value.int .u64 ((t4.toNat : Nat) : Int), _]
    rw [show ((t4.toNat : Nat) : Int) = t4 by omega]
    rfl)
  exact ⟨xs, V, by rw [← V.len]; omega⟩
theorem wrap8n (n : Nat) : IntKind.u8.wrap (n : Int) = ((n % 256 : Nat) : Int) := by
  rw [wrap8_ofNat]; simp
theorem wrap32m (n : Nat) : IntKind.u32.wrap (n : Int) = ((n % 4294967296 : Nat) : Int) := by
  unfold IntKind.wrap
  simp [IntKind.bits, IntKind.signed]
section
variable {h0 h : Heap} {L : List Res}
theorem F_law1_into.is {i n : Int} {Q : Int → Heap → Prop} (hn : 0 < n) (hn2 : n < 4611686018427387904) (k : Q (i % n) h) : F_law1_into i n h Q := by
  rw [F_law1_into.eq_1, F_law1_into_of.eq_1]
  have hf := tmod_fix (a := i) hn
  have hl := tmod_lt (a := i) hn
  refine ⟨by omega, ?_⟩
  refine jn1 (fun x h' => x = i % n ∧ h' = h) ?_ ?_
  · rintro x h ⟨rfl, rfl⟩
    exact k
  · intro j hj
    refine brr_p (fun hlt => ?_) (fun hlt => ?_)
    · rw [if_pos hlt] at hf
      rw [wrap64 (by omega) (by omega)]
      exact hj _ _ ⟨hf, rfl⟩
    · rw [if_neg hlt] at hf
      exact hj _ _ ⟨hf, rfl⟩
/-- What one call lays. -/
def laid (o : COp) : List UInt8 :=
  if o.kind = 1 then fixB (o.n % 256) 1 else if o.kind = 2 then fixB (o.n % 4294967296) 4 else if o.kind = 3 then fixB o.n 8 else if o.kind = 4 then varB o.n else if o.kind = 5 then varB o.b.length ++ o.b else if o.kind = 6 then o.b else []
theorem laid_len {o : COp} (hn : o.n < 18446744073709551616) (hb : o.b.length < 18446744073709551616) : (laid o).length ≤ o.b.length + 18 := by
  unfold laid
  have h1 := (varB_le hn).1
  have h2 := (varB_le hb).1
  split
  · rw [fixB_len]; omega
  split
  · rw [fixB_len]; omega
  split
  · rw [fixB_len]; omega
  split
  · omega
  split
  · rw [List.length_append]; omega
  split
  · omega
  · simp
theorem app_held' {a : Sl} {hs : Sl} {l ys : List UInt8} {T : Nat} {K : Sl → Heap → Prop} (O : Sat h0 h (buf 1 u8 hs l :: L)) (V1 : Bytes h a ys) (hl : l.length + ys.length ≤ (70368744177664 : Nat)) (k : ∀ s h', Sat h0 h' (buf 1 u8 s (l ++ ys) :: L) → K s h') :
    app T 1 1 (.int .u8 0) hs a.ptr a.len h K :=
  O.app_buf u8_len u8_one rfl (ys := ys) V1.len (V1.rd u8_len) (by omega) fun s h' O _ => k s h' O
theorem F_law1_writes.is {w : Nat} {hs : Sl} {l : List UInt8} {o : COp} {Q : Sl → Bool → Heap → Prop} (O : Sat h0 h (wrR w l :: buf 1 u8 hs l :: L)) (ho : o.n < 18446744073709551616) (Vb : Stays h0 L fun h => Bytes h o.s o.b) (hb : o.b.length ≤ 1099511627776) (hl : l.length ≤ 35184372088832)
    (k : ∀ s h' , Sat h0 h' (wrR w (l ++ laid o) :: buf 1 u8 s (l ++ laid o) :: L) → Q s true h') : F_law1_writes (some (pt w 0)) hs o.kind o.which o.m o.n o.s h Q := by
  rw [F_law1_writes.eq_1, F_law1_writes_of.eq_1]
  have hlaid := laid_len ho (by omega)
  refine O.al fun a h O => ?_
  simp only [nn_some, pt_add, Nat.zero_add, Nat.add_zero, Nat.reduceAdd, Nat.reduceMul, Int.toNat_zero, Int.toNat_one, Nat.zero_mul, Nat.one_mul]
  refine O.ld 0 rfl (ldL_c (ldL_n ?_))
  refine F_law1_Lend.is O (Vb h O.drop.drop.drop) (by omega) fun r h O hr => ?_
  refine O.ld 1 rfl (ldL_c (ldL_n ?_))
  refine jn1 (fun (s : Sl) h' => Sat h0 h' (lent r o.b :: own a (copC o) :: wrR w (l ++ laid o) :: buf 1 u8 s (l ++ laid o) :: L)) ?_ ?_
  · clear O
    intro (s : Sl) h O
    unfold copC at O
    refine O.ld 1 rfl (ldL_c (ldL_n ?_))
    refine F_law1_Intact.is O 0 (by simp) rfl (Vb h O.drop.drop.drop.drop) (by omega) ?_
    rw [show decide (o.b = o.b) = true by simp]
    refine jn0 (fun h' => ∃ zs, Sat h0 h' (lent r zs :: own a (copC o) :: wrR w (l ++ laid o) :: buf 1 u8 s (l ++ laid o) :: L)) ?_ ?_
    · rintro h ⟨zs, O⟩
      exact k s h O.drop.drop
    · intro j hj
      rw [F_law1_writes.l1.eq_1]
      refine wl1 (k := .int .i64) (fun (m : Nat) (i : Int) (h' : Heap) => 0 ≤ i ∧ i + m = o.b.length ∧ ∃ zs : List UInt8, zs.length = o.b.length ∧ Sat h0 h' (lent r zs :: own a (copC o) :: wrR w (l ++ laid o) :: buf 1 u8 s (l ++ laid o) :: L)) ?_ (m := o.b.length) ⟨by omega, by omega, o.b, rfl, O⟩
      clear O
      intro m (i : Int) h next hn ⟨hi0, him, zs, hz, O⟩
      rw [hr]
      refine brr_p (fun hlt => ?_) (fun hlt => hj _ ⟨zs, O⟩)
      refine O.putL hi0 (by omega) 238 rfl fun h O => ?_
      rw [wrap64 (by omega) (by omega)]
      exact hn (m - 1) _ _ (by omega) ⟨by omega, by omega, _, by simp [hz], O⟩
  · intro j hj
    have fin : ∀ {s : Sl} {h : Heap} {ys}, laid o = ys → Sat h0 h (lent r o.b :: own a (copC o) :: wrR w (l ++ ys) :: buf 1 u8 s (l ++ ys) :: L) → j s h := by
      intro s h ys e O
      subst e
      exact hj s h O
    have O : Sat h0 h (lent r o.b :: own a (copC o) :: wrR w l :: buf 1 u8 hs l :: L) := O
    unfold copC at O fin
    unfold laid at fin
    refine brr_eq (fun hk => ?_) (fun hk => ?_)
    · rw [if_pos hk] at fin
      refine O.ld 1 rfl (ldL_c (ldL_n ?_))
      rw [wrap8n]
      replace O := O.sel [2, 0, 1, 3] 4 rfl (Nat.le_add_left _ _)
      simp only [selT, List.map, nth, List.drop, List.cons_append, List.nil_append] at O
      refine F_code_Writer_U8.is O (Nat.mod_lt _ (by decide)) (by omega) fun h O => ?_
      refine O.ld 2 rfl (ldL_c (ldL_n ?_))
      rw [wrap8n]
      rw [F_ref1_U8.eq_1, F_ref1_U8_of.eq_1, wrapu64 (by omega) (by omega)]
      refine F_ref1_fixed.is (size := 1) O (by decide) (by decide) (by omega) fun s2 h O => ?_
      have V2 := (O.view 0 u8_len (by simp) rfl).1
      replace O := O.sel [4, 1, 2, 3] 5 rfl (Nat.le_add_left _ _)
      simp only [selT, List.map, nth, List.drop, List.cons_append, List.nil_append] at O
      refine app_held' O V2 (by rw [fixB_len]; omega) fun s h O => ?_
      replace O := O.sel [2, 3, 1, 0] 4 rfl (Nat.le_add_left _ _)
      simp only [selT, List.map, nth, List.drop, List.cons_append, List.nil_append] at O
      exact fin rfl O
    · rw [if_neg hk] at fin
      refine jn1 (fun (s : Sl) h' => j s h') (fun _ _ h => h) fun j2 hj2 => ?_
      replace fin := fun {s : Sl} {h : Heap} {ys} (e : _ = ys) O => hj2 s h (fin (s := s) (h := h) (ys := ys) e O)
      clear hj2 hj j
      refine brr_eq (fun hk => ?_) (fun hk => ?_)
      · rw [if_pos hk] at fin
        refine O.ld 1 rfl (ldL_c (ldL_n ?_))
        rw [wrap32m]
        replace O := O.sel [2, 0, 1, 3] 4 rfl (Nat.le_add_left _ _)
        simp only [selT, List.map, nth, List.drop, List.cons_append, List.nil_append] at O
        refine F_code_Writer_U32.is O (Nat.mod_lt _ (by decide)) (by omega) fun h O => ?_
        refine O.ld 2 rfl (ldL_c (ldL_n ?_))
        rw [wrap32m]
        rw [F_ref1_U32.eq_1, F_ref1_U32_of.eq_1, wrapu64 (by omega) (by omega)]
        refine F_ref1_fixed.is (size := 4) O (by decide) (by decide) (by omega) fun s2 h O => ?_
        have V2 := (O.view 0 u8_len (by simp) rfl).1
        replace O := O.sel [4, 1, 2, 3] 5 rfl (Nat.le_add_left _ _)
        simp only [selT, List.map, nth, List.drop, List.cons_append, List.nil_append] at O
        refine app_held' O V2 (by rw [fixB_len]; omega) fun s h O => ?_
        replace O := O.sel [2, 3, 1, 0] 4 rfl (Nat.le_add_left _ _)
        simp only [selT, List.map, nth, List.drop, List.cons_append, List.nil_append] at O
        exact fin rfl O
      · rw [if_neg hk] at fin
        refine jn1 (fun (s : Sl) h' => j2 s h') (fun _ _ h => h) fun j3 hj3 => ?_
        replace fin := fun {s : Sl} {h : Heap} {ys} (e : _ = ys) O => hj3 s h (fin (s := s) (h := h) (ys := ys) e O)
        clear hj3 j2
        refine brr_eq (fun hk => ?_) (fun hk => ?_)
        · rw [if_pos hk] at fin
          refine O.ld 1 rfl (ldL_c (ldL_n ?_))
          replace O := O.sel [2, 0, 1, 3] 4 rfl (Nat.le_add_left _ _)
          simp only [selT, List.map, nth, List.drop, List.cons_append, List.nil_append] at O
          refine F_code_Writer_U64.is O (by omega) fun h O => ?_
          refine O.ld 2 rfl (ldL_c (ldL_n ?_))
          rw [F_ref1_U64.eq_1, F_ref1_U64_of.eq_1]
          refine F_ref1_fixed.is (size := 8) O (by decide) (by decide) ho fun s2 h O => ?_
          have V2 := (O.view 0 u8_len (by simp) rfl).1
          replace O := O.sel [4, 1, 2, 3] 5 rfl (Nat.le_add_left _ _)
          simp only [selT, List.map, nth, List.drop, List.cons_append, List.nil_append] at O
          refine app_held' O V2 (by rw [fixB_len]; omega) fun s h O => ?_
          replace O := O.sel [2, 3, 1, 0] 4 rfl (Nat.le_add_left _ _)
          simp only [selT, List.map, nth, List.drop, List.cons_append, List.nil_append] at O
          exact fin rfl O
        · rw [if_neg hk] at fin
          refine jn1 (fun (s : Sl) h' => j3 s h') (fun _ _ h => h) fun j4 hj4 => ?_
          replace fin := fun {s : Sl} {h : Heap} {ys} (e : _ = ys) O => hj4 s h (fin (s := s) (h := h) (ys := ys) e O)
          clear hj4 j3
          refine brr_eq (fun hk => ?_) (fun hk => ?_)
          · rw [if_pos hk] at fin
            have hv := (varB_le ho).1
            refine O.ld 1 rfl (ldL_c (ldL_n ?_))
            replace O := O.sel [2, 0, 1, 3] 4 rfl (Nat.le_add_left _ _)
            simp only [selT, List.map, nth, List.drop, List.cons_append, List.nil_append] at O
            refine F_code_Writer_Var.is O ho (by omega) fun h O => ?_
            refine O.ld 2 rfl (ldL_c (ldL_n ?_))
            refine F_ref1_Var.is O ho fun s2 h O => ?_
            have V2 := (O.view 0 u8_len (by simp) rfl).1
            replace O := O.sel [4, 1, 2, 3] 5 rfl (Nat.le_add_left _ _)
            simp only [selT, List.map, nth, List.drop, List.cons_append, List.nil_append] at O
            refine app_held' O V2 (by omega) fun s h O => ?_
            replace O := O.sel [2, 3, 1, 0] 4 rfl (Nat.le_add_left _ _)
            simp only [selT, List.map, nth, List.drop, List.cons_append, List.nil_append] at O
            exact fin rfl O
          · rw [if_neg hk] at fin
            refine jn1 (fun (s : Sl) h' => j4 s h') (fun _ _ h => h) fun j5 hj5 => ?_
            replace fin := fun {s : Sl} {h : Heap} {ys} (e : _ = ys) O => hj5 s h (fin (s := s) (h := h) (ys := ys) e O)
            clear hj5 j4
            refine brr_eq (fun hk => ?_) (fun hk => ?_)
            · rw [if_pos hk] at fin
              have hv := (varB_le (n := o.b.length) (by omega)).1
              replace O := O.sel [2, 0, 1, 3] 4 rfl (Nat.le_add_left _ _)
              simp only [selT, List.map, nth, List.drop, List.cons_append, List.nil_append] at O
              refine F_code_Writer_Bytes.is O (fun h O => (O.lent 0 (by simp) rfl).1) (by omega) fun h O => ?_
              refine O.ld 2 rfl (ldL_c (ldL_n ?_))
              refine F_ref1_Text.is O (fun h O => Vb h O.drop.drop.drop.drop) (by omega) fun s2 h O => ?_
              have V2 := (O.view 0 u8_len (by simp) rfl).1
              replace O := O.sel [4, 1, 2, 3] 5 rfl (Nat.le_add_left _ _)
              simp only [selT, List.map, nth, List.drop, List.cons_append, List.nil_append] at O
              refine app_held' O V2 (by rw [List.length_append]; omega) fun s h O => ?_
              replace O := O.sel [2, 3, 1, 0] 4 rfl (Nat.le_add_left _ _)
              simp only [selT, List.map, nth, List.drop, List.cons_append, List.nil_append] at O
              exact fin rfl O
            · rw [if_neg hk] at fin
              refine jn1 (fun (s : Sl) h' => j5 s h') (fun _ _ h => h) fun j6 hj6 => ?_
              replace fin := fun {s : Sl} {h : Heap} {ys} (e : _ = ys) O => hj6 s h (fin (s := s) (h := h) (ys := ys) e O)
              clear hj6 j5
              refine brr_eq (fun hk => ?_) (fun hk => ?_)
              · rw [if_pos hk] at fin
                replace O := O.sel [2, 0, 1, 3] 4 rfl (Nat.le_add_left _ _)
                simp only [selT, List.map, nth, List.drop, List.cons_append, List.nil_append] at O
                refine F_code_Writer_Raw.is O (O.lent 1 (by simp) rfl).1 (by omega) fun h O => ?_
                refine O.ld 2 rfl (ldL_c (ldL_n ?_))
                have V2 := Vb h O.drop.drop.drop.drop
                replace O := O.sel [3, 0, 1, 2] 4 rfl (Nat.le_add_left _ _)
                simp only [selT, List.map, nth, List.drop, List.cons_append, List.nil_append] at O
                refine app_held' O V2 (by omega) fun s h O => ?_
                replace O := O.sel [2, 3, 1, 0] 4 rfl (Nat.le_add_left _ _)
                simp only [selT, List.map, nth, List.drop, List.cons_append, List.nil_append] at O
                exact fin rfl O
              · rw [if_neg hk] at fin
                have hlz : laid o = [] := by unfold laid; simp [*]
                rw [hlz, List.append_nil] at k
                refine brr_eq (fun hk7 => ?_) (fun hk7 => ?_)
                · replace O := O.sel [2, 0, 1, 3] 4 rfl (Nat.le_add_left _ _)
                  simp only [selT, List.map, nth, List.drop, List.cons_append, List.nil_append] at O
                  refine F_code_Writer_Len.is O ?_
                  rw [(O.view 3 u8_len (by simp) rfl).1.len]
                  replace O := O.sel [0, 3] 4 rfl (Nat.le_add_left _ _)
                  simp only [selT, List.map, nth, List.drop, List.cons_append, List.nil_append] at O
                  have := k _ _ O
                  simpa using this
                · refine brr_eq (fun hk8 => ?_) (fun hk8 => ?_)
                  · replace O := O.sel [2, 0, 1, 3] 4 rfl (Nat.le_add_left _ _)
                    simp only [selT, List.map, nth, List.drop, List.cons_append, List.nil_append] at O
                    refine F_code_Writer_Out.is O (by omega) fun s h O => ?_
                    refine F_ref0_Eq.is (O.view 0 u8_len (by simp) rfl).1 (O.view 4 u8_len (by simp) rfl).1 (by omega) (by omega) ?_
                    replace O := O.sel [1, 4] 5 rfl (Nat.le_add_left _ _)
                    simp only [selT, List.map, nth, List.drop, List.cons_append, List.nil_append] at O
                    have := k _ _ O
                    simpa using this
                  · refine fin rfl ?_
                    rw [List.append_nil]
                    exact O
end
end Go.Proofs.Ytompmkmbppcadaa.V
/- Two Writers in turns: the whole play. -/
namespace Go.Proofs.Ytompmkmbppcadaa.V
open Go Go.RowKit
set_option linter.unusedVariables false
set_option linter.unusedSimpArgs false
abbrev WX := Nat × Sl × List UInt8
def wxR (x : WX) : Res := sep (wrR x.1 x.2.2) (buf 1 u8 x.2.1 x.2.2)
theorem codeWrites_main (H : Heap) (cs : List Value) (F : Fit H 1048576 tyCScript cs) : E_law1_CodeWrites [.agg cs.toArray] H (fun r h' => r = .bool true ∧ KeptH H h') := by
  obtain ⟨_, _, rfl, _, ⟨_, _, rfl, _, ⟨t1, rfl, t1S⟩, _, _, rfl, _, ⟨t2, rfl, t2S⟩, rfl⟩, _, _, rfl, _, ⟨t3, rfl, t3S⟩, rfl⟩ := F
  simp only [List.cons_append, List.nil_append, List.append_nil]
  refine Eq.mpr (E_law1_CodeWrites.at F_law1_CodeWrites t1 t2 t3 H _) ?_
  obtain ⟨ops, Vo, hol⟩ := t3S.cops
  rw [F_law1_CodeWrites.eq_1, F_law1_CodeWrites_of.eq_1]
  refine Sat.al (Sat.nil H) fun ba h1 O => ?_
  refine F_code_New.is O fun b0 h O => ?_
  refine F_code_New.is O fun b1 h O => ?_
  refine O.al fun bA h O => ?_
  refine O.st 0 rfl (by simp) rfl fun h O => ?_
  dsimp only [V.put, List.set] at O
  have O : Sat H h [own bA ([b0, b1].flatMap ptrc), wrR b1 [], wrR b0 [], own ba [.slice t1.ptr t1.len t1.cap, .slice t2.ptr t2.len t2.cap, .slice t3.ptr t3.len t3.cap]] := O
  refine jn1 (fun t h' => t = false ∧ h' = h) ?_ ?_
  · rintro t h ⟨rfl, rfl⟩
    refine brr_ff rfl ?_
    refine O.al fun bB h O => ?_
    have start : ∃ xs : List WX, xs.length = 2 ∧ (∀ x ∈ xs, x.2.2.length ≤ 0) ∧ Sat H h [many wxR xs, own bA ((xs.map (·.1)).flatMap ptrc), own bB ((xs.map (·.2.1)).flatMap slc), own ba [.slice t1.ptr t1.len t1.cap, .slice t2.ptr t2.len t2.cap, .slice t3.ptr t3.len t3.cap]] := by
      refine ⟨[(b0, ⟨none, 0, 0⟩, []), (b1, ⟨none, 0, 0⟩, [])], rfl, by intro x hx; simp at hx; rcases hx with rfl | rfl <;> simp, ?_⟩
      have O : Sat H h [own bB ([(⟨none, 0, 0⟩ : Sl), ⟨none, 0, 0⟩].flatMap slc), own bA ([b0, b1].flatMap ptrc), wrR b1 [], wrR b0 [], own ba [.slice t1.ptr t1.len t1.cap, .slice t2.ptr t2.len t2.cap, .slice t3.ptr t3.len t3.cap]] := O
      replace O := O.sel [3, 2, 1, 0, 4] 5 rfl (Nat.le_add_left _ _)
      simp only [selT, List.map, nth, List.drop, List.cons_append, List.nil_append] at O
      have O := (O.nil_buf (sz := 1) (enc := u8)).swap
      have O : Sat H h (wxR (b0, ⟨none, 0, 0⟩, []) :: _) := O.sepI
      have O := (O.none (f := wxR)).swap.more
      have O := O.swap
      have O := (O.nil_buf (sz := 1) (enc := u8)).swap
      have O : Sat H h (wxR (b1, ⟨none, 0, 0⟩, []) :: _) := O.sepI
      exact O.more
    clear O
    obtain ⟨xs, hx2, hxl, O⟩ := start
    refine jn0 (fun h' => ∃ xs : List WX, xs.length = 2 ∧ (∀ x ∈ xs, x.2.2.length ≤ 400 * 1048600) ∧ Sat H h' [many wxR xs, own bA ((xs.map (·.1)).flatMap ptrc), own bB ((xs.map (·.2.1)).flatMap slc), own ba [.slice t1.ptr t1.len t1.cap, .slice t2.ptr t2.len t2.cap, .slice t3.ptr t3.len t3.cap]]) ?_ ?_
    · clear O hxl hx2 xs
      rintro h ⟨xs, hx2, hxl, O⟩
      refine jn1 (fun t h' => t = true ∧ KeptH H h') ?_ ?_
      · rintro t h ⟨rfl, k⟩
        exact ⟨by first | rfl | trivial, k⟩
      · intro j hj
        obtain ⟨x0, hx0⟩ : ∃ x, xs[(0 : Int).toNat]? = some x := ⟨_, List.getElem?_eq_getElem (by rw [hx2]; decide)⟩
        obtain ⟨x1, hx1⟩ : ∃ x, xs[(1 : Int).toNat]? = some x := ⟨_, List.getElem?_eq_getElem (by rw [hx2]; decide)⟩
        have l0 := hxl _ (List.mem_of_getElem? hx0)
        have l1 := hxl _ (List.mem_of_getElem? hx1)
        refine O.getA (k := .ptr) 1 ptrc_len rfl (by simp [hx2]) (by decide) (x := x0.1) (by rw [List.getElem?_map, hx0]; rfl) (fun b => some (pt b 0)) (fun _ => rfl) ?_
        refine O.getA' (k := .sl) 2 slc_len rfl (by simp [hx2]) (by decide) (x := x0.2.1) (by rw [List.getElem?_map, hx0]; rfl) id (fun _ => rfl) fun a hca => ?_
        have O0 := (O.take _ hx0).sep
        refine F_code_Writer_Out.is O0 (by omega) fun s h O => ?_
        refine ⟨hca O 5 rfl, ?_⟩
        refine F_ref0_Eq.is (O.view 0 u8_len (by simp) rfl).1 (O.view 2 u8_len (by simp) rfl).1 (by omega) (by omega) ?_
        refine brr_tt (by simp) ?_
        have O := O.drop
        have O : Sat H h (wxR x0 :: _) := O.sepI
        have O := O.give (List.getElem?_eq_some_iff.1 hx0).1
        rw [set_same hx0] at O
        refine O.getA (k := .ptr) 1 ptrc_len rfl (by simp [hx2]) (by decide) (x := x1.1) (by rw [List.getElem?_map, hx1]; rfl) (fun b => some (pt b 0)) (fun _ => rfl) ?_
        refine O.getA' (k := .sl) 2 slc_len rfl (by simp [hx2]) (by decide) (x := x1.2.1) (by rw [List.getElem?_map, hx1]; rfl) id (fun _ => rfl) fun a hca => ?_
        have O1 := (O.take _ hx1).sep
        refine F_code_Writer_Out.is O1 (by omega) fun s h O => ?_
        refine ⟨hca O 5 rfl, ?_⟩
        refine F_ref0_Eq.is (O.view 0 u8_len (by simp) rfl).1 (O.view 2 u8_len (by simp) rfl).1 (by omega) (by omega) ?_
        refine brr_tt (by simp) ?_
        have O := O.drop
        have O : Sat H h (wxR x1 :: _) := O.sepI
        have O := O.give (List.getElem?_eq_some_iff.1 hx1).1
        rw [set_same hx1] at O
        refine O.getA (k := .ptr) 1 ptrc_len rfl (by simp [hx2]) (by decide) (x := x0.1) (by rw [List.getElem?_map, hx0]; rfl) (fun b => some (pt b 0)) (fun _ => rfl) ?_
        refine O.getA' (k := .sl) 2 slc_len rfl (by simp [hx2]) (by decide) (x := x0.2.1) (by rw [List.getElem?_map, hx0]; rfl) id (fun _ => rfl) fun a hca => ?_
        have O0 := (O.take _ hx0).sep
        refine F_code_Writer_Len.is O0 ?_
        refine ⟨hca O0 4 rfl, ?_⟩
        refine hj _ _ ⟨?_, O0.kept⟩
        have := (O0.view 1 u8_len (by simp) rfl).1.len
        show ((x0.2.2.length : Int) == ((x0.2.1.len : Nat) : Int)) = true
        rw [this]; simp
    · intro j hj
      rw [F_law1_CodeWrites.l1.eq_1]
      simp only [nn_some, pt_add, Nat.zero_add, Nat.add_zero, Nat.reduceAdd, Nat.reduceMul, Int.toNat_zero, Int.toNat_one, Nat.zero_mul, Nat.one_mul]
      refine wl1 (k := .int .i64) (fun (m : Nat) (i : Int) (h' : Heap) => i + m = ops.length ∧ 0 ≤ i ∧ i ≤ 400 ∧ ∃ xs : List WX, xs.length = 2 ∧ (∀ x ∈ xs, (x.2.2.length : Int) ≤ i * 1048600) ∧ Sat H h' [many wxR xs, own bA ((xs.map (·.1)).flatMap ptrc), own bB ((xs.map (·.2.1)).flatMap slc), own ba [.slice t1.ptr t1.len t1.cap, .slice t2.ptr t2.len t2.cap, .slice t3.ptr t3.len t3.cap]]) ?_ (m := ops.length) ⟨by omega, by omega, by omega, xs, hx2, fun x hx => by have := hxl x hx; omega, O⟩
      clear O hxl hx2 xs
      intro m (i : Int) h2 next hn ⟨hi, hi0, hi4, xs, hx2, hxl, O⟩
      refine jn1 (fun t h' => h' = h2 ∧ (t = true → i < ops.length ∧ i < 400)) ?_ ?_
      · rintro t h2 ⟨rfl, ht⟩
        refine brr_of (fun ht' => ?_) (fun ht' => hj _ ⟨xs, hx2, fun x hx => by have := hxl x hx; omega, O⟩)
        obtain ⟨hlt, hlt4⟩ := ht ht'
        refine O.ld 3 rfl (ldL_c (ldL_n ?_))
        refine (Vo.kept O.kept).ix hi0 hlt fun a cs op hx hlen hR hc => ?_
        obtain ⟨rfl, r1, r2, r3, r4⟩ := hR
        refine ld_are hc (ldL_c (ldL_c (ldL_c (ldL_c (ldL_c (k := .sl) (x := op.s) (ldL_n ?_))))))
        refine O.al fun bo h O => ?_
        refine O.st 0 rfl (by simp) rfl fun h O => ?_
        dsimp only [V.put, List.set] at O
        refine O.ld 0 rfl (ldL_c (ldL_n ?_))
        refine F_law1_into.is (by decide) (by decide) ?_
        have n0 := Int.emod_nonneg op.which (show (2 : Int) ≠ 0 by decide)
        have n1 := Int.emod_lt_of_pos op.which (show (0 : Int) < 2 by decide)
        generalize op.which % 2 = n at *
        have hnl : n.toNat < xs.length := by omega
        obtain ⟨⟨b, hs, l⟩, hxn⟩ : ∃ x, xs[n.toNat]? = some x := ⟨_, List.getElem?_eq_getElem hnl⟩
        have hll := hxl _ (List.mem_of_getElem? hxn)
        simp only at hll
        refine O.getA (k := .ptr) 2 ptrc_len rfl (by simp [hx2]) n0 (x := b) (by rw [List.getElem?_map, hxn]; rfl) (fun b => some (pt b 0)) (fun _ => rfl) ?_
        refine O.getA (k := .sl) 3 slc_len rfl (by simp [hx2]) n0 (x := hs) (by rw [List.getElem?_map, hxn]; rfl) id (fun _ => rfl) ?_
        refine O.ld 0 rfl (ldL_c (ldL_c (ldL_c (ldL_c (ldL_c (k := .sl) (x := op.s) (ldL_n ?_))))))
        replace O := O.sel [1, 0, 2, 3, 4] 5 rfl (Nat.le_add_left _ _)
        simp only [selT, List.map, nth, List.drop, List.cons_append, List.nil_append] at O
        have O := (O.take _ hxn).sep
        simp only at O
        refine F_law1_writes.is O r1 (fun h O => r2.kept O.kept) (by omega) (by omega) fun s h O => ?_
        have hlaid := laid_len r1 (show op.b.length < 18446744073709551616 by omega)
        replace O := O.sel [5, 0, 1, 2, 4, 6] 7 rfl (Nat.le_add_left _ _)
        simp only [selT, List.map, nth, List.drop, List.cons_append, List.nil_append] at O
        refine O.putA slc_len slc_one (by simp [hx2]) n0 (by simp; omega) s rfl fun h O => ?_
        refine brr_ff rfl ?_
        replace O := O.sel [1, 2, 3, 4, 0, 5] 6 rfl (Nat.le_add_left _ _)
        simp only [selT, List.map, nth, List.drop, List.cons_append, List.nil_append] at O
        have O : Sat H h (wxR (b, s, l ++ laid op) :: hole wxR xs n.toNat :: _) := O.sepI
        have O := O.give hnl
        rw [wrap64 (by omega) (by omega)]
        refine hn (m - 1) _ _ (by omega) ⟨by omega, by omega, by omega, xs.set n.toNat (b, s, l ++ laid op), by simp [hx2], ?_, ?_⟩
        · intro x hx
          rcases List.mem_or_eq_of_mem_set hx with hx | rfl
          · have := hxl x hx; omega
          · show (((l ++ laid op).length : Nat) : Int) ≤ _
            rw [List.length_append]
            omega
        · rw [List.map_set, List.map_set]
          rw [set_same (show (xs.map (·.1))[n.toNat]? = some b by rw [List.getElem?_map, hxn]; rfl)]
          exact O
      · intro j2 hj2
        refine O.ld 3 rfl (ldL_c (ldL_n ?_))
        rw [Vo.len]
        refine brr_p (fun hlt => ?_) (fun hlt => ?_)
        · exact hj2 _ _ ⟨rfl, fun e => ⟨hlt, by simpa using e⟩⟩
        · exact hj2 _ _ ⟨rfl, fun e => by cases e⟩
  · intro j hj
    refine O.getA (k := .ptr) 0 ptrc_len rfl rfl (by decide) (x := b0) rfl (fun b => some (pt b 0)) (fun _ => rfl) ?_
    refine brr_ff rfl ?_
    refine O.getA (k := .ptr) 0 ptrc_len rfl rfl (by decide) (x := b1) rfl (fun b => some (pt b 0)) (fun _ => rfl) ?_
    exact hj _ _ ⟨rfl, rfl⟩
end Go.Proofs.Ytompmkmbppcadaa.V
namespace Go.Proofs.Ytompmkmbppcadaa.V
open Go Go.RowKit
set_option linter.unusedVariables false
set_option maxRecDepth 100000
/-! tally/code.Read -/
def F_code_Read_of (f48_ : Sl → Heap → (Sl → Heap → Prop) → Prop) (b1 : Sl) (h : Heap) (Q : Option Addr → Heap → Prop) : Prop :=
  f48_ b1 h fun (r2 : Sl) (h3 : Heap) =>
  al 101 [.slice r2.ptr r2.len r2.cap, .int .i64 0, .int .i64 0] h3 fun (a4 : Addr) (h5 : Heap) =>
  Q (some a4) h5
def F_code_Read (b1 : Sl) (h : Heap) (Q : Option Addr → Heap → Prop) : Prop := F_code_Read_of F_code_taken b1 h Q
def plan28 : Plan := .s (.r [0]) (.s (.r [2]) .z)
theorem F_code_Read.eq (f48_ : Sl → Heap → (Sl → Heap → Prop) → Prop) (b1 : Sl) (h : Heap) (K : Value → Heap → Prop) : F_code_Read_of f48_ b1 h (fun (r0 : Option Addr) (h : Heap) => K (.pointer r0) h) =
    den Try.prog (fn1 48 (E_code_taken_of f48_) noFns) Try.f28.ntmps plan28 (bodyOf Try.f28) (args0 0 [(.slice b1.ptr b1.len b1.cap : Value)]) h ⟨fun env h => dRes Try.prog Try.f28.results.toList env h K, fun _ _ _ => False, fun env h => dRes Try.prog Try.f28.results.toList env h K⟩ := by kernel_rfl
def E_code_Read_of (f : Sl → Heap → (Option Addr → Heap → Prop) → Prop) : List Value → Heap → (Value → Heap → Prop) → Prop
  | [v0], h, K => dec1 .sl v0 fun (b1 : Sl) =>
  f b1 h (fun (r0 : Option Addr) (h : Heap) => K (.pointer r0) h)
  | _, _, _ => False
abbrev E_code_Read := E_code_Read_of F_code_Read
theorem E_code_Read.right : IsRight Try.prog 28 E_code_Read := by
  refine isRight fun vs K w hh => ?_
  match vs, hh with
  | [v0], hh =>
    unfold E_code_Read E_code_Read_of at hh
    replace hh := dec1_sound hh; obtain ⟨b1, rfl, hh⟩ := hh
    unfold F_code_Read at hh
    exact calls_den (fn1_right ok48 E_code_taken.right noFns_right) plan28 _ w K Try.func28 (by kernel_rfl) (by kernel_rfl) (Eq.mp (F_code_Read.eq F_code_taken b1 w.heap K) hh)
theorem ok28 : okFn Try.prog 28 = true := by kernel_rfl
end Go.Proofs.Ytompmkmbppcadaa.V
namespace Go.Proofs.Ytompmkmbppcadaa.V
open Go Go.RowKit
set_option linter.unusedVariables false
set_option maxRecDepth 100000
/-! (*tally/code.Reader).Left -/
def F_code_Reader_Left_of  (r1 : Option Addr) (h : Heap) (Q : Int → Heap → Prop) : Prop :=
  nn r1 fun (a2 : Addr) =>
  ld [.sl] (a2.add 0) h fun (v3 : Sl) =>
  nn r1 fun (a4 : Addr) =>
  ld [.int .i64] (a4.add 1) h fun (v5 : Int) =>
  Q (IntKind.i64.wrap (((v3.len : Nat) : Int) - v5)) h
def F_code_Reader_Left (r1 : Option Addr) (h : Heap) (Q : Int → Heap → Prop) : Prop := F_code_Reader_Left_of  r1 h Q
def plan30 : Plan := .s (.r [0]) (.s (.d [0, 1, 3, 7, 15, 0, 32, 96, 224, 511, 1023] [[0, 1, 2, 3, 4, 5, 6, 7, 8, 9, 10]] [2]) .z)
theorem F_code_Reader_Left.eq  (r1 : Option Addr) (h : Heap) (K : Value → Heap → Prop) : F_code_Reader_Left_of  r1 h (fun (r0 : Int) (h : Heap) => K (.int .i64 r0) h) =
    den Try.prog noFns Try.f30.ntmps plan30 (bodyOf Try.f30) (args0 0 [(.pointer r1 : Value)]) h ⟨fun env h => dRes Try.prog Try.f30.results.toList env h K, fun _ _ _ => False, fun env h => dRes Try.prog Try.f30.results.toList env h K⟩ := by kernel_rfl
def E_code_Reader_Left_of (f : Option Addr → Heap → (Int → Heap → Prop) → Prop) : List Value → Heap → (Value → Heap → Prop) → Prop
  | [v0], h, K => dec1 .ptr v0 fun (r1 : Option Addr) =>
  f r1 h (fun (r0 : Int) (h : Heap) => K (.int .i64 r0) h)
  | _, _, _ => False
abbrev E_code_Reader_Left := E_code_Reader_Left_of F_code_Reader_Left
theorem E_code_Reader_Left.right : IsRight Try.prog 30 E_code_Reader_Left := by
  refine isRight fun vs K w hh => ?_
  match vs, hh with
  | [v0], hh =>
    unfold E_code_Reader_Left E_code_Reader_Left_of at hh
    replace hh := dec1_sound hh; obtain ⟨r1, rfl, hh⟩ := hh
    unfold F_code_Reader_Left at hh
    exact calls_den noFns_right plan30 _ w K Try.func30 (by kernel_rfl) (by kernel_rfl) (Eq.mp (F_code_Reader_Left.eq  r1 w.heap K) hh)
theorem ok30 : okFn Try.prog 30 = true := by kernel_rfl
end Go.Proofs.Ytompmkmbppcadaa.V
namespace Go.Proofs.Ytompmkmbppcadaa.V
open Go Go.RowKit
set_option linter.unusedVariables false
set_option maxRecDepth 100000
/-! (*tally/code.Reader).stop -/
def F_code_Reader_stop_of  (r1 : Option Addr) (at_2 : Int) (what3 : Int) (h : Heap) (Q : Heap → Prop) : Prop :=
  nn r1 fun (a4 : Addr) =>
  st (a4.add 1) [.int .i64 at_2] h fun (h5 : Heap) =>
  nn r1 fun (a6 : Addr) =>
  st (a6.add 2) [.int .i64 what3] h5 fun (h7 : Heap) =>
  Q h7
def F_code_Reader_stop (r1 : Option Addr) (at_2 : Int) (what3 : Int) (h : Heap) (Q : Heap → Prop) : Prop := F_code_Reader_stop_of  r1 at_2 what3 h Q
def plan53 : Plan := .r []
theorem F_code_Reader_stop.eq  (r1 : Option Addr) (at_2 : Int) (what3 : Int) (h : Heap) (K : Value → Heap → Prop) : F_code_Reader_stop_of  r1 at_2 what3 h (fun  (h : Heap) => K (.tuple #[]) h) =
    den Try.prog noFns Try.f53.ntmps plan53 (bodyOf Try.f53) (args0 0 [(.pointer r1 : Value), (.int .i64 at_2 : Value), (.int .i64 what3 : Value)]) h ⟨fun env h => dRes Try.prog Try.f53.results.toList env h K, fun _ _ _ => False, fun env h => dRes Try.prog Try.f53.results.toList env h K⟩ := by kernel_rfl
def E_code_Reader_stop_of (f : Option Addr → Int → Int → Heap → (Heap → Prop) → Prop) : List Value → Heap → (Value → Heap → Prop) → Prop
  | [v0, v1, v2], h, K => dec1 .ptr v0 fun (r1 : Option Addr) =>
  dec1 (.int .i64) v1 fun (at_2 : Int) =>
  dec1 (.int .i64) v2 fun (what3 : Int) =>
  f r1 at_2 what3 h (fun  (h : Heap) => K (.tuple #[]) h)
  | _, _, _ => False
abbrev E_code_Reader_stop := E_code_Reader_stop_of F_code_Reader_stop
theorem E_code_Reader_stop.right : IsRight Try.prog 53 E_code_Reader_stop := by
  refine isRight fun vs K w hh => ?_
  match vs, hh with
  | [v0, v1, v2], hh =>
    unfold E_code_Reader_stop E_code_Reader_stop_of at hh
    replace hh := dec1_sound hh; obtain ⟨r1, rfl, hh⟩ := hh
    replace hh := dec1_sound hh; obtain ⟨at_2, rfl, hh⟩ := hh
    replace hh := dec1_sound hh; obtain ⟨what3, rfl, hh⟩ := hh
    unfold F_code_Reader_stop at hh
    exact calls_den noFns_right plan53 _ w K Try.func53 (by kernel_rfl) (by kernel_rfl) (Eq.mp (F_code_Reader_stop.eq  r1 at_2 what3 w.heap K) hh)
theorem ok53 : okFn Try.prog 53 = true := by kernel_rfl
end Go.Proofs.Ytompmkmbppcadaa.V
namespace Go.Proofs.Ytompmkmbppcadaa.V
open Go Go.RowKit
set_option linter.unusedVariables false
set_option maxRecDepth 100000
/-! (*tally/code.Reader).next -/
def F_code_Reader_next_of (f30_ : Option Addr → Heap → (Int → Heap → Prop) → Prop) (f53_ : Option Addr → Int → Int → Heap → (Heap → Prop) → Prop) (r1 : Option Addr) (n2 : Int) (h : Heap) (Q : Sl → Heap → Prop) : Prop :=
  nn r1 fun (a3 : Addr) =>
  ld [.int .i64] (a3.add 2) h fun (v4 : Int) =>
  brr (v4 != 0)
  (Q (⟨none, 0, 0⟩ : Sl) h)
  (f30_ r1 h fun (r5 : Int) (h6 : Heap) =>
  brr (decide (n2 > r5))
  (nn r1 fun (a7 : Addr) =>
  ld [.int .i64] (a7.add 1) h6 fun (v8 : Int) =>
  f53_ r1 v8 1 h6 fun  (h9 : Heap) =>
  Q (⟨none, 0, 0⟩ : Sl) h9)
  (nn r1 fun (a10 : Addr) =>
  ld [.sl] (a10.add 0) h6 fun (v11 : Sl) =>
  nn r1 fun (a12 : Addr) =>
  ld [.int .i64] (a12.add 1) h6 fun (v13 : Int) =>
  nn r1 fun (a14 : Addr) =>
  ld [.int .i64] (a14.add 1) h6 fun (v15 : Int) =>
  slFT 1 v11 v13 (IntKind.i64.wrap (v15 + n2)) fun (s16 : Sl) =>
  nn r1 fun (a17 : Addr) =>
  ld [.int .i64] (a17.add 1) h6 fun (v18 : Int) =>
  nn r1 fun (a19 : Addr) =>
  st (a19.add 1) [.int .i64 (IntKind.i64.wrap (v18 + n2))] h6 fun (h20 : Heap) =>
  Q s16 h20))
def F_code_Reader_next (r1 : Option Addr) (n2 : Int) (h : Heap) (Q : Sl → Heap → Prop) : Prop := F_code_Reader_next_of F_code_Reader_Left F_code_Reader_stop r1 n2 h Q
def plan54 : Plan := .s (.r [0, 1]) (.s (.b (.s (.r [0, 1, 6]) (.c (.s (.r [4]) .z) (.s (.r [0, 1, 12]) (.c (.s (.r []) (.s (.r [4]) .z)) .z))))) (.s (.d [0, 1, 3, 7, 0, 16, 48, 112, 0, 256, 768, 1792, 0, 7936, 16383, 32767] [[0, 1, 2, 3, 4, 5, 6, 7, 8, 9, 10, 11, 12, 13, 14, 15]] [0, 1, 5]) (.s (.r [5]) (.s (.r [4]) .z))))
theorem F_code_Reader_next.eq (f30_ : Option Addr → Heap → (Int → Heap → Prop) → Prop) (f53_ : Option Addr → Int → Int → Heap → (Heap → Prop) → Prop) (r1 : Option Addr) (n2 : Int) (h : Heap) (K : Value → Heap → Prop) : F_code_Reader_next_of f30_ f53_ r1 n2 h (fun (r0 : Sl) (h : Heap) => K (.slice r0.ptr r0.len r0.cap) h) =
    den Try.prog (fn1 30 (E_code_Reader_Left_of f30_) (fn1 53 (E_code_Reader_stop_of f53_) noFns)) Try.f54.ntmps plan54 (bodyOf Try.f54) (args0 0 [(.pointer r1 : Value), (.int .i64 n2 : Value)]) h ⟨fun env h => dRes Try.prog Try.f54.results.toList env h K, fun _ _ _ => False, fun env h => dRes Try.prog Try.f54.results.toList env h K⟩ := by kernel_rfl
def E_code_Reader_next_of (f : Option Addr → Int → Heap → (Sl → Heap → Prop) → Prop) : List Value → Heap → (Value → Heap → Prop) → Prop
  | [v0, v1], h, K => dec1 .ptr v0 fun (r1 : Option Addr) =>
  dec1 (.int .i64) v1 fun (n2 : Int) =>
  f r1 n2 h (fun (r0 : Sl) (h : Heap) => K (.slice r0.ptr r0.len r0.cap) h)
  | _, _, _ => False
abbrev E_code_Reader_next := E_code_Reader_next_of F_code_Reader_next
theorem E_code_Reader_next.right : IsRight Try.prog 54 E_code_Reader_next := by
  refine isRight fun vs K w hh => ?_
  match vs, hh with
  | [v0, v1], hh =>
    unfold E_code_Reader_next E_code_Reader_next_of at hh
    replace hh := dec1_sound hh; obtain ⟨r1, rfl, hh⟩ := hh
    replace hh := dec1_sound hh; obtain ⟨n2, rfl, hh⟩ := hh
    unfold F_code_Reader_next at hh
    exact calls_den (fn1_right ok30 E_code_Reader_Left.right (fn1_right ok53 E_code_Reader_stop.right noFns_right)) plan54 _ w K Try.func54 (by kernel_rfl) (by kernel_rfl) (Eq.mp (F_code_Reader_next.eq F_code_Reader_Left F_code_Reader_stop r1 n2 w.heap K) hh)
theorem ok54 : okFn Try.prog 54 = true := by kernel_rfl
end Go.Proofs.Ytompmkmbppcadaa.V
namespace Go.Proofs.Ytompmkmbppcadaa.V
open Go Go.RowKit
set_option linter.unusedVariables false
set_option maxRecDepth 100000
/-! (*tally/code.Reader).fixed -/
def F_code_Reader_fixed.l1 (r3 : Sl) (j5 : Int → Heap → Prop) : Int → Int → Heap → Prop :=
  wl [(5, .one (.int .u64)), (12, .one (.int .i64))] (fun (next6 : Int → Int → Heap → Prop) (n7 : Int) (x8 : Int) (h9 : Heap) =>
  brr (decide (x8 < ((r3.len : Nat) : Int)))
  (ixS 1 r3 x8 fun (a10 : Addr) =>
  ld [.int .u8] a10 h9 fun (v11 : Int) =>
  0 ≤ (8 : Int) ∧
  next6 (IntKind.u64.wrap (BitVec.ofInt IntKind.u64.bits (IntKind.u64.wrap (n7 * 2 ^ min (8 : Int).toNat IntKind.u64.bits)) ||| BitVec.ofInt IntKind.u64.bits (IntKind.u64.wrap v11)).toNat) (IntKind.i64.wrap (x8 + 1)) h9)
  (j5 n7 h9))
def F_code_Reader_fixed_of (f54_ : Option Addr → Int → Heap → (Sl → Heap → Prop) → Prop) (r1 : Option Addr) (size2 : Int) (h : Heap) (Q : Int → Heap → Prop) : Prop :=
  f54_ r1 size2 h fun (r3 : Sl) (h4 : Heap) =>
  jn [(5, .one (.int .u64))] (fun (n12 : Int) (h13 : Heap) =>
  Q n12 h13) (fun (j5 : Int → Heap → Prop) =>
  F_code_Reader_fixed.l1 r3 j5 0 0 h4)
def F_code_Reader_fixed (r1 : Option Addr) (size2 : Int) (h : Heap) (Q : Int → Heap → Prop) : Prop := F_code_Reader_fixed_of F_code_Reader_next r1 size2 h Q
def plan51 : Plan := .s (.r [0, 1]) (.s (.r [0, 1, 5]) (.s (.s (.r [5, 10, 11, 12]) (.bj [(5, .one (.int .u64))] [] (.l [(5, .one (.int .u64)), (12, .one (.int .i64))] [10, 11] (.s (.r [5, 10, 11, 12, 13]) (.s (.c .z .z) (.s (.b (.s (.r [5, 7, 10, 11, 12]) (.r [5, 10, 11, 12]))) (.r [5, 10, 11, 12]))))))) (.s (.r [4]) .z)))
theorem F_code_Reader_fixed.eq (f54_ : Option Addr → Int → Heap → (Sl → Heap → Prop) → Prop) (r1 : Option Addr) (size2 : Int) (h : Heap) (K : Value → Heap → Prop) : F_code_Reader_fixed_of f54_ r1 size2 h (fun (r0 : Int) (h : Heap) => K (.int .u64 r0) h) =
    den Try.prog (fn1 54 (E_code_Reader_next_of f54_) noFns) Try.f51.ntmps plan51 (bodyOf Try.f51) (args0 0 [(.pointer r1 : Value), (.int .i64 size2 : Value)]) h ⟨fun env h => dRes Try.prog Try.f51.results.toList env h K, fun _ _ _ => False, fun env h => dRes Try.prog Try.f51.results.toList env h K⟩ := by kernel_rfl
def E_code_Reader_fixed_of (f : Option Addr → Int → Heap → (Int → Heap → Prop) → Prop) : List Value → Heap → (Value → Heap → Prop) → Prop
  | [v0, v1], h, K => dec1 .ptr v0 fun (r1 : Option Addr) =>
  dec1 (.int .i64) v1 fun (size2 : Int) =>
  f r1 size2 h (fun (r0 : Int) (h : Heap) => K (.int .u64 r0) h)
  | _, _, _ => False
abbrev E_code_Reader_fixed := E_code_Reader_fixed_of F_code_Reader_fixed
theorem E_code_Reader_fixed.right : IsRight Try.prog 51 E_code_Reader_fixed := by
  refine isRight fun vs K w hh => ?_
  match vs, hh with
  | [v0, v1], hh =>
    unfold E_code_Reader_fixed E_code_Reader_fixed_of at hh
    replace hh := dec1_sound hh; obtain ⟨r1, rfl, hh⟩ := hh
    replace hh := dec1_sound hh; obtain ⟨size2, rfl, hh⟩ := hh
    unfold F_code_Reader_fixed at hh
    exact calls_den (fn1_right ok54 E_code_Reader_next.right noFns_right) plan51 _ w K Try.func51 (by kernel_rfl) (by kernel_rfl) (Eq.mp (F_code_Reader_fixed.eq F_code_Reader_next r1 size2 w.heap K) hh)
theorem ok51 : okFn Try.prog 51 = true := by kernel_rfl
end Go.Proofs.Ytompmkmbppcadaa.V
namespace Go.Proofs.Ytompmkmbppcadaa.V
open Go Go.RowKit
set_option linter.unusedVariables false
set_option maxRecDepth 100000
/-! (*tally/code.Reader).U32 -/
def F_code_Reader_U32_of (f51_ : Option Addr → Int → Heap → (Int → Heap → Prop) → Prop) (r1 : Option Addr) (h : Heap) (Q : Int → Heap → Prop) : Prop :=
  f51_ r1 4 h fun (r2 : Int) (h3 : Heap) =>
  Q (IntKind.u32.wrap r2) h3
def F_code_Reader_U32 (r1 : Option Addr) (h : Heap) (Q : Int → Heap → Prop) : Prop := F_code_Reader_U32_of F_code_Reader_fixed r1 h Q
def plan29 : Plan := .s (.r [0]) (.s (.r [2]) .z)
theorem F_code_Reader_U32.eq (f51_ : Option Addr → Int → Heap → (Int → Heap → Prop) → Prop) (r1 : Option Addr) (h : Heap) (K : Value → Heap → Prop) : F_code_Reader_U32_of f51_ r1 h (fun (r0 : Int) (h : Heap) => K (.int .u32 r0) h) =
    den Try.prog (fn1 51 (E_code_Reader_fixed_of f51_) noFns) Try.f29.ntmps plan29 (bodyOf Try.f29) (args0 0 [(.pointer r1 : Value)]) h ⟨fun env h => dRes Try.prog Try.f29.results.toList env h K, fun _ _ _ => False, fun env h => dRes Try.prog Try.f29.results.toList env h K⟩ := by kernel_rfl
def E_code_Reader_U32_of (f : Option Addr → Heap → (Int → Heap → Prop) → Prop) : List Value → Heap → (Value → Heap → Prop) → Prop
  | [v0], h, K => dec1 .ptr v0 fun (r1 : Option Addr) =>
  f r1 h (fun (r0 : Int) (h : Heap) => K (.int .u32 r0) h)
  | _, _, _ => False
abbrev E_code_Reader_U32 := E_code_Reader_U32_of F_code_Reader_U32
theorem E_code_Reader_U32.right : IsRight Try.prog 29 E_code_Reader_U32 := by
  refine isRight fun vs K w hh => ?_
  match vs, hh with
  | [v0], hh =>
    unfold E_code_Reader_U32 E_code_Reader_U32_of at hh
    replace hh := dec1_sound hh; obtain ⟨r1, rfl, hh⟩ := hh
    unfold F_code_Reader_U32 at hh
    exact calls_den (fn1_right ok51 E_code_Reader_fixed.right noFns_right) plan29 _ w K Try.func29 (by kernel_rfl) (by kernel_rfl) (Eq.mp (F_code_Reader_U32.eq F_code_Reader_fixed r1 w.heap K) hh)
theorem ok29 : okFn Try.prog 29 = true := by kernel_rfl
end Go.Proofs.Ytompmkmbppcadaa.V
/- The program's Reader: its beginning, numbers of fixed size, how much is left. -/
namespace Go.Proofs.Ytompmkmbppcadaa.V
open Go Go.RowKit
set_option linter.unusedVariables false
set_option linter.unusedSimpArgs false
/-- What a Reader keeps. -/
structure RS where
  b : List UInt8
  at_ : Nat
  met : Nat
structure RS.Ok (r : RS) : Prop where
  le : r.at_ ≤ r.b.length
  len : r.b.length ≤ 140737488355328
  met : r.met ≤ 4
def rdC (r : RS) (s : Sl) : List Value := [.slice s.ptr s.len s.cap, .int .i64 (r.at_ : Int), .int .i64 (r.met : Int)]
def rdR (p : Nat) (r : RS) : Res := ex fun s : Sl => sep (own p (rdC r s)) (buf 1 u8 s r.b)
theorem Sat.rd_ {h0 h : Heap} {L : List Res} {p : Nat} {r : RS} (O : Sat h0 h (rdR p r :: L)) : ∃ s : Sl, Sat h0 h (own p (rdC r s) :: buf 1 u8 s r.b :: L) := by
  obtain ⟨s, O⟩ := O.ex
  exact ⟨s, O.sep⟩
theorem Sat.rdI {h0 h : Heap} {L : List Res} {p : Nat} {r : RS} {s : Sl} (O : Sat h0 h (own p (rdC r s) :: buf 1 u8 s r.b :: L)) : Sat h0 h (rdR p r :: L) := O.sepI.exI s
def RS.left (r : RS) : Nat := r.b.length - r.at_
/-- So many bytes are taken, or a fault is noted. -/
def RS.next (r : RS) (n : Nat) : RS := if r.met ≠ 0 then r else if n > r.left then { r with met := 1 } else { r with at_ := r.at_ + n }
def RS.nextB (r : RS) (n : Nat) : List UInt8 := if r.met ≠ 0 then [] else if n > r.left then [] else (r.b.drop r.at_).take n
theorem RS.Ok.next {r : RS} (o : r.Ok) (n : Nat) : (r.next n).Ok := by
  unfold RS.next
  have := o.le
  split
  · exact o
  · split
    · exact ⟨o.le, o.len, by show 1 ≤ 4; decide⟩
    · refine ⟨?_, o.len, o.met⟩
      show r.at_ + n ≤ r.b.length
      unfold RS.left at *
      omega
def beN (l : List UInt8) : Nat := l.foldl (fun n c => n * 256 + c.toNat) 0
theorem beN_snoc (l : List UInt8) (c : UInt8) : beN (l ++ [c]) = beN l * 256 + c.toNat := by simp [beN]
theorem beN_lt (l : List UInt8) : beN l < 256 ^ l.length := by
  have key : ∀ n (l : List UInt8), l.length = n → beN l < 256 ^ n := by
    intro n
    induction n with
    | zero => intro l hl; have := List.length_eq_zero_iff.1 hl; subst this; simp [beN]
    | succ n ih =>
      intro l hl
      have e := List.dropLast_concat_getLast (l := l) (by intro e; subst e; simp at hl)
      rw [← e, beN_snoc, Nat.pow_succ]
      have := (l.getLast (by intro e; subst e; simp at hl)).toNat_lt
      have := ih l.dropLast (by simp [hl])
      omega
  exact key _ l rfl
section
variable {h0 h : Heap} {L : List Res} {p : Nat} {r : RS}
theorem F_code_Read.is {a : Sl} {xs : List UInt8} {Q : Option Addr → Heap → Prop} (O : Sat h0 h L) (V1 : Bytes h a xs) (hl : xs.length ≤ 140737488355328) (k : ∀ p h', Sat h0 h' (rdR p ⟨xs, 0, 0⟩ :: L) → Q (some (pt p 0)) h') : F_code_Read a h Q := by
  rw [F_code_Read.eq_1, F_code_Read_of.eq_1]
  refine F_code_taken.is O V1 (by omega) fun s h O _ _ => ?_
  refine O.al fun p h O => ?_
  exact k p h (Sat.rdI (r := ⟨xs, 0, 0⟩) O)
theorem F_code_Reader_Left.is {Q : Int → Heap → Prop} (o : r.Ok) (O : Sat h0 h (rdR p r :: L)) (k : Q (r.left : Nat) h) : F_code_Reader_Left (some (pt p 0)) h Q := by
  rw [F_code_Reader_Left.eq_1, F_code_Reader_Left_of.eq_1]
  simp only [nn_some, pt_add, Nat.zero_add, Nat.add_zero, Nat.reduceAdd, Nat.reduceMul, Int.toNat_zero, Int.toNat_one, Nat.zero_mul, Nat.one_mul]
  obtain ⟨s, O⟩ := O.rd_
  have hv := (O.view 1 u8_len (by simp) rfl).1.len
  unfold rdC at O
  refine O.ld 0 rfl (ldL_c (ldL_n ?_))
  refine O.ld 0 rfl (ldL_c (ldL_n ?_))
  rw [hv]
  have h1 := o.le; have h2 := o.len
  rw [wrap64 (by omega) (by omega)]
  unfold RS.left at k
  rw [show ((r.b.length : Int) - (r.at_ : Int)) = ((r.b.length - r.at_ : Nat) : Int) by omega]
  exact k
theorem F_code_Reader_stop.is {a : Nat} {m : Nat} {Q : Heap → Prop} (O : Sat h0 h (rdR p r :: L)) (k : ∀ h', Sat h0 h' (rdR p { r with at_ := a, met := m } :: L) → Q h') : F_code_Reader_stop (some (pt p 0)) (a : Int) (m : Int) h Q := by
  rw [F_code_Reader_stop.eq_1, F_code_Reader_stop_of.eq_1]
  simp only [nn_some, pt_add, Nat.zero_add, Nat.add_zero, Nat.reduceAdd, Nat.reduceMul, Int.toNat_zero, Int.toNat_one, Nat.zero_mul, Nat.one_mul]
  obtain ⟨s, O⟩ := O.rd_
  unfold rdC at O
  refine O.st 0 rfl (by simp) rfl fun h O => ?_
  dsimp only [V.put, List.set] at O
  refine O.st 0 rfl (by simp) rfl fun h O => ?_
  dsimp only [V.put, List.set] at O
  exact k _ (Sat.rdI (r := { r with at_ := a, met := m }) (s := s) O)
theorem F_code_Reader_next.is {n : Nat} {Q : Sl → Heap → Prop} (o : r.Ok) (hn : n < 9223372036854775808) (O : Sat h0 h (rdR p r :: L)) (k : ∀ s h', Sat h0 h' (rdR p (r.next n) :: L) → Bytes h' s (r.nextB n) → Q s h') : F_code_Reader_next (some (pt p 0)) n h Q := by
  rw [F_code_Reader_next.eq_1, F_code_Reader_next_of.eq_1]
  simp only [nn_some, pt_add, Nat.zero_add, Nat.add_zero, Nat.reduceAdd, Nat.reduceMul, Int.toNat_zero, Int.toNat_one, Nat.zero_mul, Nat.one_mul]
  have h1 := o.le; have h2 := o.len
  unfold RS.next RS.nextB at k
  obtain ⟨s, O⟩ := O.rd_
  have O1 := O
  unfold rdC at O1
  refine O1.ld 0 rfl (ldL_c (ldL_n ?_))
  refine brr_ne (fun hm => ?_) (fun hm => ?_)
  · have hm : r.met ≠ 0 := by omega
    rw [if_pos hm, if_pos hm] at k
    exact k _ _ O.rdI View.nil
  · have hm : ¬ r.met ≠ 0 := by omega
    rw [if_neg hm, if_neg hm] at k
    refine F_code_Reader_Left.is o O.rdI ?_
    refine brr_p (fun hg => ?_) (fun hg => ?_)
    · have hg : n > r.left := by omega
      rw [if_pos hg, if_pos hg] at k
      refine O1.ld 0 rfl (ldL_c (ldL_n ?_))
      refine F_code_Reader_stop.is (a := r.at_) (m := 1) O.rdI fun h O => ?_
      exact k _ _ O View.nil
    · have hg : ¬ n > r.left := by omega
      rw [if_neg hg, if_neg hg] at k
      unfold RS.left at hg
      refine O1.ld 0 rfl (ldL_c (k := .sl) (x := s) (ldL_n ?_))
      refine O1.ld 0 rfl (ldL_c (ldL_n ?_))
      refine O1.ld 0 rfl (ldL_c (ldL_n ?_))
      have hv := O.view 1 u8_len (by simp) rfl
      have hsl := hv.1.len
      rw [wrap64 (by omega) (by omega)]
      refine ⟨by omega, by omega, by omega, ?_⟩
      refine O1.ld 0 rfl (ldL_c (ldL_n ?_))
      rw [wrap64 (by omega) (by omega)]
      unfold rdC at O
      refine O.st 0 rfl (by simp) rfl fun h O => ?_
      dsimp only [V.put, List.set] at O
      have V2 := (O.view 1 u8_len (by simp) rfl)
      refine k _ _ (Sat.rdI (r := { r with at_ := r.at_ + n }) (s := s) ?_) ?_
      · unfold rdC
        rw [show (((r.at_ + n : Nat)) : Int) = (r.at_ : Int) + n by omega]
        exact O
      · have := V2.1.slice r.at_ (r.at_ + n) (s.cap - r.at_) (by omega) (by omega) V2.2
        rw [show r.at_ + n - r.at_ = n by omega] at this
        rw [show ((r.at_ : Int) + n).toNat - (r.at_ : Int).toNat = n by omega, show (r.at_ : Int).toNat = r.at_ by omega]
        exact this
theorem or8 (n : Nat) (c : UInt8) (hn : n < 72057594037927936) : IntKind.u64.wrap (BitVec.ofInt IntKind.u64.bits (IntKind.u64.wrap ((n : Int) * 2 ^ min (8 : Int).toNat IntKind.u64.bits)) ||| BitVec.ofInt IntKind.u64.bits (IntKind.u64.wrap (c.toNat : Int))).toNat = ((n * 256 + c.toNat : Nat) : Int) := by
  have hc := c.toNat_lt
  have e1 : IntKind.u64.wrap ((n : Int) * 2 ^ min (8 : Int).toNat IntKind.u64.bits) = ((n * 256 : Nat) : Int) := by
    have h : min (8 : Int).toNat IntKind.u64.bits = 8 := by decide
    rw [h, wrapu64 (by omega) (by omega)]
    omega
  have e2 : IntKind.u64.wrap (c.toNat : Int) = ((c.toNat : Nat) : Int) := wrapu64 (by omega) (by omega)
  have hof : ∀ m : Nat, m < 18446744073709551616 → BitVec.ofInt IntKind.u64.bits (m : Int) = BitVec.ofNat 64 m := by
    intro m hm
    show BitVec.ofInt 64 (m : Int) = BitVec.ofNat 64 m
    exact BitVec.ofInt_natCast ..
  rw [e1, e2, hof _ (by omega), hof _ (by omega)]
  have : (BitVec.ofNat 64 (n * 256) ||| BitVec.ofNat 64 c.toNat).toNat = n * 256 + c.toNat := by
    rw [BitVec.toNat_or, BitVec.toNat_ofNat, BitVec.toNat_ofNat, Nat.mod_eq_of_lt (by omega), Nat.mod_eq_of_lt (by omega)]
    have := Nat.two_pow_add_eq_or_of_lt (i := 8) hc n
    rw [Nat.mul_comm] at this
    exact this.symm
  show IntKind.u64.wrap (((BitVec.ofNat 64 (n * 256) ||| BitVec.ofNat 64 c.toNat).toNat : Nat) : Int) = _
  rw [this, wrapu64 (by omega) (by omega)]
theorem nextB_len (r : RS) (n : Nat) : (r.nextB n).length ≤ n := by
  unfold RS.nextB
  split
  · simp
  · split
    · simp
    · rw [List.length_take]; omega
theorem F_code_Reader_fixed.is {n : Nat} {Q : Int → Heap → Prop} (o : r.Ok) (hn : n ≤ 8) (O : Sat h0 h (rdR p r :: L)) (k : ∀ h', Sat h0 h' (rdR p (r.next n) :: L) → Q ((beN (r.nextB n) : Nat) : Int) h') : F_code_Reader_fixed (some (pt p 0)) n h Q := by
  rw [F_code_Reader_fixed.eq_1, F_code_Reader_fixed_of.eq_1]
  refine F_code_Reader_next.is o (by omega) O fun s h O V1 => ?_
  have hlen := nextB_len r n
  generalize r.nextB n = ys at *
  refine jn1 (fun (x : Int) h' => x = ((beN ys : Nat) : Int) ∧ h' = h) ?_ ?_
  · rintro x h ⟨rfl, rfl⟩
    exact k _ O
  · intro j hj
    rw [F_code_Reader_fixed.l1.eq_1]
    refine wl2 (k := .int .u64) (l := .int .i64) (fun (m : Nat) (x i : Int) (h' : Heap) => 0 ≤ i ∧ i + m = ys.length ∧ h' = h ∧ x = ((beN (ys.take i.toNat) : Nat) : Int)) ?_ (m := ys.length) ⟨by omega, by omega, rfl, rfl⟩
    rintro m (x : Int) (i : Int) h next hn2 ⟨hi0, him, rfl, rfl⟩
    rw [V1.len]
    refine brr_p (fun hlt => ?_) (fun hlt => ?_)
    · refine Bytes.at V1 hi0 hlt fun c hc => ?_
      have hb := beN_lt (ys.take i.toNat)
      rw [List.length_take, Nat.min_eq_left (by omega)] at hb
      have h256 : 256 ^ i.toNat ≤ 256 ^ 7 := Nat.pow_le_pow_right (by decide) (by omega)
      have hb2 : beN (ys.take i.toNat) < 72057594037927936 := Nat.lt_of_lt_of_le hb h256
      refine ⟨by decide, ?_⟩
      rw [or8 _ c hb2, wrap64 (by omega) (by omega)]
      refine hn2 (m - 1) _ _ _ (by omega) ⟨by omega, by omega, rfl, ?_⟩
      rw [show (i + 1).toNat = i.toNat + 1 by omega, take_succ_eq hc, beN_snoc]
    · refine hj _ _ ⟨?_, rfl⟩
      rw [List.take_of_length_le (by omega)]
theorem F_code_Reader_U32.is {Q : Int → Heap → Prop} (o : r.Ok) (O : Sat h0 h (rdR p r :: L)) (k : ∀ h', Sat h0 h' (rdR p (r.next 4) :: L) → Q ((beN (r.nextB 4) : Nat) : Int) h') : F_code_Reader_U32 (some (pt p 0)) h Q := by
  rw [F_code_Reader_U32.eq_1, F_code_Reader_U32_of.eq_1]
  refine F_code_Reader_fixed.is (n := 4) o (by decide) O fun h O => ?_
  have hb := beN_lt (r.nextB 4)
  have hl := nextB_len r 4
  have h256 : 256 ^ (r.nextB 4).length ≤ 256 ^ 4 := Nat.pow_le_pow_right (by decide) hl
  rw [wrapu32 (by omega) (by omega)]
  exact k h O
end
theorem beN_fixB : ∀ (size n : Nat), n < 256 ^ size → beN (fixB n size) = n := by
  intro size
  induction size with
  | zero => intro n h; simp at h; subst h; rfl
  | succ size ih =>
    intro n h
    have e : fixB n (size + 1) = fixB (n / 256) size ++ [UInt8.ofNat n] := by
      unfold fixB
      rw [List.range_succ, List.map_append]
      congr 1
      · apply List.map_congr_left
        intro i hi
        have hi := List.mem_range.1 hi
        rw [show size + 1 - 1 - i = 1 + (size - 1 - i) by omega, Nat.pow_add, Nat.pow_one, Nat.div_div_eq_div_mul]
      · simp
    rw [e, beN_snoc, ih (n / 256) (by rw [Nat.pow_succ] at h; exact (Nat.div_lt_iff_lt_mul (by decide)).2 h)]
    simp
    omega
end Go.Proofs.Ytompmkmbppcadaa.V
namespace Go.Proofs.Ytompmkmbppcadaa.V
open Go Go.RowKit
set_option linter.unusedVariables false
set_option maxRecDepth 100000
/-! tally/tallylaw1.CodeMany -/
def F_law1_CodeMany.l1 (f18_ : Heap → (Option Addr → Heap → Prop) → Prop) (f24_ : Option Addr → Int → Heap → (Heap → Prop) → Prop) (f25_ : Int → Heap → (Sl → Heap → Prop) → Prop) (Q : Bool → Heap → Prop) (r6 : Int) (j8 : Sl → Sl → Heap → Prop) : Sl → Sl → Int → Heap → Prop :=
  wl [(4, .one .sl), (5, .one .sl), (6, .one (.int .i64))] (fun (next9 : Sl → Sl → Int → Heap → Prop) (w10 : Sl) (held11 : Sl) (i12 : Int) (h13 : Heap) =>
  brr (decide (i12 < (IntKind.i64.wrap (1 + r6))))
  (f18_ h13 fun (r14 : Option Addr) (h15 : Heap) =>
  al 42 [.pointer r14] h15 fun (a16 : Addr) (h17 : Heap) =>
  app 42 1 8 (.pointer none) w10 (some a16) 1 h17 fun (s18 : Sl) (h19 : Heap) =>
  al 27 [.slice none 0 0] h19 fun (a20 : Addr) (h21 : Heap) =>
  app 27 1 24 (.slice none 0 0) held11 (some a20) 1 h21 fun (s22 : Sl) (h23 : Heap) =>
  ixS 1 s18 i12 fun (a24 : Addr) =>
  ld [.ptr] a24 h23 fun (v25 : Option Addr) =>
  brr v25.isNone
  (Q false h23)
  (ixS 1 s18 i12 fun (a26 : Addr) =>
  ld [.ptr] a26 h23 fun (v27 : Option Addr) =>
  f24_ v27 (IntKind.u32.wrap i12) h23 fun  (h28 : Heap) =>
  f25_ (IntKind.u32.wrap i12) h28 fun (r29 : Sl) (h30 : Heap) =>
  ixS 1 s22 i12 fun (a31 : Addr) =>
  st a31 [.slice r29.ptr r29.len r29.cap] h30 fun (h32 : Heap) =>
  next9 s18 s22 (IntKind.i64.wrap (i12 + 1)) h32))
  (j8 w10 held11 h13))
def F_law1_CodeMany.l2 (f26_ : Option Addr → Sl → Heap → (Heap → Prop) → Prop) (f27_ : Sl → Heap → (Sl → Heap → Prop) → Prop) (a3 : Addr) (r6 : Int) (w33 : Sl) (held34 : Sl) (j36 : Heap → Prop) : Int → Heap → Prop :=
  wl [(7, .one (.int .i64))] (fun (next37 : Int → Heap → Prop) (i38 : Int) (h39 : Heap) =>
  jn [(54, .one .bool)] (fun (x42 : Bool) (h43 : Heap) =>
  brr x42
  ((IntKind.i64.wrap (1 + r6)) ≠ 0 ∧
  ixS 1 w33 (i38.tmod (IntKind.i64.wrap (1 + r6))) fun (a44 : Addr) =>
  ld [.ptr] a44 h43 fun (v45 : Option Addr) =>
  ld [.sl] (a3.add 1) h43 fun (v46 : Sl) =>
  ixS 1 v46 i38 fun (a47 : Addr) =>
  ld [.sl] a47 h43 fun (v48 : Sl) =>
  f26_ v45 v48 h43 fun  (h49 : Heap) =>
  ixS 1 held34 (i38.tmod (IntKind.i64.wrap (1 + r6))) fun (a50 : Addr) =>
  ld [.sl] a50 h49 fun (v51 : Sl) =>
  ld [.sl] (a3.add 1) h49 fun (v52 : Sl) =>
  ixS 1 v52 i38 fun (a53 : Addr) =>
  ld [.sl] a53 h49 fun (v54 : Sl) =>
  f27_ v54 h49 fun (r55 : Sl) (h56 : Heap) =>
  cellsAre h56 a50 [.slice v51.ptr v51.len v51.cap] ∧
  app 5 1 1 (.int .u8 0) v51 r55.ptr r55.len h56 fun (s57 : Sl) (h58 : Heap) =>
  ixS 1 held34 (i38.tmod (IntKind.i64.wrap (1 + r6))) fun (a59 : Addr) =>
  st a59 [.slice s57.ptr s57.len s57.cap] h58 fun (h60 : Heap) =>
  next37 (IntKind.i64.wrap (i38 + 1)) h60)
  (j36 h43)) (fun (j40 : Bool → Heap → Prop) =>
  ld [.sl] (a3.add 1) h39 fun (v41 : Sl) =>
  brr (decide (i38 < ((v41.len : Nat) : Int)))
  (j40 (decide (i38 < 400)) h39)
  (j40 false h39)))
def F_law1_CodeMany.l3 (f15_ : Sl → Heap → (Sl → Heap → Prop) → Prop) (f28_ : Sl → Heap → (Option Addr → Heap → Prop) → Prop) (Q : Bool → Heap → Prop) (r6 : Int) (held34 : Sl) (j62 : Sl → Heap → Prop) : Sl → Int → Heap → Prop :=
  wl [(9, .one .sl), (10, .one (.int .i64))] (fun (next63 : Sl → Int → Heap → Prop) (r64 : Sl) (i65 : Int) (h66 : Heap) =>
  brr (decide (i65 < (IntKind.i64.wrap (1 + r6))))
  (ixS 1 held34 i65 fun (a67 : Addr) =>
  ld [.sl] a67 h66 fun (v68 : Sl) =>
  f15_ v68 h66 fun (r69 : Sl) (h70 : Heap) =>
  f28_ r69 h70 fun (r71 : Option Addr) (h72 : Heap) =>
  al 60 [.pointer r71] h72 fun (a73 : Addr) (h74 : Heap) =>
  app 60 1 8 (.pointer none) r64 (some a73) 1 h74 fun (s75 : Sl) (h76 : Heap) =>
  ixS 1 s75 i65 fun (a77 : Addr) =>
  ld [.ptr] a77 h76 fun (v78 : Option Addr) =>
  brr v78.isNone
  (Q false h76)
  (next63 s75 (IntKind.i64.wrap (i65 + 1)) h76))
  (j62 r64 h66))
def F_law1_CodeMany.l4 (f21_ : Sl → Sl → Heap → (Bool → Heap → Prop) → Prop) (f22_ : Option Addr → Heap → (Sl → Heap → Prop) → Prop) (f29_ : Option Addr → Heap → (Int → Heap → Prop) → Prop) (f30_ : Option Addr → Heap → (Int → Heap → Prop) → Prop) (Q : Bool → Heap → Prop) (r6 : Int) (w33 : Sl) (held34 : Sl) (r79 : Sl) (j81 : Heap → Prop) : Int → Heap → Prop :=
  wl [(11, .one (.int .i64))] (fun (next82 : Int → Heap → Prop) (i83 : Int) (h84 : Heap) =>
  brr (decide (i83 < (IntKind.i64.wrap (1 + r6))))
  (jn [(142, .one .bool)] (fun (x104 : Bool) (h105 : Heap) =>
  brr x104
  (Q false h105)
  (next82 (IntKind.i64.wrap (i83 + 1)) h105)) (fun (j85 : Bool → Heap → Prop) =>
  ixS 1 w33 i83 fun (a86 : Addr) =>
  ld [.ptr] a86 h84 fun (v87 : Option Addr) =>
  ixS 1 held34 i83 fun (a88 : Addr) =>
  ld [.sl] a88 h84 fun (v89 : Sl) =>
  f22_ v87 h84 fun (r90 : Sl) (h91 : Heap) =>
  cellsAre h91 a88 [.slice v89.ptr v89.len v89.cap] ∧
  f21_ r90 v89 h91 fun (r92 : Bool) (h93 : Heap) =>
  brr (!r92)
  (j85 true h93)
  (ixS 1 r79 i83 fun (a94 : Addr) =>
  ld [.ptr] a94 h93 fun (v95 : Option Addr) =>
  f29_ v95 h93 fun (r96 : Int) (h97 : Heap) =>
  brr (r96 != (IntKind.u32.wrap i83))
  (j85 true h97)
  (ixS 1 r79 i83 fun (a98 : Addr) =>
  ld [.ptr] a98 h97 fun (v99 : Option Addr) =>
  ixS 1 held34 i83 fun (a100 : Addr) =>
  ld [.sl] a100 h97 fun (v101 : Sl) =>
  f30_ v99 h97 fun (r102 : Int) (h103 : Heap) =>
  cellsAre h103 a100 [.slice v101.ptr v101.len v101.cap] ∧
  j85 (r102 != (IntKind.i64.wrap (((v101.len : Nat) : Int) - 4))) h103))))
  (j81 h84))
def F_law1_CodeMany_of (f15_ : Sl → Heap → (Sl → Heap → Prop) → Prop) (f18_ : Heap → (Option Addr → Heap → Prop) → Prop) (f19_ : Int → Int → Heap → (Int → Heap → Prop) → Prop) (f21_ : Sl → Sl → Heap → (Bool → Heap → Prop) → Prop) (f22_ : Option Addr → Heap → (Sl → Heap → Prop) → Prop) (f24_ : Option Addr → Int → Heap → (Heap → Prop) → Prop) (f25_ : Int → Heap → (Sl → Heap → Prop) → Prop) (f26_ : Option Addr → Sl → Heap → (Heap → Prop) → Prop) (f27_ : Sl → Heap → (Sl → Heap → Prop) → Prop) (f28_ : Sl → Heap → (Option Addr → Heap → Prop) → Prop) (f29_ : Option Addr → Heap → (Int → Heap → Prop) → Prop) (f30_ : Option Addr → Heap → (Int → Heap → Prop) → Prop) (p1 : Int) (p2 : Sl) (h : Heap) (Q : Bool → Heap → Prop) : Prop :=
  al 54 [.int .i64 p1, .slice p2.ptr p2.len p2.cap] h fun (a3 : Addr) (h4 : Heap) =>
  ld [.int .i64] (a3.add 0) h4 fun (v5 : Int) =>
  f19_ v5 64 h4 fun (r6 : Int) (h7 : Heap) =>
  jn [(4, .one .sl), (5, .one .sl)] (fun (w33 : Sl) (held34 : Sl) (h35 : Heap) =>
  jn [] (fun  (h61 : Heap) =>
  jn [(9, .one .sl)] (fun (r79 : Sl) (h80 : Heap) =>
  jn [] (fun  (h106 : Heap) =>
  Q true h106) (fun (j81 : Heap → Prop) =>
  F_law1_CodeMany.l4 f21_ f22_ f29_ f30_ Q r6 w33 held34 r79 j81 0 h80)) (fun (j62 : Sl → Heap → Prop) =>
  F_law1_CodeMany.l3 f15_ f28_ Q r6 held34 j62 (⟨none, 0, 0⟩ : Sl) 0 h61)) (fun (j36 : Heap → Prop) =>
  F_law1_CodeMany.l2 f26_ f27_ a3 r6 w33 held34 j36 0 h35)) (fun (j8 : Sl → Sl → Heap → Prop) =>
  F_law1_CodeMany.l1 f18_ f24_ f25_ Q r6 j8 (⟨none, 0, 0⟩ : Sl) (⟨none, 0, 0⟩ : Sl) 0 h7)
def F_law1_CodeMany (p1 : Int) (p2 : Sl) (h : Heap) (Q : Bool → Heap → Prop) : Prop := F_law1_CodeMany_of F_ref0_Copy F_code_New F_law1_into F_ref0_Eq F_code_Writer_Out F_code_Writer_U32 F_ref1_U32 F_code_Writer_Bytes F_ref1_Text F_code_Read F_code_Reader_U32 F_code_Reader_Left p1 p2 h Q
def plan7 : Plan := .s (.r [1]) (.s (.r [1, 3]) (.s (.r [1, 3, 4]) (.s (.r [1, 3, 4, 5]) (.s (.s (.r [1, 3, 4, 5, 6]) (.bj [(4, .one .sl), (5, .one .sl)] [1, 3] (.l [(4, .one .sl), (5, .one .sl), (6, .one (.int .i64))] [1, 3] (.s (.s (.r [1, 3, 4, 5, 6, 18]) (.c .z .z)) (.s (.b (.s (.r [1, 3, 4, 5, 6]) (.s (.r [1, 3, 4, 5, 6]) (.s (.s (.r [1, 3, 4, 5, 6, 32]) (.c (.s (.r [2]) .z) .z)) (.s (.r [1, 3, 4, 5, 6]) (.r [1, 3, 4, 5, 6])))))) (.r [1, 3, 4, 5, 6])))))) (.s (.s (.r [1, 3, 4, 5, 7]) (.bj [] [3, 4, 5] (.l [(7, .one (.int .i64))] [1, 3, 4, 5] (.s (.s (.rj [(54, .one .bool)] [1, 3, 4, 5, 7]) (.c .z .z)) (.s (.b (.s (.r [1, 3, 4, 5, 7, 8]) (.s (.d [0, 0, 3, 7, 0, 16, 0, 112, 240, 511] [[0, 1, 2, 3, 4, 5, 6, 7, 8, 9]] [1, 3, 4, 5, 7, 8]) (.d [0, 0, 0, 0, 12, 28, 0, 64, 0, 448, 960, 1984, 4092, 8191, 16383] [[0, 1, 2, 3, 4, 5, 6, 7, 8, 9, 10, 11, 12, 13, 14]] [1, 3, 4, 5, 7])))) (.r [1, 3, 4, 5, 7])))))) (.s (.r [3, 4, 5, 9]) (.s (.s (.r [3, 4, 5, 9, 10]) (.bj [(9, .one .sl)] [3, 4, 5] (.l [(9, .one .sl), (10, .one (.int .i64))] [3, 4, 5] (.s (.s (.r [3, 4, 5, 9, 10, 86]) (.c .z .z)) (.s (.b (.s (.r [3, 4, 5, 9, 10]) (.s (.r [3, 4, 5, 9, 10, 102]) (.c (.s (.r [2]) .z) .z)))) (.r [3, 4, 5, 9, 10])))))) (.s (.s (.r [3, 4, 5, 9, 11]) (.bj [] [] (.l [(11, .one (.int .i64))] [3, 4, 5, 9] (.s (.s (.r [3, 4, 5, 9, 11, 105]) (.c .z .z)) (.s (.b (.s (.dj [0, 0, 3, 7, 15, 0, 0, 96, 224, 511, 1023, 2047, 4095, 4095, 16383, 32767, 65535, 4095, 135167, 524287, 1048575, 2097151, 4194303, 4194303, 16777215, 33554431, 67108863, 4194303, 4194303, 406847487, 943718399, 2017460223, 4164943871, 8589934591, 17179869183] [[0, 1, 2, 3, 5, 6, 7, 8, 4, 9, 10, 11, 12, 13, 14, 15, 17, 18, 16, 19, 20, 21, 22, 23, 24, 25, 27, 28, 29, 30, 31, 32, 26, 33, 34]] [(142, .one .bool)] [3, 4, 5, 9, 11]) (.c (.s (.r [2]) .z) .z))) (.r [3, 4, 5, 9, 11])))))) (.s (.r [2]) .z)))))))))
theorem F_law1_CodeMany.eq (f15_ : Sl → Heap → (Sl → Heap → Prop) → Prop) (f18_ : Heap → (Option Addr → Heap → Prop) → Prop) (f19_ : Int → Int → Heap → (Int → Heap → Prop) → Prop) (f21_ : Sl → Sl → Heap → (Bool → Heap → Prop) → Prop) (f22_ : Option Addr → Heap → (Sl → Heap → Prop) → Prop) (f24_ : Option Addr → Int → Heap → (Heap → Prop) → Prop) (f25_ : Int → Heap → (Sl → Heap → Prop) → Prop) (f26_ : Option Addr → Sl → Heap → (Heap → Prop) → Prop) (f27_ : Sl → Heap → (Sl → Heap → Prop) → Prop) (f28_ : Sl → Heap → (Option Addr → Heap → Prop) → Prop) (f29_ : Option Addr → Heap → (Int → Heap → Prop) → Prop) (f30_ : Option Addr → Heap → (Int → Heap → Prop) → Prop) (p1 : Int) (p2 : Sl) (h : Heap) (K : Value → Heap → Prop) : F_law1_CodeMany_of f15_ f18_ f19_ f21_ f22_ f24_ f25_ f26_ f27_ f28_ f29_ f30_ p1 p2 h (fun (r0 : Bool) (h : Heap) => K (.bool r0) h) =
    den Try.prog (fn1 15 (E_ref0_Copy_of f15_) (fn1 18 (E_code_New_of f18_) (fn1 19 (E_law1_into_of f19_) (fn1 21 (E_ref0_Eq_of f21_) (fn1 22 (E_code_Writer_Out_of f22_) (fn1 24 (E_code_Writer_U32_of f24_) (fn1 25 (E_ref1_U32_of f25_) (fn1 26 (E_code_Writer_Bytes_of f26_) (fn1 27 (E_ref1_Text_of f27_) (fn1 28 (E_code_Read_of f28_) (fn1 29 (E_code_Reader_U32_of f29_) (fn1 30 (E_code_Reader_Left_of f30_) noFns)))))))))))) Try.f7.ntmps plan7 (bodyOf Try.f7) (args0 0 [(.agg #[.int .i64 p1, .slice p2.ptr p2.len p2.cap] : Value)]) h ⟨fun env h => dRes Try.prog Try.f7.results.toList env h K, fun _ _ _ => False, fun env h => dRes Try.prog Try.f7.results.toList env h K⟩ := by kernel_rfl
def E_law1_CodeMany_of (f : Int → Sl → Heap → (Bool → Heap → Prop) → Prop) : List Value → Heap → (Value → Heap → Prop) → Prop
  | [v0], h, K => vAgg v0 fun cs0 => decs [.int .i64, .sl] cs0.toList fun (p1 : Int) (p2 : Sl) =>
  f p1 p2 h (fun (r0 : Bool) (h : Heap) => K (.bool r0) h)
  | _, _, _ => False
abbrev E_law1_CodeMany := E_law1_CodeMany_of F_law1_CodeMany
theorem E_law1_CodeMany.at (f : Int → Sl → Heap → (Bool → Heap → Prop) → Prop) (p1 : Int) (p2 : Sl) (h : Heap) (K : Value → Heap → Prop) : E_law1_CodeMany_of f [.agg ([.int .i64 p1, .slice p2.ptr p2.len p2.cap] : List Value).toArray] h K = f p1 p2 h (fun (r0 : Bool) (h : Heap) => K (.bool r0) h) := rfl
theorem E_law1_CodeMany.right : IsRight Try.prog 7 E_law1_CodeMany := by
  refine isRight fun vs K w hh => ?_
  match vs, hh with
  | [v0], hh =>
    unfold E_law1_CodeMany E_law1_CodeMany_of at hh
    replace hh := vAgg_sound hh; obtain ⟨cs0, rfl, hh⟩ := hh
    replace hh := decs_cons hh; obtain ⟨p1, l0_0, e0_0, hh⟩ := hh
    replace hh := decs_cons hh; obtain ⟨p2, l0_1, e0_1, hh⟩ := hh
    replace hh := decs_nil hh; obtain ⟨rfl, hh⟩ := hh
    subst e0_1
    have ec0 := toArray_eq e0_0
    subst ec0
    unfold F_law1_CodeMany at hh
    exact calls_den (fn1_right ok15 E_ref0_Copy.right (fn1_right ok18 E_code_New.right (fn1_right ok19 E_law1_into.right (fn1_right ok21 E_ref0_Eq.right (fn1_right ok22 E_code_Writer_Out.right (fn1_right ok24 E_code_Writer_U32.right (fn1_right ok25 E_ref1_U32.right (fn1_right ok26 E_code_Writer_Bytes.right (fn1_right ok27 E_ref1_Text.right (fn1_right ok28 E_code_Read.right (fn1_right ok29 E_code_Reader_U32.right (fn1_right ok30 E_code_Reader_Left.right noFns_right)))))))))))) plan7 _ w K Try.func7 (by kernel_rfl) (by kernel_rfl) (Eq.mp (F_law1_CodeMany.eq F_ref0_Copy F_code_New F_law1_into F_ref0_Eq F_code_Writer_Out F_code_Writer_U32 F_ref1_U32 F_code_Writer_Bytes F_ref1_Text F_code_Read F_code_Reader_U32 F_code_Reader_Left p1 p2 w.heap K) hh)
theorem ok7 : okFn Try.prog 7 = true := by kernel_rfl
end Go.Proofs.Ytompmkmbppcadaa.V
