/-
  A VIEW OF THE MACHINE AS A PREDICATE TRANSFORMER OVER THE HEAP. Part 6: the operations that change the heap: 'dE'.
-/
import Derived.Test.YtompmkmbppcadaaV5
namespace Go.Proofs.Ytompmkmbppcadaa.V
open Go Go.RowKit
set_option linter.unusedVariables false
set_option linter.unusedSimpArgs false

/-- The streams and the tape are as they were. -/
structure Same (w w' : World) : Prop where
  os : w'.os = w.os
  tape : w'.tape = w.tape
  output : w'.output = w.output
theorem Same.refl (w : World) : Same w w := ⟨rfl, rfl, rfl⟩
theorem Same.trans {a b c : World} (h : Same a b) (k : Same b c) : Same a c := ⟨k.os.trans h.os, k.tape.trans h.tape, k.output.trans h.output⟩

/-! ### making and storing -/
def al (T : TypeId) (cs : List Value) (h : Heap) (K : Addr → Heap → Prop) : Prop := K ⟨h.size, 0, none⟩ (h.push (.cells cs.toArray T))
/-- One cell may be written. -/
def wr (h : Heap) (a : Addr) (v : Value) : Prop := oneV v = true ∧ (∃ u, cellH h a = some u) ∧ frozenH h a = false
def st : Addr → List Value → Heap → (Heap → Prop) → Prop
  | _, [], h, K => K h
  | a, v :: vs, h, K => wr h a v ∧ st (a.add 1) vs (setH h a v) K
def stP (p : Option Addr) (cs : List Value) (h : Heap) (K : Heap → Prop) : Prop := match p with
  | some a => st a cs h K
  | none => K h
section
variable {P : Program}
theorem run_new (w : World) (T : TypeId) (cs : Array Value) : (newRow T cs).run P w = .ok ⟨w.heap.size, 0, none⟩ { w with heap := w.heap.push (.cells cs T) } := by
  simp [newRow, newObj, Sem.run]
theorem run_store1 {w : World} {a : Addr} {v : Value} (h : wr w.heap a v) : (store a v).run P w = .ok () (w.setCell a v) := by
  obtain ⟨h1, ⟨u, h2⟩, h3⟩ := h
  have h2' : w.cell? a = some u := h2
  have h3' : w.frozen? a = false := h3
  unfold store
  cases v <;> first | (simp [oneV] at h1; done) | (simp only [Sem.run, h2', h3']; rfl)
theorem st_sound : ∀ {vs : List Value} {a : Addr} {w : World} {K : Heap → Prop} (i : Nat), st (a.add i) vs w.heap K →
    ∃ w', (storeCells a vs i).run P w = .ok () w' ∧ K w'.heap ∧ Same w w' ∧ w'.drawn = w.drawn
  | [], a, w, K, i, h => ⟨w, rfl, h, Same.refl _, rfl⟩
  | v :: vs, a, w, K, i, h => by
    obtain ⟨h1, h2⟩ := h
    rw [Addr_add_add] at h2
    obtain ⟨w', hr, hK, hs, hd⟩ := st_sound (w := w.setCell (a.add i) v) (i + 1) (by rw [set_eq]; exact h2)
    refine ⟨w', ?_, hK, ⟨hs.os, hs.tape, hs.output⟩, hd⟩
    unfold storeCells
    simp only [Sem.run_bind, run_store1 h1, Result.andThen_ok, hr]
theorem st_sound0 {vs : List Value} {a : Addr} {w : World} {K : Heap → Prop} (h : st a vs w.heap K) :
    ∃ w', (storeCells a vs).run P w = .ok () w' ∧ K w'.heap ∧ Same w w' ∧ w'.drawn = w.drawn := st_sound 0 (by rwa [Addr.add_zero'])
end
def dStore (P : Program) (t : TypeId) (x v : Value) (h : Heap) (K : Heap → Prop) : Prop :=
  vAddr x fun a => chk (match sizeT P t with | some n => Nat.beq v.cells.size n | none => false) (st a v.cells.toList h K)
theorem dStore_sound {P : Program} {t : TypeId} {x v : Value} {w : World} {K : Heap → Prop} (h : dStore P t x v w.heap K) :
    ∃ w', (Instr.storeAt t x v).run P w = .ok () w' ∧ K w'.heap ∧ Same w w' := by
  unfold dStore at h
  replace h := vAddr_sound h; obtain ⟨a, rfl, h⟩ := h
  replace h := chk_sound h; obtain ⟨hs, h⟩ := h
  split at hs <;> simp at hs
  rename_i n hn
  subst hs
  obtain ⟨w', hr, hK, hS, _⟩ := st_sound0 (P := P) h
  refine ⟨w', ?_, hK, hS⟩
  simp [Instr.storeAt, Instr.sureAddr, storeVar, run_sizeT hn, hr]
def dBox (t : TypeId) (v : Value) (h : Heap) (K : Value → Heap → Prop) : Prop := forceL v.cells.toList fun cs => al t cs h fun a h => K (.pointer (some a)) h
def dAlloc (P : Program) (t : TypeId) (h : Heap) (K : Value → Heap → Prop) : Prop := on (zeroT P t) fun z => dBox t z h K
def rep : Nat → List Value → List Value
  | 0, _ => []
  | n + 1, z => z ++ rep n z
def dBuildSlice (P : Program) (t : TypeId) (len : Nat) (ps : List (Nat × Value)) (h : Heap) (K : Value → Heap → Prop) : Prop :=
  on (elemT P t) fun e => on (sizeT P e) fun size => on (zeroT P e) fun z => chk (Nat.ble (len * size) 16777216 && Nat.beq z.cells.toList.length size && Nat.blt 0 size)
    (fillC (fun k => some (k * size, size)) ps (rep len z.cells.toList) fun cs => al e cs h fun a h => K (.slice (some a) len len) h)
theorem rep_get (z : Array Value) (hz : 0 < z.size) : ∀ (n j : Nat), (rep n z.toList)[j]? = if j < n * z.size then some z[j % z.size]! else none
  | 0, j => by simp [rep]
  | n + 1, j => by
    simp only [rep]
    rw [List.getElem?_append]
    split
    · rename_i h
      simp at h
      rw [if_pos (by rw [Nat.add_mul]; omega), Nat.mod_eq_of_lt h]
      simp [h]
    · rename_i h
      simp only [Array.length_toList, Nat.not_lt] at h
      rw [rep_get z hz n, Array.length_toList]
      have e : (j - z.size) % z.size = j % z.size := by
        rw [← Nat.add_mod_right (j - z.size) z.size, Nat.sub_add_cancel h]
      rw [e]
      by_cases h2 : j - z.size < n * z.size
      · rw [if_pos h2, if_pos (by rw [Nat.add_mul]; omega)]
      · rw [if_neg h2, if_neg (by rw [Nat.add_mul]; omega)]
theorem rep_eq (z : Array Value) (hz : 0 < z.size) (n : Nat) : ((Array.range (n * z.size)).map (z[· % z.size]!)) = (rep n z.toList).toArray := by
  apply Array.ext_getElem?
  intro j
  have e : (rep n z.toList).toArray[j]? = (rep n z.toList)[j]? := by simp
  rw [e, rep_get z hz, Array.getElem?_map, Array.getElem?_range]
  split <;> rfl

/-! ### make -/
def mkCells (z : Value) (n : Nat) : List Value := ((Array.range n).map (z.cells[· % z.cells.size]!)).toList
def mk (e : TypeId) (size bytes : Nat) (z : Value) (l c : Int) (h : Heap) (K : Sl → Heap → Prop) : Prop :=
  0 ≤ l ∧ l ≤ c ∧ (bytes : Int) * c ≤ 281474976710656 ∧ K ⟨some ⟨h.size, 0, none⟩, l.toNat, c.toNat⟩ (h.push (.cells (mkCells z (c.toNat * size)).toArray e))
def dMake (P : Program) (t : TypeId) (l c : Value) (h : Heap) (K : Value → Heap → Prop) : Prop :=
  on (elemT P t) fun e => on (P.info? e) fun i => on i.zero fun z => chk (Nat.blt 0 i.bytes && Nat.blt 0 i.size) (vInt l fun _ l => vInt c fun _ c =>
    mk e i.size i.bytes z l c h fun s h => K (.slice s.ptr s.len s.cap) h)
theorem dMake_sound {P : Program} {t : TypeId} {l c : Value} {w : World} {K : Value → Heap → Prop} (h : dMake P t l c w.heap K) :
    ∃ v w', (Instr.makeSlice t l c).run P w = .ok v w' ∧ K v w'.heap ∧ Same w w' := by
  unfold dMake at h
  replace h := on_sound h; obtain ⟨e, he, h⟩ := h
  replace h := on_sound h; obtain ⟨i, hi, h⟩ := h
  replace h := on_sound h; obtain ⟨z, hz, h⟩ := h
  replace h := chk_sound h; obtain ⟨hb, h⟩ := h
  replace h := vInt_sound h; obtain ⟨k, l, rfl, h⟩ := h
  replace h := vInt_sound h; obtain ⟨k', c, rfl, h⟩ := h
  obtain ⟨h0, h1, h2, hK⟩ := h
  simp at hb
  have hc : c ≤ 281474976710656 := by
    have : (1 : Int) * c ≤ (i.bytes : Int) * c := Int.mul_le_mul_of_nonneg_right (by omega) (by omega)
    omega
  have wl : IntKind.i64.wrap l = l := by unfold IntKind.wrap; simp [IntKind.bits, IntKind.signed]; omega
  have wc : IntKind.i64.wrap c = c := by unfold IntKind.wrap; simp [IntKind.bits, IntKind.signed]; omega
  have t1 : (decide (c < 0) || decide ((i.bytes : Int) * c > 2 ^ 48)) = false := by
    simp only [Bool.or_eq_false_iff, decide_eq_false_iff_not]; exact ⟨by omega, by simpa using h2⟩
  refine ⟨_, { w with heap := w.heap.push (.cells (mkCells z (c.toNat * i.size)).toArray e) }, ?_, hK, ⟨rfl, rfl, rfl⟩⟩
  simp only [Instr.makeSlice, Sem.run_bind, run_underlying (elemT_sound he), Result.andThen_ok, asInt, asIntOf, Sem.run_pure, typeInfo, run_program, hi, wl, wc, t1, Bool.false_or]
  have t2 : (decide (l < 0) || decide (l > c)) = false := by simp only [Bool.or_eq_false_iff, decide_eq_false_iff_not]; exact ⟨by omega, by omega⟩
  simp only [t2, Bool.false_eq_true, if_false, Sem.run_bind, run_askRoom, Result.andThen_ok, sizeOf, typeInfo, run_program, hi, Sem.run_pure, Sem.run_ite, zeroValue, hz]
  by_cases hn : c.toNat * i.size = 0
  · have : mkCells z (c.toNat * i.size) = [] := by rw [hn]; simp [mkCells]
    simp [hn, run_new, this, mkCells]
    simp [Array.range]
  · simp only [if_neg hn, Sem.run_bind, typeInfo, run_program, hi, Result.andThen_ok, hz, Sem.run_pure, run_new]
    simp [mkCells]
    congr 2
    apply Array.ext'; simp

/-! ### append, copy, clear -/
def app (e : TypeId) (size bytes : Nat) (z : Value) (s : Sl) (src : Option Addr) (m : Nat) (h : Heap) (K : Sl → Heap → Prop) : Prop :=
  ∃ new, rdP h src (m * size) = some new ∧
    (s.len + m ≤ s.cap → stP (s.ptr.map (·.add (s.len * size))) new h (K ⟨s.ptr, s.len + m, s.cap⟩)) ∧
    (s.cap < s.len + m → Builtin.nextslicecap (s.len + m) s.cap * bytes ≤ 281474976710656 ∧ ∃ old, rdP h s.ptr (s.len * size) = some old ∧
      ∀ c, s.len + m ≤ c → K ⟨some ⟨h.size, 0, none⟩, s.len + m, c⟩ (h.push (.cells (old ++ new ++ (Builtin.zeroCells z.cells (c - (s.len + m))).toList).toArray e)))
def dAppend (P : Program) (t u : TypeId) (x y : Value) (h : Heap) (K : Value → Heap → Prop) : Prop :=
  on (elemT P t) fun e => on (elemT P u) fun _ => on (P.info? e) fun i => on i.zero fun z => chk (Nat.blt 0 i.bytes) (vSl x fun p n c => vSl y fun q m _ =>
    app e i.size i.bytes z ⟨p, n, c⟩ q m h fun s h => K (.slice s.ptr s.len s.cap) h)
theorem run_first {P : Program} {w : World} {size m n c : Nat} {p : Option Addr} {cs : List Value} (h : rdP w.heap p (m * size) = some cs) : (Builtin.firstCells size m (.slice p n c)).run P w = .ok cs.toArray w := by
  cases p with
  | none => simp [rdP] at h; subst h; simp [Builtin.firstCells]
  | some a => simp only [Builtin.firstCells]; exact run_loadCells_rd h
theorem dAppend_sound {P : Program} {t u ty : TypeId} {x y : Value} {w : World} {K : Value → Heap → Prop} (h : dAppend P t u x y w.heap K) :
    ∃ v w', (Builtin.append_ #[t, u] ty #[x, y]).run P w = .ok v w' ∧ K v w'.heap ∧ Same w w' := by
  unfold dAppend at h
  replace h := on_sound h; obtain ⟨e, he, h⟩ := h
  replace h := on_sound h; obtain ⟨e', he', h⟩ := h
  replace h := on_sound h; obtain ⟨i, hi, h⟩ := h
  replace h := on_sound h; obtain ⟨z, hz, h⟩ := h
  replace h := chk_sound h; obtain ⟨hb, h⟩ := h
  replace h := vSl_sound h; obtain ⟨p, n, c, rfl, h⟩ := h
  replace h := vSl_sound h; obtain ⟨q, m, d, rfl, h⟩ := h
  obtain ⟨new, hnew, hin, hgrow⟩ := h
  simp only at hin hgrow
  simp at hb
  by_cases hle : n + m ≤ c
  · have hf := run_first (P := P) (n := m) (c := d) hnew
    cases p with
    | none =>
      refine ⟨_, w, ?_, hin hle, Same.refl _⟩
      simp [Builtin.append_, run_underlying (elemT_sound he), run_underlying (elemT_sound he'), sizeOf, typeInfo, hi, Builtin.lenOf, hle, hf]
    | some a =>
      obtain ⟨w', hr, hK, hS, _⟩ := st_sound0 (P := P) (hin hle)
      refine ⟨_, w', ?_, hK, hS⟩
      simp [Builtin.append_, run_underlying (elemT_sound he), run_underlying (elemT_sound he'), sizeOf, typeInfo, hi, Builtin.lenOf, hle, hf, hr]
  · obtain ⟨hcap, old, hold, hg⟩ := hgrow (by omega)
    have hcap' : ¬ (281474976710656 < Builtin.nextslicecap (n + m) c * i.bytes) := by omega
    have hb0 : ¬ (i.bytes = 0) := by omega
    have hf := run_first (P := P) (w := w.drew) (n := m) (c := d) hnew
    have hfo := run_first (P := P) (w := w.drew) (n := n) (c := c) hold
    have hge : n + m ≤ grownCap w (n + m) c e := by simp only [grownCap, Question.cut]; omega
    refine ⟨_, { w.drew with heap := w.heap.push (.cells (old ++ new ++ (Builtin.zeroCells z.cells (grownCap w (n + m) c e - (n + m))).toList).toArray e) }, ?_, hg _ hge, ⟨rfl, rfl, rfl⟩⟩
    simp [Builtin.append_, run_underlying (elemT_sound he), run_underlying (elemT_sound he'), sizeOf, typeInfo, zeroValue, hi, hz, Builtin.lenOf, hle, hb0, hcap', Question.forced, hf, hfo, newRow, grownCap]
    show w.drew.alloc _ = w.drew.alloc _
    congr 2
    apply Array.ext'; simp
def cpy (size : Nat) (d : Sl) (q : Option Addr) (m : Nat) (h : Heap) (K : Heap → Prop) : Prop := ∃ cs, rdP h q (Nat.min m d.len * size) = some cs ∧ stP d.ptr cs h K
def dCopy (P : Program) (t : TypeId) (x y : Value) (h : Heap) (K : Value → Heap → Prop) : Prop :=
  on (elemT P t) fun e => on (sizeT P e) fun size => vSl x fun p n c => vSl y fun q m _ => cpy size ⟨p, n, c⟩ q m h fun h => K (.int .i64 (Nat.min m n : Nat)) h
theorem dCopy_sound {P : Program} {t u ty : TypeId} {x y : Value} {w : World} {K : Value → Heap → Prop} (h : dCopy P t x y w.heap K) :
    ∃ v w', (Builtin.copy_ #[t, u] ty #[x, y]).run P w = .ok v w' ∧ K v w'.heap ∧ Same w w' := by
  unfold dCopy at h
  replace h := on_sound h; obtain ⟨e, he, h⟩ := h
  replace h := on_sound h; obtain ⟨size, hs, h⟩ := h
  replace h := vSl_sound h; obtain ⟨p, n, c, rfl, h⟩ := h
  replace h := vSl_sound h; obtain ⟨q, m, d, rfl, h⟩ := h
  obtain ⟨cs, hcs, hst⟩ := h
  simp only at hcs hst
  have hf := run_first (P := P) (n := m) (c := d) hcs
  cases p with
  | none => exact ⟨_, w, by simp [Builtin.copy_, run_underlying (elemT_sound he), run_sizeT hs, Builtin.lenOf, hf, goInt], hst, Same.refl _⟩
  | some a =>
    obtain ⟨w', hr, hK, hS, _⟩ := st_sound0 (P := P) hst
    exact ⟨_, w', by simp [Builtin.copy_, run_underlying (elemT_sound he), run_sizeT hs, Builtin.lenOf, hf, goInt, hr], hK, hS⟩
def clr (z : Value) (s : Sl) (h : Heap) (K : Heap → Prop) : Prop := (s.len = 0 → K h) ∧ (s.len ≠ 0 → stP s.ptr (Builtin.zeroCells z.cells s.len).toList h K)
def dClear (P : Program) (t : TypeId) (x : Value) (h : Heap) (K : Value → Heap → Prop) : Prop :=
  on (elemT P t) fun e => on (zeroT P e) fun z => vSl x fun p n c => clr z ⟨p, n, c⟩ h fun h => K (.tuple #[]) h

/-! ### []byte(s) -/
def s2b (e : TypeId) (s : ByteArray) (h : Heap) (K : Sl → Heap → Prop) : Prop :=
  ∀ c, s.size ≤ c → K ⟨some ⟨h.size, 0, none⟩, s.size, c⟩ (h.push (.cells ((s.data.toList.map fun b => Value.int .u8 (b.toNat : Int)) ++ List.replicate (c - s.size) (Value.int .u8 0)).toArray e (c, c + 1)))
/-- The block is marked as one that was made of a string. -/
def markH (h : Heap) (b n : Nat) : Heap := h.modify b fun
  | .cells c elem (lo, hi) => .cells c elem (if lo == hi then (n, n + 1) else (min lo n, max hi (n + 1)))
  | o => o
def frz (p : Option Addr) (h : Heap) (K : Heap → Prop) : Prop := ∃ a c T f, p = some a ∧ h[a.block]? = some (.cells c T f) ∧ K (markH h a.block c.size)
def dConvE (P : Program) (s d : TypeId) (v : Value) (h : Heap) (K : Value → Heap → Prop) : Prop :=
  match P.underlying s, P.underlying d with
  | some (.slice _), some (.slice e) => chk (isU8 P e && Nat.beq s d) (vSl v fun p n c => frz p h fun h => K (.slice p n c) h)
  | some .string, some (.slice e) => chk (isU8 P e) (vStr v fun b => s2b e b h fun s h => K (.slice s.ptr s.len s.cap) h)
  | _, _ => False
theorem dConvE_sound {P : Program} {s d : TypeId} {v : Value} {w : World} {K : Value → Heap → Prop} (h : dConvE P s d v w.heap K) :
    ∃ u w', (convert s d v).run P w = .ok u w' ∧ K u w'.heap ∧ Same w w' := by
  unfold dConvE at h
  split at h
  · rename_i e0 e hs hd
    replace h := chk_sound h; obtain ⟨he, h⟩ := h
    rw [Bool.and_eq_true] at he
    replace h := vSl_sound h; obtain ⟨p, n, c, rfl, h⟩ := h
    obtain ⟨a, cs, T, f, rfl, hb, hK⟩ := h
    have esd := Nat.eq_of_beq_eq_true he.2
    subst esd
    have e12 := hs.symm.trans hd
    simp only [Option.some.injEq, TypeDesc.slice.injEq] at e12
    subst e12
    have hsh : w.shape? a.block = some (T, cs.size) := by simp [World.shape?, hb]
    have hfr : w.freeze { block := a.block, off := cs.size } 1 = { w with heap := markH w.heap a.block cs.size } := by
      unfold World.freeze
      rw [if_neg (by omega)]
      rfl
    refine ⟨_, { w with heap := markH w.heap a.block cs.size }, ?_, hK, ⟨rfl, rfl, rfl⟩⟩
    have hmk : (markStringish a).run P w = .ok () { w with heap := markH w.heap a.block cs.size } := by
      simp only [markStringish, shape, freeze, Sem.run_bind, Sem.run, Result.andThen_ok, hsh, hfr]
    simp only [convert, Sem.run_bind, run_underlying hs, Result.andThen_ok, run_underlying (isU8_sound he.1), beq_self_eq_true, hmk, Sem.run_pure]
  · rename_i e hs hd
    replace h := chk_sound h; obtain ⟨he, h⟩ := h
    replace h := vStr_sound h; obtain ⟨b, rfl, h⟩ := h
    have hge : b.size ≤ (Question.appendCap b.size 0 e).cut (w.tape w.drawn (.appendCap b.size 0 e)) := by simp only [Question.cut]; omega
    have hK := h _ hge
    generalize hc : (Question.appendCap b.size 0 e).cut (w.tape w.drawn (.appendCap b.size 0 e)) = c at hK hge
    let arr : Array Value := ((b.data.toList.map fun b => Value.int .u8 (b.toNat : Int)) ++ List.replicate (c - b.size) (Value.int .u8 0)).toArray
    have harr : arr.size = c := by simp [arr]; have : b.data.size = b.size := rfl; omega
    have earr : (b.data.map fun b => Value.int .u8 (b.toNat : Int)) ++ Array.replicate (c - b.size) (.int .u8 0) = arr := by
      apply Array.ext'; simp [arr]
    refine ⟨_, { w.drew with heap := w.heap.push (.cells arr e (c, c + 1)) }, ?_, hK, ⟨rfl, rfl, rfl⟩⟩
    have hsh : (({ w.drew with heap := w.heap.push (.cells arr e) } : World).shape? w.heap.size) = some (e, arr.size) := by simp [World.shape?]
    simp only [convert, Sem.run_bind, run_underlying hs, run_underlying hd, Result.andThen_ok, run_underlying (isU8_sound he), Conv.stringToBytes]
    have hch : (choose (.appendCap b.size 0 e)).run P w = .ok c w.drew := by rw [← hc]; rfl
    simp only [hch, Result.andThen_ok, earr, run_new, Sem.run_bind]
    have hm : (markStringish ⟨w.drew.heap.size, 0, none⟩).run P { w.drew with heap := w.drew.heap.push (.cells arr e) } = .ok () { w.drew with heap := w.heap.push (.cells arr e (c, c + 1)) } := by
      unfold markStringish
      simp only [shape, freeze, Sem.run_bind, Sem.run, Result.andThen_ok]
      have hsh' : (({ w.drew with heap := w.drew.heap.push (.cells arr e) } : World).shape? w.drew.heap.size) = some (e, arr.size) := hsh
      rw [hsh']
      simp only [Sem.run, World.freeze]
      rw [if_neg (by omega)]
      congr 2
      rw [harr]
      apply Array.ext_getElem?
      intro k
      rw [Array.getElem?_modify]
      simp only [show w.drew.heap = w.heap from rfl]
      by_cases hk : w.heap.size = k
      · subst hk
        rw [if_pos rfl, Array.getElem?_push, Array.getElem?_push, if_pos rfl, if_pos rfl]
        simp
      · rw [if_neg hk, Array.getElem?_push, Array.getElem?_push, if_neg (fun e => hk e.symm), if_neg (fun e => hk e.symm)]
    simp only [hm, Result.andThen_ok, Sem.run_pure]
    rfl
  · exact h.elim
end Go.Proofs.Ytompmkmbppcadaa.V
