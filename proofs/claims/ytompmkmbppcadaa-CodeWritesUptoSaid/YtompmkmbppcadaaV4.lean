/-
  A VIEW OF THE MACHINE AS A PREDICATE TRANSFORMER OVER THE HEAP. Part 4: 'dQ' for all operations that change nothing.
-/
import Derived.Test.YtompmkmbppcadaaV3
import Derived.Laws.BytesString
namespace Go.Proofs.Ytompmkmbppcadaa.V
open Go Go.RowKit
set_option linter.unusedVariables false
set_option linter.unusedSimpArgs false

/-! ### conversions -/
def isU8 (P : Program) (t : TypeId) : Bool := match P.underlying t with | some (.int .u8) => true | _ => false
theorem isU8_sound {P : Program} {t : TypeId} (h : isU8 P t = true) : P.underlying t = some (.int .u8) := by
  unfold isU8 at h; split at h <;> simp at h; assumption
def b2s (p : Option Addr) (n : Nat) (h : Heap) (K : ByteArray → Prop) : Prop := ∃ xs : List Int, rdP h p n = some (xs.map (Value.int .u8)) ∧ K (bytesOfInts xs)
def dConvQ (P : Program) (s d : TypeId) (v : Value) (h : Heap) (K : Value → Prop) : Prop :=
  match P.underlying s, P.underlying d with
  | some _, some (.int k) => vInt v fun _ n => K (.int k (k.wrap n))
  | some (.slice e), some .string => chk (isU8 P e) (vSl v fun p n _ => b2s p n h fun s => K (.string s))
  | some .string, some .string => vStr v fun s => K (.string s)
  | _, _ => False
theorem push_toArray (xs : List Int) : ∀ (r : ByteArray), xs.foldl (fun r n => r.push (UInt8.ofNat n.toNat)) r = ⟨r.data ++ (xs.map fun n => UInt8.ofNat n.toNat).toArray⟩ := by
  induction xs with
  | nil => intro r; simp
  | cons x xs ih => intro r; rw [List.foldl_cons, ih]; simp [ByteArray.push]
theorem rdP_map {h : Heap} {p : Option Addr} {n : Nat} {xs : List Int} (e : rdP h p n = some (xs.map (Value.int .u8))) : p = none → xs = [] := by
  rintro rfl; simpa [rdP] using e
theorem dConvQ_sound {P : Program} {s d : TypeId} {v : Value} {h : Heap} {K : Value → Prop} (hh : dConvQ P s d v h K) :
    ∃ u, K u ∧ ∀ w : World, (∀ p n c, v = .slice p n c → rdP w.heap p n = rdP h p n) → (convert s d v).run P w = .ok u w := by
  unfold dConvQ at hh
  split at hh
  · rename_i ds k hs hd
    replace hh := vInt_sound hh; obtain ⟨k', n, rfl, hh⟩ := hh
    exact ⟨_, hh, fun w _ => by simp [convert, run_underlying hs, run_underlying hd, Conv.intToInt]⟩
  · rename_i e hs hd
    replace hh := chk_sound hh; obtain ⟨he, hh⟩ := hh
    replace hh := vSl_sound hh; obtain ⟨p, n, c, rfl, hh⟩ := hh
    obtain ⟨xs, hx, hK⟩ := hh
    refine ⟨_, hK, fun w hw => ?_⟩
    rw [run_convert_bytes_string w s d e p n c hs (isU8_sound he) hd]
    rw [← hw p n c rfl] at hx
    cases p with
    | none =>
      have := rdP_map hx rfl; subst this
      simp [Conv.bytesToString, bytesOfInts]; rfl
    | some a =>
      rw [run_bytesToString w a n c xs (run_loadCells_rd hx), push_toArray]
      simp [bytesOfInts, ByteArray.empty, ByteArray.emptyWithCapacity]
      rfl
  · rename_i hs hd
    replace hh := vStr_sound hh; obtain ⟨b, rfl, hh⟩ := hh
    exact ⟨_, hh, fun w _ => by simp [convert, run_underlying hs, run_underlying hd]⟩
  · exact hh.elim

/-! ### builtins -/
def evs (env : Env) : List Operand → (List Value → Prop) → Prop
  | [], K => K []
  | x :: xs, K => ev1 env x fun v => evs env xs fun vs => K (v :: vs)
theorem evs_sound {env : Env} : ∀ {xs : List Operand} {K : List Value → Prop}, evs env xs K → ∃ vs, K vs ∧ ∀ (a : Act), (∀ y ∈ xs, ∀ u, ev env y = some u → a.eval y = u) → xs.map a.eval = vs
  | [], K, h => ⟨[], h, fun _ _ => rfl⟩
  | x :: xs, K, h => by
    replace h := ev1_sound h; obtain ⟨v, hv, h⟩ := h
    replace h := evs_sound (xs := xs) (K := fun vs => K (v :: vs)) h; obtain ⟨vs, hK, hs⟩ := h
    refine ⟨_, hK, fun a he => ?_⟩
    rw [List.map_cons, he x (by simp) v hv, hs a (fun y hy => he y (by simp [hy]))]
def dLen (P : Program) (t : TypeId) (v : Value) (K : Value → Prop) : Prop :=
  match P.underlying t with
  | some .string => vStr v fun s => K (.int .i64 (s.size : Int))
  | some (.slice _) => vSl v fun _ n _ => K (.int .i64 (n : Int))
  | some (.array n _) => K (.int .i64 (n : Int))
  | some (.pointer e) => on (arrT P e) fun x => K (.int .i64 (x.1 : Int))
  | _ => False
def dCap (P : Program) (t : TypeId) (v : Value) (K : Value → Prop) : Prop :=
  match P.underlying t with
  | some (.slice _) => vSl v fun _ _ n => K (.int .i64 (n : Int))
  | _ => False
/-- A builtin that changes nothing, at values. -/
def dBuiltQ (P : Program) (b : Builtin) (ts : List TypeId) (vs : List Value) (K : Value → Prop) : Prop :=
  match b, ts, vs with
  | .len, t :: _, v :: _ => dLen P t v K
  | .cap, t :: _, v :: _ => dCap P t v K
  | .max, _, [x, y] => vInt x fun k a => vInt y fun _ b => K (.int k (if b > a then b else a))
  | .min, _, [x, y] => vInt x fun k a => vInt y fun _ b => K (.int k (if b < a then b else a))
  | _, _, _ => False
theorem dBuiltQ_sound {P : Program} {b : Builtin} {ts : Array TypeId} {vs : List Value} {K : Value → Prop} (h : dBuiltQ P b ts.toList vs K) :
    ∃ u, K u ∧ ∀ (ty : TypeId) (cs : Array Bool) (w : World), (builtin b ts ty cs vs.toArray).run P w = .ok (.value u) w := by
  unfold dBuiltQ at h
  split at h
  · rename_i t ts' v vs' hts
    have e0 : ts[0]? = some t := by rw [← Array.getElem?_toList, hts]; rfl
    unfold dLen at h
    split at h
    · rename_i hu
      replace h := vStr_sound h; obtain ⟨s, rfl, h⟩ := h
      exact ⟨_, h, fun ty cs w => by simp [builtin, Builtin.len_, e0, run_underlying hu, goInt]⟩
    · rename_i hu
      replace h := vSl_sound h; obtain ⟨p, n, c, rfl, h⟩ := h
      exact ⟨_, h, fun ty cs w => by simp [builtin, Builtin.len_, e0, run_underlying hu, goInt]⟩
    · rename_i hu
      exact ⟨_, h, fun ty cs w => by simp [builtin, Builtin.len_, e0, run_underlying hu, goInt]⟩
    · rename_i hu
      replace h := on_sound h; obtain ⟨⟨n, e⟩, he, h⟩ := h
      exact ⟨_, h, fun ty cs w => by simp [builtin, Builtin.len_, e0, run_underlying hu, run_underlying (arrT_sound he), goInt]⟩
    · exact h.elim
  · rename_i t ts' v vs' hts
    have e0 : ts[0]? = some t := by rw [← Array.getElem?_toList, hts]; rfl
    unfold dCap at h
    split at h
    · rename_i hu
      replace h := vSl_sound h; obtain ⟨p, n, c, rfl, h⟩ := h
      exact ⟨_, h, fun ty cs w => by simp [builtin, Builtin.cap_, e0, run_underlying hu, goInt]⟩
    · exact h.elim
  · replace h := vInt_sound h; obtain ⟨k, a, rfl, h⟩ := h
    replace h := vInt_sound h; obtain ⟨k', b', rfl, h⟩ := h
    exact ⟨_, h, fun ty cs w => by simp [builtin, Builtin.max_, Builtin.max2]⟩
  · replace h := vInt_sound h; obtain ⟨k, a, rfl, h⟩ := h
    replace h := vInt_sound h; obtain ⟨k', b', rfl, h⟩ := h
    exact ⟨_, h, fun ty cs w => by simp [builtin, Builtin.min_, Builtin.min2]⟩
  · exact h.elim

/-! ### literals of structs and arrays -/
def evP (env : Env) : List (Nat × Operand) → (List (Nat × Value) → Prop) → Prop
  | [], K => K []
  | (i, x) :: xs, K => ev1 env x fun v => evP env xs fun vs => K ((i, v) :: vs)
theorem evP_sound {env : Env} : ∀ {xs : List (Nat × Operand)} {K : List (Nat × Value) → Prop}, evP env xs K →
    ∃ vs, K vs ∧ ∀ (a : Act), (∀ y ∈ xs.map (·.2), ∀ u, ev env y = some u → a.eval y = u) → xs.map (fun (i, x) => (i, a.eval x)) = vs
  | [], K, h => ⟨[], h, fun _ _ => rfl⟩
  | (i, x) :: xs, K, h => by
    replace h := ev1_sound h; obtain ⟨v, hv, h⟩ := h
    replace h := evP_sound (xs := xs) (K := fun vs => K ((i, v) :: vs)) h; obtain ⟨vs, hK, hs⟩ := h
    refine ⟨_, hK, fun a he => ?_⟩
    rw [List.map_cons, hs a (fun y hy => he y (by simp only [List.map_cons, List.mem_cons]; exact .inr hy))]
    simp only [he x (by simp) v hv]
/-- Cells laid over others, from a place on. -/
def over : List Value → List Value → List Value
  | cs, [] => cs
  | _ :: cs, v :: vs => v :: over cs vs
  | [], _ => []
def spl : List Value → Nat → List Value → List Value
  | cs, 0, vs => over cs vs
  | c :: cs, n + 1, vs => c :: spl cs n vs
  | [], _, _ => []
theorem over_get : ∀ {cs vs : List Value} {j : Nat}, (over cs vs)[j]? = if j < vs.length ∧ j < cs.length then vs[j]? else cs[j]?
  | cs, [], j => by cases cs <;> simp [over]
  | [], v :: vs, j => by simp [over]
  | c :: cs, v :: vs, 0 => by simp [over]
  | c :: cs, v :: vs, j + 1 => by simp [over, over_get (cs := cs) (vs := vs)]
theorem spl_get : ∀ {cs vs : List Value} {n j : Nat}, (spl cs n vs)[j]? = if n ≤ j ∧ j < n + vs.length ∧ j < cs.length then vs[j - n]? else cs[j]?
  | cs, vs, 0, j => by cases cs <;> simp [spl, over_get]
  | [], vs, n + 1, j => by simp [spl]
  | c :: cs, vs, n + 1, 0 => by simp [spl]
  | c :: cs, vs, n + 1, j + 1 => by
    simp only [spl, List.getElem?_cons_succ, spl_get (cs := cs) (vs := vs) (n := n), List.length_cons, Nat.add_le_add_iff_right, Nat.add_sub_add_right]
    congr 1
    simp; omega
theorem foldl_get (off : Nat) : ∀ (vs : List Value) (k : Nat) (cs : Array Value) (j : Nat), ((vs.zipIdx k).foldl (fun (cs : Array Value) (x : Value × Nat) => cs.setIfInBounds (off + x.2) x.1) cs)[j]? =
    if off + k ≤ j ∧ j < off + k + vs.length ∧ j < cs.size then vs[j - (off + k)]? else cs[j]?
  | [], k, cs, j => by simp; omega
  | v :: vs, k, cs, j => by
    rw [List.zipIdx_cons, List.foldl_cons, foldl_get off vs (k + 1)]
    simp only [Array.getElem?_setIfInBounds, Array.size_setIfInBounds, List.length_cons]
    by_cases h1 : off + k = j
    · subst h1
      rw [if_neg (by omega), if_pos rfl]
      by_cases h2 : off + k < cs.size
      · rw [if_pos h2, if_pos (by omega)]; simp
      · rw [if_neg h2, if_neg (by omega)]; rw [Array.getElem?_eq_none (by omega)]
    · rw [if_neg h1]
      by_cases h3 : off + (k + 1) ≤ j ∧ j < off + (k + 1) + vs.length ∧ j < cs.size
      · rw [if_pos h3, if_pos (by omega), show j - (off + k) = (j - (off + (k + 1))) + 1 by omega]; simp
      · rw [if_neg h3, if_neg (by omega)]
theorem foldl_spl (off : Nat) (v : Array Value) (cs : List Value) : (v.zipIdx.foldl (fun (cs : Array Value) (x : Value × Nat) => cs.setIfInBounds (off + x.2) x.1) cs.toArray) = (spl cs off v.toList).toArray := by
  apply Array.ext_getElem?
  intro j
  have e : (spl cs off v.toList).toArray[j]? = (spl cs off v.toList)[j]? := by simp
  rw [e, ← Array.foldl_toList, Array.toList_zipIdx, foldl_get, spl_get]
  simp
def fillC (place : Nat → Option (Nat × Nat)) : List (Nat × Value) → List Value → (List Value → Prop) → Prop
  | [], cs, K => K cs
  | (i, v) :: rest, cs, K => on (place i) fun p => chk (Nat.beq v.cells.toList.length p.2 && Nat.ble (p.1 + p.2) cs.length) (forceL (spl cs p.1 v.cells.toList) fun cs => fillC place rest cs K)
theorem fillC_sound {place : Nat → Option (Nat × Nat)} : ∀ {ps : List (Nat × Value)} {cs : List Value} {K : List Value → Prop}, fillC place ps cs K → ∃ cells : Array Value, Instr.fill place cs.toArray ps = some cells ∧ K cells.toList
  | [], cs, K, h => ⟨cs.toArray, rfl, h⟩
  | (i, v) :: rest, cs, K, h => by
    simp only [fillC] at h
    replace h := on_sound h; obtain ⟨⟨off, size⟩, hp, h⟩ := h
    replace h := chk_sound h; obtain ⟨hc, h⟩ := h
    replace h := forceL_sound h
    obtain ⟨cells, hf, hK⟩ := fillC_sound h
    rw [Bool.and_eq_true] at hc
    have h1 := Nat.eq_of_beq_eq_true hc.1
    have h2 := Nat.le_of_ble_eq_true hc.2
    simp only [Array.length_toList] at h1
    refine ⟨cells, ?_, hK⟩
    unfold Instr.fill
    simp only [hp]
    have : ¬ ((decide (v.cells.size ≠ size) || decide (off + v.cells.size > cs.toArray.size)) = true) := by
      simp [h1]; simp at h2; omega
    rw [if_neg this, foldl_spl]
    exact hf
def placesT (P : Program) : List Field → Option (List (Nat × Nat))
  | [] => some []
  | f :: fs => match sizeT P f.type, placesT P fs with
    | some n, some r => some ((f.offset, n) :: r)
    | _, _ => none
theorem placesT_eq {P : Program} : ∀ (fs : List Field), fs.mapM (fun f => (P.info? f.type).map fun i => (f.offset, i.size)) = placesT P fs
  | [] => rfl
  | f :: fs => by
    simp only [List.mapM_cons, placesT, sizeT, placesT_eq fs]
    cases P.info? f.type with
    | none => rfl
    | some i => cases placesT P fs <;> rfl
def dBuild (P : Program) (t : TypeId) (ps : List (Nat × Value)) (K : Value → Prop) : Prop :=
  on (zeroT P t) fun z => match P.underlying t with
    | some (.array _ e) => on (sizeT P e) fun n => on (zeroT P e) fun _ => fillC (fun i => some (i * n, n)) ps z.cells.toList fun cs => K (.agg cs.toArray)
    | some (.struct fs) => on (placesT P fs.toList) fun pl => fillC (pl[·]?) ps z.cells.toList fun cs => K (.agg cs.toArray)
    | _ => False
theorem dBuild_sound {P : Program} {t : TypeId} {ps : List (Nat × Value)} {K : Value → Prop} (h : dBuild P t ps K) : ∃ cells, P.built t ps = some cells ∧ K (.agg cells) := by
  unfold dBuild at h
  replace h := on_sound h; obtain ⟨z, hz, h⟩ := h
  unfold zeroT at hz
  cases hi : P.info? t with
  | none => simp [hi] at hz
  | some it =>
    simp [hi] at hz
    split at h
    · rename_i e hu
      replace h := on_sound h; obtain ⟨n, hn, h⟩ := h
      replace h := on_sound h; obtain ⟨_, _, h⟩ := h
      obtain ⟨cells, hf, hK⟩ := fillC_sound h
      unfold sizeT at hn
      cases hie : P.info? e with
      | none => simp [hie] at hn
      | some ie =>
        simp [hie] at hn
        subst hn
        exact ⟨cells, by simp only [Program.built, hi, hu, hz, hie]; exact hf, hK⟩
    · rename_i fs hu
      replace h := on_sound h; obtain ⟨pl, hp, h⟩ := h
      obtain ⟨cells, hf, hK⟩ := fillC_sound h
      refine ⟨cells, ?_, hK⟩
      simp only [Program.built, hi, hu, hz, placesT_eq, hp]
      simpa using hf
    · exact h.elim

/-! ### addresses -/
/-- An element's address. -/
def ixS (size : Nat) (s : Sl) (i : Int) (K : Addr → Prop) : Prop := ∃ a, s.ptr = some a ∧ 0 ≤ i ∧ i < (s.len : Int) ∧ K (a.add (i.toNat * size))
def ixA (size : Nat) (a : Addr) (n : Nat) (i : Int) (K : Addr → Prop) : Prop := 0 ≤ i ∧ i < (n : Int) ∧ K (a.add (i.toNat * size))
def dIndexAddr (P : Program) (t : TypeId) (x i : Value) (K : Value → Prop) : Prop :=
  match P.underlying t with
  | some (.slice e) => on (sizeT P e) fun size => vSl x fun p n c => vInt i fun _ i => ixS size ⟨p, n, c⟩ i fun a => K (.pointer (some a))
  | some (.array n e) => on (sizeT P e) fun size => vAddr x fun a => vInt i fun _ i => ixA size a n i fun a => K (.pointer (some a))
  | _ => False
theorem dIndexAddr_sound {P : Program} {t : TypeId} {x i : Value} {K : Value → Prop} (h : dIndexAddr P t x i K) :
    ∃ v, K v ∧ ∀ w : World, (Instr.indexAt t x i).run P w = .ok v w := by
  unfold dIndexAddr at h
  split at h
  · rename_i e hu
    replace h := on_sound h; obtain ⟨size, hs, h⟩ := h
    replace h := vSl_sound h; obtain ⟨p, n, c, rfl, h⟩ := h
    replace h := vInt_sound h; obtain ⟨k, i, rfl, h⟩ := h
    obtain ⟨a, hp, h0, h1, h⟩ := h
    simp only at hp h1; subst hp
    exact ⟨_, h, fun w => by simp [Instr.indexAt, asIntOf, run_underlying hu, run_sizeT hs, h0, h1]⟩
  · rename_i n e hu
    replace h := on_sound h; obtain ⟨size, hs, h⟩ := h
    replace h := vAddr_sound h; obtain ⟨a, rfl, h⟩ := h
    replace h := vInt_sound h; obtain ⟨k, i, rfl, h⟩ := h
    obtain ⟨h0, h1, h⟩ := h
    exact ⟨_, h, fun w => by simp [Instr.indexAt, asIntOf, Instr.sureAddr, run_underlying hu, run_sizeT hs, h0, h1]⟩
  · exact h.elim
/-- A byte of a string. -/
def stAt (s : ByteArray) (i : Int) (K : Int → Prop) : Prop := ∃ b : UInt8, 0 ≤ i ∧ s[i.toNat]? = some b ∧ K (b.toNat : Int)
/-- A part of an array or a struct. -/
def dPart (P : Program) (t : TypeId) (cs : List Value) (off : Nat) (K : Value → Prop) : Prop :=
  on (aggT P t) fun b => match b with
    | true => on (sizeT P t) fun size => forceL ((cs.drop off).take size) fun us => K (.agg us.toArray)
    | false => on cs[off]? K
theorem dPart_sound {P : Program} {t : TypeId} {cs : Array Value} {off : Nat} {K : Value → Prop} (h : dPart P t cs.toList off K) :
    ∃ v, K v ∧ ∀ w : World, (part t cs off).run P w = .ok v w := by
  unfold dPart at h
  replace h := on_sound h; obtain ⟨b, hb, h⟩ := h
  cases b with
  | true =>
    replace h := on_sound h; obtain ⟨size, hs, h⟩ := h
    replace h := forceL_sound h
    refine ⟨_, h, fun w => ?_⟩
    simp only [part, Sem.run_bind, run_isAgg hb, Result.andThen_ok, if_true, run_sizeT hs, Sem.run_pure]
    congr 2
    apply Array.ext'
    simp [List.take_drop]
  | false =>
    replace h := on_sound h; obtain ⟨v, hv, h⟩ := h
    refine ⟨v, h, fun w => ?_⟩
    rw [Array.getElem?_toList] at hv
    simp only [part, Sem.run_bind, run_isAgg hb, Result.andThen_ok, Bool.false_eq_true, if_false, hv, Sem.run_pure]
def dIndex (P : Program) (t : TypeId) (x i : Value) (K : Value → Prop) : Prop :=
  match P.underlying t with
  | some .string => vStr x fun s => vInt i fun _ i => stAt s i fun b => K (.int .u8 b)
  | some (.array n e) => vAgg x fun cs => vInt i fun _ i => on (sizeT P e) fun size => 0 ≤ i ∧ i < (n : Int) ∧ dPart P e cs.toList (i.toNat * size) K
  | _ => False
theorem dIndex_sound {P : Program} {t : TypeId} {x i : Value} {K : Value → Prop} (h : dIndex P t x i K) :
    ∃ v, K v ∧ ∀ w : World, (Instr.index t x i).run P w = .ok v w := by
  unfold dIndex at h
  split at h
  · rename_i hu
    replace h := vStr_sound h; obtain ⟨s, rfl, h⟩ := h
    replace h := vInt_sound h; obtain ⟨k, i, rfl, h⟩ := h
    obtain ⟨b, h0, hb, h⟩ := h
    exact ⟨_, h, fun w => by simp [Instr.index, asIntOf, run_underlying hu, h0, hb]⟩
  · rename_i n e hu
    replace h := vAgg_sound h; obtain ⟨cs, rfl, h⟩ := h
    replace h := vInt_sound h; obtain ⟨k, i, rfl, h⟩ := h
    replace h := on_sound h; obtain ⟨size, hs, h⟩ := h
    obtain ⟨h0, h1, h⟩ := h
    obtain ⟨v, hv, hr⟩ := dPart_sound h
    exact ⟨v, hv, fun w => by simp [Instr.index, asIntOf, run_underlying hu, run_sizeT hs, h0, h1, hr]⟩
  · exact h.elim
end Go.Proofs.Ytompmkmbppcadaa.V
