import Derived.Test.YtigcpkejjjgkeaaZQuorumRow2
import Derived.Test.YtigcpkejjjgkeaaProg
/- Counting: how a quorum stands while answers of one kind come in. -/
namespace Go.Proofs.Ytigcpkejjjgkeaa.V
open Go Go.RowKit
set_option linter.unusedVariables false
set_option linter.unusedSimpArgs false
structure QS.Base (q : QS) (nd : Int) (l : List Int) : Prop where
  ok : q.Ok
  n : q.node = nd
  s : q.shard = 1
  c : q.cop = l
  e : q.epoch = 77
def need (l : List Int) : Nat := l.length / 2 + 1
structure QS.St0 (q : QS) (nd : Int) (l S : List Int) : Prop where
  b : q.Base nd l
  b0 : q.begun = 0
  d0 : q.done = 0
  go : S.length < need l → q.phase = 1 ∧ q.pm = S
  on : need l ≤ S.length → q.phase = 2 ∧ q.tag = (77, 1) ∧ q.wr = []
structure QS.St1 (q : QS) (nd : Int) (l S : List Int) : Prop where
  b : q.Base nd l
  b0 : q.begun = 0
  d0 : q.done = 0
  t : q.tag = (77, 1)
  w : q.wr = S
  go : S.length < need l → q.phase = 2
  on : need l ≤ S.length → q.phase = 3
structure QS.St2 (q : QS) (nd : Int) (l S : List Int) : Prop where
  b : q.Base nd l
  b0 : q.begun = 1
  p : q.phase = 3
  w : q.bt = S
  go : S.length < need l → q.done = 0
  on : need l ≤ S.length → q.done = 1
def QS.StK (q : QS) (nd : Int) (l : List Int) (k : Int) (S : List Int) : Prop := if k = 0 then q.St0 nd l S else if k = 1 then q.St1 nd l S else q.St2 nd l S
section
variable {q : QS} {nd : Int} {l S : List Int} {m : Mg} {c : Int}
theorem most_need (e : q.cop = l) {n : Nat} : q.most (n : Int) = decide (need l ≤ n) := by
  unfold QS.most need
  rw [e]
  apply decide_eq_decide.2
  omega
theorem left_len : ∀ (l : List Int) (S : List Int), (l.map fun c => decide (c ∈ S)).count false = (l.filter fun c => !decide (c ∈ S)).length
  | [], S => rfl
  | x :: l, S => by
    rw [List.map_cons, List.count_cons, List.filter_cons, left_len l S]
    by_cases h : x ∈ S <;> simp [h]
theorem mark_put (hn : l.Nodup) {p : Nat} (hp : l[p]? = some c) : (l.map fun c => decide (c ∈ S)).set p true = l.map fun x => decide (x ∈ putK S c) := by
  obtain ⟨hp1, hp2⟩ := List.getElem?_eq_some_iff.1 hp
  apply List.ext_getElem
  · simp
  intro j h1 h2
  simp only [List.length_set, List.length_map] at h1
  rw [List.getElem_set, List.getElem_map, List.getElem_map]
  by_cases hj : p = j
  · subst hj
    rw [if_pos rfl, hp2]
    exact (decide_eq_true putK_mem).symm
  · rw [if_neg hj]
    apply decide_eq_decide.2
    constructor
    · intro h
      unfold putK
      split
      · exact h
      · exact List.mem_append.2 (.inl h)
    · intro h
      rcases putK_sub h with h | h
      · exact h
      · exfalso
        apply hj
        have := (List.getElem_inj hn (i := p) (j := j) (h₀ := hp1) (h₁ := h1)).1 (by rw [hp2, h])
        exact this
theorem putK_len (h : c ∉ S) : (putK S c).length = S.length + 1 := by
  unfold putK
  rw [if_neg h, List.length_append]
  rfl
theorem putK_in (h : c ∈ S) : putK S c = S := if_pos h
theorem hear0 (st : q.St0 nd l S) (hS : S.length < need l) (hc : c ∈ l) (hk : m.kind = 2) (hf : m.frm = c) (ht : m.to = nd) (hs : m.shard = 1) (he : m.epoch = 77) (hb : m.b.length ≤ (140737488355325 : Nat)) : (q.hear m 6).1.St0 nd l (putK S c) ∧ (q.hear m 6).2.length = if need l ≤ (putK S c).length then l.length else 0 := by
  have okh := st.b.ok.hear hb 6
  obtain ⟨p1, p2⟩ := st.go hS
  have hg : ¬ (m.to ≠ q.node ∨ m.shard ≠ q.shard ∨ m.frm ∉ q.cop) := by rw [ht, hs, hf, st.b.n, st.b.s, st.b.c]; simp [hc]
  have e1 : q.hear m 6 = q.promise m 6 := by unfold QS.hear; rw [if_neg hg, if_pos hk]
  rw [e1] at okh ⊢
  unfold QS.promise at okh ⊢
  by_cases hi : c ∈ S
  · have h1 : q.phase ≠ 1 ∨ m.epoch ≠ q.epoch ∨ m.frm ∈ q.pm := .inr (.inr (by rw [hf, p2]; exact hi))
    rw [if_pos h1, putK_in hi, if_neg (by omega)]
    exact ⟨st, rfl⟩
  · have h1 : ¬ (q.phase ≠ 1 ∨ m.epoch ≠ q.epoch ∨ m.frm ∈ q.pm) := by rw [hf, p2, p1, he, st.b.e]; simp [hi]
    obtain ⟨s1, s2, s3, s4, s5, s6⟩ := prom_same (q := q) (m := m)
    have s7 : (q.prom m).begun = q.begun ∧ (q.prom m).done = q.done := by unfold QS.prom; split <;> exact ⟨rfl, rfl⟩
    rw [hf, p2] at s6
    rw [if_neg h1] at okh ⊢
    rw [most_need (s3.trans st.b.c), s6] at okh ⊢
    by_cases hm : need l ≤ (putK S c).length
    · rw [if_pos (decide_eq_true hm)] at okh ⊢
      rw [if_pos hm]
      refine ⟨⟨⟨okh, s1.trans st.b.n, s2.trans st.b.s, s3.trans st.b.c, s5.trans st.b.e⟩, s7.1.trans st.b0, s7.2.trans st.d0, fun h => by omega, fun _ => ⟨rfl, ?_, rfl⟩⟩, ?_⟩
      · show ((q.prom m).epoch, (1 : Int)) = _
        rw [s5, st.b.e]
      · show (List.map _ (List.filter _ (q.prom m).cop)).length = _
        rw [List.length_map, s3, st.b.c]
        show (List.filter (fun c => !decide (c ∈ ([] : List Int))) l).length = _
        simp
    · rw [if_neg (by simp [hm])] at okh ⊢
      rw [if_neg hm]
      exact ⟨⟨⟨okh, s1.trans st.b.n, s2.trans st.b.s, s3.trans st.b.c, s5.trans st.b.e⟩, s7.1.trans st.b0, s7.2.trans st.d0, fun _ => ⟨s4.trans p1, s6⟩, fun h => absurd h hm⟩, rfl⟩
theorem hear1 (st : q.St1 nd l S) (hS : S.length < need l) (hc : c ∈ l) (hk : m.kind = 5) (hf : m.frm = c) (ht : m.to = nd) (hs : m.shard = 1) (he : m.te = 77) (he2 : m.ts = 1) (hb : m.b.length ≤ (140737488355325 : Nat)) : (q.hear m 6).1.St1 nd l (putK S c) ∧ (q.hear m 6).2.length = 0 := by
  have okh := st.b.ok.hear hb 6
  have p1 := st.go hS
  have hg : ¬ (m.to ≠ q.node ∨ m.shard ≠ q.shard ∨ m.frm ∉ q.cop) := by rw [ht, hs, hf, st.b.n, st.b.s, st.b.c]; simp [hc]
  have e1 : q.hear m 6 = (q.stored m, []) := by unfold QS.hear; rw [if_neg hg, if_neg (by omega), if_pos hk]
  rw [e1] at okh ⊢
  refine ⟨?_, rfl⟩
  show (q.stored m).St1 nd l _
  replace okh : (q.stored m).Ok := okh
  unfold QS.stored at okh ⊢
  have h1 : q.phase = 2 ∧ m.te = q.tag.1 ∧ m.ts = q.tag.2 := ⟨p1, by rw [he, st.t], by rw [he2, st.t]⟩
  rw [if_pos h1, hf, st.w, most_need st.b.c] at okh ⊢
  by_cases hm : need l ≤ (putK S c).length
  · rw [if_pos (decide_eq_true hm)] at okh ⊢
    exact ⟨⟨okh, st.b.n, st.b.s, st.b.c, st.b.e⟩, st.b0, st.d0, st.t, rfl, fun h => by omega, fun _ => rfl⟩
  · rw [if_neg (by simp [hm])] at okh ⊢
    exact ⟨⟨okh, st.b.n, st.b.s, st.b.c, st.b.e⟩, st.b0, st.d0, st.t, rfl, fun _ => p1, fun h => absurd h hm⟩
theorem hear2 (st : q.St2 nd l S) (hS : S.length < need l) (hc : c ∈ l) (hk : m.kind = 7) (hf : m.frm = c) (ht : m.to = nd) (hs : m.shard = 1) (he : m.epoch = 77) (hr : m.round = 1) (hb : m.b.length ≤ (140737488355325 : Nat)) : (q.hear m 6).1.St2 nd l (putK S c) ∧ (q.hear m 6).2.length = 0 := by
  have okh := st.b.ok.hear hb 6
  have p1 := st.go hS
  have hg : ¬ (m.to ≠ q.node ∨ m.shard ≠ q.shard ∨ m.frm ∉ q.cop) := by rw [ht, hs, hf, st.b.n, st.b.s, st.b.c]; simp [hc]
  have e1 : q.hear m 6 = (q.beat m, []) := by unfold QS.hear; rw [if_neg hg, if_neg (by omega), if_neg (by omega), if_neg (by omega), if_pos hk]
  rw [e1] at okh ⊢
  refine ⟨?_, rfl⟩
  show (q.beat m).St2 nd l _
  replace okh : (q.beat m).Ok := okh
  unfold QS.beat at okh ⊢
  have hh : q.holds = true := by unfold QS.holds; rw [st.p]; rfl
  have h1 : q.holds = true ∧ q.begun ≠ q.done ∧ m.epoch = q.epoch ∧ m.round = q.begun := ⟨hh, by rw [st.b0, p1]; decide, by rw [he, st.b.e], by rw [hr, st.b0]⟩
  rw [if_pos h1, hf, st.w, most_need st.b.c] at okh ⊢
  by_cases hm : need l ≤ (putK S c).length
  · rw [if_pos (decide_eq_true hm)] at okh ⊢
    exact ⟨⟨okh, st.b.n, st.b.s, st.b.c, st.b.e⟩, st.b0, st.p, rfl, fun h => by omega, fun _ => st.b0⟩
  · rw [if_neg (by simp [hm])] at okh ⊢
    exact ⟨⟨okh, st.b.n, st.b.s, st.b.c, st.b.e⟩, st.b0, st.p, rfl, fun _ => p1, fun h => absurd h hm⟩
theorem tick1 (st : q.St1 nd l S) (hS : S.length < need l) : (q.tick 6).1 = q ∧ (q.tick 6).2.length = (l.filter fun c => !decide (c ∈ S)).length := by
  have p1 := st.go hS
  have hh : q.holds = false := by unfold QS.holds; rw [p1, st.t]; rfl
  unfold QS.tick
  rw [if_pos hh]
  refine ⟨rfl, ?_⟩
  show (q.tick0 6).length = _
  unfold QS.tick0
  rw [if_neg (by omega), if_pos p1]
  show (List.map _ (List.filter _ q.cop)).length = _
  rw [List.length_map, st.b.c, st.w]
theorem tick2 (st : q.St2 nd l S) (hS : S.length < need l) : (q.tick 6).1 = q ∧ (q.tick 6).2.length = (l.filter fun c => !decide (c ∈ S)).length := by
  have p1 := st.go hS
  have hh : q.holds = true := by unfold QS.holds; rw [st.p]; rfl
  unfold QS.tick
  rw [if_neg (by simp [hh]), if_neg (by rw [st.b0, p1]; decide)]
  refine ⟨rfl, ?_⟩
  show (q.tick0 6 ++ q.beats 6).length = _
  unfold QS.tick0
  rw [if_neg (by rw [st.p]; decide), if_neg (by rw [st.p]; decide)]
  show (List.map _ (List.filter _ q.cop)).length = _
  rw [List.length_map, st.b.c, st.w]
theorem round1 (st : q.St1 nd l S) (hS : need l ≤ S.length) : (q.tick 6).1.St2 nd l [] ∧ (q.tick 6).2.length = l.length := by
  have okh := st.b.ok.tick 6
  have p1 := st.on hS
  have hh : q.holds = true := by unfold QS.holds; rw [p1]; rfl
  unfold QS.tick at okh ⊢
  rw [if_neg (by simp [hh]), if_pos (by rw [st.b0, st.d0]), if_neg (by rw [st.b0]; decide)] at okh ⊢
  refine ⟨⟨⟨okh, st.b.n, st.b.s, st.b.c, st.b.e⟩, by show q.begun + 1 = 1; rw [st.b0]; rfl, p1, rfl, fun _ => st.d0, fun h => ?_⟩, ?_⟩
  · simp [need] at h
  · show (q.tick0 6 ++ q.rise.beats 6).length = _
    unfold QS.tick0
    rw [if_neg (by rw [p1]; decide), if_neg (by rw [p1]; decide)]
    show (List.map _ (List.filter (fun c => !decide (c ∈ ([] : List Int))) q.cop)).length = _
    rw [List.length_map, st.b.c]
    simp
theorem stage1 (st : q.St0 nd l S) (hS : need l ≤ S.length) : q.St1 nd l [] :=
  ⟨st.b, st.b0, st.d0, (st.on hS).2.1, (st.on hS).2.2, fun _ => (st.on hS).1, fun h => by simp [need] at h⟩
/-- A message that counts for a stage. -/
structure Ans (nd : Int) (k c : Int) (m : Mg) : Prop where
  f : m.frm = c
  t : m.to = nd
  s : m.shard = 1
  b : m.b.length ≤ (140737488355325 : Nat)
  k0 : k = 0 → m.kind = 2 ∧ m.epoch = 77
  k1 : k = 1 → m.kind = 5 ∧ m.te = 77 ∧ m.ts = 1
  k2 : k = 2 → m.kind = 7 ∧ m.epoch = 77 ∧ m.round = 1
theorem hearK {k : Int} (h0 : 0 ≤ k) (h3 : k < 3) (st : q.StK nd l k S) (hS : S.length < need l) (hc : c ∈ l) (a : Ans nd k c m) : (q.hear m 6).1.StK nd l k (putK S c) ∧ (q.hear m 6).2.length = if k = 0 ∧ need l ≤ (putK S c).length then l.length else 0 := by
  unfold QS.StK at st ⊢
  by_cases e0 : k = 0
  · rw [if_pos e0] at st ⊢
    obtain ⟨x, y⟩ := hear0 st hS hc (a.k0 e0).1 a.f a.t a.s (a.k0 e0).2 a.b
    exact ⟨x, by simpa [e0] using y⟩
  rw [if_neg e0] at st ⊢
  by_cases e1 : k = 1
  · rw [if_pos e1] at st ⊢
    obtain ⟨x, y⟩ := hear1 st hS hc (a.k1 e1).1 a.f a.t a.s (a.k1 e1).2.1 (a.k1 e1).2.2 a.b
    exact ⟨x, by simpa [e0] using y⟩
  · rw [if_neg e1] at st ⊢
    have e2 : k = 2 := by omega
    obtain ⟨x, y⟩ := hear2 st hS hc (a.k2 e2).1 a.f a.t a.s (a.k2 e2).2.1 (a.k2 e2).2.2 a.b
    exact ⟨x, by simpa [e0] using y⟩
theorem tickK {k : Int} (h0 : 0 < k) (st : q.StK nd l k S) (hS : S.length < need l) : (q.tick 6).1 = q ∧ (q.tick 6).2.length = (l.filter fun c => !decide (c ∈ S)).length := by
  unfold QS.StK at st
  rw [if_neg (by omega)] at st
  by_cases e1 : k = 1
  · rw [if_pos e1] at st
    exact tick1 st hS
  · rw [if_neg e1] at st
    exact tick2 st hS
theorem StK.base {k : Int} (st : q.StK nd l k S) : q.Base nd l := by
  unfold QS.StK at st
  split at st
  · exact st.b
  split at st
  · exact st.b
  · exact st.b
theorem StK.phase0 (st : q.StK nd l 0 S) (hS : need l ≤ S.length) : q.phase = 2 := (QS.St0.on (show q.St0 nd l S from st) hS).1
theorem StK.holds {k : Int} (h0 : 0 < k) (st : q.StK nd l k S) (hS : need l ≤ S.length) : q.holds = true := by
  unfold QS.StK at st
  rw [if_neg (by omega)] at st
  unfold QS.holds
  split at st
  · rw [st.on hS]; rfl
  · rw [st.p]; rfl
theorem StK.done (st : q.StK nd l 2 S) (hS : need l ≤ S.length) : q.done = 1 := QS.St2.on (show q.St2 nd l S from st) hS
theorem start_St0 (ok : q.Ok) (e1 : q.node = nd) (e2 : q.shard = 1) (e3 : q.cop = l) (hl : 2 ≤ need l) (hn : l.Nodup) (hm : nd ∈ l) {b : List UInt8} (hb : b.length ≤ (140737488355325 : Nat)) : (q.start 77 3 4 b 6).1.StK nd l 0 [nd] ∧ (q.start 77 3 4 b 6).2.length = l.length - 1 := by
  have oks := ok.start (e := 77) (te := 3) (ts := 4) (span := 6) hb
  have hmost : (q.start0 77 3 4 b).most 1 = false := by
    have := most_need (q := q.start0 77 3 4 b) (l := l) e3 (n := 1)
    rw [show ((1 : Nat) : Int) = 1 from rfl] at this
    rw [this]
    exact decide_eq_false (by omega)
  unfold QS.start at oks ⊢
  rw [if_neg (by simp [hmost])] at oks ⊢
  refine ⟨?_, ?_⟩
  · show (q.start0 77 3 4 b).St0 nd l [nd]
    refine ⟨⟨oks, e1, e2, e3, rfl⟩, rfl, rfl, fun _ => ⟨rfl, ?_⟩, fun h => ?_⟩
    · show [q.node] = _
      rw [e1]
    · simp only [List.length_singleton] at h; omega
  · show (List.map _ (List.filter (fun c => !(c == q.node)) q.cop)).length = _
    rw [List.length_map, e3, e1]
    have h1 : (l.filter fun c => !(c == nd)).length + (l.filter fun c => c == nd).length = l.length := by
      clear hmost oks hm hn hl e3
      induction l with
      | nil => rfl
      | cons x l ih =>
        simp only [List.filter_cons, List.length_cons]
        cases x == nd <;> simp <;> omega
    have h2 : (l.filter fun c => c == nd).length = 1 := by
      have := (List.Nodup.count (a := nd) hn).trans (if_pos hm)
      rw [List.count_eq_length_filter] at this
      exact this
    omega
end
theorem copyN_nodup {n : Nat} (h : n = 1 ∨ n = 3 ∨ n = 5 ∨ n = 7) : (copyN n).Nodup := by
  rcases h with rfl | rfl | rfl | rfl <;> decide
end Go.Proofs.Ytigcpkejjjgkeaa.V
namespace Go.Proofs.Ytigcpkejjjgkeaa.V
open Go Go.RowKit
set_option linter.unusedVariables false
set_option maxRecDepth 100000
def F_law10_left.l1 (l1 : Sl) (j2 : Int → Heap → Prop) : Int → Int → Heap → Prop :=
  wl [(3, .one (.int .i64)), (4, .one (.int .i64))] (fun (next3 : Int → Int → Heap → Prop) (n4 i5 : Int) (h6 : Heap) =>
  brr (decide (i5 < ((l1.len : Nat) : Int)))
  (ixS 1 l1 i5 fun (a7 : Addr) =>
  ld [.bool] a7 h6 fun (v8 : Bool) =>
  jn [(3, .one (.int .i64))] (fun (n10 : Int) (h11 : Heap) =>
  next3 n10 (IntKind.i64.wrap (i5 + 1)) h11) (fun (j9 : Int → Heap → Prop) =>
  brr (!v8)
  (j9 (IntKind.i64.wrap (n4 + 1)) h6)
  (j9 n4 h6)))
  (j2 n4 h6))
def F_law10_left_of  (l1 : Sl) (h : Heap) (Q : Int → Heap → Prop) : Prop :=
  jn [(3, .one (.int .i64))] (fun (n12 : Int) (h13 : Heap) =>
  Q n12 h13) (fun (j2 : Int → Heap → Prop) =>
  F_law10_left.l1 l1 j2 0 0 h)
def F_law10_left (l1 : Sl) (h : Heap) (Q : Int → Heap → Prop) : Prop := F_law10_left_of  l1 h Q
def plan32 : Plan := .s (.r [0]) (.s (.r [0, 3]) (.s (.s (.r [0, 3, 4]) (.bj [(3, .one (.int .i64))] [] (.l [(3, .one (.int .i64)), (4, .one (.int .i64))] [0] (.s (.s (.r [0, 3, 4, 8]) (.c .z .z)) (.s (.b (.s (.r [0, 3, 4, 15]) (.cj [(3, .one (.int .i64))] [0, 4] (.r [0, 3, 4]) .z))) (.r [0, 3, 4])))))) (.s (.r [2]) .z)))
theorem F_law10_left.eq  (l1 : Sl) (h : Heap) (K : Value → Heap → Prop) : F_law10_left_of  l1 h (fun (r0 : Int) (h : Heap) => K (.int .i64 r0) h) =
    den Try.prog noFns Try.f32.ntmps plan32 (bodyOf Try.f32) (args0 0 [(.slice l1.ptr l1.len l1.cap : Value)]) h ⟨fun env h => dRes Try.prog Try.f32.results.toList env h K, fun _ _ _ => False, fun env h => dRes Try.prog Try.f32.results.toList env h K⟩ := by kernel_rfl
def E_law10_left_of (f : Sl → Heap → (Int → Heap → Prop) → Prop) : List Value → Heap → (Value → Heap → Prop) → Prop
  | [v0], h, K => dec1 .sl v0 fun (l1 : Sl) =>
  f l1 h (fun (r0 : Int) (h : Heap) => K (.int .i64 r0) h)
  | _, _, _ => False
abbrev E_law10_left := E_law10_left_of F_law10_left
theorem E_law10_left.right : IsRight Try.prog 32 E_law10_left := by
  refine isRight fun vs K w hh => ?_
  match vs, hh with
  | [v0], hh =>
    unfold E_law10_left E_law10_left_of at hh
    replace hh := dec1_sound hh; obtain ⟨l1, rfl, hh⟩ := hh
    unfold F_law10_left at hh
    exact calls_den noFns_right plan32 _ w K Try.func32 (by kernel_rfl) (by kernel_rfl) (Eq.mp (F_law10_left.eq  l1 w.heap K) hh)
theorem ok32 : okFn Try.prog 32 = true := by kernel_rfl
end Go.Proofs.Ytigcpkejjjgkeaa.V
namespace Go.Proofs.Ytigcpkejjjgkeaa.V
open Go Go.RowKit
set_option linter.unusedVariables false
set_option maxRecDepth 100000
def F_law10_Nodes_Steps0_of  (n1 : Int) (n2 : Sl) (i3 : Int) (h : Heap) (Q : Int → Heap → Prop) : Prop :=
  al 24 [.int .i64 n1, .slice n2.ptr n2.len n2.cap] h fun (a4 : Addr) (h5 : Heap) =>
  ld [.sl] (a4.add 1) h5 fun (v6 : Sl) =>
  brr (decide (i3 < ((v6.len : Nat) : Int)))
  (ld [.sl] (a4.add 1) h5 fun (v7 : Sl) =>
  ixS 3 v7 i3 fun (a8 : Addr) =>
  ld [.int .i64] (a8.add 2) h5 fun (v9 : Int) =>
  Q v9 h5)
  (Q 0 h5)
def F_law10_Nodes_Steps0 (n1 : Int) (n2 : Sl) (i3 : Int) (h : Heap) (Q : Int → Heap → Prop) : Prop := F_law10_Nodes_Steps0_of  n1 n2 i3 h Q
def plan55 : Plan := .s (.r [1, 2]) (.s (.s (.r [1, 2, 9]) (.c (.s (.r [4]) .z) .z)) (.s (.r [4]) .z))
theorem F_law10_Nodes_Steps0.eq  (n1 : Int) (n2 : Sl) (i3 : Int) (h : Heap) (K : Value → Heap → Prop) : F_law10_Nodes_Steps0_of  n1 n2 i3 h (fun (r0 : Int) (h : Heap) => K (.int .i64 r0) h) =
    den Try.prog noFns Try.f55.ntmps plan55 (bodyOf Try.f55) (args0 0 [(.agg #[.int .i64 n1, .slice n2.ptr n2.len n2.cap] : Value), (.int .i64 i3 : Value)]) h ⟨fun env h => dRes Try.prog Try.f55.results.toList env h K, fun _ _ _ => False, fun env h => dRes Try.prog Try.f55.results.toList env h K⟩ := by kernel_rfl
def E_law10_Nodes_Steps0_of (f : Int → Sl → Int → Heap → (Int → Heap → Prop) → Prop) : List Value → Heap → (Value → Heap → Prop) → Prop
  | [v0, v1], h, K => vAgg v0 fun cs0 => decs [.int .i64, .sl] cs0.toList fun (n1 : Int) (n2 : Sl) =>
  dec1 (.int .i64) v1 fun (i3 : Int) =>
  f n1 n2 i3 h (fun (r0 : Int) (h : Heap) => K (.int .i64 r0) h)
  | _, _, _ => False
abbrev E_law10_Nodes_Steps0 := E_law10_Nodes_Steps0_of F_law10_Nodes_Steps0
theorem E_law10_Nodes_Steps0.right : IsRight Try.prog 55 E_law10_Nodes_Steps0 := by
  refine isRight fun vs K w hh => ?_
  match vs, hh with
  | [v0, v1], hh =>
    unfold E_law10_Nodes_Steps0 E_law10_Nodes_Steps0_of at hh
    replace hh := vAgg_sound hh; obtain ⟨cs0, rfl, hh⟩ := hh
    replace hh := decs_cons hh; obtain ⟨n1, l0_0, e0_0, hh⟩ := hh
    replace hh := decs_cons hh; obtain ⟨n2, l0_1, e0_1, hh⟩ := hh
    replace hh := decs_nil hh; obtain ⟨rfl, hh⟩ := hh
    subst e0_1
    have ec0 := toArray_eq e0_0
    subst ec0
    replace hh := dec1_sound hh; obtain ⟨i3, rfl, hh⟩ := hh
    unfold F_law10_Nodes_Steps0 at hh
    exact calls_den noFns_right plan55 _ w K Try.func55 (by kernel_rfl) (by kernel_rfl) (Eq.mp (F_law10_Nodes_Steps0.eq  n1 n2 i3 w.heap K) hh)
theorem ok55 : okFn Try.prog 55 = true := by kernel_rfl
end Go.Proofs.Ytigcpkejjjgkeaa.V
namespace Go.Proofs.Ytigcpkejjjgkeaa.V
open Go Go.RowKit
set_option linter.unusedVariables false
set_option maxRecDepth 100000
def F_law10_Nodes_answer_of (f7_ : Int → Int → Heap → (Int → Heap → Prop) → Prop) (f55_ : Int → Sl → Int → Heap → (Int → Heap → Prop) → Prop) (n1 : Int) (n2 l3 : Sl) (me4 k5 p6 i7 : Int) (h : Heap) (Q : Int → Int → Int → Int → Int → Int → Int → Int → Int → Int → Sl → Int → Int → ByteArray → ByteArray → Int → Int → Int → Int → Int → Int → Int → Heap → Prop) : Prop :=
  al 24 [.int .i64 n1, .slice n2.ptr n2.len n2.cap] h fun (a8 : Addr) (h9 : Heap) =>
  al 66 [.int .i64 0, .int .i64 0, .int .i64 0, .int .i64 0, .int .u64 0, .int .u64 0, .int .u64 0, .int .u64 0, .int .i64 0, .int .u64 0, .slice none 0 0, .int .i64 0, .int .u64 0, .string (⟨#[]⟩ : ByteArray), .string (⟨#[]⟩ : ByteArray), .int .u64 0, .int .u64 0, .int .u64 0, .int .i64 0, .int .i64 0, .int .i64 0, .int .i64 0] h9 fun (a10 : Addr) (h11 : Heap) =>
  ixS 1 l3 p6 fun (a12 : Addr) =>
  ld [.int .i64] a12 h11 fun (v13 : Int) =>
  ixS 1 l3 me4 fun (a14 : Addr) =>
  ld [.int .i64] a14 h11 fun (v15 : Int) =>
  al 66 [.int .i64 0, .int .i64 0, .int .i64 0, .int .i64 0, .int .u64 0, .int .u64 0, .int .u64 0, .int .u64 0, .int .i64 0, .int .u64 0, .slice none 0 0, .int .i64 0, .int .u64 0, .string (⟨#[]⟩ : ByteArray), .string (⟨#[]⟩ : ByteArray), .int .u64 0, .int .u64 0, .int .u64 0, .int .i64 0, .int .i64 0, .int .i64 0, .int .i64 0] h11 fun (a16 : Addr) (h17 : Heap) =>
  cellsAre h17 a12 [.int .i64 v13] ∧
  cellsAre h17 a14 [.int .i64 v15] ∧
  st a16 [.int .i64 2, .int .i64 v13, .int .i64 v15, .int .i64 1, .int .u64 0, .int .u64 0, .int .u64 0, .int .u64 0, .int .i64 0, .int .u64 0, .slice none 0 0, .int .i64 0, .int .u64 0, .string (⟨#[]⟩ : ByteArray), .string (⟨#[]⟩ : ByteArray), .int .u64 0, .int .u64 0, .int .u64 0, .int .i64 0, .int .i64 0, .int .i64 0, .int .i64 0] h17 fun (h18 : Heap) =>
  jn [] (fun  (h40 : Heap) =>
  ld [.int .i64, .int .i64, .int .i64, .int .i64, .int .u64, .int .u64, .int .u64, .int .u64, .int .i64, .int .u64, .sl, .int .i64, .int .u64, .str, .str, .int .u64, .int .u64, .int .u64, .int .i64, .int .i64, .int .i64, .int .i64] a16 h40 fun (v41 v42 v43 v44 v45 v46 v47 v48 v49 v50 : Int) (v51 : Sl) (v52 v53 : Int) (v54 v55 : ByteArray) (v56 v57 v58 v59 v60 v61 v62 : Int) =>
  st a10 [.int .i64 v41, .int .i64 v42, .int .i64 v43, .int .i64 v44, .int .u64 v45, .int .u64 v46, .int .u64 v47, .int .u64 v48, .int .i64 v49, .int .u64 v50, .slice v51.ptr v51.len v51.cap, .int .i64 v52, .int .u64 v53, .string v54, .string v55, .int .u64 v56, .int .u64 v57, .int .u64 v58, .int .i64 v59, .int .i64 v60, .int .i64 v61, .int .i64 v62] h40 fun (h63 : Heap) =>
  ld [.int .i64, .int .i64, .int .i64, .int .i64, .int .u64, .int .u64, .int .u64, .int .u64, .int .i64, .int .u64, .sl, .int .i64, .int .u64, .str, .str, .int .u64, .int .u64, .int .u64, .int .i64, .int .i64, .int .i64, .int .i64] a10 h63 fun (v64 v65 v66 v67 v68 v69 v70 v71 v72 v73 : Int) (v74 : Sl) (v75 v76 : Int) (v77 v78 : ByteArray) (v79 v80 v81 v82 v83 v84 v85 : Int) =>
  Q v64 v65 v66 v67 v68 v69 v70 v71 v72 v73 v74 v75 v76 v77 v78 v79 v80 v81 v82 v83 v84 v85 h63) (fun (j19 : Heap → Prop) =>
  brr (k5 == 0)
  (st (a16.add 4) [.int .u64 77] h18 fun (h20 : Heap) =>
  ld [.int .i64, .sl] a8 h20 fun (v21 : Int) (v22 : Sl) =>
  f55_ v21 v22 i7 h20 fun (r23 : Int) (h24 : Heap) =>
  f7_ r23 5 h24 fun (r25 : Int) (h26 : Heap) =>
  st (a16.add 5) [.int .u64 (IntKind.u64.wrap r25), .int .u64 (IntKind.u64.wrap p6)] h26 fun (h27 : Heap) =>
  al 5 [.int .u8 (IntKind.u8.wrap p6)] h27 fun (a28 : Addr) (h29 : Heap) =>
  st (a16.add 10) [.slice (some a28) 1 1] h29 fun (h30 : Heap) =>
  j19 h30)
  (jn [] (fun  (h39 : Heap) =>
  j19 h39) (fun (j31 : Heap → Prop) =>
  brr (k5 == 1)
  (st ((a16.add 0).add 0) [.int .i64 5] h18 fun (h32 : Heap) =>
  st (a16.add 5) [.int .u64 77, .int .u64 1] h32 fun (h33 : Heap) =>
  j31 h33)
  (jn [] (fun  (h38 : Heap) =>
  j31 h38) (fun (j34 : Heap → Prop) =>
  brr (k5 == 2)
  (st ((a16.add 0).add 0) [.int .i64 7] h18 fun (h35 : Heap) =>
  st (a16.add 4) [.int .u64 77] h35 fun (h36 : Heap) =>
  st (a16.add 7) [.int .u64 1] h36 fun (h37 : Heap) =>
  j34 h37)
  (j34 h18))))))
def F_law10_Nodes_answer (n1 : Int) (n2 l3 : Sl) (me4 k5 p6 i7 : Int) (h : Heap) (Q : Int → Int → Int → Int → Int → Int → Int → Int → Int → Int → Sl → Int → Int → ByteArray → ByteArray → Int → Int → Int → Int → Int → Int → Int → Heap → Prop) : Prop := F_law10_Nodes_answer_of F_law10_into F_law10_Nodes_Steps0 n1 n2 l3 me4 k5 p6 i7 h Q
def plan33 : Plan := .s (.r [1, 2, 3, 4, 5, 6, 12]) (.s (.d [0, 0, 3, 7, 0, 0, 48, 112, 255, 511, 0, 2047] [[0, 1, 2, 3, 4, 5, 6, 7, 8, 9, 10, 11]] [3, 4, 5, 6, 12, 13]) (.s (.s (.r [4, 5, 6, 12, 13, 24]) (.b (.s (.r [4, 5, 6, 12, 13, 24, 25]) (.cj [] [12, 13] (.s (.r [4, 5, 6, 12, 13]) (.s (.r [4, 12, 13]) (.r [12, 13]))) (.s (.r [12, 13, 24, 41]) (.cj [] [12, 13] (.s (.r [12, 13]) (.r [12, 13])) (.s (.r [12, 13, 47]) (.cj [] [12, 13] (.s (.r [12, 13]) (.s (.r [12, 13]) (.r [12, 13]))) .z)))))))) (.s (.r [12]) .z)))
theorem F_law10_Nodes_answer.eq (f7_ : Int → Int → Heap → (Int → Heap → Prop) → Prop) (f55_ : Int → Sl → Int → Heap → (Int → Heap → Prop) → Prop) (n1 : Int) (n2 l3 : Sl) (me4 k5 p6 i7 : Int) (h : Heap) (K : Value → Heap → Prop) : F_law10_Nodes_answer_of f7_ f55_ n1 n2 l3 me4 k5 p6 i7 h (fun (r0 r1 r2 r3 r4 r5 r6 r7 r8 r9 : Int) (r10 : Sl) (r11 r12 : Int) (r13 r14 : ByteArray) (r15 r16 r17 r18 r19 r20 r21 : Int) (h : Heap) => K (.agg #[.int .i64 r0, .int .i64 r1, .int .i64 r2, .int .i64 r3, .int .u64 r4, .int .u64 r5, .int .u64 r6, .int .u64 r7, .int .i64 r8, .int .u64 r9, .slice r10.ptr r10.len r10.cap, .int .i64 r11, .int .u64 r12, .string r13, .string r14, .int .u64 r15, .int .u64 r16, .int .u64 r17, .int .i64 r18, .int .i64 r19, .int .i64 r20, .int .i64 r21]) h) =
    den Try.prog (fn1 7 (E_law10_into_of f7_) (fn1 55 (E_law10_Nodes_Steps0_of f55_) noFns)) Try.f33.ntmps plan33 (bodyOf Try.f33) (args0 0 [(.agg #[.int .i64 n1, .slice n2.ptr n2.len n2.cap] : Value), (.slice l3.ptr l3.len l3.cap : Value), (.int .i64 me4 : Value), (.int .i64 k5 : Value), (.int .i64 p6 : Value), (.int .i64 i7 : Value)]) h ⟨fun env h => dRes Try.prog Try.f33.results.toList env h K, fun _ _ _ => False, fun env h => dRes Try.prog Try.f33.results.toList env h K⟩ := by kernel_rfl
def E_law10_Nodes_answer_of (f : Int → Sl → Sl → Int → Int → Int → Int → Heap → (Int → Int → Int → Int → Int → Int → Int → Int → Int → Int → Sl → Int → Int → ByteArray → ByteArray → Int → Int → Int → Int → Int → Int → Int → Heap → Prop) → Prop) : List Value → Heap → (Value → Heap → Prop) → Prop
  | [v0, v1, v2, v3, v4, v5], h, K => vAgg v0 fun cs0 => decs [.int .i64, .sl] cs0.toList fun (n1 : Int) (n2 : Sl) =>
  dec1 .sl v1 fun (l3 : Sl) =>
  dec1 (.int .i64) v2 fun (me4 : Int) =>
  dec1 (.int .i64) v3 fun (k5 : Int) =>
  dec1 (.int .i64) v4 fun (p6 : Int) =>
  dec1 (.int .i64) v5 fun (i7 : Int) =>
  f n1 n2 l3 me4 k5 p6 i7 h (fun (r0 r1 r2 r3 r4 r5 r6 r7 r8 r9 : Int) (r10 : Sl) (r11 r12 : Int) (r13 r14 : ByteArray) (r15 r16 r17 r18 r19 r20 r21 : Int) (h : Heap) => K (.agg #[.int .i64 r0, .int .i64 r1, .int .i64 r2, .int .i64 r3, .int .u64 r4, .int .u64 r5, .int .u64 r6, .int .u64 r7, .int .i64 r8, .int .u64 r9, .slice r10.ptr r10.len r10.cap, .int .i64 r11, .int .u64 r12, .string r13, .string r14, .int .u64 r15, .int .u64 r16, .int .u64 r17, .int .i64 r18, .int .i64 r19, .int .i64 r20, .int .i64 r21]) h)
  | _, _, _ => False
abbrev E_law10_Nodes_answer := E_law10_Nodes_answer_of F_law10_Nodes_answer
theorem E_law10_Nodes_answer.right : IsRight Try.prog 33 E_law10_Nodes_answer := by
  refine isRight fun vs K w hh => ?_
  match vs, hh with
  | [v0, v1, v2, v3, v4, v5], hh =>
    unfold E_law10_Nodes_answer E_law10_Nodes_answer_of at hh
    replace hh := vAgg_sound hh; obtain ⟨cs0, rfl, hh⟩ := hh
    replace hh := decs_cons hh; obtain ⟨n1, l0_0, e0_0, hh⟩ := hh
    replace hh := decs_cons hh; obtain ⟨n2, l0_1, e0_1, hh⟩ := hh
    replace hh := decs_nil hh; obtain ⟨rfl, hh⟩ := hh
    subst e0_1
    have ec0 := toArray_eq e0_0
    subst ec0
    replace hh := dec1_sound hh; obtain ⟨l3, rfl, hh⟩ := hh
    replace hh := dec1_sound hh; obtain ⟨me4, rfl, hh⟩ := hh
    replace hh := dec1_sound hh; obtain ⟨k5, rfl, hh⟩ := hh
    replace hh := dec1_sound hh; obtain ⟨p6, rfl, hh⟩ := hh
    replace hh := dec1_sound hh; obtain ⟨i7, rfl, hh⟩ := hh
    unfold F_law10_Nodes_answer at hh
    exact calls_den (fn1_right ok7 E_law10_into.right (fn1_right ok55 E_law10_Nodes_Steps0.right noFns_right)) plan33 _ w K Try.func33 (by kernel_rfl) (by kernel_rfl) (Eq.mp (F_law10_Nodes_answer.eq F_law10_into F_law10_Nodes_Steps0 n1 n2 l3 me4 k5 p6 i7 w.heap K) hh)
theorem ok33 : okFn Try.prog 33 = true := by kernel_rfl
end Go.Proofs.Ytigcpkejjjgkeaa.V
namespace Go.Proofs.Ytigcpkejjjgkeaa.V
open Go Go.RowKit
set_option linter.unusedVariables false
set_option maxRecDepth 100000
def F_law10_Nodes_counts.l1 (f7_ : Int → Int → Heap → (Int → Heap → Prop) → Prop) (f11_ : Option Addr → Int → Heap → (Sl → Heap → Prop) → Prop) (f20_ : Option Addr → Int → Int → Int → Int → Int → Int → Int → Int → Int → Int → Sl → Int → Int → ByteArray → ByteArray → Int → Int → Int → Int → Int → Int → Int → Int → Heap → (Sl → Heap → Prop) → Prop) (f32_ : Sl → Heap → (Int → Heap → Prop) → Prop) (f33_ : Int → Sl → Sl → Int → Int → Int → Int → Heap → (Int → Int → Int → Int → Int → Int → Int → Int → Int → Int → Sl → Int → Int → ByteArray → ByteArray → Int → Int → Int → Int → Int → Int → Int → Heap → Prop) → Prop) (q3 : Option Addr) (l4 : Sl) (me5 k6 : Int) (Q : Bool → Heap → Prop) (a7 : Addr) (s9 : Sl) (j16 : Heap → Prop) : Int → Int → Heap → Prop :=
  wl [(13, .one (.int .i64)), (14, .one (.int .i64))] (fun (next17 : Int → Int → Heap → Prop) (count18 i19 : Int) (h20 : Heap) =>
  jn [(43, .one .bool)] (fun (x23 : Bool) (h24 : Heap) =>
  brr x23
  (((l4.len : Nat) : Int) ≠ 0 ∧
  ld [.sl] (a7.add 1) h24 fun (v25 : Sl) =>
  jn [(15, .one (.int .i64))] (fun (p32 : Int) (h33 : Heap) =>
  jn [(73, .one .bool)] (fun (x39 : Bool) (h40 : Heap) =>
  brr x39
  (Q false h40)
  (ld [.int .i64, .sl] a7 h40 fun (v41 : Int) (v42 : Sl) =>
  f33_ v41 v42 l4 me5 k6 p32 i19 h40 fun (r43 r44 r45 r46 r47 r48 r49 r50 r51 r52 : Int) (r53 : Sl) (r54 r55 : Int) (r56 r57 : ByteArray) (r58 r59 r60 r61 r62 r63 r64 : Int) (h65 : Heap) =>
  f20_ q3 r43 r44 r45 r46 r47 r48 r49 r50 r51 r52 r53 r54 r55 r56 r57 r58 r59 r60 r61 r62 r63 r64 6 h65 fun (r66 : Sl) (h67 : Heap) =>
  ixS 1 s9 p32 fun (a68 : Addr) =>
  ld [.bool] a68 h67 fun (v69 : Bool) =>
  jn [(13, .one (.int .i64))] (fun (count73 : Int) (h74 : Heap) =>
  jn [(114, .one .bool)] (fun (x76 : Bool) (h77 : Heap) =>
  brr x76
  (Q false h77)
  (next17 count73 (IntKind.i64.wrap (i19 + 1)) h77)) (fun (j75 : Bool → Heap → Prop) =>
  brr (k6 == 0)
  (brr (!((((r66.len : Nat) : Int) == ((l4.len : Nat) : Int)) == (count73 == (IntKind.i64.wrap ((IntKind.i64.wrap (((l4.len : Nat) : Int).tdiv 2)) + 1)))))
  (j75 true h74)
  (brr (decide (k6 > 0))
  (j75 (((r66.len : Nat) : Int) != 0) h74)
  (j75 false h74)))
  (brr (decide (k6 > 0))
  (j75 (((r66.len : Nat) : Int) != 0) h74)
  (j75 false h74)))) (fun (j70 : Int → Heap → Prop) =>
  brr (!v69)
  (ixS 1 s9 p32 fun (a71 : Addr) =>
  st a71 [.bool true] h67 fun (h72 : Heap) =>
  j70 (IntKind.i64.wrap (count18 + 1)) h72)
  (j70 count18 h67)))) (fun (j34 : Bool → Heap → Prop) =>
  brr (decide (k6 > 0))
  (f11_ q3 6 h33 fun (r35 : Sl) (h36 : Heap) =>
  f32_ s9 h36 fun (r37 : Int) (h38 : Heap) =>
  j34 (((r35.len : Nat) : Int) != r37) h38)
  (j34 false h33))) (fun (j26 : Int → Heap → Prop) =>
  brr (decide (i19 < ((v25.len : Nat) : Int)))
  (ld [.sl] (a7.add 1) h24 fun (v27 : Sl) =>
  ixS 3 v27 i19 fun (a28 : Addr) =>
  ld [.int .i64] (a28.add 1) h24 fun (v29 : Int) =>
  f7_ v29 ((l4.len : Nat) : Int) h24 fun (r30 : Int) (h31 : Heap) =>
  j26 r30 h31)
  (j26 (i19.tmod ((l4.len : Nat) : Int)) h24)))
  (j16 h24)) (fun (j21 : Bool → Heap → Prop) =>
  ld [.sl] (a7.add 1) h20 fun (v22 : Sl) =>
  brr (decide (i19 < (IntKind.i64.wrap (((v22.len : Nat) : Int) + ((l4.len : Nat) : Int)))))
  (j21 (decide (count18 < (IntKind.i64.wrap ((IntKind.i64.wrap (((l4.len : Nat) : Int).tdiv 2)) + 1)))) h20)
  (j21 false h20)))
def F_law10_Nodes_counts_of (f7_ : Int → Int → Heap → (Int → Heap → Prop) → Prop) (f11_ : Option Addr → Int → Heap → (Sl → Heap → Prop) → Prop) (f13_ : Option Addr → Heap → (Int → Heap → Prop) → Prop) (f20_ : Option Addr → Int → Int → Int → Int → Int → Int → Int → Int → Int → Int → Sl → Int → Int → ByteArray → ByteArray → Int → Int → Int → Int → Int → Int → Int → Int → Heap → (Sl → Heap → Prop) → Prop) (f30_ : Option Addr → Heap → (Bool → Heap → Prop) → Prop) (f32_ : Sl → Heap → (Int → Heap → Prop) → Prop) (f33_ : Int → Sl → Sl → Int → Int → Int → Int → Heap → (Int → Int → Int → Int → Int → Int → Int → Int → Int → Int → Sl → Int → Int → ByteArray → ByteArray → Int → Int → Int → Int → Int → Int → Int → Heap → Prop) → Prop) (f34_ : Option Addr → Heap → (Int → Int → Heap → Prop) → Prop) (n1 : Int) (n2 : Sl) (q3 : Option Addr) (l4 : Sl) (me5 k6 : Int) (h : Heap) (Q : Bool → Heap → Prop) : Prop :=
  al 24 [.int .i64 n1, .slice n2.ptr n2.len n2.cap] h fun (a7 : Addr) (h8 : Heap) =>
  (2 : Int) ≠ 0 ∧
  mk 4 1 1 (.bool false) ((l4.len : Nat) : Int) ((l4.len : Nat) : Int) h8 fun (s9 : Sl) (h10 : Heap) =>
  jn [(13, .one (.int .i64))] (fun (count14 : Int) (h15 : Heap) =>
  jn [] (fun  (h78 : Heap) =>
  f34_ q3 h78 fun (r79 r80 : Int) (h81 : Heap) =>
  jn [(10, .one .bool)] (fun (x89 : Bool) (h90 : Heap) =>
  Q x89 h90) (fun (j82 : Bool → Heap → Prop) =>
  brr (k6 == 0)
  (f13_ q3 h81 fun (r83 : Int) (h84 : Heap) =>
  brr (r83 != 2)
  (j82 (!true) h84)
  (brr (decide (k6 > 0))
  (f30_ q3 h84 fun (r85 : Bool) (h86 : Heap) =>
  brr (!r85)
  (j82 (!true) h86)
  (brr (k6 == 2)
  (j82 (!(r80 != 1)) h86)
  (j82 (!false) h86)))
  (brr (k6 == 2)
  (j82 (!(r80 != 1)) h84)
  (j82 (!false) h84))))
  (brr (decide (k6 > 0))
  (f30_ q3 h81 fun (r87 : Bool) (h88 : Heap) =>
  brr (!r87)
  (j82 (!true) h88)
  (brr (k6 == 2)
  (j82 (!(r80 != 1)) h88)
  (j82 (!false) h88)))
  (brr (k6 == 2)
  (j82 (!(r80 != 1)) h81)
  (j82 (!false) h81))))) (fun (j16 : Heap → Prop) =>
  F_law10_Nodes_counts.l1 f7_ f11_ f20_ f32_ f33_ q3 l4 me5 k6 Q a7 s9 j16 count14 0 h15)) (fun (j11 : Int → Heap → Prop) =>
  brr (k6 == 0)
  (ixS 1 s9 me5 fun (a12 : Addr) =>
  st a12 [.bool true] h10 fun (h13 : Heap) =>
  j11 1 h13)
  (j11 0 h10))
def F_law10_Nodes_counts (n1 : Int) (n2 : Sl) (q3 : Option Addr) (l4 : Sl) (me5 k6 : Int) (h : Heap) (Q : Bool → Heap → Prop) : Prop := F_law10_Nodes_counts_of F_law10_into F_quorum_Quorum_Tick F_quorum_Quorum_Phase F_quorum_Quorum_Hear F_quorum_Quorum_Holds F_law10_left F_law10_Nodes_answer F_quorum_Quorum_Round n1 n2 q3 l4 me5 k6 h Q
def plan12 : Plan := .s (.r [1, 2, 3, 4, 5]) (.s (.r [1, 2, 3, 4, 5, 11]) (.s (.r [1, 2, 3, 4, 5, 11, 12]) (.s (.r [1, 2, 3, 4, 5, 11, 12, 13]) (.s (.s (.r [1, 2, 3, 4, 5, 11, 12, 13, 27]) (.cj [(13, .one (.int .i64))] [1, 2, 3, 4, 5, 11, 12] (.s (.r [1, 2, 3, 4, 5, 11, 12]) (.r [1, 2, 3, 4, 5, 11, 12, 13])) .z)) (.s (.s (.r [1, 2, 3, 4, 5, 11, 12, 13, 14]) (.bj [] [1, 4] (.l [(13, .one (.int .i64)), (14, .one (.int .i64))] [1, 2, 3, 4, 5, 11, 12] (.s (.s (.rj [(43, .one .bool)] [1, 2, 3, 4, 5, 11, 12, 13, 14]) (.c .z .z)) (.s (.b (.s (.r [1, 2, 3, 4, 5, 11, 12, 13, 14, 15]) (.s (.s (.r [1, 2, 3, 4, 5, 11, 12, 13, 14, 15, 54]) (.cj [(15, .one (.int .i64))] [1, 2, 3, 4, 5, 11, 12, 13, 14] (.r [1, 2, 3, 4, 5, 11, 12, 13, 14, 15]) .z)) (.s (.s (.rj [(73, .one .bool)] [1, 2, 3, 4, 5, 11, 12, 13, 14, 15]) (.c (.s (.r [10]) .z) .z)) (.s (.r [1, 2, 3, 4, 5, 11, 12, 13, 14, 15, 16]) (.s (.s (.r [1, 2, 3, 4, 5, 11, 12, 13, 14, 15, 16, 87]) (.cj [(13, .one (.int .i64))] [1, 2, 3, 4, 5, 11, 12, 14, 16] (.s (.r [1, 2, 3, 4, 5, 11, 12, 13, 14, 16]) (.r [1, 2, 3, 4, 5, 11, 12, 13, 14, 16])) .z)) (.s (.rj [(114, .one .bool)] [1, 2, 3, 4, 5, 11, 12, 13, 14]) (.c (.s (.r [10]) .z) .z)))))))) (.r [1, 2, 3, 4, 5, 11, 12, 13, 14])))))) (.s (.r [1, 4, 18]) (.s (.rj [(10, .one .bool)] []) .z)))))))
theorem F_law10_Nodes_counts.eq (f7_ : Int → Int → Heap → (Int → Heap → Prop) → Prop) (f11_ : Option Addr → Int → Heap → (Sl → Heap → Prop) → Prop) (f13_ : Option Addr → Heap → (Int → Heap → Prop) → Prop) (f20_ : Option Addr → Int → Int → Int → Int → Int → Int → Int → Int → Int → Int → Sl → Int → Int → ByteArray → ByteArray → Int → Int → Int → Int → Int → Int → Int → Int → Heap → (Sl → Heap → Prop) → Prop) (f30_ : Option Addr → Heap → (Bool → Heap → Prop) → Prop) (f32_ : Sl → Heap → (Int → Heap → Prop) → Prop) (f33_ : Int → Sl → Sl → Int → Int → Int → Int → Heap → (Int → Int → Int → Int → Int → Int → Int → Int → Int → Int → Sl → Int → Int → ByteArray → ByteArray → Int → Int → Int → Int → Int → Int → Int → Heap → Prop) → Prop) (f34_ : Option Addr → Heap → (Int → Int → Heap → Prop) → Prop) (n1 : Int) (n2 : Sl) (q3 : Option Addr) (l4 : Sl) (me5 k6 : Int) (h : Heap) (K : Value → Heap → Prop) : F_law10_Nodes_counts_of f7_ f11_ f13_ f20_ f30_ f32_ f33_ f34_ n1 n2 q3 l4 me5 k6 h (fun (r0 : Bool) (h : Heap) => K (.bool r0) h) =
    den Try.prog (fn1 7 (E_law10_into_of f7_) (fn1 11 (E_quorum_Quorum_Tick_of f11_) (fn1 13 (E_quorum_Quorum_Phase_of f13_) (fn1 20 (E_quorum_Quorum_Hear_of f20_) (fn1 30 (E_quorum_Quorum_Holds_of f30_) (fn1 32 (E_law10_left_of f32_) (fn1 33 (E_law10_Nodes_answer_of f33_) (fn1 34 (E_quorum_Quorum_Round_of f34_) noFns)))))))) Try.f12.ntmps plan12 (bodyOf Try.f12) (args0 0 [(.agg #[.int .i64 n1, .slice n2.ptr n2.len n2.cap] : Value), (.pointer q3 : Value), (.slice l4.ptr l4.len l4.cap : Value), (.int .i64 me5 : Value), (.int .i64 k6 : Value)]) h ⟨fun env h => dRes Try.prog Try.f12.results.toList env h K, fun _ _ _ => False, fun env h => dRes Try.prog Try.f12.results.toList env h K⟩ := by kernel_rfl
def E_law10_Nodes_counts_of (f : Int → Sl → Option Addr → Sl → Int → Int → Heap → (Bool → Heap → Prop) → Prop) : List Value → Heap → (Value → Heap → Prop) → Prop
  | [v0, v1, v2, v3, v4], h, K => vAgg v0 fun cs0 => decs [.int .i64, .sl] cs0.toList fun (n1 : Int) (n2 : Sl) =>
  dec1 .ptr v1 fun (q3 : Option Addr) =>
  dec1 .sl v2 fun (l4 : Sl) =>
  dec1 (.int .i64) v3 fun (me5 : Int) =>
  dec1 (.int .i64) v4 fun (k6 : Int) =>
  f n1 n2 q3 l4 me5 k6 h (fun (r0 : Bool) (h : Heap) => K (.bool r0) h)
  | _, _, _ => False
abbrev E_law10_Nodes_counts := E_law10_Nodes_counts_of F_law10_Nodes_counts
theorem E_law10_Nodes_counts.right : IsRight Try.prog 12 E_law10_Nodes_counts := by
  refine isRight fun vs K w hh => ?_
  match vs, hh with
  | [v0, v1, v2, v3, v4], hh =>
    unfold E_law10_Nodes_counts E_law10_Nodes_counts_of at hh
    replace hh := vAgg_sound hh; obtain ⟨cs0, rfl, hh⟩ := hh
    replace hh := decs_cons hh; obtain ⟨n1, l0_0, e0_0, hh⟩ := hh
    replace hh := decs_cons hh; obtain ⟨n2, l0_1, e0_1, hh⟩ := hh
    replace hh := decs_nil hh; obtain ⟨rfl, hh⟩ := hh
    subst e0_1
    have ec0 := toArray_eq e0_0
    subst ec0
    replace hh := dec1_sound hh; obtain ⟨q3, rfl, hh⟩ := hh
    replace hh := dec1_sound hh; obtain ⟨l4, rfl, hh⟩ := hh
    replace hh := dec1_sound hh; obtain ⟨me5, rfl, hh⟩ := hh
    replace hh := dec1_sound hh; obtain ⟨k6, rfl, hh⟩ := hh
    unfold F_law10_Nodes_counts at hh
    exact calls_den (fn1_right ok7 E_law10_into.right (fn1_right ok11 E_quorum_Quorum_Tick.right (fn1_right ok13 E_quorum_Quorum_Phase.right (fn1_right ok20 E_quorum_Quorum_Hear.right (fn1_right ok30 E_quorum_Quorum_Holds.right (fn1_right ok32 E_law10_left.right (fn1_right ok33 E_law10_Nodes_answer.right (fn1_right ok34 E_quorum_Quorum_Round.right noFns_right)))))))) plan12 _ w K Try.func12 (by kernel_rfl) (by kernel_rfl) (Eq.mp (F_law10_Nodes_counts.eq F_law10_into F_quorum_Quorum_Tick F_quorum_Quorum_Phase F_quorum_Quorum_Hear F_quorum_Quorum_Holds F_law10_left F_law10_Nodes_answer F_quorum_Quorum_Round n1 n2 q3 l4 me5 k6 w.heap K) hh)
theorem ok12 : okFn Try.prog 12 = true := by kernel_rfl
end Go.Proofs.Ytigcpkejjjgkeaa.V
namespace Go.Proofs.Ytigcpkejjjgkeaa.V
open Go Go.RowKit
set_option linter.unusedVariables false
set_option maxRecDepth 100000
def F_law10_QuorumCounts.l1 (f11_ : Option Addr → Int → Heap → (Sl → Heap → Prop) → Prop) (f12_ : Int → Sl → Option Addr → Sl → Int → Int → Heap → (Bool → Heap → Prop) → Prop) (Q : Bool → Heap → Prop) (a3 : Addr) (r6 : Sl) (r9 : Int) (r13 : Option Addr) (j25 : Heap → Prop) : Int → Heap → Prop :=
  wl [(7, .one (.int .i64))] (fun (next26 : Int → Heap → Prop) (k27 : Int) (h28 : Heap) =>
  brr (decide (k27 < 3))
  (jn [(60, .one .bool)] (fun (x32 : Bool) (h33 : Heap) =>
  brr x32
  (Q false h33)
  (ld [.int .i64, .sl] a3 h33 fun (v34 : Int) (v35 : Sl) =>
  f12_ v34 v35 r13 r6 r9 k27 h33 fun (r36 : Bool) (h37 : Heap) =>
  brr (!r36)
  (Q false h37)
  (next26 (IntKind.i64.wrap (k27 + 1)) h37))) (fun (j29 : Bool → Heap → Prop) =>
  brr (k27 == 2)
  (f11_ r13 6 h28 fun (r30 : Sl) (h31 : Heap) =>
  j29 (((r30.len : Nat) : Int) != ((r6.len : Nat) : Int)) h31)
  (j29 false h28)))
  (j25 h28))
def F_law10_QuorumCounts_of (f6_ : Int → Heap → (Sl → Heap → Prop) → Prop) (f7_ : Int → Int → Heap → (Int → Heap → Prop) → Prop) (f8_ : Int → Int → Sl → Heap → (Option Addr → Heap → Prop) → Prop) (f9_ : Heap → (Bool → Heap → Prop) → Prop) (f10_ : Option Addr → Int → Int → Int → Int → Sl → Int → Heap → (Sl → Heap → Prop) → Prop) (f11_ : Option Addr → Int → Heap → (Sl → Heap → Prop) → Prop) (f12_ : Int → Sl → Option Addr → Sl → Int → Int → Heap → (Bool → Heap → Prop) → Prop) (f13_ : Option Addr → Heap → (Int → Heap → Prop) → Prop) (n1 : Int) (n2 : Sl) (h : Heap) (Q : Bool → Heap → Prop) : Prop :=
  al 24 [.int .i64 n1, .slice n2.ptr n2.len n2.cap] h fun (a3 : Addr) (h4 : Heap) =>
  ld [.int .i64] (a3.add 0) h4 fun (v5 : Int) =>
  f6_ v5 h4 fun (r6 : Sl) (h7 : Heap) =>
  ld [.sl] (a3.add 1) h7 fun (v8 : Sl) =>
  f7_ ((v8.len : Nat) : Int) ((r6.len : Nat) : Int) h7 fun (r9 : Int) (h10 : Heap) =>
  ixS 1 r6 r9 fun (a11 : Addr) =>
  ld [.int .i64] a11 h10 fun (v12 : Int) =>
  f8_ v12 1 r6 h10 fun (r13 : Option Addr) (h14 : Heap) =>
  jn [(28, .one .bool)] (fun (x18 : Bool) (h19 : Heap) =>
  brr x18
  (Q false h19)
  (al 5 [.int .u8 111, .int .u8 119, .int .u8 110] h19 fun (a20 : Addr) (h21 : Heap) =>
  frz (some a20) h21 fun (h22 : Heap) =>
  f10_ r13 77 77 3 4 ⟨(some a20), 3, 3⟩ 6 h22 fun (r23 : Sl) (h24 : Heap) =>
  brr (((r6.len : Nat) : Int) == 1)
  (Q (((r23.len : Nat) : Int) == 1) h24)
  (brr (((r23.len : Nat) : Int) != (IntKind.i64.wrap (((r6.len : Nat) : Int) - 1)))
  (Q false h24)
  (jn [] (fun  (h38 : Heap) =>
  f13_ r13 h38 fun (r39 : Int) (h40 : Heap) =>
  Q (r39 == 3) h40) (fun (j25 : Heap → Prop) =>
  F_law10_QuorumCounts.l1 f11_ f12_ Q a3 r6 r9 r13 j25 0 h24))))) (fun (j15 : Bool → Heap → Prop) =>
  brr r13.isNone
  (j15 true h14)
  (f9_ h14 fun (r16 : Bool) (h17 : Heap) =>
  j15 (!r16) h17))
def F_law10_QuorumCounts (n1 : Int) (n2 : Sl) (h : Heap) (Q : Bool → Heap → Prop) : Prop := F_law10_QuorumCounts_of F_law10_copiesOf F_law10_into F_quorum_New F_law10_wakes F_quorum_Quorum_Start F_quorum_Quorum_Tick F_law10_Nodes_counts F_quorum_Quorum_Phase n1 n2 h Q
def plan3 : Plan := .s (.r [1]) (.s (.r [1, 3]) (.s (.r [1, 3, 4]) (.s (.r [1, 3, 4, 5]) (.s (.s (.rj [(28, .one .bool)] [1, 3, 4, 5]) (.c (.s (.r [2]) .z) .z)) (.s (.r [1, 3, 4, 5, 6]) (.s (.s (.r [1, 3, 4, 5, 6, 37]) (.c (.s (.r [2]) .z) .z)) (.s (.s (.r [1, 3, 4, 5, 46]) (.c (.s (.r [2]) .z) .z)) (.s (.s (.r [1, 3, 4, 5, 7]) (.bj [] [5] (.l [(7, .one (.int .i64))] [1, 3, 4, 5] (.s (.s (.r [1, 3, 4, 5, 7, 48]) (.c .z .z)) (.s (.b (.s (.s (.rj [(60, .one .bool)] [1, 3, 4, 5, 7]) (.c (.s (.r [2]) .z) .z)) (.s (.r [1, 3, 4, 5, 7, 67]) (.c (.s (.r [2]) .z) .z)))) (.r [1, 3, 4, 5, 7])))))) (.s (.r [2]) .z)))))))))
theorem F_law10_QuorumCounts.eq (f6_ : Int → Heap → (Sl → Heap → Prop) → Prop) (f7_ : Int → Int → Heap → (Int → Heap → Prop) → Prop) (f8_ : Int → Int → Sl → Heap → (Option Addr → Heap → Prop) → Prop) (f9_ : Heap → (Bool → Heap → Prop) → Prop) (f10_ : Option Addr → Int → Int → Int → Int → Sl → Int → Heap → (Sl → Heap → Prop) → Prop) (f11_ : Option Addr → Int → Heap → (Sl → Heap → Prop) → Prop) (f12_ : Int → Sl → Option Addr → Sl → Int → Int → Heap → (Bool → Heap → Prop) → Prop) (f13_ : Option Addr → Heap → (Int → Heap → Prop) → Prop) (n1 : Int) (n2 : Sl) (h : Heap) (K : Value → Heap → Prop) : F_law10_QuorumCounts_of f6_ f7_ f8_ f9_ f10_ f11_ f12_ f13_ n1 n2 h (fun (r0 : Bool) (h : Heap) => K (.bool r0) h) =
    den Try.prog (fn1 6 (E_law10_copiesOf_of f6_) (fn1 7 (E_law10_into_of f7_) (fn1 8 (E_quorum_New_of f8_) (fn1 9 (E_law10_wakes_of f9_) (fn1 10 (E_quorum_Quorum_Start_of f10_) (fn1 11 (E_quorum_Quorum_Tick_of f11_) (fn1 12 (E_law10_Nodes_counts_of f12_) (fn1 13 (E_quorum_Quorum_Phase_of f13_) noFns)))))))) Try.f3.ntmps plan3 (bodyOf Try.f3) (args0 0 [(.agg #[.int .i64 n1, .slice n2.ptr n2.len n2.cap] : Value)]) h ⟨fun env h => dRes Try.prog Try.f3.results.toList env h K, fun _ _ _ => False, fun env h => dRes Try.prog Try.f3.results.toList env h K⟩ := by kernel_rfl
def E_law10_QuorumCounts_of (f : Int → Sl → Heap → (Bool → Heap → Prop) → Prop) : List Value → Heap → (Value → Heap → Prop) → Prop
  | [v0], h, K => vAgg v0 fun cs0 => decs [.int .i64, .sl] cs0.toList fun (n1 : Int) (n2 : Sl) =>
  f n1 n2 h (fun (r0 : Bool) (h : Heap) => K (.bool r0) h)
  | _, _, _ => False
abbrev E_law10_QuorumCounts := E_law10_QuorumCounts_of F_law10_QuorumCounts
theorem E_law10_QuorumCounts.at (f : Int → Sl → Heap → (Bool → Heap → Prop) → Prop) (n1 : Int) (n2 : Sl) (h : Heap) (K : Value → Heap → Prop) : E_law10_QuorumCounts_of f [.agg ([.int .i64 n1, .slice n2.ptr n2.len n2.cap] : List Value).toArray] h K = f n1 n2 h (fun (r0 : Bool) (h : Heap) => K (.bool r0) h) := rfl
theorem E_law10_QuorumCounts.right : IsRight Try.prog 3 E_law10_QuorumCounts := by
  refine isRight fun vs K w hh => ?_
  match vs, hh with
  | [v0], hh =>
    unfold E_law10_QuorumCounts E_law10_QuorumCounts_of at hh
    replace hh := vAgg_sound hh; obtain ⟨cs0, rfl, hh⟩ := hh
    replace hh := decs_cons hh; obtain ⟨n1, l0_0, e0_0, hh⟩ := hh
    replace hh := decs_cons hh; obtain ⟨n2, l0_1, e0_1, hh⟩ := hh
    replace hh := decs_nil hh; obtain ⟨rfl, hh⟩ := hh
    subst e0_1
    have ec0 := toArray_eq e0_0
    subst ec0
    unfold F_law10_QuorumCounts at hh
    exact calls_den (fn1_right ok6 E_law10_copiesOf.right (fn1_right ok7 E_law10_into.right (fn1_right ok8 E_quorum_New.right (fn1_right ok9 E_law10_wakes.right (fn1_right ok10 E_quorum_Quorum_Start.right (fn1_right ok11 E_quorum_Quorum_Tick.right (fn1_right ok12 E_law10_Nodes_counts.right (fn1_right ok13 E_quorum_Quorum_Phase.right noFns_right)))))))) plan3 _ w K Try.func3 (by kernel_rfl) (by kernel_rfl) (Eq.mp (F_law10_QuorumCounts.eq F_law10_copiesOf F_law10_into F_quorum_New F_law10_wakes F_quorum_Quorum_Start F_quorum_Quorum_Tick F_law10_Nodes_counts F_quorum_Quorum_Phase n1 n2 w.heap K) hh)
theorem ok3 : okFn Try.prog 3 = true := by kernel_rfl
end Go.Proofs.Ytigcpkejjjgkeaa.V
/- Counting alone: QuorumCounts. -/
namespace Go.Proofs.Ytigcpkejjjgkeaa.V
open Go Go.RowKit
set_option linter.unusedVariables false
set_option linter.unusedSimpArgs false
abbrev St3 := Int × Int × Int
def stC (x : St3) : List Value := [.int .i64 x.1, .int .i64 x.2.1, .int .i64 x.2.2]
def bo1 (b : Bool) : List Value := [.bool b]
theorem bo1_len (b : Bool) : (bo1 b).length = 1 := rfl
theorem bo1_one (b : Bool) : (bo1 b).all oneV = true := rfl
theorem mk_bools (n : Nat) : mkCells (.bool false) ((n : Int).toNat * 1) = (List.replicate n false).flatMap bo1 ++ [] := by
  rw [List.append_nil, Int.toNat_natCast, Nat.mul_one]
  unfold mkCells
  induction n with
  | zero => simp
  | succ n ih =>
    rw [List.replicate_succ, List.flatMap_cons, ← ih]
    apply List.ext_getElem
    · simp [bo1]
    · intro i h1 h2
      cases i <;> simp [bo1, Value.cells]
theorem rep_map : ∀ l : List Int, List.replicate l.length false = l.map fun c => decide (c ∈ ([] : List Int))
  | [] => rfl
  | x :: l => by rw [List.length_cons, List.replicate_succ, List.map_cons, rep_map l]; simp
section
variable {h0 h : Heap} {L : List Res} {p : Nat} {q : QS} {m : Mg}
theorem F_law10_Nodes_Steps0.is {n1 i : Int} {n2 : Sl} {xs : List St3} {Q : Int → Heap → Prop} (Vo : View h0 3 (En stC) n2 xs) (hi : 0 ≤ i) (O : Sat h0 h L) (k : ∀ x h', Sat h0 h' L → Q x h') : F_law10_Nodes_Steps0 n1 n2 i h Q := by
  rw [F_law10_Nodes_Steps0.eq_1, F_law10_Nodes_Steps0_of.eq_1]
  refine O.al fun a4 h O => ?_
  refine O.ld 0 rfl (ldL_s (ldL_n ?_))
  rw [Vo.len]
  refine brr_p (fun hlt => ?_) (fun hlt => k _ _ (O.sel [] 1 rfl (Nat.le_add_left _ _)))
  refine O.ld 0 rfl (ldL_s (ldL_n ?_))
  refine (Vo.kept O.kept).ix hi hlt fun a cs x hx hlen hR hc => ?_
  have e : cs = stC x := hR
  subst e
  refine ld_drop hc 2 (ldL_c (ldL_n ?_))
  exact k _ _ (O.sel [] 1 rfl (Nat.le_add_left _ _))
theorem F_law10_left.is {s : Sl} {bs : List Bool} {Q : Int → Heap → Prop} (V : View h 1 (En bo1) s bs) (hl : bs.length ≤ 1000000) (k : Q ((bs.count false : Nat) : Int) h) : F_law10_left s h Q := by
  rw [F_law10_left.eq_1, F_law10_left_of.eq_1]
  refine jn1 (fun n h' => h' = h ∧ n = ((bs.count false : Nat) : Int)) (fun n h' e => by obtain ⟨rfl, rfl⟩ := e; exact k) fun j hj => ?_
  rw [F_law10_left.l1.eq_1]
  refine wl2 (k := .int .i64) (l := .int .i64) (fun (m : Nat) (n i : Int) (h' : Heap) => h' = h ∧ i + m = bs.length ∧ 0 ≤ i ∧ n = (((bs.take i.toNat).count false : Nat) : Int)) ?_ (m := bs.length) ⟨rfl, by omega, by omega, by simp⟩
  rintro m (n : Int) (i : Int) h' next hnx ⟨rfl, him, hi0, hn⟩
  rw [V.len]
  refine brr_p (fun hlt => ?_) (fun hlt => hj _ _ ⟨rfl, by rw [hn, List.take_of_length_le (by omega)]⟩)
  obtain ⟨b, hb⟩ : ∃ b, bs[i.toNat]? = some b := ⟨_, List.getElem?_eq_getElem (by omega)⟩
  refine V.get1 (k := .bool) hi0 hb (fun x => x) (fun _ => rfl) ?_
  obtain ⟨hb1, hb2⟩ := List.getElem?_eq_some_iff.1 hb
  have et : (bs.take (i + 1).toNat).count false = (bs.take i.toNat).count false + (if b = false then 1 else 0) := by
    rw [show (i + 1).toNat = i.toNat + 1 by omega, List.take_succ_eq_append_getElem hb1, List.count_append, hb2]
    cases b <;> rfl
  have hc : (bs.take i.toNat).count false ≤ 1000000 := Nat.le_trans List.count_le_length (by rw [List.length_take]; omega)
  refine jn1 (fun x h2 => h2 = h' ∧ x = (((bs.take (i + 1).toNat).count false : Nat) : Int)) ?_ ?_
  · rintro x h2 ⟨rfl, rfl⟩
    rw [wrap64 (by omega) (by omega)]
    exact hnx (m - 1) _ _ _ (by omega) ⟨rfl, by omega, by omega, rfl⟩
  · intro j2 hj2
    cases b with
    | true =>
      refine brr_ff rfl (hj2 _ _ ⟨rfl, ?_⟩)
      rw [et]; simpa using hn
    | false =>
      refine brr_tt rfl ?_
      rw [wrap64 (by omega) (by omega)]
      refine hj2 _ _ ⟨rfl, ?_⟩
      rw [et, hn]; rfl
theorem F_law10_Nodes_answer.is {n1 me k pp i c nd : Int} {n2 sc : Sl} {l : List Int} {xs : List St3} {Q : Int → Int → Int → Int → Int → Int → Int → Int → Int → Int → Sl → Int → Int → ByteArray → ByteArray → Int → Int → Int → Int → Int → Int → Int → Heap → Prop} (Vo : View h0 3 (En stC) n2 xs) (hi : 0 ≤ i) (h0m : 0 ≤ me) (hme : l[me.toNat]? = some nd) (h0p : 0 ≤ pp) (hp7 : pp < 7) (hpp : l[pp.toNat]? = some c) (hk0 : 0 ≤ k) (hk3 : k < 3)
    (O : Sat h0 h (buf 1 i64c sc l :: L)) (kk : ∀ (m : Mg) h', Ans nd k c m → Sat h0 h' (buf 1 u8 m.v m.b :: buf 1 i64c sc l :: L) → Q m.kind m.frm m.to m.shard m.epoch m.te m.ts m.round m.span m.seen m.v m.peer m.num m.name m.other m.amount m.life m.id m.op m.client m.state m.bad h') : F_law10_Nodes_answer n1 n2 sc me k pp i h Q := by
  rw [F_law10_Nodes_answer.eq_1, F_law10_Nodes_answer_of.eq_1]
  refine O.al fun a8 h O => ?_
  refine O.al fun a10 h O => ?_
  refine (O.view 2 i64c_len (by simp) rfl).1.getP h0p hpp fun b1 hb1 => ld_are (hb1 (O.view 2 i64c_len (by simp) rfl).1) (ldL_c (ldL_n ?_))
  refine (O.view 2 i64c_len (by simp) rfl).1.getP h0m hme fun b2 hb2 => ld_are (hb2 (O.view 2 i64c_len (by simp) rfl).1) (ldL_c (ldL_n ?_))
  refine O.al fun a16 h O => ?_
  refine ⟨hb1 (O.view 3 i64c_len (by simp) rfl).1, hb2 (O.view 3 i64c_len (by simp) rfl).1, ?_⟩
  refine O.st 0 rfl (by simp) rfl fun h O => ?_
  dsimp only [V.put, List.set] at O
  refine jn0 (fun h' => ∃ m : Mg, Ans nd k c m ∧ Sat h0 h' (buf 1 u8 m.v m.b :: own a16 (mgC m) :: own a10 [.int .i64 0, .int .i64 0, .int .i64 0, .int .i64 0, .int .u64 0, .int .u64 0, .int .u64 0, .int .u64 0, .int .i64 0, .int .u64 0, .slice none 0 0, .int .i64 0, .int .u64 0, .string (⟨#[]⟩ : ByteArray), .string (⟨#[]⟩ : ByteArray), .int .u64 0, .int .u64 0, .int .u64 0, .int .i64 0, .int .i64 0, .int .i64 0, .int .i64 0] :: own a8 [.int .i64 n1, .slice n2.ptr n2.len n2.cap] :: buf 1 i64c sc l :: L)) ?_ ?_
  · clear O
    rintro h ⟨m, am, O⟩
    refine O.ld 1 rfl ?_
    unfold mgC
    repeat (first | (with_reducible refine ldL_n ?_) | refine ldL_s ?_ | refine ldL_c ?_)
    refine O.st 2 rfl (by simp) rfl fun h O => ?_
    dsimp only [V.put, List.set] at O
    refine O.ld 2 rfl ?_
    repeat (first | (with_reducible refine ldL_n ?_) | refine ldL_s ?_ | refine ldL_c ?_)
    exact kk m _ am (O.sel [0, 4] 5 rfl (Nat.le_add_left _ _))
  intro j hj
  refine brr_eq (fun k0 => ?_) (fun k0 => ?_)
  · refine st_ad (b := a16) (o := 4) rfl ?_
    refine O.st 0 rfl (by simp) rfl fun h O => ?_
    dsimp only [V.put, List.set] at O
    refine O.ld 2 rfl (ldL_c (ldL_s (ldL_n ?_)))
    refine F_law10_Nodes_Steps0.is Vo hi O fun x h O => ?_
    refine F_law10_into.is (by omega) (by omega) ?_
    refine st_ad (b := a16) (o := 5) rfl ?_
    refine O.st 0 rfl (by simp) rfl fun h O => ?_
    dsimp only [V.put, List.set] at O
    refine O.al fun a28 h O => ?_
    refine st_ad (b := a16) (o := 10) rfl ?_
    refine O.st 1 rfl (by simp) rfl fun h O => ?_
    dsimp only [V.put, List.set] at O
    have e8 : IntKind.u8.wrap pp = ((UInt8.ofNat pp.toNat).toNat : Int) := by
      rw [wrapu8 h0p (by omega)]
      simp
      omega
    rw [e8] at O
    have O := lit_buf O
    exact hj _ ⟨{ mgz with kind := 2, frm := c, to := nd, shard := 1, epoch := 77, te := IntKind.u64.wrap (x % 5), ts := IntKind.u64.wrap pp, v := ⟨some (pt a28 0), 1, 1⟩, b := [UInt8.ofNat pp.toNat] }, ⟨rfl, rfl, rfl, by show (1 : Nat) ≤ _; decide, fun _ => ⟨rfl, rfl⟩, fun h => by omega, fun h => by omega⟩, O⟩
  refine jn_go ?_
  refine brr_eq (fun k1 => ?_) (fun k1 => ?_)
  · refine st_ad (b := a16) (o := 0) rfl ?_
    refine O.st 0 rfl (by simp) rfl fun h O => ?_
    dsimp only [V.put, List.set] at O
    refine st_ad (b := a16) (o := 5) rfl ?_
    refine O.st 0 rfl (by simp) rfl fun h O => ?_
    dsimp only [V.put, List.set] at O
    have O := O.nil_buf (sz := 1) (enc := u8)
    exact hj _ ⟨{ mgz with kind := 5, frm := c, to := nd, shard := 1, te := 77, ts := 1 }, ⟨rfl, rfl, rfl, by show (0 : Nat) ≤ _; decide, fun h => by omega, fun _ => ⟨rfl, rfl, rfl⟩, fun h => by omega⟩, O⟩
  refine jn_go ?_
  refine brr_tt (by simp; omega) ?_
  refine st_ad (b := a16) (o := 0) rfl ?_
  refine O.st 0 rfl (by simp) rfl fun h O => ?_
  dsimp only [V.put, List.set] at O
  refine st_ad (b := a16) (o := 4) rfl ?_
  refine O.st 0 rfl (by simp) rfl fun h O => ?_
  dsimp only [V.put, List.set] at O
  refine st_ad (b := a16) (o := 7) rfl ?_
  refine O.st 0 rfl (by simp) rfl fun h O => ?_
  dsimp only [V.put, List.set] at O
  have O := O.nil_buf (sz := 1) (enc := u8)
  exact hj _ ⟨{ mgz with kind := 7, frm := c, to := nd, shard := 1, epoch := 77, round := 1 }, ⟨rfl, rfl, rfl, by show (0 : Nat) ≤ _; decide, fun h => by omega, fun h => by omega, fun _ => ⟨rfl, rfl, rfl⟩⟩, O⟩
theorem F_law10_Nodes_counts.is {n1 me k nd : Int} {n2 sc : Sl} {l : List Int} {xs : List St3} {Q : Bool → Heap → Prop} (hn : l.Nodup) (h3 : 3 ≤ l.length) (h7 : l.length ≤ 7) (h0m : 0 ≤ me) (hme : l[me.toNat]? = some nd) (hk0 : 0 ≤ k) (hk3 : k < 3) (Vo : View h0 3 (En stC) n2 xs) (hx : xs.length ≤ 4611686018427387904)
    (st : q.StK nd l k (if k = 0 then [nd] else [])) (O : Sat h0 h (quR p q :: buf 1 i64c sc l :: L))
    (kk : ∀ (q : QS) S h', q.StK nd l k S → need l ≤ S.length → Sat h0 h' (quR p q :: buf 1 i64c sc l :: L) → Q true h') : F_law10_Nodes_counts n1 n2 (some (pt p 0)) sc me k h Q := by
  rw [F_law10_Nodes_counts.eq_1, F_law10_Nodes_counts_of.eq_1]
  refine O.al fun a7 h O => ?_
  refine ⟨by decide, ?_⟩
  have hsl : sc.len = l.length := (O.view 2 i64c_len (by simp) rfl).1.len
  rw [hsl]
  refine O.mk_buf (by omega) (by omega) (by omega) fun b9 h O => ?_
  rw [mk_bools] at O
  have O := (O.own_buf (k := 0) (sz := 1) rfl).bufsI
  rw [List.length_replicate, Nat.add_zero] at O
  rw [Int.toNat_natCast]
  obtain ⟨s9, hs9⟩ : ∃ s : Sl, s = ⟨some (pt b9 0), l.length, l.length⟩ := ⟨_, rfl⟩
  rw [← hs9] at O ⊢
  rw [rep_map] at O
  have hmem : nd ∈ l := List.mem_of_getElem? hme
  have hme2 := (List.getElem?_eq_some_iff.1 hme).1
  have hnd : need l = l.length / 2 + 1 := rfl
  refine jn1 (fun count h' => ∃ S, S = (if k = 0 then [nd] else []) ∧ count = ((S.length : Nat) : Int) ∧ Sat h0 h' (buf 1 bo1 s9 (l.map fun c => decide (c ∈ S)) :: own a7 [.int .i64 n1, .slice n2.ptr n2.len n2.cap] :: quR p q :: buf 1 i64c sc l :: L)) ?_ ?_
  case refine_2 =>
    intro j hj
    refine brr_eq (fun k0 => ?_) (fun k0 => hj _ _ ⟨[], by rw [if_neg k0], rfl, O⟩)
    refine O.put1 bo1_len bo1_one h0m (by rw [List.length_map]; omega) true rfl fun h O => ?_
    rw [mark_put hn hme] at O
    exact hj _ _ ⟨[nd], by rw [if_pos k0], rfl, O⟩
  clear O
  rintro count h ⟨S, hS, hcnt, O⟩
  rw [← hS] at st
  refine jn0 (fun h' => ∃ (q : QS) (S : List Int), q.StK nd l k S ∧ need l ≤ S.length ∧ Sat h0 h' (buf 1 bo1 s9 (l.map fun c => decide (c ∈ S)) :: own a7 [.int .i64 n1, .slice n2.ptr n2.len n2.cap] :: quR p q :: buf 1 i64c sc l :: L)) ?_ ?_
  · clear O st hS hcnt
    rintro h ⟨q, S, st, hle, O⟩
    have O := O.sel [2, 3] 4 rfl (Nat.le_add_left _ _)
    refine F_quorum_Quorum_Round.is O ?_
    refine jn1 (fun z h' => z = true ∧ h = h') (fun z h' hh => by obtain ⟨rfl, rfl⟩ := hh; exact kk q S _ st hle O) fun j hj => ?_
    refine brr_eq (fun k0 => ?_) (fun k0 => ?_)
    · subst k0
      refine F_quorum_Quorum_Phase.is O ?_
      rw [StK.phase0 st hle]
      refine brr_ff rfl ?_
      refine brr_ff rfl ?_
      refine brr_ff rfl ?_
      exact hj _ _ ⟨rfl, rfl⟩
    · refine brr_tt (by simp; omega) ?_
      refine F_quorum_Quorum_Holds.is O ?_
      rw [StK.holds (by omega) st hle]
      refine brr_ff rfl ?_
      refine brr_eq (fun k2 => ?_) (fun k2 => hj _ _ ⟨rfl, rfl⟩)
      subst k2
      rw [StK.done st hle]
      exact hj _ _ ⟨rfl, rfl⟩
  intro j16 hj16
  rw [F_law10_Nodes_counts.l1.eq_1]
  have hS0 : S.Nodup ∧ (∀ x ∈ S, x ∈ l) ∧ S.length ≤ need l := by
    rw [hS, hnd]
    split
    · exact ⟨by simp, fun x hx => by rw [List.mem_singleton.1 hx]; exact hmem, by simp⟩
    · exact ⟨List.nodup_nil, fun x hx => absurd hx List.not_mem_nil, by simp⟩
  clear hS
  refine wl2 (k := .int .i64) (l := .int .i64) (fun (m : Nat) (count i : Int) (h' : Heap) => i + m = xs.length + l.length ∧ 0 ≤ i ∧ ∃ (q : QS) (S : List Int), q.StK nd l k S ∧ count = ((S.length : Nat) : Int) ∧ (S.Nodup ∧ (∀ x ∈ S, x ∈ l) ∧ S.length ≤ need l) ∧ (∀ (j : Nat) (c : Int), xs.length ≤ j → (j : Int) < i → l[j % l.length]? = some c → c ∈ S) ∧ Sat h0 h' (buf 1 bo1 s9 (l.map fun c => decide (c ∈ S)) :: own a7 [.int .i64 n1, .slice n2.ptr n2.len n2.cap] :: quR p q :: buf 1 i64c sc l :: L)) ?_ (m := xs.length + l.length) ⟨by omega, by omega, q, S, st, hcnt, hS0, fun j c h1 h2 => by omega, O⟩
  clear O st hcnt hS0
  rintro mm (count : Int) (i : Int) h next hnx ⟨him, hi0, q, S, st, hcnt, ⟨sn, ss, sl⟩, cov, O⟩
  have ewn : IntKind.i64.wrap (IntKind.i64.wrap (((l.length : Nat) : Int).tdiv 2) + 1) = ((need l : Nat) : Int) := by
    rw [Int.tdiv_eq_ediv_of_nonneg (by omega), wrap64 (x := ((l.length : Nat) : Int) / 2) (by omega) (by omega), wrap64 (by omega) (by omega), hnd]
    omega
  rw [hsl]
  rw [ewn]
  refine jn1 (fun z h' => h = h' ∧ z = decide (i < xs.length + l.length ∧ count < (need l : Int))) ?_ ?_
  case refine_2 =>
    intro j hj
    refine O.ld 1 rfl (ldL_s (ldL_n ?_))
    rw [Vo.len, wrap64 (by omega) (by omega)]
    refine brr_p (fun hlt => ?_) (fun hlt => ?_)
    · exact hj _ _ ⟨rfl, by simp [hlt]⟩
    · exact hj _ _ ⟨rfl, by simp; intro h; omega⟩
  rintro z h' ⟨rfl, rfl⟩
  refine brr_p (fun hg => ?_) (fun hg => ?_)
  case refine_2 =>
    refine hj16 _ ⟨q, S, st, ?_, O⟩
    rcases Nat.lt_or_ge S.length (need l) with hlt | hge
    · exfalso
      have hge : ¬ (i < xs.length + l.length) := fun h => hg ⟨h, by omega⟩
      have hall : ∀ x ∈ l, x ∈ S := by
        intro x hx
        obtain ⟨r, hr⟩ := List.getElem?_of_mem hx
        have hr2 := (List.getElem?_eq_some_iff.1 hr).1
        have e : (xs.length + (r + l.length - xs.length % l.length) % l.length) % l.length = r := by
          have hm := Nat.mod_lt xs.length (show 0 < l.length by omega)
          obtain ⟨qq, hq⟩ : ∃ qq, xs.length = l.length * qq + xs.length % l.length := ⟨xs.length / l.length, (Nat.div_add_mod _ _).symm⟩
          rw [Nat.add_mod_mod]
          rw [show xs.length + (r + l.length - xs.length % l.length) = r + l.length * (qq + 1) by rw [Nat.mul_add]; omega]
          rw [Nat.add_mul_mod_self_left, Nat.mod_eq_of_lt hr2]
        have hm2 := Nat.mod_lt (r + l.length - xs.length % l.length) (show 0 < l.length by omega)
        exact cov (xs.length + (r + l.length - xs.length % l.length) % l.length) x (by omega) (by omega) (by rw [e]; exact hr)
      have := nodup_sub_len hn hall
      omega
    · exact hge
  obtain ⟨hg1, hg2⟩ := hg
  have hlt : S.length < need l := by omega
  refine ⟨by omega, ?_⟩
  refine O.ld 1 rfl (ldL_s (ldL_n ?_))
  have m0 := fun x : Int => Int.emod_nonneg x (show ((l.length : Nat) : Int) ≠ 0 by omega)
  have m1 := fun x : Int => Int.emod_lt_of_pos x (show (0 : Int) < ((l.length : Nat) : Int) by omega)
  refine jn1 (fun (pp : Int) h' => h = h' ∧ 0 ≤ pp ∧ pp < l.length ∧ ((xs.length : Int) ≤ i → pp = i % (l.length : Int))) ?_ ?_
  case refine_2 =>
    intro j hj
    rw [Vo.len]
    refine brr_p (fun hlt2 => ?_) (fun hlt2 => ?_)
    · refine O.ld 1 rfl (ldL_s (ldL_n ?_))
      refine (Vo.kept O.kept).ix hi0 hlt2 fun a cs x hx hlen hR hc => ?_
      have e : cs = stC x := hR
      subst e
      refine ld_drop hc 1 (ldL_c (ldL_n ?_))
      refine F_law10_into.is (by omega) (by omega) ?_
      exact hj _ _ ⟨rfl, m0 _, m1 _, fun h => by omega⟩
    · rw [Int.tmod_eq_emod_of_nonneg hi0]
      exact hj _ _ ⟨rfl, m0 _, m1 _, fun _ => rfl⟩
  rintro (pp : Int) h' ⟨rfl, hp0, hp1, hpi⟩
  obtain ⟨c, hc⟩ : ∃ c, l[pp.toNat]? = some c := ⟨_, List.getElem?_eq_getElem (by omega)⟩
  have hcm : c ∈ l := List.mem_of_getElem? hc
  have cov2 : ∀ (j : Nat) (c : Int), xs.length ≤ j → (j : Int) < i + 1 → l[j % l.length]? = some c → c ∈ putK S (l.getD pp.toNat 0) := by
    intro j x h1 h2 hx
    have hd : l.getD pp.toNat 0 = c := by rw [List.getD_eq_getElem?_getD, hc]; rfl
    rw [hd]
    by_cases hj : (j : Int) < i
    · have := cov j x h1 hj hx
      unfold putK
      split
      · exact this
      · exact List.mem_append.2 (.inl this)
    · have e1 := hpi (by omega)
      have e2 : j % l.length = pp.toNat := by
        have : ((j % l.length : Nat) : Int) = (j : Int) % (l.length : Int) := by simp
        have : (j : Int) = i := by omega
        rw [← this] at e1
        omega
      rw [e2, hc] at hx
      rw [← Option.some.inj hx]
      exact putK_mem
  have hd : l.getD pp.toNat 0 = c := by rw [List.getD_eq_getElem?_getD, hc]; rfl
  rw [hd] at cov2
  have base := StK.base st
  refine jn1 (fun z h' => z = false ∧ Sat h0 h' (buf 1 bo1 s9 (l.map fun c => decide (c ∈ S)) :: own a7 [.int .i64 n1, .slice n2.ptr n2.len n2.cap] :: quR p q :: buf 1 i64c sc l :: L)) ?_ ?_
  case refine_2 =>
    intro j hj
    refine brr_p (fun kp => ?_) (fun kp => hj _ _ ⟨rfl, O⟩)
    obtain ⟨e1, e2⟩ := tickK kp st hlt
    refine F_quorum_Quorum_Tick.is base.ok (O.sel [2, 0, 1, 3] 4 rfl (Nat.le_add_left _ _)) fun s1 h O => ?_
    rw [e1] at O
    refine F_law10_left.is (O.view 2 bo1_len (by simp) rfl).1 (by rw [List.length_map]; omega) ?_
    refine hj _ _ ⟨?_, O.sel [2, 3, 1, 4] 5 rfl (Nat.le_add_left _ _)⟩
    rw [msgs_len O, e2, left_len]
    simp
  rintro z h' ⟨rfl, O⟩
  refine brr_ff rfl ?_
  refine O.ld 1 rfl (ldL_c (ldL_s (ldL_n ?_)))
  refine F_law10_Nodes_answer.is Vo hi0 h0m hme hp0 (by omega) hc hk0 hk3 (O.sel [3, 0, 1, 2] 4 rfl (Nat.le_add_left _ _)) fun m h am O => ?_
  obtain ⟨st2, ho⟩ := hearK hk0 hk3 st hlt hcm am
  refine F_quorum_Quorum_Hear.is base.ok am.b (fun h O => (O.view 0 u8_len (by simp) rfl).1) (O.sel [4, 0, 1, 2, 3] 5 rfl (Nat.le_add_left _ _)) fun s1 h O => ?_
  have O : Sat h0 h (buf 1 bo1 s9 (l.map fun c => decide (c ∈ S)) :: own a7 [.int .i64 n1, .slice n2.ptr n2.len n2.cap] :: quR p (q.hear m 6).1 :: buf 1 i64c sc l :: msgsR s1 (q.hear m 6).2 :: L) := O.sel [4, 5, 1, 3, 0] 6 rfl (Nat.le_add_left _ _)
  have hlen : s1.len = (q.hear m 6).2.length := msgs_len (O.sel [4] 5 rfl (Nat.le_add_left _ _))
  rw [ho] at hlen
  have hbp : (l.map fun c => decide (c ∈ S))[pp.toNat]? = some (decide (c ∈ S)) := by rw [List.getElem?_map, hc]; rfl
  refine (O.view 0 bo1_len (by simp) rfl).1.get1 (k := .bool) hp0 hbp (fun x => x) (fun _ => rfl) ?_
  refine jn1 (fun (z : Int) h' => z = (((putK S c).length : Nat) : Int) ∧ Sat h0 h' (buf 1 bo1 s9 (l.map fun x => decide (x ∈ putK S c)) :: own a7 [.int .i64 n1, .slice n2.ptr n2.len n2.cap] :: quR p (q.hear m 6).1 :: buf 1 i64c sc l :: msgsR s1 (q.hear m 6).2 :: L)) ?_ ?_
  case refine_2 =>
    intro j hj
    by_cases hcs : c ∈ S
    · refine brr_ff (by simp [hcs]) ?_
      refine hj _ _ ⟨by rw [putK_in hcs, hcnt], ?_⟩
      rw [putK_in hcs]
      exact O
    · refine brr_tt (by simp [hcs]) ?_
      refine O.put1 bo1_len bo1_one hp0 (by rw [List.length_map]; omega) true rfl fun h O => ?_
      rw [mark_put hn hc] at O
      refine hj _ _ ⟨?_, O⟩
      rw [hcnt, putK_len hcs, wrap64 (by omega) (by omega)]
      omega
  clear O
  rintro z h ⟨rfl, O⟩
  have hpl : (putK S c).length ≤ need l := by
    by_cases hcs : c ∈ S
    · rw [putK_in hcs]; omega
    · rw [putK_len hcs]; omega
  refine jn1 (fun z h' => z = false ∧ h = h') ?_ ?_
  · rintro z h' ⟨rfl, rfl⟩
    refine brr_ff rfl ?_
    rw [wrap64 (by omega) (by omega)]
    refine hnx (mm - 1) _ _ _ (by omega) ⟨by omega, by omega, _, putK S c, st2, rfl, ⟨putK_nodup sn, fun x hx => ?_, hpl⟩, cov2, O.sel [0, 1, 2, 3] 5 rfl (Nat.le_add_left _ _)⟩
    rcases putK_sub hx with hx | rfl
    · exact ss x hx
    · exact hcm
  · intro j hj
    rw [hlen]
    refine brr_eq (fun k0 => ?_) (fun k0 => ?_)
    · subst k0
      refine brr_ff ?_ ?_
      · by_cases hnl : need l ≤ (putK S c).length
        · rw [if_pos ⟨rfl, hnl⟩, show (putK S c).length = need l by omega]
          simp
        · rw [if_neg fun h => hnl h.2]
          have h1 : (((0 : Nat) : Int) == ((l.length : Nat) : Int)) = false := by simp; omega
          have h2 : ((((putK S c).length : Nat) : Int) == ((need l : Nat) : Int)) = false := by simp; omega
          rw [h1, h2]
          rfl
      · refine brr_ff rfl ?_
        exact hj _ _ ⟨rfl, rfl⟩
    · refine brr_tt (by simp; omega) ?_
      rw [if_neg fun h => k0 h.1]
      exact hj _ _ ⟨rfl, rfl⟩
theorem start_one (ok : q.Ok) (hl : q.cop.length = 1) {b : List UInt8} : (q.start 77 3 4 b 6).2.length = 1 := by
  have hmost : (q.start0 77 3 4 b).most 1 = true := by
    have := most_need (q := q.start0 77 3 4 b) (l := q.cop) rfl (n := 1)
    rw [show ((1 : Nat) : Int) = 1 from rfl] at this
    rw [this]
    exact decide_eq_true (by unfold need; omega)
  unfold QS.start
  rw [if_pos hmost]
  show (List.map _ (List.filter (fun c => !decide (c ∈ ([] : List Int))) q.cop)).length = _
  rw [List.length_map]
  have e : (q.start0 77 3 4 b).cop.filter (fun c => !decide (c ∈ ([] : List Int))) = q.cop := by
    show q.cop.filter _ = _
    simp
  exact (congrArg List.length e).trans hl
end
abbrev tyStep : Ty := .cons (.int .i64) (.cons (.int .i64) (.cons (.int .i64) .nil))
abbrev tyNodes : Ty := .cons (.int .i64) (.cons (.sl 3 24 tyStep) .nil)
theorem SlN.steps {h : Heap} {s : Sl} (S : SlN h 140737488351232 3 24 s fun cs => Fit h 140737488351232 tyStep cs) : ∃ l : List St3, View h 3 (En stC) s l ∧ l.length ≤ 140737488351232 := by
  obtain ⟨h1, h2, _, xs, V⟩ := S.view (En stC) (fun cs F => by
    obtain ⟨t1, _, rfl, t1a, t1b, F⟩ := Fit.i F
    obtain ⟨t2, _, rfl, t2a, t2b, F⟩ := Fit.i F
    obtain ⟨t3, _, rfl, t3a, t3b, F⟩ := Fit.i F
    obtain rfl := Fit.e F
    exact ⟨(t1, t2, t3), rfl⟩)
  exact ⟨xs, V, by rw [← V.len]; omega⟩
theorem quorumCounts_main (H : Heap) (cs : List Value) (F : Fit H 140737488351232 tyNodes cs) : E_law10_QuorumCounts [.agg cs.toArray] H (fun r h' => r = .bool true ∧ KeptH H h') := by
  obtain ⟨t1, _, rfl, t1a, t1b, F⟩ := Fit.i F
  obtain ⟨t2, _, rfl, t2S, F⟩ := Fit.s F
  obtain rfl := Fit.e F
  refine Eq.mpr (E_law10_QuorumCounts.at F_law10_QuorumCounts t1 t2 H _) ?_
  obtain ⟨xs, Vo, hx⟩ := t2S.steps
  rw [F_law10_QuorumCounts.eq_1, F_law10_QuorumCounts_of.eq_1]
  refine Sat.al (Sat.nil H) fun a3 h1 O => ?_
  refine O.ld 0 rfl (ldL_c (ldL_n ?_))
  refine F_law10_copiesOf.is O fun sc h n hn O => ?_
  refine O.ld 1 rfl (ldL_s (ldL_n ?_))
  have V := (O.view 0 i64c_len (by simp) rfl).1
  have cl := copyN_len n
  have hsl : sc.len = n := by rw [V.len, cl]
  rw [hsl]
  rw [show ((t2.len : Nat) : Int) = (xs.length : Int) by rw [Vo.len]]
  refine F_law10_into.is (by omega) (by omega) ?_
  have m0 := Int.emod_nonneg (xs.length : Int) (show (n : Int) ≠ 0 by omega)
  have m1 := Int.emod_lt_of_pos (xs.length : Int) (show (0 : Int) < (n : Int) by omega)
  obtain ⟨nd, hnd⟩ : ∃ c, (copyN n)[((xs.length : Int) % (n : Int)).toNat]? = some c := ⟨_, List.getElem?_eq_getElem (by omega)⟩
  refine V.i6 m0 hnd ?_
  refine F_quorum_New.is (cop := copyN n) (fun h O => (O.view 0 i64c_len (by simp) rfl).1) (by omega) O fun p h O => ?_
  have ok0 := fresh_ok (node := nd) (shard := 1) (cop := copyN n) (by omega)
  have nod := copyN_nodup hn
  refine jn1 (fun z h' => z = false ∧ Sat H h' [quR p (QS.fresh nd 1 (copyN n)), buf 1 i64c sc (copyN n), own a3 [.int .i64 t1, .slice t2.ptr t2.len t2.cap]]) ?_ ?_
  case refine_2 =>
    intro j hj
    refine brr_ff rfl ?_
    refine F_law10_wakes.is O fun h O => ?_
    exact hj _ _ ⟨rfl, O⟩
  clear O V
  rintro z h ⟨rfl, O⟩
  refine brr_ff rfl ?_
  refine O.al fun a20 h O => ?_
  refine O.frz fun h O => ?_
  have O : Sat H h (own a20 (([111, 119, 110] : List UInt8).flatMap u8 ++ []) :: quR p (QS.fresh nd 1 (copyN n)) :: [buf 1 i64c sc (copyN n), own a3 [.int .i64 t1, .slice t2.ptr t2.len t2.cap]]) := O
  have O := (O.own_buf (k := 0) (sz := 1) rfl).bufsI
  have O : Sat H h (buf 1 u8 ⟨some (pt a20 0), 3, 3⟩ [111, 119, 110] :: quR p (QS.fresh nd 1 (copyN n)) :: [buf 1 i64c sc (copyN n), own a3 [.int .i64 t1, .slice t2.ptr t2.len t2.cap]]) := O
  refine F_quorum_Quorum_Start.is (b := [111, 119, 110]) ok0 (by show (3 : Nat) ≤ _; decide) (fun h O => (O.view 0 u8_len (by simp) rfl).1) O.swap fun s h O => ?_
  have hlen := msgs_len O
  refine brr_eq (fun n1 => ?_) (fun n1 => ?_)
  · refine ⟨?_, O.kept⟩
    rw [hlen, start_one ok0 (by show (copyN n).length = 1; omega)]
    rfl
  have hmem : nd ∈ copyN n := List.mem_of_getElem? hnd
  obtain ⟨st0, sl⟩ := start_St0 (l := copyN n) (nd := nd) (b := [111, 119, 110]) ok0 rfl rfl rfl (by unfold need; omega) nod hmem (by show (3 : Nat) ≤ _; decide)
  rw [sl, cl] at hlen
  refine brr_ff ?_ ?_
  · rw [hlen, wrap64 (by omega) (by omega)]
    simp
    omega
  refine jn0 (fun h' => ∃ q : QS, q.phase = 3 ∧ Sat H h' [quR p q, buf 1 i64c sc (copyN n), own a3 [.int .i64 t1, .slice t2.ptr t2.len t2.cap]]) ?_ ?_
  · rintro h ⟨q, hq, O⟩
    refine F_quorum_Quorum_Phase.is O ?_
    rw [hq]
    exact ⟨rfl, O.kept⟩
  intro j hj
  rw [F_law10_QuorumCounts.l1.eq_1]
  have start : ∃ q : QS, q.StK nd (copyN n) 0 [nd] ∧ Sat H h [quR p q, buf 1 i64c sc (copyN n), own a3 [.int .i64 t1, .slice t2.ptr t2.len t2.cap]] := ⟨_, st0, O.sel [1, 3, 4] 5 rfl (Nat.le_add_left _ _)⟩
  clear O st0
  obtain ⟨q, st, O⟩ := start
  refine wl1 (k := .int .i64) (fun (m : Nat) (k : Int) (h' : Heap) => k + m = 3 ∧ 0 ≤ k ∧ ∃ q : QS, (k = 0 → q.StK nd (copyN n) 0 [nd]) ∧ (k = 1 → q.St1 nd (copyN n) []) ∧ (k = 2 → ∃ S, q.St1 nd (copyN n) S ∧ need (copyN n) ≤ S.length) ∧ (k = 3 → q.phase = 3) ∧ Sat H h' [quR p q, buf 1 i64c sc (copyN n), own a3 [.int .i64 t1, .slice t2.ptr t2.len t2.cap]]) ?_ (m := 3) ⟨by omega, by omega, q, fun _ => st, fun h => by omega, fun h => by omega, fun h => by omega, O⟩
  clear O st
  rintro m (k : Int) h next hnx ⟨hkm, hk0, q, p0, p1, p2, p3, O⟩
  refine brr_p (fun hk3 => ?_) (fun hk3 => hj _ ⟨q, p3 (by omega), O⟩)
  refine jn1 (fun z h' => z = false ∧ ∃ q : QS, q.StK nd (copyN n) k (if k = 0 then [nd] else []) ∧ Sat H h' [quR p q, buf 1 i64c sc (copyN n), own a3 [.int .i64 t1, .slice t2.ptr t2.len t2.cap]]) ?_ ?_
  case refine_2 =>
    intro j2 hj2
    refine brr_eq (fun k2 => ?_) (fun k2 => ?_)
    · obtain ⟨S, s1, s2⟩ := p2 k2
      obtain ⟨st2, hl⟩ := round1 s1 s2
      refine F_quorum_Quorum_Tick.is s1.b.ok O fun s h O => ?_
      have hlen := msgs_len O
      rw [hl] at hlen
      refine hj2 _ _ ⟨?_, _, ?_, O.sel [1, 2, 3] 4 rfl (Nat.le_add_left _ _)⟩
      · rw [hlen, cl, hsl]; simp
      · subst k2; exact st2
    · refine hj2 _ _ ⟨rfl, q, ?_, O⟩
      by_cases k0 : k = 0
      · subst k0; exact p0 rfl
      · have k1 : k = 1 := by omega
        subst k1; exact p1 rfl
  clear O p0 p1 p2 p3
  rintro z h ⟨rfl, q, st, O⟩
  refine brr_ff rfl ?_
  refine O.ld 2 rfl (ldL_c (ldL_s (ldL_n ?_)))
  refine F_law10_Nodes_counts.is nod (by omega) (by omega) m0 hnd hk0 hk3 Vo (by omega) st O fun q S h st hle O => ?_
  refine brr_ff rfl ?_
  rw [wrap64 (by omega) (by omega)]
  refine hnx (m - 1) _ _ (by omega) ⟨by omega, by omega, q, fun h => by omega, fun e => ?_, fun e => ?_, fun e => ?_, O⟩
  · have k0 : k = 0 := by omega
    subst k0
    exact stage1 st hle
  · have k1 : k = 1 := by omega
    subst k1
    exact ⟨S, st, hle⟩
  · have k2 : k = 2 := by omega
    subst k2
    exact QS.St2.p (show q.St2 nd (copyN n) S from st)
end Go.Proofs.Ytigcpkejjjgkeaa.V
namespace Go.Proofs.Ytigcpkejjjgkeaa.V
open Go Go.RowKit
set_option linter.unusedVariables false
set_option maxRecDepth 100000
def F_law10_world.l1 (f8_ : Int → Int → Sl → Heap → (Option Addr → Heap → Prop) → Prop) (Q : Option Addr → Heap → Prop) (a4 : Addr) (j6 : Heap → Prop) : Int → Heap → Prop :=
  wl [(4, .one (.int .i64))] (fun (next7 : Int → Heap → Prop) (i8 : Int) (h9 : Heap) =>
  nn (some a4) fun (a10 : Addr) =>
  ld [.sl] (a10.add 0) h9 fun (v11 : Sl) =>
  brr (decide (i8 < ((v11.len : Nat) : Int)))
  (nn (some a4) fun (a12 : Addr) =>
  ld [.sl] (a12.add 0) h9 fun (v13 : Sl) =>
  ixS 1 v13 i8 fun (a14 : Addr) =>
  ld [.int .i64] a14 h9 fun (v15 : Int) =>
  nn (some a4) fun (a16 : Addr) =>
  ld [.sl] (a16.add 0) h9 fun (v17 : Sl) =>
  f8_ v15 2 v17 h9 fun (r18 : Option Addr) (h19 : Heap) =>
  brr r18.isNone
  (Q none h19)
  (nn (some a4) fun (a20 : Addr) =>
  ld [.sl] (a20.add 1) h19 fun (v21 : Sl) =>
  al 28 [.pointer r18] h19 fun (a22 : Addr) (h23 : Heap) =>
  app 28 1 8 (.pointer none) v21 (some a22) 1 h23 fun (s24 : Sl) (h25 : Heap) =>
  nn (some a4) fun (a26 : Addr) =>
  st (a26.add 1) [.slice s24.ptr s24.len s24.cap] h25 fun (h27 : Heap) =>
  nn (some a4) fun (a28 : Addr) =>
  ld [.sl] (a28.add 2) h27 fun (v29 : Sl) =>
  al 5 [.int .u8 102, .int .u8 105, .int .u8 114, .int .u8 115, .int .u8 116] h27 fun (a30 : Addr) (h31 : Heap) =>
  frz (some a30) h31 fun (h32 : Heap) =>
  al 95 [.int .u64 0, .int .u64 0, .int .u64 0, .slice (some a30) 5 5] h32 fun (a33 : Addr) (h34 : Heap) =>
  app 95 4 48 (.agg #[.int .u64 0, .int .u64 0, .int .u64 0, .slice none 0 0]) v29 (some a33) 1 h34 fun (s35 : Sl) (h36 : Heap) =>
  nn (some a4) fun (a37 : Addr) =>
  st (a37.add 2) [.slice s35.ptr s35.len s35.cap] h36 fun (h38 : Heap) =>
  next7 (IntKind.i64.wrap (i8 + 1)) h38))
  (j6 h9))
def F_law10_world.l2 (a4 : Addr) (j51 : Heap → Prop) : Int → Heap → Prop :=
  wl [(6, .one (.int .i64))] (fun (next52 : Int → Heap → Prop) (i53 : Int) (h54 : Heap) =>
  nn (some a4) fun (a55 : Addr) =>
  ld [.sl] (a55.add 0) h54 fun (v56 : Sl) =>
  brr (decide (i53 < ((v56.len : Nat) : Int)))
  (nn (some a4) fun (a57 : Addr) =>
  ld [.sl] (a57.add 4) h54 fun (v58 : Sl) =>
  ixS 6 v58 0 fun (a59 : Addr) =>
  ld [.sl] (a59.add 3) h54 fun (v60 : Sl) =>
  ixS 1 v60 i53 fun (a61 : Addr) =>
  st a61 [.bool true] h54 fun (h62 : Heap) =>
  next52 (IntKind.i64.wrap (i53 + 1)) h62)
  (j51 h54))
def F_law10_world_of (f6_ : Int → Heap → (Sl → Heap → Prop) → Prop) (f8_ : Int → Int → Sl → Heap → (Option Addr → Heap → Prop) → Prop) (many1 : Int) (h : Heap) (Q : Option Addr → Heap → Prop) : Prop :=
  f6_ many1 h fun (r2 : Sl) (h3 : Heap) =>
  al 94 [.slice r2.ptr r2.len r2.cap, .slice none 0 0, .slice none 0 0, .slice none 0 0, .slice none 0 0, .int .i64 0] h3 fun (a4 : Addr) (h5 : Heap) =>
  jn [] (fun  (h39 : Heap) =>
  al 5 [.int .u8 102, .int .u8 105, .int .u8 114, .int .u8 115, .int .u8 116] h39 fun (a40 : Addr) (h41 : Heap) =>
  frz (some a40) h41 fun (h42 : Heap) =>
  nn (some a4) fun (a43 : Addr) =>
  ld [.sl] (a43.add 0) h42 fun (v44 : Sl) =>
  mk 4 1 1 (.bool false) ((v44.len : Nat) : Int) ((v44.len : Nat) : Int) h42 fun (s45 : Sl) (h46 : Heap) =>
  al 97 [.int .u64 0, .int .u64 0, .slice (some a40) 5 5, .slice s45.ptr s45.len s45.cap, .int .u64 0, .int .u64 0] h46 fun (a47 : Addr) (h48 : Heap) =>
  nn (some a4) fun (a49 : Addr) =>
  st (a49.add 4) [.slice (some a47) 1 1] h48 fun (h50 : Heap) =>
  jn [] (fun  (h63 : Heap) =>
  Q (some a4) h63) (fun (j51 : Heap → Prop) =>
  F_law10_world.l2 a4 j51 0 h50)) (fun (j6 : Heap → Prop) =>
  F_law10_world.l1 f8_ Q a4 j6 0 h5)
def F_law10_world (many1 : Int) (h : Heap) (Q : Option Addr → Heap → Prop) : Prop := F_law10_world_of F_law10_copiesOf F_quorum_New many1 h Q
def plan14 : Plan := .s (.r [0]) (.s (.r [3]) (.s (.s (.r [3, 4]) (.bj [] [3] (.l [(4, .one (.int .i64))] [3] (.s (.s (.r [3, 4, 17]) (.c .z .z)) (.s (.b (.s (.d [0, 1, 3, 7, 0, 31, 63, 0, 128, 384, 896, 2047, 4095] [[0, 1, 2, 3, 4, 5, 6, 7, 8, 9, 10, 11, 12]] [3, 4, 5]) (.s (.s (.r [3, 4, 5, 33]) (.c (.s (.r [2]) .z) .z)) (.s (.r [3, 4]) (.r [3, 4]))))) (.r [3, 4])))))) (.s (.r [3]) (.s (.s (.r [3, 6]) (.bj [] [3] (.l [(6, .one (.int .i64))] [3] (.s (.s (.r [3, 6, 75]) (.c .z .z)) (.s (.b (.r [3, 6])) (.r [3, 6])))))) (.s (.r [2]) .z)))))
theorem F_law10_world.eq (f6_ : Int → Heap → (Sl → Heap → Prop) → Prop) (f8_ : Int → Int → Sl → Heap → (Option Addr → Heap → Prop) → Prop) (many1 : Int) (h : Heap) (K : Value → Heap → Prop) : F_law10_world_of f6_ f8_ many1 h (fun (r0 : Option Addr) (h : Heap) => K (.pointer r0) h) =
    den Try.prog (fn1 6 (E_law10_copiesOf_of f6_) (fn1 8 (E_quorum_New_of f8_) noFns)) Try.f14.ntmps plan14 (bodyOf Try.f14) (args0 0 [(.int .i64 many1 : Value)]) h ⟨fun env h => dRes Try.prog Try.f14.results.toList env h K, fun _ _ _ => False, fun env h => dRes Try.prog Try.f14.results.toList env h K⟩ := by kernel_rfl
def E_law10_world_of (f : Int → Heap → (Option Addr → Heap → Prop) → Prop) : List Value → Heap → (Value → Heap → Prop) → Prop
  | [v0], h, K => dec1 (.int .i64) v0 fun (many1 : Int) =>
  f many1 h (fun (r0 : Option Addr) (h : Heap) => K (.pointer r0) h)
  | _, _, _ => False
abbrev E_law10_world := E_law10_world_of F_law10_world
theorem E_law10_world.right : IsRight Try.prog 14 E_law10_world := by
  refine isRight fun vs K w hh => ?_
  match vs, hh with
  | [v0], hh =>
    unfold E_law10_world E_law10_world_of at hh
    replace hh := dec1_sound hh; obtain ⟨many1, rfl, hh⟩ := hh
    unfold F_law10_world at hh
    exact calls_den (fn1_right ok6 E_law10_copiesOf.right (fn1_right ok8 E_quorum_New.right noFns_right)) plan14 _ w K Try.func14 (by kernel_rfl) (by kernel_rfl) (Eq.mp (F_law10_world.eq F_law10_copiesOf F_quorum_New many1 w.heap K) hh)
theorem ok14 : okFn Try.prog 14 = true := by kernel_rfl
end Go.Proofs.Ytigcpkejjjgkeaa.V
namespace Go.Proofs.Ytigcpkejjjgkeaa.V
open Go Go.RowKit
set_option linter.unusedVariables false
set_option maxRecDepth 100000
def F_law10_World_place.l1 (w1 : Option Addr) (node2 : Int) (Q : Int → Heap → Prop) (j3 : Heap → Prop) : Int → Heap → Prop :=
  wl [(5, .one (.int .i64))] (fun (next4 : Int → Heap → Prop) (i5 : Int) (h6 : Heap) =>
  nn w1 fun (a7 : Addr) =>
  ld [.sl] (a7.add 0) h6 fun (v8 : Sl) =>
  brr (decide (i5 < ((v8.len : Nat) : Int)))
  (nn w1 fun (a9 : Addr) =>
  ld [.sl] (a9.add 0) h6 fun (v10 : Sl) =>
  ixS 1 v10 i5 fun (a11 : Addr) =>
  ld [.int .i64] a11 h6 fun (v12 : Int) =>
  brr (v12 == node2)
  (Q i5 h6)
  (next4 (IntKind.i64.wrap (i5 + 1)) h6))
  (j3 h6))
def F_law10_World_place_of  (w1 : Option Addr) (node2 : Int) (h : Heap) (Q : Int → Heap → Prop) : Prop :=
  jn [] (fun  (h13 : Heap) =>
  Q (-1) h13) (fun (j3 : Heap → Prop) =>
  F_law10_World_place.l1 w1 node2 Q j3 0 h)
def F_law10_World_place (w1 : Option Addr) (node2 : Int) (h : Heap) (Q : Int → Heap → Prop) : Prop := F_law10_World_place_of  w1 node2 h Q
def plan36 : Plan := .s (.r [0, 1]) (.s (.s (.r [0, 1, 5]) (.bj [] [] (.l [(5, .one (.int .i64))] [0, 1] (.s (.s (.r [0, 1, 5, 12]) (.c .z .z)) (.s (.b (.s (.r [0, 1, 5, 23]) (.c (.s (.r [4]) .z) .z))) (.r [0, 1, 5])))))) (.s (.r [4]) .z))
theorem F_law10_World_place.eq  (w1 : Option Addr) (node2 : Int) (h : Heap) (K : Value → Heap → Prop) : F_law10_World_place_of  w1 node2 h (fun (r0 : Int) (h : Heap) => K (.int .i64 r0) h) =
    den Try.prog noFns Try.f36.ntmps plan36 (bodyOf Try.f36) (args0 0 [(.pointer w1 : Value), (.int .i64 node2 : Value)]) h ⟨fun env h => dRes Try.prog Try.f36.results.toList env h K, fun _ _ _ => False, fun env h => dRes Try.prog Try.f36.results.toList env h K⟩ := by kernel_rfl
def E_law10_World_place_of (f : Option Addr → Int → Heap → (Int → Heap → Prop) → Prop) : List Value → Heap → (Value → Heap → Prop) → Prop
  | [v0, v1], h, K => dec1 .ptr v0 fun (w1 : Option Addr) =>
  dec1 (.int .i64) v1 fun (node2 : Int) =>
  f w1 node2 h (fun (r0 : Int) (h : Heap) => K (.int .i64 r0) h)
  | _, _, _ => False
abbrev E_law10_World_place := E_law10_World_place_of F_law10_World_place
theorem E_law10_World_place.right : IsRight Try.prog 36 E_law10_World_place := by
  refine isRight fun vs K w hh => ?_
  match vs, hh with
  | [v0, v1], hh =>
    unfold E_law10_World_place E_law10_World_place_of at hh
    replace hh := dec1_sound hh; obtain ⟨w1, rfl, hh⟩ := hh
    replace hh := dec1_sound hh; obtain ⟨node2, rfl, hh⟩ := hh
    unfold F_law10_World_place at hh
    exact calls_den noFns_right plan36 _ w K Try.func36 (by kernel_rfl) (by kernel_rfl) (Eq.mp (F_law10_World_place.eq  w1 node2 w.heap K) hh)
theorem ok36 : okFn Try.prog 36 = true := by kernel_rfl
end Go.Proofs.Ytigcpkejjjgkeaa.V
namespace Go.Proofs.Ytigcpkejjjgkeaa.V
open Go Go.RowKit
set_option linter.unusedVariables false
set_option maxRecDepth 100000
def F_law10_World_taken.l1 (f46_ : Sl → Sl → Heap → (Bool → Heap → Prop) → Prop) (f57_ : Int → Int → Int → Int → Heap → (Int → Heap → Prop) → Prop) (w1 : Option Addr) (Q : Bool → Heap → Prop) (a8 : Addr) (j10 : Heap → Prop) : Int → Heap → Prop :=
  wl [(5, .one (.int .i64))] (fun (next11 : Int → Heap → Prop) (i12 : Int) (h13 : Heap) =>
  nn w1 fun (a14 : Addr) =>
  ld [.sl] (a14.add 4) h13 fun (v15 : Sl) =>
  brr (decide (i12 < ((v15.len : Nat) : Int)))
  (nn w1 fun (a16 : Addr) =>
  ld [.sl] (a16.add 4) h13 fun (v17 : Sl) =>
  ixS 6 v17 i12 fun (a18 : Addr) =>
  ld [.int .u64, .int .u64] (a18.add 0) h13 fun (v19 v20 : Int) =>
  al 35 [.int .u64 0, .int .u64 0] h13 fun (a21 : Addr) (h22 : Heap) =>
  st a21 [.int .u64 v19, .int .u64 v20] h22 fun (h23 : Heap) =>
  jn [(49, .one .bool)] (fun (x40 : Bool) (h41 : Heap) =>
  brr x40
  (Q true h41)
  (next11 (IntKind.i64.wrap (i12 + 1)) h41)) (fun (j24 : Bool → Heap → Prop) =>
  ld [.int .u64] (a21.add 0) h23 fun (v25 : Int) =>
  ld [.int .u64] ((a8.add 0).add 0) h23 fun (v26 : Int) =>
  brr (decide (v25 < v26))
  (ld [.int .u64, .int .u64] a21 h23 fun (v27 v28 : Int) =>
  ld [.int .u64, .int .u64] (a8.add 4) h23 fun (v29 v30 : Int) =>
  f57_ v27 v28 v29 v30 h23 fun (r31 : Int) (h32 : Heap) =>
  brr (decide (r31 ≥ 0))
  (nn w1 fun (a33 : Addr) =>
  ld [.sl] (a33.add 4) h32 fun (v34 : Sl) =>
  ixS 6 v34 i12 fun (a35 : Addr) =>
  ld [.sl] (a35.add 2) h32 fun (v36 : Sl) =>
  ld [.sl] (a8.add 2) h32 fun (v37 : Sl) =>
  f46_ v36 v37 h32 fun (r38 : Bool) (h39 : Heap) =>
  j24 r38 h39)
  (j24 false h32))
  (j24 false h23)))
  (j10 h13))
def F_law10_World_taken_of (f46_ : Sl → Sl → Heap → (Bool → Heap → Prop) → Prop) (f57_ : Int → Int → Int → Int → Heap → (Int → Heap → Prop) → Prop) (w1 : Option Addr) (x2 x3 : Int) (x4 x5 : Sl) (x6 x7 : Int) (h : Heap) (Q : Bool → Heap → Prop) : Prop :=
  al 97 [.int .u64 x2, .int .u64 x3, .slice x4.ptr x4.len x4.cap, .slice x5.ptr x5.len x5.cap, .int .u64 x6, .int .u64 x7] h fun (a8 : Addr) (h9 : Heap) =>
  jn [] (fun  (h42 : Heap) =>
  Q false h42) (fun (j10 : Heap → Prop) =>
  F_law10_World_taken.l1 f46_ f57_ w1 Q a8 j10 0 h9)
def F_law10_World_taken (w1 : Option Addr) (x2 x3 : Int) (x4 x5 : Sl) (x6 x7 : Int) (h : Heap) (Q : Bool → Heap → Prop) : Prop := F_law10_World_taken_of F_ref0_Eq F_ref0_CmpTag w1 x2 x3 x4 x5 x6 x7 h Q
def plan43 : Plan := .s (.r [0, 3]) (.s (.s (.r [0, 3, 5]) (.bj [] [] (.l [(5, .one (.int .i64))] [0, 3] (.s (.s (.r [0, 3, 5, 13]) (.c .z .z)) (.s (.b (.s (.r [0, 3, 5, 6]) (.s (.dj [0, 1, 0, 4, 12, 31, 63, 127, 127, 383, 1023, 2047, 4095, 8191, 16383, 32767, 65535, 131071, 16383, 524287, 1048575, 2097151, 16383, 4210687, 16777215, 33554431] [[0, 1, 2, 3, 4, 5, 6, 7, 8, 9, 10, 11, 12, 13, 14, 15, 16, 17, 18, 19, 20, 21, 22, 23, 24, 25]] [(49, .one .bool)] [0, 3, 5]) (.c (.s (.r [4]) .z) .z)))) (.r [0, 3, 5])))))) (.s (.r [4]) .z))
theorem F_law10_World_taken.eq (f46_ : Sl → Sl → Heap → (Bool → Heap → Prop) → Prop) (f57_ : Int → Int → Int → Int → Heap → (Int → Heap → Prop) → Prop) (w1 : Option Addr) (x2 x3 : Int) (x4 x5 : Sl) (x6 x7 : Int) (h : Heap) (K : Value → Heap → Prop) : F_law10_World_taken_of f46_ f57_ w1 x2 x3 x4 x5 x6 x7 h (fun (r0 : Bool) (h : Heap) => K (.bool r0) h) =
    den Try.prog (fn1 46 (E_ref0_Eq_of f46_) (fn1 57 (E_ref0_CmpTag_of f57_) noFns)) Try.f43.ntmps plan43 (bodyOf Try.f43) (args0 0 [(.pointer w1 : Value), (.agg #[.int .u64 x2, .int .u64 x3, .slice x4.ptr x4.len x4.cap, .slice x5.ptr x5.len x5.cap, .int .u64 x6, .int .u64 x7] : Value)]) h ⟨fun env h => dRes Try.prog Try.f43.results.toList env h K, fun _ _ _ => False, fun env h => dRes Try.prog Try.f43.results.toList env h K⟩ := by kernel_rfl
def E_law10_World_taken_of (f : Option Addr → Int → Int → Sl → Sl → Int → Int → Heap → (Bool → Heap → Prop) → Prop) : List Value → Heap → (Value → Heap → Prop) → Prop
  | [v0, v1], h, K => dec1 .ptr v0 fun (w1 : Option Addr) =>
  vAgg v1 fun cs1 => decs [.int .u64, .int .u64, .sl, .sl, .int .u64, .int .u64] cs1.toList fun (x2 x3 : Int) (x4 x5 : Sl) (x6 x7 : Int) =>
  f w1 x2 x3 x4 x5 x6 x7 h (fun (r0 : Bool) (h : Heap) => K (.bool r0) h)
  | _, _, _ => False
abbrev E_law10_World_taken := E_law10_World_taken_of F_law10_World_taken
theorem E_law10_World_taken.right : IsRight Try.prog 43 E_law10_World_taken := by
  refine isRight fun vs K w hh => ?_
  match vs, hh with
  | [v0, v1], hh =>
    unfold E_law10_World_taken E_law10_World_taken_of at hh
    replace hh := dec1_sound hh; obtain ⟨w1, rfl, hh⟩ := hh
    replace hh := vAgg_sound hh; obtain ⟨cs1, rfl, hh⟩ := hh
    replace hh := decs_cons hh; obtain ⟨x2, l1_0, e1_0, hh⟩ := hh
    replace hh := decs_cons hh; obtain ⟨x3, l1_1, e1_1, hh⟩ := hh
    replace hh := decs_cons hh; obtain ⟨x4, l1_2, e1_2, hh⟩ := hh
    replace hh := decs_cons hh; obtain ⟨x5, l1_3, e1_3, hh⟩ := hh
    replace hh := decs_cons hh; obtain ⟨x6, l1_4, e1_4, hh⟩ := hh
    replace hh := decs_cons hh; obtain ⟨x7, l1_5, e1_5, hh⟩ := hh
    replace hh := decs_nil hh; obtain ⟨rfl, hh⟩ := hh
    subst e1_5
    subst e1_4
    subst e1_3
    subst e1_2
    subst e1_1
    have ec1 := toArray_eq e1_0
    subst ec1
    unfold F_law10_World_taken at hh
    exact calls_den (fn1_right ok46 E_ref0_Eq.right (fn1_right ok57 E_ref0_CmpTag.right noFns_right)) plan43 _ w K Try.func43 (by kernel_rfl) (by kernel_rfl) (Eq.mp (F_law10_World_taken.eq F_ref0_Eq F_ref0_CmpTag w1 x2 x3 x4 x5 x6 x7 w.heap K) hh)
theorem ok43 : okFn Try.prog 43 = true := by kernel_rfl
end Go.Proofs.Ytigcpkejjjgkeaa.V
namespace Go.Proofs.Ytigcpkejjjgkeaa.V
open Go Go.RowKit
set_option linter.unusedVariables false
set_option maxRecDepth 100000
def F_law10_World_find.l1 (w1 : Option Addr) (Q : Int → Heap → Prop) (a4 : Addr) (j6 : Heap → Prop) : Int → Heap → Prop :=
  wl [(5, .one (.int .i64))] (fun (next7 : Int → Heap → Prop) (i8 : Int) (h9 : Heap) =>
  nn w1 fun (a10 : Addr) =>
  ld [.sl] (a10.add 4) h9 fun (v11 : Sl) =>
  brr (decide (i8 < ((v11.len : Nat) : Int)))
  (nn w1 fun (a12 : Addr) =>
  ld [.sl] (a12.add 4) h9 fun (v13 : Sl) =>
  ixS 6 v13 i8 fun (a14 : Addr) =>
  ld [.int .u64, .int .u64] (a14.add 0) h9 fun (v15 v16 : Int) =>
  ld [.int .u64, .int .u64] a4 h9 fun (v17 v18 : Int) =>
  brr ((v15 == v17) && ((v16 == v18) && (true)))
  (Q i8 h9)
  (next7 (IntKind.i64.wrap (i8 + 1)) h9))
  (j6 h9))
def F_law10_World_find_of  (w1 : Option Addr) (t2 t3 : Int) (h : Heap) (Q : Int → Heap → Prop) : Prop :=
  al 35 [.int .u64 t2, .int .u64 t3] h fun (a4 : Addr) (h5 : Heap) =>
  jn [] (fun  (h19 : Heap) =>
  Q (-1) h19) (fun (j6 : Heap → Prop) =>
  F_law10_World_find.l1 w1 Q a4 j6 0 h5)
def F_law10_World_find (w1 : Option Addr) (t2 t3 : Int) (h : Heap) (Q : Int → Heap → Prop) : Prop := F_law10_World_find_of  w1 t2 t3 h Q
def plan58 : Plan := .s (.r [0, 3]) (.s (.s (.r [0, 3, 5]) (.bj [] [] (.l [(5, .one (.int .i64))] [0, 3] (.s (.s (.r [0, 3, 5, 12]) (.c .z .z)) (.s (.b (.s (.d [0, 1, 3, 7, 0, 31, 63, 127, 0, 511] [[0, 1, 2, 3, 4, 5, 6, 7, 8, 9]] [0, 3, 5, 24]) (.c (.s (.r [4]) .z) .z))) (.r [0, 3, 5])))))) (.s (.r [4]) .z))
theorem F_law10_World_find.eq  (w1 : Option Addr) (t2 t3 : Int) (h : Heap) (K : Value → Heap → Prop) : F_law10_World_find_of  w1 t2 t3 h (fun (r0 : Int) (h : Heap) => K (.int .i64 r0) h) =
    den Try.prog noFns Try.f58.ntmps plan58 (bodyOf Try.f58) (args0 0 [(.pointer w1 : Value), (.agg #[.int .u64 t2, .int .u64 t3] : Value)]) h ⟨fun env h => dRes Try.prog Try.f58.results.toList env h K, fun _ _ _ => False, fun env h => dRes Try.prog Try.f58.results.toList env h K⟩ := by kernel_rfl
def E_law10_World_find_of (f : Option Addr → Int → Int → Heap → (Int → Heap → Prop) → Prop) : List Value → Heap → (Value → Heap → Prop) → Prop
  | [v0, v1], h, K => dec1 .ptr v0 fun (w1 : Option Addr) =>
  vAgg v1 fun cs1 => decs [.int .u64, .int .u64] cs1.toList fun (t2 t3 : Int) =>
  f w1 t2 t3 h (fun (r0 : Int) (h : Heap) => K (.int .i64 r0) h)
  | _, _, _ => False
abbrev E_law10_World_find := E_law10_World_find_of F_law10_World_find
theorem E_law10_World_find.right : IsRight Try.prog 58 E_law10_World_find := by
  refine isRight fun vs K w hh => ?_
  match vs, hh with
  | [v0, v1], hh =>
    unfold E_law10_World_find E_law10_World_find_of at hh
    replace hh := dec1_sound hh; obtain ⟨w1, rfl, hh⟩ := hh
    replace hh := vAgg_sound hh; obtain ⟨cs1, rfl, hh⟩ := hh
    replace hh := decs_cons hh; obtain ⟨t2, l1_0, e1_0, hh⟩ := hh
    replace hh := decs_cons hh; obtain ⟨t3, l1_1, e1_1, hh⟩ := hh
    replace hh := decs_nil hh; obtain ⟨rfl, hh⟩ := hh
    subst e1_1
    have ec1 := toArray_eq e1_0
    subst ec1
    unfold F_law10_World_find at hh
    exact calls_den noFns_right plan58 _ w K Try.func58 (by kernel_rfl) (by kernel_rfl) (Eq.mp (F_law10_World_find.eq  w1 t2 t3 w.heap K) hh)
theorem ok58 : okFn Try.prog 58 = true := by kernel_rfl
end Go.Proofs.Ytigcpkejjjgkeaa.V
namespace Go.Proofs.Ytigcpkejjjgkeaa.V
open Go Go.RowKit
set_option linter.unusedVariables false
set_option maxRecDepth 100000
def F_law10_World_chosen.l1 (w1 : Option Addr) (i2 : Int) (j3 : Int → Heap → Prop) : Int → Int → Heap → Prop :=
  wl [(5, .one (.int .i64)), (6, .one (.int .i64))] (fun (next4 : Int → Int → Heap → Prop) (n5 k6 : Int) (h7 : Heap) =>
  nn w1 fun (a8 : Addr) =>
  ld [.sl] (a8.add 0) h7 fun (v9 : Sl) =>
  brr (decide (k6 < ((v9.len : Nat) : Int)))
  (nn w1 fun (a10 : Addr) =>
  ld [.sl] (a10.add 4) h7 fun (v11 : Sl) =>
  ixS 6 v11 i2 fun (a12 : Addr) =>
  ld [.sl] (a12.add 3) h7 fun (v13 : Sl) =>
  ixS 1 v13 k6 fun (a14 : Addr) =>
  ld [.bool] a14 h7 fun (v15 : Bool) =>
  jn [(5, .one (.int .i64))] (fun (n17 : Int) (h18 : Heap) =>
  next4 n17 (IntKind.i64.wrap (k6 + 1)) h18) (fun (j16 : Int → Heap → Prop) =>
  brr v15
  (j16 (IntKind.i64.wrap (n5 + 1)) h7)
  (j16 n5 h7)))
  (j3 n5 h7))
def F_law10_World_chosen_of  (w1 : Option Addr) (i2 : Int) (h : Heap) (Q : Bool → Heap → Prop) : Prop :=
  jn [(5, .one (.int .i64))] (fun (n19 : Int) (h20 : Heap) =>
  nn w1 fun (a21 : Addr) =>
  ld [.sl] (a21.add 0) h20 fun (v22 : Sl) =>
  Q (decide ((IntKind.i64.wrap (2 * n19)) > ((v22.len : Nat) : Int))) h20) (fun (j3 : Int → Heap → Prop) =>
  F_law10_World_chosen.l1 w1 i2 j3 0 0 h)
def F_law10_World_chosen (w1 : Option Addr) (i2 : Int) (h : Heap) (Q : Bool → Heap → Prop) : Prop := F_law10_World_chosen_of  w1 i2 h Q
def plan42 : Plan := .s (.r [0, 1]) (.s (.r [0, 1, 5]) (.s (.s (.r [0, 1, 5, 6]) (.bj [(5, .one (.int .i64))] [0] (.l [(5, .one (.int .i64)), (6, .one (.int .i64))] [0, 1] (.s (.s (.r [0, 1, 5, 6, 13]) (.c .z .z)) (.s (.b (.s (.r [0, 1, 5, 6, 26]) (.cj [(5, .one (.int .i64))] [0, 1, 6] (.r [0, 1, 5, 6]) .z))) (.r [0, 1, 5, 6])))))) (.s (.r [4]) .z)))
theorem F_law10_World_chosen.eq  (w1 : Option Addr) (i2 : Int) (h : Heap) (K : Value → Heap → Prop) : F_law10_World_chosen_of  w1 i2 h (fun (r0 : Bool) (h : Heap) => K (.bool r0) h) =
    den Try.prog noFns Try.f42.ntmps plan42 (bodyOf Try.f42) (args0 0 [(.pointer w1 : Value), (.int .i64 i2 : Value)]) h ⟨fun env h => dRes Try.prog Try.f42.results.toList env h K, fun _ _ _ => False, fun env h => dRes Try.prog Try.f42.results.toList env h K⟩ := by kernel_rfl
def E_law10_World_chosen_of (f : Option Addr → Int → Heap → (Bool → Heap → Prop) → Prop) : List Value → Heap → (Value → Heap → Prop) → Prop
  | [v0, v1], h, K => dec1 .ptr v0 fun (w1 : Option Addr) =>
  dec1 (.int .i64) v1 fun (i2 : Int) =>
  f w1 i2 h (fun (r0 : Bool) (h : Heap) => K (.bool r0) h)
  | _, _, _ => False
abbrev E_law10_World_chosen := E_law10_World_chosen_of F_law10_World_chosen
theorem E_law10_World_chosen.right : IsRight Try.prog 42 E_law10_World_chosen := by
  refine isRight fun vs K w hh => ?_
  match vs, hh with
  | [v0, v1], hh =>
    unfold E_law10_World_chosen E_law10_World_chosen_of at hh
    replace hh := dec1_sound hh; obtain ⟨w1, rfl, hh⟩ := hh
    replace hh := dec1_sound hh; obtain ⟨i2, rfl, hh⟩ := hh
    unfold F_law10_World_chosen at hh
    exact calls_den noFns_right plan42 _ w K Try.func42 (by kernel_rfl) (by kernel_rfl) (Eq.mp (F_law10_World_chosen.eq  w1 i2 w.heap K) hh)
theorem ok42 : okFn Try.prog 42 = true := by kernel_rfl
end Go.Proofs.Ytigcpkejjjgkeaa.V
namespace Go.Proofs.Ytigcpkejjjgkeaa.V
open Go Go.RowKit
set_option linter.unusedVariables false
set_option maxRecDepth 100000
def F_law10_World_last.l1 (f42_ : Option Addr → Int → Heap → (Bool → Heap → Prop) → Prop) (f57_ : Int → Int → Int → Int → Heap → (Int → Heap → Prop) → Prop) (w1 : Option Addr) (epoch2 : Int) (a5 : Addr) (j7 : Heap → Prop) : Int → Heap → Prop :=
  wl [(6, .one (.int .i64))] (fun (next8 : Int → Heap → Prop) (i9 : Int) (h10 : Heap) =>
  nn w1 fun (a11 : Addr) =>
  ld [.sl] (a11.add 4) h10 fun (v12 : Sl) =>
  brr (decide (i9 < ((v12.len : Nat) : Int)))
  (jn [(44, .one .bool)] (fun (x29 : Bool) (h30 : Heap) =>
  jn [] (fun  (h38 : Heap) =>
  next8 (IntKind.i64.wrap (i9 + 1)) h38) (fun (j31 : Heap → Prop) =>
  brr x29
  (nn w1 fun (a32 : Addr) =>
  ld [.sl] (a32.add 4) h30 fun (v33 : Sl) =>
  ixS 6 v33 i9 fun (a34 : Addr) =>
  ld [.int .u64, .int .u64] (a34.add 0) h30 fun (v35 v36 : Int) =>
  st a5 [.int .u64 v35, .int .u64 v36] h30 fun (h37 : Heap) =>
  j31 h37)
  (j31 h30))) (fun (j13 : Bool → Heap → Prop) =>
  nn w1 fun (a14 : Addr) =>
  ld [.sl] (a14.add 4) h10 fun (v15 : Sl) =>
  ixS 6 v15 i9 fun (a16 : Addr) =>
  ld [.int .u64] ((a16.add 0).add 0) h10 fun (v17 : Int) =>
  brr (decide (v17 < epoch2))
  (nn w1 fun (a18 : Addr) =>
  ld [.sl] (a18.add 4) h10 fun (v19 : Sl) =>
  ixS 6 v19 i9 fun (a20 : Addr) =>
  ld [.int .u64, .int .u64] (a20.add 0) h10 fun (v21 v22 : Int) =>
  ld [.int .u64, .int .u64] a5 h10 fun (v23 v24 : Int) =>
  f57_ v21 v22 v23 v24 h10 fun (r25 : Int) (h26 : Heap) =>
  brr (decide (r25 > 0))
  (f42_ w1 i9 h26 fun (r27 : Bool) (h28 : Heap) =>
  j13 r27 h28)
  (j13 false h26))
  (j13 false h10)))
  (j7 h10))
def F_law10_World_last_of (f42_ : Option Addr → Int → Heap → (Bool → Heap → Prop) → Prop) (f57_ : Int → Int → Int → Int → Heap → (Int → Heap → Prop) → Prop) (w1 : Option Addr) (epoch2 : Int) (h : Heap) (Q : Int → Int → Heap → Prop) : Prop :=
  al 35 [.int .u64 0, .int .u64 0] h fun (a3 : Addr) (h4 : Heap) =>
  al 35 [.int .u64 0, .int .u64 0] h4 fun (a5 : Addr) (h6 : Heap) =>
  jn [] (fun  (h39 : Heap) =>
  ld [.int .u64, .int .u64] a5 h39 fun (v40 v41 : Int) =>
  st a3 [.int .u64 v40, .int .u64 v41] h39 fun (h42 : Heap) =>
  ld [.int .u64, .int .u64] a3 h42 fun (v43 v44 : Int) =>
  Q v43 v44 h42) (fun (j7 : Heap → Prop) =>
  F_law10_World_last.l1 f42_ f57_ w1 epoch2 a5 j7 0 h6)
def F_law10_World_last (w1 : Option Addr) (epoch2 : Int) (h : Heap) (Q : Int → Int → Heap → Prop) : Prop := F_law10_World_last_of F_law10_World_chosen F_ref0_CmpTag w1 epoch2 h Q
def plan66 : Plan := .s (.r [0, 1, 4]) (.s (.r [0, 1, 4, 5]) (.s (.s (.r [0, 1, 4, 5, 6]) (.bj [] [4, 5] (.l [(6, .one (.int .i64))] [0, 1, 4, 5] (.s (.s (.r [0, 1, 4, 5, 6, 13]) (.c .z .z)) (.s (.b (.s (.dj [0, 1, 3, 7, 0, 31, 63, 127, 255, 0, 1023, 2047, 4095, 8191, 16383, 32767, 4095, 131071, 262143, 524287, 4095, 2097151, 4194303, 8388607, 16777215, 33554431, 33554431, 134217727, 268435455] [[0, 1, 2, 3, 4, 5, 6, 7, 8, 9, 10, 11, 12, 13, 14, 15, 16, 17, 18, 19, 20, 21, 22, 23, 24, 25, 26, 27, 28]] [(44, .one .bool)] [0, 1, 4, 5, 6]) (.cj [] [0, 1, 4, 5, 6] (.r [0, 1, 4, 5, 6]) .z))) (.r [0, 1, 4, 5, 6])))))) (.s (.r [4]) .z)))
theorem F_law10_World_last.eq (f42_ : Option Addr → Int → Heap → (Bool → Heap → Prop) → Prop) (f57_ : Int → Int → Int → Int → Heap → (Int → Heap → Prop) → Prop) (w1 : Option Addr) (epoch2 : Int) (h : Heap) (K : Value → Heap → Prop) : F_law10_World_last_of f42_ f57_ w1 epoch2 h (fun (r0 r1 : Int) (h : Heap) => K (.agg #[.int .u64 r0, .int .u64 r1]) h) =
    den Try.prog (fn1 42 (E_law10_World_chosen_of f42_) (fn1 57 (E_ref0_CmpTag_of f57_) noFns)) Try.f66.ntmps plan66 (bodyOf Try.f66) (args0 0 [(.pointer w1 : Value), (.int .u64 epoch2 : Value)]) h ⟨fun env h => dRes Try.prog Try.f66.results.toList env h K, fun _ _ _ => False, fun env h => dRes Try.prog Try.f66.results.toList env h K⟩ := by kernel_rfl
def E_law10_World_last_of (f : Option Addr → Int → Heap → (Int → Int → Heap → Prop) → Prop) : List Value → Heap → (Value → Heap → Prop) → Prop
  | [v0, v1], h, K => dec1 .ptr v0 fun (w1 : Option Addr) =>
  dec1 (.int .u64) v1 fun (epoch2 : Int) =>
  f w1 epoch2 h (fun (r0 r1 : Int) (h : Heap) => K (.agg #[.int .u64 r0, .int .u64 r1]) h)
  | _, _, _ => False
abbrev E_law10_World_last := E_law10_World_last_of F_law10_World_last
theorem E_law10_World_last.right : IsRight Try.prog 66 E_law10_World_last := by
  refine isRight fun vs K w hh => ?_
  match vs, hh with
  | [v0, v1], hh =>
    unfold E_law10_World_last E_law10_World_last_of at hh
    replace hh := dec1_sound hh; obtain ⟨w1, rfl, hh⟩ := hh
    replace hh := dec1_sound hh; obtain ⟨epoch2, rfl, hh⟩ := hh
    unfold F_law10_World_last at hh
    exact calls_den (fn1_right ok42 E_law10_World_chosen.right (fn1_right ok57 E_ref0_CmpTag.right noFns_right)) plan66 _ w K Try.func66 (by kernel_rfl) (by kernel_rfl) (Eq.mp (F_law10_World_last.eq F_law10_World_chosen F_ref0_CmpTag w1 epoch2 w.heap K) hh)
theorem ok66 : okFn Try.prog 66 = true := by kernel_rfl
end Go.Proofs.Ytigcpkejjjgkeaa.V
namespace Go.Proofs.Ytigcpkejjjgkeaa.V
open Go Go.RowKit
set_option linter.unusedVariables false
set_option maxRecDepth 100000
def F_law10_World_writes_of (f43_ : Option Addr → Int → Int → Sl → Sl → Int → Int → Heap → (Bool → Heap → Prop) → Prop) (f46_ : Sl → Sl → Heap → (Bool → Heap → Prop) → Prop) (f58_ : Option Addr → Int → Int → Heap → (Int → Heap → Prop) → Prop) (f66_ : Option Addr → Int → Heap → (Int → Int → Heap → Prop) → Prop) (w1 : Option Addr) (m2 m3 m4 m5 m6 m7 m8 m9 m10 m11 : Int) (m12 : Sl) (m13 m14 : Int) (m15 m16 : ByteArray) (m17 m18 m19 m20 m21 m22 m23 : Int) (h : Heap) (Q : Bool → Heap → Prop) : Prop :=
  al 66 [.int .i64 m2, .int .i64 m3, .int .i64 m4, .int .i64 m5, .int .u64 m6, .int .u64 m7, .int .u64 m8, .int .u64 m9, .int .i64 m10, .int .u64 m11, .slice m12.ptr m12.len m12.cap, .int .i64 m13, .int .u64 m14, .string m15, .string m16, .int .u64 m17, .int .u64 m18, .int .u64 m19, .int .i64 m20, .int .i64 m21, .int .i64 m22, .int .i64 m23] h fun (a24 : Addr) (h25 : Heap) =>
  ld [.int .u64, .int .u64] (a24.add 5) h25 fun (v26 v27 : Int) =>
  f58_ w1 v26 v27 h25 fun (r28 : Int) (h29 : Heap) =>
  brr (decide (r28 ≥ 0))
  (nn w1 fun (a30 : Addr) =>
  ld [.sl] (a30.add 4) h29 fun (v31 : Sl) =>
  ixS 6 v31 r28 fun (a32 : Addr) =>
  ld [.sl] (a32.add 2) h29 fun (v33 : Sl) =>
  ld [.sl] (a24.add 10) h29 fun (v34 : Sl) =>
  f46_ v33 v34 h29 fun (r35 : Bool) (h36 : Heap) =>
  Q r35 h36)
  (jn [(6, .one .addr)] (fun (x122 : Addr) (h123 : Heap) =>
  nn w1 fun (a124 : Addr) =>
  ld [.sl] (a124.add 4) h123 fun (v125 : Sl) =>
  ld [.int .u64, .int .u64, .sl, .sl, .int .u64, .int .u64] x122 h123 fun (v126 v127 : Int) (v128 v129 : Sl) (v130 v131 : Int) =>
  al 97 [.int .u64 v126, .int .u64 v127, .slice v128.ptr v128.len v128.cap, .slice v129.ptr v129.len v129.cap, .int .u64 v130, .int .u64 v131] h123 fun (a132 : Addr) (h133 : Heap) =>
  cellsAre h133 (a124.add 4) [.slice v125.ptr v125.len v125.cap] ∧
  app 97 6 80 (.agg #[.int .u64 0, .int .u64 0, .slice none 0 0, .slice none 0 0, .int .u64 0, .int .u64 0]) v125 (some a132) 1 h133 fun (s134 : Sl) (h135 : Heap) =>
  nn w1 fun (a136 : Addr) =>
  st (a136.add 4) [.slice s134.ptr s134.len s134.cap] h135 fun (h137 : Heap) =>
  jn [(4, .one .bool)] (fun (x148 : Bool) (h149 : Heap) =>
  Q x148 h149) (fun (j138 : Bool → Heap → Prop) =>
  ld [.int .u64] ((a24.add 5).add 1) h137 fun (v139 : Int) =>
  brr (v139 != 1)
  (j138 true h137)
  (ld [.int .u64, .int .u64, .sl, .sl, .int .u64, .int .u64] x122 h137 fun (v140 v141 : Int) (v142 v143 : Sl) (v144 v145 : Int) =>
  f43_ w1 v140 v141 v142 v143 v144 v145 h137 fun (r146 : Bool) (h147 : Heap) =>
  j138 r146 h147))) (fun (j37 : Addr → Heap → Prop) =>
  (ld [.int .u64, .int .u64] (a24.add 5) h29 fun (v38 v39 : Int) =>
  ld [.sl] (a24.add 10) h29 fun (v40 : Sl) =>
  nn w1 fun (a41 : Addr) =>
  ld [.sl] (a41.add 0) h29 fun (v42 : Sl) =>
  ld [.int .u64] ((a24.add 5).add 0) h29 fun (v43 : Int) =>
  mk 4 1 1 (.bool false) ((v42.len : Nat) : Int) ((v42.len : Nat) : Int) h29 fun (s44 : Sl) (h45 : Heap) =>
  cellsAre h45 (a24.add 5) [.int .u64 v38, .int .u64 v39] ∧
  cellsAre h45 (a24.add 10) [.slice v40.ptr v40.len v40.cap] ∧
  cellsAre h45 ((a24.add 5).add 0) [.int .u64 v43] ∧
  f66_ w1 v43 h45 fun (r46 r47 : Int) (h48 : Heap) =>
  cellsAre h48 (a24.add 5) [.int .u64 v38, .int .u64 v39] ∧
  cellsAre h48 (a24.add 10) [.slice v40.ptr v40.len v40.cap] ∧
  cellsAre h48 (a41.add 0) [.slice v42.ptr v42.len v42.cap] ∧
  al 97 [.int .u64 0, .int .u64 0, .slice none 0 0, .slice none 0 0, .int .u64 0, .int .u64 0] h48 fun (a49 : Addr) (h50 : Heap) =>
  cellsAre h50 (a24.add 5) [.int .u64 v38, .int .u64 v39] ∧
  cellsAre h50 (a24.add 10) [.slice v40.ptr v40.len v40.cap] ∧
  cellsAre h50 (a41.add 0) [.slice v42.ptr v42.len v42.cap] ∧
  cellsAre h50 ((a24.add 5).add 0) [.int .u64 v43] ∧
  st a49 [.int .u64 v38, .int .u64 v39, .slice v40.ptr v40.len v40.cap, .slice s44.ptr s44.len s44.cap, .int .u64 r46, .int .u64 r47] h50 fun (h51 : Heap) =>
  j37 a49 h51) ∧
  (ld [.int .u64, .int .u64] (a24.add 5) h29 fun (v52 v53 : Int) =>
  ld [.sl] (a24.add 10) h29 fun (v54 : Sl) =>
  nn w1 fun (a55 : Addr) =>
  ld [.sl] (a55.add 0) h29 fun (v56 : Sl) =>
  ld [.int .u64] ((a24.add 5).add 0) h29 fun (v57 : Int) =>
  mk 4 1 1 (.bool false) ((v56.len : Nat) : Int) ((v56.len : Nat) : Int) h29 fun (s58 : Sl) (h59 : Heap) =>
  cellsAre h59 (a24.add 5) [.int .u64 v52, .int .u64 v53] ∧
  cellsAre h59 (a24.add 10) [.slice v54.ptr v54.len v54.cap] ∧
  cellsAre h59 ((a24.add 5).add 0) [.int .u64 v57] ∧
  al 97 [.int .u64 0, .int .u64 0, .slice none 0 0, .slice none 0 0, .int .u64 0, .int .u64 0] h59 fun (a60 : Addr) (h61 : Heap) =>
  cellsAre h61 (a24.add 5) [.int .u64 v52, .int .u64 v53] ∧
  cellsAre h61 (a24.add 10) [.slice v54.ptr v54.len v54.cap] ∧
  cellsAre h61 (a55.add 0) [.slice v56.ptr v56.len v56.cap] ∧
  cellsAre h61 ((a24.add 5).add 0) [.int .u64 v57] ∧
  f66_ w1 v57 h61 fun (r62 r63 : Int) (h64 : Heap) =>
  cellsAre h64 (a24.add 5) [.int .u64 v52, .int .u64 v53] ∧
  cellsAre h64 (a24.add 10) [.slice v54.ptr v54.len v54.cap] ∧
  cellsAre h64 (a55.add 0) [.slice v56.ptr v56.len v56.cap] ∧
  st a60 [.int .u64 v52, .int .u64 v53, .slice v54.ptr v54.len v54.cap, .slice s58.ptr s58.len s58.cap, .int .u64 r62, .int .u64 r63] h64 fun (h65 : Heap) =>
  j37 a60 h65) ∧
  (ld [.int .u64, .int .u64] (a24.add 5) h29 fun (v66 v67 : Int) =>
  ld [.sl] (a24.add 10) h29 fun (v68 : Sl) =>
  nn w1 fun (a69 : Addr) =>
  ld [.sl] (a69.add 0) h29 fun (v70 : Sl) =>
  ld [.int .u64] ((a24.add 5).add 0) h29 fun (v71 : Int) =>
  f66_ w1 v71 h29 fun (r72 r73 : Int) (h74 : Heap) =>
  cellsAre h74 (a24.add 5) [.int .u64 v66, .int .u64 v67] ∧
  cellsAre h74 (a24.add 10) [.slice v68.ptr v68.len v68.cap] ∧
  cellsAre h74 (a69.add 0) [.slice v70.ptr v70.len v70.cap] ∧
  mk 4 1 1 (.bool false) ((v70.len : Nat) : Int) ((v70.len : Nat) : Int) h74 fun (s75 : Sl) (h76 : Heap) =>
  cellsAre h76 (a24.add 5) [.int .u64 v66, .int .u64 v67] ∧
  cellsAre h76 (a24.add 10) [.slice v68.ptr v68.len v68.cap] ∧
  cellsAre h76 ((a24.add 5).add 0) [.int .u64 v71] ∧
  al 97 [.int .u64 0, .int .u64 0, .slice none 0 0, .slice none 0 0, .int .u64 0, .int .u64 0] h76 fun (a77 : Addr) (h78 : Heap) =>
  cellsAre h78 (a24.add 5) [.int .u64 v66, .int .u64 v67] ∧
  cellsAre h78 (a24.add 10) [.slice v68.ptr v68.len v68.cap] ∧
  cellsAre h78 (a69.add 0) [.slice v70.ptr v70.len v70.cap] ∧
  cellsAre h78 ((a24.add 5).add 0) [.int .u64 v71] ∧
  st a77 [.int .u64 v66, .int .u64 v67, .slice v68.ptr v68.len v68.cap, .slice s75.ptr s75.len s75.cap, .int .u64 r72, .int .u64 r73] h78 fun (h79 : Heap) =>
  j37 a77 h79) ∧
  (ld [.int .u64, .int .u64] (a24.add 5) h29 fun (v80 v81 : Int) =>
  ld [.sl] (a24.add 10) h29 fun (v82 : Sl) =>
  nn w1 fun (a83 : Addr) =>
  ld [.sl] (a83.add 0) h29 fun (v84 : Sl) =>
  ld [.int .u64] ((a24.add 5).add 0) h29 fun (v85 : Int) =>
  f66_ w1 v85 h29 fun (r86 r87 : Int) (h88 : Heap) =>
  cellsAre h88 (a24.add 5) [.int .u64 v80, .int .u64 v81] ∧
  cellsAre h88 (a24.add 10) [.slice v82.ptr v82.len v82.cap] ∧
  cellsAre h88 (a83.add 0) [.slice v84.ptr v84.len v84.cap] ∧
  al 97 [.int .u64 0, .int .u64 0, .slice none 0 0, .slice none 0 0, .int .u64 0, .int .u64 0] h88 fun (a89 : Addr) (h90 : Heap) =>
  cellsAre h90 (a24.add 5) [.int .u64 v80, .int .u64 v81] ∧
  cellsAre h90 (a24.add 10) [.slice v82.ptr v82.len v82.cap] ∧
  cellsAre h90 (a83.add 0) [.slice v84.ptr v84.len v84.cap] ∧
  cellsAre h90 ((a24.add 5).add 0) [.int .u64 v85] ∧
  mk 4 1 1 (.bool false) ((v84.len : Nat) : Int) ((v84.len : Nat) : Int) h90 fun (s91 : Sl) (h92 : Heap) =>
  cellsAre h92 (a24.add 5) [.int .u64 v80, .int .u64 v81] ∧
  cellsAre h92 (a24.add 10) [.slice v82.ptr v82.len v82.cap] ∧
  cellsAre h92 ((a24.add 5).add 0) [.int .u64 v85] ∧
  st a89 [.int .u64 v80, .int .u64 v81, .slice v82.ptr v82.len v82.cap, .slice s91.ptr s91.len s91.cap, .int .u64 r86, .int .u64 r87] h92 fun (h93 : Heap) =>
  j37 a89 h93) ∧
  (ld [.int .u64, .int .u64] (a24.add 5) h29 fun (v94 v95 : Int) =>
  ld [.sl] (a24.add 10) h29 fun (v96 : Sl) =>
  nn w1 fun (a97 : Addr) =>
  ld [.sl] (a97.add 0) h29 fun (v98 : Sl) =>
  ld [.int .u64] ((a24.add 5).add 0) h29 fun (v99 : Int) =>
  al 97 [.int .u64 0, .int .u64 0, .slice none 0 0, .slice none 0 0, .int .u64 0, .int .u64 0] h29 fun (a100 : Addr) (h101 : Heap) =>
  cellsAre h101 (a24.add 5) [.int .u64 v94, .int .u64 v95] ∧
  cellsAre h101 (a24.add 10) [.slice v96.ptr v96.len v96.cap] ∧
  cellsAre h101 (a97.add 0) [.slice v98.ptr v98.len v98.cap] ∧
  cellsAre h101 ((a24.add 5).add 0) [.int .u64 v99] ∧
  mk 4 1 1 (.bool false) ((v98.len : Nat) : Int) ((v98.len : Nat) : Int) h101 fun (s102 : Sl) (h103 : Heap) =>
  cellsAre h103 (a24.add 5) [.int .u64 v94, .int .u64 v95] ∧
  cellsAre h103 (a24.add 10) [.slice v96.ptr v96.len v96.cap] ∧
  cellsAre h103 ((a24.add 5).add 0) [.int .u64 v99] ∧
  f66_ w1 v99 h103 fun (r104 r105 : Int) (h106 : Heap) =>
  cellsAre h106 (a24.add 5) [.int .u64 v94, .int .u64 v95] ∧
  cellsAre h106 (a24.add 10) [.slice v96.ptr v96.len v96.cap] ∧
  cellsAre h106 (a97.add 0) [.slice v98.ptr v98.len v98.cap] ∧
  st a100 [.int .u64 v94, .int .u64 v95, .slice v96.ptr v96.len v96.cap, .slice s102.ptr s102.len s102.cap, .int .u64 r104, .int .u64 r105] h106 fun (h107 : Heap) =>
  j37 a100 h107) ∧
  (ld [.int .u64, .int .u64] (a24.add 5) h29 fun (v108 v109 : Int) =>
  ld [.sl] (a24.add 10) h29 fun (v110 : Sl) =>
  nn w1 fun (a111 : Addr) =>
  ld [.sl] (a111.add 0) h29 fun (v112 : Sl) =>
  ld [.int .u64] ((a24.add 5).add 0) h29 fun (v113 : Int) =>
  al 97 [.int .u64 0, .int .u64 0, .slice none 0 0, .slice none 0 0, .int .u64 0, .int .u64 0] h29 fun (a114 : Addr) (h115 : Heap) =>
  cellsAre h115 (a24.add 5) [.int .u64 v108, .int .u64 v109] ∧
  cellsAre h115 (a24.add 10) [.slice v110.ptr v110.len v110.cap] ∧
  cellsAre h115 (a111.add 0) [.slice v112.ptr v112.len v112.cap] ∧
  cellsAre h115 ((a24.add 5).add 0) [.int .u64 v113] ∧
  f66_ w1 v113 h115 fun (r116 r117 : Int) (h118 : Heap) =>
  cellsAre h118 (a24.add 5) [.int .u64 v108, .int .u64 v109] ∧
  cellsAre h118 (a24.add 10) [.slice v110.ptr v110.len v110.cap] ∧
  cellsAre h118 (a111.add 0) [.slice v112.ptr v112.len v112.cap] ∧
  mk 4 1 1 (.bool false) ((v112.len : Nat) : Int) ((v112.len : Nat) : Int) h118 fun (s119 : Sl) (h120 : Heap) =>
  cellsAre h120 (a24.add 5) [.int .u64 v108, .int .u64 v109] ∧
  cellsAre h120 (a24.add 10) [.slice v110.ptr v110.len v110.cap] ∧
  cellsAre h120 ((a24.add 5).add 0) [.int .u64 v113] ∧
  st a114 [.int .u64 v108, .int .u64 v109, .slice v110.ptr v110.len v110.cap, .slice s119.ptr s119.len s119.cap, .int .u64 r116, .int .u64 r117] h120 fun (h121 : Heap) =>
  j37 a114 h121)))
def F_law10_World_writes (w1 : Option Addr) (m2 m3 m4 m5 m6 m7 m8 m9 m10 m11 : Int) (m12 : Sl) (m13 m14 : Int) (m15 m16 : ByteArray) (m17 m18 m19 m20 m21 m22 m23 : Int) (h : Heap) (Q : Bool → Heap → Prop) : Prop := F_law10_World_writes_of F_law10_World_taken F_ref0_Eq F_law10_World_find F_law10_World_last w1 m2 m3 m4 m5 m6 m7 m8 m9 m10 m11 m12 m13 m14 m15 m16 m17 m18 m19 m20 m21 m22 m23 h Q
def plan59 : Plan := .s (.r [0, 3]) (.s (.r [0, 3, 5]) (.s (.s (.r [0, 3, 5, 12]) (.c (.s (.d [0, 1, 3, 7, 0, 31, 63, 127, 0, 256, 1023, 2047] [[0, 1, 2, 3, 4, 5, 6, 7, 8, 9, 10, 11]] [4]) .z) .z)) (.s (.dj [0, 1, 0, 4, 0, 16, 48, 112, 240, 496, 0, 0, 2048, 6144, 15360, 32767, 0, 131071] [[0, 1, 2, 3, 4, 5, 6, 7, 8, 10, 11, 12, 13, 9, 14, 15, 16, 17], [0, 1, 2, 3, 4, 5, 6, 7, 8, 10, 11, 12, 13, 9, 16, 14, 15, 17], [0, 1, 2, 3, 4, 5, 6, 7, 8, 10, 11, 12, 13, 14, 9, 15, 16, 17], [0, 1, 2, 3, 4, 5, 6, 7, 8, 10, 11, 12, 13, 14, 16, 9, 15, 17], [0, 1, 2, 3, 4, 5, 6, 7, 8, 10, 11, 12, 13, 16, 9, 14, 15, 17], [0, 1, 2, 3, 4, 5, 6, 7, 8, 10, 11, 12, 13, 16, 14, 9, 15, 17]] [(6, .one .addr)] [0, 3]) (.s (.d [0, 0, 2, 6, 14, 0, 32, 126, 255, 511, 1023] [[0, 1, 2, 3, 4, 5, 6, 7, 8, 9, 10]] [0, 3, 6]) (.s (.rj [(4, .one .bool)] []) .z)))))
theorem F_law10_World_writes.eq (f43_ : Option Addr → Int → Int → Sl → Sl → Int → Int → Heap → (Bool → Heap → Prop) → Prop) (f46_ : Sl → Sl → Heap → (Bool → Heap → Prop) → Prop) (f58_ : Option Addr → Int → Int → Heap → (Int → Heap → Prop) → Prop) (f66_ : Option Addr → Int → Heap → (Int → Int → Heap → Prop) → Prop) (w1 : Option Addr) (m2 m3 m4 m5 m6 m7 m8 m9 m10 m11 : Int) (m12 : Sl) (m13 m14 : Int) (m15 m16 : ByteArray) (m17 m18 m19 m20 m21 m22 m23 : Int) (h : Heap) (K : Value → Heap → Prop) : F_law10_World_writes_of f43_ f46_ f58_ f66_ w1 m2 m3 m4 m5 m6 m7 m8 m9 m10 m11 m12 m13 m14 m15 m16 m17 m18 m19 m20 m21 m22 m23 h (fun (r0 : Bool) (h : Heap) => K (.bool r0) h) =
    den Try.prog (fn1 43 (E_law10_World_taken_of f43_) (fn1 46 (E_ref0_Eq_of f46_) (fn1 58 (E_law10_World_find_of f58_) (fn1 66 (E_law10_World_last_of f66_) noFns)))) Try.f59.ntmps plan59 (bodyOf Try.f59) (args0 0 [(.pointer w1 : Value), (.agg #[.int .i64 m2, .int .i64 m3, .int .i64 m4, .int .i64 m5, .int .u64 m6, .int .u64 m7, .int .u64 m8, .int .u64 m9, .int .i64 m10, .int .u64 m11, .slice m12.ptr m12.len m12.cap, .int .i64 m13, .int .u64 m14, .string m15, .string m16, .int .u64 m17, .int .u64 m18, .int .u64 m19, .int .i64 m20, .int .i64 m21, .int .i64 m22, .int .i64 m23] : Value)]) h ⟨fun env h => dRes Try.prog Try.f59.results.toList env h K, fun _ _ _ => False, fun env h => dRes Try.prog Try.f59.results.toList env h K⟩ := by kernel_rfl
def E_law10_World_writes_of (f : Option Addr → Int → Int → Int → Int → Int → Int → Int → Int → Int → Int → Sl → Int → Int → ByteArray → ByteArray → Int → Int → Int → Int → Int → Int → Int → Heap → (Bool → Heap → Prop) → Prop) : List Value → Heap → (Value → Heap → Prop) → Prop
  | [v0, v1], h, K => dec1 .ptr v0 fun (w1 : Option Addr) =>
  vAgg v1 fun cs1 => decs [.int .i64, .int .i64, .int .i64, .int .i64, .int .u64, .int .u64, .int .u64, .int .u64, .int .i64, .int .u64, .sl, .int .i64, .int .u64, .str, .str, .int .u64, .int .u64, .int .u64, .int .i64, .int .i64, .int .i64, .int .i64] cs1.toList fun (m2 m3 m4 m5 m6 m7 m8 m9 m10 m11 : Int) (m12 : Sl) (m13 m14 : Int) (m15 m16 : ByteArray) (m17 m18 m19 m20 m21 m22 m23 : Int) =>
  f w1 m2 m3 m4 m5 m6 m7 m8 m9 m10 m11 m12 m13 m14 m15 m16 m17 m18 m19 m20 m21 m22 m23 h (fun (r0 : Bool) (h : Heap) => K (.bool r0) h)
  | _, _, _ => False
abbrev E_law10_World_writes := E_law10_World_writes_of F_law10_World_writes
theorem E_law10_World_writes.right : IsRight Try.prog 59 E_law10_World_writes := by
  refine isRight fun vs K w hh => ?_
  match vs, hh with
  | [v0, v1], hh =>
    unfold E_law10_World_writes E_law10_World_writes_of at hh
    replace hh := dec1_sound hh; obtain ⟨w1, rfl, hh⟩ := hh
    replace hh := vAgg_sound hh; obtain ⟨cs1, rfl, hh⟩ := hh
    replace hh := decs_cons hh; obtain ⟨m2, l1_0, e1_0, hh⟩ := hh
    replace hh := decs_cons hh; obtain ⟨m3, l1_1, e1_1, hh⟩ := hh
    replace hh := decs_cons hh; obtain ⟨m4, l1_2, e1_2, hh⟩ := hh
    replace hh := decs_cons hh; obtain ⟨m5, l1_3, e1_3, hh⟩ := hh
    replace hh := decs_cons hh; obtain ⟨m6, l1_4, e1_4, hh⟩ := hh
    replace hh := decs_cons hh; obtain ⟨m7, l1_5, e1_5, hh⟩ := hh
    replace hh := decs_cons hh; obtain ⟨m8, l1_6, e1_6, hh⟩ := hh
    replace hh := decs_cons hh; obtain ⟨m9, l1_7, e1_7, hh⟩ := hh
    replace hh := decs_cons hh; obtain ⟨m10, l1_8, e1_8, hh⟩ := hh
    replace hh := decs_cons hh; obtain ⟨m11, l1_9, e1_9, hh⟩ := hh
    replace hh := decs_cons hh; obtain ⟨m12, l1_10, e1_10, hh⟩ := hh
    replace hh := decs_cons hh; obtain ⟨m13, l1_11, e1_11, hh⟩ := hh
    replace hh := decs_cons hh; obtain ⟨m14, l1_12, e1_12, hh⟩ := hh
    replace hh := decs_cons hh; obtain ⟨m15, l1_13, e1_13, hh⟩ := hh
    replace hh := decs_cons hh; obtain ⟨m16, l1_14, e1_14, hh⟩ := hh
    replace hh := decs_cons hh; obtain ⟨m17, l1_15, e1_15, hh⟩ := hh
    replace hh := decs_cons hh; obtain ⟨m18, l1_16, e1_16, hh⟩ := hh
    replace hh := decs_cons hh; obtain ⟨m19, l1_17, e1_17, hh⟩ := hh
    replace hh := decs_cons hh; obtain ⟨m20, l1_18, e1_18, hh⟩ := hh
    replace hh := decs_cons hh; obtain ⟨m21, l1_19, e1_19, hh⟩ := hh
    replace hh := decs_cons hh; obtain ⟨m22, l1_20, e1_20, hh⟩ := hh
    replace hh := decs_cons hh; obtain ⟨m23, l1_21, e1_21, hh⟩ := hh
    replace hh := decs_nil hh; obtain ⟨rfl, hh⟩ := hh
    subst e1_21
    subst e1_20
    subst e1_19
    subst e1_18
    subst e1_17
    subst e1_16
    subst e1_15
    subst e1_14
    subst e1_13
    subst e1_12
    subst e1_11
    subst e1_10
    subst e1_9
    subst e1_8
    subst e1_7
    subst e1_6
    subst e1_5
    subst e1_4
    subst e1_3
    subst e1_2
    subst e1_1
    have ec1 := toArray_eq e1_0
    subst ec1
    unfold F_law10_World_writes at hh
    exact calls_den (fn1_right ok43 E_law10_World_taken.right (fn1_right ok46 E_ref0_Eq.right (fn1_right ok58 E_law10_World_find.right (fn1_right ok66 E_law10_World_last.right noFns_right)))) plan59 _ w K Try.func59 (by kernel_rfl) (by kernel_rfl) (Eq.mp (F_law10_World_writes.eq F_law10_World_taken F_ref0_Eq F_law10_World_find F_law10_World_last w1 m2 m3 m4 m5 m6 m7 m8 m9 m10 m11 m12 m13 m14 m15 m16 m17 m18 m19 m20 m21 m22 m23 w.heap K) hh)
theorem ok59 : okFn Try.prog 59 = true := by kernel_rfl
end Go.Proofs.Ytigcpkejjjgkeaa.V
namespace Go.Proofs.Ytigcpkejjjgkeaa.V
open Go Go.RowKit
set_option linter.unusedVariables false
set_option maxRecDepth 100000
def F_law10_World_sends.l1 (f36_ : Option Addr → Int → Heap → (Int → Heap → Prop) → Prop) (f38_ : Int → Int → Int → Int → Int → Int → Int → Int → Int → Int → Sl → Int → Int → ByteArray → ByteArray → Int → Int → Int → Int → Int → Int → Int → Heap → (Int → Int → Int → Int → Int → Int → Int → Int → Int → Int → Sl → Int → Int → ByteArray → ByteArray → Int → Int → Int → Int → Int → Int → Int → Heap → Prop) → Prop) (f59_ : Option Addr → Int → Int → Int → Int → Int → Int → Int → Int → Int → Int → Sl → Int → Int → ByteArray → ByteArray → Int → Int → Int → Int → Int → Int → Int → Heap → (Bool → Heap → Prop) → Prop) (w1 : Option Addr) (place2 : Int) (l3 : Sl) (Q : Bool → Heap → Prop) (j4 : Heap → Prop) : Int → Heap → Prop :=
  wl [(7, .one (.int .i64))] (fun (next5 : Int → Heap → Prop) (i6 : Int) (h7 : Heap) =>
  brr (decide (i6 < ((l3.len : Nat) : Int)))
  (ixS 22 l3 i6 fun (a8 : Addr) =>
  ld [.int .i64, .int .i64, .int .i64, .int .i64, .int .u64, .int .u64, .int .u64, .int .u64, .int .i64, .int .u64, .sl, .int .i64, .int .u64, .str, .str, .int .u64, .int .u64, .int .u64, .int .i64, .int .i64, .int .i64, .int .i64] a8 h7 fun (v9 v10 v11 v12 v13 v14 v15 v16 v17 v18 : Int) (v19 : Sl) (v20 v21 : Int) (v22 v23 : ByteArray) (v24 v25 v26 v27 v28 v29 v30 : Int) =>
  f38_ v9 v10 v11 v12 v13 v14 v15 v16 v17 v18 v19 v20 v21 v22 v23 v24 v25 v26 v27 v28 v29 v30 h7 fun (r31 r32 r33 r34 r35 r36 r37 r38 r39 r40 : Int) (r41 : Sl) (r42 r43 : Int) (r44 r45 : ByteArray) (r46 r47 r48 r49 r50 r51 r52 : Int) (h53 : Heap) =>
  al 66 [.int .i64 0, .int .i64 0, .int .i64 0, .int .i64 0, .int .u64 0, .int .u64 0, .int .u64 0, .int .u64 0, .int .i64 0, .int .u64 0, .slice none 0 0, .int .i64 0, .int .u64 0, .string (⟨#[]⟩ : ByteArray), .string (⟨#[]⟩ : ByteArray), .int .u64 0, .int .u64 0, .int .u64 0, .int .i64 0, .int .i64 0, .int .i64 0, .int .i64 0] h53 fun (a54 : Addr) (h55 : Heap) =>
  st a54 [.int .i64 r31, .int .i64 r32, .int .i64 r33, .int .i64 r34, .int .u64 r35, .int .u64 r36, .int .u64 r37, .int .u64 r38, .int .i64 r39, .int .u64 r40, .slice r41.ptr r41.len r41.cap, .int .i64 r42, .int .u64 r43, .string r44, .string r45, .int .u64 r46, .int .u64 r47, .int .u64 r48, .int .i64 r49, .int .i64 r50, .int .i64 r51, .int .i64 r52] h55 fun (h56 : Heap) =>
  jn [(44, .one .bool)] (fun (x67 : Bool) (h68 : Heap) =>
  brr x67
  (Q false h68)
  (jn [(54, .one .bool)] (fun (x95 : Bool) (h96 : Heap) =>
  brr x95
  (Q false h96)
  (nn w1 fun (a97 : Addr) =>
  ld [.sl] (a97.add 3) h96 fun (v98 : Sl) =>
  jn [] (fun  (h130 : Heap) =>
  next5 (IntKind.i64.wrap (i6 + 1)) h130) (fun (j99 : Heap → Prop) =>
  brr (decide (((v98.len : Nat) : Int) < 2000))
  (nn w1 fun (a100 : Addr) =>
  ld [.sl] (a100.add 3) h96 fun (v101 : Sl) =>
  ld [.int .i64, .int .i64, .int .i64, .int .i64, .int .u64, .int .u64, .int .u64, .int .u64, .int .i64, .int .u64, .sl, .int .i64, .int .u64, .str, .str, .int .u64, .int .u64, .int .u64, .int .i64, .int .i64, .int .i64, .int .i64] a54 h96 fun (v102 v103 v104 v105 v106 v107 v108 v109 v110 v111 : Int) (v112 : Sl) (v113 v114 : Int) (v115 v116 : ByteArray) (v117 v118 v119 v120 v121 v122 v123 : Int) =>
  al 66 [.int .i64 v102, .int .i64 v103, .int .i64 v104, .int .i64 v105, .int .u64 v106, .int .u64 v107, .int .u64 v108, .int .u64 v109, .int .i64 v110, .int .u64 v111, .slice v112.ptr v112.len v112.cap, .int .i64 v113, .int .u64 v114, .string v115, .string v116, .int .u64 v117, .int .u64 v118, .int .u64 v119, .int .i64 v120, .int .i64 v121, .int .i64 v122, .int .i64 v123] h96 fun (a124 : Addr) (h125 : Heap) =>
  cellsAre h125 (a100.add 3) [.slice v101.ptr v101.len v101.cap] ∧
  app 66 22 208 (.agg #[.int .i64 0, .int .i64 0, .int .i64 0, .int .i64 0, .int .u64 0, .int .u64 0, .int .u64 0, .int .u64 0, .int .i64 0, .int .u64 0, .slice none 0 0, .int .i64 0, .int .u64 0, .string (⟨#[]⟩ : ByteArray), .string (⟨#[]⟩ : ByteArray), .int .u64 0, .int .u64 0, .int .u64 0, .int .i64 0, .int .i64 0, .int .i64 0, .int .i64 0]) v101 (some a124) 1 h125 fun (s126 : Sl) (h127 : Heap) =>
  nn w1 fun (a128 : Addr) =>
  st (a128.add 3) [.slice s126.ptr s126.len s126.cap] h127 fun (h129 : Heap) =>
  j99 h129)
  (j99 h96)))) (fun (j69 : Bool → Heap → Prop) =>
  ld [.int .i64] ((a54.add 0).add 0) h68 fun (v70 : Int) =>
  brr (v70 == 4)
  (ld [.int .i64, .int .i64, .int .i64, .int .i64, .int .u64, .int .u64, .int .u64, .int .u64, .int .i64, .int .u64, .sl, .int .i64, .int .u64, .str, .str, .int .u64, .int .u64, .int .u64, .int .i64, .int .i64, .int .i64, .int .i64] a54 h68 fun (v71 v72 v73 v74 v75 v76 v77 v78 v79 v80 : Int) (v81 : Sl) (v82 v83 : Int) (v84 v85 : ByteArray) (v86 v87 v88 v89 v90 v91 v92 : Int) =>
  f59_ w1 v71 v72 v73 v74 v75 v76 v77 v78 v79 v80 v81 v82 v83 v84 v85 v86 v87 v88 v89 v90 v91 v92 h68 fun (r93 : Bool) (h94 : Heap) =>
  j69 (!r93) h94)
  (j69 false h68)))) (fun (j57 : Bool → Heap → Prop) =>
  ld [.int .i64] ((a54.add 0).add 1) h56 fun (v58 : Int) =>
  nn w1 fun (a59 : Addr) =>
  ld [.sl] (a59.add 0) h56 fun (v60 : Sl) =>
  ixS 1 v60 place2 fun (a61 : Addr) =>
  ld [.int .i64] a61 h56 fun (v62 : Int) =>
  brr (v58 != v62)
  (j57 true h56)
  (ld [.int .i64] ((a54.add 0).add 3) h56 fun (v63 : Int) =>
  brr (v63 != 2)
  (j57 true h56)
  (ld [.int .i64] ((a54.add 0).add 2) h56 fun (v64 : Int) =>
  f36_ w1 v64 h56 fun (r65 : Int) (h66 : Heap) =>
  j57 (decide (r65 < 0)) h66))))
  (j4 h7))
def F_law10_World_sends_of (f36_ : Option Addr → Int → Heap → (Int → Heap → Prop) → Prop) (f38_ : Int → Int → Int → Int → Int → Int → Int → Int → Int → Int → Sl → Int → Int → ByteArray → ByteArray → Int → Int → Int → Int → Int → Int → Int → Heap → (Int → Int → Int → Int → Int → Int → Int → Int → Int → Int → Sl → Int → Int → ByteArray → ByteArray → Int → Int → Int → Int → Int → Int → Int → Heap → Prop) → Prop) (f59_ : Option Addr → Int → Int → Int → Int → Int → Int → Int → Int → Int → Int → Sl → Int → Int → ByteArray → ByteArray → Int → Int → Int → Int → Int → Int → Int → Heap → (Bool → Heap → Prop) → Prop) (w1 : Option Addr) (place2 : Int) (l3 : Sl) (h : Heap) (Q : Bool → Heap → Prop) : Prop :=
  jn [] (fun  (h131 : Heap) =>
  Q true h131) (fun (j4 : Heap → Prop) =>
  F_law10_World_sends.l1 f36_ f38_ f59_ w1 place2 l3 Q j4 0 h)
def F_law10_World_sends (w1 : Option Addr) (place2 : Int) (l3 : Sl) (h : Heap) (Q : Bool → Heap → Prop) : Prop := F_law10_World_sends_of F_law10_World_place F_ref0_CopyMsg F_law10_World_writes w1 place2 l3 h Q
def plan40 : Plan := .s (.r [0, 1, 2]) (.s (.s (.r [0, 1, 2, 7]) (.bj [] [] (.l [(7, .one (.int .i64))] [0, 1, 2] (.s (.s (.r [0, 1, 2, 7, 12]) (.c .z .z)) (.s (.b (.s (.r [0, 1, 2, 7, 8]) (.s (.s (.dj [0, 1, 3, 0, 8, 24, 56, 0, 248, 504, 1023, 2047, 4095, 8191, 16383, 32767, 65535, 131071, 262143, 262143, 786431, 1835007, 4194303, 8388607, 16777215] [[0, 1, 2, 3, 4, 5, 6, 7, 8, 9, 10, 11, 12, 13, 14, 15, 16, 17, 18, 19, 20, 21, 22, 23, 24]] [(44, .one .bool)] [0, 1, 2, 7, 8]) (.c (.s (.r [6]) .z) .z)) (.s (.s (.rj [(54, .one .bool)] [0, 1, 2, 7, 8]) (.c (.s (.r [6]) .z) .z)) (.s (.r [0, 1, 2, 7, 8, 60]) (.cj [] [0, 1, 2, 7] (.d [0, 0, 2, 6, 14, 0, 32, 126, 255, 511, 1023] [[0, 1, 2, 3, 4, 5, 6, 7, 8, 9, 10]] [0, 1, 2, 7]) .z)))))) (.r [0, 1, 2, 7])))))) (.s (.r [6]) .z))
theorem F_law10_World_sends.eq (f36_ : Option Addr → Int → Heap → (Int → Heap → Prop) → Prop) (f38_ : Int → Int → Int → Int → Int → Int → Int → Int → Int → Int → Sl → Int → Int → ByteArray → ByteArray → Int → Int → Int → Int → Int → Int → Int → Heap → (Int → Int → Int → Int → Int → Int → Int → Int → Int → Int → Sl → Int → Int → ByteArray → ByteArray → Int → Int → Int → Int → Int → Int → Int → Heap → Prop) → Prop) (f59_ : Option Addr → Int → Int → Int → Int → Int → Int → Int → Int → Int → Int → Sl → Int → Int → ByteArray → ByteArray → Int → Int → Int → Int → Int → Int → Int → Heap → (Bool → Heap → Prop) → Prop) (w1 : Option Addr) (place2 : Int) (l3 : Sl) (h : Heap) (K : Value → Heap → Prop) : F_law10_World_sends_of f36_ f38_ f59_ w1 place2 l3 h (fun (r0 : Bool) (h : Heap) => K (.bool r0) h) =
    den Try.prog (fn1 36 (E_law10_World_place_of f36_) (fn1 38 (E_ref0_CopyMsg_of f38_) (fn1 59 (E_law10_World_writes_of f59_) noFns))) Try.f40.ntmps plan40 (bodyOf Try.f40) (args0 0 [(.pointer w1 : Value), (.int .i64 place2 : Value), (.slice l3.ptr l3.len l3.cap : Value)]) h ⟨fun env h => dRes Try.prog Try.f40.results.toList env h K, fun _ _ _ => False, fun env h => dRes Try.prog Try.f40.results.toList env h K⟩ := by kernel_rfl
def E_law10_World_sends_of (f : Option Addr → Int → Sl → Heap → (Bool → Heap → Prop) → Prop) : List Value → Heap → (Value → Heap → Prop) → Prop
  | [v0, v1, v2], h, K => dec1 .ptr v0 fun (w1 : Option Addr) =>
  dec1 (.int .i64) v1 fun (place2 : Int) =>
  dec1 .sl v2 fun (l3 : Sl) =>
  f w1 place2 l3 h (fun (r0 : Bool) (h : Heap) => K (.bool r0) h)
  | _, _, _ => False
abbrev E_law10_World_sends := E_law10_World_sends_of F_law10_World_sends
theorem E_law10_World_sends.right : IsRight Try.prog 40 E_law10_World_sends := by
  refine isRight fun vs K w hh => ?_
  match vs, hh with
  | [v0, v1, v2], hh =>
    unfold E_law10_World_sends E_law10_World_sends_of at hh
    replace hh := dec1_sound hh; obtain ⟨w1, rfl, hh⟩ := hh
    replace hh := dec1_sound hh; obtain ⟨place2, rfl, hh⟩ := hh
    replace hh := dec1_sound hh; obtain ⟨l3, rfl, hh⟩ := hh
    unfold F_law10_World_sends at hh
    exact calls_den (fn1_right ok36 E_law10_World_place.right (fn1_right ok38 E_ref0_CopyMsg.right (fn1_right ok59 E_law10_World_writes.right noFns_right))) plan40 _ w K Try.func40 (by kernel_rfl) (by kernel_rfl) (Eq.mp (F_law10_World_sends.eq F_law10_World_place F_ref0_CopyMsg F_law10_World_writes w1 place2 l3 w.heap K) hh)
theorem ok40 : okFn Try.prog 40 = true := by kernel_rfl
end Go.Proofs.Ytigcpkejjjgkeaa.V
namespace Go.Proofs.Ytigcpkejjjgkeaa.V
open Go Go.RowKit
set_option linter.unusedVariables false
set_option maxRecDepth 100000
def F_law10_World_starts_of (f7_ : Int → Int → Heap → (Int → Heap → Prop) → Prop) (f10_ : Option Addr → Int → Int → Int → Int → Sl → Int → Heap → (Sl → Heap → Prop) → Prop) (f40_ : Option Addr → Int → Sl → Heap → (Bool → Heap → Prop) → Prop) (f56_ : Sl → Heap → (Sl → Heap → Prop) → Prop) (w1 : Option Addr) (p2 more3 : Int) (h : Heap) (Q : Bool → Heap → Prop) : Prop :=
  nn w1 fun (a4 : Addr) =>
  ld [.sl] (a4.add 0) h fun (v5 : Sl) =>
  nn w1 fun (a6 : Addr) =>
  ld [.sl] (a6.add 2) h fun (v7 : Sl) =>
  ixS 4 v7 p2 fun (a8 : Addr) =>
  nn (some a8) fun (a9 : Addr) =>
  ld [.int .u64] (a9.add 0) h fun (v10 : Int) =>
  f7_ more3 3 h fun (r11 : Int) (h12 : Heap) =>
  cellsAre h12 (a9.add 0) [.int .u64 v10] ∧
  (IntKind.u64.wrap ((v5.len : Nat) : Int)) ≠ 0 ∧
  (IntKind.u64.wrap ((v5.len : Nat) : Int)) ≠ 0 ∧
  nn (some a8) fun (a13 : Addr) =>
  st (a13.add 0) [.int .u64 (IntKind.u64.wrap ((IntKind.u64.wrap ((IntKind.u64.wrap (v10 + 1)) + (IntKind.u64.wrap r11))) + ((IntKind.u64.wrap ((IntKind.u64.wrap ((IntKind.u64.wrap ((v5.len : Nat) : Int)) + (IntKind.u64.wrap p2))) - ((IntKind.u64.wrap ((IntKind.u64.wrap (v10 + 1)) + (IntKind.u64.wrap r11))).tmod (IntKind.u64.wrap ((v5.len : Nat) : Int))))).tmod (IntKind.u64.wrap ((v5.len : Nat) : Int)))))] h12 fun (h14 : Heap) =>
  nn w1 fun (a15 : Addr) =>
  ld [.sl] (a15.add 1) h14 fun (v16 : Sl) =>
  ixS 1 v16 p2 fun (a17 : Addr) =>
  ld [.ptr] a17 h14 fun (v18 : Option Addr) =>
  nn (some a8) fun (a19 : Addr) =>
  ld [.int .u64, .int .u64] (a19.add 1) h14 fun (v20 v21 : Int) =>
  nn (some a8) fun (a22 : Addr) =>
  ld [.sl] (a22.add 3) h14 fun (v23 : Sl) =>
  f56_ v23 h14 fun (r24 : Sl) (h25 : Heap) =>
  cellsAre h25 (a15.add 1) [.slice v16.ptr v16.len v16.cap] ∧
  cellsAre h25 a17 [.pointer v18] ∧
  cellsAre h25 (a19.add 1) [.int .u64 v20, .int .u64 v21] ∧
  f10_ v18 (IntKind.u64.wrap ((IntKind.u64.wrap ((IntKind.u64.wrap (v10 + 1)) + (IntKind.u64.wrap r11))) + ((IntKind.u64.wrap ((IntKind.u64.wrap ((IntKind.u64.wrap ((v5.len : Nat) : Int)) + (IntKind.u64.wrap p2))) - ((IntKind.u64.wrap ((IntKind.u64.wrap (v10 + 1)) + (IntKind.u64.wrap r11))).tmod (IntKind.u64.wrap ((v5.len : Nat) : Int))))).tmod (IntKind.u64.wrap ((v5.len : Nat) : Int))))) (IntKind.u64.wrap ((IntKind.u64.wrap ((IntKind.u64.wrap (v10 + 1)) + (IntKind.u64.wrap r11))) + ((IntKind.u64.wrap ((IntKind.u64.wrap ((IntKind.u64.wrap ((v5.len : Nat) : Int)) + (IntKind.u64.wrap p2))) - ((IntKind.u64.wrap ((IntKind.u64.wrap (v10 + 1)) + (IntKind.u64.wrap r11))).tmod (IntKind.u64.wrap ((v5.len : Nat) : Int))))).tmod (IntKind.u64.wrap ((v5.len : Nat) : Int))))) v20 v21 r24 3 h25 fun (r26 : Sl) (h27 : Heap) =>
  f40_ w1 p2 r26 h27 fun (r28 : Bool) (h29 : Heap) =>
  Q r28 h29
def F_law10_World_starts (w1 : Option Addr) (p2 more3 : Int) (h : Heap) (Q : Bool → Heap → Prop) : Prop := F_law10_World_starts_of F_law10_into F_quorum_Quorum_Start F_law10_World_sends F_ref0_Copy w1 p2 more3 h Q
def plan35 : Plan := .s (.r [0, 1, 2]) (.s (.r [0, 1, 2, 7]) (.s (.r [0, 1, 2, 7, 8]) (.s (.d [0, 1, 3, 7, 15, 0, 32, 96, 255, 511] [[0, 1, 2, 3, 4, 5, 6, 7, 8, 9]] [0, 1, 7, 8, 9]) (.s (.r [0, 1, 8, 10]) (.s (.r [0, 1, 8, 10]) (.s (.d [0, 0, 0, 4, 12, 28, 0, 124, 252, 0, 0, 0, 2048, 6144, 14336, 0, 32768, 98304, 229376, 491520, 1047552, 2097148, 4194303, 8388607] [[0, 1, 2, 3, 4, 5, 6, 7, 8, 9, 10, 11, 12, 13, 14, 15, 16, 17, 18, 19, 20, 21, 22, 23]] [6]) .z))))))
theorem F_law10_World_starts.eq (f7_ : Int → Int → Heap → (Int → Heap → Prop) → Prop) (f10_ : Option Addr → Int → Int → Int → Int → Sl → Int → Heap → (Sl → Heap → Prop) → Prop) (f40_ : Option Addr → Int → Sl → Heap → (Bool → Heap → Prop) → Prop) (f56_ : Sl → Heap → (Sl → Heap → Prop) → Prop) (w1 : Option Addr) (p2 more3 : Int) (h : Heap) (K : Value → Heap → Prop) : F_law10_World_starts_of f7_ f10_ f40_ f56_ w1 p2 more3 h (fun (r0 : Bool) (h : Heap) => K (.bool r0) h) =
    den Try.prog (fn1 7 (E_law10_into_of f7_) (fn1 10 (E_quorum_Quorum_Start_of f10_) (fn1 40 (E_law10_World_sends_of f40_) (fn1 56 (E_ref0_Copy_of f56_) noFns)))) Try.f35.ntmps plan35 (bodyOf Try.f35) (args0 0 [(.pointer w1 : Value), (.int .i64 p2 : Value), (.int .i64 more3 : Value)]) h ⟨fun env h => dRes Try.prog Try.f35.results.toList env h K, fun _ _ _ => False, fun env h => dRes Try.prog Try.f35.results.toList env h K⟩ := by kernel_rfl
def E_law10_World_starts_of (f : Option Addr → Int → Int → Heap → (Bool → Heap → Prop) → Prop) : List Value → Heap → (Value → Heap → Prop) → Prop
  | [v0, v1, v2], h, K => dec1 .ptr v0 fun (w1 : Option Addr) =>
  dec1 (.int .i64) v1 fun (p2 : Int) =>
  dec1 (.int .i64) v2 fun (more3 : Int) =>
  f w1 p2 more3 h (fun (r0 : Bool) (h : Heap) => K (.bool r0) h)
  | _, _, _ => False
abbrev E_law10_World_starts := E_law10_World_starts_of F_law10_World_starts
theorem E_law10_World_starts.right : IsRight Try.prog 35 E_law10_World_starts := by
  refine isRight fun vs K w hh => ?_
  match vs, hh with
  | [v0, v1, v2], hh =>
    unfold E_law10_World_starts E_law10_World_starts_of at hh
    replace hh := dec1_sound hh; obtain ⟨w1, rfl, hh⟩ := hh
    replace hh := dec1_sound hh; obtain ⟨p2, rfl, hh⟩ := hh
    replace hh := dec1_sound hh; obtain ⟨more3, rfl, hh⟩ := hh
    unfold F_law10_World_starts at hh
    exact calls_den (fn1_right ok7 E_law10_into.right (fn1_right ok10 E_quorum_Quorum_Start.right (fn1_right ok40 E_law10_World_sends.right (fn1_right ok56 E_ref0_Copy.right noFns_right)))) plan35 _ w K Try.func35 (by kernel_rfl) (by kernel_rfl) (Eq.mp (F_law10_World_starts.eq F_law10_into F_quorum_Quorum_Start F_law10_World_sends F_ref0_Copy w1 p2 more3 w.heap K) hh)
theorem ok35 : okFn Try.prog 35 = true := by kernel_rfl
end Go.Proofs.Ytigcpkejjjgkeaa.V
namespace Go.Proofs.Ytigcpkejjjgkeaa.V
open Go Go.RowKit
set_option linter.unusedVariables false
set_option maxRecDepth 100000
def F_law10_World_hears_of (f20_ : Option Addr → Int → Int → Int → Int → Int → Int → Int → Int → Int → Int → Sl → Int → Int → ByteArray → ByteArray → Int → Int → Int → Int → Int → Int → Int → Int → Heap → (Sl → Heap → Prop) → Prop) (f36_ : Option Addr → Int → Heap → (Int → Heap → Prop) → Prop) (f40_ : Option Addr → Int → Sl → Heap → (Bool → Heap → Prop) → Prop) (f56_ : Sl → Heap → (Sl → Heap → Prop) → Prop) (f57_ : Int → Int → Int → Int → Heap → (Int → Heap → Prop) → Prop) (f58_ : Option Addr → Int → Int → Heap → (Int → Heap → Prop) → Prop) (w1 : Option Addr) (m2 m3 m4 m5 m6 m7 m8 m9 m10 m11 : Int) (m12 : Sl) (m13 m14 : Int) (m15 m16 : ByteArray) (m17 m18 m19 m20 m21 m22 m23 : Int) (h : Heap) (Q : Bool → Heap → Prop) : Prop :=
  al 66 [.int .i64 m2, .int .i64 m3, .int .i64 m4, .int .i64 m5, .int .u64 m6, .int .u64 m7, .int .u64 m8, .int .u64 m9, .int .i64 m10, .int .u64 m11, .slice m12.ptr m12.len m12.cap, .int .i64 m13, .int .u64 m14, .string m15, .string m16, .int .u64 m17, .int .u64 m18, .int .u64 m19, .int .i64 m20, .int .i64 m21, .int .i64 m22, .int .i64 m23] h fun (a24 : Addr) (h25 : Heap) =>
  ld [.int .i64] ((a24.add 0).add 2) h25 fun (v26 : Int) =>
  f36_ w1 v26 h25 fun (r27 : Int) (h28 : Heap) =>
  nn w1 fun (a29 : Addr) =>
  ld [.sl] (a29.add 2) h28 fun (v30 : Sl) =>
  ixS 4 v30 r27 fun (a31 : Addr) =>
  ld [.int .i64] ((a24.add 0).add 2) h28 fun (v32 : Int) =>
  ld [.int .i64] ((a24.add 0).add 1) h28 fun (v33 : Int) =>
  ld [.int .u64] (a24.add 4) h28 fun (v34 : Int) =>
  al 66 [.int .i64 0, .int .i64 0, .int .i64 0, .int .i64 0, .int .u64 0, .int .u64 0, .int .u64 0, .int .u64 0, .int .i64 0, .int .u64 0, .slice none 0 0, .int .i64 0, .int .u64 0, .string (⟨#[]⟩ : ByteArray), .string (⟨#[]⟩ : ByteArray), .int .u64 0, .int .u64 0, .int .u64 0, .int .i64 0, .int .i64 0, .int .i64 0, .int .i64 0] h28 fun (a35 : Addr) (h36 : Heap) =>
  st a35 [.int .i64 0, .int .i64 v32, .int .i64 v33, .int .i64 2, .int .u64 v34, .int .u64 0, .int .u64 0, .int .u64 0, .int .i64 0, .int .u64 0, .slice none 0 0, .int .i64 0, .int .u64 0, .string (⟨#[]⟩ : ByteArray), .string (⟨#[]⟩ : ByteArray), .int .u64 0, .int .u64 0, .int .u64 0, .int .i64 0, .int .i64 0, .int .i64 0, .int .i64 0] h36 fun (h37 : Heap) =>
  ld [.int .u64] (a24.add 4) h37 fun (v38 : Int) =>
  ld [.int .i64] ((a24.add 0).add 0) h37 fun (v39 : Int) =>
  jn [(8, .one (.int .u64))] (fun (epoch84 : Int) (h85 : Heap) =>
  nn (some a31) fun (a86 : Addr) =>
  ld [.int .u64] (a86.add 0) h85 fun (v87 : Int) =>
  brr (decide (epoch84 < v87))
  (nn w1 fun (a88 : Addr) =>
  ld [.sl] (a88.add 3) h85 fun (v89 : Sl) =>
  ld [.int .i64] ((a24.add 0).add 2) h85 fun (v90 : Int) =>
  ld [.int .i64] ((a24.add 0).add 1) h85 fun (v91 : Int) =>
  nn (some a31) fun (a92 : Addr) =>
  ld [.int .u64] (a92.add 0) h85 fun (v93 : Int) =>
  al 66 [.int .i64 3, .int .i64 v90, .int .i64 v91, .int .i64 2, .int .u64 epoch84, .int .u64 0, .int .u64 0, .int .u64 0, .int .i64 0, .int .u64 v93, .slice none 0 0, .int .i64 0, .int .u64 0, .string (⟨#[]⟩ : ByteArray), .string (⟨#[]⟩ : ByteArray), .int .u64 0, .int .u64 0, .int .u64 0, .int .i64 0, .int .i64 0, .int .i64 0, .int .i64 0] h85 fun (a94 : Addr) (h95 : Heap) =>
  cellsAre h95 (a88.add 3) [.slice v89.ptr v89.len v89.cap] ∧
  app 66 22 208 (.agg #[.int .i64 0, .int .i64 0, .int .i64 0, .int .i64 0, .int .u64 0, .int .u64 0, .int .u64 0, .int .u64 0, .int .i64 0, .int .u64 0, .slice none 0 0, .int .i64 0, .int .u64 0, .string (⟨#[]⟩ : ByteArray), .string (⟨#[]⟩ : ByteArray), .int .u64 0, .int .u64 0, .int .u64 0, .int .i64 0, .int .i64 0, .int .i64 0, .int .i64 0]) v89 (some a94) 1 h95 fun (s96 : Sl) (h97 : Heap) =>
  nn w1 fun (a98 : Addr) =>
  st (a98.add 3) [.slice s96.ptr s96.len s96.cap] h97 fun (h99 : Heap) =>
  Q true h99)
  (nn (some a31) fun (a100 : Addr) =>
  st (a100.add 0) [.int .u64 epoch84] h85 fun (h101 : Heap) =>
  jn [(115, .one .bool)] (fun (x111 : Bool) (h112 : Heap) =>
  jn [] (fun  (h133 : Heap) =>
  jn [(155, .one .bool)] (fun (x141 : Bool) (h142 : Heap) =>
  brr x141
  (Q true h142)
  (ld [.int .i64] ((a24.add 0).add 0) h142 fun (v143 : Int) =>
  jn [] (fun  (h154 : Heap) =>
  nn w1 fun (a155 : Addr) =>
  ld [.sl] (a155.add 3) h154 fun (v156 : Sl) =>
  ld [.int .i64, .int .i64, .int .i64, .int .i64, .int .u64, .int .u64, .int .u64, .int .u64, .int .i64, .int .u64, .sl, .int .i64, .int .u64, .str, .str, .int .u64, .int .u64, .int .u64, .int .i64, .int .i64, .int .i64, .int .i64] a35 h154 fun (v157 v158 v159 v160 v161 v162 v163 v164 v165 v166 : Int) (v167 : Sl) (v168 v169 : Int) (v170 v171 : ByteArray) (v172 v173 v174 v175 v176 v177 v178 : Int) =>
  al 66 [.int .i64 v157, .int .i64 v158, .int .i64 v159, .int .i64 v160, .int .u64 v161, .int .u64 v162, .int .u64 v163, .int .u64 v164, .int .i64 v165, .int .u64 v166, .slice v167.ptr v167.len v167.cap, .int .i64 v168, .int .u64 v169, .string v170, .string v171, .int .u64 v172, .int .u64 v173, .int .u64 v174, .int .i64 v175, .int .i64 v176, .int .i64 v177, .int .i64 v178] h154 fun (a179 : Addr) (h180 : Heap) =>
  cellsAre h180 (a155.add 3) [.slice v156.ptr v156.len v156.cap] ∧
  app 66 22 208 (.agg #[.int .i64 0, .int .i64 0, .int .i64 0, .int .i64 0, .int .u64 0, .int .u64 0, .int .u64 0, .int .u64 0, .int .i64 0, .int .u64 0, .slice none 0 0, .int .i64 0, .int .u64 0, .string (⟨#[]⟩ : ByteArray), .string (⟨#[]⟩ : ByteArray), .int .u64 0, .int .u64 0, .int .u64 0, .int .i64 0, .int .i64 0, .int .i64 0, .int .i64 0]) v156 (some a179) 1 h180 fun (s181 : Sl) (h182 : Heap) =>
  nn w1 fun (a183 : Addr) =>
  st (a183.add 3) [.slice s181.ptr s181.len s181.cap] h182 fun (h184 : Heap) =>
  Q true h184) (fun (j144 : Heap → Prop) =>
  brr (v143 == 1)
  (nn (some a31) fun (a145 : Addr) =>
  ld [.int .u64, .int .u64] (a145.add 1) h142 fun (v146 v147 : Int) =>
  st (a35.add 5) [.int .u64 v146, .int .u64 v147] h142 fun (h148 : Heap) =>
  nn (some a31) fun (a149 : Addr) =>
  ld [.sl] (a149.add 3) h148 fun (v150 : Sl) =>
  f56_ v150 h148 fun (r151 : Sl) (h152 : Heap) =>
  st (a35.add 10) [.slice r151.ptr r151.len r151.cap] h152 fun (h153 : Heap) =>
  j144 h153)
  (j144 h142)))) (fun (j134 : Bool → Heap → Prop) =>
  ld [.int .i64] ((a24.add 0).add 0) h133 fun (v135 : Int) =>
  brr (v135 == 4)
  (nn (some a31) fun (a136 : Addr) =>
  ld [.int .u64, .int .u64] (a136.add 1) h133 fun (v137 v138 : Int) =>
  ld [.int .u64, .int .u64] (a24.add 5) h133 fun (v139 v140 : Int) =>
  j134 (!((v137 == v139) && ((v138 == v140) && (true)))) h133)
  (j134 false h133))) (fun (j113 : Heap → Prop) =>
  brr x111
  (ld [.int .u64, .int .u64] (a24.add 5) h112 fun (v114 v115 : Int) =>
  nn (some a31) fun (a116 : Addr) =>
  st (a116.add 1) [.int .u64 v114, .int .u64 v115] h112 fun (h117 : Heap) =>
  ld [.sl] (a24.add 10) h117 fun (v118 : Sl) =>
  f56_ v118 h117 fun (r119 : Sl) (h120 : Heap) =>
  nn (some a31) fun (a121 : Addr) =>
  st (a121.add 3) [.slice r119.ptr r119.len r119.cap] h120 fun (h122 : Heap) =>
  ld [.int .u64, .int .u64] (a24.add 5) h122 fun (v123 v124 : Int) =>
  f58_ w1 v123 v124 h122 fun (r125 : Int) (h126 : Heap) =>
  brr (decide (r125 < 0))
  (Q false h126)
  (nn w1 fun (a127 : Addr) =>
  ld [.sl] (a127.add 4) h126 fun (v128 : Sl) =>
  ixS 6 v128 r125 fun (a129 : Addr) =>
  ld [.sl] (a129.add 3) h126 fun (v130 : Sl) =>
  ixS 1 v130 r27 fun (a131 : Addr) =>
  st a131 [.bool true] h126 fun (h132 : Heap) =>
  j113 h132))
  (j113 h112))) (fun (j102 : Bool → Heap → Prop) =>
  ld [.int .i64] ((a24.add 0).add 0) h101 fun (v103 : Int) =>
  brr (v103 == 4)
  (ld [.int .u64, .int .u64] (a24.add 5) h101 fun (v104 v105 : Int) =>
  nn (some a31) fun (a106 : Addr) =>
  ld [.int .u64, .int .u64] (a106.add 1) h101 fun (v107 v108 : Int) =>
  f57_ v104 v105 v107 v108 h101 fun (r109 : Int) (h110 : Heap) =>
  j102 (decide (r109 > 0)) h110)
  (j102 false h101)))) (fun (j40 : Int → Heap → Prop) =>
  brr (v39 == 1)
  (st ((a35.add 0).add 0) [.int .i64 2] h37 fun (h41 : Heap) =>
  j40 v38 h41)
  (jn [(8, .one (.int .u64))] (fun (epoch82 : Int) (h83 : Heap) =>
  j40 epoch82 h83) (fun (j42 : Int → Heap → Prop) =>
  brr (v39 == 4)
  (ld [.int .u64] ((a24.add 5).add 0) h37 fun (v43 : Int) =>
  st (a35.add 4) [.int .u64 0] h37 fun (h44 : Heap) =>
  st ((a35.add 0).add 0) [.int .i64 5] h44 fun (h45 : Heap) =>
  ld [.int .u64, .int .u64] (a24.add 5) h45 fun (v46 v47 : Int) =>
  st (a35.add 5) [.int .u64 v46, .int .u64 v47] h45 fun (h48 : Heap) =>
  j42 v43 h48)
  (brr (v39 == 6)
  (st ((a35.add 0).add 0) [.int .i64 7] h37 fun (h49 : Heap) =>
  ld [.int .u64] (a24.add 7) h49 fun (v50 : Int) =>
  st (a35.add 7) [.int .u64 v50] h49 fun (h51 : Heap) =>
  j42 v38 h51)
  (nn w1 fun (a52 : Addr) =>
  ld [.sl] (a52.add 1) h37 fun (v53 : Sl) =>
  ixS 1 v53 r27 fun (a54 : Addr) =>
  ld [.ptr] a54 h37 fun (v55 : Option Addr) =>
  ld [.int .i64, .int .i64, .int .i64, .int .i64, .int .u64, .int .u64, .int .u64, .int .u64, .int .i64, .int .u64, .sl, .int .i64, .int .u64, .str, .str, .int .u64, .int .u64, .int .u64, .int .i64, .int .i64, .int .i64, .int .i64] a24 h37 fun (v56 v57 v58 v59 v60 v61 v62 v63 v64 v65 : Int) (v66 : Sl) (v67 v68 : Int) (v69 v70 : ByteArray) (v71 v72 v73 v74 v75 v76 v77 : Int) =>
  f20_ v55 v56 v57 v58 v59 v60 v61 v62 v63 v64 v65 v66 v67 v68 v69 v70 v71 v72 v73 v74 v75 v76 v77 3 h37 fun (r78 : Sl) (h79 : Heap) =>
  f40_ w1 r27 r78 h79 fun (r80 : Bool) (h81 : Heap) =>
  Q r80 h81)))))
def F_law10_World_hears (w1 : Option Addr) (m2 m3 m4 m5 m6 m7 m8 m9 m10 m11 : Int) (m12 : Sl) (m13 m14 : Int) (m15 m16 : ByteArray) (m17 m18 m19 m20 m21 m22 m23 : Int) (h : Heap) (Q : Bool → Heap → Prop) : Prop := F_law10_World_hears_of F_quorum_Quorum_Hear F_law10_World_place F_law10_World_sends F_ref0_Copy F_ref0_CmpTag F_law10_World_find w1 m2 m3 m4 m5 m6 m7 m8 m9 m10 m11 m12 m13 m14 m15 m16 m17 m18 m19 m20 m21 m22 m23 h Q
def plan37 : Plan := .s (.r [0, 3]) (.s (.r [0, 3, 5]) (.s (.r [0, 3, 5, 6]) (.s (.r [0, 3, 5, 6, 7]) (.s (.r [0, 3, 5, 6, 7, 8]) (.s (.s (.r [0, 3, 5, 6, 7, 8, 35]) (.b (.s (.r [0, 3, 5, 6, 7, 8, 35, 48]) (.cj [(8, .one (.int .u64))] [0, 3, 5, 6, 7] (.r [0, 3, 5, 6, 7, 8]) (.s (.r [0, 3, 5, 6, 7, 8, 35, 52]) (.cj [(8, .one (.int .u64))] [0, 3, 5, 6, 7] (.s (.r [0, 3, 5, 6, 7, 8]) (.s (.r [0, 3, 5, 6, 7, 8]) (.s (.r [0, 3, 5, 6, 7, 8]) (.r [0, 3, 5, 6, 7, 8])))) (.s (.r [0, 3, 5, 6, 7, 8, 63]) (.c (.s (.r [0, 3, 5, 6, 7, 8]) (.r [0, 3, 5, 6, 7, 8])) (.s (.d [0, 0, 0, 4, 12, 28, 0, 124, 252, 0, 1020, 2047, 4095] [[0, 1, 2, 3, 4, 5, 6, 7, 8, 9, 10, 11, 12]] [4]) .z))))))))) (.s (.s (.r [0, 3, 5, 6, 7, 8, 75]) (.c (.s (.d [0, 0, 2, 6, 14, 0, 32, 96, 0, 256, 768, 2016, 0, 0, 8192, 24576, 57344, 131040, 262112, 524286, 1048575, 2097151, 4194303] [[0, 1, 2, 3, 4, 5, 6, 7, 8, 9, 10, 11, 12, 13, 14, 15, 16, 17, 18, 19, 20, 21, 22]] []) (.s (.r [4]) .z)) .z)) (.s (.r [0, 3, 5, 6, 7]) (.s (.s (.dj [0, 1, 3, 7, 15, 31, 63, 31, 159, 415, 927, 2047, 4095, 8191] [[0, 1, 2, 3, 4, 5, 6, 7, 8, 9, 10, 11, 12, 13]] [(115, .one .bool)] [0, 3, 5, 6, 7]) (.cj [] [0, 3, 6, 7] (.s (.r [0, 3, 5, 6, 7]) (.s (.r [0, 3, 5, 6, 7]) (.s (.r [0, 3, 5, 6, 7, 9]) (.s (.s (.r [0, 3, 5, 6, 7, 9, 132]) (.c (.s (.r [4]) .z) .z)) (.r [0, 3, 6, 7]))))) .z)) (.s (.s (.dj [0, 1, 3, 7, 15, 31, 63, 127, 255, 31, 543, 2047, 4095] [[0, 1, 2, 3, 4, 5, 6, 7, 8, 9, 10, 11, 12]] [(155, .one .bool)] [0, 3, 6, 7]) (.c (.s (.r [4]) .z) .z)) (.s (.s (.r [0, 6, 7, 159]) (.cj [] [0, 7] (.s (.r [0, 6, 7]) (.r [0, 7])) .z)) (.s (.d [0, 0, 2, 6, 14, 0, 32, 126, 255, 511, 1023] [[0, 1, 2, 3, 4, 5, 6, 7, 8, 9, 10]] []) (.s (.r [4]) .z))))))))))))
theorem F_law10_World_hears.eq (f20_ : Option Addr → Int → Int → Int → Int → Int → Int → Int → Int → Int → Int → Sl → Int → Int → ByteArray → ByteArray → Int → Int → Int → Int → Int → Int → Int → Int → Heap → (Sl → Heap → Prop) → Prop) (f36_ : Option Addr → Int → Heap → (Int → Heap → Prop) → Prop) (f40_ : Option Addr → Int → Sl → Heap → (Bool → Heap → Prop) → Prop) (f56_ : Sl → Heap → (Sl → Heap → Prop) → Prop) (f57_ : Int → Int → Int → Int → Heap → (Int → Heap → Prop) → Prop) (f58_ : Option Addr → Int → Int → Heap → (Int → Heap → Prop) → Prop) (w1 : Option Addr) (m2 m3 m4 m5 m6 m7 m8 m9 m10 m11 : Int) (m12 : Sl) (m13 m14 : Int) (m15 m16 : ByteArray) (m17 m18 m19 m20 m21 m22 m23 : Int) (h : Heap) (K : Value → Heap → Prop) : F_law10_World_hears_of f20_ f36_ f40_ f56_ f57_ f58_ w1 m2 m3 m4 m5 m6 m7 m8 m9 m10 m11 m12 m13 m14 m15 m16 m17 m18 m19 m20 m21 m22 m23 h (fun (r0 : Bool) (h : Heap) => K (.bool r0) h) =
    den Try.prog (fn1 20 (E_quorum_Quorum_Hear_of f20_) (fn1 36 (E_law10_World_place_of f36_) (fn1 40 (E_law10_World_sends_of f40_) (fn1 56 (E_ref0_Copy_of f56_) (fn1 57 (E_ref0_CmpTag_of f57_) (fn1 58 (E_law10_World_find_of f58_) noFns)))))) Try.f37.ntmps plan37 (bodyOf Try.f37) (args0 0 [(.pointer w1 : Value), (.agg #[.int .i64 m2, .int .i64 m3, .int .i64 m4, .int .i64 m5, .int .u64 m6, .int .u64 m7, .int .u64 m8, .int .u64 m9, .int .i64 m10, .int .u64 m11, .slice m12.ptr m12.len m12.cap, .int .i64 m13, .int .u64 m14, .string m15, .string m16, .int .u64 m17, .int .u64 m18, .int .u64 m19, .int .i64 m20, .int .i64 m21, .int .i64 m22, .int .i64 m23] : Value)]) h ⟨fun env h => dRes Try.prog Try.f37.results.toList env h K, fun _ _ _ => False, fun env h => dRes Try.prog Try.f37.results.toList env h K⟩ := by kernel_rfl
def E_law10_World_hears_of (f : Option Addr → Int → Int → Int → Int → Int → Int → Int → Int → Int → Int → Sl → Int → Int → ByteArray → ByteArray → Int → Int → Int → Int → Int → Int → Int → Heap → (Bool → Heap → Prop) → Prop) : List Value → Heap → (Value → Heap → Prop) → Prop
  | [v0, v1], h, K => dec1 .ptr v0 fun (w1 : Option Addr) =>
  vAgg v1 fun cs1 => decs [.int .i64, .int .i64, .int .i64, .int .i64, .int .u64, .int .u64, .int .u64, .int .u64, .int .i64, .int .u64, .sl, .int .i64, .int .u64, .str, .str, .int .u64, .int .u64, .int .u64, .int .i64, .int .i64, .int .i64, .int .i64] cs1.toList fun (m2 m3 m4 m5 m6 m7 m8 m9 m10 m11 : Int) (m12 : Sl) (m13 m14 : Int) (m15 m16 : ByteArray) (m17 m18 m19 m20 m21 m22 m23 : Int) =>
  f w1 m2 m3 m4 m5 m6 m7 m8 m9 m10 m11 m12 m13 m14 m15 m16 m17 m18 m19 m20 m21 m22 m23 h (fun (r0 : Bool) (h : Heap) => K (.bool r0) h)
  | _, _, _ => False
abbrev E_law10_World_hears := E_law10_World_hears_of F_law10_World_hears
theorem E_law10_World_hears.right : IsRight Try.prog 37 E_law10_World_hears := by
  refine isRight fun vs K w hh => ?_
  match vs, hh with
  | [v0, v1], hh =>
    unfold E_law10_World_hears E_law10_World_hears_of at hh
    replace hh := dec1_sound hh; obtain ⟨w1, rfl, hh⟩ := hh
    replace hh := vAgg_sound hh; obtain ⟨cs1, rfl, hh⟩ := hh
    replace hh := decs_cons hh; obtain ⟨m2, l1_0, e1_0, hh⟩ := hh
    replace hh := decs_cons hh; obtain ⟨m3, l1_1, e1_1, hh⟩ := hh
    replace hh := decs_cons hh; obtain ⟨m4, l1_2, e1_2, hh⟩ := hh
    replace hh := decs_cons hh; obtain ⟨m5, l1_3, e1_3, hh⟩ := hh
    replace hh := decs_cons hh; obtain ⟨m6, l1_4, e1_4, hh⟩ := hh
    replace hh := decs_cons hh; obtain ⟨m7, l1_5, e1_5, hh⟩ := hh
    replace hh := decs_cons hh; obtain ⟨m8, l1_6, e1_6, hh⟩ := hh
    replace hh := decs_cons hh; obtain ⟨m9, l1_7, e1_7, hh⟩ := hh
    replace hh := decs_cons hh; obtain ⟨m10, l1_8, e1_8, hh⟩ := hh
    replace hh := decs_cons hh; obtain ⟨m11, l1_9, e1_9, hh⟩ := hh
    replace hh := decs_cons hh; obtain ⟨m12, l1_10, e1_10, hh⟩ := hh
    replace hh := decs_cons hh; obtain ⟨m13, l1_11, e1_11, hh⟩ := hh
    replace hh := decs_cons hh; obtain ⟨m14, l1_12, e1_12, hh⟩ := hh
    replace hh := decs_cons hh; obtain ⟨m15, l1_13, e1_13, hh⟩ := hh
    replace hh := decs_cons hh; obtain ⟨m16, l1_14, e1_14, hh⟩ := hh
    replace hh := decs_cons hh; obtain ⟨m17, l1_15, e1_15, hh⟩ := hh
    replace hh := decs_cons hh; obtain ⟨m18, l1_16, e1_16, hh⟩ := hh
    replace hh := decs_cons hh; obtain ⟨m19, l1_17, e1_17, hh⟩ := hh
    replace hh := decs_cons hh; obtain ⟨m20, l1_18, e1_18, hh⟩ := hh
    replace hh := decs_cons hh; obtain ⟨m21, l1_19, e1_19, hh⟩ := hh
    replace hh := decs_cons hh; obtain ⟨m22, l1_20, e1_20, hh⟩ := hh
    replace hh := decs_cons hh; obtain ⟨m23, l1_21, e1_21, hh⟩ := hh
    replace hh := decs_nil hh; obtain ⟨rfl, hh⟩ := hh
    subst e1_21
    subst e1_20
    subst e1_19
    subst e1_18
    subst e1_17
    subst e1_16
    subst e1_15
    subst e1_14
    subst e1_13
    subst e1_12
    subst e1_11
    subst e1_10
    subst e1_9
    subst e1_8
    subst e1_7
    subst e1_6
    subst e1_5
    subst e1_4
    subst e1_3
    subst e1_2
    subst e1_1
    have ec1 := toArray_eq e1_0
    subst ec1
    unfold F_law10_World_hears at hh
    exact calls_den (fn1_right ok20 E_quorum_Quorum_Hear.right (fn1_right ok36 E_law10_World_place.right (fn1_right ok40 E_law10_World_sends.right (fn1_right ok56 E_ref0_Copy.right (fn1_right ok57 E_ref0_CmpTag.right (fn1_right ok58 E_law10_World_find.right noFns_right)))))) plan37 _ w K Try.func37 (by kernel_rfl) (by kernel_rfl) (Eq.mp (F_law10_World_hears.eq F_quorum_Quorum_Hear F_law10_World_place F_law10_World_sends F_ref0_Copy F_ref0_CmpTag F_law10_World_find w1 m2 m3 m4 m5 m6 m7 m8 m9 m10 m11 m12 m13 m14 m15 m16 m17 m18 m19 m20 m21 m22 m23 w.heap K) hh)
theorem ok37 : okFn Try.prog 37 = true := by kernel_rfl
end Go.Proofs.Ytigcpkejjjgkeaa.V
namespace Go.Proofs.Ytigcpkejjjgkeaa.V
open Go Go.RowKit
set_option linter.unusedVariables false
set_option maxRecDepth 100000
def F_law10_World_value_of  (w1 : Option Addr) (h : Heap) (Q : Sl → Heap → Prop) : Prop :=
  nn w1 fun (a2 : Addr) =>
  ld [.int .i64] (a2.add 5) h fun (v3 : Int) =>
  nn w1 fun (a4 : Addr) =>
  st (a4.add 5) [.int .i64 (IntKind.i64.wrap (v3 + 1))] h fun (h5 : Heap) =>
  nn w1 fun (a6 : Addr) =>
  ld [.int .i64] (a6.add 5) h5 fun (v7 : Int) =>
  nn w1 fun (a8 : Addr) =>
  ld [.int .i64] (a8.add 5) h5 fun (v9 : Int) =>
  0 ≤ (8 : Int) ∧
  al 5 [.int .u8 118, .int .u8 (IntKind.u8.wrap v7), .int .u8 (IntKind.u8.wrap (v9.fdiv (2 ^ min (8 : Int).toNat IntKind.i64.bits)))] h5 fun (a10 : Addr) (h11 : Heap) =>
  Q ⟨(some a10), 3, 3⟩ h11
def F_law10_World_value (w1 : Option Addr) (h : Heap) (Q : Sl → Heap → Prop) : Prop := F_law10_World_value_of  w1 h Q
def plan39 : Plan := .s (.r [0]) (.s (.r [0]) (.s (.d [0, 1, 3, 7, 15, 0, 32, 96, 224, 480, 992, 2047, 4095] [[0, 1, 2, 3, 4, 5, 6, 7, 8, 9, 10, 11, 12]] [2]) .z))
theorem F_law10_World_value.eq  (w1 : Option Addr) (h : Heap) (K : Value → Heap → Prop) : F_law10_World_value_of  w1 h (fun (r0 : Sl) (h : Heap) => K (.slice r0.ptr r0.len r0.cap) h) =
    den Try.prog noFns Try.f39.ntmps plan39 (bodyOf Try.f39) (args0 0 [(.pointer w1 : Value)]) h ⟨fun env h => dRes Try.prog Try.f39.results.toList env h K, fun _ _ _ => False, fun env h => dRes Try.prog Try.f39.results.toList env h K⟩ := by kernel_rfl
def E_law10_World_value_of (f : Option Addr → Heap → (Sl → Heap → Prop) → Prop) : List Value → Heap → (Value → Heap → Prop) → Prop
  | [v0], h, K => dec1 .ptr v0 fun (w1 : Option Addr) =>
  f w1 h (fun (r0 : Sl) (h : Heap) => K (.slice r0.ptr r0.len r0.cap) h)
  | _, _, _ => False
abbrev E_law10_World_value := E_law10_World_value_of F_law10_World_value
theorem E_law10_World_value.right : IsRight Try.prog 39 E_law10_World_value := by
  refine isRight fun vs K w hh => ?_
  match vs, hh with
  | [v0], hh =>
    unfold E_law10_World_value E_law10_World_value_of at hh
    replace hh := dec1_sound hh; obtain ⟨w1, rfl, hh⟩ := hh
    unfold F_law10_World_value at hh
    exact calls_den noFns_right plan39 _ w K Try.func39 (by kernel_rfl) (by kernel_rfl) (Eq.mp (F_law10_World_value.eq  w1 w.heap K) hh)
theorem ok39 : okFn Try.prog 39 = true := by kernel_rfl
end Go.Proofs.Ytigcpkejjjgkeaa.V
namespace Go.Proofs.Ytigcpkejjjgkeaa.V
open Go Go.RowKit
set_option linter.unusedVariables false
set_option maxRecDepth 100000
def F_law10_World_told_of (f42_ : Option Addr → Int → Heap → (Bool → Heap → Prop) → Prop) (f45_ : Option Addr → Heap → (Int → Int → Sl → Heap → Prop) → Prop) (f46_ : Sl → Sl → Heap → (Bool → Heap → Prop) → Prop) (f50_ : Option Addr → Heap → (Int → Heap → Prop) → Prop) (f58_ : Option Addr → Int → Int → Heap → (Int → Heap → Prop) → Prop) (w1 : Option Addr) (p2 : Int) (h : Heap) (Q : Bool → Heap → Prop) : Prop :=
  nn w1 fun (a3 : Addr) =>
  ld [.sl] (a3.add 1) h fun (v4 : Sl) =>
  ixS 1 v4 p2 fun (a5 : Addr) =>
  ld [.ptr] a5 h fun (v6 : Option Addr) =>
  f45_ v6 h fun (r7 r8 : Int) (r9 : Sl) (h10 : Heap) =>
  al 35 [.int .u64 0, .int .u64 0] h10 fun (a11 : Addr) (h12 : Heap) =>
  st a11 [.int .u64 r7, .int .u64 r8] h12 fun (h13 : Heap) =>
  ld [.int .u64, .int .u64] a11 h13 fun (v14 v15 : Int) =>
  brr ((v14 == 0) && ((v15 == 0) && (true)))
  (Q (((r9.len : Nat) : Int) == 0) h13)
  (ld [.int .u64, .int .u64] a11 h13 fun (v16 v17 : Int) =>
  f58_ w1 v16 v17 h13 fun (r18 : Int) (h19 : Heap) =>
  jn [(4, .one .bool)] (fun (x36 : Bool) (h37 : Heap) =>
  Q x36 h37) (fun (j20 : Bool → Heap → Prop) =>
  brr (decide (r18 ≥ 0))
  (f42_ w1 r18 h19 fun (r21 : Bool) (h22 : Heap) =>
  brr r21
  (nn w1 fun (a23 : Addr) =>
  ld [.sl] (a23.add 4) h22 fun (v24 : Sl) =>
  ixS 6 v24 r18 fun (a25 : Addr) =>
  ld [.sl] (a25.add 2) h22 fun (v26 : Sl) =>
  f46_ r9 v26 h22 fun (r27 : Bool) (h28 : Heap) =>
  brr r27
  (ld [.int .u64] (a11.add 0) h28 fun (v29 : Int) =>
  nn w1 fun (a30 : Addr) =>
  ld [.sl] (a30.add 1) h28 fun (v31 : Sl) =>
  ixS 1 v31 p2 fun (a32 : Addr) =>
  ld [.ptr] a32 h28 fun (v33 : Option Addr) =>
  f50_ v33 h28 fun (r34 : Int) (h35 : Heap) =>
  cellsAre h35 (a11.add 0) [.int .u64 v29] ∧
  j20 (v29 == r34) h35)
  (j20 false h28))
  (j20 false h22))
  (j20 false h19)))
def F_law10_World_told (w1 : Option Addr) (p2 : Int) (h : Heap) (Q : Bool → Heap → Prop) : Prop := F_law10_World_told_of F_law10_World_chosen F_quorum_Quorum_Chosen F_ref0_Eq F_quorum_Quorum_Epoch F_law10_World_find w1 p2 h Q
def plan41 : Plan := .s (.r [0, 1]) (.s (.r [0, 1, 5, 6]) (.s (.s (.r [0, 1, 5, 6, 21]) (.c (.s (.r [4]) .z) .z)) (.s (.r [0, 1, 5, 6, 7]) (.s (.dj [0, 1, 3, 7, 7, 31, 63, 127, 255, 255, 767, 1791, 3839, 255, 16127, 32511, 65279, 131071, 262143, 524287, 1048575, 2097151, 1048575, 5242879, 13631487, 30408703, 1048575, 131071999, 265289727, 533725183, 1073741823, 2147483647, 4294967295] [[0, 1, 2, 3, 4, 5, 6, 7, 8, 9, 10, 11, 12, 13, 14, 15, 16, 17, 18, 19, 20, 21, 22, 23, 24, 25, 26, 27, 28, 29, 30, 31, 32]] [(4, .one .bool)] []) .z))))
theorem F_law10_World_told.eq (f42_ : Option Addr → Int → Heap → (Bool → Heap → Prop) → Prop) (f45_ : Option Addr → Heap → (Int → Int → Sl → Heap → Prop) → Prop) (f46_ : Sl → Sl → Heap → (Bool → Heap → Prop) → Prop) (f50_ : Option Addr → Heap → (Int → Heap → Prop) → Prop) (f58_ : Option Addr → Int → Int → Heap → (Int → Heap → Prop) → Prop) (w1 : Option Addr) (p2 : Int) (h : Heap) (K : Value → Heap → Prop) : F_law10_World_told_of f42_ f45_ f46_ f50_ f58_ w1 p2 h (fun (r0 : Bool) (h : Heap) => K (.bool r0) h) =
    den Try.prog (fn1 42 (E_law10_World_chosen_of f42_) (fn1 45 (E_quorum_Quorum_Chosen_of f45_) (fn1 46 (E_ref0_Eq_of f46_) (fn1 50 (E_quorum_Quorum_Epoch_of f50_) (fn1 58 (E_law10_World_find_of f58_) noFns))))) Try.f41.ntmps plan41 (bodyOf Try.f41) (args0 0 [(.pointer w1 : Value), (.int .i64 p2 : Value)]) h ⟨fun env h => dRes Try.prog Try.f41.results.toList env h K, fun _ _ _ => False, fun env h => dRes Try.prog Try.f41.results.toList env h K⟩ := by kernel_rfl
def E_law10_World_told_of (f : Option Addr → Int → Heap → (Bool → Heap → Prop) → Prop) : List Value → Heap → (Value → Heap → Prop) → Prop
  | [v0, v1], h, K => dec1 .ptr v0 fun (w1 : Option Addr) =>
  dec1 (.int .i64) v1 fun (p2 : Int) =>
  f w1 p2 h (fun (r0 : Bool) (h : Heap) => K (.bool r0) h)
  | _, _, _ => False
abbrev E_law10_World_told := E_law10_World_told_of F_law10_World_told
theorem E_law10_World_told.right : IsRight Try.prog 41 E_law10_World_told := by
  refine isRight fun vs K w hh => ?_
  match vs, hh with
  | [v0, v1], hh =>
    unfold E_law10_World_told E_law10_World_told_of at hh
    replace hh := dec1_sound hh; obtain ⟨w1, rfl, hh⟩ := hh
    replace hh := dec1_sound hh; obtain ⟨p2, rfl, hh⟩ := hh
    unfold F_law10_World_told at hh
    exact calls_den (fn1_right ok42 E_law10_World_chosen.right (fn1_right ok45 E_quorum_Quorum_Chosen.right (fn1_right ok46 E_ref0_Eq.right (fn1_right ok50 E_quorum_Quorum_Epoch.right (fn1_right ok58 E_law10_World_find.right noFns_right))))) plan41 _ w K Try.func41 (by kernel_rfl) (by kernel_rfl) (Eq.mp (F_law10_World_told.eq F_law10_World_chosen F_quorum_Quorum_Chosen F_ref0_Eq F_quorum_Quorum_Epoch F_law10_World_find w1 p2 w.heap K) hh)
theorem ok41 : okFn Try.prog 41 = true := by kernel_rfl
end Go.Proofs.Ytigcpkejjjgkeaa.V
namespace Go.Proofs.Ytigcpkejjjgkeaa.V
open Go Go.RowKit
set_option linter.unusedVariables false
set_option maxRecDepth 100000
def F_law10_World_step_of (f7_ : Int → Int → Heap → (Int → Heap → Prop) → Prop) (f8_ : Int → Int → Sl → Heap → (Option Addr → Heap → Prop) → Prop) (f11_ : Option Addr → Int → Heap → (Sl → Heap → Prop) → Prop) (f21_ : Option Addr → Sl → Int → Heap → (Sl → Bool → Heap → Prop) → Prop) (f22_ : Option Addr → Heap → (Heap → Prop) → Prop) (f35_ : Option Addr → Int → Int → Heap → (Bool → Heap → Prop) → Prop) (f36_ : Option Addr → Int → Heap → (Int → Heap → Prop) → Prop) (f37_ : Option Addr → Int → Int → Int → Int → Int → Int → Int → Int → Int → Int → Sl → Int → Int → ByteArray → ByteArray → Int → Int → Int → Int → Int → Int → Int → Heap → (Bool → Heap → Prop) → Prop) (f38_ : Int → Int → Int → Int → Int → Int → Int → Int → Int → Int → Sl → Int → Int → ByteArray → ByteArray → Int → Int → Int → Int → Int → Int → Int → Heap → (Int → Int → Int → Int → Int → Int → Int → Int → Int → Int → Sl → Int → Int → ByteArray → ByteArray → Int → Int → Int → Int → Int → Int → Int → Heap → Prop) → Prop) (f39_ : Option Addr → Heap → (Sl → Heap → Prop) → Prop) (f40_ : Option Addr → Int → Sl → Heap → (Bool → Heap → Prop) → Prop) (f41_ : Option Addr → Int → Heap → (Bool → Heap → Prop) → Prop) (w1 : Option Addr) (s2 s3 s4 : Int) (h : Heap) (Q : Bool → Heap → Prop) : Prop :=
  al 47 [.int .i64 s2, .int .i64 s3, .int .i64 s4] h fun (a5 : Addr) (h6 : Heap) =>
  ld [.int .i64] (a5.add 1) h6 fun (v7 : Int) =>
  nn w1 fun (a8 : Addr) =>
  ld [.sl] (a8.add 0) h6 fun (v9 : Sl) =>
  f7_ v7 ((v9.len : Nat) : Int) h6 fun (r10 : Int) (h11 : Heap) =>
  nn w1 fun (a12 : Addr) =>
  ld [.sl] (a12.add 3) h11 fun (v13 : Sl) =>
  jn [(7, .one (.int .i64))] (fun (at_20 : Int) (h21 : Heap) =>
  ld [.int .i64] (a5.add 0) h21 fun (v22 : Int) =>
  jn [(5, .one (.int .i64)), (6, .one .bool)] (fun (p241 : Int) (ok242 : Bool) (h243 : Heap) =>
  jn [(4, .one .bool)] (fun (x247 : Bool) (h248 : Heap) =>
  Q x247 h248) (fun (j244 : Bool → Heap → Prop) =>
  brr ok242
  (f41_ w1 p241 h243 fun (r245 : Bool) (h246 : Heap) =>
  j244 r245 h246)
  (j244 false h243))) (fun (j23 : Int → Bool → Heap → Prop) =>
  brr (v22 == 1)
  (ld [.int .i64] (a5.add 2) h21 fun (v24 : Int) =>
  f35_ w1 r10 v24 h21 fun (r25 : Bool) (h26 : Heap) =>
  j23 r10 r25 h26)
  (jn [(5, .one (.int .i64)), (6, .one .bool)] (fun (p238 : Int) (ok239 : Bool) (h240 : Heap) =>
  j23 p238 ok239 h240) (fun (j27 : Int → Bool → Heap → Prop) =>
  brr (v22 == 2)
  (nn w1 fun (a28 : Addr) =>
  ld [.sl] (a28.add 3) h21 fun (v29 : Sl) =>
  jn [(5, .one (.int .i64)), (6, .one .bool)] (fun (p100 : Int) (ok101 : Bool) (h102 : Heap) =>
  j27 p100 ok101 h102) (fun (j30 : Int → Bool → Heap → Prop) =>
  brr (decide (((v29.len : Nat) : Int) > 0))
  (nn w1 fun (a31 : Addr) =>
  ld [.sl] (a31.add 3) h21 fun (v32 : Sl) =>
  ixS 22 v32 at_20 fun (a33 : Addr) =>
  ld [.int .i64, .int .i64, .int .i64, .int .i64, .int .u64, .int .u64, .int .u64, .int .u64, .int .i64, .int .u64, .sl, .int .i64, .int .u64, .str, .str, .int .u64, .int .u64, .int .u64, .int .i64, .int .i64, .int .i64, .int .i64] a33 h21 fun (v34 v35 v36 v37 v38 v39 v40 v41 v42 v43 : Int) (v44 : Sl) (v45 v46 : Int) (v47 v48 : ByteArray) (v49 v50 v51 v52 v53 v54 v55 : Int) =>
  al 66 [.int .i64 0, .int .i64 0, .int .i64 0, .int .i64 0, .int .u64 0, .int .u64 0, .int .u64 0, .int .u64 0, .int .i64 0, .int .u64 0, .slice none 0 0, .int .i64 0, .int .u64 0, .string (⟨#[]⟩ : ByteArray), .string (⟨#[]⟩ : ByteArray), .int .u64 0, .int .u64 0, .int .u64 0, .int .i64 0, .int .i64 0, .int .i64 0, .int .i64 0] h21 fun (a56 : Addr) (h57 : Heap) =>
  st a56 [.int .i64 v34, .int .i64 v35, .int .i64 v36, .int .i64 v37, .int .u64 v38, .int .u64 v39, .int .u64 v40, .int .u64 v41, .int .i64 v42, .int .u64 v43, .slice v44.ptr v44.len v44.cap, .int .i64 v45, .int .u64 v46, .string v47, .string v48, .int .u64 v49, .int .u64 v50, .int .u64 v51, .int .i64 v52, .int .i64 v53, .int .i64 v54, .int .i64 v55] h57 fun (h58 : Heap) =>
  nn w1 fun (a59 : Addr) =>
  ld [.sl] (a59.add 3) h58 fun (v60 : Sl) =>
  slTo v60 at_20 fun (s61 : Sl) =>
  nn w1 fun (a62 : Addr) =>
  ld [.sl] (a62.add 3) h58 fun (v63 : Sl) =>
  slFrom 22 v63 (IntKind.i64.wrap (at_20 + 1)) fun (s64 : Sl) =>
  al 66 [] h58 fun (a65 : Addr) (h66 : Heap) =>
  cellsAre h66 (a59.add 3) [.slice v60.ptr v60.len v60.cap] ∧
  cellsAre h66 (a62.add 3) [.slice v63.ptr v63.len v63.cap] ∧
  app 66 22 208 (.agg #[.int .i64 0, .int .i64 0, .int .i64 0, .int .i64 0, .int .u64 0, .int .u64 0, .int .u64 0, .int .u64 0, .int .i64 0, .int .u64 0, .slice none 0 0, .int .i64 0, .int .u64 0, .string (⟨#[]⟩ : ByteArray), .string (⟨#[]⟩ : ByteArray), .int .u64 0, .int .u64 0, .int .u64 0, .int .i64 0, .int .i64 0, .int .i64 0, .int .i64 0]) ⟨(some a65), 0, 0⟩ s61.ptr s61.len h66 fun (s67 : Sl) (h68 : Heap) =>
  cellsAre h68 (a62.add 3) [.slice v63.ptr v63.len v63.cap] ∧
  app 66 22 208 (.agg #[.int .i64 0, .int .i64 0, .int .i64 0, .int .i64 0, .int .u64 0, .int .u64 0, .int .u64 0, .int .u64 0, .int .i64 0, .int .u64 0, .slice none 0 0, .int .i64 0, .int .u64 0, .string (⟨#[]⟩ : ByteArray), .string (⟨#[]⟩ : ByteArray), .int .u64 0, .int .u64 0, .int .u64 0, .int .i64 0, .int .i64 0, .int .i64 0, .int .i64 0]) s67 s64.ptr s64.len h68 fun (s69 : Sl) (h70 : Heap) =>
  nn w1 fun (a71 : Addr) =>
  st (a71.add 3) [.slice s69.ptr s69.len s69.cap] h70 fun (h72 : Heap) =>
  ld [.int .i64] ((a56.add 0).add 2) h72 fun (v73 : Int) =>
  f36_ w1 v73 h72 fun (r74 : Int) (h75 : Heap) =>
  ld [.int .i64, .int .i64, .int .i64, .int .i64, .int .u64, .int .u64, .int .u64, .int .u64, .int .i64, .int .u64, .sl, .int .i64, .int .u64, .str, .str, .int .u64, .int .u64, .int .u64, .int .i64, .int .i64, .int .i64, .int .i64] a56 h75 fun (v76 v77 v78 v79 v80 v81 v82 v83 v84 v85 : Int) (v86 : Sl) (v87 v88 : Int) (v89 v90 : ByteArray) (v91 v92 v93 v94 v95 v96 v97 : Int) =>
  f37_ w1 v76 v77 v78 v79 v80 v81 v82 v83 v84 v85 v86 v87 v88 v89 v90 v91 v92 v93 v94 v95 v96 v97 h75 fun (r98 : Bool) (h99 : Heap) =>
  j30 r74 r98 h99)
  (j30 r10 true h21)))
  (jn [(6, .one .bool)] (fun (ok236 : Bool) (h237 : Heap) =>
  j27 r10 ok236 h237) (fun (j103 : Bool → Heap → Prop) =>
  brr (v22 == 3)
  (nn w1 fun (a104 : Addr) =>
  ld [.sl] (a104.add 3) h21 fun (v105 : Sl) =>
  jn [] (fun  (h121 : Heap) =>
  j103 true h121) (fun (j106 : Heap → Prop) =>
  brr (decide (((v105.len : Nat) : Int) > 0))
  (nn w1 fun (a107 : Addr) =>
  ld [.sl] (a107.add 3) h21 fun (v108 : Sl) =>
  slTo v108 at_20 fun (s109 : Sl) =>
  nn w1 fun (a110 : Addr) =>
  ld [.sl] (a110.add 3) h21 fun (v111 : Sl) =>
  slFrom 22 v111 (IntKind.i64.wrap (at_20 + 1)) fun (s112 : Sl) =>
  al 66 [] h21 fun (a113 : Addr) (h114 : Heap) =>
  cellsAre h114 (a107.add 3) [.slice v108.ptr v108.len v108.cap] ∧
  cellsAre h114 (a110.add 3) [.slice v111.ptr v111.len v111.cap] ∧
  app 66 22 208 (.agg #[.int .i64 0, .int .i64 0, .int .i64 0, .int .i64 0, .int .u64 0, .int .u64 0, .int .u64 0, .int .u64 0, .int .i64 0, .int .u64 0, .slice none 0 0, .int .i64 0, .int .u64 0, .string (⟨#[]⟩ : ByteArray), .string (⟨#[]⟩ : ByteArray), .int .u64 0, .int .u64 0, .int .u64 0, .int .i64 0, .int .i64 0, .int .i64 0, .int .i64 0]) ⟨(some a113), 0, 0⟩ s109.ptr s109.len h114 fun (s115 : Sl) (h116 : Heap) =>
  cellsAre h116 (a110.add 3) [.slice v111.ptr v111.len v111.cap] ∧
  app 66 22 208 (.agg #[.int .i64 0, .int .i64 0, .int .i64 0, .int .i64 0, .int .u64 0, .int .u64 0, .int .u64 0, .int .u64 0, .int .i64 0, .int .u64 0, .slice none 0 0, .int .i64 0, .int .u64 0, .string (⟨#[]⟩ : ByteArray), .string (⟨#[]⟩ : ByteArray), .int .u64 0, .int .u64 0, .int .u64 0, .int .i64 0, .int .i64 0, .int .i64 0, .int .i64 0]) s115 s112.ptr s112.len h116 fun (s117 : Sl) (h118 : Heap) =>
  nn w1 fun (a119 : Addr) =>
  st (a119.add 3) [.slice s117.ptr s117.len s117.cap] h118 fun (h120 : Heap) =>
  j106 h120)
  (j106 h21)))
  (jn [(6, .one .bool)] (fun (ok234 : Bool) (h235 : Heap) =>
  j103 ok234 h235) (fun (j122 : Bool → Heap → Prop) =>
  brr (v22 == 4)
  (nn w1 fun (a123 : Addr) =>
  ld [.sl] (a123.add 3) h21 fun (v124 : Sl) =>
  jn [] (fun  (h182 : Heap) =>
  j122 true h182) (fun (j125 : Heap → Prop) =>
  brr (decide (((v124.len : Nat) : Int) > 0))
  (nn w1 fun (a126 : Addr) =>
  ld [.sl] (a126.add 3) h21 fun (v127 : Sl) =>
  nn w1 fun (a128 : Addr) =>
  ld [.sl] (a128.add 3) h21 fun (v129 : Sl) =>
  ixS 22 v129 at_20 fun (a130 : Addr) =>
  ld [.int .i64, .int .i64, .int .i64, .int .i64, .int .u64, .int .u64, .int .u64, .int .u64, .int .i64, .int .u64, .sl, .int .i64, .int .u64, .str, .str, .int .u64, .int .u64, .int .u64, .int .i64, .int .i64, .int .i64, .int .i64] a130 h21 fun (v131 v132 v133 v134 v135 v136 v137 v138 v139 v140 : Int) (v141 : Sl) (v142 v143 : Int) (v144 v145 : ByteArray) (v146 v147 v148 v149 v150 v151 v152 : Int) =>
  f38_ v131 v132 v133 v134 v135 v136 v137 v138 v139 v140 v141 v142 v143 v144 v145 v146 v147 v148 v149 v150 v151 v152 h21 fun (r153 r154 r155 r156 r157 r158 r159 r160 r161 r162 : Int) (r163 : Sl) (r164 r165 : Int) (r166 r167 : ByteArray) (r168 r169 r170 r171 r172 r173 r174 : Int) (h175 : Heap) =>
  cellsAre h175 (a126.add 3) [.slice v127.ptr v127.len v127.cap] ∧
  al 66 [.int .i64 r153, .int .i64 r154, .int .i64 r155, .int .i64 r156, .int .u64 r157, .int .u64 r158, .int .u64 r159, .int .u64 r160, .int .i64 r161, .int .u64 r162, .slice r163.ptr r163.len r163.cap, .int .i64 r164, .int .u64 r165, .string r166, .string r167, .int .u64 r168, .int .u64 r169, .int .u64 r170, .int .i64 r171, .int .i64 r172, .int .i64 r173, .int .i64 r174] h175 fun (a176 : Addr) (h177 : Heap) =>
  cellsAre h177 (a126.add 3) [.slice v127.ptr v127.len v127.cap] ∧
  app 66 22 208 (.agg #[.int .i64 0, .int .i64 0, .int .i64 0, .int .i64 0, .int .u64 0, .int .u64 0, .int .u64 0, .int .u64 0, .int .i64 0, .int .u64 0, .slice none 0 0, .int .i64 0, .int .u64 0, .string (⟨#[]⟩ : ByteArray), .string (⟨#[]⟩ : ByteArray), .int .u64 0, .int .u64 0, .int .u64 0, .int .i64 0, .int .i64 0, .int .i64 0, .int .i64 0]) v127 (some a176) 1 h177 fun (s178 : Sl) (h179 : Heap) =>
  nn w1 fun (a180 : Addr) =>
  st (a180.add 3) [.slice s178.ptr s178.len s178.cap] h179 fun (h181 : Heap) =>
  j125 h181)
  (j125 h21)))
  (jn [(6, .one .bool)] (fun (ok232 : Bool) (h233 : Heap) =>
  j122 ok232 h233) (fun (j183 : Bool → Heap → Prop) =>
  brr (v22 == 5)
  (nn w1 fun (a184 : Addr) =>
  ld [.sl] (a184.add 1) h21 fun (v185 : Sl) =>
  ixS 1 v185 r10 fun (a186 : Addr) =>
  ld [.ptr] a186 h21 fun (v187 : Option Addr) =>
  f39_ w1 h21 fun (r188 : Sl) (h189 : Heap) =>
  cellsAre h189 (a184.add 1) [.slice v185.ptr v185.len v185.cap] ∧
  cellsAre h189 a186 [.pointer v187] ∧
  f21_ v187 r188 3 h189 fun (r190 : Sl) (r191 : Bool) (h192 : Heap) =>
  f40_ w1 r10 r190 h192 fun (r193 : Bool) (h194 : Heap) =>
  j183 r193 h194)
  (jn [(6, .one .bool)] (fun (ok230 : Bool) (h231 : Heap) =>
  j183 ok230 h231) (fun (j195 : Bool → Heap → Prop) =>
  brr (v22 == 6)
  (nn w1 fun (a196 : Addr) =>
  ld [.sl] (a196.add 1) h21 fun (v197 : Sl) =>
  ixS 1 v197 r10 fun (a198 : Addr) =>
  ld [.ptr] a198 h21 fun (v199 : Option Addr) =>
  f11_ v199 3 h21 fun (r200 : Sl) (h201 : Heap) =>
  f40_ w1 r10 r200 h201 fun (r202 : Bool) (h203 : Heap) =>
  j195 r202 h203)
  (jn [(6, .one .bool)] (fun (ok228 : Bool) (h229 : Heap) =>
  j195 ok228 h229) (fun (j204 : Bool → Heap → Prop) =>
  brr (v22 == 7)
  (nn w1 fun (a205 : Addr) =>
  ld [.sl] (a205.add 1) h21 fun (v206 : Sl) =>
  nn w1 fun (a207 : Addr) =>
  ld [.sl] (a207.add 0) h21 fun (v208 : Sl) =>
  ixS 1 v208 r10 fun (a209 : Addr) =>
  ld [.int .i64] a209 h21 fun (v210 : Int) =>
  nn w1 fun (a211 : Addr) =>
  ld [.sl] (a211.add 0) h21 fun (v212 : Sl) =>
  f8_ v210 2 v212 h21 fun (r213 : Option Addr) (h214 : Heap) =>
  cellsAre h214 (a205.add 1) [.slice v206.ptr v206.len v206.cap] ∧
  ixS 1 v206 r10 fun (a215 : Addr) =>
  st a215 [.pointer r213] h214 fun (h216 : Heap) =>
  nn w1 fun (a217 : Addr) =>
  ld [.sl] (a217.add 1) h216 fun (v218 : Sl) =>
  ixS 1 v218 r10 fun (a219 : Addr) =>
  ld [.ptr] a219 h216 fun (v220 : Option Addr) =>
  j204 (!v220.isNone) h216)
  (jn [] (fun  (h227 : Heap) =>
  j204 true h227) (fun (j221 : Heap → Prop) =>
  brr (v22 == 8)
  (nn w1 fun (a222 : Addr) =>
  ld [.sl] (a222.add 1) h21 fun (v223 : Sl) =>
  ixS 1 v223 r10 fun (a224 : Addr) =>
  ld [.ptr] a224 h21 fun (v225 : Option Addr) =>
  f22_ v225 h21 fun  (h226 : Heap) =>
  j221 h226)
  (j221 h21))))))))))))))))) (fun (j14 : Int → Heap → Prop) =>
  brr (decide (((v13.len : Nat) : Int) > 0))
  (ld [.int .i64] (a5.add 2) h11 fun (v15 : Int) =>
  nn w1 fun (a16 : Addr) =>
  ld [.sl] (a16.add 3) h11 fun (v17 : Sl) =>
  f7_ v15 ((v17.len : Nat) : Int) h11 fun (r18 : Int) (h19 : Heap) =>
  j14 r18 h19)
  (j14 0 h11))
def F_law10_World_step (w1 : Option Addr) (s2 s3 s4 : Int) (h : Heap) (Q : Bool → Heap → Prop) : Prop := F_law10_World_step_of F_law10_into F_quorum_New F_quorum_Quorum_Tick F_quorum_Quorum_Propose F_quorum_Quorum_Stop F_law10_World_starts F_law10_World_place F_law10_World_hears F_ref0_CopyMsg F_law10_World_value F_law10_World_sends F_law10_World_told w1 s2 s3 s4 h Q
def plan15 : Plan := .s (.r [0, 3]) (.s (.d [0, 1, 0, 4, 12, 28, 60, 127, 255] [[0, 1, 2, 3, 4, 5, 6, 7, 8]] [0, 3, 5]) (.s (.r [0, 3, 5, 6]) (.s (.r [0, 3, 5, 6, 7]) (.s (.s (.r [0, 3, 5, 6, 7, 24]) (.cj [(7, .one (.int .i64))] [0, 3, 5, 6] (.d [0, 1, 0, 4, 12, 28, 60, 127, 255] [[0, 1, 2, 3, 4, 5, 6, 7, 8]] [0, 3, 5, 6, 7]) .z)) (.s (.s (.r [0, 3, 5, 6, 7, 34]) (.b (.s (.r [0, 3, 5, 6, 7, 34, 35]) (.cj [(5, .one (.int .i64)), (6, .one .bool)] [0] (.r [0, 5, 6]) (.s (.r [0, 5, 6, 7, 34, 42]) (.cj [(5, .one (.int .i64)), (6, .one .bool)] [0] (.s (.r [0, 5, 6, 7, 49]) (.cj [(5, .one (.int .i64)), (6, .one .bool)] [0] (.s (.r [0, 7, 8]) (.s (.d [0, 0, 0, 4, 12, 28, 0, 124, 254, 0, 512, 1536, 3584, 0, 8192, 32256, 65534, 131071, 262143, 524287] [[0, 2, 3, 4, 5, 6, 7, 9, 10, 11, 12, 13, 14, 15, 1, 8, 16, 17, 18, 19]] [0, 8]) (.s (.r [0, 5, 8]) (.r [0, 5, 6])))) .z)) (.s (.r [0, 5, 6, 7, 34, 84]) (.cj [(6, .one .bool)] [0, 5] (.s (.r [0, 5, 6, 7, 91]) (.cj [] [0, 5, 6] (.d [0, 0, 0, 4, 12, 28, 0, 124, 254, 0, 512, 1536, 3584, 0, 8192, 32256, 65534, 131071, 262143, 524287] [[0, 2, 3, 4, 5, 6, 7, 9, 10, 11, 12, 13, 14, 15, 1, 8, 16, 17, 18, 19]] [0, 5, 6]) .z)) (.s (.r [0, 5, 6, 7, 34, 111]) (.cj [(6, .one .bool)] [0, 5] (.s (.r [0, 5, 6, 7, 118]) (.cj [] [0, 5, 6] (.d [0, 0, 2, 6, 14, 0, 32, 96, 224, 0, 992, 2016, 4064, 8160, 16382, 32767, 65535, 131071] [[0, 1, 2, 3, 4, 5, 6, 7, 8, 9, 10, 11, 12, 13, 14, 15, 16, 17]] [0, 5, 6]) .z)) (.s (.r [0, 5, 6, 34, 136]) (.cj [(6, .one .bool)] [0, 5] (.s (.d [0, 1, 3, 7, 0, 31, 63, 0, 128, 511, 1023, 2047, 2047, 4095, 16383] [[0, 1, 2, 3, 4, 5, 6, 7, 8, 9, 10, 11, 12, 13, 14]] [0, 5, 9]) (.r [0, 5, 6])) (.s (.r [0, 5, 6, 34, 155]) (.cj [(6, .one .bool)] [0, 5] (.r [0, 5, 6]) (.s (.r [0, 5, 6, 34, 168]) (.cj [(6, .one .bool)] [0, 5] (.s (.d [0, 1, 3, 7, 0, 0, 32, 96, 224, 0, 992, 2016, 0, 4096, 12288, 28672, 65504, 131071, 262143] [[0, 1, 2, 3, 4, 5, 6, 7, 8, 9, 10, 11, 12, 13, 14, 15, 16, 17, 18]] [0, 5]) (.r [0, 5, 6])) (.s (.r [0, 5, 6, 196]) (.cj [] [0, 5, 6] (.r [0, 5, 6]) .z)))))))))))))))))) (.s (.rj [(4, .one .bool)] []) .z))))))
theorem F_law10_World_step.eq (f7_ : Int → Int → Heap → (Int → Heap → Prop) → Prop) (f8_ : Int → Int → Sl → Heap → (Option Addr → Heap → Prop) → Prop) (f11_ : Option Addr → Int → Heap → (Sl → Heap → Prop) → Prop) (f21_ : Option Addr → Sl → Int → Heap → (Sl → Bool → Heap → Prop) → Prop) (f22_ : Option Addr → Heap → (Heap → Prop) → Prop) (f35_ : Option Addr → Int → Int → Heap → (Bool → Heap → Prop) → Prop) (f36_ : Option Addr → Int → Heap → (Int → Heap → Prop) → Prop) (f37_ : Option Addr → Int → Int → Int → Int → Int → Int → Int → Int → Int → Int → Sl → Int → Int → ByteArray → ByteArray → Int → Int → Int → Int → Int → Int → Int → Heap → (Bool → Heap → Prop) → Prop) (f38_ : Int → Int → Int → Int → Int → Int → Int → Int → Int → Int → Sl → Int → Int → ByteArray → ByteArray → Int → Int → Int → Int → Int → Int → Int → Heap → (Int → Int → Int → Int → Int → Int → Int → Int → Int → Int → Sl → Int → Int → ByteArray → ByteArray → Int → Int → Int → Int → Int → Int → Int → Heap → Prop) → Prop) (f39_ : Option Addr → Heap → (Sl → Heap → Prop) → Prop) (f40_ : Option Addr → Int → Sl → Heap → (Bool → Heap → Prop) → Prop) (f41_ : Option Addr → Int → Heap → (Bool → Heap → Prop) → Prop) (w1 : Option Addr) (s2 s3 s4 : Int) (h : Heap) (K : Value → Heap → Prop) : F_law10_World_step_of f7_ f8_ f11_ f21_ f22_ f35_ f36_ f37_ f38_ f39_ f40_ f41_ w1 s2 s3 s4 h (fun (r0 : Bool) (h : Heap) => K (.bool r0) h) =
    den Try.prog (fn1 7 (E_law10_into_of f7_) (fn1 8 (E_quorum_New_of f8_) (fn1 11 (E_quorum_Quorum_Tick_of f11_) (fn1 21 (E_quorum_Quorum_Propose_of f21_) (fn1 22 (E_quorum_Quorum_Stop_of f22_) (fn1 35 (E_law10_World_starts_of f35_) (fn1 36 (E_law10_World_place_of f36_) (fn1 37 (E_law10_World_hears_of f37_) (fn1 38 (E_ref0_CopyMsg_of f38_) (fn1 39 (E_law10_World_value_of f39_) (fn1 40 (E_law10_World_sends_of f40_) (fn1 41 (E_law10_World_told_of f41_) noFns)))))))))))) Try.f15.ntmps plan15 (bodyOf Try.f15) (args0 0 [(.pointer w1 : Value), (.agg #[.int .i64 s2, .int .i64 s3, .int .i64 s4] : Value)]) h ⟨fun env h => dRes Try.prog Try.f15.results.toList env h K, fun _ _ _ => False, fun env h => dRes Try.prog Try.f15.results.toList env h K⟩ := by kernel_rfl
def E_law10_World_step_of (f : Option Addr → Int → Int → Int → Heap → (Bool → Heap → Prop) → Prop) : List Value → Heap → (Value → Heap → Prop) → Prop
  | [v0, v1], h, K => dec1 .ptr v0 fun (w1 : Option Addr) =>
  vAgg v1 fun cs1 => decs [.int .i64, .int .i64, .int .i64] cs1.toList fun (s2 s3 s4 : Int) =>
  f w1 s2 s3 s4 h (fun (r0 : Bool) (h : Heap) => K (.bool r0) h)
  | _, _, _ => False
abbrev E_law10_World_step := E_law10_World_step_of F_law10_World_step
theorem E_law10_World_step.right : IsRight Try.prog 15 E_law10_World_step := by
  refine isRight fun vs K w hh => ?_
  match vs, hh with
  | [v0, v1], hh =>
    unfold E_law10_World_step E_law10_World_step_of at hh
    replace hh := dec1_sound hh; obtain ⟨w1, rfl, hh⟩ := hh
    replace hh := vAgg_sound hh; obtain ⟨cs1, rfl, hh⟩ := hh
    replace hh := decs_cons hh; obtain ⟨s2, l1_0, e1_0, hh⟩ := hh
    replace hh := decs_cons hh; obtain ⟨s3, l1_1, e1_1, hh⟩ := hh
    replace hh := decs_cons hh; obtain ⟨s4, l1_2, e1_2, hh⟩ := hh
    replace hh := decs_nil hh; obtain ⟨rfl, hh⟩ := hh
    subst e1_2
    subst e1_1
    have ec1 := toArray_eq e1_0
    subst ec1
    unfold F_law10_World_step at hh
    exact calls_den (fn1_right ok7 E_law10_into.right (fn1_right ok8 E_quorum_New.right (fn1_right ok11 E_quorum_Quorum_Tick.right (fn1_right ok21 E_quorum_Quorum_Propose.right (fn1_right ok22 E_quorum_Quorum_Stop.right (fn1_right ok35 E_law10_World_starts.right (fn1_right ok36 E_law10_World_place.right (fn1_right ok37 E_law10_World_hears.right (fn1_right ok38 E_ref0_CopyMsg.right (fn1_right ok39 E_law10_World_value.right (fn1_right ok40 E_law10_World_sends.right (fn1_right ok41 E_law10_World_told.right noFns_right)))))))))))) plan15 _ w K Try.func15 (by kernel_rfl) (by kernel_rfl) (Eq.mp (F_law10_World_step.eq F_law10_into F_quorum_New F_quorum_Quorum_Tick F_quorum_Quorum_Propose F_quorum_Quorum_Stop F_law10_World_starts F_law10_World_place F_law10_World_hears F_ref0_CopyMsg F_law10_World_value F_law10_World_sends F_law10_World_told w1 s2 s3 s4 w.heap K) hh)
theorem ok15 : okFn Try.prog 15 = true := by kernel_rfl
end Go.Proofs.Ytigcpkejjjgkeaa.V
namespace Go.Proofs.Ytigcpkejjjgkeaa.V
open Go Go.RowKit
set_option linter.unusedVariables false
set_option maxRecDepth 100000
def F_law10_World_still.l1 (f43_ : Option Addr → Int → Int → Sl → Sl → Int → Int → Heap → (Bool → Heap → Prop) → Prop) (w1 : Option Addr) (Q : Bool → Heap → Prop) (i4 : Int) (j11 : Heap → Prop) : Int → Heap → Prop :=
  wl [(4, .one (.int .i64))] (fun (next12 : Int → Heap → Prop) (k13 : Int) (h14 : Heap) =>
  nn w1 fun (a15 : Addr) =>
  ld [.sl] (a15.add 4) h14 fun (v16 : Sl) =>
  brr (decide (k13 < ((v16.len : Nat) : Int)))
  (jn [] (fun  (h53 : Heap) =>
  next12 (IntKind.i64.wrap (k13 + 1)) h53) (fun (j17 : Heap → Prop) =>
  nn w1 fun (a18 : Addr) =>
  ld [.sl] (a18.add 4) h14 fun (v19 : Sl) =>
  ixS 6 v19 k13 fun (a20 : Addr) =>
  ld [.int .u64, .int .u64, .sl, .sl, .int .u64, .int .u64] a20 h14 fun (v21 v22 : Int) (v23 v24 : Sl) (v25 v26 : Int) =>
  al 97 [.int .u64 0, .int .u64 0, .slice none 0 0, .slice none 0 0, .int .u64 0, .int .u64 0] h14 fun (a27 : Addr) (h28 : Heap) =>
  st a27 [.int .u64 v21, .int .u64 v22, .slice v23.ptr v23.len v23.cap, .slice v24.ptr v24.len v24.cap, .int .u64 v25, .int .u64 v26] h28 fun (h29 : Heap) =>
  jn [(55, .one .bool)] (fun (x37 : Bool) (h38 : Heap) =>
  brr x37
  (j17 h38)
  (nn w1 fun (a39 : Addr) =>
  ld [.sl] (a39.add 4) h38 fun (v40 : Sl) =>
  ixS 6 v40 i4 fun (a41 : Addr) =>
  ld [.int .u64, .int .u64] (a41.add 0) h38 fun (v42 v43 : Int) =>
  st (a27.add 4) [.int .u64 v42, .int .u64 v43] h38 fun (h44 : Heap) =>
  ld [.int .u64, .int .u64, .sl, .sl, .int .u64, .int .u64] a27 h44 fun (v45 v46 : Int) (v47 v48 : Sl) (v49 v50 : Int) =>
  f43_ w1 v45 v46 v47 v48 v49 v50 h44 fun (r51 : Bool) (h52 : Heap) =>
  brr (!r51)
  (Q false h52)
  (j17 h52))) (fun (j30 : Bool → Heap → Prop) =>
  ld [.int .u64] ((a27.add 0).add 1) h29 fun (v31 : Int) =>
  brr (v31 != 1)
  (j30 true h29)
  (ld [.int .u64] ((a27.add 0).add 0) h29 fun (v32 : Int) =>
  nn w1 fun (a33 : Addr) =>
  ld [.sl] (a33.add 4) h29 fun (v34 : Sl) =>
  ixS 6 v34 i4 fun (a35 : Addr) =>
  ld [.int .u64] ((a35.add 0).add 0) h29 fun (v36 : Int) =>
  j30 (decide (v32 ≤ v36)) h29))))
  (j11 h14))
def F_law10_World_still.l2 (f42_ : Option Addr → Int → Heap → (Bool → Heap → Prop) → Prop) (f43_ : Option Addr → Int → Int → Sl → Sl → Int → Int → Heap → (Bool → Heap → Prop) → Prop) (w1 : Option Addr) (Q : Bool → Heap → Prop) (j2 : Heap → Prop) : Int → Heap → Prop :=
  wl [(3, .one (.int .i64))] (fun (next3 : Int → Heap → Prop) (i4 : Int) (h5 : Heap) =>
  nn w1 fun (a6 : Addr) =>
  ld [.sl] (a6.add 4) h5 fun (v7 : Sl) =>
  brr (decide (i4 < ((v7.len : Nat) : Int)))
  (jn [] (fun  (h55 : Heap) =>
  next3 (IntKind.i64.wrap (i4 + 1)) h55) (fun (j8 : Heap → Prop) =>
  f42_ w1 i4 h5 fun (r9 : Bool) (h10 : Heap) =>
  brr (!r9)
  (j8 h10)
  (jn [] (fun  (h54 : Heap) =>
  j8 h54) (fun (j11 : Heap → Prop) =>
  F_law10_World_still.l1 f43_ w1 Q i4 j11 (IntKind.i64.wrap (i4 + 1)) h10))))
  (j2 h5))
def F_law10_World_still_of (f42_ : Option Addr → Int → Heap → (Bool → Heap → Prop) → Prop) (f43_ : Option Addr → Int → Int → Sl → Sl → Int → Int → Heap → (Bool → Heap → Prop) → Prop) (w1 : Option Addr) (h : Heap) (Q : Bool → Heap → Prop) : Prop :=
  jn [] (fun  (h56 : Heap) =>
  Q true h56) (fun (j2 : Heap → Prop) =>
  F_law10_World_still.l2 f42_ f43_ w1 Q j2 0 h)
def F_law10_World_still (w1 : Option Addr) (h : Heap) (Q : Bool → Heap → Prop) : Prop := F_law10_World_still_of F_law10_World_chosen F_law10_World_taken w1 h Q
def plan16 : Plan := .s (.r [0]) (.s (.s (.r [0, 3]) (.bj [] [] (.l [(3, .one (.int .i64))] [0] (.s (.s (.r [0, 3, 12]) (.c .z .z)) (.s (.bj [] [0, 3] (.s (.s (.r [0, 3, 18]) (.c .z .z)) (.s (.r [0, 3, 4]) (.bj [] [0, 3] (.l [(4, .one (.int .i64))] [0, 3] (.s (.s (.r [0, 3, 4, 27]) (.c .z .z)) (.s (.bj [] [0, 3, 4] (.s (.r [0, 3, 4, 5]) (.s (.s (.dj [0, 1, 3, 7, 15, 31, 63, 127, 31, 287, 799, 1823, 31, 7967, 16159, 32543, 65311, 131071, 262143] [[0, 1, 2, 3, 4, 5, 6, 7, 8, 9, 10, 11, 12, 13, 14, 15, 16, 17, 18]] [(55, .one .bool)] [0, 3, 4, 5]) (.c .z .z)) (.s (.r [0, 3, 4, 5]) (.s (.r [0, 3, 4, 68]) (.c (.s (.r [2]) .z) .z)))))) (.r [0, 3, 4])))))))) (.r [0, 3])))))) (.s (.r [2]) .z))
theorem F_law10_World_still.eq (f42_ : Option Addr → Int → Heap → (Bool → Heap → Prop) → Prop) (f43_ : Option Addr → Int → Int → Sl → Sl → Int → Int → Heap → (Bool → Heap → Prop) → Prop) (w1 : Option Addr) (h : Heap) (K : Value → Heap → Prop) : F_law10_World_still_of f42_ f43_ w1 h (fun (r0 : Bool) (h : Heap) => K (.bool r0) h) =
    den Try.prog (fn1 42 (E_law10_World_chosen_of f42_) (fn1 43 (E_law10_World_taken_of f43_) noFns)) Try.f16.ntmps plan16 (bodyOf Try.f16) (args0 0 [(.pointer w1 : Value)]) h ⟨fun env h => dRes Try.prog Try.f16.results.toList env h K, fun _ _ _ => False, fun env h => dRes Try.prog Try.f16.results.toList env h K⟩ := by kernel_rfl
def E_law10_World_still_of (f : Option Addr → Heap → (Bool → Heap → Prop) → Prop) : List Value → Heap → (Value → Heap → Prop) → Prop
  | [v0], h, K => dec1 .ptr v0 fun (w1 : Option Addr) =>
  f w1 h (fun (r0 : Bool) (h : Heap) => K (.bool r0) h)
  | _, _, _ => False
abbrev E_law10_World_still := E_law10_World_still_of F_law10_World_still
theorem E_law10_World_still.right : IsRight Try.prog 16 E_law10_World_still := by
  refine isRight fun vs K w hh => ?_
  match vs, hh with
  | [v0], hh =>
    unfold E_law10_World_still E_law10_World_still_of at hh
    replace hh := dec1_sound hh; obtain ⟨w1, rfl, hh⟩ := hh
    unfold F_law10_World_still at hh
    exact calls_den (fn1_right ok42 E_law10_World_chosen.right (fn1_right ok43 E_law10_World_taken.right noFns_right)) plan16 _ w K Try.func16 (by kernel_rfl) (by kernel_rfl) (Eq.mp (F_law10_World_still.eq F_law10_World_chosen F_law10_World_taken w1 w.heap K) hh)
theorem ok16 : okFn Try.prog 16 = true := by kernel_rfl
end Go.Proofs.Ytigcpkejjjgkeaa.V
namespace Go.Proofs.Ytigcpkejjjgkeaa.V
open Go Go.RowKit
set_option linter.unusedVariables false
set_option maxRecDepth 100000
def F_law10_World_all.l1 (f15_ : Option Addr → Int → Int → Int → Heap → (Bool → Heap → Prop) → Prop) (w1 : Option Addr) (n2 : Int) (Q : Bool → Heap → Prop) (j3 : Heap → Prop) : Int → Heap → Prop :=
  wl [(5, .one (.int .i64))] (fun (next4 : Int → Heap → Prop) (i5 : Int) (h6 : Heap) =>
  jn [(16, .one .bool)] (fun (x10 : Bool) (h11 : Heap) =>
  brr x10
  (f15_ w1 2 0 0 h11 fun (r12 : Bool) (h13 : Heap) =>
  brr (!r12)
  (Q false h13)
  (next4 (IntKind.i64.wrap (i5 + 1)) h13))
  (j3 h11)) (fun (j7 : Bool → Heap → Prop) =>
  brr (decide (i5 < n2))
  (nn w1 fun (a8 : Addr) =>
  ld [.sl] (a8.add 3) h6 fun (v9 : Sl) =>
  j7 (decide (((v9.len : Nat) : Int) > 0)) h6)
  (j7 false h6)))
def F_law10_World_all_of (f15_ : Option Addr → Int → Int → Int → Heap → (Bool → Heap → Prop) → Prop) (w1 : Option Addr) (n2 : Int) (h : Heap) (Q : Bool → Heap → Prop) : Prop :=
  jn [] (fun  (h14 : Heap) =>
  Q true h14) (fun (j3 : Heap → Prop) =>
  F_law10_World_all.l1 f15_ w1 n2 Q j3 0 h)
def F_law10_World_all (w1 : Option Addr) (n2 : Int) (h : Heap) (Q : Bool → Heap → Prop) : Prop := F_law10_World_all_of F_law10_World_step w1 n2 h Q
def plan44 : Plan := .s (.r [0, 1]) (.s (.s (.r [0, 1, 5]) (.bj [] [] (.l [(5, .one (.int .i64))] [0, 1] (.s (.s (.rj [(16, .one .bool)] [0, 1, 5]) (.c .z .z)) (.s (.b (.s (.r [0, 1, 5, 22]) (.c (.s (.r [4]) .z) .z))) (.r [0, 1, 5])))))) (.s (.r [4]) .z))
theorem F_law10_World_all.eq (f15_ : Option Addr → Int → Int → Int → Heap → (Bool → Heap → Prop) → Prop) (w1 : Option Addr) (n2 : Int) (h : Heap) (K : Value → Heap → Prop) : F_law10_World_all_of f15_ w1 n2 h (fun (r0 : Bool) (h : Heap) => K (.bool r0) h) =
    den Try.prog (fn1 15 (E_law10_World_step_of f15_) noFns) Try.f44.ntmps plan44 (bodyOf Try.f44) (args0 0 [(.pointer w1 : Value), (.int .i64 n2 : Value)]) h ⟨fun env h => dRes Try.prog Try.f44.results.toList env h K, fun _ _ _ => False, fun env h => dRes Try.prog Try.f44.results.toList env h K⟩ := by kernel_rfl
def E_law10_World_all_of (f : Option Addr → Int → Heap → (Bool → Heap → Prop) → Prop) : List Value → Heap → (Value → Heap → Prop) → Prop
  | [v0, v1], h, K => dec1 .ptr v0 fun (w1 : Option Addr) =>
  dec1 (.int .i64) v1 fun (n2 : Int) =>
  f w1 n2 h (fun (r0 : Bool) (h : Heap) => K (.bool r0) h)
  | _, _, _ => False
abbrev E_law10_World_all := E_law10_World_all_of F_law10_World_all
theorem E_law10_World_all.right : IsRight Try.prog 44 E_law10_World_all := by
  refine isRight fun vs K w hh => ?_
  match vs, hh with
  | [v0, v1], hh =>
    unfold E_law10_World_all E_law10_World_all_of at hh
    replace hh := dec1_sound hh; obtain ⟨w1, rfl, hh⟩ := hh
    replace hh := dec1_sound hh; obtain ⟨n2, rfl, hh⟩ := hh
    unfold F_law10_World_all at hh
    exact calls_den (fn1_right ok15 E_law10_World_step.right noFns_right) plan44 _ w K Try.func44 (by kernel_rfl) (by kernel_rfl) (Eq.mp (F_law10_World_all.eq F_law10_World_step w1 n2 w.heap K) hh)
theorem ok44 : okFn Try.prog 44 = true := by kernel_rfl
end Go.Proofs.Ytigcpkejjjgkeaa.V
namespace Go.Proofs.Ytigcpkejjjgkeaa.V
open Go Go.RowKit
set_option linter.unusedVariables false
set_option maxRecDepth 100000
def F_law10_World_ends.l1 (w1 : Option Addr) (j4 : Int → Heap → Prop) : Int → Int → Heap → Prop :=
  wl [(3, .one (.int .u64)), (4, .one (.int .i64))] (fun (next5 : Int → Int → Heap → Prop) (high6 i7 : Int) (h8 : Heap) =>
  nn w1 fun (a9 : Addr) =>
  ld [.sl] (a9.add 2) h8 fun (v10 : Sl) =>
  brr (decide (i7 < ((v10.len : Nat) : Int)))
  (nn w1 fun (a11 : Addr) =>
  ld [.sl] (a11.add 2) h8 fun (v12 : Sl) =>
  ixS 4 v12 i7 fun (a13 : Addr) =>
  ld [.int .u64] (a13.add 0) h8 fun (v14 : Int) =>
  jn [(3, .one (.int .u64))] (fun (high20 : Int) (h21 : Heap) =>
  next5 high20 (IntKind.i64.wrap (i7 + 1)) h21) (fun (j15 : Int → Heap → Prop) =>
  brr (decide (v14 > high6))
  (nn w1 fun (a16 : Addr) =>
  ld [.sl] (a16.add 2) h8 fun (v17 : Sl) =>
  ixS 4 v17 i7 fun (a18 : Addr) =>
  ld [.int .u64] (a18.add 0) h8 fun (v19 : Int) =>
  j15 v19 h8)
  (j15 high6 h8)))
  (j4 high6 h8))
def F_law10_World_ends.l2 (f13_ : Option Addr → Heap → (Int → Heap → Prop) → Prop) (f15_ : Option Addr → Int → Int → Int → Heap → (Bool → Heap → Prop) → Prop) (f44_ : Option Addr → Int → Heap → (Bool → Heap → Prop) → Prop) (w1 : Option Addr) (Q : Bool → Heap → Prop) (j41 : Heap → Prop) : Int → Heap → Prop :=
  wl [(5, .one (.int .i64))] (fun (next42 : Int → Heap → Prop) (i43 : Int) (h44 : Heap) =>
  brr (decide (i43 < 2))
  (jn [(87, .one .bool)] (fun (x56 : Bool) (h57 : Heap) =>
  brr x56
  (Q false h57)
  (next42 (IntKind.i64.wrap (i43 + 1)) h57)) (fun (j45 : Bool → Heap → Prop) =>
  f15_ w1 5 0 0 h44 fun (r46 : Bool) (h47 : Heap) =>
  brr (!r46)
  (j45 true h47)
  (f44_ w1 200 h47 fun (r48 : Bool) (h49 : Heap) =>
  brr (!r48)
  (j45 true h49)
  (nn w1 fun (a50 : Addr) =>
  ld [.sl] (a50.add 1) h49 fun (v51 : Sl) =>
  ixS 1 v51 0 fun (a52 : Addr) =>
  ld [.ptr] a52 h49 fun (v53 : Option Addr) =>
  f13_ v53 h49 fun (r54 : Int) (h55 : Heap) =>
  j45 (r54 != 3) h55))))
  (j41 h44))
def F_law10_World_ends_of (f13_ : Option Addr → Heap → (Int → Heap → Prop) → Prop) (f15_ : Option Addr → Int → Int → Int → Heap → (Bool → Heap → Prop) → Prop) (f16_ : Option Addr → Heap → (Bool → Heap → Prop) → Prop) (f30_ : Option Addr → Heap → (Bool → Heap → Prop) → Prop) (f34_ : Option Addr → Heap → (Int → Int → Heap → Prop) → Prop) (f35_ : Option Addr → Int → Int → Heap → (Bool → Heap → Prop) → Prop) (f44_ : Option Addr → Int → Heap → (Bool → Heap → Prop) → Prop) (f45_ : Option Addr → Heap → (Int → Int → Sl → Heap → Prop) → Prop) (f46_ : Sl → Sl → Heap → (Bool → Heap → Prop) → Prop) (w1 : Option Addr) (h : Heap) (Q : Bool → Heap → Prop) : Prop :=
  nn w1 fun (a2 : Addr) =>
  st (a2.add 3) [.slice none 0 0] h fun (h3 : Heap) =>
  jn [(3, .one (.int .u64))] (fun (high22 : Int) (h23 : Heap) =>
  nn w1 fun (a24 : Addr) =>
  ld [.sl] (a24.add 2) h23 fun (v25 : Sl) =>
  ixS 4 v25 0 fun (a26 : Addr) =>
  st (a26.add 0) [.int .u64 high22] h23 fun (h27 : Heap) =>
  jn [(64, .one .bool)] (fun (x39 : Bool) (h40 : Heap) =>
  brr x39
  (Q false h40)
  (jn [] (fun  (h58 : Heap) =>
  jn [(96, .one .bool)] (fun (x64 : Bool) (h65 : Heap) =>
  brr x64
  (Q false h65)
  (nn w1 fun (a66 : Addr) =>
  ld [.sl] (a66.add 1) h65 fun (v67 : Sl) =>
  ixS 1 v67 0 fun (a68 : Addr) =>
  ld [.ptr] a68 h65 fun (v69 : Option Addr) =>
  f45_ v69 h65 fun (r70 r71 : Int) (r72 : Sl) (h73 : Heap) =>
  al 35 [.int .u64 0, .int .u64 0] h73 fun (a74 : Addr) (h75 : Heap) =>
  st a74 [.int .u64 r70, .int .u64 r71] h75 fun (h76 : Heap) =>
  nn w1 fun (a77 : Addr) =>
  ld [.sl] (a77.add 1) h76 fun (v78 : Sl) =>
  ixS 1 v78 0 fun (a79 : Addr) =>
  ld [.ptr] a79 h76 fun (v80 : Option Addr) =>
  f34_ v80 h76 fun (r81 r82 : Int) (h83 : Heap) =>
  jn [(2, .one .bool)] (fun (x96 : Bool) (h97 : Heap) =>
  Q x96 h97) (fun (j84 : Bool → Heap → Prop) =>
  ld [.int .u64] (a74.add 1) h83 fun (v85 : Int) =>
  brr (v85 == 3)
  (nn w1 fun (a86 : Addr) =>
  ld [.int .i64] (a86.add 5) h83 fun (v87 : Int) =>
  nn w1 fun (a88 : Addr) =>
  ld [.int .i64] (a88.add 5) h83 fun (v89 : Int) =>
  0 ≤ (8 : Int) ∧
  al 5 [.int .u8 118, .int .u8 (IntKind.u8.wrap v87), .int .u8 (IntKind.u8.wrap (v89.fdiv (2 ^ min (8 : Int).toNat IntKind.i64.bits)))] h83 fun (a90 : Addr) (h91 : Heap) =>
  f46_ r72 ⟨(some a90), 3, 3⟩ h91 fun (r92 : Bool) (h93 : Heap) =>
  brr r92
  (brr (r81 == 1)
  (brr (r82 == 1)
  (f16_ w1 h93 fun (r94 : Bool) (h95 : Heap) =>
  j84 r94 h95)
  (j84 false h93))
  (j84 false h93))
  (j84 false h93))
  (j84 false h83)))) (fun (j59 : Bool → Heap → Prop) =>
  f15_ w1 6 0 0 h58 fun (r60 : Bool) (h61 : Heap) =>
  brr (!r60)
  (j59 true h61)
  (f44_ w1 200 h61 fun (r62 : Bool) (h63 : Heap) =>
  j59 (!r62) h63))) (fun (j41 : Heap → Prop) =>
  F_law10_World_ends.l2 f13_ f15_ f44_ w1 Q j41 0 h40))) (fun (j28 : Bool → Heap → Prop) =>
  f35_ w1 0 0 h27 fun (r29 : Bool) (h30 : Heap) =>
  brr (!r29)
  (j28 true h30)
  (f44_ w1 200 h30 fun (r31 : Bool) (h32 : Heap) =>
  brr (!r31)
  (j28 true h32)
  (nn w1 fun (a33 : Addr) =>
  ld [.sl] (a33.add 1) h32 fun (v34 : Sl) =>
  ixS 1 v34 0 fun (a35 : Addr) =>
  ld [.ptr] a35 h32 fun (v36 : Option Addr) =>
  f30_ v36 h32 fun (r37 : Bool) (h38 : Heap) =>
  j28 (!r37) h38)))) (fun (j4 : Int → Heap → Prop) =>
  F_law10_World_ends.l1 w1 j4 0 0 h3)
def F_law10_World_ends (w1 : Option Addr) (h : Heap) (Q : Bool → Heap → Prop) : Prop := F_law10_World_ends_of F_quorum_Quorum_Phase F_law10_World_step F_law10_World_still F_quorum_Quorum_Holds F_quorum_Quorum_Round F_law10_World_starts F_law10_World_all F_quorum_Quorum_Chosen F_ref0_Eq w1 h Q
def plan17 : Plan := .s (.r [0]) (.s (.r [0]) (.s (.r [0, 3]) (.s (.s (.r [0, 3, 4]) (.bj [(3, .one (.int .u64))] [0] (.l [(3, .one (.int .u64)), (4, .one (.int .i64))] [0] (.s (.s (.r [0, 3, 4, 19]) (.c .z .z)) (.s (.b (.s (.r [0, 3, 4, 31]) (.cj [(3, .one (.int .u64))] [0, 4] (.r [0, 3, 4]) .z))) (.r [0, 3, 4])))))) (.s (.r [0]) (.s (.s (.rj [(64, .one .bool)] [0]) (.c (.s (.r [2]) .z) .z)) (.s (.s (.r [0, 5]) (.bj [] [0] (.l [(5, .one (.int .i64))] [0] (.s (.s (.r [0, 5, 66]) (.c .z .z)) (.s (.b (.s (.rj [(87, .one .bool)] [0, 5]) (.c (.s (.r [2]) .z) .z))) (.r [0, 5])))))) (.s (.s (.rj [(96, .one .bool)] [0]) (.c (.s (.r [2]) .z) .z)) (.s (.r [0, 6, 7]) (.s (.r [0, 6, 7, 8, 9]) (.s (.dj [0, 1, 3, 7, 15, 15, 47, 111, 239, 495, 15, 1039, 3087, 7183, 15375, 31759, 65519, 131071, 262143, 524287, 1048575, 2097151, 4194303, 8388607, 16777215, 33554431, 67108863, 134217727, 268435455, 536870911, 1073741823, 2147483647] [[0, 1, 2, 3, 4, 5, 6, 7, 8, 9, 10, 11, 12, 13, 14, 15, 16, 17, 18, 19, 20, 21, 22, 23, 24, 25, 26, 27, 28, 29, 30, 31]] [(2, .one .bool)] []) .z))))))))))
theorem F_law10_World_ends.eq (f13_ : Option Addr → Heap → (Int → Heap → Prop) → Prop) (f15_ : Option Addr → Int → Int → Int → Heap → (Bool → Heap → Prop) → Prop) (f16_ : Option Addr → Heap → (Bool → Heap → Prop) → Prop) (f30_ : Option Addr → Heap → (Bool → Heap → Prop) → Prop) (f34_ : Option Addr → Heap → (Int → Int → Heap → Prop) → Prop) (f35_ : Option Addr → Int → Int → Heap → (Bool → Heap → Prop) → Prop) (f44_ : Option Addr → Int → Heap → (Bool → Heap → Prop) → Prop) (f45_ : Option Addr → Heap → (Int → Int → Sl → Heap → Prop) → Prop) (f46_ : Sl → Sl → Heap → (Bool → Heap → Prop) → Prop) (w1 : Option Addr) (h : Heap) (K : Value → Heap → Prop) : F_law10_World_ends_of f13_ f15_ f16_ f30_ f34_ f35_ f44_ f45_ f46_ w1 h (fun (r0 : Bool) (h : Heap) => K (.bool r0) h) =
    den Try.prog (fn1 13 (E_quorum_Quorum_Phase_of f13_) (fn1 15 (E_law10_World_step_of f15_) (fn1 16 (E_law10_World_still_of f16_) (fn1 30 (E_quorum_Quorum_Holds_of f30_) (fn1 34 (E_quorum_Quorum_Round_of f34_) (fn1 35 (E_law10_World_starts_of f35_) (fn1 44 (E_law10_World_all_of f44_) (fn1 45 (E_quorum_Quorum_Chosen_of f45_) (fn1 46 (E_ref0_Eq_of f46_) noFns))))))))) Try.f17.ntmps plan17 (bodyOf Try.f17) (args0 0 [(.pointer w1 : Value)]) h ⟨fun env h => dRes Try.prog Try.f17.results.toList env h K, fun _ _ _ => False, fun env h => dRes Try.prog Try.f17.results.toList env h K⟩ := by kernel_rfl
def E_law10_World_ends_of (f : Option Addr → Heap → (Bool → Heap → Prop) → Prop) : List Value → Heap → (Value → Heap → Prop) → Prop
  | [v0], h, K => dec1 .ptr v0 fun (w1 : Option Addr) =>
  f w1 h (fun (r0 : Bool) (h : Heap) => K (.bool r0) h)
  | _, _, _ => False
abbrev E_law10_World_ends := E_law10_World_ends_of F_law10_World_ends
theorem E_law10_World_ends.right : IsRight Try.prog 17 E_law10_World_ends := by
  refine isRight fun vs K w hh => ?_
  match vs, hh with
  | [v0], hh =>
    unfold E_law10_World_ends E_law10_World_ends_of at hh
    replace hh := dec1_sound hh; obtain ⟨w1, rfl, hh⟩ := hh
    unfold F_law10_World_ends at hh
    exact calls_den (fn1_right ok13 E_quorum_Quorum_Phase.right (fn1_right ok15 E_law10_World_step.right (fn1_right ok16 E_law10_World_still.right (fn1_right ok30 E_quorum_Quorum_Holds.right (fn1_right ok34 E_quorum_Quorum_Round.right (fn1_right ok35 E_law10_World_starts.right (fn1_right ok44 E_law10_World_all.right (fn1_right ok45 E_quorum_Quorum_Chosen.right (fn1_right ok46 E_ref0_Eq.right noFns_right))))))))) plan17 _ w K Try.func17 (by kernel_rfl) (by kernel_rfl) (Eq.mp (F_law10_World_ends.eq F_quorum_Quorum_Phase F_law10_World_step F_law10_World_still F_quorum_Quorum_Holds F_quorum_Quorum_Round F_law10_World_starts F_law10_World_all F_quorum_Quorum_Chosen F_ref0_Eq w1 w.heap K) hh)
theorem ok17 : okFn Try.prog 17 = true := by kernel_rfl
end Go.Proofs.Ytigcpkejjjgkeaa.V
namespace Go.Proofs.Ytigcpkejjjgkeaa.V
open Go Go.RowKit
set_option linter.unusedVariables false
set_option maxRecDepth 100000
def F_law10_QuorumRow.l1 (f15_ : Option Addr → Int → Int → Int → Heap → (Bool → Heap → Prop) → Prop) (Q : Bool → Heap → Prop) (a3 : Addr) (r6 : Option Addr) (j8 : Heap → Prop) : Int → Heap → Prop :=
  wl [(4, .one (.int .i64))] (fun (next9 : Int → Heap → Prop) (i10 : Int) (h11 : Heap) =>
  jn [(18, .one .bool)] (fun (x14 : Bool) (h15 : Heap) =>
  brr x14
  (ld [.sl] (a3.add 1) h15 fun (v16 : Sl) =>
  ixS 3 v16 i10 fun (a17 : Addr) =>
  ld [.int .i64, .int .i64, .int .i64] a17 h15 fun (v18 v19 v20 : Int) =>
  f15_ r6 v18 v19 v20 h15 fun (r21 : Bool) (h22 : Heap) =>
  brr (!r21)
  (Q false h22)
  (next9 (IntKind.i64.wrap (i10 + 1)) h22))
  (j8 h15)) (fun (j12 : Bool → Heap → Prop) =>
  ld [.sl] (a3.add 1) h11 fun (v13 : Sl) =>
  brr (decide (i10 < ((v13.len : Nat) : Int)))
  (j12 (decide (i10 < 400)) h11)
  (j12 false h11)))
def F_law10_QuorumRow_of (f14_ : Int → Heap → (Option Addr → Heap → Prop) → Prop) (f15_ : Option Addr → Int → Int → Int → Heap → (Bool → Heap → Prop) → Prop) (f16_ : Option Addr → Heap → (Bool → Heap → Prop) → Prop) (f17_ : Option Addr → Heap → (Bool → Heap → Prop) → Prop) (n1 : Int) (n2 : Sl) (h : Heap) (Q : Bool → Heap → Prop) : Prop :=
  al 24 [.int .i64 n1, .slice n2.ptr n2.len n2.cap] h fun (a3 : Addr) (h4 : Heap) =>
  ld [.int .i64] (a3.add 0) h4 fun (v5 : Int) =>
  f14_ v5 h4 fun (r6 : Option Addr) (h7 : Heap) =>
  brr r6.isNone
  (Q false h7)
  (jn [] (fun  (h23 : Heap) =>
  jn [(2, .one .bool)] (fun (x29 : Bool) (h30 : Heap) =>
  Q x29 h30) (fun (j24 : Bool → Heap → Prop) =>
  f16_ r6 h23 fun (r25 : Bool) (h26 : Heap) =>
  brr r25
  (f17_ r6 h26 fun (r27 : Bool) (h28 : Heap) =>
  j24 r27 h28)
  (j24 false h26))) (fun (j8 : Heap → Prop) =>
  F_law10_QuorumRow.l1 f15_ Q a3 r6 j8 0 h7))
def F_law10_QuorumRow (n1 : Int) (n2 : Sl) (h : Heap) (Q : Bool → Heap → Prop) : Prop := F_law10_QuorumRow_of F_law10_world F_law10_World_step F_law10_World_still F_law10_World_ends n1 n2 h Q
def plan4 : Plan := .s (.r [1]) (.s (.r [1, 3]) (.s (.s (.r [1, 3, 9]) (.c (.s (.r [2]) .z) .z)) (.s (.s (.r [1, 3, 4]) (.bj [] [3] (.l [(4, .one (.int .i64))] [1, 3] (.s (.s (.rj [(18, .one .bool)] [1, 3, 4]) (.c .z .z)) (.s (.b (.s (.r [1, 3, 4, 28]) (.c (.s (.r [2]) .z) .z))) (.r [1, 3, 4])))))) (.s (.rj [(2, .one .bool)] []) .z))))
theorem F_law10_QuorumRow.eq (f14_ : Int → Heap → (Option Addr → Heap → Prop) → Prop) (f15_ : Option Addr → Int → Int → Int → Heap → (Bool → Heap → Prop) → Prop) (f16_ : Option Addr → Heap → (Bool → Heap → Prop) → Prop) (f17_ : Option Addr → Heap → (Bool → Heap → Prop) → Prop) (n1 : Int) (n2 : Sl) (h : Heap) (K : Value → Heap → Prop) : F_law10_QuorumRow_of f14_ f15_ f16_ f17_ n1 n2 h (fun (r0 : Bool) (h : Heap) => K (.bool r0) h) =
    den Try.prog (fn1 14 (E_law10_world_of f14_) (fn1 15 (E_law10_World_step_of f15_) (fn1 16 (E_law10_World_still_of f16_) (fn1 17 (E_law10_World_ends_of f17_) noFns)))) Try.f4.ntmps plan4 (bodyOf Try.f4) (args0 0 [(.agg #[.int .i64 n1, .slice n2.ptr n2.len n2.cap] : Value)]) h ⟨fun env h => dRes Try.prog Try.f4.results.toList env h K, fun _ _ _ => False, fun env h => dRes Try.prog Try.f4.results.toList env h K⟩ := by kernel_rfl
def E_law10_QuorumRow_of (f : Int → Sl → Heap → (Bool → Heap → Prop) → Prop) : List Value → Heap → (Value → Heap → Prop) → Prop
  | [v0], h, K => vAgg v0 fun cs0 => decs [.int .i64, .sl] cs0.toList fun (n1 : Int) (n2 : Sl) =>
  f n1 n2 h (fun (r0 : Bool) (h : Heap) => K (.bool r0) h)
  | _, _, _ => False
abbrev E_law10_QuorumRow := E_law10_QuorumRow_of F_law10_QuorumRow
theorem E_law10_QuorumRow.at (f : Int → Sl → Heap → (Bool → Heap → Prop) → Prop) (n1 : Int) (n2 : Sl) (h : Heap) (K : Value → Heap → Prop) : E_law10_QuorumRow_of f [.agg ([.int .i64 n1, .slice n2.ptr n2.len n2.cap] : List Value).toArray] h K = f n1 n2 h (fun (r0 : Bool) (h : Heap) => K (.bool r0) h) := rfl
theorem E_law10_QuorumRow.right : IsRight Try.prog 4 E_law10_QuorumRow := by
  refine isRight fun vs K w hh => ?_
  match vs, hh with
  | [v0], hh =>
    unfold E_law10_QuorumRow E_law10_QuorumRow_of at hh
    replace hh := vAgg_sound hh; obtain ⟨cs0, rfl, hh⟩ := hh
    replace hh := decs_cons hh; obtain ⟨n1, l0_0, e0_0, hh⟩ := hh
    replace hh := decs_cons hh; obtain ⟨n2, l0_1, e0_1, hh⟩ := hh
    replace hh := decs_nil hh; obtain ⟨rfl, hh⟩ := hh
    subst e0_1
    have ec0 := toArray_eq e0_0
    subst ec0
    unfold F_law10_QuorumRow at hh
    exact calls_den (fn1_right ok14 E_law10_world.right (fn1_right ok15 E_law10_World_step.right (fn1_right ok16 E_law10_World_still.right (fn1_right ok17 E_law10_World_ends.right noFns_right)))) plan4 _ w K Try.func4 (by kernel_rfl) (by kernel_rfl) (Eq.mp (F_law10_QuorumRow.eq F_law10_world F_law10_World_step F_law10_World_still F_law10_World_ends n1 n2 w.heap K) hh)
theorem ok4 : okFn Try.prog 4 = true := by kernel_rfl
end Go.Proofs.Ytigcpkejjjgkeaa.V
/- The world in memory; the law's small functions. -/
namespace Go.Proofs.Ytigcpkejjjgkeaa.V
open Go Go.RowKit
set_option linter.unusedVariables false
set_option linter.unusedSimpArgs false

structure CX where
  c : CP
  v : Sl
structure XX where
  x : WR
  v : Sl
  s : Sl
  be : Int
  bs : Int
def cpC (x : CX) : List Value := [.int .u64 x.c.prom, .int .u64 x.c.te, .int .u64 x.c.ts, .slice x.v.ptr x.v.len x.v.cap]
def wrC (x : XX) : List Value := [.int .u64 x.x.te, .int .u64 x.x.ts, .slice x.v.ptr x.v.len x.v.cap, .slice x.s.ptr x.s.len x.s.cap, .int .u64 x.be, .int .u64 x.bs]
theorem cpC_len (x : CX) : (cpC x).length = 4 := rfl
theorem cpC_one (x : CX) : (cpC x).all oneV = true := rfl
theorem wrC_len (x : XX) : (wrC x).length = 6 := rfl
theorem wrC_one (x : XX) : (wrC x).all oneV = true := rfl
structure GW where
  sn : Sl
  sq : Sl
  sC : Sl
  sw : Sl
  sx : Sl
  qp : List (Nat × QS)
  cl : List CX
  wl : List Mg
  xl : List XX
  ps : List PE
def qpA (x : Nat × QS) : Option Addr := some (pt x.1 0)
def qpR (x : Nat × QS) : Res := quR x.1 x.2
def xsR (x : XX) : Res := buf 1 bo1 x.s x.x.st
structure GOk (g : GW) (w : WD) : Prop where
  gq : g.qp.map (·.2) = w.qs
  gc : g.cl.map CX.c = w.β.cs
  gw : g.wl.map Mg.bare = w.way
  gx : g.xl.map XX.x = w.β.wrs
  pc : ∀ x ∈ g.cl, (x.v, x.c.b) ∈ g.ps
  pw : ∀ x ∈ g.wl, (x.v, x.b) ∈ g.ps
  px : ∀ x ∈ g.xl, (x.v, x.x.b) ∈ g.ps
def worldR (a : Nat) (w : WD) : Res := ex fun g : GW => pr (GOk g w) (star [own a [.slice g.sn.ptr g.sn.len g.sn.cap, .slice g.sq.ptr g.sq.len g.sq.cap, .slice g.sC.ptr g.sC.len g.sC.cap, .slice g.sw.ptr g.sw.len g.sw.cap, .slice g.sx.ptr g.sx.len g.sx.cap, .int .i64 w.turn], buf 1 i64c g.sn w.β.ns, buf 1 optc g.sq (g.qp.map qpA), many qpR g.qp, buf 4 cpC g.sC g.cl, buf 22 mgC g.sw g.wl, buf 6 wrC g.sx g.xl, many xsR g.xl, poolR g.ps])
theorem Sat.starIw {h0 h : Heap} {Rs L : List Res} (O : Sat h0 h (Rs ++ L)) : Sat h0 h (star Rs :: L) := by
  induction Rs generalizing L with
  | nil => exact O.empI
  | cons A Rs ih =>
    have O2 : Sat h0 h (Rs ++ A :: L) := O.permL List.perm_middle.symm
    exact ((ih O2).swap).sepI
/-- A field of an element is written. -/
theorem set_flatF {α : Type} {enc : α → List Value} {sz : Nat} (he : ∀ x, (enc x).length = sz) {xs : List α} {sp vs : List Value} {i o : Nat} {x y : α} (hx : xs[i]? = some x) (ho : o + vs.length ≤ sz) (hy : V.put (enc x) o vs = enc y) : V.put (xs.flatMap enc ++ sp) (i * sz + o) vs = (xs.set i y).flatMap enc ++ sp := by
  obtain ⟨hi, hxi⟩ := List.getElem?_eq_some_iff.1 hx
  have e : xs = xs.take i ++ (x :: xs.drop (i + 1)) := by rw [← hxi, ← List.drop_eq_getElem_cons hi, List.take_append_drop]
  have hl := flatMap_len he (xs.take i)
  rw [List.length_take, Nat.min_eq_left (by omega)] at hl
  have h2 := put_app ((enc x).take o) ((enc x).drop o) vs (by rw [List.length_drop, he]; omega)
  rw [List.take_append_drop, List.length_take, he, Nat.min_eq_left (by omega), hy] at h2
  have e1 : xs.flatMap enc ++ sp = ((xs.take i).flatMap enc ++ (enc x).take o) ++ ((enc x).drop o ++ ((xs.drop (i + 1)).flatMap enc ++ sp)) := by
    conv => lhs; rw [e]
    rw [List.flatMap_append, List.flatMap_cons]
    simp only [List.append_assoc]
    congr 1
    rw [← List.append_assoc ((enc x).take o), List.take_append_drop]
  have e2 : xs.set i y = xs.take i ++ (y :: xs.drop (i + 1)) := by
    rw [List.set_eq_take_append_cons_drop, if_pos hi]
  have hl2 : ((xs.take i).flatMap enc ++ (enc x).take o).length = i * sz + o := by rw [List.length_append, hl, List.length_take, he]; omega
  rw [e1, ← hl2, put_app _ _ _ (by rw [List.length_append, List.length_drop, he]; omega), e2, List.flatMap_append, List.flatMap_cons, h2]
  rw [List.drop_append_of_le_length (by rw [List.length_drop, he]; omega)]
  simp only [List.append_assoc]
theorem Sat.fld {α : Type} {h0 h : Heap} {L : List Res} {enc : α → List Value} {sz i o : Nat} {s : Sl} {xs : List α} {x y : α} {a : Addr} {vs : List Value} {K : Heap → Prop} (O : Sat h0 h (buf sz enc s xs :: L)) (he : ∀ x, (enc x).length = sz) (hx : xs[i]? = some x) (ha : s.ptr.map (·.add (i * sz)) = some a) (ho : o + vs.length ≤ sz) (hv : vs.all oneV = true) (hy : V.put (enc x) o vs = enc y) (k : ∀ h', Sat h0 h' (buf sz enc s (xs.set i y) :: L) → K h') : V.st (a.add o) vs h K := by
  obtain ⟨sp, O⟩ := O.ex
  obtain ⟨E, ⟨E1, E2, p, hA, h2⟩, O⟩ := O
  have O := O.perm p.symm
  have hi := (List.getElem?_eq_some_iff.1 hx).1
  rcases hA with ⟨rfl, rfl, _, _⟩ | ⟨b, j, rfl, hsp, rfl⟩
  · simp at hi
  · have ea : a = pt b (i * sz) := by
      have : some ((pt b 0).add (i * sz)) = some a := ha
      rw [pt_add, Nat.zero_add] at this
      exact (Option.some.inj this).symm
    subst ea
    rw [pt_add]
    have hl := flatMap_len he xs
    have hm : (i + 1) * sz ≤ xs.length * sz := Nat.mul_le_mul_right sz (by omega)
    rw [Nat.add_mul, Nat.one_mul] at hm
    refine Held.st O (by rw [List.length_append, hl]; omega) hv fun h' O' => ?_
    rw [set_flatF he hx ho hy] at O'
    exact k _ ⟨_, ⟨[(b, _)], E2, List.Perm.refl _, ⟨sp, .inr ⟨b, j, by simp, hsp, rfl⟩⟩, h2⟩, O'⟩
section
variable {h0 h : Heap} {L : List Res} {a : Nat} {g : GW} {w : WD} {turn : Int} {ns : List Int}
theorem View.ptr {α : Type} {sz : Nat} {R : α → List Value → Prop} {s : Sl} {xs : List α} {i : Nat} {x : α} {K : Addr → Prop} (V : View h sz R s xs) (hx : xs[i]? = some x) (k : ∀ b, s.ptr.map (·.add (i * sz)) = some b → K b) : ixS sz s (i : Int) K := by
  have hi := (List.getElem?_eq_some_iff.1 hx).1
  obtain ⟨b, cs, h1, _, _, _⟩ := V.2 i x hx
  exact ⟨b, h1, by omega, by rw [V.1]; omega, k _ (by rw [h1]; rfl)⟩
theorem View.atp {α : Type} {sz : Nat} {enc : α → List Value} {s : Sl} {xs : List α} {i : Nat} {x : α} {b : Addr} (V : View h sz (En enc) s xs) (hx : xs[i]? = some x) (hb : s.ptr.map (·.add (i * sz)) = some b) : cellsAre h b (enc x) := by
  obtain ⟨b', cs, h1, _, h3, h4⟩ := V.2 i x hx
  rw [h1] at hb
  have e : b'.add (i * sz) = b := Option.some.inj hb
  have e2 : cs = enc x := h3
  rw [← e, ← e2]
  exact h4
theorem Sat.wld (O : Sat h0 h (worldR a w :: L)) : ∃ g : GW, GOk g w ∧ ∀ turn, turn = w.turn → Sat h0 h (own a [.slice g.sn.ptr g.sn.len g.sn.cap, .slice g.sq.ptr g.sq.len g.sq.cap, .slice g.sC.ptr g.sC.len g.sC.cap, .slice g.sw.ptr g.sw.len g.sw.cap, .slice g.sx.ptr g.sx.len g.sx.cap, .int .i64 turn] :: buf 1 i64c g.sn w.β.ns :: buf 1 optc g.sq (g.qp.map qpA) :: many qpR g.qp :: buf 4 cpC g.sC g.cl :: buf 22 mgC g.sw g.wl :: buf 6 wrC g.sx g.xl :: many xsR g.xl :: poolR g.ps :: L) := by
  obtain ⟨g, O⟩ := O.ex
  obtain ⟨e, O⟩ := O.pr
  refine ⟨g, e, fun turn ht => ?_⟩
  subst ht
  exact O.starE
theorem Sat.wldI (w : WD) (g : GW) (e : GOk g w) (ht : turn = w.turn) (hn : ns = w.β.ns) (O : Sat h0 h (own a [.slice g.sn.ptr g.sn.len g.sn.cap, .slice g.sq.ptr g.sq.len g.sq.cap, .slice g.sC.ptr g.sC.len g.sC.cap, .slice g.sw.ptr g.sw.len g.sw.cap, .slice g.sx.ptr g.sx.len g.sx.cap, .int .i64 turn] :: buf 1 i64c g.sn ns :: buf 1 optc g.sq (g.qp.map qpA) :: many qpR g.qp :: buf 4 cpC g.sC g.cl :: buf 22 mgC g.sw g.wl :: buf 6 wrC g.sx g.xl :: many xsR g.xl :: poolR g.ps :: L)) : Sat h0 h (worldR a w :: L) := by
  subst ht hn
  exact Sat.exI g (Sat.prI e (Sat.starIw (Rs := [own a [.slice g.sn.ptr g.sn.len g.sn.cap, .slice g.sq.ptr g.sq.len g.sq.cap, .slice g.sC.ptr g.sC.len g.sC.cap, .slice g.sw.ptr g.sw.len g.sw.cap, .slice g.sx.ptr g.sx.len g.sx.cap, .int .i64 w.turn], buf 1 i64c g.sn w.β.ns, buf 1 optc g.sq (g.qp.map qpA), many qpR g.qp, buf 4 cpC g.sC g.cl, buf 22 mgC g.sw g.wl, buf 6 wrC g.sx g.xl, many xsR g.xl, poolR g.ps]) O))
theorem F_law10_World_place.is {c : Int} {Q : Int → Heap → Prop} (O : Sat h0 h (own a [.slice g.sn.ptr g.sn.len g.sn.cap, .slice g.sq.ptr g.sq.len g.sq.cap, .slice g.sC.ptr g.sC.len g.sC.cap, .slice g.sw.ptr g.sw.len g.sw.cap, .slice g.sx.ptr g.sx.len g.sx.cap, .int .i64 turn] :: buf 1 i64c g.sn ns :: L)) (hl : ns.length ≤ 1000) (hc : c ∈ ns) (k : ∀ i : Nat, ns[i]? = some c → Q (i : Int) h) : F_law10_World_place (some (pt a 0)) c h Q := by
  rw [F_law10_World_place.eq_1, F_law10_World_place_of.eq_1]
  refine jn0 (fun h' => False) (fun h' e => e.elim) fun j hj => ?_
  rw [F_law10_World_place.l1.eq_1]
  have W := (O.view 1 i64c_len (by simp) rfl).1
  obtain ⟨r, hr⟩ := List.getElem?_of_mem hc
  have hrl := (List.getElem?_eq_some_iff.1 hr).1
  refine wl1 (k := .int .i64) (fun (m : Nat) (i : Int) (h' : Heap) => h = h' ∧ i + m = r ∧ 0 ≤ i) ?_ (m := r) ⟨rfl, by omega, by omega⟩
  rintro m (i : Int) h2 next hnx ⟨rfl, him, hi0⟩
  refine ⟨_, rfl, ?_⟩
  refine O.ld 0 rfl (ldL_c (k := .sl) (x := g.sn) (ldL_n ?_))
  rw [W.len]
  refine brr_tt (by simp; omega) ?_
  refine ⟨_, rfl, ?_⟩
  refine O.ld 0 rfl (ldL_c (k := .sl) (x := g.sn) (ldL_n ?_))
  obtain ⟨x, hx⟩ : ∃ x, ns[i.toNat]? = some x := ⟨_, List.getElem?_eq_getElem (by omega)⟩
  refine W.i6 hi0 hx ?_
  refine brr_eq (fun hq => ?_) (fun hq => ?_)
  · have := k i.toNat (by rw [hx, hq])
    rw [show ((i.toNat : Nat) : Int) = i by omega] at this
    exact this
  · have hir : i ≠ (r : Int) := by
      intro e
      rw [e, Int.toNat_natCast, hr] at hx
      exact hq (Option.some.inj hx).symm
    rw [wrap64 (by omega) (by omega)]
    exact hnx (m - 1) _ _ (by omega) ⟨rfl, by omega, by omega⟩
theorem F_law10_World_find.is {t : Tg} {Q : Int → Heap → Prop} (O : Sat h0 h (own a [.slice g.sn.ptr g.sn.len g.sn.cap, .slice g.sq.ptr g.sq.len g.sq.cap, .slice g.sC.ptr g.sC.len g.sC.cap, .slice g.sw.ptr g.sw.len g.sw.cap, .slice g.sx.ptr g.sx.len g.sx.cap, .int .i64 turn] :: buf 6 wrC g.sx g.xl :: L)) (hl : g.xl.length ≤ 100000) (k1 : ∀ h', (∀ x ∈ g.xl, x.x.tg ≠ t) → Sat h0 h' (own a [.slice g.sn.ptr g.sn.len g.sn.cap, .slice g.sq.ptr g.sq.len g.sq.cap, .slice g.sC.ptr g.sC.len g.sC.cap, .slice g.sw.ptr g.sw.len g.sw.cap, .slice g.sx.ptr g.sx.len g.sx.cap, .int .i64 turn] :: buf 6 wrC g.sx g.xl :: L) → Q (-1) h') (k2 : ∀ (i : Nat) x h', g.xl[i]? = some x → x.x.tg = t → Sat h0 h' (own a [.slice g.sn.ptr g.sn.len g.sn.cap, .slice g.sq.ptr g.sq.len g.sq.cap, .slice g.sC.ptr g.sC.len g.sC.cap, .slice g.sw.ptr g.sw.len g.sw.cap, .slice g.sx.ptr g.sx.len g.sx.cap, .int .i64 turn] :: buf 6 wrC g.sx g.xl :: L) → Q (i : Int) h') : F_law10_World_find (some (pt a 0)) t.1 t.2 h Q := by
  rw [F_law10_World_find.eq_1, F_law10_World_find_of.eq_1]
  refine O.al fun a4 h O => ?_
  refine jn0 (fun h' => h = h' ∧ ∀ x ∈ g.xl, x.x.tg ≠ t) (fun h' ⟨e, hx⟩ => by subst e; exact k1 _ hx O.drop) fun j hj => ?_
  rw [F_law10_World_find.l1.eq_1]
  have W := (O.view 2 wrC_len (by simp) rfl).1
  refine wl1 (k := .int .i64) (fun (m : Nat) (i : Int) (h' : Heap) => h = h' ∧ i + m = g.xl.length ∧ 0 ≤ i ∧ ∀ (j : Nat) x, (j : Int) < i → g.xl[j]? = some x → x.x.tg ≠ t) ?_ (m := g.xl.length) ⟨rfl, by omega, by omega, fun j x h => by omega⟩
  rintro m (i : Int) h2 next hnx ⟨rfl, him, hi0, hall⟩
  refine ⟨_, rfl, ?_⟩
  refine O.ld 1 rfl (ldL_c (k := .sl) (x := g.sx) (ldL_n ?_))
  rw [W.len]
  refine brr_p (fun hlt => ?_) (fun hlt => hj _ ⟨rfl, fun x hx => ?_⟩)
  · refine ⟨_, rfl, ?_⟩
    refine O.ld 1 rfl (ldL_c (k := .sl) (x := g.sx) (ldL_n ?_))
    obtain ⟨x, hx⟩ : ∃ x, g.xl[i.toNat]? = some x := ⟨_, List.getElem?_eq_getElem (by omega)⟩
    refine W.getP hi0 hx fun b hb => ld_drop (hb W) 0 (ldL_c (ldL_c (ldL_n ?_)))
    refine O.ld 0 rfl (ldL_c (ldL_c (ldL_n ?_)))
    by_cases hq : x.x.te = t.1 ∧ x.x.ts = t.2
    · refine brr_tt (by simp [hq.1, hq.2]) ?_
      have := k2 i.toNat x h hx (Prod.ext hq.1 hq.2) O.drop
      rw [show ((i.toNat : Nat) : Int) = i by omega] at this
      exact this
    · refine brr_ff ?_ ?_
      · by_cases h1 : x.x.te = t.1
        · have h2 : x.x.ts ≠ t.2 := fun h => hq ⟨h1, h⟩
          simp [h2]
        · simp [h1]
      · rw [wrap64 (by omega) (by omega)]
        refine hnx (m - 1) _ _ (by omega) ⟨rfl, by omega, by omega, fun j y hj hy e => ?_⟩
        by_cases h1 : (j : Int) < i
        · exact hall j y h1 hy e
        · rw [show j = i.toNat by omega, hx] at hy
          cases hy
          exact hq ⟨congrArg Prod.fst e, congrArg Prod.snd e⟩
  · obtain ⟨j, hj2⟩ := List.getElem?_of_mem hx
    have := (List.getElem?_eq_some_iff.1 hj2).1
    exact hall j x (by omega) hj2
theorem F_law10_World_chosen.is {i : Nat} {x : XX} {Q : Bool → Heap → Prop} (O : Sat h0 h (own a [.slice g.sn.ptr g.sn.len g.sn.cap, .slice g.sq.ptr g.sq.len g.sq.cap, .slice g.sC.ptr g.sC.len g.sC.cap, .slice g.sw.ptr g.sw.len g.sw.cap, .slice g.sx.ptr g.sx.len g.sx.cap, .int .i64 turn] :: buf 1 i64c g.sn ns :: buf 6 wrC g.sx g.xl :: many xsR g.xl :: L)) (hl : ns.length ≤ 1000) (hx : g.xl[i]? = some x) (hs : x.x.st.length = ns.length) (k : Q (decide (ns.length < 2 * x.x.st.count true)) h) : F_law10_World_chosen (some (pt a 0)) (i : Int) h Q := by
  rw [F_law10_World_chosen.eq_1, F_law10_World_chosen_of.eq_1]
  have W0 := (O.view 1 i64c_len (by simp) rfl).1
  have W := (O.view 2 wrC_len (by simp) rfl).1
  have Ws : View h 1 (En bo1) x.s x.x.st := by
    have O2 := (O.sel [3, 0, 1, 2] 4 rfl (Nat.le_add_left _ _)).take i hx
    exact (O2.view 0 bo1_len (by simp) rfl).1
  refine jn1 (fun (n : Int) h' => h = h' ∧ n = ((x.x.st.count true : Nat) : Int)) ?_ ?_
  · rintro n h' ⟨rfl, rfl⟩
    refine ⟨_, rfl, ?_⟩
    refine O.ld 0 rfl (ldL_c (k := .sl) (x := g.sn) (ldL_n ?_))
    have hc : x.x.st.count true ≤ x.x.st.length := List.count_le_length
    rw [W0.len, wrap64 (by omega) (by omega)]
    rw [show decide (2 * ((x.x.st.count true : Nat) : Int) > ((ns.length : Nat) : Int)) = decide (ns.length < 2 * x.x.st.count true) from decide_eq_decide.2 (by omega)]
    exact k
  intro j hj
  rw [F_law10_World_chosen.l1.eq_1]
  refine wl2 (k := .int .i64) (l := .int .i64) (fun (m : Nat) (n i : Int) (h' : Heap) => h = h' ∧ i + m = x.x.st.length ∧ 0 ≤ i ∧ n = (((x.x.st.take i.toNat).count true : Nat) : Int)) ?_ (m := x.x.st.length) ⟨rfl, by omega, by omega, by simp⟩
  rintro m (n : Int) (kk : Int) h2 next hnx ⟨rfl, him, hi0, hn⟩
  refine ⟨_, rfl, ?_⟩
  refine O.ld 0 rfl (ldL_c (k := .sl) (x := g.sn) (ldL_n ?_))
  rw [W0.len]
  refine brr_p (fun hlt => ?_) (fun hlt => hj _ _ ⟨rfl, by rw [hn, List.take_of_length_le (by omega)]⟩)
  refine ⟨_, rfl, ?_⟩
  refine O.ld 0 rfl (ldL_c (k := .sl) (x := g.sx) (ldL_n ?_))
  refine W.ptr hx fun b hb => ld_drop (W.atp hx hb) 3 (ldL_c (k := .sl) (x := x.s) (ldL_n ?_))
  obtain ⟨y, hy⟩ : ∃ y, x.x.st[kk.toNat]? = some y := ⟨_, List.getElem?_eq_getElem (by omega)⟩
  refine Ws.get1 (k := .bool) hi0 hy (fun x => x) (fun _ => rfl) ?_
  obtain ⟨hb1, hb2⟩ := List.getElem?_eq_some_iff.1 hy
  have et : (x.x.st.take (kk + 1).toNat).count true = (x.x.st.take kk.toNat).count true + (if y = true then 1 else 0) := by
    rw [show (kk + 1).toNat = kk.toNat + 1 by omega, List.take_succ_eq_append_getElem hb1, List.count_append, hb2]
    cases y <;> rfl
  have hc : (x.x.st.take kk.toNat).count true ≤ 1000 := Nat.le_trans List.count_le_length (by rw [List.length_take]; omega)
  refine jn1 (fun (z : Int) h2 => h = h2 ∧ z = (((x.x.st.take (kk + 1).toNat).count true : Nat) : Int)) ?_ ?_
  · rintro z h2 ⟨rfl, rfl⟩
    rw [wrap64 (by omega) (by omega)]
    exact hnx (m - 1) _ _ _ (by omega) ⟨rfl, by omega, by omega, rfl⟩
  · intro j2 hj2
    cases y with
    | false =>
      refine brr_ff rfl (hj2 _ _ ⟨rfl, ?_⟩)
      rw [et]; simpa using hn
    | true =>
      refine brr_tt rfl ?_
      rw [wrap64 (by omega) (by omega)]
      refine hj2 _ _ ⟨rfl, ?_⟩
      rw [et, hn]; rfl
theorem cmp_posW {a b c d : Int} : ((if tagLt a b c d then (-1 : Int) else if a = c ∧ b = d then 0 else 1) > 0) ↔ tagLt c d a b := by
  have e1 : tagLt a b c d ↔ (a < c ∨ (a = c ∧ b < d)) := Iff.rfl
  have e2 : tagLt c d a b ↔ (c < a ∨ (c = a ∧ d < b)) := Iff.rfl
  rw [e2]
  by_cases h1 : tagLt a b c d
  · rw [if_pos h1]
    have h1 := e1.1 h1
    omega
  rw [if_neg h1]
  have h1 : ¬ (a < c ∨ (a = c ∧ b < d)) := fun x => h1 (e1.2 x)
  by_cases h2 : a = c ∧ b = d
  · rw [if_pos h2]
    omega
  rw [if_neg h2]
  omega
theorem cmp_geW {a b c d : Int} : ((if tagLt a b c d then (-1 : Int) else if a = c ∧ b = d then 0 else 1) ≥ 0) ↔ tle (c, d) (a, b) := by
  have e1 : tagLt a b c d ↔ (a < c ∨ (a = c ∧ b < d)) := Iff.rfl
  show _ ↔ (c < a ∨ (c = a ∧ d ≤ b))
  by_cases h1 : tagLt a b c d
  · rw [if_pos h1]
    have h1 := e1.1 h1
    omega
  rw [if_neg h1]
  have h1 : ¬ (a < c ∨ (a = c ∧ b < d)) := fun x => h1 (e1.2 x)
  by_cases h2 : a = c ∧ b = d
  · rw [if_pos h2]
    omega
  rw [if_neg h2]
  omega
theorem F_law10_World_last.is {e : Int} {Q : Int → Int → Heap → Prop} (O : Sat h0 h (own a [.slice g.sn.ptr g.sn.len g.sn.cap, .slice g.sq.ptr g.sq.len g.sq.cap, .slice g.sC.ptr g.sC.len g.sC.cap, .slice g.sw.ptr g.sw.len g.sw.cap, .slice g.sx.ptr g.sx.len g.sx.cap, .int .i64 turn] :: buf 1 i64c g.sn ns :: buf 6 wrC g.sx g.xl :: many xsR g.xl :: L)) (hl : ns.length ≤ 1000) (hxl : g.xl.length ≤ 100000) (hs : ∀ x ∈ g.xl, x.x.st.length = ns.length) (k : ∀ (T : Tg) h', (T = (0, 0) ∨ ∃ y ∈ g.xl, y.x.te < e ∧ ns.length < 2 * y.x.st.count true ∧ y.x.tg = T) → Sat h0 h' (own a [.slice g.sn.ptr g.sn.len g.sn.cap, .slice g.sq.ptr g.sq.len g.sq.cap, .slice g.sC.ptr g.sC.len g.sC.cap, .slice g.sw.ptr g.sw.len g.sw.cap, .slice g.sx.ptr g.sx.len g.sx.cap, .int .i64 turn] :: buf 1 i64c g.sn ns :: buf 6 wrC g.sx g.xl :: many xsR g.xl :: L) → Q T.1 T.2 h') : F_law10_World_last (some (pt a 0)) e h Q := by
  rw [F_law10_World_last.eq_1, F_law10_World_last_of.eq_1]
  refine O.al fun a3 h O => ?_
  refine O.al fun a5 h O => ?_
  refine jn0 (fun h' => ∃ T : Tg, (T = (0, 0) ∨ ∃ y ∈ g.xl, y.x.te < e ∧ ns.length < 2 * y.x.st.count true ∧ y.x.tg = T) ∧ Sat h0 h' (own a5 [.int .u64 T.1, .int .u64 T.2] :: own a3 [.int .u64 0, .int .u64 0] :: own a [.slice g.sn.ptr g.sn.len g.sn.cap, .slice g.sq.ptr g.sq.len g.sq.cap, .slice g.sC.ptr g.sC.len g.sC.cap, .slice g.sw.ptr g.sw.len g.sw.cap, .slice g.sx.ptr g.sx.len g.sx.cap, .int .i64 turn] :: buf 1 i64c g.sn ns :: buf 6 wrC g.sx g.xl :: many xsR g.xl :: L)) ?_ ?_
  · clear O
    rintro h ⟨T, hT, O⟩
    refine O.ld 0 rfl (ldL_c (ldL_c (ldL_n ?_)))
    refine O.st 1 rfl (by simp) rfl fun h O => ?_
    dsimp only [V.put, List.set] at O
    refine O.ld 1 rfl (ldL_c (ldL_c (ldL_n ?_)))
    exact k T _ hT O.drop.drop
  intro j hj
  rw [F_law10_World_last.l1.eq_1]
  refine wl1 (k := .int .i64) (fun (m : Nat) (i : Int) (h' : Heap) => i + m = g.xl.length ∧ 0 ≤ i ∧ ∃ T : Tg, (T = (0, 0) ∨ ∃ y ∈ g.xl, y.x.te < e ∧ ns.length < 2 * y.x.st.count true ∧ y.x.tg = T) ∧ Sat h0 h' (own a5 [.int .u64 T.1, .int .u64 T.2] :: own a3 [.int .u64 0, .int .u64 0] :: own a [.slice g.sn.ptr g.sn.len g.sn.cap, .slice g.sq.ptr g.sq.len g.sq.cap, .slice g.sC.ptr g.sC.len g.sC.cap, .slice g.sw.ptr g.sw.len g.sw.cap, .slice g.sx.ptr g.sx.len g.sx.cap, .int .i64 turn] :: buf 1 i64c g.sn ns :: buf 6 wrC g.sx g.xl :: many xsR g.xl :: L)) ?_ (m := g.xl.length) ⟨by omega, by omega, (0, 0), .inl rfl, O⟩
  clear O
  rintro m (i : Int) h next hnx ⟨him, hi0, T, hT, O⟩
  have W := (O.view 4 wrC_len (by simp) rfl).1
  refine ⟨_, rfl, ?_⟩
  refine O.ld 2 rfl (ldL_c (k := .sl) (x := g.sx) (ldL_n ?_))
  rw [W.len]
  refine brr_p (fun hlt => ?_) (fun hlt => hj _ ⟨T, hT, O⟩)
  obtain ⟨x, hx⟩ : ∃ x, g.xl[i.toNat]? = some x := ⟨_, List.getElem?_eq_getElem (by omega)⟩
  have hxm := List.mem_of_getElem? hx
  refine jn1 (fun z h' => Sat h0 h' (own a5 [.int .u64 T.1, .int .u64 T.2] :: own a3 [.int .u64 0, .int .u64 0] :: own a [.slice g.sn.ptr g.sn.len g.sn.cap, .slice g.sq.ptr g.sq.len g.sq.cap, .slice g.sC.ptr g.sC.len g.sC.cap, .slice g.sw.ptr g.sw.len g.sw.cap, .slice g.sx.ptr g.sx.len g.sx.cap, .int .i64 turn] :: buf 1 i64c g.sn ns :: buf 6 wrC g.sx g.xl :: many xsR g.xl :: L) ∧ (z = true → x.x.te < e ∧ ns.length < 2 * x.x.st.count true)) ?_ ?_
  · clear O W
    rintro z h ⟨O, hz⟩
    have W := (O.view 4 wrC_len (by simp) rfl).1
    refine jn0 (fun h' => ∃ T : Tg, (T = (0, 0) ∨ ∃ y ∈ g.xl, y.x.te < e ∧ ns.length < 2 * y.x.st.count true ∧ y.x.tg = T) ∧ Sat h0 h' (own a5 [.int .u64 T.1, .int .u64 T.2] :: own a3 [.int .u64 0, .int .u64 0] :: own a [.slice g.sn.ptr g.sn.len g.sn.cap, .slice g.sq.ptr g.sq.len g.sq.cap, .slice g.sC.ptr g.sC.len g.sC.cap, .slice g.sw.ptr g.sw.len g.sw.cap, .slice g.sx.ptr g.sx.len g.sx.cap, .int .i64 turn] :: buf 1 i64c g.sn ns :: buf 6 wrC g.sx g.xl :: many xsR g.xl :: L)) ?_ ?_
    · clear O W
      rintro h ⟨T, hT, O⟩
      rw [wrap64 (by omega) (by omega)]
      exact hnx (m - 1) _ _ (by omega) ⟨by omega, by omega, T, hT, O⟩
    intro j2 hj2
    refine brr_of (fun hzt => ?_) (fun hzf => hj2 _ ⟨T, hT, O⟩)
    obtain ⟨h1, h2⟩ := hz hzt
    refine ⟨_, rfl, ?_⟩
    refine O.ld 2 rfl (ldL_c (k := .sl) (x := g.sx) (ldL_n ?_))
    refine W.getP hi0 hx fun b hb => ld_drop (hb W) 0 (ldL_c (ldL_c (ldL_n ?_)))
    refine O.st 0 rfl (by simp) rfl fun h O => ?_
    dsimp only [V.put, List.set] at O
    exact hj2 _ ⟨x.x.tg, .inr ⟨x, hxm, h1, h2, rfl⟩, O⟩
  intro j2 hj2
  refine ⟨_, rfl, ?_⟩
  refine O.ld 2 rfl (ldL_c (k := .sl) (x := g.sx) (ldL_n ?_))
  refine W.getP hi0 hx fun b hb => ld_drop (hb W) 0 (ldL_c (ldL_n ?_))
  refine brr_p (fun h1 => ?_) (fun h1 => hj2 _ _ ⟨O, fun h => absurd h (by decide)⟩)
  refine ⟨_, rfl, ?_⟩
  refine O.ld 2 rfl (ldL_c (k := .sl) (x := g.sx) (ldL_n ?_))
  refine W.getP hi0 hx fun b hb => ld_drop (hb W) 0 (ldL_c (ldL_c (ldL_n ?_)))
  refine O.ld 0 rfl (ldL_c (ldL_c (ldL_n ?_)))
  refine F_ref0_CmpTag.is O fun h O => ?_
  refine brr_p (fun _ => ?_) (fun _ => hj2 _ _ ⟨O, fun h => absurd h (by decide)⟩)
  have O2 := O.drop.drop
  have := F_law10_World_chosen.is (i := i.toNat) (Q := fun z h' => j2 z h') O2 hl hx (hs x hxm) (hj2 _ _ ⟨O, fun hz => ⟨h1, of_decide_eq_true hz⟩⟩)
  rw [show ((i.toNat : Nat) : Int) = i by omega] at this
  exact this
theorem F_law10_World_taken.is {x2 x3 x6 x7 : Int} {x4 x5 : Sl} {b : List UInt8} {Q : Bool → Heap → Prop} (O : Sat h0 h (own a [.slice g.sn.ptr g.sn.len g.sn.cap, .slice g.sq.ptr g.sq.len g.sq.cap, .slice g.sC.ptr g.sC.len g.sC.cap, .slice g.sw.ptr g.sw.len g.sw.cap, .slice g.sx.ptr g.sx.len g.sx.cap, .int .i64 turn] :: buf 6 wrC g.sx g.xl :: poolR g.ps :: L)) (hxl : g.xl.length ≤ 100000) (px : ∀ x ∈ g.xl, (x.v, x.x.b) ∈ g.ps) (hb : ∀ x ∈ g.xl, x.x.b.length ≤ (140737488355325 : Nat)) (pb : (x4, b) ∈ g.ps) (hbl : b.length ≤ (140737488355325 : Nat)) (z : XX) (hz : z ∈ g.xl) (z1 : z.x.te < x2) (z2 : tle (x6, x7) z.x.tg) (z3 : z.x.b = b) (k : ∀ h', Sat h0 h' (own a [.slice g.sn.ptr g.sn.len g.sn.cap, .slice g.sq.ptr g.sq.len g.sq.cap, .slice g.sC.ptr g.sC.len g.sC.cap, .slice g.sw.ptr g.sw.len g.sw.cap, .slice g.sx.ptr g.sx.len g.sx.cap, .int .i64 turn] :: buf 6 wrC g.sx g.xl :: poolR g.ps :: L) → Q true h') : F_law10_World_taken (some (pt a 0)) x2 x3 x4 x5 x6 x7 h Q := by
  rw [F_law10_World_taken.eq_1, F_law10_World_taken_of.eq_1]
  refine O.al fun a8 h O => ?_
  refine jn0 (fun h' => False) (fun h' e => e.elim) fun j hj => ?_
  rw [F_law10_World_taken.l1.eq_1]
  obtain ⟨r, hr⟩ := List.getElem?_of_mem hz
  have hrl := (List.getElem?_eq_some_iff.1 hr).1
  refine wl1 (k := .int .i64) (fun (m : Nat) (i : Int) (h' : Heap) => i + m = r ∧ 0 ≤ i ∧ Sat h0 h' (own a8 [.int .u64 x2, .int .u64 x3, .slice x4.ptr x4.len x4.cap, .slice x5.ptr x5.len x5.cap, .int .u64 x6, .int .u64 x7] :: own a [.slice g.sn.ptr g.sn.len g.sn.cap, .slice g.sq.ptr g.sq.len g.sq.cap, .slice g.sC.ptr g.sC.len g.sC.cap, .slice g.sw.ptr g.sw.len g.sw.cap, .slice g.sx.ptr g.sx.len g.sx.cap, .int .i64 turn] :: buf 6 wrC g.sx g.xl :: poolR g.ps :: L)) ?_ (m := r) ⟨by omega, by omega, O⟩
  clear O
  rintro m (i : Int) h next hnx ⟨him, hi0, O⟩
  have W := (O.view 2 wrC_len (by simp) rfl).1
  refine ⟨_, rfl, ?_⟩
  refine O.ld 1 rfl (ldL_c (k := .sl) (x := g.sx) (ldL_n ?_))
  rw [W.len]
  refine brr_tt (by simp; omega) ?_
  obtain ⟨x, hx⟩ : ∃ x, g.xl[i.toNat]? = some x := ⟨_, List.getElem?_eq_getElem (by omega)⟩
  have hxm := List.mem_of_getElem? hx
  refine ⟨_, rfl, ?_⟩
  refine O.ld 1 rfl (ldL_c (k := .sl) (x := g.sx) (ldL_n ?_))
  refine W.getP hi0 hx fun b1 hb1 => ld_drop (hb1 W) 0 (ldL_c (ldL_c (ldL_n ?_)))
  refine O.al fun a21 h O => ?_
  refine O.st 0 rfl (by simp) rfl fun h O => ?_
  dsimp only [V.put, List.set] at O
  have O : Sat h0 h (own a21 [.int .u64 x.x.te, .int .u64 x.x.ts] :: own a8 [.int .u64 x2, .int .u64 x3, .slice x4.ptr x4.len x4.cap, .slice x5.ptr x5.len x5.cap, .int .u64 x6, .int .u64 x7] :: own a [.slice g.sn.ptr g.sn.len g.sn.cap, .slice g.sq.ptr g.sq.len g.sq.cap, .slice g.sC.ptr g.sC.len g.sC.cap, .slice g.sw.ptr g.sw.len g.sw.cap, .slice g.sx.ptr g.sx.len g.sx.cap, .int .i64 turn] :: buf 6 wrC g.sx g.xl :: poolR g.ps :: L) := O
  refine jn1 (fun zz h' => Sat h0 h' (own a8 [.int .u64 x2, .int .u64 x3, .slice x4.ptr x4.len x4.cap, .slice x5.ptr x5.len x5.cap, .int .u64 x6, .int .u64 x7] :: own a [.slice g.sn.ptr g.sn.len g.sn.cap, .slice g.sq.ptr g.sq.len g.sq.cap, .slice g.sC.ptr g.sC.len g.sC.cap, .slice g.sw.ptr g.sw.len g.sw.cap, .slice g.sx.ptr g.sx.len g.sx.cap, .int .i64 turn] :: buf 6 wrC g.sx g.xl :: poolR g.ps :: L) ∧ (x = z → zz = true)) ?_ ?_
  · clear O W
    rintro zz h ⟨O, hzz⟩
    refine brr_of (fun _ => k _ O.drop) (fun hf => ?_)
    have hir : i ≠ (r : Int) := by
      intro e
      rw [e, Int.toNat_natCast, hr] at hx
      have := hzz (Option.some.inj hx).symm
      rw [hf] at this
      cases this
    rw [wrap64 (by omega) (by omega)]
    exact hnx (m - 1) _ _ (by omega) ⟨by omega, by omega, O⟩
  intro j2 hj2
  refine O.ld 0 rfl (ldL_c (ldL_n ?_))
  refine O.ld 1 rfl (ldL_c (ldL_n ?_))
  refine brr_p (fun h1 => ?_) (fun h1 => hj2 _ _ ⟨O.drop, fun e => by subst e; exact absurd z1 h1⟩)
  refine O.ld 0 rfl (ldL_c (ldL_c (ldL_n ?_)))
  refine O.ld 1 rfl (ldL_c (ldL_c (ldL_n ?_)))
  refine F_ref0_CmpTag.is O fun h O => ?_
  refine brr_p (fun h2 => ?_) (fun h2 => hj2 _ _ ⟨O.drop, fun e => by subst e; exact absurd (cmp_geW.2 z2) h2⟩)
  have W := (O.view 3 wrC_len (by simp) rfl).1
  refine ⟨_, rfl, ?_⟩
  refine O.ld 2 rfl (ldL_c (k := .sl) (x := g.sx) (ldL_n ?_))
  refine W.getP hi0 hx fun b1 hb1 => ld_drop (hb1 W) 2 (ldL_c (k := .sl) (x := x.v) (ldL_n ?_))
  refine O.ld 1 rfl (ldL_c (k := .sl) (x := x4) (ldL_n ?_))
  refine F_ref0_Eq.is (xs := x.x.b) (ys := b) (pool_view O 4 (by simp) rfl (px x hxm)) (pool_view O 4 (by simp) rfl pb) (by have := hb x hxm; omega) (by omega) ?_
  exact hj2 _ _ ⟨O.drop, fun e => by subst e; simp [z3]⟩
end
end Go.Proofs.Ytigcpkejjjgkeaa.V
/- The world: a write is told, messages are sent. -/
namespace Go.Proofs.Ytigcpkejjjgkeaa.V
open Go Go.RowKit
set_option linter.unusedVariables false
set_option linter.unusedSimpArgs false

theorem push_snoc {way l : List Mg} {m : Mg} : pushW way (l ++ [m]) = if (pushW way l).length < 2000 then pushW way l ++ [m] else pushW way l := by
  unfold pushW
  rw [List.length_append, List.length_take, List.take_append]
  by_cases h : l.length < 2000 - way.length
  · rw [if_pos (by omega), List.take_of_length_le (l := [m]) (by simp; omega), List.append_assoc]
  · rw [if_neg (by omega), show 2000 - way.length - l.length = 0 by omega, List.take_zero, List.append_nil]
section
variable {h0 h : Heap} {L : List Res} {a : Nat} {g : GW} {w : WD} {turn : Int} {ns : List Int} {m : Mg}
theorem F_law10_World_writes.is {Q : Bool → Heap → Prop} (hl1 : 1 ≤ ns.length) (hl : ns.length ≤ 1000) (hxl : g.xl.length ≤ 10000) (hs : ∀ x ∈ g.xl, x.x.st.length = ns.length) (px : ∀ x ∈ g.xl, (x.v, x.x.b) ∈ g.ps) (hb : ∀ x ∈ g.xl, x.x.b.length ≤ (140737488355325 : Nat)) (pm : (m.v, m.b) ∈ g.ps) (hmb : m.b.length ≤ (140737488355325 : Nat))
    (O : Sat h0 h (own a [.slice g.sn.ptr g.sn.len g.sn.cap, .slice g.sq.ptr g.sq.len g.sq.cap, .slice g.sC.ptr g.sC.len g.sC.cap, .slice g.sw.ptr g.sw.len g.sw.cap, .slice g.sx.ptr g.sx.len g.sx.cap, .int .i64 turn] :: buf 1 i64c g.sn ns :: buf 6 wrC g.sx g.xl :: many xsR g.xl :: poolR g.ps :: L))
    (cA : (∀ x ∈ g.xl, x.x.tg = (m.te, m.ts) → x.x.b = m.b))
    (cB : (∀ x ∈ g.xl, x.x.tg ≠ (m.te, m.ts)) → m.ts = 1 → ∀ T : Tg, (T = (0, 0) ∨ ∃ y ∈ g.xl, y.x.te < m.te ∧ ns.length < 2 * y.x.st.count true ∧ y.x.tg = T) → ∃ z ∈ g.xl, z.x.te < m.te ∧ tle T z.x.tg ∧ z.x.b = m.b)
    (kA : ∀ h', (∃ x ∈ g.xl, x.x.tg = (m.te, m.ts)) → Sat h0 h' (own a [.slice g.sn.ptr g.sn.len g.sn.cap, .slice g.sq.ptr g.sq.len g.sq.cap, .slice g.sC.ptr g.sC.len g.sC.cap, .slice g.sw.ptr g.sw.len g.sw.cap, .slice g.sx.ptr g.sx.len g.sx.cap, .int .i64 turn] :: buf 1 i64c g.sn ns :: buf 6 wrC g.sx g.xl :: many xsR g.xl :: poolR g.ps :: L) → Q true h')
    (kB : ∀ (sx s44 : Sl) (T : Tg) h', (∀ x ∈ g.xl, x.x.tg ≠ (m.te, m.ts)) → Sat h0 h' (own a [.slice g.sn.ptr g.sn.len g.sn.cap, .slice g.sq.ptr g.sq.len g.sq.cap, .slice g.sC.ptr g.sC.len g.sC.cap, .slice g.sw.ptr g.sw.len g.sw.cap, .slice sx.ptr sx.len sx.cap, .int .i64 turn] :: buf 1 i64c g.sn ns :: buf 6 wrC sx (g.xl ++ [⟨⟨m.te, m.ts, m.b, List.replicate ns.length false⟩, m.v, s44, T.1, T.2⟩]) :: many xsR (g.xl ++ [⟨⟨m.te, m.ts, m.b, List.replicate ns.length false⟩, m.v, s44, T.1, T.2⟩]) :: poolR g.ps :: L) → Q true h') : F_law10_World_writes (some (pt a 0)) m.kind m.frm m.to m.shard m.epoch m.te m.ts m.round m.span m.seen m.v m.peer m.num m.name m.other m.amount m.life m.id m.op m.client m.state m.bad h Q := by
  rw [F_law10_World_writes.eq_1, F_law10_World_writes_of.eq_1]
  refine O.al fun a24 h O => ?_
  have O : Sat h0 h (own a24 (mgC m) :: own a [.slice g.sn.ptr g.sn.len g.sn.cap, .slice g.sq.ptr g.sq.len g.sq.cap, .slice g.sC.ptr g.sC.len g.sC.cap, .slice g.sw.ptr g.sw.len g.sw.cap, .slice g.sx.ptr g.sx.len g.sx.cap, .int .i64 turn] :: buf 1 i64c g.sn ns :: buf 6 wrC g.sx g.xl :: many xsR g.xl :: poolR g.ps :: L) := O
  refine O.ld 0 rfl (ldL_c (ldL_c (ldL_n ?_)))
  refine F_law10_World_find.is (t := (m.te, m.ts)) (O.sel [1, 3, 0, 2, 4, 5] 6 rfl (Nat.le_add_left _ _)) (by omega) (fun h hno O => ?_) (fun i x h hx ht O => ?_)
  case refine_2 =>
    have hxm := List.mem_of_getElem? hx
    refine brr_tt (by simp) ?_
    have W := (O.view 1 wrC_len (by simp) rfl).1
    refine ⟨_, rfl, ?_⟩
    refine O.ld 0 rfl (ldL_c (k := .sl) (x := g.sx) (ldL_n ?_))
    refine W.ptr hx fun b hb2 => ld_drop (W.atp hx hb2) 2 (ldL_c (k := .sl) (x := x.v) (ldL_n ?_))
    refine O.ld 2 rfl (ldL_c (k := .sl) (x := m.v) (ldL_n ?_))
    refine F_ref0_Eq.is (xs := x.x.b) (ys := m.b) (pool_view O 5 (by simp) rfl (px x hxm)) (pool_view O 5 (by simp) rfl pm) (by have := hb x hxm; omega) (by omega) ?_
    rw [decide_eq_true (cA x hxm ht)]
    exact kA _ ⟨x, hxm, ht⟩ (O.sel [0, 3, 1, 4, 5] 6 rfl (Nat.le_add_left _ _))
  refine brr_ff (by decide) ?_
  have O : Sat h0 h (own a24 (mgC m) :: own a [.slice g.sn.ptr g.sn.len g.sn.cap, .slice g.sq.ptr g.sq.len g.sq.cap, .slice g.sC.ptr g.sC.len g.sC.cap, .slice g.sw.ptr g.sw.len g.sw.cap, .slice g.sx.ptr g.sx.len g.sx.cap, .int .i64 turn] :: buf 1 i64c g.sn ns :: buf 6 wrC g.sx g.xl :: many xsR g.xl :: poolR g.ps :: L) := O.sel [2, 0, 3, 1, 4, 5] 6 rfl (Nat.le_add_left _ _)
  have hsl : g.sn.len = ns.length := (O.view 2 i64c_len (by simp) rfl).1.len
  refine jn1 (fun x h' => ∃ (b49 : Nat) (s44 : Sl) (T : Tg), x = pt b49 0 ∧ (T = (0, 0) ∨ ∃ y ∈ g.xl, y.x.te < m.te ∧ ns.length < 2 * y.x.st.count true ∧ y.x.tg = T) ∧ Sat h0 h' (own b49 [.int .u64 m.te, .int .u64 m.ts, .slice m.v.ptr m.v.len m.v.cap, .slice s44.ptr s44.len s44.cap, .int .u64 T.1, .int .u64 T.2] :: buf 1 bo1 s44 (List.replicate ns.length false) :: own a24 (mgC m) :: own a [.slice g.sn.ptr g.sn.len g.sn.cap, .slice g.sq.ptr g.sq.len g.sq.cap, .slice g.sC.ptr g.sC.len g.sC.cap, .slice g.sw.ptr g.sw.len g.sw.cap, .slice g.sx.ptr g.sx.len g.sx.cap, .int .i64 turn] :: buf 1 i64c g.sn ns :: buf 6 wrC g.sx g.xl :: many xsR g.xl :: poolR g.ps :: L)) ?_ ?_
  case refine_2 =>
    intro j37 hj37
    unfold mgC at O hj37
    refine ⟨?_, ?_, ?_, ?_, ?_, ?_⟩
    · refine O.ld 0 rfl (ldL_c (ldL_c (ldL_n ?_)))
      refine O.ld 0 rfl (ldL_c (k := .sl) (x := m.v) (ldL_n ?_))
      refine ⟨_, rfl, ?_⟩
      refine O.ld 1 rfl (ldL_c (k := .sl) (x := g.sn) (ldL_n ?_))
      refine O.ld 0 rfl (ldL_c (ldL_n ?_))
      rw [show ((g.sn.len : Nat) : Int) = ((ns.length : Nat) : Int) by rw [hsl]]
      refine O.mk_buf (by omega) (by omega) (by omega) fun b44 h O => ?_
      rw [mk_bools] at O
      have O := (O.own_buf (k := 0) (sz := 1) rfl).bufsI
      rw [List.length_replicate, Nat.add_zero] at O
      rw [Int.toNat_natCast]
      obtain ⟨s44, hs44⟩ : ∃ s : Sl, s = ⟨some (pt b44 0), ns.length, ns.length⟩ := ⟨_, rfl⟩
      rw [← hs44] at O ⊢
      refine O.ca 1 2 rfl ?_
      refine O.ca 1 1 rfl ?_
      refine O.ca 1 1 rfl ?_
      refine F_law10_World_last.is (O.sel [2, 3, 4, 5, 0, 1, 6] 7 rfl (Nat.le_add_left _ _)) hl (by omega) hs fun T h hT O => ?_
      refine O.ca 5 2 rfl ?_
      refine O.ca 5 1 rfl ?_
      refine O.ca 0 1 rfl ?_
      refine O.al fun b49 h O => ?_
      refine O.ca 6 2 rfl ?_
      refine O.ca 6 1 rfl ?_
      refine O.ca 1 1 rfl ?_
      refine O.ca 6 1 rfl ?_
      refine O.st 0 rfl (by simp) rfl fun h O => ?_
      dsimp only [V.put, List.set] at O
      exact hj37 _ _ ⟨b49, s44, T, rfl, hT, O.sel [0, 5, 6, 1, 2, 3, 4, 7] 8 rfl (Nat.le_add_left _ _)⟩
    · refine O.ld 0 rfl (ldL_c (ldL_c (ldL_n ?_)))
      refine O.ld 0 rfl (ldL_c (k := .sl) (x := m.v) (ldL_n ?_))
      refine ⟨_, rfl, ?_⟩
      refine O.ld 1 rfl (ldL_c (k := .sl) (x := g.sn) (ldL_n ?_))
      refine O.ld 0 rfl (ldL_c (ldL_n ?_))
      rw [show ((g.sn.len : Nat) : Int) = ((ns.length : Nat) : Int) by rw [hsl]]
      refine O.mk_buf (by omega) (by omega) (by omega) fun b44 h O => ?_
      rw [mk_bools] at O
      have O := (O.own_buf (k := 0) (sz := 1) rfl).bufsI
      rw [List.length_replicate, Nat.add_zero] at O
      rw [Int.toNat_natCast]
      obtain ⟨s44, hs44⟩ : ∃ s : Sl, s = ⟨some (pt b44 0), ns.length, ns.length⟩ := ⟨_, rfl⟩
      rw [← hs44] at O ⊢
      refine O.ca 1 2 rfl ?_
      refine O.ca 1 1 rfl ?_
      refine O.ca 1 1 rfl ?_
      refine O.al fun b49 h O => ?_
      refine O.ca 2 2 rfl ?_
      refine O.ca 2 1 rfl ?_
      refine O.ca 3 1 rfl ?_
      refine O.ca 2 1 rfl ?_
      refine F_law10_World_last.is (O.sel [3, 4, 5, 6, 0, 1, 2, 7] 8 rfl (Nat.le_add_left _ _)) hl (by omega) hs fun T h hT O => ?_
      refine O.ca 6 2 rfl ?_
      refine O.ca 6 1 rfl ?_
      refine O.ca 0 1 rfl ?_
      refine O.st 4 rfl (by simp) rfl fun h O => ?_
      dsimp only [V.put, List.set] at O
      exact hj37 _ _ ⟨b49, s44, T, rfl, hT, O.sel [4, 5, 6, 0, 1, 2, 3, 7] 8 rfl (Nat.le_add_left _ _)⟩
    · refine O.ld 0 rfl (ldL_c (ldL_c (ldL_n ?_)))
      refine O.ld 0 rfl (ldL_c (k := .sl) (x := m.v) (ldL_n ?_))
      refine ⟨_, rfl, ?_⟩
      refine O.ld 1 rfl (ldL_c (k := .sl) (x := g.sn) (ldL_n ?_))
      refine O.ld 0 rfl (ldL_c (ldL_n ?_))
      refine F_law10_World_last.is (O.sel [1, 2, 3, 4, 0, 5] 6 rfl (Nat.le_add_left _ _)) hl (by omega) hs fun T h hT O => ?_
      refine O.ca 4 2 rfl ?_
      refine O.ca 4 1 rfl ?_
      refine O.ca 0 1 rfl ?_
      rw [show ((g.sn.len : Nat) : Int) = ((ns.length : Nat) : Int) by rw [hsl]]
      refine O.mk_buf (by omega) (by omega) (by omega) fun b44 h O => ?_
      rw [mk_bools] at O
      have O := (O.own_buf (k := 0) (sz := 1) rfl).bufsI
      rw [List.length_replicate, Nat.add_zero] at O
      rw [Int.toNat_natCast]
      obtain ⟨s44, hs44⟩ : ∃ s : Sl, s = ⟨some (pt b44 0), ns.length, ns.length⟩ := ⟨_, rfl⟩
      rw [← hs44] at O ⊢
      refine O.ca 5 2 rfl ?_
      refine O.ca 5 1 rfl ?_
      refine O.ca 5 1 rfl ?_
      refine O.al fun b49 h O => ?_
      refine O.ca 6 2 rfl ?_
      refine O.ca 6 1 rfl ?_
      refine O.ca 2 1 rfl ?_
      refine O.ca 6 1 rfl ?_
      refine O.st 0 rfl (by simp) rfl fun h O => ?_
      dsimp only [V.put, List.set] at O
      exact hj37 _ _ ⟨b49, s44, T, rfl, hT, O.sel [0, 1, 6, 2, 3, 4, 5, 7] 8 rfl (Nat.le_add_left _ _)⟩
    · refine O.ld 0 rfl (ldL_c (ldL_c (ldL_n ?_)))
      refine O.ld 0 rfl (ldL_c (k := .sl) (x := m.v) (ldL_n ?_))
      refine ⟨_, rfl, ?_⟩
      refine O.ld 1 rfl (ldL_c (k := .sl) (x := g.sn) (ldL_n ?_))
      refine O.ld 0 rfl (ldL_c (ldL_n ?_))
      refine F_law10_World_last.is (O.sel [1, 2, 3, 4, 0, 5] 6 rfl (Nat.le_add_left _ _)) hl (by omega) hs fun T h hT O => ?_
      refine O.ca 4 2 rfl ?_
      refine O.ca 4 1 rfl ?_
      refine O.ca 0 1 rfl ?_
      refine O.al fun b49 h O => ?_
      refine O.ca 5 2 rfl ?_
      refine O.ca 5 1 rfl ?_
      refine O.ca 1 1 rfl ?_
      refine O.ca 5 1 rfl ?_
      rw [show ((g.sn.len : Nat) : Int) = ((ns.length : Nat) : Int) by rw [hsl]]
      refine O.mk_buf (by omega) (by omega) (by omega) fun b44 h O => ?_
      rw [mk_bools] at O
      have O := (O.own_buf (k := 0) (sz := 1) rfl).bufsI
      rw [List.length_replicate, Nat.add_zero] at O
      rw [Int.toNat_natCast]
      obtain ⟨s44, hs44⟩ : ∃ s : Sl, s = ⟨some (pt b44 0), ns.length, ns.length⟩ := ⟨_, rfl⟩
      rw [← hs44] at O ⊢
      refine O.ca 6 2 rfl ?_
      refine O.ca 6 1 rfl ?_
      refine O.ca 6 1 rfl ?_
      refine O.st 1 rfl (by simp) rfl fun h O => ?_
      dsimp only [V.put, List.set] at O
      exact hj37 _ _ ⟨b49, s44, T, rfl, hT, O.sel [1, 0, 6, 2, 3, 4, 5, 7] 8 rfl (Nat.le_add_left _ _)⟩
    · refine O.ld 0 rfl (ldL_c (ldL_c (ldL_n ?_)))
      refine O.ld 0 rfl (ldL_c (k := .sl) (x := m.v) (ldL_n ?_))
      refine ⟨_, rfl, ?_⟩
      refine O.ld 1 rfl (ldL_c (k := .sl) (x := g.sn) (ldL_n ?_))
      refine O.ld 0 rfl (ldL_c (ldL_n ?_))
      refine O.al fun b49 h O => ?_
      refine O.ca 1 2 rfl ?_
      refine O.ca 1 1 rfl ?_
      refine O.ca 2 1 rfl ?_
      refine O.ca 1 1 rfl ?_
      rw [show ((g.sn.len : Nat) : Int) = ((ns.length : Nat) : Int) by rw [hsl]]
      refine O.mk_buf (by omega) (by omega) (by omega) fun b44 h O => ?_
      rw [mk_bools] at O
      have O := (O.own_buf (k := 0) (sz := 1) rfl).bufsI
      rw [List.length_replicate, Nat.add_zero] at O
      rw [Int.toNat_natCast]
      obtain ⟨s44, hs44⟩ : ∃ s : Sl, s = ⟨some (pt b44 0), ns.length, ns.length⟩ := ⟨_, rfl⟩
      rw [← hs44] at O ⊢
      refine O.ca 2 2 rfl ?_
      refine O.ca 2 1 rfl ?_
      refine O.ca 2 1 rfl ?_
      refine F_law10_World_last.is (O.sel [3, 4, 5, 6, 0, 1, 2, 7] 8 rfl (Nat.le_add_left _ _)) hl (by omega) hs fun T h hT O => ?_
      refine O.ca 6 2 rfl ?_
      refine O.ca 6 1 rfl ?_
      refine O.ca 0 1 rfl ?_
      refine O.st 5 rfl (by simp) rfl fun h O => ?_
      dsimp only [V.put, List.set] at O
      exact hj37 _ _ ⟨b49, s44, T, rfl, hT, O.sel [5, 4, 6, 0, 1, 2, 3, 7] 8 rfl (Nat.le_add_left _ _)⟩
    · refine O.ld 0 rfl (ldL_c (ldL_c (ldL_n ?_)))
      refine O.ld 0 rfl (ldL_c (k := .sl) (x := m.v) (ldL_n ?_))
      refine ⟨_, rfl, ?_⟩
      refine O.ld 1 rfl (ldL_c (k := .sl) (x := g.sn) (ldL_n ?_))
      refine O.ld 0 rfl (ldL_c (ldL_n ?_))
      refine O.al fun b49 h O => ?_
      refine O.ca 1 2 rfl ?_
      refine O.ca 1 1 rfl ?_
      refine O.ca 2 1 rfl ?_
      refine O.ca 1 1 rfl ?_
      refine F_law10_World_last.is (O.sel [2, 3, 4, 5, 0, 1, 6] 7 rfl (Nat.le_add_left _ _)) hl (by omega) hs fun T h hT O => ?_
      refine O.ca 5 2 rfl ?_
      refine O.ca 5 1 rfl ?_
      refine O.ca 0 1 rfl ?_
      rw [show ((g.sn.len : Nat) : Int) = ((ns.length : Nat) : Int) by rw [hsl]]
      refine O.mk_buf (by omega) (by omega) (by omega) fun b44 h O => ?_
      rw [mk_bools] at O
      have O := (O.own_buf (k := 0) (sz := 1) rfl).bufsI
      rw [List.length_replicate, Nat.add_zero] at O
      rw [Int.toNat_natCast]
      obtain ⟨s44, hs44⟩ : ∃ s : Sl, s = ⟨some (pt b44 0), ns.length, ns.length⟩ := ⟨_, rfl⟩
      rw [← hs44] at O ⊢
      refine O.ca 6 2 rfl ?_
      refine O.ca 6 1 rfl ?_
      refine O.ca 6 1 rfl ?_
      refine O.st 5 rfl (by simp) rfl fun h O => ?_
      dsimp only [V.put, List.set] at O
      exact hj37 _ _ ⟨b49, s44, T, rfl, hT, O.sel [5, 0, 6, 1, 2, 3, 4, 7] 8 rfl (Nat.le_add_left _ _)⟩
  clear O
  rintro x h ⟨b49, s44, T, rfl, hT, O⟩
  refine ⟨_, rfl, ?_⟩
  refine O.ld 3 rfl (ldL_c (k := .sl) (x := g.sx) (ldL_n ?_))
  refine O.ld 0 rfl ?_
  repeat (first | (with_reducible refine ldL_n ?_) | refine ldL_s ?_ | refine ldL_c ?_)
  refine O.al fun a132 h O => ?_
  refine O.ca 4 1 rfl ?_
  have O2 : Sat h0 h (buf 6 wrC g.sx g.xl :: own a132 (wrC ⟨⟨m.te, m.ts, m.b, List.replicate ns.length false⟩, m.v, s44, T.1, T.2⟩) :: own b49 [.int .u64 m.te, .int .u64 m.ts, .slice m.v.ptr m.v.len m.v.cap, .slice s44.ptr s44.len s44.cap, .int .u64 T.1, .int .u64 T.2] :: buf 1 bo1 s44 (List.replicate ns.length false) :: own a24 (mgC m) :: own a [.slice g.sn.ptr g.sn.len g.sn.cap, .slice g.sq.ptr g.sq.len g.sq.cap, .slice g.sC.ptr g.sC.len g.sC.cap, .slice g.sw.ptr g.sw.len g.sw.cap, .slice g.sx.ptr g.sx.len g.sx.cap, .int .i64 turn] :: buf 1 i64c g.sn ns :: many xsR g.xl :: poolR g.ps :: L) := O.sel [6, 0, 1, 2, 3, 4, 5, 7, 8] 9 rfl (Nat.le_add_left _ _)
  refine Sat.app_buf (enc := wrC) O2 wrC_len wrC_one rfl (ys := [⟨⟨m.te, m.ts, m.b, List.replicate ns.length false⟩, m.v, s44, T.1, T.2⟩]) rfl (rdP_own O2 1 rfl 6 (Nat.le_refl _)) (by simp only [List.length_cons, List.length_nil]; omega) fun sx h O _ => ?_
  refine ⟨_, rfl, ?_⟩
  refine st_ad (b := a) (o := 4) rfl ?_
  refine O.st 5 rfl (by simp) rfl fun h O => ?_
  dsimp only [V.put, List.set] at O
  have fin : Sat h0 h (own a [.slice g.sn.ptr g.sn.len g.sn.cap, .slice g.sq.ptr g.sq.len g.sq.cap, .slice g.sC.ptr g.sC.len g.sC.cap, .slice g.sw.ptr g.sw.len g.sw.cap, .slice sx.ptr sx.len sx.cap, .int .i64 turn] :: buf 1 i64c g.sn ns :: buf 6 wrC sx (g.xl ++ [⟨⟨m.te, m.ts, m.b, List.replicate ns.length false⟩, m.v, s44, T.1, T.2⟩]) :: many xsR (g.xl ++ [⟨⟨m.te, m.ts, m.b, List.replicate ns.length false⟩, m.v, s44, T.1, T.2⟩]) :: poolR g.ps :: own b49 [.int .u64 m.te, .int .u64 m.ts, .slice m.v.ptr m.v.len m.v.cap, .slice s44.ptr s44.len s44.cap, .int .u64 T.1, .int .u64 T.2] :: own a24 (mgC m) :: L) := by
    have O3 : Sat h0 h (xsR ⟨⟨m.te, m.ts, m.b, List.replicate ns.length false⟩, m.v, s44, T.1, T.2⟩ :: many xsR g.xl :: own a [.slice g.sn.ptr g.sn.len g.sn.cap, .slice g.sq.ptr g.sq.len g.sq.cap, .slice g.sC.ptr g.sC.len g.sC.cap, .slice g.sw.ptr g.sw.len g.sw.cap, .slice sx.ptr sx.len sx.cap, .int .i64 turn] :: buf 1 i64c g.sn ns :: buf 6 wrC sx (g.xl ++ [⟨⟨m.te, m.ts, m.b, List.replicate ns.length false⟩, m.v, s44, T.1, T.2⟩]) :: poolR g.ps :: own b49 [.int .u64 m.te, .int .u64 m.ts, .slice m.v.ptr m.v.len m.v.cap, .slice s44.ptr s44.len s44.cap, .int .u64 T.1, .int .u64 T.2] :: own a24 (mgC m) :: L) := O.sel [3, 7, 5, 6, 0, 8, 2, 4] 9 rfl (Nat.le_add_left _ _)
    exact (Sat.more O3).sel [1, 2, 3, 0, 4, 5, 6] 7 rfl (Nat.le_add_left _ _)
  refine jn1 (fun z h' => z = true ∧ Sat h0 h' (own a [.slice g.sn.ptr g.sn.len g.sn.cap, .slice g.sq.ptr g.sq.len g.sq.cap, .slice g.sC.ptr g.sC.len g.sC.cap, .slice g.sw.ptr g.sw.len g.sw.cap, .slice sx.ptr sx.len sx.cap, .int .i64 turn] :: buf 1 i64c g.sn ns :: buf 6 wrC sx (g.xl ++ [⟨⟨m.te, m.ts, m.b, List.replicate ns.length false⟩, m.v, s44, T.1, T.2⟩]) :: many xsR (g.xl ++ [⟨⟨m.te, m.ts, m.b, List.replicate ns.length false⟩, m.v, s44, T.1, T.2⟩]) :: poolR g.ps :: L)) (fun z h' hh => by obtain ⟨rfl, O⟩ := hh; exact kB sx s44 T _ hno O) fun j hj => ?_
  refine fin.ld 6 rfl (ldL_c (ldL_n ?_))
  refine brr_ne (fun h1 => hj _ _ ⟨rfl, fin.sel [0, 1, 2, 3, 4] 7 rfl (Nat.le_add_left _ _)⟩) (fun h1 => ?_)
  refine fin.ld 5 rfl ?_
  repeat (first | (with_reducible refine ldL_n ?_) | refine ldL_s ?_ | refine ldL_c ?_)
  obtain ⟨z, hz, z1, z2, z3⟩ := cB hno h1 T hT
  have fin2 : Sat h0 h (own a [.slice g.sn.ptr g.sn.len g.sn.cap, .slice g.sq.ptr g.sq.len g.sq.cap, .slice g.sC.ptr g.sC.len g.sC.cap, .slice g.sw.ptr g.sw.len g.sw.cap, .slice sx.ptr sx.len sx.cap, .int .i64 turn] :: buf 6 wrC sx (g.xl ++ [⟨⟨m.te, m.ts, m.b, List.replicate ns.length false⟩, m.v, s44, T.1, T.2⟩]) :: poolR g.ps :: buf 1 i64c g.sn ns :: many xsR (g.xl ++ [⟨⟨m.te, m.ts, m.b, List.replicate ns.length false⟩, m.v, s44, T.1, T.2⟩]) :: L) := fin.sel [0, 2, 4, 1, 3] 7 rfl (Nat.le_add_left _ _)
  refine F_law10_World_taken.is (g := { g with sx := sx, xl := g.xl ++ [⟨⟨m.te, m.ts, m.b, List.replicate ns.length false⟩, m.v, s44, T.1, T.2⟩] }) (b := m.b) fin2 (by show (g.xl ++ [_]).length ≤ _; rw [List.length_append, List.length_singleton]; omega) (fun x hx => ?_) (fun x hx => ?_) pm hmb z (List.mem_append.2 (.inl hz)) z1 z2 z3 fun h O => hj _ _ ⟨rfl, ?_⟩
  · rcases List.mem_append.1 hx with h | h
    · exact px x h
    · rw [List.mem_singleton.1 h]; exact pm
  · rcases List.mem_append.1 hx with h | h
    · exact hb x h
    · rw [List.mem_singleton.1 h]; exact hmb
  · exact O.sel [0, 3, 1, 4, 2] 5 rfl (Nat.le_add_left _ _)
end
end Go.Proofs.Ytigcpkejjjgkeaa.V
