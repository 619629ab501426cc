/-
  A VIEW OF THE MACHINE AS A PREDICATE TRANSFORMER OVER THE HEAP. Part 9: regions that draw their order: one order is walked; what the others need besides is that what is read in between stays.
-/
import Derived.Test.YtompmkmbppcadaaV8
namespace Go.Proofs.Ytompmkmbppcadaa.V
open Go Go.RowKit
set_option linter.unusedVariables false
set_option linter.unusedSimpArgs false

/-! ### what stands ahead of what -/
def dirs (o : Oper) : List Nat := (o.after.toList.filter fun e => Region.binds .any e).map (·.on)
def mask (A : List Nat) : List Nat → Nat
  | [] => 0
  | d :: ds => 2 ^ d ||| (A.getD d 0 ||| mask A ds)
theorem mask_bit {A : List Nat} {j : Nat} : ∀ {ds : List Nat}, (mask A ds).testBit j = true → ∃ d ∈ ds, j = d ∨ (A.getD d 0).testBit j = true
  | [], h => by simp [mask] at h
  | d :: ds, h => by
    simp only [mask, Nat.testBit_or, Bool.or_eq_true, Nat.testBit_two_pow, decide_eq_true_eq] at h
    rcases h with h | h | h
    · exact ⟨d, by simp, .inl h.symm⟩
    · exact ⟨d, by simp, .inr h⟩
    · obtain ⟨e, he, h⟩ := mask_bit h; exact ⟨e, by simp [he], h⟩
theorem mask_dir {A : List Nat} {d : Nat} : ∀ {ds : List Nat}, d ∈ ds → (mask A ds).testBit d = true
  | [], h => by simp at h
  | e :: ds, h => by
    simp only [mask, Nat.testBit_or, Bool.or_eq_true, Nat.testBit_two_pow, decide_eq_true_eq]
    rcases List.mem_cons.1 h with rfl | h
    · exact .inl rfl
    · exact .inr (.inr (mask_dir h))
/-- The table is right: of each operation those that stand ahead of it, all of them earlier in the text. -/
def ancOk (A : List Nat) : Nat → List Oper → Bool
  | _, [] => true
  | i, o :: os => Nat.beq (A.getD i 0) (mask A (dirs o)) && ((dirs o).all fun d => Nat.blt d i) && ancOk A (i + 1) os
theorem ancOk_at {A : List Nat} : ∀ {os : List Oper} {i : Nat}, ancOk A i os = true → ∀ k o, os[k]? = some o → A.getD (i + k) 0 = mask A (dirs o) ∧ ∀ d ∈ dirs o, d < i + k
  | [], _, _, k, o, h => by simp at h
  | o :: os, i, h, k, o', ho => by
    simp only [ancOk, Bool.and_eq_true] at h
    cases k with
    | zero =>
      simp at ho; subst ho
      exact ⟨Nat.eq_of_beq_eq_true h.1.1, fun d hd => blt_lt (List.all_eq_true.1 h.1.2 d hd)⟩
    | succ k =>
      have := ancOk_at h.2 k o' (by simpa using ho)
      rwa [show i + (k + 1) = i + 1 + k by omega]
/-- The slots that an operation reads. -/
def reads (ops : Array Oper) (o : Oper) : List Nat := slots o.op ++ (match o.guard with | some (j, _) => (dstOf ops j).toList | none => [])
/-- The order that is walked: each operation once, behind what stands ahead of it; what only reads: behind no change that doesn't stand ahead of it. -/
def ordOk (P : Program) (A : List Nat) (ops : Array Oper) : List Nat → List Nat → List Nat → Bool
  | [], _, _ => true
  | i :: T, done, effs => (match ops.toList[i]? with
    | some o => ((dirs o).all fun d => done.any (Nat.beq d)) && (!quietB P o || (match effs with | [] => true | e :: _ => (A.getD i 0).testBit e)) && !(done.any (Nat.beq i)) &&
      ordOk P A ops T (i :: done) (match quietB P o with | true => effs | false => i :: effs)
    | none => false)
/-- Each slot is written once, and read behind or ahead of that. -/
def slotOk (A : List Nat) (ops : Array Oper) : Nat → List Oper → Bool
  | _, [] => true
  | j, o :: os => (match o.dst with
    | some t => slotAt A ops j t 0 ops.toList
    | none => true) && slotOk A ops (j + 1) os
where
  slotAt (A : List Nat) (ops : Array Oper) (j t : Nat) : Nat → List Oper → Bool
    | _, [] => true
    | i, p :: ps => (match Nat.beq i j with
      | true => true
      | false => (match (reads ops p).any (Nat.beq t) with
        | true => (A.getD i 0).testBit j || (A.getD j 0).testBit i
        | false => true) && (match p.dst with
        | some s => !Nat.beq s t
        | none => true)) && slotAt A ops j t (i + 1) ps
def effB (P : Program) (ops : Array Oper) (i : Nat) : Bool := match ops.toList[i]? with
  | some o => !quietB P o
  | none => false
def heads (e : Nat) : List (List Nat) → List (List Nat)
  | [] => []
  | [] :: r => heads e r
  | (x :: L) :: r => match Nat.beq x e with
    | true => L :: heads e r
    | false => heads e r
/-- In whatever order the changes come: it is one of these. -/
def cov (A E : List Nat) : Nat → List Nat → List (List Nat) → Bool
  | 0, _, _ => false
  | f + 1, done, Ls => match E.filter fun e => !(done.any (Nat.beq e)) with
    | [] => Ls.any (·.isEmpty)
    | rem => rem.all fun e => !(E.all fun d => !((A.getD e 0).testBit d) || done.any (Nat.beq d)) || cov A E f (e :: done) (heads e Ls)
def drawOk (P : Program) (ops : Array Oper) (A : List Nat) (Ts : List (List Nat)) : Bool :=
  ancOk A 0 ops.toList && (Ts.all fun T => ordOk P A ops T [] [] && Nat.beq T.length ops.size) && slotOk A ops 0 ops.toList &&
    cov A ((List.range ops.size).filter (effB P ops)) (ops.size + 1) [] (Ts.map fun T => T.filter (effB P ops))

/-! ### the formula -/
abbrev Obs := List (Nat × (Heap → Prop))
def addOb (i : Nat) (c : Option (Heap → Prop)) (ob : Obs) : Obs := match c with
  | some f => ob ++ [(i, f)]
  | none => ob
def allOb (m : Nat) (h : Heap) : Obs → Prop → Prop
  | [], K => K
  | (i, f) :: r, K => match m.testBit i with
    | true => allOb m h r K
    | false => f h ∧ allOb m h r K
def dGuard (ops : Array Oper) (o : Oper) (env : Env) (run skip : Env → Prop) : Prop :=
  match o.guard with
  | none => run env
  | some (j, want) => on (dstOf ops j) fun t => on (lk env t) fun v => vGuard v (fun b =>
    brr b (match want with
      | true => run ((t, .bool true) :: env)
      | false => skip ((t, .bool true) :: env))
    (match want with
      | true => skip ((t, .bool false) :: env)
      | false => run ((t, .bool false) :: env)))
    (skip env)
def dDraw (P : Program) (Φ : Fns) (n : Nat) (ops : Array Oper) (A : List Nat) : List Nat → Env → Heap → Obs → (Env → Heap → Prop) → Prop
  | [], env, h, _, K => K env h
  | i :: T, env, h, ob, K => on ops.toList[i]? fun o => chk (dstOk n o.dst) (
    match quietB P o with
    | true => dGuard ops o env (fun env => dQ P o env h fun v => dDraw P Φ n ops A T (putE o.dst v env) h (addOb i (obOf o env h v) ob) K)
      fun env => dDraw P Φ n ops A T (putE o.dst undef env) h ob K
    | false => dGuard ops o env (fun env => dE P Φ o env h fun v h' => allOb (A.getD i 0) h' ob (dDraw P Φ n ops A T (putE o.dst v env) h' ob K))
      fun env => dDraw P Φ n ops A T (putE o.dst undef env) h ob K)

/-- Each of the orders that are walked. -/
def dDraws (P : Program) (Φ : Fns) (n : Nat) (ops : Array Oper) (A : List Nat) : List (List Nat) → Env → Heap → (Env → Heap → Prop) → Prop
  | [], _, _, _ => True
  | [T], env, h, K => dDraw P Φ n ops A T env h [] K
  | T :: Ts, env, h, K => dDraw P Φ n ops A T env h [] K ∧ dDraws P Φ n ops A Ts env h K
theorem dDraws_mem {P : Program} {Φ : Fns} {n : Nat} {ops : Array Oper} {A : List Nat} {env : Env} {h : Heap} {K : Env → Heap → Prop} {T : List Nat} : ∀ {Ts : List (List Nat)}, dDraws P Φ n ops A Ts env h K → T ∈ Ts → dDraw P Φ n ops A T env h [] K
  | [], _, hm => by simp at hm
  | [U], hh, hm => by simp at hm; subst hm; exact hh
  | U :: V :: Ts, hh, hm => by
    rcases List.mem_cons.1 hm with rfl | hm
    · exact hh.1
    · exact dDraws_mem (Ts := V :: Ts) hh.2 hm

/-! ### and that it holds for every order -/
theorem allOb_sound {m : Nat} {h : Heap} : ∀ {ob : Obs} {K : Prop}, allOb m h ob K → K ∧ ∀ i f, (i, f) ∈ ob → m.testBit i = false → f h
  | [], K, hh => ⟨hh, fun i f hm => by simp at hm⟩
  | (i, f) :: r, K, hh => by
    simp only [allOb] at hh
    split at hh
    · rename_i hb
      obtain ⟨h1, h2⟩ := allOb_sound hh
      refine ⟨h1, fun i' f' hm hf => ?_⟩
      rcases List.mem_cons.1 hm with e | hm
      · cases e; rw [hb] at hf; cases hf
      · exact h2 i' f' hm hf
    · obtain ⟨h1, h2⟩ := allOb_sound hh.2
      refine ⟨h1, fun i' f' hm hf => ?_⟩
      rcases List.mem_cons.1 hm with e | hm
      · cases e; exact hh.1
      · exact h2 i' f' hm hf
theorem dGuard_sound {P : Program} {ops : Array Oper} {o : Oper} {env : Env} {run skip : Env → Prop} (h : dGuard ops o env run skip) :
    ∃ env', (∀ t u, lk env' t = some u ↔ lk env t = some u) ∧
      ((run env' ∧ ∀ a : Act, AgrOn (· ∈ reads ops o) env a → Region.wanted o (yielded ops a.tmps) = true) ∨
       (skip env' ∧ ∀ a : Act, AgrOn (· ∈ reads ops o) env a → Region.wanted o (yielded ops a.tmps) = false)) := by
  unfold dGuard at h
  split at h
  · rename_i hg
    exact ⟨env, fun _ _ => Iff.rfl, .inl ⟨h, fun a _ => wanted_none hg⟩⟩
  · rename_i j want hg
    replace h := on_sound h; obtain ⟨t, ht, h⟩ := h
    replace h := on_sound h; obtain ⟨v, hv, h⟩ := h
    have hr : t ∈ reads ops o := by unfold reads; rw [hg]; simp [ht]
    rcases vGuard_sound h with ⟨b, rfl, h⟩ | ⟨⟨vs, rfl⟩, h⟩
    · have hl : ∀ s u, lk ((t, Value.bool b) :: env) s = some u ↔ lk env s = some u := by
        intro s u
        rw [lk_cons]
        by_cases e : t = s
        · subst e; rw [if_pos rfl, hv]
        · rw [if_neg e]
      rcases brr_sound h with ⟨rfl, h⟩ | ⟨rfl, h⟩
      · cases want with
        | true => exact ⟨_, hl, .inl ⟨h, fun a ha => by rw [wanted_some hg ht (ha t hr _ hv)]; rfl⟩⟩
        | false => exact ⟨_, hl, .inr ⟨h, fun a ha => by rw [wanted_some hg ht (ha t hr _ hv)]; rfl⟩⟩
      · cases want with
        | true => exact ⟨_, hl, .inr ⟨h, fun a ha => by rw [wanted_some hg ht (ha t hr _ hv)]; rfl⟩⟩
        | false => exact ⟨_, hl, .inl ⟨h, fun a ha => by rw [wanted_some hg ht (ha t hr _ hv)]; rfl⟩⟩
    · exact ⟨env, fun _ _ => Iff.rfl, .inr ⟨h, fun a ha => wanted_undef hg ht (ha t hr _ hv)⟩⟩

section
variable {P : Program} {Φ : Fns} {n : Nat} {ops : Array Oper} {A T : List Nat} {K : Env → Heap → Prop} {ai : Act} {wi : World} {Q : Exit → Act → World → Prop}

def EnvOk (ops : Array Oper) (ai : Act) (U : List Nat) (pv : Nat → Value) (env : Env) : Prop :=
  ∀ t u, lk env t = some u → (∀ j ∈ U, dstOf ops j = some t → u = pv j) ∧ ((∀ j ∈ U, dstOf ops j ≠ some t) → ai.tmps[t]? = some u)
/-- An operation that was walked and changes nothing: run now, wherever, it gives what was told of it. -/
def Does (P : Program) (ops : Array Oper) (o : Oper) (env : Env) (v : Value) (h : Heap) (ob : Obs) (i : Nat) : Prop :=
  ∃ c : Option (Heap → Prop), (∀ f, c = some f → (i, f) ∈ ob) ∧ obHolds c h ∧
    ∀ (a : Act) (w : World) (next : Act → World → Prop) (Q : Exit → Act → World → Prop), AgrOn (· ∈ reads ops o) env a → obHolds c w.heap → next (a.put o.dst v) w → wpOp P ops Q i next a w
def Pend (P : Program) (ops : Array Oper) (ai : Act) (U : List Nat) (pv : Nat → Value) (h : Heap) (ob : Obs) (i : Nat) : Prop :=
  ∃ U1 U2 o env, U = U1 ++ i :: U2 ∧ ops[i]? = some o ∧ EnvOk ops ai U1 pv env ∧ Does P ops o env (pv i) h ob i
def quietAt (P : Program) (ops : Array Oper) (i : Nat) : Prop := ∃ o, ops[i]? = some o ∧ quietB P o = true
def effAt (P : Program) (ops : Array Oper) (i : Nat) : Prop := ∃ o, ops[i]? = some o ∧ quietB P o = false

theorem EnvOk.congr {U : List Nat} {pv : Nat → Value} {env env' : Env} (h : EnvOk ops ai U pv env) (he : ∀ t u, lk env' t = some u ↔ lk env t = some u) : EnvOk ops ai U pv env' :=
  fun t u hu => h t u ((he t u).1 hu)
theorem EnvOk.pv {U : List Nat} {pv pv' : Nat → Value} {env : Env} (h : EnvOk ops ai U pv env) (he : ∀ j ∈ U, pv' j = pv j) : EnvOk ops ai U pv' env :=
  fun t u hu => ⟨fun j hj hd => ((h t u hu).1 j hj hd).trans (he j hj).symm, (h t u hu).2⟩
theorem EnvOk.put {U : List Nat} {pv : Nat → Value} {env : Env} {i : Nat} {o : Oper} {v : Value} (h : EnvOk ops ai U pv env) (ho : ops[i]? = some o) (hi : i ∉ U)
    (hd : ∀ j ∈ U, ∀ t, dstOf ops j = some t → dstOf ops i ≠ some t) : EnvOk ops ai (U ++ [i]) (fun j => if j = i then v else pv j) (putE o.dst v env) := by
  have hdi : dstOf ops i = o.dst := by unfold dstOf; rw [ho]; rfl
  intro t u hu
  cases hod : o.dst with
  | none =>
    rw [hod] at hu
    obtain ⟨h1, h2⟩ := h t u hu
    refine ⟨fun j hj hdj => ?_, fun hn => h2 fun j hj => hn j (by simp [hj])⟩
    rcases List.mem_append.1 hj with hj | hj
    · rw [show (fun k => if k = i then v else pv k) j = pv j from if_neg (fun e : j = i => hi (e ▸ hj))]; exact h1 j hj hdj
    · simp at hj; subst hj; rw [hdi, hod] at hdj; cases hdj
  | some d =>
    rw [hod] at hu
    simp only [putE, lk_cons] at hu
    by_cases e : d = t
    · subst e
      rw [if_pos rfl] at hu; simp at hu; subst hu
      refine ⟨fun j hj hdj => ?_, fun hn => (hn i (by simp) (by rw [hdi, hod])).elim⟩
      rcases List.mem_append.1 hj with hj | hj
      · exact (hd j hj _ hdj (by rw [hdi, hod])).elim
      · simp at hj; subst hj; exact (if_pos rfl).symm
    · rw [if_neg e] at hu
      obtain ⟨h1, h2⟩ := h t u hu
      refine ⟨fun j hj hdj => ?_, fun hn => h2 fun j hj => hn j (by simp [hj])⟩
      rcases List.mem_append.1 hj with hj | hj
      · rw [show (fun k => if k = i then v else pv k) j = pv j from if_neg (fun e : j = i => hi (e ▸ hj))]; exact h1 j hj hdj
      · simp at hj; subst hj; rw [hdi, hod] at hdj; simp at hdj; exact (e hdj).elim
theorem Pend.more {U : List Nat} {pv pv' : Nat → Value} {h h' : Heap} {ob ob' : Obs} {i : Nat} (hp : Pend P ops ai U pv h ob i) (x : List Nat) (hpv : ∀ j ∈ U, pv' j = pv j)
    (hob : ∀ f, (i, f) ∈ ob → (i, f) ∈ ob' ∧ (f h → f h')) : Pend P ops ai (U ++ x) pv' h' ob' i := by
  obtain ⟨U1, U2, o, env, rfl, ho, he, c, hc, hh, hr⟩ := hp
  refine ⟨U1, U2 ++ x, o, env, by simp, ho, he.pv fun j hj => hpv j (by simp [hj]), c, fun f e => (hob f (hc f e)).1, ?_, ?_⟩
  · cases c with
    | none => trivial
    | some f => exact (hob f (hc f rfl)).2 hh
  · rw [hpv i (by simp)]; exact hr
/-- The quiet operations that come next are walked at once. -/
theorem unfold_quiet (hd : ∀ i j t, dstOf ops i = some t → dstOf ops j = some t → i = j) : ∀ (T' U : List Nat) (env : Env) (pv : Nat → Value) (h : Heap) (ob : Obs) (S : Nat → Prop), (U ++ T').Nodup →
    dDraw P Φ n ops A T' env h ob K → EnvOk ops ai U pv env → (∀ i ∈ U, S i → Pend P ops ai U pv h ob i) →
    ∃ V T'' env' pv' ob', T' = V ++ T'' ∧ (∀ i ∈ V, quietAt P ops i) ∧ (T'' = [] ∨ ∃ e r, T'' = e :: r ∧ ¬ quietAt P ops e) ∧ dDraw P Φ n ops A T'' env' h ob' K ∧ EnvOk ops ai (U ++ V) pv' env' ∧
      (∀ j ∈ U, pv' j = pv j) ∧ (∀ i ∈ U, S i → Pend P ops ai (U ++ V) pv' h ob' i) ∧ (∀ i ∈ V, Pend P ops ai (U ++ V) pv' h ob' i) := by
  intro T'
  induction T' with
  | nil =>
    intro U env pv h ob S hnd hh he hp
    exact ⟨[], [], env, pv, ob, rfl, by simp, .inl rfl, hh, by simpa using he, fun _ _ => rfl, by simpa using hp, by simp⟩
  | cons i T' ih =>
    intro U env pv h ob S hnd hh he hp
    by_cases hq : quietAt P ops i
    · obtain ⟨o, ho, hq'⟩ := hq
      have hiU : i ∉ U := by
        intro hi
        exact (List.nodup_append.1 hnd).2.2 i hi i (by simp) rfl
      have hh2 := hh
      simp only [dDraw] at hh2
      replace hh2 := on_sound hh2; obtain ⟨o', ho', hh2⟩ := hh2
      have : o' = o := by rw [Array.getElem?_toList, ho] at ho'; simpa using ho'.symm
      subst this
      replace hh2 := chk_sound hh2; obtain ⟨hdk, hh2⟩ := hh2
      rw [hq'] at hh2
      simp only at hh2
      have hdU : ∀ j ∈ U, ∀ t, dstOf ops j = some t → dstOf ops i ≠ some t := fun j hj t h1 h2 => hiU ((hd j i t h1 h2) ▸ hj)
      -- what is known behind it
      have key : ∃ v env1 ob1, dDraw P Φ n ops A T' env1 h ob1 K ∧ EnvOk ops ai (U ++ [i]) (fun j => if j = i then v else pv j) env1 ∧ (∀ x, x ∈ ob → x ∈ ob1) ∧ Does P ops o' env v h ob1 i := by
        obtain ⟨env2, hl, ⟨hrun, hw⟩ | ⟨hskip, hw⟩⟩ := dGuard_sound (P := P) hh2
        · obtain ⟨v, hK, hC, hQ⟩ := dQ_sound hrun
          refine ⟨v, _, _, hK, (he.congr hl).put ho hiU hdU, ?_, obOf o' env2 h v, ?_, hC, ?_⟩
          · intro x hx; unfold addOb; split
            · simp [hx]
            · exact hx
          · intro f hf; rw [hf]; simp [addOb]
          · intro a w next Q ha hc hn
            unfold wpOp
            simp only [ho]
            rw [if_pos (hw a ha)]
            left
            unfold Oper.wp
            rw [hQ a w (fun t ht u hu => ha t (by unfold reads; simp [ht]) u ((hl t u).1 hu)) hc]
            exact hn
        · refine ⟨undef, _, ob, hskip, (he.congr hl).put ho hiU hdU, fun x hx => hx, none, (fun f hf => by cases hf), trivial, ?_⟩
          intro a w next Q ha hc hn
          unfold wpOp
          simp only [ho]
          rw [hw a ha]
          exact hn
      obtain ⟨v, env1, ob1, hd1, he1, hob1, hdoes⟩ := key
      have hpvU : ∀ j ∈ U, (fun j => if j = i then v else pv j) j = pv j := fun j hj => if_neg fun e : j = i => hiU (e ▸ hj)
      have hpi : Pend P ops ai (U ++ [i]) (fun j => if j = i then v else pv j) h ob1 i :=
        ⟨U, [], o', env, rfl, ho, he.pv hpvU, by simpa using hdoes⟩
      obtain ⟨V, T'', env', pv', ob', hT, hV, hT'', hdr, hee, hpv, hpU, hpV⟩ := ih (U ++ [i]) env1 _ h ob1 (fun j => S j ∨ j = i) (by simpa using hnd) hd1 he1 (by
        intro j hj hS
        rcases List.mem_append.1 hj with hj | hj
        · rcases hS with hS | rfl
          · exact (hp j hj hS).more [i] hpvU (fun f hf => ⟨hob1 _ hf, id⟩)
          · exact hpi
        · simp at hj; subst hj; exact hpi)
      refine ⟨i :: V, T'', env', pv', ob', by simp [hT], ?_, hT'', hdr, by simpa using hee, fun j hj => (hpv j (by simp [hj])).trans (hpvU j hj), ?_, ?_⟩
      · intro j hj
        rcases List.mem_cons.1 hj with rfl | hj
        · exact ⟨o', ho, hq'⟩
        · exact hV j hj
      · intro j hj hS
        have := hpU j (by simp [hj]) (.inl hS)
        simpa using this
      · intro j hj
        rcases List.mem_cons.1 hj with rfl | hj
        · have := hpU j (by simp) (.inr rfl); simpa using this
        · have := hpV j hj; simpa using this
    · exact ⟨[], i :: T', env, pv, ob, rfl, by simp, .inr ⟨i, T', rfl, hq⟩, hh, by simpa using he, fun _ _ => rfl, by simpa using hp, by simp⟩

/-! the facts that 'drawOk' gives -/
structure Good (P : Program) (ops : Array Oper) (A T : List Nat) : Prop where
  anc : ∀ i o, ops[i]? = some o → A.getD i 0 = mask A (dirs o) ∧ ∀ d ∈ dirs o, d < i
  nodup : T.Nodup
  mem : ∀ i, i ∈ T ↔ i < ops.size
  /-- what stands ahead of it is walked ahead of it -/
  ext : ∀ U i V, T = U ++ i :: V → ∀ o, ops[i]? = some o → ∀ d ∈ dirs o, d ∈ U
  /-- the last change that is walked ahead of what only reads stands ahead of it -/
  eff : ∀ U i V, T = U ++ i :: V → quietAt P ops i → ∀ e, (U.filter (effB P ops)).getLast? = some e → (A.getD i 0).testBit e = true
  dst : ∀ i j t, dstOf ops i = some t → dstOf ops j = some t → i = j
  rd : ∀ i o t j, ops[i]? = some o → t ∈ reads ops o → dstOf ops j = some t → j ≠ i → (A.getD i 0).testBit j = true ∨ (A.getD j 0).testBit i = true
theorem nodup_le : ∀ (N : Nat) (L : List Nat), L.Nodup → (∀ x ∈ L, x < N) → L.length ≤ N
  | 0, [], _, _ => by simp
  | 0, x :: _, _, h => by have := h x (by simp); omega
  | N + 1, L, hn, h => by
    by_cases hN : N ∈ L
    · have := nodup_le N (L.erase N) (hn.erase N) (fun x hx => by
        have hx' := (List.Nodup.mem_erase_iff hn).1 hx
        have := h x hx'.2
        omega)
      rw [List.length_erase_of_mem hN] at this
      omega
    · have := nodup_le N L hn (fun x hx => by
        have := h x hx
        have : x ≠ N := fun e => hN (e ▸ hx)
        omega)
      omega
theorem nodup_all {N : Nat} {L : List Nat} (hn : L.Nodup) (h : ∀ x ∈ L, x < N) (hl : L.length = N) : ∀ i, i < N → i ∈ L := by
  intro i hi
  apply Classical.byContradiction
  intro hc
  have := nodup_le N (i :: L) (List.nodup_cons.2 ⟨hc, hn⟩) (fun x hx => by rcases List.mem_cons.1 hx with rfl | hx; exact hi; exact h x hx)
  simp at this; omega
theorem any_beq {L : List Nat} {d : Nat} : L.any (Nat.beq d) = true ↔ d ∈ L := by
  rw [List.any_eq_true]
  constructor
  · rintro ⟨x, hx, e⟩; have := Nat.eq_of_beq_eq_true e; subst this; exact hx
  · intro h; exact ⟨d, h, Nat.beq_refl d⟩
theorem effB_iff {i : Nat} : effB P ops i = true ↔ effAt P ops i := by
  unfold effB effAt
  rw [Array.getElem?_toList]
  cases h : ops[i]? with
  | none => simp
  | some o => simp
theorem ordOk_sound : ∀ (T U done effs : List Nat), ordOk P A ops T done effs = true → (∀ x, x ∈ U ↔ x ∈ done) → effs = (U.filter (effB P ops)).reverse → U.Nodup →
    (U ++ T).Nodup ∧ (∀ i ∈ T, i < ops.size) ∧ ∀ U1 i V, U ++ T = U1 ++ i :: V → U.length ≤ U1.length →
      (∀ o, ops[i]? = some o → ∀ d ∈ dirs o, d ∈ U1) ∧ (quietAt P ops i → ∀ e, (U1.filter (effB P ops)).getLast? = some e → (A.getD i 0).testBit e = true)
  | [], U, done, effs, _, hdn, hef, hnd => by
    refine ⟨by simpa using hnd, by simp, fun U1 i V e hl => ?_⟩
    have := congrArg List.length e
    simp at this; omega
  | i :: T, U, done, effs, h, hdn, hef, hnd => by
    simp only [ordOk] at h
    split at h
    · rename_i o ho
      rw [Array.getElem?_toList] at ho
      simp only [Bool.and_eq_true, Bool.not_eq_true'] at h
      obtain ⟨⟨⟨hdir, heff⟩, hnew⟩, hrest⟩ := h
      have hdir' : ∀ d ∈ dirs o, d ∈ U := fun d hd => (hdn d).2 (any_beq.1 (List.all_eq_true.1 hdir d hd))
      have heff' : quietAt P ops i → ∀ e, (U.filter (effB P ops)).getLast? = some e → (A.getD i 0).testBit e = true := by
        rintro ⟨oq, hoq, hqq⟩ e he
        rw [ho] at hoq; simp at hoq; subst hoq
        rw [hqq] at heff
        simp only [Bool.not_true, Bool.false_or] at heff
        have hh : effs.head? = some e := by rw [hef, List.head?_reverse]; exact he
        cases effs with
        | nil => simp at hh
        | cons x r => simp at hh; subst hh; exact heff
      have hiU : i ∉ U := fun hi => by have := any_beq.2 ((hdn i).1 hi); rw [hnew] at this; cases this
      have hnd' : (U ++ [i]).Nodup := by
        rw [List.nodup_append]
        exact ⟨hnd, by simp, fun a ha b hb e => by simp at hb; subst hb; subst e; exact hiU ha⟩
      obtain ⟨h1, h2, h3⟩ := ordOk_sound T (U ++ [i]) (i :: done) _ hrest (by intro x; simp [hdn x]; exact or_comm) (by
        rw [List.filter_append, List.reverse_append]
        cases hq : quietB P o with
        | true =>
          have : effB P ops i = false := by
            rw [← Bool.not_eq_true, effB_iff]
            rintro ⟨o', ho', hq'⟩
            rw [ho] at ho'; simp at ho'; subst ho'; rw [hq] at hq'; cases hq'
          simp [List.filter_cons_of_neg, this, hef]
        | false =>
          have : effB P ops i = true := effB_iff.2 ⟨o, ho, hq⟩
          simp [List.filter_cons_of_pos, this, hef]) hnd'
      refine ⟨by simpa using h1, ?_, ?_⟩
      · intro j hj
        rcases List.mem_cons.1 hj with rfl | hj
        · exact (Array.getElem?_eq_some_iff.1 ho).1
        · exact h2 j hj
      · intro U1 i' V e hl
        by_cases hl' : U1.length = U.length
        · have : U1 = U ∧ i' :: V = i :: T := by
            have := List.append_inj e hl'.symm
            exact ⟨this.1.symm, this.2.symm⟩
          obtain ⟨rfl, e2⟩ := this
          simp at e2; obtain ⟨rfl, rfl⟩ := e2
          exact ⟨fun o' ho' d hd => by rw [ho] at ho'; simp at ho'; subst ho'; exact hdir' d hd, heff'⟩
        · exact h3 U1 i' V (by simpa using e) (by simp; omega)
    · simp at h
theorem slotAt_sound {j t : Nat} : ∀ (ps : List Oper) (i : Nat), slotOk.slotAt A ops j t i ps = true → ∀ k p, ps[k]? = some p → i + k ≠ j →
    (t ∈ reads ops p → (A.getD (i + k) 0).testBit j = true ∨ (A.getD j 0).testBit (i + k) = true) ∧ p.dst ≠ some t
  | [], _, _, k, p, h, _ => by simp at h
  | q :: ps, i, h, k, p, hp, hne => by
    simp only [slotOk.slotAt, Bool.and_eq_true] at h
    cases k with
    | zero =>
      simp at hp; subst hp
      have h1 := h.1
      have : Nat.beq i j = false := by rw [← Bool.not_eq_true, Nat.beq_eq]; simpa using hne
      simp only [this, Bool.and_eq_true] at h1
      refine ⟨fun ht => ?_, fun e => ?_⟩
      · have h2 := h1.1
        rw [any_beq.2 ht] at h2
        simpa using h2
      · have h2 := h1.2
        rw [e] at h2
        simp at h2
    | succ k =>
      have := slotAt_sound ps (i + 1) h.2 k p (by simpa using hp) (by omega)
      rwa [show i + (k + 1) = i + 1 + k by omega]
theorem slotOk_sound : ∀ (os : List Oper) (j : Nat), slotOk A ops j os = true → ∀ k o t, os[k]? = some o → o.dst = some t → slotOk.slotAt A ops (j + k) t 0 ops.toList = true
  | [], _, _, k, o, t, h, _ => by simp at h
  | q :: os, j, h, k, o, t, ho, hd => by
    simp only [slotOk, Bool.and_eq_true] at h
    cases k with
    | zero => simp at ho; subst ho; have := h.1; rw [hd] at this; exact this
    | succ k =>
      have := slotOk_sound os (j + 1) h.2 k o t (by simpa using ho) hd
      rwa [show j + (k + 1) = j + 1 + k by omega]
theorem dstOf_some {i t : Nat} (h : dstOf ops i = some t) : ∃ o, ops[i]? = some o ∧ o.dst = some t := by
  unfold dstOf at h
  cases ho : ops[i]? with
  | none => rw [ho] at h; cases h
  | some o => rw [ho] at h; exact ⟨o, rfl, h⟩
theorem drawOk_good {Ts : List (List Nat)} (h : drawOk P ops A Ts = true) (hT : T ∈ Ts) : Good P ops A T := by
  unfold drawOk at h
  simp only [Bool.and_eq_true] at h
  obtain ⟨⟨⟨ha, hTs⟩, hs⟩, _⟩ := h
  have hTT := List.all_eq_true.1 hTs T hT
  rw [Bool.and_eq_true] at hTT
  obtain ⟨ho, hl⟩ := hTT
  obtain ⟨h1, h2, h3⟩ := ordOk_sound T [] [] [] ho (by simp) (by simp) (by simp)
  have hlen := Nat.eq_of_beq_eq_true hl
  have hst : ∀ i j t, dstOf ops j = some t → ∀ p, ops[i]? = some p → i ≠ j → (t ∈ reads ops p → (A.getD i 0).testBit j = true ∨ (A.getD j 0).testBit i = true) ∧ p.dst ≠ some t := by
    intro i j t hj p hp hne
    obtain ⟨o, ho, hd⟩ := dstOf_some hj
    have := slotOk_sound ops.toList 0 hs j o t (by rw [Array.getElem?_toList]; exact ho) hd
    have := slotAt_sound ops.toList 0 this i p (by rw [Array.getElem?_toList]; exact hp) (by simpa using hne)
    simpa using this
  refine ⟨?_, by simpa using h1, ?_, ?_, ?_, ?_, ?_⟩
  · intro i o hi
    have := ancOk_at ha i o (by rw [Array.getElem?_toList]; exact hi)
    simpa using this
  · exact fun i => ⟨fun hi => h2 i hi, fun hi => nodup_all (by simpa using h1) h2 hlen i hi⟩
  · exact fun U i V e => (h3 U i V (by simpa using e) (by simp)).1
  · exact fun U i V e => (h3 U i V (by simpa using e) (by simp)).2
  · intro i j t hi hj
    apply Classical.byContradiction
    intro hne
    obtain ⟨o, ho, hd⟩ := dstOf_some hi
    exact (hst i j t hj o ho hne).2 hd
  · intro i o t j hi ht hj hne
    exact (hst i j t hj o hi (fun e => hne e.symm)).1 ht
theorem Good.up (g : Good P ops A T) (L : Nat → Prop) (hL : ∀ i, L i → ∀ o, ops[i]? = some o → ∀ d ∈ dirs o, L d) : ∀ i o, ops[i]? = some o → (∀ d ∈ dirs o, L d) → ∀ j, (A.getD i 0).testBit j = true → L j := by
  intro i
  induction i using Nat.strongRecOn with
  | _ i ih =>
    intro o ho hd j hj
    obtain ⟨he, hlt⟩ := g.anc i o ho
    rw [he] at hj
    obtain ⟨d, hdm, rfl | hb⟩ := mask_bit hj
    · exact hd _ hdm
    · have hdi := hlt d hdm
      have hs := (Array.getElem?_eq_some_iff.1 ho).1
      have hod : ops[d]? = some ops[d] := Array.getElem?_eq_getElem (by omega)
      exact ih d hdi _ hod (hL d (hd d hdm) _ hod) j hb
theorem Good.ahead (g : Good P ops A T) {U V : List Nat} {i : Nat} (e : T = U ++ i :: V) : ∀ j, (A.getD i 0).testBit j = true → j ∈ U := by
  intro j hj
  have hi := (g.mem i).1 (by rw [e]; simp)
  have ho : ops[i]? = some ops[i] := Array.getElem?_eq_getElem hi
  refine g.up (· ∈ U) ?_ i _ ho (fun d hd => g.ext U i V e _ ho d hd) j hj
  intro k hk o ho' d hd
  obtain ⟨U1, U2, rfl⟩ := List.append_of_mem hk
  have := g.ext U1 k (U2 ++ i :: V) (by rw [e]; simp) o ho' d hd
  simp [this]
/-! every order -/
def lst (l : Array Bool) (i : Nat) : Prop := l[i]? = some true
structure Inv (P : Program) (Φ : Fns) (n : Nat) (ops : Array Oper) (A T : List Nat) (K : Env → Heap → Prop) (ai : Act) (wi : World) (l : Array Bool) (a : Act) (w : World) : Prop where
  lsize : l.size = ops.size
  closed : ∀ i, lst l i → ∀ o, ops[i]? = some o → ∀ d ∈ dirs o, lst l d
  size : a.tmps.size = n
  def_ : a.defers = ai.defers
  off : ∀ t, (∀ j, dstOf ops j ≠ some t) → a.tmps[t]? = ai.tmps[t]?
  same : Same wi w
  ex : ∃ U T' env pv ob, T = U ++ T' ∧ (T' = [] ∨ ∃ e r, T' = e :: r ∧ ¬ quietAt P ops e) ∧ dDraw P Φ n ops A T' env w.heap ob K ∧ EnvOk ops ai U pv env ∧ (∀ i, lst l i → i ∈ U) ∧
    (∀ e ∈ U, ¬ quietAt P ops e → lst l e) ∧ (∀ i ∈ U, ¬ lst l i → Pend P ops ai U pv w.heap ob i) ∧
    ∀ j t, dstOf ops j = some t → (lst l j → a.tmps[t]? = some (pv j)) ∧ (¬ lst l j → a.tmps[t]? = ai.tmps[t]?)
theorem lst_set {l : Array Bool} {i j : Nat} (hi : i < l.size) : lst (l.setIfInBounds i true) j ↔ j = i ∨ lst l j := by
  unfold lst
  rw [Array.getElem?_setIfInBounds]
  by_cases e : i = j
  · subst e; rw [if_pos rfl, if_pos hi]; simp
  · rw [if_neg e]; constructor
    · exact .inr
    · rintro (h | h)
      · exact (e h.symm).elim
      · exact h
theorem ready_iff {l : Array Bool} (hl : l.size = ops.size) {i : Nat} : i ∈ Region.ready .any ops l ↔ i < ops.size ∧ ¬ lst l i ∧ ∀ o, ops[i]? = some o → ∀ d ∈ dirs o, lst l d := by
  unfold Region.ready
  rw [List.mem_filter, List.mem_range]
  constructor
  · rintro ⟨hi, h⟩
    rw [Bool.and_eq_true] at h
    refine ⟨hi, ?_, ?_⟩
    · intro hc
      unfold lst at hc
      have : l.getD i true = true := by simp [Array.getD_eq_getD_getElem?, hc]
      rw [this] at h; simp at h
    · intro o ho d hd
      have h2 := h.2
      rw [ho] at h2
      simp only [Option.map_some, Option.getD_some] at h2
      unfold dirs at hd
      obtain ⟨e, he, rfl⟩ := List.mem_map.1 hd
      obtain ⟨he1, he2⟩ := List.mem_filter.1 he
      rw [Array.all_eq_true_iff_forall_mem] at h2
      have := h2 e (by simpa using he1)
      rw [he2] at this
      simp only [Bool.not_true, Bool.false_or] at this
      unfold lst
      rw [Array.getD_eq_getD_getElem?] at this
      cases hx : l[e.on]? with
      | none => rw [hx] at this; simp at this
      | some b => rw [hx] at this; simp at this; rw [this]
  · rintro ⟨hi, hn, hd⟩
    refine ⟨hi, ?_⟩
    have ho : ops[i]? = some ops[i] := Array.getElem?_eq_getElem hi
    rw [Bool.and_eq_true]
    constructor
    · have hli : l[i]? = some l[i] := Array.getElem?_eq_getElem (by omega)
      rw [Array.getD_eq_getD_getElem?, hli]
      unfold lst at hn; rw [hli] at hn
      simpa using hn
    · rw [ho]
      simp only [Option.map_some, Option.getD_some]
      rw [Array.all_eq_true_iff_forall_mem]
      intro e he
      cases hb : Region.binds .any e with
      | false => rfl
      | true =>
        have := hd _ ho e.on (by unfold dirs; exact List.mem_map.2 ⟨e, List.mem_filter.2 ⟨by simpa using he, hb⟩, rfl⟩)
        unfold lst at this
        simp [Array.getD_eq_getD_getElem?, this]
/-- What stands at the slots that an operation reads, when it is ready. -/
theorem agrees (g : Good P ops A T) {l : Array Bool} {a : Act} {i : Nat} {o : Oper} {U1 U2 V : List Nat} {pv : Nat → Value} {env : Env} (ho : ops[i]? = some o) (e : T = U1 ++ i :: V)
    (hcl : ∀ i, lst l i → ∀ o, ops[i]? = some o → ∀ d ∈ dirs o, lst l d) (hil : ¬ lst l i) (hir : ∀ d ∈ dirs o, lst l d) (he : EnvOk ops ai U1 pv env)
    (hoff : ∀ t, (∀ j, dstOf ops j ≠ some t) → a.tmps[t]? = ai.tmps[t]?)
    (hf : ∀ j t, dstOf ops j = some t → (lst l j → a.tmps[t]? = some (pv j)) ∧ (¬ lst l j → a.tmps[t]? = ai.tmps[t]?)) : AgrOn (· ∈ reads ops o) env a := by
  intro t ht u hu
  obtain ⟨h1, h2⟩ := he t u hu
  have hnd : (U1 ++ i :: V).Nodup := e ▸ g.nodup
  have hiU : i ∉ U1 := fun hi => (List.nodup_append.1 hnd).2.2 i hi i (by simp) rfl
  by_cases hw : ∃ j, dstOf ops j = some t
  · obtain ⟨j, hj⟩ := hw
    by_cases hji : j = i
    · subst hji
      rw [(hf j t hj).2 hil]
      exact h2 fun k hk hd => hiU (g.dst _ _ _ hd hj ▸ hk)
    · rcases g.rd i o t j ho ht hj hji with hb | hb
      · have hjU := g.ahead e j hb
        have hjl : lst l j := g.up (lst l) hcl i o ho hir j hb
        rw [(hf j t hj).1 hjl, h1 j hjU hj]
      · have hjs : ∃ oj, ops[j]? = some oj := by obtain ⟨oj, h, _⟩ := dstOf_some hj; exact ⟨oj, h⟩
        obtain ⟨oj, hoj⟩ := hjs
        have hjl : ¬ lst l j := fun hjl => hil (g.up (lst l) hcl j oj hoj (hcl j hjl oj hoj) i hb)
        rw [(hf j t hj).2 hjl]
        refine h2 fun k hk hd => ?_
        have hkj := g.dst _ _ _ hd hj
        subst hkj
        obtain ⟨V1, V2, e2⟩ := List.append_of_mem hk
        have hi1 := g.ahead (U := V1) (V := V2 ++ i :: V) (i := k) (by rw [e, e2]; simp) i hb
        exact hiU (by rw [e2]; simp [hi1])
  · rw [hoff t fun j hj => hw ⟨j, hj⟩]
    exact h2 fun j _ hj => hw ⟨j, hj⟩
/-- One operation more. -/
theorem Inv.step (hΦ : Right P Φ) (g : Good P ops A T) (hdk : ∀ (i : Nat) (o : Oper), ops[i]? = some o → dstOk n o.dst = true) {l : Array Bool} {a : Act} {w : World} {i : Nat} (I : Inv P Φ n ops A T K ai wi l a w)
    (hr : i ∈ Region.ready .any ops l) (hord : effAt P ops i → ∀ U V, T = U ++ i :: V → ∀ e ∈ U, effAt P ops e → lst l e)
    (hpre : ∀ X e Y, T = X ++ e :: Y → effAt P ops e → lst l e → ∀ x ∈ X, effAt P ops x → lst l x) {next : Act → World → Prop} (hn : ∀ a' w', Inv P Φ n ops A T K ai wi (l.setIfInBounds i true) a' w' → next a' w') : wpOp P ops Q i next a w := by
  obtain ⟨hi, hil, hdir⟩ := (ready_iff I.lsize).1 hr
  have ho : ops[i]? = some ops[i] := Array.getElem?_eq_getElem hi
  generalize hoi : ops[i] = o at ho
  have hir := hdir o ho
  have hisz : i < l.size := by rw [I.lsize]; exact hi
  have hdo : dstOf ops i = o.dst := by unfold dstOf; rw [ho]; rfl
  have hclosed : ∀ j, lst (l.setIfInBounds i true) j → ∀ o, ops[j]? = some o → ∀ d ∈ dirs o, lst (l.setIfInBounds i true) d := by
    intro j hj oj hoj d hd
    rw [lst_set hisz] at hj ⊢
    rcases hj with rfl | hj
    · rw [ho] at hoj; simp at hoj; subst hoj; exact .inr (hir d hd)
    · exact .inr (I.closed j hj oj hoj d hd)
  have hoff' : ∀ v t, (∀ j, dstOf ops j ≠ some t) → (a.put o.dst v).tmps[t]? = ai.tmps[t]? := by
    intro v t ht
    cases hod : o.dst with
    | none => exact I.off t ht
    | some d =>
      have : d ≠ t := fun e => ht i (by rw [hdo, hod, e])
      simp only [Act.put, Array.getElem?_setIfInBounds, if_neg this]
      exact I.off t ht
  have hsz' : ∀ v, (a.put o.dst v).tmps.size = n := by intro v; cases o.dst <;> simp [Act.put, I.size]
  have hdf' : ∀ v, (a.put o.dst v).defers = ai.defers := by intro v; cases o.dst <;> exact I.def_
  obtain ⟨U, T', env, pv, ob, eT, hT', hD, hE, hlU, heU, hP, hF⟩ := I.ex
  -- the slots behind it
  have hslots : ∀ (pv' : Nat → Value) v, pv' i = v → (∀ j, lst l j → pv' j = pv j) → ∀ j t, dstOf ops j = some t →
      (lst (l.setIfInBounds i true) j → (a.put o.dst v).tmps[t]? = some (pv' j)) ∧ (¬ lst (l.setIfInBounds i true) j → (a.put o.dst v).tmps[t]? = ai.tmps[t]?) := by
    intro pv' v hv hpv j t hj
    rw [lst_set hisz]
    by_cases hji : j = i
    · subst hji
      rw [hdo] at hj
      refine ⟨fun _ => ?_, fun h => (h (.inl rfl)).elim⟩
      have hlt := hdk j o ho
      rw [hj] at hlt
      have hlt' := blt_lt hlt
      rw [hj]
      simp only [Act.put, Array.getElem?_setIfInBounds, if_true]
      rw [if_pos (by rw [I.size]; exact hlt'), hv]
    · have hne : o.dst ≠ some t := fun e => hji (g.dst j i t hj (by rw [hdo, e]))
      have hput : (a.put o.dst v).tmps[t]? = a.tmps[t]? := by
        cases hod : o.dst with
        | none => rfl
        | some d =>
          have : d ≠ t := fun e => hne (by rw [hod, e])
          simp only [Act.put, Array.getElem?_setIfInBounds, if_neg this]
      rw [hput]
      refine ⟨fun h => ?_, fun h => (hF j t hj).2 fun hjl => h (.inr hjl)⟩
      rcases h with h | h
      · exact (hji h).elim
      · rw [(hF j t hj).1 h, hpv j h]
  by_cases hiU : i ∈ U
  · -- it was walked already
    obtain ⟨U1, U2, o', env1, eU, ho', hE1, c, hc1, hc2, hc3⟩ := hP i hiU hil
    have : o' = o := by rw [ho] at ho'; simpa using ho'.symm
    subst this
    have hag := agrees (U2 := []) g ho (V := U2 ++ T') (by rw [eT, eU]; simp) I.closed hil hir hE1 I.off hF
    refine hc3 a w next Q hag hc2 (hn _ _ ?_)
    refine ⟨by simp [I.lsize], hclosed, hsz' _, hdf' _, hoff' _, I.same, U, T', env, pv, ob, eT, hT', hD, hE, ?_, ?_, ?_, hslots pv _ rfl (fun _ _ => rfl)⟩
    · intro j hj; rw [lst_set hisz] at hj; rcases hj with rfl | hj; exact hiU; exact hlU j hj
    · intro e he hq; rw [lst_set hisz]; exact .inr (heU e he hq)
    · intro j hj hnl; exact hP j hj fun h => hnl (by rw [lst_set hisz]; exact .inr h)
  · -- it is the next change
    have hiT : i ∈ T' := by
      have := (g.mem i).2 hi
      rw [eT] at this
      exact (List.mem_append.1 this).resolve_left hiU
    rcases hT' with rfl | ⟨e, r, rfl, hqe⟩
    · simp at hiT
    have hie : i = e := by
      rcases List.mem_cons.1 hiT with h | h
      · exact h
      · obtain ⟨V1, V2, eV⟩ := List.append_of_mem h
        have hes : e < ops.size := (g.mem e).1 (by rw [eT]; simp)
        have hoe : ops[e]? = some ops[e] := Array.getElem?_eq_getElem hes
        have hee : effAt P ops e := by
          refine ⟨_, hoe, ?_⟩
          cases hq : quietB P ops[e] with
          | false => rfl
          | true => exact (hqe ⟨_, hoe, hq⟩).elim
        have hel : lst l e := by
          have eT2 : T = (U ++ e :: V1) ++ i :: V2 := by rw [eT, eV]; simp
          cases hqi : quietB P o with
          | true =>
            have hne : ((U ++ e :: V1).filter (effB P ops)) ≠ [] := by
              intro h0
              have : e ∈ (U ++ e :: V1).filter (effB P ops) := List.mem_filter.2 ⟨by simp, effB_iff.2 hee⟩
              rw [h0] at this; simp at this
            obtain ⟨e', he'⟩ : ∃ e', ((U ++ e :: V1).filter (effB P ops)).getLast? = some e' := ⟨_, List.getLast?_eq_some_getLast hne⟩
            have hl' := g.up (lst l) I.closed i o ho hir e' (g.eff (U ++ e :: V1) i V2 eT2 ⟨o, ho, hqi⟩ e' he')
            have hsplit : (U ++ e :: V1).filter (effB P ops) = (U.filter (effB P ops) ++ [e]) ++ V1.filter (effB P ops) := by
              rw [List.filter_append, List.filter_cons_of_pos (effB_iff.2 hee)]; simp
            rw [hsplit, List.getLast?_append] at he'
            cases hV : (V1.filter (effB P ops)).getLast? with
            | none => rw [hV] at he'; simp at he'; subst he'; exact hl'
            | some x =>
              rw [hV] at he'; simp at he'; subst he'
              obtain ⟨hx1, hx2⟩ := List.mem_filter.1 (List.mem_of_getLast? hV)
              obtain ⟨b1, b2, rfl⟩ := List.append_of_mem hx1
              exact hpre (U ++ e :: b1) x (b2 ++ i :: V2) (by rw [eT2]; simp) (effB_iff.1 hx2) hl' e (by simp) hee
          | false => exact hord ⟨o, ho, hqi⟩ (U ++ e :: V1) V2 eT2 e (by simp) hee
        have : e ∈ U := hlU e hel
        have hnd := g.nodup
        rw [eT] at hnd
        exact ((List.nodup_append.1 hnd).2.2 e this e (by simp) rfl).elim
    subst hie
    have hag := agrees (U2 := []) g ho eT I.closed hil hir hE I.off hF
    have hD2 := hD
    simp only [dDraw] at hD2
    replace hD2 := on_sound hD2; obtain ⟨o', ho', hD2⟩ := hD2
    have : o' = o := by rw [Array.getElem?_toList, ho] at ho'; simpa using ho'.symm
    subst this
    replace hD2 := chk_sound hD2; obtain ⟨hdk', hD2⟩ := hD2
    have hqf : quietB P o' = false := by
      cases hq : quietB P o' with
      | false => rfl
      | true => exact (hqe ⟨_, ho, hq⟩).elim
    rw [hqf] at hD2
    simp only at hD2
    have hnd : (U ++ i :: r).Nodup := eT ▸ g.nodup
    have hdU : ∀ j ∈ U, ∀ t, dstOf ops j = some t → dstOf ops i ≠ some t := fun j hj t h1 h2 => hiU ((g.dst j i t h1 h2) ▸ hj)
    -- go on behind it, with what was given
    have go : ∀ (v : Value) (env1 : Env) (w' : World), dDraw P Φ n ops A r env1 w'.heap ob K → EnvOk ops ai (U ++ [i]) (fun j => if j = i then v else pv j) env1 → Same w w' →
        (∀ j f, (j, f) ∈ ob → (A.getD i 0).testBit j = false → f w.heap → f w'.heap) → next (a.put o'.dst v) w' := by
      intro v env1 w' hd1 he1 hs hob
      have hpvU : ∀ j ∈ U, (fun j => if j = i then v else pv j) j = pv j := fun j hj => if_neg fun e : j = i => hiU (e ▸ hj)
      have hPi : ∀ j ∈ U ++ [i], (j ∈ U ∧ ¬ lst l j) → Pend P ops ai (U ++ [i]) (fun j => if j = i then v else pv j) w'.heap ob j := by
        intro j _ hj
        have hjb : (A.getD i 0).testBit j = false := by
          cases hb : (A.getD i 0).testBit j with
          | false => rfl
          | true => exact (hj.2 (g.up (lst l) I.closed i o' ho hir j hb)).elim
        exact (hP j hj.1 hj.2).more [i] hpvU fun f hf => ⟨hf, hob j f hf hjb⟩
      obtain ⟨V, T'', env', pv', ob', hT, hV, hT'', hdr, hee, hpv, hpU, hpV⟩ := unfold_quiet (ai := ai) g.dst r (U ++ [i]) env1 _ w'.heap ob (fun j => j ∈ U ∧ ¬ lst l j) (by simpa using hnd) hd1 he1 hPi
      refine hn _ _ ⟨by simp [I.lsize], hclosed, hsz' _, hdf' _, hoff' _, I.same.trans hs, U ++ [i] ++ V, T'', env', pv', ob', by rw [eT, hT]; simp, hT'', hdr, hee, ?_, ?_, ?_, hslots pv' v ?_ ?_⟩
      · intro j hj
        rw [lst_set hisz] at hj
        rcases hj with rfl | hj
        · simp
        · simp [hlU j hj]
      · intro j hj hq
        rw [lst_set hisz]
        rcases List.mem_append.1 hj with hj | hj
        · rcases List.mem_append.1 hj with hj | hj
          · exact .inr (heU j hj hq)
          · simp at hj; exact .inl hj
        · exact (hq (hV j hj)).elim
      · intro j hj hnl
        rw [lst_set hisz] at hnl
        rcases List.mem_append.1 hj with hj | hj
        · rcases List.mem_append.1 hj with hj' | hj'
          · exact hpU j hj ⟨hj', fun h => hnl (.inr h)⟩
          · simp at hj'; exact (hnl (.inl hj')).elim
        · exact hpV j hj
      · rw [hpv i (by simp)]; exact if_pos rfl
      · intro j hj
        have := hlU j hj
        rw [hpv j (by simp [this])]
        exact hpvU j this
    obtain ⟨env2, hl, ⟨hrun, hw⟩ | ⟨hskip, hw⟩⟩ := dGuard_sound (P := P) hD2
    · unfold wpOp
      simp only [ho]
      rw [if_pos (hw a hag)]
      left
      refine dE_sound hΦ hrun (a := a) (fun t ht u hu => hag t (by unfold reads; simp [ht]) u ((hl t u).1 hu)) next Q fun v w' hK hs => ?_
      obtain ⟨hK, hobs⟩ := allOb_sound hK
      exact go v _ w' hK ((hE.congr hl).put ho hiU hdU) hs fun j f hf hb _ => hobs j f hf hb
    · unfold wpOp
      simp only [ho]
      rw [hw a hag]
      exact go undef _ w hskip ((hE.congr hl).put ho hiU hdU) (Same.refl _) fun j f hf hb h => h
/-- Nothing is left: all was walked. -/
theorem Inv.done (g : Good P ops A T) {l : Array Bool} {a : Act} {w : World} (I : Inv P Φ n ops A T K ai wi l a w) (hr : Region.ready .any ops l = []) : ∃ env, Agr env a ∧ K env w.heap := by
  have hpre : ∀ m U i V, U.length = m → T = U ++ i :: V → lst l i := by
    intro m
    induction m using Nat.strongRecOn with
    | _ m ih =>
      intro U i V hm e
      have hU : ∀ j ∈ U, lst l j := by
        intro j hj
        obtain ⟨A1, A2, rfl⟩ := List.append_of_mem hj
        exact ih A1.length (by rw [← hm]; simp) A1 j (A2 ++ i :: V) rfl (by rw [e]; simp)
      apply Classical.byContradiction
      intro hx
      have : i ∈ Region.ready .any ops l := (ready_iff I.lsize).2 ⟨(g.mem i).1 (by rw [e]; simp), hx, fun o ho d hd => hU d (g.ext U i V e o ho d hd)⟩
      rw [hr] at this; simp at this
  have hall : ∀ i ∈ T, lst l i := by
    intro i hi
    obtain ⟨A1, A2, e⟩ := List.append_of_mem hi
    exact hpre _ A1 i A2 rfl e
  obtain ⟨U, T', env, pv, ob, eT, hT', hD, hE, hlU, heU, hP, hF⟩ := I.ex
  have hT0 : T' = [] := by
    rcases hT' with h | ⟨e, r, rfl, _⟩
    · exact h
    · have hel := hall e (by rw [eT]; simp)
      have hnd := g.nodup
      rw [eT] at hnd
      exact ((List.nodup_append.1 hnd).2.2 e (hlU e hel) e (by simp) rfl).elim
  subst hT0
  refine ⟨env, fun t u hu => ?_, hD⟩
  obtain ⟨h1, h2⟩ := hE t u hu
  by_cases hw : ∃ j, dstOf ops j = some t
  · obtain ⟨j, hj⟩ := hw
    obtain ⟨oj, hoj, _⟩ := dstOf_some hj
    have hjT : j ∈ T := (g.mem j).2 (Array.getElem?_eq_some_iff.1 hoj).1
    have hjl := hall j hjT
    rw [(hF j t hj).1 hjl, h1 j (hlU j hjl) hj]
  · rw [I.off t fun j hj => hw ⟨j, hj⟩]
    exact h2 fun j _ hj => hw ⟨j, hj⟩
/-- An order that the machine may draw. -/
inductive Sched (ops : Array Oper) : Array Bool → List Nat → Prop where
  | nil {l : Array Bool} : Region.ready .any ops l = [] → Sched ops l []
  | cons {l : Array Bool} {i : Nat} {σ : List Nat} : i ∈ Region.ready .any ops l → Sched ops (l.setIfInBounds i true) σ → Sched ops l (i :: σ)
theorem sched_go : ∀ (fuel t : Nat) (l : Array Bool), l.size = ops.size → (∀ L : List Nat, L.Nodup → (∀ x ∈ L, x < ops.size ∧ ¬ lst l x) → L.length ≤ fuel) → Sched ops l (Region.linearise.go .any ops fuel t l [])
  | 0, t, l, hl, hf => by
    refine .nil ?_
    cases h : Region.ready .any ops l with
    | nil => rfl
    | cons x xs =>
      obtain ⟨h1, h2, _⟩ := (ready_iff (ops := ops) hl).1 (show x ∈ Region.ready .any ops l by rw [h]; simp)
      have := hf [x] (by simp) (fun y hy => by simp at hy; subst hy; exact ⟨h1, h2⟩)
      simp at this
  | fuel + 1, t, l, hl, hf => by
    simp only [Region.linearise.go]
    change Sched ops l (match (Region.ready .any ops l)[t % (Region.ready .any ops l).length]? with
      | some i => Region.linearise.go .any ops fuel (t / (Region.ready .any ops l).length) (l.setIfInBounds i true) [i]
      | none => [].reverse)
    cases hi : (Region.ready .any ops l)[t % (Region.ready .any ops l).length]? with
    | none =>
      refine .nil ?_
      cases hr : Region.ready .any ops l with
      | nil => rfl
      | cons x xs =>
        rw [hr] at hi
        have hlt : t % (x :: xs).length < (x :: xs).length := Nat.mod_lt _ (by simp)
        rw [List.getElem?_eq_getElem hlt] at hi
        cases hi
    | some i =>
      simp only []
      rw [linearise_go_acc, List.reverse_singleton, List.singleton_append]
      have him := List.mem_of_getElem? hi
      obtain ⟨h1, h2, _⟩ := (ready_iff (ops := ops) hl).1 him
      have hisz : i < l.size := by rw [hl]; exact h1
      refine .cons him (sched_go fuel _ _ (by simp [hl]) ?_)
      intro L hn hL
      have hiL : i ∉ L := fun h => (hL i h).2 (by rw [lst_set hisz]; exact .inl rfl)
      have := hf (i :: L) (List.nodup_cons.2 ⟨hiL, hn⟩) (fun x hx => by
        rcases List.mem_cons.1 hx with rfl | hx
        · exact ⟨h1, h2⟩
        · exact ⟨(hL x hx).1, fun h => (hL x hx).2 (by rw [lst_set hisz]; exact .inr h)⟩)
      simp at this; omega
theorem Sched.fresh : ∀ {σ : List Nat} {l : Array Bool}, Sched ops l σ → l.size = ops.size → σ.Nodup ∧ ∀ x ∈ σ, x < ops.size ∧ ¬ lst l x
  | [], _, _, _ => by simp
  | i :: σ, l, h, hl => by
    cases h with
    | cons hi hs =>
      obtain ⟨h1, h2, _⟩ := (ready_iff (ops := ops) hl).1 hi
      have hisz : i < l.size := by rw [hl]; exact h1
      obtain ⟨hn, hx⟩ := Sched.fresh hs (by simp [hl])
      have hiσ : i ∉ σ := fun h => (hx i h).2 (by rw [lst_set hisz]; exact .inl rfl)
      refine ⟨List.nodup_cons.2 ⟨hiσ, hn⟩, fun x hx' => ?_⟩
      rcases List.mem_cons.1 hx' with rfl | hx'
      · exact ⟨h1, h2⟩
      · exact ⟨(hx x hx').1, fun h => (hx x hx').2 (by rw [lst_set hisz]; exact .inr h)⟩
theorem heads_mem {e : Nat} {L : List Nat} : ∀ {Ls : List (List Nat)}, L ∈ heads e Ls → e :: L ∈ Ls
  | [], h => by simp [heads] at h
  | [] :: r, h => by simp only [heads] at h; exact List.mem_cons_of_mem _ (heads_mem h)
  | (x :: M) :: r, h => by
    simp only [heads] at h
    split at h
    · rename_i hb
      have := Nat.eq_of_beq_eq_true hb; subst this
      rcases List.mem_cons.1 h with rfl | h
      · simp
      · exact List.mem_cons_of_mem _ (heads_mem h)
    · exact List.mem_cons_of_mem _ (heads_mem h)
theorem cov_sound {E : List Nat} : ∀ (f : Nat) (ε done : List Nat) (Ls : List (List Nat)), cov A E f done Ls = true → (∀ e ∈ ε, e ∈ E ∧ e ∉ done) → (∀ e ∈ E, e ∈ done ∨ e ∈ ε) → ε.Nodup →
    (∀ ε1 e ε2, ε = ε1 ++ e :: ε2 → ∀ d ∈ E, (A.getD e 0).testBit d = true → d ∈ done ∨ d ∈ ε1) → ε ∈ Ls
  | 0, _, _, _, h, _, _, _, _ => by simp [cov] at h
  | f + 1, [], done, Ls, h, h1, h2, h3, h4 => by
    simp only [cov] at h
    have : (E.filter fun e => !(done.any (Nat.beq e))) = [] := by
      rw [List.filter_eq_nil_iff]
      intro e he
      rcases h2 e he with hd | hd
      · rw [any_beq.2 hd]; simp
      · simp at hd
    rw [this] at h
    simp only at h
    obtain ⟨L, hL, hLe⟩ := List.any_eq_true.1 h
    rw [List.isEmpty_iff] at hLe
    subst hLe; exact hL
  | f + 1, e :: ε, done, Ls, h, h1, h2, h3, h4 => by
    simp only [cov] at h
    have hem : e ∈ E.filter fun e => !(done.any (Nat.beq e)) := by
      rw [List.mem_filter]
      refine ⟨(h1 e (by simp)).1, ?_⟩
      rw [Bool.not_eq_true', ← Bool.not_eq_true, any_beq]
      exact (h1 e (by simp)).2
    split at h
    · rename_i hr; rw [hr] at hem; simp at hem
    · have := List.all_eq_true.1 h e hem
      rw [Bool.or_eq_true] at this
      rcases this with hb | hb
      · rw [Bool.not_eq_true', ← Bool.not_eq_true] at hb
        refine (hb ?_).elim
        rw [List.all_eq_true]
        intro d hd
        rw [Bool.or_eq_true]
        cases ht : (A.getD e 0).testBit d with
        | false => exact .inl rfl
        | true =>
          right
          rcases h4 [] e ε rfl d hd ht with hx | hx
          · exact any_beq.2 hx
          · simp at hx
      · have hn := List.nodup_cons.1 h3
        refine heads_mem (cov_sound f ε (e :: done) _ hb ?_ ?_ hn.2 ?_)
        · intro x hx
          refine ⟨(h1 x (by simp [hx])).1, ?_⟩
          intro hc
          rcases List.mem_cons.1 hc with rfl | hc
          · exact hn.1 hx
          · exact (h1 x (by simp [hx])).2 hc
        · intro x hx
          rcases h2 x hx with h | h
          · exact .inl (by simp [h])
          · rcases List.mem_cons.1 h with rfl | h
            · exact .inl (by simp)
            · exact .inr h
        · intro ε1 x ε2 ex d hd ht
          rcases h4 (e :: ε1) x ε2 (by rw [ex]; simp) d hd ht with h | h
          · exact .inl (by simp [h])
          · rcases List.mem_cons.1 h with rfl | h
            · exact .inl (by simp)
            · exact .inr h
theorem split_uniq {i : Nat} : ∀ {a b c d : List Nat}, a ++ i :: b = c ++ i :: d → i ∉ a → i ∉ c → a = c
  | [], b, [], d, _, _, _ => rfl
  | [], b, y :: c, d, h, _, h2 => by simp at h; exact (h2 (by simp [h.1])).elim
  | x :: a, b, [], d, h, h1, _ => by simp at h; exact (h1 (by simp [h.1])).elim
  | x :: a, b, y :: c, d, h, h1, h2 => by
    simp at h
    rw [h.1, split_uniq h.2 (fun hx => h1 (by simp [hx])) (fun hx => h2 (by simp [hx]))]
theorem anc_up (hanc : ∀ i o, ops[i]? = some o → A.getD i 0 = mask A (dirs o) ∧ ∀ d ∈ dirs o, d < i) (L : Nat → Prop) (hL : ∀ i, L i → ∀ o, ops[i]? = some o → ∀ d ∈ dirs o, L d) :
    ∀ i o, ops[i]? = some o → (∀ d ∈ dirs o, L d) → ∀ j, (A.getD i 0).testBit j = true → L j := by
  intro i
  induction i using Nat.strongRecOn with
  | _ i ih =>
    intro o ho hd j hj
    obtain ⟨he, hlt⟩ := hanc i o ho
    rw [he] at hj
    obtain ⟨d, hdm, rfl | hb⟩ := mask_bit hj
    · exact hd _ hdm
    · have hdi := hlt d hdm
      have hs := (Array.getElem?_eq_some_iff.1 ho).1
      have hod : ops[d]? = some ops[d] := Array.getElem?_eq_getElem (by omega)
      exact ih d hdi _ hod (hL d (hd d hdm) _ hod) j hb
theorem Sched.split : ∀ {σ1 : List Nat} {i : Nat} {σ2 : List Nat} {l : Array Bool}, Sched ops l (σ1 ++ i :: σ2) → l.size = ops.size → ∀ o, ops[i]? = some o → ∀ d ∈ dirs o, lst l d ∨ d ∈ σ1
  | [], i, σ2, l, h, hl, o, ho, d, hd => by
    cases h with
    | cons hi hs => exact .inl (((ready_iff (ops := ops) hl).1 hi).2.2 o ho d hd)
  | x :: σ1, i, σ2, l, h, hl, o, ho, d, hd => by
    cases h with
    | cons hx hs =>
      have hxs : x < l.size := by rw [hl]; exact ((ready_iff (ops := ops) hl).1 hx).1
      rcases Sched.split hs (by simp [hl]) o ho d hd with h | h
      · rw [lst_set hxs] at h
        rcases h with rfl | h
        · exact .inr (by simp)
        · exact .inl h
      · exact .inr (by simp [h])
theorem Sched.complete (hanc : ∀ i o, ops[i]? = some o → A.getD i 0 = mask A (dirs o) ∧ ∀ d ∈ dirs o, d < i) : ∀ {σ : List Nat} {l : Array Bool}, Sched ops l σ → l.size = ops.size → ∀ i, i < ops.size → lst l i ∨ i ∈ σ
  | [], l, h, hl, i, hi => by
    cases h with
    | nil hr =>
      left
      induction i using Nat.strongRecOn with
      | _ i ih =>
        apply Classical.byContradiction
        intro hx
        have : i ∈ Region.ready .any ops l := (ready_iff hl).2 ⟨hi, hx, fun o ho d hd => by
          have := (hanc i o ho).2 d hd
          exact ih d this (by omega)⟩
        rw [hr] at this; simp at this
  | x :: σ, l, h, hl, i, hi => by
    cases h with
    | cons hx hs =>
      have hxs : x < l.size := by rw [hl]; exact ((ready_iff (ops := ops) hl).1 hx).1
      rcases Sched.complete hanc hs (by simp [hl]) i hi with h | h
      · rw [lst_set hxs] at h
        rcases h with rfl | h
        · exact .inr (by simp)
        · exact .inl h
      · exact .inr (by simp [h])
theorem filter_split {p : Nat → Bool} : ∀ {σ ε1 ε2 : List Nat} {e : Nat}, σ.filter p = ε1 ++ e :: ε2 → ∃ σ1 σ2, σ = σ1 ++ e :: σ2 ∧ σ1.filter p = ε1
  | [], ε1, ε2, e, h => by cases ε1 <;> simp at h
  | x :: σ, ε1, ε2, e, h => by
    cases hp : p x with
    | false =>
      rw [List.filter_cons_of_neg (by simp [hp])] at h
      obtain ⟨σ1, σ2, h1, h2⟩ := filter_split h
      exact ⟨x :: σ1, σ2, by rw [h1]; rfl, by rw [List.filter_cons_of_neg (by simp [hp])]; exact h2⟩
    | true =>
      rw [List.filter_cons_of_pos hp] at h
      cases ε1 with
      | nil =>
        simp at h
        exact ⟨[], σ, by rw [h.1]; rfl, rfl⟩
      | cons y ε1 =>
        simp at h
        obtain ⟨σ1, σ2, h1, h2⟩ := filter_split h.2
        exact ⟨x :: σ1, σ2, by rw [h1]; rfl, by rw [List.filter_cons_of_pos hp, h2, h.1]⟩
theorem run_sched (hΦ : Right P Φ) (g : Good P ops A T) (hdk : ∀ (i : Nat) (o : Oper), ops[i]? = some o → dstOk n o.dst = true)
    (hQ : ∀ l a w, Inv P Φ n ops A T K ai wi l a w → ∀ env, Agr env a → K env w.heap → Q .normal a w) : ∀ (σ σ1 : List Nat) (l : Array Bool) (a : Act) (w : World), Sched ops l σ → Inv P Φ n ops A T K ai wi l a w →
    (∀ x, lst l x ↔ x ∈ σ1) → (σ1 ++ σ).Nodup → (σ1 ++ σ).filter (effB P ops) = T.filter (effB P ops) → wpOps P ops Q σ a w
  | [], σ1, l, a, w, hs, I, _, _, _ => by
    cases hs with
    | nil hr =>
      obtain ⟨env, ha, hK⟩ := I.done g hr
      exact hQ l a w I env ha hK
  | i :: σ, σ1, l, a, w, hs, I, h1, hnd, heq => by
    cases hs with
    | cons hi hs =>
      rw [wpOps_cons]
      obtain ⟨hlt, _, _⟩ := (ready_iff (ops := ops) I.lsize).1 hi
      have hisz : i < l.size := by rw [I.lsize]; exact hlt
      refine I.step hΦ g hdk hi ?_ ?_ fun a' w' I' => run_sched hΦ g hdk hQ σ (σ1 ++ [i]) _ a' w' hs I' ?_ (by simpa using hnd) (by simpa using heq)
      · intro hie U V eT e he hee
        have hif := effB_iff.2 hie
        rw [eT, List.filter_append, List.filter_append, List.filter_cons_of_pos hif, List.filter_cons_of_pos hif] at heq
        have hiU : i ∉ U := fun h => by
          have hn := g.nodup; rw [eT] at hn
          exact (List.nodup_append.1 hn).2.2 i h i (by simp) rfl
        have hi1 : i ∉ σ1 := fun h => (List.nodup_append.1 hnd).2.2 i h i (by simp) rfl
        have := split_uniq heq (fun h => hi1 (List.mem_filter.1 h).1) (fun h => hiU (List.mem_filter.1 h).1)
        have hes : e ∈ σ1.filter (effB P ops) := by rw [this]; exact List.mem_filter.2 ⟨he, effB_iff.2 hee⟩
        exact (h1 e).2 (List.mem_filter.1 hes).1
      · intro X e Y eT hee hle x hx hxe
        obtain ⟨s1, s2, rfl⟩ := List.append_of_mem ((h1 e).1 hle)
        have hef := effB_iff.2 hee
        have heq2 := heq
        rw [eT, List.append_assoc, List.cons_append, List.filter_append, List.filter_append, List.filter_cons_of_pos hef, List.filter_cons_of_pos hef] at heq2
        have heX : e ∉ X := fun h => by
          have hn := g.nodup; rw [eT] at hn
          exact (List.nodup_append.1 hn).2.2 e h e (by simp) rfl
        have he1 : e ∉ s1 := fun h => by
          rw [List.append_assoc] at hnd
          exact (List.nodup_append.1 hnd).2.2 e h e (by simp) rfl
        have := split_uniq heq2 (fun h => he1 (List.mem_filter.1 h).1) (fun h => heX (List.mem_filter.1 h).1)
        have hxs : x ∈ s1.filter (effB P ops) := by rw [this]; exact List.mem_filter.2 ⟨hx, effB_iff.2 hxe⟩
        exact (h1 x).2 (by simp [(List.mem_filter.1 hxs).1])
      · intro x
        rw [lst_set hisz, h1 x]
        simp [or_comm]
end
theorem dDraw_sound {P : Program} {Φ : Fns} (hΦ : Right P Φ) {n : Nat} {W : List Nat} {a0 a : Act} {w0 w : World} {ops : Array Oper} {A : List Nat} {Ts : List (List Nat)} {Q : Exit → Act → World → Prop} {id : Nat} {env : Env} {K : Env → Heap → Prop}
    (hm : P.follows .mixedOrders = true) (ho : drawOk P ops A Ts = true) (hW : ∀ d ∈ dsts ops.toList, d ∈ W) (hf : Fits n W a0 w0 env a w) (hdk : (ops.toList.all fun o => dstOk n o.dst) = true)
    (hh : dDraws P Φ n ops A Ts env w.heap K)
    (hn : ∀ env' a' w', Fits n W a0 w0 env' a' w' → K env' w'.heap → Q .normal a' w') : (Code.region id ops true).wp P Q a w := by
  have hdk' : ∀ (i : Nat) (o : Oper), ops[i]? = some o → dstOk n o.dst = true := fun i o hi => List.all_eq_true.1 hdk o (by rw [← Array.getElem?_toList] at hi; exact List.mem_of_getElem? hi)
  have hl0 : ∀ i, ¬ lst (Array.replicate ops.size false) i := by
    intro i h
    unfold lst at h
    rw [Array.getElem?_replicate] at h
    split at h <;> simp at h
  refine wp_region_draw fun t => ?_
  simp only [Region.schedule, hm, Bool.true_or, if_true]
  -- the order that was drawn
  have hs : Sched ops (Array.replicate ops.size false) (Region.linearise .any ops t) := by
    refine sched_go ops.size t _ (by simp) ?_
    intro L hnd hL
    exact nodup_le ops.size L hnd fun x hx => (hL x hx).1
  generalize hσ : Region.linearise .any ops t = σ at hs
  obtain ⟨hnd, hlt⟩ := hs.fresh (by simp)
  have ho2 := ho
  unfold drawOk at ho2
  simp only [Bool.and_eq_true] at ho2
  obtain ⟨⟨⟨ha, _⟩, _⟩, hc⟩ := ho2
  have hanc : ∀ i o, ops[i]? = some o → A.getD i 0 = mask A (dirs o) ∧ ∀ d ∈ dirs o, d < i := by
    intro i o hi
    have := ancOk_at ha i o (by rw [Array.getElem?_toList]; exact hi)
    simpa using this
  have hcomp := fun i hi => (hs.complete hanc (by simp) i hi).resolve_left (hl0 i)
  -- one of those that are walked makes its changes in the same order
  have hmem : σ.filter (effB P ops) ∈ Ts.map fun T => T.filter (effB P ops) := by
    refine cov_sound _ _ [] _ hc ?_ ?_ (hnd.filter _) ?_
    · intro e he
      obtain ⟨h1, h2⟩ := List.mem_filter.1 he
      exact ⟨List.mem_filter.2 ⟨List.mem_range.2 (hlt e h1).1, h2⟩, by simp⟩
    · intro e he
      obtain ⟨h1, h2⟩ := List.mem_filter.1 he
      exact .inr (List.mem_filter.2 ⟨hcomp e (List.mem_range.1 h1), h2⟩)
    · intro ε1 e ε2 hε d hd hb
      right
      obtain ⟨σ1, σ2, hσ2, hσ1⟩ := filter_split hε
      have hcl : ∀ k ∈ σ1, ∀ o, ops[k]? = some o → ∀ d ∈ dirs o, d ∈ σ1 := by
        intro k hk o ho d hd
        obtain ⟨b1, b2, rfl⟩ := List.append_of_mem hk
        have := (Sched.split (σ1 := b1) (i := k) (σ2 := b2 ++ e :: σ2) (by rw [hσ2] at hs; simpa using hs) (by simp) o ho d hd).resolve_left (hl0 d)
        simp [this]
      have hes : e < ops.size := (hlt e (by rw [hσ2]; simp)).1
      have hoe : ops[e]? = some ops[e] := Array.getElem?_eq_getElem hes
      have hed : ∀ d ∈ dirs ops[e], d ∈ σ1 := fun d hd => (Sched.split (by rw [← hσ2]; exact hs) (by simp) _ hoe d hd).resolve_left (hl0 d)
      have := anc_up hanc (· ∈ σ1) hcl e _ hoe hed d hb
      rw [← hσ1]
      exact List.mem_filter.2 ⟨this, (List.mem_filter.1 hd).2⟩
  obtain ⟨T, hT, hTe⟩ := List.mem_map.1 hmem
  have g := drawOk_good ho hT
  refine run_sched (K := K) (ai := a) (wi := w) hΦ g hdk' ?_ σ [] _ a _ hs ?_ (fun x => ⟨fun h => (hl0 x h).elim, fun h => by simp at h⟩) (by simpa using hnd) (by simpa using hTe.symm)
  · intro l a' w' I env' ha hK
    refine hn env' a' w' ⟨ha, I.size, I.def_.trans hf.def_, fun t ht => ?_, hf.same.trans I.same⟩ hK
    rw [I.off t fun j hj => ?_]
    · exact hf.off t ht
    · obtain ⟨o, ho, hd⟩ := dstOf_some hj
      exact ht (hW t (by unfold dsts; rw [List.mem_filterMap]; exact ⟨o, by rw [← Array.getElem?_toList] at ho; exact List.mem_of_getElem? ho, hd⟩))
  · obtain ⟨V, T'', env', pv', ob', hT, hV, hT'', hdr, hee, hpv, hpU, hpV⟩ := unfold_quiet (ai := a) g.dst T [] env (fun _ => undef) w.heap [] (fun _ => True) (by simpa using g.nodup) (dDraws_mem hh hT)
      (fun t u hu => ⟨fun j hj => by simp at hj, fun _ => hf.agr t u hu⟩) (fun i hi => by simp at hi)
    refine ⟨by simp, fun i hi => (hl0 i hi).elim, hf.size, rfl, fun _ _ => rfl, ⟨rfl, rfl, rfl⟩, V, T'', env', pv', ob', hT, hT'', hdr, by simpa using hee, fun i hi => (hl0 i hi).elim, fun e he hq => (hq (hV e he)).elim, ?_, ?_⟩
    · intro i hi _
      simpa using hpV i hi
    · exact fun j t hj => ⟨fun h => (hl0 j h).elim, fun _ => rfl⟩
end Go.Proofs.Ytompmkmbppcadaa.V
