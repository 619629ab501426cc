/-
  A VIEW OF THE MACHINE AS A PREDICATE TRANSFORMER OVER THE HEAP. Part 10: all the code of a function: 'den'.
-/
import Derived.Test.YtompmkmbppcadaaV9
import Derived.Laws.ByValue
namespace Go.Proofs.Ytompmkmbppcadaa.V
open Go Go.RowKit
set_option linter.unusedVariables false
set_option linter.unusedSimpArgs false

/-! ### joins and loops over typed slots -/
/-- The shape of a slot: one cell, or the cells of a struct or an array. -/
inductive Sh where
  | one (k : Kd)
  | agg (ks : List Kd)
abbrev Ls := List (Nat × Sh)
abbrev FnL : Ls → Type
  | [] => Heap → Prop
  | (_, .one k) :: L => k.T → FnL L
  | (_, .agg ks) :: L => Fn ks (FnL L)
def decsF {R : Type} : (ks : List Kd) → List Value → Fn ks R → (R → Prop) → Prop
  | [], [], J, K => K J
  | k :: ks, v :: vs, J, K => dec1 k v fun x => decsF ks vs (J x) K
  | _, _, _, _ => False
def lamF {R : Type} : (ks : List Kd) → (List Value → R) → Fn ks R
  | [], G => G []
  | k :: ks, G => fun x => lamF ks fun vs => G (k.enc x :: vs)
def exF {R : Type} : (ks : List Kd) → (Nat → Fn ks R) → ((Nat → R) → R) → Fn ks R
  | [], f, g => g f
  | _ :: ks, f, g => fun x => exF ks (fun n => f n x) g
def getH : (L : Ls) → Env → FnL L → Heap → Prop
  | [], _, J, h => J h
  | (i, .one k) :: L, env, J, h => on (lk env i) fun v => dec1 k v fun x => getH L env (J x) h
  | (i, .agg ks) :: L, env, J, h => on (lk env i) fun v => vAgg v fun cs => decsF ks cs.toList J fun J => getH L env J h
def bindL : (L : Ls) → (Env → Heap → Prop) → FnL L
  | [], K => fun h => K [] h
  | (i, .one k) :: L, K => fun x => bindL L fun e h => K ((i, k.enc x) :: e) h
  | (i, .agg ks) :: L, K => lamF ks fun vs => bindL L fun e h => K ((i, .agg vs.toArray) :: e) h
def botL : (L : Ls) → FnL L
  | [] => fun _ => False
  | (_, .one _) :: L => fun _ => botL L
  | (_, .agg ks) :: L => lamF ks fun _ => botL L
def exL : (L : Ls) → (Nat → FnL L) → FnL L
  | [], f => fun h => ∃ n, f n h
  | (_, .one _) :: L, f => fun x => exL L fun n => f n x
  | (_, .agg ks) :: L, f => exF ks f (exL L)
def wit (L : Ls) (B : FnL L → FnL L) : Nat → FnL L
  | 0 => botL L
  | n + 1 => B (wit L B n)
/-- A loop over typed slots: some number of rounds ends it. -/
def wl (L : Ls) (B : FnL L → FnL L) : FnL L := exL L (wit L B)
/-- Ways meet here: what follows stands once. -/
def jn (L : Ls) (rest : FnL L) (body : FnL L → Prop) : Prop := body rest
theorem dec1_enc {k : Kd} {x : k.T} {K : k.T → Prop} : dec1 k (k.enc x) K = K x := by cases k <;> simp [Kd.enc, dec1]
theorem decsF_lamF {R : Type} : ∀ {ks : List Kd} {vs : List Value} {G : List Value → R} {K : R → Prop}, decsF ks vs (lamF ks G) K → K (G vs)
  | [], [], _, _, h => h
  | [], _ :: _, _, _, h => h.elim
  | _ :: _, [], _, _, h => h.elim
  | k :: ks, v :: vs, G, K, h => by
    obtain ⟨x, rfl, h2⟩ := dec1_sound h
    exact decsF_lamF (ks := ks) (G := fun vs => G (k.enc x :: vs)) h2
theorem decsF_exF {R : Type} : ∀ {ks : List Kd} {vs : List Value} {f : Nat → Fn ks R} {g : (Nat → R) → R} {K : R → Prop}, decsF ks vs (exF ks f g) K →
    ∃ f' : Nat → R, K (g f') ∧ ∀ n (K' : R → Prop), K' (f' n) → decsF ks vs (f n) K'
  | [], [], f, g, K, h => ⟨f, h, fun n K' h' => h'⟩
  | [], _ :: _, _, _, _, h => h.elim
  | _ :: _, [], _, _, _, h => h.elim
  | k :: ks, v :: vs, f, g, K, h => by
    obtain ⟨x, rfl, h2⟩ := dec1_sound h
    obtain ⟨f', h3, h4⟩ := decsF_exF (ks := ks) (f := fun n => f n x) h2
    refine ⟨f', h3, fun n K' h' => ?_⟩
    show dec1 k (k.enc x) _
    rw [dec1_enc]
    exact h4 n K' h'
theorem getH_bind : ∀ {L : Ls} {env : Env} {K : Env → Heap → Prop} {h : Heap}, getH L env (bindL L K) h → ∃ e, K e h ∧ (∀ t u, lk e t = some u → lk env t = some u)
  | [], env, K, h, hh => ⟨[], hh, fun t u e => by simp [lk] at e⟩
  | (i, .one k) :: L, env, K, h, hh => by
    replace hh := on_sound hh; obtain ⟨v, hv, hh⟩ := hh
    replace hh := dec1_sound hh; obtain ⟨x, rfl, hh⟩ := hh
    obtain ⟨e, hK, he⟩ := getH_bind (L := L) (K := fun e h => K ((i, k.enc x) :: e) h) hh
    refine ⟨_, hK, fun t u hu => ?_⟩
    rw [lk_cons] at hu
    by_cases ei : i = t
    · subst ei; rw [if_pos rfl] at hu; simp at hu; subst hu; exact hv
    · rw [if_neg ei] at hu; exact he t u hu
  | (i, .agg ks) :: L, env, K, h, hh => by
    replace hh := on_sound hh; obtain ⟨v, hv, hh⟩ := hh
    replace hh := vAgg_sound hh; obtain ⟨cs, rfl, hh⟩ := hh
    replace hh := decsF_lamF (G := fun vs => bindL L fun e h => K ((i, .agg vs.toArray) :: e) h) hh
    obtain ⟨e, hK, he⟩ := getH_bind (L := L) (K := fun e h => K ((i, .agg cs.toList.toArray) :: e) h) hh
    refine ⟨_, hK, fun t u hu => ?_⟩
    rw [lk_cons] at hu
    by_cases ei : i = t
    · subst ei; rw [if_pos rfl] at hu; simp at hu; subst hu; exact hv
    · rw [if_neg ei] at hu; exact he t u hu
theorem getH_bot : ∀ {L : Ls} {env : Env} {h : Heap}, ¬ getH L env (botL L) h
  | [], env, h, hh => hh
  | (i, .one k) :: L, env, h, hh => by
    replace hh := on_sound hh; obtain ⟨v, hv, hh⟩ := hh
    replace hh := dec1_sound hh; obtain ⟨x, rfl, hh⟩ := hh
    exact getH_bot (L := L) hh
  | (i, .agg ks) :: L, env, h, hh => by
    replace hh := on_sound hh; obtain ⟨v, hv, hh⟩ := hh
    replace hh := vAgg_sound hh; obtain ⟨cs, rfl, hh⟩ := hh
    exact getH_bot (L := L) (decsF_lamF (G := fun _ => botL L) hh)
theorem getH_ex : ∀ {L : Ls} {env : Env} {f : Nat → FnL L} {h : Heap}, getH L env (exL L f) h → ∃ n, getH L env (f n) h
  | [], env, f, h, hh => hh
  | (i, .one k) :: L, env, f, h, hh => by
    replace hh := on_sound hh; obtain ⟨v, hv, hh⟩ := hh
    replace hh := dec1_sound hh; obtain ⟨x, rfl, hh⟩ := hh
    obtain ⟨n, hn⟩ := getH_ex (L := L) (f := fun n => f n x) hh
    refine ⟨n, ?_⟩
    show on (lk env i) _
    rw [hv]
    show dec1 k (k.enc x) _
    rw [dec1_enc]
    exact hn
  | (i, .agg ks) :: L, env, f, h, hh => by
    replace hh := on_sound hh; obtain ⟨v, hv, hh⟩ := hh
    replace hh := vAgg_sound hh; obtain ⟨cs, rfl, hh⟩ := hh
    obtain ⟨f', hK, hf⟩ := decsF_exF hh
    obtain ⟨n, hn⟩ := getH_ex (L := L) (f := f') hK
    refine ⟨n, ?_⟩
    show on (lk env i) _
    rw [hv]
    exact hf n _ hn

/-! ### code -/
structure Cont where
  kn : Env → Heap → Prop
  kx : Nat → Env → Heap → Prop
  kr : Env → Heap → Prop
inductive Plan where
  | s (p q : Plan)
  | r (M : List Nat)
  | rj (L : Ls) (M : List Nat)
  | d (A : List Nat) (Ts : List (List Nat)) (M : List Nat)
  | dj (A : List Nat) (Ts : List (List Nat)) (L : Ls) (M : List Nat)
  | c (p q : Plan)
  | cj (L : Ls) (M : List Nat) (p q : Plan)
  | b (p : Plan)
  | bj (L : Ls) (M : List Nat) (p : Plan)
  | l (L : Ls) (M : List Nat) (p : Plan)
  | z
/-- The slots that a piece of code writes. -/
def writes : Code → List Nat
  | .region _ ops _ => dsts ops.toList
  | .seq x y => writes x ++ writes y
  | .cond _ x y => writes x ++ writes y
  | .block _ x => writes x
  | .loop x => writes x
  | _ => []
def den (P : Program) (Φ : Fns) (n : Nat) : Plan → Code → Env → Heap → Cont → Prop
  | .s p q, c, env, h, κ => match c with
    | .seq x y => den P Φ n p x env h ⟨fun env h => den P Φ n q y env h κ, κ.kx, κ.kr⟩
    | _ => False
  | .r M, c, env, h, κ => match c with
    | .region _ ops false => dOps P Φ n ops ops.toList env h fun env h => forceE (restr M env) fun env => κ.kn env h
    | _ => False
  | .rj L M, c, env, h, κ => match c with
    | .region _ ops false => chk (disj M (dsts ops.toList)) (jn L (bindL L fun e h => κ.kn (e ++ restr M env) h) fun j =>
        dOps P Φ n ops ops.toList env h fun env h => getH L env j h)
    | _ => False
  | .d A T M, c, env, h, κ => match c with
    | .region _ ops true => chk (P.follows .mixedOrders && drawOk P ops A T && ops.toList.all fun o => dstOk n o.dst) (dDraws P Φ n ops A T env h fun env h => forceE (restr M env) fun env => κ.kn env h)
    | _ => False
  | .dj A T L M, c, env, h, κ => match c with
    | .region _ ops true => chk (P.follows .mixedOrders && drawOk P ops A T && (ops.toList.all fun o => dstOk n o.dst) && disj M (dsts ops.toList)) (jn L (bindL L fun e h => κ.kn (e ++ restr M env) h) fun j =>
        dDraws P Φ n ops A T env h fun env h => getH L env j h)
    | _ => False
  | .c p q, c, env, h, κ => match c with
    | .cond x t e => ev1 env x fun v => vBool v fun b => brr b (den P Φ n p t env h κ) (den P Φ n q e env h κ)
    | _ => False
  | .cj L M p q, c, env, h, κ => match c with
    | .cond x t e => chk (disj M (writes t ++ writes e)) (jn L (bindL L fun e h => κ.kn (e ++ restr M env) h) fun j =>
        ev1 env x fun v => vBool v fun b => brr b (den P Φ n p t env h ⟨fun env h => getH L env j h, κ.kx, κ.kr⟩) (den P Φ n q e env h ⟨fun env h => getH L env j h, κ.kx, κ.kr⟩))
    | _ => False
  | .b p, c, env, h, κ => match c with
    | .block id x => den P Φ n p x env h ⟨κ.kn, fun i env h => match Nat.beq i id with | true => κ.kn env h | false => κ.kx i env h, κ.kr⟩
    | _ => False
  | .bj L M p, c, env, h, κ => match c with
    | .block id x => chk (disj M (writes x)) (jn L (bindL L fun e h => κ.kn (e ++ restr M env) h) fun j =>
        den P Φ n p x env h ⟨fun env h => getH L env j h, fun i env h => match Nat.beq i id with | true => getH L env j h | false => κ.kx i env h, κ.kr⟩)
    | _ => False
  | .l L M p, c, env, h, κ => match c with
    | .loop x => chk (disj M (writes x)) (getH L env (wl L fun next => bindL L fun e h =>
        den P Φ n p x (e ++ restr M env) h ⟨fun env h => getH L env next h, κ.kx, κ.kr⟩) h)
    | _ => False
  | .z, c, env, h, κ => match c with
    | .skip => κ.kn env h
    | .exit id => κ.kx id env h
    | .ret => κ.kr env h
    | _ => False
def Lift (n : Nat) (W : List Nat) (a0 : Act) (w0 : World) (κ : Cont) : Exit → Act → World → Prop
  | .normal, a, w => ∃ env, Fits n W a0 w0 env a w ∧ κ.kn env w.heap
  | .exit id, a, w => ∃ env, Fits n W a0 w0 env a w ∧ κ.kx id env w.heap
  | .ret, a, w => ∃ env, Fits n W a0 w0 env a w ∧ κ.kr env w.heap
  | _, _, _ => False
theorem Fits.less {n : Nat} {W : List Nat} {a0 a : Act} {w0 w : World} {env env' : Env} (h : Fits n W a0 w0 env a w) (he : ∀ t u, lk env' t = some u → a.tmps[t]? = some u) : Fits n W a0 w0 env' a w :=
  ⟨he, h.size, h.def_, h.off, h.same⟩
theorem Fits.self {n : Nat} {W : List Nat} {a0 a : Act} {w0 w : World} {env : Env} (h : Fits n W a0 w0 env a w) (W' : List Nat) : Fits n W' a w env a w :=
  ⟨h.agr, h.size, rfl, fun _ _ => rfl, Same.refl _⟩
theorem Fits.comp {n : Nat} {W W' : List Nat} {a0 a a' : Act} {w0 w w' : World} {env env' : Env} (h : Fits n W a0 w0 env a w) (h' : Fits n W' a w env' a' w') (hs : ∀ t ∈ W', t ∈ W) :
    Fits n W a0 w0 env' a' w' :=
  ⟨h'.agr, h'.size, h'.def_.trans h.def_, fun t ht => (h'.off t fun e => ht (hs t e)).trans (h.off t ht), h.same.trans h'.same⟩
theorem lk_append (e r : Env) (t : Nat) : lk (e ++ r) t = match lk e t with | some v => some v | none => lk r t := by
  induction e with
  | nil => rfl
  | cons p e ih =>
    obtain ⟨i, v⟩ := p
    rw [List.cons_append, lk_cons, lk_cons]
    by_cases h : i = t
    · rw [if_pos h, if_pos h]
    · rw [if_neg h, if_neg h, ih]
/-- What is known where ways meet: the typed slots as they are now, the others as they were at the fork. -/
theorem Fits.join {n : Nat} {W W' : List Nat} {a0 a a' : Act} {w0 w w' : World} {env env' e : Env} {M : List Nat} (h : Fits n W a0 w0 env a w) (h' : Fits n W' a w env' a' w') (hs : ∀ t ∈ W', t ∈ W)
    (hM : disj M W' = true) (he : ∀ t u, lk e t = some u → lk env' t = some u) : Fits n W a0 w0 (e ++ restr M env) a' w' := by
  refine (h.comp h' hs).less fun t u hu => ?_
  rw [lk_append] at hu
  split at hu
  · rename_i v hv; simp at hu; subst hu; exact h'.agr _ _ (he _ _ hv)
  · obtain ⟨hm, hl⟩ := restr_lk hu
    rw [h'.off t (disj_sound hM t hm)]
    exact h.agr _ _ hl
theorem den_sound {P : Program} {Φ : Fns} (hΦ : Right P Φ) {n : Nat} : ∀ (p : Plan) (c : Code) (env : Env) (κ : Cont) (W : List Nat) (a0 a : Act) (w0 w : World),
    (∀ t ∈ writes c, t ∈ W) → Fits n W a0 w0 env a w → den P Φ n p c env w.heap κ → c.wp P (Lift n W a0 w0 κ) a w := by
  intro p
  induction p with
  | s p q ihp ihq =>
    intro c env κ W a0 a w0 w hW hf hh
    cases c <;> simp only [den] at hh
    rename_i x y
    simp only [writes, List.mem_append] at hW
    refine wp_seq (wp_mono (ihp x env _ W a0 a w0 w (fun t ht => hW t (.inl ht)) hf hh) ?_)
    intro e a' w' hL
    cases e with
    | normal => obtain ⟨env', hf', hK⟩ := hL; exact ihq y env' κ W a0 a' w0 w' (fun t ht => hW t (.inr ht)) hf' hK
    | exit id => exact hL
    | goto l => exact hL.elim
    | ret => exact hL
    | panic ch => exact hL.elim
    | outgrown => exact hL.elim
  | r M =>
    intro c env κ W a0 a w0 w hW hf hh
    cases c <;> simp only [den] at hh
    rename_i id ops dr
    cases dr <;> simp only at hh
    refine wp_region ?_
    rw [List.range_eq_range', ← Array.length_toList]
    refine dOps_sound hΦ (fun d hd => hW d hd) ops.toList [] env _ a w rfl hf hh fun env' a' w' hf' hK => ?_
    exact ⟨_, hf'.less fun t u hu => hf'.agr _ _ (restr_lk hu).2, forceE_sound hK⟩
  | rj L M =>
    intro c env κ W a0 a w0 w hW hf hh
    cases c <;> simp only [den] at hh
    rename_i id ops dr
    cases dr <;> simp only at hh
    replace hh := chk_sound hh; obtain ⟨hM, hh⟩ := hh
    refine wp_region ?_
    rw [List.range_eq_range', ← Array.length_toList]
    refine dOps_sound (W := dsts ops.toList) hΦ (fun d hd => hd) ops.toList [] env _ a w rfl (hf.self _) hh fun env' a' w' hf' hK => ?_
    obtain ⟨e, hK, he⟩ := getH_bind hK
    exact ⟨_, hf.join hf' (fun t ht => hW t ht) hM he, hK⟩
  | d A T M =>
    intro c env κ W a0 a w0 w hW hf hh
    cases c <;> simp only [den] at hh
    rename_i id ops dr
    cases dr <;> simp only at hh
    replace hh := chk_sound hh; obtain ⟨hc, hh⟩ := hh
    rw [Bool.and_eq_true, Bool.and_eq_true] at hc
    refine dDraw_sound hΦ hc.1.1 hc.1.2 (W := W) (fun d hd => hW d hd) hf hc.2 hh fun env' a' w' hf' hK => ?_
    exact ⟨_, hf'.less fun t u hu => hf'.agr _ _ (restr_lk hu).2, forceE_sound hK⟩
  | dj A T L M =>
    intro c env κ W a0 a w0 w hW hf hh
    cases c <;> simp only [den] at hh
    rename_i id ops dr
    cases dr <;> simp only at hh
    replace hh := chk_sound hh; obtain ⟨hc, hh⟩ := hh
    rw [Bool.and_eq_true, Bool.and_eq_true, Bool.and_eq_true] at hc
    refine dDraw_sound hΦ hc.1.1.1 hc.1.1.2 (W := dsts ops.toList) (fun d hd => hd) (hf.self _) hc.1.2 hh fun env' a' w' hf' hK => ?_
    obtain ⟨e, hK, he⟩ := getH_bind hK
    exact ⟨_, hf.join hf' (fun t ht => hW t ht) hc.2 he, hK⟩
  | c p q ihp ihq =>
    intro c env κ W a0 a w0 w hW hf hh
    cases c <;> simp only [den] at hh
    rename_i x t e
    simp only [writes, List.mem_append] at hW
    replace hh := ev1_sound hh; obtain ⟨v, hv, hh⟩ := hh
    replace hh := vBool_sound hh; obtain ⟨b, rfl, hh⟩ := hh
    have hx := ev_sound (S := fun _ => True) hv (fun _ _ => trivial) (hf.agr.on _)
    rcases brr_sound hh with ⟨rfl, hh⟩ | ⟨rfl, hh⟩
    · exact wp_cond_true hx (ihp t env κ W a0 a w0 w (fun t ht => hW t (.inl ht)) hf hh)
    · exact wp_cond_false hx (ihq e env κ W a0 a w0 w (fun t ht => hW t (.inr ht)) hf hh)
  | cj L M p q ihp ihq =>
    intro c env κ W a0 a w0 w hW hf hh
    cases c <;> simp only [den] at hh
    rename_i x t e
    simp only [writes] at hW
    replace hh := chk_sound hh; obtain ⟨hM, hh⟩ := hh
    unfold jn at hh
    replace hh := ev1_sound hh; obtain ⟨v, hv, hh⟩ := hh
    replace hh := vBool_sound hh; obtain ⟨b, rfl, hh⟩ := hh
    have hx := ev_sound (S := fun _ => True) hv (fun _ _ => trivial) (hf.agr.on _)
    have key : ∀ ex a' w', Lift n (writes t ++ writes e) a w ⟨fun env' h => getH L env' (bindL L fun e h => κ.kn (e ++ restr M env) h) h, κ.kx, κ.kr⟩ ex a' w' → Lift n W a0 w0 κ ex a' w' := by
      intro ex a' w' hL
      cases ex with
      | normal =>
        obtain ⟨env', hf', hK⟩ := hL
        obtain ⟨e, hK, he⟩ := getH_bind hK
        exact ⟨_, hf.join hf' (fun t ht => hW t ht) hM he, hK⟩
      | exit id => obtain ⟨env', hf', hK⟩ := hL; exact ⟨env', hf.comp hf' (fun t ht => hW t ht), hK⟩
      | goto l => exact hL.elim
      | ret => obtain ⟨env', hf', hK⟩ := hL; exact ⟨env', hf.comp hf' (fun t ht => hW t ht), hK⟩
      | panic ch => exact hL.elim
      | outgrown => exact hL.elim
    rcases brr_sound hh with ⟨rfl, hh⟩ | ⟨rfl, hh⟩
    · exact wp_cond_true hx (wp_mono (ihp t env _ _ a a w w (fun t ht => by simp [ht]) (hf.self _) hh) key)
    · exact wp_cond_false hx (wp_mono (ihq e env _ _ a a w w (fun t ht => by simp [ht]) (hf.self _) hh) key)
  | b p ih =>
    intro c env κ W a0 a w0 w hW hf hh
    cases c <;> simp only [den] at hh
    rename_i id x
    simp only [writes] at hW
    refine wp_block (wp_mono (ih x env _ W a0 a w0 w hW hf hh) ?_)
    intro ex a' w' hL
    cases ex with
    | normal => exact hL
    | exit i =>
      obtain ⟨env', hf', hK⟩ := hL
      simp only [Exit.inBlock]
      by_cases e : i = id
      · subst e; rw [if_pos rfl]; simp only [Nat.beq_refl] at hK; exact ⟨env', hf', hK⟩
      · have hb : Nat.beq i id = false := by rw [← Bool.not_eq_true, Nat.beq_eq]; exact e
        rw [if_neg e]; simp only [hb] at hK; exact ⟨env', hf', hK⟩
    | goto l => exact hL.elim
    | ret => exact hL
    | panic ch => exact hL.elim
    | outgrown => exact hL.elim
  | bj L M p ih =>
    intro c env κ W a0 a w0 w hW hf hh
    cases c <;> simp only [den] at hh
    rename_i id x
    simp only [writes] at hW
    replace hh := chk_sound hh; obtain ⟨hM, hh⟩ := hh
    unfold jn at hh
    refine wp_block (wp_mono (ih x env _ (writes x) a a w w (fun t ht => ht) (hf.self _) hh) ?_)
    intro ex a' w' hL
    have join : ∀ env', Fits n (writes x) a w env' a' w' → getH L env' (bindL L fun e h => κ.kn (e ++ restr M env) h) w'.heap → Lift n W a0 w0 κ .normal a' w' := by
      intro env' hf' hK
      obtain ⟨e, hK, he⟩ := getH_bind hK
      exact ⟨_, hf.join hf' hW hM he, hK⟩
    cases ex with
    | normal => obtain ⟨env', hf', hK⟩ := hL; exact join env' hf' hK
    | exit i =>
      obtain ⟨env', hf', hK⟩ := hL
      simp only [Exit.inBlock]
      by_cases e : i = id
      · subst e; rw [if_pos rfl]; simp only [Nat.beq_refl] at hK; exact join env' hf' hK
      · have hb : Nat.beq i id = false := by rw [← Bool.not_eq_true, Nat.beq_eq]; exact e
        rw [if_neg e]; simp only [hb] at hK; exact ⟨env', hf.comp hf' hW, hK⟩
    | goto l => exact hL.elim
    | ret => obtain ⟨env', hf', hK⟩ := hL; exact ⟨env', hf.comp hf' hW, hK⟩
    | panic ch => exact hL.elim
    | outgrown => exact hL.elim
  | l L M p ih =>
    intro c env κ W a0 a w0 w hW hf hh
    cases c <;> simp only [den] at hh
    rename_i x
    simp only [writes] at hW
    replace hh := chk_sound hh; obtain ⟨hM, hh⟩ := hh
    obtain ⟨m, hh⟩ := getH_ex hh
    refine wp_loop_rounds m ?_
    have key : ∀ m (env' : Env) (a' : Act) (w' : World), Fits n (writes x) a w env' a' w' →
        getH L env' (wit L (fun next => bindL L fun e h => den P Φ n p x (e ++ restr M env) h ⟨fun env h => getH L env next h, κ.kx, κ.kr⟩) m) w'.heap → Code.rounds P x (Lift n W a0 w0 κ) m a' w' := by
      intro m
      induction m with
      | zero => intro env' a' w' hf' hg; exact (getH_bot hg).elim
      | succ m ihm =>
        intro env' a' w' hf' hg
        simp only [wit] at hg
        obtain ⟨e, hK, he⟩ := getH_bind hg
        have hfe := hf.self (writes x)
        have hj : Fits n (writes x) a w (e ++ restr M env) a' w' := hfe.join hf' (fun t ht => ht) hM he
        rw [rounds_succ]
        refine wp_mono (ih x _ _ (writes x) a a' w w' (fun t ht => ht) hj hK) ?_
        intro ex a2 w2 hL
        cases ex with
        | normal => obtain ⟨env2, hf2, hK2⟩ := hL; exact ihm env2 a2 w2 hf2 hK2
        | exit id => obtain ⟨env2, hf2, hK2⟩ := hL; exact ⟨env2, hf.comp hf2 hW, hK2⟩
        | goto l => exact hL.elim
        | ret => obtain ⟨env2, hf2, hK2⟩ := hL; exact ⟨env2, hf.comp hf2 hW, hK2⟩
        | panic ch => exact hL.elim
        | outgrown => exact hL.elim
    exact key m env a w (hf.self _) hh
  | z =>
    intro c env κ W a0 a w0 w hW hf hh
    cases c <;> simp only [den] at hh
    · exact wp_skip ⟨env, hf, hh⟩
    · exact wp_exit ⟨env, hf, hh⟩
    · exact wp_ret ⟨env, hf, hh⟩

/-! ### a function -/
def dResV (P : Program) (env : Env) (h : Heap) : List ResultVar → (List Value → Prop) → Prop
  | [], K => K []
  | .tmp t :: rs, K => on (lk env t) fun v => dResV P env h rs fun vs => K (v :: vs)
  | .cell x t :: rs, K => on (lk env x) fun v => dLoad P t v h fun u => dResV P env h rs fun vs => K (u :: vs)
def dRes (P : Program) (rs : List ResultVar) (env : Env) (h : Heap) (K : Value → Heap → Prop) : Prop :=
  dResV P env h rs fun vs => match vs with
    | [v] => K v h
    | vs => K (.tuple vs.toArray) h
def resOf (tmps : Array Value) : ResultVar → Sem Value
  | .tmp t => pure (tmps.getD t undef)
  | .cell a t => do loadVar t (← asAddr (tmps.getD a undef))
theorem results_eq (fn : Func) (tmps : Array Value) : results fn tmps = (do
    let vs ← fn.results.mapM (resOf tmps)
    pure (if h : vs.size = 1 then vs[0] else .tuple vs)) := by
  unfold results
  congr 1
theorem dResV_sound {P : Program} {w : World} {env : Env} {a : Act} (ha : Agr env a) : ∀ {rs : List ResultVar} {K : List Value → Prop}, dResV P env w.heap rs K → ∃ vs, K vs ∧ (rs.mapM (resOf a.tmps)).run P w = .ok vs w
  | [], K, h => ⟨[], h, by simp⟩
  | .tmp t :: rs, K, h => by
    replace h := on_sound h; obtain ⟨v, hv, h⟩ := h
    obtain ⟨vs, hK, hr⟩ := dResV_sound (P := P) (w := w) ha (rs := rs) (K := fun vs => K (v :: vs)) h
    refine ⟨_, hK, ?_⟩
    have hg : a.tmps.getD t undef = v := by simp [Array.getD_eq_getD_getElem?, ha t v hv]
    simp only [List.mapM_cons, Sem.run_bind, resOf, Sem.run_pure, Result.andThen_ok, hr, hg]
  | .cell x t :: rs, K, h => by
    replace h := on_sound h; obtain ⟨v, hv, h⟩ := h
    obtain ⟨ad, cs, u, rfl, hc, h, _, hl⟩ := dLoad_sound h
    obtain ⟨vs, hK, hr⟩ := dResV_sound (P := P) (w := w) ha (rs := rs) (K := fun vs => K (u :: vs)) h
    refine ⟨_, hK, ?_⟩
    have hg : a.tmps.getD x undef = .pointer (some ad) := by simp [Array.getD_eq_getD_getElem?, ha x _ hv]
    have hl' : (loadVar t ad).run P w = .ok u w := by
      have := hl w hc
      simpa [Instr.loadAt, Instr.sureAddr] using this
    simp only [List.mapM_cons, Sem.run_bind, resOf, asAddr, Sem.run_pure, Result.andThen_ok, hr, hg, hl']
theorem dRes_sound {P : Program} {w : World} {fn : Func} {env : Env} {a : Act} {K : Value → Heap → Prop} (ha : Agr env a) (h : dRes P fn.results.toList env w.heap K) :
    ∃ v, (results fn a.tmps).run P w = .ok v w ∧ K v w.heap := by
  obtain ⟨vs, hK, hr⟩ := dResV_sound (P := P) (w := w) ha h
  have hm : (fn.results.mapM (resOf a.tmps)).run P w = .ok vs.toArray w := by
    rw [← Array.toArray_toList (xs := fn.results), List.mapM_toArray, Sem.run_map, hr]
    rfl
  rw [results_eq]
  simp only [Sem.run_bind, hm, Result.andThen_ok, Sem.run_pure]
  split at hK
  · exact ⟨_, rfl, hK⟩
  · rename_i hne
    refine ⟨_, rfl, ?_⟩
    split
    · rename_i h1
      simp at h1
      match vs, h1 with
      | [v], _ => exact (hne v rfl).elim
    · exact hK
def args0 : Nat → List Value → Env
  | _, [] => []
  | i, v :: vs => (i, v) :: args0 (i + 1) vs
theorem args0_lk : ∀ (vs : List Value) (i t : Nat) (u : Value), lk (args0 i vs) t = some u → i ≤ t ∧ vs[t - i]? = some u
  | [], i, t, u, h => by simp [args0, lk] at h
  | v :: vs, i, t, u, h => by
    simp only [args0, lk_cons] at h
    by_cases e : i = t
    · subst e; rw [if_pos rfl] at h; simp at h; subst h; simp
    · rw [if_neg e] at h
      obtain ⟨h1, h2⟩ := args0_lk vs (i + 1) t u h
      refine ⟨by omega, ?_⟩
      rw [show t - i = (t - (i + 1)) + 1 by omega]; simpa using h2
/-- A CALL, BY ITS FORMULA. -/
theorem calls_den {P : Program} {Φ : Fns} (hΦ : Right P Φ) {f : FuncId} {fn : Func} {c : Code} (p : Plan) (vs : List Value) (w : World) (K : Value → Heap → Prop)
    (hf : P.funcs[f]? = some fn) (hb : fn.body = some c) (hn : Nat.ble vs.length fn.ntmps = true)
    (h : den P Φ fn.ntmps p c (args0 0 vs) w.heap ⟨fun env h => dRes P fn.results.toList env h K, fun _ _ _ => False, fun env h => dRes P fn.results.toList env h K⟩) :
    Calls P f vs.toArray w fun e w' => ∃ v, e = .returned v ∧ K v w'.heap ∧ Same w w' := by
  have hn' := Nat.le_of_ble_eq_true hn
  refine calls_of_wp hf hb (wp_mono (den_sound hΦ p c _ _ (writes c) { tmps := vs.toArray ++ Array.replicate (fn.ntmps - vs.toArray.size) undef, defers := [] } _ w w (fun _ ht => ht) ?_ h) ?_)
  · refine ⟨fun t u hu => ?_, by simp; omega, rfl, fun _ _ => rfl, Same.refl _⟩
    obtain ⟨_, hg⟩ := args0_lk vs 0 t u hu
    simp only [Nat.sub_zero] at hg
    rw [Array.getElem?_append_left (by simp; exact (List.getElem?_eq_some_iff.1 hg).1)]
    simpa using hg
  · intro e a' w' hL
    cases e with
    | normal =>
      obtain ⟨env, hf', hK⟩ := hL
      obtain ⟨v, hr, hK⟩ := dRes_sound (P := P) hf'.agr hK
      exact ⟨hf'.def_, v, hr, v, rfl, hK, hf'.same⟩
    | ret =>
      obtain ⟨env, hf', hK⟩ := hL
      obtain ⟨v, hr, hK⟩ := dRes_sound (P := P) hf'.agr hK
      exact ⟨hf'.def_, v, hr, v, rfl, hK, hf'.same⟩
    | exit id => obtain ⟨env, hf', hK⟩ := hL; exact hK.elim
    | goto l => exact hL.elim
    | panic ch => exact hL.elim
    | outgrown => exact hL.elim

/-! ### what the printed texts use -/
def bodyOf (f : Func) : Code := f.body.getD .skip
def IsRight (P : Program) (f : FuncId) (E : List Value → Heap → (Value → Heap → Prop) → Prop) : Prop := ∀ vs h K, E vs h K → ∀ w : World, w.heap = h →
  Calls P f vs.toArray w fun e w' => ∃ v, e = .returned v ∧ K v w'.heap ∧ Same w w'
theorem isRight {P : Program} {f : FuncId} {E : List Value → Heap → (Value → Heap → Prop) → Prop} (H : ∀ vs K (w : World), E vs w.heap K → Calls P f vs.toArray w fun e w' => ∃ v, e = .returned v ∧ K v w'.heap ∧ Same w w') : IsRight P f E := by
  intro vs h K hh w hw
  subst hw
  exact H vs K w hh
def noFns : Fns := fun _ _ _ _ => False
def fn1 (f : FuncId) (E : List Value → Heap → (Value → Heap → Prop) → Prop) (rest : Fns) : Fns := fun g vs h K => match Nat.beq g f with
  | true => E vs h K
  | false => rest g vs h K
theorem noFns_right {P : Program} : Right P noFns := fun _ _ _ _ h => h.elim
theorem fn1_right {P : Program} {f : FuncId} {E : List Value → Heap → (Value → Heap → Prop) → Prop} {rest : Fns} (hok : okFn P f = true) (hE : IsRight P f E) (hr : Right P rest) : Right P (fn1 f E rest) := by
  intro g vs h K hh
  unfold fn1 at hh
  split at hh
  · rename_i e
    have := Nat.eq_of_beq_eq_true e; subst this
    exact ⟨hok, hE vs h K hh⟩
  · exact hr g vs h K hh
theorem decs_cons {k : Kd} {ks : List Kd} {vs : List Value} {K : k.T → Fn ks Prop} (h : decs (k :: ks) vs K) : ∃ x vs', vs = k.enc x :: vs' ∧ decs ks vs' (K x) := by
  cases vs with
  | nil => exact h.elim
  | cons v vs =>
    replace h := dec1_sound h; obtain ⟨x, rfl, h⟩ := h
    exact ⟨x, vs, rfl, h⟩
theorem decs_nil {vs : List Value} {K : Prop} (h : decs [] vs K) : vs = [] ∧ K := by
  cases vs with
  | nil => exact ⟨rfl, h⟩
  | cons v vs => exact h.elim
theorem toArray_eq {cs : Array Value} {l : List Value} (h : cs.toList = l) : cs = l.toArray := by subst h; rfl
end Go.Proofs.Ytompmkmbppcadaa.V
