import Derived.Test.YtboidjampddfoaaZNetFresh2
import Derived.Test.YtboidjampddfoaaProg
namespace Go.Proofs.Ytboidjampddfoaa.V
open Go Go.RowKit
set_option linter.unusedVariables false
set_option maxRecDepth 100000
def F_law6_play.l1 (f56_ : Option Addr → Int → Int → Int → Int → Sl → Heap → (Bool → Heap → Prop) → Prop) (f57_ : Option Addr → Heap → (Bool → Heap → Prop) → Prop) (Q : Bool → Heap → Prop) (a5 a9 : Addr) (j22 : Heap → Prop) : Int → Heap → Prop :=
  wl [(6, .one (.int .i64))] (fun (next23 : Int → Heap → Prop) (i24 : Int) (h25 : Heap) =>
  jn [(34, .one .bool)] (fun (x28 : Bool) (h29 : Heap) =>
  brr x28
  (jn [(52, .one .bool)] (fun (x44 : Bool) (h45 : Heap) =>
  brr x44
  (Q false h45)
  (next23 (IntKind.i64.wrap (i24 + 1)) h45)) (fun (j30 : Bool → Heap → Prop) =>
  ld [.sl] (a5.add 2) h29 fun (v31 : Sl) =>
  ixS 5 v31 i24 fun (a32 : Addr) =>
  ld [.int .i64, .int .i64, .int .i64, .int .i64, .sl] a32 h29 fun (v33 v34 v35 v36 : Int) (v37 : Sl) =>
  f56_ (some a9) v33 v34 v35 v36 v37 h29 fun (r38 : Bool) (h39 : Heap) =>
  brr (!r38)
  (j30 true h39)
  (nn (some a9) fun (a40 : Addr) =>
  ld [.ptr] (a40.add 4) h39 fun (v41 : Option Addr) =>
  f57_ v41 h39 fun (r42 : Bool) (h43 : Heap) =>
  j30 (!r42) h43)))
  (j22 h29)) (fun (j26 : Bool → Heap → Prop) =>
  ld [.sl] (a5.add 2) h25 fun (v27 : Sl) =>
  brr (decide (i24 < ((v27.len : Nat) : Int)))
  (j26 (decide (i24 < 400)) h25)
  (j26 false h25)))
def F_law6_play_of (f23_ : Heap → (Bool → Heap → Prop) → Prop) (f55_ : Option Addr → Int → Int → Heap → (Bool → Heap → Prop) → Prop) (f56_ : Option Addr → Int → Int → Int → Int → Sl → Heap → (Bool → Heap → Prop) → Prop) (f57_ : Option Addr → Heap → (Bool → Heap → Prop) → Prop) (f58_ : Option Addr → Int → Heap → (Bool → Heap → Prop) → Prop) (s1 s2 : Int) (s3 : Sl) (mark4 : Bool) (h : Heap) (Q : Bool → Heap → Prop) : Prop :=
  al 40 [.int .i64 s1, .int .i64 s2, .slice s3.ptr s3.len s3.cap] h fun (a5 : Addr) (h6 : Heap) =>
  al 114 [.slice none 0 0, .slice none 0 0, .int .i64 0, .slice none 0 0, .slice none 0 0, .int .i64 0, .slice none 0 0, .slice none 0 0, .int .i64 0, .slice none 0 0, .slice none 0 0, .int .i64 0, .slice none 0 0, .slice none 0 0, .int .i64 0, .slice none 0 0, .slice none 0 0, .int .i64 0, .slice none 0 0, .slice none 0 0, .int .i64 0, .slice none 0 0, .slice none 0 0, .int .i64 0, .slice none 0 0, .slice none 0 0, .int .i64 0, .slice none 0 0, .slice none 0 0, .int .i64 0, .slice none 0 0, .slice none 0 0, .int .i64 0, .slice none 0 0, .slice none 0 0, .int .i64 0, .int .i64 0, .int .i64 0, .int .i64 0] h6 fun (a7 : Addr) (h8 : Heap) =>
  al 119 [.pointer none, .pointer none, .pointer none, .pointer none, .pointer (some a7), .bool mark4] h8 fun (a9 : Addr) (h10 : Heap) =>
  jn [(25, .one .bool)] (fun (x20 : Bool) (h21 : Heap) =>
  brr x20
  (Q false h21)
  (jn [] (fun  (h46 : Heap) =>
  jn [(4, .one .bool)] (fun (x54 : Bool) (h55 : Heap) =>
  Q x54 h55) (fun (j47 : Bool → Heap → Prop) =>
  f58_ (some a9) 0 h46 fun (r48 : Bool) (h49 : Heap) =>
  brr r48
  (f58_ (some a9) 1 h49 fun (r50 : Bool) (h51 : Heap) =>
  brr r50
  (f23_ h51 fun (r52 : Bool) (h53 : Heap) =>
  j47 r52 h53)
  (j47 false h51))
  (j47 false h49))) (fun (j22 : Heap → Prop) =>
  F_law6_play.l1 f56_ f57_ Q a5 a9 j22 0 h21))) (fun (j11 : Bool → Heap → Prop) =>
  ixA 1 (a5.add 0) 2 0 fun (a12 : Addr) =>
  ld [.int .i64] a12 h10 fun (v13 : Int) =>
  f55_ (some a9) 0 v13 h10 fun (r14 : Bool) (h15 : Heap) =>
  brr (!r14)
  (j11 true h15)
  (ixA 1 (a5.add 0) 2 1 fun (a16 : Addr) =>
  ld [.int .i64] a16 h15 fun (v17 : Int) =>
  f55_ (some a9) 1 v17 h15 fun (r18 : Bool) (h19 : Heap) =>
  j11 (!r18) h19))
def F_law6_play (s1 s2 : Int) (s3 : Sl) (mark4 : Bool) (h : Heap) (Q : Bool → Heap → Prop) : Prop := F_law6_play_of F_law6_lives F_law6_stage_fresh F_law6_stage_plays F_law1_Book_Look F_law6_stage_all s1 s2 s3 mark4 h Q
def plan18 : Plan := .s (.r [1, 2]) (.s (.r [2, 5]) (.s (.s (.rj [(25, .one .bool)] [2, 5]) (.c (.s (.r [4]) .z) .z)) (.s (.s (.r [2, 5, 6]) (.bj [] [5] (.l [(6, .one (.int .i64))] [2, 5] (.s (.s (.rj [(34, .one .bool)] [2, 5, 6]) (.c .z .z)) (.s (.b (.s (.rj [(52, .one .bool)] [2, 5, 6]) (.c (.s (.r [4]) .z) .z))) (.r [2, 5, 6])))))) (.s (.rj [(4, .one .bool)] []) .z))))
theorem F_law6_play.eq (f23_ : Heap → (Bool → Heap → Prop) → Prop) (f55_ : Option Addr → Int → Int → Heap → (Bool → Heap → Prop) → Prop) (f56_ : Option Addr → Int → Int → Int → Int → Sl → Heap → (Bool → Heap → Prop) → Prop) (f57_ : Option Addr → Heap → (Bool → Heap → Prop) → Prop) (f58_ : Option Addr → Int → Heap → (Bool → Heap → Prop) → Prop) (s1 s2 : Int) (s3 : Sl) (mark4 : Bool) (h : Heap) (K : Value → Heap → Prop) : F_law6_play_of f23_ f55_ f56_ f57_ f58_ s1 s2 s3 mark4 h (fun (r0 : Bool) (h : Heap) => K (.bool r0) h) =
    den Try.prog (fn1 23 (E_law6_lives_of f23_) (fn1 55 (E_law6_stage_fresh_of f55_) (fn1 56 (E_law6_stage_plays_of f56_) (fn1 57 (E_law1_Book_Look_of f57_) (fn1 58 (E_law6_stage_all_of f58_) noFns))))) Try.f18.ntmps plan18 (bodyOf Try.f18) (args0 0 [(.agg #[.int .i64 s1, .int .i64 s2, .slice s3.ptr s3.len s3.cap] : Value), (.bool mark4 : Value)]) h ⟨fun env h => dRes Try.prog Try.f18.results.toList env h K, fun _ _ _ => False, fun env h => dRes Try.prog Try.f18.results.toList env h K⟩ := by kernel_rfl
def E_law6_play_of (f : Int → Int → Sl → Bool → Heap → (Bool → Heap → Prop) → Prop) : List Value → Heap → (Value → Heap → Prop) → Prop
  | [v0, v1], h, K => vAgg v0 fun cs0 => decs [.int .i64, .int .i64, .sl] cs0.toList fun (s1 s2 : Int) (s3 : Sl) =>
  dec1 .bool v1 fun (mark4 : Bool) =>
  f s1 s2 s3 mark4 h (fun (r0 : Bool) (h : Heap) => K (.bool r0) h)
  | _, _, _ => False
abbrev E_law6_play := E_law6_play_of F_law6_play
theorem E_law6_play.right : IsRight Try.prog 18 E_law6_play := by
  refine isRight fun vs K w hh => ?_
  match vs, hh with
  | [v0, v1], hh =>
    unfold E_law6_play E_law6_play_of at hh
    replace hh := vAgg_sound hh; obtain ⟨cs0, rfl, hh⟩ := hh
    replace hh := decs_cons hh; obtain ⟨s1, l0_0, e0_0, hh⟩ := hh
    replace hh := decs_cons hh; obtain ⟨s2, l0_1, e0_1, hh⟩ := hh
    replace hh := decs_cons hh; obtain ⟨s3, l0_2, e0_2, hh⟩ := hh
    replace hh := decs_nil hh; obtain ⟨rfl, hh⟩ := hh
    subst e0_2
    subst e0_1
    have ec0 := toArray_eq e0_0
    subst ec0
    replace hh := dec1_sound hh; obtain ⟨mark4, rfl, hh⟩ := hh
    unfold F_law6_play at hh
    exact calls_den (fn1_right ok23 E_law6_lives.right (fn1_right ok55 E_law6_stage_fresh.right (fn1_right ok56 E_law6_stage_plays.right (fn1_right ok57 E_law1_Book_Look.right (fn1_right ok58 E_law6_stage_all.right noFns_right))))) plan18 _ w K Try.func18 (by kernel_rfl) (by kernel_rfl) (Eq.mp (F_law6_play.eq F_law6_lives F_law6_stage_fresh F_law6_stage_plays F_law1_Book_Look F_law6_stage_all s1 s2 s3 mark4 w.heap K) hh)
theorem ok18 : okFn Try.prog 18 = true := by kernel_rfl
end Go.Proofs.Ytboidjampddfoaa.V
namespace Go.Proofs.Ytboidjampddfoaa.V
open Go Go.RowKit
set_option linter.unusedVariables false
set_option maxRecDepth 100000
def F_law6_NetExact_of (f18_ : Int → Int → Sl → Bool → Heap → (Bool → Heap → Prop) → Prop) (s1 s2 : Int) (s3 : Sl) (h : Heap) (Q : Bool → Heap → Prop) : Prop :=
  al 40 [.int .i64 s1, .int .i64 s2, .slice s3.ptr s3.len s3.cap] h fun (a4 : Addr) (h5 : Heap) =>
  ld [.int .i64, .int .i64, .sl] a4 h5 fun (v6 v7 : Int) (v8 : Sl) =>
  f18_ v6 v7 v8 false h5 fun (r9 : Bool) (h10 : Heap) =>
  Q r9 h10
def F_law6_NetExact (s1 s2 : Int) (s3 : Sl) (h : Heap) (Q : Bool → Heap → Prop) : Prop := F_law6_NetExact_of F_law6_play s1 s2 s3 h Q
def plan7 : Plan := .s (.r [1]) (.s (.r [2]) .z)
theorem F_law6_NetExact.eq (f18_ : Int → Int → Sl → Bool → Heap → (Bool → Heap → Prop) → Prop) (s1 s2 : Int) (s3 : Sl) (h : Heap) (K : Value → Heap → Prop) : F_law6_NetExact_of f18_ s1 s2 s3 h (fun (r0 : Bool) (h : Heap) => K (.bool r0) h) =
    den Try.prog (fn1 18 (E_law6_play_of f18_) noFns) Try.f7.ntmps plan7 (bodyOf Try.f7) (args0 0 [(.agg #[.int .i64 s1, .int .i64 s2, .slice s3.ptr s3.len s3.cap] : Value)]) h ⟨fun env h => dRes Try.prog Try.f7.results.toList env h K, fun _ _ _ => False, fun env h => dRes Try.prog Try.f7.results.toList env h K⟩ := by kernel_rfl
def E_law6_NetExact_of (f : Int → Int → Sl → Heap → (Bool → Heap → Prop) → Prop) : List Value → Heap → (Value → Heap → Prop) → Prop
  | [v0], h, K => vAgg v0 fun cs0 => decs [.int .i64, .int .i64, .sl] cs0.toList fun (s1 s2 : Int) (s3 : Sl) =>
  f s1 s2 s3 h (fun (r0 : Bool) (h : Heap) => K (.bool r0) h)
  | _, _, _ => False
abbrev E_law6_NetExact := E_law6_NetExact_of F_law6_NetExact
theorem E_law6_NetExact.at (f : Int → Int → Sl → Heap → (Bool → Heap → Prop) → Prop) (s1 s2 : Int) (s3 : Sl) (h : Heap) (K : Value → Heap → Prop) : E_law6_NetExact_of f [.agg ([.int .i64 s1, .int .i64 s2, .slice s3.ptr s3.len s3.cap] : List Value).toArray] h K = f s1 s2 s3 h (fun (r0 : Bool) (h : Heap) => K (.bool r0) h) := rfl
theorem E_law6_NetExact.right : IsRight Try.prog 7 E_law6_NetExact := by
  refine isRight fun vs K w hh => ?_
  match vs, hh with
  | [v0], hh =>
    unfold E_law6_NetExact E_law6_NetExact_of at hh
    replace hh := vAgg_sound hh; obtain ⟨cs0, rfl, hh⟩ := hh
    replace hh := decs_cons hh; obtain ⟨s1, l0_0, e0_0, hh⟩ := hh
    replace hh := decs_cons hh; obtain ⟨s2, l0_1, e0_1, hh⟩ := hh
    replace hh := decs_cons hh; obtain ⟨s3, l0_2, e0_2, hh⟩ := hh
    replace hh := decs_nil hh; obtain ⟨rfl, hh⟩ := hh
    subst e0_2
    subst e0_1
    have ec0 := toArray_eq e0_0
    subst ec0
    unfold F_law6_NetExact at hh
    exact calls_den (fn1_right ok18 E_law6_play.right noFns_right) plan7 _ w K Try.func7 (by kernel_rfl) (by kernel_rfl) (Eq.mp (F_law6_NetExact.eq F_law6_play s1 s2 s3 w.heap K) hh)
theorem ok7 : okFn Try.prog 7 = true := by kernel_rfl
end Go.Proofs.Ytboidjampddfoaa.V
/- Two nets in turns, beside the document's: the stage. -/
namespace Go.Proofs.Ytboidjampddfoaa.V
open Go Go.RowKit
set_option linter.unusedVariables false
set_option linter.unusedSimpArgs false
/-- A net and the document's, or none of both. -/
abbrev PN := Option (Nat × Nat × NS)
def pnN : PN → Option Addr | none => none | some x => some (pt x.1 0)
def pnW : PN → Option Addr | none => none | some x => some (pt x.2.1 0)
def pnR : PN → Res | none => emp | some x => sep (netR x.1 x.2.2) (rnR x.2.1 x.2.2)
def pnOk (N : Nat) : PN → Prop | none => True | some x => x.2.2.Ok ∧ x.2.2.Short
/-- The stage's own cells. -/
def stC (xs : List PN) (bk : Nat) (mark : Bool) : List Value := [] ++ ((xs.map pnN).flatMap optc ++ ((xs.map pnW).flatMap optc ++ [.pointer (some (pt bk 0)), .bool mark]))
section
variable {h0 h : Heap} {L : List Res}
theorem F_law1_Over.is {s : Sl} {zs : List UInt8} {Q : Heap → Prop} (O : Sat h0 h (lent s zs :: L)) (hs : s.len = zs.length) (hz : zs.length ≤ 4611686018427387904) (k : ∀ h', Sat h0 h' L → Q h') : F_law1_Over s h Q := by
  rw [F_law1_Over.eq_1, F_law1_Over_of.eq_1]
  refine jn_go ?_
  rw [F_law1_Over.l1.eq_1]
  exact fill_lent O hs hz fun zs' h' _ O => k h' O.drop
/-- A new pair in the place k. -/
theorem F_law6_stage_fresh.is {a bk : Nat} {mark : Bool} {xs : List PN} {k : Nat} {room : Int} {Q : Bool → Heap → Prop} (hx : xs.length = 2) (hk : k < 2) (O : Sat h0 h (own a (stC xs bk mark) :: many pnR xs :: L))
    (kk : ∀ (y : PN) h', (∀ N, pnOk N y) → (∀ z, y = some z → z.2.2.l = [] ∧ z.2.2.lost = 0) → Sat h0 h' (own a (stC (xs.set k y) bk mark) :: many pnR (xs.set k y) :: L) → Q true h') : F_law6_stage_fresh (some (pt a 0)) k room h Q := by
  rw [F_law6_stage_fresh.eq_1, F_law6_stage_fresh_of.eq_1]
  have fin : ∀ {y : PN} {e : Int} {h : Heap}, (∀ N, pnOk N y) → (∀ z, y = some z → z.2.2.l = [] ∧ z.2.2.lost = 0) → Sat h0 h (pnR y :: own a (stC xs bk mark) :: many pnR xs :: L) → nn (some (pt a 0)) fun a10 => ixA 1 (a10.add 0) 2 k fun a11 => st a11 [.pointer (pnN y)] h fun h12 => nn (some (pt a 0)) fun a13 => ixA 1 (a13.add 2) 2 k fun a14 => st a14 [.pointer (pnW y)] h12 fun h15 => jn [(6, .one .bool)] (fun x19 h20 => Q x19 h20) fun j16 => F_law6_num e h15 fun r17 h18 => brr (r17 == e) (j16 ((pnN y).isNone == (pnW y).isNone) h18) (j16 false h18) := by
    intro y e h hy hz O
    simp only [nn_some, pt_add, Nat.zero_add, Nat.add_zero, Nat.reduceAdd, Nat.reduceMul, Int.toNat_zero, Int.toNat_one, Nat.zero_mul, Nat.one_mul]
    replace O := O.sel [1, 0, 2] 3 rfl (Nat.le_add_left _ _)
    simp only [selT, List.map, nth, List.drop, List.cons_append, List.nil_append] at O
    refine Sat.putO O optc_len optc_one rfl (by simp [hx]) (by omega) (by omega) (pnN y) rfl fun h O => ?_
    have O : Sat h0 h (own a (((xs.map pnN).set k (pnN y)).flatMap optc ++ ((xs.map pnW).flatMap optc ++ [.pointer (some (pt bk 0)), .bool mark])) :: _) := O
    refine Sat.putO O optc_len optc_one (by rw [flatMap_len optc_len]; simp [hx]) (by simp [hx]) (by omega) (by omega) (pnW y) rfl fun h O => ?_
    refine jn1 (fun z h' => z = true ∧ h' = h) ?_ ?_
    · rintro z h ⟨rfl, rfl⟩
      rw [Int.toNat_natCast, ← List.map_set, ← List.map_set] at O
      obtain ⟨x, hxk⟩ : ∃ x, xs[k]? = some x := ⟨_, List.getElem?_eq_getElem (by omega)⟩
      have O2 := (O.sel [2, 1, 0] 3 rfl (Nat.le_add_left _ _)).take k hxk
      have O3 := O2.drop.sel [1, 0, 2] 3 rfl (Nat.le_add_left _ _)
      have O4 := Sat.give (f := pnR) (y := y) O3 (by omega)
      exact kk y h hy hz O4.swap
    · intro j hj
      rw [F_law6_num.eq_1, F_law6_num_of.eq_1]
      refine brr_eq (fun _ => ?_) (fun e => absurd rfl e)
      refine hj _ _ ⟨?_, rfl⟩
      cases y <;> rfl
  refine F_net_New.is O (fun hr => ?_) (fun h1 h2 p h O => ?_)
  · refine F_ref6_New.is O (fun _ => ?_) (fun h1 h2 => absurd ⟨h1, h2⟩ hr)
    exact fin (y := none) (fun _ => trivial) (fun z hz => by cases hz) O.empI
  · refine F_ref6_New.is O (fun hr => absurd ⟨h1, h2⟩ hr) (fun _ _ q h O => ?_)
    refine fin (y := some (p, q, ⟨[], room.toNat, 0⟩)) (fun _ => ⟨⟨by show ([] : List NM).length ≤ _; simp, by show room.toNat ≤ 8192; omega, by show 0 ≤ _; omega⟩, fun m hm => by cases hm⟩) (fun z hz => by cases hz; exact ⟨rfl, rfl⟩) O.swap.sepI
end
end Go.Proofs.Ytboidjampddfoaa.V
/- Two nets in turns: what is told; the whole row. -/
namespace Go.Proofs.Ytboidjampddfoaa.V
open Go Go.RowKit
set_option linter.unusedVariables false
set_option linter.unusedSimpArgs false
theorem BkS.Ok.up {x : BkS} {T T' : Nat} (o : x.Ok T) (h : T ≤ T') : x.Ok T' := ⟨Nat.le_trans o.t h, o.n, o.room, o.u, fun i e hi => ⟨(o.len i e hi).1, Nat.le_trans (o.len i e hi).2 h⟩⟩
theorem bk_up {h0 h : Heap} {L : List Res} {bk T T' : Nat} (O : Sat h0 h (bkR bk T :: L)) (ht : T ≤ T') : Sat h0 h (bkR bk T' :: L) := by
  obtain ⟨x, o, O⟩ := O.book
  exact Sat.bookI (o.up ht) O
section
variable {h0 h : Heap} {L : List Res}
theorem stC_tail {xs : List PN} {bk : Nat} {mark : Bool} (hx : xs.length = 2) : (stC xs bk mark).drop 4 = [.pointer (some (pt bk 0)), .bool mark] := by
  match xs, hx with
  | [x, y], _ => rfl
theorem F_law6_stage_told.is {a bk T : Nat} {mark : Bool} {xs : List PN} {t : Int} {f g : Sl} {bs : List UInt8} {ok : Bool} {Q : Bool → Heap → Prop} (hx : xs.length = 2) (hT : T ≤ 1000000000) (hb : bs.length ≤ 281474976710656)
    (O : Sat h0 h (buf 1 u8 f bs :: buf 1 u8 g bs :: own a (stC xs bk mark) :: bkR bk T :: L)) (k : ∀ h', Sat h0 h' (own a (stC xs bk mark) :: bkR bk (T + 1) :: L) → Q true h') : F_law6_stage_told (some (pt a 0)) t f ok t g ok h Q := by
  rw [F_law6_stage_told.eq_1, F_law6_stage_told_of.eq_1]
  refine O.al fun c h O => ?_
  refine O.al fun d h O => ?_
  have l5 : ∀ {h : Heap} {M : List Res} {K : Bool → Prop}, Sat h0 h (own a (stC xs bk mark) :: M) → K mark → ld [.bool] (pt a 5) h K := by
    intro h M K O k
    refine O.ld 0 rfl ?_
    have e : (stC xs bk mark).drop 5 = [.bool mark] := by rw [show 5 = 4 + 1 from rfl, ← List.drop_drop, stC_tail hx]; rfl
    rw [e]
    exact ldL_c (k := .bool) (ldL_n k)
  have l4 : ∀ {h : Heap} {M : List Res} {K : Option Addr → Prop}, Sat h0 h (own a (stC xs bk mark) :: M) → K (some (pt bk 0)) → ld [.ptr] (pt a 4) h K := by
    intro h M K O k
    refine O.ld 0 rfl ?_
    rw [stC_tail hx]
    exact ldL_c (k := .ptr) (ldL_n k)
  simp only [nn_some, pt_add, Nat.zero_add, Nat.add_zero, Nat.reduceAdd, Nat.reduceMul, Int.toNat_zero, Int.toNat_one, Nat.zero_mul, Nat.one_mul]
  refine jn1 (fun z h' => z = true ∧ Sat h0 h' (own a (stC xs bk mark) :: own c [.int .i64 t, .slice f.ptr f.len f.cap] :: buf 1 u8 f bs :: bkR bk T :: L)) ?_ ?_
  · clear O
    rintro z h ⟨rfl, O⟩
    refine l5 O ?_
    refine jn0 (fun h' => Sat h0 h' (own a (stC xs bk mark) :: bkR bk (T + 1) :: L)) (fun h O => k h O) fun j hj => ?_
    refine brr_of (fun _ => ?_) (fun _ => ?_)
    · refine l4 O ?_
      refine O.ld 1 rfl (ldL_c (k := .sl) (x := f) (ldL_n ?_))
      replace O := O.sel [2, 3, 0] 4 rfl (Nat.le_add_left _ _)
      simp only [selT, List.map, nth, List.drop, List.cons_append, List.nil_append] at O
      refine F_law1_Book_Bytes.is (by omega) hb O fun h O => ?_
      exact hj _ O.swap
    · refine hj _ ?_
      have O := O.sel [3, 0] 4 rfl (Nat.le_add_left _ _)
      exact (bk_up O (by omega)).swap
  · intro j hj
    refine brr_tt (by simp) ?_
    refine O.ld 1 rfl (ldL_c (ldL_c (k := .sl) (x := f) (ldL_n ?_)))
    refine O.ld 0 rfl (ldL_c (ldL_c (k := .sl) (x := g) (ldL_n ?_)))
    refine F_law6_same.is (O.view 2 u8_len (by simp) rfl).1 (O.view 3 u8_len (by simp) rfl).1 (by omega) (by omega) fun h' kk => ?_
    have O := O.kept2 kk
    replace O := O.sel [4, 1, 2, 5] 6 rfl (Nat.le_add_left _ _)
    simp only [selT, List.map, nth, List.drop, List.cons_append, List.nil_append] at O
    exact hj _ _ ⟨by simp, O⟩
end
end Go.Proofs.Ytboidjampddfoaa.V
/- Two nets in turns: the whole row is as the document says. -/
namespace Go.Proofs.Ytboidjampddfoaa.V
open Go Go.RowKit
set_option linter.unusedVariables false
set_option linter.unusedSimpArgs false
section
variable {h0 h : Heap} {L : List Res}
theorem st_n {a bk : Nat} {mark : Bool} {xs : List PN} {k : Nat} {x : PN} {K : Addr → Option Addr → Prop} (hx : xs[k]? = some x) (hk : k < 2) (O : Sat h0 h L) (j : Nat) (hj : nth j L = own a (stC xs bk mark))
    (kk : ∀ c, (∀ {h0' h' : Heap} {L' : List Res}, Sat h0' h' L' → ∀ j', nth j' L' = own a (stC xs bk mark) → cellsAre h' c [.pointer (pnN x)]) → K c (pnN x)) : ixA 1 (pt a 0) 2 k fun c => V.ld [.ptr] c h (K c) :=
  Sat.getO O j (enc := optc) (pre := []) (xs := xs.map pnN) (ys := (xs.map pnW).flatMap optc ++ [.pointer (some (pt bk 0)), .bool mark]) optc_len hj rfl (by omega) (by omega) (x := pnN x) (by rw [Int.toNat_natCast, List.getElem?_map, hx]; rfl) id (fun _ => rfl) kk
theorem st_w {a bk : Nat} {mark : Bool} {xs : List PN} {k : Nat} {x : PN} {K : Addr → Option Addr → Prop} (h2 : xs.length = 2) (hx : xs[k]? = some x) (hk : k < 2) (O : Sat h0 h L) (j : Nat) (hj : nth j L = own a (stC xs bk mark))
    (kk : ∀ c, (∀ {h0' h' : Heap} {L' : List Res}, Sat h0' h' L' → ∀ j', nth j' L' = own a (stC xs bk mark) → cellsAre h' c [.pointer (pnW x)]) → K c (pnW x)) : ixA 1 (pt a 2) 2 k fun c => V.ld [.ptr] c h (K c) :=
  Sat.getO O j (enc := optc) (pre := (xs.map pnN).flatMap optc) (xs := xs.map pnW) (ys := [.pointer (some (pt bk 0)), .bool mark]) optc_len hj (by rw [flatMap_len optc_len]; simp [h2]) (by omega) (by omega) (x := pnW x) (by rw [Int.toNat_natCast, List.getElem?_map, hx]; rfl) id (fun _ => rfl) kk
theorem F_law6_stage_all.is {a bk : Nat} {mark : Bool} {xs : List PN} {k : Nat} {Q : Bool → Heap → Prop} (h2 : xs.length = 2) (hk : k < 2) (hok : ∀ x ∈ xs, pnOk 0 x) (O : Sat h0 h (own a (stC xs bk mark) :: many pnR xs :: L)) (kk : ∀ h', Sat h0 h' (own a (stC xs bk mark) :: many pnR xs :: L) → Q true h') : F_law6_stage_all (some (pt a 0)) k h Q := by
  rw [F_law6_stage_all.eq_1, F_law6_stage_all_of.eq_1]
  obtain ⟨x, hx⟩ : ∃ x, xs[k]? = some x := ⟨_, List.getElem?_eq_getElem (by omega)⟩
  simp only [nn_some, pt_add, Nat.zero_add, Nat.add_zero, Nat.reduceAdd, Nat.reduceMul, Int.toNat_zero, Int.toNat_one, Nat.zero_mul, Nat.one_mul]
  refine st_w h2 hx hk O 0 rfl fun c _ => ?_
  match x, hx with
  | none, hx => exact brr_tt rfl (kk h O)
  | some (p, q, n), hx =>
    refine brr_ff rfl ?_
    obtain ⟨o, sh⟩ := hok _ (List.mem_of_getElem? hx)
    have o : n.Ok := o
    have sh : n.Short := sh
    have h1 := o.le; have h3 := o.room
    have O1 := (O.swap.take k hx).sep

    have back : ∀ {h : Heap}, Sat h0 h (netR p n :: rnR q n :: hole pnR xs k :: own a (stC xs bk mark) :: L) → Sat h0 h (own a (stC xs bk mark) :: many pnR xs :: L) := by
      intro h O
      have O := Sat.give (f := pnR) (y := some (p, q, n)) O.sepI (List.getElem?_eq_some_iff.1 hx).1
      rw [set_same hx] at O
      exact O.swap
    refine jn0 (fun h' => Sat h0 h' (netR p n :: rnR q n :: hole pnR xs k :: own a (stC xs bk mark) :: L)) ?_ ?_
    · intro h O1
      refine jn1 (fun z h' => z = true ∧ Sat h0 h' (own a (stC xs bk mark) :: many pnR xs :: L)) (fun z h' ⟨e, O⟩ => e ▸ kk h' O) fun j hj => ?_
      refine st_n hx hk O1 3 rfl fun c _ => ?_
      show nn (some (pt p 0)) _
      simp only [nn_some, pt_add, Nat.zero_add, Nat.add_zero, Nat.reduceAdd, Nat.reduceMul, Int.toNat_zero, Int.toNat_one, Nat.zero_mul, Nat.one_mul]
      refine F_net_row_Len.is O1 ?_
      refine F_ref6_Net_Len.is O1.swap ?_
      refine brr_eq (fun _ => ?_) (fun e => absurd rfl e)
      refine st_n hx hk O1 3 rfl fun c _ => ?_
      refine F_net_Net_Lost.is O1 ?_
      refine F_ref6_Net_Lost.is O1.swap ?_
      exact hj _ _ ⟨by simp, back O1⟩
    · intro j6 hj6
      rw [F_law6_stage_all.l1.eq_1]
      simp only [nn_some, pt_add, Nat.zero_add, Nat.add_zero, Nat.reduceAdd, Nat.reduceMul, Int.toNat_zero, Int.toNat_one, Nat.zero_mul, Nat.one_mul]
      refine wl1 (k := .int .i64) (fun (m : Nat) (i : Int) (h' : Heap) => -1 ≤ i ∧ i + m = n.l.length + 1 ∧ Sat h0 h' (netR p n :: rnR q n :: hole pnR xs k :: own a (stC xs bk mark) :: L)) ?_ (m := n.l.length + 2) ⟨by omega, by omega, O1⟩
      clear O O1
      rintro m (i : Int) h next hn ⟨hi0, him, O1⟩
      refine F_ref6_Net_Len.is O1.swap ?_
      refine brr_p (fun hlt => ?_) (fun hlt => hj6 _ O1)
      refine st_n hx hk O1 3 rfl fun c _ => ?_
      show nn (some (pt p 0)) _
      simp only [nn_some, pt_add, Nat.zero_add, Nat.add_zero, Nat.reduceAdd, Nat.reduceMul, Int.toNat_zero, Int.toNat_one, Nat.zero_mul, Nat.one_mul]
      refine F_net_row_Look.is O1 fun s h O => ?_
      refine O.al fun d h O => ?_
      refine O.st 0 rfl (by simp) rfl fun h O => ?_
      dsimp only [V.put, List.set] at O
      replace O := O.sel [3, 0, 1, 2, 4, 5] 6 rfl (Nat.le_add_left _ _)
      simp only [selT, List.map, nth, List.drop, List.cons_append, List.nil_append] at O
      refine F_ref6_Net_Look.is sh O fun s2 h O => ?_
      refine O.al fun d2 h O => ?_
      refine O.st 0 rfl (by simp) rfl fun h O => ?_
      dsimp only [V.put, List.set] at O
      refine jn1 (fun z h' => z = false ∧ Sat h0 h' (netR p n :: rnR q n :: hole pnR xs k :: own a (stC xs bk mark) :: L)) ?_ ?_
      · clear O
        rintro z h ⟨rfl, O⟩
        refine brr_ff rfl ?_
        rw [wrap64 (by omega) (by omega)]
        exact hn (m - 1) _ _ (by omega) ⟨by omega, by omega, O⟩
      · intro j hj
        refine brr_ff (by simp) ?_
        refine O.ld 3 rfl (ldL_c (ldL_c (k := .sl) (x := s) (ldL_n ?_)))
        refine O.ld 0 rfl (ldL_c (ldL_c (k := .sl) (x := s2) (ldL_n ?_)))
        have hs : (n.at_ i).2.length ≤ 281474976710656 := by
          cases hh : n.has i with
          | false => have e : n.at_ i = (0, []) := by unfold NS.at_; rw [hh]; rfl
                     rw [e]; simp
          | true => exact sh _ (List.mem_of_getElem? (NS.has_get hh).2.2)
        refine F_law6_same.is (O.view 4 u8_len (by simp) rfl).1 (O.view 1 u8_len (by simp) rfl).1 (by omega) (by omega) fun h' kk2 => ?_
        have O := O.kept2 kk2
        replace O := O.sel [5, 2, 6, 7] 8 rfl (Nat.le_add_left _ _)
        simp only [selT, List.map, nth, List.drop, List.cons_append, List.nil_append] at O
        exact hj _ _ ⟨by simp, O⟩
end
end Go.Proofs.Ytboidjampddfoaa.V
/- Two nets in turns: one call. -/
namespace Go.Proofs.Ytboidjampddfoaa.V
open Go Go.RowKit
set_option linter.unusedVariables false
set_option linter.unusedSimpArgs false
structure NOp where
  do_ : Int
  which : Int
  at_ : Int
  to : Int
  s : Sl
  b : List UInt8
def nopC (o : NOp) : List Value := [.int .i64 o.do_, .int .i64 o.which, .int .i64 o.at_, .int .i64 o.to, .slice o.s.ptr o.s.len o.s.cap]
/-- A pair that has lost no more than that. -/
def pnC (c : Nat) : PN → Prop | none => True | some x => x.2.2.Ok ∧ x.2.2.Short ∧ x.2.2.lost ≤ c
theorem short_add {n : NS} {m : NM} {r l : Nat} (sh : n.Short) (hm : m.2.length ≤ 281474976710656) : NS.Short ⟨n.l ++ [m], r, l⟩ := by
  intro x hx
  rcases List.mem_append.1 hx with hx | hx
  · exact sh x hx
  · rw [List.mem_singleton.1 hx]; exact hm
theorem pnC_send {n : NS} {m : NM} {c p q : Nat} (hc : c ≤ 100000) (h : pnC c (some (p, q, n))) (hm : m.2.length ≤ 281474976710656) : pnC (c + 1) (some (p, q, n.send m)) := by
  obtain ⟨o, sh, hl⟩ := h
  have o : n.Ok := o
  have sh : n.Short := sh
  have hl : n.lost ≤ c := hl
  show (n.send m).Ok ∧ (n.send m).Short ∧ (n.send m).lost ≤ c + 1
  unfold NS.send
  split
  · exact ⟨⟨by show (n.l ++ [m]).length ≤ n.room; rw [List.length_append, List.length_singleton]; omega, o.room, o.lost⟩, short_add sh hm, by show n.lost ≤ _; omega⟩
  · exact ⟨⟨o.le, o.room, by show n.lost + 1 ≤ _; omega⟩, sh, by show n.lost + 1 ≤ _; omega⟩
theorem pnC_drop {n : NS} {i : Int} {c p q : Nat} (h : pnC c (some (p, q, n))) : pnC (c + 1) (some (p, q, n.drop i)) := by
  obtain ⟨o, sh, hl⟩ := h
  have o : n.Ok := o
  have sh : n.Short := sh
  have hl : n.lost ≤ c := hl
  refine ⟨o.drop i, ?_, ?_⟩
  · show (n.drop i).Short
    unfold NS.drop
    split
    · exact fun x hx => sh x (List.mem_of_mem_eraseIdx hx)
    · exact sh
  · show (n.drop i).lost ≤ _
    unfold NS.drop
    split
    · show n.lost ≤ _; omega
    · omega
theorem at_short {n : NS} {i : Int} (sh : n.Short) : (n.at_ i).2.length ≤ 281474976710656 := by
  cases hh : n.has i with
  | false => have e : n.at_ i = (0, []) := by unfold NS.at_; rw [hh]; rfl
             rw [e]; simp
  | true => exact sh _ (List.mem_of_getElem? (NS.has_get hh).2.2)
theorem pnC_double {n : NS} {i : Int} {c p q : Nat} (h : pnC c (some (p, q, n))) : pnC (c + 1) (some (p, q, n.double i)) := by
  obtain ⟨o, sh, hl⟩ := h
  have o : n.Ok := o
  have sh : n.Short := sh
  have hl : n.lost ≤ c := hl
  refine ⟨o.double i, ?_, ?_⟩
  · show (n.double i).Short
    unfold NS.double NS.put
    split
    · split
      · exact short_add sh (at_short sh)
      · exact sh
    · exact sh
  · show (n.double i).lost ≤ _
    unfold NS.double NS.put
    split
    · split
      · show n.lost ≤ _; omega
      · omega
    · omega
theorem pnC_up {c d : Nat} {x : PN} (h : pnC c x) (hd : c ≤ d) : pnC d x := by
  match x, h with
  | none, _ => trivial
  | some x, h => exact ⟨h.1, h.2.1, Nat.le_trans h.2.2 hd⟩
end Go.Proofs.Ytboidjampddfoaa.V
/- Two nets in turns: one call is as the document says. -/
namespace Go.Proofs.Ytboidjampddfoaa.V
open Go Go.RowKit
set_option linter.unusedVariables false
set_option linter.unusedSimpArgs false
theorem stC_same {xs : List PN} {k p q bk : Nat} {n n' : NS} {mark : Bool} (hx : xs[k]? = some (some (p, q, n))) : stC (xs.set k (some (p, q, n'))) bk mark = stC xs bk mark := by
  unfold stC
  rw [List.map_set, List.map_set, set_same (show (xs.map pnN)[k]? = some (pnN (some (p, q, n'))) by rw [List.getElem?_map, hx]; rfl), set_same (show (xs.map pnW)[k]? = some (pnW (some (p, q, n'))) by rw [List.getElem?_map, hx]; rfl)]
section
variable {h0 h : Heap} {L : List Res}
theorem F_law6_stage_plays.is {a bk T c : Nat} {mark : Bool} {xs : List PN} {o : NOp} {Q : Bool → Heap → Prop} (h2 : xs.length = 2) (hc : c ≤ 100000) (hT : T ≤ 100000000) (hpn : ∀ x ∈ xs, pnC c x) (Vb : Bytes h0 o.s o.b) (hb : o.b.length + 3 ≤ 140737488355328) (hat : o.at_ ≤ (9223372036854775807 : Int))
    (O : Sat h0 h (own a (stC xs bk mark) :: bkR bk T :: many pnR xs :: L)) (kk : ∀ (ys : List PN) h', ys.length = 2 → (∀ x ∈ ys, pnC (c + 1) x) → Sat h0 h' (own a (stC ys bk mark) :: bkR bk (T + 1) :: many pnR ys :: L) → Q true h') : F_law6_stage_plays (some (pt a 0)) o.do_ o.which o.at_ o.to o.s h Q := by
  rw [F_law6_stage_plays.eq_1, F_law6_stage_plays_of.eq_1]
  refine O.al fun b h O => ?_
  simp only [nn_some, pt_add, Nat.zero_add, Nat.add_zero, Nat.reduceAdd, Nat.reduceMul, Int.toNat_zero, Int.toNat_one, Nat.zero_mul, Nat.one_mul]
  refine O.ld 0 rfl (ldL_c (ldL_n ?_))
  refine F_law6_into.is (by decide) (by decide) ?_
  have n0 := Int.emod_nonneg o.which (show (2 : Int) ≠ 0 by decide)
  have n1 := Int.emod_lt_of_pos o.which (show (0 : Int) < 2 by decide)
  obtain ⟨k, hkk⟩ : ∃ k : Nat, o.which % 2 = k := ⟨(o.which % 2).toNat, by omega⟩
  rw [hkk] at n0 n1 ⊢
  have hk : k < 2 := by omega
  obtain ⟨x, hx⟩ : ∃ x, xs[k]? = some x := ⟨_, List.getElem?_eq_getElem (by omega)⟩
  refine O.ld 0 rfl (ldL_c (ldL_n ?_))
  refine brr_eq (fun _ => ?_) (fun h6 => ?_)
  · refine O.ld 0 rfl (ldL_c (ldL_n ?_))
    replace O := O.sel [1, 3, 2] 4 rfl (Nat.le_add_left _ _)
    simp only [selT, List.map, nth, List.drop, List.cons_append, List.nil_append] at O
    refine F_law6_stage_fresh.is h2 hk O fun y h hy hz O => ?_
    refine kk (xs.set k y) h (by simp [h2]) (fun z hzz => ?_) ((bk_up (O.sel [2, 0, 1] 3 rfl (Nat.le_add_left _ _)) (Nat.le_succ T)).swap)
    rcases List.mem_or_eq_of_mem_set hzz with hzz | rfl
    · exact pnC_up (hpn z hzz) (Nat.le_succ c)
    · match z, hy 0, hz with
      | none, _, _ => trivial
      | some z, hy, hz => exact ⟨hy.1, hy.2, by rw [(hz z rfl).2]; omega⟩
  refine st_n hx hk O 1 rfl fun c1 _ => ?_
  refine st_w h2 hx hk O 1 rfl fun c2 _ => ?_
  match x, hx with
  | none, hx =>
    refine brr_tt rfl ?_
    have O := O.drop
    exact kk xs h h2 (fun z hz => pnC_up (hpn z hz) (Nat.le_succ c)) (bk_up O.swap (Nat.le_succ T)).swap
  | some (p, q, n), hx =>
    refine brr_ff rfl ?_
    have hpx := hpn _ (List.mem_of_getElem? hx)
    have ok : n.Ok := hpx.1
    have sh : n.Short := hpx.2.1
    refine O.ld 0 rfl (ldL_c (ldL_n ?_))
    have O := ((O.sel [3, 0, 1, 2] 4 rfl (Nat.le_add_left _ _)).take k hx).sep
    have O : Sat h0 h (netR p n :: rnR q n :: hole pnR xs k :: own b (nopC o) :: own a (stC xs bk mark) :: bkR bk T :: L) := O
    show jn _ _ _
    simp only [pnN, pnW]
    refine jn1 (fun z h' => z = true ∧ ∃ n', pnC (c + 1) (some (p, q, n')) ∧ Sat h0 h' (netR p n' :: rnR q n' :: hole pnR xs k :: own b (nopC o) :: own a (stC xs bk mark) :: bkR bk (T + 1) :: L)) ?_ ?_
    · clear O
      rintro z h ⟨rfl, n', hn', O⟩
      refine jn1 (fun z h' => z = true ∧ h' = h) ?_ ?_
      · rintro z h ⟨rfl, rfl⟩
        have O := Sat.give (f := pnR) (y := some (p, q, n')) O.sepI (List.getElem?_eq_some_iff.1 hx).1
        have O : Sat h0 h (many pnR (xs.set k (some (p, q, n'))) :: own b (nopC o) :: own a (stC xs bk mark) :: bkR bk (T + 1) :: L) := O
        rw [← stC_same (n' := n') hx] at O
        replace O := O.sel [2, 3, 0] 4 rfl (Nat.le_add_left _ _)
        simp only [selT, List.map, nth, List.drop, List.cons_append, List.nil_append] at O
        refine kk _ h (by simp [h2]) (fun z hzz => ?_) O
        rcases List.mem_or_eq_of_mem_set hzz with hzz | rfl
        · exact pnC_up (hpn z hzz) (Nat.le_succ c)
        · exact hn'
      · intro j hj
        refine brr_tt rfl ?_
        simp only [nn_some, pt_add, Nat.zero_add, Nat.add_zero, Nat.reduceAdd, Nat.reduceMul, Int.toNat_zero, Int.toNat_one, Nat.zero_mul, Nat.one_mul]
        refine F_net_row_Len.is O ?_
        refine F_ref6_Net_Len.is O.swap ?_
        refine brr_eq (fun _ => ?_) (fun e => absurd rfl e)
        refine F_net_Net_Lost.is O ?_
        refine F_ref6_Net_Lost.is O.swap ?_
        exact hj _ _ ⟨by simp, rfl⟩
    intro j23 hj23
    have fin : ∀ {j : Bool → Heap → Prop}, (∀ z h', (z = true ∧ ∃ n', pnC (c + 1) (some (p, q, n')) ∧ Sat h0 h' (netR p n' :: rnR q n' :: hole pnR xs k :: own b (nopC o) :: own a (stC xs bk mark) :: bkR bk (T + 1) :: L)) → j z h') → ∀ {z : Bool} {n' : NS} {h : Heap}, z = true → pnC (c + 1) (some (p, q, n')) → Sat h0 h (netR p n' :: rnR q n' :: hole pnR xs k :: own b (nopC o) :: own a (stC xs bk mark) :: bkR bk (T + 1) :: L) → j z h := fun hj _ _ _ hz hn O => hj _ _ ⟨hz, _, hn, O⟩
    clear kk
    have up1 : ∀ {h : Heap} {n' : NS}, Sat h0 h (netR p n' :: rnR q n' :: hole pnR xs k :: own b (nopC o) :: own a (stC xs bk mark) :: bkR bk T :: L) → Sat h0 h (netR p n' :: rnR q n' :: hole pnR xs k :: own b (nopC o) :: own a (stC xs bk mark) :: bkR bk (T + 1) :: L) := fun O =>
      (bk_up (O.sel [5, 0, 1, 2, 3, 4] 6 rfl (Nat.le_add_left _ _)) (Nat.le_succ T)).sel [1, 2, 3, 4, 5, 0] 6 rfl (Nat.le_add_left _ _)
    have ca : ∀ {h : Heap} {M : List Res} (O : Sat h0 h M) (i : Nat) (hl : i < M.length) (hi : nth i M = own b (nopC o)) (j m : Nat), cellsAre h (pt b j) (((nopC o).drop j).take m) := fun O i hl hi j m => cellsAre_blk (O.blk hl hi).2 j m
    refine brr_eq (fun h1 => ?_) (fun h1 => ?_)
    · refine O.ld 3 rfl (ldL_c (ldL_n ?_))
      replace O := O.sel [3, 0, 1, 2, 4, 5] 6 rfl (Nat.le_add_left _ _)
      simp only [selT, List.map, nth, List.drop, List.cons_append, List.nil_append] at O
      refine F_law1_Lend.is O (Vb.kept O.kept) hb fun r h O hr => ?_
      refine jn1 (fun z h' => z = true ∧ Sat h0 h' (lent r o.b :: netR p (n.send (o.to, o.b)) :: rnR q (n.send (o.to, o.b)) :: hole pnR xs k :: own b (nopC o) :: own a (stC xs bk mark) :: bkR bk T :: L)) ?_ ?_
      · clear O
        rintro z h ⟨rfl, O⟩
        refine F_law1_Over.is O hr (by omega) fun h O => ?_
        exact fin hj23 rfl (pnC_send hc hpx (by show o.b.length ≤ _; omega)) (up1 O)
      · intro j hj
        refine O.ld 1 rfl (ldL_c (ldL_n ?_))
        refine O.ld 1 rfl (ldL_c (ldL_n ?_))
        refine O.ld 1 rfl (ldL_c (ldL_n ?_))
        replace O := O.sel [2, 0, 1, 3, 4, 5, 6] 7 rfl (Nat.le_add_left _ _)
        simp only [selT, List.map, nth, List.drop, List.cons_append, List.nil_append] at O
        refine F_net_Net_Send.is ok (O.lent 1 (by simp) rfl).1 O fun h O => ?_
        refine ⟨ca O 2 (by simp) rfl 3 1, ca O 2 (by simp) rfl 4 1, ?_⟩
        replace O := O.sel [3, 0, 1, 2, 4, 5, 6] 7 rfl (Nat.le_add_left _ _)
        simp only [selT, List.map, nth, List.drop, List.cons_append, List.nil_append] at O
        refine F_ref6_Net_Send.is ok (fun h O => Vb.kept O.kept) (by omega) O fun h O => ?_
        refine brr_tt (by simp) ?_
        refine O.ld 3 rfl (ldL_c (ldL_n ?_))
        refine F_law1_Intact.is O 2 (by simp) rfl (Vb.kept O.kept) (by omega) ?_
        refine hj _ _ ⟨by simp, ?_⟩
        exact O.sel [2, 1, 0, 4, 3, 5, 6] 7 rfl (Nat.le_add_left _ _)
    refine jn1 _ hj23 ?_
    intro j41 hj41
    refine brr_eq (fun g2 => ?_) (fun g2 => ?_)
    · refine jn2 (fun (f : Addr) (z : Bool) h' => ∃ c s, f = pt c 0 ∧ z = n.has o.at_ ∧ Sat h0 h' (own c [.int .i64 (n.at_ o.at_).1, .slice s.ptr s.len s.cap] :: buf 1 u8 s (n.at_ o.at_).2 :: netR p n :: rnR q n :: hole pnR xs k :: own b (nopC o) :: own a (stC xs bk mark) :: bkR bk T :: L)) ?_ ?_
      · clear O
        rintro f z h ⟨c1, s, rfl, rfl, O⟩
        refine O.ld 5 rfl (ldL_c (ldL_n ?_))
        replace O := O.sel [3, 0, 1, 2, 4, 5, 6, 7] 8 rfl (Nat.le_add_left _ _)
        simp only [selT, List.map, nth, List.drop, List.cons_append, List.nil_append] at O
        refine F_ref6_Net_Look.is sh O fun s2 h O => ?_
        refine O.al fun d2 h O => ?_
        refine O.st 0 rfl (by simp) rfl fun h O => ?_
        dsimp only [V.put, List.set] at O
        refine O.ld 3 rfl (ldL_c (ldL_c (k := .sl) (x := s) (ldL_n ?_)))
        refine O.ld 0 rfl (ldL_c (ldL_c (k := .sl) (x := s2) (ldL_n ?_)))
        replace O := O.sel [4, 1, 8, 9, 5, 2, 6, 7] 10 rfl (Nat.le_add_left _ _)
        simp only [selT, List.map, nth, List.drop, List.cons_append, List.nil_append] at O
        refine F_law6_stage_told.is h2 (by omega) (at_short sh) O fun h O => ?_
        refine fin hj41 rfl (pnC_up hpx (Nat.le_succ c)) ?_
        exact O.sel [2, 3, 4, 5, 0, 1] 6 rfl (Nat.le_add_left _ _)
      · intro j hj
        refine ⟨?_, ?_⟩
        · show nn (some (pt p 0)) _
          simp only [nn_some, pt_add, Nat.zero_add, Nat.add_zero, Nat.reduceAdd, Nat.reduceMul, Int.toNat_zero, Int.toNat_one, Nat.zero_mul, Nat.one_mul]
          refine O.ld 3 rfl (ldL_c (ldL_n ?_))
          refine F_net_row_Look.is O fun s h O => ?_
          refine O.al fun d h O => ?_
          refine ⟨ca O 5 (by simp) rfl 2 1, ?_⟩
          refine O.st 0 rfl (by simp) rfl fun h O => ?_
          dsimp only [V.put, List.set] at O
          exact hj _ _ _ ⟨d, s, rfl, rfl, O⟩
        · show nn (some (pt p 0)) _
          simp only [nn_some, pt_add, Nat.zero_add, Nat.add_zero, Nat.reduceAdd, Nat.reduceMul, Int.toNat_zero, Int.toNat_one, Nat.zero_mul, Nat.one_mul]
          refine O.ld 3 rfl (ldL_c (ldL_n ?_))
          refine O.al fun d h O => ?_
          refine ⟨ca O 4 (by simp) rfl 2 1, ?_⟩
          replace O := O.sel [1, 2, 3, 4, 5, 6, 0] 7 rfl (Nat.le_add_left _ _)
          simp only [selT, List.map, nth, List.drop, List.cons_append, List.nil_append] at O
          refine F_net_row_Look.is O fun s h O => ?_
          replace O := O.sel [7, 0, 1, 2, 3, 4, 5, 6] 8 rfl (Nat.le_add_left _ _)
          simp only [selT, List.map, nth, List.drop, List.cons_append, List.nil_append] at O
          refine O.st 0 rfl (by simp) rfl fun h O => ?_
          dsimp only [V.put, List.set] at O
          exact hj _ _ _ ⟨d, s, rfl, rfl, O⟩
    refine jn1 _ hj41 ?_
    intro j78 hj78
    refine brr_eq (fun h3 => ?_) (fun h3 => ?_)
    · refine jn2 (fun (f : Addr) (z : Bool) h' => ∃ c s, f = pt c 0 ∧ z = n.has o.at_ ∧ Sat h0 h' (own c [.int .i64 (n.at_ o.at_).1, .slice s.ptr s.len s.cap] :: buf 1 u8 s (n.at_ o.at_).2 :: netR p (n.drop o.at_) :: rnR q n :: hole pnR xs k :: own b (nopC o) :: own a (stC xs bk mark) :: bkR bk T :: L)) ?_ ?_
      · clear O
        rintro f z h ⟨c1, s, rfl, rfl, O⟩
        refine O.ld 5 rfl (ldL_c (ldL_n ?_))
        replace O := O.sel [3, 0, 1, 2, 4, 5, 6, 7] 8 rfl (Nat.le_add_left _ _)
        simp only [selT, List.map, nth, List.drop, List.cons_append, List.nil_append] at O
        refine F_ref6_Net_Take.is ok sh O fun s2 h O => ?_
        refine O.al fun d2 h O => ?_
        refine O.st 0 rfl (by simp) rfl fun h O => ?_
        dsimp only [V.put, List.set] at O
        refine O.ld 3 rfl (ldL_c (ldL_c (k := .sl) (x := s) (ldL_n ?_)))
        refine O.ld 0 rfl (ldL_c (ldL_c (k := .sl) (x := s2) (ldL_n ?_)))
        replace O := O.sel [4, 1, 8, 9, 5, 2, 6, 7] 10 rfl (Nat.le_add_left _ _)
        simp only [selT, List.map, nth, List.drop, List.cons_append, List.nil_append] at O
        refine F_law6_stage_told.is h2 (by omega) (at_short sh) O fun h O => ?_
        refine fin hj78 rfl (pnC_drop (i := o.at_) hpx) ?_
        exact O.sel [2, 3, 4, 5, 0, 1] 6 rfl (Nat.le_add_left _ _)
      · intro j hj
        refine ⟨?_, ?_⟩
        · show nn (some (pt p 0)) _
          simp only [nn_some, pt_add, Nat.zero_add, Nat.add_zero, Nat.reduceAdd, Nat.reduceMul, Int.toNat_zero, Int.toNat_one, Nat.zero_mul, Nat.one_mul]
          refine O.ld 3 rfl (ldL_c (ldL_n ?_))
          refine F_net_row_Take.is hat ok O fun s h O => ?_
          refine O.al fun d h O => ?_
          refine ⟨ca O 5 (by simp) rfl 2 1, ?_⟩
          refine O.st 0 rfl (by simp) rfl fun h O => ?_
          dsimp only [V.put, List.set] at O
          exact hj _ _ _ ⟨d, s, rfl, rfl, O⟩
        · show nn (some (pt p 0)) _
          simp only [nn_some, pt_add, Nat.zero_add, Nat.add_zero, Nat.reduceAdd, Nat.reduceMul, Int.toNat_zero, Int.toNat_one, Nat.zero_mul, Nat.one_mul]
          refine O.ld 3 rfl (ldL_c (ldL_n ?_))
          refine O.al fun d h O => ?_
          refine ⟨ca O 4 (by simp) rfl 2 1, ?_⟩
          replace O := O.sel [1, 2, 3, 4, 5, 6, 0] 7 rfl (Nat.le_add_left _ _)
          simp only [selT, List.map, nth, List.drop, List.cons_append, List.nil_append] at O
          refine F_net_row_Take.is hat ok O fun s h O => ?_
          replace O := O.sel [7, 0, 1, 2, 3, 4, 5, 6] 8 rfl (Nat.le_add_left _ _)
          simp only [selT, List.map, nth, List.drop, List.cons_append, List.nil_append] at O
          refine O.st 0 rfl (by simp) rfl fun h O => ?_
          dsimp only [V.put, List.set] at O
          exact hj _ _ _ ⟨d, s, rfl, rfl, O⟩
    refine jn1 _ hj78 ?_
    intro j115 hj115
    refine brr_eq (fun h4 => ?_) (fun h4 => ?_)
    · show nn (some (pt p 0)) _
      simp only [nn_some, pt_add, Nat.zero_add, Nat.add_zero, Nat.reduceAdd, Nat.reduceMul, Int.toNat_zero, Int.toNat_one, Nat.zero_mul, Nat.one_mul]
      refine O.ld 3 rfl (ldL_c (ldL_n ?_))
      refine O.ld 3 rfl (ldL_c (ldL_n ?_))
      refine F_net_row_Drop.is (by have := ok.le; have := ok.room; omega) O fun h O => ?_
      refine ⟨ca O 3 (by simp) rfl 2 1, ?_⟩
      refine F_ref6_Net_Drop.is ok O.swap fun h O => ?_
      exact fin hj115 (by simp) (pnC_drop (i := o.at_) hpx) (up1 O.swap)
    refine jn1 _ hj115 ?_
    intro j123 hj123
    refine brr_eq (fun h5 => ?_) (fun h5 => ?_)
    · show nn (some (pt p 0)) _
      simp only [nn_some, pt_add, Nat.zero_add, Nat.add_zero, Nat.reduceAdd, Nat.reduceMul, Int.toNat_zero, Int.toNat_one, Nat.zero_mul, Nat.one_mul]
      refine O.ld 3 rfl (ldL_c (ldL_n ?_))
      refine O.ld 3 rfl (ldL_c (ldL_n ?_))
      refine F_net_row_Double.is ok O fun h O => ?_
      refine ⟨ca O 3 (by simp) rfl 2 1, ?_⟩
      refine F_ref6_Net_Double.is ok sh O.swap fun h O => ?_
      exact fin hj123 (by simp) (pnC_double (i := o.at_) hpx) (up1 O.swap)
    exact fin hj123 rfl (pnC_up hpx (Nat.le_succ c)) (up1 O)
end
end Go.Proofs.Ytboidjampddfoaa.V
/- Two nets in turns: the whole play; NetExact. -/
namespace Go.Proofs.Ytboidjampddfoaa.V
open Go Go.RowKit
set_option linter.unusedVariables false
set_option linter.unusedSimpArgs false
abbrev tyNOp : Ty := .cons (.int .i64) (.cons (.int .i64) (.cons (.int .i64) (.cons (.int .i64) (.cons (.sl 1 1 (.int .u8)) .nil))))
abbrev tyNScript : Ty := .cons (.cons (.int .i64) (.cons (.int .i64) .nil)) (.cons (.sl 5 56 tyNOp) .nil)
def nopR (H : Heap) (o : NOp) (cs : List Value) : Prop := cs = nopC o ∧ Bytes H o.s o.b ∧ o.b.length + 3 ≤ 140737488355328 ∧ o.at_ ≤ (9223372036854775807 : Int)
theorem SlN.nops {h : Heap} {s : Sl} (S : SlN h 140737488351232 5 56 s fun cs => Fit h 140737488351232 tyNOp cs) : ∃ l : List NOp, View h 5 (nopR h) s l := by
  obtain ⟨h1, h2, _, xs, V⟩ := S.view (nopR h) (fun cs F => by
    obtain ⟨_, _, rfl, _, ⟨t1, rfl, t1a, t1b⟩, _, _, rfl, _, ⟨t2, rfl, t2a, t2b⟩, _, _, rfl, _, ⟨t3, rfl, t3a, t3b⟩, _, _, rfl, _, ⟨t4, rfl, t4a, t4b⟩, _, _, rfl, _, ⟨t5, rfl, t5S⟩, rfl⟩ := F
    rw [i64_max] at t3b
    obtain ⟨hc, hc2, l, Vl⟩ := t5S.bytes
    have hl := Vl.len
    refine ⟨⟨t1, t2, t3, t4, t5, l⟩, ?_, Vl, by show l.length + 3 ≤ _; omega, t3b⟩
    show _ = [_, _, _, _, _]
    rfl)
  exact ⟨xs, V⟩
section
variable {h0 h : Heap} {L : List Res}
theorem book_new {bk : Nat} (O : Sat h0 h (own bk (bkC ⟨none, 0, 0⟩ ⟨none, 0, 0⟩ 0 0 0 0) :: L)) : Sat h0 h (bkR bk 0 :: L) := by
  have O := famR.none O
  have O := O.nil_buf (sz := 1) (enc := natc)
  have O := O.nil_buf (sz := 1) (enc := slc)
  replace O := O.sel [3, 0, 1, 2] 4 rfl (Nat.le_add_left _ _)
  simp only [selT, List.map, nth, List.drop, List.cons_append, List.nil_append] at O
  exact Sat.bookI (x := ⟨⟨none, 0, 0⟩, ⟨none, 0, 0⟩, [], 0, 0, 0, 0⟩) ⟨Nat.le_refl _, Nat.le_refl _, by simp, by decide, fun i e hi => by simp at hi⟩ O
theorem pnOk_of {c : Nat} {x : PN} (h : pnC c x) : pnOk 0 x := by
  match x, h with
  | none, _ => trivial
  | some x, h => exact ⟨h.1, h.2.1⟩
theorem pnC_new {c : Nat} {y : PN} (hy : ∀ N, pnOk N y) (hz : ∀ z, y = some z → z.2.2.l = [] ∧ z.2.2.lost = 0) : pnC c y := by
  match y, hy 0, hz with
  | none, _, _ => trivial
  | some z, hy, hz => exact ⟨hy.1, hy.2, by rw [(hz z rfl).2]; omega⟩
/-- The stage as it is made. -/
theorem stage0 {bk a : Nat} {mark : Bool} {r0 r1 : Int} {c5 : Nat} {s3 : Sl} {j : Bool → Heap → Prop} (O : Sat h0 h (own a [.pointer none, .pointer none, .pointer none, .pointer none, .pointer (some (pt bk 0)), .bool mark] :: own bk (bkC ⟨none, 0, 0⟩ ⟨none, 0, 0⟩ 0 0 0 0) :: own c5 [.int .i64 r0, .int .i64 r1, .slice s3.ptr s3.len s3.cap] :: L))
    (kk : ∀ (xs : List PN) h', xs.length = 2 → (∀ x ∈ xs, pnC 0 x) → Sat h0 h' (own a (stC xs bk mark) :: bkR bk 0 :: many pnR xs :: own c5 [.int .i64 r0, .int .i64 r1, .slice s3.ptr s3.len s3.cap] :: L) → j false h') :
    ixA 1 (pt c5 0) 2 0 fun a12 => ld [.int .i64] a12 h fun v13 => F_law6_stage_fresh (some (pt a 0)) 0 v13 h fun r14 h15 => brr (!r14) (j true h15) (ixA 1 (pt c5 0) 2 1 fun a16 => ld [.int .i64] a16 h15 fun v17 => F_law6_stage_fresh (some (pt a 0)) 1 v17 h15 fun r18 h19 => j (!r18) h19) := by
  have O : Sat h0 h (own a (stC [none, none] bk mark) :: own bk (bkC ⟨none, 0, 0⟩ ⟨none, 0, 0⟩ 0 0 0 0) :: own c5 [.int .i64 r0, .int .i64 r1, .slice s3.ptr s3.len s3.cap] :: L) := O
  have O := (book_new O.swap).swap
  have O : Sat h0 h (many pnR [] :: own a (stC [none, none] bk mark) :: bkR bk 0 :: own c5 [.int .i64 r0, .int .i64 r1, .slice s3.ptr s3.len s3.cap] :: L) := O.none (f := pnR)
  have O : Sat h0 h (pnR none :: many pnR [] :: own a (stC [none, none] bk mark) :: bkR bk 0 :: own c5 [.int .i64 r0, .int .i64 r1, .slice s3.ptr s3.len s3.cap] :: L) := O.empI
  have O := O.more
  have O : Sat h0 h (pnR none :: many pnR [none] :: own a (stC [none, none] bk mark) :: bkR bk 0 :: own c5 [.int .i64 r0, .int .i64 r1, .slice s3.ptr s3.len s3.cap] :: L) := O.empI
  have O := O.more
  have O : Sat h0 h (many pnR [none, none] :: own a (stC [none, none] bk mark) :: bkR bk 0 :: own c5 [.int .i64 r0, .int .i64 r1, .slice s3.ptr s3.len s3.cap] :: L) := O
  refine ⟨by decide, by decide, ?_⟩
  simp only [pt_add, Int.toNat_zero, Nat.zero_mul, Nat.add_zero]
  refine O.ld 3 rfl (ldL_c (ldL_n ?_))
  replace O := O.sel [1, 0, 2, 3] 4 rfl (Nat.le_add_left _ _)
  simp only [selT, List.map, nth, List.drop, List.cons_append, List.nil_append] at O
  refine F_law6_stage_fresh.is (k := 0) rfl (by decide) O fun y0 h hy0 hz0 O => ?_
  refine brr_ff rfl ?_
  refine ⟨by decide, by decide, ?_⟩
  simp only [pt_add, Int.toNat_one, Nat.one_mul, Nat.zero_add]
  refine O.ld 3 rfl (ldL_c (ldL_n ?_))
  refine F_law6_stage_fresh.is (k := 1) rfl (by decide) O fun y1 h hy1 hz1 O => ?_
  refine kk [y0, y1] h rfl (fun x hx => ?_) (O.sel [0, 2, 1, 3] 4 rfl (Nat.le_add_left _ _))
  simp only [List.mem_cons, List.not_mem_nil, or_false] at hx
  rcases hx with rfl | rfl
  · exact pnC_new hy0 hz0
  · exact pnC_new hy1 hz1
theorem F_law6_play.is {r0 r1 : Int} {s3 : Sl} {mark : Bool} {ops : List NOp} {Q : Bool → Heap → Prop} (Vo : View h0 5 (nopR h0) s3 ops) (O : Sat h0 h L) (kk : ∀ h', Sat h0 h' L → Q true h') : F_law6_play r0 r1 s3 mark h Q := by
  rw [F_law6_play.eq_1, F_law6_play_of.eq_1]
  refine O.al fun c5 h O => ?_
  refine O.al fun bk h O => ?_
  refine O.al fun a h O => ?_
  refine jn1 (fun z h' => z = false ∧ ∃ xs : List PN, xs.length = 2 ∧ (∀ x ∈ xs, pnC 0 x) ∧ Sat h0 h' (own a (stC xs bk mark) :: bkR bk 0 :: many pnR xs :: own c5 [.int .i64 r0, .int .i64 r1, .slice s3.ptr s3.len s3.cap] :: L)) ?_ ?_
  case refine_2 =>
    intro j hj
    exact stage0 O fun xs h h2 hx O => hj _ _ ⟨rfl, xs, h2, hx, O⟩
  clear O
  rintro z h ⟨rfl, xs, h2, hx, O⟩
  refine brr_ff rfl ?_
  refine jn0 (fun h' => ∃ xs : List PN, xs.length = 2 ∧ (∀ x ∈ xs, pnOk 0 x) ∧ Sat h0 h' (own a (stC xs bk mark) :: many pnR xs :: L)) ?_ ?_
  · clear O hx h2 xs
    rintro h ⟨xs, h2, hx, O⟩
    refine jn1 (fun z h' => z = true ∧ Sat h0 h' L) (fun z h' ⟨e, O⟩ => e ▸ kk h' O) fun j hj => ?_
    refine F_law6_stage_all.is (k := 0) h2 (by decide) hx O fun h O => ?_
    refine brr_tt rfl ?_
    refine F_law6_stage_all.is (k := 1) h2 (by decide) hx O fun h O => ?_
    refine brr_tt rfl ?_
    refine F_law6_lives.is O.drop.drop fun h O => ?_
    exact hj _ _ ⟨rfl, O⟩
  intro j22 hj22
  rw [F_law6_play.l1.eq_1]
  refine wl1 (k := .int .i64) (fun (m : Nat) (i : Int) (h' : Heap) => i + m = ops.length ∧ 0 ≤ i ∧ i ≤ 400 ∧ ∃ xs : List PN, xs.length = 2 ∧ (∀ x ∈ xs, pnC i.toNat x) ∧ Sat h0 h' (own a (stC xs bk mark) :: bkR bk i.toNat :: many pnR xs :: own c5 [.int .i64 r0, .int .i64 r1, .slice s3.ptr s3.len s3.cap] :: L)) ?_ (m := ops.length) ⟨by omega, by omega, by omega, xs, h2, hx, O⟩
  clear O hx h2 xs
  rintro m (i : Int) h next hn ⟨hi, hi0, hi4, xs, h2, hx, O⟩
  refine jn1 (fun t h' => h' = h ∧ t = decide (i < ops.length ∧ i < 400)) ?_ ?_
  case refine_2 =>
    intro j2 hj2
    simp only [nn_some, pt_add, Nat.zero_add, Nat.add_zero, Nat.reduceAdd, Nat.reduceMul, Int.toNat_zero, Int.toNat_one, Nat.zero_mul, Nat.one_mul]
    refine O.ld 3 rfl (ldL_c (k := .sl) (x := s3) (ldL_n ?_))
    rw [Vo.len]
    refine brr_p (fun hlt => ?_) (fun hlt => ?_)
    · exact hj2 _ _ ⟨rfl, by simp [hlt]⟩
    · exact hj2 _ _ ⟨rfl, by simp; intro h; omega⟩
  rintro t h ⟨rfl, rfl⟩
  refine brr_p (fun ht => ?_) (fun ht => hj22 _ ⟨xs, h2, fun x hm => pnOk_of (hx x hm), O.sel [0, 2] 4 rfl (Nat.le_add_left _ _)⟩)
  obtain ⟨hlt, hlt4⟩ := ht
  refine jn1 (fun z h' => z = false ∧ ∃ xs : List PN, xs.length = 2 ∧ (∀ x ∈ xs, pnC (i.toNat + 1) x) ∧ Sat h0 h' (own a (stC xs bk mark) :: bkR bk (i.toNat + 1) :: many pnR xs :: own c5 [.int .i64 r0, .int .i64 r1, .slice s3.ptr s3.len s3.cap] :: L)) ?_ ?_
  · clear O hx h2 xs
    rintro z h ⟨rfl, xs, h2, hx, O⟩
    refine brr_ff rfl ?_
    have e1 : (i + 1).toNat = i.toNat + 1 := by omega
    rw [wrap64 (by omega) (by omega)]
    exact hn (m - 1) _ _ (by omega) ⟨by omega, by omega, by omega, xs, h2, by rw [e1]; exact hx, by rw [e1]; exact O⟩
  intro j30 hj30
  simp only [nn_some, pt_add, Nat.zero_add, Nat.add_zero, Nat.reduceAdd, Nat.reduceMul, Int.toNat_zero, Int.toNat_one, Nat.zero_mul, Nat.one_mul]
  refine O.ld 3 rfl (ldL_c (k := .sl) (x := s3) (ldL_n ?_))
  refine (Vo.kept O.kept).ix hi0 hlt fun a2 cs o ho hlen hR hc => ?_
  obtain ⟨rfl, Vb, hb, hat⟩ := hR
  refine ld_are hc (ldL_c (ldL_c (ldL_c (ldL_c (ldL_c (k := .sl) (x := o.s) (ldL_n ?_))))))
  refine F_law6_stage_plays.is h2 (by omega) (by omega) hx Vb hb hat O fun ys h h2 hy O => ?_
  refine brr_ff rfl ?_
  have e4 : ∀ {h : Heap} {K : Option Addr → Prop}, Sat h0 h (own a (stC ys bk mark) :: bkR bk (i.toNat + 1) :: many pnR ys :: own c5 [.int .i64 r0, .int .i64 r1, .slice s3.ptr s3.len s3.cap] :: L) → K (some (pt bk 0)) → ld [.ptr] (pt a 4) h K := by
    intro h K O k
    refine O.ld 0 rfl ?_
    rw [stC_tail h2]
    exact ldL_c (k := .ptr) (ldL_n k)
  refine e4 O ?_
  refine F_law1_Book_Look.is (by omega) O.swap fun h O => ?_
  exact hj30 _ _ ⟨rfl, ys, h2, hy, O.swap⟩
end
theorem netExact_main (H : Heap) (cs : List Value) (F : Fit H 140737488351232 tyNScript cs) : E_law6_NetExact [.agg cs.toArray] H (fun r h' => r = .bool true ∧ KeptH H h') := by
  obtain ⟨_, _, rfl, _, ⟨_, _, rfl, _, ⟨t1, rfl, _, _⟩, _, _, rfl, _, ⟨t2, rfl, _, _⟩, rfl⟩, _, _, rfl, _, ⟨t3, rfl, t3S⟩, rfl⟩ := F
  simp only [List.cons_append, List.nil_append, List.append_nil]
  refine Eq.mpr (E_law6_NetExact.at F_law6_NetExact t1 t2 t3 H _) ?_
  obtain ⟨ops, Vo⟩ := t3S.nops
  rw [F_law6_NetExact.eq_1, F_law6_NetExact_of.eq_1]
  refine Sat.al (Sat.nil H) fun c4 h1 O => ?_
  refine O.ld 0 rfl (ldL_c (ldL_c (ldL_c (k := .sl) (x := t3) (ldL_n ?_))))
  refine F_law6_play.is Vo O fun h O => ?_
  exact ⟨rfl, O.kept⟩
end Go.Proofs.Ytboidjampddfoaa.V
namespace Go.Proofs.Ytboidjampddfoaa.V
open Go Go.RowKit
set_option linter.unusedVariables false
set_option maxRecDepth 100000
def F_law3_Shelf_holds_of  (x1 : Option Addr) (n2 : Int) (h : Heap) (Q : Bool → Heap → Prop) : Prop :=
  nn x1 fun (a3 : Addr) =>
  ld [.int .i64] (a3.add 0) h fun (v4 : Int) =>
  nn x1 fun (a5 : Addr) =>
  st (a5.add 0) [.int .i64 (IntKind.i64.wrap ((IntKind.i64.wrap (v4 + n2)) + 50))] h fun (h6 : Heap) =>
  nn x1 fun (a7 : Addr) =>
  ld [.int .i64] (a7.add 0) h6 fun (v8 : Int) =>
  Q (decide (v8 ≤ 4194304)) h6
def F_law3_Shelf_holds (x1 : Option Addr) (n2 : Int) (h : Heap) (Q : Bool → Heap → Prop) : Prop := F_law3_Shelf_holds_of  x1 n2 h Q
def plan87 : Plan := .s (.r [0, 1]) (.s (.r [0]) (.s (.r [4]) .z))
theorem F_law3_Shelf_holds.eq  (x1 : Option Addr) (n2 : Int) (h : Heap) (K : Value → Heap → Prop) : F_law3_Shelf_holds_of  x1 n2 h (fun (r0 : Bool) (h : Heap) => K (.bool r0) h) =
    den Try.prog noFns Try.f87.ntmps plan87 (bodyOf Try.f87) (args0 0 [(.pointer x1 : Value), (.int .i64 n2 : Value)]) h ⟨fun env h => dRes Try.prog Try.f87.results.toList env h K, fun _ _ _ => False, fun env h => dRes Try.prog Try.f87.results.toList env h K⟩ := by kernel_rfl
def E_law3_Shelf_holds_of (f : Option Addr → Int → Heap → (Bool → Heap → Prop) → Prop) : List Value → Heap → (Value → Heap → Prop) → Prop
  | [v0, v1], h, K => dec1 .ptr v0 fun (x1 : Option Addr) =>
  dec1 (.int .i64) v1 fun (n2 : Int) =>
  f x1 n2 h (fun (r0 : Bool) (h : Heap) => K (.bool r0) h)
  | _, _, _ => False
abbrev E_law3_Shelf_holds := E_law3_Shelf_holds_of F_law3_Shelf_holds
theorem E_law3_Shelf_holds.right : IsRight Try.prog 87 E_law3_Shelf_holds := by
  refine isRight fun vs K w hh => ?_
  match vs, hh with
  | [v0, v1], hh =>
    unfold E_law3_Shelf_holds E_law3_Shelf_holds_of at hh
    replace hh := dec1_sound hh; obtain ⟨x1, rfl, hh⟩ := hh
    replace hh := dec1_sound hh; obtain ⟨n2, rfl, hh⟩ := hh
    unfold F_law3_Shelf_holds at hh
    exact calls_den noFns_right plan87 _ w K Try.func87 (by kernel_rfl) (by kernel_rfl) (Eq.mp (F_law3_Shelf_holds.eq  x1 n2 w.heap K) hh)
theorem ok87 : okFn Try.prog 87 = true := by kernel_rfl
end Go.Proofs.Ytboidjampddfoaa.V
namespace Go.Proofs.Ytboidjampddfoaa.V
open Go Go.RowKit
set_option linter.unusedVariables false
set_option maxRecDepth 100000
def F_law3_Shelf_Bytes_of (f85_ : Sl → Heap → (Sl → Heap → Prop) → Prop) (f87_ : Option Addr → Int → Heap → (Bool → Heap → Prop) → Prop) (x1 : Option Addr) (l2 : Sl) (h : Heap) (Q : Heap → Prop) : Prop :=
  f87_ x1 ((l2.len : Nat) : Int) h fun (r3 : Bool) (h4 : Heap) =>
  jn [] (fun  (h24 : Heap) =>
  Q h24) (fun (j5 : Heap → Prop) =>
  brr r3
  (nn x1 fun (a6 : Addr) =>
  ld [.sl] (a6.add 3) h4 fun (v7 : Sl) =>
  al 31 [.slice l2.ptr l2.len l2.cap] h4 fun (a8 : Addr) (h9 : Heap) =>
  app 31 1 24 (.slice none 0 0) v7 (some a8) 1 h9 fun (s10 : Sl) (h11 : Heap) =>
  nn x1 fun (a12 : Addr) =>
  st (a12.add 3) [.slice s10.ptr s10.len s10.cap] h11 fun (h13 : Heap) =>
  nn x1 fun (a14 : Addr) =>
  ld [.sl] (a14.add 4) h13 fun (v15 : Sl) =>
  f85_ l2 h13 fun (r16 : Sl) (h17 : Heap) =>
  cellsAre h17 (a14.add 4) [.slice v15.ptr v15.len v15.cap] ∧
  al 31 [.slice r16.ptr r16.len r16.cap] h17 fun (a18 : Addr) (h19 : Heap) =>
  cellsAre h19 (a14.add 4) [.slice v15.ptr v15.len v15.cap] ∧
  app 31 1 24 (.slice none 0 0) v15 (some a18) 1 h19 fun (s20 : Sl) (h21 : Heap) =>
  nn x1 fun (a22 : Addr) =>
  st (a22.add 4) [.slice s20.ptr s20.len s20.cap] h21 fun (h23 : Heap) =>
  j5 h23)
  (j5 h4))
def F_law3_Shelf_Bytes (x1 : Option Addr) (l2 : Sl) (h : Heap) (Q : Heap → Prop) : Prop := F_law3_Shelf_Bytes_of F_ref0_Copy F_law3_Shelf_holds x1 l2 h Q
def plan63 : Plan := .s (.r [0, 1, 7]) (.cj [] [] (.s (.r [0, 1]) (.d [0, 0, 2, 6, 14, 0, 32, 96, 254, 511, 1023, 2047] [[0, 1, 2, 3, 4, 5, 6, 7, 8, 9, 10, 11]] [])) .z)
theorem F_law3_Shelf_Bytes.eq (f85_ : Sl → Heap → (Sl → Heap → Prop) → Prop) (f87_ : Option Addr → Int → Heap → (Bool → Heap → Prop) → Prop) (x1 : Option Addr) (l2 : Sl) (h : Heap) (K : Value → Heap → Prop) : F_law3_Shelf_Bytes_of f85_ f87_ x1 l2 h (fun  (h : Heap) => K (.tuple #[]) h) =
    den Try.prog (fn1 85 (E_ref0_Copy_of f85_) (fn1 87 (E_law3_Shelf_holds_of f87_) noFns)) Try.f63.ntmps plan63 (bodyOf Try.f63) (args0 0 [(.pointer x1 : Value), (.slice l2.ptr l2.len l2.cap : Value)]) h ⟨fun env h => dRes Try.prog Try.f63.results.toList env h K, fun _ _ _ => False, fun env h => dRes Try.prog Try.f63.results.toList env h K⟩ := by kernel_rfl
def E_law3_Shelf_Bytes_of (f : Option Addr → Sl → Heap → (Heap → Prop) → Prop) : List Value → Heap → (Value → Heap → Prop) → Prop
  | [v0, v1], h, K => dec1 .ptr v0 fun (x1 : Option Addr) =>
  dec1 .sl v1 fun (l2 : Sl) =>
  f x1 l2 h (fun  (h : Heap) => K (.tuple #[]) h)
  | _, _, _ => False
abbrev E_law3_Shelf_Bytes := E_law3_Shelf_Bytes_of F_law3_Shelf_Bytes
theorem E_law3_Shelf_Bytes.right : IsRight Try.prog 63 E_law3_Shelf_Bytes := by
  refine isRight fun vs K w hh => ?_
  match vs, hh with
  | [v0, v1], hh =>
    unfold E_law3_Shelf_Bytes E_law3_Shelf_Bytes_of at hh
    replace hh := dec1_sound hh; obtain ⟨x1, rfl, hh⟩ := hh
    replace hh := dec1_sound hh; obtain ⟨l2, rfl, hh⟩ := hh
    unfold F_law3_Shelf_Bytes at hh
    exact calls_den (fn1_right ok85 E_ref0_Copy.right (fn1_right ok87 E_law3_Shelf_holds.right noFns_right)) plan63 _ w K Try.func63 (by kernel_rfl) (by kernel_rfl) (Eq.mp (F_law3_Shelf_Bytes.eq F_ref0_Copy F_law3_Shelf_holds x1 l2 w.heap K) hh)
theorem ok63 : okFn Try.prog 63 = true := by kernel_rfl
end Go.Proofs.Ytboidjampddfoaa.V
namespace Go.Proofs.Ytboidjampddfoaa.V
open Go Go.RowKit
set_option linter.unusedVariables false
set_option maxRecDepth 100000
def F_ref0_EqInts.l1 (a1 b2 : Sl) (Q : Bool → Heap → Prop) (j3 : Heap → Prop) : Int → Heap → Prop :=
  wl [(5, .one (.int .i64))] (fun (next4 : Int → Heap → Prop) (i5 : Int) (h6 : Heap) =>
  brr (decide (i5 < ((a1.len : Nat) : Int)))
  (ixS 1 a1 i5 fun (a7 : Addr) =>
  ld [.int .i64] a7 h6 fun (v8 : Int) =>
  ixS 1 b2 i5 fun (a9 : Addr) =>
  ld [.int .i64] a9 h6 fun (v10 : Int) =>
  brr (v8 != v10)
  (Q false h6)
  (next4 (IntKind.i64.wrap (i5 + 1)) h6))
  (j3 h6))
def F_ref0_EqInts_of  (a1 b2 : Sl) (h : Heap) (Q : Bool → Heap → Prop) : Prop :=
  brr (((a1.len : Nat) : Int) != ((b2.len : Nat) : Int))
  (Q false h)
  (jn [] (fun  (h11 : Heap) =>
  Q true h11) (fun (j3 : Heap → Prop) =>
  F_ref0_EqInts.l1 a1 b2 Q j3 0 h))
def F_ref0_EqInts (a1 b2 : Sl) (h : Heap) (Q : Bool → Heap → Prop) : Prop := F_ref0_EqInts_of  a1 b2 h Q
def plan113 : Plan := .s (.r [0, 1]) (.s (.s (.r [0, 1, 10]) (.c (.s (.r [4]) .z) .z)) (.s (.s (.r [0, 1, 5]) (.bj [] [] (.l [(5, .one (.int .i64))] [0, 1] (.s (.s (.r [0, 1, 5, 14]) (.c .z .z)) (.s (.b (.s (.d [0, 0, 3, 7, 0, 0, 48, 112, 255] [[0, 1, 2, 3, 4, 5, 6, 7, 8]] [0, 1, 5, 25]) (.c (.s (.r [4]) .z) .z))) (.r [0, 1, 5])))))) (.s (.r [4]) .z)))
theorem F_ref0_EqInts.eq  (a1 b2 : Sl) (h : Heap) (K : Value → Heap → Prop) : F_ref0_EqInts_of  a1 b2 h (fun (r0 : Bool) (h : Heap) => K (.bool r0) h) =
    den Try.prog noFns Try.f113.ntmps plan113 (bodyOf Try.f113) (args0 0 [(.slice a1.ptr a1.len a1.cap : Value), (.slice b2.ptr b2.len b2.cap : Value)]) h ⟨fun env h => dRes Try.prog Try.f113.results.toList env h K, fun _ _ _ => False, fun env h => dRes Try.prog Try.f113.results.toList env h K⟩ := by kernel_rfl
def E_ref0_EqInts_of (f : Sl → Sl → Heap → (Bool → Heap → Prop) → Prop) : List Value → Heap → (Value → Heap → Prop) → Prop
  | [v0, v1], h, K => dec1 .sl v0 fun (a1 : Sl) =>
  dec1 .sl v1 fun (b2 : Sl) =>
  f a1 b2 h (fun (r0 : Bool) (h : Heap) => K (.bool r0) h)
  | _, _, _ => False
abbrev E_ref0_EqInts := E_ref0_EqInts_of F_ref0_EqInts
theorem E_ref0_EqInts.right : IsRight Try.prog 113 E_ref0_EqInts := by
  refine isRight fun vs K w hh => ?_
  match vs, hh with
  | [v0, v1], hh =>
    unfold E_ref0_EqInts E_ref0_EqInts_of at hh
    replace hh := dec1_sound hh; obtain ⟨a1, rfl, hh⟩ := hh
    replace hh := dec1_sound hh; obtain ⟨b2, rfl, hh⟩ := hh
    unfold F_ref0_EqInts at hh
    exact calls_den noFns_right plan113 _ w K Try.func113 (by kernel_rfl) (by kernel_rfl) (Eq.mp (F_ref0_EqInts.eq  a1 b2 w.heap K) hh)
theorem ok113 : okFn Try.prog 113 = true := by kernel_rfl
end Go.Proofs.Ytboidjampddfoaa.V
namespace Go.Proofs.Ytboidjampddfoaa.V
open Go Go.RowKit
set_option linter.unusedVariables false
set_option maxRecDepth 100000
def F_ref0_EqMsg_of (f112_ : Sl → Sl → Heap → (Int → Heap → Prop) → Prop) (a1 a2 a3 a4 a5 a6 a7 a8 a9 a10 : Int) (a11 : Sl) (a12 a13 : Int) (a14 a15 : ByteArray) (a16 a17 a18 a19 a20 a21 a22 b23 b24 b25 b26 b27 b28 b29 b30 b31 b32 : Int) (b33 : Sl) (b34 b35 : Int) (b36 b37 : ByteArray) (b38 b39 b40 b41 b42 b43 b44 : Int) (h : Heap) (Q : Bool → Heap → Prop) : Prop :=
  al 36 [.int .i64 a1, .int .i64 a2, .int .i64 a3, .int .i64 a4, .int .u64 a5, .int .u64 a6, .int .u64 a7, .int .u64 a8, .int .i64 a9, .int .u64 a10, .slice a11.ptr a11.len a11.cap, .int .i64 a12, .int .u64 a13, .string a14, .string a15, .int .u64 a16, .int .u64 a17, .int .u64 a18, .int .i64 a19, .int .i64 a20, .int .i64 a21, .int .i64 a22] h fun (a45 : Addr) (h46 : Heap) =>
  al 36 [.int .i64 b23, .int .i64 b24, .int .i64 b25, .int .i64 b26, .int .u64 b27, .int .u64 b28, .int .u64 b29, .int .u64 b30, .int .i64 b31, .int .u64 b32, .slice b33.ptr b33.len b33.cap, .int .i64 b34, .int .u64 b35, .string b36, .string b37, .int .u64 b38, .int .u64 b39, .int .u64 b40, .int .i64 b41, .int .i64 b42, .int .i64 b43, .int .i64 b44] h46 fun (a47 : Addr) (h48 : Heap) =>
  jn [(4, .one .bool)] (fun (x96 : Bool) (h97 : Heap) =>
  Q x96 h97) (fun (j49 : Bool → Heap → Prop) =>
  ld [.int .i64, .int .i64, .int .i64, .int .i64] (a45.add 0) h48 fun (v50 v51 v52 v53 : Int) =>
  ld [.int .i64, .int .i64, .int .i64, .int .i64] (a47.add 0) h48 fun (v54 v55 v56 v57 : Int) =>
  brr ((v50 == v54) && ((v51 == v55) && ((v52 == v56) && ((v53 == v57) && (true)))))
  (ld [.int .u64] (a45.add 4) h48 fun (v58 : Int) =>
  ld [.int .u64] (a47.add 4) h48 fun (v59 : Int) =>
  brr (v58 == v59)
  (ld [.int .u64, .int .u64] (a45.add 5) h48 fun (v60 v61 : Int) =>
  ld [.int .u64, .int .u64] (a47.add 5) h48 fun (v62 v63 : Int) =>
  brr ((v60 == v62) && ((v61 == v63) && (true)))
  (ld [.int .u64] (a45.add 7) h48 fun (v64 : Int) =>
  ld [.int .u64] (a47.add 7) h48 fun (v65 : Int) =>
  brr (v64 == v65)
  (ld [.int .i64] (a45.add 8) h48 fun (v66 : Int) =>
  ld [.int .i64] (a47.add 8) h48 fun (v67 : Int) =>
  brr (v66 == v67)
  (ld [.int .u64] (a45.add 9) h48 fun (v68 : Int) =>
  ld [.int .u64] (a47.add 9) h48 fun (v69 : Int) =>
  brr (v68 == v69)
  (ld [.sl] (a45.add 10) h48 fun (v70 : Sl) =>
  ld [.sl] (a47.add 10) h48 fun (v71 : Sl) =>
  f112_ v70 v71 h48 fun (r72 : Int) (h73 : Heap) =>
  brr (r72 == 0)
  (ld [.int .i64] (a45.add 11) h73 fun (v74 : Int) =>
  ld [.int .i64] (a47.add 11) h73 fun (v75 : Int) =>
  brr (v74 == v75)
  (ld [.int .u64] (a45.add 12) h73 fun (v76 : Int) =>
  ld [.int .u64] (a47.add 12) h73 fun (v77 : Int) =>
  brr (v76 == v77)
  (ld [.str] (a45.add 13) h73 fun (v78 : ByteArray) =>
  ld [.str] (a47.add 13) h73 fun (v79 : ByteArray) =>
  brr (v78.toList == v79.toList)
  (ld [.str] (a45.add 14) h73 fun (v80 : ByteArray) =>
  ld [.str] (a47.add 14) h73 fun (v81 : ByteArray) =>
  brr (v80.toList == v81.toList)
  (ld [.int .u64] (a45.add 15) h73 fun (v82 : Int) =>
  ld [.int .u64] (a47.add 15) h73 fun (v83 : Int) =>
  brr (v82 == v83)
  (ld [.int .u64, .int .u64] (a45.add 16) h73 fun (v84 v85 : Int) =>
  ld [.int .u64, .int .u64] (a47.add 16) h73 fun (v86 v87 : Int) =>
  brr ((v84 == v86) && ((v85 == v87) && (true)))
  (ld [.int .i64] (a45.add 18) h73 fun (v88 : Int) =>
  ld [.int .i64] (a47.add 18) h73 fun (v89 : Int) =>
  brr (v88 == v89)
  (ld [.int .i64] (a45.add 19) h73 fun (v90 : Int) =>
  ld [.int .i64] (a47.add 19) h73 fun (v91 : Int) =>
  brr (v90 == v91)
  (ld [.int .i64] (a45.add 20) h73 fun (v92 : Int) =>
  ld [.int .i64] (a47.add 20) h73 fun (v93 : Int) =>
  brr (v92 == v93)
  (ld [.int .i64] (a45.add 21) h73 fun (v94 : Int) =>
  ld [.int .i64] (a47.add 21) h73 fun (v95 : Int) =>
  j49 (v94 == v95) h73)
  (j49 false h73))
  (j49 false h73))
  (j49 false h73))
  (j49 false h73))
  (j49 false h73))
  (j49 false h73))
  (j49 false h73))
  (j49 false h73))
  (j49 false h73))
  (j49 false h73))
  (j49 false h48))
  (j49 false h48))
  (j49 false h48))
  (j49 false h48))
  (j49 false h48))
  (j49 false h48))
def F_ref0_EqMsg (a1 a2 a3 a4 a5 a6 a7 a8 a9 a10 : Int) (a11 : Sl) (a12 a13 : Int) (a14 a15 : ByteArray) (a16 a17 a18 a19 a20 a21 a22 b23 b24 b25 b26 b27 b28 b29 b30 b31 b32 : Int) (b33 : Sl) (b34 b35 : Int) (b36 b37 : ByteArray) (b38 b39 b40 b41 b42 b43 b44 : Int) (h : Heap) (Q : Bool → Heap → Prop) : Prop := F_ref0_EqMsg_of F_ref0_Cmp a1 a2 a3 a4 a5 a6 a7 a8 a9 a10 a11 a12 a13 a14 a15 a16 a17 a18 a19 a20 a21 a22 b23 b24 b25 b26 b27 b28 b29 b30 b31 b32 b33 b34 b35 b36 b37 b38 b39 b40 b41 b42 b43 b44 h Q
def plan119 : Plan := .s (.r [2, 3]) (.s (.rj [(4, .one .bool)] []) .z)
theorem F_ref0_EqMsg.eq (f112_ : Sl → Sl → Heap → (Int → Heap → Prop) → Prop) (a1 a2 a3 a4 a5 a6 a7 a8 a9 a10 : Int) (a11 : Sl) (a12 a13 : Int) (a14 a15 : ByteArray) (a16 a17 a18 a19 a20 a21 a22 b23 b24 b25 b26 b27 b28 b29 b30 b31 b32 : Int) (b33 : Sl) (b34 b35 : Int) (b36 b37 : ByteArray) (b38 b39 b40 b41 b42 b43 b44 : Int) (h : Heap) (K : Value → Heap → Prop) : F_ref0_EqMsg_of f112_ a1 a2 a3 a4 a5 a6 a7 a8 a9 a10 a11 a12 a13 a14 a15 a16 a17 a18 a19 a20 a21 a22 b23 b24 b25 b26 b27 b28 b29 b30 b31 b32 b33 b34 b35 b36 b37 b38 b39 b40 b41 b42 b43 b44 h (fun (r0 : Bool) (h : Heap) => K (.bool r0) h) =
    den Try.prog (fn1 112 (E_ref0_Cmp_of f112_) noFns) Try.f119.ntmps plan119 (bodyOf Try.f119) (args0 0 [(.agg #[.int .i64 a1, .int .i64 a2, .int .i64 a3, .int .i64 a4, .int .u64 a5, .int .u64 a6, .int .u64 a7, .int .u64 a8, .int .i64 a9, .int .u64 a10, .slice a11.ptr a11.len a11.cap, .int .i64 a12, .int .u64 a13, .string a14, .string a15, .int .u64 a16, .int .u64 a17, .int .u64 a18, .int .i64 a19, .int .i64 a20, .int .i64 a21, .int .i64 a22] : Value), (.agg #[.int .i64 b23, .int .i64 b24, .int .i64 b25, .int .i64 b26, .int .u64 b27, .int .u64 b28, .int .u64 b29, .int .u64 b30, .int .i64 b31, .int .u64 b32, .slice b33.ptr b33.len b33.cap, .int .i64 b34, .int .u64 b35, .string b36, .string b37, .int .u64 b38, .int .u64 b39, .int .u64 b40, .int .i64 b41, .int .i64 b42, .int .i64 b43, .int .i64 b44] : Value)]) h ⟨fun env h => dRes Try.prog Try.f119.results.toList env h K, fun _ _ _ => False, fun env h => dRes Try.prog Try.f119.results.toList env h K⟩ := by kernel_rfl
def E_ref0_EqMsg_of (f : Int → Int → Int → Int → Int → Int → Int → Int → Int → Int → Sl → Int → Int → ByteArray → ByteArray → Int → Int → Int → Int → Int → Int → Int → Int → Int → Int → Int → Int → Int → Int → Int → Int → Int → Sl → Int → Int → ByteArray → ByteArray → Int → Int → Int → Int → Int → Int → Int → Heap → (Bool → Heap → Prop) → Prop) : List Value → Heap → (Value → Heap → Prop) → Prop
  | [v0, v1], h, K => vAgg v0 fun cs0 => decs [.int .i64, .int .i64, .int .i64, .int .i64, .int .u64, .int .u64, .int .u64, .int .u64, .int .i64, .int .u64, .sl, .int .i64, .int .u64, .str, .str, .int .u64, .int .u64, .int .u64, .int .i64, .int .i64, .int .i64, .int .i64] cs0.toList fun (a1 a2 a3 a4 a5 a6 a7 a8 a9 a10 : Int) (a11 : Sl) (a12 a13 : Int) (a14 a15 : ByteArray) (a16 a17 a18 a19 a20 a21 a22 : Int) =>
  vAgg v1 fun cs1 => decs [.int .i64, .int .i64, .int .i64, .int .i64, .int .u64, .int .u64, .int .u64, .int .u64, .int .i64, .int .u64, .sl, .int .i64, .int .u64, .str, .str, .int .u64, .int .u64, .int .u64, .int .i64, .int .i64, .int .i64, .int .i64] cs1.toList fun (b23 b24 b25 b26 b27 b28 b29 b30 b31 b32 : Int) (b33 : Sl) (b34 b35 : Int) (b36 b37 : ByteArray) (b38 b39 b40 b41 b42 b43 b44 : Int) =>
  f a1 a2 a3 a4 a5 a6 a7 a8 a9 a10 a11 a12 a13 a14 a15 a16 a17 a18 a19 a20 a21 a22 b23 b24 b25 b26 b27 b28 b29 b30 b31 b32 b33 b34 b35 b36 b37 b38 b39 b40 b41 b42 b43 b44 h (fun (r0 : Bool) (h : Heap) => K (.bool r0) h)
  | _, _, _ => False
abbrev E_ref0_EqMsg := E_ref0_EqMsg_of F_ref0_EqMsg
theorem E_ref0_EqMsg.right : IsRight Try.prog 119 E_ref0_EqMsg := by
  refine isRight fun vs K w hh => ?_
  match vs, hh with
  | [v0, v1], hh =>
    unfold E_ref0_EqMsg E_ref0_EqMsg_of at hh
    replace hh := vAgg_sound hh; obtain ⟨cs0, rfl, hh⟩ := hh
    replace hh := decs_cons hh; obtain ⟨a1, l0_0, e0_0, hh⟩ := hh
    replace hh := decs_cons hh; obtain ⟨a2, l0_1, e0_1, hh⟩ := hh
    replace hh := decs_cons hh; obtain ⟨a3, l0_2, e0_2, hh⟩ := hh
    replace hh := decs_cons hh; obtain ⟨a4, l0_3, e0_3, hh⟩ := hh
    replace hh := decs_cons hh; obtain ⟨a5, l0_4, e0_4, hh⟩ := hh
    replace hh := decs_cons hh; obtain ⟨a6, l0_5, e0_5, hh⟩ := hh
    replace hh := decs_cons hh; obtain ⟨a7, l0_6, e0_6, hh⟩ := hh
    replace hh := decs_cons hh; obtain ⟨a8, l0_7, e0_7, hh⟩ := hh
    replace hh := decs_cons hh; obtain ⟨a9, l0_8, e0_8, hh⟩ := hh
    replace hh := decs_cons hh; obtain ⟨a10, l0_9, e0_9, hh⟩ := hh
    replace hh := decs_cons hh; obtain ⟨a11, l0_10, e0_10, hh⟩ := hh
    replace hh := decs_cons hh; obtain ⟨a12, l0_11, e0_11, hh⟩ := hh
    replace hh := decs_cons hh; obtain ⟨a13, l0_12, e0_12, hh⟩ := hh
    replace hh := decs_cons hh; obtain ⟨a14, l0_13, e0_13, hh⟩ := hh
    replace hh := decs_cons hh; obtain ⟨a15, l0_14, e0_14, hh⟩ := hh
    replace hh := decs_cons hh; obtain ⟨a16, l0_15, e0_15, hh⟩ := hh
    replace hh := decs_cons hh; obtain ⟨a17, l0_16, e0_16, hh⟩ := hh
    replace hh := decs_cons hh; obtain ⟨a18, l0_17, e0_17, hh⟩ := hh
    replace hh := decs_cons hh; obtain ⟨a19, l0_18, e0_18, hh⟩ := hh
    replace hh := decs_cons hh; obtain ⟨a20, l0_19, e0_19, hh⟩ := hh
    replace hh := decs_cons hh; obtain ⟨a21, l0_20, e0_20, hh⟩ := hh
    replace hh := decs_cons hh; obtain ⟨a22, l0_21, e0_21, hh⟩ := hh
    replace hh := decs_nil hh; obtain ⟨rfl, hh⟩ := hh
    subst e0_21
    subst e0_20
    subst e0_19
    subst e0_18
    subst e0_17
    subst e0_16
    subst e0_15
    subst e0_14
    subst e0_13
    subst e0_12
    subst e0_11
    subst e0_10
    subst e0_9
    subst e0_8
    subst e0_7
    subst e0_6
    subst e0_5
    subst e0_4
    subst e0_3
    subst e0_2
    subst e0_1
    have ec0 := toArray_eq e0_0
    subst ec0
    replace hh := vAgg_sound hh; obtain ⟨cs1, rfl, hh⟩ := hh
    replace hh := decs_cons hh; obtain ⟨b23, l1_0, e1_0, hh⟩ := hh
    replace hh := decs_cons hh; obtain ⟨b24, l1_1, e1_1, hh⟩ := hh
    replace hh := decs_cons hh; obtain ⟨b25, l1_2, e1_2, hh⟩ := hh
    replace hh := decs_cons hh; obtain ⟨b26, l1_3, e1_3, hh⟩ := hh
    replace hh := decs_cons hh; obtain ⟨b27, l1_4, e1_4, hh⟩ := hh
    replace hh := decs_cons hh; obtain ⟨b28, l1_5, e1_5, hh⟩ := hh
    replace hh := decs_cons hh; obtain ⟨b29, l1_6, e1_6, hh⟩ := hh
    replace hh := decs_cons hh; obtain ⟨b30, l1_7, e1_7, hh⟩ := hh
    replace hh := decs_cons hh; obtain ⟨b31, l1_8, e1_8, hh⟩ := hh
    replace hh := decs_cons hh; obtain ⟨b32, l1_9, e1_9, hh⟩ := hh
    replace hh := decs_cons hh; obtain ⟨b33, l1_10, e1_10, hh⟩ := hh
    replace hh := decs_cons hh; obtain ⟨b34, l1_11, e1_11, hh⟩ := hh
    replace hh := decs_cons hh; obtain ⟨b35, l1_12, e1_12, hh⟩ := hh
    replace hh := decs_cons hh; obtain ⟨b36, l1_13, e1_13, hh⟩ := hh
    replace hh := decs_cons hh; obtain ⟨b37, l1_14, e1_14, hh⟩ := hh
    replace hh := decs_cons hh; obtain ⟨b38, l1_15, e1_15, hh⟩ := hh
    replace hh := decs_cons hh; obtain ⟨b39, l1_16, e1_16, hh⟩ := hh
    replace hh := decs_cons hh; obtain ⟨b40, l1_17, e1_17, hh⟩ := hh
    replace hh := decs_cons hh; obtain ⟨b41, l1_18, e1_18, hh⟩ := hh
    replace hh := decs_cons hh; obtain ⟨b42, l1_19, e1_19, hh⟩ := hh
    replace hh := decs_cons hh; obtain ⟨b43, l1_20, e1_20, hh⟩ := hh
    replace hh := decs_cons hh; obtain ⟨b44, l1_21, e1_21, hh⟩ := hh
    replace hh := decs_nil hh; obtain ⟨rfl, hh⟩ := hh
    subst e1_21
    subst e1_20
    subst e1_19
    subst e1_18
    subst e1_17
    subst e1_16
    subst e1_15
    subst e1_14
    subst e1_13
    subst e1_12
    subst e1_11
    subst e1_10
    subst e1_9
    subst e1_8
    subst e1_7
    subst e1_6
    subst e1_5
    subst e1_4
    subst e1_3
    subst e1_2
    subst e1_1
    have ec1 := toArray_eq e1_0
    subst ec1
    unfold F_ref0_EqMsg at hh
    exact calls_den (fn1_right ok112 E_ref0_Cmp.right noFns_right) plan119 _ w K Try.func119 (by kernel_rfl) (by kernel_rfl) (Eq.mp (F_ref0_EqMsg.eq F_ref0_Cmp a1 a2 a3 a4 a5 a6 a7 a8 a9 a10 a11 a12 a13 a14 a15 a16 a17 a18 a19 a20 a21 a22 b23 b24 b25 b26 b27 b28 b29 b30 b31 b32 b33 b34 b35 b36 b37 b38 b39 b40 b41 b42 b43 b44 w.heap K) hh)
theorem ok119 : okFn Try.prog 119 = true := by kernel_rfl
end Go.Proofs.Ytboidjampddfoaa.V
namespace Go.Proofs.Ytboidjampddfoaa.V
open Go Go.RowKit
set_option linter.unusedVariables false
set_option maxRecDepth 100000
def F_ref0_EqMsgs.l1 (f119_ : Int → Int → Int → Int → Int → Int → Int → Int → Int → Int → Sl → Int → Int → ByteArray → ByteArray → Int → Int → Int → Int → Int → Int → Int → Int → Int → Int → Int → Int → Int → Int → Int → Int → Int → Sl → Int → Int → ByteArray → ByteArray → Int → Int → Int → Int → Int → Int → Int → Heap → (Bool → Heap → Prop) → Prop) (a1 b2 : Sl) (Q : Bool → Heap → Prop) (j3 : Heap → Prop) : Int → Heap → Prop :=
  wl [(5, .one (.int .i64))] (fun (next4 : Int → Heap → Prop) (i5 : Int) (h6 : Heap) =>
  brr (decide (i5 < ((a1.len : Nat) : Int)))
  (ixS 22 a1 i5 fun (a7 : Addr) =>
  ld [.int .i64, .int .i64, .int .i64, .int .i64, .int .u64, .int .u64, .int .u64, .int .u64, .int .i64, .int .u64, .sl, .int .i64, .int .u64, .str, .str, .int .u64, .int .u64, .int .u64, .int .i64, .int .i64, .int .i64, .int .i64] a7 h6 fun (v8 v9 v10 v11 v12 v13 v14 v15 v16 v17 : Int) (v18 : Sl) (v19 v20 : Int) (v21 v22 : ByteArray) (v23 v24 v25 v26 v27 v28 v29 : Int) =>
  ixS 22 b2 i5 fun (a30 : Addr) =>
  ld [.int .i64, .int .i64, .int .i64, .int .i64, .int .u64, .int .u64, .int .u64, .int .u64, .int .i64, .int .u64, .sl, .int .i64, .int .u64, .str, .str, .int .u64, .int .u64, .int .u64, .int .i64, .int .i64, .int .i64, .int .i64] a30 h6 fun (v31 v32 v33 v34 v35 v36 v37 v38 v39 v40 : Int) (v41 : Sl) (v42 v43 : Int) (v44 v45 : ByteArray) (v46 v47 v48 v49 v50 v51 v52 : Int) =>
  f119_ v8 v9 v10 v11 v12 v13 v14 v15 v16 v17 v18 v19 v20 v21 v22 v23 v24 v25 v26 v27 v28 v29 v31 v32 v33 v34 v35 v36 v37 v38 v39 v40 v41 v42 v43 v44 v45 v46 v47 v48 v49 v50 v51 v52 h6 fun (r53 : Bool) (h54 : Heap) =>
  brr (!r53)
  (Q false h54)
  (next4 (IntKind.i64.wrap (i5 + 1)) h54))
  (j3 h6))
def F_ref0_EqMsgs_of (f119_ : Int → Int → Int → Int → Int → Int → Int → Int → Int → Int → Sl → Int → Int → ByteArray → ByteArray → Int → Int → Int → Int → Int → Int → Int → Int → Int → Int → Int → Int → Int → Int → Int → Int → Int → Sl → Int → Int → ByteArray → ByteArray → Int → Int → Int → Int → Int → Int → Int → Heap → (Bool → Heap → Prop) → Prop) (a1 b2 : Sl) (h : Heap) (Q : Bool → Heap → Prop) : Prop :=
  brr (((a1.len : Nat) : Int) != ((b2.len : Nat) : Int))
  (Q false h)
  (jn [] (fun  (h55 : Heap) =>
  Q true h55) (fun (j3 : Heap → Prop) =>
  F_ref0_EqMsgs.l1 f119_ a1 b2 Q j3 0 h))
def F_ref0_EqMsgs (a1 b2 : Sl) (h : Heap) (Q : Bool → Heap → Prop) : Prop := F_ref0_EqMsgs_of F_ref0_EqMsg a1 b2 h Q
def plan114 : Plan := .s (.r [0, 1]) (.s (.s (.r [0, 1, 10]) (.c (.s (.r [4]) .z) .z)) (.s (.s (.r [0, 1, 5]) (.bj [] [] (.l [(5, .one (.int .i64))] [0, 1] (.s (.s (.r [0, 1, 5, 14]) (.c .z .z)) (.s (.b (.s (.d [0, 0, 3, 7, 0, 0, 48, 112, 255, 511] [[0, 1, 2, 3, 4, 5, 6, 7, 8, 9]] [0, 1, 5, 26]) (.c (.s (.r [4]) .z) .z))) (.r [0, 1, 5])))))) (.s (.r [4]) .z)))
theorem F_ref0_EqMsgs.eq (f119_ : Int → Int → Int → Int → Int → Int → Int → Int → Int → Int → Sl → Int → Int → ByteArray → ByteArray → Int → Int → Int → Int → Int → Int → Int → Int → Int → Int → Int → Int → Int → Int → Int → Int → Int → Sl → Int → Int → ByteArray → ByteArray → Int → Int → Int → Int → Int → Int → Int → Heap → (Bool → Heap → Prop) → Prop) (a1 b2 : Sl) (h : Heap) (K : Value → Heap → Prop) : F_ref0_EqMsgs_of f119_ a1 b2 h (fun (r0 : Bool) (h : Heap) => K (.bool r0) h) =
    den Try.prog (fn1 119 (E_ref0_EqMsg_of f119_) noFns) Try.f114.ntmps plan114 (bodyOf Try.f114) (args0 0 [(.slice a1.ptr a1.len a1.cap : Value), (.slice b2.ptr b2.len b2.cap : Value)]) h ⟨fun env h => dRes Try.prog Try.f114.results.toList env h K, fun _ _ _ => False, fun env h => dRes Try.prog Try.f114.results.toList env h K⟩ := by kernel_rfl
def E_ref0_EqMsgs_of (f : Sl → Sl → Heap → (Bool → Heap → Prop) → Prop) : List Value → Heap → (Value → Heap → Prop) → Prop
  | [v0, v1], h, K => dec1 .sl v0 fun (a1 : Sl) =>
  dec1 .sl v1 fun (b2 : Sl) =>
  f a1 b2 h (fun (r0 : Bool) (h : Heap) => K (.bool r0) h)
  | _, _, _ => False
abbrev E_ref0_EqMsgs := E_ref0_EqMsgs_of F_ref0_EqMsgs
theorem E_ref0_EqMsgs.right : IsRight Try.prog 114 E_ref0_EqMsgs := by
  refine isRight fun vs K w hh => ?_
  match vs, hh with
  | [v0, v1], hh =>
    unfold E_ref0_EqMsgs E_ref0_EqMsgs_of at hh
    replace hh := dec1_sound hh; obtain ⟨a1, rfl, hh⟩ := hh
    replace hh := dec1_sound hh; obtain ⟨b2, rfl, hh⟩ := hh
    unfold F_ref0_EqMsgs at hh
    exact calls_den (fn1_right ok119 E_ref0_EqMsg.right noFns_right) plan114 _ w K Try.func114 (by kernel_rfl) (by kernel_rfl) (Eq.mp (F_ref0_EqMsgs.eq F_ref0_EqMsg a1 b2 w.heap K) hh)
theorem ok114 : okFn Try.prog 114 = true := by kernel_rfl
end Go.Proofs.Ytboidjampddfoaa.V
namespace Go.Proofs.Ytboidjampddfoaa.V
open Go Go.RowKit
set_option linter.unusedVariables false
set_option maxRecDepth 100000
def F_ref0_EqDones.l1 (a1 b2 : Sl) (Q : Bool → Heap → Prop) (j3 : Heap → Prop) : Int → Heap → Prop :=
  wl [(5, .one (.int .i64))] (fun (next4 : Int → Heap → Prop) (i5 : Int) (h6 : Heap) =>
  brr (decide (i5 < ((a1.len : Nat) : Int)))
  (ixS 5 a1 i5 fun (a7 : Addr) =>
  ld [.int .i64, .int .u64, .int .i64, .int .i64, .int .u64] a7 h6 fun (v8 v9 v10 v11 v12 : Int) =>
  ixS 5 b2 i5 fun (a13 : Addr) =>
  ld [.int .i64, .int .u64, .int .i64, .int .i64, .int .u64] a13 h6 fun (v14 v15 v16 v17 v18 : Int) =>
  brr (!((v8 == v14) && ((v9 == v15) && ((v10 == v16) && ((v11 == v17) && ((v12 == v18) && (true)))))))
  (Q false h6)
  (next4 (IntKind.i64.wrap (i5 + 1)) h6))
  (j3 h6))
def F_ref0_EqDones_of  (a1 b2 : Sl) (h : Heap) (Q : Bool → Heap → Prop) : Prop :=
  brr (((a1.len : Nat) : Int) != ((b2.len : Nat) : Int))
  (Q false h)
  (jn [] (fun  (h19 : Heap) =>
  Q true h19) (fun (j3 : Heap → Prop) =>
  F_ref0_EqDones.l1 a1 b2 Q j3 0 h))
def F_ref0_EqDones (a1 b2 : Sl) (h : Heap) (Q : Bool → Heap → Prop) : Prop := F_ref0_EqDones_of  a1 b2 h Q
def plan115 : Plan := .s (.r [0, 1]) (.s (.s (.r [0, 1, 10]) (.c (.s (.r [4]) .z) .z)) (.s (.s (.r [0, 1, 5]) (.bj [] [] (.l [(5, .one (.int .i64))] [0, 1] (.s (.s (.r [0, 1, 5, 14]) (.c .z .z)) (.s (.b (.s (.d [0, 0, 3, 7, 0, 0, 48, 112, 255] [[0, 1, 2, 3, 4, 5, 6, 7, 8]] [0, 1, 5, 25]) (.c (.s (.r [4]) .z) .z))) (.r [0, 1, 5])))))) (.s (.r [4]) .z)))
theorem F_ref0_EqDones.eq  (a1 b2 : Sl) (h : Heap) (K : Value → Heap → Prop) : F_ref0_EqDones_of  a1 b2 h (fun (r0 : Bool) (h : Heap) => K (.bool r0) h) =
    den Try.prog noFns Try.f115.ntmps plan115 (bodyOf Try.f115) (args0 0 [(.slice a1.ptr a1.len a1.cap : Value), (.slice b2.ptr b2.len b2.cap : Value)]) h ⟨fun env h => dRes Try.prog Try.f115.results.toList env h K, fun _ _ _ => False, fun env h => dRes Try.prog Try.f115.results.toList env h K⟩ := by kernel_rfl
def E_ref0_EqDones_of (f : Sl → Sl → Heap → (Bool → Heap → Prop) → Prop) : List Value → Heap → (Value → Heap → Prop) → Prop
  | [v0, v1], h, K => dec1 .sl v0 fun (a1 : Sl) =>
  dec1 .sl v1 fun (b2 : Sl) =>
  f a1 b2 h (fun (r0 : Bool) (h : Heap) => K (.bool r0) h)
  | _, _, _ => False
abbrev E_ref0_EqDones := E_ref0_EqDones_of F_ref0_EqDones
theorem E_ref0_EqDones.right : IsRight Try.prog 115 E_ref0_EqDones := by
  refine isRight fun vs K w hh => ?_
  match vs, hh with
  | [v0, v1], hh =>
    unfold E_ref0_EqDones E_ref0_EqDones_of at hh
    replace hh := dec1_sound hh; obtain ⟨a1, rfl, hh⟩ := hh
    replace hh := dec1_sound hh; obtain ⟨b2, rfl, hh⟩ := hh
    unfold F_ref0_EqDones at hh
    exact calls_den noFns_right plan115 _ w K Try.func115 (by kernel_rfl) (by kernel_rfl) (Eq.mp (F_ref0_EqDones.eq  a1 b2 w.heap K) hh)
theorem ok115 : okFn Try.prog 115 = true := by kernel_rfl
end Go.Proofs.Ytboidjampddfoaa.V
namespace Go.Proofs.Ytboidjampddfoaa.V
open Go Go.RowKit
set_option linter.unusedVariables false
set_option maxRecDepth 100000
def F_ref0_EqBook.l1 (Q : Bool → Heap → Prop) (a13 a15 : Addr) (j32 : Heap → Prop) : Int → Heap → Prop :=
  wl [(5, .one (.int .i64))] (fun (next33 : Int → Heap → Prop) (i34 : Int) (h35 : Heap) =>
  ld [.sl] (a13.add 1) h35 fun (v36 : Sl) =>
  brr (decide (i34 < ((v36.len : Nat) : Int)))
  (ld [.sl] (a13.add 1) h35 fun (v37 : Sl) =>
  ixS 2 v37 i34 fun (a38 : Addr) =>
  ld [.str, .int .u64] a38 h35 fun (v39 : ByteArray) (v40 : Int) =>
  ld [.sl] (a15.add 1) h35 fun (v41 : Sl) =>
  ixS 2 v41 i34 fun (a42 : Addr) =>
  ld [.str, .int .u64] a42 h35 fun (v43 : ByteArray) (v44 : Int) =>
  brr (!((v39.toList == v43.toList) && ((v40 == v44) && (true))))
  (Q false h35)
  (next33 (IntKind.i64.wrap (i34 + 1)) h35))
  (j32 h35))
def F_ref0_EqBook.l2 (Q : Bool → Heap → Prop) (a13 a15 : Addr) (j46 : Heap → Prop) : Int → Heap → Prop :=
  wl [(6, .one (.int .i64))] (fun (next47 : Int → Heap → Prop) (i48 : Int) (h49 : Heap) =>
  ld [.sl] (a13.add 2) h49 fun (v50 : Sl) =>
  brr (decide (i48 < ((v50.len : Nat) : Int)))
  (ld [.sl] (a13.add 2) h49 fun (v51 : Sl) =>
  ixS 4 v51 i48 fun (a52 : Addr) =>
  ld [.int .i64, .int .u64, .str, .int .u64] a52 h49 fun (v53 v54 : Int) (v55 : ByteArray) (v56 : Int) =>
  ld [.sl] (a15.add 2) h49 fun (v57 : Sl) =>
  ixS 4 v57 i48 fun (a58 : Addr) =>
  ld [.int .i64, .int .u64, .str, .int .u64] a58 h49 fun (v59 v60 : Int) (v61 : ByteArray) (v62 : Int) =>
  brr (!((v53 == v59) && ((v54 == v60) && ((v55.toList == v61.toList) && ((v56 == v62) && (true))))))
  (Q false h49)
  (next47 (IntKind.i64.wrap (i48 + 1)) h49))
  (j46 h49))
def F_ref0_EqBook.l3 (Q : Bool → Heap → Prop) (a13 a15 : Addr) (j64 : Heap → Prop) : Int → Heap → Prop :=
  wl [(7, .one (.int .i64))] (fun (next65 : Int → Heap → Prop) (i66 : Int) (h67 : Heap) =>
  ld [.sl] (a13.add 3) h67 fun (v68 : Sl) =>
  brr (decide (i66 < ((v68.len : Nat) : Int)))
  (ld [.sl] (a13.add 3) h67 fun (v69 : Sl) =>
  ixS 1 v69 i66 fun (a70 : Addr) =>
  ld [.int .u64] a70 h67 fun (v71 : Int) =>
  ld [.sl] (a15.add 3) h67 fun (v72 : Sl) =>
  ixS 1 v72 i66 fun (a73 : Addr) =>
  ld [.int .u64] a73 h67 fun (v74 : Int) =>
  brr (v71 != v74)
  (Q false h67)
  (next65 (IntKind.i64.wrap (i66 + 1)) h67))
  (j64 h67))
def F_ref0_EqBook.l4 (Q : Bool → Heap → Prop) (a13 a15 : Addr) (j76 : Heap → Prop) : Int → Heap → Prop :=
  wl [(8, .one (.int .i64))] (fun (next77 : Int → Heap → Prop) (i78 : Int) (h79 : Heap) =>
  ld [.sl] (a13.add 4) h79 fun (v80 : Sl) =>
  brr (decide (i78 < ((v80.len : Nat) : Int)))
  (ld [.sl] (a13.add 4) h79 fun (v81 : Sl) =>
  ixS 1 v81 i78 fun (a82 : Addr) =>
  ld [.int .u64] a82 h79 fun (v83 : Int) =>
  ld [.sl] (a15.add 4) h79 fun (v84 : Sl) =>
  ixS 1 v84 i78 fun (a85 : Addr) =>
  ld [.int .u64] a85 h79 fun (v86 : Int) =>
  brr (v83 != v86)
  (Q false h79)
  (next77 (IntKind.i64.wrap (i78 + 1)) h79))
  (j76 h79))
def F_ref0_EqBook.l5 (Q : Bool → Heap → Prop) (a13 a15 : Addr) (j88 : Heap → Prop) : Int → Heap → Prop :=
  wl [(9, .one (.int .i64))] (fun (next89 : Int → Heap → Prop) (i90 : Int) (h91 : Heap) =>
  ld [.sl] (a13.add 5) h91 fun (v92 : Sl) =>
  brr (decide (i90 < ((v92.len : Nat) : Int)))
  (ld [.sl] (a13.add 5) h91 fun (v93 : Sl) =>
  ixS 4 v93 i90 fun (a94 : Addr) =>
  ld [.int .u64, .int .i64, .int .i64, .int .u64] a94 h91 fun (v95 v96 v97 v98 : Int) =>
  ld [.sl] (a15.add 5) h91 fun (v99 : Sl) =>
  ixS 4 v99 i90 fun (a100 : Addr) =>
  ld [.int .u64, .int .i64, .int .i64, .int .u64] a100 h91 fun (v101 v102 v103 v104 : Int) =>
  brr (!((v95 == v101) && ((v96 == v102) && ((v97 == v103) && ((v98 == v104) && (true))))))
  (Q false h91)
  (next89 (IntKind.i64.wrap (i90 + 1)) h91))
  (j88 h91))
def F_ref0_EqBook_of  (a1 : Int) (a2 a3 a4 a5 a6 : Sl) (b7 : Int) (b8 b9 b10 b11 b12 : Sl) (h : Heap) (Q : Bool → Heap → Prop) : Prop :=
  al 164 [.int .i64 a1, .slice a2.ptr a2.len a2.cap, .slice a3.ptr a3.len a3.cap, .slice a4.ptr a4.len a4.cap, .slice a5.ptr a5.len a5.cap, .slice a6.ptr a6.len a6.cap] h fun (a13 : Addr) (h14 : Heap) =>
  al 164 [.int .i64 b7, .slice b8.ptr b8.len b8.cap, .slice b9.ptr b9.len b9.cap, .slice b10.ptr b10.len b10.cap, .slice b11.ptr b11.len b11.cap, .slice b12.ptr b12.len b12.cap] h14 fun (a15 : Addr) (h16 : Heap) =>
  jn [(59, .one .bool)] (fun (x30 : Bool) (h31 : Heap) =>
  brr x30
  (Q false h31)
  (jn [] (fun  (h45 : Heap) =>
  jn [] (fun  (h63 : Heap) =>
  jn [] (fun  (h75 : Heap) =>
  jn [] (fun  (h87 : Heap) =>
  jn [] (fun  (h105 : Heap) =>
  Q true h105) (fun (j88 : Heap → Prop) =>
  F_ref0_EqBook.l5 Q a13 a15 j88 0 h87)) (fun (j76 : Heap → Prop) =>
  F_ref0_EqBook.l4 Q a13 a15 j76 0 h75)) (fun (j64 : Heap → Prop) =>
  F_ref0_EqBook.l3 Q a13 a15 j64 0 h63)) (fun (j46 : Heap → Prop) =>
  F_ref0_EqBook.l2 Q a13 a15 j46 0 h45)) (fun (j32 : Heap → Prop) =>
  F_ref0_EqBook.l1 Q a13 a15 j32 0 h31))) (fun (j17 : Bool → Heap → Prop) =>
  ld [.int .i64] (a13.add 0) h16 fun (v18 : Int) =>
  ld [.int .i64] (a15.add 0) h16 fun (v19 : Int) =>
  brr (v18 != v19)
  (j17 true h16)
  (ld [.sl] (a13.add 1) h16 fun (v20 : Sl) =>
  ld [.sl] (a15.add 1) h16 fun (v21 : Sl) =>
  brr (((v20.len : Nat) : Int) != ((v21.len : Nat) : Int))
  (j17 true h16)
  (ld [.sl] (a13.add 2) h16 fun (v22 : Sl) =>
  ld [.sl] (a15.add 2) h16 fun (v23 : Sl) =>
  brr (((v22.len : Nat) : Int) != ((v23.len : Nat) : Int))
  (j17 true h16)
  (ld [.sl] (a13.add 3) h16 fun (v24 : Sl) =>
  ld [.sl] (a15.add 3) h16 fun (v25 : Sl) =>
  brr (((v24.len : Nat) : Int) != ((v25.len : Nat) : Int))
  (j17 true h16)
  (ld [.sl] (a13.add 4) h16 fun (v26 : Sl) =>
  ld [.sl] (a15.add 4) h16 fun (v27 : Sl) =>
  brr (((v26.len : Nat) : Int) != ((v27.len : Nat) : Int))
  (j17 true h16)
  (ld [.sl] (a13.add 5) h16 fun (v28 : Sl) =>
  ld [.sl] (a15.add 5) h16 fun (v29 : Sl) =>
  j17 (((v28.len : Nat) : Int) != ((v29.len : Nat) : Int)) h16))))))
def F_ref0_EqBook (a1 : Int) (a2 a3 a4 a5 a6 : Sl) (b7 : Int) (b8 b9 b10 b11 b12 : Sl) (h : Heap) (Q : Bool → Heap → Prop) : Prop := F_ref0_EqBook_of  a1 a2 a3 a4 a5 a6 b7 b8 b9 b10 b11 b12 h Q
def plan116 : Plan := .s (.r [2, 3]) (.s (.s (.rj [(59, .one .bool)] [2, 3]) (.c (.s (.r [4]) .z) .z)) (.s (.s (.r [2, 3, 5]) (.bj [] [2, 3] (.l [(5, .one (.int .i64))] [2, 3] (.s (.s (.r [2, 3, 5, 64]) (.c .z .z)) (.s (.b (.s (.d [0, 1, 0, 7, 15, 0, 32, 0, 224, 480, 1023] [[0, 1, 2, 3, 4, 5, 6, 7, 8, 9, 10]] [2, 3, 5, 77]) (.c (.s (.r [4]) .z) .z))) (.r [2, 3, 5])))))) (.s (.s (.r [2, 3, 6]) (.bj [] [2, 3] (.l [(6, .one (.int .i64))] [2, 3] (.s (.s (.r [2, 3, 6, 82]) (.c .z .z)) (.s (.b (.s (.d [0, 1, 0, 7, 15, 0, 32, 0, 224, 480, 1023] [[0, 1, 2, 3, 4, 5, 6, 7, 8, 9, 10]] [2, 3, 6, 95]) (.c (.s (.r [4]) .z) .z))) (.r [2, 3, 6])))))) (.s (.s (.r [2, 3, 7]) (.bj [] [2, 3] (.l [(7, .one (.int .i64))] [2, 3] (.s (.s (.r [2, 3, 7, 100]) (.c .z .z)) (.s (.b (.s (.d [0, 1, 0, 7, 15, 0, 32, 0, 224, 480, 1023] [[0, 1, 2, 3, 4, 5, 6, 7, 8, 9, 10]] [2, 3, 7, 113]) (.c (.s (.r [4]) .z) .z))) (.r [2, 3, 7])))))) (.s (.s (.r [2, 3, 8]) (.bj [] [2, 3] (.l [(8, .one (.int .i64))] [2, 3] (.s (.s (.r [2, 3, 8, 118]) (.c .z .z)) (.s (.b (.s (.d [0, 1, 0, 7, 15, 0, 32, 0, 224, 480, 1023] [[0, 1, 2, 3, 4, 5, 6, 7, 8, 9, 10]] [2, 3, 8, 131]) (.c (.s (.r [4]) .z) .z))) (.r [2, 3, 8])))))) (.s (.s (.r [2, 3, 9]) (.bj [] [] (.l [(9, .one (.int .i64))] [2, 3] (.s (.s (.r [2, 3, 9, 136]) (.c .z .z)) (.s (.b (.s (.d [0, 1, 0, 7, 15, 0, 32, 0, 224, 480, 1023] [[0, 1, 2, 3, 4, 5, 6, 7, 8, 9, 10]] [2, 3, 9, 149]) (.c (.s (.r [4]) .z) .z))) (.r [2, 3, 9])))))) (.s (.r [4]) .z)))))))
theorem F_ref0_EqBook.eq  (a1 : Int) (a2 a3 a4 a5 a6 : Sl) (b7 : Int) (b8 b9 b10 b11 b12 : Sl) (h : Heap) (K : Value → Heap → Prop) : F_ref0_EqBook_of  a1 a2 a3 a4 a5 a6 b7 b8 b9 b10 b11 b12 h (fun (r0 : Bool) (h : Heap) => K (.bool r0) h) =
    den Try.prog noFns Try.f116.ntmps plan116 (bodyOf Try.f116) (args0 0 [(.agg #[.int .i64 a1, .slice a2.ptr a2.len a2.cap, .slice a3.ptr a3.len a3.cap, .slice a4.ptr a4.len a4.cap, .slice a5.ptr a5.len a5.cap, .slice a6.ptr a6.len a6.cap] : Value), (.agg #[.int .i64 b7, .slice b8.ptr b8.len b8.cap, .slice b9.ptr b9.len b9.cap, .slice b10.ptr b10.len b10.cap, .slice b11.ptr b11.len b11.cap, .slice b12.ptr b12.len b12.cap] : Value)]) h ⟨fun env h => dRes Try.prog Try.f116.results.toList env h K, fun _ _ _ => False, fun env h => dRes Try.prog Try.f116.results.toList env h K⟩ := by kernel_rfl
def E_ref0_EqBook_of (f : Int → Sl → Sl → Sl → Sl → Sl → Int → Sl → Sl → Sl → Sl → Sl → Heap → (Bool → Heap → Prop) → Prop) : List Value → Heap → (Value → Heap → Prop) → Prop
  | [v0, v1], h, K => vAgg v0 fun cs0 => decs [.int .i64, .sl, .sl, .sl, .sl, .sl] cs0.toList fun (a1 : Int) (a2 a3 a4 a5 a6 : Sl) =>
  vAgg v1 fun cs1 => decs [.int .i64, .sl, .sl, .sl, .sl, .sl] cs1.toList fun (b7 : Int) (b8 b9 b10 b11 b12 : Sl) =>
  f a1 a2 a3 a4 a5 a6 b7 b8 b9 b10 b11 b12 h (fun (r0 : Bool) (h : Heap) => K (.bool r0) h)
  | _, _, _ => False
abbrev E_ref0_EqBook := E_ref0_EqBook_of F_ref0_EqBook
theorem E_ref0_EqBook.right : IsRight Try.prog 116 E_ref0_EqBook := by
  refine isRight fun vs K w hh => ?_
  match vs, hh with
  | [v0, v1], hh =>
    unfold E_ref0_EqBook E_ref0_EqBook_of at hh
    replace hh := vAgg_sound hh; obtain ⟨cs0, rfl, hh⟩ := hh
    replace hh := decs_cons hh; obtain ⟨a1, l0_0, e0_0, hh⟩ := hh
    replace hh := decs_cons hh; obtain ⟨a2, l0_1, e0_1, hh⟩ := hh
    replace hh := decs_cons hh; obtain ⟨a3, l0_2, e0_2, hh⟩ := hh
    replace hh := decs_cons hh; obtain ⟨a4, l0_3, e0_3, hh⟩ := hh
    replace hh := decs_cons hh; obtain ⟨a5, l0_4, e0_4, hh⟩ := hh
    replace hh := decs_cons hh; obtain ⟨a6, l0_5, e0_5, hh⟩ := hh
    replace hh := decs_nil hh; obtain ⟨rfl, hh⟩ := hh
    subst e0_5
    subst e0_4
    subst e0_3
    subst e0_2
    subst e0_1
    have ec0 := toArray_eq e0_0
    subst ec0
    replace hh := vAgg_sound hh; obtain ⟨cs1, rfl, hh⟩ := hh
    replace hh := decs_cons hh; obtain ⟨b7, l1_0, e1_0, hh⟩ := hh
    replace hh := decs_cons hh; obtain ⟨b8, l1_1, e1_1, hh⟩ := hh
    replace hh := decs_cons hh; obtain ⟨b9, l1_2, e1_2, hh⟩ := hh
    replace hh := decs_cons hh; obtain ⟨b10, l1_3, e1_3, hh⟩ := hh
    replace hh := decs_cons hh; obtain ⟨b11, l1_4, e1_4, hh⟩ := hh
    replace hh := decs_cons hh; obtain ⟨b12, l1_5, e1_5, hh⟩ := hh
    replace hh := decs_nil hh; obtain ⟨rfl, hh⟩ := hh
    subst e1_5
    subst e1_4
    subst e1_3
    subst e1_2
    subst e1_1
    have ec1 := toArray_eq e1_0
    subst ec1
    unfold F_ref0_EqBook at hh
    exact calls_den noFns_right plan116 _ w K Try.func116 (by kernel_rfl) (by kernel_rfl) (Eq.mp (F_ref0_EqBook.eq  a1 a2 a3 a4 a5 a6 b7 b8 b9 b10 b11 b12 w.heap K) hh)
theorem ok116 : okFn Try.prog 116 = true := by kernel_rfl
end Go.Proofs.Ytboidjampddfoaa.V
namespace Go.Proofs.Ytboidjampddfoaa.V
open Go Go.RowKit
set_option linter.unusedVariables false
set_option maxRecDepth 100000
def F_law3_Shelf_Same.l1 (f113_ : Sl → Sl → Heap → (Bool → Heap → Prop) → Prop) (x1 : Option Addr) (Q : Bool → Heap → Prop) (j2 : Heap → Prop) : Int → Heap → Prop :=
  wl [(3, .one (.int .i64))] (fun (next3 : Int → Heap → Prop) (i4 : Int) (h5 : Heap) =>
  nn x1 fun (a6 : Addr) =>
  ld [.sl] (a6.add 1) h5 fun (v7 : Sl) =>
  brr (decide (i4 < ((v7.len : Nat) : Int)))
  (nn x1 fun (a8 : Addr) =>
  ld [.sl] (a8.add 1) h5 fun (v9 : Sl) =>
  ixS 1 v9 i4 fun (a10 : Addr) =>
  ld [.sl] a10 h5 fun (v11 : Sl) =>
  nn x1 fun (a12 : Addr) =>
  ld [.sl] (a12.add 2) h5 fun (v13 : Sl) =>
  ixS 1 v13 i4 fun (a14 : Addr) =>
  ld [.sl] a14 h5 fun (v15 : Sl) =>
  f113_ v11 v15 h5 fun (r16 : Bool) (h17 : Heap) =>
  brr (!r16)
  (Q false h17)
  (next3 (IntKind.i64.wrap (i4 + 1)) h17))
  (j2 h5))
def F_law3_Shelf_Same.l2 (f88_ : Sl → Sl → Heap → (Bool → Heap → Prop) → Prop) (x1 : Option Addr) (Q : Bool → Heap → Prop) (j19 : Heap → Prop) : Int → Heap → Prop :=
  wl [(4, .one (.int .i64))] (fun (next20 : Int → Heap → Prop) (i21 : Int) (h22 : Heap) =>
  nn x1 fun (a23 : Addr) =>
  ld [.sl] (a23.add 3) h22 fun (v24 : Sl) =>
  brr (decide (i21 < ((v24.len : Nat) : Int)))
  (nn x1 fun (a25 : Addr) =>
  ld [.sl] (a25.add 3) h22 fun (v26 : Sl) =>
  ixS 1 v26 i21 fun (a27 : Addr) =>
  ld [.sl] a27 h22 fun (v28 : Sl) =>
  nn x1 fun (a29 : Addr) =>
  ld [.sl] (a29.add 4) h22 fun (v30 : Sl) =>
  ixS 1 v30 i21 fun (a31 : Addr) =>
  ld [.sl] a31 h22 fun (v32 : Sl) =>
  f88_ v28 v32 h22 fun (r33 : Bool) (h34 : Heap) =>
  brr (!r33)
  (Q false h34)
  (next20 (IntKind.i64.wrap (i21 + 1)) h34))
  (j19 h22))
def F_law3_Shelf_Same.l3 (f114_ : Sl → Sl → Heap → (Bool → Heap → Prop) → Prop) (x1 : Option Addr) (Q : Bool → Heap → Prop) (j36 : Heap → Prop) : Int → Heap → Prop :=
  wl [(5, .one (.int .i64))] (fun (next37 : Int → Heap → Prop) (i38 : Int) (h39 : Heap) =>
  nn x1 fun (a40 : Addr) =>
  ld [.sl] (a40.add 5) h39 fun (v41 : Sl) =>
  brr (decide (i38 < ((v41.len : Nat) : Int)))
  (nn x1 fun (a42 : Addr) =>
  ld [.sl] (a42.add 5) h39 fun (v43 : Sl) =>
  ixS 1 v43 i38 fun (a44 : Addr) =>
  ld [.sl] a44 h39 fun (v45 : Sl) =>
  nn x1 fun (a46 : Addr) =>
  ld [.sl] (a46.add 6) h39 fun (v47 : Sl) =>
  ixS 1 v47 i38 fun (a48 : Addr) =>
  ld [.sl] a48 h39 fun (v49 : Sl) =>
  f114_ v45 v49 h39 fun (r50 : Bool) (h51 : Heap) =>
  brr (!r50)
  (Q false h51)
  (next37 (IntKind.i64.wrap (i38 + 1)) h51))
  (j36 h39))
def F_law3_Shelf_Same.l4 (f115_ : Sl → Sl → Heap → (Bool → Heap → Prop) → Prop) (x1 : Option Addr) (Q : Bool → Heap → Prop) (j53 : Heap → Prop) : Int → Heap → Prop :=
  wl [(6, .one (.int .i64))] (fun (next54 : Int → Heap → Prop) (i55 : Int) (h56 : Heap) =>
  nn x1 fun (a57 : Addr) =>
  ld [.sl] (a57.add 7) h56 fun (v58 : Sl) =>
  brr (decide (i55 < ((v58.len : Nat) : Int)))
  (nn x1 fun (a59 : Addr) =>
  ld [.sl] (a59.add 7) h56 fun (v60 : Sl) =>
  ixS 1 v60 i55 fun (a61 : Addr) =>
  ld [.sl] a61 h56 fun (v62 : Sl) =>
  nn x1 fun (a63 : Addr) =>
  ld [.sl] (a63.add 8) h56 fun (v64 : Sl) =>
  ixS 1 v64 i55 fun (a65 : Addr) =>
  ld [.sl] a65 h56 fun (v66 : Sl) =>
  f115_ v62 v66 h56 fun (r67 : Bool) (h68 : Heap) =>
  brr (!r67)
  (Q false h68)
  (next54 (IntKind.i64.wrap (i55 + 1)) h68))
  (j53 h56))
def F_law3_Shelf_Same.l5 (f116_ : Int → Sl → Sl → Sl → Sl → Sl → Int → Sl → Sl → Sl → Sl → Sl → Heap → (Bool → Heap → Prop) → Prop) (x1 : Option Addr) (Q : Bool → Heap → Prop) (j70 : Heap → Prop) : Int → Heap → Prop :=
  wl [(7, .one (.int .i64))] (fun (next71 : Int → Heap → Prop) (i72 : Int) (h73 : Heap) =>
  nn x1 fun (a74 : Addr) =>
  ld [.sl] (a74.add 9) h73 fun (v75 : Sl) =>
  brr (decide (i72 < ((v75.len : Nat) : Int)))
  (nn x1 fun (a76 : Addr) =>
  ld [.sl] (a76.add 9) h73 fun (v77 : Sl) =>
  ixS 6 v77 i72 fun (a78 : Addr) =>
  ld [.int .i64, .sl, .sl, .sl, .sl, .sl] a78 h73 fun (v79 : Int) (v80 v81 v82 v83 v84 : Sl) =>
  nn x1 fun (a85 : Addr) =>
  ld [.sl] (a85.add 10) h73 fun (v86 : Sl) =>
  ixS 6 v86 i72 fun (a87 : Addr) =>
  ld [.int .i64, .sl, .sl, .sl, .sl, .sl] a87 h73 fun (v88 : Int) (v89 v90 v91 v92 v93 : Sl) =>
  f116_ v79 v80 v81 v82 v83 v84 v88 v89 v90 v91 v92 v93 h73 fun (r94 : Bool) (h95 : Heap) =>
  brr (!r94)
  (Q false h95)
  (next71 (IntKind.i64.wrap (i72 + 1)) h95))
  (j70 h73))
def F_law3_Shelf_Same_of (f88_ : Sl → Sl → Heap → (Bool → Heap → Prop) → Prop) (f113_ : Sl → Sl → Heap → (Bool → Heap → Prop) → Prop) (f114_ : Sl → Sl → Heap → (Bool → Heap → Prop) → Prop) (f115_ : Sl → Sl → Heap → (Bool → Heap → Prop) → Prop) (f116_ : Int → Sl → Sl → Sl → Sl → Sl → Int → Sl → Sl → Sl → Sl → Sl → Heap → (Bool → Heap → Prop) → Prop) (x1 : Option Addr) (h : Heap) (Q : Bool → Heap → Prop) : Prop :=
  jn [] (fun  (h18 : Heap) =>
  jn [] (fun  (h35 : Heap) =>
  jn [] (fun  (h52 : Heap) =>
  jn [] (fun  (h69 : Heap) =>
  jn [] (fun  (h96 : Heap) =>
  Q true h96) (fun (j70 : Heap → Prop) =>
  F_law3_Shelf_Same.l5 f116_ x1 Q j70 0 h69)) (fun (j53 : Heap → Prop) =>
  F_law3_Shelf_Same.l4 f115_ x1 Q j53 0 h52)) (fun (j36 : Heap → Prop) =>
  F_law3_Shelf_Same.l3 f114_ x1 Q j36 0 h35)) (fun (j19 : Heap → Prop) =>
  F_law3_Shelf_Same.l2 f88_ x1 Q j19 0 h18)) (fun (j2 : Heap → Prop) =>
  F_law3_Shelf_Same.l1 f113_ x1 Q j2 0 h)
def F_law3_Shelf_Same (x1 : Option Addr) (h : Heap) (Q : Bool → Heap → Prop) : Prop := F_law3_Shelf_Same_of F_ref0_Eq F_ref0_EqInts F_ref0_EqMsgs F_ref0_EqDones F_ref0_EqBook x1 h Q
def plan89 : Plan := .s (.r [0]) (.s (.s (.r [0, 3]) (.bj [] [0] (.l [(3, .one (.int .i64))] [0] (.s (.s (.r [0, 3, 14]) (.c .z .z)) (.s (.b (.s (.d [0, 1, 3, 7, 0, 31, 63, 0, 128, 384, 896, 0, 3968, 8064, 16383, 32767] [[0, 1, 2, 3, 4, 5, 6, 7, 8, 9, 10, 11, 12, 13, 14, 15]] [0, 3, 32]) (.c (.s (.r [2]) .z) .z))) (.r [0, 3])))))) (.s (.s (.r [0, 4]) (.bj [] [0] (.l [(4, .one (.int .i64))] [0] (.s (.s (.r [0, 4, 39]) (.c .z .z)) (.s (.b (.s (.d [0, 1, 3, 7, 0, 31, 63, 0, 128, 384, 896, 0, 3968, 8064, 16383, 32767] [[0, 1, 2, 3, 4, 5, 6, 7, 8, 9, 10, 11, 12, 13, 14, 15]] [0, 4, 57]) (.c (.s (.r [2]) .z) .z))) (.r [0, 4])))))) (.s (.s (.r [0, 5]) (.bj [] [0] (.l [(5, .one (.int .i64))] [0] (.s (.s (.r [0, 5, 64]) (.c .z .z)) (.s (.b (.s (.d [0, 1, 3, 7, 0, 31, 63, 0, 128, 384, 896, 0, 3968, 8064, 16383, 32767] [[0, 1, 2, 3, 4, 5, 6, 7, 8, 9, 10, 11, 12, 13, 14, 15]] [0, 5, 82]) (.c (.s (.r [2]) .z) .z))) (.r [0, 5])))))) (.s (.s (.r [0, 6]) (.bj [] [0] (.l [(6, .one (.int .i64))] [0] (.s (.s (.r [0, 6, 89]) (.c .z .z)) (.s (.b (.s (.d [0, 1, 3, 7, 0, 31, 63, 0, 128, 384, 896, 0, 3968, 8064, 16383, 32767] [[0, 1, 2, 3, 4, 5, 6, 7, 8, 9, 10, 11, 12, 13, 14, 15]] [0, 6, 107]) (.c (.s (.r [2]) .z) .z))) (.r [0, 6])))))) (.s (.s (.r [0, 7]) (.bj [] [] (.l [(7, .one (.int .i64))] [0] (.s (.s (.r [0, 7, 114]) (.c .z .z)) (.s (.b (.s (.d [0, 1, 3, 7, 0, 31, 63, 0, 128, 384, 896, 0, 3968, 8064, 16383, 32767] [[0, 1, 2, 3, 4, 5, 6, 7, 8, 9, 10, 11, 12, 13, 14, 15]] [0, 7, 132]) (.c (.s (.r [2]) .z) .z))) (.r [0, 7])))))) (.s (.r [2]) .z))))))
theorem F_law3_Shelf_Same.eq (f88_ : Sl → Sl → Heap → (Bool → Heap → Prop) → Prop) (f113_ : Sl → Sl → Heap → (Bool → Heap → Prop) → Prop) (f114_ : Sl → Sl → Heap → (Bool → Heap → Prop) → Prop) (f115_ : Sl → Sl → Heap → (Bool → Heap → Prop) → Prop) (f116_ : Int → Sl → Sl → Sl → Sl → Sl → Int → Sl → Sl → Sl → Sl → Sl → Heap → (Bool → Heap → Prop) → Prop) (x1 : Option Addr) (h : Heap) (K : Value → Heap → Prop) : F_law3_Shelf_Same_of f88_ f113_ f114_ f115_ f116_ x1 h (fun (r0 : Bool) (h : Heap) => K (.bool r0) h) =
    den Try.prog (fn1 88 (E_ref0_Eq_of f88_) (fn1 113 (E_ref0_EqInts_of f113_) (fn1 114 (E_ref0_EqMsgs_of f114_) (fn1 115 (E_ref0_EqDones_of f115_) (fn1 116 (E_ref0_EqBook_of f116_) noFns))))) Try.f89.ntmps plan89 (bodyOf Try.f89) (args0 0 [(.pointer x1 : Value)]) h ⟨fun env h => dRes Try.prog Try.f89.results.toList env h K, fun _ _ _ => False, fun env h => dRes Try.prog Try.f89.results.toList env h K⟩ := by kernel_rfl
def E_law3_Shelf_Same_of (f : Option Addr → Heap → (Bool → Heap → Prop) → Prop) : List Value → Heap → (Value → Heap → Prop) → Prop
  | [v0], h, K => dec1 .ptr v0 fun (x1 : Option Addr) =>
  f x1 h (fun (r0 : Bool) (h : Heap) => K (.bool r0) h)
  | _, _, _ => False
abbrev E_law3_Shelf_Same := E_law3_Shelf_Same_of F_law3_Shelf_Same
theorem E_law3_Shelf_Same.right : IsRight Try.prog 89 E_law3_Shelf_Same := by
  refine isRight fun vs K w hh => ?_
  match vs, hh with
  | [v0], hh =>
    unfold E_law3_Shelf_Same E_law3_Shelf_Same_of at hh
    replace hh := dec1_sound hh; obtain ⟨x1, rfl, hh⟩ := hh
    unfold F_law3_Shelf_Same at hh
    exact calls_den (fn1_right ok88 E_ref0_Eq.right (fn1_right ok113 E_ref0_EqInts.right (fn1_right ok114 E_ref0_EqMsgs.right (fn1_right ok115 E_ref0_EqDones.right (fn1_right ok116 E_ref0_EqBook.right noFns_right))))) plan89 _ w K Try.func89 (by kernel_rfl) (by kernel_rfl) (Eq.mp (F_law3_Shelf_Same.eq F_ref0_Eq F_ref0_EqInts F_ref0_EqMsgs F_ref0_EqDones F_ref0_EqBook x1 w.heap K) hh)
theorem ok89 : okFn Try.prog 89 = true := by kernel_rfl
end Go.Proofs.Ytboidjampddfoaa.V
namespace Go.Proofs.Ytboidjampddfoaa.V
open Go Go.RowKit
set_option linter.unusedVariables false
set_option maxRecDepth 100000
def F_law3_sign_of  (n1 k2 : Int) (h : Heap) (Q : Int → Heap → Prop) : Prop :=
  (2 : Int) ≠ 0 ∧
  brr ((k2.tmod 2) == 0)
  ((251 : Int) ≠ 0 ∧
  Q (IntKind.u8.wrap (IntKind.i64.wrap (1 + (n1.tmod 251)))) h)
  ((251 : Int) ≠ 0 ∧
  (251 : Int) ≠ 0 ∧
  Q (IntKind.u8.wrap (IntKind.i64.wrap (1 + ((IntKind.i64.wrap ((IntKind.i64.wrap (7 * n1)) + (IntKind.i64.wrap (n1.tdiv 251)))).tmod 251)))) h)
def F_law3_sign (n1 k2 : Int) (h : Heap) (Q : Int → Heap → Prop) : Prop := F_law3_sign_of  n1 k2 h Q
def plan117 : Plan := .s (.r [0, 1]) (.s (.s (.r [0, 7]) (.c (.s (.r [4]) .z) .z)) (.s (.r [4]) .z))
theorem F_law3_sign.eq  (n1 k2 : Int) (h : Heap) (K : Value → Heap → Prop) : F_law3_sign_of  n1 k2 h (fun (r0 : Int) (h : Heap) => K (.int .u8 r0) h) =
    den Try.prog noFns Try.f117.ntmps plan117 (bodyOf Try.f117) (args0 0 [(.int .i64 n1 : Value), (.int .i64 k2 : Value)]) h ⟨fun env h => dRes Try.prog Try.f117.results.toList env h K, fun _ _ _ => False, fun env h => dRes Try.prog Try.f117.results.toList env h K⟩ := by kernel_rfl
def E_law3_sign_of (f : Int → Int → Heap → (Int → Heap → Prop) → Prop) : List Value → Heap → (Value → Heap → Prop) → Prop
  | [v0, v1], h, K => dec1 (.int .i64) v0 fun (n1 : Int) =>
  dec1 (.int .i64) v1 fun (k2 : Int) =>
  f n1 k2 h (fun (r0 : Int) (h : Heap) => K (.int .u8 r0) h)
  | _, _, _ => False
abbrev E_law3_sign := E_law3_sign_of F_law3_sign
theorem E_law3_sign.right : IsRight Try.prog 117 E_law3_sign := by
  refine isRight fun vs K w hh => ?_
  match vs, hh with
  | [v0, v1], hh =>
    unfold E_law3_sign E_law3_sign_of at hh
    replace hh := dec1_sound hh; obtain ⟨n1, rfl, hh⟩ := hh
    replace hh := dec1_sound hh; obtain ⟨k2, rfl, hh⟩ := hh
    unfold F_law3_sign at hh
    exact calls_den noFns_right plan117 _ w K Try.func117 (by kernel_rfl) (by kernel_rfl) (Eq.mp (F_law3_sign.eq  n1 k2 w.heap K) hh)
theorem ok117 : okFn Try.prog 117 = true := by kernel_rfl
end Go.Proofs.Ytboidjampddfoaa.V
namespace Go.Proofs.Ytboidjampddfoaa.V
open Go Go.RowKit
set_option linter.unusedVariables false
set_option maxRecDepth 100000
def F_law3_spread_mark.l1 (y1 : Option Addr) (i4 : Int) (j9 : Heap → Prop) : Int → Heap → Prop :=
  wl [(3, .one (.int .i64))] (fun (next10 : Int → Heap → Prop) (k11 : Int) (h12 : Heap) =>
  nn y1 fun (a13 : Addr) =>
  ld [.sl] (a13.add 0) h12 fun (v14 : Sl) =>
  ixS 1 v14 i4 fun (a15 : Addr) =>
  ld [.sl] a15 h12 fun (v16 : Sl) =>
  brr (decide (k11 < ((v16.len : Nat) : Int)))
  (nn y1 fun (a17 : Addr) =>
  ld [.sl] (a17.add 0) h12 fun (v18 : Sl) =>
  ixS 1 v18 i4 fun (a19 : Addr) =>
  ld [.sl] a19 h12 fun (v20 : Sl) =>
  ixS 1 v20 k11 fun (a21 : Addr) =>
  st a21 [.int .i64 (IntKind.i64.wrap ((-1) - i4))] h12 fun (h22 : Heap) =>
  next10 (IntKind.i64.wrap (k11 + 1)) h22)
  (j9 h12))
def F_law3_spread_mark.l2 (y1 : Option Addr) (j2 : Heap → Prop) : Int → Heap → Prop :=
  wl [(2, .one (.int .i64))] (fun (next3 : Int → Heap → Prop) (i4 : Int) (h5 : Heap) =>
  nn y1 fun (a6 : Addr) =>
  ld [.sl] (a6.add 0) h5 fun (v7 : Sl) =>
  brr (decide (i4 < ((v7.len : Nat) : Int)))
  (jn [] (fun  (h24 : Heap) =>
  next3 (IntKind.i64.wrap (i4 + 1)) h24) (fun (j8 : Heap → Prop) =>
  jn [] (fun  (h23 : Heap) =>
  j8 h23) (fun (j9 : Heap → Prop) =>
  F_law3_spread_mark.l1 y1 i4 j9 0 h5)))
  (j2 h5))
def F_law3_spread_mark.l3 (f117_ : Int → Int → Heap → (Int → Heap → Prop) → Prop) (y1 : Option Addr) (i28 : Int) (j33 : Heap → Prop) : Int → Heap → Prop :=
  wl [(5, .one (.int .i64))] (fun (next34 : Int → Heap → Prop) (k35 : Int) (h36 : Heap) =>
  nn y1 fun (a37 : Addr) =>
  ld [.sl] (a37.add 1) h36 fun (v38 : Sl) =>
  ixS 1 v38 i28 fun (a39 : Addr) =>
  ld [.sl] a39 h36 fun (v40 : Sl) =>
  brr (decide (k35 < ((v40.len : Nat) : Int)))
  (nn y1 fun (a41 : Addr) =>
  ld [.sl] (a41.add 1) h36 fun (v42 : Sl) =>
  ixS 1 v42 i28 fun (a43 : Addr) =>
  ld [.sl] a43 h36 fun (v44 : Sl) =>
  f117_ i28 k35 h36 fun (r45 : Int) (h46 : Heap) =>
  cellsAre h46 (a41.add 1) [.slice v42.ptr v42.len v42.cap] ∧
  cellsAre h46 a43 [.slice v44.ptr v44.len v44.cap] ∧
  ixS 1 v44 k35 fun (a47 : Addr) =>
  st a47 [.int .u8 r45] h46 fun (h48 : Heap) =>
  next34 (IntKind.i64.wrap (k35 + 1)) h48)
  (j33 h36))
def F_law3_spread_mark.l4 (f117_ : Int → Int → Heap → (Int → Heap → Prop) → Prop) (y1 : Option Addr) (j26 : Heap → Prop) : Int → Heap → Prop :=
  wl [(4, .one (.int .i64))] (fun (next27 : Int → Heap → Prop) (i28 : Int) (h29 : Heap) =>
  nn y1 fun (a30 : Addr) =>
  ld [.sl] (a30.add 1) h29 fun (v31 : Sl) =>
  brr (decide (i28 < ((v31.len : Nat) : Int)))
  (jn [] (fun  (h50 : Heap) =>
  next27 (IntKind.i64.wrap (i28 + 1)) h50) (fun (j32 : Heap → Prop) =>
  jn [] (fun  (h49 : Heap) =>
  j32 h49) (fun (j33 : Heap → Prop) =>
  F_law3_spread_mark.l3 f117_ y1 i28 j33 0 h29)))
  (j26 h29))
def F_law3_spread_mark.l5 (y1 : Option Addr) (i54 : Int) (j59 : Heap → Prop) : Int → Heap → Prop :=
  wl [(7, .one (.int .i64))] (fun (next60 : Int → Heap → Prop) (k61 : Int) (h62 : Heap) =>
  nn y1 fun (a63 : Addr) =>
  ld [.sl] (a63.add 2) h62 fun (v64 : Sl) =>
  ixS 1 v64 i54 fun (a65 : Addr) =>
  ld [.sl] a65 h62 fun (v66 : Sl) =>
  brr (decide (k61 < ((v66.len : Nat) : Int)))
  (nn y1 fun (a67 : Addr) =>
  ld [.sl] (a67.add 2) h62 fun (v68 : Sl) =>
  ixS 1 v68 i54 fun (a69 : Addr) =>
  ld [.sl] a69 h62 fun (v70 : Sl) =>
  ixS 1 v70 k61 fun (a71 : Addr) =>
  st a71 [.int .u64 (IntKind.u64.wrap (1125899906842624 + (IntKind.u64.wrap i54)))] h62 fun (h72 : Heap) =>
  next60 (IntKind.i64.wrap (k61 + 1)) h72)
  (j59 h62))
def F_law3_spread_mark.l6 (y1 : Option Addr) (j52 : Heap → Prop) : Int → Heap → Prop :=
  wl [(6, .one (.int .i64))] (fun (next53 : Int → Heap → Prop) (i54 : Int) (h55 : Heap) =>
  nn y1 fun (a56 : Addr) =>
  ld [.sl] (a56.add 2) h55 fun (v57 : Sl) =>
  brr (decide (i54 < ((v57.len : Nat) : Int)))
  (jn [] (fun  (h74 : Heap) =>
  next53 (IntKind.i64.wrap (i54 + 1)) h74) (fun (j58 : Heap → Prop) =>
  jn [] (fun  (h73 : Heap) =>
  j58 h73) (fun (j59 : Heap → Prop) =>
  F_law3_spread_mark.l5 y1 i54 j59 0 h55)))
  (j52 h55))
def F_law3_spread_mark.l7 (y1 : Option Addr) (i78 : Int) (j83 : Heap → Prop) : Int → Heap → Prop :=
  wl [(9, .one (.int .i64))] (fun (next84 : Int → Heap → Prop) (k85 : Int) (h86 : Heap) =>
  nn y1 fun (a87 : Addr) =>
  ld [.sl] (a87.add 3) h86 fun (v88 : Sl) =>
  ixS 1 v88 i78 fun (a89 : Addr) =>
  ld [.sl] a89 h86 fun (v90 : Sl) =>
  brr (decide (k85 < ((v90.len : Nat) : Int)))
  (nn y1 fun (a91 : Addr) =>
  ld [.sl] (a91.add 3) h86 fun (v92 : Sl) =>
  ixS 1 v92 i78 fun (a93 : Addr) =>
  ld [.sl] a93 h86 fun (v94 : Sl) =>
  ixS 22 v94 k85 fun (a95 : Addr) =>
  st a95 [.int .i64 0, .int .i64 0, .int .i64 0, .int .i64 0, .int .u64 0, .int .u64 0, .int .u64 0, .int .u64 0, .int .i64 (IntKind.i64.wrap ((-1) - i78)), .int .u64 0, .slice none 0 0, .int .i64 0, .int .u64 0, .string (⟨#[]⟩ : ByteArray), .string (⟨#[]⟩ : ByteArray), .int .u64 0, .int .u64 0, .int .u64 0, .int .i64 0, .int .i64 0, .int .i64 0, .int .i64 0] h86 fun (h96 : Heap) =>
  next84 (IntKind.i64.wrap (k85 + 1)) h96)
  (j83 h86))
def F_law3_spread_mark.l8 (y1 : Option Addr) (j76 : Heap → Prop) : Int → Heap → Prop :=
  wl [(8, .one (.int .i64))] (fun (next77 : Int → Heap → Prop) (i78 : Int) (h79 : Heap) =>
  nn y1 fun (a80 : Addr) =>
  ld [.sl] (a80.add 3) h79 fun (v81 : Sl) =>
  brr (decide (i78 < ((v81.len : Nat) : Int)))
  (jn [] (fun  (h98 : Heap) =>
  next77 (IntKind.i64.wrap (i78 + 1)) h98) (fun (j82 : Heap → Prop) =>
  jn [] (fun  (h97 : Heap) =>
  j82 h97) (fun (j83 : Heap → Prop) =>
  F_law3_spread_mark.l7 y1 i78 j83 0 h79)))
  (j76 h79))
def F_law3_spread_mark.l9 (y1 : Option Addr) (i102 : Int) (j107 : Heap → Prop) : Int → Heap → Prop :=
  wl [(11, .one (.int .i64))] (fun (next108 : Int → Heap → Prop) (k109 : Int) (h110 : Heap) =>
  nn y1 fun (a111 : Addr) =>
  ld [.sl] (a111.add 4) h110 fun (v112 : Sl) =>
  ixS 1 v112 i102 fun (a113 : Addr) =>
  ld [.sl] a113 h110 fun (v114 : Sl) =>
  brr (decide (k109 < ((v114.len : Nat) : Int)))
  (nn y1 fun (a115 : Addr) =>
  ld [.sl] (a115.add 4) h110 fun (v116 : Sl) =>
  ixS 1 v116 i102 fun (a117 : Addr) =>
  ld [.sl] a117 h110 fun (v118 : Sl) =>
  ixS 5 v118 k109 fun (a119 : Addr) =>
  st a119 [.int .i64 (IntKind.i64.wrap ((-1) - i102)), .int .u64 0, .int .i64 0, .int .i64 0, .int .u64 0] h110 fun (h120 : Heap) =>
  next108 (IntKind.i64.wrap (k109 + 1)) h120)
  (j107 h110))
def F_law3_spread_mark.l10 (y1 : Option Addr) (j100 : Heap → Prop) : Int → Heap → Prop :=
  wl [(10, .one (.int .i64))] (fun (next101 : Int → Heap → Prop) (i102 : Int) (h103 : Heap) =>
  nn y1 fun (a104 : Addr) =>
  ld [.sl] (a104.add 4) h103 fun (v105 : Sl) =>
  brr (decide (i102 < ((v105.len : Nat) : Int)))
  (jn [] (fun  (h122 : Heap) =>
  next101 (IntKind.i64.wrap (i102 + 1)) h122) (fun (j106 : Heap → Prop) =>
  jn [] (fun  (h121 : Heap) =>
  j106 h121) (fun (j107 : Heap → Prop) =>
  F_law3_spread_mark.l9 y1 i102 j107 0 h103)))
  (j100 h103))
def F_law3_spread_mark.l11 (y1 : Option Addr) (i126 : Int) (j131 : Heap → Prop) : Int → Heap → Prop :=
  wl [(13, .one (.int .i64))] (fun (next132 : Int → Heap → Prop) (k133 : Int) (h134 : Heap) =>
  nn y1 fun (a135 : Addr) =>
  ld [.sl] (a135.add 5) h134 fun (v136 : Sl) =>
  ixS 1 v136 i126 fun (a137 : Addr) =>
  ld [.sl] a137 h134 fun (v138 : Sl) =>
  brr (decide (k133 < ((v138.len : Nat) : Int)))
  (nn y1 fun (a139 : Addr) =>
  ld [.sl] (a139.add 5) h134 fun (v140 : Sl) =>
  ixS 1 v140 i126 fun (a141 : Addr) =>
  ld [.sl] a141 h134 fun (v142 : Sl) =>
  ixS 2 v142 k133 fun (a143 : Addr) =>
  st a143 [.string (⟨#[109, 97, 114, 107]⟩ : ByteArray), .int .u64 (IntKind.u64.wrap i126)] h134 fun (h144 : Heap) =>
  next132 (IntKind.i64.wrap (k133 + 1)) h144)
  (j131 h134))
def F_law3_spread_mark.l12 (y1 : Option Addr) (j124 : Heap → Prop) : Int → Heap → Prop :=
  wl [(12, .one (.int .i64))] (fun (next125 : Int → Heap → Prop) (i126 : Int) (h127 : Heap) =>
  nn y1 fun (a128 : Addr) =>
  ld [.sl] (a128.add 5) h127 fun (v129 : Sl) =>
  brr (decide (i126 < ((v129.len : Nat) : Int)))
  (jn [] (fun  (h146 : Heap) =>
  next125 (IntKind.i64.wrap (i126 + 1)) h146) (fun (j130 : Heap → Prop) =>
  jn [] (fun  (h145 : Heap) =>
  j130 h145) (fun (j131 : Heap → Prop) =>
  F_law3_spread_mark.l11 y1 i126 j131 0 h127)))
  (j124 h127))
def F_law3_spread_mark.l13 (y1 : Option Addr) (i150 : Int) (j155 : Heap → Prop) : Int → Heap → Prop :=
  wl [(15, .one (.int .i64))] (fun (next156 : Int → Heap → Prop) (k157 : Int) (h158 : Heap) =>
  nn y1 fun (a159 : Addr) =>
  ld [.sl] (a159.add 6) h158 fun (v160 : Sl) =>
  ixS 1 v160 i150 fun (a161 : Addr) =>
  ld [.sl] a161 h158 fun (v162 : Sl) =>
  brr (decide (k157 < ((v162.len : Nat) : Int)))
  (nn y1 fun (a163 : Addr) =>
  ld [.sl] (a163.add 6) h158 fun (v164 : Sl) =>
  ixS 1 v164 i150 fun (a165 : Addr) =>
  ld [.sl] a165 h158 fun (v166 : Sl) =>
  ixS 4 v166 k157 fun (a167 : Addr) =>
  st a167 [.int .i64 (IntKind.i64.wrap ((-1) - i150)), .int .u64 0, .string (⟨#[]⟩ : ByteArray), .int .u64 0] h158 fun (h168 : Heap) =>
  next156 (IntKind.i64.wrap (k157 + 1)) h168)
  (j155 h158))
def F_law3_spread_mark.l14 (y1 : Option Addr) (j148 : Heap → Prop) : Int → Heap → Prop :=
  wl [(14, .one (.int .i64))] (fun (next149 : Int → Heap → Prop) (i150 : Int) (h151 : Heap) =>
  nn y1 fun (a152 : Addr) =>
  ld [.sl] (a152.add 6) h151 fun (v153 : Sl) =>
  brr (decide (i150 < ((v153.len : Nat) : Int)))
  (jn [] (fun  (h170 : Heap) =>
  next149 (IntKind.i64.wrap (i150 + 1)) h170) (fun (j154 : Heap → Prop) =>
  jn [] (fun  (h169 : Heap) =>
  j154 h169) (fun (j155 : Heap → Prop) =>
  F_law3_spread_mark.l13 y1 i150 j155 0 h151)))
  (j148 h151))
def F_law3_spread_mark.l15 (y1 : Option Addr) (i174 : Int) (j179 : Heap → Prop) : Int → Heap → Prop :=
  wl [(17, .one (.int .i64))] (fun (next180 : Int → Heap → Prop) (k181 : Int) (h182 : Heap) =>
  nn y1 fun (a183 : Addr) =>
  ld [.sl] (a183.add 7) h182 fun (v184 : Sl) =>
  ixS 1 v184 i174 fun (a185 : Addr) =>
  ld [.sl] a185 h182 fun (v186 : Sl) =>
  brr (decide (k181 < ((v186.len : Nat) : Int)))
  (nn y1 fun (a187 : Addr) =>
  ld [.sl] (a187.add 7) h182 fun (v188 : Sl) =>
  ixS 1 v188 i174 fun (a189 : Addr) =>
  ld [.sl] a189 h182 fun (v190 : Sl) =>
  ixS 4 v190 k181 fun (a191 : Addr) =>
  st a191 [.int .u64 0, .int .i64 0, .int .i64 (IntKind.i64.wrap ((-1) - i174)), .int .u64 0] h182 fun (h192 : Heap) =>
  next180 (IntKind.i64.wrap (k181 + 1)) h192)
  (j179 h182))
def F_law3_spread_mark.l16 (y1 : Option Addr) (j172 : Heap → Prop) : Int → Heap → Prop :=
  wl [(16, .one (.int .i64))] (fun (next173 : Int → Heap → Prop) (i174 : Int) (h175 : Heap) =>
  nn y1 fun (a176 : Addr) =>
  ld [.sl] (a176.add 7) h175 fun (v177 : Sl) =>
  brr (decide (i174 < ((v177.len : Nat) : Int)))
  (jn [] (fun  (h194 : Heap) =>
  next173 (IntKind.i64.wrap (i174 + 1)) h194) (fun (j178 : Heap → Prop) =>
  jn [] (fun  (h193 : Heap) =>
  j178 h193) (fun (j179 : Heap → Prop) =>
  F_law3_spread_mark.l15 y1 i174 j179 0 h175)))
  (j172 h175))
def F_law3_spread_mark_of (f117_ : Int → Int → Heap → (Int → Heap → Prop) → Prop) (y1 : Option Addr) (h : Heap) (Q : Heap → Prop) : Prop :=
  jn [] (fun  (h25 : Heap) =>
  jn [] (fun  (h51 : Heap) =>
  jn [] (fun  (h75 : Heap) =>
  jn [] (fun  (h99 : Heap) =>
  jn [] (fun  (h123 : Heap) =>
  jn [] (fun  (h147 : Heap) =>
  jn [] (fun  (h171 : Heap) =>
  jn [] (fun  (h195 : Heap) =>
  Q h195) (fun (j172 : Heap → Prop) =>
  F_law3_spread_mark.l16 y1 j172 0 h171)) (fun (j148 : Heap → Prop) =>
  F_law3_spread_mark.l14 y1 j148 0 h147)) (fun (j124 : Heap → Prop) =>
  F_law3_spread_mark.l12 y1 j124 0 h123)) (fun (j100 : Heap → Prop) =>
  F_law3_spread_mark.l10 y1 j100 0 h99)) (fun (j76 : Heap → Prop) =>
  F_law3_spread_mark.l8 y1 j76 0 h75)) (fun (j52 : Heap → Prop) =>
  F_law3_spread_mark.l6 y1 j52 0 h51)) (fun (j26 : Heap → Prop) =>
  F_law3_spread_mark.l4 f117_ y1 j26 0 h25)) (fun (j2 : Heap → Prop) =>
  F_law3_spread_mark.l2 y1 j2 0 h)
def F_law3_spread_mark (y1 : Option Addr) (h : Heap) (Q : Heap → Prop) : Prop := F_law3_spread_mark_of F_law3_sign y1 h Q
def plan90 : Plan := .s (.s (.r [0, 2]) (.bj [] [0] (.l [(2, .one (.int .i64))] [0] (.s (.s (.r [0, 2, 24]) (.c .z .z)) (.s (.bj [] [0, 2] (.s (.r [0, 2, 3]) (.bj [] [0, 2] (.l [(3, .one (.int .i64))] [0, 2] (.s (.s (.r [0, 2, 3, 36]) (.c .z .z)) (.s (.b (.r [0, 2, 3])) (.r [0, 2, 3]))))))) (.r [0, 2])))))) (.s (.s (.r [0, 4]) (.bj [] [0] (.l [(4, .one (.int .i64))] [0] (.s (.s (.r [0, 4, 56]) (.c .z .z)) (.s (.bj [] [0, 4] (.s (.r [0, 4, 5]) (.bj [] [0, 4] (.l [(5, .one (.int .i64))] [0, 4] (.s (.s (.r [0, 4, 5, 68]) (.c .z .z)) (.s (.b (.d [0, 1, 3, 7, 0, 31, 63, 0, 0, 0, 768, 2047, 4095] [[0, 1, 2, 3, 4, 5, 6, 7, 8, 9, 10, 11, 12]] [0, 4, 5])) (.r [0, 4, 5]))))))) (.r [0, 4])))))) (.s (.s (.r [0, 6]) (.bj [] [0] (.l [(6, .one (.int .i64))] [0] (.s (.s (.r [0, 6, 89]) (.c .z .z)) (.s (.bj [] [0, 6] (.s (.r [0, 6, 7]) (.bj [] [0, 6] (.l [(7, .one (.int .i64))] [0, 6] (.s (.s (.r [0, 6, 7, 101]) (.c .z .z)) (.s (.b (.r [0, 6, 7])) (.r [0, 6, 7]))))))) (.r [0, 6])))))) (.s (.s (.r [0, 8]) (.bj [] [0] (.l [(8, .one (.int .i64))] [0] (.s (.s (.r [0, 8, 122]) (.c .z .z)) (.s (.bj [] [0, 8] (.s (.r [0, 8, 9]) (.bj [] [0, 8] (.l [(9, .one (.int .i64))] [0, 8] (.s (.s (.r [0, 8, 9, 134]) (.c .z .z)) (.s (.b (.r [0, 8, 9])) (.r [0, 8, 9]))))))) (.r [0, 8])))))) (.s (.s (.r [0, 10]) (.bj [] [0] (.l [(10, .one (.int .i64))] [0] (.s (.s (.r [0, 10, 155]) (.c .z .z)) (.s (.bj [] [0, 10] (.s (.r [0, 10, 11]) (.bj [] [0, 10] (.l [(11, .one (.int .i64))] [0, 10] (.s (.s (.r [0, 10, 11, 167]) (.c .z .z)) (.s (.b (.r [0, 10, 11])) (.r [0, 10, 11]))))))) (.r [0, 10])))))) (.s (.s (.r [0, 12]) (.bj [] [0] (.l [(12, .one (.int .i64))] [0] (.s (.s (.r [0, 12, 188]) (.c .z .z)) (.s (.bj [] [0, 12] (.s (.r [0, 12, 13]) (.bj [] [0, 12] (.l [(13, .one (.int .i64))] [0, 12] (.s (.s (.r [0, 12, 13, 200]) (.c .z .z)) (.s (.b (.r [0, 12, 13])) (.r [0, 12, 13]))))))) (.r [0, 12])))))) (.s (.s (.r [0, 14]) (.bj [] [0] (.l [(14, .one (.int .i64))] [0] (.s (.s (.r [0, 14, 221]) (.c .z .z)) (.s (.bj [] [0, 14] (.s (.r [0, 14, 15]) (.bj [] [0, 14] (.l [(15, .one (.int .i64))] [0, 14] (.s (.s (.r [0, 14, 15, 233]) (.c .z .z)) (.s (.b (.r [0, 14, 15])) (.r [0, 14, 15]))))))) (.r [0, 14])))))) (.s (.r [0, 16]) (.bj [] [] (.l [(16, .one (.int .i64))] [0] (.s (.s (.r [0, 16, 254]) (.c .z .z)) (.s (.bj [] [0, 16] (.s (.r [0, 16, 17]) (.bj [] [0, 16] (.l [(17, .one (.int .i64))] [0, 16] (.s (.s (.r [0, 16, 17, 266]) (.c .z .z)) (.s (.b (.r [0, 16, 17])) (.r [0, 16, 17]))))))) (.r [0, 16]))))))))))))
theorem F_law3_spread_mark.eq (f117_ : Int → Int → Heap → (Int → Heap → Prop) → Prop) (y1 : Option Addr) (h : Heap) (K : Value → Heap → Prop) : F_law3_spread_mark_of f117_ y1 h (fun  (h : Heap) => K (.tuple #[]) h) =
    den Try.prog (fn1 117 (E_law3_sign_of f117_) noFns) Try.f90.ntmps plan90 (bodyOf Try.f90) (args0 0 [(.pointer y1 : Value)]) h ⟨fun env h => dRes Try.prog Try.f90.results.toList env h K, fun _ _ _ => False, fun env h => dRes Try.prog Try.f90.results.toList env h K⟩ := by kernel_rfl
def E_law3_spread_mark_of (f : Option Addr → Heap → (Heap → Prop) → Prop) : List Value → Heap → (Value → Heap → Prop) → Prop
  | [v0], h, K => dec1 .ptr v0 fun (y1 : Option Addr) =>
  f y1 h (fun  (h : Heap) => K (.tuple #[]) h)
  | _, _, _ => False
abbrev E_law3_spread_mark := E_law3_spread_mark_of F_law3_spread_mark
theorem E_law3_spread_mark.right : IsRight Try.prog 90 E_law3_spread_mark := by
  refine isRight fun vs K w hh => ?_
  match vs, hh with
  | [v0], hh =>
    unfold E_law3_spread_mark E_law3_spread_mark_of at hh
    replace hh := dec1_sound hh; obtain ⟨y1, rfl, hh⟩ := hh
    unfold F_law3_spread_mark at hh
    exact calls_den (fn1_right ok117 E_law3_sign.right noFns_right) plan90 _ w K Try.func90 (by kernel_rfl) (by kernel_rfl) (Eq.mp (F_law3_spread_mark.eq F_law3_sign y1 w.heap K) hh)
theorem ok90 : okFn Try.prog 90 = true := by kernel_rfl
end Go.Proofs.Ytboidjampddfoaa.V
namespace Go.Proofs.Ytboidjampddfoaa.V
open Go Go.RowKit
set_option linter.unusedVariables false
set_option maxRecDepth 100000
def F_law3_spread_rest.l1 (i5 : Int) (j14 : Sl → Heap → Prop) : Sl → Int → Heap → Prop :=
  wl [(5, .one .sl), (6, .one (.int .i64))] (fun (next15 : Sl → Int → Heap → Prop) (l16 : Sl) (k17 : Int) (h18 : Heap) =>
  brr (decide (k17 < 40))
  (al 176 [.int .i64 (IntKind.i64.wrap ((-1) - i5)), .int .u64 0, .int .i64 0, .int .i64 0, .int .u64 0] h18 fun (a19 : Addr) (h20 : Heap) =>
  app 176 5 40 (.agg #[.int .i64 0, .int .u64 0, .int .i64 0, .int .i64 0, .int .u64 0]) l16 (some a19) 1 h20 fun (s21 : Sl) (h22 : Heap) =>
  next15 s21 (IntKind.i64.wrap (k17 + 1)) h22)
  (j14 l16 h18))
def F_law3_spread_rest.l2 (y1 z2 : Option Addr) (j3 : Heap → Prop) : Int → Heap → Prop :=
  wl [(4, .one (.int .i64))] (fun (next4 : Int → Heap → Prop) (i5 : Int) (h6 : Heap) =>
  nn y1 fun (a7 : Addr) =>
  ld [.sl] (a7.add 4) h6 fun (v8 : Sl) =>
  brr (decide (i5 < ((v8.len : Nat) : Int)))
  (jn [] (fun  (h33 : Heap) =>
  next4 (IntKind.i64.wrap (i5 + 1)) h33) (fun (j9 : Heap → Prop) =>
  nn y1 fun (a10 : Addr) =>
  ld [.sl] (a10.add 4) h6 fun (v11 : Sl) =>
  ixS 1 v11 i5 fun (a12 : Addr) =>
  ld [.sl] a12 h6 fun (v13 : Sl) =>
  jn [(5, .one .sl)] (fun (l23 : Sl) (h24 : Heap) =>
  nn z2 fun (a25 : Addr) =>
  ld [.sl] (a25.add 4) h24 fun (v26 : Sl) =>
  al 172 [.slice l23.ptr l23.len l23.cap] h24 fun (a27 : Addr) (h28 : Heap) =>
  app 172 1 24 (.slice none 0 0) v26 (some a27) 1 h28 fun (s29 : Sl) (h30 : Heap) =>
  nn z2 fun (a31 : Addr) =>
  st (a31.add 4) [.slice s29.ptr s29.len s29.cap] h30 fun (h32 : Heap) =>
  j9 h32) (fun (j14 : Sl → Heap → Prop) =>
  F_law3_spread_rest.l1 i5 j14 v13 0 h6)))
  (j3 h6))
def F_law3_spread_rest.l3 (i37 : Int) (j46 : Sl → Heap → Prop) : Sl → Int → Heap → Prop :=
  wl [(8, .one .sl), (9, .one (.int .i64))] (fun (next47 : Sl → Int → Heap → Prop) (l48 : Sl) (k49 : Int) (h50 : Heap) =>
  brr (decide (k49 < 40))
  (al 178 [.string (⟨#[109, 97, 114, 107]⟩ : ByteArray), .int .u64 (IntKind.u64.wrap i37)] h50 fun (a51 : Addr) (h52 : Heap) =>
  app 178 2 24 (.agg #[.string (⟨#[]⟩ : ByteArray), .int .u64 0]) l48 (some a51) 1 h52 fun (s53 : Sl) (h54 : Heap) =>
  next47 s53 (IntKind.i64.wrap (k49 + 1)) h54)
  (j46 l48 h50))
def F_law3_spread_rest.l4 (y1 z2 : Option Addr) (j35 : Heap → Prop) : Int → Heap → Prop :=
  wl [(7, .one (.int .i64))] (fun (next36 : Int → Heap → Prop) (i37 : Int) (h38 : Heap) =>
  nn y1 fun (a39 : Addr) =>
  ld [.sl] (a39.add 5) h38 fun (v40 : Sl) =>
  brr (decide (i37 < ((v40.len : Nat) : Int)))
  (jn [] (fun  (h65 : Heap) =>
  next36 (IntKind.i64.wrap (i37 + 1)) h65) (fun (j41 : Heap → Prop) =>
  nn y1 fun (a42 : Addr) =>
  ld [.sl] (a42.add 5) h38 fun (v43 : Sl) =>
  ixS 1 v43 i37 fun (a44 : Addr) =>
  ld [.sl] a44 h38 fun (v45 : Sl) =>
  jn [(8, .one .sl)] (fun (l55 : Sl) (h56 : Heap) =>
  nn z2 fun (a57 : Addr) =>
  ld [.sl] (a57.add 5) h56 fun (v58 : Sl) =>
  al 160 [.slice l55.ptr l55.len l55.cap] h56 fun (a59 : Addr) (h60 : Heap) =>
  app 160 1 24 (.slice none 0 0) v58 (some a59) 1 h60 fun (s61 : Sl) (h62 : Heap) =>
  nn z2 fun (a63 : Addr) =>
  st (a63.add 5) [.slice s61.ptr s61.len s61.cap] h62 fun (h64 : Heap) =>
  j41 h64) (fun (j46 : Sl → Heap → Prop) =>
  F_law3_spread_rest.l3 i37 j46 v45 0 h38)))
  (j35 h38))
def F_law3_spread_rest.l5 (i69 : Int) (j78 : Sl → Heap → Prop) : Sl → Int → Heap → Prop :=
  wl [(11, .one .sl), (12, .one (.int .i64))] (fun (next79 : Sl → Int → Heap → Prop) (l80 : Sl) (k81 : Int) (h82 : Heap) =>
  brr (decide (k81 < 40))
  (al 180 [.int .i64 (IntKind.i64.wrap ((-1) - i69)), .int .u64 0, .string (⟨#[]⟩ : ByteArray), .int .u64 0] h82 fun (a83 : Addr) (h84 : Heap) =>
  app 180 4 40 (.agg #[.int .i64 0, .int .u64 0, .string (⟨#[]⟩ : ByteArray), .int .u64 0]) l80 (some a83) 1 h84 fun (s85 : Sl) (h86 : Heap) =>
  next79 s85 (IntKind.i64.wrap (k81 + 1)) h86)
  (j78 l80 h82))
def F_law3_spread_rest.l6 (y1 z2 : Option Addr) (j67 : Heap → Prop) : Int → Heap → Prop :=
  wl [(10, .one (.int .i64))] (fun (next68 : Int → Heap → Prop) (i69 : Int) (h70 : Heap) =>
  nn y1 fun (a71 : Addr) =>
  ld [.sl] (a71.add 6) h70 fun (v72 : Sl) =>
  brr (decide (i69 < ((v72.len : Nat) : Int)))
  (jn [] (fun  (h97 : Heap) =>
  next68 (IntKind.i64.wrap (i69 + 1)) h97) (fun (j73 : Heap → Prop) =>
  nn y1 fun (a74 : Addr) =>
  ld [.sl] (a74.add 6) h70 fun (v75 : Sl) =>
  ixS 1 v75 i69 fun (a76 : Addr) =>
  ld [.sl] a76 h70 fun (v77 : Sl) =>
  jn [(11, .one .sl)] (fun (l87 : Sl) (h88 : Heap) =>
  nn z2 fun (a89 : Addr) =>
  ld [.sl] (a89.add 6) h88 fun (v90 : Sl) =>
  al 161 [.slice l87.ptr l87.len l87.cap] h88 fun (a91 : Addr) (h92 : Heap) =>
  app 161 1 24 (.slice none 0 0) v90 (some a91) 1 h92 fun (s93 : Sl) (h94 : Heap) =>
  nn z2 fun (a95 : Addr) =>
  st (a95.add 6) [.slice s93.ptr s93.len s93.cap] h94 fun (h96 : Heap) =>
  j73 h96) (fun (j78 : Sl → Heap → Prop) =>
  F_law3_spread_rest.l5 i69 j78 v77 0 h70)))
  (j67 h70))
def F_law3_spread_rest.l7 (i101 : Int) (j110 : Sl → Heap → Prop) : Sl → Int → Heap → Prop :=
  wl [(14, .one .sl), (15, .one (.int .i64))] (fun (next111 : Sl → Int → Heap → Prop) (l112 : Sl) (k113 : Int) (h114 : Heap) =>
  brr (decide (k113 < 40))
  (al 182 [.int .u64 0, .int .i64 0, .int .i64 (IntKind.i64.wrap ((-1) - i101)), .int .u64 0] h114 fun (a115 : Addr) (h116 : Heap) =>
  app 182 4 32 (.agg #[.int .u64 0, .int .i64 0, .int .i64 0, .int .u64 0]) l112 (some a115) 1 h116 fun (s117 : Sl) (h118 : Heap) =>
  next111 s117 (IntKind.i64.wrap (k113 + 1)) h118)
  (j110 l112 h114))
def F_law3_spread_rest.l8 (y1 z2 : Option Addr) (j99 : Heap → Prop) : Int → Heap → Prop :=
  wl [(13, .one (.int .i64))] (fun (next100 : Int → Heap → Prop) (i101 : Int) (h102 : Heap) =>
  nn y1 fun (a103 : Addr) =>
  ld [.sl] (a103.add 7) h102 fun (v104 : Sl) =>
  brr (decide (i101 < ((v104.len : Nat) : Int)))
  (jn [] (fun  (h129 : Heap) =>
  next100 (IntKind.i64.wrap (i101 + 1)) h129) (fun (j105 : Heap → Prop) =>
  nn y1 fun (a106 : Addr) =>
  ld [.sl] (a106.add 7) h102 fun (v107 : Sl) =>
  ixS 1 v107 i101 fun (a108 : Addr) =>
  ld [.sl] a108 h102 fun (v109 : Sl) =>
  jn [(14, .one .sl)] (fun (l119 : Sl) (h120 : Heap) =>
  nn z2 fun (a121 : Addr) =>
  ld [.sl] (a121.add 7) h120 fun (v122 : Sl) =>
  al 162 [.slice l119.ptr l119.len l119.cap] h120 fun (a123 : Addr) (h124 : Heap) =>
  app 162 1 24 (.slice none 0 0) v122 (some a123) 1 h124 fun (s125 : Sl) (h126 : Heap) =>
  nn z2 fun (a127 : Addr) =>
  st (a127.add 7) [.slice s125.ptr s125.len s125.cap] h126 fun (h128 : Heap) =>
  j105 h128) (fun (j110 : Sl → Heap → Prop) =>
  F_law3_spread_rest.l7 i101 j110 v109 0 h102)))
  (j99 h102))
def F_law3_spread_rest_of  (y1 z2 : Option Addr) (h : Heap) (Q : Heap → Prop) : Prop :=
  jn [] (fun  (h34 : Heap) =>
  jn [] (fun  (h66 : Heap) =>
  jn [] (fun  (h98 : Heap) =>
  jn [] (fun  (h130 : Heap) =>
  Q h130) (fun (j99 : Heap → Prop) =>
  F_law3_spread_rest.l8 y1 z2 j99 0 h98)) (fun (j67 : Heap → Prop) =>
  F_law3_spread_rest.l6 y1 z2 j67 0 h66)) (fun (j35 : Heap → Prop) =>
  F_law3_spread_rest.l4 y1 z2 j35 0 h34)) (fun (j3 : Heap → Prop) =>
  F_law3_spread_rest.l2 y1 z2 j3 0 h)
def F_law3_spread_rest (y1 z2 : Option Addr) (h : Heap) (Q : Heap → Prop) : Prop := F_law3_spread_rest_of  y1 z2 h Q
def plan118 : Plan := .s (.s (.r [0, 1, 4]) (.bj [] [0, 1] (.l [(4, .one (.int .i64))] [0, 1] (.s (.s (.r [0, 1, 4, 22]) (.c .z .z)) (.s (.bj [] [0, 1, 4] (.s (.r [0, 1, 4, 5]) (.s (.s (.r [0, 1, 4, 5, 6]) (.bj [(5, .one .sl)] [0, 1, 4] (.l [(5, .one .sl), (6, .one (.int .i64))] [0, 1, 4] (.s (.s (.r [0, 1, 4, 5, 6, 33]) (.c .z .z)) (.s (.b (.r [0, 1, 4, 5, 6])) (.r [0, 1, 4, 5, 6])))))) (.r [0, 1, 4])))) (.r [0, 1, 4])))))) (.s (.s (.r [0, 1, 7]) (.bj [] [0, 1] (.l [(7, .one (.int .i64))] [0, 1] (.s (.s (.r [0, 1, 7, 58]) (.c .z .z)) (.s (.bj [] [0, 1, 7] (.s (.r [0, 1, 7, 8]) (.s (.s (.r [0, 1, 7, 8, 9]) (.bj [(8, .one .sl)] [0, 1, 7] (.l [(8, .one .sl), (9, .one (.int .i64))] [0, 1, 7] (.s (.s (.r [0, 1, 7, 8, 9, 69]) (.c .z .z)) (.s (.b (.r [0, 1, 7, 8, 9])) (.r [0, 1, 7, 8, 9])))))) (.r [0, 1, 7])))) (.r [0, 1, 7])))))) (.s (.s (.r [0, 1, 10]) (.bj [] [0, 1] (.l [(10, .one (.int .i64))] [0, 1] (.s (.s (.r [0, 1, 10, 94]) (.c .z .z)) (.s (.bj [] [0, 1, 10] (.s (.r [0, 1, 10, 11]) (.s (.s (.r [0, 1, 10, 11, 12]) (.bj [(11, .one .sl)] [0, 1, 10] (.l [(11, .one .sl), (12, .one (.int .i64))] [0, 1, 10] (.s (.s (.r [0, 1, 10, 11, 12, 105]) (.c .z .z)) (.s (.b (.r [0, 1, 10, 11, 12])) (.r [0, 1, 10, 11, 12])))))) (.r [0, 1, 10])))) (.r [0, 1, 10])))))) (.s (.r [0, 1, 13]) (.bj [] [] (.l [(13, .one (.int .i64))] [0, 1] (.s (.s (.r [0, 1, 13, 130]) (.c .z .z)) (.s (.bj [] [0, 1, 13] (.s (.r [0, 1, 13, 14]) (.s (.s (.r [0, 1, 13, 14, 15]) (.bj [(14, .one .sl)] [0, 1, 13] (.l [(14, .one .sl), (15, .one (.int .i64))] [0, 1, 13] (.s (.s (.r [0, 1, 13, 14, 15, 141]) (.c .z .z)) (.s (.b (.r [0, 1, 13, 14, 15])) (.r [0, 1, 13, 14, 15])))))) (.r [0, 1, 13])))) (.r [0, 1, 13]))))))))
theorem F_law3_spread_rest.eq  (y1 z2 : Option Addr) (h : Heap) (K : Value → Heap → Prop) : F_law3_spread_rest_of  y1 z2 h (fun  (h : Heap) => K (.tuple #[]) h) =
    den Try.prog noFns Try.f118.ntmps plan118 (bodyOf Try.f118) (args0 0 [(.pointer y1 : Value), (.pointer z2 : Value)]) h ⟨fun env h => dRes Try.prog Try.f118.results.toList env h K, fun _ _ _ => False, fun env h => dRes Try.prog Try.f118.results.toList env h K⟩ := by kernel_rfl
def E_law3_spread_rest_of (f : Option Addr → Option Addr → Heap → (Heap → Prop) → Prop) : List Value → Heap → (Value → Heap → Prop) → Prop
  | [v0, v1], h, K => dec1 .ptr v0 fun (y1 : Option Addr) =>
  dec1 .ptr v1 fun (z2 : Option Addr) =>
  f y1 z2 h (fun  (h : Heap) => K (.tuple #[]) h)
  | _, _, _ => False
abbrev E_law3_spread_rest := E_law3_spread_rest_of F_law3_spread_rest
theorem E_law3_spread_rest.right : IsRight Try.prog 118 E_law3_spread_rest := by
  refine isRight fun vs K w hh => ?_
  match vs, hh with
  | [v0, v1], hh =>
    unfold E_law3_spread_rest E_law3_spread_rest_of at hh
    replace hh := dec1_sound hh; obtain ⟨y1, rfl, hh⟩ := hh
    replace hh := dec1_sound hh; obtain ⟨z2, rfl, hh⟩ := hh
    unfold F_law3_spread_rest at hh
    exact calls_den noFns_right plan118 _ w K Try.func118 (by kernel_rfl) (by kernel_rfl) (Eq.mp (F_law3_spread_rest.eq  y1 z2 w.heap K) hh)
theorem ok118 : okFn Try.prog 118 = true := by kernel_rfl
end Go.Proofs.Ytboidjampddfoaa.V
namespace Go.Proofs.Ytboidjampddfoaa.V
open Go Go.RowKit
set_option linter.unusedVariables false
set_option maxRecDepth 100000
def F_law3_spread_grown.l1 (i6 : Int) (j15 : Sl → Heap → Prop) : Sl → Int → Heap → Prop :=
  wl [(5, .one .sl), (6, .one (.int .i64))] (fun (next16 : Sl → Int → Heap → Prop) (l17 : Sl) (k18 : Int) (h19 : Heap) =>
  brr (decide (k18 < 40))
  (al 3 [.int .i64 (IntKind.i64.wrap ((-1) - i6))] h19 fun (a20 : Addr) (h21 : Heap) =>
  app 3 1 8 (.int .i64 0) l17 (some a20) 1 h21 fun (s22 : Sl) (h23 : Heap) =>
  next16 s22 (IntKind.i64.wrap (k18 + 1)) h23)
  (j15 l17 h19))
def F_law3_spread_grown.l2 (y1 : Option Addr) (a2 : Addr) (j4 : Heap → Prop) : Int → Heap → Prop :=
  wl [(4, .one (.int .i64))] (fun (next5 : Int → Heap → Prop) (i6 : Int) (h7 : Heap) =>
  nn y1 fun (a8 : Addr) =>
  ld [.sl] (a8.add 0) h7 fun (v9 : Sl) =>
  brr (decide (i6 < ((v9.len : Nat) : Int)))
  (jn [] (fun  (h34 : Heap) =>
  next5 (IntKind.i64.wrap (i6 + 1)) h34) (fun (j10 : Heap → Prop) =>
  nn y1 fun (a11 : Addr) =>
  ld [.sl] (a11.add 0) h7 fun (v12 : Sl) =>
  ixS 1 v12 i6 fun (a13 : Addr) =>
  ld [.sl] a13 h7 fun (v14 : Sl) =>
  jn [(5, .one .sl)] (fun (l24 : Sl) (h25 : Heap) =>
  nn (some a2) fun (a26 : Addr) =>
  ld [.sl] (a26.add 0) h25 fun (v27 : Sl) =>
  al 51 [.slice l24.ptr l24.len l24.cap] h25 fun (a28 : Addr) (h29 : Heap) =>
  app 51 1 24 (.slice none 0 0) v27 (some a28) 1 h29 fun (s30 : Sl) (h31 : Heap) =>
  nn (some a2) fun (a32 : Addr) =>
  st (a32.add 0) [.slice s30.ptr s30.len s30.cap] h31 fun (h33 : Heap) =>
  j10 h33) (fun (j15 : Sl → Heap → Prop) =>
  F_law3_spread_grown.l1 i6 j15 v14 0 h7)))
  (j4 h7))
def F_law3_spread_grown.l3 (f117_ : Int → Int → Heap → (Int → Heap → Prop) → Prop) (i38 : Int) (j47 : Sl → Heap → Prop) : Sl → Int → Heap → Prop :=
  wl [(8, .one .sl), (9, .one (.int .i64))] (fun (next48 : Sl → Int → Heap → Prop) (l49 : Sl) (k50 : Int) (h51 : Heap) =>
  brr (decide (k50 < 96))
  (f117_ i38 ((l49.len : Nat) : Int) h51 fun (r52 : Int) (h53 : Heap) =>
  al 5 [.int .u8 r52] h53 fun (a54 : Addr) (h55 : Heap) =>
  app 5 1 1 (.int .u8 0) l49 (some a54) 1 h55 fun (s56 : Sl) (h57 : Heap) =>
  next48 s56 (IntKind.i64.wrap (k50 + 1)) h57)
  (j47 l49 h51))
def F_law3_spread_grown.l4 (f117_ : Int → Int → Heap → (Int → Heap → Prop) → Prop) (y1 : Option Addr) (a2 : Addr) (j36 : Heap → Prop) : Int → Heap → Prop :=
  wl [(7, .one (.int .i64))] (fun (next37 : Int → Heap → Prop) (i38 : Int) (h39 : Heap) =>
  nn y1 fun (a40 : Addr) =>
  ld [.sl] (a40.add 1) h39 fun (v41 : Sl) =>
  brr (decide (i38 < ((v41.len : Nat) : Int)))
  (jn [] (fun  (h68 : Heap) =>
  next37 (IntKind.i64.wrap (i38 + 1)) h68) (fun (j42 : Heap → Prop) =>
  nn y1 fun (a43 : Addr) =>
  ld [.sl] (a43.add 1) h39 fun (v44 : Sl) =>
  ixS 1 v44 i38 fun (a45 : Addr) =>
  ld [.sl] a45 h39 fun (v46 : Sl) =>
  jn [(8, .one .sl)] (fun (l58 : Sl) (h59 : Heap) =>
  nn (some a2) fun (a60 : Addr) =>
  ld [.sl] (a60.add 1) h59 fun (v61 : Sl) =>
  al 31 [.slice l58.ptr l58.len l58.cap] h59 fun (a62 : Addr) (h63 : Heap) =>
  app 31 1 24 (.slice none 0 0) v61 (some a62) 1 h63 fun (s64 : Sl) (h65 : Heap) =>
  nn (some a2) fun (a66 : Addr) =>
  st (a66.add 1) [.slice s64.ptr s64.len s64.cap] h65 fun (h67 : Heap) =>
  j42 h67) (fun (j47 : Sl → Heap → Prop) =>
  F_law3_spread_grown.l3 f117_ i38 j47 v46 0 h39)))
  (j36 h39))
def F_law3_spread_grown.l5 (i72 : Int) (j81 : Sl → Heap → Prop) : Sl → Int → Heap → Prop :=
  wl [(11, .one .sl), (12, .one (.int .i64))] (fun (next82 : Sl → Int → Heap → Prop) (l83 : Sl) (k84 : Int) (h85 : Heap) =>
  brr (decide (k84 < 40))
  (al 28 [.int .u64 (IntKind.u64.wrap (1125899906842624 + (IntKind.u64.wrap i72)))] h85 fun (a86 : Addr) (h87 : Heap) =>
  app 28 1 8 (.int .u64 0) l83 (some a86) 1 h87 fun (s88 : Sl) (h89 : Heap) =>
  next82 s88 (IntKind.i64.wrap (k84 + 1)) h89)
  (j81 l83 h85))
def F_law3_spread_grown.l6 (y1 : Option Addr) (a2 : Addr) (j70 : Heap → Prop) : Int → Heap → Prop :=
  wl [(10, .one (.int .i64))] (fun (next71 : Int → Heap → Prop) (i72 : Int) (h73 : Heap) =>
  nn y1 fun (a74 : Addr) =>
  ld [.sl] (a74.add 2) h73 fun (v75 : Sl) =>
  brr (decide (i72 < ((v75.len : Nat) : Int)))
  (jn [] (fun  (h100 : Heap) =>
  next71 (IntKind.i64.wrap (i72 + 1)) h100) (fun (j76 : Heap → Prop) =>
  nn y1 fun (a77 : Addr) =>
  ld [.sl] (a77.add 2) h73 fun (v78 : Sl) =>
  ixS 1 v78 i72 fun (a79 : Addr) =>
  ld [.sl] a79 h73 fun (v80 : Sl) =>
  jn [(11, .one .sl)] (fun (l90 : Sl) (h91 : Heap) =>
  nn (some a2) fun (a92 : Addr) =>
  ld [.sl] (a92.add 2) h91 fun (v93 : Sl) =>
  al 89 [.slice l90.ptr l90.len l90.cap] h91 fun (a94 : Addr) (h95 : Heap) =>
  app 89 1 24 (.slice none 0 0) v93 (some a94) 1 h95 fun (s96 : Sl) (h97 : Heap) =>
  nn (some a2) fun (a98 : Addr) =>
  st (a98.add 2) [.slice s96.ptr s96.len s96.cap] h97 fun (h99 : Heap) =>
  j76 h99) (fun (j81 : Sl → Heap → Prop) =>
  F_law3_spread_grown.l5 i72 j81 v80 0 h73)))
  (j70 h73))
def F_law3_spread_grown.l7 (i104 : Int) (j113 : Sl → Heap → Prop) : Sl → Int → Heap → Prop :=
  wl [(14, .one .sl), (15, .one (.int .i64))] (fun (next114 : Sl → Int → Heap → Prop) (l115 : Sl) (k116 : Int) (h117 : Heap) =>
  brr (decide (k116 < 40))
  (al 36 [.int .i64 0, .int .i64 0, .int .i64 0, .int .i64 0, .int .u64 0, .int .u64 0, .int .u64 0, .int .u64 0, .int .i64 (IntKind.i64.wrap ((-1) - i104)), .int .u64 0, .slice none 0 0, .int .i64 0, .int .u64 0, .string (⟨#[]⟩ : ByteArray), .string (⟨#[]⟩ : ByteArray), .int .u64 0, .int .u64 0, .int .u64 0, .int .i64 0, .int .i64 0, .int .i64 0, .int .i64 0] h117 fun (a118 : Addr) (h119 : Heap) =>
  app 36 22 208 (.agg #[.int .i64 0, .int .i64 0, .int .i64 0, .int .i64 0, .int .u64 0, .int .u64 0, .int .u64 0, .int .u64 0, .int .i64 0, .int .u64 0, .slice none 0 0, .int .i64 0, .int .u64 0, .string (⟨#[]⟩ : ByteArray), .string (⟨#[]⟩ : ByteArray), .int .u64 0, .int .u64 0, .int .u64 0, .int .i64 0, .int .i64 0, .int .i64 0, .int .i64 0]) l115 (some a118) 1 h119 fun (s120 : Sl) (h121 : Heap) =>
  next114 s120 (IntKind.i64.wrap (k116 + 1)) h121)
  (j113 l115 h117))
def F_law3_spread_grown.l8 (y1 : Option Addr) (a2 : Addr) (j102 : Heap → Prop) : Int → Heap → Prop :=
  wl [(13, .one (.int .i64))] (fun (next103 : Int → Heap → Prop) (i104 : Int) (h105 : Heap) =>
  nn y1 fun (a106 : Addr) =>
  ld [.sl] (a106.add 3) h105 fun (v107 : Sl) =>
  brr (decide (i104 < ((v107.len : Nat) : Int)))
  (jn [] (fun  (h132 : Heap) =>
  next103 (IntKind.i64.wrap (i104 + 1)) h132) (fun (j108 : Heap → Prop) =>
  nn y1 fun (a109 : Addr) =>
  ld [.sl] (a109.add 3) h105 fun (v110 : Sl) =>
  ixS 1 v110 i104 fun (a111 : Addr) =>
  ld [.sl] a111 h105 fun (v112 : Sl) =>
  jn [(14, .one .sl)] (fun (l122 : Sl) (h123 : Heap) =>
  nn (some a2) fun (a124 : Addr) =>
  ld [.sl] (a124.add 3) h123 fun (v125 : Sl) =>
  al 159 [.slice l122.ptr l122.len l122.cap] h123 fun (a126 : Addr) (h127 : Heap) =>
  app 159 1 24 (.slice none 0 0) v125 (some a126) 1 h127 fun (s128 : Sl) (h129 : Heap) =>
  nn (some a2) fun (a130 : Addr) =>
  st (a130.add 3) [.slice s128.ptr s128.len s128.cap] h129 fun (h131 : Heap) =>
  j108 h131) (fun (j113 : Sl → Heap → Prop) =>
  F_law3_spread_grown.l7 i104 j113 v112 0 h105)))
  (j102 h105))
def F_law3_spread_grown_of (f117_ : Int → Int → Heap → (Int → Heap → Prop) → Prop) (f118_ : Option Addr → Option Addr → Heap → (Heap → Prop) → Prop) (y1 : Option Addr) (h : Heap) (Q : Option Addr → Heap → Prop) : Prop :=
  al 158 [.slice none 0 0, .slice none 0 0, .slice none 0 0, .slice none 0 0, .slice none 0 0, .slice none 0 0, .slice none 0 0, .slice none 0 0] h fun (a2 : Addr) (h3 : Heap) =>
  jn [] (fun  (h35 : Heap) =>
  jn [] (fun  (h69 : Heap) =>
  jn [] (fun  (h101 : Heap) =>
  jn [] (fun  (h133 : Heap) =>
  f118_ y1 (some a2) h133 fun  (h134 : Heap) =>
  Q (some a2) h134) (fun (j102 : Heap → Prop) =>
  F_law3_spread_grown.l8 y1 a2 j102 0 h101)) (fun (j70 : Heap → Prop) =>
  F_law3_spread_grown.l6 y1 a2 j70 0 h69)) (fun (j36 : Heap → Prop) =>
  F_law3_spread_grown.l4 f117_ y1 a2 j36 0 h35)) (fun (j4 : Heap → Prop) =>
  F_law3_spread_grown.l2 y1 a2 j4 0 h3)
def F_law3_spread_grown (y1 : Option Addr) (h : Heap) (Q : Option Addr → Heap → Prop) : Prop := F_law3_spread_grown_of F_law3_sign F_law3_spread_rest y1 h Q
def plan91 : Plan := .s (.r [0]) (.s (.r [0, 3]) (.s (.s (.r [0, 3, 4]) (.bj [] [0, 3] (.l [(4, .one (.int .i64))] [0, 3] (.s (.s (.r [0, 3, 4, 24]) (.c .z .z)) (.s (.bj [] [0, 3, 4] (.s (.r [0, 3, 4, 5]) (.s (.s (.r [0, 3, 4, 5, 6]) (.bj [(5, .one .sl)] [0, 3, 4] (.l [(5, .one .sl), (6, .one (.int .i64))] [0, 3, 4] (.s (.s (.r [0, 3, 4, 5, 6, 35]) (.c .z .z)) (.s (.b (.r [0, 3, 4, 5, 6])) (.r [0, 3, 4, 5, 6])))))) (.r [0, 3, 4])))) (.r [0, 3, 4])))))) (.s (.s (.r [0, 3, 7]) (.bj [] [0, 3] (.l [(7, .one (.int .i64))] [0, 3] (.s (.s (.r [0, 3, 7, 59]) (.c .z .z)) (.s (.bj [] [0, 3, 7] (.s (.r [0, 3, 7, 8]) (.s (.s (.r [0, 3, 7, 8, 9]) (.bj [(8, .one .sl)] [0, 3, 7] (.l [(8, .one .sl), (9, .one (.int .i64))] [0, 3, 7] (.s (.s (.r [0, 3, 7, 8, 9, 70]) (.c .z .z)) (.s (.b (.r [0, 3, 7, 8, 9])) (.r [0, 3, 7, 8, 9])))))) (.r [0, 3, 7])))) (.r [0, 3, 7])))))) (.s (.s (.r [0, 3, 10]) (.bj [] [0, 3] (.l [(10, .one (.int .i64))] [0, 3] (.s (.s (.r [0, 3, 10, 96]) (.c .z .z)) (.s (.bj [] [0, 3, 10] (.s (.r [0, 3, 10, 11]) (.s (.s (.r [0, 3, 10, 11, 12]) (.bj [(11, .one .sl)] [0, 3, 10] (.l [(11, .one .sl), (12, .one (.int .i64))] [0, 3, 10] (.s (.s (.r [0, 3, 10, 11, 12, 107]) (.c .z .z)) (.s (.b (.r [0, 3, 10, 11, 12])) (.r [0, 3, 10, 11, 12])))))) (.r [0, 3, 10])))) (.r [0, 3, 10])))))) (.s (.s (.r [0, 3, 13]) (.bj [] [0, 3] (.l [(13, .one (.int .i64))] [0, 3] (.s (.s (.r [0, 3, 13, 132]) (.c .z .z)) (.s (.bj [] [0, 3, 13] (.s (.r [0, 3, 13, 14]) (.s (.s (.r [0, 3, 13, 14, 15]) (.bj [(14, .one .sl)] [0, 3, 13] (.l [(14, .one .sl), (15, .one (.int .i64))] [0, 3, 13] (.s (.s (.r [0, 3, 13, 14, 15, 143]) (.c .z .z)) (.s (.b (.r [0, 3, 13, 14, 15])) (.r [0, 3, 13, 14, 15])))))) (.r [0, 3, 13])))) (.r [0, 3, 13])))))) (.s (.r [3]) (.s (.r [2]) .z)))))))
theorem F_law3_spread_grown.eq (f117_ : Int → Int → Heap → (Int → Heap → Prop) → Prop) (f118_ : Option Addr → Option Addr → Heap → (Heap → Prop) → Prop) (y1 : Option Addr) (h : Heap) (K : Value → Heap → Prop) : F_law3_spread_grown_of f117_ f118_ y1 h (fun (r0 : Option Addr) (h : Heap) => K (.pointer r0) h) =
    den Try.prog (fn1 117 (E_law3_sign_of f117_) (fn1 118 (E_law3_spread_rest_of f118_) noFns)) Try.f91.ntmps plan91 (bodyOf Try.f91) (args0 0 [(.pointer y1 : Value)]) h ⟨fun env h => dRes Try.prog Try.f91.results.toList env h K, fun _ _ _ => False, fun env h => dRes Try.prog Try.f91.results.toList env h K⟩ := by kernel_rfl
def E_law3_spread_grown_of (f : Option Addr → Heap → (Option Addr → Heap → Prop) → Prop) : List Value → Heap → (Value → Heap → Prop) → Prop
  | [v0], h, K => dec1 .ptr v0 fun (y1 : Option Addr) =>
  f y1 h (fun (r0 : Option Addr) (h : Heap) => K (.pointer r0) h)
  | _, _, _ => False
abbrev E_law3_spread_grown := E_law3_spread_grown_of F_law3_spread_grown
theorem E_law3_spread_grown.right : IsRight Try.prog 91 E_law3_spread_grown := by
  refine isRight fun vs K w hh => ?_
  match vs, hh with
  | [v0], hh =>
    unfold E_law3_spread_grown E_law3_spread_grown_of at hh
    replace hh := dec1_sound hh; obtain ⟨y1, rfl, hh⟩ := hh
    unfold F_law3_spread_grown at hh
    exact calls_den (fn1_right ok117 E_law3_sign.right (fn1_right ok118 E_law3_spread_rest.right noFns_right)) plan91 _ w K Try.func91 (by kernel_rfl) (by kernel_rfl) (Eq.mp (F_law3_spread_grown.eq F_law3_sign F_law3_spread_rest y1 w.heap K) hh)
theorem ok91 : okFn Try.prog 91 = true := by kernel_rfl
end Go.Proofs.Ytboidjampddfoaa.V
namespace Go.Proofs.Ytboidjampddfoaa.V
open Go Go.RowKit
set_option linter.unusedVariables false
set_option maxRecDepth 100000
def F_law3_spread_others.l1 (y1 : Option Addr) (Q : Bool → Heap → Prop) (i4 : Int) (j9 : Heap → Prop) : Int → Heap → Prop :=
  wl [(4, .one (.int .i64))] (fun (next10 : Int → Heap → Prop) (k11 : Int) (h12 : Heap) =>
  nn y1 fun (a13 : Addr) =>
  ld [.sl] (a13.add 4) h12 fun (v14 : Sl) =>
  ixS 1 v14 i4 fun (a15 : Addr) =>
  ld [.sl] a15 h12 fun (v16 : Sl) =>
  brr (decide (k11 < ((v16.len : Nat) : Int)))
  (nn y1 fun (a17 : Addr) =>
  ld [.sl] (a17.add 4) h12 fun (v18 : Sl) =>
  ixS 1 v18 i4 fun (a19 : Addr) =>
  ld [.sl] a19 h12 fun (v20 : Sl) =>
  ixS 5 v20 k11 fun (a21 : Addr) =>
  ld [.int .i64, .int .u64, .int .i64, .int .i64, .int .u64] a21 h12 fun (v22 v23 v24 v25 v26 : Int) =>
  brr (!((v22 == (IntKind.i64.wrap ((-1) - i4))) && ((v23 == 0) && ((v24 == 0) && ((v25 == 0) && ((v26 == 0) && (true)))))))
  (Q false h12)
  (next10 (IntKind.i64.wrap (k11 + 1)) h12))
  (j9 h12))
def F_law3_spread_others.l2 (y1 : Option Addr) (Q : Bool → Heap → Prop) (j2 : Heap → Prop) : Int → Heap → Prop :=
  wl [(3, .one (.int .i64))] (fun (next3 : Int → Heap → Prop) (i4 : Int) (h5 : Heap) =>
  nn y1 fun (a6 : Addr) =>
  ld [.sl] (a6.add 4) h5 fun (v7 : Sl) =>
  brr (decide (i4 < ((v7.len : Nat) : Int)))
  (jn [] (fun  (h28 : Heap) =>
  next3 (IntKind.i64.wrap (i4 + 1)) h28) (fun (j8 : Heap → Prop) =>
  jn [] (fun  (h27 : Heap) =>
  j8 h27) (fun (j9 : Heap → Prop) =>
  F_law3_spread_others.l1 y1 Q i4 j9 0 h5)))
  (j2 h5))
def F_law3_spread_others.l3 (y1 : Option Addr) (Q : Bool → Heap → Prop) (i32 : Int) (j37 : Heap → Prop) : Int → Heap → Prop :=
  wl [(6, .one (.int .i64))] (fun (next38 : Int → Heap → Prop) (k39 : Int) (h40 : Heap) =>
  nn y1 fun (a41 : Addr) =>
  ld [.sl] (a41.add 5) h40 fun (v42 : Sl) =>
  ixS 1 v42 i32 fun (a43 : Addr) =>
  ld [.sl] a43 h40 fun (v44 : Sl) =>
  brr (decide (k39 < ((v44.len : Nat) : Int)))
  (nn y1 fun (a45 : Addr) =>
  ld [.sl] (a45.add 5) h40 fun (v46 : Sl) =>
  ixS 1 v46 i32 fun (a47 : Addr) =>
  ld [.sl] a47 h40 fun (v48 : Sl) =>
  ixS 2 v48 k39 fun (a49 : Addr) =>
  ld [.str, .int .u64] a49 h40 fun (v50 : ByteArray) (v51 : Int) =>
  brr (!((v50.toList == (⟨#[109, 97, 114, 107]⟩ : ByteArray).toList) && ((v51 == (IntKind.u64.wrap i32)) && (true))))
  (Q false h40)
  (next38 (IntKind.i64.wrap (k39 + 1)) h40))
  (j37 h40))
def F_law3_spread_others.l4 (y1 : Option Addr) (Q : Bool → Heap → Prop) (j30 : Heap → Prop) : Int → Heap → Prop :=
  wl [(5, .one (.int .i64))] (fun (next31 : Int → Heap → Prop) (i32 : Int) (h33 : Heap) =>
  nn y1 fun (a34 : Addr) =>
  ld [.sl] (a34.add 5) h33 fun (v35 : Sl) =>
  brr (decide (i32 < ((v35.len : Nat) : Int)))
  (jn [] (fun  (h53 : Heap) =>
  next31 (IntKind.i64.wrap (i32 + 1)) h53) (fun (j36 : Heap → Prop) =>
  jn [] (fun  (h52 : Heap) =>
  j36 h52) (fun (j37 : Heap → Prop) =>
  F_law3_spread_others.l3 y1 Q i32 j37 0 h33)))
  (j30 h33))
def F_law3_spread_others.l5 (y1 : Option Addr) (Q : Bool → Heap → Prop) (i57 : Int) (j62 : Heap → Prop) : Int → Heap → Prop :=
  wl [(8, .one (.int .i64))] (fun (next63 : Int → Heap → Prop) (k64 : Int) (h65 : Heap) =>
  nn y1 fun (a66 : Addr) =>
  ld [.sl] (a66.add 6) h65 fun (v67 : Sl) =>
  ixS 1 v67 i57 fun (a68 : Addr) =>
  ld [.sl] a68 h65 fun (v69 : Sl) =>
  brr (decide (k64 < ((v69.len : Nat) : Int)))
  (nn y1 fun (a70 : Addr) =>
  ld [.sl] (a70.add 6) h65 fun (v71 : Sl) =>
  ixS 1 v71 i57 fun (a72 : Addr) =>
  ld [.sl] a72 h65 fun (v73 : Sl) =>
  ixS 4 v73 k64 fun (a74 : Addr) =>
  ld [.int .i64, .int .u64, .str, .int .u64] a74 h65 fun (v75 v76 : Int) (v77 : ByteArray) (v78 : Int) =>
  brr (!((v75 == (IntKind.i64.wrap ((-1) - i57))) && ((v76 == 0) && ((v77.toList == (⟨#[]⟩ : ByteArray).toList) && ((v78 == 0) && (true))))))
  (Q false h65)
  (next63 (IntKind.i64.wrap (k64 + 1)) h65))
  (j62 h65))
def F_law3_spread_others.l6 (y1 : Option Addr) (Q : Bool → Heap → Prop) (j55 : Heap → Prop) : Int → Heap → Prop :=
  wl [(7, .one (.int .i64))] (fun (next56 : Int → Heap → Prop) (i57 : Int) (h58 : Heap) =>
  nn y1 fun (a59 : Addr) =>
  ld [.sl] (a59.add 6) h58 fun (v60 : Sl) =>
  brr (decide (i57 < ((v60.len : Nat) : Int)))
  (jn [] (fun  (h80 : Heap) =>
  next56 (IntKind.i64.wrap (i57 + 1)) h80) (fun (j61 : Heap → Prop) =>
  jn [] (fun  (h79 : Heap) =>
  j61 h79) (fun (j62 : Heap → Prop) =>
  F_law3_spread_others.l5 y1 Q i57 j62 0 h58)))
  (j55 h58))
def F_law3_spread_others.l7 (y1 : Option Addr) (Q : Bool → Heap → Prop) (i84 : Int) (j89 : Heap → Prop) : Int → Heap → Prop :=
  wl [(10, .one (.int .i64))] (fun (next90 : Int → Heap → Prop) (k91 : Int) (h92 : Heap) =>
  nn y1 fun (a93 : Addr) =>
  ld [.sl] (a93.add 7) h92 fun (v94 : Sl) =>
  ixS 1 v94 i84 fun (a95 : Addr) =>
  ld [.sl] a95 h92 fun (v96 : Sl) =>
  brr (decide (k91 < ((v96.len : Nat) : Int)))
  (nn y1 fun (a97 : Addr) =>
  ld [.sl] (a97.add 7) h92 fun (v98 : Sl) =>
  ixS 1 v98 i84 fun (a99 : Addr) =>
  ld [.sl] a99 h92 fun (v100 : Sl) =>
  ixS 4 v100 k91 fun (a101 : Addr) =>
  ld [.int .u64, .int .i64, .int .i64, .int .u64] a101 h92 fun (v102 v103 v104 v105 : Int) =>
  brr (!((v102 == 0) && ((v103 == 0) && ((v104 == (IntKind.i64.wrap ((-1) - i84))) && ((v105 == 0) && (true))))))
  (Q false h92)
  (next90 (IntKind.i64.wrap (k91 + 1)) h92))
  (j89 h92))
def F_law3_spread_others.l8 (y1 : Option Addr) (Q : Bool → Heap → Prop) (j82 : Heap → Prop) : Int → Heap → Prop :=
  wl [(9, .one (.int .i64))] (fun (next83 : Int → Heap → Prop) (i84 : Int) (h85 : Heap) =>
  nn y1 fun (a86 : Addr) =>
  ld [.sl] (a86.add 7) h85 fun (v87 : Sl) =>
  brr (decide (i84 < ((v87.len : Nat) : Int)))
  (jn [] (fun  (h107 : Heap) =>
  next83 (IntKind.i64.wrap (i84 + 1)) h107) (fun (j88 : Heap → Prop) =>
  jn [] (fun  (h106 : Heap) =>
  j88 h106) (fun (j89 : Heap → Prop) =>
  F_law3_spread_others.l7 y1 Q i84 j89 0 h85)))
  (j82 h85))
def F_law3_spread_others_of  (y1 : Option Addr) (h : Heap) (Q : Bool → Heap → Prop) : Prop :=
  jn [] (fun  (h29 : Heap) =>
  jn [] (fun  (h54 : Heap) =>
  jn [] (fun  (h81 : Heap) =>
  jn [] (fun  (h108 : Heap) =>
  Q true h108) (fun (j82 : Heap → Prop) =>
  F_law3_spread_others.l8 y1 Q j82 0 h81)) (fun (j55 : Heap → Prop) =>
  F_law3_spread_others.l6 y1 Q j55 0 h54)) (fun (j30 : Heap → Prop) =>
  F_law3_spread_others.l4 y1 Q j30 0 h29)) (fun (j2 : Heap → Prop) =>
  F_law3_spread_others.l2 y1 Q j2 0 h)
def F_law3_spread_others (y1 : Option Addr) (h : Heap) (Q : Bool → Heap → Prop) : Prop := F_law3_spread_others_of  y1 h Q
def plan120 : Plan := .s (.r [0]) (.s (.s (.r [0, 3]) (.bj [] [0] (.l [(3, .one (.int .i64))] [0] (.s (.s (.r [0, 3, 17]) (.c .z .z)) (.s (.bj [] [0, 3] (.s (.r [0, 3, 4]) (.bj [] [0, 3] (.l [(4, .one (.int .i64))] [0, 3] (.s (.s (.r [0, 3, 4, 29]) (.c .z .z)) (.s (.b (.s (.r [0, 3, 4, 45]) (.c (.s (.r [2]) .z) .z))) (.r [0, 3, 4]))))))) (.r [0, 3])))))) (.s (.s (.r [0, 5]) (.bj [] [0] (.l [(5, .one (.int .i64))] [0] (.s (.s (.r [0, 5, 52]) (.c .z .z)) (.s (.bj [] [0, 5] (.s (.r [0, 5, 6]) (.bj [] [0, 5] (.l [(6, .one (.int .i64))] [0, 5] (.s (.s (.r [0, 5, 6, 64]) (.c .z .z)) (.s (.b (.s (.r [0, 5, 6, 80]) (.c (.s (.r [2]) .z) .z))) (.r [0, 5, 6]))))))) (.r [0, 5])))))) (.s (.s (.r [0, 7]) (.bj [] [0] (.l [(7, .one (.int .i64))] [0] (.s (.s (.r [0, 7, 87]) (.c .z .z)) (.s (.bj [] [0, 7] (.s (.r [0, 7, 8]) (.bj [] [0, 7] (.l [(8, .one (.int .i64))] [0, 7] (.s (.s (.r [0, 7, 8, 99]) (.c .z .z)) (.s (.b (.s (.r [0, 7, 8, 115]) (.c (.s (.r [2]) .z) .z))) (.r [0, 7, 8]))))))) (.r [0, 7])))))) (.s (.s (.r [0, 9]) (.bj [] [] (.l [(9, .one (.int .i64))] [0] (.s (.s (.r [0, 9, 122]) (.c .z .z)) (.s (.bj [] [0, 9] (.s (.r [0, 9, 10]) (.bj [] [0, 9] (.l [(10, .one (.int .i64))] [0, 9] (.s (.s (.r [0, 9, 10, 134]) (.c .z .z)) (.s (.b (.s (.r [0, 9, 10, 150]) (.c (.s (.r [2]) .z) .z))) (.r [0, 9, 10]))))))) (.r [0, 9])))))) (.s (.r [2]) .z)))))
theorem F_law3_spread_others.eq  (y1 : Option Addr) (h : Heap) (K : Value → Heap → Prop) : F_law3_spread_others_of  y1 h (fun (r0 : Bool) (h : Heap) => K (.bool r0) h) =
    den Try.prog noFns Try.f120.ntmps plan120 (bodyOf Try.f120) (args0 0 [(.pointer y1 : Value)]) h ⟨fun env h => dRes Try.prog Try.f120.results.toList env h K, fun _ _ _ => False, fun env h => dRes Try.prog Try.f120.results.toList env h K⟩ := by kernel_rfl
def E_law3_spread_others_of (f : Option Addr → Heap → (Bool → Heap → Prop) → Prop) : List Value → Heap → (Value → Heap → Prop) → Prop
  | [v0], h, K => dec1 .ptr v0 fun (y1 : Option Addr) =>
  f y1 h (fun (r0 : Bool) (h : Heap) => K (.bool r0) h)
  | _, _, _ => False
abbrev E_law3_spread_others := E_law3_spread_others_of F_law3_spread_others
theorem E_law3_spread_others.right : IsRight Try.prog 120 E_law3_spread_others := by
  refine isRight fun vs K w hh => ?_
  match vs, hh with
  | [v0], hh =>
    unfold E_law3_spread_others E_law3_spread_others_of at hh
    replace hh := dec1_sound hh; obtain ⟨y1, rfl, hh⟩ := hh
    unfold F_law3_spread_others at hh
    exact calls_den noFns_right plan120 _ w K Try.func120 (by kernel_rfl) (by kernel_rfl) (Eq.mp (F_law3_spread_others.eq  y1 w.heap K) hh)
theorem ok120 : okFn Try.prog 120 = true := by kernel_rfl
end Go.Proofs.Ytboidjampddfoaa.V
namespace Go.Proofs.Ytboidjampddfoaa.V
open Go Go.RowKit
set_option linter.unusedVariables false
set_option maxRecDepth 100000
def F_law3_spread_marked.l1 (y1 : Option Addr) (Q : Bool → Heap → Prop) (i4 : Int) (j9 : Heap → Prop) : Int → Heap → Prop :=
  wl [(4, .one (.int .i64))] (fun (next10 : Int → Heap → Prop) (k11 : Int) (h12 : Heap) =>
  nn y1 fun (a13 : Addr) =>
  ld [.sl] (a13.add 0) h12 fun (v14 : Sl) =>
  ixS 1 v14 i4 fun (a15 : Addr) =>
  ld [.sl] a15 h12 fun (v16 : Sl) =>
  brr (decide (k11 < ((v16.len : Nat) : Int)))
  (nn y1 fun (a17 : Addr) =>
  ld [.sl] (a17.add 0) h12 fun (v18 : Sl) =>
  ixS 1 v18 i4 fun (a19 : Addr) =>
  ld [.sl] a19 h12 fun (v20 : Sl) =>
  ixS 1 v20 k11 fun (a21 : Addr) =>
  ld [.int .i64] a21 h12 fun (v22 : Int) =>
  brr (v22 != (IntKind.i64.wrap ((-1) - i4)))
  (Q false h12)
  (next10 (IntKind.i64.wrap (k11 + 1)) h12))
  (j9 h12))
def F_law3_spread_marked.l2 (y1 : Option Addr) (Q : Bool → Heap → Prop) (j2 : Heap → Prop) : Int → Heap → Prop :=
  wl [(3, .one (.int .i64))] (fun (next3 : Int → Heap → Prop) (i4 : Int) (h5 : Heap) =>
  nn y1 fun (a6 : Addr) =>
  ld [.sl] (a6.add 0) h5 fun (v7 : Sl) =>
  brr (decide (i4 < ((v7.len : Nat) : Int)))
  (jn [] (fun  (h24 : Heap) =>
  next3 (IntKind.i64.wrap (i4 + 1)) h24) (fun (j8 : Heap → Prop) =>
  jn [] (fun  (h23 : Heap) =>
  j8 h23) (fun (j9 : Heap → Prop) =>
  F_law3_spread_marked.l1 y1 Q i4 j9 0 h5)))
  (j2 h5))
def F_law3_spread_marked.l3 (f117_ : Int → Int → Heap → (Int → Heap → Prop) → Prop) (y1 : Option Addr) (Q : Bool → Heap → Prop) (i28 : Int) (j33 : Heap → Prop) : Int → Heap → Prop :=
  wl [(6, .one (.int .i64))] (fun (next34 : Int → Heap → Prop) (k35 : Int) (h36 : Heap) =>
  nn y1 fun (a37 : Addr) =>
  ld [.sl] (a37.add 1) h36 fun (v38 : Sl) =>
  ixS 1 v38 i28 fun (a39 : Addr) =>
  ld [.sl] a39 h36 fun (v40 : Sl) =>
  brr (decide (k35 < ((v40.len : Nat) : Int)))
  (nn y1 fun (a41 : Addr) =>
  ld [.sl] (a41.add 1) h36 fun (v42 : Sl) =>
  ixS 1 v42 i28 fun (a43 : Addr) =>
  ld [.sl] a43 h36 fun (v44 : Sl) =>
  ixS 1 v44 k35 fun (a45 : Addr) =>
  ld [.int .u8] a45 h36 fun (v46 : Int) =>
  f117_ i28 k35 h36 fun (r47 : Int) (h48 : Heap) =>
  cellsAre h48 (a41.add 1) [.slice v42.ptr v42.len v42.cap] ∧
  cellsAre h48 a43 [.slice v44.ptr v44.len v44.cap] ∧
  cellsAre h48 a45 [.int .u8 v46] ∧
  brr (v46 != r47)
  (Q false h48)
  (next34 (IntKind.i64.wrap (k35 + 1)) h48))
  (j33 h36))
def F_law3_spread_marked.l4 (f117_ : Int → Int → Heap → (Int → Heap → Prop) → Prop) (y1 : Option Addr) (Q : Bool → Heap → Prop) (j26 : Heap → Prop) : Int → Heap → Prop :=
  wl [(5, .one (.int .i64))] (fun (next27 : Int → Heap → Prop) (i28 : Int) (h29 : Heap) =>
  nn y1 fun (a30 : Addr) =>
  ld [.sl] (a30.add 1) h29 fun (v31 : Sl) =>
  brr (decide (i28 < ((v31.len : Nat) : Int)))
  (jn [] (fun  (h50 : Heap) =>
  next27 (IntKind.i64.wrap (i28 + 1)) h50) (fun (j32 : Heap → Prop) =>
  jn [] (fun  (h49 : Heap) =>
  j32 h49) (fun (j33 : Heap → Prop) =>
  F_law3_spread_marked.l3 f117_ y1 Q i28 j33 0 h29)))
  (j26 h29))
def F_law3_spread_marked.l5 (y1 : Option Addr) (Q : Bool → Heap → Prop) (i54 : Int) (j59 : Heap → Prop) : Int → Heap → Prop :=
  wl [(8, .one (.int .i64))] (fun (next60 : Int → Heap → Prop) (k61 : Int) (h62 : Heap) =>
  nn y1 fun (a63 : Addr) =>
  ld [.sl] (a63.add 2) h62 fun (v64 : Sl) =>
  ixS 1 v64 i54 fun (a65 : Addr) =>
  ld [.sl] a65 h62 fun (v66 : Sl) =>
  brr (decide (k61 < ((v66.len : Nat) : Int)))
  (nn y1 fun (a67 : Addr) =>
  ld [.sl] (a67.add 2) h62 fun (v68 : Sl) =>
  ixS 1 v68 i54 fun (a69 : Addr) =>
  ld [.sl] a69 h62 fun (v70 : Sl) =>
  ixS 1 v70 k61 fun (a71 : Addr) =>
  ld [.int .u64] a71 h62 fun (v72 : Int) =>
  brr (v72 != (IntKind.u64.wrap (1125899906842624 + (IntKind.u64.wrap i54))))
  (Q false h62)
  (next60 (IntKind.i64.wrap (k61 + 1)) h62))
  (j59 h62))
def F_law3_spread_marked.l6 (y1 : Option Addr) (Q : Bool → Heap → Prop) (j52 : Heap → Prop) : Int → Heap → Prop :=
  wl [(7, .one (.int .i64))] (fun (next53 : Int → Heap → Prop) (i54 : Int) (h55 : Heap) =>
  nn y1 fun (a56 : Addr) =>
  ld [.sl] (a56.add 2) h55 fun (v57 : Sl) =>
  brr (decide (i54 < ((v57.len : Nat) : Int)))
  (jn [] (fun  (h74 : Heap) =>
  next53 (IntKind.i64.wrap (i54 + 1)) h74) (fun (j58 : Heap → Prop) =>
  jn [] (fun  (h73 : Heap) =>
  j58 h73) (fun (j59 : Heap → Prop) =>
  F_law3_spread_marked.l5 y1 Q i54 j59 0 h55)))
  (j52 h55))
def F_law3_spread_marked.l7 (f119_ : Int → Int → Int → Int → Int → Int → Int → Int → Int → Int → Sl → Int → Int → ByteArray → ByteArray → Int → Int → Int → Int → Int → Int → Int → Int → Int → Int → Int → Int → Int → Int → Int → Int → Int → Sl → Int → Int → ByteArray → ByteArray → Int → Int → Int → Int → Int → Int → Int → Heap → (Bool → Heap → Prop) → Prop) (y1 : Option Addr) (Q : Bool → Heap → Prop) (i78 : Int) (j83 : Heap → Prop) : Int → Heap → Prop :=
  wl [(10, .one (.int .i64))] (fun (next84 : Int → Heap → Prop) (k85 : Int) (h86 : Heap) =>
  nn y1 fun (a87 : Addr) =>
  ld [.sl] (a87.add 3) h86 fun (v88 : Sl) =>
  ixS 1 v88 i78 fun (a89 : Addr) =>
  ld [.sl] a89 h86 fun (v90 : Sl) =>
  brr (decide (k85 < ((v90.len : Nat) : Int)))
  (nn y1 fun (a91 : Addr) =>
  ld [.sl] (a91.add 3) h86 fun (v92 : Sl) =>
  ixS 1 v92 i78 fun (a93 : Addr) =>
  ld [.sl] a93 h86 fun (v94 : Sl) =>
  ixS 22 v94 k85 fun (a95 : Addr) =>
  ld [.int .i64, .int .i64, .int .i64, .int .i64, .int .u64, .int .u64, .int .u64, .int .u64, .int .i64, .int .u64, .sl, .int .i64, .int .u64, .str, .str, .int .u64, .int .u64, .int .u64, .int .i64, .int .i64, .int .i64, .int .i64] a95 h86 fun (v96 v97 v98 v99 v100 v101 v102 v103 v104 v105 : Int) (v106 : Sl) (v107 v108 : Int) (v109 v110 : ByteArray) (v111 v112 v113 v114 v115 v116 v117 : Int) =>
  f119_ v96 v97 v98 v99 v100 v101 v102 v103 v104 v105 v106 v107 v108 v109 v110 v111 v112 v113 v114 v115 v116 v117 0 0 0 0 0 0 0 0 (IntKind.i64.wrap ((-1) - i78)) 0 (⟨none, 0, 0⟩ : Sl) 0 0 (⟨#[]⟩ : ByteArray) (⟨#[]⟩ : ByteArray) 0 0 0 0 0 0 0 h86 fun (r118 : Bool) (h119 : Heap) =>
  brr (!r118)
  (Q false h119)
  (next84 (IntKind.i64.wrap (k85 + 1)) h119))
  (j83 h86))
def F_law3_spread_marked.l8 (f119_ : Int → Int → Int → Int → Int → Int → Int → Int → Int → Int → Sl → Int → Int → ByteArray → ByteArray → Int → Int → Int → Int → Int → Int → Int → Int → Int → Int → Int → Int → Int → Int → Int → Int → Int → Sl → Int → Int → ByteArray → ByteArray → Int → Int → Int → Int → Int → Int → Int → Heap → (Bool → Heap → Prop) → Prop) (y1 : Option Addr) (Q : Bool → Heap → Prop) (j76 : Heap → Prop) : Int → Heap → Prop :=
  wl [(9, .one (.int .i64))] (fun (next77 : Int → Heap → Prop) (i78 : Int) (h79 : Heap) =>
  nn y1 fun (a80 : Addr) =>
  ld [.sl] (a80.add 3) h79 fun (v81 : Sl) =>
  brr (decide (i78 < ((v81.len : Nat) : Int)))
  (jn [] (fun  (h121 : Heap) =>
  next77 (IntKind.i64.wrap (i78 + 1)) h121) (fun (j82 : Heap → Prop) =>
  jn [] (fun  (h120 : Heap) =>
  j82 h120) (fun (j83 : Heap → Prop) =>
  F_law3_spread_marked.l7 f119_ y1 Q i78 j83 0 h79)))
  (j76 h79))
def F_law3_spread_marked_of (f117_ : Int → Int → Heap → (Int → Heap → Prop) → Prop) (f119_ : Int → Int → Int → Int → Int → Int → Int → Int → Int → Int → Sl → Int → Int → ByteArray → ByteArray → Int → Int → Int → Int → Int → Int → Int → Int → Int → Int → Int → Int → Int → Int → Int → Int → Int → Sl → Int → Int → ByteArray → ByteArray → Int → Int → Int → Int → Int → Int → Int → Heap → (Bool → Heap → Prop) → Prop) (f120_ : Option Addr → Heap → (Bool → Heap → Prop) → Prop) (y1 : Option Addr) (h : Heap) (Q : Bool → Heap → Prop) : Prop :=
  jn [] (fun  (h25 : Heap) =>
  jn [] (fun  (h51 : Heap) =>
  jn [] (fun  (h75 : Heap) =>
  jn [] (fun  (h122 : Heap) =>
  f120_ y1 h122 fun (r123 : Bool) (h124 : Heap) =>
  Q r123 h124) (fun (j76 : Heap → Prop) =>
  F_law3_spread_marked.l8 f119_ y1 Q j76 0 h75)) (fun (j52 : Heap → Prop) =>
  F_law3_spread_marked.l6 y1 Q j52 0 h51)) (fun (j26 : Heap → Prop) =>
  F_law3_spread_marked.l4 f117_ y1 Q j26 0 h25)) (fun (j2 : Heap → Prop) =>
  F_law3_spread_marked.l2 y1 Q j2 0 h)
def F_law3_spread_marked (y1 : Option Addr) (h : Heap) (Q : Bool → Heap → Prop) : Prop := F_law3_spread_marked_of F_law3_sign F_ref0_EqMsg F_law3_spread_others y1 h Q
def plan92 : Plan := .s (.r [0]) (.s (.s (.r [0, 3]) (.bj [] [0] (.l [(3, .one (.int .i64))] [0] (.s (.s (.r [0, 3, 17]) (.c .z .z)) (.s (.bj [] [0, 3] (.s (.r [0, 3, 4]) (.bj [] [0, 3] (.l [(4, .one (.int .i64))] [0, 3] (.s (.s (.r [0, 3, 4, 29]) (.c .z .z)) (.s (.b (.s (.r [0, 3, 4, 44]) (.c (.s (.r [2]) .z) .z))) (.r [0, 3, 4]))))))) (.r [0, 3])))))) (.s (.s (.r [0, 5]) (.bj [] [0] (.l [(5, .one (.int .i64))] [0] (.s (.s (.r [0, 5, 51]) (.c .z .z)) (.s (.bj [] [0, 5] (.s (.r [0, 5, 6]) (.bj [] [0, 5] (.l [(6, .one (.int .i64))] [0, 5] (.s (.s (.r [0, 5, 6, 63]) (.c .z .z)) (.s (.b (.s (.d [0, 1, 3, 7, 0, 31, 63, 0, 255, 511, 0, 0, 3072, 8191] [[0, 1, 2, 3, 4, 5, 6, 7, 8, 9, 10, 11, 12, 13]] [0, 5, 6, 79]) (.c (.s (.r [2]) .z) .z))) (.r [0, 5, 6]))))))) (.r [0, 5])))))) (.s (.s (.r [0, 7]) (.bj [] [0] (.l [(7, .one (.int .i64))] [0] (.s (.s (.r [0, 7, 86]) (.c .z .z)) (.s (.bj [] [0, 7] (.s (.r [0, 7, 8]) (.bj [] [0, 7] (.l [(8, .one (.int .i64))] [0, 7] (.s (.s (.r [0, 7, 8, 98]) (.c .z .z)) (.s (.b (.s (.r [0, 7, 8, 114]) (.c (.s (.r [2]) .z) .z))) (.r [0, 7, 8]))))))) (.r [0, 7])))))) (.s (.s (.r [0, 9]) (.bj [] [0] (.l [(9, .one (.int .i64))] [0] (.s (.s (.r [0, 9, 121]) (.c .z .z)) (.s (.bj [] [0, 9] (.s (.r [0, 9, 10]) (.bj [] [0, 9] (.l [(10, .one (.int .i64))] [0, 9] (.s (.s (.r [0, 9, 10, 133]) (.c .z .z)) (.s (.b (.s (.r [0, 9, 10, 150]) (.c (.s (.r [2]) .z) .z))) (.r [0, 9, 10]))))))) (.r [0, 9])))))) (.s (.r [2]) .z)))))
theorem F_law3_spread_marked.eq (f117_ : Int → Int → Heap → (Int → Heap → Prop) → Prop) (f119_ : Int → Int → Int → Int → Int → Int → Int → Int → Int → Int → Sl → Int → Int → ByteArray → ByteArray → Int → Int → Int → Int → Int → Int → Int → Int → Int → Int → Int → Int → Int → Int → Int → Int → Int → Sl → Int → Int → ByteArray → ByteArray → Int → Int → Int → Int → Int → Int → Int → Heap → (Bool → Heap → Prop) → Prop) (f120_ : Option Addr → Heap → (Bool → Heap → Prop) → Prop) (y1 : Option Addr) (h : Heap) (K : Value → Heap → Prop) : F_law3_spread_marked_of f117_ f119_ f120_ y1 h (fun (r0 : Bool) (h : Heap) => K (.bool r0) h) =
    den Try.prog (fn1 117 (E_law3_sign_of f117_) (fn1 119 (E_ref0_EqMsg_of f119_) (fn1 120 (E_law3_spread_others_of f120_) noFns))) Try.f92.ntmps plan92 (bodyOf Try.f92) (args0 0 [(.pointer y1 : Value)]) h ⟨fun env h => dRes Try.prog Try.f92.results.toList env h K, fun _ _ _ => False, fun env h => dRes Try.prog Try.f92.results.toList env h K⟩ := by kernel_rfl
def E_law3_spread_marked_of (f : Option Addr → Heap → (Bool → Heap → Prop) → Prop) : List Value → Heap → (Value → Heap → Prop) → Prop
  | [v0], h, K => dec1 .ptr v0 fun (y1 : Option Addr) =>
  f y1 h (fun (r0 : Bool) (h : Heap) => K (.bool r0) h)
  | _, _, _ => False
abbrev E_law3_spread_marked := E_law3_spread_marked_of F_law3_spread_marked
theorem E_law3_spread_marked.right : IsRight Try.prog 92 E_law3_spread_marked := by
  refine isRight fun vs K w hh => ?_
  match vs, hh with
  | [v0], hh =>
    unfold E_law3_spread_marked E_law3_spread_marked_of at hh
    replace hh := dec1_sound hh; obtain ⟨y1, rfl, hh⟩ := hh
    unfold F_law3_spread_marked at hh
    exact calls_den (fn1_right ok117 E_law3_sign.right (fn1_right ok119 E_ref0_EqMsg.right (fn1_right ok120 E_law3_spread_others.right noFns_right))) plan92 _ w K Try.func92 (by kernel_rfl) (by kernel_rfl) (Eq.mp (F_law3_spread_marked.eq F_law3_sign F_ref0_EqMsg F_law3_spread_others y1 w.heap K) hh)
theorem ok92 : okFn Try.prog 92 = true := by kernel_rfl
end Go.Proofs.Ytboidjampddfoaa.V
namespace Go.Proofs.Ytboidjampddfoaa.V
open Go Go.RowKit
set_option linter.unusedVariables false
set_option maxRecDepth 100000
def F_law3_Shelf_Given.l1 (x1 : Option Addr) (a4 : Addr) (i32 : Int) (j37 : Heap → Prop) : Int → Heap → Prop :=
  wl [(5, .one (.int .i64))] (fun (next38 : Int → Heap → Prop) (k39 : Int) (h40 : Heap) =>
  nn x1 fun (a41 : Addr) =>
  ld [.sl] (a41.add 5) h40 fun (v42 : Sl) =>
  ixS 1 v42 i32 fun (a43 : Addr) =>
  ld [.sl] a43 h40 fun (v44 : Sl) =>
  brr (decide (k39 < ((v44.len : Nat) : Int)))
  (nn (some a4) fun (a45 : Addr) =>
  ld [.sl] (a45.add 1) h40 fun (v46 : Sl) =>
  nn x1 fun (a47 : Addr) =>
  ld [.sl] (a47.add 5) h40 fun (v48 : Sl) =>
  ixS 1 v48 i32 fun (a49 : Addr) =>
  ld [.sl] a49 h40 fun (v50 : Sl) =>
  ixS 22 v50 k39 fun (a51 : Addr) =>
  ld [.sl] (a51.add 10) h40 fun (v52 : Sl) =>
  al 31 [.slice v52.ptr v52.len v52.cap] h40 fun (a53 : Addr) (h54 : Heap) =>
  cellsAre h54 (a45.add 1) [.slice v46.ptr v46.len v46.cap] ∧
  app 31 1 24 (.slice none 0 0) v46 (some a53) 1 h54 fun (s55 : Sl) (h56 : Heap) =>
  nn (some a4) fun (a57 : Addr) =>
  st (a57.add 1) [.slice s55.ptr s55.len s55.cap] h56 fun (h58 : Heap) =>
  next38 (IntKind.i64.wrap (k39 + 1)) h58)
  (j37 h40))
def F_law3_Shelf_Given.l2 (x1 : Option Addr) (a4 : Addr) (j30 : Heap → Prop) : Int → Heap → Prop :=
  wl [(4, .one (.int .i64))] (fun (next31 : Int → Heap → Prop) (i32 : Int) (h33 : Heap) =>
  nn x1 fun (a34 : Addr) =>
  ld [.sl] (a34.add 5) h33 fun (v35 : Sl) =>
  brr (decide (i32 < ((v35.len : Nat) : Int)))
  (jn [] (fun  (h72 : Heap) =>
  next31 (IntKind.i64.wrap (i32 + 1)) h72) (fun (j36 : Heap → Prop) =>
  jn [] (fun  (h59 : Heap) =>
  nn (some a4) fun (a60 : Addr) =>
  ld [.sl] (a60.add 3) h59 fun (v61 : Sl) =>
  nn x1 fun (a62 : Addr) =>
  ld [.sl] (a62.add 5) h59 fun (v63 : Sl) =>
  ixS 1 v63 i32 fun (a64 : Addr) =>
  ld [.sl] a64 h59 fun (v65 : Sl) =>
  al 159 [.slice v65.ptr v65.len v65.cap] h59 fun (a66 : Addr) (h67 : Heap) =>
  cellsAre h67 (a60.add 3) [.slice v61.ptr v61.len v61.cap] ∧
  app 159 1 24 (.slice none 0 0) v61 (some a66) 1 h67 fun (s68 : Sl) (h69 : Heap) =>
  nn (some a4) fun (a70 : Addr) =>
  st (a70.add 3) [.slice s68.ptr s68.len s68.cap] h69 fun (h71 : Heap) =>
  j36 h71) (fun (j37 : Heap → Prop) =>
  F_law3_Shelf_Given.l1 x1 a4 i32 j37 0 h33)))
  (j30 h33))
def F_law3_Shelf_Given.l3 (x1 : Option Addr) (a4 : Addr) (j74 : Heap → Prop) : Int → Heap → Prop :=
  wl [(6, .one (.int .i64))] (fun (next75 : Int → Heap → Prop) (i76 : Int) (h77 : Heap) =>
  nn x1 fun (a78 : Addr) =>
  ld [.sl] (a78.add 9) h77 fun (v79 : Sl) =>
  brr (decide (i76 < ((v79.len : Nat) : Int)))
  (nn (some a4) fun (a80 : Addr) =>
  ld [.sl] (a80.add 5) h77 fun (v81 : Sl) =>
  nn x1 fun (a82 : Addr) =>
  ld [.sl] (a82.add 9) h77 fun (v83 : Sl) =>
  ixS 6 v83 i76 fun (a84 : Addr) =>
  ld [.sl] (a84.add 1) h77 fun (v85 : Sl) =>
  al 160 [.slice v85.ptr v85.len v85.cap] h77 fun (a86 : Addr) (h87 : Heap) =>
  cellsAre h87 (a80.add 5) [.slice v81.ptr v81.len v81.cap] ∧
  app 160 1 24 (.slice none 0 0) v81 (some a86) 1 h87 fun (s88 : Sl) (h89 : Heap) =>
  nn (some a4) fun (a90 : Addr) =>
  st (a90.add 5) [.slice s88.ptr s88.len s88.cap] h89 fun (h91 : Heap) =>
  nn (some a4) fun (a92 : Addr) =>
  ld [.sl] (a92.add 6) h91 fun (v93 : Sl) =>
  nn x1 fun (a94 : Addr) =>
  ld [.sl] (a94.add 9) h91 fun (v95 : Sl) =>
  ixS 6 v95 i76 fun (a96 : Addr) =>
  ld [.sl] (a96.add 2) h91 fun (v97 : Sl) =>
  al 161 [.slice v97.ptr v97.len v97.cap] h91 fun (a98 : Addr) (h99 : Heap) =>
  cellsAre h99 (a92.add 6) [.slice v93.ptr v93.len v93.cap] ∧
  app 161 1 24 (.slice none 0 0) v93 (some a98) 1 h99 fun (s100 : Sl) (h101 : Heap) =>
  nn (some a4) fun (a102 : Addr) =>
  st (a102.add 6) [.slice s100.ptr s100.len s100.cap] h101 fun (h103 : Heap) =>
  nn (some a4) fun (a104 : Addr) =>
  ld [.sl] (a104.add 2) h103 fun (v105 : Sl) =>
  nn x1 fun (a106 : Addr) =>
  ld [.sl] (a106.add 9) h103 fun (v107 : Sl) =>
  ixS 6 v107 i76 fun (a108 : Addr) =>
  ld [.sl] (a108.add 3) h103 fun (v109 : Sl) =>
  nn x1 fun (a110 : Addr) =>
  ld [.sl] (a110.add 9) h103 fun (v111 : Sl) =>
  ixS 6 v111 i76 fun (a112 : Addr) =>
  ld [.sl] (a112.add 4) h103 fun (v113 : Sl) =>
  al 89 [.slice v109.ptr v109.len v109.cap, .slice v113.ptr v113.len v113.cap] h103 fun (a114 : Addr) (h115 : Heap) =>
  cellsAre h115 (a104.add 2) [.slice v105.ptr v105.len v105.cap] ∧
  app 89 1 24 (.slice none 0 0) v105 (some a114) 2 h115 fun (s116 : Sl) (h117 : Heap) =>
  nn (some a4) fun (a118 : Addr) =>
  st (a118.add 2) [.slice s116.ptr s116.len s116.cap] h117 fun (h119 : Heap) =>
  nn (some a4) fun (a120 : Addr) =>
  ld [.sl] (a120.add 7) h119 fun (v121 : Sl) =>
  nn x1 fun (a122 : Addr) =>
  ld [.sl] (a122.add 9) h119 fun (v123 : Sl) =>
  ixS 6 v123 i76 fun (a124 : Addr) =>
  ld [.sl] (a124.add 5) h119 fun (v125 : Sl) =>
  al 162 [.slice v125.ptr v125.len v125.cap] h119 fun (a126 : Addr) (h127 : Heap) =>
  cellsAre h127 (a120.add 7) [.slice v121.ptr v121.len v121.cap] ∧
  app 162 1 24 (.slice none 0 0) v121 (some a126) 1 h127 fun (s128 : Sl) (h129 : Heap) =>
  nn (some a4) fun (a130 : Addr) =>
  st (a130.add 7) [.slice s128.ptr s128.len s128.cap] h129 fun (h131 : Heap) =>
  next75 (IntKind.i64.wrap (i76 + 1)) h131)
  (j74 h77))
def F_law3_Shelf_Given_of (f89_ : Option Addr → Heap → (Bool → Heap → Prop) → Prop) (f90_ : Option Addr → Heap → (Heap → Prop) → Prop) (f91_ : Option Addr → Heap → (Option Addr → Heap → Prop) → Prop) (f92_ : Option Addr → Heap → (Bool → Heap → Prop) → Prop) (x1 : Option Addr) (h : Heap) (Q : Bool → Heap → Prop) : Prop :=
  f89_ x1 h fun (r2 : Bool) (h3 : Heap) =>
  brr (!r2)
  (Q false h3)
  (al 158 [.slice none 0 0, .slice none 0 0, .slice none 0 0, .slice none 0 0, .slice none 0 0, .slice none 0 0, .slice none 0 0, .slice none 0 0] h3 fun (a4 : Addr) (h5 : Heap) =>
  nn (some a4) fun (a6 : Addr) =>
  ld [.sl] (a6.add 0) h5 fun (v7 : Sl) =>
  nn x1 fun (a8 : Addr) =>
  ld [.sl] (a8.add 1) h5 fun (v9 : Sl) =>
  app 51 1 24 (.slice none 0 0) v7 v9.ptr v9.len h5 fun (s10 : Sl) (h11 : Heap) =>
  nn (some a4) fun (a12 : Addr) =>
  st (a12.add 0) [.slice s10.ptr s10.len s10.cap] h11 fun (h13 : Heap) =>
  nn (some a4) fun (a14 : Addr) =>
  ld [.sl] (a14.add 1) h13 fun (v15 : Sl) =>
  nn x1 fun (a16 : Addr) =>
  ld [.sl] (a16.add 3) h13 fun (v17 : Sl) =>
  app 31 1 24 (.slice none 0 0) v15 v17.ptr v17.len h13 fun (s18 : Sl) (h19 : Heap) =>
  nn (some a4) fun (a20 : Addr) =>
  st (a20.add 1) [.slice s18.ptr s18.len s18.cap] h19 fun (h21 : Heap) =>
  nn (some a4) fun (a22 : Addr) =>
  ld [.sl] (a22.add 4) h21 fun (v23 : Sl) =>
  nn x1 fun (a24 : Addr) =>
  ld [.sl] (a24.add 7) h21 fun (v25 : Sl) =>
  app 172 1 24 (.slice none 0 0) v23 v25.ptr v25.len h21 fun (s26 : Sl) (h27 : Heap) =>
  nn (some a4) fun (a28 : Addr) =>
  st (a28.add 4) [.slice s26.ptr s26.len s26.cap] h27 fun (h29 : Heap) =>
  jn [] (fun  (h73 : Heap) =>
  jn [] (fun  (h132 : Heap) =>
  f90_ (some a4) h132 fun  (h133 : Heap) =>
  f91_ (some a4) h133 fun (r134 : Option Addr) (h135 : Heap) =>
  jn [(2, .one .bool)] (fun (x141 : Bool) (h142 : Heap) =>
  Q x141 h142) (fun (j136 : Bool → Heap → Prop) =>
  f92_ (some a4) h135 fun (r137 : Bool) (h138 : Heap) =>
  brr r137
  (f92_ r134 h138 fun (r139 : Bool) (h140 : Heap) =>
  j136 r139 h140)
  (j136 false h138))) (fun (j74 : Heap → Prop) =>
  F_law3_Shelf_Given.l3 x1 a4 j74 0 h73)) (fun (j30 : Heap → Prop) =>
  F_law3_Shelf_Given.l2 x1 a4 j30 0 h29))
def F_law3_Shelf_Given (x1 : Option Addr) (h : Heap) (Q : Bool → Heap → Prop) : Prop := F_law3_Shelf_Given_of F_law3_Shelf_Same F_law3_spread_mark F_law3_spread_grown F_law3_spread_marked x1 h Q
def plan65 : Plan := .s (.r [0]) (.s (.s (.r [0, 10]) (.c (.s (.r [2]) .z) .z)) (.s (.r [0, 3]) (.s (.d [0, 0, 2, 6, 14, 0, 32, 96, 224, 510, 1023, 2047, 4095] [[0, 1, 2, 3, 4, 5, 6, 7, 8, 9, 10, 11, 12]] [0, 3]) (.s (.d [0, 0, 2, 6, 14, 0, 32, 96, 224, 510, 1023, 2047, 4095] [[0, 1, 2, 3, 4, 5, 6, 7, 8, 9, 10, 11, 12]] [0, 3]) (.s (.d [0, 0, 2, 6, 14, 0, 32, 96, 224, 510, 1023, 2047, 4095] [[0, 1, 2, 3, 4, 5, 6, 7, 8, 9, 10, 11, 12]] [0, 3]) (.s (.s (.r [0, 3, 4]) (.bj [] [0, 3] (.l [(4, .one (.int .i64))] [0, 3] (.s (.s (.r [0, 3, 4, 55]) (.c .z .z)) (.s (.bj [] [0, 3, 4] (.s (.s (.r [0, 3, 4, 5]) (.bj [] [0, 3, 4] (.l [(5, .one (.int .i64))] [0, 3, 4] (.s (.s (.r [0, 3, 4, 5, 67]) (.c .z .z)) (.s (.b (.d [0, 0, 2, 6, 14, 0, 32, 96, 224, 0, 992, 2016, 0, 8160, 16352, 32736, 65504, 131070, 262143, 524287, 1048575] [[0, 1, 2, 3, 4, 5, 6, 7, 8, 9, 10, 11, 12, 13, 14, 15, 16, 17, 18, 19, 20]] [0, 3, 4, 5])) (.r [0, 3, 4, 5])))))) (.d [0, 0, 2, 6, 14, 0, 32, 96, 224, 0, 992, 2016, 4064, 8190, 16383, 32767, 65535] [[0, 1, 2, 3, 4, 5, 6, 7, 8, 9, 10, 11, 12, 13, 14, 15, 16]] [0, 3, 4]))) (.r [0, 3, 4])))))) (.s (.s (.r [0, 3, 6]) (.bj [] [3] (.l [(6, .one (.int .i64))] [0, 3] (.s (.s (.r [0, 3, 6, 112]) (.c .z .z)) (.s (.b (.s (.d [0, 0, 2, 6, 14, 0, 32, 96, 224, 0, 992, 2016, 4064, 8160, 16382, 32767, 65535, 131071] [[0, 1, 2, 3, 4, 5, 6, 7, 8, 9, 10, 11, 12, 13, 14, 15, 16, 17]] [0, 3, 6]) (.s (.d [0, 0, 2, 6, 14, 0, 32, 96, 224, 0, 992, 2016, 4064, 8160, 16382, 32767, 65535, 131071] [[0, 1, 2, 3, 4, 5, 6, 7, 8, 9, 10, 11, 12, 13, 14, 15, 16, 17]] [0, 3, 6]) (.s (.d [0, 0, 2, 6, 14, 0, 32, 96, 224, 0, 992, 2016, 4064, 0, 8192, 24576, 57344, 0, 253952, 516096, 1040384, 2097120, 4194302, 8388607, 16777215, 33554431] [[0, 1, 2, 3, 4, 5, 6, 7, 8, 9, 10, 11, 12, 13, 14, 15, 16, 17, 18, 19, 20, 21, 22, 23, 24, 25]] [0, 3, 6]) (.d [0, 0, 2, 6, 14, 0, 32, 96, 224, 0, 992, 2016, 4064, 8160, 16382, 32767, 65535, 131071] [[0, 1, 2, 3, 4, 5, 6, 7, 8, 9, 10, 11, 12, 13, 14, 15, 16, 17]] [0, 3, 6]))))) (.r [0, 3, 6])))))) (.s (.r [3]) (.s (.r [3, 7]) (.s (.rj [(2, .one .bool)] []) .z))))))))))
theorem F_law3_Shelf_Given.eq (f89_ : Option Addr → Heap → (Bool → Heap → Prop) → Prop) (f90_ : Option Addr → Heap → (Heap → Prop) → Prop) (f91_ : Option Addr → Heap → (Option Addr → Heap → Prop) → Prop) (f92_ : Option Addr → Heap → (Bool → Heap → Prop) → Prop) (x1 : Option Addr) (h : Heap) (K : Value → Heap → Prop) : F_law3_Shelf_Given_of f89_ f90_ f91_ f92_ x1 h (fun (r0 : Bool) (h : Heap) => K (.bool r0) h) =
    den Try.prog (fn1 89 (E_law3_Shelf_Same_of f89_) (fn1 90 (E_law3_spread_mark_of f90_) (fn1 91 (E_law3_spread_grown_of f91_) (fn1 92 (E_law3_spread_marked_of f92_) noFns)))) Try.f65.ntmps plan65 (bodyOf Try.f65) (args0 0 [(.pointer x1 : Value)]) h ⟨fun env h => dRes Try.prog Try.f65.results.toList env h K, fun _ _ _ => False, fun env h => dRes Try.prog Try.f65.results.toList env h K⟩ := by kernel_rfl
def E_law3_Shelf_Given_of (f : Option Addr → Heap → (Bool → Heap → Prop) → Prop) : List Value → Heap → (Value → Heap → Prop) → Prop
  | [v0], h, K => dec1 .ptr v0 fun (x1 : Option Addr) =>
  f x1 h (fun (r0 : Bool) (h : Heap) => K (.bool r0) h)
  | _, _, _ => False
abbrev E_law3_Shelf_Given := E_law3_Shelf_Given_of F_law3_Shelf_Given
theorem E_law3_Shelf_Given.right : IsRight Try.prog 65 E_law3_Shelf_Given := by
  refine isRight fun vs K w hh => ?_
  match vs, hh with
  | [v0], hh =>
    unfold E_law3_Shelf_Given E_law3_Shelf_Given_of at hh
    replace hh := dec1_sound hh; obtain ⟨x1, rfl, hh⟩ := hh
    unfold F_law3_Shelf_Given at hh
    exact calls_den (fn1_right ok89 E_law3_Shelf_Same.right (fn1_right ok90 E_law3_spread_mark.right (fn1_right ok91 E_law3_spread_grown.right (fn1_right ok92 E_law3_spread_marked.right noFns_right)))) plan65 _ w K Try.func65 (by kernel_rfl) (by kernel_rfl) (Eq.mp (F_law3_Shelf_Given.eq F_law3_Shelf_Same F_law3_spread_mark F_law3_spread_grown F_law3_spread_marked x1 w.heap K) hh)
theorem ok65 : okFn Try.prog 65 = true := by kernel_rfl
end Go.Proofs.Ytboidjampddfoaa.V
/- The Shelf over lists of bytes: what is laid there, and that it is as it was. -/
namespace Go.Proofs.Ytboidjampddfoaa.V
open Go Go.RowKit
set_option linter.unusedVariables false
set_option linter.unusedSimpArgs false
/-- A list that is held, what it held, the copy. -/
abbrev SE := Sl × List UInt8 × Sl
def bufE (e : SE) : Res := buf 1 u8 e.1 e.2.1
structure ShS where
  size : Int
  s1 : Sl
  s2 : Sl
  es : List SE
structure ShS.Ok (y : ShS) (T : Nat) : Prop where
  n : 50 * y.es.length ≤ 4194304
  s0 : 50 * (y.es.length : Int) ≤ y.size
  s1 : y.size ≤ T * 281474976710710
  b : ∀ e ∈ y.es, e.2.1.length ≤ 4194304
abbrev shC (size : Int) (s1 s2 : Sl) : List Value := [.int .i64 size, .slice none 0 0, .slice none 0 0, .slice s1.ptr s1.len s1.cap, .slice s2.ptr s2.len s2.cap, .slice none 0 0, .slice none 0 0, .slice none 0 0, .slice none 0 0, .slice none 0 0, .slice none 0 0]
def shR (x T : Nat) : Res := ex fun y : ShS => pr (y.Ok T) (sep (own x (shC y.size y.s1 y.s2)) (sep (buf 1 slc y.s1 (y.es.map (·.1))) (sep (buf 1 slc y.s2 (y.es.map (·.2.2))) (sep (many bufE y.es) (poolR (y.es.map fun e => (e.2.2, e.2.1)))))))
theorem Sat.sh {h0 h : Heap} {L : List Res} {x T : Nat} (O : Sat h0 h (shR x T :: L)) : ∃ y : ShS, y.Ok T ∧ Sat h0 h (own x (shC y.size y.s1 y.s2) :: buf 1 slc y.s1 (y.es.map (·.1)) :: buf 1 slc y.s2 (y.es.map (·.2.2)) :: many bufE y.es :: poolR (y.es.map fun e => (e.2.2, e.2.1)) :: L) := by
  obtain ⟨y, O⟩ := O.ex
  obtain ⟨o, O⟩ := O.pr
  have O := O.sep.swap.sep.swap.sep.swap.sep
  exact ⟨y, o, O.sel [4, 3, 2, 0, 1] 5 rfl (Nat.le_add_left _ _)⟩
theorem Sat.shI {h0 h : Heap} {L : List Res} {x T : Nat} {y : ShS} (o : y.Ok T) (O : Sat h0 h (own x (shC y.size y.s1 y.s2) :: buf 1 slc y.s1 (y.es.map (·.1)) :: buf 1 slc y.s2 (y.es.map (·.2.2)) :: many bufE y.es :: poolR (y.es.map fun e => (e.2.2, e.2.1)) :: L)) : Sat h0 h (shR x T :: L) := by
  have O := (O.sel [3, 4, 0, 1, 2] 5 rfl (Nat.le_add_left _ _)).sepI
  have O := (O.sel [3, 0, 1, 2] 4 rfl (Nat.le_add_left _ _)).sepI
  have O := (O.sel [2, 0, 1] 3 rfl (Nat.le_add_left _ _)).sepI
  exact (Sat.prI o (O.swap.sepI)).exI y
section
variable {h0 h : Heap} {L : List Res}
theorem sh_new {x : Nat} (O : Sat h0 h (own x (shC 0 ⟨none, 0, 0⟩ ⟨none, 0, 0⟩) :: L)) : Sat h0 h (shR x 0 :: L) := by
  have O := pool_none O
  have O := O.none (f := bufE)
  have O := O.nil_buf (sz := 1) (enc := slc)
  have O := O.nil_buf (sz := 1) (enc := slc)
  exact Sat.shI (y := ⟨0, ⟨none, 0, 0⟩, ⟨none, 0, 0⟩, []⟩) ⟨by decide, by decide, by decide, fun e he => by cases he⟩ (O.sel [4, 0, 1, 2, 3] 5 rfl (Nat.le_add_left _ _))
theorem shelf_bytes2 {x T : Nat} {l : Sl} {xs : List UInt8} {Q : Heap → Prop} (hT : T ≤ 30000) (hx : xs.length ≤ 281474976710656) (O : Sat h0 h (buf 1 u8 l xs :: shR x T :: L)) (k : ∀ h', Sat h0 h' (shR x (T + 1) :: L) → Q h') : F_law3_Shelf_Bytes (some (pt x 0)) l h Q := by
  rw [F_law3_Shelf_Bytes.eq_1, F_law3_Shelf_Bytes_of.eq_1]
  have hl := (O.view 0 u8_len (by simp) rfl).1.len
  obtain ⟨y, ok, O⟩ := O.swap.sh
  have h1 := ok.n; have h2 := ok.s0; have h3 := ok.s1
  rw [F_law3_Shelf_holds.eq_1, F_law3_Shelf_holds_of.eq_1]
  repeat (first | (with_reducible refine al_id ?_); refine O.al fun _ h O => ?_ | (with_reducible refine nn_id ?_); refine ⟨_, rfl, ?_⟩ | (with_reducible refine ld_id ?_); (first | refine O.ld 0 rfl ?_); (repeat (first | (with_reducible refine ldL_n ?_) | refine ldL_s ?_ | refine ldL_c ?_)) | (with_reducible refine st_ad (by first | (with_reducible rfl) | (simp only [pt_add, Nat.zero_add, Nat.add_zero, Nat.reduceAdd]; with_reducible rfl)) ?_); (first | refine O.st 0 rfl (by simp) rfl fun h O => ?_); (dsimp only [V.put, List.set, List.length_cons, List.length_nil] at O) | (with_reducible refine ca_id ?_); (first | refine O.ca 0 1 rfl ?_ | refine O.ca 0 2 rfl ?_))
  rw [wrap64 (x := y.size + (l.len : Int)) (by omega) (by omega), wrap64 (by omega) (by omega)] at O ⊢
  refine jn0 (fun h' => Sat h0 h' (shR x (T + 1) :: L)) (fun h O => k h O) fun j hj => ?_
  refine brr_p (fun hf => ?_) (fun hf => ?_)
  · repeat (first | (with_reducible refine al_id ?_); refine O.al fun _ h O => ?_ | (with_reducible refine nn_id ?_); refine ⟨_, rfl, ?_⟩ | (with_reducible refine ld_id ?_); (first | refine O.ld 0 rfl ?_); (repeat (first | (with_reducible refine ldL_n ?_) | refine ldL_s ?_ | refine ldL_c ?_)) | (with_reducible refine st_ad (by first | (with_reducible rfl) | (simp only [pt_add, Nat.zero_add, Nat.add_zero, Nat.reduceAdd]; with_reducible rfl)) ?_); (first | refine O.st 0 rfl (by simp) rfl fun h O => ?_); (dsimp only [V.put, List.set, List.length_cons, List.length_nil] at O) | (with_reducible refine ca_id ?_); (first | refine O.ca 0 1 rfl ?_ | refine O.ca 0 2 rfl ?_))
    have O : Sat h0 h (own _ [.slice l.ptr l.len l.cap] :: own x (shC (y.size + l.len + 50) y.s1 y.s2) :: buf 1 slc y.s1 (y.es.map (·.1)) :: buf 1 slc y.s2 (y.es.map (·.2.2)) :: many bufE y.es :: poolR (y.es.map fun e => (e.2.2, e.2.1)) :: buf 1 u8 l xs :: L) := O
    have O2 := O.sel [2, 0, 1, 3, 4, 5, 6] 7 rfl (Nat.le_add_left _ _)
    refine Sat.app_buf O2 slc_len slc_one rfl (ys := [l]) rfl (rdP_own O 0 rfl 1 (Nat.le_refl _)) (by simp; omega) fun s10 h O _ => ?_
    refine ⟨_, rfl, ?_⟩
    have O : Sat h0 h (buf 1 slc s10 (y.es.map (·.1) ++ [l]) :: own _ [.slice l.ptr l.len l.cap] :: own x (shC (y.size + l.len + 50) y.s1 y.s2) :: buf 1 slc y.s2 (y.es.map (·.2.2)) :: many bufE y.es :: poolR (y.es.map fun e => (e.2.2, e.2.1)) :: buf 1 u8 l xs :: L) := O
    repeat (first | (with_reducible refine al_id ?_); refine O.al fun _ h O => ?_ | (with_reducible refine nn_id ?_); refine ⟨_, rfl, ?_⟩ | (with_reducible refine ld_id ?_); (first | refine O.ld 0 rfl ?_ | refine O.ld 1 rfl ?_ | refine O.ld 2 rfl ?_); (repeat (first | (with_reducible refine ldL_n ?_) | refine ldL_s ?_ | refine ldL_c ?_)) | (with_reducible refine st_ad (by first | (with_reducible rfl) | (simp only [pt_add, Nat.zero_add, Nat.add_zero, Nat.reduceAdd]; with_reducible rfl)) ?_); (first | refine O.st 0 rfl (by simp) rfl fun h O => ?_ | refine O.st 1 rfl (by simp) rfl fun h O => ?_ | refine O.st 2 rfl (by simp) rfl fun h O => ?_); (dsimp only [V.put, List.set, List.length_cons, List.length_nil] at O) | (with_reducible refine ca_id ?_); (first | refine O.ca 0 1 rfl ?_ | refine O.ca 0 2 rfl ?_ | refine O.ca 1 1 rfl ?_ | refine O.ca 1 2 rfl ?_ | refine O.ca 2 1 rfl ?_ | refine O.ca 2 2 rfl ?_))
    refine F_ref0_Copy.is O (O.view 6 u8_len (by simp) rfl).1 (by omega) fun w h O _ _ => ?_
    repeat (first | (with_reducible refine al_id ?_); refine O.al fun _ h O => ?_ | (with_reducible refine nn_id ?_); refine ⟨_, rfl, ?_⟩ | (with_reducible refine ld_id ?_); (first | refine O.ld 0 rfl ?_ | refine O.ld 1 rfl ?_ | refine O.ld 2 rfl ?_ | refine O.ld 3 rfl ?_ | refine O.ld 4 rfl ?_); (repeat (first | (with_reducible refine ldL_n ?_) | refine ldL_s ?_ | refine ldL_c ?_)) | (with_reducible refine st_ad (by first | (with_reducible rfl) | (simp only [pt_add, Nat.zero_add, Nat.add_zero, Nat.reduceAdd]; with_reducible rfl)) ?_); (first | refine O.st 0 rfl (by simp) rfl fun h O => ?_ | refine O.st 1 rfl (by simp) rfl fun h O => ?_ | refine O.st 2 rfl (by simp) rfl fun h O => ?_ | refine O.st 3 rfl (by simp) rfl fun h O => ?_ | refine O.st 4 rfl (by simp) rfl fun h O => ?_); (dsimp only [V.put, List.set, List.length_cons, List.length_nil] at O) | (with_reducible refine ca_id ?_); (first | refine O.ca 0 1 rfl ?_ | refine O.ca 0 2 rfl ?_ | refine O.ca 1 1 rfl ?_ | refine O.ca 1 2 rfl ?_ | refine O.ca 2 1 rfl ?_ | refine O.ca 2 2 rfl ?_ | refine O.ca 3 1 rfl ?_ | refine O.ca 3 2 rfl ?_ | refine O.ca 4 1 rfl ?_ | refine O.ca 4 2 rfl ?_))
    have O3 : Sat h0 h (buf 1 slc y.s2 (y.es.map (·.2.2)) :: own _ [.slice w.ptr w.len w.cap] :: buf 1 u8 w xs :: buf 1 slc s10 (y.es.map (·.1) ++ [l]) :: own x (shC (y.size + l.len + 50) s10 y.s2) :: many bufE y.es :: poolR (y.es.map fun e => (e.2.2, e.2.1)) :: buf 1 u8 l xs :: L) := O.sel [5, 0, 1, 2, 4, 6, 7, 8] 9 rfl (Nat.le_add_left _ _)
    refine Sat.app_buf O3 slc_len slc_one rfl (ys := [w]) rfl (rdP_own O3 1 rfl 1 (Nat.le_refl _)) (by simp; omega) fun s20 h O _ => ?_
    repeat (first | (with_reducible refine al_id ?_); refine O.al fun _ h O => ?_ | (with_reducible refine nn_id ?_); refine ⟨_, rfl, ?_⟩ | (with_reducible refine ld_id ?_); (first | refine O.ld 0 rfl ?_ | refine O.ld 1 rfl ?_ | refine O.ld 2 rfl ?_ | refine O.ld 3 rfl ?_ | refine O.ld 4 rfl ?_); (repeat (first | (with_reducible refine ldL_n ?_) | refine ldL_s ?_ | refine ldL_c ?_)) | (with_reducible refine st_ad (by first | (with_reducible rfl) | (simp only [pt_add, Nat.zero_add, Nat.add_zero, Nat.reduceAdd]; with_reducible rfl)) ?_); (first | refine O.st 0 rfl (by simp) rfl fun h O => ?_ | refine O.st 1 rfl (by simp) rfl fun h O => ?_ | refine O.st 2 rfl (by simp) rfl fun h O => ?_ | refine O.st 3 rfl (by simp) rfl fun h O => ?_ | refine O.st 4 rfl (by simp) rfl fun h O => ?_); (dsimp only [V.put, List.set, List.length_cons, List.length_nil] at O) | (with_reducible refine ca_id ?_); (first | refine O.ca 0 1 rfl ?_ | refine O.ca 0 2 rfl ?_ | refine O.ca 1 1 rfl ?_ | refine O.ca 1 2 rfl ?_ | refine O.ca 2 1 rfl ?_ | refine O.ca 2 2 rfl ?_ | refine O.ca 3 1 rfl ?_ | refine O.ca 3 2 rfl ?_ | refine O.ca 4 1 rfl ?_ | refine O.ca 4 2 rfl ?_))
    have O := pool_take (O.sel [2, 6, 0, 4, 3, 5, 7] 8 rfl (Nat.le_add_left _ _))
    have O : Sat h0 h (bufE (l, xs, w) :: many bufE y.es :: poolR ((y.es.map fun e => (e.2.2, e.2.1)) ++ [(w, xs)]) :: buf 1 slc s20 (y.es.map (·.2.2) ++ [w]) :: own x (shC (y.size + l.len + 50) s10 s20) :: buf 1 slc s10 (y.es.map (·.1) ++ [l]) :: L) := O.sel [5, 4, 0, 1, 2, 3] 6 rfl (Nat.le_add_left _ _)
    have O := O.more
    refine hj _ (Sat.shI (y := ⟨y.size + l.len + 50, s10, s20, y.es ++ [(l, xs, w)]⟩) ⟨?_, ?_, ?_, ?_⟩ ?_)
    · show 50 * (y.es ++ [(l, xs, w)]).length ≤ _
      rw [List.length_append, List.length_singleton]; omega
    · show 50 * (((y.es ++ [(l, xs, w)]).length : Nat) : Int) ≤ y.size + l.len + 50
      rw [List.length_append, List.length_singleton]; omega
    · show y.size + l.len + 50 ≤ ((T + 1 : Nat) : Int) * _
      omega
    · intro e he
      rcases List.mem_append.1 he with he | he
      · exact ok.b e he
      · rw [List.mem_singleton.1 he]; show xs.length ≤ _; omega
    · show Sat h0 h (own x (shC (y.size + l.len + 50) s10 s20) :: buf 1 slc s10 ((y.es ++ [(l, xs, w)]).map (·.1)) :: buf 1 slc s20 ((y.es ++ [(l, xs, w)]).map (·.2.2)) :: many bufE (y.es ++ [(l, xs, w)]) :: poolR ((y.es ++ [(l, xs, w)]).map fun e => (e.2.2, e.2.1)) :: L)
      rw [List.map_append, List.map_append, List.map_append]
      exact O.sel [3, 4, 2, 0, 1] 5 rfl (Nat.le_add_left _ _)
  · refine hj _ (Sat.shI (y := ⟨y.size + l.len + 50, y.s1, y.s2, y.es⟩) ⟨ok.n, ?_, ?_, ok.b⟩ (O.sel [0, 1, 2, 3, 4] 6 rfl (Nat.le_add_left _ _)))
    · show 50 * (y.es.length : Int) ≤ y.size + l.len + 50; omega
    · show y.size + l.len + 50 ≤ ((T + 1 : Nat) : Int) * _; omega
theorem F_law3_Shelf_Bytes.is {x T : Nat} {l : Sl} {xs : List UInt8} {Q : Heap → Prop} (hT : T ≤ 30000) (hx : xs.length ≤ (140737488355325 : Nat)) (O : Sat h0 h (buf 1 u8 l xs :: shR x T :: L)) (k : ∀ h', Sat h0 h' (shR x (T + 1) :: L) → Q h') : F_law3_Shelf_Bytes (some (pt x 0)) l h Q := shelf_bytes2 hT (by omega) O k
end
end Go.Proofs.Ytboidjampddfoaa.V
/- The Shelf over lists of bytes: all is as it was; the lists are written full, appended to, and looked at. -/
namespace Go.Proofs.Ytboidjampddfoaa.V
open Go Go.RowKit
set_option linter.unusedVariables false
set_option linter.unusedSimpArgs false
section
variable {h0 h : Heap} {L : List Res}
theorem F_law3_Shelf_Same.is {x : Nat} {y : ShS} {T : Nat} {Q : Bool → Heap → Prop} (ok : y.Ok T) (O : Sat h0 h (own x (shC y.size y.s1 y.s2) :: buf 1 slc y.s1 (y.es.map (·.1)) :: buf 1 slc y.s2 (y.es.map (·.2.2)) :: many bufE y.es :: poolR (y.es.map fun e => (e.2.2, e.2.1)) :: L)) (k : Q true h) : F_law3_Shelf_Same (some (pt x 0)) h Q := by
  rw [F_law3_Shelf_Same.eq_1, F_law3_Shelf_Same_of.eq_1]
  have hn := ok.n
  refine jn_go ?_
  rw [F_law3_Shelf_Same.l1.eq_1]
  refine wl_now1 fun next => ?_
  repeat (first | (with_reducible refine al_id ?_); refine O.al fun _ h O => ?_ | (with_reducible refine nn_id ?_); refine ⟨_, rfl, ?_⟩ | (with_reducible refine ld_id ?_); (first | refine O.ld 0 rfl ?_); (repeat (first | (with_reducible refine ldL_n ?_) | refine ldL_s ?_ | refine ldL_c ?_)) | (with_reducible refine st_ad (by first | (with_reducible rfl) | (simp only [pt_add, Nat.zero_add, Nat.add_zero, Nat.reduceAdd]; with_reducible rfl)) ?_); (first | refine O.st 0 rfl (by simp) rfl fun h O => ?_); (dsimp only [V.put, List.set, List.length_cons, List.length_nil] at O) | (with_reducible refine ca_id ?_); (first | refine O.ca 0 1 rfl ?_ | refine O.ca 0 2 rfl ?_))
  refine brr_ff (by decide) ?_
  refine jn0 (fun h' => h' = h) ?_ ?_
  · rintro h rfl
    refine jn_go ?_
    rw [F_law3_Shelf_Same.l3.eq_1]
    refine wl_now1 fun next => ?_
    repeat (first | (with_reducible refine al_id ?_); refine O.al fun _ h O => ?_ | (with_reducible refine nn_id ?_); refine ⟨_, rfl, ?_⟩ | (with_reducible refine ld_id ?_); (first | refine O.ld 0 rfl ?_); (repeat (first | (with_reducible refine ldL_n ?_) | refine ldL_s ?_ | refine ldL_c ?_)) | (with_reducible refine st_ad (by first | (with_reducible rfl) | (simp only [pt_add, Nat.zero_add, Nat.add_zero, Nat.reduceAdd]; with_reducible rfl)) ?_); (first | refine O.st 0 rfl (by simp) rfl fun h O => ?_); (dsimp only [V.put, List.set, List.length_cons, List.length_nil] at O) | (with_reducible refine ca_id ?_); (first | refine O.ca 0 1 rfl ?_ | refine O.ca 0 2 rfl ?_))
    refine brr_ff (by decide) ?_
    refine jn_go ?_
    rw [F_law3_Shelf_Same.l4.eq_1]
    refine wl_now1 fun next => ?_
    repeat (first | (with_reducible refine al_id ?_); refine O.al fun _ h O => ?_ | (with_reducible refine nn_id ?_); refine ⟨_, rfl, ?_⟩ | (with_reducible refine ld_id ?_); (first | refine O.ld 0 rfl ?_); (repeat (first | (with_reducible refine ldL_n ?_) | refine ldL_s ?_ | refine ldL_c ?_)) | (with_reducible refine st_ad (by first | (with_reducible rfl) | (simp only [pt_add, Nat.zero_add, Nat.add_zero, Nat.reduceAdd]; with_reducible rfl)) ?_); (first | refine O.st 0 rfl (by simp) rfl fun h O => ?_); (dsimp only [V.put, List.set, List.length_cons, List.length_nil] at O) | (with_reducible refine ca_id ?_); (first | refine O.ca 0 1 rfl ?_ | refine O.ca 0 2 rfl ?_))
    refine brr_ff (by decide) ?_
    refine jn_go ?_
    rw [F_law3_Shelf_Same.l5.eq_1]
    refine wl_now1 fun next => ?_
    repeat (first | (with_reducible refine al_id ?_); refine O.al fun _ h O => ?_ | (with_reducible refine nn_id ?_); refine ⟨_, rfl, ?_⟩ | (with_reducible refine ld_id ?_); (first | refine O.ld 0 rfl ?_); (repeat (first | (with_reducible refine ldL_n ?_) | refine ldL_s ?_ | refine ldL_c ?_)) | (with_reducible refine st_ad (by first | (with_reducible rfl) | (simp only [pt_add, Nat.zero_add, Nat.add_zero, Nat.reduceAdd]; with_reducible rfl)) ?_); (first | refine O.st 0 rfl (by simp) rfl fun h O => ?_); (dsimp only [V.put, List.set, List.length_cons, List.length_nil] at O) | (with_reducible refine ca_id ?_); (first | refine O.ca 0 1 rfl ?_ | refine O.ca 0 2 rfl ?_))
    refine brr_ff (by decide) ?_
    exact k
  intro j hj
  rw [F_law3_Shelf_Same.l2.eq_1]
  have v1 := (O.view 1 slc_len (by simp) rfl).1
  have v2 := (O.view 2 slc_len (by simp) rfl).1
  refine wl1 (k := .int .i64) (fun (m : Nat) (i : Int) (h' : Heap) => 0 ≤ i ∧ i + m = y.es.length ∧ h' = h) ?_ (m := y.es.length) ⟨by omega, by omega, rfl⟩
  rintro m (i : Int) h next hn2 ⟨hi0, him, rfl⟩
  repeat (first | (with_reducible refine al_id ?_); refine O.al fun _ h O => ?_ | (with_reducible refine nn_id ?_); refine ⟨_, rfl, ?_⟩ | (with_reducible refine ld_id ?_); (first | refine O.ld 0 rfl ?_); (repeat (first | (with_reducible refine ldL_n ?_) | refine ldL_s ?_ | refine ldL_c ?_)) | (with_reducible refine st_ad (by first | (with_reducible rfl) | (simp only [pt_add, Nat.zero_add, Nat.add_zero, Nat.reduceAdd]; with_reducible rfl)) ?_); (first | refine O.st 0 rfl (by simp) rfl fun h O => ?_); (dsimp only [V.put, List.set, List.length_cons, List.length_nil] at O) | (with_reducible refine ca_id ?_); (first | refine O.ca 0 1 rfl ?_ | refine O.ca 0 2 rfl ?_))
  have hl := v1.len
  rw [List.length_map] at hl
  rw [show (Sl.mk y.s1.ptr y.s1.len y.s1.cap).len = y.es.length from hl]
  refine brr_p (fun hlt => ?_) (fun hlt => hj _ rfl)
  obtain ⟨e, he⟩ : ∃ e, y.es[i.toNat]? = some e := ⟨_, List.getElem?_eq_getElem (by omega)⟩
  have hb := ok.b e (List.mem_of_getElem? he)
  repeat (first | (with_reducible refine al_id ?_); refine O.al fun _ h O => ?_ | (with_reducible refine nn_id ?_); refine ⟨_, rfl, ?_⟩ | (with_reducible refine ld_id ?_); (first | refine O.ld 0 rfl ?_); (repeat (first | (with_reducible refine ldL_n ?_) | refine ldL_s ?_ | refine ldL_c ?_)) | (with_reducible refine st_ad (by first | (with_reducible rfl) | (simp only [pt_add, Nat.zero_add, Nat.add_zero, Nat.reduceAdd]; with_reducible rfl)) ?_); (first | refine O.st 0 rfl (by simp) rfl fun h O => ?_); (dsimp only [V.put, List.set, List.length_cons, List.length_nil] at O) | (with_reducible refine ca_id ?_); (first | refine O.ca 0 1 rfl ?_ | refine O.ca 0 2 rfl ?_))
  refine v1.getP hi0 (x := e.1) (by rw [List.getElem?_map, he]; rfl) fun a hca => ?_
  refine ld_are (hca v1) (ldL_c (k := .sl) (x := e.1) (ldL_n ?_))
  repeat (first | (with_reducible refine al_id ?_); refine O.al fun _ h O => ?_ | (with_reducible refine nn_id ?_); refine ⟨_, rfl, ?_⟩ | (with_reducible refine ld_id ?_); (first | refine O.ld 0 rfl ?_); (repeat (first | (with_reducible refine ldL_n ?_) | refine ldL_s ?_ | refine ldL_c ?_)) | (with_reducible refine st_ad (by first | (with_reducible rfl) | (simp only [pt_add, Nat.zero_add, Nat.add_zero, Nat.reduceAdd]; with_reducible rfl)) ?_); (first | refine O.st 0 rfl (by simp) rfl fun h O => ?_); (dsimp only [V.put, List.set, List.length_cons, List.length_nil] at O) | (with_reducible refine ca_id ?_); (first | refine O.ca 0 1 rfl ?_ | refine O.ca 0 2 rfl ?_))
  refine v2.getP hi0 (x := e.2.2) (by rw [List.getElem?_map, he]; rfl) fun a hca => ?_
  refine ld_are (hca v2) (ldL_c (k := .sl) (x := e.2.2) (ldL_n ?_))
  have V1 : Bytes h e.1 e.2.1 := (((O.sel [3, 0, 1, 2, 4] 5 rfl (Nat.le_add_left _ _)).take _ he).view 0 (α := UInt8) (enc := u8) u8_len (by simp) rfl).1
  have V2 : Bytes h e.2.2 e.2.1 := pool_view (e := (e.2.2, e.2.1)) O 4 (by simp) rfl (List.mem_map.2 ⟨e, List.mem_of_getElem? he, rfl⟩)
  refine F_ref0_Eq.is V1 V2 (by omega) (by omega) ?_
  refine brr_ff (by simp) ?_
  rw [wrap64 (by omega) (by omega)]
  exact hn2 (m - 1) _ _ (by omega) ⟨by omega, by omega, rfl⟩
theorem F_law3_sign.is {h : Heap} {m k : Nat} {Q : Int → Heap → Prop} (hm : m ≤ 1099511627776) (hq : Q ((atB m k).toNat : Int) h) : F_law3_sign m k h Q := by
  rw [F_law3_sign.eq_1, F_law3_sign_of.eq_1]
  have e2 : ((k : Int)).tmod 2 = ((k % 2 : Nat) : Int) := by rw [Int.tmod_eq_emod_of_nonneg (by omega)]; omega
  have e3 : ((m : Int)).tmod 251 = ((m % 251 : Nat) : Int) := by rw [Int.tmod_eq_emod_of_nonneg (by omega)]; omega
  have e4 : ((m : Int)).tdiv 251 = ((m / 251 : Nat) : Int) := by rw [Int.tdiv_eq_ediv_of_nonneg (by omega)]; omega
  unfold atB at hq
  refine ⟨by decide, ?_⟩
  rw [e2, e3, e4]
  refine brr_eq (fun e => ?_) (fun e => ?_)
  · rw [if_pos (by omega)] at hq
    refine ⟨by decide, ?_⟩
    rw [wrap64 (by omega) (by omega), show (1 + ((m % 251 : Nat) : Int)) = ((1 + m % 251 : Nat) : Int) by omega, wrap8K]
    exact hq
  · rw [if_neg (by omega)] at hq
    refine ⟨by decide, by decide, ?_⟩
    rw [wrap64 (x := 7 * (m : Int)) (by omega) (by omega), wrap64 (x := ((m / 251 : Nat) : Int)) (by omega) (by omega), wrap64 (x := 7 * (m : Int) + ((m / 251 : Nat) : Int)) (by omega) (by omega)]
    have e5 : (7 * (m : Int) + ((m / 251 : Nat) : Int)).tmod 251 = (((7 * m + m / 251) % 251 : Nat) : Int) := by rw [Int.tmod_eq_emod_of_nonneg (by omega)]; omega
    rw [e5, wrap64 (by omega) (by omega), show (1 + (((7 * m + m / 251) % 251 : Nat) : Int)) = ((1 + (7 * m + m / 251) % 251 : Nat) : Int) by omega, wrap8K]
    exact hq
/-- Lists with their numbers. -/
def idx : List Sl → Nat → List BE
  | [], _ => []
  | s :: r, i => (s, i) :: idx r (i + 1)
theorem idx_app : ∀ (l r : List Sl) (i : Nat), idx (l ++ r) i = idx l i ++ idx r (i + l.length)
  | [], r, i => by simp [idx]
  | s :: l, r, i => by
    show (s, i) :: idx (l ++ r) (i + 1) = (s, i) :: (idx l (i + 1) ++ idx r (i + (l.length + 1)))
    rw [idx_app l r (i + 1), show i + 1 + l.length = i + (l.length + 1) by omega]
theorem idx_mem : ∀ {l : List Sl} {i k : Nat} {s : Sl}, l[k]? = some s → (s, i + k) ∈ idx l i
  | [], i, k, s, h => by simp at h
  | t :: l, i, 0, s, h => by cases h; exact List.mem_cons_self
  | t :: l, i, k + 1, s, h => by
    have := idx_mem (l := l) (i := i + 1) (k := k) (s := s) (by simpa using h)
    rw [show i + (k + 1) = i + 1 + k by omega]
    exact List.mem_cons_of_mem _ this
abbrev spC (i b d : Sl) : List Value := [.slice i.ptr i.len i.cap, .slice b.ptr b.len b.cap, .slice none 0 0, .slice none 0 0, .slice d.ptr d.len d.cap, .slice none 0 0, .slice none 0 0, .slice none 0 0]
theorem F_law3_spread_others.is {y : Nat} {i b d : Sl} {Q : Bool → Heap → Prop} (hd : d.len = 0) (O : Sat h0 h (own y (spC i b d) :: L)) (k : Q true h) : F_law3_spread_others (some (pt y 0)) h Q := by
  rw [F_law3_spread_others.eq_1, F_law3_spread_others_of.eq_1]
  refine jn_go ?_
  rw [F_law3_spread_others.l2.eq_1]
  refine wl_now1 fun next => ?_
  repeat (first | (with_reducible refine al_id ?_); refine O.al fun _ h O => ?_ | (with_reducible refine nn_id ?_); refine ⟨_, rfl, ?_⟩ | (with_reducible refine ld_id ?_); (first | refine O.ld 0 rfl ?_); (repeat (first | (with_reducible refine ldL_n ?_) | refine ldL_s ?_ | refine ldL_c ?_)) | (with_reducible refine st_ad (by first | (with_reducible rfl) | (simp only [pt_add, Nat.zero_add, Nat.add_zero, Nat.reduceAdd]; with_reducible rfl)) ?_); (first | refine O.st 0 rfl (by simp) rfl fun h O => ?_); (dsimp only [V.put, List.set, List.length_cons, List.length_nil] at O) | (with_reducible refine ca_id ?_); (first | refine O.ca 0 1 rfl ?_ | refine O.ca 0 2 rfl ?_))
  refine brr_ff (by simp [hd]) ?_
  refine jn_go ?_
  rw [F_law3_spread_others.l4.eq_1]
  refine wl_now1 fun next => ?_
  repeat (first | (with_reducible refine al_id ?_); refine O.al fun _ h O => ?_ | (with_reducible refine nn_id ?_); refine ⟨_, rfl, ?_⟩ | (with_reducible refine ld_id ?_); (first | refine O.ld 0 rfl ?_); (repeat (first | (with_reducible refine ldL_n ?_) | refine ldL_s ?_ | refine ldL_c ?_)) | (with_reducible refine st_ad (by first | (with_reducible rfl) | (simp only [pt_add, Nat.zero_add, Nat.add_zero, Nat.reduceAdd]; with_reducible rfl)) ?_); (first | refine O.st 0 rfl (by simp) rfl fun h O => ?_); (dsimp only [V.put, List.set, List.length_cons, List.length_nil] at O) | (with_reducible refine ca_id ?_); (first | refine O.ca 0 1 rfl ?_ | refine O.ca 0 2 rfl ?_))
  refine brr_ff (by decide) ?_
  refine jn_go ?_
  rw [F_law3_spread_others.l6.eq_1]
  refine wl_now1 fun next => ?_
  repeat (first | (with_reducible refine al_id ?_); refine O.al fun _ h O => ?_ | (with_reducible refine nn_id ?_); refine ⟨_, rfl, ?_⟩ | (with_reducible refine ld_id ?_); (first | refine O.ld 0 rfl ?_); (repeat (first | (with_reducible refine ldL_n ?_) | refine ldL_s ?_ | refine ldL_c ?_)) | (with_reducible refine st_ad (by first | (with_reducible rfl) | (simp only [pt_add, Nat.zero_add, Nat.add_zero, Nat.reduceAdd]; with_reducible rfl)) ?_); (first | refine O.st 0 rfl (by simp) rfl fun h O => ?_); (dsimp only [V.put, List.set, List.length_cons, List.length_nil] at O) | (with_reducible refine ca_id ?_); (first | refine O.ca 0 1 rfl ?_ | refine O.ca 0 2 rfl ?_))
  refine brr_ff (by decide) ?_
  refine jn_go ?_
  rw [F_law3_spread_others.l8.eq_1]
  refine wl_now1 fun next => ?_
  repeat (first | (with_reducible refine al_id ?_); refine O.al fun _ h O => ?_ | (with_reducible refine nn_id ?_); refine ⟨_, rfl, ?_⟩ | (with_reducible refine ld_id ?_); (first | refine O.ld 0 rfl ?_); (repeat (first | (with_reducible refine ldL_n ?_) | refine ldL_s ?_ | refine ldL_c ?_)) | (with_reducible refine st_ad (by first | (with_reducible rfl) | (simp only [pt_add, Nat.zero_add, Nat.add_zero, Nat.reduceAdd]; with_reducible rfl)) ?_); (first | refine O.st 0 rfl (by simp) rfl fun h O => ?_); (dsimp only [V.put, List.set, List.length_cons, List.length_nil] at O) | (with_reducible refine ca_id ?_); (first | refine O.ca 0 1 rfl ?_ | refine O.ca 0 2 rfl ?_))
  refine brr_ff (by decide) ?_
  exact k
theorem F_law3_spread_rest.is {y z : Nat} {i b d : Sl} {Q : Heap → Prop} (hd : d.len = 0) (O : Sat h0 h (own y (spC i b d) :: L)) (k : Q h) : F_law3_spread_rest (some (pt y 0)) (some (pt z 0)) h Q := by
  rw [F_law3_spread_rest.eq_1, F_law3_spread_rest_of.eq_1]
  refine jn_go ?_
  rw [F_law3_spread_rest.l2.eq_1]
  refine wl_now1 fun next => ?_
  repeat (first | (with_reducible refine al_id ?_); refine O.al fun _ h O => ?_ | (with_reducible refine nn_id ?_); refine ⟨_, rfl, ?_⟩ | (with_reducible refine ld_id ?_); (first | refine O.ld 0 rfl ?_); (repeat (first | (with_reducible refine ldL_n ?_) | refine ldL_s ?_ | refine ldL_c ?_)) | (with_reducible refine st_ad (by first | (with_reducible rfl) | (simp only [pt_add, Nat.zero_add, Nat.add_zero, Nat.reduceAdd]; with_reducible rfl)) ?_); (first | refine O.st 0 rfl (by simp) rfl fun h O => ?_); (dsimp only [V.put, List.set, List.length_cons, List.length_nil] at O) | (with_reducible refine ca_id ?_); (first | refine O.ca 0 1 rfl ?_ | refine O.ca 0 2 rfl ?_))
  refine brr_ff (by simp [hd]) ?_
  refine jn_go ?_
  rw [F_law3_spread_rest.l4.eq_1]
  refine wl_now1 fun next => ?_
  repeat (first | (with_reducible refine al_id ?_); refine O.al fun _ h O => ?_ | (with_reducible refine nn_id ?_); refine ⟨_, rfl, ?_⟩ | (with_reducible refine ld_id ?_); (first | refine O.ld 0 rfl ?_); (repeat (first | (with_reducible refine ldL_n ?_) | refine ldL_s ?_ | refine ldL_c ?_)) | (with_reducible refine st_ad (by first | (with_reducible rfl) | (simp only [pt_add, Nat.zero_add, Nat.add_zero, Nat.reduceAdd]; with_reducible rfl)) ?_); (first | refine O.st 0 rfl (by simp) rfl fun h O => ?_); (dsimp only [V.put, List.set, List.length_cons, List.length_nil] at O) | (with_reducible refine ca_id ?_); (first | refine O.ca 0 1 rfl ?_ | refine O.ca 0 2 rfl ?_))
  refine brr_ff (by decide) ?_
  refine jn_go ?_
  rw [F_law3_spread_rest.l6.eq_1]
  refine wl_now1 fun next => ?_
  repeat (first | (with_reducible refine al_id ?_); refine O.al fun _ h O => ?_ | (with_reducible refine nn_id ?_); refine ⟨_, rfl, ?_⟩ | (with_reducible refine ld_id ?_); (first | refine O.ld 0 rfl ?_); (repeat (first | (with_reducible refine ldL_n ?_) | refine ldL_s ?_ | refine ldL_c ?_)) | (with_reducible refine st_ad (by first | (with_reducible rfl) | (simp only [pt_add, Nat.zero_add, Nat.add_zero, Nat.reduceAdd]; with_reducible rfl)) ?_); (first | refine O.st 0 rfl (by simp) rfl fun h O => ?_); (dsimp only [V.put, List.set, List.length_cons, List.length_nil] at O) | (with_reducible refine ca_id ?_); (first | refine O.ca 0 1 rfl ?_ | refine O.ca 0 2 rfl ?_))
  refine brr_ff (by decide) ?_
  refine jn_go ?_
  rw [F_law3_spread_rest.l8.eq_1]
  refine wl_now1 fun next => ?_
  repeat (first | (with_reducible refine al_id ?_); refine O.al fun _ h O => ?_ | (with_reducible refine nn_id ?_); refine ⟨_, rfl, ?_⟩ | (with_reducible refine ld_id ?_); (first | refine O.ld 0 rfl ?_); (repeat (first | (with_reducible refine ldL_n ?_) | refine ldL_s ?_ | refine ldL_c ?_)) | (with_reducible refine st_ad (by first | (with_reducible rfl) | (simp only [pt_add, Nat.zero_add, Nat.add_zero, Nat.reduceAdd]; with_reducible rfl)) ?_); (first | refine O.st 0 rfl (by simp) rfl fun h O => ?_); (dsimp only [V.put, List.set, List.length_cons, List.length_nil] at O) | (with_reducible refine ca_id ?_); (first | refine O.ca 0 1 rfl ?_ | refine O.ca 0 2 rfl ?_))
  refine brr_ff (by decide) ?_
  exact k
theorem F_law3_spread_marked.is {y : Nat} {i b d : Sl} {gs : List Sl} {fs : List BE} {Q : Bool → Heap → Prop} (hi : i.len = 0) (hd : d.len = 0) (hg : gs.length ≤ 1000000) (hb : ∀ g ∈ gs, g.len ≤ 1099511627776) (hs : ∀ e ∈ idx gs 0, e ∈ fs) (O : Sat h0 h (own y (spC i b d) :: buf 1 slc b gs :: famR fs :: L)) (k : Q true h) : F_law3_spread_marked (some (pt y 0)) h Q := by
  rw [F_law3_spread_marked.eq_1, F_law3_spread_marked_of.eq_1]
  refine jn_go ?_
  rw [F_law3_spread_marked.l2.eq_1]
  refine wl_now1 fun next => ?_
  repeat (first | (with_reducible refine al_id ?_); refine O.al fun _ h O => ?_ | (with_reducible refine nn_id ?_); refine ⟨_, rfl, ?_⟩ | (with_reducible refine ld_id ?_); (first | refine O.ld 0 rfl ?_); (repeat (first | (with_reducible refine ldL_n ?_) | refine ldL_s ?_ | refine ldL_c ?_)) | (with_reducible refine st_ad (by first | (with_reducible rfl) | (simp only [pt_add, Nat.zero_add, Nat.add_zero, Nat.reduceAdd]; with_reducible rfl)) ?_); (first | refine O.st 0 rfl (by simp) rfl fun h O => ?_); (dsimp only [V.put, List.set, List.length_cons, List.length_nil] at O) | (with_reducible refine ca_id ?_); (first | refine O.ca 0 1 rfl ?_ | refine O.ca 0 2 rfl ?_))
  refine brr_ff (by simp [hi]) ?_
  refine jn0 (fun h' => h' = h) ?_ ?_
  · rintro h rfl
    refine jn_go ?_
    rw [F_law3_spread_marked.l6.eq_1]
    refine wl_now1 fun next => ?_
    repeat (first | (with_reducible refine al_id ?_); refine O.al fun _ h O => ?_ | (with_reducible refine nn_id ?_); refine ⟨_, rfl, ?_⟩ | (with_reducible refine ld_id ?_); (first | refine O.ld 0 rfl ?_); (repeat (first | (with_reducible refine ldL_n ?_) | refine ldL_s ?_ | refine ldL_c ?_)) | (with_reducible refine st_ad (by first | (with_reducible rfl) | (simp only [pt_add, Nat.zero_add, Nat.add_zero, Nat.reduceAdd]; with_reducible rfl)) ?_); (first | refine O.st 0 rfl (by simp) rfl fun h O => ?_); (dsimp only [V.put, List.set, List.length_cons, List.length_nil] at O) | (with_reducible refine ca_id ?_); (first | refine O.ca 0 1 rfl ?_ | refine O.ca 0 2 rfl ?_))
    refine brr_ff (by decide) ?_
    refine jn_go ?_
    rw [F_law3_spread_marked.l8.eq_1]
    refine wl_now1 fun next => ?_
    repeat (first | (with_reducible refine al_id ?_); refine O.al fun _ h O => ?_ | (with_reducible refine nn_id ?_); refine ⟨_, rfl, ?_⟩ | (with_reducible refine ld_id ?_); (first | refine O.ld 0 rfl ?_); (repeat (first | (with_reducible refine ldL_n ?_) | refine ldL_s ?_ | refine ldL_c ?_)) | (with_reducible refine st_ad (by first | (with_reducible rfl) | (simp only [pt_add, Nat.zero_add, Nat.add_zero, Nat.reduceAdd]; with_reducible rfl)) ?_); (first | refine O.st 0 rfl (by simp) rfl fun h O => ?_); (dsimp only [V.put, List.set, List.length_cons, List.length_nil] at O) | (with_reducible refine ca_id ?_); (first | refine O.ca 0 1 rfl ?_ | refine O.ca 0 2 rfl ?_))
    refine brr_ff (by decide) ?_
    refine F_law3_spread_others.is hd O ?_
    exact k
  intro j hj
  rw [F_law3_spread_marked.l4.eq_1]
  have v0 := (O.view 1 slc_len (by simp) rfl).1
  refine wl1 (k := .int .i64) (fun (m : Nat) (i' : Int) (h' : Heap) => 0 ≤ i' ∧ i' + m = gs.length ∧ h' = h) ?_ (m := gs.length) ⟨by omega, by omega, rfl⟩
  rintro m (i' : Int) h next hn ⟨hi0, him, rfl⟩
  repeat (first | (with_reducible refine al_id ?_); refine O.al fun _ h O => ?_ | (with_reducible refine nn_id ?_); refine ⟨_, rfl, ?_⟩ | (with_reducible refine ld_id ?_); (first | refine O.ld 0 rfl ?_); (repeat (first | (with_reducible refine ldL_n ?_) | refine ldL_s ?_ | refine ldL_c ?_)) | (with_reducible refine st_ad (by first | (with_reducible rfl) | (simp only [pt_add, Nat.zero_add, Nat.add_zero, Nat.reduceAdd]; with_reducible rfl)) ?_); (first | refine O.st 0 rfl (by simp) rfl fun h O => ?_); (dsimp only [V.put, List.set, List.length_cons, List.length_nil] at O) | (with_reducible refine ca_id ?_); (first | refine O.ca 0 1 rfl ?_ | refine O.ca 0 2 rfl ?_))
  rw [show (Sl.mk b.ptr b.len b.cap).len = gs.length from v0.len]
  refine brr_p (fun hlt => ?_) (fun hlt => hj _ rfl)
  obtain ⟨iN, rfl⟩ := Int.eq_ofNat_of_zero_le hi0
  have hlt : (iN : Int) < (gs.length : Int) := hlt
  obtain ⟨g, hge⟩ : ∃ g, gs[((iN : Nat) : Int).toNat]? = some g := ⟨_, List.getElem?_eq_getElem (by omega)⟩
  have hgl := hb g (List.mem_of_getElem? hge)
  have hmem : (g, iN) ∈ fs := by
    have := idx_mem (i := 0) hge
    rw [Int.toNat_natCast, Nat.zero_add] at this
    exact hs _ this
  have ve : Bytes h g (marksB iN g.len) := fam_view O 2 (by simp) rfl hmem
  refine jn_go ?_
  refine jn_go ?_
  rw [F_law3_spread_marked.l3.eq_1]
  refine wl1 (k := .int .i64) (fun (m' : Nat) (k' : Int) (h' : Heap) => 0 ≤ k' ∧ k' + m' = g.len ∧ h' = h) ?_ (m := g.len) ⟨by omega, by omega, rfl⟩
  rintro m' (k' : Int) h next' hn' ⟨hk0, hkm, rfl⟩
  repeat (first | (with_reducible refine al_id ?_); refine O.al fun _ h O => ?_ | (with_reducible refine nn_id ?_); refine ⟨_, rfl, ?_⟩ | (with_reducible refine ld_id ?_); (first | refine O.ld 0 rfl ?_); (repeat (first | (with_reducible refine ldL_n ?_) | refine ldL_s ?_ | refine ldL_c ?_)) | (with_reducible refine st_ad (by first | (with_reducible rfl) | (simp only [pt_add, Nat.zero_add, Nat.add_zero, Nat.reduceAdd]; with_reducible rfl)) ?_); (first | refine O.st 0 rfl (by simp) rfl fun h O => ?_); (dsimp only [V.put, List.set, List.length_cons, List.length_nil] at O) | (with_reducible refine ca_id ?_); (first | refine O.ca 0 1 rfl ?_ | refine O.ca 0 2 rfl ?_))
  refine v0.getP hi0 hge fun a hca => ?_
  refine ld_are (hca v0) (ldL_c (k := .sl) (x := g) (ldL_n ?_))
  refine brr_p (fun hlt' => ?_) (fun hlt' => ?_)
  · repeat (first | (with_reducible refine al_id ?_); refine O.al fun _ h O => ?_ | (with_reducible refine nn_id ?_); refine ⟨_, rfl, ?_⟩ | (with_reducible refine ld_id ?_); (first | refine O.ld 0 rfl ?_); (repeat (first | (with_reducible refine ldL_n ?_) | refine ldL_s ?_ | refine ldL_c ?_)) | (with_reducible refine st_ad (by first | (with_reducible rfl) | (simp only [pt_add, Nat.zero_add, Nat.add_zero, Nat.reduceAdd]; with_reducible rfl)) ?_); (first | refine O.st 0 rfl (by simp) rfl fun h O => ?_); (dsimp only [V.put, List.set, List.length_cons, List.length_nil] at O) | (with_reducible refine ca_id ?_); (first | refine O.ca 0 1 rfl ?_ | refine O.ca 0 2 rfl ?_))
    refine v0.getP hi0 hge fun a hca => ?_
    refine ld_are (hca v0) (ldL_c (k := .sl) (x := g) (ldL_n ?_))
    have hlt2 : k' < (g.len : Int) := hlt'
    refine ve.getP (x := atB iN k'.toNat) hk0 (marksB_at (by omega)) fun b2 hcb => ?_
    refine ld_are (hcb ve) (ldL_c (k := .int .u8) (x := ((atB iN k'.toNat).toNat : Int)) (ldL_n ?_))
    obtain ⟨kN, rfl⟩ := Int.eq_ofNat_of_zero_le hk0
    refine F_law3_sign.is (by omega) ?_
    refine ⟨O.cells 0 rfl 1 1, hca v0, hcb ve, ?_⟩
    refine brr_ne (fun e => absurd rfl e) (fun _ => ?_)
    rw [wrap64 (by omega) (by omega)]
    exact hn' (m' - 1) _ _ (by omega) ⟨by omega, by omega, rfl⟩
  · rw [wrap64 (by omega) (by omega)]
    exact hn (m - 1) _ _ (by omega) ⟨by omega, by omega, rfl⟩
theorem many_cons {α : Type} {f : α → Res} {x : α} {xs : List α} (O : Sat h0 h (many f (x :: xs) :: L)) : Sat h0 h (f x :: many f xs :: L) := by
  have O : Sat h0 h (sep (f x) (many f xs) :: L) := O
  exact O.sep
theorem F_law3_spread_mark.is {y : Nat} {i b d : Sl} {es : List SE} {Q : Heap → Prop} (hi : i.len = 0) (hd : d.len = 0) (hg : es.length ≤ 1000000) (hb : ∀ e ∈ es, e.2.1.length ≤ 4194304) (O : Sat h0 h (own y (spC i b d) :: buf 1 slc b (es.map (·.1)) :: many bufE es :: L)) (k : ∀ h', Sat h0 h' (own y (spC i b d) :: buf 1 slc b (es.map (·.1)) :: famR (idx (es.map (·.1)) 0) :: L) → Q h') : F_law3_spread_mark (some (pt y 0)) h Q := by
  rw [F_law3_spread_mark.eq_1, F_law3_spread_mark_of.eq_1]
  refine jn_go ?_
  rw [F_law3_spread_mark.l2.eq_1]
  refine wl_now1 fun next => ?_
  repeat (first | (with_reducible refine al_id ?_); refine O.al fun _ h O => ?_ | (with_reducible refine nn_id ?_); refine ⟨_, rfl, ?_⟩ | (with_reducible refine ld_id ?_); (first | refine O.ld 0 rfl ?_); (repeat (first | (with_reducible refine ldL_n ?_) | refine ldL_s ?_ | refine ldL_c ?_)) | (with_reducible refine st_ad (by first | (with_reducible rfl) | (simp only [pt_add, Nat.zero_add, Nat.add_zero, Nat.reduceAdd]; with_reducible rfl)) ?_); (first | refine O.st 0 rfl (by simp) rfl fun h O => ?_); (dsimp only [V.put, List.set, List.length_cons, List.length_nil] at O) | (with_reducible refine ca_id ?_); (first | refine O.ca 0 1 rfl ?_ | refine O.ca 0 2 rfl ?_))
  refine brr_ff (by simp [hi]) ?_
  refine jn0 (fun h' => Sat h0 h' (own y (spC i b d) :: buf 1 slc b (es.map (·.1)) :: famR (idx (es.map (·.1)) 0) :: L)) ?_ ?_
  · clear O
    intro h O
    refine jn_go ?_
    rw [F_law3_spread_mark.l6.eq_1]
    refine wl_now1 fun next => ?_
    repeat (first | (with_reducible refine al_id ?_); refine O.al fun _ h O => ?_ | (with_reducible refine nn_id ?_); refine ⟨_, rfl, ?_⟩ | (with_reducible refine ld_id ?_); (first | refine O.ld 0 rfl ?_); (repeat (first | (with_reducible refine ldL_n ?_) | refine ldL_s ?_ | refine ldL_c ?_)) | (with_reducible refine st_ad (by first | (with_reducible rfl) | (simp only [pt_add, Nat.zero_add, Nat.add_zero, Nat.reduceAdd]; with_reducible rfl)) ?_); (first | refine O.st 0 rfl (by simp) rfl fun h O => ?_); (dsimp only [V.put, List.set, List.length_cons, List.length_nil] at O) | (with_reducible refine ca_id ?_); (first | refine O.ca 0 1 rfl ?_ | refine O.ca 0 2 rfl ?_))
    refine brr_ff (by decide) ?_
    refine jn_go ?_
    rw [F_law3_spread_mark.l8.eq_1]
    refine wl_now1 fun next => ?_
    repeat (first | (with_reducible refine al_id ?_); refine O.al fun _ h O => ?_ | (with_reducible refine nn_id ?_); refine ⟨_, rfl, ?_⟩ | (with_reducible refine ld_id ?_); (first | refine O.ld 0 rfl ?_); (repeat (first | (with_reducible refine ldL_n ?_) | refine ldL_s ?_ | refine ldL_c ?_)) | (with_reducible refine st_ad (by first | (with_reducible rfl) | (simp only [pt_add, Nat.zero_add, Nat.add_zero, Nat.reduceAdd]; with_reducible rfl)) ?_); (first | refine O.st 0 rfl (by simp) rfl fun h O => ?_); (dsimp only [V.put, List.set, List.length_cons, List.length_nil] at O) | (with_reducible refine ca_id ?_); (first | refine O.ca 0 1 rfl ?_ | refine O.ca 0 2 rfl ?_))
    refine brr_ff (by decide) ?_
    refine jn_go ?_
    rw [F_law3_spread_mark.l10.eq_1]
    refine wl_now1 fun next => ?_
    repeat (first | (with_reducible refine al_id ?_); refine O.al fun _ h O => ?_ | (with_reducible refine nn_id ?_); refine ⟨_, rfl, ?_⟩ | (with_reducible refine ld_id ?_); (first | refine O.ld 0 rfl ?_); (repeat (first | (with_reducible refine ldL_n ?_) | refine ldL_s ?_ | refine ldL_c ?_)) | (with_reducible refine st_ad (by first | (with_reducible rfl) | (simp only [pt_add, Nat.zero_add, Nat.add_zero, Nat.reduceAdd]; with_reducible rfl)) ?_); (first | refine O.st 0 rfl (by simp) rfl fun h O => ?_); (dsimp only [V.put, List.set, List.length_cons, List.length_nil] at O) | (with_reducible refine ca_id ?_); (first | refine O.ca 0 1 rfl ?_ | refine O.ca 0 2 rfl ?_))
    refine brr_ff (by simp [hd]) ?_
    refine jn_go ?_
    rw [F_law3_spread_mark.l12.eq_1]
    refine wl_now1 fun next => ?_
    repeat (first | (with_reducible refine al_id ?_); refine O.al fun _ h O => ?_ | (with_reducible refine nn_id ?_); refine ⟨_, rfl, ?_⟩ | (with_reducible refine ld_id ?_); (first | refine O.ld 0 rfl ?_); (repeat (first | (with_reducible refine ldL_n ?_) | refine ldL_s ?_ | refine ldL_c ?_)) | (with_reducible refine st_ad (by first | (with_reducible rfl) | (simp only [pt_add, Nat.zero_add, Nat.add_zero, Nat.reduceAdd]; with_reducible rfl)) ?_); (first | refine O.st 0 rfl (by simp) rfl fun h O => ?_); (dsimp only [V.put, List.set, List.length_cons, List.length_nil] at O) | (with_reducible refine ca_id ?_); (first | refine O.ca 0 1 rfl ?_ | refine O.ca 0 2 rfl ?_))
    refine brr_ff (by decide) ?_
    refine jn_go ?_
    rw [F_law3_spread_mark.l14.eq_1]
    refine wl_now1 fun next => ?_
    repeat (first | (with_reducible refine al_id ?_); refine O.al fun _ h O => ?_ | (with_reducible refine nn_id ?_); refine ⟨_, rfl, ?_⟩ | (with_reducible refine ld_id ?_); (first | refine O.ld 0 rfl ?_); (repeat (first | (with_reducible refine ldL_n ?_) | refine ldL_s ?_ | refine ldL_c ?_)) | (with_reducible refine st_ad (by first | (with_reducible rfl) | (simp only [pt_add, Nat.zero_add, Nat.add_zero, Nat.reduceAdd]; with_reducible rfl)) ?_); (first | refine O.st 0 rfl (by simp) rfl fun h O => ?_); (dsimp only [V.put, List.set, List.length_cons, List.length_nil] at O) | (with_reducible refine ca_id ?_); (first | refine O.ca 0 1 rfl ?_ | refine O.ca 0 2 rfl ?_))
    refine brr_ff (by decide) ?_
    refine jn_go ?_
    rw [F_law3_spread_mark.l16.eq_1]
    refine wl_now1 fun next => ?_
    repeat (first | (with_reducible refine al_id ?_); refine O.al fun _ h O => ?_ | (with_reducible refine nn_id ?_); refine ⟨_, rfl, ?_⟩ | (with_reducible refine ld_id ?_); (first | refine O.ld 0 rfl ?_); (repeat (first | (with_reducible refine ldL_n ?_) | refine ldL_s ?_ | refine ldL_c ?_)) | (with_reducible refine st_ad (by first | (with_reducible rfl) | (simp only [pt_add, Nat.zero_add, Nat.add_zero, Nat.reduceAdd]; with_reducible rfl)) ?_); (first | refine O.st 0 rfl (by simp) rfl fun h O => ?_); (dsimp only [V.put, List.set, List.length_cons, List.length_nil] at O) | (with_reducible refine ca_id ?_); (first | refine O.ca 0 1 rfl ?_ | refine O.ca 0 2 rfl ?_))
    refine brr_ff (by decide) ?_
    exact k _ O
  intro j hj
  rw [F_law3_spread_mark.l4.eq_1]
  have O : Sat h0 h (own y (spC i b d) :: buf 1 slc b (es.map (·.1)) :: many bufE (es.drop 0) :: famR (idx ((es.map (·.1)).take 0) 0) :: L) := (famR.none O).sel [1, 2, 3, 0] 4 rfl (Nat.le_add_left _ _)
  refine wl1 (k := .int .i64) (fun (m : Nat) (i' : Int) (h' : Heap) => 0 ≤ i' ∧ i' + m = es.length ∧ Sat h0 h' (own y (spC i b d) :: buf 1 slc b (es.map (·.1)) :: many bufE (es.drop i'.toNat) :: famR (idx ((es.map (·.1)).take i'.toNat) 0) :: L)) ?_ (m := es.length) ⟨by omega, by omega, O⟩
  clear O
  rintro m (i' : Int) h next hn ⟨hi0, him, O⟩
  obtain ⟨iN, rfl⟩ := Int.eq_ofNat_of_zero_le hi0
  rw [Int.toNat_natCast] at O
  have v0 := (O.view 1 slc_len (by simp) rfl).1
  have hvl := v0.len
  rw [List.length_map] at hvl
  repeat (first | (with_reducible refine al_id ?_); refine O.al fun _ h O => ?_ | (with_reducible refine nn_id ?_); refine ⟨_, rfl, ?_⟩ | (with_reducible refine ld_id ?_); (first | refine O.ld 0 rfl ?_); (repeat (first | (with_reducible refine ldL_n ?_) | refine ldL_s ?_ | refine ldL_c ?_)) | (with_reducible refine st_ad (by first | (with_reducible rfl) | (simp only [pt_add, Nat.zero_add, Nat.add_zero, Nat.reduceAdd]; with_reducible rfl)) ?_); (first | refine O.st 0 rfl (by simp) rfl fun h O => ?_); (dsimp only [V.put, List.set, List.length_cons, List.length_nil] at O) | (with_reducible refine ca_id ?_); (first | refine O.ca 0 1 rfl ?_ | refine O.ca 0 2 rfl ?_))
  rw [show (Sl.mk b.ptr b.len b.cap).len = es.length from hvl]
  refine brr_p (fun hlt => ?_) (fun hlt => ?_)
  case refine_2 =>
    have hlt : ¬ (iN : Int) < (es.length : Int) := hlt
    refine hj _ ?_
    rw [List.take_of_length_le (by rw [List.length_map]; omega)] at O
    exact O.sel [0, 1, 3] 4 rfl (Nat.le_add_left _ _)
  have hlt : (iN : Int) < (es.length : Int) := hlt
  obtain ⟨e, he⟩ : ∃ e, es[iN]? = some e := ⟨_, List.getElem?_eq_getElem (by omega)⟩
  have hbe := hb e (List.mem_of_getElem? he)
  have hq : (es.map (·.1))[((iN : Nat) : Int).toNat]? = some e.1 := by rw [Int.toNat_natCast, List.getElem?_map, he]; rfl
  have hdr : es.drop iN = e :: es.drop (iN + 1) := by
    rw [List.drop_eq_getElem_cons (by omega)]
    congr 1
    exact (List.getElem?_eq_some_iff.1 he).2
  rw [hdr] at O
  have O := many_cons (O.sel [2, 0, 1, 3] 4 rfl (Nat.le_add_left _ _))
  have O : Sat h0 h (buf 1 u8 e.1 e.2.1 :: many bufE (es.drop (iN + 1)) :: own y (spC i b d) :: buf 1 slc b (es.map (·.1)) :: famR (idx ((es.map (·.1)).take iN) 0) :: L) := O
  have hel := (O.view 0 u8_len (by simp) rfl).1.len
  have hel2 : e.1.len ≤ 4194304 := by omega
  refine jn_go ?_
  refine jn0 (fun h' => Sat h0 h' (buf 1 u8 e.1 (marksB iN e.1.len) :: many bufE (es.drop (iN + 1)) :: own y (spC i b d) :: buf 1 slc b (es.map (·.1)) :: famR (idx ((es.map (·.1)).take iN) 0) :: L)) ?_ ?_
  · clear O
    intro h O
    have O := fam_take (O.sel [0, 4, 1, 2, 3] 5 rfl (Nat.le_add_left _ _))
    rw [wrap64 (by omega) (by omega)]
    refine hn (m - 1) _ _ (by omega) ⟨by omega, by omega, ?_⟩
    rw [show ((iN : Int) + 1).toNat = iN + 1 by omega]
    have et : (es.map (·.1)).take (iN + 1) = (es.map (·.1)).take iN ++ [e.1] := by
      rw [List.take_add_one]
      rw [Int.toNat_natCast] at hq
      rw [hq]
      rfl
    rw [et, idx_app, List.length_take, Nat.zero_add, show min iN (es.map (·.1)).length = iN by rw [List.length_map]; omega]
    exact O.sel [2, 3, 1, 0] 4 rfl (Nat.le_add_left _ _)
  intro j2 hj2
  clear hn hj
  rw [F_law3_spread_mark.l3.eq_1]
  refine wl1 (k := .int .i64) (fun (m' : Nat) (k' : Int) (h' : Heap) => 0 ≤ k' ∧ k' + m' = e.1.len ∧ ∃ zs : List UInt8, zs.length = e.1.len ∧ (∀ t, t < k'.toNat → zs[t]? = some (atB iN t)) ∧ Sat h0 h' (buf 1 u8 e.1 zs :: many bufE (es.drop (iN + 1)) :: own y (spC i b d) :: buf 1 slc b (es.map (·.1)) :: famR (idx ((es.map (·.1)).take iN) 0) :: L)) ?_ (m := e.1.len) ⟨by omega, by omega, e.2.1, hel.symm, fun t ht => absurd ht (by simp), O⟩
  clear O v0 hel
  rintro m' (k' : Int) h next' hn' ⟨hk0, hkm, zs, hzl, hza, O⟩
  obtain ⟨kN, rfl⟩ := Int.eq_ofNat_of_zero_le hk0
  rw [Int.toNat_natCast] at hza
  have v0 := (O.view 3 slc_len (by simp) rfl).1
  repeat (first | (with_reducible refine al_id ?_); refine O.al fun _ h O => ?_ | (with_reducible refine nn_id ?_); refine ⟨_, rfl, ?_⟩ | (with_reducible refine ld_id ?_); (first | refine O.ld 0 rfl ?_ | refine O.ld 1 rfl ?_ | refine O.ld 2 rfl ?_); (repeat (first | (with_reducible refine ldL_n ?_) | refine ldL_s ?_ | refine ldL_c ?_)) | (with_reducible refine st_ad (by first | (with_reducible rfl) | (simp only [pt_add, Nat.zero_add, Nat.add_zero, Nat.reduceAdd]; with_reducible rfl)) ?_); (first | refine O.st 0 rfl (by simp) rfl fun h O => ?_ | refine O.st 1 rfl (by simp) rfl fun h O => ?_ | refine O.st 2 rfl (by simp) rfl fun h O => ?_); (dsimp only [V.put, List.set, List.length_cons, List.length_nil] at O) | (with_reducible refine ca_id ?_); (first | refine O.ca 0 1 rfl ?_ | refine O.ca 0 2 rfl ?_ | refine O.ca 1 1 rfl ?_ | refine O.ca 1 2 rfl ?_ | refine O.ca 2 1 rfl ?_ | refine O.ca 2 2 rfl ?_))
  refine v0.getP hi0 hq fun a hca => ?_
  refine ld_are (hca v0) (ldL_c (k := .sl) (x := e.1) (ldL_n ?_))
  refine brr_p (fun hlt' => ?_) (fun hlt' => ?_)
  · have hlt2 : (kN : Int) < (e.1.len : Int) := hlt'
    repeat (first | (with_reducible refine al_id ?_); refine O.al fun _ h O => ?_ | (with_reducible refine nn_id ?_); refine ⟨_, rfl, ?_⟩ | (with_reducible refine ld_id ?_); (first | refine O.ld 0 rfl ?_ | refine O.ld 1 rfl ?_ | refine O.ld 2 rfl ?_); (repeat (first | (with_reducible refine ldL_n ?_) | refine ldL_s ?_ | refine ldL_c ?_)) | (with_reducible refine st_ad (by first | (with_reducible rfl) | (simp only [pt_add, Nat.zero_add, Nat.add_zero, Nat.reduceAdd]; with_reducible rfl)) ?_); (first | refine O.st 0 rfl (by simp) rfl fun h O => ?_ | refine O.st 1 rfl (by simp) rfl fun h O => ?_ | refine O.st 2 rfl (by simp) rfl fun h O => ?_); (dsimp only [V.put, List.set, List.length_cons, List.length_nil] at O) | (with_reducible refine ca_id ?_); (first | refine O.ca 0 1 rfl ?_ | refine O.ca 0 2 rfl ?_ | refine O.ca 1 1 rfl ?_ | refine O.ca 1 2 rfl ?_ | refine O.ca 2 1 rfl ?_ | refine O.ca 2 2 rfl ?_))
    refine v0.getP hi0 hq fun a hca => ?_
    refine ld_are (hca v0) (ldL_c (k := .sl) (x := e.1) (ldL_n ?_))
    refine F_law3_sign.is (by omega) ?_
    refine ⟨O.cells 2 rfl 1 1, hca v0, ?_⟩
    refine O.put1 u8_len u8_one hk0 (by omega) (atB iN kN) rfl fun h O => ?_
    rw [wrap64 (by omega) (by omega)]
    refine hn' (m' - 1) _ _ (by omega) ⟨by omega, by omega, zs.set kN (atB iN kN), by rw [List.length_set]; exact hzl, fun t ht => ?_, by rw [Int.toNat_natCast] at O; exact O⟩
    rw [show ((kN : Int) + 1).toNat = kN + 1 by omega] at ht
    rw [List.getElem?_set]
    by_cases htk : kN = t
    · subst htk; rw [if_pos rfl, if_pos (by omega)]
    · rw [if_neg htk]; exact hza t (by omega)
  · have hlt2 : ¬ (kN : Int) < (e.1.len : Int) := hlt'
    have ez : zs = marksB iN e.1.len := by
      apply List.ext_getElem?
      intro t
      by_cases ht : t < e.1.len
      · rw [hza t (by omega), marksB_at ht]
      · rw [List.getElem?_eq_none (by omega), List.getElem?_eq_none (by rw [marksB_len]; omega)]
    rw [ez] at O
    exact hj2 _ O
end
end Go.Proofs.Ytboidjampddfoaa.V
/- The Shelf over lists of bytes: each list is its caller's own. -/
namespace Go.Proofs.Ytboidjampddfoaa.V
open Go Go.RowKit
set_option linter.unusedVariables false
set_option linter.unusedSimpArgs false
section
variable {h0 h : Heap} {L : List Res}
theorem F_law3_spread_grown.is {y : Nat} {i b d : Sl} {gs : List Sl} {Q : Option Addr → Heap → Prop} (hi : i.len = 0) (hd : d.len = 0) (hg : gs.length ≤ 1000000) (hb : ∀ g ∈ gs, g.len ≤ 4194304) (O : Sat h0 h (own y (spC i b d) :: buf 1 slc b gs :: famR (idx gs 0) :: L))
    (k : ∀ z zb (hs : List Sl) h', hs.length = gs.length → (∀ g ∈ hs, g.len ≤ 4194400) → Sat h0 h' (own y (spC i b d) :: buf 1 slc b gs :: own z (spC ⟨none, 0, 0⟩ zb ⟨none, 0, 0⟩) :: buf 1 slc zb hs :: famR (idx gs 0 ++ idx hs 0) :: L) → Q (some (pt z 0)) h') : F_law3_spread_grown (some (pt y 0)) h Q := by
  rw [F_law3_spread_grown.eq_1, F_law3_spread_grown_of.eq_1]
  refine O.al fun z h O => ?_
  replace O := O.sel [1, 0, 2, 3] 4 rfl (Nat.le_add_left _ _)
  simp only [selT, List.map, nth, List.drop, List.cons_append, List.nil_append] at O
  refine jn_go ?_
  rw [F_law3_spread_grown.l2.eq_1]
  refine wl_now1 fun next => ?_
  repeat (first | (with_reducible refine al_id ?_); refine O.al fun _ h O => ?_ | (with_reducible refine nn_id ?_); refine ⟨_, rfl, ?_⟩ | (with_reducible refine ld_id ?_); (first | refine O.ld 0 rfl ?_); (repeat (first | (with_reducible refine ldL_n ?_) | refine ldL_s ?_ | refine ldL_c ?_)) | (with_reducible refine st_ad (by first | (with_reducible rfl) | (simp only [pt_add, Nat.zero_add, Nat.add_zero, Nat.reduceAdd]; with_reducible rfl)) ?_); (first | refine O.st 0 rfl (by simp) rfl fun h O => ?_); (dsimp only [V.put, List.set, List.length_cons, List.length_nil] at O) | (with_reducible refine ca_id ?_); (first | refine O.ca 0 1 rfl ?_ | refine O.ca 0 2 rfl ?_))
  refine brr_ff (by simp [hi]) ?_
  refine jn0 (fun h' => ∃ (zb : Sl) (hs : List Sl), hs.length = gs.length ∧ (∀ g ∈ hs, g.len ≤ 4194400) ∧ Sat h0 h' (own y (spC i b d) :: buf 1 slc b gs :: own z (spC ⟨none, 0, 0⟩ zb ⟨none, 0, 0⟩) :: buf 1 slc zb hs :: famR (idx gs 0 ++ idx hs 0) :: L)) ?_ ?_
  · clear O
    rintro h ⟨zb, hs, hl, hbs, O⟩
    refine jn_go ?_
    rw [F_law3_spread_grown.l6.eq_1]
    refine wl_now1 fun next => ?_
    repeat (first | (with_reducible refine al_id ?_); refine O.al fun _ h O => ?_ | (with_reducible refine nn_id ?_); refine ⟨_, rfl, ?_⟩ | (with_reducible refine ld_id ?_); (first | refine O.ld 0 rfl ?_); (repeat (first | (with_reducible refine ldL_n ?_) | refine ldL_s ?_ | refine ldL_c ?_)) | (with_reducible refine st_ad (by first | (with_reducible rfl) | (simp only [pt_add, Nat.zero_add, Nat.add_zero, Nat.reduceAdd]; with_reducible rfl)) ?_); (first | refine O.st 0 rfl (by simp) rfl fun h O => ?_); (dsimp only [V.put, List.set, List.length_cons, List.length_nil] at O) | (with_reducible refine ca_id ?_); (first | refine O.ca 0 1 rfl ?_ | refine O.ca 0 2 rfl ?_))
    refine brr_ff (by decide) ?_
    refine jn_go ?_
    rw [F_law3_spread_grown.l8.eq_1]
    refine wl_now1 fun next => ?_
    repeat (first | (with_reducible refine al_id ?_); refine O.al fun _ h O => ?_ | (with_reducible refine nn_id ?_); refine ⟨_, rfl, ?_⟩ | (with_reducible refine ld_id ?_); (first | refine O.ld 0 rfl ?_); (repeat (first | (with_reducible refine ldL_n ?_) | refine ldL_s ?_ | refine ldL_c ?_)) | (with_reducible refine st_ad (by first | (with_reducible rfl) | (simp only [pt_add, Nat.zero_add, Nat.add_zero, Nat.reduceAdd]; with_reducible rfl)) ?_); (first | refine O.st 0 rfl (by simp) rfl fun h O => ?_); (dsimp only [V.put, List.set, List.length_cons, List.length_nil] at O) | (with_reducible refine ca_id ?_); (first | refine O.ca 0 1 rfl ?_ | refine O.ca 0 2 rfl ?_))
    refine brr_ff (by decide) ?_
    refine F_law3_spread_rest.is hd O ?_
    exact k z zb hs h hl hbs O
  intro j hj
  rw [F_law3_spread_grown.l4.eq_1]
  have O : Sat h0 h (own y (spC i b d) :: buf 1 slc b gs :: own z (spC ⟨none, 0, 0⟩ ⟨none, 0, 0⟩ ⟨none, 0, 0⟩) :: buf 1 slc ⟨none, 0, 0⟩ [] :: famR (idx gs 0 ++ idx [] 0) :: L) := by
    have O := (O.nil_buf (sz := 1) (enc := slc)).sel [1, 3, 2, 0, 4] 5 rfl (Nat.le_add_left _ _)
    rw [show idx [] 0 = [] from rfl, List.append_nil]
    exact O
  refine wl1 (k := .int .i64) (fun (m : Nat) (i' : Int) (h' : Heap) => 0 ≤ i' ∧ i' + m = gs.length ∧ ∃ (zb : Sl) (hs : List Sl), (hs.length : Int) = i' ∧ (∀ g ∈ hs, g.len ≤ 4194400) ∧ Sat h0 h' (own y (spC i b d) :: buf 1 slc b gs :: own z (spC ⟨none, 0, 0⟩ zb ⟨none, 0, 0⟩) :: buf 1 slc zb hs :: famR (idx gs 0 ++ idx hs 0) :: L)) ?_ (m := gs.length) ⟨by omega, by omega, _, [], rfl, by simp, O⟩
  clear O
  rintro m (i' : Int) h next hn ⟨hi0, him, zb, hs, hhl, hbs, O⟩
  have v0 := (O.view 1 slc_len (by simp) rfl).1
  have hvl := v0.len
  repeat (first | (with_reducible refine al_id ?_); refine O.al fun _ h O => ?_ | (with_reducible refine nn_id ?_); refine ⟨_, rfl, ?_⟩ | (with_reducible refine ld_id ?_); (first | refine O.ld 0 rfl ?_); (repeat (first | (with_reducible refine ldL_n ?_) | refine ldL_s ?_ | refine ldL_c ?_)) | (with_reducible refine st_ad (by first | (with_reducible rfl) | (simp only [pt_add, Nat.zero_add, Nat.add_zero, Nat.reduceAdd]; with_reducible rfl)) ?_); (first | refine O.st 0 rfl (by simp) rfl fun h O => ?_); (dsimp only [V.put, List.set, List.length_cons, List.length_nil] at O) | (with_reducible refine ca_id ?_); (first | refine O.ca 0 1 rfl ?_ | refine O.ca 0 2 rfl ?_))
  rw [show (Sl.mk b.ptr b.len b.cap).len = gs.length from hvl]
  refine brr_p (fun hlt => ?_) (fun hlt => ?_)
  case refine_2 =>
    have hlt : ¬ i' < (gs.length : Int) := hlt
    exact hj _ ⟨zb, hs, by omega, hbs, O⟩
  have hlt : i' < (gs.length : Int) := hlt
  obtain ⟨iN, rfl⟩ := Int.eq_ofNat_of_zero_le hi0
  have hhl : hs.length = iN := by omega
  obtain ⟨g, hge⟩ : ∃ g, gs[((iN : Nat) : Int).toNat]? = some g := ⟨_, List.getElem?_eq_getElem (by omega)⟩
  have hgl := hb g (List.mem_of_getElem? hge)
  refine jn_go ?_
  repeat (first | (with_reducible refine al_id ?_); refine O.al fun _ h O => ?_ | (with_reducible refine nn_id ?_); refine ⟨_, rfl, ?_⟩ | (with_reducible refine ld_id ?_); (first | refine O.ld 0 rfl ?_); (repeat (first | (with_reducible refine ldL_n ?_) | refine ldL_s ?_ | refine ldL_c ?_)) | (with_reducible refine st_ad (by first | (with_reducible rfl) | (simp only [pt_add, Nat.zero_add, Nat.add_zero, Nat.reduceAdd]; with_reducible rfl)) ?_); (first | refine O.st 0 rfl (by simp) rfl fun h O => ?_); (dsimp only [V.put, List.set, List.length_cons, List.length_nil] at O) | (with_reducible refine ca_id ?_); (first | refine O.ca 0 1 rfl ?_ | refine O.ca 0 2 rfl ?_))
  refine v0.getP hi0 hge fun a hca => ?_
  refine ld_are (hca v0) (ldL_c (k := .sl) (x := g) (ldL_n ?_))
  have hmem : (g, iN) ∈ idx gs 0 := by
    have := idx_mem (i := 0) hge
    rwa [Int.toNat_natCast, Nat.zero_add] at this
  refine jn1 (fun (s : Sl) h' => s.len = g.len + 96 ∧ Sat h0 h' (own y (spC i b d) :: buf 1 slc b gs :: own z (spC ⟨none, 0, 0⟩ zb ⟨none, 0, 0⟩) :: buf 1 slc zb hs :: famR (idx gs 0 ++ idx hs 0 ++ [(s, iN)]) :: L)) ?_ ?_
  · clear O v0 hvl
    rintro (s : Sl) h ⟨hsl, O⟩
    repeat (first | (with_reducible refine al_id ?_); refine O.al fun _ h O => ?_ | (with_reducible refine nn_id ?_); refine ⟨_, rfl, ?_⟩ | (with_reducible refine ld_id ?_); (first | refine O.ld 0 rfl ?_ | refine O.ld 1 rfl ?_ | refine O.ld 2 rfl ?_); (repeat (first | (with_reducible refine ldL_n ?_) | refine ldL_s ?_ | refine ldL_c ?_)) | (with_reducible refine st_ad (by first | (with_reducible rfl) | (simp only [pt_add, Nat.zero_add, Nat.add_zero, Nat.reduceAdd]; with_reducible rfl)) ?_); (first | refine O.st 0 rfl (by simp) rfl fun h O => ?_ | refine O.st 1 rfl (by simp) rfl fun h O => ?_ | refine O.st 2 rfl (by simp) rfl fun h O => ?_); (dsimp only [V.put, List.set, List.length_cons, List.length_nil] at O) | (with_reducible refine ca_id ?_); (first | refine O.ca 0 1 rfl ?_ | refine O.ca 0 2 rfl ?_ | refine O.ca 1 1 rfl ?_ | refine O.ca 1 2 rfl ?_ | refine O.ca 2 1 rfl ?_ | refine O.ca 2 2 rfl ?_))
    have O2 : Sat h0 h (buf 1 slc zb hs :: own _ [.slice s.ptr s.len s.cap] :: own y (spC i b d) :: buf 1 slc b gs :: own z (spC ⟨none, 0, 0⟩ zb ⟨none, 0, 0⟩) :: famR (idx gs 0 ++ idx hs 0 ++ [(s, iN)]) :: L) := O.sel [4, 0, 1, 2, 3, 5] 6 rfl (Nat.le_add_left _ _)
    refine Sat.app_buf O2 slc_len slc_one rfl (ys := [s]) rfl (rdP_own O2 1 rfl 1 (Nat.le_refl _)) (by simp; omega) fun zb2 h O _ => ?_
    repeat (first | (with_reducible refine al_id ?_); refine O.al fun _ h O => ?_ | (with_reducible refine nn_id ?_); refine ⟨_, rfl, ?_⟩ | (with_reducible refine ld_id ?_); (first | refine O.ld 0 rfl ?_ | refine O.ld 1 rfl ?_ | refine O.ld 2 rfl ?_ | refine O.ld 3 rfl ?_ | refine O.ld 4 rfl ?_); (repeat (first | (with_reducible refine ldL_n ?_) | refine ldL_s ?_ | refine ldL_c ?_)) | (with_reducible refine st_ad (by first | (with_reducible rfl) | (simp only [pt_add, Nat.zero_add, Nat.add_zero, Nat.reduceAdd]; with_reducible rfl)) ?_); (first | refine O.st 0 rfl (by simp) rfl fun h O => ?_ | refine O.st 1 rfl (by simp) rfl fun h O => ?_ | refine O.st 2 rfl (by simp) rfl fun h O => ?_ | refine O.st 3 rfl (by simp) rfl fun h O => ?_ | refine O.st 4 rfl (by simp) rfl fun h O => ?_); (dsimp only [V.put, List.set, List.length_cons, List.length_nil] at O) | (with_reducible refine ca_id ?_); (first | refine O.ca 0 1 rfl ?_ | refine O.ca 0 2 rfl ?_ | refine O.ca 1 1 rfl ?_ | refine O.ca 1 2 rfl ?_ | refine O.ca 2 1 rfl ?_ | refine O.ca 2 2 rfl ?_ | refine O.ca 3 1 rfl ?_ | refine O.ca 3 2 rfl ?_ | refine O.ca 4 1 rfl ?_ | refine O.ca 4 2 rfl ?_))
    rw [wrap64 (by omega) (by omega)]
    refine hn (m - 1) _ _ (by omega) ⟨by omega, by omega, zb2, hs ++ [s], by rw [List.length_append, List.length_singleton]; omega, fun x hx => ?_, ?_⟩
    · rcases List.mem_append.1 hx with hx | hx
      · exact hbs x hx
      · rw [List.mem_singleton.1 hx]; omega
    · rw [idx_app, Nat.zero_add, hhl, ← List.append_assoc]
      exact O.sel [2, 3, 4, 0, 5] 6 rfl (Nat.le_add_left _ _)
  · intro j2 hj2
    clear hn hj
    rw [F_law3_spread_grown.l3.eq_1]
    have O : Sat h0 h (own y (spC i b d) :: buf 1 slc b gs :: own z (spC ⟨none, 0, 0⟩ zb ⟨none, 0, 0⟩) :: buf 1 slc zb hs :: famR (idx gs 0 ++ idx hs 0 ++ [(g, iN)]) :: L) := by
      have O3 := famR.sub (fs := idx gs 0 ++ idx hs 0 ++ [(g, iN)]) (O.sel [4, 0, 1, 2, 3] 5 rfl (Nat.le_add_left _ _)) (fun e hx => by
        rcases List.mem_append.1 hx with hx | hx
        · exact hx
        · rw [List.mem_singleton.1 hx]; exact List.mem_append.2 (.inl hmem))
      exact O3.sel [1, 2, 3, 4, 0] 5 rfl (Nat.le_add_left _ _)
    refine wl2 (k := .sl) (l := .int .i64) (fun (M : Nat) (g' : Sl) (kk : Int) (h' : Heap) => kk + M = 96 ∧ 0 ≤ kk ∧ (g'.len : Int) = g.len + kk ∧ Sat h0 h' (own y (spC i b d) :: buf 1 slc b gs :: own z (spC ⟨none, 0, 0⟩ zb ⟨none, 0, 0⟩) :: buf 1 slc zb hs :: famR (idx gs 0 ++ idx hs 0 ++ [(g', iN)]) :: L)) ?_ (m := 96) ⟨by omega, by omega, by omega, O⟩
    clear O v0 hvl
    rintro M (g' : Sl) (kk : Int) h next' hn' ⟨hkM, hk0, hgl', O⟩
    refine brr_p (fun hlt2 => ?_) (fun hlt2 => ?_)
    · have hlt2 : kk < 96 := hlt2
      refine F_law3_sign.is (by omega) ?_
      refine O.al fun a h O => ?_
      replace O := O.sel [0, 5, 1, 2, 3, 4] 6 rfl (Nat.le_add_left _ _)
      simp only [selT, List.map, nth, List.drop, List.cons_append, List.nil_append] at O
      refine fam_app (by omega) O fun g2 h hg2 O => ?_
      rw [wrap64 (by omega) (by omega)]
      exact hn' (M - 1) _ _ _ (by omega) ⟨by omega, by omega, by omega, O.sel [1, 2, 3, 4, 0] 5 rfl (Nat.le_add_left _ _)⟩
    · have hlt2 : ¬ kk < 96 := hlt2
      exact hj2 _ _ ⟨by omega, O⟩
theorem F_law3_Shelf_Given.is {x T : Nat} {Q : Bool → Heap → Prop} (O : Sat h0 h (shR x T :: L)) (k : ∀ h', Sat h0 h' L → Q true h') : F_law3_Shelf_Given (some (pt x 0)) h Q := by
  rw [F_law3_Shelf_Given.eq_1, F_law3_Shelf_Given_of.eq_1]
  obtain ⟨sh, ok, O⟩ := O.sh
  have hn := ok.n
  have hlen : ∀ g ∈ sh.es.map (·.1), g.len ≤ 4194304 := by
    intro g hg
    obtain ⟨e, he, rfl⟩ := List.mem_map.1 hg
    obtain ⟨i, hi⟩ := List.getElem?_of_mem he
    have V1 : Bytes h e.1 e.2.1 := (((O.sel [3, 0, 1, 2, 4] 5 rfl (Nat.le_add_left _ _)).take _ hi).view 0 (α := UInt8) (enc := u8) u8_len (by simp) rfl).1
    have := V1.len
    have := ok.b e he
    omega
  refine F_law3_Shelf_Same.is ok O ?_
  refine brr_ff rfl ?_
  refine O.al fun y h O => ?_
  have O := (O.nil_buf (sz := 1) (enc := slc))
  repeat (first | (with_reducible refine al_id ?_); refine O.al fun _ h O => ?_ | (with_reducible refine nn_id ?_); refine ⟨_, rfl, ?_⟩ | (with_reducible refine ld_id ?_); (first | refine O.ld 0 rfl ?_ | refine O.ld 1 rfl ?_ | refine O.ld 2 rfl ?_); (repeat (first | (with_reducible refine ldL_n ?_) | refine ldL_s ?_ | refine ldL_c ?_)) | (with_reducible refine st_ad (by first | (with_reducible rfl) | (simp only [pt_add, Nat.zero_add, Nat.add_zero, Nat.reduceAdd]; with_reducible rfl)) ?_); (first | refine O.st 0 rfl (by simp) rfl fun h O => ?_ | refine O.st 1 rfl (by simp) rfl fun h O => ?_ | refine O.st 2 rfl (by simp) rfl fun h O => ?_); (dsimp only [V.put, List.set, List.length_cons, List.length_nil] at O) | (with_reducible refine ca_id ?_); (first | refine O.ca 0 1 rfl ?_ | refine O.ca 0 2 rfl ?_ | refine O.ca 1 1 rfl ?_ | refine O.ca 1 2 rfl ?_ | refine O.ca 2 1 rfl ?_ | refine O.ca 2 2 rfl ?_))
  refine Sat.app_buf O slc_len slc_one rfl (ys := []) rfl rfl (by simp) fun s10 h O hs10 => ?_
  repeat (first | (with_reducible refine al_id ?_); refine O.al fun _ h O => ?_ | (with_reducible refine nn_id ?_); refine ⟨_, rfl, ?_⟩ | (with_reducible refine ld_id ?_); (first | refine O.ld 0 rfl ?_ | refine O.ld 1 rfl ?_ | refine O.ld 2 rfl ?_); (repeat (first | (with_reducible refine ldL_n ?_) | refine ldL_s ?_ | refine ldL_c ?_)) | (with_reducible refine st_ad (by first | (with_reducible rfl) | (simp only [pt_add, Nat.zero_add, Nat.add_zero, Nat.reduceAdd]; with_reducible rfl)) ?_); (first | refine O.st 0 rfl (by simp) rfl fun h O => ?_ | refine O.st 1 rfl (by simp) rfl fun h O => ?_ | refine O.st 2 rfl (by simp) rfl fun h O => ?_); (dsimp only [V.put, List.set, List.length_cons, List.length_nil] at O) | (with_reducible refine ca_id ?_); (first | refine O.ca 0 1 rfl ?_ | refine O.ca 0 2 rfl ?_ | refine O.ca 1 1 rfl ?_ | refine O.ca 1 2 rfl ?_ | refine O.ca 2 1 rfl ?_ | refine O.ca 2 2 rfl ?_))
  have O := (O.nil_buf (sz := 1) (enc := slc))
  repeat (first | (with_reducible refine al_id ?_); refine O.al fun _ h O => ?_ | (with_reducible refine nn_id ?_); refine ⟨_, rfl, ?_⟩ | (with_reducible refine ld_id ?_); (first | refine O.ld 0 rfl ?_ | refine O.ld 1 rfl ?_ | refine O.ld 2 rfl ?_ | refine O.ld 3 rfl ?_); (repeat (first | (with_reducible refine ldL_n ?_) | refine ldL_s ?_ | refine ldL_c ?_)) | (with_reducible refine st_ad (by first | (with_reducible rfl) | (simp only [pt_add, Nat.zero_add, Nat.add_zero, Nat.reduceAdd]; with_reducible rfl)) ?_); (first | refine O.st 0 rfl (by simp) rfl fun h O => ?_ | refine O.st 1 rfl (by simp) rfl fun h O => ?_ | refine O.st 2 rfl (by simp) rfl fun h O => ?_ | refine O.st 3 rfl (by simp) rfl fun h O => ?_); (dsimp only [V.put, List.set, List.length_cons, List.length_nil] at O) | (with_reducible refine ca_id ?_); (first | refine O.ca 0 1 rfl ?_ | refine O.ca 0 2 rfl ?_ | refine O.ca 1 1 rfl ?_ | refine O.ca 1 2 rfl ?_ | refine O.ca 2 1 rfl ?_ | refine O.ca 2 2 rfl ?_ | refine O.ca 3 1 rfl ?_ | refine O.ca 3 2 rfl ?_))
  have v1 := (O.view 4 slc_len (by simp) rfl).1
  refine Sat.app_buf O slc_len slc_one rfl (ys := sh.es.map (·.1)) v1.len (v1.rd slc_len) (by simp; omega) fun s18 h O hs18 => ?_
  repeat (first | (with_reducible refine al_id ?_); refine O.al fun _ h O => ?_ | (with_reducible refine nn_id ?_); refine ⟨_, rfl, ?_⟩ | (with_reducible refine ld_id ?_); (first | refine O.ld 0 rfl ?_ | refine O.ld 1 rfl ?_ | refine O.ld 2 rfl ?_ | refine O.ld 3 rfl ?_); (repeat (first | (with_reducible refine ldL_n ?_) | refine ldL_s ?_ | refine ldL_c ?_)) | (with_reducible refine st_ad (by first | (with_reducible rfl) | (simp only [pt_add, Nat.zero_add, Nat.add_zero, Nat.reduceAdd]; with_reducible rfl)) ?_); (first | refine O.st 0 rfl (by simp) rfl fun h O => ?_ | refine O.st 1 rfl (by simp) rfl fun h O => ?_ | refine O.st 2 rfl (by simp) rfl fun h O => ?_ | refine O.st 3 rfl (by simp) rfl fun h O => ?_); (dsimp only [V.put, List.set, List.length_cons, List.length_nil] at O) | (with_reducible refine ca_id ?_); (first | refine O.ca 0 1 rfl ?_ | refine O.ca 0 2 rfl ?_ | refine O.ca 1 1 rfl ?_ | refine O.ca 1 2 rfl ?_ | refine O.ca 2 1 rfl ?_ | refine O.ca 2 2 rfl ?_ | refine O.ca 3 1 rfl ?_ | refine O.ca 3 2 rfl ?_))
  have O := (O.nil_buf (sz := 1) (enc := slc))
  repeat (first | (with_reducible refine al_id ?_); refine O.al fun _ h O => ?_ | (with_reducible refine nn_id ?_); refine ⟨_, rfl, ?_⟩ | (with_reducible refine ld_id ?_); (first | refine O.ld 0 rfl ?_ | refine O.ld 1 rfl ?_ | refine O.ld 2 rfl ?_ | refine O.ld 3 rfl ?_ | refine O.ld 4 rfl ?_); (repeat (first | (with_reducible refine ldL_n ?_) | refine ldL_s ?_ | refine ldL_c ?_)) | (with_reducible refine st_ad (by first | (with_reducible rfl) | (simp only [pt_add, Nat.zero_add, Nat.add_zero, Nat.reduceAdd]; with_reducible rfl)) ?_); (first | refine O.st 0 rfl (by simp) rfl fun h O => ?_ | refine O.st 1 rfl (by simp) rfl fun h O => ?_ | refine O.st 2 rfl (by simp) rfl fun h O => ?_ | refine O.st 3 rfl (by simp) rfl fun h O => ?_ | refine O.st 4 rfl (by simp) rfl fun h O => ?_); (dsimp only [V.put, List.set, List.length_cons, List.length_nil] at O) | (with_reducible refine ca_id ?_); (first | refine O.ca 0 1 rfl ?_ | refine O.ca 0 2 rfl ?_ | refine O.ca 1 1 rfl ?_ | refine O.ca 1 2 rfl ?_ | refine O.ca 2 1 rfl ?_ | refine O.ca 2 2 rfl ?_ | refine O.ca 3 1 rfl ?_ | refine O.ca 3 2 rfl ?_ | refine O.ca 4 1 rfl ?_ | refine O.ca 4 2 rfl ?_))
  refine Sat.app_buf O slc_len slc_one rfl (ys := []) rfl rfl (by simp) fun s26 h O hs26 => ?_
  repeat (first | (with_reducible refine al_id ?_); refine O.al fun _ h O => ?_ | (with_reducible refine nn_id ?_); refine ⟨_, rfl, ?_⟩ | (with_reducible refine ld_id ?_); (first | refine O.ld 0 rfl ?_ | refine O.ld 1 rfl ?_ | refine O.ld 2 rfl ?_ | refine O.ld 3 rfl ?_ | refine O.ld 4 rfl ?_); (repeat (first | (with_reducible refine ldL_n ?_) | refine ldL_s ?_ | refine ldL_c ?_)) | (with_reducible refine st_ad (by first | (with_reducible rfl) | (simp only [pt_add, Nat.zero_add, Nat.add_zero, Nat.reduceAdd]; with_reducible rfl)) ?_); (first | refine O.st 0 rfl (by simp) rfl fun h O => ?_ | refine O.st 1 rfl (by simp) rfl fun h O => ?_ | refine O.st 2 rfl (by simp) rfl fun h O => ?_ | refine O.st 3 rfl (by simp) rfl fun h O => ?_ | refine O.st 4 rfl (by simp) rfl fun h O => ?_); (dsimp only [V.put, List.set, List.length_cons, List.length_nil] at O) | (with_reducible refine ca_id ?_); (first | refine O.ca 0 1 rfl ?_ | refine O.ca 0 2 rfl ?_ | refine O.ca 1 1 rfl ?_ | refine O.ca 1 2 rfl ?_ | refine O.ca 2 1 rfl ?_ | refine O.ca 2 2 rfl ?_ | refine O.ca 3 1 rfl ?_ | refine O.ca 3 2 rfl ?_ | refine O.ca 4 1 rfl ?_ | refine O.ca 4 2 rfl ?_))
  have hi : s10.len = 0 := hs10
  have hd : s26.len = 0 := hs26
  -- buf s26, buf s18, buf s10, y, x, buf s1, buf s2, many, pool
  have O : Sat h0 h (own x (shC sh.size sh.s1 sh.s2) :: own y (spC s10 s18 s26) :: buf 1 slc s18 (sh.es.map (·.1)) :: many bufE sh.es :: L) := by
    have O := O.sel [4, 3, 1, 7] 9 rfl (Nat.le_add_left _ _)
    exact O
  refine jn_go ?_
  rw [F_law3_Shelf_Given.l2.eq_1]
  refine wl_now1 fun next => ?_
  repeat (first | (with_reducible refine al_id ?_); refine O.al fun _ h O => ?_ | (with_reducible refine nn_id ?_); refine ⟨_, rfl, ?_⟩ | (with_reducible refine ld_id ?_); (first | refine O.ld 0 rfl ?_); (repeat (first | (with_reducible refine ldL_n ?_) | refine ldL_s ?_ | refine ldL_c ?_)) | (with_reducible refine st_ad (by first | (with_reducible rfl) | (simp only [pt_add, Nat.zero_add, Nat.add_zero, Nat.reduceAdd]; with_reducible rfl)) ?_); (first | refine O.st 0 rfl (by simp) rfl fun h O => ?_); (dsimp only [V.put, List.set, List.length_cons, List.length_nil] at O) | (with_reducible refine ca_id ?_); (first | refine O.ca 0 1 rfl ?_ | refine O.ca 0 2 rfl ?_))
  refine brr_ff (by decide) ?_
  refine jn_go ?_
  rw [F_law3_Shelf_Given.l3.eq_1]
  refine wl_now1 fun next => ?_
  repeat (first | (with_reducible refine al_id ?_); refine O.al fun _ h O => ?_ | (with_reducible refine nn_id ?_); refine ⟨_, rfl, ?_⟩ | (with_reducible refine ld_id ?_); (first | refine O.ld 0 rfl ?_); (repeat (first | (with_reducible refine ldL_n ?_) | refine ldL_s ?_ | refine ldL_c ?_)) | (with_reducible refine st_ad (by first | (with_reducible rfl) | (simp only [pt_add, Nat.zero_add, Nat.add_zero, Nat.reduceAdd]; with_reducible rfl)) ?_); (first | refine O.st 0 rfl (by simp) rfl fun h O => ?_); (dsimp only [V.put, List.set, List.length_cons, List.length_nil] at O) | (with_reducible refine ca_id ?_); (first | refine O.ca 0 1 rfl ?_ | refine O.ca 0 2 rfl ?_))
  refine brr_ff (by decide) ?_
  refine F_law3_spread_mark.is hi hd (by omega) ok.b (O.sel [1, 2, 3] 4 rfl (Nat.le_add_left _ _)) fun h O => ?_
  have hbl : ∀ g ∈ sh.es.map (·.1), g.len ≤ 4194304 := hlen
  refine F_law3_spread_grown.is hi hd (by rw [List.length_map]; omega) hbl O fun z zb hs h hhl hbs O => ?_
  refine jn1 (fun r h' => r = true ∧ h' = h) (fun r h' ⟨e, e2⟩ => by subst e; subst e2; exact k _ (O.sel [] 5 rfl (Nat.le_add_left _ _))) fun j hj => ?_
  refine F_law3_spread_marked.is hi hd (by rw [List.length_map]; omega) (fun g hg => by have := hbl g hg; omega) (fs := idx (sh.es.map (·.1)) 0 ++ idx hs 0) (fun e he => List.mem_append.2 (.inl he)) (O.sel [0, 1, 4] 5 rfl (Nat.le_add_left _ _)) ?_
  refine brr_tt rfl ?_
  refine F_law3_spread_marked.is rfl rfl (by rw [hhl, List.length_map]; omega) (fun g hg => by have := hbs g hg; omega) (fs := idx (sh.es.map (·.1)) 0 ++ idx hs 0) (fun e he => List.mem_append.2 (.inr he)) (O.sel [2, 3, 4] 5 rfl (Nat.le_add_left _ _)) ?_
  exact hj _ _ ⟨rfl, rfl⟩
end
end Go.Proofs.Ytboidjampddfoaa.V
namespace Go.Proofs.Ytboidjampddfoaa.V
open Go Go.RowKit
set_option linter.unusedVariables false
set_option maxRecDepth 100000
def F_law3_Place_Bytes_of  (x1 : Option Addr) (b2 : Sl) (h : Heap) (Q : Sl → Heap → Prop) : Prop :=
  nn x1 fun (a3 : Addr) =>
  ld [.sl] (a3.add 0) h fun (v4 : Sl) =>
  slTo v4 0 fun (s5 : Sl) =>
  app 5 1 1 (.int .u8 0) s5 b2.ptr b2.len h fun (s6 : Sl) (h7 : Heap) =>
  nn x1 fun (a8 : Addr) =>
  st (a8.add 0) [.slice s6.ptr s6.len s6.cap] h7 fun (h9 : Heap) =>
  nn x1 fun (a10 : Addr) =>
  ld [.sl] (a10.add 0) h9 fun (v11 : Sl) =>
  Q v11 h9
def F_law3_Place_Bytes (x1 : Option Addr) (b2 : Sl) (h : Heap) (Q : Sl → Heap → Prop) : Prop := F_law3_Place_Bytes_of  x1 b2 h Q
def plan59 : Plan := .s (.r [0, 1]) (.s (.r [0]) (.s (.r [4]) .z))
theorem F_law3_Place_Bytes.eq  (x1 : Option Addr) (b2 : Sl) (h : Heap) (K : Value → Heap → Prop) : F_law3_Place_Bytes_of  x1 b2 h (fun (r0 : Sl) (h : Heap) => K (.slice r0.ptr r0.len r0.cap) h) =
    den Try.prog noFns Try.f59.ntmps plan59 (bodyOf Try.f59) (args0 0 [(.pointer x1 : Value), (.slice b2.ptr b2.len b2.cap : Value)]) h ⟨fun env h => dRes Try.prog Try.f59.results.toList env h K, fun _ _ _ => False, fun env h => dRes Try.prog Try.f59.results.toList env h K⟩ := by kernel_rfl
def E_law3_Place_Bytes_of (f : Option Addr → Sl → Heap → (Sl → Heap → Prop) → Prop) : List Value → Heap → (Value → Heap → Prop) → Prop
  | [v0, v1], h, K => dec1 .ptr v0 fun (x1 : Option Addr) =>
  dec1 .sl v1 fun (b2 : Sl) =>
  f x1 b2 h (fun (r0 : Sl) (h : Heap) => K (.slice r0.ptr r0.len r0.cap) h)
  | _, _, _ => False
abbrev E_law3_Place_Bytes := E_law3_Place_Bytes_of F_law3_Place_Bytes
theorem E_law3_Place_Bytes.right : IsRight Try.prog 59 E_law3_Place_Bytes := by
  refine isRight fun vs K w hh => ?_
  match vs, hh with
  | [v0, v1], hh =>
    unfold E_law3_Place_Bytes E_law3_Place_Bytes_of at hh
    replace hh := dec1_sound hh; obtain ⟨x1, rfl, hh⟩ := hh
    replace hh := dec1_sound hh; obtain ⟨b2, rfl, hh⟩ := hh
    unfold F_law3_Place_Bytes at hh
    exact calls_den noFns_right plan59 _ w K Try.func59 (by kernel_rfl) (by kernel_rfl) (Eq.mp (F_law3_Place_Bytes.eq  x1 b2 w.heap K) hh)
theorem ok59 : okFn Try.prog 59 = true := by kernel_rfl
end Go.Proofs.Ytboidjampddfoaa.V
/- A Place: bytes that always lie where the last ones lay. -/
namespace Go.Proofs.Ytboidjampddfoaa.V
open Go Go.RowKit
set_option linter.unusedVariables false
set_option linter.unusedSimpArgs false
def plR (b : Nat) : Res := ex fun y : Sl × List UInt8 => sep (own b [.slice y.1.ptr y.1.len y.1.cap]) (buf 1 u8 y.1 y.2)
section
variable {h0 h : Heap} {L : List Res}
theorem Sat.pl {b : Nat} (O : Sat h0 h (plR b :: L)) : ∃ (s : Sl) (zs : List UInt8), Sat h0 h (own b [.slice s.ptr s.len s.cap] :: buf 1 u8 s zs :: L) := by
  obtain ⟨y, O⟩ := O.ex
  exact ⟨y.1, y.2, O.sep⟩
theorem Sat.plI {b : Nat} {s : Sl} {zs : List UInt8} (O : Sat h0 h (own b [.slice s.ptr s.len s.cap] :: buf 1 u8 s zs :: L)) : Sat h0 h (plR b :: L) := Sat.exI (s, zs) O.sepI
theorem pl_new {b : Nat} (O : Sat h0 h (own b [.slice none 0 0] :: L)) : Sat h0 h (plR b :: L) := Sat.plI (s := ⟨none, 0, 0⟩) (zs := []) (O.nil_buf (sz := 1) (enc := u8)).swap
/-- A list of one's own, cut to nothing. -/
theorem buf_cut {s : Sl} {zs : List UInt8} (O : Sat h0 h (buf 1 u8 s zs :: L)) : Sat h0 h (buf 1 u8 ⟨s.ptr, 0, s.cap⟩ [] :: L) := by
  refine O.mono fun E h => ?_
  obtain ⟨sp, h⟩ := h
  rcases h with ⟨rfl, rfl, rfl, rfl⟩ | ⟨b, k, rfl, hs, rfl⟩
  · exact ⟨[], .inl ⟨rfl, rfl, rfl, rfl⟩⟩
  · refine ⟨zs.flatMap u8 ++ sp, .inr ⟨b, zs.length + k, by simp, ?_, by simp⟩⟩
    rw [List.length_append, hs, flat_u8]
    omega
theorem F_law3_Place_Bytes.is {b : Nat} {v : Sl} {xs : List UInt8} {Q : Sl → Heap → Prop} (V1 : Stays h0 L fun h => Bytes h v xs) (hx : xs.length ≤ (140737488355325 : Nat)) (O : Sat h0 h (plR b :: L)) (k : ∀ s h', Sat h0 h' (own b [.slice s.ptr s.len s.cap] :: buf 1 u8 s xs :: L) → Q s h') : F_law3_Place_Bytes (some (pt b 0)) v h Q := by
  rw [F_law3_Place_Bytes.eq_1, F_law3_Place_Bytes_of.eq_1]
  obtain ⟨s, zs, O⟩ := O.pl
  repeat (first | (with_reducible refine al_id ?_); refine O.al fun _ h O => ?_ | (with_reducible refine nn_id ?_); refine ⟨_, rfl, ?_⟩ | (with_reducible refine ld_id ?_); (first | refine O.ld 0 rfl ?_); (repeat (first | (with_reducible refine ldL_n ?_) | refine ldL_s ?_ | refine ldL_c ?_)) | (with_reducible refine st_ad (by first | (with_reducible rfl) | (simp only [pt_add, Nat.zero_add, Nat.add_zero, Nat.reduceAdd]; with_reducible rfl)) ?_); (first | refine O.st 0 rfl (by simp) rfl fun h O => ?_); (dsimp only [V.put, List.set, List.length_cons, List.length_nil] at O) | (with_reducible refine ca_id ?_); (first | refine O.ca 0 1 rfl ?_ | refine O.ca 0 2 rfl ?_))
  refine ⟨Int.le_refl _, by show (0 : Int) ≤ (s.cap : Int); omega, ?_⟩
  have O := buf_cut O.swap
  have V2 := V1 h O.drop.drop
  refine Sat.app_buf O u8_len u8_one rfl (ys := xs) V2.len (V2.rd u8_len) (by simp; omega) fun s' h O _ => ?_
  repeat (first | (with_reducible refine al_id ?_); refine O.al fun _ h O => ?_ | (with_reducible refine nn_id ?_); refine ⟨_, rfl, ?_⟩ | (with_reducible refine ld_id ?_); (first | refine O.ld 0 rfl ?_ | refine O.ld 1 rfl ?_); (repeat (first | (with_reducible refine ldL_n ?_) | refine ldL_s ?_ | refine ldL_c ?_)) | (with_reducible refine st_ad (by first | (with_reducible rfl) | (simp only [pt_add, Nat.zero_add, Nat.add_zero, Nat.reduceAdd]; with_reducible rfl)) ?_); (first | refine O.st 0 rfl (by simp) rfl fun h O => ?_ | refine O.st 1 rfl (by simp) rfl fun h O => ?_); (dsimp only [V.put, List.set, List.length_cons, List.length_nil] at O) | (with_reducible refine ca_id ?_); (first | refine O.ca 0 1 rfl ?_ | refine O.ca 0 2 rfl ?_ | refine O.ca 1 1 rfl ?_ | refine O.ca 1 2 rfl ?_))
  exact k _ _ O.swap
end
end Go.Proofs.Ytboidjampddfoaa.V
