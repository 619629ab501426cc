import Derived.Test.YtboidjampddfoaaZNetFresh1
import Derived.Test.YtboidjampddfoaaProg
/- Messages with numbers of their own: what NetKeeps plays. -/
namespace Go.Proofs.Ytboidjampddfoaa.V
open Go Go.RowKit
set_option linter.unusedVariables false
set_option linter.unusedSimpArgs false
theorem F_law6_into.is {h : Heap} {i n : Int} {Q : Int → Heap → Prop} (hn : 0 < n) (hn2 : n < 4611686018427387904) (k : Q (i % n) h) : F_law6_into i n h Q := by
  rw [F_law6_into.eq_1, F_law6_into_of.eq_1]
  have hf := tmod_fix (a := i) hn
  have hl := tmod_lt (a := i) hn
  refine ⟨by omega, ?_⟩
  refine jn1 (fun x h' => x = i % n ∧ h' = h) ?_ ?_
  · rintro x h ⟨rfl, rfl⟩
    exact k
  · intro j hj
    refine brr_p (fun hlt => ?_) (fun hlt => ?_)
    · rw [if_pos hlt] at hf
      rw [wrap64 (by omega) (by omega)]
      exact hj _ _ ⟨hf, rfl⟩
    · rw [if_neg hlt] at hf
      exact hj _ _ ⟨hf, rfl⟩
theorem F_law6_same.is {h : Heap} {t u : Int} {a b : Sl} {xs ys : List UInt8} {Q : Bool → Heap → Prop} (V1 : Bytes h a xs) (V2 : Bytes h b ys) (h1 : xs.length < 4611686018427387904) (h2 : ys.length < 4611686018427387904) (k : ∀ h', KeptH h h' → Q (decide (t = u ∧ xs = ys)) h') : F_law6_same t a u b h Q := by
  rw [F_law6_same.eq_1, F_law6_same_of.eq_1]
  refine Sat.al (Sat.nil h) fun c h' O => ?_
  refine O.al fun d h' O => ?_
  simp only [nn_some, pt_add, Nat.zero_add, Nat.add_zero, Nat.reduceAdd, Nat.reduceMul, Int.toNat_zero, Int.toNat_one, Nat.zero_mul, Nat.one_mul]
  refine jn1 (fun z h'' => z = decide (t = u ∧ xs = ys) ∧ KeptH h h'') (fun z h'' ⟨e, kk⟩ => e ▸ k h'' kk) fun j hj => ?_
  refine O.ld 1 rfl (ldL_c (ldL_n ?_))
  refine O.ld 0 rfl (ldL_c (ldL_n ?_))
  refine brr_eq (fun e => ?_) (fun e => ?_)
  · refine O.ld 1 rfl (ldL_c (k := .sl) (x := a) (ldL_n ?_))
    refine O.ld 0 rfl (ldL_c (k := .sl) (x := b) (ldL_n ?_))
    refine F_ref0_Eq.is (V1.kept O.kept) (V2.kept O.kept) h1 h2 ?_
    exact hj _ _ ⟨decide_eq_decide.2 ⟨fun x => ⟨e, x⟩, fun x => x.2⟩, O.kept⟩
  · exact hj _ _ ⟨(decide_eq_false fun x => e x.1).symm, O.kept⟩
def whichN (xs : List UInt8) : Int := if xs.length = 2 then ((xs.getD 0 0).toNat : Int) + 256 * ((xs.getD 1 0).toNat : Int) else -1
def tagB (i : Nat) : List UInt8 := [UInt8.ofNat i, UInt8.ofNat (i / 256)]
theorem whichN_tagB {i : Nat} (h : i < 65536) : whichN (tagB i) = i := by
  unfold whichN tagB
  simp
  omega
theorem wrap8N (n : Nat) : IntKind.u8.wrap (n : Int) = ((UInt8.ofNat n).toNat : Int) := by
  unfold IntKind.wrap
  simp [IntKind.bits, IntKind.signed]
section
variable {h0 h : Heap} {L : List Res} {p : Nat} {n : NS}
theorem F_law6_which.is {t : Int} {a : Sl} {xs : List UInt8} {Q : Int → Heap → Prop} (V1 : Bytes h a xs) (k : ∀ h', KeptH h h' → Q (whichN xs) h') : F_law6_which t a h Q := by
  rw [F_law6_which.eq_1, F_law6_which_of.eq_1]
  refine Sat.al (Sat.nil h) fun c h' O => ?_
  simp only [nn_some, pt_add, Nat.zero_add, Nat.add_zero, Nat.reduceAdd, Nat.reduceMul, Int.toNat_zero, Int.toNat_one, Nat.zero_mul, Nat.one_mul]
  refine O.ld 0 rfl (ldL_c (k := .sl) (x := a) (ldL_n ?_))
  have V := V1.kept O.kept
  rw [V.len]
  unfold whichN at k
  refine brr_ne (fun e => ?_) (fun e => ?_)
  · rw [if_neg (by omega)] at k
    exact k _ O.kept
  · have e : xs.length = 2 := by omega
    rw [if_pos e] at k
    refine O.ld 0 rfl (ldL_c (k := .sl) (x := a) (ldL_n ?_))
    refine Bytes.at V (by decide) (by omega) fun c0 hc0 => ?_
    refine O.ld 0 rfl (ldL_c (k := .sl) (x := a) (ldL_n ?_))
    refine Bytes.at V (by decide) (by omega) fun c1 hc1 => ?_
    have l0 := c0.toNat_lt; have l1 := c1.toNat_lt
    have g0 : xs.getD 0 0 = c0 := by
      have hc0 : xs[0]? = some c0 := hc0
      rw [List.getD_eq_getElem?_getD, hc0]; rfl
    have g1 : xs.getD 1 0 = c1 := by
      have hc1 : xs[1]? = some c1 := hc1
      rw [List.getD_eq_getElem?_getD, hc1]; rfl
    rw [g0, g1] at k
    rw [wrap64 (x := (c1.toNat : Int)) (by omega) (by omega), wrap64 (x := (c0.toNat : Int)) (by omega) (by omega), wrap64 (x := 256 * (c1.toNat : Int)) (by omega) (by omega), wrap64 (by omega) (by omega)]
    exact k _ O.kept
theorem F_law6_tag.is {i : Nat} {Q : Sl → Heap → Prop} (hi : i < 65536) (O : Sat h0 h L) (k : ∀ s h', Sat h0 h' (buf 1 u8 s (tagB i) :: L) → Q s h') : F_law6_tag i h Q := by
  rw [F_law6_tag.eq_1, F_law6_tag_of.eq_1]
  refine ⟨by decide, ?_⟩
  have e : (i : Int).fdiv (2 ^ min (8 : Int).toNat IntKind.i64.bits) = ((i / 256 : Nat) : Int) := by
    have h : min (8 : Int).toNat IntKind.i64.bits = 8 := by decide
    rw [h, Int.fdiv_eq_ediv_of_nonneg _ (by decide)]
    omega
  rw [e, wrap8N, wrap8N]
  refine O.al fun b h O => ?_
  have O : Sat h0 h (own b ((tagB i).flatMap u8 ++ []) :: L) := O
  exact k _ _ (O.own_buf (k := 0) (sz := 1) rfl).bufsI
theorem F_law6_lives.is {Q : Bool → Heap → Prop} (O : Sat h0 h L) (k : ∀ h', Sat h0 h' L → Q true h') : F_law6_lives h Q := by
  rw [F_law6_lives.eq_1, F_law6_lives_of.eq_1]
  refine F_net_New.is O (fun x => absurd ⟨by decide, by decide⟩ x) fun _ _ p h O => ?_
  have O : Sat h0 h (netR p ⟨[], 1, 0⟩ :: L) := O
  refine jn1 (fun z h' => z = false ∧ Sat h0 h' (netR p ⟨[(3, [120])], 1, 1⟩ :: L)) ?_ ?_
  case refine_2 =>
    intro j hj
    rw [F_law6_num.eq_1, F_law6_num_of.eq_1]
    refine brr_ff rfl ?_
    refine brr_ff rfl ?_
    refine O.al fun a h O => ?_
    refine O.frz fun h O => ?_
    have O := lit_buf (x := 120) O
    have V1 := (O.view 0 u8_len (by simp) rfl).1
    refine F_net_Net_Send.is ⟨by decide, by decide, by decide⟩ V1 O.swap fun h O => ?_
    have O : Sat h0 h (netR p ⟨[(3, [120])], 1, 0⟩ :: _) := O
    refine brr_ff rfl ?_
    refine F_net_Net_Send.is ⟨by decide, by decide, by decide⟩ (View.nil (p := none) (c := 0)) O fun h O => ?_
    have O : Sat h0 h (netR p ⟨[(3, [120])], 1, 1⟩ :: _) := O
    refine brr_ff rfl ?_
    refine F_net_Net_Lost.is O ?_
    exact hj _ _ ⟨rfl, O.swap.drop⟩
  clear O
  rintro z h ⟨rfl, O⟩
  refine brr_ff rfl ?_
  simp only [nn_some, pt_add, Nat.zero_add, Nat.add_zero, Nat.reduceAdd, Nat.reduceMul, Int.toNat_zero, Int.toNat_one, Nat.zero_mul, Nat.one_mul]
  refine F_net_row_Take.is (i := 0) (by decide) ⟨by decide, by decide, by decide⟩ O fun s h O => ?_
  have O : Sat h0 h (buf 1 u8 s [120] :: netR p ⟨[], 1, 1⟩ :: L) := O
  refine O.al fun a h O => ?_
  refine O.st 0 rfl (by simp) rfl fun h O => ?_
  dsimp only [V.put, List.set] at O
  refine jn1 (fun z h' => z = true ∧ Sat h0 h' L) (fun z h' ⟨e, O⟩ => e ▸ k h' O) fun j hj => ?_
  refine brr_tt rfl ?_
  refine O.ld 0 rfl (ldL_c (ldL_c (k := .sl) (x := s) (ldL_n ?_)))
  refine O.al fun b h O => ?_
  refine O.frz fun h O => ?_
  have O := lit_buf (x := 120) O
  refine F_law6_same.is (xs := [120]) (ys := [120]) (O.view 2 u8_len (by simp) rfl).1 (O.view 0 u8_len (by simp) rfl).1 (by decide) (by decide) fun h' kk => ?_
  have O := O.kept2 kk
  refine brr_tt (by rfl) ?_
  have O := O.drop.drop.drop
  refine F_net_row_Len.is O ?_
  exact hj _ _ ⟨rfl, O.drop⟩
end
def mkM (x : Nat) : NM := (((x % 7 : Nat) : Int), tagB x)
def mkL (row : List Nat) : List NM := row.map mkM
abbrev tyMove : Ty := .cons (.int .i64) (.cons (.int .i64) .nil)
abbrev tyNetRun : Ty := .cons (.int .i64) (.cons (.sl 2 16 tyMove) .nil)
def movE (m : Int × Int) : List Value := [.int .i64 m.1, .int .i64 m.2]
def movR (m : Int × Int) (cs : List Value) : Prop := cs = movE m ∧ IntKind.i64.min ≤ m.2 ∧ m.2 ≤ IntKind.i64.max
theorem SlN.moves {h : Heap} {N : Nat} {s : Sl} (S : SlN h N 2 16 s fun cs => Fit h N tyMove cs) : ∃ l : List (Int × Int), View h 2 movR s l ∧ l.length ≤ N := by
  obtain ⟨h1, h2, _, xs, V⟩ := S.view movR (fun cs F => by
    obtain ⟨_, _, rfl, _, ⟨t1, rfl, t1a, t1b⟩, _, _, rfl, _, ⟨t2, rfl, t2a, t2b⟩, rfl⟩ := F
    exact ⟨(t1, t2), rfl, t2a, t2b⟩)
  exact ⟨xs, V, by rw [← V.len]; omega⟩
section
variable {h0 h : Heap} {L : List Res} {p : Nat}
theorem F_law6_drains.is {s : Sl} {row : List Nat} {room lost : Nat} {Q : Bool → Heap → Prop} (hr : room ≤ 8192) (hlo : lost ≤ 1000000) (hl : row.length ≤ room) (hx : ∀ x ∈ row, x < 300) (O : Sat h0 h (netR p ⟨mkL row, room, lost⟩ :: buf 1 natc s row :: L)) (k : ∀ h', Sat h0 h' L → Q true h') : F_law6_drains (some (pt p 0)) s h Q := by
  rw [F_law6_drains.eq_1, F_law6_drains_of.eq_1]
  refine jn0 (fun h' => Sat h0 h' (netR p ⟨[], room, lost⟩ :: buf 1 natc s row :: L)) ?_ ?_
  · clear O
    intro h O
    simp only [nn_some, pt_add, Nat.zero_add, Nat.add_zero, Nat.reduceAdd, Nat.reduceMul, Int.toNat_zero, Int.toNat_one, Nat.zero_mul, Nat.one_mul]
    refine F_net_row_Look.is O fun t h O => ?_
    have O := O.drop
    refine O.al fun a h O => ?_
    refine O.st 0 rfl (by simp) rfl fun h O => ?_
    dsimp only [V.put, List.set] at O
    refine jn1 (fun z h' => z = true ∧ Sat h0 h' L) (fun z h' ⟨e, O⟩ => e ▸ k h' O) fun j hj => ?_
    refine brr_tt rfl ?_
    refine F_net_row_Len.is O.drop ?_
    exact hj _ _ ⟨rfl, O.drop.drop.drop⟩
  · intro j3 hj3
    rw [F_law6_drains.l1.eq_1]
    simp only [nn_some, pt_add, Nat.zero_add, Nat.add_zero, Nat.reduceAdd, Nat.reduceMul, Int.toNat_zero, Int.toNat_one, Nat.zero_mul, Nat.one_mul]
    refine wl1 (k := .int .i64) (fun (m : Nat) (i : Int) (h' : Heap) => 0 ≤ i ∧ i + m = row.length ∧ Sat h0 h' (netR p ⟨mkL (row.drop i.toNat), room, lost⟩ :: buf 1 natc s row :: L)) ?_ (m := row.length) ⟨by omega, by omega, O⟩
    clear O
    rintro m (i : Int) h next hn ⟨hi0, him, O⟩
    have hv := O.view 1 natc_len (by simp) rfl
    rw [hv.1.len]
    refine brr_p (fun hlt => ?_) (fun hlt => ?_)
    case refine_2 =>
      rw [List.drop_eq_nil_of_le (by omega)] at O
      exact hj3 _ O
    have hil : i.toNat < row.length := by omega
    have ed : row.drop i.toNat = row[i.toNat] :: row.drop (i.toNat + 1) := List.drop_eq_getElem_cons hil
    have hgx := hx _ (List.getElem_mem hil)
    have hg : row[i.toNat]? = some row[i.toNat] := List.getElem?_eq_getElem hil
    rw [ed] at O
    generalize row[i.toNat] = x at *
    have hdl : (mkL (row.drop (i.toNat + 1))).length ≤ room - 1 := by unfold mkL; rw [List.length_map, List.length_drop]; omega
    have hat : NS.at_ ⟨mkL (x :: row.drop (i.toNat + 1)), room, lost⟩ 0 = mkM x := by unfold NS.at_ NS.has mkL; simp
    have hhas : NS.has ⟨mkL (x :: row.drop (i.toNat + 1)), room, lost⟩ 0 = true := by unfold NS.has mkL; simp
    have hdr : NS.drop ⟨mkL (x :: row.drop (i.toNat + 1)), room, lost⟩ 0 = ⟨mkL (row.drop (i.toNat + 1)), room, lost⟩ := by
      unfold NS.drop
      rw [hhas]
      rfl
    refine F_net_row_Take.is (i := 0) (by decide) ⟨by show (mkL (x :: row.drop (i.toNat + 1))).length ≤ room; unfold mkL at hdl ⊢; rw [List.map_cons, List.length_cons]; omega, hr, hlo⟩ O fun t h O => ?_
    rw [hat, hdr] at O
    rw [hat, hhas]
    refine O.al fun a h O => ?_
    refine O.st 0 rfl (by simp) rfl fun h O => ?_
    dsimp only [V.put, List.set] at O
    refine jn1 (fun z h' => z = false ∧ Sat h0 h' (netR p ⟨mkL (row.drop (i.toNat + 1)), room, lost⟩ :: buf 1 natc s row :: L)) ?_ ?_
    · clear O
      rintro z h ⟨rfl, O⟩
      refine brr_ff rfl ?_
      rw [wrap64 (by omega) (by omega)]
      refine hn (m - 1) _ _ (by omega) ⟨by omega, by omega, ?_⟩
      rw [show (i + 1).toNat = i.toNat + 1 by omega]
      exact O
    · intro j hj
      refine brr_ff rfl ?_
      refine O.ld 0 rfl (ldL_c (ldL_c (k := .sl) (x := t) (ldL_n ?_)))
      have hv := O.view 3 natc_len (by simp) rfl
      refine hv.1.getP hi0 hg fun c hca => ?_
      refine ld_are (hca hv.1) (ldL_c (ldL_n ?_))
      refine F_law6_which.is (O.view 1 u8_len (by simp) rfl).1 fun h' kk => ?_
      have O := O.kept2 kk
      have hv := O.view 3 natc_len (by simp) rfl
      refine ⟨hca hv.1, ?_⟩
      rw [show whichN (mkM x).2 = (x : Int) from whichN_tagB (by omega)]
      refine brr_ne (fun e => absurd rfl e) (fun _ => ?_)
      refine O.ld 0 rfl (ldL_c (ldL_n ?_))
      refine hv.1.getP hi0 hg fun c hca => ?_
      refine ld_are (hca hv.1) (ldL_c (ldL_n ?_))
      refine ⟨by decide, ?_⟩
      refine hj _ _ ⟨?_, O.drop.drop⟩
      have : (mkM x).1 = (x : Int).tmod 7 := by
        show ((x % 7 : Nat) : Int) = _
        rw [Int.tmod_eq_emod_of_nonneg (by omega)]; omega
      rw [this]; simp
end
end Go.Proofs.Ytboidjampddfoaa.V
namespace Go.Proofs.Ytboidjampddfoaa.V
open Go Go.RowKit
set_option linter.unusedVariables false
set_option maxRecDepth 100000
def F_law1_at_of  (n1 k2 : Int) (h : Heap) (Q : Int → Heap → Prop) : Prop :=
  (2 : Int) ≠ 0 ∧
  brr ((k2.tmod 2) == 0)
  ((251 : Int) ≠ 0 ∧
  Q (IntKind.u8.wrap (IntKind.i64.wrap (1 + (n1.tmod 251)))) h)
  ((251 : Int) ≠ 0 ∧
  (251 : Int) ≠ 0 ∧
  Q (IntKind.u8.wrap (IntKind.i64.wrap (1 + ((IntKind.i64.wrap ((IntKind.i64.wrap (7 * n1)) + (IntKind.i64.wrap (n1.tdiv 251)))).tmod 251)))) h)
def F_law1_at (n1 k2 : Int) (h : Heap) (Q : Int → Heap → Prop) : Prop := F_law1_at_of  n1 k2 h Q
def plan121 : Plan := .s (.r [0, 1]) (.s (.s (.r [0, 7]) (.c (.s (.r [4]) .z) .z)) (.s (.r [4]) .z))
theorem F_law1_at.eq  (n1 k2 : Int) (h : Heap) (K : Value → Heap → Prop) : F_law1_at_of  n1 k2 h (fun (r0 : Int) (h : Heap) => K (.int .u8 r0) h) =
    den Try.prog noFns Try.f121.ntmps plan121 (bodyOf Try.f121) (args0 0 [(.int .i64 n1 : Value), (.int .i64 k2 : Value)]) h ⟨fun env h => dRes Try.prog Try.f121.results.toList env h K, fun _ _ _ => False, fun env h => dRes Try.prog Try.f121.results.toList env h K⟩ := by kernel_rfl
def E_law1_at_of (f : Int → Int → Heap → (Int → Heap → Prop) → Prop) : List Value → Heap → (Value → Heap → Prop) → Prop
  | [v0, v1], h, K => dec1 (.int .i64) v0 fun (n1 : Int) =>
  dec1 (.int .i64) v1 fun (k2 : Int) =>
  f n1 k2 h (fun (r0 : Int) (h : Heap) => K (.int .u8 r0) h)
  | _, _, _ => False
abbrev E_law1_at := E_law1_at_of F_law1_at
theorem E_law1_at.right : IsRight Try.prog 121 E_law1_at := by
  refine isRight fun vs K w hh => ?_
  match vs, hh with
  | [v0, v1], hh =>
    unfold E_law1_at E_law1_at_of at hh
    replace hh := dec1_sound hh; obtain ⟨n1, rfl, hh⟩ := hh
    replace hh := dec1_sound hh; obtain ⟨k2, rfl, hh⟩ := hh
    unfold F_law1_at at hh
    exact calls_den noFns_right plan121 _ w K Try.func121 (by kernel_rfl) (by kernel_rfl) (Eq.mp (F_law1_at.eq  n1 k2 w.heap K) hh)
theorem ok121 : okFn Try.prog 121 = true := by kernel_rfl
end Go.Proofs.Ytboidjampddfoaa.V
namespace Go.Proofs.Ytboidjampddfoaa.V
open Go Go.RowKit
set_option linter.unusedVariables false
set_option maxRecDepth 100000
def F_law1_two_of (f121_ : Int → Int → Heap → (Int → Heap → Prop) → Prop) (x1 : Sl) (m2 : Int) (h : Heap) (Q : Bool → Heap → Prop) : Prop :=
  jn [(4, .one .bool)] (fun (x12 : Bool) (h13 : Heap) =>
  Q x12 h13) (fun (j3 : Bool → Heap → Prop) =>
  brr (((x1.len : Nat) : Int) == 2)
  (ixS 1 x1 0 fun (a4 : Addr) =>
  ld [.int .u8] a4 h fun (v5 : Int) =>
  f121_ m2 0 h fun (r6 : Int) (h7 : Heap) =>
  cellsAre h7 a4 [.int .u8 v5] ∧
  brr (v5 == r6)
  (ixS 1 x1 1 fun (a8 : Addr) =>
  ld [.int .u8] a8 h7 fun (v9 : Int) =>
  f121_ m2 1 h7 fun (r10 : Int) (h11 : Heap) =>
  cellsAre h11 a8 [.int .u8 v9] ∧
  j3 (v9 == r10) h11)
  (j3 false h7))
  (j3 false h))
def F_law1_two (x1 : Sl) (m2 : Int) (h : Heap) (Q : Bool → Heap → Prop) : Prop := F_law1_two_of F_law1_at x1 m2 h Q
def plan123 : Plan := .s (.r [0, 1]) (.s (.dj [0, 1, 3, 7, 15, 31, 63, 15, 143, 511, 1023, 2047, 4095, 8191, 16383, 4095, 36863, 131071, 262143, 524287] [[0, 1, 2, 3, 4, 5, 6, 7, 8, 9, 10, 11, 12, 13, 14, 15, 16, 17, 18, 19]] [(4, .one .bool)] []) .z)
theorem F_law1_two.eq (f121_ : Int → Int → Heap → (Int → Heap → Prop) → Prop) (x1 : Sl) (m2 : Int) (h : Heap) (K : Value → Heap → Prop) : F_law1_two_of f121_ x1 m2 h (fun (r0 : Bool) (h : Heap) => K (.bool r0) h) =
    den Try.prog (fn1 121 (E_law1_at_of f121_) noFns) Try.f123.ntmps plan123 (bodyOf Try.f123) (args0 0 [(.slice x1.ptr x1.len x1.cap : Value), (.int .i64 m2 : Value)]) h ⟨fun env h => dRes Try.prog Try.f123.results.toList env h K, fun _ _ _ => False, fun env h => dRes Try.prog Try.f123.results.toList env h K⟩ := by kernel_rfl
def E_law1_two_of (f : Sl → Int → Heap → (Bool → Heap → Prop) → Prop) : List Value → Heap → (Value → Heap → Prop) → Prop
  | [v0, v1], h, K => dec1 .sl v0 fun (x1 : Sl) =>
  dec1 (.int .i64) v1 fun (m2 : Int) =>
  f x1 m2 h (fun (r0 : Bool) (h : Heap) => K (.bool r0) h)
  | _, _, _ => False
abbrev E_law1_two := E_law1_two_of F_law1_two
theorem E_law1_two.right : IsRight Try.prog 123 E_law1_two := by
  refine isRight fun vs K w hh => ?_
  match vs, hh with
  | [v0, v1], hh =>
    unfold E_law1_two E_law1_two_of at hh
    replace hh := dec1_sound hh; obtain ⟨x1, rfl, hh⟩ := hh
    replace hh := dec1_sound hh; obtain ⟨m2, rfl, hh⟩ := hh
    unfold F_law1_two at hh
    exact calls_den (fn1_right ok121 E_law1_at.right noFns_right) plan123 _ w K Try.func123 (by kernel_rfl) (by kernel_rfl) (Eq.mp (F_law1_two.eq F_law1_at x1 m2 w.heap K) hh)
theorem ok123 : okFn Try.prog 123 = true := by kernel_rfl
end Go.Proofs.Ytboidjampddfoaa.V
namespace Go.Proofs.Ytboidjampddfoaa.V
open Go Go.RowKit
set_option linter.unusedVariables false
set_option maxRecDepth 100000
def F_law1_Book_plain.l1 (f121_ : Int → Int → Heap → (Int → Heap → Prop) → Prop) (b1 : Option Addr) (Q : Bool → Heap → Prop) (i4 : Int) (j9 : Heap → Prop) : Int → Heap → Prop :=
  wl [(4, .one (.int .i64))] (fun (next10 : Int → Heap → Prop) (k11 : Int) (h12 : Heap) =>
  nn b1 fun (a13 : Addr) =>
  ld [.sl] (a13.add 0) h12 fun (v14 : Sl) =>
  ixS 1 v14 i4 fun (a15 : Addr) =>
  ld [.sl] a15 h12 fun (v16 : Sl) =>
  brr (decide (k11 < ((v16.len : Nat) : Int)))
  (nn b1 fun (a17 : Addr) =>
  ld [.sl] (a17.add 0) h12 fun (v18 : Sl) =>
  ixS 1 v18 i4 fun (a19 : Addr) =>
  ld [.sl] a19 h12 fun (v20 : Sl) =>
  ixS 1 v20 k11 fun (a21 : Addr) =>
  ld [.int .u8] a21 h12 fun (v22 : Int) =>
  nn b1 fun (a23 : Addr) =>
  ld [.sl] (a23.add 1) h12 fun (v24 : Sl) =>
  ixS 1 v24 i4 fun (a25 : Addr) =>
  ld [.int .i64] a25 h12 fun (v26 : Int) =>
  f121_ v26 k11 h12 fun (r27 : Int) (h28 : Heap) =>
  cellsAre h28 (a17.add 0) [.slice v18.ptr v18.len v18.cap] ∧
  cellsAre h28 a19 [.slice v20.ptr v20.len v20.cap] ∧
  cellsAre h28 a21 [.int .u8 v22] ∧
  brr (v22 != r27)
  (Q false h28)
  (next10 (IntKind.i64.wrap (k11 + 1)) h28))
  (j9 h12))
def F_law1_Book_plain.l2 (f121_ : Int → Int → Heap → (Int → Heap → Prop) → Prop) (b1 : Option Addr) (Q : Bool → Heap → Prop) (j2 : Heap → Prop) : Int → Heap → Prop :=
  wl [(3, .one (.int .i64))] (fun (next3 : Int → Heap → Prop) (i4 : Int) (h5 : Heap) =>
  nn b1 fun (a6 : Addr) =>
  ld [.sl] (a6.add 0) h5 fun (v7 : Sl) =>
  brr (decide (i4 < ((v7.len : Nat) : Int)))
  (jn [] (fun  (h30 : Heap) =>
  next3 (IntKind.i64.wrap (i4 + 1)) h30) (fun (j8 : Heap → Prop) =>
  jn [] (fun  (h29 : Heap) =>
  j8 h29) (fun (j9 : Heap → Prop) =>
  F_law1_Book_plain.l1 f121_ b1 Q i4 j9 0 h5)))
  (j2 h5))
def F_law1_Book_plain.l3 (f123_ : Sl → Int → Heap → (Bool → Heap → Prop) → Prop) (b1 : Option Addr) (Q : Bool → Heap → Prop) (i34 : Int) (j39 : Heap → Prop) : Int → Heap → Prop :=
  wl [(6, .one (.int .i64))] (fun (next40 : Int → Heap → Prop) (k41 : Int) (h42 : Heap) =>
  nn b1 fun (a43 : Addr) =>
  ld [.sl] (a43.add 3) h42 fun (v44 : Sl) =>
  ixS 1 v44 i34 fun (a45 : Addr) =>
  ld [.sl] a45 h42 fun (v46 : Sl) =>
  brr (decide (k41 < ((v46.len : Nat) : Int)))
  (nn b1 fun (a47 : Addr) =>
  ld [.sl] (a47.add 3) h42 fun (v48 : Sl) =>
  ixS 1 v48 i34 fun (a49 : Addr) =>
  ld [.sl] a49 h42 fun (v50 : Sl) =>
  ixS 1 v50 k41 fun (a51 : Addr) =>
  ld [.sl] a51 h42 fun (v52 : Sl) =>
  nn b1 fun (a53 : Addr) =>
  ld [.sl] (a53.add 4) h42 fun (v54 : Sl) =>
  ixS 1 v54 i34 fun (a55 : Addr) =>
  ld [.int .i64] a55 h42 fun (v56 : Int) =>
  f123_ v52 v56 h42 fun (r57 : Bool) (h58 : Heap) =>
  brr (!r57)
  (Q false h58)
  (next40 (IntKind.i64.wrap (k41 + 1)) h58))
  (j39 h42))
def F_law1_Book_plain.l4 (f123_ : Sl → Int → Heap → (Bool → Heap → Prop) → Prop) (b1 : Option Addr) (Q : Bool → Heap → Prop) (j32 : Heap → Prop) : Int → Heap → Prop :=
  wl [(5, .one (.int .i64))] (fun (next33 : Int → Heap → Prop) (i34 : Int) (h35 : Heap) =>
  nn b1 fun (a36 : Addr) =>
  ld [.sl] (a36.add 3) h35 fun (v37 : Sl) =>
  brr (decide (i34 < ((v37.len : Nat) : Int)))
  (jn [] (fun  (h60 : Heap) =>
  next33 (IntKind.i64.wrap (i34 + 1)) h60) (fun (j38 : Heap → Prop) =>
  jn [] (fun  (h59 : Heap) =>
  j38 h59) (fun (j39 : Heap → Prop) =>
  F_law1_Book_plain.l3 f123_ b1 Q i34 j39 0 h35)))
  (j32 h35))
def F_law1_Book_plain_of (f121_ : Int → Int → Heap → (Int → Heap → Prop) → Prop) (f123_ : Sl → Int → Heap → (Bool → Heap → Prop) → Prop) (b1 : Option Addr) (h : Heap) (Q : Bool → Heap → Prop) : Prop :=
  jn [] (fun  (h31 : Heap) =>
  jn [] (fun  (h61 : Heap) =>
  Q true h61) (fun (j32 : Heap → Prop) =>
  F_law1_Book_plain.l4 f123_ b1 Q j32 0 h31)) (fun (j2 : Heap → Prop) =>
  F_law1_Book_plain.l2 f121_ b1 Q j2 0 h)
def F_law1_Book_plain (b1 : Option Addr) (h : Heap) (Q : Bool → Heap → Prop) : Prop := F_law1_Book_plain_of F_law1_at F_law1_two b1 h Q
def plan96 : Plan := .s (.r [0]) (.s (.s (.r [0, 3]) (.bj [] [0] (.l [(3, .one (.int .i64))] [0] (.s (.s (.r [0, 3, 13]) (.c .z .z)) (.s (.bj [] [0, 3] (.s (.r [0, 3, 4]) (.bj [] [0, 3] (.l [(4, .one (.int .i64))] [0, 3] (.s (.s (.r [0, 3, 4, 25]) (.c .z .z)) (.s (.b (.s (.d [0, 1, 3, 7, 0, 31, 63, 0, 255, 511, 0, 1024, 3072, 7168, 0, 31744, 64512, 0, 261120, 524287] [[0, 1, 2, 3, 4, 5, 6, 7, 8, 9, 10, 11, 12, 13, 14, 15, 16, 17, 18, 19]] [0, 3, 4, 47]) (.c (.s (.r [2]) .z) .z))) (.r [0, 3, 4]))))))) (.r [0, 3])))))) (.s (.s (.r [0, 5]) (.bj [] [] (.l [(5, .one (.int .i64))] [0] (.s (.s (.r [0, 5, 54]) (.c .z .z)) (.s (.bj [] [0, 5] (.s (.r [0, 5, 6]) (.bj [] [0, 5] (.l [(6, .one (.int .i64))] [0, 5] (.s (.s (.r [0, 5, 6, 66]) (.c .z .z)) (.s (.b (.s (.d [0, 1, 3, 7, 0, 31, 63, 0, 255, 511, 0, 1024, 3072, 7168, 0, 31744, 64512, 131071, 262143] [[0, 1, 2, 3, 4, 5, 6, 7, 8, 9, 10, 11, 12, 13, 14, 15, 16, 17, 18]] [0, 5, 6, 87]) (.c (.s (.r [2]) .z) .z))) (.r [0, 5, 6]))))))) (.r [0, 5])))))) (.s (.r [2]) .z)))
theorem F_law1_Book_plain.eq (f121_ : Int → Int → Heap → (Int → Heap → Prop) → Prop) (f123_ : Sl → Int → Heap → (Bool → Heap → Prop) → Prop) (b1 : Option Addr) (h : Heap) (K : Value → Heap → Prop) : F_law1_Book_plain_of f121_ f123_ b1 h (fun (r0 : Bool) (h : Heap) => K (.bool r0) h) =
    den Try.prog (fn1 121 (E_law1_at_of f121_) (fn1 123 (E_law1_two_of f123_) noFns)) Try.f96.ntmps plan96 (bodyOf Try.f96) (args0 0 [(.pointer b1 : Value)]) h ⟨fun env h => dRes Try.prog Try.f96.results.toList env h K, fun _ _ _ => False, fun env h => dRes Try.prog Try.f96.results.toList env h K⟩ := by kernel_rfl
def E_law1_Book_plain_of (f : Option Addr → Heap → (Bool → Heap → Prop) → Prop) : List Value → Heap → (Value → Heap → Prop) → Prop
  | [v0], h, K => dec1 .ptr v0 fun (b1 : Option Addr) =>
  f b1 h (fun (r0 : Bool) (h : Heap) => K (.bool r0) h)
  | _, _, _ => False
abbrev E_law1_Book_plain := E_law1_Book_plain_of F_law1_Book_plain
theorem E_law1_Book_plain.right : IsRight Try.prog 96 E_law1_Book_plain := by
  refine isRight fun vs K w hh => ?_
  match vs, hh with
  | [v0], hh =>
    unfold E_law1_Book_plain E_law1_Book_plain_of at hh
    replace hh := dec1_sound hh; obtain ⟨b1, rfl, hh⟩ := hh
    unfold F_law1_Book_plain at hh
    exact calls_den (fn1_right ok121 E_law1_at.right (fn1_right ok123 E_law1_two.right noFns_right)) plan96 _ w K Try.func96 (by kernel_rfl) (by kernel_rfl) (Eq.mp (F_law1_Book_plain.eq F_law1_at F_law1_two b1 w.heap K) hh)
theorem ok96 : okFn Try.prog 96 = true := by kernel_rfl
end Go.Proofs.Ytboidjampddfoaa.V
namespace Go.Proofs.Ytboidjampddfoaa.V
open Go Go.RowKit
set_option linter.unusedVariables false
set_option maxRecDepth 100000
def F_law1_textsMark_of (f121_ : Int → Int → Heap → (Int → Heap → Prop) → Prop) (m1 : Int) (h : Heap) (Q : ByteArray → Heap → Prop) : Prop :=
  f121_ m1 0 h fun (r2 : Int) (h3 : Heap) =>
  f121_ m1 1 h3 fun (r4 : Int) (h5 : Heap) =>
  al 5 [.int .u8 r2, .int .u8 r4, .int .u8 33] h5 fun (a6 : Addr) (h7 : Heap) =>
  b2s (some a6) 3 h7 fun (s8 : ByteArray) =>
  Q s8 h7
def F_law1_textsMark (m1 : Int) (h : Heap) (Q : ByteArray → Heap → Prop) : Prop := F_law1_textsMark_of F_law1_at m1 h Q
def plan124 : Plan := .s (.r [0]) (.s (.r [2]) .z)
theorem F_law1_textsMark.eq (f121_ : Int → Int → Heap → (Int → Heap → Prop) → Prop) (m1 : Int) (h : Heap) (K : Value → Heap → Prop) : F_law1_textsMark_of f121_ m1 h (fun (r0 : ByteArray) (h : Heap) => K (.string r0) h) =
    den Try.prog (fn1 121 (E_law1_at_of f121_) noFns) Try.f124.ntmps plan124 (bodyOf Try.f124) (args0 0 [(.int .i64 m1 : Value)]) h ⟨fun env h => dRes Try.prog Try.f124.results.toList env h K, fun _ _ _ => False, fun env h => dRes Try.prog Try.f124.results.toList env h K⟩ := by kernel_rfl
def E_law1_textsMark_of (f : Int → Heap → (ByteArray → Heap → Prop) → Prop) : List Value → Heap → (Value → Heap → Prop) → Prop
  | [v0], h, K => dec1 (.int .i64) v0 fun (m1 : Int) =>
  f m1 h (fun (r0 : ByteArray) (h : Heap) => K (.string r0) h)
  | _, _, _ => False
abbrev E_law1_textsMark := E_law1_textsMark_of F_law1_textsMark
theorem E_law1_textsMark.right : IsRight Try.prog 124 E_law1_textsMark := by
  refine isRight fun vs K w hh => ?_
  match vs, hh with
  | [v0], hh =>
    unfold E_law1_textsMark E_law1_textsMark_of at hh
    replace hh := dec1_sound hh; obtain ⟨m1, rfl, hh⟩ := hh
    unfold F_law1_textsMark at hh
    exact calls_den (fn1_right ok121 E_law1_at.right noFns_right) plan124 _ w K Try.func124 (by kernel_rfl) (by kernel_rfl) (Eq.mp (F_law1_textsMark.eq F_law1_at m1 w.heap K) hh)
theorem ok124 : okFn Try.prog 124 = true := by kernel_rfl
end Go.Proofs.Ytboidjampddfoaa.V
namespace Go.Proofs.Ytboidjampddfoaa.V
open Go Go.RowKit
set_option linter.unusedVariables false
set_option maxRecDepth 100000
def F_law1_intsMark_of  (m1 : Int) (h : Heap) (Q : Int → Heap → Prop) : Prop :=
  Q (IntKind.i64.wrap (1000 + m1)) h
def F_law1_intsMark (m1 : Int) (h : Heap) (Q : Int → Heap → Prop) : Prop := F_law1_intsMark_of  m1 h Q
def plan125 : Plan := .s (.r [0]) (.s (.r [2]) .z)
theorem F_law1_intsMark.eq  (m1 : Int) (h : Heap) (K : Value → Heap → Prop) : F_law1_intsMark_of  m1 h (fun (r0 : Int) (h : Heap) => K (.int .i64 r0) h) =
    den Try.prog noFns Try.f125.ntmps plan125 (bodyOf Try.f125) (args0 0 [(.int .i64 m1 : Value)]) h ⟨fun env h => dRes Try.prog Try.f125.results.toList env h K, fun _ _ _ => False, fun env h => dRes Try.prog Try.f125.results.toList env h K⟩ := by kernel_rfl
def E_law1_intsMark_of (f : Int → Heap → (Int → Heap → Prop) → Prop) : List Value → Heap → (Value → Heap → Prop) → Prop
  | [v0], h, K => dec1 (.int .i64) v0 fun (m1 : Int) =>
  f m1 h (fun (r0 : Int) (h : Heap) => K (.int .i64 r0) h)
  | _, _, _ => False
abbrev E_law1_intsMark := E_law1_intsMark_of F_law1_intsMark
theorem E_law1_intsMark.right : IsRight Try.prog 125 E_law1_intsMark := by
  refine isRight fun vs K w hh => ?_
  match vs, hh with
  | [v0], hh =>
    unfold E_law1_intsMark E_law1_intsMark_of at hh
    replace hh := dec1_sound hh; obtain ⟨m1, rfl, hh⟩ := hh
    unfold F_law1_intsMark at hh
    exact calls_den noFns_right plan125 _ w K Try.func125 (by kernel_rfl) (by kernel_rfl) (Eq.mp (F_law1_intsMark.eq  m1 w.heap K) hh)
theorem ok125 : okFn Try.prog 125 = true := by kernel_rfl
end Go.Proofs.Ytboidjampddfoaa.V
namespace Go.Proofs.Ytboidjampddfoaa.V
open Go Go.RowKit
set_option linter.unusedVariables false
set_option maxRecDepth 100000
def F_law1_wordsMark_of  (m1 : Int) (h : Heap) (Q : Int → Heap → Prop) : Prop :=
  0 ≤ (20 : Int) ∧
  Q (IntKind.u64.wrap ((IntKind.u64.wrap m1) * 2 ^ min (20 : Int).toNat IntKind.u64.bits)) h
def F_law1_wordsMark (m1 : Int) (h : Heap) (Q : Int → Heap → Prop) : Prop := F_law1_wordsMark_of  m1 h Q
def plan126 : Plan := .s (.r [0]) (.s (.r [2]) .z)
theorem F_law1_wordsMark.eq  (m1 : Int) (h : Heap) (K : Value → Heap → Prop) : F_law1_wordsMark_of  m1 h (fun (r0 : Int) (h : Heap) => K (.int .u64 r0) h) =
    den Try.prog noFns Try.f126.ntmps plan126 (bodyOf Try.f126) (args0 0 [(.int .i64 m1 : Value)]) h ⟨fun env h => dRes Try.prog Try.f126.results.toList env h K, fun _ _ _ => False, fun env h => dRes Try.prog Try.f126.results.toList env h K⟩ := by kernel_rfl
def E_law1_wordsMark_of (f : Int → Heap → (Int → Heap → Prop) → Prop) : List Value → Heap → (Value → Heap → Prop) → Prop
  | [v0], h, K => dec1 (.int .i64) v0 fun (m1 : Int) =>
  f m1 h (fun (r0 : Int) (h : Heap) => K (.int .u64 r0) h)
  | _, _, _ => False
abbrev E_law1_wordsMark := E_law1_wordsMark_of F_law1_wordsMark
theorem E_law1_wordsMark.right : IsRight Try.prog 126 E_law1_wordsMark := by
  refine isRight fun vs K w hh => ?_
  match vs, hh with
  | [v0], hh =>
    unfold E_law1_wordsMark E_law1_wordsMark_of at hh
    replace hh := dec1_sound hh; obtain ⟨m1, rfl, hh⟩ := hh
    unfold F_law1_wordsMark at hh
    exact calls_den noFns_right plan126 _ w K Try.func126 (by kernel_rfl) (by kernel_rfl) (Eq.mp (F_law1_wordsMark.eq  m1 w.heap K) hh)
theorem ok126 : okFn Try.prog 126 = true := by kernel_rfl
end Go.Proofs.Ytboidjampddfoaa.V
namespace Go.Proofs.Ytboidjampddfoaa.V
open Go Go.RowKit
set_option linter.unusedVariables false
set_option maxRecDepth 100000
def F_law1_donesMark_of  (m1 : Int) (h : Heap) (Q : Int → Int → Int → Int → Int → Heap → Prop) : Prop :=
  al 176 [.int .i64 0, .int .u64 0, .int .i64 0, .int .i64 0, .int .u64 0] h fun (a2 : Addr) (h3 : Heap) =>
  0 ≤ (20 : Int) ∧
  st a2 [.int .i64 0, .int .u64 (IntKind.u64.wrap ((IntKind.u64.wrap m1) * 2 ^ min (20 : Int).toNat IntKind.u64.bits)), .int .i64 0, .int .i64 0, .int .u64 0] h3 fun (h4 : Heap) =>
  ld [.int .i64, .int .u64, .int .i64, .int .i64, .int .u64] a2 h4 fun (v5 v6 v7 v8 v9 : Int) =>
  Q v5 v6 v7 v8 v9 h4
def F_law1_donesMark (m1 : Int) (h : Heap) (Q : Int → Int → Int → Int → Int → Heap → Prop) : Prop := F_law1_donesMark_of  m1 h Q
def plan127 : Plan := .s (.r [0, 2]) (.s (.r [2]) .z)
theorem F_law1_donesMark.eq  (m1 : Int) (h : Heap) (K : Value → Heap → Prop) : F_law1_donesMark_of  m1 h (fun (r0 r1 r2 r3 r4 : Int) (h : Heap) => K (.agg #[.int .i64 r0, .int .u64 r1, .int .i64 r2, .int .i64 r3, .int .u64 r4]) h) =
    den Try.prog noFns Try.f127.ntmps plan127 (bodyOf Try.f127) (args0 0 [(.int .i64 m1 : Value)]) h ⟨fun env h => dRes Try.prog Try.f127.results.toList env h K, fun _ _ _ => False, fun env h => dRes Try.prog Try.f127.results.toList env h K⟩ := by kernel_rfl
def E_law1_donesMark_of (f : Int → Heap → (Int → Int → Int → Int → Int → Heap → Prop) → Prop) : List Value → Heap → (Value → Heap → Prop) → Prop
  | [v0], h, K => dec1 (.int .i64) v0 fun (m1 : Int) =>
  f m1 h (fun (r0 r1 r2 r3 r4 : Int) (h : Heap) => K (.agg #[.int .i64 r0, .int .u64 r1, .int .i64 r2, .int .i64 r3, .int .u64 r4]) h)
  | _, _, _ => False
abbrev E_law1_donesMark := E_law1_donesMark_of F_law1_donesMark
theorem E_law1_donesMark.right : IsRight Try.prog 127 E_law1_donesMark := by
  refine isRight fun vs K w hh => ?_
  match vs, hh with
  | [v0], hh =>
    unfold E_law1_donesMark E_law1_donesMark_of at hh
    replace hh := dec1_sound hh; obtain ⟨m1, rfl, hh⟩ := hh
    unfold F_law1_donesMark at hh
    exact calls_den noFns_right plan127 _ w K Try.func127 (by kernel_rfl) (by kernel_rfl) (Eq.mp (F_law1_donesMark.eq  m1 w.heap K) hh)
theorem ok127 : okFn Try.prog 127 = true := by kernel_rfl
end Go.Proofs.Ytboidjampddfoaa.V
namespace Go.Proofs.Ytboidjampddfoaa.V
open Go Go.RowKit
set_option linter.unusedVariables false
set_option maxRecDepth 100000
def F_law1_Book_kept.l1 (f124_ : Int → Heap → (ByteArray → Heap → Prop) → Prop) (b1 : Option Addr) (Q : Bool → Heap → Prop) (i4 : Int) (j9 : Heap → Prop) : Int → Heap → Prop :=
  wl [(4, .one (.int .i64))] (fun (next10 : Int → Heap → Prop) (k11 : Int) (h12 : Heap) =>
  nn b1 fun (a13 : Addr) =>
  ld [.sl] (a13.add 6) h12 fun (v14 : Sl) =>
  ixS 1 v14 i4 fun (a15 : Addr) =>
  ld [.sl] a15 h12 fun (v16 : Sl) =>
  brr (decide (k11 < ((v16.len : Nat) : Int)))
  (nn b1 fun (a17 : Addr) =>
  ld [.sl] (a17.add 6) h12 fun (v18 : Sl) =>
  ixS 1 v18 i4 fun (a19 : Addr) =>
  ld [.sl] a19 h12 fun (v20 : Sl) =>
  ixS 1 v20 k11 fun (a21 : Addr) =>
  ld [.str] a21 h12 fun (v22 : ByteArray) =>
  nn b1 fun (a23 : Addr) =>
  ld [.sl] (a23.add 7) h12 fun (v24 : Sl) =>
  ixS 1 v24 i4 fun (a25 : Addr) =>
  ld [.int .i64] a25 h12 fun (v26 : Int) =>
  f124_ v26 h12 fun (r27 : ByteArray) (h28 : Heap) =>
  cellsAre h28 (a17.add 6) [.slice v18.ptr v18.len v18.cap] ∧
  cellsAre h28 a19 [.slice v20.ptr v20.len v20.cap] ∧
  cellsAre h28 a21 [.string v22] ∧
  brr (!(v22.toList == r27.toList))
  (Q false h28)
  (next10 (IntKind.i64.wrap (k11 + 1)) h28))
  (j9 h12))
def F_law1_Book_kept.l2 (f124_ : Int → Heap → (ByteArray → Heap → Prop) → Prop) (b1 : Option Addr) (Q : Bool → Heap → Prop) (j2 : Heap → Prop) : Int → Heap → Prop :=
  wl [(3, .one (.int .i64))] (fun (next3 : Int → Heap → Prop) (i4 : Int) (h5 : Heap) =>
  nn b1 fun (a6 : Addr) =>
  ld [.sl] (a6.add 6) h5 fun (v7 : Sl) =>
  brr (decide (i4 < ((v7.len : Nat) : Int)))
  (jn [] (fun  (h30 : Heap) =>
  next3 (IntKind.i64.wrap (i4 + 1)) h30) (fun (j8 : Heap → Prop) =>
  jn [] (fun  (h29 : Heap) =>
  j8 h29) (fun (j9 : Heap → Prop) =>
  F_law1_Book_kept.l1 f124_ b1 Q i4 j9 0 h5)))
  (j2 h5))
def F_law1_Book_kept.l3 (f125_ : Int → Heap → (Int → Heap → Prop) → Prop) (b1 : Option Addr) (Q : Bool → Heap → Prop) (i34 : Int) (j39 : Heap → Prop) : Int → Heap → Prop :=
  wl [(6, .one (.int .i64))] (fun (next40 : Int → Heap → Prop) (k41 : Int) (h42 : Heap) =>
  nn b1 fun (a43 : Addr) =>
  ld [.sl] (a43.add 9) h42 fun (v44 : Sl) =>
  ixS 1 v44 i34 fun (a45 : Addr) =>
  ld [.sl] a45 h42 fun (v46 : Sl) =>
  brr (decide (k41 < ((v46.len : Nat) : Int)))
  (nn b1 fun (a47 : Addr) =>
  ld [.sl] (a47.add 9) h42 fun (v48 : Sl) =>
  ixS 1 v48 i34 fun (a49 : Addr) =>
  ld [.sl] a49 h42 fun (v50 : Sl) =>
  ixS 1 v50 k41 fun (a51 : Addr) =>
  ld [.int .i64] a51 h42 fun (v52 : Int) =>
  nn b1 fun (a53 : Addr) =>
  ld [.sl] (a53.add 10) h42 fun (v54 : Sl) =>
  ixS 1 v54 i34 fun (a55 : Addr) =>
  ld [.int .i64] a55 h42 fun (v56 : Int) =>
  f125_ v56 h42 fun (r57 : Int) (h58 : Heap) =>
  cellsAre h58 (a47.add 9) [.slice v48.ptr v48.len v48.cap] ∧
  cellsAre h58 a49 [.slice v50.ptr v50.len v50.cap] ∧
  cellsAre h58 a51 [.int .i64 v52] ∧
  brr (v52 != r57)
  (Q false h58)
  (next40 (IntKind.i64.wrap (k41 + 1)) h58))
  (j39 h42))
def F_law1_Book_kept.l4 (f125_ : Int → Heap → (Int → Heap → Prop) → Prop) (b1 : Option Addr) (Q : Bool → Heap → Prop) (j32 : Heap → Prop) : Int → Heap → Prop :=
  wl [(5, .one (.int .i64))] (fun (next33 : Int → Heap → Prop) (i34 : Int) (h35 : Heap) =>
  nn b1 fun (a36 : Addr) =>
  ld [.sl] (a36.add 9) h35 fun (v37 : Sl) =>
  brr (decide (i34 < ((v37.len : Nat) : Int)))
  (jn [] (fun  (h60 : Heap) =>
  next33 (IntKind.i64.wrap (i34 + 1)) h60) (fun (j38 : Heap → Prop) =>
  jn [] (fun  (h59 : Heap) =>
  j38 h59) (fun (j39 : Heap → Prop) =>
  F_law1_Book_kept.l3 f125_ b1 Q i34 j39 0 h35)))
  (j32 h35))
def F_law1_Book_kept.l5 (f126_ : Int → Heap → (Int → Heap → Prop) → Prop) (b1 : Option Addr) (Q : Bool → Heap → Prop) (i64 : Int) (j69 : Heap → Prop) : Int → Heap → Prop :=
  wl [(8, .one (.int .i64))] (fun (next70 : Int → Heap → Prop) (k71 : Int) (h72 : Heap) =>
  nn b1 fun (a73 : Addr) =>
  ld [.sl] (a73.add 12) h72 fun (v74 : Sl) =>
  ixS 1 v74 i64 fun (a75 : Addr) =>
  ld [.sl] a75 h72 fun (v76 : Sl) =>
  brr (decide (k71 < ((v76.len : Nat) : Int)))
  (nn b1 fun (a77 : Addr) =>
  ld [.sl] (a77.add 12) h72 fun (v78 : Sl) =>
  ixS 1 v78 i64 fun (a79 : Addr) =>
  ld [.sl] a79 h72 fun (v80 : Sl) =>
  ixS 1 v80 k71 fun (a81 : Addr) =>
  ld [.int .u64] a81 h72 fun (v82 : Int) =>
  nn b1 fun (a83 : Addr) =>
  ld [.sl] (a83.add 13) h72 fun (v84 : Sl) =>
  ixS 1 v84 i64 fun (a85 : Addr) =>
  ld [.int .i64] a85 h72 fun (v86 : Int) =>
  f126_ v86 h72 fun (r87 : Int) (h88 : Heap) =>
  cellsAre h88 (a77.add 12) [.slice v78.ptr v78.len v78.cap] ∧
  cellsAre h88 a79 [.slice v80.ptr v80.len v80.cap] ∧
  cellsAre h88 a81 [.int .u64 v82] ∧
  brr (v82 != r87)
  (Q false h88)
  (next70 (IntKind.i64.wrap (k71 + 1)) h88))
  (j69 h72))
def F_law1_Book_kept.l6 (f126_ : Int → Heap → (Int → Heap → Prop) → Prop) (b1 : Option Addr) (Q : Bool → Heap → Prop) (j62 : Heap → Prop) : Int → Heap → Prop :=
  wl [(7, .one (.int .i64))] (fun (next63 : Int → Heap → Prop) (i64 : Int) (h65 : Heap) =>
  nn b1 fun (a66 : Addr) =>
  ld [.sl] (a66.add 12) h65 fun (v67 : Sl) =>
  brr (decide (i64 < ((v67.len : Nat) : Int)))
  (jn [] (fun  (h90 : Heap) =>
  next63 (IntKind.i64.wrap (i64 + 1)) h90) (fun (j68 : Heap → Prop) =>
  jn [] (fun  (h89 : Heap) =>
  j68 h89) (fun (j69 : Heap → Prop) =>
  F_law1_Book_kept.l5 f126_ b1 Q i64 j69 0 h65)))
  (j62 h65))
def F_law1_Book_kept.l7 (f127_ : Int → Heap → (Int → Int → Int → Int → Int → Heap → Prop) → Prop) (b1 : Option Addr) (Q : Bool → Heap → Prop) (i94 : Int) (j99 : Heap → Prop) : Int → Heap → Prop :=
  wl [(10, .one (.int .i64))] (fun (next100 : Int → Heap → Prop) (k101 : Int) (h102 : Heap) =>
  nn b1 fun (a103 : Addr) =>
  ld [.sl] (a103.add 15) h102 fun (v104 : Sl) =>
  ixS 1 v104 i94 fun (a105 : Addr) =>
  ld [.sl] a105 h102 fun (v106 : Sl) =>
  brr (decide (k101 < ((v106.len : Nat) : Int)))
  (nn b1 fun (a107 : Addr) =>
  ld [.sl] (a107.add 15) h102 fun (v108 : Sl) =>
  ixS 1 v108 i94 fun (a109 : Addr) =>
  ld [.sl] a109 h102 fun (v110 : Sl) =>
  ixS 5 v110 k101 fun (a111 : Addr) =>
  ld [.int .i64, .int .u64, .int .i64, .int .i64, .int .u64] a111 h102 fun (v112 v113 v114 v115 v116 : Int) =>
  nn b1 fun (a117 : Addr) =>
  ld [.sl] (a117.add 16) h102 fun (v118 : Sl) =>
  ixS 1 v118 i94 fun (a119 : Addr) =>
  ld [.int .i64] a119 h102 fun (v120 : Int) =>
  f127_ v120 h102 fun (r121 r122 r123 r124 r125 : Int) (h126 : Heap) =>
  cellsAre h126 (a107.add 15) [.slice v108.ptr v108.len v108.cap] ∧
  cellsAre h126 a109 [.slice v110.ptr v110.len v110.cap] ∧
  cellsAre h126 a111 [.int .i64 v112, .int .u64 v113, .int .i64 v114, .int .i64 v115, .int .u64 v116] ∧
  brr (!((v112 == r121) && ((v113 == r122) && ((v114 == r123) && ((v115 == r124) && ((v116 == r125) && (true)))))))
  (Q false h126)
  (next100 (IntKind.i64.wrap (k101 + 1)) h126))
  (j99 h102))
def F_law1_Book_kept.l8 (f127_ : Int → Heap → (Int → Int → Int → Int → Int → Heap → Prop) → Prop) (b1 : Option Addr) (Q : Bool → Heap → Prop) (j92 : Heap → Prop) : Int → Heap → Prop :=
  wl [(9, .one (.int .i64))] (fun (next93 : Int → Heap → Prop) (i94 : Int) (h95 : Heap) =>
  nn b1 fun (a96 : Addr) =>
  ld [.sl] (a96.add 15) h95 fun (v97 : Sl) =>
  brr (decide (i94 < ((v97.len : Nat) : Int)))
  (jn [] (fun  (h128 : Heap) =>
  next93 (IntKind.i64.wrap (i94 + 1)) h128) (fun (j98 : Heap → Prop) =>
  jn [] (fun  (h127 : Heap) =>
  j98 h127) (fun (j99 : Heap → Prop) =>
  F_law1_Book_kept.l7 f127_ b1 Q i94 j99 0 h95)))
  (j92 h95))
def F_law1_Book_kept_of (f124_ : Int → Heap → (ByteArray → Heap → Prop) → Prop) (f125_ : Int → Heap → (Int → Heap → Prop) → Prop) (f126_ : Int → Heap → (Int → Heap → Prop) → Prop) (f127_ : Int → Heap → (Int → Int → Int → Int → Int → Heap → Prop) → Prop) (b1 : Option Addr) (h : Heap) (Q : Bool → Heap → Prop) : Prop :=
  jn [] (fun  (h31 : Heap) =>
  jn [] (fun  (h61 : Heap) =>
  jn [] (fun  (h91 : Heap) =>
  jn [] (fun  (h129 : Heap) =>
  Q true h129) (fun (j92 : Heap → Prop) =>
  F_law1_Book_kept.l8 f127_ b1 Q j92 0 h91)) (fun (j62 : Heap → Prop) =>
  F_law1_Book_kept.l6 f126_ b1 Q j62 0 h61)) (fun (j32 : Heap → Prop) =>
  F_law1_Book_kept.l4 f125_ b1 Q j32 0 h31)) (fun (j2 : Heap → Prop) =>
  F_law1_Book_kept.l2 f124_ b1 Q j2 0 h)
def F_law1_Book_kept (b1 : Option Addr) (h : Heap) (Q : Bool → Heap → Prop) : Prop := F_law1_Book_kept_of F_law1_textsMark F_law1_intsMark F_law1_wordsMark F_law1_donesMark b1 h Q
def plan97 : Plan := .s (.r [0]) (.s (.s (.r [0, 3]) (.bj [] [0] (.l [(3, .one (.int .i64))] [0] (.s (.s (.r [0, 3, 17]) (.c .z .z)) (.s (.bj [] [0, 3] (.s (.r [0, 3, 4]) (.bj [] [0, 3] (.l [(4, .one (.int .i64))] [0, 3] (.s (.s (.r [0, 3, 4, 29]) (.c .z .z)) (.s (.b (.s (.d [0, 1, 3, 7, 0, 31, 63, 0, 255, 511, 0, 1024, 3072, 7168, 0, 31744, 64512, 130048, 262143] [[0, 1, 2, 3, 4, 5, 6, 7, 8, 9, 10, 11, 12, 13, 14, 15, 16, 17, 18]] [0, 3, 4, 50]) (.c (.s (.r [2]) .z) .z))) (.r [0, 3, 4]))))))) (.r [0, 3])))))) (.s (.s (.r [0, 5]) (.bj [] [0] (.l [(5, .one (.int .i64))] [0] (.s (.s (.r [0, 5, 57]) (.c .z .z)) (.s (.bj [] [0, 5] (.s (.r [0, 5, 6]) (.bj [] [0, 5] (.l [(6, .one (.int .i64))] [0, 5] (.s (.s (.r [0, 5, 6, 69]) (.c .z .z)) (.s (.b (.s (.d [0, 1, 3, 7, 0, 31, 63, 0, 255, 511, 0, 1024, 3072, 7168, 0, 31744, 64512, 130048, 262143] [[0, 1, 2, 3, 4, 5, 6, 7, 8, 9, 10, 11, 12, 13, 14, 15, 16, 17, 18]] [0, 5, 6, 90]) (.c (.s (.r [2]) .z) .z))) (.r [0, 5, 6]))))))) (.r [0, 5])))))) (.s (.s (.r [0, 7]) (.bj [] [0] (.l [(7, .one (.int .i64))] [0] (.s (.s (.r [0, 7, 97]) (.c .z .z)) (.s (.bj [] [0, 7] (.s (.r [0, 7, 8]) (.bj [] [0, 7] (.l [(8, .one (.int .i64))] [0, 7] (.s (.s (.r [0, 7, 8, 109]) (.c .z .z)) (.s (.b (.s (.d [0, 1, 3, 7, 0, 31, 63, 0, 255, 511, 0, 1024, 3072, 7168, 0, 31744, 64512, 130048, 262143] [[0, 1, 2, 3, 4, 5, 6, 7, 8, 9, 10, 11, 12, 13, 14, 15, 16, 17, 18]] [0, 7, 8, 130]) (.c (.s (.r [2]) .z) .z))) (.r [0, 7, 8]))))))) (.r [0, 7])))))) (.s (.s (.r [0, 9]) (.bj [] [] (.l [(9, .one (.int .i64))] [0] (.s (.s (.r [0, 9, 137]) (.c .z .z)) (.s (.bj [] [0, 9] (.s (.r [0, 9, 10]) (.bj [] [0, 9] (.l [(10, .one (.int .i64))] [0, 9] (.s (.s (.r [0, 9, 10, 149]) (.c .z .z)) (.s (.b (.s (.d [0, 1, 3, 7, 0, 31, 63, 0, 255, 511, 0, 1024, 3072, 7168, 0, 31744, 64512, 130048, 262143] [[0, 1, 2, 3, 4, 5, 6, 7, 8, 9, 10, 11, 12, 13, 14, 15, 16, 17, 18]] [0, 9, 10, 170]) (.c (.s (.r [2]) .z) .z))) (.r [0, 9, 10]))))))) (.r [0, 9])))))) (.s (.r [2]) .z)))))
theorem F_law1_Book_kept.eq (f124_ : Int → Heap → (ByteArray → Heap → Prop) → Prop) (f125_ : Int → Heap → (Int → Heap → Prop) → Prop) (f126_ : Int → Heap → (Int → Heap → Prop) → Prop) (f127_ : Int → Heap → (Int → Int → Int → Int → Int → Heap → Prop) → Prop) (b1 : Option Addr) (h : Heap) (K : Value → Heap → Prop) : F_law1_Book_kept_of f124_ f125_ f126_ f127_ b1 h (fun (r0 : Bool) (h : Heap) => K (.bool r0) h) =
    den Try.prog (fn1 124 (E_law1_textsMark_of f124_) (fn1 125 (E_law1_intsMark_of f125_) (fn1 126 (E_law1_wordsMark_of f126_) (fn1 127 (E_law1_donesMark_of f127_) noFns)))) Try.f97.ntmps plan97 (bodyOf Try.f97) (args0 0 [(.pointer b1 : Value)]) h ⟨fun env h => dRes Try.prog Try.f97.results.toList env h K, fun _ _ _ => False, fun env h => dRes Try.prog Try.f97.results.toList env h K⟩ := by kernel_rfl
def E_law1_Book_kept_of (f : Option Addr → Heap → (Bool → Heap → Prop) → Prop) : List Value → Heap → (Value → Heap → Prop) → Prop
  | [v0], h, K => dec1 .ptr v0 fun (b1 : Option Addr) =>
  f b1 h (fun (r0 : Bool) (h : Heap) => K (.bool r0) h)
  | _, _, _ => False
abbrev E_law1_Book_kept := E_law1_Book_kept_of F_law1_Book_kept
theorem E_law1_Book_kept.right : IsRight Try.prog 97 E_law1_Book_kept := by
  refine isRight fun vs K w hh => ?_
  match vs, hh with
  | [v0], hh =>
    unfold E_law1_Book_kept E_law1_Book_kept_of at hh
    replace hh := dec1_sound hh; obtain ⟨b1, rfl, hh⟩ := hh
    unfold F_law1_Book_kept at hh
    exact calls_den (fn1_right ok124 E_law1_textsMark.right (fn1_right ok125 E_law1_intsMark.right (fn1_right ok126 E_law1_wordsMark.right (fn1_right ok127 E_law1_donesMark.right noFns_right)))) plan97 _ w K Try.func97 (by kernel_rfl) (by kernel_rfl) (Eq.mp (F_law1_Book_kept.eq F_law1_textsMark F_law1_intsMark F_law1_wordsMark F_law1_donesMark b1 w.heap K) hh)
theorem ok97 : okFn Try.prog 97 = true := by kernel_rfl
end Go.Proofs.Ytboidjampddfoaa.V
namespace Go.Proofs.Ytboidjampddfoaa.V
open Go Go.RowKit
set_option linter.unusedVariables false
set_option maxRecDepth 100000
def F_law1_acctsMark_of  (m1 : Int) (h : Heap) (Q : ByteArray → Int → Heap → Prop) : Prop :=
  al 178 [.string (⟨#[]⟩ : ByteArray), .int .u64 0] h fun (a2 : Addr) (h3 : Heap) =>
  0 ≤ (20 : Int) ∧
  st a2 [.string (⟨#[]⟩ : ByteArray), .int .u64 (IntKind.u64.wrap ((IntKind.u64.wrap m1) * 2 ^ min (20 : Int).toNat IntKind.u64.bits))] h3 fun (h4 : Heap) =>
  ld [.str, .int .u64] a2 h4 fun (v5 : ByteArray) (v6 : Int) =>
  Q v5 v6 h4
def F_law1_acctsMark (m1 : Int) (h : Heap) (Q : ByteArray → Int → Heap → Prop) : Prop := F_law1_acctsMark_of  m1 h Q
def plan128 : Plan := .s (.r [0, 2]) (.s (.r [2]) .z)
theorem F_law1_acctsMark.eq  (m1 : Int) (h : Heap) (K : Value → Heap → Prop) : F_law1_acctsMark_of  m1 h (fun (r0 : ByteArray) (r1 : Int) (h : Heap) => K (.agg #[.string r0, .int .u64 r1]) h) =
    den Try.prog noFns Try.f128.ntmps plan128 (bodyOf Try.f128) (args0 0 [(.int .i64 m1 : Value)]) h ⟨fun env h => dRes Try.prog Try.f128.results.toList env h K, fun _ _ _ => False, fun env h => dRes Try.prog Try.f128.results.toList env h K⟩ := by kernel_rfl
def E_law1_acctsMark_of (f : Int → Heap → (ByteArray → Int → Heap → Prop) → Prop) : List Value → Heap → (Value → Heap → Prop) → Prop
  | [v0], h, K => dec1 (.int .i64) v0 fun (m1 : Int) =>
  f m1 h (fun (r0 : ByteArray) (r1 : Int) (h : Heap) => K (.agg #[.string r0, .int .u64 r1]) h)
  | _, _, _ => False
abbrev E_law1_acctsMark := E_law1_acctsMark_of F_law1_acctsMark
theorem E_law1_acctsMark.right : IsRight Try.prog 128 E_law1_acctsMark := by
  refine isRight fun vs K w hh => ?_
  match vs, hh with
  | [v0], hh =>
    unfold E_law1_acctsMark E_law1_acctsMark_of at hh
    replace hh := dec1_sound hh; obtain ⟨m1, rfl, hh⟩ := hh
    unfold F_law1_acctsMark at hh
    exact calls_den noFns_right plan128 _ w K Try.func128 (by kernel_rfl) (by kernel_rfl) (Eq.mp (F_law1_acctsMark.eq  m1 w.heap K) hh)
theorem ok128 : okFn Try.prog 128 = true := by kernel_rfl
end Go.Proofs.Ytboidjampddfoaa.V
namespace Go.Proofs.Ytboidjampddfoaa.V
open Go Go.RowKit
set_option linter.unusedVariables false
set_option maxRecDepth 100000
def F_law1_queueMark_of  (m1 : Int) (h : Heap) (Q : Int → Int → ByteArray → Int → Heap → Prop) : Prop :=
  al 180 [.int .i64 0, .int .u64 0, .string (⟨#[]⟩ : ByteArray), .int .u64 0] h fun (a2 : Addr) (h3 : Heap) =>
  0 ≤ (20 : Int) ∧
  st a2 [.int .i64 0, .int .u64 (IntKind.u64.wrap ((IntKind.u64.wrap m1) * 2 ^ min (20 : Int).toNat IntKind.u64.bits)), .string (⟨#[]⟩ : ByteArray), .int .u64 0] h3 fun (h4 : Heap) =>
  ld [.int .i64, .int .u64, .str, .int .u64] a2 h4 fun (v5 v6 : Int) (v7 : ByteArray) (v8 : Int) =>
  Q v5 v6 v7 v8 h4
def F_law1_queueMark (m1 : Int) (h : Heap) (Q : Int → Int → ByteArray → Int → Heap → Prop) : Prop := F_law1_queueMark_of  m1 h Q
def plan129 : Plan := .s (.r [0, 2]) (.s (.r [2]) .z)
theorem F_law1_queueMark.eq  (m1 : Int) (h : Heap) (K : Value → Heap → Prop) : F_law1_queueMark_of  m1 h (fun (r0 r1 : Int) (r2 : ByteArray) (r3 : Int) (h : Heap) => K (.agg #[.int .i64 r0, .int .u64 r1, .string r2, .int .u64 r3]) h) =
    den Try.prog noFns Try.f129.ntmps plan129 (bodyOf Try.f129) (args0 0 [(.int .i64 m1 : Value)]) h ⟨fun env h => dRes Try.prog Try.f129.results.toList env h K, fun _ _ _ => False, fun env h => dRes Try.prog Try.f129.results.toList env h K⟩ := by kernel_rfl
def E_law1_queueMark_of (f : Int → Heap → (Int → Int → ByteArray → Int → Heap → Prop) → Prop) : List Value → Heap → (Value → Heap → Prop) → Prop
  | [v0], h, K => dec1 (.int .i64) v0 fun (m1 : Int) =>
  f m1 h (fun (r0 r1 : Int) (r2 : ByteArray) (r3 : Int) (h : Heap) => K (.agg #[.int .i64 r0, .int .u64 r1, .string r2, .int .u64 r3]) h)
  | _, _, _ => False
abbrev E_law1_queueMark := E_law1_queueMark_of F_law1_queueMark
theorem E_law1_queueMark.right : IsRight Try.prog 129 E_law1_queueMark := by
  refine isRight fun vs K w hh => ?_
  match vs, hh with
  | [v0], hh =>
    unfold E_law1_queueMark E_law1_queueMark_of at hh
    replace hh := dec1_sound hh; obtain ⟨m1, rfl, hh⟩ := hh
    unfold F_law1_queueMark at hh
    exact calls_den noFns_right plan129 _ w K Try.func129 (by kernel_rfl) (by kernel_rfl) (Eq.mp (F_law1_queueMark.eq  m1 w.heap K) hh)
theorem ok129 : okFn Try.prog 129 = true := by kernel_rfl
end Go.Proofs.Ytboidjampddfoaa.V
namespace Go.Proofs.Ytboidjampddfoaa.V
open Go Go.RowKit
set_option linter.unusedVariables false
set_option maxRecDepth 100000
def F_law1_slotsMark_of  (m1 : Int) (h : Heap) (Q : Int → Int → Int → Int → Heap → Prop) : Prop :=
  al 182 [.int .u64 0, .int .i64 0, .int .i64 0, .int .u64 0] h fun (a2 : Addr) (h3 : Heap) =>
  0 ≤ (20 : Int) ∧
  st a2 [.int .u64 (IntKind.u64.wrap ((IntKind.u64.wrap m1) * 2 ^ min (20 : Int).toNat IntKind.u64.bits)), .int .i64 0, .int .i64 0, .int .u64 0] h3 fun (h4 : Heap) =>
  ld [.int .u64, .int .i64, .int .i64, .int .u64] a2 h4 fun (v5 v6 v7 v8 : Int) =>
  Q v5 v6 v7 v8 h4
def F_law1_slotsMark (m1 : Int) (h : Heap) (Q : Int → Int → Int → Int → Heap → Prop) : Prop := F_law1_slotsMark_of  m1 h Q
def plan130 : Plan := .s (.r [0, 2]) (.s (.r [2]) .z)
theorem F_law1_slotsMark.eq  (m1 : Int) (h : Heap) (K : Value → Heap → Prop) : F_law1_slotsMark_of  m1 h (fun (r0 r1 r2 r3 : Int) (h : Heap) => K (.agg #[.int .u64 r0, .int .i64 r1, .int .i64 r2, .int .u64 r3]) h) =
    den Try.prog noFns Try.f130.ntmps plan130 (bodyOf Try.f130) (args0 0 [(.int .i64 m1 : Value)]) h ⟨fun env h => dRes Try.prog Try.f130.results.toList env h K, fun _ _ _ => False, fun env h => dRes Try.prog Try.f130.results.toList env h K⟩ := by kernel_rfl
def E_law1_slotsMark_of (f : Int → Heap → (Int → Int → Int → Int → Heap → Prop) → Prop) : List Value → Heap → (Value → Heap → Prop) → Prop
  | [v0], h, K => dec1 (.int .i64) v0 fun (m1 : Int) =>
  f m1 h (fun (r0 r1 r2 r3 : Int) (h : Heap) => K (.agg #[.int .u64 r0, .int .i64 r1, .int .i64 r2, .int .u64 r3]) h)
  | _, _, _ => False
abbrev E_law1_slotsMark := E_law1_slotsMark_of F_law1_slotsMark
theorem E_law1_slotsMark.right : IsRight Try.prog 130 E_law1_slotsMark := by
  refine isRight fun vs K w hh => ?_
  match vs, hh with
  | [v0], hh =>
    unfold E_law1_slotsMark E_law1_slotsMark_of at hh
    replace hh := dec1_sound hh; obtain ⟨m1, rfl, hh⟩ := hh
    unfold F_law1_slotsMark at hh
    exact calls_den noFns_right plan130 _ w K Try.func130 (by kernel_rfl) (by kernel_rfl) (Eq.mp (F_law1_slotsMark.eq  m1 w.heap K) hh)
theorem ok130 : okFn Try.prog 130 = true := by kernel_rfl
end Go.Proofs.Ytboidjampddfoaa.V
namespace Go.Proofs.Ytboidjampddfoaa.V
open Go Go.RowKit
set_option linter.unusedVariables false
set_option maxRecDepth 100000
def F_law1_Book_told.l1 (f128_ : Int → Heap → (ByteArray → Int → Heap → Prop) → Prop) (b1 : Option Addr) (Q : Bool → Heap → Prop) (i4 : Int) (j9 : Heap → Prop) : Int → Heap → Prop :=
  wl [(4, .one (.int .i64))] (fun (next10 : Int → Heap → Prop) (k11 : Int) (h12 : Heap) =>
  nn b1 fun (a13 : Addr) =>
  ld [.sl] (a13.add 18) h12 fun (v14 : Sl) =>
  ixS 1 v14 i4 fun (a15 : Addr) =>
  ld [.sl] a15 h12 fun (v16 : Sl) =>
  brr (decide (k11 < ((v16.len : Nat) : Int)))
  (nn b1 fun (a17 : Addr) =>
  ld [.sl] (a17.add 18) h12 fun (v18 : Sl) =>
  ixS 1 v18 i4 fun (a19 : Addr) =>
  ld [.sl] a19 h12 fun (v20 : Sl) =>
  ixS 2 v20 k11 fun (a21 : Addr) =>
  ld [.str, .int .u64] a21 h12 fun (v22 : ByteArray) (v23 : Int) =>
  nn b1 fun (a24 : Addr) =>
  ld [.sl] (a24.add 19) h12 fun (v25 : Sl) =>
  ixS 1 v25 i4 fun (a26 : Addr) =>
  ld [.int .i64] a26 h12 fun (v27 : Int) =>
  f128_ v27 h12 fun (r28 : ByteArray) (r29 : Int) (h30 : Heap) =>
  cellsAre h30 (a17.add 18) [.slice v18.ptr v18.len v18.cap] ∧
  cellsAre h30 a19 [.slice v20.ptr v20.len v20.cap] ∧
  cellsAre h30 a21 [.string v22, .int .u64 v23] ∧
  brr (!((v22.toList == r28.toList) && ((v23 == r29) && (true))))
  (Q false h30)
  (next10 (IntKind.i64.wrap (k11 + 1)) h30))
  (j9 h12))
def F_law1_Book_told.l2 (f128_ : Int → Heap → (ByteArray → Int → Heap → Prop) → Prop) (b1 : Option Addr) (Q : Bool → Heap → Prop) (j2 : Heap → Prop) : Int → Heap → Prop :=
  wl [(3, .one (.int .i64))] (fun (next3 : Int → Heap → Prop) (i4 : Int) (h5 : Heap) =>
  nn b1 fun (a6 : Addr) =>
  ld [.sl] (a6.add 18) h5 fun (v7 : Sl) =>
  brr (decide (i4 < ((v7.len : Nat) : Int)))
  (jn [] (fun  (h32 : Heap) =>
  next3 (IntKind.i64.wrap (i4 + 1)) h32) (fun (j8 : Heap → Prop) =>
  jn [] (fun  (h31 : Heap) =>
  j8 h31) (fun (j9 : Heap → Prop) =>
  F_law1_Book_told.l1 f128_ b1 Q i4 j9 0 h5)))
  (j2 h5))
def F_law1_Book_told.l3 (f129_ : Int → Heap → (Int → Int → ByteArray → Int → Heap → Prop) → Prop) (b1 : Option Addr) (Q : Bool → Heap → Prop) (i36 : Int) (j41 : Heap → Prop) : Int → Heap → Prop :=
  wl [(6, .one (.int .i64))] (fun (next42 : Int → Heap → Prop) (k43 : Int) (h44 : Heap) =>
  nn b1 fun (a45 : Addr) =>
  ld [.sl] (a45.add 21) h44 fun (v46 : Sl) =>
  ixS 1 v46 i36 fun (a47 : Addr) =>
  ld [.sl] a47 h44 fun (v48 : Sl) =>
  brr (decide (k43 < ((v48.len : Nat) : Int)))
  (nn b1 fun (a49 : Addr) =>
  ld [.sl] (a49.add 21) h44 fun (v50 : Sl) =>
  ixS 1 v50 i36 fun (a51 : Addr) =>
  ld [.sl] a51 h44 fun (v52 : Sl) =>
  ixS 4 v52 k43 fun (a53 : Addr) =>
  ld [.int .i64, .int .u64, .str, .int .u64] a53 h44 fun (v54 v55 : Int) (v56 : ByteArray) (v57 : Int) =>
  nn b1 fun (a58 : Addr) =>
  ld [.sl] (a58.add 22) h44 fun (v59 : Sl) =>
  ixS 1 v59 i36 fun (a60 : Addr) =>
  ld [.int .i64] a60 h44 fun (v61 : Int) =>
  f129_ v61 h44 fun (r62 r63 : Int) (r64 : ByteArray) (r65 : Int) (h66 : Heap) =>
  cellsAre h66 (a49.add 21) [.slice v50.ptr v50.len v50.cap] ∧
  cellsAre h66 a51 [.slice v52.ptr v52.len v52.cap] ∧
  cellsAre h66 a53 [.int .i64 v54, .int .u64 v55, .string v56, .int .u64 v57] ∧
  brr (!((v54 == r62) && ((v55 == r63) && ((v56.toList == r64.toList) && ((v57 == r65) && (true))))))
  (Q false h66)
  (next42 (IntKind.i64.wrap (k43 + 1)) h66))
  (j41 h44))
def F_law1_Book_told.l4 (f129_ : Int → Heap → (Int → Int → ByteArray → Int → Heap → Prop) → Prop) (b1 : Option Addr) (Q : Bool → Heap → Prop) (j34 : Heap → Prop) : Int → Heap → Prop :=
  wl [(5, .one (.int .i64))] (fun (next35 : Int → Heap → Prop) (i36 : Int) (h37 : Heap) =>
  nn b1 fun (a38 : Addr) =>
  ld [.sl] (a38.add 21) h37 fun (v39 : Sl) =>
  brr (decide (i36 < ((v39.len : Nat) : Int)))
  (jn [] (fun  (h68 : Heap) =>
  next35 (IntKind.i64.wrap (i36 + 1)) h68) (fun (j40 : Heap → Prop) =>
  jn [] (fun  (h67 : Heap) =>
  j40 h67) (fun (j41 : Heap → Prop) =>
  F_law1_Book_told.l3 f129_ b1 Q i36 j41 0 h37)))
  (j34 h37))
def F_law1_Book_told.l5 (f130_ : Int → Heap → (Int → Int → Int → Int → Heap → Prop) → Prop) (b1 : Option Addr) (Q : Bool → Heap → Prop) (i72 : Int) (j77 : Heap → Prop) : Int → Heap → Prop :=
  wl [(8, .one (.int .i64))] (fun (next78 : Int → Heap → Prop) (k79 : Int) (h80 : Heap) =>
  nn b1 fun (a81 : Addr) =>
  ld [.sl] (a81.add 24) h80 fun (v82 : Sl) =>
  ixS 1 v82 i72 fun (a83 : Addr) =>
  ld [.sl] a83 h80 fun (v84 : Sl) =>
  brr (decide (k79 < ((v84.len : Nat) : Int)))
  (nn b1 fun (a85 : Addr) =>
  ld [.sl] (a85.add 24) h80 fun (v86 : Sl) =>
  ixS 1 v86 i72 fun (a87 : Addr) =>
  ld [.sl] a87 h80 fun (v88 : Sl) =>
  ixS 4 v88 k79 fun (a89 : Addr) =>
  ld [.int .u64, .int .i64, .int .i64, .int .u64] a89 h80 fun (v90 v91 v92 v93 : Int) =>
  nn b1 fun (a94 : Addr) =>
  ld [.sl] (a94.add 25) h80 fun (v95 : Sl) =>
  ixS 1 v95 i72 fun (a96 : Addr) =>
  ld [.int .i64] a96 h80 fun (v97 : Int) =>
  f130_ v97 h80 fun (r98 r99 r100 r101 : Int) (h102 : Heap) =>
  cellsAre h102 (a85.add 24) [.slice v86.ptr v86.len v86.cap] ∧
  cellsAre h102 a87 [.slice v88.ptr v88.len v88.cap] ∧
  cellsAre h102 a89 [.int .u64 v90, .int .i64 v91, .int .i64 v92, .int .u64 v93] ∧
  brr (!((v90 == r98) && ((v91 == r99) && ((v92 == r100) && ((v93 == r101) && (true))))))
  (Q false h102)
  (next78 (IntKind.i64.wrap (k79 + 1)) h102))
  (j77 h80))
def F_law1_Book_told.l6 (f130_ : Int → Heap → (Int → Int → Int → Int → Heap → Prop) → Prop) (b1 : Option Addr) (Q : Bool → Heap → Prop) (j70 : Heap → Prop) : Int → Heap → Prop :=
  wl [(7, .one (.int .i64))] (fun (next71 : Int → Heap → Prop) (i72 : Int) (h73 : Heap) =>
  nn b1 fun (a74 : Addr) =>
  ld [.sl] (a74.add 24) h73 fun (v75 : Sl) =>
  brr (decide (i72 < ((v75.len : Nat) : Int)))
  (jn [] (fun  (h104 : Heap) =>
  next71 (IntKind.i64.wrap (i72 + 1)) h104) (fun (j76 : Heap → Prop) =>
  jn [] (fun  (h103 : Heap) =>
  j76 h103) (fun (j77 : Heap → Prop) =>
  F_law1_Book_told.l5 f130_ b1 Q i72 j77 0 h73)))
  (j70 h73))
def F_law1_Book_told.l7 (b1 : Option Addr) (Q : Bool → Heap → Prop) (i108 v116 : Int) (j117 : Heap → Prop) : Int → Heap → Prop :=
  wl [(11, .one (.int .i64))] (fun (next118 : Int → Heap → Prop) (k119 : Int) (h120 : Heap) =>
  nn b1 fun (a121 : Addr) =>
  ld [.sl] (a121.add 27) h120 fun (v122 : Sl) =>
  ixS 1 v122 i108 fun (a123 : Addr) =>
  ld [.sl] a123 h120 fun (v124 : Sl) =>
  brr (decide (k119 < ((v124.len : Nat) : Int)))
  (nn b1 fun (a125 : Addr) =>
  ld [.sl] (a125.add 27) h120 fun (v126 : Sl) =>
  ixS 1 v126 i108 fun (a127 : Addr) =>
  ld [.sl] a127 h120 fun (v128 : Sl) =>
  ixS 22 v128 k119 fun (a129 : Addr) =>
  ld [.int .i64, .int .i64, .int .i64, .int .i64, .int .u64, .int .u64, .int .u64, .int .u64, .int .i64, .int .u64, .sl, .int .i64, .int .u64, .str, .str, .int .u64, .int .u64, .int .u64, .int .i64, .int .i64, .int .i64, .int .i64] a129 h120 fun (v130 v131 v132 v133 v134 v135 v136 v137 v138 v139 : Int) (v140 : Sl) (v141 v142 : Int) (v143 v144 : ByteArray) (v145 v146 v147 v148 v149 v150 v151 : Int) =>
  al 36 [.int .i64 0, .int .i64 0, .int .i64 0, .int .i64 0, .int .u64 0, .int .u64 0, .int .u64 0, .int .u64 0, .int .i64 0, .int .u64 0, .slice none 0 0, .int .i64 0, .int .u64 0, .string (⟨#[]⟩ : ByteArray), .string (⟨#[]⟩ : ByteArray), .int .u64 0, .int .u64 0, .int .u64 0, .int .i64 0, .int .i64 0, .int .i64 0, .int .i64 0] h120 fun (a152 : Addr) (h153 : Heap) =>
  st a152 [.int .i64 v130, .int .i64 v131, .int .i64 v132, .int .i64 v133, .int .u64 v134, .int .u64 v135, .int .u64 v136, .int .u64 v137, .int .i64 v138, .int .u64 v139, .slice v140.ptr v140.len v140.cap, .int .i64 v141, .int .u64 v142, .string v143, .string v144, .int .u64 v145, .int .u64 v146, .int .u64 v147, .int .i64 v148, .int .i64 v149, .int .i64 v150, .int .i64 v151] h153 fun (h154 : Heap) =>
  jn [(193, .one .bool)] (fun (x160 : Bool) (h161 : Heap) =>
  brr x160
  (Q false h161)
  (next118 (IntKind.i64.wrap (k119 + 1)) h161)) (fun (j155 : Bool → Heap → Prop) =>
  ld [.int .i64] ((a152.add 0).add 0) h154 fun (v156 : Int) =>
  brr (v156 == (IntKind.i64.wrap (1000 + v116)))
  (ld [.sl] (a152.add 10) h154 fun (v157 : Sl) =>
  brr (((v157.len : Nat) : Int) == 0)
  (ld [.int .u64] (a152.add 4) h154 fun (v158 : Int) =>
  brr (v158 == 0)
  (ld [.str] (a152.add 13) h154 fun (v159 : ByteArray) =>
  j155 (!(v159.toList == (⟨#[]⟩ : ByteArray).toList)) h154)
  (j155 (!false) h154))
  (j155 (!false) h154))
  (j155 (!false) h154)))
  (j117 h120))
def F_law1_Book_told.l8 (b1 : Option Addr) (Q : Bool → Heap → Prop) (j106 : Heap → Prop) : Int → Heap → Prop :=
  wl [(9, .one (.int .i64))] (fun (next107 : Int → Heap → Prop) (i108 : Int) (h109 : Heap) =>
  nn b1 fun (a110 : Addr) =>
  ld [.sl] (a110.add 27) h109 fun (v111 : Sl) =>
  brr (decide (i108 < ((v111.len : Nat) : Int)))
  (jn [] (fun  (h163 : Heap) =>
  next107 (IntKind.i64.wrap (i108 + 1)) h163) (fun (j112 : Heap → Prop) =>
  nn b1 fun (a113 : Addr) =>
  ld [.sl] (a113.add 28) h109 fun (v114 : Sl) =>
  ixS 1 v114 i108 fun (a115 : Addr) =>
  ld [.int .i64] a115 h109 fun (v116 : Int) =>
  jn [] (fun  (h162 : Heap) =>
  j112 h162) (fun (j117 : Heap → Prop) =>
  F_law1_Book_told.l7 b1 Q i108 v116 j117 0 h109)))
  (j106 h109))
def F_law1_Book_told_of (f128_ : Int → Heap → (ByteArray → Int → Heap → Prop) → Prop) (f129_ : Int → Heap → (Int → Int → ByteArray → Int → Heap → Prop) → Prop) (f130_ : Int → Heap → (Int → Int → Int → Int → Heap → Prop) → Prop) (b1 : Option Addr) (h : Heap) (Q : Bool → Heap → Prop) : Prop :=
  jn [] (fun  (h33 : Heap) =>
  jn [] (fun  (h69 : Heap) =>
  jn [] (fun  (h105 : Heap) =>
  jn [] (fun  (h164 : Heap) =>
  Q true h164) (fun (j106 : Heap → Prop) =>
  F_law1_Book_told.l8 b1 Q j106 0 h105)) (fun (j70 : Heap → Prop) =>
  F_law1_Book_told.l6 f130_ b1 Q j70 0 h69)) (fun (j34 : Heap → Prop) =>
  F_law1_Book_told.l4 f129_ b1 Q j34 0 h33)) (fun (j2 : Heap → Prop) =>
  F_law1_Book_told.l2 f128_ b1 Q j2 0 h)
def F_law1_Book_told (b1 : Option Addr) (h : Heap) (Q : Bool → Heap → Prop) : Prop := F_law1_Book_told_of F_law1_acctsMark F_law1_queueMark F_law1_slotsMark b1 h Q
def plan98 : Plan := .s (.r [0]) (.s (.s (.r [0, 3]) (.bj [] [0] (.l [(3, .one (.int .i64))] [0] (.s (.s (.r [0, 3, 19]) (.c .z .z)) (.s (.bj [] [0, 3] (.s (.r [0, 3, 4]) (.bj [] [0, 3] (.l [(4, .one (.int .i64))] [0, 3] (.s (.s (.r [0, 3, 4, 31]) (.c .z .z)) (.s (.b (.s (.d [0, 1, 3, 7, 0, 31, 63, 0, 255, 511, 0, 1024, 3072, 7168, 0, 31744, 64512, 130048, 262143] [[0, 1, 2, 3, 4, 5, 6, 7, 8, 9, 10, 11, 12, 13, 14, 15, 16, 17, 18]] [0, 3, 4, 52]) (.c (.s (.r [2]) .z) .z))) (.r [0, 3, 4]))))))) (.r [0, 3])))))) (.s (.s (.r [0, 5]) (.bj [] [0] (.l [(5, .one (.int .i64))] [0] (.s (.s (.r [0, 5, 59]) (.c .z .z)) (.s (.bj [] [0, 5] (.s (.r [0, 5, 6]) (.bj [] [0, 5] (.l [(6, .one (.int .i64))] [0, 5] (.s (.s (.r [0, 5, 6, 71]) (.c .z .z)) (.s (.b (.s (.d [0, 1, 3, 7, 0, 31, 63, 0, 255, 511, 0, 1024, 3072, 7168, 0, 31744, 64512, 130048, 262143] [[0, 1, 2, 3, 4, 5, 6, 7, 8, 9, 10, 11, 12, 13, 14, 15, 16, 17, 18]] [0, 5, 6, 92]) (.c (.s (.r [2]) .z) .z))) (.r [0, 5, 6]))))))) (.r [0, 5])))))) (.s (.s (.r [0, 7]) (.bj [] [0] (.l [(7, .one (.int .i64))] [0] (.s (.s (.r [0, 7, 99]) (.c .z .z)) (.s (.bj [] [0, 7] (.s (.r [0, 7, 8]) (.bj [] [0, 7] (.l [(8, .one (.int .i64))] [0, 7] (.s (.s (.r [0, 7, 8, 111]) (.c .z .z)) (.s (.b (.s (.d [0, 1, 3, 7, 0, 31, 63, 0, 255, 511, 0, 1024, 3072, 7168, 0, 31744, 64512, 130048, 262143] [[0, 1, 2, 3, 4, 5, 6, 7, 8, 9, 10, 11, 12, 13, 14, 15, 16, 17, 18]] [0, 7, 8, 132]) (.c (.s (.r [2]) .z) .z))) (.r [0, 7, 8]))))))) (.r [0, 7])))))) (.s (.s (.r [0, 9]) (.bj [] [] (.l [(9, .one (.int .i64))] [0] (.s (.s (.r [0, 9, 139]) (.c .z .z)) (.s (.bj [] [0, 9] (.s (.r [0, 9, 10]) (.s (.r [0, 9, 10, 11]) (.bj [] [0, 9] (.l [(11, .one (.int .i64))] [0, 9, 10] (.s (.s (.r [0, 9, 10, 11, 158]) (.c .z .z)) (.s (.b (.s (.r [0, 9, 10, 11, 12]) (.s (.rj [(193, .one .bool)] [0, 9, 10, 11]) (.c (.s (.r [2]) .z) .z)))) (.r [0, 9, 10, 11])))))))) (.r [0, 9])))))) (.s (.r [2]) .z)))))
theorem F_law1_Book_told.eq (f128_ : Int → Heap → (ByteArray → Int → Heap → Prop) → Prop) (f129_ : Int → Heap → (Int → Int → ByteArray → Int → Heap → Prop) → Prop) (f130_ : Int → Heap → (Int → Int → Int → Int → Heap → Prop) → Prop) (b1 : Option Addr) (h : Heap) (K : Value → Heap → Prop) : F_law1_Book_told_of f128_ f129_ f130_ b1 h (fun (r0 : Bool) (h : Heap) => K (.bool r0) h) =
    den Try.prog (fn1 128 (E_law1_acctsMark_of f128_) (fn1 129 (E_law1_queueMark_of f129_) (fn1 130 (E_law1_slotsMark_of f130_) noFns))) Try.f98.ntmps plan98 (bodyOf Try.f98) (args0 0 [(.pointer b1 : Value)]) h ⟨fun env h => dRes Try.prog Try.f98.results.toList env h K, fun _ _ _ => False, fun env h => dRes Try.prog Try.f98.results.toList env h K⟩ := by kernel_rfl
def E_law1_Book_told_of (f : Option Addr → Heap → (Bool → Heap → Prop) → Prop) : List Value → Heap → (Value → Heap → Prop) → Prop
  | [v0], h, K => dec1 .ptr v0 fun (b1 : Option Addr) =>
  f b1 h (fun (r0 : Bool) (h : Heap) => K (.bool r0) h)
  | _, _, _ => False
abbrev E_law1_Book_told := E_law1_Book_told_of F_law1_Book_told
theorem E_law1_Book_told.right : IsRight Try.prog 98 E_law1_Book_told := by
  refine isRight fun vs K w hh => ?_
  match vs, hh with
  | [v0], hh =>
    unfold E_law1_Book_told E_law1_Book_told_of at hh
    replace hh := dec1_sound hh; obtain ⟨b1, rfl, hh⟩ := hh
    unfold F_law1_Book_told at hh
    exact calls_den (fn1_right ok128 E_law1_acctsMark.right (fn1_right ok129 E_law1_queueMark.right (fn1_right ok130 E_law1_slotsMark.right noFns_right))) plan98 _ w K Try.func98 (by kernel_rfl) (by kernel_rfl) (Eq.mp (F_law1_Book_told.eq F_law1_acctsMark F_law1_queueMark F_law1_slotsMark b1 w.heap K) hh)
theorem ok98 : okFn Try.prog 98 = true := by kernel_rfl
end Go.Proofs.Ytboidjampddfoaa.V
namespace Go.Proofs.Ytboidjampddfoaa.V
open Go Go.RowKit
set_option linter.unusedVariables false
set_option maxRecDepth 100000
def F_law1_filesMark_of (f121_ : Int → Int → Heap → (Int → Heap → Prop) → Prop) (m1 : Int) (h : Heap) (Q : ByteArray → Sl → Heap → Prop) : Prop :=
  al 195 [.string (⟨#[]⟩ : ByteArray), .slice none 0 0] h fun (a2 : Addr) (h3 : Heap) =>
  f121_ m1 0 h3 fun (r4 : Int) (h5 : Heap) =>
  f121_ m1 1 h5 fun (r6 : Int) (h7 : Heap) =>
  al 5 [.int .u8 r4, .int .u8 r6, .int .u8 33] h7 fun (a8 : Addr) (h9 : Heap) =>
  b2s (some a8) 3 h9 fun (s10 : ByteArray) =>
  st a2 [.string s10, .slice none 0 0] h9 fun (h11 : Heap) =>
  ld [.str, .sl] a2 h11 fun (v12 : ByteArray) (v13 : Sl) =>
  Q v12 v13 h11
def F_law1_filesMark (m1 : Int) (h : Heap) (Q : ByteArray → Sl → Heap → Prop) : Prop := F_law1_filesMark_of F_law1_at m1 h Q
def plan131 : Plan := .s (.r [0, 2]) (.s (.r [2]) .z)
theorem F_law1_filesMark.eq (f121_ : Int → Int → Heap → (Int → Heap → Prop) → Prop) (m1 : Int) (h : Heap) (K : Value → Heap → Prop) : F_law1_filesMark_of f121_ m1 h (fun (r0 : ByteArray) (r1 : Sl) (h : Heap) => K (.agg #[.string r0, .slice r1.ptr r1.len r1.cap]) h) =
    den Try.prog (fn1 121 (E_law1_at_of f121_) noFns) Try.f131.ntmps plan131 (bodyOf Try.f131) (args0 0 [(.int .i64 m1 : Value)]) h ⟨fun env h => dRes Try.prog Try.f131.results.toList env h K, fun _ _ _ => False, fun env h => dRes Try.prog Try.f131.results.toList env h K⟩ := by kernel_rfl
def E_law1_filesMark_of (f : Int → Heap → (ByteArray → Sl → Heap → Prop) → Prop) : List Value → Heap → (Value → Heap → Prop) → Prop
  | [v0], h, K => dec1 (.int .i64) v0 fun (m1 : Int) =>
  f m1 h (fun (r0 : ByteArray) (r1 : Sl) (h : Heap) => K (.agg #[.string r0, .slice r1.ptr r1.len r1.cap]) h)
  | _, _, _ => False
abbrev E_law1_filesMark := E_law1_filesMark_of F_law1_filesMark
theorem E_law1_filesMark.right : IsRight Try.prog 131 E_law1_filesMark := by
  refine isRight fun vs K w hh => ?_
  match vs, hh with
  | [v0], hh =>
    unfold E_law1_filesMark E_law1_filesMark_of at hh
    replace hh := dec1_sound hh; obtain ⟨m1, rfl, hh⟩ := hh
    unfold F_law1_filesMark at hh
    exact calls_den (fn1_right ok121 E_law1_at.right noFns_right) plan131 _ w K Try.func131 (by kernel_rfl) (by kernel_rfl) (Eq.mp (F_law1_filesMark.eq F_law1_at m1 w.heap K) hh)
theorem ok131 : okFn Try.prog 131 = true := by kernel_rfl
end Go.Proofs.Ytboidjampddfoaa.V
namespace Go.Proofs.Ytboidjampddfoaa.V
open Go Go.RowKit
set_option linter.unusedVariables false
set_option maxRecDepth 100000
def F_law1_Book_held.l1 (b1 : Option Addr) (Q : Bool → Heap → Prop) (i4 v12 : Int) (j13 : Heap → Prop) : Int → Heap → Prop :=
  wl [(5, .one (.int .i64))] (fun (next14 : Int → Heap → Prop) (k15 : Int) (h16 : Heap) =>
  nn b1 fun (a17 : Addr) =>
  ld [.sl] (a17.add 30) h16 fun (v18 : Sl) =>
  ixS 1 v18 i4 fun (a19 : Addr) =>
  ld [.sl] a19 h16 fun (v20 : Sl) =>
  brr (decide (k15 < ((v20.len : Nat) : Int)))
  (nn b1 fun (a21 : Addr) =>
  ld [.sl] (a21.add 30) h16 fun (v22 : Sl) =>
  ixS 1 v22 i4 fun (a23 : Addr) =>
  ld [.sl] a23 h16 fun (v24 : Sl) =>
  ixS 2 v24 k15 fun (a25 : Addr) =>
  ld [.int .i64, .sl] a25 h16 fun (v26 : Int) (v27 : Sl) =>
  al 63 [.int .i64 0, .slice none 0 0] h16 fun (a28 : Addr) (h29 : Heap) =>
  st a28 [.int .i64 v26, .slice v27.ptr v27.len v27.cap] h29 fun (h30 : Heap) =>
  jn [(60, .one .bool)] (fun (x34 : Bool) (h35 : Heap) =>
  brr x34
  (Q false h35)
  (next14 (IntKind.i64.wrap (k15 + 1)) h35)) (fun (j31 : Bool → Heap → Prop) =>
  ld [.int .i64] (a28.add 0) h30 fun (v32 : Int) =>
  brr (v32 == (IntKind.i64.wrap (1000 + v12)))
  (ld [.sl] (a28.add 1) h30 fun (v33 : Sl) =>
  j31 (!(((v33.len : Nat) : Int) == 0)) h30)
  (j31 (!false) h30)))
  (j13 h16))
def F_law1_Book_held.l2 (b1 : Option Addr) (Q : Bool → Heap → Prop) (j2 : Heap → Prop) : Int → Heap → Prop :=
  wl [(3, .one (.int .i64))] (fun (next3 : Int → Heap → Prop) (i4 : Int) (h5 : Heap) =>
  nn b1 fun (a6 : Addr) =>
  ld [.sl] (a6.add 30) h5 fun (v7 : Sl) =>
  brr (decide (i4 < ((v7.len : Nat) : Int)))
  (jn [] (fun  (h37 : Heap) =>
  next3 (IntKind.i64.wrap (i4 + 1)) h37) (fun (j8 : Heap → Prop) =>
  nn b1 fun (a9 : Addr) =>
  ld [.sl] (a9.add 31) h5 fun (v10 : Sl) =>
  ixS 1 v10 i4 fun (a11 : Addr) =>
  ld [.int .i64] a11 h5 fun (v12 : Int) =>
  jn [] (fun  (h36 : Heap) =>
  j8 h36) (fun (j13 : Heap → Prop) =>
  F_law1_Book_held.l1 b1 Q i4 v12 j13 0 h5)))
  (j2 h5))
def F_law1_Book_held.l3 (f131_ : Int → Heap → (ByteArray → Sl → Heap → Prop) → Prop) (b1 : Option Addr) (Q : Bool → Heap → Prop) (i41 v49 : Int) (j50 : Heap → Prop) : Int → Heap → Prop :=
  wl [(9, .one (.int .i64))] (fun (next51 : Int → Heap → Prop) (k52 : Int) (h53 : Heap) =>
  nn b1 fun (a54 : Addr) =>
  ld [.sl] (a54.add 33) h53 fun (v55 : Sl) =>
  ixS 1 v55 i41 fun (a56 : Addr) =>
  ld [.sl] a56 h53 fun (v57 : Sl) =>
  brr (decide (k52 < ((v57.len : Nat) : Int)))
  (nn b1 fun (a58 : Addr) =>
  ld [.sl] (a58.add 33) h53 fun (v59 : Sl) =>
  ixS 1 v59 i41 fun (a60 : Addr) =>
  ld [.sl] a60 h53 fun (v61 : Sl) =>
  ixS 2 v61 k52 fun (a62 : Addr) =>
  ld [.str, .sl] a62 h53 fun (v63 : ByteArray) (v64 : Sl) =>
  al 195 [.string (⟨#[]⟩ : ByteArray), .slice none 0 0] h53 fun (a65 : Addr) (h66 : Heap) =>
  st a65 [.string v63, .slice v64.ptr v64.len v64.cap] h66 fun (h67 : Heap) =>
  jn [(111, .one .bool)] (fun (x74 : Bool) (h75 : Heap) =>
  brr x74
  (Q false h75)
  (next51 (IntKind.i64.wrap (k52 + 1)) h75)) (fun (j68 : Bool → Heap → Prop) =>
  ld [.str] (a65.add 0) h67 fun (v69 : ByteArray) =>
  f131_ v49 h67 fun (r70 : ByteArray) (r71 : Sl) (h72 : Heap) =>
  cellsAre h72 (a65.add 0) [.string v69] ∧
  brr (v69.toList == r70.toList)
  (ld [.sl] (a65.add 1) h72 fun (v73 : Sl) =>
  j68 (!(((v73.len : Nat) : Int) == 0)) h72)
  (j68 (!false) h72)))
  (j50 h53))
def F_law1_Book_held.l4 (f131_ : Int → Heap → (ByteArray → Sl → Heap → Prop) → Prop) (b1 : Option Addr) (Q : Bool → Heap → Prop) (j39 : Heap → Prop) : Int → Heap → Prop :=
  wl [(7, .one (.int .i64))] (fun (next40 : Int → Heap → Prop) (i41 : Int) (h42 : Heap) =>
  nn b1 fun (a43 : Addr) =>
  ld [.sl] (a43.add 33) h42 fun (v44 : Sl) =>
  brr (decide (i41 < ((v44.len : Nat) : Int)))
  (jn [] (fun  (h77 : Heap) =>
  next40 (IntKind.i64.wrap (i41 + 1)) h77) (fun (j45 : Heap → Prop) =>
  nn b1 fun (a46 : Addr) =>
  ld [.sl] (a46.add 34) h42 fun (v47 : Sl) =>
  ixS 1 v47 i41 fun (a48 : Addr) =>
  ld [.int .i64] a48 h42 fun (v49 : Int) =>
  jn [] (fun  (h76 : Heap) =>
  j45 h76) (fun (j50 : Heap → Prop) =>
  F_law1_Book_held.l3 f131_ b1 Q i41 v49 j50 0 h42)))
  (j39 h42))
def F_law1_Book_held_of (f131_ : Int → Heap → (ByteArray → Sl → Heap → Prop) → Prop) (b1 : Option Addr) (h : Heap) (Q : Bool → Heap → Prop) : Prop :=
  jn [] (fun  (h38 : Heap) =>
  jn [] (fun  (h78 : Heap) =>
  Q true h78) (fun (j39 : Heap → Prop) =>
  F_law1_Book_held.l4 f131_ b1 Q j39 0 h38)) (fun (j2 : Heap → Prop) =>
  F_law1_Book_held.l2 b1 Q j2 0 h)
def F_law1_Book_held (b1 : Option Addr) (h : Heap) (Q : Bool → Heap → Prop) : Prop := F_law1_Book_held_of F_law1_filesMark b1 h Q
def plan99 : Plan := .s (.r [0]) (.s (.s (.r [0, 3]) (.bj [] [0] (.l [(3, .one (.int .i64))] [0] (.s (.s (.r [0, 3, 17]) (.c .z .z)) (.s (.bj [] [0, 3] (.s (.r [0, 3, 4]) (.s (.r [0, 3, 4, 5]) (.bj [] [0, 3] (.l [(5, .one (.int .i64))] [0, 3, 4] (.s (.s (.r [0, 3, 4, 5, 36]) (.c .z .z)) (.s (.b (.s (.r [0, 3, 4, 5, 6]) (.s (.rj [(60, .one .bool)] [0, 3, 4, 5]) (.c (.s (.r [2]) .z) .z)))) (.r [0, 3, 4, 5])))))))) (.r [0, 3])))))) (.s (.s (.r [0, 7]) (.bj [] [] (.l [(7, .one (.int .i64))] [0] (.s (.s (.r [0, 7, 67]) (.c .z .z)) (.s (.bj [] [0, 7] (.s (.r [0, 7, 8]) (.s (.r [0, 7, 8, 9]) (.bj [] [0, 7] (.l [(9, .one (.int .i64))] [0, 7, 8] (.s (.s (.r [0, 7, 8, 9, 86]) (.c .z .z)) (.s (.b (.s (.r [0, 7, 8, 9, 10]) (.s (.dj [0, 1, 0, 4, 12, 31, 63, 127, 255, 511, 1023, 2047, 4095] [[0, 1, 2, 3, 4, 5, 6, 7, 8, 9, 10, 11, 12]] [(111, .one .bool)] [0, 7, 8, 9]) (.c (.s (.r [2]) .z) .z)))) (.r [0, 7, 8, 9])))))))) (.r [0, 7])))))) (.s (.r [2]) .z)))
theorem F_law1_Book_held.eq (f131_ : Int → Heap → (ByteArray → Sl → Heap → Prop) → Prop) (b1 : Option Addr) (h : Heap) (K : Value → Heap → Prop) : F_law1_Book_held_of f131_ b1 h (fun (r0 : Bool) (h : Heap) => K (.bool r0) h) =
    den Try.prog (fn1 131 (E_law1_filesMark_of f131_) noFns) Try.f99.ntmps plan99 (bodyOf Try.f99) (args0 0 [(.pointer b1 : Value)]) h ⟨fun env h => dRes Try.prog Try.f99.results.toList env h K, fun _ _ _ => False, fun env h => dRes Try.prog Try.f99.results.toList env h K⟩ := by kernel_rfl
def E_law1_Book_held_of (f : Option Addr → Heap → (Bool → Heap → Prop) → Prop) : List Value → Heap → (Value → Heap → Prop) → Prop
  | [v0], h, K => dec1 .ptr v0 fun (b1 : Option Addr) =>
  f b1 h (fun (r0 : Bool) (h : Heap) => K (.bool r0) h)
  | _, _, _ => False
abbrev E_law1_Book_held := E_law1_Book_held_of F_law1_Book_held
theorem E_law1_Book_held.right : IsRight Try.prog 99 E_law1_Book_held := by
  refine isRight fun vs K w hh => ?_
  match vs, hh with
  | [v0], hh =>
    unfold E_law1_Book_held E_law1_Book_held_of at hh
    replace hh := dec1_sound hh; obtain ⟨b1, rfl, hh⟩ := hh
    unfold F_law1_Book_held at hh
    exact calls_den (fn1_right ok131 E_law1_filesMark.right noFns_right) plan99 _ w K Try.func99 (by kernel_rfl) (by kernel_rfl) (Eq.mp (F_law1_Book_held.eq F_law1_filesMark b1 w.heap K) hh)
theorem ok99 : okFn Try.prog 99 = true := by kernel_rfl
end Go.Proofs.Ytboidjampddfoaa.V
namespace Go.Proofs.Ytboidjampddfoaa.V
open Go Go.RowKit
set_option linter.unusedVariables false
set_option maxRecDepth 100000
def F_law1_Book_holds_of (f96_ : Option Addr → Heap → (Bool → Heap → Prop) → Prop) (f97_ : Option Addr → Heap → (Bool → Heap → Prop) → Prop) (f98_ : Option Addr → Heap → (Bool → Heap → Prop) → Prop) (f99_ : Option Addr → Heap → (Bool → Heap → Prop) → Prop) (b1 : Option Addr) (h : Heap) (Q : Bool → Heap → Prop) : Prop :=
  jn [(2, .one .bool)] (fun (x11 : Bool) (h12 : Heap) =>
  Q x11 h12) (fun (j2 : Bool → Heap → Prop) =>
  f96_ b1 h fun (r3 : Bool) (h4 : Heap) =>
  brr r3
  (f97_ b1 h4 fun (r5 : Bool) (h6 : Heap) =>
  brr r5
  (f98_ b1 h6 fun (r7 : Bool) (h8 : Heap) =>
  brr r7
  (f99_ b1 h8 fun (r9 : Bool) (h10 : Heap) =>
  j2 r9 h10)
  (j2 false h8))
  (j2 false h6))
  (j2 false h4))
def F_law1_Book_holds (b1 : Option Addr) (h : Heap) (Q : Bool → Heap → Prop) : Prop := F_law1_Book_holds_of F_law1_Book_plain F_law1_Book_kept F_law1_Book_told F_law1_Book_held b1 h Q
def plan83 : Plan := .s (.r [0]) (.s (.rj [(2, .one .bool)] []) .z)
theorem F_law1_Book_holds.eq (f96_ : Option Addr → Heap → (Bool → Heap → Prop) → Prop) (f97_ : Option Addr → Heap → (Bool → Heap → Prop) → Prop) (f98_ : Option Addr → Heap → (Bool → Heap → Prop) → Prop) (f99_ : Option Addr → Heap → (Bool → Heap → Prop) → Prop) (b1 : Option Addr) (h : Heap) (K : Value → Heap → Prop) : F_law1_Book_holds_of f96_ f97_ f98_ f99_ b1 h (fun (r0 : Bool) (h : Heap) => K (.bool r0) h) =
    den Try.prog (fn1 96 (E_law1_Book_plain_of f96_) (fn1 97 (E_law1_Book_kept_of f97_) (fn1 98 (E_law1_Book_told_of f98_) (fn1 99 (E_law1_Book_held_of f99_) noFns)))) Try.f83.ntmps plan83 (bodyOf Try.f83) (args0 0 [(.pointer b1 : Value)]) h ⟨fun env h => dRes Try.prog Try.f83.results.toList env h K, fun _ _ _ => False, fun env h => dRes Try.prog Try.f83.results.toList env h K⟩ := by kernel_rfl
def E_law1_Book_holds_of (f : Option Addr → Heap → (Bool → Heap → Prop) → Prop) : List Value → Heap → (Value → Heap → Prop) → Prop
  | [v0], h, K => dec1 .ptr v0 fun (b1 : Option Addr) =>
  f b1 h (fun (r0 : Bool) (h : Heap) => K (.bool r0) h)
  | _, _, _ => False
abbrev E_law1_Book_holds := E_law1_Book_holds_of F_law1_Book_holds
theorem E_law1_Book_holds.right : IsRight Try.prog 83 E_law1_Book_holds := by
  refine isRight fun vs K w hh => ?_
  match vs, hh with
  | [v0], hh =>
    unfold E_law1_Book_holds E_law1_Book_holds_of at hh
    replace hh := dec1_sound hh; obtain ⟨b1, rfl, hh⟩ := hh
    unfold F_law1_Book_holds at hh
    exact calls_den (fn1_right ok96 E_law1_Book_plain.right (fn1_right ok97 E_law1_Book_kept.right (fn1_right ok98 E_law1_Book_told.right (fn1_right ok99 E_law1_Book_held.right noFns_right)))) plan83 _ w K Try.func83 (by kernel_rfl) (by kernel_rfl) (Eq.mp (F_law1_Book_holds.eq F_law1_Book_plain F_law1_Book_kept F_law1_Book_told F_law1_Book_held b1 w.heap K) hh)
theorem ok83 : okFn Try.prog 83 = true := by kernel_rfl
end Go.Proofs.Ytboidjampddfoaa.V
namespace Go.Proofs.Ytboidjampddfoaa.V
open Go Go.RowKit
set_option linter.unusedVariables false
set_option maxRecDepth 100000
def F_law1_Book_growBytes.l1 (f121_ : Int → Int → Heap → (Int → Heap → Prop) → Prop) (b1 : Option Addr) (v18 : Int) (j19 : Heap → Prop) : Sl → Int → Heap → Prop :=
  wl [(4, .one .sl), (6, .one (.int .i64))] (fun (next20 : Sl → Int → Heap → Prop) (g21 : Sl) (i22 : Int) (h23 : Heap) =>
  brr (decide (i22 ≤ 96))
  (f121_ v18 ((g21.len : Nat) : Int) h23 fun (r24 : Int) (h25 : Heap) =>
  al 5 [.int .u8 r24] h25 fun (a26 : Addr) (h27 : Heap) =>
  app 5 1 1 (.int .u8 0) g21 (some a26) 1 h27 fun (s28 : Sl) (h29 : Heap) =>
  jn [(52, .one .bool)] (fun (x31 : Bool) (h32 : Heap) =>
  jn [] (fun  (h50 : Heap) =>
  next20 s28 (IntKind.i64.wrap (i22 + 1)) h50) (fun (j33 : Heap → Prop) =>
  brr x31
  (nn b1 fun (a34 : Addr) =>
  ld [.sl] (a34.add 0) h32 fun (v35 : Sl) =>
  al 31 [.slice s28.ptr s28.len s28.cap] h32 fun (a36 : Addr) (h37 : Heap) =>
  app 31 1 24 (.slice none 0 0) v35 (some a36) 1 h37 fun (s38 : Sl) (h39 : Heap) =>
  nn b1 fun (a40 : Addr) =>
  st (a40.add 0) [.slice s38.ptr s38.len s38.cap] h39 fun (h41 : Heap) =>
  nn b1 fun (a42 : Addr) =>
  ld [.sl] (a42.add 1) h41 fun (v43 : Sl) =>
  al 3 [.int .i64 v18] h41 fun (a44 : Addr) (h45 : Heap) =>
  app 3 1 8 (.int .i64 0) v43 (some a44) 1 h45 fun (s46 : Sl) (h47 : Heap) =>
  nn b1 fun (a48 : Addr) =>
  st (a48.add 1) [.slice s46.ptr s46.len s46.cap] h47 fun (h49 : Heap) =>
  j33 h49)
  (j33 h32))) (fun (j30 : Bool → Heap → Prop) =>
  brr (decide (i22 < 4))
  (j30 true h29)
  ((16 : Int) ≠ 0 ∧
  j30 ((i22.tmod 16) == 0) h29)))
  (j19 h23))
def F_law1_Book_growBytes.l2 (f121_ : Int → Int → Heap → (Int → Heap → Prop) → Prop) (b1 : Option Addr) (v3 : Sl) (j6 : Heap → Prop) : Int → Heap → Prop :=
  wl [(3, .one (.int .i64))] (fun (next7 : Int → Heap → Prop) (k8 : Int) (h9 : Heap) =>
  brr (decide (k8 < ((v3.len : Nat) : Int)))
  (jn [] (fun  (h52 : Heap) =>
  next7 (IntKind.i64.wrap (k8 + 1)) h52) (fun (j10 : Heap → Prop) =>
  nn b1 fun (a11 : Addr) =>
  ld [.sl] (a11.add 0) h9 fun (v12 : Sl) =>
  ixS 1 v12 k8 fun (a13 : Addr) =>
  ld [.sl] a13 h9 fun (v14 : Sl) =>
  nn b1 fun (a15 : Addr) =>
  ld [.sl] (a15.add 1) h9 fun (v16 : Sl) =>
  ixS 1 v16 k8 fun (a17 : Addr) =>
  ld [.int .i64] a17 h9 fun (v18 : Int) =>
  jn [] (fun  (h51 : Heap) =>
  j10 h51) (fun (j19 : Heap → Prop) =>
  F_law1_Book_growBytes.l1 f121_ b1 v18 j19 v14 1 h9)))
  (j6 h9))
def F_law1_Book_growBytes_of (f121_ : Int → Int → Heap → (Int → Heap → Prop) → Prop) (b1 : Option Addr) (h : Heap) (Q : Heap → Prop) : Prop :=
  nn b1 fun (a2 : Addr) =>
  ld [.sl] (a2.add 0) h fun (v3 : Sl) =>
  nn b1 fun (a4 : Addr) =>
  ld [.int .i64] (a4.add 2) h fun (v5 : Int) =>
  jn [] (fun  (h53 : Heap) =>
  nn b1 fun (a54 : Addr) =>
  ld [.sl] (a54.add 0) h53 fun (v55 : Sl) =>
  nn b1 fun (a56 : Addr) =>
  st (a56.add 2) [.int .i64 ((v55.len : Nat) : Int)] h53 fun (h57 : Heap) =>
  Q h57) (fun (j6 : Heap → Prop) =>
  F_law1_Book_growBytes.l2 f121_ b1 v3 j6 v5 h)
def F_law1_Book_growBytes (b1 : Option Addr) (h : Heap) (Q : Heap → Prop) : Prop := F_law1_Book_growBytes_of F_law1_at b1 h Q
def plan100 : Plan := .s (.r [0, 2]) (.s (.s (.r [0, 2, 3]) (.bj [] [0] (.l [(3, .one (.int .i64))] [0, 2] (.s (.s (.r [0, 2, 3, 18]) (.c .z .z)) (.s (.bj [] [0, 2, 3] (.s (.r [0, 2, 3, 4]) (.s (.r [0, 2, 3, 4, 5]) (.s (.r [0, 2, 3, 4, 5, 6]) (.bj [] [0, 2, 3] (.l [(4, .one .sl), (6, .one (.int .i64))] [0, 2, 3, 5] (.s (.s (.r [0, 2, 3, 4, 5, 6, 36]) (.c .z .z)) (.s (.b (.s (.r [0, 2, 3, 4, 5, 6]) (.s (.rj [(52, .one .bool)] [0, 2, 3, 4, 5, 6]) (.cj [] [0, 2, 3, 4, 5, 6] (.s (.r [0, 2, 3, 4, 5, 6]) (.r [0, 2, 3, 4, 5, 6])) .z)))) (.r [0, 2, 3, 4, 5, 6]))))))))) (.r [0, 2, 3])))))) (.r []))
theorem F_law1_Book_growBytes.eq (f121_ : Int → Int → Heap → (Int → Heap → Prop) → Prop) (b1 : Option Addr) (h : Heap) (K : Value → Heap → Prop) : F_law1_Book_growBytes_of f121_ b1 h (fun  (h : Heap) => K (.tuple #[]) h) =
    den Try.prog (fn1 121 (E_law1_at_of f121_) noFns) Try.f100.ntmps plan100 (bodyOf Try.f100) (args0 0 [(.pointer b1 : Value)]) h ⟨fun env h => dRes Try.prog Try.f100.results.toList env h K, fun _ _ _ => False, fun env h => dRes Try.prog Try.f100.results.toList env h K⟩ := by kernel_rfl
def E_law1_Book_growBytes_of (f : Option Addr → Heap → (Heap → Prop) → Prop) : List Value → Heap → (Value → Heap → Prop) → Prop
  | [v0], h, K => dec1 .ptr v0 fun (b1 : Option Addr) =>
  f b1 h (fun  (h : Heap) => K (.tuple #[]) h)
  | _, _, _ => False
abbrev E_law1_Book_growBytes := E_law1_Book_growBytes_of F_law1_Book_growBytes
theorem E_law1_Book_growBytes.right : IsRight Try.prog 100 E_law1_Book_growBytes := by
  refine isRight fun vs K w hh => ?_
  match vs, hh with
  | [v0], hh =>
    unfold E_law1_Book_growBytes E_law1_Book_growBytes_of at hh
    replace hh := dec1_sound hh; obtain ⟨b1, rfl, hh⟩ := hh
    unfold F_law1_Book_growBytes at hh
    exact calls_den (fn1_right ok121 E_law1_at.right noFns_right) plan100 _ w K Try.func100 (by kernel_rfl) (by kernel_rfl) (Eq.mp (F_law1_Book_growBytes.eq F_law1_at b1 w.heap K) hh)
theorem ok100 : okFn Try.prog 100 = true := by kernel_rfl
end Go.Proofs.Ytboidjampddfoaa.V
namespace Go.Proofs.Ytboidjampddfoaa.V
open Go Go.RowKit
set_option linter.unusedVariables false
set_option maxRecDepth 100000
def F_law1_Book_growRows.l1 (f121_ : Int → Int → Heap → (Int → Heap → Prop) → Prop) (b1 : Option Addr) (v18 : Int) (j19 : Heap → Prop) : Sl → Int → Heap → Prop :=
  wl [(4, .one .sl), (6, .one (.int .i64))] (fun (next20 : Sl → Int → Heap → Prop) (g21 : Sl) (i22 : Int) (h23 : Heap) =>
  brr (decide (i22 ≤ 32))
  (f121_ v18 0 h23 fun (r24 : Int) (h25 : Heap) =>
  f121_ v18 1 h25 fun (r26 : Int) (h27 : Heap) =>
  al 5 [.int .u8 r24, .int .u8 r26] h27 fun (a28 : Addr) (h29 : Heap) =>
  al 31 [.slice (some a28) 2 2] h29 fun (a30 : Addr) (h31 : Heap) =>
  app 31 1 24 (.slice none 0 0) g21 (some a30) 1 h31 fun (s32 : Sl) (h33 : Heap) =>
  jn [(53, .one .bool)] (fun (x35 : Bool) (h36 : Heap) =>
  jn [] (fun  (h54 : Heap) =>
  next20 s32 (IntKind.i64.wrap (i22 + 1)) h54) (fun (j37 : Heap → Prop) =>
  brr x35
  (nn b1 fun (a38 : Addr) =>
  ld [.sl] (a38.add 3) h36 fun (v39 : Sl) =>
  al 101 [.slice s32.ptr s32.len s32.cap] h36 fun (a40 : Addr) (h41 : Heap) =>
  app 101 1 24 (.slice none 0 0) v39 (some a40) 1 h41 fun (s42 : Sl) (h43 : Heap) =>
  nn b1 fun (a44 : Addr) =>
  st (a44.add 3) [.slice s42.ptr s42.len s42.cap] h43 fun (h45 : Heap) =>
  nn b1 fun (a46 : Addr) =>
  ld [.sl] (a46.add 4) h45 fun (v47 : Sl) =>
  al 3 [.int .i64 v18] h45 fun (a48 : Addr) (h49 : Heap) =>
  app 3 1 8 (.int .i64 0) v47 (some a48) 1 h49 fun (s50 : Sl) (h51 : Heap) =>
  nn b1 fun (a52 : Addr) =>
  st (a52.add 4) [.slice s50.ptr s50.len s50.cap] h51 fun (h53 : Heap) =>
  j37 h53)
  (j37 h36))) (fun (j34 : Bool → Heap → Prop) =>
  brr (decide (i22 < 4))
  (j34 true h33)
  ((16 : Int) ≠ 0 ∧
  j34 ((i22.tmod 16) == 0) h33)))
  (j19 h23))
def F_law1_Book_growRows.l2 (f121_ : Int → Int → Heap → (Int → Heap → Prop) → Prop) (b1 : Option Addr) (v3 : Sl) (j6 : Heap → Prop) : Int → Heap → Prop :=
  wl [(3, .one (.int .i64))] (fun (next7 : Int → Heap → Prop) (k8 : Int) (h9 : Heap) =>
  brr (decide (k8 < ((v3.len : Nat) : Int)))
  (jn [] (fun  (h56 : Heap) =>
  next7 (IntKind.i64.wrap (k8 + 1)) h56) (fun (j10 : Heap → Prop) =>
  nn b1 fun (a11 : Addr) =>
  ld [.sl] (a11.add 3) h9 fun (v12 : Sl) =>
  ixS 1 v12 k8 fun (a13 : Addr) =>
  ld [.sl] a13 h9 fun (v14 : Sl) =>
  nn b1 fun (a15 : Addr) =>
  ld [.sl] (a15.add 4) h9 fun (v16 : Sl) =>
  ixS 1 v16 k8 fun (a17 : Addr) =>
  ld [.int .i64] a17 h9 fun (v18 : Int) =>
  jn [] (fun  (h55 : Heap) =>
  j10 h55) (fun (j19 : Heap → Prop) =>
  F_law1_Book_growRows.l1 f121_ b1 v18 j19 v14 1 h9)))
  (j6 h9))
def F_law1_Book_growRows_of (f121_ : Int → Int → Heap → (Int → Heap → Prop) → Prop) (b1 : Option Addr) (h : Heap) (Q : Heap → Prop) : Prop :=
  nn b1 fun (a2 : Addr) =>
  ld [.sl] (a2.add 3) h fun (v3 : Sl) =>
  nn b1 fun (a4 : Addr) =>
  ld [.int .i64] (a4.add 5) h fun (v5 : Int) =>
  jn [] (fun  (h57 : Heap) =>
  nn b1 fun (a58 : Addr) =>
  ld [.sl] (a58.add 3) h57 fun (v59 : Sl) =>
  nn b1 fun (a60 : Addr) =>
  st (a60.add 5) [.int .i64 ((v59.len : Nat) : Int)] h57 fun (h61 : Heap) =>
  Q h61) (fun (j6 : Heap → Prop) =>
  F_law1_Book_growRows.l2 f121_ b1 v3 j6 v5 h)
def F_law1_Book_growRows (b1 : Option Addr) (h : Heap) (Q : Heap → Prop) : Prop := F_law1_Book_growRows_of F_law1_at b1 h Q
def plan101 : Plan := .s (.r [0, 2]) (.s (.s (.r [0, 2, 3]) (.bj [] [0] (.l [(3, .one (.int .i64))] [0, 2] (.s (.s (.r [0, 2, 3, 18]) (.c .z .z)) (.s (.bj [] [0, 2, 3] (.s (.r [0, 2, 3, 4]) (.s (.r [0, 2, 3, 4, 5]) (.s (.r [0, 2, 3, 4, 5, 6]) (.bj [] [0, 2, 3] (.l [(4, .one .sl), (6, .one (.int .i64))] [0, 2, 3, 5] (.s (.s (.r [0, 2, 3, 4, 5, 6, 36]) (.c .z .z)) (.s (.b (.s (.r [0, 2, 3, 4, 5, 6]) (.s (.rj [(53, .one .bool)] [0, 2, 3, 4, 5, 6]) (.cj [] [0, 2, 3, 4, 5, 6] (.s (.r [0, 2, 3, 4, 5, 6]) (.r [0, 2, 3, 4, 5, 6])) .z)))) (.r [0, 2, 3, 4, 5, 6]))))))))) (.r [0, 2, 3])))))) (.r []))
theorem F_law1_Book_growRows.eq (f121_ : Int → Int → Heap → (Int → Heap → Prop) → Prop) (b1 : Option Addr) (h : Heap) (K : Value → Heap → Prop) : F_law1_Book_growRows_of f121_ b1 h (fun  (h : Heap) => K (.tuple #[]) h) =
    den Try.prog (fn1 121 (E_law1_at_of f121_) noFns) Try.f101.ntmps plan101 (bodyOf Try.f101) (args0 0 [(.pointer b1 : Value)]) h ⟨fun env h => dRes Try.prog Try.f101.results.toList env h K, fun _ _ _ => False, fun env h => dRes Try.prog Try.f101.results.toList env h K⟩ := by kernel_rfl
def E_law1_Book_growRows_of (f : Option Addr → Heap → (Heap → Prop) → Prop) : List Value → Heap → (Value → Heap → Prop) → Prop
  | [v0], h, K => dec1 .ptr v0 fun (b1 : Option Addr) =>
  f b1 h (fun  (h : Heap) => K (.tuple #[]) h)
  | _, _, _ => False
abbrev E_law1_Book_growRows := E_law1_Book_growRows_of F_law1_Book_growRows
theorem E_law1_Book_growRows.right : IsRight Try.prog 101 E_law1_Book_growRows := by
  refine isRight fun vs K w hh => ?_
  match vs, hh with
  | [v0], hh =>
    unfold E_law1_Book_growRows E_law1_Book_growRows_of at hh
    replace hh := dec1_sound hh; obtain ⟨b1, rfl, hh⟩ := hh
    unfold F_law1_Book_growRows at hh
    exact calls_den (fn1_right ok121 E_law1_at.right noFns_right) plan101 _ w K Try.func101 (by kernel_rfl) (by kernel_rfl) (Eq.mp (F_law1_Book_growRows.eq F_law1_at b1 w.heap K) hh)
theorem ok101 : okFn Try.prog 101 = true := by kernel_rfl
end Go.Proofs.Ytboidjampddfoaa.V
namespace Go.Proofs.Ytboidjampddfoaa.V
open Go Go.RowKit
set_option linter.unusedVariables false
set_option maxRecDepth 100000
def F_law1_Book_growTexts.l1 (f124_ : Int → Heap → (ByteArray → Heap → Prop) → Prop) (b1 : Option Addr) (v18 : Int) (j19 : Heap → Prop) : Sl → Int → Heap → Prop :=
  wl [(4, .one .sl), (6, .one (.int .i64))] (fun (next20 : Sl → Int → Heap → Prop) (g21 : Sl) (i22 : Int) (h23 : Heap) =>
  brr (decide (i22 ≤ 32))
  (f124_ v18 h23 fun (r24 : ByteArray) (h25 : Heap) =>
  al 9 [.string r24] h25 fun (a26 : Addr) (h27 : Heap) =>
  app 9 1 16 (.string (⟨#[]⟩ : ByteArray)) g21 (some a26) 1 h27 fun (s28 : Sl) (h29 : Heap) =>
  jn [(50, .one .bool)] (fun (x31 : Bool) (h32 : Heap) =>
  jn [] (fun  (h50 : Heap) =>
  next20 s28 (IntKind.i64.wrap (i22 + 1)) h50) (fun (j33 : Heap → Prop) =>
  brr x31
  (nn b1 fun (a34 : Addr) =>
  ld [.sl] (a34.add 6) h32 fun (v35 : Sl) =>
  al 186 [.slice s28.ptr s28.len s28.cap] h32 fun (a36 : Addr) (h37 : Heap) =>
  app 186 1 24 (.slice none 0 0) v35 (some a36) 1 h37 fun (s38 : Sl) (h39 : Heap) =>
  nn b1 fun (a40 : Addr) =>
  st (a40.add 6) [.slice s38.ptr s38.len s38.cap] h39 fun (h41 : Heap) =>
  nn b1 fun (a42 : Addr) =>
  ld [.sl] (a42.add 7) h41 fun (v43 : Sl) =>
  al 3 [.int .i64 v18] h41 fun (a44 : Addr) (h45 : Heap) =>
  app 3 1 8 (.int .i64 0) v43 (some a44) 1 h45 fun (s46 : Sl) (h47 : Heap) =>
  nn b1 fun (a48 : Addr) =>
  st (a48.add 7) [.slice s46.ptr s46.len s46.cap] h47 fun (h49 : Heap) =>
  j33 h49)
  (j33 h32))) (fun (j30 : Bool → Heap → Prop) =>
  brr (decide (i22 < 4))
  (j30 true h29)
  ((16 : Int) ≠ 0 ∧
  j30 ((i22.tmod 16) == 0) h29)))
  (j19 h23))
def F_law1_Book_growTexts.l2 (f124_ : Int → Heap → (ByteArray → Heap → Prop) → Prop) (b1 : Option Addr) (v3 : Sl) (j6 : Heap → Prop) : Int → Heap → Prop :=
  wl [(3, .one (.int .i64))] (fun (next7 : Int → Heap → Prop) (k8 : Int) (h9 : Heap) =>
  brr (decide (k8 < ((v3.len : Nat) : Int)))
  (jn [] (fun  (h52 : Heap) =>
  next7 (IntKind.i64.wrap (k8 + 1)) h52) (fun (j10 : Heap → Prop) =>
  nn b1 fun (a11 : Addr) =>
  ld [.sl] (a11.add 6) h9 fun (v12 : Sl) =>
  ixS 1 v12 k8 fun (a13 : Addr) =>
  ld [.sl] a13 h9 fun (v14 : Sl) =>
  nn b1 fun (a15 : Addr) =>
  ld [.sl] (a15.add 7) h9 fun (v16 : Sl) =>
  ixS 1 v16 k8 fun (a17 : Addr) =>
  ld [.int .i64] a17 h9 fun (v18 : Int) =>
  jn [] (fun  (h51 : Heap) =>
  j10 h51) (fun (j19 : Heap → Prop) =>
  F_law1_Book_growTexts.l1 f124_ b1 v18 j19 v14 1 h9)))
  (j6 h9))
def F_law1_Book_growTexts_of (f124_ : Int → Heap → (ByteArray → Heap → Prop) → Prop) (b1 : Option Addr) (h : Heap) (Q : Heap → Prop) : Prop :=
  nn b1 fun (a2 : Addr) =>
  ld [.sl] (a2.add 6) h fun (v3 : Sl) =>
  nn b1 fun (a4 : Addr) =>
  ld [.int .i64] (a4.add 8) h fun (v5 : Int) =>
  jn [] (fun  (h53 : Heap) =>
  nn b1 fun (a54 : Addr) =>
  ld [.sl] (a54.add 6) h53 fun (v55 : Sl) =>
  nn b1 fun (a56 : Addr) =>
  st (a56.add 8) [.int .i64 ((v55.len : Nat) : Int)] h53 fun (h57 : Heap) =>
  Q h57) (fun (j6 : Heap → Prop) =>
  F_law1_Book_growTexts.l2 f124_ b1 v3 j6 v5 h)
def F_law1_Book_growTexts (b1 : Option Addr) (h : Heap) (Q : Heap → Prop) : Prop := F_law1_Book_growTexts_of F_law1_textsMark b1 h Q
def plan102 : Plan := .s (.r [0, 2]) (.s (.s (.r [0, 2, 3]) (.bj [] [0] (.l [(3, .one (.int .i64))] [0, 2] (.s (.s (.r [0, 2, 3, 18]) (.c .z .z)) (.s (.bj [] [0, 2, 3] (.s (.r [0, 2, 3, 4]) (.s (.r [0, 2, 3, 4, 5]) (.s (.r [0, 2, 3, 4, 5, 6]) (.bj [] [0, 2, 3] (.l [(4, .one .sl), (6, .one (.int .i64))] [0, 2, 3, 5] (.s (.s (.r [0, 2, 3, 4, 5, 6, 36]) (.c .z .z)) (.s (.b (.s (.r [0, 2, 3, 4, 5, 6]) (.s (.rj [(50, .one .bool)] [0, 2, 3, 4, 5, 6]) (.cj [] [0, 2, 3, 4, 5, 6] (.s (.r [0, 2, 3, 4, 5, 6]) (.r [0, 2, 3, 4, 5, 6])) .z)))) (.r [0, 2, 3, 4, 5, 6]))))))))) (.r [0, 2, 3])))))) (.r []))
theorem F_law1_Book_growTexts.eq (f124_ : Int → Heap → (ByteArray → Heap → Prop) → Prop) (b1 : Option Addr) (h : Heap) (K : Value → Heap → Prop) : F_law1_Book_growTexts_of f124_ b1 h (fun  (h : Heap) => K (.tuple #[]) h) =
    den Try.prog (fn1 124 (E_law1_textsMark_of f124_) noFns) Try.f102.ntmps plan102 (bodyOf Try.f102) (args0 0 [(.pointer b1 : Value)]) h ⟨fun env h => dRes Try.prog Try.f102.results.toList env h K, fun _ _ _ => False, fun env h => dRes Try.prog Try.f102.results.toList env h K⟩ := by kernel_rfl
def E_law1_Book_growTexts_of (f : Option Addr → Heap → (Heap → Prop) → Prop) : List Value → Heap → (Value → Heap → Prop) → Prop
  | [v0], h, K => dec1 .ptr v0 fun (b1 : Option Addr) =>
  f b1 h (fun  (h : Heap) => K (.tuple #[]) h)
  | _, _, _ => False
abbrev E_law1_Book_growTexts := E_law1_Book_growTexts_of F_law1_Book_growTexts
theorem E_law1_Book_growTexts.right : IsRight Try.prog 102 E_law1_Book_growTexts := by
  refine isRight fun vs K w hh => ?_
  match vs, hh with
  | [v0], hh =>
    unfold E_law1_Book_growTexts E_law1_Book_growTexts_of at hh
    replace hh := dec1_sound hh; obtain ⟨b1, rfl, hh⟩ := hh
    unfold F_law1_Book_growTexts at hh
    exact calls_den (fn1_right ok124 E_law1_textsMark.right noFns_right) plan102 _ w K Try.func102 (by kernel_rfl) (by kernel_rfl) (Eq.mp (F_law1_Book_growTexts.eq F_law1_textsMark b1 w.heap K) hh)
theorem ok102 : okFn Try.prog 102 = true := by kernel_rfl
end Go.Proofs.Ytboidjampddfoaa.V
namespace Go.Proofs.Ytboidjampddfoaa.V
open Go Go.RowKit
set_option linter.unusedVariables false
set_option maxRecDepth 100000
def F_law1_Book_growInts.l1 (f125_ : Int → Heap → (Int → Heap → Prop) → Prop) (b1 : Option Addr) (v18 : Int) (j19 : Heap → Prop) : Sl → Int → Heap → Prop :=
  wl [(4, .one .sl), (6, .one (.int .i64))] (fun (next20 : Sl → Int → Heap → Prop) (g21 : Sl) (i22 : Int) (h23 : Heap) =>
  brr (decide (i22 ≤ 32))
  (f125_ v18 h23 fun (r24 : Int) (h25 : Heap) =>
  al 3 [.int .i64 r24] h25 fun (a26 : Addr) (h27 : Heap) =>
  app 3 1 8 (.int .i64 0) g21 (some a26) 1 h27 fun (s28 : Sl) (h29 : Heap) =>
  jn [(50, .one .bool)] (fun (x31 : Bool) (h32 : Heap) =>
  jn [] (fun  (h50 : Heap) =>
  next20 s28 (IntKind.i64.wrap (i22 + 1)) h50) (fun (j33 : Heap → Prop) =>
  brr x31
  (nn b1 fun (a34 : Addr) =>
  ld [.sl] (a34.add 9) h32 fun (v35 : Sl) =>
  al 51 [.slice s28.ptr s28.len s28.cap] h32 fun (a36 : Addr) (h37 : Heap) =>
  app 51 1 24 (.slice none 0 0) v35 (some a36) 1 h37 fun (s38 : Sl) (h39 : Heap) =>
  nn b1 fun (a40 : Addr) =>
  st (a40.add 9) [.slice s38.ptr s38.len s38.cap] h39 fun (h41 : Heap) =>
  nn b1 fun (a42 : Addr) =>
  ld [.sl] (a42.add 10) h41 fun (v43 : Sl) =>
  al 3 [.int .i64 v18] h41 fun (a44 : Addr) (h45 : Heap) =>
  app 3 1 8 (.int .i64 0) v43 (some a44) 1 h45 fun (s46 : Sl) (h47 : Heap) =>
  nn b1 fun (a48 : Addr) =>
  st (a48.add 10) [.slice s46.ptr s46.len s46.cap] h47 fun (h49 : Heap) =>
  j33 h49)
  (j33 h32))) (fun (j30 : Bool → Heap → Prop) =>
  brr (decide (i22 < 4))
  (j30 true h29)
  ((16 : Int) ≠ 0 ∧
  j30 ((i22.tmod 16) == 0) h29)))
  (j19 h23))
def F_law1_Book_growInts.l2 (f125_ : Int → Heap → (Int → Heap → Prop) → Prop) (b1 : Option Addr) (v3 : Sl) (j6 : Heap → Prop) : Int → Heap → Prop :=
  wl [(3, .one (.int .i64))] (fun (next7 : Int → Heap → Prop) (k8 : Int) (h9 : Heap) =>
  brr (decide (k8 < ((v3.len : Nat) : Int)))
  (jn [] (fun  (h52 : Heap) =>
  next7 (IntKind.i64.wrap (k8 + 1)) h52) (fun (j10 : Heap → Prop) =>
  nn b1 fun (a11 : Addr) =>
  ld [.sl] (a11.add 9) h9 fun (v12 : Sl) =>
  ixS 1 v12 k8 fun (a13 : Addr) =>
  ld [.sl] a13 h9 fun (v14 : Sl) =>
  nn b1 fun (a15 : Addr) =>
  ld [.sl] (a15.add 10) h9 fun (v16 : Sl) =>
  ixS 1 v16 k8 fun (a17 : Addr) =>
  ld [.int .i64] a17 h9 fun (v18 : Int) =>
  jn [] (fun  (h51 : Heap) =>
  j10 h51) (fun (j19 : Heap → Prop) =>
  F_law1_Book_growInts.l1 f125_ b1 v18 j19 v14 1 h9)))
  (j6 h9))
def F_law1_Book_growInts_of (f125_ : Int → Heap → (Int → Heap → Prop) → Prop) (b1 : Option Addr) (h : Heap) (Q : Heap → Prop) : Prop :=
  nn b1 fun (a2 : Addr) =>
  ld [.sl] (a2.add 9) h fun (v3 : Sl) =>
  nn b1 fun (a4 : Addr) =>
  ld [.int .i64] (a4.add 11) h fun (v5 : Int) =>
  jn [] (fun  (h53 : Heap) =>
  nn b1 fun (a54 : Addr) =>
  ld [.sl] (a54.add 9) h53 fun (v55 : Sl) =>
  nn b1 fun (a56 : Addr) =>
  st (a56.add 11) [.int .i64 ((v55.len : Nat) : Int)] h53 fun (h57 : Heap) =>
  Q h57) (fun (j6 : Heap → Prop) =>
  F_law1_Book_growInts.l2 f125_ b1 v3 j6 v5 h)
def F_law1_Book_growInts (b1 : Option Addr) (h : Heap) (Q : Heap → Prop) : Prop := F_law1_Book_growInts_of F_law1_intsMark b1 h Q
def plan103 : Plan := .s (.r [0, 2]) (.s (.s (.r [0, 2, 3]) (.bj [] [0] (.l [(3, .one (.int .i64))] [0, 2] (.s (.s (.r [0, 2, 3, 18]) (.c .z .z)) (.s (.bj [] [0, 2, 3] (.s (.r [0, 2, 3, 4]) (.s (.r [0, 2, 3, 4, 5]) (.s (.r [0, 2, 3, 4, 5, 6]) (.bj [] [0, 2, 3] (.l [(4, .one .sl), (6, .one (.int .i64))] [0, 2, 3, 5] (.s (.s (.r [0, 2, 3, 4, 5, 6, 36]) (.c .z .z)) (.s (.b (.s (.r [0, 2, 3, 4, 5, 6]) (.s (.rj [(50, .one .bool)] [0, 2, 3, 4, 5, 6]) (.cj [] [0, 2, 3, 4, 5, 6] (.s (.r [0, 2, 3, 4, 5, 6]) (.r [0, 2, 3, 4, 5, 6])) .z)))) (.r [0, 2, 3, 4, 5, 6]))))))))) (.r [0, 2, 3])))))) (.r []))
theorem F_law1_Book_growInts.eq (f125_ : Int → Heap → (Int → Heap → Prop) → Prop) (b1 : Option Addr) (h : Heap) (K : Value → Heap → Prop) : F_law1_Book_growInts_of f125_ b1 h (fun  (h : Heap) => K (.tuple #[]) h) =
    den Try.prog (fn1 125 (E_law1_intsMark_of f125_) noFns) Try.f103.ntmps plan103 (bodyOf Try.f103) (args0 0 [(.pointer b1 : Value)]) h ⟨fun env h => dRes Try.prog Try.f103.results.toList env h K, fun _ _ _ => False, fun env h => dRes Try.prog Try.f103.results.toList env h K⟩ := by kernel_rfl
def E_law1_Book_growInts_of (f : Option Addr → Heap → (Heap → Prop) → Prop) : List Value → Heap → (Value → Heap → Prop) → Prop
  | [v0], h, K => dec1 .ptr v0 fun (b1 : Option Addr) =>
  f b1 h (fun  (h : Heap) => K (.tuple #[]) h)
  | _, _, _ => False
abbrev E_law1_Book_growInts := E_law1_Book_growInts_of F_law1_Book_growInts
theorem E_law1_Book_growInts.right : IsRight Try.prog 103 E_law1_Book_growInts := by
  refine isRight fun vs K w hh => ?_
  match vs, hh with
  | [v0], hh =>
    unfold E_law1_Book_growInts E_law1_Book_growInts_of at hh
    replace hh := dec1_sound hh; obtain ⟨b1, rfl, hh⟩ := hh
    unfold F_law1_Book_growInts at hh
    exact calls_den (fn1_right ok125 E_law1_intsMark.right noFns_right) plan103 _ w K Try.func103 (by kernel_rfl) (by kernel_rfl) (Eq.mp (F_law1_Book_growInts.eq F_law1_intsMark b1 w.heap K) hh)
theorem ok103 : okFn Try.prog 103 = true := by kernel_rfl
end Go.Proofs.Ytboidjampddfoaa.V
namespace Go.Proofs.Ytboidjampddfoaa.V
open Go Go.RowKit
set_option linter.unusedVariables false
set_option maxRecDepth 100000
def F_law1_Book_growWords.l1 (f126_ : Int → Heap → (Int → Heap → Prop) → Prop) (b1 : Option Addr) (v18 : Int) (j19 : Heap → Prop) : Sl → Int → Heap → Prop :=
  wl [(4, .one .sl), (6, .one (.int .i64))] (fun (next20 : Sl → Int → Heap → Prop) (g21 : Sl) (i22 : Int) (h23 : Heap) =>
  brr (decide (i22 ≤ 32))
  (f126_ v18 h23 fun (r24 : Int) (h25 : Heap) =>
  al 28 [.int .u64 r24] h25 fun (a26 : Addr) (h27 : Heap) =>
  app 28 1 8 (.int .u64 0) g21 (some a26) 1 h27 fun (s28 : Sl) (h29 : Heap) =>
  jn [(50, .one .bool)] (fun (x31 : Bool) (h32 : Heap) =>
  jn [] (fun  (h50 : Heap) =>
  next20 s28 (IntKind.i64.wrap (i22 + 1)) h50) (fun (j33 : Heap → Prop) =>
  brr x31
  (nn b1 fun (a34 : Addr) =>
  ld [.sl] (a34.add 12) h32 fun (v35 : Sl) =>
  al 89 [.slice s28.ptr s28.len s28.cap] h32 fun (a36 : Addr) (h37 : Heap) =>
  app 89 1 24 (.slice none 0 0) v35 (some a36) 1 h37 fun (s38 : Sl) (h39 : Heap) =>
  nn b1 fun (a40 : Addr) =>
  st (a40.add 12) [.slice s38.ptr s38.len s38.cap] h39 fun (h41 : Heap) =>
  nn b1 fun (a42 : Addr) =>
  ld [.sl] (a42.add 13) h41 fun (v43 : Sl) =>
  al 3 [.int .i64 v18] h41 fun (a44 : Addr) (h45 : Heap) =>
  app 3 1 8 (.int .i64 0) v43 (some a44) 1 h45 fun (s46 : Sl) (h47 : Heap) =>
  nn b1 fun (a48 : Addr) =>
  st (a48.add 13) [.slice s46.ptr s46.len s46.cap] h47 fun (h49 : Heap) =>
  j33 h49)
  (j33 h32))) (fun (j30 : Bool → Heap → Prop) =>
  brr (decide (i22 < 4))
  (j30 true h29)
  ((16 : Int) ≠ 0 ∧
  j30 ((i22.tmod 16) == 0) h29)))
  (j19 h23))
def F_law1_Book_growWords.l2 (f126_ : Int → Heap → (Int → Heap → Prop) → Prop) (b1 : Option Addr) (v3 : Sl) (j6 : Heap → Prop) : Int → Heap → Prop :=
  wl [(3, .one (.int .i64))] (fun (next7 : Int → Heap → Prop) (k8 : Int) (h9 : Heap) =>
  brr (decide (k8 < ((v3.len : Nat) : Int)))
  (jn [] (fun  (h52 : Heap) =>
  next7 (IntKind.i64.wrap (k8 + 1)) h52) (fun (j10 : Heap → Prop) =>
  nn b1 fun (a11 : Addr) =>
  ld [.sl] (a11.add 12) h9 fun (v12 : Sl) =>
  ixS 1 v12 k8 fun (a13 : Addr) =>
  ld [.sl] a13 h9 fun (v14 : Sl) =>
  nn b1 fun (a15 : Addr) =>
  ld [.sl] (a15.add 13) h9 fun (v16 : Sl) =>
  ixS 1 v16 k8 fun (a17 : Addr) =>
  ld [.int .i64] a17 h9 fun (v18 : Int) =>
  jn [] (fun  (h51 : Heap) =>
  j10 h51) (fun (j19 : Heap → Prop) =>
  F_law1_Book_growWords.l1 f126_ b1 v18 j19 v14 1 h9)))
  (j6 h9))
def F_law1_Book_growWords_of (f126_ : Int → Heap → (Int → Heap → Prop) → Prop) (b1 : Option Addr) (h : Heap) (Q : Heap → Prop) : Prop :=
  nn b1 fun (a2 : Addr) =>
  ld [.sl] (a2.add 12) h fun (v3 : Sl) =>
  nn b1 fun (a4 : Addr) =>
  ld [.int .i64] (a4.add 14) h fun (v5 : Int) =>
  jn [] (fun  (h53 : Heap) =>
  nn b1 fun (a54 : Addr) =>
  ld [.sl] (a54.add 12) h53 fun (v55 : Sl) =>
  nn b1 fun (a56 : Addr) =>
  st (a56.add 14) [.int .i64 ((v55.len : Nat) : Int)] h53 fun (h57 : Heap) =>
  Q h57) (fun (j6 : Heap → Prop) =>
  F_law1_Book_growWords.l2 f126_ b1 v3 j6 v5 h)
def F_law1_Book_growWords (b1 : Option Addr) (h : Heap) (Q : Heap → Prop) : Prop := F_law1_Book_growWords_of F_law1_wordsMark b1 h Q
def plan104 : Plan := .s (.r [0, 2]) (.s (.s (.r [0, 2, 3]) (.bj [] [0] (.l [(3, .one (.int .i64))] [0, 2] (.s (.s (.r [0, 2, 3, 18]) (.c .z .z)) (.s (.bj [] [0, 2, 3] (.s (.r [0, 2, 3, 4]) (.s (.r [0, 2, 3, 4, 5]) (.s (.r [0, 2, 3, 4, 5, 6]) (.bj [] [0, 2, 3] (.l [(4, .one .sl), (6, .one (.int .i64))] [0, 2, 3, 5] (.s (.s (.r [0, 2, 3, 4, 5, 6, 36]) (.c .z .z)) (.s (.b (.s (.r [0, 2, 3, 4, 5, 6]) (.s (.rj [(50, .one .bool)] [0, 2, 3, 4, 5, 6]) (.cj [] [0, 2, 3, 4, 5, 6] (.s (.r [0, 2, 3, 4, 5, 6]) (.r [0, 2, 3, 4, 5, 6])) .z)))) (.r [0, 2, 3, 4, 5, 6]))))))))) (.r [0, 2, 3])))))) (.r []))
theorem F_law1_Book_growWords.eq (f126_ : Int → Heap → (Int → Heap → Prop) → Prop) (b1 : Option Addr) (h : Heap) (K : Value → Heap → Prop) : F_law1_Book_growWords_of f126_ b1 h (fun  (h : Heap) => K (.tuple #[]) h) =
    den Try.prog (fn1 126 (E_law1_wordsMark_of f126_) noFns) Try.f104.ntmps plan104 (bodyOf Try.f104) (args0 0 [(.pointer b1 : Value)]) h ⟨fun env h => dRes Try.prog Try.f104.results.toList env h K, fun _ _ _ => False, fun env h => dRes Try.prog Try.f104.results.toList env h K⟩ := by kernel_rfl
def E_law1_Book_growWords_of (f : Option Addr → Heap → (Heap → Prop) → Prop) : List Value → Heap → (Value → Heap → Prop) → Prop
  | [v0], h, K => dec1 .ptr v0 fun (b1 : Option Addr) =>
  f b1 h (fun  (h : Heap) => K (.tuple #[]) h)
  | _, _, _ => False
abbrev E_law1_Book_growWords := E_law1_Book_growWords_of F_law1_Book_growWords
theorem E_law1_Book_growWords.right : IsRight Try.prog 104 E_law1_Book_growWords := by
  refine isRight fun vs K w hh => ?_
  match vs, hh with
  | [v0], hh =>
    unfold E_law1_Book_growWords E_law1_Book_growWords_of at hh
    replace hh := dec1_sound hh; obtain ⟨b1, rfl, hh⟩ := hh
    unfold F_law1_Book_growWords at hh
    exact calls_den (fn1_right ok126 E_law1_wordsMark.right noFns_right) plan104 _ w K Try.func104 (by kernel_rfl) (by kernel_rfl) (Eq.mp (F_law1_Book_growWords.eq F_law1_wordsMark b1 w.heap K) hh)
theorem ok104 : okFn Try.prog 104 = true := by kernel_rfl
end Go.Proofs.Ytboidjampddfoaa.V
namespace Go.Proofs.Ytboidjampddfoaa.V
open Go Go.RowKit
set_option linter.unusedVariables false
set_option maxRecDepth 100000
def F_law1_Book_growDones.l1 (f127_ : Int → Heap → (Int → Int → Int → Int → Int → Heap → Prop) → Prop) (b1 : Option Addr) (v18 : Int) (j19 : Heap → Prop) : Sl → Int → Heap → Prop :=
  wl [(4, .one .sl), (6, .one (.int .i64))] (fun (next20 : Sl → Int → Heap → Prop) (g21 : Sl) (i22 : Int) (h23 : Heap) =>
  brr (decide (i22 ≤ 32))
  (f127_ v18 h23 fun (r24 r25 r26 r27 r28 : Int) (h29 : Heap) =>
  al 176 [.int .i64 r24, .int .u64 r25, .int .i64 r26, .int .i64 r27, .int .u64 r28] h29 fun (a30 : Addr) (h31 : Heap) =>
  app 176 5 40 (.agg #[.int .i64 0, .int .u64 0, .int .i64 0, .int .i64 0, .int .u64 0]) g21 (some a30) 1 h31 fun (s32 : Sl) (h33 : Heap) =>
  jn [(50, .one .bool)] (fun (x35 : Bool) (h36 : Heap) =>
  jn [] (fun  (h54 : Heap) =>
  next20 s32 (IntKind.i64.wrap (i22 + 1)) h54) (fun (j37 : Heap → Prop) =>
  brr x35
  (nn b1 fun (a38 : Addr) =>
  ld [.sl] (a38.add 15) h36 fun (v39 : Sl) =>
  al 172 [.slice s32.ptr s32.len s32.cap] h36 fun (a40 : Addr) (h41 : Heap) =>
  app 172 1 24 (.slice none 0 0) v39 (some a40) 1 h41 fun (s42 : Sl) (h43 : Heap) =>
  nn b1 fun (a44 : Addr) =>
  st (a44.add 15) [.slice s42.ptr s42.len s42.cap] h43 fun (h45 : Heap) =>
  nn b1 fun (a46 : Addr) =>
  ld [.sl] (a46.add 16) h45 fun (v47 : Sl) =>
  al 3 [.int .i64 v18] h45 fun (a48 : Addr) (h49 : Heap) =>
  app 3 1 8 (.int .i64 0) v47 (some a48) 1 h49 fun (s50 : Sl) (h51 : Heap) =>
  nn b1 fun (a52 : Addr) =>
  st (a52.add 16) [.slice s50.ptr s50.len s50.cap] h51 fun (h53 : Heap) =>
  j37 h53)
  (j37 h36))) (fun (j34 : Bool → Heap → Prop) =>
  brr (decide (i22 < 4))
  (j34 true h33)
  ((16 : Int) ≠ 0 ∧
  j34 ((i22.tmod 16) == 0) h33)))
  (j19 h23))
def F_law1_Book_growDones.l2 (f127_ : Int → Heap → (Int → Int → Int → Int → Int → Heap → Prop) → Prop) (b1 : Option Addr) (v3 : Sl) (j6 : Heap → Prop) : Int → Heap → Prop :=
  wl [(3, .one (.int .i64))] (fun (next7 : Int → Heap → Prop) (k8 : Int) (h9 : Heap) =>
  brr (decide (k8 < ((v3.len : Nat) : Int)))
  (jn [] (fun  (h56 : Heap) =>
  next7 (IntKind.i64.wrap (k8 + 1)) h56) (fun (j10 : Heap → Prop) =>
  nn b1 fun (a11 : Addr) =>
  ld [.sl] (a11.add 15) h9 fun (v12 : Sl) =>
  ixS 1 v12 k8 fun (a13 : Addr) =>
  ld [.sl] a13 h9 fun (v14 : Sl) =>
  nn b1 fun (a15 : Addr) =>
  ld [.sl] (a15.add 16) h9 fun (v16 : Sl) =>
  ixS 1 v16 k8 fun (a17 : Addr) =>
  ld [.int .i64] a17 h9 fun (v18 : Int) =>
  jn [] (fun  (h55 : Heap) =>
  j10 h55) (fun (j19 : Heap → Prop) =>
  F_law1_Book_growDones.l1 f127_ b1 v18 j19 v14 1 h9)))
  (j6 h9))
def F_law1_Book_growDones_of (f127_ : Int → Heap → (Int → Int → Int → Int → Int → Heap → Prop) → Prop) (b1 : Option Addr) (h : Heap) (Q : Heap → Prop) : Prop :=
  nn b1 fun (a2 : Addr) =>
  ld [.sl] (a2.add 15) h fun (v3 : Sl) =>
  nn b1 fun (a4 : Addr) =>
  ld [.int .i64] (a4.add 17) h fun (v5 : Int) =>
  jn [] (fun  (h57 : Heap) =>
  nn b1 fun (a58 : Addr) =>
  ld [.sl] (a58.add 15) h57 fun (v59 : Sl) =>
  nn b1 fun (a60 : Addr) =>
  st (a60.add 17) [.int .i64 ((v59.len : Nat) : Int)] h57 fun (h61 : Heap) =>
  Q h61) (fun (j6 : Heap → Prop) =>
  F_law1_Book_growDones.l2 f127_ b1 v3 j6 v5 h)
def F_law1_Book_growDones (b1 : Option Addr) (h : Heap) (Q : Heap → Prop) : Prop := F_law1_Book_growDones_of F_law1_donesMark b1 h Q
def plan105 : Plan := .s (.r [0, 2]) (.s (.s (.r [0, 2, 3]) (.bj [] [0] (.l [(3, .one (.int .i64))] [0, 2] (.s (.s (.r [0, 2, 3, 18]) (.c .z .z)) (.s (.bj [] [0, 2, 3] (.s (.r [0, 2, 3, 4]) (.s (.r [0, 2, 3, 4, 5]) (.s (.r [0, 2, 3, 4, 5, 6]) (.bj [] [0, 2, 3] (.l [(4, .one .sl), (6, .one (.int .i64))] [0, 2, 3, 5] (.s (.s (.r [0, 2, 3, 4, 5, 6, 36]) (.c .z .z)) (.s (.b (.s (.r [0, 2, 3, 4, 5, 6]) (.s (.rj [(50, .one .bool)] [0, 2, 3, 4, 5, 6]) (.cj [] [0, 2, 3, 4, 5, 6] (.s (.r [0, 2, 3, 4, 5, 6]) (.r [0, 2, 3, 4, 5, 6])) .z)))) (.r [0, 2, 3, 4, 5, 6]))))))))) (.r [0, 2, 3])))))) (.r []))
theorem F_law1_Book_growDones.eq (f127_ : Int → Heap → (Int → Int → Int → Int → Int → Heap → Prop) → Prop) (b1 : Option Addr) (h : Heap) (K : Value → Heap → Prop) : F_law1_Book_growDones_of f127_ b1 h (fun  (h : Heap) => K (.tuple #[]) h) =
    den Try.prog (fn1 127 (E_law1_donesMark_of f127_) noFns) Try.f105.ntmps plan105 (bodyOf Try.f105) (args0 0 [(.pointer b1 : Value)]) h ⟨fun env h => dRes Try.prog Try.f105.results.toList env h K, fun _ _ _ => False, fun env h => dRes Try.prog Try.f105.results.toList env h K⟩ := by kernel_rfl
def E_law1_Book_growDones_of (f : Option Addr → Heap → (Heap → Prop) → Prop) : List Value → Heap → (Value → Heap → Prop) → Prop
  | [v0], h, K => dec1 .ptr v0 fun (b1 : Option Addr) =>
  f b1 h (fun  (h : Heap) => K (.tuple #[]) h)
  | _, _, _ => False
abbrev E_law1_Book_growDones := E_law1_Book_growDones_of F_law1_Book_growDones
theorem E_law1_Book_growDones.right : IsRight Try.prog 105 E_law1_Book_growDones := by
  refine isRight fun vs K w hh => ?_
  match vs, hh with
  | [v0], hh =>
    unfold E_law1_Book_growDones E_law1_Book_growDones_of at hh
    replace hh := dec1_sound hh; obtain ⟨b1, rfl, hh⟩ := hh
    unfold F_law1_Book_growDones at hh
    exact calls_den (fn1_right ok127 E_law1_donesMark.right noFns_right) plan105 _ w K Try.func105 (by kernel_rfl) (by kernel_rfl) (Eq.mp (F_law1_Book_growDones.eq F_law1_donesMark b1 w.heap K) hh)
theorem ok105 : okFn Try.prog 105 = true := by kernel_rfl
end Go.Proofs.Ytboidjampddfoaa.V
namespace Go.Proofs.Ytboidjampddfoaa.V
open Go Go.RowKit
set_option linter.unusedVariables false
set_option maxRecDepth 100000
def F_law1_Book_growAccts.l1 (f128_ : Int → Heap → (ByteArray → Int → Heap → Prop) → Prop) (b1 : Option Addr) (v18 : Int) (j19 : Heap → Prop) : Sl → Int → Heap → Prop :=
  wl [(4, .one .sl), (6, .one (.int .i64))] (fun (next20 : Sl → Int → Heap → Prop) (g21 : Sl) (i22 : Int) (h23 : Heap) =>
  brr (decide (i22 ≤ 32))
  (f128_ v18 h23 fun (r24 : ByteArray) (r25 : Int) (h26 : Heap) =>
  al 178 [.string r24, .int .u64 r25] h26 fun (a27 : Addr) (h28 : Heap) =>
  app 178 2 24 (.agg #[.string (⟨#[]⟩ : ByteArray), .int .u64 0]) g21 (some a27) 1 h28 fun (s29 : Sl) (h30 : Heap) =>
  jn [(50, .one .bool)] (fun (x32 : Bool) (h33 : Heap) =>
  jn [] (fun  (h51 : Heap) =>
  next20 s29 (IntKind.i64.wrap (i22 + 1)) h51) (fun (j34 : Heap → Prop) =>
  brr x32
  (nn b1 fun (a35 : Addr) =>
  ld [.sl] (a35.add 18) h33 fun (v36 : Sl) =>
  al 160 [.slice s29.ptr s29.len s29.cap] h33 fun (a37 : Addr) (h38 : Heap) =>
  app 160 1 24 (.slice none 0 0) v36 (some a37) 1 h38 fun (s39 : Sl) (h40 : Heap) =>
  nn b1 fun (a41 : Addr) =>
  st (a41.add 18) [.slice s39.ptr s39.len s39.cap] h40 fun (h42 : Heap) =>
  nn b1 fun (a43 : Addr) =>
  ld [.sl] (a43.add 19) h42 fun (v44 : Sl) =>
  al 3 [.int .i64 v18] h42 fun (a45 : Addr) (h46 : Heap) =>
  app 3 1 8 (.int .i64 0) v44 (some a45) 1 h46 fun (s47 : Sl) (h48 : Heap) =>
  nn b1 fun (a49 : Addr) =>
  st (a49.add 19) [.slice s47.ptr s47.len s47.cap] h48 fun (h50 : Heap) =>
  j34 h50)
  (j34 h33))) (fun (j31 : Bool → Heap → Prop) =>
  brr (decide (i22 < 4))
  (j31 true h30)
  ((16 : Int) ≠ 0 ∧
  j31 ((i22.tmod 16) == 0) h30)))
  (j19 h23))
def F_law1_Book_growAccts.l2 (f128_ : Int → Heap → (ByteArray → Int → Heap → Prop) → Prop) (b1 : Option Addr) (v3 : Sl) (j6 : Heap → Prop) : Int → Heap → Prop :=
  wl [(3, .one (.int .i64))] (fun (next7 : Int → Heap → Prop) (k8 : Int) (h9 : Heap) =>
  brr (decide (k8 < ((v3.len : Nat) : Int)))
  (jn [] (fun  (h53 : Heap) =>
  next7 (IntKind.i64.wrap (k8 + 1)) h53) (fun (j10 : Heap → Prop) =>
  nn b1 fun (a11 : Addr) =>
  ld [.sl] (a11.add 18) h9 fun (v12 : Sl) =>
  ixS 1 v12 k8 fun (a13 : Addr) =>
  ld [.sl] a13 h9 fun (v14 : Sl) =>
  nn b1 fun (a15 : Addr) =>
  ld [.sl] (a15.add 19) h9 fun (v16 : Sl) =>
  ixS 1 v16 k8 fun (a17 : Addr) =>
  ld [.int .i64] a17 h9 fun (v18 : Int) =>
  jn [] (fun  (h52 : Heap) =>
  j10 h52) (fun (j19 : Heap → Prop) =>
  F_law1_Book_growAccts.l1 f128_ b1 v18 j19 v14 1 h9)))
  (j6 h9))
def F_law1_Book_growAccts_of (f128_ : Int → Heap → (ByteArray → Int → Heap → Prop) → Prop) (b1 : Option Addr) (h : Heap) (Q : Heap → Prop) : Prop :=
  nn b1 fun (a2 : Addr) =>
  ld [.sl] (a2.add 18) h fun (v3 : Sl) =>
  nn b1 fun (a4 : Addr) =>
  ld [.int .i64] (a4.add 20) h fun (v5 : Int) =>
  jn [] (fun  (h54 : Heap) =>
  nn b1 fun (a55 : Addr) =>
  ld [.sl] (a55.add 18) h54 fun (v56 : Sl) =>
  nn b1 fun (a57 : Addr) =>
  st (a57.add 20) [.int .i64 ((v56.len : Nat) : Int)] h54 fun (h58 : Heap) =>
  Q h58) (fun (j6 : Heap → Prop) =>
  F_law1_Book_growAccts.l2 f128_ b1 v3 j6 v5 h)
def F_law1_Book_growAccts (b1 : Option Addr) (h : Heap) (Q : Heap → Prop) : Prop := F_law1_Book_growAccts_of F_law1_acctsMark b1 h Q
def plan106 : Plan := .s (.r [0, 2]) (.s (.s (.r [0, 2, 3]) (.bj [] [0] (.l [(3, .one (.int .i64))] [0, 2] (.s (.s (.r [0, 2, 3, 18]) (.c .z .z)) (.s (.bj [] [0, 2, 3] (.s (.r [0, 2, 3, 4]) (.s (.r [0, 2, 3, 4, 5]) (.s (.r [0, 2, 3, 4, 5, 6]) (.bj [] [0, 2, 3] (.l [(4, .one .sl), (6, .one (.int .i64))] [0, 2, 3, 5] (.s (.s (.r [0, 2, 3, 4, 5, 6, 36]) (.c .z .z)) (.s (.b (.s (.r [0, 2, 3, 4, 5, 6]) (.s (.rj [(50, .one .bool)] [0, 2, 3, 4, 5, 6]) (.cj [] [0, 2, 3, 4, 5, 6] (.s (.r [0, 2, 3, 4, 5, 6]) (.r [0, 2, 3, 4, 5, 6])) .z)))) (.r [0, 2, 3, 4, 5, 6]))))))))) (.r [0, 2, 3])))))) (.r []))
theorem F_law1_Book_growAccts.eq (f128_ : Int → Heap → (ByteArray → Int → Heap → Prop) → Prop) (b1 : Option Addr) (h : Heap) (K : Value → Heap → Prop) : F_law1_Book_growAccts_of f128_ b1 h (fun  (h : Heap) => K (.tuple #[]) h) =
    den Try.prog (fn1 128 (E_law1_acctsMark_of f128_) noFns) Try.f106.ntmps plan106 (bodyOf Try.f106) (args0 0 [(.pointer b1 : Value)]) h ⟨fun env h => dRes Try.prog Try.f106.results.toList env h K, fun _ _ _ => False, fun env h => dRes Try.prog Try.f106.results.toList env h K⟩ := by kernel_rfl
def E_law1_Book_growAccts_of (f : Option Addr → Heap → (Heap → Prop) → Prop) : List Value → Heap → (Value → Heap → Prop) → Prop
  | [v0], h, K => dec1 .ptr v0 fun (b1 : Option Addr) =>
  f b1 h (fun  (h : Heap) => K (.tuple #[]) h)
  | _, _, _ => False
abbrev E_law1_Book_growAccts := E_law1_Book_growAccts_of F_law1_Book_growAccts
theorem E_law1_Book_growAccts.right : IsRight Try.prog 106 E_law1_Book_growAccts := by
  refine isRight fun vs K w hh => ?_
  match vs, hh with
  | [v0], hh =>
    unfold E_law1_Book_growAccts E_law1_Book_growAccts_of at hh
    replace hh := dec1_sound hh; obtain ⟨b1, rfl, hh⟩ := hh
    unfold F_law1_Book_growAccts at hh
    exact calls_den (fn1_right ok128 E_law1_acctsMark.right noFns_right) plan106 _ w K Try.func106 (by kernel_rfl) (by kernel_rfl) (Eq.mp (F_law1_Book_growAccts.eq F_law1_acctsMark b1 w.heap K) hh)
theorem ok106 : okFn Try.prog 106 = true := by kernel_rfl
end Go.Proofs.Ytboidjampddfoaa.V
namespace Go.Proofs.Ytboidjampddfoaa.V
open Go Go.RowKit
set_option linter.unusedVariables false
set_option maxRecDepth 100000
def F_law1_Book_growQueue.l1 (f129_ : Int → Heap → (Int → Int → ByteArray → Int → Heap → Prop) → Prop) (b1 : Option Addr) (v18 : Int) (j19 : Heap → Prop) : Sl → Int → Heap → Prop :=
  wl [(4, .one .sl), (6, .one (.int .i64))] (fun (next20 : Sl → Int → Heap → Prop) (g21 : Sl) (i22 : Int) (h23 : Heap) =>
  brr (decide (i22 ≤ 32))
  (f129_ v18 h23 fun (r24 r25 : Int) (r26 : ByteArray) (r27 : Int) (h28 : Heap) =>
  al 180 [.int .i64 r24, .int .u64 r25, .string r26, .int .u64 r27] h28 fun (a29 : Addr) (h30 : Heap) =>
  app 180 4 40 (.agg #[.int .i64 0, .int .u64 0, .string (⟨#[]⟩ : ByteArray), .int .u64 0]) g21 (some a29) 1 h30 fun (s31 : Sl) (h32 : Heap) =>
  jn [(50, .one .bool)] (fun (x34 : Bool) (h35 : Heap) =>
  jn [] (fun  (h53 : Heap) =>
  next20 s31 (IntKind.i64.wrap (i22 + 1)) h53) (fun (j36 : Heap → Prop) =>
  brr x34
  (nn b1 fun (a37 : Addr) =>
  ld [.sl] (a37.add 21) h35 fun (v38 : Sl) =>
  al 161 [.slice s31.ptr s31.len s31.cap] h35 fun (a39 : Addr) (h40 : Heap) =>
  app 161 1 24 (.slice none 0 0) v38 (some a39) 1 h40 fun (s41 : Sl) (h42 : Heap) =>
  nn b1 fun (a43 : Addr) =>
  st (a43.add 21) [.slice s41.ptr s41.len s41.cap] h42 fun (h44 : Heap) =>
  nn b1 fun (a45 : Addr) =>
  ld [.sl] (a45.add 22) h44 fun (v46 : Sl) =>
  al 3 [.int .i64 v18] h44 fun (a47 : Addr) (h48 : Heap) =>
  app 3 1 8 (.int .i64 0) v46 (some a47) 1 h48 fun (s49 : Sl) (h50 : Heap) =>
  nn b1 fun (a51 : Addr) =>
  st (a51.add 22) [.slice s49.ptr s49.len s49.cap] h50 fun (h52 : Heap) =>
  j36 h52)
  (j36 h35))) (fun (j33 : Bool → Heap → Prop) =>
  brr (decide (i22 < 4))
  (j33 true h32)
  ((16 : Int) ≠ 0 ∧
  j33 ((i22.tmod 16) == 0) h32)))
  (j19 h23))
def F_law1_Book_growQueue.l2 (f129_ : Int → Heap → (Int → Int → ByteArray → Int → Heap → Prop) → Prop) (b1 : Option Addr) (v3 : Sl) (j6 : Heap → Prop) : Int → Heap → Prop :=
  wl [(3, .one (.int .i64))] (fun (next7 : Int → Heap → Prop) (k8 : Int) (h9 : Heap) =>
  brr (decide (k8 < ((v3.len : Nat) : Int)))
  (jn [] (fun  (h55 : Heap) =>
  next7 (IntKind.i64.wrap (k8 + 1)) h55) (fun (j10 : Heap → Prop) =>
  nn b1 fun (a11 : Addr) =>
  ld [.sl] (a11.add 21) h9 fun (v12 : Sl) =>
  ixS 1 v12 k8 fun (a13 : Addr) =>
  ld [.sl] a13 h9 fun (v14 : Sl) =>
  nn b1 fun (a15 : Addr) =>
  ld [.sl] (a15.add 22) h9 fun (v16 : Sl) =>
  ixS 1 v16 k8 fun (a17 : Addr) =>
  ld [.int .i64] a17 h9 fun (v18 : Int) =>
  jn [] (fun  (h54 : Heap) =>
  j10 h54) (fun (j19 : Heap → Prop) =>
  F_law1_Book_growQueue.l1 f129_ b1 v18 j19 v14 1 h9)))
  (j6 h9))
def F_law1_Book_growQueue_of (f129_ : Int → Heap → (Int → Int → ByteArray → Int → Heap → Prop) → Prop) (b1 : Option Addr) (h : Heap) (Q : Heap → Prop) : Prop :=
  nn b1 fun (a2 : Addr) =>
  ld [.sl] (a2.add 21) h fun (v3 : Sl) =>
  nn b1 fun (a4 : Addr) =>
  ld [.int .i64] (a4.add 23) h fun (v5 : Int) =>
  jn [] (fun  (h56 : Heap) =>
  nn b1 fun (a57 : Addr) =>
  ld [.sl] (a57.add 21) h56 fun (v58 : Sl) =>
  nn b1 fun (a59 : Addr) =>
  st (a59.add 23) [.int .i64 ((v58.len : Nat) : Int)] h56 fun (h60 : Heap) =>
  Q h60) (fun (j6 : Heap → Prop) =>
  F_law1_Book_growQueue.l2 f129_ b1 v3 j6 v5 h)
def F_law1_Book_growQueue (b1 : Option Addr) (h : Heap) (Q : Heap → Prop) : Prop := F_law1_Book_growQueue_of F_law1_queueMark b1 h Q
def plan107 : Plan := .s (.r [0, 2]) (.s (.s (.r [0, 2, 3]) (.bj [] [0] (.l [(3, .one (.int .i64))] [0, 2] (.s (.s (.r [0, 2, 3, 18]) (.c .z .z)) (.s (.bj [] [0, 2, 3] (.s (.r [0, 2, 3, 4]) (.s (.r [0, 2, 3, 4, 5]) (.s (.r [0, 2, 3, 4, 5, 6]) (.bj [] [0, 2, 3] (.l [(4, .one .sl), (6, .one (.int .i64))] [0, 2, 3, 5] (.s (.s (.r [0, 2, 3, 4, 5, 6, 36]) (.c .z .z)) (.s (.b (.s (.r [0, 2, 3, 4, 5, 6]) (.s (.rj [(50, .one .bool)] [0, 2, 3, 4, 5, 6]) (.cj [] [0, 2, 3, 4, 5, 6] (.s (.r [0, 2, 3, 4, 5, 6]) (.r [0, 2, 3, 4, 5, 6])) .z)))) (.r [0, 2, 3, 4, 5, 6]))))))))) (.r [0, 2, 3])))))) (.r []))
theorem F_law1_Book_growQueue.eq (f129_ : Int → Heap → (Int → Int → ByteArray → Int → Heap → Prop) → Prop) (b1 : Option Addr) (h : Heap) (K : Value → Heap → Prop) : F_law1_Book_growQueue_of f129_ b1 h (fun  (h : Heap) => K (.tuple #[]) h) =
    den Try.prog (fn1 129 (E_law1_queueMark_of f129_) noFns) Try.f107.ntmps plan107 (bodyOf Try.f107) (args0 0 [(.pointer b1 : Value)]) h ⟨fun env h => dRes Try.prog Try.f107.results.toList env h K, fun _ _ _ => False, fun env h => dRes Try.prog Try.f107.results.toList env h K⟩ := by kernel_rfl
def E_law1_Book_growQueue_of (f : Option Addr → Heap → (Heap → Prop) → Prop) : List Value → Heap → (Value → Heap → Prop) → Prop
  | [v0], h, K => dec1 .ptr v0 fun (b1 : Option Addr) =>
  f b1 h (fun  (h : Heap) => K (.tuple #[]) h)
  | _, _, _ => False
abbrev E_law1_Book_growQueue := E_law1_Book_growQueue_of F_law1_Book_growQueue
theorem E_law1_Book_growQueue.right : IsRight Try.prog 107 E_law1_Book_growQueue := by
  refine isRight fun vs K w hh => ?_
  match vs, hh with
  | [v0], hh =>
    unfold E_law1_Book_growQueue E_law1_Book_growQueue_of at hh
    replace hh := dec1_sound hh; obtain ⟨b1, rfl, hh⟩ := hh
    unfold F_law1_Book_growQueue at hh
    exact calls_den (fn1_right ok129 E_law1_queueMark.right noFns_right) plan107 _ w K Try.func107 (by kernel_rfl) (by kernel_rfl) (Eq.mp (F_law1_Book_growQueue.eq F_law1_queueMark b1 w.heap K) hh)
theorem ok107 : okFn Try.prog 107 = true := by kernel_rfl
end Go.Proofs.Ytboidjampddfoaa.V
namespace Go.Proofs.Ytboidjampddfoaa.V
open Go Go.RowKit
set_option linter.unusedVariables false
set_option maxRecDepth 100000
def F_law1_Book_growSlots.l1 (f130_ : Int → Heap → (Int → Int → Int → Int → Heap → Prop) → Prop) (b1 : Option Addr) (v18 : Int) (j19 : Heap → Prop) : Sl → Int → Heap → Prop :=
  wl [(4, .one .sl), (6, .one (.int .i64))] (fun (next20 : Sl → Int → Heap → Prop) (g21 : Sl) (i22 : Int) (h23 : Heap) =>
  brr (decide (i22 ≤ 32))
  (f130_ v18 h23 fun (r24 r25 r26 r27 : Int) (h28 : Heap) =>
  al 182 [.int .u64 r24, .int .i64 r25, .int .i64 r26, .int .u64 r27] h28 fun (a29 : Addr) (h30 : Heap) =>
  app 182 4 32 (.agg #[.int .u64 0, .int .i64 0, .int .i64 0, .int .u64 0]) g21 (some a29) 1 h30 fun (s31 : Sl) (h32 : Heap) =>
  jn [(50, .one .bool)] (fun (x34 : Bool) (h35 : Heap) =>
  jn [] (fun  (h53 : Heap) =>
  next20 s31 (IntKind.i64.wrap (i22 + 1)) h53) (fun (j36 : Heap → Prop) =>
  brr x34
  (nn b1 fun (a37 : Addr) =>
  ld [.sl] (a37.add 24) h35 fun (v38 : Sl) =>
  al 162 [.slice s31.ptr s31.len s31.cap] h35 fun (a39 : Addr) (h40 : Heap) =>
  app 162 1 24 (.slice none 0 0) v38 (some a39) 1 h40 fun (s41 : Sl) (h42 : Heap) =>
  nn b1 fun (a43 : Addr) =>
  st (a43.add 24) [.slice s41.ptr s41.len s41.cap] h42 fun (h44 : Heap) =>
  nn b1 fun (a45 : Addr) =>
  ld [.sl] (a45.add 25) h44 fun (v46 : Sl) =>
  al 3 [.int .i64 v18] h44 fun (a47 : Addr) (h48 : Heap) =>
  app 3 1 8 (.int .i64 0) v46 (some a47) 1 h48 fun (s49 : Sl) (h50 : Heap) =>
  nn b1 fun (a51 : Addr) =>
  st (a51.add 25) [.slice s49.ptr s49.len s49.cap] h50 fun (h52 : Heap) =>
  j36 h52)
  (j36 h35))) (fun (j33 : Bool → Heap → Prop) =>
  brr (decide (i22 < 4))
  (j33 true h32)
  ((16 : Int) ≠ 0 ∧
  j33 ((i22.tmod 16) == 0) h32)))
  (j19 h23))
def F_law1_Book_growSlots.l2 (f130_ : Int → Heap → (Int → Int → Int → Int → Heap → Prop) → Prop) (b1 : Option Addr) (v3 : Sl) (j6 : Heap → Prop) : Int → Heap → Prop :=
  wl [(3, .one (.int .i64))] (fun (next7 : Int → Heap → Prop) (k8 : Int) (h9 : Heap) =>
  brr (decide (k8 < ((v3.len : Nat) : Int)))
  (jn [] (fun  (h55 : Heap) =>
  next7 (IntKind.i64.wrap (k8 + 1)) h55) (fun (j10 : Heap → Prop) =>
  nn b1 fun (a11 : Addr) =>
  ld [.sl] (a11.add 24) h9 fun (v12 : Sl) =>
  ixS 1 v12 k8 fun (a13 : Addr) =>
  ld [.sl] a13 h9 fun (v14 : Sl) =>
  nn b1 fun (a15 : Addr) =>
  ld [.sl] (a15.add 25) h9 fun (v16 : Sl) =>
  ixS 1 v16 k8 fun (a17 : Addr) =>
  ld [.int .i64] a17 h9 fun (v18 : Int) =>
  jn [] (fun  (h54 : Heap) =>
  j10 h54) (fun (j19 : Heap → Prop) =>
  F_law1_Book_growSlots.l1 f130_ b1 v18 j19 v14 1 h9)))
  (j6 h9))
def F_law1_Book_growSlots_of (f130_ : Int → Heap → (Int → Int → Int → Int → Heap → Prop) → Prop) (b1 : Option Addr) (h : Heap) (Q : Heap → Prop) : Prop :=
  nn b1 fun (a2 : Addr) =>
  ld [.sl] (a2.add 24) h fun (v3 : Sl) =>
  nn b1 fun (a4 : Addr) =>
  ld [.int .i64] (a4.add 26) h fun (v5 : Int) =>
  jn [] (fun  (h56 : Heap) =>
  nn b1 fun (a57 : Addr) =>
  ld [.sl] (a57.add 24) h56 fun (v58 : Sl) =>
  nn b1 fun (a59 : Addr) =>
  st (a59.add 26) [.int .i64 ((v58.len : Nat) : Int)] h56 fun (h60 : Heap) =>
  Q h60) (fun (j6 : Heap → Prop) =>
  F_law1_Book_growSlots.l2 f130_ b1 v3 j6 v5 h)
def F_law1_Book_growSlots (b1 : Option Addr) (h : Heap) (Q : Heap → Prop) : Prop := F_law1_Book_growSlots_of F_law1_slotsMark b1 h Q
def plan108 : Plan := .s (.r [0, 2]) (.s (.s (.r [0, 2, 3]) (.bj [] [0] (.l [(3, .one (.int .i64))] [0, 2] (.s (.s (.r [0, 2, 3, 18]) (.c .z .z)) (.s (.bj [] [0, 2, 3] (.s (.r [0, 2, 3, 4]) (.s (.r [0, 2, 3, 4, 5]) (.s (.r [0, 2, 3, 4, 5, 6]) (.bj [] [0, 2, 3] (.l [(4, .one .sl), (6, .one (.int .i64))] [0, 2, 3, 5] (.s (.s (.r [0, 2, 3, 4, 5, 6, 36]) (.c .z .z)) (.s (.b (.s (.r [0, 2, 3, 4, 5, 6]) (.s (.rj [(50, .one .bool)] [0, 2, 3, 4, 5, 6]) (.cj [] [0, 2, 3, 4, 5, 6] (.s (.r [0, 2, 3, 4, 5, 6]) (.r [0, 2, 3, 4, 5, 6])) .z)))) (.r [0, 2, 3, 4, 5, 6]))))))))) (.r [0, 2, 3])))))) (.r []))
theorem F_law1_Book_growSlots.eq (f130_ : Int → Heap → (Int → Int → Int → Int → Heap → Prop) → Prop) (b1 : Option Addr) (h : Heap) (K : Value → Heap → Prop) : F_law1_Book_growSlots_of f130_ b1 h (fun  (h : Heap) => K (.tuple #[]) h) =
    den Try.prog (fn1 130 (E_law1_slotsMark_of f130_) noFns) Try.f108.ntmps plan108 (bodyOf Try.f108) (args0 0 [(.pointer b1 : Value)]) h ⟨fun env h => dRes Try.prog Try.f108.results.toList env h K, fun _ _ _ => False, fun env h => dRes Try.prog Try.f108.results.toList env h K⟩ := by kernel_rfl
def E_law1_Book_growSlots_of (f : Option Addr → Heap → (Heap → Prop) → Prop) : List Value → Heap → (Value → Heap → Prop) → Prop
  | [v0], h, K => dec1 .ptr v0 fun (b1 : Option Addr) =>
  f b1 h (fun  (h : Heap) => K (.tuple #[]) h)
  | _, _, _ => False
abbrev E_law1_Book_growSlots := E_law1_Book_growSlots_of F_law1_Book_growSlots
theorem E_law1_Book_growSlots.right : IsRight Try.prog 108 E_law1_Book_growSlots := by
  refine isRight fun vs K w hh => ?_
  match vs, hh with
  | [v0], hh =>
    unfold E_law1_Book_growSlots E_law1_Book_growSlots_of at hh
    replace hh := dec1_sound hh; obtain ⟨b1, rfl, hh⟩ := hh
    unfold F_law1_Book_growSlots at hh
    exact calls_den (fn1_right ok130 E_law1_slotsMark.right noFns_right) plan108 _ w K Try.func108 (by kernel_rfl) (by kernel_rfl) (Eq.mp (F_law1_Book_growSlots.eq F_law1_slotsMark b1 w.heap K) hh)
theorem ok108 : okFn Try.prog 108 = true := by kernel_rfl
end Go.Proofs.Ytboidjampddfoaa.V
namespace Go.Proofs.Ytboidjampddfoaa.V
open Go Go.RowKit
set_option linter.unusedVariables false
set_option maxRecDepth 100000
def F_law1_msgsMark_of  (m1 : Int) (h : Heap) (Q : Int → Int → Int → Int → Int → Int → Int → Int → Int → Int → Sl → Int → Int → ByteArray → ByteArray → Int → Int → Int → Int → Int → Int → Int → Heap → Prop) : Prop :=
  al 36 [.int .i64 0, .int .i64 0, .int .i64 0, .int .i64 0, .int .u64 0, .int .u64 0, .int .u64 0, .int .u64 0, .int .i64 0, .int .u64 0, .slice none 0 0, .int .i64 0, .int .u64 0, .string (⟨#[]⟩ : ByteArray), .string (⟨#[]⟩ : ByteArray), .int .u64 0, .int .u64 0, .int .u64 0, .int .i64 0, .int .i64 0, .int .i64 0, .int .i64 0] h fun (a2 : Addr) (h3 : Heap) =>
  st a2 [.int .i64 (IntKind.i64.wrap (1000 + m1)), .int .i64 0, .int .i64 0, .int .i64 0, .int .u64 0, .int .u64 0, .int .u64 0, .int .u64 0, .int .i64 0, .int .u64 0, .slice none 0 0, .int .i64 0, .int .u64 0, .string (⟨#[]⟩ : ByteArray), .string (⟨#[]⟩ : ByteArray), .int .u64 0, .int .u64 0, .int .u64 0, .int .i64 0, .int .i64 0, .int .i64 0, .int .i64 0] h3 fun (h4 : Heap) =>
  ld [.int .i64, .int .i64, .int .i64, .int .i64, .int .u64, .int .u64, .int .u64, .int .u64, .int .i64, .int .u64, .sl, .int .i64, .int .u64, .str, .str, .int .u64, .int .u64, .int .u64, .int .i64, .int .i64, .int .i64, .int .i64] a2 h4 fun (v5 v6 v7 v8 v9 v10 v11 v12 v13 v14 : Int) (v15 : Sl) (v16 v17 : Int) (v18 v19 : ByteArray) (v20 v21 v22 v23 v24 v25 v26 : Int) =>
  Q v5 v6 v7 v8 v9 v10 v11 v12 v13 v14 v15 v16 v17 v18 v19 v20 v21 v22 v23 v24 v25 v26 h4
def F_law1_msgsMark (m1 : Int) (h : Heap) (Q : Int → Int → Int → Int → Int → Int → Int → Int → Int → Int → Sl → Int → Int → ByteArray → ByteArray → Int → Int → Int → Int → Int → Int → Int → Heap → Prop) : Prop := F_law1_msgsMark_of  m1 h Q
def plan132 : Plan := .s (.r [0, 2]) (.s (.r [2]) .z)
theorem F_law1_msgsMark.eq  (m1 : Int) (h : Heap) (K : Value → Heap → Prop) : F_law1_msgsMark_of  m1 h (fun (r0 r1 r2 r3 r4 r5 r6 r7 r8 r9 : Int) (r10 : Sl) (r11 r12 : Int) (r13 r14 : ByteArray) (r15 r16 r17 r18 r19 r20 r21 : Int) (h : Heap) => K (.agg #[.int .i64 r0, .int .i64 r1, .int .i64 r2, .int .i64 r3, .int .u64 r4, .int .u64 r5, .int .u64 r6, .int .u64 r7, .int .i64 r8, .int .u64 r9, .slice r10.ptr r10.len r10.cap, .int .i64 r11, .int .u64 r12, .string r13, .string r14, .int .u64 r15, .int .u64 r16, .int .u64 r17, .int .i64 r18, .int .i64 r19, .int .i64 r20, .int .i64 r21]) h) =
    den Try.prog noFns Try.f132.ntmps plan132 (bodyOf Try.f132) (args0 0 [(.int .i64 m1 : Value)]) h ⟨fun env h => dRes Try.prog Try.f132.results.toList env h K, fun _ _ _ => False, fun env h => dRes Try.prog Try.f132.results.toList env h K⟩ := by kernel_rfl
def E_law1_msgsMark_of (f : Int → Heap → (Int → Int → Int → Int → Int → Int → Int → Int → Int → Int → Sl → Int → Int → ByteArray → ByteArray → Int → Int → Int → Int → Int → Int → Int → Heap → Prop) → Prop) : List Value → Heap → (Value → Heap → Prop) → Prop
  | [v0], h, K => dec1 (.int .i64) v0 fun (m1 : Int) =>
  f m1 h (fun (r0 r1 r2 r3 r4 r5 r6 r7 r8 r9 : Int) (r10 : Sl) (r11 r12 : Int) (r13 r14 : ByteArray) (r15 r16 r17 r18 r19 r20 r21 : Int) (h : Heap) => K (.agg #[.int .i64 r0, .int .i64 r1, .int .i64 r2, .int .i64 r3, .int .u64 r4, .int .u64 r5, .int .u64 r6, .int .u64 r7, .int .i64 r8, .int .u64 r9, .slice r10.ptr r10.len r10.cap, .int .i64 r11, .int .u64 r12, .string r13, .string r14, .int .u64 r15, .int .u64 r16, .int .u64 r17, .int .i64 r18, .int .i64 r19, .int .i64 r20, .int .i64 r21]) h)
  | _, _, _ => False
abbrev E_law1_msgsMark := E_law1_msgsMark_of F_law1_msgsMark
theorem E_law1_msgsMark.right : IsRight Try.prog 132 E_law1_msgsMark := by
  refine isRight fun vs K w hh => ?_
  match vs, hh with
  | [v0], hh =>
    unfold E_law1_msgsMark E_law1_msgsMark_of at hh
    replace hh := dec1_sound hh; obtain ⟨m1, rfl, hh⟩ := hh
    unfold F_law1_msgsMark at hh
    exact calls_den noFns_right plan132 _ w K Try.func132 (by kernel_rfl) (by kernel_rfl) (Eq.mp (F_law1_msgsMark.eq  m1 w.heap K) hh)
theorem ok132 : okFn Try.prog 132 = true := by kernel_rfl
end Go.Proofs.Ytboidjampddfoaa.V
namespace Go.Proofs.Ytboidjampddfoaa.V
open Go Go.RowKit
set_option linter.unusedVariables false
set_option maxRecDepth 100000
def F_law1_Book_growMsgs.l1 (f132_ : Int → Heap → (Int → Int → Int → Int → Int → Int → Int → Int → Int → Int → Sl → Int → Int → ByteArray → ByteArray → Int → Int → Int → Int → Int → Int → Int → Heap → Prop) → Prop) (b1 : Option Addr) (v18 : Int) (j19 : Heap → Prop) : Sl → Int → Heap → Prop :=
  wl [(4, .one .sl), (6, .one (.int .i64))] (fun (next20 : Sl → Int → Heap → Prop) (g21 : Sl) (i22 : Int) (h23 : Heap) =>
  brr (decide (i22 ≤ 32))
  (f132_ v18 h23 fun (r24 r25 r26 r27 r28 r29 r30 r31 r32 r33 : Int) (r34 : Sl) (r35 r36 : Int) (r37 r38 : ByteArray) (r39 r40 r41 r42 r43 r44 r45 : Int) (h46 : Heap) =>
  al 36 [.int .i64 r24, .int .i64 r25, .int .i64 r26, .int .i64 r27, .int .u64 r28, .int .u64 r29, .int .u64 r30, .int .u64 r31, .int .i64 r32, .int .u64 r33, .slice r34.ptr r34.len r34.cap, .int .i64 r35, .int .u64 r36, .string r37, .string r38, .int .u64 r39, .int .u64 r40, .int .u64 r41, .int .i64 r42, .int .i64 r43, .int .i64 r44, .int .i64 r45] h46 fun (a47 : Addr) (h48 : Heap) =>
  app 36 22 208 (.agg #[.int .i64 0, .int .i64 0, .int .i64 0, .int .i64 0, .int .u64 0, .int .u64 0, .int .u64 0, .int .u64 0, .int .i64 0, .int .u64 0, .slice none 0 0, .int .i64 0, .int .u64 0, .string (⟨#[]⟩ : ByteArray), .string (⟨#[]⟩ : ByteArray), .int .u64 0, .int .u64 0, .int .u64 0, .int .i64 0, .int .i64 0, .int .i64 0, .int .i64 0]) g21 (some a47) 1 h48 fun (s49 : Sl) (h50 : Heap) =>
  jn [(50, .one .bool)] (fun (x52 : Bool) (h53 : Heap) =>
  jn [] (fun  (h71 : Heap) =>
  next20 s49 (IntKind.i64.wrap (i22 + 1)) h71) (fun (j54 : Heap → Prop) =>
  brr x52
  (nn b1 fun (a55 : Addr) =>
  ld [.sl] (a55.add 27) h53 fun (v56 : Sl) =>
  al 159 [.slice s49.ptr s49.len s49.cap] h53 fun (a57 : Addr) (h58 : Heap) =>
  app 159 1 24 (.slice none 0 0) v56 (some a57) 1 h58 fun (s59 : Sl) (h60 : Heap) =>
  nn b1 fun (a61 : Addr) =>
  st (a61.add 27) [.slice s59.ptr s59.len s59.cap] h60 fun (h62 : Heap) =>
  nn b1 fun (a63 : Addr) =>
  ld [.sl] (a63.add 28) h62 fun (v64 : Sl) =>
  al 3 [.int .i64 v18] h62 fun (a65 : Addr) (h66 : Heap) =>
  app 3 1 8 (.int .i64 0) v64 (some a65) 1 h66 fun (s67 : Sl) (h68 : Heap) =>
  nn b1 fun (a69 : Addr) =>
  st (a69.add 28) [.slice s67.ptr s67.len s67.cap] h68 fun (h70 : Heap) =>
  j54 h70)
  (j54 h53))) (fun (j51 : Bool → Heap → Prop) =>
  brr (decide (i22 < 4))
  (j51 true h50)
  ((16 : Int) ≠ 0 ∧
  j51 ((i22.tmod 16) == 0) h50)))
  (j19 h23))
def F_law1_Book_growMsgs.l2 (f132_ : Int → Heap → (Int → Int → Int → Int → Int → Int → Int → Int → Int → Int → Sl → Int → Int → ByteArray → ByteArray → Int → Int → Int → Int → Int → Int → Int → Heap → Prop) → Prop) (b1 : Option Addr) (v3 : Sl) (j6 : Heap → Prop) : Int → Heap → Prop :=
  wl [(3, .one (.int .i64))] (fun (next7 : Int → Heap → Prop) (k8 : Int) (h9 : Heap) =>
  brr (decide (k8 < ((v3.len : Nat) : Int)))
  (jn [] (fun  (h73 : Heap) =>
  next7 (IntKind.i64.wrap (k8 + 1)) h73) (fun (j10 : Heap → Prop) =>
  nn b1 fun (a11 : Addr) =>
  ld [.sl] (a11.add 27) h9 fun (v12 : Sl) =>
  ixS 1 v12 k8 fun (a13 : Addr) =>
  ld [.sl] a13 h9 fun (v14 : Sl) =>
  nn b1 fun (a15 : Addr) =>
  ld [.sl] (a15.add 28) h9 fun (v16 : Sl) =>
  ixS 1 v16 k8 fun (a17 : Addr) =>
  ld [.int .i64] a17 h9 fun (v18 : Int) =>
  jn [] (fun  (h72 : Heap) =>
  j10 h72) (fun (j19 : Heap → Prop) =>
  F_law1_Book_growMsgs.l1 f132_ b1 v18 j19 v14 1 h9)))
  (j6 h9))
def F_law1_Book_growMsgs_of (f132_ : Int → Heap → (Int → Int → Int → Int → Int → Int → Int → Int → Int → Int → Sl → Int → Int → ByteArray → ByteArray → Int → Int → Int → Int → Int → Int → Int → Heap → Prop) → Prop) (b1 : Option Addr) (h : Heap) (Q : Heap → Prop) : Prop :=
  nn b1 fun (a2 : Addr) =>
  ld [.sl] (a2.add 27) h fun (v3 : Sl) =>
  nn b1 fun (a4 : Addr) =>
  ld [.int .i64] (a4.add 29) h fun (v5 : Int) =>
  jn [] (fun  (h74 : Heap) =>
  nn b1 fun (a75 : Addr) =>
  ld [.sl] (a75.add 27) h74 fun (v76 : Sl) =>
  nn b1 fun (a77 : Addr) =>
  st (a77.add 29) [.int .i64 ((v76.len : Nat) : Int)] h74 fun (h78 : Heap) =>
  Q h78) (fun (j6 : Heap → Prop) =>
  F_law1_Book_growMsgs.l2 f132_ b1 v3 j6 v5 h)
def F_law1_Book_growMsgs (b1 : Option Addr) (h : Heap) (Q : Heap → Prop) : Prop := F_law1_Book_growMsgs_of F_law1_msgsMark b1 h Q
def plan109 : Plan := .s (.r [0, 2]) (.s (.s (.r [0, 2, 3]) (.bj [] [0] (.l [(3, .one (.int .i64))] [0, 2] (.s (.s (.r [0, 2, 3, 18]) (.c .z .z)) (.s (.bj [] [0, 2, 3] (.s (.r [0, 2, 3, 4]) (.s (.r [0, 2, 3, 4, 5]) (.s (.r [0, 2, 3, 4, 5, 6]) (.bj [] [0, 2, 3] (.l [(4, .one .sl), (6, .one (.int .i64))] [0, 2, 3, 5] (.s (.s (.r [0, 2, 3, 4, 5, 6, 36]) (.c .z .z)) (.s (.b (.s (.r [0, 2, 3, 4, 5, 6]) (.s (.rj [(50, .one .bool)] [0, 2, 3, 4, 5, 6]) (.cj [] [0, 2, 3, 4, 5, 6] (.s (.r [0, 2, 3, 4, 5, 6]) (.r [0, 2, 3, 4, 5, 6])) .z)))) (.r [0, 2, 3, 4, 5, 6]))))))))) (.r [0, 2, 3])))))) (.r []))
theorem F_law1_Book_growMsgs.eq (f132_ : Int → Heap → (Int → Int → Int → Int → Int → Int → Int → Int → Int → Int → Sl → Int → Int → ByteArray → ByteArray → Int → Int → Int → Int → Int → Int → Int → Heap → Prop) → Prop) (b1 : Option Addr) (h : Heap) (K : Value → Heap → Prop) : F_law1_Book_growMsgs_of f132_ b1 h (fun  (h : Heap) => K (.tuple #[]) h) =
    den Try.prog (fn1 132 (E_law1_msgsMark_of f132_) noFns) Try.f109.ntmps plan109 (bodyOf Try.f109) (args0 0 [(.pointer b1 : Value)]) h ⟨fun env h => dRes Try.prog Try.f109.results.toList env h K, fun _ _ _ => False, fun env h => dRes Try.prog Try.f109.results.toList env h K⟩ := by kernel_rfl
def E_law1_Book_growMsgs_of (f : Option Addr → Heap → (Heap → Prop) → Prop) : List Value → Heap → (Value → Heap → Prop) → Prop
  | [v0], h, K => dec1 .ptr v0 fun (b1 : Option Addr) =>
  f b1 h (fun  (h : Heap) => K (.tuple #[]) h)
  | _, _, _ => False
abbrev E_law1_Book_growMsgs := E_law1_Book_growMsgs_of F_law1_Book_growMsgs
theorem E_law1_Book_growMsgs.right : IsRight Try.prog 109 E_law1_Book_growMsgs := by
  refine isRight fun vs K w hh => ?_
  match vs, hh with
  | [v0], hh =>
    unfold E_law1_Book_growMsgs E_law1_Book_growMsgs_of at hh
    replace hh := dec1_sound hh; obtain ⟨b1, rfl, hh⟩ := hh
    unfold F_law1_Book_growMsgs at hh
    exact calls_den (fn1_right ok132 E_law1_msgsMark.right noFns_right) plan109 _ w K Try.func109 (by kernel_rfl) (by kernel_rfl) (Eq.mp (F_law1_Book_growMsgs.eq F_law1_msgsMark b1 w.heap K) hh)
theorem ok109 : okFn Try.prog 109 = true := by kernel_rfl
end Go.Proofs.Ytboidjampddfoaa.V
namespace Go.Proofs.Ytboidjampddfoaa.V
open Go Go.RowKit
set_option linter.unusedVariables false
set_option maxRecDepth 100000
def F_law1_flightsMark_of  (m1 : Int) (h : Heap) (Q : Int → Sl → Heap → Prop) : Prop :=
  al 63 [.int .i64 0, .slice none 0 0] h fun (a2 : Addr) (h3 : Heap) =>
  st a2 [.int .i64 (IntKind.i64.wrap (1000 + m1)), .slice none 0 0] h3 fun (h4 : Heap) =>
  ld [.int .i64, .sl] a2 h4 fun (v5 : Int) (v6 : Sl) =>
  Q v5 v6 h4
def F_law1_flightsMark (m1 : Int) (h : Heap) (Q : Int → Sl → Heap → Prop) : Prop := F_law1_flightsMark_of  m1 h Q
def plan133 : Plan := .s (.r [0, 2]) (.s (.r [2]) .z)
theorem F_law1_flightsMark.eq  (m1 : Int) (h : Heap) (K : Value → Heap → Prop) : F_law1_flightsMark_of  m1 h (fun (r0 : Int) (r1 : Sl) (h : Heap) => K (.agg #[.int .i64 r0, .slice r1.ptr r1.len r1.cap]) h) =
    den Try.prog noFns Try.f133.ntmps plan133 (bodyOf Try.f133) (args0 0 [(.int .i64 m1 : Value)]) h ⟨fun env h => dRes Try.prog Try.f133.results.toList env h K, fun _ _ _ => False, fun env h => dRes Try.prog Try.f133.results.toList env h K⟩ := by kernel_rfl
def E_law1_flightsMark_of (f : Int → Heap → (Int → Sl → Heap → Prop) → Prop) : List Value → Heap → (Value → Heap → Prop) → Prop
  | [v0], h, K => dec1 (.int .i64) v0 fun (m1 : Int) =>
  f m1 h (fun (r0 : Int) (r1 : Sl) (h : Heap) => K (.agg #[.int .i64 r0, .slice r1.ptr r1.len r1.cap]) h)
  | _, _, _ => False
abbrev E_law1_flightsMark := E_law1_flightsMark_of F_law1_flightsMark
theorem E_law1_flightsMark.right : IsRight Try.prog 133 E_law1_flightsMark := by
  refine isRight fun vs K w hh => ?_
  match vs, hh with
  | [v0], hh =>
    unfold E_law1_flightsMark E_law1_flightsMark_of at hh
    replace hh := dec1_sound hh; obtain ⟨m1, rfl, hh⟩ := hh
    unfold F_law1_flightsMark at hh
    exact calls_den noFns_right plan133 _ w K Try.func133 (by kernel_rfl) (by kernel_rfl) (Eq.mp (F_law1_flightsMark.eq  m1 w.heap K) hh)
theorem ok133 : okFn Try.prog 133 = true := by kernel_rfl
end Go.Proofs.Ytboidjampddfoaa.V
namespace Go.Proofs.Ytboidjampddfoaa.V
open Go Go.RowKit
set_option linter.unusedVariables false
set_option maxRecDepth 100000
def F_law1_Book_growFlights.l1 (f133_ : Int → Heap → (Int → Sl → Heap → Prop) → Prop) (b1 : Option Addr) (v18 : Int) (j19 : Heap → Prop) : Sl → Int → Heap → Prop :=
  wl [(4, .one .sl), (6, .one (.int .i64))] (fun (next20 : Sl → Int → Heap → Prop) (g21 : Sl) (i22 : Int) (h23 : Heap) =>
  brr (decide (i22 ≤ 32))
  (f133_ v18 h23 fun (r24 : Int) (r25 : Sl) (h26 : Heap) =>
  al 63 [.int .i64 r24, .slice r25.ptr r25.len r25.cap] h26 fun (a27 : Addr) (h28 : Heap) =>
  app 63 2 32 (.agg #[.int .i64 0, .slice none 0 0]) g21 (some a27) 1 h28 fun (s29 : Sl) (h30 : Heap) =>
  jn [(50, .one .bool)] (fun (x32 : Bool) (h33 : Heap) =>
  jn [] (fun  (h51 : Heap) =>
  next20 s29 (IntKind.i64.wrap (i22 + 1)) h51) (fun (j34 : Heap → Prop) =>
  brr x32
  (nn b1 fun (a35 : Addr) =>
  ld [.sl] (a35.add 30) h33 fun (v36 : Sl) =>
  al 152 [.slice s29.ptr s29.len s29.cap] h33 fun (a37 : Addr) (h38 : Heap) =>
  app 152 1 24 (.slice none 0 0) v36 (some a37) 1 h38 fun (s39 : Sl) (h40 : Heap) =>
  nn b1 fun (a41 : Addr) =>
  st (a41.add 30) [.slice s39.ptr s39.len s39.cap] h40 fun (h42 : Heap) =>
  nn b1 fun (a43 : Addr) =>
  ld [.sl] (a43.add 31) h42 fun (v44 : Sl) =>
  al 3 [.int .i64 v18] h42 fun (a45 : Addr) (h46 : Heap) =>
  app 3 1 8 (.int .i64 0) v44 (some a45) 1 h46 fun (s47 : Sl) (h48 : Heap) =>
  nn b1 fun (a49 : Addr) =>
  st (a49.add 31) [.slice s47.ptr s47.len s47.cap] h48 fun (h50 : Heap) =>
  j34 h50)
  (j34 h33))) (fun (j31 : Bool → Heap → Prop) =>
  brr (decide (i22 < 4))
  (j31 true h30)
  ((16 : Int) ≠ 0 ∧
  j31 ((i22.tmod 16) == 0) h30)))
  (j19 h23))
def F_law1_Book_growFlights.l2 (f133_ : Int → Heap → (Int → Sl → Heap → Prop) → Prop) (b1 : Option Addr) (v3 : Sl) (j6 : Heap → Prop) : Int → Heap → Prop :=
  wl [(3, .one (.int .i64))] (fun (next7 : Int → Heap → Prop) (k8 : Int) (h9 : Heap) =>
  brr (decide (k8 < ((v3.len : Nat) : Int)))
  (jn [] (fun  (h53 : Heap) =>
  next7 (IntKind.i64.wrap (k8 + 1)) h53) (fun (j10 : Heap → Prop) =>
  nn b1 fun (a11 : Addr) =>
  ld [.sl] (a11.add 30) h9 fun (v12 : Sl) =>
  ixS 1 v12 k8 fun (a13 : Addr) =>
  ld [.sl] a13 h9 fun (v14 : Sl) =>
  nn b1 fun (a15 : Addr) =>
  ld [.sl] (a15.add 31) h9 fun (v16 : Sl) =>
  ixS 1 v16 k8 fun (a17 : Addr) =>
  ld [.int .i64] a17 h9 fun (v18 : Int) =>
  jn [] (fun  (h52 : Heap) =>
  j10 h52) (fun (j19 : Heap → Prop) =>
  F_law1_Book_growFlights.l1 f133_ b1 v18 j19 v14 1 h9)))
  (j6 h9))
def F_law1_Book_growFlights_of (f133_ : Int → Heap → (Int → Sl → Heap → Prop) → Prop) (b1 : Option Addr) (h : Heap) (Q : Heap → Prop) : Prop :=
  nn b1 fun (a2 : Addr) =>
  ld [.sl] (a2.add 30) h fun (v3 : Sl) =>
  nn b1 fun (a4 : Addr) =>
  ld [.int .i64] (a4.add 32) h fun (v5 : Int) =>
  jn [] (fun  (h54 : Heap) =>
  nn b1 fun (a55 : Addr) =>
  ld [.sl] (a55.add 30) h54 fun (v56 : Sl) =>
  nn b1 fun (a57 : Addr) =>
  st (a57.add 32) [.int .i64 ((v56.len : Nat) : Int)] h54 fun (h58 : Heap) =>
  Q h58) (fun (j6 : Heap → Prop) =>
  F_law1_Book_growFlights.l2 f133_ b1 v3 j6 v5 h)
def F_law1_Book_growFlights (b1 : Option Addr) (h : Heap) (Q : Heap → Prop) : Prop := F_law1_Book_growFlights_of F_law1_flightsMark b1 h Q
def plan110 : Plan := .s (.r [0, 2]) (.s (.s (.r [0, 2, 3]) (.bj [] [0] (.l [(3, .one (.int .i64))] [0, 2] (.s (.s (.r [0, 2, 3, 18]) (.c .z .z)) (.s (.bj [] [0, 2, 3] (.s (.r [0, 2, 3, 4]) (.s (.r [0, 2, 3, 4, 5]) (.s (.r [0, 2, 3, 4, 5, 6]) (.bj [] [0, 2, 3] (.l [(4, .one .sl), (6, .one (.int .i64))] [0, 2, 3, 5] (.s (.s (.r [0, 2, 3, 4, 5, 6, 36]) (.c .z .z)) (.s (.b (.s (.r [0, 2, 3, 4, 5, 6]) (.s (.rj [(50, .one .bool)] [0, 2, 3, 4, 5, 6]) (.cj [] [0, 2, 3, 4, 5, 6] (.s (.r [0, 2, 3, 4, 5, 6]) (.r [0, 2, 3, 4, 5, 6])) .z)))) (.r [0, 2, 3, 4, 5, 6]))))))))) (.r [0, 2, 3])))))) (.r []))
theorem F_law1_Book_growFlights.eq (f133_ : Int → Heap → (Int → Sl → Heap → Prop) → Prop) (b1 : Option Addr) (h : Heap) (K : Value → Heap → Prop) : F_law1_Book_growFlights_of f133_ b1 h (fun  (h : Heap) => K (.tuple #[]) h) =
    den Try.prog (fn1 133 (E_law1_flightsMark_of f133_) noFns) Try.f110.ntmps plan110 (bodyOf Try.f110) (args0 0 [(.pointer b1 : Value)]) h ⟨fun env h => dRes Try.prog Try.f110.results.toList env h K, fun _ _ _ => False, fun env h => dRes Try.prog Try.f110.results.toList env h K⟩ := by kernel_rfl
def E_law1_Book_growFlights_of (f : Option Addr → Heap → (Heap → Prop) → Prop) : List Value → Heap → (Value → Heap → Prop) → Prop
  | [v0], h, K => dec1 .ptr v0 fun (b1 : Option Addr) =>
  f b1 h (fun  (h : Heap) => K (.tuple #[]) h)
  | _, _, _ => False
abbrev E_law1_Book_growFlights := E_law1_Book_growFlights_of F_law1_Book_growFlights
theorem E_law1_Book_growFlights.right : IsRight Try.prog 110 E_law1_Book_growFlights := by
  refine isRight fun vs K w hh => ?_
  match vs, hh with
  | [v0], hh =>
    unfold E_law1_Book_growFlights E_law1_Book_growFlights_of at hh
    replace hh := dec1_sound hh; obtain ⟨b1, rfl, hh⟩ := hh
    unfold F_law1_Book_growFlights at hh
    exact calls_den (fn1_right ok133 E_law1_flightsMark.right noFns_right) plan110 _ w K Try.func110 (by kernel_rfl) (by kernel_rfl) (Eq.mp (F_law1_Book_growFlights.eq F_law1_flightsMark b1 w.heap K) hh)
theorem ok110 : okFn Try.prog 110 = true := by kernel_rfl
end Go.Proofs.Ytboidjampddfoaa.V
namespace Go.Proofs.Ytboidjampddfoaa.V
open Go Go.RowKit
set_option linter.unusedVariables false
set_option maxRecDepth 100000
def F_law1_Book_growFiles.l1 (f131_ : Int → Heap → (ByteArray → Sl → Heap → Prop) → Prop) (b1 : Option Addr) (v18 : Int) (j19 : Heap → Prop) : Sl → Int → Heap → Prop :=
  wl [(4, .one .sl), (6, .one (.int .i64))] (fun (next20 : Sl → Int → Heap → Prop) (g21 : Sl) (i22 : Int) (h23 : Heap) =>
  brr (decide (i22 ≤ 32))
  (f131_ v18 h23 fun (r24 : ByteArray) (r25 : Sl) (h26 : Heap) =>
  al 195 [.string r24, .slice r25.ptr r25.len r25.cap] h26 fun (a27 : Addr) (h28 : Heap) =>
  app 195 2 40 (.agg #[.string (⟨#[]⟩ : ByteArray), .slice none 0 0]) g21 (some a27) 1 h28 fun (s29 : Sl) (h30 : Heap) =>
  jn [(50, .one .bool)] (fun (x32 : Bool) (h33 : Heap) =>
  jn [] (fun  (h51 : Heap) =>
  next20 s29 (IntKind.i64.wrap (i22 + 1)) h51) (fun (j34 : Heap → Prop) =>
  brr x32
  (nn b1 fun (a35 : Addr) =>
  ld [.sl] (a35.add 33) h33 fun (v36 : Sl) =>
  al 193 [.slice s29.ptr s29.len s29.cap] h33 fun (a37 : Addr) (h38 : Heap) =>
  app 193 1 24 (.slice none 0 0) v36 (some a37) 1 h38 fun (s39 : Sl) (h40 : Heap) =>
  nn b1 fun (a41 : Addr) =>
  st (a41.add 33) [.slice s39.ptr s39.len s39.cap] h40 fun (h42 : Heap) =>
  nn b1 fun (a43 : Addr) =>
  ld [.sl] (a43.add 34) h42 fun (v44 : Sl) =>
  al 3 [.int .i64 v18] h42 fun (a45 : Addr) (h46 : Heap) =>
  app 3 1 8 (.int .i64 0) v44 (some a45) 1 h46 fun (s47 : Sl) (h48 : Heap) =>
  nn b1 fun (a49 : Addr) =>
  st (a49.add 34) [.slice s47.ptr s47.len s47.cap] h48 fun (h50 : Heap) =>
  j34 h50)
  (j34 h33))) (fun (j31 : Bool → Heap → Prop) =>
  brr (decide (i22 < 4))
  (j31 true h30)
  ((16 : Int) ≠ 0 ∧
  j31 ((i22.tmod 16) == 0) h30)))
  (j19 h23))
def F_law1_Book_growFiles.l2 (f131_ : Int → Heap → (ByteArray → Sl → Heap → Prop) → Prop) (b1 : Option Addr) (v3 : Sl) (j6 : Heap → Prop) : Int → Heap → Prop :=
  wl [(3, .one (.int .i64))] (fun (next7 : Int → Heap → Prop) (k8 : Int) (h9 : Heap) =>
  brr (decide (k8 < ((v3.len : Nat) : Int)))
  (jn [] (fun  (h53 : Heap) =>
  next7 (IntKind.i64.wrap (k8 + 1)) h53) (fun (j10 : Heap → Prop) =>
  nn b1 fun (a11 : Addr) =>
  ld [.sl] (a11.add 33) h9 fun (v12 : Sl) =>
  ixS 1 v12 k8 fun (a13 : Addr) =>
  ld [.sl] a13 h9 fun (v14 : Sl) =>
  nn b1 fun (a15 : Addr) =>
  ld [.sl] (a15.add 34) h9 fun (v16 : Sl) =>
  ixS 1 v16 k8 fun (a17 : Addr) =>
  ld [.int .i64] a17 h9 fun (v18 : Int) =>
  jn [] (fun  (h52 : Heap) =>
  j10 h52) (fun (j19 : Heap → Prop) =>
  F_law1_Book_growFiles.l1 f131_ b1 v18 j19 v14 1 h9)))
  (j6 h9))
def F_law1_Book_growFiles_of (f131_ : Int → Heap → (ByteArray → Sl → Heap → Prop) → Prop) (b1 : Option Addr) (h : Heap) (Q : Heap → Prop) : Prop :=
  nn b1 fun (a2 : Addr) =>
  ld [.sl] (a2.add 33) h fun (v3 : Sl) =>
  nn b1 fun (a4 : Addr) =>
  ld [.int .i64] (a4.add 35) h fun (v5 : Int) =>
  jn [] (fun  (h54 : Heap) =>
  nn b1 fun (a55 : Addr) =>
  ld [.sl] (a55.add 33) h54 fun (v56 : Sl) =>
  nn b1 fun (a57 : Addr) =>
  st (a57.add 35) [.int .i64 ((v56.len : Nat) : Int)] h54 fun (h58 : Heap) =>
  Q h58) (fun (j6 : Heap → Prop) =>
  F_law1_Book_growFiles.l2 f131_ b1 v3 j6 v5 h)
def F_law1_Book_growFiles (b1 : Option Addr) (h : Heap) (Q : Heap → Prop) : Prop := F_law1_Book_growFiles_of F_law1_filesMark b1 h Q
def plan111 : Plan := .s (.r [0, 2]) (.s (.s (.r [0, 2, 3]) (.bj [] [0] (.l [(3, .one (.int .i64))] [0, 2] (.s (.s (.r [0, 2, 3, 18]) (.c .z .z)) (.s (.bj [] [0, 2, 3] (.s (.r [0, 2, 3, 4]) (.s (.r [0, 2, 3, 4, 5]) (.s (.r [0, 2, 3, 4, 5, 6]) (.bj [] [0, 2, 3] (.l [(4, .one .sl), (6, .one (.int .i64))] [0, 2, 3, 5] (.s (.s (.r [0, 2, 3, 4, 5, 6, 36]) (.c .z .z)) (.s (.b (.s (.r [0, 2, 3, 4, 5, 6]) (.s (.rj [(50, .one .bool)] [0, 2, 3, 4, 5, 6]) (.cj [] [0, 2, 3, 4, 5, 6] (.s (.r [0, 2, 3, 4, 5, 6]) (.r [0, 2, 3, 4, 5, 6])) .z)))) (.r [0, 2, 3, 4, 5, 6]))))))))) (.r [0, 2, 3])))))) (.r []))
theorem F_law1_Book_growFiles.eq (f131_ : Int → Heap → (ByteArray → Sl → Heap → Prop) → Prop) (b1 : Option Addr) (h : Heap) (K : Value → Heap → Prop) : F_law1_Book_growFiles_of f131_ b1 h (fun  (h : Heap) => K (.tuple #[]) h) =
    den Try.prog (fn1 131 (E_law1_filesMark_of f131_) noFns) Try.f111.ntmps plan111 (bodyOf Try.f111) (args0 0 [(.pointer b1 : Value)]) h ⟨fun env h => dRes Try.prog Try.f111.results.toList env h K, fun _ _ _ => False, fun env h => dRes Try.prog Try.f111.results.toList env h K⟩ := by kernel_rfl
def E_law1_Book_growFiles_of (f : Option Addr → Heap → (Heap → Prop) → Prop) : List Value → Heap → (Value → Heap → Prop) → Prop
  | [v0], h, K => dec1 .ptr v0 fun (b1 : Option Addr) =>
  f b1 h (fun  (h : Heap) => K (.tuple #[]) h)
  | _, _, _ => False
abbrev E_law1_Book_growFiles := E_law1_Book_growFiles_of F_law1_Book_growFiles
theorem E_law1_Book_growFiles.right : IsRight Try.prog 111 E_law1_Book_growFiles := by
  refine isRight fun vs K w hh => ?_
  match vs, hh with
  | [v0], hh =>
    unfold E_law1_Book_growFiles E_law1_Book_growFiles_of at hh
    replace hh := dec1_sound hh; obtain ⟨b1, rfl, hh⟩ := hh
    unfold F_law1_Book_growFiles at hh
    exact calls_den (fn1_right ok131 E_law1_filesMark.right noFns_right) plan111 _ w K Try.func111 (by kernel_rfl) (by kernel_rfl) (Eq.mp (F_law1_Book_growFiles.eq F_law1_filesMark b1 w.heap K) hh)
theorem ok111 : okFn Try.prog 111 = true := by kernel_rfl
end Go.Proofs.Ytboidjampddfoaa.V
namespace Go.Proofs.Ytboidjampddfoaa.V
open Go Go.RowKit
set_option linter.unusedVariables false
set_option maxRecDepth 100000
def F_law1_Book_grow_of (f100_ : Option Addr → Heap → (Heap → Prop) → Prop) (f101_ : Option Addr → Heap → (Heap → Prop) → Prop) (f102_ : Option Addr → Heap → (Heap → Prop) → Prop) (f103_ : Option Addr → Heap → (Heap → Prop) → Prop) (f104_ : Option Addr → Heap → (Heap → Prop) → Prop) (f105_ : Option Addr → Heap → (Heap → Prop) → Prop) (f106_ : Option Addr → Heap → (Heap → Prop) → Prop) (f107_ : Option Addr → Heap → (Heap → Prop) → Prop) (f108_ : Option Addr → Heap → (Heap → Prop) → Prop) (f109_ : Option Addr → Heap → (Heap → Prop) → Prop) (f110_ : Option Addr → Heap → (Heap → Prop) → Prop) (f111_ : Option Addr → Heap → (Heap → Prop) → Prop) (b1 : Option Addr) (h : Heap) (Q : Heap → Prop) : Prop :=
  f100_ b1 h fun  (h2 : Heap) =>
  f101_ b1 h2 fun  (h3 : Heap) =>
  f102_ b1 h3 fun  (h4 : Heap) =>
  f103_ b1 h4 fun  (h5 : Heap) =>
  f104_ b1 h5 fun  (h6 : Heap) =>
  f105_ b1 h6 fun  (h7 : Heap) =>
  f106_ b1 h7 fun  (h8 : Heap) =>
  f107_ b1 h8 fun  (h9 : Heap) =>
  f108_ b1 h9 fun  (h10 : Heap) =>
  f109_ b1 h10 fun  (h11 : Heap) =>
  f110_ b1 h11 fun  (h12 : Heap) =>
  f111_ b1 h12 fun  (h13 : Heap) =>
  nn b1 fun (a14 : Addr) =>
  ld [.int .i64] (a14.add 36) h13 fun (v15 : Int) =>
  nn b1 fun (a16 : Addr) =>
  st (a16.add 37) [.int .i64 v15] h13 fun (h17 : Heap) =>
  Q h17
def F_law1_Book_grow (b1 : Option Addr) (h : Heap) (Q : Heap → Prop) : Prop := F_law1_Book_grow_of F_law1_Book_growBytes F_law1_Book_growRows F_law1_Book_growTexts F_law1_Book_growInts F_law1_Book_growWords F_law1_Book_growDones F_law1_Book_growAccts F_law1_Book_growQueue F_law1_Book_growSlots F_law1_Book_growMsgs F_law1_Book_growFlights F_law1_Book_growFiles b1 h Q
def plan84 : Plan := .s (.r [0]) (.s (.r [0]) (.s (.r [0]) (.s (.r [0]) (.s (.r [0]) (.s (.r [0]) (.s (.r [0]) (.s (.r [0]) (.s (.r [0]) (.s (.r [0]) (.s (.r [0]) (.s (.r [0]) (.r []))))))))))))
theorem F_law1_Book_grow.eq (f100_ : Option Addr → Heap → (Heap → Prop) → Prop) (f101_ : Option Addr → Heap → (Heap → Prop) → Prop) (f102_ : Option Addr → Heap → (Heap → Prop) → Prop) (f103_ : Option Addr → Heap → (Heap → Prop) → Prop) (f104_ : Option Addr → Heap → (Heap → Prop) → Prop) (f105_ : Option Addr → Heap → (Heap → Prop) → Prop) (f106_ : Option Addr → Heap → (Heap → Prop) → Prop) (f107_ : Option Addr → Heap → (Heap → Prop) → Prop) (f108_ : Option Addr → Heap → (Heap → Prop) → Prop) (f109_ : Option Addr → Heap → (Heap → Prop) → Prop) (f110_ : Option Addr → Heap → (Heap → Prop) → Prop) (f111_ : Option Addr → Heap → (Heap → Prop) → Prop) (b1 : Option Addr) (h : Heap) (K : Value → Heap → Prop) : F_law1_Book_grow_of f100_ f101_ f102_ f103_ f104_ f105_ f106_ f107_ f108_ f109_ f110_ f111_ b1 h (fun  (h : Heap) => K (.tuple #[]) h) =
    den Try.prog (fn1 100 (E_law1_Book_growBytes_of f100_) (fn1 101 (E_law1_Book_growRows_of f101_) (fn1 102 (E_law1_Book_growTexts_of f102_) (fn1 103 (E_law1_Book_growInts_of f103_) (fn1 104 (E_law1_Book_growWords_of f104_) (fn1 105 (E_law1_Book_growDones_of f105_) (fn1 106 (E_law1_Book_growAccts_of f106_) (fn1 107 (E_law1_Book_growQueue_of f107_) (fn1 108 (E_law1_Book_growSlots_of f108_) (fn1 109 (E_law1_Book_growMsgs_of f109_) (fn1 110 (E_law1_Book_growFlights_of f110_) (fn1 111 (E_law1_Book_growFiles_of f111_) noFns)))))))))))) Try.f84.ntmps plan84 (bodyOf Try.f84) (args0 0 [(.pointer b1 : Value)]) h ⟨fun env h => dRes Try.prog Try.f84.results.toList env h K, fun _ _ _ => False, fun env h => dRes Try.prog Try.f84.results.toList env h K⟩ := by kernel_rfl
def E_law1_Book_grow_of (f : Option Addr → Heap → (Heap → Prop) → Prop) : List Value → Heap → (Value → Heap → Prop) → Prop
  | [v0], h, K => dec1 .ptr v0 fun (b1 : Option Addr) =>
  f b1 h (fun  (h : Heap) => K (.tuple #[]) h)
  | _, _, _ => False
abbrev E_law1_Book_grow := E_law1_Book_grow_of F_law1_Book_grow
theorem E_law1_Book_grow.right : IsRight Try.prog 84 E_law1_Book_grow := by
  refine isRight fun vs K w hh => ?_
  match vs, hh with
  | [v0], hh =>
    unfold E_law1_Book_grow E_law1_Book_grow_of at hh
    replace hh := dec1_sound hh; obtain ⟨b1, rfl, hh⟩ := hh
    unfold F_law1_Book_grow at hh
    exact calls_den (fn1_right ok100 E_law1_Book_growBytes.right (fn1_right ok101 E_law1_Book_growRows.right (fn1_right ok102 E_law1_Book_growTexts.right (fn1_right ok103 E_law1_Book_growInts.right (fn1_right ok104 E_law1_Book_growWords.right (fn1_right ok105 E_law1_Book_growDones.right (fn1_right ok106 E_law1_Book_growAccts.right (fn1_right ok107 E_law1_Book_growQueue.right (fn1_right ok108 E_law1_Book_growSlots.right (fn1_right ok109 E_law1_Book_growMsgs.right (fn1_right ok110 E_law1_Book_growFlights.right (fn1_right ok111 E_law1_Book_growFiles.right noFns_right)))))))))))) plan84 _ w K Try.func84 (by kernel_rfl) (by kernel_rfl) (Eq.mp (F_law1_Book_grow.eq F_law1_Book_growBytes F_law1_Book_growRows F_law1_Book_growTexts F_law1_Book_growInts F_law1_Book_growWords F_law1_Book_growDones F_law1_Book_growAccts F_law1_Book_growQueue F_law1_Book_growSlots F_law1_Book_growMsgs F_law1_Book_growFlights F_law1_Book_growFiles b1 w.heap K) hh)
theorem ok84 : okFn Try.prog 84 = true := by kernel_rfl
end Go.Proofs.Ytboidjampddfoaa.V
namespace Go.Proofs.Ytboidjampddfoaa.V
open Go Go.RowKit
set_option linter.unusedVariables false
set_option maxRecDepth 100000
def F_law1_Book_Look_of (f83_ : Option Addr → Heap → (Bool → Heap → Prop) → Prop) (f84_ : Option Addr → Heap → (Heap → Prop) → Prop) (b1 : Option Addr) (h : Heap) (Q : Bool → Heap → Prop) : Prop :=
  f83_ b1 h fun (r2 : Bool) (h3 : Heap) =>
  brr (!r2)
  (Q false h3)
  (nn b1 fun (a4 : Addr) =>
  ld [.int .i64] (a4.add 37) h3 fun (v5 : Int) =>
  nn b1 fun (a6 : Addr) =>
  ld [.int .i64] (a6.add 36) h3 fun (v7 : Int) =>
  brr (v5 == v7)
  (Q true h3)
  (f84_ b1 h3 fun  (h8 : Heap) =>
  f83_ b1 h8 fun (r9 : Bool) (h10 : Heap) =>
  Q r9 h10))
def F_law1_Book_Look (b1 : Option Addr) (h : Heap) (Q : Bool → Heap → Prop) : Prop := F_law1_Book_Look_of F_law1_Book_holds F_law1_Book_grow b1 h Q
def plan57 : Plan := .s (.r [0]) (.s (.s (.r [0, 5]) (.c (.s (.r [2]) .z) .z)) (.s (.s (.d [0, 1, 3, 7, 0, 16, 48, 112, 255] [[0, 1, 2, 3, 4, 5, 6, 7, 8]] [0, 14]) (.c (.s (.r [2]) .z) .z)) (.s (.r [0]) (.s (.r [2]) .z))))
theorem F_law1_Book_Look.eq (f83_ : Option Addr → Heap → (Bool → Heap → Prop) → Prop) (f84_ : Option Addr → Heap → (Heap → Prop) → Prop) (b1 : Option Addr) (h : Heap) (K : Value → Heap → Prop) : F_law1_Book_Look_of f83_ f84_ b1 h (fun (r0 : Bool) (h : Heap) => K (.bool r0) h) =
    den Try.prog (fn1 83 (E_law1_Book_holds_of f83_) (fn1 84 (E_law1_Book_grow_of f84_) noFns)) Try.f57.ntmps plan57 (bodyOf Try.f57) (args0 0 [(.pointer b1 : Value)]) h ⟨fun env h => dRes Try.prog Try.f57.results.toList env h K, fun _ _ _ => False, fun env h => dRes Try.prog Try.f57.results.toList env h K⟩ := by kernel_rfl
def E_law1_Book_Look_of (f : Option Addr → Heap → (Bool → Heap → Prop) → Prop) : List Value → Heap → (Value → Heap → Prop) → Prop
  | [v0], h, K => dec1 .ptr v0 fun (b1 : Option Addr) =>
  f b1 h (fun (r0 : Bool) (h : Heap) => K (.bool r0) h)
  | _, _, _ => False
abbrev E_law1_Book_Look := E_law1_Book_Look_of F_law1_Book_Look
theorem E_law1_Book_Look.right : IsRight Try.prog 57 E_law1_Book_Look := by
  refine isRight fun vs K w hh => ?_
  match vs, hh with
  | [v0], hh =>
    unfold E_law1_Book_Look E_law1_Book_Look_of at hh
    replace hh := dec1_sound hh; obtain ⟨b1, rfl, hh⟩ := hh
    unfold F_law1_Book_Look at hh
    exact calls_den (fn1_right ok83 E_law1_Book_holds.right (fn1_right ok84 E_law1_Book_grow.right noFns_right)) plan57 _ w K Try.func57 (by kernel_rfl) (by kernel_rfl) (Eq.mp (F_law1_Book_Look.eq F_law1_Book_holds F_law1_Book_grow b1 w.heap K) hh)
theorem ok57 : okFn Try.prog 57 = true := by kernel_rfl
end Go.Proofs.Ytboidjampddfoaa.V
namespace Go.Proofs.Ytboidjampddfoaa.V
open Go Go.RowKit
set_option linter.unusedVariables false
set_option maxRecDepth 100000
def F_law1_Book_tight_of  (b1 : Option Addr) (n2 : Int) (h : Heap) (Q : Bool → Heap → Prop) : Prop :=
  nn b1 fun (a3 : Addr) =>
  ld [.int .i64] (a3.add 38) h fun (v4 : Int) =>
  brr (decide ((IntKind.i64.wrap (v4 + n2)) > 16777216))
  (Q true h)
  (nn b1 fun (a5 : Addr) =>
  ld [.int .i64] (a5.add 38) h fun (v6 : Int) =>
  nn b1 fun (a7 : Addr) =>
  st (a7.add 38) [.int .i64 (IntKind.i64.wrap (v6 + n2))] h fun (h8 : Heap) =>
  Q false h8)
def F_law1_Book_tight (b1 : Option Addr) (n2 : Int) (h : Heap) (Q : Bool → Heap → Prop) : Prop := F_law1_Book_tight_of  b1 n2 h Q
def plan122 : Plan := .s (.r [0, 1]) (.s (.s (.r [0, 1, 11]) (.c (.s (.r [4]) .z) .z)) (.s (.r []) (.s (.r [4]) .z)))
theorem F_law1_Book_tight.eq  (b1 : Option Addr) (n2 : Int) (h : Heap) (K : Value → Heap → Prop) : F_law1_Book_tight_of  b1 n2 h (fun (r0 : Bool) (h : Heap) => K (.bool r0) h) =
    den Try.prog noFns Try.f122.ntmps plan122 (bodyOf Try.f122) (args0 0 [(.pointer b1 : Value), (.int .i64 n2 : Value)]) h ⟨fun env h => dRes Try.prog Try.f122.results.toList env h K, fun _ _ _ => False, fun env h => dRes Try.prog Try.f122.results.toList env h K⟩ := by kernel_rfl
def E_law1_Book_tight_of (f : Option Addr → Int → Heap → (Bool → Heap → Prop) → Prop) : List Value → Heap → (Value → Heap → Prop) → Prop
  | [v0, v1], h, K => dec1 .ptr v0 fun (b1 : Option Addr) =>
  dec1 (.int .i64) v1 fun (n2 : Int) =>
  f b1 n2 h (fun (r0 : Bool) (h : Heap) => K (.bool r0) h)
  | _, _, _ => False
abbrev E_law1_Book_tight := E_law1_Book_tight_of F_law1_Book_tight
theorem E_law1_Book_tight.right : IsRight Try.prog 122 E_law1_Book_tight := by
  refine isRight fun vs K w hh => ?_
  match vs, hh with
  | [v0, v1], hh =>
    unfold E_law1_Book_tight E_law1_Book_tight_of at hh
    replace hh := dec1_sound hh; obtain ⟨b1, rfl, hh⟩ := hh
    replace hh := dec1_sound hh; obtain ⟨n2, rfl, hh⟩ := hh
    unfold F_law1_Book_tight at hh
    exact calls_den noFns_right plan122 _ w K Try.func122 (by kernel_rfl) (by kernel_rfl) (Eq.mp (F_law1_Book_tight.eq  b1 n2 w.heap K) hh)
theorem ok122 : okFn Try.prog 122 = true := by kernel_rfl
end Go.Proofs.Ytboidjampddfoaa.V
namespace Go.Proofs.Ytboidjampddfoaa.V
open Go Go.RowKit
set_option linter.unusedVariables false
set_option maxRecDepth 100000
def F_law1_Book_Bytes.l1 (f121_ : Int → Int → Heap → (Int → Heap → Prop) → Prop) (l2 : Sl) (v8 : Int) (j9 : Heap → Prop) : Int → Heap → Prop :=
  wl [(5, .one (.int .i64))] (fun (next10 : Int → Heap → Prop) (i11 : Int) (h12 : Heap) =>
  brr (decide (i11 < ((l2.len : Nat) : Int)))
  (f121_ v8 i11 h12 fun (r13 : Int) (h14 : Heap) =>
  ixS 1 l2 i11 fun (a15 : Addr) =>
  st a15 [.int .u8 r13] h14 fun (h16 : Heap) =>
  next10 (IntKind.i64.wrap (i11 + 1)) h16)
  (j9 h12))
def F_law1_Book_Bytes_of (f121_ : Int → Int → Heap → (Int → Heap → Prop) → Prop) (f122_ : Option Addr → Int → Heap → (Bool → Heap → Prop) → Prop) (b1 : Option Addr) (l2 : Sl) (h : Heap) (Q : Heap → Prop) : Prop :=
  nn b1 fun (a3 : Addr) =>
  ld [.int .i64] (a3.add 36) h fun (v4 : Int) =>
  nn b1 fun (a5 : Addr) =>
  st (a5.add 36) [.int .i64 (IntKind.i64.wrap (v4 + 1))] h fun (h6 : Heap) =>
  nn b1 fun (a7 : Addr) =>
  ld [.int .i64] (a7.add 36) h6 fun (v8 : Int) =>
  jn [] (fun  (h17 : Heap) =>
  f122_ b1 (IntKind.i64.wrap (1200 + (IntKind.i64.wrap (3 * ((l2.len : Nat) : Int))))) h17 fun (r18 : Bool) (h19 : Heap) =>
  brr r18
  (Q h19)
  (nn b1 fun (a20 : Addr) =>
  ld [.sl] (a20.add 0) h19 fun (v21 : Sl) =>
  al 31 [.slice l2.ptr l2.len l2.cap] h19 fun (a22 : Addr) (h23 : Heap) =>
  app 31 1 24 (.slice none 0 0) v21 (some a22) 1 h23 fun (s24 : Sl) (h25 : Heap) =>
  nn b1 fun (a26 : Addr) =>
  st (a26.add 0) [.slice s24.ptr s24.len s24.cap] h25 fun (h27 : Heap) =>
  nn b1 fun (a28 : Addr) =>
  ld [.sl] (a28.add 1) h27 fun (v29 : Sl) =>
  al 3 [.int .i64 v8] h27 fun (a30 : Addr) (h31 : Heap) =>
  app 3 1 8 (.int .i64 0) v29 (some a30) 1 h31 fun (s32 : Sl) (h33 : Heap) =>
  nn b1 fun (a34 : Addr) =>
  st (a34.add 1) [.slice s32.ptr s32.len s32.cap] h33 fun (h35 : Heap) =>
  Q h35)) (fun (j9 : Heap → Prop) =>
  F_law1_Book_Bytes.l1 f121_ l2 v8 j9 0 h6)
def F_law1_Book_Bytes (b1 : Option Addr) (l2 : Sl) (h : Heap) (Q : Heap → Prop) : Prop := F_law1_Book_Bytes_of F_law1_at F_law1_Book_tight b1 l2 h Q
def plan95 : Plan := .s (.r [0, 1]) (.s (.r [0, 1, 4]) (.s (.s (.r [0, 1, 4, 5]) (.bj [] [0, 1, 4] (.l [(5, .one (.int .i64))] [0, 1, 4] (.s (.s (.r [0, 1, 4, 5, 20]) (.c .z .z)) (.s (.b (.r [0, 1, 4, 5])) (.r [0, 1, 4, 5])))))) (.s (.s (.r [0, 1, 4, 34]) (.c .z .z)) (.s (.r [0, 4]) (.r [])))))
theorem F_law1_Book_Bytes.eq (f121_ : Int → Int → Heap → (Int → Heap → Prop) → Prop) (f122_ : Option Addr → Int → Heap → (Bool → Heap → Prop) → Prop) (b1 : Option Addr) (l2 : Sl) (h : Heap) (K : Value → Heap → Prop) : F_law1_Book_Bytes_of f121_ f122_ b1 l2 h (fun  (h : Heap) => K (.tuple #[]) h) =
    den Try.prog (fn1 121 (E_law1_at_of f121_) (fn1 122 (E_law1_Book_tight_of f122_) noFns)) Try.f95.ntmps plan95 (bodyOf Try.f95) (args0 0 [(.pointer b1 : Value), (.slice l2.ptr l2.len l2.cap : Value)]) h ⟨fun env h => dRes Try.prog Try.f95.results.toList env h K, fun _ _ _ => False, fun env h => dRes Try.prog Try.f95.results.toList env h K⟩ := by kernel_rfl
def E_law1_Book_Bytes_of (f : Option Addr → Sl → Heap → (Heap → Prop) → Prop) : List Value → Heap → (Value → Heap → Prop) → Prop
  | [v0, v1], h, K => dec1 .ptr v0 fun (b1 : Option Addr) =>
  dec1 .sl v1 fun (l2 : Sl) =>
  f b1 l2 h (fun  (h : Heap) => K (.tuple #[]) h)
  | _, _, _ => False
abbrev E_law1_Book_Bytes := E_law1_Book_Bytes_of F_law1_Book_Bytes
theorem E_law1_Book_Bytes.right : IsRight Try.prog 95 E_law1_Book_Bytes := by
  refine isRight fun vs K w hh => ?_
  match vs, hh with
  | [v0, v1], hh =>
    unfold E_law1_Book_Bytes E_law1_Book_Bytes_of at hh
    replace hh := dec1_sound hh; obtain ⟨b1, rfl, hh⟩ := hh
    replace hh := dec1_sound hh; obtain ⟨l2, rfl, hh⟩ := hh
    unfold F_law1_Book_Bytes at hh
    exact calls_den (fn1_right ok121 E_law1_at.right (fn1_right ok122 E_law1_Book_tight.right noFns_right)) plan95 _ w K Try.func95 (by kernel_rfl) (by kernel_rfl) (Eq.mp (F_law1_Book_Bytes.eq F_law1_at F_law1_Book_tight b1 l2 w.heap K) hh)
theorem ok95 : okFn Try.prog 95 = true := by kernel_rfl
end Go.Proofs.Ytboidjampddfoaa.V
/- The Book whose lists are of bytes alone: what it does with all other kinds: nothing. (Printed by a small program.) -/
namespace Go.Proofs.Ytboidjampddfoaa.V
open Go Go.RowKit
set_option linter.unusedVariables false
set_option linter.unusedSimpArgs false
theorem wl_now1 {i : Nat} {k : Kd} {B : (k.T → Heap → Prop) → k.T → Heap → Prop} {x : k.T} {h : Heap} (hb : ∀ next, B next x h) : wl [(i, .one k)] B x h :=
  wl1 (fun _ x' h' => x' = x ∧ h' = h) (fun m x' h' next _ ⟨e1, e2⟩ => by subst e1 e2; exact hb next) (m := 0) ⟨rfl, rfl⟩
def bkC (s0 s1 : Sl) (n t d u : Int) : List Value := [.slice s0.ptr s0.len s0.cap, .slice s1.ptr s1.len s1.cap, .int .i64 n, .slice none 0 0, .slice none 0 0, .int .i64 0, .slice none 0 0, .slice none 0 0, .int .i64 0, .slice none 0 0, .slice none 0 0, .int .i64 0, .slice none 0 0, .slice none 0 0, .int .i64 0, .slice none 0 0, .slice none 0 0, .int .i64 0, .slice none 0 0, .slice none 0 0, .int .i64 0, .slice none 0 0, .slice none 0 0, .int .i64 0, .slice none 0 0, .slice none 0 0, .int .i64 0, .slice none 0 0, .slice none 0 0, .int .i64 0, .slice none 0 0, .slice none 0 0, .int .i64 0, .slice none 0 0, .slice none 0 0, .int .i64 0, .int .i64 t, .int .i64 d, .int .i64 u]
section
variable {h0 h : Heap} {L : List Res} {bk : Nat} {s0 s1 : Sl} {n t d u : Int}
theorem F_law1_Book_kept.is {Q : Bool → Heap → Prop} (O : Sat h0 h (own bk (bkC s0 s1 n t d u) :: L)) (k : Q true h) : F_law1_Book_kept (some (pt bk 0)) h Q := by
  rw [F_law1_Book_kept.eq_1, F_law1_Book_kept_of.eq_1]
  unfold bkC at O
  refine jn_go ?_
  rw [F_law1_Book_kept.l2.eq_1]
  refine wl_now1 fun next => ?_
  simp only [nn_some, pt_add, Nat.zero_add, Nat.add_zero, Nat.reduceAdd, Nat.reduceMul, Int.toNat_zero, Int.toNat_one, Nat.zero_mul, Nat.one_mul]
  refine O.ld 0 rfl (ldL_c (k := .sl) (x := (⟨none, 0, 0⟩ : Sl)) (ldL_n ?_))
  refine brr_ff (by decide) ?_
  refine jn_go ?_
  rw [F_law1_Book_kept.l4.eq_1]
  refine wl_now1 fun next => ?_
  simp only [nn_some, pt_add, Nat.zero_add, Nat.add_zero, Nat.reduceAdd, Nat.reduceMul, Int.toNat_zero, Int.toNat_one, Nat.zero_mul, Nat.one_mul]
  refine O.ld 0 rfl (ldL_c (k := .sl) (x := (⟨none, 0, 0⟩ : Sl)) (ldL_n ?_))
  refine brr_ff (by decide) ?_
  refine jn_go ?_
  rw [F_law1_Book_kept.l6.eq_1]
  refine wl_now1 fun next => ?_
  simp only [nn_some, pt_add, Nat.zero_add, Nat.add_zero, Nat.reduceAdd, Nat.reduceMul, Int.toNat_zero, Int.toNat_one, Nat.zero_mul, Nat.one_mul]
  refine O.ld 0 rfl (ldL_c (k := .sl) (x := (⟨none, 0, 0⟩ : Sl)) (ldL_n ?_))
  refine brr_ff (by decide) ?_
  refine jn_go ?_
  rw [F_law1_Book_kept.l8.eq_1]
  refine wl_now1 fun next => ?_
  simp only [nn_some, pt_add, Nat.zero_add, Nat.add_zero, Nat.reduceAdd, Nat.reduceMul, Int.toNat_zero, Int.toNat_one, Nat.zero_mul, Nat.one_mul]
  refine O.ld 0 rfl (ldL_c (k := .sl) (x := (⟨none, 0, 0⟩ : Sl)) (ldL_n ?_))
  refine brr_ff (by decide) ?_
  exact k
theorem F_law1_Book_told.is {Q : Bool → Heap → Prop} (O : Sat h0 h (own bk (bkC s0 s1 n t d u) :: L)) (k : Q true h) : F_law1_Book_told (some (pt bk 0)) h Q := by
  rw [F_law1_Book_told.eq_1, F_law1_Book_told_of.eq_1]
  unfold bkC at O
  refine jn_go ?_
  rw [F_law1_Book_told.l2.eq_1]
  refine wl_now1 fun next => ?_
  simp only [nn_some, pt_add, Nat.zero_add, Nat.add_zero, Nat.reduceAdd, Nat.reduceMul, Int.toNat_zero, Int.toNat_one, Nat.zero_mul, Nat.one_mul]
  refine O.ld 0 rfl (ldL_c (k := .sl) (x := (⟨none, 0, 0⟩ : Sl)) (ldL_n ?_))
  refine brr_ff (by decide) ?_
  refine jn_go ?_
  rw [F_law1_Book_told.l4.eq_1]
  refine wl_now1 fun next => ?_
  simp only [nn_some, pt_add, Nat.zero_add, Nat.add_zero, Nat.reduceAdd, Nat.reduceMul, Int.toNat_zero, Int.toNat_one, Nat.zero_mul, Nat.one_mul]
  refine O.ld 0 rfl (ldL_c (k := .sl) (x := (⟨none, 0, 0⟩ : Sl)) (ldL_n ?_))
  refine brr_ff (by decide) ?_
  refine jn_go ?_
  rw [F_law1_Book_told.l6.eq_1]
  refine wl_now1 fun next => ?_
  simp only [nn_some, pt_add, Nat.zero_add, Nat.add_zero, Nat.reduceAdd, Nat.reduceMul, Int.toNat_zero, Int.toNat_one, Nat.zero_mul, Nat.one_mul]
  refine O.ld 0 rfl (ldL_c (k := .sl) (x := (⟨none, 0, 0⟩ : Sl)) (ldL_n ?_))
  refine brr_ff (by decide) ?_
  refine jn_go ?_
  rw [F_law1_Book_told.l8.eq_1]
  refine wl_now1 fun next => ?_
  simp only [nn_some, pt_add, Nat.zero_add, Nat.add_zero, Nat.reduceAdd, Nat.reduceMul, Int.toNat_zero, Int.toNat_one, Nat.zero_mul, Nat.one_mul]
  refine O.ld 0 rfl (ldL_c (k := .sl) (x := (⟨none, 0, 0⟩ : Sl)) (ldL_n ?_))
  refine brr_ff (by decide) ?_
  exact k
theorem F_law1_Book_held.is {Q : Bool → Heap → Prop} (O : Sat h0 h (own bk (bkC s0 s1 n t d u) :: L)) (k : Q true h) : F_law1_Book_held (some (pt bk 0)) h Q := by
  rw [F_law1_Book_held.eq_1, F_law1_Book_held_of.eq_1]
  unfold bkC at O
  refine jn_go ?_
  rw [F_law1_Book_held.l2.eq_1]
  refine wl_now1 fun next => ?_
  simp only [nn_some, pt_add, Nat.zero_add, Nat.add_zero, Nat.reduceAdd, Nat.reduceMul, Int.toNat_zero, Int.toNat_one, Nat.zero_mul, Nat.one_mul]
  refine O.ld 0 rfl (ldL_c (k := .sl) (x := (⟨none, 0, 0⟩ : Sl)) (ldL_n ?_))
  refine brr_ff (by decide) ?_
  refine jn_go ?_
  rw [F_law1_Book_held.l4.eq_1]
  refine wl_now1 fun next => ?_
  simp only [nn_some, pt_add, Nat.zero_add, Nat.add_zero, Nat.reduceAdd, Nat.reduceMul, Int.toNat_zero, Int.toNat_one, Nat.zero_mul, Nat.one_mul]
  refine O.ld 0 rfl (ldL_c (k := .sl) (x := (⟨none, 0, 0⟩ : Sl)) (ldL_n ?_))
  refine brr_ff (by decide) ?_
  exact k
theorem F_law1_Book_growRows.is {Q : Heap → Prop} (O : Sat h0 h (own bk (bkC s0 s1 n t d u) :: L)) (k : ∀ h', Sat h0 h' (own bk (bkC s0 s1 n t d u) :: L) → Q h') : F_law1_Book_growRows (some (pt bk 0)) h Q := by
  rw [F_law1_Book_growRows.eq_1, F_law1_Book_growRows_of.eq_1]
  unfold bkC at O k
  simp only [nn_some, pt_add, Nat.zero_add, Nat.add_zero, Nat.reduceAdd, Nat.reduceMul, Int.toNat_zero, Int.toNat_one, Nat.zero_mul, Nat.one_mul]
  refine O.ld 0 rfl (ldL_c (k := .sl) (x := (⟨none, 0, 0⟩ : Sl)) (ldL_n ?_))
  refine O.ld 0 rfl (ldL_c (ldL_n ?_))
  refine jn_go ?_
  rw [F_law1_Book_growRows.l2.eq_1]
  refine wl_now1 fun next => ?_
  refine brr_ff (by decide) ?_
  refine O.ld 0 rfl (ldL_c (k := .sl) (x := (⟨none, 0, 0⟩ : Sl)) (ldL_n ?_))
  refine O.st 0 rfl (by simp) rfl fun h O => ?_
  dsimp only [V.put, List.set] at O
  exact k h O
theorem F_law1_Book_growTexts.is {Q : Heap → Prop} (O : Sat h0 h (own bk (bkC s0 s1 n t d u) :: L)) (k : ∀ h', Sat h0 h' (own bk (bkC s0 s1 n t d u) :: L) → Q h') : F_law1_Book_growTexts (some (pt bk 0)) h Q := by
  rw [F_law1_Book_growTexts.eq_1, F_law1_Book_growTexts_of.eq_1]
  unfold bkC at O k
  simp only [nn_some, pt_add, Nat.zero_add, Nat.add_zero, Nat.reduceAdd, Nat.reduceMul, Int.toNat_zero, Int.toNat_one, Nat.zero_mul, Nat.one_mul]
  refine O.ld 0 rfl (ldL_c (k := .sl) (x := (⟨none, 0, 0⟩ : Sl)) (ldL_n ?_))
  refine O.ld 0 rfl (ldL_c (ldL_n ?_))
  refine jn_go ?_
  rw [F_law1_Book_growTexts.l2.eq_1]
  refine wl_now1 fun next => ?_
  refine brr_ff (by decide) ?_
  refine O.ld 0 rfl (ldL_c (k := .sl) (x := (⟨none, 0, 0⟩ : Sl)) (ldL_n ?_))
  refine O.st 0 rfl (by simp) rfl fun h O => ?_
  dsimp only [V.put, List.set] at O
  exact k h O
theorem F_law1_Book_growInts.is {Q : Heap → Prop} (O : Sat h0 h (own bk (bkC s0 s1 n t d u) :: L)) (k : ∀ h', Sat h0 h' (own bk (bkC s0 s1 n t d u) :: L) → Q h') : F_law1_Book_growInts (some (pt bk 0)) h Q := by
  rw [F_law1_Book_growInts.eq_1, F_law1_Book_growInts_of.eq_1]
  unfold bkC at O k
  simp only [nn_some, pt_add, Nat.zero_add, Nat.add_zero, Nat.reduceAdd, Nat.reduceMul, Int.toNat_zero, Int.toNat_one, Nat.zero_mul, Nat.one_mul]
  refine O.ld 0 rfl (ldL_c (k := .sl) (x := (⟨none, 0, 0⟩ : Sl)) (ldL_n ?_))
  refine O.ld 0 rfl (ldL_c (ldL_n ?_))
  refine jn_go ?_
  rw [F_law1_Book_growInts.l2.eq_1]
  refine wl_now1 fun next => ?_
  refine brr_ff (by decide) ?_
  refine O.ld 0 rfl (ldL_c (k := .sl) (x := (⟨none, 0, 0⟩ : Sl)) (ldL_n ?_))
  refine O.st 0 rfl (by simp) rfl fun h O => ?_
  dsimp only [V.put, List.set] at O
  exact k h O
theorem F_law1_Book_growWords.is {Q : Heap → Prop} (O : Sat h0 h (own bk (bkC s0 s1 n t d u) :: L)) (k : ∀ h', Sat h0 h' (own bk (bkC s0 s1 n t d u) :: L) → Q h') : F_law1_Book_growWords (some (pt bk 0)) h Q := by
  rw [F_law1_Book_growWords.eq_1, F_law1_Book_growWords_of.eq_1]
  unfold bkC at O k
  simp only [nn_some, pt_add, Nat.zero_add, Nat.add_zero, Nat.reduceAdd, Nat.reduceMul, Int.toNat_zero, Int.toNat_one, Nat.zero_mul, Nat.one_mul]
  refine O.ld 0 rfl (ldL_c (k := .sl) (x := (⟨none, 0, 0⟩ : Sl)) (ldL_n ?_))
  refine O.ld 0 rfl (ldL_c (ldL_n ?_))
  refine jn_go ?_
  rw [F_law1_Book_growWords.l2.eq_1]
  refine wl_now1 fun next => ?_
  refine brr_ff (by decide) ?_
  refine O.ld 0 rfl (ldL_c (k := .sl) (x := (⟨none, 0, 0⟩ : Sl)) (ldL_n ?_))
  refine O.st 0 rfl (by simp) rfl fun h O => ?_
  dsimp only [V.put, List.set] at O
  exact k h O
theorem F_law1_Book_growDones.is {Q : Heap → Prop} (O : Sat h0 h (own bk (bkC s0 s1 n t d u) :: L)) (k : ∀ h', Sat h0 h' (own bk (bkC s0 s1 n t d u) :: L) → Q h') : F_law1_Book_growDones (some (pt bk 0)) h Q := by
  rw [F_law1_Book_growDones.eq_1, F_law1_Book_growDones_of.eq_1]
  unfold bkC at O k
  simp only [nn_some, pt_add, Nat.zero_add, Nat.add_zero, Nat.reduceAdd, Nat.reduceMul, Int.toNat_zero, Int.toNat_one, Nat.zero_mul, Nat.one_mul]
  refine O.ld 0 rfl (ldL_c (k := .sl) (x := (⟨none, 0, 0⟩ : Sl)) (ldL_n ?_))
  refine O.ld 0 rfl (ldL_c (ldL_n ?_))
  refine jn_go ?_
  rw [F_law1_Book_growDones.l2.eq_1]
  refine wl_now1 fun next => ?_
  refine brr_ff (by decide) ?_
  refine O.ld 0 rfl (ldL_c (k := .sl) (x := (⟨none, 0, 0⟩ : Sl)) (ldL_n ?_))
  refine O.st 0 rfl (by simp) rfl fun h O => ?_
  dsimp only [V.put, List.set] at O
  exact k h O
theorem F_law1_Book_growAccts.is {Q : Heap → Prop} (O : Sat h0 h (own bk (bkC s0 s1 n t d u) :: L)) (k : ∀ h', Sat h0 h' (own bk (bkC s0 s1 n t d u) :: L) → Q h') : F_law1_Book_growAccts (some (pt bk 0)) h Q := by
  rw [F_law1_Book_growAccts.eq_1, F_law1_Book_growAccts_of.eq_1]
  unfold bkC at O k
  simp only [nn_some, pt_add, Nat.zero_add, Nat.add_zero, Nat.reduceAdd, Nat.reduceMul, Int.toNat_zero, Int.toNat_one, Nat.zero_mul, Nat.one_mul]
  refine O.ld 0 rfl (ldL_c (k := .sl) (x := (⟨none, 0, 0⟩ : Sl)) (ldL_n ?_))
  refine O.ld 0 rfl (ldL_c (ldL_n ?_))
  refine jn_go ?_
  rw [F_law1_Book_growAccts.l2.eq_1]
  refine wl_now1 fun next => ?_
  refine brr_ff (by decide) ?_
  refine O.ld 0 rfl (ldL_c (k := .sl) (x := (⟨none, 0, 0⟩ : Sl)) (ldL_n ?_))
  refine O.st 0 rfl (by simp) rfl fun h O => ?_
  dsimp only [V.put, List.set] at O
  exact k h O
theorem F_law1_Book_growQueue.is {Q : Heap → Prop} (O : Sat h0 h (own bk (bkC s0 s1 n t d u) :: L)) (k : ∀ h', Sat h0 h' (own bk (bkC s0 s1 n t d u) :: L) → Q h') : F_law1_Book_growQueue (some (pt bk 0)) h Q := by
  rw [F_law1_Book_growQueue.eq_1, F_law1_Book_growQueue_of.eq_1]
  unfold bkC at O k
  simp only [nn_some, pt_add, Nat.zero_add, Nat.add_zero, Nat.reduceAdd, Nat.reduceMul, Int.toNat_zero, Int.toNat_one, Nat.zero_mul, Nat.one_mul]
  refine O.ld 0 rfl (ldL_c (k := .sl) (x := (⟨none, 0, 0⟩ : Sl)) (ldL_n ?_))
  refine O.ld 0 rfl (ldL_c (ldL_n ?_))
  refine jn_go ?_
  rw [F_law1_Book_growQueue.l2.eq_1]
  refine wl_now1 fun next => ?_
  refine brr_ff (by decide) ?_
  refine O.ld 0 rfl (ldL_c (k := .sl) (x := (⟨none, 0, 0⟩ : Sl)) (ldL_n ?_))
  refine O.st 0 rfl (by simp) rfl fun h O => ?_
  dsimp only [V.put, List.set] at O
  exact k h O
theorem F_law1_Book_growSlots.is {Q : Heap → Prop} (O : Sat h0 h (own bk (bkC s0 s1 n t d u) :: L)) (k : ∀ h', Sat h0 h' (own bk (bkC s0 s1 n t d u) :: L) → Q h') : F_law1_Book_growSlots (some (pt bk 0)) h Q := by
  rw [F_law1_Book_growSlots.eq_1, F_law1_Book_growSlots_of.eq_1]
  unfold bkC at O k
  simp only [nn_some, pt_add, Nat.zero_add, Nat.add_zero, Nat.reduceAdd, Nat.reduceMul, Int.toNat_zero, Int.toNat_one, Nat.zero_mul, Nat.one_mul]
  refine O.ld 0 rfl (ldL_c (k := .sl) (x := (⟨none, 0, 0⟩ : Sl)) (ldL_n ?_))
  refine O.ld 0 rfl (ldL_c (ldL_n ?_))
  refine jn_go ?_
  rw [F_law1_Book_growSlots.l2.eq_1]
  refine wl_now1 fun next => ?_
  refine brr_ff (by decide) ?_
  refine O.ld 0 rfl (ldL_c (k := .sl) (x := (⟨none, 0, 0⟩ : Sl)) (ldL_n ?_))
  refine O.st 0 rfl (by simp) rfl fun h O => ?_
  dsimp only [V.put, List.set] at O
  exact k h O
theorem F_law1_Book_growMsgs.is {Q : Heap → Prop} (O : Sat h0 h (own bk (bkC s0 s1 n t d u) :: L)) (k : ∀ h', Sat h0 h' (own bk (bkC s0 s1 n t d u) :: L) → Q h') : F_law1_Book_growMsgs (some (pt bk 0)) h Q := by
  rw [F_law1_Book_growMsgs.eq_1, F_law1_Book_growMsgs_of.eq_1]
  unfold bkC at O k
  simp only [nn_some, pt_add, Nat.zero_add, Nat.add_zero, Nat.reduceAdd, Nat.reduceMul, Int.toNat_zero, Int.toNat_one, Nat.zero_mul, Nat.one_mul]
  refine O.ld 0 rfl (ldL_c (k := .sl) (x := (⟨none, 0, 0⟩ : Sl)) (ldL_n ?_))
  refine O.ld 0 rfl (ldL_c (ldL_n ?_))
  refine jn_go ?_
  rw [F_law1_Book_growMsgs.l2.eq_1]
  refine wl_now1 fun next => ?_
  refine brr_ff (by decide) ?_
  refine O.ld 0 rfl (ldL_c (k := .sl) (x := (⟨none, 0, 0⟩ : Sl)) (ldL_n ?_))
  refine O.st 0 rfl (by simp) rfl fun h O => ?_
  dsimp only [V.put, List.set] at O
  exact k h O
theorem F_law1_Book_growFlights.is {Q : Heap → Prop} (O : Sat h0 h (own bk (bkC s0 s1 n t d u) :: L)) (k : ∀ h', Sat h0 h' (own bk (bkC s0 s1 n t d u) :: L) → Q h') : F_law1_Book_growFlights (some (pt bk 0)) h Q := by
  rw [F_law1_Book_growFlights.eq_1, F_law1_Book_growFlights_of.eq_1]
  unfold bkC at O k
  simp only [nn_some, pt_add, Nat.zero_add, Nat.add_zero, Nat.reduceAdd, Nat.reduceMul, Int.toNat_zero, Int.toNat_one, Nat.zero_mul, Nat.one_mul]
  refine O.ld 0 rfl (ldL_c (k := .sl) (x := (⟨none, 0, 0⟩ : Sl)) (ldL_n ?_))
  refine O.ld 0 rfl (ldL_c (ldL_n ?_))
  refine jn_go ?_
  rw [F_law1_Book_growFlights.l2.eq_1]
  refine wl_now1 fun next => ?_
  refine brr_ff (by decide) ?_
  refine O.ld 0 rfl (ldL_c (k := .sl) (x := (⟨none, 0, 0⟩ : Sl)) (ldL_n ?_))
  refine O.st 0 rfl (by simp) rfl fun h O => ?_
  dsimp only [V.put, List.set] at O
  exact k h O
theorem F_law1_Book_growFiles.is {Q : Heap → Prop} (O : Sat h0 h (own bk (bkC s0 s1 n t d u) :: L)) (k : ∀ h', Sat h0 h' (own bk (bkC s0 s1 n t d u) :: L) → Q h') : F_law1_Book_growFiles (some (pt bk 0)) h Q := by
  rw [F_law1_Book_growFiles.eq_1, F_law1_Book_growFiles_of.eq_1]
  unfold bkC at O k
  simp only [nn_some, pt_add, Nat.zero_add, Nat.add_zero, Nat.reduceAdd, Nat.reduceMul, Int.toNat_zero, Int.toNat_one, Nat.zero_mul, Nat.one_mul]
  refine O.ld 0 rfl (ldL_c (k := .sl) (x := (⟨none, 0, 0⟩ : Sl)) (ldL_n ?_))
  refine O.ld 0 rfl (ldL_c (ldL_n ?_))
  refine jn_go ?_
  rw [F_law1_Book_growFiles.l2.eq_1]
  refine wl_now1 fun next => ?_
  refine brr_ff (by decide) ?_
  refine O.ld 0 rfl (ldL_c (k := .sl) (x := (⟨none, 0, 0⟩ : Sl)) (ldL_n ?_))
  refine O.st 0 rfl (by simp) rfl fun h O => ?_
  dsimp only [V.put, List.set] at O
  exact k h O
end
end Go.Proofs.Ytboidjampddfoaa.V
/- Lists of bytes that carry marks, and grow: their blocks may be shared by lists of one mark. -/
namespace Go.Proofs.Ytboidjampddfoaa.V
open Go Go.RowKit
set_option linter.unusedVariables false
set_option linter.unusedSimpArgs false
/-- Byte k of the mark of list n. -/
def atB (m k : Nat) : UInt8 := if k % 2 = 0 then UInt8.ofNat (1 + m % 251) else UInt8.ofNat (1 + (7 * m + m / 251) % 251)
def atC (m k : Nat) : Value := .int .u8 ((atB m k).toNat : Int)
def marksB (m n : Nat) : List UInt8 := (List.range n).map (atB m)
theorem marksB_len (m n : Nat) : (marksB m n).length = n := by simp [marksB]
theorem marksB_at {m n i : Nat} (h : i < n) : (marksB m n)[i]? = some (atB m i) := by simp [marksB, h]
abbrev BE := Sl × Nat
def inFam (lab : Nat → Nat) (E : Blks) (e : BE) : Prop := e.1 = ⟨none, 0, 0⟩ ∨ ∃ b cs, (b, cs) ∈ E ∧ e.1.ptr = some (pt b 0) ∧ e.1.len ≤ e.1.cap ∧ e.1.cap = cs.length ∧ lab b = e.2 ∧ ∀ i, i < e.1.len → cs[i]? = some (atC e.2 i)
def famR (es : List BE) : Res := fun E => ∃ lab : Nat → Nat, ∀ e ∈ es, inFam lab E e
theorem famR.sub {h0 h : Heap} {L : List Res} {es fs : List BE} (O : Sat h0 h (famR es :: L)) (s : ∀ e ∈ fs, e ∈ es) : Sat h0 h (famR fs :: L) :=
  O.mono fun E ⟨lab, k⟩ => ⟨lab, fun e he => k e (s e he)⟩
theorem famR.none {h0 h : Heap} {L : List Res} (O : Sat h0 h L) : Sat h0 h (famR [] :: L) := O.empI.mono fun E _ => ⟨fun _ => 0, fun e he => by cases he⟩
theorem fam_view {h0 h : Heap} {L : List Res} (O : Sat h0 h L) (i : Nat) {es : List BE} {e : BE} (hi : i < L.length) (hn : nth i L = famR es) (he : e ∈ es) : Bytes h e.1 (marksB e.2 e.1.len) := by
  obtain ⟨E1, E2, h1, O', _⟩ := O.at i hi
  rw [hn] at h1
  obtain ⟨lab, k⟩ := h1
  rcases k e he with h | ⟨b, cs, hm, hp, hl, hc, _, ha⟩
  · rw [h]; exact View.nil
  · have B := (O'.blk _ (List.mem_append.2 (.inl hm))).2
    refine ⟨(marksB_len _ _).symm, fun j x hj => ?_⟩
    have hjl : j < e.1.len := by
      have := (List.getElem?_eq_some_iff.1 hj).1
      rwa [marksB_len] at this
    rw [marksB_at hjl] at hj
    cases hj
    refine ⟨pt b 0, u8 (atB e.2 j), hp, rfl, rfl, ?_⟩
    have hcell := ha j hjl
    have h2 := cellsAre_blk B j 1
    have e3 : (cs.drop j).take 1 = u8 (atB e.2 j) := by
      obtain ⟨hlt, e4⟩ := List.getElem?_eq_some_iff.1 hcell
      rw [List.drop_eq_getElem_cons hlt, e4]
      rfl
    rw [e3] at h2
    rw [pt_add, Nat.zero_add, Nat.mul_one]
    exact h2
theorem put_one : ∀ (cs : List Value) (o : Nat) (v : Value), V.put cs o [v] = cs.set o v
  | [], 0, v => by simp [V.put]
  | c :: cs, 0, v => by simp [V.put, put_nil]
  | [], o + 1, v => by simp [V.put]
  | c :: cs, o + 1, v => by simp [V.put, put_one cs o v]
theorem atC_one (m k : Nat) : oneV (atC m k) = true := rfl
/-- A new block becomes one of the lists. -/
theorem fam_new {h0 h : Heap} {L : List Res} {es : List BE} {b len m : Nat} {cs : List Value} (O : Sat h0 h (own b cs :: famR es :: L)) (hl : len ≤ cs.length) (ha : ∀ i, i < len → cs[i]? = some (atC m i)) : Sat h0 h (famR (es ++ [(⟨some (pt b 0), len, cs.length⟩, m)]) :: L) := by
  obtain ⟨E, ⟨E1, E2, p, hA, F1, F2, p2, ⟨lab, k⟩, h2⟩, O'⟩ := O
  have hA : E1 = [(b, cs)] := hA
  subst hA
  have pp : E.Perm (((b, cs) :: F1) ++ F2) := p.trans (List.Perm.cons _ p2)
  have OO := O'.perm pp.symm
  have hd := OO.dis
  rw [List.cons_append, List.map_cons, List.nodup_cons] at hd
  refine ⟨E, ⟨(b, cs) :: F1, F2, pp, ⟨fun x => if x = b then m else lab x, fun e he => ?_⟩, h2⟩, O'⟩
  rcases List.mem_append.1 he with he | he
  · rcases k e he with h | ⟨b', cs', hm, hp, hl', hc, hlab, ha'⟩
    · exact .inl h
    · refine .inr ⟨b', cs', List.mem_cons_of_mem _ hm, hp, hl', hc, ?_, ha'⟩
      have : b' ≠ b := by
        intro e
        subst e
        exact hd.1 (List.mem_map.2 ⟨_, List.mem_append.2 (.inl hm), rfl⟩)
      simp only [if_neg this]
      exact hlab
  · rw [List.mem_singleton.1 he]
    exact .inr ⟨b, cs, List.mem_cons_self, rfl, hl, rfl, by simp, ha⟩
theorem Sat.buf_own' {α : Type} {h0 h : Heap} {L : List Res} {sz : Nat} {enc : α → List Value} {s : Sl} {xs : List α} (O : Sat h0 h (buf sz enc s xs :: L)) (hne : xs ≠ []) : ∃ b k sp, s = ⟨some (pt b 0), xs.length, xs.length + k⟩ ∧ sp.length = k * sz ∧ Sat h0 h (own b (xs.flatMap enc ++ sp) :: L) := by
  obtain ⟨sp, O1⟩ := O.ex
  obtain ⟨E, ⟨E1, E2, p, hA, h2⟩, O2⟩ := O1
  rcases hA with ⟨rfl, rfl, _, _⟩ | ⟨b, j, rfl, hsp, rfl⟩
  · exact absurd rfl hne
  · exact ⟨b, j, sp, rfl, hsp, E, ⟨[(b, _)], E2, p, rfl, h2⟩, O2⟩
/-- A list of one's own that carries its mark becomes one of the lists. -/
theorem fam_take {h0 h : Heap} {L : List Res} {es : List BE} {s : Sl} {m : Nat} (O : Sat h0 h (buf 1 u8 s (marksB m s.len) :: famR es :: L)) : Sat h0 h (famR (es ++ [(s, m)]) :: L) := by
  by_cases hz : marksB m s.len = []
  · obtain ⟨sp, O⟩ := O.ex
    obtain ⟨E, ⟨E1, E2, p, hA, h2⟩, O'⟩ := O
    rcases hA with ⟨rfl, _, _, rfl⟩ | ⟨b, j, hs, hsp, rfl⟩
    · obtain ⟨F1, F2, p2, ⟨lab, k⟩, h2⟩ := h2
      refine ⟨E, ⟨F1, F2, p.trans p2, ⟨lab, fun e he => ?_⟩, h2⟩, O'⟩
      rcases List.mem_append.1 he with he | he
      · exact k e he
      · rw [List.mem_singleton.1 he]; exact .inl rfl
    · have O2 : Sat h0 h (own b ((marksB m s.len).flatMap u8 ++ sp) :: famR es :: L) := ⟨E, ⟨[(b, _)], E2, p, rfl, h2⟩, O'⟩
      have hl : s.len = 0 := by
        have := congrArg List.length hz
        rwa [marksB_len] at this
      have := fam_new (len := 0) (m := m) O2 (by omega) (fun i hi => by omega)
      have e : s = ⟨some (pt b 0), 0, ((marksB m s.len).flatMap u8 ++ sp).length⟩ := by
        rw [hz, List.flatMap_nil, List.nil_append, hsp]
        rw [hz] at hs
        rw [hs]
        simp
      rw [← e] at this
      exact this
  · obtain ⟨b, j, sp, hs, hsp, O⟩ := O.buf_own' hz
    have hlen := flatMap_len u8_len (marksB m s.len)
    rw [marksB_len] at hlen hs
    have := fam_new (len := s.len) (m := m) O (by rw [List.length_append]; omega) (fun i hi => by
      rw [List.getElem?_append_left (by omega)]
      have key : ∀ (l : List UInt8) (i : Nat), (l.flatMap u8)[i]? = (l[i]?).map fun x => Value.int .u8 (x.toNat : Int) := by
        intro l
        induction l with
        | nil => intro i; simp
        | cons x l ih =>
          intro i
          rw [List.flatMap_cons]
          cases i with
          | zero => rfl
          | succ i => exact ih i
      rw [key, marksB_at hi]
      rfl)
    have e : s = ⟨some (pt b 0), s.len, ((marksB m s.len).flatMap u8 ++ sp).length⟩ := by
      rw [List.length_append, hlen, hsp, Nat.mul_one, Nat.mul_one]
      exact hs
    rw [← e] at this
    exact this
/-- One byte of its mark is appended to a list. -/
theorem fam_app {h0 h : Heap} {L : List Res} {es : List BE} {a T m : Nat} {g : Sl} {K : Sl → Heap → Prop} (hl : g.len ≤ 1099511627776) (O : Sat h0 h (own a [atC m g.len] :: famR (es ++ [(g, m)]) :: L)) (k : ∀ g' h', g'.len = g.len + 1 → Sat h0 h' (famR (es ++ [(g', m)]) :: L) → K g' h') : V.app T 1 1 (.int .u8 0) g (some (pt a 0)) 1 h K := by
  have hv := fam_view O 1 (by simp) rfl (List.mem_append.2 (.inr (List.mem_singleton.2 rfl)))
  have hmem : (g, m) ∈ es ++ [(g, m)] := List.mem_append.2 (.inr (List.mem_singleton.2 rfl))
  refine ⟨[atC m g.len], rdP_own O 0 rfl 1 (by simp), fun hcap => ?_, fun hcap => ⟨growslice_fits (by exact hcap) (by simp only [Nat.mul_one]; omega), ?_⟩⟩
  · have O := O.drop
    obtain ⟨E, ⟨E1, E2, p, ⟨lab, kk⟩, h2⟩, O'⟩ := O
    rcases kk (g, m) hmem with hn | ⟨b, cs, hm, hp, hle, hc, hlab, ha⟩
    · simp only at hn
      rw [hn] at hcap
      simp at hcap
    · simp only at hp hle hc hlab ha
      obtain ⟨A, B, rfl⟩ := List.append_of_mem hm
      have pE : E.Perm ((b, cs) :: (A ++ B ++ E2)) := by
        refine p.trans ?_
        rw [List.append_assoc, List.cons_append, List.append_assoc]
        exact List.perm_middle
      have O1 := O'.perm pE.symm
      have hd := O1.dis
      rw [List.map_cons, List.nodup_cons] at hd
      rw [hp]
      simp only [Option.map_some, stP, pt_add, Nat.zero_add, Nat.mul_one]
      refine Held.st O1 (by simp only [List.length_singleton]; omega) rfl fun h' O2 => ?_
      have eput : V.put cs g.len [atC m g.len] = cs.set g.len (atC m g.len) := put_one _ _ _
      rw [eput] at O2
      refine k ⟨some (pt b 0), g.len + 1, g.cap⟩ h' rfl ⟨_, ⟨(b, cs.set g.len (atC m g.len)) :: (A ++ B), E2, List.Perm.refl _, ⟨lab, fun e he => ?_⟩, h2⟩, O2⟩
      have other : ∀ e : BE, inFam lab (A ++ (b, cs) :: B) e → inFam lab ((b, cs.set g.len (atC m g.len)) :: (A ++ B)) e := by
        intro e ie
        rcases ie with h | ⟨b', cs', hm', hp', hl', hc', hlab', ha'⟩
        · exact .inl h
        · by_cases hb : b' = b
          · subst hb
            have ecs : cs' = cs := by
              rcases List.mem_append.1 hm' with x | x
              · exact absurd (List.mem_map.2 ⟨_, List.mem_append.2 (.inl (List.mem_append.2 (.inl x))), rfl⟩) hd.1
              · rcases List.mem_cons.1 x with x | x
                · exact (Prod.mk.inj x).2
                · exact absurd (List.mem_map.2 ⟨_, List.mem_append.2 (.inl (List.mem_append.2 (.inr x))), rfl⟩) hd.1
            subst ecs
            refine .inr ⟨b', _, List.mem_cons_self, hp', hl', by rw [List.length_set]; exact hc', hlab', fun i hi => ?_⟩
            rw [List.getElem?_set]
            by_cases e2 : g.len = i
            · subst e2
              rw [if_pos rfl, if_pos (by omega), ← hlab', hlab]
            · rw [if_neg e2]
              exact ha' i hi
          · refine .inr ⟨b', cs', ?_, hp', hl', hc', hlab', ha'⟩
            rcases List.mem_append.1 hm' with x | x
            · exact List.mem_cons_of_mem _ (List.mem_append.2 (.inl x))
            · rcases List.mem_cons.1 x with x | x
              · exact absurd (Prod.mk.inj x).1 hb
              · exact List.mem_cons_of_mem _ (List.mem_append.2 (.inr x))
      rcases List.mem_append.1 he with he | he
      · exact other e (kk e (List.mem_append.2 (.inl he)))
      · rw [List.mem_singleton.1 he]
        refine .inr ⟨b, _, List.mem_cons_self, rfl, hcap, by rw [List.length_set]; exact hc, hlab, fun i hi => ?_⟩
        simp only at hi
        rw [List.getElem?_set]
        by_cases e2 : g.len = i
        · subst e2
          rw [if_pos rfl, if_pos (by omega)]
        · rw [if_neg e2]
          exact ha i (by omega)
  · refine ⟨(marksB m g.len).flatMap u8, ?_, fun c hc => ?_⟩
    · have := hv.rd u8_len
      exact this
    · have hlen := flatMap_len u8_len (marksB m g.len)
      rw [marksB_len] at hlen
      have O := O.drop
      have O2 := O.push ((marksB m g.len).flatMap u8 ++ [atC m g.len] ++ (Builtin.zeroCells (Value.int .u8 0).cells (c - (g.len + 1))).toList) T (0, 0) (.inl rfl)
      have hzl : (Builtin.zeroCells (Value.int .u8 0).cells (c - (g.len + 1))).toList.length = c - (g.len + 1) := by simp [Builtin.zeroCells, Value.cells]
      have htot : ((marksB m g.len).flatMap u8 ++ [atC m g.len] ++ (Builtin.zeroCells (Value.int .u8 0).cells (c - (g.len + 1))).toList).length = c := by
        rw [List.length_append, List.length_append, hlen, hzl, List.length_singleton]; omega
      have key : ∀ (l : List UInt8) (i : Nat), (l.flatMap u8)[i]? = (l[i]?).map fun x => Value.int .u8 (x.toNat : Int) := by
        intro l
        induction l with
        | nil => intro i; simp
        | cons x l ih =>
          intro i
          rw [List.flatMap_cons]
          cases i with
          | zero => rfl
          | succ i => exact ih i
      have O3 := fam_new (len := g.len + 1) (m := m) O2 (by omega) (fun i hi => by
        rw [List.getElem?_append_left (by rw [List.length_append, hlen, List.length_singleton]; omega)]
        by_cases e2 : i = g.len
        · subst e2
          rw [List.getElem?_append_right (by omega), hlen]
          simp
        · rw [List.getElem?_append_left (by omega), key, marksB_at (by omega)]
          rfl)
      rw [htot] at O3
      refine k _ _ rfl (famR.sub O3 fun e he => ?_)
      rcases List.mem_append.1 he with he | he
      · exact List.mem_append.2 (.inl (List.mem_append.2 (.inl he)))
      · exact List.mem_append.2 (.inr he)
end Go.Proofs.Ytboidjampddfoaa.V
/- The Book over lists of bytes: it finds its marks, always. -/
namespace Go.Proofs.Ytboidjampddfoaa.V
open Go Go.RowKit
set_option linter.unusedVariables false
set_option linter.unusedSimpArgs false
theorem wrap8K (n : Nat) : IntKind.u8.wrap (n : Int) = ((UInt8.ofNat n).toNat : Int) := by
  unfold IntKind.wrap
  simp [IntKind.bits, IntKind.signed]
theorem F_law1_at.is {h : Heap} {m k : Nat} {Q : Int → Heap → Prop} (hm : m ≤ 1099511627776) (hq : Q ((atB m k).toNat : Int) h) : F_law1_at m k h Q := by
  rw [F_law1_at.eq_1, F_law1_at_of.eq_1]
  have e2 : ((k : Int)).tmod 2 = ((k % 2 : Nat) : Int) := by rw [Int.tmod_eq_emod_of_nonneg (by omega)]; omega
  have e3 : ((m : Int)).tmod 251 = ((m % 251 : Nat) : Int) := by rw [Int.tmod_eq_emod_of_nonneg (by omega)]; omega
  have e4 : ((m : Int)).tdiv 251 = ((m / 251 : Nat) : Int) := by rw [Int.tdiv_eq_ediv_of_nonneg (by omega)]; omega
  unfold atB at hq
  refine ⟨by decide, ?_⟩
  rw [e2, e3, e4]
  refine brr_eq (fun e => ?_) (fun e => ?_)
  · rw [if_pos (by omega)] at hq
    refine ⟨by decide, ?_⟩
    rw [wrap64 (by omega) (by omega), show (1 + ((m % 251 : Nat) : Int)) = ((1 + m % 251 : Nat) : Int) by omega, wrap8K]
    exact hq
  · rw [if_neg (by omega)] at hq
    refine ⟨by decide, by decide, ?_⟩
    rw [wrap64 (x := 7 * (m : Int)) (by omega) (by omega), wrap64 (x := ((m / 251 : Nat) : Int)) (by omega) (by omega), wrap64 (x := 7 * (m : Int) + ((m / 251 : Nat) : Int)) (by omega) (by omega)]
    have e5 : (7 * (m : Int) + ((m / 251 : Nat) : Int)).tmod 251 = (((7 * m + m / 251) % 251 : Nat) : Int) := by rw [Int.tmod_eq_emod_of_nonneg (by omega)]; omega
    rw [e5, wrap64 (by omega) (by omega), show (1 + (((7 * m + m / 251) % 251 : Nat) : Int)) = ((1 + (7 * m + m / 251) % 251 : Nat) : Int) by omega, wrap8K]
    exact hq
section
variable {h0 h : Heap} {L : List Res} {bk : Nat} {s0 s1 : Sl} {n t d u : Int} {es : List BE}
theorem F_law1_Book_plain.is {Q : Bool → Heap → Prop} (hb : ∀ e ∈ es, e.1.len ≤ 1099511627776 ∧ e.2 ≤ 1099511627776) (hn : es.length ≤ 1099511627776) (O : Sat h0 h (own bk (bkC s0 s1 n t d u) :: buf 1 slc s0 (es.map (·.1)) :: buf 1 natc s1 (es.map (·.2)) :: famR es :: L)) (k : Q true h) : F_law1_Book_plain (some (pt bk 0)) h Q := by
  rw [F_law1_Book_plain.eq_1, F_law1_Book_plain_of.eq_1]
  have v0 := (O.view 1 slc_len (by simp) rfl).1
  have v1 := (O.view 2 natc_len (by simp) rfl).1
  have O1 := O
  unfold bkC at O
  refine jn0 (fun h' => h' = h) ?_ ?_
  · rintro h rfl
    refine jn_go ?_
    rw [F_law1_Book_plain.l4.eq_1]
    refine wl_now1 fun next => ?_
    simp only [nn_some, pt_add, Nat.zero_add, Nat.add_zero, Nat.reduceAdd, Nat.reduceMul, Int.toNat_zero, Int.toNat_one, Nat.zero_mul, Nat.one_mul]
    refine O.ld 0 rfl (ldL_c (k := .sl) (x := (⟨none, 0, 0⟩ : Sl)) (ldL_n ?_))
    refine brr_ff (by decide) ?_
    exact k
  intro j hj
  rw [F_law1_Book_plain.l2.eq_1]
  simp only [nn_some, pt_add, Nat.zero_add, Nat.add_zero, Nat.reduceAdd, Nat.reduceMul, Int.toNat_zero, Int.toNat_one, Nat.zero_mul, Nat.one_mul]
  refine wl1 (k := .int .i64) (fun (m : Nat) (i : Int) (h' : Heap) => 0 ≤ i ∧ i + m = es.length ∧ h' = h) ?_ (m := es.length) ⟨by omega, by omega, rfl⟩
  rintro m (i : Int) h2 next hnx ⟨hi0, him, rfl⟩
  refine O.ld 0 rfl (ldL_c (k := .sl) (x := s0) (ldL_n ?_))
  rw [v0.len, List.length_map]
  refine brr_p (fun hlt => ?_) (fun hlt => hj _ rfl)
  have hil : i.toNat < es.length := by omega
  obtain ⟨e, he⟩ : ∃ e, es[i.toNat]? = some e := ⟨_, List.getElem?_eq_getElem hil⟩
  have hem := List.mem_of_getElem? he
  have hbe := hb e hem
  have ve := fam_view O1 3 (by simp) rfl hem
  have q0 : (es.map (·.1))[i.toNat]? = some e.1 := by rw [List.getElem?_map, he]; rfl
  have q1 : (es.map (·.2))[i.toNat]? = some e.2 := by rw [List.getElem?_map, he]; rfl
  refine jn_go ?_
  refine jn_go ?_
  rw [F_law1_Book_plain.l1.eq_1]
  simp only [nn_some, pt_add, Nat.zero_add, Nat.add_zero, Nat.reduceAdd, Nat.reduceMul, Int.toNat_zero, Int.toNat_one, Nat.zero_mul, Nat.one_mul]
  refine wl1 (k := .int .i64) (fun (m' : Nat) (i' : Int) (h' : Heap) => 0 ≤ i' ∧ i' + m' = e.1.len ∧ h' = h2) ?_ (m := e.1.len) ⟨by omega, by omega, rfl⟩
  rintro m' (i' : Int) h3 next' hnx' ⟨hi0', him', rfl⟩
  refine O.ld 0 rfl (ldL_c (k := .sl) (x := s0) (ldL_n ?_))
  refine v0.getP hi0 q0 fun a hca => ?_
  refine ld_are (hca v0) (ldL_c (k := .sl) (x := e.1) (ldL_n ?_))
  refine brr_p (fun hlt' => ?_) (fun hlt' => ?_)
  · refine O.ld 0 rfl (ldL_c (k := .sl) (x := s0) (ldL_n ?_))
    refine v0.getP hi0 q0 fun a hca => ?_
    refine ld_are (hca v0) (ldL_c (k := .sl) (x := e.1) (ldL_n ?_))
    have hlt2 : i' < (e.1.len : Int) := hlt'
    refine ve.getP (x := atB e.2 i'.toNat) hi0' (marksB_at (by omega)) fun b hcb => ?_
    refine ld_are (hcb ve) (ldL_c (k := .int .u8) (x := ((atB e.2 i'.toNat).toNat : Int)) (ldL_n ?_))
    refine O.ld 0 rfl (ldL_c (k := .sl) (x := s1) (ldL_n ?_))
    refine v1.getP hi0 q1 fun c hcc => ?_
    refine ld_are (hcc v1) (ldL_c (ldL_n ?_))
    obtain ⟨kN, rfl⟩ := Int.eq_ofNat_of_zero_le hi0'
    refine F_law1_at.is hbe.2 ?_
    refine ⟨O.cells 0 rfl 0 1, hca v0, hcb ve, ?_⟩
    refine brr_ne (fun e => absurd rfl e) (fun _ => ?_)
    rw [wrap64 (by omega) (by omega)]
    exact hnx' (m' - 1) _ _ (by omega) ⟨by omega, by omega, rfl⟩
  · rw [wrap64 (by omega) (by omega)]
    exact hnx (m - 1) _ _ (by omega) ⟨by omega, by omega, rfl⟩
theorem F_law1_Book_growBytes.is {nN T : Nat} {Q : Heap → Prop} (hb : ∀ (i : Nat) e, es[i]? = some e → e.1.len ≤ (if i < nN then 5600096 else 5600000) ∧ e.2 ≤ T) (hT : T ≤ 1099511627776) (hn : nN ≤ es.length) (hes : es.length ≤ 1000000)
    (O : Sat h0 h (own bk (bkC s0 s1 nN t d u) :: buf 1 slc s0 (es.map (·.1)) :: buf 1 natc s1 (es.map (·.2)) :: famR es :: L))
    (k : ∀ s0 s1 (fs : List BE) h', fs.length ≤ es.length + 9 * (es.length - nN) → (∀ e ∈ fs, e.1.len ≤ 5600096 ∧ e.2 ≤ T) → Sat h0 h' (own bk (bkC s0 s1 fs.length t d u) :: buf 1 slc s0 (fs.map (·.1)) :: buf 1 natc s1 (fs.map (·.2)) :: famR fs :: L) → Q h') : F_law1_Book_growBytes (some (pt bk 0)) h Q := by
  rw [F_law1_Book_growBytes.eq_1, F_law1_Book_growBytes_of.eq_1]
  have v0 := (O.view 1 slc_len (by simp) rfl).1
  have hs0 := v0.len
  rw [List.length_map] at hs0
  have ld0 : ∀ {h : Heap} {M : List Res} {s0 s1 : Sl} {n : Int} {K : Sl → Prop}, Sat h0 h (own bk (bkC s0 s1 n t d u) :: M) → K s0 → ld [.sl] (pt bk 0) h K := fun O k => O.ld 0 rfl (ldL_c (k := .sl) (ldL_n k))
  have ld1 : ∀ {h : Heap} {M : List Res} {s0 s1 : Sl} {n : Int} {K : Sl → Prop}, Sat h0 h (own bk (bkC s0 s1 n t d u) :: M) → K s1 → ld [.sl] (pt bk 1) h K := fun O k => O.ld 0 rfl (ldL_c (k := .sl) (ldL_n k))
  have ld2 : ∀ {h : Heap} {M : List Res} {s0 s1 : Sl} {n : Int} {K : Int → Prop}, Sat h0 h (own bk (bkC s0 s1 n t d u) :: M) → K n → ld [.int .i64] (pt bk 2) h K := fun O k => O.ld 0 rfl (ldL_c (ldL_n k))
  have st0 : ∀ {h : Heap} {M : List Res} {s0 s1 s : Sl} {n : Int} {K : Heap → Prop}, Sat h0 h (own bk (bkC s0 s1 n t d u) :: M) → (∀ h', Sat h0 h' (own bk (bkC s s1 n t d u) :: M) → K h') → st (pt bk 0) [.slice s.ptr s.len s.cap] h K := by
    intro h M s0 s1 s n K O k
    unfold bkC at O
    refine O.st 0 rfl (by simp) rfl fun h O => ?_
    dsimp only [V.put, List.set] at O
    exact k h O
  have st1 : ∀ {h : Heap} {M : List Res} {s0 s1 s : Sl} {n : Int} {K : Heap → Prop}, Sat h0 h (own bk (bkC s0 s1 n t d u) :: M) → (∀ h', Sat h0 h' (own bk (bkC s0 s n t d u) :: M) → K h') → st (pt bk 1) [.slice s.ptr s.len s.cap] h K := by
    intro h M s0 s1 s n K O k
    unfold bkC at O
    refine O.st 0 rfl (by simp) rfl fun h O => ?_
    dsimp only [V.put, List.set] at O
    exact k h O
  have st2 : ∀ {h : Heap} {M : List Res} {s0 s1 : Sl} {n n' : Int} {K : Heap → Prop}, Sat h0 h (own bk (bkC s0 s1 n t d u) :: M) → (∀ h', Sat h0 h' (own bk (bkC s0 s1 n' t d u) :: M) → K h') → st (pt bk 2) [.int .i64 n'] h K := by
    intro h M s0 s1 n n' K O k
    unfold bkC at O
    refine O.st 0 rfl (by simp) rfl fun h O => ?_
    dsimp only [V.put, List.set] at O
    exact k h O
  simp only [nn_some, pt_add, Nat.zero_add, Nat.add_zero, Nat.reduceAdd, Nat.reduceMul, Int.toNat_zero, Int.toNat_one, Nat.zero_mul, Nat.one_mul]
  refine ld0 O ?_
  refine ld2 O ?_
  refine jn0 (fun h' => ∃ (s0 s1 : Sl) (X : List BE), X.length ≤ 9 * (es.length - nN) ∧ (∀ e ∈ X, e.1.len ≤ 5600096 ∧ e.2 ≤ T) ∧ Sat h0 h' (own bk (bkC s0 s1 nN t d u) :: buf 1 slc s0 ((es ++ X).map (·.1)) :: buf 1 natc s1 ((es ++ X).map (·.2)) :: famR (es ++ X) :: L)) ?_ ?_
  · clear O v0
    rintro h ⟨s0, s1, X, hX, hXb, O⟩
    refine ld0 O ?_
    have hl := (O.view 1 slc_len (by simp) rfl).1.len
    rw [List.length_map] at hl
    rw [hl]
    refine st2 O fun h O => ?_
    refine k s0 s1 (es ++ X) h (by rw [List.length_append]; omega) (fun e he => ?_) O
    rcases List.mem_append.1 he with he | he
    · obtain ⟨i, hi⟩ := List.getElem?_of_mem he
      have := hb i e hi
      refine ⟨?_, this.2⟩
      have h2 := this.1
      split at h2 <;> omega
    · exact hXb e he
  intro j6 hj6
  rw [F_law1_Book_growBytes.l2.eq_1, hs0]
  simp only [nn_some, pt_add, Nat.zero_add, Nat.add_zero, Nat.reduceAdd, Nat.reduceMul, Int.toNat_zero, Int.toNat_one, Nat.zero_mul, Nat.one_mul]
  refine wl1 (k := .int .i64) (fun (m : Nat) (kk : Int) (h' : Heap) => (nN : Int) ≤ kk ∧ kk + m = es.length ∧ ∃ (s0 s1 : Sl) (X : List BE), (X.length : Int) ≤ 9 * (kk - nN) ∧ (∀ e ∈ X, e.1.len ≤ 5600096 ∧ e.2 ≤ T) ∧ Sat h0 h' (own bk (bkC s0 s1 nN t d u) :: buf 1 slc s0 ((es ++ X).map (·.1)) :: buf 1 natc s1 ((es ++ X).map (·.2)) :: famR (es ++ X) :: L)) ?_ (m := es.length - nN) ⟨by omega, by omega, s0, s1, [], by simp, by simp, by rw [List.append_nil]; exact O⟩
  clear O v0 hs0
  rintro m (kk : Int) h next hnx ⟨hk0, hkm, s0, s1, X, hX, hXb, O⟩
  refine brr_p (fun hlt => ?_) (fun hlt => hj6 _ ⟨s0, s1, X, by omega, hXb, O⟩)
  obtain ⟨kN, rfl⟩ := Int.eq_ofNat_of_zero_le (show 0 ≤ kk by omega)
  have hlt : kN < es.length := by
    have hlt : (kN : Int) < (es.length : Int) := hlt
    omega
  obtain ⟨⟨g0, m0⟩, he⟩ : ∃ e, es[kN]? = some e := ⟨_, List.getElem?_eq_getElem hlt⟩
  obtain ⟨hg0, hm0⟩ := hb kN _ he
  rw [if_neg (by omega)] at hg0
  simp only at hg0 hm0
  have he2 : (es ++ X)[((kN : Nat) : Int).toNat]? = some (g0, m0) := by rw [Int.toNat_natCast, List.getElem?_append_left hlt]; exact he
  refine ld0 O ?_
  have v0 := (O.view 1 slc_len (by simp) rfl).1
  have v1 := (O.view 2 natc_len (by simp) rfl).1
  refine v0.get1 (k := .sl) (by omega) (x := g0) (by rw [List.getElem?_map, he2]; rfl) id (fun _ => rfl) ?_
  refine ld1 O ?_
  refine v1.get1 (k := .int .i64) (by omega) (x := m0) (by rw [List.getElem?_map, he2]; rfl) (fun x => (x : Int)) (fun _ => rfl) ?_
  simp only [id_eq]
  clear v0 v1
  refine jn_go ?_
  rw [F_law1_Book_growBytes.l1.eq_1]
  simp only [nn_some, pt_add, Nat.zero_add, Nat.add_zero, Nat.reduceAdd, Nat.reduceMul, Int.toNat_zero, Int.toNat_one, Nat.zero_mul, Nat.one_mul]
  have O : Sat h0 h (own bk (bkC s0 s1 nN t d u) :: buf 1 slc s0 ((es ++ X).map (·.1)) :: buf 1 natc s1 ((es ++ X).map (·.2)) :: famR (es ++ X ++ [(g0, m0)]) :: L) := by
    have O2 := O.sel [3, 0, 1, 2] 4 rfl (Nat.le_add_left _ _)
    have O3 := famR.sub (fs := es ++ X ++ [(g0, m0)]) O2 (fun e hx => by
      rcases List.mem_append.1 hx with hx | hx
      · exact hx
      · rw [List.mem_singleton.1 hx]; exact List.mem_append.2 (.inl (List.mem_of_getElem? he)))
    exact O3.sel [1, 2, 3, 0] 4 rfl (Nat.le_add_left _ _)
  refine wl2 (k := .sl) (l := .int .i64) (fun (M : Nat) (g : Sl) (i : Int) (h' : Heap) => i + M = 97 ∧ 1 ≤ i ∧ (g.len : Int) = g0.len + (i - 1) ∧ ∃ (s0 s1 : Sl) (X : List BE), (X.length : Int) ≤ 9 * ((kN : Int) - nN) + (if i - 1 < 3 then i - 1 else 3) + (i - 1) / 16 ∧ (∀ e ∈ X, e.1.len ≤ 5600096 ∧ e.2 ≤ T) ∧ Sat h0 h' (own bk (bkC s0 s1 nN t d u) :: buf 1 slc s0 ((es ++ X).map (·.1)) :: buf 1 natc s1 ((es ++ X).map (·.2)) :: famR (es ++ X ++ [(g, m0)]) :: L)) ?_ (m := 96) ⟨by omega, by omega, by omega, s0, s1, X, by split <;> omega, hXb, O⟩
  clear O hXb hX he2
  rintro M (g : Sl) (i : Int) h next' hnx' ⟨hiM, hi1, hgl, s0, s1, X, hX, hXb, O⟩
  refine brr_p (fun hlt2 => ?_) (fun hlt2 => ?_)
  case refine_2 =>
    have h97 : i = 97 := by
      have hlt2 : ¬ i ≤ 96 := hlt2
      omega
    subst h97
    rw [wrap64 (by omega) (by omega)]
    refine hnx (m - 1) _ _ (by omega) ⟨by omega, by omega, s0, s1, X, by split at hX <;> omega, hXb, ?_⟩
    have O2 := O.sel [3, 0, 1, 2] 4 rfl (Nat.le_add_left _ _)
    have O3 := famR.sub (fs := es ++ X) O2 (fun e hx => List.mem_append.2 (.inl hx))
    exact O3.sel [1, 2, 3, 0] 4 rfl (Nat.le_add_left _ _)
  have hlt2 : i ≤ 96 := hlt2
  refine F_law1_at.is (by omega) ?_
  refine O.al fun a h O => ?_
  replace O := O.sel [0, 4, 1, 2, 3] 5 rfl (Nat.le_add_left _ _)
  simp only [selT, List.map, nth, List.drop, List.cons_append, List.nil_append] at O
  refine fam_app (by omega) O fun g' h hg' O => ?_
  refine jn1 (fun z h' => z = decide (i < 4 ∨ i % 16 = 0) ∧ h' = h) ?_ ?_
  case refine_2 =>
    intro j30 hj30
    refine brr_p (fun h4 => ?_) (fun h4 => ?_)
    · exact hj30 _ _ ⟨(decide_eq_true (.inl h4)).symm, rfl⟩
    · refine ⟨by decide, hj30 _ _ ⟨?_, rfl⟩⟩
      rw [Int.tmod_eq_emod_of_nonneg (by omega)]
      by_cases h16 : i % 16 = 0
      · rw [decide_eq_true (.inr h16), h16]; rfl
      · rw [decide_eq_false (fun x => x.elim h4 h16)]
        exact beq_eq_false_iff_ne.2 h16
  rintro z h2 ⟨rfl, rfl⟩
  refine jn0 (fun h' => ∃ (s0 s1 : Sl) (X : List BE), (X.length : Int) ≤ 9 * ((kN : Int) - nN) + (if i < 3 then i else 3) + i / 16 ∧ (∀ e ∈ X, e.1.len ≤ 5600096 ∧ e.2 ≤ T) ∧ Sat h0 h' (own bk (bkC s0 s1 nN t d u) :: buf 1 slc s0 ((es ++ X).map (·.1)) :: buf 1 natc s1 ((es ++ X).map (·.2)) :: famR (es ++ X ++ [(g', m0)]) :: L)) ?_ ?_
  · clear O
    rintro h ⟨s0, s1, X, hX', hXb, O⟩
    rw [wrap64 (by omega) (by omega)]
    refine hnx' (M - 1) _ _ _ (by omega) ⟨by omega, by omega, by omega, s0, s1, X, by rw [show i + 1 - 1 = i by omega]; exact hX', hXb, O⟩
  intro j33 hj33
  refine brr_p (fun hp => ?_) (fun hp => ?_)
  case refine_2 =>
    refine hj33 _ ⟨s0, s1, X, ?_, hXb, O.sel [1, 2, 3, 0] 4 rfl (Nat.le_add_left _ _)⟩
    split at hX <;> split <;> omega
  have hXl : X.length ≤ 9000100 := by split at hX <;> omega
  have hesX : (es ++ X).length ≤ 10000100 := by rw [List.length_append]; omega
  have O : Sat h0 h2 (own bk (bkC s0 s1 nN t d u) :: buf 1 slc s0 ((es ++ X).map (·.1)) :: buf 1 natc s1 ((es ++ X).map (·.2)) :: famR (es ++ X ++ [(g', m0)]) :: L) := O.sel [1, 2, 3, 0] 4 rfl (Nat.le_add_left _ _)
  refine ld0 O ?_
  have O := O.swap
  refine O.push_buf g' rfl slc_len slc_one rfl (by rw [List.length_map]; omega) fun s38 h O _ => ?_
  refine st0 O.swap fun h O => ?_
  refine ld1 O ?_
  replace O := O.sel [2, 0, 1, 3] 4 rfl (Nat.le_add_left _ _)
  simp only [selT, List.map, nth, List.drop, List.cons_append, List.nil_append] at O
  refine O.push_buf m0 rfl natc_len natc_one rfl (by rw [List.length_map]; omega) fun s46 h O _ => ?_
  refine st1 O.swap fun h O => ?_
  have e1 : (es ++ X).map (·.1) ++ [g'] = (es ++ (X ++ [(g', m0)])).map (·.1) := by simp
  have e2 : (es ++ X).map (·.2) ++ [m0] = (es ++ (X ++ [(g', m0)])).map (·.2) := by simp
  rw [e1, e2] at O
  refine hj33 _ ⟨s38, s46, X ++ [(g', m0)], ?_, ?_, ?_⟩
  · rw [List.length_append, List.length_singleton]
    split at hX <;> split <;> omega
  · intro e hx
    rcases List.mem_append.1 hx with hx | hx
    · exact hXb e hx
    · rw [List.mem_singleton.1 hx]
      exact ⟨by show g'.len ≤ _; omega, hm0⟩
  · have O2 := O.sel [3, 0, 1, 2] 4 rfl (Nat.le_add_left _ _)
    have O3 := famR.sub (fs := es ++ (X ++ [(g', m0)]) ++ [(g', m0)]) O2 (fun e hx => by
      rcases List.mem_append.1 hx with hx | hx
      · rw [← List.append_assoc] at hx; exact hx
      · exact List.mem_append.2 (.inr hx))
    exact O3.sel [1, 3, 2, 0] 4 rfl (Nat.le_add_left _ _)
end
end Go.Proofs.Ytboidjampddfoaa.V
/- The Book over lists of bytes: what is given to it, what it answers. -/
namespace Go.Proofs.Ytboidjampddfoaa.V
open Go Go.RowKit
set_option linter.unusedVariables false
set_option linter.unusedSimpArgs false
structure BkS where
  s0 : Sl
  s1 : Sl
  es : List BE
  n : Nat
  t : Nat
  d : Nat
  u : Nat
structure BkS.Ok (x : BkS) (T : Nat) : Prop where
  t : x.t ≤ T
  n : x.n ≤ x.es.length
  room : 120 * (x.es.length + 9 * (x.es.length - x.n)) ≤ x.u
  u : x.u ≤ 16777216
  len : ∀ (i : Nat) e, x.es[i]? = some e → e.1.len ≤ (if i < x.n then 5600096 else 5600000) ∧ e.2 ≤ T
def bkR (bk T : Nat) : Res := ex fun x : BkS => pr (x.Ok T) (sep (own bk (bkC x.s0 x.s1 x.n x.t x.d x.u)) (sep (buf 1 slc x.s0 (x.es.map (·.1))) (sep (buf 1 natc x.s1 (x.es.map (·.2))) (famR x.es))))
theorem Sat.book {h0 h : Heap} {L : List Res} {bk T : Nat} (O : Sat h0 h (bkR bk T :: L)) : ∃ x : BkS, x.Ok T ∧ Sat h0 h (own bk (bkC x.s0 x.s1 x.n x.t x.d x.u) :: buf 1 slc x.s0 (x.es.map (·.1)) :: buf 1 natc x.s1 (x.es.map (·.2)) :: famR x.es :: L) := by
  obtain ⟨x, O⟩ := O.ex
  obtain ⟨o, O⟩ := O.pr
  have O := O.sep.swap.sep.swap.sep
  exact ⟨x, o, O.sel [3, 2, 0, 1] 4 rfl (Nat.le_add_left _ _)⟩
theorem Sat.bookI {h0 h : Heap} {L : List Res} {bk T : Nat} {x : BkS} (o : x.Ok T) (O : Sat h0 h (own bk (bkC x.s0 x.s1 x.n x.t x.d x.u) :: buf 1 slc x.s0 (x.es.map (·.1)) :: buf 1 natc x.s1 (x.es.map (·.2)) :: famR x.es :: L)) : Sat h0 h (bkR bk T :: L) := by
  have O := (O.sel [2, 3, 0, 1] 4 rfl (Nat.le_add_left _ _)).sepI
  have O := (O.sel [2, 0, 1] 3 rfl (Nat.le_add_left _ _)).sepI
  exact (Sat.prI o (O.swap.sepI)).exI x
section
variable {h0 h : Heap} {L : List Res} {bk T : Nat}
theorem F_law1_Book_holds.is {x : BkS} {Q : Bool → Heap → Prop} (hb : ∀ e ∈ x.es, e.1.len ≤ 1099511627776 ∧ e.2 ≤ 1099511627776) (hn : x.es.length ≤ 1099511627776) (O : Sat h0 h (own bk (bkC x.s0 x.s1 x.n x.t x.d x.u) :: buf 1 slc x.s0 (x.es.map (·.1)) :: buf 1 natc x.s1 (x.es.map (·.2)) :: famR x.es :: L)) (k : Q true h) : F_law1_Book_holds (some (pt bk 0)) h Q := by
  rw [F_law1_Book_holds.eq_1, F_law1_Book_holds_of.eq_1]
  refine jn1 (fun z h' => z = true ∧ h' = h) ?_ ?_
  · rintro z h ⟨rfl, rfl⟩
    exact k
  · intro j hj
    refine F_law1_Book_plain.is hb hn O ?_
    refine brr_tt rfl ?_
    refine F_law1_Book_kept.is O ?_
    refine brr_tt rfl ?_
    refine F_law1_Book_told.is O ?_
    refine brr_tt rfl ?_
    refine F_law1_Book_held.is O ?_
    exact hj _ _ ⟨rfl, rfl⟩
theorem BkS.Ok.lens {x : BkS} (o : x.Ok T) (hT : T ≤ 1099511627776) : ∀ e ∈ x.es, e.1.len ≤ 1099511627776 ∧ e.2 ≤ 1099511627776 := by
  intro e he
  obtain ⟨i, hi⟩ := List.getElem?_of_mem he
  have := o.len i e hi
  refine ⟨?_, by omega⟩
  have h2 := this.1
  split at h2 <;> omega
theorem F_law1_Book_Look.is {Q : Bool → Heap → Prop} (hT : T ≤ 1099511627776) (O : Sat h0 h (bkR bk T :: L)) (k : ∀ h', Sat h0 h' (bkR bk T :: L) → Q true h') : F_law1_Book_Look (some (pt bk 0)) h Q := by
  rw [F_law1_Book_Look.eq_1, F_law1_Book_Look_of.eq_1]
  obtain ⟨x, o, O⟩ := O.book
  have h1 := o.room; have h2 := o.u; have h3 := o.n
  refine F_law1_Book_holds.is (o.lens hT) (by omega) O ?_
  refine brr_ff rfl ?_
  simp only [nn_some, pt_add, Nat.zero_add, Nat.add_zero, Nat.reduceAdd, Nat.reduceMul, Int.toNat_zero, Int.toNat_one, Nat.zero_mul, Nat.one_mul]
  have O1 := O
  unfold bkC at O1
  refine O1.ld 0 rfl (ldL_c (ldL_n ?_))
  refine O1.ld 0 rfl (ldL_c (ldL_n ?_))
  refine brr_eq (fun _ => k h (Sat.bookI o O)) (fun _ => ?_)
  rw [F_law1_Book_grow.eq_1, F_law1_Book_grow_of.eq_1]
  refine F_law1_Book_growBytes.is o.len hT o.n (by omega) O fun s0 s1 fs h hfs hfb O => ?_
  refine F_law1_Book_growRows.is O fun h O => ?_
  refine F_law1_Book_growTexts.is O fun h O => ?_
  refine F_law1_Book_growInts.is O fun h O => ?_
  refine F_law1_Book_growWords.is O fun h O => ?_
  refine F_law1_Book_growDones.is O fun h O => ?_
  refine F_law1_Book_growAccts.is O fun h O => ?_
  refine F_law1_Book_growQueue.is O fun h O => ?_
  refine F_law1_Book_growSlots.is O fun h O => ?_
  refine F_law1_Book_growMsgs.is O fun h O => ?_
  refine F_law1_Book_growFlights.is O fun h O => ?_
  refine F_law1_Book_growFiles.is O fun h O => ?_
  simp only [nn_some, pt_add, Nat.zero_add, Nat.add_zero, Nat.reduceAdd, Nat.reduceMul, Int.toNat_zero, Int.toNat_one, Nat.zero_mul, Nat.one_mul]
  have O1 := O
  unfold bkC at O1
  refine O1.ld 0 rfl (ldL_c (ldL_n ?_))
  refine O1.st 0 rfl (by simp) rfl fun h O => ?_
  dsimp only [V.put, List.set] at O
  have O : Sat h0 h (own bk (bkC s0 s1 fs.length x.t x.t x.u) :: buf 1 slc s0 (fs.map (·.1)) :: buf 1 natc s1 (fs.map (·.2)) :: famR fs :: L) := O
  have o2 : BkS.Ok ⟨s0, s1, fs, fs.length, x.t, x.t, x.u⟩ T := by
    refine ⟨o.t, Nat.le_refl _, ?_, o.u, fun i e hi => ?_⟩
    · show 120 * (fs.length + 9 * (fs.length - fs.length)) ≤ x.u
      omega
    · have hl := (List.getElem?_eq_some_iff.1 hi).1
      rw [if_pos hl]
      exact hfb e (List.mem_of_getElem? hi)
  refine F_law1_Book_holds.is (x := ⟨s0, s1, fs, fs.length, x.t, x.t, x.u⟩) (o2.lens hT) (by show fs.length ≤ _; omega) O ?_
  exact k h (Sat.bookI o2 O)
theorem marks_set {m i : Nat} {xs : List UInt8} (hi : i < xs.length) : (marksB m i ++ xs.drop i).set i (atB m i) = marksB m (i + 1) ++ xs.drop (i + 1) := by
  have e1 : xs.drop i = xs[i] :: xs.drop (i + 1) := List.drop_eq_getElem_cons hi
  rw [e1, List.set_append_right _ _ (by rw [marksB_len]; exact Nat.le_refl _), marksB_len, Nat.sub_self, List.set_cons_zero]
  have e2 : marksB m (i + 1) = marksB m i ++ [atB m i] := by unfold marksB; rw [List.range_succ, List.map_append]; rfl
  rw [e2, List.append_assoc]
  rfl
theorem F_law1_Book_Bytes.is {s : Sl} {xs : List UInt8} {Q : Heap → Prop} (hT : T ≤ 1099511627) (hx : xs.length ≤ 281474976710656) (O : Sat h0 h (buf 1 u8 s xs :: bkR bk T :: L)) (k : ∀ h', Sat h0 h' (bkR bk (T + 1) :: L) → Q h') : F_law1_Book_Bytes (some (pt bk 0)) s h Q := by
  rw [F_law1_Book_Bytes.eq_1, F_law1_Book_Bytes_of.eq_1]
  obtain ⟨x, o, O⟩ := O.swap.book
  have h1 := o.room; have h2 := o.u; have h3 := o.n; have h4 := o.t
  have hsl := (O.view 4 u8_len (by simp) rfl).1.len
  simp only [nn_some, pt_add, Nat.zero_add, Nat.add_zero, Nat.reduceAdd, Nat.reduceMul, Int.toNat_zero, Int.toNat_one, Nat.zero_mul, Nat.one_mul]
  unfold bkC at O
  refine O.ld 0 rfl (ldL_c (ldL_n ?_))
  refine O.st 0 rfl (by simp) rfl fun h O => ?_
  dsimp only [V.put, List.set] at O
  rw [wrap64 (by omega) (by omega)] at O
  refine O.ld 0 rfl (ldL_c (ldL_n ?_))
  have em : (x.t : Int) + 1 = ((x.t + 1 : Nat) : Int) := by omega
  rw [em] at O ⊢
  have O : Sat h0 h (own bk (bkC x.s0 x.s1 x.n (x.t + 1 : Nat) x.d x.u) :: buf 1 slc x.s0 (x.es.map (·.1)) :: buf 1 natc x.s1 (x.es.map (·.2)) :: famR x.es :: buf 1 u8 s xs :: L) := O
  replace O := O.sel [4, 0, 1, 2, 3] 5 rfl (Nat.le_add_left _ _)
  simp only [selT, List.map, nth, List.drop, List.cons_append, List.nil_append] at O
  refine jn0 (fun h' => Sat h0 h' (buf 1 u8 s (marksB (x.t + 1) s.len) :: own bk (bkC x.s0 x.s1 x.n (x.t + 1 : Nat) x.d x.u) :: buf 1 slc x.s0 (x.es.map (·.1)) :: buf 1 natc x.s1 (x.es.map (·.2)) :: famR x.es :: L)) ?_ ?_
  case refine_2 =>
    intro j hj
    rw [F_law1_Book_Bytes.l1.eq_1, hsl]
    rw [hsl] at hj
    refine wl1 (k := .int .i64) (fun (m : Nat) (i : Int) (h' : Heap) => 0 ≤ i ∧ i + m = xs.length ∧ Sat h0 h' (buf 1 u8 s (marksB (x.t + 1) i.toNat ++ xs.drop i.toNat) :: own bk (bkC x.s0 x.s1 x.n (x.t + 1 : Nat) x.d x.u) :: buf 1 slc x.s0 (x.es.map (·.1)) :: buf 1 natc x.s1 (x.es.map (·.2)) :: famR x.es :: L)) ?_ (m := xs.length) ⟨by omega, by omega, by rw [show marksB (x.t + 1) (0 : Int).toNat = [] from rfl]; exact O⟩
    clear O
    rintro m (i : Int) h next hn ⟨hi0, him, O⟩
    obtain ⟨i, rfl⟩ := Int.eq_ofNat_of_zero_le hi0
    simp only [Int.toNat_natCast] at O
    refine brr_p (fun hlt => ?_) (fun hlt => ?_)
    · have hil : i < xs.length := by omega
      refine F_law1_at.is (by omega) ?_
      refine O.put1 u8_len u8_one (by omega) (by rw [List.length_append, marksB_len, List.length_drop]; omega) (atB (x.t + 1) i) rfl fun h O => ?_
      rw [Int.toNat_natCast, marks_set hil] at O
      rw [wrap64 (by omega) (by omega)]
      refine hn (m - 1) _ _ (by omega) ⟨by omega, by omega, ?_⟩
      rw [show ((i : Int) + 1).toNat = i + 1 by omega]
      exact O
    · rw [List.drop_eq_nil_of_le (by omega), List.append_nil, show i = xs.length by omega] at O
      exact hj _ O
  clear O
  intro h O
  rw [F_law1_Book_tight.eq_1, F_law1_Book_tight_of.eq_1]
  simp only [nn_some, pt_add, Nat.zero_add, Nat.add_zero, Nat.reduceAdd, Nat.reduceMul, Int.toNat_zero, Int.toNat_one, Nat.zero_mul, Nat.one_mul]
  replace O := O.sel [1, 2, 3, 4, 0] 5 rfl (Nat.le_add_left _ _)
  simp only [selT, List.map, nth, List.drop, List.cons_append, List.nil_append] at O
  unfold bkC at O
  refine O.ld 0 rfl (ldL_c (ldL_n ?_))
  have ew : IntKind.i64.wrap (1200 + IntKind.i64.wrap (3 * ((s.len : Nat) : Int))) = 1200 + 3 * (xs.length : Int) := by
    rw [hsl, wrap64 (x := 3 * (xs.length : Int)) (by omega) (by omega), wrap64 (by omega) (by omega)]
  rw [ew, wrap64 (x := (x.u : Int) + (1200 + 3 * (xs.length : Int))) (by omega) (by omega)]
  have olen : ∀ (i : Nat) e, x.es[i]? = some e → e.1.len ≤ (if i < x.n then 5600096 else 5600000) ∧ e.2 ≤ T + 1 := fun i e hi => ⟨(o.len i e hi).1, Nat.le_succ_of_le (o.len i e hi).2⟩
  refine brr_p (fun hp => ?_) (fun hp => ?_)
  · refine brr_tt rfl ?_
    have O := O.sel [0, 1, 2, 3] 5 rfl (Nat.le_add_left _ _)
    exact k h (Sat.bookI (x := ⟨x.s0, x.s1, x.es, x.n, x.t + 1, x.d, x.u⟩) ⟨by show x.t + 1 ≤ T + 1; omega, o.n, o.room, o.u, olen⟩ O)
  · have hp : ¬ (x.u : Int) + (1200 + 3 * (xs.length : Int)) > 16777216 := hp
    refine O.ld 0 rfl (ldL_c (ldL_n ?_))
    refine O.st 0 rfl (by simp) rfl fun h O => ?_
    dsimp only [V.put, List.set] at O
    rw [show (x.u : Int) + (1200 + 3 * (xs.length : Int)) = ((x.u + (1200 + 3 * xs.length) : Nat) : Int) by omega, wrap64 (by omega) (by omega)] at O
    refine brr_ff rfl ?_
    refine O.ld 0 rfl (ldL_c (k := .sl) (x := x.s0) (ldL_n ?_))
    have O := O.swap
    refine O.push_buf s rfl slc_len slc_one rfl (by rw [List.length_map]; omega) fun s2 h O _ => ?_
    have O := O.swap
    refine O.st 0 rfl (by simp) rfl fun h O => ?_
    dsimp only [V.put, List.set] at O
    refine O.ld 0 rfl (ldL_c (k := .sl) (x := x.s1) (ldL_n ?_))
    replace O := O.sel [2, 0, 1, 3, 4] 5 rfl (Nat.le_add_left _ _)
    simp only [selT, List.map, nth, List.drop, List.cons_append, List.nil_append] at O
    refine O.push_buf (x.t + 1) rfl natc_len natc_one rfl (by rw [List.length_map]; omega) fun s3 h O _ => ?_
    have O := O.swap
    refine O.st 0 rfl (by simp) rfl fun h O => ?_
    dsimp only [V.put, List.set] at O
    replace O := O.sel [4, 3, 0, 2, 1] 5 rfl (Nat.le_add_left _ _)
    simp only [selT, List.map, nth, List.drop, List.cons_append, List.nil_append] at O
    have O := fam_take O
    have O : Sat h0 h (famR (x.es ++ [(s, x.t + 1)]) :: own bk (bkC s2 s3 x.n (x.t + 1 : Nat) x.d (x.u + (1200 + 3 * xs.length) : Nat)) :: buf 1 slc s2 (x.es.map (·.1) ++ [s]) :: buf 1 natc s3 (x.es.map (·.2) ++ [x.t + 1]) :: L) := O
    have e1 : x.es.map (·.1) ++ [s] = (x.es ++ [(s, x.t + 1)]).map (·.1) := by simp
    have e2 : x.es.map (·.2) ++ [x.t + 1] = (x.es ++ [(s, x.t + 1)]).map (·.2) := by simp
    rw [e1, e2] at O
    replace O := O.sel [1, 2, 3, 0] 4 rfl (Nat.le_add_left _ _)
    simp only [selT, List.map, nth, List.drop, List.cons_append, List.nil_append] at O
    have el : (x.es ++ [(s, x.t + 1)]).length = x.es.length + 1 := by simp
    refine k h (Sat.bookI (x := ⟨s2, s3, x.es ++ [(s, x.t + 1)], x.n, x.t + 1, x.d, x.u + (1200 + 3 * xs.length)⟩) ⟨by show x.t + 1 ≤ T + 1; omega, by show x.n ≤ (x.es ++ [(s, x.t + 1)]).length; omega, by show 120 * ((x.es ++ [(s, x.t + 1)]).length + 9 * ((x.es ++ [(s, x.t + 1)]).length - x.n)) ≤ x.u + (1200 + 3 * xs.length); omega, by show x.u + (1200 + 3 * xs.length) ≤ _; omega, fun i e hi => ?_⟩ O)
    have hi : (x.es ++ [(s, x.t + 1)])[i]? = some e := hi
    by_cases hlt : i < x.es.length
    · rw [List.getElem?_append_left hlt] at hi
      exact olen i e hi
    · rw [List.getElem?_append_right (by omega)] at hi
      have hi0 : i - x.es.length = 0 := by
        have := (List.getElem?_eq_some_iff.1 hi).1
        simp at this
        omega
      rw [hi0] at hi
      cases hi
      refine ⟨?_, by show x.t + 1 ≤ T + 1; omega⟩
      rw [if_neg (by show ¬ i < x.n; omega)]
      show s.len ≤ _
      omega
end
end Go.Proofs.Ytboidjampddfoaa.V
/- An array in the midst of a struct: its elements of one cell are read and written. -/
namespace Go.Proofs.Ytboidjampddfoaa.V
open Go Go.RowKit
set_option linter.unusedVariables false
set_option linter.unusedSimpArgs false
variable {α : Type}
theorem flat1_at {enc : α → List Value} (he : ∀ x, (enc x).length = 1) : ∀ {xs : List α} {i : Nat} {x : α}, xs[i]? = some x → (xs.flatMap enc).drop i = enc x ++ (xs.drop (i + 1)).flatMap enc := by
  intro xs
  induction xs with
  | nil => intro i x h; simp at h
  | cons y xs ih =>
    intro i x h
    cases i with
    | zero => cases h; rfl
    | succ i =>
      rw [List.flatMap_cons]
      have hy := he y
      match hyy : enc y, hy with
      | [v], _ => exact ih h
theorem Sat.getO {h0 h : Heap} {L : List Res} (O : Sat h0 h L) (j : Nat) {b o n : Nat} {enc : α → List Value} {xs : List α} {pre ys : List Value} {i : Int} {k : Kd} {K : Addr → k.T → Prop} {x : α} (he : ∀ x, (enc x).length = 1) (hj : nth j L = own b (pre ++ (xs.flatMap enc ++ ys))) (ho : o = pre.length) (h0 : 0 ≤ i) (h1 : i < (n : Int)) (hx : xs[i.toNat]? = some x) (f : α → k.T) (hf : ∀ x, enc x = [k.enc (f x)])
    (kk : ∀ a, (∀ {h0' h' : Heap} {L' : List Res}, Sat h0' h' L' → ∀ j', nth j' L' = own b (pre ++ (xs.flatMap enc ++ ys)) → cellsAre h' a (enc x)) → K a (f x)) : ixA 1 (pt b o) n i fun a => V.ld [k] a h (K a) := by
  refine ⟨h0, h1, ?_⟩
  have hc : ∀ {h0' h' : Heap} {L' : List Res}, Sat h0' h' L' → ∀ j', nth j' L' = own b (pre ++ (xs.flatMap enc ++ ys)) → cellsAre h' ((pt b o).add (i.toNat * 1)) (enc x) := by
    intro h0' h' L' O' j' hj'
    have B := (O'.blk (nth_lt hj') hj').2
    have h2 := cellsAre_blk B (o + i.toNat) 1
    have hl := (List.getElem?_eq_some_iff.1 hx).1
    have e1 : ((pre ++ (xs.flatMap enc ++ ys)).drop (o + i.toNat)).take 1 = enc x := by
      rw [ho, ← List.drop_drop, List.drop_left, List.drop_append_of_le_length (by rw [flatMap_len he]; omega), flat1_at he hx, List.append_assoc, List.take_append_of_le_length (by rw [he]; exact Nat.le_refl _), List.take_of_length_le (by rw [he]; exact Nat.le_refl _)]
    rw [e1] at h2
    rw [pt_add, Nat.mul_one]
    exact h2
  have h1 := hc O j hj
  rw [hf] at h1
  exact ld_are h1 (ldL_c (ldL_n (kk _ hc)))
theorem put_behind {pre : List Value} : ∀ (cs : List Value) (i : Nat) (v : List Value), V.put (pre ++ cs) (pre.length + i) v = pre ++ V.put cs i v := by
  induction pre with
  | nil => intro cs i v; simp
  | cons c pre ih =>
    intro cs i v
    rw [List.length_cons, show pre.length + 1 + i = (pre.length + i) + 1 by omega]
    show c :: V.put (pre ++ cs) (pre.length + i) v = _
    rw [ih]
    rfl
theorem Sat.putO {h0 h : Heap} {L : List Res} {b o n : Nat} {enc : α → List Value} {xs : List α} {pre ys : List Value} {i : Int} {K : Heap → Prop} (O : Sat h0 h (own b (pre ++ (xs.flatMap enc ++ ys)) :: L)) (he : ∀ x, (enc x).length = 1) (ho : ∀ x, (enc x).all oneV = true) (hoo : o = pre.length) (hn : n = xs.length)
    (hi0 : 0 ≤ i) (hi1 : i < (n : Int)) (y : α) {cs : List Value} (hcs : cs = enc y) (k : ∀ h', Sat h0 h' (own b (pre ++ ((xs.set i.toNat y).flatMap enc ++ ys)) :: L) → K h') : ixA 1 (pt b o) n i fun a => V.st a cs h K := by
  subst hcs hn hoo
  refine ⟨hi0, hi1, ?_⟩
  rw [pt_add, Nat.mul_one]
  have hl := flatMap_len he xs
  refine O.st 0 rfl (by rw [he, List.length_append, List.length_append, hl]; omega) (ho y) fun h' O => ?_
  rw [put_behind, set_flat1 he xs ys i.toNat y (by omega)] at O
  exact k _ O
end Go.Proofs.Ytboidjampddfoaa.V
namespace Go.Proofs.Ytboidjampddfoaa.V
open Go Go.RowKit
set_option linter.unusedVariables false
set_option maxRecDepth 100000
def F_law6_stage_fresh_of (f21_ : Int → Heap → (Option Addr → Int → Heap → Prop) → Prop) (f22_ : Int → Heap → (Int → Heap → Prop) → Prop) (f73_ : Int → Heap → (Option Addr → Int → Heap → Prop) → Prop) (t1 : Option Addr) (k2 room3 : Int) (h : Heap) (Q : Bool → Heap → Prop) : Prop :=
  f21_ room3 h fun (r4 : Option Addr) (r5 : Int) (h6 : Heap) =>
  f73_ room3 h6 fun (r7 : Option Addr) (r8 : Int) (h9 : Heap) =>
  nn t1 fun (a10 : Addr) =>
  ixA 1 (a10.add 0) 2 k2 fun (a11 : Addr) =>
  st a11 [.pointer r4] h9 fun (h12 : Heap) =>
  nn t1 fun (a13 : Addr) =>
  ixA 1 (a13.add 2) 2 k2 fun (a14 : Addr) =>
  st a14 [.pointer r7] h12 fun (h15 : Heap) =>
  jn [(6, .one .bool)] (fun (x19 : Bool) (h20 : Heap) =>
  Q x19 h20) (fun (j16 : Bool → Heap → Prop) =>
  f22_ r5 h15 fun (r17 : Int) (h18 : Heap) =>
  brr (r17 == r8)
  (j16 (r4.isNone == r7.isNone) h18)
  (j16 false h18))
def F_law6_stage_fresh (t1 : Option Addr) (k2 room3 : Int) (h : Heap) (Q : Bool → Heap → Prop) : Prop := F_law6_stage_fresh_of F_net_New F_law6_num F_ref6_New t1 k2 room3 h Q
def plan55 : Plan := .s (.r [0, 1, 2]) (.s (.r [0, 1, 2, 7, 8]) (.s (.r [0, 1, 7, 8, 9, 10]) (.s (.r [0, 1, 7, 8, 9, 10]) (.s (.r [7, 8, 9, 10]) (.s (.rj [(6, .one .bool)] []) .z)))))
theorem F_law6_stage_fresh.eq (f21_ : Int → Heap → (Option Addr → Int → Heap → Prop) → Prop) (f22_ : Int → Heap → (Int → Heap → Prop) → Prop) (f73_ : Int → Heap → (Option Addr → Int → Heap → Prop) → Prop) (t1 : Option Addr) (k2 room3 : Int) (h : Heap) (K : Value → Heap → Prop) : F_law6_stage_fresh_of f21_ f22_ f73_ t1 k2 room3 h (fun (r0 : Bool) (h : Heap) => K (.bool r0) h) =
    den Try.prog (fn1 21 (E_net_New_of f21_) (fn1 22 (E_law6_num_of f22_) (fn1 73 (E_ref6_New_of f73_) noFns))) Try.f55.ntmps plan55 (bodyOf Try.f55) (args0 0 [(.pointer t1 : Value), (.int .i64 k2 : Value), (.int .i64 room3 : Value)]) h ⟨fun env h => dRes Try.prog Try.f55.results.toList env h K, fun _ _ _ => False, fun env h => dRes Try.prog Try.f55.results.toList env h K⟩ := by kernel_rfl
def E_law6_stage_fresh_of (f : Option Addr → Int → Int → Heap → (Bool → Heap → Prop) → Prop) : List Value → Heap → (Value → Heap → Prop) → Prop
  | [v0, v1, v2], h, K => dec1 .ptr v0 fun (t1 : Option Addr) =>
  dec1 (.int .i64) v1 fun (k2 : Int) =>
  dec1 (.int .i64) v2 fun (room3 : Int) =>
  f t1 k2 room3 h (fun (r0 : Bool) (h : Heap) => K (.bool r0) h)
  | _, _, _ => False
abbrev E_law6_stage_fresh := E_law6_stage_fresh_of F_law6_stage_fresh
theorem E_law6_stage_fresh.right : IsRight Try.prog 55 E_law6_stage_fresh := by
  refine isRight fun vs K w hh => ?_
  match vs, hh with
  | [v0, v1, v2], hh =>
    unfold E_law6_stage_fresh E_law6_stage_fresh_of at hh
    replace hh := dec1_sound hh; obtain ⟨t1, rfl, hh⟩ := hh
    replace hh := dec1_sound hh; obtain ⟨k2, rfl, hh⟩ := hh
    replace hh := dec1_sound hh; obtain ⟨room3, rfl, hh⟩ := hh
    unfold F_law6_stage_fresh at hh
    exact calls_den (fn1_right ok21 E_net_New.right (fn1_right ok22 E_law6_num.right (fn1_right ok73 E_ref6_New.right noFns_right))) plan55 _ w K Try.func55 (by kernel_rfl) (by kernel_rfl) (Eq.mp (F_law6_stage_fresh.eq F_net_New F_law6_num F_ref6_New t1 k2 room3 w.heap K) hh)
theorem ok55 : okFn Try.prog 55 = true := by kernel_rfl
end Go.Proofs.Ytboidjampddfoaa.V
namespace Go.Proofs.Ytboidjampddfoaa.V
open Go Go.RowKit
set_option linter.unusedVariables false
set_option maxRecDepth 100000
def F_law1_Over.l1 (l1 : Sl) (j2 : Heap → Prop) : Int → Heap → Prop :=
  wl [(2, .one (.int .i64))] (fun (next3 : Int → Heap → Prop) (i4 : Int) (h5 : Heap) =>
  brr (decide (i4 < ((l1.len : Nat) : Int)))
  (ixS 1 l1 i4 fun (a6 : Addr) =>
  st a6 [.int .u8 238] h5 fun (h7 : Heap) =>
  next3 (IntKind.i64.wrap (i4 + 1)) h7)
  (j2 h5))
def F_law1_Over_of  (l1 : Sl) (h : Heap) (Q : Heap → Prop) : Prop :=
  jn [] (fun  (h8 : Heap) =>
  Q h8) (fun (j2 : Heap → Prop) =>
  F_law1_Over.l1 l1 j2 0 h)
def F_law1_Over (l1 : Sl) (h : Heap) (Q : Heap → Prop) : Prop := F_law1_Over_of  l1 h Q
def plan76 : Plan := .s (.r [0, 2]) (.bj [] [] (.l [(2, .one (.int .i64))] [0] (.s (.s (.r [0, 2, 6]) (.c .z .z)) (.s (.b (.r [0, 2])) (.r [0, 2])))))
theorem F_law1_Over.eq  (l1 : Sl) (h : Heap) (K : Value → Heap → Prop) : F_law1_Over_of  l1 h (fun  (h : Heap) => K (.tuple #[]) h) =
    den Try.prog noFns Try.f76.ntmps plan76 (bodyOf Try.f76) (args0 0 [(.slice l1.ptr l1.len l1.cap : Value)]) h ⟨fun env h => dRes Try.prog Try.f76.results.toList env h K, fun _ _ _ => False, fun env h => dRes Try.prog Try.f76.results.toList env h K⟩ := by kernel_rfl
def E_law1_Over_of (f : Sl → Heap → (Heap → Prop) → Prop) : List Value → Heap → (Value → Heap → Prop) → Prop
  | [v0], h, K => dec1 .sl v0 fun (l1 : Sl) =>
  f l1 h (fun  (h : Heap) => K (.tuple #[]) h)
  | _, _, _ => False
abbrev E_law1_Over := E_law1_Over_of F_law1_Over
theorem E_law1_Over.right : IsRight Try.prog 76 E_law1_Over := by
  refine isRight fun vs K w hh => ?_
  match vs, hh with
  | [v0], hh =>
    unfold E_law1_Over E_law1_Over_of at hh
    replace hh := dec1_sound hh; obtain ⟨l1, rfl, hh⟩ := hh
    unfold F_law1_Over at hh
    exact calls_den noFns_right plan76 _ w K Try.func76 (by kernel_rfl) (by kernel_rfl) (Eq.mp (F_law1_Over.eq  l1 w.heap K) hh)
theorem ok76 : okFn Try.prog 76 = true := by kernel_rfl
end Go.Proofs.Ytboidjampddfoaa.V
namespace Go.Proofs.Ytboidjampddfoaa.V
open Go Go.RowKit
set_option linter.unusedVariables false
set_option maxRecDepth 100000
def F_law6_stage_told_of (f64_ : Int → Sl → Int → Sl → Heap → (Bool → Heap → Prop) → Prop) (f95_ : Option Addr → Sl → Heap → (Heap → Prop) → Prop) (t1 : Option Addr) (f2 : Int) (f3 : Sl) (ok4 : Bool) (g5 : Int) (g6 : Sl) (is7 : Bool) (h : Heap) (Q : Bool → Heap → Prop) : Prop :=
  al 63 [.int .i64 f2, .slice f3.ptr f3.len f3.cap] h fun (a8 : Addr) (h9 : Heap) =>
  al 63 [.int .i64 g5, .slice g6.ptr g6.len g6.cap] h9 fun (a10 : Addr) (h11 : Heap) =>
  jn [(11, .one .bool)] (fun (right19 : Bool) (h20 : Heap) =>
  nn t1 fun (a21 : Addr) =>
  ld [.bool] (a21.add 5) h20 fun (v22 : Bool) =>
  jn [] (fun  (h28 : Heap) =>
  Q right19 h28) (fun (j23 : Heap → Prop) =>
  brr v22
  (nn t1 fun (a24 : Addr) =>
  ld [.ptr] (a24.add 4) h20 fun (v25 : Option Addr) =>
  ld [.sl] (a8.add 1) h20 fun (v26 : Sl) =>
  f95_ v25 v26 h20 fun  (h27 : Heap) =>
  j23 h27)
  (j23 h20))) (fun (j12 : Bool → Heap → Prop) =>
  brr (ok4 == is7)
  (ld [.int .i64, .sl] a8 h11 fun (v13 : Int) (v14 : Sl) =>
  ld [.int .i64, .sl] a10 h11 fun (v15 : Int) (v16 : Sl) =>
  f64_ v13 v14 v15 v16 h11 fun (r17 : Bool) (h18 : Heap) =>
  j12 r17 h18)
  (j12 false h11))
def F_law6_stage_told (t1 : Option Addr) (f2 : Int) (f3 : Sl) (ok4 : Bool) (g5 : Int) (g6 : Sl) (is7 : Bool) (h : Heap) (Q : Bool → Heap → Prop) : Prop := F_law6_stage_told_of F_law6_same F_law1_Book_Bytes t1 f2 f3 ok4 g5 g6 is7 h Q
def plan78 : Plan := .s (.r [0, 2, 4, 6, 8]) (.s (.rj [(11, .one .bool)] [0, 6]) (.s (.s (.r [0, 6, 11, 23]) (.cj [] [11] (.d [0, 1, 3, 7, 0, 16, 63] [[0, 1, 2, 3, 4, 5, 6]] [11]) .z)) (.s (.r [10]) .z)))
theorem F_law6_stage_told.eq (f64_ : Int → Sl → Int → Sl → Heap → (Bool → Heap → Prop) → Prop) (f95_ : Option Addr → Sl → Heap → (Heap → Prop) → Prop) (t1 : Option Addr) (f2 : Int) (f3 : Sl) (ok4 : Bool) (g5 : Int) (g6 : Sl) (is7 : Bool) (h : Heap) (K : Value → Heap → Prop) : F_law6_stage_told_of f64_ f95_ t1 f2 f3 ok4 g5 g6 is7 h (fun (r0 : Bool) (h : Heap) => K (.bool r0) h) =
    den Try.prog (fn1 64 (E_law6_same_of f64_) (fn1 95 (E_law1_Book_Bytes_of f95_) noFns)) Try.f78.ntmps plan78 (bodyOf Try.f78) (args0 0 [(.pointer t1 : Value), (.agg #[.int .i64 f2, .slice f3.ptr f3.len f3.cap] : Value), (.bool ok4 : Value), (.agg #[.int .i64 g5, .slice g6.ptr g6.len g6.cap] : Value), (.bool is7 : Value)]) h ⟨fun env h => dRes Try.prog Try.f78.results.toList env h K, fun _ _ _ => False, fun env h => dRes Try.prog Try.f78.results.toList env h K⟩ := by kernel_rfl
def E_law6_stage_told_of (f : Option Addr → Int → Sl → Bool → Int → Sl → Bool → Heap → (Bool → Heap → Prop) → Prop) : List Value → Heap → (Value → Heap → Prop) → Prop
  | [v0, v1, v2, v3, v4], h, K => dec1 .ptr v0 fun (t1 : Option Addr) =>
  vAgg v1 fun cs1 => decs [.int .i64, .sl] cs1.toList fun (f2 : Int) (f3 : Sl) =>
  dec1 .bool v2 fun (ok4 : Bool) =>
  vAgg v3 fun cs3 => decs [.int .i64, .sl] cs3.toList fun (g5 : Int) (g6 : Sl) =>
  dec1 .bool v4 fun (is7 : Bool) =>
  f t1 f2 f3 ok4 g5 g6 is7 h (fun (r0 : Bool) (h : Heap) => K (.bool r0) h)
  | _, _, _ => False
abbrev E_law6_stage_told := E_law6_stage_told_of F_law6_stage_told
theorem E_law6_stage_told.right : IsRight Try.prog 78 E_law6_stage_told := by
  refine isRight fun vs K w hh => ?_
  match vs, hh with
  | [v0, v1, v2, v3, v4], hh =>
    unfold E_law6_stage_told E_law6_stage_told_of at hh
    replace hh := dec1_sound hh; obtain ⟨t1, rfl, hh⟩ := hh
    replace hh := vAgg_sound hh; obtain ⟨cs1, rfl, hh⟩ := hh
    replace hh := decs_cons hh; obtain ⟨f2, l1_0, e1_0, hh⟩ := hh
    replace hh := decs_cons hh; obtain ⟨f3, l1_1, e1_1, hh⟩ := hh
    replace hh := decs_nil hh; obtain ⟨rfl, hh⟩ := hh
    subst e1_1
    have ec1 := toArray_eq e1_0
    subst ec1
    replace hh := dec1_sound hh; obtain ⟨ok4, rfl, hh⟩ := hh
    replace hh := vAgg_sound hh; obtain ⟨cs3, rfl, hh⟩ := hh
    replace hh := decs_cons hh; obtain ⟨g5, l3_0, e3_0, hh⟩ := hh
    replace hh := decs_cons hh; obtain ⟨g6, l3_1, e3_1, hh⟩ := hh
    replace hh := decs_nil hh; obtain ⟨rfl, hh⟩ := hh
    subst e3_1
    have ec3 := toArray_eq e3_0
    subst ec3
    replace hh := dec1_sound hh; obtain ⟨is7, rfl, hh⟩ := hh
    unfold F_law6_stage_told at hh
    exact calls_den (fn1_right ok64 E_law6_same.right (fn1_right ok95 E_law1_Book_Bytes.right noFns_right)) plan78 _ w K Try.func78 (by kernel_rfl) (by kernel_rfl) (Eq.mp (F_law6_stage_told.eq F_law6_same F_law1_Book_Bytes t1 f2 f3 ok4 g5 g6 is7 w.heap K) hh)
theorem ok78 : okFn Try.prog 78 = true := by kernel_rfl
end Go.Proofs.Ytboidjampddfoaa.V
namespace Go.Proofs.Ytboidjampddfoaa.V
open Go Go.RowKit
set_option linter.unusedVariables false
set_option maxRecDepth 100000
def F_law6_stage_plays_of (f20_ : Int → Int → Heap → (Int → Heap → Prop) → Prop) (f24_ : Option Addr → Int → Sl → Heap → (Bool → Heap → Prop) → Prop) (f26_ : Option Addr → Int → Heap → (Bool → Heap → Prop) → Prop) (f27_ : Option Addr → Int → Heap → (Int → Sl → Bool → Heap → Prop) → Prop) (f29_ : Option Addr → Int → Heap → (Bool → Heap → Prop) → Prop) (f30_ : Option Addr → Heap → (Int → Heap → Prop) → Prop) (f31_ : Option Addr → Heap → (Int → Heap → Prop) → Prop) (f55_ : Option Addr → Int → Int → Heap → (Bool → Heap → Prop) → Prop) (f60_ : Option Addr → Int → Sl → Heap → (Bool → Heap → Prop) → Prop) (f61_ : Option Addr → Int → Heap → (Int → Sl → Bool → Heap → Prop) → Prop) (f62_ : Option Addr → Heap → (Int → Heap → Prop) → Prop) (f74_ : Sl → Heap → (Sl → Heap → Prop) → Prop) (f75_ : Sl → Sl → Heap → (Bool → Heap → Prop) → Prop) (f76_ : Sl → Heap → (Heap → Prop) → Prop) (f77_ : Option Addr → Int → Heap → (Int → Sl → Bool → Heap → Prop) → Prop) (f78_ : Option Addr → Int → Sl → Bool → Int → Sl → Bool → Heap → (Bool → Heap → Prop) → Prop) (f79_ : Option Addr → Int → Heap → (Int → Sl → Bool → Heap → Prop) → Prop) (f80_ : Option Addr → Int → Heap → (Bool → Heap → Prop) → Prop) (f81_ : Option Addr → Int → Heap → (Bool → Heap → Prop) → Prop) (f82_ : Option Addr → Heap → (Int → Heap → Prop) → Prop) (t1 : Option Addr) (o2 o3 o4 o5 : Int) (o6 : Sl) (h : Heap) (Q : Bool → Heap → Prop) : Prop :=
  al 123 [.int .i64 o2, .int .i64 o3, .int .i64 o4, .int .i64 o5, .slice o6.ptr o6.len o6.cap] h fun (a7 : Addr) (h8 : Heap) =>
  ld [.int .i64] (a7.add 1) h8 fun (v9 : Int) =>
  f20_ v9 2 h8 fun (r10 : Int) (h11 : Heap) =>
  ld [.int .i64] (a7.add 0) h11 fun (v12 : Int) =>
  brr (v12 == 6)
  (ld [.int .i64] (a7.add 2) h11 fun (v13 : Int) =>
  f55_ t1 r10 v13 h11 fun (r14 : Bool) (h15 : Heap) =>
  Q r14 h15)
  (nn t1 fun (a16 : Addr) =>
  ixA 1 (a16.add 0) 2 r10 fun (a17 : Addr) =>
  ld [.ptr] a17 h11 fun (v18 : Option Addr) =>
  nn t1 fun (a19 : Addr) =>
  ixA 1 (a19.add 2) 2 r10 fun (a20 : Addr) =>
  ld [.ptr] a20 h11 fun (v21 : Option Addr) =>
  brr v21.isNone
  (Q true h11)
  (ld [.int .i64] (a7.add 0) h11 fun (v22 : Int) =>
  jn [(8, .one .bool)] (fun (ok139 : Bool) (h140 : Heap) =>
  jn [(4, .one .bool)] (fun (x151 : Bool) (h152 : Heap) =>
  Q x151 h152) (fun (j141 : Bool → Heap → Prop) =>
  brr ok139
  (nn v18 fun (a142 : Addr) =>
  f30_ (some (a142.add 0)) h140 fun (r143 : Int) (h144 : Heap) =>
  f62_ v21 h144 fun (r145 : Int) (h146 : Heap) =>
  brr (r143 == r145)
  (f31_ v18 h146 fun (r147 : Int) (h148 : Heap) =>
  f82_ v21 h148 fun (r149 : Int) (h150 : Heap) =>
  j141 (r147 == r149) h150)
  (j141 false h146))
  (j141 false h140))) (fun (j23 : Bool → Heap → Prop) =>
  brr (v22 == 1)
  (ld [.sl] (a7.add 4) h11 fun (v24 : Sl) =>
  f74_ v24 h11 fun (r25 : Sl) (h26 : Heap) =>
  jn [(8, .one .bool)] (fun (ok38 : Bool) (h39 : Heap) =>
  f76_ r25 h39 fun  (h40 : Heap) =>
  j23 ok38 h40) (fun (j27 : Bool → Heap → Prop) =>
  ld [.int .i64] (a7.add 3) h26 fun (v28 : Int) =>
  ld [.int .i64] (a7.add 3) h26 fun (v29 : Int) =>
  ld [.sl] (a7.add 4) h26 fun (v30 : Sl) =>
  f24_ v18 v28 r25 h26 fun (r31 : Bool) (h32 : Heap) =>
  cellsAre h32 (a7.add 3) [.int .i64 v29] ∧
  cellsAre h32 (a7.add 4) [.slice v30.ptr v30.len v30.cap] ∧
  f60_ v21 v29 v30 h32 fun (r33 : Bool) (h34 : Heap) =>
  brr (r31 == r33)
  (ld [.sl] (a7.add 4) h34 fun (v35 : Sl) =>
  f75_ r25 v35 h34 fun (r36 : Bool) (h37 : Heap) =>
  j27 r36 h37)
  (j27 false h34)))
  (jn [(8, .one .bool)] (fun (ok137 : Bool) (h138 : Heap) =>
  j23 ok137 h138) (fun (j41 : Bool → Heap → Prop) =>
  brr (v22 == 2)
  (jn [(10, .one .addr), (11, .one .bool)] (fun (f61 : Addr) (a62 : Bool) (h63 : Heap) =>
  ld [.int .i64] (a7.add 2) h63 fun (v64 : Int) =>
  f77_ v21 v64 h63 fun (r65 : Int) (r66 : Sl) (r67 : Bool) (h68 : Heap) =>
  al 63 [.int .i64 0, .slice none 0 0] h68 fun (a69 : Addr) (h70 : Heap) =>
  st a69 [.int .i64 r65, .slice r66.ptr r66.len r66.cap] h70 fun (h71 : Heap) =>
  ld [.int .i64, .sl] f61 h71 fun (v72 : Int) (v73 : Sl) =>
  ld [.int .i64, .sl] a69 h71 fun (v74 : Int) (v75 : Sl) =>
  f78_ t1 v72 v73 a62 v74 v75 r67 h71 fun (r76 : Bool) (h77 : Heap) =>
  j41 r76 h77) (fun (j42 : Addr → Bool → Heap → Prop) =>
  (nn v18 fun (a43 : Addr) =>
  ld [.int .i64] (a7.add 2) h11 fun (v44 : Int) =>
  f61_ (some (a43.add 0)) v44 h11 fun (r45 : Int) (r46 : Sl) (r47 : Bool) (h48 : Heap) =>
  al 63 [.int .i64 0, .slice none 0 0] h48 fun (a49 : Addr) (h50 : Heap) =>
  cellsAre h50 (a7.add 2) [.int .i64 v44] ∧
  st a49 [.int .i64 r45, .slice r46.ptr r46.len r46.cap] h50 fun (h51 : Heap) =>
  j42 a49 r47 h51) ∧
  (nn v18 fun (a52 : Addr) =>
  ld [.int .i64] (a7.add 2) h11 fun (v53 : Int) =>
  al 63 [.int .i64 0, .slice none 0 0] h11 fun (a54 : Addr) (h55 : Heap) =>
  cellsAre h55 (a7.add 2) [.int .i64 v53] ∧
  f61_ (some (a52.add 0)) v53 h55 fun (r56 : Int) (r57 : Sl) (r58 : Bool) (h59 : Heap) =>
  st a54 [.int .i64 r56, .slice r57.ptr r57.len r57.cap] h59 fun (h60 : Heap) =>
  j42 a54 r58 h60)))
  (jn [(8, .one .bool)] (fun (ok135 : Bool) (h136 : Heap) =>
  j41 ok135 h136) (fun (j78 : Bool → Heap → Prop) =>
  brr (v22 == 3)
  (jn [(14, .one .addr), (15, .one .bool)] (fun (f98 : Addr) (a99 : Bool) (h100 : Heap) =>
  ld [.int .i64] (a7.add 2) h100 fun (v101 : Int) =>
  f79_ v21 v101 h100 fun (r102 : Int) (r103 : Sl) (r104 : Bool) (h105 : Heap) =>
  al 63 [.int .i64 0, .slice none 0 0] h105 fun (a106 : Addr) (h107 : Heap) =>
  st a106 [.int .i64 r102, .slice r103.ptr r103.len r103.cap] h107 fun (h108 : Heap) =>
  ld [.int .i64, .sl] f98 h108 fun (v109 : Int) (v110 : Sl) =>
  ld [.int .i64, .sl] a106 h108 fun (v111 : Int) (v112 : Sl) =>
  f78_ t1 v109 v110 a99 v111 v112 r104 h108 fun (r113 : Bool) (h114 : Heap) =>
  j78 r113 h114) (fun (j79 : Addr → Bool → Heap → Prop) =>
  (nn v18 fun (a80 : Addr) =>
  ld [.int .i64] (a7.add 2) h11 fun (v81 : Int) =>
  f27_ (some (a80.add 0)) v81 h11 fun (r82 : Int) (r83 : Sl) (r84 : Bool) (h85 : Heap) =>
  al 63 [.int .i64 0, .slice none 0 0] h85 fun (a86 : Addr) (h87 : Heap) =>
  cellsAre h87 (a7.add 2) [.int .i64 v81] ∧
  st a86 [.int .i64 r82, .slice r83.ptr r83.len r83.cap] h87 fun (h88 : Heap) =>
  j79 a86 r84 h88) ∧
  (nn v18 fun (a89 : Addr) =>
  ld [.int .i64] (a7.add 2) h11 fun (v90 : Int) =>
  al 63 [.int .i64 0, .slice none 0 0] h11 fun (a91 : Addr) (h92 : Heap) =>
  cellsAre h92 (a7.add 2) [.int .i64 v90] ∧
  f27_ (some (a89.add 0)) v90 h92 fun (r93 : Int) (r94 : Sl) (r95 : Bool) (h96 : Heap) =>
  st a91 [.int .i64 r93, .slice r94.ptr r94.len r94.cap] h96 fun (h97 : Heap) =>
  j79 a91 r95 h97)))
  (jn [(8, .one .bool)] (fun (ok133 : Bool) (h134 : Heap) =>
  j78 ok133 h134) (fun (j115 : Bool → Heap → Prop) =>
  brr (v22 == 4)
  (nn v18 fun (a116 : Addr) =>
  ld [.int .i64] (a7.add 2) h11 fun (v117 : Int) =>
  ld [.int .i64] (a7.add 2) h11 fun (v118 : Int) =>
  f26_ (some (a116.add 0)) v117 h11 fun (r119 : Bool) (h120 : Heap) =>
  cellsAre h120 (a7.add 2) [.int .i64 v118] ∧
  f80_ v21 v118 h120 fun (r121 : Bool) (h122 : Heap) =>
  j115 (r119 == r121) h122)
  (jn [(8, .one .bool)] (fun (ok131 : Bool) (h132 : Heap) =>
  j115 ok131 h132) (fun (j123 : Bool → Heap → Prop) =>
  brr (v22 == 5)
  (nn v18 fun (a124 : Addr) =>
  ld [.int .i64] (a7.add 2) h11 fun (v125 : Int) =>
  ld [.int .i64] (a7.add 2) h11 fun (v126 : Int) =>
  f29_ (some (a124.add 0)) v125 h11 fun (r127 : Bool) (h128 : Heap) =>
  cellsAre h128 (a7.add 2) [.int .i64 v126] ∧
  f81_ v21 v126 h128 fun (r129 : Bool) (h130 : Heap) =>
  j123 (r127 == r129) h130)
  (j123 true h11))))))))))))
def F_law6_stage_plays (t1 : Option Addr) (o2 o3 o4 o5 : Int) (o6 : Sl) (h : Heap) (Q : Bool → Heap → Prop) : Prop := F_law6_stage_plays_of F_law6_into F_net_Net_Send F_net_row_Drop F_net_row_Take F_net_row_Double F_net_row_Len F_net_Net_Lost F_law6_stage_fresh F_ref6_Net_Send F_net_row_Look F_ref6_Net_Len F_law1_Lend F_law1_Intact F_law1_Over F_ref6_Net_Look F_law6_stage_told F_ref6_Net_Take F_ref6_Net_Drop F_ref6_Net_Double F_ref6_Net_Lost t1 o2 o3 o4 o5 o6 h Q
def plan56 : Plan := .s (.r [0, 3]) (.s (.r [0, 3, 5]) (.s (.s (.r [0, 3, 5, 23]) (.c (.s (.r [4]) .z) .z)) (.s (.r [0, 3, 5, 6]) (.s (.r [0, 3, 6, 7]) (.s (.s (.r [0, 3, 6, 7, 42]) (.c (.s (.r [4]) .z) .z)) (.s (.r [0, 3, 6, 7, 8]) (.s (.s (.r [0, 3, 6, 7, 8, 44]) (.b (.s (.r [0, 3, 6, 7, 8, 44, 45]) (.cj [(8, .one .bool)] [6, 7] (.s (.r [3, 6, 7, 9]) (.s (.dj [0, 0, 2, 0, 15, 0, 0, 64, 0, 256, 1023, 2047, 4095, 8191, 8191, 24575, 65535, 131071, 262143] [[0, 1, 2, 3, 5, 6, 7, 8, 9, 4, 10, 11, 12, 13, 14, 15, 16, 17, 18]] [(8, .one .bool)] [6, 7, 9]) (.r [6, 7, 8]))) (.s (.r [0, 3, 6, 7, 8, 44, 70]) (.cj [(8, .one .bool)] [6, 7] (.s (.dj [0, 1, 3, 0, 8, 31, 63, 127, 127, 0, 767, 2047] [[0, 1, 2, 3, 4, 5, 6, 7, 8, 9, 10, 11], [0, 1, 2, 3, 4, 9, 5, 6, 7, 8, 10, 11]] [(10, .one .addr), (11, .one .bool)] [0, 3, 6, 7]) (.s (.r [0, 6, 7, 10, 11, 12, 13]) (.r [6, 7, 8]))) (.s (.r [0, 3, 6, 7, 8, 44, 94]) (.cj [(8, .one .bool)] [6, 7] (.s (.dj [0, 1, 3, 0, 8, 31, 63, 127, 127, 0, 767, 2047] [[0, 1, 2, 3, 4, 5, 6, 7, 8, 9, 10, 11], [0, 1, 2, 3, 4, 9, 5, 6, 7, 8, 10, 11]] [(14, .one .addr), (15, .one .bool)] [0, 3, 6, 7]) (.s (.r [0, 6, 7, 14, 15, 16, 17]) (.r [6, 7, 8]))) (.s (.r [3, 6, 7, 8, 44, 118]) (.cj [(8, .one .bool)] [6, 7] (.d [0, 1, 3, 0, 8, 31, 0, 0, 128, 511, 1023, 2047] [[0, 1, 2, 3, 4, 6, 7, 8, 5, 9, 10, 11]] [6, 7, 8]) (.s (.r [3, 6, 7, 8, 131]) (.cj [(8, .one .bool)] [6, 7] (.d [0, 1, 3, 0, 8, 31, 0, 0, 128, 511, 1023, 2047] [[0, 1, 2, 3, 4, 6, 7, 8, 5, 9, 10, 11]] [6, 7, 8]) .z)))))))))))) (.s (.rj [(4, .one .bool)] []) .z))))))))
theorem F_law6_stage_plays.eq (f20_ : Int → Int → Heap → (Int → Heap → Prop) → Prop) (f24_ : Option Addr → Int → Sl → Heap → (Bool → Heap → Prop) → Prop) (f26_ : Option Addr → Int → Heap → (Bool → Heap → Prop) → Prop) (f27_ : Option Addr → Int → Heap → (Int → Sl → Bool → Heap → Prop) → Prop) (f29_ : Option Addr → Int → Heap → (Bool → Heap → Prop) → Prop) (f30_ : Option Addr → Heap → (Int → Heap → Prop) → Prop) (f31_ : Option Addr → Heap → (Int → Heap → Prop) → Prop) (f55_ : Option Addr → Int → Int → Heap → (Bool → Heap → Prop) → Prop) (f60_ : Option Addr → Int → Sl → Heap → (Bool → Heap → Prop) → Prop) (f61_ : Option Addr → Int → Heap → (Int → Sl → Bool → Heap → Prop) → Prop) (f62_ : Option Addr → Heap → (Int → Heap → Prop) → Prop) (f74_ : Sl → Heap → (Sl → Heap → Prop) → Prop) (f75_ : Sl → Sl → Heap → (Bool → Heap → Prop) → Prop) (f76_ : Sl → Heap → (Heap → Prop) → Prop) (f77_ : Option Addr → Int → Heap → (Int → Sl → Bool → Heap → Prop) → Prop) (f78_ : Option Addr → Int → Sl → Bool → Int → Sl → Bool → Heap → (Bool → Heap → Prop) → Prop) (f79_ : Option Addr → Int → Heap → (Int → Sl → Bool → Heap → Prop) → Prop) (f80_ : Option Addr → Int → Heap → (Bool → Heap → Prop) → Prop) (f81_ : Option Addr → Int → Heap → (Bool → Heap → Prop) → Prop) (f82_ : Option Addr → Heap → (Int → Heap → Prop) → Prop) (t1 : Option Addr) (o2 o3 o4 o5 : Int) (o6 : Sl) (h : Heap) (K : Value → Heap → Prop) : F_law6_stage_plays_of f20_ f24_ f26_ f27_ f29_ f30_ f31_ f55_ f60_ f61_ f62_ f74_ f75_ f76_ f77_ f78_ f79_ f80_ f81_ f82_ t1 o2 o3 o4 o5 o6 h (fun (r0 : Bool) (h : Heap) => K (.bool r0) h) =
    den Try.prog (fn1 20 (E_law6_into_of f20_) (fn1 24 (E_net_Net_Send_of f24_) (fn1 26 (E_net_row_Drop_of f26_) (fn1 27 (E_net_row_Take_of f27_) (fn1 29 (E_net_row_Double_of f29_) (fn1 30 (E_net_row_Len_of f30_) (fn1 31 (E_net_Net_Lost_of f31_) (fn1 55 (E_law6_stage_fresh_of f55_) (fn1 60 (E_ref6_Net_Send_of f60_) (fn1 61 (E_net_row_Look_of f61_) (fn1 62 (E_ref6_Net_Len_of f62_) (fn1 74 (E_law1_Lend_of f74_) (fn1 75 (E_law1_Intact_of f75_) (fn1 76 (E_law1_Over_of f76_) (fn1 77 (E_ref6_Net_Look_of f77_) (fn1 78 (E_law6_stage_told_of f78_) (fn1 79 (E_ref6_Net_Take_of f79_) (fn1 80 (E_ref6_Net_Drop_of f80_) (fn1 81 (E_ref6_Net_Double_of f81_) (fn1 82 (E_ref6_Net_Lost_of f82_) noFns)))))))))))))))))))) Try.f56.ntmps plan56 (bodyOf Try.f56) (args0 0 [(.pointer t1 : Value), (.agg #[.int .i64 o2, .int .i64 o3, .int .i64 o4, .int .i64 o5, .slice o6.ptr o6.len o6.cap] : Value)]) h ⟨fun env h => dRes Try.prog Try.f56.results.toList env h K, fun _ _ _ => False, fun env h => dRes Try.prog Try.f56.results.toList env h K⟩ := by kernel_rfl
def E_law6_stage_plays_of (f : Option Addr → Int → Int → Int → Int → Sl → Heap → (Bool → Heap → Prop) → Prop) : List Value → Heap → (Value → Heap → Prop) → Prop
  | [v0, v1], h, K => dec1 .ptr v0 fun (t1 : Option Addr) =>
  vAgg v1 fun cs1 => decs [.int .i64, .int .i64, .int .i64, .int .i64, .sl] cs1.toList fun (o2 o3 o4 o5 : Int) (o6 : Sl) =>
  f t1 o2 o3 o4 o5 o6 h (fun (r0 : Bool) (h : Heap) => K (.bool r0) h)
  | _, _, _ => False
abbrev E_law6_stage_plays := E_law6_stage_plays_of F_law6_stage_plays
theorem E_law6_stage_plays.right : IsRight Try.prog 56 E_law6_stage_plays := by
  refine isRight fun vs K w hh => ?_
  match vs, hh with
  | [v0, v1], hh =>
    unfold E_law6_stage_plays E_law6_stage_plays_of at hh
    replace hh := dec1_sound hh; obtain ⟨t1, rfl, hh⟩ := hh
    replace hh := vAgg_sound hh; obtain ⟨cs1, rfl, hh⟩ := hh
    replace hh := decs_cons hh; obtain ⟨o2, l1_0, e1_0, hh⟩ := hh
    replace hh := decs_cons hh; obtain ⟨o3, l1_1, e1_1, hh⟩ := hh
    replace hh := decs_cons hh; obtain ⟨o4, l1_2, e1_2, hh⟩ := hh
    replace hh := decs_cons hh; obtain ⟨o5, l1_3, e1_3, hh⟩ := hh
    replace hh := decs_cons hh; obtain ⟨o6, l1_4, e1_4, hh⟩ := hh
    replace hh := decs_nil hh; obtain ⟨rfl, hh⟩ := hh
    subst e1_4
    subst e1_3
    subst e1_2
    subst e1_1
    have ec1 := toArray_eq e1_0
    subst ec1
    unfold F_law6_stage_plays at hh
    exact calls_den (fn1_right ok20 E_law6_into.right (fn1_right ok24 E_net_Net_Send.right (fn1_right ok26 E_net_row_Drop.right (fn1_right ok27 E_net_row_Take.right (fn1_right ok29 E_net_row_Double.right (fn1_right ok30 E_net_row_Len.right (fn1_right ok31 E_net_Net_Lost.right (fn1_right ok55 E_law6_stage_fresh.right (fn1_right ok60 E_ref6_Net_Send.right (fn1_right ok61 E_net_row_Look.right (fn1_right ok62 E_ref6_Net_Len.right (fn1_right ok74 E_law1_Lend.right (fn1_right ok75 E_law1_Intact.right (fn1_right ok76 E_law1_Over.right (fn1_right ok77 E_ref6_Net_Look.right (fn1_right ok78 E_law6_stage_told.right (fn1_right ok79 E_ref6_Net_Take.right (fn1_right ok80 E_ref6_Net_Drop.right (fn1_right ok81 E_ref6_Net_Double.right (fn1_right ok82 E_ref6_Net_Lost.right noFns_right)))))))))))))))))))) plan56 _ w K Try.func56 (by kernel_rfl) (by kernel_rfl) (Eq.mp (F_law6_stage_plays.eq F_law6_into F_net_Net_Send F_net_row_Drop F_net_row_Take F_net_row_Double F_net_row_Len F_net_Net_Lost F_law6_stage_fresh F_ref6_Net_Send F_net_row_Look F_ref6_Net_Len F_law1_Lend F_law1_Intact F_law1_Over F_ref6_Net_Look F_law6_stage_told F_ref6_Net_Take F_ref6_Net_Drop F_ref6_Net_Double F_ref6_Net_Lost t1 o2 o3 o4 o5 o6 w.heap K) hh)
theorem ok56 : okFn Try.prog 56 = true := by kernel_rfl
end Go.Proofs.Ytboidjampddfoaa.V
namespace Go.Proofs.Ytboidjampddfoaa.V
open Go Go.RowKit
set_option linter.unusedVariables false
set_option maxRecDepth 100000
def F_law6_stage_all.l1 (f61_ : Option Addr → Int → Heap → (Int → Sl → Bool → Heap → Prop) → Prop) (f62_ : Option Addr → Heap → (Int → Heap → Prop) → Prop) (f64_ : Int → Sl → Int → Sl → Heap → (Bool → Heap → Prop) → Prop) (f77_ : Option Addr → Int → Heap → (Int → Sl → Bool → Heap → Prop) → Prop) (t1 : Option Addr) (k2 : Int) (Q : Bool → Heap → Prop) (v5 : Option Addr) (j6 : Heap → Prop) : Int → Heap → Prop :=
  wl [(6, .one (.int .i64))] (fun (next7 : Int → Heap → Prop) (i8 : Int) (h9 : Heap) =>
  f62_ v5 h9 fun (r10 : Int) (h11 : Heap) =>
  brr (decide (i8 ≤ r10))
  (nn t1 fun (a12 : Addr) =>
  ixA 1 (a12.add 0) 2 k2 fun (a13 : Addr) =>
  ld [.ptr] a13 h11 fun (v14 : Option Addr) =>
  nn v14 fun (a15 : Addr) =>
  f61_ (some (a15.add 0)) i8 h11 fun (r16 : Int) (r17 : Sl) (r18 : Bool) (h19 : Heap) =>
  al 63 [.int .i64 0, .slice none 0 0] h19 fun (a20 : Addr) (h21 : Heap) =>
  st a20 [.int .i64 r16, .slice r17.ptr r17.len r17.cap] h21 fun (h22 : Heap) =>
  f77_ v5 i8 h22 fun (r23 : Int) (r24 : Sl) (r25 : Bool) (h26 : Heap) =>
  al 63 [.int .i64 0, .slice none 0 0] h26 fun (a27 : Addr) (h28 : Heap) =>
  st a27 [.int .i64 r23, .slice r24.ptr r24.len r24.cap] h28 fun (h29 : Heap) =>
  jn [(52, .one .bool)] (fun (x37 : Bool) (h38 : Heap) =>
  brr x37
  (Q false h38)
  (next7 (IntKind.i64.wrap (i8 + 1)) h38)) (fun (j30 : Bool → Heap → Prop) =>
  brr (!(r18 == r25))
  (j30 true h29)
  (ld [.int .i64, .sl] a20 h29 fun (v31 : Int) (v32 : Sl) =>
  ld [.int .i64, .sl] a27 h29 fun (v33 : Int) (v34 : Sl) =>
  f64_ v31 v32 v33 v34 h29 fun (r35 : Bool) (h36 : Heap) =>
  j30 (!r35) h36)))
  (j6 h11))
def F_law6_stage_all_of (f30_ : Option Addr → Heap → (Int → Heap → Prop) → Prop) (f31_ : Option Addr → Heap → (Int → Heap → Prop) → Prop) (f61_ : Option Addr → Int → Heap → (Int → Sl → Bool → Heap → Prop) → Prop) (f62_ : Option Addr → Heap → (Int → Heap → Prop) → Prop) (f64_ : Int → Sl → Int → Sl → Heap → (Bool → Heap → Prop) → Prop) (f77_ : Option Addr → Int → Heap → (Int → Sl → Bool → Heap → Prop) → Prop) (f82_ : Option Addr → Heap → (Int → Heap → Prop) → Prop) (t1 : Option Addr) (k2 : Int) (h : Heap) (Q : Bool → Heap → Prop) : Prop :=
  nn t1 fun (a3 : Addr) =>
  ixA 1 (a3.add 2) 2 k2 fun (a4 : Addr) =>
  ld [.ptr] a4 h fun (v5 : Option Addr) =>
  brr v5.isNone
  (Q true h)
  (jn [] (fun  (h39 : Heap) =>
  jn [(4, .one .bool)] (fun (x56 : Bool) (h57 : Heap) =>
  Q x56 h57) (fun (j40 : Bool → Heap → Prop) =>
  nn t1 fun (a41 : Addr) =>
  ixA 1 (a41.add 0) 2 k2 fun (a42 : Addr) =>
  ld [.ptr] a42 h39 fun (v43 : Option Addr) =>
  nn v43 fun (a44 : Addr) =>
  f30_ (some (a44.add 0)) h39 fun (r45 : Int) (h46 : Heap) =>
  f62_ v5 h46 fun (r47 : Int) (h48 : Heap) =>
  brr (r45 == r47)
  (nn t1 fun (a49 : Addr) =>
  ixA 1 (a49.add 0) 2 k2 fun (a50 : Addr) =>
  ld [.ptr] a50 h48 fun (v51 : Option Addr) =>
  f31_ v51 h48 fun (r52 : Int) (h53 : Heap) =>
  f82_ v5 h53 fun (r54 : Int) (h55 : Heap) =>
  j40 (r52 == r54) h55)
  (j40 false h48))) (fun (j6 : Heap → Prop) =>
  F_law6_stage_all.l1 f61_ f62_ f64_ f77_ t1 k2 Q v5 j6 (-1) h))
def F_law6_stage_all (t1 : Option Addr) (k2 : Int) (h : Heap) (Q : Bool → Heap → Prop) : Prop := F_law6_stage_all_of F_net_row_Len F_net_Net_Lost F_net_row_Look F_ref6_Net_Len F_law6_same F_ref6_Net_Look F_ref6_Net_Lost t1 k2 h Q
def plan58 : Plan := .s (.r [0, 1]) (.s (.r [0, 1, 5]) (.s (.s (.r [0, 1, 5, 18]) (.c (.s (.r [4]) .z) .z)) (.s (.s (.r [0, 1, 5, 6]) (.bj [] [0, 1, 5] (.l [(6, .one (.int .i64))] [0, 1, 5] (.s (.s (.r [0, 1, 5, 6, 22]) (.c .z .z)) (.s (.b (.s (.r [0, 1, 5, 6, 7, 8]) (.s (.r [0, 1, 5, 6, 7, 8, 9, 10]) (.s (.rj [(52, .one .bool)] [0, 1, 5, 6]) (.c (.s (.r [4]) .z) .z))))) (.r [0, 1, 5, 6])))))) (.s (.rj [(4, .one .bool)] []) .z))))
theorem F_law6_stage_all.eq (f30_ : Option Addr → Heap → (Int → Heap → Prop) → Prop) (f31_ : Option Addr → Heap → (Int → Heap → Prop) → Prop) (f61_ : Option Addr → Int → Heap → (Int → Sl → Bool → Heap → Prop) → Prop) (f62_ : Option Addr → Heap → (Int → Heap → Prop) → Prop) (f64_ : Int → Sl → Int → Sl → Heap → (Bool → Heap → Prop) → Prop) (f77_ : Option Addr → Int → Heap → (Int → Sl → Bool → Heap → Prop) → Prop) (f82_ : Option Addr → Heap → (Int → Heap → Prop) → Prop) (t1 : Option Addr) (k2 : Int) (h : Heap) (K : Value → Heap → Prop) : F_law6_stage_all_of f30_ f31_ f61_ f62_ f64_ f77_ f82_ t1 k2 h (fun (r0 : Bool) (h : Heap) => K (.bool r0) h) =
    den Try.prog (fn1 30 (E_net_row_Len_of f30_) (fn1 31 (E_net_Net_Lost_of f31_) (fn1 61 (E_net_row_Look_of f61_) (fn1 62 (E_ref6_Net_Len_of f62_) (fn1 64 (E_law6_same_of f64_) (fn1 77 (E_ref6_Net_Look_of f77_) (fn1 82 (E_ref6_Net_Lost_of f82_) noFns))))))) Try.f58.ntmps plan58 (bodyOf Try.f58) (args0 0 [(.pointer t1 : Value), (.int .i64 k2 : Value)]) h ⟨fun env h => dRes Try.prog Try.f58.results.toList env h K, fun _ _ _ => False, fun env h => dRes Try.prog Try.f58.results.toList env h K⟩ := by kernel_rfl
def E_law6_stage_all_of (f : Option Addr → Int → Heap → (Bool → Heap → Prop) → Prop) : List Value → Heap → (Value → Heap → Prop) → Prop
  | [v0, v1], h, K => dec1 .ptr v0 fun (t1 : Option Addr) =>
  dec1 (.int .i64) v1 fun (k2 : Int) =>
  f t1 k2 h (fun (r0 : Bool) (h : Heap) => K (.bool r0) h)
  | _, _, _ => False
abbrev E_law6_stage_all := E_law6_stage_all_of F_law6_stage_all
theorem E_law6_stage_all.right : IsRight Try.prog 58 E_law6_stage_all := by
  refine isRight fun vs K w hh => ?_
  match vs, hh with
  | [v0, v1], hh =>
    unfold E_law6_stage_all E_law6_stage_all_of at hh
    replace hh := dec1_sound hh; obtain ⟨t1, rfl, hh⟩ := hh
    replace hh := dec1_sound hh; obtain ⟨k2, rfl, hh⟩ := hh
    unfold F_law6_stage_all at hh
    exact calls_den (fn1_right ok30 E_net_row_Len.right (fn1_right ok31 E_net_Net_Lost.right (fn1_right ok61 E_net_row_Look.right (fn1_right ok62 E_ref6_Net_Len.right (fn1_right ok64 E_law6_same.right (fn1_right ok77 E_ref6_Net_Look.right (fn1_right ok82 E_ref6_Net_Lost.right noFns_right))))))) plan58 _ w K Try.func58 (by kernel_rfl) (by kernel_rfl) (Eq.mp (F_law6_stage_all.eq F_net_row_Len F_net_Net_Lost F_net_row_Look F_ref6_Net_Len F_law6_same F_ref6_Net_Look F_ref6_Net_Lost t1 k2 w.heap K) hh)
theorem ok58 : okFn Try.prog 58 = true := by kernel_rfl
end Go.Proofs.Ytboidjampddfoaa.V
