import Derived.Test.YtompmkmbppcadaaDoorZCodeStops1
import Derived.Test.YtompmkmbppcadaaDoorProg
namespace Go.Proofs.YtompmkmbppcadaaDoor.V
open Go Go.RowKit
set_option linter.unusedVariables false
set_option maxRecDepth 100000
/-! tally/tallylaw1.CodeStops -/
def F_law1_CodeStops.l1 (f20_ : Option Addr → Heap → (Int → Heap → Prop) → Prop) (v7 : Sl) (r8 : Option Addr) (j10 : Heap → Prop) : Int → Heap → Prop :=
  wl [(5, .one (.int .i64))] (fun (next11 : Int → Heap → Prop) (i12 : Int) (h13 : Heap) =>
  (8 : Int) ≠ 0 ∧
  brr (decide (i12 < (IntKind.i64.wrap ((IntKind.i64.wrap (((v7.len : Nat) : Int).tdiv 8)) + 1))))
  (f20_ r8 h13 fun (r14 : Int) (h15 : Heap) =>
  next11 (IntKind.i64.wrap (i12 + 1)) h15)
  (j10 h13))
def F_law1_CodeStops.l2 (f12_ : Option Addr → Heap → (Int → Heap → Prop) → Prop) (f15_ : Option Addr → Heap → (Int → Heap → Prop) → Prop) (f16_ : Int → Heap → (Int → Heap → Prop) → Prop) (f17_ : Option Addr → Heap → (Int → Heap → Prop) → Prop) (f18_ : Option Addr → Heap → (Int → Heap → Prop) → Prop) (f21_ : Option Addr → Int → Int → Int → Int → Sl → Heap → (Bool → Heap → Prop) → Prop) (Q : Bool → Heap → Prop) (a4 : Addr) (v7 : Sl) (r8 : Option Addr) (j26 : Heap → Prop) : Int → Heap → Prop :=
  wl [(6, .one (.int .i64))] (fun (next27 : Int → Heap → Prop) (i28 : Int) (h29 : Heap) =>
  jn [(45, .one .bool)] (fun (x32 : Bool) (h33 : Heap) =>
  brr x32
  (jn [(84, .one .bool)] (fun (x56 : Bool) (h57 : Heap) =>
  brr x56
  (Q false h57)
  (next27 (IntKind.i64.wrap (i28 + 1)) h57)) (fun (j34 : Bool → Heap → Prop) =>
  ld [.sl] (a4.add 2) h33 fun (v35 : Sl) =>
  ixS 5 v35 i28 fun (a36 : Addr) =>
  ld [.int .i64, .int .i64, .int .i64, .int .u64, .sl] a36 h33 fun (v37 : Int) (v38 : Int) (v39 : Int) (v40 : Int) (v41 : Sl) =>
  f21_ r8 v37 v38 v39 v40 v41 h33 fun (r42 : Bool) (h43 : Heap) =>
  brr (!r42)
  (j34 true h43)
  (f17_ r8 h43 fun (r44 : Int) (h45 : Heap) =>
  f16_ r44 h45 fun (r46 : Int) (h47 : Heap) =>
  brr (r46 != 10)
  (j34 true h47)
  (f18_ r8 h47 fun (r48 : Int) (h49 : Heap) =>
  f16_ r48 h49 fun (r50 : Int) (h51 : Heap) =>
  brr (r50 != 10)
  (j34 true h51)
  (f15_ r8 h51 fun (r52 : Int) (h53 : Heap) =>
  (8 : Int) ≠ 0 ∧
  brr (r52 != (IntKind.i64.wrap ((IntKind.i64.wrap (((v7.len : Nat) : Int).tdiv 8)) * 8)))
  (j34 true h53)
  (f12_ r8 h53 fun (r54 : Int) (h55 : Heap) =>
  (8 : Int) ≠ 0 ∧
  j34 (r54 != (((v7.len : Nat) : Int).tmod 8)) h55))))))
  (j26 h33)) (fun (j30 : Bool → Heap → Prop) =>
  ld [.sl] (a4.add 2) h29 fun (v31 : Sl) =>
  brr (decide (i28 < ((v31.len : Nat) : Int)))
  (j30 (decide (i28 < 400)) h29)
  (j30 false h29)))
def F_law1_CodeStops_of (f9_ : Sl → Heap → (Option Addr → Heap → Prop) → Prop) (f12_ : Option Addr → Heap → (Int → Heap → Prop) → Prop) (f15_ : Option Addr → Heap → (Int → Heap → Prop) → Prop) (f16_ : Int → Heap → (Int → Heap → Prop) → Prop) (f17_ : Option Addr → Heap → (Int → Heap → Prop) → Prop) (f18_ : Option Addr → Heap → (Int → Heap → Prop) → Prop) (f20_ : Option Addr → Heap → (Int → Heap → Prop) → Prop) (f21_ : Option Addr → Int → Int → Int → Int → Sl → Heap → (Bool → Heap → Prop) → Prop) (script1 : Sl) (script2 : Sl) (script3 : Sl) (h : Heap) (Q : Bool → Heap → Prop) : Prop :=
  al 26 [.slice script1.ptr script1.len script1.cap, .slice script2.ptr script2.len script2.cap, .slice script3.ptr script3.len script3.cap] h fun (a4 : Addr) (h5 : Heap) =>
  ixA 1 (a4.add 0) 2 0 fun (a6 : Addr) =>
  ld [.sl] a6 h5 fun (v7 : Sl) =>
  f9_ v7 h5 fun (r8 : Option Addr) (h9 : Heap) =>
  brr r8.isNone
  (Q false h9)
  (jn [] (fun  (h16 : Heap) =>
  jn [(36, .one .bool)] (fun (x24 : Bool) (h25 : Heap) =>
  brr x24
  (Q false h25)
  (jn [] (fun  (h58 : Heap) =>
  Q true h58) (fun (j26 : Heap → Prop) =>
  F_law1_CodeStops.l2 f12_ f15_ f16_ f17_ f18_ f21_ Q a4 v7 r8 j26 0 h25))) (fun (j17 : Bool → Heap → Prop) =>
  f17_ r8 h16 fun (r18 : Int) (h19 : Heap) =>
  f16_ r18 h19 fun (r20 : Int) (h21 : Heap) =>
  brr (r20 != 10)
  (j17 true h21)
  (f15_ r8 h21 fun (r22 : Int) (h23 : Heap) =>
  (8 : Int) ≠ 0 ∧
  j17 (r22 != (IntKind.i64.wrap ((IntKind.i64.wrap (((v7.len : Nat) : Int).tdiv 8)) * 8))) h23))) (fun (j10 : Heap → Prop) =>
  F_law1_CodeStops.l1 f20_ v7 r8 j10 0 h9))
def F_law1_CodeStops (script1 : Sl) (script2 : Sl) (script3 : Sl) (h : Heap) (Q : Bool → Heap → Prop) : Prop := F_law1_CodeStops_of F_code_Read F_code_Reader_Left F_code_Reader_At F_law1_num F_code_Reader_Fault F_code_Reader_End F_code_Reader_U64 F_law1_silent script1 script2 script3 h Q
def plan4 : Plan := .s (.r [1]) (.s (.r [1, 3]) (.s (.r [1, 3, 4]) (.s (.s (.r [1, 3, 4, 13]) (.c (.s (.r [2]) .z) .z)) (.s (.s (.r [1, 3, 4, 5]) (.bj [] [1, 3, 4] (.l [(5, .one (.int .i64))] [1, 3, 4] (.s (.s (.r [1, 3, 4, 5, 19]) (.c .z .z)) (.s (.b (.r [1, 3, 4, 5])) (.r [1, 3, 4, 5])))))) (.s (.s (.rj [(36, .one .bool)] [1, 3, 4]) (.c (.s (.r [2]) .z) .z)) (.s (.s (.r [1, 3, 4, 6]) (.bj [] [] (.l [(6, .one (.int .i64))] [1, 3, 4] (.s (.s (.rj [(45, .one .bool)] [1, 3, 4, 6]) (.c .z .z)) (.s (.b (.s (.rj [(84, .one .bool)] [1, 3, 4, 6]) (.c (.s (.r [2]) .z) .z))) (.r [1, 3, 4, 6])))))) (.s (.r [2]) .z)))))))
theorem F_law1_CodeStops.eq (f9_ : Sl → Heap → (Option Addr → Heap → Prop) → Prop) (f12_ : Option Addr → Heap → (Int → Heap → Prop) → Prop) (f15_ : Option Addr → Heap → (Int → Heap → Prop) → Prop) (f16_ : Int → Heap → (Int → Heap → Prop) → Prop) (f17_ : Option Addr → Heap → (Int → Heap → Prop) → Prop) (f18_ : Option Addr → Heap → (Int → Heap → Prop) → Prop) (f20_ : Option Addr → Heap → (Int → Heap → Prop) → Prop) (f21_ : Option Addr → Int → Int → Int → Int → Sl → Heap → (Bool → Heap → Prop) → Prop) (script1 : Sl) (script2 : Sl) (script3 : Sl) (h : Heap) (K : Value → Heap → Prop) : F_law1_CodeStops_of f9_ f12_ f15_ f16_ f17_ f18_ f20_ f21_ script1 script2 script3 h (fun (r0 : Bool) (h : Heap) => K (.bool r0) h) =
    den Tryd.prog (fn1 9 (E_code_Read_of f9_) (fn1 12 (E_code_Reader_Left_of f12_) (fn1 15 (E_code_Reader_At_of f15_) (fn1 16 (E_law1_num_of f16_) (fn1 17 (E_code_Reader_Fault_of f17_) (fn1 18 (E_code_Reader_End_of f18_) (fn1 20 (E_code_Reader_U64_of f20_) (fn1 21 (E_law1_silent_of f21_) noFns)))))))) Tryd.f4.ntmps plan4 (bodyOf Tryd.f4) (args0 0 [(.agg #[.slice script1.ptr script1.len script1.cap, .slice script2.ptr script2.len script2.cap, .slice script3.ptr script3.len script3.cap] : Value)]) h ⟨fun env h => dRes Tryd.prog Tryd.f4.results.toList env h K, fun _ _ _ => False, fun env h => dRes Tryd.prog Tryd.f4.results.toList env h K⟩ := by kernel_rfl
def E_law1_CodeStops_of (f : Sl → Sl → Sl → Heap → (Bool → Heap → Prop) → Prop) : List Value → Heap → (Value → Heap → Prop) → Prop
  | [v0], h, K => vAgg v0 fun cs0 => decs [.sl, .sl, .sl] cs0.toList fun (script1 : Sl) (script2 : Sl) (script3 : Sl) =>
  f script1 script2 script3 h (fun (r0 : Bool) (h : Heap) => K (.bool r0) h)
  | _, _, _ => False
abbrev E_law1_CodeStops := E_law1_CodeStops_of F_law1_CodeStops
theorem E_law1_CodeStops.at (f : Sl → Sl → Sl → Heap → (Bool → Heap → Prop) → Prop) (script1 : Sl) (script2 : Sl) (script3 : Sl) (h : Heap) (K : Value → Heap → Prop) : E_law1_CodeStops_of f [.agg ([.slice script1.ptr script1.len script1.cap, .slice script2.ptr script2.len script2.cap, .slice script3.ptr script3.len script3.cap] : List Value).toArray] h K = f script1 script2 script3 h (fun (r0 : Bool) (h : Heap) => K (.bool r0) h) := rfl
theorem E_law1_CodeStops.right : IsRight Tryd.prog 4 E_law1_CodeStops := by
  refine isRight fun vs K w hh => ?_
  match vs, hh with
  | [v0], hh =>
    unfold E_law1_CodeStops E_law1_CodeStops_of at hh
    replace hh := vAgg_sound hh; obtain ⟨cs0, rfl, hh⟩ := hh
    replace hh := decs_cons hh; obtain ⟨script1, l0_0, e0_0, hh⟩ := hh
    replace hh := decs_cons hh; obtain ⟨script2, l0_1, e0_1, hh⟩ := hh
    replace hh := decs_cons hh; obtain ⟨script3, l0_2, e0_2, hh⟩ := hh
    replace hh := decs_nil hh; obtain ⟨rfl, hh⟩ := hh
    subst e0_2
    subst e0_1
    have ec0 := toArray_eq e0_0
    subst ec0
    unfold F_law1_CodeStops at hh
    exact calls_den (fn1_right ok9 E_code_Read.right (fn1_right ok12 E_code_Reader_Left.right (fn1_right ok15 E_code_Reader_At.right (fn1_right ok16 E_law1_num.right (fn1_right ok17 E_code_Reader_Fault.right (fn1_right ok18 E_code_Reader_End.right (fn1_right ok20 E_code_Reader_U64.right (fn1_right ok21 E_law1_silent.right noFns_right)))))))) plan4 _ w K Tryd.func4 (by kernel_rfl) (by kernel_rfl) (Eq.mp (F_law1_CodeStops.eq F_code_Read F_code_Reader_Left F_code_Reader_At F_law1_num F_code_Reader_Fault F_code_Reader_End F_code_Reader_U64 F_law1_silent script1 script2 script3 w.heap K) hh)
theorem ok4 : okFn Tryd.prog 4 = true := by kernel_rfl
end Go.Proofs.YtompmkmbppcadaaDoor.V
/- Behind the first fault nothing is read any more: what CodeStops plays. -/
namespace Go.Proofs.YtompmkmbppcadaaDoor.V
open Go Go.RowKit
set_option linter.unusedVariables false
set_option linter.unusedSimpArgs false
theorem RS.stuck_next {r : RS} (hm : r.met ≠ 0) (n : Nat) : r.next n = r ∧ r.nextB n = [] := by
  unfold RS.next RS.nextB
  rw [if_pos hm, if_pos hm]
  exact ⟨rfl, rfl⟩
theorem RS.stuck_var {r : RS} (hm : r.met ≠ 0) (n : Nat) : r.varP n = (r, 0) := by
  unfold RS.varP
  rw [if_pos hm]
theorem RS.stuck_bytes {r : RS} (hm : r.met ≠ 0) (n : Int) : r.bytesP n = (r, []) := by
  unfold RS.bytesP
  rw [RS.stuck_var hm]
  rw [if_neg (fun e => hm e.1), (RS.stuck_next hm _).1, (RS.stuck_next hm _).2]
theorem RS.stuck_raw {r : RS} (hm : r.met ≠ 0) (n : Int) : r.rawP n = (r, []) := by
  unfold RS.rawP
  rw [if_neg hm, (RS.stuck_next hm _).1, (RS.stuck_next hm _).2]
  split <;> rfl
section
variable {h0 h : Heap} {L : List Res} {p : Nat} {r : RS}
theorem F_law1_silent.is {op : COp} {Q : Bool → Heap → Prop} (hm : r.met ≠ 0) (o : r.Ok) (O : Sat h0 h (rdR p r :: L)) (hn : op.n < 18446744073709551616) (hM : op.m ≤ (9223372036854775807 : Int)) (k : ∀ h', Sat h0 h' (rdR p r :: L) → Q true h') : F_law1_silent (some (pt p 0)) op.kind op.which op.m op.n op.s h Q := by
  rw [F_law1_silent.eq_1, F_law1_silent_of.eq_1]
  refine O.al fun a h O => ?_
  simp only [nn_some, pt_add, Nat.zero_add, Nat.add_zero, Nat.reduceAdd, Nat.reduceMul, Int.toNat_zero, Int.toNat_one, Nat.zero_mul, Nat.one_mul]
  refine O.ld 0 rfl (ldL_c (ldL_n ?_))
  have hx := fun n => RS.stuck_next hm n
  have O := O.swap
  refine brr_eq (fun _ => ?_) (fun _ => ?_)
  · refine F_code_Reader_U8.is o O fun h O => ?_
    rw [(hx 1).1] at O
    rw [(hx 1).2]
    exact k h O.swap.drop
  refine brr_eq (fun _ => ?_) (fun _ => ?_)
  · refine F_code_Reader_U32.is o O fun h O => ?_
    rw [(hx 4).1] at O
    rw [(hx 4).2]
    exact k h O.swap.drop
  refine brr_eq (fun _ => ?_) (fun _ => ?_)
  · refine F_code_Reader_U64.is o O fun h O => ?_
    rw [(hx 8).1] at O
    rw [(hx 8).2]
    exact k h O.swap.drop
  refine brr_eq (fun _ => ?_) (fun _ => ?_)
  · refine O.ld 1 rfl (ldL_c (ldL_n ?_))
    refine F_code_Reader_Var.is o O fun h O => ?_
    rw [RS.stuck_var hm] at O
    rw [RS.stuck_var hm]
    exact k h O.swap.drop
  refine brr_eq (fun _ => ?_) (fun _ => ?_)
  · refine O.ld 1 rfl (ldL_c (ldL_n ?_))
    refine F_code_Reader_Bytes.is o hM O fun s h O => ?_
    rw [RS.stuck_bytes hm] at O
    have hl := (O.view 0 u8_len (by simp) rfl).1.len
    have O := O.drop
    rw [hl]
    exact k h O.swap.drop
  · refine O.ld 1 rfl (ldL_c (ldL_n ?_))
    refine F_code_Reader_Raw.is o hM O fun s h O => ?_
    rw [RS.stuck_raw hm] at O
    have hl := (O.view 0 u8_len (by simp) rfl).1.len
    have O := O.drop
    rw [hl]
    exact k h O.swap.drop
end
/-- The Reader behind i numbers of eight bytes. -/
def stepR (b : List UInt8) (i : Nat) : RS := if i ≤ b.length / 8 then ⟨b, 8 * i, 0⟩ else ⟨b, 8 * (b.length / 8), 1⟩
theorem stepR_ok {b : List UInt8} (h : b.length ≤ 140737488355328) (i : Nat) : (stepR b i).Ok := by
  unfold stepR
  split
  · exact ⟨by show 8 * i ≤ b.length; omega, h, by show 0 ≤ 4; decide⟩
  · exact ⟨by show 8 * (b.length / 8) ≤ b.length; omega, h, by show 1 ≤ 4; decide⟩
theorem stepR_next {b : List UInt8} {i : Nat} (hi : i ≤ b.length / 8) : (stepR b i).next 8 = stepR b (i + 1) := by
  unfold stepR RS.next
  rw [if_pos hi]
  simp only [ne_eq, not_true, if_false]
  unfold RS.left
  by_cases h : i + 1 ≤ b.length / 8
  · rw [if_pos h, if_neg (by show ¬ 8 > b.length - 8 * i; omega)]
    rfl
  · rw [if_neg h, if_pos (by show 8 > b.length - 8 * i; omega)]
    have : i = b.length / 8 := by omega
    rw [this]
theorem codeStops_main (H : Heap) (cs : List Value) (F : Fit H 140737488351232 tyCScript cs) (E : Er H) : E_law1_CodeStops [.agg cs.toArray] H (fun r h' => r = .bool true ∧ KeptH H h') := by
  obtain ⟨_, _, rfl, _, ⟨_, _, rfl, _, ⟨t1, rfl, t1S⟩, _, _, rfl, _, ⟨t2, rfl, t2S⟩, rfl⟩, _, _, rfl, _, ⟨t3, rfl, t3S⟩, rfl⟩ := F
  simp only [List.cons_append, List.nil_append, List.append_nil]
  refine Eq.mpr (E_law1_CodeStops.at F_law1_CodeStops t1 t2 t3 H _) ?_
  obtain ⟨ops, Vo, hol⟩ := t3S.cops
  obtain ⟨hc1, b, Vb, hb⟩ := t1S.bytesN
  rw [F_law1_CodeStops.eq_1, F_law1_CodeStops_of.eq_1]
  refine Sat.al (Sat.nil H) fun ba h1 O => ?_
  simp only [nn_some, pt_add, Nat.zero_add, Nat.add_zero, Nat.reduceAdd, Nat.reduceMul, Int.toNat_zero, Int.toNat_one, Nat.zero_mul, Nat.one_mul]
  refine ⟨by decide, by decide, ?_⟩
  simp only [nn_some, pt_add, Nat.zero_add, Nat.add_zero, Nat.reduceAdd, Nat.reduceMul, Int.toNat_zero, Int.toNat_one, Nat.zero_mul, Nat.one_mul]
  refine O.ld 0 rfl (ldL_c (k := .sl) (x := t1) (ldL_n ?_))
  have hbl := Vb.len
  refine F_code_Read.is O (Vb.kept O.kept) (by omega) fun p h O => ?_
  refine brr_ff rfl ?_
  have e0 : stepR b 0 = ⟨b, 0, 0⟩ := by unfold stepR; rw [if_pos (by omega)]
  rw [← e0] at O
  have d8 : ((t1.len : Nat) : Int).tdiv 8 = ((b.length / 8 : Nat) : Int) := by
    rw [hbl, Int.tdiv_eq_ediv_of_nonneg (by omega)]; omega
  have m8 : ((t1.len : Nat) : Int).tmod 8 = ((b.length % 8 : Nat) : Int) := by
    rw [hbl, Int.tmod_eq_emod_of_nonneg (by omega)]; omega
  refine jn0 (fun h' => Sat H h' (rdR p ⟨b, 8 * (b.length / 8), 1⟩ :: [own ba [.slice t1.ptr t1.len t1.cap, .slice t2.ptr t2.len t2.cap, .slice t3.ptr t3.len t3.cap]])) ?_ ?_
  case refine_2 =>
    intro j hj
    rw [F_law1_CodeStops.l1.eq_1, d8]
    refine wl1 (k := .int .i64) (fun (m : Nat) (i : Int) (h' : Heap) => 0 ≤ i ∧ i + m = b.length / 8 + 1 ∧ Sat H h' [rdR p (stepR b i.toNat), own ba [.slice t1.ptr t1.len t1.cap, .slice t2.ptr t2.len t2.cap, .slice t3.ptr t3.len t3.cap]]) ?_ (m := b.length / 8 + 1) ⟨by omega, by omega, O⟩
    clear O
    intro m (i : Int) h next hn ⟨hi0, him, O⟩
    refine ⟨by decide, ?_⟩
    rw [wrap64 (x := ((b.length / 8 : Nat) : Int)) (by omega) (by omega), wrap64 (x := ((b.length / 8 : Nat) : Int) + 1) (by omega) (by omega)]
    refine brr_p (fun hlt => ?_) (fun hlt => ?_)
    · refine F_code_Reader_U64.is (stepR_ok (by omega) _) O fun h O => ?_
      rw [stepR_next (by omega)] at O
      rw [wrap64 (by omega) (by omega)]
      refine hn (m - 1) _ _ (by omega) ⟨by omega, by omega, ?_⟩
      rw [show (i + 1).toNat = i.toNat + 1 by omega]
      exact O
    · refine hj _ ?_
      have e : stepR b i.toNat = ⟨b, 8 * (b.length / 8), 1⟩ := by
        unfold stepR; rw [if_neg (by omega)]
      rw [← e]
      exact O
  clear O
  intro h O
  have ok : RS.Ok ⟨b, 8 * (b.length / 8), 1⟩ := ⟨by show 8 * (b.length / 8) ≤ b.length; omega, by show b.length ≤ _; omega, by show 1 ≤ 4; decide⟩
  have e88 : IntKind.i64.wrap (IntKind.i64.wrap ((b.length / 8 : Nat) : Int) * 8) = ((8 * (b.length / 8) : Nat) : Int) := by
    rw [wrap64 (x := ((b.length / 8 : Nat) : Int)) (by omega) (by omega), wrap64 (by omega) (by omega)]; omega
  rw [d8, e88]
  refine jn1 (fun t h' => t = false ∧ h' = h) ?_ ?_
  case refine_2 =>
    intro j hj
    refine F_code_Reader_Fault.is (E.sat O) ok O ?_
    rw [F_law1_num.eq_1, F_law1_num_of.eq_1]
    refine brr_ne (fun e => absurd rfl e) (fun _ => ?_)
    refine F_code_Reader_At.is O ?_
    refine ⟨by decide, ?_⟩
    refine hj _ _ ⟨by simp, rfl⟩
  rintro t h ⟨rfl, rfl⟩
  refine brr_ff rfl ?_
  refine jn0 (fun h' => KeptH H h') (fun h' k => ⟨by first | rfl | trivial, k⟩) fun j26 hj26 => ?_
  rw [F_law1_CodeStops.l2.eq_1, m8, d8, e88]
  simp only [nn_some, pt_add, Nat.zero_add, Nat.add_zero, Nat.reduceAdd, Nat.reduceMul, Int.toNat_zero, Int.toNat_one, Nat.zero_mul, Nat.one_mul]
  refine wl1 (k := .int .i64) (fun (m : Nat) (i : Int) (h' : Heap) => i + m = ops.length ∧ 0 ≤ i ∧ i ≤ 400 ∧ Sat H h' [rdR p ⟨b, 8 * (b.length / 8), 1⟩, own ba [.slice t1.ptr t1.len t1.cap, .slice t2.ptr t2.len t2.cap, .slice t3.ptr t3.len t3.cap]]) ?_ (m := ops.length) ⟨by omega, by omega, by omega, O⟩
  clear O
  intro m (i : Int) h2 next hn ⟨hi, hi0, hi4, O⟩
  refine jn1 (fun t h' => h' = h2 ∧ (t = true → i < ops.length ∧ i < 400)) ?_ ?_
  case refine_2 =>
    intro j2 hj2
    refine O.ld 1 rfl (ldL_c (ldL_n ?_))
    rw [Vo.len]
    refine brr_p (fun hlt => ?_) (fun hlt => ?_)
    · exact hj2 _ _ ⟨rfl, fun e => ⟨hlt, by simpa using e⟩⟩
    · exact hj2 _ _ ⟨rfl, fun e => by cases e⟩
  rintro t h2 ⟨rfl, ht⟩
  refine brr_of (fun ht' => ?_) (fun ht' => hj26 _ O.kept)
  obtain ⟨hlt, hlt4⟩ := ht ht'
  refine jn1 (fun t h' => t = false ∧ Sat H h' [rdR p ⟨b, 8 * (b.length / 8), 1⟩, own ba [.slice t1.ptr t1.len t1.cap, .slice t2.ptr t2.len t2.cap, .slice t3.ptr t3.len t3.cap]]) ?_ ?_
  · rintro t h ⟨rfl, O⟩
    refine brr_ff rfl ?_
    rw [wrap64 (by omega) (by omega)]
    exact hn (m - 1) _ _ (by omega) ⟨by omega, by omega, by omega, O⟩
  intro j hj
  refine O.ld 1 rfl (ldL_c (ldL_n ?_))
  refine (Vo.kept O.kept).ix hi0 hlt fun a cs op hx hlen hR hc => ?_
  obtain ⟨rfl, r1, r2, r3, r4, r5, r6, r7, r8⟩ := hR
  refine ld_are hc (ldL_c (ldL_c (ldL_c (ldL_c (ldL_c (k := .sl) (x := op.s) (ldL_n ?_))))))
  refine F_law1_silent.is (by show 1 ≠ 0; decide) ok O r1 r8 fun h O => ?_
  refine brr_ff rfl ?_
  refine F_code_Reader_Fault.is (E.sat O) ok O ?_
  rw [F_law1_num.eq_1, F_law1_num_of.eq_1]
  refine brr_ne (fun e => absurd rfl e) (fun _ => ?_)
  refine F_code_Reader_End.is (E.sat O) ok O ?_
  rw [F_law1_num.eq_1, F_law1_num_of.eq_1]
  refine brr_ne (fun e => absurd (by unfold RS.endN; rw [if_neg (by show ¬ (1 = 0 ∧ _); simp)]; rfl) e) (fun _ => ?_)
  refine F_code_Reader_At.is O ?_
  refine ⟨by decide, ?_⟩
  refine brr_ne (fun e => absurd rfl e) (fun _ => ?_)
  refine F_code_Reader_Left.is ok O ?_
  refine ⟨by decide, ?_⟩
  refine hj _ _ ⟨?_, O⟩
  have : RS.left ⟨b, 8 * (b.length / 8), 1⟩ = b.length % 8 := by
    show b.length - 8 * (b.length / 8) = _
    omega
  rw [this]
  simp
end Go.Proofs.YtompmkmbppcadaaDoor.V
