import Derived.Test.YthiginhigfieiaaGreatDoorZMessageTurned4
import Derived.Test.YthiginhigfieiaaGreatDoorProg
import Derived.Lib.LaidTab
namespace Go.Proofs.YthiginhigfieiaaGreatDoor.V
open Go Go.RowKit
set_option linter.unusedVariables false
set_option maxRecDepth 100000
def F_law8_same_of (f11_ : Int → Heap → (Int → Heap → Prop) → Prop) (f16_ : Sl → Heap → (Int → Int → Int → Int → Int → Int → Int → Int → Int → Int → Sl → Int → Int → ByteArray → ByteArray → Int → Int → Int → Int → Int → Int → Int → Int → Heap → Prop) → Prop) (f17_ : Sl → Heap → (Int → Int → Int → Int → Int → Int → Int → Int → Int → Int → Sl → Int → Int → ByteArray → ByteArray → Int → Int → Int → Int → Int → Int → Int → Int → Heap → Prop) → Prop) (f18_ : Int → Int → Int → Int → Int → Int → Int → Int → Int → Int → Sl → Int → Int → ByteArray → ByteArray → Int → Int → Int → Int → Int → Int → Int → Int → Int → Int → Int → Int → Int → Int → Int → Int → Int → Sl → Int → Int → ByteArray → ByteArray → Int → Int → Int → Int → Int → Int → Int → Heap → (Bool → Heap → Prop) → Prop) (b1 : Sl) (h : Heap) (Q : Bool → Heap → Prop) : Prop :=
  f16_ b1 h fun (r2 r3 r4 r5 r6 r7 r8 r9 r10 r11 : Int) (r12 : Sl) (r13 r14 : Int) (r15 r16 : ByteArray) (r17 r18 r19 r20 r21 r22 r23 r24 : Int) (h25 : Heap) =>
  al 52 [.int .i64 0, .int .i64 0, .int .i64 0, .int .i64 0, .int .u64 0, .int .u64 0, .int .u64 0, .int .u64 0, .int .i64 0, .int .u64 0, .slice none 0 0, .int .i64 0, .int .u64 0, .string (⟨#[]⟩ : ByteArray), .string (⟨#[]⟩ : ByteArray), .int .u64 0, .int .u64 0, .int .u64 0, .int .i64 0, .int .i64 0, .int .i64 0, .int .i64 0] h25 fun (a26 : Addr) (h27 : Heap) =>
  st a26 [.int .i64 r2, .int .i64 r3, .int .i64 r4, .int .i64 r5, .int .u64 r6, .int .u64 r7, .int .u64 r8, .int .u64 r9, .int .i64 r10, .int .u64 r11, .slice r12.ptr r12.len r12.cap, .int .i64 r13, .int .u64 r14, .string r15, .string r16, .int .u64 r17, .int .u64 r18, .int .u64 r19, .int .i64 r20, .int .i64 r21, .int .i64 r22, .int .i64 r23] h27 fun (h28 : Heap) =>
  f17_ b1 h28 fun (r29 r30 r31 r32 r33 r34 r35 r36 r37 r38 : Int) (r39 : Sl) (r40 r41 : Int) (r42 r43 : ByteArray) (r44 r45 r46 r47 r48 r49 r50 r51 : Int) (h52 : Heap) =>
  al 52 [.int .i64 0, .int .i64 0, .int .i64 0, .int .i64 0, .int .u64 0, .int .u64 0, .int .u64 0, .int .u64 0, .int .i64 0, .int .u64 0, .slice none 0 0, .int .i64 0, .int .u64 0, .string (⟨#[]⟩ : ByteArray), .string (⟨#[]⟩ : ByteArray), .int .u64 0, .int .u64 0, .int .u64 0, .int .i64 0, .int .i64 0, .int .i64 0, .int .i64 0] h52 fun (a53 : Addr) (h54 : Heap) =>
  st a53 [.int .i64 r29, .int .i64 r30, .int .i64 r31, .int .i64 r32, .int .u64 r33, .int .u64 r34, .int .u64 r35, .int .u64 r36, .int .i64 r37, .int .u64 r38, .slice r39.ptr r39.len r39.cap, .int .i64 r40, .int .u64 r41, .string r42, .string r43, .int .u64 r44, .int .u64 r45, .int .u64 r46, .int .i64 r47, .int .i64 r48, .int .i64 r49, .int .i64 r50] h54 fun (h55 : Heap) =>
  jn [(2, .one .bool)] (fun (x105 : Bool) (h106 : Heap) =>
  Q x105 h106) (fun (j56 : Bool → Heap → Prop) =>
  f11_ r24 h55 fun (r57 : Int) (h58 : Heap) =>
  brr (r57 == r51)
  (ld [.int .i64, .int .i64, .int .i64, .int .i64, .int .u64, .int .u64, .int .u64, .int .u64, .int .i64, .int .u64, .sl, .int .i64, .int .u64, .str, .str, .int .u64, .int .u64, .int .u64, .int .i64, .int .i64, .int .i64, .int .i64] a26 h58 fun (v59 v60 v61 v62 v63 v64 v65 v66 v67 v68 : Int) (v69 : Sl) (v70 v71 : Int) (v72 v73 : ByteArray) (v74 v75 v76 v77 v78 v79 v80 : Int) =>
  ld [.int .i64, .int .i64, .int .i64, .int .i64, .int .u64, .int .u64, .int .u64, .int .u64, .int .i64, .int .u64, .sl, .int .i64, .int .u64, .str, .str, .int .u64, .int .u64, .int .u64, .int .i64, .int .i64, .int .i64, .int .i64] a53 h58 fun (v81 v82 v83 v84 v85 v86 v87 v88 v89 v90 : Int) (v91 : Sl) (v92 v93 : Int) (v94 v95 : ByteArray) (v96 v97 v98 v99 v100 v101 v102 : Int) =>
  f18_ v59 v60 v61 v62 v63 v64 v65 v66 v67 v68 v69 v70 v71 v72 v73 v74 v75 v76 v77 v78 v79 v80 v81 v82 v83 v84 v85 v86 v87 v88 v89 v90 v91 v92 v93 v94 v95 v96 v97 v98 v99 v100 v101 v102 h58 fun (r103 : Bool) (h104 : Heap) =>
  j56 r103 h104)
  (j56 false h58))
def F_law8_same (b1 : Sl) (h : Heap) (Q : Bool → Heap → Prop) : Prop := F_law8_same_of F_law8_num F_message_Decode F_ref8_Decode F_ref0_EqMsg b1 h Q
def plan27 : Plan := .s (.r [0]) (.s (.r [0, 3, 4]) (.s (.r [3, 4, 5, 6]) (.s (.rj [(2, .one .bool)] []) .z)))
theorem F_law8_same.eq (f11_ : Int → Heap → (Int → Heap → Prop) → Prop) (f16_ : Sl → Heap → (Int → Int → Int → Int → Int → Int → Int → Int → Int → Int → Sl → Int → Int → ByteArray → ByteArray → Int → Int → Int → Int → Int → Int → Int → Int → Heap → Prop) → Prop) (f17_ : Sl → Heap → (Int → Int → Int → Int → Int → Int → Int → Int → Int → Int → Sl → Int → Int → ByteArray → ByteArray → Int → Int → Int → Int → Int → Int → Int → Int → Heap → Prop) → Prop) (f18_ : Int → Int → Int → Int → Int → Int → Int → Int → Int → Int → Sl → Int → Int → ByteArray → ByteArray → Int → Int → Int → Int → Int → Int → Int → Int → Int → Int → Int → Int → Int → Int → Int → Int → Int → Sl → Int → Int → ByteArray → ByteArray → Int → Int → Int → Int → Int → Int → Int → Heap → (Bool → Heap → Prop) → Prop) (b1 : Sl) (h : Heap) (K : Value → Heap → Prop) : F_law8_same_of f11_ f16_ f17_ f18_ b1 h (fun (r0 : Bool) (h : Heap) => K (.bool r0) h) =
    den Tryz.prog (fn1 11 (E_law8_num_of f11_) (fn1 16 (E_message_Decode_of f16_) (fn1 17 (E_ref8_Decode_of f17_) (fn1 18 (E_ref0_EqMsg_of f18_) noFns)))) Tryz.f27.ntmps plan27 (bodyOf Tryz.f27) (args0 0 [(.slice b1.ptr b1.len b1.cap : Value)]) h ⟨fun env h => dRes Tryz.prog Tryz.f27.results.toList env h K, fun _ _ _ => False, fun env h => dRes Tryz.prog Tryz.f27.results.toList env h K⟩ := by kernel_rfl
def E_law8_same_of (f : Sl → Heap → (Bool → Heap → Prop) → Prop) : List Value → Heap → (Value → Heap → Prop) → Prop
  | [v0], h, K => dec1 .sl v0 fun (b1 : Sl) =>
  f b1 h (fun (r0 : Bool) (h : Heap) => K (.bool r0) h)
  | _, _, _ => False
abbrev E_law8_same := E_law8_same_of F_law8_same
theorem E_law8_same.right : IsRight Tryz.prog 27 E_law8_same := by
  refine isRight fun vs K w hh => ?_
  match vs, hh with
  | [v0], hh =>
    unfold E_law8_same E_law8_same_of at hh
    replace hh := dec1_sound hh; obtain ⟨b1, rfl, hh⟩ := hh
    unfold F_law8_same at hh
    exact calls_den (fn1_right ok11 E_law8_num.right (fn1_right ok16 E_message_Decode.right (fn1_right ok17 E_ref8_Decode.right (fn1_right ok18 E_ref0_EqMsg.right noFns_right)))) plan27 _ w K Tryz.func27 (by kernel_rfl) (by kernel_rfl) (Eq.mp (F_law8_same.eq F_law8_num F_message_Decode F_ref8_Decode F_ref0_EqMsg b1 w.heap K) hh)
theorem ok27 : okFn Tryz.prog 27 = true := by kernel_rfl
end Go.Proofs.YthiginhigfieiaaGreatDoor.V
/- What the laws of messages begin and end with. -/
namespace Go.Proofs.YthiginhigfieiaaGreatDoor.V
open Go Go.RowKit
set_option linter.unusedVariables false
set_option linter.unusedSimpArgs false
section
variable {h0 h : Heap} {L : List Res} {m : Mg}
def bl (p : Nat) : Nat := if p = 6 then 16394 else 74
theorem bytP_bl {p : Nat} (hp : p < 18) (hm : mayB p m = true) : (bytP p m).length ≤ bl p := by
  have h1 := bytP_le hp hm
  unfold bl
  split
  · exact h1
  · rename_i h6
    unfold bytP
    split
    · rename_i h2
      have g := may_txt hm h2
      have g2 : pmax p ≤ 64 := by
        unfold pk at h2
        split at h2 <;> first | (exact absurd h2 (by decide)) | (exact absurd rfl h6) | decide
      rw [List.length_append]
      have := (varB_le (n := (ptxt p m).length) (by omega)).1
      omega
    · rename_i h2
      split
      · rw [fixB_len]; omega
      · obtain ⟨g1, g2⟩ := may_num hm h2
        have g3 := pmax_le p
        have := (varB_le (n := (pget p m).toNat) (by omega)).1
        omega
theorem bytes_bl : ∀ (ps : List Nat), (∀ p ∈ ps, p < 18 ∧ mayB p m = true) → (ps.flatMap fun p => bytP p m).length ≤ (ps.map bl).sum
  | [], _ => by simp
  | p :: ps, h => by
    have h1 := bytP_bl (h p List.mem_cons_self).1 (h p List.mem_cons_self).2
    have h2 := bytes_bl ps fun q hq => h q (List.mem_cons_of_mem _ hq)
    rw [List.flatMap_cons, List.length_append, List.map_cons, List.sum_cons]
    omega
theorem kp_bl (k : Int) : ((kp k).map bl).sum ≤ 16986 := by
  unfold kp
  generalize k.toNat = n
  unfold kpN
  split <;> decide
theorem body_len (hw : wrongM m = 0) : (bodyM m).length ≤ 16990 ∧ 4 ≤ (bodyM m).length := by
  obtain ⟨hk, hh, hf⟩ := wrong_zero hw
  have h1 := bytes_bl (kp m.kind) fun p hp => ⟨kp_lt.2 p hp, (hf p (kp_lt.2 p hp)).1 hp⟩
  have h2 := kp_bl m.kind
  unfold bodyM
  rw [List.length_append, bodyH_len]
  omega
theorem decP_seal (hw : wrongM m = 0) : decP (sealB (bodyM m)) = (m.bare, 0) := by
  have hl := body_len hw
  have hs : (sealB (bodyM m)).length = (bodyM m).length + 4 := by unfold sealB; rw [List.length_append, fixB_len]
  have ht : (sealB (bodyM m)).take ((sealB (bodyM m)).length - 4) = bodyM m := (seal_inj rfl).symm
  unfold decP
  rw [if_neg (by omega), if_pos ((seal_take (by omega)).1 (by rw [ht])), ht]
  exact dec_of hw
theorem decX_b (l : List UInt8) : (decX l).1.b.length ≤ 16384 := by
  unfold decX
  split
  · rename_i h
    obtain ⟨_, _, hf⟩ := wrong_zero h.2.2
    have h6 := hf 6 (by decide)
    by_cases hm : 6 ∈ kp (rdAll pmax ⟨l, 0, 0⟩).2.kind
    · exact of_decide_eq_true (h6.1 hm)
    · have : (rdAll pmax ⟨l, 0, 0⟩).2.b.length = 0 := of_decide_eq_true (h6.2 hm)
      show (rdAll pmax ⟨l, 0, 0⟩).2.b.length ≤ 16384
      omega
  · exact Nat.zero_le _
theorem decP_b (l : List UInt8) : (decP l).1.b.length ≤ 16384 := by
  unfold decP
  split
  · exact Nat.zero_le _
  split
  · exact decX_b _
  · exact Nat.zero_le _
theorem F_law8_num.is {e : Int} {Q : Int → Heap → Prop} (k : Q e h) : F_law8_num e h Q := by
  rw [F_law8_num.eq_1, F_law8_num_of.eq_1]
  exact k
theorem F_law8_same.is {a : Sl} {xs : List UInt8} {Q : Bool → Heap → Prop} (O : Sat h0 h L) (U : Us h0) (E : Er h0) (Vx : Stays h0 L fun h => Bytes h a xs ∧ a.len ≤ a.cap) (hx : xs.length ≤ (140737488355325 : Nat)) (k : ∀ h', Sat h0 h' L → Q true h') : F_law8_same a h Q := by
  rw [F_law8_same.eq_1, F_law8_same_of.eq_1]
  obtain ⟨d, e, hd⟩ : ∃ d e, decP xs = (d, e) := ⟨_, _, rfl⟩
  have db : d.b.length < 4611686018427387904 := by
    have := decP_b xs
    rw [hd] at this
    have : d.b.length ≤ 16384 := this
    omega
  refine F_message_Decode.is O U E Vx hx hd fun s1 h O => ?_
  refine O.al fun a1 h O => ?_
  refine O.st 0 rfl (by simp) rfl fun h O => ?_
  dsimp only [List.set] at O
  rw [put_all (by rfl)] at O
  have O : Sat h0 h (own a1 (mgC { d with v := s1 }) :: buf 1 u8 s1 d.b :: L) := O
  refine F_ref8_Decode.is O (fun h O => Vx h O.drop.drop) hx hd fun s2 h O => ?_
  refine O.al fun a2 h O => ?_
  refine O.st 0 rfl (by simp) rfl fun h O => ?_
  dsimp only [List.set] at O
  rw [put_all (by rfl)] at O
  have O : Sat h0 h (own a2 (mgC { d with v := s2 }) :: buf 1 u8 s2 d.b :: own a1 (mgC { d with v := s1 }) :: buf 1 u8 s1 d.b :: L) := O
  refine jn_go ?_
  refine F_law8_num.is ?_
  refine brr_tt (by simp) ?_
  refine O.ld 2 rfl (mgC_ld ?_)
  refine O.ld 0 rfl (mgC_ld ?_)
  refine F_ref0_EqMsg.is (m := { d with v := s1 }) (n := { d with v := s2 }) O (fun h O => (O.view 3 u8_len (by simp) rfl).1) (fun h O => (O.view 1 u8_len (by simp) rfl).1) db db fun z h O hz => ?_
  rw [hz.2 rfl]
  exact k h O.drop.drop.drop.drop
def bg : Mg := { mgz with kind := 1, frm := 1, to := 2, epoch := 5 }
theorem bg_wrong : wrongM bg = 0 := by decide +kernel
theorem bg_body : bodyM bg = [1, 1, 2, 0, 5] := by
  show fixB 1 1 ++ fixB 1 1 ++ fixB 2 1 ++ fixB 0 1 ++ (varB 5 ++ []) = _
  rw [varB, if_pos (by decide)]
  decide +kernel
theorem bad_seal : decP [1, 1, 2, 0, 5] = (mgz, 82) := by
  unfold decP
  rw [if_neg (by decide), if_neg (by decide +kernel)]
theorem F_law8_begun.is {Q : Bool → Heap → Prop} (O : Sat h0 h L) (U : Us h0) (E : Er h0) (k : ∀ h', Sat h0 h' L → Q true h') : F_law8_begun h Q := by
  rw [F_law8_begun.eq_1, F_law8_begun_of.eq_1]
  have hdg : decP (sealB [1, 1, 2, 0, 5]) = (bg.bare, 0) := by rw [← bg_body]; exact decP_seal bg_wrong
  have hen : encB bg = sealB [1, 1, 2, 0, 5] := by unfold encB; rw [if_pos bg_wrong, bg_body]
  have hsl : (sealB [1, 1, 2, 0, 5]).length = 9 := by unfold sealB; rw [List.length_append, fixB_len]; rfl
  refine O.al fun a1 h O => ?_
  refine O.st 0 rfl (by simp) rfl fun h O => ?_
  dsimp only [List.set] at O
  rw [put_all (by rfl)] at O
  have O : Sat h0 h (own a1 (mgC { bg with v := nilS }) :: L) := O
  refine O.ld 0 rfl (mgC_ld ?_)
  refine F_message_Encode.is (m := bg) O U (fun h O => View.nil) (by intro q hq; show 0 ≤ pget q bg; unfold pget; split <;> decide) fun sE h O => ?_
  rw [bg_wrong]
  rw [hen] at O
  refine O.al fun a29 h O => ?_
  have O : Sat h0 h (own a29 (([1, 1, 2, 0, 5] : List UInt8).flatMap u8) :: buf 1 u8 sE (sealB [1, 1, 2, 0, 5]) :: own a1 (mgC { bg with v := nilS }) :: L) := O
  refine F_ref8_Seal.is (xs := [1, 1, 2, 0, 5]) O (fun h O => O.arr 0 (enc := u8) (xs := [1, 1, 2, 0, 5]) u8_len rfl) (by simp) fun sS h O => ?_
  refine F_message_Decode.is O U E (fun h O => O.view 0 u8_len (by simp) rfl) (by rw [hsl]; omega) hdg fun sV h O => ?_
  refine O.al fun a57 h O => ?_
  refine O.st 0 rfl (by simp) rfl fun h O => ?_
  dsimp only [List.set] at O
  rw [put_all (by rfl)] at O
  have O := O.sel [0, 1, 4, 5] 6 rfl (Nat.le_add_left _ _)
  have O : Sat h0 h (own a57 (mgC { bg with v := sV }) :: buf 1 u8 sV [] :: buf 1 u8 sE (sealB [1, 1, 2, 0, 5]) :: own a1 (mgC { bg with v := nilS }) :: L) := O
  refine O.al fun a60 h O => ?_
  have O : Sat h0 h (own a60 (([1, 1, 2, 0, 5] : List UInt8).flatMap u8) :: own a57 (mgC { bg with v := sV }) :: buf 1 u8 sV [] :: buf 1 u8 sE (sealB [1, 1, 2, 0, 5]) :: own a1 (mgC { bg with v := nilS }) :: L) := O
  refine F_message_Decode.is O U E (fun h O => ⟨O.arr 0 (enc := u8) (xs := [1, 1, 2, 0, 5]) u8_len rfl, Nat.le_refl _⟩) (by simp) bad_seal fun sW h O => ?_
  have O := O.drop.drop
  refine O.al fun a86 h O => ?_
  refine O.st 0 rfl (by simp) rfl fun h O => ?_
  have O := O.drop
  refine jn_go ?_
  refine F_law8_num.is ?_
  refine brr_tt (by decide) ?_
  refine F_law8_num.is ?_
  refine brr_tt (by decide) ?_
  refine O.al fun a94 h O => ?_
  have O : Sat h0 h (own a94 (([1, 1, 2, 0, 5] : List UInt8).flatMap u8) :: own a57 (mgC { bg with v := sV }) :: buf 1 u8 sV [] :: buf 1 u8 sE (sealB [1, 1, 2, 0, 5]) :: own a1 (mgC { bg with v := nilS }) :: L) := O
  refine F_ref8_Seal.is (xs := [1, 1, 2, 0, 5]) O (fun h O => O.arr 0 (enc := u8) (xs := [1, 1, 2, 0, 5]) u8_len rfl) (by simp) fun sT h O => ?_
  refine F_ref0_Eq.is (O.view 4 u8_len (by simp) rfl).1 (O.view 0 u8_len (by simp) rfl).1 (by rw [hsl]; decide) (by rw [hsl]; decide) ?_
  refine brr_tt (by simp) ?_
  have O := O.drop.drop
  refine O.ld 0 rfl (mgC_ld ?_)
  refine O.ld 3 rfl (mgC_ld ?_)
  refine F_ref0_EqMsg.is (m := { bg with v := sV }) (n := { bg with v := nilS }) O (fun h O => (O.view 1 u8_len (by simp) rfl).1) (fun h O => View.nil) (by show (0 : Nat) < _; decide) (by show (0 : Nat) < _; decide) fun z h O hz => ?_
  rw [hz.2 rfl]
  refine brr_tt rfl ?_
  refine F_law8_num.is ?_
  exact k h O.drop.drop.drop.drop
end
end Go.Proofs.YthiginhigfieiaaGreatDoor.V
/- One bit turned: its sum is another. -/
namespace Go.Proofs.YthiginhigfieiaaGreatDoor.V
open Go Go.RowKit
set_option linter.unusedVariables false
set_option linter.unusedSimpArgs false
theorem xor8 (a b : UInt8) : IntKind.u8.wrap (BitVec.ofInt IntKind.u8.bits (a.toNat : Int) ^^^ BitVec.ofInt IntKind.u8.bits (b.toNat : Int)).toNat = ((a ^^^ b).toNat : Int) := by
  have h : ∀ x : UInt8, BitVec.ofInt IntKind.u8.bits (x.toNat : Int) = x.toBitVec := by
    intro x
    show BitVec.ofInt 8 (x.toNat : Int) = x.toBitVec
    apply BitVec.eq_of_toNat_eq
    have := x.toNat_lt
    simp
  rw [h, h]
  have := (a ^^^ b).toNat_lt
  show IntKind.u8.wrap ((a ^^^ b).toNat : Int) = _
  exact wrapu8 (by omega) (by omega)
theorem ofNat_u8_xor (a b : UInt8) : BitVec.ofNat 32 (a ^^^ b).toNat = BitVec.ofNat 32 a.toNat ^^^ BitVec.ofNat 32 b.toNat := by
  rw [UInt8.toNat_xor]
  apply BitVec.eq_of_getLsbD_eq
  intro i hi
  rw [BitVec.getLsbD_xor, BitVec.getLsbD_ofNat, BitVec.getLsbD_ofNat, BitVec.getLsbD_ofNat, Nat.testBit_xor]
  simp [hi]
theorem crcByte_xor (x y : W32) (a b : UInt8) : crcByte (x ^^^ y) (a ^^^ b) = crcByte x a ^^^ crcByte y b := by
  unfold crcByte
  rw [ofNat_u8_xor, ← iter_xor]
  congr 1
  ac_rfl
theorem crcFrom_lin : ∀ (l : List UInt8) (x y : W32), crcFrom (x ^^^ y) l = crcFrom x l ^^^ iter (8 * l.length) y
  | [], _, _ => rfl
  | c :: l, x, y => by
    show crcFrom (crcByte (x ^^^ y) c) l = crcFrom (crcByte x c) l ^^^ _
    have e : crcByte (x ^^^ y) c = crcByte x c ^^^ iter 8 y := by
      unfold crcByte
      rw [← iter_xor]
      congr 1
      ac_rfl
    rw [e, crcFrom_lin l, ← iter_add]
    congr 2
theorem one_bit : ∀ k : Fin 8, crcByte 0#32 (UInt8.ofNat (2 ^ k.val)) = iter (8 - k.val) e0 := by decide +kernel
theorem crc_flip : ∀ (l : List UInt8) (j k : Nat) (c : UInt8) (n : W32), l[j]? = some c → k < 8 → crcFrom n (l.set j (c ^^^ UInt8.ofNat (2 ^ k))) = crcFrom n l ^^^ iter (8 * l.length - (8 * j + k)) e0
  | [], j, k, c, n, h, _ => by simp at h
  | d :: l, 0, k, c, n, h, hk => by
    simp at h; subst h
    show crcFrom (crcByte n (d ^^^ UInt8.ofNat (2 ^ k))) l = crcFrom (crcByte n d) l ^^^ _
    have e : crcByte n (d ^^^ UInt8.ofNat (2 ^ k)) = crcByte n d ^^^ crcByte 0#32 (UInt8.ofNat (2 ^ k)) := by
      have := crcByte_xor n 0#32 d (UInt8.ofNat (2 ^ k))
      rwa [BitVec.xor_zero] at this
    have h1 := one_bit ⟨k, hk⟩
    simp only at h1
    rw [e, h1, crcFrom_lin, ← iter_add]
    congr 2
    rw [List.length_cons]
    omega
  | d :: l, j + 1, k, c, n, h, hk => by
    rw [List.set_cons_succ]
    show crcFrom (crcByte n d) (l.set j (c ^^^ UInt8.ofNat (2 ^ k))) = crcFrom (crcByte n d) l ^^^ _
    rw [crc_flip l j k c _ (by simpa using h) hk]
    congr 2
    rw [List.length_cons]
    omega
theorem bit_back : ∀ k : Fin 32, iter k.val (1#32 <<< k.val) = e0 := by decide +kernel
theorem not_inj {x y : W32} : (~~~ x = ~~~ y) ↔ x = y := by
  constructor
  · intro h
    have := congrArg (~~~ ·) h
    simpa using this
  · intro h; rw [h]
theorem toNat_ne (x y : W32) : (((x.toNat : Int)) != (y.toNat : Int)) = decide (x ≠ y) := by
  by_cases h : x = y
  · simp [h]
  · have : ¬ x.toNat = y.toNat := fun e => h (BitVec.eq_of_toNat_eq e)
    simp [h]; omega
theorem toNat_eq (x y : W32) : (((x.toNat : Int)) == (y.toNat : Int)) = decide (x = y) := by
  by_cases h : x = y
  · simp [h]
  · have : ¬ x.toNat = y.toNat := fun e => h (BitVec.eq_of_toNat_eq e)
    simp [h]; omega
theorem xor_ne {x y : W32} : (x ^^^ y = x) ↔ y = 0#32 := by
  constructor
  · intro h
    have := congrArg (x ^^^ ·) h
    simpa [← BitVec.xor_assoc] using this
  · intro h; rw [h]; simp
theorem two_bits {n one two : Nat} (hn : n ≤ 8388608) (h1 : one < n) (h2 : two < n) : (iter (n - one) e0 = iter (n - two) e0) ↔ one = two := by
  have key : ∀ a b, a < b → b < n → iter (n - a) e0 ≠ iter (n - b) e0 := by
    intro a b hab hb h
    rw [show n - a = (n - b) + (b - a) by omega, iter_add] at h
    exact iter_back (by omega) (by omega) (iter_inj h)
  constructor
  · intro h
    rcases Nat.lt_trichotomy one two with hl | he | hl
    · exact absurd h (key _ _ hl h2)
    · exact he
    · exact absurd h.symm (key _ _ hl h1)
  · intro h; rw [h]
/-- The machine's mask of one bit. -/
theorem mask8 {i : Int} (h0 : 0 ≤ i) : IntKind.u8.wrap (1 * 2 ^ min (IntKind.u64.wrap (i.tmod 8)).toNat IntKind.u8.bits) = ((UInt8.ofNat (2 ^ (i.toNat % 8))).toNat : Int) := by
  rw [Int.tmod_eq_emod_of_nonneg h0, wrapu64 (by omega) (by omega)]
  have h8 : (i % 8).toNat = i.toNat % 8 := by omega
  have hk : i.toNat % 8 < 8 := Nat.mod_lt _ (by decide)
  rw [h8]
  generalize i.toNat % 8 = k at *
  have : ∀ k : Fin 8, IntKind.u8.wrap (1 * 2 ^ min k.val IntKind.u8.bits) = ((UInt8.ofNat (2 ^ k.val)).toNat : Int) := by decide
  exact this ⟨k, hk⟩
def flipU (l : List UInt8) (i : Nat) : List UInt8 := match l[i / 8]? with
  | some c => l.set (i / 8) (c ^^^ UInt8.ofNat (2 ^ (i % 8)))
  | none => l
theorem flipU_len (l : List UInt8) (i : Nat) : (flipU l i).length = l.length := by unfold flipU; split <;> simp
theorem flipU_crc (l : List UInt8) (i : Nat) (hi : i < 8 * l.length) (n : W32) : crcFrom n (flipU l i) = crcFrom n l ^^^ iter (8 * l.length - i) e0 := by
  unfold flipU
  rw [List.getElem?_eq_getElem (by omega : i / 8 < l.length)]
  simp only
  rw [crc_flip l (i / 8) (i % 8) _ n (List.getElem?_eq_getElem (by omega)) (Nat.mod_lt _ (by decide))]
  congr 2
  omega
section
variable {h0 h : Heap} {L : List Res}
/-- One bit of one's own list is turned. -/
theorem flip_step {s : Sl} {l : List UInt8} {i : Int} {K : Heap → Prop} (O : Sat h0 h (buf 1 u8 s l :: L)) (h0i : 0 ≤ i) (hi : i < 8 * l.length) (hl : l.length ≤ 281474976710656)
    (k : ∀ h', Sat h0 h' (buf 1 u8 s (flipU l i.toNat) :: L) → K h') :
    (8 : Int) ≠ 0 ∧ (8 : Int) ≠ 0 ∧ ixS 1 s (IntKind.i64.wrap (i.tdiv 8)) fun a39 => ld [.int .u8] a39 h fun v40 => (8 : Int) ≠ 0 ∧ 0 ≤ (IntKind.u64.wrap (i.tmod 8)) ∧ ixS 1 s (IntKind.i64.wrap (i.tdiv 8)) fun a41 =>
      st a41 [.int .u8 (IntKind.u8.wrap (BitVec.ofInt IntKind.u8.bits v40 ^^^ BitVec.ofInt IntKind.u8.bits (IntKind.u8.wrap (1 * 2 ^ min (IntKind.u64.wrap (i.tmod 8)).toNat IntKind.u8.bits))).toNat)] h K := by
  have e : IntKind.i64.wrap (i.tdiv 8) = i / 8 := by
    rw [Int.tdiv_eq_ediv_of_nonneg h0i, wrap64 (by omega) (by omega)]
  rw [e]
  refine ⟨by decide, by decide, ?_⟩
  refine Bytes.at (O.view 0 u8_len (by simp) rfl).1 (by omega) (by omega) fun c hc => ?_
  refine ⟨by decide, by rw [Int.tmod_eq_emod_of_nonneg h0i, wrapu64 (by omega) (by omega)]; omega, ?_⟩
  rw [mask8 h0i, xor8]
  refine O.put1 u8_len u8_one (by omega) (by omega) (c ^^^ UInt8.ofNat (2 ^ (i.toNat % 8))) rfl fun h' O => k h' ?_
  have e2 : (i / 8).toNat = i.toNat / 8 := by omega
  unfold flipU
  rw [← e2, hc]
  exact O
end
end Go.Proofs.YthiginhigfieiaaGreatDoor.V
/- The uses of each kind as the row lists them. -/
namespace Go.Proofs.YthiginhigfieiaaGreatDoor.V
open Go Go.RowKit
set_option linter.unusedVariables false
set_option linter.unusedSimpArgs false
section
variable {P : Program} {W : World}
abbrev trodL (P : Program) (W : World) := DataW.trod (fun _ : TypeId × Value => ()) P W 0 (fun _ => true) false
theorem trod_ints {fuel : Nat} {t e : TypeId} {cs : List Value} {ps : List MemPlace} {d : DataW Unit} (ht : P.underlying t = some (.slice e)) (he : P.underlying e = some (.int .i64)) (hce : P.cellsOf e = 1) (h : trodL P W fuel t cs = some (d, ps)) {fs : List Nat} (h0 : fs = [] → d = .nil) (h1 : fs ≠ [] → d = .slice (fs.map fun (f : Nat) => .lit (.int .i64 (f : Int))) []) : ∃ s : Sl, cs = [.slice s.ptr s.len s.cap] ∧ View W.heap 1 (En usC) s fs := by
  rcases DataW.trod_slice ht h with ⟨rfl, hx⟩ | ⟨a, len, cap, elems, rest, n, _, rfl, hx, _, _, _, hlen, hel, _, _⟩
  · have hd : d = .nil := congrArg Prod.fst hx
    have hf : fs = [] := Decidable.byContradiction fun g => by
      rw [h1 g] at hd
      cases hd
    subst hf
    exact ⟨⟨none, 0, 0⟩, rfl, View.nil⟩
  · have hd : d = .slice (elems.map (·.1)) (rest.map (·.1)) := congrArg Prod.fst hx
    have hf : fs ≠ [] := fun g => by
      rw [h0 g] at hd
      cases hd
    rw [h1 hf] at hd
    have h3 : (fs.map fun (f : Nat) => (.lit (.int .i64 (f : Int)) : DataW Unit)) = elems.map (·.1) := by
      injection hd
    have hfl : len = fs.length := by
      have := congrArg List.length h3
      simp at this
      omega
    refine ⟨⟨some a, len, cap⟩, rfl, hfl, fun i f hi => ?_⟩
    have hil : i < fs.length := (List.getElem?_eq_some_iff.1 hi).1
    have hy := hel i (by omega)
    have hex : elems[i]? = some (elems[i]'(by omega)) := List.getElem?_eq_getElem (by omega)
    generalize elems[i]'(by omega) = y at hex
    rw [hex] at hy
    replace hy := bind_some hy; obtain ⟨c, hc, hy⟩ := hy
    obtain ⟨z, ec, ey, _⟩ := DataW.trod_int he hy
    obtain ⟨hl, ha⟩ := cells_are hc
    have e2 : (elems.map (·.1))[i]? = some y.1 := by rw [List.getElem?_map, hex]; rfl
    rw [← h3, List.getElem?_map, hi] at e2
    simp only [Option.map_some, Option.some.injEq] at e2
    rw [ey] at e2
    simp only [DataW.lit.injEq, Lit.int.injEq, true_and] at e2
    refine ⟨a, c, rfl, ?_, ?_, ?_⟩
    · rw [ec]; rfl
    · rw [ec, ← e2]; rfl
    · rw [hce] at ha
      exact ha
def useD (k : Nat) : DataW Unit := if usN k = [] then .nil else .slice ((usN k).map fun (f : Nat) => .lit (.int .i64 (f : Int))) []
/-- The second of the row's two tables. -/
theorem us_of {n1 n2 : String} {d1 : DataW Unit} {g : Nat} {t s e : TypeId} (hg : P.globalNamed n2 = some g) (hty : (P.globals[g]?).map (·.type) = some t) (ht : P.underlying t = some (.array 12 s)) (hs : P.underlying s = some (.slice e)) (he : P.underlying e = some (.int .i64)) (hcs : P.cellsOf s = 1) (hce : P.cellsOf e = 1) (hb : g = 0) (h : laidMet P [(n1, d1), (n2, .agg ((List.range 12).map useD))] W) : Us W.heap := by
  obtain ⟨ps, ⟨_, _, _, _, _, _, _, _, _, _, ⟨g', t', cs, fuel, p, q, hg', ht', hvar, hd, _, _⟩, _⟩, _⟩ := h
  obtain rfl := Option.some.inj (hg.symm.trans hg')
  obtain rfl := Option.some.inj (hty.symm.trans ht')
  cases fuel with
  | zero => simp [DataW.trod] at hd
  | succ n =>
    unfold DataW.trod at hd
    rw [ht] at hd
    simp only [hcs, Nat.mul_one] at hd
    split at hd
    · replace hd := map_some' hd; obtain ⟨xs, hx, hd⟩ := hd
      obtain ⟨lx, gx⟩ := mapM_at hx
      have hx2 : xs.map (·.1) = (List.range 12).map useD := by
        have := congrArg Prod.fst hd
        simpa using this
      refine ⟨fun k hk => ?_⟩
      obtain ⟨y, hy, hyi⟩ := gx k k (by simp [hk])
      have e2 : (xs.map (·.1))[k]? = some y.1 := by rw [List.getElem?_map, hyi]; rfl
      rw [hx2, List.getElem?_map, List.getElem?_range hk] at e2
      simp only [Option.map_some, Option.some.injEq] at e2
      obtain ⟨u, hu, V⟩ := trod_ints (d := y.1) (ps := y.2) (fs := usN k) hs he hce hy (fun h => by rw [← e2]; unfold useD; rw [if_pos h]) (fun h => by rw [← e2]; unfold useD; rw [if_neg h])
      refine ⟨u, ?_, V⟩
      have hc : cs.toList[k]? = some (.slice u.ptr u.len u.cap) := by
        have := congrArg (·[0]?) hu
        simpa [List.getElem?_take, List.getElem?_drop] using this
      have hcell := World.var?_cell hg hvar k
      have h3 : W.cell? ⟨g, k, none⟩ = some (.slice u.ptr u.len u.cap) := by rw [hcell]; simpa using hc
      subst hb
      exact ⟨h3, trivial⟩
    · cases hd
end
end Go.Proofs.YthiginhigfieiaaGreatDoor.V
namespace Go.Proofs.YthiginhigfieiaaGreatDoor.V
open Go Go.RowKit
set_option linter.unusedVariables false
set_option maxRecDepth 100000
def F_law8_MessageTurned_of (f7_ : Heap → (Bool → Heap → Prop) → Prop) (f10_ : Int → Int → Int → Int → Int → Int → Int → Int → Int → Int → Sl → Int → Int → ByteArray → ByteArray → Int → Int → Int → Int → Int → Int → Int → Heap → (Sl → Int → Heap → Prop) → Prop) (f11_ : Int → Heap → (Int → Heap → Prop) → Prop) (f16_ : Sl → Heap → (Int → Int → Int → Int → Int → Int → Int → Int → Int → Int → Sl → Int → Int → ByteArray → ByteArray → Int → Int → Int → Int → Int → Int → Int → Int → Heap → Prop) → Prop) (f26_ : Sl → Heap → (Sl → Heap → Prop) → Prop) (f27_ : Sl → Heap → (Bool → Heap → Prop) → Prop) (t1 t2 t3 t4 t5 t6 t7 t8 t9 t10 : Int) (t11 : Sl) (t12 t13 : Int) (t14 t15 : ByteArray) (t16 t17 t18 t19 t20 t21 t22 t23 t24 : Int) (t25 : Sl) (h : Heap) (Q : Bool → Heap → Prop) : Prop :=
  al 76 [.int .i64 t1, .int .i64 t2, .int .i64 t3, .int .i64 t4, .int .u64 t5, .int .u64 t6, .int .u64 t7, .int .u64 t8, .int .i64 t9, .int .u64 t10, .slice t11.ptr t11.len t11.cap, .int .i64 t12, .int .u64 t13, .string t14, .string t15, .int .u64 t16, .int .u64 t17, .int .u64 t18, .int .i64 t19, .int .i64 t20, .int .i64 t21, .int .i64 t22, .int .i64 t23, .int .i64 t24, .slice t25.ptr t25.len t25.cap] h fun (a26 : Addr) (h27 : Heap) =>
  f7_ h27 fun (r28 : Bool) (h29 : Heap) =>
  brr (!r28)
  (Q false h29)
  (ld [.int .i64, .int .i64, .int .i64, .int .i64, .int .u64, .int .u64, .int .u64, .int .u64, .int .i64, .int .u64, .sl, .int .i64, .int .u64, .str, .str, .int .u64, .int .u64, .int .u64, .int .i64, .int .i64, .int .i64, .int .i64] (a26.add 0) h29 fun (v30 v31 v32 v33 v34 v35 v36 v37 v38 v39 : Int) (v40 : Sl) (v41 v42 : Int) (v43 v44 : ByteArray) (v45 v46 v47 v48 v49 v50 v51 : Int) =>
  f10_ v30 v31 v32 v33 v34 v35 v36 v37 v38 v39 v40 v41 v42 v43 v44 v45 v46 v47 v48 v49 v50 v51 h29 fun (r52 : Sl) (r53 : Int) (h54 : Heap) =>
  brr (r53 != 0)
  (f7_ h54 fun (r55 : Bool) (h56 : Heap) =>
  Q r55 h56)
  (ld [.int .i64] (a26.add 22) h54 fun (v57 : Int) =>
  (IntKind.i64.wrap (8 * ((r52.len : Nat) : Int))) ≠ 0 ∧
  f26_ r52 h54 fun (r58 : Sl) (h59 : Heap) =>
  (8 : Int) ≠ 0 ∧
  (8 : Int) ≠ 0 ∧
  ixS 1 r58 (IntKind.i64.wrap (((IntKind.i64.wrap (BitVec.ofInt IntKind.i64.bits v57 &&& BitVec.ofInt IntKind.i64.bits 16777215).toNat).tmod (IntKind.i64.wrap (8 * ((r52.len : Nat) : Int)))).tdiv 8)) fun (a60 : Addr) =>
  ld [.int .u8] a60 h59 fun (v61 : Int) =>
  (8 : Int) ≠ 0 ∧
  0 ≤ (IntKind.u64.wrap (((IntKind.i64.wrap (BitVec.ofInt IntKind.i64.bits v57 &&& BitVec.ofInt IntKind.i64.bits 16777215).toNat).tmod (IntKind.i64.wrap (8 * ((r52.len : Nat) : Int)))).tmod 8)) ∧
  ixS 1 r58 (IntKind.i64.wrap (((IntKind.i64.wrap (BitVec.ofInt IntKind.i64.bits v57 &&& BitVec.ofInt IntKind.i64.bits 16777215).toNat).tmod (IntKind.i64.wrap (8 * ((r52.len : Nat) : Int)))).tdiv 8)) fun (a62 : Addr) =>
  st a62 [.int .u8 (IntKind.u8.wrap (BitVec.ofInt IntKind.u8.bits v61 ^^^ BitVec.ofInt IntKind.u8.bits (IntKind.u8.wrap (1 * 2 ^ min (IntKind.u64.wrap (((IntKind.i64.wrap (BitVec.ofInt IntKind.i64.bits v57 &&& BitVec.ofInt IntKind.i64.bits 16777215).toNat).tmod (IntKind.i64.wrap (8 * ((r52.len : Nat) : Int)))).tmod 8)).toNat IntKind.u8.bits))).toNat)] h59 fun (h63 : Heap) =>
  f16_ r58 h63 fun (r64 r65 r66 r67 r68 r69 r70 r71 r72 r73 : Int) (r74 : Sl) (r75 r76 : Int) (r77 r78 : ByteArray) (r79 r80 r81 r82 r83 r84 r85 r86 : Int) (h87 : Heap) =>
  al 52 [.int .i64 0, .int .i64 0, .int .i64 0, .int .i64 0, .int .u64 0, .int .u64 0, .int .u64 0, .int .u64 0, .int .i64 0, .int .u64 0, .slice none 0 0, .int .i64 0, .int .u64 0, .string (⟨#[]⟩ : ByteArray), .string (⟨#[]⟩ : ByteArray), .int .u64 0, .int .u64 0, .int .u64 0, .int .i64 0, .int .i64 0, .int .i64 0, .int .i64 0] h87 fun (a88 : Addr) (h89 : Heap) =>
  st a88 [.int .i64 r64, .int .i64 r65, .int .i64 r66, .int .i64 r67, .int .u64 r68, .int .u64 r69, .int .u64 r70, .int .u64 r71, .int .i64 r72, .int .u64 r73, .slice r74.ptr r74.len r74.cap, .int .i64 r75, .int .u64 r76, .string r77, .string r78, .int .u64 r79, .int .u64 r80, .int .u64 r81, .int .i64 r82, .int .i64 r83, .int .i64 r84, .int .i64 r85] h89 fun (h90 : Heap) =>
  f11_ r86 h90 fun (r91 : Int) (h92 : Heap) =>
  brr (r91 != 82)
  (Q false h92)
  (ld [.int .i64] (a26.add 23) h92 fun (v93 : Int) =>
  ((r52.len : Nat) : Int) ≠ 0 ∧
  slTo r52 ((IntKind.i64.wrap (BitVec.ofInt IntKind.i64.bits v93 &&& BitVec.ofInt IntKind.i64.bits 16777215).toNat).tmod ((r52.len : Nat) : Int)) fun (s94 : Sl) =>
  f26_ s94 h92 fun (r95 : Sl) (h96 : Heap) =>
  ld [.sl] (a26.add 24) h96 fun (v97 : Sl) =>
  f26_ r52 h96 fun (r98 : Sl) (h99 : Heap) =>
  cellsAre h99 (a26.add 24) [.slice v97.ptr v97.len v97.cap] ∧
  app 5 1 1 (.int .u8 0) r98 v97.ptr v97.len h99 fun (s100 : Sl) (h101 : Heap) =>
  jn [(2, .one .bool)] (fun (x109 : Bool) (h110 : Heap) =>
  Q x109 h110) (fun (j102 : Bool → Heap → Prop) =>
  f27_ r95 h101 fun (r103 : Bool) (h104 : Heap) =>
  brr r103
  (f27_ s100 h104 fun (r105 : Bool) (h106 : Heap) =>
  brr r105
  (f7_ h106 fun (r107 : Bool) (h108 : Heap) =>
  j102 r107 h108)
  (j102 false h106))
  (j102 false h104)))))
def F_law8_MessageTurned (t1 t2 t3 t4 t5 t6 t7 t8 t9 t10 : Int) (t11 : Sl) (t12 t13 : Int) (t14 t15 : ByteArray) (t16 t17 t18 t19 t20 t21 t22 t23 t24 : Int) (t25 : Sl) (h : Heap) (Q : Bool → Heap → Prop) : Prop := F_law8_MessageTurned_of F_law8_begun F_ref8_Encode F_law8_num F_message_Decode F_ref0_Copy F_law8_same t1 t2 t3 t4 t5 t6 t7 t8 t9 t10 t11 t12 t13 t14 t15 t16 t17 t18 t19 t20 t21 t22 t23 t24 t25 h Q
def plan6 : Plan := .s (.r [1]) (.s (.s (.r [1, 13]) (.c (.s (.r [2]) .z) .z)) (.s (.r [1, 3, 4]) (.s (.s (.r [1, 3, 21]) (.c (.s (.r [2]) .z) .z)) (.s (.r [1, 3, 5]) (.s (.r [1, 3, 5, 6]) (.s (.r [1, 3, 6]) (.s (.r [1, 3, 8]) (.s (.s (.r [1, 3, 53]) (.c (.s (.r [2]) .z) .z)) (.s (.r [1, 3, 9]) (.s (.r [1, 3, 10]) (.s (.d [0, 1, 0, 4, 15, 31] [[0, 2, 3, 1, 4, 5]] [10, 11]) (.s (.rj [(2, .one .bool)] []) .z))))))))))))
theorem F_law8_MessageTurned.eq (f7_ : Heap → (Bool → Heap → Prop) → Prop) (f10_ : Int → Int → Int → Int → Int → Int → Int → Int → Int → Int → Sl → Int → Int → ByteArray → ByteArray → Int → Int → Int → Int → Int → Int → Int → Heap → (Sl → Int → Heap → Prop) → Prop) (f11_ : Int → Heap → (Int → Heap → Prop) → Prop) (f16_ : Sl → Heap → (Int → Int → Int → Int → Int → Int → Int → Int → Int → Int → Sl → Int → Int → ByteArray → ByteArray → Int → Int → Int → Int → Int → Int → Int → Int → Heap → Prop) → Prop) (f26_ : Sl → Heap → (Sl → Heap → Prop) → Prop) (f27_ : Sl → Heap → (Bool → Heap → Prop) → Prop) (t1 t2 t3 t4 t5 t6 t7 t8 t9 t10 : Int) (t11 : Sl) (t12 t13 : Int) (t14 t15 : ByteArray) (t16 t17 t18 t19 t20 t21 t22 t23 t24 : Int) (t25 : Sl) (h : Heap) (K : Value → Heap → Prop) : F_law8_MessageTurned_of f7_ f10_ f11_ f16_ f26_ f27_ t1 t2 t3 t4 t5 t6 t7 t8 t9 t10 t11 t12 t13 t14 t15 t16 t17 t18 t19 t20 t21 t22 t23 t24 t25 h (fun (r0 : Bool) (h : Heap) => K (.bool r0) h) =
    den Tryz.prog (fn1 7 (E_law8_begun_of f7_) (fn1 10 (E_ref8_Encode_of f10_) (fn1 11 (E_law8_num_of f11_) (fn1 16 (E_message_Decode_of f16_) (fn1 26 (E_ref0_Copy_of f26_) (fn1 27 (E_law8_same_of f27_) noFns)))))) Tryz.f6.ntmps plan6 (bodyOf Tryz.f6) (args0 0 [(.agg #[.int .i64 t1, .int .i64 t2, .int .i64 t3, .int .i64 t4, .int .u64 t5, .int .u64 t6, .int .u64 t7, .int .u64 t8, .int .i64 t9, .int .u64 t10, .slice t11.ptr t11.len t11.cap, .int .i64 t12, .int .u64 t13, .string t14, .string t15, .int .u64 t16, .int .u64 t17, .int .u64 t18, .int .i64 t19, .int .i64 t20, .int .i64 t21, .int .i64 t22, .int .i64 t23, .int .i64 t24, .slice t25.ptr t25.len t25.cap] : Value)]) h ⟨fun env h => dRes Tryz.prog Tryz.f6.results.toList env h K, fun _ _ _ => False, fun env h => dRes Tryz.prog Tryz.f6.results.toList env h K⟩ := by kernel_rfl
def E_law8_MessageTurned_of (f : Int → Int → Int → Int → Int → Int → Int → Int → Int → Int → Sl → Int → Int → ByteArray → ByteArray → Int → Int → Int → Int → Int → Int → Int → Int → Int → Sl → Heap → (Bool → Heap → Prop) → Prop) : List Value → Heap → (Value → Heap → Prop) → Prop
  | [v0], h, K => vAgg v0 fun cs0 => decs [.int .i64, .int .i64, .int .i64, .int .i64, .int .u64, .int .u64, .int .u64, .int .u64, .int .i64, .int .u64, .sl, .int .i64, .int .u64, .str, .str, .int .u64, .int .u64, .int .u64, .int .i64, .int .i64, .int .i64, .int .i64, .int .i64, .int .i64, .sl] cs0.toList fun (t1 t2 t3 t4 t5 t6 t7 t8 t9 t10 : Int) (t11 : Sl) (t12 t13 : Int) (t14 t15 : ByteArray) (t16 t17 t18 t19 t20 t21 t22 t23 t24 : Int) (t25 : Sl) =>
  f t1 t2 t3 t4 t5 t6 t7 t8 t9 t10 t11 t12 t13 t14 t15 t16 t17 t18 t19 t20 t21 t22 t23 t24 t25 h (fun (r0 : Bool) (h : Heap) => K (.bool r0) h)
  | _, _, _ => False
abbrev E_law8_MessageTurned := E_law8_MessageTurned_of F_law8_MessageTurned
theorem E_law8_MessageTurned.at (f : Int → Int → Int → Int → Int → Int → Int → Int → Int → Int → Sl → Int → Int → ByteArray → ByteArray → Int → Int → Int → Int → Int → Int → Int → Int → Int → Sl → Heap → (Bool → Heap → Prop) → Prop) (t1 t2 t3 t4 t5 t6 t7 t8 t9 t10 : Int) (t11 : Sl) (t12 t13 : Int) (t14 t15 : ByteArray) (t16 t17 t18 t19 t20 t21 t22 t23 t24 : Int) (t25 : Sl) (h : Heap) (K : Value → Heap → Prop) : E_law8_MessageTurned_of f [.agg ([.int .i64 t1, .int .i64 t2, .int .i64 t3, .int .i64 t4, .int .u64 t5, .int .u64 t6, .int .u64 t7, .int .u64 t8, .int .i64 t9, .int .u64 t10, .slice t11.ptr t11.len t11.cap, .int .i64 t12, .int .u64 t13, .string t14, .string t15, .int .u64 t16, .int .u64 t17, .int .u64 t18, .int .i64 t19, .int .i64 t20, .int .i64 t21, .int .i64 t22, .int .i64 t23, .int .i64 t24, .slice t25.ptr t25.len t25.cap] : List Value).toArray] h K = f t1 t2 t3 t4 t5 t6 t7 t8 t9 t10 t11 t12 t13 t14 t15 t16 t17 t18 t19 t20 t21 t22 t23 t24 t25 h (fun (r0 : Bool) (h : Heap) => K (.bool r0) h) := rfl
theorem E_law8_MessageTurned.right : IsRight Tryz.prog 6 E_law8_MessageTurned := by
  refine isRight fun vs K w hh => ?_
  match vs, hh with
  | [v0], hh =>
    unfold E_law8_MessageTurned E_law8_MessageTurned_of at hh
    replace hh := vAgg_sound hh; obtain ⟨cs0, rfl, hh⟩ := hh
    replace hh := decs_cons hh; obtain ⟨t1, l0_0, e0_0, hh⟩ := hh
    replace hh := decs_cons hh; obtain ⟨t2, l0_1, e0_1, hh⟩ := hh
    replace hh := decs_cons hh; obtain ⟨t3, l0_2, e0_2, hh⟩ := hh
    replace hh := decs_cons hh; obtain ⟨t4, l0_3, e0_3, hh⟩ := hh
    replace hh := decs_cons hh; obtain ⟨t5, l0_4, e0_4, hh⟩ := hh
    replace hh := decs_cons hh; obtain ⟨t6, l0_5, e0_5, hh⟩ := hh
    replace hh := decs_cons hh; obtain ⟨t7, l0_6, e0_6, hh⟩ := hh
    replace hh := decs_cons hh; obtain ⟨t8, l0_7, e0_7, hh⟩ := hh
    replace hh := decs_cons hh; obtain ⟨t9, l0_8, e0_8, hh⟩ := hh
    replace hh := decs_cons hh; obtain ⟨t10, l0_9, e0_9, hh⟩ := hh
    replace hh := decs_cons hh; obtain ⟨t11, l0_10, e0_10, hh⟩ := hh
    replace hh := decs_cons hh; obtain ⟨t12, l0_11, e0_11, hh⟩ := hh
    replace hh := decs_cons hh; obtain ⟨t13, l0_12, e0_12, hh⟩ := hh
    replace hh := decs_cons hh; obtain ⟨t14, l0_13, e0_13, hh⟩ := hh
    replace hh := decs_cons hh; obtain ⟨t15, l0_14, e0_14, hh⟩ := hh
    replace hh := decs_cons hh; obtain ⟨t16, l0_15, e0_15, hh⟩ := hh
    replace hh := decs_cons hh; obtain ⟨t17, l0_16, e0_16, hh⟩ := hh
    replace hh := decs_cons hh; obtain ⟨t18, l0_17, e0_17, hh⟩ := hh
    replace hh := decs_cons hh; obtain ⟨t19, l0_18, e0_18, hh⟩ := hh
    replace hh := decs_cons hh; obtain ⟨t20, l0_19, e0_19, hh⟩ := hh
    replace hh := decs_cons hh; obtain ⟨t21, l0_20, e0_20, hh⟩ := hh
    replace hh := decs_cons hh; obtain ⟨t22, l0_21, e0_21, hh⟩ := hh
    replace hh := decs_cons hh; obtain ⟨t23, l0_22, e0_22, hh⟩ := hh
    replace hh := decs_cons hh; obtain ⟨t24, l0_23, e0_23, hh⟩ := hh
    replace hh := decs_cons hh; obtain ⟨t25, l0_24, e0_24, hh⟩ := hh
    replace hh := decs_nil hh; obtain ⟨rfl, hh⟩ := hh
    subst e0_24
    subst e0_23
    subst e0_22
    subst e0_21
    subst e0_20
    subst e0_19
    subst e0_18
    subst e0_17
    subst e0_16
    subst e0_15
    subst e0_14
    subst e0_13
    subst e0_12
    subst e0_11
    subst e0_10
    subst e0_9
    subst e0_8
    subst e0_7
    subst e0_6
    subst e0_5
    subst e0_4
    subst e0_3
    subst e0_2
    subst e0_1
    have ec0 := toArray_eq e0_0
    subst ec0
    unfold F_law8_MessageTurned at hh
    exact calls_den (fn1_right ok7 E_law8_begun.right (fn1_right ok10 E_ref8_Encode.right (fn1_right ok11 E_law8_num.right (fn1_right ok16 E_message_Decode.right (fn1_right ok26 E_ref0_Copy.right (fn1_right ok27 E_law8_same.right noFns_right)))))) plan6 _ w K Tryz.func6 (by kernel_rfl) (by kernel_rfl) (Eq.mp (F_law8_MessageTurned.eq F_law8_begun F_ref8_Encode F_law8_num F_message_Decode F_ref0_Copy F_law8_same t1 t2 t3 t4 t5 t6 t7 t8 t9 t10 t11 t12 t13 t14 t15 t16 t17 t18 t19 t20 t21 t22 t23 t24 t25 w.heap K) hh)
theorem ok6 : okFn Tryz.prog 6 = true := by kernel_rfl
end Go.Proofs.YthiginhigfieiaaGreatDoor.V
/- A message with one bit turned: what MessageTurned plays. -/
namespace Go.Proofs.YthiginhigfieiaaGreatDoor.V
open Go Go.RowKit
set_option linter.unusedVariables false
set_option linter.unusedSimpArgs false
abbrev tyB : Ty := .sl 1 1 (.int .u8)
abbrev tyMsg : Ty := .cons (.cons (.int .i64) (.cons (.int .i64) (.cons (.int .i64) (.cons (.int .i64) .nil)))) (.cons (.int .u64) (.cons (.cons (.int .u64) (.cons (.int .u64) .nil)) (.cons (.int .u64) (.cons (.int .i64) (.cons (.int .u64) (.cons tyB (.cons (.int .i64) (.cons (.int .u64) (.cons .str (.cons .str (.cons (.int .u64) (.cons (.cons (.int .u64) (.cons (.int .u64) .nil)) (.cons (.int .i64) (.cons (.int .i64) (.cons (.int .i64) (.cons (.int .i64) .nil))))))))))))))))
abbrev tyTurn : Ty := .cons tyMsg (.cons (.int .i64) (.cons (.int .i64) (.cons tyB .nil)))
theorem flip_crc_ne {l : List UInt8} {i : Nat} (hi : i < 8 * l.length) : crc (flipU l i) ≠ crc l := by
  unfold crc
  rw [Ne, not_inj, flipU_crc l i hi, xor_ne]
  intro e
  exact absurd (iter_inj0 _ e) (by decide)
theorem flip_ne {l : List UInt8} {i : Nat} (hi : i < 8 * l.length) : flipU l i ≠ l := fun e => flip_crc_ne hi (by rw [e])
theorem flip_left {a b : List UInt8} {i : Nat} (hi : i < 8 * a.length) : flipU (a ++ b) i = flipU a i ++ b := by
  unfold flipU
  rw [List.getElem?_append_left (by omega), List.getElem?_eq_getElem (by omega : i / 8 < a.length)]
  simp only
  rw [List.set_append_left _ _ (by omega)]
theorem flip_right {a b : List UInt8} {i : Nat} (hi : 8 * a.length ≤ i) : flipU (a ++ b) i = a ++ flipU b (i - 8 * a.length) := by
  unfold flipU
  rw [List.getElem?_append_right (by omega), show (i - 8 * a.length) / 8 = i / 8 - a.length by omega, show (i - 8 * a.length) % 8 = i % 8 by omega]
  split
  · rw [List.set_append_right _ _ (by omega)]
  · rfl
/-- A sealed text with one bit turned is sealed no more. -/
theorem decP_flip {ys : List UInt8} {i : Nat} (hy : ys.length ≤ 16990) (hi : i < 8 * (sealB ys).length) : decP (flipU (sealB ys) i) = (mgz, 82) := by
  have hs : (sealB ys).length = ys.length + 4 := by unfold sealB; rw [List.length_append, fixB_len]
  have hl := flipU_len (sealB ys) i
  have hlt := (crc ys).isLt
  unfold decP
  rw [if_neg (by omega), hl, hs, Nat.add_sub_cancel]
  rw [if_neg]
  unfold sealB at *
  by_cases h : i < 8 * ys.length
  · rw [flip_left h, ← flipU_len ys i, List.take_left, List.drop_left, beN_fixB 4 _ (by omega)]
    intro e
    exact flip_crc_ne h (BitVec.eq_of_toNat_eq e).symm
  · rw [flip_right (by omega), List.take_left, List.drop_left]
    intro e
    have hf : i - 8 * ys.length < 8 * (fixB (crc ys).toNat 4).length := by rw [fixB_len]; omega
    have h4 : (flipU (fixB (crc ys).toNat 4) (i - 8 * ys.length)).length = 4 := by rw [flipU_len, fixB_len]
    have := fixB_beN 4 _ h4
    rw [e] at this
    exact flip_ne hf this.symm
theorem and24 (v : Int) : ∃ n : Nat, n < 16777216 ∧ IntKind.i64.wrap (BitVec.ofInt IntKind.i64.bits v &&& BitVec.ofInt IntKind.i64.bits 16777215).toNat = (n : Int) := by
  have h : (BitVec.ofInt IntKind.i64.bits v &&& BitVec.ofInt IntKind.i64.bits 16777215).toNat ≤ 16777215 := by
    rw [BitVec.toNat_and]
    exact Nat.and_le_right
  exact ⟨(BitVec.ofInt IntKind.i64.bits v &&& BitVec.ofInt IntKind.i64.bits 16777215).toNat, by omega, wrap64 (by omega) (by omega)⟩
set_option maxRecDepth 20000 in
theorem messageTurned_main (H : Heap) (cs : List Value) (F : Fit H 1048576 tyTurn cs) (E : Er H) (U : Us H) : E_law8_MessageTurned [.agg cs.toArray] H (fun r h' => r = .bool true ∧ KeptH H h') := by
  replace F := Fit.g F
  replace F := Fit.g F
  obtain ⟨m1, _, rfl, m1a, m1b, F⟩ := Fit.i F
  replace F := Fit.g F
  obtain ⟨m2, _, rfl, m2a, m2b, F⟩ := Fit.i F
  replace F := Fit.g F
  obtain ⟨m3, _, rfl, m3a, m3b, F⟩ := Fit.i F
  replace F := Fit.g F
  obtain ⟨m4, _, rfl, m4a, m4b, F⟩ := Fit.i F
  replace F := Fit.z F
  replace F := Fit.g F
  obtain ⟨m5, _, rfl, m5a, m5b, F⟩ := Fit.i F
  replace F := Fit.g F
  replace F := Fit.g F
  obtain ⟨m6, _, rfl, m6a, m6b, F⟩ := Fit.i F
  replace F := Fit.g F
  obtain ⟨m7, _, rfl, m7a, m7b, F⟩ := Fit.i F
  replace F := Fit.z F
  replace F := Fit.g F
  obtain ⟨m8, _, rfl, m8a, m8b, F⟩ := Fit.i F
  replace F := Fit.g F
  obtain ⟨m9, _, rfl, m9a, m9b, F⟩ := Fit.i F
  replace F := Fit.g F
  obtain ⟨m10, _, rfl, m10a, m10b, F⟩ := Fit.i F
  replace F := Fit.g F
  obtain ⟨m11, _, rfl, m11S, F⟩ := Fit.s F
  replace F := Fit.g F
  obtain ⟨m12, _, rfl, m12a, m12b, F⟩ := Fit.i F
  replace F := Fit.g F
  obtain ⟨m13, _, rfl, m13a, m13b, F⟩ := Fit.i F
  replace F := Fit.g F
  obtain ⟨m14, _, rfl, m14l, F⟩ := Fit.a F
  replace F := Fit.g F
  obtain ⟨m15, _, rfl, m15l, F⟩ := Fit.a F
  replace F := Fit.g F
  obtain ⟨m16, _, rfl, m16a, m16b, F⟩ := Fit.i F
  replace F := Fit.g F
  replace F := Fit.g F
  obtain ⟨m17, _, rfl, m17a, m17b, F⟩ := Fit.i F
  replace F := Fit.g F
  obtain ⟨m18, _, rfl, m18a, m18b, F⟩ := Fit.i F
  replace F := Fit.z F
  replace F := Fit.g F
  obtain ⟨m19, _, rfl, m19a, m19b, F⟩ := Fit.i F
  replace F := Fit.g F
  obtain ⟨m20, _, rfl, m20a, m20b, F⟩ := Fit.i F
  replace F := Fit.g F
  obtain ⟨m21, _, rfl, m21a, m21b, F⟩ := Fit.i F
  replace F := Fit.g F
  obtain ⟨m22, _, rfl, m22a, m22b, F⟩ := Fit.i F
  replace F := Fit.z F
  obtain ⟨t23, _, rfl, t23a, t23b, F⟩ := Fit.i F
  obtain ⟨t24, _, rfl, t24a, t24b, F⟩ := Fit.i F
  obtain ⟨t25, _, rfl, t25S, F⟩ := Fit.s F
  obtain rfl := Fit.e F
  refine Eq.mpr (E_law8_MessageTurned.at F_law8_MessageTurned m1 m2 m3 m4 m5 m6 m7 m8 m9 m10 m11 m12 m13 m14 m15 m16 m17 m18 m19 m20 m21 m22 t23 t24 t25 H _) ?_
  obtain ⟨_, a2, l, Vl⟩ := m11S.bytes
  obtain ⟨_, b2, tl, Vt⟩ := t25S.bytes
  have hl := Vl.len
  have ht := Vt.len
  rw [u64_min] at m5a m6a m7a m8a m10a m13a m16a m17a m18a
  obtain ⟨m, hm⟩ : ∃ m : Mg, m = ⟨m1, m2, m3, m4, m5, m6, m7, m8, m9, m10, m11, m12, m13, m14, m15, m16, m17, m18, m19, m20, m21, m22, l⟩ := ⟨_, rfl⟩
  have hpos : Pos m := by
    intro q hq
    rw [hm]
    by_cases h18 : q < 18
    · rcases (cas h18 hq).1 rfl with rfl | rfl | rfl | rfl | rfl | rfl | rfl | rfl | rfl <;> assumption
    · unfold pget
      split <;> first | omega | exact Int.le_refl _
  rw [F_law8_MessageTurned.eq_1, F_law8_MessageTurned_of.eq_1]
  refine Sat.al (Sat.nil H) fun a h O => ?_
  refine F_law8_begun.is O U E fun h O => ?_
  refine brr_ff rfl ?_
  simp only [nn_some, pt_add, Nat.zero_add, Nat.add_zero, Nat.reduceAdd, Nat.reduceMul, Int.toNat_zero, Int.toNat_one, Nat.zero_mul, Nat.one_mul]
  refine O.ld 0 rfl (ldL_c (ldL_c (ldL_c (ldL_c (ldL_c (ldL_c (ldL_c (ldL_c (ldL_c (ldL_c (ldL_s (ldL_c (ldL_c (ldL_c (ldL_c (ldL_c (ldL_c (ldL_c (ldL_c (ldL_c (ldL_c (ldL_c (ldL_n ?_)))))))))))))))))))))))
  have V : Stays H [own a (mgC m ++ [.int .i64 t23, .int .i64 t24, .slice t25.ptr t25.len t25.cap])] fun h => Bytes h m.v m.b := by
    rw [hm]
    exact fun h O => Vl.kept O.kept
  have hb : m.b.length < 4611686018427387904 := by rw [hm]; show l.length < _; omega
  have O : Sat H h [own a (mgC m ++ [.int .i64 t23, .int .i64 t24, .slice t25.ptr t25.len t25.cap])] := by rw [hm]; exact O
  subst hm
  refine F_ref8_Encode.is (m := ⟨m1, m2, m3, m4, m5, m6, m7, m8, m9, m10, m11, m12, m13, m14, m15, m16, m17, m18, m19, m20, m21, m22, l⟩) O V hb hpos fun s h O => ?_
  generalize (⟨m1, m2, m3, m4, m5, m6, m7, m8, m9, m10, m11, m12, m13, m14, m15, m16, m17, m18, m19, m20, m21, m22, l⟩ : Mg) = m at O V hpos ⊢
  refine brr_ne (fun e => ?_) (fun e => ?_)
  · refine F_law8_begun.is O U E fun h O => ?_
    exact And.intro (by first | rfl | trivial) O.kept
  have hx : encB m = sealB (bodyM m) := by unfold encB; rw [if_pos e]
  have hbl := body_len e
  rw [hx] at O
  have hxl : (sealB (bodyM m)).length = (bodyM m).length + 4 := by unfold sealB; rw [List.length_append, fixB_len]
  have hflip : ∀ i, i < 8 * (sealB (bodyM m)).length → decP (flipU (sealB (bodyM m)) i) = (mgz, 82) := fun i hi => decP_flip hbl.1 hi
  generalize hxs : sealB (bodyM m) = xs at *
  obtain ⟨hV0, hcap⟩ := O.view 0 u8_len (by simp) rfl
  have hsl := hV0.len
  refine O.ld 1 rfl (ldL_c (ldL_n ?_))
  rw [hsl, wrap64 (x := 8 * (xs.length : Int)) (by omega) (by omega)]
  refine ⟨by omega, ?_⟩
  refine F_ref0_Copy.is O hV0 (by omega) fun sc h O _ _ => ?_
  obtain ⟨n, hn, e24⟩ := and24 t23
  rw [e24]
  have i0 : 0 ≤ (n : Int).tmod (8 * (xs.length : Int)) := Int.tmod_nonneg _ (by omega)
  have i1 : (n : Int).tmod (8 * (xs.length : Int)) < 8 * (xs.length : Int) := Int.tmod_lt_of_pos _ (by omega)
  generalize (n : Int).tmod (8 * (xs.length : Int)) = i at i0 i1 ⊢
  refine flip_step O i0 (by omega) (by omega) fun h O => ?_
  refine F_message_Decode.is O U E (fun h O => O.view 0 u8_len (by simp) rfl) (by rw [flipU_len]; omega) (hflip i.toNat (by omega)) fun sd h O => ?_
  refine O.al fun z h O => ?_
  refine O.st 0 rfl (by simp) rfl fun h O => ?_
  have O := O.drop.drop.drop
  refine F_law8_num.is ?_
  refine brr_ff (by decide) ?_
  have O : Sat H h [buf 1 u8 s xs, own a (mgC m ++ [.int .i64 t23, .int .i64 t24, .slice t25.ptr t25.len t25.cap])] := O
  refine O.ld 1 rfl (ldL_c (ldL_n ?_))
  refine ⟨by omega, ?_⟩
  obtain ⟨n2, hn2, e24b⟩ := and24 t24
  rw [e24b]
  have j0 : 0 ≤ (n2 : Int).tmod (xs.length : Int) := Int.tmod_nonneg _ (by omega)
  have j1 : (n2 : Int).tmod (xs.length : Int) < (xs.length : Int) := Int.tmod_lt_of_pos _ (by omega)
  generalize (n2 : Int).tmod (xs.length : Int) = k at j0 j1 ⊢
  refine ⟨j0, by omega, ?_⟩
  refine F_ref0_Copy.is O ((O.view 0 u8_len (by simp) rfl).1.take k.toNat s.cap (by omega)) (by rw [List.length_take]; omega) fun sd h O _ _ => ?_
  refine O.ld 2 rfl (ldL_s (ldL_n ?_))
  refine F_ref0_Copy.is O (O.view 1 u8_len (by simp) rfl).1 (by omega) fun sg h O _ _ => ?_
  refine ⟨O.cells 3 rfl 24 1, ?_⟩
  have Vt2 := Vt.kept O.kept
  refine O.app_buf u8_len u8_one rfl (ys := tl) Vt2.len (Vt2.rd u8_len) (by omega) fun sg h O _ => ?_
  refine jn_go ?_
  refine F_law8_same.is O U E (fun h O => O.view 1 u8_len (by simp) rfl) (by rw [List.length_take]; omega) fun h O => ?_
  refine brr_tt rfl ?_
  refine F_law8_same.is O U E (fun h O => O.view 0 u8_len (by simp) rfl) (by rw [List.length_append]; omega) fun h O => ?_
  refine brr_tt rfl ?_
  refine F_law8_begun.is O U E fun h O => ?_
  exact And.intro (by first | rfl | trivial) O.kept
end Go.Proofs.YthiginhigfieiaaGreatDoor.V
