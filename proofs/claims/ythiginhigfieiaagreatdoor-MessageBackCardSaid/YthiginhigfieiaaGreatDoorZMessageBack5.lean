import Derived.Test.YthiginhigfieiaaGreatDoorZMessageBack4
import Derived.Test.YthiginhigfieiaaGreatDoorProg
import Derived.Lib.LaidTab
namespace Go.Proofs.YthiginhigfieiaaGreatDoor.V
open Go Go.RowKit
set_option linter.unusedVariables false
set_option maxRecDepth 100000
def F_law8_same_of (f11_ : Int → Heap → (Int → Heap → Prop) → Prop) (f16_ : Sl → Heap → (Int → Int → Int → Int → Int → Int → Int → Int → Int → Int → Sl → Int → Int → ByteArray → ByteArray → Int → Int → Int → Int → Int → Int → Int → Int → Heap → Prop) → Prop) (f17_ : Sl → Heap → (Int → Int → Int → Int → Int → Int → Int → Int → Int → Int → Sl → Int → Int → ByteArray → ByteArray → Int → Int → Int → Int → Int → Int → Int → Int → Heap → Prop) → Prop) (f18_ : Int → Int → Int → Int → Int → Int → Int → Int → Int → Int → Sl → Int → Int → ByteArray → ByteArray → Int → Int → Int → Int → Int → Int → Int → Int → Int → Int → Int → Int → Int → Int → Int → Int → Int → Sl → Int → Int → ByteArray → ByteArray → Int → Int → Int → Int → Int → Int → Int → Heap → (Bool → Heap → Prop) → Prop) (b1 : Sl) (h : Heap) (Q : Bool → Heap → Prop) : Prop :=
  f16_ b1 h fun (r2 r3 r4 r5 r6 r7 r8 r9 r10 r11 : Int) (r12 : Sl) (r13 r14 : Int) (r15 r16 : ByteArray) (r17 r18 r19 r20 r21 r22 r23 r24 : Int) (h25 : Heap) =>
  al 52 [.int .i64 0, .int .i64 0, .int .i64 0, .int .i64 0, .int .u64 0, .int .u64 0, .int .u64 0, .int .u64 0, .int .i64 0, .int .u64 0, .slice none 0 0, .int .i64 0, .int .u64 0, .string (⟨#[]⟩ : ByteArray), .string (⟨#[]⟩ : ByteArray), .int .u64 0, .int .u64 0, .int .u64 0, .int .i64 0, .int .i64 0, .int .i64 0, .int .i64 0] h25 fun (a26 : Addr) (h27 : Heap) =>
  st a26 [.int .i64 r2, .int .i64 r3, .int .i64 r4, .int .i64 r5, .int .u64 r6, .int .u64 r7, .int .u64 r8, .int .u64 r9, .int .i64 r10, .int .u64 r11, .slice r12.ptr r12.len r12.cap, .int .i64 r13, .int .u64 r14, .string r15, .string r16, .int .u64 r17, .int .u64 r18, .int .u64 r19, .int .i64 r20, .int .i64 r21, .int .i64 r22, .int .i64 r23] h27 fun (h28 : Heap) =>
  f17_ b1 h28 fun (r29 r30 r31 r32 r33 r34 r35 r36 r37 r38 : Int) (r39 : Sl) (r40 r41 : Int) (r42 r43 : ByteArray) (r44 r45 r46 r47 r48 r49 r50 r51 : Int) (h52 : Heap) =>
  al 52 [.int .i64 0, .int .i64 0, .int .i64 0, .int .i64 0, .int .u64 0, .int .u64 0, .int .u64 0, .int .u64 0, .int .i64 0, .int .u64 0, .slice none 0 0, .int .i64 0, .int .u64 0, .string (⟨#[]⟩ : ByteArray), .string (⟨#[]⟩ : ByteArray), .int .u64 0, .int .u64 0, .int .u64 0, .int .i64 0, .int .i64 0, .int .i64 0, .int .i64 0] h52 fun (a53 : Addr) (h54 : Heap) =>
  st a53 [.int .i64 r29, .int .i64 r30, .int .i64 r31, .int .i64 r32, .int .u64 r33, .int .u64 r34, .int .u64 r35, .int .u64 r36, .int .i64 r37, .int .u64 r38, .slice r39.ptr r39.len r39.cap, .int .i64 r40, .int .u64 r41, .string r42, .string r43, .int .u64 r44, .int .u64 r45, .int .u64 r46, .int .i64 r47, .int .i64 r48, .int .i64 r49, .int .i64 r50] h54 fun (h55 : Heap) =>
  jn [(2, .one .bool)] (fun (x105 : Bool) (h106 : Heap) =>
  Q x105 h106) (fun (j56 : Bool → Heap → Prop) =>
  f11_ r24 h55 fun (r57 : Int) (h58 : Heap) =>
  brr (r57 == r51)
  (ld [.int .i64, .int .i64, .int .i64, .int .i64, .int .u64, .int .u64, .int .u64, .int .u64, .int .i64, .int .u64, .sl, .int .i64, .int .u64, .str, .str, .int .u64, .int .u64, .int .u64, .int .i64, .int .i64, .int .i64, .int .i64] a26 h58 fun (v59 v60 v61 v62 v63 v64 v65 v66 v67 v68 : Int) (v69 : Sl) (v70 v71 : Int) (v72 v73 : ByteArray) (v74 v75 v76 v77 v78 v79 v80 : Int) =>
  ld [.int .i64, .int .i64, .int .i64, .int .i64, .int .u64, .int .u64, .int .u64, .int .u64, .int .i64, .int .u64, .sl, .int .i64, .int .u64, .str, .str, .int .u64, .int .u64, .int .u64, .int .i64, .int .i64, .int .i64, .int .i64] a53 h58 fun (v81 v82 v83 v84 v85 v86 v87 v88 v89 v90 : Int) (v91 : Sl) (v92 v93 : Int) (v94 v95 : ByteArray) (v96 v97 v98 v99 v100 v101 v102 : Int) =>
  f18_ v59 v60 v61 v62 v63 v64 v65 v66 v67 v68 v69 v70 v71 v72 v73 v74 v75 v76 v77 v78 v79 v80 v81 v82 v83 v84 v85 v86 v87 v88 v89 v90 v91 v92 v93 v94 v95 v96 v97 v98 v99 v100 v101 v102 h58 fun (r103 : Bool) (h104 : Heap) =>
  j56 r103 h104)
  (j56 false h58))
def F_law8_same (b1 : Sl) (h : Heap) (Q : Bool → Heap → Prop) : Prop := F_law8_same_of F_law8_num F_message_Decode F_ref8_Decode F_ref0_EqMsg b1 h Q
def plan27 : Plan := .s (.r [0]) (.s (.r [0, 3, 4]) (.s (.r [3, 4, 5, 6]) (.s (.rj [(2, .one .bool)] []) .z)))
theorem F_law8_same.eq (f11_ : Int → Heap → (Int → Heap → Prop) → Prop) (f16_ : Sl → Heap → (Int → Int → Int → Int → Int → Int → Int → Int → Int → Int → Sl → Int → Int → ByteArray → ByteArray → Int → Int → Int → Int → Int → Int → Int → Int → Heap → Prop) → Prop) (f17_ : Sl → Heap → (Int → Int → Int → Int → Int → Int → Int → Int → Int → Int → Sl → Int → Int → ByteArray → ByteArray → Int → Int → Int → Int → Int → Int → Int → Int → Heap → Prop) → Prop) (f18_ : Int → Int → Int → Int → Int → Int → Int → Int → Int → Int → Sl → Int → Int → ByteArray → ByteArray → Int → Int → Int → Int → Int → Int → Int → Int → Int → Int → Int → Int → Int → Int → Int → Int → Int → Sl → Int → Int → ByteArray → ByteArray → Int → Int → Int → Int → Int → Int → Int → Heap → (Bool → Heap → Prop) → Prop) (b1 : Sl) (h : Heap) (K : Value → Heap → Prop) : F_law8_same_of f11_ f16_ f17_ f18_ b1 h (fun (r0 : Bool) (h : Heap) => K (.bool r0) h) =
    den Tryz.prog (fn1 11 (E_law8_num_of f11_) (fn1 16 (E_message_Decode_of f16_) (fn1 17 (E_ref8_Decode_of f17_) (fn1 18 (E_ref0_EqMsg_of f18_) noFns)))) Tryz.f27.ntmps plan27 (bodyOf Tryz.f27) (args0 0 [(.slice b1.ptr b1.len b1.cap : Value)]) h ⟨fun env h => dRes Tryz.prog Tryz.f27.results.toList env h K, fun _ _ _ => False, fun env h => dRes Tryz.prog Tryz.f27.results.toList env h K⟩ := by kernel_rfl
def E_law8_same_of (f : Sl → Heap → (Bool → Heap → Prop) → Prop) : List Value → Heap → (Value → Heap → Prop) → Prop
  | [v0], h, K => dec1 .sl v0 fun (b1 : Sl) =>
  f b1 h (fun (r0 : Bool) (h : Heap) => K (.bool r0) h)
  | _, _, _ => False
abbrev E_law8_same := E_law8_same_of F_law8_same
theorem E_law8_same.right : IsRight Tryz.prog 27 E_law8_same := by
  refine isRight fun vs K w hh => ?_
  match vs, hh with
  | [v0], hh =>
    unfold E_law8_same E_law8_same_of at hh
    replace hh := dec1_sound hh; obtain ⟨b1, rfl, hh⟩ := hh
    unfold F_law8_same at hh
    exact calls_den (fn1_right ok11 E_law8_num.right (fn1_right ok16 E_message_Decode.right (fn1_right ok17 E_ref8_Decode.right (fn1_right ok18 E_ref0_EqMsg.right noFns_right)))) plan27 _ w K Tryz.func27 (by kernel_rfl) (by kernel_rfl) (Eq.mp (F_law8_same.eq F_law8_num F_message_Decode F_ref8_Decode F_ref0_EqMsg b1 w.heap K) hh)
theorem ok27 : okFn Tryz.prog 27 = true := by kernel_rfl
end Go.Proofs.YthiginhigfieiaaGreatDoor.V
/- What the laws of messages begin and end with. -/
namespace Go.Proofs.YthiginhigfieiaaGreatDoor.V
open Go Go.RowKit
set_option linter.unusedVariables false
set_option linter.unusedSimpArgs false
section
variable {h0 h : Heap} {L : List Res} {m : Mg}
def bl (p : Nat) : Nat := if p = 6 then 16394 else 74
theorem bytP_bl {p : Nat} (hp : p < 18) (hm : mayB p m = true) : (bytP p m).length ≤ bl p := by
  have h1 := bytP_le hp hm
  unfold bl
  split
  · exact h1
  · rename_i h6
    unfold bytP
    split
    · rename_i h2
      have g := may_txt hm h2
      have g2 : pmax p ≤ 64 := by
        unfold pk at h2
        split at h2 <;> first | (exact absurd h2 (by decide)) | (exact absurd rfl h6) | decide
      rw [List.length_append]
      have := (varB_le (n := (ptxt p m).length) (by omega)).1
      omega
    · rename_i h2
      split
      · rw [fixB_len]; omega
      · obtain ⟨g1, g2⟩ := may_num hm h2
        have g3 := pmax_le p
        have := (varB_le (n := (pget p m).toNat) (by omega)).1
        omega
theorem bytes_bl : ∀ (ps : List Nat), (∀ p ∈ ps, p < 18 ∧ mayB p m = true) → (ps.flatMap fun p => bytP p m).length ≤ (ps.map bl).sum
  | [], _ => by simp
  | p :: ps, h => by
    have h1 := bytP_bl (h p List.mem_cons_self).1 (h p List.mem_cons_self).2
    have h2 := bytes_bl ps fun q hq => h q (List.mem_cons_of_mem _ hq)
    rw [List.flatMap_cons, List.length_append, List.map_cons, List.sum_cons]
    omega
theorem kp_bl (k : Int) : ((kp k).map bl).sum ≤ 16986 := by
  unfold kp
  generalize k.toNat = n
  unfold kpN
  split <;> decide
theorem body_len (hw : wrongM m = 0) : (bodyM m).length ≤ 16990 ∧ 4 ≤ (bodyM m).length := by
  obtain ⟨hk, hh, hf⟩ := wrong_zero hw
  have h1 := bytes_bl (kp m.kind) fun p hp => ⟨kp_lt.2 p hp, (hf p (kp_lt.2 p hp)).1 hp⟩
  have h2 := kp_bl m.kind
  unfold bodyM
  rw [List.length_append, bodyH_len]
  omega
theorem decP_seal (hw : wrongM m = 0) : decP (sealB (bodyM m)) = (m.bare, 0) := by
  have hl := body_len hw
  have hs : (sealB (bodyM m)).length = (bodyM m).length + 4 := by unfold sealB; rw [List.length_append, fixB_len]
  have ht : (sealB (bodyM m)).take ((sealB (bodyM m)).length - 4) = bodyM m := (seal_inj rfl).symm
  unfold decP
  rw [if_neg (by omega), if_pos ((seal_take (by omega)).1 (by rw [ht])), ht]
  exact dec_of hw
theorem decX_b (l : List UInt8) : (decX l).1.b.length ≤ 16384 := by
  unfold decX
  split
  · rename_i h
    obtain ⟨_, _, hf⟩ := wrong_zero h.2.2
    have h6 := hf 6 (by decide)
    by_cases hm : 6 ∈ kp (rdAll pmax ⟨l, 0, 0⟩).2.kind
    · exact of_decide_eq_true (h6.1 hm)
    · have : (rdAll pmax ⟨l, 0, 0⟩).2.b.length = 0 := of_decide_eq_true (h6.2 hm)
      show (rdAll pmax ⟨l, 0, 0⟩).2.b.length ≤ 16384
      omega
  · exact Nat.zero_le _
theorem decP_b (l : List UInt8) : (decP l).1.b.length ≤ 16384 := by
  unfold decP
  split
  · exact Nat.zero_le _
  split
  · exact decX_b _
  · exact Nat.zero_le _
theorem F_law8_num.is {e : Int} {Q : Int → Heap → Prop} (k : Q e h) : F_law8_num e h Q := by
  rw [F_law8_num.eq_1, F_law8_num_of.eq_1]
  exact k
theorem F_law8_same.is {a : Sl} {xs : List UInt8} {Q : Bool → Heap → Prop} (O : Sat h0 h L) (U : Us h0) (E : Er h0) (Vx : Stays h0 L fun h => Bytes h a xs ∧ a.len ≤ a.cap) (hx : xs.length ≤ (140737488355325 : Nat)) (k : ∀ h', Sat h0 h' L → Q true h') : F_law8_same a h Q := by
  rw [F_law8_same.eq_1, F_law8_same_of.eq_1]
  obtain ⟨d, e, hd⟩ : ∃ d e, decP xs = (d, e) := ⟨_, _, rfl⟩
  have db : d.b.length < 4611686018427387904 := by
    have := decP_b xs
    rw [hd] at this
    have : d.b.length ≤ 16384 := this
    omega
  refine F_message_Decode.is O U E Vx hx hd fun s1 h O => ?_
  refine O.al fun a1 h O => ?_
  refine O.st 0 rfl (by simp) rfl fun h O => ?_
  dsimp only [List.set] at O
  rw [put_all (by rfl)] at O
  have O : Sat h0 h (own a1 (mgC { d with v := s1 }) :: buf 1 u8 s1 d.b :: L) := O
  refine F_ref8_Decode.is O (fun h O => Vx h O.drop.drop) hx hd fun s2 h O => ?_
  refine O.al fun a2 h O => ?_
  refine O.st 0 rfl (by simp) rfl fun h O => ?_
  dsimp only [List.set] at O
  rw [put_all (by rfl)] at O
  have O : Sat h0 h (own a2 (mgC { d with v := s2 }) :: buf 1 u8 s2 d.b :: own a1 (mgC { d with v := s1 }) :: buf 1 u8 s1 d.b :: L) := O
  refine jn_go ?_
  refine F_law8_num.is ?_
  refine brr_tt (by simp) ?_
  refine O.ld 2 rfl (mgC_ld ?_)
  refine O.ld 0 rfl (mgC_ld ?_)
  refine F_ref0_EqMsg.is (m := { d with v := s1 }) (n := { d with v := s2 }) O (fun h O => (O.view 3 u8_len (by simp) rfl).1) (fun h O => (O.view 1 u8_len (by simp) rfl).1) db db fun z h O hz => ?_
  rw [hz.2 rfl]
  exact k h O.drop.drop.drop.drop
def bg : Mg := { mgz with kind := 1, frm := 1, to := 2, epoch := 5 }
theorem bg_wrong : wrongM bg = 0 := by decide +kernel
theorem bg_body : bodyM bg = [1, 1, 2, 0, 5] := by
  show fixB 1 1 ++ fixB 1 1 ++ fixB 2 1 ++ fixB 0 1 ++ (varB 5 ++ []) = _
  rw [varB, if_pos (by decide)]
  decide +kernel
theorem bad_seal : decP [1, 1, 2, 0, 5] = (mgz, 82) := by
  unfold decP
  rw [if_neg (by decide), if_neg (by decide +kernel)]
theorem F_law8_begun.is {Q : Bool → Heap → Prop} (O : Sat h0 h L) (U : Us h0) (E : Er h0) (k : ∀ h', Sat h0 h' L → Q true h') : F_law8_begun h Q := by
  rw [F_law8_begun.eq_1, F_law8_begun_of.eq_1]
  have hdg : decP (sealB [1, 1, 2, 0, 5]) = (bg.bare, 0) := by rw [← bg_body]; exact decP_seal bg_wrong
  have hen : encB bg = sealB [1, 1, 2, 0, 5] := by unfold encB; rw [if_pos bg_wrong, bg_body]
  have hsl : (sealB [1, 1, 2, 0, 5]).length = 9 := by unfold sealB; rw [List.length_append, fixB_len]; rfl
  refine O.al fun a1 h O => ?_
  refine O.st 0 rfl (by simp) rfl fun h O => ?_
  dsimp only [List.set] at O
  rw [put_all (by rfl)] at O
  have O : Sat h0 h (own a1 (mgC { bg with v := nilS }) :: L) := O
  refine O.ld 0 rfl (mgC_ld ?_)
  refine F_message_Encode.is (m := bg) O U (fun h O => View.nil) (by intro q hq; show 0 ≤ pget q bg; unfold pget; split <;> decide) fun sE h O => ?_
  rw [bg_wrong]
  rw [hen] at O
  refine O.al fun a29 h O => ?_
  have O : Sat h0 h (own a29 (([1, 1, 2, 0, 5] : List UInt8).flatMap u8) :: buf 1 u8 sE (sealB [1, 1, 2, 0, 5]) :: own a1 (mgC { bg with v := nilS }) :: L) := O
  refine F_ref8_Seal.is (xs := [1, 1, 2, 0, 5]) O (fun h O => O.arr 0 (enc := u8) (xs := [1, 1, 2, 0, 5]) u8_len rfl) (by simp) fun sS h O => ?_
  refine F_message_Decode.is O U E (fun h O => O.view 0 u8_len (by simp) rfl) (by rw [hsl]; omega) hdg fun sV h O => ?_
  refine O.al fun a57 h O => ?_
  refine O.st 0 rfl (by simp) rfl fun h O => ?_
  dsimp only [List.set] at O
  rw [put_all (by rfl)] at O
  have O := O.sel [0, 1, 4, 5] 6 rfl (Nat.le_add_left _ _)
  have O : Sat h0 h (own a57 (mgC { bg with v := sV }) :: buf 1 u8 sV [] :: buf 1 u8 sE (sealB [1, 1, 2, 0, 5]) :: own a1 (mgC { bg with v := nilS }) :: L) := O
  refine O.al fun a60 h O => ?_
  have O : Sat h0 h (own a60 (([1, 1, 2, 0, 5] : List UInt8).flatMap u8) :: own a57 (mgC { bg with v := sV }) :: buf 1 u8 sV [] :: buf 1 u8 sE (sealB [1, 1, 2, 0, 5]) :: own a1 (mgC { bg with v := nilS }) :: L) := O
  refine F_message_Decode.is O U E (fun h O => ⟨O.arr 0 (enc := u8) (xs := [1, 1, 2, 0, 5]) u8_len rfl, Nat.le_refl _⟩) (by simp) bad_seal fun sW h O => ?_
  have O := O.drop.drop
  refine O.al fun a86 h O => ?_
  refine O.st 0 rfl (by simp) rfl fun h O => ?_
  have O := O.drop
  refine jn_go ?_
  refine F_law8_num.is ?_
  refine brr_tt (by decide) ?_
  refine F_law8_num.is ?_
  refine brr_tt (by decide) ?_
  refine O.al fun a94 h O => ?_
  have O : Sat h0 h (own a94 (([1, 1, 2, 0, 5] : List UInt8).flatMap u8) :: own a57 (mgC { bg with v := sV }) :: buf 1 u8 sV [] :: buf 1 u8 sE (sealB [1, 1, 2, 0, 5]) :: own a1 (mgC { bg with v := nilS }) :: L) := O
  refine F_ref8_Seal.is (xs := [1, 1, 2, 0, 5]) O (fun h O => O.arr 0 (enc := u8) (xs := [1, 1, 2, 0, 5]) u8_len rfl) (by simp) fun sT h O => ?_
  refine F_ref0_Eq.is (O.view 4 u8_len (by simp) rfl).1 (O.view 0 u8_len (by simp) rfl).1 (by rw [hsl]; decide) (by rw [hsl]; decide) ?_
  refine brr_tt (by simp) ?_
  have O := O.drop.drop
  refine O.ld 0 rfl (mgC_ld ?_)
  refine O.ld 3 rfl (mgC_ld ?_)
  refine F_ref0_EqMsg.is (m := { bg with v := sV }) (n := { bg with v := nilS }) O (fun h O => (O.view 1 u8_len (by simp) rfl).1) (fun h O => View.nil) (by show (0 : Nat) < _; decide) (by show (0 : Nat) < _; decide) fun z h O hz => ?_
  rw [hz.2 rfl]
  refine brr_tt rfl ?_
  refine F_law8_num.is ?_
  exact k h O.drop.drop.drop.drop
end
end Go.Proofs.YthiginhigfieiaaGreatDoor.V
/- One bit turned: its sum is another. -/
namespace Go.Proofs.YthiginhigfieiaaGreatDoor.V
open Go Go.RowKit
set_option linter.unusedVariables false
set_option linter.unusedSimpArgs false
theorem xor8 (a b : UInt8) : IntKind.u8.wrap (BitVec.ofInt IntKind.u8.bits (a.toNat : Int) ^^^ BitVec.ofInt IntKind.u8.bits (b.toNat : Int)).toNat = ((a ^^^ b).toNat : Int) := by
  have h : ∀ x : UInt8, BitVec.ofInt IntKind.u8.bits (x.toNat : Int) = x.toBitVec := by
    intro x
    show BitVec.ofInt 8 (x.toNat : Int) = x.toBitVec
    apply BitVec.eq_of_toNat_eq
    have := x.toNat_lt
    simp
  rw [h, h]
  have := (a ^^^ b).toNat_lt
  show IntKind.u8.wrap ((a ^^^ b).toNat : Int) = _
  exact wrapu8 (by omega) (by omega)
theorem ofNat_u8_xor (a b : UInt8) : BitVec.ofNat 32 (a ^^^ b).toNat = BitVec.ofNat 32 a.toNat ^^^ BitVec.ofNat 32 b.toNat := by
  rw [UInt8.toNat_xor]
  apply BitVec.eq_of_getLsbD_eq
  intro i hi
  rw [BitVec.getLsbD_xor, BitVec.getLsbD_ofNat, BitVec.getLsbD_ofNat, BitVec.getLsbD_ofNat, Nat.testBit_xor]
  simp [hi]
theorem crcByte_xor (x y : W32) (a b : UInt8) : crcByte (x ^^^ y) (a ^^^ b) = crcByte x a ^^^ crcByte y b := by
  unfold crcByte
  rw [ofNat_u8_xor, ← iter_xor]
  congr 1
  ac_rfl
theorem crcFrom_lin : ∀ (l : List UInt8) (x y : W32), crcFrom (x ^^^ y) l = crcFrom x l ^^^ iter (8 * l.length) y
  | [], _, _ => rfl
  | c :: l, x, y => by
    show crcFrom (crcByte (x ^^^ y) c) l = crcFrom (crcByte x c) l ^^^ _
    have e : crcByte (x ^^^ y) c = crcByte x c ^^^ iter 8 y := by
      unfold crcByte
      rw [← iter_xor]
      congr 1
      ac_rfl
    rw [e, crcFrom_lin l, ← iter_add]
    congr 2
theorem one_bit : ∀ k : Fin 8, crcByte 0#32 (UInt8.ofNat (2 ^ k.val)) = iter (8 - k.val) e0 := by decide +kernel
theorem crc_flip : ∀ (l : List UInt8) (j k : Nat) (c : UInt8) (n : W32), l[j]? = some c → k < 8 → crcFrom n (l.set j (c ^^^ UInt8.ofNat (2 ^ k))) = crcFrom n l ^^^ iter (8 * l.length - (8 * j + k)) e0
  | [], j, k, c, n, h, _ => by simp at h
  | d :: l, 0, k, c, n, h, hk => by
    simp at h; subst h
    show crcFrom (crcByte n (d ^^^ UInt8.ofNat (2 ^ k))) l = crcFrom (crcByte n d) l ^^^ _
    have e : crcByte n (d ^^^ UInt8.ofNat (2 ^ k)) = crcByte n d ^^^ crcByte 0#32 (UInt8.ofNat (2 ^ k)) := by
      have := crcByte_xor n 0#32 d (UInt8.ofNat (2 ^ k))
      rwa [BitVec.xor_zero] at this
    have h1 := one_bit ⟨k, hk⟩
    simp only at h1
    rw [e, h1, crcFrom_lin, ← iter_add]
    congr 2
    rw [List.length_cons]
    omega
  | d :: l, j + 1, k, c, n, h, hk => by
    rw [List.set_cons_succ]
    show crcFrom (crcByte n d) (l.set j (c ^^^ UInt8.ofNat (2 ^ k))) = crcFrom (crcByte n d) l ^^^ _
    rw [crc_flip l j k c _ (by simpa using h) hk]
    congr 2
    rw [List.length_cons]
    omega
theorem bit_back : ∀ k : Fin 32, iter k.val (1#32 <<< k.val) = e0 := by decide +kernel
theorem not_inj {x y : W32} : (~~~ x = ~~~ y) ↔ x = y := by
  constructor
  · intro h
    have := congrArg (~~~ ·) h
    simpa using this
  · intro h; rw [h]
theorem toNat_ne (x y : W32) : (((x.toNat : Int)) != (y.toNat : Int)) = decide (x ≠ y) := by
  by_cases h : x = y
  · simp [h]
  · have : ¬ x.toNat = y.toNat := fun e => h (BitVec.eq_of_toNat_eq e)
    simp [h]; omega
theorem toNat_eq (x y : W32) : (((x.toNat : Int)) == (y.toNat : Int)) = decide (x = y) := by
  by_cases h : x = y
  · simp [h]
  · have : ¬ x.toNat = y.toNat := fun e => h (BitVec.eq_of_toNat_eq e)
    simp [h]; omega
theorem xor_ne {x y : W32} : (x ^^^ y = x) ↔ y = 0#32 := by
  constructor
  · intro h
    have := congrArg (x ^^^ ·) h
    simpa [← BitVec.xor_assoc] using this
  · intro h; rw [h]; simp
theorem two_bits {n one two : Nat} (hn : n ≤ 8388608) (h1 : one < n) (h2 : two < n) : (iter (n - one) e0 = iter (n - two) e0) ↔ one = two := by
  have key : ∀ a b, a < b → b < n → iter (n - a) e0 ≠ iter (n - b) e0 := by
    intro a b hab hb h
    rw [show n - a = (n - b) + (b - a) by omega, iter_add] at h
    exact iter_back (by omega) (by omega) (iter_inj h)
  constructor
  · intro h
    rcases Nat.lt_trichotomy one two with hl | he | hl
    · exact absurd h (key _ _ hl h2)
    · exact he
    · exact absurd h.symm (key _ _ hl h1)
  · intro h; rw [h]
/-- The machine's mask of one bit. -/
theorem mask8 {i : Int} (h0 : 0 ≤ i) : IntKind.u8.wrap (1 * 2 ^ min (IntKind.u64.wrap (i.tmod 8)).toNat IntKind.u8.bits) = ((UInt8.ofNat (2 ^ (i.toNat % 8))).toNat : Int) := by
  rw [Int.tmod_eq_emod_of_nonneg h0, wrapu64 (by omega) (by omega)]
  have h8 : (i % 8).toNat = i.toNat % 8 := by omega
  have hk : i.toNat % 8 < 8 := Nat.mod_lt _ (by decide)
  rw [h8]
  generalize i.toNat % 8 = k at *
  have : ∀ k : Fin 8, IntKind.u8.wrap (1 * 2 ^ min k.val IntKind.u8.bits) = ((UInt8.ofNat (2 ^ k.val)).toNat : Int) := by decide
  exact this ⟨k, hk⟩
def flipU (l : List UInt8) (i : Nat) : List UInt8 := match l[i / 8]? with
  | some c => l.set (i / 8) (c ^^^ UInt8.ofNat (2 ^ (i % 8)))
  | none => l
theorem flipU_len (l : List UInt8) (i : Nat) : (flipU l i).length = l.length := by unfold flipU; split <;> simp
theorem flipU_crc (l : List UInt8) (i : Nat) (hi : i < 8 * l.length) (n : W32) : crcFrom n (flipU l i) = crcFrom n l ^^^ iter (8 * l.length - i) e0 := by
  unfold flipU
  rw [List.getElem?_eq_getElem (by omega : i / 8 < l.length)]
  simp only
  rw [crc_flip l (i / 8) (i % 8) _ n (List.getElem?_eq_getElem (by omega)) (Nat.mod_lt _ (by decide))]
  congr 2
  omega
section
variable {h0 h : Heap} {L : List Res}
/-- One bit of one's own list is turned. -/
theorem flip_step {s : Sl} {l : List UInt8} {i : Int} {K : Heap → Prop} (O : Sat h0 h (buf 1 u8 s l :: L)) (h0i : 0 ≤ i) (hi : i < 8 * l.length) (hl : l.length ≤ 281474976710656)
    (k : ∀ h', Sat h0 h' (buf 1 u8 s (flipU l i.toNat) :: L) → K h') :
    (8 : Int) ≠ 0 ∧ (8 : Int) ≠ 0 ∧ ixS 1 s (IntKind.i64.wrap (i.tdiv 8)) fun a39 => ld [.int .u8] a39 h fun v40 => (8 : Int) ≠ 0 ∧ 0 ≤ (IntKind.u64.wrap (i.tmod 8)) ∧ ixS 1 s (IntKind.i64.wrap (i.tdiv 8)) fun a41 =>
      st a41 [.int .u8 (IntKind.u8.wrap (BitVec.ofInt IntKind.u8.bits v40 ^^^ BitVec.ofInt IntKind.u8.bits (IntKind.u8.wrap (1 * 2 ^ min (IntKind.u64.wrap (i.tmod 8)).toNat IntKind.u8.bits))).toNat)] h K := by
  have e : IntKind.i64.wrap (i.tdiv 8) = i / 8 := by
    rw [Int.tdiv_eq_ediv_of_nonneg h0i, wrap64 (by omega) (by omega)]
  rw [e]
  refine ⟨by decide, by decide, ?_⟩
  refine Bytes.at (O.view 0 u8_len (by simp) rfl).1 (by omega) (by omega) fun c hc => ?_
  refine ⟨by decide, by rw [Int.tmod_eq_emod_of_nonneg h0i, wrapu64 (by omega) (by omega)]; omega, ?_⟩
  rw [mask8 h0i, xor8]
  refine O.put1 u8_len u8_one (by omega) (by omega) (c ^^^ UInt8.ofNat (2 ^ (i.toNat % 8))) rfl fun h' O => k h' ?_
  have e2 : (i / 8).toNat = i.toNat / 8 := by omega
  unfold flipU
  rw [← e2, hc]
  exact O
end
end Go.Proofs.YthiginhigfieiaaGreatDoor.V
/- The uses of each kind as the row lists them. -/
namespace Go.Proofs.YthiginhigfieiaaGreatDoor.V
open Go Go.RowKit
set_option linter.unusedVariables false
set_option linter.unusedSimpArgs false
section
variable {P : Program} {W : World}
abbrev trodL (P : Program) (W : World) := DataW.trod (fun _ : TypeId × Value => ()) P W 0 (fun _ => true) false
theorem trod_ints {fuel : Nat} {t e : TypeId} {cs : List Value} {ps : List MemPlace} {d : DataW Unit} (ht : P.underlying t = some (.slice e)) (he : P.underlying e = some (.int .i64)) (hce : P.cellsOf e = 1) (h : trodL P W fuel t cs = some (d, ps)) {fs : List Nat} (h0 : fs = [] → d = .nil) (h1 : fs ≠ [] → d = .slice (fs.map fun (f : Nat) => .lit (.int .i64 (f : Int))) []) : ∃ s : Sl, cs = [.slice s.ptr s.len s.cap] ∧ View W.heap 1 (En usC) s fs := by
  rcases DataW.trod_slice ht h with ⟨rfl, hx⟩ | ⟨a, len, cap, elems, rest, n, _, rfl, hx, _, _, _, hlen, hel, _, _⟩
  · have hd : d = .nil := congrArg Prod.fst hx
    have hf : fs = [] := Decidable.byContradiction fun g => by
      rw [h1 g] at hd
      cases hd
    subst hf
    exact ⟨⟨none, 0, 0⟩, rfl, View.nil⟩
  · have hd : d = .slice (elems.map (·.1)) (rest.map (·.1)) := congrArg Prod.fst hx
    have hf : fs ≠ [] := fun g => by
      rw [h0 g] at hd
      cases hd
    rw [h1 hf] at hd
    have h3 : (fs.map fun (f : Nat) => (.lit (.int .i64 (f : Int)) : DataW Unit)) = elems.map (·.1) := by
      injection hd
    have hfl : len = fs.length := by
      have := congrArg List.length h3
      simp at this
      omega
    refine ⟨⟨some a, len, cap⟩, rfl, hfl, fun i f hi => ?_⟩
    have hil : i < fs.length := (List.getElem?_eq_some_iff.1 hi).1
    have hy := hel i (by omega)
    have hex : elems[i]? = some (elems[i]'(by omega)) := List.getElem?_eq_getElem (by omega)
    generalize elems[i]'(by omega) = y at hex
    rw [hex] at hy
    replace hy := bind_some hy; obtain ⟨c, hc, hy⟩ := hy
    obtain ⟨z, ec, ey, _⟩ := DataW.trod_int he hy
    obtain ⟨hl, ha⟩ := cells_are hc
    have e2 : (elems.map (·.1))[i]? = some y.1 := by rw [List.getElem?_map, hex]; rfl
    rw [← h3, List.getElem?_map, hi] at e2
    simp only [Option.map_some, Option.some.injEq] at e2
    rw [ey] at e2
    simp only [DataW.lit.injEq, Lit.int.injEq, true_and] at e2
    refine ⟨a, c, rfl, ?_, ?_, ?_⟩
    · rw [ec]; rfl
    · rw [ec, ← e2]; rfl
    · rw [hce] at ha
      exact ha
def useD (k : Nat) : DataW Unit := if usN k = [] then .nil else .slice ((usN k).map fun (f : Nat) => .lit (.int .i64 (f : Int))) []
/-- The second of the row's two tables. -/
theorem us_of {n1 n2 : String} {d1 : DataW Unit} {g : Nat} {t s e : TypeId} (hg : P.globalNamed n2 = some g) (hty : (P.globals[g]?).map (·.type) = some t) (ht : P.underlying t = some (.array 12 s)) (hs : P.underlying s = some (.slice e)) (he : P.underlying e = some (.int .i64)) (hcs : P.cellsOf s = 1) (hce : P.cellsOf e = 1) (hb : g = 0) (h : laidMet P [(n1, d1), (n2, .agg ((List.range 12).map useD))] W) : Us W.heap := by
  obtain ⟨ps, ⟨_, _, _, _, _, _, _, _, _, _, ⟨g', t', cs, fuel, p, q, hg', ht', hvar, hd, _, _⟩, _⟩, _⟩ := h
  obtain rfl := Option.some.inj (hg.symm.trans hg')
  obtain rfl := Option.some.inj (hty.symm.trans ht')
  cases fuel with
  | zero => simp [DataW.trod] at hd
  | succ n =>
    unfold DataW.trod at hd
    rw [ht] at hd
    simp only [hcs, Nat.mul_one] at hd
    split at hd
    · replace hd := map_some' hd; obtain ⟨xs, hx, hd⟩ := hd
      obtain ⟨lx, gx⟩ := mapM_at hx
      have hx2 : xs.map (·.1) = (List.range 12).map useD := by
        have := congrArg Prod.fst hd
        simpa using this
      refine ⟨fun k hk => ?_⟩
      obtain ⟨y, hy, hyi⟩ := gx k k (by simp [hk])
      have e2 : (xs.map (·.1))[k]? = some y.1 := by rw [List.getElem?_map, hyi]; rfl
      rw [hx2, List.getElem?_map, List.getElem?_range hk] at e2
      simp only [Option.map_some, Option.some.injEq] at e2
      obtain ⟨u, hu, V⟩ := trod_ints (d := y.1) (ps := y.2) (fs := usN k) hs he hce hy (fun h => by rw [← e2]; unfold useD; rw [if_pos h]) (fun h => by rw [← e2]; unfold useD; rw [if_neg h])
      refine ⟨u, ?_, V⟩
      have hc : cs.toList[k]? = some (.slice u.ptr u.len u.cap) := by
        have := congrArg (·[0]?) hu
        simpa [List.getElem?_take, List.getElem?_drop] using this
      have hcell := World.var?_cell hg hvar k
      have h3 : W.cell? ⟨g, k, none⟩ = some (.slice u.ptr u.len u.cap) := by rw [hcell]; simpa using hc
      subst hb
      exact ⟨h3, trivial⟩
    · cases hd
end
end Go.Proofs.YthiginhigfieiaaGreatDoor.V
namespace Go.Proofs.YthiginhigfieiaaGreatDoor.V
open Go Go.RowKit
set_option linter.unusedVariables false
set_option maxRecDepth 100000
def F_law8_MessageTurned_of (f7_ : Heap → (Bool → Heap → Prop) → Prop) (f10_ : Int → Int → Int → Int → Int → Int → Int → Int → Int → Int → Sl → Int → Int → ByteArray → ByteArray → Int → Int → Int → Int → Int → Int → Int → Heap → (Sl → Int → Heap → Prop) → Prop) (f11_ : Int → Heap → (Int → Heap → Prop) → Prop) (f16_ : Sl → Heap → (Int → Int → Int → Int → Int → Int → Int → Int → Int → Int → Sl → Int → Int → ByteArray → ByteArray → Int → Int → Int → Int → Int → Int → Int → Int → Heap → Prop) → Prop) (f26_ : Sl → Heap → (Sl → Heap → Prop) → Prop) (f27_ : Sl → Heap → (Bool → Heap → Prop) → Prop) (t1 t2 t3 t4 t5 t6 t7 t8 t9 t10 : Int) (t11 : Sl) (t12 t13 : Int) (t14 t15 : ByteArray) (t16 t17 t18 t19 t20 t21 t22 t23 t24 : Int) (t25 : Sl) (h : Heap) (Q : Bool → Heap → Prop) : Prop :=
  al 76 [.int .i64 t1, .int .i64 t2, .int .i64 t3, .int .i64 t4, .int .u64 t5, .int .u64 t6, .int .u64 t7, .int .u64 t8, .int .i64 t9, .int .u64 t10, .slice t11.ptr t11.len t11.cap, .int .i64 t12, .int .u64 t13, .string t14, .string t15, .int .u64 t16, .int .u64 t17, .int .u64 t18, .int .i64 t19, .int .i64 t20, .int .i64 t21, .int .i64 t22, .int .i64 t23, .int .i64 t24, .slice t25.ptr t25.len t25.cap] h fun (a26 : Addr) (h27 : Heap) =>
  f7_ h27 fun (r28 : Bool) (h29 : Heap) =>
  brr (!r28)
  (Q false h29)
  (ld [.int .i64, .int .i64, .int .i64, .int .i64, .int .u64, .int .u64, .int .u64, .int .u64, .int .i64, .int .u64, .sl, .int .i64, .int .u64, .str, .str, .int .u64, .int .u64, .int .u64, .int .i64, .int .i64, .int .i64, .int .i64] (a26.add 0) h29 fun (v30 v31 v32 v33 v34 v35 v36 v37 v38 v39 : Int) (v40 : Sl) (v41 v42 : Int) (v43 v44 : ByteArray) (v45 v46 v47 v48 v49 v50 v51 : Int) =>
  f10_ v30 v31 v32 v33 v34 v35 v36 v37 v38 v39 v40 v41 v42 v43 v44 v45 v46 v47 v48 v49 v50 v51 h29 fun (r52 : Sl) (r53 : Int) (h54 : Heap) =>
  brr (r53 != 0)
  (f7_ h54 fun (r55 : Bool) (h56 : Heap) =>
  Q r55 h56)
  (ld [.int .i64] (a26.add 22) h54 fun (v57 : Int) =>
  (IntKind.i64.wrap (8 * ((r52.len : Nat) : Int))) ≠ 0 ∧
  f26_ r52 h54 fun (r58 : Sl) (h59 : Heap) =>
  (8 : Int) ≠ 0 ∧
  (8 : Int) ≠ 0 ∧
  ixS 1 r58 (IntKind.i64.wrap (((IntKind.i64.wrap (BitVec.ofInt IntKind.i64.bits v57 &&& BitVec.ofInt IntKind.i64.bits 16777215).toNat).tmod (IntKind.i64.wrap (8 * ((r52.len : Nat) : Int)))).tdiv 8)) fun (a60 : Addr) =>
  ld [.int .u8] a60 h59 fun (v61 : Int) =>
  (8 : Int) ≠ 0 ∧
  0 ≤ (IntKind.u64.wrap (((IntKind.i64.wrap (BitVec.ofInt IntKind.i64.bits v57 &&& BitVec.ofInt IntKind.i64.bits 16777215).toNat).tmod (IntKind.i64.wrap (8 * ((r52.len : Nat) : Int)))).tmod 8)) ∧
  ixS 1 r58 (IntKind.i64.wrap (((IntKind.i64.wrap (BitVec.ofInt IntKind.i64.bits v57 &&& BitVec.ofInt IntKind.i64.bits 16777215).toNat).tmod (IntKind.i64.wrap (8 * ((r52.len : Nat) : Int)))).tdiv 8)) fun (a62 : Addr) =>
  st a62 [.int .u8 (IntKind.u8.wrap (BitVec.ofInt IntKind.u8.bits v61 ^^^ BitVec.ofInt IntKind.u8.bits (IntKind.u8.wrap (1 * 2 ^ min (IntKind.u64.wrap (((IntKind.i64.wrap (BitVec.ofInt IntKind.i64.bits v57 &&& BitVec.ofInt IntKind.i64.bits 16777215).toNat).tmod (IntKind.i64.wrap (8 * ((r52.len : Nat) : Int)))).tmod 8)).toNat IntKind.u8.bits))).toNat)] h59 fun (h63 : Heap) =>
  f16_ r58 h63 fun (r64 r65 r66 r67 r68 r69 r70 r71 r72 r73 : Int) (r74 : Sl) (r75 r76 : Int) (r77 r78 : ByteArray) (r79 r80 r81 r82 r83 r84 r85 r86 : Int) (h87 : Heap) =>
  al 52 [.int .i64 0, .int .i64 0, .int .i64 0, .int .i64 0, .int .u64 0, .int .u64 0, .int .u64 0, .int .u64 0, .int .i64 0, .int .u64 0, .slice none 0 0, .int .i64 0, .int .u64 0, .string (⟨#[]⟩ : ByteArray), .string (⟨#[]⟩ : ByteArray), .int .u64 0, .int .u64 0, .int .u64 0, .int .i64 0, .int .i64 0, .int .i64 0, .int .i64 0] h87 fun (a88 : Addr) (h89 : Heap) =>
  st a88 [.int .i64 r64, .int .i64 r65, .int .i64 r66, .int .i64 r67, .int .u64 r68, .int .u64 r69, .int .u64 r70, .int .u64 r71, .int .i64 r72, .int .u64 r73, .slice r74.ptr r74.len r74.cap, .int .i64 r75, .int .u64 r76, .string r77, .string r78, .int .u64 r79, .int .u64 r80, .int .u64 r81, .int .i64 r82, .int .i64 r83, .int .i64 r84, .int .i64 r85] h89 fun (h90 : Heap) =>
  f11_ r86 h90 fun (r91 : Int) (h92 : Heap) =>
  brr (r91 != 82)
  (Q false h92)
  (ld [.int .i64] (a26.add 23) h92 fun (v93 : Int) =>
  ((r52.len : Nat) : Int) ≠ 0 ∧
  slTo r52 ((IntKind.i64.wrap (BitVec.ofInt IntKind.i64.bits v93 &&& BitVec.ofInt IntKind.i64.bits 16777215).toNat).tmod ((r52.len : Nat) : Int)) fun (s94 : Sl) =>
  f26_ s94 h92 fun (r95 : Sl) (h96 : Heap) =>
  ld [.sl] (a26.add 24) h96 fun (v97 : Sl) =>
  f26_ r52 h96 fun (r98 : Sl) (h99 : Heap) =>
  cellsAre h99 (a26.add 24) [.slice v97.ptr v97.len v97.cap] ∧
  app 5 1 1 (.int .u8 0) r98 v97.ptr v97.len h99 fun (s100 : Sl) (h101 : Heap) =>
  jn [(2, .one .bool)] (fun (x109 : Bool) (h110 : Heap) =>
  Q x109 h110) (fun (j102 : Bool → Heap → Prop) =>
  f27_ r95 h101 fun (r103 : Bool) (h104 : Heap) =>
  brr r103
  (f27_ s100 h104 fun (r105 : Bool) (h106 : Heap) =>
  brr r105
  (f7_ h106 fun (r107 : Bool) (h108 : Heap) =>
  j102 r107 h108)
  (j102 false h106))
  (j102 false h104)))))
def F_law8_MessageTurned (t1 t2 t3 t4 t5 t6 t7 t8 t9 t10 : Int) (t11 : Sl) (t12 t13 : Int) (t14 t15 : ByteArray) (t16 t17 t18 t19 t20 t21 t22 t23 t24 : Int) (t25 : Sl) (h : Heap) (Q : Bool → Heap → Prop) : Prop := F_law8_MessageTurned_of F_law8_begun F_ref8_Encode F_law8_num F_message_Decode F_ref0_Copy F_law8_same t1 t2 t3 t4 t5 t6 t7 t8 t9 t10 t11 t12 t13 t14 t15 t16 t17 t18 t19 t20 t21 t22 t23 t24 t25 h Q
def plan6 : Plan := .s (.r [1]) (.s (.s (.r [1, 13]) (.c (.s (.r [2]) .z) .z)) (.s (.r [1, 3, 4]) (.s (.s (.r [1, 3, 21]) (.c (.s (.r [2]) .z) .z)) (.s (.r [1, 3, 5]) (.s (.r [1, 3, 5, 6]) (.s (.r [1, 3, 6]) (.s (.r [1, 3, 8]) (.s (.s (.r [1, 3, 53]) (.c (.s (.r [2]) .z) .z)) (.s (.r [1, 3, 9]) (.s (.r [1, 3, 10]) (.s (.d [0, 1, 0, 4, 15, 31] [[0, 2, 3, 1, 4, 5]] [10, 11]) (.s (.rj [(2, .one .bool)] []) .z))))))))))))
theorem F_law8_MessageTurned.eq (f7_ : Heap → (Bool → Heap → Prop) → Prop) (f10_ : Int → Int → Int → Int → Int → Int → Int → Int → Int → Int → Sl → Int → Int → ByteArray → ByteArray → Int → Int → Int → Int → Int → Int → Int → Heap → (Sl → Int → Heap → Prop) → Prop) (f11_ : Int → Heap → (Int → Heap → Prop) → Prop) (f16_ : Sl → Heap → (Int → Int → Int → Int → Int → Int → Int → Int → Int → Int → Sl → Int → Int → ByteArray → ByteArray → Int → Int → Int → Int → Int → Int → Int → Int → Heap → Prop) → Prop) (f26_ : Sl → Heap → (Sl → Heap → Prop) → Prop) (f27_ : Sl → Heap → (Bool → Heap → Prop) → Prop) (t1 t2 t3 t4 t5 t6 t7 t8 t9 t10 : Int) (t11 : Sl) (t12 t13 : Int) (t14 t15 : ByteArray) (t16 t17 t18 t19 t20 t21 t22 t23 t24 : Int) (t25 : Sl) (h : Heap) (K : Value → Heap → Prop) : F_law8_MessageTurned_of f7_ f10_ f11_ f16_ f26_ f27_ t1 t2 t3 t4 t5 t6 t7 t8 t9 t10 t11 t12 t13 t14 t15 t16 t17 t18 t19 t20 t21 t22 t23 t24 t25 h (fun (r0 : Bool) (h : Heap) => K (.bool r0) h) =
    den Tryz.prog (fn1 7 (E_law8_begun_of f7_) (fn1 10 (E_ref8_Encode_of f10_) (fn1 11 (E_law8_num_of f11_) (fn1 16 (E_message_Decode_of f16_) (fn1 26 (E_ref0_Copy_of f26_) (fn1 27 (E_law8_same_of f27_) noFns)))))) Tryz.f6.ntmps plan6 (bodyOf Tryz.f6) (args0 0 [(.agg #[.int .i64 t1, .int .i64 t2, .int .i64 t3, .int .i64 t4, .int .u64 t5, .int .u64 t6, .int .u64 t7, .int .u64 t8, .int .i64 t9, .int .u64 t10, .slice t11.ptr t11.len t11.cap, .int .i64 t12, .int .u64 t13, .string t14, .string t15, .int .u64 t16, .int .u64 t17, .int .u64 t18, .int .i64 t19, .int .i64 t20, .int .i64 t21, .int .i64 t22, .int .i64 t23, .int .i64 t24, .slice t25.ptr t25.len t25.cap] : Value)]) h ⟨fun env h => dRes Tryz.prog Tryz.f6.results.toList env h K, fun _ _ _ => False, fun env h => dRes Tryz.prog Tryz.f6.results.toList env h K⟩ := by kernel_rfl
def E_law8_MessageTurned_of (f : Int → Int → Int → Int → Int → Int → Int → Int → Int → Int → Sl → Int → Int → ByteArray → ByteArray → Int → Int → Int → Int → Int → Int → Int → Int → Int → Sl → Heap → (Bool → Heap → Prop) → Prop) : List Value → Heap → (Value → Heap → Prop) → Prop
  | [v0], h, K => vAgg v0 fun cs0 => decs [.int .i64, .int .i64, .int .i64, .int .i64, .int .u64, .int .u64, .int .u64, .int .u64, .int .i64, .int .u64, .sl, .int .i64, .int .u64, .str, .str, .int .u64, .int .u64, .int .u64, .int .i64, .int .i64, .int .i64, .int .i64, .int .i64, .int .i64, .sl] cs0.toList fun (t1 t2 t3 t4 t5 t6 t7 t8 t9 t10 : Int) (t11 : Sl) (t12 t13 : Int) (t14 t15 : ByteArray) (t16 t17 t18 t19 t20 t21 t22 t23 t24 : Int) (t25 : Sl) =>
  f t1 t2 t3 t4 t5 t6 t7 t8 t9 t10 t11 t12 t13 t14 t15 t16 t17 t18 t19 t20 t21 t22 t23 t24 t25 h (fun (r0 : Bool) (h : Heap) => K (.bool r0) h)
  | _, _, _ => False
abbrev E_law8_MessageTurned := E_law8_MessageTurned_of F_law8_MessageTurned
theorem E_law8_MessageTurned.at (f : Int → Int → Int → Int → Int → Int → Int → Int → Int → Int → Sl → Int → Int → ByteArray → ByteArray → Int → Int → Int → Int → Int → Int → Int → Int → Int → Sl → Heap → (Bool → Heap → Prop) → Prop) (t1 t2 t3 t4 t5 t6 t7 t8 t9 t10 : Int) (t11 : Sl) (t12 t13 : Int) (t14 t15 : ByteArray) (t16 t17 t18 t19 t20 t21 t22 t23 t24 : Int) (t25 : Sl) (h : Heap) (K : Value → Heap → Prop) : E_law8_MessageTurned_of f [.agg ([.int .i64 t1, .int .i64 t2, .int .i64 t3, .int .i64 t4, .int .u64 t5, .int .u64 t6, .int .u64 t7, .int .u64 t8, .int .i64 t9, .int .u64 t10, .slice t11.ptr t11.len t11.cap, .int .i64 t12, .int .u64 t13, .string t14, .string t15, .int .u64 t16, .int .u64 t17, .int .u64 t18, .int .i64 t19, .int .i64 t20, .int .i64 t21, .int .i64 t22, .int .i64 t23, .int .i64 t24, .slice t25.ptr t25.len t25.cap] : List Value).toArray] h K = f t1 t2 t3 t4 t5 t6 t7 t8 t9 t10 t11 t12 t13 t14 t15 t16 t17 t18 t19 t20 t21 t22 t23 t24 t25 h (fun (r0 : Bool) (h : Heap) => K (.bool r0) h) := rfl
theorem E_law8_MessageTurned.right : IsRight Tryz.prog 6 E_law8_MessageTurned := by
  refine isRight fun vs K w hh => ?_
  match vs, hh with
  | [v0], hh =>
    unfold E_law8_MessageTurned E_law8_MessageTurned_of at hh
    replace hh := vAgg_sound hh; obtain ⟨cs0, rfl, hh⟩ := hh
    replace hh := decs_cons hh; obtain ⟨t1, l0_0, e0_0, hh⟩ := hh
    replace hh := decs_cons hh; obtain ⟨t2, l0_1, e0_1, hh⟩ := hh
    replace hh := decs_cons hh; obtain ⟨t3, l0_2, e0_2, hh⟩ := hh
    replace hh := decs_cons hh; obtain ⟨t4, l0_3, e0_3, hh⟩ := hh
    replace hh := decs_cons hh; obtain ⟨t5, l0_4, e0_4, hh⟩ := hh
    replace hh := decs_cons hh; obtain ⟨t6, l0_5, e0_5, hh⟩ := hh
    replace hh := decs_cons hh; obtain ⟨t7, l0_6, e0_6, hh⟩ := hh
    replace hh := decs_cons hh; obtain ⟨t8, l0_7, e0_7, hh⟩ := hh
    replace hh := decs_cons hh; obtain ⟨t9, l0_8, e0_8, hh⟩ := hh
    replace hh := decs_cons hh; obtain ⟨t10, l0_9, e0_9, hh⟩ := hh
    replace hh := decs_cons hh; obtain ⟨t11, l0_10, e0_10, hh⟩ := hh
    replace hh := decs_cons hh; obtain ⟨t12, l0_11, e0_11, hh⟩ := hh
    replace hh := decs_cons hh; obtain ⟨t13, l0_12, e0_12, hh⟩ := hh
    replace hh := decs_cons hh; obtain ⟨t14, l0_13, e0_13, hh⟩ := hh
    replace hh := decs_cons hh; obtain ⟨t15, l0_14, e0_14, hh⟩ := hh
    replace hh := decs_cons hh; obtain ⟨t16, l0_15, e0_15, hh⟩ := hh
    replace hh := decs_cons hh; obtain ⟨t17, l0_16, e0_16, hh⟩ := hh
    replace hh := decs_cons hh; obtain ⟨t18, l0_17, e0_17, hh⟩ := hh
    replace hh := decs_cons hh; obtain ⟨t19, l0_18, e0_18, hh⟩ := hh
    replace hh := decs_cons hh; obtain ⟨t20, l0_19, e0_19, hh⟩ := hh
    replace hh := decs_cons hh; obtain ⟨t21, l0_20, e0_20, hh⟩ := hh
    replace hh := decs_cons hh; obtain ⟨t22, l0_21, e0_21, hh⟩ := hh
    replace hh := decs_cons hh; obtain ⟨t23, l0_22, e0_22, hh⟩ := hh
    replace hh := decs_cons hh; obtain ⟨t24, l0_23, e0_23, hh⟩ := hh
    replace hh := decs_cons hh; obtain ⟨t25, l0_24, e0_24, hh⟩ := hh
    replace hh := decs_nil hh; obtain ⟨rfl, hh⟩ := hh
    subst e0_24
    subst e0_23
    subst e0_22
    subst e0_21
    subst e0_20
    subst e0_19
    subst e0_18
    subst e0_17
    subst e0_16
    subst e0_15
    subst e0_14
    subst e0_13
    subst e0_12
    subst e0_11
    subst e0_10
    subst e0_9
    subst e0_8
    subst e0_7
    subst e0_6
    subst e0_5
    subst e0_4
    subst e0_3
    subst e0_2
    subst e0_1
    have ec0 := toArray_eq e0_0
    subst ec0
    unfold F_law8_MessageTurned at hh
    exact calls_den (fn1_right ok7 E_law8_begun.right (fn1_right ok10 E_ref8_Encode.right (fn1_right ok11 E_law8_num.right (fn1_right ok16 E_message_Decode.right (fn1_right ok26 E_ref0_Copy.right (fn1_right ok27 E_law8_same.right noFns_right)))))) plan6 _ w K Tryz.func6 (by kernel_rfl) (by kernel_rfl) (Eq.mp (F_law8_MessageTurned.eq F_law8_begun F_ref8_Encode F_law8_num F_message_Decode F_ref0_Copy F_law8_same t1 t2 t3 t4 t5 t6 t7 t8 t9 t10 t11 t12 t13 t14 t15 t16 t17 t18 t19 t20 t21 t22 t23 t24 t25 w.heap K) hh)
theorem ok6 : okFn Tryz.prog 6 = true := by kernel_rfl
end Go.Proofs.YthiginhigfieiaaGreatDoor.V
/- A message with one bit turned: what MessageTurned plays. -/
namespace Go.Proofs.YthiginhigfieiaaGreatDoor.V
open Go Go.RowKit
set_option linter.unusedVariables false
set_option linter.unusedSimpArgs false
abbrev tyB : Ty := .sl 1 1 (.int .u8)
abbrev tyMsg : Ty := .cons (.cons (.int .i64) (.cons (.int .i64) (.cons (.int .i64) (.cons (.int .i64) .nil)))) (.cons (.int .u64) (.cons (.cons (.int .u64) (.cons (.int .u64) .nil)) (.cons (.int .u64) (.cons (.int .i64) (.cons (.int .u64) (.cons tyB (.cons (.int .i64) (.cons (.int .u64) (.cons .str (.cons .str (.cons (.int .u64) (.cons (.cons (.int .u64) (.cons (.int .u64) .nil)) (.cons (.int .i64) (.cons (.int .i64) (.cons (.int .i64) (.cons (.int .i64) .nil))))))))))))))))
abbrev tyTurn : Ty := .cons tyMsg (.cons (.int .i64) (.cons (.int .i64) (.cons tyB .nil)))
theorem flip_crc_ne {l : List UInt8} {i : Nat} (hi : i < 8 * l.length) : crc (flipU l i) ≠ crc l := by
  unfold crc
  rw [Ne, not_inj, flipU_crc l i hi, xor_ne]
  intro e
  exact absurd (iter_inj0 _ e) (by decide)
theorem flip_ne {l : List UInt8} {i : Nat} (hi : i < 8 * l.length) : flipU l i ≠ l := fun e => flip_crc_ne hi (by rw [e])
theorem flip_left {a b : List UInt8} {i : Nat} (hi : i < 8 * a.length) : flipU (a ++ b) i = flipU a i ++ b := by
  unfold flipU
  rw [List.getElem?_append_left (by omega), List.getElem?_eq_getElem (by omega : i / 8 < a.length)]
  simp only
  rw [List.set_append_left _ _ (by omega)]
theorem flip_right {a b : List UInt8} {i : Nat} (hi : 8 * a.length ≤ i) : flipU (a ++ b) i = a ++ flipU b (i - 8 * a.length) := by
  unfold flipU
  rw [List.getElem?_append_right (by omega), show (i - 8 * a.length) / 8 = i / 8 - a.length by omega, show (i - 8 * a.length) % 8 = i % 8 by omega]
  split
  · rw [List.set_append_right _ _ (by omega)]
  · rfl
/-- A sealed text with one bit turned is sealed no more. -/
theorem decP_flip {ys : List UInt8} {i : Nat} (hy : ys.length ≤ 16990) (hi : i < 8 * (sealB ys).length) : decP (flipU (sealB ys) i) = (mgz, 82) := by
  have hs : (sealB ys).length = ys.length + 4 := by unfold sealB; rw [List.length_append, fixB_len]
  have hl := flipU_len (sealB ys) i
  have hlt := (crc ys).isLt
  unfold decP
  rw [if_neg (by omega), hl, hs, Nat.add_sub_cancel]
  rw [if_neg]
  unfold sealB at *
  by_cases h : i < 8 * ys.length
  · rw [flip_left h, ← flipU_len ys i, List.take_left, List.drop_left, beN_fixB 4 _ (by omega)]
    intro e
    exact flip_crc_ne h (BitVec.eq_of_toNat_eq e).symm
  · rw [flip_right (by omega), List.take_left, List.drop_left]
    intro e
    have hf : i - 8 * ys.length < 8 * (fixB (crc ys).toNat 4).length := by rw [fixB_len]; omega
    have h4 : (flipU (fixB (crc ys).toNat 4) (i - 8 * ys.length)).length = 4 := by rw [flipU_len, fixB_len]
    have := fixB_beN 4 _ h4
    rw [e] at this
    exact flip_ne hf this.symm
theorem and24 (v : Int) : ∃ n : Nat, n < 16777216 ∧ IntKind.i64.wrap (BitVec.ofInt IntKind.i64.bits v &&& BitVec.ofInt IntKind.i64.bits 16777215).toNat = (n : Int) := by
  have h : (BitVec.ofInt IntKind.i64.bits v &&& BitVec.ofInt IntKind.i64.bits 16777215).toNat ≤ 16777215 := by
    rw [BitVec.toNat_and]
    exact Nat.and_le_right
  exact ⟨(BitVec.ofInt IntKind.i64.bits v &&& BitVec.ofInt IntKind.i64.bits 16777215).toNat, by omega, wrap64 (by omega) (by omega)⟩
set_option maxRecDepth 20000 in
theorem messageTurned_main (H : Heap) (cs : List Value) (F : Fit H 1048576 tyTurn cs) (E : Er H) (U : Us H) : E_law8_MessageTurned [.agg cs.toArray] H (fun r h' => r = .bool true ∧ KeptH H h') := by
  replace F := Fit.g F
  replace F := Fit.g F
  obtain ⟨m1, _, rfl, m1a, m1b, F⟩ := Fit.i F
  replace F := Fit.g F
  obtain ⟨m2, _, rfl, m2a, m2b, F⟩ := Fit.i F
  replace F := Fit.g F
  obtain ⟨m3, _, rfl, m3a, m3b, F⟩ := Fit.i F
  replace F := Fit.g F
  obtain ⟨m4, _, rfl, m4a, m4b, F⟩ := Fit.i F
  replace F := Fit.z F
  replace F := Fit.g F
  obtain ⟨m5, _, rfl, m5a, m5b, F⟩ := Fit.i F
  replace F := Fit.g F
  replace F := Fit.g F
  obtain ⟨m6, _, rfl, m6a, m6b, F⟩ := Fit.i F
  replace F := Fit.g F
  obtain ⟨m7, _, rfl, m7a, m7b, F⟩ := Fit.i F
  replace F := Fit.z F
  replace F := Fit.g F
  obtain ⟨m8, _, rfl, m8a, m8b, F⟩ := Fit.i F
  replace F := Fit.g F
  obtain ⟨m9, _, rfl, m9a, m9b, F⟩ := Fit.i F
  replace F := Fit.g F
  obtain ⟨m10, _, rfl, m10a, m10b, F⟩ := Fit.i F
  replace F := Fit.g F
  obtain ⟨m11, _, rfl, m11S, F⟩ := Fit.s F
  replace F := Fit.g F
  obtain ⟨m12, _, rfl, m12a, m12b, F⟩ := Fit.i F
  replace F := Fit.g F
  obtain ⟨m13, _, rfl, m13a, m13b, F⟩ := Fit.i F
  replace F := Fit.g F
  obtain ⟨m14, _, rfl, m14l, F⟩ := Fit.a F
  replace F := Fit.g F
  obtain ⟨m15, _, rfl, m15l, F⟩ := Fit.a F
  replace F := Fit.g F
  obtain ⟨m16, _, rfl, m16a, m16b, F⟩ := Fit.i F
  replace F := Fit.g F
  replace F := Fit.g F
  obtain ⟨m17, _, rfl, m17a, m17b, F⟩ := Fit.i F
  replace F := Fit.g F
  obtain ⟨m18, _, rfl, m18a, m18b, F⟩ := Fit.i F
  replace F := Fit.z F
  replace F := Fit.g F
  obtain ⟨m19, _, rfl, m19a, m19b, F⟩ := Fit.i F
  replace F := Fit.g F
  obtain ⟨m20, _, rfl, m20a, m20b, F⟩ := Fit.i F
  replace F := Fit.g F
  obtain ⟨m21, _, rfl, m21a, m21b, F⟩ := Fit.i F
  replace F := Fit.g F
  obtain ⟨m22, _, rfl, m22a, m22b, F⟩ := Fit.i F
  replace F := Fit.z F
  obtain ⟨t23, _, rfl, t23a, t23b, F⟩ := Fit.i F
  obtain ⟨t24, _, rfl, t24a, t24b, F⟩ := Fit.i F
  obtain ⟨t25, _, rfl, t25S, F⟩ := Fit.s F
  obtain rfl := Fit.e F
  refine Eq.mpr (E_law8_MessageTurned.at F_law8_MessageTurned m1 m2 m3 m4 m5 m6 m7 m8 m9 m10 m11 m12 m13 m14 m15 m16 m17 m18 m19 m20 m21 m22 t23 t24 t25 H _) ?_
  obtain ⟨_, a2, l, Vl⟩ := m11S.bytes
  obtain ⟨_, b2, tl, Vt⟩ := t25S.bytes
  have hl := Vl.len
  have ht := Vt.len
  rw [u64_min] at m5a m6a m7a m8a m10a m13a m16a m17a m18a
  obtain ⟨m, hm⟩ : ∃ m : Mg, m = ⟨m1, m2, m3, m4, m5, m6, m7, m8, m9, m10, m11, m12, m13, m14, m15, m16, m17, m18, m19, m20, m21, m22, l⟩ := ⟨_, rfl⟩
  have hpos : Pos m := by
    intro q hq
    rw [hm]
    by_cases h18 : q < 18
    · rcases (cas h18 hq).1 rfl with rfl | rfl | rfl | rfl | rfl | rfl | rfl | rfl | rfl <;> assumption
    · unfold pget
      split <;> first | omega | exact Int.le_refl _
  rw [F_law8_MessageTurned.eq_1, F_law8_MessageTurned_of.eq_1]
  refine Sat.al (Sat.nil H) fun a h O => ?_
  refine F_law8_begun.is O U E fun h O => ?_
  refine brr_ff rfl ?_
  simp only [nn_some, pt_add, Nat.zero_add, Nat.add_zero, Nat.reduceAdd, Nat.reduceMul, Int.toNat_zero, Int.toNat_one, Nat.zero_mul, Nat.one_mul]
  refine O.ld 0 rfl (ldL_c (ldL_c (ldL_c (ldL_c (ldL_c (ldL_c (ldL_c (ldL_c (ldL_c (ldL_c (ldL_s (ldL_c (ldL_c (ldL_c (ldL_c (ldL_c (ldL_c (ldL_c (ldL_c (ldL_c (ldL_c (ldL_c (ldL_n ?_)))))))))))))))))))))))
  have V : Stays H [own a (mgC m ++ [.int .i64 t23, .int .i64 t24, .slice t25.ptr t25.len t25.cap])] fun h => Bytes h m.v m.b := by
    rw [hm]
    exact fun h O => Vl.kept O.kept
  have hb : m.b.length < 4611686018427387904 := by rw [hm]; show l.length < _; omega
  have O : Sat H h [own a (mgC m ++ [.int .i64 t23, .int .i64 t24, .slice t25.ptr t25.len t25.cap])] := by rw [hm]; exact O
  subst hm
  refine F_ref8_Encode.is (m := ⟨m1, m2, m3, m4, m5, m6, m7, m8, m9, m10, m11, m12, m13, m14, m15, m16, m17, m18, m19, m20, m21, m22, l⟩) O V hb hpos fun s h O => ?_
  generalize (⟨m1, m2, m3, m4, m5, m6, m7, m8, m9, m10, m11, m12, m13, m14, m15, m16, m17, m18, m19, m20, m21, m22, l⟩ : Mg) = m at O V hpos ⊢
  refine brr_ne (fun e => ?_) (fun e => ?_)
  · refine F_law8_begun.is O U E fun h O => ?_
    exact And.intro (by first | rfl | trivial) O.kept
  have hx : encB m = sealB (bodyM m) := by unfold encB; rw [if_pos e]
  have hbl := body_len e
  rw [hx] at O
  have hxl : (sealB (bodyM m)).length = (bodyM m).length + 4 := by unfold sealB; rw [List.length_append, fixB_len]
  have hflip : ∀ i, i < 8 * (sealB (bodyM m)).length → decP (flipU (sealB (bodyM m)) i) = (mgz, 82) := fun i hi => decP_flip hbl.1 hi
  generalize hxs : sealB (bodyM m) = xs at *
  obtain ⟨hV0, hcap⟩ := O.view 0 u8_len (by simp) rfl
  have hsl := hV0.len
  refine O.ld 1 rfl (ldL_c (ldL_n ?_))
  rw [hsl, wrap64 (x := 8 * (xs.length : Int)) (by omega) (by omega)]
  refine ⟨by omega, ?_⟩
  refine F_ref0_Copy.is O hV0 (by omega) fun sc h O _ _ => ?_
  obtain ⟨n, hn, e24⟩ := and24 t23
  rw [e24]
  have i0 : 0 ≤ (n : Int).tmod (8 * (xs.length : Int)) := Int.tmod_nonneg _ (by omega)
  have i1 : (n : Int).tmod (8 * (xs.length : Int)) < 8 * (xs.length : Int) := Int.tmod_lt_of_pos _ (by omega)
  generalize (n : Int).tmod (8 * (xs.length : Int)) = i at i0 i1 ⊢
  refine flip_step O i0 (by omega) (by omega) fun h O => ?_
  refine F_message_Decode.is O U E (fun h O => O.view 0 u8_len (by simp) rfl) (by rw [flipU_len]; omega) (hflip i.toNat (by omega)) fun sd h O => ?_
  refine O.al fun z h O => ?_
  refine O.st 0 rfl (by simp) rfl fun h O => ?_
  have O := O.drop.drop.drop
  refine F_law8_num.is ?_
  refine brr_ff (by decide) ?_
  have O : Sat H h [buf 1 u8 s xs, own a (mgC m ++ [.int .i64 t23, .int .i64 t24, .slice t25.ptr t25.len t25.cap])] := O
  refine O.ld 1 rfl (ldL_c (ldL_n ?_))
  refine ⟨by omega, ?_⟩
  obtain ⟨n2, hn2, e24b⟩ := and24 t24
  rw [e24b]
  have j0 : 0 ≤ (n2 : Int).tmod (xs.length : Int) := Int.tmod_nonneg _ (by omega)
  have j1 : (n2 : Int).tmod (xs.length : Int) < (xs.length : Int) := Int.tmod_lt_of_pos _ (by omega)
  generalize (n2 : Int).tmod (xs.length : Int) = k at j0 j1 ⊢
  refine ⟨j0, by omega, ?_⟩
  refine F_ref0_Copy.is O ((O.view 0 u8_len (by simp) rfl).1.take k.toNat s.cap (by omega)) (by rw [List.length_take]; omega) fun sd h O _ _ => ?_
  refine O.ld 2 rfl (ldL_s (ldL_n ?_))
  refine F_ref0_Copy.is O (O.view 1 u8_len (by simp) rfl).1 (by omega) fun sg h O _ _ => ?_
  refine ⟨O.cells 3 rfl 24 1, ?_⟩
  have Vt2 := Vt.kept O.kept
  refine O.app_buf u8_len u8_one rfl (ys := tl) Vt2.len (Vt2.rd u8_len) (by omega) fun sg h O _ => ?_
  refine jn_go ?_
  refine F_law8_same.is O U E (fun h O => O.view 1 u8_len (by simp) rfl) (by rw [List.length_take]; omega) fun h O => ?_
  refine brr_tt rfl ?_
  refine F_law8_same.is O U E (fun h O => O.view 0 u8_len (by simp) rfl) (by rw [List.length_append]; omega) fun h O => ?_
  refine brr_tt rfl ?_
  refine F_law8_begun.is O U E fun h O => ?_
  exact And.intro (by first | rfl | trivial) O.kept
end Go.Proofs.YthiginhigfieiaaGreatDoor.V
namespace Go.Proofs.YthiginhigfieiaaGreatDoor.V
open Go Go.RowKit
set_option linter.unusedVariables false
set_option maxRecDepth 100000
def F_law8_MessageBack.l1 (f12_ : Sl → Sl → Heap → (Bool → Heap → Prop) → Prop) (f18_ : Int → Int → Int → Int → Int → Int → Int → Int → Int → Int → Sl → Int → Int → ByteArray → ByteArray → Int → Int → Int → Int → Int → Int → Int → Int → Int → Int → Int → Int → Int → Int → Int → Int → Int → Sl → Int → Int → ByteArray → ByteArray → Int → Int → Int → Int → Int → Int → Int → Heap → (Bool → Heap → Prop) → Prop) (Q : Bool → Heap → Prop) (a3 : Addr) (all9 : Sl) (i10 : Int) (a38 : Addr) (r88 : Sl) (j175 : Heap → Prop) : Int → Heap → Prop :=
  wl [(12, .one (.int .i64))] (fun (next176 : Int → Heap → Prop) (k177 : Int) (h178 : Heap) =>
  brr (decide (k177 < i10))
  (jn [(106, .one .bool)] (fun (x234 : Bool) (h235 : Heap) =>
  brr x234
  (Q false h235)
  (next176 (IntKind.i64.wrap (k177 + 1)) h235)) (fun (j179 : Bool → Heap → Prop) =>
  ixS 1 all9 k177 fun (a180 : Addr) =>
  ld [.sl] a180 h178 fun (v181 : Sl) =>
  brr (decide (((v181.len : Nat) : Int) > 0))
  (ixS 1 all9 k177 fun (a182 : Addr) =>
  ld [.sl] a182 h178 fun (v183 : Sl) =>
  ld [.sl] (a3.add 0) h178 fun (v184 : Sl) =>
  ixS 22 v184 k177 fun (a185 : Addr) =>
  ld [.int .i64, .int .i64, .int .i64, .int .i64, .int .u64, .int .u64, .int .u64, .int .u64, .int .i64, .int .u64, .sl, .int .i64, .int .u64, .str, .str, .int .u64, .int .u64, .int .u64, .int .i64, .int .i64, .int .i64, .int .i64] a185 h178 fun (v186 v187 v188 v189 v190 v191 v192 v193 v194 v195 : Int) (v196 : Sl) (v197 v198 : Int) (v199 v200 : ByteArray) (v201 v202 v203 v204 v205 v206 v207 : Int) =>
  ld [.int .i64, .int .i64, .int .i64, .int .i64, .int .u64, .int .u64, .int .u64, .int .u64, .int .i64, .int .u64, .sl, .int .i64, .int .u64, .str, .str, .int .u64, .int .u64, .int .u64, .int .i64, .int .i64, .int .i64, .int .i64] a38 h178 fun (v208 v209 v210 v211 v212 v213 v214 v215 v216 v217 : Int) (v218 : Sl) (v219 v220 : Int) (v221 v222 : ByteArray) (v223 v224 v225 v226 v227 v228 v229 : Int) =>
  f12_ v183 r88 h178 fun (r230 : Bool) (h231 : Heap) =>
  cellsAre h231 (a3.add 0) [.slice v184.ptr v184.len v184.cap] ∧
  cellsAre h231 a185 [.int .i64 v186, .int .i64 v187, .int .i64 v188, .int .i64 v189, .int .u64 v190, .int .u64 v191, .int .u64 v192, .int .u64 v193, .int .i64 v194, .int .u64 v195, .slice v196.ptr v196.len v196.cap, .int .i64 v197, .int .u64 v198, .string v199, .string v200, .int .u64 v201, .int .u64 v202, .int .u64 v203, .int .i64 v204, .int .i64 v205, .int .i64 v206, .int .i64 v207] ∧
  cellsAre h231 a38 [.int .i64 v208, .int .i64 v209, .int .i64 v210, .int .i64 v211, .int .u64 v212, .int .u64 v213, .int .u64 v214, .int .u64 v215, .int .i64 v216, .int .u64 v217, .slice v218.ptr v218.len v218.cap, .int .i64 v219, .int .u64 v220, .string v221, .string v222, .int .u64 v223, .int .u64 v224, .int .u64 v225, .int .i64 v226, .int .i64 v227, .int .i64 v228, .int .i64 v229] ∧
  f18_ v186 v187 v188 v189 v190 v191 v192 v193 v194 v195 v196 v197 v198 v199 v200 v201 v202 v203 v204 v205 v206 v207 v208 v209 v210 v211 v212 v213 v214 v215 v216 v217 v218 v219 v220 v221 v222 v223 v224 v225 v226 v227 v228 v229 h231 fun (r232 : Bool) (h233 : Heap) =>
  j179 (!(r230 == r232)) h233)
  (j179 false h178)))
  (j175 h178))
def F_law8_MessageBack.l2 (f9_ : Int → Int → Int → Int → Int → Int → Int → Int → Int → Int → Sl → Int → Int → ByteArray → ByteArray → Int → Int → Int → Int → Int → Int → Int → Heap → (Sl → Int → Heap → Prop) → Prop) (f10_ : Int → Int → Int → Int → Int → Int → Int → Int → Int → Int → Sl → Int → Int → ByteArray → ByteArray → Int → Int → Int → Int → Int → Int → Int → Heap → (Sl → Int → Heap → Prop) → Prop) (f11_ : Int → Heap → (Int → Heap → Prop) → Prop) (f12_ : Sl → Sl → Heap → (Bool → Heap → Prop) → Prop) (f16_ : Sl → Heap → (Int → Int → Int → Int → Int → Int → Int → Int → Int → Int → Sl → Int → Int → ByteArray → ByteArray → Int → Int → Int → Int → Int → Int → Int → Int → Heap → Prop) → Prop) (f18_ : Int → Int → Int → Int → Int → Int → Int → Int → Int → Int → Sl → Int → Int → ByteArray → ByteArray → Int → Int → Int → Int → Int → Int → Int → Int → Int → Int → Int → Int → Int → Int → Int → Int → Int → Sl → Int → Int → ByteArray → ByteArray → Int → Int → Int → Int → Int → Int → Int → Heap → (Bool → Heap → Prop) → Prop) (Q : Bool → Heap → Prop) (a3 : Addr) (j7 : Heap → Prop) : Sl → Int → Heap → Prop :=
  wl [(3, .one .sl), (4, .one (.int .i64))] (fun (next8 : Sl → Int → Heap → Prop) (all9 : Sl) (i10 : Int) (h11 : Heap) =>
  ld [.sl] (a3.add 0) h11 fun (v12 : Sl) =>
  brr (decide (i10 < ((v12.len : Nat) : Int)))
  (jn [(3, .one .sl)] (fun (all241 : Sl) (h242 : Heap) =>
  next8 all241 (IntKind.i64.wrap (i10 + 1)) h242) (fun (j13 : Sl → Heap → Prop) =>
  ld [.sl] (a3.add 0) h11 fun (v14 : Sl) =>
  ixS 22 v14 i10 fun (a15 : Addr) =>
  ld [.int .i64, .int .i64, .int .i64, .int .i64, .int .u64, .int .u64, .int .u64, .int .u64, .int .i64, .int .u64, .sl, .int .i64, .int .u64, .str, .str, .int .u64, .int .u64, .int .u64, .int .i64, .int .i64, .int .i64, .int .i64] a15 h11 fun (v16 v17 v18 v19 v20 v21 v22 v23 v24 v25 : Int) (v26 : Sl) (v27 v28 : Int) (v29 v30 : ByteArray) (v31 v32 v33 v34 v35 v36 v37 : Int) =>
  al 52 [.int .i64 0, .int .i64 0, .int .i64 0, .int .i64 0, .int .u64 0, .int .u64 0, .int .u64 0, .int .u64 0, .int .i64 0, .int .u64 0, .slice none 0 0, .int .i64 0, .int .u64 0, .string (⟨#[]⟩ : ByteArray), .string (⟨#[]⟩ : ByteArray), .int .u64 0, .int .u64 0, .int .u64 0, .int .i64 0, .int .i64 0, .int .i64 0, .int .i64 0] h11 fun (a38 : Addr) (h39 : Heap) =>
  st a38 [.int .i64 v16, .int .i64 v17, .int .i64 v18, .int .i64 v19, .int .u64 v20, .int .u64 v21, .int .u64 v22, .int .u64 v23, .int .i64 v24, .int .u64 v25, .slice v26.ptr v26.len v26.cap, .int .i64 v27, .int .u64 v28, .string v29, .string v30, .int .u64 v31, .int .u64 v32, .int .u64 v33, .int .i64 v34, .int .i64 v35, .int .i64 v36, .int .i64 v37] h39 fun (h40 : Heap) =>
  ld [.int .i64, .int .i64, .int .i64, .int .i64, .int .u64, .int .u64, .int .u64, .int .u64, .int .i64, .int .u64, .sl, .int .i64, .int .u64, .str, .str, .int .u64, .int .u64, .int .u64, .int .i64, .int .i64, .int .i64, .int .i64] a38 h40 fun (v41 v42 v43 v44 v45 v46 v47 v48 v49 v50 : Int) (v51 : Sl) (v52 v53 : Int) (v54 v55 : ByteArray) (v56 v57 v58 v59 v60 v61 v62 : Int) =>
  f10_ v41 v42 v43 v44 v45 v46 v47 v48 v49 v50 v51 v52 v53 v54 v55 v56 v57 v58 v59 v60 v61 v62 h40 fun (r63 : Sl) (r64 : Int) (h65 : Heap) =>
  ld [.int .i64, .int .i64, .int .i64, .int .i64, .int .u64, .int .u64, .int .u64, .int .u64, .int .i64, .int .u64, .sl, .int .i64, .int .u64, .str, .str, .int .u64, .int .u64, .int .u64, .int .i64, .int .i64, .int .i64, .int .i64] a38 h65 fun (v66 v67 v68 v69 v70 v71 v72 v73 v74 v75 : Int) (v76 : Sl) (v77 v78 : Int) (v79 v80 : ByteArray) (v81 v82 v83 v84 v85 v86 v87 : Int) =>
  f9_ v66 v67 v68 v69 v70 v71 v72 v73 v74 v75 v76 v77 v78 v79 v80 v81 v82 v83 v84 v85 v86 v87 h65 fun (r88 : Sl) (r89 : Int) (h90 : Heap) =>
  f11_ r89 h90 fun (r91 : Int) (h92 : Heap) =>
  brr (r91 != r64)
  (Q false h92)
  (brr (r64 != 0)
  (al 47 [.slice none 0 0] h92 fun (a93 : Addr) (h94 : Heap) =>
  app 47 1 24 (.slice none 0 0) all9 (some a93) 1 h94 fun (s95 : Sl) (h96 : Heap) =>
  brr (((r88.len : Nat) : Int) != 0)
  (Q false h96)
  (j13 s95 h96))
  (f16_ r88 h92 fun (r97 r98 r99 r100 r101 r102 r103 r104 r105 r106 : Int) (r107 : Sl) (r108 r109 : Int) (r110 r111 : ByteArray) (r112 r113 r114 r115 r116 r117 r118 r119 : Int) (h120 : Heap) =>
  al 52 [.int .i64 0, .int .i64 0, .int .i64 0, .int .i64 0, .int .u64 0, .int .u64 0, .int .u64 0, .int .u64 0, .int .i64 0, .int .u64 0, .slice none 0 0, .int .i64 0, .int .u64 0, .string (⟨#[]⟩ : ByteArray), .string (⟨#[]⟩ : ByteArray), .int .u64 0, .int .u64 0, .int .u64 0, .int .i64 0, .int .i64 0, .int .i64 0, .int .i64 0] h120 fun (a121 : Addr) (h122 : Heap) =>
  st a121 [.int .i64 r97, .int .i64 r98, .int .i64 r99, .int .i64 r100, .int .u64 r101, .int .u64 r102, .int .u64 r103, .int .u64 r104, .int .i64 r105, .int .u64 r106, .slice r107.ptr r107.len r107.cap, .int .i64 r108, .int .u64 r109, .string r110, .string r111, .int .u64 r112, .int .u64 r113, .int .u64 r114, .int .i64 r115, .int .i64 r116, .int .i64 r117, .int .i64 r118] h122 fun (h123 : Heap) =>
  jn [(79, .one .bool)] (fun (x173 : Bool) (h174 : Heap) =>
  brr x173
  (Q false h174)
  (jn [] (fun  (h236 : Heap) =>
  al 47 [.slice r88.ptr r88.len r88.cap] h236 fun (a237 : Addr) (h238 : Heap) =>
  app 47 1 24 (.slice none 0 0) all9 (some a237) 1 h238 fun (s239 : Sl) (h240 : Heap) =>
  j13 s239 h240) (fun (j175 : Heap → Prop) =>
  F_law8_MessageBack.l1 f12_ f18_ Q a3 all9 i10 a38 r88 j175 0 h174))) (fun (j124 : Bool → Heap → Prop) =>
  f11_ r119 h123 fun (r125 : Int) (h126 : Heap) =>
  brr (r125 != 0)
  (j124 true h126)
  (ld [.int .i64, .int .i64, .int .i64, .int .i64, .int .u64, .int .u64, .int .u64, .int .u64, .int .i64, .int .u64, .sl, .int .i64, .int .u64, .str, .str, .int .u64, .int .u64, .int .u64, .int .i64, .int .i64, .int .i64, .int .i64] a38 h126 fun (v127 v128 v129 v130 v131 v132 v133 v134 v135 v136 : Int) (v137 : Sl) (v138 v139 : Int) (v140 v141 : ByteArray) (v142 v143 v144 v145 v146 v147 v148 : Int) =>
  ld [.int .i64, .int .i64, .int .i64, .int .i64, .int .u64, .int .u64, .int .u64, .int .u64, .int .i64, .int .u64, .sl, .int .i64, .int .u64, .str, .str, .int .u64, .int .u64, .int .u64, .int .i64, .int .i64, .int .i64, .int .i64] a121 h126 fun (v149 v150 v151 v152 v153 v154 v155 v156 v157 v158 : Int) (v159 : Sl) (v160 v161 : Int) (v162 v163 : ByteArray) (v164 v165 v166 v167 v168 v169 v170 : Int) =>
  f18_ v127 v128 v129 v130 v131 v132 v133 v134 v135 v136 v137 v138 v139 v140 v141 v142 v143 v144 v145 v146 v147 v148 v149 v150 v151 v152 v153 v154 v155 v156 v157 v158 v159 v160 v161 v162 v163 v164 v165 v166 v167 v168 v169 v170 h126 fun (r171 : Bool) (h172 : Heap) =>
  brr (!r171)
  (j124 true h172)
  (brr (decide (((r88.len : Nat) : Int) > 17000))
  (j124 true h172)
  (j124 (decide (((r88.len : Nat) : Int) < 8)) h172))))))))
  (j7 h11))
def F_law8_MessageBack.l3 (f9_ : Int → Int → Int → Int → Int → Int → Int → Int → Int → Int → Sl → Int → Int → ByteArray → ByteArray → Int → Int → Int → Int → Int → Int → Int → Heap → (Sl → Int → Heap → Prop) → Prop) (f11_ : Int → Heap → (Int → Heap → Prop) → Prop) (f12_ : Sl → Sl → Heap → (Bool → Heap → Prop) → Prop) (f16_ : Sl → Heap → (Int → Int → Int → Int → Int → Int → Int → Int → Int → Int → Sl → Int → Int → ByteArray → ByteArray → Int → Int → Int → Int → Int → Int → Int → Int → Heap → Prop) → Prop) (f17_ : Sl → Heap → (Int → Int → Int → Int → Int → Int → Int → Int → Int → Int → Sl → Int → Int → ByteArray → ByteArray → Int → Int → Int → Int → Int → Int → Int → Int → Heap → Prop) → Prop) (f26_ : Sl → Heap → (Sl → Heap → Prop) → Prop) (Q : Bool → Heap → Prop) (a3 : Addr) (j244 : Heap → Prop) : Int → Heap → Prop :=
  wl [(13, .one (.int .i64))] (fun (next245 : Int → Heap → Prop) (i246 : Int) (h247 : Heap) =>
  ld [.sl] (a3.add 1) h247 fun (v248 : Sl) =>
  brr (decide (i246 < ((v248.len : Nat) : Int)))
  (ld [.sl] (a3.add 1) h247 fun (v249 : Sl) =>
  ixS 1 v249 i246 fun (a250 : Addr) =>
  ld [.sl] a250 h247 fun (v251 : Sl) =>
  f17_ v251 h247 fun (r252 r253 r254 r255 r256 r257 r258 r259 r260 r261 : Int) (r262 : Sl) (r263 r264 : Int) (r265 r266 : ByteArray) (r267 r268 r269 r270 r271 r272 r273 r274 : Int) (h275 : Heap) =>
  al 52 [.int .i64 0, .int .i64 0, .int .i64 0, .int .i64 0, .int .u64 0, .int .u64 0, .int .u64 0, .int .u64 0, .int .i64 0, .int .u64 0, .slice none 0 0, .int .i64 0, .int .u64 0, .string (⟨#[]⟩ : ByteArray), .string (⟨#[]⟩ : ByteArray), .int .u64 0, .int .u64 0, .int .u64 0, .int .i64 0, .int .i64 0, .int .i64 0, .int .i64 0] h275 fun (a276 : Addr) (h277 : Heap) =>
  st a276 [.int .i64 r252, .int .i64 r253, .int .i64 r254, .int .i64 r255, .int .u64 r256, .int .u64 r257, .int .u64 r258, .int .u64 r259, .int .i64 r260, .int .u64 r261, .slice r262.ptr r262.len r262.cap, .int .i64 r263, .int .u64 r264, .string r265, .string r266, .int .u64 r267, .int .u64 r268, .int .u64 r269, .int .i64 r270, .int .i64 r271, .int .i64 r272, .int .i64 r273] h277 fun (h278 : Heap) =>
  ld [.sl] (a3.add 1) h278 fun (v279 : Sl) =>
  ixS 1 v279 i246 fun (a280 : Addr) =>
  ld [.sl] a280 h278 fun (v281 : Sl) =>
  f26_ v281 h278 fun (r282 : Sl) (h283 : Heap) =>
  f16_ r282 h283 fun (r284 r285 r286 r287 r288 r289 r290 r291 r292 r293 : Int) (r294 : Sl) (r295 r296 : Int) (r297 r298 : ByteArray) (r299 r300 r301 r302 r303 r304 r305 r306 : Int) (h307 : Heap) =>
  al 52 [.int .i64 0, .int .i64 0, .int .i64 0, .int .i64 0, .int .u64 0, .int .u64 0, .int .u64 0, .int .u64 0, .int .i64 0, .int .u64 0, .slice none 0 0, .int .i64 0, .int .u64 0, .string (⟨#[]⟩ : ByteArray), .string (⟨#[]⟩ : ByteArray), .int .u64 0, .int .u64 0, .int .u64 0, .int .i64 0, .int .i64 0, .int .i64 0, .int .i64 0] h307 fun (a308 : Addr) (h309 : Heap) =>
  st a308 [.int .i64 r284, .int .i64 r285, .int .i64 r286, .int .i64 r287, .int .u64 r288, .int .u64 r289, .int .u64 r290, .int .u64 r291, .int .i64 r292, .int .u64 r293, .slice r294.ptr r294.len r294.cap, .int .i64 r295, .int .u64 r296, .string r297, .string r298, .int .u64 r299, .int .u64 r300, .int .u64 r301, .int .i64 r302, .int .i64 r303, .int .i64 r304, .int .i64 r305] h309 fun (h310 : Heap) =>
  f11_ r306 h310 fun (r311 : Int) (h312 : Heap) =>
  brr (r311 != r274)
  (Q false h312)
  (jn [] (fun  (h349 : Heap) =>
  next245 (IntKind.i64.wrap (i246 + 1)) h349) (fun (j313 : Heap → Prop) =>
  brr (r274 == 0)
  (ld [.int .i64, .int .i64, .int .i64, .int .i64, .int .u64, .int .u64, .int .u64, .int .u64, .int .i64, .int .u64, .sl, .int .i64, .int .u64, .str, .str, .int .u64, .int .u64, .int .u64, .int .i64, .int .i64, .int .i64, .int .i64] a308 h312 fun (v314 v315 v316 v317 v318 v319 v320 v321 v322 v323 : Int) (v324 : Sl) (v325 v326 : Int) (v327 v328 : ByteArray) (v329 v330 v331 v332 v333 v334 v335 : Int) =>
  f9_ v314 v315 v316 v317 v318 v319 v320 v321 v322 v323 v324 v325 v326 v327 v328 v329 v330 v331 v332 v333 v334 v335 h312 fun (r336 : Sl) (r337 : Int) (h338 : Heap) =>
  jn [(160, .one .bool)] (fun (x347 : Bool) (h348 : Heap) =>
  brr x347
  (Q false h348)
  (j313 h348)) (fun (j339 : Bool → Heap → Prop) =>
  f11_ r337 h338 fun (r340 : Int) (h341 : Heap) =>
  brr (r340 != 0)
  (j339 true h341)
  (ld [.sl] (a3.add 1) h341 fun (v342 : Sl) =>
  ixS 1 v342 i246 fun (a343 : Addr) =>
  ld [.sl] a343 h341 fun (v344 : Sl) =>
  f12_ r336 v344 h341 fun (r345 : Bool) (h346 : Heap) =>
  j339 (!r345) h346)))
  (j313 h312))))
  (j244 h247))
def F_law8_MessageBack_of (f7_ : Heap → (Bool → Heap → Prop) → Prop) (f9_ : Int → Int → Int → Int → Int → Int → Int → Int → Int → Int → Sl → Int → Int → ByteArray → ByteArray → Int → Int → Int → Int → Int → Int → Int → Heap → (Sl → Int → Heap → Prop) → Prop) (f10_ : Int → Int → Int → Int → Int → Int → Int → Int → Int → Int → Sl → Int → Int → ByteArray → ByteArray → Int → Int → Int → Int → Int → Int → Int → Heap → (Sl → Int → Heap → Prop) → Prop) (f11_ : Int → Heap → (Int → Heap → Prop) → Prop) (f12_ : Sl → Sl → Heap → (Bool → Heap → Prop) → Prop) (f16_ : Sl → Heap → (Int → Int → Int → Int → Int → Int → Int → Int → Int → Int → Sl → Int → Int → ByteArray → ByteArray → Int → Int → Int → Int → Int → Int → Int → Int → Heap → Prop) → Prop) (f17_ : Sl → Heap → (Int → Int → Int → Int → Int → Int → Int → Int → Int → Int → Sl → Int → Int → ByteArray → ByteArray → Int → Int → Int → Int → Int → Int → Int → Int → Heap → Prop) → Prop) (f18_ : Int → Int → Int → Int → Int → Int → Int → Int → Int → Int → Sl → Int → Int → ByteArray → ByteArray → Int → Int → Int → Int → Int → Int → Int → Int → Int → Int → Int → Int → Int → Int → Int → Int → Int → Sl → Int → Int → ByteArray → ByteArray → Int → Int → Int → Int → Int → Int → Int → Heap → (Bool → Heap → Prop) → Prop) (f26_ : Sl → Heap → (Sl → Heap → Prop) → Prop) (t1 t2 : Sl) (h : Heap) (Q : Bool → Heap → Prop) : Prop :=
  al 25 [.slice t1.ptr t1.len t1.cap, .slice t2.ptr t2.len t2.cap] h fun (a3 : Addr) (h4 : Heap) =>
  f7_ h4 fun (r5 : Bool) (h6 : Heap) =>
  brr (!r5)
  (Q false h6)
  (jn [] (fun  (h243 : Heap) =>
  jn [] (fun  (h350 : Heap) =>
  f7_ h350 fun (r351 : Bool) (h352 : Heap) =>
  Q r351 h352) (fun (j244 : Heap → Prop) =>
  F_law8_MessageBack.l3 f9_ f11_ f12_ f16_ f17_ f26_ Q a3 j244 0 h243)) (fun (j7 : Heap → Prop) =>
  F_law8_MessageBack.l2 f9_ f10_ f11_ f12_ f16_ f18_ Q a3 j7 (⟨none, 0, 0⟩ : Sl) 0 h6))
def F_law8_MessageBack (t1 t2 : Sl) (h : Heap) (Q : Bool → Heap → Prop) : Prop := F_law8_MessageBack_of F_law8_begun F_message_Encode F_ref8_Encode F_law8_num F_ref0_Eq F_message_Decode F_ref8_Decode F_ref0_EqMsg F_ref0_Copy t1 t2 h Q
def plan5 : Plan := .s (.r [1]) (.s (.s (.r [1, 21]) (.c (.s (.r [2]) .z) .z)) (.s (.r [1, 3]) (.s (.s (.r [1, 3, 4]) (.bj [] [1] (.l [(3, .one .sl), (4, .one (.int .i64))] [1] (.s (.s (.r [1, 3, 4, 26]) (.c .z .z)) (.s (.bj [(3, .one .sl)] [1, 4] (.s (.r [1, 3, 4, 5]) (.s (.r [1, 3, 4, 5, 7]) (.s (.r [1, 3, 4, 5, 7, 8, 9]) (.s (.s (.r [1, 3, 4, 5, 7, 8, 47]) (.c (.s (.r [2]) .z) .z)) (.s (.s (.r [1, 3, 4, 5, 8, 49]) (.c (.s (.r [1, 3, 4, 8]) (.s (.s (.r [1, 3, 4, 55]) (.c (.s (.r [2]) .z) .z)) .z)) .z)) (.s (.r [1, 3, 4, 5, 8, 10, 11]) (.s (.s (.rj [(79, .one .bool)] [1, 3, 4, 5, 8]) (.c (.s (.r [2]) .z) .z)) (.s (.s (.r [1, 3, 4, 5, 8, 12]) (.bj [] [1, 3, 4, 8] (.l [(12, .one (.int .i64))] [1, 3, 4, 5, 8] (.s (.s (.r [1, 3, 4, 5, 8, 12, 82]) (.c .z .z)) (.s (.b (.s (.dj [0, 0, 3, 7, 15, 31, 63, 127, 127, 511, 1023, 127, 4095, 127, 8319, 127, 57471, 123007, 127, 524287, 1048575, 2097151] [[0, 1, 2, 3, 4, 5, 6, 7, 8, 9, 10, 11, 13, 14, 15, 16, 17, 18, 12, 19, 20, 21]] [(106, .one .bool)] [1, 3, 4, 5, 8, 12]) (.c (.s (.r [2]) .z) .z))) (.r [1, 3, 4, 5, 8, 12])))))) (.r [1, 3, 4])))))))))) (.r [1, 3, 4])))))) (.s (.s (.r [1, 13]) (.bj [] [] (.l [(13, .one (.int .i64))] [1] (.s (.s (.r [1, 13, 115]) (.c .z .z)) (.s (.b (.s (.r [1, 13, 15]) (.s (.r [1, 13, 15, 16, 17]) (.s (.s (.r [1, 13, 15, 16, 140]) (.c (.s (.r [2]) .z) .z)) (.s (.r [1, 13, 16, 142]) (.cj [] [1, 13] (.s (.r [1, 13, 18, 19]) (.s (.rj [(160, .one .bool)] [1, 13]) (.c (.s (.r [2]) .z) .z))) .z)))))) (.r [1, 13])))))) (.s (.r [2]) .z)))))
theorem F_law8_MessageBack.eq (f7_ : Heap → (Bool → Heap → Prop) → Prop) (f9_ : Int → Int → Int → Int → Int → Int → Int → Int → Int → Int → Sl → Int → Int → ByteArray → ByteArray → Int → Int → Int → Int → Int → Int → Int → Heap → (Sl → Int → Heap → Prop) → Prop) (f10_ : Int → Int → Int → Int → Int → Int → Int → Int → Int → Int → Sl → Int → Int → ByteArray → ByteArray → Int → Int → Int → Int → Int → Int → Int → Heap → (Sl → Int → Heap → Prop) → Prop) (f11_ : Int → Heap → (Int → Heap → Prop) → Prop) (f12_ : Sl → Sl → Heap → (Bool → Heap → Prop) → Prop) (f16_ : Sl → Heap → (Int → Int → Int → Int → Int → Int → Int → Int → Int → Int → Sl → Int → Int → ByteArray → ByteArray → Int → Int → Int → Int → Int → Int → Int → Int → Heap → Prop) → Prop) (f17_ : Sl → Heap → (Int → Int → Int → Int → Int → Int → Int → Int → Int → Int → Sl → Int → Int → ByteArray → ByteArray → Int → Int → Int → Int → Int → Int → Int → Int → Heap → Prop) → Prop) (f18_ : Int → Int → Int → Int → Int → Int → Int → Int → Int → Int → Sl → Int → Int → ByteArray → ByteArray → Int → Int → Int → Int → Int → Int → Int → Int → Int → Int → Int → Int → Int → Int → Int → Int → Int → Sl → Int → Int → ByteArray → ByteArray → Int → Int → Int → Int → Int → Int → Int → Heap → (Bool → Heap → Prop) → Prop) (f26_ : Sl → Heap → (Sl → Heap → Prop) → Prop) (t1 t2 : Sl) (h : Heap) (K : Value → Heap → Prop) : F_law8_MessageBack_of f7_ f9_ f10_ f11_ f12_ f16_ f17_ f18_ f26_ t1 t2 h (fun (r0 : Bool) (h : Heap) => K (.bool r0) h) =
    den Tryz.prog (fn1 7 (E_law8_begun_of f7_) (fn1 9 (E_message_Encode_of f9_) (fn1 10 (E_ref8_Encode_of f10_) (fn1 11 (E_law8_num_of f11_) (fn1 12 (E_ref0_Eq_of f12_) (fn1 16 (E_message_Decode_of f16_) (fn1 17 (E_ref8_Decode_of f17_) (fn1 18 (E_ref0_EqMsg_of f18_) (fn1 26 (E_ref0_Copy_of f26_) noFns))))))))) Tryz.f5.ntmps plan5 (bodyOf Tryz.f5) (args0 0 [(.agg #[.slice t1.ptr t1.len t1.cap, .slice t2.ptr t2.len t2.cap] : Value)]) h ⟨fun env h => dRes Tryz.prog Tryz.f5.results.toList env h K, fun _ _ _ => False, fun env h => dRes Tryz.prog Tryz.f5.results.toList env h K⟩ := by kernel_rfl
def E_law8_MessageBack_of (f : Sl → Sl → Heap → (Bool → Heap → Prop) → Prop) : List Value → Heap → (Value → Heap → Prop) → Prop
  | [v0], h, K => vAgg v0 fun cs0 => decs [.sl, .sl] cs0.toList fun (t1 t2 : Sl) =>
  f t1 t2 h (fun (r0 : Bool) (h : Heap) => K (.bool r0) h)
  | _, _, _ => False
abbrev E_law8_MessageBack := E_law8_MessageBack_of F_law8_MessageBack
theorem E_law8_MessageBack.at (f : Sl → Sl → Heap → (Bool → Heap → Prop) → Prop) (t1 t2 : Sl) (h : Heap) (K : Value → Heap → Prop) : E_law8_MessageBack_of f [.agg ([.slice t1.ptr t1.len t1.cap, .slice t2.ptr t2.len t2.cap] : List Value).toArray] h K = f t1 t2 h (fun (r0 : Bool) (h : Heap) => K (.bool r0) h) := rfl
theorem E_law8_MessageBack.right : IsRight Tryz.prog 5 E_law8_MessageBack := by
  refine isRight fun vs K w hh => ?_
  match vs, hh with
  | [v0], hh =>
    unfold E_law8_MessageBack E_law8_MessageBack_of at hh
    replace hh := vAgg_sound hh; obtain ⟨cs0, rfl, hh⟩ := hh
    replace hh := decs_cons hh; obtain ⟨t1, l0_0, e0_0, hh⟩ := hh
    replace hh := decs_cons hh; obtain ⟨t2, l0_1, e0_1, hh⟩ := hh
    replace hh := decs_nil hh; obtain ⟨rfl, hh⟩ := hh
    subst e0_1
    have ec0 := toArray_eq e0_0
    subst ec0
    unfold F_law8_MessageBack at hh
    exact calls_den (fn1_right ok7 E_law8_begun.right (fn1_right ok9 E_message_Encode.right (fn1_right ok10 E_ref8_Encode.right (fn1_right ok11 E_law8_num.right (fn1_right ok12 E_ref0_Eq.right (fn1_right ok16 E_message_Decode.right (fn1_right ok17 E_ref8_Decode.right (fn1_right ok18 E_ref0_EqMsg.right (fn1_right ok26 E_ref0_Copy.right noFns_right))))))))) plan5 _ w K Tryz.func5 (by kernel_rfl) (by kernel_rfl) (Eq.mp (F_law8_MessageBack.eq F_law8_begun F_message_Encode F_ref8_Encode F_law8_num F_ref0_Eq F_message_Decode F_ref8_Decode F_ref0_EqMsg F_ref0_Copy t1 t2 w.heap K) hh)
theorem ok5 : okFn Tryz.prog 5 = true := by kernel_rfl
end Go.Proofs.YthiginhigfieiaaGreatDoor.V
/- Messages are read back: what MessageBack plays. -/
namespace Go.Proofs.YthiginhigfieiaaGreatDoor.V
open Go Go.RowKit
set_option linter.unusedVariables false
set_option linter.unusedSimpArgs false
abbrev tyMail : Ty := .cons (.sl 22 208 tyMsg) (.cons (.sl 1 24 tyB) .nil)
/-- A message that came in. -/
def msR (h : Heap) (m : Mg) (cs : List Value) : Prop := cs = mgC m ∧ Bytes h m.v m.b ∧ Pos m ∧ m.b.length ≤ 140737488351232
/-- Bytes that came in. -/
def bsR (h : Heap) (x : Sl × List UInt8) (cs : List Value) : Prop := cs = slc x.1 ∧ Bytes h x.1 x.2 ∧ x.1.len ≤ x.1.cap ∧ x.2.length ≤ 140737488351232
theorem SlN.msgs {h : Heap} {N : Nat} {s : Sl} (hN : N ≤ 140737488351232) (S : SlN h N 22 208 s fun cs => Fit h N tyMsg cs) : ∃ l : List Mg, View h 22 (msR h) s l ∧ l.length * 208 ≤ 140737488351232 ∧ l.length ≤ N := by
  obtain ⟨h1, h2, h3, xs, V⟩ := S.view (msR h) (fun cs F => by
    replace F := Fit.g F
    obtain ⟨m1, _, rfl, m1a, m1b, F⟩ := Fit.i F
    replace F := Fit.g F
    obtain ⟨m2, _, rfl, m2a, m2b, F⟩ := Fit.i F
    replace F := Fit.g F
    obtain ⟨m3, _, rfl, m3a, m3b, F⟩ := Fit.i F
    replace F := Fit.g F
    obtain ⟨m4, _, rfl, m4a, m4b, F⟩ := Fit.i F
    replace F := Fit.z F
    obtain ⟨m5, _, rfl, m5a, m5b, F⟩ := Fit.i F
    replace F := Fit.g F
    obtain ⟨m6, _, rfl, m6a, m6b, F⟩ := Fit.i F
    replace F := Fit.g F
    obtain ⟨m7, _, rfl, m7a, m7b, F⟩ := Fit.i F
    replace F := Fit.z F
    obtain ⟨m8, _, rfl, m8a, m8b, F⟩ := Fit.i F
    obtain ⟨m9, _, rfl, m9a, m9b, F⟩ := Fit.i F
    obtain ⟨m10, _, rfl, m10a, m10b, F⟩ := Fit.i F
    obtain ⟨m11, _, rfl, m11S, F⟩ := Fit.s F
    obtain ⟨m12, _, rfl, m12a, m12b, F⟩ := Fit.i F
    obtain ⟨m13, _, rfl, m13a, m13b, F⟩ := Fit.i F
    obtain ⟨m14, _, rfl, m14l, F⟩ := Fit.a F
    obtain ⟨m15, _, rfl, m15l, F⟩ := Fit.a F
    obtain ⟨m16, _, rfl, m16a, m16b, F⟩ := Fit.i F
    replace F := Fit.g F
    obtain ⟨m17, _, rfl, m17a, m17b, F⟩ := Fit.i F
    replace F := Fit.g F
    obtain ⟨m18, _, rfl, m18a, m18b, F⟩ := Fit.i F
    replace F := Fit.z F
    obtain ⟨m19, _, rfl, m19a, m19b, F⟩ := Fit.i F
    obtain ⟨m20, _, rfl, m20a, m20b, F⟩ := Fit.i F
    obtain ⟨m21, _, rfl, m21a, m21b, F⟩ := Fit.i F
    obtain ⟨m22, _, rfl, m22a, m22b, F⟩ := Fit.i F
    obtain rfl := Fit.e F
    obtain ⟨_, a2, l, Vl⟩ := m11S.bytes
    have hl := Vl.len
    rw [u64_min] at m5a m6a m7a m8a m10a m13a m16a m17a m18a
    refine ⟨⟨m1, m2, m3, m4, m5, m6, m7, m8, m9, m10, m11, m12, m13, m14, m15, m16, m17, m18, m19, m20, m21, m22, l⟩, rfl, Vl, ?_, ?_⟩
    · intro q hq
      by_cases h18 : q < 18
      · rcases (cas h18 hq).1 rfl with rfl | rfl | rfl | rfl | rfl | rfl | rfl | rfl | rfl <;> assumption
      · unfold pget
        split <;> first | omega | exact Int.le_refl _
    · show l.length ≤ _; omega)
  have := V.len
  have h4 : s.len * 208 ≤ s.cap * 208 := Nat.mul_le_mul_right _ h1
  exact ⟨xs, V, by omega, by omega⟩
theorem SlN.bss {h : Heap} {N : Nat} {s : Sl} (hN : N ≤ 140737488351232) (S : SlN h N 1 24 s fun cs => Fit h N tyB cs) : ∃ l : List (Sl × List UInt8), View h 1 (bsR h) s l ∧ l.length * 24 ≤ 140737488351232 ∧ l.length ≤ N := by
  obtain ⟨h1, h2, h3, xs, V⟩ := S.view (bsR h) (fun cs F => by
    obtain ⟨u, rfl, uS⟩ := F
    obtain ⟨c1, a2, l, Vl⟩ := uS.bytes
    have hl := Vl.len
    exact ⟨(u, l), rfl, Vl, c1, by show l.length ≤ _; omega⟩)
  have := V.len
  have h4 : s.len * 24 ≤ s.cap * 24 := Nat.mul_le_mul_right _ h1
  exact ⟨xs, V, by omega, by omega⟩
theorem msR.kept {h h' : Heap} {m : Mg} {cs : List Value} (r : msR h m cs) (k : KeptH h h') : msR h' m cs := ⟨r.1, r.2.1.kept k, r.2.2⟩
theorem bsR.kept {h h' : Heap} {x : Sl × List UInt8} {cs : List Value} (r : bsR h x cs) (k : KeptH h h') : bsR h' x cs := ⟨r.1, r.2.1.kept k, r.2.2⟩
theorem dec_sealed {xs : List UInt8} {d : Mg} (h : decP xs = (d, 0)) : wrongM d = 0 ∧ sealB (bodyM d) = xs := by
  unfold decP at h
  split at h
  · exact absurd (congrArg Prod.snd h) (by show ¬ (81 : Int) = 0; decide)
  split at h
  · rename_i h1 h2
    have hl : (xs.take (xs.length - 4)).length ≤ 140737488355328 := by rw [List.length_take]; omega
    have g := dec_was hl (by rw [h])
    rw [h] at g
    refine ⟨g.1, ?_⟩
    show sealB (bodyM d) = xs
    rw [show bodyM d = xs.take (xs.length - 4) from g.2]
    exact (seal_take (by omega)).2 h2
  · exact absurd (congrArg Prod.snd h) (by show ¬ (82 : Int) = 0; decide)
theorem wrong_pos {m : Mg} (h : wrongM m = 0) : Pos m := by
  obtain ⟨_, _, hf⟩ := wrong_zero h
  intro q hq
  by_cases h18 : q < 18
  · have h2 : pk q ≠ 2 := by rcases (cas h18 hq).1 rfl with rfl | rfl | rfl | rfl | rfl | rfl | rfl | rfl | rfl <;> decide
    by_cases hm : q ∈ kp m.kind
    · exact (may_num ((hf q h18).1 hm) h2).1
    · have := (hf q h18).2 hm
      unfold zeroB at this
      rw [if_neg h2] at this
      rw [of_decide_eq_true this]
      exact Int.le_refl _
  · unfold pget
    split <;> first | omega | exact Int.le_refl _
theorem enc_eq {m n : Mg} (hm : wrongM m = 0) (hn : wrongM n = 0) : encB m = encB n ↔ m.bare = n.bare := by
  unfold encB
  rw [if_pos hm, if_pos hn]
  constructor
  · intro e
    have e2 := seal_inj e
    rw [← seal_inj (ys := bodyM n) rfl] at e2
    have a := dec_of hm
    have b := dec_of hn
    rw [e2, b] at a
    exact (Prod.mk.inj a).1.symm
  · intro e
    have : bodyM m.bare = bodyM n.bare := by rw [e]
    rw [show bodyM m = bodyM n from this]
def wbE (e : Sl × List UInt8) : Res := buf 1 u8 e.1 e.2
section
variable {H h : Heap} {L : List Res} {ms : List Mg} {bs : List (Sl × List UInt8)} {a3 : Nat} {t1 t2 : Sl}
theorem many_at {es : List (Sl × List UInt8)} {i : Nat} {e : Sl × List UInt8} (O : Sat H h (many wbE es :: L)) (hi : es[i]? = some e) : Bytes h e.1 e.2 := (Sat.take O i hi |>.view 0 u8_len (by simp) rfl).1
abbrev AllR (all : Sl) (es : List (Sl × List UInt8)) (a3 : Nat) (t1 t2 : Sl) : List Res := [buf 1 slc all (es.map (·.1)), many wbE es, own a3 [.slice t1.ptr t1.len t1.cap, .slice t2.ptr t2.len t2.cap]]
set_option maxRecDepth 20000 in
theorem F_law8_MessageBack.l1.is {all s : Sl} {es : List (Sl × List UInt8)} {m : Mg} {x : Nat} {i : Int} {Q : Bool → Heap → Prop} {j : Heap → Prop} (Vm : View H 22 (msR H) t1 ms) (hw : wrongM m = 0) (hp : Bytes H m.v m.b) (hb : m.b.length ≤ 140737488351232) (hes : es.map (·.2) = (ms.take i.toNat).map encB) (hi0 : 0 ≤ i) (hi1 : i < 4611686018427387904) (hi2 : i ≤ ms.length) (O : Sat H h (own x (mgC m) :: buf 1 u8 s (encB m) :: AllR all es a3 t1 t2)) (hj : ∀ h', Sat H h' (own x (mgC m) :: buf 1 u8 s (encB m) :: AllR all es a3 t1 t2) → j h') : F_law8_MessageBack.l1 F_ref0_Eq F_ref0_EqMsg Q (pt a3 0) all i (pt x 0) s j 0 h := by
  rw [F_law8_MessageBack.l1.eq_1]
  simp only [nn_some, pt_add, Nat.zero_add, Nat.add_zero, Nat.reduceAdd, Nat.reduceMul, Int.toNat_zero, Int.toNat_one, Nat.zero_mul, Nat.one_mul]
  refine wl1 (k := .int .i64) (fun (n : Nat) (k : Int) (h' : Heap) => 0 ≤ k ∧ k + n = i ∧ Sat H h' (own x (mgC m) :: buf 1 u8 s (encB m) :: AllR all es a3 t1 t2)) ?_ (m := i.toNat) ⟨by omega, by omega, O⟩
  clear O
  intro n (k : Int) h next hnx ⟨hk0, hki, O⟩
  refine brr_p (fun hlt => ?_) (fun hlt => hj _ O)
  have hel : es.length = i.toNat := by
    have := congrArg List.length hes
    simp at this
    omega
  have hle : (encB m).length ≤ 16994 := by
    have := body_len hw
    unfold encB; rw [if_pos hw]; unfold sealB
    rw [List.length_append, fixB_len]; omega
  refine jn1 (fun (z : Bool) h' => z = false ∧ Sat H h' (own x (mgC m) :: buf 1 u8 s (encB m) :: AllR all es a3 t1 t2)) ?_ ?_
  · clear O
    rintro z h ⟨rfl, O⟩
    refine brr_ff rfl ?_
    rw [wrap64 (by omega) (by omega)]
    exact hnx (n - 1) _ _ (by omega) ⟨by omega, by omega, O⟩
  · intro j2 hj2
    have hx : es[k.toNat]? = some (es[k.toNat]'(by omega)) := List.getElem?_eq_getElem (by omega)
    generalize es[k.toNat]'(by omega) = e at hx
    have hxs : (es.map (·.1))[k.toNat]? = some e.1 := by rw [List.getElem?_map, hx]; rfl
    have Va := (O.view 2 slc_len (by simp) rfl).1
    have Ve : Bytes h e.1 e.2 := many_at (O.sel [3] 5 rfl (Nat.le_add_left _ _)) hx
    have hmk : ms[k.toNat]? = some (ms[k.toNat]'(by omega)) := List.getElem?_eq_getElem (by omega)
    generalize ms[k.toNat]'(by omega) = mk at hmk
    have he : e.2 = encB mk := by
      have e1 : (es.map (·.2))[k.toNat]? = some e.2 := by rw [List.getElem?_map, hx]; rfl
      rw [hes, List.getElem?_map, List.getElem?_take, if_pos (by omega), hmk] at e1
      exact (Option.some.inj e1).symm
    refine Va.get1 hk0 hxs (fun s => s) (fun _ => rfl) ?_
    refine brr_p (fun hpos => ?_) (fun hpos => hj2 _ _ ⟨rfl, O⟩)
    have hwk : wrongM mk = 0 := Decidable.byContradiction fun g => by
      have h0 : e.2 = [] := by rw [he]; unfold encB; rw [if_neg g]
      have := Ve.len
      rw [h0] at this
      simp at this
      omega
    have hlk : e.2.length ≤ 16994 := by
      have := body_len hwk
      rw [he]; unfold encB; rw [if_pos hwk]; unfold sealB
      rw [List.length_append, fixB_len]; omega
    refine Va.get1 hk0 hxs (fun s => s) (fun _ => rfl) ?_
    refine O.ld 4 rfl (ldL_s (ldL_n ?_))
    refine (Vm.kept O.kept).ix hk0 (by omega) fun a cs y hy hlen hR hc => ?_
    rw [hmk] at hy
    obtain rfl := Option.some.inj hy
    obtain ⟨rfl, r2, r3, r4⟩ := hR
    refine ld_are hc (mgC_ldA ?_)
    refine O.ld 0 rfl (mgC_ldA ?_)
    refine F_ref0_Eq.is Ve (O.view 1 u8_len (by simp) rfl).1 (by omega) (by omega) ?_
    have c0 := O.cells 0 rfl 0 (mgC m).length
    rw [List.drop_zero, List.take_length] at c0
    refine ⟨O.cells 4 rfl 0 1, hc, c0, ?_⟩
    refine F_ref0_EqMsg.is (m := mk) (n := m) O (fun h O => r2.kept O.kept) (fun h O => hp.kept O.kept) (by omega) (by omega) fun z h O hz => ?_
    refine hj2 _ _ ⟨?_, O⟩
    have e3 := enc_eq hwk hw
    rw [← he] at e3
    by_cases g : mk.bare = m.bare
    · rw [hz.2 g, decide_eq_true (e3.2 g)]; rfl
    · have hz0 : z = false := by
        cases z with
        | false => rfl
        | true => exact absurd (hz.1 rfl) g
      rw [hz0, decide_eq_false (fun q => g (e3.1 q))]; rfl
end
end Go.Proofs.YthiginhigfieiaaGreatDoor.V
/- Messages are read back: what MessageBack plays. -/
namespace Go.Proofs.YthiginhigfieiaaGreatDoor.V
open Go Go.RowKit
set_option linter.unusedVariables false
set_option linter.unusedSimpArgs false
section
variable {H h : Heap} {L : List Res} {ms : List Mg} {bs : List (Sl × List UInt8)} {a3 : Nat} {t1 t2 : Sl}
theorem encB_len (m : Mg) : (encB m).length ≤ 16994 ∧ (wrongM m = 0 → 8 ≤ (encB m).length) ∧ (wrongM m ≠ 0 → encB m = []) := by
  unfold encB
  by_cases h : wrongM m = 0
  · have := body_len h
    rw [if_pos h]
    unfold sealB
    rw [List.length_append, fixB_len]
    exact ⟨by omega, fun _ => by omega, fun g => absurd h g⟩
  · rw [if_neg h]
    exact ⟨by simp, fun g => absurd g h, fun _ => rfl⟩
set_option maxRecDepth 20000 in
theorem F_law8_MessageBack.l2.is {Q : Bool → Heap → Prop} {j : Heap → Prop} (U : Us H) (E : Er H) (Vm : View H 22 (msR H) t1 ms) (hms : ms.length * 208 ≤ 140737488351232) (O : Sat H h [own a3 [.slice t1.ptr t1.len t1.cap, .slice t2.ptr t2.len t2.cap]]) (hj : ∀ h', Sat H h' [own a3 [.slice t1.ptr t1.len t1.cap, .slice t2.ptr t2.len t2.cap]] → j h') : F_law8_MessageBack.l2 F_message_Encode F_ref8_Encode F_law8_num F_ref0_Eq F_message_Decode F_ref0_EqMsg Q (pt a3 0) j (⟨none, 0, 0⟩ : Sl) 0 h := by
  rw [F_law8_MessageBack.l2.eq_1]
  simp only [nn_some, pt_add, Nat.zero_add, Nat.add_zero, Nat.reduceAdd, Nat.reduceMul, Int.toNat_zero, Int.toNat_one, Nat.zero_mul, Nat.one_mul]
  refine wl2 (k := .sl) (l := .int .i64) (fun (n : Nat) (all : Sl) (i : Int) (h' : Heap) => 0 ≤ i ∧ i + n = ms.length ∧ ∃ es : List (Sl × List UInt8), es.map (·.2) = (ms.take i.toNat).map encB ∧ Sat H h' (AllR all es a3 t1 t2)) ?_ (m := ms.length) ⟨by omega, by omega, [], rfl, (Sat.none (f := wbE) O).nil_buf⟩
  clear O
  rintro n (all : Sl) (i : Int) h next hnx ⟨hi0, him, es, hes, O⟩
  have hel : es.length = i.toNat := by
    have := congrArg List.length hes
    simp at this
    omega
  refine O.ld 2 rfl (ldL_s (ldL_n ?_))
  rw [show (⟨t1.ptr, t1.len, t1.cap⟩ : Sl).len = ms.length from Vm.len]
  refine brr_p (fun hlt => ?_) (fun hlt => hj _ (O.sel [2] 3 rfl (Nat.le_add_left _ _)))
  have hmk : ms[i.toNat]? = some (ms[i.toNat]'(by omega)) := List.getElem?_eq_getElem (by omega)
  generalize ms[i.toNat]'(by omega) = m at hmk
  refine jn1 (fun (all2 : Sl) h' => ∃ es2 : List (Sl × List UInt8), es2.map (·.2) = (ms.take (i.toNat + 1)).map encB ∧ Sat H h' (AllR all2 es2 a3 t1 t2)) ?_ ?_
  · clear O
    rintro all2 h ⟨es2, h2, O⟩
    rw [wrap64 (by omega) (by omega)]
    refine hnx (n - 1) _ _ _ (by omega) ⟨by omega, by omega, es2, ?_, O⟩
    rw [show (i + 1).toNat = i.toNat + 1 by omega]
    exact h2
  intro j2 hj2
  refine O.ld 2 rfl (ldL_s (ldL_n ?_))
  refine (Vm.kept O.kept).ix hi0 (by omega) fun a cs y hy hlen hR hc => ?_
  rw [hmk] at hy
  obtain rfl := Option.some.inj hy
  obtain ⟨rfl, r2', r3, r4⟩ := hR
  have r2 : Bytes H m.v m.b := by
    obtain ⟨_, _, _, _, hR2, _⟩ := Vm.2 i.toNat m hmk
    exact hR2.2.1
  refine ld_are hc (mgC_ldA ?_)
  refine O.al fun x h O => ?_
  refine O.st 0 rfl (by simp) rfl fun h O => ?_
  dsimp only [List.set] at O
  rw [put_all (by rfl)] at O
  have O : Sat H h (own x (mgC m) :: AllR all es a3 t1 t2) := O
  refine O.ld 0 rfl (mgC_ldA ?_)
  have hE := encB_len m
  refine F_ref8_Encode.is O (fun h O => r2.kept O.kept) (by omega) r3 fun s1 h O => ?_
  have O := O.drop
  refine O.ld 0 rfl (mgC_ldA ?_)
  refine F_message_Encode.is O U (fun h O => r2.kept O.kept) r3 fun s2 h O => ?_
  have hs2 := (O.view 0 u8_len (by simp) rfl).1.len
  refine F_law8_num.is ?_
  refine brr_ff (by simp) ?_
  have hnext : ∀ (all2 : Sl) (s : Sl) h', Sat H h' (buf 1 slc all2 (es.map (·.1) ++ [s]) :: buf 1 u8 s (encB m) :: many wbE es :: own a3 [.slice t1.ptr t1.len t1.cap, .slice t2.ptr t2.len t2.cap] :: []) → j2 all2 h' := by
    intro all2 s h' O
    refine hj2 all2 h' ⟨es ++ [(s, encB m)], ?_, ?_⟩
    · rw [List.map_append, hes, take_succ_eq hmk, List.map_append]; rfl
    · have O := O.sel [1, 2, 0, 3] 4 rfl (Nat.le_add_left _ _)
      have O : Sat H h' (wbE (s, encB m) :: many wbE es :: buf 1 slc all2 (es.map (·.1) ++ [s]) :: own a3 [.slice t1.ptr t1.len t1.cap, .slice t2.ptr t2.len t2.cap] :: []) := O
      have O := O.more.swap
      rw [show es.map (·.1) ++ [s] = (es ++ [(s, encB m)]).map (·.1) by rw [List.map_append]; rfl] at O
      exact O
  have hbd : (((es.map (·.1)).length + 1) * 24 : Nat) ≤ 140737488355328 := by rw [List.length_map]; omega
  refine brr_ne (fun e => ?_) (fun e => ?_)
  · have he0 := hE.2.2 e
    have O := O.sel [2, 3, 4] 5 rfl (Nat.le_add_left _ _)
    have O : Sat H h (AllR all es a3 t1 t2) := O
    refine O.push_buf nilS rfl slc_len slc_one rfl hbd fun all2 h O _ => ?_
    refine brr_ff (by rw [hs2, he0]; rfl) ?_
    refine hnext all2 nilS h ?_
    rw [he0]
    exact (O.nil_buf (sz := 1) (enc := u8)).swap
  · have hx : encB m = sealB (bodyM m) := by unfold encB; rw [if_pos e]
    have h8 := hE.2.1 e
    have O : Sat H h (buf 1 u8 s2 (encB m) :: own x (mgC m) :: AllR all es a3 t1 t2) := O
    have hdec : decP (encB m) = (m.bare, 0) := by rw [hx]; exact decP_seal e
    refine F_message_Decode.is O U E (fun h O => O.view 0 u8_len (by simp) rfl) (by omega) hdec fun sV h O => ?_
    refine O.al fun z h O => ?_
    refine O.st 0 rfl (by simp) rfl fun h O => ?_
    dsimp only [List.set] at O
    rw [put_all (by rfl)] at O
    have O : Sat H h (own z (mgC { m.bare with v := sV }) :: buf 1 u8 sV m.b :: buf 1 u8 s2 (encB m) :: own x (mgC m) :: AllR all es a3 t1 t2) := O
    refine jn1 (fun (q : Bool) h' => q = false ∧ Sat H h' (own x (mgC m) :: buf 1 u8 s2 (encB m) :: AllR all es a3 t1 t2)) ?_ ?_
    · clear O
      rintro q h ⟨rfl, O⟩
      refine brr_ff rfl ?_
      refine jn0 (fun h' => Sat H h' (own x (mgC m) :: buf 1 u8 s2 (encB m) :: AllR all es a3 t1 t2)) ?_ ?_
      · clear O
        intro h O
        have O := O.sel [2, 1, 3, 4] 5 rfl (Nat.le_add_left _ _)
        have O : Sat H h (buf 1 slc all (es.map (·.1)) :: buf 1 u8 s2 (encB m) :: many wbE es :: own a3 [.slice t1.ptr t1.len t1.cap, .slice t2.ptr t2.len t2.cap] :: []) := O
        refine O.push_buf s2 rfl slc_len slc_one rfl hbd fun all2 h O _ => ?_
        exact hnext all2 s2 h O
      · intro j3 hj3
        exact F_law8_MessageBack.l1.is Vm e r2 r4 hes hi0 (by omega) (by omega) O hj3
    · intro j3 hj3
      refine F_law8_num.is ?_
      refine brr_ff (by decide) ?_
      refine O.ld 3 rfl (mgC_ldA ?_)
      refine O.ld 0 rfl (mgC_ld ?_)
      refine F_ref0_EqMsg.is (m := m) (n := { m.bare with v := sV }) O (fun h O => r2.kept O.kept) (fun h O => (O.view 1 u8_len (by simp) rfl).1) (by omega) (by show m.b.length < _; omega) fun q h O hq => ?_
      rw [hq.2 rfl]
      refine brr_ff rfl ?_
      rw [hs2]
      refine brr_ff (by simp; omega) ?_
      refine hj3 _ _ ⟨by simp; omega, ?_⟩
      exact O.sel [3, 2, 4, 5, 6] 7 rfl (Nat.le_add_left _ _)
theorem decP_pos {xs : List UInt8} {d : Mg} (h : decP xs = (d, 0)) : Pos d := wrong_pos (dec_sealed h).1
set_option maxRecDepth 20000 in
theorem F_law8_MessageBack.l3.is {Q : Bool → Heap → Prop} {j : Heap → Prop} (U : Us H) (E : Er H) (Vb : View H 1 (bsR H) t2 bs) (hbs : bs.length * 24 ≤ 140737488351232) (O : Sat H h [own a3 [.slice t1.ptr t1.len t1.cap, .slice t2.ptr t2.len t2.cap]]) (hj : ∀ h', Sat H h' [own a3 [.slice t1.ptr t1.len t1.cap, .slice t2.ptr t2.len t2.cap]] → j h') : F_law8_MessageBack.l3 F_message_Encode F_law8_num F_ref0_Eq F_message_Decode F_ref8_Decode F_ref0_Copy Q (pt a3 0) j 0 h := by
  rw [F_law8_MessageBack.l3.eq_1]
  simp only [nn_some, pt_add, Nat.zero_add, Nat.add_zero, Nat.reduceAdd, Nat.reduceMul, Int.toNat_zero, Int.toNat_one, Nat.zero_mul, Nat.one_mul]
  refine wl1 (k := .int .i64) (fun (n : Nat) (i : Int) (h' : Heap) => 0 ≤ i ∧ i + n = bs.length ∧ Sat H h' [own a3 [.slice t1.ptr t1.len t1.cap, .slice t2.ptr t2.len t2.cap]]) ?_ (m := bs.length) ⟨by omega, by omega, O⟩
  clear O
  rintro n (i : Int) h next hnx ⟨hi0, him, O⟩
  refine O.ld 0 rfl (ldL_s (ldL_n ?_))
  rw [show (⟨t2.ptr, t2.len, t2.cap⟩ : Sl).len = bs.length from Vb.len]
  refine brr_p (fun hlt => ?_) (fun hlt => hj _ O)
  have hmk : bs[i.toNat]? = some (bs[i.toNat]'(by omega)) := List.getElem?_eq_getElem (by omega)
  generalize bs[i.toNat]'(by omega) = x at hmk
  obtain ⟨_, _, _, _, hR2, _⟩ := Vb.2 i.toNat x hmk
  obtain ⟨_, r2, r3, r4⟩ := hR2
  have step : ∀ {h : Heap} {K : Sl → Prop} {L : List Res}, Sat H h L → K x.1 → ixS 1 t2 i fun a => ld [.sl] a h K := by
    intro h K L O k
    refine (Vb.kept O.kept).ix hi0 (by omega) fun a cs y hy hlen hR hc => ?_
    rw [hmk] at hy
    obtain rfl := Option.some.inj hy
    obtain ⟨rfl, _⟩ := hR
    exact ld_are hc (ldL_s (ldL_n k))
  refine O.ld 0 rfl (ldL_s (ldL_n ?_))
  refine step O ?_
  obtain ⟨d, e, hd⟩ : ∃ d e, decP x.2 = (d, e) := ⟨_, _, rfl⟩
  have hdb : d.b.length ≤ 16384 := by
    have := decP_b x.2
    rwa [hd] at this
  refine F_ref8_Decode.is O (fun h O => ⟨r2.kept O.kept, r3⟩) (by omega) hd fun s1 h O => ?_
  refine O.al fun z1 h O => ?_
  refine O.st 0 rfl (by simp) rfl fun h O => ?_
  have O : Sat H h [own a3 [.slice t1.ptr t1.len t1.cap, .slice t2.ptr t2.len t2.cap]] := O.drop.drop
  refine O.ld 0 rfl (ldL_s (ldL_n ?_))
  refine step O ?_
  refine F_ref0_Copy.is O (r2.kept O.kept) (by omega) fun sc h O _ _ => ?_
  refine F_message_Decode.is O U E (fun h O => O.view 0 u8_len (by simp) rfl) (by omega) hd fun s2 h O => ?_
  refine O.al fun z2 h O => ?_
  refine O.st 0 rfl (by simp) rfl fun h O => ?_
  dsimp only [List.set] at O
  rw [put_all (by rfl)] at O
  have O := O.sel [0, 1, 3] 4 rfl (Nat.le_add_left _ _)
  have O : Sat H h [own z2 (mgC { d with v := s2 }), buf 1 u8 s2 d.b, own a3 [.slice t1.ptr t1.len t1.cap, .slice t2.ptr t2.len t2.cap]] := O
  refine F_law8_num.is ?_
  refine brr_ff (by simp) ?_
  refine jn0 (fun h' => Sat H h' [own a3 [.slice t1.ptr t1.len t1.cap, .slice t2.ptr t2.len t2.cap]]) ?_ ?_
  · clear O
    intro h O
    rw [wrap64 (by omega) (by omega)]
    exact hnx (n - 1) _ _ (by omega) ⟨by omega, by omega, O⟩
  · intro j2 hj2
    refine brr_eq (fun e0 => ?_) (fun e0 => hj2 _ O.drop.drop)
    subst e0
    obtain ⟨g1, g2⟩ := dec_sealed hd
    have hen : encB { d with v := s2 } = x.2 := by
      show encB d = x.2
      unfold encB
      rw [if_pos g1, g2]
    have hwr : wrongM { d with v := s2 } = 0 := g1
    have hp0 : Pos d := decP_pos hd
    refine O.ld 0 rfl (mgC_ld ?_)
    refine F_message_Encode.is (m := { d with v := s2 }) O U (fun h O => (O.view 1 u8_len (by simp) rfl).1) hp0 fun s3 h O => ?_
    rw [hwr]
    rw [hen] at O
    have O := O.sel [0, 3] 4 rfl (Nat.le_add_left _ _)
    have O : Sat H h [buf 1 u8 s3 x.2, own a3 [.slice t1.ptr t1.len t1.cap, .slice t2.ptr t2.len t2.cap]] := O
    refine jn1 (fun (q : Bool) h' => q = false ∧ Sat H h' [own a3 [.slice t1.ptr t1.len t1.cap, .slice t2.ptr t2.len t2.cap]]) ?_ ?_
    · clear O
      rintro q h ⟨rfl, O⟩
      refine brr_ff rfl ?_
      exact hj2 h O
    · intro j3 hj3
      refine F_law8_num.is ?_
      refine brr_ff (by decide) ?_
      refine O.ld 1 rfl (ldL_s (ldL_n ?_))
      refine step O ?_
      refine F_ref0_Eq.is (O.view 0 u8_len (by simp) rfl).1 (r2.kept O.kept) (by omega) (by omega) ?_
      exact hj3 _ _ ⟨by simp, O.drop⟩
end
theorem messageBack_main (H : Heap) (cs : List Value) (F : Fit H 140737488351232 tyMail cs) (E : Er H) (U : Us H) : E_law8_MessageBack [.agg cs.toArray] H (fun r h' => r = .bool true ∧ KeptH H h') := by
  obtain ⟨t1, _, rfl, t1S, F⟩ := Fit.s F
  obtain ⟨t2, _, rfl, t2S, F⟩ := Fit.s F
  obtain rfl := Fit.e F
  refine Eq.mpr (E_law8_MessageBack.at F_law8_MessageBack t1 t2 H _) ?_
  obtain ⟨ms, Vm, hm, _⟩ := t1S.msgs (Nat.le_refl _)
  obtain ⟨bs, Vb, hb, _⟩ := t2S.bss (Nat.le_refl _)
  rw [F_law8_MessageBack.eq_1, F_law8_MessageBack_of.eq_1]
  refine Sat.al (Sat.nil H) fun a h O => ?_
  refine F_law8_begun.is O U E fun h O => ?_
  refine brr_ff rfl ?_
  refine jn0 (fun h' => Sat H h' [own a [.slice t1.ptr t1.len t1.cap, .slice t2.ptr t2.len t2.cap]]) ?_ ?_
  · clear O
    intro h O
    refine jn0 (fun h' => Sat H h' [own a [.slice t1.ptr t1.len t1.cap, .slice t2.ptr t2.len t2.cap]]) ?_ ?_
    · clear O
      intro h O
      refine F_law8_begun.is O U E fun h O => ?_
      exact And.intro (by first | rfl | trivial) O.kept
    · intro j hj
      exact F_law8_MessageBack.l3.is U E Vb hb O hj
  · intro j hj
    exact F_law8_MessageBack.l2.is U E Vm hm O hj
end Go.Proofs.YthiginhigfieiaaGreatDoor.V
