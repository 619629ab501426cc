import Derived.Test.YtdjhjpckefkolaaZCodeFresh2
import Derived.Test.YtdjhjpckefkolaaProg
namespace Go.Proofs.Ytdjhjpckefkolaa.V
open Go Go.RowKit
set_option linter.unusedVariables false
set_option maxRecDepth 100000
def F_law1_writes.l1 (r11 : Sl) (j79 : Heap → Prop) : Int → Heap → Prop :=
  wl [(10, .one (.int .i64))] (fun (next80 : Int → Heap → Prop) (i81 : Int) (h82 : Heap) =>
  brr (decide (i81 < ((r11.len : Nat) : Int)))
  (ixS 1 r11 i81 fun (a83 : Addr) =>
  st a83 [.int .u8 238] h82 fun (h84 : Heap) =>
  next80 (IntKind.i64.wrap (i81 + 1)) h84)
  (j79 h82))
def F_law1_writes_of (f14_ : Option Addr → Heap → (Sl → Heap → Prop) → Prop) (f17_ : Sl → Sl → Heap → (Bool → Heap → Prop) → Prop) (f19_ : Sl → Heap → (Sl → Heap → Prop) → Prop) (f20_ : Option Addr → Int → Heap → (Heap → Prop) → Prop) (f21_ : Int → Heap → (Sl → Heap → Prop) → Prop) (f22_ : Option Addr → Int → Heap → (Heap → Prop) → Prop) (f23_ : Int → Heap → (Sl → Heap → Prop) → Prop) (f24_ : Option Addr → Int → Heap → (Heap → Prop) → Prop) (f25_ : Int → Heap → (Sl → Heap → Prop) → Prop) (f26_ : Option Addr → Int → Heap → (Heap → Prop) → Prop) (f27_ : Int → Heap → (Sl → Heap → Prop) → Prop) (f28_ : Option Addr → Sl → Heap → (Heap → Prop) → Prop) (f29_ : Sl → Heap → (Sl → Heap → Prop) → Prop) (f30_ : Option Addr → Sl → Heap → (Heap → Prop) → Prop) (f31_ : Option Addr → Heap → (Int → Heap → Prop) → Prop) (f32_ : Sl → Sl → Heap → (Bool → Heap → Prop) → Prop) (w1 : Option Addr) (held2 : Sl) (o3 o4 o5 o6 : Int) (o7 : Sl) (h : Heap) (Q : Sl → Bool → Heap → Prop) : Prop :=
  al 56 [.int .i64 o3, .int .i64 o4, .int .i64 o5, .int .u64 o6, .slice o7.ptr o7.len o7.cap] h fun (a8 : Addr) (h9 : Heap) =>
  ld [.sl] (a8.add 4) h9 fun (v10 : Sl) =>
  f19_ v10 h9 fun (r11 : Sl) (h12 : Heap) =>
  ld [.int .i64] (a8.add 0) h12 fun (v13 : Int) =>
  jn [(1, .one .sl)] (fun (held74 : Sl) (h75 : Heap) =>
  ld [.sl] (a8.add 4) h75 fun (v76 : Sl) =>
  f32_ r11 v76 h75 fun (r77 : Bool) (h78 : Heap) =>
  jn [] (fun  (h85 : Heap) =>
  Q held74 r77 h85) (fun (j79 : Heap → Prop) =>
  F_law1_writes.l1 r11 j79 0 h78)) (fun (j14 : Sl → Heap → Prop) =>
  brr (v13 == 1)
  (ld [.int .u64] (a8.add 3) h12 fun (v15 : Int) =>
  f20_ w1 (IntKind.u8.wrap v15) h12 fun  (h16 : Heap) =>
  ld [.int .u64] (a8.add 3) h16 fun (v17 : Int) =>
  f21_ (IntKind.u8.wrap v17) h16 fun (r18 : Sl) (h19 : Heap) =>
  app 5 1 1 (.int .u8 0) held2 r18.ptr r18.len h19 fun (s20 : Sl) (h21 : Heap) =>
  j14 s20 h21)
  (jn [(1, .one .sl)] (fun (held72 : Sl) (h73 : Heap) =>
  j14 held72 h73) (fun (j22 : Sl → Heap → Prop) =>
  brr (v13 == 2)
  (ld [.int .u64] (a8.add 3) h12 fun (v23 : Int) =>
  f22_ w1 (IntKind.u32.wrap v23) h12 fun  (h24 : Heap) =>
  ld [.int .u64] (a8.add 3) h24 fun (v25 : Int) =>
  f23_ (IntKind.u32.wrap v25) h24 fun (r26 : Sl) (h27 : Heap) =>
  app 5 1 1 (.int .u8 0) held2 r26.ptr r26.len h27 fun (s28 : Sl) (h29 : Heap) =>
  j22 s28 h29)
  (jn [(1, .one .sl)] (fun (held70 : Sl) (h71 : Heap) =>
  j22 held70 h71) (fun (j30 : Sl → Heap → Prop) =>
  brr (v13 == 3)
  (ld [.int .u64] (a8.add 3) h12 fun (v31 : Int) =>
  f24_ w1 v31 h12 fun  (h32 : Heap) =>
  ld [.int .u64] (a8.add 3) h32 fun (v33 : Int) =>
  f25_ v33 h32 fun (r34 : Sl) (h35 : Heap) =>
  app 5 1 1 (.int .u8 0) held2 r34.ptr r34.len h35 fun (s36 : Sl) (h37 : Heap) =>
  j30 s36 h37)
  (jn [(1, .one .sl)] (fun (held68 : Sl) (h69 : Heap) =>
  j30 held68 h69) (fun (j38 : Sl → Heap → Prop) =>
  brr (v13 == 4)
  (ld [.int .u64] (a8.add 3) h12 fun (v39 : Int) =>
  f26_ w1 v39 h12 fun  (h40 : Heap) =>
  ld [.int .u64] (a8.add 3) h40 fun (v41 : Int) =>
  f27_ v41 h40 fun (r42 : Sl) (h43 : Heap) =>
  app 5 1 1 (.int .u8 0) held2 r42.ptr r42.len h43 fun (s44 : Sl) (h45 : Heap) =>
  j38 s44 h45)
  (jn [(1, .one .sl)] (fun (held66 : Sl) (h67 : Heap) =>
  j38 held66 h67) (fun (j46 : Sl → Heap → Prop) =>
  brr (v13 == 5)
  (f28_ w1 r11 h12 fun  (h47 : Heap) =>
  ld [.sl] (a8.add 4) h47 fun (v48 : Sl) =>
  f29_ v48 h47 fun (r49 : Sl) (h50 : Heap) =>
  app 5 1 1 (.int .u8 0) held2 r49.ptr r49.len h50 fun (s51 : Sl) (h52 : Heap) =>
  j46 s51 h52)
  (jn [(1, .one .sl)] (fun (held64 : Sl) (h65 : Heap) =>
  j46 held64 h65) (fun (j53 : Sl → Heap → Prop) =>
  brr (v13 == 6)
  (f30_ w1 r11 h12 fun  (h54 : Heap) =>
  ld [.sl] (a8.add 4) h54 fun (v55 : Sl) =>
  app 5 1 1 (.int .u8 0) held2 v55.ptr v55.len h54 fun (s56 : Sl) (h57 : Heap) =>
  j53 s56 h57)
  (brr (v13 == 7)
  (f31_ w1 h12 fun (r58 : Int) (h59 : Heap) =>
  Q held2 (r58 == ((held2.len : Nat) : Int)) h59)
  (brr (v13 == 8)
  (f14_ w1 h12 fun (r60 : Sl) (h61 : Heap) =>
  f17_ r60 held2 h61 fun (r62 : Bool) (h63 : Heap) =>
  Q held2 r62 h63)
  (j53 held2 h12))))))))))))))
def F_law1_writes (w1 : Option Addr) (held2 : Sl) (o3 o4 o5 o6 : Int) (o7 : Sl) (h : Heap) (Q : Sl → Bool → Heap → Prop) : Prop := F_law1_writes_of F_code_Writer_Out F_ref0_Eq F_law1_Lend F_code_Writer_U8 F_ref1_U8 F_code_Writer_U32 F_ref1_U32 F_code_Writer_U64 F_ref1_U64 F_code_Writer_Var F_ref1_Var F_code_Writer_Bytes F_ref1_Text F_code_Writer_Raw F_code_Writer_Len F_law1_Intact w1 held2 o3 o4 o5 o6 o7 h Q
def plan7 : Plan := .s (.r [0, 1, 5]) (.s (.r [0, 1, 5, 8]) (.s (.s (.r [0, 1, 5, 8, 15]) (.b (.s (.r [0, 1, 5, 8, 15, 16]) (.cj [(1, .one .sl)] [5, 8] (.s (.r [1, 5, 8]) (.r [1, 5, 8])) (.s (.r [0, 1, 5, 8, 15, 29]) (.cj [(1, .one .sl)] [5, 8] (.s (.r [1, 5, 8]) (.r [1, 5, 8])) (.s (.r [0, 1, 5, 8, 15, 42]) (.cj [(1, .one .sl)] [5, 8] (.s (.r [1, 5, 8]) (.r [1, 5, 8])) (.s (.r [0, 1, 5, 8, 15, 53]) (.cj [(1, .one .sl)] [5, 8] (.s (.r [1, 5, 8]) (.r [1, 5, 8])) (.s (.r [0, 1, 5, 8, 15, 64]) (.cj [(1, .one .sl)] [5, 8] (.s (.r [1, 5, 8]) (.r [1, 5, 8])) (.s (.r [0, 1, 5, 8, 15, 74]) (.cj [(1, .one .sl)] [5, 8] (.s (.r [1, 5, 8]) (.r [1, 5, 8])) (.s (.r [0, 1, 5, 8, 15, 83]) (.c (.s (.r [6, 7]) .z) (.s (.r [0, 1, 5, 8, 91]) (.c (.s (.r [6, 7]) .z) .z)))))))))))))))))) (.s (.r [1, 8, 9]) (.s (.s (.r [1, 8, 9, 10]) (.bj [] [1, 9] (.l [(10, .one (.int .i64))] [1, 8, 9] (.s (.s (.r [1, 8, 9, 10, 105]) (.c .z .z)) (.s (.b (.r [1, 8, 9, 10])) (.r [1, 8, 9, 10])))))) (.s (.r [6, 7]) .z)))))
theorem F_law1_writes.eq (f14_ : Option Addr → Heap → (Sl → Heap → Prop) → Prop) (f17_ : Sl → Sl → Heap → (Bool → Heap → Prop) → Prop) (f19_ : Sl → Heap → (Sl → Heap → Prop) → Prop) (f20_ : Option Addr → Int → Heap → (Heap → Prop) → Prop) (f21_ : Int → Heap → (Sl → Heap → Prop) → Prop) (f22_ : Option Addr → Int → Heap → (Heap → Prop) → Prop) (f23_ : Int → Heap → (Sl → Heap → Prop) → Prop) (f24_ : Option Addr → Int → Heap → (Heap → Prop) → Prop) (f25_ : Int → Heap → (Sl → Heap → Prop) → Prop) (f26_ : Option Addr → Int → Heap → (Heap → Prop) → Prop) (f27_ : Int → Heap → (Sl → Heap → Prop) → Prop) (f28_ : Option Addr → Sl → Heap → (Heap → Prop) → Prop) (f29_ : Sl → Heap → (Sl → Heap → Prop) → Prop) (f30_ : Option Addr → Sl → Heap → (Heap → Prop) → Prop) (f31_ : Option Addr → Heap → (Int → Heap → Prop) → Prop) (f32_ : Sl → Sl → Heap → (Bool → Heap → Prop) → Prop) (w1 : Option Addr) (held2 : Sl) (o3 o4 o5 o6 : Int) (o7 : Sl) (h : Heap) (K : Value → Heap → Prop) : F_law1_writes_of f14_ f17_ f19_ f20_ f21_ f22_ f23_ f24_ f25_ f26_ f27_ f28_ f29_ f30_ f31_ f32_ w1 held2 o3 o4 o5 o6 o7 h (fun (r0 : Sl) (r1 : Bool) (h : Heap) => K (.tuple #[.slice r0.ptr r0.len r0.cap, .bool r1]) h) =
    den Try.prog (fn1 14 (E_code_Writer_Out_of f14_) (fn1 17 (E_ref0_Eq_of f17_) (fn1 19 (E_law1_Lend_of f19_) (fn1 20 (E_code_Writer_U8_of f20_) (fn1 21 (E_ref1_U8_of f21_) (fn1 22 (E_code_Writer_U32_of f22_) (fn1 23 (E_ref1_U32_of f23_) (fn1 24 (E_code_Writer_U64_of f24_) (fn1 25 (E_ref1_U64_of f25_) (fn1 26 (E_code_Writer_Var_of f26_) (fn1 27 (E_ref1_Var_of f27_) (fn1 28 (E_code_Writer_Bytes_of f28_) (fn1 29 (E_ref1_Text_of f29_) (fn1 30 (E_code_Writer_Raw_of f30_) (fn1 31 (E_code_Writer_Len_of f31_) (fn1 32 (E_law1_Intact_of f32_) noFns)))))))))))))))) Try.f7.ntmps plan7 (bodyOf Try.f7) (args0 0 [(.pointer w1 : Value), (.slice held2.ptr held2.len held2.cap : Value), (.agg #[.int .i64 o3, .int .i64 o4, .int .i64 o5, .int .u64 o6, .slice o7.ptr o7.len o7.cap] : Value)]) h ⟨fun env h => dRes Try.prog Try.f7.results.toList env h K, fun _ _ _ => False, fun env h => dRes Try.prog Try.f7.results.toList env h K⟩ := by kernel_rfl
def E_law1_writes_of (f : Option Addr → Sl → Int → Int → Int → Int → Sl → Heap → (Sl → Bool → Heap → Prop) → Prop) : List Value → Heap → (Value → Heap → Prop) → Prop
  | [v0, v1, v2], h, K => dec1 .ptr v0 fun (w1 : Option Addr) =>
  dec1 .sl v1 fun (held2 : Sl) =>
  vAgg v2 fun cs2 => decs [.int .i64, .int .i64, .int .i64, .int .u64, .sl] cs2.toList fun (o3 o4 o5 o6 : Int) (o7 : Sl) =>
  f w1 held2 o3 o4 o5 o6 o7 h (fun (r0 : Sl) (r1 : Bool) (h : Heap) => K (.tuple #[.slice r0.ptr r0.len r0.cap, .bool r1]) h)
  | _, _, _ => False
abbrev E_law1_writes := E_law1_writes_of F_law1_writes
theorem E_law1_writes.right : IsRight Try.prog 7 E_law1_writes := by
  refine isRight fun vs K w hh => ?_
  match vs, hh with
  | [v0, v1, v2], hh =>
    unfold E_law1_writes E_law1_writes_of at hh
    replace hh := dec1_sound hh; obtain ⟨w1, rfl, hh⟩ := hh
    replace hh := dec1_sound hh; obtain ⟨held2, rfl, hh⟩ := hh
    replace hh := vAgg_sound hh; obtain ⟨cs2, rfl, hh⟩ := hh
    replace hh := decs_cons hh; obtain ⟨o3, l2_0, e2_0, hh⟩ := hh
    replace hh := decs_cons hh; obtain ⟨o4, l2_1, e2_1, hh⟩ := hh
    replace hh := decs_cons hh; obtain ⟨o5, l2_2, e2_2, hh⟩ := hh
    replace hh := decs_cons hh; obtain ⟨o6, l2_3, e2_3, hh⟩ := hh
    replace hh := decs_cons hh; obtain ⟨o7, l2_4, e2_4, hh⟩ := hh
    replace hh := decs_nil hh; obtain ⟨rfl, hh⟩ := hh
    subst e2_4
    subst e2_3
    subst e2_2
    subst e2_1
    have ec2 := toArray_eq e2_0
    subst ec2
    unfold F_law1_writes at hh
    exact calls_den (fn1_right ok14 E_code_Writer_Out.right (fn1_right ok17 E_ref0_Eq.right (fn1_right ok19 E_law1_Lend.right (fn1_right ok20 E_code_Writer_U8.right (fn1_right ok21 E_ref1_U8.right (fn1_right ok22 E_code_Writer_U32.right (fn1_right ok23 E_ref1_U32.right (fn1_right ok24 E_code_Writer_U64.right (fn1_right ok25 E_ref1_U64.right (fn1_right ok26 E_code_Writer_Var.right (fn1_right ok27 E_ref1_Var.right (fn1_right ok28 E_code_Writer_Bytes.right (fn1_right ok29 E_ref1_Text.right (fn1_right ok30 E_code_Writer_Raw.right (fn1_right ok31 E_code_Writer_Len.right (fn1_right ok32 E_law1_Intact.right noFns_right)))))))))))))))) plan7 _ w K Try.func7 (by kernel_rfl) (by kernel_rfl) (Eq.mp (F_law1_writes.eq F_code_Writer_Out F_ref0_Eq F_law1_Lend F_code_Writer_U8 F_ref1_U8 F_code_Writer_U32 F_ref1_U32 F_code_Writer_U64 F_ref1_U64 F_code_Writer_Var F_ref1_Var F_code_Writer_Bytes F_ref1_Text F_code_Writer_Raw F_code_Writer_Len F_law1_Intact w1 held2 o3 o4 o5 o6 o7 w.heap K) hh)
theorem ok7 : okFn Try.prog 7 = true := by kernel_rfl
end Go.Proofs.Ytdjhjpckefkolaa.V
/- Numbers of fixed size as the document writes them. -/
namespace Go.Proofs.Ytdjhjpckefkolaa.V
open Go Go.RowKit
set_option linter.unusedVariables false
set_option linter.unusedSimpArgs false
section
variable {h0 h : Heap} {L : List Res}
theorem F_ref1_fixed.is {n size : Nat} {Q : Sl → Heap → Prop} (O : Sat h0 h L) (hs : 0 < size) (hs8 : size ≤ 8) (hn : n < 18446744073709551616) (k : ∀ s h', Sat h0 h' (buf 1 u8 s (fixB n size) :: L) → Q s h') : F_ref1_fixed n size h Q := by
  rw [F_ref1_fixed.eq_1, F_ref1_fixed_of.eq_1]
  refine O.mk_buf (by omega) (by omega) (by omega) fun b h O => ?_
  have e0 : mkCells (Value.int .u8 0) ((size : Int).toNat * 1) = (List.replicate size (0 : UInt8)).flatMap u8 ++ [] := by
    have h1 : mkCells (Value.int .u8 0) ((size : Int).toNat * 1) = List.replicate size (.int .u8 0) := by
      unfold mkCells
      apply List.ext_getElem
      · simp
      · intro i h1 h2
        simp [Value.cells, Nat.mod_one]
    rw [h1, List.append_nil]
    have : ∀ k : Nat, List.replicate k (Value.int .u8 0) = (List.replicate k (0 : UInt8)).flatMap u8 := by
      intro k
      induction k with
      | zero => rfl
      | succ k ih => rw [List.replicate_succ, List.replicate_succ, List.flatMap_cons, ih]; rfl
    exact this _
  rw [e0] at O
  have O := (O.own_buf (k := 0) (sz := 1) (by simp)).bufsI
  rw [List.length_replicate, Nat.add_zero] at O
  rw [show (size : Int).toNat = size by omega]
  refine jn0 (fun h' => Sat h0 h' (buf 1 u8 ⟨some (pt b 0), size, size⟩ (fixB n size) :: L)) (fun h O => k _ h O) fun j hj => ?_
  rw [F_ref1_fixed.l1.eq_1, wrap64 (by omega) (by omega)]
  refine wl2 (k := .int .u64) (l := .int .i64) (fun (m : Nat) (x i : Int) (h' : Heap) => i + 1 = m ∧ m ≤ size ∧ x = ((n / 256 ^ (size - m) : Nat) : Int) ∧ ∃ ds : List UInt8, ds.length = size ∧ (∀ (j : Nat), m ≤ j → ds[j]? = (fixB n size)[j]?) ∧ Sat h0 h' (buf 1 u8 ⟨some (pt b 0), size, size⟩ ds :: L)) ?_ (m := size) ⟨by omega, by omega, by simp, _, by simp, by intro j hjj; rw [List.getElem?_eq_none (by simpa using hjj), List.getElem?_eq_none (by rw [fixB_len]; exact hjj)], O⟩
  clear O
  rintro m (x : Int) (i : Int) h next hn2 ⟨him, hms, rfl, ds, hds, hdj, O⟩
  refine brr_p (fun hge => ?_) (fun hge => ?_)
  · have hge : 0 ≤ i := hge
    refine ⟨by decide, ?_⟩
    have e2 : n / 256 ^ (size - (m - 1)) = n / 256 ^ (size - m) / 256 := by
      rw [show size - (m - 1) = size - m + 1 by omega, Nat.pow_succ, ← Nat.div_div_eq_div_mul]
    have hqn : n / 256 ^ (size - m) ≤ n := Nat.div_le_self _ _
    have hfx : (fixB n size)[i.toNat]? = some (UInt8.ofNat (n / 256 ^ (size - m))) := by
      rw [fixB_at (by omega), show size - 1 - i.toNat = size - m by omega]
    generalize n / 256 ^ (size - m) = q at *
    have hw : IntKind.u8.wrap ((q : Int).tmod 256) = ((UInt8.ofNat q).toNat : Int) := by
      rw [Int.tmod_eq_emod_of_nonneg (by omega), show (q : Int) % 256 = ((q % 256 : Nat) : Int) by omega, wrap8_ofNat]
      simp
    rw [hw]
    refine O.put1 u8_len u8_one hge (by omega) (UInt8.ofNat q) rfl fun h O => ?_
    refine ⟨by decide, ?_⟩
    rw [Int.tdiv_eq_ediv_of_nonneg (by omega), wrapu64 (by omega) (by omega), wrap64 (by omega) (by omega)]
    refine hn2 (m - 1) _ _ _ (by omega) ⟨by omega, by omega, by rw [e2]; omega, _, by simp [hds], fun j hj => ?_, O⟩
    rw [List.getElem?_set]
    by_cases e : i.toNat = j
    · subst e
      rw [if_pos rfl, if_pos (by omega), hfx]
    · rw [if_neg e]
      exact hdj j (by omega)
  · refine hj _ ?_
    have : ds = fixB n size := by
      apply List.ext_getElem?
      intro j
      exact hdj j (by omega)
    rw [← this]
    exact O
end
end Go.Proofs.Ytdjhjpckefkolaa.V
/- Two Writers in turns: each holds just what was laid into it: what CodeWrites plays. -/
namespace Go.Proofs.Ytdjhjpckefkolaa.V
open Go Go.RowKit
set_option linter.unusedVariables false
set_option linter.unusedSimpArgs false
section
variable {h0 h : Heap} {L : List Res}
theorem app_held' {a : Sl} {hs : Sl} {l ys : List UInt8} {T : Nat} {K : Sl → Heap → Prop} (O : Sat h0 h (buf 1 u8 hs l :: L)) (V1 : Bytes h a ys) (hl : l.length + ys.length ≤ (140737488355328 : Nat)) (k : ∀ s h', Sat h0 h' (buf 1 u8 s (l ++ ys) :: L) → K s h') :
    app T 1 1 (.int .u8 0) hs a.ptr a.len h K :=
  O.app_buf u8_len u8_one rfl (ys := ys) V1.len (V1.rd u8_len) (by omega) fun s h' O _ => k s h' O
theorem F_law1_writes.is {w : Nat} {hs : Sl} {l : List UInt8} {o : COp} {Q : Sl → Bool → Heap → Prop} (O : Sat h0 h (wrR w l :: buf 1 u8 hs l :: L)) (ho : o.n < 18446744073709551616) (Vb : Stays h0 L fun h => Bytes h o.s o.b) (hb : o.b.length ≤ 1099511627776) (hl : l.length ≤ 35184372088832)
    (k : ∀ s h' , Sat h0 h' (wrR w (l ++ laid o) :: buf 1 u8 s (l ++ laid o) :: L) → Q s true h') : F_law1_writes (some (pt w 0)) hs o.kind o.which o.m o.n o.s h Q := by
  rw [F_law1_writes.eq_1, F_law1_writes_of.eq_1]
  have hlaid := laid_len ho (by omega)
  refine O.al fun a h O => ?_
  simp only [nn_some, pt_add, Nat.zero_add, Nat.add_zero, Nat.reduceAdd, Nat.reduceMul, Int.toNat_zero, Int.toNat_one, Nat.zero_mul, Nat.one_mul]
  refine O.ld 0 rfl (ldL_c (ldL_n ?_))
  refine F_law1_Lend.is O (Vb h O.drop.drop.drop) (by omega) fun r h O hr => ?_
  refine O.ld 1 rfl (ldL_c (ldL_n ?_))
  refine jn1 (fun (s : Sl) h' => Sat h0 h' (lent r o.b :: own a (copC o) :: wrR w (l ++ laid o) :: buf 1 u8 s (l ++ laid o) :: L)) ?_ ?_
  · clear O
    intro (s : Sl) h O
    unfold copC at O
    refine O.ld 1 rfl (ldL_c (ldL_n ?_))
    refine F_law1_Intact.is O 0 (by simp) rfl (Vb h O.drop.drop.drop.drop) (by omega) ?_
    rw [show decide (o.b = o.b) = true by simp]
    refine jn0 (fun h' => ∃ zs, Sat h0 h' (lent r zs :: own a (copC o) :: wrR w (l ++ laid o) :: buf 1 u8 s (l ++ laid o) :: L)) ?_ ?_
    · rintro h ⟨zs, O⟩
      exact k s h O.drop.drop
    · intro j hj
      rw [F_law1_writes.l1.eq_1]
      refine wl1 (k := .int .i64) (fun (m : Nat) (i : Int) (h' : Heap) => 0 ≤ i ∧ i + m = o.b.length ∧ ∃ zs : List UInt8, zs.length = o.b.length ∧ Sat h0 h' (lent r zs :: own a (copC o) :: wrR w (l ++ laid o) :: buf 1 u8 s (l ++ laid o) :: L)) ?_ (m := o.b.length) ⟨by omega, by omega, o.b, rfl, O⟩
      clear O
      intro m (i : Int) h next hn ⟨hi0, him, zs, hz, O⟩
      rw [hr]
      refine brr_p (fun hlt => ?_) (fun hlt => hj _ ⟨zs, O⟩)
      refine O.putL hi0 (by omega) 238 rfl fun h O => ?_
      rw [wrap64 (by omega) (by omega)]
      exact hn (m - 1) _ _ (by omega) ⟨by omega, by omega, _, by simp [hz], O⟩
  · intro j hj
    have fin : ∀ {s : Sl} {h : Heap} {ys}, laid o = ys → Sat h0 h (lent r o.b :: own a (copC o) :: wrR w (l ++ ys) :: buf 1 u8 s (l ++ ys) :: L) → j s h := by
      intro s h ys e O
      subst e
      exact hj s h O
    have O : Sat h0 h (lent r o.b :: own a (copC o) :: wrR w l :: buf 1 u8 hs l :: L) := O
    unfold copC at O fin
    unfold laid at fin
    refine brr_eq (fun hk => ?_) (fun hk => ?_)
    · rw [if_pos hk] at fin
      refine O.ld 1 rfl (ldL_c (ldL_n ?_))
      rw [wrap8n]
      replace O := O.sel [2, 0, 1, 3] 4 rfl (Nat.le_add_left _ _)
      simp only [selT, List.map, nth, List.drop, List.cons_append, List.nil_append] at O
      refine F_code_Writer_U8.is O (Nat.mod_lt _ (by decide)) (by omega) fun h O => ?_
      refine O.ld 2 rfl (ldL_c (ldL_n ?_))
      rw [wrap8n]
      rw [F_ref1_U8.eq_1, F_ref1_U8_of.eq_1, wrapu64 (by omega) (by omega)]
      refine F_ref1_fixed.is (size := 1) O (by decide) (by decide) (by omega) fun s2 h O => ?_
      have V2 := (O.view 0 u8_len (by simp) rfl).1
      replace O := O.sel [4, 1, 2, 3] 5 rfl (Nat.le_add_left _ _)
      simp only [selT, List.map, nth, List.drop, List.cons_append, List.nil_append] at O
      refine app_held' O V2 (by rw [fixB_len]; omega) fun s h O => ?_
      replace O := O.sel [2, 3, 1, 0] 4 rfl (Nat.le_add_left _ _)
      simp only [selT, List.map, nth, List.drop, List.cons_append, List.nil_append] at O
      exact fin rfl O
    · rw [if_neg hk] at fin
      refine jn1 (fun (s : Sl) h' => j s h') (fun _ _ h => h) fun j2 hj2 => ?_
      replace fin := fun {s : Sl} {h : Heap} {ys} (e : _ = ys) O => hj2 s h (fin (s := s) (h := h) (ys := ys) e O)
      clear hj2 hj j
      refine brr_eq (fun hk => ?_) (fun hk => ?_)
      · rw [if_pos hk] at fin
        refine O.ld 1 rfl (ldL_c (ldL_n ?_))
        rw [wrap32m]
        replace O := O.sel [2, 0, 1, 3] 4 rfl (Nat.le_add_left _ _)
        simp only [selT, List.map, nth, List.drop, List.cons_append, List.nil_append] at O
        refine F_code_Writer_U32.is O (Nat.mod_lt _ (by decide)) (by omega) fun h O => ?_
        refine O.ld 2 rfl (ldL_c (ldL_n ?_))
        rw [wrap32m]
        rw [F_ref1_U32.eq_1, F_ref1_U32_of.eq_1, wrapu64 (by omega) (by omega)]
        refine F_ref1_fixed.is (size := 4) O (by decide) (by decide) (by omega) fun s2 h O => ?_
        have V2 := (O.view 0 u8_len (by simp) rfl).1
        replace O := O.sel [4, 1, 2, 3] 5 rfl (Nat.le_add_left _ _)
        simp only [selT, List.map, nth, List.drop, List.cons_append, List.nil_append] at O
        refine app_held' O V2 (by rw [fixB_len]; omega) fun s h O => ?_
        replace O := O.sel [2, 3, 1, 0] 4 rfl (Nat.le_add_left _ _)
        simp only [selT, List.map, nth, List.drop, List.cons_append, List.nil_append] at O
        exact fin rfl O
      · rw [if_neg hk] at fin
        refine jn1 (fun (s : Sl) h' => j2 s h') (fun _ _ h => h) fun j3 hj3 => ?_
        replace fin := fun {s : Sl} {h : Heap} {ys} (e : _ = ys) O => hj3 s h (fin (s := s) (h := h) (ys := ys) e O)
        clear hj3 j2
        refine brr_eq (fun hk => ?_) (fun hk => ?_)
        · rw [if_pos hk] at fin
          refine O.ld 1 rfl (ldL_c (ldL_n ?_))
          replace O := O.sel [2, 0, 1, 3] 4 rfl (Nat.le_add_left _ _)
          simp only [selT, List.map, nth, List.drop, List.cons_append, List.nil_append] at O
          refine F_code_Writer_U64.is O (by omega) fun h O => ?_
          refine O.ld 2 rfl (ldL_c (ldL_n ?_))
          rw [F_ref1_U64.eq_1, F_ref1_U64_of.eq_1]
          refine F_ref1_fixed.is (size := 8) O (by decide) (by decide) ho fun s2 h O => ?_
          have V2 := (O.view 0 u8_len (by simp) rfl).1
          replace O := O.sel [4, 1, 2, 3] 5 rfl (Nat.le_add_left _ _)
          simp only [selT, List.map, nth, List.drop, List.cons_append, List.nil_append] at O
          refine app_held' O V2 (by rw [fixB_len]; omega) fun s h O => ?_
          replace O := O.sel [2, 3, 1, 0] 4 rfl (Nat.le_add_left _ _)
          simp only [selT, List.map, nth, List.drop, List.cons_append, List.nil_append] at O
          exact fin rfl O
        · rw [if_neg hk] at fin
          refine jn1 (fun (s : Sl) h' => j3 s h') (fun _ _ h => h) fun j4 hj4 => ?_
          replace fin := fun {s : Sl} {h : Heap} {ys} (e : _ = ys) O => hj4 s h (fin (s := s) (h := h) (ys := ys) e O)
          clear hj4 j3
          refine brr_eq (fun hk => ?_) (fun hk => ?_)
          · rw [if_pos hk] at fin
            have hv := (varB_le ho).1
            refine O.ld 1 rfl (ldL_c (ldL_n ?_))
            replace O := O.sel [2, 0, 1, 3] 4 rfl (Nat.le_add_left _ _)
            simp only [selT, List.map, nth, List.drop, List.cons_append, List.nil_append] at O
            refine F_code_Writer_Var.is O ho (by omega) fun h O => ?_
            refine O.ld 2 rfl (ldL_c (ldL_n ?_))
            refine F_ref1_Var.is O ho fun s2 h O => ?_
            have V2 := (O.view 0 u8_len (by simp) rfl).1
            replace O := O.sel [4, 1, 2, 3] 5 rfl (Nat.le_add_left _ _)
            simp only [selT, List.map, nth, List.drop, List.cons_append, List.nil_append] at O
            refine app_held' O V2 (by omega) fun s h O => ?_
            replace O := O.sel [2, 3, 1, 0] 4 rfl (Nat.le_add_left _ _)
            simp only [selT, List.map, nth, List.drop, List.cons_append, List.nil_append] at O
            exact fin rfl O
          · rw [if_neg hk] at fin
            refine jn1 (fun (s : Sl) h' => j4 s h') (fun _ _ h => h) fun j5 hj5 => ?_
            replace fin := fun {s : Sl} {h : Heap} {ys} (e : _ = ys) O => hj5 s h (fin (s := s) (h := h) (ys := ys) e O)
            clear hj5 j4
            refine brr_eq (fun hk => ?_) (fun hk => ?_)
            · rw [if_pos hk] at fin
              have hv := (varB_le (n := o.b.length) (by omega)).1
              replace O := O.sel [2, 0, 1, 3] 4 rfl (Nat.le_add_left _ _)
              simp only [selT, List.map, nth, List.drop, List.cons_append, List.nil_append] at O
              refine F_code_Writer_Bytes.is O (fun h O => (O.lent 0 (by simp) rfl).1) (by omega) fun h O => ?_
              refine O.ld 2 rfl (ldL_c (ldL_n ?_))
              refine F_ref1_Text.is O (fun h O => Vb h O.drop.drop.drop.drop) (by omega) fun s2 h O => ?_
              have V2 := (O.view 0 u8_len (by simp) rfl).1
              replace O := O.sel [4, 1, 2, 3] 5 rfl (Nat.le_add_left _ _)
              simp only [selT, List.map, nth, List.drop, List.cons_append, List.nil_append] at O
              refine app_held' O V2 (by rw [List.length_append]; omega) fun s h O => ?_
              replace O := O.sel [2, 3, 1, 0] 4 rfl (Nat.le_add_left _ _)
              simp only [selT, List.map, nth, List.drop, List.cons_append, List.nil_append] at O
              exact fin rfl O
            · rw [if_neg hk] at fin
              refine jn1 (fun (s : Sl) h' => j5 s h') (fun _ _ h => h) fun j6 hj6 => ?_
              replace fin := fun {s : Sl} {h : Heap} {ys} (e : _ = ys) O => hj6 s h (fin (s := s) (h := h) (ys := ys) e O)
              clear hj6 j5
              refine brr_eq (fun hk => ?_) (fun hk => ?_)
              · rw [if_pos hk] at fin
                replace O := O.sel [2, 0, 1, 3] 4 rfl (Nat.le_add_left _ _)
                simp only [selT, List.map, nth, List.drop, List.cons_append, List.nil_append] at O
                refine F_code_Writer_Raw.is O (O.lent 1 (by simp) rfl).1 (by omega) fun h O => ?_
                refine O.ld 2 rfl (ldL_c (ldL_n ?_))
                have V2 := Vb h O.drop.drop.drop.drop
                replace O := O.sel [3, 0, 1, 2] 4 rfl (Nat.le_add_left _ _)
                simp only [selT, List.map, nth, List.drop, List.cons_append, List.nil_append] at O
                refine app_held' O V2 (by omega) fun s h O => ?_
                replace O := O.sel [2, 3, 1, 0] 4 rfl (Nat.le_add_left _ _)
                simp only [selT, List.map, nth, List.drop, List.cons_append, List.nil_append] at O
                exact fin rfl O
              · rw [if_neg hk] at fin
                have hlz : laid o = [] := by unfold laid; simp [*]
                rw [hlz, List.append_nil] at k
                refine brr_eq (fun hk7 => ?_) (fun hk7 => ?_)
                · replace O := O.sel [2, 0, 1, 3] 4 rfl (Nat.le_add_left _ _)
                  simp only [selT, List.map, nth, List.drop, List.cons_append, List.nil_append] at O
                  refine F_code_Writer_Len.is O ?_
                  rw [(O.view 3 u8_len (by simp) rfl).1.len]
                  replace O := O.sel [0, 3] 4 rfl (Nat.le_add_left _ _)
                  simp only [selT, List.map, nth, List.drop, List.cons_append, List.nil_append] at O
                  have := k _ _ O
                  simpa using this
                · refine brr_eq (fun hk8 => ?_) (fun hk8 => ?_)
                  · replace O := O.sel [2, 0, 1, 3] 4 rfl (Nat.le_add_left _ _)
                    simp only [selT, List.map, nth, List.drop, List.cons_append, List.nil_append] at O
                    refine F_code_Writer_Out.is O (by omega) fun s h O => ?_
                    refine F_ref0_Eq.is (O.view 0 u8_len (by simp) rfl).1 (O.view 4 u8_len (by simp) rfl).1 (by omega) (by omega) ?_
                    replace O := O.sel [1, 4] 5 rfl (Nat.le_add_left _ _)
                    simp only [selT, List.map, nth, List.drop, List.cons_append, List.nil_append] at O
                    have := k _ _ O
                    simpa using this
                  · refine fin rfl ?_
                    rw [List.append_nil]
                    exact O
end
end Go.Proofs.Ytdjhjpckefkolaa.V
namespace Go.Proofs.Ytdjhjpckefkolaa.V
open Go Go.RowKit
set_option linter.unusedVariables false
set_option maxRecDepth 100000
def F_law1_CodeFresh.l1 (f9_ : Option Addr → Sl → Sl → Heap → (Heap → Prop) → Prop) (f14_ : Option Addr → Heap → (Sl → Heap → Prop) → Prop) (r6 : Option Addr) (a23 : Addr) (r50 : Sl) (j77 : Heap → Prop) : Int → Heap → Prop :=
  wl [(15, .one (.int .i64))] (fun (next78 : Int → Heap → Prop) (k79 : Int) (h80 : Heap) =>
  brr (decide (k79 < 2))
  (f14_ r6 h80 fun (r81 : Sl) (h82 : Heap) =>
  f9_ (some a23) r81 r50 h82 fun  (h83 : Heap) =>
  next78 (IntKind.i64.wrap (k79 + 1)) h83)
  (j77 h80))
def F_law1_CodeFresh.l2 (f7_ : Option Addr → Sl → Int → Int → Int → Int → Sl → Heap → (Sl → Bool → Heap → Prop) → Prop) (f8_ : Option Addr → Int → Heap → (Sl → Heap → Prop) → Prop) (f9_ : Option Addr → Sl → Sl → Heap → (Heap → Prop) → Prop) (f10_ : Option Addr → Int → Heap → (Sl → Heap → Prop) → Prop) (f11_ : Option Addr → Int → Heap → (Sl → Heap → Prop) → Prop) (f12_ : Int → Int → Heap → (Int → Heap → Prop) → Prop) (f13_ : Option Addr → Int → Heap → (Sl → Heap → Prop) → Prop) (f14_ : Option Addr → Heap → (Sl → Heap → Prop) → Prop) (f15_ : Option Addr → Option Addr → Int → Heap → (Bool → Heap → Prop) → Prop) (f16_ : Option Addr → Heap → (Bool → Heap → Prop) → Prop) (Q : Bool → Heap → Prop) (a4 : Addr) (r6 r12 : Option Addr) (a19 a21 a23 : Addr) (j25 : Sl → Heap → Prop) : Sl → Int → Heap → Prop :=
  wl [(8, .one .sl), (9, .one (.int .i64))] (fun (next26 : Sl → Int → Heap → Prop) (held27 : Sl) (i28 : Int) (h29 : Heap) =>
  jn [(46, .one .bool)] (fun (x32 : Bool) (h33 : Heap) =>
  brr x32
  (jn [(8, .one .sl)] (fun (held94 : Sl) (h95 : Heap) =>
  next26 held94 (IntKind.i64.wrap (i28 + 1)) h95) (fun (j34 : Sl → Heap → Prop) =>
  ld [.sl] (a4.add 2) h33 fun (v35 : Sl) =>
  ixS 5 v35 i28 fun (a36 : Addr) =>
  ld [.int .i64, .int .i64, .int .i64, .int .u64, .sl] a36 h33 fun (v37 v38 v39 v40 : Int) (v41 : Sl) =>
  al 56 [.int .i64 0, .int .i64 0, .int .i64 0, .int .u64 0, .slice none 0 0] h33 fun (a42 : Addr) (h43 : Heap) =>
  st a42 [.int .i64 v37, .int .i64 v38, .int .i64 v39, .int .u64 v40, .slice v41.ptr v41.len v41.cap] h43 fun (h44 : Heap) =>
  ld [.int .i64, .int .i64, .int .i64, .int .u64, .sl] a42 h44 fun (v45 v46 v47 v48 : Int) (v49 : Sl) =>
  f7_ r6 held27 v45 v46 v47 v48 v49 h44 fun (r50 : Sl) (r51 : Bool) (h52 : Heap) =>
  brr (!r51)
  (Q false h52)
  (ld [.int .i64] (a42.add 0) h52 fun (v53 : Int) =>
  jn [] (fun  (h86 : Heap) =>
  jn [(111, .one .bool)] (fun (x92 : Bool) (h93 : Heap) =>
  brr x92
  (Q false h93)
  (j34 r50 h93)) (fun (j87 : Bool → Heap → Prop) =>
  f15_ (some a23) (some a21) 6 h86 fun (r88 : Bool) (h89 : Heap) =>
  brr (!r88)
  (j87 true h89)
  (f16_ (some a21) h89 fun (r90 : Bool) (h91 : Heap) =>
  j87 (!r90) h91))) (fun (j54 : Heap → Prop) =>
  jn [(66, .one .bool)] (fun (x56 : Bool) (h57 : Heap) =>
  jn [] (fun  (h85 : Heap) =>
  j54 h85) (fun (j58 : Heap → Prop) =>
  brr x56
  (ld [.int .i64] (a42.add 2) h57 fun (v59 : Int) =>
  f8_ r12 v59 h57 fun (r60 : Sl) (h61 : Heap) =>
  ld [.int .i64] (a42.add 2) h61 fun (v62 : Int) =>
  f10_ (some a19) v62 h61 fun (r63 : Sl) (h64 : Heap) =>
  f9_ (some a23) r60 r63 h64 fun  (h65 : Heap) =>
  ld [.int .i64] (a42.add 2) h65 fun (v66 : Int) =>
  f12_ v66 5 h65 fun (r67 : Int) (h68 : Heap) =>
  f11_ r12 r67 h68 fun (r69 : Sl) (h70 : Heap) =>
  ld [.int .i64] (a42.add 2) h70 fun (v71 : Int) =>
  f12_ v71 5 h70 fun (r72 : Int) (h73 : Heap) =>
  f13_ (some a19) r72 h73 fun (r74 : Sl) (h75 : Heap) =>
  f9_ (some a23) r69 r74 h75 fun  (h76 : Heap) =>
  jn [] (fun  (h84 : Heap) =>
  j58 h84) (fun (j77 : Heap → Prop) =>
  F_law1_CodeFresh.l1 f9_ f14_ r6 a23 r50 j77 0 h76))
  (j58 h57))) (fun (j55 : Bool → Heap → Prop) =>
  brr (v53 == 5)
  (j55 (v53 == 5) h52)
  (j55 (v53 == 6) h52))))))
  (j25 held27 h33)) (fun (j30 : Bool → Heap → Prop) =>
  ld [.sl] (a4.add 2) h29 fun (v31 : Sl) =>
  brr (decide (i28 < ((v31.len : Nat) : Int)))
  (j30 (decide (i28 < 400)) h29)
  (j30 false h29)))
def F_law1_CodeFresh_of (f4_ : Heap → (Option Addr → Heap → Prop) → Prop) (f5_ : Sl → Heap → (Option Addr → Heap → Prop) → Prop) (f6_ : Sl → Heap → (Sl → Heap → Prop) → Prop) (f7_ : Option Addr → Sl → Int → Int → Int → Int → Sl → Heap → (Sl → Bool → Heap → Prop) → Prop) (f8_ : Option Addr → Int → Heap → (Sl → Heap → Prop) → Prop) (f9_ : Option Addr → Sl → Sl → Heap → (Heap → Prop) → Prop) (f10_ : Option Addr → Int → Heap → (Sl → Heap → Prop) → Prop) (f11_ : Option Addr → Int → Heap → (Sl → Heap → Prop) → Prop) (f12_ : Int → Int → Heap → (Int → Heap → Prop) → Prop) (f13_ : Option Addr → Int → Heap → (Sl → Heap → Prop) → Prop) (f14_ : Option Addr → Heap → (Sl → Heap → Prop) → Prop) (f15_ : Option Addr → Option Addr → Int → Heap → (Bool → Heap → Prop) → Prop) (f16_ : Option Addr → Heap → (Bool → Heap → Prop) → Prop) (f17_ : Sl → Sl → Heap → (Bool → Heap → Prop) → Prop) (script1 script2 script3 : Sl) (h : Heap) (Q : Bool → Heap → Prop) : Prop :=
  al 26 [.slice script1.ptr script1.len script1.cap, .slice script2.ptr script2.len script2.cap, .slice script3.ptr script3.len script3.cap] h fun (a4 : Addr) (h5 : Heap) =>
  f4_ h5 fun (r6 : Option Addr) (h7 : Heap) =>
  ixA 1 (a4.add 0) 2 0 fun (a8 : Addr) =>
  ld [.sl] a8 h7 fun (v9 : Sl) =>
  f6_ v9 h7 fun (r10 : Sl) (h11 : Heap) =>
  f5_ r10 h11 fun (r12 : Option Addr) (h13 : Heap) =>
  jn [(28, .one .bool)] (fun (x15 : Bool) (h16 : Heap) =>
  brr x15
  (Q false h16)
  (ixA 1 (a4.add 0) 2 0 fun (a17 : Addr) =>
  ld [.sl] a17 h16 fun (v18 : Sl) =>
  al 34 [.slice v18.ptr v18.len v18.cap, .int .i64 0, .int .i64 0] h16 fun (a19 : Addr) (h20 : Heap) =>
  al 50 [.slice none 0 0, .slice none 0 0, .int .i64 0, .slice none 0 0, .slice none 0 0, .int .i64 0, .slice none 0 0, .slice none 0 0, .int .i64 0, .slice none 0 0, .slice none 0 0, .int .i64 0, .slice none 0 0, .slice none 0 0, .int .i64 0, .slice none 0 0, .slice none 0 0, .int .i64 0, .slice none 0 0, .slice none 0 0, .int .i64 0, .slice none 0 0, .slice none 0 0, .int .i64 0, .slice none 0 0, .slice none 0 0, .int .i64 0, .slice none 0 0, .slice none 0 0, .int .i64 0, .slice none 0 0, .slice none 0 0, .int .i64 0, .slice none 0 0, .slice none 0 0, .int .i64 0, .int .i64 0, .int .i64 0, .int .i64 0] h20 fun (a21 : Addr) (h22 : Heap) =>
  al 53 [.slice none 0 0, .slice none 0 0] h22 fun (a23 : Addr) (h24 : Heap) =>
  jn [(8, .one .sl)] (fun (held96 : Sl) (h97 : Heap) =>
  jn [(2, .one .bool)] (fun (x105 : Bool) (h106 : Heap) =>
  Q x105 h106) (fun (j98 : Bool → Heap → Prop) =>
  f15_ (some a23) (some a21) 0 h97 fun (r99 : Bool) (h100 : Heap) =>
  brr r99
  (f14_ r6 h100 fun (r101 : Sl) (h102 : Heap) =>
  f17_ r101 held96 h102 fun (r103 : Bool) (h104 : Heap) =>
  j98 r103 h104)
  (j98 false h100))) (fun (j25 : Sl → Heap → Prop) =>
  F_law1_CodeFresh.l2 f7_ f8_ f9_ f10_ f11_ f12_ f13_ f14_ f15_ f16_ Q a4 r6 r12 a19 a21 a23 j25 (⟨none, 0, 0⟩ : Sl) 0 h24))) (fun (j14 : Bool → Heap → Prop) =>
  brr r6.isNone
  (j14 true h13)
  (j14 r12.isNone h13))
def F_law1_CodeFresh (script1 script2 script3 : Sl) (h : Heap) (Q : Bool → Heap → Prop) : Prop := F_law1_CodeFresh_of F_code_New F_code_Read F_ref0_Copy F_law1_writes F_code_Reader_Bytes F_law1_Late_Add F_ref1_Eye_Text F_code_Reader_Raw F_law1_into F_ref1_Eye_Raw F_code_Writer_Out F_law1_Late_Settle F_law1_Book_Look F_ref0_Eq script1 script2 script3 h Q
def plan3 : Plan := .s (.r [1]) (.s (.r [1, 3]) (.s (.r [1, 3, 4]) (.s (.s (.rj [(28, .one .bool)] [1, 3, 4]) (.c (.s (.r [2]) .z) .z)) (.s (.r [1, 3, 4, 5]) (.s (.r [1, 3, 4, 5, 6]) (.s (.r [1, 3, 4, 5, 6, 7]) (.s (.r [1, 3, 4, 5, 6, 7, 8]) (.s (.s (.r [1, 3, 4, 5, 6, 7, 8, 9]) (.bj [(8, .one .sl)] [3, 6, 7] (.l [(8, .one .sl), (9, .one (.int .i64))] [1, 3, 4, 5, 6, 7] (.s (.s (.rj [(46, .one .bool)] [1, 3, 4, 5, 6, 7, 8, 9]) (.c .z .z)) (.s (.bj [(8, .one .sl)] [1, 3, 4, 5, 6, 7, 9] (.s (.r [1, 3, 4, 5, 6, 7, 8, 9, 10]) (.s (.r [1, 3, 4, 5, 6, 7, 9, 10, 11, 12]) (.s (.r [1, 3, 4, 5, 6, 7, 8, 9, 10, 12]) (.s (.s (.r [1, 3, 4, 5, 6, 7, 8, 9, 10, 63]) (.c (.s (.r [2]) .z) .z)) (.s (.s (.r [1, 3, 4, 5, 6, 7, 8, 9, 10, 65]) (.bj [] [1, 3, 4, 5, 6, 7, 8, 9] (.s (.s (.r [1, 3, 4, 5, 6, 7, 8, 9, 10, 65, 66]) (.cj [(66, .one .bool)] [1, 3, 4, 5, 6, 7, 8, 9, 10] .z (.r [1, 3, 4, 5, 6, 7, 8, 9, 10, 66]))) (.cj [] [1, 3, 4, 5, 6, 7, 8, 9] (.s (.r [1, 3, 4, 5, 6, 7, 8, 9, 10, 13]) (.s (.r [1, 3, 4, 5, 6, 7, 8, 9, 10]) (.s (.r [1, 3, 4, 5, 6, 7, 8, 9, 10, 14]) (.s (.r [1, 3, 4, 5, 6, 7, 8, 9]) (.s (.r [1, 3, 4, 5, 6, 7, 8, 9, 15]) (.bj [] [1, 3, 4, 5, 6, 7, 8, 9] (.l [(15, .one (.int .i64))] [1, 3, 4, 5, 6, 7, 8, 9] (.s (.s (.r [1, 3, 4, 5, 6, 7, 8, 9, 15, 94]) (.c .z .z)) (.s (.b (.s (.r [1, 3, 4, 5, 6, 7, 8, 9, 15, 16]) (.r [1, 3, 4, 5, 6, 7, 8, 9, 15]))) (.r [1, 3, 4, 5, 6, 7, 8, 9, 15])))))))))) .z)))) (.s (.rj [(111, .one .bool)] [1, 3, 4, 5, 6, 7, 8, 9]) (.c (.s (.r [2]) .z) .z)))))))) (.r [1, 3, 4, 5, 6, 7, 8, 9])))))) (.s (.rj [(2, .one .bool)] []) .z)))))))))
theorem F_law1_CodeFresh.eq (f4_ : Heap → (Option Addr → Heap → Prop) → Prop) (f5_ : Sl → Heap → (Option Addr → Heap → Prop) → Prop) (f6_ : Sl → Heap → (Sl → Heap → Prop) → Prop) (f7_ : Option Addr → Sl → Int → Int → Int → Int → Sl → Heap → (Sl → Bool → Heap → Prop) → Prop) (f8_ : Option Addr → Int → Heap → (Sl → Heap → Prop) → Prop) (f9_ : Option Addr → Sl → Sl → Heap → (Heap → Prop) → Prop) (f10_ : Option Addr → Int → Heap → (Sl → Heap → Prop) → Prop) (f11_ : Option Addr → Int → Heap → (Sl → Heap → Prop) → Prop) (f12_ : Int → Int → Heap → (Int → Heap → Prop) → Prop) (f13_ : Option Addr → Int → Heap → (Sl → Heap → Prop) → Prop) (f14_ : Option Addr → Heap → (Sl → Heap → Prop) → Prop) (f15_ : Option Addr → Option Addr → Int → Heap → (Bool → Heap → Prop) → Prop) (f16_ : Option Addr → Heap → (Bool → Heap → Prop) → Prop) (f17_ : Sl → Sl → Heap → (Bool → Heap → Prop) → Prop) (script1 script2 script3 : Sl) (h : Heap) (K : Value → Heap → Prop) : F_law1_CodeFresh_of f4_ f5_ f6_ f7_ f8_ f9_ f10_ f11_ f12_ f13_ f14_ f15_ f16_ f17_ script1 script2 script3 h (fun (r0 : Bool) (h : Heap) => K (.bool r0) h) =
    den Try.prog (fn1 4 (E_code_New_of f4_) (fn1 5 (E_code_Read_of f5_) (fn1 6 (E_ref0_Copy_of f6_) (fn1 7 (E_law1_writes_of f7_) (fn1 8 (E_code_Reader_Bytes_of f8_) (fn1 9 (E_law1_Late_Add_of f9_) (fn1 10 (E_ref1_Eye_Text_of f10_) (fn1 11 (E_code_Reader_Raw_of f11_) (fn1 12 (E_law1_into_of f12_) (fn1 13 (E_ref1_Eye_Raw_of f13_) (fn1 14 (E_code_Writer_Out_of f14_) (fn1 15 (E_law1_Late_Settle_of f15_) (fn1 16 (E_law1_Book_Look_of f16_) (fn1 17 (E_ref0_Eq_of f17_) noFns)))))))))))))) Try.f3.ntmps plan3 (bodyOf Try.f3) (args0 0 [(.agg #[.slice script1.ptr script1.len script1.cap, .slice script2.ptr script2.len script2.cap, .slice script3.ptr script3.len script3.cap] : Value)]) h ⟨fun env h => dRes Try.prog Try.f3.results.toList env h K, fun _ _ _ => False, fun env h => dRes Try.prog Try.f3.results.toList env h K⟩ := by kernel_rfl
def E_law1_CodeFresh_of (f : Sl → Sl → Sl → Heap → (Bool → Heap → Prop) → Prop) : List Value → Heap → (Value → Heap → Prop) → Prop
  | [v0], h, K => vAgg v0 fun cs0 => decs [.sl, .sl, .sl] cs0.toList fun (script1 script2 script3 : Sl) =>
  f script1 script2 script3 h (fun (r0 : Bool) (h : Heap) => K (.bool r0) h)
  | _, _, _ => False
abbrev E_law1_CodeFresh := E_law1_CodeFresh_of F_law1_CodeFresh
theorem E_law1_CodeFresh.at (f : Sl → Sl → Sl → Heap → (Bool → Heap → Prop) → Prop) (script1 script2 script3 : Sl) (h : Heap) (K : Value → Heap → Prop) : E_law1_CodeFresh_of f [.agg ([.slice script1.ptr script1.len script1.cap, .slice script2.ptr script2.len script2.cap, .slice script3.ptr script3.len script3.cap] : List Value).toArray] h K = f script1 script2 script3 h (fun (r0 : Bool) (h : Heap) => K (.bool r0) h) := rfl
theorem E_law1_CodeFresh.right : IsRight Try.prog 3 E_law1_CodeFresh := by
  refine isRight fun vs K w hh => ?_
  match vs, hh with
  | [v0], hh =>
    unfold E_law1_CodeFresh E_law1_CodeFresh_of at hh
    replace hh := vAgg_sound hh; obtain ⟨cs0, rfl, hh⟩ := hh
    replace hh := decs_cons hh; obtain ⟨script1, l0_0, e0_0, hh⟩ := hh
    replace hh := decs_cons hh; obtain ⟨script2, l0_1, e0_1, hh⟩ := hh
    replace hh := decs_cons hh; obtain ⟨script3, l0_2, e0_2, hh⟩ := hh
    replace hh := decs_nil hh; obtain ⟨rfl, hh⟩ := hh
    subst e0_2
    subst e0_1
    have ec0 := toArray_eq e0_0
    subst ec0
    unfold F_law1_CodeFresh at hh
    exact calls_den (fn1_right ok4 E_code_New.right (fn1_right ok5 E_code_Read.right (fn1_right ok6 E_ref0_Copy.right (fn1_right ok7 E_law1_writes.right (fn1_right ok8 E_code_Reader_Bytes.right (fn1_right ok9 E_law1_Late_Add.right (fn1_right ok10 E_ref1_Eye_Text.right (fn1_right ok11 E_code_Reader_Raw.right (fn1_right ok12 E_law1_into.right (fn1_right ok13 E_ref1_Eye_Raw.right (fn1_right ok14 E_code_Writer_Out.right (fn1_right ok15 E_law1_Late_Settle.right (fn1_right ok16 E_law1_Book_Look.right (fn1_right ok17 E_ref0_Eq.right noFns_right)))))))))))))) plan3 _ w K Try.func3 (by kernel_rfl) (by kernel_rfl) (Eq.mp (F_law1_CodeFresh.eq F_code_New F_code_Read F_ref0_Copy F_law1_writes F_code_Reader_Bytes F_law1_Late_Add F_ref1_Eye_Text F_code_Reader_Raw F_law1_into F_ref1_Eye_Raw F_code_Writer_Out F_law1_Late_Settle F_law1_Book_Look F_ref0_Eq script1 script2 script3 w.heap K) hh)
theorem ok3 : okFn Try.prog 3 = true := by kernel_rfl
end Go.Proofs.Ytdjhjpckefkolaa.V
/- What a Reader and a Writer hand out is new memory: CodeFresh. -/
namespace Go.Proofs.Ytdjhjpckefkolaa.V
open Go Go.RowKit
set_option linter.unusedVariables false
set_option linter.unusedSimpArgs false
theorem book_new {h0 h : Heap} {L : List Res} {bk : Nat} (O : Sat h0 h (own bk (bkC ⟨none, 0, 0⟩ ⟨none, 0, 0⟩ 0 0 0 0) :: L)) : Sat h0 h (bkR bk 0 :: L) := by
  have O := famR.none O
  have O := O.nil_buf (sz := 1) (enc := natc)
  have O := O.nil_buf (sz := 1) (enc := slc)
  replace O := O.sel [3, 0, 1, 2] 4 rfl (Nat.le_add_left _ _)
  simp only [selT, List.map, nth, List.drop, List.cons_append, List.nil_append] at O
  exact Sat.bookI (x := ⟨⟨none, 0, 0⟩, ⟨none, 0, 0⟩, [], 0, 0, 0, 0⟩) ⟨Nat.le_refl _, Nat.le_refl _, by simp, by decide, fun i e hi => by simp at hi⟩ O
theorem codeFresh_main (H : Heap) (cs : List Value) (F : Fit H 1048576 tyCScript cs) : E_law1_CodeFresh [.agg cs.toArray] H (fun r h' => r = .bool true ∧ KeptH H h') := by
  obtain ⟨_, _, rfl, _, ⟨_, _, rfl, _, ⟨t1, rfl, t1S⟩, _, _, rfl, _, ⟨t2, rfl, t2S⟩, rfl⟩, _, _, rfl, _, ⟨t3, rfl, t3S⟩, rfl⟩ := F
  simp only [List.cons_append, List.nil_append, List.append_nil]
  refine Eq.mpr (E_law1_CodeFresh.at F_law1_CodeFresh t1 t2 t3 H _) ?_
  obtain ⟨ops, Vo, hol⟩ := t3S.cops
  obtain ⟨hc1, xs, Vb, hb⟩ := t1S.bytesN
  have lda : ∀ {h : Heap} {L : List Res} {ba : Nat} {K : Addr → Sl → Prop}, Sat H h L → (∃ i, nth i L = own ba [.slice t1.ptr t1.len t1.cap, .slice t2.ptr t2.len t2.cap, .slice t3.ptr t3.len t3.cap]) → K (pt ba 0) t1 → ixA 1 (pt ba 0) 2 0 fun a => V.ld [.sl] a h (K a) := by
    intro h L ba K O ⟨i, hi⟩ k
    refine ⟨by decide, by decide, ?_⟩
    rw [show (0 : Int).toNat * 1 = 0 from rfl, pt_add]
    exact O.ld i hi (ldL_c (k := .sl) (x := t1) (ldL_n k))
  rw [F_law1_CodeFresh.eq_1, F_law1_CodeFresh_of.eq_1]
  refine Sat.al (Sat.nil H) fun ba h1 O => ?_
  refine F_code_New.is O fun w h O => ?_
  simp only [pt_add]
  refine lda O ⟨1, rfl⟩ ?_
  refine F_ref0_Copy.is O (Vb.kept O.kept) (by omega) fun s h O _ _ => ?_
  refine F_code_Read.is O (O.view 0 u8_len (by simp) rfl).1 (by omega) fun p h O => ?_
  refine jn1 (fun z h' => z = false ∧ h' = h) ?_ ?_
  case refine_2 =>
    intro j hj
    refine brr_ff rfl ?_
    exact hj _ _ ⟨rfl, rfl⟩
  rintro z h2 ⟨rfl, rfl⟩
  refine brr_ff rfl ?_
  refine lda O ⟨3, rfl⟩ ?_
  refine O.al fun ey h O => ?_
  refine O.al fun bk h O => ?_
  refine O.al fun lt h O => ?_
  have O := lt_new O
  have O := O.sel [1, 0, 2, 3, 5, 6] 7 rfl (Nat.le_add_left _ _)
  have O : Sat H h (own bk (bkC ⟨none, 0, 0⟩ ⟨none, 0, 0⟩ 0 0 0 0) :: _) := O
  have O := book_new O
  have O := (O.nil_buf (sz := 1) (enc := u8)).sel [5, 0, 4, 3, 2, 1, 6] 7 rfl (Nat.le_add_left _ _)
  have Ey : ∀ {L : List Res} {r : RS}, r.b = xs → Eyes H L t1 r.b := fun e h O => ⟨e ▸ Vb.kept O.kept, hc1⟩
  refine jn1 (fun (hs : Sl) h' => ∃ (l : List UInt8) (n T : Nat), l.length ≤ 400 * 1048600 ∧ n + T ≤ 1600 ∧ Sat H h' [wrR w l, buf 1 u8 hs l, lateR lt n, bkR bk T]) ?_ ?_
  · clear O
    rintro hs h ⟨l, n, T, hl, hnT, O⟩
    refine jn1 (fun z h' => z = true ∧ KeptH H h') (fun z h hC => hC.1 ▸ ⟨rfl, hC.2⟩) fun j hj => ?_
    refine F_law1_Late_Settle.is (by omega) (O.sel [2, 3, 0, 1] 4 rfl (Nat.le_add_left _ _)) fun n2 T2 h hle O => ?_
    refine brr_tt rfl ?_
    refine F_code_Writer_Out.is (O.sel [2, 3] 4 rfl (Nat.le_add_left _ _)) (by omega) fun s2 h O => ?_
    refine F_ref0_Eq.is (O.view 0 u8_len (by simp) rfl).1 (O.view 2 u8_len (by simp) rfl).1 (by omega) (by omega) ?_
    exact hj _ _ ⟨by simp, O.kept⟩
  intro j25 hj25
  rw [F_law1_CodeFresh.l2.eq_1]
  have o0 : RS.Ok ⟨xs, 0, 0⟩ := ⟨by show 0 ≤ xs.length; omega, by show xs.length ≤ _; omega, by show 0 ≤ 4; decide⟩
  refine wl2 (k := .sl) (l := .int .i64) (fun (m : Nat) (hs : Sl) (i : Int) (h' : Heap) => i + m = ops.length ∧ 0 ≤ i ∧ i ≤ 400 ∧ ∃ (l : List UInt8) (r : RS) (n T : Nat), (l.length : Int) ≤ i * 1048600 ∧ (n + T : Int) ≤ 4 * i ∧ r.Ok ∧ r.b = xs ∧ Sat H h' [wrR w l, buf 1 u8 hs l, rdR p r, own ey (eyC t1 r), lateR lt n, bkR bk T, own ba [.slice t1.ptr t1.len t1.cap, .slice t2.ptr t2.len t2.cap, .slice t3.ptr t3.len t3.cap]]) ?_ (m := ops.length) ⟨by omega, by omega, by omega, [], ⟨xs, 0, 0⟩, 0, 0, by simp, by simp, o0, rfl, O⟩
  clear O
  rintro m (hs : Sl) (i : Int) h next hnx ⟨him, hi0, hi4, l, r, n, T, hl, hnT, ok, hrb, O⟩
  refine jn1 (fun t h' => h' = h ∧ t = decide (i < ops.length ∧ i < 400)) ?_ ?_
  case refine_2 =>
    intro j2 hj2
    refine O.ld 6 rfl (ldL_s (ldL_n ?_))
    rw [Vo.len]
    refine brr_p (fun hlt => ?_) (fun hlt => ?_)
    · exact hj2 _ _ ⟨rfl, by simp [hlt]⟩
    · exact hj2 _ _ ⟨rfl, by simp; intro h; omega⟩
  rintro t h ⟨rfl, rfl⟩
  refine brr_p (fun hg => ?_) (fun hg => hj25 _ _ ⟨l, n, T, by omega, by omega, O.sel [0, 1, 4, 5] 7 rfl (Nat.le_add_left _ _)⟩)
  obtain ⟨hlt, hlt4⟩ := hg
  refine jn1 (fun (hs : Sl) h' => ∃ (l : List UInt8) (r : RS) (n T : Nat), (l.length : Int) ≤ (i + 1) * 1048600 ∧ (n + T : Int) ≤ 4 * (i + 1) ∧ r.Ok ∧ r.b = xs ∧ Sat H h' [wrR w l, buf 1 u8 hs l, rdR p r, own ey (eyC t1 r), lateR lt n, bkR bk T, own ba [.slice t1.ptr t1.len t1.cap, .slice t2.ptr t2.len t2.cap, .slice t3.ptr t3.len t3.cap]]) ?_ ?_
  · clear O
    rintro hs h ⟨l, r, n, T, hl, hnT, ok, hrb, O⟩
    rw [wrap64 (by omega) (by omega)]
    exact hnx (m - 1) _ _ _ (by omega) ⟨by omega, by omega, by omega, l, r, n, T, hl, hnT, ok, hrb, O⟩
  intro j34 hj34
  refine O.ld 6 rfl (ldL_s (ldL_n ?_))
  refine (Vo.kept O.kept).ix hi0 hlt fun a cs o hx hlen hR hc => ?_
  obtain ⟨rfl, r1, r2, r3, r4, r5, r6, r7, r8⟩ := hR
  refine ld_are hc (ldL_c (ldL_c (ldL_c (ldL_c (ldL_c (k := .sl) (x := o.s) (ldL_n ?_))))))
  refine O.al fun a42 h O => ?_
  refine O.st 0 rfl (by simp) rfl fun h O => ?_
  dsimp only [V.put, List.set] at O
  refine O.ld 0 rfl (ldL_c (ldL_c (ldL_c (ldL_c (ldL_s (ldL_n ?_))))))
  have O : Sat H h [wrR w l, buf 1 u8 hs l, own a42 (copC o), rdR p r, own ey (eyC t1 r), lateR lt n, bkR bk T, own ba [.slice t1.ptr t1.len t1.cap, .slice t2.ptr t2.len t2.cap, .slice t3.ptr t3.len t3.cap]] := O.sel [1, 2, 0, 3, 4, 5, 6, 7] 8 rfl (Nat.le_add_left _ _)
  have hlaid := laid_len r1 (by omega)
  refine F_law1_writes.is O r1 (fun h O => r2.kept O.kept) (by omega) (by omega) fun hs h O => ?_
  have hl2 : ((l ++ laid o).length : Int) ≤ (i + 1) * 1048600 := by rw [List.length_append]; omega
  generalize l ++ laid o = l at O hl2
  refine brr_ff rfl ?_
  refine O.ld 2 rfl (ldL_c (ldL_n ?_))
  refine jn0 (fun h' => ∃ (r : RS) (n T : Nat), (n + T : Int) ≤ 4 * (i + 1) ∧ r.Ok ∧ r.b = xs ∧ Sat H h' [wrR w l, buf 1 u8 hs l, rdR p r, own ey (eyC t1 r), lateR lt n, bkR bk T, own ba [.slice t1.ptr t1.len t1.cap, .slice t2.ptr t2.len t2.cap, .slice t3.ptr t3.len t3.cap]]) ?_ ?_
  · clear O
    rintro h ⟨r, n, T, hnT, ok, hrb, O⟩
    refine jn1 (fun z h' => z = false ∧ ∃ (n T : Nat), (n + T : Int) ≤ 4 * (i + 1) ∧ Sat H h' [wrR w l, buf 1 u8 hs l, rdR p r, own ey (eyC t1 r), lateR lt n, bkR bk T, own ba [.slice t1.ptr t1.len t1.cap, .slice t2.ptr t2.len t2.cap, .slice t3.ptr t3.len t3.cap]]) ?_ ?_
    · clear O hnT n T
      rintro z h ⟨rfl, n, T, hnT, O⟩
      refine brr_ff rfl ?_
      exact hj34 _ _ ⟨l, r, n, T, hl2, hnT, ok, hrb, O⟩
    · intro j hj
      refine F_law1_Late_Settle.is (by omega) (O.sel [4, 5, 0, 1, 2, 3, 6] 7 rfl (Nat.le_add_left _ _)) fun n2 T2 h hle O => ?_
      refine brr_ff rfl ?_
      refine F_law1_Book_Look.is (by omega) (O.sel [1, 0, 2, 3, 4, 5, 6] 7 rfl (Nat.le_add_left _ _)) fun h O => ?_
      exact hj _ _ ⟨rfl, n2, T2, by omega, O.sel [2, 3, 4, 5, 1, 0, 6] 7 rfl (Nat.le_add_left _ _)⟩
  intro j54 hj54
  refine jn1 (fun z h' => h' = h) ?_ ?_
  case refine_2 =>
    intro j hj
    refine brr_of (fun _ => hj _ _ rfl) (fun _ => hj _ _ rfl)
  rintro z h2 rfl
  refine jn_go ?_
  refine brr_of (fun _ => ?_) (fun _ => hj54 _ ⟨r, n, T, by omega, ok, hrb, O.sel [0, 1, 3, 4, 5, 6, 7] 8 rfl (Nat.le_add_left _ _)⟩)
  refine O.ld 2 rfl (ldL_c (ldL_n ?_))
  refine F_code_Reader_Bytes.is ok r8 (O.sel [3, 0, 1, 2, 4, 5, 6, 7] 8 rfl (Nat.le_add_left _ _)) fun x h O => ?_
  refine O.ld 4 rfl (ldL_c (ldL_n ?_))
  refine F_ref1_Eye_Text.is ok (Ey hrb) r8 (O.sel [5, 0, 1, 2, 3, 4, 6, 7, 8] 9 rfl (Nat.le_add_left _ _)) fun t h O => ?_
  have ok2 := ok.bytesP o.m
  have hrb2 : (r.bytesP o.m).1.b = xs := RS.bytesP_b.trans hrb
  have hle := RS.bytesP_le (r := r) (n := o.m)
  rw [hrb] at hle
  generalize (r.bytesP o.m).1 = r2 at O ok2 hrb2
  generalize (r.bytesP o.m).2 = ys at O hle
  refine F_law1_Late_Add.is (xs := ys) (w := t) (by omega) (by omega) (fun h O => (O.view 0 u8_len (by simp) rfl).1) (O.sel [2, 7, 0, 1, 3, 4, 5, 6, 8, 9] 10 rfl (Nat.le_add_left _ _)) fun h O => ?_
  refine O.ld 6 rfl (ldL_c (ldL_n ?_))
  refine F_law1_into.is (by decide) (by decide) ?_
  have m5 := Int.emod_lt_of_pos o.m (show (0 : Int) < 5 by decide)
  refine F_code_Reader_Raw.is ok2 (by omega) (O.sel [3, 0, 2, 4, 5, 6, 7, 8] 9 rfl (Nat.le_add_left _ _)) fun y h O => ?_
  refine O.ld 6 rfl (ldL_c (ldL_n ?_))
  refine F_law1_into.is (by decide) (by decide) ?_
  refine F_ref1_Eye_Raw.is ok2 (Ey hrb2) (by omega) (O.sel [3, 0, 1, 2, 4, 5, 6, 7, 8] 9 rfl (Nat.le_add_left _ _)) fun tz h O => ?_
  have ok3 := ok2.rawP (o.m % 5)
  have hrb3 : (r2.rawP (o.m % 5)).1.b = xs := RS.rawP_b.trans hrb2
  have hle := RS.rawP_le (r := r2) (n := o.m % 5)
  rw [hrb2] at hle
  generalize (r2.rawP (o.m % 5)).1 = r3 at O ok3 hrb3
  generalize (r2.rawP (o.m % 5)).2 = zs at O hle
  refine F_law1_Late_Add.is (xs := zs) (w := tz) (by omega) (by omega) (fun h O => (O.view 0 u8_len (by simp) rfl).1) (O.sel [2, 4, 0, 1, 3, 5, 6, 7, 8, 9] 10 rfl (Nat.le_add_left _ _)) fun h O => ?_
  have O := O.sel [4, 5, 0, 2, 3, 7, 8] 9 rfl (Nat.le_add_left _ _)
  refine jn_go ?_
  rw [F_law1_CodeFresh.l1.eq_1]
  refine wl1 (k := .int .i64) (fun (m : Nat) (k : Int) (h' : Heap) => k + m = 2 ∧ 0 ≤ k ∧ Sat H h' [wrR w l, buf 1 u8 hs l, lateR lt (n + 2 + k.toNat), own ey (eyC t1 r3), rdR p r3, bkR bk T, own ba [.slice t1.ptr t1.len t1.cap, .slice t2.ptr t2.len t2.cap, .slice t3.ptr t3.len t3.cap]]) ?_ (m := 2) ⟨by omega, by omega, O⟩
  clear O
  rintro m2 (k : Int) h next hnx2 ⟨hkm, hk0, O⟩
  refine brr_p (fun hk2 => ?_) (fun hk2 => hj54 _ ⟨r3, n + 4, T, by omega, ok3, hrb3, ?_⟩)
  · refine F_code_Writer_Out.is O (by omega) fun s2 h O => ?_
    refine F_law1_Late_Add.is (xs := l) (w := hs) (by omega) (by omega) (fun h O => (O.view 0 u8_len (by simp) rfl).1) (O.sel [0, 3, 2, 1, 4, 5, 6, 7] 8 rfl (Nat.le_add_left _ _)) fun h O => ?_
    rw [wrap64 (by omega) (by omega)]
    refine hnx2 (m2 - 1) _ _ (by omega) ⟨by omega, by omega, ?_⟩
    rw [show n + 2 + (k + 1).toNat = n + 2 + k.toNat + 1 by omega]
    exact O.sel [2, 1, 0, 3, 4, 5, 6] 7 rfl (Nat.le_add_left _ _)
  · rw [show n + 2 + k.toNat = n + 4 by omega] at O
    exact O.sel [0, 1, 4, 3, 2, 5, 6] 7 rfl (Nat.le_add_left _ _)
end Go.Proofs.Ytdjhjpckefkolaa.V
