import Derived.Test.YtompmkmbppcadaaV10
import Derived.Test.YtompmkmbppcadaaProg
import Derived.Test.YtompmkmbppcadaaGlaw1Lend
import Derived.Test.YtompmkmbppcadaaGlaw1Intact
import Derived.Test.YtompmkmbppcadaaGref0Eq
import Derived.Test.YtompmkmbppcadaaGcodeWriterOut
import Derived.Test.YtompmkmbppcadaaGcodeWriterLen
import Derived.Test.YtompmkmbppcadaaGcodeWriterU32
import Derived.Test.YtompmkmbppcadaaGref1U32
import Derived.Test.YtompmkmbppcadaaGcodeWriterBytes
import Derived.Test.YtompmkmbppcadaaGref1Text
import Derived.Test.YtompmkmbppcadaaGcodeWriterU8
import Derived.Test.YtompmkmbppcadaaGref1U8
import Derived.Test.YtompmkmbppcadaaGcodeWriterU64
import Derived.Test.YtompmkmbppcadaaGref1U64
import Derived.Test.YtompmkmbppcadaaGcodeWriterVar
import Derived.Test.YtompmkmbppcadaaGref1Var
import Derived.Test.YtompmkmbppcadaaGcodeWriterRaw
namespace Go.Proofs.Ytompmkmbppcadaa.V
open Go Go.RowKit
set_option linter.unusedVariables false
set_option maxRecDepth 100000
/-! tally/tallylaw1.writes -/
def F_law1_writes.l1 (r11 : Sl) (j79 : Heap → Prop) : Int → Heap → Prop :=
  wl [(10, .one (.int .i64))] (fun (next80 : Int → Heap → Prop) (i81 : Int) (h82 : Heap) =>
  brr (decide (i81 < ((r11.len : Nat) : Int)))
  (ixS 1 r11 i81 fun (a83 : Addr) =>
  st a83 [.int .u8 238] h82 fun (h84 : Heap) =>
  next80 (IntKind.i64.wrap (i81 + 1)) h84)
  (j79 h82))
def F_law1_writes_of (f10_ : Sl → Heap → (Sl → Heap → Prop) → Prop) (f12_ : Sl → Sl → Heap → (Bool → Heap → Prop) → Prop) (f21_ : Sl → Sl → Heap → (Bool → Heap → Prop) → Prop) (f22_ : Option Addr → Heap → (Sl → Heap → Prop) → Prop) (f23_ : Option Addr → Heap → (Int → Heap → Prop) → Prop) (f24_ : Option Addr → Int → Heap → (Heap → Prop) → Prop) (f25_ : Int → Heap → (Sl → Heap → Prop) → Prop) (f26_ : Option Addr → Sl → Heap → (Heap → Prop) → Prop) (f27_ : Sl → Heap → (Sl → Heap → Prop) → Prop) (f40_ : Option Addr → Int → Heap → (Heap → Prop) → Prop) (f41_ : Int → Heap → (Sl → Heap → Prop) → Prop) (f42_ : Option Addr → Int → Heap → (Heap → Prop) → Prop) (f43_ : Int → Heap → (Sl → Heap → Prop) → Prop) (f44_ : Option Addr → Int → Heap → (Heap → Prop) → Prop) (f45_ : Int → Heap → (Sl → Heap → Prop) → Prop) (f46_ : Option Addr → Sl → Heap → (Heap → Prop) → Prop) (w1 : Option Addr) (held2 : Sl) (o3 : Int) (o4 : Int) (o5 : Int) (o6 : Int) (o7 : Sl) (h : Heap) (Q : Sl → Bool → Heap → Prop) : Prop :=
  al 47 [.int .i64 o3, .int .i64 o4, .int .i64 o5, .int .u64 o6, .slice o7.ptr o7.len o7.cap] h fun (a8 : Addr) (h9 : Heap) =>
  ld [.sl] (a8.add 4) h9 fun (v10 : Sl) =>
  f10_ v10 h9 fun (r11 : Sl) (h12 : Heap) =>
  ld [.int .i64] (a8.add 0) h12 fun (v13 : Int) =>
  jn [(1, .one .sl)] (fun (held74 : Sl) (h75 : Heap) =>
  ld [.sl] (a8.add 4) h75 fun (v76 : Sl) =>
  f12_ r11 v76 h75 fun (r77 : Bool) (h78 : Heap) =>
  jn [] (fun  (h85 : Heap) =>
  Q held74 r77 h85) (fun (j79 : Heap → Prop) =>
  F_law1_writes.l1 r11 j79 0 h78)) (fun (j14 : Sl → Heap → Prop) =>
  brr (v13 == 1)
  (ld [.int .u64] (a8.add 3) h12 fun (v15 : Int) =>
  f40_ w1 (IntKind.u8.wrap v15) h12 fun  (h16 : Heap) =>
  ld [.int .u64] (a8.add 3) h16 fun (v17 : Int) =>
  f41_ (IntKind.u8.wrap v17) h16 fun (r18 : Sl) (h19 : Heap) =>
  app 5 1 1 (.int .u8 0) held2 r18.ptr r18.len h19 fun (s20 : Sl) (h21 : Heap) =>
  j14 s20 h21)
  (jn [(1, .one .sl)] (fun (held72 : Sl) (h73 : Heap) =>
  j14 held72 h73) (fun (j22 : Sl → Heap → Prop) =>
  brr (v13 == 2)
  (ld [.int .u64] (a8.add 3) h12 fun (v23 : Int) =>
  f24_ w1 (IntKind.u32.wrap v23) h12 fun  (h24 : Heap) =>
  ld [.int .u64] (a8.add 3) h24 fun (v25 : Int) =>
  f25_ (IntKind.u32.wrap v25) h24 fun (r26 : Sl) (h27 : Heap) =>
  app 5 1 1 (.int .u8 0) held2 r26.ptr r26.len h27 fun (s28 : Sl) (h29 : Heap) =>
  j22 s28 h29)
  (jn [(1, .one .sl)] (fun (held70 : Sl) (h71 : Heap) =>
  j22 held70 h71) (fun (j30 : Sl → Heap → Prop) =>
  brr (v13 == 3)
  (ld [.int .u64] (a8.add 3) h12 fun (v31 : Int) =>
  f42_ w1 v31 h12 fun  (h32 : Heap) =>
  ld [.int .u64] (a8.add 3) h32 fun (v33 : Int) =>
  f43_ v33 h32 fun (r34 : Sl) (h35 : Heap) =>
  app 5 1 1 (.int .u8 0) held2 r34.ptr r34.len h35 fun (s36 : Sl) (h37 : Heap) =>
  j30 s36 h37)
  (jn [(1, .one .sl)] (fun (held68 : Sl) (h69 : Heap) =>
  j30 held68 h69) (fun (j38 : Sl → Heap → Prop) =>
  brr (v13 == 4)
  (ld [.int .u64] (a8.add 3) h12 fun (v39 : Int) =>
  f44_ w1 v39 h12 fun  (h40 : Heap) =>
  ld [.int .u64] (a8.add 3) h40 fun (v41 : Int) =>
  f45_ v41 h40 fun (r42 : Sl) (h43 : Heap) =>
  app 5 1 1 (.int .u8 0) held2 r42.ptr r42.len h43 fun (s44 : Sl) (h45 : Heap) =>
  j38 s44 h45)
  (jn [(1, .one .sl)] (fun (held66 : Sl) (h67 : Heap) =>
  j38 held66 h67) (fun (j46 : Sl → Heap → Prop) =>
  brr (v13 == 5)
  (f26_ w1 r11 h12 fun  (h47 : Heap) =>
  ld [.sl] (a8.add 4) h47 fun (v48 : Sl) =>
  f27_ v48 h47 fun (r49 : Sl) (h50 : Heap) =>
  app 5 1 1 (.int .u8 0) held2 r49.ptr r49.len h50 fun (s51 : Sl) (h52 : Heap) =>
  j46 s51 h52)
  (jn [(1, .one .sl)] (fun (held64 : Sl) (h65 : Heap) =>
  j46 held64 h65) (fun (j53 : Sl → Heap → Prop) =>
  brr (v13 == 6)
  (f46_ w1 r11 h12 fun  (h54 : Heap) =>
  ld [.sl] (a8.add 4) h54 fun (v55 : Sl) =>
  app 5 1 1 (.int .u8 0) held2 v55.ptr v55.len h54 fun (s56 : Sl) (h57 : Heap) =>
  j53 s56 h57)
  (brr (v13 == 7)
  (f23_ w1 h12 fun (r58 : Int) (h59 : Heap) =>
  Q held2 (r58 == ((held2.len : Nat) : Int)) h59)
  (brr (v13 == 8)
  (f22_ w1 h12 fun (r60 : Sl) (h61 : Heap) =>
  f21_ r60 held2 h61 fun (r62 : Bool) (h63 : Heap) =>
  Q held2 r62 h63)
  (j53 held2 h12))))))))))))))
def F_law1_writes (w1 : Option Addr) (held2 : Sl) (o3 : Int) (o4 : Int) (o5 : Int) (o6 : Int) (o7 : Sl) (h : Heap) (Q : Sl → Bool → Heap → Prop) : Prop := F_law1_writes_of F_law1_Lend F_law1_Intact F_ref0_Eq F_code_Writer_Out F_code_Writer_Len F_code_Writer_U32 F_ref1_U32 F_code_Writer_Bytes F_ref1_Text F_code_Writer_U8 F_ref1_U8 F_code_Writer_U64 F_ref1_U64 F_code_Writer_Var F_ref1_Var F_code_Writer_Raw w1 held2 o3 o4 o5 o6 o7 h Q
def plan20 : Plan := .s (.r [0, 1, 5]) (.s (.r [0, 1, 5, 8]) (.s (.s (.r [0, 1, 5, 8, 15]) (.b (.s (.r [0, 1, 5, 8, 15, 16]) (.cj [(1, .one .sl)] [5, 8] (.s (.r [1, 5, 8]) (.r [1, 5, 8])) (.s (.r [0, 1, 5, 8, 15, 29]) (.cj [(1, .one .sl)] [5, 8] (.s (.r [1, 5, 8]) (.r [1, 5, 8])) (.s (.r [0, 1, 5, 8, 15, 42]) (.cj [(1, .one .sl)] [5, 8] (.s (.r [1, 5, 8]) (.r [1, 5, 8])) (.s (.r [0, 1, 5, 8, 15, 53]) (.cj [(1, .one .sl)] [5, 8] (.s (.r [1, 5, 8]) (.r [1, 5, 8])) (.s (.r [0, 1, 5, 8, 15, 64]) (.cj [(1, .one .sl)] [5, 8] (.s (.r [1, 5, 8]) (.r [1, 5, 8])) (.s (.r [0, 1, 5, 8, 15, 74]) (.cj [(1, .one .sl)] [5, 8] (.s (.r [1, 5, 8]) (.r [1, 5, 8])) (.s (.r [0, 1, 5, 8, 15, 83]) (.c (.s (.r [6, 7]) .z) (.s (.r [0, 1, 5, 8, 91]) (.c (.s (.r [6, 7]) .z) .z)))))))))))))))))) (.s (.r [1, 8, 9]) (.s (.s (.r [1, 8, 9, 10]) (.bj [] [1, 9] (.l [(10, .one (.int .i64))] [1, 8, 9] (.s (.s (.r [1, 8, 9, 10, 105]) (.c .z .z)) (.s (.b (.r [1, 8, 9, 10])) (.r [1, 8, 9, 10])))))) (.s (.r [6, 7]) .z)))))
theorem F_law1_writes.eq (f10_ : Sl → Heap → (Sl → Heap → Prop) → Prop) (f12_ : Sl → Sl → Heap → (Bool → Heap → Prop) → Prop) (f21_ : Sl → Sl → Heap → (Bool → Heap → Prop) → Prop) (f22_ : Option Addr → Heap → (Sl → Heap → Prop) → Prop) (f23_ : Option Addr → Heap → (Int → Heap → Prop) → Prop) (f24_ : Option Addr → Int → Heap → (Heap → Prop) → Prop) (f25_ : Int → Heap → (Sl → Heap → Prop) → Prop) (f26_ : Option Addr → Sl → Heap → (Heap → Prop) → Prop) (f27_ : Sl → Heap → (Sl → Heap → Prop) → Prop) (f40_ : Option Addr → Int → Heap → (Heap → Prop) → Prop) (f41_ : Int → Heap → (Sl → Heap → Prop) → Prop) (f42_ : Option Addr → Int → Heap → (Heap → Prop) → Prop) (f43_ : Int → Heap → (Sl → Heap → Prop) → Prop) (f44_ : Option Addr → Int → Heap → (Heap → Prop) → Prop) (f45_ : Int → Heap → (Sl → Heap → Prop) → Prop) (f46_ : Option Addr → Sl → Heap → (Heap → Prop) → Prop) (w1 : Option Addr) (held2 : Sl) (o3 : Int) (o4 : Int) (o5 : Int) (o6 : Int) (o7 : Sl) (h : Heap) (K : Value → Heap → Prop) : F_law1_writes_of f10_ f12_ f21_ f22_ f23_ f24_ f25_ f26_ f27_ f40_ f41_ f42_ f43_ f44_ f45_ f46_ w1 held2 o3 o4 o5 o6 o7 h (fun (r0 : Sl) (r1 : Bool) (h : Heap) => K (.tuple #[.slice r0.ptr r0.len r0.cap, .bool r1]) h) =
    den Try.prog (fn1 10 (E_law1_Lend_of f10_) (fn1 12 (E_law1_Intact_of f12_) (fn1 21 (E_ref0_Eq_of f21_) (fn1 22 (E_code_Writer_Out_of f22_) (fn1 23 (E_code_Writer_Len_of f23_) (fn1 24 (E_code_Writer_U32_of f24_) (fn1 25 (E_ref1_U32_of f25_) (fn1 26 (E_code_Writer_Bytes_of f26_) (fn1 27 (E_ref1_Text_of f27_) (fn1 40 (E_code_Writer_U8_of f40_) (fn1 41 (E_ref1_U8_of f41_) (fn1 42 (E_code_Writer_U64_of f42_) (fn1 43 (E_ref1_U64_of f43_) (fn1 44 (E_code_Writer_Var_of f44_) (fn1 45 (E_ref1_Var_of f45_) (fn1 46 (E_code_Writer_Raw_of f46_) noFns)))))))))))))))) Try.f20.ntmps plan20 (bodyOf Try.f20) (args0 0 [(.pointer w1 : Value), (.slice held2.ptr held2.len held2.cap : Value), (.agg #[.int .i64 o3, .int .i64 o4, .int .i64 o5, .int .u64 o6, .slice o7.ptr o7.len o7.cap] : Value)]) h ⟨fun env h => dRes Try.prog Try.f20.results.toList env h K, fun _ _ _ => False, fun env h => dRes Try.prog Try.f20.results.toList env h K⟩ := by kernel_rfl
def E_law1_writes_of (f : Option Addr → Sl → Int → Int → Int → Int → Sl → Heap → (Sl → Bool → Heap → Prop) → Prop) : List Value → Heap → (Value → Heap → Prop) → Prop
  | [v0, v1, v2], h, K => dec1 .ptr v0 fun (w1 : Option Addr) =>
  dec1 .sl v1 fun (held2 : Sl) =>
  vAgg v2 fun cs2 => decs [.int .i64, .int .i64, .int .i64, .int .u64, .sl] cs2.toList fun (o3 : Int) (o4 : Int) (o5 : Int) (o6 : Int) (o7 : Sl) =>
  f w1 held2 o3 o4 o5 o6 o7 h (fun (r0 : Sl) (r1 : Bool) (h : Heap) => K (.tuple #[.slice r0.ptr r0.len r0.cap, .bool r1]) h)
  | _, _, _ => False
abbrev E_law1_writes := E_law1_writes_of F_law1_writes
theorem E_law1_writes.right : IsRight Try.prog 20 E_law1_writes := by
  refine isRight fun vs K w hh => ?_
  match vs, hh with
  | [v0, v1, v2], hh =>
    unfold E_law1_writes E_law1_writes_of at hh
    replace hh := dec1_sound hh; obtain ⟨w1, rfl, hh⟩ := hh
    replace hh := dec1_sound hh; obtain ⟨held2, rfl, hh⟩ := hh
    replace hh := vAgg_sound hh; obtain ⟨cs2, rfl, hh⟩ := hh
    replace hh := decs_cons hh; obtain ⟨o3, l2_0, e2_0, hh⟩ := hh
    replace hh := decs_cons hh; obtain ⟨o4, l2_1, e2_1, hh⟩ := hh
    replace hh := decs_cons hh; obtain ⟨o5, l2_2, e2_2, hh⟩ := hh
    replace hh := decs_cons hh; obtain ⟨o6, l2_3, e2_3, hh⟩ := hh
    replace hh := decs_cons hh; obtain ⟨o7, l2_4, e2_4, hh⟩ := hh
    replace hh := decs_nil hh; obtain ⟨rfl, hh⟩ := hh
    subst e2_4
    subst e2_3
    subst e2_2
    subst e2_1
    have ec2 := toArray_eq e2_0
    subst ec2
    unfold F_law1_writes at hh
    exact calls_den (fn1_right ok10 E_law1_Lend.right (fn1_right ok12 E_law1_Intact.right (fn1_right ok21 E_ref0_Eq.right (fn1_right ok22 E_code_Writer_Out.right (fn1_right ok23 E_code_Writer_Len.right (fn1_right ok24 E_code_Writer_U32.right (fn1_right ok25 E_ref1_U32.right (fn1_right ok26 E_code_Writer_Bytes.right (fn1_right ok27 E_ref1_Text.right (fn1_right ok40 E_code_Writer_U8.right (fn1_right ok41 E_ref1_U8.right (fn1_right ok42 E_code_Writer_U64.right (fn1_right ok43 E_ref1_U64.right (fn1_right ok44 E_code_Writer_Var.right (fn1_right ok45 E_ref1_Var.right (fn1_right ok46 E_code_Writer_Raw.right noFns_right)))))))))))))))) plan20 _ w K Try.func20 (by kernel_rfl) (by kernel_rfl) (Eq.mp (F_law1_writes.eq F_law1_Lend F_law1_Intact F_ref0_Eq F_code_Writer_Out F_code_Writer_Len F_code_Writer_U32 F_ref1_U32 F_code_Writer_Bytes F_ref1_Text F_code_Writer_U8 F_ref1_U8 F_code_Writer_U64 F_ref1_U64 F_code_Writer_Var F_ref1_Var F_code_Writer_Raw w1 held2 o3 o4 o5 o6 o7 w.heap K) hh)
theorem ok20 : okFn Try.prog 20 = true := by kernel_rfl
end Go.Proofs.Ytompmkmbppcadaa.V
