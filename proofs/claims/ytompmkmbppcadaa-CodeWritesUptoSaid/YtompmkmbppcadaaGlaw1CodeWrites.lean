import Derived.Test.YtompmkmbppcadaaV10
import Derived.Test.YtompmkmbppcadaaProg
import Derived.Test.YtompmkmbppcadaaGcodeNew
import Derived.Test.YtompmkmbppcadaaGlaw1into
import Derived.Test.YtompmkmbppcadaaGlaw1writes
import Derived.Test.YtompmkmbppcadaaGref0Eq
import Derived.Test.YtompmkmbppcadaaGcodeWriterOut
import Derived.Test.YtompmkmbppcadaaGcodeWriterLen
namespace Go.Proofs.Ytompmkmbppcadaa.V
open Go Go.RowKit
set_option linter.unusedVariables false
set_option maxRecDepth 100000
/-! tally/tallylaw1.CodeWrites -/
def F_law1_CodeWrites.l1 (f19_ : Int → Int → Heap → (Int → Heap → Prop) → Prop) (f20_ : Option Addr → Sl → Int → Int → Int → Int → Sl → Heap → (Sl → Bool → Heap → Prop) → Prop) (Q : Bool → Heap → Prop) (a4 : Addr) (a10 : Addr) (a20 : Addr) (j22 : Heap → Prop) : Int → Heap → Prop :=
  wl [(5, .one (.int .i64))] (fun (next23 : Int → Heap → Prop) (i24 : Int) (h25 : Heap) =>
  jn [(29, .one .bool)] (fun (x28 : Bool) (h29 : Heap) =>
  brr x28
  (ld [.sl] (a4.add 2) h29 fun (v30 : Sl) =>
  ixS 5 v30 i24 fun (a31 : Addr) =>
  ld [.int .i64, .int .i64, .int .i64, .int .u64, .sl] a31 h29 fun (v32 : Int) (v33 : Int) (v34 : Int) (v35 : Int) (v36 : Sl) =>
  al 47 [.int .i64 0, .int .i64 0, .int .i64 0, .int .u64 0, .slice none 0 0] h29 fun (a37 : Addr) (h38 : Heap) =>
  st a37 [.int .i64 v32, .int .i64 v33, .int .i64 v34, .int .u64 v35, .slice v36.ptr v36.len v36.cap] h38 fun (h39 : Heap) =>
  ld [.int .i64] (a37.add 1) h39 fun (v40 : Int) =>
  f19_ v40 2 h39 fun (r41 : Int) (h42 : Heap) =>
  ixA 1 a10 2 r41 fun (a43 : Addr) =>
  ld [.ptr] a43 h42 fun (v44 : Option Addr) =>
  ixA 1 a20 2 r41 fun (a45 : Addr) =>
  ld [.sl] a45 h42 fun (v46 : Sl) =>
  ld [.int .i64, .int .i64, .int .i64, .int .u64, .sl] a37 h42 fun (v47 : Int) (v48 : Int) (v49 : Int) (v50 : Int) (v51 : Sl) =>
  f20_ v44 v46 v47 v48 v49 v50 v51 h42 fun (r52 : Sl) (r53 : Bool) (h54 : Heap) =>
  ixA 1 a20 2 r41 fun (a55 : Addr) =>
  st a55 [.slice r52.ptr r52.len r52.cap] h54 fun (h56 : Heap) =>
  brr (!r53)
  (Q false h56)
  (next23 (IntKind.i64.wrap (i24 + 1)) h56))
  (j22 h29)) (fun (j26 : Bool → Heap → Prop) =>
  ld [.sl] (a4.add 2) h25 fun (v27 : Sl) =>
  brr (decide (i24 < ((v27.len : Nat) : Int)))
  (j26 (decide (i24 < 400)) h25)
  (j26 false h25)))
def F_law1_CodeWrites_of (f18_ : Heap → (Option Addr → Heap → Prop) → Prop) (f19_ : Int → Int → Heap → (Int → Heap → Prop) → Prop) (f20_ : Option Addr → Sl → Int → Int → Int → Int → Sl → Heap → (Sl → Bool → Heap → Prop) → Prop) (f21_ : Sl → Sl → Heap → (Bool → Heap → Prop) → Prop) (f22_ : Option Addr → Heap → (Sl → Heap → Prop) → Prop) (f23_ : Option Addr → Heap → (Int → Heap → Prop) → Prop) (script1 : Sl) (script2 : Sl) (script3 : Sl) (h : Heap) (Q : Bool → Heap → Prop) : Prop :=
  al 41 [.slice script1.ptr script1.len script1.cap, .slice script2.ptr script2.len script2.cap, .slice script3.ptr script3.len script3.cap] h fun (a4 : Addr) (h5 : Heap) =>
  f18_ h5 fun (r6 : Option Addr) (h7 : Heap) =>
  f18_ h7 fun (r8 : Option Addr) (h9 : Heap) =>
  al 44 [.pointer none, .pointer none] h9 fun (a10 : Addr) (h11 : Heap) =>
  st a10 [.pointer r6, .pointer r8] h11 fun (h12 : Heap) =>
  jn [(20, .one .bool)] (fun (x18 : Bool) (h19 : Heap) =>
  brr x18
  (Q false h19)
  (al 38 [.slice none 0 0, .slice none 0 0] h19 fun (a20 : Addr) (h21 : Heap) =>
  jn [] (fun  (h57 : Heap) =>
  jn [(2, .one .bool)] (fun (x81 : Bool) (h82 : Heap) =>
  Q x81 h82) (fun (j58 : Bool → Heap → Prop) =>
  ixA 1 a10 2 0 fun (a59 : Addr) =>
  ld [.ptr] a59 h57 fun (v60 : Option Addr) =>
  ixA 1 a20 2 0 fun (a61 : Addr) =>
  ld [.sl] a61 h57 fun (v62 : Sl) =>
  f22_ v60 h57 fun (r63 : Sl) (h64 : Heap) =>
  cellsAre h64 a61 [.slice v62.ptr v62.len v62.cap] ∧
  f21_ r63 v62 h64 fun (r65 : Bool) (h66 : Heap) =>
  brr r65
  (ixA 1 a10 2 1 fun (a67 : Addr) =>
  ld [.ptr] a67 h66 fun (v68 : Option Addr) =>
  ixA 1 a20 2 1 fun (a69 : Addr) =>
  ld [.sl] a69 h66 fun (v70 : Sl) =>
  f22_ v68 h66 fun (r71 : Sl) (h72 : Heap) =>
  cellsAre h72 a69 [.slice v70.ptr v70.len v70.cap] ∧
  f21_ r71 v70 h72 fun (r73 : Bool) (h74 : Heap) =>
  brr r73
  (ixA 1 a10 2 0 fun (a75 : Addr) =>
  ld [.ptr] a75 h74 fun (v76 : Option Addr) =>
  ixA 1 a20 2 0 fun (a77 : Addr) =>
  ld [.sl] a77 h74 fun (v78 : Sl) =>
  f23_ v76 h74 fun (r79 : Int) (h80 : Heap) =>
  cellsAre h80 a77 [.slice v78.ptr v78.len v78.cap] ∧
  j58 (r79 == ((v78.len : Nat) : Int)) h80)
  (j58 false h74))
  (j58 false h66))) (fun (j22 : Heap → Prop) =>
  F_law1_CodeWrites.l1 f19_ f20_ Q a4 a10 a20 j22 0 h21))) (fun (j13 : Bool → Heap → Prop) =>
  ixA 1 a10 2 0 fun (a14 : Addr) =>
  ld [.ptr] a14 h12 fun (v15 : Option Addr) =>
  brr v15.isNone
  (j13 true h12)
  (ixA 1 a10 2 1 fun (a16 : Addr) =>
  ld [.ptr] a16 h12 fun (v17 : Option Addr) =>
  j13 v17.isNone h12))
def F_law1_CodeWrites (script1 : Sl) (script2 : Sl) (script3 : Sl) (h : Heap) (Q : Bool → Heap → Prop) : Prop := F_law1_CodeWrites_of F_code_New F_law1_into F_law1_writes F_ref0_Eq F_code_Writer_Out F_code_Writer_Len script1 script2 script3 h Q
def plan6 : Plan := .s (.r [1]) (.s (.r [1, 3]) (.s (.s (.rj [(20, .one .bool)] [1, 3]) (.c (.s (.r [2]) .z) .z)) (.s (.r [1, 3, 4]) (.s (.s (.r [1, 3, 4, 5]) (.bj [] [3, 4] (.l [(5, .one (.int .i64))] [1, 3, 4] (.s (.s (.rj [(29, .one .bool)] [1, 3, 4, 5]) (.c .z .z)) (.s (.b (.s (.r [1, 3, 4, 5, 6]) (.s (.r [1, 3, 4, 5, 6, 7]) (.s (.d [0, 1, 3, 0, 8, 24, 0, 127, 255, 511, 511, 1023, 4095] [[0, 1, 2, 3, 4, 5, 6, 7, 8, 9, 10, 11, 12]] [1, 3, 4, 5, 7, 8, 9]) (.s (.r [1, 3, 4, 5, 9]) (.s (.r [1, 3, 4, 5, 55]) (.c (.s (.r [2]) .z) .z))))))) (.r [1, 3, 4, 5])))))) (.s (.dj [0, 1, 3, 0, 8, 31, 63, 127, 255, 511, 127, 1151, 4095, 8191, 16383, 32767, 65535, 131071, 32767, 294911, 819199, 2097151, 4194303, 8388607] [[0, 1, 3, 4, 2, 5, 6, 7, 8, 10, 11, 9, 12, 13, 14, 15, 16, 18, 19, 20, 17, 21, 22, 23]] [(2, .one .bool)] []) .z)))))
theorem F_law1_CodeWrites.eq (f18_ : Heap → (Option Addr → Heap → Prop) → Prop) (f19_ : Int → Int → Heap → (Int → Heap → Prop) → Prop) (f20_ : Option Addr → Sl → Int → Int → Int → Int → Sl → Heap → (Sl → Bool → Heap → Prop) → Prop) (f21_ : Sl → Sl → Heap → (Bool → Heap → Prop) → Prop) (f22_ : Option Addr → Heap → (Sl → Heap → Prop) → Prop) (f23_ : Option Addr → Heap → (Int → Heap → Prop) → Prop) (script1 : Sl) (script2 : Sl) (script3 : Sl) (h : Heap) (K : Value → Heap → Prop) : F_law1_CodeWrites_of f18_ f19_ f20_ f21_ f22_ f23_ script1 script2 script3 h (fun (r0 : Bool) (h : Heap) => K (.bool r0) h) =
    den Try.prog (fn1 18 (E_code_New_of f18_) (fn1 19 (E_law1_into_of f19_) (fn1 20 (E_law1_writes_of f20_) (fn1 21 (E_ref0_Eq_of f21_) (fn1 22 (E_code_Writer_Out_of f22_) (fn1 23 (E_code_Writer_Len_of f23_) noFns)))))) Try.f6.ntmps plan6 (bodyOf Try.f6) (args0 0 [(.agg #[.slice script1.ptr script1.len script1.cap, .slice script2.ptr script2.len script2.cap, .slice script3.ptr script3.len script3.cap] : Value)]) h ⟨fun env h => dRes Try.prog Try.f6.results.toList env h K, fun _ _ _ => False, fun env h => dRes Try.prog Try.f6.results.toList env h K⟩ := by kernel_rfl
def E_law1_CodeWrites_of (f : Sl → Sl → Sl → Heap → (Bool → Heap → Prop) → Prop) : List Value → Heap → (Value → Heap → Prop) → Prop
  | [v0], h, K => vAgg v0 fun cs0 => decs [.sl, .sl, .sl] cs0.toList fun (script1 : Sl) (script2 : Sl) (script3 : Sl) =>
  f script1 script2 script3 h (fun (r0 : Bool) (h : Heap) => K (.bool r0) h)
  | _, _, _ => False
abbrev E_law1_CodeWrites := E_law1_CodeWrites_of F_law1_CodeWrites
theorem E_law1_CodeWrites.at (f : Sl → Sl → Sl → Heap → (Bool → Heap → Prop) → Prop) (script1 : Sl) (script2 : Sl) (script3 : Sl) (h : Heap) (K : Value → Heap → Prop) : E_law1_CodeWrites_of f [.agg ([.slice script1.ptr script1.len script1.cap, .slice script2.ptr script2.len script2.cap, .slice script3.ptr script3.len script3.cap] : List Value).toArray] h K = f script1 script2 script3 h (fun (r0 : Bool) (h : Heap) => K (.bool r0) h) := rfl
theorem E_law1_CodeWrites.right : IsRight Try.prog 6 E_law1_CodeWrites := by
  refine isRight fun vs K w hh => ?_
  match vs, hh with
  | [v0], hh =>
    unfold E_law1_CodeWrites E_law1_CodeWrites_of at hh
    replace hh := vAgg_sound hh; obtain ⟨cs0, rfl, hh⟩ := hh
    replace hh := decs_cons hh; obtain ⟨script1, l0_0, e0_0, hh⟩ := hh
    replace hh := decs_cons hh; obtain ⟨script2, l0_1, e0_1, hh⟩ := hh
    replace hh := decs_cons hh; obtain ⟨script3, l0_2, e0_2, hh⟩ := hh
    replace hh := decs_nil hh; obtain ⟨rfl, hh⟩ := hh
    subst e0_2
    subst e0_1
    have ec0 := toArray_eq e0_0
    subst ec0
    unfold F_law1_CodeWrites at hh
    exact calls_den (fn1_right ok18 E_code_New.right (fn1_right ok19 E_law1_into.right (fn1_right ok20 E_law1_writes.right (fn1_right ok21 E_ref0_Eq.right (fn1_right ok22 E_code_Writer_Out.right (fn1_right ok23 E_code_Writer_Len.right noFns_right)))))) plan6 _ w K Try.func6 (by kernel_rfl) (by kernel_rfl) (Eq.mp (F_law1_CodeWrites.eq F_code_New F_law1_into F_law1_writes F_ref0_Eq F_code_Writer_Out F_code_Writer_Len script1 script2 script3 w.heap K) hh)
theorem ok6 : okFn Try.prog 6 = true := by kernel_rfl
end Go.Proofs.Ytompmkmbppcadaa.V
