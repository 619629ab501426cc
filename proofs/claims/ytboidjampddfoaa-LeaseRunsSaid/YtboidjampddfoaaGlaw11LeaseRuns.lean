import Derived.Test.YtboidjampddfoaaV10
import Derived.Test.YtboidjampddfoaaProg
import Derived.Test.YtboidjampddfoaaGlaw11begun
import Derived.Test.YtboidjampddfoaaGleaseNew
import Derived.Test.YtboidjampddfoaaGlaw11within
import Derived.Test.YtboidjampddfoaaGleaseLeaseTick
import Derived.Test.YtboidjampddfoaaGleaseLeasePatience
import Derived.Test.YtboidjampddfoaaGleaseLeaseHeard
import Derived.Test.YtboidjampddfoaaGleaseLeaseLeft
namespace Go.Proofs.Ytboidjampddfoaa.V
open Go Go.RowKit
set_option linter.unusedVariables false
set_option maxRecDepth 100000
/-! tally/tallylaw11.LeaseRuns -/
def F_law11_LeaseRuns.l1 (f42_ : Option Addr → Int → Bool → Bool → Heap → (Heap → Prop) → Prop) (a7 : Addr) (r20 : Option Addr) (j22 : Heap → Prop) : Int → Heap → Prop :=
  wl [(6, .one (.int .i64))] (fun (next23 : Int → Heap → Prop) (i24 : Int) (h25 : Heap) =>
  jn [(42, .one .bool)] (fun (x28 : Bool) (h29 : Heap) =>
  brr x28
  (ld [.sl] (a7.add 3) h29 fun (v30 : Sl) =>
  ixS 9 v30 i24 fun (a31 : Addr) =>
  ld [.int .u64] (a31.add 2) h29 fun (v32 : Int) =>
  (1000 : Int) ≠ 0 ∧
  ld [.sl] (a7.add 3) h29 fun (v33 : Sl) =>
  ixS 9 v33 i24 fun (a34 : Addr) =>
  ld [.bool] (a34.add 4) h29 fun (v35 : Bool) =>
  ld [.sl] (a7.add 3) h29 fun (v36 : Sl) =>
  ixS 9 v36 i24 fun (a37 : Addr) =>
  ld [.bool] (a37.add 5) h29 fun (v38 : Bool) =>
  f42_ r20 (v32.tmod 1000) v35 v38 h29 fun  (h39 : Heap) =>
  next23 (IntKind.i64.wrap (i24 + 1)) h39)
  (j22 h29)) (fun (j26 : Bool → Heap → Prop) =>
  ld [.sl] (a7.add 3) h25 fun (v27 : Sl) =>
  brr (decide (i24 < ((v27.len : Nat) : Int)))
  (j26 (decide (i24 < 50)) h25)
  (j26 false h25)))
def F_law11_LeaseRuns.l2 (f36_ : Option Addr → Int → Bool → Bool → Heap → (Int → Bool → Heap → Prop) → Prop) (Q : Bool → Heap → Prop) (r20 : Option Addr) (kept56 : Int) (due62 : Int) (j64 : Heap → Prop) : Int → Heap → Prop :=
  wl [(12, .one (.int .i64))] (fun (next65 : Int → Heap → Prop) (i66 : Int) (h67 : Heap) =>
  brr (decide (i66 < due62))
  (f36_ r20 0 false (decide (i66 > kept56)) h67 fun (r68 : Int) (r69 : Bool) (h70 : Heap) =>
  brr (r68 != 0)
  (Q false h70)
  (next65 (IntKind.i64.wrap (i66 + 1)) h70))
  (j64 h67))
def F_law11_LeaseRuns.l3 (f35_ : Int → Int → Heap → (Int → Heap → Prop) → Prop) (f36_ : Option Addr → Int → Bool → Bool → Heap → (Int → Bool → Heap → Prop) → Prop) (f37_ : Option Addr → Heap → (Int → Heap → Prop) → Prop) (f43_ : Option Addr → Heap → (Int → Heap → Prop) → Prop) (Q : Bool → Heap → Prop) (a7 : Addr) (r15 : Int) (r20 : Option Addr) (j41 : Heap → Prop) : Int → Int → Heap → Prop :=
  wl [(7, .one (.int .i64)), (8, .one (.int .i64))] (fun (next42 : Int → Int → Heap → Prop) (patience43 : Int) (round44 : Int) (h45 : Heap) =>
  brr (decide (round44 < 8))
  (jn [(7, .one (.int .i64))] (fun (patience85 : Int) (h86 : Heap) =>
  next42 patience85 (IntKind.i64.wrap (round44 + 1)) h86) (fun (j46 : Int → Heap → Prop) =>
  f43_ r20 h45 fun (r47 : Int) (h48 : Heap) =>
  ld [.int .i64] (a7.add 5) h48 fun (v49 : Int) =>
  f35_ v49 8 h48 fun (r50 : Int) (h51 : Heap) =>
  jn [(10, .one (.int .i64))] (fun (kept56 : Int) (h57 : Heap) =>
  jn [(11, .one (.int .i64))] (fun (due59 : Int) (h60 : Heap) =>
  jn [(11, .one (.int .i64))] (fun (due62 : Int) (h63 : Heap) =>
  jn [] (fun  (h71 : Heap) =>
  f36_ r20 0 false true h71 fun (r72 : Int) (r73 : Bool) (h74 : Heap) =>
  jn [(7, .one (.int .i64))] (fun (patience76 : Int) (h77 : Heap) =>
  jn [(128, .one .bool)] (fun (x83 : Bool) (h84 : Heap) =>
  brr x83
  (Q false h84)
  (j46 patience76 h84)) (fun (j78 : Bool → Heap → Prop) =>
  brr (r72 == 0)
  (j78 true h77)
  (f37_ r20 h77 fun (r79 : Int) (h80 : Heap) =>
  brr (r79 != patience76)
  (j78 true h80)
  (f43_ r20 h80 fun (r81 : Int) (h82 : Heap) =>
  j78 (r81 != patience76) h82)))) (fun (j75 : Int → Heap → Prop) =>
  brr (decide ((IntKind.i64.wrap (2 * patience43)) > (IntKind.i64.wrap (4 + r15))))
  (j75 (IntKind.i64.wrap (4 + r15)) h74)
  (j75 (IntKind.i64.wrap (2 * patience43)) h74))) (fun (j64 : Heap → Prop) =>
  F_law11_LeaseRuns.l2 f36_ Q r20 kept56 due62 j64 1 h63)) (fun (j61 : Int → Heap → Prop) =>
  brr (decide (due59 < 1))
  (j61 1 h60)
  (j61 due59 h60))) (fun (j58 : Int → Heap → Prop) =>
  brr (decide ((IntKind.i64.wrap (kept56 + 1)) > r47))
  (j58 (IntKind.i64.wrap (kept56 + 1)) h57)
  (j58 r47 h57))) (fun (j52 : Int → Heap → Prop) =>
  brr (round44 == r50)
  (ld [.int .i64] (a7.add 4) h51 fun (v53 : Int) =>
  f35_ v53 200 h51 fun (r54 : Int) (h55 : Heap) =>
  j52 r54 h55)
  (j52 0 h51))))
  (j41 h45))
def F_law11_LeaseRuns_of (f33_ : Heap → (Bool → Heap → Prop) → Prop) (f34_ : Int → Int → Int → Int → Heap → (Option Addr → Heap → Prop) → Prop) (f35_ : Int → Int → Heap → (Int → Heap → Prop) → Prop) (f36_ : Option Addr → Int → Bool → Bool → Heap → (Int → Bool → Heap → Prop) → Prop) (f37_ : Option Addr → Heap → (Int → Heap → Prop) → Prop) (f42_ : Option Addr → Int → Bool → Bool → Heap → (Heap → Prop) → Prop) (f43_ : Option Addr → Heap → (Int → Heap → Prop) → Prop) (t1 : Int) (t2 : Int) (t3 : Int) (t4 : Sl) (t5 : Int) (t6 : Int) (h : Heap) (Q : Bool → Heap → Prop) : Prop :=
  al 81 [.int .i64 t1, .int .i64 t2, .int .i64 t3, .slice t4.ptr t4.len t4.cap, .int .i64 t5, .int .i64 t6] h fun (a7 : Addr) (h8 : Heap) =>
  f33_ h8 fun (r9 : Bool) (h10 : Heap) =>
  brr (!r9)
  (Q false h10)
  (ld [.int .i64] (a7.add 1) h10 fun (v11 : Int) =>
  f35_ v11 9 h10 fun (r12 : Int) (h13 : Heap) =>
  ld [.int .i64] (a7.add 2) h13 fun (v14 : Int) =>
  f35_ v14 60 h13 fun (r15 : Int) (h16 : Heap) =>
  ld [.int .i64] (a7.add 0) h16 fun (v17 : Int) =>
  f35_ v17 (IntKind.i64.wrap (1 + r12)) h16 fun (r18 : Int) (h19 : Heap) =>
  f34_ r18 (IntKind.i64.wrap (1 + r12)) (IntKind.i64.wrap (4 + r15)) 0 h19 fun (r20 : Option Addr) (h21 : Heap) =>
  jn [] (fun  (h40 : Heap) =>
  jn [] (fun  (h87 : Heap) =>
  f33_ h87 fun (r88 : Bool) (h89 : Heap) =>
  Q r88 h89) (fun (j41 : Heap → Prop) =>
  F_law11_LeaseRuns.l3 f35_ f36_ f37_ f43_ Q a7 r15 r20 j41 4 0 h40)) (fun (j22 : Heap → Prop) =>
  F_law11_LeaseRuns.l1 f42_ a7 r20 j22 0 h21))
def F_law11_LeaseRuns (t1 : Int) (t2 : Int) (t3 : Int) (t4 : Sl) (t5 : Int) (t6 : Int) (h : Heap) (Q : Bool → Heap → Prop) : Prop := F_law11_LeaseRuns_of F_law11_begun F_lease_New F_law11_within F_lease_Lease_Tick F_lease_Lease_Patience F_lease_Lease_Heard F_lease_Lease_Left t1 t2 t3 t4 t5 t6 h Q
def plan11 : Plan := .s (.r [1]) (.s (.s (.r [1, 18]) (.c (.s (.r [2]) .z) .z)) (.s (.r [1, 3]) (.s (.r [1, 3, 4]) (.s (.r [1, 4, 5]) (.s (.s (.r [1, 4, 5, 6]) (.bj [] [1, 4, 5] (.l [(6, .one (.int .i64))] [1, 4, 5] (.s (.s (.rj [(42, .one .bool)] [1, 4, 5, 6]) (.c .z .z)) (.s (.b (.d [0, 0, 2, 0, 14, 30, 62, 126, 0, 256, 0, 1792, 3840, 7936, 0, 16384, 0, 114688, 245760, 507904, 1048575] [[0, 1, 2, 3, 4, 5, 6, 7, 8, 9, 10, 11, 12, 13, 14, 15, 16, 17, 18, 19, 20]] [1, 4, 5, 6])) (.r [1, 4, 5, 6])))))) (.s (.r [1, 4, 5, 7]) (.s (.s (.r [1, 4, 5, 7, 8]) (.bj [] [] (.l [(7, .one (.int .i64)), (8, .one (.int .i64))] [1, 4, 5] (.s (.s (.r [1, 4, 5, 7, 8, 67]) (.c .z .z)) (.s (.bj [(7, .one (.int .i64))] [1, 4, 5, 8] (.s (.r [1, 4, 5, 7, 8, 9]) (.s (.r [1, 4, 5, 7, 8, 9, 10]) (.s (.s (.r [1, 4, 5, 7, 8, 9, 10, 76]) (.cj [(10, .one (.int .i64))] [1, 4, 5, 7, 8, 9] (.r [1, 4, 5, 7, 8, 9, 10]) .z)) (.s (.r [1, 4, 5, 7, 8, 10, 11]) (.s (.s (.r [1, 4, 5, 7, 8, 10, 11, 84]) (.cj [(11, .one (.int .i64))] [1, 4, 5, 7, 8, 10] (.r [1, 4, 5, 7, 8, 10, 11]) .z)) (.s (.s (.r [1, 4, 5, 7, 8, 10, 11, 88]) (.cj [(11, .one (.int .i64))] [1, 4, 5, 7, 8, 10] (.r [1, 4, 5, 7, 8, 10, 11]) .z)) (.s (.s (.r [1, 4, 5, 7, 8, 10, 11, 12]) (.bj [] [1, 4, 5, 7, 8] (.l [(12, .one (.int .i64))] [1, 4, 5, 7, 8, 10, 11] (.s (.s (.r [1, 4, 5, 7, 8, 10, 11, 12, 91]) (.c .z .z)) (.s (.b (.s (.r [1, 4, 5, 7, 8, 10, 11, 12, 13]) (.s (.r [1, 4, 5, 7, 8, 10, 11, 12, 103]) (.c (.s (.r [2]) .z) .z)))) (.r [1, 4, 5, 7, 8, 10, 11, 12])))))) (.s (.r [1, 4, 5, 7, 8, 15]) (.s (.r [1, 4, 5, 7, 8, 15]) (.s (.s (.r [1, 4, 5, 7, 8, 15, 113]) (.cj [(7, .one (.int .i64))] [1, 4, 5, 8, 15] (.r [1, 4, 5, 7, 8, 15]) .z)) (.s (.rj [(128, .one .bool)] [1, 4, 5, 7, 8]) (.c (.s (.r [2]) .z) .z))))))))))))) (.r [1, 4, 5, 7, 8])))))) (.s (.r [2]) .z))))))))
theorem F_law11_LeaseRuns.eq (f33_ : Heap → (Bool → Heap → Prop) → Prop) (f34_ : Int → Int → Int → Int → Heap → (Option Addr → Heap → Prop) → Prop) (f35_ : Int → Int → Heap → (Int → Heap → Prop) → Prop) (f36_ : Option Addr → Int → Bool → Bool → Heap → (Int → Bool → Heap → Prop) → Prop) (f37_ : Option Addr → Heap → (Int → Heap → Prop) → Prop) (f42_ : Option Addr → Int → Bool → Bool → Heap → (Heap → Prop) → Prop) (f43_ : Option Addr → Heap → (Int → Heap → Prop) → Prop) (t1 : Int) (t2 : Int) (t3 : Int) (t4 : Sl) (t5 : Int) (t6 : Int) (h : Heap) (K : Value → Heap → Prop) : F_law11_LeaseRuns_of f33_ f34_ f35_ f36_ f37_ f42_ f43_ t1 t2 t3 t4 t5 t6 h (fun (r0 : Bool) (h : Heap) => K (.bool r0) h) =
    den Try.prog (fn1 33 (E_law11_begun_of f33_) (fn1 34 (E_lease_New_of f34_) (fn1 35 (E_law11_within_of f35_) (fn1 36 (E_lease_Lease_Tick_of f36_) (fn1 37 (E_lease_Lease_Patience_of f37_) (fn1 42 (E_lease_Lease_Heard_of f42_) (fn1 43 (E_lease_Lease_Left_of f43_) noFns))))))) Try.f11.ntmps plan11 (bodyOf Try.f11) (args0 0 [(.agg #[.int .i64 t1, .int .i64 t2, .int .i64 t3, .slice t4.ptr t4.len t4.cap, .int .i64 t5, .int .i64 t6] : Value)]) h ⟨fun env h => dRes Try.prog Try.f11.results.toList env h K, fun _ _ _ => False, fun env h => dRes Try.prog Try.f11.results.toList env h K⟩ := by kernel_rfl
def E_law11_LeaseRuns_of (f : Int → Int → Int → Sl → Int → Int → Heap → (Bool → Heap → Prop) → Prop) : List Value → Heap → (Value → Heap → Prop) → Prop
  | [v0], h, K => vAgg v0 fun cs0 => decs [.int .i64, .int .i64, .int .i64, .sl, .int .i64, .int .i64] cs0.toList fun (t1 : Int) (t2 : Int) (t3 : Int) (t4 : Sl) (t5 : Int) (t6 : Int) =>
  f t1 t2 t3 t4 t5 t6 h (fun (r0 : Bool) (h : Heap) => K (.bool r0) h)
  | _, _, _ => False
abbrev E_law11_LeaseRuns := E_law11_LeaseRuns_of F_law11_LeaseRuns
theorem E_law11_LeaseRuns.at (f : Int → Int → Int → Sl → Int → Int → Heap → (Bool → Heap → Prop) → Prop) (t1 : Int) (t2 : Int) (t3 : Int) (t4 : Sl) (t5 : Int) (t6 : Int) (h : Heap) (K : Value → Heap → Prop) : E_law11_LeaseRuns_of f [.agg ([.int .i64 t1, .int .i64 t2, .int .i64 t3, .slice t4.ptr t4.len t4.cap, .int .i64 t5, .int .i64 t6] : List Value).toArray] h K = f t1 t2 t3 t4 t5 t6 h (fun (r0 : Bool) (h : Heap) => K (.bool r0) h) := rfl
theorem E_law11_LeaseRuns.right : IsRight Try.prog 11 E_law11_LeaseRuns := by
  refine isRight fun vs K w hh => ?_
  match vs, hh with
  | [v0], hh =>
    unfold E_law11_LeaseRuns E_law11_LeaseRuns_of at hh
    replace hh := vAgg_sound hh; obtain ⟨cs0, rfl, hh⟩ := hh
    replace hh := decs_cons hh; obtain ⟨t1, l0_0, e0_0, hh⟩ := hh
    replace hh := decs_cons hh; obtain ⟨t2, l0_1, e0_1, hh⟩ := hh
    replace hh := decs_cons hh; obtain ⟨t3, l0_2, e0_2, hh⟩ := hh
    replace hh := decs_cons hh; obtain ⟨t4, l0_3, e0_3, hh⟩ := hh
    replace hh := decs_cons hh; obtain ⟨t5, l0_4, e0_4, hh⟩ := hh
    replace hh := decs_cons hh; obtain ⟨t6, l0_5, e0_5, hh⟩ := hh
    replace hh := decs_nil hh; obtain ⟨rfl, hh⟩ := hh
    subst e0_5
    subst e0_4
    subst e0_3
    subst e0_2
    subst e0_1
    have ec0 := toArray_eq e0_0
    subst ec0
    unfold F_law11_LeaseRuns at hh
    exact calls_den (fn1_right ok33 E_law11_begun.right (fn1_right ok34 E_lease_New.right (fn1_right ok35 E_law11_within.right (fn1_right ok36 E_lease_Lease_Tick.right (fn1_right ok37 E_lease_Lease_Patience.right (fn1_right ok42 E_lease_Lease_Heard.right (fn1_right ok43 E_lease_Lease_Left.right noFns_right))))))) plan11 _ w K Try.func11 (by kernel_rfl) (by kernel_rfl) (Eq.mp (F_law11_LeaseRuns.eq F_law11_begun F_lease_New F_law11_within F_lease_Lease_Tick F_lease_Lease_Patience F_lease_Lease_Heard F_lease_Lease_Left t1 t2 t3 t4 t5 t6 w.heap K) hh)
theorem ok11 : okFn Try.prog 11 = true := by kernel_rfl
end Go.Proofs.Ytboidjampddfoaa.V
