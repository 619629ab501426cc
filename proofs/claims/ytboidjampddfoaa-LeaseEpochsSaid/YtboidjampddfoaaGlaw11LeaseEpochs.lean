import Derived.Test.YtboidjampddfoaaV10
import Derived.Test.YtboidjampddfoaaProg
import Derived.Test.YtboidjampddfoaaGlaw11begun
import Derived.Test.YtboidjampddfoaaGleaseNew
import Derived.Test.YtboidjampddfoaaGlaw11within
import Derived.Test.YtboidjampddfoaaGleaseLeaseTick
import Derived.Test.YtboidjampddfoaaGleaseLeasePatience
import Derived.Test.YtboidjampddfoaaGleaseLeaseSpan
import Derived.Test.YtboidjampddfoaaGleaseLeaseHeard
import Derived.Test.YtboidjampddfoaaGleaseLeaseLeft
import Derived.Test.YtboidjampddfoaaGleaseLeaseRest
import Derived.Test.YtboidjampddfoaaGlaw11has
import Derived.Test.YtboidjampddfoaaGleaseLeaseSeen
namespace Go.Proofs.Ytboidjampddfoaa.V
open Go Go.RowKit
set_option linter.unusedVariables false
set_option maxRecDepth 100000
/-! tally/tallylaw11.LeaseEpochs -/
def F_law11_LeaseEpochs.l1 (f34_ : Int → Int → Int → Int → Heap → (Option Addr → Heap → Prop) → Prop) (a6 : Addr) (r11 : Int) (r14 : Int) (j16 : Sl → Sl → Heap → Prop) : Sl → Sl → Int → Heap → Prop :=
  wl [(5, .one .sl), (6, .one .sl), (8, .one (.int .i64))] (fun (next17 : Sl → Sl → Int → Heap → Prop) (l18 : Sl) (top19 : Sl) (i20 : Int) (h21 : Heap) =>
  brr (decide (i20 < (IntKind.i64.wrap (1 + r11))))
  (ld [.int .u64] (a6.add 3) h21 fun (v22 : Int) =>
  (1000 : Int) ≠ 0 ∧
  f34_ i20 (IntKind.i64.wrap (1 + r11)) (IntKind.i64.wrap (4 + r14)) (v22.tmod 1000) h21 fun (r23 : Option Addr) (h24 : Heap) =>
  al 73 [.pointer r23] h24 fun (a25 : Addr) (h26 : Heap) =>
  app 73 1 8 (.pointer none) l18 (some a25) 1 h26 fun (s27 : Sl) (h28 : Heap) =>
  al 28 [.int .u64 (v22.tmod 1000)] h28 fun (a29 : Addr) (h30 : Heap) =>
  app 28 1 8 (.int .u64 0) top19 (some a29) 1 h30 fun (s31 : Sl) (h32 : Heap) =>
  next17 s27 s31 (IntKind.i64.wrap (i20 + 1)) h32)
  (j16 l18 top19 h21))
def F_law11_LeaseEpochs.l2 (f35_ : Int → Int → Heap → (Int → Heap → Prop) → Prop) (f36_ : Option Addr → Int → Bool → Bool → Heap → (Int → Bool → Heap → Prop) → Prop) (f37_ : Option Addr → Heap → (Int → Heap → Prop) → Prop) (f40_ : Option Addr → Heap → (Int → Heap → Prop) → Prop) (f42_ : Option Addr → Int → Bool → Bool → Heap → (Heap → Prop) → Prop) (f43_ : Option Addr → Heap → (Int → Heap → Prop) → Prop) (f44_ : Option Addr → Heap → (Heap → Prop) → Prop) (f45_ : Sl → Int → Heap → (Bool → Heap → Prop) → Prop) (f46_ : Option Addr → Heap → (Int → Heap → Prop) → Prop) (Q : Bool → Heap → Prop) (a6 : Addr) (r11 : Int) (r14 : Int) (l33 : Sl) (top34 : Sl) (j36 : Heap → Prop) : Sl → Int → Heap → Prop :=
  wl [(7, .one .sl), (10, .one (.int .i64))] (fun (next37 : Sl → Int → Heap → Prop) (all38 : Sl) (i39 : Int) (h40 : Heap) =>
  jn [(56, .one .bool)] (fun (x43 : Bool) (h44 : Heap) =>
  brr x43
  (ld [.sl] (a6.add 4) h44 fun (v45 : Sl) =>
  ixS 9 v45 i39 fun (a46 : Addr) =>
  ld [.int .i64, .int .i64, .int .u64, .int .i64, .bool, .bool, .int .i64, .int .i64, .int .i64] a46 h44 fun (v47 : Int) (v48 : Int) (v49 : Int) (v50 : Int) (v51 : Bool) (v52 : Bool) (v53 : Int) (v54 : Int) (v55 : Int) =>
  al 84 [.int .i64 0, .int .i64 0, .int .u64 0, .int .i64 0, .bool false, .bool false, .int .i64 0, .int .i64 0, .int .i64 0] h44 fun (a56 : Addr) (h57 : Heap) =>
  st a56 [.int .i64 v47, .int .i64 v48, .int .u64 v49, .int .i64 v50, .bool v51, .bool v52, .int .i64 v53, .int .i64 v54, .int .i64 v55] h57 fun (h58 : Heap) =>
  ld [.int .i64] (a56.add 0) h58 fun (v59 : Int) =>
  f35_ v59 (IntKind.i64.wrap (1 + r11)) h58 fun (r60 : Int) (h61 : Heap) =>
  ixS 1 l33 r60 fun (a62 : Addr) =>
  ld [.ptr] a62 h61 fun (v63 : Option Addr) =>
  f37_ v63 h61 fun (r64 : Int) (h65 : Heap) =>
  ld [.int .i64] (a56.add 1) h65 fun (v66 : Int) =>
  jn [(7, .one .sl)] (fun (all111 : Sl) (h112 : Heap) =>
  ixS 1 l33 r60 fun (a113 : Addr) =>
  ld [.ptr] a113 h112 fun (v114 : Option Addr) =>
  f37_ v114 h112 fun (r115 : Int) (h116 : Heap) =>
  jn [(227, .one .bool)] (fun (x136 : Bool) (h137 : Heap) =>
  brr x136
  (Q false h137)
  (next37 all111 (IntKind.i64.wrap (i39 + 1)) h137)) (fun (j117 : Bool → Heap → Prop) =>
  brr (decide (r115 < r64))
  (j117 true h116)
  (brr (decide (r115 < 4))
  (j117 true h116)
  (brr (decide (r115 > (IntKind.i64.wrap (4 + r14))))
  (j117 true h116)
  (ixS 1 l33 r60 fun (a118 : Addr) =>
  ld [.ptr] a118 h116 fun (v119 : Option Addr) =>
  ixS 1 top34 r60 fun (a120 : Addr) =>
  ld [.int .u64] a120 h116 fun (v121 : Int) =>
  f46_ v119 h116 fun (r122 : Int) (h123 : Heap) =>
  cellsAre h123 a120 [.int .u64 v121] ∧
  brr (r122 != v121)
  (j117 true h123)
  (ixS 1 l33 r60 fun (a124 : Addr) =>
  ld [.ptr] a124 h123 fun (v125 : Option Addr) =>
  f40_ v125 h123 fun (r126 : Int) (h127 : Heap) =>
  brr (r126 != (IntKind.i64.wrap (r115 + 1)))
  (j117 true h127)
  (ixS 1 l33 r60 fun (a128 : Addr) =>
  ld [.ptr] a128 h127 fun (v129 : Option Addr) =>
  f43_ v129 h127 fun (r130 : Int) (h131 : Heap) =>
  brr (decide (r130 < 0))
  (j117 true h131)
  (ixS 1 l33 r60 fun (a132 : Addr) =>
  ld [.ptr] a132 h131 fun (v133 : Option Addr) =>
  f43_ v133 h131 fun (r134 : Int) (h135 : Heap) =>
  j117 (decide (r134 > (IntKind.i64.wrap ((IntKind.i64.wrap (4 + r14)) + (IntKind.i64.wrap (1 + r11)))))) h135)))))))) (fun (j67 : Sl → Heap → Prop) =>
  brr (v66 == 1)
  (ld [.int .u64] (a56.add 2) h65 fun (v68 : Int) =>
  (100000 : Int) ≠ 0 ∧
  ixS 1 l33 r60 fun (a69 : Addr) =>
  ld [.ptr] a69 h65 fun (v70 : Option Addr) =>
  ld [.bool] (a56.add 4) h65 fun (v71 : Bool) =>
  ld [.bool] (a56.add 5) h65 fun (v72 : Bool) =>
  f42_ v70 (v68.tmod 100000) v71 v72 h65 fun  (h73 : Heap) =>
  ixS 1 top34 r60 fun (a74 : Addr) =>
  ld [.int .u64] a74 h73 fun (v75 : Int) =>
  jn [] (fun  (h79 : Heap) =>
  j67 all38 h79) (fun (j76 : Heap → Prop) =>
  brr (decide ((v68.tmod 100000) > v75))
  (ixS 1 top34 r60 fun (a77 : Addr) =>
  st a77 [.int .u64 (v68.tmod 100000)] h73 fun (h78 : Heap) =>
  j76 h78)
  (j76 h73)))
  (jn [(7, .one .sl)] (fun (all109 : Sl) (h110 : Heap) =>
  j67 all109 h110) (fun (j80 : Sl → Heap → Prop) =>
  brr (v66 == 2)
  (ixS 1 l33 r60 fun (a81 : Addr) =>
  ld [.ptr] a81 h65 fun (v82 : Option Addr) =>
  f44_ v82 h65 fun  (h83 : Heap) =>
  j80 all38 h83)
  (ixS 1 l33 r60 fun (a84 : Addr) =>
  ld [.ptr] a84 h65 fun (v85 : Option Addr) =>
  ld [.bool] (a56.add 5) h65 fun (v86 : Bool) =>
  f36_ v85 0 false v86 h65 fun (r87 : Int) (r88 : Bool) (h89 : Heap) =>
  jn [(127, .one .bool)] (fun (x98 : Bool) (h99 : Heap) =>
  brr x98
  (Q false h99)
  (jn [(7, .one .sl)] (fun (all107 : Sl) (h108 : Heap) =>
  j80 all107 h108) (fun (j100 : Sl → Heap → Prop) =>
  brr (r87 != 0)
  (al 28 [.int .u64 r87] h99 fun (a101 : Addr) (h102 : Heap) =>
  app 28 1 8 (.int .u64 0) all38 (some a101) 1 h102 fun (s103 : Sl) (h104 : Heap) =>
  ixS 1 top34 r60 fun (a105 : Addr) =>
  st a105 [.int .u64 r87] h104 fun (h106 : Heap) =>
  j100 s103 h106)
  (j100 all38 h99)))) (fun (j90 : Bool → Heap → Prop) =>
  brr r88
  (j90 true h89)
  (brr (r87 != 0)
  (ixS 1 top34 r60 fun (a91 : Addr) =>
  ld [.int .u64] a91 h89 fun (v92 : Int) =>
  brr (decide (r87 ≤ v92))
  (j90 true h89)
  ((IntKind.u64.wrap (IntKind.i64.wrap (1 + r11))) ≠ 0 ∧
  brr ((r87.tmod (IntKind.u64.wrap (IntKind.i64.wrap (1 + r11)))) != (IntKind.u64.wrap r60))
  (j90 true h89)
  (ixS 1 top34 r60 fun (a93 : Addr) =>
  ld [.int .u64] a93 h89 fun (v94 : Int) =>
  brr (decide (r87 > (IntKind.u64.wrap (v94 + (IntKind.u64.wrap (IntKind.i64.wrap (1 + r11)))))))
  (j90 true h89)
  (ld [.bool] (a56.add 5) h89 fun (v95 : Bool) =>
  brr (!v95)
  (j90 true h89)
  (f45_ all38 r87 h89 fun (r96 : Bool) (h97 : Heap) =>
  j90 r96 h97)))))
  (j90 false h89))))))))
  (j36 h44)) (fun (j41 : Bool → Heap → Prop) =>
  ld [.sl] (a6.add 4) h40 fun (v42 : Sl) =>
  brr (decide (i39 < ((v42.len : Nat) : Int)))
  (j41 (decide (i39 < 3000)) h40)
  (j41 false h40)))
def F_law11_LeaseEpochs_of (f33_ : Heap → (Bool → Heap → Prop) → Prop) (f34_ : Int → Int → Int → Int → Heap → (Option Addr → Heap → Prop) → Prop) (f35_ : Int → Int → Heap → (Int → Heap → Prop) → Prop) (f36_ : Option Addr → Int → Bool → Bool → Heap → (Int → Bool → Heap → Prop) → Prop) (f37_ : Option Addr → Heap → (Int → Heap → Prop) → Prop) (f40_ : Option Addr → Heap → (Int → Heap → Prop) → Prop) (f42_ : Option Addr → Int → Bool → Bool → Heap → (Heap → Prop) → Prop) (f43_ : Option Addr → Heap → (Int → Heap → Prop) → Prop) (f44_ : Option Addr → Heap → (Heap → Prop) → Prop) (f45_ : Sl → Int → Heap → (Bool → Heap → Prop) → Prop) (f46_ : Option Addr → Heap → (Int → Heap → Prop) → Prop) (s1 : Int) (s2 : Int) (s3 : Int) (s4 : Int) (s5 : Sl) (h : Heap) (Q : Bool → Heap → Prop) : Prop :=
  al 87 [.int .i64 s1, .int .i64 s2, .int .i64 s3, .int .u64 s4, .slice s5.ptr s5.len s5.cap] h fun (a6 : Addr) (h7 : Heap) =>
  f33_ h7 fun (r8 : Bool) (h9 : Heap) =>
  brr (!r8)
  (Q false h9)
  (ld [.int .i64] (a6.add 1) h9 fun (v10 : Int) =>
  f35_ v10 9 h9 fun (r11 : Int) (h12 : Heap) =>
  ld [.int .i64] (a6.add 2) h12 fun (v13 : Int) =>
  f35_ v13 100 h12 fun (r14 : Int) (h15 : Heap) =>
  jn [(5, .one .sl), (6, .one .sl)] (fun (l33 : Sl) (top34 : Sl) (h35 : Heap) =>
  jn [] (fun  (h138 : Heap) =>
  f33_ h138 fun (r139 : Bool) (h140 : Heap) =>
  Q r139 h140) (fun (j36 : Heap → Prop) =>
  F_law11_LeaseEpochs.l2 f35_ f36_ f37_ f40_ f42_ f43_ f44_ f45_ f46_ Q a6 r11 r14 l33 top34 j36 (⟨none, 0, 0⟩ : Sl) 0 h35)) (fun (j16 : Sl → Sl → Heap → Prop) =>
  F_law11_LeaseEpochs.l1 f34_ a6 r11 r14 j16 (⟨none, 0, 0⟩ : Sl) (⟨none, 0, 0⟩ : Sl) 0 h15))
def F_law11_LeaseEpochs (s1 : Int) (s2 : Int) (s3 : Int) (s4 : Int) (s5 : Sl) (h : Heap) (Q : Bool → Heap → Prop) : Prop := F_law11_LeaseEpochs_of F_law11_begun F_lease_New F_law11_within F_lease_Lease_Tick F_lease_Lease_Patience F_lease_Lease_Span F_lease_Lease_Heard F_lease_Lease_Left F_lease_Lease_Rest F_law11_has F_lease_Lease_Seen s1 s2 s3 s4 s5 h Q
def plan12 : Plan := .s (.r [1]) (.s (.s (.r [1, 19]) (.c (.s (.r [2]) .z) .z)) (.s (.r [1, 3]) (.s (.r [1, 3, 4]) (.s (.r [1, 3, 4, 5]) (.s (.r [1, 3, 4, 5, 6]) (.s (.r [1, 3, 4, 5, 6, 7]) (.s (.s (.r [1, 3, 4, 5, 6, 7, 8]) (.bj [(5, .one .sl), (6, .one .sl)] [1, 3, 4, 7] (.l [(5, .one .sl), (6, .one .sl), (8, .one (.int .i64))] [1, 3, 4, 7] (.s (.s (.r [1, 3, 4, 5, 6, 7, 8, 30]) (.c .z .z)) (.s (.b (.s (.r [1, 3, 4, 5, 6, 7, 8, 9]) (.s (.r [1, 3, 4, 5, 6, 7, 8, 9]) (.r [1, 3, 4, 5, 6, 7, 8])))) (.r [1, 3, 4, 5, 6, 7, 8])))))) (.s (.s (.r [1, 3, 4, 5, 6, 7, 10]) (.bj [] [] (.l [(7, .one .sl), (10, .one (.int .i64))] [1, 3, 4, 5, 6] (.s (.s (.rj [(56, .one .bool)] [1, 3, 4, 5, 6, 7, 10]) (.c .z .z)) (.s (.b (.s (.r [1, 3, 4, 5, 6, 7, 10, 11]) (.s (.r [1, 3, 4, 5, 6, 7, 10, 11, 12]) (.s (.r [1, 3, 4, 5, 6, 7, 10, 11, 12, 13]) (.s (.s (.r [1, 3, 4, 5, 6, 7, 10, 11, 12, 13, 74]) (.b (.s (.r [1, 3, 4, 5, 6, 7, 10, 11, 12, 13, 74, 138]) (.cj [(7, .one .sl)] [1, 3, 4, 5, 6, 10, 12, 13] (.s (.r [1, 3, 4, 5, 6, 7, 10, 11, 12, 13, 14]) (.s (.d [0, 0, 3, 7, 0, 0, 32, 0, 128, 511] [[0, 1, 2, 3, 4, 5, 6, 7, 8, 9]] [1, 3, 4, 5, 6, 7, 10, 12, 13, 14]) (.s (.r [1, 3, 4, 5, 6, 7, 10, 12, 13, 14, 158]) (.cj [] [1, 3, 4, 5, 6, 7, 10, 12, 13] (.r [1, 3, 4, 5, 6, 7, 10, 12, 13]) .z)))) (.s (.r [1, 3, 4, 5, 6, 7, 10, 11, 12, 13, 163]) (.cj [(7, .one .sl)] [1, 3, 4, 5, 6, 10, 12, 13] (.r [1, 3, 4, 5, 6, 7, 10, 12, 13]) (.s (.d [0, 0, 3, 7, 0, 16, 63, 127, 255, 255, 511, 2047] [[0, 1, 2, 3, 4, 5, 6, 7, 8, 9, 10, 11]] [1, 3, 4, 5, 6, 7, 10, 11, 12, 13, 15, 16]) (.s (.s (.rj [(127, .one .bool)] [1, 3, 4, 5, 6, 7, 10, 12, 13, 15]) (.c (.s (.r [2]) .z) .z)) (.s (.r [1, 3, 4, 5, 6, 7, 10, 12, 13, 15, 129]) (.cj [(7, .one .sl)] [1, 3, 4, 5, 6, 10, 12, 13] (.s (.r [1, 3, 4, 5, 6, 7, 10, 12, 13, 15]) (.r [1, 3, 4, 5, 6, 7, 10, 12, 13])) .z)))))))))) (.s (.r [1, 3, 4, 5, 6, 7, 10, 12, 13, 17]) (.s (.dj [0, 0, 3, 7, 15, 31, 63, 127, 255, 255, 1023, 2047, 4095, 8191, 8191, 32767, 65535, 131071, 8191, 8191, 794623, 1843199, 4194303, 8388607, 16777215, 33554431, 33554431, 134217727, 268435455, 536870911, 33554431, 1107296255, 4294967295, 8589934591, 17179869183, 34359738367, 34359738367, 137438953471, 274877906943, 549755813887, 1099511627775, 2199023255551, 4398046511103, 8796093022207, 8796093022207, 35184372088831, 70368744177663, 140737488355327, 8796093022207, 8796093022207, 853221023154175, 2251799813685247, 4503599627370495] [[0, 1, 2, 3, 4, 5, 6, 7, 8, 9, 10, 11, 12, 13, 14, 15, 16, 18, 19, 20, 21, 17, 22, 23, 24, 25, 26, 27, 28, 30, 31, 29, 32, 33, 34, 35, 36, 37, 38, 39, 40, 41, 42, 43, 44, 45, 46, 48, 49, 50, 47, 51, 52]] [(227, .one .bool)] [1, 3, 4, 5, 6, 7, 10]) (.c (.s (.r [2]) .z) .z)))))))) (.r [1, 3, 4, 5, 6, 7, 10])))))) (.s (.r [2]) .z)))))))))
theorem F_law11_LeaseEpochs.eq (f33_ : Heap → (Bool → Heap → Prop) → Prop) (f34_ : Int → Int → Int → Int → Heap → (Option Addr → Heap → Prop) → Prop) (f35_ : Int → Int → Heap → (Int → Heap → Prop) → Prop) (f36_ : Option Addr → Int → Bool → Bool → Heap → (Int → Bool → Heap → Prop) → Prop) (f37_ : Option Addr → Heap → (Int → Heap → Prop) → Prop) (f40_ : Option Addr → Heap → (Int → Heap → Prop) → Prop) (f42_ : Option Addr → Int → Bool → Bool → Heap → (Heap → Prop) → Prop) (f43_ : Option Addr → Heap → (Int → Heap → Prop) → Prop) (f44_ : Option Addr → Heap → (Heap → Prop) → Prop) (f45_ : Sl → Int → Heap → (Bool → Heap → Prop) → Prop) (f46_ : Option Addr → Heap → (Int → Heap → Prop) → Prop) (s1 : Int) (s2 : Int) (s3 : Int) (s4 : Int) (s5 : Sl) (h : Heap) (K : Value → Heap → Prop) : F_law11_LeaseEpochs_of f33_ f34_ f35_ f36_ f37_ f40_ f42_ f43_ f44_ f45_ f46_ s1 s2 s3 s4 s5 h (fun (r0 : Bool) (h : Heap) => K (.bool r0) h) =
    den Try.prog (fn1 33 (E_law11_begun_of f33_) (fn1 34 (E_lease_New_of f34_) (fn1 35 (E_law11_within_of f35_) (fn1 36 (E_lease_Lease_Tick_of f36_) (fn1 37 (E_lease_Lease_Patience_of f37_) (fn1 40 (E_lease_Lease_Span_of f40_) (fn1 42 (E_lease_Lease_Heard_of f42_) (fn1 43 (E_lease_Lease_Left_of f43_) (fn1 44 (E_lease_Lease_Rest_of f44_) (fn1 45 (E_law11_has_of f45_) (fn1 46 (E_lease_Lease_Seen_of f46_) noFns))))))))))) Try.f12.ntmps plan12 (bodyOf Try.f12) (args0 0 [(.agg #[.int .i64 s1, .int .i64 s2, .int .i64 s3, .int .u64 s4, .slice s5.ptr s5.len s5.cap] : Value)]) h ⟨fun env h => dRes Try.prog Try.f12.results.toList env h K, fun _ _ _ => False, fun env h => dRes Try.prog Try.f12.results.toList env h K⟩ := by kernel_rfl
def E_law11_LeaseEpochs_of (f : Int → Int → Int → Int → Sl → Heap → (Bool → Heap → Prop) → Prop) : List Value → Heap → (Value → Heap → Prop) → Prop
  | [v0], h, K => vAgg v0 fun cs0 => decs [.int .i64, .int .i64, .int .i64, .int .u64, .sl] cs0.toList fun (s1 : Int) (s2 : Int) (s3 : Int) (s4 : Int) (s5 : Sl) =>
  f s1 s2 s3 s4 s5 h (fun (r0 : Bool) (h : Heap) => K (.bool r0) h)
  | _, _, _ => False
abbrev E_law11_LeaseEpochs := E_law11_LeaseEpochs_of F_law11_LeaseEpochs
theorem E_law11_LeaseEpochs.at (f : Int → Int → Int → Int → Sl → Heap → (Bool → Heap → Prop) → Prop) (s1 : Int) (s2 : Int) (s3 : Int) (s4 : Int) (s5 : Sl) (h : Heap) (K : Value → Heap → Prop) : E_law11_LeaseEpochs_of f [.agg ([.int .i64 s1, .int .i64 s2, .int .i64 s3, .int .u64 s4, .slice s5.ptr s5.len s5.cap] : List Value).toArray] h K = f s1 s2 s3 s4 s5 h (fun (r0 : Bool) (h : Heap) => K (.bool r0) h) := rfl
theorem E_law11_LeaseEpochs.right : IsRight Try.prog 12 E_law11_LeaseEpochs := by
  refine isRight fun vs K w hh => ?_
  match vs, hh with
  | [v0], hh =>
    unfold E_law11_LeaseEpochs E_law11_LeaseEpochs_of at hh
    replace hh := vAgg_sound hh; obtain ⟨cs0, rfl, hh⟩ := hh
    replace hh := decs_cons hh; obtain ⟨s1, l0_0, e0_0, hh⟩ := hh
    replace hh := decs_cons hh; obtain ⟨s2, l0_1, e0_1, hh⟩ := hh
    replace hh := decs_cons hh; obtain ⟨s3, l0_2, e0_2, hh⟩ := hh
    replace hh := decs_cons hh; obtain ⟨s4, l0_3, e0_3, hh⟩ := hh
    replace hh := decs_cons hh; obtain ⟨s5, l0_4, e0_4, hh⟩ := hh
    replace hh := decs_nil hh; obtain ⟨rfl, hh⟩ := hh
    subst e0_4
    subst e0_3
    subst e0_2
    subst e0_1
    have ec0 := toArray_eq e0_0
    subst ec0
    unfold F_law11_LeaseEpochs at hh
    exact calls_den (fn1_right ok33 E_law11_begun.right (fn1_right ok34 E_lease_New.right (fn1_right ok35 E_law11_within.right (fn1_right ok36 E_lease_Lease_Tick.right (fn1_right ok37 E_lease_Lease_Patience.right (fn1_right ok40 E_lease_Lease_Span.right (fn1_right ok42 E_lease_Lease_Heard.right (fn1_right ok43 E_lease_Lease_Left.right (fn1_right ok44 E_lease_Lease_Rest.right (fn1_right ok45 E_law11_has.right (fn1_right ok46 E_lease_Lease_Seen.right noFns_right))))))))))) plan12 _ w K Try.func12 (by kernel_rfl) (by kernel_rfl) (Eq.mp (F_law11_LeaseEpochs.eq F_law11_begun F_lease_New F_law11_within F_lease_Lease_Tick F_lease_Lease_Patience F_lease_Lease_Span F_lease_Lease_Heard F_lease_Lease_Left F_lease_Lease_Rest F_law11_has F_lease_Lease_Seen s1 s2 s3 s4 s5 w.heap K) hh)
theorem ok12 : okFn Try.prog 12 = true := by kernel_rfl
end Go.Proofs.Ytboidjampddfoaa.V
