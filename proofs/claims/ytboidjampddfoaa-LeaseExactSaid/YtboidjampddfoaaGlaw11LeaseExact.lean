import Derived.Test.YtboidjampddfoaaV10
import Derived.Test.YtboidjampddfoaaProg
import Derived.Test.YtboidjampddfoaaGlaw11begun
import Derived.Test.YtboidjampddfoaaGleaseNew
import Derived.Test.YtboidjampddfoaaGleaseLeaseTick
import Derived.Test.YtboidjampddfoaaGleaseLeaseBegun
import Derived.Test.YtboidjampddfoaaGleaseLeaseDone
import Derived.Test.YtboidjampddfoaaGleaseLeaseHeard
import Derived.Test.YtboidjampddfoaaGleaseLeaseRest
import Derived.Test.YtboidjampddfoaaGref11New
import Derived.Test.YtboidjampddfoaaGref11LeaseHeard
import Derived.Test.YtboidjampddfoaaGref11LeaseRest
import Derived.Test.YtboidjampddfoaaGref11LeaseBegun
import Derived.Test.YtboidjampddfoaaGref11LeaseDone
import Derived.Test.YtboidjampddfoaaGref11LeaseTick
import Derived.Test.YtboidjampddfoaaGlaw11same
namespace Go.Proofs.Ytboidjampddfoaa.V
open Go Go.RowKit
set_option linter.unusedVariables false
set_option maxRecDepth 100000
/-! tally/tallylaw11.LeaseExact -/
def F_law11_LeaseExact.l1 (f34_ : Int → Int → Int → Int → Heap → (Option Addr → Heap → Prop) → Prop) (f36_ : Option Addr → Int → Bool → Bool → Heap → (Int → Bool → Heap → Prop) → Prop) (f38_ : Option Addr → Heap → (Heap → Prop) → Prop) (f39_ : Option Addr → Heap → (Heap → Prop) → Prop) (f42_ : Option Addr → Int → Bool → Bool → Heap → (Heap → Prop) → Prop) (f44_ : Option Addr → Heap → (Heap → Prop) → Prop) (f47_ : Int → Int → Int → Int → Heap → (Option Addr → Heap → Prop) → Prop) (f48_ : Option Addr → Int → Bool → Bool → Heap → (Heap → Prop) → Prop) (f49_ : Option Addr → Heap → (Heap → Prop) → Prop) (f50_ : Option Addr → Heap → (Heap → Prop) → Prop) (f51_ : Option Addr → Heap → (Heap → Prop) → Prop) (f52_ : Option Addr → Int → Bool → Bool → Heap → (Int → Bool → Heap → Prop) → Prop) (f53_ : Option Addr → Option Addr → Heap → (Bool → Heap → Prop) → Prop) (Q : Bool → Heap → Prop) (a6 : Addr) (a18 : Addr) (a29 : Addr) (j32 : Heap → Prop) : Int → Heap → Prop :=
  wl [(5, .one (.int .i64))] (fun (next33 : Int → Heap → Prop) (i34 : Int) (h35 : Heap) =>
  jn [(44, .one .bool)] (fun (x38 : Bool) (h39 : Heap) =>
  brr x38
  (ld [.sl] (a6.add 4) h39 fun (v40 : Sl) =>
  ixS 9 v40 i34 fun (a41 : Addr) =>
  ld [.int .i64, .int .i64, .int .u64, .int .i64, .bool, .bool, .int .i64, .int .i64, .int .i64] a41 h39 fun (v42 : Int) (v43 : Int) (v44 : Int) (v45 : Int) (v46 : Bool) (v47 : Bool) (v48 : Int) (v49 : Int) (v50 : Int) =>
  al 84 [.int .i64 0, .int .i64 0, .int .u64 0, .int .i64 0, .bool false, .bool false, .int .i64 0, .int .i64 0, .int .i64 0] h39 fun (a51 : Addr) (h52 : Heap) =>
  st a51 [.int .i64 v42, .int .i64 v43, .int .u64 v44, .int .i64 v45, .bool v46, .bool v47, .int .i64 v48, .int .i64 v49, .int .i64 v50] h52 fun (h53 : Heap) =>
  ld [.int .i64] (a51.add 0) h53 fun (v54 : Int) =>
  ld [.int .i64] (a51.add 1) h53 fun (v55 : Int) =>
  jn [] (fun  (h132 : Heap) =>
  jn [(182, .one .bool)] (fun (x146 : Bool) (h147 : Heap) =>
  brr x146
  (Q false h147)
  (next33 (IntKind.i64.wrap (i34 + 1)) h147)) (fun (j133 : Bool → Heap → Prop) =>
  ixA 1 a18 2 0 fun (a134 : Addr) =>
  ld [.ptr] a134 h132 fun (v135 : Option Addr) =>
  ixA 1 a29 2 0 fun (a136 : Addr) =>
  ld [.ptr] a136 h132 fun (v137 : Option Addr) =>
  f53_ v135 v137 h132 fun (r138 : Bool) (h139 : Heap) =>
  brr (!r138)
  (j133 true h139)
  (ixA 1 a18 2 1 fun (a140 : Addr) =>
  ld [.ptr] a140 h139 fun (v141 : Option Addr) =>
  ixA 1 a29 2 1 fun (a142 : Addr) =>
  ld [.ptr] a142 h139 fun (v143 : Option Addr) =>
  f53_ v141 v143 h139 fun (r144 : Bool) (h145 : Heap) =>
  j133 (!r144) h145))) (fun (j56 : Heap → Prop) =>
  brr (v55 == 1)
  (ixA 1 a18 2 (IntKind.i64.wrap (BitVec.ofInt IntKind.i64.bits v54 &&& BitVec.ofInt IntKind.i64.bits 1).toNat) fun (a57 : Addr) =>
  ld [.ptr] a57 h53 fun (v58 : Option Addr) =>
  ld [.int .u64] (a51.add 2) h53 fun (v59 : Int) =>
  ld [.bool] (a51.add 4) h53 fun (v60 : Bool) =>
  ld [.bool] (a51.add 5) h53 fun (v61 : Bool) =>
  f42_ v58 v59 v60 v61 h53 fun  (h62 : Heap) =>
  ixA 1 a29 2 (IntKind.i64.wrap (BitVec.ofInt IntKind.i64.bits v54 &&& BitVec.ofInt IntKind.i64.bits 1).toNat) fun (a63 : Addr) =>
  ld [.ptr] a63 h62 fun (v64 : Option Addr) =>
  ld [.int .u64] (a51.add 2) h62 fun (v65 : Int) =>
  ld [.bool] (a51.add 4) h62 fun (v66 : Bool) =>
  ld [.bool] (a51.add 5) h62 fun (v67 : Bool) =>
  f48_ v64 v65 v66 v67 h62 fun  (h68 : Heap) =>
  j56 h68)
  (jn [] (fun  (h131 : Heap) =>
  j56 h131) (fun (j69 : Heap → Prop) =>
  brr (v55 == 2)
  (ixA 1 a18 2 (IntKind.i64.wrap (BitVec.ofInt IntKind.i64.bits v54 &&& BitVec.ofInt IntKind.i64.bits 1).toNat) fun (a70 : Addr) =>
  ld [.ptr] a70 h53 fun (v71 : Option Addr) =>
  f44_ v71 h53 fun  (h72 : Heap) =>
  ixA 1 a29 2 (IntKind.i64.wrap (BitVec.ofInt IntKind.i64.bits v54 &&& BitVec.ofInt IntKind.i64.bits 1).toNat) fun (a73 : Addr) =>
  ld [.ptr] a73 h72 fun (v74 : Option Addr) =>
  f49_ v74 h72 fun  (h75 : Heap) =>
  j69 h75)
  (jn [] (fun  (h130 : Heap) =>
  j69 h130) (fun (j76 : Heap → Prop) =>
  brr (v55 == 3)
  (ixA 1 a18 2 (IntKind.i64.wrap (BitVec.ofInt IntKind.i64.bits v54 &&& BitVec.ofInt IntKind.i64.bits 1).toNat) fun (a77 : Addr) =>
  ld [.ptr] a77 h53 fun (v78 : Option Addr) =>
  f38_ v78 h53 fun  (h79 : Heap) =>
  ixA 1 a29 2 (IntKind.i64.wrap (BitVec.ofInt IntKind.i64.bits v54 &&& BitVec.ofInt IntKind.i64.bits 1).toNat) fun (a80 : Addr) =>
  ld [.ptr] a80 h79 fun (v81 : Option Addr) =>
  f50_ v81 h79 fun  (h82 : Heap) =>
  j76 h82)
  (jn [] (fun  (h129 : Heap) =>
  j76 h129) (fun (j83 : Heap → Prop) =>
  brr (v55 == 4)
  (ixA 1 a18 2 (IntKind.i64.wrap (BitVec.ofInt IntKind.i64.bits v54 &&& BitVec.ofInt IntKind.i64.bits 1).toNat) fun (a84 : Addr) =>
  ld [.ptr] a84 h53 fun (v85 : Option Addr) =>
  f39_ v85 h53 fun  (h86 : Heap) =>
  ixA 1 a29 2 (IntKind.i64.wrap (BitVec.ofInt IntKind.i64.bits v54 &&& BitVec.ofInt IntKind.i64.bits 1).toNat) fun (a87 : Addr) =>
  ld [.ptr] a87 h86 fun (v88 : Option Addr) =>
  f51_ v88 h86 fun  (h89 : Heap) =>
  j83 h89)
  (jn [] (fun  (h128 : Heap) =>
  j83 h128) (fun (j90 : Heap → Prop) =>
  brr (v55 == 5)
  (ixA 1 a18 2 (IntKind.i64.wrap (BitVec.ofInt IntKind.i64.bits v54 &&& BitVec.ofInt IntKind.i64.bits 1).toNat) fun (a91 : Addr) =>
  ld [.ptr] a91 h53 fun (v92 : Option Addr) =>
  ld [.int .i64] (a51.add 3) h53 fun (v93 : Int) =>
  ld [.bool] (a51.add 4) h53 fun (v94 : Bool) =>
  ld [.bool] (a51.add 5) h53 fun (v95 : Bool) =>
  f36_ v92 v93 v94 v95 h53 fun (r96 : Int) (r97 : Bool) (h98 : Heap) =>
  ixA 1 a29 2 (IntKind.i64.wrap (BitVec.ofInt IntKind.i64.bits v54 &&& BitVec.ofInt IntKind.i64.bits 1).toNat) fun (a99 : Addr) =>
  ld [.ptr] a99 h98 fun (v100 : Option Addr) =>
  ld [.int .i64] (a51.add 3) h98 fun (v101 : Int) =>
  ld [.bool] (a51.add 4) h98 fun (v102 : Bool) =>
  ld [.bool] (a51.add 5) h98 fun (v103 : Bool) =>
  f52_ v100 v101 v102 v103 h98 fun (r104 : Int) (r105 : Bool) (h106 : Heap) =>
  jn [(144, .one .bool)] (fun (x108 : Bool) (h109 : Heap) =>
  brr x108
  (Q false h109)
  (j90 h109)) (fun (j107 : Bool → Heap → Prop) =>
  brr (r96 != r104)
  (j107 true h106)
  (j107 (!(r97 == r105)) h106)))
  (jn [] (fun  (h127 : Heap) =>
  j90 h127) (fun (j110 : Heap → Prop) =>
  brr (v55 == 6)
  (ld [.int .i64] (a51.add 6) h53 fun (v111 : Int) =>
  ld [.int .i64] (a51.add 7) h53 fun (v112 : Int) =>
  ld [.int .i64] (a51.add 8) h53 fun (v113 : Int) =>
  ld [.int .u64] (a51.add 2) h53 fun (v114 : Int) =>
  f34_ v111 v112 v113 v114 h53 fun (r115 : Option Addr) (h116 : Heap) =>
  ixA 1 a18 2 (IntKind.i64.wrap (BitVec.ofInt IntKind.i64.bits v54 &&& BitVec.ofInt IntKind.i64.bits 1).toNat) fun (a117 : Addr) =>
  st a117 [.pointer r115] h116 fun (h118 : Heap) =>
  ld [.int .i64] (a51.add 6) h118 fun (v119 : Int) =>
  ld [.int .i64] (a51.add 7) h118 fun (v120 : Int) =>
  ld [.int .i64] (a51.add 8) h118 fun (v121 : Int) =>
  ld [.int .u64] (a51.add 2) h118 fun (v122 : Int) =>
  f47_ v119 v120 v121 v122 h118 fun (r123 : Option Addr) (h124 : Heap) =>
  ixA 1 a29 2 (IntKind.i64.wrap (BitVec.ofInt IntKind.i64.bits v54 &&& BitVec.ofInt IntKind.i64.bits 1).toNat) fun (a125 : Addr) =>
  st a125 [.pointer r123] h124 fun (h126 : Heap) =>
  j110 h126)
  (j110 h53)))))))))))))
  (j32 h39)) (fun (j36 : Bool → Heap → Prop) =>
  ld [.sl] (a6.add 4) h35 fun (v37 : Sl) =>
  brr (decide (i34 < ((v37.len : Nat) : Int)))
  (j36 (decide (i34 < 3000)) h35)
  (j36 false h35)))
def F_law11_LeaseExact_of (f33_ : Heap → (Bool → Heap → Prop) → Prop) (f34_ : Int → Int → Int → Int → Heap → (Option Addr → Heap → Prop) → Prop) (f36_ : Option Addr → Int → Bool → Bool → Heap → (Int → Bool → Heap → Prop) → Prop) (f38_ : Option Addr → Heap → (Heap → Prop) → Prop) (f39_ : Option Addr → Heap → (Heap → Prop) → Prop) (f42_ : Option Addr → Int → Bool → Bool → Heap → (Heap → Prop) → Prop) (f44_ : Option Addr → Heap → (Heap → Prop) → Prop) (f47_ : Int → Int → Int → Int → Heap → (Option Addr → Heap → Prop) → Prop) (f48_ : Option Addr → Int → Bool → Bool → Heap → (Heap → Prop) → Prop) (f49_ : Option Addr → Heap → (Heap → Prop) → Prop) (f50_ : Option Addr → Heap → (Heap → Prop) → Prop) (f51_ : Option Addr → Heap → (Heap → Prop) → Prop) (f52_ : Option Addr → Int → Bool → Bool → Heap → (Int → Bool → Heap → Prop) → Prop) (f53_ : Option Addr → Option Addr → Heap → (Bool → Heap → Prop) → Prop) (s1 : Int) (s2 : Int) (s3 : Int) (s4 : Int) (s5 : Sl) (h : Heap) (Q : Bool → Heap → Prop) : Prop :=
  al 87 [.int .i64 s1, .int .i64 s2, .int .i64 s3, .int .u64 s4, .slice s5.ptr s5.len s5.cap] h fun (a6 : Addr) (h7 : Heap) =>
  f33_ h7 fun (r8 : Bool) (h9 : Heap) =>
  brr (!r8)
  (Q false h9)
  (ld [.int .i64] (a6.add 0) h9 fun (v10 : Int) =>
  ld [.int .i64] (a6.add 1) h9 fun (v11 : Int) =>
  ld [.int .i64] (a6.add 2) h9 fun (v12 : Int) =>
  ld [.int .u64] (a6.add 3) h9 fun (v13 : Int) =>
  f34_ v10 v11 v12 v13 h9 fun (r14 : Option Addr) (h15 : Heap) =>
  f34_ 0 1 4 0 h15 fun (r16 : Option Addr) (h17 : Heap) =>
  al 92 [.pointer none, .pointer none] h17 fun (a18 : Addr) (h19 : Heap) =>
  st a18 [.pointer r14, .pointer r16] h19 fun (h20 : Heap) =>
  ld [.int .i64] (a6.add 0) h20 fun (v21 : Int) =>
  ld [.int .i64] (a6.add 1) h20 fun (v22 : Int) =>
  ld [.int .i64] (a6.add 2) h20 fun (v23 : Int) =>
  ld [.int .u64] (a6.add 3) h20 fun (v24 : Int) =>
  f47_ v21 v22 v23 v24 h20 fun (r25 : Option Addr) (h26 : Heap) =>
  f47_ 0 1 4 0 h26 fun (r27 : Option Addr) (h28 : Heap) =>
  al 95 [.pointer none, .pointer none] h28 fun (a29 : Addr) (h30 : Heap) =>
  st a29 [.pointer r25, .pointer r27] h30 fun (h31 : Heap) =>
  jn [] (fun  (h148 : Heap) =>
  jn [(2, .one .bool)] (fun (x164 : Bool) (h165 : Heap) =>
  Q x164 h165) (fun (j149 : Bool → Heap → Prop) =>
  ixA 1 a18 2 0 fun (a150 : Addr) =>
  ld [.ptr] a150 h148 fun (v151 : Option Addr) =>
  ixA 1 a29 2 0 fun (a152 : Addr) =>
  ld [.ptr] a152 h148 fun (v153 : Option Addr) =>
  f53_ v151 v153 h148 fun (r154 : Bool) (h155 : Heap) =>
  brr r154
  (ixA 1 a18 2 1 fun (a156 : Addr) =>
  ld [.ptr] a156 h155 fun (v157 : Option Addr) =>
  ixA 1 a29 2 1 fun (a158 : Addr) =>
  ld [.ptr] a158 h155 fun (v159 : Option Addr) =>
  f53_ v157 v159 h155 fun (r160 : Bool) (h161 : Heap) =>
  brr r160
  (f33_ h161 fun (r162 : Bool) (h163 : Heap) =>
  j149 r162 h163)
  (j149 false h161))
  (j149 false h155))) (fun (j32 : Heap → Prop) =>
  F_law11_LeaseExact.l1 f34_ f36_ f38_ f39_ f42_ f44_ f47_ f48_ f49_ f50_ f51_ f52_ f53_ Q a6 a18 a29 j32 0 h31))
def F_law11_LeaseExact (s1 : Int) (s2 : Int) (s3 : Int) (s4 : Int) (s5 : Sl) (h : Heap) (Q : Bool → Heap → Prop) : Prop := F_law11_LeaseExact_of F_law11_begun F_lease_New F_lease_Lease_Tick F_lease_Lease_Begun F_lease_Lease_Done F_lease_Lease_Heard F_lease_Lease_Rest F_ref11_New F_ref11_Lease_Heard F_ref11_Lease_Rest F_ref11_Lease_Begun F_ref11_Lease_Done F_ref11_Lease_Tick F_law11_same s1 s2 s3 s4 s5 h Q
def plan13 : Plan := .s (.r [1]) (.s (.s (.r [1, 13]) (.c (.s (.r [2]) .z) .z)) (.s (.r [1, 3]) (.s (.r [1, 3, 4]) (.s (.s (.r [1, 3, 4, 5]) (.bj [] [3, 4] (.l [(5, .one (.int .i64))] [1, 3, 4] (.s (.s (.rj [(44, .one .bool)] [1, 3, 4, 5]) (.c .z .z)) (.s (.b (.s (.r [1, 3, 4, 5, 6]) (.s (.r [1, 3, 4, 5, 6, 7]) (.s (.s (.r [1, 3, 4, 5, 6, 7, 56]) (.b (.s (.r [1, 3, 4, 5, 6, 7, 56, 57]) (.cj [] [1, 3, 4, 5] (.s (.d [0, 1, 3, 0, 8, 0, 32, 0, 128, 511] [[0, 1, 2, 3, 4, 5, 6, 7, 8, 9]] [1, 3, 4, 5, 6, 7]) (.d [0, 1, 3, 0, 8, 0, 32, 0, 128, 511] [[0, 1, 2, 3, 4, 5, 6, 7, 8, 9]] [1, 3, 4, 5])) (.s (.r [1, 3, 4, 5, 6, 7, 56, 79]) (.cj [] [1, 3, 4, 5] (.s (.r [1, 3, 4, 5, 7]) (.r [1, 3, 4, 5])) (.s (.r [1, 3, 4, 5, 6, 7, 56, 89]) (.cj [] [1, 3, 4, 5] (.s (.r [1, 3, 4, 5, 7]) (.r [1, 3, 4, 5])) (.s (.r [1, 3, 4, 5, 6, 7, 56, 99]) (.cj [] [1, 3, 4, 5] (.s (.r [1, 3, 4, 5, 7]) (.r [1, 3, 4, 5])) (.s (.r [1, 3, 4, 5, 6, 7, 56, 109]) (.cj [] [1, 3, 4, 5] (.s (.d [0, 1, 3, 0, 8, 0, 32, 0, 128, 511, 1023, 2047, 2047, 4095, 16383] [[0, 1, 2, 3, 4, 5, 6, 7, 8, 9, 10, 11, 12, 13, 14]] [1, 3, 4, 5, 6, 7, 8, 9]) (.s (.d [0, 1, 3, 0, 8, 0, 32, 0, 128, 511, 1023, 2047, 2047, 4095, 16383] [[0, 1, 2, 3, 4, 5, 6, 7, 8, 9, 10, 11, 12, 13, 14]] [1, 3, 4, 5, 8, 9, 10, 11]) (.s (.rj [(144, .one .bool)] [1, 3, 4, 5]) (.c (.s (.r [2]) .z) .z)))) (.s (.r [1, 3, 4, 5, 6, 7, 145]) (.cj [] [1, 3, 4, 5] (.s (.r [1, 3, 4, 5, 6, 7]) (.r [1, 3, 4, 5])) .z)))))))))))))) (.s (.rj [(182, .one .bool)] [1, 3, 4, 5]) (.c (.s (.r [2]) .z) .z)))))) (.r [1, 3, 4, 5])))))) (.s (.rj [(2, .one .bool)] []) .z)))))
theorem F_law11_LeaseExact.eq (f33_ : Heap → (Bool → Heap → Prop) → Prop) (f34_ : Int → Int → Int → Int → Heap → (Option Addr → Heap → Prop) → Prop) (f36_ : Option Addr → Int → Bool → Bool → Heap → (Int → Bool → Heap → Prop) → Prop) (f38_ : Option Addr → Heap → (Heap → Prop) → Prop) (f39_ : Option Addr → Heap → (Heap → Prop) → Prop) (f42_ : Option Addr → Int → Bool → Bool → Heap → (Heap → Prop) → Prop) (f44_ : Option Addr → Heap → (Heap → Prop) → Prop) (f47_ : Int → Int → Int → Int → Heap → (Option Addr → Heap → Prop) → Prop) (f48_ : Option Addr → Int → Bool → Bool → Heap → (Heap → Prop) → Prop) (f49_ : Option Addr → Heap → (Heap → Prop) → Prop) (f50_ : Option Addr → Heap → (Heap → Prop) → Prop) (f51_ : Option Addr → Heap → (Heap → Prop) → Prop) (f52_ : Option Addr → Int → Bool → Bool → Heap → (Int → Bool → Heap → Prop) → Prop) (f53_ : Option Addr → Option Addr → Heap → (Bool → Heap → Prop) → Prop) (s1 : Int) (s2 : Int) (s3 : Int) (s4 : Int) (s5 : Sl) (h : Heap) (K : Value → Heap → Prop) : F_law11_LeaseExact_of f33_ f34_ f36_ f38_ f39_ f42_ f44_ f47_ f48_ f49_ f50_ f51_ f52_ f53_ s1 s2 s3 s4 s5 h (fun (r0 : Bool) (h : Heap) => K (.bool r0) h) =
    den Try.prog (fn1 33 (E_law11_begun_of f33_) (fn1 34 (E_lease_New_of f34_) (fn1 36 (E_lease_Lease_Tick_of f36_) (fn1 38 (E_lease_Lease_Begun_of f38_) (fn1 39 (E_lease_Lease_Done_of f39_) (fn1 42 (E_lease_Lease_Heard_of f42_) (fn1 44 (E_lease_Lease_Rest_of f44_) (fn1 47 (E_ref11_New_of f47_) (fn1 48 (E_ref11_Lease_Heard_of f48_) (fn1 49 (E_ref11_Lease_Rest_of f49_) (fn1 50 (E_ref11_Lease_Begun_of f50_) (fn1 51 (E_ref11_Lease_Done_of f51_) (fn1 52 (E_ref11_Lease_Tick_of f52_) (fn1 53 (E_law11_same_of f53_) noFns)))))))))))))) Try.f13.ntmps plan13 (bodyOf Try.f13) (args0 0 [(.agg #[.int .i64 s1, .int .i64 s2, .int .i64 s3, .int .u64 s4, .slice s5.ptr s5.len s5.cap] : Value)]) h ⟨fun env h => dRes Try.prog Try.f13.results.toList env h K, fun _ _ _ => False, fun env h => dRes Try.prog Try.f13.results.toList env h K⟩ := by kernel_rfl
def E_law11_LeaseExact_of (f : Int → Int → Int → Int → Sl → Heap → (Bool → Heap → Prop) → Prop) : List Value → Heap → (Value → Heap → Prop) → Prop
  | [v0], h, K => vAgg v0 fun cs0 => decs [.int .i64, .int .i64, .int .i64, .int .u64, .sl] cs0.toList fun (s1 : Int) (s2 : Int) (s3 : Int) (s4 : Int) (s5 : Sl) =>
  f s1 s2 s3 s4 s5 h (fun (r0 : Bool) (h : Heap) => K (.bool r0) h)
  | _, _, _ => False
abbrev E_law11_LeaseExact := E_law11_LeaseExact_of F_law11_LeaseExact
theorem E_law11_LeaseExact.at (f : Int → Int → Int → Int → Sl → Heap → (Bool → Heap → Prop) → Prop) (s1 : Int) (s2 : Int) (s3 : Int) (s4 : Int) (s5 : Sl) (h : Heap) (K : Value → Heap → Prop) : E_law11_LeaseExact_of f [.agg ([.int .i64 s1, .int .i64 s2, .int .i64 s3, .int .u64 s4, .slice s5.ptr s5.len s5.cap] : List Value).toArray] h K = f s1 s2 s3 s4 s5 h (fun (r0 : Bool) (h : Heap) => K (.bool r0) h) := rfl
theorem E_law11_LeaseExact.right : IsRight Try.prog 13 E_law11_LeaseExact := by
  refine isRight fun vs K w hh => ?_
  match vs, hh with
  | [v0], hh =>
    unfold E_law11_LeaseExact E_law11_LeaseExact_of at hh
    replace hh := vAgg_sound hh; obtain ⟨cs0, rfl, hh⟩ := hh
    replace hh := decs_cons hh; obtain ⟨s1, l0_0, e0_0, hh⟩ := hh
    replace hh := decs_cons hh; obtain ⟨s2, l0_1, e0_1, hh⟩ := hh
    replace hh := decs_cons hh; obtain ⟨s3, l0_2, e0_2, hh⟩ := hh
    replace hh := decs_cons hh; obtain ⟨s4, l0_3, e0_3, hh⟩ := hh
    replace hh := decs_cons hh; obtain ⟨s5, l0_4, e0_4, hh⟩ := hh
    replace hh := decs_nil hh; obtain ⟨rfl, hh⟩ := hh
    subst e0_4
    subst e0_3
    subst e0_2
    subst e0_1
    have ec0 := toArray_eq e0_0
    subst ec0
    unfold F_law11_LeaseExact at hh
    exact calls_den (fn1_right ok33 E_law11_begun.right (fn1_right ok34 E_lease_New.right (fn1_right ok36 E_lease_Lease_Tick.right (fn1_right ok38 E_lease_Lease_Begun.right (fn1_right ok39 E_lease_Lease_Done.right (fn1_right ok42 E_lease_Lease_Heard.right (fn1_right ok44 E_lease_Lease_Rest.right (fn1_right ok47 E_ref11_New.right (fn1_right ok48 E_ref11_Lease_Heard.right (fn1_right ok49 E_ref11_Lease_Rest.right (fn1_right ok50 E_ref11_Lease_Begun.right (fn1_right ok51 E_ref11_Lease_Done.right (fn1_right ok52 E_ref11_Lease_Tick.right (fn1_right ok53 E_law11_same.right noFns_right)))))))))))))) plan13 _ w K Try.func13 (by kernel_rfl) (by kernel_rfl) (Eq.mp (F_law11_LeaseExact.eq F_law11_begun F_lease_New F_lease_Lease_Tick F_lease_Lease_Begun F_lease_Lease_Done F_lease_Lease_Heard F_lease_Lease_Rest F_ref11_New F_ref11_Lease_Heard F_ref11_Lease_Rest F_ref11_Lease_Begun F_ref11_Lease_Done F_ref11_Lease_Tick F_law11_same s1 s2 s3 s4 s5 w.heap K) hh)
theorem ok13 : okFn Try.prog 13 = true := by kernel_rfl
end Go.Proofs.Ytboidjampddfoaa.V
