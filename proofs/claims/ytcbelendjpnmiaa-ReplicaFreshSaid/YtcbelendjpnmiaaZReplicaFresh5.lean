import Derived.Test.YtcbelendjpnmiaaZReplicaFresh4
import Derived.Test.YtcbelendjpnmiaaProg
namespace Go.Proofs.Ytcbelendjpnmiaa.V
open Go Go.RowKit
set_option linter.unusedVariables false
set_option maxRecDepth 100000
def F_law3_spread_marked.l1 (y1 : Option Addr) (Q : Bool → Heap → Prop) (i4 : Int) (j9 : Heap → Prop) : Int → Heap → Prop :=
  wl [(4, .one (.int .i64))] (fun (next10 : Int → Heap → Prop) (k11 : Int) (h12 : Heap) =>
  nn y1 fun (a13 : Addr) =>
  ld [.sl] (a13.add 0) h12 fun (v14 : Sl) =>
  ixS 1 v14 i4 fun (a15 : Addr) =>
  ld [.sl] a15 h12 fun (v16 : Sl) =>
  brr (decide (k11 < ((v16.len : Nat) : Int)))
  (nn y1 fun (a17 : Addr) =>
  ld [.sl] (a17.add 0) h12 fun (v18 : Sl) =>
  ixS 1 v18 i4 fun (a19 : Addr) =>
  ld [.sl] a19 h12 fun (v20 : Sl) =>
  ixS 1 v20 k11 fun (a21 : Addr) =>
  ld [.int .i64] a21 h12 fun (v22 : Int) =>
  brr (v22 != (IntKind.i64.wrap ((-1) - i4)))
  (Q false h12)
  (next10 (IntKind.i64.wrap (k11 + 1)) h12))
  (j9 h12))
def F_law3_spread_marked.l2 (y1 : Option Addr) (Q : Bool → Heap → Prop) (j2 : Heap → Prop) : Int → Heap → Prop :=
  wl [(3, .one (.int .i64))] (fun (next3 : Int → Heap → Prop) (i4 : Int) (h5 : Heap) =>
  nn y1 fun (a6 : Addr) =>
  ld [.sl] (a6.add 0) h5 fun (v7 : Sl) =>
  brr (decide (i4 < ((v7.len : Nat) : Int)))
  (jn [] (fun  (h24 : Heap) =>
  next3 (IntKind.i64.wrap (i4 + 1)) h24) (fun (j8 : Heap → Prop) =>
  jn [] (fun  (h23 : Heap) =>
  j8 h23) (fun (j9 : Heap → Prop) =>
  F_law3_spread_marked.l1 y1 Q i4 j9 0 h5)))
  (j2 h5))
def F_law3_spread_marked.l3 (f94_ : Int → Int → Heap → (Int → Heap → Prop) → Prop) (y1 : Option Addr) (Q : Bool → Heap → Prop) (i28 : Int) (j33 : Heap → Prop) : Int → Heap → Prop :=
  wl [(6, .one (.int .i64))] (fun (next34 : Int → Heap → Prop) (k35 : Int) (h36 : Heap) =>
  nn y1 fun (a37 : Addr) =>
  ld [.sl] (a37.add 1) h36 fun (v38 : Sl) =>
  ixS 1 v38 i28 fun (a39 : Addr) =>
  ld [.sl] a39 h36 fun (v40 : Sl) =>
  brr (decide (k35 < ((v40.len : Nat) : Int)))
  (nn y1 fun (a41 : Addr) =>
  ld [.sl] (a41.add 1) h36 fun (v42 : Sl) =>
  ixS 1 v42 i28 fun (a43 : Addr) =>
  ld [.sl] a43 h36 fun (v44 : Sl) =>
  ixS 1 v44 k35 fun (a45 : Addr) =>
  ld [.int .u8] a45 h36 fun (v46 : Int) =>
  f94_ i28 k35 h36 fun (r47 : Int) (h48 : Heap) =>
  cellsAre h48 (a41.add 1) [.slice v42.ptr v42.len v42.cap] ∧
  cellsAre h48 a43 [.slice v44.ptr v44.len v44.cap] ∧
  cellsAre h48 a45 [.int .u8 v46] ∧
  brr (v46 != r47)
  (Q false h48)
  (next34 (IntKind.i64.wrap (k35 + 1)) h48))
  (j33 h36))
def F_law3_spread_marked.l4 (f94_ : Int → Int → Heap → (Int → Heap → Prop) → Prop) (y1 : Option Addr) (Q : Bool → Heap → Prop) (j26 : Heap → Prop) : Int → Heap → Prop :=
  wl [(5, .one (.int .i64))] (fun (next27 : Int → Heap → Prop) (i28 : Int) (h29 : Heap) =>
  nn y1 fun (a30 : Addr) =>
  ld [.sl] (a30.add 1) h29 fun (v31 : Sl) =>
  brr (decide (i28 < ((v31.len : Nat) : Int)))
  (jn [] (fun  (h50 : Heap) =>
  next27 (IntKind.i64.wrap (i28 + 1)) h50) (fun (j32 : Heap → Prop) =>
  jn [] (fun  (h49 : Heap) =>
  j32 h49) (fun (j33 : Heap → Prop) =>
  F_law3_spread_marked.l3 f94_ y1 Q i28 j33 0 h29)))
  (j26 h29))
def F_law3_spread_marked.l5 (y1 : Option Addr) (Q : Bool → Heap → Prop) (i54 : Int) (j59 : Heap → Prop) : Int → Heap → Prop :=
  wl [(8, .one (.int .i64))] (fun (next60 : Int → Heap → Prop) (k61 : Int) (h62 : Heap) =>
  nn y1 fun (a63 : Addr) =>
  ld [.sl] (a63.add 2) h62 fun (v64 : Sl) =>
  ixS 1 v64 i54 fun (a65 : Addr) =>
  ld [.sl] a65 h62 fun (v66 : Sl) =>
  brr (decide (k61 < ((v66.len : Nat) : Int)))
  (nn y1 fun (a67 : Addr) =>
  ld [.sl] (a67.add 2) h62 fun (v68 : Sl) =>
  ixS 1 v68 i54 fun (a69 : Addr) =>
  ld [.sl] a69 h62 fun (v70 : Sl) =>
  ixS 1 v70 k61 fun (a71 : Addr) =>
  ld [.int .u64] a71 h62 fun (v72 : Int) =>
  brr (v72 != (IntKind.u64.wrap (1125899906842624 + (IntKind.u64.wrap i54))))
  (Q false h62)
  (next60 (IntKind.i64.wrap (k61 + 1)) h62))
  (j59 h62))
def F_law3_spread_marked.l6 (y1 : Option Addr) (Q : Bool → Heap → Prop) (j52 : Heap → Prop) : Int → Heap → Prop :=
  wl [(7, .one (.int .i64))] (fun (next53 : Int → Heap → Prop) (i54 : Int) (h55 : Heap) =>
  nn y1 fun (a56 : Addr) =>
  ld [.sl] (a56.add 2) h55 fun (v57 : Sl) =>
  brr (decide (i54 < ((v57.len : Nat) : Int)))
  (jn [] (fun  (h74 : Heap) =>
  next53 (IntKind.i64.wrap (i54 + 1)) h74) (fun (j58 : Heap → Prop) =>
  jn [] (fun  (h73 : Heap) =>
  j58 h73) (fun (j59 : Heap → Prop) =>
  F_law3_spread_marked.l5 y1 Q i54 j59 0 h55)))
  (j52 h55))
def F_law3_spread_marked.l7 (f29_ : Int → Int → Int → Int → Int → Int → Int → Int → Int → Int → Sl → Int → Int → ByteArray → ByteArray → Int → Int → Int → Int → Int → Int → Int → Int → Int → Int → Int → Int → Int → Int → Int → Int → Int → Sl → Int → Int → ByteArray → ByteArray → Int → Int → Int → Int → Int → Int → Int → Heap → (Bool → Heap → Prop) → Prop) (y1 : Option Addr) (Q : Bool → Heap → Prop) (i78 : Int) (j83 : Heap → Prop) : Int → Heap → Prop :=
  wl [(10, .one (.int .i64))] (fun (next84 : Int → Heap → Prop) (k85 : Int) (h86 : Heap) =>
  nn y1 fun (a87 : Addr) =>
  ld [.sl] (a87.add 3) h86 fun (v88 : Sl) =>
  ixS 1 v88 i78 fun (a89 : Addr) =>
  ld [.sl] a89 h86 fun (v90 : Sl) =>
  brr (decide (k85 < ((v90.len : Nat) : Int)))
  (nn y1 fun (a91 : Addr) =>
  ld [.sl] (a91.add 3) h86 fun (v92 : Sl) =>
  ixS 1 v92 i78 fun (a93 : Addr) =>
  ld [.sl] a93 h86 fun (v94 : Sl) =>
  ixS 22 v94 k85 fun (a95 : Addr) =>
  ld [.int .i64, .int .i64, .int .i64, .int .i64, .int .u64, .int .u64, .int .u64, .int .u64, .int .i64, .int .u64, .sl, .int .i64, .int .u64, .str, .str, .int .u64, .int .u64, .int .u64, .int .i64, .int .i64, .int .i64, .int .i64] a95 h86 fun (v96 v97 v98 v99 v100 v101 v102 v103 v104 v105 : Int) (v106 : Sl) (v107 v108 : Int) (v109 v110 : ByteArray) (v111 v112 v113 v114 v115 v116 v117 : Int) =>
  f29_ v96 v97 v98 v99 v100 v101 v102 v103 v104 v105 v106 v107 v108 v109 v110 v111 v112 v113 v114 v115 v116 v117 0 0 0 0 0 0 0 0 (IntKind.i64.wrap ((-1) - i78)) 0 (⟨none, 0, 0⟩ : Sl) 0 0 (⟨#[]⟩ : ByteArray) (⟨#[]⟩ : ByteArray) 0 0 0 0 0 0 0 h86 fun (r118 : Bool) (h119 : Heap) =>
  brr (!r118)
  (Q false h119)
  (next84 (IntKind.i64.wrap (k85 + 1)) h119))
  (j83 h86))
def F_law3_spread_marked.l8 (f29_ : Int → Int → Int → Int → Int → Int → Int → Int → Int → Int → Sl → Int → Int → ByteArray → ByteArray → Int → Int → Int → Int → Int → Int → Int → Int → Int → Int → Int → Int → Int → Int → Int → Int → Int → Sl → Int → Int → ByteArray → ByteArray → Int → Int → Int → Int → Int → Int → Int → Heap → (Bool → Heap → Prop) → Prop) (y1 : Option Addr) (Q : Bool → Heap → Prop) (j76 : Heap → Prop) : Int → Heap → Prop :=
  wl [(9, .one (.int .i64))] (fun (next77 : Int → Heap → Prop) (i78 : Int) (h79 : Heap) =>
  nn y1 fun (a80 : Addr) =>
  ld [.sl] (a80.add 3) h79 fun (v81 : Sl) =>
  brr (decide (i78 < ((v81.len : Nat) : Int)))
  (jn [] (fun  (h121 : Heap) =>
  next77 (IntKind.i64.wrap (i78 + 1)) h121) (fun (j82 : Heap → Prop) =>
  jn [] (fun  (h120 : Heap) =>
  j82 h120) (fun (j83 : Heap → Prop) =>
  F_law3_spread_marked.l7 f29_ y1 Q i78 j83 0 h79)))
  (j76 h79))
def F_law3_spread_marked_of (f29_ : Int → Int → Int → Int → Int → Int → Int → Int → Int → Int → Sl → Int → Int → ByteArray → ByteArray → Int → Int → Int → Int → Int → Int → Int → Int → Int → Int → Int → Int → Int → Int → Int → Int → Int → Sl → Int → Int → ByteArray → ByteArray → Int → Int → Int → Int → Int → Int → Int → Heap → (Bool → Heap → Prop) → Prop) (f94_ : Int → Int → Heap → (Int → Heap → Prop) → Prop) (f96_ : Option Addr → Heap → (Bool → Heap → Prop) → Prop) (y1 : Option Addr) (h : Heap) (Q : Bool → Heap → Prop) : Prop :=
  jn [] (fun  (h25 : Heap) =>
  jn [] (fun  (h51 : Heap) =>
  jn [] (fun  (h75 : Heap) =>
  jn [] (fun  (h122 : Heap) =>
  f96_ y1 h122 fun (r123 : Bool) (h124 : Heap) =>
  Q r123 h124) (fun (j76 : Heap → Prop) =>
  F_law3_spread_marked.l8 f29_ y1 Q j76 0 h75)) (fun (j52 : Heap → Prop) =>
  F_law3_spread_marked.l6 y1 Q j52 0 h51)) (fun (j26 : Heap → Prop) =>
  F_law3_spread_marked.l4 f94_ y1 Q j26 0 h25)) (fun (j2 : Heap → Prop) =>
  F_law3_spread_marked.l2 y1 Q j2 0 h)
def F_law3_spread_marked (y1 : Option Addr) (h : Heap) (Q : Bool → Heap → Prop) : Prop := F_law3_spread_marked_of F_ref0_EqMsg F_law3_sign F_law3_spread_others y1 h Q
def plan64 : Plan := .s (.r [0]) (.s (.s (.r [0, 3]) (.bj [] [0] (.l [(3, .one (.int .i64))] [0] (.s (.s (.r [0, 3, 17]) (.c .z .z)) (.s (.bj [] [0, 3] (.s (.r [0, 3, 4]) (.bj [] [0, 3] (.l [(4, .one (.int .i64))] [0, 3] (.s (.s (.r [0, 3, 4, 29]) (.c .z .z)) (.s (.b (.s (.r [0, 3, 4, 44]) (.c (.s (.r [2]) .z) .z))) (.r [0, 3, 4]))))))) (.r [0, 3])))))) (.s (.s (.r [0, 5]) (.bj [] [0] (.l [(5, .one (.int .i64))] [0] (.s (.s (.r [0, 5, 51]) (.c .z .z)) (.s (.bj [] [0, 5] (.s (.r [0, 5, 6]) (.bj [] [0, 5] (.l [(6, .one (.int .i64))] [0, 5] (.s (.s (.r [0, 5, 6, 63]) (.c .z .z)) (.s (.b (.s (.d [0, 1, 3, 7, 0, 31, 63, 0, 255, 511, 0, 0, 3072, 8191] [[0, 1, 2, 3, 4, 5, 6, 7, 8, 9, 10, 11, 12, 13]] [0, 5, 6, 79]) (.c (.s (.r [2]) .z) .z))) (.r [0, 5, 6]))))))) (.r [0, 5])))))) (.s (.s (.r [0, 7]) (.bj [] [0] (.l [(7, .one (.int .i64))] [0] (.s (.s (.r [0, 7, 86]) (.c .z .z)) (.s (.bj [] [0, 7] (.s (.r [0, 7, 8]) (.bj [] [0, 7] (.l [(8, .one (.int .i64))] [0, 7] (.s (.s (.r [0, 7, 8, 98]) (.c .z .z)) (.s (.b (.s (.r [0, 7, 8, 114]) (.c (.s (.r [2]) .z) .z))) (.r [0, 7, 8]))))))) (.r [0, 7])))))) (.s (.s (.r [0, 9]) (.bj [] [0] (.l [(9, .one (.int .i64))] [0] (.s (.s (.r [0, 9, 121]) (.c .z .z)) (.s (.bj [] [0, 9] (.s (.r [0, 9, 10]) (.bj [] [0, 9] (.l [(10, .one (.int .i64))] [0, 9] (.s (.s (.r [0, 9, 10, 133]) (.c .z .z)) (.s (.b (.s (.r [0, 9, 10, 150]) (.c (.s (.r [2]) .z) .z))) (.r [0, 9, 10]))))))) (.r [0, 9])))))) (.s (.r [2]) .z)))))
theorem F_law3_spread_marked.eq (f29_ : Int → Int → Int → Int → Int → Int → Int → Int → Int → Int → Sl → Int → Int → ByteArray → ByteArray → Int → Int → Int → Int → Int → Int → Int → Int → Int → Int → Int → Int → Int → Int → Int → Int → Int → Sl → Int → Int → ByteArray → ByteArray → Int → Int → Int → Int → Int → Int → Int → Heap → (Bool → Heap → Prop) → Prop) (f94_ : Int → Int → Heap → (Int → Heap → Prop) → Prop) (f96_ : Option Addr → Heap → (Bool → Heap → Prop) → Prop) (y1 : Option Addr) (h : Heap) (K : Value → Heap → Prop) : F_law3_spread_marked_of f29_ f94_ f96_ y1 h (fun (r0 : Bool) (h : Heap) => K (.bool r0) h) =
    den Try.prog (fn1 29 (E_ref0_EqMsg_of f29_) (fn1 94 (E_law3_sign_of f94_) (fn1 96 (E_law3_spread_others_of f96_) noFns))) Try.f64.ntmps plan64 (bodyOf Try.f64) (args0 0 [(.pointer y1 : Value)]) h ⟨fun env h => dRes Try.prog Try.f64.results.toList env h K, fun _ _ _ => False, fun env h => dRes Try.prog Try.f64.results.toList env h K⟩ := by kernel_rfl
def E_law3_spread_marked_of (f : Option Addr → Heap → (Bool → Heap → Prop) → Prop) : List Value → Heap → (Value → Heap → Prop) → Prop
  | [v0], h, K => dec1 .ptr v0 fun (y1 : Option Addr) =>
  f y1 h (fun (r0 : Bool) (h : Heap) => K (.bool r0) h)
  | _, _, _ => False
abbrev E_law3_spread_marked := E_law3_spread_marked_of F_law3_spread_marked
theorem E_law3_spread_marked.right : IsRight Try.prog 64 E_law3_spread_marked := by
  refine isRight fun vs K w hh => ?_
  match vs, hh with
  | [v0], hh =>
    unfold E_law3_spread_marked E_law3_spread_marked_of at hh
    replace hh := dec1_sound hh; obtain ⟨y1, rfl, hh⟩ := hh
    unfold F_law3_spread_marked at hh
    exact calls_den (fn1_right ok29 E_ref0_EqMsg.right (fn1_right ok94 E_law3_sign.right (fn1_right ok96 E_law3_spread_others.right noFns_right))) plan64 _ w K Try.func64 (by kernel_rfl) (by kernel_rfl) (Eq.mp (F_law3_spread_marked.eq F_ref0_EqMsg F_law3_sign F_law3_spread_others y1 w.heap K) hh)
theorem ok64 : okFn Try.prog 64 = true := by kernel_rfl
end Go.Proofs.Ytcbelendjpnmiaa.V
namespace Go.Proofs.Ytcbelendjpnmiaa.V
open Go Go.RowKit
set_option linter.unusedVariables false
set_option maxRecDepth 100000
def F_law3_Shelf_Given.l1 (x1 : Option Addr) (a4 : Addr) (i32 : Int) (j37 : Heap → Prop) : Int → Heap → Prop :=
  wl [(5, .one (.int .i64))] (fun (next38 : Int → Heap → Prop) (k39 : Int) (h40 : Heap) =>
  nn x1 fun (a41 : Addr) =>
  ld [.sl] (a41.add 5) h40 fun (v42 : Sl) =>
  ixS 1 v42 i32 fun (a43 : Addr) =>
  ld [.sl] a43 h40 fun (v44 : Sl) =>
  brr (decide (k39 < ((v44.len : Nat) : Int)))
  (nn (some a4) fun (a45 : Addr) =>
  ld [.sl] (a45.add 1) h40 fun (v46 : Sl) =>
  nn x1 fun (a47 : Addr) =>
  ld [.sl] (a47.add 5) h40 fun (v48 : Sl) =>
  ixS 1 v48 i32 fun (a49 : Addr) =>
  ld [.sl] a49 h40 fun (v50 : Sl) =>
  ixS 22 v50 k39 fun (a51 : Addr) =>
  ld [.sl] (a51.add 10) h40 fun (v52 : Sl) =>
  al 29 [.slice v52.ptr v52.len v52.cap] h40 fun (a53 : Addr) (h54 : Heap) =>
  cellsAre h54 (a45.add 1) [.slice v46.ptr v46.len v46.cap] ∧
  app 29 1 24 (.slice none 0 0) v46 (some a53) 1 h54 fun (s55 : Sl) (h56 : Heap) =>
  nn (some a4) fun (a57 : Addr) =>
  st (a57.add 1) [.slice s55.ptr s55.len s55.cap] h56 fun (h58 : Heap) =>
  next38 (IntKind.i64.wrap (k39 + 1)) h58)
  (j37 h40))
def F_law3_Shelf_Given.l2 (x1 : Option Addr) (a4 : Addr) (j30 : Heap → Prop) : Int → Heap → Prop :=
  wl [(4, .one (.int .i64))] (fun (next31 : Int → Heap → Prop) (i32 : Int) (h33 : Heap) =>
  nn x1 fun (a34 : Addr) =>
  ld [.sl] (a34.add 5) h33 fun (v35 : Sl) =>
  brr (decide (i32 < ((v35.len : Nat) : Int)))
  (jn [] (fun  (h72 : Heap) =>
  next31 (IntKind.i64.wrap (i32 + 1)) h72) (fun (j36 : Heap → Prop) =>
  jn [] (fun  (h59 : Heap) =>
  nn (some a4) fun (a60 : Addr) =>
  ld [.sl] (a60.add 3) h59 fun (v61 : Sl) =>
  nn x1 fun (a62 : Addr) =>
  ld [.sl] (a62.add 5) h59 fun (v63 : Sl) =>
  ixS 1 v63 i32 fun (a64 : Addr) =>
  ld [.sl] a64 h59 fun (v65 : Sl) =>
  al 129 [.slice v65.ptr v65.len v65.cap] h59 fun (a66 : Addr) (h67 : Heap) =>
  cellsAre h67 (a60.add 3) [.slice v61.ptr v61.len v61.cap] ∧
  app 129 1 24 (.slice none 0 0) v61 (some a66) 1 h67 fun (s68 : Sl) (h69 : Heap) =>
  nn (some a4) fun (a70 : Addr) =>
  st (a70.add 3) [.slice s68.ptr s68.len s68.cap] h69 fun (h71 : Heap) =>
  j36 h71) (fun (j37 : Heap → Prop) =>
  F_law3_Shelf_Given.l1 x1 a4 i32 j37 0 h33)))
  (j30 h33))
def F_law3_Shelf_Given.l3 (x1 : Option Addr) (a4 : Addr) (j74 : Heap → Prop) : Int → Heap → Prop :=
  wl [(6, .one (.int .i64))] (fun (next75 : Int → Heap → Prop) (i76 : Int) (h77 : Heap) =>
  nn x1 fun (a78 : Addr) =>
  ld [.sl] (a78.add 9) h77 fun (v79 : Sl) =>
  brr (decide (i76 < ((v79.len : Nat) : Int)))
  (nn (some a4) fun (a80 : Addr) =>
  ld [.sl] (a80.add 5) h77 fun (v81 : Sl) =>
  nn x1 fun (a82 : Addr) =>
  ld [.sl] (a82.add 9) h77 fun (v83 : Sl) =>
  ixS 6 v83 i76 fun (a84 : Addr) =>
  ld [.sl] (a84.add 1) h77 fun (v85 : Sl) =>
  al 130 [.slice v85.ptr v85.len v85.cap] h77 fun (a86 : Addr) (h87 : Heap) =>
  cellsAre h87 (a80.add 5) [.slice v81.ptr v81.len v81.cap] ∧
  app 130 1 24 (.slice none 0 0) v81 (some a86) 1 h87 fun (s88 : Sl) (h89 : Heap) =>
  nn (some a4) fun (a90 : Addr) =>
  st (a90.add 5) [.slice s88.ptr s88.len s88.cap] h89 fun (h91 : Heap) =>
  nn (some a4) fun (a92 : Addr) =>
  ld [.sl] (a92.add 6) h91 fun (v93 : Sl) =>
  nn x1 fun (a94 : Addr) =>
  ld [.sl] (a94.add 9) h91 fun (v95 : Sl) =>
  ixS 6 v95 i76 fun (a96 : Addr) =>
  ld [.sl] (a96.add 2) h91 fun (v97 : Sl) =>
  al 131 [.slice v97.ptr v97.len v97.cap] h91 fun (a98 : Addr) (h99 : Heap) =>
  cellsAre h99 (a92.add 6) [.slice v93.ptr v93.len v93.cap] ∧
  app 131 1 24 (.slice none 0 0) v93 (some a98) 1 h99 fun (s100 : Sl) (h101 : Heap) =>
  nn (some a4) fun (a102 : Addr) =>
  st (a102.add 6) [.slice s100.ptr s100.len s100.cap] h101 fun (h103 : Heap) =>
  nn (some a4) fun (a104 : Addr) =>
  ld [.sl] (a104.add 2) h103 fun (v105 : Sl) =>
  nn x1 fun (a106 : Addr) =>
  ld [.sl] (a106.add 9) h103 fun (v107 : Sl) =>
  ixS 6 v107 i76 fun (a108 : Addr) =>
  ld [.sl] (a108.add 3) h103 fun (v109 : Sl) =>
  nn x1 fun (a110 : Addr) =>
  ld [.sl] (a110.add 9) h103 fun (v111 : Sl) =>
  ixS 6 v111 i76 fun (a112 : Addr) =>
  ld [.sl] (a112.add 4) h103 fun (v113 : Sl) =>
  al 32 [.slice v109.ptr v109.len v109.cap, .slice v113.ptr v113.len v113.cap] h103 fun (a114 : Addr) (h115 : Heap) =>
  cellsAre h115 (a104.add 2) [.slice v105.ptr v105.len v105.cap] ∧
  app 32 1 24 (.slice none 0 0) v105 (some a114) 2 h115 fun (s116 : Sl) (h117 : Heap) =>
  nn (some a4) fun (a118 : Addr) =>
  st (a118.add 2) [.slice s116.ptr s116.len s116.cap] h117 fun (h119 : Heap) =>
  nn (some a4) fun (a120 : Addr) =>
  ld [.sl] (a120.add 7) h119 fun (v121 : Sl) =>
  nn x1 fun (a122 : Addr) =>
  ld [.sl] (a122.add 9) h119 fun (v123 : Sl) =>
  ixS 6 v123 i76 fun (a124 : Addr) =>
  ld [.sl] (a124.add 5) h119 fun (v125 : Sl) =>
  al 132 [.slice v125.ptr v125.len v125.cap] h119 fun (a126 : Addr) (h127 : Heap) =>
  cellsAre h127 (a120.add 7) [.slice v121.ptr v121.len v121.cap] ∧
  app 132 1 24 (.slice none 0 0) v121 (some a126) 1 h127 fun (s128 : Sl) (h129 : Heap) =>
  nn (some a4) fun (a130 : Addr) =>
  st (a130.add 7) [.slice s128.ptr s128.len s128.cap] h129 fun (h131 : Heap) =>
  next75 (IntKind.i64.wrap (i76 + 1)) h131)
  (j74 h77))
def F_law3_Shelf_Given_of (f61_ : Option Addr → Heap → (Bool → Heap → Prop) → Prop) (f62_ : Option Addr → Heap → (Heap → Prop) → Prop) (f63_ : Option Addr → Heap → (Option Addr → Heap → Prop) → Prop) (f64_ : Option Addr → Heap → (Bool → Heap → Prop) → Prop) (x1 : Option Addr) (h : Heap) (Q : Bool → Heap → Prop) : Prop :=
  f61_ x1 h fun (r2 : Bool) (h3 : Heap) =>
  brr (!r2)
  (Q false h3)
  (al 128 [.slice none 0 0, .slice none 0 0, .slice none 0 0, .slice none 0 0, .slice none 0 0, .slice none 0 0, .slice none 0 0, .slice none 0 0] h3 fun (a4 : Addr) (h5 : Heap) =>
  nn (some a4) fun (a6 : Addr) =>
  ld [.sl] (a6.add 0) h5 fun (v7 : Sl) =>
  nn x1 fun (a8 : Addr) =>
  ld [.sl] (a8.add 1) h5 fun (v9 : Sl) =>
  app 86 1 24 (.slice none 0 0) v7 v9.ptr v9.len h5 fun (s10 : Sl) (h11 : Heap) =>
  nn (some a4) fun (a12 : Addr) =>
  st (a12.add 0) [.slice s10.ptr s10.len s10.cap] h11 fun (h13 : Heap) =>
  nn (some a4) fun (a14 : Addr) =>
  ld [.sl] (a14.add 1) h13 fun (v15 : Sl) =>
  nn x1 fun (a16 : Addr) =>
  ld [.sl] (a16.add 3) h13 fun (v17 : Sl) =>
  app 29 1 24 (.slice none 0 0) v15 v17.ptr v17.len h13 fun (s18 : Sl) (h19 : Heap) =>
  nn (some a4) fun (a20 : Addr) =>
  st (a20.add 1) [.slice s18.ptr s18.len s18.cap] h19 fun (h21 : Heap) =>
  nn (some a4) fun (a22 : Addr) =>
  ld [.sl] (a22.add 4) h21 fun (v23 : Sl) =>
  nn x1 fun (a24 : Addr) =>
  ld [.sl] (a24.add 7) h21 fun (v25 : Sl) =>
  app 147 1 24 (.slice none 0 0) v23 v25.ptr v25.len h21 fun (s26 : Sl) (h27 : Heap) =>
  nn (some a4) fun (a28 : Addr) =>
  st (a28.add 4) [.slice s26.ptr s26.len s26.cap] h27 fun (h29 : Heap) =>
  jn [] (fun  (h73 : Heap) =>
  jn [] (fun  (h132 : Heap) =>
  f62_ (some a4) h132 fun  (h133 : Heap) =>
  f63_ (some a4) h133 fun (r134 : Option Addr) (h135 : Heap) =>
  jn [(2, .one .bool)] (fun (x141 : Bool) (h142 : Heap) =>
  Q x141 h142) (fun (j136 : Bool → Heap → Prop) =>
  f64_ (some a4) h135 fun (r137 : Bool) (h138 : Heap) =>
  brr r137
  (f64_ r134 h138 fun (r139 : Bool) (h140 : Heap) =>
  j136 r139 h140)
  (j136 false h138))) (fun (j74 : Heap → Prop) =>
  F_law3_Shelf_Given.l3 x1 a4 j74 0 h73)) (fun (j30 : Heap → Prop) =>
  F_law3_Shelf_Given.l2 x1 a4 j30 0 h29))
def F_law3_Shelf_Given (x1 : Option Addr) (h : Heap) (Q : Bool → Heap → Prop) : Prop := F_law3_Shelf_Given_of F_law3_Shelf_Same F_law3_spread_mark F_law3_spread_grown F_law3_spread_marked x1 h Q
def plan41 : Plan := .s (.r [0]) (.s (.s (.r [0, 10]) (.c (.s (.r [2]) .z) .z)) (.s (.r [0, 3]) (.s (.d [0, 0, 2, 6, 14, 0, 32, 96, 224, 510, 1023, 2047, 4095] [[0, 1, 2, 3, 4, 5, 6, 7, 8, 9, 10, 11, 12]] [0, 3]) (.s (.d [0, 0, 2, 6, 14, 0, 32, 96, 224, 510, 1023, 2047, 4095] [[0, 1, 2, 3, 4, 5, 6, 7, 8, 9, 10, 11, 12]] [0, 3]) (.s (.d [0, 0, 2, 6, 14, 0, 32, 96, 224, 510, 1023, 2047, 4095] [[0, 1, 2, 3, 4, 5, 6, 7, 8, 9, 10, 11, 12]] [0, 3]) (.s (.s (.r [0, 3, 4]) (.bj [] [0, 3] (.l [(4, .one (.int .i64))] [0, 3] (.s (.s (.r [0, 3, 4, 55]) (.c .z .z)) (.s (.bj [] [0, 3, 4] (.s (.s (.r [0, 3, 4, 5]) (.bj [] [0, 3, 4] (.l [(5, .one (.int .i64))] [0, 3, 4] (.s (.s (.r [0, 3, 4, 5, 67]) (.c .z .z)) (.s (.b (.d [0, 0, 2, 6, 14, 0, 32, 96, 224, 0, 992, 2016, 0, 8160, 16352, 32736, 65504, 131070, 262143, 524287, 1048575] [[0, 1, 2, 3, 4, 5, 6, 7, 8, 9, 10, 11, 12, 13, 14, 15, 16, 17, 18, 19, 20]] [0, 3, 4, 5])) (.r [0, 3, 4, 5])))))) (.d [0, 0, 2, 6, 14, 0, 32, 96, 224, 0, 992, 2016, 4064, 8190, 16383, 32767, 65535] [[0, 1, 2, 3, 4, 5, 6, 7, 8, 9, 10, 11, 12, 13, 14, 15, 16]] [0, 3, 4]))) (.r [0, 3, 4])))))) (.s (.s (.r [0, 3, 6]) (.bj [] [3] (.l [(6, .one (.int .i64))] [0, 3] (.s (.s (.r [0, 3, 6, 112]) (.c .z .z)) (.s (.b (.s (.d [0, 0, 2, 6, 14, 0, 32, 96, 224, 0, 992, 2016, 4064, 8160, 16382, 32767, 65535, 131071] [[0, 1, 2, 3, 4, 5, 6, 7, 8, 9, 10, 11, 12, 13, 14, 15, 16, 17]] [0, 3, 6]) (.s (.d [0, 0, 2, 6, 14, 0, 32, 96, 224, 0, 992, 2016, 4064, 8160, 16382, 32767, 65535, 131071] [[0, 1, 2, 3, 4, 5, 6, 7, 8, 9, 10, 11, 12, 13, 14, 15, 16, 17]] [0, 3, 6]) (.s (.d [0, 0, 2, 6, 14, 0, 32, 96, 224, 0, 992, 2016, 4064, 0, 8192, 24576, 57344, 0, 253952, 516096, 1040384, 2097120, 4194302, 8388607, 16777215, 33554431] [[0, 1, 2, 3, 4, 5, 6, 7, 8, 9, 10, 11, 12, 13, 14, 15, 16, 17, 18, 19, 20, 21, 22, 23, 24, 25]] [0, 3, 6]) (.d [0, 0, 2, 6, 14, 0, 32, 96, 224, 0, 992, 2016, 4064, 8160, 16382, 32767, 65535, 131071] [[0, 1, 2, 3, 4, 5, 6, 7, 8, 9, 10, 11, 12, 13, 14, 15, 16, 17]] [0, 3, 6]))))) (.r [0, 3, 6])))))) (.s (.r [3]) (.s (.r [3, 7]) (.s (.rj [(2, .one .bool)] []) .z))))))))))
theorem F_law3_Shelf_Given.eq (f61_ : Option Addr → Heap → (Bool → Heap → Prop) → Prop) (f62_ : Option Addr → Heap → (Heap → Prop) → Prop) (f63_ : Option Addr → Heap → (Option Addr → Heap → Prop) → Prop) (f64_ : Option Addr → Heap → (Bool → Heap → Prop) → Prop) (x1 : Option Addr) (h : Heap) (K : Value → Heap → Prop) : F_law3_Shelf_Given_of f61_ f62_ f63_ f64_ x1 h (fun (r0 : Bool) (h : Heap) => K (.bool r0) h) =
    den Try.prog (fn1 61 (E_law3_Shelf_Same_of f61_) (fn1 62 (E_law3_spread_mark_of f62_) (fn1 63 (E_law3_spread_grown_of f63_) (fn1 64 (E_law3_spread_marked_of f64_) noFns)))) Try.f41.ntmps plan41 (bodyOf Try.f41) (args0 0 [(.pointer x1 : Value)]) h ⟨fun env h => dRes Try.prog Try.f41.results.toList env h K, fun _ _ _ => False, fun env h => dRes Try.prog Try.f41.results.toList env h K⟩ := by kernel_rfl
def E_law3_Shelf_Given_of (f : Option Addr → Heap → (Bool → Heap → Prop) → Prop) : List Value → Heap → (Value → Heap → Prop) → Prop
  | [v0], h, K => dec1 .ptr v0 fun (x1 : Option Addr) =>
  f x1 h (fun (r0 : Bool) (h : Heap) => K (.bool r0) h)
  | _, _, _ => False
abbrev E_law3_Shelf_Given := E_law3_Shelf_Given_of F_law3_Shelf_Given
theorem E_law3_Shelf_Given.right : IsRight Try.prog 41 E_law3_Shelf_Given := by
  refine isRight fun vs K w hh => ?_
  match vs, hh with
  | [v0], hh =>
    unfold E_law3_Shelf_Given E_law3_Shelf_Given_of at hh
    replace hh := dec1_sound hh; obtain ⟨x1, rfl, hh⟩ := hh
    unfold F_law3_Shelf_Given at hh
    exact calls_den (fn1_right ok61 E_law3_Shelf_Same.right (fn1_right ok62 E_law3_spread_mark.right (fn1_right ok63 E_law3_spread_grown.right (fn1_right ok64 E_law3_spread_marked.right noFns_right)))) plan41 _ w K Try.func41 (by kernel_rfl) (by kernel_rfl) (Eq.mp (F_law3_Shelf_Given.eq F_law3_Shelf_Same F_law3_spread_mark F_law3_spread_grown F_law3_spread_marked x1 w.heap K) hh)
theorem ok41 : okFn Try.prog 41 = true := by kernel_rfl
end Go.Proofs.Ytcbelendjpnmiaa.V
/- The Shelf over lists of bytes: what is laid there, and that it is as it was. -/
namespace Go.Proofs.Ytcbelendjpnmiaa.V
open Go Go.RowKit
set_option linter.unusedVariables false
set_option linter.unusedSimpArgs false
/-- A list that is held, what it held, the copy. -/
abbrev SE := Sl × List UInt8 × Sl
def bufE (e : SE) : Res := buf 1 u8 e.1 e.2.1
structure ShS where
  size : Int
  s1 : Sl
  s2 : Sl
  es : List SE
structure ShS.Ok (y : ShS) (T : Nat) : Prop where
  n : 50 * y.es.length ≤ 4194304
  s0 : 50 * (y.es.length : Int) ≤ y.size
  s1 : y.size ≤ T * 281474976710710
  b : ∀ e ∈ y.es, e.2.1.length ≤ 4194304
abbrev shC (size : Int) (s1 s2 : Sl) : List Value := [.int .i64 size, .slice none 0 0, .slice none 0 0, .slice s1.ptr s1.len s1.cap, .slice s2.ptr s2.len s2.cap, .slice none 0 0, .slice none 0 0, .slice none 0 0, .slice none 0 0, .slice none 0 0, .slice none 0 0]
def shR (x T : Nat) : Res := ex fun y : ShS => pr (y.Ok T) (sep (own x (shC y.size y.s1 y.s2)) (sep (buf 1 slc y.s1 (y.es.map (·.1))) (sep (buf 1 slc y.s2 (y.es.map (·.2.2))) (sep (many bufE y.es) (poolR (y.es.map fun e => (e.2.2, e.2.1)))))))
theorem Sat.sh {h0 h : Heap} {L : List Res} {x T : Nat} (O : Sat h0 h (shR x T :: L)) : ∃ y : ShS, y.Ok T ∧ Sat h0 h (own x (shC y.size y.s1 y.s2) :: buf 1 slc y.s1 (y.es.map (·.1)) :: buf 1 slc y.s2 (y.es.map (·.2.2)) :: many bufE y.es :: poolR (y.es.map fun e => (e.2.2, e.2.1)) :: L) := by
  obtain ⟨y, O⟩ := O.ex
  obtain ⟨o, O⟩ := O.pr
  have O := O.sep.swap.sep.swap.sep.swap.sep
  exact ⟨y, o, O.sel [4, 3, 2, 0, 1] 5 rfl (Nat.le_add_left _ _)⟩
theorem Sat.shI {h0 h : Heap} {L : List Res} {x T : Nat} {y : ShS} (o : y.Ok T) (O : Sat h0 h (own x (shC y.size y.s1 y.s2) :: buf 1 slc y.s1 (y.es.map (·.1)) :: buf 1 slc y.s2 (y.es.map (·.2.2)) :: many bufE y.es :: poolR (y.es.map fun e => (e.2.2, e.2.1)) :: L)) : Sat h0 h (shR x T :: L) := by
  have O := (O.sel [3, 4, 0, 1, 2] 5 rfl (Nat.le_add_left _ _)).sepI
  have O := (O.sel [3, 0, 1, 2] 4 rfl (Nat.le_add_left _ _)).sepI
  have O := (O.sel [2, 0, 1] 3 rfl (Nat.le_add_left _ _)).sepI
  exact (Sat.prI o (O.swap.sepI)).exI y
section
variable {h0 h : Heap} {L : List Res}
theorem sh_new {x : Nat} (O : Sat h0 h (own x (shC 0 ⟨none, 0, 0⟩ ⟨none, 0, 0⟩) :: L)) : Sat h0 h (shR x 0 :: L) := by
  have O := pool_none O
  have O := O.none (f := bufE)
  have O := O.nil_buf (sz := 1) (enc := slc)
  have O := O.nil_buf (sz := 1) (enc := slc)
  exact Sat.shI (y := ⟨0, ⟨none, 0, 0⟩, ⟨none, 0, 0⟩, []⟩) ⟨by decide, by decide, by decide, fun e he => by cases he⟩ (O.sel [4, 0, 1, 2, 3] 5 rfl (Nat.le_add_left _ _))
theorem shelf_bytes2 {x T : Nat} {l : Sl} {xs : List UInt8} {Q : Heap → Prop} (hT : T ≤ 30000) (hx : xs.length ≤ 281474976710656) (O : Sat h0 h (buf 1 u8 l xs :: shR x T :: L)) (k : ∀ h', Sat h0 h' (shR x (T + 1) :: L) → Q h') : F_law3_Shelf_Bytes (some (pt x 0)) l h Q := by
  rw [F_law3_Shelf_Bytes.eq_1, F_law3_Shelf_Bytes_of.eq_1]
  have hl := (O.view 0 u8_len (by simp) rfl).1.len
  obtain ⟨y, ok, O⟩ := O.swap.sh
  have h1 := ok.n; have h2 := ok.s0; have h3 := ok.s1
  rw [F_law3_Shelf_holds.eq_1, F_law3_Shelf_holds_of.eq_1]
  repeat (first | (with_reducible refine al_id ?_); refine O.al fun _ h O => ?_ | (with_reducible refine nn_id ?_); refine ⟨_, rfl, ?_⟩ | (with_reducible refine ld_id ?_); (first | refine O.ld 0 rfl ?_); (repeat (first | (with_reducible refine ldL_n ?_) | refine ldL_s ?_ | refine ldL_c ?_)) | (with_reducible refine st_ad (by first | (with_reducible rfl) | (simp only [pt_add, Nat.zero_add, Nat.add_zero, Nat.reduceAdd]; with_reducible rfl)) ?_); (first | refine O.st 0 rfl (by simp) rfl fun h O => ?_); (dsimp only [V.put, List.set, List.length_cons, List.length_nil] at O) | (with_reducible refine ca_id ?_); (first | refine O.ca 0 1 rfl ?_ | refine O.ca 0 2 rfl ?_))
  rw [wrap64 (x := y.size + (l.len : Int)) (by omega) (by omega), wrap64 (by omega) (by omega)] at O ⊢
  refine jn0 (fun h' => Sat h0 h' (shR x (T + 1) :: L)) (fun h O => k h O) fun j hj => ?_
  refine brr_p (fun hf => ?_) (fun hf => ?_)
  · repeat (first | (with_reducible refine al_id ?_); refine O.al fun _ h O => ?_ | (with_reducible refine nn_id ?_); refine ⟨_, rfl, ?_⟩ | (with_reducible refine ld_id ?_); (first | refine O.ld 0 rfl ?_); (repeat (first | (with_reducible refine ldL_n ?_) | refine ldL_s ?_ | refine ldL_c ?_)) | (with_reducible refine st_ad (by first | (with_reducible rfl) | (simp only [pt_add, Nat.zero_add, Nat.add_zero, Nat.reduceAdd]; with_reducible rfl)) ?_); (first | refine O.st 0 rfl (by simp) rfl fun h O => ?_); (dsimp only [V.put, List.set, List.length_cons, List.length_nil] at O) | (with_reducible refine ca_id ?_); (first | refine O.ca 0 1 rfl ?_ | refine O.ca 0 2 rfl ?_))
    have O : Sat h0 h (own _ [.slice l.ptr l.len l.cap] :: own x (shC (y.size + l.len + 50) y.s1 y.s2) :: buf 1 slc y.s1 (y.es.map (·.1)) :: buf 1 slc y.s2 (y.es.map (·.2.2)) :: many bufE y.es :: poolR (y.es.map fun e => (e.2.2, e.2.1)) :: buf 1 u8 l xs :: L) := O
    have O2 := O.sel [2, 0, 1, 3, 4, 5, 6] 7 rfl (Nat.le_add_left _ _)
    refine Sat.app_buf O2 slc_len slc_one rfl (ys := [l]) rfl (rdP_own O 0 rfl 1 (Nat.le_refl _)) (by simp; omega) fun s10 h O _ => ?_
    refine ⟨_, rfl, ?_⟩
    have O : Sat h0 h (buf 1 slc s10 (y.es.map (·.1) ++ [l]) :: own _ [.slice l.ptr l.len l.cap] :: own x (shC (y.size + l.len + 50) y.s1 y.s2) :: buf 1 slc y.s2 (y.es.map (·.2.2)) :: many bufE y.es :: poolR (y.es.map fun e => (e.2.2, e.2.1)) :: buf 1 u8 l xs :: L) := O
    repeat (first | (with_reducible refine al_id ?_); refine O.al fun _ h O => ?_ | (with_reducible refine nn_id ?_); refine ⟨_, rfl, ?_⟩ | (with_reducible refine ld_id ?_); (first | refine O.ld 0 rfl ?_ | refine O.ld 1 rfl ?_ | refine O.ld 2 rfl ?_); (repeat (first | (with_reducible refine ldL_n ?_) | refine ldL_s ?_ | refine ldL_c ?_)) | (with_reducible refine st_ad (by first | (with_reducible rfl) | (simp only [pt_add, Nat.zero_add, Nat.add_zero, Nat.reduceAdd]; with_reducible rfl)) ?_); (first | refine O.st 0 rfl (by simp) rfl fun h O => ?_ | refine O.st 1 rfl (by simp) rfl fun h O => ?_ | refine O.st 2 rfl (by simp) rfl fun h O => ?_); (dsimp only [V.put, List.set, List.length_cons, List.length_nil] at O) | (with_reducible refine ca_id ?_); (first | refine O.ca 0 1 rfl ?_ | refine O.ca 0 2 rfl ?_ | refine O.ca 1 1 rfl ?_ | refine O.ca 1 2 rfl ?_ | refine O.ca 2 1 rfl ?_ | refine O.ca 2 2 rfl ?_))
    refine F_ref0_Copy.is O (O.view 6 u8_len (by simp) rfl).1 (by omega) fun w h O _ _ => ?_
    repeat (first | (with_reducible refine al_id ?_); refine O.al fun _ h O => ?_ | (with_reducible refine nn_id ?_); refine ⟨_, rfl, ?_⟩ | (with_reducible refine ld_id ?_); (first | refine O.ld 0 rfl ?_ | refine O.ld 1 rfl ?_ | refine O.ld 2 rfl ?_ | refine O.ld 3 rfl ?_ | refine O.ld 4 rfl ?_); (repeat (first | (with_reducible refine ldL_n ?_) | refine ldL_s ?_ | refine ldL_c ?_)) | (with_reducible refine st_ad (by first | (with_reducible rfl) | (simp only [pt_add, Nat.zero_add, Nat.add_zero, Nat.reduceAdd]; with_reducible rfl)) ?_); (first | refine O.st 0 rfl (by simp) rfl fun h O => ?_ | refine O.st 1 rfl (by simp) rfl fun h O => ?_ | refine O.st 2 rfl (by simp) rfl fun h O => ?_ | refine O.st 3 rfl (by simp) rfl fun h O => ?_ | refine O.st 4 rfl (by simp) rfl fun h O => ?_); (dsimp only [V.put, List.set, List.length_cons, List.length_nil] at O) | (with_reducible refine ca_id ?_); (first | refine O.ca 0 1 rfl ?_ | refine O.ca 0 2 rfl ?_ | refine O.ca 1 1 rfl ?_ | refine O.ca 1 2 rfl ?_ | refine O.ca 2 1 rfl ?_ | refine O.ca 2 2 rfl ?_ | refine O.ca 3 1 rfl ?_ | refine O.ca 3 2 rfl ?_ | refine O.ca 4 1 rfl ?_ | refine O.ca 4 2 rfl ?_))
    have O3 : Sat h0 h (buf 1 slc y.s2 (y.es.map (·.2.2)) :: own _ [.slice w.ptr w.len w.cap] :: buf 1 u8 w xs :: buf 1 slc s10 (y.es.map (·.1) ++ [l]) :: own x (shC (y.size + l.len + 50) s10 y.s2) :: many bufE y.es :: poolR (y.es.map fun e => (e.2.2, e.2.1)) :: buf 1 u8 l xs :: L) := O.sel [5, 0, 1, 2, 4, 6, 7, 8] 9 rfl (Nat.le_add_left _ _)
    refine Sat.app_buf O3 slc_len slc_one rfl (ys := [w]) rfl (rdP_own O3 1 rfl 1 (Nat.le_refl _)) (by simp; omega) fun s20 h O _ => ?_
    repeat (first | (with_reducible refine al_id ?_); refine O.al fun _ h O => ?_ | (with_reducible refine nn_id ?_); refine ⟨_, rfl, ?_⟩ | (with_reducible refine ld_id ?_); (first | refine O.ld 0 rfl ?_ | refine O.ld 1 rfl ?_ | refine O.ld 2 rfl ?_ | refine O.ld 3 rfl ?_ | refine O.ld 4 rfl ?_); (repeat (first | (with_reducible refine ldL_n ?_) | refine ldL_s ?_ | refine ldL_c ?_)) | (with_reducible refine st_ad (by first | (with_reducible rfl) | (simp only [pt_add, Nat.zero_add, Nat.add_zero, Nat.reduceAdd]; with_reducible rfl)) ?_); (first | refine O.st 0 rfl (by simp) rfl fun h O => ?_ | refine O.st 1 rfl (by simp) rfl fun h O => ?_ | refine O.st 2 rfl (by simp) rfl fun h O => ?_ | refine O.st 3 rfl (by simp) rfl fun h O => ?_ | refine O.st 4 rfl (by simp) rfl fun h O => ?_); (dsimp only [V.put, List.set, List.length_cons, List.length_nil] at O) | (with_reducible refine ca_id ?_); (first | refine O.ca 0 1 rfl ?_ | refine O.ca 0 2 rfl ?_ | refine O.ca 1 1 rfl ?_ | refine O.ca 1 2 rfl ?_ | refine O.ca 2 1 rfl ?_ | refine O.ca 2 2 rfl ?_ | refine O.ca 3 1 rfl ?_ | refine O.ca 3 2 rfl ?_ | refine O.ca 4 1 rfl ?_ | refine O.ca 4 2 rfl ?_))
    have O := pool_take (O.sel [2, 6, 0, 4, 3, 5, 7] 8 rfl (Nat.le_add_left _ _))
    have O : Sat h0 h (bufE (l, xs, w) :: many bufE y.es :: poolR ((y.es.map fun e => (e.2.2, e.2.1)) ++ [(w, xs)]) :: buf 1 slc s20 (y.es.map (·.2.2) ++ [w]) :: own x (shC (y.size + l.len + 50) s10 s20) :: buf 1 slc s10 (y.es.map (·.1) ++ [l]) :: L) := O.sel [5, 4, 0, 1, 2, 3] 6 rfl (Nat.le_add_left _ _)
    have O := O.more
    refine hj _ (Sat.shI (y := ⟨y.size + l.len + 50, s10, s20, y.es ++ [(l, xs, w)]⟩) ⟨?_, ?_, ?_, ?_⟩ ?_)
    · show 50 * (y.es ++ [(l, xs, w)]).length ≤ _
      rw [List.length_append, List.length_singleton]; omega
    · show 50 * (((y.es ++ [(l, xs, w)]).length : Nat) : Int) ≤ y.size + l.len + 50
      rw [List.length_append, List.length_singleton]; omega
    · show y.size + l.len + 50 ≤ ((T + 1 : Nat) : Int) * _
      omega
    · intro e he
      rcases List.mem_append.1 he with he | he
      · exact ok.b e he
      · rw [List.mem_singleton.1 he]; show xs.length ≤ _; omega
    · show Sat h0 h (own x (shC (y.size + l.len + 50) s10 s20) :: buf 1 slc s10 ((y.es ++ [(l, xs, w)]).map (·.1)) :: buf 1 slc s20 ((y.es ++ [(l, xs, w)]).map (·.2.2)) :: many bufE (y.es ++ [(l, xs, w)]) :: poolR ((y.es ++ [(l, xs, w)]).map fun e => (e.2.2, e.2.1)) :: L)
      rw [List.map_append, List.map_append, List.map_append]
      exact O.sel [3, 4, 2, 0, 1] 5 rfl (Nat.le_add_left _ _)
  · refine hj _ (Sat.shI (y := ⟨y.size + l.len + 50, y.s1, y.s2, y.es⟩) ⟨ok.n, ?_, ?_, ok.b⟩ (O.sel [0, 1, 2, 3, 4] 6 rfl (Nat.le_add_left _ _)))
    · show 50 * (y.es.length : Int) ≤ y.size + l.len + 50; omega
    · show y.size + l.len + 50 ≤ ((T + 1 : Nat) : Int) * _; omega
theorem F_law3_Shelf_Bytes.is {x T : Nat} {l : Sl} {xs : List UInt8} {Q : Heap → Prop} (hT : T ≤ 30000) (hx : xs.length ≤ (140737488355325 : Nat)) (O : Sat h0 h (buf 1 u8 l xs :: shR x T :: L)) (k : ∀ h', Sat h0 h' (shR x (T + 1) :: L) → Q h') : F_law3_Shelf_Bytes (some (pt x 0)) l h Q := shelf_bytes2 hT (by omega) O k
end
end Go.Proofs.Ytcbelendjpnmiaa.V
/- The Shelf over lists of bytes: all is as it was; the lists are written full, appended to, and looked at. -/
namespace Go.Proofs.Ytcbelendjpnmiaa.V
open Go Go.RowKit
set_option linter.unusedVariables false
set_option linter.unusedSimpArgs false
section
variable {h0 h : Heap} {L : List Res}
theorem F_law3_Shelf_Same.is {x : Nat} {y : ShS} {T : Nat} {Q : Bool → Heap → Prop} (ok : y.Ok T) (O : Sat h0 h (own x (shC y.size y.s1 y.s2) :: buf 1 slc y.s1 (y.es.map (·.1)) :: buf 1 slc y.s2 (y.es.map (·.2.2)) :: many bufE y.es :: poolR (y.es.map fun e => (e.2.2, e.2.1)) :: L)) (k : Q true h) : F_law3_Shelf_Same (some (pt x 0)) h Q := by
  rw [F_law3_Shelf_Same.eq_1, F_law3_Shelf_Same_of.eq_1]
  have hn := ok.n
  refine jn_go ?_
  rw [F_law3_Shelf_Same.l1.eq_1]
  refine wl_now1 fun next => ?_
  repeat (first | (with_reducible refine al_id ?_); refine O.al fun _ h O => ?_ | (with_reducible refine nn_id ?_); refine ⟨_, rfl, ?_⟩ | (with_reducible refine ld_id ?_); (first | refine O.ld 0 rfl ?_); (repeat (first | (with_reducible refine ldL_n ?_) | refine ldL_s ?_ | refine ldL_c ?_)) | (with_reducible refine st_ad (by first | (with_reducible rfl) | (simp only [pt_add, Nat.zero_add, Nat.add_zero, Nat.reduceAdd]; with_reducible rfl)) ?_); (first | refine O.st 0 rfl (by simp) rfl fun h O => ?_); (dsimp only [V.put, List.set, List.length_cons, List.length_nil] at O) | (with_reducible refine ca_id ?_); (first | refine O.ca 0 1 rfl ?_ | refine O.ca 0 2 rfl ?_))
  refine brr_ff (by decide) ?_
  refine jn0 (fun h' => h' = h) ?_ ?_
  · rintro h rfl
    refine jn_go ?_
    rw [F_law3_Shelf_Same.l3.eq_1]
    refine wl_now1 fun next => ?_
    repeat (first | (with_reducible refine al_id ?_); refine O.al fun _ h O => ?_ | (with_reducible refine nn_id ?_); refine ⟨_, rfl, ?_⟩ | (with_reducible refine ld_id ?_); (first | refine O.ld 0 rfl ?_); (repeat (first | (with_reducible refine ldL_n ?_) | refine ldL_s ?_ | refine ldL_c ?_)) | (with_reducible refine st_ad (by first | (with_reducible rfl) | (simp only [pt_add, Nat.zero_add, Nat.add_zero, Nat.reduceAdd]; with_reducible rfl)) ?_); (first | refine O.st 0 rfl (by simp) rfl fun h O => ?_); (dsimp only [V.put, List.set, List.length_cons, List.length_nil] at O) | (with_reducible refine ca_id ?_); (first | refine O.ca 0 1 rfl ?_ | refine O.ca 0 2 rfl ?_))
    refine brr_ff (by decide) ?_
    refine jn_go ?_
    rw [F_law3_Shelf_Same.l4.eq_1]
    refine wl_now1 fun next => ?_
    repeat (first | (with_reducible refine al_id ?_); refine O.al fun _ h O => ?_ | (with_reducible refine nn_id ?_); refine ⟨_, rfl, ?_⟩ | (with_reducible refine ld_id ?_); (first | refine O.ld 0 rfl ?_); (repeat (first | (with_reducible refine ldL_n ?_) | refine ldL_s ?_ | refine ldL_c ?_)) | (with_reducible refine st_ad (by first | (with_reducible rfl) | (simp only [pt_add, Nat.zero_add, Nat.add_zero, Nat.reduceAdd]; with_reducible rfl)) ?_); (first | refine O.st 0 rfl (by simp) rfl fun h O => ?_); (dsimp only [V.put, List.set, List.length_cons, List.length_nil] at O) | (with_reducible refine ca_id ?_); (first | refine O.ca 0 1 rfl ?_ | refine O.ca 0 2 rfl ?_))
    refine brr_ff (by decide) ?_
    refine jn_go ?_
    rw [F_law3_Shelf_Same.l5.eq_1]
    refine wl_now1 fun next => ?_
    repeat (first | (with_reducible refine al_id ?_); refine O.al fun _ h O => ?_ | (with_reducible refine nn_id ?_); refine ⟨_, rfl, ?_⟩ | (with_reducible refine ld_id ?_); (first | refine O.ld 0 rfl ?_); (repeat (first | (with_reducible refine ldL_n ?_) | refine ldL_s ?_ | refine ldL_c ?_)) | (with_reducible refine st_ad (by first | (with_reducible rfl) | (simp only [pt_add, Nat.zero_add, Nat.add_zero, Nat.reduceAdd]; with_reducible rfl)) ?_); (first | refine O.st 0 rfl (by simp) rfl fun h O => ?_); (dsimp only [V.put, List.set, List.length_cons, List.length_nil] at O) | (with_reducible refine ca_id ?_); (first | refine O.ca 0 1 rfl ?_ | refine O.ca 0 2 rfl ?_))
    refine brr_ff (by decide) ?_
    exact k
  intro j hj
  rw [F_law3_Shelf_Same.l2.eq_1]
  have v1 := (O.view 1 slc_len (by simp) rfl).1
  have v2 := (O.view 2 slc_len (by simp) rfl).1
  refine wl1 (k := .int .i64) (fun (m : Nat) (i : Int) (h' : Heap) => 0 ≤ i ∧ i + m = y.es.length ∧ h' = h) ?_ (m := y.es.length) ⟨by omega, by omega, rfl⟩
  rintro m (i : Int) h next hn2 ⟨hi0, him, rfl⟩
  repeat (first | (with_reducible refine al_id ?_); refine O.al fun _ h O => ?_ | (with_reducible refine nn_id ?_); refine ⟨_, rfl, ?_⟩ | (with_reducible refine ld_id ?_); (first | refine O.ld 0 rfl ?_); (repeat (first | (with_reducible refine ldL_n ?_) | refine ldL_s ?_ | refine ldL_c ?_)) | (with_reducible refine st_ad (by first | (with_reducible rfl) | (simp only [pt_add, Nat.zero_add, Nat.add_zero, Nat.reduceAdd]; with_reducible rfl)) ?_); (first | refine O.st 0 rfl (by simp) rfl fun h O => ?_); (dsimp only [V.put, List.set, List.length_cons, List.length_nil] at O) | (with_reducible refine ca_id ?_); (first | refine O.ca 0 1 rfl ?_ | refine O.ca 0 2 rfl ?_))
  have hl := v1.len
  rw [List.length_map] at hl
  rw [show (Sl.mk y.s1.ptr y.s1.len y.s1.cap).len = y.es.length from hl]
  refine brr_p (fun hlt => ?_) (fun hlt => hj _ rfl)
  obtain ⟨e, he⟩ : ∃ e, y.es[i.toNat]? = some e := ⟨_, List.getElem?_eq_getElem (by omega)⟩
  have hb := ok.b e (List.mem_of_getElem? he)
  repeat (first | (with_reducible refine al_id ?_); refine O.al fun _ h O => ?_ | (with_reducible refine nn_id ?_); refine ⟨_, rfl, ?_⟩ | (with_reducible refine ld_id ?_); (first | refine O.ld 0 rfl ?_); (repeat (first | (with_reducible refine ldL_n ?_) | refine ldL_s ?_ | refine ldL_c ?_)) | (with_reducible refine st_ad (by first | (with_reducible rfl) | (simp only [pt_add, Nat.zero_add, Nat.add_zero, Nat.reduceAdd]; with_reducible rfl)) ?_); (first | refine O.st 0 rfl (by simp) rfl fun h O => ?_); (dsimp only [V.put, List.set, List.length_cons, List.length_nil] at O) | (with_reducible refine ca_id ?_); (first | refine O.ca 0 1 rfl ?_ | refine O.ca 0 2 rfl ?_))
  refine v1.getP hi0 (x := e.1) (by rw [List.getElem?_map, he]; rfl) fun a hca => ?_
  refine ld_are (hca v1) (ldL_c (k := .sl) (x := e.1) (ldL_n ?_))
  repeat (first | (with_reducible refine al_id ?_); refine O.al fun _ h O => ?_ | (with_reducible refine nn_id ?_); refine ⟨_, rfl, ?_⟩ | (with_reducible refine ld_id ?_); (first | refine O.ld 0 rfl ?_); (repeat (first | (with_reducible refine ldL_n ?_) | refine ldL_s ?_ | refine ldL_c ?_)) | (with_reducible refine st_ad (by first | (with_reducible rfl) | (simp only [pt_add, Nat.zero_add, Nat.add_zero, Nat.reduceAdd]; with_reducible rfl)) ?_); (first | refine O.st 0 rfl (by simp) rfl fun h O => ?_); (dsimp only [V.put, List.set, List.length_cons, List.length_nil] at O) | (with_reducible refine ca_id ?_); (first | refine O.ca 0 1 rfl ?_ | refine O.ca 0 2 rfl ?_))
  refine v2.getP hi0 (x := e.2.2) (by rw [List.getElem?_map, he]; rfl) fun a hca => ?_
  refine ld_are (hca v2) (ldL_c (k := .sl) (x := e.2.2) (ldL_n ?_))
  have V1 : Bytes h e.1 e.2.1 := (((O.sel [3, 0, 1, 2, 4] 5 rfl (Nat.le_add_left _ _)).take _ he).view 0 (α := UInt8) (enc := u8) u8_len (by simp) rfl).1
  have V2 : Bytes h e.2.2 e.2.1 := pool_view (e := (e.2.2, e.2.1)) O 4 (by simp) rfl (List.mem_map.2 ⟨e, List.mem_of_getElem? he, rfl⟩)
  refine F_ref0_Eq.is V1 V2 (by omega) (by omega) ?_
  refine brr_ff (by simp) ?_
  rw [wrap64 (by omega) (by omega)]
  exact hn2 (m - 1) _ _ (by omega) ⟨by omega, by omega, rfl⟩
theorem F_law3_sign.is {h : Heap} {m k : Nat} {Q : Int → Heap → Prop} (hm : m ≤ 1099511627776) (hq : Q ((atB m k).toNat : Int) h) : F_law3_sign m k h Q := by
  rw [F_law3_sign.eq_1, F_law3_sign_of.eq_1]
  have e2 : ((k : Int)).tmod 2 = ((k % 2 : Nat) : Int) := by rw [Int.tmod_eq_emod_of_nonneg (by omega)]; omega
  have e3 : ((m : Int)).tmod 251 = ((m % 251 : Nat) : Int) := by rw [Int.tmod_eq_emod_of_nonneg (by omega)]; omega
  have e4 : ((m : Int)).tdiv 251 = ((m / 251 : Nat) : Int) := by rw [Int.tdiv_eq_ediv_of_nonneg (by omega)]; omega
  unfold atB at hq
  refine ⟨by decide, ?_⟩
  rw [e2, e3, e4]
  refine brr_eq (fun e => ?_) (fun e => ?_)
  · rw [if_pos (by omega)] at hq
    refine ⟨by decide, ?_⟩
    rw [wrap64 (by omega) (by omega), show (1 + ((m % 251 : Nat) : Int)) = ((1 + m % 251 : Nat) : Int) by omega, wrap8K]
    exact hq
  · rw [if_neg (by omega)] at hq
    refine ⟨by decide, by decide, ?_⟩
    rw [wrap64 (x := 7 * (m : Int)) (by omega) (by omega), wrap64 (x := ((m / 251 : Nat) : Int)) (by omega) (by omega), wrap64 (x := 7 * (m : Int) + ((m / 251 : Nat) : Int)) (by omega) (by omega)]
    have e5 : (7 * (m : Int) + ((m / 251 : Nat) : Int)).tmod 251 = (((7 * m + m / 251) % 251 : Nat) : Int) := by rw [Int.tmod_eq_emod_of_nonneg (by omega)]; omega
    rw [e5, wrap64 (by omega) (by omega), show (1 + (((7 * m + m / 251) % 251 : Nat) : Int)) = ((1 + (7 * m + m / 251) % 251 : Nat) : Int) by omega, wrap8K]
    exact hq
/-- Lists with their numbers. -/
def idx : List Sl → Nat → List BE
  | [], _ => []
  | s :: r, i => (s, i) :: idx r (i + 1)
theorem idx_app : ∀ (l r : List Sl) (i : Nat), idx (l ++ r) i = idx l i ++ idx r (i + l.length)
  | [], r, i => by simp [idx]
  | s :: l, r, i => by
    show (s, i) :: idx (l ++ r) (i + 1) = (s, i) :: (idx l (i + 1) ++ idx r (i + (l.length + 1)))
    rw [idx_app l r (i + 1), show i + 1 + l.length = i + (l.length + 1) by omega]
theorem idx_mem : ∀ {l : List Sl} {i k : Nat} {s : Sl}, l[k]? = some s → (s, i + k) ∈ idx l i
  | [], i, k, s, h => by simp at h
  | t :: l, i, 0, s, h => by cases h; exact List.mem_cons_self
  | t :: l, i, k + 1, s, h => by
    have := idx_mem (l := l) (i := i + 1) (k := k) (s := s) (by simpa using h)
    rw [show i + (k + 1) = i + 1 + k by omega]
    exact List.mem_cons_of_mem _ this
abbrev spC (i b d : Sl) : List Value := [.slice i.ptr i.len i.cap, .slice b.ptr b.len b.cap, .slice none 0 0, .slice none 0 0, .slice d.ptr d.len d.cap, .slice none 0 0, .slice none 0 0, .slice none 0 0]
theorem F_law3_spread_others.is {y : Nat} {i b d : Sl} {Q : Bool → Heap → Prop} (hd : d.len = 0) (O : Sat h0 h (own y (spC i b d) :: L)) (k : Q true h) : F_law3_spread_others (some (pt y 0)) h Q := by
  rw [F_law3_spread_others.eq_1, F_law3_spread_others_of.eq_1]
  refine jn_go ?_
  rw [F_law3_spread_others.l2.eq_1]
  refine wl_now1 fun next => ?_
  repeat (first | (with_reducible refine al_id ?_); refine O.al fun _ h O => ?_ | (with_reducible refine nn_id ?_); refine ⟨_, rfl, ?_⟩ | (with_reducible refine ld_id ?_); (first | refine O.ld 0 rfl ?_); (repeat (first | (with_reducible refine ldL_n ?_) | refine ldL_s ?_ | refine ldL_c ?_)) | (with_reducible refine st_ad (by first | (with_reducible rfl) | (simp only [pt_add, Nat.zero_add, Nat.add_zero, Nat.reduceAdd]; with_reducible rfl)) ?_); (first | refine O.st 0 rfl (by simp) rfl fun h O => ?_); (dsimp only [V.put, List.set, List.length_cons, List.length_nil] at O) | (with_reducible refine ca_id ?_); (first | refine O.ca 0 1 rfl ?_ | refine O.ca 0 2 rfl ?_))
  refine brr_ff (by simp [hd]) ?_
  refine jn_go ?_
  rw [F_law3_spread_others.l4.eq_1]
  refine wl_now1 fun next => ?_
  repeat (first | (with_reducible refine al_id ?_); refine O.al fun _ h O => ?_ | (with_reducible refine nn_id ?_); refine ⟨_, rfl, ?_⟩ | (with_reducible refine ld_id ?_); (first | refine O.ld 0 rfl ?_); (repeat (first | (with_reducible refine ldL_n ?_) | refine ldL_s ?_ | refine ldL_c ?_)) | (with_reducible refine st_ad (by first | (with_reducible rfl) | (simp only [pt_add, Nat.zero_add, Nat.add_zero, Nat.reduceAdd]; with_reducible rfl)) ?_); (first | refine O.st 0 rfl (by simp) rfl fun h O => ?_); (dsimp only [V.put, List.set, List.length_cons, List.length_nil] at O) | (with_reducible refine ca_id ?_); (first | refine O.ca 0 1 rfl ?_ | refine O.ca 0 2 rfl ?_))
  refine brr_ff (by decide) ?_
  refine jn_go ?_
  rw [F_law3_spread_others.l6.eq_1]
  refine wl_now1 fun next => ?_
  repeat (first | (with_reducible refine al_id ?_); refine O.al fun _ h O => ?_ | (with_reducible refine nn_id ?_); refine ⟨_, rfl, ?_⟩ | (with_reducible refine ld_id ?_); (first | refine O.ld 0 rfl ?_); (repeat (first | (with_reducible refine ldL_n ?_) | refine ldL_s ?_ | refine ldL_c ?_)) | (with_reducible refine st_ad (by first | (with_reducible rfl) | (simp only [pt_add, Nat.zero_add, Nat.add_zero, Nat.reduceAdd]; with_reducible rfl)) ?_); (first | refine O.st 0 rfl (by simp) rfl fun h O => ?_); (dsimp only [V.put, List.set, List.length_cons, List.length_nil] at O) | (with_reducible refine ca_id ?_); (first | refine O.ca 0 1 rfl ?_ | refine O.ca 0 2 rfl ?_))
  refine brr_ff (by decide) ?_
  refine jn_go ?_
  rw [F_law3_spread_others.l8.eq_1]
  refine wl_now1 fun next => ?_
  repeat (first | (with_reducible refine al_id ?_); refine O.al fun _ h O => ?_ | (with_reducible refine nn_id ?_); refine ⟨_, rfl, ?_⟩ | (with_reducible refine ld_id ?_); (first | refine O.ld 0 rfl ?_); (repeat (first | (with_reducible refine ldL_n ?_) | refine ldL_s ?_ | refine ldL_c ?_)) | (with_reducible refine st_ad (by first | (with_reducible rfl) | (simp only [pt_add, Nat.zero_add, Nat.add_zero, Nat.reduceAdd]; with_reducible rfl)) ?_); (first | refine O.st 0 rfl (by simp) rfl fun h O => ?_); (dsimp only [V.put, List.set, List.length_cons, List.length_nil] at O) | (with_reducible refine ca_id ?_); (first | refine O.ca 0 1 rfl ?_ | refine O.ca 0 2 rfl ?_))
  refine brr_ff (by decide) ?_
  exact k
theorem F_law3_spread_rest.is {y z : Nat} {i b d : Sl} {Q : Heap → Prop} (hd : d.len = 0) (O : Sat h0 h (own y (spC i b d) :: L)) (k : Q h) : F_law3_spread_rest (some (pt y 0)) (some (pt z 0)) h Q := by
  rw [F_law3_spread_rest.eq_1, F_law3_spread_rest_of.eq_1]
  refine jn_go ?_
  rw [F_law3_spread_rest.l2.eq_1]
  refine wl_now1 fun next => ?_
  repeat (first | (with_reducible refine al_id ?_); refine O.al fun _ h O => ?_ | (with_reducible refine nn_id ?_); refine ⟨_, rfl, ?_⟩ | (with_reducible refine ld_id ?_); (first | refine O.ld 0 rfl ?_); (repeat (first | (with_reducible refine ldL_n ?_) | refine ldL_s ?_ | refine ldL_c ?_)) | (with_reducible refine st_ad (by first | (with_reducible rfl) | (simp only [pt_add, Nat.zero_add, Nat.add_zero, Nat.reduceAdd]; with_reducible rfl)) ?_); (first | refine O.st 0 rfl (by simp) rfl fun h O => ?_); (dsimp only [V.put, List.set, List.length_cons, List.length_nil] at O) | (with_reducible refine ca_id ?_); (first | refine O.ca 0 1 rfl ?_ | refine O.ca 0 2 rfl ?_))
  refine brr_ff (by simp [hd]) ?_
  refine jn_go ?_
  rw [F_law3_spread_rest.l4.eq_1]
  refine wl_now1 fun next => ?_
  repeat (first | (with_reducible refine al_id ?_); refine O.al fun _ h O => ?_ | (with_reducible refine nn_id ?_); refine ⟨_, rfl, ?_⟩ | (with_reducible refine ld_id ?_); (first | refine O.ld 0 rfl ?_); (repeat (first | (with_reducible refine ldL_n ?_) | refine ldL_s ?_ | refine ldL_c ?_)) | (with_reducible refine st_ad (by first | (with_reducible rfl) | (simp only [pt_add, Nat.zero_add, Nat.add_zero, Nat.reduceAdd]; with_reducible rfl)) ?_); (first | refine O.st 0 rfl (by simp) rfl fun h O => ?_); (dsimp only [V.put, List.set, List.length_cons, List.length_nil] at O) | (with_reducible refine ca_id ?_); (first | refine O.ca 0 1 rfl ?_ | refine O.ca 0 2 rfl ?_))
  refine brr_ff (by decide) ?_
  refine jn_go ?_
  rw [F_law3_spread_rest.l6.eq_1]
  refine wl_now1 fun next => ?_
  repeat (first | (with_reducible refine al_id ?_); refine O.al fun _ h O => ?_ | (with_reducible refine nn_id ?_); refine ⟨_, rfl, ?_⟩ | (with_reducible refine ld_id ?_); (first | refine O.ld 0 rfl ?_); (repeat (first | (with_reducible refine ldL_n ?_) | refine ldL_s ?_ | refine ldL_c ?_)) | (with_reducible refine st_ad (by first | (with_reducible rfl) | (simp only [pt_add, Nat.zero_add, Nat.add_zero, Nat.reduceAdd]; with_reducible rfl)) ?_); (first | refine O.st 0 rfl (by simp) rfl fun h O => ?_); (dsimp only [V.put, List.set, List.length_cons, List.length_nil] at O) | (with_reducible refine ca_id ?_); (first | refine O.ca 0 1 rfl ?_ | refine O.ca 0 2 rfl ?_))
  refine brr_ff (by decide) ?_
  refine jn_go ?_
  rw [F_law3_spread_rest.l8.eq_1]
  refine wl_now1 fun next => ?_
  repeat (first | (with_reducible refine al_id ?_); refine O.al fun _ h O => ?_ | (with_reducible refine nn_id ?_); refine ⟨_, rfl, ?_⟩ | (with_reducible refine ld_id ?_); (first | refine O.ld 0 rfl ?_); (repeat (first | (with_reducible refine ldL_n ?_) | refine ldL_s ?_ | refine ldL_c ?_)) | (with_reducible refine st_ad (by first | (with_reducible rfl) | (simp only [pt_add, Nat.zero_add, Nat.add_zero, Nat.reduceAdd]; with_reducible rfl)) ?_); (first | refine O.st 0 rfl (by simp) rfl fun h O => ?_); (dsimp only [V.put, List.set, List.length_cons, List.length_nil] at O) | (with_reducible refine ca_id ?_); (first | refine O.ca 0 1 rfl ?_ | refine O.ca 0 2 rfl ?_))
  refine brr_ff (by decide) ?_
  exact k
theorem F_law3_spread_marked.is {y : Nat} {i b d : Sl} {gs : List Sl} {fs : List BE} {Q : Bool → Heap → Prop} (hi : i.len = 0) (hd : d.len = 0) (hg : gs.length ≤ 1000000) (hb : ∀ g ∈ gs, g.len ≤ 1099511627776) (hs : ∀ e ∈ idx gs 0, e ∈ fs) (O : Sat h0 h (own y (spC i b d) :: buf 1 slc b gs :: famR fs :: L)) (k : Q true h) : F_law3_spread_marked (some (pt y 0)) h Q := by
  rw [F_law3_spread_marked.eq_1, F_law3_spread_marked_of.eq_1]
  refine jn_go ?_
  rw [F_law3_spread_marked.l2.eq_1]
  refine wl_now1 fun next => ?_
  repeat (first | (with_reducible refine al_id ?_); refine O.al fun _ h O => ?_ | (with_reducible refine nn_id ?_); refine ⟨_, rfl, ?_⟩ | (with_reducible refine ld_id ?_); (first | refine O.ld 0 rfl ?_); (repeat (first | (with_reducible refine ldL_n ?_) | refine ldL_s ?_ | refine ldL_c ?_)) | (with_reducible refine st_ad (by first | (with_reducible rfl) | (simp only [pt_add, Nat.zero_add, Nat.add_zero, Nat.reduceAdd]; with_reducible rfl)) ?_); (first | refine O.st 0 rfl (by simp) rfl fun h O => ?_); (dsimp only [V.put, List.set, List.length_cons, List.length_nil] at O) | (with_reducible refine ca_id ?_); (first | refine O.ca 0 1 rfl ?_ | refine O.ca 0 2 rfl ?_))
  refine brr_ff (by simp [hi]) ?_
  refine jn0 (fun h' => h' = h) ?_ ?_
  · rintro h rfl
    refine jn_go ?_
    rw [F_law3_spread_marked.l6.eq_1]
    refine wl_now1 fun next => ?_
    repeat (first | (with_reducible refine al_id ?_); refine O.al fun _ h O => ?_ | (with_reducible refine nn_id ?_); refine ⟨_, rfl, ?_⟩ | (with_reducible refine ld_id ?_); (first | refine O.ld 0 rfl ?_); (repeat (first | (with_reducible refine ldL_n ?_) | refine ldL_s ?_ | refine ldL_c ?_)) | (with_reducible refine st_ad (by first | (with_reducible rfl) | (simp only [pt_add, Nat.zero_add, Nat.add_zero, Nat.reduceAdd]; with_reducible rfl)) ?_); (first | refine O.st 0 rfl (by simp) rfl fun h O => ?_); (dsimp only [V.put, List.set, List.length_cons, List.length_nil] at O) | (with_reducible refine ca_id ?_); (first | refine O.ca 0 1 rfl ?_ | refine O.ca 0 2 rfl ?_))
    refine brr_ff (by decide) ?_
    refine jn_go ?_
    rw [F_law3_spread_marked.l8.eq_1]
    refine wl_now1 fun next => ?_
    repeat (first | (with_reducible refine al_id ?_); refine O.al fun _ h O => ?_ | (with_reducible refine nn_id ?_); refine ⟨_, rfl, ?_⟩ | (with_reducible refine ld_id ?_); (first | refine O.ld 0 rfl ?_); (repeat (first | (with_reducible refine ldL_n ?_) | refine ldL_s ?_ | refine ldL_c ?_)) | (with_reducible refine st_ad (by first | (with_reducible rfl) | (simp only [pt_add, Nat.zero_add, Nat.add_zero, Nat.reduceAdd]; with_reducible rfl)) ?_); (first | refine O.st 0 rfl (by simp) rfl fun h O => ?_); (dsimp only [V.put, List.set, List.length_cons, List.length_nil] at O) | (with_reducible refine ca_id ?_); (first | refine O.ca 0 1 rfl ?_ | refine O.ca 0 2 rfl ?_))
    refine brr_ff (by decide) ?_
    refine F_law3_spread_others.is hd O ?_
    exact k
  intro j hj
  rw [F_law3_spread_marked.l4.eq_1]
  have v0 := (O.view 1 slc_len (by simp) rfl).1
  refine wl1 (k := .int .i64) (fun (m : Nat) (i' : Int) (h' : Heap) => 0 ≤ i' ∧ i' + m = gs.length ∧ h' = h) ?_ (m := gs.length) ⟨by omega, by omega, rfl⟩
  rintro m (i' : Int) h next hn ⟨hi0, him, rfl⟩
  repeat (first | (with_reducible refine al_id ?_); refine O.al fun _ h O => ?_ | (with_reducible refine nn_id ?_); refine ⟨_, rfl, ?_⟩ | (with_reducible refine ld_id ?_); (first | refine O.ld 0 rfl ?_); (repeat (first | (with_reducible refine ldL_n ?_) | refine ldL_s ?_ | refine ldL_c ?_)) | (with_reducible refine st_ad (by first | (with_reducible rfl) | (simp only [pt_add, Nat.zero_add, Nat.add_zero, Nat.reduceAdd]; with_reducible rfl)) ?_); (first | refine O.st 0 rfl (by simp) rfl fun h O => ?_); (dsimp only [V.put, List.set, List.length_cons, List.length_nil] at O) | (with_reducible refine ca_id ?_); (first | refine O.ca 0 1 rfl ?_ | refine O.ca 0 2 rfl ?_))
  rw [show (Sl.mk b.ptr b.len b.cap).len = gs.length from v0.len]
  refine brr_p (fun hlt => ?_) (fun hlt => hj _ rfl)
  obtain ⟨iN, rfl⟩ := Int.eq_ofNat_of_zero_le hi0
  have hlt : (iN : Int) < (gs.length : Int) := hlt
  obtain ⟨g, hge⟩ : ∃ g, gs[((iN : Nat) : Int).toNat]? = some g := ⟨_, List.getElem?_eq_getElem (by omega)⟩
  have hgl := hb g (List.mem_of_getElem? hge)
  have hmem : (g, iN) ∈ fs := by
    have := idx_mem (i := 0) hge
    rw [Int.toNat_natCast, Nat.zero_add] at this
    exact hs _ this
  have ve : Bytes h g (marksB iN g.len) := fam_view O 2 (by simp) rfl hmem
  refine jn_go ?_
  refine jn_go ?_
  rw [F_law3_spread_marked.l3.eq_1]
  refine wl1 (k := .int .i64) (fun (m' : Nat) (k' : Int) (h' : Heap) => 0 ≤ k' ∧ k' + m' = g.len ∧ h' = h) ?_ (m := g.len) ⟨by omega, by omega, rfl⟩
  rintro m' (k' : Int) h next' hn' ⟨hk0, hkm, rfl⟩
  repeat (first | (with_reducible refine al_id ?_); refine O.al fun _ h O => ?_ | (with_reducible refine nn_id ?_); refine ⟨_, rfl, ?_⟩ | (with_reducible refine ld_id ?_); (first | refine O.ld 0 rfl ?_); (repeat (first | (with_reducible refine ldL_n ?_) | refine ldL_s ?_ | refine ldL_c ?_)) | (with_reducible refine st_ad (by first | (with_reducible rfl) | (simp only [pt_add, Nat.zero_add, Nat.add_zero, Nat.reduceAdd]; with_reducible rfl)) ?_); (first | refine O.st 0 rfl (by simp) rfl fun h O => ?_); (dsimp only [V.put, List.set, List.length_cons, List.length_nil] at O) | (with_reducible refine ca_id ?_); (first | refine O.ca 0 1 rfl ?_ | refine O.ca 0 2 rfl ?_))
  refine v0.getP hi0 hge fun a hca => ?_
  refine ld_are (hca v0) (ldL_c (k := .sl) (x := g) (ldL_n ?_))
  refine brr_p (fun hlt' => ?_) (fun hlt' => ?_)
  · repeat (first | (with_reducible refine al_id ?_); refine O.al fun _ h O => ?_ | (with_reducible refine nn_id ?_); refine ⟨_, rfl, ?_⟩ | (with_reducible refine ld_id ?_); (first | refine O.ld 0 rfl ?_); (repeat (first | (with_reducible refine ldL_n ?_) | refine ldL_s ?_ | refine ldL_c ?_)) | (with_reducible refine st_ad (by first | (with_reducible rfl) | (simp only [pt_add, Nat.zero_add, Nat.add_zero, Nat.reduceAdd]; with_reducible rfl)) ?_); (first | refine O.st 0 rfl (by simp) rfl fun h O => ?_); (dsimp only [V.put, List.set, List.length_cons, List.length_nil] at O) | (with_reducible refine ca_id ?_); (first | refine O.ca 0 1 rfl ?_ | refine O.ca 0 2 rfl ?_))
    refine v0.getP hi0 hge fun a hca => ?_
    refine ld_are (hca v0) (ldL_c (k := .sl) (x := g) (ldL_n ?_))
    have hlt2 : k' < (g.len : Int) := hlt'
    refine ve.getP (x := atB iN k'.toNat) hk0 (marksB_at (by omega)) fun b2 hcb => ?_
    refine ld_are (hcb ve) (ldL_c (k := .int .u8) (x := ((atB iN k'.toNat).toNat : Int)) (ldL_n ?_))
    obtain ⟨kN, rfl⟩ := Int.eq_ofNat_of_zero_le hk0
    refine F_law3_sign.is (by omega) ?_
    refine ⟨O.cells 0 rfl 1 1, hca v0, hcb ve, ?_⟩
    refine brr_ne (fun e => absurd rfl e) (fun _ => ?_)
    rw [wrap64 (by omega) (by omega)]
    exact hn' (m' - 1) _ _ (by omega) ⟨by omega, by omega, rfl⟩
  · rw [wrap64 (by omega) (by omega)]
    exact hn (m - 1) _ _ (by omega) ⟨by omega, by omega, rfl⟩
theorem many_cons {α : Type} {f : α → Res} {x : α} {xs : List α} (O : Sat h0 h (many f (x :: xs) :: L)) : Sat h0 h (f x :: many f xs :: L) := by
  have O : Sat h0 h (sep (f x) (many f xs) :: L) := O
  exact O.sep
theorem F_law3_spread_mark.is {y : Nat} {i b d : Sl} {es : List SE} {Q : Heap → Prop} (hi : i.len = 0) (hd : d.len = 0) (hg : es.length ≤ 1000000) (hb : ∀ e ∈ es, e.2.1.length ≤ 4194304) (O : Sat h0 h (own y (spC i b d) :: buf 1 slc b (es.map (·.1)) :: many bufE es :: L)) (k : ∀ h', Sat h0 h' (own y (spC i b d) :: buf 1 slc b (es.map (·.1)) :: famR (idx (es.map (·.1)) 0) :: L) → Q h') : F_law3_spread_mark (some (pt y 0)) h Q := by
  rw [F_law3_spread_mark.eq_1, F_law3_spread_mark_of.eq_1]
  refine jn_go ?_
  rw [F_law3_spread_mark.l2.eq_1]
  refine wl_now1 fun next => ?_
  repeat (first | (with_reducible refine al_id ?_); refine O.al fun _ h O => ?_ | (with_reducible refine nn_id ?_); refine ⟨_, rfl, ?_⟩ | (with_reducible refine ld_id ?_); (first | refine O.ld 0 rfl ?_); (repeat (first | (with_reducible refine ldL_n ?_) | refine ldL_s ?_ | refine ldL_c ?_)) | (with_reducible refine st_ad (by first | (with_reducible rfl) | (simp only [pt_add, Nat.zero_add, Nat.add_zero, Nat.reduceAdd]; with_reducible rfl)) ?_); (first | refine O.st 0 rfl (by simp) rfl fun h O => ?_); (dsimp only [V.put, List.set, List.length_cons, List.length_nil] at O) | (with_reducible refine ca_id ?_); (first | refine O.ca 0 1 rfl ?_ | refine O.ca 0 2 rfl ?_))
  refine brr_ff (by simp [hi]) ?_
  refine jn0 (fun h' => Sat h0 h' (own y (spC i b d) :: buf 1 slc b (es.map (·.1)) :: famR (idx (es.map (·.1)) 0) :: L)) ?_ ?_
  · clear O
    intro h O
    refine jn_go ?_
    rw [F_law3_spread_mark.l6.eq_1]
    refine wl_now1 fun next => ?_
    repeat (first | (with_reducible refine al_id ?_); refine O.al fun _ h O => ?_ | (with_reducible refine nn_id ?_); refine ⟨_, rfl, ?_⟩ | (with_reducible refine ld_id ?_); (first | refine O.ld 0 rfl ?_); (repeat (first | (with_reducible refine ldL_n ?_) | refine ldL_s ?_ | refine ldL_c ?_)) | (with_reducible refine st_ad (by first | (with_reducible rfl) | (simp only [pt_add, Nat.zero_add, Nat.add_zero, Nat.reduceAdd]; with_reducible rfl)) ?_); (first | refine O.st 0 rfl (by simp) rfl fun h O => ?_); (dsimp only [V.put, List.set, List.length_cons, List.length_nil] at O) | (with_reducible refine ca_id ?_); (first | refine O.ca 0 1 rfl ?_ | refine O.ca 0 2 rfl ?_))
    refine brr_ff (by decide) ?_
    refine jn_go ?_
    rw [F_law3_spread_mark.l8.eq_1]
    refine wl_now1 fun next => ?_
    repeat (first | (with_reducible refine al_id ?_); refine O.al fun _ h O => ?_ | (with_reducible refine nn_id ?_); refine ⟨_, rfl, ?_⟩ | (with_reducible refine ld_id ?_); (first | refine O.ld 0 rfl ?_); (repeat (first | (with_reducible refine ldL_n ?_) | refine ldL_s ?_ | refine ldL_c ?_)) | (with_reducible refine st_ad (by first | (with_reducible rfl) | (simp only [pt_add, Nat.zero_add, Nat.add_zero, Nat.reduceAdd]; with_reducible rfl)) ?_); (first | refine O.st 0 rfl (by simp) rfl fun h O => ?_); (dsimp only [V.put, List.set, List.length_cons, List.length_nil] at O) | (with_reducible refine ca_id ?_); (first | refine O.ca 0 1 rfl ?_ | refine O.ca 0 2 rfl ?_))
    refine brr_ff (by decide) ?_
    refine jn_go ?_
    rw [F_law3_spread_mark.l10.eq_1]
    refine wl_now1 fun next => ?_
    repeat (first | (with_reducible refine al_id ?_); refine O.al fun _ h O => ?_ | (with_reducible refine nn_id ?_); refine ⟨_, rfl, ?_⟩ | (with_reducible refine ld_id ?_); (first | refine O.ld 0 rfl ?_); (repeat (first | (with_reducible refine ldL_n ?_) | refine ldL_s ?_ | refine ldL_c ?_)) | (with_reducible refine st_ad (by first | (with_reducible rfl) | (simp only [pt_add, Nat.zero_add, Nat.add_zero, Nat.reduceAdd]; with_reducible rfl)) ?_); (first | refine O.st 0 rfl (by simp) rfl fun h O => ?_); (dsimp only [V.put, List.set, List.length_cons, List.length_nil] at O) | (with_reducible refine ca_id ?_); (first | refine O.ca 0 1 rfl ?_ | refine O.ca 0 2 rfl ?_))
    refine brr_ff (by simp [hd]) ?_
    refine jn_go ?_
    rw [F_law3_spread_mark.l12.eq_1]
    refine wl_now1 fun next => ?_
    repeat (first | (with_reducible refine al_id ?_); refine O.al fun _ h O => ?_ | (with_reducible refine nn_id ?_); refine ⟨_, rfl, ?_⟩ | (with_reducible refine ld_id ?_); (first | refine O.ld 0 rfl ?_); (repeat (first | (with_reducible refine ldL_n ?_) | refine ldL_s ?_ | refine ldL_c ?_)) | (with_reducible refine st_ad (by first | (with_reducible rfl) | (simp only [pt_add, Nat.zero_add, Nat.add_zero, Nat.reduceAdd]; with_reducible rfl)) ?_); (first | refine O.st 0 rfl (by simp) rfl fun h O => ?_); (dsimp only [V.put, List.set, List.length_cons, List.length_nil] at O) | (with_reducible refine ca_id ?_); (first | refine O.ca 0 1 rfl ?_ | refine O.ca 0 2 rfl ?_))
    refine brr_ff (by decide) ?_
    refine jn_go ?_
    rw [F_law3_spread_mark.l14.eq_1]
    refine wl_now1 fun next => ?_
    repeat (first | (with_reducible refine al_id ?_); refine O.al fun _ h O => ?_ | (with_reducible refine nn_id ?_); refine ⟨_, rfl, ?_⟩ | (with_reducible refine ld_id ?_); (first | refine O.ld 0 rfl ?_); (repeat (first | (with_reducible refine ldL_n ?_) | refine ldL_s ?_ | refine ldL_c ?_)) | (with_reducible refine st_ad (by first | (with_reducible rfl) | (simp only [pt_add, Nat.zero_add, Nat.add_zero, Nat.reduceAdd]; with_reducible rfl)) ?_); (first | refine O.st 0 rfl (by simp) rfl fun h O => ?_); (dsimp only [V.put, List.set, List.length_cons, List.length_nil] at O) | (with_reducible refine ca_id ?_); (first | refine O.ca 0 1 rfl ?_ | refine O.ca 0 2 rfl ?_))
    refine brr_ff (by decide) ?_
    refine jn_go ?_
    rw [F_law3_spread_mark.l16.eq_1]
    refine wl_now1 fun next => ?_
    repeat (first | (with_reducible refine al_id ?_); refine O.al fun _ h O => ?_ | (with_reducible refine nn_id ?_); refine ⟨_, rfl, ?_⟩ | (with_reducible refine ld_id ?_); (first | refine O.ld 0 rfl ?_); (repeat (first | (with_reducible refine ldL_n ?_) | refine ldL_s ?_ | refine ldL_c ?_)) | (with_reducible refine st_ad (by first | (with_reducible rfl) | (simp only [pt_add, Nat.zero_add, Nat.add_zero, Nat.reduceAdd]; with_reducible rfl)) ?_); (first | refine O.st 0 rfl (by simp) rfl fun h O => ?_); (dsimp only [V.put, List.set, List.length_cons, List.length_nil] at O) | (with_reducible refine ca_id ?_); (first | refine O.ca 0 1 rfl ?_ | refine O.ca 0 2 rfl ?_))
    refine brr_ff (by decide) ?_
    exact k _ O
  intro j hj
  rw [F_law3_spread_mark.l4.eq_1]
  have O : Sat h0 h (own y (spC i b d) :: buf 1 slc b (es.map (·.1)) :: many bufE (es.drop 0) :: famR (idx ((es.map (·.1)).take 0) 0) :: L) := (famR.none O).sel [1, 2, 3, 0] 4 rfl (Nat.le_add_left _ _)
  refine wl1 (k := .int .i64) (fun (m : Nat) (i' : Int) (h' : Heap) => 0 ≤ i' ∧ i' + m = es.length ∧ Sat h0 h' (own y (spC i b d) :: buf 1 slc b (es.map (·.1)) :: many bufE (es.drop i'.toNat) :: famR (idx ((es.map (·.1)).take i'.toNat) 0) :: L)) ?_ (m := es.length) ⟨by omega, by omega, O⟩
  clear O
  rintro m (i' : Int) h next hn ⟨hi0, him, O⟩
  obtain ⟨iN, rfl⟩ := Int.eq_ofNat_of_zero_le hi0
  rw [Int.toNat_natCast] at O
  have v0 := (O.view 1 slc_len (by simp) rfl).1
  have hvl := v0.len
  rw [List.length_map] at hvl
  repeat (first | (with_reducible refine al_id ?_); refine O.al fun _ h O => ?_ | (with_reducible refine nn_id ?_); refine ⟨_, rfl, ?_⟩ | (with_reducible refine ld_id ?_); (first | refine O.ld 0 rfl ?_); (repeat (first | (with_reducible refine ldL_n ?_) | refine ldL_s ?_ | refine ldL_c ?_)) | (with_reducible refine st_ad (by first | (with_reducible rfl) | (simp only [pt_add, Nat.zero_add, Nat.add_zero, Nat.reduceAdd]; with_reducible rfl)) ?_); (first | refine O.st 0 rfl (by simp) rfl fun h O => ?_); (dsimp only [V.put, List.set, List.length_cons, List.length_nil] at O) | (with_reducible refine ca_id ?_); (first | refine O.ca 0 1 rfl ?_ | refine O.ca 0 2 rfl ?_))
  rw [show (Sl.mk b.ptr b.len b.cap).len = es.length from hvl]
  refine brr_p (fun hlt => ?_) (fun hlt => ?_)
  case refine_2 =>
    have hlt : ¬ (iN : Int) < (es.length : Int) := hlt
    refine hj _ ?_
    rw [List.take_of_length_le (by rw [List.length_map]; omega)] at O
    exact O.sel [0, 1, 3] 4 rfl (Nat.le_add_left _ _)
  have hlt : (iN : Int) < (es.length : Int) := hlt
  obtain ⟨e, he⟩ : ∃ e, es[iN]? = some e := ⟨_, List.getElem?_eq_getElem (by omega)⟩
  have hbe := hb e (List.mem_of_getElem? he)
  have hq : (es.map (·.1))[((iN : Nat) : Int).toNat]? = some e.1 := by rw [Int.toNat_natCast, List.getElem?_map, he]; rfl
  have hdr : es.drop iN = e :: es.drop (iN + 1) := by
    rw [List.drop_eq_getElem_cons (by omega)]
    congr 1
    exact (List.getElem?_eq_some_iff.1 he).2
  rw [hdr] at O
  have O := many_cons (O.sel [2, 0, 1, 3] 4 rfl (Nat.le_add_left _ _))
  have O : Sat h0 h (buf 1 u8 e.1 e.2.1 :: many bufE (es.drop (iN + 1)) :: own y (spC i b d) :: buf 1 slc b (es.map (·.1)) :: famR (idx ((es.map (·.1)).take iN) 0) :: L) := O
  have hel := (O.view 0 u8_len (by simp) rfl).1.len
  have hel2 : e.1.len ≤ 4194304 := by omega
  refine jn_go ?_
  refine jn0 (fun h' => Sat h0 h' (buf 1 u8 e.1 (marksB iN e.1.len) :: many bufE (es.drop (iN + 1)) :: own y (spC i b d) :: buf 1 slc b (es.map (·.1)) :: famR (idx ((es.map (·.1)).take iN) 0) :: L)) ?_ ?_
  · clear O
    intro h O
    have O := fam_take (O.sel [0, 4, 1, 2, 3] 5 rfl (Nat.le_add_left _ _))
    rw [wrap64 (by omega) (by omega)]
    refine hn (m - 1) _ _ (by omega) ⟨by omega, by omega, ?_⟩
    rw [show ((iN : Int) + 1).toNat = iN + 1 by omega]
    have et : (es.map (·.1)).take (iN + 1) = (es.map (·.1)).take iN ++ [e.1] := by
      rw [List.take_add_one]
      rw [Int.toNat_natCast] at hq
      rw [hq]
      rfl
    rw [et, idx_app, List.length_take, Nat.zero_add, show min iN (es.map (·.1)).length = iN by rw [List.length_map]; omega]
    exact O.sel [2, 3, 1, 0] 4 rfl (Nat.le_add_left _ _)
  intro j2 hj2
  clear hn hj
  rw [F_law3_spread_mark.l3.eq_1]
  refine wl1 (k := .int .i64) (fun (m' : Nat) (k' : Int) (h' : Heap) => 0 ≤ k' ∧ k' + m' = e.1.len ∧ ∃ zs : List UInt8, zs.length = e.1.len ∧ (∀ t, t < k'.toNat → zs[t]? = some (atB iN t)) ∧ Sat h0 h' (buf 1 u8 e.1 zs :: many bufE (es.drop (iN + 1)) :: own y (spC i b d) :: buf 1 slc b (es.map (·.1)) :: famR (idx ((es.map (·.1)).take iN) 0) :: L)) ?_ (m := e.1.len) ⟨by omega, by omega, e.2.1, hel.symm, fun t ht => absurd ht (by simp), O⟩
  clear O v0 hel
  rintro m' (k' : Int) h next' hn' ⟨hk0, hkm, zs, hzl, hza, O⟩
  obtain ⟨kN, rfl⟩ := Int.eq_ofNat_of_zero_le hk0
  rw [Int.toNat_natCast] at hza
  have v0 := (O.view 3 slc_len (by simp) rfl).1
  repeat (first | (with_reducible refine al_id ?_); refine O.al fun _ h O => ?_ | (with_reducible refine nn_id ?_); refine ⟨_, rfl, ?_⟩ | (with_reducible refine ld_id ?_); (first | refine O.ld 0 rfl ?_ | refine O.ld 1 rfl ?_ | refine O.ld 2 rfl ?_); (repeat (first | (with_reducible refine ldL_n ?_) | refine ldL_s ?_ | refine ldL_c ?_)) | (with_reducible refine st_ad (by first | (with_reducible rfl) | (simp only [pt_add, Nat.zero_add, Nat.add_zero, Nat.reduceAdd]; with_reducible rfl)) ?_); (first | refine O.st 0 rfl (by simp) rfl fun h O => ?_ | refine O.st 1 rfl (by simp) rfl fun h O => ?_ | refine O.st 2 rfl (by simp) rfl fun h O => ?_); (dsimp only [V.put, List.set, List.length_cons, List.length_nil] at O) | (with_reducible refine ca_id ?_); (first | refine O.ca 0 1 rfl ?_ | refine O.ca 0 2 rfl ?_ | refine O.ca 1 1 rfl ?_ | refine O.ca 1 2 rfl ?_ | refine O.ca 2 1 rfl ?_ | refine O.ca 2 2 rfl ?_))
  refine v0.getP hi0 hq fun a hca => ?_
  refine ld_are (hca v0) (ldL_c (k := .sl) (x := e.1) (ldL_n ?_))
  refine brr_p (fun hlt' => ?_) (fun hlt' => ?_)
  · have hlt2 : (kN : Int) < (e.1.len : Int) := hlt'
    repeat (first | (with_reducible refine al_id ?_); refine O.al fun _ h O => ?_ | (with_reducible refine nn_id ?_); refine ⟨_, rfl, ?_⟩ | (with_reducible refine ld_id ?_); (first | refine O.ld 0 rfl ?_ | refine O.ld 1 rfl ?_ | refine O.ld 2 rfl ?_); (repeat (first | (with_reducible refine ldL_n ?_) | refine ldL_s ?_ | refine ldL_c ?_)) | (with_reducible refine st_ad (by first | (with_reducible rfl) | (simp only [pt_add, Nat.zero_add, Nat.add_zero, Nat.reduceAdd]; with_reducible rfl)) ?_); (first | refine O.st 0 rfl (by simp) rfl fun h O => ?_ | refine O.st 1 rfl (by simp) rfl fun h O => ?_ | refine O.st 2 rfl (by simp) rfl fun h O => ?_); (dsimp only [V.put, List.set, List.length_cons, List.length_nil] at O) | (with_reducible refine ca_id ?_); (first | refine O.ca 0 1 rfl ?_ | refine O.ca 0 2 rfl ?_ | refine O.ca 1 1 rfl ?_ | refine O.ca 1 2 rfl ?_ | refine O.ca 2 1 rfl ?_ | refine O.ca 2 2 rfl ?_))
    refine v0.getP hi0 hq fun a hca => ?_
    refine ld_are (hca v0) (ldL_c (k := .sl) (x := e.1) (ldL_n ?_))
    refine F_law3_sign.is (by omega) ?_
    refine ⟨O.cells 2 rfl 1 1, hca v0, ?_⟩
    refine O.put1 u8_len u8_one hk0 (by omega) (atB iN kN) rfl fun h O => ?_
    rw [wrap64 (by omega) (by omega)]
    refine hn' (m' - 1) _ _ (by omega) ⟨by omega, by omega, zs.set kN (atB iN kN), by rw [List.length_set]; exact hzl, fun t ht => ?_, by rw [Int.toNat_natCast] at O; exact O⟩
    rw [show ((kN : Int) + 1).toNat = kN + 1 by omega] at ht
    rw [List.getElem?_set]
    by_cases htk : kN = t
    · subst htk; rw [if_pos rfl, if_pos (by omega)]
    · rw [if_neg htk]; exact hza t (by omega)
  · have hlt2 : ¬ (kN : Int) < (e.1.len : Int) := hlt'
    have ez : zs = marksB iN e.1.len := by
      apply List.ext_getElem?
      intro t
      by_cases ht : t < e.1.len
      · rw [hza t (by omega), marksB_at ht]
      · rw [List.getElem?_eq_none (by omega), List.getElem?_eq_none (by rw [marksB_len]; omega)]
    rw [ez] at O
    exact hj2 _ O
end
end Go.Proofs.Ytcbelendjpnmiaa.V
/- The Shelf over lists of bytes: each list is its caller's own. -/
namespace Go.Proofs.Ytcbelendjpnmiaa.V
open Go Go.RowKit
set_option linter.unusedVariables false
set_option linter.unusedSimpArgs false
section
variable {h0 h : Heap} {L : List Res}
theorem F_law3_spread_grown.is {y : Nat} {i b d : Sl} {gs : List Sl} {Q : Option Addr → Heap → Prop} (hi : i.len = 0) (hd : d.len = 0) (hg : gs.length ≤ 1000000) (hb : ∀ g ∈ gs, g.len ≤ 4194304) (O : Sat h0 h (own y (spC i b d) :: buf 1 slc b gs :: famR (idx gs 0) :: L))
    (k : ∀ z zb (hs : List Sl) h', hs.length = gs.length → (∀ g ∈ hs, g.len ≤ 4194400) → Sat h0 h' (own y (spC i b d) :: buf 1 slc b gs :: own z (spC ⟨none, 0, 0⟩ zb ⟨none, 0, 0⟩) :: buf 1 slc zb hs :: famR (idx gs 0 ++ idx hs 0) :: L) → Q (some (pt z 0)) h') : F_law3_spread_grown (some (pt y 0)) h Q := by
  rw [F_law3_spread_grown.eq_1, F_law3_spread_grown_of.eq_1]
  refine O.al fun z h O => ?_
  replace O := O.sel [1, 0, 2, 3] 4 rfl (Nat.le_add_left _ _)
  simp only [selT, List.map, nth, List.drop, List.cons_append, List.nil_append] at O
  refine jn_go ?_
  rw [F_law3_spread_grown.l2.eq_1]
  refine wl_now1 fun next => ?_
  repeat (first | (with_reducible refine al_id ?_); refine O.al fun _ h O => ?_ | (with_reducible refine nn_id ?_); refine ⟨_, rfl, ?_⟩ | (with_reducible refine ld_id ?_); (first | refine O.ld 0 rfl ?_); (repeat (first | (with_reducible refine ldL_n ?_) | refine ldL_s ?_ | refine ldL_c ?_)) | (with_reducible refine st_ad (by first | (with_reducible rfl) | (simp only [pt_add, Nat.zero_add, Nat.add_zero, Nat.reduceAdd]; with_reducible rfl)) ?_); (first | refine O.st 0 rfl (by simp) rfl fun h O => ?_); (dsimp only [V.put, List.set, List.length_cons, List.length_nil] at O) | (with_reducible refine ca_id ?_); (first | refine O.ca 0 1 rfl ?_ | refine O.ca 0 2 rfl ?_))
  refine brr_ff (by simp [hi]) ?_
  refine jn0 (fun h' => ∃ (zb : Sl) (hs : List Sl), hs.length = gs.length ∧ (∀ g ∈ hs, g.len ≤ 4194400) ∧ Sat h0 h' (own y (spC i b d) :: buf 1 slc b gs :: own z (spC ⟨none, 0, 0⟩ zb ⟨none, 0, 0⟩) :: buf 1 slc zb hs :: famR (idx gs 0 ++ idx hs 0) :: L)) ?_ ?_
  · clear O
    rintro h ⟨zb, hs, hl, hbs, O⟩
    refine jn_go ?_
    rw [F_law3_spread_grown.l6.eq_1]
    refine wl_now1 fun next => ?_
    repeat (first | (with_reducible refine al_id ?_); refine O.al fun _ h O => ?_ | (with_reducible refine nn_id ?_); refine ⟨_, rfl, ?_⟩ | (with_reducible refine ld_id ?_); (first | refine O.ld 0 rfl ?_); (repeat (first | (with_reducible refine ldL_n ?_) | refine ldL_s ?_ | refine ldL_c ?_)) | (with_reducible refine st_ad (by first | (with_reducible rfl) | (simp only [pt_add, Nat.zero_add, Nat.add_zero, Nat.reduceAdd]; with_reducible rfl)) ?_); (first | refine O.st 0 rfl (by simp) rfl fun h O => ?_); (dsimp only [V.put, List.set, List.length_cons, List.length_nil] at O) | (with_reducible refine ca_id ?_); (first | refine O.ca 0 1 rfl ?_ | refine O.ca 0 2 rfl ?_))
    refine brr_ff (by decide) ?_
    refine jn_go ?_
    rw [F_law3_spread_grown.l8.eq_1]
    refine wl_now1 fun next => ?_
    repeat (first | (with_reducible refine al_id ?_); refine O.al fun _ h O => ?_ | (with_reducible refine nn_id ?_); refine ⟨_, rfl, ?_⟩ | (with_reducible refine ld_id ?_); (first | refine O.ld 0 rfl ?_); (repeat (first | (with_reducible refine ldL_n ?_) | refine ldL_s ?_ | refine ldL_c ?_)) | (with_reducible refine st_ad (by first | (with_reducible rfl) | (simp only [pt_add, Nat.zero_add, Nat.add_zero, Nat.reduceAdd]; with_reducible rfl)) ?_); (first | refine O.st 0 rfl (by simp) rfl fun h O => ?_); (dsimp only [V.put, List.set, List.length_cons, List.length_nil] at O) | (with_reducible refine ca_id ?_); (first | refine O.ca 0 1 rfl ?_ | refine O.ca 0 2 rfl ?_))
    refine brr_ff (by decide) ?_
    refine F_law3_spread_rest.is hd O ?_
    exact k z zb hs h hl hbs O
  intro j hj
  rw [F_law3_spread_grown.l4.eq_1]
  have O : Sat h0 h (own y (spC i b d) :: buf 1 slc b gs :: own z (spC ⟨none, 0, 0⟩ ⟨none, 0, 0⟩ ⟨none, 0, 0⟩) :: buf 1 slc ⟨none, 0, 0⟩ [] :: famR (idx gs 0 ++ idx [] 0) :: L) := by
    have O := (O.nil_buf (sz := 1) (enc := slc)).sel [1, 3, 2, 0, 4] 5 rfl (Nat.le_add_left _ _)
    rw [show idx [] 0 = [] from rfl, List.append_nil]
    exact O
  refine wl1 (k := .int .i64) (fun (m : Nat) (i' : Int) (h' : Heap) => 0 ≤ i' ∧ i' + m = gs.length ∧ ∃ (zb : Sl) (hs : List Sl), (hs.length : Int) = i' ∧ (∀ g ∈ hs, g.len ≤ 4194400) ∧ Sat h0 h' (own y (spC i b d) :: buf 1 slc b gs :: own z (spC ⟨none, 0, 0⟩ zb ⟨none, 0, 0⟩) :: buf 1 slc zb hs :: famR (idx gs 0 ++ idx hs 0) :: L)) ?_ (m := gs.length) ⟨by omega, by omega, _, [], rfl, by simp, O⟩
  clear O
  rintro m (i' : Int) h next hn ⟨hi0, him, zb, hs, hhl, hbs, O⟩
  have v0 := (O.view 1 slc_len (by simp) rfl).1
  have hvl := v0.len
  repeat (first | (with_reducible refine al_id ?_); refine O.al fun _ h O => ?_ | (with_reducible refine nn_id ?_); refine ⟨_, rfl, ?_⟩ | (with_reducible refine ld_id ?_); (first | refine O.ld 0 rfl ?_); (repeat (first | (with_reducible refine ldL_n ?_) | refine ldL_s ?_ | refine ldL_c ?_)) | (with_reducible refine st_ad (by first | (with_reducible rfl) | (simp only [pt_add, Nat.zero_add, Nat.add_zero, Nat.reduceAdd]; with_reducible rfl)) ?_); (first | refine O.st 0 rfl (by simp) rfl fun h O => ?_); (dsimp only [V.put, List.set, List.length_cons, List.length_nil] at O) | (with_reducible refine ca_id ?_); (first | refine O.ca 0 1 rfl ?_ | refine O.ca 0 2 rfl ?_))
  rw [show (Sl.mk b.ptr b.len b.cap).len = gs.length from hvl]
  refine brr_p (fun hlt => ?_) (fun hlt => ?_)
  case refine_2 =>
    have hlt : ¬ i' < (gs.length : Int) := hlt
    exact hj _ ⟨zb, hs, by omega, hbs, O⟩
  have hlt : i' < (gs.length : Int) := hlt
  obtain ⟨iN, rfl⟩ := Int.eq_ofNat_of_zero_le hi0
  have hhl : hs.length = iN := by omega
  obtain ⟨g, hge⟩ : ∃ g, gs[((iN : Nat) : Int).toNat]? = some g := ⟨_, List.getElem?_eq_getElem (by omega)⟩
  have hgl := hb g (List.mem_of_getElem? hge)
  refine jn_go ?_
  repeat (first | (with_reducible refine al_id ?_); refine O.al fun _ h O => ?_ | (with_reducible refine nn_id ?_); refine ⟨_, rfl, ?_⟩ | (with_reducible refine ld_id ?_); (first | refine O.ld 0 rfl ?_); (repeat (first | (with_reducible refine ldL_n ?_) | refine ldL_s ?_ | refine ldL_c ?_)) | (with_reducible refine st_ad (by first | (with_reducible rfl) | (simp only [pt_add, Nat.zero_add, Nat.add_zero, Nat.reduceAdd]; with_reducible rfl)) ?_); (first | refine O.st 0 rfl (by simp) rfl fun h O => ?_); (dsimp only [V.put, List.set, List.length_cons, List.length_nil] at O) | (with_reducible refine ca_id ?_); (first | refine O.ca 0 1 rfl ?_ | refine O.ca 0 2 rfl ?_))
  refine v0.getP hi0 hge fun a hca => ?_
  refine ld_are (hca v0) (ldL_c (k := .sl) (x := g) (ldL_n ?_))
  have hmem : (g, iN) ∈ idx gs 0 := by
    have := idx_mem (i := 0) hge
    rwa [Int.toNat_natCast, Nat.zero_add] at this
  refine jn1 (fun (s : Sl) h' => s.len = g.len + 96 ∧ Sat h0 h' (own y (spC i b d) :: buf 1 slc b gs :: own z (spC ⟨none, 0, 0⟩ zb ⟨none, 0, 0⟩) :: buf 1 slc zb hs :: famR (idx gs 0 ++ idx hs 0 ++ [(s, iN)]) :: L)) ?_ ?_
  · clear O v0 hvl
    rintro (s : Sl) h ⟨hsl, O⟩
    repeat (first | (with_reducible refine al_id ?_); refine O.al fun _ h O => ?_ | (with_reducible refine nn_id ?_); refine ⟨_, rfl, ?_⟩ | (with_reducible refine ld_id ?_); (first | refine O.ld 0 rfl ?_ | refine O.ld 1 rfl ?_ | refine O.ld 2 rfl ?_); (repeat (first | (with_reducible refine ldL_n ?_) | refine ldL_s ?_ | refine ldL_c ?_)) | (with_reducible refine st_ad (by first | (with_reducible rfl) | (simp only [pt_add, Nat.zero_add, Nat.add_zero, Nat.reduceAdd]; with_reducible rfl)) ?_); (first | refine O.st 0 rfl (by simp) rfl fun h O => ?_ | refine O.st 1 rfl (by simp) rfl fun h O => ?_ | refine O.st 2 rfl (by simp) rfl fun h O => ?_); (dsimp only [V.put, List.set, List.length_cons, List.length_nil] at O) | (with_reducible refine ca_id ?_); (first | refine O.ca 0 1 rfl ?_ | refine O.ca 0 2 rfl ?_ | refine O.ca 1 1 rfl ?_ | refine O.ca 1 2 rfl ?_ | refine O.ca 2 1 rfl ?_ | refine O.ca 2 2 rfl ?_))
    have O2 : Sat h0 h (buf 1 slc zb hs :: own _ [.slice s.ptr s.len s.cap] :: own y (spC i b d) :: buf 1 slc b gs :: own z (spC ⟨none, 0, 0⟩ zb ⟨none, 0, 0⟩) :: famR (idx gs 0 ++ idx hs 0 ++ [(s, iN)]) :: L) := O.sel [4, 0, 1, 2, 3, 5] 6 rfl (Nat.le_add_left _ _)
    refine Sat.app_buf O2 slc_len slc_one rfl (ys := [s]) rfl (rdP_own O2 1 rfl 1 (Nat.le_refl _)) (by simp; omega) fun zb2 h O _ => ?_
    repeat (first | (with_reducible refine al_id ?_); refine O.al fun _ h O => ?_ | (with_reducible refine nn_id ?_); refine ⟨_, rfl, ?_⟩ | (with_reducible refine ld_id ?_); (first | refine O.ld 0 rfl ?_ | refine O.ld 1 rfl ?_ | refine O.ld 2 rfl ?_ | refine O.ld 3 rfl ?_ | refine O.ld 4 rfl ?_); (repeat (first | (with_reducible refine ldL_n ?_) | refine ldL_s ?_ | refine ldL_c ?_)) | (with_reducible refine st_ad (by first | (with_reducible rfl) | (simp only [pt_add, Nat.zero_add, Nat.add_zero, Nat.reduceAdd]; with_reducible rfl)) ?_); (first | refine O.st 0 rfl (by simp) rfl fun h O => ?_ | refine O.st 1 rfl (by simp) rfl fun h O => ?_ | refine O.st 2 rfl (by simp) rfl fun h O => ?_ | refine O.st 3 rfl (by simp) rfl fun h O => ?_ | refine O.st 4 rfl (by simp) rfl fun h O => ?_); (dsimp only [V.put, List.set, List.length_cons, List.length_nil] at O) | (with_reducible refine ca_id ?_); (first | refine O.ca 0 1 rfl ?_ | refine O.ca 0 2 rfl ?_ | refine O.ca 1 1 rfl ?_ | refine O.ca 1 2 rfl ?_ | refine O.ca 2 1 rfl ?_ | refine O.ca 2 2 rfl ?_ | refine O.ca 3 1 rfl ?_ | refine O.ca 3 2 rfl ?_ | refine O.ca 4 1 rfl ?_ | refine O.ca 4 2 rfl ?_))
    rw [wrap64 (by omega) (by omega)]
    refine hn (m - 1) _ _ (by omega) ⟨by omega, by omega, zb2, hs ++ [s], by rw [List.length_append, List.length_singleton]; omega, fun x hx => ?_, ?_⟩
    · rcases List.mem_append.1 hx with hx | hx
      · exact hbs x hx
      · rw [List.mem_singleton.1 hx]; omega
    · rw [idx_app, Nat.zero_add, hhl, ← List.append_assoc]
      exact O.sel [2, 3, 4, 0, 5] 6 rfl (Nat.le_add_left _ _)
  · intro j2 hj2
    clear hn hj
    rw [F_law3_spread_grown.l3.eq_1]
    have O : Sat h0 h (own y (spC i b d) :: buf 1 slc b gs :: own z (spC ⟨none, 0, 0⟩ zb ⟨none, 0, 0⟩) :: buf 1 slc zb hs :: famR (idx gs 0 ++ idx hs 0 ++ [(g, iN)]) :: L) := by
      have O3 := famR.sub (fs := idx gs 0 ++ idx hs 0 ++ [(g, iN)]) (O.sel [4, 0, 1, 2, 3] 5 rfl (Nat.le_add_left _ _)) (fun e hx => by
        rcases List.mem_append.1 hx with hx | hx
        · exact hx
        · rw [List.mem_singleton.1 hx]; exact List.mem_append.2 (.inl hmem))
      exact O3.sel [1, 2, 3, 4, 0] 5 rfl (Nat.le_add_left _ _)
    refine wl2 (k := .sl) (l := .int .i64) (fun (M : Nat) (g' : Sl) (kk : Int) (h' : Heap) => kk + M = 96 ∧ 0 ≤ kk ∧ (g'.len : Int) = g.len + kk ∧ Sat h0 h' (own y (spC i b d) :: buf 1 slc b gs :: own z (spC ⟨none, 0, 0⟩ zb ⟨none, 0, 0⟩) :: buf 1 slc zb hs :: famR (idx gs 0 ++ idx hs 0 ++ [(g', iN)]) :: L)) ?_ (m := 96) ⟨by omega, by omega, by omega, O⟩
    clear O v0 hvl
    rintro M (g' : Sl) (kk : Int) h next' hn' ⟨hkM, hk0, hgl', O⟩
    refine brr_p (fun hlt2 => ?_) (fun hlt2 => ?_)
    · have hlt2 : kk < 96 := hlt2
      refine F_law3_sign.is (by omega) ?_
      refine O.al fun a h O => ?_
      replace O := O.sel [0, 5, 1, 2, 3, 4] 6 rfl (Nat.le_add_left _ _)
      simp only [selT, List.map, nth, List.drop, List.cons_append, List.nil_append] at O
      refine fam_app (by omega) O fun g2 h hg2 O => ?_
      rw [wrap64 (by omega) (by omega)]
      exact hn' (M - 1) _ _ _ (by omega) ⟨by omega, by omega, by omega, O.sel [1, 2, 3, 4, 0] 5 rfl (Nat.le_add_left _ _)⟩
    · have hlt2 : ¬ kk < 96 := hlt2
      exact hj2 _ _ ⟨by omega, O⟩
theorem F_law3_Shelf_Given.is {x T : Nat} {Q : Bool → Heap → Prop} (O : Sat h0 h (shR x T :: L)) (k : ∀ h', Sat h0 h' L → Q true h') : F_law3_Shelf_Given (some (pt x 0)) h Q := by
  rw [F_law3_Shelf_Given.eq_1, F_law3_Shelf_Given_of.eq_1]
  obtain ⟨sh, ok, O⟩ := O.sh
  have hn := ok.n
  have hlen : ∀ g ∈ sh.es.map (·.1), g.len ≤ 4194304 := by
    intro g hg
    obtain ⟨e, he, rfl⟩ := List.mem_map.1 hg
    obtain ⟨i, hi⟩ := List.getElem?_of_mem he
    have V1 : Bytes h e.1 e.2.1 := (((O.sel [3, 0, 1, 2, 4] 5 rfl (Nat.le_add_left _ _)).take _ hi).view 0 (α := UInt8) (enc := u8) u8_len (by simp) rfl).1
    have := V1.len
    have := ok.b e he
    omega
  refine F_law3_Shelf_Same.is ok O ?_
  refine brr_ff rfl ?_
  refine O.al fun y h O => ?_
  have O := (O.nil_buf (sz := 1) (enc := slc))
  repeat (first | (with_reducible refine al_id ?_); refine O.al fun _ h O => ?_ | (with_reducible refine nn_id ?_); refine ⟨_, rfl, ?_⟩ | (with_reducible refine ld_id ?_); (first | refine O.ld 0 rfl ?_ | refine O.ld 1 rfl ?_ | refine O.ld 2 rfl ?_); (repeat (first | (with_reducible refine ldL_n ?_) | refine ldL_s ?_ | refine ldL_c ?_)) | (with_reducible refine st_ad (by first | (with_reducible rfl) | (simp only [pt_add, Nat.zero_add, Nat.add_zero, Nat.reduceAdd]; with_reducible rfl)) ?_); (first | refine O.st 0 rfl (by simp) rfl fun h O => ?_ | refine O.st 1 rfl (by simp) rfl fun h O => ?_ | refine O.st 2 rfl (by simp) rfl fun h O => ?_); (dsimp only [V.put, List.set, List.length_cons, List.length_nil] at O) | (with_reducible refine ca_id ?_); (first | refine O.ca 0 1 rfl ?_ | refine O.ca 0 2 rfl ?_ | refine O.ca 1 1 rfl ?_ | refine O.ca 1 2 rfl ?_ | refine O.ca 2 1 rfl ?_ | refine O.ca 2 2 rfl ?_))
  refine Sat.app_buf O slc_len slc_one rfl (ys := []) rfl rfl (by simp) fun s10 h O hs10 => ?_
  repeat (first | (with_reducible refine al_id ?_); refine O.al fun _ h O => ?_ | (with_reducible refine nn_id ?_); refine ⟨_, rfl, ?_⟩ | (with_reducible refine ld_id ?_); (first | refine O.ld 0 rfl ?_ | refine O.ld 1 rfl ?_ | refine O.ld 2 rfl ?_); (repeat (first | (with_reducible refine ldL_n ?_) | refine ldL_s ?_ | refine ldL_c ?_)) | (with_reducible refine st_ad (by first | (with_reducible rfl) | (simp only [pt_add, Nat.zero_add, Nat.add_zero, Nat.reduceAdd]; with_reducible rfl)) ?_); (first | refine O.st 0 rfl (by simp) rfl fun h O => ?_ | refine O.st 1 rfl (by simp) rfl fun h O => ?_ | refine O.st 2 rfl (by simp) rfl fun h O => ?_); (dsimp only [V.put, List.set, List.length_cons, List.length_nil] at O) | (with_reducible refine ca_id ?_); (first | refine O.ca 0 1 rfl ?_ | refine O.ca 0 2 rfl ?_ | refine O.ca 1 1 rfl ?_ | refine O.ca 1 2 rfl ?_ | refine O.ca 2 1 rfl ?_ | refine O.ca 2 2 rfl ?_))
  have O := (O.nil_buf (sz := 1) (enc := slc))
  repeat (first | (with_reducible refine al_id ?_); refine O.al fun _ h O => ?_ | (with_reducible refine nn_id ?_); refine ⟨_, rfl, ?_⟩ | (with_reducible refine ld_id ?_); (first | refine O.ld 0 rfl ?_ | refine O.ld 1 rfl ?_ | refine O.ld 2 rfl ?_ | refine O.ld 3 rfl ?_); (repeat (first | (with_reducible refine ldL_n ?_) | refine ldL_s ?_ | refine ldL_c ?_)) | (with_reducible refine st_ad (by first | (with_reducible rfl) | (simp only [pt_add, Nat.zero_add, Nat.add_zero, Nat.reduceAdd]; with_reducible rfl)) ?_); (first | refine O.st 0 rfl (by simp) rfl fun h O => ?_ | refine O.st 1 rfl (by simp) rfl fun h O => ?_ | refine O.st 2 rfl (by simp) rfl fun h O => ?_ | refine O.st 3 rfl (by simp) rfl fun h O => ?_); (dsimp only [V.put, List.set, List.length_cons, List.length_nil] at O) | (with_reducible refine ca_id ?_); (first | refine O.ca 0 1 rfl ?_ | refine O.ca 0 2 rfl ?_ | refine O.ca 1 1 rfl ?_ | refine O.ca 1 2 rfl ?_ | refine O.ca 2 1 rfl ?_ | refine O.ca 2 2 rfl ?_ | refine O.ca 3 1 rfl ?_ | refine O.ca 3 2 rfl ?_))
  have v1 := (O.view 4 slc_len (by simp) rfl).1
  refine Sat.app_buf O slc_len slc_one rfl (ys := sh.es.map (·.1)) v1.len (v1.rd slc_len) (by simp; omega) fun s18 h O hs18 => ?_
  repeat (first | (with_reducible refine al_id ?_); refine O.al fun _ h O => ?_ | (with_reducible refine nn_id ?_); refine ⟨_, rfl, ?_⟩ | (with_reducible refine ld_id ?_); (first | refine O.ld 0 rfl ?_ | refine O.ld 1 rfl ?_ | refine O.ld 2 rfl ?_ | refine O.ld 3 rfl ?_); (repeat (first | (with_reducible refine ldL_n ?_) | refine ldL_s ?_ | refine ldL_c ?_)) | (with_reducible refine st_ad (by first | (with_reducible rfl) | (simp only [pt_add, Nat.zero_add, Nat.add_zero, Nat.reduceAdd]; with_reducible rfl)) ?_); (first | refine O.st 0 rfl (by simp) rfl fun h O => ?_ | refine O.st 1 rfl (by simp) rfl fun h O => ?_ | refine O.st 2 rfl (by simp) rfl fun h O => ?_ | refine O.st 3 rfl (by simp) rfl fun h O => ?_); (dsimp only [V.put, List.set, List.length_cons, List.length_nil] at O) | (with_reducible refine ca_id ?_); (first | refine O.ca 0 1 rfl ?_ | refine O.ca 0 2 rfl ?_ | refine O.ca 1 1 rfl ?_ | refine O.ca 1 2 rfl ?_ | refine O.ca 2 1 rfl ?_ | refine O.ca 2 2 rfl ?_ | refine O.ca 3 1 rfl ?_ | refine O.ca 3 2 rfl ?_))
  have O := (O.nil_buf (sz := 1) (enc := slc))
  repeat (first | (with_reducible refine al_id ?_); refine O.al fun _ h O => ?_ | (with_reducible refine nn_id ?_); refine ⟨_, rfl, ?_⟩ | (with_reducible refine ld_id ?_); (first | refine O.ld 0 rfl ?_ | refine O.ld 1 rfl ?_ | refine O.ld 2 rfl ?_ | refine O.ld 3 rfl ?_ | refine O.ld 4 rfl ?_); (repeat (first | (with_reducible refine ldL_n ?_) | refine ldL_s ?_ | refine ldL_c ?_)) | (with_reducible refine st_ad (by first | (with_reducible rfl) | (simp only [pt_add, Nat.zero_add, Nat.add_zero, Nat.reduceAdd]; with_reducible rfl)) ?_); (first | refine O.st 0 rfl (by simp) rfl fun h O => ?_ | refine O.st 1 rfl (by simp) rfl fun h O => ?_ | refine O.st 2 rfl (by simp) rfl fun h O => ?_ | refine O.st 3 rfl (by simp) rfl fun h O => ?_ | refine O.st 4 rfl (by simp) rfl fun h O => ?_); (dsimp only [V.put, List.set, List.length_cons, List.length_nil] at O) | (with_reducible refine ca_id ?_); (first | refine O.ca 0 1 rfl ?_ | refine O.ca 0 2 rfl ?_ | refine O.ca 1 1 rfl ?_ | refine O.ca 1 2 rfl ?_ | refine O.ca 2 1 rfl ?_ | refine O.ca 2 2 rfl ?_ | refine O.ca 3 1 rfl ?_ | refine O.ca 3 2 rfl ?_ | refine O.ca 4 1 rfl ?_ | refine O.ca 4 2 rfl ?_))
  refine Sat.app_buf O slc_len slc_one rfl (ys := []) rfl rfl (by simp) fun s26 h O hs26 => ?_
  repeat (first | (with_reducible refine al_id ?_); refine O.al fun _ h O => ?_ | (with_reducible refine nn_id ?_); refine ⟨_, rfl, ?_⟩ | (with_reducible refine ld_id ?_); (first | refine O.ld 0 rfl ?_ | refine O.ld 1 rfl ?_ | refine O.ld 2 rfl ?_ | refine O.ld 3 rfl ?_ | refine O.ld 4 rfl ?_); (repeat (first | (with_reducible refine ldL_n ?_) | refine ldL_s ?_ | refine ldL_c ?_)) | (with_reducible refine st_ad (by first | (with_reducible rfl) | (simp only [pt_add, Nat.zero_add, Nat.add_zero, Nat.reduceAdd]; with_reducible rfl)) ?_); (first | refine O.st 0 rfl (by simp) rfl fun h O => ?_ | refine O.st 1 rfl (by simp) rfl fun h O => ?_ | refine O.st 2 rfl (by simp) rfl fun h O => ?_ | refine O.st 3 rfl (by simp) rfl fun h O => ?_ | refine O.st 4 rfl (by simp) rfl fun h O => ?_); (dsimp only [V.put, List.set, List.length_cons, List.length_nil] at O) | (with_reducible refine ca_id ?_); (first | refine O.ca 0 1 rfl ?_ | refine O.ca 0 2 rfl ?_ | refine O.ca 1 1 rfl ?_ | refine O.ca 1 2 rfl ?_ | refine O.ca 2 1 rfl ?_ | refine O.ca 2 2 rfl ?_ | refine O.ca 3 1 rfl ?_ | refine O.ca 3 2 rfl ?_ | refine O.ca 4 1 rfl ?_ | refine O.ca 4 2 rfl ?_))
  have hi : s10.len = 0 := hs10
  have hd : s26.len = 0 := hs26
  -- buf s26, buf s18, buf s10, y, x, buf s1, buf s2, many, pool
  have O : Sat h0 h (own x (shC sh.size sh.s1 sh.s2) :: own y (spC s10 s18 s26) :: buf 1 slc s18 (sh.es.map (·.1)) :: many bufE sh.es :: L) := by
    have O := O.sel [4, 3, 1, 7] 9 rfl (Nat.le_add_left _ _)
    exact O
  refine jn_go ?_
  rw [F_law3_Shelf_Given.l2.eq_1]
  refine wl_now1 fun next => ?_
  repeat (first | (with_reducible refine al_id ?_); refine O.al fun _ h O => ?_ | (with_reducible refine nn_id ?_); refine ⟨_, rfl, ?_⟩ | (with_reducible refine ld_id ?_); (first | refine O.ld 0 rfl ?_); (repeat (first | (with_reducible refine ldL_n ?_) | refine ldL_s ?_ | refine ldL_c ?_)) | (with_reducible refine st_ad (by first | (with_reducible rfl) | (simp only [pt_add, Nat.zero_add, Nat.add_zero, Nat.reduceAdd]; with_reducible rfl)) ?_); (first | refine O.st 0 rfl (by simp) rfl fun h O => ?_); (dsimp only [V.put, List.set, List.length_cons, List.length_nil] at O) | (with_reducible refine ca_id ?_); (first | refine O.ca 0 1 rfl ?_ | refine O.ca 0 2 rfl ?_))
  refine brr_ff (by decide) ?_
  refine jn_go ?_
  rw [F_law3_Shelf_Given.l3.eq_1]
  refine wl_now1 fun next => ?_
  repeat (first | (with_reducible refine al_id ?_); refine O.al fun _ h O => ?_ | (with_reducible refine nn_id ?_); refine ⟨_, rfl, ?_⟩ | (with_reducible refine ld_id ?_); (first | refine O.ld 0 rfl ?_); (repeat (first | (with_reducible refine ldL_n ?_) | refine ldL_s ?_ | refine ldL_c ?_)) | (with_reducible refine st_ad (by first | (with_reducible rfl) | (simp only [pt_add, Nat.zero_add, Nat.add_zero, Nat.reduceAdd]; with_reducible rfl)) ?_); (first | refine O.st 0 rfl (by simp) rfl fun h O => ?_); (dsimp only [V.put, List.set, List.length_cons, List.length_nil] at O) | (with_reducible refine ca_id ?_); (first | refine O.ca 0 1 rfl ?_ | refine O.ca 0 2 rfl ?_))
  refine brr_ff (by decide) ?_
  refine F_law3_spread_mark.is hi hd (by omega) ok.b (O.sel [1, 2, 3] 4 rfl (Nat.le_add_left _ _)) fun h O => ?_
  have hbl : ∀ g ∈ sh.es.map (·.1), g.len ≤ 4194304 := hlen
  refine F_law3_spread_grown.is hi hd (by rw [List.length_map]; omega) hbl O fun z zb hs h hhl hbs O => ?_
  refine jn1 (fun r h' => r = true ∧ h' = h) (fun r h' ⟨e, e2⟩ => by subst e; subst e2; exact k _ (O.sel [] 5 rfl (Nat.le_add_left _ _))) fun j hj => ?_
  refine F_law3_spread_marked.is hi hd (by rw [List.length_map]; omega) (fun g hg => by have := hbl g hg; omega) (fs := idx (sh.es.map (·.1)) 0 ++ idx hs 0) (fun e he => List.mem_append.2 (.inl he)) (O.sel [0, 1, 4] 5 rfl (Nat.le_add_left _ _)) ?_
  refine brr_tt rfl ?_
  refine F_law3_spread_marked.is rfl rfl (by rw [hhl, List.length_map]; omega) (fun g hg => by have := hbs g hg; omega) (fs := idx (sh.es.map (·.1)) 0 ++ idx hs 0) (fun e he => List.mem_append.2 (.inr he)) (O.sel [2, 3, 4] 5 rfl (Nat.le_add_left _ _)) ?_
  exact hj _ _ ⟨rfl, rfl⟩
end
end Go.Proofs.Ytcbelendjpnmiaa.V
namespace Go.Proofs.Ytcbelendjpnmiaa.V
open Go Go.RowKit
set_option linter.unusedVariables false
set_option maxRecDepth 100000
def F_law3_Place_Bytes_of  (x1 : Option Addr) (b2 : Sl) (h : Heap) (Q : Sl → Heap → Prop) : Prop :=
  nn x1 fun (a3 : Addr) =>
  ld [.sl] (a3.add 0) h fun (v4 : Sl) =>
  slTo v4 0 fun (s5 : Sl) =>
  app 5 1 1 (.int .u8 0) s5 b2.ptr b2.len h fun (s6 : Sl) (h7 : Heap) =>
  nn x1 fun (a8 : Addr) =>
  st (a8.add 0) [.slice s6.ptr s6.len s6.cap] h7 fun (h9 : Heap) =>
  nn x1 fun (a10 : Addr) =>
  ld [.sl] (a10.add 0) h9 fun (v11 : Sl) =>
  Q v11 h9
def F_law3_Place_Bytes (x1 : Option Addr) (b2 : Sl) (h : Heap) (Q : Sl → Heap → Prop) : Prop := F_law3_Place_Bytes_of  x1 b2 h Q
def plan37 : Plan := .s (.r [0, 1]) (.s (.r [0]) (.s (.r [4]) .z))
theorem F_law3_Place_Bytes.eq  (x1 : Option Addr) (b2 : Sl) (h : Heap) (K : Value → Heap → Prop) : F_law3_Place_Bytes_of  x1 b2 h (fun (r0 : Sl) (h : Heap) => K (.slice r0.ptr r0.len r0.cap) h) =
    den Try.prog noFns Try.f37.ntmps plan37 (bodyOf Try.f37) (args0 0 [(.pointer x1 : Value), (.slice b2.ptr b2.len b2.cap : Value)]) h ⟨fun env h => dRes Try.prog Try.f37.results.toList env h K, fun _ _ _ => False, fun env h => dRes Try.prog Try.f37.results.toList env h K⟩ := by kernel_rfl
def E_law3_Place_Bytes_of (f : Option Addr → Sl → Heap → (Sl → Heap → Prop) → Prop) : List Value → Heap → (Value → Heap → Prop) → Prop
  | [v0, v1], h, K => dec1 .ptr v0 fun (x1 : Option Addr) =>
  dec1 .sl v1 fun (b2 : Sl) =>
  f x1 b2 h (fun (r0 : Sl) (h : Heap) => K (.slice r0.ptr r0.len r0.cap) h)
  | _, _, _ => False
abbrev E_law3_Place_Bytes := E_law3_Place_Bytes_of F_law3_Place_Bytes
theorem E_law3_Place_Bytes.right : IsRight Try.prog 37 E_law3_Place_Bytes := by
  refine isRight fun vs K w hh => ?_
  match vs, hh with
  | [v0, v1], hh =>
    unfold E_law3_Place_Bytes E_law3_Place_Bytes_of at hh
    replace hh := dec1_sound hh; obtain ⟨x1, rfl, hh⟩ := hh
    replace hh := dec1_sound hh; obtain ⟨b2, rfl, hh⟩ := hh
    unfold F_law3_Place_Bytes at hh
    exact calls_den noFns_right plan37 _ w K Try.func37 (by kernel_rfl) (by kernel_rfl) (Eq.mp (F_law3_Place_Bytes.eq  x1 b2 w.heap K) hh)
theorem ok37 : okFn Try.prog 37 = true := by kernel_rfl
end Go.Proofs.Ytcbelendjpnmiaa.V
/- A Place: bytes that always lie where the last ones lay. -/
namespace Go.Proofs.Ytcbelendjpnmiaa.V
open Go Go.RowKit
set_option linter.unusedVariables false
set_option linter.unusedSimpArgs false
def plR (b : Nat) : Res := ex fun y : Sl × List UInt8 => sep (own b [.slice y.1.ptr y.1.len y.1.cap]) (buf 1 u8 y.1 y.2)
section
variable {h0 h : Heap} {L : List Res}
theorem Sat.pl {b : Nat} (O : Sat h0 h (plR b :: L)) : ∃ (s : Sl) (zs : List UInt8), Sat h0 h (own b [.slice s.ptr s.len s.cap] :: buf 1 u8 s zs :: L) := by
  obtain ⟨y, O⟩ := O.ex
  exact ⟨y.1, y.2, O.sep⟩
theorem Sat.plI {b : Nat} {s : Sl} {zs : List UInt8} (O : Sat h0 h (own b [.slice s.ptr s.len s.cap] :: buf 1 u8 s zs :: L)) : Sat h0 h (plR b :: L) := Sat.exI (s, zs) O.sepI
theorem pl_new {b : Nat} (O : Sat h0 h (own b [.slice none 0 0] :: L)) : Sat h0 h (plR b :: L) := Sat.plI (s := ⟨none, 0, 0⟩) (zs := []) (O.nil_buf (sz := 1) (enc := u8)).swap
/-- A list of one's own, cut to nothing. -/
theorem buf_cut {s : Sl} {zs : List UInt8} (O : Sat h0 h (buf 1 u8 s zs :: L)) : Sat h0 h (buf 1 u8 ⟨s.ptr, 0, s.cap⟩ [] :: L) := by
  refine O.mono fun E h => ?_
  obtain ⟨sp, h⟩ := h
  rcases h with ⟨rfl, rfl, rfl, rfl⟩ | ⟨b, k, rfl, hs, rfl⟩
  · exact ⟨[], .inl ⟨rfl, rfl, rfl, rfl⟩⟩
  · refine ⟨zs.flatMap u8 ++ sp, .inr ⟨b, zs.length + k, by simp, ?_, by simp⟩⟩
    rw [List.length_append, hs, flat_u8]
    omega
theorem F_law3_Place_Bytes.is {b : Nat} {v : Sl} {xs : List UInt8} {Q : Sl → Heap → Prop} (V1 : Stays h0 L fun h => Bytes h v xs) (hx : xs.length ≤ (140737488355325 : Nat)) (O : Sat h0 h (plR b :: L)) (k : ∀ s h', Sat h0 h' (own b [.slice s.ptr s.len s.cap] :: buf 1 u8 s xs :: L) → Q s h') : F_law3_Place_Bytes (some (pt b 0)) v h Q := by
  rw [F_law3_Place_Bytes.eq_1, F_law3_Place_Bytes_of.eq_1]
  obtain ⟨s, zs, O⟩ := O.pl
  repeat (first | (with_reducible refine al_id ?_); refine O.al fun _ h O => ?_ | (with_reducible refine nn_id ?_); refine ⟨_, rfl, ?_⟩ | (with_reducible refine ld_id ?_); (first | refine O.ld 0 rfl ?_); (repeat (first | (with_reducible refine ldL_n ?_) | refine ldL_s ?_ | refine ldL_c ?_)) | (with_reducible refine st_ad (by first | (with_reducible rfl) | (simp only [pt_add, Nat.zero_add, Nat.add_zero, Nat.reduceAdd]; with_reducible rfl)) ?_); (first | refine O.st 0 rfl (by simp) rfl fun h O => ?_); (dsimp only [V.put, List.set, List.length_cons, List.length_nil] at O) | (with_reducible refine ca_id ?_); (first | refine O.ca 0 1 rfl ?_ | refine O.ca 0 2 rfl ?_))
  refine ⟨Int.le_refl _, by show (0 : Int) ≤ (s.cap : Int); omega, ?_⟩
  have O := buf_cut O.swap
  have V2 := V1 h O.drop.drop
  refine Sat.app_buf O u8_len u8_one rfl (ys := xs) V2.len (V2.rd u8_len) (by simp; omega) fun s' h O _ => ?_
  repeat (first | (with_reducible refine al_id ?_); refine O.al fun _ h O => ?_ | (with_reducible refine nn_id ?_); refine ⟨_, rfl, ?_⟩ | (with_reducible refine ld_id ?_); (first | refine O.ld 0 rfl ?_ | refine O.ld 1 rfl ?_); (repeat (first | (with_reducible refine ldL_n ?_) | refine ldL_s ?_ | refine ldL_c ?_)) | (with_reducible refine st_ad (by first | (with_reducible rfl) | (simp only [pt_add, Nat.zero_add, Nat.add_zero, Nat.reduceAdd]; with_reducible rfl)) ?_); (first | refine O.st 0 rfl (by simp) rfl fun h O => ?_ | refine O.st 1 rfl (by simp) rfl fun h O => ?_); (dsimp only [V.put, List.set, List.length_cons, List.length_nil] at O) | (with_reducible refine ca_id ?_); (first | refine O.ca 0 1 rfl ?_ | refine O.ca 0 2 rfl ?_ | refine O.ca 1 1 rfl ?_ | refine O.ca 1 2 rfl ?_))
  exact k _ _ O.swap
end
end Go.Proofs.Ytcbelendjpnmiaa.V
namespace Go.Proofs.Ytcbelendjpnmiaa.V
open Go Go.RowKit
set_option linter.unusedVariables false
set_option maxRecDepth 100000
def F_law9_held.l1 (f23_ : Option Addr → Heap → (Int → Int → Int → Sl → Heap → Prop) → Prop) (f26_ : Int → Int → Int → Sl → Int → Int → Int → Sl → Heap → (Bool → Heap → Prop) → Prop) (f39_ : Option Addr → Sl → Heap → (Heap → Prop) → Prop) (f40_ : Option Addr → Heap → (Int → Int → Int → Sl → Heap → Prop) → Prop) (Q : Bool → Heap → Prop) (a7 a18 : Addr) (r68 : Int) (j532 : Heap → Prop) : Int → Heap → Prop :=
  wl [(13, .one (.int .i64))] (fun (next533 : Int → Heap → Prop) (n534 : Int) (h535 : Heap) =>
  brr (decide (n534 < 2))
  (nn (some a7) fun (a536 : Addr) =>
  ixA 1 (a536.add 0) 2 r68 fun (a537 : Addr) =>
  ld [.ptr] a537 h535 fun (v538 : Option Addr) =>
  f23_ v538 h535 fun (r539 r540 r541 : Int) (r542 : Sl) (h543 : Heap) =>
  al 44 [.int .u64 0, .int .u64 0, .int .u64 0, .slice none 0 0] h543 fun (a544 : Addr) (h545 : Heap) =>
  st a544 [.int .u64 r539, .int .u64 r540, .int .u64 r541, .slice r542.ptr r542.len r542.cap] h545 fun (h546 : Heap) =>
  ld [.int .u64, .int .u64, .int .u64, .sl] a544 h546 fun (v547 v548 v549 : Int) (v550 : Sl) =>
  nn (some a7) fun (a551 : Addr) =>
  ixA 1 (a551.add 2) 2 r68 fun (a552 : Addr) =>
  ld [.ptr] a552 h546 fun (v553 : Option Addr) =>
  f40_ v553 h546 fun (r554 r555 r556 : Int) (r557 : Sl) (h558 : Heap) =>
  cellsAre h558 a544 [.int .u64 v547, .int .u64 v548, .int .u64 v549, .slice v550.ptr v550.len v550.cap] ∧
  f26_ v547 v548 v549 v550 r554 r555 r556 r557 h558 fun (r559 : Bool) (h560 : Heap) =>
  brr (!r559)
  (Q false h560)
  (ld [.sl] (a544.add 3) h560 fun (v561 : Sl) =>
  f39_ (some a18) v561 h560 fun  (h562 : Heap) =>
  next533 (IntKind.i64.wrap (n534 + 1)) h562))
  (j532 h535))
def F_law9_held.l2 (f9_ : Int → Int → Heap → (Int → Heap → Prop) → Prop) (f10_ : Sl → Heap → (Option Addr → Heap → Prop) → Prop) (f12_ : Int → Int → Int → Int → Int → Int → Int → Int → Int → Int → Sl → Int → Int → ByteArray → ByteArray → Int → Int → Int → Int → Int → Int → Int → Heap → (Int → Int → Int → Int → Int → Int → Int → Int → Int → Int → Sl → Int → Int → ByteArray → ByteArray → Int → Int → Int → Int → Int → Int → Int → Heap → Prop) → Prop) (f13_ : Option Addr → Int → Int → Int → Int → Int → Int → Int → Int → Int → Int → Sl → Int → Int → ByteArray → ByteArray → Int → Int → Int → Int → Int → Int → Int → Heap → (Int → Int → Int → Int → Int → Int → Int → Int → Int → Int → Sl → Int → Int → ByteArray → ByteArray → Int → Int → Int → Int → Int → Int → Int → Bool → Bool → Bool → Heap → Prop) → Prop) (f23_ : Option Addr → Heap → (Int → Int → Int → Sl → Heap → Prop) → Prop) (f26_ : Int → Int → Int → Sl → Int → Int → Int → Sl → Heap → (Bool → Heap → Prop) → Prop) (f29_ : Int → Int → Int → Int → Int → Int → Int → Int → Int → Int → Sl → Int → Int → ByteArray → ByteArray → Int → Int → Int → Int → Int → Int → Int → Int → Int → Int → Int → Int → Int → Int → Int → Int → Int → Sl → Int → Int → ByteArray → ByteArray → Int → Int → Int → Int → Int → Int → Int → Heap → (Bool → Heap → Prop) → Prop) (f34_ : Option Addr → Int → Int → Int → Int → Int → Int → Int → Int → Int → Int → Int → Int → Int → Int → Sl → Int → Int → ByteArray → ByteArray → Int → Int → Int → Int → Int → Int → Int → Int → Int → Int → Sl → Heap → (Bool → Heap → Prop) → Prop) (f37_ : Option Addr → Sl → Heap → (Sl → Heap → Prop) → Prop) (f38_ : Option Addr → Int → Int → Int → Int → Int → Int → Int → Int → Int → Int → Sl → Int → Int → ByteArray → ByteArray → Int → Int → Int → Int → Int → Int → Int → Heap → (Int → Int → Int → Int → Int → Int → Int → Int → Int → Int → Sl → Int → Int → ByteArray → ByteArray → Int → Int → Int → Int → Int → Int → Int → Bool → Bool → Bool → Heap → Prop) → Prop) (f39_ : Option Addr → Sl → Heap → (Heap → Prop) → Prop) (f40_ : Option Addr → Heap → (Int → Int → Int → Sl → Heap → Prop) → Prop) (Q : Bool → Heap → Prop) (a3 a7 a18 a20 : Addr) (j22 : Sl → Heap → Prop) : Sl → Int → Heap → Prop :=
  wl [(6, .one .sl), (7, .one (.int .i64))] (fun (next23 : Sl → Int → Heap → Prop) (others24 : Sl) (i25 : Int) (h26 : Heap) =>
  jn [(44, .one .bool)] (fun (x29 : Bool) (h30 : Heap) =>
  brr x29
  (jn [(6, .one .sl)] (fun (others575 : Sl) (h576 : Heap) =>
  next23 others575 (IntKind.i64.wrap (i25 + 1)) h576) (fun (j31 : Sl → Heap → Prop) =>
  ld [.sl] (a3.add 1) h30 fun (v32 : Sl) =>
  ixS 30 v32 i25 fun (a33 : Addr) =>
  ld [.int .i64, .int .i64, .int .i64, .int .u64, .int .i64, .int .i64, .int .i64, .int .i64, .int .u64, .int .u64, .int .u64, .int .u64, .int .i64, .int .u64, .sl, .int .i64, .int .u64, .str, .str, .int .u64, .int .u64, .int .u64, .int .i64, .int .i64, .int .i64, .int .i64, .int .u64, .int .u64, .int .u64, .sl] a33 h30 fun (v34 v35 v36 v37 v38 v39 v40 v41 v42 v43 v44 v45 v46 v47 : Int) (v48 : Sl) (v49 v50 : Int) (v51 v52 : ByteArray) (v53 v54 v55 v56 v57 v58 v59 v60 v61 v62 : Int) (v63 : Sl) =>
  al 46 [.int .i64 0, .int .i64 0, .int .i64 0, .int .u64 0, .int .i64 0, .int .i64 0, .int .i64 0, .int .i64 0, .int .u64 0, .int .u64 0, .int .u64 0, .int .u64 0, .int .i64 0, .int .u64 0, .slice none 0 0, .int .i64 0, .int .u64 0, .string (⟨#[]⟩ : ByteArray), .string (⟨#[]⟩ : ByteArray), .int .u64 0, .int .u64 0, .int .u64 0, .int .i64 0, .int .i64 0, .int .i64 0, .int .i64 0, .int .u64 0, .int .u64 0, .int .u64 0, .slice none 0 0] h30 fun (a64 : Addr) (h65 : Heap) =>
  st a64 [.int .i64 v34, .int .i64 v35, .int .i64 v36, .int .u64 v37, .int .i64 v38, .int .i64 v39, .int .i64 v40, .int .i64 v41, .int .u64 v42, .int .u64 v43, .int .u64 v44, .int .u64 v45, .int .i64 v46, .int .u64 v47, .slice v48.ptr v48.len v48.cap, .int .i64 v49, .int .u64 v50, .string v51, .string v52, .int .u64 v53, .int .u64 v54, .int .u64 v55, .int .i64 v56, .int .i64 v57, .int .i64 v58, .int .i64 v59, .int .u64 v60, .int .u64 v61, .int .u64 v62, .slice v63.ptr v63.len v63.cap] h65 fun (h66 : Heap) =>
  ld [.int .i64] (a64.add 1) h66 fun (v67 : Int) =>
  f9_ v67 2 h66 fun (r68 : Int) (h69 : Heap) =>
  ld [.int .i64] (a64.add 0) h69 fun (v70 : Int) =>
  jn [] (fun  (h531 : Heap) =>
  jn [] (fun  (h563 : Heap) =>
  (8 : Int) ≠ 0 ∧
  jn [(6, .one .sl)] (fun (others573 : Sl) (h574 : Heap) =>
  j31 others573 h574) (fun (j564 : Sl → Heap → Prop) =>
  brr ((i25.tmod 8) == 5)
  (al 5 [.int .u8 (IntKind.u8.wrap ((others24.len : Nat) : Int)), .int .u8 111] h563 fun (a565 : Addr) (h566 : Heap) =>
  f10_ ⟨(some a565), 2, 2⟩ h566 fun (r567 : Option Addr) (h568 : Heap) =>
  al 27 [.pointer r567] h568 fun (a569 : Addr) (h570 : Heap) =>
  app 27 1 8 (.pointer none) others24 (some a569) 1 h570 fun (s571 : Sl) (h572 : Heap) =>
  j564 s571 h572)
  (j564 others24 h563))) (fun (j532 : Heap → Prop) =>
  F_law9_held.l1 f23_ f26_ f39_ f40_ Q a7 a18 r68 j532 0 h531)) (fun (j71 : Heap → Prop) =>
  brr (v70 == 1)
  (ld [.int .i64, .int .i64, .int .i64, .int .i64, .int .u64, .int .u64, .int .u64, .int .u64, .int .i64, .int .u64, .sl, .int .i64, .int .u64, .str, .str, .int .u64, .int .u64, .int .u64, .int .i64, .int .i64, .int .i64, .int .i64] (a64.add 4) h69 fun (v72 v73 v74 v75 v76 v77 v78 v79 v80 v81 : Int) (v82 : Sl) (v83 v84 : Int) (v85 v86 : ByteArray) (v87 v88 v89 v90 v91 v92 v93 : Int) =>
  al 42 [.int .i64 0, .int .i64 0, .int .i64 0, .int .i64 0, .int .u64 0, .int .u64 0, .int .u64 0, .int .u64 0, .int .i64 0, .int .u64 0, .slice none 0 0, .int .i64 0, .int .u64 0, .string (⟨#[]⟩ : ByteArray), .string (⟨#[]⟩ : ByteArray), .int .u64 0, .int .u64 0, .int .u64 0, .int .i64 0, .int .i64 0, .int .i64 0, .int .i64 0] h69 fun (a94 : Addr) (h95 : Heap) =>
  st a94 [.int .i64 v72, .int .i64 v73, .int .i64 v74, .int .i64 v75, .int .u64 v76, .int .u64 v77, .int .u64 v78, .int .u64 v79, .int .i64 v80, .int .u64 v81, .slice v82.ptr v82.len v82.cap, .int .i64 v83, .int .u64 v84, .string v85, .string v86, .int .u64 v87, .int .u64 v88, .int .u64 v89, .int .i64 v90, .int .i64 v91, .int .i64 v92, .int .i64 v93] h95 fun (h96 : Heap) =>
  ld [.sl] ((a64.add 4).add 10) h96 fun (v97 : Sl) =>
  f37_ (some a20) v97 h96 fun (r98 : Sl) (h99 : Heap) =>
  st (a94.add 10) [.slice r98.ptr r98.len r98.cap] h99 fun (h100 : Heap) =>
  jn [(11, .one .addr)] (fun (h_210 : Addr) (h211 : Heap) =>
  jn [(12, .one .addr)] (fun (w444 : Addr) (h445 : Heap) =>
  jn [(96, .one .bool)] (fun (x495 : Bool) (h496 : Heap) =>
  brr x495
  (Q false h496)
  (ld [.sl] ((h_210.add 0).add 10) h496 fun (v497 : Sl) =>
  f39_ (some a18) v497 h496 fun  (h498 : Heap) =>
  j71 h498)) (fun (j446 : Bool → Heap → Prop) =>
  ld [.int .i64, .int .i64, .int .i64, .int .i64, .int .u64, .int .u64, .int .u64, .int .u64, .int .i64, .int .u64, .sl, .int .i64, .int .u64, .str, .str, .int .u64, .int .u64, .int .u64, .int .i64, .int .i64, .int .i64, .int .i64] (h_210.add 0) h445 fun (v447 v448 v449 v450 v451 v452 v453 v454 v455 v456 : Int) (v457 : Sl) (v458 v459 : Int) (v460 v461 : ByteArray) (v462 v463 v464 v465 v466 v467 v468 : Int) =>
  ld [.int .i64, .int .i64, .int .i64, .int .i64, .int .u64, .int .u64, .int .u64, .int .u64, .int .i64, .int .u64, .sl, .int .i64, .int .u64, .str, .str, .int .u64, .int .u64, .int .u64, .int .i64, .int .i64, .int .i64, .int .i64] (w444.add 0) h445 fun (v469 v470 v471 v472 v473 v474 v475 v476 v477 v478 : Int) (v479 : Sl) (v480 v481 : Int) (v482 v483 : ByteArray) (v484 v485 v486 v487 v488 v489 v490 : Int) =>
  f29_ v447 v448 v449 v450 v451 v452 v453 v454 v455 v456 v457 v458 v459 v460 v461 v462 v463 v464 v465 v466 v467 v468 v469 v470 v471 v472 v473 v474 v475 v476 v477 v478 v479 v480 v481 v482 v483 v484 v485 v486 v487 v488 v489 v490 h445 fun (r491 : Bool) (h492 : Heap) =>
  brr (!r491)
  (j446 true h492)
  (ld [.bool] (h_210.add 22) h492 fun (v493 : Bool) =>
  ld [.bool] (w444.add 22) h492 fun (v494 : Bool) =>
  j446 (!(v493 == v494)) h492))) (fun (j212 : Addr → Heap → Prop) =>
  (nn (some a7) fun (a213 : Addr) =>
  ixA 1 (a213.add 2) 2 r68 fun (a214 : Addr) =>
  ld [.ptr] a214 h211 fun (v215 : Option Addr) =>
  ld [.int .i64, .int .i64, .int .i64, .int .i64, .int .u64, .int .u64, .int .u64, .int .u64, .int .i64, .int .u64, .sl, .int .i64, .int .u64, .str, .str, .int .u64, .int .u64, .int .u64, .int .i64, .int .i64, .int .i64, .int .i64] (a64.add 4) h211 fun (v216 v217 v218 v219 v220 v221 v222 v223 v224 v225 : Int) (v226 : Sl) (v227 v228 : Int) (v229 v230 : ByteArray) (v231 v232 v233 v234 v235 v236 v237 : Int) =>
  f12_ v216 v217 v218 v219 v220 v221 v222 v223 v224 v225 v226 v227 v228 v229 v230 v231 v232 v233 v234 v235 v236 v237 h211 fun (r238 r239 r240 r241 r242 r243 r244 r245 r246 r247 : Int) (r248 : Sl) (r249 r250 : Int) (r251 r252 : ByteArray) (r253 r254 r255 r256 r257 r258 r259 : Int) (h260 : Heap) =>
  cellsAre h260 a214 [.pointer v215] ∧
  f38_ v215 r238 r239 r240 r241 r242 r243 r244 r245 r246 r247 r248 r249 r250 r251 r252 r253 r254 r255 r256 r257 r258 r259 h260 fun (r261 r262 r263 r264 r265 r266 r267 r268 r269 r270 : Int) (r271 : Sl) (r272 r273 : Int) (r274 r275 : ByteArray) (r276 r277 r278 r279 r280 r281 r282 : Int) (r283 r284 r285 : Bool) (h286 : Heap) =>
  al 115 [.int .i64 0, .int .i64 0, .int .i64 0, .int .i64 0, .int .u64 0, .int .u64 0, .int .u64 0, .int .u64 0, .int .i64 0, .int .u64 0, .slice none 0 0, .int .i64 0, .int .u64 0, .string (⟨#[]⟩ : ByteArray), .string (⟨#[]⟩ : ByteArray), .int .u64 0, .int .u64 0, .int .u64 0, .int .i64 0, .int .i64 0, .int .i64 0, .int .i64 0, .bool false, .bool false, .bool false] h286 fun (a287 : Addr) (h288 : Heap) =>
  cellsAre h288 a214 [.pointer v215] ∧
  cellsAre h288 (a64.add 4) [.int .i64 v216, .int .i64 v217, .int .i64 v218, .int .i64 v219, .int .u64 v220, .int .u64 v221, .int .u64 v222, .int .u64 v223, .int .i64 v224, .int .u64 v225, .slice v226.ptr v226.len v226.cap, .int .i64 v227, .int .u64 v228, .string v229, .string v230, .int .u64 v231, .int .u64 v232, .int .u64 v233, .int .i64 v234, .int .i64 v235, .int .i64 v236, .int .i64 v237] ∧
  st a287 [.int .i64 r261, .int .i64 r262, .int .i64 r263, .int .i64 r264, .int .u64 r265, .int .u64 r266, .int .u64 r267, .int .u64 r268, .int .i64 r269, .int .u64 r270, .slice r271.ptr r271.len r271.cap, .int .i64 r272, .int .u64 r273, .string r274, .string r275, .int .u64 r276, .int .u64 r277, .int .u64 r278, .int .i64 r279, .int .i64 r280, .int .i64 r281, .int .i64 r282, .bool r283, .bool r284, .bool r285] h288 fun (h289 : Heap) =>
  j212 a287 h289) ∧
  (nn (some a7) fun (a290 : Addr) =>
  ixA 1 (a290.add 2) 2 r68 fun (a291 : Addr) =>
  ld [.ptr] a291 h211 fun (v292 : Option Addr) =>
  ld [.int .i64, .int .i64, .int .i64, .int .i64, .int .u64, .int .u64, .int .u64, .int .u64, .int .i64, .int .u64, .sl, .int .i64, .int .u64, .str, .str, .int .u64, .int .u64, .int .u64, .int .i64, .int .i64, .int .i64, .int .i64] (a64.add 4) h211 fun (v293 v294 v295 v296 v297 v298 v299 v300 v301 v302 : Int) (v303 : Sl) (v304 v305 : Int) (v306 v307 : ByteArray) (v308 v309 v310 v311 v312 v313 v314 : Int) =>
  f12_ v293 v294 v295 v296 v297 v298 v299 v300 v301 v302 v303 v304 v305 v306 v307 v308 v309 v310 v311 v312 v313 v314 h211 fun (r315 r316 r317 r318 r319 r320 r321 r322 r323 r324 : Int) (r325 : Sl) (r326 r327 : Int) (r328 r329 : ByteArray) (r330 r331 r332 r333 r334 r335 r336 : Int) (h337 : Heap) =>
  cellsAre h337 a291 [.pointer v292] ∧
  al 115 [.int .i64 0, .int .i64 0, .int .i64 0, .int .i64 0, .int .u64 0, .int .u64 0, .int .u64 0, .int .u64 0, .int .i64 0, .int .u64 0, .slice none 0 0, .int .i64 0, .int .u64 0, .string (⟨#[]⟩ : ByteArray), .string (⟨#[]⟩ : ByteArray), .int .u64 0, .int .u64 0, .int .u64 0, .int .i64 0, .int .i64 0, .int .i64 0, .int .i64 0, .bool false, .bool false, .bool false] h337 fun (a338 : Addr) (h339 : Heap) =>
  cellsAre h339 a291 [.pointer v292] ∧
  cellsAre h339 (a64.add 4) [.int .i64 v293, .int .i64 v294, .int .i64 v295, .int .i64 v296, .int .u64 v297, .int .u64 v298, .int .u64 v299, .int .u64 v300, .int .i64 v301, .int .u64 v302, .slice v303.ptr v303.len v303.cap, .int .i64 v304, .int .u64 v305, .string v306, .string v307, .int .u64 v308, .int .u64 v309, .int .u64 v310, .int .i64 v311, .int .i64 v312, .int .i64 v313, .int .i64 v314] ∧
  f38_ v292 r315 r316 r317 r318 r319 r320 r321 r322 r323 r324 r325 r326 r327 r328 r329 r330 r331 r332 r333 r334 r335 r336 h339 fun (r340 r341 r342 r343 r344 r345 r346 r347 r348 r349 : Int) (r350 : Sl) (r351 r352 : Int) (r353 r354 : ByteArray) (r355 r356 r357 r358 r359 r360 r361 : Int) (r362 r363 r364 : Bool) (h365 : Heap) =>
  st a338 [.int .i64 r340, .int .i64 r341, .int .i64 r342, .int .i64 r343, .int .u64 r344, .int .u64 r345, .int .u64 r346, .int .u64 r347, .int .i64 r348, .int .u64 r349, .slice r350.ptr r350.len r350.cap, .int .i64 r351, .int .u64 r352, .string r353, .string r354, .int .u64 r355, .int .u64 r356, .int .u64 r357, .int .i64 r358, .int .i64 r359, .int .i64 r360, .int .i64 r361, .bool r362, .bool r363, .bool r364] h365 fun (h366 : Heap) =>
  j212 a338 h366) ∧
  (nn (some a7) fun (a367 : Addr) =>
  ixA 1 (a367.add 2) 2 r68 fun (a368 : Addr) =>
  ld [.ptr] a368 h211 fun (v369 : Option Addr) =>
  ld [.int .i64, .int .i64, .int .i64, .int .i64, .int .u64, .int .u64, .int .u64, .int .u64, .int .i64, .int .u64, .sl, .int .i64, .int .u64, .str, .str, .int .u64, .int .u64, .int .u64, .int .i64, .int .i64, .int .i64, .int .i64] (a64.add 4) h211 fun (v370 v371 v372 v373 v374 v375 v376 v377 v378 v379 : Int) (v380 : Sl) (v381 v382 : Int) (v383 v384 : ByteArray) (v385 v386 v387 v388 v389 v390 v391 : Int) =>
  al 115 [.int .i64 0, .int .i64 0, .int .i64 0, .int .i64 0, .int .u64 0, .int .u64 0, .int .u64 0, .int .u64 0, .int .i64 0, .int .u64 0, .slice none 0 0, .int .i64 0, .int .u64 0, .string (⟨#[]⟩ : ByteArray), .string (⟨#[]⟩ : ByteArray), .int .u64 0, .int .u64 0, .int .u64 0, .int .i64 0, .int .i64 0, .int .i64 0, .int .i64 0, .bool false, .bool false, .bool false] h211 fun (a392 : Addr) (h393 : Heap) =>
  cellsAre h393 a368 [.pointer v369] ∧
  cellsAre h393 (a64.add 4) [.int .i64 v370, .int .i64 v371, .int .i64 v372, .int .i64 v373, .int .u64 v374, .int .u64 v375, .int .u64 v376, .int .u64 v377, .int .i64 v378, .int .u64 v379, .slice v380.ptr v380.len v380.cap, .int .i64 v381, .int .u64 v382, .string v383, .string v384, .int .u64 v385, .int .u64 v386, .int .u64 v387, .int .i64 v388, .int .i64 v389, .int .i64 v390, .int .i64 v391] ∧
  f12_ v370 v371 v372 v373 v374 v375 v376 v377 v378 v379 v380 v381 v382 v383 v384 v385 v386 v387 v388 v389 v390 v391 h393 fun (r394 r395 r396 r397 r398 r399 r400 r401 r402 r403 : Int) (r404 : Sl) (r405 r406 : Int) (r407 r408 : ByteArray) (r409 r410 r411 r412 r413 r414 r415 : Int) (h416 : Heap) =>
  cellsAre h416 a368 [.pointer v369] ∧
  f38_ v369 r394 r395 r396 r397 r398 r399 r400 r401 r402 r403 r404 r405 r406 r407 r408 r409 r410 r411 r412 r413 r414 r415 h416 fun (r417 r418 r419 r420 r421 r422 r423 r424 r425 r426 : Int) (r427 : Sl) (r428 r429 : Int) (r430 r431 : ByteArray) (r432 r433 r434 r435 r436 r437 r438 : Int) (r439 r440 r441 : Bool) (h442 : Heap) =>
  st a392 [.int .i64 r417, .int .i64 r418, .int .i64 r419, .int .i64 r420, .int .u64 r421, .int .u64 r422, .int .u64 r423, .int .u64 r424, .int .i64 r425, .int .u64 r426, .slice r427.ptr r427.len r427.cap, .int .i64 r428, .int .u64 r429, .string r430, .string r431, .int .u64 r432, .int .u64 r433, .int .u64 r434, .int .i64 r435, .int .i64 r436, .int .i64 r437, .int .i64 r438, .bool r439, .bool r440, .bool r441] h442 fun (h443 : Heap) =>
  j212 a392 h443))) (fun (j101 : Addr → Heap → Prop) =>
  (nn (some a7) fun (a102 : Addr) =>
  ixA 1 (a102.add 0) 2 r68 fun (a103 : Addr) =>
  ld [.ptr] a103 h100 fun (v104 : Option Addr) =>
  ld [.int .i64, .int .i64, .int .i64, .int .i64, .int .u64, .int .u64, .int .u64, .int .u64, .int .i64, .int .u64, .sl, .int .i64, .int .u64, .str, .str, .int .u64, .int .u64, .int .u64, .int .i64, .int .i64, .int .i64, .int .i64] a94 h100 fun (v105 v106 v107 v108 v109 v110 v111 v112 v113 v114 : Int) (v115 : Sl) (v116 v117 : Int) (v118 v119 : ByteArray) (v120 v121 v122 v123 v124 v125 v126 : Int) =>
  f13_ v104 v105 v106 v107 v108 v109 v110 v111 v112 v113 v114 v115 v116 v117 v118 v119 v120 v121 v122 v123 v124 v125 v126 h100 fun (r127 r128 r129 r130 r131 r132 r133 r134 r135 r136 : Int) (r137 : Sl) (r138 r139 : Int) (r140 r141 : ByteArray) (r142 r143 r144 r145 r146 r147 r148 : Int) (r149 r150 r151 : Bool) (h152 : Heap) =>
  al 49 [.int .i64 0, .int .i64 0, .int .i64 0, .int .i64 0, .int .u64 0, .int .u64 0, .int .u64 0, .int .u64 0, .int .i64 0, .int .u64 0, .slice none 0 0, .int .i64 0, .int .u64 0, .string (⟨#[]⟩ : ByteArray), .string (⟨#[]⟩ : ByteArray), .int .u64 0, .int .u64 0, .int .u64 0, .int .i64 0, .int .i64 0, .int .i64 0, .int .i64 0, .bool false, .bool false, .bool false] h152 fun (a153 : Addr) (h154 : Heap) =>
  cellsAre h154 a103 [.pointer v104] ∧
  cellsAre h154 a94 [.int .i64 v105, .int .i64 v106, .int .i64 v107, .int .i64 v108, .int .u64 v109, .int .u64 v110, .int .u64 v111, .int .u64 v112, .int .i64 v113, .int .u64 v114, .slice v115.ptr v115.len v115.cap, .int .i64 v116, .int .u64 v117, .string v118, .string v119, .int .u64 v120, .int .u64 v121, .int .u64 v122, .int .i64 v123, .int .i64 v124, .int .i64 v125, .int .i64 v126] ∧
  st a153 [.int .i64 r127, .int .i64 r128, .int .i64 r129, .int .i64 r130, .int .u64 r131, .int .u64 r132, .int .u64 r133, .int .u64 r134, .int .i64 r135, .int .u64 r136, .slice r137.ptr r137.len r137.cap, .int .i64 r138, .int .u64 r139, .string r140, .string r141, .int .u64 r142, .int .u64 r143, .int .u64 r144, .int .i64 r145, .int .i64 r146, .int .i64 r147, .int .i64 r148, .bool r149, .bool r150, .bool r151] h154 fun (h155 : Heap) =>
  j101 a153 h155) ∧
  (nn (some a7) fun (a156 : Addr) =>
  ixA 1 (a156.add 0) 2 r68 fun (a157 : Addr) =>
  ld [.ptr] a157 h100 fun (v158 : Option Addr) =>
  ld [.int .i64, .int .i64, .int .i64, .int .i64, .int .u64, .int .u64, .int .u64, .int .u64, .int .i64, .int .u64, .sl, .int .i64, .int .u64, .str, .str, .int .u64, .int .u64, .int .u64, .int .i64, .int .i64, .int .i64, .int .i64] a94 h100 fun (v159 v160 v161 v162 v163 v164 v165 v166 v167 v168 : Int) (v169 : Sl) (v170 v171 : Int) (v172 v173 : ByteArray) (v174 v175 v176 v177 v178 v179 v180 : Int) =>
  al 49 [.int .i64 0, .int .i64 0, .int .i64 0, .int .i64 0, .int .u64 0, .int .u64 0, .int .u64 0, .int .u64 0, .int .i64 0, .int .u64 0, .slice none 0 0, .int .i64 0, .int .u64 0, .string (⟨#[]⟩ : ByteArray), .string (⟨#[]⟩ : ByteArray), .int .u64 0, .int .u64 0, .int .u64 0, .int .i64 0, .int .i64 0, .int .i64 0, .int .i64 0, .bool false, .bool false, .bool false] h100 fun (a181 : Addr) (h182 : Heap) =>
  cellsAre h182 a157 [.pointer v158] ∧
  cellsAre h182 a94 [.int .i64 v159, .int .i64 v160, .int .i64 v161, .int .i64 v162, .int .u64 v163, .int .u64 v164, .int .u64 v165, .int .u64 v166, .int .i64 v167, .int .u64 v168, .slice v169.ptr v169.len v169.cap, .int .i64 v170, .int .u64 v171, .string v172, .string v173, .int .u64 v174, .int .u64 v175, .int .u64 v176, .int .i64 v177, .int .i64 v178, .int .i64 v179, .int .i64 v180] ∧
  f13_ v158 v159 v160 v161 v162 v163 v164 v165 v166 v167 v168 v169 v170 v171 v172 v173 v174 v175 v176 v177 v178 v179 v180 h182 fun (r183 r184 r185 r186 r187 r188 r189 r190 r191 r192 : Int) (r193 : Sl) (r194 r195 : Int) (r196 r197 : ByteArray) (r198 r199 r200 r201 r202 r203 r204 : Int) (r205 r206 r207 : Bool) (h208 : Heap) =>
  st a181 [.int .i64 r183, .int .i64 r184, .int .i64 r185, .int .i64 r186, .int .u64 r187, .int .u64 r188, .int .u64 r189, .int .u64 r190, .int .i64 r191, .int .u64 r192, .slice r193.ptr r193.len r193.cap, .int .i64 r194, .int .u64 r195, .string r196, .string r197, .int .u64 r198, .int .u64 r199, .int .u64 r200, .int .i64 r201, .int .i64 r202, .int .i64 r203, .int .i64 r204, .bool r205, .bool r206, .bool r207] h208 fun (h209 : Heap) =>
  j101 a181 h209)))
  (ld [.int .i64, .int .i64, .int .i64, .int .u64, .int .i64, .int .i64, .int .i64, .int .i64, .int .u64, .int .u64, .int .u64, .int .u64, .int .i64, .int .u64, .sl, .int .i64, .int .u64, .str, .str, .int .u64, .int .u64, .int .u64, .int .i64, .int .i64, .int .i64, .int .i64, .int .u64, .int .u64, .int .u64, .sl] a64 h69 fun (v499 v500 v501 v502 v503 v504 v505 v506 v507 v508 v509 v510 v511 v512 : Int) (v513 : Sl) (v514 v515 : Int) (v516 v517 : ByteArray) (v518 v519 v520 v521 v522 v523 v524 v525 v526 v527 : Int) (v528 : Sl) =>
  f34_ (some a7) v499 v500 v501 v502 v503 v504 v505 v506 v507 v508 v509 v510 v511 v512 v513 v514 v515 v516 v517 v518 v519 v520 v521 v522 v523 v524 v525 v526 v527 v528 h69 fun (r529 : Bool) (h530 : Heap) =>
  brr (!r529)
  (Q false h530)
  (j71 h530)))))
  (j22 others24 h30)) (fun (j27 : Bool → Heap → Prop) =>
  ld [.sl] (a3.add 1) h26 fun (v28 : Sl) =>
  brr (decide (i25 < ((v28.len : Nat) : Int)))
  (j27 (decide (i25 < 500)) h26)
  (j27 false h26)))
def F_law9_held.l3 (f23_ : Option Addr → Heap → (Int → Int → Int → Sl → Heap → Prop) → Prop) (f26_ : Int → Int → Int → Sl → Int → Int → Int → Sl → Heap → (Bool → Heap → Prop) → Prop) (Q : Bool → Heap → Prop) (others577 : Sl) (j579 : Heap → Prop) : Int → Heap → Prop :=
  wl [(15, .one (.int .i64))] (fun (next580 : Int → Heap → Prop) (i581 : Int) (h582 : Heap) =>
  brr (decide (i581 < ((others577.len : Nat) : Int)))
  (jn [(165, .one .bool)] (fun (x597 : Bool) (h598 : Heap) =>
  brr x597
  (Q false h598)
  (next580 (IntKind.i64.wrap (i581 + 1)) h598)) (fun (j583 : Bool → Heap → Prop) =>
  ixS 1 others577 i581 fun (a584 : Addr) =>
  ld [.ptr] a584 h582 fun (v585 : Option Addr) =>
  brr v585.isNone
  (j583 true h582)
  (ixS 1 others577 i581 fun (a586 : Addr) =>
  ld [.ptr] a586 h582 fun (v587 : Option Addr) =>
  f23_ v587 h582 fun (r588 r589 r590 : Int) (r591 : Sl) (h592 : Heap) =>
  al 5 [.int .u8 (IntKind.u8.wrap i581), .int .u8 111] h592 fun (a593 : Addr) (h594 : Heap) =>
  f26_ r588 r589 r590 r591 0 0 0 ⟨(some a593), 2, 2⟩ h594 fun (r595 : Bool) (h596 : Heap) =>
  j583 (!r595) h596)))
  (j579 h582))
def F_law9_held_of (f9_ : Int → Int → Heap → (Int → Heap → Prop) → Prop) (f10_ : Sl → Heap → (Option Addr → Heap → Prop) → Prop) (f12_ : Int → Int → Int → Int → Int → Int → Int → Int → Int → Int → Sl → Int → Int → ByteArray → ByteArray → Int → Int → Int → Int → Int → Int → Int → Heap → (Int → Int → Int → Int → Int → Int → Int → Int → Int → Int → Sl → Int → Int → ByteArray → ByteArray → Int → Int → Int → Int → Int → Int → Int → Heap → Prop) → Prop) (f13_ : Option Addr → Int → Int → Int → Int → Int → Int → Int → Int → Int → Int → Sl → Int → Int → ByteArray → ByteArray → Int → Int → Int → Int → Int → Int → Int → Heap → (Int → Int → Int → Int → Int → Int → Int → Int → Int → Int → Sl → Int → Int → ByteArray → ByteArray → Int → Int → Int → Int → Int → Int → Int → Bool → Bool → Bool → Heap → Prop) → Prop) (f23_ : Option Addr → Heap → (Int → Int → Int → Sl → Heap → Prop) → Prop) (f26_ : Int → Int → Int → Sl → Int → Int → Int → Sl → Heap → (Bool → Heap → Prop) → Prop) (f29_ : Int → Int → Int → Int → Int → Int → Int → Int → Int → Int → Sl → Int → Int → ByteArray → ByteArray → Int → Int → Int → Int → Int → Int → Int → Int → Int → Int → Int → Int → Int → Int → Int → Int → Int → Sl → Int → Int → ByteArray → ByteArray → Int → Int → Int → Int → Int → Int → Int → Heap → (Bool → Heap → Prop) → Prop) (f33_ : Option Addr → Int → Sl → Heap → (Bool → Heap → Prop) → Prop) (f34_ : Option Addr → Int → Int → Int → Int → Int → Int → Int → Int → Int → Int → Int → Int → Int → Int → Sl → Int → Int → ByteArray → ByteArray → Int → Int → Int → Int → Int → Int → Int → Int → Int → Int → Sl → Heap → (Bool → Heap → Prop) → Prop) (f36_ : Option Addr → Int → Heap → (Bool → Heap → Prop) → Prop) (f37_ : Option Addr → Sl → Heap → (Sl → Heap → Prop) → Prop) (f38_ : Option Addr → Int → Int → Int → Int → Int → Int → Int → Int → Int → Int → Sl → Int → Int → ByteArray → ByteArray → Int → Int → Int → Int → Int → Int → Int → Heap → (Int → Int → Int → Int → Int → Int → Int → Int → Int → Int → Sl → Int → Int → ByteArray → ByteArray → Int → Int → Int → Int → Int → Int → Int → Bool → Bool → Bool → Heap → Prop) → Prop) (f39_ : Option Addr → Sl → Heap → (Heap → Prop) → Prop) (f40_ : Option Addr → Heap → (Int → Int → Int → Sl → Heap → Prop) → Prop) (f41_ : Option Addr → Heap → (Bool → Heap → Prop) → Prop) (s1 s2 : Sl) (h : Heap) (Q : Bool → Heap → Prop) : Prop :=
  al 59 [.slice s1.ptr s1.len s1.cap, .slice s2.ptr s2.len s2.cap] h fun (a3 : Addr) (h4 : Heap) =>
  al 99 [.slice none 0 0, .slice none 0 0, .int .i64 0, .slice none 0 0, .slice none 0 0, .int .i64 0, .slice none 0 0, .slice none 0 0, .int .i64 0, .slice none 0 0, .slice none 0 0, .int .i64 0, .slice none 0 0, .slice none 0 0, .int .i64 0, .slice none 0 0, .slice none 0 0, .int .i64 0, .slice none 0 0, .slice none 0 0, .int .i64 0, .slice none 0 0, .slice none 0 0, .int .i64 0, .slice none 0 0, .slice none 0 0, .int .i64 0, .slice none 0 0, .slice none 0 0, .int .i64 0, .slice none 0 0, .slice none 0 0, .int .i64 0, .slice none 0 0, .slice none 0 0, .int .i64 0, .int .i64 0, .int .i64 0, .int .i64 0] h4 fun (a5 : Addr) (h6 : Heap) =>
  al 104 [.pointer none, .pointer none, .pointer none, .pointer none, .pointer (some a5), .bool false] h6 fun (a7 : Addr) (h8 : Heap) =>
  jn [(31, .one .bool)] (fun (x16 : Bool) (h17 : Heap) =>
  brr x16
  (Q false h17)
  (al 111 [.int .i64 0, .slice none 0 0, .slice none 0 0, .slice none 0 0, .slice none 0 0, .slice none 0 0, .slice none 0 0, .slice none 0 0, .slice none 0 0, .slice none 0 0, .slice none 0 0] h17 fun (a18 : Addr) (h19 : Heap) =>
  al 114 [.slice none 0 0] h19 fun (a20 : Addr) (h21 : Heap) =>
  jn [(6, .one .sl)] (fun (others577 : Sl) (h578 : Heap) =>
  jn [] (fun  (h599 : Heap) =>
  jn [(2, .one .bool)] (fun (x607 : Bool) (h608 : Heap) =>
  Q x607 h608) (fun (j600 : Bool → Heap → Prop) =>
  f41_ (some a18) h599 fun (r601 : Bool) (h602 : Heap) =>
  brr r601
  (f36_ (some a7) 0 h602 fun (r603 : Bool) (h604 : Heap) =>
  brr r603
  (f36_ (some a7) 1 h604 fun (r605 : Bool) (h606 : Heap) =>
  j600 r605 h606)
  (j600 false h604))
  (j600 false h602))) (fun (j579 : Heap → Prop) =>
  F_law9_held.l3 f23_ f26_ Q others577 j579 0 h578)) (fun (j22 : Sl → Heap → Prop) =>
  F_law9_held.l2 f9_ f10_ f12_ f13_ f23_ f26_ f29_ f34_ f37_ f38_ f39_ f40_ Q a3 a7 a18 a20 j22 (⟨none, 0, 0⟩ : Sl) 0 h21))) (fun (j9 : Bool → Heap → Prop) =>
  ld [.sl] (a3.add 0) h8 fun (v10 : Sl) =>
  f33_ (some a7) 0 v10 h8 fun (r11 : Bool) (h12 : Heap) =>
  brr (!r11)
  (j9 true h12)
  (ld [.sl] (a3.add 0) h12 fun (v13 : Sl) =>
  f33_ (some a7) 1 v13 h12 fun (r14 : Bool) (h15 : Heap) =>
  j9 (!r14) h15))
def F_law9_held (s1 s2 : Sl) (h : Heap) (Q : Bool → Heap → Prop) : Prop := F_law9_held_of F_law9_into F_replica_New F_ref0_CopyMsg F_replica_Replica_Hear F_replica_Replica_Stored F_ref0_EqStored F_ref0_EqMsg F_law9_stage_fresh F_law9_stage_plays F_law9_stage_stored F_law3_Place_Bytes F_ref9_Replica_Hear F_law3_Shelf_Bytes F_ref9_Replica_Stored F_law3_Shelf_Given s1 s2 h Q
def plan20 : Plan := .s (.r [1]) (.s (.r [1, 3]) (.s (.s (.rj [(31, .one .bool)] [1, 3]) (.c (.s (.r [2]) .z) .z)) (.s (.r [1, 3, 4]) (.s (.r [1, 3, 4, 5]) (.s (.r [1, 3, 4, 5, 6]) (.s (.s (.r [1, 3, 4, 5, 6, 7]) (.bj [(6, .one .sl)] [3, 4] (.l [(6, .one .sl), (7, .one (.int .i64))] [1, 3, 4, 5] (.s (.s (.rj [(44, .one .bool)] [1, 3, 4, 5, 6, 7]) (.c .z .z)) (.s (.bj [(6, .one .sl)] [1, 3, 4, 5, 7] (.s (.r [1, 3, 4, 5, 6, 7, 8]) (.s (.r [1, 3, 4, 5, 6, 7, 8, 9]) (.s (.s (.r [1, 3, 4, 5, 6, 7, 8, 9, 57]) (.cj [] [1, 3, 4, 5, 6, 7, 9] (.s (.r [1, 3, 4, 5, 6, 7, 8, 9, 10]) (.s (.r [1, 3, 4, 5, 6, 7, 8, 9, 10]) (.s (.dj [0, 0, 1, 5, 15, 31, 0, 127, 0, 511] [[0, 1, 2, 3, 4, 5, 6, 7, 8, 9], [0, 1, 2, 3, 4, 5, 6, 8, 7, 9]] [(11, .one .addr)] [1, 3, 4, 5, 6, 7, 8, 9]) (.s (.dj [0, 0, 1, 5, 15, 31, 0, 64, 192, 511, 0, 2047] [[0, 1, 2, 3, 4, 5, 6, 7, 8, 9, 10, 11], [0, 1, 2, 3, 4, 5, 6, 7, 8, 10, 9, 11], [0, 1, 2, 3, 4, 5, 6, 7, 10, 8, 9, 11]] [(12, .one .addr)] [1, 3, 4, 5, 6, 7, 9, 11]) (.s (.s (.rj [(96, .one .bool)] [1, 3, 4, 5, 6, 7, 9, 11]) (.c (.s (.r [2]) .z) .z)) (.r [1, 3, 4, 5, 6, 7, 9])))))) (.s (.r [1, 3, 4, 5, 6, 7, 9, 105]) (.c (.s (.r [2]) .z) .z)))) (.s (.s (.r [1, 3, 4, 5, 6, 7, 9, 13]) (.bj [] [1, 3, 4, 5, 6, 7] (.l [(13, .one (.int .i64))] [1, 3, 4, 5, 6, 7, 9] (.s (.s (.r [1, 3, 4, 5, 6, 7, 9, 13, 107]) (.c .z .z)) (.s (.b (.s (.r [1, 3, 4, 5, 6, 7, 9, 13, 14]) (.s (.s (.d [0, 0, 0, 2, 10, 30, 62, 126, 255, 511] [[0, 1, 2, 3, 4, 5, 6, 7, 8, 9]] [1, 3, 4, 5, 6, 7, 9, 13, 14, 126]) (.c (.s (.r [2]) .z) .z)) (.r [1, 3, 4, 5, 6, 7, 9, 13])))) (.r [1, 3, 4, 5, 6, 7, 9, 13])))))) (.s (.r [1, 3, 4, 5, 6, 7, 133]) (.cj [(6, .one .sl)] [1, 3, 4, 5, 7] (.r [1, 3, 4, 5, 6, 7]) .z))))))) (.r [1, 3, 4, 5, 6, 7])))))) (.s (.s (.r [3, 4, 6, 15]) (.bj [] [3, 4] (.l [(15, .one (.int .i64))] [3, 4, 6] (.s (.s (.r [3, 4, 6, 15, 145]) (.c .z .z)) (.s (.b (.s (.rj [(165, .one .bool)] [3, 4, 6, 15]) (.c (.s (.r [2]) .z) .z))) (.r [3, 4, 6, 15])))))) (.s (.rj [(2, .one .bool)] []) .z))))))))
theorem F_law9_held.eq (f9_ : Int → Int → Heap → (Int → Heap → Prop) → Prop) (f10_ : Sl → Heap → (Option Addr → Heap → Prop) → Prop) (f12_ : Int → Int → Int → Int → Int → Int → Int → Int → Int → Int → Sl → Int → Int → ByteArray → ByteArray → Int → Int → Int → Int → Int → Int → Int → Heap → (Int → Int → Int → Int → Int → Int → Int → Int → Int → Int → Sl → Int → Int → ByteArray → ByteArray → Int → Int → Int → Int → Int → Int → Int → Heap → Prop) → Prop) (f13_ : Option Addr → Int → Int → Int → Int → Int → Int → Int → Int → Int → Int → Sl → Int → Int → ByteArray → ByteArray → Int → Int → Int → Int → Int → Int → Int → Heap → (Int → Int → Int → Int → Int → Int → Int → Int → Int → Int → Sl → Int → Int → ByteArray → ByteArray → Int → Int → Int → Int → Int → Int → Int → Bool → Bool → Bool → Heap → Prop) → Prop) (f23_ : Option Addr → Heap → (Int → Int → Int → Sl → Heap → Prop) → Prop) (f26_ : Int → Int → Int → Sl → Int → Int → Int → Sl → Heap → (Bool → Heap → Prop) → Prop) (f29_ : Int → Int → Int → Int → Int → Int → Int → Int → Int → Int → Sl → Int → Int → ByteArray → ByteArray → Int → Int → Int → Int → Int → Int → Int → Int → Int → Int → Int → Int → Int → Int → Int → Int → Int → Sl → Int → Int → ByteArray → ByteArray → Int → Int → Int → Int → Int → Int → Int → Heap → (Bool → Heap → Prop) → Prop) (f33_ : Option Addr → Int → Sl → Heap → (Bool → Heap → Prop) → Prop) (f34_ : Option Addr → Int → Int → Int → Int → Int → Int → Int → Int → Int → Int → Int → Int → Int → Int → Sl → Int → Int → ByteArray → ByteArray → Int → Int → Int → Int → Int → Int → Int → Int → Int → Int → Sl → Heap → (Bool → Heap → Prop) → Prop) (f36_ : Option Addr → Int → Heap → (Bool → Heap → Prop) → Prop) (f37_ : Option Addr → Sl → Heap → (Sl → Heap → Prop) → Prop) (f38_ : Option Addr → Int → Int → Int → Int → Int → Int → Int → Int → Int → Int → Sl → Int → Int → ByteArray → ByteArray → Int → Int → Int → Int → Int → Int → Int → Heap → (Int → Int → Int → Int → Int → Int → Int → Int → Int → Int → Sl → Int → Int → ByteArray → ByteArray → Int → Int → Int → Int → Int → Int → Int → Bool → Bool → Bool → Heap → Prop) → Prop) (f39_ : Option Addr → Sl → Heap → (Heap → Prop) → Prop) (f40_ : Option Addr → Heap → (Int → Int → Int → Sl → Heap → Prop) → Prop) (f41_ : Option Addr → Heap → (Bool → Heap → Prop) → Prop) (s1 s2 : Sl) (h : Heap) (K : Value → Heap → Prop) : F_law9_held_of f9_ f10_ f12_ f13_ f23_ f26_ f29_ f33_ f34_ f36_ f37_ f38_ f39_ f40_ f41_ s1 s2 h (fun (r0 : Bool) (h : Heap) => K (.bool r0) h) =
    den Try.prog (fn1 9 (E_law9_into_of f9_) (fn1 10 (E_replica_New_of f10_) (fn1 12 (E_ref0_CopyMsg_of f12_) (fn1 13 (E_replica_Replica_Hear_of f13_) (fn1 23 (E_replica_Replica_Stored_of f23_) (fn1 26 (E_ref0_EqStored_of f26_) (fn1 29 (E_ref0_EqMsg_of f29_) (fn1 33 (E_law9_stage_fresh_of f33_) (fn1 34 (E_law9_stage_plays_of f34_) (fn1 36 (E_law9_stage_stored_of f36_) (fn1 37 (E_law3_Place_Bytes_of f37_) (fn1 38 (E_ref9_Replica_Hear_of f38_) (fn1 39 (E_law3_Shelf_Bytes_of f39_) (fn1 40 (E_ref9_Replica_Stored_of f40_) (fn1 41 (E_law3_Shelf_Given_of f41_) noFns))))))))))))))) Try.f20.ntmps plan20 (bodyOf Try.f20) (args0 0 [(.agg #[.slice s1.ptr s1.len s1.cap, .slice s2.ptr s2.len s2.cap] : Value)]) h ⟨fun env h => dRes Try.prog Try.f20.results.toList env h K, fun _ _ _ => False, fun env h => dRes Try.prog Try.f20.results.toList env h K⟩ := by kernel_rfl
def E_law9_held_of (f : Sl → Sl → Heap → (Bool → Heap → Prop) → Prop) : List Value → Heap → (Value → Heap → Prop) → Prop
  | [v0], h, K => vAgg v0 fun cs0 => decs [.sl, .sl] cs0.toList fun (s1 s2 : Sl) =>
  f s1 s2 h (fun (r0 : Bool) (h : Heap) => K (.bool r0) h)
  | _, _, _ => False
abbrev E_law9_held := E_law9_held_of F_law9_held
theorem E_law9_held.right : IsRight Try.prog 20 E_law9_held := by
  refine isRight fun vs K w hh => ?_
  match vs, hh with
  | [v0], hh =>
    unfold E_law9_held E_law9_held_of at hh
    replace hh := vAgg_sound hh; obtain ⟨cs0, rfl, hh⟩ := hh
    replace hh := decs_cons hh; obtain ⟨s1, l0_0, e0_0, hh⟩ := hh
    replace hh := decs_cons hh; obtain ⟨s2, l0_1, e0_1, hh⟩ := hh
    replace hh := decs_nil hh; obtain ⟨rfl, hh⟩ := hh
    subst e0_1
    have ec0 := toArray_eq e0_0
    subst ec0
    unfold F_law9_held at hh
    exact calls_den (fn1_right ok9 E_law9_into.right (fn1_right ok10 E_replica_New.right (fn1_right ok12 E_ref0_CopyMsg.right (fn1_right ok13 E_replica_Replica_Hear.right (fn1_right ok23 E_replica_Replica_Stored.right (fn1_right ok26 E_ref0_EqStored.right (fn1_right ok29 E_ref0_EqMsg.right (fn1_right ok33 E_law9_stage_fresh.right (fn1_right ok34 E_law9_stage_plays.right (fn1_right ok36 E_law9_stage_stored.right (fn1_right ok37 E_law3_Place_Bytes.right (fn1_right ok38 E_ref9_Replica_Hear.right (fn1_right ok39 E_law3_Shelf_Bytes.right (fn1_right ok40 E_ref9_Replica_Stored.right (fn1_right ok41 E_law3_Shelf_Given.right noFns_right))))))))))))))) plan20 _ w K Try.func20 (by kernel_rfl) (by kernel_rfl) (Eq.mp (F_law9_held.eq F_law9_into F_replica_New F_ref0_CopyMsg F_replica_Replica_Hear F_replica_Replica_Stored F_ref0_EqStored F_ref0_EqMsg F_law9_stage_fresh F_law9_stage_plays F_law9_stage_stored F_law3_Place_Bytes F_ref9_Replica_Hear F_law3_Shelf_Bytes F_ref9_Replica_Stored F_law3_Shelf_Given s1 s2 w.heap K) hh)
theorem ok20 : okFn Try.prog 20 = true := by kernel_rfl
end Go.Proofs.Ytcbelendjpnmiaa.V
namespace Go.Proofs.Ytcbelendjpnmiaa.V
open Go Go.RowKit
set_option linter.unusedVariables false
set_option maxRecDepth 100000
def F_law9_ReplicaFresh_of (f19_ : Sl → Sl → Bool → Heap → (Bool → Heap → Prop) → Prop) (f20_ : Sl → Sl → Heap → (Bool → Heap → Prop) → Prop) (s1 s2 : Sl) (h : Heap) (Q : Bool → Heap → Prop) : Prop :=
  al 59 [.slice s1.ptr s1.len s1.cap, .slice s2.ptr s2.len s2.cap] h fun (a3 : Addr) (h4 : Heap) =>
  jn [(2, .one .bool)] (fun (x14 : Bool) (h15 : Heap) =>
  Q x14 h15) (fun (j5 : Bool → Heap → Prop) =>
  ld [.sl, .sl] a3 h4 fun (v6 v7 : Sl) =>
  f19_ v6 v7 true h4 fun (r8 : Bool) (h9 : Heap) =>
  brr r8
  (ld [.sl, .sl] a3 h9 fun (v10 v11 : Sl) =>
  f20_ v10 v11 h9 fun (r12 : Bool) (h13 : Heap) =>
  j5 r12 h13)
  (j5 false h9))
def F_law9_ReplicaFresh (s1 s2 : Sl) (h : Heap) (Q : Bool → Heap → Prop) : Prop := F_law9_ReplicaFresh_of F_law9_play F_law9_held s1 s2 h Q
def plan5 : Plan := .s (.r [1]) (.s (.rj [(2, .one .bool)] []) .z)
theorem F_law9_ReplicaFresh.eq (f19_ : Sl → Sl → Bool → Heap → (Bool → Heap → Prop) → Prop) (f20_ : Sl → Sl → Heap → (Bool → Heap → Prop) → Prop) (s1 s2 : Sl) (h : Heap) (K : Value → Heap → Prop) : F_law9_ReplicaFresh_of f19_ f20_ s1 s2 h (fun (r0 : Bool) (h : Heap) => K (.bool r0) h) =
    den Try.prog (fn1 19 (E_law9_play_of f19_) (fn1 20 (E_law9_held_of f20_) noFns)) Try.f5.ntmps plan5 (bodyOf Try.f5) (args0 0 [(.agg #[.slice s1.ptr s1.len s1.cap, .slice s2.ptr s2.len s2.cap] : Value)]) h ⟨fun env h => dRes Try.prog Try.f5.results.toList env h K, fun _ _ _ => False, fun env h => dRes Try.prog Try.f5.results.toList env h K⟩ := by kernel_rfl
def E_law9_ReplicaFresh_of (f : Sl → Sl → Heap → (Bool → Heap → Prop) → Prop) : List Value → Heap → (Value → Heap → Prop) → Prop
  | [v0], h, K => vAgg v0 fun cs0 => decs [.sl, .sl] cs0.toList fun (s1 s2 : Sl) =>
  f s1 s2 h (fun (r0 : Bool) (h : Heap) => K (.bool r0) h)
  | _, _, _ => False
abbrev E_law9_ReplicaFresh := E_law9_ReplicaFresh_of F_law9_ReplicaFresh
theorem E_law9_ReplicaFresh.at (f : Sl → Sl → Heap → (Bool → Heap → Prop) → Prop) (s1 s2 : Sl) (h : Heap) (K : Value → Heap → Prop) : E_law9_ReplicaFresh_of f [.agg ([.slice s1.ptr s1.len s1.cap, .slice s2.ptr s2.len s2.cap] : List Value).toArray] h K = f s1 s2 h (fun (r0 : Bool) (h : Heap) => K (.bool r0) h) := rfl
theorem E_law9_ReplicaFresh.right : IsRight Try.prog 5 E_law9_ReplicaFresh := by
  refine isRight fun vs K w hh => ?_
  match vs, hh with
  | [v0], hh =>
    unfold E_law9_ReplicaFresh E_law9_ReplicaFresh_of at hh
    replace hh := vAgg_sound hh; obtain ⟨cs0, rfl, hh⟩ := hh
    replace hh := decs_cons hh; obtain ⟨s1, l0_0, e0_0, hh⟩ := hh
    replace hh := decs_cons hh; obtain ⟨s2, l0_1, e0_1, hh⟩ := hh
    replace hh := decs_nil hh; obtain ⟨rfl, hh⟩ := hh
    subst e0_1
    have ec0 := toArray_eq e0_0
    subst ec0
    unfold F_law9_ReplicaFresh at hh
    exact calls_den (fn1_right ok19 E_law9_play.right (fn1_right ok20 E_law9_held.right noFns_right)) plan5 _ w K Try.func5 (by kernel_rfl) (by kernel_rfl) (Eq.mp (F_law9_ReplicaFresh.eq F_law9_play F_law9_held s1 s2 w.heap K) hh)
theorem ok5 : okFn Try.prog 5 = true := by kernel_rfl
end Go.Proofs.Ytcbelendjpnmiaa.V
/- Replicas: what is told is held untouched, or written full: ReplicaFresh. -/
namespace Go.Proofs.Ytcbelendjpnmiaa.V
open Go Go.RowKit
set_option linter.unusedVariables false
set_option linter.unusedSimpArgs false
theorem ShS.Ok.up {y : ShS} {T T' : Nat} (o : y.Ok T) (h : T ≤ T') : y.Ok T' := ⟨o.n, o.s0, by have := o.s1; omega, o.b⟩
theorem sh_up {h0 h : Heap} {L : List Res} {x T T' : Nat} (O : Sat h0 h (shR x T :: L)) (ht : T ≤ T') : Sat h0 h (shR x T' :: L) := by
  obtain ⟨y, o, O⟩ := O.sh
  exact Sat.shI (o.up ht) O
/-- Other replicas, each with a value of its own. -/
abbrev OE := Nat × RS
def oR (x : OE) : Res := repR x.1 x.2
def ownVal (n : Nat) : RS := ⟨0, 0, 0, [UInt8.ofNat n, 111], 0⟩
def osOk (os : List OE) : Prop := ∀ (i : Nat) e, os[i]? = some e → e.2 = ownVal i
theorem osOk_new {os : List OE} {p : Nat} (h : osOk os) : osOk (os ++ [(p, ownVal os.length)]) := by
  intro i e he
  by_cases hi : i < os.length
  · rw [List.getElem?_append_left hi] at he
    exact h i e he
  · rw [List.getElem?_append_right (by omega)] at he
    by_cases hz : i - os.length = 0
    · rw [hz] at he
      cases he
      rw [show i = os.length by omega]
    · rw [List.getElem?_eq_none (by simp; omega)] at he
      cases he
theorem ownVal_ok (n : Nat) : (ownVal n).Ok := ⟨by simp [ownVal], Int.le_refl _, by show (0 : Int) ≤ _; decide⟩
section
variable {h0 h : Heap} {L : List Res}
theorem two_buf {b n : Nat} (O : Sat h0 h (own b [.int .u8 (IntKind.u8.wrap ((n : Nat) : Int)), .int .u8 111] :: L)) : Sat h0 h (buf 1 u8 ⟨some (pt b 0), 2, 2⟩ [UInt8.ofNat n, 111] :: L) := by
  rw [wrap8K] at O
  have O : Sat h0 h (own b ([UInt8.ofNat n, 111].flatMap u8 ++ []) :: L) := O
  exact (O.own_buf (k := 0) (sz := 1) rfl).bufsI
theorem F_law9_held.is {s1 s2 : Sl} {zs : List UInt8} {ops : List ROp} {Q : Bool → Heap → Prop} (Vv : Bytes h0 s1 zs) (hb : zs.length ≤ (140737488355325 : Nat)) (Vo : View h0 30 (ropR h0) s2 ops) (O : Sat h0 h L) (kk : ∀ h', Sat h0 h' L → Q true h') : F_law9_held s1 s2 h Q := by
  rw [F_law9_held.eq_1, F_law9_held_of.eq_1]
  refine O.al fun x3 h O => ?_
  refine O.al fun bk h O => ?_
  refine O.al fun a h O => ?_
  refine jn1 (fun z h' => z = false ∧ ∃ xs : List PR, xs.length = 2 ∧ (∀ x ∈ xs, prC x) ∧ Sat h0 h' (own a (stR xs bk false) :: bkR bk 0 :: many prR xs :: own x3 [.slice s1.ptr s1.len s1.cap, .slice s2.ptr s2.len s2.cap] :: L)) ?_ ?_
  case refine_2 =>
    intro j hj
    exact rstage0 Vv hb O fun xs h h2 hx O => hj _ _ ⟨rfl, xs, h2, hx, O⟩
  clear O
  rintro z h ⟨rfl, xs, h2, hx, O⟩
  refine brr_ff rfl ?_
  refine O.al fun x18 h O => ?_
  have O := sh_new O
  refine O.al fun x20 h O => ?_
  have O := pl_new O
  have O : Sat h0 h (own a (stR xs bk false) :: bkR bk 0 :: many prR xs :: shR x18 0 :: plR x20 :: buf 1 ptrc ⟨none, 0, 0⟩ (([] : List OE).map (·.1)) :: many oR [] :: own x3 [.slice s1.ptr s1.len s1.cap, .slice s2.ptr s2.len s2.cap] :: L) := by
    have O := O.none (f := oR)
    have O := O.nil_buf (sz := 1) (enc := ptrc)
    exact O.sel [4, 5, 6, 3, 2, 0, 1, 7] 8 rfl (Nat.le_add_left _ _)
  refine jn1 (fun (ot : Sl) h' => ∃ (xs : List PR) (os : List OE), xs.length = 2 ∧ (∀ x ∈ xs, prC x) ∧ osOk os ∧ os.length ≤ 500 ∧ Sat h0 h' (own a (stR xs bk false) :: bkR bk 500 :: many prR xs :: shR x18 1500 :: buf 1 ptrc ot (os.map (·.1)) :: many oR os :: L)) ?_ ?_
  · clear O
    rintro (ot : Sl) h ⟨xs, os, h2, hx, hos, hol, O⟩
    refine jn0 (fun h' => Sat h0 h' (own a (stR xs bk false) :: bkR bk 500 :: many prR xs :: shR x18 1500 :: L)) ?_ ?_
    · clear O
      intro h O
      refine jn1 (fun z h' => z = true ∧ Sat h0 h' L) (fun z h' ⟨e, O⟩ => e ▸ kk h' O) fun j hj => ?_
      have get : ∀ k, k < 2 → ∃ p q r, xs[k]? = some (some (p, q, r)) ∧ RS.Ok r := by
        intro k hk
        obtain ⟨x, hxk⟩ : ∃ x, xs[k]? = some x := ⟨_, List.getElem?_eq_getElem (by omega)⟩
        have hc := hx _ (List.mem_of_getElem? hxk)
        cases x with
        | none => exact hc.elim
        | some y => exact ⟨y.1, y.2.1, y.2.2, hxk, hc⟩
      obtain ⟨p0, q0, r0, hx0, ok0⟩ := get 0 (by decide)
      obtain ⟨p1, q1, r1, hx1, ok1⟩ := get 1 (by decide)
      refine F_law3_Shelf_Given.is (O.sel [3, 0, 1, 2] 4 rfl (Nat.le_add_left _ _)) fun h O => ?_
      refine brr_tt rfl ?_
      refine F_law9_stage_stored.is (k := 0) h2 (by decide) hx0 ok0 (by decide) O fun h O => ?_
      refine brr_tt rfl ?_
      refine F_law9_stage_stored.is (k := 1) h2 (by decide) hx1 ok1 (by decide) O fun h O => ?_
      exact hj _ _ ⟨rfl, O.drop.drop.drop⟩
    · intro j579 hj
      rw [F_law9_held.l3.eq_1]
      refine wl1 (k := .int .i64) (fun (m : Nat) (i : Int) (h' : Heap) => i + m = os.length ∧ 0 ≤ i ∧ Sat h0 h' (own a (stR xs bk false) :: bkR bk 500 :: many prR xs :: shR x18 1500 :: buf 1 ptrc ot (os.map (·.1)) :: many oR os :: L)) ?_ (m := os.length) ⟨by omega, by omega, O⟩
      clear O
      rintro m (i : Int) h next hn ⟨him, hi0, O⟩
      have v0 := (O.view 4 ptrc_len (by simp) rfl).1
      have hvl := v0.len
      rw [List.length_map] at hvl
      rw [hvl]
      refine brr_p (fun hlt => ?_) (fun hlt => hj _ (O.sel [0, 1, 2, 3] 6 rfl (Nat.le_add_left _ _)))
      obtain ⟨iN, rfl⟩ := Int.eq_ofNat_of_zero_le hi0
      obtain ⟨e, he⟩ : ∃ e, os[iN]? = some e := ⟨_, List.getElem?_eq_getElem (by omega)⟩
      have hev := hos _ _ he
      have q0 : (os.map (·.1))[((iN : Nat) : Int).toNat]? = some e.1 := by rw [Int.toNat_natCast, List.getElem?_map, he]; rfl
      refine jn1 (fun z h' => z = false ∧ Sat h0 h' (own a (stR xs bk false) :: bkR bk 500 :: many prR xs :: shR x18 1500 :: buf 1 ptrc ot (os.map (·.1)) :: many oR os :: L)) ?_ ?_
      · clear O v0 hvl
        rintro z h ⟨rfl, O⟩
        refine brr_ff rfl ?_
        rw [wrap64 (by omega) (by omega)]
        exact hn (m - 1) _ _ (by omega) ⟨by omega, by omega, O⟩
      · intro j hj
        refine View.get1 (k := .ptr) v0 hi0 q0 (fun b => some (pt b 0)) (fun _ => rfl) ?_
        refine brr_ff rfl ?_
        refine View.get1 (k := .ptr) v0 hi0 q0 (fun b => some (pt b 0)) (fun _ => rfl) ?_
        have O := (O.sel [5, 0, 1, 2, 3, 4] 6 rfl (Nat.le_add_left _ _)).take _ he
        have O : Sat h0 h (repR e.1 e.2 :: hole oR os iN :: own a (stR xs bk false) :: bkR bk 500 :: many prR xs :: shR x18 1500 :: buf 1 ptrc ot (os.map (·.1)) :: L) := O
        rw [hev] at O
        refine F_replica_Replica_Stored.is (ownVal_ok iN) O fun s h O => ?_
        refine O.al fun bl h O => ?_
        have O := two_buf O
        refine F_ref0_EqStored.is (xs := [UInt8.ofNat iN, 111]) (ys := [UInt8.ofNat iN, 111]) O (fun h O => (O.view 1 u8_len (by simp) rfl).1) (fun h O => (O.view 0 u8_len (by simp) rfl).1) (by simp) (by simp) fun h O => ?_
        have O := O.drop.drop
        rw [← hev] at O
        have O := Sat.give (f := oR) (y := e) O (List.getElem?_eq_some_iff.1 he).1
        rw [set_same he] at O
        refine hj _ _ ⟨?_, O.sel [1, 2, 3, 4, 5, 0] 6 rfl (Nat.le_add_left _ _)⟩
        simp [ownVal]
  intro j22 hj22
  rw [F_law9_held.l2.eq_1]
  refine wl2 (k := .sl) (l := .int .i64) (fun (m : Nat) (ot : Sl) (i : Int) (h' : Heap) => i + m = ops.length ∧ 0 ≤ i ∧ i ≤ 500 ∧ ∃ (xs : List PR) (os : List OE), xs.length = 2 ∧ (∀ x ∈ xs, prC x) ∧ osOk os ∧ (os.length : Int) ≤ i ∧ Sat h0 h' (own a (stR xs bk false) :: bkR bk i.toNat :: many prR xs :: shR x18 (3 * i.toNat) :: plR x20 :: buf 1 ptrc ot (os.map (·.1)) :: many oR os :: own x3 [.slice s1.ptr s1.len s1.cap, .slice s2.ptr s2.len s2.cap] :: L)) ?_ (m := ops.length) ⟨by omega, by omega, by omega, xs, [], h2, hx, fun i e he => by simp at he, by simp, O⟩
  clear O
  rintro m (ot : Sl) (i : Int) h next hn ⟨hi, hi0, hi4, xs, os, h2, hx, hos, hol, O⟩
  refine jn1 (fun t h' => h' = h ∧ t = decide (i < ops.length ∧ i < 500)) ?_ ?_
  case refine_2 =>
    intro j2 hj2
    repeat (first | (with_reducible refine al_id ?_); refine O.al fun _ h O => ?_ | (with_reducible refine nn_id ?_); refine ⟨_, rfl, ?_⟩ | (with_reducible refine ld_id ?_); (first | refine O.ld 0 rfl ?_ | refine O.ld 1 rfl ?_ | refine O.ld 2 rfl ?_ | refine O.ld 3 rfl ?_ | refine O.ld 4 rfl ?_ | refine O.ld 5 rfl ?_ | refine O.ld 6 rfl ?_ | refine O.ld 7 rfl ?_); (repeat (first | (with_reducible refine ldL_n ?_) | refine ldL_s ?_ | refine ldL_c ?_)) | (with_reducible refine st_ad (by first | (with_reducible rfl) | (simp only [pt_add, Nat.zero_add, Nat.add_zero, Nat.reduceAdd]; with_reducible rfl)) ?_); (first | refine O.st 0 rfl (by simp) rfl fun h O => ?_ | refine O.st 1 rfl (by simp) rfl fun h O => ?_ | refine O.st 2 rfl (by simp) rfl fun h O => ?_ | refine O.st 3 rfl (by simp) rfl fun h O => ?_ | refine O.st 4 rfl (by simp) rfl fun h O => ?_ | refine O.st 5 rfl (by simp) rfl fun h O => ?_ | refine O.st 6 rfl (by simp) rfl fun h O => ?_ | refine O.st 7 rfl (by simp) rfl fun h O => ?_); (dsimp only [V.put, List.set, List.length_cons, List.length_nil] at O) | (with_reducible refine ca_id ?_); (first | refine O.ca 0 1 rfl ?_ | refine O.ca 0 2 rfl ?_ | refine O.ca 1 1 rfl ?_ | refine O.ca 1 2 rfl ?_ | refine O.ca 2 1 rfl ?_ | refine O.ca 2 2 rfl ?_ | refine O.ca 3 1 rfl ?_ | refine O.ca 3 2 rfl ?_ | refine O.ca 4 1 rfl ?_ | refine O.ca 4 2 rfl ?_ | refine O.ca 5 1 rfl ?_ | refine O.ca 5 2 rfl ?_ | refine O.ca 6 1 rfl ?_ | refine O.ca 6 2 rfl ?_ | refine O.ca 7 1 rfl ?_ | refine O.ca 7 2 rfl ?_))
    rw [Vo.len]
    refine brr_p (fun hlt => ?_) (fun hlt => ?_)
    · exact hj2 _ _ ⟨rfl, by simp [hlt]⟩
    · exact hj2 _ _ ⟨rfl, by simp; intro h; omega⟩
  rintro t h ⟨rfl, rfl⟩
  refine brr_p (fun ht => ?_) (fun ht => ?_)
  case refine_2 =>
    have O := bk_up (O.sel [1, 0, 2, 3, 5, 6] 8 rfl (Nat.le_add_left _ _)) (show i.toNat ≤ 500 by omega)
    have O := sh_up (O.sel [3, 0, 1, 2, 4, 5] 6 rfl (Nat.le_add_left _ _)) (show 3 * i.toNat ≤ 1500 by omega)
    exact hj22 _ _ ⟨xs, os, h2, hx, hos, by omega, O.sel [2, 1, 3, 0, 4, 5] 6 rfl (Nat.le_add_left _ _)⟩
  obtain ⟨hlt, hlt4⟩ := ht
  refine jn1 (fun (ot : Sl) h' => ∃ (xs : List PR) (os : List OE), xs.length = 2 ∧ (∀ x ∈ xs, prC x) ∧ osOk os ∧ (os.length : Int) ≤ i + 1 ∧ Sat h0 h' (own a (stR xs bk false) :: bkR bk (i.toNat + 1) :: many prR xs :: shR x18 (3 * i.toNat + 3) :: plR x20 :: buf 1 ptrc ot (os.map (·.1)) :: many oR os :: own x3 [.slice s1.ptr s1.len s1.cap, .slice s2.ptr s2.len s2.cap] :: L)) ?_ ?_
  · clear O
    rintro (ot : Sl) h ⟨xs, os, h2, hx, hos, hol, O⟩
    have e1 : (i + 1).toNat = i.toNat + 1 := by omega
    rw [wrap64 (by omega) (by omega)]
    exact hn (m - 1) _ _ _ (by omega) ⟨by omega, by omega, by omega, xs, os, h2, hx, hos, hol, by rw [e1]; exact O⟩
  clear hn
  intro j31 hj31
  repeat (first | (with_reducible refine al_id ?_); refine O.al fun _ h O => ?_ | (with_reducible refine nn_id ?_); refine ⟨_, rfl, ?_⟩ | (with_reducible refine ld_id ?_); (first | refine O.ld 0 rfl ?_ | refine O.ld 1 rfl ?_ | refine O.ld 2 rfl ?_ | refine O.ld 3 rfl ?_ | refine O.ld 4 rfl ?_ | refine O.ld 5 rfl ?_ | refine O.ld 6 rfl ?_ | refine O.ld 7 rfl ?_); (repeat (first | (with_reducible refine ldL_n ?_) | refine ldL_s ?_ | refine ldL_c ?_)) | (with_reducible refine st_ad (by first | (with_reducible rfl) | (simp only [pt_add, Nat.zero_add, Nat.add_zero, Nat.reduceAdd]; with_reducible rfl)) ?_); (first | refine O.st 0 rfl (by simp) rfl fun h O => ?_ | refine O.st 1 rfl (by simp) rfl fun h O => ?_ | refine O.st 2 rfl (by simp) rfl fun h O => ?_ | refine O.st 3 rfl (by simp) rfl fun h O => ?_ | refine O.st 4 rfl (by simp) rfl fun h O => ?_ | refine O.st 5 rfl (by simp) rfl fun h O => ?_ | refine O.st 6 rfl (by simp) rfl fun h O => ?_ | refine O.st 7 rfl (by simp) rfl fun h O => ?_); (dsimp only [V.put, List.set, List.length_cons, List.length_nil] at O) | (with_reducible refine ca_id ?_); (first | refine O.ca 0 1 rfl ?_ | refine O.ca 0 2 rfl ?_ | refine O.ca 1 1 rfl ?_ | refine O.ca 1 2 rfl ?_ | refine O.ca 2 1 rfl ?_ | refine O.ca 2 2 rfl ?_ | refine O.ca 3 1 rfl ?_ | refine O.ca 3 2 rfl ?_ | refine O.ca 4 1 rfl ?_ | refine O.ca 4 2 rfl ?_ | refine O.ca 5 1 rfl ?_ | refine O.ca 5 2 rfl ?_ | refine O.ca 6 1 rfl ?_ | refine O.ca 6 2 rfl ?_ | refine O.ca 7 1 rfl ?_ | refine O.ca 7 2 rfl ?_))
  refine (Vo.kept O.kept).ix hi0 hlt fun a2 cs o ho hlen hR hc => ?_
  obtain ⟨rfl, oo⟩ := hR
  refine ld_are hc ?_
  unfold ropC
  repeat (first | (with_reducible refine ldL_n ?_) | refine ldL_s ?_ | refine ldL_c ?_)
  refine O.al fun x64 h O => ?_
  refine O.st 0 rfl (by simp) rfl fun h O => ?_
  dsimp only [V.put, List.set] at O
  have O : Sat h0 h (own x64 (ropC o) :: own a (stR xs bk false) :: bkR bk i.toNat :: many prR xs :: shR x18 (3 * i.toNat) :: plR x20 :: buf 1 ptrc ot (os.map (·.1)) :: many oR os :: own x3 [.slice s1.ptr s1.len s1.cap, .slice s2.ptr s2.len s2.cap] :: L) := O
  refine O.ld 0 rfl (ldL_c (ldL_n ?_))
  refine F_law9_into.is (by decide) (by decide) ?_
  have n0 := Int.emod_nonneg o.which (show (2 : Int) ≠ 0 by decide)
  have n1 := Int.emod_lt_of_pos o.which (show (0 : Int) < 2 by decide)
  obtain ⟨k, hkk⟩ : ∃ k : Nat, o.which % 2 = k := ⟨(o.which % 2).toNat, by omega⟩
  rw [hkk] at n0 n1 ⊢
  have hk : k < 2 := by omega
  obtain ⟨x, hxk⟩ : ∃ x, xs[k]? = some x := ⟨_, List.getElem?_eq_getElem (by omega)⟩
  have hxc := hx _ (List.mem_of_getElem? hxk)
  obtain ⟨⟨p, q, r⟩, rfl⟩ : ∃ y, x = some y := by
    cases x with
    | none => exact hxc.elim
    | some y => exact ⟨y, rfl⟩
  have ok : r.Ok := hxc
  refine O.ld 0 rfl (ldL_c (ldL_n ?_))
  refine jn0 (fun h' => ∃ xs : List PR, xs.length = 2 ∧ (∀ x ∈ xs, prC x) ∧ Sat h0 h' (own a (stR xs bk false) :: bkR bk (i.toNat + 1) :: many prR xs :: shR x18 (3 * i.toNat + 1) :: plR x20 :: buf 1 ptrc ot (os.map (·.1)) :: many oR os :: own x3 [.slice s1.ptr s1.len s1.cap, .slice s2.ptr s2.len s2.cap] :: L)) ?_ ?_
  · clear O
    rintro h ⟨xs, h2, hx, O⟩
    obtain ⟨x, hxk⟩ : ∃ x, xs[k]? = some x := ⟨_, List.getElem?_eq_getElem (by omega)⟩
    have hxc := hx _ (List.mem_of_getElem? hxk)
    obtain ⟨⟨p, q, r⟩, rfl⟩ : ∃ y, x = some y := by
      cases x with
      | none => exact hxc.elim
      | some y => exact ⟨y, rfl⟩
    have ok : r.Ok := hxc
    refine jn0 (fun h' => Sat h0 h' (own a (stR xs bk false) :: bkR bk (i.toNat + 1) :: many prR xs :: shR x18 (3 * i.toNat + 3) :: plR x20 :: buf 1 ptrc ot (os.map (·.1)) :: many oR os :: own x3 [.slice s1.ptr s1.len s1.cap, .slice s2.ptr s2.len s2.cap] :: L)) ?_ ?_
    · clear O
      intro h O
      refine ⟨by decide, ?_⟩
      refine jn1 (fun (ot : Sl) h' => ∃ (os : List OE), osOk os ∧ (os.length : Int) ≤ i + 1 ∧ Sat h0 h' (own a (stR xs bk false) :: bkR bk (i.toNat + 1) :: many prR xs :: shR x18 (3 * i.toNat + 3) :: plR x20 :: buf 1 ptrc ot (os.map (·.1)) :: many oR os :: own x3 [.slice s1.ptr s1.len s1.cap, .slice s2.ptr s2.len s2.cap] :: L)) (fun ot h ⟨os, hos, hol, O⟩ => hj31 _ _ ⟨xs, os, h2, hx, hos, hol, O⟩) fun j hj => ?_
      refine brr_eq (fun h5 => ?_) (fun h5 => hj _ _ ⟨os, hos, by omega, O⟩)
      have hotl := (O.view 5 ptrc_len (by simp) rfl).1.len
      rw [List.length_map] at hotl
      refine O.al fun bl h O => ?_
      have O := two_buf O
      refine F_replica_New.is (xs := [UInt8.ofNat ot.len, 111]) O (fun h O => (O.view 0 u8_len (by simp) rfl).1) (by simp) fun np h O => ?_
      refine O.al fun xa h O => ?_
      have O2 : Sat h0 h (buf 1 ptrc ot (os.map (·.1)) :: own xa [.pointer (some (pt np 0))] :: repR np ⟨0, 0, 0, [UInt8.ofNat ot.len, 111], 0⟩ :: many oR os :: own a (stR xs bk false) :: bkR bk (i.toNat + 1) :: many prR xs :: shR x18 (3 * i.toNat + 3) :: plR x20 :: own x3 [.slice s1.ptr s1.len s1.cap, .slice s2.ptr s2.len s2.cap] :: L) := O.sel [8, 0, 1, 9, 3, 4, 5, 6, 7, 10] 11 rfl (Nat.le_add_left _ _)
      refine Sat.app_buf O2 ptrc_len ptrc_one rfl (ys := [np]) rfl (rdP_own O2 1 rfl 1 (Nat.le_refl _)) (by simp; omega) fun ot2 h O _ => ?_
      have O3 : Sat h0 h (oR (np, ownVal os.length) :: many oR os :: buf 1 ptrc ot2 (os.map (·.1) ++ [np]) :: own a (stR xs bk false) :: bkR bk (i.toNat + 1) :: many prR xs :: shR x18 (3 * i.toNat + 3) :: plR x20 :: own x3 [.slice s1.ptr s1.len s1.cap, .slice s2.ptr s2.len s2.cap] :: L) := by
        have := O.sel [2, 3, 0, 4, 5, 6, 7, 8, 9] 10 rfl (Nat.le_add_left _ _)
        rw [hotl] at this
        exact this
      have O4 := O3.more
      refine hj _ _ ⟨os ++ [(np, ownVal os.length)], osOk_new hos, by rw [List.length_append, List.length_singleton]; omega, ?_⟩
      rw [List.map_append]
      exact O4.sel [2, 3, 4, 5, 6, 1, 0, 7] 8 rfl (Nat.le_add_left _ _)
    · intro j532 hj
      rw [F_law9_held.l1.eq_1]
      refine wl1 (k := .int .i64) (fun (m : Nat) (n : Int) (h' : Heap) => n + m = 2 ∧ 0 ≤ n ∧ Sat h0 h' (own a (stR xs bk false) :: bkR bk (i.toNat + 1) :: many prR xs :: shR x18 (3 * i.toNat + 1 + n.toNat) :: plR x20 :: buf 1 ptrc ot (os.map (·.1)) :: many oR os :: own x3 [.slice s1.ptr s1.len s1.cap, .slice s2.ptr s2.len s2.cap] :: L)) ?_ (m := 2) ⟨by omega, by omega, by exact O⟩
      clear O
      rintro m (n : Int) h next hn ⟨hnm, hn0, O⟩
      refine brr_p (fun hlt => ?_) (fun hlt => ?_)
      case refine_2 =>
        have hlt : ¬ n < 2 := hlt
        rw [show 3 * i.toNat + 1 + n.toNat = 3 * i.toNat + 3 by omega] at O
        exact hj _ O
      have hlt : n < 2 := hlt
      have O := ((O.sel [2, 0, 1, 3, 4, 5, 6, 7] 8 rfl (Nat.le_add_left _ _)).take k hxk).sep
      have O : Sat h0 h (repR p r :: repR q r :: hole prR xs k :: own a (stR xs bk false) :: bkR bk (i.toNat + 1) :: shR x18 (3 * i.toNat + 1 + n.toNat) :: plR x20 :: buf 1 ptrc ot (os.map (·.1)) :: many oR os :: own x3 [.slice s1.ptr s1.len s1.cap, .slice s2.ptr s2.len s2.cap] :: L) := O
      refine ⟨_, rfl, ?_⟩
      refine sr_n hxk hk O 3 rfl fun c _ => ?_
      refine F_replica_Replica_Stored.is ok O fun s h O => ?_
      refine O.al fun x544 h O => ?_
      refine O.st 0 rfl (by simp) rfl fun h O => ?_
      dsimp only [V.put, List.set] at O
      refine O.ld 0 rfl (ldL_c (ldL_c (ldL_c (ldL_s (ldL_n ?_)))))
      refine ⟨_, rfl, ?_⟩
      refine sr_w h2 hxk hk O 5 rfl fun c _ => ?_
      replace O := O.sel [3, 0, 1, 2, 4, 5, 6, 7, 8, 9, 10, 11] 12 rfl (Nat.le_add_left _ _)
      simp only [selT, List.map, nth, List.drop, List.cons_append, List.nil_append] at O
      refine F_ref9_Replica_Stored.is ok O fun s2 h O => ?_
      refine ⟨cellsAre_blk (O.blk (i := 2) (by simp) rfl).2 0 4, ?_⟩
      refine F_ref0_EqStored.is O (fun h O => (O.view 3 u8_len (by simp) rfl).1) (fun h O => (O.view 0 u8_len (by simp) rfl).1) ok.v ok.v fun h O => ?_
      refine brr_ff (by simp) ?_
      repeat (first | (with_reducible refine al_id ?_); refine O.al fun _ h O => ?_ | (with_reducible refine nn_id ?_); refine ⟨_, rfl, ?_⟩ | (with_reducible refine ld_id ?_); (first | refine O.ld 0 rfl ?_ | refine O.ld 1 rfl ?_ | refine O.ld 2 rfl ?_); (repeat (first | (with_reducible refine ldL_n ?_) | refine ldL_s ?_ | refine ldL_c ?_)) | (with_reducible refine st_ad (by first | (with_reducible rfl) | (simp only [pt_add, Nat.zero_add, Nat.add_zero, Nat.reduceAdd]; with_reducible rfl)) ?_); (first | refine O.st 0 rfl (by simp) rfl fun h O => ?_ | refine O.st 1 rfl (by simp) rfl fun h O => ?_ | refine O.st 2 rfl (by simp) rfl fun h O => ?_); (dsimp only [V.put, List.set, List.length_cons, List.length_nil] at O) | (with_reducible refine ca_id ?_); (first | refine O.ca 0 1 rfl ?_ | refine O.ca 0 2 rfl ?_ | refine O.ca 1 1 rfl ?_ | refine O.ca 1 2 rfl ?_ | refine O.ca 2 1 rfl ?_ | refine O.ca 2 2 rfl ?_))
      -- buf s2, repR q, x544, buf s, repR p, hole, a, bk, sh, pl, buf, many, x3
      replace O := O.sel [3, 8, 4, 1, 5, 6, 7, 9, 10, 11, 12] 13 rfl (Nat.le_add_left _ _)
      simp only [selT, List.map, nth, List.drop, List.cons_append, List.nil_append] at O
      refine F_law3_Shelf_Bytes.is (by omega) ok.v O fun h O => ?_
      have O := Sat.give (f := prR) (y := some (p, q, r)) (Sat.sepI (O.sel [1, 2, 3, 4, 5, 0, 6, 7, 8, 9] 10 rfl (Nat.le_add_left _ _))) (List.getElem?_eq_some_iff.1 hxk).1
      rw [set_same hxk] at O
      rw [wrap64 (by omega) (by omega)]
      refine hn (m - 1) _ _ (by omega) ⟨by omega, by omega, ?_⟩
      rw [show 3 * i.toNat + 1 + (n + 1).toNat = 3 * i.toNat + 1 + n.toNat + 1 by omega]
      exact O.sel [1, 2, 0, 3, 4, 5, 6, 7] 8 rfl (Nat.le_add_left _ _)
  intro j71 hj71
  refine brr_eq (fun d1 => ?_) (fun d1 => ?_)
  · have hdv := hearS_val (m := o.m) ok
    refine O.ld 0 rfl ?_
    repeat (first | (with_reducible refine ldL_n ?_) | refine ldL_s ?_ | refine ldL_c ?_)
    refine O.al fun x94 h O => ?_
    refine O.st 0 rfl (by simp) rfl fun h O => ?_
    dsimp only [V.put, List.set] at O
    repeat (first | (with_reducible refine al_id ?_); refine O.al fun _ h O => ?_ | (with_reducible refine nn_id ?_); refine ⟨_, rfl, ?_⟩ | (with_reducible refine ld_id ?_); (first | refine O.ld 0 rfl ?_ | refine O.ld 1 rfl ?_); (repeat (first | (with_reducible refine ldL_n ?_) | refine ldL_s ?_ | refine ldL_c ?_)) | (with_reducible refine st_ad (by first | (with_reducible rfl) | (simp only [pt_add, Nat.zero_add, Nat.add_zero, Nat.reduceAdd]; with_reducible rfl)) ?_); (first | refine O.st 0 rfl (by simp) rfl fun h O => ?_ | refine O.st 1 rfl (by simp) rfl fun h O => ?_); (dsimp only [V.put, List.set, List.length_cons, List.length_nil] at O) | (with_reducible refine ca_id ?_); (first | refine O.ca 0 1 rfl ?_ | refine O.ca 0 2 rfl ?_ | refine O.ca 1 1 rfl ?_ | refine O.ca 1 2 rfl ?_))
    replace O := O.sel [6, 0, 1, 2, 3, 4, 5, 7, 8, 9] 10 rfl (Nat.le_add_left _ _)
    simp only [selT, List.map, nth, List.drop, List.cons_append, List.nil_append] at O
    refine F_law3_Place_Bytes.is (fun h O => oo.mv.kept O.kept) oo.mb O fun s98 h O => ?_
    repeat (first | (with_reducible refine al_id ?_); refine O.al fun _ h O => ?_ | (with_reducible refine nn_id ?_); refine ⟨_, rfl, ?_⟩ | (with_reducible refine ld_id ?_); (first | refine O.ld 0 rfl ?_ | refine O.ld 1 rfl ?_ | refine O.ld 2 rfl ?_); (repeat (first | (with_reducible refine ldL_n ?_) | refine ldL_s ?_ | refine ldL_c ?_)) | (with_reducible refine st_ad (by first | (with_reducible rfl) | (simp only [pt_add, Nat.zero_add, Nat.add_zero, Nat.reduceAdd]; with_reducible rfl)) ?_); (first | refine O.st 0 rfl (by simp) rfl fun h O => ?_ | refine O.st 1 rfl (by simp) rfl fun h O => ?_ | refine O.st 2 rfl (by simp) rfl fun h O => ?_); (dsimp only [V.put, List.set, List.length_cons, List.length_nil] at O) | (with_reducible refine ca_id ?_); (first | refine O.ca 0 1 rfl ?_ | refine O.ca 0 2 rfl ?_ | refine O.ca 1 1 rfl ?_ | refine O.ca 1 2 rfl ?_ | refine O.ca 2 1 rfl ?_ | refine O.ca 2 2 rfl ?_))
    -- x20, buf s98, x94, x64, a, bk, many, sh, buf, many, x3
    have O := ((O.sel [6, 0, 1, 2, 3, 4, 5, 7, 8, 9, 10] 11 rfl (Nat.le_add_left _ _)).take k hxk).sep
    have O : Sat h0 h (repR p r :: repR q r :: hole prR xs k :: own x20 [.slice s98.ptr s98.len s98.cap] :: buf 1 u8 s98 o.m.b :: own x94 (mgC { o.m with v := s98 }) :: own x64 (ropC o) :: own a (stR xs bk false) :: bkR bk i.toNat :: shR x18 (3 * i.toNat) :: buf 1 ptrc ot (os.map (·.1)) :: many oR os :: own x3 [.slice s1.ptr s1.len s1.cap, .slice s2.ptr s2.len s2.cap] :: L) := O
    generalize hd : (hearS r o.m).2 = d at hdv
    refine jn1 (fun f h' => ∃ x s, f = pt x 0 ∧ Sat h0 h' (own x (hdC d s) :: buf 1 u8 s d.val :: repR p (hearS r o.m).1 :: repR q r :: hole prR xs k :: plR x20 :: own x64 (ropC o) :: own a (stR xs bk false) :: bkR bk i.toNat :: shR x18 (3 * i.toNat) :: buf 1 ptrc ot (os.map (·.1)) :: many oR os :: own x3 [.slice s1.ptr s1.len s1.cap, .slice s2.ptr s2.len s2.cap] :: L)) ?_ ?_
    case refine_2 =>
      subst hd
      intro j hj
      refine ⟨?_, ?_⟩
      · refine ⟨_, rfl, ?_⟩
        refine sr_n hxk hk O 7 rfl fun c hc => ?_
        refine O.ld 5 rfl ?_
        repeat (first | (with_reducible refine ldL_n ?_) | refine ldL_s ?_ | refine ldL_c ?_)
        refine F_replica_Replica_Hear.is (m := { o.m with v := s98 }) ok (fun h O => (O.view 3 u8_len (by simp) rfl).1) oo.mb O fun s h O => ?_
        refine O.al fun x153 h O => ?_
        refine ⟨hc O 9 rfl, cellsAre_blk (O.blk (i := 7) (by simp) rfl).2 0 22, ?_⟩
        refine O.st 0 rfl (by simp) rfl fun h O => ?_
        dsimp only [V.put, List.set] at O
        have O := Sat.plI (O.sel [5, 6, 0, 1, 2, 3, 4, 8, 9, 10, 11, 12, 13, 14] 15 rfl (Nat.le_add_left _ _))
        exact hj _ _ ⟨x153, s, rfl, O.sel [1, 2, 3, 4, 5, 0, 6, 7, 8, 9, 10, 11, 12] 13 rfl (Nat.le_add_left _ _)⟩
      · refine ⟨_, rfl, ?_⟩
        refine sr_n hxk hk O 7 rfl fun c hc => ?_
        refine O.ld 5 rfl ?_
        repeat (first | (with_reducible refine ldL_n ?_) | refine ldL_s ?_ | refine ldL_c ?_)
        refine O.al fun x153 h O => ?_
        refine ⟨hc O 8 rfl, cellsAre_blk (O.blk (i := 6) (by simp) rfl).2 0 22, ?_⟩
        replace O := O.sel [1, 0, 2, 3, 4, 5, 6, 7, 8, 9, 10, 11, 12, 13] 14 rfl (Nat.le_add_left _ _)
        simp only [selT, List.map, nth, List.drop, List.cons_append, List.nil_append] at O
        refine F_replica_Replica_Hear.is (m := { o.m with v := s98 }) ok (fun h O => (O.view 4 u8_len (by simp) rfl).1) oo.mb O fun s h O => ?_
        replace O := O.sel [2, 0, 1, 3, 4, 5, 6, 7, 8, 9, 10, 11, 12, 13, 14] 15 rfl (Nat.le_add_left _ _)
        simp only [selT, List.map, nth, List.drop, List.cons_append, List.nil_append] at O
        refine O.st 0 rfl (by simp) rfl fun h O => ?_
        dsimp only [V.put, List.set] at O
        have O := Sat.plI (O.sel [5, 6, 0, 1, 2, 3, 4, 8, 9, 10, 11, 12, 13, 14] 15 rfl (Nat.le_add_left _ _))
        exact hj _ _ ⟨x153, s, rfl, O.sel [1, 2, 3, 4, 5, 0, 6, 7, 8, 9, 10, 11, 12] 13 rfl (Nat.le_add_left _ _)⟩
    clear O
    rintro f h ⟨x, s, rfl, O⟩
    refine jn1 (fun f h' => ∃ y u, f = pt y 0 ∧ Sat h0 h' (own y (hdC d u) :: buf 1 u8 u d.val :: own x (hdC d s) :: buf 1 u8 s d.val :: repR p (hearS r o.m).1 :: repR q (hearS r o.m).1 :: hole prR xs k :: plR x20 :: own a (stR xs bk false) :: bkR bk i.toNat :: shR x18 (3 * i.toNat) :: buf 1 ptrc ot (os.map (·.1)) :: many oR os :: own x3 [.slice s1.ptr s1.len s1.cap, .slice s2.ptr s2.len s2.cap] :: L)) ?_ ?_
    case refine_2 =>
      subst hd
      intro j hj
      -- x, buf s, repR p, repR q, hole, pl, x64, a ..
      refine ⟨?_, ?_, ?_⟩
      · refine ⟨_, rfl, ?_⟩
        refine sr_w h2 hxk hk O 7 rfl fun c hc => ?_
        refine O.ld 6 rfl ?_
        repeat (first | (with_reducible refine ldL_n ?_) | refine ldL_s ?_ | refine ldL_c ?_)
        refine F_ref0_CopyMsg.is (m := o.m) O (fun h O => oo.mv.kept O.kept) oo.mb fun sc h O => ?_
        refine ⟨hc O 8 rfl, ?_⟩
        replace O := O.sel [4, 0, 1, 2, 3, 5, 6, 7, 8, 9, 10, 11, 12, 13] 14 rfl (Nat.le_add_left _ _)
        simp only [selT, List.map, nth, List.drop, List.cons_append, List.nil_append] at O
        refine F_ref9_Replica_Hear.is (m := { o.m with v := sc }) ok (fun h O => (O.view 0 u8_len (by simp) rfl).1) oo.mb O fun u h O => ?_
        refine O.al fun y h O => ?_
        refine ⟨hc O 10 rfl, cellsAre_blk (O.blk (i := 9) (by simp) rfl).2 4 22, ?_⟩
        refine O.st 0 rfl (by simp) rfl fun h O => ?_
        dsimp only [V.put, List.set] at O
        exact hj _ _ ⟨y, u, rfl, O.sel [0, 1, 4, 5, 6, 2, 7, 8, 10, 11, 12, 13, 14, 15] 16 rfl (Nat.le_add_left _ _)⟩
      · refine ⟨_, rfl, ?_⟩
        refine sr_w h2 hxk hk O 7 rfl fun c hc => ?_
        refine O.ld 6 rfl ?_
        repeat (first | (with_reducible refine ldL_n ?_) | refine ldL_s ?_ | refine ldL_c ?_)
        refine F_ref0_CopyMsg.is (m := o.m) O (fun h O => oo.mv.kept O.kept) oo.mb fun sc h O => ?_
        refine ⟨hc O 8 rfl, ?_⟩
        refine O.al fun y h O => ?_
        refine ⟨hc O 9 rfl, cellsAre_blk (O.blk (i := 8) (by simp) rfl).2 4 22, ?_⟩
        replace O := O.sel [5, 1, 0, 2, 3, 4, 6, 7, 8, 9, 10, 11, 12, 13, 14] 15 rfl (Nat.le_add_left _ _)
        simp only [selT, List.map, nth, List.drop, List.cons_append, List.nil_append] at O
        refine F_ref9_Replica_Hear.is (m := { o.m with v := sc }) ok (fun h O => (O.view 0 u8_len (by simp) rfl).1) oo.mb O fun u h O => ?_
        replace O := O.sel [3, 0, 1, 2, 4, 5, 6, 7, 8, 9, 10, 11, 12, 13, 14, 15] 16 rfl (Nat.le_add_left _ _)
        simp only [selT, List.map, nth, List.drop, List.cons_append, List.nil_append] at O
        refine O.st 0 rfl (by simp) rfl fun h O => ?_
        dsimp only [V.put, List.set] at O
        exact hj _ _ ⟨y, u, rfl, O.sel [0, 1, 4, 5, 6, 2, 7, 8, 10, 11, 12, 13, 14, 15] 16 rfl (Nat.le_add_left _ _)⟩
      · refine ⟨_, rfl, ?_⟩
        refine sr_w h2 hxk hk O 7 rfl fun c hc => ?_
        refine O.ld 6 rfl ?_
        repeat (first | (with_reducible refine ldL_n ?_) | refine ldL_s ?_ | refine ldL_c ?_)
        refine O.al fun y h O => ?_
        refine ⟨hc O 8 rfl, cellsAre_blk (O.blk (i := 7) (by simp) rfl).2 4 22, ?_⟩
        refine F_ref0_CopyMsg.is (m := o.m) O (fun h O => oo.mv.kept O.kept) oo.mb fun sc h O => ?_
        refine ⟨hc O 9 rfl, ?_⟩
        replace O := O.sel [5, 0, 1, 2, 3, 4, 6, 7, 8, 9, 10, 11, 12, 13, 14] 15 rfl (Nat.le_add_left _ _)
        simp only [selT, List.map, nth, List.drop, List.cons_append, List.nil_append] at O
        refine F_ref9_Replica_Hear.is (m := { o.m with v := sc }) ok (fun h O => (O.view 0 u8_len (by simp) rfl).1) oo.mb O fun u h O => ?_
        replace O := O.sel [3, 0, 1, 2, 4, 5, 6, 7, 8, 9, 10, 11, 12, 13, 14, 15] 16 rfl (Nat.le_add_left _ _)
        simp only [selT, List.map, nth, List.drop, List.cons_append, List.nil_append] at O
        refine O.st 0 rfl (by simp) rfl fun h O => ?_
        dsimp only [V.put, List.set] at O
        exact hj _ _ ⟨y, u, rfl, O.sel [0, 1, 4, 5, 6, 2, 7, 8, 10, 11, 12, 13, 14, 15] 16 rfl (Nat.le_add_left _ _)⟩
    clear O
    rintro f h ⟨y, u, rfl, O⟩
    refine jn1 (fun z h' => z = false ∧ Sat h0 h' (own y (hdC d u) :: buf 1 u8 u d.val :: own x (hdC d s) :: buf 1 u8 s d.val :: repR p (hearS r o.m).1 :: repR q (hearS r o.m).1 :: hole prR xs k :: plR x20 :: own a (stR xs bk false) :: bkR bk i.toNat :: shR x18 (3 * i.toNat) :: buf 1 ptrc ot (os.map (·.1)) :: many oR os :: own x3 [.slice s1.ptr s1.len s1.cap, .slice s2.ptr s2.len s2.cap] :: L)) ?_ ?_
    case refine_2 =>
      intro j hj
      repeat (first | (with_reducible refine al_id ?_); refine O.al fun _ h O => ?_ | (with_reducible refine nn_id ?_); refine ⟨_, rfl, ?_⟩ | (with_reducible refine ld_id ?_); (first | refine O.ld 0 rfl ?_ | refine O.ld 1 rfl ?_ | refine O.ld 2 rfl ?_); (repeat (first | (with_reducible refine ldL_n ?_) | refine ldL_s ?_ | refine ldL_c ?_)) | (with_reducible refine st_ad (by first | (with_reducible rfl) | (simp only [pt_add, Nat.zero_add, Nat.add_zero, Nat.reduceAdd]; with_reducible rfl)) ?_); (first | refine O.st 0 rfl (by simp) rfl fun h O => ?_ | refine O.st 1 rfl (by simp) rfl fun h O => ?_ | refine O.st 2 rfl (by simp) rfl fun h O => ?_); (dsimp only [V.put, List.set, List.length_cons, List.length_nil] at O) | (with_reducible refine ca_id ?_); (first | refine O.ca 0 1 rfl ?_ | refine O.ca 0 2 rfl ?_ | refine O.ca 1 1 rfl ?_ | refine O.ca 1 2 rfl ?_ | refine O.ca 2 1 rfl ?_ | refine O.ca 2 2 rfl ?_))
      refine F_ref0_EqMsg.is (m := hdM d s) (t := u) O (fun h O => (O.view 3 u8_len (by simp) rfl).1) (fun h O => (O.view 1 u8_len (by simp) rfl).1) hdv fun h O => ?_
      refine brr_ff rfl ?_
      repeat (first | (with_reducible refine al_id ?_); refine O.al fun _ h O => ?_ | (with_reducible refine nn_id ?_); refine ⟨_, rfl, ?_⟩ | (with_reducible refine ld_id ?_); (first | refine O.ld 0 rfl ?_ | refine O.ld 1 rfl ?_ | refine O.ld 2 rfl ?_); (repeat (first | (with_reducible refine ldL_n ?_) | refine ldL_s ?_ | refine ldL_c ?_)) | (with_reducible refine st_ad (by first | (with_reducible rfl) | (simp only [pt_add, Nat.zero_add, Nat.add_zero, Nat.reduceAdd]; with_reducible rfl)) ?_); (first | refine O.st 0 rfl (by simp) rfl fun h O => ?_ | refine O.st 1 rfl (by simp) rfl fun h O => ?_ | refine O.st 2 rfl (by simp) rfl fun h O => ?_); (dsimp only [V.put, List.set, List.length_cons, List.length_nil] at O) | (with_reducible refine ca_id ?_); (first | refine O.ca 0 1 rfl ?_ | refine O.ca 0 2 rfl ?_ | refine O.ca 1 1 rfl ?_ | refine O.ca 1 2 rfl ?_ | refine O.ca 2 1 rfl ?_ | refine O.ca 2 2 rfl ?_))
      exact hj _ _ ⟨by simp, O⟩
    clear O
    rintro z h ⟨rfl, O⟩
    refine brr_ff rfl ?_
    repeat (first | (with_reducible refine al_id ?_); refine O.al fun _ h O => ?_ | (with_reducible refine nn_id ?_); refine ⟨_, rfl, ?_⟩ | (with_reducible refine ld_id ?_); (first | refine O.ld 0 rfl ?_ | refine O.ld 1 rfl ?_ | refine O.ld 2 rfl ?_); (repeat (first | (with_reducible refine ldL_n ?_) | refine ldL_s ?_ | refine ldL_c ?_)) | (with_reducible refine st_ad (by first | (with_reducible rfl) | (simp only [pt_add, Nat.zero_add, Nat.add_zero, Nat.reduceAdd]; with_reducible rfl)) ?_); (first | refine O.st 0 rfl (by simp) rfl fun h O => ?_ | refine O.st 1 rfl (by simp) rfl fun h O => ?_ | refine O.st 2 rfl (by simp) rfl fun h O => ?_); (dsimp only [V.put, List.set, List.length_cons, List.length_nil] at O) | (with_reducible refine ca_id ?_); (first | refine O.ca 0 1 rfl ?_ | refine O.ca 0 2 rfl ?_ | refine O.ca 1 1 rfl ?_ | refine O.ca 1 2 rfl ?_ | refine O.ca 2 1 rfl ?_ | refine O.ca 2 2 rfl ?_))
    -- y, buf u, x, buf s, repR p, repR q, hole, pl, a, bk, sh, buf, many, x3
    replace O := O.sel [3, 10, 4, 5, 6, 7, 8, 9, 11, 12, 13] 14 rfl (Nat.le_add_left _ _)
    simp only [selT, List.map, nth, List.drop, List.cons_append, List.nil_append] at O
    refine F_law3_Shelf_Bytes.is (by omega) hdv O fun h O => ?_
    have O := Sat.give (f := prR) (y := some (p, q, (hearS r o.m).1)) (Sat.sepI (O.sel [1, 2, 3, 4, 5, 6, 0, 7, 8, 9] 10 rfl (Nat.le_add_left _ _))) (List.getElem?_eq_some_iff.1 hxk).1
    have O : Sat h0 h (bkR bk i.toNat :: own a (stR xs bk false) :: many prR (xs.set k (some (p, q, (hearS r o.m).1))) :: shR x18 (3 * i.toNat + 1) :: plR x20 :: buf 1 ptrc ot (os.map (·.1)) :: many oR os :: own x3 [.slice s1.ptr s1.len s1.cap, .slice s2.ptr s2.len s2.cap] :: L) := O.sel [3, 2, 0, 4, 1, 5, 6, 7] 8 rfl (Nat.le_add_left _ _)
    have O := bk_up O (Nat.le_succ i.toNat)
    rw [← stR_same (r' := (hearS r o.m).1) hxk] at O
    exact hj71 _ ⟨xs.set k (some (p, q, (hearS r o.m).1)), by rw [List.length_set]; exact h2, prC_put hx (hearS_ok ok oo.mb oo.mspan), O.swap⟩
  · refine O.ld 0 rfl ?_
    repeat (first | (with_reducible refine ldL_n ?_) | refine ldL_s ?_ | refine ldL_c ?_)
    refine F_law9_stage_plays.is (o := o) h2 hx (by omega) oo O.drop fun ys h h2 hy O => ?_
    refine brr_ff rfl ?_
    have O := sh_up (O.sel [3, 0, 1, 2, 4, 5, 6, 7] 8 rfl (Nat.le_add_left _ _)) (show 3 * i.toNat ≤ 3 * i.toNat + 1 by omega)
    exact hj71 _ ⟨ys, h2, hy, O.sel [1, 2, 3, 0, 4, 5, 6, 7] 8 rfl (Nat.le_add_left _ _)⟩
end
theorem replicaFresh_main (H : Heap) (cs : List Value) (F : Fit H 140737488351232 tyRScript cs) : E_law9_ReplicaFresh [.agg cs.toArray] H (fun r h' => r = .bool true ∧ KeptH H h') := by
  obtain ⟨t1, _, rfl, t1S, F⟩ := Fit.s F
  obtain ⟨t2, _, rfl, t2S, F⟩ := Fit.s F
  obtain rfl := Fit.e F
  refine Eq.mpr (E_law9_ReplicaFresh.at F_law9_ReplicaFresh t1 t2 H _) ?_
  obtain ⟨ops, Vo⟩ := t2S.rops
  obtain ⟨_, b2, lv, Vl⟩ := t1S.bytes
  have hlv := Vl.len
  rw [F_law9_ReplicaFresh.eq_1, F_law9_ReplicaFresh_of.eq_1]
  refine Sat.al (Sat.nil H) fun x3 h1 O => ?_
  refine jn1 (fun z h' => z = true ∧ KeptH H h') (fun z h ⟨e, hk⟩ => ⟨by rw [e], hk⟩) fun j hj => ?_
  repeat (first | (with_reducible refine al_id ?_); refine O.al fun _ h O => ?_ | (with_reducible refine nn_id ?_); refine ⟨_, rfl, ?_⟩ | (with_reducible refine ld_id ?_); (first | refine O.ld 0 rfl ?_); (repeat (first | (with_reducible refine ldL_n ?_) | refine ldL_s ?_ | refine ldL_c ?_)) | (with_reducible refine st_ad (by first | (with_reducible rfl) | (simp only [pt_add, Nat.zero_add, Nat.add_zero, Nat.reduceAdd]; with_reducible rfl)) ?_); (first | refine O.st 0 rfl (by simp) rfl fun h O => ?_); (dsimp only [V.put, List.set, List.length_cons, List.length_nil] at O) | (with_reducible refine ca_id ?_); (first | refine O.ca 0 1 rfl ?_ | refine O.ca 0 2 rfl ?_))
  refine F_law9_play.is Vl (by omega) Vo O fun h O => ?_
  refine brr_tt rfl ?_
  repeat (first | (with_reducible refine al_id ?_); refine O.al fun _ h O => ?_ | (with_reducible refine nn_id ?_); refine ⟨_, rfl, ?_⟩ | (with_reducible refine ld_id ?_); (first | refine O.ld 0 rfl ?_); (repeat (first | (with_reducible refine ldL_n ?_) | refine ldL_s ?_ | refine ldL_c ?_)) | (with_reducible refine st_ad (by first | (with_reducible rfl) | (simp only [pt_add, Nat.zero_add, Nat.add_zero, Nat.reduceAdd]; with_reducible rfl)) ?_); (first | refine O.st 0 rfl (by simp) rfl fun h O => ?_); (dsimp only [V.put, List.set, List.length_cons, List.length_nil] at O) | (with_reducible refine ca_id ?_); (first | refine O.ca 0 1 rfl ?_ | refine O.ca 0 2 rfl ?_))
  refine F_law9_held.is Vl (by omega) Vo O fun h O => ?_
  exact hj _ _ ⟨rfl, O.kept⟩
end Go.Proofs.Ytcbelendjpnmiaa.V
