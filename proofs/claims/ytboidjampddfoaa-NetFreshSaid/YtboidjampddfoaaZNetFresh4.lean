import Derived.Test.YtboidjampddfoaaZNetFresh3
import Derived.Test.YtboidjampddfoaaProg
namespace Go.Proofs.Ytboidjampddfoaa.V
open Go Go.RowKit
set_option linter.unusedVariables false
set_option maxRecDepth 100000
def F_law6_held.l1 (f61_ : Option Addr → Int → Heap → (Int → Sl → Bool → Heap → Prop) → Prop) (f62_ : Option Addr → Heap → (Int → Heap → Prop) → Prop) (f63_ : Option Addr → Sl → Heap → (Heap → Prop) → Prop) (a8 a21 a42 : Addr) (r46 : Int) (j80 : Heap → Prop) : Int → Heap → Prop :=
  wl [(10, .one (.int .i64))] (fun (next81 : Int → Heap → Prop) (n82 : Int) (h83 : Heap) =>
  jn [(112, .one .bool)] (fun (x88 : Bool) (h89 : Heap) =>
  brr x88
  (jn [(11, .one .addr)] (fun (f115 : Addr) (h116 : Heap) =>
  jn [(13, .one .addr)] (fun (g166 : Addr) (h167 : Heap) =>
  ld [.sl] (f115.add 1) h167 fun (v168 : Sl) =>
  f63_ (some a21) v168 h167 fun  (h169 : Heap) =>
  ld [.sl] (g166.add 1) h169 fun (v170 : Sl) =>
  f63_ (some a21) v170 h169 fun  (h171 : Heap) =>
  next81 (IntKind.i64.wrap (n82 + 1)) h171) (fun (j117 : Addr → Heap → Prop) =>
  (nn (some a8) fun (a118 : Addr) =>
  ixA 1 (a118.add 0) 2 r46 fun (a119 : Addr) =>
  ld [.ptr] a119 h116 fun (v120 : Option Addr) =>
  nn v120 fun (a121 : Addr) =>
  nn (some a8) fun (a122 : Addr) =>
  ixA 1 (a122.add 2) 2 r46 fun (a123 : Addr) =>
  ld [.ptr] a123 h116 fun (v124 : Option Addr) =>
  f62_ v124 h116 fun (r125 : Int) (h126 : Heap) =>
  cellsAre h126 a119 [.pointer v120] ∧
  f61_ (some (a121.add 0)) (IntKind.i64.wrap (r125 - 1)) h126 fun (r127 : Int) (r128 : Sl) (r129 : Bool) (h130 : Heap) =>
  al 63 [.int .i64 0, .slice none 0 0] h130 fun (a131 : Addr) (h132 : Heap) =>
  cellsAre h132 a119 [.pointer v120] ∧
  cellsAre h132 a123 [.pointer v124] ∧
  st a131 [.int .i64 r127, .slice r128.ptr r128.len r128.cap] h132 fun (h133 : Heap) =>
  j117 a131 h133) ∧
  (nn (some a8) fun (a134 : Addr) =>
  ixA 1 (a134.add 0) 2 r46 fun (a135 : Addr) =>
  ld [.ptr] a135 h116 fun (v136 : Option Addr) =>
  nn v136 fun (a137 : Addr) =>
  nn (some a8) fun (a138 : Addr) =>
  ixA 1 (a138.add 2) 2 r46 fun (a139 : Addr) =>
  ld [.ptr] a139 h116 fun (v140 : Option Addr) =>
  f62_ v140 h116 fun (r141 : Int) (h142 : Heap) =>
  cellsAre h142 a135 [.pointer v136] ∧
  al 63 [.int .i64 0, .slice none 0 0] h142 fun (a143 : Addr) (h144 : Heap) =>
  cellsAre h144 a135 [.pointer v136] ∧
  cellsAre h144 a139 [.pointer v140] ∧
  f61_ (some (a137.add 0)) (IntKind.i64.wrap (r141 - 1)) h144 fun (r145 : Int) (r146 : Sl) (r147 : Bool) (h148 : Heap) =>
  st a143 [.int .i64 r145, .slice r146.ptr r146.len r146.cap] h148 fun (h149 : Heap) =>
  j117 a143 h149) ∧
  (nn (some a8) fun (a150 : Addr) =>
  ixA 1 (a150.add 0) 2 r46 fun (a151 : Addr) =>
  ld [.ptr] a151 h116 fun (v152 : Option Addr) =>
  nn v152 fun (a153 : Addr) =>
  nn (some a8) fun (a154 : Addr) =>
  ixA 1 (a154.add 2) 2 r46 fun (a155 : Addr) =>
  ld [.ptr] a155 h116 fun (v156 : Option Addr) =>
  al 63 [.int .i64 0, .slice none 0 0] h116 fun (a157 : Addr) (h158 : Heap) =>
  cellsAre h158 a151 [.pointer v152] ∧
  cellsAre h158 a155 [.pointer v156] ∧
  f62_ v156 h158 fun (r159 : Int) (h160 : Heap) =>
  cellsAre h160 a151 [.pointer v152] ∧
  f61_ (some (a153.add 0)) (IntKind.i64.wrap (r159 - 1)) h160 fun (r161 : Int) (r162 : Sl) (r163 : Bool) (h164 : Heap) =>
  st a157 [.int .i64 r161, .slice r162.ptr r162.len r162.cap] h164 fun (h165 : Heap) =>
  j117 a157 h165))) (fun (j90 : Addr → Heap → Prop) =>
  (nn (some a8) fun (a91 : Addr) =>
  ixA 1 (a91.add 0) 2 r46 fun (a92 : Addr) =>
  ld [.ptr] a92 h89 fun (v93 : Option Addr) =>
  nn v93 fun (a94 : Addr) =>
  ld [.int .i64] (a42.add 2) h89 fun (v95 : Int) =>
  f61_ (some (a94.add 0)) v95 h89 fun (r96 : Int) (r97 : Sl) (r98 : Bool) (h99 : Heap) =>
  al 63 [.int .i64 0, .slice none 0 0] h99 fun (a100 : Addr) (h101 : Heap) =>
  cellsAre h101 a92 [.pointer v93] ∧
  cellsAre h101 (a42.add 2) [.int .i64 v95] ∧
  st a100 [.int .i64 r96, .slice r97.ptr r97.len r97.cap] h101 fun (h102 : Heap) =>
  j90 a100 h102) ∧
  (nn (some a8) fun (a103 : Addr) =>
  ixA 1 (a103.add 0) 2 r46 fun (a104 : Addr) =>
  ld [.ptr] a104 h89 fun (v105 : Option Addr) =>
  nn v105 fun (a106 : Addr) =>
  ld [.int .i64] (a42.add 2) h89 fun (v107 : Int) =>
  al 63 [.int .i64 0, .slice none 0 0] h89 fun (a108 : Addr) (h109 : Heap) =>
  cellsAre h109 a104 [.pointer v105] ∧
  cellsAre h109 (a42.add 2) [.int .i64 v107] ∧
  f61_ (some (a106.add 0)) v107 h109 fun (r110 : Int) (r111 : Sl) (r112 : Bool) (h113 : Heap) =>
  st a108 [.int .i64 r110, .slice r111.ptr r111.len r111.cap] h113 fun (h114 : Heap) =>
  j90 a108 h114)))
  (j80 h89)) (fun (j84 : Bool → Heap → Prop) =>
  brr (decide (n82 < 2))
  (nn (some a8) fun (a85 : Addr) =>
  ixA 1 (a85.add 2) 2 r46 fun (a86 : Addr) =>
  ld [.ptr] a86 h83 fun (v87 : Option Addr) =>
  j84 (!v87.isNone) h83)
  (j84 false h83)))
def F_law6_held.l2 (f20_ : Int → Int → Heap → (Int → Heap → Prop) → Prop) (f21_ : Int → Heap → (Option Addr → Int → Heap → Prop) → Prop) (f22_ : Int → Heap → (Int → Heap → Prop) → Prop) (f24_ : Option Addr → Int → Sl → Heap → (Bool → Heap → Prop) → Prop) (f56_ : Option Addr → Int → Int → Int → Int → Sl → Heap → (Bool → Heap → Prop) → Prop) (f59_ : Option Addr → Sl → Heap → (Sl → Heap → Prop) → Prop) (f60_ : Option Addr → Int → Sl → Heap → (Bool → Heap → Prop) → Prop) (f61_ : Option Addr → Int → Heap → (Int → Sl → Bool → Heap → Prop) → Prop) (f62_ : Option Addr → Heap → (Int → Heap → Prop) → Prop) (f63_ : Option Addr → Sl → Heap → (Heap → Prop) → Prop) (Q : Bool → Heap → Prop) (a4 a8 a21 a23 : Addr) (j25 : Sl → Heap → Prop) : Sl → Int → Heap → Prop :=
  wl [(6, .one .sl), (7, .one (.int .i64))] (fun (next26 : Sl → Int → Heap → Prop) (others27 : Sl) (i28 : Int) (h29 : Heap) =>
  jn [(50, .one .bool)] (fun (x32 : Bool) (h33 : Heap) =>
  brr x32
  (jn [(6, .one .sl)] (fun (others192 : Sl) (h193 : Heap) =>
  next26 others192 (IntKind.i64.wrap (i28 + 1)) h193) (fun (j34 : Sl → Heap → Prop) =>
  ld [.sl] (a4.add 2) h33 fun (v35 : Sl) =>
  ixS 5 v35 i28 fun (a36 : Addr) =>
  ld [.int .i64, .int .i64, .int .i64, .int .i64, .sl] a36 h33 fun (v37 v38 v39 v40 : Int) (v41 : Sl) =>
  al 123 [.int .i64 0, .int .i64 0, .int .i64 0, .int .i64 0, .slice none 0 0] h33 fun (a42 : Addr) (h43 : Heap) =>
  st a42 [.int .i64 v37, .int .i64 v38, .int .i64 v39, .int .i64 v40, .slice v41.ptr v41.len v41.cap] h43 fun (h44 : Heap) =>
  ld [.int .i64] (a42.add 1) h44 fun (v45 : Int) =>
  f20_ v45 2 h44 fun (r46 : Int) (h47 : Heap) =>
  jn [(72, .one .bool)] (fun (x53 : Bool) (h54 : Heap) =>
  jn [] (fun  (h79 : Heap) =>
  jn [] (fun  (h172 : Heap) =>
  (8 : Int) ≠ 0 ∧
  jn [(6, .one .sl)] (fun (others190 : Sl) (h191 : Heap) =>
  j34 others190 h191) (fun (j173 : Sl → Heap → Prop) =>
  brr ((i28.tmod 8) == 5)
  (f21_ 1 h172 fun (r174 : Option Addr) (r175 : Int) (h176 : Heap) =>
  jn [(181, .one .bool)] (fun (x184 : Bool) (h185 : Heap) =>
  brr x184
  (Q false h185)
  (al 47 [.pointer r174] h185 fun (a186 : Addr) (h187 : Heap) =>
  app 47 1 8 (.pointer none) others27 (some a186) 1 h187 fun (s188 : Sl) (h189 : Heap) =>
  j173 s188 h189)) (fun (j177 : Bool → Heap → Prop) =>
  f22_ r175 h176 fun (r178 : Int) (h179 : Heap) =>
  brr (r178 != 0)
  (j177 true h179)
  (brr r174.isNone
  (j177 true h179)
  (al 5 [.int .u8 (IntKind.u8.wrap ((others27.len : Nat) : Int)), .int .u8 111] h179 fun (a180 : Addr) (h181 : Heap) =>
  f24_ r174 ((others27.len : Nat) : Int) ⟨(some a180), 2, 2⟩ h181 fun (r182 : Bool) (h183 : Heap) =>
  j177 (!r182) h183))))
  (j173 others27 h172))) (fun (j80 : Heap → Prop) =>
  F_law6_held.l1 f61_ f62_ f63_ a8 a21 a42 r46 j80 0 h79)) (fun (j55 : Heap → Prop) =>
  brr x53
  (ld [.int .i64, .int .i64, .int .i64, .int .i64, .sl] a42 h54 fun (v56 v57 v58 v59 : Int) (v60 : Sl) =>
  f56_ (some a8) v56 v57 v58 v59 v60 h54 fun (r61 : Bool) (h62 : Heap) =>
  brr (!r61)
  (Q false h62)
  (j55 h62))
  (nn (some a8) fun (a63 : Addr) =>
  ixA 1 (a63.add 0) 2 r46 fun (a64 : Addr) =>
  ld [.ptr] a64 h54 fun (v65 : Option Addr) =>
  ld [.int .i64] (a42.add 3) h54 fun (v66 : Int) =>
  ld [.sl] (a42.add 4) h54 fun (v67 : Sl) =>
  nn (some a8) fun (a68 : Addr) =>
  ixA 1 (a68.add 2) 2 r46 fun (a69 : Addr) =>
  ld [.ptr] a69 h54 fun (v70 : Option Addr) =>
  ld [.int .i64] (a42.add 3) h54 fun (v71 : Int) =>
  ld [.sl] (a42.add 4) h54 fun (v72 : Sl) =>
  f59_ (some a23) v67 h54 fun (r73 : Sl) (h74 : Heap) =>
  cellsAre h74 a64 [.pointer v65] ∧
  cellsAre h74 (a42.add 3) [.int .i64 v66] ∧
  cellsAre h74 a69 [.pointer v70] ∧
  cellsAre h74 (a42.add 3) [.int .i64 v71] ∧
  cellsAre h74 (a42.add 4) [.slice v72.ptr v72.len v72.cap] ∧
  f24_ v65 v66 r73 h74 fun (r75 : Bool) (h76 : Heap) =>
  cellsAre h76 a69 [.pointer v70] ∧
  cellsAre h76 (a42.add 3) [.int .i64 v71] ∧
  cellsAre h76 (a42.add 4) [.slice v72.ptr v72.len v72.cap] ∧
  f60_ v70 v71 v72 h76 fun (r77 : Bool) (h78 : Heap) =>
  brr (!(r75 == r77))
  (Q false h78)
  (j55 h78)))) (fun (j48 : Bool → Heap → Prop) =>
  ld [.int .i64] (a42.add 0) h47 fun (v49 : Int) =>
  brr (v49 != 1)
  (j48 true h47)
  (nn (some a8) fun (a50 : Addr) =>
  ixA 1 (a50.add 2) 2 r46 fun (a51 : Addr) =>
  ld [.ptr] a51 h47 fun (v52 : Option Addr) =>
  j48 v52.isNone h47))))
  (j25 others27 h33)) (fun (j30 : Bool → Heap → Prop) =>
  ld [.sl] (a4.add 2) h29 fun (v31 : Sl) =>
  brr (decide (i28 < ((v31.len : Nat) : Int)))
  (j30 (decide (i28 < 400)) h29)
  (j30 false h29)))
def F_law6_held.l3 (f27_ : Option Addr → Int → Heap → (Int → Sl → Bool → Heap → Prop) → Prop) (f64_ : Int → Sl → Int → Sl → Heap → (Bool → Heap → Prop) → Prop) (Q : Bool → Heap → Prop) (others194 : Sl) (j196 : Heap → Prop) : Int → Heap → Prop :=
  wl [(17, .one (.int .i64))] (fun (next197 : Int → Heap → Prop) (i198 : Int) (h199 : Heap) =>
  brr (decide (i198 < ((others194.len : Nat) : Int)))
  (ixS 1 others194 i198 fun (a200 : Addr) =>
  ld [.ptr] a200 h199 fun (v201 : Option Addr) =>
  nn v201 fun (a202 : Addr) =>
  f27_ (some (a202.add 0)) 0 h199 fun (r203 : Int) (r204 : Sl) (r205 : Bool) (h206 : Heap) =>
  al 63 [.int .i64 0, .slice none 0 0] h206 fun (a207 : Addr) (h208 : Heap) =>
  st a207 [.int .i64 r203, .slice r204.ptr r204.len r204.cap] h208 fun (h209 : Heap) =>
  jn [(213, .one .bool)] (fun (x217 : Bool) (h218 : Heap) =>
  brr x217
  (Q false h218)
  (next197 (IntKind.i64.wrap (i198 + 1)) h218)) (fun (j210 : Bool → Heap → Prop) =>
  brr (!r205)
  (j210 true h209)
  (ld [.int .i64, .sl] a207 h209 fun (v211 : Int) (v212 : Sl) =>
  al 5 [.int .u8 (IntKind.u8.wrap i198), .int .u8 111] h209 fun (a213 : Addr) (h214 : Heap) =>
  f64_ v211 v212 i198 ⟨(some a213), 2, 2⟩ h214 fun (r215 : Bool) (h216 : Heap) =>
  j210 (!r215) h216)))
  (j196 h199))
def F_law6_held_of (f20_ : Int → Int → Heap → (Int → Heap → Prop) → Prop) (f21_ : Int → Heap → (Option Addr → Int → Heap → Prop) → Prop) (f22_ : Int → Heap → (Int → Heap → Prop) → Prop) (f24_ : Option Addr → Int → Sl → Heap → (Bool → Heap → Prop) → Prop) (f27_ : Option Addr → Int → Heap → (Int → Sl → Bool → Heap → Prop) → Prop) (f55_ : Option Addr → Int → Int → Heap → (Bool → Heap → Prop) → Prop) (f56_ : Option Addr → Int → Int → Int → Int → Sl → Heap → (Bool → Heap → Prop) → Prop) (f58_ : Option Addr → Int → Heap → (Bool → Heap → Prop) → Prop) (f59_ : Option Addr → Sl → Heap → (Sl → Heap → Prop) → Prop) (f60_ : Option Addr → Int → Sl → Heap → (Bool → Heap → Prop) → Prop) (f61_ : Option Addr → Int → Heap → (Int → Sl → Bool → Heap → Prop) → Prop) (f62_ : Option Addr → Heap → (Int → Heap → Prop) → Prop) (f63_ : Option Addr → Sl → Heap → (Heap → Prop) → Prop) (f64_ : Int → Sl → Int → Sl → Heap → (Bool → Heap → Prop) → Prop) (f65_ : Option Addr → Heap → (Bool → Heap → Prop) → Prop) (s1 s2 : Int) (s3 : Sl) (h : Heap) (Q : Bool → Heap → Prop) : Prop :=
  al 40 [.int .i64 s1, .int .i64 s2, .slice s3.ptr s3.len s3.cap] h fun (a4 : Addr) (h5 : Heap) =>
  al 114 [.slice none 0 0, .slice none 0 0, .int .i64 0, .slice none 0 0, .slice none 0 0, .int .i64 0, .slice none 0 0, .slice none 0 0, .int .i64 0, .slice none 0 0, .slice none 0 0, .int .i64 0, .slice none 0 0, .slice none 0 0, .int .i64 0, .slice none 0 0, .slice none 0 0, .int .i64 0, .slice none 0 0, .slice none 0 0, .int .i64 0, .slice none 0 0, .slice none 0 0, .int .i64 0, .slice none 0 0, .slice none 0 0, .int .i64 0, .slice none 0 0, .slice none 0 0, .int .i64 0, .slice none 0 0, .slice none 0 0, .int .i64 0, .slice none 0 0, .slice none 0 0, .int .i64 0, .int .i64 0, .int .i64 0, .int .i64 0] h5 fun (a6 : Addr) (h7 : Heap) =>
  al 119 [.pointer none, .pointer none, .pointer none, .pointer none, .pointer (some a6), .bool false] h7 fun (a8 : Addr) (h9 : Heap) =>
  jn [(37, .one .bool)] (fun (x19 : Bool) (h20 : Heap) =>
  brr x19
  (Q false h20)
  (al 127 [.int .i64 0, .slice none 0 0, .slice none 0 0, .slice none 0 0, .slice none 0 0, .slice none 0 0, .slice none 0 0, .slice none 0 0, .slice none 0 0, .slice none 0 0, .slice none 0 0] h20 fun (a21 : Addr) (h22 : Heap) =>
  al 130 [.slice none 0 0] h22 fun (a23 : Addr) (h24 : Heap) =>
  jn [(6, .one .sl)] (fun (others194 : Sl) (h195 : Heap) =>
  jn [] (fun  (h219 : Heap) =>
  jn [(2, .one .bool)] (fun (x227 : Bool) (h228 : Heap) =>
  Q x227 h228) (fun (j220 : Bool → Heap → Prop) =>
  f65_ (some a21) h219 fun (r221 : Bool) (h222 : Heap) =>
  brr r221
  (f58_ (some a8) 0 h222 fun (r223 : Bool) (h224 : Heap) =>
  brr r223
  (f58_ (some a8) 1 h224 fun (r225 : Bool) (h226 : Heap) =>
  j220 r225 h226)
  (j220 false h224))
  (j220 false h222))) (fun (j196 : Heap → Prop) =>
  F_law6_held.l3 f27_ f64_ Q others194 j196 0 h195)) (fun (j25 : Sl → Heap → Prop) =>
  F_law6_held.l2 f20_ f21_ f22_ f24_ f56_ f59_ f60_ f61_ f62_ f63_ Q a4 a8 a21 a23 j25 (⟨none, 0, 0⟩ : Sl) 0 h24))) (fun (j10 : Bool → Heap → Prop) =>
  ixA 1 (a4.add 0) 2 0 fun (a11 : Addr) =>
  ld [.int .i64] a11 h9 fun (v12 : Int) =>
  f55_ (some a8) 0 v12 h9 fun (r13 : Bool) (h14 : Heap) =>
  brr (!r13)
  (j10 true h14)
  (ixA 1 (a4.add 0) 2 1 fun (a15 : Addr) =>
  ld [.int .i64] a15 h14 fun (v16 : Int) =>
  f55_ (some a8) 1 v16 h14 fun (r17 : Bool) (h18 : Heap) =>
  j10 (!r17) h18))
def F_law6_held (s1 s2 : Int) (s3 : Sl) (h : Heap) (Q : Bool → Heap → Prop) : Prop := F_law6_held_of F_law6_into F_net_New F_law6_num F_net_Net_Send F_net_row_Take F_law6_stage_fresh F_law6_stage_plays F_law6_stage_all F_law3_Place_Bytes F_ref6_Net_Send F_net_row_Look F_ref6_Net_Len F_law3_Shelf_Bytes F_law6_same F_law3_Shelf_Given s1 s2 s3 h Q
def plan19 : Plan := .s (.r [1]) (.s (.r [1, 3]) (.s (.s (.rj [(37, .one .bool)] [1, 3]) (.c (.s (.r [2]) .z) .z)) (.s (.r [1, 3, 4]) (.s (.r [1, 3, 4, 5]) (.s (.r [1, 3, 4, 5, 6]) (.s (.s (.r [1, 3, 4, 5, 6, 7]) (.bj [(6, .one .sl)] [3, 4] (.l [(6, .one .sl), (7, .one (.int .i64))] [1, 3, 4, 5] (.s (.s (.rj [(50, .one .bool)] [1, 3, 4, 5, 6, 7]) (.c .z .z)) (.s (.bj [(6, .one .sl)] [1, 3, 4, 5, 7] (.s (.r [1, 3, 4, 5, 6, 7, 8]) (.s (.r [1, 3, 4, 5, 6, 7, 8, 9]) (.s (.s (.rj [(72, .one .bool)] [1, 3, 4, 5, 6, 7, 8, 9]) (.cj [] [1, 3, 4, 5, 6, 7, 8, 9] (.s (.r [1, 3, 4, 5, 6, 7, 8, 9, 76]) (.c (.s (.r [2]) .z) .z)) (.s (.d [0, 0, 1, 5, 15, 31, 0, 64, 0, 0, 512, 1792, 4095, 0, 0, 8192, 40960, 122880, 253952, 0, 524288, 0, 2097152, 8388607, 16777215] [[0, 1, 2, 3, 4, 5, 6, 7, 8, 9, 10, 13, 14, 15, 16, 17, 18, 19, 20, 21, 22, 11, 12, 23, 24]] [1, 3, 4, 5, 6, 7, 8, 9, 101]) (.c (.s (.r [2]) .z) .z)))) (.s (.s (.r [1, 3, 4, 5, 6, 7, 8, 9, 10]) (.bj [] [1, 3, 4, 5, 6, 7] (.l [(10, .one (.int .i64))] [1, 3, 4, 5, 6, 7, 8, 9] (.s (.s (.rj [(112, .one .bool)] [1, 3, 4, 5, 6, 7, 8, 9, 10]) (.c .z .z)) (.s (.b (.s (.dj [0, 0, 1, 5, 15, 31, 63, 127, 0, 256, 1023, 2047, 4095, 4095, 0, 24575, 65535] [[0, 1, 2, 3, 4, 5, 6, 7, 8, 9, 10, 11, 12, 13, 14, 15, 16], [0, 1, 2, 3, 4, 5, 6, 7, 8, 9, 14, 10, 11, 12, 13, 15, 16]] [(11, .one .addr)] [1, 3, 4, 5, 6, 7, 8, 9, 10]) (.s (.dj [0, 0, 1, 5, 15, 31, 63, 127, 0, 0, 256, 1280, 3840, 7936, 16128, 32512, 65535, 131071, 262143, 262143, 0, 1572863, 4194303] [[0, 1, 2, 3, 4, 5, 6, 7, 8, 9, 10, 11, 12, 13, 14, 15, 16, 17, 18, 19, 20, 21, 22], [0, 1, 2, 3, 4, 5, 6, 7, 8, 9, 10, 11, 12, 13, 14, 15, 20, 16, 17, 18, 19, 21, 22], [0, 1, 2, 3, 4, 5, 6, 7, 8, 9, 10, 11, 12, 13, 20, 14, 15, 16, 17, 18, 19, 21, 22]] [(13, .one .addr)] [1, 3, 4, 5, 6, 7, 8, 9, 10, 11]) (.s (.r [1, 3, 4, 5, 6, 7, 8, 9, 10, 13]) (.r [1, 3, 4, 5, 6, 7, 8, 9, 10]))))) (.r [1, 3, 4, 5, 6, 7, 8, 9, 10])))))) (.s (.r [1, 3, 4, 5, 6, 7, 159]) (.cj [(6, .one .sl)] [1, 3, 4, 5, 7] (.s (.r [1, 3, 4, 5, 6, 7, 15, 16]) (.s (.s (.rj [(181, .one .bool)] [1, 3, 4, 5, 6, 7, 15]) (.c (.s (.r [2]) .z) .z)) (.r [1, 3, 4, 5, 6, 7]))) .z))))))) (.r [1, 3, 4, 5, 6, 7])))))) (.s (.s (.r [3, 4, 6, 17]) (.bj [] [3, 4] (.l [(17, .one (.int .i64))] [3, 4, 6] (.s (.s (.r [3, 4, 6, 17, 189]) (.c .z .z)) (.s (.b (.s (.r [3, 4, 6, 17, 18, 19]) (.s (.rj [(213, .one .bool)] [3, 4, 6, 17]) (.c (.s (.r [2]) .z) .z)))) (.r [3, 4, 6, 17])))))) (.s (.rj [(2, .one .bool)] []) .z))))))))
theorem F_law6_held.eq (f20_ : Int → Int → Heap → (Int → Heap → Prop) → Prop) (f21_ : Int → Heap → (Option Addr → Int → Heap → Prop) → Prop) (f22_ : Int → Heap → (Int → Heap → Prop) → Prop) (f24_ : Option Addr → Int → Sl → Heap → (Bool → Heap → Prop) → Prop) (f27_ : Option Addr → Int → Heap → (Int → Sl → Bool → Heap → Prop) → Prop) (f55_ : Option Addr → Int → Int → Heap → (Bool → Heap → Prop) → Prop) (f56_ : Option Addr → Int → Int → Int → Int → Sl → Heap → (Bool → Heap → Prop) → Prop) (f58_ : Option Addr → Int → Heap → (Bool → Heap → Prop) → Prop) (f59_ : Option Addr → Sl → Heap → (Sl → Heap → Prop) → Prop) (f60_ : Option Addr → Int → Sl → Heap → (Bool → Heap → Prop) → Prop) (f61_ : Option Addr → Int → Heap → (Int → Sl → Bool → Heap → Prop) → Prop) (f62_ : Option Addr → Heap → (Int → Heap → Prop) → Prop) (f63_ : Option Addr → Sl → Heap → (Heap → Prop) → Prop) (f64_ : Int → Sl → Int → Sl → Heap → (Bool → Heap → Prop) → Prop) (f65_ : Option Addr → Heap → (Bool → Heap → Prop) → Prop) (s1 s2 : Int) (s3 : Sl) (h : Heap) (K : Value → Heap → Prop) : F_law6_held_of f20_ f21_ f22_ f24_ f27_ f55_ f56_ f58_ f59_ f60_ f61_ f62_ f63_ f64_ f65_ s1 s2 s3 h (fun (r0 : Bool) (h : Heap) => K (.bool r0) h) =
    den Try.prog (fn1 20 (E_law6_into_of f20_) (fn1 21 (E_net_New_of f21_) (fn1 22 (E_law6_num_of f22_) (fn1 24 (E_net_Net_Send_of f24_) (fn1 27 (E_net_row_Take_of f27_) (fn1 55 (E_law6_stage_fresh_of f55_) (fn1 56 (E_law6_stage_plays_of f56_) (fn1 58 (E_law6_stage_all_of f58_) (fn1 59 (E_law3_Place_Bytes_of f59_) (fn1 60 (E_ref6_Net_Send_of f60_) (fn1 61 (E_net_row_Look_of f61_) (fn1 62 (E_ref6_Net_Len_of f62_) (fn1 63 (E_law3_Shelf_Bytes_of f63_) (fn1 64 (E_law6_same_of f64_) (fn1 65 (E_law3_Shelf_Given_of f65_) noFns))))))))))))))) Try.f19.ntmps plan19 (bodyOf Try.f19) (args0 0 [(.agg #[.int .i64 s1, .int .i64 s2, .slice s3.ptr s3.len s3.cap] : Value)]) h ⟨fun env h => dRes Try.prog Try.f19.results.toList env h K, fun _ _ _ => False, fun env h => dRes Try.prog Try.f19.results.toList env h K⟩ := by kernel_rfl
def E_law6_held_of (f : Int → Int → Sl → Heap → (Bool → Heap → Prop) → Prop) : List Value → Heap → (Value → Heap → Prop) → Prop
  | [v0], h, K => vAgg v0 fun cs0 => decs [.int .i64, .int .i64, .sl] cs0.toList fun (s1 s2 : Int) (s3 : Sl) =>
  f s1 s2 s3 h (fun (r0 : Bool) (h : Heap) => K (.bool r0) h)
  | _, _, _ => False
abbrev E_law6_held := E_law6_held_of F_law6_held
theorem E_law6_held.right : IsRight Try.prog 19 E_law6_held := by
  refine isRight fun vs K w hh => ?_
  match vs, hh with
  | [v0], hh =>
    unfold E_law6_held E_law6_held_of at hh
    replace hh := vAgg_sound hh; obtain ⟨cs0, rfl, hh⟩ := hh
    replace hh := decs_cons hh; obtain ⟨s1, l0_0, e0_0, hh⟩ := hh
    replace hh := decs_cons hh; obtain ⟨s2, l0_1, e0_1, hh⟩ := hh
    replace hh := decs_cons hh; obtain ⟨s3, l0_2, e0_2, hh⟩ := hh
    replace hh := decs_nil hh; obtain ⟨rfl, hh⟩ := hh
    subst e0_2
    subst e0_1
    have ec0 := toArray_eq e0_0
    subst ec0
    unfold F_law6_held at hh
    exact calls_den (fn1_right ok20 E_law6_into.right (fn1_right ok21 E_net_New.right (fn1_right ok22 E_law6_num.right (fn1_right ok24 E_net_Net_Send.right (fn1_right ok27 E_net_row_Take.right (fn1_right ok55 E_law6_stage_fresh.right (fn1_right ok56 E_law6_stage_plays.right (fn1_right ok58 E_law6_stage_all.right (fn1_right ok59 E_law3_Place_Bytes.right (fn1_right ok60 E_ref6_Net_Send.right (fn1_right ok61 E_net_row_Look.right (fn1_right ok62 E_ref6_Net_Len.right (fn1_right ok63 E_law3_Shelf_Bytes.right (fn1_right ok64 E_law6_same.right (fn1_right ok65 E_law3_Shelf_Given.right noFns_right))))))))))))))) plan19 _ w K Try.func19 (by kernel_rfl) (by kernel_rfl) (Eq.mp (F_law6_held.eq F_law6_into F_net_New F_law6_num F_net_Net_Send F_net_row_Take F_law6_stage_fresh F_law6_stage_plays F_law6_stage_all F_law3_Place_Bytes F_ref6_Net_Send F_net_row_Look F_ref6_Net_Len F_law3_Shelf_Bytes F_law6_same F_law3_Shelf_Given s1 s2 s3 w.heap K) hh)
theorem ok19 : okFn Try.prog 19 = true := by kernel_rfl
end Go.Proofs.Ytboidjampddfoaa.V
namespace Go.Proofs.Ytboidjampddfoaa.V
open Go Go.RowKit
set_option linter.unusedVariables false
set_option maxRecDepth 100000
def F_law6_NetFresh_of (f18_ : Int → Int → Sl → Bool → Heap → (Bool → Heap → Prop) → Prop) (f19_ : Int → Int → Sl → Heap → (Bool → Heap → Prop) → Prop) (s1 s2 : Int) (s3 : Sl) (h : Heap) (Q : Bool → Heap → Prop) : Prop :=
  al 40 [.int .i64 s1, .int .i64 s2, .slice s3.ptr s3.len s3.cap] h fun (a4 : Addr) (h5 : Heap) =>
  jn [(2, .one .bool)] (fun (x17 : Bool) (h18 : Heap) =>
  Q x17 h18) (fun (j6 : Bool → Heap → Prop) =>
  ld [.int .i64, .int .i64, .sl] a4 h5 fun (v7 v8 : Int) (v9 : Sl) =>
  f18_ v7 v8 v9 true h5 fun (r10 : Bool) (h11 : Heap) =>
  brr r10
  (ld [.int .i64, .int .i64, .sl] a4 h11 fun (v12 v13 : Int) (v14 : Sl) =>
  f19_ v12 v13 v14 h11 fun (r15 : Bool) (h16 : Heap) =>
  j6 r15 h16)
  (j6 false h11))
def F_law6_NetFresh (s1 s2 : Int) (s3 : Sl) (h : Heap) (Q : Bool → Heap → Prop) : Prop := F_law6_NetFresh_of F_law6_play F_law6_held s1 s2 s3 h Q
def plan8 : Plan := .s (.r [1]) (.s (.rj [(2, .one .bool)] []) .z)
theorem F_law6_NetFresh.eq (f18_ : Int → Int → Sl → Bool → Heap → (Bool → Heap → Prop) → Prop) (f19_ : Int → Int → Sl → Heap → (Bool → Heap → Prop) → Prop) (s1 s2 : Int) (s3 : Sl) (h : Heap) (K : Value → Heap → Prop) : F_law6_NetFresh_of f18_ f19_ s1 s2 s3 h (fun (r0 : Bool) (h : Heap) => K (.bool r0) h) =
    den Try.prog (fn1 18 (E_law6_play_of f18_) (fn1 19 (E_law6_held_of f19_) noFns)) Try.f8.ntmps plan8 (bodyOf Try.f8) (args0 0 [(.agg #[.int .i64 s1, .int .i64 s2, .slice s3.ptr s3.len s3.cap] : Value)]) h ⟨fun env h => dRes Try.prog Try.f8.results.toList env h K, fun _ _ _ => False, fun env h => dRes Try.prog Try.f8.results.toList env h K⟩ := by kernel_rfl
def E_law6_NetFresh_of (f : Int → Int → Sl → Heap → (Bool → Heap → Prop) → Prop) : List Value → Heap → (Value → Heap → Prop) → Prop
  | [v0], h, K => vAgg v0 fun cs0 => decs [.int .i64, .int .i64, .sl] cs0.toList fun (s1 s2 : Int) (s3 : Sl) =>
  f s1 s2 s3 h (fun (r0 : Bool) (h : Heap) => K (.bool r0) h)
  | _, _, _ => False
abbrev E_law6_NetFresh := E_law6_NetFresh_of F_law6_NetFresh
theorem E_law6_NetFresh.at (f : Int → Int → Sl → Heap → (Bool → Heap → Prop) → Prop) (s1 s2 : Int) (s3 : Sl) (h : Heap) (K : Value → Heap → Prop) : E_law6_NetFresh_of f [.agg ([.int .i64 s1, .int .i64 s2, .slice s3.ptr s3.len s3.cap] : List Value).toArray] h K = f s1 s2 s3 h (fun (r0 : Bool) (h : Heap) => K (.bool r0) h) := rfl
theorem E_law6_NetFresh.right : IsRight Try.prog 8 E_law6_NetFresh := by
  refine isRight fun vs K w hh => ?_
  match vs, hh with
  | [v0], hh =>
    unfold E_law6_NetFresh E_law6_NetFresh_of at hh
    replace hh := vAgg_sound hh; obtain ⟨cs0, rfl, hh⟩ := hh
    replace hh := decs_cons hh; obtain ⟨s1, l0_0, e0_0, hh⟩ := hh
    replace hh := decs_cons hh; obtain ⟨s2, l0_1, e0_1, hh⟩ := hh
    replace hh := decs_cons hh; obtain ⟨s3, l0_2, e0_2, hh⟩ := hh
    replace hh := decs_nil hh; obtain ⟨rfl, hh⟩ := hh
    subst e0_2
    subst e0_1
    have ec0 := toArray_eq e0_0
    subst ec0
    unfold F_law6_NetFresh at hh
    exact calls_den (fn1_right ok18 E_law6_play.right (fn1_right ok19 E_law6_held.right noFns_right)) plan8 _ w K Try.func8 (by kernel_rfl) (by kernel_rfl) (Eq.mp (F_law6_NetFresh.eq F_law6_play F_law6_held s1 s2 s3 w.heap K) hh)
theorem ok8 : okFn Try.prog 8 = true := by kernel_rfl
end Go.Proofs.Ytboidjampddfoaa.V
/- Nets: what is told is held untouched, or written full: NetFresh. -/
namespace Go.Proofs.Ytboidjampddfoaa.V
open Go Go.RowKit
set_option linter.unusedVariables false
set_option linter.unusedSimpArgs false
theorem ShS.Ok.up {y : ShS} {T T' : Nat} (o : y.Ok T) (h : T ≤ T') : y.Ok T' := ⟨o.n, o.s0, by have := o.s1; omega, o.b⟩
theorem sh_up {h0 h : Heap} {L : List Res} {x T T' : Nat} (O : Sat h0 h (shR x T :: L)) (ht : T ≤ T') : Sat h0 h (shR x T' :: L) := by
  obtain ⟨y, o, O⟩ := O.sh
  exact Sat.shI (o.up ht) O
/-- Other nets, each with a message of its own. -/
abbrev OE := Nat × NS
def oR (x : OE) : Res := netR x.1 x.2
def ownNet (n : Nat) : NS := ⟨[((n : Int), [UInt8.ofNat n, 111])], 1, 0⟩
def osOk (os : List OE) : Prop := ∀ (i : Nat) e, os[i]? = some e → e.2 = ownNet i
theorem ownNet_ok (n : Nat) : (ownNet n).Ok := ⟨by show 1 ≤ 1; decide, by show 1 ≤ 8192; decide, by show 0 ≤ 1000000; decide⟩
theorem osOk_new {os : List OE} {p : Nat} (h : osOk os) : osOk (os ++ [(p, ownNet os.length)]) := by
  intro i e he
  by_cases hi : i < os.length
  · rw [List.getElem?_append_left hi] at he
    exact h i e he
  · rw [List.getElem?_append_right (by omega)] at he
    by_cases hz : i - os.length = 0
    · rw [hz] at he
      cases he
      rw [show i = os.length by omega]
    · rw [List.getElem?_eq_none (by simp; omega)] at he
      cases he
section
variable {h0 h : Heap} {L : List Res}
theorem two_buf {b n : Nat} (O : Sat h0 h (own b [.int .u8 (IntKind.u8.wrap ((n : Nat) : Int)), .int .u8 111] :: L)) : Sat h0 h (buf 1 u8 ⟨some (pt b 0), 2, 2⟩ [UInt8.ofNat n, 111] :: L) := by
  rw [wrap8K] at O
  have O : Sat h0 h (own b ([UInt8.ofNat n, 111].flatMap u8 ++ []) :: L) := O
  exact (O.own_buf (k := 0) (sz := 1) rfl).bufsI
theorem st_nA {a bk : Nat} {mark : Bool} {xs : List PN} {k : Nat} {x : PN} {K : Addr → Option Addr → Prop} (hx : xs[k]? = some x) (hk : k < 2) (O : Sat h0 h L) (j : Nat) (hj : nth j L = own a (stC xs bk mark))
    (kk : ∀ c, (∀ {h0' h' : Heap} {L' : List Res}, Sat h0' h' L' → ∀ j', nth j' L' = own a (stC xs bk mark) → cellsAre h' c [.pointer (pnN x)]) → K c (pnN x)) : ixA 1 ((pt a 0).add 0) 2 k fun c => V.ld [.ptr] c h (K c) := st_n hx hk O j hj kk
theorem st_wA {a bk : Nat} {mark : Bool} {xs : List PN} {k : Nat} {x : PN} {K : Addr → Option Addr → Prop} (h2 : xs.length = 2) (hx : xs[k]? = some x) (hk : k < 2) (O : Sat h0 h L) (j : Nat) (hj : nth j L = own a (stC xs bk mark))
    (kk : ∀ c, (∀ {h0' h' : Heap} {L' : List Res}, Sat h0' h' L' → ∀ j', nth j' L' = own a (stC xs bk mark) → cellsAre h' c [.pointer (pnW x)]) → K c (pnW x)) : ixA 1 ((pt a 0).add 2) 2 k fun c => V.ld [.ptr] c h (K c) := by
  rw [show (pt a 0).add 2 = pt a 2 from by rw [pt_add]]
  exact st_w h2 hx hk O j hj kk
theorem F_law6_held.is {r0 r1 : Int} {s3 : Sl} {ops : List NOp} {Q : Bool → Heap → Prop} (Vo : View h0 5 (nopR h0) s3 ops) (O : Sat h0 h L) (kk : ∀ h', Sat h0 h' L → Q true h') : F_law6_held r0 r1 s3 h Q := by
  rw [F_law6_held.eq_1, F_law6_held_of.eq_1]
  refine O.al fun c5 h O => ?_
  refine O.al fun bk h O => ?_
  refine O.al fun a h O => ?_
  refine jn1 (fun z h' => z = false ∧ ∃ xs : List PN, xs.length = 2 ∧ (∀ x ∈ xs, pnC 0 x) ∧ Sat h0 h' (own a (stC xs bk false) :: bkR bk 0 :: many pnR xs :: own c5 [.int .i64 r0, .int .i64 r1, .slice s3.ptr s3.len s3.cap] :: L)) ?_ ?_
  case refine_2 =>
    intro j hj
    exact stage0 O fun xs h h2 hx O => hj _ _ ⟨rfl, xs, h2, hx, O⟩
  clear O
  rintro z h ⟨rfl, xs, h2, hx, O⟩
  refine brr_ff rfl ?_
  refine O.al fun x18 h O => ?_
  have O := sh_new O
  refine O.al fun x20 h O => ?_
  have O := pl_new O
  have O : Sat h0 h (own a (stC xs bk false) :: bkR bk 0 :: many pnR xs :: shR x18 0 :: plR x20 :: buf 1 ptrc ⟨none, 0, 0⟩ (([] : List OE).map (·.1)) :: many oR [] :: own c5 [.int .i64 r0, .int .i64 r1, .slice s3.ptr s3.len s3.cap] :: L) := by
    have O := O.none (f := oR)
    have O := O.nil_buf (sz := 1) (enc := ptrc)
    exact O.sel [4, 5, 6, 3, 2, 0, 1, 7] 8 rfl (Nat.le_add_left _ _)
  refine jn1 (fun (ot : Sl) h' => ∃ (xs : List PN) (os : List OE), xs.length = 2 ∧ (∀ x ∈ xs, pnOk 0 x) ∧ osOk os ∧ os.length ≤ 400 ∧ Sat h0 h' (own a (stC xs bk false) :: many pnR xs :: shR x18 2000 :: buf 1 ptrc ot (os.map (·.1)) :: many oR os :: L)) ?_ ?_
  · clear O
    rintro (ot : Sl) h ⟨xs, os, h2, hx, hos, hol, O⟩
    refine jn0 (fun h' => Sat h0 h' (own a (stC xs bk false) :: many pnR xs :: shR x18 2000 :: L)) ?_ ?_
    · clear O
      intro h O
      refine jn1 (fun z h' => z = true ∧ Sat h0 h' L) (fun z h' ⟨e, O⟩ => e ▸ kk h' O) fun j hj => ?_
      refine F_law3_Shelf_Given.is (O.sel [2, 0, 1] 3 rfl (Nat.le_add_left _ _)) fun h O => ?_
      refine brr_tt rfl ?_
      refine F_law6_stage_all.is (k := 0) h2 (by decide) hx O fun h O => ?_
      refine brr_tt rfl ?_
      refine F_law6_stage_all.is (k := 1) h2 (by decide) hx O fun h O => ?_
      exact hj _ _ ⟨rfl, O.drop.drop⟩
    · intro j579 hj
      rw [F_law6_held.l3.eq_1]
      refine wl1 (k := .int .i64) (fun (m : Nat) (i : Int) (h' : Heap) => i + m = os.length ∧ 0 ≤ i ∧ ∃ os2 : List OE, os2.map (·.1) = os.map (·.1) ∧ (∀ (j : Nat) e, i ≤ j → os2[j]? = some e → e.2 = ownNet j) ∧ Sat h0 h' (own a (stC xs bk false) :: many pnR xs :: shR x18 2000 :: buf 1 ptrc ot (os2.map (·.1)) :: many oR os2 :: L)) ?_ (m := os.length) ⟨by omega, by omega, os, rfl, fun j e _ he => hos j e he, O⟩
      clear O
      rintro m (i : Int) h next hn ⟨him, hi0, os2, hm2, hos2, O⟩
      have hl2 : os2.length = os.length := by have := congrArg List.length hm2; simpa using this
      have v0 := (O.view 3 ptrc_len (by simp) rfl).1
      have hvl := v0.len
      rw [List.length_map] at hvl
      rw [hvl]
      refine brr_p (fun hlt => ?_) (fun hlt => hj _ (O.sel [0, 1, 2] 5 rfl (Nat.le_add_left _ _)))
      obtain ⟨iN, rfl⟩ := Int.eq_ofNat_of_zero_le hi0
      obtain ⟨e, he⟩ : ∃ e, os2[iN]? = some e := ⟨_, List.getElem?_eq_getElem (by omega)⟩
      have hev := hos2 _ _ (Int.le_refl _) he
      have q0 : (os2.map (·.1))[((iN : Nat) : Int).toNat]? = some e.1 := by rw [Int.toNat_natCast, List.getElem?_map, he]; rfl
      refine View.get1 (k := .ptr) v0 hi0 q0 (fun b => some (pt b 0)) (fun _ => rfl) ?_
      refine ⟨_, rfl, ?_⟩
      have O := (O.sel [4, 0, 1, 2, 3] 5 rfl (Nat.le_add_left _ _)).take _ he
      have O : Sat h0 h (netR e.1 e.2 :: hole oR os2 iN :: own a (stC xs bk false) :: many pnR xs :: shR x18 2000 :: buf 1 ptrc ot (os2.map (·.1)) :: L) := O
      rw [hev] at O
      refine F_net_row_Take.is (p := e.1) (n := ownNet iN) (i := 0) (by decide) (ownNet_ok iN) O fun s h O => ?_
      refine O.al fun x207 h O => ?_
      refine O.st 0 rfl (by simp) rfl fun h O => ?_
      dsimp only [V.put, List.set] at O
      have O : Sat h0 h (own x207 [.int .i64 (iN : Int), .slice s.ptr s.len s.cap] :: buf 1 u8 s [UInt8.ofNat iN, 111] :: oR (e.1, (ownNet iN).drop 0) :: hole oR os2 iN :: own a (stC xs bk false) :: many pnR xs :: shR x18 2000 :: buf 1 ptrc ot (os2.map (·.1)) :: L) := O
      refine jn1 (fun z h' => z = false ∧ Sat h0 h' (oR (e.1, (ownNet iN).drop 0) :: hole oR os2 iN :: own a (stC xs bk false) :: many pnR xs :: shR x18 2000 :: buf 1 ptrc ot (os2.map (·.1)) :: L)) ?_ ?_
      · clear O v0 hvl
        rintro z h ⟨rfl, O⟩
        refine brr_ff rfl ?_
        have O := Sat.give (f := oR) O (List.getElem?_eq_some_iff.1 he).1
        have hms : (os2.set iN (e.1, (ownNet iN).drop 0)).map (·.1) = os2.map (·.1) := by
          rw [List.map_set]
          exact set_same (by rw [List.getElem?_map, he]; rfl)
        rw [wrap64 (by omega) (by omega)]
        refine hn (m - 1) _ _ (by omega) ⟨by omega, by omega, os2.set iN (e.1, (ownNet iN).drop 0), by rw [hms]; exact hm2, fun j e2 hj2 he2 => ?_, ?_⟩
        · rw [List.getElem?_set_ne (by omega)] at he2
          exact hos2 j e2 (by omega) he2
        · rw [hms]
          exact O.sel [1, 2, 3, 4, 0] 5 rfl (Nat.le_add_left _ _)
      · intro j hj2
        refine brr_ff rfl ?_
        refine O.ld 0 rfl (ldL_c (ldL_s (ldL_n ?_)))
        refine O.al fun bl h O => ?_
        have O := two_buf O
        refine F_law6_same.is (xs := [UInt8.ofNat iN, 111]) (ys := [UInt8.ofNat iN, 111]) (O.view 2 u8_len (by simp) rfl).1 (O.view 0 u8_len (by simp) rfl).1 (by simp) (by simp) fun h' kk2 => ?_
        have O := O.kept2 kk2
        exact hj2 _ _ ⟨by simp, O.drop.drop.drop⟩
  intro j22 hj22
  rw [F_law6_held.l2.eq_1]
  refine wl2 (k := .sl) (l := .int .i64) (fun (m : Nat) (ot : Sl) (i : Int) (h' : Heap) => i + m = ops.length ∧ 0 ≤ i ∧ i ≤ 400 ∧ ∃ (xs : List PN) (os : List OE), xs.length = 2 ∧ (∀ x ∈ xs, pnC i.toNat x) ∧ osOk os ∧ (os.length : Int) ≤ i ∧ Sat h0 h' (own a (stC xs bk false) :: bkR bk i.toNat :: many pnR xs :: shR x18 (4 * i.toNat) :: plR x20 :: buf 1 ptrc ot (os.map (·.1)) :: many oR os :: own c5 [.int .i64 r0, .int .i64 r1, .slice s3.ptr s3.len s3.cap] :: L)) ?_ (m := ops.length) ⟨by omega, by omega, by omega, xs, [], h2, hx, fun i e he => by simp at he, by simp, O⟩
  clear O
  rintro m (ot : Sl) (i : Int) h next hn ⟨hi, hi0, hi4, xs, os, h2, hx, hos, hol, O⟩
  refine jn1 (fun t h' => h' = h ∧ t = decide (i < ops.length ∧ i < 400)) ?_ ?_
  case refine_2 =>
    intro j2 hj2
    repeat (first | (with_reducible refine al_id ?_); refine O.al fun _ h O => ?_ | (with_reducible refine nn_id ?_); refine ⟨_, rfl, ?_⟩ | (with_reducible refine ld_id ?_); (first | refine O.ld 0 rfl ?_ | refine O.ld 1 rfl ?_ | refine O.ld 2 rfl ?_ | refine O.ld 3 rfl ?_ | refine O.ld 4 rfl ?_ | refine O.ld 5 rfl ?_ | refine O.ld 6 rfl ?_ | refine O.ld 7 rfl ?_); (repeat (first | (with_reducible refine ldL_n ?_) | refine ldL_s ?_ | refine ldL_c ?_)) | (with_reducible refine st_ad (by first | (with_reducible rfl) | (simp only [pt_add, Nat.zero_add, Nat.add_zero, Nat.reduceAdd]; with_reducible rfl)) ?_); (first | refine O.st 0 rfl (by simp) rfl fun h O => ?_ | refine O.st 1 rfl (by simp) rfl fun h O => ?_ | refine O.st 2 rfl (by simp) rfl fun h O => ?_ | refine O.st 3 rfl (by simp) rfl fun h O => ?_ | refine O.st 4 rfl (by simp) rfl fun h O => ?_ | refine O.st 5 rfl (by simp) rfl fun h O => ?_ | refine O.st 6 rfl (by simp) rfl fun h O => ?_ | refine O.st 7 rfl (by simp) rfl fun h O => ?_); (dsimp only [V.put, List.set, List.length_cons, List.length_nil] at O) | (with_reducible refine ca_id ?_); (first | refine O.ca 0 1 rfl ?_ | refine O.ca 0 2 rfl ?_ | refine O.ca 1 1 rfl ?_ | refine O.ca 1 2 rfl ?_ | refine O.ca 2 1 rfl ?_ | refine O.ca 2 2 rfl ?_ | refine O.ca 3 1 rfl ?_ | refine O.ca 3 2 rfl ?_ | refine O.ca 4 1 rfl ?_ | refine O.ca 4 2 rfl ?_ | refine O.ca 5 1 rfl ?_ | refine O.ca 5 2 rfl ?_ | refine O.ca 6 1 rfl ?_ | refine O.ca 6 2 rfl ?_ | refine O.ca 7 1 rfl ?_ | refine O.ca 7 2 rfl ?_))
    rw [Vo.len]
    refine brr_p (fun hlt => ?_) (fun hlt => ?_)
    · exact hj2 _ _ ⟨rfl, by simp [hlt]⟩
    · exact hj2 _ _ ⟨rfl, by simp; intro h; omega⟩
  rintro t h ⟨rfl, rfl⟩
  refine brr_p (fun ht => ?_) (fun ht => ?_)
  case refine_2 =>
    have O := sh_up (O.sel [3, 0, 2, 5, 6] 8 rfl (Nat.le_add_left _ _)) (show 4 * i.toNat ≤ 2000 by omega)
    exact hj22 _ _ ⟨xs, os, h2, fun x hm => pnOk_of (hx x hm), hos, by omega, O.sel [1, 2, 0, 3, 4] 5 rfl (Nat.le_add_left _ _)⟩
  obtain ⟨hlt, hlt4⟩ := ht
  refine jn1 (fun (ot : Sl) h' => ∃ (xs : List PN) (os : List OE), xs.length = 2 ∧ (∀ x ∈ xs, pnC (i.toNat + 1) x) ∧ osOk os ∧ (os.length : Int) ≤ i + 1 ∧ Sat h0 h' (own a (stC xs bk false) :: bkR bk (i.toNat + 1) :: many pnR xs :: shR x18 (4 * i.toNat + 4) :: plR x20 :: buf 1 ptrc ot (os.map (·.1)) :: many oR os :: own c5 [.int .i64 r0, .int .i64 r1, .slice s3.ptr s3.len s3.cap] :: L)) ?_ ?_
  · clear O
    rintro (ot : Sl) h ⟨xs, os, h2, hx, hos, hol, O⟩
    have e1 : (i + 1).toNat = i.toNat + 1 := by omega
    rw [wrap64 (by omega) (by omega)]
    exact hn (m - 1) _ _ _ (by omega) ⟨by omega, by omega, by omega, xs, os, h2, by rw [e1]; exact hx, hos, hol, by rw [e1]; exact O⟩
  clear hn
  intro j31 hj31
  repeat (first | (with_reducible refine al_id ?_); refine O.al fun _ h O => ?_ | (with_reducible refine nn_id ?_); refine ⟨_, rfl, ?_⟩ | (with_reducible refine ld_id ?_); (first | refine O.ld 0 rfl ?_ | refine O.ld 1 rfl ?_ | refine O.ld 2 rfl ?_ | refine O.ld 3 rfl ?_ | refine O.ld 4 rfl ?_ | refine O.ld 5 rfl ?_ | refine O.ld 6 rfl ?_ | refine O.ld 7 rfl ?_); (repeat (first | (with_reducible refine ldL_n ?_) | refine ldL_s ?_ | refine ldL_c ?_)) | (with_reducible refine st_ad (by first | (with_reducible rfl) | (simp only [pt_add, Nat.zero_add, Nat.add_zero, Nat.reduceAdd]; with_reducible rfl)) ?_); (first | refine O.st 0 rfl (by simp) rfl fun h O => ?_ | refine O.st 1 rfl (by simp) rfl fun h O => ?_ | refine O.st 2 rfl (by simp) rfl fun h O => ?_ | refine O.st 3 rfl (by simp) rfl fun h O => ?_ | refine O.st 4 rfl (by simp) rfl fun h O => ?_ | refine O.st 5 rfl (by simp) rfl fun h O => ?_ | refine O.st 6 rfl (by simp) rfl fun h O => ?_ | refine O.st 7 rfl (by simp) rfl fun h O => ?_); (dsimp only [V.put, List.set, List.length_cons, List.length_nil] at O) | (with_reducible refine ca_id ?_); (first | refine O.ca 0 1 rfl ?_ | refine O.ca 0 2 rfl ?_ | refine O.ca 1 1 rfl ?_ | refine O.ca 1 2 rfl ?_ | refine O.ca 2 1 rfl ?_ | refine O.ca 2 2 rfl ?_ | refine O.ca 3 1 rfl ?_ | refine O.ca 3 2 rfl ?_ | refine O.ca 4 1 rfl ?_ | refine O.ca 4 2 rfl ?_ | refine O.ca 5 1 rfl ?_ | refine O.ca 5 2 rfl ?_ | refine O.ca 6 1 rfl ?_ | refine O.ca 6 2 rfl ?_ | refine O.ca 7 1 rfl ?_ | refine O.ca 7 2 rfl ?_))
  refine (Vo.kept O.kept).ix hi0 hlt fun a2 cs o ho hlen hR hc => ?_
  obtain ⟨rfl, Vb, hb, hat⟩ := hR
  refine ld_are hc ?_
  unfold nopC
  repeat (first | (with_reducible refine ldL_n ?_) | refine ldL_s ?_ | refine ldL_c ?_)
  refine O.al fun x42 h O => ?_
  refine O.st 0 rfl (by simp) rfl fun h O => ?_
  dsimp only [V.put, List.set] at O
  have O : Sat h0 h (own x42 (nopC o) :: own a (stC xs bk false) :: bkR bk i.toNat :: many pnR xs :: shR x18 (4 * i.toNat) :: plR x20 :: buf 1 ptrc ot (os.map (·.1)) :: many oR os :: own c5 [.int .i64 r0, .int .i64 r1, .slice s3.ptr s3.len s3.cap] :: L) := O
  refine O.ld 0 rfl (ldL_c (ldL_n ?_))
  refine F_law6_into.is (by decide) (by decide) ?_
  have n0 := Int.emod_nonneg o.which (show (2 : Int) ≠ 0 by decide)
  have n1 := Int.emod_lt_of_pos o.which (show (0 : Int) < 2 by decide)
  obtain ⟨k, hkk⟩ : ∃ k : Nat, o.which % 2 = k := ⟨(o.which % 2).toNat, by omega⟩
  rw [hkk] at n0 n1 ⊢
  have hk : k < 2 := by omega
  obtain ⟨x, hxk⟩ : ∃ x, xs[k]? = some x := ⟨_, List.getElem?_eq_getElem (by omega)⟩
  have hxc := hx _ (List.mem_of_getElem? hxk)
  refine jn1 (fun t h' => h' = h ∧ t = ((o.do_ != 1) || (pnW x).isNone)) ?_ ?_
  case refine_2 =>
    intro j2 hj2
    refine O.ld 0 rfl (ldL_c (ldL_n ?_))
    refine brr_of (fun hd => ?_) (fun hd => ?_)
    · exact hj2 _ _ ⟨rfl, by rw [hd]; rfl⟩
    · refine ⟨_, rfl, ?_⟩
      refine st_wA h2 hxk hk O 1 rfl fun c _ => ?_
      exact hj2 _ _ ⟨rfl, by rw [hd]; rfl⟩
  rintro t h ⟨rfl, rfl⟩
  refine jn0 (fun h' => ∃ xs : List PN, xs.length = 2 ∧ (∀ x ∈ xs, pnC (i.toNat + 1) x) ∧ Sat h0 h' (own a (stC xs bk false) :: bkR bk (i.toNat + 1) :: many pnR xs :: shR x18 (4 * i.toNat) :: plR x20 :: buf 1 ptrc ot (os.map (·.1)) :: many oR os :: own x42 (nopC o) :: own c5 [.int .i64 r0, .int .i64 r1, .slice s3.ptr s3.len s3.cap] :: L)) ?_ ?_
  · clear O
    rintro h ⟨xs, h2, hx, O⟩
    obtain ⟨x, hxk⟩ : ∃ x, xs[k]? = some x := ⟨_, List.getElem?_eq_getElem (by omega)⟩
    have hxc := hx _ (List.mem_of_getElem? hxk)
    refine jn0 (fun h' => Sat h0 h' (own a (stC xs bk false) :: bkR bk (i.toNat + 1) :: many pnR xs :: shR x18 (4 * i.toNat + 4) :: plR x20 :: buf 1 ptrc ot (os.map (·.1)) :: many oR os :: own c5 [.int .i64 r0, .int .i64 r1, .slice s3.ptr s3.len s3.cap] :: L)) ?_ ?_
    · clear O
      intro h O
      refine ⟨by decide, ?_⟩
      refine jn1 (fun (ot : Sl) h' => ∃ (os : List OE), osOk os ∧ (os.length : Int) ≤ i + 1 ∧ Sat h0 h' (own a (stC xs bk false) :: bkR bk (i.toNat + 1) :: many pnR xs :: shR x18 (4 * i.toNat + 4) :: plR x20 :: buf 1 ptrc ot (os.map (·.1)) :: many oR os :: own c5 [.int .i64 r0, .int .i64 r1, .slice s3.ptr s3.len s3.cap] :: L)) (fun ot h ⟨os, hos, hol, O⟩ => hj31 _ _ ⟨xs, os, h2, hx, hos, hol, O⟩) fun j hj => ?_
      refine brr_eq (fun h5 => ?_) (fun h5 => hj _ _ ⟨os, hos, by omega, O⟩)
      have hotl := (O.view 5 ptrc_len (by simp) rfl).1.len
      rw [List.length_map] at hotl
      refine F_net_New.is O (fun x => absurd ⟨by decide, by decide⟩ x) fun _ _ np h O => ?_
      refine jn1 (fun z h' => z = false ∧ Sat h0 h' (oR (np, ownNet os.length) :: own a (stC xs bk false) :: bkR bk (i.toNat + 1) :: many pnR xs :: shR x18 (4 * i.toNat + 4) :: plR x20 :: buf 1 ptrc ot (os.map (·.1)) :: many oR os :: own c5 [.int .i64 r0, .int .i64 r1, .slice s3.ptr s3.len s3.cap] :: L)) ?_ ?_
      case refine_2 =>
        intro j2 hj2
        rw [F_law6_num.eq_1, F_law6_num_of.eq_1]
        refine brr_ff rfl ?_
        refine brr_ff rfl ?_
        refine O.al fun bl h O => ?_
        have O := two_buf O
        have V1 := (O.view 0 u8_len (by simp) rfl).1
        have O : Sat h0 h (netR np ⟨[], 1, 0⟩ :: buf 1 u8 ⟨some (pt bl 0), 2, 2⟩ [UInt8.ofNat ot.len, 111] :: own a (stC xs bk false) :: bkR bk (i.toNat + 1) :: many pnR xs :: shR x18 (4 * i.toNat + 4) :: plR x20 :: buf 1 ptrc ot (os.map (·.1)) :: many oR os :: own c5 [.int .i64 r0, .int .i64 r1, .slice s3.ptr s3.len s3.cap] :: L) := O.swap
        refine F_net_Net_Send.is ⟨by decide, by decide, by decide⟩ V1 O fun h O => ?_
        refine hj2 _ _ ⟨rfl, ?_⟩
        have O : Sat h0 h (netR np ⟨[((ot.len : Int), [UInt8.ofNat ot.len, 111])], 1, 0⟩ :: _) := O
        rw [hotl] at O
        exact O.swap.drop
      clear O
      rintro z h ⟨rfl, O⟩
      refine brr_ff rfl ?_
      refine O.al fun xa h O => ?_
      have O2 : Sat h0 h (buf 1 ptrc ot (os.map (·.1)) :: own xa [.pointer (some (pt np 0))] :: oR (np, ownNet os.length) :: many oR os :: own a (stC xs bk false) :: bkR bk (i.toNat + 1) :: many pnR xs :: shR x18 (4 * i.toNat + 4) :: plR x20 :: own c5 [.int .i64 r0, .int .i64 r1, .slice s3.ptr s3.len s3.cap] :: L) := O.sel [7, 0, 1, 8, 2, 3, 4, 5, 6, 9] 10 rfl (Nat.le_add_left _ _)
      refine Sat.app_buf O2 ptrc_len ptrc_one rfl (ys := [np]) rfl (rdP_own O2 1 rfl 1 (Nat.le_refl _)) (by simp; omega) fun ot2 h O _ => ?_
      have O3 : Sat h0 h (oR (np, ownNet os.length) :: many oR os :: buf 1 ptrc ot2 (os.map (·.1) ++ [np]) :: own a (stC xs bk false) :: bkR bk (i.toNat + 1) :: many pnR xs :: shR x18 (4 * i.toNat + 4) :: plR x20 :: own c5 [.int .i64 r0, .int .i64 r1, .slice s3.ptr s3.len s3.cap] :: L) := O.sel [2, 3, 0, 4, 5, 6, 7, 8, 9] 10 rfl (Nat.le_add_left _ _)
      have O4 := O3.more
      refine hj _ _ ⟨os ++ [(np, ownNet os.length)], osOk_new hos, by rw [List.length_append, List.length_singleton]; omega, ?_⟩
      rw [List.map_append]
      exact O4.sel [2, 3, 4, 5, 6, 1, 0, 7] 8 rfl (Nat.le_add_left _ _)
    · intro j532 hj
      rw [F_law6_held.l1.eq_1]
      refine wl1 (k := .int .i64) (fun (m : Nat) (n : Int) (h' : Heap) => n + m = 2 ∧ 0 ≤ n ∧ Sat h0 h' (own a (stC xs bk false) :: bkR bk (i.toNat + 1) :: many pnR xs :: shR x18 (4 * i.toNat + 2 * n.toNat) :: plR x20 :: buf 1 ptrc ot (os.map (·.1)) :: many oR os :: own x42 (nopC o) :: own c5 [.int .i64 r0, .int .i64 r1, .slice s3.ptr s3.len s3.cap] :: L)) ?_ (m := 2) ⟨by omega, by omega, by exact O⟩
      clear O
      rintro m (n : Int) h next hn ⟨hnm, hn0, O⟩
      have stop : n ≤ 2 → j532 h := by
        intro hle
        have O2 := sh_up (O.sel [3, 0, 1, 2, 4, 5, 6, 8] 9 rfl (Nat.le_add_left _ _)) (show 4 * i.toNat + 2 * n.toNat ≤ 4 * i.toNat + 4 by omega)
        exact hj _ (O2.sel [1, 2, 3, 0, 4, 5, 6, 7] 8 rfl (Nat.le_add_left _ _))
      refine jn1 (fun t h' => h' = h ∧ t = (decide (n < 2) && !(pnW x).isNone)) ?_ ?_
      case refine_2 =>
        intro j2 hj2
        refine brr_p (fun hd => ?_) (fun hd => ?_)
        · refine ⟨_, rfl, ?_⟩
          refine st_wA h2 hxk hk O 0 rfl fun c _ => ?_
          exact hj2 _ _ ⟨rfl, by rw [decide_eq_true hd]; rfl⟩
        · exact hj2 _ _ ⟨rfl, by rw [decide_eq_false hd]; rfl⟩
      rintro t h ⟨rfl, rfl⟩
      refine brr_of (fun hgo => ?_) (fun hgo => stop (by omega))
      rw [Bool.and_eq_true, decide_eq_true_eq] at hgo
      obtain ⟨hlt, hnn⟩ := hgo
      obtain ⟨⟨p, q, nn_⟩, rfl⟩ : ∃ y, x = some y := by
        cases x with
        | none => simp [pnW] at hnn
        | some y => exact ⟨y, rfl⟩
      have sh : nn_.Short := hxc.2.1
      have okn : nn_.Ok := hxc.1
      have hln := okn.le
      have hrm := okn.room
      clear stop
      have O := ((O.sel [2, 0, 1, 3, 4, 5, 6, 7, 8] 9 rfl (Nat.le_add_left _ _)).take k hxk).sep
      have O : Sat h0 h (netR p nn_ :: rnR q nn_ :: hole pnR xs k :: own a (stC xs bk false) :: bkR bk (i.toNat + 1) :: shR x18 (4 * i.toNat + 2 * n.toNat) :: plR x20 :: buf 1 ptrc ot (os.map (·.1)) :: many oR os :: own x42 (nopC o) :: own c5 [.int .i64 r0, .int .i64 r1, .slice s3.ptr s3.len s3.cap] :: L) := O
      refine jn1 (fun f h' => ∃ (c : Nat) (s : Sl) (bs : List UInt8) (t : Int), f = pt c 0 ∧ bs.length ≤ 281474976710656 ∧ Sat h0 h' (own c [.int .i64 t, .slice s.ptr s.len s.cap] :: buf 1 u8 s bs :: netR p nn_ :: rnR q nn_ :: hole pnR xs k :: own a (stC xs bk false) :: bkR bk (i.toNat + 1) :: shR x18 (4 * i.toNat + 2 * n.toNat) :: plR x20 :: buf 1 ptrc ot (os.map (·.1)) :: many oR os :: own x42 (nopC o) :: own c5 [.int .i64 r0, .int .i64 r1, .slice s3.ptr s3.len s3.cap] :: L)) ?_ ?_
      case refine_2 =>
        intro j2 hj2
        refine ⟨?_, ?_⟩
        · refine ⟨_, rfl, ?_⟩
          refine st_nA hxk hk O 3 rfl fun c hc => ?_
          refine ⟨_, rfl, ?_⟩
          refine O.ld 9 rfl (ldL_c (ldL_n ?_))
          refine F_net_row_Look.is (p := p) O fun s h O => ?_
          refine O.al fun d h O => ?_
          refine ⟨hc O 5 rfl, cellsAre_blk (O.blk (i := 11) (by simp) rfl).2 2 1, ?_⟩
          refine O.st 0 rfl (by simp) rfl fun h O => ?_
          dsimp only [V.put, List.set] at O
          exact hj2 _ _ ⟨d, s, _, _, rfl, at_short sh, O⟩
        · refine ⟨_, rfl, ?_⟩
          refine st_nA hxk hk O 3 rfl fun c hc => ?_
          refine ⟨_, rfl, ?_⟩
          refine O.ld 9 rfl (ldL_c (ldL_n ?_))
          refine O.al fun d h O => ?_
          refine ⟨hc O 4 rfl, cellsAre_blk (O.blk (i := 10) (by simp) rfl).2 2 1, ?_⟩
          replace O := O.sel [1, 0, 2, 3, 4, 5, 6, 7, 8, 9, 10] 11 rfl (Nat.le_add_left _ _)
          simp only [selT, List.map, nth, List.drop, List.cons_append, List.nil_append] at O
          refine F_net_row_Look.is (p := p) O fun s h O => ?_
          replace O := O.sel [2, 0, 1, 3, 4, 5, 6, 7, 8, 9, 10, 11] 12 rfl (Nat.le_add_left _ _)
          simp only [selT, List.map, nth, List.drop, List.cons_append, List.nil_append] at O
          refine O.st 0 rfl (by simp) rfl fun h O => ?_
          dsimp only [V.put, List.set] at O
          exact hj2 _ _ ⟨d, s, _, _, rfl, at_short sh, O⟩
      clear O
      rintro f h ⟨c1, s1, bs1, t1, rfl, hb1, O⟩
      refine jn1 (fun f h' => ∃ (c : Nat) (s : Sl) (bs : List UInt8) (t : Int), f = pt c 0 ∧ bs.length ≤ 281474976710656 ∧ Sat h0 h' (own c [.int .i64 t, .slice s.ptr s.len s.cap] :: buf 1 u8 s bs :: own c1 [.int .i64 t1, .slice s1.ptr s1.len s1.cap] :: buf 1 u8 s1 bs1 :: netR p nn_ :: rnR q nn_ :: hole pnR xs k :: own a (stC xs bk false) :: bkR bk (i.toNat + 1) :: shR x18 (4 * i.toNat + 2 * n.toNat) :: plR x20 :: buf 1 ptrc ot (os.map (·.1)) :: many oR os :: own c5 [.int .i64 r0, .int .i64 r1, .slice s3.ptr s3.len s3.cap] :: own x42 (nopC o) :: L)) ?_ ?_
      case refine_2 =>
        intro j2 hj2
        refine ⟨?_, ?_, ?_⟩
        · refine ⟨_, rfl, ?_⟩
          refine st_nA hxk hk O 5 rfl fun c hc => ?_
          refine ⟨_, rfl, ?_⟩
          refine ⟨_, rfl, ?_⟩
          refine st_wA h2 hxk hk O 5 rfl fun cw hcw => ?_
          replace O := O.sel [3, 0, 1, 2, 4, 5, 6, 7, 8, 9, 10, 12, 11] 13 rfl (Nat.le_add_left _ _)
          simp only [selT, List.map, nth, List.drop, List.cons_append, List.nil_append] at O
          refine F_ref6_Net_Len.is O ?_
          refine ⟨hc O 5 rfl, ?_⟩
          replace O := O.sel [3, 0, 1, 2, 4, 5, 6, 7, 8, 9, 10, 11, 12] 13 rfl (Nat.le_add_left _ _)
          simp only [selT, List.map, nth, List.drop, List.cons_append, List.nil_append] at O
          refine F_net_row_Look.is (p := p) O fun s h O => ?_
          refine O.al fun d h O => ?_
          refine ⟨hc O 7 rfl, hcw O 7 rfl, ?_⟩
          refine O.st 0 rfl (by simp) rfl fun h O => ?_
          dsimp only [V.put, List.set] at O
          exact hj2 _ _ ⟨d, s, _, _, rfl, at_short sh, O.sel [0, 1, 4, 5, 2, 3, 6, 7, 8, 9, 10, 11, 12, 13, 14] 15 rfl (Nat.le_add_left _ _)⟩
        · refine ⟨_, rfl, ?_⟩
          refine st_nA hxk hk O 5 rfl fun c hc => ?_
          refine ⟨_, rfl, ?_⟩
          refine ⟨_, rfl, ?_⟩
          refine st_wA h2 hxk hk O 5 rfl fun cw hcw => ?_
          replace O := O.sel [3, 0, 1, 2, 4, 5, 6, 7, 8, 9, 10, 12, 11] 13 rfl (Nat.le_add_left _ _)
          simp only [selT, List.map, nth, List.drop, List.cons_append, List.nil_append] at O
          refine F_ref6_Net_Len.is O ?_
          refine ⟨hc O 5 rfl, ?_⟩
          refine O.al fun d h O => ?_
          refine ⟨hc O 6 rfl, hcw O 6 rfl, ?_⟩
          replace O := O.sel [4, 0, 1, 2, 3, 5, 6, 7, 8, 9, 10, 11, 12, 13] 14 rfl (Nat.le_add_left _ _)
          simp only [selT, List.map, nth, List.drop, List.cons_append, List.nil_append] at O
          refine F_net_row_Look.is (p := p) O fun s h O => ?_
          replace O := O.sel [2, 0, 1, 3, 4, 5, 6, 7, 8, 9, 10, 11, 12, 13, 14] 15 rfl (Nat.le_add_left _ _)
          simp only [selT, List.map, nth, List.drop, List.cons_append, List.nil_append] at O
          refine O.st 0 rfl (by simp) rfl fun h O => ?_
          dsimp only [V.put, List.set] at O
          exact hj2 _ _ ⟨d, s, _, _, rfl, at_short sh, O.sel [0, 1, 4, 5, 2, 3, 6, 7, 8, 9, 10, 11, 12, 13, 14] 15 rfl (Nat.le_add_left _ _)⟩
        · refine ⟨_, rfl, ?_⟩
          refine st_nA hxk hk O 5 rfl fun c hc => ?_
          refine ⟨_, rfl, ?_⟩
          refine ⟨_, rfl, ?_⟩
          refine st_wA h2 hxk hk O 5 rfl fun cw hcw => ?_
          refine O.al fun d h O => ?_
          refine ⟨hc O 6 rfl, hcw O 6 rfl, ?_⟩
          replace O := O.sel [4, 0, 1, 2, 3, 5, 6, 7, 8, 9, 10, 11, 13, 12] 14 rfl (Nat.le_add_left _ _)
          simp only [selT, List.map, nth, List.drop, List.cons_append, List.nil_append] at O
          refine F_ref6_Net_Len.is O ?_
          refine ⟨hc O 6 rfl, ?_⟩
          replace O := O.sel [4, 0, 1, 2, 3, 5, 6, 7, 8, 9, 10, 11, 12, 13] 14 rfl (Nat.le_add_left _ _)
          simp only [selT, List.map, nth, List.drop, List.cons_append, List.nil_append] at O
          refine F_net_row_Look.is (p := p) O fun s h O => ?_
          replace O := O.sel [3, 0, 1, 2, 4, 5, 6, 7, 8, 9, 10, 11, 12, 13, 14] 15 rfl (Nat.le_add_left _ _)
          simp only [selT, List.map, nth, List.drop, List.cons_append, List.nil_append] at O
          refine O.st 0 rfl (by simp) rfl fun h O => ?_
          dsimp only [V.put, List.set] at O
          exact hj2 _ _ ⟨d, s, _, _, rfl, at_short sh, O.sel [0, 1, 4, 5, 2, 3, 6, 7, 8, 9, 10, 11, 12, 13, 14] 15 rfl (Nat.le_add_left _ _)⟩
      clear O
      rintro f h ⟨c2, s2, bs2, t2, rfl, hb2, O⟩
      refine O.ld 2 rfl (ldL_s (ldL_n ?_))
      replace O := O.sel [3, 9, 0, 1, 4, 5, 6, 7, 8, 10, 11, 12, 13, 14] 15 rfl (Nat.le_add_left _ _)
      simp only [selT, List.map, nth, List.drop, List.cons_append, List.nil_append] at O
      refine shelf_bytes2 (by omega) hb1 O fun h O => ?_
      refine O.ld 1 rfl (ldL_s (ldL_n ?_))
      replace O := O.sel [2, 0, 3, 4, 5, 6, 7, 8, 9, 10, 11, 12] 13 rfl (Nat.le_add_left _ _)
      simp only [selT, List.map, nth, List.drop, List.cons_append, List.nil_append] at O
      refine shelf_bytes2 (by omega) hb2 O fun h O => ?_
      have O := Sat.give (f := pnR) (y := some (p, q, nn_)) (Sat.sepI (O.sel [1, 2, 3, 4, 5, 0, 6, 7, 8, 9, 10] 11 rfl (Nat.le_add_left _ _))) (List.getElem?_eq_some_iff.1 hxk).1
      rw [set_same hxk] at O
      rw [wrap64 (by omega) (by omega)]
      refine hn (m - 1) _ _ (by omega) ⟨by omega, by omega, ?_⟩
      rw [show 4 * i.toNat + 2 * (n + 1).toNat = 4 * i.toNat + 2 * n.toNat + 1 + 1 by omega]
      exact O.sel [1, 2, 0, 3, 4, 5, 6, 8, 7] 9 rfl (Nat.le_add_left _ _)
  intro j71 hj71
  refine brr_of (fun hd => ?_) (fun hd => ?_)
  · refine O.ld 0 rfl ?_
    repeat (first | (with_reducible refine ldL_n ?_) | refine ldL_s ?_ | refine ldL_c ?_)
    have O := O.sel [1, 2, 3, 0, 4, 5, 6, 7, 8] 9 rfl (Nat.le_add_left _ _)
    refine F_law6_stage_plays.is h2 (by omega) (by omega) hx Vb hb hat O fun ys h h2 hy O => ?_
    refine brr_ff rfl ?_
    exact hj71 _ ⟨ys, h2, hy, O.sel [0, 1, 2, 4, 5, 6, 7, 3, 8] 9 rfl (Nat.le_add_left _ _)⟩
  · rw [Bool.or_eq_false_iff] at hd
    obtain ⟨hd1, hd2⟩ := hd
    obtain ⟨⟨p, q, nn_⟩, rfl⟩ : ∃ y, x = some y := by
      cases x with
      | none => simp [pnW] at hd2
      | some y => exact ⟨y, rfl⟩
    have okn : nn_.Ok := hxc.1
    have O := ((O.sel [3, 0, 1, 2, 4, 5, 6, 7, 8] 9 rfl (Nat.le_add_left _ _)).take k hxk).sep
    have O : Sat h0 h (netR p nn_ :: rnR q nn_ :: hole pnR xs k :: own x42 (nopC o) :: own a (stC xs bk false) :: bkR bk i.toNat :: shR x18 (4 * i.toNat) :: plR x20 :: buf 1 ptrc ot (os.map (·.1)) :: many oR os :: own c5 [.int .i64 r0, .int .i64 r1, .slice s3.ptr s3.len s3.cap] :: L) := O
    refine ⟨_, rfl, ?_⟩
    refine st_nA hxk hk O 4 rfl fun c hc => ?_
    refine O.ld 3 rfl (ldL_c (ldL_n ?_))
    refine O.ld 3 rfl (ldL_s (ldL_n ?_))
    refine ⟨_, rfl, ?_⟩
    refine st_wA h2 hxk hk O 4 rfl fun cw hcw => ?_
    refine O.ld 3 rfl (ldL_c (ldL_n ?_))
    refine O.ld 3 rfl (ldL_s (ldL_n ?_))
    replace O := O.sel [7, 0, 1, 2, 3, 4, 5, 6, 8, 9, 10] 11 rfl (Nat.le_add_left _ _)
    simp only [selT, List.map, nth, List.drop, List.cons_append, List.nil_append] at O
    refine F_law3_Place_Bytes.is (fun h O => Vb.kept O.kept) (by omega) O fun s73 h O => ?_
    refine ⟨hc O 6 rfl, cellsAre_blk (O.blk (i := 5) (by simp) rfl).2 3 1, hcw O 6 rfl, cellsAre_blk (O.blk (i := 5) (by simp) rfl).2 3 1, cellsAre_blk (O.blk (i := 5) (by simp) rfl).2 4 1, ?_⟩
    replace O := O.sel [2, 0, 1, 3, 4, 5, 6, 7, 8, 9, 10, 11] 12 rfl (Nat.le_add_left _ _)
    simp only [selT, List.map, nth, List.drop, List.cons_append, List.nil_append] at O
    refine F_net_Net_Send.is okn (O.view 2 u8_len (by simp) rfl).1 O fun h O => ?_
    refine ⟨hcw O 6 rfl, cellsAre_blk (O.blk (i := 5) (by simp) rfl).2 3 1, cellsAre_blk (O.blk (i := 5) (by simp) rfl).2 4 1, ?_⟩
    replace O := O.sel [3, 0, 1, 2, 4, 5, 6, 7, 8, 9, 10, 11] 12 rfl (Nat.le_add_left _ _)
    simp only [selT, List.map, nth, List.drop, List.cons_append, List.nil_append] at O
    refine F_ref6_Net_Send.is okn (fun h O => Vb.kept O.kept) (by omega) O fun h O => ?_
    refine brr_ff (by simp) ?_
    -- rnR, netR, x20, buf s73, hole, x42, a, bk, sh, buf, many, c5
    have O := Sat.plI (O.sel [2, 3, 1, 0, 4, 5, 6, 7, 8, 9, 10, 11] 12 rfl (Nat.le_add_left _ _))
    have O : Sat h0 h (netR p (nn_.send (o.to, o.b)) :: rnR q (nn_.send (o.to, o.b)) :: hole pnR xs k :: plR x20 :: own x42 (nopC o) :: own a (stC xs bk false) :: bkR bk i.toNat :: shR x18 (4 * i.toNat) :: buf 1 ptrc ot (os.map (·.1)) :: many oR os :: own c5 [.int .i64 r0, .int .i64 r1, .slice s3.ptr s3.len s3.cap] :: L) := O.sel [1, 2, 3, 0, 4, 5, 6, 7, 8, 9, 10] 11 rfl (Nat.le_add_left _ _)
    have O := Sat.give (f := pnR) (y := some (p, q, nn_.send (o.to, o.b))) O.sepI (List.getElem?_eq_some_iff.1 hxk).1
    have O := bk_up (O.sel [4, 3, 0, 5, 1, 6, 7, 2, 8] 9 rfl (Nat.le_add_left _ _)) (Nat.le_succ i.toNat)
    have O : Sat h0 h (bkR bk (i.toNat + 1) :: own a (stC xs bk false) :: many pnR (xs.set k (some (p, q, nn_.send (o.to, o.b)))) :: shR x18 (4 * i.toNat) :: plR x20 :: buf 1 ptrc ot (os.map (·.1)) :: many oR os :: own x42 (nopC o) :: own c5 [.int .i64 r0, .int .i64 r1, .slice s3.ptr s3.len s3.cap] :: L) := O
    rw [← stC_same (n' := nn_.send (o.to, o.b)) hxk] at O
    refine hj71 _ ⟨_, by rw [List.length_set]; exact h2, fun z hz => ?_, O.swap⟩
    rcases List.mem_or_eq_of_mem_set hz with hz | rfl
    · exact pnC_up (hx z hz) (Nat.le_succ _)
    · exact pnC_send (m := (o.to, o.b)) (by omega) hxc (by show o.b.length ≤ _; omega)
end
theorem netFresh_main (H : Heap) (cs : List Value) (F : Fit H 140737488351232 tyNScript cs) : E_law6_NetFresh [.agg cs.toArray] H (fun r h' => r = .bool true ∧ KeptH H h') := by
  obtain ⟨_, _, rfl, _, ⟨_, _, rfl, _, ⟨t1, rfl, _, _⟩, _, _, rfl, _, ⟨t2, rfl, _, _⟩, rfl⟩, _, _, rfl, _, ⟨t3, rfl, t3S⟩, rfl⟩ := F
  simp only [List.cons_append, List.nil_append, List.append_nil]
  refine Eq.mpr (E_law6_NetFresh.at F_law6_NetFresh t1 t2 t3 H _) ?_
  obtain ⟨ops, Vo⟩ := t3S.nops
  rw [F_law6_NetFresh.eq_1, F_law6_NetFresh_of.eq_1]
  refine Sat.al (Sat.nil H) fun c4 h1 O => ?_
  refine jn1 (fun z h' => z = true ∧ KeptH H h') (fun z h ⟨e, hk⟩ => ⟨by rw [e], hk⟩) fun j hj => ?_
  repeat (first | (with_reducible refine al_id ?_); refine O.al fun _ h O => ?_ | (with_reducible refine nn_id ?_); refine ⟨_, rfl, ?_⟩ | (with_reducible refine ld_id ?_); (first | refine O.ld 0 rfl ?_); (repeat (first | (with_reducible refine ldL_n ?_) | refine ldL_s ?_ | refine ldL_c ?_)) | (with_reducible refine st_ad (by first | (with_reducible rfl) | (simp only [pt_add, Nat.zero_add, Nat.add_zero, Nat.reduceAdd]; with_reducible rfl)) ?_); (first | refine O.st 0 rfl (by simp) rfl fun h O => ?_); (dsimp only [V.put, List.set, List.length_cons, List.length_nil] at O) | (with_reducible refine ca_id ?_); (first | refine O.ca 0 1 rfl ?_ | refine O.ca 0 2 rfl ?_))
  refine F_law6_play.is Vo O fun h O => ?_
  refine brr_tt rfl ?_
  repeat (first | (with_reducible refine al_id ?_); refine O.al fun _ h O => ?_ | (with_reducible refine nn_id ?_); refine ⟨_, rfl, ?_⟩ | (with_reducible refine ld_id ?_); (first | refine O.ld 0 rfl ?_); (repeat (first | (with_reducible refine ldL_n ?_) | refine ldL_s ?_ | refine ldL_c ?_)) | (with_reducible refine st_ad (by first | (with_reducible rfl) | (simp only [pt_add, Nat.zero_add, Nat.add_zero, Nat.reduceAdd]; with_reducible rfl)) ?_); (first | refine O.st 0 rfl (by simp) rfl fun h O => ?_); (dsimp only [V.put, List.set, List.length_cons, List.length_nil] at O) | (with_reducible refine ca_id ?_); (first | refine O.ca 0 1 rfl ?_ | refine O.ca 0 2 rfl ?_))
  refine F_law6_held.is Vo O fun h O => ?_
  exact hj _ _ ⟨rfl, O.kept⟩
end Go.Proofs.Ytboidjampddfoaa.V
