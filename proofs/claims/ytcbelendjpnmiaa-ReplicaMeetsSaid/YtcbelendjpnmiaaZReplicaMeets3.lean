import Derived.Test.YtcbelendjpnmiaaZReplicaMeets2
import Derived.Test.YtcbelendjpnmiaaProg
namespace Go.Proofs.Ytcbelendjpnmiaa.V
open Go Go.RowKit
set_option linter.unusedVariables false
set_option maxRecDepth 100000
def F_law9_ReplicaTwice.l1 (f12_ : Int → Int → Int → Int → Int → Int → Int → Int → Int → Int → Sl → Int → Int → ByteArray → ByteArray → Int → Int → Int → Int → Int → Int → Int → Heap → (Int → Int → Int → Int → Int → Int → Int → Int → Int → Int → Sl → Int → Int → ByteArray → ByteArray → Int → Int → Int → Int → Int → Int → Int → Heap → Prop) → Prop) (f13_ : Option Addr → Int → Int → Int → Int → Int → Int → Int → Int → Int → Int → Sl → Int → Int → ByteArray → ByteArray → Int → Int → Int → Int → Int → Int → Int → Heap → (Int → Int → Int → Int → Int → Int → Int → Int → Int → Int → Sl → Int → Int → ByteArray → ByteArray → Int → Int → Int → Int → Int → Int → Int → Bool → Bool → Bool → Heap → Prop) → Prop) (f21_ : Int → Int → Int → Sl → Int → Heap → (Option Addr → Heap → Prop) → Prop) (f23_ : Option Addr → Heap → (Int → Int → Int → Sl → Heap → Prop) → Prop) (f24_ : Int → Int → Int → Sl → Int → Sl → Option Addr → Int → Heap → (Int → Int → Int → Int → Int → Int → Int → Int → Int → Int → Sl → Int → Int → ByteArray → ByteArray → Int → Int → Int → Int → Int → Int → Int → Int → Int → Int → Int → Int → Int → Int → Int → Int → Int → Sl → Int → Int → ByteArray → ByteArray → Int → Int → Int → Int → Int → Int → Int → Bool → Bool → Bool → Heap → Prop) → Prop) (f26_ : Int → Int → Int → Sl → Int → Int → Int → Sl → Heap → (Bool → Heap → Prop) → Prop) (f28_ : Option Addr → Heap → (Int → Heap → Prop) → Prop) (f29_ : Int → Int → Int → Int → Int → Int → Int → Int → Int → Int → Sl → Int → Int → ByteArray → ByteArray → Int → Int → Int → Int → Int → Int → Int → Int → Int → Int → Int → Int → Int → Int → Int → Int → Int → Sl → Int → Int → ByteArray → ByteArray → Int → Int → Int → Int → Int → Int → Int → Heap → (Bool → Heap → Prop) → Prop) (Q : Bool → Heap → Prop) (a7 : Addr) (r16 : Option Addr) (j23 : Heap → Prop) : Int → Heap → Prop :=
  wl [(4, .one (.int .i64))] (fun (next24 : Int → Heap → Prop) (i25 : Int) (h26 : Heap) =>
  jn [(39, .one .bool)] (fun (x29 : Bool) (h30 : Heap) =>
  brr x29
  (jn [] (fun  (h376 : Heap) =>
  next24 (IntKind.i64.wrap (i25 + 1)) h376) (fun (j31 : Heap → Prop) =>
  f23_ r16 h30 fun (r32 r33 r34 : Int) (r35 : Sl) (h36 : Heap) =>
  f28_ r16 h36 fun (r37 : Int) (h38 : Heap) =>
  f21_ r32 r33 r34 r35 r37 h38 fun (r39 : Option Addr) (h40 : Heap) =>
  brr r39.isNone
  (Q false h40)
  (ld [.int .u64, .int .u64, .int .u64, .sl, .int .i64, .sl] a7 h40 fun (v41 v42 v43 : Int) (v44 : Sl) (v45 : Int) (v46 : Sl) =>
  f24_ v41 v42 v43 v44 v45 v46 r16 i25 h40 fun (r47 r48 r49 r50 r51 r52 r53 r54 r55 r56 : Int) (r57 : Sl) (r58 r59 : Int) (r60 r61 : ByteArray) (r62 r63 r64 r65 r66 r67 r68 r69 r70 r71 r72 r73 r74 r75 r76 r77 r78 : Int) (r79 : Sl) (r80 r81 : Int) (r82 r83 : ByteArray) (r84 r85 r86 r87 r88 r89 r90 : Int) (r91 r92 r93 : Bool) (h94 : Heap) =>
  al 42 [.int .i64 0, .int .i64 0, .int .i64 0, .int .i64 0, .int .u64 0, .int .u64 0, .int .u64 0, .int .u64 0, .int .i64 0, .int .u64 0, .slice none 0 0, .int .i64 0, .int .u64 0, .string (⟨#[]⟩ : ByteArray), .string (⟨#[]⟩ : ByteArray), .int .u64 0, .int .u64 0, .int .u64 0, .int .i64 0, .int .i64 0, .int .i64 0, .int .i64 0] h94 fun (a95 : Addr) (h96 : Heap) =>
  al 49 [.int .i64 0, .int .i64 0, .int .i64 0, .int .i64 0, .int .u64 0, .int .u64 0, .int .u64 0, .int .u64 0, .int .i64 0, .int .u64 0, .slice none 0 0, .int .i64 0, .int .u64 0, .string (⟨#[]⟩ : ByteArray), .string (⟨#[]⟩ : ByteArray), .int .u64 0, .int .u64 0, .int .u64 0, .int .i64 0, .int .i64 0, .int .i64 0, .int .i64 0, .bool false, .bool false, .bool false] h96 fun (a97 : Addr) (h98 : Heap) =>
  st a95 [.int .i64 r47, .int .i64 r48, .int .i64 r49, .int .i64 r50, .int .u64 r51, .int .u64 r52, .int .u64 r53, .int .u64 r54, .int .i64 r55, .int .u64 r56, .slice r57.ptr r57.len r57.cap, .int .i64 r58, .int .u64 r59, .string r60, .string r61, .int .u64 r62, .int .u64 r63, .int .u64 r64, .int .i64 r65, .int .i64 r66, .int .i64 r67, .int .i64 r68] h98 fun (h99 : Heap) =>
  st a97 [.int .i64 r69, .int .i64 r70, .int .i64 r71, .int .i64 r72, .int .u64 r73, .int .u64 r74, .int .u64 r75, .int .u64 r76, .int .i64 r77, .int .u64 r78, .slice r79.ptr r79.len r79.cap, .int .i64 r80, .int .u64 r81, .string r82, .string r83, .int .u64 r84, .int .u64 r85, .int .u64 r86, .int .i64 r87, .int .i64 r88, .int .i64 r89, .int .i64 r90, .bool r91, .bool r92, .bool r93] h99 fun (h100 : Heap) =>
  ld [.int .u64, .int .u64, .int .u64, .sl, .int .i64, .sl] a7 h100 fun (v101 v102 v103 : Int) (v104 : Sl) (v105 : Int) (v106 : Sl) =>
  f24_ v101 v102 v103 v104 v105 v106 r39 i25 h100 fun (r107 r108 r109 r110 r111 r112 r113 r114 r115 r116 : Int) (r117 : Sl) (r118 r119 : Int) (r120 r121 : ByteArray) (r122 r123 r124 r125 r126 r127 r128 r129 r130 r131 r132 r133 r134 r135 r136 r137 r138 : Int) (r139 : Sl) (r140 r141 : Int) (r142 r143 : ByteArray) (r144 r145 r146 r147 r148 r149 r150 : Int) (r151 r152 r153 : Bool) (h154 : Heap) =>
  al 42 [.int .i64 0, .int .i64 0, .int .i64 0, .int .i64 0, .int .u64 0, .int .u64 0, .int .u64 0, .int .u64 0, .int .i64 0, .int .u64 0, .slice none 0 0, .int .i64 0, .int .u64 0, .string (⟨#[]⟩ : ByteArray), .string (⟨#[]⟩ : ByteArray), .int .u64 0, .int .u64 0, .int .u64 0, .int .i64 0, .int .i64 0, .int .i64 0, .int .i64 0] h154 fun (a155 : Addr) (h156 : Heap) =>
  al 49 [.int .i64 0, .int .i64 0, .int .i64 0, .int .i64 0, .int .u64 0, .int .u64 0, .int .u64 0, .int .u64 0, .int .i64 0, .int .u64 0, .slice none 0 0, .int .i64 0, .int .u64 0, .string (⟨#[]⟩ : ByteArray), .string (⟨#[]⟩ : ByteArray), .int .u64 0, .int .u64 0, .int .u64 0, .int .i64 0, .int .i64 0, .int .i64 0, .int .i64 0, .bool false, .bool false, .bool false] h156 fun (a157 : Addr) (h158 : Heap) =>
  st a155 [.int .i64 r107, .int .i64 r108, .int .i64 r109, .int .i64 r110, .int .u64 r111, .int .u64 r112, .int .u64 r113, .int .u64 r114, .int .i64 r115, .int .u64 r116, .slice r117.ptr r117.len r117.cap, .int .i64 r118, .int .u64 r119, .string r120, .string r121, .int .u64 r122, .int .u64 r123, .int .u64 r124, .int .i64 r125, .int .i64 r126, .int .i64 r127, .int .i64 r128] h158 fun (h159 : Heap) =>
  st a157 [.int .i64 r129, .int .i64 r130, .int .i64 r131, .int .i64 r132, .int .u64 r133, .int .u64 r134, .int .u64 r135, .int .u64 r136, .int .i64 r137, .int .u64 r138, .slice r139.ptr r139.len r139.cap, .int .i64 r140, .int .u64 r141, .string r142, .string r143, .int .u64 r144, .int .u64 r145, .int .u64 r146, .int .i64 r147, .int .i64 r148, .int .i64 r149, .int .i64 r150, .bool r151, .bool r152, .bool r153] h159 fun (h160 : Heap) =>
  jn [(104, .one .bool)] (fun (x230 : Bool) (h231 : Heap) =>
  brr x230
  (Q false h231)
  (ld [.int .i64] ((a95.add 0).add 0) h231 fun (v232 : Int) =>
  brr (v232 == 0)
  (j31 h231)
  (f23_ r16 h231 fun (r233 r234 r235 : Int) (r236 : Sl) (h237 : Heap) =>
  al 44 [.int .u64 0, .int .u64 0, .int .u64 0, .slice none 0 0] h237 fun (a238 : Addr) (h239 : Heap) =>
  st a238 [.int .u64 r233, .int .u64 r234, .int .u64 r235, .slice r236.ptr r236.len r236.cap] h239 fun (h240 : Heap) =>
  ld [.int .i64, .int .i64, .int .i64, .int .i64, .int .u64, .int .u64, .int .u64, .int .u64, .int .i64, .int .u64, .sl, .int .i64, .int .u64, .str, .str, .int .u64, .int .u64, .int .u64, .int .i64, .int .i64, .int .i64, .int .i64] a95 h240 fun (v241 v242 v243 v244 v245 v246 v247 v248 v249 v250 : Int) (v251 : Sl) (v252 v253 : Int) (v254 v255 : ByteArray) (v256 v257 v258 v259 v260 v261 v262 : Int) =>
  f12_ v241 v242 v243 v244 v245 v246 v247 v248 v249 v250 v251 v252 v253 v254 v255 v256 v257 v258 v259 v260 v261 v262 h240 fun (r263 r264 r265 r266 r267 r268 r269 r270 r271 r272 : Int) (r273 : Sl) (r274 r275 : Int) (r276 r277 : ByteArray) (r278 r279 r280 r281 r282 r283 r284 : Int) (h285 : Heap) =>
  f13_ r16 r263 r264 r265 r266 r267 r268 r269 r270 r271 r272 r273 r274 r275 r276 r277 r278 r279 r280 r281 r282 r283 r284 h285 fun (r286 r287 r288 r289 r290 r291 r292 r293 r294 r295 : Int) (r296 : Sl) (r297 r298 : Int) (r299 r300 : ByteArray) (r301 r302 r303 r304 r305 r306 r307 : Int) (r308 r309 r310 : Bool) (h311 : Heap) =>
  st a97 [.int .i64 r286, .int .i64 r287, .int .i64 r288, .int .i64 r289, .int .u64 r290, .int .u64 r291, .int .u64 r292, .int .u64 r293, .int .i64 r294, .int .u64 r295, .slice r296.ptr r296.len r296.cap, .int .i64 r297, .int .u64 r298, .string r299, .string r300, .int .u64 r301, .int .u64 r302, .int .u64 r303, .int .i64 r304, .int .i64 r305, .int .i64 r306, .int .i64 r307, .bool r308, .bool r309, .bool r310] h311 fun (h312 : Heap) =>
  jn [(138, .one .bool)] (fun (x374 : Bool) (h375 : Heap) =>
  brr x374
  (Q false h375)
  (j31 h375)) (fun (j313 : Bool → Heap → Prop) =>
  ld [.int .i64, .int .i64, .int .i64, .int .i64, .int .u64, .int .u64, .int .u64, .int .u64, .int .i64, .int .u64, .sl, .int .i64, .int .u64, .str, .str, .int .u64, .int .u64, .int .u64, .int .i64, .int .i64, .int .i64, .int .i64] (a97.add 0) h312 fun (v314 v315 v316 v317 v318 v319 v320 v321 v322 v323 : Int) (v324 : Sl) (v325 v326 : Int) (v327 v328 : ByteArray) (v329 v330 v331 v332 v333 v334 v335 : Int) =>
  ld [.int .i64, .int .i64, .int .i64, .int .i64, .int .u64, .int .u64, .int .u64, .int .u64, .int .i64, .int .u64, .sl, .int .i64, .int .u64, .str, .str, .int .u64, .int .u64, .int .u64, .int .i64, .int .i64, .int .i64, .int .i64] (a157.add 0) h312 fun (v336 v337 v338 v339 v340 v341 v342 v343 v344 v345 : Int) (v346 : Sl) (v347 v348 : Int) (v349 v350 : ByteArray) (v351 v352 v353 v354 v355 v356 v357 : Int) =>
  f29_ v314 v315 v316 v317 v318 v319 v320 v321 v322 v323 v324 v325 v326 v327 v328 v329 v330 v331 v332 v333 v334 v335 v336 v337 v338 v339 v340 v341 v342 v343 v344 v345 v346 v347 v348 v349 v350 v351 v352 v353 v354 v355 v356 v357 h312 fun (r358 : Bool) (h359 : Heap) =>
  brr (!r358)
  (j313 true h359)
  (ld [.bool] (a97.add 23) h359 fun (v360 : Bool) =>
  ld [.bool] (a157.add 23) h359 fun (v361 : Bool) =>
  brr (!(v360 == v361))
  (j313 true h359)
  (ld [.bool] (a97.add 24) h359 fun (v362 : Bool) =>
  brr v362
  (j313 true h359)
  (ld [.int .u64, .int .u64, .int .u64, .sl] a238 h359 fun (v363 v364 v365 : Int) (v366 : Sl) =>
  f23_ r16 h359 fun (r367 r368 r369 : Int) (r370 : Sl) (h371 : Heap) =>
  cellsAre h371 a238 [.int .u64 v363, .int .u64 v364, .int .u64 v365, .slice v366.ptr v366.len v366.cap] ∧
  f26_ r367 r368 r369 r370 v363 v364 v365 v366 h371 fun (r372 : Bool) (h373 : Heap) =>
  j313 (!r372) h373))))))) (fun (j161 : Bool → Heap → Prop) =>
  ld [.int .i64, .int .i64, .int .i64, .int .i64, .int .u64, .int .u64, .int .u64, .int .u64, .int .i64, .int .u64, .sl, .int .i64, .int .u64, .str, .str, .int .u64, .int .u64, .int .u64, .int .i64, .int .i64, .int .i64, .int .i64] (a97.add 0) h160 fun (v162 v163 v164 v165 v166 v167 v168 v169 v170 v171 : Int) (v172 : Sl) (v173 v174 : Int) (v175 v176 : ByteArray) (v177 v178 v179 v180 v181 v182 v183 : Int) =>
  ld [.int .i64, .int .i64, .int .i64, .int .i64, .int .u64, .int .u64, .int .u64, .int .u64, .int .i64, .int .u64, .sl, .int .i64, .int .u64, .str, .str, .int .u64, .int .u64, .int .u64, .int .i64, .int .i64, .int .i64, .int .i64] (a157.add 0) h160 fun (v184 v185 v186 v187 v188 v189 v190 v191 v192 v193 : Int) (v194 : Sl) (v195 v196 : Int) (v197 v198 : ByteArray) (v199 v200 v201 v202 v203 v204 v205 : Int) =>
  f29_ v162 v163 v164 v165 v166 v167 v168 v169 v170 v171 v172 v173 v174 v175 v176 v177 v178 v179 v180 v181 v182 v183 v184 v185 v186 v187 v188 v189 v190 v191 v192 v193 v194 v195 v196 v197 v198 v199 v200 v201 v202 v203 v204 v205 h160 fun (r206 : Bool) (h207 : Heap) =>
  brr (!r206)
  (j161 true h207)
  (ld [.bool] (a97.add 22) h207 fun (v208 : Bool) =>
  ld [.bool] (a157.add 22) h207 fun (v209 : Bool) =>
  brr (!(v208 == v209))
  (j161 true h207)
  (ld [.bool] (a97.add 23) h207 fun (v210 : Bool) =>
  ld [.bool] (a157.add 23) h207 fun (v211 : Bool) =>
  brr (!(v210 == v211))
  (j161 true h207)
  (ld [.bool] (a97.add 24) h207 fun (v212 : Bool) =>
  ld [.bool] (a157.add 24) h207 fun (v213 : Bool) =>
  brr (!(v212 == v213))
  (j161 true h207)
  (f23_ r16 h207 fun (r214 r215 r216 : Int) (r217 : Sl) (h218 : Heap) =>
  f23_ r39 h218 fun (r219 r220 r221 : Int) (r222 : Sl) (h223 : Heap) =>
  f26_ r214 r215 r216 r217 r219 r220 r221 r222 h223 fun (r224 : Bool) (h225 : Heap) =>
  brr (!r224)
  (j161 true h225)
  (f28_ r16 h225 fun (r226 : Int) (h227 : Heap) =>
  f28_ r39 h227 fun (r228 : Int) (h229 : Heap) =>
  j161 (r226 != r228) h229)))))))))
  (j23 h30)) (fun (j27 : Bool → Heap → Prop) =>
  ld [.sl] (a7.add 5) h26 fun (v28 : Sl) =>
  brr (decide (i25 < ((v28.len : Nat) : Int)))
  (j27 (decide (i25 < 500)) h26)
  (j27 false h26)))
def F_law9_ReplicaTwice_of (f12_ : Int → Int → Int → Int → Int → Int → Int → Int → Int → Int → Sl → Int → Int → ByteArray → ByteArray → Int → Int → Int → Int → Int → Int → Int → Heap → (Int → Int → Int → Int → Int → Int → Int → Int → Int → Int → Sl → Int → Int → ByteArray → ByteArray → Int → Int → Int → Int → Int → Int → Int → Heap → Prop) → Prop) (f13_ : Option Addr → Int → Int → Int → Int → Int → Int → Int → Int → Int → Int → Sl → Int → Int → ByteArray → ByteArray → Int → Int → Int → Int → Int → Int → Int → Heap → (Int → Int → Int → Int → Int → Int → Int → Int → Int → Int → Sl → Int → Int → ByteArray → ByteArray → Int → Int → Int → Int → Int → Int → Int → Bool → Bool → Bool → Heap → Prop) → Prop) (f18_ : Heap → (Bool → Heap → Prop) → Prop) (f21_ : Int → Int → Int → Sl → Int → Heap → (Option Addr → Heap → Prop) → Prop) (f22_ : Sl → Heap → (Sl → Heap → Prop) → Prop) (f23_ : Option Addr → Heap → (Int → Int → Int → Sl → Heap → Prop) → Prop) (f24_ : Int → Int → Int → Sl → Int → Sl → Option Addr → Int → Heap → (Int → Int → Int → Int → Int → Int → Int → Int → Int → Int → Sl → Int → Int → ByteArray → ByteArray → Int → Int → Int → Int → Int → Int → Int → Int → Int → Int → Int → Int → Int → Int → Int → Int → Int → Sl → Int → Int → ByteArray → ByteArray → Int → Int → Int → Int → Int → Int → Int → Bool → Bool → Bool → Heap → Prop) → Prop) (f26_ : Int → Int → Int → Sl → Int → Int → Int → Sl → Heap → (Bool → Heap → Prop) → Prop) (f28_ : Option Addr → Heap → (Int → Heap → Prop) → Prop) (f29_ : Int → Int → Int → Int → Int → Int → Int → Int → Int → Int → Sl → Int → Int → ByteArray → ByteArray → Int → Int → Int → Int → Int → Int → Int → Int → Int → Int → Int → Int → Int → Int → Int → Int → Int → Sl → Int → Int → ByteArray → ByteArray → Int → Int → Int → Int → Int → Int → Int → Heap → (Bool → Heap → Prop) → Prop) (l1 l2 l3 : Int) (l4 : Sl) (l5 : Int) (l6 : Sl) (h : Heap) (Q : Bool → Heap → Prop) : Prop :=
  al 63 [.int .u64 l1, .int .u64 l2, .int .u64 l3, .slice l4.ptr l4.len l4.cap, .int .i64 l5, .slice l6.ptr l6.len l6.cap] h fun (a7 : Addr) (h8 : Heap) =>
  ld [.int .u64] ((a7.add 0).add 0) h8 fun (v9 : Int) =>
  ld [.int .u64, .int .u64] ((a7.add 0).add 1) h8 fun (v10 v11 : Int) =>
  ld [.sl] ((a7.add 0).add 3) h8 fun (v12 : Sl) =>
  ld [.int .i64] (a7.add 4) h8 fun (v13 : Int) =>
  f22_ v12 h8 fun (r14 : Sl) (h15 : Heap) =>
  cellsAre h15 ((a7.add 0).add 0) [.int .u64 v9] ∧
  cellsAre h15 ((a7.add 0).add 1) [.int .u64 v10, .int .u64 v11] ∧
  cellsAre h15 (a7.add 4) [.int .i64 v13] ∧
  f21_ v9 v10 v11 r14 v13 h15 fun (r16 : Option Addr) (h17 : Heap) =>
  jn [(30, .one .bool)] (fun (x21 : Bool) (h22 : Heap) =>
  brr x21
  (Q false h22)
  (jn [] (fun  (h377 : Heap) =>
  Q true h377) (fun (j23 : Heap → Prop) =>
  F_law9_ReplicaTwice.l1 f12_ f13_ f21_ f23_ f24_ f26_ f28_ f29_ Q a7 r16 j23 0 h22))) (fun (j18 : Bool → Heap → Prop) =>
  brr r16.isNone
  (j18 true h17)
  (f18_ h17 fun (r19 : Bool) (h20 : Heap) =>
  j18 (!r19) h20))
def F_law9_ReplicaTwice (l1 l2 l3 : Int) (l4 : Sl) (l5 : Int) (l6 : Sl) (h : Heap) (Q : Bool → Heap → Prop) : Prop := F_law9_ReplicaTwice_of F_ref0_CopyMsg F_replica_Replica_Hear F_law9_lives F_replica_Load F_ref0_Copy F_replica_Replica_Stored F_law9_Life_at F_ref0_EqStored F_replica_Replica_Wait F_ref0_EqMsg l1 l2 l3 l4 l5 l6 h Q
def plan8 : Plan := .s (.r [1]) (.s (.d [0, 1, 3, 0, 8, 24, 0, 64, 192, 448, 1023, 0, 2048, 8191, 16383] [[0, 1, 2, 3, 4, 5, 6, 7, 8, 11, 12, 9, 10, 13, 14]] [1, 3]) (.s (.s (.rj [(30, .one .bool)] [1, 3]) (.c (.s (.r [2]) .z) .z)) (.s (.s (.r [1, 3, 4]) (.bj [] [] (.l [(4, .one (.int .i64))] [1, 3] (.s (.s (.rj [(39, .one .bool)] [1, 3, 4]) (.c .z .z)) (.s (.bj [] [1, 3, 4] (.s (.r [1, 3, 4, 5]) (.s (.s (.r [1, 3, 4, 5, 48]) (.c (.s (.r [2]) .z) .z)) (.s (.r [1, 3, 4, 5, 6, 7]) (.s (.r [1, 3, 4, 5, 6, 7, 9]) (.s (.s (.rj [(104, .one .bool)] [1, 3, 4, 6, 7, 9]) (.c (.s (.r [2]) .z) .z)) (.s (.s (.r [1, 3, 4, 6, 7, 9, 108]) (.c .z .z)) (.s (.r [1, 3, 4, 6, 7, 9, 10]) (.s (.r [1, 3, 4, 7, 9, 10]) (.s (.dj [0, 1, 0, 4, 15, 31, 63, 127, 255, 127, 639, 2047, 4095, 8191, 16383, 32767, 65535, 131071, 262143, 524287, 262143, 2097151, 4194303, 8388607] [[0, 1, 2, 3, 4, 5, 6, 7, 8, 9, 10, 11, 12, 13, 14, 15, 16, 17, 18, 20, 19, 21, 22, 23]] [(138, .one .bool)] [1, 3, 4]) (.c (.s (.r [2]) .z) .z))))))))))) (.r [1, 3, 4])))))) (.s (.r [2]) .z))))
theorem F_law9_ReplicaTwice.eq (f12_ : Int → Int → Int → Int → Int → Int → Int → Int → Int → Int → Sl → Int → Int → ByteArray → ByteArray → Int → Int → Int → Int → Int → Int → Int → Heap → (Int → Int → Int → Int → Int → Int → Int → Int → Int → Int → Sl → Int → Int → ByteArray → ByteArray → Int → Int → Int → Int → Int → Int → Int → Heap → Prop) → Prop) (f13_ : Option Addr → Int → Int → Int → Int → Int → Int → Int → Int → Int → Int → Sl → Int → Int → ByteArray → ByteArray → Int → Int → Int → Int → Int → Int → Int → Heap → (Int → Int → Int → Int → Int → Int → Int → Int → Int → Int → Sl → Int → Int → ByteArray → ByteArray → Int → Int → Int → Int → Int → Int → Int → Bool → Bool → Bool → Heap → Prop) → Prop) (f18_ : Heap → (Bool → Heap → Prop) → Prop) (f21_ : Int → Int → Int → Sl → Int → Heap → (Option Addr → Heap → Prop) → Prop) (f22_ : Sl → Heap → (Sl → Heap → Prop) → Prop) (f23_ : Option Addr → Heap → (Int → Int → Int → Sl → Heap → Prop) → Prop) (f24_ : Int → Int → Int → Sl → Int → Sl → Option Addr → Int → Heap → (Int → Int → Int → Int → Int → Int → Int → Int → Int → Int → Sl → Int → Int → ByteArray → ByteArray → Int → Int → Int → Int → Int → Int → Int → Int → Int → Int → Int → Int → Int → Int → Int → Int → Int → Sl → Int → Int → ByteArray → ByteArray → Int → Int → Int → Int → Int → Int → Int → Bool → Bool → Bool → Heap → Prop) → Prop) (f26_ : Int → Int → Int → Sl → Int → Int → Int → Sl → Heap → (Bool → Heap → Prop) → Prop) (f28_ : Option Addr → Heap → (Int → Heap → Prop) → Prop) (f29_ : Int → Int → Int → Int → Int → Int → Int → Int → Int → Int → Sl → Int → Int → ByteArray → ByteArray → Int → Int → Int → Int → Int → Int → Int → Int → Int → Int → Int → Int → Int → Int → Int → Int → Int → Sl → Int → Int → ByteArray → ByteArray → Int → Int → Int → Int → Int → Int → Int → Heap → (Bool → Heap → Prop) → Prop) (l1 l2 l3 : Int) (l4 : Sl) (l5 : Int) (l6 : Sl) (h : Heap) (K : Value → Heap → Prop) : F_law9_ReplicaTwice_of f12_ f13_ f18_ f21_ f22_ f23_ f24_ f26_ f28_ f29_ l1 l2 l3 l4 l5 l6 h (fun (r0 : Bool) (h : Heap) => K (.bool r0) h) =
    den Try.prog (fn1 12 (E_ref0_CopyMsg_of f12_) (fn1 13 (E_replica_Replica_Hear_of f13_) (fn1 18 (E_law9_lives_of f18_) (fn1 21 (E_replica_Load_of f21_) (fn1 22 (E_ref0_Copy_of f22_) (fn1 23 (E_replica_Replica_Stored_of f23_) (fn1 24 (E_law9_Life_at_of f24_) (fn1 26 (E_ref0_EqStored_of f26_) (fn1 28 (E_replica_Replica_Wait_of f28_) (fn1 29 (E_ref0_EqMsg_of f29_) noFns)))))))))) Try.f8.ntmps plan8 (bodyOf Try.f8) (args0 0 [(.agg #[.int .u64 l1, .int .u64 l2, .int .u64 l3, .slice l4.ptr l4.len l4.cap, .int .i64 l5, .slice l6.ptr l6.len l6.cap] : Value)]) h ⟨fun env h => dRes Try.prog Try.f8.results.toList env h K, fun _ _ _ => False, fun env h => dRes Try.prog Try.f8.results.toList env h K⟩ := by kernel_rfl
def E_law9_ReplicaTwice_of (f : Int → Int → Int → Sl → Int → Sl → Heap → (Bool → Heap → Prop) → Prop) : List Value → Heap → (Value → Heap → Prop) → Prop
  | [v0], h, K => vAgg v0 fun cs0 => decs [.int .u64, .int .u64, .int .u64, .sl, .int .i64, .sl] cs0.toList fun (l1 l2 l3 : Int) (l4 : Sl) (l5 : Int) (l6 : Sl) =>
  f l1 l2 l3 l4 l5 l6 h (fun (r0 : Bool) (h : Heap) => K (.bool r0) h)
  | _, _, _ => False
abbrev E_law9_ReplicaTwice := E_law9_ReplicaTwice_of F_law9_ReplicaTwice
theorem E_law9_ReplicaTwice.at (f : Int → Int → Int → Sl → Int → Sl → Heap → (Bool → Heap → Prop) → Prop) (l1 l2 l3 : Int) (l4 : Sl) (l5 : Int) (l6 : Sl) (h : Heap) (K : Value → Heap → Prop) : E_law9_ReplicaTwice_of f [.agg ([.int .u64 l1, .int .u64 l2, .int .u64 l3, .slice l4.ptr l4.len l4.cap, .int .i64 l5, .slice l6.ptr l6.len l6.cap] : List Value).toArray] h K = f l1 l2 l3 l4 l5 l6 h (fun (r0 : Bool) (h : Heap) => K (.bool r0) h) := rfl
theorem E_law9_ReplicaTwice.right : IsRight Try.prog 8 E_law9_ReplicaTwice := by
  refine isRight fun vs K w hh => ?_
  match vs, hh with
  | [v0], hh =>
    unfold E_law9_ReplicaTwice E_law9_ReplicaTwice_of at hh
    replace hh := vAgg_sound hh; obtain ⟨cs0, rfl, hh⟩ := hh
    replace hh := decs_cons hh; obtain ⟨l1, l0_0, e0_0, hh⟩ := hh
    replace hh := decs_cons hh; obtain ⟨l2, l0_1, e0_1, hh⟩ := hh
    replace hh := decs_cons hh; obtain ⟨l3, l0_2, e0_2, hh⟩ := hh
    replace hh := decs_cons hh; obtain ⟨l4, l0_3, e0_3, hh⟩ := hh
    replace hh := decs_cons hh; obtain ⟨l5, l0_4, e0_4, hh⟩ := hh
    replace hh := decs_cons hh; obtain ⟨l6, l0_5, e0_5, hh⟩ := hh
    replace hh := decs_nil hh; obtain ⟨rfl, hh⟩ := hh
    subst e0_5
    subst e0_4
    subst e0_3
    subst e0_2
    subst e0_1
    have ec0 := toArray_eq e0_0
    subst ec0
    unfold F_law9_ReplicaTwice at hh
    exact calls_den (fn1_right ok12 E_ref0_CopyMsg.right (fn1_right ok13 E_replica_Replica_Hear.right (fn1_right ok18 E_law9_lives.right (fn1_right ok21 E_replica_Load.right (fn1_right ok22 E_ref0_Copy.right (fn1_right ok23 E_replica_Replica_Stored.right (fn1_right ok24 E_law9_Life_at.right (fn1_right ok26 E_ref0_EqStored.right (fn1_right ok28 E_replica_Replica_Wait.right (fn1_right ok29 E_ref0_EqMsg.right noFns_right)))))))))) plan8 _ w K Try.func8 (by kernel_rfl) (by kernel_rfl) (Eq.mp (F_law9_ReplicaTwice.eq F_ref0_CopyMsg F_replica_Replica_Hear F_law9_lives F_replica_Load F_ref0_Copy F_replica_Replica_Stored F_law9_Life_at F_ref0_EqStored F_replica_Replica_Wait F_ref0_EqMsg l1 l2 l3 l4 l5 l6 w.heap K) hh)
theorem ok8 : okFn Try.prog 8 = true := by kernel_rfl
end Go.Proofs.Ytcbelendjpnmiaa.V
/- What a replica hears twice; one that is loaded with what is stored: what ReplicaTwice plays. -/
namespace Go.Proofs.Ytcbelendjpnmiaa.V
open Go Go.RowKit
set_option linter.unusedVariables false
set_option linter.unusedSimpArgs false
def hdC (d : HD) (s : Sl) : List Value := [.int .i64 d.kind, .int .i64 d.frm, .int .i64 d.to, .int .i64 d.shard, .int .u64 d.epoch, .int .u64 d.te, .int .u64 d.ts, .int .u64 d.round, .int .i64 0, .int .u64 d.seen, .slice s.ptr s.len s.cap, .int .i64 0, .int .u64 0, .string (⟨#[]⟩ : ByteArray), .string (⟨#[]⟩ : ByteArray), .int .u64 0, .int .u64 0, .int .u64 0, .int .i64 0, .int .i64 0, .int .i64 0, .int .i64 0, .bool d.ans, .bool d.tak, .bool d.chg]
def hdM (d : HD) (s : Sl) : Mg := ⟨d.kind, d.frm, d.to, d.shard, d.epoch, d.te, d.ts, d.round, 0, d.seen, s, 0, 0, ⟨#[]⟩, ⟨#[]⟩, 0, 0, 0, 0, 0, 0, 0, d.val⟩
theorem act_val {r : RS} {m : Mg} : (act r m).2.val = r.val ∨ (act r m).2.val = [] := by
  unfold act
  split
  · unfold prep; split
    · exact .inr rfl
    · exact .inl rfl
  split
  · unfold writ; split
    · exact .inr rfl
    split
    · exact .inr rfl
    split
    · exact .inr rfl
    · exact .inr rfl
  split
  · unfold beats; split
    · exact .inr rfl
    · exact .inr rfl
  · exact .inr rfl
theorem seal_val {d : HD} {m : Mg} : (d.seal m).val = d.val := by unfold HD.seal; split <;> rfl
theorem hearS_val {r : RS} {m : Mg} (ok : r.Ok) : (hearS r m).2.val.length ≤ (140737488355325 : Nat) := by
  show ((act r m).2.seal m).val.length ≤ _
  rw [seal_val]
  rcases act_val (r := r) (m := m) with h | h <;> rw [h]
  · exact ok.v
  · simp
theorem lifeD_val {r : RS} {o : ROp} (ok : r.Ok) : (lifeD r o).val.length ≤ (140737488355325 : Nat) := by
  unfold lifeD
  split
  · exact hearS_val ok
  · simp [hd0]
theorem bne_refl_int (e : Int) : (e != e) = false := by simp
theorem act_twice (r : RS) (m : Mg) : act (act r m).1 m = ((act r m).1, { (act r m).2 with chg := false }) := by
  unfold act
  by_cases h1 : m.kind = 1
  · simp only [if_pos h1]
    unfold prep
    by_cases hc : m.epoch < r.prom ∨ (r.prom < m.epoch ∧ 0 < r.wait)
    · simp only [if_pos hc]; rfl
    · simp only [if_neg hc]
      rw [if_neg (by show ¬ (m.epoch < m.epoch ∨ (m.epoch < m.epoch ∧ 0 < r.wait)); omega)]
      simp
  by_cases h4 : m.kind = 4
  · simp only [if_neg h1, if_pos h4]
    unfold writ
    by_cases hc : m.te < r.prom
    · simp only [if_pos hc]; rfl
    · simp only [if_neg hc]
      by_cases hl : tagLt m.te m.ts r.te r.ts
      · simp only [if_pos hl]
        rw [if_neg (by show ¬ m.te < m.te; omega), if_pos (show tagLt m.te m.ts (r.take_ m.te m.span).te (r.take_ m.te m.span).ts from hl)]
        simp [RS.take_]
      · simp only [if_neg hl]
        have hs : ¬ tagLt m.te m.ts m.te m.ts := by unfold tagLt; omega
        by_cases hg : tagLt r.te r.ts m.te m.ts
        · simp only [if_pos hg]
          rw [if_neg (by show ¬ m.te < m.te; omega), if_neg hs, if_neg hs]
          simp [RS.take_]
        · simp only [if_neg hg]
          rw [if_neg (by show ¬ m.te < m.te; omega), if_neg (show ¬ tagLt m.te m.ts (r.take_ m.te m.span).te (r.take_ m.te m.span).ts from hl), if_neg (show ¬ tagLt (r.take_ m.te m.span).te (r.take_ m.te m.span).ts m.te m.ts from hg)]
          simp [RS.take_]
  by_cases h6 : m.kind = 6
  · simp only [if_neg h1, if_neg h4, if_pos h6]
    unfold beats
    by_cases hc : m.epoch < r.prom
    · simp only [if_pos hc]; rfl
    · simp only [if_neg hc]
      rw [if_neg (by show ¬ m.epoch < m.epoch; omega)]
      simp [RS.take_]
  · simp only [if_neg h1, if_neg h4, if_neg h6]; rfl
theorem hear_twice (r : RS) (m : Mg) : hearS (hearS r m).1 m = ((hearS r m).1, { (hearS r m).2 with chg := false }) := by
  have h := act_twice r m
  unfold hearS
  dsimp only
  rw [h]
  unfold HD.seal
  by_cases hk : (act r m).2.kind = 0
  · simp only [if_pos hk]
  · simp only [if_neg hk]
theorem replicaTwice_main (H : Heap) (cs : List Value) (F : Fit H 140737488351232 tyLife cs) : E_law9_ReplicaTwice [.agg cs.toArray] H (fun r h' => r = .bool true ∧ KeptH H h') := by
  replace F := Fit.g F
  obtain ⟨t1, _, rfl, t1a, t1b, F⟩ := Fit.i F
  replace F := Fit.g F
  replace F := Fit.g F
  obtain ⟨t2, _, rfl, t2a, t2b, F⟩ := Fit.i F
  replace F := Fit.g F
  obtain ⟨t3, _, rfl, t3a, t3b, F⟩ := Fit.i F
  replace F := Fit.z F
  replace F := Fit.g F
  obtain ⟨t4, _, rfl, t4S, F⟩ := Fit.s F
  replace F := Fit.z F
  obtain ⟨t5, _, rfl, t5a, t5b, F⟩ := Fit.i F
  obtain ⟨t6, _, rfl, t6S, F⟩ := Fit.s F
  obtain rfl := Fit.e F
  refine Eq.mpr (E_law9_ReplicaTwice.at F_law9_ReplicaTwice t1 t2 t3 t4 t5 t6 H _) ?_
  obtain ⟨ops, Vo⟩ := t6S.rops
  obtain ⟨_, b2, lv, Vl⟩ := t4S.bytes
  have hlv := Vl.len
  rw [i64_max] at t5b
  rw [F_law9_ReplicaTwice.eq_1, F_law9_ReplicaTwice_of.eq_1]
  refine Sat.al (Sat.nil H) fun x7 h1 O => ?_
  repeat (first | (with_reducible refine al_id ?_); refine O.al fun _ h O => ?_ | (with_reducible refine nn_id ?_); refine ⟨_, rfl, ?_⟩ | (with_reducible refine ld_id ?_); (first | refine O.ld 0 rfl ?_); (repeat (first | (with_reducible refine ldL_n ?_) | refine ldL_s ?_ | refine ldL_c ?_)) | (with_reducible refine st_ad (by first | (with_reducible rfl) | (simp only [pt_add, Nat.zero_add, Nat.add_zero, Nat.reduceAdd]; with_reducible rfl)) ?_); (first | refine O.st 0 rfl (by simp) rfl fun h O => ?_); (dsimp only [V.put, List.set, List.length_cons, List.length_nil] at O) | (with_reducible refine ca_id ?_); (first | refine O.ca 0 1 rfl ?_ | refine O.ca 0 2 rfl ?_))
  refine F_ref0_Copy.is O (Vl.kept O.kept) (by omega) fun s h O _ _ => ?_
  repeat (first | (with_reducible refine al_id ?_); refine O.al fun _ h O => ?_ | (with_reducible refine nn_id ?_); refine ⟨_, rfl, ?_⟩ | (with_reducible refine ld_id ?_); (first | refine O.ld 0 rfl ?_ | refine O.ld 1 rfl ?_); (repeat (first | (with_reducible refine ldL_n ?_) | refine ldL_s ?_ | refine ldL_c ?_)) | (with_reducible refine st_ad (by first | (with_reducible rfl) | (simp only [pt_add, Nat.zero_add, Nat.add_zero, Nat.reduceAdd]; with_reducible rfl)) ?_); (first | refine O.st 0 rfl (by simp) rfl fun h O => ?_ | refine O.st 1 rfl (by simp) rfl fun h O => ?_); (dsimp only [V.put, List.set, List.length_cons, List.length_nil] at O) | (with_reducible refine ca_id ?_); (first | refine O.ca 0 1 rfl ?_ | refine O.ca 0 2 rfl ?_ | refine O.ca 1 1 rfl ?_ | refine O.ca 1 2 rfl ?_))
  refine F_replica_Load.is O (fun h O => (O.view 0 u8_len (by simp) rfl).1) (by omega) fun p h O => ?_
  have O := O.sel [0, 2] 3 rfl (Nat.le_add_left _ _)
  have start : ∃ r : RS, r.Ok ∧ Sat H h [repR p r, own x7 [.int .u64 t1, .int .u64 t2, .int .u64 t3, .slice t4.ptr t4.len t4.cap, .int .i64 t5, .slice t6.ptr t6.len t6.cap]] :=
    ⟨_, ⟨by show lv.length ≤ _; omega, (spanOf_ok t5b).1, (spanOf_ok t5b).2⟩, O⟩
  clear O
  obtain ⟨r, ok, O⟩ := start
  refine jn1 (fun z h' => z = false ∧ Sat H h' [repR p r, own x7 [.int .u64 t1, .int .u64 t2, .int .u64 t3, .slice t4.ptr t4.len t4.cap, .int .i64 t5, .slice t6.ptr t6.len t6.cap]]) ?_ ?_
  case refine_2 =>
    intro j hj
    refine brr_ff rfl ?_
    refine F_law9_lives.is O fun h O => ?_
    exact hj _ _ ⟨rfl, O⟩
  clear O
  rintro z h ⟨rfl, O⟩
  refine brr_ff rfl ?_
  refine jn0 (fun h' => KeptH H h') (fun h hk => ⟨rfl, hk⟩) fun j23 hj23 => ?_
  rw [F_law9_ReplicaTwice.l1.eq_1]
  refine wl1 (k := .int .i64) (fun (m : Nat) (i : Int) (h' : Heap) => i + m = ops.length ∧ 0 ≤ i ∧ i ≤ 500 ∧ ∃ r : RS, r.Ok ∧ Sat H h' [repR p r, own x7 [.int .u64 t1, .int .u64 t2, .int .u64 t3, .slice t4.ptr t4.len t4.cap, .int .i64 t5, .slice t6.ptr t6.len t6.cap]]) ?_ (m := ops.length) ⟨by omega, by omega, by omega, r, ok, O⟩
  clear O ok r
  rintro m (i : Int) h next hn ⟨hi, hi0, hi5, r, ok, O⟩
  refine jn1 (fun t h' => h' = h ∧ t = decide (i < ops.length ∧ i < 500)) ?_ ?_
  case refine_2 =>
    intro j2 hj2
    repeat (first | (with_reducible refine al_id ?_); refine O.al fun _ h O => ?_ | (with_reducible refine nn_id ?_); refine ⟨_, rfl, ?_⟩ | (with_reducible refine ld_id ?_); (first | refine O.ld 0 rfl ?_ | refine O.ld 1 rfl ?_); (repeat (first | (with_reducible refine ldL_n ?_) | refine ldL_s ?_ | refine ldL_c ?_)) | (with_reducible refine st_ad (by first | (with_reducible rfl) | (simp only [pt_add, Nat.zero_add, Nat.add_zero, Nat.reduceAdd]; with_reducible rfl)) ?_); (first | refine O.st 0 rfl (by simp) rfl fun h O => ?_ | refine O.st 1 rfl (by simp) rfl fun h O => ?_); (dsimp only [V.put, List.set, List.length_cons, List.length_nil] at O) | (with_reducible refine ca_id ?_); (first | refine O.ca 0 1 rfl ?_ | refine O.ca 0 2 rfl ?_ | refine O.ca 1 1 rfl ?_ | refine O.ca 1 2 rfl ?_))
    rw [Vo.len]
    refine brr_p (fun hlt => ?_) (fun hlt => ?_)
    · exact hj2 _ _ ⟨rfl, by simp [hlt]⟩
    · exact hj2 _ _ ⟨rfl, by simp; intro h; omega⟩
  rintro t h ⟨rfl, rfl⟩
  refine brr_p (fun ht => ?_) (fun ht => hj23 _ O.kept)
  obtain ⟨hlt, hlt5⟩ := ht
  refine jn0 (fun h' => ∃ r : RS, r.Ok ∧ Sat H h' [repR p r, own x7 [.int .u64 t1, .int .u64 t2, .int .u64 t3, .slice t4.ptr t4.len t4.cap, .int .i64 t5, .slice t6.ptr t6.len t6.cap]]) ?_ ?_
  · clear O ok r
    rintro h ⟨r, ok, O⟩
    rw [wrap64 (by omega) (by omega)]
    exact hn (m - 1) _ _ (by omega) ⟨by omega, by omega, by omega, r, ok, O⟩
  clear hn
  intro j31 hj31
  obtain ⟨o, ho⟩ : ∃ o, ops[i.toNat]? = some o := ⟨_, List.getElem?_eq_getElem (by omega)⟩
  have oo : o.Ok H := by
    obtain ⟨a, cs, _, _, ⟨_, oo⟩, _⟩ := Vo.2 _ _ ho
    exact oo
  have ok2 : (lifeS r o).Ok := lifeS_ok ok oo
  have hdv := lifeD_val (o := o) ok
  refine F_replica_Replica_Stored.is ok O fun s h O => ?_
  refine F_replica_Replica_Wait.is O.swap ?_
  refine F_replica_Load.is O (fun h O => (O.view 0 u8_len (by simp) rfl).1) ok.v fun q h O => ?_
  rw [show (⟨r.prom, r.te, r.ts, r.val, spanOf r.wait⟩ : RS) = r by rw [spanOf_id ok.w0]] at O
  refine brr_ff rfl ?_
  repeat (first | (with_reducible refine al_id ?_); refine O.al fun _ h O => ?_ | (with_reducible refine nn_id ?_); refine ⟨_, rfl, ?_⟩ | (with_reducible refine ld_id ?_); (first | refine O.ld 0 rfl ?_ | refine O.ld 1 rfl ?_ | refine O.ld 2 rfl ?_ | refine O.ld 3 rfl ?_); (repeat (first | (with_reducible refine ldL_n ?_) | refine ldL_s ?_ | refine ldL_c ?_)) | (with_reducible refine st_ad (by first | (with_reducible rfl) | (simp only [pt_add, Nat.zero_add, Nat.add_zero, Nat.reduceAdd]; with_reducible rfl)) ?_); (first | refine O.st 0 rfl (by simp) rfl fun h O => ?_ | refine O.st 1 rfl (by simp) rfl fun h O => ?_ | refine O.st 2 rfl (by simp) rfl fun h O => ?_ | refine O.st 3 rfl (by simp) rfl fun h O => ?_); (dsimp only [V.put, List.set, List.length_cons, List.length_nil] at O) | (with_reducible refine ca_id ?_); (first | refine O.ca 0 1 rfl ?_ | refine O.ca 0 2 rfl ?_ | refine O.ca 1 1 rfl ?_ | refine O.ca 1 2 rfl ?_ | refine O.ca 2 1 rfl ?_ | refine O.ca 2 2 rfl ?_ | refine O.ca 3 1 rfl ?_ | refine O.ca 3 2 rfl ?_))
  replace O := O.sel [2, 0, 3] 4 rfl (Nat.le_add_left _ _)
  simp only [selT, List.map, nth, List.drop, List.cons_append, List.nil_append] at O
  refine F_law9_Life_at.is Vo hi0 ho ok O fun s1 h O => ?_
  refine O.al fun x95 h O => ?_
  refine O.al fun x97 h O => ?_
  refine O.st 1 rfl (by simp) rfl fun h O => ?_
  dsimp only [V.put, List.set] at O
  refine O.st 0 rfl (by simp) rfl fun h O => ?_
  dsimp only [V.put, List.set] at O
  repeat (first | (with_reducible refine al_id ?_); refine O.al fun _ h O => ?_ | (with_reducible refine nn_id ?_); refine ⟨_, rfl, ?_⟩ | (with_reducible refine ld_id ?_); (first | refine O.ld 0 rfl ?_ | refine O.ld 1 rfl ?_ | refine O.ld 2 rfl ?_ | refine O.ld 3 rfl ?_ | refine O.ld 4 rfl ?_ | refine O.ld 5 rfl ?_); (repeat (first | (with_reducible refine ldL_n ?_) | refine ldL_s ?_ | refine ldL_c ?_)) | (with_reducible refine st_ad (by first | (with_reducible rfl) | (simp only [pt_add, Nat.zero_add, Nat.add_zero, Nat.reduceAdd]; with_reducible rfl)) ?_); (first | refine O.st 0 rfl (by simp) rfl fun h O => ?_ | refine O.st 1 rfl (by simp) rfl fun h O => ?_ | refine O.st 2 rfl (by simp) rfl fun h O => ?_ | refine O.st 3 rfl (by simp) rfl fun h O => ?_ | refine O.st 4 rfl (by simp) rfl fun h O => ?_ | refine O.st 5 rfl (by simp) rfl fun h O => ?_); (dsimp only [V.put, List.set, List.length_cons, List.length_nil] at O) | (with_reducible refine ca_id ?_); (first | refine O.ca 0 1 rfl ?_ | refine O.ca 0 2 rfl ?_ | refine O.ca 1 1 rfl ?_ | refine O.ca 1 2 rfl ?_ | refine O.ca 2 1 rfl ?_ | refine O.ca 2 2 rfl ?_ | refine O.ca 3 1 rfl ?_ | refine O.ca 3 2 rfl ?_ | refine O.ca 4 1 rfl ?_ | refine O.ca 4 2 rfl ?_ | refine O.ca 5 1 rfl ?_ | refine O.ca 5 2 rfl ?_))
  replace O := O.sel [4, 0, 1, 2, 3, 5] 6 rfl (Nat.le_add_left _ _)
  simp only [selT, List.map, nth, List.drop, List.cons_append, List.nil_append] at O
  refine F_law9_Life_at.is Vo hi0 ho ok O fun s2 h O => ?_
  refine O.al fun x155 h O => ?_
  refine O.al fun x157 h O => ?_
  refine O.st 1 rfl (by simp) rfl fun h O => ?_
  dsimp only [V.put, List.set] at O
  refine O.st 0 rfl (by simp) rfl fun h O => ?_
  dsimp only [V.put, List.set] at O
  -- x157, x155, buf s2, repR q, x97, x95, buf s1, repR p, x7
  have O : Sat H h [own x157 (hdC (lifeD r o) s2), own x155 (mgC (lifeM o)), buf 1 u8 s2 (lifeD r o).val, repR q (lifeS r o), own x97 (hdC (lifeD r o) s1), own x95 (mgC (lifeM o)), buf 1 u8 s1 (lifeD r o).val, repR p (lifeS r o), own x7 [.int .u64 t1, .int .u64 t2, .int .u64 t3, .slice t4.ptr t4.len t4.cap, .int .i64 t5, .slice t6.ptr t6.len t6.cap]] := O
  refine jn1 (fun z h' => z = false ∧ Sat H h' [repR p (lifeS r o), own x97 (hdC (lifeD r o) s1), own x95 (mgC (lifeM o)), own x157 (hdC (lifeD r o) s2), buf 1 u8 s2 (lifeD r o).val, own x7 [.int .u64 t1, .int .u64 t2, .int .u64 t3, .slice t4.ptr t4.len t4.cap, .int .i64 t5, .slice t6.ptr t6.len t6.cap]]) ?_ ?_
  case refine_2 =>
    intro j161 hj
    repeat (first | (with_reducible refine al_id ?_); refine O.al fun _ h O => ?_ | (with_reducible refine nn_id ?_); refine ⟨_, rfl, ?_⟩ | (with_reducible refine ld_id ?_); (first | refine O.ld 0 rfl ?_ | refine O.ld 1 rfl ?_ | refine O.ld 2 rfl ?_ | refine O.ld 3 rfl ?_ | refine O.ld 4 rfl ?_ | refine O.ld 5 rfl ?_); (repeat (first | (with_reducible refine ldL_n ?_) | refine ldL_s ?_ | refine ldL_c ?_)) | (with_reducible refine st_ad (by first | (with_reducible rfl) | (simp only [pt_add, Nat.zero_add, Nat.add_zero, Nat.reduceAdd]; with_reducible rfl)) ?_); (first | refine O.st 0 rfl (by simp) rfl fun h O => ?_ | refine O.st 1 rfl (by simp) rfl fun h O => ?_ | refine O.st 2 rfl (by simp) rfl fun h O => ?_ | refine O.st 3 rfl (by simp) rfl fun h O => ?_ | refine O.st 4 rfl (by simp) rfl fun h O => ?_ | refine O.st 5 rfl (by simp) rfl fun h O => ?_); (dsimp only [V.put, List.set, List.length_cons, List.length_nil] at O) | (with_reducible refine ca_id ?_); (first | refine O.ca 0 1 rfl ?_ | refine O.ca 0 2 rfl ?_ | refine O.ca 1 1 rfl ?_ | refine O.ca 1 2 rfl ?_ | refine O.ca 2 1 rfl ?_ | refine O.ca 2 2 rfl ?_ | refine O.ca 3 1 rfl ?_ | refine O.ca 3 2 rfl ?_ | refine O.ca 4 1 rfl ?_ | refine O.ca 4 2 rfl ?_ | refine O.ca 5 1 rfl ?_ | refine O.ca 5 2 rfl ?_))
    refine F_ref0_EqMsg.is (m := hdM (lifeD r o) s1) (t := s2) O (fun h O => (O.view 6 u8_len (by simp) rfl).1) (fun h O => (O.view 2 u8_len (by simp) rfl).1) hdv fun h O => ?_
    refine brr_ff rfl ?_
    repeat (first | (with_reducible refine al_id ?_); refine O.al fun _ h O => ?_ | (with_reducible refine nn_id ?_); refine ⟨_, rfl, ?_⟩ | (with_reducible refine ld_id ?_); (first | refine O.ld 0 rfl ?_ | refine O.ld 1 rfl ?_ | refine O.ld 2 rfl ?_ | refine O.ld 3 rfl ?_ | refine O.ld 4 rfl ?_ | refine O.ld 5 rfl ?_); (repeat (first | (with_reducible refine ldL_n ?_) | refine ldL_s ?_ | refine ldL_c ?_)) | (with_reducible refine st_ad (by first | (with_reducible rfl) | (simp only [pt_add, Nat.zero_add, Nat.add_zero, Nat.reduceAdd]; with_reducible rfl)) ?_); (first | refine O.st 0 rfl (by simp) rfl fun h O => ?_ | refine O.st 1 rfl (by simp) rfl fun h O => ?_ | refine O.st 2 rfl (by simp) rfl fun h O => ?_ | refine O.st 3 rfl (by simp) rfl fun h O => ?_ | refine O.st 4 rfl (by simp) rfl fun h O => ?_ | refine O.st 5 rfl (by simp) rfl fun h O => ?_); (dsimp only [V.put, List.set, List.length_cons, List.length_nil] at O) | (with_reducible refine ca_id ?_); (first | refine O.ca 0 1 rfl ?_ | refine O.ca 0 2 rfl ?_ | refine O.ca 1 1 rfl ?_ | refine O.ca 1 2 rfl ?_ | refine O.ca 2 1 rfl ?_ | refine O.ca 2 2 rfl ?_ | refine O.ca 3 1 rfl ?_ | refine O.ca 3 2 rfl ?_ | refine O.ca 4 1 rfl ?_ | refine O.ca 4 2 rfl ?_ | refine O.ca 5 1 rfl ?_ | refine O.ca 5 2 rfl ?_))
    refine brr_ff (by simp) ?_
    repeat (first | (with_reducible refine al_id ?_); refine O.al fun _ h O => ?_ | (with_reducible refine nn_id ?_); refine ⟨_, rfl, ?_⟩ | (with_reducible refine ld_id ?_); (first | refine O.ld 0 rfl ?_ | refine O.ld 1 rfl ?_ | refine O.ld 2 rfl ?_ | refine O.ld 3 rfl ?_ | refine O.ld 4 rfl ?_ | refine O.ld 5 rfl ?_); (repeat (first | (with_reducible refine ldL_n ?_) | refine ldL_s ?_ | refine ldL_c ?_)) | (with_reducible refine st_ad (by first | (with_reducible rfl) | (simp only [pt_add, Nat.zero_add, Nat.add_zero, Nat.reduceAdd]; with_reducible rfl)) ?_); (first | refine O.st 0 rfl (by simp) rfl fun h O => ?_ | refine O.st 1 rfl (by simp) rfl fun h O => ?_ | refine O.st 2 rfl (by simp) rfl fun h O => ?_ | refine O.st 3 rfl (by simp) rfl fun h O => ?_ | refine O.st 4 rfl (by simp) rfl fun h O => ?_ | refine O.st 5 rfl (by simp) rfl fun h O => ?_); (dsimp only [V.put, List.set, List.length_cons, List.length_nil] at O) | (with_reducible refine ca_id ?_); (first | refine O.ca 0 1 rfl ?_ | refine O.ca 0 2 rfl ?_ | refine O.ca 1 1 rfl ?_ | refine O.ca 1 2 rfl ?_ | refine O.ca 2 1 rfl ?_ | refine O.ca 2 2 rfl ?_ | refine O.ca 3 1 rfl ?_ | refine O.ca 3 2 rfl ?_ | refine O.ca 4 1 rfl ?_ | refine O.ca 4 2 rfl ?_ | refine O.ca 5 1 rfl ?_ | refine O.ca 5 2 rfl ?_))
    refine brr_ff (by simp) ?_
    repeat (first | (with_reducible refine al_id ?_); refine O.al fun _ h O => ?_ | (with_reducible refine nn_id ?_); refine ⟨_, rfl, ?_⟩ | (with_reducible refine ld_id ?_); (first | refine O.ld 0 rfl ?_ | refine O.ld 1 rfl ?_ | refine O.ld 2 rfl ?_ | refine O.ld 3 rfl ?_ | refine O.ld 4 rfl ?_ | refine O.ld 5 rfl ?_); (repeat (first | (with_reducible refine ldL_n ?_) | refine ldL_s ?_ | refine ldL_c ?_)) | (with_reducible refine st_ad (by first | (with_reducible rfl) | (simp only [pt_add, Nat.zero_add, Nat.add_zero, Nat.reduceAdd]; with_reducible rfl)) ?_); (first | refine O.st 0 rfl (by simp) rfl fun h O => ?_ | refine O.st 1 rfl (by simp) rfl fun h O => ?_ | refine O.st 2 rfl (by simp) rfl fun h O => ?_ | refine O.st 3 rfl (by simp) rfl fun h O => ?_ | refine O.st 4 rfl (by simp) rfl fun h O => ?_ | refine O.st 5 rfl (by simp) rfl fun h O => ?_); (dsimp only [V.put, List.set, List.length_cons, List.length_nil] at O) | (with_reducible refine ca_id ?_); (first | refine O.ca 0 1 rfl ?_ | refine O.ca 0 2 rfl ?_ | refine O.ca 1 1 rfl ?_ | refine O.ca 1 2 rfl ?_ | refine O.ca 2 1 rfl ?_ | refine O.ca 2 2 rfl ?_ | refine O.ca 3 1 rfl ?_ | refine O.ca 3 2 rfl ?_ | refine O.ca 4 1 rfl ?_ | refine O.ca 4 2 rfl ?_ | refine O.ca 5 1 rfl ?_ | refine O.ca 5 2 rfl ?_))
    refine brr_ff (by simp) ?_
    replace O := O.sel [7, 0, 1, 2, 3, 4, 5, 6, 8] 9 rfl (Nat.le_add_left _ _)
    simp only [selT, List.map, nth, List.drop, List.cons_append, List.nil_append] at O
    refine F_replica_Replica_Stored.is ok2 O fun u1 h O => ?_
    replace O := O.sel [5, 0, 1, 2, 3, 4, 6, 7, 8, 9] 10 rfl (Nat.le_add_left _ _)
    simp only [selT, List.map, nth, List.drop, List.cons_append, List.nil_append] at O
    refine F_replica_Replica_Stored.is ok2 O fun u2 h O => ?_
    refine F_ref0_EqStored.is O (fun h O => (O.view 2 u8_len (by simp) rfl).1) (fun h O => (O.view 0 u8_len (by simp) rfl).1) ok2.v ok2.v fun h O => ?_
    refine brr_ff (by simp) ?_
    replace O := O.sel [3, 0, 1, 2, 4, 5, 6, 7, 8, 9, 10] 11 rfl (Nat.le_add_left _ _)
    simp only [selT, List.map, nth, List.drop, List.cons_append, List.nil_append] at O
    refine F_replica_Replica_Wait.is O ?_
    replace O := O.sel [2, 0, 1, 3, 4, 5, 6, 7, 8, 9, 10] 11 rfl (Nat.le_add_left _ _)
    simp only [selT, List.map, nth, List.drop, List.cons_append, List.nil_append] at O
    refine F_replica_Replica_Wait.is O ?_
    refine hj _ _ ⟨by simp, ?_⟩
    exact O.sel [1, 7, 8, 4, 6, 10] 11 rfl (Nat.le_add_left _ _)
  clear O
  rintro z h ⟨rfl, O⟩
  refine brr_ff rfl ?_
  repeat (first | (with_reducible refine al_id ?_); refine O.al fun _ h O => ?_ | (with_reducible refine nn_id ?_); refine ⟨_, rfl, ?_⟩ | (with_reducible refine ld_id ?_); (first | refine O.ld 0 rfl ?_ | refine O.ld 1 rfl ?_ | refine O.ld 2 rfl ?_); (repeat (first | (with_reducible refine ldL_n ?_) | refine ldL_s ?_ | refine ldL_c ?_)) | (with_reducible refine st_ad (by first | (with_reducible rfl) | (simp only [pt_add, Nat.zero_add, Nat.add_zero, Nat.reduceAdd]; with_reducible rfl)) ?_); (first | refine O.st 0 rfl (by simp) rfl fun h O => ?_ | refine O.st 1 rfl (by simp) rfl fun h O => ?_ | refine O.st 2 rfl (by simp) rfl fun h O => ?_); (dsimp only [V.put, List.set, List.length_cons, List.length_nil] at O) | (with_reducible refine ca_id ?_); (first | refine O.ca 0 1 rfl ?_ | refine O.ca 0 2 rfl ?_ | refine O.ca 1 1 rfl ?_ | refine O.ca 1 2 rfl ?_ | refine O.ca 2 1 rfl ?_ | refine O.ca 2 2 rfl ?_))
  refine brr_eq (fun hk0 => ?_) (fun hk0 => ?_)
  · exact hj31 _ ⟨_, ok2, O.sel [0, 5] 6 rfl (Nat.le_add_left _ _)⟩
  have hdo : o.do_ = 1 := by
    by_cases h1 : o.do_ = 1
    · exact h1
    · exact absurd (show (lifeM o).kind = 0 by unfold lifeM; rw [if_neg h1]; rfl) hk0
  have e1 : lifeM o = o.m := by unfold lifeM; rw [if_pos hdo]
  have e2 : lifeD r o = (hearS r o.m).2 := by unfold lifeD; rw [if_pos hdo]
  have e3 : lifeS r o = (hearS r o.m).1 := by unfold lifeS; rw [if_pos hdo]
  refine F_replica_Replica_Stored.is ok2 O fun u3 h O => ?_
  refine O.al fun x238 h O => ?_
  refine O.st 0 rfl (by simp) rfl fun h O => ?_
  dsimp only [V.put, List.set] at O
  repeat (first | (with_reducible refine al_id ?_); refine O.al fun _ h O => ?_ | (with_reducible refine nn_id ?_); refine ⟨_, rfl, ?_⟩ | (with_reducible refine ld_id ?_); (first | refine O.ld 0 rfl ?_ | refine O.ld 1 rfl ?_ | refine O.ld 2 rfl ?_ | refine O.ld 3 rfl ?_ | refine O.ld 4 rfl ?_); (repeat (first | (with_reducible refine ldL_n ?_) | refine ldL_s ?_ | refine ldL_c ?_)) | (with_reducible refine st_ad (by first | (with_reducible rfl) | (simp only [pt_add, Nat.zero_add, Nat.add_zero, Nat.reduceAdd]; with_reducible rfl)) ?_); (first | refine O.st 0 rfl (by simp) rfl fun h O => ?_ | refine O.st 1 rfl (by simp) rfl fun h O => ?_ | refine O.st 2 rfl (by simp) rfl fun h O => ?_ | refine O.st 3 rfl (by simp) rfl fun h O => ?_ | refine O.st 4 rfl (by simp) rfl fun h O => ?_); (dsimp only [V.put, List.set, List.length_cons, List.length_nil] at O) | (with_reducible refine ca_id ?_); (first | refine O.ca 0 1 rfl ?_ | refine O.ca 0 2 rfl ?_ | refine O.ca 1 1 rfl ?_ | refine O.ca 1 2 rfl ?_ | refine O.ca 2 1 rfl ?_ | refine O.ca 2 2 rfl ?_ | refine O.ca 3 1 rfl ?_ | refine O.ca 3 2 rfl ?_ | refine O.ca 4 1 rfl ?_ | refine O.ca 4 2 rfl ?_))
  refine F_ref0_CopyMsg.is (m := lifeM o) O (fun h O => (lifeM_b oo).1.kept O.kept) (lifeM_b oo).2 fun sc h O => ?_
  replace O := O.sel [3, 0, 1, 2, 4, 5, 6, 7, 8] 9 rfl (Nat.le_add_left _ _)
  simp only [selT, List.map, nth, List.drop, List.cons_append, List.nil_append] at O
  refine F_replica_Replica_Hear.is (m := { lifeM o with v := sc }) ok2 (fun h O => (O.view 0 u8_len (by simp) rfl).1) (lifeM_b oo).2 O fun s4 h O => ?_
  have e4 : hearS (lifeS r o) { lifeM o with v := sc } = (lifeS r o, { lifeD r o with chg := false }) := by
    have := hear_twice r o.m
    rw [e1, e2, e3]
    exact this
  rw [e4] at O ⊢
  -- buf s4, repR p, buf sc, x238, buf u3, x97, x95, x157, buf s2, x7
  refine O.st 5 rfl (by simp [hdC]) rfl fun h O => ?_
  simp only [V.put, List.set, hdC] at O
  refine jn1 (fun z h' => z = false ∧ Sat H h' [repR p (lifeS r o), own x7 [.int .u64 t1, .int .u64 t2, .int .u64 t3, .slice t4.ptr t4.len t4.cap, .int .i64 t5, .slice t6.ptr t6.len t6.cap]]) ?_ ?_
  · clear O
    rintro z h ⟨rfl, O⟩
    refine brr_ff rfl ?_
    exact hj31 _ ⟨_, ok2, O⟩
  · intro j313 hj
    repeat (first | (with_reducible refine al_id ?_); refine O.al fun _ h O => ?_ | (with_reducible refine nn_id ?_); refine ⟨_, rfl, ?_⟩ | (with_reducible refine ld_id ?_); (first | refine O.ld 0 rfl ?_ | refine O.ld 1 rfl ?_ | refine O.ld 2 rfl ?_ | refine O.ld 3 rfl ?_ | refine O.ld 4 rfl ?_ | refine O.ld 5 rfl ?_ | refine O.ld 6 rfl ?_ | refine O.ld 7 rfl ?_); (repeat (first | (with_reducible refine ldL_n ?_) | refine ldL_s ?_ | refine ldL_c ?_)) | (with_reducible refine st_ad (by first | (with_reducible rfl) | (simp only [pt_add, Nat.zero_add, Nat.add_zero, Nat.reduceAdd]; with_reducible rfl)) ?_); (first | refine O.st 0 rfl (by simp) rfl fun h O => ?_ | refine O.st 1 rfl (by simp) rfl fun h O => ?_ | refine O.st 2 rfl (by simp) rfl fun h O => ?_ | refine O.st 3 rfl (by simp) rfl fun h O => ?_ | refine O.st 4 rfl (by simp) rfl fun h O => ?_ | refine O.st 5 rfl (by simp) rfl fun h O => ?_ | refine O.st 6 rfl (by simp) rfl fun h O => ?_ | refine O.st 7 rfl (by simp) rfl fun h O => ?_); (dsimp only [V.put, List.set, List.length_cons, List.length_nil] at O) | (with_reducible refine ca_id ?_); (first | refine O.ca 0 1 rfl ?_ | refine O.ca 0 2 rfl ?_ | refine O.ca 1 1 rfl ?_ | refine O.ca 1 2 rfl ?_ | refine O.ca 2 1 rfl ?_ | refine O.ca 2 2 rfl ?_ | refine O.ca 3 1 rfl ?_ | refine O.ca 3 2 rfl ?_ | refine O.ca 4 1 rfl ?_ | refine O.ca 4 2 rfl ?_ | refine O.ca 5 1 rfl ?_ | refine O.ca 5 2 rfl ?_ | refine O.ca 6 1 rfl ?_ | refine O.ca 6 2 rfl ?_ | refine O.ca 7 1 rfl ?_ | refine O.ca 7 2 rfl ?_))
    refine F_ref0_EqMsg.is (m := hdM (lifeD r o) s4) (t := s2) O (fun h O => (O.view 0 u8_len (by simp) rfl).1) (fun h O => (O.view 8 u8_len (by simp) rfl).1) hdv fun h O => ?_
    refine brr_ff rfl ?_
    repeat (first | (with_reducible refine al_id ?_); refine O.al fun _ h O => ?_ | (with_reducible refine nn_id ?_); refine ⟨_, rfl, ?_⟩ | (with_reducible refine ld_id ?_); (first | refine O.ld 0 rfl ?_ | refine O.ld 1 rfl ?_ | refine O.ld 2 rfl ?_ | refine O.ld 3 rfl ?_ | refine O.ld 4 rfl ?_ | refine O.ld 5 rfl ?_ | refine O.ld 6 rfl ?_ | refine O.ld 7 rfl ?_); (repeat (first | (with_reducible refine ldL_n ?_) | refine ldL_s ?_ | refine ldL_c ?_)) | (with_reducible refine st_ad (by first | (with_reducible rfl) | (simp only [pt_add, Nat.zero_add, Nat.add_zero, Nat.reduceAdd]; with_reducible rfl)) ?_); (first | refine O.st 0 rfl (by simp) rfl fun h O => ?_ | refine O.st 1 rfl (by simp) rfl fun h O => ?_ | refine O.st 2 rfl (by simp) rfl fun h O => ?_ | refine O.st 3 rfl (by simp) rfl fun h O => ?_ | refine O.st 4 rfl (by simp) rfl fun h O => ?_ | refine O.st 5 rfl (by simp) rfl fun h O => ?_ | refine O.st 6 rfl (by simp) rfl fun h O => ?_ | refine O.st 7 rfl (by simp) rfl fun h O => ?_); (dsimp only [V.put, List.set, List.length_cons, List.length_nil] at O) | (with_reducible refine ca_id ?_); (first | refine O.ca 0 1 rfl ?_ | refine O.ca 0 2 rfl ?_ | refine O.ca 1 1 rfl ?_ | refine O.ca 1 2 rfl ?_ | refine O.ca 2 1 rfl ?_ | refine O.ca 2 2 rfl ?_ | refine O.ca 3 1 rfl ?_ | refine O.ca 3 2 rfl ?_ | refine O.ca 4 1 rfl ?_ | refine O.ca 4 2 rfl ?_ | refine O.ca 5 1 rfl ?_ | refine O.ca 5 2 rfl ?_ | refine O.ca 6 1 rfl ?_ | refine O.ca 6 2 rfl ?_ | refine O.ca 7 1 rfl ?_ | refine O.ca 7 2 rfl ?_))
    refine brr_ff (by simp) ?_
    repeat (first | (with_reducible refine al_id ?_); refine O.al fun _ h O => ?_ | (with_reducible refine nn_id ?_); refine ⟨_, rfl, ?_⟩ | (with_reducible refine ld_id ?_); (first | refine O.ld 0 rfl ?_ | refine O.ld 1 rfl ?_ | refine O.ld 2 rfl ?_ | refine O.ld 3 rfl ?_ | refine O.ld 4 rfl ?_ | refine O.ld 5 rfl ?_ | refine O.ld 6 rfl ?_ | refine O.ld 7 rfl ?_); (repeat (first | (with_reducible refine ldL_n ?_) | refine ldL_s ?_ | refine ldL_c ?_)) | (with_reducible refine st_ad (by first | (with_reducible rfl) | (simp only [pt_add, Nat.zero_add, Nat.add_zero, Nat.reduceAdd]; with_reducible rfl)) ?_); (first | refine O.st 0 rfl (by simp) rfl fun h O => ?_ | refine O.st 1 rfl (by simp) rfl fun h O => ?_ | refine O.st 2 rfl (by simp) rfl fun h O => ?_ | refine O.st 3 rfl (by simp) rfl fun h O => ?_ | refine O.st 4 rfl (by simp) rfl fun h O => ?_ | refine O.st 5 rfl (by simp) rfl fun h O => ?_ | refine O.st 6 rfl (by simp) rfl fun h O => ?_ | refine O.st 7 rfl (by simp) rfl fun h O => ?_); (dsimp only [V.put, List.set, List.length_cons, List.length_nil] at O) | (with_reducible refine ca_id ?_); (first | refine O.ca 0 1 rfl ?_ | refine O.ca 0 2 rfl ?_ | refine O.ca 1 1 rfl ?_ | refine O.ca 1 2 rfl ?_ | refine O.ca 2 1 rfl ?_ | refine O.ca 2 2 rfl ?_ | refine O.ca 3 1 rfl ?_ | refine O.ca 3 2 rfl ?_ | refine O.ca 4 1 rfl ?_ | refine O.ca 4 2 rfl ?_ | refine O.ca 5 1 rfl ?_ | refine O.ca 5 2 rfl ?_ | refine O.ca 6 1 rfl ?_ | refine O.ca 6 2 rfl ?_ | refine O.ca 7 1 rfl ?_ | refine O.ca 7 2 rfl ?_))
    refine brr_ff rfl ?_
    repeat (first | (with_reducible refine al_id ?_); refine O.al fun _ h O => ?_ | (with_reducible refine nn_id ?_); refine ⟨_, rfl, ?_⟩ | (with_reducible refine ld_id ?_); (first | refine O.ld 0 rfl ?_ | refine O.ld 1 rfl ?_ | refine O.ld 2 rfl ?_ | refine O.ld 3 rfl ?_ | refine O.ld 4 rfl ?_ | refine O.ld 5 rfl ?_ | refine O.ld 6 rfl ?_ | refine O.ld 7 rfl ?_); (repeat (first | (with_reducible refine ldL_n ?_) | refine ldL_s ?_ | refine ldL_c ?_)) | (with_reducible refine st_ad (by first | (with_reducible rfl) | (simp only [pt_add, Nat.zero_add, Nat.add_zero, Nat.reduceAdd]; with_reducible rfl)) ?_); (first | refine O.st 0 rfl (by simp) rfl fun h O => ?_ | refine O.st 1 rfl (by simp) rfl fun h O => ?_ | refine O.st 2 rfl (by simp) rfl fun h O => ?_ | refine O.st 3 rfl (by simp) rfl fun h O => ?_ | refine O.st 4 rfl (by simp) rfl fun h O => ?_ | refine O.st 5 rfl (by simp) rfl fun h O => ?_ | refine O.st 6 rfl (by simp) rfl fun h O => ?_ | refine O.st 7 rfl (by simp) rfl fun h O => ?_); (dsimp only [V.put, List.set, List.length_cons, List.length_nil] at O) | (with_reducible refine ca_id ?_); (first | refine O.ca 0 1 rfl ?_ | refine O.ca 0 2 rfl ?_ | refine O.ca 1 1 rfl ?_ | refine O.ca 1 2 rfl ?_ | refine O.ca 2 1 rfl ?_ | refine O.ca 2 2 rfl ?_ | refine O.ca 3 1 rfl ?_ | refine O.ca 3 2 rfl ?_ | refine O.ca 4 1 rfl ?_ | refine O.ca 4 2 rfl ?_ | refine O.ca 5 1 rfl ?_ | refine O.ca 5 2 rfl ?_ | refine O.ca 6 1 rfl ?_ | refine O.ca 6 2 rfl ?_ | refine O.ca 7 1 rfl ?_ | refine O.ca 7 2 rfl ?_))
    replace O := O.sel [1, 0, 2, 3, 4, 9] 10 rfl (Nat.le_add_left _ _)
    have O : Sat H h (repR p (lifeS r o) :: _) := O
    refine F_replica_Replica_Stored.is ok2 O fun u5 h O => ?_
    refine ⟨cellsAre_blk (O.blk (i := 4) (by simp [selT]) rfl).2 0 4, ?_⟩
    refine F_ref0_EqStored.is O (fun h O => (O.view 0 u8_len (by simp) rfl).1) (fun h O => (O.view 5 u8_len (by simp) rfl).1) ok2.v ok2.v fun h O => ?_
    refine hj _ _ ⟨by simp, ?_⟩
    exact O.sel [1, 6] 7 rfl (Nat.le_add_left _ _)
end Go.Proofs.Ytcbelendjpnmiaa.V
namespace Go.Proofs.Ytcbelendjpnmiaa.V
open Go Go.RowKit
set_option linter.unusedVariables false
set_option maxRecDepth 100000
def F_law9_epoch_of  (m1 m2 m3 m4 m5 m6 m7 m8 m9 m10 : Int) (m11 : Sl) (m12 m13 : Int) (m14 m15 : ByteArray) (m16 m17 m18 m19 m20 m21 m22 : Int) (h : Heap) (Q : Int → Heap → Prop) : Prop :=
  al 42 [.int .i64 m1, .int .i64 m2, .int .i64 m3, .int .i64 m4, .int .u64 m5, .int .u64 m6, .int .u64 m7, .int .u64 m8, .int .i64 m9, .int .u64 m10, .slice m11.ptr m11.len m11.cap, .int .i64 m12, .int .u64 m13, .string m14, .string m15, .int .u64 m16, .int .u64 m17, .int .u64 m18, .int .i64 m19, .int .i64 m20, .int .i64 m21, .int .i64 m22] h fun (a23 : Addr) (h24 : Heap) =>
  ld [.int .i64] ((a23.add 0).add 0) h24 fun (v25 : Int) =>
  brr (v25 == 4)
  (ld [.int .u64] ((a23.add 5).add 0) h24 fun (v26 : Int) =>
  Q v26 h24)
  (ld [.int .u64] (a23.add 4) h24 fun (v27 : Int) =>
  Q v27 h24)
def F_law9_epoch (m1 m2 m3 m4 m5 m6 m7 m8 m9 m10 : Int) (m11 : Sl) (m12 m13 : Int) (m14 m15 : ByteArray) (m16 m17 m18 m19 m20 m21 m22 : Int) (h : Heap) (Q : Int → Heap → Prop) : Prop := F_law9_epoch_of  m1 m2 m3 m4 m5 m6 m7 m8 m9 m10 m11 m12 m13 m14 m15 m16 m17 m18 m19 m20 m21 m22 h Q
def plan27 : Plan := .s (.r [1]) (.s (.s (.r [1, 6]) (.c (.s (.r [2]) .z) .z)) (.s (.r [2]) .z))
theorem F_law9_epoch.eq  (m1 m2 m3 m4 m5 m6 m7 m8 m9 m10 : Int) (m11 : Sl) (m12 m13 : Int) (m14 m15 : ByteArray) (m16 m17 m18 m19 m20 m21 m22 : Int) (h : Heap) (K : Value → Heap → Prop) : F_law9_epoch_of  m1 m2 m3 m4 m5 m6 m7 m8 m9 m10 m11 m12 m13 m14 m15 m16 m17 m18 m19 m20 m21 m22 h (fun (r0 : Int) (h : Heap) => K (.int .u64 r0) h) =
    den Try.prog noFns Try.f27.ntmps plan27 (bodyOf Try.f27) (args0 0 [(.agg #[.int .i64 m1, .int .i64 m2, .int .i64 m3, .int .i64 m4, .int .u64 m5, .int .u64 m6, .int .u64 m7, .int .u64 m8, .int .i64 m9, .int .u64 m10, .slice m11.ptr m11.len m11.cap, .int .i64 m12, .int .u64 m13, .string m14, .string m15, .int .u64 m16, .int .u64 m17, .int .u64 m18, .int .i64 m19, .int .i64 m20, .int .i64 m21, .int .i64 m22] : Value)]) h ⟨fun env h => dRes Try.prog Try.f27.results.toList env h K, fun _ _ _ => False, fun env h => dRes Try.prog Try.f27.results.toList env h K⟩ := by kernel_rfl
def E_law9_epoch_of (f : Int → Int → Int → Int → Int → Int → Int → Int → Int → Int → Sl → Int → Int → ByteArray → ByteArray → Int → Int → Int → Int → Int → Int → Int → Heap → (Int → Heap → Prop) → Prop) : List Value → Heap → (Value → Heap → Prop) → Prop
  | [v0], h, K => vAgg v0 fun cs0 => decs [.int .i64, .int .i64, .int .i64, .int .i64, .int .u64, .int .u64, .int .u64, .int .u64, .int .i64, .int .u64, .sl, .int .i64, .int .u64, .str, .str, .int .u64, .int .u64, .int .u64, .int .i64, .int .i64, .int .i64, .int .i64] cs0.toList fun (m1 m2 m3 m4 m5 m6 m7 m8 m9 m10 : Int) (m11 : Sl) (m12 m13 : Int) (m14 m15 : ByteArray) (m16 m17 m18 m19 m20 m21 m22 : Int) =>
  f m1 m2 m3 m4 m5 m6 m7 m8 m9 m10 m11 m12 m13 m14 m15 m16 m17 m18 m19 m20 m21 m22 h (fun (r0 : Int) (h : Heap) => K (.int .u64 r0) h)
  | _, _, _ => False
abbrev E_law9_epoch := E_law9_epoch_of F_law9_epoch
theorem E_law9_epoch.right : IsRight Try.prog 27 E_law9_epoch := by
  refine isRight fun vs K w hh => ?_
  match vs, hh with
  | [v0], hh =>
    unfold E_law9_epoch E_law9_epoch_of at hh
    replace hh := vAgg_sound hh; obtain ⟨cs0, rfl, hh⟩ := hh
    replace hh := decs_cons hh; obtain ⟨m1, l0_0, e0_0, hh⟩ := hh
    replace hh := decs_cons hh; obtain ⟨m2, l0_1, e0_1, hh⟩ := hh
    replace hh := decs_cons hh; obtain ⟨m3, l0_2, e0_2, hh⟩ := hh
    replace hh := decs_cons hh; obtain ⟨m4, l0_3, e0_3, hh⟩ := hh
    replace hh := decs_cons hh; obtain ⟨m5, l0_4, e0_4, hh⟩ := hh
    replace hh := decs_cons hh; obtain ⟨m6, l0_5, e0_5, hh⟩ := hh
    replace hh := decs_cons hh; obtain ⟨m7, l0_6, e0_6, hh⟩ := hh
    replace hh := decs_cons hh; obtain ⟨m8, l0_7, e0_7, hh⟩ := hh
    replace hh := decs_cons hh; obtain ⟨m9, l0_8, e0_8, hh⟩ := hh
    replace hh := decs_cons hh; obtain ⟨m10, l0_9, e0_9, hh⟩ := hh
    replace hh := decs_cons hh; obtain ⟨m11, l0_10, e0_10, hh⟩ := hh
    replace hh := decs_cons hh; obtain ⟨m12, l0_11, e0_11, hh⟩ := hh
    replace hh := decs_cons hh; obtain ⟨m13, l0_12, e0_12, hh⟩ := hh
    replace hh := decs_cons hh; obtain ⟨m14, l0_13, e0_13, hh⟩ := hh
    replace hh := decs_cons hh; obtain ⟨m15, l0_14, e0_14, hh⟩ := hh
    replace hh := decs_cons hh; obtain ⟨m16, l0_15, e0_15, hh⟩ := hh
    replace hh := decs_cons hh; obtain ⟨m17, l0_16, e0_16, hh⟩ := hh
    replace hh := decs_cons hh; obtain ⟨m18, l0_17, e0_17, hh⟩ := hh
    replace hh := decs_cons hh; obtain ⟨m19, l0_18, e0_18, hh⟩ := hh
    replace hh := decs_cons hh; obtain ⟨m20, l0_19, e0_19, hh⟩ := hh
    replace hh := decs_cons hh; obtain ⟨m21, l0_20, e0_20, hh⟩ := hh
    replace hh := decs_cons hh; obtain ⟨m22, l0_21, e0_21, hh⟩ := hh
    replace hh := decs_nil hh; obtain ⟨rfl, hh⟩ := hh
    subst e0_21
    subst e0_20
    subst e0_19
    subst e0_18
    subst e0_17
    subst e0_16
    subst e0_15
    subst e0_14
    subst e0_13
    subst e0_12
    subst e0_11
    subst e0_10
    subst e0_9
    subst e0_8
    subst e0_7
    subst e0_6
    subst e0_5
    subst e0_4
    subst e0_3
    subst e0_2
    subst e0_1
    have ec0 := toArray_eq e0_0
    subst ec0
    unfold F_law9_epoch at hh
    exact calls_den noFns_right plan27 _ w K Try.func27 (by kernel_rfl) (by kernel_rfl) (Eq.mp (F_law9_epoch.eq  m1 m2 m3 m4 m5 m6 m7 m8 m9 m10 m11 m12 m13 m14 m15 m16 m17 m18 m19 m20 m21 m22 w.heap K) hh)
theorem ok27 : okFn Try.prog 27 = true := by kernel_rfl
end Go.Proofs.Ytcbelendjpnmiaa.V
namespace Go.Proofs.Ytcbelendjpnmiaa.V
open Go Go.RowKit
set_option linter.unusedVariables false
set_option maxRecDepth 100000
def F_law9_ReplicaFences.l1 (f14_ : Int → Int → Int → Int → Heap → (Bool → Heap → Prop) → Prop) (f23_ : Option Addr → Heap → (Int → Int → Int → Sl → Heap → Prop) → Prop) (f24_ : Int → Int → Int → Sl → Int → Sl → Option Addr → Int → Heap → (Int → Int → Int → Int → Int → Int → Int → Int → Int → Int → Sl → Int → Int → ByteArray → ByteArray → Int → Int → Int → Int → Int → Int → Int → Int → Int → Int → Int → Int → Int → Int → Int → Int → Int → Sl → Int → Int → ByteArray → ByteArray → Int → Int → Int → Int → Int → Int → Int → Bool → Bool → Bool → Heap → Prop) → Prop) (f25_ : Sl → Sl → Heap → (Bool → Heap → Prop) → Prop) (f26_ : Int → Int → Int → Sl → Int → Int → Int → Sl → Heap → (Bool → Heap → Prop) → Prop) (f27_ : Int → Int → Int → Int → Int → Int → Int → Int → Int → Int → Sl → Int → Int → ByteArray → ByteArray → Int → Int → Int → Int → Int → Int → Int → Heap → (Int → Heap → Prop) → Prop) (Q : Bool → Heap → Prop) (a7 : Addr) (r16 : Option Addr) (a25 : Addr) (j28 : Heap → Prop) : Int → Int → Heap → Prop :=
  wl [(5, .one (.int .u64)), (6, .one (.int .i64))] (fun (next29 : Int → Int → Heap → Prop) (promised30 i31 : Int) (h32 : Heap) =>
  jn [(42, .one .bool)] (fun (x35 : Bool) (h36 : Heap) =>
  brr x35
  (jn [(5, .one (.int .u64))] (fun (promised218 : Int) (h219 : Heap) =>
  next29 promised218 (IntKind.i64.wrap (i31 + 1)) h219) (fun (j37 : Int → Heap → Prop) =>
  f23_ r16 h36 fun (r38 r39 r40 : Int) (r41 : Sl) (h42 : Heap) =>
  al 44 [.int .u64 0, .int .u64 0, .int .u64 0, .slice none 0 0] h42 fun (a43 : Addr) (h44 : Heap) =>
  st a43 [.int .u64 r38, .int .u64 r39, .int .u64 r40, .slice r41.ptr r41.len r41.cap] h44 fun (h45 : Heap) =>
  ld [.int .u64, .int .u64, .int .u64, .sl, .int .i64, .sl] a7 h45 fun (v46 v47 v48 : Int) (v49 : Sl) (v50 : Int) (v51 : Sl) =>
  f24_ v46 v47 v48 v49 v50 v51 r16 i31 h45 fun (r52 r53 r54 r55 r56 r57 r58 r59 r60 r61 : Int) (r62 : Sl) (r63 r64 : Int) (r65 r66 : ByteArray) (r67 r68 r69 r70 r71 r72 r73 r74 r75 r76 r77 r78 r79 r80 r81 r82 r83 : Int) (r84 : Sl) (r85 r86 : Int) (r87 r88 : ByteArray) (r89 r90 r91 r92 r93 r94 r95 : Int) (r96 r97 r98 : Bool) (h99 : Heap) =>
  al 42 [.int .i64 0, .int .i64 0, .int .i64 0, .int .i64 0, .int .u64 0, .int .u64 0, .int .u64 0, .int .u64 0, .int .i64 0, .int .u64 0, .slice none 0 0, .int .i64 0, .int .u64 0, .string (⟨#[]⟩ : ByteArray), .string (⟨#[]⟩ : ByteArray), .int .u64 0, .int .u64 0, .int .u64 0, .int .i64 0, .int .i64 0, .int .i64 0, .int .i64 0] h99 fun (a100 : Addr) (h101 : Heap) =>
  al 49 [.int .i64 0, .int .i64 0, .int .i64 0, .int .i64 0, .int .u64 0, .int .u64 0, .int .u64 0, .int .u64 0, .int .i64 0, .int .u64 0, .slice none 0 0, .int .i64 0, .int .u64 0, .string (⟨#[]⟩ : ByteArray), .string (⟨#[]⟩ : ByteArray), .int .u64 0, .int .u64 0, .int .u64 0, .int .i64 0, .int .i64 0, .int .i64 0, .int .i64 0, .bool false, .bool false, .bool false] h101 fun (a102 : Addr) (h103 : Heap) =>
  st a100 [.int .i64 r52, .int .i64 r53, .int .i64 r54, .int .i64 r55, .int .u64 r56, .int .u64 r57, .int .u64 r58, .int .u64 r59, .int .i64 r60, .int .u64 r61, .slice r62.ptr r62.len r62.cap, .int .i64 r63, .int .u64 r64, .string r65, .string r66, .int .u64 r67, .int .u64 r68, .int .u64 r69, .int .i64 r70, .int .i64 r71, .int .i64 r72, .int .i64 r73] h103 fun (h104 : Heap) =>
  st a102 [.int .i64 r74, .int .i64 r75, .int .i64 r76, .int .i64 r77, .int .u64 r78, .int .u64 r79, .int .u64 r80, .int .u64 r81, .int .i64 r82, .int .u64 r83, .slice r84.ptr r84.len r84.cap, .int .i64 r85, .int .u64 r86, .string r87, .string r88, .int .u64 r89, .int .u64 r90, .int .u64 r91, .int .i64 r92, .int .i64 r93, .int .i64 r94, .int .i64 r95, .bool r96, .bool r97, .bool r98] h104 fun (h105 : Heap) =>
  f23_ r16 h105 fun (r106 r107 r108 : Int) (r109 : Sl) (h110 : Heap) =>
  al 44 [.int .u64 0, .int .u64 0, .int .u64 0, .slice none 0 0] h110 fun (a111 : Addr) (h112 : Heap) =>
  st a111 [.int .u64 r106, .int .u64 r107, .int .u64 r108, .slice r109.ptr r109.len r109.cap] h112 fun (h113 : Heap) =>
  jn [(82, .one .bool)] (fun (x131 : Bool) (h132 : Heap) =>
  brr x131
  (Q false h132)
  (jn [(94, .one .bool)] (fun (x146 : Bool) (h147 : Heap) =>
  brr x146
  (Q false h147)
  (jn [(102, .one .bool)] (fun (x174 : Bool) (h175 : Heap) =>
  brr x174
  (Q false h175)
  (ld [.bool] (a102.add 22) h175 fun (v176 : Bool) =>
  brr (!v176)
  (j37 promised30 h175)
  (ld [.int .i64] (((a102.add 0).add 0).add 0) h175 fun (v177 : Int) =>
  jn [(5, .one (.int .u64))] (fun (promised216 : Int) (h217 : Heap) =>
  j37 promised216 h217) (fun (j178 : Int → Heap → Prop) =>
  brr (v177 == 2)
  (jn [(139, .one .bool)] (fun (x191 : Bool) (h192 : Heap) =>
  brr x191
  (Q false h192)
  (ld [.int .u64] ((a102.add 0).add 4) h192 fun (v193 : Int) =>
  j178 v193 h192)) (fun (j179 : Bool → Heap → Prop) =>
  ld [.int .u64] ((a102.add 0).add 4) h175 fun (v180 : Int) =>
  brr (decide (v180 < promised30))
  (j179 true h175)
  (ld [.int .u64, .int .u64] ((a102.add 0).add 5) h175 fun (v181 v182 : Int) =>
  ld [.int .u64, .int .u64] a25 h175 fun (v183 v184 : Int) =>
  brr (!((v181 == v183) && ((v182 == v184) && (true))))
  (j179 true h175)
  (ld [.sl] ((a102.add 0).add 10) h175 fun (v185 : Sl) =>
  ld [.sl] (a111.add 3) h175 fun (v186 : Sl) =>
  f25_ v185 v186 h175 fun (r187 : Bool) (h188 : Heap) =>
  brr (!r187)
  (j179 true h188)
  (ld [.int .u64] (a111.add 0) h188 fun (v189 : Int) =>
  ld [.int .u64] (a100.add 4) h188 fun (v190 : Int) =>
  j179 (v189 != v190) h188)))))
  (jn [] (fun  (h215 : Heap) =>
  j178 promised30 h215) (fun (j194 : Heap → Prop) =>
  brr (v177 == 5)
  (jn [(164, .one .bool)] (fun (x210 : Bool) (h211 : Heap) =>
  brr x210
  (Q false h211)
  (ld [.int .u64, .int .u64] ((a102.add 0).add 5) h211 fun (v212 v213 : Int) =>
  st a25 [.int .u64 v212, .int .u64 v213] h211 fun (h214 : Heap) =>
  j194 h214)) (fun (j195 : Bool → Heap → Prop) =>
  ld [.int .u64, .int .u64] ((a102.add 0).add 5) h175 fun (v196 v197 : Int) =>
  ld [.int .u64, .int .u64] a25 h175 fun (v198 v199 : Int) =>
  f14_ v196 v197 v198 v199 h175 fun (r200 : Bool) (h201 : Heap) =>
  brr r200
  (j195 true h201)
  (ld [.int .u64, .int .u64] ((a102.add 0).add 5) h201 fun (v202 v203 : Int) =>
  ld [.int .u64, .int .u64] (a100.add 5) h201 fun (v204 v205 : Int) =>
  brr (!((v202 == v204) && ((v203 == v205) && (true))))
  (j195 true h201)
  (ld [.int .u64, .int .u64] (a111.add 1) h201 fun (v206 v207 : Int) =>
  ld [.int .u64, .int .u64] (a100.add 5) h201 fun (v208 v209 : Int) =>
  j195 (!((v206 == v208) && ((v207 == v209) && (true)))) h201))))
  (j194 h175))))))) (fun (j148 : Bool → Heap → Prop) =>
  ld [.bool] (a102.add 23) h147 fun (v149 : Bool) =>
  brr v149
  (ld [.int .i64, .int .i64, .int .i64, .int .i64, .int .u64, .int .u64, .int .u64, .int .u64, .int .i64, .int .u64, .sl, .int .i64, .int .u64, .str, .str, .int .u64, .int .u64, .int .u64, .int .i64, .int .i64, .int .i64, .int .i64] a100 h147 fun (v150 v151 v152 v153 v154 v155 v156 v157 v158 v159 : Int) (v160 : Sl) (v161 v162 : Int) (v163 v164 : ByteArray) (v165 v166 v167 v168 v169 v170 v171 : Int) =>
  f27_ v150 v151 v152 v153 v154 v155 v156 v157 v158 v159 v160 v161 v162 v163 v164 v165 v166 v167 v168 v169 v170 v171 h147 fun (r172 : Int) (h173 : Heap) =>
  j148 (decide (r172 < promised30)) h173)
  (j148 false h147)))) (fun (j133 : Bool → Heap → Prop) =>
  ld [.int .i64] ((a100.add 0).add 0) h132 fun (v134 : Int) =>
  brr (v134 != 0)
  (ld [.bool] (a102.add 24) h132 fun (v135 : Bool) =>
  ld [.int .u64, .int .u64, .int .u64, .sl] a111 h132 fun (v136 v137 v138 : Int) (v139 : Sl) =>
  ld [.int .u64, .int .u64, .int .u64, .sl] a43 h132 fun (v140 v141 v142 : Int) (v143 : Sl) =>
  f26_ v136 v137 v138 v139 v140 v141 v142 v143 h132 fun (r144 : Bool) (h145 : Heap) =>
  cellsAre h145 (a102.add 24) [.bool v135] ∧
  j133 (v135 == r144) h145)
  (j133 false h132)))) (fun (j114 : Bool → Heap → Prop) =>
  ld [.int .u64] (a111.add 0) h113 fun (v115 : Int) =>
  ld [.int .u64] (a43.add 0) h113 fun (v116 : Int) =>
  brr (decide (v115 < v116))
  (j114 true h113)
  (ld [.int .u64, .int .u64] (a111.add 1) h113 fun (v117 v118 : Int) =>
  ld [.int .u64, .int .u64] (a43.add 1) h113 fun (v119 v120 : Int) =>
  f14_ v117 v118 v119 v120 h113 fun (r121 : Bool) (h122 : Heap) =>
  brr r121
  (j114 true h122)
  (ld [.int .u64, .int .u64] (a111.add 1) h122 fun (v123 v124 : Int) =>
  ld [.int .u64, .int .u64] (a43.add 1) h122 fun (v125 v126 : Int) =>
  brr ((v123 == v125) && ((v124 == v126) && (true)))
  (ld [.sl] (a111.add 3) h122 fun (v127 : Sl) =>
  ld [.sl] (a43.add 3) h122 fun (v128 : Sl) =>
  f25_ v127 v128 h122 fun (r129 : Bool) (h130 : Heap) =>
  j114 (!r129) h130)
  (j114 false h122))))))
  (j28 h36)) (fun (j33 : Bool → Heap → Prop) =>
  ld [.sl] (a7.add 5) h32 fun (v34 : Sl) =>
  brr (decide (i31 < ((v34.len : Nat) : Int)))
  (j33 (decide (i31 < 500)) h32)
  (j33 false h32)))
def F_law9_ReplicaFences_of (f14_ : Int → Int → Int → Int → Heap → (Bool → Heap → Prop) → Prop) (f18_ : Heap → (Bool → Heap → Prop) → Prop) (f21_ : Int → Int → Int → Sl → Int → Heap → (Option Addr → Heap → Prop) → Prop) (f22_ : Sl → Heap → (Sl → Heap → Prop) → Prop) (f23_ : Option Addr → Heap → (Int → Int → Int → Sl → Heap → Prop) → Prop) (f24_ : Int → Int → Int → Sl → Int → Sl → Option Addr → Int → Heap → (Int → Int → Int → Int → Int → Int → Int → Int → Int → Int → Sl → Int → Int → ByteArray → ByteArray → Int → Int → Int → Int → Int → Int → Int → Int → Int → Int → Int → Int → Int → Int → Int → Int → Int → Sl → Int → Int → ByteArray → ByteArray → Int → Int → Int → Int → Int → Int → Int → Bool → Bool → Bool → Heap → Prop) → Prop) (f25_ : Sl → Sl → Heap → (Bool → Heap → Prop) → Prop) (f26_ : Int → Int → Int → Sl → Int → Int → Int → Sl → Heap → (Bool → Heap → Prop) → Prop) (f27_ : Int → Int → Int → Int → Int → Int → Int → Int → Int → Int → Sl → Int → Int → ByteArray → ByteArray → Int → Int → Int → Int → Int → Int → Int → Heap → (Int → Heap → Prop) → Prop) (l1 l2 l3 : Int) (l4 : Sl) (l5 : Int) (l6 : Sl) (h : Heap) (Q : Bool → Heap → Prop) : Prop :=
  al 63 [.int .u64 l1, .int .u64 l2, .int .u64 l3, .slice l4.ptr l4.len l4.cap, .int .i64 l5, .slice l6.ptr l6.len l6.cap] h fun (a7 : Addr) (h8 : Heap) =>
  ld [.int .u64] ((a7.add 0).add 0) h8 fun (v9 : Int) =>
  ld [.int .u64, .int .u64] ((a7.add 0).add 1) h8 fun (v10 v11 : Int) =>
  ld [.sl] ((a7.add 0).add 3) h8 fun (v12 : Sl) =>
  ld [.int .i64] (a7.add 4) h8 fun (v13 : Int) =>
  f22_ v12 h8 fun (r14 : Sl) (h15 : Heap) =>
  cellsAre h15 ((a7.add 0).add 0) [.int .u64 v9] ∧
  cellsAre h15 ((a7.add 0).add 1) [.int .u64 v10, .int .u64 v11] ∧
  cellsAre h15 (a7.add 4) [.int .i64 v13] ∧
  f21_ v9 v10 v11 r14 v13 h15 fun (r16 : Option Addr) (h17 : Heap) =>
  jn [(30, .one .bool)] (fun (x21 : Bool) (h22 : Heap) =>
  brr x21
  (Q false h22)
  (ld [.int .u64, .int .u64] ((a7.add 0).add 1) h22 fun (v23 v24 : Int) =>
  al 37 [.int .u64 0, .int .u64 0] h22 fun (a25 : Addr) (h26 : Heap) =>
  st a25 [.int .u64 v23, .int .u64 v24] h26 fun (h27 : Heap) =>
  jn [] (fun  (h220 : Heap) =>
  Q true h220) (fun (j28 : Heap → Prop) =>
  F_law9_ReplicaFences.l1 f14_ f23_ f24_ f25_ f26_ f27_ Q a7 r16 a25 j28 0 0 h27))) (fun (j18 : Bool → Heap → Prop) =>
  brr r16.isNone
  (j18 true h17)
  (f18_ h17 fun (r19 : Bool) (h20 : Heap) =>
  j18 (!r19) h20))
def F_law9_ReplicaFences (l1 l2 l3 : Int) (l4 : Sl) (l5 : Int) (l6 : Sl) (h : Heap) (Q : Bool → Heap → Prop) : Prop := F_law9_ReplicaFences_of F_law9_less F_law9_lives F_replica_Load F_ref0_Copy F_replica_Replica_Stored F_law9_Life_at F_ref0_Eq F_ref0_EqStored F_law9_epoch l1 l2 l3 l4 l5 l6 h Q
def plan6 : Plan := .s (.r [1]) (.s (.d [0, 1, 3, 0, 8, 24, 0, 64, 192, 448, 1023, 0, 2048, 8191, 16383] [[0, 1, 2, 3, 4, 5, 6, 7, 8, 11, 12, 9, 10, 13, 14]] [1, 3]) (.s (.s (.rj [(30, .one .bool)] [1, 3]) (.c (.s (.r [2]) .z) .z)) (.s (.r [1, 3, 4]) (.s (.r [1, 3, 4, 5]) (.s (.s (.r [1, 3, 4, 5, 6]) (.bj [] [] (.l [(5, .one (.int .u64)), (6, .one (.int .i64))] [1, 3, 4] (.s (.s (.rj [(42, .one .bool)] [1, 3, 4, 5, 6]) (.c .z .z)) (.s (.bj [(5, .one (.int .u64))] [1, 3, 4, 6] (.s (.r [1, 3, 4, 5, 6, 7]) (.s (.r [1, 3, 4, 5, 6, 7, 8, 9]) (.s (.r [1, 3, 4, 5, 6, 7, 8, 9, 10]) (.s (.s (.rj [(82, .one .bool)] [1, 3, 4, 5, 6, 7, 8, 9, 10]) (.c (.s (.r [2]) .z) .z)) (.s (.s (.dj [0, 1, 3, 7, 15, 31, 63, 31, 31, 415, 1023, 2047] [[0, 1, 2, 3, 4, 5, 6, 7, 8, 9, 10, 11]] [(94, .one .bool)] [1, 3, 4, 5, 6, 8, 9, 10]) (.c (.s (.r [2]) .z) .z)) (.s (.s (.rj [(102, .one .bool)] [1, 3, 4, 5, 6, 8, 9, 10]) (.c (.s (.r [2]) .z) .z)) (.s (.s (.r [1, 3, 4, 5, 6, 8, 9, 10, 105]) (.c .z .z)) (.s (.r [1, 3, 4, 5, 6, 8, 9, 10, 109]) (.b (.s (.r [1, 3, 4, 5, 6, 8, 9, 10, 109, 110]) (.cj [(5, .one (.int .u64))] [1, 3, 4, 6] (.s (.s (.rj [(139, .one .bool)] [1, 3, 4, 6, 9]) (.c (.s (.r [2]) .z) .z)) (.r [1, 3, 4, 5, 6])) (.s (.r [1, 3, 4, 5, 6, 8, 9, 10, 143]) (.cj [] [1, 3, 4, 5, 6] (.s (.s (.rj [(164, .one .bool)] [1, 3, 4, 5, 6, 9]) (.c (.s (.r [2]) .z) .z)) (.r [1, 3, 4, 5, 6])) .z)))))))))))))) (.r [1, 3, 4, 5, 6])))))) (.s (.r [2]) .z))))))
theorem F_law9_ReplicaFences.eq (f14_ : Int → Int → Int → Int → Heap → (Bool → Heap → Prop) → Prop) (f18_ : Heap → (Bool → Heap → Prop) → Prop) (f21_ : Int → Int → Int → Sl → Int → Heap → (Option Addr → Heap → Prop) → Prop) (f22_ : Sl → Heap → (Sl → Heap → Prop) → Prop) (f23_ : Option Addr → Heap → (Int → Int → Int → Sl → Heap → Prop) → Prop) (f24_ : Int → Int → Int → Sl → Int → Sl → Option Addr → Int → Heap → (Int → Int → Int → Int → Int → Int → Int → Int → Int → Int → Sl → Int → Int → ByteArray → ByteArray → Int → Int → Int → Int → Int → Int → Int → Int → Int → Int → Int → Int → Int → Int → Int → Int → Int → Sl → Int → Int → ByteArray → ByteArray → Int → Int → Int → Int → Int → Int → Int → Bool → Bool → Bool → Heap → Prop) → Prop) (f25_ : Sl → Sl → Heap → (Bool → Heap → Prop) → Prop) (f26_ : Int → Int → Int → Sl → Int → Int → Int → Sl → Heap → (Bool → Heap → Prop) → Prop) (f27_ : Int → Int → Int → Int → Int → Int → Int → Int → Int → Int → Sl → Int → Int → ByteArray → ByteArray → Int → Int → Int → Int → Int → Int → Int → Heap → (Int → Heap → Prop) → Prop) (l1 l2 l3 : Int) (l4 : Sl) (l5 : Int) (l6 : Sl) (h : Heap) (K : Value → Heap → Prop) : F_law9_ReplicaFences_of f14_ f18_ f21_ f22_ f23_ f24_ f25_ f26_ f27_ l1 l2 l3 l4 l5 l6 h (fun (r0 : Bool) (h : Heap) => K (.bool r0) h) =
    den Try.prog (fn1 14 (E_law9_less_of f14_) (fn1 18 (E_law9_lives_of f18_) (fn1 21 (E_replica_Load_of f21_) (fn1 22 (E_ref0_Copy_of f22_) (fn1 23 (E_replica_Replica_Stored_of f23_) (fn1 24 (E_law9_Life_at_of f24_) (fn1 25 (E_ref0_Eq_of f25_) (fn1 26 (E_ref0_EqStored_of f26_) (fn1 27 (E_law9_epoch_of f27_) noFns))))))))) Try.f6.ntmps plan6 (bodyOf Try.f6) (args0 0 [(.agg #[.int .u64 l1, .int .u64 l2, .int .u64 l3, .slice l4.ptr l4.len l4.cap, .int .i64 l5, .slice l6.ptr l6.len l6.cap] : Value)]) h ⟨fun env h => dRes Try.prog Try.f6.results.toList env h K, fun _ _ _ => False, fun env h => dRes Try.prog Try.f6.results.toList env h K⟩ := by kernel_rfl
def E_law9_ReplicaFences_of (f : Int → Int → Int → Sl → Int → Sl → Heap → (Bool → Heap → Prop) → Prop) : List Value → Heap → (Value → Heap → Prop) → Prop
  | [v0], h, K => vAgg v0 fun cs0 => decs [.int .u64, .int .u64, .int .u64, .sl, .int .i64, .sl] cs0.toList fun (l1 l2 l3 : Int) (l4 : Sl) (l5 : Int) (l6 : Sl) =>
  f l1 l2 l3 l4 l5 l6 h (fun (r0 : Bool) (h : Heap) => K (.bool r0) h)
  | _, _, _ => False
abbrev E_law9_ReplicaFences := E_law9_ReplicaFences_of F_law9_ReplicaFences
theorem E_law9_ReplicaFences.at (f : Int → Int → Int → Sl → Int → Sl → Heap → (Bool → Heap → Prop) → Prop) (l1 l2 l3 : Int) (l4 : Sl) (l5 : Int) (l6 : Sl) (h : Heap) (K : Value → Heap → Prop) : E_law9_ReplicaFences_of f [.agg ([.int .u64 l1, .int .u64 l2, .int .u64 l3, .slice l4.ptr l4.len l4.cap, .int .i64 l5, .slice l6.ptr l6.len l6.cap] : List Value).toArray] h K = f l1 l2 l3 l4 l5 l6 h (fun (r0 : Bool) (h : Heap) => K (.bool r0) h) := rfl
theorem E_law9_ReplicaFences.right : IsRight Try.prog 6 E_law9_ReplicaFences := by
  refine isRight fun vs K w hh => ?_
  match vs, hh with
  | [v0], hh =>
    unfold E_law9_ReplicaFences E_law9_ReplicaFences_of at hh
    replace hh := vAgg_sound hh; obtain ⟨cs0, rfl, hh⟩ := hh
    replace hh := decs_cons hh; obtain ⟨l1, l0_0, e0_0, hh⟩ := hh
    replace hh := decs_cons hh; obtain ⟨l2, l0_1, e0_1, hh⟩ := hh
    replace hh := decs_cons hh; obtain ⟨l3, l0_2, e0_2, hh⟩ := hh
    replace hh := decs_cons hh; obtain ⟨l4, l0_3, e0_3, hh⟩ := hh
    replace hh := decs_cons hh; obtain ⟨l5, l0_4, e0_4, hh⟩ := hh
    replace hh := decs_cons hh; obtain ⟨l6, l0_5, e0_5, hh⟩ := hh
    replace hh := decs_nil hh; obtain ⟨rfl, hh⟩ := hh
    subst e0_5
    subst e0_4
    subst e0_3
    subst e0_2
    subst e0_1
    have ec0 := toArray_eq e0_0
    subst ec0
    unfold F_law9_ReplicaFences at hh
    exact calls_den (fn1_right ok14 E_law9_less.right (fn1_right ok18 E_law9_lives.right (fn1_right ok21 E_replica_Load.right (fn1_right ok22 E_ref0_Copy.right (fn1_right ok23 E_replica_Replica_Stored.right (fn1_right ok24 E_law9_Life_at.right (fn1_right ok25 E_ref0_Eq.right (fn1_right ok26 E_ref0_EqStored.right (fn1_right ok27 E_law9_epoch.right noFns_right))))))))) plan6 _ w K Try.func6 (by kernel_rfl) (by kernel_rfl) (Eq.mp (F_law9_ReplicaFences.eq F_law9_less F_law9_lives F_replica_Load F_ref0_Copy F_replica_Replica_Stored F_law9_Life_at F_ref0_Eq F_ref0_EqStored F_law9_epoch l1 l2 l3 l4 l5 l6 w.heap K) hh)
theorem ok6 : okFn Try.prog 6 = true := by kernel_rfl
end Go.Proofs.Ytcbelendjpnmiaa.V
/- What a replica keeps and promises never falls: what ReplicaFences plays. -/
namespace Go.Proofs.Ytcbelendjpnmiaa.V
open Go Go.RowKit
set_option linter.unusedVariables false
set_option linter.unusedSimpArgs false
structure Fence (r r2 : RS) (d : HD) (m : Mg) : Prop where
  prom : r.prom ≤ r2.prom
  tag : ¬ tagLt r2.te r2.ts r.te r.ts
  val : r2.te = r.te → r2.ts = r.ts → r2.val = r.val
  chg : m.kind ≠ 0 → d.chg = !decide (r2.prom = r.prom ∧ r2.te = r.te ∧ r2.ts = r.ts ∧ r2.val = r.val)
  tak : d.tak = true → r.prom ≤ (if m.kind = 4 then m.te else m.epoch)
  k2 : d.kind = 2 → d.epoch = m.epoch ∧ r.prom ≤ m.epoch ∧ d.te = r.te ∧ d.ts = r.ts ∧ d.val = r2.val ∧ r2.prom = m.epoch ∧ r2.te = r.te ∧ r2.ts = r.ts
  k5 : d.kind = 5 → d.te = m.te ∧ d.ts = m.ts ∧ r2.te = m.te ∧ r2.ts = m.ts ∧ ¬ tagLt m.te m.ts r.te r.ts
  ko : d.kind ≠ 5 → r2.te = r.te ∧ r2.ts = r.ts
theorem tagLt_irr {a b : Int} : ¬ tagLt a b a b := by unfold tagLt; omega
theorem Fence.same {r : RS} {d : HD} {m : Mg} (h1 : d.chg = false) (h2 : d.tak = true → r.prom ≤ (if m.kind = 4 then m.te else m.epoch)) (h3 : d.kind ≠ 2) (h4 : d.kind ≠ 5) : Fence r r d m :=
  ⟨Int.le_refl _, tagLt_irr, fun _ _ => rfl, fun _ => by simp [h1], h2, fun q => absurd q h3, fun q => absurd q h4, fun _ => ⟨rfl, rfl⟩⟩
theorem Fence.seal {r r2 : RS} {d : HD} {m : Mg} (F : Fence r r2 d m) : Fence r r2 (d.seal m) m := by
  unfold HD.seal
  split
  · exact F
  · exact ⟨F.prom, F.tag, F.val, F.chg, F.tak, F.k2, F.k5, F.ko⟩
theorem bne_st {r : RS} {e : Int} : (r.prom != e) = !decide (e = r.prom ∧ r.te = r.te ∧ r.ts = r.ts ∧ r.val = r.val) := by
  by_cases h : r.prom = e
  · subst h; simp
  · have h2 : ¬ e = r.prom := fun q => h q.symm
    simp [h, h2]
theorem act_fence (r : RS) (m : Mg) : Fence r (act r m).1 (act r m).2 m := by
  unfold act
  by_cases h1 : m.kind = 1
  · simp only [if_pos h1]
    unfold prep
    by_cases hc : m.epoch < r.prom ∨ (r.prom < m.epoch ∧ 0 < r.wait)
    · simp only [if_pos hc]
      exact Fence.same rfl (fun q => by simp [refusal, hd0] at q) (by simp [refusal]) (by simp [refusal])
    · simp only [if_neg hc]
      refine ⟨by show r.prom ≤ m.epoch; omega, tagLt_irr, fun _ _ => rfl, fun _ => ?_, fun q => by simp [hd0] at q, fun _ => ⟨rfl, by omega, rfl, rfl, rfl, rfl, rfl, rfl⟩, fun q => by simp at q, fun _ => ⟨rfl, rfl⟩⟩
      exact bne_st
  by_cases h4 : m.kind = 4
  · simp only [if_neg h1, if_pos h4]
    unfold writ
    by_cases hc : m.te < r.prom
    · simp only [if_pos hc]
      exact Fence.same rfl (fun q => by simp [refusal, hd0] at q) (by simp [refusal]) (by simp [refusal])
    · simp only [if_neg hc]
      have hpm : (r.prom != m.te) = !decide (m.te = r.prom ∧ r.te = r.te ∧ r.ts = r.ts ∧ r.val = r.val) := bne_st
      by_cases hl : tagLt m.te m.ts r.te r.ts
      · simp only [if_pos hl]
        exact ⟨by show r.prom ≤ m.te; omega, tagLt_irr, fun _ _ => rfl, fun _ => hpm, fun q => by rw [if_pos h4]; omega, fun q => by simp [hd0] at q, fun q => by simp [hd0] at q, fun _ => ⟨rfl, rfl⟩⟩
      · simp only [if_neg hl]
        by_cases hg : tagLt r.te r.ts m.te m.ts
        · simp only [if_pos hg]
          refine ⟨by show r.prom ≤ m.te; omega, ?_, ?_, fun _ => ?_, fun q => by rw [if_pos h4]; omega, fun q => by simp at q, fun _ => ⟨rfl, rfl, rfl, rfl, hl⟩, fun q => absurd rfl q⟩
          · exact hl
          · intro a b
            have a : m.te = r.te := a
            have b : m.ts = r.ts := b
            rw [a, b] at hg
            exact absurd hg tagLt_irr
          · show true = !decide (m.te = r.prom ∧ m.te = r.te ∧ m.ts = r.ts ∧ m.b = r.val)
            rw [eq_comm, Bool.not_eq_true', decide_eq_false_iff_not]
            rintro ⟨_, a, b, _⟩
            rw [a, b] at hg
            exact tagLt_irr hg
        · simp only [if_neg hg]
          have ht : r.te = m.te ∧ r.ts = m.ts := by unfold tagLt at hl hg; omega
          exact ⟨by show r.prom ≤ m.te; omega, tagLt_irr, fun _ _ => rfl, fun _ => hpm, fun q => by rw [if_pos h4]; omega, fun q => by simp at q, fun _ => ⟨rfl, rfl, ht.1, ht.2, hl⟩, fun q => absurd rfl q⟩
  by_cases h6 : m.kind = 6
  · simp only [if_neg h1, if_neg h4, if_pos h6]
    unfold beats
    by_cases hc : m.epoch < r.prom
    · simp only [if_pos hc]
      exact Fence.same rfl (fun q => by simp [refusal, hd0] at q) (by simp [refusal]) (by simp [refusal])
    · simp only [if_neg hc]
      refine ⟨by show r.prom ≤ m.epoch; omega, tagLt_irr, fun _ _ => rfl, fun _ => ?_, fun q => by rw [if_neg h4]; omega, fun q => by simp at q, fun q => by simp at q, fun _ => ⟨rfl, rfl⟩⟩
      exact bne_st
  · simp only [if_neg h1, if_neg h4, if_neg h6]
    exact Fence.same rfl (fun q => by simp [hd0] at q) (by simp [hd0]) (by simp [hd0])
theorem life_fence (r : RS) (o : ROp) : Fence r (lifeS r o) (lifeD r o) (lifeM o) := by
  unfold lifeS lifeD lifeM
  by_cases h1 : o.do_ = 1
  · simp only [if_pos h1]
    exact (act_fence r o.m).seal
  simp only [if_neg h1]
  have g : ∀ r2 : RS, r.prom ≤ r2.prom → r2.te = r.te → r2.ts = r.ts → r2.val = r.val → Fence r r2 hd0 mg0 := fun r2 a b c e =>
    ⟨a, by rw [b, c]; exact tagLt_irr, fun _ _ => e, fun q => absurd rfl q, fun q => by simp [hd0] at q, fun q => by simp [hd0] at q, fun q => by simp [hd0] at q, fun _ => ⟨b, c⟩⟩
  split
  · exact g _ (Int.le_refl _) rfl rfl rfl
  split
  · exact g _ (by show r.prom ≤ (if r.prom > o.epoch then r.prom else o.epoch); split <;> omega) rfl rfl rfl
  · exact g _ (Int.le_refl _) rfl rfl rfl
theorem seal_kind2 {d : HD} {m : Mg} : (d.seal m).kind = d.kind := by unfold HD.seal; split <;> rfl
theorem life_ans {r : RS} {o : ROp} : (lifeD r o).kind ≠ 0 → (lifeD r o).ans = true := by
  unfold lifeD
  split
  · intro h
    have h2 : ((act r o.m).2.seal o.m).kind ≠ 0 := h
    rw [seal_kind2] at h2
    show ((act r o.m).2.seal o.m).ans = true
    unfold HD.seal
    rw [if_neg h2]
  · intro h
    exact absurd rfl h
section
variable {h0 h : Heap} {L : List Res}
theorem F_law9_less.is {a b c d : Int} {Q : Bool → Heap → Prop} (O : Sat h0 h L) (k : ∀ h', Sat h0 h' L → Q (decide (tagLt a b c d)) h') : F_law9_less a b c d h Q := by
  rw [F_law9_less.eq_1, F_law9_less_of.eq_1]
  repeat (first | (with_reducible refine al_id ?_); refine O.al fun _ h O => ?_ | (with_reducible refine nn_id ?_); refine ⟨_, rfl, ?_⟩ | (with_reducible refine ld_id ?_); (first | refine O.ld 0 rfl ?_ | refine O.ld 1 rfl ?_); (repeat (first | (with_reducible refine ldL_n ?_) | refine ldL_s ?_ | refine ldL_c ?_)) | (with_reducible refine st_ad (by first | (with_reducible rfl) | (simp only [pt_add, Nat.zero_add, Nat.add_zero, Nat.reduceAdd]; with_reducible rfl)) ?_); (first | refine O.st 0 rfl (by simp) rfl fun h O => ?_ | refine O.st 1 rfl (by simp) rfl fun h O => ?_); (dsimp only [V.put, List.set, List.length_cons, List.length_nil] at O) | (with_reducible refine ca_id ?_); (first | refine O.ca 0 1 rfl ?_ | refine O.ca 0 2 rfl ?_ | refine O.ca 1 1 rfl ?_ | refine O.ca 1 2 rfl ?_))
  refine F_ref0_CmpTag.is O fun h O => ?_
  have e : decide ((if tagLt a b c d then (-1 : Int) else if a = c ∧ b = d then 0 else 1) < 0) = decide (tagLt a b c d) := by
    apply decide_eq_decide.2
    split
    · simp_all
    · split <;> simp_all
  rw [e]
  exact k _ O.drop.drop
theorem F_law9_epoch.is {m : Mg} {Q : Int → Heap → Prop} (O : Sat h0 h L) (k : ∀ h', Sat h0 h' L → Q (if m.kind = 4 then m.te else m.epoch) h') : F_law9_epoch m.kind m.frm m.to m.shard m.epoch m.te m.ts m.round m.span m.seen m.v m.peer m.num m.name m.other m.amount m.life m.id m.op m.client m.state m.bad h Q := by
  rw [F_law9_epoch.eq_1, F_law9_epoch_of.eq_1]
  repeat (first | (with_reducible refine al_id ?_); refine O.al fun _ h O => ?_ | (with_reducible refine nn_id ?_); refine ⟨_, rfl, ?_⟩ | (with_reducible refine ld_id ?_); (first | refine O.ld 0 rfl ?_); (repeat (first | (with_reducible refine ldL_n ?_) | refine ldL_s ?_ | refine ldL_c ?_)) | (with_reducible refine st_ad (by first | (with_reducible rfl) | (simp only [pt_add, Nat.zero_add, Nat.add_zero, Nat.reduceAdd]; with_reducible rfl)) ?_); (first | refine O.st 0 rfl (by simp) rfl fun h O => ?_); (dsimp only [V.put, List.set, List.length_cons, List.length_nil] at O) | (with_reducible refine ca_id ?_); (first | refine O.ca 0 1 rfl ?_ | refine O.ca 0 2 rfl ?_))
  refine brr_eq (fun h4 => ?_) (fun h4 => ?_)
  · rw [if_pos h4] at k
    repeat (first | (with_reducible refine al_id ?_); refine O.al fun _ h O => ?_ | (with_reducible refine nn_id ?_); refine ⟨_, rfl, ?_⟩ | (with_reducible refine ld_id ?_); (first | refine O.ld 0 rfl ?_); (repeat (first | (with_reducible refine ldL_n ?_) | refine ldL_s ?_ | refine ldL_c ?_)) | (with_reducible refine st_ad (by first | (with_reducible rfl) | (simp only [pt_add, Nat.zero_add, Nat.add_zero, Nat.reduceAdd]; with_reducible rfl)) ?_); (first | refine O.st 0 rfl (by simp) rfl fun h O => ?_); (dsimp only [V.put, List.set, List.length_cons, List.length_nil] at O) | (with_reducible refine ca_id ?_); (first | refine O.ca 0 1 rfl ?_ | refine O.ca 0 2 rfl ?_))
    exact k _ O.drop
  · rw [if_neg h4] at k
    repeat (first | (with_reducible refine al_id ?_); refine O.al fun _ h O => ?_ | (with_reducible refine nn_id ?_); refine ⟨_, rfl, ?_⟩ | (with_reducible refine ld_id ?_); (first | refine O.ld 0 rfl ?_); (repeat (first | (with_reducible refine ldL_n ?_) | refine ldL_s ?_ | refine ldL_c ?_)) | (with_reducible refine st_ad (by first | (with_reducible rfl) | (simp only [pt_add, Nat.zero_add, Nat.add_zero, Nat.reduceAdd]; with_reducible rfl)) ?_); (first | refine O.st 0 rfl (by simp) rfl fun h O => ?_); (dsimp only [V.put, List.set, List.length_cons, List.length_nil] at O) | (with_reducible refine ca_id ?_); (first | refine O.ca 0 1 rfl ?_ | refine O.ca 0 2 rfl ?_))
    exact k _ O.drop
end
theorem replicaFences_main (H : Heap) (cs : List Value) (F : Fit H 140737488351232 tyLife cs) : E_law9_ReplicaFences [.agg cs.toArray] H (fun r h' => r = .bool true ∧ KeptH H h') := by
  replace F := Fit.g F
  obtain ⟨t1, _, rfl, t1a, t1b, F⟩ := Fit.i F
  replace F := Fit.g F
  replace F := Fit.g F
  obtain ⟨t2, _, rfl, t2a, t2b, F⟩ := Fit.i F
  replace F := Fit.g F
  obtain ⟨t3, _, rfl, t3a, t3b, F⟩ := Fit.i F
  replace F := Fit.z F
  replace F := Fit.g F
  obtain ⟨t4, _, rfl, t4S, F⟩ := Fit.s F
  replace F := Fit.z F
  obtain ⟨t5, _, rfl, t5a, t5b, F⟩ := Fit.i F
  obtain ⟨t6, _, rfl, t6S, F⟩ := Fit.s F
  obtain rfl := Fit.e F
  refine Eq.mpr (E_law9_ReplicaFences.at F_law9_ReplicaFences t1 t2 t3 t4 t5 t6 H _) ?_
  obtain ⟨ops, Vo⟩ := t6S.rops
  obtain ⟨_, b2, lv, Vl⟩ := t4S.bytes
  have hlv := Vl.len
  rw [i64_max] at t5b
  rw [u64_min] at t1a
  rw [F_law9_ReplicaFences.eq_1, F_law9_ReplicaFences_of.eq_1]
  refine Sat.al (Sat.nil H) fun x7 h1 O => ?_
  repeat (first | (with_reducible refine al_id ?_); refine O.al fun _ h O => ?_ | (with_reducible refine nn_id ?_); refine ⟨_, rfl, ?_⟩ | (with_reducible refine ld_id ?_); (first | refine O.ld 0 rfl ?_); (repeat (first | (with_reducible refine ldL_n ?_) | refine ldL_s ?_ | refine ldL_c ?_)) | (with_reducible refine st_ad (by first | (with_reducible rfl) | (simp only [pt_add, Nat.zero_add, Nat.add_zero, Nat.reduceAdd]; with_reducible rfl)) ?_); (first | refine O.st 0 rfl (by simp) rfl fun h O => ?_); (dsimp only [V.put, List.set, List.length_cons, List.length_nil] at O) | (with_reducible refine ca_id ?_); (first | refine O.ca 0 1 rfl ?_ | refine O.ca 0 2 rfl ?_))
  refine F_ref0_Copy.is O (Vl.kept O.kept) (by omega) fun s h O _ _ => ?_
  repeat (first | (with_reducible refine al_id ?_); refine O.al fun _ h O => ?_ | (with_reducible refine nn_id ?_); refine ⟨_, rfl, ?_⟩ | (with_reducible refine ld_id ?_); (first | refine O.ld 0 rfl ?_ | refine O.ld 1 rfl ?_); (repeat (first | (with_reducible refine ldL_n ?_) | refine ldL_s ?_ | refine ldL_c ?_)) | (with_reducible refine st_ad (by first | (with_reducible rfl) | (simp only [pt_add, Nat.zero_add, Nat.add_zero, Nat.reduceAdd]; with_reducible rfl)) ?_); (first | refine O.st 0 rfl (by simp) rfl fun h O => ?_ | refine O.st 1 rfl (by simp) rfl fun h O => ?_); (dsimp only [V.put, List.set, List.length_cons, List.length_nil] at O) | (with_reducible refine ca_id ?_); (first | refine O.ca 0 1 rfl ?_ | refine O.ca 0 2 rfl ?_ | refine O.ca 1 1 rfl ?_ | refine O.ca 1 2 rfl ?_))
  refine F_replica_Load.is O (fun h O => (O.view 0 u8_len (by simp) rfl).1) (by omega) fun p h O => ?_
  have O := O.sel [0, 2] 3 rfl (Nat.le_add_left _ _)
  have start : ∃ r : RS, r.Ok ∧ 0 ≤ r.prom ∧ r.te = t2 ∧ r.ts = t3 ∧ Sat H h [repR p r, own x7 [.int .u64 t1, .int .u64 t2, .int .u64 t3, .slice t4.ptr t4.len t4.cap, .int .i64 t5, .slice t6.ptr t6.len t6.cap]] :=
    ⟨_, ⟨by show lv.length ≤ _; omega, (spanOf_ok t5b).1, (spanOf_ok t5b).2⟩, t1a, rfl, rfl, O⟩
  clear O
  obtain ⟨r, ok, hp0, hte, hts, O⟩ := start
  refine jn1 (fun z h' => z = false ∧ Sat H h' [repR p r, own x7 [.int .u64 t1, .int .u64 t2, .int .u64 t3, .slice t4.ptr t4.len t4.cap, .int .i64 t5, .slice t6.ptr t6.len t6.cap]]) ?_ ?_
  case refine_2 =>
    intro j hj
    refine brr_ff rfl ?_
    refine F_law9_lives.is O fun h O => ?_
    exact hj _ _ ⟨rfl, O⟩
  clear O
  rintro z h ⟨rfl, O⟩
  refine brr_ff rfl ?_
  refine O.ld 1 rfl (ldL_c (ldL_c (ldL_n ?_)))
  refine O.al fun x25 h O => ?_
  refine O.st 0 rfl (by simp) rfl fun h O => ?_
  dsimp only [V.put, List.set] at O
  refine jn0 (fun h' => KeptH H h') (fun h hk => ⟨rfl, hk⟩) fun j28 hj28 => ?_
  replace O := O.sel [1, 0, 2] 3 rfl (Nat.le_add_left _ _)
  simp only [selT, List.map, nth, List.drop, List.cons_append, List.nil_append] at O
  have O : Sat H h [repR p r, own x25 [.int .u64 r.te, .int .u64 r.ts], own x7 [.int .u64 t1, .int .u64 t2, .int .u64 t3, .slice t4.ptr t4.len t4.cap, .int .i64 t5, .slice t6.ptr t6.len t6.cap]] := by rw [hte, hts]; exact O
  rw [F_law9_ReplicaFences.l1.eq_1]
  refine wl2 (k := .int .u64) (l := .int .i64) (fun (m : Nat) (pm : Int) (i : Int) (h' : Heap) => i + m = ops.length ∧ 0 ≤ i ∧ i ≤ 500 ∧ ∃ r : RS, r.Ok ∧ pm ≤ r.prom ∧ Sat H h' [repR p r, own x25 [.int .u64 r.te, .int .u64 r.ts], own x7 [.int .u64 t1, .int .u64 t2, .int .u64 t3, .slice t4.ptr t4.len t4.cap, .int .i64 t5, .slice t6.ptr t6.len t6.cap]]) ?_ (m := ops.length) ⟨by omega, by omega, by omega, r, ok, hp0, O⟩
  clear O
  rintro m (pm : Int) (i : Int) h next hn ⟨hi, hi0, hi5, r, ok, hpm, O⟩
  refine jn1 (fun t h' => h' = h ∧ t = decide (i < ops.length ∧ i < 500)) ?_ ?_
  case refine_2 =>
    intro j2 hj2
    repeat (first | (with_reducible refine al_id ?_); refine O.al fun _ h O => ?_ | (with_reducible refine nn_id ?_); refine ⟨_, rfl, ?_⟩ | (with_reducible refine ld_id ?_); (first | refine O.ld 0 rfl ?_ | refine O.ld 1 rfl ?_ | refine O.ld 2 rfl ?_); (repeat (first | (with_reducible refine ldL_n ?_) | refine ldL_s ?_ | refine ldL_c ?_)) | (with_reducible refine st_ad (by first | (with_reducible rfl) | (simp only [pt_add, Nat.zero_add, Nat.add_zero, Nat.reduceAdd]; with_reducible rfl)) ?_); (first | refine O.st 0 rfl (by simp) rfl fun h O => ?_ | refine O.st 1 rfl (by simp) rfl fun h O => ?_ | refine O.st 2 rfl (by simp) rfl fun h O => ?_); (dsimp only [V.put, List.set, List.length_cons, List.length_nil] at O) | (with_reducible refine ca_id ?_); (first | refine O.ca 0 1 rfl ?_ | refine O.ca 0 2 rfl ?_ | refine O.ca 1 1 rfl ?_ | refine O.ca 1 2 rfl ?_ | refine O.ca 2 1 rfl ?_ | refine O.ca 2 2 rfl ?_))
    rw [Vo.len]
    refine brr_p (fun hlt => ?_) (fun hlt => ?_)
    · exact hj2 _ _ ⟨rfl, by simp [hlt]⟩
    · exact hj2 _ _ ⟨rfl, by simp; intro h; omega⟩
  rintro t h ⟨rfl, rfl⟩
  refine brr_p (fun ht => ?_) (fun ht => hj28 _ O.kept)
  obtain ⟨hlt, hlt5⟩ := ht
  refine jn1 (fun (pm2 : Int) h' => ∃ r : RS, r.Ok ∧ pm2 ≤ r.prom ∧ Sat H h' [repR p r, own x25 [.int .u64 r.te, .int .u64 r.ts], own x7 [.int .u64 t1, .int .u64 t2, .int .u64 t3, .slice t4.ptr t4.len t4.cap, .int .i64 t5, .slice t6.ptr t6.len t6.cap]]) ?_ ?_
  · clear O
    rintro (pm2 : Int) h ⟨r, ok, hpm, O⟩
    rw [wrap64 (by omega) (by omega)]
    exact hn (m - 1) _ _ _ (by omega) ⟨by omega, by omega, by omega, r, ok, hpm, O⟩
  clear hn
  intro j37 hj37
  obtain ⟨o, ho⟩ : ∃ o, ops[i.toNat]? = some o := ⟨_, List.getElem?_eq_getElem (by omega)⟩
  have oo : o.Ok H := by
    obtain ⟨a, cs, _, _, ⟨_, oo⟩, _⟩ := Vo.2 _ _ ho
    exact oo
  have ok2 : (lifeS r o).Ok := lifeS_ok ok oo
  have hdv := lifeD_val (o := o) ok
  have fe := life_fence r o
  have fa := life_ans (r := r) (o := o)
  refine F_replica_Replica_Stored.is ok O fun s h O => ?_
  refine O.al fun x43 h O => ?_
  refine O.st 0 rfl (by simp) rfl fun h O => ?_
  dsimp only [V.put, List.set] at O
  repeat (first | (with_reducible refine al_id ?_); refine O.al fun _ h O => ?_ | (with_reducible refine nn_id ?_); refine ⟨_, rfl, ?_⟩ | (with_reducible refine ld_id ?_); (first | refine O.ld 0 rfl ?_ | refine O.ld 1 rfl ?_ | refine O.ld 2 rfl ?_ | refine O.ld 3 rfl ?_ | refine O.ld 4 rfl ?_); (repeat (first | (with_reducible refine ldL_n ?_) | refine ldL_s ?_ | refine ldL_c ?_)) | (with_reducible refine st_ad (by first | (with_reducible rfl) | (simp only [pt_add, Nat.zero_add, Nat.add_zero, Nat.reduceAdd]; with_reducible rfl)) ?_); (first | refine O.st 0 rfl (by simp) rfl fun h O => ?_ | refine O.st 1 rfl (by simp) rfl fun h O => ?_ | refine O.st 2 rfl (by simp) rfl fun h O => ?_ | refine O.st 3 rfl (by simp) rfl fun h O => ?_ | refine O.st 4 rfl (by simp) rfl fun h O => ?_); (dsimp only [V.put, List.set, List.length_cons, List.length_nil] at O) | (with_reducible refine ca_id ?_); (first | refine O.ca 0 1 rfl ?_ | refine O.ca 0 2 rfl ?_ | refine O.ca 1 1 rfl ?_ | refine O.ca 1 2 rfl ?_ | refine O.ca 2 1 rfl ?_ | refine O.ca 2 2 rfl ?_ | refine O.ca 3 1 rfl ?_ | refine O.ca 3 2 rfl ?_ | refine O.ca 4 1 rfl ?_ | refine O.ca 4 2 rfl ?_))
  replace O := O.sel [2, 0, 1, 3, 4] 5 rfl (Nat.le_add_left _ _)
  simp only [selT, List.map, nth, List.drop, List.cons_append, List.nil_append] at O
  refine F_law9_Life_at.is Vo hi0 ho ok O fun s1 h O => ?_
  refine O.al fun x100 h O => ?_
  refine O.al fun x102 h O => ?_
  refine O.st 1 rfl (by simp) rfl fun h O => ?_
  dsimp only [V.put, List.set] at O
  refine O.st 0 rfl (by simp) rfl fun h O => ?_
  dsimp only [V.put, List.set] at O
  replace O := O.sel [3, 0, 1, 2, 4, 5, 6, 7] 8 rfl (Nat.le_add_left _ _)
  simp only [selT, List.map, nth, List.drop, List.cons_append, List.nil_append] at O
  refine F_replica_Replica_Stored.is ok2 O fun s2 h O => ?_
  refine O.al fun x111 h O => ?_
  refine O.st 0 rfl (by simp) rfl fun h O => ?_
  dsimp only [V.put, List.set] at O
  generalize lifeS r o = r2 at O ok2 fe
  generalize lifeD r o = d at O hdv fe fa
  have hmb := lifeM_b oo
  generalize lifeM o = mm at O fe hmb
  have O : Sat H h [own x111 [.int .u64 r2.prom, .int .u64 r2.te, .int .u64 r2.ts, .slice s2.ptr s2.len s2.cap], buf 1 u8 s2 r2.val, repR p r2, own x102 (hdC d s1), own x100 (mgC mm), buf 1 u8 s1 d.val, own x43 [.int .u64 r.prom, .int .u64 r.te, .int .u64 r.ts, .slice s.ptr s.len s.cap], buf 1 u8 s r.val, own x25 [.int .u64 r.te, .int .u64 r.ts], own x7 [.int .u64 t1, .int .u64 t2, .int .u64 t3, .slice t4.ptr t4.len t4.cap, .int .i64 t5, .slice t6.ptr t6.len t6.cap]] := O
  refine jn1 (fun z h' => z = false ∧ Sat H h' [own x111 [.int .u64 r2.prom, .int .u64 r2.te, .int .u64 r2.ts, .slice s2.ptr s2.len s2.cap], buf 1 u8 s2 r2.val, repR p r2, own x102 (hdC d s1), own x100 (mgC mm), buf 1 u8 s1 d.val, own x43 [.int .u64 r.prom, .int .u64 r.te, .int .u64 r.ts, .slice s.ptr s.len s.cap], buf 1 u8 s r.val, own x25 [.int .u64 r.te, .int .u64 r.ts], own x7 [.int .u64 t1, .int .u64 t2, .int .u64 t3, .slice t4.ptr t4.len t4.cap, .int .i64 t5, .slice t6.ptr t6.len t6.cap]]) ?_ ?_
  case refine_2 =>
    intro j hj
    repeat (first | (with_reducible refine al_id ?_); refine O.al fun _ h O => ?_ | (with_reducible refine nn_id ?_); refine ⟨_, rfl, ?_⟩ | (with_reducible refine ld_id ?_); (first | refine O.ld 0 rfl ?_ | refine O.ld 1 rfl ?_ | refine O.ld 2 rfl ?_ | refine O.ld 3 rfl ?_ | refine O.ld 4 rfl ?_ | refine O.ld 5 rfl ?_ | refine O.ld 6 rfl ?_ | refine O.ld 7 rfl ?_ | refine O.ld 8 rfl ?_ | refine O.ld 9 rfl ?_); (repeat (first | (with_reducible refine ldL_n ?_) | refine ldL_s ?_ | refine ldL_c ?_)) | (with_reducible refine st_ad (by first | (with_reducible rfl) | (simp only [pt_add, Nat.zero_add, Nat.add_zero, Nat.reduceAdd]; with_reducible rfl)) ?_); (first | refine O.st 0 rfl (by simp) rfl fun h O => ?_ | refine O.st 1 rfl (by simp) rfl fun h O => ?_ | refine O.st 2 rfl (by simp) rfl fun h O => ?_ | refine O.st 3 rfl (by simp) rfl fun h O => ?_ | refine O.st 4 rfl (by simp) rfl fun h O => ?_ | refine O.st 5 rfl (by simp) rfl fun h O => ?_ | refine O.st 6 rfl (by simp) rfl fun h O => ?_ | refine O.st 7 rfl (by simp) rfl fun h O => ?_ | refine O.st 8 rfl (by simp) rfl fun h O => ?_ | refine O.st 9 rfl (by simp) rfl fun h O => ?_); (dsimp only [V.put, List.set, List.length_cons, List.length_nil] at O) | (with_reducible refine ca_id ?_); (first | refine O.ca 0 1 rfl ?_ | refine O.ca 0 2 rfl ?_ | refine O.ca 1 1 rfl ?_ | refine O.ca 1 2 rfl ?_ | refine O.ca 2 1 rfl ?_ | refine O.ca 2 2 rfl ?_ | refine O.ca 3 1 rfl ?_ | refine O.ca 3 2 rfl ?_ | refine O.ca 4 1 rfl ?_ | refine O.ca 4 2 rfl ?_ | refine O.ca 5 1 rfl ?_ | refine O.ca 5 2 rfl ?_ | refine O.ca 6 1 rfl ?_ | refine O.ca 6 2 rfl ?_ | refine O.ca 7 1 rfl ?_ | refine O.ca 7 2 rfl ?_ | refine O.ca 8 1 rfl ?_ | refine O.ca 8 2 rfl ?_ | refine O.ca 9 1 rfl ?_ | refine O.ca 9 2 rfl ?_))
    refine brr_ff (by rw [decide_eq_false_iff_not]; have := fe.prom; omega) ?_
    repeat (first | (with_reducible refine al_id ?_); refine O.al fun _ h O => ?_ | (with_reducible refine nn_id ?_); refine ⟨_, rfl, ?_⟩ | (with_reducible refine ld_id ?_); (first | refine O.ld 0 rfl ?_ | refine O.ld 1 rfl ?_ | refine O.ld 2 rfl ?_ | refine O.ld 3 rfl ?_ | refine O.ld 4 rfl ?_ | refine O.ld 5 rfl ?_ | refine O.ld 6 rfl ?_ | refine O.ld 7 rfl ?_ | refine O.ld 8 rfl ?_ | refine O.ld 9 rfl ?_); (repeat (first | (with_reducible refine ldL_n ?_) | refine ldL_s ?_ | refine ldL_c ?_)) | (with_reducible refine st_ad (by first | (with_reducible rfl) | (simp only [pt_add, Nat.zero_add, Nat.add_zero, Nat.reduceAdd]; with_reducible rfl)) ?_); (first | refine O.st 0 rfl (by simp) rfl fun h O => ?_ | refine O.st 1 rfl (by simp) rfl fun h O => ?_ | refine O.st 2 rfl (by simp) rfl fun h O => ?_ | refine O.st 3 rfl (by simp) rfl fun h O => ?_ | refine O.st 4 rfl (by simp) rfl fun h O => ?_ | refine O.st 5 rfl (by simp) rfl fun h O => ?_ | refine O.st 6 rfl (by simp) rfl fun h O => ?_ | refine O.st 7 rfl (by simp) rfl fun h O => ?_ | refine O.st 8 rfl (by simp) rfl fun h O => ?_ | refine O.st 9 rfl (by simp) rfl fun h O => ?_); (dsimp only [V.put, List.set, List.length_cons, List.length_nil] at O) | (with_reducible refine ca_id ?_); (first | refine O.ca 0 1 rfl ?_ | refine O.ca 0 2 rfl ?_ | refine O.ca 1 1 rfl ?_ | refine O.ca 1 2 rfl ?_ | refine O.ca 2 1 rfl ?_ | refine O.ca 2 2 rfl ?_ | refine O.ca 3 1 rfl ?_ | refine O.ca 3 2 rfl ?_ | refine O.ca 4 1 rfl ?_ | refine O.ca 4 2 rfl ?_ | refine O.ca 5 1 rfl ?_ | refine O.ca 5 2 rfl ?_ | refine O.ca 6 1 rfl ?_ | refine O.ca 6 2 rfl ?_ | refine O.ca 7 1 rfl ?_ | refine O.ca 7 2 rfl ?_ | refine O.ca 8 1 rfl ?_ | refine O.ca 8 2 rfl ?_ | refine O.ca 9 1 rfl ?_ | refine O.ca 9 2 rfl ?_))
    refine F_law9_less.is O fun h O => ?_
    refine brr_ff (decide_eq_false fe.tag) ?_
    repeat (first | (with_reducible refine al_id ?_); refine O.al fun _ h O => ?_ | (with_reducible refine nn_id ?_); refine ⟨_, rfl, ?_⟩ | (with_reducible refine ld_id ?_); (first | refine O.ld 0 rfl ?_ | refine O.ld 1 rfl ?_ | refine O.ld 2 rfl ?_ | refine O.ld 3 rfl ?_ | refine O.ld 4 rfl ?_ | refine O.ld 5 rfl ?_ | refine O.ld 6 rfl ?_ | refine O.ld 7 rfl ?_ | refine O.ld 8 rfl ?_ | refine O.ld 9 rfl ?_); (repeat (first | (with_reducible refine ldL_n ?_) | refine ldL_s ?_ | refine ldL_c ?_)) | (with_reducible refine st_ad (by first | (with_reducible rfl) | (simp only [pt_add, Nat.zero_add, Nat.add_zero, Nat.reduceAdd]; with_reducible rfl)) ?_); (first | refine O.st 0 rfl (by simp) rfl fun h O => ?_ | refine O.st 1 rfl (by simp) rfl fun h O => ?_ | refine O.st 2 rfl (by simp) rfl fun h O => ?_ | refine O.st 3 rfl (by simp) rfl fun h O => ?_ | refine O.st 4 rfl (by simp) rfl fun h O => ?_ | refine O.st 5 rfl (by simp) rfl fun h O => ?_ | refine O.st 6 rfl (by simp) rfl fun h O => ?_ | refine O.st 7 rfl (by simp) rfl fun h O => ?_ | refine O.st 8 rfl (by simp) rfl fun h O => ?_ | refine O.st 9 rfl (by simp) rfl fun h O => ?_); (dsimp only [V.put, List.set, List.length_cons, List.length_nil] at O) | (with_reducible refine ca_id ?_); (first | refine O.ca 0 1 rfl ?_ | refine O.ca 0 2 rfl ?_ | refine O.ca 1 1 rfl ?_ | refine O.ca 1 2 rfl ?_ | refine O.ca 2 1 rfl ?_ | refine O.ca 2 2 rfl ?_ | refine O.ca 3 1 rfl ?_ | refine O.ca 3 2 rfl ?_ | refine O.ca 4 1 rfl ?_ | refine O.ca 4 2 rfl ?_ | refine O.ca 5 1 rfl ?_ | refine O.ca 5 2 rfl ?_ | refine O.ca 6 1 rfl ?_ | refine O.ca 6 2 rfl ?_ | refine O.ca 7 1 rfl ?_ | refine O.ca 7 2 rfl ?_ | refine O.ca 8 1 rfl ?_ | refine O.ca 8 2 rfl ?_ | refine O.ca 9 1 rfl ?_ | refine O.ca 9 2 rfl ?_))
    refine brr_of (fun hq => ?_) (fun hq => ?_)
    · simp only [Bool.and_eq_true, beq_iff_eq, and_true] at hq
      have hv := fe.val hq.1 hq.2
      repeat (first | (with_reducible refine al_id ?_); refine O.al fun _ h O => ?_ | (with_reducible refine nn_id ?_); refine ⟨_, rfl, ?_⟩ | (with_reducible refine ld_id ?_); (first | refine O.ld 0 rfl ?_ | refine O.ld 1 rfl ?_ | refine O.ld 2 rfl ?_ | refine O.ld 3 rfl ?_ | refine O.ld 4 rfl ?_ | refine O.ld 5 rfl ?_ | refine O.ld 6 rfl ?_ | refine O.ld 7 rfl ?_ | refine O.ld 8 rfl ?_ | refine O.ld 9 rfl ?_); (repeat (first | (with_reducible refine ldL_n ?_) | refine ldL_s ?_ | refine ldL_c ?_)) | (with_reducible refine st_ad (by first | (with_reducible rfl) | (simp only [pt_add, Nat.zero_add, Nat.add_zero, Nat.reduceAdd]; with_reducible rfl)) ?_); (first | refine O.st 0 rfl (by simp) rfl fun h O => ?_ | refine O.st 1 rfl (by simp) rfl fun h O => ?_ | refine O.st 2 rfl (by simp) rfl fun h O => ?_ | refine O.st 3 rfl (by simp) rfl fun h O => ?_ | refine O.st 4 rfl (by simp) rfl fun h O => ?_ | refine O.st 5 rfl (by simp) rfl fun h O => ?_ | refine O.st 6 rfl (by simp) rfl fun h O => ?_ | refine O.st 7 rfl (by simp) rfl fun h O => ?_ | refine O.st 8 rfl (by simp) rfl fun h O => ?_ | refine O.st 9 rfl (by simp) rfl fun h O => ?_); (dsimp only [V.put, List.set, List.length_cons, List.length_nil] at O) | (with_reducible refine ca_id ?_); (first | refine O.ca 0 1 rfl ?_ | refine O.ca 0 2 rfl ?_ | refine O.ca 1 1 rfl ?_ | refine O.ca 1 2 rfl ?_ | refine O.ca 2 1 rfl ?_ | refine O.ca 2 2 rfl ?_ | refine O.ca 3 1 rfl ?_ | refine O.ca 3 2 rfl ?_ | refine O.ca 4 1 rfl ?_ | refine O.ca 4 2 rfl ?_ | refine O.ca 5 1 rfl ?_ | refine O.ca 5 2 rfl ?_ | refine O.ca 6 1 rfl ?_ | refine O.ca 6 2 rfl ?_ | refine O.ca 7 1 rfl ?_ | refine O.ca 7 2 rfl ?_ | refine O.ca 8 1 rfl ?_ | refine O.ca 8 2 rfl ?_ | refine O.ca 9 1 rfl ?_ | refine O.ca 9 2 rfl ?_))
      refine F_ref0_Eq.is (O.view 1 u8_len (by simp) rfl).1 (O.view 7 u8_len (by simp) rfl).1 (by have := ok2.v; omega) (by have := ok.v; omega) ?_
      exact hj _ _ ⟨by simp [hv], O⟩
    · exact hj _ _ ⟨rfl, O⟩
  clear O
  rintro z h ⟨rfl, O⟩
  refine brr_ff rfl ?_
  refine jn1 (fun z h' => z = false ∧ Sat H h' [own x111 [.int .u64 r2.prom, .int .u64 r2.te, .int .u64 r2.ts, .slice s2.ptr s2.len s2.cap], buf 1 u8 s2 r2.val, repR p r2, own x102 (hdC d s1), own x100 (mgC mm), buf 1 u8 s1 d.val, own x43 [.int .u64 r.prom, .int .u64 r.te, .int .u64 r.ts, .slice s.ptr s.len s.cap], buf 1 u8 s r.val, own x25 [.int .u64 r.te, .int .u64 r.ts], own x7 [.int .u64 t1, .int .u64 t2, .int .u64 t3, .slice t4.ptr t4.len t4.cap, .int .i64 t5, .slice t6.ptr t6.len t6.cap]]) ?_ ?_
  case refine_2 =>
    intro j hj
    repeat (first | (with_reducible refine al_id ?_); refine O.al fun _ h O => ?_ | (with_reducible refine nn_id ?_); refine ⟨_, rfl, ?_⟩ | (with_reducible refine ld_id ?_); (first | refine O.ld 0 rfl ?_ | refine O.ld 1 rfl ?_ | refine O.ld 2 rfl ?_ | refine O.ld 3 rfl ?_ | refine O.ld 4 rfl ?_ | refine O.ld 5 rfl ?_ | refine O.ld 6 rfl ?_ | refine O.ld 7 rfl ?_ | refine O.ld 8 rfl ?_ | refine O.ld 9 rfl ?_); (repeat (first | (with_reducible refine ldL_n ?_) | refine ldL_s ?_ | refine ldL_c ?_)) | (with_reducible refine st_ad (by first | (with_reducible rfl) | (simp only [pt_add, Nat.zero_add, Nat.add_zero, Nat.reduceAdd]; with_reducible rfl)) ?_); (first | refine O.st 0 rfl (by simp) rfl fun h O => ?_ | refine O.st 1 rfl (by simp) rfl fun h O => ?_ | refine O.st 2 rfl (by simp) rfl fun h O => ?_ | refine O.st 3 rfl (by simp) rfl fun h O => ?_ | refine O.st 4 rfl (by simp) rfl fun h O => ?_ | refine O.st 5 rfl (by simp) rfl fun h O => ?_ | refine O.st 6 rfl (by simp) rfl fun h O => ?_ | refine O.st 7 rfl (by simp) rfl fun h O => ?_ | refine O.st 8 rfl (by simp) rfl fun h O => ?_ | refine O.st 9 rfl (by simp) rfl fun h O => ?_); (dsimp only [V.put, List.set, List.length_cons, List.length_nil] at O) | (with_reducible refine ca_id ?_); (first | refine O.ca 0 1 rfl ?_ | refine O.ca 0 2 rfl ?_ | refine O.ca 1 1 rfl ?_ | refine O.ca 1 2 rfl ?_ | refine O.ca 2 1 rfl ?_ | refine O.ca 2 2 rfl ?_ | refine O.ca 3 1 rfl ?_ | refine O.ca 3 2 rfl ?_ | refine O.ca 4 1 rfl ?_ | refine O.ca 4 2 rfl ?_ | refine O.ca 5 1 rfl ?_ | refine O.ca 5 2 rfl ?_ | refine O.ca 6 1 rfl ?_ | refine O.ca 6 2 rfl ?_ | refine O.ca 7 1 rfl ?_ | refine O.ca 7 2 rfl ?_ | refine O.ca 8 1 rfl ?_ | refine O.ca 8 2 rfl ?_ | refine O.ca 9 1 rfl ?_ | refine O.ca 9 2 rfl ?_))
    refine brr_of (fun hq => ?_) (fun hq => ?_)
    · have hk : mm.kind ≠ 0 := by simpa using hq
      repeat (first | (with_reducible refine al_id ?_); refine O.al fun _ h O => ?_ | (with_reducible refine nn_id ?_); refine ⟨_, rfl, ?_⟩ | (with_reducible refine ld_id ?_); (first | refine O.ld 0 rfl ?_ | refine O.ld 1 rfl ?_ | refine O.ld 2 rfl ?_ | refine O.ld 3 rfl ?_ | refine O.ld 4 rfl ?_ | refine O.ld 5 rfl ?_ | refine O.ld 6 rfl ?_ | refine O.ld 7 rfl ?_ | refine O.ld 8 rfl ?_ | refine O.ld 9 rfl ?_); (repeat (first | (with_reducible refine ldL_n ?_) | refine ldL_s ?_ | refine ldL_c ?_)) | (with_reducible refine st_ad (by first | (with_reducible rfl) | (simp only [pt_add, Nat.zero_add, Nat.add_zero, Nat.reduceAdd]; with_reducible rfl)) ?_); (first | refine O.st 0 rfl (by simp) rfl fun h O => ?_ | refine O.st 1 rfl (by simp) rfl fun h O => ?_ | refine O.st 2 rfl (by simp) rfl fun h O => ?_ | refine O.st 3 rfl (by simp) rfl fun h O => ?_ | refine O.st 4 rfl (by simp) rfl fun h O => ?_ | refine O.st 5 rfl (by simp) rfl fun h O => ?_ | refine O.st 6 rfl (by simp) rfl fun h O => ?_ | refine O.st 7 rfl (by simp) rfl fun h O => ?_ | refine O.st 8 rfl (by simp) rfl fun h O => ?_ | refine O.st 9 rfl (by simp) rfl fun h O => ?_); (dsimp only [V.put, List.set, List.length_cons, List.length_nil] at O) | (with_reducible refine ca_id ?_); (first | refine O.ca 0 1 rfl ?_ | refine O.ca 0 2 rfl ?_ | refine O.ca 1 1 rfl ?_ | refine O.ca 1 2 rfl ?_ | refine O.ca 2 1 rfl ?_ | refine O.ca 2 2 rfl ?_ | refine O.ca 3 1 rfl ?_ | refine O.ca 3 2 rfl ?_ | refine O.ca 4 1 rfl ?_ | refine O.ca 4 2 rfl ?_ | refine O.ca 5 1 rfl ?_ | refine O.ca 5 2 rfl ?_ | refine O.ca 6 1 rfl ?_ | refine O.ca 6 2 rfl ?_ | refine O.ca 7 1 rfl ?_ | refine O.ca 7 2 rfl ?_ | refine O.ca 8 1 rfl ?_ | refine O.ca 8 2 rfl ?_ | refine O.ca 9 1 rfl ?_ | refine O.ca 9 2 rfl ?_))
      refine F_ref0_EqStored.is O (fun h O => (O.view 1 u8_len (by simp) rfl).1) (fun h O => (O.view 7 u8_len (by simp) rfl).1) ok2.v ok.v fun h O => ?_
      refine ⟨cellsAre_blk (O.blk (i := 3) (by simp) rfl).2 24 1, ?_⟩
      refine hj _ _ ⟨?_, O⟩
      rw [fe.chg hk]
      cases decide (r2.prom = r.prom ∧ r2.te = r.te ∧ r2.ts = r.ts ∧ r2.val = r.val) <;> rfl
    · exact hj _ _ ⟨rfl, O⟩
  clear O
  rintro z h ⟨rfl, O⟩
  refine brr_ff rfl ?_
  refine jn1 (fun z h' => z = false ∧ Sat H h' [own x111 [.int .u64 r2.prom, .int .u64 r2.te, .int .u64 r2.ts, .slice s2.ptr s2.len s2.cap], buf 1 u8 s2 r2.val, repR p r2, own x102 (hdC d s1), own x100 (mgC mm), buf 1 u8 s1 d.val, own x43 [.int .u64 r.prom, .int .u64 r.te, .int .u64 r.ts, .slice s.ptr s.len s.cap], buf 1 u8 s r.val, own x25 [.int .u64 r.te, .int .u64 r.ts], own x7 [.int .u64 t1, .int .u64 t2, .int .u64 t3, .slice t4.ptr t4.len t4.cap, .int .i64 t5, .slice t6.ptr t6.len t6.cap]]) ?_ ?_
  case refine_2 =>
    intro j hj
    repeat (first | (with_reducible refine al_id ?_); refine O.al fun _ h O => ?_ | (with_reducible refine nn_id ?_); refine ⟨_, rfl, ?_⟩ | (with_reducible refine ld_id ?_); (first | refine O.ld 0 rfl ?_ | refine O.ld 1 rfl ?_ | refine O.ld 2 rfl ?_ | refine O.ld 3 rfl ?_ | refine O.ld 4 rfl ?_ | refine O.ld 5 rfl ?_ | refine O.ld 6 rfl ?_ | refine O.ld 7 rfl ?_ | refine O.ld 8 rfl ?_ | refine O.ld 9 rfl ?_); (repeat (first | (with_reducible refine ldL_n ?_) | refine ldL_s ?_ | refine ldL_c ?_)) | (with_reducible refine st_ad (by first | (with_reducible rfl) | (simp only [pt_add, Nat.zero_add, Nat.add_zero, Nat.reduceAdd]; with_reducible rfl)) ?_); (first | refine O.st 0 rfl (by simp) rfl fun h O => ?_ | refine O.st 1 rfl (by simp) rfl fun h O => ?_ | refine O.st 2 rfl (by simp) rfl fun h O => ?_ | refine O.st 3 rfl (by simp) rfl fun h O => ?_ | refine O.st 4 rfl (by simp) rfl fun h O => ?_ | refine O.st 5 rfl (by simp) rfl fun h O => ?_ | refine O.st 6 rfl (by simp) rfl fun h O => ?_ | refine O.st 7 rfl (by simp) rfl fun h O => ?_ | refine O.st 8 rfl (by simp) rfl fun h O => ?_ | refine O.st 9 rfl (by simp) rfl fun h O => ?_); (dsimp only [V.put, List.set, List.length_cons, List.length_nil] at O) | (with_reducible refine ca_id ?_); (first | refine O.ca 0 1 rfl ?_ | refine O.ca 0 2 rfl ?_ | refine O.ca 1 1 rfl ?_ | refine O.ca 1 2 rfl ?_ | refine O.ca 2 1 rfl ?_ | refine O.ca 2 2 rfl ?_ | refine O.ca 3 1 rfl ?_ | refine O.ca 3 2 rfl ?_ | refine O.ca 4 1 rfl ?_ | refine O.ca 4 2 rfl ?_ | refine O.ca 5 1 rfl ?_ | refine O.ca 5 2 rfl ?_ | refine O.ca 6 1 rfl ?_ | refine O.ca 6 2 rfl ?_ | refine O.ca 7 1 rfl ?_ | refine O.ca 7 2 rfl ?_ | refine O.ca 8 1 rfl ?_ | refine O.ca 8 2 rfl ?_ | refine O.ca 9 1 rfl ?_ | refine O.ca 9 2 rfl ?_))
    refine brr_of (fun hq => ?_) (fun hq => ?_)
    · have hk := fe.tak hq
      repeat (first | (with_reducible refine al_id ?_); refine O.al fun _ h O => ?_ | (with_reducible refine nn_id ?_); refine ⟨_, rfl, ?_⟩ | (with_reducible refine ld_id ?_); (first | refine O.ld 0 rfl ?_ | refine O.ld 1 rfl ?_ | refine O.ld 2 rfl ?_ | refine O.ld 3 rfl ?_ | refine O.ld 4 rfl ?_ | refine O.ld 5 rfl ?_ | refine O.ld 6 rfl ?_ | refine O.ld 7 rfl ?_ | refine O.ld 8 rfl ?_ | refine O.ld 9 rfl ?_); (repeat (first | (with_reducible refine ldL_n ?_) | refine ldL_s ?_ | refine ldL_c ?_)) | (with_reducible refine st_ad (by first | (with_reducible rfl) | (simp only [pt_add, Nat.zero_add, Nat.add_zero, Nat.reduceAdd]; with_reducible rfl)) ?_); (first | refine O.st 0 rfl (by simp) rfl fun h O => ?_ | refine O.st 1 rfl (by simp) rfl fun h O => ?_ | refine O.st 2 rfl (by simp) rfl fun h O => ?_ | refine O.st 3 rfl (by simp) rfl fun h O => ?_ | refine O.st 4 rfl (by simp) rfl fun h O => ?_ | refine O.st 5 rfl (by simp) rfl fun h O => ?_ | refine O.st 6 rfl (by simp) rfl fun h O => ?_ | refine O.st 7 rfl (by simp) rfl fun h O => ?_ | refine O.st 8 rfl (by simp) rfl fun h O => ?_ | refine O.st 9 rfl (by simp) rfl fun h O => ?_); (dsimp only [V.put, List.set, List.length_cons, List.length_nil] at O) | (with_reducible refine ca_id ?_); (first | refine O.ca 0 1 rfl ?_ | refine O.ca 0 2 rfl ?_ | refine O.ca 1 1 rfl ?_ | refine O.ca 1 2 rfl ?_ | refine O.ca 2 1 rfl ?_ | refine O.ca 2 2 rfl ?_ | refine O.ca 3 1 rfl ?_ | refine O.ca 3 2 rfl ?_ | refine O.ca 4 1 rfl ?_ | refine O.ca 4 2 rfl ?_ | refine O.ca 5 1 rfl ?_ | refine O.ca 5 2 rfl ?_ | refine O.ca 6 1 rfl ?_ | refine O.ca 6 2 rfl ?_ | refine O.ca 7 1 rfl ?_ | refine O.ca 7 2 rfl ?_ | refine O.ca 8 1 rfl ?_ | refine O.ca 8 2 rfl ?_ | refine O.ca 9 1 rfl ?_ | refine O.ca 9 2 rfl ?_))
      refine F_law9_epoch.is (m := mm) O fun h O => ?_
      exact hj _ _ ⟨by rw [decide_eq_false_iff_not]; omega, O⟩
    · exact hj _ _ ⟨rfl, O⟩
  clear O
  rintro z h ⟨rfl, O⟩
  refine brr_ff rfl ?_
  repeat (first | (with_reducible refine al_id ?_); refine O.al fun _ h O => ?_ | (with_reducible refine nn_id ?_); refine ⟨_, rfl, ?_⟩ | (with_reducible refine ld_id ?_); (first | refine O.ld 0 rfl ?_ | refine O.ld 1 rfl ?_ | refine O.ld 2 rfl ?_ | refine O.ld 3 rfl ?_ | refine O.ld 4 rfl ?_ | refine O.ld 5 rfl ?_ | refine O.ld 6 rfl ?_ | refine O.ld 7 rfl ?_ | refine O.ld 8 rfl ?_ | refine O.ld 9 rfl ?_); (repeat (first | (with_reducible refine ldL_n ?_) | refine ldL_s ?_ | refine ldL_c ?_)) | (with_reducible refine st_ad (by first | (with_reducible rfl) | (simp only [pt_add, Nat.zero_add, Nat.add_zero, Nat.reduceAdd]; with_reducible rfl)) ?_); (first | refine O.st 0 rfl (by simp) rfl fun h O => ?_ | refine O.st 1 rfl (by simp) rfl fun h O => ?_ | refine O.st 2 rfl (by simp) rfl fun h O => ?_ | refine O.st 3 rfl (by simp) rfl fun h O => ?_ | refine O.st 4 rfl (by simp) rfl fun h O => ?_ | refine O.st 5 rfl (by simp) rfl fun h O => ?_ | refine O.st 6 rfl (by simp) rfl fun h O => ?_ | refine O.st 7 rfl (by simp) rfl fun h O => ?_ | refine O.st 8 rfl (by simp) rfl fun h O => ?_ | refine O.st 9 rfl (by simp) rfl fun h O => ?_); (dsimp only [V.put, List.set, List.length_cons, List.length_nil] at O) | (with_reducible refine ca_id ?_); (first | refine O.ca 0 1 rfl ?_ | refine O.ca 0 2 rfl ?_ | refine O.ca 1 1 rfl ?_ | refine O.ca 1 2 rfl ?_ | refine O.ca 2 1 rfl ?_ | refine O.ca 2 2 rfl ?_ | refine O.ca 3 1 rfl ?_ | refine O.ca 3 2 rfl ?_ | refine O.ca 4 1 rfl ?_ | refine O.ca 4 2 rfl ?_ | refine O.ca 5 1 rfl ?_ | refine O.ca 5 2 rfl ?_ | refine O.ca 6 1 rfl ?_ | refine O.ca 6 2 rfl ?_ | refine O.ca 7 1 rfl ?_ | refine O.ca 7 2 rfl ?_ | refine O.ca 8 1 rfl ?_ | refine O.ca 8 2 rfl ?_ | refine O.ca 9 1 rfl ?_ | refine O.ca 9 2 rfl ?_))
  have hpp := fe.prom
  have out : ∀ {h : Heap} {pm2 : Int}, pm2 ≤ r2.prom → r2.te = r.te ∧ r2.ts = r.ts → Sat H h [own x111 [.int .u64 r2.prom, .int .u64 r2.te, .int .u64 r2.ts, .slice s2.ptr s2.len s2.cap], buf 1 u8 s2 r2.val, repR p r2, own x102 (hdC d s1), own x100 (mgC mm), buf 1 u8 s1 d.val, own x43 [.int .u64 r.prom, .int .u64 r.te, .int .u64 r.ts, .slice s.ptr s.len s.cap], buf 1 u8 s r.val, own x25 [.int .u64 r.te, .int .u64 r.ts], own x7 [.int .u64 t1, .int .u64 t2, .int .u64 t3, .slice t4.ptr t4.len t4.cap, .int .i64 t5, .slice t6.ptr t6.len t6.cap]] → j37 pm2 h := by
    intro h pm2 hq he O
    have O2 := O.sel [2, 8, 9] 10 rfl (Nat.le_add_left _ _)
    refine hj37 _ _ ⟨r2, ok2, hq, ?_⟩
    rw [he.1, he.2]
    exact O2
  refine brr_of (fun hna => ?_) (fun hna => ?_)
  · by_cases h5 : d.kind = 5
    · have hna : (!d.ans) = true := hna
      rw [fa (by omega)] at hna
      cases hna
    · exact out (by omega) (fe.ko h5) O
  repeat (first | (with_reducible refine al_id ?_); refine O.al fun _ h O => ?_ | (with_reducible refine nn_id ?_); refine ⟨_, rfl, ?_⟩ | (with_reducible refine ld_id ?_); (first | refine O.ld 0 rfl ?_ | refine O.ld 1 rfl ?_ | refine O.ld 2 rfl ?_ | refine O.ld 3 rfl ?_ | refine O.ld 4 rfl ?_ | refine O.ld 5 rfl ?_ | refine O.ld 6 rfl ?_ | refine O.ld 7 rfl ?_ | refine O.ld 8 rfl ?_ | refine O.ld 9 rfl ?_); (repeat (first | (with_reducible refine ldL_n ?_) | refine ldL_s ?_ | refine ldL_c ?_)) | (with_reducible refine st_ad (by first | (with_reducible rfl) | (simp only [pt_add, Nat.zero_add, Nat.add_zero, Nat.reduceAdd]; with_reducible rfl)) ?_); (first | refine O.st 0 rfl (by simp) rfl fun h O => ?_ | refine O.st 1 rfl (by simp) rfl fun h O => ?_ | refine O.st 2 rfl (by simp) rfl fun h O => ?_ | refine O.st 3 rfl (by simp) rfl fun h O => ?_ | refine O.st 4 rfl (by simp) rfl fun h O => ?_ | refine O.st 5 rfl (by simp) rfl fun h O => ?_ | refine O.st 6 rfl (by simp) rfl fun h O => ?_ | refine O.st 7 rfl (by simp) rfl fun h O => ?_ | refine O.st 8 rfl (by simp) rfl fun h O => ?_ | refine O.st 9 rfl (by simp) rfl fun h O => ?_); (dsimp only [V.put, List.set, List.length_cons, List.length_nil] at O) | (with_reducible refine ca_id ?_); (first | refine O.ca 0 1 rfl ?_ | refine O.ca 0 2 rfl ?_ | refine O.ca 1 1 rfl ?_ | refine O.ca 1 2 rfl ?_ | refine O.ca 2 1 rfl ?_ | refine O.ca 2 2 rfl ?_ | refine O.ca 3 1 rfl ?_ | refine O.ca 3 2 rfl ?_ | refine O.ca 4 1 rfl ?_ | refine O.ca 4 2 rfl ?_ | refine O.ca 5 1 rfl ?_ | refine O.ca 5 2 rfl ?_ | refine O.ca 6 1 rfl ?_ | refine O.ca 6 2 rfl ?_ | refine O.ca 7 1 rfl ?_ | refine O.ca 7 2 rfl ?_ | refine O.ca 8 1 rfl ?_ | refine O.ca 8 2 rfl ?_ | refine O.ca 9 1 rfl ?_ | refine O.ca 9 2 rfl ?_))
  refine brr_eq (fun h2 => ?_) (fun h2 => ?_)
  · obtain ⟨a1, a2, a3, a4, a5, a6, a7, a8⟩ := fe.k2 h2
    refine jn1 (fun z h' => z = false ∧ Sat H h' [own x111 [.int .u64 r2.prom, .int .u64 r2.te, .int .u64 r2.ts, .slice s2.ptr s2.len s2.cap], buf 1 u8 s2 r2.val, repR p r2, own x102 (hdC d s1), own x100 (mgC mm), buf 1 u8 s1 d.val, own x43 [.int .u64 r.prom, .int .u64 r.te, .int .u64 r.ts, .slice s.ptr s.len s.cap], buf 1 u8 s r.val, own x25 [.int .u64 r.te, .int .u64 r.ts], own x7 [.int .u64 t1, .int .u64 t2, .int .u64 t3, .slice t4.ptr t4.len t4.cap, .int .i64 t5, .slice t6.ptr t6.len t6.cap]]) ?_ ?_
    · clear O
      rintro z h ⟨rfl, O⟩
      refine brr_ff rfl ?_
      repeat (first | (with_reducible refine al_id ?_); refine O.al fun _ h O => ?_ | (with_reducible refine nn_id ?_); refine ⟨_, rfl, ?_⟩ | (with_reducible refine ld_id ?_); (first | refine O.ld 0 rfl ?_ | refine O.ld 1 rfl ?_ | refine O.ld 2 rfl ?_ | refine O.ld 3 rfl ?_ | refine O.ld 4 rfl ?_ | refine O.ld 5 rfl ?_ | refine O.ld 6 rfl ?_ | refine O.ld 7 rfl ?_ | refine O.ld 8 rfl ?_ | refine O.ld 9 rfl ?_); (repeat (first | (with_reducible refine ldL_n ?_) | refine ldL_s ?_ | refine ldL_c ?_)) | (with_reducible refine st_ad (by first | (with_reducible rfl) | (simp only [pt_add, Nat.zero_add, Nat.add_zero, Nat.reduceAdd]; with_reducible rfl)) ?_); (first | refine O.st 0 rfl (by simp) rfl fun h O => ?_ | refine O.st 1 rfl (by simp) rfl fun h O => ?_ | refine O.st 2 rfl (by simp) rfl fun h O => ?_ | refine O.st 3 rfl (by simp) rfl fun h O => ?_ | refine O.st 4 rfl (by simp) rfl fun h O => ?_ | refine O.st 5 rfl (by simp) rfl fun h O => ?_ | refine O.st 6 rfl (by simp) rfl fun h O => ?_ | refine O.st 7 rfl (by simp) rfl fun h O => ?_ | refine O.st 8 rfl (by simp) rfl fun h O => ?_ | refine O.st 9 rfl (by simp) rfl fun h O => ?_); (dsimp only [V.put, List.set, List.length_cons, List.length_nil] at O) | (with_reducible refine ca_id ?_); (first | refine O.ca 0 1 rfl ?_ | refine O.ca 0 2 rfl ?_ | refine O.ca 1 1 rfl ?_ | refine O.ca 1 2 rfl ?_ | refine O.ca 2 1 rfl ?_ | refine O.ca 2 2 rfl ?_ | refine O.ca 3 1 rfl ?_ | refine O.ca 3 2 rfl ?_ | refine O.ca 4 1 rfl ?_ | refine O.ca 4 2 rfl ?_ | refine O.ca 5 1 rfl ?_ | refine O.ca 5 2 rfl ?_ | refine O.ca 6 1 rfl ?_ | refine O.ca 6 2 rfl ?_ | refine O.ca 7 1 rfl ?_ | refine O.ca 7 2 rfl ?_ | refine O.ca 8 1 rfl ?_ | refine O.ca 8 2 rfl ?_ | refine O.ca 9 1 rfl ?_ | refine O.ca 9 2 rfl ?_))
      exact out (by omega) ⟨a7, a8⟩ O
    · intro j hj
      repeat (first | (with_reducible refine al_id ?_); refine O.al fun _ h O => ?_ | (with_reducible refine nn_id ?_); refine ⟨_, rfl, ?_⟩ | (with_reducible refine ld_id ?_); (first | refine O.ld 0 rfl ?_ | refine O.ld 1 rfl ?_ | refine O.ld 2 rfl ?_ | refine O.ld 3 rfl ?_ | refine O.ld 4 rfl ?_ | refine O.ld 5 rfl ?_ | refine O.ld 6 rfl ?_ | refine O.ld 7 rfl ?_ | refine O.ld 8 rfl ?_ | refine O.ld 9 rfl ?_); (repeat (first | (with_reducible refine ldL_n ?_) | refine ldL_s ?_ | refine ldL_c ?_)) | (with_reducible refine st_ad (by first | (with_reducible rfl) | (simp only [pt_add, Nat.zero_add, Nat.add_zero, Nat.reduceAdd]; with_reducible rfl)) ?_); (first | refine O.st 0 rfl (by simp) rfl fun h O => ?_ | refine O.st 1 rfl (by simp) rfl fun h O => ?_ | refine O.st 2 rfl (by simp) rfl fun h O => ?_ | refine O.st 3 rfl (by simp) rfl fun h O => ?_ | refine O.st 4 rfl (by simp) rfl fun h O => ?_ | refine O.st 5 rfl (by simp) rfl fun h O => ?_ | refine O.st 6 rfl (by simp) rfl fun h O => ?_ | refine O.st 7 rfl (by simp) rfl fun h O => ?_ | refine O.st 8 rfl (by simp) rfl fun h O => ?_ | refine O.st 9 rfl (by simp) rfl fun h O => ?_); (dsimp only [V.put, List.set, List.length_cons, List.length_nil] at O) | (with_reducible refine ca_id ?_); (first | refine O.ca 0 1 rfl ?_ | refine O.ca 0 2 rfl ?_ | refine O.ca 1 1 rfl ?_ | refine O.ca 1 2 rfl ?_ | refine O.ca 2 1 rfl ?_ | refine O.ca 2 2 rfl ?_ | refine O.ca 3 1 rfl ?_ | refine O.ca 3 2 rfl ?_ | refine O.ca 4 1 rfl ?_ | refine O.ca 4 2 rfl ?_ | refine O.ca 5 1 rfl ?_ | refine O.ca 5 2 rfl ?_ | refine O.ca 6 1 rfl ?_ | refine O.ca 6 2 rfl ?_ | refine O.ca 7 1 rfl ?_ | refine O.ca 7 2 rfl ?_ | refine O.ca 8 1 rfl ?_ | refine O.ca 8 2 rfl ?_ | refine O.ca 9 1 rfl ?_ | refine O.ca 9 2 rfl ?_))
      refine brr_ff (by rw [decide_eq_false_iff_not]; omega) ?_
      repeat (first | (with_reducible refine al_id ?_); refine O.al fun _ h O => ?_ | (with_reducible refine nn_id ?_); refine ⟨_, rfl, ?_⟩ | (with_reducible refine ld_id ?_); (first | refine O.ld 0 rfl ?_ | refine O.ld 1 rfl ?_ | refine O.ld 2 rfl ?_ | refine O.ld 3 rfl ?_ | refine O.ld 4 rfl ?_ | refine O.ld 5 rfl ?_ | refine O.ld 6 rfl ?_ | refine O.ld 7 rfl ?_ | refine O.ld 8 rfl ?_ | refine O.ld 9 rfl ?_); (repeat (first | (with_reducible refine ldL_n ?_) | refine ldL_s ?_ | refine ldL_c ?_)) | (with_reducible refine st_ad (by first | (with_reducible rfl) | (simp only [pt_add, Nat.zero_add, Nat.add_zero, Nat.reduceAdd]; with_reducible rfl)) ?_); (first | refine O.st 0 rfl (by simp) rfl fun h O => ?_ | refine O.st 1 rfl (by simp) rfl fun h O => ?_ | refine O.st 2 rfl (by simp) rfl fun h O => ?_ | refine O.st 3 rfl (by simp) rfl fun h O => ?_ | refine O.st 4 rfl (by simp) rfl fun h O => ?_ | refine O.st 5 rfl (by simp) rfl fun h O => ?_ | refine O.st 6 rfl (by simp) rfl fun h O => ?_ | refine O.st 7 rfl (by simp) rfl fun h O => ?_ | refine O.st 8 rfl (by simp) rfl fun h O => ?_ | refine O.st 9 rfl (by simp) rfl fun h O => ?_); (dsimp only [V.put, List.set, List.length_cons, List.length_nil] at O) | (with_reducible refine ca_id ?_); (first | refine O.ca 0 1 rfl ?_ | refine O.ca 0 2 rfl ?_ | refine O.ca 1 1 rfl ?_ | refine O.ca 1 2 rfl ?_ | refine O.ca 2 1 rfl ?_ | refine O.ca 2 2 rfl ?_ | refine O.ca 3 1 rfl ?_ | refine O.ca 3 2 rfl ?_ | refine O.ca 4 1 rfl ?_ | refine O.ca 4 2 rfl ?_ | refine O.ca 5 1 rfl ?_ | refine O.ca 5 2 rfl ?_ | refine O.ca 6 1 rfl ?_ | refine O.ca 6 2 rfl ?_ | refine O.ca 7 1 rfl ?_ | refine O.ca 7 2 rfl ?_ | refine O.ca 8 1 rfl ?_ | refine O.ca 8 2 rfl ?_ | refine O.ca 9 1 rfl ?_ | refine O.ca 9 2 rfl ?_))
      refine brr_ff (by simp [a3, a4]) ?_
      repeat (first | (with_reducible refine al_id ?_); refine O.al fun _ h O => ?_ | (with_reducible refine nn_id ?_); refine ⟨_, rfl, ?_⟩ | (with_reducible refine ld_id ?_); (first | refine O.ld 0 rfl ?_ | refine O.ld 1 rfl ?_ | refine O.ld 2 rfl ?_ | refine O.ld 3 rfl ?_ | refine O.ld 4 rfl ?_ | refine O.ld 5 rfl ?_ | refine O.ld 6 rfl ?_ | refine O.ld 7 rfl ?_ | refine O.ld 8 rfl ?_ | refine O.ld 9 rfl ?_); (repeat (first | (with_reducible refine ldL_n ?_) | refine ldL_s ?_ | refine ldL_c ?_)) | (with_reducible refine st_ad (by first | (with_reducible rfl) | (simp only [pt_add, Nat.zero_add, Nat.add_zero, Nat.reduceAdd]; with_reducible rfl)) ?_); (first | refine O.st 0 rfl (by simp) rfl fun h O => ?_ | refine O.st 1 rfl (by simp) rfl fun h O => ?_ | refine O.st 2 rfl (by simp) rfl fun h O => ?_ | refine O.st 3 rfl (by simp) rfl fun h O => ?_ | refine O.st 4 rfl (by simp) rfl fun h O => ?_ | refine O.st 5 rfl (by simp) rfl fun h O => ?_ | refine O.st 6 rfl (by simp) rfl fun h O => ?_ | refine O.st 7 rfl (by simp) rfl fun h O => ?_ | refine O.st 8 rfl (by simp) rfl fun h O => ?_ | refine O.st 9 rfl (by simp) rfl fun h O => ?_); (dsimp only [V.put, List.set, List.length_cons, List.length_nil] at O) | (with_reducible refine ca_id ?_); (first | refine O.ca 0 1 rfl ?_ | refine O.ca 0 2 rfl ?_ | refine O.ca 1 1 rfl ?_ | refine O.ca 1 2 rfl ?_ | refine O.ca 2 1 rfl ?_ | refine O.ca 2 2 rfl ?_ | refine O.ca 3 1 rfl ?_ | refine O.ca 3 2 rfl ?_ | refine O.ca 4 1 rfl ?_ | refine O.ca 4 2 rfl ?_ | refine O.ca 5 1 rfl ?_ | refine O.ca 5 2 rfl ?_ | refine O.ca 6 1 rfl ?_ | refine O.ca 6 2 rfl ?_ | refine O.ca 7 1 rfl ?_ | refine O.ca 7 2 rfl ?_ | refine O.ca 8 1 rfl ?_ | refine O.ca 8 2 rfl ?_ | refine O.ca 9 1 rfl ?_ | refine O.ca 9 2 rfl ?_))
      refine F_ref0_Eq.is (O.view 5 u8_len (by simp) rfl).1 (O.view 1 u8_len (by simp) rfl).1 (by omega) (by have := ok2.v; omega) ?_
      refine brr_ff (by simp [a5]) ?_
      repeat (first | (with_reducible refine al_id ?_); refine O.al fun _ h O => ?_ | (with_reducible refine nn_id ?_); refine ⟨_, rfl, ?_⟩ | (with_reducible refine ld_id ?_); (first | refine O.ld 0 rfl ?_ | refine O.ld 1 rfl ?_ | refine O.ld 2 rfl ?_ | refine O.ld 3 rfl ?_ | refine O.ld 4 rfl ?_ | refine O.ld 5 rfl ?_ | refine O.ld 6 rfl ?_ | refine O.ld 7 rfl ?_ | refine O.ld 8 rfl ?_ | refine O.ld 9 rfl ?_); (repeat (first | (with_reducible refine ldL_n ?_) | refine ldL_s ?_ | refine ldL_c ?_)) | (with_reducible refine st_ad (by first | (with_reducible rfl) | (simp only [pt_add, Nat.zero_add, Nat.add_zero, Nat.reduceAdd]; with_reducible rfl)) ?_); (first | refine O.st 0 rfl (by simp) rfl fun h O => ?_ | refine O.st 1 rfl (by simp) rfl fun h O => ?_ | refine O.st 2 rfl (by simp) rfl fun h O => ?_ | refine O.st 3 rfl (by simp) rfl fun h O => ?_ | refine O.st 4 rfl (by simp) rfl fun h O => ?_ | refine O.st 5 rfl (by simp) rfl fun h O => ?_ | refine O.st 6 rfl (by simp) rfl fun h O => ?_ | refine O.st 7 rfl (by simp) rfl fun h O => ?_ | refine O.st 8 rfl (by simp) rfl fun h O => ?_ | refine O.st 9 rfl (by simp) rfl fun h O => ?_); (dsimp only [V.put, List.set, List.length_cons, List.length_nil] at O) | (with_reducible refine ca_id ?_); (first | refine O.ca 0 1 rfl ?_ | refine O.ca 0 2 rfl ?_ | refine O.ca 1 1 rfl ?_ | refine O.ca 1 2 rfl ?_ | refine O.ca 2 1 rfl ?_ | refine O.ca 2 2 rfl ?_ | refine O.ca 3 1 rfl ?_ | refine O.ca 3 2 rfl ?_ | refine O.ca 4 1 rfl ?_ | refine O.ca 4 2 rfl ?_ | refine O.ca 5 1 rfl ?_ | refine O.ca 5 2 rfl ?_ | refine O.ca 6 1 rfl ?_ | refine O.ca 6 2 rfl ?_ | refine O.ca 7 1 rfl ?_ | refine O.ca 7 2 rfl ?_ | refine O.ca 8 1 rfl ?_ | refine O.ca 8 2 rfl ?_ | refine O.ca 9 1 rfl ?_ | refine O.ca 9 2 rfl ?_))
      exact hj _ _ ⟨by simp [a6], O⟩
  refine jn_go ?_
  refine brr_eq (fun h5 => ?_) (fun h5 => ?_)
  · obtain ⟨a1, a2, a3, a4, a5⟩ := fe.k5 h5
    refine jn1 (fun z h' => z = false ∧ Sat H h' [own x111 [.int .u64 r2.prom, .int .u64 r2.te, .int .u64 r2.ts, .slice s2.ptr s2.len s2.cap], buf 1 u8 s2 r2.val, repR p r2, own x102 (hdC d s1), own x100 (mgC mm), buf 1 u8 s1 d.val, own x43 [.int .u64 r.prom, .int .u64 r.te, .int .u64 r.ts, .slice s.ptr s.len s.cap], buf 1 u8 s r.val, own x25 [.int .u64 r.te, .int .u64 r.ts], own x7 [.int .u64 t1, .int .u64 t2, .int .u64 t3, .slice t4.ptr t4.len t4.cap, .int .i64 t5, .slice t6.ptr t6.len t6.cap]]) ?_ ?_
    · clear O
      rintro z h ⟨rfl, O⟩
      refine brr_ff rfl ?_
      repeat (first | (with_reducible refine al_id ?_); refine O.al fun _ h O => ?_ | (with_reducible refine nn_id ?_); refine ⟨_, rfl, ?_⟩ | (with_reducible refine ld_id ?_); (first | refine O.ld 0 rfl ?_ | refine O.ld 1 rfl ?_ | refine O.ld 2 rfl ?_ | refine O.ld 3 rfl ?_ | refine O.ld 4 rfl ?_ | refine O.ld 5 rfl ?_ | refine O.ld 6 rfl ?_ | refine O.ld 7 rfl ?_ | refine O.ld 8 rfl ?_ | refine O.ld 9 rfl ?_); (repeat (first | (with_reducible refine ldL_n ?_) | refine ldL_s ?_ | refine ldL_c ?_)) | (with_reducible refine st_ad (by first | (with_reducible rfl) | (simp only [pt_add, Nat.zero_add, Nat.add_zero, Nat.reduceAdd]; with_reducible rfl)) ?_); (first | refine O.st 0 rfl (by simp) rfl fun h O => ?_ | refine O.st 1 rfl (by simp) rfl fun h O => ?_ | refine O.st 2 rfl (by simp) rfl fun h O => ?_ | refine O.st 3 rfl (by simp) rfl fun h O => ?_ | refine O.st 4 rfl (by simp) rfl fun h O => ?_ | refine O.st 5 rfl (by simp) rfl fun h O => ?_ | refine O.st 6 rfl (by simp) rfl fun h O => ?_ | refine O.st 7 rfl (by simp) rfl fun h O => ?_ | refine O.st 8 rfl (by simp) rfl fun h O => ?_ | refine O.st 9 rfl (by simp) rfl fun h O => ?_); (dsimp only [V.put, List.set, List.length_cons, List.length_nil] at O) | (with_reducible refine ca_id ?_); (first | refine O.ca 0 1 rfl ?_ | refine O.ca 0 2 rfl ?_ | refine O.ca 1 1 rfl ?_ | refine O.ca 1 2 rfl ?_ | refine O.ca 2 1 rfl ?_ | refine O.ca 2 2 rfl ?_ | refine O.ca 3 1 rfl ?_ | refine O.ca 3 2 rfl ?_ | refine O.ca 4 1 rfl ?_ | refine O.ca 4 2 rfl ?_ | refine O.ca 5 1 rfl ?_ | refine O.ca 5 2 rfl ?_ | refine O.ca 6 1 rfl ?_ | refine O.ca 6 2 rfl ?_ | refine O.ca 7 1 rfl ?_ | refine O.ca 7 2 rfl ?_ | refine O.ca 8 1 rfl ?_ | refine O.ca 8 2 rfl ?_ | refine O.ca 9 1 rfl ?_ | refine O.ca 9 2 rfl ?_))
      refine hj37 _ _ ⟨r2, ok2, by omega, ?_⟩
      rw [show r2.te = d.te by rw [a3, a1], show r2.ts = d.ts by rw [a4, a2]]
      exact O.sel [2, 8, 9] 10 rfl (Nat.le_add_left _ _)
    · intro j hj
      repeat (first | (with_reducible refine al_id ?_); refine O.al fun _ h O => ?_ | (with_reducible refine nn_id ?_); refine ⟨_, rfl, ?_⟩ | (with_reducible refine ld_id ?_); (first | refine O.ld 0 rfl ?_ | refine O.ld 1 rfl ?_ | refine O.ld 2 rfl ?_ | refine O.ld 3 rfl ?_ | refine O.ld 4 rfl ?_ | refine O.ld 5 rfl ?_ | refine O.ld 6 rfl ?_ | refine O.ld 7 rfl ?_ | refine O.ld 8 rfl ?_ | refine O.ld 9 rfl ?_); (repeat (first | (with_reducible refine ldL_n ?_) | refine ldL_s ?_ | refine ldL_c ?_)) | (with_reducible refine st_ad (by first | (with_reducible rfl) | (simp only [pt_add, Nat.zero_add, Nat.add_zero, Nat.reduceAdd]; with_reducible rfl)) ?_); (first | refine O.st 0 rfl (by simp) rfl fun h O => ?_ | refine O.st 1 rfl (by simp) rfl fun h O => ?_ | refine O.st 2 rfl (by simp) rfl fun h O => ?_ | refine O.st 3 rfl (by simp) rfl fun h O => ?_ | refine O.st 4 rfl (by simp) rfl fun h O => ?_ | refine O.st 5 rfl (by simp) rfl fun h O => ?_ | refine O.st 6 rfl (by simp) rfl fun h O => ?_ | refine O.st 7 rfl (by simp) rfl fun h O => ?_ | refine O.st 8 rfl (by simp) rfl fun h O => ?_ | refine O.st 9 rfl (by simp) rfl fun h O => ?_); (dsimp only [V.put, List.set, List.length_cons, List.length_nil] at O) | (with_reducible refine ca_id ?_); (first | refine O.ca 0 1 rfl ?_ | refine O.ca 0 2 rfl ?_ | refine O.ca 1 1 rfl ?_ | refine O.ca 1 2 rfl ?_ | refine O.ca 2 1 rfl ?_ | refine O.ca 2 2 rfl ?_ | refine O.ca 3 1 rfl ?_ | refine O.ca 3 2 rfl ?_ | refine O.ca 4 1 rfl ?_ | refine O.ca 4 2 rfl ?_ | refine O.ca 5 1 rfl ?_ | refine O.ca 5 2 rfl ?_ | refine O.ca 6 1 rfl ?_ | refine O.ca 6 2 rfl ?_ | refine O.ca 7 1 rfl ?_ | refine O.ca 7 2 rfl ?_ | refine O.ca 8 1 rfl ?_ | refine O.ca 8 2 rfl ?_ | refine O.ca 9 1 rfl ?_ | refine O.ca 9 2 rfl ?_))
      refine F_law9_less.is O fun h O => ?_
      refine brr_ff (decide_eq_false (by rw [a1, a2]; exact a5)) ?_
      repeat (first | (with_reducible refine al_id ?_); refine O.al fun _ h O => ?_ | (with_reducible refine nn_id ?_); refine ⟨_, rfl, ?_⟩ | (with_reducible refine ld_id ?_); (first | refine O.ld 0 rfl ?_ | refine O.ld 1 rfl ?_ | refine O.ld 2 rfl ?_ | refine O.ld 3 rfl ?_ | refine O.ld 4 rfl ?_ | refine O.ld 5 rfl ?_ | refine O.ld 6 rfl ?_ | refine O.ld 7 rfl ?_ | refine O.ld 8 rfl ?_ | refine O.ld 9 rfl ?_); (repeat (first | (with_reducible refine ldL_n ?_) | refine ldL_s ?_ | refine ldL_c ?_)) | (with_reducible refine st_ad (by first | (with_reducible rfl) | (simp only [pt_add, Nat.zero_add, Nat.add_zero, Nat.reduceAdd]; with_reducible rfl)) ?_); (first | refine O.st 0 rfl (by simp) rfl fun h O => ?_ | refine O.st 1 rfl (by simp) rfl fun h O => ?_ | refine O.st 2 rfl (by simp) rfl fun h O => ?_ | refine O.st 3 rfl (by simp) rfl fun h O => ?_ | refine O.st 4 rfl (by simp) rfl fun h O => ?_ | refine O.st 5 rfl (by simp) rfl fun h O => ?_ | refine O.st 6 rfl (by simp) rfl fun h O => ?_ | refine O.st 7 rfl (by simp) rfl fun h O => ?_ | refine O.st 8 rfl (by simp) rfl fun h O => ?_ | refine O.st 9 rfl (by simp) rfl fun h O => ?_); (dsimp only [V.put, List.set, List.length_cons, List.length_nil] at O) | (with_reducible refine ca_id ?_); (first | refine O.ca 0 1 rfl ?_ | refine O.ca 0 2 rfl ?_ | refine O.ca 1 1 rfl ?_ | refine O.ca 1 2 rfl ?_ | refine O.ca 2 1 rfl ?_ | refine O.ca 2 2 rfl ?_ | refine O.ca 3 1 rfl ?_ | refine O.ca 3 2 rfl ?_ | refine O.ca 4 1 rfl ?_ | refine O.ca 4 2 rfl ?_ | refine O.ca 5 1 rfl ?_ | refine O.ca 5 2 rfl ?_ | refine O.ca 6 1 rfl ?_ | refine O.ca 6 2 rfl ?_ | refine O.ca 7 1 rfl ?_ | refine O.ca 7 2 rfl ?_ | refine O.ca 8 1 rfl ?_ | refine O.ca 8 2 rfl ?_ | refine O.ca 9 1 rfl ?_ | refine O.ca 9 2 rfl ?_))
      refine brr_ff (by simp [a1, a2]) ?_
      repeat (first | (with_reducible refine al_id ?_); refine O.al fun _ h O => ?_ | (with_reducible refine nn_id ?_); refine ⟨_, rfl, ?_⟩ | (with_reducible refine ld_id ?_); (first | refine O.ld 0 rfl ?_ | refine O.ld 1 rfl ?_ | refine O.ld 2 rfl ?_ | refine O.ld 3 rfl ?_ | refine O.ld 4 rfl ?_ | refine O.ld 5 rfl ?_ | refine O.ld 6 rfl ?_ | refine O.ld 7 rfl ?_ | refine O.ld 8 rfl ?_ | refine O.ld 9 rfl ?_); (repeat (first | (with_reducible refine ldL_n ?_) | refine ldL_s ?_ | refine ldL_c ?_)) | (with_reducible refine st_ad (by first | (with_reducible rfl) | (simp only [pt_add, Nat.zero_add, Nat.add_zero, Nat.reduceAdd]; with_reducible rfl)) ?_); (first | refine O.st 0 rfl (by simp) rfl fun h O => ?_ | refine O.st 1 rfl (by simp) rfl fun h O => ?_ | refine O.st 2 rfl (by simp) rfl fun h O => ?_ | refine O.st 3 rfl (by simp) rfl fun h O => ?_ | refine O.st 4 rfl (by simp) rfl fun h O => ?_ | refine O.st 5 rfl (by simp) rfl fun h O => ?_ | refine O.st 6 rfl (by simp) rfl fun h O => ?_ | refine O.st 7 rfl (by simp) rfl fun h O => ?_ | refine O.st 8 rfl (by simp) rfl fun h O => ?_ | refine O.st 9 rfl (by simp) rfl fun h O => ?_); (dsimp only [V.put, List.set, List.length_cons, List.length_nil] at O) | (with_reducible refine ca_id ?_); (first | refine O.ca 0 1 rfl ?_ | refine O.ca 0 2 rfl ?_ | refine O.ca 1 1 rfl ?_ | refine O.ca 1 2 rfl ?_ | refine O.ca 2 1 rfl ?_ | refine O.ca 2 2 rfl ?_ | refine O.ca 3 1 rfl ?_ | refine O.ca 3 2 rfl ?_ | refine O.ca 4 1 rfl ?_ | refine O.ca 4 2 rfl ?_ | refine O.ca 5 1 rfl ?_ | refine O.ca 5 2 rfl ?_ | refine O.ca 6 1 rfl ?_ | refine O.ca 6 2 rfl ?_ | refine O.ca 7 1 rfl ?_ | refine O.ca 7 2 rfl ?_ | refine O.ca 8 1 rfl ?_ | refine O.ca 8 2 rfl ?_ | refine O.ca 9 1 rfl ?_ | refine O.ca 9 2 rfl ?_))
      exact hj _ _ ⟨by simp [a3, a4], O⟩
  · exact out (by omega) (fe.ko h5) O
end Go.Proofs.Ytcbelendjpnmiaa.V
/- Two majorities meet: the plain law of ReplicaMeets. -/
namespace Go.Proofs.Ytcbelendjpnmiaa.V
open Go Go.RowKit
set_option linter.unusedVariables false
set_option linter.unusedSimpArgs false
abbrev Tg := Int × Int
def tle (a b : Tg) : Prop := ¬ tagLt b.1 b.2 a.1 a.2
theorem tle_refl (a : Tg) : tle a a := tagLt_irr
theorem tle_trans {a b c : Tg} (h1 : tle a b) (h2 : tle b c) : tle a c := by unfold tle tagLt at *; omega
theorem tle_of {a b : Tg} (h : tagLt a.1 a.2 b.1 b.2) : tle a b := by unfold tle; unfold tagLt at *; omega
abbrev RX := Nat × RS
abbrev RW := Sl × List Bool
def RS.tag (r : RS) : Tg := (r.te, r.ts)
structure MM where
  rs : List RX
  told : List Tg
  seen : List Tg
  ws : List RW
  eps : List Int
  fs : List RW
  wth : List Tg
structure MM.Ok (n : Nat) (M : MM) : Prop where
  nrs : M.rs.length = n
  nto : M.told.length = n
  nws : M.ws.length = M.seen.length
  nfs : M.fs.length = M.eps.length
  nwt : M.wth.length = M.eps.length
  lw : ∀ (i : Nat) w, M.ws[i]? = some w → w.2.length = n
  lf : ∀ (i : Nat) w, M.fs[i]? = some w → w.2.length = n
  rok : ∀ (c : Nat) x, M.rs[c]? = some x → x.2.Ok
  i1 : ∀ (c : Nat) x t, M.rs[c]? = some x → M.told[c]? = some t → tle t x.2.tag
  i2 : ∀ (i : Nat) w t (c : Nat) x, M.ws[i]? = some w → M.seen[i]? = some t → w.2[c]? = some true → M.rs[c]? = some x → tle t x.2.tag
  i3 : ∀ (k : Nat) f e (c : Nat) x, M.fs[k]? = some f → M.eps[k]? = some e → f.2[c]? = some true → M.rs[c]? = some x → e ≤ x.2.prom
  i4 : ∀ (i k : Nat) w f t e u (c : Nat), M.ws[i]? = some w → M.fs[k]? = some f → M.seen[i]? = some t → M.eps[k]? = some e → M.wth[k]? = some u → w.2[c]? = some true → f.2[c]? = some true → t.1 < e → tle t u
theorem set_cases {α : Type} {l : List α} {i j : Nat} {a b : α} (h : (l.set i a)[j]? = some b) : (j = i ∧ b = a ∧ i < l.length) ∨ (j ≠ i ∧ l[j]? = some b) := by
  by_cases q : i = j
  · subst q
    rw [List.getElem?_set] at h
    simp at h
    exact .inl ⟨rfl, h.2.symm, h.1⟩
  · rw [List.getElem?_set_ne q] at h
    exact .inr ⟨fun e => q e.symm, h⟩
theorem app_cases {α : Type} {l : List α} {j : Nat} {a b : α} (h : (l ++ [a])[j]? = some b) : (j = l.length ∧ b = a) ∨ (j < l.length ∧ l[j]? = some b) := by
  by_cases q : j < l.length
  · rw [List.getElem?_append_left q] at h
    exact .inr ⟨q, h⟩
  · rw [List.getElem?_append_right (by omega)] at h
    by_cases q2 : j - l.length = 0
    · rw [q2] at h
      exact .inl ⟨by omega, (Option.some.inj h).symm⟩
    · rw [List.getElem?_eq_none (by simp; omega)] at h
      cases h
theorem rep_false {n c : Nat} : (List.replicate n false)[c]? ≠ some true := by
  rw [List.getElem?_replicate]
  split <;> simp
variable {n : Nat} {M : MM}
theorem MM.Ok.rep (O : M.Ok n) {c p : Nat} {r r2 : RS} (hx : M.rs[c]? = some (p, r)) (h1 : r.prom ≤ r2.prom) (h2 : tle r.tag r2.tag) (ok2 : r2.Ok) : MM.Ok n { M with rs := M.rs.set c (p, r2) } where
  nrs := by show (M.rs.set c _).length = n; rw [List.length_set]; exact O.nrs
  nto := O.nto
  nws := O.nws
  nfs := O.nfs
  nwt := O.nwt
  lw := O.lw
  lf := O.lf
  rok := fun d x hd => by
    rcases set_cases hd with ⟨_, rfl, _⟩ | ⟨_, q⟩
    · exact ok2
    · exact O.rok d x q
  i1 := fun d x t hd ht => by
    rcases set_cases hd with ⟨rfl, rfl, _⟩ | ⟨_, q⟩
    · exact tle_trans (O.i1 d _ t hx ht) h2
    · exact O.i1 d x t q ht
  i2 := fun i w t d x hw ht hb hd => by
    rcases set_cases hd with ⟨rfl, rfl, _⟩ | ⟨_, q⟩
    · exact tle_trans (O.i2 i w t d _ hw ht hb hx) h2
    · exact O.i2 i w t d x hw ht hb q
  i3 := fun k f e d x hw ht hb hd => by
    rcases set_cases hd with ⟨rfl, rfl, _⟩ | ⟨_, q⟩
    · exact Int.le_trans (O.i3 k f e d _ hw ht hb hx) h1
    · exact O.i3 k f e d x hw ht hb q
  i4 := O.i4
theorem MM.Ok.tell (O : M.Ok n) {c : Nat} {x : RX} {t : Tg} (hx : M.rs[c]? = some x) (ht : tle t x.2.tag) : MM.Ok n { M with told := M.told.set c t } where
  nrs := O.nrs
  nto := by show (M.told.set c _).length = n; rw [List.length_set]; exact O.nto
  nws := O.nws
  nfs := O.nfs
  nwt := O.nwt
  lw := O.lw
  lf := O.lf
  rok := O.rok
  i1 := fun d y u hd hu => by
    rcases set_cases hu with ⟨rfl, rfl, _⟩ | ⟨_, q⟩
    · rw [hx] at hd; cases hd; exact ht
    · exact O.i1 d y u hd q
  i2 := O.i2
  i3 := O.i3
  i4 := O.i4
theorem MM.Ok.see (O : M.Ok n) (t : Tg) (s : Sl) : MM.Ok n { M with seen := M.seen ++ [t], ws := M.ws ++ [(s, List.replicate n false)] } where
  nrs := O.nrs
  nto := O.nto
  nws := by show (M.ws ++ _).length = (M.seen ++ _).length; rw [List.length_append, List.length_append, O.nws]; rfl
  nfs := O.nfs
  nwt := O.nwt
  lw := fun i w hw => by
    rcases app_cases hw with ⟨_, rfl⟩ | ⟨_, q⟩
    · exact List.length_replicate
    · exact O.lw i w q
  lf := O.lf
  rok := O.rok
  i1 := O.i1
  i2 := fun i w u d y hw hu hb hd => by
    rcases app_cases hw with ⟨_, rfl⟩ | ⟨q1, q⟩
    · exact absurd hb rep_false
    · rcases app_cases hu with ⟨q2, _⟩ | ⟨_, q2⟩
      · have := O.nws; omega
      · exact O.i2 i w u d y q q2 hb hd
  i3 := O.i3
  i4 := fun i k w f u e v d hw hf hu he hv hb hc hlt => by
    rcases app_cases hw with ⟨_, rfl⟩ | ⟨q1, q⟩
    · exact absurd hb rep_false
    · rcases app_cases hu with ⟨q2, _⟩ | ⟨_, q2⟩
      · have := O.nws; omega
      · exact O.i4 i k w f u e v d q hf q2 he hv hb hc hlt
theorem MM.Ok.wrote (O : M.Ok n) {i c : Nat} {w : RW} {t : Tg} {x : RX} (hw : M.ws[i]? = some w) (ht : M.seen[i]? = some t) (hx : M.rs[c]? = some x) (h1 : tle t x.2.tag)
    (h2 : ∀ (k : Nat) f e, M.fs[k]? = some f → M.eps[k]? = some e → f.2[c]? = some true → e ≤ t.1) : MM.Ok n { M with ws := M.ws.set i (w.1, w.2.set c true) } where
  nrs := O.nrs
  nto := O.nto
  nws := by show (M.ws.set i _).length = _; rw [List.length_set]; exact O.nws
  nfs := O.nfs
  nwt := O.nwt
  lw := fun j v hv => by
    rcases set_cases hv with ⟨rfl, rfl, _⟩ | ⟨_, q⟩
    · show (w.2.set c true).length = n; rw [List.length_set]; exact O.lw _ _ hw
    · exact O.lw j v q
  lf := O.lf
  rok := O.rok
  i1 := O.i1
  i2 := fun j v u d y hv hu hb hd => by
    rcases set_cases hv with ⟨rfl, rfl, _⟩ | ⟨_, q⟩
    · have hb : (w.2.set c true)[d]? = some true := hb
      rcases set_cases hb with ⟨rfl, _, _⟩ | ⟨_, q⟩
      · rw [hx] at hd; cases hd
        rw [ht] at hu; cases hu
        exact h1
      · exact O.i2 _ w u d y hw hu q hd
    · exact O.i2 j v u d y q hu hb hd
  i3 := O.i3
  i4 := fun j k v f u e z d hv hf hu he hz hb hc hlt => by
    rcases set_cases hv with ⟨rfl, rfl, _⟩ | ⟨_, q⟩
    · have hb : (w.2.set c true)[d]? = some true := hb
      rcases set_cases hb with ⟨rfl, _, _⟩ | ⟨_, q⟩
      · rw [ht] at hu; cases hu
        have := h2 k f e hf he hc
        omega
      · exact O.i4 _ k w f u e z d hw hf hu he hz q hc hlt
    · exact O.i4 j k v f u e z d q hf hu he hz hb hc hlt
theorem MM.Ok.epoch (O : M.Ok n) (e : Int) (s : Sl) (t : Tg) : MM.Ok n { M with eps := M.eps ++ [e], fs := M.fs ++ [(s, List.replicate n false)], wth := M.wth ++ [t] } where
  nrs := O.nrs
  nto := O.nto
  nws := O.nws
  nfs := by show (M.fs ++ _).length = (M.eps ++ _).length; rw [List.length_append, List.length_append, O.nfs]; rfl
  nwt := by show (M.wth ++ _).length = (M.eps ++ _).length; rw [List.length_append, List.length_append, O.nwt]; rfl
  lw := O.lw
  lf := fun i w hw => by
    rcases app_cases hw with ⟨_, rfl⟩ | ⟨_, q⟩
    · exact List.length_replicate
    · exact O.lf i w q
  rok := O.rok
  i1 := O.i1
  i2 := O.i2
  i3 := fun k f u d y hf hu hb hd => by
    rcases app_cases hf with ⟨_, rfl⟩ | ⟨q1, q⟩
    · exact absurd hb rep_false
    · rcases app_cases hu with ⟨q2, _⟩ | ⟨_, q2⟩
      · have := O.nfs; omega
      · exact O.i3 k f u d y q q2 hb hd
  i4 := fun i k w f u e v d hw hf hu he hv hb hc hlt => by
    rcases app_cases hf with ⟨_, rfl⟩ | ⟨q1, q⟩
    · exact absurd hc rep_false
    · rcases app_cases he with ⟨q2, _⟩ | ⟨_, q2⟩
      · have := O.nfs; omega
      · rcases app_cases hv with ⟨q3, _⟩ | ⟨_, q3⟩
        · have := O.nfs; have := O.nwt; omega
        · exact O.i4 i k w f u e v d hw q hu q2 q3 hb hc hlt
theorem MM.Ok.promised (O : M.Ok n) {k c : Nat} {f : RW} {e : Int} {u u2 : Tg} {x : RX} (hf : M.fs[k]? = some f) (he : M.eps[k]? = some e) (hu : M.wth[k]? = some u) (hx : M.rs[c]? = some x) (h1 : e ≤ x.2.prom) (h2 : tle u u2) (h3 : tle x.2.tag u2) :
    MM.Ok n { M with fs := M.fs.set k (f.1, f.2.set c true), wth := M.wth.set k u2 } where
  nrs := O.nrs
  nto := O.nto
  nws := O.nws
  nfs := by show (M.fs.set k _).length = _; rw [List.length_set]; exact O.nfs
  nwt := by show (M.wth.set k _).length = _; rw [List.length_set]; exact O.nwt
  lw := O.lw
  lf := fun j v hv => by
    rcases set_cases hv with ⟨rfl, rfl, _⟩ | ⟨_, q⟩
    · show (f.2.set c true).length = n; rw [List.length_set]; exact O.lf _ _ hf
    · exact O.lf j v q
  rok := O.rok
  i1 := O.i1
  i2 := O.i2
  i3 := fun j v z d y hv hz hb hd => by
    rcases set_cases hv with ⟨rfl, rfl, _⟩ | ⟨_, q⟩
    · rw [he] at hz; cases hz
      have hb : (f.2.set c true)[d]? = some true := hb
      rcases set_cases hb with ⟨rfl, _, _⟩ | ⟨_, q⟩
      · rw [hx] at hd; cases hd
        exact h1
      · exact O.i3 _ f e d y hf he q hd
    · exact O.i3 j v z d y q hz hb hd
  i4 := fun i j w v t z y d hw hv ht hz hy hb hc hlt => by
    rcases set_cases hv with ⟨rfl, rfl, _⟩ | ⟨hne, q⟩
    · rw [he] at hz; cases hz
      have hy2 : y = u2 := by
        rcases set_cases hy with ⟨_, q, _⟩ | ⟨q, _⟩
        · exact q
        · exact absurd rfl q
      subst hy2
      have hc : (f.2.set c true)[d]? = some true := hc
      rcases set_cases hc with ⟨rfl, _, _⟩ | ⟨_, q⟩
      · exact tle_trans (O.i2 i w t d x hw ht hb hx) h3
      · exact tle_trans (O.i4 i _ w f t e u d hw hf ht he hu hb q hlt) h2
    · rcases set_cases hy with ⟨q2, _, _⟩ | ⟨_, q2⟩
      · exact absurd q2 hne
      · exact O.i4 i j w v t z y d hw q ht hz q2 hb hc hlt
def cnt (l : List Bool) : Nat := l.countP id
theorem cnt_le (l : List Bool) : cnt l ≤ l.length := List.countP_le_length
theorem meet_cnt : ∀ (a b : List Bool), a.length = b.length → a.length < cnt a + cnt b → ∃ c : Nat, a[c]? = some true ∧ b[c]? = some true
  | [], b, _, h => by cases b with
    | nil => simp [cnt] at h
    | cons y b => simp at *
  | x :: a, [], e, _ => by simp at e
  | x :: a, y :: b, e, h => by
    have e : a.length = b.length := by simpa using e
    by_cases q : x = true ∧ y = true
    · exact ⟨0, by rw [q.1]; rfl, by rw [q.2]; rfl⟩
    · have h2 : cnt (x :: a) + cnt (y :: b) ≤ cnt a + cnt b + 1 := by
        unfold cnt
        rw [List.countP_cons, List.countP_cons]
        cases x <;> cases y <;> simp_all <;> omega
      obtain ⟨c, p1, p2⟩ := meet_cnt a b e (by simp at h; omega)
      exact ⟨c + 1, p1, p2⟩
theorem MM.Ok.meet (O : M.Ok n) {i k : Nat} {w f : RW} {t u : Tg} {e : Int} (hw : M.ws[i]? = some w) (hf : M.fs[k]? = some f) (ht : M.seen[i]? = some t) (he : M.eps[k]? = some e) (hu : M.wth[k]? = some u)
    (h1 : n < 2 * cnt w.2) (h2 : n < 2 * cnt f.2) (hlt : t.1 < e) : ¬ tagLt u.1 u.2 t.1 t.2 := by
  have l1 := O.lw i w hw
  have l2 := O.lf k f hf
  obtain ⟨c, p1, p2⟩ := meet_cnt w.2 f.2 (by omega) (by omega)
  exact O.i4 i k w f t e u c hw hf ht he hu p1 p2 hlt
end Go.Proofs.Ytcbelendjpnmiaa.V
/- The document's replica: Hear. -/
namespace Go.Proofs.Ytcbelendjpnmiaa.V
open Go Go.RowKit
set_option linter.unusedVariables false
set_option linter.unusedSimpArgs false
def ansC (m : Mg) : List Value := [.int .i64 0, .int .i64 m.to, .int .i64 m.frm, .int .i64 m.shard, .int .u64 0, .int .u64 0, .int .u64 0, .int .u64 0, .int .i64 0, .int .u64 0, .slice none 0 0, .int .i64 0, .int .u64 0, .string (⟨#[]⟩ : ByteArray), .string (⟨#[]⟩ : ByteArray), .int .u64 0, .int .u64 0, .int .u64 0, .int .i64 0, .int .i64 0, .int .i64 0, .int .i64 0]
section
variable {h0 h : Heap} {L : List Res}
theorem F_ref9_Replica_Hear.is {p : Nat} {r : RS} {m : Mg} {Q : Int → Int → Int → Int → Int → Int → Int → Int → Int → Int → Sl → Int → Int → ByteArray → ByteArray → Int → Int → Int → Int → Int → Int → Int → Bool → Bool → Bool → Heap → Prop} (ok : r.Ok) (V1 : Stays h0 L fun h => Bytes h m.v m.b) (hb : m.b.length ≤ (140737488355325 : Nat)) (O : Sat h0 h (repR p r :: L)) (k : ∀ s h', Sat h0 h' (buf 1 u8 s (hearS r m).2.val :: repR p (hearS r m).1 :: L) → Q (hearS r m).2.kind (hearS r m).2.frm (hearS r m).2.to (hearS r m).2.shard (hearS r m).2.epoch (hearS r m).2.te (hearS r m).2.ts (hearS r m).2.round 0 (hearS r m).2.seen s 0 0 ⟨#[]⟩ ⟨#[]⟩ 0 0 0 0 0 0 0 (hearS r m).2.ans (hearS r m).2.tak (hearS r m).2.chg h') : F_ref9_Replica_Hear (some (pt p 0)) m.kind m.frm m.to m.shard m.epoch m.te m.ts m.round m.span m.seen m.v m.peer m.num m.name m.other m.amount m.life m.id m.op m.client m.state m.bad h Q := by
  rw [F_ref9_Replica_Hear.eq_1, F_ref9_Replica_Hear_of.eq_1]
  refine O.al fun x24 h O => ?_
  refine O.al fun x26 h O => ?_
  refine O.ld 1 rfl (ldL_c (ldL_n ?_))
  refine O.ld 1 rfl (ldL_c (ldL_n ?_))
  refine O.ld 1 rfl (ldL_c (ldL_n ?_))
  refine O.al fun x31 h O => ?_
  repeat (first | (with_reducible refine al_id ?_); refine O.al fun _ h O => ?_ | (with_reducible refine nn_id ?_); refine ⟨_, rfl, ?_⟩ | (with_reducible refine ld_id ?_); (first | refine O.ld 0 rfl ?_); (repeat (first | (with_reducible refine ldL_n ?_) | refine ldL_s ?_ | refine ldL_c ?_)) | (with_reducible refine st_ad (by first | (with_reducible rfl) | (simp only [pt_add, Nat.zero_add, Nat.add_zero, Nat.reduceAdd]; with_reducible rfl)) ?_); (first | refine O.st 0 rfl (by simp) rfl fun h O => ?_); (dsimp only [V.put, List.set, List.length_cons, List.length_nil] at O) | (with_reducible refine ca_id ?_); (first | refine O.ca 0 1 rfl ?_ | refine O.ca 0 2 rfl ?_))
  replace O := O.sel [3, 0, 1, 2] 4 rfl (Nat.le_add_left _ _)
  simp only [selT, List.map, nth, List.drop, List.cons_append, List.nil_append] at O
  refine F_ref9_Replica_Stored.is ok O fun s h O => ?_
  refine O.al fun x39 h O => ?_
  repeat (first | (with_reducible refine al_id ?_); refine O.al fun _ h O => ?_ | (with_reducible refine nn_id ?_); refine ⟨_, rfl, ?_⟩ | (with_reducible refine ld_id ?_); (first | refine O.ld 0 rfl ?_ | refine O.ld 1 rfl ?_ | refine O.ld 2 rfl ?_ | refine O.ld 3 rfl ?_ | refine O.ld 4 rfl ?_ | refine O.ld 5 rfl ?_); (repeat (first | (with_reducible refine ldL_n ?_) | refine ldL_s ?_ | refine ldL_c ?_)) | (with_reducible refine st_ad (by first | (with_reducible rfl) | (simp only [pt_add, Nat.zero_add, Nat.add_zero, Nat.reduceAdd]; with_reducible rfl)) ?_); (first | refine O.st 0 rfl (by simp) rfl fun h O => ?_ | refine O.st 1 rfl (by simp) rfl fun h O => ?_ | refine O.st 2 rfl (by simp) rfl fun h O => ?_ | refine O.st 3 rfl (by simp) rfl fun h O => ?_ | refine O.st 4 rfl (by simp) rfl fun h O => ?_ | refine O.st 5 rfl (by simp) rfl fun h O => ?_); (dsimp only [V.put, List.set, List.length_cons, List.length_nil] at O) | (with_reducible refine ca_id ?_); (first | refine O.ca 0 1 rfl ?_ | refine O.ca 0 2 rfl ?_ | refine O.ca 1 1 rfl ?_ | refine O.ca 1 2 rfl ?_ | refine O.ca 2 1 rfl ?_ | refine O.ca 2 2 rfl ?_ | refine O.ca 3 1 rfl ?_ | refine O.ca 3 2 rfl ?_ | refine O.ca 4 1 rfl ?_ | refine O.ca 4 2 rfl ?_ | refine O.ca 5 1 rfl ?_ | refine O.ca 5 2 rfl ?_))
  -- own x39, buf s, repR p, own x31, own x26, own x24
  refine brr_eq (fun k1 => ?_) (fun k1 => ?_)
  · have e0 : hearS r m = ((prep r m).1, (prep r m).2.seal m) := by unfold hearS act; rw [if_pos k1]
    refine jn1 (fun z h' => h' = h ∧ z = decide (m.epoch < r.prom ∨ (r.prom < m.epoch ∧ 0 < r.wait))) ?_ ?_
    · rintro z h ⟨rfl, rfl⟩
      refine brr_p (fun hc => ?_) (fun hc => ?_)
      · have e : hearS r m = (r, (refusal r m.epoch).seal m) := by rw [e0]; unfold prep; rw [if_pos hc]
        rw [e] at k
        repeat (first | (with_reducible refine al_id ?_); refine O.al fun _ h O => ?_ | (with_reducible refine nn_id ?_); refine ⟨_, rfl, ?_⟩ | (with_reducible refine ld_id ?_); (first | refine O.ld 0 rfl ?_ | refine O.ld 1 rfl ?_ | refine O.ld 2 rfl ?_ | refine O.ld 3 rfl ?_ | refine O.ld 4 rfl ?_ | refine O.ld 5 rfl ?_); (repeat (first | (with_reducible refine ldL_n ?_) | refine ldL_s ?_ | refine ldL_c ?_)) | (with_reducible refine st_ad (by first | (with_reducible rfl) | (simp only [pt_add, Nat.zero_add, Nat.add_zero, Nat.reduceAdd]; with_reducible rfl)) ?_); (first | refine O.st 0 rfl (by simp) rfl fun h O => ?_ | refine O.st 1 rfl (by simp) rfl fun h O => ?_ | refine O.st 2 rfl (by simp) rfl fun h O => ?_ | refine O.st 3 rfl (by simp) rfl fun h O => ?_ | refine O.st 4 rfl (by simp) rfl fun h O => ?_ | refine O.st 5 rfl (by simp) rfl fun h O => ?_); (dsimp only [V.put, List.set, List.length_cons, List.length_nil] at O) | (with_reducible refine ca_id ?_); (first | refine O.ca 0 1 rfl ?_ | refine O.ca 0 2 rfl ?_ | refine O.ca 1 1 rfl ?_ | refine O.ca 1 2 rfl ?_ | refine O.ca 2 1 rfl ?_ | refine O.ca 2 2 rfl ?_ | refine O.ca 3 1 rfl ?_ | refine O.ca 3 2 rfl ?_ | refine O.ca 4 1 rfl ?_ | refine O.ca 4 2 rfl ?_ | refine O.ca 5 1 rfl ?_ | refine O.ca 5 2 rfl ?_))
        replace O := O.sel [2, 0, 1, 3, 4, 5] 6 rfl (Nat.le_add_left _ _)
        simp only [selT, List.map, nth, List.drop, List.cons_append, List.nil_append] at O
        refine F_ref9_Replica_refuse.is O fun h O => ?_
        repeat (first | (with_reducible refine al_id ?_); refine O.al fun _ h O => ?_ | (with_reducible refine nn_id ?_); refine ⟨_, rfl, ?_⟩ | (with_reducible refine ld_id ?_); (first | refine O.ld 0 rfl ?_ | refine O.ld 1 rfl ?_ | refine O.ld 2 rfl ?_ | refine O.ld 3 rfl ?_ | refine O.ld 4 rfl ?_ | refine O.ld 5 rfl ?_); (repeat (first | (with_reducible refine ldL_n ?_) | refine ldL_s ?_ | refine ldL_c ?_)) | (with_reducible refine st_ad (by first | (with_reducible rfl) | (simp only [pt_add, Nat.zero_add, Nat.add_zero, Nat.reduceAdd]; with_reducible rfl)) ?_); (first | refine O.st 0 rfl (by simp) rfl fun h O => ?_ | refine O.st 1 rfl (by simp) rfl fun h O => ?_ | refine O.st 2 rfl (by simp) rfl fun h O => ?_ | refine O.st 3 rfl (by simp) rfl fun h O => ?_ | refine O.st 4 rfl (by simp) rfl fun h O => ?_ | refine O.st 5 rfl (by simp) rfl fun h O => ?_); (dsimp only [V.put, List.set, List.length_cons, List.length_nil] at O) | (with_reducible refine ca_id ?_); (first | refine O.ca 0 1 rfl ?_ | refine O.ca 0 2 rfl ?_ | refine O.ca 1 1 rfl ?_ | refine O.ca 1 2 rfl ?_ | refine O.ca 2 1 rfl ?_ | refine O.ca 2 2 rfl ?_ | refine O.ca 3 1 rfl ?_ | refine O.ca 3 2 rfl ?_ | refine O.ca 4 1 rfl ?_ | refine O.ca 4 2 rfl ?_ | refine O.ca 5 1 rfl ?_ | refine O.ca 5 2 rfl ?_))
        exact k _ _ (O.sel [0] 6 rfl (Nat.le_add_left _ _)).nil_buf
      · have e : hearS r m = ({ r with prom := m.epoch }, HD.seal { hd0 with kind := 2, epoch := m.epoch, te := r.te, ts := r.ts, val := r.val, chg := r.prom != m.epoch } m) := by rw [e0]; unfold prep; rw [if_neg hc]
        rw [e] at k
        replace O := O.sel [2, 0, 1, 3, 4, 5] 6 rfl (Nat.le_add_left _ _)
        simp only [selT, List.map, nth, List.drop, List.cons_append, List.nil_append] at O
        obtain ⟨v, O⟩ := O.rep
        repeat (first | (with_reducible refine al_id ?_); refine O.al fun _ h O => ?_ | (with_reducible refine nn_id ?_); refine ⟨_, rfl, ?_⟩ | (with_reducible refine ld_id ?_); (first | refine O.ld 0 rfl ?_ | refine O.ld 1 rfl ?_ | refine O.ld 2 rfl ?_ | refine O.ld 3 rfl ?_ | refine O.ld 4 rfl ?_ | refine O.ld 5 rfl ?_ | refine O.ld 6 rfl ?_); (repeat (first | (with_reducible refine ldL_n ?_) | refine ldL_s ?_ | refine ldL_c ?_)) | (with_reducible refine st_ad (by first | (with_reducible rfl) | (simp only [pt_add, Nat.zero_add, Nat.add_zero, Nat.reduceAdd]; with_reducible rfl)) ?_); (first | refine O.st 0 rfl (by simp) rfl fun h O => ?_ | refine O.st 1 rfl (by simp) rfl fun h O => ?_ | refine O.st 2 rfl (by simp) rfl fun h O => ?_ | refine O.st 3 rfl (by simp) rfl fun h O => ?_ | refine O.st 4 rfl (by simp) rfl fun h O => ?_ | refine O.st 5 rfl (by simp) rfl fun h O => ?_ | refine O.st 6 rfl (by simp) rfl fun h O => ?_); (dsimp only [V.put, List.set, List.length_cons, List.length_nil] at O) | (with_reducible refine ca_id ?_); (first | refine O.ca 0 1 rfl ?_ | refine O.ca 0 2 rfl ?_ | refine O.ca 1 1 rfl ?_ | refine O.ca 1 2 rfl ?_ | refine O.ca 2 1 rfl ?_ | refine O.ca 2 2 rfl ?_ | refine O.ca 3 1 rfl ?_ | refine O.ca 3 2 rfl ?_ | refine O.ca 4 1 rfl ?_ | refine O.ca 4 2 rfl ?_ | refine O.ca 5 1 rfl ?_ | refine O.ca 5 2 rfl ?_ | refine O.ca 6 1 rfl ?_ | refine O.ca 6 2 rfl ?_))
        rw [show (m.epoch != r.prom) = (r.prom != m.epoch) from by rw [Bool.eq_iff_iff]; simp; omega]
        exact k _ _ (Sat.repI (s := v) (O.sel [0, 1, 3] 7 rfl (Nat.le_add_left _ _))).swap
    · intro j hj
      have O1 := (O.sel [2, 0, 1, 3, 4, 5] 6 rfl (Nat.le_add_left _ _))
      simp only [selT, List.map, nth, List.drop, List.cons_append, List.nil_append] at O1
      obtain ⟨v, O1⟩ := O1.rep
      replace O := O1
      repeat (first | (with_reducible refine al_id ?_); refine O.al fun _ h O => ?_ | (with_reducible refine nn_id ?_); refine ⟨_, rfl, ?_⟩ | (with_reducible refine ld_id ?_); (first | refine O.ld 0 rfl ?_ | refine O.ld 1 rfl ?_ | refine O.ld 2 rfl ?_ | refine O.ld 3 rfl ?_ | refine O.ld 4 rfl ?_ | refine O.ld 5 rfl ?_ | refine O.ld 6 rfl ?_); (repeat (first | (with_reducible refine ldL_n ?_) | refine ldL_s ?_ | refine ldL_c ?_)) | (with_reducible refine st_ad (by first | (with_reducible rfl) | (simp only [pt_add, Nat.zero_add, Nat.add_zero, Nat.reduceAdd]; with_reducible rfl)) ?_); (first | refine O.st 0 rfl (by simp) rfl fun h O => ?_ | refine O.st 1 rfl (by simp) rfl fun h O => ?_ | refine O.st 2 rfl (by simp) rfl fun h O => ?_ | refine O.st 3 rfl (by simp) rfl fun h O => ?_ | refine O.st 4 rfl (by simp) rfl fun h O => ?_ | refine O.st 5 rfl (by simp) rfl fun h O => ?_ | refine O.st 6 rfl (by simp) rfl fun h O => ?_); (dsimp only [V.put, List.set, List.length_cons, List.length_nil] at O) | (with_reducible refine ca_id ?_); (first | refine O.ca 0 1 rfl ?_ | refine O.ca 0 2 rfl ?_ | refine O.ca 1 1 rfl ?_ | refine O.ca 1 2 rfl ?_ | refine O.ca 2 1 rfl ?_ | refine O.ca 2 2 rfl ?_ | refine O.ca 3 1 rfl ?_ | refine O.ca 3 2 rfl ?_ | refine O.ca 4 1 rfl ?_ | refine O.ca 4 2 rfl ?_ | refine O.ca 5 1 rfl ?_ | refine O.ca 5 2 rfl ?_ | refine O.ca 6 1 rfl ?_ | refine O.ca 6 2 rfl ?_))
      refine brr_p (fun c1 => ?_) (fun c1 => ?_)
      · exact hj _ _ ⟨rfl, (decide_eq_true (.inl c1)).symm⟩
      repeat (first | (with_reducible refine al_id ?_); refine O.al fun _ h O => ?_ | (with_reducible refine nn_id ?_); refine ⟨_, rfl, ?_⟩ | (with_reducible refine ld_id ?_); (first | refine O.ld 0 rfl ?_ | refine O.ld 1 rfl ?_ | refine O.ld 2 rfl ?_ | refine O.ld 3 rfl ?_ | refine O.ld 4 rfl ?_ | refine O.ld 5 rfl ?_ | refine O.ld 6 rfl ?_); (repeat (first | (with_reducible refine ldL_n ?_) | refine ldL_s ?_ | refine ldL_c ?_)) | (with_reducible refine st_ad (by first | (with_reducible rfl) | (simp only [pt_add, Nat.zero_add, Nat.add_zero, Nat.reduceAdd]; with_reducible rfl)) ?_); (first | refine O.st 0 rfl (by simp) rfl fun h O => ?_ | refine O.st 1 rfl (by simp) rfl fun h O => ?_ | refine O.st 2 rfl (by simp) rfl fun h O => ?_ | refine O.st 3 rfl (by simp) rfl fun h O => ?_ | refine O.st 4 rfl (by simp) rfl fun h O => ?_ | refine O.st 5 rfl (by simp) rfl fun h O => ?_ | refine O.st 6 rfl (by simp) rfl fun h O => ?_); (dsimp only [V.put, List.set, List.length_cons, List.length_nil] at O) | (with_reducible refine ca_id ?_); (first | refine O.ca 0 1 rfl ?_ | refine O.ca 0 2 rfl ?_ | refine O.ca 1 1 rfl ?_ | refine O.ca 1 2 rfl ?_ | refine O.ca 2 1 rfl ?_ | refine O.ca 2 2 rfl ?_ | refine O.ca 3 1 rfl ?_ | refine O.ca 3 2 rfl ?_ | refine O.ca 4 1 rfl ?_ | refine O.ca 4 2 rfl ?_ | refine O.ca 5 1 rfl ?_ | refine O.ca 5 2 rfl ?_ | refine O.ca 6 1 rfl ?_ | refine O.ca 6 2 rfl ?_))
      refine brr_p (fun c2 => ?_) (fun c2 => ?_)
      · repeat (first | (with_reducible refine al_id ?_); refine O.al fun _ h O => ?_ | (with_reducible refine nn_id ?_); refine ⟨_, rfl, ?_⟩ | (with_reducible refine ld_id ?_); (first | refine O.ld 0 rfl ?_ | refine O.ld 1 rfl ?_ | refine O.ld 2 rfl ?_ | refine O.ld 3 rfl ?_ | refine O.ld 4 rfl ?_ | refine O.ld 5 rfl ?_ | refine O.ld 6 rfl ?_); (repeat (first | (with_reducible refine ldL_n ?_) | refine ldL_s ?_ | refine ldL_c ?_)) | (with_reducible refine st_ad (by first | (with_reducible rfl) | (simp only [pt_add, Nat.zero_add, Nat.add_zero, Nat.reduceAdd]; with_reducible rfl)) ?_); (first | refine O.st 0 rfl (by simp) rfl fun h O => ?_ | refine O.st 1 rfl (by simp) rfl fun h O => ?_ | refine O.st 2 rfl (by simp) rfl fun h O => ?_ | refine O.st 3 rfl (by simp) rfl fun h O => ?_ | refine O.st 4 rfl (by simp) rfl fun h O => ?_ | refine O.st 5 rfl (by simp) rfl fun h O => ?_ | refine O.st 6 rfl (by simp) rfl fun h O => ?_); (dsimp only [V.put, List.set, List.length_cons, List.length_nil] at O) | (with_reducible refine ca_id ?_); (first | refine O.ca 0 1 rfl ?_ | refine O.ca 0 2 rfl ?_ | refine O.ca 1 1 rfl ?_ | refine O.ca 1 2 rfl ?_ | refine O.ca 2 1 rfl ?_ | refine O.ca 2 2 rfl ?_ | refine O.ca 3 1 rfl ?_ | refine O.ca 3 2 rfl ?_ | refine O.ca 4 1 rfl ?_ | refine O.ca 4 2 rfl ?_ | refine O.ca 5 1 rfl ?_ | refine O.ca 5 2 rfl ?_ | refine O.ca 6 1 rfl ?_ | refine O.ca 6 2 rfl ?_))
        exact hj _ _ ⟨rfl, decide_eq_decide.2 (by omega)⟩
      · exact hj _ _ ⟨rfl, (decide_eq_false (by omega)).symm⟩
  refine brr_eq (fun k4 => ?_) (fun k4 => ?_)
  · have e0 : hearS r m = ((writ r m).1, (writ r m).2.seal m) := by unfold hearS act; rw [if_neg (by omega), if_pos k4]
    repeat (first | (with_reducible refine al_id ?_); refine O.al fun _ h O => ?_ | (with_reducible refine nn_id ?_); refine ⟨_, rfl, ?_⟩ | (with_reducible refine ld_id ?_); (first | refine O.ld 0 rfl ?_ | refine O.ld 1 rfl ?_ | refine O.ld 2 rfl ?_ | refine O.ld 3 rfl ?_ | refine O.ld 4 rfl ?_ | refine O.ld 5 rfl ?_); (repeat (first | (with_reducible refine ldL_n ?_) | refine ldL_s ?_ | refine ldL_c ?_)) | (with_reducible refine st_ad (by first | (with_reducible rfl) | (simp only [pt_add, Nat.zero_add, Nat.add_zero, Nat.reduceAdd]; with_reducible rfl)) ?_); (first | refine O.st 0 rfl (by simp) rfl fun h O => ?_ | refine O.st 1 rfl (by simp) rfl fun h O => ?_ | refine O.st 2 rfl (by simp) rfl fun h O => ?_ | refine O.st 3 rfl (by simp) rfl fun h O => ?_ | refine O.st 4 rfl (by simp) rfl fun h O => ?_ | refine O.st 5 rfl (by simp) rfl fun h O => ?_); (dsimp only [V.put, List.set, List.length_cons, List.length_nil] at O) | (with_reducible refine ca_id ?_); (first | refine O.ca 0 1 rfl ?_ | refine O.ca 0 2 rfl ?_ | refine O.ca 1 1 rfl ?_ | refine O.ca 1 2 rfl ?_ | refine O.ca 2 1 rfl ?_ | refine O.ca 2 2 rfl ?_ | refine O.ca 3 1 rfl ?_ | refine O.ca 3 2 rfl ?_ | refine O.ca 4 1 rfl ?_ | refine O.ca 4 2 rfl ?_ | refine O.ca 5 1 rfl ?_ | refine O.ca 5 2 rfl ?_))
    refine brr_p (fun hc => ?_) (fun hc => ?_)
    · have e : hearS r m = (r, (refusal r m.te).seal m) := by rw [e0]; unfold writ; rw [if_pos hc]
      rw [e] at k
      repeat (first | (with_reducible refine al_id ?_); refine O.al fun _ h O => ?_ | (with_reducible refine nn_id ?_); refine ⟨_, rfl, ?_⟩ | (with_reducible refine ld_id ?_); (first | refine O.ld 0 rfl ?_ | refine O.ld 1 rfl ?_ | refine O.ld 2 rfl ?_ | refine O.ld 3 rfl ?_ | refine O.ld 4 rfl ?_ | refine O.ld 5 rfl ?_); (repeat (first | (with_reducible refine ldL_n ?_) | refine ldL_s ?_ | refine ldL_c ?_)) | (with_reducible refine st_ad (by first | (with_reducible rfl) | (simp only [pt_add, Nat.zero_add, Nat.add_zero, Nat.reduceAdd]; with_reducible rfl)) ?_); (first | refine O.st 0 rfl (by simp) rfl fun h O => ?_ | refine O.st 1 rfl (by simp) rfl fun h O => ?_ | refine O.st 2 rfl (by simp) rfl fun h O => ?_ | refine O.st 3 rfl (by simp) rfl fun h O => ?_ | refine O.st 4 rfl (by simp) rfl fun h O => ?_ | refine O.st 5 rfl (by simp) rfl fun h O => ?_); (dsimp only [V.put, List.set, List.length_cons, List.length_nil] at O) | (with_reducible refine ca_id ?_); (first | refine O.ca 0 1 rfl ?_ | refine O.ca 0 2 rfl ?_ | refine O.ca 1 1 rfl ?_ | refine O.ca 1 2 rfl ?_ | refine O.ca 2 1 rfl ?_ | refine O.ca 2 2 rfl ?_ | refine O.ca 3 1 rfl ?_ | refine O.ca 3 2 rfl ?_ | refine O.ca 4 1 rfl ?_ | refine O.ca 4 2 rfl ?_ | refine O.ca 5 1 rfl ?_ | refine O.ca 5 2 rfl ?_))
      replace O := O.sel [2, 0, 1, 3, 4, 5] 6 rfl (Nat.le_add_left _ _)
      simp only [selT, List.map, nth, List.drop, List.cons_append, List.nil_append] at O
      refine F_ref9_Replica_refuse.is O fun h O => ?_
      repeat (first | (with_reducible refine al_id ?_); refine O.al fun _ h O => ?_ | (with_reducible refine nn_id ?_); refine ⟨_, rfl, ?_⟩ | (with_reducible refine ld_id ?_); (first | refine O.ld 0 rfl ?_ | refine O.ld 1 rfl ?_ | refine O.ld 2 rfl ?_ | refine O.ld 3 rfl ?_ | refine O.ld 4 rfl ?_ | refine O.ld 5 rfl ?_); (repeat (first | (with_reducible refine ldL_n ?_) | refine ldL_s ?_ | refine ldL_c ?_)) | (with_reducible refine st_ad (by first | (with_reducible rfl) | (simp only [pt_add, Nat.zero_add, Nat.add_zero, Nat.reduceAdd]; with_reducible rfl)) ?_); (first | refine O.st 0 rfl (by simp) rfl fun h O => ?_ | refine O.st 1 rfl (by simp) rfl fun h O => ?_ | refine O.st 2 rfl (by simp) rfl fun h O => ?_ | refine O.st 3 rfl (by simp) rfl fun h O => ?_ | refine O.st 4 rfl (by simp) rfl fun h O => ?_ | refine O.st 5 rfl (by simp) rfl fun h O => ?_); (dsimp only [V.put, List.set, List.length_cons, List.length_nil] at O) | (with_reducible refine ca_id ?_); (first | refine O.ca 0 1 rfl ?_ | refine O.ca 0 2 rfl ?_ | refine O.ca 1 1 rfl ?_ | refine O.ca 1 2 rfl ?_ | refine O.ca 2 1 rfl ?_ | refine O.ca 2 2 rfl ?_ | refine O.ca 3 1 rfl ?_ | refine O.ca 3 2 rfl ?_ | refine O.ca 4 1 rfl ?_ | refine O.ca 4 2 rfl ?_ | refine O.ca 5 1 rfl ?_ | refine O.ca 5 2 rfl ?_))
      exact k _ _ (O.sel [0] 6 rfl (Nat.le_add_left _ _)).nil_buf
    replace O := O.sel [2, 0, 1, 3, 4, 5] 6 rfl (Nat.le_add_left _ _)
    simp only [selT, List.map, nth, List.drop, List.cons_append, List.nil_append] at O
    obtain ⟨v, O⟩ := O.rep
    repeat (first | (with_reducible refine al_id ?_); refine O.al fun _ h O => ?_ | (with_reducible refine nn_id ?_); refine ⟨_, rfl, ?_⟩ | (with_reducible refine ld_id ?_); (first | refine O.ld 0 rfl ?_ | refine O.ld 1 rfl ?_ | refine O.ld 2 rfl ?_ | refine O.ld 3 rfl ?_ | refine O.ld 4 rfl ?_ | refine O.ld 5 rfl ?_ | refine O.ld 6 rfl ?_); (repeat (first | (with_reducible refine ldL_n ?_) | refine ldL_s ?_ | refine ldL_c ?_)) | (with_reducible refine st_ad (by first | (with_reducible rfl) | (simp only [pt_add, Nat.zero_add, Nat.add_zero, Nat.reduceAdd]; with_reducible rfl)) ?_); (first | refine O.st 0 rfl (by simp) rfl fun h O => ?_ | refine O.st 1 rfl (by simp) rfl fun h O => ?_ | refine O.st 2 rfl (by simp) rfl fun h O => ?_ | refine O.st 3 rfl (by simp) rfl fun h O => ?_ | refine O.st 4 rfl (by simp) rfl fun h O => ?_ | refine O.st 5 rfl (by simp) rfl fun h O => ?_ | refine O.st 6 rfl (by simp) rfl fun h O => ?_); (dsimp only [V.put, List.set, List.length_cons, List.length_nil] at O) | (with_reducible refine ca_id ?_); (first | refine O.ca 0 1 rfl ?_ | refine O.ca 0 2 rfl ?_ | refine O.ca 1 1 rfl ?_ | refine O.ca 1 2 rfl ?_ | refine O.ca 2 1 rfl ?_ | refine O.ca 2 2 rfl ?_ | refine O.ca 3 1 rfl ?_ | refine O.ca 3 2 rfl ?_ | refine O.ca 4 1 rfl ?_ | refine O.ca 4 2 rfl ?_ | refine O.ca 5 1 rfl ?_ | refine O.ca 5 2 rfl ?_ | refine O.ca 6 1 rfl ?_ | refine O.ca 6 2 rfl ?_))
    refine jn0 (fun h' => Sat h0 h' (repR p (r.take_ m.te m.span) :: own x39 [.int .u64 r.prom, .int .u64 r.te, .int .u64 r.ts, .slice s.ptr s.len s.cap] :: own x31 (ansC m) :: own x26 [.int .i64 0, .int .i64 0, .int .i64 0, .int .i64 0, .int .u64 0, .int .u64 0, .int .u64 0, .int .u64 0, .int .i64 0, .int .u64 0, .slice none 0 0, .int .i64 0, .int .u64 0, .string (⟨#[]⟩ : ByteArray), .string (⟨#[]⟩ : ByteArray), .int .u64 0, .int .u64 0, .int .u64 0, .int .i64 0, .int .i64 0, .int .i64 0, .int .i64 0, .bool false, .bool false, .bool false] :: own x24 (mgC m) :: L)) ?_ ?_
    case refine_2 =>
      intro j hj
      refine brr_p (fun hp => ?_) (fun hp => ?_)
      · have e1 : r.take_ m.te m.span = { r with prom := m.te, wait := m.span } := by unfold RS.take_ spanOf; rw [if_neg (by omega)]
        repeat (first | (with_reducible refine al_id ?_); refine O.al fun _ h O => ?_ | (with_reducible refine nn_id ?_); refine ⟨_, rfl, ?_⟩ | (with_reducible refine ld_id ?_); (first | refine O.ld 0 rfl ?_ | refine O.ld 1 rfl ?_ | refine O.ld 2 rfl ?_ | refine O.ld 3 rfl ?_ | refine O.ld 4 rfl ?_ | refine O.ld 5 rfl ?_ | refine O.ld 6 rfl ?_); (repeat (first | (with_reducible refine ldL_n ?_) | refine ldL_s ?_ | refine ldL_c ?_)) | (with_reducible refine st_ad (by first | (with_reducible rfl) | (simp only [pt_add, Nat.zero_add, Nat.add_zero, Nat.reduceAdd]; with_reducible rfl)) ?_); (first | refine O.st 0 rfl (by simp) rfl fun h O => ?_ | refine O.st 1 rfl (by simp) rfl fun h O => ?_ | refine O.st 2 rfl (by simp) rfl fun h O => ?_ | refine O.st 3 rfl (by simp) rfl fun h O => ?_ | refine O.st 4 rfl (by simp) rfl fun h O => ?_ | refine O.st 5 rfl (by simp) rfl fun h O => ?_ | refine O.st 6 rfl (by simp) rfl fun h O => ?_); (dsimp only [V.put, List.set, List.length_cons, List.length_nil] at O) | (with_reducible refine ca_id ?_); (first | refine O.ca 0 1 rfl ?_ | refine O.ca 0 2 rfl ?_ | refine O.ca 1 1 rfl ?_ | refine O.ca 1 2 rfl ?_ | refine O.ca 2 1 rfl ?_ | refine O.ca 2 2 rfl ?_ | refine O.ca 3 1 rfl ?_ | refine O.ca 3 2 rfl ?_ | refine O.ca 4 1 rfl ?_ | refine O.ca 4 2 rfl ?_ | refine O.ca 5 1 rfl ?_ | refine O.ca 5 2 rfl ?_ | refine O.ca 6 1 rfl ?_ | refine O.ca 6 2 rfl ?_))
        refine hj _ ?_
        rw [e1]
        exact Sat.repI (s := v) (O.sel [0, 1, 2, 4, 5, 6] 7 rfl (Nat.le_add_left _ _))
      · have e1 : r.take_ m.te m.span = { r with prom := m.te, wait := 0 } := by
          unfold RS.take_ spanOf
          by_cases h0 : (0 : Int) > m.span
          · rw [if_pos h0]
          · rw [if_neg h0, show m.span = 0 by omega]
        refine hj _ ?_
        rw [e1]
        exact Sat.repI (s := v) (O.sel [0, 1, 2, 4, 5, 6] 7 rfl (Nat.le_add_left _ _))
    clear O
    intro h O
    simp only [ansC, mgC] at O
    have hch : (m.te != r.prom) = (r.prom != m.te) := by rw [Bool.eq_iff_iff]; simp; omega
    refine O.ld 4 rfl (ldL_c (ldL_n ?_))
    refine O.ld 1 rfl (ldL_c (ldL_n ?_))
    refine O.al fun x278 h O => ?_
    repeat (first | (with_reducible refine al_id ?_); refine O.al fun _ h O => ?_ | (with_reducible refine nn_id ?_); refine ⟨_, rfl, ?_⟩ | (with_reducible refine ld_id ?_); (first | refine O.ld 0 rfl ?_ | refine O.ld 1 rfl ?_ | refine O.ld 2 rfl ?_ | refine O.ld 3 rfl ?_ | refine O.ld 4 rfl ?_ | refine O.ld 5 rfl ?_); (repeat (first | (with_reducible refine ldL_n ?_) | refine ldL_s ?_ | refine ldL_c ?_)) | (with_reducible refine st_ad (by first | (with_reducible rfl) | (simp only [pt_add, Nat.zero_add, Nat.add_zero, Nat.reduceAdd]; with_reducible rfl)) ?_); (first | refine O.st 0 rfl (by simp) rfl fun h O => ?_ | refine O.st 1 rfl (by simp) rfl fun h O => ?_ | refine O.st 2 rfl (by simp) rfl fun h O => ?_ | refine O.st 3 rfl (by simp) rfl fun h O => ?_ | refine O.st 4 rfl (by simp) rfl fun h O => ?_ | refine O.st 5 rfl (by simp) rfl fun h O => ?_); (dsimp only [V.put, List.set, List.length_cons, List.length_nil] at O) | (with_reducible refine ca_id ?_); (first | refine O.ca 0 1 rfl ?_ | refine O.ca 0 2 rfl ?_ | refine O.ca 1 1 rfl ?_ | refine O.ca 1 2 rfl ?_ | refine O.ca 2 1 rfl ?_ | refine O.ca 2 2 rfl ?_ | refine O.ca 3 1 rfl ?_ | refine O.ca 3 2 rfl ?_ | refine O.ca 4 1 rfl ?_ | refine O.ca 4 2 rfl ?_ | refine O.ca 5 1 rfl ?_ | refine O.ca 5 2 rfl ?_))
    refine F_ref0_CmpTag.is O fun h O => ?_
    by_cases hl : tagLt m.te m.ts r.te r.ts
    · have e : hearS r m = (r.take_ m.te m.span, HD.seal { hd0 with tak := true, chg := r.prom != m.te } m) := by rw [e0]; unfold writ; rw [if_neg hc, if_pos hl]
      rw [e] at k
      rw [if_pos hl, hch] at *
      refine jn_go ?_
      refine brr_ff rfl ?_
      replace O := O.sel [1, 0, 2, 3, 4, 5] 6 rfl (Nat.le_add_left _ _)
      simp only [selT, List.map, nth, List.drop, List.cons_append, List.nil_append] at O
      obtain ⟨v, O⟩ := O.rep
      repeat (first | (with_reducible refine al_id ?_); refine O.al fun _ h O => ?_ | (with_reducible refine nn_id ?_); refine ⟨_, rfl, ?_⟩ | (with_reducible refine ld_id ?_); (first | refine O.ld 0 rfl ?_ | refine O.ld 1 rfl ?_ | refine O.ld 2 rfl ?_ | refine O.ld 3 rfl ?_ | refine O.ld 4 rfl ?_ | refine O.ld 5 rfl ?_ | refine O.ld 6 rfl ?_); (repeat (first | (with_reducible refine ldL_n ?_) | refine ldL_s ?_ | refine ldL_c ?_)) | (with_reducible refine st_ad (by first | (with_reducible rfl) | (simp only [pt_add, Nat.zero_add, Nat.add_zero, Nat.reduceAdd]; with_reducible rfl)) ?_); (first | refine O.st 0 rfl (by simp) rfl fun h O => ?_ | refine O.st 1 rfl (by simp) rfl fun h O => ?_ | refine O.st 2 rfl (by simp) rfl fun h O => ?_ | refine O.st 3 rfl (by simp) rfl fun h O => ?_ | refine O.st 4 rfl (by simp) rfl fun h O => ?_ | refine O.st 5 rfl (by simp) rfl fun h O => ?_ | refine O.st 6 rfl (by simp) rfl fun h O => ?_); (dsimp only [V.put, List.set, List.length_cons, List.length_nil] at O) | (with_reducible refine ca_id ?_); (first | refine O.ca 0 1 rfl ?_ | refine O.ca 0 2 rfl ?_ | refine O.ca 1 1 rfl ?_ | refine O.ca 1 2 rfl ?_ | refine O.ca 2 1 rfl ?_ | refine O.ca 2 2 rfl ?_ | refine O.ca 3 1 rfl ?_ | refine O.ca 3 2 rfl ?_ | refine O.ca 4 1 rfl ?_ | refine O.ca 4 2 rfl ?_ | refine O.ca 5 1 rfl ?_ | refine O.ca 5 2 rfl ?_ | refine O.ca 6 1 rfl ?_ | refine O.ca 6 2 rfl ?_))
      refine jn_go ?_
      have hl : m.te < r.te ∨ (m.te = r.te ∧ m.ts < r.ts) := hl
      refine brr_ff (by rw [Bool.eq_false_iff]; simp only [ne_eq, Bool.and_eq_true, beq_iff_eq]; show ¬ (r.te = m.te ∧ r.ts = m.ts ∧ True); omega) ?_
      repeat (first | (with_reducible refine al_id ?_); refine O.al fun _ h O => ?_ | (with_reducible refine nn_id ?_); refine ⟨_, rfl, ?_⟩ | (with_reducible refine ld_id ?_); (first | refine O.ld 0 rfl ?_ | refine O.ld 1 rfl ?_ | refine O.ld 2 rfl ?_ | refine O.ld 3 rfl ?_ | refine O.ld 4 rfl ?_ | refine O.ld 5 rfl ?_ | refine O.ld 6 rfl ?_); (repeat (first | (with_reducible refine ldL_n ?_) | refine ldL_s ?_ | refine ldL_c ?_)) | (with_reducible refine st_ad (by first | (with_reducible rfl) | (simp only [pt_add, Nat.zero_add, Nat.add_zero, Nat.reduceAdd]; with_reducible rfl)) ?_); (first | refine O.st 0 rfl (by simp) rfl fun h O => ?_ | refine O.st 1 rfl (by simp) rfl fun h O => ?_ | refine O.st 2 rfl (by simp) rfl fun h O => ?_ | refine O.st 3 rfl (by simp) rfl fun h O => ?_ | refine O.st 4 rfl (by simp) rfl fun h O => ?_ | refine O.st 5 rfl (by simp) rfl fun h O => ?_ | refine O.st 6 rfl (by simp) rfl fun h O => ?_); (dsimp only [V.put, List.set, List.length_cons, List.length_nil] at O) | (with_reducible refine ca_id ?_); (first | refine O.ca 0 1 rfl ?_ | refine O.ca 0 2 rfl ?_ | refine O.ca 1 1 rfl ?_ | refine O.ca 1 2 rfl ?_ | refine O.ca 2 1 rfl ?_ | refine O.ca 2 2 rfl ?_ | refine O.ca 3 1 rfl ?_ | refine O.ca 3 2 rfl ?_ | refine O.ca 4 1 rfl ?_ | refine O.ca 4 2 rfl ?_ | refine O.ca 5 1 rfl ?_ | refine O.ca 5 2 rfl ?_ | refine O.ca 6 1 rfl ?_ | refine O.ca 6 2 rfl ?_))
      exact k _ _ (Sat.repI (s := v) (O.sel [0, 1] 7 rfl (Nat.le_add_left _ _))).nil_buf
    rw [if_neg hl]
    by_cases hq : m.te = r.te ∧ m.ts = r.ts
    · have hg : ¬ tagLt r.te r.ts m.te m.ts := by show ¬ (r.te < m.te ∨ (r.te = m.te ∧ r.ts < m.ts)); omega
      have e : hearS r m = (r.take_ m.te m.span, HD.seal { hd0 with kind := 5, te := m.te, ts := m.ts, tak := true, chg := r.prom != m.te } m) := by rw [e0]; unfold writ; rw [if_neg hc, if_neg hl, if_neg hg]
      rw [e] at k
      rw [if_pos hq]
      rw [hch] at O
      refine jn_go ?_
      refine brr_ff rfl ?_
      replace O := O.sel [1, 0, 2, 3, 4, 5] 6 rfl (Nat.le_add_left _ _)
      simp only [selT, List.map, nth, List.drop, List.cons_append, List.nil_append] at O
      obtain ⟨v, O⟩ := O.rep
      repeat (first | (with_reducible refine al_id ?_); refine O.al fun _ h O => ?_ | (with_reducible refine nn_id ?_); refine ⟨_, rfl, ?_⟩ | (with_reducible refine ld_id ?_); (first | refine O.ld 0 rfl ?_ | refine O.ld 1 rfl ?_ | refine O.ld 2 rfl ?_ | refine O.ld 3 rfl ?_ | refine O.ld 4 rfl ?_ | refine O.ld 5 rfl ?_ | refine O.ld 6 rfl ?_); (repeat (first | (with_reducible refine ldL_n ?_) | refine ldL_s ?_ | refine ldL_c ?_)) | (with_reducible refine st_ad (by first | (with_reducible rfl) | (simp only [pt_add, Nat.zero_add, Nat.add_zero, Nat.reduceAdd]; with_reducible rfl)) ?_); (first | refine O.st 0 rfl (by simp) rfl fun h O => ?_ | refine O.st 1 rfl (by simp) rfl fun h O => ?_ | refine O.st 2 rfl (by simp) rfl fun h O => ?_ | refine O.st 3 rfl (by simp) rfl fun h O => ?_ | refine O.st 4 rfl (by simp) rfl fun h O => ?_ | refine O.st 5 rfl (by simp) rfl fun h O => ?_ | refine O.st 6 rfl (by simp) rfl fun h O => ?_); (dsimp only [V.put, List.set, List.length_cons, List.length_nil] at O) | (with_reducible refine ca_id ?_); (first | refine O.ca 0 1 rfl ?_ | refine O.ca 0 2 rfl ?_ | refine O.ca 1 1 rfl ?_ | refine O.ca 1 2 rfl ?_ | refine O.ca 2 1 rfl ?_ | refine O.ca 2 2 rfl ?_ | refine O.ca 3 1 rfl ?_ | refine O.ca 3 2 rfl ?_ | refine O.ca 4 1 rfl ?_ | refine O.ca 4 2 rfl ?_ | refine O.ca 5 1 rfl ?_ | refine O.ca 5 2 rfl ?_ | refine O.ca 6 1 rfl ?_ | refine O.ca 6 2 rfl ?_))
      refine jn_go ?_
      refine brr_tt (by simp only [Bool.and_eq_true, beq_iff_eq]; exact ⟨hq.1.symm, hq.2.symm, trivial⟩) ?_
      repeat (first | (with_reducible refine al_id ?_); refine O.al fun _ h O => ?_ | (with_reducible refine nn_id ?_); refine ⟨_, rfl, ?_⟩ | (with_reducible refine ld_id ?_); (first | refine O.ld 0 rfl ?_ | refine O.ld 1 rfl ?_ | refine O.ld 2 rfl ?_ | refine O.ld 3 rfl ?_ | refine O.ld 4 rfl ?_ | refine O.ld 5 rfl ?_ | refine O.ld 6 rfl ?_); (repeat (first | (with_reducible refine ldL_n ?_) | refine ldL_s ?_ | refine ldL_c ?_)) | (with_reducible refine st_ad (by first | (with_reducible rfl) | (simp only [pt_add, Nat.zero_add, Nat.add_zero, Nat.reduceAdd]; with_reducible rfl)) ?_); (first | refine O.st 0 rfl (by simp) rfl fun h O => ?_ | refine O.st 1 rfl (by simp) rfl fun h O => ?_ | refine O.st 2 rfl (by simp) rfl fun h O => ?_ | refine O.st 3 rfl (by simp) rfl fun h O => ?_ | refine O.st 4 rfl (by simp) rfl fun h O => ?_ | refine O.st 5 rfl (by simp) rfl fun h O => ?_ | refine O.st 6 rfl (by simp) rfl fun h O => ?_); (dsimp only [V.put, List.set, List.length_cons, List.length_nil] at O) | (with_reducible refine ca_id ?_); (first | refine O.ca 0 1 rfl ?_ | refine O.ca 0 2 rfl ?_ | refine O.ca 1 1 rfl ?_ | refine O.ca 1 2 rfl ?_ | refine O.ca 2 1 rfl ?_ | refine O.ca 2 2 rfl ?_ | refine O.ca 3 1 rfl ?_ | refine O.ca 3 2 rfl ?_ | refine O.ca 4 1 rfl ?_ | refine O.ca 4 2 rfl ?_ | refine O.ca 5 1 rfl ?_ | refine O.ca 5 2 rfl ?_ | refine O.ca 6 1 rfl ?_ | refine O.ca 6 2 rfl ?_))
      exact k _ _ (Sat.repI (s := v) (O.sel [0, 1] 7 rfl (Nat.le_add_left _ _))).nil_buf
    · have hg : tagLt r.te r.ts m.te m.ts := by
        have hl : ¬ (m.te < r.te ∨ (m.te = r.te ∧ m.ts < r.ts)) := hl
        show r.te < m.te ∨ (r.te = m.te ∧ r.ts < m.ts)
        omega
      have e : hearS r m = ({ r.take_ m.te m.span with te := m.te, ts := m.ts, val := m.b }, HD.seal { hd0 with kind := 5, te := m.te, ts := m.ts, tak := true, chg := true } m) := by rw [e0]; unfold writ; rw [if_neg hc, if_neg hl, if_pos hg]
      rw [e] at k
      rw [if_neg hq]
      refine jn_go ?_
      refine brr_tt rfl ?_
      replace O := O.sel [1, 0, 2, 3, 4, 5] 6 rfl (Nat.le_add_left _ _)
      simp only [selT, List.map, nth, List.drop, List.cons_append, List.nil_append] at O
      obtain ⟨v, O⟩ := O.rep
      repeat (first | (with_reducible refine al_id ?_); refine O.al fun _ h O => ?_ | (with_reducible refine nn_id ?_); refine ⟨_, rfl, ?_⟩ | (with_reducible refine ld_id ?_); (first | refine O.ld 0 rfl ?_ | refine O.ld 1 rfl ?_ | refine O.ld 2 rfl ?_ | refine O.ld 3 rfl ?_ | refine O.ld 4 rfl ?_ | refine O.ld 5 rfl ?_ | refine O.ld 6 rfl ?_); (repeat (first | (with_reducible refine ldL_n ?_) | refine ldL_s ?_ | refine ldL_c ?_)) | (with_reducible refine st_ad (by first | (with_reducible rfl) | (simp only [pt_add, Nat.zero_add, Nat.add_zero, Nat.reduceAdd]; with_reducible rfl)) ?_); (first | refine O.st 0 rfl (by simp) rfl fun h O => ?_ | refine O.st 1 rfl (by simp) rfl fun h O => ?_ | refine O.st 2 rfl (by simp) rfl fun h O => ?_ | refine O.st 3 rfl (by simp) rfl fun h O => ?_ | refine O.st 4 rfl (by simp) rfl fun h O => ?_ | refine O.st 5 rfl (by simp) rfl fun h O => ?_ | refine O.st 6 rfl (by simp) rfl fun h O => ?_); (dsimp only [V.put, List.set, List.length_cons, List.length_nil] at O) | (with_reducible refine ca_id ?_); (first | refine O.ca 0 1 rfl ?_ | refine O.ca 0 2 rfl ?_ | refine O.ca 1 1 rfl ?_ | refine O.ca 1 2 rfl ?_ | refine O.ca 2 1 rfl ?_ | refine O.ca 2 2 rfl ?_ | refine O.ca 3 1 rfl ?_ | refine O.ca 3 2 rfl ?_ | refine O.ca 4 1 rfl ?_ | refine O.ca 4 2 rfl ?_ | refine O.ca 5 1 rfl ?_ | refine O.ca 5 2 rfl ?_ | refine O.ca 6 1 rfl ?_ | refine O.ca 6 2 rfl ?_))
      refine F_ref0_Copy.is O (V1 h (O.sel [] 7 rfl (Nat.le_add_left _ _))) (by omega) fun s2 h O _ _ => ?_
      repeat (first | (with_reducible refine al_id ?_); refine O.al fun _ h O => ?_ | (with_reducible refine nn_id ?_); refine ⟨_, rfl, ?_⟩ | (with_reducible refine ld_id ?_); (first | refine O.ld 0 rfl ?_ | refine O.ld 1 rfl ?_ | refine O.ld 2 rfl ?_ | refine O.ld 3 rfl ?_ | refine O.ld 4 rfl ?_ | refine O.ld 5 rfl ?_ | refine O.ld 6 rfl ?_ | refine O.ld 7 rfl ?_); (repeat (first | (with_reducible refine ldL_n ?_) | refine ldL_s ?_ | refine ldL_c ?_)) | (with_reducible refine st_ad (by first | (with_reducible rfl) | (simp only [pt_add, Nat.zero_add, Nat.add_zero, Nat.reduceAdd]; with_reducible rfl)) ?_); (first | refine O.st 0 rfl (by simp) rfl fun h O => ?_ | refine O.st 1 rfl (by simp) rfl fun h O => ?_ | refine O.st 2 rfl (by simp) rfl fun h O => ?_ | refine O.st 3 rfl (by simp) rfl fun h O => ?_ | refine O.st 4 rfl (by simp) rfl fun h O => ?_ | refine O.st 5 rfl (by simp) rfl fun h O => ?_ | refine O.st 6 rfl (by simp) rfl fun h O => ?_ | refine O.st 7 rfl (by simp) rfl fun h O => ?_); (dsimp only [V.put, List.set, List.length_cons, List.length_nil] at O) | (with_reducible refine ca_id ?_); (first | refine O.ca 0 1 rfl ?_ | refine O.ca 0 2 rfl ?_ | refine O.ca 1 1 rfl ?_ | refine O.ca 1 2 rfl ?_ | refine O.ca 2 1 rfl ?_ | refine O.ca 2 2 rfl ?_ | refine O.ca 3 1 rfl ?_ | refine O.ca 3 2 rfl ?_ | refine O.ca 4 1 rfl ?_ | refine O.ca 4 2 rfl ?_ | refine O.ca 5 1 rfl ?_ | refine O.ca 5 2 rfl ?_ | refine O.ca 6 1 rfl ?_ | refine O.ca 6 2 rfl ?_ | refine O.ca 7 1 rfl ?_ | refine O.ca 7 2 rfl ?_))
      refine jn_go ?_
      refine brr_tt (by simp) ?_
      repeat (first | (with_reducible refine al_id ?_); refine O.al fun _ h O => ?_ | (with_reducible refine nn_id ?_); refine ⟨_, rfl, ?_⟩ | (with_reducible refine ld_id ?_); (first | refine O.ld 0 rfl ?_ | refine O.ld 1 rfl ?_ | refine O.ld 2 rfl ?_ | refine O.ld 3 rfl ?_ | refine O.ld 4 rfl ?_ | refine O.ld 5 rfl ?_ | refine O.ld 6 rfl ?_ | refine O.ld 7 rfl ?_); (repeat (first | (with_reducible refine ldL_n ?_) | refine ldL_s ?_ | refine ldL_c ?_)) | (with_reducible refine st_ad (by first | (with_reducible rfl) | (simp only [pt_add, Nat.zero_add, Nat.add_zero, Nat.reduceAdd]; with_reducible rfl)) ?_); (first | refine O.st 0 rfl (by simp) rfl fun h O => ?_ | refine O.st 1 rfl (by simp) rfl fun h O => ?_ | refine O.st 2 rfl (by simp) rfl fun h O => ?_ | refine O.st 3 rfl (by simp) rfl fun h O => ?_ | refine O.st 4 rfl (by simp) rfl fun h O => ?_ | refine O.st 5 rfl (by simp) rfl fun h O => ?_ | refine O.st 6 rfl (by simp) rfl fun h O => ?_ | refine O.st 7 rfl (by simp) rfl fun h O => ?_); (dsimp only [V.put, List.set, List.length_cons, List.length_nil] at O) | (with_reducible refine ca_id ?_); (first | refine O.ca 0 1 rfl ?_ | refine O.ca 0 2 rfl ?_ | refine O.ca 1 1 rfl ?_ | refine O.ca 1 2 rfl ?_ | refine O.ca 2 1 rfl ?_ | refine O.ca 2 2 rfl ?_ | refine O.ca 3 1 rfl ?_ | refine O.ca 3 2 rfl ?_ | refine O.ca 4 1 rfl ?_ | refine O.ca 4 2 rfl ?_ | refine O.ca 5 1 rfl ?_ | refine O.ca 5 2 rfl ?_ | refine O.ca 6 1 rfl ?_ | refine O.ca 6 2 rfl ?_ | refine O.ca 7 1 rfl ?_ | refine O.ca 7 2 rfl ?_))
      exact k _ _ (Sat.repI (s := s2) (O.sel [1, 0] 8 rfl (Nat.le_add_left _ _))).nil_buf
  refine brr_eq (fun k6 => ?_) (fun k6 => ?_)
  · have e0 : hearS r m = ((beats r m).1, (beats r m).2.seal m) := by unfold hearS act; rw [if_neg (by omega), if_neg (by omega), if_pos k6]
    repeat (first | (with_reducible refine al_id ?_); refine O.al fun _ h O => ?_ | (with_reducible refine nn_id ?_); refine ⟨_, rfl, ?_⟩ | (with_reducible refine ld_id ?_); (first | refine O.ld 0 rfl ?_ | refine O.ld 1 rfl ?_ | refine O.ld 2 rfl ?_ | refine O.ld 3 rfl ?_ | refine O.ld 4 rfl ?_ | refine O.ld 5 rfl ?_); (repeat (first | (with_reducible refine ldL_n ?_) | refine ldL_s ?_ | refine ldL_c ?_)) | (with_reducible refine st_ad (by first | (with_reducible rfl) | (simp only [pt_add, Nat.zero_add, Nat.add_zero, Nat.reduceAdd]; with_reducible rfl)) ?_); (first | refine O.st 0 rfl (by simp) rfl fun h O => ?_ | refine O.st 1 rfl (by simp) rfl fun h O => ?_ | refine O.st 2 rfl (by simp) rfl fun h O => ?_ | refine O.st 3 rfl (by simp) rfl fun h O => ?_ | refine O.st 4 rfl (by simp) rfl fun h O => ?_ | refine O.st 5 rfl (by simp) rfl fun h O => ?_); (dsimp only [V.put, List.set, List.length_cons, List.length_nil] at O) | (with_reducible refine ca_id ?_); (first | refine O.ca 0 1 rfl ?_ | refine O.ca 0 2 rfl ?_ | refine O.ca 1 1 rfl ?_ | refine O.ca 1 2 rfl ?_ | refine O.ca 2 1 rfl ?_ | refine O.ca 2 2 rfl ?_ | refine O.ca 3 1 rfl ?_ | refine O.ca 3 2 rfl ?_ | refine O.ca 4 1 rfl ?_ | refine O.ca 4 2 rfl ?_ | refine O.ca 5 1 rfl ?_ | refine O.ca 5 2 rfl ?_))
    refine brr_p (fun hc => ?_) (fun hc => ?_)
    · have e : hearS r m = (r, (refusal r m.epoch).seal m) := by rw [e0]; unfold beats; rw [if_pos hc]
      rw [e] at k
      repeat (first | (with_reducible refine al_id ?_); refine O.al fun _ h O => ?_ | (with_reducible refine nn_id ?_); refine ⟨_, rfl, ?_⟩ | (with_reducible refine ld_id ?_); (first | refine O.ld 0 rfl ?_ | refine O.ld 1 rfl ?_ | refine O.ld 2 rfl ?_ | refine O.ld 3 rfl ?_ | refine O.ld 4 rfl ?_ | refine O.ld 5 rfl ?_); (repeat (first | (with_reducible refine ldL_n ?_) | refine ldL_s ?_ | refine ldL_c ?_)) | (with_reducible refine st_ad (by first | (with_reducible rfl) | (simp only [pt_add, Nat.zero_add, Nat.add_zero, Nat.reduceAdd]; with_reducible rfl)) ?_); (first | refine O.st 0 rfl (by simp) rfl fun h O => ?_ | refine O.st 1 rfl (by simp) rfl fun h O => ?_ | refine O.st 2 rfl (by simp) rfl fun h O => ?_ | refine O.st 3 rfl (by simp) rfl fun h O => ?_ | refine O.st 4 rfl (by simp) rfl fun h O => ?_ | refine O.st 5 rfl (by simp) rfl fun h O => ?_); (dsimp only [V.put, List.set, List.length_cons, List.length_nil] at O) | (with_reducible refine ca_id ?_); (first | refine O.ca 0 1 rfl ?_ | refine O.ca 0 2 rfl ?_ | refine O.ca 1 1 rfl ?_ | refine O.ca 1 2 rfl ?_ | refine O.ca 2 1 rfl ?_ | refine O.ca 2 2 rfl ?_ | refine O.ca 3 1 rfl ?_ | refine O.ca 3 2 rfl ?_ | refine O.ca 4 1 rfl ?_ | refine O.ca 4 2 rfl ?_ | refine O.ca 5 1 rfl ?_ | refine O.ca 5 2 rfl ?_))
      replace O := O.sel [2, 0, 1, 3, 4, 5] 6 rfl (Nat.le_add_left _ _)
      simp only [selT, List.map, nth, List.drop, List.cons_append, List.nil_append] at O
      refine F_ref9_Replica_refuse.is O fun h O => ?_
      repeat (first | (with_reducible refine al_id ?_); refine O.al fun _ h O => ?_ | (with_reducible refine nn_id ?_); refine ⟨_, rfl, ?_⟩ | (with_reducible refine ld_id ?_); (first | refine O.ld 0 rfl ?_ | refine O.ld 1 rfl ?_ | refine O.ld 2 rfl ?_ | refine O.ld 3 rfl ?_ | refine O.ld 4 rfl ?_ | refine O.ld 5 rfl ?_); (repeat (first | (with_reducible refine ldL_n ?_) | refine ldL_s ?_ | refine ldL_c ?_)) | (with_reducible refine st_ad (by first | (with_reducible rfl) | (simp only [pt_add, Nat.zero_add, Nat.add_zero, Nat.reduceAdd]; with_reducible rfl)) ?_); (first | refine O.st 0 rfl (by simp) rfl fun h O => ?_ | refine O.st 1 rfl (by simp) rfl fun h O => ?_ | refine O.st 2 rfl (by simp) rfl fun h O => ?_ | refine O.st 3 rfl (by simp) rfl fun h O => ?_ | refine O.st 4 rfl (by simp) rfl fun h O => ?_ | refine O.st 5 rfl (by simp) rfl fun h O => ?_); (dsimp only [V.put, List.set, List.length_cons, List.length_nil] at O) | (with_reducible refine ca_id ?_); (first | refine O.ca 0 1 rfl ?_ | refine O.ca 0 2 rfl ?_ | refine O.ca 1 1 rfl ?_ | refine O.ca 1 2 rfl ?_ | refine O.ca 2 1 rfl ?_ | refine O.ca 2 2 rfl ?_ | refine O.ca 3 1 rfl ?_ | refine O.ca 3 2 rfl ?_ | refine O.ca 4 1 rfl ?_ | refine O.ca 4 2 rfl ?_ | refine O.ca 5 1 rfl ?_ | refine O.ca 5 2 rfl ?_))
      exact k _ _ (O.sel [0] 6 rfl (Nat.le_add_left _ _)).nil_buf
    replace O := O.sel [2, 0, 1, 3, 4, 5] 6 rfl (Nat.le_add_left _ _)
    simp only [selT, List.map, nth, List.drop, List.cons_append, List.nil_append] at O
    obtain ⟨v, O⟩ := O.rep
    repeat (first | (with_reducible refine al_id ?_); refine O.al fun _ h O => ?_ | (with_reducible refine nn_id ?_); refine ⟨_, rfl, ?_⟩ | (with_reducible refine ld_id ?_); (first | refine O.ld 0 rfl ?_ | refine O.ld 1 rfl ?_ | refine O.ld 2 rfl ?_ | refine O.ld 3 rfl ?_ | refine O.ld 4 rfl ?_ | refine O.ld 5 rfl ?_ | refine O.ld 6 rfl ?_); (repeat (first | (with_reducible refine ldL_n ?_) | refine ldL_s ?_ | refine ldL_c ?_)) | (with_reducible refine st_ad (by first | (with_reducible rfl) | (simp only [pt_add, Nat.zero_add, Nat.add_zero, Nat.reduceAdd]; with_reducible rfl)) ?_); (first | refine O.st 0 rfl (by simp) rfl fun h O => ?_ | refine O.st 1 rfl (by simp) rfl fun h O => ?_ | refine O.st 2 rfl (by simp) rfl fun h O => ?_ | refine O.st 3 rfl (by simp) rfl fun h O => ?_ | refine O.st 4 rfl (by simp) rfl fun h O => ?_ | refine O.st 5 rfl (by simp) rfl fun h O => ?_ | refine O.st 6 rfl (by simp) rfl fun h O => ?_); (dsimp only [V.put, List.set, List.length_cons, List.length_nil] at O) | (with_reducible refine ca_id ?_); (first | refine O.ca 0 1 rfl ?_ | refine O.ca 0 2 rfl ?_ | refine O.ca 1 1 rfl ?_ | refine O.ca 1 2 rfl ?_ | refine O.ca 2 1 rfl ?_ | refine O.ca 2 2 rfl ?_ | refine O.ca 3 1 rfl ?_ | refine O.ca 3 2 rfl ?_ | refine O.ca 4 1 rfl ?_ | refine O.ca 4 2 rfl ?_ | refine O.ca 5 1 rfl ?_ | refine O.ca 5 2 rfl ?_ | refine O.ca 6 1 rfl ?_ | refine O.ca 6 2 rfl ?_))
    refine jn0 (fun h' => Sat h0 h' (repR p (r.take_ m.epoch m.span) :: own x39 [.int .u64 r.prom, .int .u64 r.te, .int .u64 r.ts, .slice s.ptr s.len s.cap] :: own x31 (ansC m) :: own x26 [.int .i64 0, .int .i64 0, .int .i64 0, .int .i64 0, .int .u64 0, .int .u64 0, .int .u64 0, .int .u64 0, .int .i64 0, .int .u64 0, .slice none 0 0, .int .i64 0, .int .u64 0, .string (⟨#[]⟩ : ByteArray), .string (⟨#[]⟩ : ByteArray), .int .u64 0, .int .u64 0, .int .u64 0, .int .i64 0, .int .i64 0, .int .i64 0, .int .i64 0, .bool false, .bool false, .bool false] :: own x24 (mgC m) :: L)) ?_ ?_
    case refine_2 =>
      intro j hj
      refine brr_p (fun hp => ?_) (fun hp => ?_)
      · have e1 : r.take_ m.epoch m.span = { r with prom := m.epoch, wait := m.span } := by unfold RS.take_ spanOf; rw [if_neg (by omega)]
        repeat (first | (with_reducible refine al_id ?_); refine O.al fun _ h O => ?_ | (with_reducible refine nn_id ?_); refine ⟨_, rfl, ?_⟩ | (with_reducible refine ld_id ?_); (first | refine O.ld 0 rfl ?_ | refine O.ld 1 rfl ?_ | refine O.ld 2 rfl ?_ | refine O.ld 3 rfl ?_ | refine O.ld 4 rfl ?_ | refine O.ld 5 rfl ?_ | refine O.ld 6 rfl ?_); (repeat (first | (with_reducible refine ldL_n ?_) | refine ldL_s ?_ | refine ldL_c ?_)) | (with_reducible refine st_ad (by first | (with_reducible rfl) | (simp only [pt_add, Nat.zero_add, Nat.add_zero, Nat.reduceAdd]; with_reducible rfl)) ?_); (first | refine O.st 0 rfl (by simp) rfl fun h O => ?_ | refine O.st 1 rfl (by simp) rfl fun h O => ?_ | refine O.st 2 rfl (by simp) rfl fun h O => ?_ | refine O.st 3 rfl (by simp) rfl fun h O => ?_ | refine O.st 4 rfl (by simp) rfl fun h O => ?_ | refine O.st 5 rfl (by simp) rfl fun h O => ?_ | refine O.st 6 rfl (by simp) rfl fun h O => ?_); (dsimp only [V.put, List.set, List.length_cons, List.length_nil] at O) | (with_reducible refine ca_id ?_); (first | refine O.ca 0 1 rfl ?_ | refine O.ca 0 2 rfl ?_ | refine O.ca 1 1 rfl ?_ | refine O.ca 1 2 rfl ?_ | refine O.ca 2 1 rfl ?_ | refine O.ca 2 2 rfl ?_ | refine O.ca 3 1 rfl ?_ | refine O.ca 3 2 rfl ?_ | refine O.ca 4 1 rfl ?_ | refine O.ca 4 2 rfl ?_ | refine O.ca 5 1 rfl ?_ | refine O.ca 5 2 rfl ?_ | refine O.ca 6 1 rfl ?_ | refine O.ca 6 2 rfl ?_))
        refine hj _ ?_
        rw [e1]
        exact Sat.repI (s := v) (O.sel [0, 1, 2, 4, 5, 6] 7 rfl (Nat.le_add_left _ _))
      · have e1 : r.take_ m.epoch m.span = { r with prom := m.epoch, wait := 0 } := by
          unfold RS.take_ spanOf
          by_cases h0 : (0 : Int) > m.span
          · rw [if_pos h0]
          · rw [if_neg h0, show m.span = 0 by omega]
        refine hj _ ?_
        rw [e1]
        exact Sat.repI (s := v) (O.sel [0, 1, 2, 4, 5, 6] 7 rfl (Nat.le_add_left _ _))
    clear O
    intro h O
    simp only [ansC, mgC] at O
    have e : hearS r m = (r.take_ m.epoch m.span, HD.seal { hd0 with kind := 7, epoch := m.epoch, round := m.round, tak := true, chg := r.prom != m.epoch } m) := by rw [e0]; unfold beats; rw [if_neg hc]
    rw [e] at k
    repeat (first | (with_reducible refine al_id ?_); refine O.al fun _ h O => ?_ | (with_reducible refine nn_id ?_); refine ⟨_, rfl, ?_⟩ | (with_reducible refine ld_id ?_); (first | refine O.ld 0 rfl ?_ | refine O.ld 1 rfl ?_ | refine O.ld 2 rfl ?_ | refine O.ld 3 rfl ?_ | refine O.ld 4 rfl ?_); (repeat (first | (with_reducible refine ldL_n ?_) | refine ldL_s ?_ | refine ldL_c ?_)) | (with_reducible refine st_ad (by first | (with_reducible rfl) | (simp only [pt_add, Nat.zero_add, Nat.add_zero, Nat.reduceAdd]; with_reducible rfl)) ?_); (first | refine O.st 0 rfl (by simp) rfl fun h O => ?_ | refine O.st 1 rfl (by simp) rfl fun h O => ?_ | refine O.st 2 rfl (by simp) rfl fun h O => ?_ | refine O.st 3 rfl (by simp) rfl fun h O => ?_ | refine O.st 4 rfl (by simp) rfl fun h O => ?_); (dsimp only [V.put, List.set, List.length_cons, List.length_nil] at O) | (with_reducible refine ca_id ?_); (first | refine O.ca 0 1 rfl ?_ | refine O.ca 0 2 rfl ?_ | refine O.ca 1 1 rfl ?_ | refine O.ca 1 2 rfl ?_ | refine O.ca 2 1 rfl ?_ | refine O.ca 2 2 rfl ?_ | refine O.ca 3 1 rfl ?_ | refine O.ca 3 2 rfl ?_ | refine O.ca 4 1 rfl ?_ | refine O.ca 4 2 rfl ?_))
    rw [show (m.epoch != r.prom) = (r.prom != m.epoch) from by rw [Bool.eq_iff_iff]; simp; omega]
    exact k _ _ (O.sel [0] 5 rfl (Nat.le_add_left _ _)).nil_buf
  have e : hearS r m = (r, hd0) := by unfold hearS act; rw [if_neg k1, if_neg k4, if_neg k6]; rfl
  rw [e] at k
  repeat (first | (with_reducible refine al_id ?_); refine O.al fun _ h O => ?_ | (with_reducible refine nn_id ?_); refine ⟨_, rfl, ?_⟩ | (with_reducible refine ld_id ?_); (first | refine O.ld 0 rfl ?_ | refine O.ld 1 rfl ?_ | refine O.ld 2 rfl ?_ | refine O.ld 3 rfl ?_ | refine O.ld 4 rfl ?_ | refine O.ld 5 rfl ?_); (repeat (first | (with_reducible refine ldL_n ?_) | refine ldL_s ?_ | refine ldL_c ?_)) | (with_reducible refine st_ad (by first | (with_reducible rfl) | (simp only [pt_add, Nat.zero_add, Nat.add_zero, Nat.reduceAdd]; with_reducible rfl)) ?_); (first | refine O.st 0 rfl (by simp) rfl fun h O => ?_ | refine O.st 1 rfl (by simp) rfl fun h O => ?_ | refine O.st 2 rfl (by simp) rfl fun h O => ?_ | refine O.st 3 rfl (by simp) rfl fun h O => ?_ | refine O.st 4 rfl (by simp) rfl fun h O => ?_ | refine O.st 5 rfl (by simp) rfl fun h O => ?_); (dsimp only [V.put, List.set, List.length_cons, List.length_nil] at O) | (with_reducible refine ca_id ?_); (first | refine O.ca 0 1 rfl ?_ | refine O.ca 0 2 rfl ?_ | refine O.ca 1 1 rfl ?_ | refine O.ca 1 2 rfl ?_ | refine O.ca 2 1 rfl ?_ | refine O.ca 2 2 rfl ?_ | refine O.ca 3 1 rfl ?_ | refine O.ca 3 2 rfl ?_ | refine O.ca 4 1 rfl ?_ | refine O.ca 4 2 rfl ?_ | refine O.ca 5 1 rfl ?_ | refine O.ca 5 2 rfl ?_))
  exact k _ _ (O.sel [2] 6 rfl (Nat.le_add_left _ _)).nil_buf
end
end Go.Proofs.Ytcbelendjpnmiaa.V
/- Arrays that are filled one by one; an array at the head of a struct. -/
namespace Go.Proofs.Ytcbelendjpnmiaa.V
open Go Go.RowKit
set_option linter.unusedVariables false
set_option linter.unusedSimpArgs false
variable {α β : Type}
def optc (o : Option Addr) : List Value := [.pointer o]
theorem optc_len (x : Option Addr) : (optc x).length = 1 := rfl
theorem optc_one (x : Option Addr) : (optc x).all oneV = true := rfl
def natc (x : Nat) : List Value := [.int .i64 (x : Int)]
theorem natc_len (x : Nat) : (natc x).length = 1 := rfl
theorem natc_one (x : Nat) : (natc x).all oneV = true := rfl
theorem set_stage (f : α → β) (xs : List α) (n : Nat) (y : α) (z : β) (h : xs.length < n) : (xs.map f ++ List.replicate (n - xs.length) z).set xs.length (f y) = (xs ++ [y]).map f ++ List.replicate (n - (xs ++ [y]).length) z := by
  obtain ⟨k, hk⟩ : ∃ k, n - xs.length = k + 1 := ⟨n - xs.length - 1, by omega⟩
  have e : n - (xs ++ [y]).length = k := by rw [List.length_append]; simp; omega
  rw [hk, e, List.replicate_succ, List.map_append, List.append_assoc]
  have := List.set_append_right (s := xs.map f) (t := z :: List.replicate k z) xs.length (f y) (by simp)
  rw [this]
  simp
/-- An element of one cell at the head of a block is read, and lies there for as long as the block is kept. -/
theorem Sat.getN {h0 h : Heap} {L : List Res} (O : Sat h0 h L) (j : Nat) {b n : Nat} {enc : α → List Value} {xs : List α} {ys : List Value} {i : Int} {k : Kd} {K : Addr → k.T → Prop} {x : α} (he : ∀ x, (enc x).length = 1) (hj : nth j L = own b (xs.flatMap enc ++ ys)) (h0 : 0 ≤ i) (h1 : i < (n : Int)) (hx : xs[i.toNat]? = some x) (f : α → k.T) (hf : ∀ x, enc x = [k.enc (f x)])
    (kk : ∀ a, (∀ {h0' h' : Heap} {L' : List Res}, Sat h0' h' L' → ∀ j', nth j' L' = own b (xs.flatMap enc ++ ys) → cellsAre h' a (enc x)) → K a (f x)) : ixA 1 (pt b 0) n i fun a => V.ld [k] a h (K a) := by
  have hl := (List.getElem?_eq_some_iff.1 hx).1
  refine ⟨h0, h1, ?_⟩
  have hc : ∀ {h0' h' : Heap} {L' : List Res}, Sat h0' h' L' → ∀ j', nth j' L' = own b (xs.flatMap enc ++ ys) → cellsAre h' ((pt b 0).add (i.toNat * 1)) (enc x) := by
    intro h0' h' L' O' j' hj'
    have V := view_of_blk (k := 0) he (O'.blk (nth_lt hj') hj').2
    obtain ⟨a, cs, h1, _, h3, h4⟩ := V.2 i.toNat x hx
    have e : pt b 0 = a := Option.some.inj h1
    subst e
    have e2 : cs = enc x := h3
    subst e2
    exact h4
  have h1 := hc O j hj
  rw [hf] at h1
  exact ld_are h1 (ldL_c (ldL_n (kk _ hc)))
/-- A lent list is written full. -/
theorem fill_lent {h0 h : Heap} {L : List Res} {s : Sl} {zs : List UInt8} {Q : Heap → Prop} {ii : Nat} (O : Sat h0 h (lent s zs :: L)) (hs : s.len = zs.length) (hz : zs.length ≤ 4611686018427387904) (k : ∀ zs' h', zs'.length = zs.length → Sat h0 h' (lent s zs' :: L) → Q h') :
    wl [(ii, .one (.int .i64))] (fun (next : Int → Heap → Prop) (i : Int) (h : Heap) => brr (decide (i < ((s.len : Nat) : Int))) (ixS 1 s i fun (a : Addr) => st a [.int .u8 238] h fun (h' : Heap) => next (IntKind.i64.wrap (i + 1)) h') (Q h)) 0 h := by
  refine wl1 (k := .int .i64) (fun (m : Nat) (i : Int) (h' : Heap) => 0 ≤ i ∧ i + m = zs.length ∧ ∃ ys : List UInt8, ys.length = zs.length ∧ Sat h0 h' (lent s ys :: L)) ?_ (m := zs.length) ⟨by omega, by omega, zs, rfl, O⟩
  clear O
  intro m (i : Int) h next hn ⟨hi0, him, ys, hy, O⟩
  rw [hs]
  refine brr_p (fun hlt => ?_) (fun hlt => k ys _ hy O)
  refine O.putL hi0 (by omega) 238 rfl fun h O => ?_
  rw [wrap64 (by omega) (by omega)]
  exact hn (m - 1) _ _ (by omega) ⟨by omega, by omega, _, by simp [hy], O⟩
end Go.Proofs.Ytcbelendjpnmiaa.V
namespace Go.Proofs.Ytcbelendjpnmiaa.V
open Go Go.RowKit
set_option linter.unusedVariables false
set_option maxRecDepth 100000
def F_law1_at_of  (n1 k2 : Int) (h : Heap) (Q : Int → Heap → Prop) : Prop :=
  (2 : Int) ≠ 0 ∧
  brr ((k2.tmod 2) == 0)
  ((251 : Int) ≠ 0 ∧
  Q (IntKind.u8.wrap (IntKind.i64.wrap (1 + (n1.tmod 251)))) h)
  ((251 : Int) ≠ 0 ∧
  (251 : Int) ≠ 0 ∧
  Q (IntKind.u8.wrap (IntKind.i64.wrap (1 + ((IntKind.i64.wrap ((IntKind.i64.wrap (7 * n1)) + (IntKind.i64.wrap (n1.tdiv 251)))).tmod 251)))) h)
def F_law1_at (n1 k2 : Int) (h : Heap) (Q : Int → Heap → Prop) : Prop := F_law1_at_of  n1 k2 h Q
def plan88 : Plan := .s (.r [0, 1]) (.s (.s (.r [0, 7]) (.c (.s (.r [4]) .z) .z)) (.s (.r [4]) .z))
theorem F_law1_at.eq  (n1 k2 : Int) (h : Heap) (K : Value → Heap → Prop) : F_law1_at_of  n1 k2 h (fun (r0 : Int) (h : Heap) => K (.int .u8 r0) h) =
    den Try.prog noFns Try.f88.ntmps plan88 (bodyOf Try.f88) (args0 0 [(.int .i64 n1 : Value), (.int .i64 k2 : Value)]) h ⟨fun env h => dRes Try.prog Try.f88.results.toList env h K, fun _ _ _ => False, fun env h => dRes Try.prog Try.f88.results.toList env h K⟩ := by kernel_rfl
def E_law1_at_of (f : Int → Int → Heap → (Int → Heap → Prop) → Prop) : List Value → Heap → (Value → Heap → Prop) → Prop
  | [v0, v1], h, K => dec1 (.int .i64) v0 fun (n1 : Int) =>
  dec1 (.int .i64) v1 fun (k2 : Int) =>
  f n1 k2 h (fun (r0 : Int) (h : Heap) => K (.int .u8 r0) h)
  | _, _, _ => False
abbrev E_law1_at := E_law1_at_of F_law1_at
theorem E_law1_at.right : IsRight Try.prog 88 E_law1_at := by
  refine isRight fun vs K w hh => ?_
  match vs, hh with
  | [v0, v1], hh =>
    unfold E_law1_at E_law1_at_of at hh
    replace hh := dec1_sound hh; obtain ⟨n1, rfl, hh⟩ := hh
    replace hh := dec1_sound hh; obtain ⟨k2, rfl, hh⟩ := hh
    unfold F_law1_at at hh
    exact calls_den noFns_right plan88 _ w K Try.func88 (by kernel_rfl) (by kernel_rfl) (Eq.mp (F_law1_at.eq  n1 k2 w.heap K) hh)
theorem ok88 : okFn Try.prog 88 = true := by kernel_rfl
end Go.Proofs.Ytcbelendjpnmiaa.V
namespace Go.Proofs.Ytcbelendjpnmiaa.V
open Go Go.RowKit
set_option linter.unusedVariables false
set_option maxRecDepth 100000
def F_law1_two_of (f88_ : Int → Int → Heap → (Int → Heap → Prop) → Prop) (x1 : Sl) (m2 : Int) (h : Heap) (Q : Bool → Heap → Prop) : Prop :=
  jn [(4, .one .bool)] (fun (x12 : Bool) (h13 : Heap) =>
  Q x12 h13) (fun (j3 : Bool → Heap → Prop) =>
  brr (((x1.len : Nat) : Int) == 2)
  (ixS 1 x1 0 fun (a4 : Addr) =>
  ld [.int .u8] a4 h fun (v5 : Int) =>
  f88_ m2 0 h fun (r6 : Int) (h7 : Heap) =>
  cellsAre h7 a4 [.int .u8 v5] ∧
  brr (v5 == r6)
  (ixS 1 x1 1 fun (a8 : Addr) =>
  ld [.int .u8] a8 h7 fun (v9 : Int) =>
  f88_ m2 1 h7 fun (r10 : Int) (h11 : Heap) =>
  cellsAre h11 a8 [.int .u8 v9] ∧
  j3 (v9 == r10) h11)
  (j3 false h7))
  (j3 false h))
def F_law1_two (x1 : Sl) (m2 : Int) (h : Heap) (Q : Bool → Heap → Prop) : Prop := F_law1_two_of F_law1_at x1 m2 h Q
def plan98 : Plan := .s (.r [0, 1]) (.s (.dj [0, 1, 3, 7, 15, 31, 63, 15, 143, 511, 1023, 2047, 4095, 8191, 16383, 4095, 36863, 131071, 262143, 524287] [[0, 1, 2, 3, 4, 5, 6, 7, 8, 9, 10, 11, 12, 13, 14, 15, 16, 17, 18, 19]] [(4, .one .bool)] []) .z)
theorem F_law1_two.eq (f88_ : Int → Int → Heap → (Int → Heap → Prop) → Prop) (x1 : Sl) (m2 : Int) (h : Heap) (K : Value → Heap → Prop) : F_law1_two_of f88_ x1 m2 h (fun (r0 : Bool) (h : Heap) => K (.bool r0) h) =
    den Try.prog (fn1 88 (E_law1_at_of f88_) noFns) Try.f98.ntmps plan98 (bodyOf Try.f98) (args0 0 [(.slice x1.ptr x1.len x1.cap : Value), (.int .i64 m2 : Value)]) h ⟨fun env h => dRes Try.prog Try.f98.results.toList env h K, fun _ _ _ => False, fun env h => dRes Try.prog Try.f98.results.toList env h K⟩ := by kernel_rfl
def E_law1_two_of (f : Sl → Int → Heap → (Bool → Heap → Prop) → Prop) : List Value → Heap → (Value → Heap → Prop) → Prop
  | [v0, v1], h, K => dec1 .sl v0 fun (x1 : Sl) =>
  dec1 (.int .i64) v1 fun (m2 : Int) =>
  f x1 m2 h (fun (r0 : Bool) (h : Heap) => K (.bool r0) h)
  | _, _, _ => False
abbrev E_law1_two := E_law1_two_of F_law1_two
theorem E_law1_two.right : IsRight Try.prog 98 E_law1_two := by
  refine isRight fun vs K w hh => ?_
  match vs, hh with
  | [v0, v1], hh =>
    unfold E_law1_two E_law1_two_of at hh
    replace hh := dec1_sound hh; obtain ⟨x1, rfl, hh⟩ := hh
    replace hh := dec1_sound hh; obtain ⟨m2, rfl, hh⟩ := hh
    unfold F_law1_two at hh
    exact calls_den (fn1_right ok88 E_law1_at.right noFns_right) plan98 _ w K Try.func98 (by kernel_rfl) (by kernel_rfl) (Eq.mp (F_law1_two.eq F_law1_at x1 m2 w.heap K) hh)
theorem ok98 : okFn Try.prog 98 = true := by kernel_rfl
end Go.Proofs.Ytcbelendjpnmiaa.V
namespace Go.Proofs.Ytcbelendjpnmiaa.V
open Go Go.RowKit
set_option linter.unusedVariables false
set_option maxRecDepth 100000
def F_law1_Book_plain.l1 (f88_ : Int → Int → Heap → (Int → Heap → Prop) → Prop) (b1 : Option Addr) (Q : Bool → Heap → Prop) (i4 : Int) (j9 : Heap → Prop) : Int → Heap → Prop :=
  wl [(4, .one (.int .i64))] (fun (next10 : Int → Heap → Prop) (k11 : Int) (h12 : Heap) =>
  nn b1 fun (a13 : Addr) =>
  ld [.sl] (a13.add 0) h12 fun (v14 : Sl) =>
  ixS 1 v14 i4 fun (a15 : Addr) =>
  ld [.sl] a15 h12 fun (v16 : Sl) =>
  brr (decide (k11 < ((v16.len : Nat) : Int)))
  (nn b1 fun (a17 : Addr) =>
  ld [.sl] (a17.add 0) h12 fun (v18 : Sl) =>
  ixS 1 v18 i4 fun (a19 : Addr) =>
  ld [.sl] a19 h12 fun (v20 : Sl) =>
  ixS 1 v20 k11 fun (a21 : Addr) =>
  ld [.int .u8] a21 h12 fun (v22 : Int) =>
  nn b1 fun (a23 : Addr) =>
  ld [.sl] (a23.add 1) h12 fun (v24 : Sl) =>
  ixS 1 v24 i4 fun (a25 : Addr) =>
  ld [.int .i64] a25 h12 fun (v26 : Int) =>
  f88_ v26 k11 h12 fun (r27 : Int) (h28 : Heap) =>
  cellsAre h28 (a17.add 0) [.slice v18.ptr v18.len v18.cap] ∧
  cellsAre h28 a19 [.slice v20.ptr v20.len v20.cap] ∧
  cellsAre h28 a21 [.int .u8 v22] ∧
  brr (v22 != r27)
  (Q false h28)
  (next10 (IntKind.i64.wrap (k11 + 1)) h28))
  (j9 h12))
def F_law1_Book_plain.l2 (f88_ : Int → Int → Heap → (Int → Heap → Prop) → Prop) (b1 : Option Addr) (Q : Bool → Heap → Prop) (j2 : Heap → Prop) : Int → Heap → Prop :=
  wl [(3, .one (.int .i64))] (fun (next3 : Int → Heap → Prop) (i4 : Int) (h5 : Heap) =>
  nn b1 fun (a6 : Addr) =>
  ld [.sl] (a6.add 0) h5 fun (v7 : Sl) =>
  brr (decide (i4 < ((v7.len : Nat) : Int)))
  (jn [] (fun  (h30 : Heap) =>
  next3 (IntKind.i64.wrap (i4 + 1)) h30) (fun (j8 : Heap → Prop) =>
  jn [] (fun  (h29 : Heap) =>
  j8 h29) (fun (j9 : Heap → Prop) =>
  F_law1_Book_plain.l1 f88_ b1 Q i4 j9 0 h5)))
  (j2 h5))
def F_law1_Book_plain.l3 (f98_ : Sl → Int → Heap → (Bool → Heap → Prop) → Prop) (b1 : Option Addr) (Q : Bool → Heap → Prop) (i34 : Int) (j39 : Heap → Prop) : Int → Heap → Prop :=
  wl [(6, .one (.int .i64))] (fun (next40 : Int → Heap → Prop) (k41 : Int) (h42 : Heap) =>
  nn b1 fun (a43 : Addr) =>
  ld [.sl] (a43.add 3) h42 fun (v44 : Sl) =>
  ixS 1 v44 i34 fun (a45 : Addr) =>
  ld [.sl] a45 h42 fun (v46 : Sl) =>
  brr (decide (k41 < ((v46.len : Nat) : Int)))
  (nn b1 fun (a47 : Addr) =>
  ld [.sl] (a47.add 3) h42 fun (v48 : Sl) =>
  ixS 1 v48 i34 fun (a49 : Addr) =>
  ld [.sl] a49 h42 fun (v50 : Sl) =>
  ixS 1 v50 k41 fun (a51 : Addr) =>
  ld [.sl] a51 h42 fun (v52 : Sl) =>
  nn b1 fun (a53 : Addr) =>
  ld [.sl] (a53.add 4) h42 fun (v54 : Sl) =>
  ixS 1 v54 i34 fun (a55 : Addr) =>
  ld [.int .i64] a55 h42 fun (v56 : Int) =>
  f98_ v52 v56 h42 fun (r57 : Bool) (h58 : Heap) =>
  brr (!r57)
  (Q false h58)
  (next40 (IntKind.i64.wrap (k41 + 1)) h58))
  (j39 h42))
def F_law1_Book_plain.l4 (f98_ : Sl → Int → Heap → (Bool → Heap → Prop) → Prop) (b1 : Option Addr) (Q : Bool → Heap → Prop) (j32 : Heap → Prop) : Int → Heap → Prop :=
  wl [(5, .one (.int .i64))] (fun (next33 : Int → Heap → Prop) (i34 : Int) (h35 : Heap) =>
  nn b1 fun (a36 : Addr) =>
  ld [.sl] (a36.add 3) h35 fun (v37 : Sl) =>
  brr (decide (i34 < ((v37.len : Nat) : Int)))
  (jn [] (fun  (h60 : Heap) =>
  next33 (IntKind.i64.wrap (i34 + 1)) h60) (fun (j38 : Heap → Prop) =>
  jn [] (fun  (h59 : Heap) =>
  j38 h59) (fun (j39 : Heap → Prop) =>
  F_law1_Book_plain.l3 f98_ b1 Q i34 j39 0 h35)))
  (j32 h35))
def F_law1_Book_plain_of (f88_ : Int → Int → Heap → (Int → Heap → Prop) → Prop) (f98_ : Sl → Int → Heap → (Bool → Heap → Prop) → Prop) (b1 : Option Addr) (h : Heap) (Q : Bool → Heap → Prop) : Prop :=
  jn [] (fun  (h31 : Heap) =>
  jn [] (fun  (h61 : Heap) =>
  Q true h61) (fun (j32 : Heap → Prop) =>
  F_law1_Book_plain.l4 f98_ b1 Q j32 0 h31)) (fun (j2 : Heap → Prop) =>
  F_law1_Book_plain.l2 f88_ b1 Q j2 0 h)
def F_law1_Book_plain (b1 : Option Addr) (h : Heap) (Q : Bool → Heap → Prop) : Prop := F_law1_Book_plain_of F_law1_at F_law1_two b1 h Q
def plan72 : Plan := .s (.r [0]) (.s (.s (.r [0, 3]) (.bj [] [0] (.l [(3, .one (.int .i64))] [0] (.s (.s (.r [0, 3, 13]) (.c .z .z)) (.s (.bj [] [0, 3] (.s (.r [0, 3, 4]) (.bj [] [0, 3] (.l [(4, .one (.int .i64))] [0, 3] (.s (.s (.r [0, 3, 4, 25]) (.c .z .z)) (.s (.b (.s (.d [0, 1, 3, 7, 0, 31, 63, 0, 255, 511, 0, 1024, 3072, 7168, 0, 31744, 64512, 0, 261120, 524287] [[0, 1, 2, 3, 4, 5, 6, 7, 8, 9, 10, 11, 12, 13, 14, 15, 16, 17, 18, 19]] [0, 3, 4, 47]) (.c (.s (.r [2]) .z) .z))) (.r [0, 3, 4]))))))) (.r [0, 3])))))) (.s (.s (.r [0, 5]) (.bj [] [] (.l [(5, .one (.int .i64))] [0] (.s (.s (.r [0, 5, 54]) (.c .z .z)) (.s (.bj [] [0, 5] (.s (.r [0, 5, 6]) (.bj [] [0, 5] (.l [(6, .one (.int .i64))] [0, 5] (.s (.s (.r [0, 5, 6, 66]) (.c .z .z)) (.s (.b (.s (.d [0, 1, 3, 7, 0, 31, 63, 0, 255, 511, 0, 1024, 3072, 7168, 0, 31744, 64512, 131071, 262143] [[0, 1, 2, 3, 4, 5, 6, 7, 8, 9, 10, 11, 12, 13, 14, 15, 16, 17, 18]] [0, 5, 6, 87]) (.c (.s (.r [2]) .z) .z))) (.r [0, 5, 6]))))))) (.r [0, 5])))))) (.s (.r [2]) .z)))
theorem F_law1_Book_plain.eq (f88_ : Int → Int → Heap → (Int → Heap → Prop) → Prop) (f98_ : Sl → Int → Heap → (Bool → Heap → Prop) → Prop) (b1 : Option Addr) (h : Heap) (K : Value → Heap → Prop) : F_law1_Book_plain_of f88_ f98_ b1 h (fun (r0 : Bool) (h : Heap) => K (.bool r0) h) =
    den Try.prog (fn1 88 (E_law1_at_of f88_) (fn1 98 (E_law1_two_of f98_) noFns)) Try.f72.ntmps plan72 (bodyOf Try.f72) (args0 0 [(.pointer b1 : Value)]) h ⟨fun env h => dRes Try.prog Try.f72.results.toList env h K, fun _ _ _ => False, fun env h => dRes Try.prog Try.f72.results.toList env h K⟩ := by kernel_rfl
def E_law1_Book_plain_of (f : Option Addr → Heap → (Bool → Heap → Prop) → Prop) : List Value → Heap → (Value → Heap → Prop) → Prop
  | [v0], h, K => dec1 .ptr v0 fun (b1 : Option Addr) =>
  f b1 h (fun (r0 : Bool) (h : Heap) => K (.bool r0) h)
  | _, _, _ => False
abbrev E_law1_Book_plain := E_law1_Book_plain_of F_law1_Book_plain
theorem E_law1_Book_plain.right : IsRight Try.prog 72 E_law1_Book_plain := by
  refine isRight fun vs K w hh => ?_
  match vs, hh with
  | [v0], hh =>
    unfold E_law1_Book_plain E_law1_Book_plain_of at hh
    replace hh := dec1_sound hh; obtain ⟨b1, rfl, hh⟩ := hh
    unfold F_law1_Book_plain at hh
    exact calls_den (fn1_right ok88 E_law1_at.right (fn1_right ok98 E_law1_two.right noFns_right)) plan72 _ w K Try.func72 (by kernel_rfl) (by kernel_rfl) (Eq.mp (F_law1_Book_plain.eq F_law1_at F_law1_two b1 w.heap K) hh)
theorem ok72 : okFn Try.prog 72 = true := by kernel_rfl
end Go.Proofs.Ytcbelendjpnmiaa.V
namespace Go.Proofs.Ytcbelendjpnmiaa.V
open Go Go.RowKit
set_option linter.unusedVariables false
set_option maxRecDepth 100000
def F_law1_textsMark_of (f88_ : Int → Int → Heap → (Int → Heap → Prop) → Prop) (m1 : Int) (h : Heap) (Q : ByteArray → Heap → Prop) : Prop :=
  f88_ m1 0 h fun (r2 : Int) (h3 : Heap) =>
  f88_ m1 1 h3 fun (r4 : Int) (h5 : Heap) =>
  al 5 [.int .u8 r2, .int .u8 r4, .int .u8 33] h5 fun (a6 : Addr) (h7 : Heap) =>
  b2s (some a6) 3 h7 fun (s8 : ByteArray) =>
  Q s8 h7
def F_law1_textsMark (m1 : Int) (h : Heap) (Q : ByteArray → Heap → Prop) : Prop := F_law1_textsMark_of F_law1_at m1 h Q
def plan99 : Plan := .s (.r [0]) (.s (.r [2]) .z)
theorem F_law1_textsMark.eq (f88_ : Int → Int → Heap → (Int → Heap → Prop) → Prop) (m1 : Int) (h : Heap) (K : Value → Heap → Prop) : F_law1_textsMark_of f88_ m1 h (fun (r0 : ByteArray) (h : Heap) => K (.string r0) h) =
    den Try.prog (fn1 88 (E_law1_at_of f88_) noFns) Try.f99.ntmps plan99 (bodyOf Try.f99) (args0 0 [(.int .i64 m1 : Value)]) h ⟨fun env h => dRes Try.prog Try.f99.results.toList env h K, fun _ _ _ => False, fun env h => dRes Try.prog Try.f99.results.toList env h K⟩ := by kernel_rfl
def E_law1_textsMark_of (f : Int → Heap → (ByteArray → Heap → Prop) → Prop) : List Value → Heap → (Value → Heap → Prop) → Prop
  | [v0], h, K => dec1 (.int .i64) v0 fun (m1 : Int) =>
  f m1 h (fun (r0 : ByteArray) (h : Heap) => K (.string r0) h)
  | _, _, _ => False
abbrev E_law1_textsMark := E_law1_textsMark_of F_law1_textsMark
theorem E_law1_textsMark.right : IsRight Try.prog 99 E_law1_textsMark := by
  refine isRight fun vs K w hh => ?_
  match vs, hh with
  | [v0], hh =>
    unfold E_law1_textsMark E_law1_textsMark_of at hh
    replace hh := dec1_sound hh; obtain ⟨m1, rfl, hh⟩ := hh
    unfold F_law1_textsMark at hh
    exact calls_den (fn1_right ok88 E_law1_at.right noFns_right) plan99 _ w K Try.func99 (by kernel_rfl) (by kernel_rfl) (Eq.mp (F_law1_textsMark.eq F_law1_at m1 w.heap K) hh)
theorem ok99 : okFn Try.prog 99 = true := by kernel_rfl
end Go.Proofs.Ytcbelendjpnmiaa.V
namespace Go.Proofs.Ytcbelendjpnmiaa.V
open Go Go.RowKit
set_option linter.unusedVariables false
set_option maxRecDepth 100000
def F_law1_intsMark_of  (m1 : Int) (h : Heap) (Q : Int → Heap → Prop) : Prop :=
  Q (IntKind.i64.wrap (1000 + m1)) h
def F_law1_intsMark (m1 : Int) (h : Heap) (Q : Int → Heap → Prop) : Prop := F_law1_intsMark_of  m1 h Q
def plan100 : Plan := .s (.r [0]) (.s (.r [2]) .z)
theorem F_law1_intsMark.eq  (m1 : Int) (h : Heap) (K : Value → Heap → Prop) : F_law1_intsMark_of  m1 h (fun (r0 : Int) (h : Heap) => K (.int .i64 r0) h) =
    den Try.prog noFns Try.f100.ntmps plan100 (bodyOf Try.f100) (args0 0 [(.int .i64 m1 : Value)]) h ⟨fun env h => dRes Try.prog Try.f100.results.toList env h K, fun _ _ _ => False, fun env h => dRes Try.prog Try.f100.results.toList env h K⟩ := by kernel_rfl
def E_law1_intsMark_of (f : Int → Heap → (Int → Heap → Prop) → Prop) : List Value → Heap → (Value → Heap → Prop) → Prop
  | [v0], h, K => dec1 (.int .i64) v0 fun (m1 : Int) =>
  f m1 h (fun (r0 : Int) (h : Heap) => K (.int .i64 r0) h)
  | _, _, _ => False
abbrev E_law1_intsMark := E_law1_intsMark_of F_law1_intsMark
theorem E_law1_intsMark.right : IsRight Try.prog 100 E_law1_intsMark := by
  refine isRight fun vs K w hh => ?_
  match vs, hh with
  | [v0], hh =>
    unfold E_law1_intsMark E_law1_intsMark_of at hh
    replace hh := dec1_sound hh; obtain ⟨m1, rfl, hh⟩ := hh
    unfold F_law1_intsMark at hh
    exact calls_den noFns_right plan100 _ w K Try.func100 (by kernel_rfl) (by kernel_rfl) (Eq.mp (F_law1_intsMark.eq  m1 w.heap K) hh)
theorem ok100 : okFn Try.prog 100 = true := by kernel_rfl
end Go.Proofs.Ytcbelendjpnmiaa.V
namespace Go.Proofs.Ytcbelendjpnmiaa.V
open Go Go.RowKit
set_option linter.unusedVariables false
set_option maxRecDepth 100000
def F_law1_wordsMark_of  (m1 : Int) (h : Heap) (Q : Int → Heap → Prop) : Prop :=
  0 ≤ (20 : Int) ∧
  Q (IntKind.u64.wrap ((IntKind.u64.wrap m1) * 2 ^ min (20 : Int).toNat IntKind.u64.bits)) h
def F_law1_wordsMark (m1 : Int) (h : Heap) (Q : Int → Heap → Prop) : Prop := F_law1_wordsMark_of  m1 h Q
def plan101 : Plan := .s (.r [0]) (.s (.r [2]) .z)
theorem F_law1_wordsMark.eq  (m1 : Int) (h : Heap) (K : Value → Heap → Prop) : F_law1_wordsMark_of  m1 h (fun (r0 : Int) (h : Heap) => K (.int .u64 r0) h) =
    den Try.prog noFns Try.f101.ntmps plan101 (bodyOf Try.f101) (args0 0 [(.int .i64 m1 : Value)]) h ⟨fun env h => dRes Try.prog Try.f101.results.toList env h K, fun _ _ _ => False, fun env h => dRes Try.prog Try.f101.results.toList env h K⟩ := by kernel_rfl
def E_law1_wordsMark_of (f : Int → Heap → (Int → Heap → Prop) → Prop) : List Value → Heap → (Value → Heap → Prop) → Prop
  | [v0], h, K => dec1 (.int .i64) v0 fun (m1 : Int) =>
  f m1 h (fun (r0 : Int) (h : Heap) => K (.int .u64 r0) h)
  | _, _, _ => False
abbrev E_law1_wordsMark := E_law1_wordsMark_of F_law1_wordsMark
theorem E_law1_wordsMark.right : IsRight Try.prog 101 E_law1_wordsMark := by
  refine isRight fun vs K w hh => ?_
  match vs, hh with
  | [v0], hh =>
    unfold E_law1_wordsMark E_law1_wordsMark_of at hh
    replace hh := dec1_sound hh; obtain ⟨m1, rfl, hh⟩ := hh
    unfold F_law1_wordsMark at hh
    exact calls_den noFns_right plan101 _ w K Try.func101 (by kernel_rfl) (by kernel_rfl) (Eq.mp (F_law1_wordsMark.eq  m1 w.heap K) hh)
theorem ok101 : okFn Try.prog 101 = true := by kernel_rfl
end Go.Proofs.Ytcbelendjpnmiaa.V
namespace Go.Proofs.Ytcbelendjpnmiaa.V
open Go Go.RowKit
set_option linter.unusedVariables false
set_option maxRecDepth 100000
def F_law1_donesMark_of  (m1 : Int) (h : Heap) (Q : Int → Int → Int → Int → Int → Heap → Prop) : Prop :=
  al 150 [.int .i64 0, .int .u64 0, .int .i64 0, .int .i64 0, .int .u64 0] h fun (a2 : Addr) (h3 : Heap) =>
  0 ≤ (20 : Int) ∧
  st a2 [.int .i64 0, .int .u64 (IntKind.u64.wrap ((IntKind.u64.wrap m1) * 2 ^ min (20 : Int).toNat IntKind.u64.bits)), .int .i64 0, .int .i64 0, .int .u64 0] h3 fun (h4 : Heap) =>
  ld [.int .i64, .int .u64, .int .i64, .int .i64, .int .u64] a2 h4 fun (v5 v6 v7 v8 v9 : Int) =>
  Q v5 v6 v7 v8 v9 h4
def F_law1_donesMark (m1 : Int) (h : Heap) (Q : Int → Int → Int → Int → Int → Heap → Prop) : Prop := F_law1_donesMark_of  m1 h Q
def plan102 : Plan := .s (.r [0, 2]) (.s (.r [2]) .z)
theorem F_law1_donesMark.eq  (m1 : Int) (h : Heap) (K : Value → Heap → Prop) : F_law1_donesMark_of  m1 h (fun (r0 r1 r2 r3 r4 : Int) (h : Heap) => K (.agg #[.int .i64 r0, .int .u64 r1, .int .i64 r2, .int .i64 r3, .int .u64 r4]) h) =
    den Try.prog noFns Try.f102.ntmps plan102 (bodyOf Try.f102) (args0 0 [(.int .i64 m1 : Value)]) h ⟨fun env h => dRes Try.prog Try.f102.results.toList env h K, fun _ _ _ => False, fun env h => dRes Try.prog Try.f102.results.toList env h K⟩ := by kernel_rfl
def E_law1_donesMark_of (f : Int → Heap → (Int → Int → Int → Int → Int → Heap → Prop) → Prop) : List Value → Heap → (Value → Heap → Prop) → Prop
  | [v0], h, K => dec1 (.int .i64) v0 fun (m1 : Int) =>
  f m1 h (fun (r0 r1 r2 r3 r4 : Int) (h : Heap) => K (.agg #[.int .i64 r0, .int .u64 r1, .int .i64 r2, .int .i64 r3, .int .u64 r4]) h)
  | _, _, _ => False
abbrev E_law1_donesMark := E_law1_donesMark_of F_law1_donesMark
theorem E_law1_donesMark.right : IsRight Try.prog 102 E_law1_donesMark := by
  refine isRight fun vs K w hh => ?_
  match vs, hh with
  | [v0], hh =>
    unfold E_law1_donesMark E_law1_donesMark_of at hh
    replace hh := dec1_sound hh; obtain ⟨m1, rfl, hh⟩ := hh
    unfold F_law1_donesMark at hh
    exact calls_den noFns_right plan102 _ w K Try.func102 (by kernel_rfl) (by kernel_rfl) (Eq.mp (F_law1_donesMark.eq  m1 w.heap K) hh)
theorem ok102 : okFn Try.prog 102 = true := by kernel_rfl
end Go.Proofs.Ytcbelendjpnmiaa.V
namespace Go.Proofs.Ytcbelendjpnmiaa.V
open Go Go.RowKit
set_option linter.unusedVariables false
set_option maxRecDepth 100000
def F_law1_Book_kept.l1 (f99_ : Int → Heap → (ByteArray → Heap → Prop) → Prop) (b1 : Option Addr) (Q : Bool → Heap → Prop) (i4 : Int) (j9 : Heap → Prop) : Int → Heap → Prop :=
  wl [(4, .one (.int .i64))] (fun (next10 : Int → Heap → Prop) (k11 : Int) (h12 : Heap) =>
  nn b1 fun (a13 : Addr) =>
  ld [.sl] (a13.add 6) h12 fun (v14 : Sl) =>
  ixS 1 v14 i4 fun (a15 : Addr) =>
  ld [.sl] a15 h12 fun (v16 : Sl) =>
  brr (decide (k11 < ((v16.len : Nat) : Int)))
  (nn b1 fun (a17 : Addr) =>
  ld [.sl] (a17.add 6) h12 fun (v18 : Sl) =>
  ixS 1 v18 i4 fun (a19 : Addr) =>
  ld [.sl] a19 h12 fun (v20 : Sl) =>
  ixS 1 v20 k11 fun (a21 : Addr) =>
  ld [.str] a21 h12 fun (v22 : ByteArray) =>
  nn b1 fun (a23 : Addr) =>
  ld [.sl] (a23.add 7) h12 fun (v24 : Sl) =>
  ixS 1 v24 i4 fun (a25 : Addr) =>
  ld [.int .i64] a25 h12 fun (v26 : Int) =>
  f99_ v26 h12 fun (r27 : ByteArray) (h28 : Heap) =>
  cellsAre h28 (a17.add 6) [.slice v18.ptr v18.len v18.cap] ∧
  cellsAre h28 a19 [.slice v20.ptr v20.len v20.cap] ∧
  cellsAre h28 a21 [.string v22] ∧
  brr (!(v22.toList == r27.toList))
  (Q false h28)
  (next10 (IntKind.i64.wrap (k11 + 1)) h28))
  (j9 h12))
def F_law1_Book_kept.l2 (f99_ : Int → Heap → (ByteArray → Heap → Prop) → Prop) (b1 : Option Addr) (Q : Bool → Heap → Prop) (j2 : Heap → Prop) : Int → Heap → Prop :=
  wl [(3, .one (.int .i64))] (fun (next3 : Int → Heap → Prop) (i4 : Int) (h5 : Heap) =>
  nn b1 fun (a6 : Addr) =>
  ld [.sl] (a6.add 6) h5 fun (v7 : Sl) =>
  brr (decide (i4 < ((v7.len : Nat) : Int)))
  (jn [] (fun  (h30 : Heap) =>
  next3 (IntKind.i64.wrap (i4 + 1)) h30) (fun (j8 : Heap → Prop) =>
  jn [] (fun  (h29 : Heap) =>
  j8 h29) (fun (j9 : Heap → Prop) =>
  F_law1_Book_kept.l1 f99_ b1 Q i4 j9 0 h5)))
  (j2 h5))
def F_law1_Book_kept.l3 (f100_ : Int → Heap → (Int → Heap → Prop) → Prop) (b1 : Option Addr) (Q : Bool → Heap → Prop) (i34 : Int) (j39 : Heap → Prop) : Int → Heap → Prop :=
  wl [(6, .one (.int .i64))] (fun (next40 : Int → Heap → Prop) (k41 : Int) (h42 : Heap) =>
  nn b1 fun (a43 : Addr) =>
  ld [.sl] (a43.add 9) h42 fun (v44 : Sl) =>
  ixS 1 v44 i34 fun (a45 : Addr) =>
  ld [.sl] a45 h42 fun (v46 : Sl) =>
  brr (decide (k41 < ((v46.len : Nat) : Int)))
  (nn b1 fun (a47 : Addr) =>
  ld [.sl] (a47.add 9) h42 fun (v48 : Sl) =>
  ixS 1 v48 i34 fun (a49 : Addr) =>
  ld [.sl] a49 h42 fun (v50 : Sl) =>
  ixS 1 v50 k41 fun (a51 : Addr) =>
  ld [.int .i64] a51 h42 fun (v52 : Int) =>
  nn b1 fun (a53 : Addr) =>
  ld [.sl] (a53.add 10) h42 fun (v54 : Sl) =>
  ixS 1 v54 i34 fun (a55 : Addr) =>
  ld [.int .i64] a55 h42 fun (v56 : Int) =>
  f100_ v56 h42 fun (r57 : Int) (h58 : Heap) =>
  cellsAre h58 (a47.add 9) [.slice v48.ptr v48.len v48.cap] ∧
  cellsAre h58 a49 [.slice v50.ptr v50.len v50.cap] ∧
  cellsAre h58 a51 [.int .i64 v52] ∧
  brr (v52 != r57)
  (Q false h58)
  (next40 (IntKind.i64.wrap (k41 + 1)) h58))
  (j39 h42))
def F_law1_Book_kept.l4 (f100_ : Int → Heap → (Int → Heap → Prop) → Prop) (b1 : Option Addr) (Q : Bool → Heap → Prop) (j32 : Heap → Prop) : Int → Heap → Prop :=
  wl [(5, .one (.int .i64))] (fun (next33 : Int → Heap → Prop) (i34 : Int) (h35 : Heap) =>
  nn b1 fun (a36 : Addr) =>
  ld [.sl] (a36.add 9) h35 fun (v37 : Sl) =>
  brr (decide (i34 < ((v37.len : Nat) : Int)))
  (jn [] (fun  (h60 : Heap) =>
  next33 (IntKind.i64.wrap (i34 + 1)) h60) (fun (j38 : Heap → Prop) =>
  jn [] (fun  (h59 : Heap) =>
  j38 h59) (fun (j39 : Heap → Prop) =>
  F_law1_Book_kept.l3 f100_ b1 Q i34 j39 0 h35)))
  (j32 h35))
def F_law1_Book_kept.l5 (f101_ : Int → Heap → (Int → Heap → Prop) → Prop) (b1 : Option Addr) (Q : Bool → Heap → Prop) (i64 : Int) (j69 : Heap → Prop) : Int → Heap → Prop :=
  wl [(8, .one (.int .i64))] (fun (next70 : Int → Heap → Prop) (k71 : Int) (h72 : Heap) =>
  nn b1 fun (a73 : Addr) =>
  ld [.sl] (a73.add 12) h72 fun (v74 : Sl) =>
  ixS 1 v74 i64 fun (a75 : Addr) =>
  ld [.sl] a75 h72 fun (v76 : Sl) =>
  brr (decide (k71 < ((v76.len : Nat) : Int)))
  (nn b1 fun (a77 : Addr) =>
  ld [.sl] (a77.add 12) h72 fun (v78 : Sl) =>
  ixS 1 v78 i64 fun (a79 : Addr) =>
  ld [.sl] a79 h72 fun (v80 : Sl) =>
  ixS 1 v80 k71 fun (a81 : Addr) =>
  ld [.int .u64] a81 h72 fun (v82 : Int) =>
  nn b1 fun (a83 : Addr) =>
  ld [.sl] (a83.add 13) h72 fun (v84 : Sl) =>
  ixS 1 v84 i64 fun (a85 : Addr) =>
  ld [.int .i64] a85 h72 fun (v86 : Int) =>
  f101_ v86 h72 fun (r87 : Int) (h88 : Heap) =>
  cellsAre h88 (a77.add 12) [.slice v78.ptr v78.len v78.cap] ∧
  cellsAre h88 a79 [.slice v80.ptr v80.len v80.cap] ∧
  cellsAre h88 a81 [.int .u64 v82] ∧
  brr (v82 != r87)
  (Q false h88)
  (next70 (IntKind.i64.wrap (k71 + 1)) h88))
  (j69 h72))
def F_law1_Book_kept.l6 (f101_ : Int → Heap → (Int → Heap → Prop) → Prop) (b1 : Option Addr) (Q : Bool → Heap → Prop) (j62 : Heap → Prop) : Int → Heap → Prop :=
  wl [(7, .one (.int .i64))] (fun (next63 : Int → Heap → Prop) (i64 : Int) (h65 : Heap) =>
  nn b1 fun (a66 : Addr) =>
  ld [.sl] (a66.add 12) h65 fun (v67 : Sl) =>
  brr (decide (i64 < ((v67.len : Nat) : Int)))
  (jn [] (fun  (h90 : Heap) =>
  next63 (IntKind.i64.wrap (i64 + 1)) h90) (fun (j68 : Heap → Prop) =>
  jn [] (fun  (h89 : Heap) =>
  j68 h89) (fun (j69 : Heap → Prop) =>
  F_law1_Book_kept.l5 f101_ b1 Q i64 j69 0 h65)))
  (j62 h65))
def F_law1_Book_kept.l7 (f102_ : Int → Heap → (Int → Int → Int → Int → Int → Heap → Prop) → Prop) (b1 : Option Addr) (Q : Bool → Heap → Prop) (i94 : Int) (j99 : Heap → Prop) : Int → Heap → Prop :=
  wl [(10, .one (.int .i64))] (fun (next100 : Int → Heap → Prop) (k101 : Int) (h102 : Heap) =>
  nn b1 fun (a103 : Addr) =>
  ld [.sl] (a103.add 15) h102 fun (v104 : Sl) =>
  ixS 1 v104 i94 fun (a105 : Addr) =>
  ld [.sl] a105 h102 fun (v106 : Sl) =>
  brr (decide (k101 < ((v106.len : Nat) : Int)))
  (nn b1 fun (a107 : Addr) =>
  ld [.sl] (a107.add 15) h102 fun (v108 : Sl) =>
  ixS 1 v108 i94 fun (a109 : Addr) =>
  ld [.sl] a109 h102 fun (v110 : Sl) =>
  ixS 5 v110 k101 fun (a111 : Addr) =>
  ld [.int .i64, .int .u64, .int .i64, .int .i64, .int .u64] a111 h102 fun (v112 v113 v114 v115 v116 : Int) =>
  nn b1 fun (a117 : Addr) =>
  ld [.sl] (a117.add 16) h102 fun (v118 : Sl) =>
  ixS 1 v118 i94 fun (a119 : Addr) =>
  ld [.int .i64] a119 h102 fun (v120 : Int) =>
  f102_ v120 h102 fun (r121 r122 r123 r124 r125 : Int) (h126 : Heap) =>
  cellsAre h126 (a107.add 15) [.slice v108.ptr v108.len v108.cap] ∧
  cellsAre h126 a109 [.slice v110.ptr v110.len v110.cap] ∧
  cellsAre h126 a111 [.int .i64 v112, .int .u64 v113, .int .i64 v114, .int .i64 v115, .int .u64 v116] ∧
  brr (!((v112 == r121) && ((v113 == r122) && ((v114 == r123) && ((v115 == r124) && ((v116 == r125) && (true)))))))
  (Q false h126)
  (next100 (IntKind.i64.wrap (k101 + 1)) h126))
  (j99 h102))
def F_law1_Book_kept.l8 (f102_ : Int → Heap → (Int → Int → Int → Int → Int → Heap → Prop) → Prop) (b1 : Option Addr) (Q : Bool → Heap → Prop) (j92 : Heap → Prop) : Int → Heap → Prop :=
  wl [(9, .one (.int .i64))] (fun (next93 : Int → Heap → Prop) (i94 : Int) (h95 : Heap) =>
  nn b1 fun (a96 : Addr) =>
  ld [.sl] (a96.add 15) h95 fun (v97 : Sl) =>
  brr (decide (i94 < ((v97.len : Nat) : Int)))
  (jn [] (fun  (h128 : Heap) =>
  next93 (IntKind.i64.wrap (i94 + 1)) h128) (fun (j98 : Heap → Prop) =>
  jn [] (fun  (h127 : Heap) =>
  j98 h127) (fun (j99 : Heap → Prop) =>
  F_law1_Book_kept.l7 f102_ b1 Q i94 j99 0 h95)))
  (j92 h95))
def F_law1_Book_kept_of (f99_ : Int → Heap → (ByteArray → Heap → Prop) → Prop) (f100_ : Int → Heap → (Int → Heap → Prop) → Prop) (f101_ : Int → Heap → (Int → Heap → Prop) → Prop) (f102_ : Int → Heap → (Int → Int → Int → Int → Int → Heap → Prop) → Prop) (b1 : Option Addr) (h : Heap) (Q : Bool → Heap → Prop) : Prop :=
  jn [] (fun  (h31 : Heap) =>
  jn [] (fun  (h61 : Heap) =>
  jn [] (fun  (h91 : Heap) =>
  jn [] (fun  (h129 : Heap) =>
  Q true h129) (fun (j92 : Heap → Prop) =>
  F_law1_Book_kept.l8 f102_ b1 Q j92 0 h91)) (fun (j62 : Heap → Prop) =>
  F_law1_Book_kept.l6 f101_ b1 Q j62 0 h61)) (fun (j32 : Heap → Prop) =>
  F_law1_Book_kept.l4 f100_ b1 Q j32 0 h31)) (fun (j2 : Heap → Prop) =>
  F_law1_Book_kept.l2 f99_ b1 Q j2 0 h)
def F_law1_Book_kept (b1 : Option Addr) (h : Heap) (Q : Bool → Heap → Prop) : Prop := F_law1_Book_kept_of F_law1_textsMark F_law1_intsMark F_law1_wordsMark F_law1_donesMark b1 h Q
def plan73 : Plan := .s (.r [0]) (.s (.s (.r [0, 3]) (.bj [] [0] (.l [(3, .one (.int .i64))] [0] (.s (.s (.r [0, 3, 17]) (.c .z .z)) (.s (.bj [] [0, 3] (.s (.r [0, 3, 4]) (.bj [] [0, 3] (.l [(4, .one (.int .i64))] [0, 3] (.s (.s (.r [0, 3, 4, 29]) (.c .z .z)) (.s (.b (.s (.d [0, 1, 3, 7, 0, 31, 63, 0, 255, 511, 0, 1024, 3072, 7168, 0, 31744, 64512, 130048, 262143] [[0, 1, 2, 3, 4, 5, 6, 7, 8, 9, 10, 11, 12, 13, 14, 15, 16, 17, 18]] [0, 3, 4, 50]) (.c (.s (.r [2]) .z) .z))) (.r [0, 3, 4]))))))) (.r [0, 3])))))) (.s (.s (.r [0, 5]) (.bj [] [0] (.l [(5, .one (.int .i64))] [0] (.s (.s (.r [0, 5, 57]) (.c .z .z)) (.s (.bj [] [0, 5] (.s (.r [0, 5, 6]) (.bj [] [0, 5] (.l [(6, .one (.int .i64))] [0, 5] (.s (.s (.r [0, 5, 6, 69]) (.c .z .z)) (.s (.b (.s (.d [0, 1, 3, 7, 0, 31, 63, 0, 255, 511, 0, 1024, 3072, 7168, 0, 31744, 64512, 130048, 262143] [[0, 1, 2, 3, 4, 5, 6, 7, 8, 9, 10, 11, 12, 13, 14, 15, 16, 17, 18]] [0, 5, 6, 90]) (.c (.s (.r [2]) .z) .z))) (.r [0, 5, 6]))))))) (.r [0, 5])))))) (.s (.s (.r [0, 7]) (.bj [] [0] (.l [(7, .one (.int .i64))] [0] (.s (.s (.r [0, 7, 97]) (.c .z .z)) (.s (.bj [] [0, 7] (.s (.r [0, 7, 8]) (.bj [] [0, 7] (.l [(8, .one (.int .i64))] [0, 7] (.s (.s (.r [0, 7, 8, 109]) (.c .z .z)) (.s (.b (.s (.d [0, 1, 3, 7, 0, 31, 63, 0, 255, 511, 0, 1024, 3072, 7168, 0, 31744, 64512, 130048, 262143] [[0, 1, 2, 3, 4, 5, 6, 7, 8, 9, 10, 11, 12, 13, 14, 15, 16, 17, 18]] [0, 7, 8, 130]) (.c (.s (.r [2]) .z) .z))) (.r [0, 7, 8]))))))) (.r [0, 7])))))) (.s (.s (.r [0, 9]) (.bj [] [] (.l [(9, .one (.int .i64))] [0] (.s (.s (.r [0, 9, 137]) (.c .z .z)) (.s (.bj [] [0, 9] (.s (.r [0, 9, 10]) (.bj [] [0, 9] (.l [(10, .one (.int .i64))] [0, 9] (.s (.s (.r [0, 9, 10, 149]) (.c .z .z)) (.s (.b (.s (.d [0, 1, 3, 7, 0, 31, 63, 0, 255, 511, 0, 1024, 3072, 7168, 0, 31744, 64512, 130048, 262143] [[0, 1, 2, 3, 4, 5, 6, 7, 8, 9, 10, 11, 12, 13, 14, 15, 16, 17, 18]] [0, 9, 10, 170]) (.c (.s (.r [2]) .z) .z))) (.r [0, 9, 10]))))))) (.r [0, 9])))))) (.s (.r [2]) .z)))))
theorem F_law1_Book_kept.eq (f99_ : Int → Heap → (ByteArray → Heap → Prop) → Prop) (f100_ : Int → Heap → (Int → Heap → Prop) → Prop) (f101_ : Int → Heap → (Int → Heap → Prop) → Prop) (f102_ : Int → Heap → (Int → Int → Int → Int → Int → Heap → Prop) → Prop) (b1 : Option Addr) (h : Heap) (K : Value → Heap → Prop) : F_law1_Book_kept_of f99_ f100_ f101_ f102_ b1 h (fun (r0 : Bool) (h : Heap) => K (.bool r0) h) =
    den Try.prog (fn1 99 (E_law1_textsMark_of f99_) (fn1 100 (E_law1_intsMark_of f100_) (fn1 101 (E_law1_wordsMark_of f101_) (fn1 102 (E_law1_donesMark_of f102_) noFns)))) Try.f73.ntmps plan73 (bodyOf Try.f73) (args0 0 [(.pointer b1 : Value)]) h ⟨fun env h => dRes Try.prog Try.f73.results.toList env h K, fun _ _ _ => False, fun env h => dRes Try.prog Try.f73.results.toList env h K⟩ := by kernel_rfl
def E_law1_Book_kept_of (f : Option Addr → Heap → (Bool → Heap → Prop) → Prop) : List Value → Heap → (Value → Heap → Prop) → Prop
  | [v0], h, K => dec1 .ptr v0 fun (b1 : Option Addr) =>
  f b1 h (fun (r0 : Bool) (h : Heap) => K (.bool r0) h)
  | _, _, _ => False
abbrev E_law1_Book_kept := E_law1_Book_kept_of F_law1_Book_kept
theorem E_law1_Book_kept.right : IsRight Try.prog 73 E_law1_Book_kept := by
  refine isRight fun vs K w hh => ?_
  match vs, hh with
  | [v0], hh =>
    unfold E_law1_Book_kept E_law1_Book_kept_of at hh
    replace hh := dec1_sound hh; obtain ⟨b1, rfl, hh⟩ := hh
    unfold F_law1_Book_kept at hh
    exact calls_den (fn1_right ok99 E_law1_textsMark.right (fn1_right ok100 E_law1_intsMark.right (fn1_right ok101 E_law1_wordsMark.right (fn1_right ok102 E_law1_donesMark.right noFns_right)))) plan73 _ w K Try.func73 (by kernel_rfl) (by kernel_rfl) (Eq.mp (F_law1_Book_kept.eq F_law1_textsMark F_law1_intsMark F_law1_wordsMark F_law1_donesMark b1 w.heap K) hh)
theorem ok73 : okFn Try.prog 73 = true := by kernel_rfl
end Go.Proofs.Ytcbelendjpnmiaa.V
namespace Go.Proofs.Ytcbelendjpnmiaa.V
open Go Go.RowKit
set_option linter.unusedVariables false
set_option maxRecDepth 100000
def F_law1_acctsMark_of  (m1 : Int) (h : Heap) (Q : ByteArray → Int → Heap → Prop) : Prop :=
  al 152 [.string (⟨#[]⟩ : ByteArray), .int .u64 0] h fun (a2 : Addr) (h3 : Heap) =>
  0 ≤ (20 : Int) ∧
  st a2 [.string (⟨#[]⟩ : ByteArray), .int .u64 (IntKind.u64.wrap ((IntKind.u64.wrap m1) * 2 ^ min (20 : Int).toNat IntKind.u64.bits))] h3 fun (h4 : Heap) =>
  ld [.str, .int .u64] a2 h4 fun (v5 : ByteArray) (v6 : Int) =>
  Q v5 v6 h4
def F_law1_acctsMark (m1 : Int) (h : Heap) (Q : ByteArray → Int → Heap → Prop) : Prop := F_law1_acctsMark_of  m1 h Q
def plan103 : Plan := .s (.r [0, 2]) (.s (.r [2]) .z)
theorem F_law1_acctsMark.eq  (m1 : Int) (h : Heap) (K : Value → Heap → Prop) : F_law1_acctsMark_of  m1 h (fun (r0 : ByteArray) (r1 : Int) (h : Heap) => K (.agg #[.string r0, .int .u64 r1]) h) =
    den Try.prog noFns Try.f103.ntmps plan103 (bodyOf Try.f103) (args0 0 [(.int .i64 m1 : Value)]) h ⟨fun env h => dRes Try.prog Try.f103.results.toList env h K, fun _ _ _ => False, fun env h => dRes Try.prog Try.f103.results.toList env h K⟩ := by kernel_rfl
def E_law1_acctsMark_of (f : Int → Heap → (ByteArray → Int → Heap → Prop) → Prop) : List Value → Heap → (Value → Heap → Prop) → Prop
  | [v0], h, K => dec1 (.int .i64) v0 fun (m1 : Int) =>
  f m1 h (fun (r0 : ByteArray) (r1 : Int) (h : Heap) => K (.agg #[.string r0, .int .u64 r1]) h)
  | _, _, _ => False
abbrev E_law1_acctsMark := E_law1_acctsMark_of F_law1_acctsMark
theorem E_law1_acctsMark.right : IsRight Try.prog 103 E_law1_acctsMark := by
  refine isRight fun vs K w hh => ?_
  match vs, hh with
  | [v0], hh =>
    unfold E_law1_acctsMark E_law1_acctsMark_of at hh
    replace hh := dec1_sound hh; obtain ⟨m1, rfl, hh⟩ := hh
    unfold F_law1_acctsMark at hh
    exact calls_den noFns_right plan103 _ w K Try.func103 (by kernel_rfl) (by kernel_rfl) (Eq.mp (F_law1_acctsMark.eq  m1 w.heap K) hh)
theorem ok103 : okFn Try.prog 103 = true := by kernel_rfl
end Go.Proofs.Ytcbelendjpnmiaa.V
namespace Go.Proofs.Ytcbelendjpnmiaa.V
open Go Go.RowKit
set_option linter.unusedVariables false
set_option maxRecDepth 100000
def F_law1_queueMark_of  (m1 : Int) (h : Heap) (Q : Int → Int → ByteArray → Int → Heap → Prop) : Prop :=
  al 154 [.int .i64 0, .int .u64 0, .string (⟨#[]⟩ : ByteArray), .int .u64 0] h fun (a2 : Addr) (h3 : Heap) =>
  0 ≤ (20 : Int) ∧
  st a2 [.int .i64 0, .int .u64 (IntKind.u64.wrap ((IntKind.u64.wrap m1) * 2 ^ min (20 : Int).toNat IntKind.u64.bits)), .string (⟨#[]⟩ : ByteArray), .int .u64 0] h3 fun (h4 : Heap) =>
  ld [.int .i64, .int .u64, .str, .int .u64] a2 h4 fun (v5 v6 : Int) (v7 : ByteArray) (v8 : Int) =>
  Q v5 v6 v7 v8 h4
def F_law1_queueMark (m1 : Int) (h : Heap) (Q : Int → Int → ByteArray → Int → Heap → Prop) : Prop := F_law1_queueMark_of  m1 h Q
def plan104 : Plan := .s (.r [0, 2]) (.s (.r [2]) .z)
theorem F_law1_queueMark.eq  (m1 : Int) (h : Heap) (K : Value → Heap → Prop) : F_law1_queueMark_of  m1 h (fun (r0 r1 : Int) (r2 : ByteArray) (r3 : Int) (h : Heap) => K (.agg #[.int .i64 r0, .int .u64 r1, .string r2, .int .u64 r3]) h) =
    den Try.prog noFns Try.f104.ntmps plan104 (bodyOf Try.f104) (args0 0 [(.int .i64 m1 : Value)]) h ⟨fun env h => dRes Try.prog Try.f104.results.toList env h K, fun _ _ _ => False, fun env h => dRes Try.prog Try.f104.results.toList env h K⟩ := by kernel_rfl
def E_law1_queueMark_of (f : Int → Heap → (Int → Int → ByteArray → Int → Heap → Prop) → Prop) : List Value → Heap → (Value → Heap → Prop) → Prop
  | [v0], h, K => dec1 (.int .i64) v0 fun (m1 : Int) =>
  f m1 h (fun (r0 r1 : Int) (r2 : ByteArray) (r3 : Int) (h : Heap) => K (.agg #[.int .i64 r0, .int .u64 r1, .string r2, .int .u64 r3]) h)
  | _, _, _ => False
abbrev E_law1_queueMark := E_law1_queueMark_of F_law1_queueMark
theorem E_law1_queueMark.right : IsRight Try.prog 104 E_law1_queueMark := by
  refine isRight fun vs K w hh => ?_
  match vs, hh with
  | [v0], hh =>
    unfold E_law1_queueMark E_law1_queueMark_of at hh
    replace hh := dec1_sound hh; obtain ⟨m1, rfl, hh⟩ := hh
    unfold F_law1_queueMark at hh
    exact calls_den noFns_right plan104 _ w K Try.func104 (by kernel_rfl) (by kernel_rfl) (Eq.mp (F_law1_queueMark.eq  m1 w.heap K) hh)
theorem ok104 : okFn Try.prog 104 = true := by kernel_rfl
end Go.Proofs.Ytcbelendjpnmiaa.V
namespace Go.Proofs.Ytcbelendjpnmiaa.V
open Go Go.RowKit
set_option linter.unusedVariables false
set_option maxRecDepth 100000
def F_law1_slotsMark_of  (m1 : Int) (h : Heap) (Q : Int → Int → Int → Int → Heap → Prop) : Prop :=
  al 156 [.int .u64 0, .int .i64 0, .int .i64 0, .int .u64 0] h fun (a2 : Addr) (h3 : Heap) =>
  0 ≤ (20 : Int) ∧
  st a2 [.int .u64 (IntKind.u64.wrap ((IntKind.u64.wrap m1) * 2 ^ min (20 : Int).toNat IntKind.u64.bits)), .int .i64 0, .int .i64 0, .int .u64 0] h3 fun (h4 : Heap) =>
  ld [.int .u64, .int .i64, .int .i64, .int .u64] a2 h4 fun (v5 v6 v7 v8 : Int) =>
  Q v5 v6 v7 v8 h4
def F_law1_slotsMark (m1 : Int) (h : Heap) (Q : Int → Int → Int → Int → Heap → Prop) : Prop := F_law1_slotsMark_of  m1 h Q
def plan105 : Plan := .s (.r [0, 2]) (.s (.r [2]) .z)
theorem F_law1_slotsMark.eq  (m1 : Int) (h : Heap) (K : Value → Heap → Prop) : F_law1_slotsMark_of  m1 h (fun (r0 r1 r2 r3 : Int) (h : Heap) => K (.agg #[.int .u64 r0, .int .i64 r1, .int .i64 r2, .int .u64 r3]) h) =
    den Try.prog noFns Try.f105.ntmps plan105 (bodyOf Try.f105) (args0 0 [(.int .i64 m1 : Value)]) h ⟨fun env h => dRes Try.prog Try.f105.results.toList env h K, fun _ _ _ => False, fun env h => dRes Try.prog Try.f105.results.toList env h K⟩ := by kernel_rfl
def E_law1_slotsMark_of (f : Int → Heap → (Int → Int → Int → Int → Heap → Prop) → Prop) : List Value → Heap → (Value → Heap → Prop) → Prop
  | [v0], h, K => dec1 (.int .i64) v0 fun (m1 : Int) =>
  f m1 h (fun (r0 r1 r2 r3 : Int) (h : Heap) => K (.agg #[.int .u64 r0, .int .i64 r1, .int .i64 r2, .int .u64 r3]) h)
  | _, _, _ => False
abbrev E_law1_slotsMark := E_law1_slotsMark_of F_law1_slotsMark
theorem E_law1_slotsMark.right : IsRight Try.prog 105 E_law1_slotsMark := by
  refine isRight fun vs K w hh => ?_
  match vs, hh with
  | [v0], hh =>
    unfold E_law1_slotsMark E_law1_slotsMark_of at hh
    replace hh := dec1_sound hh; obtain ⟨m1, rfl, hh⟩ := hh
    unfold F_law1_slotsMark at hh
    exact calls_den noFns_right plan105 _ w K Try.func105 (by kernel_rfl) (by kernel_rfl) (Eq.mp (F_law1_slotsMark.eq  m1 w.heap K) hh)
theorem ok105 : okFn Try.prog 105 = true := by kernel_rfl
end Go.Proofs.Ytcbelendjpnmiaa.V
namespace Go.Proofs.Ytcbelendjpnmiaa.V
open Go Go.RowKit
set_option linter.unusedVariables false
set_option maxRecDepth 100000
def F_law1_Book_told.l1 (f103_ : Int → Heap → (ByteArray → Int → Heap → Prop) → Prop) (b1 : Option Addr) (Q : Bool → Heap → Prop) (i4 : Int) (j9 : Heap → Prop) : Int → Heap → Prop :=
  wl [(4, .one (.int .i64))] (fun (next10 : Int → Heap → Prop) (k11 : Int) (h12 : Heap) =>
  nn b1 fun (a13 : Addr) =>
  ld [.sl] (a13.add 18) h12 fun (v14 : Sl) =>
  ixS 1 v14 i4 fun (a15 : Addr) =>
  ld [.sl] a15 h12 fun (v16 : Sl) =>
  brr (decide (k11 < ((v16.len : Nat) : Int)))
  (nn b1 fun (a17 : Addr) =>
  ld [.sl] (a17.add 18) h12 fun (v18 : Sl) =>
  ixS 1 v18 i4 fun (a19 : Addr) =>
  ld [.sl] a19 h12 fun (v20 : Sl) =>
  ixS 2 v20 k11 fun (a21 : Addr) =>
  ld [.str, .int .u64] a21 h12 fun (v22 : ByteArray) (v23 : Int) =>
  nn b1 fun (a24 : Addr) =>
  ld [.sl] (a24.add 19) h12 fun (v25 : Sl) =>
  ixS 1 v25 i4 fun (a26 : Addr) =>
  ld [.int .i64] a26 h12 fun (v27 : Int) =>
  f103_ v27 h12 fun (r28 : ByteArray) (r29 : Int) (h30 : Heap) =>
  cellsAre h30 (a17.add 18) [.slice v18.ptr v18.len v18.cap] ∧
  cellsAre h30 a19 [.slice v20.ptr v20.len v20.cap] ∧
  cellsAre h30 a21 [.string v22, .int .u64 v23] ∧
  brr (!((v22.toList == r28.toList) && ((v23 == r29) && (true))))
  (Q false h30)
  (next10 (IntKind.i64.wrap (k11 + 1)) h30))
  (j9 h12))
def F_law1_Book_told.l2 (f103_ : Int → Heap → (ByteArray → Int → Heap → Prop) → Prop) (b1 : Option Addr) (Q : Bool → Heap → Prop) (j2 : Heap → Prop) : Int → Heap → Prop :=
  wl [(3, .one (.int .i64))] (fun (next3 : Int → Heap → Prop) (i4 : Int) (h5 : Heap) =>
  nn b1 fun (a6 : Addr) =>
  ld [.sl] (a6.add 18) h5 fun (v7 : Sl) =>
  brr (decide (i4 < ((v7.len : Nat) : Int)))
  (jn [] (fun  (h32 : Heap) =>
  next3 (IntKind.i64.wrap (i4 + 1)) h32) (fun (j8 : Heap → Prop) =>
  jn [] (fun  (h31 : Heap) =>
  j8 h31) (fun (j9 : Heap → Prop) =>
  F_law1_Book_told.l1 f103_ b1 Q i4 j9 0 h5)))
  (j2 h5))
def F_law1_Book_told.l3 (f104_ : Int → Heap → (Int → Int → ByteArray → Int → Heap → Prop) → Prop) (b1 : Option Addr) (Q : Bool → Heap → Prop) (i36 : Int) (j41 : Heap → Prop) : Int → Heap → Prop :=
  wl [(6, .one (.int .i64))] (fun (next42 : Int → Heap → Prop) (k43 : Int) (h44 : Heap) =>
  nn b1 fun (a45 : Addr) =>
  ld [.sl] (a45.add 21) h44 fun (v46 : Sl) =>
  ixS 1 v46 i36 fun (a47 : Addr) =>
  ld [.sl] a47 h44 fun (v48 : Sl) =>
  brr (decide (k43 < ((v48.len : Nat) : Int)))
  (nn b1 fun (a49 : Addr) =>
  ld [.sl] (a49.add 21) h44 fun (v50 : Sl) =>
  ixS 1 v50 i36 fun (a51 : Addr) =>
  ld [.sl] a51 h44 fun (v52 : Sl) =>
  ixS 4 v52 k43 fun (a53 : Addr) =>
  ld [.int .i64, .int .u64, .str, .int .u64] a53 h44 fun (v54 v55 : Int) (v56 : ByteArray) (v57 : Int) =>
  nn b1 fun (a58 : Addr) =>
  ld [.sl] (a58.add 22) h44 fun (v59 : Sl) =>
  ixS 1 v59 i36 fun (a60 : Addr) =>
  ld [.int .i64] a60 h44 fun (v61 : Int) =>
  f104_ v61 h44 fun (r62 r63 : Int) (r64 : ByteArray) (r65 : Int) (h66 : Heap) =>
  cellsAre h66 (a49.add 21) [.slice v50.ptr v50.len v50.cap] ∧
  cellsAre h66 a51 [.slice v52.ptr v52.len v52.cap] ∧
  cellsAre h66 a53 [.int .i64 v54, .int .u64 v55, .string v56, .int .u64 v57] ∧
  brr (!((v54 == r62) && ((v55 == r63) && ((v56.toList == r64.toList) && ((v57 == r65) && (true))))))
  (Q false h66)
  (next42 (IntKind.i64.wrap (k43 + 1)) h66))
  (j41 h44))
def F_law1_Book_told.l4 (f104_ : Int → Heap → (Int → Int → ByteArray → Int → Heap → Prop) → Prop) (b1 : Option Addr) (Q : Bool → Heap → Prop) (j34 : Heap → Prop) : Int → Heap → Prop :=
  wl [(5, .one (.int .i64))] (fun (next35 : Int → Heap → Prop) (i36 : Int) (h37 : Heap) =>
  nn b1 fun (a38 : Addr) =>
  ld [.sl] (a38.add 21) h37 fun (v39 : Sl) =>
  brr (decide (i36 < ((v39.len : Nat) : Int)))
  (jn [] (fun  (h68 : Heap) =>
  next35 (IntKind.i64.wrap (i36 + 1)) h68) (fun (j40 : Heap → Prop) =>
  jn [] (fun  (h67 : Heap) =>
  j40 h67) (fun (j41 : Heap → Prop) =>
  F_law1_Book_told.l3 f104_ b1 Q i36 j41 0 h37)))
  (j34 h37))
def F_law1_Book_told.l5 (f105_ : Int → Heap → (Int → Int → Int → Int → Heap → Prop) → Prop) (b1 : Option Addr) (Q : Bool → Heap → Prop) (i72 : Int) (j77 : Heap → Prop) : Int → Heap → Prop :=
  wl [(8, .one (.int .i64))] (fun (next78 : Int → Heap → Prop) (k79 : Int) (h80 : Heap) =>
  nn b1 fun (a81 : Addr) =>
  ld [.sl] (a81.add 24) h80 fun (v82 : Sl) =>
  ixS 1 v82 i72 fun (a83 : Addr) =>
  ld [.sl] a83 h80 fun (v84 : Sl) =>
  brr (decide (k79 < ((v84.len : Nat) : Int)))
  (nn b1 fun (a85 : Addr) =>
  ld [.sl] (a85.add 24) h80 fun (v86 : Sl) =>
  ixS 1 v86 i72 fun (a87 : Addr) =>
  ld [.sl] a87 h80 fun (v88 : Sl) =>
  ixS 4 v88 k79 fun (a89 : Addr) =>
  ld [.int .u64, .int .i64, .int .i64, .int .u64] a89 h80 fun (v90 v91 v92 v93 : Int) =>
  nn b1 fun (a94 : Addr) =>
  ld [.sl] (a94.add 25) h80 fun (v95 : Sl) =>
  ixS 1 v95 i72 fun (a96 : Addr) =>
  ld [.int .i64] a96 h80 fun (v97 : Int) =>
  f105_ v97 h80 fun (r98 r99 r100 r101 : Int) (h102 : Heap) =>
  cellsAre h102 (a85.add 24) [.slice v86.ptr v86.len v86.cap] ∧
  cellsAre h102 a87 [.slice v88.ptr v88.len v88.cap] ∧
  cellsAre h102 a89 [.int .u64 v90, .int .i64 v91, .int .i64 v92, .int .u64 v93] ∧
  brr (!((v90 == r98) && ((v91 == r99) && ((v92 == r100) && ((v93 == r101) && (true))))))
  (Q false h102)
  (next78 (IntKind.i64.wrap (k79 + 1)) h102))
  (j77 h80))
def F_law1_Book_told.l6 (f105_ : Int → Heap → (Int → Int → Int → Int → Heap → Prop) → Prop) (b1 : Option Addr) (Q : Bool → Heap → Prop) (j70 : Heap → Prop) : Int → Heap → Prop :=
  wl [(7, .one (.int .i64))] (fun (next71 : Int → Heap → Prop) (i72 : Int) (h73 : Heap) =>
  nn b1 fun (a74 : Addr) =>
  ld [.sl] (a74.add 24) h73 fun (v75 : Sl) =>
  brr (decide (i72 < ((v75.len : Nat) : Int)))
  (jn [] (fun  (h104 : Heap) =>
  next71 (IntKind.i64.wrap (i72 + 1)) h104) (fun (j76 : Heap → Prop) =>
  jn [] (fun  (h103 : Heap) =>
  j76 h103) (fun (j77 : Heap → Prop) =>
  F_law1_Book_told.l5 f105_ b1 Q i72 j77 0 h73)))
  (j70 h73))
def F_law1_Book_told.l7 (b1 : Option Addr) (Q : Bool → Heap → Prop) (i108 v116 : Int) (j117 : Heap → Prop) : Int → Heap → Prop :=
  wl [(11, .one (.int .i64))] (fun (next118 : Int → Heap → Prop) (k119 : Int) (h120 : Heap) =>
  nn b1 fun (a121 : Addr) =>
  ld [.sl] (a121.add 27) h120 fun (v122 : Sl) =>
  ixS 1 v122 i108 fun (a123 : Addr) =>
  ld [.sl] a123 h120 fun (v124 : Sl) =>
  brr (decide (k119 < ((v124.len : Nat) : Int)))
  (nn b1 fun (a125 : Addr) =>
  ld [.sl] (a125.add 27) h120 fun (v126 : Sl) =>
  ixS 1 v126 i108 fun (a127 : Addr) =>
  ld [.sl] a127 h120 fun (v128 : Sl) =>
  ixS 22 v128 k119 fun (a129 : Addr) =>
  ld [.int .i64, .int .i64, .int .i64, .int .i64, .int .u64, .int .u64, .int .u64, .int .u64, .int .i64, .int .u64, .sl, .int .i64, .int .u64, .str, .str, .int .u64, .int .u64, .int .u64, .int .i64, .int .i64, .int .i64, .int .i64] a129 h120 fun (v130 v131 v132 v133 v134 v135 v136 v137 v138 v139 : Int) (v140 : Sl) (v141 v142 : Int) (v143 v144 : ByteArray) (v145 v146 v147 v148 v149 v150 v151 : Int) =>
  al 42 [.int .i64 0, .int .i64 0, .int .i64 0, .int .i64 0, .int .u64 0, .int .u64 0, .int .u64 0, .int .u64 0, .int .i64 0, .int .u64 0, .slice none 0 0, .int .i64 0, .int .u64 0, .string (⟨#[]⟩ : ByteArray), .string (⟨#[]⟩ : ByteArray), .int .u64 0, .int .u64 0, .int .u64 0, .int .i64 0, .int .i64 0, .int .i64 0, .int .i64 0] h120 fun (a152 : Addr) (h153 : Heap) =>
  st a152 [.int .i64 v130, .int .i64 v131, .int .i64 v132, .int .i64 v133, .int .u64 v134, .int .u64 v135, .int .u64 v136, .int .u64 v137, .int .i64 v138, .int .u64 v139, .slice v140.ptr v140.len v140.cap, .int .i64 v141, .int .u64 v142, .string v143, .string v144, .int .u64 v145, .int .u64 v146, .int .u64 v147, .int .i64 v148, .int .i64 v149, .int .i64 v150, .int .i64 v151] h153 fun (h154 : Heap) =>
  jn [(193, .one .bool)] (fun (x160 : Bool) (h161 : Heap) =>
  brr x160
  (Q false h161)
  (next118 (IntKind.i64.wrap (k119 + 1)) h161)) (fun (j155 : Bool → Heap → Prop) =>
  ld [.int .i64] ((a152.add 0).add 0) h154 fun (v156 : Int) =>
  brr (v156 == (IntKind.i64.wrap (1000 + v116)))
  (ld [.sl] (a152.add 10) h154 fun (v157 : Sl) =>
  brr (((v157.len : Nat) : Int) == 0)
  (ld [.int .u64] (a152.add 4) h154 fun (v158 : Int) =>
  brr (v158 == 0)
  (ld [.str] (a152.add 13) h154 fun (v159 : ByteArray) =>
  j155 (!(v159.toList == (⟨#[]⟩ : ByteArray).toList)) h154)
  (j155 (!false) h154))
  (j155 (!false) h154))
  (j155 (!false) h154)))
  (j117 h120))
def F_law1_Book_told.l8 (b1 : Option Addr) (Q : Bool → Heap → Prop) (j106 : Heap → Prop) : Int → Heap → Prop :=
  wl [(9, .one (.int .i64))] (fun (next107 : Int → Heap → Prop) (i108 : Int) (h109 : Heap) =>
  nn b1 fun (a110 : Addr) =>
  ld [.sl] (a110.add 27) h109 fun (v111 : Sl) =>
  brr (decide (i108 < ((v111.len : Nat) : Int)))
  (jn [] (fun  (h163 : Heap) =>
  next107 (IntKind.i64.wrap (i108 + 1)) h163) (fun (j112 : Heap → Prop) =>
  nn b1 fun (a113 : Addr) =>
  ld [.sl] (a113.add 28) h109 fun (v114 : Sl) =>
  ixS 1 v114 i108 fun (a115 : Addr) =>
  ld [.int .i64] a115 h109 fun (v116 : Int) =>
  jn [] (fun  (h162 : Heap) =>
  j112 h162) (fun (j117 : Heap → Prop) =>
  F_law1_Book_told.l7 b1 Q i108 v116 j117 0 h109)))
  (j106 h109))
def F_law1_Book_told_of (f103_ : Int → Heap → (ByteArray → Int → Heap → Prop) → Prop) (f104_ : Int → Heap → (Int → Int → ByteArray → Int → Heap → Prop) → Prop) (f105_ : Int → Heap → (Int → Int → Int → Int → Heap → Prop) → Prop) (b1 : Option Addr) (h : Heap) (Q : Bool → Heap → Prop) : Prop :=
  jn [] (fun  (h33 : Heap) =>
  jn [] (fun  (h69 : Heap) =>
  jn [] (fun  (h105 : Heap) =>
  jn [] (fun  (h164 : Heap) =>
  Q true h164) (fun (j106 : Heap → Prop) =>
  F_law1_Book_told.l8 b1 Q j106 0 h105)) (fun (j70 : Heap → Prop) =>
  F_law1_Book_told.l6 f105_ b1 Q j70 0 h69)) (fun (j34 : Heap → Prop) =>
  F_law1_Book_told.l4 f104_ b1 Q j34 0 h33)) (fun (j2 : Heap → Prop) =>
  F_law1_Book_told.l2 f103_ b1 Q j2 0 h)
def F_law1_Book_told (b1 : Option Addr) (h : Heap) (Q : Bool → Heap → Prop) : Prop := F_law1_Book_told_of F_law1_acctsMark F_law1_queueMark F_law1_slotsMark b1 h Q
def plan74 : Plan := .s (.r [0]) (.s (.s (.r [0, 3]) (.bj [] [0] (.l [(3, .one (.int .i64))] [0] (.s (.s (.r [0, 3, 19]) (.c .z .z)) (.s (.bj [] [0, 3] (.s (.r [0, 3, 4]) (.bj [] [0, 3] (.l [(4, .one (.int .i64))] [0, 3] (.s (.s (.r [0, 3, 4, 31]) (.c .z .z)) (.s (.b (.s (.d [0, 1, 3, 7, 0, 31, 63, 0, 255, 511, 0, 1024, 3072, 7168, 0, 31744, 64512, 130048, 262143] [[0, 1, 2, 3, 4, 5, 6, 7, 8, 9, 10, 11, 12, 13, 14, 15, 16, 17, 18]] [0, 3, 4, 52]) (.c (.s (.r [2]) .z) .z))) (.r [0, 3, 4]))))))) (.r [0, 3])))))) (.s (.s (.r [0, 5]) (.bj [] [0] (.l [(5, .one (.int .i64))] [0] (.s (.s (.r [0, 5, 59]) (.c .z .z)) (.s (.bj [] [0, 5] (.s (.r [0, 5, 6]) (.bj [] [0, 5] (.l [(6, .one (.int .i64))] [0, 5] (.s (.s (.r [0, 5, 6, 71]) (.c .z .z)) (.s (.b (.s (.d [0, 1, 3, 7, 0, 31, 63, 0, 255, 511, 0, 1024, 3072, 7168, 0, 31744, 64512, 130048, 262143] [[0, 1, 2, 3, 4, 5, 6, 7, 8, 9, 10, 11, 12, 13, 14, 15, 16, 17, 18]] [0, 5, 6, 92]) (.c (.s (.r [2]) .z) .z))) (.r [0, 5, 6]))))))) (.r [0, 5])))))) (.s (.s (.r [0, 7]) (.bj [] [0] (.l [(7, .one (.int .i64))] [0] (.s (.s (.r [0, 7, 99]) (.c .z .z)) (.s (.bj [] [0, 7] (.s (.r [0, 7, 8]) (.bj [] [0, 7] (.l [(8, .one (.int .i64))] [0, 7] (.s (.s (.r [0, 7, 8, 111]) (.c .z .z)) (.s (.b (.s (.d [0, 1, 3, 7, 0, 31, 63, 0, 255, 511, 0, 1024, 3072, 7168, 0, 31744, 64512, 130048, 262143] [[0, 1, 2, 3, 4, 5, 6, 7, 8, 9, 10, 11, 12, 13, 14, 15, 16, 17, 18]] [0, 7, 8, 132]) (.c (.s (.r [2]) .z) .z))) (.r [0, 7, 8]))))))) (.r [0, 7])))))) (.s (.s (.r [0, 9]) (.bj [] [] (.l [(9, .one (.int .i64))] [0] (.s (.s (.r [0, 9, 139]) (.c .z .z)) (.s (.bj [] [0, 9] (.s (.r [0, 9, 10]) (.s (.r [0, 9, 10, 11]) (.bj [] [0, 9] (.l [(11, .one (.int .i64))] [0, 9, 10] (.s (.s (.r [0, 9, 10, 11, 158]) (.c .z .z)) (.s (.b (.s (.r [0, 9, 10, 11, 12]) (.s (.rj [(193, .one .bool)] [0, 9, 10, 11]) (.c (.s (.r [2]) .z) .z)))) (.r [0, 9, 10, 11])))))))) (.r [0, 9])))))) (.s (.r [2]) .z)))))
theorem F_law1_Book_told.eq (f103_ : Int → Heap → (ByteArray → Int → Heap → Prop) → Prop) (f104_ : Int → Heap → (Int → Int → ByteArray → Int → Heap → Prop) → Prop) (f105_ : Int → Heap → (Int → Int → Int → Int → Heap → Prop) → Prop) (b1 : Option Addr) (h : Heap) (K : Value → Heap → Prop) : F_law1_Book_told_of f103_ f104_ f105_ b1 h (fun (r0 : Bool) (h : Heap) => K (.bool r0) h) =
    den Try.prog (fn1 103 (E_law1_acctsMark_of f103_) (fn1 104 (E_law1_queueMark_of f104_) (fn1 105 (E_law1_slotsMark_of f105_) noFns))) Try.f74.ntmps plan74 (bodyOf Try.f74) (args0 0 [(.pointer b1 : Value)]) h ⟨fun env h => dRes Try.prog Try.f74.results.toList env h K, fun _ _ _ => False, fun env h => dRes Try.prog Try.f74.results.toList env h K⟩ := by kernel_rfl
def E_law1_Book_told_of (f : Option Addr → Heap → (Bool → Heap → Prop) → Prop) : List Value → Heap → (Value → Heap → Prop) → Prop
  | [v0], h, K => dec1 .ptr v0 fun (b1 : Option Addr) =>
  f b1 h (fun (r0 : Bool) (h : Heap) => K (.bool r0) h)
  | _, _, _ => False
abbrev E_law1_Book_told := E_law1_Book_told_of F_law1_Book_told
theorem E_law1_Book_told.right : IsRight Try.prog 74 E_law1_Book_told := by
  refine isRight fun vs K w hh => ?_
  match vs, hh with
  | [v0], hh =>
    unfold E_law1_Book_told E_law1_Book_told_of at hh
    replace hh := dec1_sound hh; obtain ⟨b1, rfl, hh⟩ := hh
    unfold F_law1_Book_told at hh
    exact calls_den (fn1_right ok103 E_law1_acctsMark.right (fn1_right ok104 E_law1_queueMark.right (fn1_right ok105 E_law1_slotsMark.right noFns_right))) plan74 _ w K Try.func74 (by kernel_rfl) (by kernel_rfl) (Eq.mp (F_law1_Book_told.eq F_law1_acctsMark F_law1_queueMark F_law1_slotsMark b1 w.heap K) hh)
theorem ok74 : okFn Try.prog 74 = true := by kernel_rfl
end Go.Proofs.Ytcbelendjpnmiaa.V
namespace Go.Proofs.Ytcbelendjpnmiaa.V
open Go Go.RowKit
set_option linter.unusedVariables false
set_option maxRecDepth 100000
def F_law1_filesMark_of (f88_ : Int → Int → Heap → (Int → Heap → Prop) → Prop) (m1 : Int) (h : Heap) (Q : ByteArray → Sl → Heap → Prop) : Prop :=
  al 172 [.string (⟨#[]⟩ : ByteArray), .slice none 0 0] h fun (a2 : Addr) (h3 : Heap) =>
  f88_ m1 0 h3 fun (r4 : Int) (h5 : Heap) =>
  f88_ m1 1 h5 fun (r6 : Int) (h7 : Heap) =>
  al 5 [.int .u8 r4, .int .u8 r6, .int .u8 33] h7 fun (a8 : Addr) (h9 : Heap) =>
  b2s (some a8) 3 h9 fun (s10 : ByteArray) =>
  st a2 [.string s10, .slice none 0 0] h9 fun (h11 : Heap) =>
  ld [.str, .sl] a2 h11 fun (v12 : ByteArray) (v13 : Sl) =>
  Q v12 v13 h11
def F_law1_filesMark (m1 : Int) (h : Heap) (Q : ByteArray → Sl → Heap → Prop) : Prop := F_law1_filesMark_of F_law1_at m1 h Q
def plan106 : Plan := .s (.r [0, 2]) (.s (.r [2]) .z)
theorem F_law1_filesMark.eq (f88_ : Int → Int → Heap → (Int → Heap → Prop) → Prop) (m1 : Int) (h : Heap) (K : Value → Heap → Prop) : F_law1_filesMark_of f88_ m1 h (fun (r0 : ByteArray) (r1 : Sl) (h : Heap) => K (.agg #[.string r0, .slice r1.ptr r1.len r1.cap]) h) =
    den Try.prog (fn1 88 (E_law1_at_of f88_) noFns) Try.f106.ntmps plan106 (bodyOf Try.f106) (args0 0 [(.int .i64 m1 : Value)]) h ⟨fun env h => dRes Try.prog Try.f106.results.toList env h K, fun _ _ _ => False, fun env h => dRes Try.prog Try.f106.results.toList env h K⟩ := by kernel_rfl
def E_law1_filesMark_of (f : Int → Heap → (ByteArray → Sl → Heap → Prop) → Prop) : List Value → Heap → (Value → Heap → Prop) → Prop
  | [v0], h, K => dec1 (.int .i64) v0 fun (m1 : Int) =>
  f m1 h (fun (r0 : ByteArray) (r1 : Sl) (h : Heap) => K (.agg #[.string r0, .slice r1.ptr r1.len r1.cap]) h)
  | _, _, _ => False
abbrev E_law1_filesMark := E_law1_filesMark_of F_law1_filesMark
theorem E_law1_filesMark.right : IsRight Try.prog 106 E_law1_filesMark := by
  refine isRight fun vs K w hh => ?_
  match vs, hh with
  | [v0], hh =>
    unfold E_law1_filesMark E_law1_filesMark_of at hh
    replace hh := dec1_sound hh; obtain ⟨m1, rfl, hh⟩ := hh
    unfold F_law1_filesMark at hh
    exact calls_den (fn1_right ok88 E_law1_at.right noFns_right) plan106 _ w K Try.func106 (by kernel_rfl) (by kernel_rfl) (Eq.mp (F_law1_filesMark.eq F_law1_at m1 w.heap K) hh)
theorem ok106 : okFn Try.prog 106 = true := by kernel_rfl
end Go.Proofs.Ytcbelendjpnmiaa.V
namespace Go.Proofs.Ytcbelendjpnmiaa.V
open Go Go.RowKit
set_option linter.unusedVariables false
set_option maxRecDepth 100000
def F_law1_Book_held.l1 (b1 : Option Addr) (Q : Bool → Heap → Prop) (i4 v12 : Int) (j13 : Heap → Prop) : Int → Heap → Prop :=
  wl [(5, .one (.int .i64))] (fun (next14 : Int → Heap → Prop) (k15 : Int) (h16 : Heap) =>
  nn b1 fun (a17 : Addr) =>
  ld [.sl] (a17.add 30) h16 fun (v18 : Sl) =>
  ixS 1 v18 i4 fun (a19 : Addr) =>
  ld [.sl] a19 h16 fun (v20 : Sl) =>
  brr (decide (k15 < ((v20.len : Nat) : Int)))
  (nn b1 fun (a21 : Addr) =>
  ld [.sl] (a21.add 30) h16 fun (v22 : Sl) =>
  ixS 1 v22 i4 fun (a23 : Addr) =>
  ld [.sl] a23 h16 fun (v24 : Sl) =>
  ixS 2 v24 k15 fun (a25 : Addr) =>
  ld [.int .i64, .sl] a25 h16 fun (v26 : Int) (v27 : Sl) =>
  al 169 [.int .i64 0, .slice none 0 0] h16 fun (a28 : Addr) (h29 : Heap) =>
  st a28 [.int .i64 v26, .slice v27.ptr v27.len v27.cap] h29 fun (h30 : Heap) =>
  jn [(60, .one .bool)] (fun (x34 : Bool) (h35 : Heap) =>
  brr x34
  (Q false h35)
  (next14 (IntKind.i64.wrap (k15 + 1)) h35)) (fun (j31 : Bool → Heap → Prop) =>
  ld [.int .i64] (a28.add 0) h30 fun (v32 : Int) =>
  brr (v32 == (IntKind.i64.wrap (1000 + v12)))
  (ld [.sl] (a28.add 1) h30 fun (v33 : Sl) =>
  j31 (!(((v33.len : Nat) : Int) == 0)) h30)
  (j31 (!false) h30)))
  (j13 h16))
def F_law1_Book_held.l2 (b1 : Option Addr) (Q : Bool → Heap → Prop) (j2 : Heap → Prop) : Int → Heap → Prop :=
  wl [(3, .one (.int .i64))] (fun (next3 : Int → Heap → Prop) (i4 : Int) (h5 : Heap) =>
  nn b1 fun (a6 : Addr) =>
  ld [.sl] (a6.add 30) h5 fun (v7 : Sl) =>
  brr (decide (i4 < ((v7.len : Nat) : Int)))
  (jn [] (fun  (h37 : Heap) =>
  next3 (IntKind.i64.wrap (i4 + 1)) h37) (fun (j8 : Heap → Prop) =>
  nn b1 fun (a9 : Addr) =>
  ld [.sl] (a9.add 31) h5 fun (v10 : Sl) =>
  ixS 1 v10 i4 fun (a11 : Addr) =>
  ld [.int .i64] a11 h5 fun (v12 : Int) =>
  jn [] (fun  (h36 : Heap) =>
  j8 h36) (fun (j13 : Heap → Prop) =>
  F_law1_Book_held.l1 b1 Q i4 v12 j13 0 h5)))
  (j2 h5))
def F_law1_Book_held.l3 (f106_ : Int → Heap → (ByteArray → Sl → Heap → Prop) → Prop) (b1 : Option Addr) (Q : Bool → Heap → Prop) (i41 v49 : Int) (j50 : Heap → Prop) : Int → Heap → Prop :=
  wl [(9, .one (.int .i64))] (fun (next51 : Int → Heap → Prop) (k52 : Int) (h53 : Heap) =>
  nn b1 fun (a54 : Addr) =>
  ld [.sl] (a54.add 33) h53 fun (v55 : Sl) =>
  ixS 1 v55 i41 fun (a56 : Addr) =>
  ld [.sl] a56 h53 fun (v57 : Sl) =>
  brr (decide (k52 < ((v57.len : Nat) : Int)))
  (nn b1 fun (a58 : Addr) =>
  ld [.sl] (a58.add 33) h53 fun (v59 : Sl) =>
  ixS 1 v59 i41 fun (a60 : Addr) =>
  ld [.sl] a60 h53 fun (v61 : Sl) =>
  ixS 2 v61 k52 fun (a62 : Addr) =>
  ld [.str, .sl] a62 h53 fun (v63 : ByteArray) (v64 : Sl) =>
  al 172 [.string (⟨#[]⟩ : ByteArray), .slice none 0 0] h53 fun (a65 : Addr) (h66 : Heap) =>
  st a65 [.string v63, .slice v64.ptr v64.len v64.cap] h66 fun (h67 : Heap) =>
  jn [(111, .one .bool)] (fun (x74 : Bool) (h75 : Heap) =>
  brr x74
  (Q false h75)
  (next51 (IntKind.i64.wrap (k52 + 1)) h75)) (fun (j68 : Bool → Heap → Prop) =>
  ld [.str] (a65.add 0) h67 fun (v69 : ByteArray) =>
  f106_ v49 h67 fun (r70 : ByteArray) (r71 : Sl) (h72 : Heap) =>
  cellsAre h72 (a65.add 0) [.string v69] ∧
  brr (v69.toList == r70.toList)
  (ld [.sl] (a65.add 1) h72 fun (v73 : Sl) =>
  j68 (!(((v73.len : Nat) : Int) == 0)) h72)
  (j68 (!false) h72)))
  (j50 h53))
def F_law1_Book_held.l4 (f106_ : Int → Heap → (ByteArray → Sl → Heap → Prop) → Prop) (b1 : Option Addr) (Q : Bool → Heap → Prop) (j39 : Heap → Prop) : Int → Heap → Prop :=
  wl [(7, .one (.int .i64))] (fun (next40 : Int → Heap → Prop) (i41 : Int) (h42 : Heap) =>
  nn b1 fun (a43 : Addr) =>
  ld [.sl] (a43.add 33) h42 fun (v44 : Sl) =>
  brr (decide (i41 < ((v44.len : Nat) : Int)))
  (jn [] (fun  (h77 : Heap) =>
  next40 (IntKind.i64.wrap (i41 + 1)) h77) (fun (j45 : Heap → Prop) =>
  nn b1 fun (a46 : Addr) =>
  ld [.sl] (a46.add 34) h42 fun (v47 : Sl) =>
  ixS 1 v47 i41 fun (a48 : Addr) =>
  ld [.int .i64] a48 h42 fun (v49 : Int) =>
  jn [] (fun  (h76 : Heap) =>
  j45 h76) (fun (j50 : Heap → Prop) =>
  F_law1_Book_held.l3 f106_ b1 Q i41 v49 j50 0 h42)))
  (j39 h42))
def F_law1_Book_held_of (f106_ : Int → Heap → (ByteArray → Sl → Heap → Prop) → Prop) (b1 : Option Addr) (h : Heap) (Q : Bool → Heap → Prop) : Prop :=
  jn [] (fun  (h38 : Heap) =>
  jn [] (fun  (h78 : Heap) =>
  Q true h78) (fun (j39 : Heap → Prop) =>
  F_law1_Book_held.l4 f106_ b1 Q j39 0 h38)) (fun (j2 : Heap → Prop) =>
  F_law1_Book_held.l2 b1 Q j2 0 h)
def F_law1_Book_held (b1 : Option Addr) (h : Heap) (Q : Bool → Heap → Prop) : Prop := F_law1_Book_held_of F_law1_filesMark b1 h Q
def plan75 : Plan := .s (.r [0]) (.s (.s (.r [0, 3]) (.bj [] [0] (.l [(3, .one (.int .i64))] [0] (.s (.s (.r [0, 3, 17]) (.c .z .z)) (.s (.bj [] [0, 3] (.s (.r [0, 3, 4]) (.s (.r [0, 3, 4, 5]) (.bj [] [0, 3] (.l [(5, .one (.int .i64))] [0, 3, 4] (.s (.s (.r [0, 3, 4, 5, 36]) (.c .z .z)) (.s (.b (.s (.r [0, 3, 4, 5, 6]) (.s (.rj [(60, .one .bool)] [0, 3, 4, 5]) (.c (.s (.r [2]) .z) .z)))) (.r [0, 3, 4, 5])))))))) (.r [0, 3])))))) (.s (.s (.r [0, 7]) (.bj [] [] (.l [(7, .one (.int .i64))] [0] (.s (.s (.r [0, 7, 67]) (.c .z .z)) (.s (.bj [] [0, 7] (.s (.r [0, 7, 8]) (.s (.r [0, 7, 8, 9]) (.bj [] [0, 7] (.l [(9, .one (.int .i64))] [0, 7, 8] (.s (.s (.r [0, 7, 8, 9, 86]) (.c .z .z)) (.s (.b (.s (.r [0, 7, 8, 9, 10]) (.s (.dj [0, 1, 0, 4, 12, 31, 63, 127, 255, 511, 1023, 2047, 4095] [[0, 1, 2, 3, 4, 5, 6, 7, 8, 9, 10, 11, 12]] [(111, .one .bool)] [0, 7, 8, 9]) (.c (.s (.r [2]) .z) .z)))) (.r [0, 7, 8, 9])))))))) (.r [0, 7])))))) (.s (.r [2]) .z)))
theorem F_law1_Book_held.eq (f106_ : Int → Heap → (ByteArray → Sl → Heap → Prop) → Prop) (b1 : Option Addr) (h : Heap) (K : Value → Heap → Prop) : F_law1_Book_held_of f106_ b1 h (fun (r0 : Bool) (h : Heap) => K (.bool r0) h) =
    den Try.prog (fn1 106 (E_law1_filesMark_of f106_) noFns) Try.f75.ntmps plan75 (bodyOf Try.f75) (args0 0 [(.pointer b1 : Value)]) h ⟨fun env h => dRes Try.prog Try.f75.results.toList env h K, fun _ _ _ => False, fun env h => dRes Try.prog Try.f75.results.toList env h K⟩ := by kernel_rfl
def E_law1_Book_held_of (f : Option Addr → Heap → (Bool → Heap → Prop) → Prop) : List Value → Heap → (Value → Heap → Prop) → Prop
  | [v0], h, K => dec1 .ptr v0 fun (b1 : Option Addr) =>
  f b1 h (fun (r0 : Bool) (h : Heap) => K (.bool r0) h)
  | _, _, _ => False
abbrev E_law1_Book_held := E_law1_Book_held_of F_law1_Book_held
theorem E_law1_Book_held.right : IsRight Try.prog 75 E_law1_Book_held := by
  refine isRight fun vs K w hh => ?_
  match vs, hh with
  | [v0], hh =>
    unfold E_law1_Book_held E_law1_Book_held_of at hh
    replace hh := dec1_sound hh; obtain ⟨b1, rfl, hh⟩ := hh
    unfold F_law1_Book_held at hh
    exact calls_den (fn1_right ok106 E_law1_filesMark.right noFns_right) plan75 _ w K Try.func75 (by kernel_rfl) (by kernel_rfl) (Eq.mp (F_law1_Book_held.eq F_law1_filesMark b1 w.heap K) hh)
theorem ok75 : okFn Try.prog 75 = true := by kernel_rfl
end Go.Proofs.Ytcbelendjpnmiaa.V
