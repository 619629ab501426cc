import Derived.Test.YtigcpkejjjgkeaaGreatZQuorumFresh3
import Derived.Test.YtigcpkejjjgkeaaGreatProg
namespace Go.Proofs.YtigcpkejjjgkeaaGreat.V
open Go Go.RowKit
set_option linter.unusedVariables false
set_option maxRecDepth 100000
def F_law1_Book_growAccts.l1 (f101_ : Int → Heap → (ByteArray → Int → Heap → Prop) → Prop) (b1 : Option Addr) (v18 : Int) (j19 : Heap → Prop) : Sl → Int → Heap → Prop :=
  wl [(4, .one .sl), (6, .one (.int .i64))] (fun (next20 : Sl → Int → Heap → Prop) (g21 : Sl) (i22 : Int) (h23 : Heap) =>
  brr (decide (i22 ≤ 32))
  (f101_ v18 h23 fun (r24 : ByteArray) (r25 : Int) (h26 : Heap) =>
  al 136 [.string r24, .int .u64 r25] h26 fun (a27 : Addr) (h28 : Heap) =>
  app 136 2 24 (.agg #[.string (⟨#[]⟩ : ByteArray), .int .u64 0]) g21 (some a27) 1 h28 fun (s29 : Sl) (h30 : Heap) =>
  jn [(50, .one .bool)] (fun (x32 : Bool) (h33 : Heap) =>
  jn [] (fun  (h51 : Heap) =>
  next20 s29 (IntKind.i64.wrap (i22 + 1)) h51) (fun (j34 : Heap → Prop) =>
  brr x32
  (nn b1 fun (a35 : Addr) =>
  ld [.sl] (a35.add 18) h33 fun (v36 : Sl) =>
  al 134 [.slice s29.ptr s29.len s29.cap] h33 fun (a37 : Addr) (h38 : Heap) =>
  app 134 1 24 (.slice none 0 0) v36 (some a37) 1 h38 fun (s39 : Sl) (h40 : Heap) =>
  nn b1 fun (a41 : Addr) =>
  st (a41.add 18) [.slice s39.ptr s39.len s39.cap] h40 fun (h42 : Heap) =>
  nn b1 fun (a43 : Addr) =>
  ld [.sl] (a43.add 19) h42 fun (v44 : Sl) =>
  al 3 [.int .i64 v18] h42 fun (a45 : Addr) (h46 : Heap) =>
  app 3 1 8 (.int .i64 0) v44 (some a45) 1 h46 fun (s47 : Sl) (h48 : Heap) =>
  nn b1 fun (a49 : Addr) =>
  st (a49.add 19) [.slice s47.ptr s47.len s47.cap] h48 fun (h50 : Heap) =>
  j34 h50)
  (j34 h33))) (fun (j31 : Bool → Heap → Prop) =>
  brr (decide (i22 < 4))
  (j31 true h30)
  ((16 : Int) ≠ 0 ∧
  j31 ((i22.tmod 16) == 0) h30)))
  (j19 h23))
def F_law1_Book_growAccts.l2 (f101_ : Int → Heap → (ByteArray → Int → Heap → Prop) → Prop) (b1 : Option Addr) (v3 : Sl) (j6 : Heap → Prop) : Int → Heap → Prop :=
  wl [(3, .one (.int .i64))] (fun (next7 : Int → Heap → Prop) (k8 : Int) (h9 : Heap) =>
  brr (decide (k8 < ((v3.len : Nat) : Int)))
  (jn [] (fun  (h53 : Heap) =>
  next7 (IntKind.i64.wrap (k8 + 1)) h53) (fun (j10 : Heap → Prop) =>
  nn b1 fun (a11 : Addr) =>
  ld [.sl] (a11.add 18) h9 fun (v12 : Sl) =>
  ixS 1 v12 k8 fun (a13 : Addr) =>
  ld [.sl] a13 h9 fun (v14 : Sl) =>
  nn b1 fun (a15 : Addr) =>
  ld [.sl] (a15.add 19) h9 fun (v16 : Sl) =>
  ixS 1 v16 k8 fun (a17 : Addr) =>
  ld [.int .i64] a17 h9 fun (v18 : Int) =>
  jn [] (fun  (h52 : Heap) =>
  j10 h52) (fun (j19 : Heap → Prop) =>
  F_law1_Book_growAccts.l1 f101_ b1 v18 j19 v14 1 h9)))
  (j6 h9))
def F_law1_Book_growAccts_of (f101_ : Int → Heap → (ByteArray → Int → Heap → Prop) → Prop) (b1 : Option Addr) (h : Heap) (Q : Heap → Prop) : Prop :=
  nn b1 fun (a2 : Addr) =>
  ld [.sl] (a2.add 18) h fun (v3 : Sl) =>
  nn b1 fun (a4 : Addr) =>
  ld [.int .i64] (a4.add 20) h fun (v5 : Int) =>
  jn [] (fun  (h54 : Heap) =>
  nn b1 fun (a55 : Addr) =>
  ld [.sl] (a55.add 18) h54 fun (v56 : Sl) =>
  nn b1 fun (a57 : Addr) =>
  st (a57.add 20) [.int .i64 ((v56.len : Nat) : Int)] h54 fun (h58 : Heap) =>
  Q h58) (fun (j6 : Heap → Prop) =>
  F_law1_Book_growAccts.l2 f101_ b1 v3 j6 v5 h)
def F_law1_Book_growAccts (b1 : Option Addr) (h : Heap) (Q : Heap → Prop) : Prop := F_law1_Book_growAccts_of F_law1_acctsMark b1 h Q
def plan78 : Plan := .s (.r [0, 2]) (.s (.s (.r [0, 2, 3]) (.bj [] [0] (.l [(3, .one (.int .i64))] [0, 2] (.s (.s (.r [0, 2, 3, 18]) (.c .z .z)) (.s (.bj [] [0, 2, 3] (.s (.r [0, 2, 3, 4]) (.s (.r [0, 2, 3, 4, 5]) (.s (.r [0, 2, 3, 4, 5, 6]) (.bj [] [0, 2, 3] (.l [(4, .one .sl), (6, .one (.int .i64))] [0, 2, 3, 5] (.s (.s (.r [0, 2, 3, 4, 5, 6, 36]) (.c .z .z)) (.s (.b (.s (.r [0, 2, 3, 4, 5, 6]) (.s (.rj [(50, .one .bool)] [0, 2, 3, 4, 5, 6]) (.cj [] [0, 2, 3, 4, 5, 6] (.s (.r [0, 2, 3, 4, 5, 6]) (.r [0, 2, 3, 4, 5, 6])) .z)))) (.r [0, 2, 3, 4, 5, 6]))))))))) (.r [0, 2, 3])))))) (.r []))
theorem F_law1_Book_growAccts.eq (f101_ : Int → Heap → (ByteArray → Int → Heap → Prop) → Prop) (b1 : Option Addr) (h : Heap) (K : Value → Heap → Prop) : F_law1_Book_growAccts_of f101_ b1 h (fun  (h : Heap) => K (.tuple #[]) h) =
    den Tryz.prog (fn1 101 (E_law1_acctsMark_of f101_) noFns) Tryz.f78.ntmps plan78 (bodyOf Tryz.f78) (args0 0 [(.pointer b1 : Value)]) h ⟨fun env h => dRes Tryz.prog Tryz.f78.results.toList env h K, fun _ _ _ => False, fun env h => dRes Tryz.prog Tryz.f78.results.toList env h K⟩ := by kernel_rfl
def E_law1_Book_growAccts_of (f : Option Addr → Heap → (Heap → Prop) → Prop) : List Value → Heap → (Value → Heap → Prop) → Prop
  | [v0], h, K => dec1 .ptr v0 fun (b1 : Option Addr) =>
  f b1 h (fun  (h : Heap) => K (.tuple #[]) h)
  | _, _, _ => False
abbrev E_law1_Book_growAccts := E_law1_Book_growAccts_of F_law1_Book_growAccts
theorem E_law1_Book_growAccts.right : IsRight Tryz.prog 78 E_law1_Book_growAccts := by
  refine isRight fun vs K w hh => ?_
  match vs, hh with
  | [v0], hh =>
    unfold E_law1_Book_growAccts E_law1_Book_growAccts_of at hh
    replace hh := dec1_sound hh; obtain ⟨b1, rfl, hh⟩ := hh
    unfold F_law1_Book_growAccts at hh
    exact calls_den (fn1_right ok101 E_law1_acctsMark.right noFns_right) plan78 _ w K Tryz.func78 (by kernel_rfl) (by kernel_rfl) (Eq.mp (F_law1_Book_growAccts.eq F_law1_acctsMark b1 w.heap K) hh)
theorem ok78 : okFn Tryz.prog 78 = true := by kernel_rfl
end Go.Proofs.YtigcpkejjjgkeaaGreat.V
namespace Go.Proofs.YtigcpkejjjgkeaaGreat.V
open Go Go.RowKit
set_option linter.unusedVariables false
set_option maxRecDepth 100000
def F_law1_Book_growQueue.l1 (f102_ : Int → Heap → (Int → Int → ByteArray → Int → Heap → Prop) → Prop) (b1 : Option Addr) (v18 : Int) (j19 : Heap → Prop) : Sl → Int → Heap → Prop :=
  wl [(4, .one .sl), (6, .one (.int .i64))] (fun (next20 : Sl → Int → Heap → Prop) (g21 : Sl) (i22 : Int) (h23 : Heap) =>
  brr (decide (i22 ≤ 32))
  (f102_ v18 h23 fun (r24 r25 : Int) (r26 : ByteArray) (r27 : Int) (h28 : Heap) =>
  al 140 [.int .i64 r24, .int .u64 r25, .string r26, .int .u64 r27] h28 fun (a29 : Addr) (h30 : Heap) =>
  app 140 4 40 (.agg #[.int .i64 0, .int .u64 0, .string (⟨#[]⟩ : ByteArray), .int .u64 0]) g21 (some a29) 1 h30 fun (s31 : Sl) (h32 : Heap) =>
  jn [(50, .one .bool)] (fun (x34 : Bool) (h35 : Heap) =>
  jn [] (fun  (h53 : Heap) =>
  next20 s31 (IntKind.i64.wrap (i22 + 1)) h53) (fun (j36 : Heap → Prop) =>
  brr x34
  (nn b1 fun (a37 : Addr) =>
  ld [.sl] (a37.add 21) h35 fun (v38 : Sl) =>
  al 138 [.slice s31.ptr s31.len s31.cap] h35 fun (a39 : Addr) (h40 : Heap) =>
  app 138 1 24 (.slice none 0 0) v38 (some a39) 1 h40 fun (s41 : Sl) (h42 : Heap) =>
  nn b1 fun (a43 : Addr) =>
  st (a43.add 21) [.slice s41.ptr s41.len s41.cap] h42 fun (h44 : Heap) =>
  nn b1 fun (a45 : Addr) =>
  ld [.sl] (a45.add 22) h44 fun (v46 : Sl) =>
  al 3 [.int .i64 v18] h44 fun (a47 : Addr) (h48 : Heap) =>
  app 3 1 8 (.int .i64 0) v46 (some a47) 1 h48 fun (s49 : Sl) (h50 : Heap) =>
  nn b1 fun (a51 : Addr) =>
  st (a51.add 22) [.slice s49.ptr s49.len s49.cap] h50 fun (h52 : Heap) =>
  j36 h52)
  (j36 h35))) (fun (j33 : Bool → Heap → Prop) =>
  brr (decide (i22 < 4))
  (j33 true h32)
  ((16 : Int) ≠ 0 ∧
  j33 ((i22.tmod 16) == 0) h32)))
  (j19 h23))
def F_law1_Book_growQueue.l2 (f102_ : Int → Heap → (Int → Int → ByteArray → Int → Heap → Prop) → Prop) (b1 : Option Addr) (v3 : Sl) (j6 : Heap → Prop) : Int → Heap → Prop :=
  wl [(3, .one (.int .i64))] (fun (next7 : Int → Heap → Prop) (k8 : Int) (h9 : Heap) =>
  brr (decide (k8 < ((v3.len : Nat) : Int)))
  (jn [] (fun  (h55 : Heap) =>
  next7 (IntKind.i64.wrap (k8 + 1)) h55) (fun (j10 : Heap → Prop) =>
  nn b1 fun (a11 : Addr) =>
  ld [.sl] (a11.add 21) h9 fun (v12 : Sl) =>
  ixS 1 v12 k8 fun (a13 : Addr) =>
  ld [.sl] a13 h9 fun (v14 : Sl) =>
  nn b1 fun (a15 : Addr) =>
  ld [.sl] (a15.add 22) h9 fun (v16 : Sl) =>
  ixS 1 v16 k8 fun (a17 : Addr) =>
  ld [.int .i64] a17 h9 fun (v18 : Int) =>
  jn [] (fun  (h54 : Heap) =>
  j10 h54) (fun (j19 : Heap → Prop) =>
  F_law1_Book_growQueue.l1 f102_ b1 v18 j19 v14 1 h9)))
  (j6 h9))
def F_law1_Book_growQueue_of (f102_ : Int → Heap → (Int → Int → ByteArray → Int → Heap → Prop) → Prop) (b1 : Option Addr) (h : Heap) (Q : Heap → Prop) : Prop :=
  nn b1 fun (a2 : Addr) =>
  ld [.sl] (a2.add 21) h fun (v3 : Sl) =>
  nn b1 fun (a4 : Addr) =>
  ld [.int .i64] (a4.add 23) h fun (v5 : Int) =>
  jn [] (fun  (h56 : Heap) =>
  nn b1 fun (a57 : Addr) =>
  ld [.sl] (a57.add 21) h56 fun (v58 : Sl) =>
  nn b1 fun (a59 : Addr) =>
  st (a59.add 23) [.int .i64 ((v58.len : Nat) : Int)] h56 fun (h60 : Heap) =>
  Q h60) (fun (j6 : Heap → Prop) =>
  F_law1_Book_growQueue.l2 f102_ b1 v3 j6 v5 h)
def F_law1_Book_growQueue (b1 : Option Addr) (h : Heap) (Q : Heap → Prop) : Prop := F_law1_Book_growQueue_of F_law1_queueMark b1 h Q
def plan79 : Plan := .s (.r [0, 2]) (.s (.s (.r [0, 2, 3]) (.bj [] [0] (.l [(3, .one (.int .i64))] [0, 2] (.s (.s (.r [0, 2, 3, 18]) (.c .z .z)) (.s (.bj [] [0, 2, 3] (.s (.r [0, 2, 3, 4]) (.s (.r [0, 2, 3, 4, 5]) (.s (.r [0, 2, 3, 4, 5, 6]) (.bj [] [0, 2, 3] (.l [(4, .one .sl), (6, .one (.int .i64))] [0, 2, 3, 5] (.s (.s (.r [0, 2, 3, 4, 5, 6, 36]) (.c .z .z)) (.s (.b (.s (.r [0, 2, 3, 4, 5, 6]) (.s (.rj [(50, .one .bool)] [0, 2, 3, 4, 5, 6]) (.cj [] [0, 2, 3, 4, 5, 6] (.s (.r [0, 2, 3, 4, 5, 6]) (.r [0, 2, 3, 4, 5, 6])) .z)))) (.r [0, 2, 3, 4, 5, 6]))))))))) (.r [0, 2, 3])))))) (.r []))
theorem F_law1_Book_growQueue.eq (f102_ : Int → Heap → (Int → Int → ByteArray → Int → Heap → Prop) → Prop) (b1 : Option Addr) (h : Heap) (K : Value → Heap → Prop) : F_law1_Book_growQueue_of f102_ b1 h (fun  (h : Heap) => K (.tuple #[]) h) =
    den Tryz.prog (fn1 102 (E_law1_queueMark_of f102_) noFns) Tryz.f79.ntmps plan79 (bodyOf Tryz.f79) (args0 0 [(.pointer b1 : Value)]) h ⟨fun env h => dRes Tryz.prog Tryz.f79.results.toList env h K, fun _ _ _ => False, fun env h => dRes Tryz.prog Tryz.f79.results.toList env h K⟩ := by kernel_rfl
def E_law1_Book_growQueue_of (f : Option Addr → Heap → (Heap → Prop) → Prop) : List Value → Heap → (Value → Heap → Prop) → Prop
  | [v0], h, K => dec1 .ptr v0 fun (b1 : Option Addr) =>
  f b1 h (fun  (h : Heap) => K (.tuple #[]) h)
  | _, _, _ => False
abbrev E_law1_Book_growQueue := E_law1_Book_growQueue_of F_law1_Book_growQueue
theorem E_law1_Book_growQueue.right : IsRight Tryz.prog 79 E_law1_Book_growQueue := by
  refine isRight fun vs K w hh => ?_
  match vs, hh with
  | [v0], hh =>
    unfold E_law1_Book_growQueue E_law1_Book_growQueue_of at hh
    replace hh := dec1_sound hh; obtain ⟨b1, rfl, hh⟩ := hh
    unfold F_law1_Book_growQueue at hh
    exact calls_den (fn1_right ok102 E_law1_queueMark.right noFns_right) plan79 _ w K Tryz.func79 (by kernel_rfl) (by kernel_rfl) (Eq.mp (F_law1_Book_growQueue.eq F_law1_queueMark b1 w.heap K) hh)
theorem ok79 : okFn Tryz.prog 79 = true := by kernel_rfl
end Go.Proofs.YtigcpkejjjgkeaaGreat.V
namespace Go.Proofs.YtigcpkejjjgkeaaGreat.V
open Go Go.RowKit
set_option linter.unusedVariables false
set_option maxRecDepth 100000
def F_law1_Book_growSlots.l1 (f103_ : Int → Heap → (Int → Int → Int → Int → Heap → Prop) → Prop) (b1 : Option Addr) (v18 : Int) (j19 : Heap → Prop) : Sl → Int → Heap → Prop :=
  wl [(4, .one .sl), (6, .one (.int .i64))] (fun (next20 : Sl → Int → Heap → Prop) (g21 : Sl) (i22 : Int) (h23 : Heap) =>
  brr (decide (i22 ≤ 32))
  (f103_ v18 h23 fun (r24 r25 r26 r27 : Int) (h28 : Heap) =>
  al 144 [.int .u64 r24, .int .i64 r25, .int .i64 r26, .int .u64 r27] h28 fun (a29 : Addr) (h30 : Heap) =>
  app 144 4 32 (.agg #[.int .u64 0, .int .i64 0, .int .i64 0, .int .u64 0]) g21 (some a29) 1 h30 fun (s31 : Sl) (h32 : Heap) =>
  jn [(50, .one .bool)] (fun (x34 : Bool) (h35 : Heap) =>
  jn [] (fun  (h53 : Heap) =>
  next20 s31 (IntKind.i64.wrap (i22 + 1)) h53) (fun (j36 : Heap → Prop) =>
  brr x34
  (nn b1 fun (a37 : Addr) =>
  ld [.sl] (a37.add 24) h35 fun (v38 : Sl) =>
  al 142 [.slice s31.ptr s31.len s31.cap] h35 fun (a39 : Addr) (h40 : Heap) =>
  app 142 1 24 (.slice none 0 0) v38 (some a39) 1 h40 fun (s41 : Sl) (h42 : Heap) =>
  nn b1 fun (a43 : Addr) =>
  st (a43.add 24) [.slice s41.ptr s41.len s41.cap] h42 fun (h44 : Heap) =>
  nn b1 fun (a45 : Addr) =>
  ld [.sl] (a45.add 25) h44 fun (v46 : Sl) =>
  al 3 [.int .i64 v18] h44 fun (a47 : Addr) (h48 : Heap) =>
  app 3 1 8 (.int .i64 0) v46 (some a47) 1 h48 fun (s49 : Sl) (h50 : Heap) =>
  nn b1 fun (a51 : Addr) =>
  st (a51.add 25) [.slice s49.ptr s49.len s49.cap] h50 fun (h52 : Heap) =>
  j36 h52)
  (j36 h35))) (fun (j33 : Bool → Heap → Prop) =>
  brr (decide (i22 < 4))
  (j33 true h32)
  ((16 : Int) ≠ 0 ∧
  j33 ((i22.tmod 16) == 0) h32)))
  (j19 h23))
def F_law1_Book_growSlots.l2 (f103_ : Int → Heap → (Int → Int → Int → Int → Heap → Prop) → Prop) (b1 : Option Addr) (v3 : Sl) (j6 : Heap → Prop) : Int → Heap → Prop :=
  wl [(3, .one (.int .i64))] (fun (next7 : Int → Heap → Prop) (k8 : Int) (h9 : Heap) =>
  brr (decide (k8 < ((v3.len : Nat) : Int)))
  (jn [] (fun  (h55 : Heap) =>
  next7 (IntKind.i64.wrap (k8 + 1)) h55) (fun (j10 : Heap → Prop) =>
  nn b1 fun (a11 : Addr) =>
  ld [.sl] (a11.add 24) h9 fun (v12 : Sl) =>
  ixS 1 v12 k8 fun (a13 : Addr) =>
  ld [.sl] a13 h9 fun (v14 : Sl) =>
  nn b1 fun (a15 : Addr) =>
  ld [.sl] (a15.add 25) h9 fun (v16 : Sl) =>
  ixS 1 v16 k8 fun (a17 : Addr) =>
  ld [.int .i64] a17 h9 fun (v18 : Int) =>
  jn [] (fun  (h54 : Heap) =>
  j10 h54) (fun (j19 : Heap → Prop) =>
  F_law1_Book_growSlots.l1 f103_ b1 v18 j19 v14 1 h9)))
  (j6 h9))
def F_law1_Book_growSlots_of (f103_ : Int → Heap → (Int → Int → Int → Int → Heap → Prop) → Prop) (b1 : Option Addr) (h : Heap) (Q : Heap → Prop) : Prop :=
  nn b1 fun (a2 : Addr) =>
  ld [.sl] (a2.add 24) h fun (v3 : Sl) =>
  nn b1 fun (a4 : Addr) =>
  ld [.int .i64] (a4.add 26) h fun (v5 : Int) =>
  jn [] (fun  (h56 : Heap) =>
  nn b1 fun (a57 : Addr) =>
  ld [.sl] (a57.add 24) h56 fun (v58 : Sl) =>
  nn b1 fun (a59 : Addr) =>
  st (a59.add 26) [.int .i64 ((v58.len : Nat) : Int)] h56 fun (h60 : Heap) =>
  Q h60) (fun (j6 : Heap → Prop) =>
  F_law1_Book_growSlots.l2 f103_ b1 v3 j6 v5 h)
def F_law1_Book_growSlots (b1 : Option Addr) (h : Heap) (Q : Heap → Prop) : Prop := F_law1_Book_growSlots_of F_law1_slotsMark b1 h Q
def plan80 : Plan := .s (.r [0, 2]) (.s (.s (.r [0, 2, 3]) (.bj [] [0] (.l [(3, .one (.int .i64))] [0, 2] (.s (.s (.r [0, 2, 3, 18]) (.c .z .z)) (.s (.bj [] [0, 2, 3] (.s (.r [0, 2, 3, 4]) (.s (.r [0, 2, 3, 4, 5]) (.s (.r [0, 2, 3, 4, 5, 6]) (.bj [] [0, 2, 3] (.l [(4, .one .sl), (6, .one (.int .i64))] [0, 2, 3, 5] (.s (.s (.r [0, 2, 3, 4, 5, 6, 36]) (.c .z .z)) (.s (.b (.s (.r [0, 2, 3, 4, 5, 6]) (.s (.rj [(50, .one .bool)] [0, 2, 3, 4, 5, 6]) (.cj [] [0, 2, 3, 4, 5, 6] (.s (.r [0, 2, 3, 4, 5, 6]) (.r [0, 2, 3, 4, 5, 6])) .z)))) (.r [0, 2, 3, 4, 5, 6]))))))))) (.r [0, 2, 3])))))) (.r []))
theorem F_law1_Book_growSlots.eq (f103_ : Int → Heap → (Int → Int → Int → Int → Heap → Prop) → Prop) (b1 : Option Addr) (h : Heap) (K : Value → Heap → Prop) : F_law1_Book_growSlots_of f103_ b1 h (fun  (h : Heap) => K (.tuple #[]) h) =
    den Tryz.prog (fn1 103 (E_law1_slotsMark_of f103_) noFns) Tryz.f80.ntmps plan80 (bodyOf Tryz.f80) (args0 0 [(.pointer b1 : Value)]) h ⟨fun env h => dRes Tryz.prog Tryz.f80.results.toList env h K, fun _ _ _ => False, fun env h => dRes Tryz.prog Tryz.f80.results.toList env h K⟩ := by kernel_rfl
def E_law1_Book_growSlots_of (f : Option Addr → Heap → (Heap → Prop) → Prop) : List Value → Heap → (Value → Heap → Prop) → Prop
  | [v0], h, K => dec1 .ptr v0 fun (b1 : Option Addr) =>
  f b1 h (fun  (h : Heap) => K (.tuple #[]) h)
  | _, _, _ => False
abbrev E_law1_Book_growSlots := E_law1_Book_growSlots_of F_law1_Book_growSlots
theorem E_law1_Book_growSlots.right : IsRight Tryz.prog 80 E_law1_Book_growSlots := by
  refine isRight fun vs K w hh => ?_
  match vs, hh with
  | [v0], hh =>
    unfold E_law1_Book_growSlots E_law1_Book_growSlots_of at hh
    replace hh := dec1_sound hh; obtain ⟨b1, rfl, hh⟩ := hh
    unfold F_law1_Book_growSlots at hh
    exact calls_den (fn1_right ok103 E_law1_slotsMark.right noFns_right) plan80 _ w K Tryz.func80 (by kernel_rfl) (by kernel_rfl) (Eq.mp (F_law1_Book_growSlots.eq F_law1_slotsMark b1 w.heap K) hh)
theorem ok80 : okFn Tryz.prog 80 = true := by kernel_rfl
end Go.Proofs.YtigcpkejjjgkeaaGreat.V
namespace Go.Proofs.YtigcpkejjjgkeaaGreat.V
open Go Go.RowKit
set_option linter.unusedVariables false
set_option maxRecDepth 100000
def F_law1_Book_growMsgs.l1 (f88_ : Int → Heap → (Int → Int → Int → Int → Int → Int → Int → Int → Int → Int → Sl → Int → Int → ByteArray → ByteArray → Int → Int → Int → Int → Int → Int → Int → Heap → Prop) → Prop) (b1 : Option Addr) (v18 : Int) (j19 : Heap → Prop) : Sl → Int → Heap → Prop :=
  wl [(4, .one .sl), (6, .one (.int .i64))] (fun (next20 : Sl → Int → Heap → Prop) (g21 : Sl) (i22 : Int) (h23 : Heap) =>
  brr (decide (i22 ≤ 32))
  (f88_ v18 h23 fun (r24 r25 r26 r27 r28 r29 r30 r31 r32 r33 : Int) (r34 : Sl) (r35 r36 : Int) (r37 r38 : ByteArray) (r39 r40 r41 r42 r43 r44 r45 : Int) (h46 : Heap) =>
  al 61 [.int .i64 r24, .int .i64 r25, .int .i64 r26, .int .i64 r27, .int .u64 r28, .int .u64 r29, .int .u64 r30, .int .u64 r31, .int .i64 r32, .int .u64 r33, .slice r34.ptr r34.len r34.cap, .int .i64 r35, .int .u64 r36, .string r37, .string r38, .int .u64 r39, .int .u64 r40, .int .u64 r41, .int .i64 r42, .int .i64 r43, .int .i64 r44, .int .i64 r45] h46 fun (a47 : Addr) (h48 : Heap) =>
  app 61 22 208 (.agg #[.int .i64 0, .int .i64 0, .int .i64 0, .int .i64 0, .int .u64 0, .int .u64 0, .int .u64 0, .int .u64 0, .int .i64 0, .int .u64 0, .slice none 0 0, .int .i64 0, .int .u64 0, .string (⟨#[]⟩ : ByteArray), .string (⟨#[]⟩ : ByteArray), .int .u64 0, .int .u64 0, .int .u64 0, .int .i64 0, .int .i64 0, .int .i64 0, .int .i64 0]) g21 (some a47) 1 h48 fun (s49 : Sl) (h50 : Heap) =>
  jn [(50, .one .bool)] (fun (x52 : Bool) (h53 : Heap) =>
  jn [] (fun  (h71 : Heap) =>
  next20 s49 (IntKind.i64.wrap (i22 + 1)) h71) (fun (j54 : Heap → Prop) =>
  brr x52
  (nn b1 fun (a55 : Addr) =>
  ld [.sl] (a55.add 27) h53 fun (v56 : Sl) =>
  al 87 [.slice s49.ptr s49.len s49.cap] h53 fun (a57 : Addr) (h58 : Heap) =>
  app 87 1 24 (.slice none 0 0) v56 (some a57) 1 h58 fun (s59 : Sl) (h60 : Heap) =>
  nn b1 fun (a61 : Addr) =>
  st (a61.add 27) [.slice s59.ptr s59.len s59.cap] h60 fun (h62 : Heap) =>
  nn b1 fun (a63 : Addr) =>
  ld [.sl] (a63.add 28) h62 fun (v64 : Sl) =>
  al 3 [.int .i64 v18] h62 fun (a65 : Addr) (h66 : Heap) =>
  app 3 1 8 (.int .i64 0) v64 (some a65) 1 h66 fun (s67 : Sl) (h68 : Heap) =>
  nn b1 fun (a69 : Addr) =>
  st (a69.add 28) [.slice s67.ptr s67.len s67.cap] h68 fun (h70 : Heap) =>
  j54 h70)
  (j54 h53))) (fun (j51 : Bool → Heap → Prop) =>
  brr (decide (i22 < 4))
  (j51 true h50)
  ((16 : Int) ≠ 0 ∧
  j51 ((i22.tmod 16) == 0) h50)))
  (j19 h23))
def F_law1_Book_growMsgs.l2 (f88_ : Int → Heap → (Int → Int → Int → Int → Int → Int → Int → Int → Int → Int → Sl → Int → Int → ByteArray → ByteArray → Int → Int → Int → Int → Int → Int → Int → Heap → Prop) → Prop) (b1 : Option Addr) (v3 : Sl) (j6 : Heap → Prop) : Int → Heap → Prop :=
  wl [(3, .one (.int .i64))] (fun (next7 : Int → Heap → Prop) (k8 : Int) (h9 : Heap) =>
  brr (decide (k8 < ((v3.len : Nat) : Int)))
  (jn [] (fun  (h73 : Heap) =>
  next7 (IntKind.i64.wrap (k8 + 1)) h73) (fun (j10 : Heap → Prop) =>
  nn b1 fun (a11 : Addr) =>
  ld [.sl] (a11.add 27) h9 fun (v12 : Sl) =>
  ixS 1 v12 k8 fun (a13 : Addr) =>
  ld [.sl] a13 h9 fun (v14 : Sl) =>
  nn b1 fun (a15 : Addr) =>
  ld [.sl] (a15.add 28) h9 fun (v16 : Sl) =>
  ixS 1 v16 k8 fun (a17 : Addr) =>
  ld [.int .i64] a17 h9 fun (v18 : Int) =>
  jn [] (fun  (h72 : Heap) =>
  j10 h72) (fun (j19 : Heap → Prop) =>
  F_law1_Book_growMsgs.l1 f88_ b1 v18 j19 v14 1 h9)))
  (j6 h9))
def F_law1_Book_growMsgs_of (f88_ : Int → Heap → (Int → Int → Int → Int → Int → Int → Int → Int → Int → Int → Sl → Int → Int → ByteArray → ByteArray → Int → Int → Int → Int → Int → Int → Int → Heap → Prop) → Prop) (b1 : Option Addr) (h : Heap) (Q : Heap → Prop) : Prop :=
  nn b1 fun (a2 : Addr) =>
  ld [.sl] (a2.add 27) h fun (v3 : Sl) =>
  nn b1 fun (a4 : Addr) =>
  ld [.int .i64] (a4.add 29) h fun (v5 : Int) =>
  jn [] (fun  (h74 : Heap) =>
  nn b1 fun (a75 : Addr) =>
  ld [.sl] (a75.add 27) h74 fun (v76 : Sl) =>
  nn b1 fun (a77 : Addr) =>
  st (a77.add 29) [.int .i64 ((v76.len : Nat) : Int)] h74 fun (h78 : Heap) =>
  Q h78) (fun (j6 : Heap → Prop) =>
  F_law1_Book_growMsgs.l2 f88_ b1 v3 j6 v5 h)
def F_law1_Book_growMsgs (b1 : Option Addr) (h : Heap) (Q : Heap → Prop) : Prop := F_law1_Book_growMsgs_of F_law1_msgsMark b1 h Q
def plan81 : Plan := .s (.r [0, 2]) (.s (.s (.r [0, 2, 3]) (.bj [] [0] (.l [(3, .one (.int .i64))] [0, 2] (.s (.s (.r [0, 2, 3, 18]) (.c .z .z)) (.s (.bj [] [0, 2, 3] (.s (.r [0, 2, 3, 4]) (.s (.r [0, 2, 3, 4, 5]) (.s (.r [0, 2, 3, 4, 5, 6]) (.bj [] [0, 2, 3] (.l [(4, .one .sl), (6, .one (.int .i64))] [0, 2, 3, 5] (.s (.s (.r [0, 2, 3, 4, 5, 6, 36]) (.c .z .z)) (.s (.b (.s (.r [0, 2, 3, 4, 5, 6]) (.s (.rj [(50, .one .bool)] [0, 2, 3, 4, 5, 6]) (.cj [] [0, 2, 3, 4, 5, 6] (.s (.r [0, 2, 3, 4, 5, 6]) (.r [0, 2, 3, 4, 5, 6])) .z)))) (.r [0, 2, 3, 4, 5, 6]))))))))) (.r [0, 2, 3])))))) (.r []))
theorem F_law1_Book_growMsgs.eq (f88_ : Int → Heap → (Int → Int → Int → Int → Int → Int → Int → Int → Int → Int → Sl → Int → Int → ByteArray → ByteArray → Int → Int → Int → Int → Int → Int → Int → Heap → Prop) → Prop) (b1 : Option Addr) (h : Heap) (K : Value → Heap → Prop) : F_law1_Book_growMsgs_of f88_ b1 h (fun  (h : Heap) => K (.tuple #[]) h) =
    den Tryz.prog (fn1 88 (E_law1_msgsMark_of f88_) noFns) Tryz.f81.ntmps plan81 (bodyOf Tryz.f81) (args0 0 [(.pointer b1 : Value)]) h ⟨fun env h => dRes Tryz.prog Tryz.f81.results.toList env h K, fun _ _ _ => False, fun env h => dRes Tryz.prog Tryz.f81.results.toList env h K⟩ := by kernel_rfl
def E_law1_Book_growMsgs_of (f : Option Addr → Heap → (Heap → Prop) → Prop) : List Value → Heap → (Value → Heap → Prop) → Prop
  | [v0], h, K => dec1 .ptr v0 fun (b1 : Option Addr) =>
  f b1 h (fun  (h : Heap) => K (.tuple #[]) h)
  | _, _, _ => False
abbrev E_law1_Book_growMsgs := E_law1_Book_growMsgs_of F_law1_Book_growMsgs
theorem E_law1_Book_growMsgs.right : IsRight Tryz.prog 81 E_law1_Book_growMsgs := by
  refine isRight fun vs K w hh => ?_
  match vs, hh with
  | [v0], hh =>
    unfold E_law1_Book_growMsgs E_law1_Book_growMsgs_of at hh
    replace hh := dec1_sound hh; obtain ⟨b1, rfl, hh⟩ := hh
    unfold F_law1_Book_growMsgs at hh
    exact calls_den (fn1_right ok88 E_law1_msgsMark.right noFns_right) plan81 _ w K Tryz.func81 (by kernel_rfl) (by kernel_rfl) (Eq.mp (F_law1_Book_growMsgs.eq F_law1_msgsMark b1 w.heap K) hh)
theorem ok81 : okFn Tryz.prog 81 = true := by kernel_rfl
end Go.Proofs.YtigcpkejjjgkeaaGreat.V
namespace Go.Proofs.YtigcpkejjjgkeaaGreat.V
open Go Go.RowKit
set_option linter.unusedVariables false
set_option maxRecDepth 100000
def F_law1_flightsMark_of  (m1 : Int) (h : Heap) (Q : Int → Sl → Heap → Prop) : Prop :=
  al 148 [.int .i64 0, .slice none 0 0] h fun (a2 : Addr) (h3 : Heap) =>
  st a2 [.int .i64 (IntKind.i64.wrap (1000 + m1)), .slice none 0 0] h3 fun (h4 : Heap) =>
  ld [.int .i64, .sl] a2 h4 fun (v5 : Int) (v6 : Sl) =>
  Q v5 v6 h4
def F_law1_flightsMark (m1 : Int) (h : Heap) (Q : Int → Sl → Heap → Prop) : Prop := F_law1_flightsMark_of  m1 h Q
def plan105 : Plan := .s (.r [0, 2]) (.s (.r [2]) .z)
theorem F_law1_flightsMark.eq  (m1 : Int) (h : Heap) (K : Value → Heap → Prop) : F_law1_flightsMark_of  m1 h (fun (r0 : Int) (r1 : Sl) (h : Heap) => K (.agg #[.int .i64 r0, .slice r1.ptr r1.len r1.cap]) h) =
    den Tryz.prog noFns Tryz.f105.ntmps plan105 (bodyOf Tryz.f105) (args0 0 [(.int .i64 m1 : Value)]) h ⟨fun env h => dRes Tryz.prog Tryz.f105.results.toList env h K, fun _ _ _ => False, fun env h => dRes Tryz.prog Tryz.f105.results.toList env h K⟩ := by kernel_rfl
def E_law1_flightsMark_of (f : Int → Heap → (Int → Sl → Heap → Prop) → Prop) : List Value → Heap → (Value → Heap → Prop) → Prop
  | [v0], h, K => dec1 (.int .i64) v0 fun (m1 : Int) =>
  f m1 h (fun (r0 : Int) (r1 : Sl) (h : Heap) => K (.agg #[.int .i64 r0, .slice r1.ptr r1.len r1.cap]) h)
  | _, _, _ => False
abbrev E_law1_flightsMark := E_law1_flightsMark_of F_law1_flightsMark
theorem E_law1_flightsMark.right : IsRight Tryz.prog 105 E_law1_flightsMark := by
  refine isRight fun vs K w hh => ?_
  match vs, hh with
  | [v0], hh =>
    unfold E_law1_flightsMark E_law1_flightsMark_of at hh
    replace hh := dec1_sound hh; obtain ⟨m1, rfl, hh⟩ := hh
    unfold F_law1_flightsMark at hh
    exact calls_den noFns_right plan105 _ w K Tryz.func105 (by kernel_rfl) (by kernel_rfl) (Eq.mp (F_law1_flightsMark.eq  m1 w.heap K) hh)
theorem ok105 : okFn Tryz.prog 105 = true := by kernel_rfl
end Go.Proofs.YtigcpkejjjgkeaaGreat.V
namespace Go.Proofs.YtigcpkejjjgkeaaGreat.V
open Go Go.RowKit
set_option linter.unusedVariables false
set_option maxRecDepth 100000
def F_law1_Book_growFlights.l1 (f105_ : Int → Heap → (Int → Sl → Heap → Prop) → Prop) (b1 : Option Addr) (v18 : Int) (j19 : Heap → Prop) : Sl → Int → Heap → Prop :=
  wl [(4, .one .sl), (6, .one (.int .i64))] (fun (next20 : Sl → Int → Heap → Prop) (g21 : Sl) (i22 : Int) (h23 : Heap) =>
  brr (decide (i22 ≤ 32))
  (f105_ v18 h23 fun (r24 : Int) (r25 : Sl) (h26 : Heap) =>
  al 148 [.int .i64 r24, .slice r25.ptr r25.len r25.cap] h26 fun (a27 : Addr) (h28 : Heap) =>
  app 148 2 32 (.agg #[.int .i64 0, .slice none 0 0]) g21 (some a27) 1 h28 fun (s29 : Sl) (h30 : Heap) =>
  jn [(50, .one .bool)] (fun (x32 : Bool) (h33 : Heap) =>
  jn [] (fun  (h51 : Heap) =>
  next20 s29 (IntKind.i64.wrap (i22 + 1)) h51) (fun (j34 : Heap → Prop) =>
  brr x32
  (nn b1 fun (a35 : Addr) =>
  ld [.sl] (a35.add 30) h33 fun (v36 : Sl) =>
  al 146 [.slice s29.ptr s29.len s29.cap] h33 fun (a37 : Addr) (h38 : Heap) =>
  app 146 1 24 (.slice none 0 0) v36 (some a37) 1 h38 fun (s39 : Sl) (h40 : Heap) =>
  nn b1 fun (a41 : Addr) =>
  st (a41.add 30) [.slice s39.ptr s39.len s39.cap] h40 fun (h42 : Heap) =>
  nn b1 fun (a43 : Addr) =>
  ld [.sl] (a43.add 31) h42 fun (v44 : Sl) =>
  al 3 [.int .i64 v18] h42 fun (a45 : Addr) (h46 : Heap) =>
  app 3 1 8 (.int .i64 0) v44 (some a45) 1 h46 fun (s47 : Sl) (h48 : Heap) =>
  nn b1 fun (a49 : Addr) =>
  st (a49.add 31) [.slice s47.ptr s47.len s47.cap] h48 fun (h50 : Heap) =>
  j34 h50)
  (j34 h33))) (fun (j31 : Bool → Heap → Prop) =>
  brr (decide (i22 < 4))
  (j31 true h30)
  ((16 : Int) ≠ 0 ∧
  j31 ((i22.tmod 16) == 0) h30)))
  (j19 h23))
def F_law1_Book_growFlights.l2 (f105_ : Int → Heap → (Int → Sl → Heap → Prop) → Prop) (b1 : Option Addr) (v3 : Sl) (j6 : Heap → Prop) : Int → Heap → Prop :=
  wl [(3, .one (.int .i64))] (fun (next7 : Int → Heap → Prop) (k8 : Int) (h9 : Heap) =>
  brr (decide (k8 < ((v3.len : Nat) : Int)))
  (jn [] (fun  (h53 : Heap) =>
  next7 (IntKind.i64.wrap (k8 + 1)) h53) (fun (j10 : Heap → Prop) =>
  nn b1 fun (a11 : Addr) =>
  ld [.sl] (a11.add 30) h9 fun (v12 : Sl) =>
  ixS 1 v12 k8 fun (a13 : Addr) =>
  ld [.sl] a13 h9 fun (v14 : Sl) =>
  nn b1 fun (a15 : Addr) =>
  ld [.sl] (a15.add 31) h9 fun (v16 : Sl) =>
  ixS 1 v16 k8 fun (a17 : Addr) =>
  ld [.int .i64] a17 h9 fun (v18 : Int) =>
  jn [] (fun  (h52 : Heap) =>
  j10 h52) (fun (j19 : Heap → Prop) =>
  F_law1_Book_growFlights.l1 f105_ b1 v18 j19 v14 1 h9)))
  (j6 h9))
def F_law1_Book_growFlights_of (f105_ : Int → Heap → (Int → Sl → Heap → Prop) → Prop) (b1 : Option Addr) (h : Heap) (Q : Heap → Prop) : Prop :=
  nn b1 fun (a2 : Addr) =>
  ld [.sl] (a2.add 30) h fun (v3 : Sl) =>
  nn b1 fun (a4 : Addr) =>
  ld [.int .i64] (a4.add 32) h fun (v5 : Int) =>
  jn [] (fun  (h54 : Heap) =>
  nn b1 fun (a55 : Addr) =>
  ld [.sl] (a55.add 30) h54 fun (v56 : Sl) =>
  nn b1 fun (a57 : Addr) =>
  st (a57.add 32) [.int .i64 ((v56.len : Nat) : Int)] h54 fun (h58 : Heap) =>
  Q h58) (fun (j6 : Heap → Prop) =>
  F_law1_Book_growFlights.l2 f105_ b1 v3 j6 v5 h)
def F_law1_Book_growFlights (b1 : Option Addr) (h : Heap) (Q : Heap → Prop) : Prop := F_law1_Book_growFlights_of F_law1_flightsMark b1 h Q
def plan82 : Plan := .s (.r [0, 2]) (.s (.s (.r [0, 2, 3]) (.bj [] [0] (.l [(3, .one (.int .i64))] [0, 2] (.s (.s (.r [0, 2, 3, 18]) (.c .z .z)) (.s (.bj [] [0, 2, 3] (.s (.r [0, 2, 3, 4]) (.s (.r [0, 2, 3, 4, 5]) (.s (.r [0, 2, 3, 4, 5, 6]) (.bj [] [0, 2, 3] (.l [(4, .one .sl), (6, .one (.int .i64))] [0, 2, 3, 5] (.s (.s (.r [0, 2, 3, 4, 5, 6, 36]) (.c .z .z)) (.s (.b (.s (.r [0, 2, 3, 4, 5, 6]) (.s (.rj [(50, .one .bool)] [0, 2, 3, 4, 5, 6]) (.cj [] [0, 2, 3, 4, 5, 6] (.s (.r [0, 2, 3, 4, 5, 6]) (.r [0, 2, 3, 4, 5, 6])) .z)))) (.r [0, 2, 3, 4, 5, 6]))))))))) (.r [0, 2, 3])))))) (.r []))
theorem F_law1_Book_growFlights.eq (f105_ : Int → Heap → (Int → Sl → Heap → Prop) → Prop) (b1 : Option Addr) (h : Heap) (K : Value → Heap → Prop) : F_law1_Book_growFlights_of f105_ b1 h (fun  (h : Heap) => K (.tuple #[]) h) =
    den Tryz.prog (fn1 105 (E_law1_flightsMark_of f105_) noFns) Tryz.f82.ntmps plan82 (bodyOf Tryz.f82) (args0 0 [(.pointer b1 : Value)]) h ⟨fun env h => dRes Tryz.prog Tryz.f82.results.toList env h K, fun _ _ _ => False, fun env h => dRes Tryz.prog Tryz.f82.results.toList env h K⟩ := by kernel_rfl
def E_law1_Book_growFlights_of (f : Option Addr → Heap → (Heap → Prop) → Prop) : List Value → Heap → (Value → Heap → Prop) → Prop
  | [v0], h, K => dec1 .ptr v0 fun (b1 : Option Addr) =>
  f b1 h (fun  (h : Heap) => K (.tuple #[]) h)
  | _, _, _ => False
abbrev E_law1_Book_growFlights := E_law1_Book_growFlights_of F_law1_Book_growFlights
theorem E_law1_Book_growFlights.right : IsRight Tryz.prog 82 E_law1_Book_growFlights := by
  refine isRight fun vs K w hh => ?_
  match vs, hh with
  | [v0], hh =>
    unfold E_law1_Book_growFlights E_law1_Book_growFlights_of at hh
    replace hh := dec1_sound hh; obtain ⟨b1, rfl, hh⟩ := hh
    unfold F_law1_Book_growFlights at hh
    exact calls_den (fn1_right ok105 E_law1_flightsMark.right noFns_right) plan82 _ w K Tryz.func82 (by kernel_rfl) (by kernel_rfl) (Eq.mp (F_law1_Book_growFlights.eq F_law1_flightsMark b1 w.heap K) hh)
theorem ok82 : okFn Tryz.prog 82 = true := by kernel_rfl
end Go.Proofs.YtigcpkejjjgkeaaGreat.V
namespace Go.Proofs.YtigcpkejjjgkeaaGreat.V
open Go Go.RowKit
set_option linter.unusedVariables false
set_option maxRecDepth 100000
def F_law1_Book_growFiles.l1 (f104_ : Int → Heap → (ByteArray → Sl → Heap → Prop) → Prop) (b1 : Option Addr) (v18 : Int) (j19 : Heap → Prop) : Sl → Int → Heap → Prop :=
  wl [(4, .one .sl), (6, .one (.int .i64))] (fun (next20 : Sl → Int → Heap → Prop) (g21 : Sl) (i22 : Int) (h23 : Heap) =>
  brr (decide (i22 ≤ 32))
  (f104_ v18 h23 fun (r24 : ByteArray) (r25 : Sl) (h26 : Heap) =>
  al 151 [.string r24, .slice r25.ptr r25.len r25.cap] h26 fun (a27 : Addr) (h28 : Heap) =>
  app 151 2 40 (.agg #[.string (⟨#[]⟩ : ByteArray), .slice none 0 0]) g21 (some a27) 1 h28 fun (s29 : Sl) (h30 : Heap) =>
  jn [(50, .one .bool)] (fun (x32 : Bool) (h33 : Heap) =>
  jn [] (fun  (h51 : Heap) =>
  next20 s29 (IntKind.i64.wrap (i22 + 1)) h51) (fun (j34 : Heap → Prop) =>
  brr x32
  (nn b1 fun (a35 : Addr) =>
  ld [.sl] (a35.add 33) h33 fun (v36 : Sl) =>
  al 149 [.slice s29.ptr s29.len s29.cap] h33 fun (a37 : Addr) (h38 : Heap) =>
  app 149 1 24 (.slice none 0 0) v36 (some a37) 1 h38 fun (s39 : Sl) (h40 : Heap) =>
  nn b1 fun (a41 : Addr) =>
  st (a41.add 33) [.slice s39.ptr s39.len s39.cap] h40 fun (h42 : Heap) =>
  nn b1 fun (a43 : Addr) =>
  ld [.sl] (a43.add 34) h42 fun (v44 : Sl) =>
  al 3 [.int .i64 v18] h42 fun (a45 : Addr) (h46 : Heap) =>
  app 3 1 8 (.int .i64 0) v44 (some a45) 1 h46 fun (s47 : Sl) (h48 : Heap) =>
  nn b1 fun (a49 : Addr) =>
  st (a49.add 34) [.slice s47.ptr s47.len s47.cap] h48 fun (h50 : Heap) =>
  j34 h50)
  (j34 h33))) (fun (j31 : Bool → Heap → Prop) =>
  brr (decide (i22 < 4))
  (j31 true h30)
  ((16 : Int) ≠ 0 ∧
  j31 ((i22.tmod 16) == 0) h30)))
  (j19 h23))
def F_law1_Book_growFiles.l2 (f104_ : Int → Heap → (ByteArray → Sl → Heap → Prop) → Prop) (b1 : Option Addr) (v3 : Sl) (j6 : Heap → Prop) : Int → Heap → Prop :=
  wl [(3, .one (.int .i64))] (fun (next7 : Int → Heap → Prop) (k8 : Int) (h9 : Heap) =>
  brr (decide (k8 < ((v3.len : Nat) : Int)))
  (jn [] (fun  (h53 : Heap) =>
  next7 (IntKind.i64.wrap (k8 + 1)) h53) (fun (j10 : Heap → Prop) =>
  nn b1 fun (a11 : Addr) =>
  ld [.sl] (a11.add 33) h9 fun (v12 : Sl) =>
  ixS 1 v12 k8 fun (a13 : Addr) =>
  ld [.sl] a13 h9 fun (v14 : Sl) =>
  nn b1 fun (a15 : Addr) =>
  ld [.sl] (a15.add 34) h9 fun (v16 : Sl) =>
  ixS 1 v16 k8 fun (a17 : Addr) =>
  ld [.int .i64] a17 h9 fun (v18 : Int) =>
  jn [] (fun  (h52 : Heap) =>
  j10 h52) (fun (j19 : Heap → Prop) =>
  F_law1_Book_growFiles.l1 f104_ b1 v18 j19 v14 1 h9)))
  (j6 h9))
def F_law1_Book_growFiles_of (f104_ : Int → Heap → (ByteArray → Sl → Heap → Prop) → Prop) (b1 : Option Addr) (h : Heap) (Q : Heap → Prop) : Prop :=
  nn b1 fun (a2 : Addr) =>
  ld [.sl] (a2.add 33) h fun (v3 : Sl) =>
  nn b1 fun (a4 : Addr) =>
  ld [.int .i64] (a4.add 35) h fun (v5 : Int) =>
  jn [] (fun  (h54 : Heap) =>
  nn b1 fun (a55 : Addr) =>
  ld [.sl] (a55.add 33) h54 fun (v56 : Sl) =>
  nn b1 fun (a57 : Addr) =>
  st (a57.add 35) [.int .i64 ((v56.len : Nat) : Int)] h54 fun (h58 : Heap) =>
  Q h58) (fun (j6 : Heap → Prop) =>
  F_law1_Book_growFiles.l2 f104_ b1 v3 j6 v5 h)
def F_law1_Book_growFiles (b1 : Option Addr) (h : Heap) (Q : Heap → Prop) : Prop := F_law1_Book_growFiles_of F_law1_filesMark b1 h Q
def plan83 : Plan := .s (.r [0, 2]) (.s (.s (.r [0, 2, 3]) (.bj [] [0] (.l [(3, .one (.int .i64))] [0, 2] (.s (.s (.r [0, 2, 3, 18]) (.c .z .z)) (.s (.bj [] [0, 2, 3] (.s (.r [0, 2, 3, 4]) (.s (.r [0, 2, 3, 4, 5]) (.s (.r [0, 2, 3, 4, 5, 6]) (.bj [] [0, 2, 3] (.l [(4, .one .sl), (6, .one (.int .i64))] [0, 2, 3, 5] (.s (.s (.r [0, 2, 3, 4, 5, 6, 36]) (.c .z .z)) (.s (.b (.s (.r [0, 2, 3, 4, 5, 6]) (.s (.rj [(50, .one .bool)] [0, 2, 3, 4, 5, 6]) (.cj [] [0, 2, 3, 4, 5, 6] (.s (.r [0, 2, 3, 4, 5, 6]) (.r [0, 2, 3, 4, 5, 6])) .z)))) (.r [0, 2, 3, 4, 5, 6]))))))))) (.r [0, 2, 3])))))) (.r []))
theorem F_law1_Book_growFiles.eq (f104_ : Int → Heap → (ByteArray → Sl → Heap → Prop) → Prop) (b1 : Option Addr) (h : Heap) (K : Value → Heap → Prop) : F_law1_Book_growFiles_of f104_ b1 h (fun  (h : Heap) => K (.tuple #[]) h) =
    den Tryz.prog (fn1 104 (E_law1_filesMark_of f104_) noFns) Tryz.f83.ntmps plan83 (bodyOf Tryz.f83) (args0 0 [(.pointer b1 : Value)]) h ⟨fun env h => dRes Tryz.prog Tryz.f83.results.toList env h K, fun _ _ _ => False, fun env h => dRes Tryz.prog Tryz.f83.results.toList env h K⟩ := by kernel_rfl
def E_law1_Book_growFiles_of (f : Option Addr → Heap → (Heap → Prop) → Prop) : List Value → Heap → (Value → Heap → Prop) → Prop
  | [v0], h, K => dec1 .ptr v0 fun (b1 : Option Addr) =>
  f b1 h (fun  (h : Heap) => K (.tuple #[]) h)
  | _, _, _ => False
abbrev E_law1_Book_growFiles := E_law1_Book_growFiles_of F_law1_Book_growFiles
theorem E_law1_Book_growFiles.right : IsRight Tryz.prog 83 E_law1_Book_growFiles := by
  refine isRight fun vs K w hh => ?_
  match vs, hh with
  | [v0], hh =>
    unfold E_law1_Book_growFiles E_law1_Book_growFiles_of at hh
    replace hh := dec1_sound hh; obtain ⟨b1, rfl, hh⟩ := hh
    unfold F_law1_Book_growFiles at hh
    exact calls_den (fn1_right ok104 E_law1_filesMark.right noFns_right) plan83 _ w K Tryz.func83 (by kernel_rfl) (by kernel_rfl) (Eq.mp (F_law1_Book_growFiles.eq F_law1_filesMark b1 w.heap K) hh)
theorem ok83 : okFn Tryz.prog 83 = true := by kernel_rfl
end Go.Proofs.YtigcpkejjjgkeaaGreat.V
namespace Go.Proofs.YtigcpkejjjgkeaaGreat.V
open Go Go.RowKit
set_option linter.unusedVariables false
set_option maxRecDepth 100000
def F_law1_Book_grow_of (f72_ : Option Addr → Heap → (Heap → Prop) → Prop) (f73_ : Option Addr → Heap → (Heap → Prop) → Prop) (f74_ : Option Addr → Heap → (Heap → Prop) → Prop) (f75_ : Option Addr → Heap → (Heap → Prop) → Prop) (f76_ : Option Addr → Heap → (Heap → Prop) → Prop) (f77_ : Option Addr → Heap → (Heap → Prop) → Prop) (f78_ : Option Addr → Heap → (Heap → Prop) → Prop) (f79_ : Option Addr → Heap → (Heap → Prop) → Prop) (f80_ : Option Addr → Heap → (Heap → Prop) → Prop) (f81_ : Option Addr → Heap → (Heap → Prop) → Prop) (f82_ : Option Addr → Heap → (Heap → Prop) → Prop) (f83_ : Option Addr → Heap → (Heap → Prop) → Prop) (b1 : Option Addr) (h : Heap) (Q : Heap → Prop) : Prop :=
  f72_ b1 h fun  (h2 : Heap) =>
  f73_ b1 h2 fun  (h3 : Heap) =>
  f74_ b1 h3 fun  (h4 : Heap) =>
  f75_ b1 h4 fun  (h5 : Heap) =>
  f76_ b1 h5 fun  (h6 : Heap) =>
  f77_ b1 h6 fun  (h7 : Heap) =>
  f78_ b1 h7 fun  (h8 : Heap) =>
  f79_ b1 h8 fun  (h9 : Heap) =>
  f80_ b1 h9 fun  (h10 : Heap) =>
  f81_ b1 h10 fun  (h11 : Heap) =>
  f82_ b1 h11 fun  (h12 : Heap) =>
  f83_ b1 h12 fun  (h13 : Heap) =>
  nn b1 fun (a14 : Addr) =>
  ld [.int .i64] (a14.add 36) h13 fun (v15 : Int) =>
  nn b1 fun (a16 : Addr) =>
  st (a16.add 37) [.int .i64 v15] h13 fun (h17 : Heap) =>
  Q h17
def F_law1_Book_grow (b1 : Option Addr) (h : Heap) (Q : Heap → Prop) : Prop := F_law1_Book_grow_of F_law1_Book_growBytes F_law1_Book_growRows F_law1_Book_growTexts F_law1_Book_growInts F_law1_Book_growWords F_law1_Book_growDones F_law1_Book_growAccts F_law1_Book_growQueue F_law1_Book_growSlots F_law1_Book_growMsgs F_law1_Book_growFlights F_law1_Book_growFiles b1 h Q
def plan40 : Plan := .s (.r [0]) (.s (.r [0]) (.s (.r [0]) (.s (.r [0]) (.s (.r [0]) (.s (.r [0]) (.s (.r [0]) (.s (.r [0]) (.s (.r [0]) (.s (.r [0]) (.s (.r [0]) (.s (.r [0]) (.r []))))))))))))
theorem F_law1_Book_grow.eq (f72_ : Option Addr → Heap → (Heap → Prop) → Prop) (f73_ : Option Addr → Heap → (Heap → Prop) → Prop) (f74_ : Option Addr → Heap → (Heap → Prop) → Prop) (f75_ : Option Addr → Heap → (Heap → Prop) → Prop) (f76_ : Option Addr → Heap → (Heap → Prop) → Prop) (f77_ : Option Addr → Heap → (Heap → Prop) → Prop) (f78_ : Option Addr → Heap → (Heap → Prop) → Prop) (f79_ : Option Addr → Heap → (Heap → Prop) → Prop) (f80_ : Option Addr → Heap → (Heap → Prop) → Prop) (f81_ : Option Addr → Heap → (Heap → Prop) → Prop) (f82_ : Option Addr → Heap → (Heap → Prop) → Prop) (f83_ : Option Addr → Heap → (Heap → Prop) → Prop) (b1 : Option Addr) (h : Heap) (K : Value → Heap → Prop) : F_law1_Book_grow_of f72_ f73_ f74_ f75_ f76_ f77_ f78_ f79_ f80_ f81_ f82_ f83_ b1 h (fun  (h : Heap) => K (.tuple #[]) h) =
    den Tryz.prog (fn1 72 (E_law1_Book_growBytes_of f72_) (fn1 73 (E_law1_Book_growRows_of f73_) (fn1 74 (E_law1_Book_growTexts_of f74_) (fn1 75 (E_law1_Book_growInts_of f75_) (fn1 76 (E_law1_Book_growWords_of f76_) (fn1 77 (E_law1_Book_growDones_of f77_) (fn1 78 (E_law1_Book_growAccts_of f78_) (fn1 79 (E_law1_Book_growQueue_of f79_) (fn1 80 (E_law1_Book_growSlots_of f80_) (fn1 81 (E_law1_Book_growMsgs_of f81_) (fn1 82 (E_law1_Book_growFlights_of f82_) (fn1 83 (E_law1_Book_growFiles_of f83_) noFns)))))))))))) Tryz.f40.ntmps plan40 (bodyOf Tryz.f40) (args0 0 [(.pointer b1 : Value)]) h ⟨fun env h => dRes Tryz.prog Tryz.f40.results.toList env h K, fun _ _ _ => False, fun env h => dRes Tryz.prog Tryz.f40.results.toList env h K⟩ := by kernel_rfl
def E_law1_Book_grow_of (f : Option Addr → Heap → (Heap → Prop) → Prop) : List Value → Heap → (Value → Heap → Prop) → Prop
  | [v0], h, K => dec1 .ptr v0 fun (b1 : Option Addr) =>
  f b1 h (fun  (h : Heap) => K (.tuple #[]) h)
  | _, _, _ => False
abbrev E_law1_Book_grow := E_law1_Book_grow_of F_law1_Book_grow
theorem E_law1_Book_grow.right : IsRight Tryz.prog 40 E_law1_Book_grow := by
  refine isRight fun vs K w hh => ?_
  match vs, hh with
  | [v0], hh =>
    unfold E_law1_Book_grow E_law1_Book_grow_of at hh
    replace hh := dec1_sound hh; obtain ⟨b1, rfl, hh⟩ := hh
    unfold F_law1_Book_grow at hh
    exact calls_den (fn1_right ok72 E_law1_Book_growBytes.right (fn1_right ok73 E_law1_Book_growRows.right (fn1_right ok74 E_law1_Book_growTexts.right (fn1_right ok75 E_law1_Book_growInts.right (fn1_right ok76 E_law1_Book_growWords.right (fn1_right ok77 E_law1_Book_growDones.right (fn1_right ok78 E_law1_Book_growAccts.right (fn1_right ok79 E_law1_Book_growQueue.right (fn1_right ok80 E_law1_Book_growSlots.right (fn1_right ok81 E_law1_Book_growMsgs.right (fn1_right ok82 E_law1_Book_growFlights.right (fn1_right ok83 E_law1_Book_growFiles.right noFns_right)))))))))))) plan40 _ w K Tryz.func40 (by kernel_rfl) (by kernel_rfl) (Eq.mp (F_law1_Book_grow.eq F_law1_Book_growBytes F_law1_Book_growRows F_law1_Book_growTexts F_law1_Book_growInts F_law1_Book_growWords F_law1_Book_growDones F_law1_Book_growAccts F_law1_Book_growQueue F_law1_Book_growSlots F_law1_Book_growMsgs F_law1_Book_growFlights F_law1_Book_growFiles b1 w.heap K) hh)
theorem ok40 : okFn Tryz.prog 40 = true := by kernel_rfl
end Go.Proofs.YtigcpkejjjgkeaaGreat.V
namespace Go.Proofs.YtigcpkejjjgkeaaGreat.V
open Go Go.RowKit
set_option linter.unusedVariables false
set_option maxRecDepth 100000
def F_law1_Book_Look_of (f39_ : Option Addr → Heap → (Bool → Heap → Prop) → Prop) (f40_ : Option Addr → Heap → (Heap → Prop) → Prop) (b1 : Option Addr) (h : Heap) (Q : Bool → Heap → Prop) : Prop :=
  f39_ b1 h fun (r2 : Bool) (h3 : Heap) =>
  brr (!r2)
  (Q false h3)
  (nn b1 fun (a4 : Addr) =>
  ld [.int .i64] (a4.add 37) h3 fun (v5 : Int) =>
  nn b1 fun (a6 : Addr) =>
  ld [.int .i64] (a6.add 36) h3 fun (v7 : Int) =>
  brr (v5 == v7)
  (Q true h3)
  (f40_ b1 h3 fun  (h8 : Heap) =>
  f39_ b1 h8 fun (r9 : Bool) (h10 : Heap) =>
  Q r9 h10))
def F_law1_Book_Look (b1 : Option Addr) (h : Heap) (Q : Bool → Heap → Prop) : Prop := F_law1_Book_Look_of F_law1_Book_holds F_law1_Book_grow b1 h Q
def plan10 : Plan := .s (.r [0]) (.s (.s (.r [0, 5]) (.c (.s (.r [2]) .z) .z)) (.s (.s (.d [0, 1, 3, 7, 0, 16, 48, 112, 255] [[0, 1, 2, 3, 4, 5, 6, 7, 8]] [0, 14]) (.c (.s (.r [2]) .z) .z)) (.s (.r [0]) (.s (.r [2]) .z))))
theorem F_law1_Book_Look.eq (f39_ : Option Addr → Heap → (Bool → Heap → Prop) → Prop) (f40_ : Option Addr → Heap → (Heap → Prop) → Prop) (b1 : Option Addr) (h : Heap) (K : Value → Heap → Prop) : F_law1_Book_Look_of f39_ f40_ b1 h (fun (r0 : Bool) (h : Heap) => K (.bool r0) h) =
    den Tryz.prog (fn1 39 (E_law1_Book_holds_of f39_) (fn1 40 (E_law1_Book_grow_of f40_) noFns)) Tryz.f10.ntmps plan10 (bodyOf Tryz.f10) (args0 0 [(.pointer b1 : Value)]) h ⟨fun env h => dRes Tryz.prog Tryz.f10.results.toList env h K, fun _ _ _ => False, fun env h => dRes Tryz.prog Tryz.f10.results.toList env h K⟩ := by kernel_rfl
def E_law1_Book_Look_of (f : Option Addr → Heap → (Bool → Heap → Prop) → Prop) : List Value → Heap → (Value → Heap → Prop) → Prop
  | [v0], h, K => dec1 .ptr v0 fun (b1 : Option Addr) =>
  f b1 h (fun (r0 : Bool) (h : Heap) => K (.bool r0) h)
  | _, _, _ => False
abbrev E_law1_Book_Look := E_law1_Book_Look_of F_law1_Book_Look
theorem E_law1_Book_Look.right : IsRight Tryz.prog 10 E_law1_Book_Look := by
  refine isRight fun vs K w hh => ?_
  match vs, hh with
  | [v0], hh =>
    unfold E_law1_Book_Look E_law1_Book_Look_of at hh
    replace hh := dec1_sound hh; obtain ⟨b1, rfl, hh⟩ := hh
    unfold F_law1_Book_Look at hh
    exact calls_den (fn1_right ok39 E_law1_Book_holds.right (fn1_right ok40 E_law1_Book_grow.right noFns_right)) plan10 _ w K Tryz.func10 (by kernel_rfl) (by kernel_rfl) (Eq.mp (F_law1_Book_Look.eq F_law1_Book_holds F_law1_Book_grow b1 w.heap K) hh)
theorem ok10 : okFn Tryz.prog 10 = true := by kernel_rfl
end Go.Proofs.YtigcpkejjjgkeaaGreat.V
namespace Go.Proofs.YtigcpkejjjgkeaaGreat.V
open Go Go.RowKit
set_option linter.unusedVariables false
set_option maxRecDepth 100000
def F_law10_exact.l1 (f6_ : Int → Int → Int → Option Addr → Bool → Heap → (Option Addr → Heap → Prop) → Prop) (f7_ : Option Addr → Heap → (Bool → Heap → Prop) → Prop) (mark8 : Bool) (Q : Bool → Heap → Prop) (a9 a11 a13 : Addr) (j15 : Heap → Prop) : Int → Heap → Prop :=
  wl [(7, .one (.int .i64))] (fun (next16 : Int → Heap → Prop) (i17 : Int) (h18 : Heap) =>
  brr (decide (i17 < 8))
  ((2 : Int) ≠ 0 ∧
  ixA 1 (a9.add 0) 2 (i17.tmod 2) fun (a19 : Addr) =>
  ld [.int .i64] a19 h18 fun (v20 : Int) =>
  (2 : Int) ≠ 0 ∧
  ixA 1 (a9.add 2) 2 (i17.tmod 2) fun (a21 : Addr) =>
  ld [.int .i64] a21 h18 fun (v22 : Int) =>
  (2 : Int) ≠ 0 ∧
  ixA 1 (a9.add 4) 2 (i17.tmod 2) fun (a23 : Addr) =>
  ld [.int .i64] a23 h18 fun (v24 : Int) =>
  f6_ v20 v22 v24 (some a11) mark8 h18 fun (r25 : Option Addr) (h26 : Heap) =>
  ixA 1 a13 8 i17 fun (a27 : Addr) =>
  st a27 [.pointer r25] h26 fun (h28 : Heap) =>
  jn [(46, .one .bool)] (fun (x36 : Bool) (h37 : Heap) =>
  brr x36
  (Q false h37)
  (next16 (IntKind.i64.wrap (i17 + 1)) h37)) (fun (j29 : Bool → Heap → Prop) =>
  ixA 1 a13 8 i17 fun (a30 : Addr) =>
  ld [.ptr] a30 h28 fun (v31 : Option Addr) =>
  brr v31.isNone
  (j29 true h28)
  (ixA 1 a13 8 i17 fun (a32 : Addr) =>
  ld [.ptr] a32 h28 fun (v33 : Option Addr) =>
  f7_ v33 h28 fun (r34 : Bool) (h35 : Heap) =>
  j29 (!r34) h35)))
  (j15 h18))
def F_law10_exact.l2 (f8_ : Int → Int → Heap → (Int → Heap → Prop) → Prop) (f9_ : Option Addr → Int → Int → Int → Int → Int → Int → Sl → Int → Int → Int → Int → Int → Int → Int → Int → Int → Int → Int → Sl → Int → Int → ByteArray → ByteArray → Int → Int → Int → Int → Int → Int → Int → Int → Sl → Heap → (Bool → Heap → Prop) → Prop) (f10_ : Option Addr → Heap → (Bool → Heap → Prop) → Prop) (Q : Bool → Heap → Prop) (a9 a11 a13 : Addr) (j39 : Heap → Prop) : Int → Heap → Prop :=
  wl [(8, .one (.int .i64))] (fun (next40 : Int → Heap → Prop) (i41 : Int) (h42 : Heap) =>
  jn [(55, .one .bool)] (fun (x45 : Bool) (h46 : Heap) =>
  brr x45
  (jn [(78, .one .bool)] (fun (x93 : Bool) (h94 : Heap) =>
  brr x93
  (Q false h94)
  (next40 (IntKind.i64.wrap (i41 + 1)) h94)) (fun (j47 : Bool → Heap → Prop) =>
  ld [.sl] (a9.add 6) h46 fun (v48 : Sl) =>
  ixS 32 v48 i41 fun (a49 : Addr) =>
  ld [.int .i64] (a49.add 1) h46 fun (v50 : Int) =>
  ld [.sl] (a9.add 6) h46 fun (v51 : Sl) =>
  ixS 32 v51 i41 fun (a52 : Addr) =>
  ld [.int .i64, .int .i64, .int .u64, .int .u64, .int .u64, .int .u64, .sl, .int .i64, .int .i64, .int .i64, .int .i64, .int .i64, .int .u64, .int .u64, .int .u64, .int .u64, .int .i64, .int .u64, .sl, .int .i64, .int .u64, .str, .str, .int .u64, .int .u64, .int .u64, .int .i64, .int .i64, .int .i64, .int .i64, .int .i64, .sl] a52 h46 fun (v53 v54 v55 v56 v57 v58 : Int) (v59 : Sl) (v60 v61 v62 v63 v64 v65 v66 v67 v68 v69 v70 : Int) (v71 : Sl) (v72 v73 : Int) (v74 v75 : ByteArray) (v76 v77 v78 v79 v80 v81 v82 v83 : Int) (v84 : Sl) =>
  f8_ v50 8 h46 fun (r85 : Int) (h86 : Heap) =>
  cellsAre h86 (a9.add 6) [.slice v51.ptr v51.len v51.cap] ∧
  cellsAre h86 a52 [.int .i64 v53, .int .i64 v54, .int .u64 v55, .int .u64 v56, .int .u64 v57, .int .u64 v58, .slice v59.ptr v59.len v59.cap, .int .i64 v60, .int .i64 v61, .int .i64 v62, .int .i64 v63, .int .i64 v64, .int .u64 v65, .int .u64 v66, .int .u64 v67, .int .u64 v68, .int .i64 v69, .int .u64 v70, .slice v71.ptr v71.len v71.cap, .int .i64 v72, .int .u64 v73, .string v74, .string v75, .int .u64 v76, .int .u64 v77, .int .u64 v78, .int .i64 v79, .int .i64 v80, .int .i64 v81, .int .i64 v82, .int .i64 v83, .slice v84.ptr v84.len v84.cap] ∧
  ixA 1 a13 8 r85 fun (a87 : Addr) =>
  ld [.ptr] a87 h86 fun (v88 : Option Addr) =>
  f9_ v88 v53 v54 v55 v56 v57 v58 v59 v60 v61 v62 v63 v64 v65 v66 v67 v68 v69 v70 v71 v72 v73 v74 v75 v76 v77 v78 v79 v80 v81 v82 v83 v84 h86 fun (r89 : Bool) (h90 : Heap) =>
  brr (!r89)
  (j47 true h90)
  (f10_ (some a11) h90 fun (r91 : Bool) (h92 : Heap) =>
  j47 (!r91) h92)))
  (j39 h46)) (fun (j43 : Bool → Heap → Prop) =>
  ld [.sl] (a9.add 6) h42 fun (v44 : Sl) =>
  brr (decide (i41 < ((v44.len : Nat) : Int)))
  (j43 (decide (i41 < 600)) h42)
  (j43 false h42)))
def F_law10_exact.l3 (f7_ : Option Addr → Heap → (Bool → Heap → Prop) → Prop) (Q : Bool → Heap → Prop) (a13 : Addr) (j96 : Heap → Prop) : Int → Heap → Prop :=
  wl [(9, .one (.int .i64))] (fun (next97 : Int → Heap → Prop) (i98 : Int) (h99 : Heap) =>
  brr (decide (i98 < 8))
  (ixA 1 a13 8 i98 fun (a100 : Addr) =>
  ld [.ptr] a100 h99 fun (v101 : Option Addr) =>
  f7_ v101 h99 fun (r102 : Bool) (h103 : Heap) =>
  brr (!r102)
  (Q false h103)
  (next97 (IntKind.i64.wrap (i98 + 1)) h103))
  (j96 h99))
def F_law10_exact_of (f6_ : Int → Int → Int → Option Addr → Bool → Heap → (Option Addr → Heap → Prop) → Prop) (f7_ : Option Addr → Heap → (Bool → Heap → Prop) → Prop) (f8_ : Int → Int → Heap → (Int → Heap → Prop) → Prop) (f9_ : Option Addr → Int → Int → Int → Int → Int → Int → Sl → Int → Int → Int → Int → Int → Int → Int → Int → Int → Int → Int → Sl → Int → Int → ByteArray → ByteArray → Int → Int → Int → Int → Int → Int → Int → Int → Sl → Heap → (Bool → Heap → Prop) → Prop) (f10_ : Option Addr → Heap → (Bool → Heap → Prop) → Prop) (f11_ : Heap → (Bool → Heap → Prop) → Prop) (s1 s2 s3 s4 s5 s6 : Int) (s7 : Sl) (mark8 : Bool) (h : Heap) (Q : Bool → Heap → Prop) : Prop :=
  al 25 [.int .i64 s1, .int .i64 s2, .int .i64 s3, .int .i64 s4, .int .i64 s5, .int .i64 s6, .slice s7.ptr s7.len s7.cap] h fun (a9 : Addr) (h10 : Heap) =>
  al 43 [.slice none 0 0, .slice none 0 0, .int .i64 0, .slice none 0 0, .slice none 0 0, .int .i64 0, .slice none 0 0, .slice none 0 0, .int .i64 0, .slice none 0 0, .slice none 0 0, .int .i64 0, .slice none 0 0, .slice none 0 0, .int .i64 0, .slice none 0 0, .slice none 0 0, .int .i64 0, .slice none 0 0, .slice none 0 0, .int .i64 0, .slice none 0 0, .slice none 0 0, .int .i64 0, .slice none 0 0, .slice none 0 0, .int .i64 0, .slice none 0 0, .slice none 0 0, .int .i64 0, .slice none 0 0, .slice none 0 0, .int .i64 0, .slice none 0 0, .slice none 0 0, .int .i64 0, .int .i64 0, .int .i64 0, .int .i64 0] h10 fun (a11 : Addr) (h12 : Heap) =>
  al 45 [.pointer none, .pointer none, .pointer none, .pointer none, .pointer none, .pointer none, .pointer none, .pointer none] h12 fun (a13 : Addr) (h14 : Heap) =>
  jn [] (fun  (h38 : Heap) =>
  jn [] (fun  (h95 : Heap) =>
  jn [] (fun  (h104 : Heap) =>
  jn [(4, .one .bool)] (fun (x110 : Bool) (h111 : Heap) =>
  Q x110 h111) (fun (j105 : Bool → Heap → Prop) =>
  f11_ h104 fun (r106 : Bool) (h107 : Heap) =>
  brr r106
  (f10_ (some a11) h107 fun (r108 : Bool) (h109 : Heap) =>
  j105 r108 h109)
  (j105 false h107))) (fun (j96 : Heap → Prop) =>
  F_law10_exact.l3 f7_ Q a13 j96 0 h95)) (fun (j39 : Heap → Prop) =>
  F_law10_exact.l2 f8_ f9_ f10_ Q a9 a11 a13 j39 0 h38)) (fun (j15 : Heap → Prop) =>
  F_law10_exact.l1 f6_ f7_ mark8 Q a9 a11 a13 j15 0 h14)
def F_law10_exact (s1 s2 s3 s4 s5 s6 : Int) (s7 : Sl) (mark8 : Bool) (h : Heap) (Q : Bool → Heap → Prop) : Prop := F_law10_exact_of F_law10_begin F_law10_Play_looks F_law10_into F_law10_Play_plays F_law1_Book_Look F_law10_wakes s1 s2 s3 s4 s5 s6 s7 mark8 h Q
def plan5 : Plan := .s (.r [1, 2]) (.s (.r [1, 2, 5]) (.s (.r [1, 2, 5, 6]) (.s (.s (.r [1, 2, 5, 6, 7]) (.bj [] [2, 5, 6] (.l [(7, .one (.int .i64))] [1, 2, 5, 6] (.s (.s (.r [1, 2, 5, 6, 7, 13]) (.c .z .z)) (.s (.b (.s (.d [0, 0, 2, 0, 14, 30, 0, 64, 0, 448, 960, 0, 2048, 0, 14336, 30720, 0, 0, 262142, 524287, 1048575] [[0, 1, 2, 3, 4, 5, 6, 7, 8, 9, 10, 11, 12, 13, 14, 15, 16, 17, 18, 19, 20]] [1, 2, 5, 6, 7]) (.s (.rj [(46, .one .bool)] [1, 2, 5, 6, 7]) (.c (.s (.r [4]) .z) .z)))) (.r [1, 2, 5, 6, 7])))))) (.s (.s (.r [2, 5, 6, 8]) (.bj [] [5, 6] (.l [(8, .one (.int .i64))] [2, 5, 6] (.s (.s (.rj [(55, .one .bool)] [2, 5, 6, 8]) (.c .z .z)) (.s (.b (.s (.dj [0, 1, 0, 7, 15, 31, 63, 127, 255, 0, 512, 0, 3584, 7680, 16383, 32767, 65535, 131071, 262143, 524287, 1048575] [[0, 1, 2, 3, 4, 5, 9, 10, 11, 12, 13, 6, 7, 8, 14, 15, 16, 17, 18, 19, 20]] [(78, .one .bool)] [2, 5, 6, 8]) (.c (.s (.r [4]) .z) .z))) (.r [2, 5, 6, 8])))))) (.s (.s (.r [5, 6, 9]) (.bj [] [5] (.l [(9, .one (.int .i64))] [5, 6] (.s (.s (.r [5, 6, 9, 80]) (.c .z .z)) (.s (.b (.s (.r [5, 6, 9, 87]) (.c (.s (.r [4]) .z) .z))) (.r [5, 6, 9])))))) (.s (.rj [(4, .one .bool)] []) .z))))))
theorem F_law10_exact.eq (f6_ : Int → Int → Int → Option Addr → Bool → Heap → (Option Addr → Heap → Prop) → Prop) (f7_ : Option Addr → Heap → (Bool → Heap → Prop) → Prop) (f8_ : Int → Int → Heap → (Int → Heap → Prop) → Prop) (f9_ : Option Addr → Int → Int → Int → Int → Int → Int → Sl → Int → Int → Int → Int → Int → Int → Int → Int → Int → Int → Int → Sl → Int → Int → ByteArray → ByteArray → Int → Int → Int → Int → Int → Int → Int → Int → Sl → Heap → (Bool → Heap → Prop) → Prop) (f10_ : Option Addr → Heap → (Bool → Heap → Prop) → Prop) (f11_ : Heap → (Bool → Heap → Prop) → Prop) (s1 s2 s3 s4 s5 s6 : Int) (s7 : Sl) (mark8 : Bool) (h : Heap) (K : Value → Heap → Prop) : F_law10_exact_of f6_ f7_ f8_ f9_ f10_ f11_ s1 s2 s3 s4 s5 s6 s7 mark8 h (fun (r0 : Bool) (h : Heap) => K (.bool r0) h) =
    den Tryz.prog (fn1 6 (E_law10_begin_of f6_) (fn1 7 (E_law10_Play_looks_of f7_) (fn1 8 (E_law10_into_of f8_) (fn1 9 (E_law10_Play_plays_of f9_) (fn1 10 (E_law1_Book_Look_of f10_) (fn1 11 (E_law10_wakes_of f11_) noFns)))))) Tryz.f5.ntmps plan5 (bodyOf Tryz.f5) (args0 0 [(.agg #[.int .i64 s1, .int .i64 s2, .int .i64 s3, .int .i64 s4, .int .i64 s5, .int .i64 s6, .slice s7.ptr s7.len s7.cap] : Value), (.bool mark8 : Value)]) h ⟨fun env h => dRes Tryz.prog Tryz.f5.results.toList env h K, fun _ _ _ => False, fun env h => dRes Tryz.prog Tryz.f5.results.toList env h K⟩ := by kernel_rfl
def E_law10_exact_of (f : Int → Int → Int → Int → Int → Int → Sl → Bool → Heap → (Bool → Heap → Prop) → Prop) : List Value → Heap → (Value → Heap → Prop) → Prop
  | [v0, v1], h, K => vAgg v0 fun cs0 => decs [.int .i64, .int .i64, .int .i64, .int .i64, .int .i64, .int .i64, .sl] cs0.toList fun (s1 s2 s3 s4 s5 s6 : Int) (s7 : Sl) =>
  dec1 .bool v1 fun (mark8 : Bool) =>
  f s1 s2 s3 s4 s5 s6 s7 mark8 h (fun (r0 : Bool) (h : Heap) => K (.bool r0) h)
  | _, _, _ => False
abbrev E_law10_exact := E_law10_exact_of F_law10_exact
theorem E_law10_exact.right : IsRight Tryz.prog 5 E_law10_exact := by
  refine isRight fun vs K w hh => ?_
  match vs, hh with
  | [v0, v1], hh =>
    unfold E_law10_exact E_law10_exact_of at hh
    replace hh := vAgg_sound hh; obtain ⟨cs0, rfl, hh⟩ := hh
    replace hh := decs_cons hh; obtain ⟨s1, l0_0, e0_0, hh⟩ := hh
    replace hh := decs_cons hh; obtain ⟨s2, l0_1, e0_1, hh⟩ := hh
    replace hh := decs_cons hh; obtain ⟨s3, l0_2, e0_2, hh⟩ := hh
    replace hh := decs_cons hh; obtain ⟨s4, l0_3, e0_3, hh⟩ := hh
    replace hh := decs_cons hh; obtain ⟨s5, l0_4, e0_4, hh⟩ := hh
    replace hh := decs_cons hh; obtain ⟨s6, l0_5, e0_5, hh⟩ := hh
    replace hh := decs_cons hh; obtain ⟨s7, l0_6, e0_6, hh⟩ := hh
    replace hh := decs_nil hh; obtain ⟨rfl, hh⟩ := hh
    subst e0_6
    subst e0_5
    subst e0_4
    subst e0_3
    subst e0_2
    subst e0_1
    have ec0 := toArray_eq e0_0
    subst ec0
    replace hh := dec1_sound hh; obtain ⟨mark8, rfl, hh⟩ := hh
    unfold F_law10_exact at hh
    exact calls_den (fn1_right ok6 E_law10_begin.right (fn1_right ok7 E_law10_Play_looks.right (fn1_right ok8 E_law10_into.right (fn1_right ok9 E_law10_Play_plays.right (fn1_right ok10 E_law1_Book_Look.right (fn1_right ok11 E_law10_wakes.right noFns_right)))))) plan5 _ w K Tryz.func5 (by kernel_rfl) (by kernel_rfl) (Eq.mp (F_law10_exact.eq F_law10_begin F_law10_Play_looks F_law10_into F_law10_Play_plays F_law1_Book_Look F_law10_wakes s1 s2 s3 s4 s5 s6 s7 mark8 w.heap K) hh)
theorem ok5 : okFn Tryz.prog 5 = true := by kernel_rfl
end Go.Proofs.YtigcpkejjjgkeaaGreat.V
/- What a play hands in and takes back: lent bytes, a place, messages told. -/
namespace Go.Proofs.YtigcpkejjjgkeaaGreat.V
open Go Go.RowKit
set_option linter.unusedVariables false
set_option linter.unusedSimpArgs false

theorem eq_ints_len {xs : List Int} {s t : Sl} {h : Heap} (V1 : View h 1 (En i64c) s xs) (V2 : View h 1 (En i64c) t xs) : s.len = t.len := by rw [V1.len, V2.len]
def bufE (e : Sl × List UInt8) : Res := buf 1 u8 e.1 e.2
def plR2 (so si : Sl) : Res := ex fun y : List Sl × List (Sl × List UInt8) => pr (y.2.length ≤ 1) (sep (buf 1 slc so y.1) (sep (buf 1 slc si (y.2.map (·.1))) (many bufE y.2)))
def plH (so si s : Sl) (b : List UInt8) : Res := sep (buf 1 slc so [s]) (sep (buf 1 slc si [s]) (buf 1 u8 s b))
def gvR (so si s : Sl) (b : List UInt8) (tn : Int) : Res := if tn % 2 = 1 then sep (lent s b) (plR2 so si) else plH so si s b
theorem buf_cutN {α : Type} {h0 h : Heap} {L : List Res} {sz : Nat} {enc : α → List Value} {s : Sl} {zs : List α} (he : ∀ x, (enc x).length = sz) (O : Sat h0 h (buf sz enc s zs :: L)) : Sat h0 h (buf sz enc ⟨s.ptr, 0, s.cap⟩ ([] : List α) :: L) := by
  refine O.mono fun E h => ?_
  obtain ⟨sp, h⟩ := h
  rcases h with ⟨rfl, rfl, rfl, rfl⟩ | ⟨b, k, rfl, hs, rfl⟩
  · exact ⟨[], .inl ⟨rfl, rfl, rfl, rfl⟩⟩
  · refine ⟨zs.flatMap enc ++ sp, .inr ⟨b, zs.length + k, by simp, ?_, by simp⟩⟩
    rw [List.length_append, hs, flatMap_len he, Nat.add_mul]
theorem sl_buf {h0 h : Heap} {L : List Res} {b : Nat} {x : Sl} (O : Sat h0 h (own b [.slice x.ptr x.len x.cap] :: L)) : Sat h0 h (buf 1 slc ⟨some (pt b 0), 1, 1⟩ [x] :: L) := by
  have O : Sat h0 h (own b ([x].flatMap slc ++ []) :: L) := O
  exact (O.own_buf (k := 0) (sz := 1) rfl).bufsI
theorem View.slQ {h : Heap} {s : Sl} {xs : List Sl} {i : Int} {K : Sl → Prop} {x : Sl} (V : View h 1 (En slc) s xs) (h0 : 0 ≤ i) (hx : xs[i.toNat]? = some x) (kk : K x) : ixS 1 s i fun a => ld [.sl] a h K := V.get1 (k := .sl) h0 hx (fun x => x) (fun _ => rfl) kk
section
variable {h0 h : Heap} {L : List Res} {t p r bk : Nat} {nd sh tn : Int} {sc so si s v : Sl} {mark : Bool} {b : List UInt8} {q : QS}
theorem F_ref0_EqInts.is {s u : Sl} {xs : List Int} {Q : Bool → Heap → Prop} (V1 : View h 1 (En i64c) s xs) (V2 : View h 1 (En i64c) u xs) (hl : xs.length ≤ 1000000) (k : Q true h) : F_ref0_EqInts s u h Q := by
  rw [F_ref0_EqInts.eq_1, F_ref0_EqInts_of.eq_1]
  refine brr_ne (fun hne => absurd (by rw [V1.len, V2.len]) hne) (fun _ => ?_)
  refine jn0 (fun h' => h = h') (fun h' e => by subst e; exact k) fun j hj => ?_
  rw [F_ref0_EqInts.l1.eq_1]
  refine wl1 (k := .int .i64) (fun (m : Nat) (i : Int) (h' : Heap) => h = h' ∧ i + m = xs.length ∧ 0 ≤ i) ?_ (m := xs.length) ⟨rfl, by omega, by omega⟩
  rintro m (i : Int) h2 next hnx ⟨rfl, him, hi0⟩
  rw [V1.len]
  refine brr_p (fun hlt => ?_) (fun hlt => hj _ rfl)
  obtain ⟨x, hx⟩ : ∃ x, xs[i.toNat]? = some x := ⟨_, List.getElem?_eq_getElem (by omega)⟩
  refine V1.i6 hi0 hx ?_
  refine V2.i6 hi0 hx ?_
  refine brr_ff (by simp) ?_
  rw [wrap64 (by omega) (by omega)]
  exact hnx (m - 1) _ _ (by omega) ⟨rfl, by omega, by omega⟩
theorem F_law1_Place_Rows.is {a3 : Nat} {Q : Sl → Heap → Prop} (hb : b.length ≤ (140737488355325 : Nat)) (Vv : Stays h0 L fun h => Bytes h v b) (O : Sat h0 h (own t [.pointer (some (pt p 0)), .pointer (some (pt r 0)), .int .i64 nd, .int .i64 sh, .slice sc.ptr sc.len sc.cap, .pointer (some (pt bk 0)), .bool mark, .slice so.ptr so.len so.cap, .slice si.ptr si.len si.cap, .int .i64 tn] :: plR2 so si :: buf 1 slc ⟨some (pt a3 0), 1, 1⟩ [v] :: L))
    (k : ∀ so si s h', Sat h0 h' (own t [.pointer (some (pt p 0)), .pointer (some (pt r 0)), .int .i64 nd, .int .i64 sh, .slice sc.ptr sc.len sc.cap, .pointer (some (pt bk 0)), .bool mark, .slice so.ptr so.len so.cap, .slice si.ptr si.len si.cap, .int .i64 tn] :: plH so si s b :: L) → ∀ V : View h' 1 (En slc) so [s], Q so h') : F_law1_Place_Rows (some (pt t 7)) ⟨some (pt a3 0), 1, 1⟩ h Q := by
  rw [F_law1_Place_Rows.eq_1, F_law1_Place_Rows_of.eq_1]
  obtain ⟨⟨os, es⟩, O⟩ := O.swap.ex
  obtain ⟨hes, O⟩ := O.pr
  have O := O.sep
  have O : Sat h0 h (buf 1 slc so os :: sep (buf 1 slc si (es.map (·.1))) (many bufE es) :: own t [.pointer (some (pt p 0)), .pointer (some (pt r 0)), .int .i64 nd, .int .i64 sh, .slice sc.ptr sc.len sc.cap, .pointer (some (pt bk 0)), .bool mark, .slice so.ptr so.len so.cap, .slice si.ptr si.len si.cap, .int .i64 tn] :: buf 1 slc ⟨some (pt a3 0), 1, 1⟩ [v] :: L) := O
  have O := O.swap.sep
  have O : Sat h0 h (buf 1 slc si (es.map (·.1)) :: many bufE es :: buf 1 slc so os :: own t [.pointer (some (pt p 0)), .pointer (some (pt r 0)), .int .i64 nd, .int .i64 sh, .slice sc.ptr sc.len sc.cap, .pointer (some (pt bk 0)), .bool mark, .slice so.ptr so.len so.cap, .slice si.ptr si.len si.cap, .int .i64 tn] :: buf 1 slc ⟨some (pt a3 0), 1, 1⟩ [v] :: L) := O
  refine ⟨_, rfl, ?_⟩
  refine O.ld 3 rfl (ldL_c (k := .sl) (x := so) (ldL_n ?_))
  refine ⟨Int.le_refl _, by show (0 : Int) ≤ (so.cap : Int); omega, ?_⟩
  refine ⟨_, rfl, ?_⟩
  refine st_ad (b := t) (o := 7) rfl ?_
  refine O.st 3 rfl (by simp) rfl fun h O => ?_
  dsimp only [V.put, List.set] at O
  have O := buf_cutN slc_len (O.sel [2, 3, 0, 1, 4] 5 rfl (Nat.le_add_left _ _))
  obtain ⟨so5, hso5⟩ : ∃ s : Sl, s = ⟨so.ptr, 0, so.cap⟩ := ⟨_, rfl⟩
  have O : Sat h0 h (buf 1 slc so5 [] :: own t [.pointer (some (pt p 0)), .pointer (some (pt r 0)), .int .i64 nd, .int .i64 sh, .slice sc.ptr sc.len sc.cap, .pointer (some (pt bk 0)), .bool mark, .slice so5.ptr so5.len so5.cap, .slice si.ptr si.len si.cap, .int .i64 tn] :: buf 1 slc si (es.map (·.1)) :: many bufE es :: buf 1 slc ⟨some (pt a3 0), 1, 1⟩ [v] :: L) := by
    subst hso5; exact O
  clear hso5
  refine jn0 (fun h' => ∃ so si s, Sat h0 h' (own t [.pointer (some (pt p 0)), .pointer (some (pt r 0)), .int .i64 nd, .int .i64 sh, .slice sc.ptr sc.len sc.cap, .pointer (some (pt bk 0)), .bool mark, .slice so.ptr so.len so.cap, .slice si.ptr si.len si.cap, .int .i64 tn] :: plH so si s b :: L)) ?_ ?_
  · clear O
    rintro h ⟨so, si, s, O⟩
    refine ⟨_, rfl, ?_⟩
    refine O.ld 0 rfl (ldL_c (k := .sl) (x := so) (ldL_n ?_))
    have O2 := O.swap.sep
    exact k so si s _ O ((O2.view 0 slc_len (by simp) rfl).1)
  intro j hj
  rw [F_law1_Place_Rows.l1.eq_1]
  refine wl1 (k := .int .i64) (fun (m : Nat) (i : Int) (h' : Heap) => (m = 1 ∧ i = 0 ∧ Sat h0 h' (buf 1 slc so5 [] :: own t [.pointer (some (pt p 0)), .pointer (some (pt r 0)), .int .i64 nd, .int .i64 sh, .slice sc.ptr sc.len sc.cap, .pointer (some (pt bk 0)), .bool mark, .slice so5.ptr so5.len so5.cap, .slice si.ptr si.len si.cap, .int .i64 tn] :: buf 1 slc si (es.map (·.1)) :: many bufE es :: buf 1 slc ⟨some (pt a3 0), 1, 1⟩ [v] :: L)) ∨ (i = 1 ∧ ∃ so si s, Sat h0 h' (own t [.pointer (some (pt p 0)), .pointer (some (pt r 0)), .int .i64 nd, .int .i64 sh, .slice sc.ptr sc.len sc.cap, .pointer (some (pt bk 0)), .bool mark, .slice so.ptr so.len so.cap, .slice si.ptr si.len si.cap, .int .i64 tn] :: plH so si s b :: L))) ?_ (m := 1) (.inl ⟨rfl, rfl, O⟩)
  clear O
  rintro m (i : Int) h next hnx (⟨rfl, rfl, O⟩ | ⟨rfl, so, si, s, O⟩)
  case inr => exact brr_ff rfl (hj _ ⟨so, si, s, O⟩)
  refine brr_tt rfl ?_
  refine ⟨_, rfl, ?_⟩
  refine O.ld 1 rfl (ldL_c (k := .sl) (x := si) (ldL_n ?_))
  refine jn0 (fun h' => ∃ (si1 s0 : Sl) (zs : List UInt8), Sat h0 h' (buf 1 slc si1 [s0] :: buf 1 u8 s0 zs :: buf 1 slc so5 [] :: own t [.pointer (some (pt p 0)), .pointer (some (pt r 0)), .int .i64 nd, .int .i64 sh, .slice sc.ptr sc.len sc.cap, .pointer (some (pt bk 0)), .bool mark, .slice so5.ptr so5.len so5.cap, .slice si1.ptr si1.len si1.cap, .int .i64 tn] :: buf 1 slc ⟨some (pt a3 0), 1, 1⟩ [v] :: L)) ?_ ?_
  case refine_2 =>
    intro j2 hj2
    have hlen := (O.view 2 slc_len (by simp) rfl).1.len
    rw [hlen]
    cases es with
    | nil =>
      refine brr_tt rfl ?_
      refine ⟨_, rfl, ?_⟩
      refine O.ld 1 rfl (ldL_c (k := .sl) (x := si) (ldL_n ?_))
      have O : Sat h0 h (buf 1 slc si ([] : List Sl) :: buf 1 slc so5 [] :: own t [.pointer (some (pt p 0)), .pointer (some (pt r 0)), .int .i64 nd, .int .i64 sh, .slice sc.ptr sc.len sc.cap, .pointer (some (pt bk 0)), .bool mark, .slice so5.ptr so5.len so5.cap, .slice si.ptr si.len si.cap, .int .i64 tn] :: buf 1 slc ⟨some (pt a3 0), 1, 1⟩ [v] :: L) := O.sel [2, 0, 1, 4] 5 rfl (Nat.le_add_left _ _)
      refine Sat.push_buf (enc := slc) O (⟨none, 0, 0⟩ : Sl) rfl slc_len slc_one rfl (by simp) fun s2 h O _ => ?_
      refine ⟨_, rfl, ?_⟩
      refine st_ad (b := t) (o := 8) rfl ?_
      refine O.st 2 rfl (by simp) rfl fun h O => ?_
      dsimp only [V.put, List.set] at O
      have O := O.nil_buf (sz := 1) (enc := u8)
      exact hj2 _ ⟨s2, ⟨none, 0, 0⟩, [], O.sel [1, 0, 2, 3, 4] 5 rfl (Nat.le_add_left _ _)⟩
    | cons e es =>
      have he : es = [] := by
        cases es with
        | nil => rfl
        | cons _ _ => simp at hes
      subst he
      refine brr_ff (by simp) ?_
      have O3 : Sat h0 h (sep (bufE e) V.emp :: buf 1 slc si [e.1] :: buf 1 slc so5 [] :: own t [.pointer (some (pt p 0)), .pointer (some (pt r 0)), .int .i64 nd, .int .i64 sh, .slice sc.ptr sc.len sc.cap, .pointer (some (pt bk 0)), .bool mark, .slice so5.ptr so5.len so5.cap, .slice si.ptr si.len si.cap, .int .i64 tn] :: buf 1 slc ⟨some (pt a3 0), 1, 1⟩ [v] :: L) := O.sel [3, 2, 0, 1, 4] 5 rfl (Nat.le_add_left _ _)
      have O4 := O3.sep
      exact hj2 _ ⟨si, e.1, e.2, O4.sel [2, 0, 3, 4, 5] 6 rfl (Nat.le_add_left _ _)⟩
  clear O hes
  rintro h ⟨si1, s0, zs, O⟩
  refine ⟨_, rfl, ?_⟩
  refine O.ld 3 rfl (ldL_c (k := .sl) (x := si1) (ldL_n ?_))
  refine (O.view 0 slc_len (by simp) rfl).1.slQ (x := s0) (Int.le_refl _) rfl ?_
  refine ⟨Int.le_refl _, by show (0 : Int) ≤ (s0.cap : Int); omega, ?_⟩
  refine (O.view 4 slc_len (by simp) rfl).1.slQ (x := v) (Int.le_refl _) rfl ?_
  have V2 := Vv h (O.sel [] 5 rfl (Nat.le_add_left _ _))
  have O2 := buf_cutN u8_len O.swap
  refine Sat.app_buf O2 u8_len u8_one rfl (ys := b) V2.len (V2.rd u8_len) (by simp; omega) fun s31 h O _ => ?_
  rw [List.nil_append] at O
  refine ⟨_, rfl, ?_⟩
  refine O.ld 3 rfl (ldL_c (k := .sl) (x := si1) (ldL_n ?_))
  refine Sat.put1 O.swap slc_len slc_one (Int.le_refl _) (by simp) s31 rfl fun h O => ?_
  have O : Sat h0 h (buf 1 slc si1 [s31] :: buf 1 u8 s31 b :: buf 1 slc so5 [] :: own t [.pointer (some (pt p 0)), .pointer (some (pt r 0)), .int .i64 nd, .int .i64 sh, .slice sc.ptr sc.len sc.cap, .pointer (some (pt bk 0)), .bool mark, .slice so5.ptr so5.len so5.cap, .slice si1.ptr si1.len si1.cap, .int .i64 tn] :: buf 1 slc ⟨some (pt a3 0), 1, 1⟩ [v] :: L) := O
  refine ⟨_, rfl, ?_⟩
  refine O.ld 3 rfl (ldL_c (k := .sl) (x := so5) (ldL_n ?_))
  refine Sat.push_buf (enc := slc) (O.sel [2, 0, 1, 3] 5 rfl (Nat.le_add_left _ _)) s31 rfl slc_len slc_one rfl (by simp) fun s41 h O _ => ?_
  have O : Sat h0 h (buf 1 slc s41 [s31] :: buf 1 slc si1 [s31] :: buf 1 u8 s31 b :: own t [.pointer (some (pt p 0)), .pointer (some (pt r 0)), .int .i64 nd, .int .i64 sh, .slice sc.ptr sc.len sc.cap, .pointer (some (pt bk 0)), .bool mark, .slice so5.ptr so5.len so5.cap, .slice si1.ptr si1.len si1.cap, .int .i64 tn] :: L) := O
  refine ⟨_, rfl, ?_⟩
  refine st_ad (b := t) (o := 7) rfl ?_
  refine O.st 3 rfl (by simp) rfl fun h O => ?_
  dsimp only [V.put, List.set] at O
  refine hnx 0 _ _ (by omega) (.inr ⟨rfl, s41, si1, s31, ?_⟩)
  have O := (O.sel [1, 2, 0, 3] 4 rfl (Nat.le_add_left _ _)).sepI
  have O := O.swap.sepI
  exact O.swap
theorem F_law1_Place_Bytes.is {Q : Sl → Heap → Prop} (hb : b.length ≤ (140737488355325 : Nat)) (Vv : Stays h0 L fun h => Bytes h v b) (O : Sat h0 h (own t [.pointer (some (pt p 0)), .pointer (some (pt r 0)), .int .i64 nd, .int .i64 sh, .slice sc.ptr sc.len sc.cap, .pointer (some (pt bk 0)), .bool mark, .slice so.ptr so.len so.cap, .slice si.ptr si.len si.cap, .int .i64 tn] :: plR2 so si :: L))
    (k : ∀ so si s h', Sat h0 h' (own t [.pointer (some (pt p 0)), .pointer (some (pt r 0)), .int .i64 nd, .int .i64 sh, .slice sc.ptr sc.len sc.cap, .pointer (some (pt bk 0)), .bool mark, .slice so.ptr so.len so.cap, .slice si.ptr si.len si.cap, .int .i64 tn] :: plH so si s b :: L) → Q s h') : F_law1_Place_Bytes (some (pt t 7)) v h Q := by
  rw [F_law1_Place_Bytes.eq_1, F_law1_Place_Bytes_of.eq_1]
  refine O.al fun a3 h O => ?_
  have O := sl_buf O
  refine F_law1_Place_Rows.is hb Vv (O.sel [1, 2, 0] 3 rfl (Nat.le_add_left _ _)) fun so si s h O V => ?_
  exact V.slQ (x := s) (Int.le_refl _) rfl (k so si s _ O)
theorem F_law10_Play_given.is {Q : Sl → Heap → Prop} (ht0 : 0 ≤ tn) (ht : tn ≤ 1000000) (hb : b.length ≤ (140737488355325 : Nat)) (Vv : Stays h0 L fun h => Bytes h v b) (O : Sat h0 h (own t [.pointer (some (pt p 0)), .pointer (some (pt r 0)), .int .i64 nd, .int .i64 sh, .slice sc.ptr sc.len sc.cap, .pointer (some (pt bk 0)), .bool mark, .slice so.ptr so.len so.cap, .slice si.ptr si.len si.cap, .int .i64 tn] :: plR2 so si :: L))
    (k : ∀ so si s h', Sat h0 h' (own t [.pointer (some (pt p 0)), .pointer (some (pt r 0)), .int .i64 nd, .int .i64 sh, .slice sc.ptr sc.len sc.cap, .pointer (some (pt bk 0)), .bool mark, .slice so.ptr so.len so.cap, .slice si.ptr si.len si.cap, .int .i64 (tn + 1)] :: gvR so si s b (tn + 1) :: L) → Q s h') : F_law10_Play_given (some (pt t 0)) v h Q := by
  rw [F_law10_Play_given.eq_1, F_law10_Play_given_of.eq_1]
  refine ⟨_, rfl, ?_⟩
  refine O.ld 0 rfl (ldL_c (ldL_n ?_))
  refine ⟨_, rfl, ?_⟩
  refine st_ad (b := t) (o := 9) rfl ?_
  refine O.st 0 rfl (by simp) rfl fun h O => ?_
  dsimp only [V.put, List.set] at O
  rw [wrap64 (by omega) (by omega)] at O
  refine ⟨_, rfl, ?_⟩
  refine O.ld 0 rfl (ldL_c (ldL_n ?_))
  refine ⟨by decide, ?_⟩
  rw [Int.tmod_eq_emod_of_nonneg (by omega)]
  refine brr_eq (fun he => ?_) (fun he => ?_)
  · refine ⟨_, rfl, ?_⟩
    refine F_law1_Place_Bytes.is hb Vv O fun so si s h O => k so si s h ?_
    unfold gvR
    rw [if_neg (by omega)]
    exact O
  · refine F_law1_Lend.is O (Vv h O.drop.drop) (by omega) fun s h O hs => k so si s h ?_
    unfold gvR
    rw [if_pos (by omega)]
    have O := (O.sel [0, 2, 1] 3 rfl (Nat.le_add_left _ _)).sepI
    exact O.swap
theorem lent_len (O : Sat h0 h (lent s b :: L)) : s.len = b.length := (O.lent 0 (by simp) rfl).1.len
theorem gv_view (O : Sat h0 h (gvR so si s b tn :: L)) : Bytes h s b := by
  unfold gvR at O
  split at O
  · exact (O.sep.lent 0 (by simp) rfl).1
  · have O := O.sep
    have O := O.swap.sep
    exact (O.view 1 u8_len (by simp) rfl).1
theorem fill_buf {zs : List UInt8} {Q : Heap → Prop} {ii : Nat} (O : Sat h0 h (buf 1 u8 s zs :: L)) (hz : zs.length ≤ 4611686018427387904) (k : ∀ zs' h', Sat h0 h' (buf 1 u8 s zs' :: L) → Q h') :
    wl [(ii, .one (.int .i64))] (fun (next : Int → Heap → Prop) (i : Int) (h : Heap) => brr (decide (i < ((s.len : Nat) : Int))) (ixS 1 s i fun (a : Addr) => st a [.int .u8 238] h fun (h' : Heap) => next (IntKind.i64.wrap (i + 1)) h') (Q h)) 0 h := by
  refine wl1 (k := .int .i64) (fun (m : Nat) (i : Int) (h' : Heap) => 0 ≤ i ∧ i + m = zs.length ∧ ∃ ys : List UInt8, ys.length = zs.length ∧ Sat h0 h' (buf 1 u8 s ys :: L)) ?_ (m := zs.length) ⟨by omega, by omega, zs, rfl, O⟩
  clear O
  rintro m (i : Int) h next hn ⟨hi0, him, ys, hy, O⟩
  rw [(O.view 0 u8_len (by simp) rfl).1.len]
  refine brr_p (fun hlt => ?_) (fun hlt => k ys _ O)
  refine O.put1 u8_len u8_one hi0 (by omega) 238 rfl fun h O => ?_
  rw [wrap64 (by omega) (by omega)]
  exact hn (m - 1) _ _ (by omega) ⟨by omega, by omega, _, by simp [hy], O⟩
theorem F_law10_Play_kept.is {Q : Bool → Heap → Prop} (ht0 : 0 ≤ tn) (hb : b.length ≤ (140737488355325 : Nat)) (Vv : Stays h0 L fun h => Bytes h v b) (O : Sat h0 h (own t [.pointer (some (pt p 0)), .pointer (some (pt r 0)), .int .i64 nd, .int .i64 sh, .slice sc.ptr sc.len sc.cap, .pointer (some (pt bk 0)), .bool mark, .slice so.ptr so.len so.cap, .slice si.ptr si.len si.cap, .int .i64 tn] :: gvR so si s b tn :: L))
    (k : ∀ h', Sat h0 h' (own t [.pointer (some (pt p 0)), .pointer (some (pt r 0)), .int .i64 nd, .int .i64 sh, .slice sc.ptr sc.len sc.cap, .pointer (some (pt bk 0)), .bool mark, .slice so.ptr so.len so.cap, .slice si.ptr si.len si.cap, .int .i64 tn] :: plR2 so si :: L) → Q true h') : F_law10_Play_kept (some (pt t 0)) s v h Q := by
  rw [F_law10_Play_kept.eq_1, F_law10_Play_kept_of.eq_1]
  have V1 := gv_view O.swap
  have V2 := Vv h O.drop.drop
  refine F_ref0_Eq.is V1 V2 (by omega) (by omega) ?_
  refine ⟨_, rfl, ?_⟩
  refine O.ld 0 rfl (ldL_c (ldL_n ?_))
  refine ⟨by decide, ?_⟩
  rw [Int.tmod_eq_emod_of_nonneg ht0]
  refine jn1 (fun z h' => z = true ∧ h' = h) ?_ ?_
  case refine_2 =>
    intro j hj
    refine brr_eq (fun he => ?_) (fun he => hj _ _ ⟨by simp, rfl⟩)
    unfold gvR at O
    rw [if_pos he] at O
    refine F_law1_Intact.is O.swap.sep 0 (by simp) rfl V2 (by omega) ?_
    exact hj _ _ ⟨by simp, rfl⟩
  rintro z h' ⟨rfl, rfl⟩
  unfold gvR at O
  rw [F_law1_Over.eq_1, F_law1_Over_of.eq_1]
  refine jn_go ?_
  rw [F_law1_Over.l1.eq_1]
  by_cases he : tn % 2 = 1
  · rw [if_pos he] at O
    have O := O.swap.sep
    refine fill_lent O (lent_len O) (by omega) fun zs' h' _ O => k h' ?_
    exact O.sel [2, 1] 3 rfl (Nat.le_add_left _ _)
  · rw [if_neg he] at O
    have O := O.swap.sep
    have O := O.swap.sep
    have O : Sat h0 h' (buf 1 slc si [s] :: buf 1 u8 s b :: buf 1 slc so [s] :: own t [.pointer (some (pt p 0)), .pointer (some (pt r 0)), .int .i64 nd, .int .i64 sh, .slice sc.ptr sc.len sc.cap, .pointer (some (pt bk 0)), .bool mark, .slice so.ptr so.len so.cap, .slice si.ptr si.len si.cap, .int .i64 tn] :: L) := O
    refine fill_buf O.swap (by omega) fun zs' h' O => k h' ?_
    have O := (O.none (f := bufE))
    have O : Sat h0 h' (bufE (s, zs') :: many bufE [] :: buf 1 slc si [s] :: buf 1 slc so [s] :: own t [.pointer (some (pt p 0)), .pointer (some (pt r 0)), .int .i64 nd, .int .i64 sh, .slice sc.ptr sc.len sc.cap, .pointer (some (pt bk 0)), .bool mark, .slice so.ptr so.len so.cap, .slice si.ptr si.len si.cap, .int .i64 tn] :: L) := O.swap
    have O := O.more
    have O := (O.swap).sepI
    have O := (O.swap).sepI
    exact (Sat.exI ([s], [(s, zs')]) (Sat.prI (by simp) O)).swap
theorem play_message.is {c0 c1 : Value} {C : List Value} {cop : List Int} {o : QOp} {Q : Int → Int → Int → Int → Int → Int → Int → Int → Int → Int → Sl → Int → Int → ByteArray → ByteArray → Int → Int → Int → Int → Int → Int → Int → Heap → Prop} (hc0 : cop ≠ []) (hc : cop.length ≤ 1000000) (O : Sat h0 h (own t (c0 :: c1 :: .int .i64 nd :: .int .i64 sh :: .slice sc.ptr sc.len sc.cap :: C) :: buf 1 i64c sc cop :: L)) (k : ∀ (m2 : Mg) h', m2.v = o.m.v → m2.b = o.m.b → Sat h0 h' (own t (c0 :: c1 :: .int .i64 nd :: .int .i64 sh :: .slice sc.ptr sc.len sc.cap :: C) :: buf 1 i64c sc cop :: L) → Q m2.kind m2.frm m2.to m2.shard m2.epoch m2.te m2.ts m2.round m2.span m2.seen m2.v m2.peer m2.num m2.name m2.other m2.amount m2.life m2.id m2.op m2.client m2.state m2.bad h') : F_law10_Play_message (some (pt t 0)) o.kind o.which o.epoch o.o1 o.te o.ts o.ov o.span (o.m).kind (o.m).frm (o.m).to (o.m).shard (o.m).epoch (o.m).te (o.m).ts (o.m).round (o.m).span (o.m).seen (o.m).v (o.m).peer (o.m).num (o.m).name (o.m).other (o.m).amount (o.m).life (o.m).id (o.m).op (o.m).client (o.m).state (o.m).bad o.aim o.v h Q := by
  rw [F_law10_Play_message.eq_1, F_law10_Play_message_of.eq_1]
  have hpos : 0 < cop.length := List.length_pos_iff.2 hc0
  refine O.al fun a34 h O => ?_
  refine O.al fun a36 h O => ?_
  refine O.ld 1 rfl ?_
  repeat (first | (with_reducible refine ldL_n ?_) | refine ldL_s ?_ | refine ldL_c ?_)
  refine O.al fun a60 h O => ?_
  refine O.st 0 rfl (by simp) rfl fun h O => ?_
  dsimp only [V.put, List.set] at O
  refine O.ld 2 rfl (ldL_c (ldL_n ?_))
  have O : Sat h0 h (own a60 (mgC o.m) :: own a36 [.int .i64 0, .int .i64 0, .int .i64 0, .int .i64 0, .int .u64 0, .int .u64 0, .int .u64 0, .int .u64 0, .int .i64 0, .int .u64 0, .slice none 0 0, .int .i64 0, .int .u64 0, .string (⟨#[]⟩ : ByteArray), .string (⟨#[]⟩ : ByteArray), .int .u64 0, .int .u64 0, .int .u64 0, .int .i64 0, .int .i64 0, .int .i64 0, .int .i64 0] :: own a34 (qopC o) :: own t (c0 :: c1 :: .int .i64 nd :: .int .i64 sh :: .slice sc.ptr sc.len sc.cap :: C) :: buf 1 i64c sc cop :: L) := O
  refine jn0 (fun h' => ∃ m2 : Mg, m2.v = o.m.v ∧ m2.b = o.m.b ∧ Sat h0 h' (own a60 (mgC m2) :: own a36 [.int .i64 0, .int .i64 0, .int .i64 0, .int .i64 0, .int .u64 0, .int .u64 0, .int .u64 0, .int .u64 0, .int .i64 0, .int .u64 0, .slice none 0 0, .int .i64 0, .int .u64 0, .string (⟨#[]⟩ : ByteArray), .string (⟨#[]⟩ : ByteArray), .int .u64 0, .int .u64 0, .int .u64 0, .int .i64 0, .int .i64 0, .int .i64 0, .int .i64 0] :: own a34 (qopC o) :: own t (c0 :: c1 :: .int .i64 nd :: .int .i64 sh :: .slice sc.ptr sc.len sc.cap :: C) :: buf 1 i64c sc cop :: L)) ?_ ?_
  · clear O
    rintro h ⟨m2, e1, e2, O⟩
    refine O.ld 0 rfl ?_
    repeat (first | (with_reducible refine ldL_n ?_) | refine ldL_s ?_ | refine ldL_c ?_)
    refine O.st 1 rfl (by simp) rfl fun h O => ?_
    dsimp only [V.put, List.set] at O
    refine O.ld 1 rfl ?_
    repeat (first | (with_reducible refine ldL_n ?_) | refine ldL_s ?_ | refine ldL_c ?_)
    exact k m2 _ e1 e2 (O.sel [3, 4] 5 rfl (Nat.le_add_left _ _))
  · intro j hj
    refine brr_p (fun ha => ?_) (fun ha => hj _ ⟨o.m, rfl, rfl, O⟩)
    unfold mgC at O
    refine ⟨_, rfl, ?_⟩
    refine O.ld 3 rfl (ldL_c (ldL_n ?_))
    refine st_ad (b := a60) (o := 2) rfl ?_
    refine O.st 0 rfl (by simp) rfl fun h O => ?_
    dsimp only [V.put, List.set] at O
    refine ⟨_, rfl, ?_⟩
    refine O.ld 3 rfl (ldL_c (ldL_n ?_))
    refine st_ad (b := a60) (o := 3) rfl ?_
    refine O.st 0 rfl (by simp) rfl fun h O => ?_
    dsimp only [V.put, List.set] at O
    refine ⟨_, rfl, ?_⟩
    refine O.ld 3 rfl (ldL_c (k := .sl) (x := sc) (ldL_n ?_))
    refine O.ld 2 rfl (ldL_c (ldL_n ?_))
    refine ⟨_, rfl, ?_⟩
    refine O.ld 3 rfl (ldL_c (k := .sl) (x := sc) (ldL_n ?_))
    have W := (O.view 4 i64c_len (by simp) rfl).1
    rw [show ((sc.len : Nat) : Int) = ((cop.length : Nat) : Int) by rw [W.len]]
    refine F_law10_into.is (by omega) (by omega) ?_
    refine O.ca 3 1 rfl ?_
    have m0 := Int.emod_nonneg o.aim (show ((cop.length : Nat) : Int) ≠ 0 by omega)
    have m1 := Int.emod_lt_of_pos o.aim (show (0 : Int) < ((cop.length : Nat) : Int) by omega)
    obtain ⟨c, hcx⟩ : ∃ c, cop[(o.aim % ((cop.length : Nat) : Int)).toNat]? = some c := ⟨_, List.getElem?_eq_getElem (by omega)⟩
    refine W.i6 m0 hcx ?_
    refine st_ad (b := a60) (o := 1) rfl ?_
    refine O.st 0 rfl (by simp) rfl fun h O => ?_
    dsimp only [V.put, List.set] at O
    exact hj _ ⟨{ o.m with frm := c, to := nd, shard := sh }, rfl, rfl, O⟩
/-- What a book of handed out lists must do. -/
structure BkOk (H : Heap) (bk : Nat) (mark : Bool) (B : Nat → Res) : Prop where
  up : ∀ {h : Heap} {L : List Res} {T T' : Nat}, T ≤ T' → Sat H h (B T :: L) → Sat H h (B T' :: L)
  look : ∀ {h : Heap} {L : List Res} {T : Nat} {Q : Bool → Heap → Prop}, T ≤ 100000000 → Sat H h (B T :: L) → (∀ h', Sat H h' (B T :: L) → Q true h') → F_law1_Book_Look (some (pt bk 0)) h Q
  bytes : mark = true → ∀ {h : Heap} {L : List Res} {T : Nat} {s : Sl} {xs : List UInt8} {Q : Heap → Prop}, T ≤ 100000000 → xs.length ≤ (140737488355325 : Nat) → Sat H h (buf 1 u8 s xs :: B T :: L) → (∀ h', Sat H h' (B (T + 1) :: L) → Q h') → F_law1_Book_Bytes (some (pt bk 0)) s h Q
  msgs : mark = true → ∀ {h : Heap} {L : List Res} {T : Nat} {s : Sl} {ms : List Mg} {Q : Heap → Prop}, T ≤ 100000000 → ms.length ≤ 16 → (∀ m ∈ ms, m.b.length ≤ (140737488355325 : Nat)) → Sat H h (msgsR s ms :: B T :: L) → (∀ h', Sat H h' (B (T + 20) :: L) → Q h') → F_law1_Book_Msgs (some (pt bk 0)) s h Q
theorem F_law10_Play_told.is {B : Nat → Res} {T : Nat} {s u : Sl} {ms : List Mg} {Q : Bool → Heap → Prop} (K : BkOk h0 bk mark B) (hT : T ≤ 100000000) (hl : ms.length ≤ 16) (hm : ∀ m ∈ ms, m.b.length ≤ (140737488355325 : Nat)) (O : Sat h0 h (msgsR s ms :: msgsR u ms :: own t [.pointer (some (pt p 0)), .pointer (some (pt r 0)), .int .i64 nd, .int .i64 sh, .slice sc.ptr sc.len sc.cap, .pointer (some (pt bk 0)), .bool mark, .slice so.ptr so.len so.cap, .slice si.ptr si.len si.cap, .int .i64 tn] :: B T :: L)) (k : ∀ h', Sat h0 h' (own t [.pointer (some (pt p 0)), .pointer (some (pt r 0)), .int .i64 nd, .int .i64 sh, .slice sc.ptr sc.len sc.cap, .pointer (some (pt bk 0)), .bool mark, .slice so.ptr so.len so.cap, .slice si.ptr si.len si.cap, .int .i64 tn] :: B (T + 20) :: L) → Q true h') : F_law10_Play_told (some (pt t 0)) s u h Q := by
  rw [F_law10_Play_told.eq_1, F_law10_Play_told_of.eq_1]
  refine F_ref0_EqMsgs.is hm (by omega) O fun h O => ?_
  refine ⟨_, rfl, ?_⟩
  refine O.ld 2 rfl (ldL_c (ldL_n ?_))
  refine jn0 (fun h' => Sat h0 h' (own t [.pointer (some (pt p 0)), .pointer (some (pt r 0)), .int .i64 nd, .int .i64 sh, .slice sc.ptr sc.len sc.cap, .pointer (some (pt bk 0)), .bool mark, .slice so.ptr so.len so.cap, .slice si.ptr si.len si.cap, .int .i64 tn] :: B (T + 20) :: L)) (fun h O => k h O) fun j hj => ?_
  refine brr_of (fun hk => ?_) (fun hk => ?_)
  · refine ⟨_, rfl, ?_⟩
    refine O.ld 2 rfl (ldL_c (ldL_n ?_))
    refine K.msgs hk hT hl hm (O.sel [0, 3, 2] 4 rfl (Nat.le_add_left _ _)) fun h O => hj _ O.swap
  · exact hj _ (K.up (by omega) (O.sel [3, 2] 4 rfl (Nat.le_add_left _ _))).swap
end
end Go.Proofs.YtigcpkejjjgkeaaGreat.V
/- One play: it begins, it is looked at, a step is played. -/
namespace Go.Proofs.YtigcpkejjjgkeaaGreat.V
open Go Go.RowKit
set_option linter.unusedVariables false
set_option linter.unusedSimpArgs false

structure PX where
  t : Nat
  q : QS
  tn : Int
structure PY where
  p : Nat
  r : Nat
  sc : Sl
  so : Sl
  si : Sl
def playR (bk : Nat) (mark : Bool) (x : PX) : Res := ex fun y : PY => star [own x.t [.pointer (some (pt y.p 0)), .pointer (some (pt y.r 0)), .int .i64 x.q.node, .int .i64 x.q.shard, .slice y.sc.ptr y.sc.len y.sc.cap, .pointer (some (pt bk 0)), .bool mark, .slice y.so.ptr y.so.len y.so.cap, .slice y.si.ptr y.si.len y.si.cap, .int .i64 x.tn], quR y.p x.q, rfR y.r x.q, buf 1 i64c y.sc x.q.cop, plR2 y.so y.si]
structure PX.Ok (x : PX) (n : Int) : Prop where
  iv : x.q.Inv
  c : x.q.cop.length ≤ 7
  c0 : x.q.cop ≠ []
  t0 : 0 ≤ x.tn
  t1 : x.tn ≤ n
theorem PX.Ok.more {x : PX} {n m : Int} (o : x.Ok n) (h : n ≤ m) : x.Ok m := ⟨o.iv, o.c, o.c0, o.t0, Int.le_trans o.t1 h⟩
section
variable {h0 h : Heap} {L : List Res} {bk : Nat} {mark : Bool} {x : PX} {B : Nat → Res} {T : Nat}
theorem Sat.play (O : Sat h0 h (playR bk mark x :: L)) : ∃ y : PY, Sat h0 h (own x.t [.pointer (some (pt y.p 0)), .pointer (some (pt y.r 0)), .int .i64 x.q.node, .int .i64 x.q.shard, .slice y.sc.ptr y.sc.len y.sc.cap, .pointer (some (pt bk 0)), .bool mark, .slice y.so.ptr y.so.len y.so.cap, .slice y.si.ptr y.si.len y.si.cap, .int .i64 x.tn] :: quR y.p x.q :: rfR y.r x.q :: buf 1 i64c y.sc x.q.cop :: plR2 y.so y.si :: L) := by
  obtain ⟨y, O⟩ := O.ex
  exact ⟨y, O.starE⟩
theorem Sat.playI (x : PX) (y : PY) (O : Sat h0 h (own x.t [.pointer (some (pt y.p 0)), .pointer (some (pt y.r 0)), .int .i64 x.q.node, .int .i64 x.q.shard, .slice y.sc.ptr y.sc.len y.sc.cap, .pointer (some (pt bk 0)), .bool mark, .slice y.so.ptr y.so.len y.so.cap, .slice y.si.ptr y.si.len y.si.cap, .int .i64 x.tn] :: quR y.p x.q :: rfR y.r x.q :: buf 1 i64c y.sc x.q.cop :: plR2 y.so y.si :: L)) : Sat h0 h (playR bk mark x :: L) :=
  Sat.exI y (Sat.starI (Rs := [own x.t [.pointer (some (pt y.p 0)), .pointer (some (pt y.r 0)), .int .i64 x.q.node, .int .i64 x.q.shard, .slice y.sc.ptr y.sc.len y.sc.cap, .pointer (some (pt bk 0)), .bool mark, .slice y.so.ptr y.so.len y.so.cap, .slice y.si.ptr y.si.len y.si.cap, .int .i64 x.tn], quR y.p x.q, rfR y.r x.q, buf 1 i64c y.sc x.q.cop, plR2 y.so y.si]) O)
theorem F_law10_begin.is {place shard many : Int} {Q : Option Addr → Heap → Prop} (O : Sat h0 h L) (k : ∀ (x : PX) h', x.Ok 0 → Sat h0 h' (playR bk mark x :: L) → Q (some (pt x.t 0)) h') : F_law10_begin place shard many (some (pt bk 0)) mark h Q := by
  rw [F_law10_begin.eq_1, F_law10_begin_of.eq_1]
  refine F_law10_copiesOf.is O fun sc h n hn O => ?_
  have W := (O.view 0 i64c_len (by simp) rfl).1
  have cl := copyN_len n
  have hsl : sc.len = n := by rw [W.len, cl]
  rw [hsl]
  refine F_law10_into.is (by omega) (by omega) ?_
  have m0 := Int.emod_nonneg place (show (n : Int) ≠ 0 by omega)
  have m1 := Int.emod_lt_of_pos place (show (0 : Int) < (n : Int) by omega)
  obtain ⟨nd, hnd⟩ : ∃ c, (copyN n)[(place % (n : Int)).toNat]? = some c := ⟨_, List.getElem?_eq_getElem (by omega)⟩
  refine W.i6 m0 hnd ?_
  refine O.al fun a12 h O => ?_
  have O : Sat h0 h (own a12 (([] : List Int).flatMap i64c ++ []) :: buf 1 i64c sc (copyN n) :: L) := O
  have O := O.own_buf (k := 0) (sz := 1) (by simp)
  have O : Sat h0 h (buf 1 i64c ⟨some (pt a12 0), 0, 0⟩ [] :: buf 1 i64c sc (copyN n) :: L) := O.bufsI
  have W2 := (O.view 1 i64c_len (by simp) rfl).1
  refine O.app_buf i64c_len i64c_one rfl (ys := copyN n) (by rw [cl]) (by have := W2.rd i64c_len; rw [hsl] at this; exact this) (by simp; omega) fun s14 h O _ => ?_
  rw [List.nil_append] at O
  refine Sat.push_buf (enc := i64c) O (-7 : Int) rfl i64c_len i64c_one rfl (by omega) fun s18 h O hs18 => ?_
  have W3 := (O.view 0 i64c_len (by simp) rfl)
  have hs : s18.len = n + 1 := by rw [hs18, cl]
  refine ⟨by omega, by have := W3.2; omega, ?_⟩
  have tk : ∀ {h : Heap} {L : List Res}, Sat h0 h (buf 1 i64c s18 (copyN n ++ [-7]) :: L) → View h 1 (En i64c) ⟨s18.ptr, (n : Int).toNat, s18.cap⟩ (copyN n) := by
    intro h L O
    have := (O.view 0 i64c_len (by simp) rfl).1.take n s18.cap (by simp [cl])
    have e : (copyN n ++ [(-7 : Int)]).take n = copyN n := by rw [List.take_append_of_le_length (by omega), List.take_of_length_le (by omega)]
    rw [e] at this
    rw [Int.toNat_natCast]
    exact this
  refine F_quorum_New.is (cop := copyN n) (fun h O => tk O) (by omega) O fun p h O => ?_
  refine F_ref10_New.is (cop := copyN n) (fun h O => (O.view 2 i64c_len (by simp) rfl).1) (by omega) O fun r h O => ?_
  refine O.al fun t h O => ?_
  have O : Sat h0 h (buf 1 i64c s18 (copyN n ++ [-7]) :: own t [.pointer (some (pt p 0)), .pointer (some (pt r 0)), .int .i64 nd, .int .i64 shard, .slice sc.ptr n sc.cap, .pointer (some (pt bk 0)), .bool mark, .slice none 0 0, .slice none 0 0, .int .i64 0] :: quR p (QS.fresh nd shard (copyN n)) :: rfR r (QS.fresh nd shard (copyN n)) :: buf 1 i64c sc (copyN n) :: L) := O.sel [3, 0, 2, 1, 4] 5 rfl (Nat.le_add_left _ _)
  refine jn1 (fun z h' => z = false ∧ h' = h) ?_ ?_
  case refine_2 =>
    intro j hj
    refine ⟨_, rfl, ?_⟩
    refine O.ld 1 rfl (ldL_c (ldL_n ?_))
    refine brr_ff rfl ?_
    have W4 := (O.view 0 i64c_len (by simp) rfl).1
    refine W4.i6 (x := -7) (by omega) (by rw [Int.toNat_natCast, List.getElem?_append_right (by omega), cl]; simp) ?_
    refine brr_ff rfl ?_
    refine ⟨by omega, by have := (O.view 0 i64c_len (by simp) rfl).2; omega, ?_⟩
    refine F_ref0_EqInts.is (tk O) (O.view 4 i64c_len (by simp) rfl).1 (by omega) ?_
    exact hj _ _ ⟨rfl, rfl⟩
  rintro z h' ⟨rfl, rfl⟩
  refine brr_ff rfl ?_
  refine jn0 (fun h' => Sat h0 h' (own t [.pointer (some (pt p 0)), .pointer (some (pt r 0)), .int .i64 nd, .int .i64 shard, .slice sc.ptr n sc.cap, .pointer (some (pt bk 0)), .bool mark, .slice none 0 0, .slice none 0 0, .int .i64 0] :: quR p (QS.fresh nd shard (copyN n)) :: rfR r (QS.fresh nd shard (copyN n)) :: buf 1 i64c sc (copyN n) :: L)) ?_ ?_
  · clear O
    intro h O
    have Op : Sat h0 h (plR2 ⟨none, 0, 0⟩ ⟨none, 0, 0⟩ :: _) := Sat.exI ([], []) (Sat.prI (by simp) (((O.none (f := bufE)).nil_buf (sz := 1) (enc := slc)).sepI.nil_buf (sz := 1) (enc := slc)).sepI)
    refine k ⟨t, QS.fresh nd shard (copyN n), 0⟩ h ⟨inv_fresh (by omega), by show (copyN n).length ≤ 7; omega, fun e => by have := congrArg List.length (show copyN n = [] from e); rw [cl] at this; simp at this; omega, Int.le_refl _, Int.le_refl _⟩ ?_
    refine Sat.playI ⟨t, QS.fresh nd shard (copyN n), 0⟩ ⟨p, r, sc, ⟨none, 0, 0⟩, ⟨none, 0, 0⟩⟩ ?_
    have O2 : Sat h0 h (own t [.pointer (some (pt p 0)), .pointer (some (pt r 0)), .int .i64 nd, .int .i64 shard, .slice sc.ptr sc.len sc.cap, .pointer (some (pt bk 0)), .bool mark, .slice none 0 0, .slice none 0 0, .int .i64 0] :: quR p (QS.fresh nd shard (copyN n)) :: rfR r (QS.fresh nd shard (copyN n)) :: buf 1 i64c sc (copyN n) :: plR2 ⟨none, 0, 0⟩ ⟨none, 0, 0⟩ :: L) := by rw [hsl]; exact Op.sel [1, 2, 3, 4, 0] 5 rfl (Nat.le_add_left _ _)
    exact O2
  intro j hj
  rw [F_law10_begin.l1.eq_1]
  refine wl1 (k := .int .i64) (fun (m : Nat) (i : Int) (h' : Heap) => i + m = n + 1 ∧ 0 ≤ i ∧ ∃ zs : List Int, zs.length = n + 1 ∧ Sat h0 h' (buf 1 i64c s18 zs :: own t [.pointer (some (pt p 0)), .pointer (some (pt r 0)), .int .i64 nd, .int .i64 shard, .slice sc.ptr n sc.cap, .pointer (some (pt bk 0)), .bool mark, .slice none 0 0, .slice none 0 0, .int .i64 0] :: quR p (QS.fresh nd shard (copyN n)) :: rfR r (QS.fresh nd shard (copyN n)) :: buf 1 i64c sc (copyN n) :: L)) ?_ (m := n + 1) ⟨by omega, by omega, _, by simp [cl], O⟩
  clear O
  rintro m (i : Int) h next hnx ⟨him, hi0, zs, hz, O⟩
  rw [hs]
  refine brr_p (fun hlt => ?_) (fun hlt => hj _ O.drop)
  refine O.put1 i64c_len i64c_one hi0 (by omega) (-9 : Int) rfl fun h O => ?_
  rw [wrap64 (by omega) (by omega)]
  exact hnx (m - 1) _ _ (by omega) ⟨by omega, by omega, _, by simp [hz], O⟩
theorem F_law10_Play_looks.is {Q : Bool → Heap → Prop} (K : BkOk h0 bk mark B) (hT : T ≤ 10000000) (iv : x.q.Inv) (O : Sat h0 h (playR bk mark x :: B T :: L)) (k : ∀ h', Sat h0 h' (playR bk mark x :: B (T + 2) :: L) → Q true h') : F_law10_Play_looks (some (pt x.t 0)) h Q := by
  rw [F_law10_Play_looks.eq_1, F_law10_Play_looks_of.eq_1]
  obtain ⟨y, O⟩ := O.play
  have hw := iv.ok.w
  refine ⟨_, rfl, ?_⟩
  refine O.ld 0 rfl (ldL_c (ldL_n ?_))
  refine F_quorum_Quorum_Chosen.is iv.ok (O.sel [1, 0, 2, 3, 4, 5] 6 rfl (Nat.le_add_left _ _)) fun s1 h O => ?_
  refine O.al fun a8 h O => ?_
  refine O.st 0 rfl (by simp) rfl fun h O => ?_
  dsimp only [V.put, List.set] at O
  refine ⟨_, rfl, ?_⟩
  refine O.ld 3 rfl (ldL_c (ldL_n ?_))
  refine F_quorum_Quorum_Chosen.is iv.ok (O.sel [2, 0, 1, 3, 4, 5, 6, 7] 8 rfl (Nat.le_add_left _ _)) fun s2 h O => ?_
  refine O.al fun a17 h O => ?_
  refine O.st 0 rfl (by simp) rfl fun h O => ?_
  dsimp only [V.put, List.set] at O
  have O : Sat h0 h (quR y.p x.q :: own a17 [.int .u64 x.q.chosen.1, .int .u64 x.q.chosen.2] :: buf 1 u8 s2 x.q.what :: own a8 [.int .u64 x.q.chosen.1, .int .u64 x.q.chosen.2] :: buf 1 u8 s1 x.q.what :: own x.t [.pointer (some (pt y.p 0)), .pointer (some (pt y.r 0)), .int .i64 x.q.node, .int .i64 x.q.shard, .slice y.sc.ptr y.sc.len y.sc.cap, .pointer (some (pt bk 0)), .bool mark, .slice y.so.ptr y.so.len y.so.cap, .slice y.si.ptr y.si.len y.si.cap, .int .i64 x.tn] :: rfR y.r x.q :: buf 1 i64c y.sc x.q.cop :: plR2 y.so y.si :: B T :: L) := O.sel [2, 0, 1, 3, 4, 5, 6, 7, 8, 9] 10 rfl (Nat.le_add_left _ _)
  refine ⟨_, rfl, ?_⟩
  refine O.ld 5 rfl (ldL_c (ldL_n ?_))
  refine F_quorum_Quorum_Round.is O ?_
  have REF : ∀ {h : Heap} {L : List Res}, Sat h0 h (rfR y.r x.q :: L) → ∃ a : RA, Sat h0 h (own y.r [.int .i64 x.q.node, .int .i64 x.q.shard, .slice a.sc.ptr a.sc.len a.sc.cap, .int .i64 x.q.phase, .int .u64 x.q.epoch, .slice a.sp.ptr a.sp.len a.sp.cap, .int .u64 x.q.tag.1, .int .u64 x.q.tag.2, .slice a.sv.ptr a.sv.len a.sv.cap, .slice a.sw.ptr a.sw.len a.sw.cap, .slice a.sr.ptr a.sr.len a.sr.cap, .bool a.any, .int .u64 x.q.chosen.1, .int .u64 x.q.chosen.2, .slice a.sh.ptr a.sh.len a.sh.cap, .int .u64 x.q.begun, .int .u64 x.q.done, .slice a.sb.ptr a.sb.len a.sb.cap, .int .u64 x.q.seen] :: L) ∧ Sat h0 h (own y.r [.int .i64 x.q.node, .int .i64 x.q.shard, .slice a.sc.ptr a.sc.len a.sc.cap, .int .i64 x.q.phase, .int .u64 x.q.epoch, .slice a.sp.ptr a.sp.len a.sp.cap, .int .u64 x.q.tag.1, .int .u64 x.q.tag.2, .slice a.sv.ptr a.sv.len a.sv.cap, .slice a.sw.ptr a.sw.len a.sw.cap, .slice a.sr.ptr a.sr.len a.sr.cap, .bool a.any, .int .u64 x.q.chosen.1, .int .u64 x.q.chosen.2, .slice a.sh.ptr a.sh.len a.sh.cap, .int .u64 x.q.begun, .int .u64 x.q.done, .slice a.sb.ptr a.sb.len a.sb.cap, .int .u64 x.q.seen] :: poolR (refP x.q a) :: L) := by
    intro h L O
    obtain ⟨a, ep, O⟩ := O.rf
    exact ⟨a, O.sel [0] 7 rfl (Nat.le_add_left _ _), O.sel [0, 6] 7 rfl (Nat.le_add_left _ _)⟩
  obtain ⟨a, O1, O2⟩ := REF (O.sel [6, 0, 1, 2, 3, 4, 5] 7 rfl (Nat.le_add_left _ _))
  have O1 : Sat h0 h (own y.r [.int .i64 x.q.node, .int .i64 x.q.shard, .slice a.sc.ptr a.sc.len a.sc.cap, .int .i64 x.q.phase, .int .u64 x.q.epoch, .slice a.sp.ptr a.sp.len a.sp.cap, .int .u64 x.q.tag.1, .int .u64 x.q.tag.2, .slice a.sv.ptr a.sv.len a.sv.cap, .slice a.sw.ptr a.sw.len a.sw.cap, .slice a.sr.ptr a.sr.len a.sr.cap, .bool a.any, .int .u64 x.q.chosen.1, .int .u64 x.q.chosen.2, .slice a.sh.ptr a.sh.len a.sh.cap, .int .u64 x.q.begun, .int .u64 x.q.done, .slice a.sb.ptr a.sb.len a.sb.cap, .int .u64 x.q.seen] :: quR y.p x.q :: own a17 [.int .u64 x.q.chosen.1, .int .u64 x.q.chosen.2] :: buf 1 u8 s2 x.q.what :: own a8 [.int .u64 x.q.chosen.1, .int .u64 x.q.chosen.2] :: buf 1 u8 s1 x.q.what :: own x.t [.pointer (some (pt y.p 0)), .pointer (some (pt y.r 0)), .int .i64 x.q.node, .int .i64 x.q.shard, .slice y.sc.ptr y.sc.len y.sc.cap, .pointer (some (pt bk 0)), .bool mark, .slice y.so.ptr y.so.len y.so.cap, .slice y.si.ptr y.si.len y.si.cap, .int .i64 x.tn] :: _) := O1
  have Oq : Sat h0 h (quR y.p x.q :: _) := O1.sel [1, 0, 2, 3, 4, 5, 6] 7 rfl (Nat.le_add_left _ _)
  have Vr := pool_view O2 1 (by simp) rfl (e := (a.sh, x.q.what)) (by simp [refP])
  have V1 := (O1.view 5 u8_len (by simp) rfl).1
  have V2 := (O1.view 3 u8_len (by simp) rfl).1
  refine jn1 (fun z h' => z = true ∧ h' = h) ?_ ?_
  case refine_2 =>
    intro j hj
    refine ⟨_, rfl, ?_⟩
    refine O1.ld 6 rfl (ldL_c (ldL_n ?_))
    refine ⟨_, rfl, ?_⟩
    refine O1.ld 6 rfl (ldL_c (ldL_n ?_))
    refine ⟨_, rfl, ?_⟩
    refine O1.ld 0 rfl (ldL_c (ldL_n ?_))
    refine F_quorum_Quorum_Phase.is Oq ?_
    refine O1.ca 6 1 rfl ?_
    refine O1.ca 0 1 rfl ?_
    refine brr_tt (by simp) ?_
    refine ⟨_, rfl, ?_⟩
    refine O1.ld 6 rfl (ldL_c (ldL_n ?_))
    refine ⟨_, rfl, ?_⟩
    refine O1.ld 6 rfl (ldL_c (ldL_n ?_))
    refine ⟨_, rfl, ?_⟩
    refine O1.ld 0 rfl (ldL_c (ldL_n ?_))
    refine F_quorum_Quorum_Epoch.is Oq ?_
    refine O1.ca 6 1 rfl ?_
    refine O1.ca 0 1 rfl ?_
    refine brr_tt (by simp) ?_
    refine ⟨_, rfl, ?_⟩
    refine O1.ld 6 rfl (ldL_c (ldL_n ?_))
    refine ⟨_, rfl, ?_⟩
    refine O1.ld 6 rfl (ldL_c (ldL_n ?_))
    refine ⟨_, rfl, ?_⟩
    refine O1.ld 0 rfl (ldL_c (ldL_n ?_))
    refine F_quorum_Quorum_Seen.is Oq ?_
    refine O1.ca 6 1 rfl ?_
    refine O1.ca 0 1 rfl ?_
    refine brr_tt (by simp) ?_
    refine ⟨_, rfl, ?_⟩
    refine O1.ld 6 rfl (ldL_c (ldL_n ?_))
    refine ⟨_, rfl, ?_⟩
    refine O1.ld 6 rfl (ldL_c (ldL_n ?_))
    refine F_quorum_Quorum_Holds.is Oq ?_
    refine O1.ca 6 1 rfl ?_
    refine F_ref10_Quorum_Holds.is (q := x.q) (a := a) O1 ?_
    refine brr_tt (by simp) ?_
    refine O1.ld 4 rfl (ldL_c (ldL_c (ldL_n ?_)))
    refine ⟨_, rfl, ?_⟩
    refine O1.ld 6 rfl (ldL_c (ldL_n ?_))
    refine ⟨_, rfl, ?_⟩
    refine O1.ld 0 rfl (ldL_c (ldL_c (ldL_n ?_)))
    refine brr_tt (by simp) ?_
    refine ⟨_, rfl, ?_⟩
    refine O1.ld 6 rfl (ldL_c (ldL_n ?_))
    refine ⟨_, rfl, ?_⟩
    refine O1.ld 0 rfl (ldL_c (k := .sl) (x := a.sh) (ldL_n ?_))
    refine F_ref0_Eq.is (ys := x.q.what) V1 Vr (by omega) (by omega) ?_
    refine brr_tt (by simp) ?_
    refine ⟨_, rfl, ?_⟩
    refine O1.ld 6 rfl (ldL_c (ldL_n ?_))
    refine ⟨_, rfl, ?_⟩
    refine O1.ld 0 rfl (ldL_c (ldL_n ?_))
    refine brr_tt (by simp) ?_
    refine ⟨_, rfl, ?_⟩
    refine O1.ld 6 rfl (ldL_c (ldL_n ?_))
    refine ⟨_, rfl, ?_⟩
    refine O1.ld 0 rfl (ldL_c (ldL_n ?_))
    exact hj _ _ ⟨by simp, rfl⟩
  clear REF O1 O2 Oq Vr V1 V2
  rintro z h' ⟨rfl, rfl⟩
  refine ⟨_, rfl, ?_⟩
  refine O.ld 5 rfl (ldL_c (ldL_n ?_))
  refine jn0 (fun h' => Sat h0 h' (quR y.p x.q :: own a17 [.int .u64 x.q.chosen.1, .int .u64 x.q.chosen.2] :: buf 1 u8 s2 x.q.what :: own a8 [.int .u64 x.q.chosen.1, .int .u64 x.q.chosen.2] :: own x.t [.pointer (some (pt y.p 0)), .pointer (some (pt y.r 0)), .int .i64 x.q.node, .int .i64 x.q.shard, .slice y.sc.ptr y.sc.len y.sc.cap, .pointer (some (pt bk 0)), .bool mark, .slice y.so.ptr y.so.len y.so.cap, .slice y.si.ptr y.si.len y.si.cap, .int .i64 x.tn] :: rfR y.r x.q :: buf 1 i64c y.sc x.q.cop :: plR2 y.so y.si :: B (T + 1) :: L)) ?_ ?_
  case refine_2 =>
    intro j hj
    refine brr_of (fun hm => ?_) (fun hm => ?_)
    · refine ⟨_, rfl, ?_⟩
      refine O.ld 5 rfl (ldL_c (ldL_n ?_))
      refine K.bytes hm (by omega) hw (O.sel [4, 9, 0, 1, 2, 3, 5, 6, 7, 8] 10 rfl (Nat.le_add_left _ _)) fun h O => hj _ ?_
      exact O.sel [1, 2, 3, 4, 5, 6, 7, 8, 0] 9 rfl (Nat.le_add_left _ _)
    · have O2 := K.up (T' := T + 1) (by omega) (O.sel [9, 0, 1, 2, 3, 5, 6, 7, 8] 10 rfl (Nat.le_add_left _ _))
      exact hj _ (O2.sel [1, 2, 3, 4, 5, 6, 7, 8, 0] 9 rfl (Nat.le_add_left _ _))
  clear O
  intro h O
  refine jn1 (fun z h' => z = true ∧ h' = h) ?_ ?_
  case refine_2 =>
    intro j hj
    refine brr_tt rfl ?_
    refine O.ld 1 rfl (ldL_c (ldL_c (ldL_n ?_)))
    refine O.ld 3 rfl (ldL_c (ldL_c (ldL_n ?_)))
    refine brr_tt (by simp) ?_
    refine ⟨_, rfl, ?_⟩
    refine O.ld 4 rfl (ldL_c (ldL_n ?_))
    refine ⟨_, rfl, ?_⟩
    obtain ⟨a, ep, O2⟩ := (O.sel [5, 2] 9 rfl (Nat.le_add_left _ _)).rf
    refine O2.ld 0 rfl (ldL_c (k := .sl) (x := a.sh) (ldL_n ?_))
    have Vr := pool_view O2 6 (by simp) rfl (e := (a.sh, x.q.what)) (by simp [refP])
    refine F_ref0_Eq.is (ys := x.q.what) (O2.view 7 u8_len (by simp) rfl).1 Vr (by omega) (by omega) ?_
    exact hj _ _ ⟨by simp, rfl⟩
  rintro z h' ⟨rfl, rfl⟩
  refine ⟨_, rfl, ?_⟩
  refine O.ld 4 rfl (ldL_c (ldL_n ?_))
  refine jn0 (fun h' => Sat h0 h' (playR bk mark x :: B (T + 2) :: L)) (fun h O => k h O) fun j hj => ?_
  refine brr_of (fun hm => ?_) (fun hm => ?_)
  · refine ⟨_, rfl, ?_⟩
    refine O.ld 4 rfl (ldL_c (ldL_n ?_))
    refine K.bytes hm (by omega) hw (O.sel [2, 8, 0, 4, 5, 6, 7] 9 rfl (Nat.le_add_left _ _)) fun h O => hj _ ?_
    exact Sat.playI x y (O.sel [2, 1, 3, 4, 5, 0] 6 rfl (Nat.le_add_left _ _))
  · have O2 := K.up (T' := T + 2) (by omega) (O.sel [8, 0, 4, 5, 6, 7] 9 rfl (Nat.le_add_left _ _))
    exact hj _ (Sat.playI x y (O2.sel [2, 1, 3, 4, 5, 0] 6 rfl (Nat.le_add_left _ _)))
end
end Go.Proofs.YtigcpkejjjgkeaaGreat.V
/- A step of a play. -/
namespace Go.Proofs.YtigcpkejjjgkeaaGreat.V
open Go Go.RowKit
set_option linter.unusedVariables false
set_option linter.unusedSimpArgs false

section
variable {h0 h : Heap} {L : List Res} {bk : Nat} {mark : Bool} {x : PX} {B : Nat → Res} {T : Nat} {q : QS} {m : Mg}
theorem start_cop {e te ts span : Int} {b : List UInt8} : (q.start e te ts b span).1.cop = q.cop ∧ (q.start e te ts b span).1.node = q.node ∧ (q.start e te ts b span).1.shard = q.shard := by unfold QS.start; split <;> exact ⟨rfl, rfl, rfl⟩
theorem start_len {e te ts span : Int} {b : List UInt8} : (q.start e te ts b span).2.length ≤ q.cop.length := by unfold QS.start; split <;> exact send_len
theorem promise_cop {span : Int} : (q.promise m span).1.cop = q.cop ∧ (q.promise m span).1.node = q.node ∧ (q.promise m span).1.shard = q.shard ∧ (q.promise m span).2.length ≤ q.cop.length := by
  obtain ⟨e1, e2, e3, _⟩ := prom_same (q := q) (m := m)
  unfold QS.promise
  split
  · exact ⟨rfl, rfl, rfl, Nat.zero_le _⟩
  split
  · exact ⟨e3, e1, e2, by rw [← e3]; exact send_len⟩
  · exact ⟨e3, e1, e2, Nat.zero_le _⟩
theorem hear_cop {span : Int} : (q.hear m span).1.cop = q.cop ∧ (q.hear m span).1.node = q.node ∧ (q.hear m span).1.shard = q.shard ∧ (q.hear m span).2.length ≤ q.cop.length := by
  unfold QS.hear
  split
  · exact ⟨rfl, rfl, rfl, Nat.zero_le _⟩
  split
  · exact promise_cop
  split
  · unfold QS.stored
    refine ⟨?_, ?_, ?_, Nat.zero_le _⟩ <;> (split <;> first | rfl | (split <;> rfl))
  split
  · unfold QS.refuse
    refine ⟨?_, ?_, ?_, Nat.zero_le _⟩ <;> (split <;> first | rfl | (split <;> rfl))
  split
  · unfold QS.beat
    refine ⟨?_, ?_, ?_, Nat.zero_le _⟩ <;> (split <;> first | rfl | (split <;> rfl))
  · exact ⟨rfl, rfl, rfl, Nat.zero_le _⟩
theorem propose_cop {b : List UInt8} {span : Int} : (q.propose b span).1.cop = q.cop ∧ (q.propose b span).1.node = q.node ∧ (q.propose b span).1.shard = q.shard ∧ (q.propose b span).2.1.length ≤ q.cop.length := by
  unfold QS.propose
  split
  · exact ⟨rfl, rfl, rfl, Nat.zero_le _⟩
  · exact ⟨rfl, rfl, rfl, send_len (q := ({ q with val := b } : QS).wrt (q.tag.2 + 1))⟩
theorem tick_cop {span : Int} : (q.tick span).1.cop = q.cop ∧ (q.tick span).1.node = q.node ∧ (q.tick span).1.shard = q.shard ∧ (q.tick span).2.length ≤ 2 * q.cop.length := by
  have h1 := tick0_len (q := q) (span := span)
  have h2 : (q.beats span).length ≤ q.cop.length := send_len
  have h3 : (q.rise.beats span).length ≤ q.cop.length := send_len (q := q.rise)
  unfold QS.tick
  split
  · exact ⟨rfl, rfl, rfl, by show (q.tick0 span).length ≤ _; omega⟩
  split
  · split
    · exact ⟨rfl, rfl, rfl, by show (q.tick0 span).length ≤ _; omega⟩
    · exact ⟨rfl, rfl, rfl, by rw [List.length_append]; omega⟩
  · exact ⟨rfl, rfl, rfl, by rw [List.length_append]; omega⟩
theorem gv_at {so si s : Sl} {b : List UInt8} {tn : Int} (O : Sat h0 h L) (i : Nat) (hi : i < L.length) (e : nth i L = gvR so si s b tn) : Bytes h s b := by
  obtain ⟨E1, E2, h1, O', _⟩ := O.at i hi
  rw [e] at h1
  exact gv_view (L := []) ⟨E1, ⟨E1, [], by rw [List.append_nil], h1, rfl⟩, O'.sub (List.sublist_append_left E1 E2)⟩
theorem F_law10_Play_plays.is {o : QOp} {n : Int} {Q : Bool → Heap → Prop} (K : BkOk h0 bk mark B) (hT : T ≤ 10000000) (xo : x.Ok n) (hn : n ≤ 900000) (oo : o.Ok h0) (O : Sat h0 h (playR bk mark x :: B T :: L))
    (k : ∀ (x2 : PX) h', x2.t = x.t → x2.Ok (n + 1) → Sat h0 h' (playR bk mark x2 :: B (T + 20) :: L) → Q true h') : F_law10_Play_plays (some (pt x.t 0)) o.kind o.which o.epoch o.o1 o.te o.ts o.ov o.span (o.m).kind (o.m).frm (o.m).to (o.m).shard (o.m).epoch (o.m).te (o.m).ts (o.m).round (o.m).span (o.m).seen (o.m).v (o.m).peer (o.m).num (o.m).name (o.m).other (o.m).amount (o.m).life (o.m).id (o.m).op (o.m).client (o.m).state (o.m).bad o.aim o.v h Q := by
  rw [F_law10_Play_plays.eq_1, F_law10_Play_plays_of.eq_1]
  have ok := xo.iv.ok
  have hc7 := xo.c
  have htn0 := xo.t0
  have htn1 := xo.t1
  refine O.al fun a34 h O => ?_
  have O : Sat h0 h (own a34 (qopC o) :: playR bk mark x :: B T :: L) := O
  refine O.ld 0 rfl (ldL_c (ldL_n ?_))
  refine brr_eq (fun k1 => ?_) (fun k1 => ?_)
  · refine O.ld 0 rfl (ldL_c (ldL_c (ldL_c (ldL_c (k := .sl) (x := o.ov) (ldL_n ?_)))))
    refine O.al fun a41 h O => ?_
    refine O.st 0 rfl (by simp) rfl fun h O => ?_
    dsimp only [V.put, List.set] at O
    refine O.ld 1 rfl (ldL_c (k := .sl) (x := o.ov) (ldL_n ?_))
    obtain ⟨y, O⟩ := (O.sel [2, 0, 1, 3] 4 rfl (Nat.le_add_left _ _)).play
    have O : Sat h0 h (own x.t [.pointer (some (pt y.p 0)), .pointer (some (pt y.r 0)), .int .i64 x.q.node, .int .i64 x.q.shard, .slice y.sc.ptr y.sc.len y.sc.cap, .pointer (some (pt bk 0)), .bool mark, .slice y.so.ptr y.so.len y.so.cap, .slice y.si.ptr y.si.len y.si.cap, .int .i64 x.tn] :: quR y.p x.q :: rfR y.r x.q :: buf 1 i64c y.sc x.q.cop :: plR2 y.so y.si :: own a41 [.int .u64 o.o1, .int .u64 o.te, .int .u64 o.ts, .slice o.ov.ptr o.ov.len o.ov.cap] :: own a34 (qopC o) :: B T :: L) := O
    refine F_law10_Play_given.is htn0 (by omega) oo.ob (fun h O => oo.ov.kept O.kept) (O.sel [0, 4, 1, 2, 3, 5, 6, 7] 8 rfl (Nat.le_add_left _ _)) fun so si s h O => ?_
    have O : Sat h0 h (own x.t [.pointer (some (pt y.p 0)), .pointer (some (pt y.r 0)), .int .i64 x.q.node, .int .i64 x.q.shard, .slice y.sc.ptr y.sc.len y.sc.cap, .pointer (some (pt bk 0)), .bool mark, .slice so.ptr so.len so.cap, .slice si.ptr si.len si.cap, .int .i64 (x.tn + 1)] :: gvR so si s o.ob (x.tn + 1) :: quR y.p x.q :: rfR y.r x.q :: buf 1 i64c y.sc x.q.cop :: own a41 [.int .u64 o.o1, .int .u64 o.te, .int .u64 o.ts, .slice o.ov.ptr o.ov.len o.ov.cap] :: own a34 (qopC o) :: B T :: L) := O
    refine st_ad (b := a41) (o := 3) rfl ?_
    refine O.st 5 rfl (by simp) rfl fun h O => ?_
    dsimp only [V.put, List.set] at O
    refine ⟨_, rfl, ?_⟩
    refine O.ld 0 rfl (ldL_c (ldL_n ?_))
    refine O.ld 6 rfl (ldL_c (ldL_n ?_))
    refine O.ld 5 rfl (ldL_c (ldL_c (ldL_c (ldL_c (k := .sl) (x := s) (ldL_n ?_)))))
    refine O.ld 6 rfl (ldL_c (ldL_n ?_))
    have sb := start_b (e := o.epoch) (te := o.te) (ts := o.ts) (span := o.span) ok oo.ob
    have sl := start_len (q := x.q) (e := o.epoch) (te := o.te) (ts := o.ts) (span := o.span) (b := o.ob)
    have sc := start_cop (q := x.q) (e := o.epoch) (te := o.te) (ts := o.ts) (span := o.span) (b := o.ob)
    have si2 := inv_start (e := o.epoch) (te := o.te) (ts := o.ts) (span := o.span) ok oo.ob
    refine F_quorum_Quorum_Start.is ok oo.ob (fun h O => gv_at O 1 (by simp) rfl) (O.sel [2, 0, 1, 3, 4, 5, 6, 7] 8 rfl (Nat.le_add_left _ _)) fun s1 h O => ?_
    refine O.ld 6 rfl (ldL_c (k := .sl) (x := s) (ldL_n ?_))
    refine O.ld 7 rfl (ldL_c (k := .sl) (x := o.ov) (ldL_n ?_))
    refine F_law10_Play_kept.is (by omega) oo.ob (fun h O => oo.ov.kept O.kept) (O.sel [2, 3, 0, 1, 4, 5, 7, 8] 9 rfl (Nat.le_add_left _ _)) fun h O => ?_
    refine jn_go ?_
    refine brr_tt rfl ?_
    refine ⟨_, rfl, ?_⟩
    refine O.ld 0 rfl (ldL_c (ldL_n ?_))
    refine O.ld 6 rfl (ldL_c (ldL_n ?_))
    refine O.ld 6 rfl (ldL_c (ldL_c (ldL_c (ldL_c (k := .sl) (x := o.ov) (ldL_n ?_)))))
    refine O.ld 6 rfl (ldL_c (ldL_n ?_))
    refine F_ref10_Quorum_Start.is ok oo.ob (fun h O => oo.ov.kept O.kept) (O.sel [4, 0, 1, 2, 3, 5, 7] 8 rfl (Nat.le_add_left _ _)) fun s2 h O => ?_
    -- ms2, rf, PN, pl, ms1, qu, buf, B
    refine F_law10_Play_told.is K (by omega) (by omega) sb.1 (O.sel [4, 0, 2, 7, 1, 3, 5, 6] 8 rfl (Nat.le_add_left _ _)) fun h O => ?_
    -- PN, B, rf, pl, qu, buf
    refine k ⟨x.t, (x.q.start o.epoch o.te o.ts o.ob o.span).1, x.tn + 1⟩ h rfl ⟨si2, by show (x.q.start _ _ _ _ _).1.cop.length ≤ 7; rw [sc.1]; exact hc7, by show (x.q.start _ _ _ _ _).1.cop ≠ []; rw [sc.1]; exact xo.c0, by show 0 ≤ x.tn + 1; omega, by show x.tn + 1 ≤ n + 1; omega⟩ ?_
    refine Sat.playI _ ⟨y.p, y.r, y.sc, so, si⟩ ?_
    show Sat h0 h (own x.t [.pointer (some (pt y.p 0)), .pointer (some (pt y.r 0)), .int .i64 (x.q.start o.epoch o.te o.ts o.ob o.span).1.node, .int .i64 (x.q.start o.epoch o.te o.ts o.ob o.span).1.shard, .slice y.sc.ptr y.sc.len y.sc.cap, .pointer (some (pt bk 0)), .bool mark, .slice so.ptr so.len so.cap, .slice si.ptr si.len si.cap, .int .i64 (x.tn + 1)] :: quR y.p (x.q.start o.epoch o.te o.ts o.ob o.span).1 :: rfR y.r (x.q.start o.epoch o.te o.ts o.ob o.span).1 :: buf 1 i64c y.sc (x.q.start o.epoch o.te o.ts o.ob o.span).1.cop :: plR2 so si :: B (T + 20) :: L)
    rw [sc.1, sc.2.1, sc.2.2]
    exact O.sel [0, 4, 2, 5, 3, 1] 6 rfl (Nat.le_add_left _ _)
  refine brr_eq (fun k2 => ?_) (fun k2 => ?_)
  · refine O.ld 0 rfl ?_
    unfold qopC
    repeat (first | (with_reducible refine ldL_n ?_) | refine ldL_s ?_ | refine ldL_c ?_)
    obtain ⟨y, O⟩ := (O.sel [1, 0, 2] 3 rfl (Nat.le_add_left _ _)).play
    have O : Sat h0 h (own x.t [.pointer (some (pt y.p 0)), .pointer (some (pt y.r 0)), .int .i64 x.q.node, .int .i64 x.q.shard, .slice y.sc.ptr y.sc.len y.sc.cap, .pointer (some (pt bk 0)), .bool mark, .slice y.so.ptr y.so.len y.so.cap, .slice y.si.ptr y.si.len y.si.cap, .int .i64 x.tn] :: quR y.p x.q :: rfR y.r x.q :: buf 1 i64c y.sc x.q.cop :: plR2 y.so y.si :: own a34 (qopC o) :: B T :: L) := O
    refine play_message.is (o := o) xo.c0 (by omega) (O.sel [0, 3, 1, 2, 4, 5, 6] 7 rfl (Nat.le_add_left _ _)) fun m2 h ev eb O => ?_
    have O : Sat h0 h (own x.t [.pointer (some (pt y.p 0)), .pointer (some (pt y.r 0)), .int .i64 x.q.node, .int .i64 x.q.shard, .slice y.sc.ptr y.sc.len y.sc.cap, .pointer (some (pt bk 0)), .bool mark, .slice y.so.ptr y.so.len y.so.cap, .slice y.si.ptr y.si.len y.si.cap, .int .i64 x.tn] :: buf 1 i64c y.sc x.q.cop :: quR y.p x.q :: rfR y.r x.q :: plR2 y.so y.si :: own a34 (qopC o) :: B T :: L) := O
    have mb : m2.b.length ≤ (140737488355325 : Nat) := by rw [eb]; exact oo.mb
    have mv : ∀ {h : Heap}, KeptH h0 h → Bytes h m2.v m2.b := fun hk => by rw [ev, eb]; exact oo.mv.kept hk
    refine O.al fun a132 h O => ?_
    refine O.st 0 rfl (by simp) rfl fun h O => ?_
    dsimp only [V.put, List.set] at O
    have O : Sat h0 h (own a132 (mgC m2) :: own x.t [.pointer (some (pt y.p 0)), .pointer (some (pt y.r 0)), .int .i64 x.q.node, .int .i64 x.q.shard, .slice y.sc.ptr y.sc.len y.sc.cap, .pointer (some (pt bk 0)), .bool mark, .slice y.so.ptr y.so.len y.so.cap, .slice y.si.ptr y.si.len y.si.cap, .int .i64 x.tn] :: buf 1 i64c y.sc x.q.cop :: quR y.p x.q :: rfR y.r x.q :: plR2 y.so y.si :: own a34 (qopC o) :: B T :: L) := O
    refine O.ld 0 rfl ?_
    unfold mgC
    repeat (first | (with_reducible refine ldL_n ?_) | refine ldL_s ?_ | refine ldL_c ?_)
    refine O.al fun a157 h O => ?_
    refine O.st 0 rfl (by simp) rfl fun h O => ?_
    dsimp only [V.put, List.set] at O
    have O : Sat h0 h (own a157 (mgC m2) :: own a132 (mgC m2) :: own x.t [.pointer (some (pt y.p 0)), .pointer (some (pt y.r 0)), .int .i64 x.q.node, .int .i64 x.q.shard, .slice y.sc.ptr y.sc.len y.sc.cap, .pointer (some (pt bk 0)), .bool mark, .slice y.so.ptr y.so.len y.so.cap, .slice y.si.ptr y.si.len y.si.cap, .int .i64 x.tn] :: buf 1 i64c y.sc x.q.cop :: quR y.p x.q :: rfR y.r x.q :: plR2 y.so y.si :: own a34 (qopC o) :: B T :: L) := O
    refine O.ld 1 rfl (ldL_c (k := .sl) (x := m2.v) (ldL_n ?_))
    refine F_law10_Play_given.is htn0 (by omega) mb (fun h O => mv O.kept) (O.sel [2, 6, 0, 1, 3, 4, 5, 7, 8] 9 rfl (Nat.le_add_left _ _)) fun so si s h O => ?_
    have O : Sat h0 h (own x.t [.pointer (some (pt y.p 0)), .pointer (some (pt y.r 0)), .int .i64 x.q.node, .int .i64 x.q.shard, .slice y.sc.ptr y.sc.len y.sc.cap, .pointer (some (pt bk 0)), .bool mark, .slice so.ptr so.len so.cap, .slice si.ptr si.len si.cap, .int .i64 (x.tn + 1)] :: gvR so si s m2.b (x.tn + 1) :: own a157 (mgC m2) :: own a132 (mgC m2) :: buf 1 i64c y.sc x.q.cop :: quR y.p x.q :: rfR y.r x.q :: own a34 (qopC o) :: B T :: L) := O
    unfold mgC at O
    refine st_ad (b := a157) (o := 10) rfl ?_
    refine O.st 2 rfl (by simp) rfl fun h O => ?_
    dsimp only [V.put, List.set] at O
    have O : Sat h0 h (own x.t [.pointer (some (pt y.p 0)), .pointer (some (pt y.r 0)), .int .i64 x.q.node, .int .i64 x.q.shard, .slice y.sc.ptr y.sc.len y.sc.cap, .pointer (some (pt bk 0)), .bool mark, .slice so.ptr so.len so.cap, .slice si.ptr si.len si.cap, .int .i64 (x.tn + 1)] :: gvR so si s m2.b (x.tn + 1) :: own a157 (mgC { m2 with v := s }) :: own a132 (mgC m2) :: buf 1 i64c y.sc x.q.cop :: quR y.p x.q :: rfR y.r x.q :: own a34 (qopC o) :: B T :: L) := O
    refine ⟨_, rfl, ?_⟩
    refine O.ld 0 rfl (ldL_c (ldL_n ?_))
    refine O.ld 2 rfl ?_
    unfold mgC
    repeat (first | (with_reducible refine ldL_n ?_) | refine ldL_s ?_ | refine ldL_c ?_)
    refine O.ld 7 rfl (ldL_c (ldL_n ?_))
    have sb := hear_b (span := o.span) ok mb
    have sc := hear_cop (q := x.q) (m := m2) (span := o.span)
    have si2 := inv_hear xo.iv mb o.span
    have hv : x.q.hear { m2 with v := s } o.span = x.q.hear m2 o.span := rfl
    refine F_quorum_Quorum_Hear.is (m := { m2 with v := s }) ok mb (fun h O => gv_at O 1 (by simp) rfl) (O.sel [5, 0, 1, 2, 3, 4, 6, 7, 8] 9 rfl (Nat.le_add_left _ _)) fun s1 h O => ?_
    rw [hv] at O
    -- ms1, qu, PN, gv, a157, a132, buf, rf, a34, B
    refine O.ld 4 rfl (ldL_c (k := .sl) (x := s) (ldL_n ?_))
    refine O.ld 5 rfl (ldL_c (k := .sl) (x := m2.v) (ldL_n ?_))
    refine F_law10_Play_kept.is (by omega) mb (fun h O => mv O.kept) (O.sel [2, 3, 0, 1, 5, 6, 7, 8, 9] 10 rfl (Nat.le_add_left _ _)) fun h O => ?_
    -- PN, pl, ms1, qu, a132, buf, rf, a34, B
    refine jn_go ?_
    refine brr_tt rfl ?_
    refine ⟨_, rfl, ?_⟩
    refine O.ld 0 rfl (ldL_c (ldL_n ?_))
    refine O.ld 4 rfl ?_
    unfold mgC
    repeat (first | (with_reducible refine ldL_n ?_) | refine ldL_s ?_ | refine ldL_c ?_)
    refine O.ld 7 rfl (ldL_c (ldL_n ?_))
    refine F_ref10_Quorum_Hear.is (m := m2) xo.iv mb (fun h O => mv O.kept) (O.sel [6, 0, 1, 2, 3, 5, 8] 9 rfl (Nat.le_add_left _ _)) fun s2 h O => ?_
    -- ms2, rf, PN, pl, ms1, qu, buf, B
    refine F_law10_Play_told.is K (by omega) (by omega) sb.1 (O.sel [4, 0, 2, 7, 1, 3, 5, 6] 8 rfl (Nat.le_add_left _ _)) fun h O => ?_
    -- PN, B, rf, pl, qu, buf
    refine k ⟨x.t, (x.q.hear m2 o.span).1, x.tn + 1⟩ h rfl ⟨si2, by show (x.q.hear _ _).1.cop.length ≤ 7; rw [sc.1]; exact hc7, by show (x.q.hear _ _).1.cop ≠ []; rw [sc.1]; exact xo.c0, by show 0 ≤ x.tn + 1; omega, by show x.tn + 1 ≤ n + 1; omega⟩ ?_
    refine Sat.playI _ ⟨y.p, y.r, y.sc, so, si⟩ ?_
    show Sat h0 h (own x.t [.pointer (some (pt y.p 0)), .pointer (some (pt y.r 0)), .int .i64 (x.q.hear m2 o.span).1.node, .int .i64 (x.q.hear m2 o.span).1.shard, .slice y.sc.ptr y.sc.len y.sc.cap, .pointer (some (pt bk 0)), .bool mark, .slice so.ptr so.len so.cap, .slice si.ptr si.len si.cap, .int .i64 (x.tn + 1)] :: quR y.p (x.q.hear m2 o.span).1 :: rfR y.r (x.q.hear m2 o.span).1 :: buf 1 i64c y.sc (x.q.hear m2 o.span).1.cop :: plR2 so si :: B (T + 20) :: L)
    rw [sc.1, sc.2.1, sc.2.2.1]
    exact O.sel [0, 4, 2, 5, 3, 1] 6 rfl (Nat.le_add_left _ _)
  refine brr_eq (fun k3 => ?_) (fun k3 => ?_)
  · refine O.ld 0 rfl (ldL_c (k := .sl) (x := o.v) (ldL_n ?_))
    obtain ⟨y, O⟩ := (O.sel [1, 0, 2] 3 rfl (Nat.le_add_left _ _)).play
    have O : Sat h0 h (own x.t [.pointer (some (pt y.p 0)), .pointer (some (pt y.r 0)), .int .i64 x.q.node, .int .i64 x.q.shard, .slice y.sc.ptr y.sc.len y.sc.cap, .pointer (some (pt bk 0)), .bool mark, .slice y.so.ptr y.so.len y.so.cap, .slice y.si.ptr y.si.len y.si.cap, .int .i64 x.tn] :: quR y.p x.q :: rfR y.r x.q :: buf 1 i64c y.sc x.q.cop :: plR2 y.so y.si :: own a34 (qopC o) :: B T :: L) := O
    refine F_law10_Play_given.is htn0 (by omega) oo.vb (fun h O => oo.v.kept O.kept) (O.sel [0, 4, 1, 2, 3, 5, 6] 7 rfl (Nat.le_add_left _ _)) fun so si s h O => ?_
    have O : Sat h0 h (own x.t [.pointer (some (pt y.p 0)), .pointer (some (pt y.r 0)), .int .i64 x.q.node, .int .i64 x.q.shard, .slice y.sc.ptr y.sc.len y.sc.cap, .pointer (some (pt bk 0)), .bool mark, .slice so.ptr so.len so.cap, .slice si.ptr si.len si.cap, .int .i64 (x.tn + 1)] :: gvR so si s o.vb (x.tn + 1) :: quR y.p x.q :: rfR y.r x.q :: buf 1 i64c y.sc x.q.cop :: own a34 (qopC o) :: B T :: L) := O
    refine ⟨_, rfl, ?_⟩
    refine O.ld 0 rfl (ldL_c (ldL_n ?_))
    refine O.ld 5 rfl (ldL_c (ldL_n ?_))
    have sb := propose_b (span := o.span) ok oo.vb
    have sc := propose_cop (q := x.q) (span := o.span) (b := o.vb)
    have si2 := inv_propose xo.iv oo.vb o.span
    refine F_quorum_Quorum_Propose.is ok oo.vb (fun h O => gv_at O 1 (by simp) rfl) (O.sel [2, 0, 1, 3, 4, 5, 6] 7 rfl (Nat.le_add_left _ _)) fun s1 h O => ?_
    -- ms1, qu, PN, gv, rf, buf, a34, B
    refine O.ld 6 rfl (ldL_c (k := .sl) (x := o.v) (ldL_n ?_))
    refine F_law10_Play_kept.is (by omega) oo.vb (fun h O => oo.v.kept O.kept) (O.sel [2, 3, 0, 1, 4, 5, 6, 7] 8 rfl (Nat.le_add_left _ _)) fun h O => ?_
    -- PN, pl, ms1, qu, rf, buf, a34, B
    refine ⟨_, rfl, ?_⟩
    refine O.ld 0 rfl (ldL_c (ldL_n ?_))
    refine O.ld 6 rfl (ldL_c (k := .sl) (x := o.v) (ldL_n ?_))
    refine O.ld 6 rfl (ldL_c (ldL_n ?_))
    refine F_ref10_Quorum_Propose.is xo.iv oo.vb (fun h O => oo.v.kept O.kept) (O.sel [4, 0, 1, 2, 3, 5, 7] 8 rfl (Nat.le_add_left _ _)) fun s2 h O => ?_
    -- ms2, rf, PN, pl, ms1, qu, buf, B
    refine jn_go ?_
    refine brr_tt rfl ?_
    refine brr_tt (by simp) ?_
    refine F_law10_Play_told.is K (by omega) (by omega) sb.1 (O.sel [4, 0, 2, 7, 1, 3, 5, 6] 8 rfl (Nat.le_add_left _ _)) fun h O => ?_
    -- PN, B, rf, pl, qu, buf
    refine k ⟨x.t, (x.q.propose o.vb o.span).1, x.tn + 1⟩ h rfl ⟨si2, by show (x.q.propose _ _).1.cop.length ≤ 7; rw [sc.1]; exact hc7, by show (x.q.propose _ _).1.cop ≠ []; rw [sc.1]; exact xo.c0, by show 0 ≤ x.tn + 1; omega, by show x.tn + 1 ≤ n + 1; omega⟩ ?_
    refine Sat.playI _ ⟨y.p, y.r, y.sc, so, si⟩ ?_
    show Sat h0 h (own x.t [.pointer (some (pt y.p 0)), .pointer (some (pt y.r 0)), .int .i64 (x.q.propose o.vb o.span).1.node, .int .i64 (x.q.propose o.vb o.span).1.shard, .slice y.sc.ptr y.sc.len y.sc.cap, .pointer (some (pt bk 0)), .bool mark, .slice so.ptr so.len so.cap, .slice si.ptr si.len si.cap, .int .i64 (x.tn + 1)] :: quR y.p (x.q.propose o.vb o.span).1 :: rfR y.r (x.q.propose o.vb o.span).1 :: buf 1 i64c y.sc (x.q.propose o.vb o.span).1.cop :: plR2 so si :: B (T + 20) :: L)
    rw [sc.1, sc.2.1, sc.2.2.1]
    exact O.sel [0, 4, 2, 5, 3, 1] 6 rfl (Nat.le_add_left _ _)
  refine brr_eq (fun k4 => ?_) (fun k4 => ?_)
  · obtain ⟨y, O⟩ := (O.sel [1, 0, 2] 3 rfl (Nat.le_add_left _ _)).play
    have O : Sat h0 h (own x.t [.pointer (some (pt y.p 0)), .pointer (some (pt y.r 0)), .int .i64 x.q.node, .int .i64 x.q.shard, .slice y.sc.ptr y.sc.len y.sc.cap, .pointer (some (pt bk 0)), .bool mark, .slice y.so.ptr y.so.len y.so.cap, .slice y.si.ptr y.si.len y.si.cap, .int .i64 x.tn] :: quR y.p x.q :: rfR y.r x.q :: buf 1 i64c y.sc x.q.cop :: plR2 y.so y.si :: own a34 (qopC o) :: B T :: L) := O
    refine ⟨_, rfl, ?_⟩
    refine O.ld 0 rfl (ldL_c (ldL_n ?_))
    refine O.ld 5 rfl (ldL_c (ldL_n ?_))
    have sb := tick_b (span := o.span) ok
    have sc := tick_cop (q := x.q) (span := o.span)
    have si2 := inv_tick xo.iv o.span
    refine F_quorum_Quorum_Tick.is ok (O.sel [1, 0, 2, 3, 4, 5, 6] 7 rfl (Nat.le_add_left _ _)) fun s1 h O => ?_
    -- ms1, qu, PQ, rf, buf, pl, a34, B
    refine ⟨_, rfl, ?_⟩
    refine O.ld 2 rfl (ldL_c (ldL_n ?_))
    refine O.ld 6 rfl (ldL_c (ldL_n ?_))
    refine F_ref10_Quorum_Tick.is xo.iv (O.sel [3, 0, 1, 2, 4, 5, 7] 8 rfl (Nat.le_add_left _ _)) fun s2 h O => ?_
    -- ms2, rf, ms1, qu, PQ, buf, pl, B
    refine F_law10_Play_told.is K (by omega) (by omega) sb.1 (O.sel [2, 0, 4, 7, 1, 3, 5, 6] 8 rfl (Nat.le_add_left _ _)) fun h O => ?_
    -- PQ, B, rf, qu, buf, pl
    refine k ⟨x.t, (x.q.tick o.span).1, x.tn⟩ h rfl ⟨si2, by show (x.q.tick _).1.cop.length ≤ 7; rw [sc.1]; exact hc7, by show (x.q.tick _).1.cop ≠ []; rw [sc.1]; exact xo.c0, xo.t0, by show x.tn ≤ n + 1; omega⟩ ?_
    refine Sat.playI _ y ?_
    show Sat h0 h (own x.t [.pointer (some (pt y.p 0)), .pointer (some (pt y.r 0)), .int .i64 (x.q.tick o.span).1.node, .int .i64 (x.q.tick o.span).1.shard, .slice y.sc.ptr y.sc.len y.sc.cap, .pointer (some (pt bk 0)), .bool mark, .slice y.so.ptr y.so.len y.so.cap, .slice y.si.ptr y.si.len y.si.cap, .int .i64 x.tn] :: quR y.p (x.q.tick o.span).1 :: rfR y.r (x.q.tick o.span).1 :: buf 1 i64c y.sc (x.q.tick o.span).1.cop :: plR2 y.so y.si :: B (T + 20) :: L)
    rw [sc.1, sc.2.1, sc.2.2.1]
    exact O.sel [0, 3, 2, 4, 5, 1] 6 rfl (Nat.le_add_left _ _)
  refine jn0 (fun h' => ∃ x2 : PX, x2.t = x.t ∧ x2.Ok (n + 1) ∧ Sat h0 h' (playR bk mark x2 :: B (T + 20) :: L)) (fun h ⟨x2, e, o2, O⟩ => k x2 h e o2 O) fun j hj => ?_
  refine brr_eq (fun k5 => ?_) (fun k5 => ?_)
  · obtain ⟨y, O⟩ := (O.sel [1, 2] 3 rfl (Nat.le_add_left _ _)).play
    have O : Sat h0 h (own x.t [.pointer (some (pt y.p 0)), .pointer (some (pt y.r 0)), .int .i64 x.q.node, .int .i64 x.q.shard, .slice y.sc.ptr y.sc.len y.sc.cap, .pointer (some (pt bk 0)), .bool mark, .slice y.so.ptr y.so.len y.so.cap, .slice y.si.ptr y.si.len y.si.cap, .int .i64 x.tn] :: quR y.p x.q :: rfR y.r x.q :: buf 1 i64c y.sc x.q.cop :: plR2 y.so y.si :: B T :: L) := O
    refine ⟨_, rfl, ?_⟩
    refine O.ld 0 rfl (ldL_c (ldL_n ?_))
    refine F_quorum_Quorum_Stop.is (O.sel [1, 0, 2, 3, 4, 5] 6 rfl (Nat.le_add_left _ _)) fun h O => ?_
    have O : Sat h0 h (rfR y.r x.q :: quR y.p x.q.stop :: own x.t [.pointer (some (pt y.p 0)), .pointer (some (pt y.r 0)), .int .i64 x.q.node, .int .i64 x.q.shard, .slice y.sc.ptr y.sc.len y.sc.cap, .pointer (some (pt bk 0)), .bool mark, .slice y.so.ptr y.so.len y.so.cap, .slice y.si.ptr y.si.len y.si.cap, .int .i64 x.tn] :: buf 1 i64c y.sc x.q.cop :: plR2 y.so y.si :: B T :: L) := O.sel [2, 0, 1, 3, 4, 5] 6 rfl (Nat.le_add_left _ _)
    refine ⟨_, rfl, ?_⟩
    refine O.ld 2 rfl (ldL_c (ldL_n ?_))
    obtain ⟨a, ep, O⟩ := O.rf
    refine F_ref10_Quorum_Stop.is (O.sel [0, 1, 7, 8, 9, 10, 11] 12 rfl (Nat.le_add_left _ _)) fun h O => ?_
    -- rf, qu, PQ, buf, pl, B
    have O2 := K.up (T' := T + 20) (by omega) (O.sel [5, 0, 1, 2, 3, 4] 6 rfl (Nat.le_add_left _ _))
    refine hj _ ⟨⟨x.t, x.q.stop, x.tn⟩, rfl, ⟨inv_stop ok, hc7, xo.c0, xo.t0, by show x.tn ≤ n + 1; omega⟩, ?_⟩
    exact Sat.playI ⟨x.t, x.q.stop, x.tn⟩ y (O2.sel [3, 2, 1, 4, 5, 0] 6 rfl (Nat.le_add_left _ _))
  refine brr_eq (fun k6 => ?_) (fun k6 => ?_)
  · refine F_law10_Play_looks.is K hT xo.iv (O.sel [1, 2] 3 rfl (Nat.le_add_left _ _)) fun h O => ?_
    exact k x _ rfl (xo.more (by omega)) (K.up (by omega) O.swap).swap
  · exact hj _ ⟨x, rfl, xo.more (by omega), (K.up (by omega) (O.sel [2, 1] 3 rfl (Nat.le_add_left _ _))).swap⟩
end
end Go.Proofs.YtigcpkejjjgkeaaGreat.V
namespace Go.Proofs.YtigcpkejjjgkeaaGreat.V
open Go Go.RowKit
set_option linter.unusedVariables false
set_option maxRecDepth 100000
def F_law10_QuorumExact_of (f5_ : Int → Int → Int → Int → Int → Int → Sl → Bool → Heap → (Bool → Heap → Prop) → Prop) (s1 s2 s3 s4 s5 s6 : Int) (s7 : Sl) (h : Heap) (Q : Bool → Heap → Prop) : Prop :=
  al 25 [.int .i64 s1, .int .i64 s2, .int .i64 s3, .int .i64 s4, .int .i64 s5, .int .i64 s6, .slice s7.ptr s7.len s7.cap] h fun (a8 : Addr) (h9 : Heap) =>
  ld [.int .i64, .int .i64, .int .i64, .int .i64, .int .i64, .int .i64, .sl] a8 h9 fun (v10 v11 v12 v13 v14 v15 : Int) (v16 : Sl) =>
  f5_ v10 v11 v12 v13 v14 v15 v16 false h9 fun (r17 : Bool) (h18 : Heap) =>
  Q r17 h18
def F_law10_QuorumExact (s1 s2 s3 s4 s5 s6 : Int) (s7 : Sl) (h : Heap) (Q : Bool → Heap → Prop) : Prop := F_law10_QuorumExact_of F_law10_exact s1 s2 s3 s4 s5 s6 s7 h Q
def plan3 : Plan := .s (.r [1]) (.s (.r [2]) .z)
theorem F_law10_QuorumExact.eq (f5_ : Int → Int → Int → Int → Int → Int → Sl → Bool → Heap → (Bool → Heap → Prop) → Prop) (s1 s2 s3 s4 s5 s6 : Int) (s7 : Sl) (h : Heap) (K : Value → Heap → Prop) : F_law10_QuorumExact_of f5_ s1 s2 s3 s4 s5 s6 s7 h (fun (r0 : Bool) (h : Heap) => K (.bool r0) h) =
    den Tryz.prog (fn1 5 (E_law10_exact_of f5_) noFns) Tryz.f3.ntmps plan3 (bodyOf Tryz.f3) (args0 0 [(.agg #[.int .i64 s1, .int .i64 s2, .int .i64 s3, .int .i64 s4, .int .i64 s5, .int .i64 s6, .slice s7.ptr s7.len s7.cap] : Value)]) h ⟨fun env h => dRes Tryz.prog Tryz.f3.results.toList env h K, fun _ _ _ => False, fun env h => dRes Tryz.prog Tryz.f3.results.toList env h K⟩ := by kernel_rfl
def E_law10_QuorumExact_of (f : Int → Int → Int → Int → Int → Int → Sl → Heap → (Bool → Heap → Prop) → Prop) : List Value → Heap → (Value → Heap → Prop) → Prop
  | [v0], h, K => vAgg v0 fun cs0 => decs [.int .i64, .int .i64, .int .i64, .int .i64, .int .i64, .int .i64, .sl] cs0.toList fun (s1 s2 s3 s4 s5 s6 : Int) (s7 : Sl) =>
  f s1 s2 s3 s4 s5 s6 s7 h (fun (r0 : Bool) (h : Heap) => K (.bool r0) h)
  | _, _, _ => False
abbrev E_law10_QuorumExact := E_law10_QuorumExact_of F_law10_QuorumExact
theorem E_law10_QuorumExact.at (f : Int → Int → Int → Int → Int → Int → Sl → Heap → (Bool → Heap → Prop) → Prop) (s1 s2 s3 s4 s5 s6 : Int) (s7 : Sl) (h : Heap) (K : Value → Heap → Prop) : E_law10_QuorumExact_of f [.agg ([.int .i64 s1, .int .i64 s2, .int .i64 s3, .int .i64 s4, .int .i64 s5, .int .i64 s6, .slice s7.ptr s7.len s7.cap] : List Value).toArray] h K = f s1 s2 s3 s4 s5 s6 s7 h (fun (r0 : Bool) (h : Heap) => K (.bool r0) h) := rfl
theorem E_law10_QuorumExact.right : IsRight Tryz.prog 3 E_law10_QuorumExact := by
  refine isRight fun vs K w hh => ?_
  match vs, hh with
  | [v0], hh =>
    unfold E_law10_QuorumExact E_law10_QuorumExact_of at hh
    replace hh := vAgg_sound hh; obtain ⟨cs0, rfl, hh⟩ := hh
    replace hh := decs_cons hh; obtain ⟨s1, l0_0, e0_0, hh⟩ := hh
    replace hh := decs_cons hh; obtain ⟨s2, l0_1, e0_1, hh⟩ := hh
    replace hh := decs_cons hh; obtain ⟨s3, l0_2, e0_2, hh⟩ := hh
    replace hh := decs_cons hh; obtain ⟨s4, l0_3, e0_3, hh⟩ := hh
    replace hh := decs_cons hh; obtain ⟨s5, l0_4, e0_4, hh⟩ := hh
    replace hh := decs_cons hh; obtain ⟨s6, l0_5, e0_5, hh⟩ := hh
    replace hh := decs_cons hh; obtain ⟨s7, l0_6, e0_6, hh⟩ := hh
    replace hh := decs_nil hh; obtain ⟨rfl, hh⟩ := hh
    subst e0_6
    subst e0_5
    subst e0_4
    subst e0_3
    subst e0_2
    subst e0_1
    have ec0 := toArray_eq e0_0
    subst ec0
    unfold F_law10_QuorumExact at hh
    exact calls_den (fn1_right ok5 E_law10_exact.right noFns_right) plan3 _ w K Tryz.func3 (by kernel_rfl) (by kernel_rfl) (Eq.mp (F_law10_QuorumExact.eq F_law10_exact s1 s2 s3 s4 s5 s6 s7 w.heap K) hh)
theorem ok3 : okFn Tryz.prog 3 = true := by kernel_rfl
end Go.Proofs.YtigcpkejjjgkeaaGreat.V
/- Eight quorums played in turns. -/
namespace Go.Proofs.YtigcpkejjjgkeaaGreat.V
open Go Go.RowKit
set_option linter.unusedVariables false
set_option linter.unusedSimpArgs false

def pxA (x : PX) : Option Addr := some (pt x.t 0)
theorem slots_set {xs : List PX} {x : PX} (h : xs.length < 8) : (xs.map pxA ++ List.replicate (8 - xs.length) none).set xs.length (pxA x) = (xs ++ [x]).map pxA ++ List.replicate (8 - (xs ++ [x]).length) none := by
  rw [List.set_append_right _ _ (by simp), List.length_map, Nat.sub_self, show 8 - xs.length = (8 - (xs.length + 1)) + 1 by omega, List.replicate_succ, List.set_cons_zero, List.map_append, List.length_append]
  simp
theorem slots_len {xs : List PX} (h : xs.length ≤ 8) : (xs.map pxA ++ List.replicate (8 - xs.length) (none : Option Addr)).length = 8 := by simp; omega
section
variable {H : Heap} {B : Nat → Nat → Res} {mark : Bool}
theorem script_ix {h0 h : Heap} {L : List Res} {a9 o : Nat} {i s1 s2 s3 s4 s5 s6 : Int} {s7 : Sl} {K : Int → Prop} (j : Nat) (O : Sat h0 h L) (hj : nth j L = own a9 [.int .i64 s1, .int .i64 s2, .int .i64 s3, .int .i64 s4, .int .i64 s5, .int .i64 s6, .slice s7.ptr s7.len s7.cap]) (ho : o = 0 ∨ o = 2 ∨ o = 4) (hi : 0 ≤ i) (k : ∀ v, K v) : ixA 1 ((pt a9 0).add o) 2 (i.tmod 2) fun a => ld [.int .i64] a h fun v => K v := by
  have e : i.tmod 2 = i % 2 := Int.tmod_eq_emod_of_nonneg hi
  rw [e]
  have h1 : i % 2 = 0 ∨ i % 2 = 1 := by omega
  refine ⟨by omega, by omega, ?_⟩
  rcases h1 with h1 | h1 <;> rw [h1] <;> rcases ho with rfl | rfl | rfl
  · exact O.ld j hj (o := 0) (ldL_c (ldL_n (k _)))
  · exact O.ld j hj (o := 2) (ldL_c (ldL_n (k _)))
  · exact O.ld j hj (o := 4) (ldL_c (ldL_n (k _)))
  · exact O.ld j hj (o := 1) (ldL_c (ldL_n (k _)))
  · exact O.ld j hj (o := 3) (ldL_c (ldL_n (k _)))
  · exact O.ld j hj (o := 5) (ldL_c (ldL_n (k _)))
theorem F_law10_exact.is {h : Heap} {L : List Res} {s1 s2 s3 s4 s5 s6 : Int} {s7 : Sl} {ops : List QOp} {Q : Bool → Heap → Prop} (K : ∀ bk, BkOk H bk mark (B bk)) (new : ∀ {bk : Nat} {h : Heap} {L : List Res}, Sat H h (own bk ([.slice none 0 0, .slice none 0 0, .int .i64 0, .slice none 0 0, .slice none 0 0, .int .i64 0, .slice none 0 0, .slice none 0 0, .int .i64 0, .slice none 0 0, .slice none 0 0, .int .i64 0, .slice none 0 0, .slice none 0 0, .int .i64 0, .slice none 0 0, .slice none 0 0, .int .i64 0, .slice none 0 0, .slice none 0 0, .int .i64 0, .slice none 0 0, .slice none 0 0, .int .i64 0, .slice none 0 0, .slice none 0 0, .int .i64 0, .slice none 0 0, .slice none 0 0, .int .i64 0, .slice none 0 0, .slice none 0 0, .int .i64 0, .slice none 0 0, .slice none 0 0, .int .i64 0, .int .i64 0, .int .i64 0, .int .i64 0]) :: L) → Sat H h (B bk 0 :: L)) (Vo : View H 32 (qopR H) s7 ops) (O : Sat H h L) (k : ∀ h', KeptH H h' → Q true h') : F_law10_exact s1 s2 s3 s4 s5 s6 s7 mark h Q := by
  rw [F_law10_exact.eq_1, F_law10_exact_of.eq_1]
  refine O.al fun a9 h O => ?_
  refine O.al fun bk h O => ?_
  have O := new O
  refine O.al fun a13 h O => ?_
  have O : Sat H h (own a13 ((([] : List PX).map pxA ++ List.replicate (8 - ([] : List PX).length) none).flatMap optc) :: B bk (2 * ([] : List PX).length) :: own a9 [.int .i64 s1, .int .i64 s2, .int .i64 s3, .int .i64 s4, .int .i64 s5, .int .i64 s6, .slice s7.ptr s7.len s7.cap] :: L) := O
  have K := K bk
  refine jn0 (fun h' => ∃ xs : List PX, xs.length = 8 ∧ (∀ x ∈ xs, x.Ok 0) ∧ Sat H h' (own a13 ((xs.map pxA).flatMap optc) :: many (playR bk mark) xs :: B bk 20 :: own a9 [.int .i64 s1, .int .i64 s2, .int .i64 s3, .int .i64 s4, .int .i64 s5, .int .i64 s6, .slice s7.ptr s7.len s7.cap] :: L)) ?_ ?_
  case refine_2 =>
    intro j hj
    rw [F_law10_exact.l1.eq_1]
    refine wl1 (k := .int .i64) (fun (m : Nat) (i : Int) (h' : Heap) => ∃ xs : List PX, i = (xs.length : Int) ∧ xs.length + m = 8 ∧ (∀ x ∈ xs, x.Ok 0) ∧ Sat H h' (own a13 ((xs.map pxA ++ List.replicate (8 - xs.length) none).flatMap optc) :: many (playR bk mark) xs :: B bk (2 * xs.length) :: own a9 [.int .i64 s1, .int .i64 s2, .int .i64 s3, .int .i64 s4, .int .i64 s5, .int .i64 s6, .slice s7.ptr s7.len s7.cap] :: L)) ?_ (m := 8) ⟨[], rfl, rfl, fun x hx => absurd hx List.not_mem_nil, (O.none (f := playR bk mark)).swap⟩
    clear O
    rintro m (i : Int) h next hnx ⟨xs, rfl, hxm, hall, O⟩
    refine brr_p (fun hlt => ?_) (fun hlt => ?_)
    case refine_2 =>
      have h8 : xs.length = 8 := by omega
      refine hj _ ⟨xs, h8, hall, ?_⟩
      rw [h8, Nat.sub_self, List.replicate_zero, List.append_nil] at O
      exact (K.up (T' := 20) (by omega) (O.sel [2, 0, 1, 3] 4 rfl (Nat.le_add_left _ _))).sel [1, 2, 0, 3] 4 rfl (Nat.le_add_left _ _)
    refine ⟨by decide, ?_⟩
    refine script_ix 3 O rfl (.inl rfl) (by omega) fun v20 => ?_
    refine ⟨by decide, ?_⟩
    refine script_ix 3 O rfl (.inr (.inl rfl)) (by omega) fun v22 => ?_
    refine ⟨by decide, ?_⟩
    refine script_ix 3 O rfl (.inr (.inr rfl)) (by omega) fun v24 => ?_
    refine F_law10_begin.is O fun x h xo O => ?_
    have sl := slots_len (xs := xs) (by omega)
    refine Sat.putA O.swap optc_len optc_one sl.symm (by omega) (by omega) (pxA x) rfl fun h O => ?_
    have es := slots_set (xs := xs) (x := x) (by omega)
    rw [Int.toNat_natCast, es] at O
    have hx : (((xs ++ [x]).map pxA ++ List.replicate (8 - (xs ++ [x]).length) none))[((xs.length : Nat) : Int).toNat]? = some (pxA x) := by
      rw [Int.toNat_natCast, List.getElem?_append_left (by simp), List.map_append, List.getElem?_append_right (by simp)]
      simp
    have sl2 := slots_len (xs := xs ++ [x]) (by simp; omega)
    refine jn1 (fun z h' => z = false ∧ Sat H h' (own a13 (((xs ++ [x]).map pxA ++ List.replicate (8 - (xs ++ [x]).length) none).flatMap optc) :: playR bk mark x :: many (playR bk mark) xs :: B bk (2 * xs.length + 2) :: own a9 [.int .i64 s1, .int .i64 s2, .int .i64 s3, .int .i64 s4, .int .i64 s5, .int .i64 s6, .slice s7.ptr s7.len s7.cap] :: L)) ?_ ?_
    case refine_2 =>
      intro j2 hj2
      refine O.getA (k := .ptr) 0 optc_len rfl sl2.symm (by omega) hx id (fun _ => rfl) ?_
      refine brr_ff rfl ?_
      refine O.getA (k := .ptr) 0 optc_len rfl sl2.symm (by omega) hx id (fun _ => rfl) ?_
      refine F_law10_Play_looks.is K (by omega) xo.iv (O.sel [1, 3, 0, 2, 4] 5 rfl (Nat.le_add_left _ _)) fun h O => ?_
      exact hj2 _ _ ⟨rfl, O.sel [2, 0, 3, 1, 4] 5 rfl (Nat.le_add_left _ _)⟩
    clear O
    rintro z h ⟨rfl, O⟩
    refine brr_ff rfl ?_
    have O2 : Sat H h (playR bk mark x :: many (playR bk mark) xs :: own a13 (((xs ++ [x]).map pxA ++ List.replicate (8 - (xs ++ [x]).length) none).flatMap optc) :: B bk (2 * xs.length + 2) :: own a9 [.int .i64 s1, .int .i64 s2, .int .i64 s3, .int .i64 s4, .int .i64 s5, .int .i64 s6, .slice s7.ptr s7.len s7.cap] :: L) := O.sel [1, 2, 0, 3, 4] 5 rfl (Nat.le_add_left _ _)
    have O2 := O2.more
    rw [wrap64 (by omega) (by omega)]
    refine hnx (m - 1) _ _ (by omega) ⟨xs ++ [x], by simp, by simp; omega, fun y hy => ?_, ?_⟩
    · rcases List.mem_append.1 hy with hy | hy
      · exact hall y hy
      · rw [List.mem_singleton.1 hy]; exact xo
    · rw [show 2 * (xs ++ [x]).length = 2 * xs.length + 2 by simp; omega]
      exact O2.swap
  clear O
  rintro h ⟨xs, h8, hall, O⟩
  have mset : ∀ {xs : List PX} {i : Nat} {x x2 : PX}, xs[i]? = some x → x2.t = x.t → (xs.set i x2).map pxA = xs.map pxA := by
    intro xs i x x2 hx e
    rw [List.map_set]
    refine set_same ?_
    rw [List.getElem?_map, hx]
    show some (pxA x) = some (pxA x2)
    unfold pxA
    rw [e]
  refine jn0 (fun h' => ∃ xs : List PX, xs.length = 8 ∧ (∀ x ∈ xs, x.Ok 600) ∧ Sat H h' (own a13 ((xs.map pxA).flatMap optc) :: many (playR bk mark) xs :: B bk 13000 :: own a9 [.int .i64 s1, .int .i64 s2, .int .i64 s3, .int .i64 s4, .int .i64 s5, .int .i64 s6, .slice s7.ptr s7.len s7.cap] :: L)) ?_ ?_
  case refine_2 =>
    intro j hj
    rw [F_law10_exact.l2.eq_1]
    refine wl1 (k := .int .i64) (fun (m : Nat) (i : Int) (h' : Heap) => i + m = ops.length ∧ 0 ≤ i ∧ i ≤ 600 ∧ ∃ xs : List PX, xs.length = 8 ∧ (∀ x ∈ xs, x.Ok i) ∧ Sat H h' (own a13 ((xs.map pxA).flatMap optc) :: many (playR bk mark) xs :: B bk (20 + 20 * i.toNat) :: own a9 [.int .i64 s1, .int .i64 s2, .int .i64 s3, .int .i64 s4, .int .i64 s5, .int .i64 s6, .slice s7.ptr s7.len s7.cap] :: L)) ?_ (m := ops.length) ⟨by omega, by omega, by omega, xs, h8, hall, O⟩
    clear O hall h8 xs
    rintro m (i : Int) h next hnx ⟨him, hi0, hi6, xs, h8, hall, O⟩
    refine jn1 (fun z h' => h = h' ∧ z = decide (i < ops.length ∧ i < 600)) ?_ ?_
    case refine_2 =>
      intro j2 hj2
      refine O.ld 3 rfl (ldL_c (k := .sl) (x := s7) (ldL_n ?_))
      rw [Vo.len]
      refine brr_p (fun hlt => ?_) (fun hlt => ?_)
      · exact hj2 _ _ ⟨rfl, by simp [hlt]⟩
      · exact hj2 _ _ ⟨rfl, by simp; intro h; omega⟩
    rintro z h' ⟨rfl, rfl⟩
    refine brr_p (fun hg => ?_) (fun hg => ?_)
    case refine_2 =>
      refine hj _ ⟨xs, h8, fun x hx => (hall x hx).more hi6, ?_⟩
      exact (K.up (T' := 13000) (by omega) (O.sel [2, 0, 1, 3] 4 rfl (Nat.le_add_left _ _))).sel [1, 2, 0, 3] 4 rfl (Nat.le_add_left _ _)
    obtain ⟨hlt, hlt6⟩ := hg
    refine jn1 (fun z h' => z = false ∧ ∃ xs : List PX, xs.length = 8 ∧ (∀ x ∈ xs, x.Ok (i + 1)) ∧ Sat H h' (own a13 ((xs.map pxA).flatMap optc) :: many (playR bk mark) xs :: B bk (20 + 20 * (i + 1).toNat) :: own a9 [.int .i64 s1, .int .i64 s2, .int .i64 s3, .int .i64 s4, .int .i64 s5, .int .i64 s6, .slice s7.ptr s7.len s7.cap] :: L)) ?_ ?_
    · clear O hall h8 xs
      rintro z h ⟨rfl, xs, h8, hall, O⟩
      refine brr_ff rfl ?_
      rw [wrap64 (by omega) (by omega)]
      exact hnx (m - 1) _ _ (by omega) ⟨by omega, by omega, by omega, xs, h8, hall, O⟩
    intro j47 hj47
    refine O.ld 3 rfl (ldL_c (k := .sl) (x := s7) (ldL_n ?_))
    refine (Vo.kept O.kept).ix hi0 hlt fun a cs o hx hlen hR hc => ?_
    obtain ⟨rfl, oo⟩ := hR
    refine ld_drop hc 1 (ldL_c (ldL_n ?_))
    refine O.ld 3 rfl (ldL_c (k := .sl) (x := s7) (ldL_n ?_))
    refine (Vo.kept O.kept).ix hi0 hlt fun a2 cs o2 hx2 hlen2 hR2 hc2 => ?_
    obtain ⟨rfl, oo2⟩ := hR2
    have eo : o2 = o := Option.some.inj (hx2.symm.trans hx)
    subst eo
    refine ld_are hc2 ?_
    unfold qopC
    repeat (first | (with_reducible refine ldL_n ?_) | refine ldL_s ?_ | refine ldL_c ?_)
    refine F_law10_into.is (by decide) (by decide) ?_
    refine O.ca 3 1 rfl ?_
    refine ⟨by unfold qopC at hc2; exact hc2, ?_⟩
    have m0 := Int.emod_nonneg o2.which (show (8 : Int) ≠ 0 by omega)
    have m1 := Int.emod_lt_of_pos o2.which (show (0 : Int) < 8 by omega)
    obtain ⟨w, hw⟩ : ∃ w : Nat, o2.which % 8 = (w : Int) := ⟨(o2.which % 8).toNat, by omega⟩
    rw [hw]
    obtain ⟨x, hxw⟩ : ∃ x, xs[w]? = some x := ⟨_, List.getElem?_eq_getElem (by omega)⟩
    have xo := hall x (List.mem_of_getElem? hxw)
    refine O.getA (k := .ptr) (x := pxA x) 0 optc_len rfl (by rw [List.length_map]; exact h8.symm) (by omega) (by rw [Int.toNat_natCast, List.getElem?_map, hxw]; rfl) id (fun _ => rfl) ?_
    have O := (O.sel [1, 0, 2, 3] 4 rfl (Nat.le_add_left _ _)).take w hxw
    have O : Sat H h (playR bk mark x :: B bk (20 + 20 * i.toNat) :: hole (playR bk mark) xs w :: own a13 ((xs.map pxA).flatMap optc) :: own a9 [.int .i64 s1, .int .i64 s2, .int .i64 s3, .int .i64 s4, .int .i64 s5, .int .i64 s6, .slice s7.ptr s7.len s7.cap] :: L) := O.sel [0, 3, 1, 2, 4] 5 rfl (Nat.le_add_left _ _)
    refine F_law10_Play_plays.is K (by omega) xo (by omega) oo2 O fun x2 h e2 xo2 O => ?_
    refine brr_ff rfl ?_
    have O2 : Sat H h (playR bk mark x2 :: hole (playR bk mark) xs w :: B bk (20 + 20 * i.toNat + 20) :: own a13 ((xs.map pxA).flatMap optc) :: own a9 [.int .i64 s1, .int .i64 s2, .int .i64 s3, .int .i64 s4, .int .i64 s5, .int .i64 s6, .slice s7.ptr s7.len s7.cap] :: L) := O.sel [0, 2, 1, 3, 4] 5 rfl (Nat.le_add_left _ _)
    have O2 := O2.give (by omega)
    have O2 : Sat H h (B bk (20 + 20 * i.toNat + 20) :: many (playR bk mark) (xs.set w x2) :: own a13 ((xs.map pxA).flatMap optc) :: own a9 [.int .i64 s1, .int .i64 s2, .int .i64 s3, .int .i64 s4, .int .i64 s5, .int .i64 s6, .slice s7.ptr s7.len s7.cap] :: L) := O2.swap
    refine K.look (by omega) O2 fun h O => ?_
    refine hj47 _ _ ⟨rfl, xs.set w x2, by rw [List.length_set]; exact h8, fun y hy => ?_, ?_⟩
    · rcases List.mem_or_eq_of_mem_set hy with hy | rfl
      · exact (hall y hy).more (by omega)
      · exact xo2
    · rw [mset hxw e2, show 20 + 20 * (i + 1).toNat = 20 + 20 * i.toNat + 20 by omega]
      exact O.sel [2, 1, 0, 3] 4 rfl (Nat.le_add_left _ _)
  clear O hall h8 xs
  rintro h ⟨xs, h8, hall, O⟩
  refine jn0 (fun h' => Sat H h' (B bk 13020 :: L)) ?_ ?_
  case refine_2 =>
    intro j hj
    rw [F_law10_exact.l3.eq_1]
    refine wl1 (k := .int .i64) (fun (m : Nat) (i : Int) (h' : Heap) => i + m = 8 ∧ 0 ≤ i ∧ Sat H h' (own a13 ((xs.map pxA).flatMap optc) :: many (playR bk mark) xs :: B bk (13000 + 2 * i.toNat) :: own a9 [.int .i64 s1, .int .i64 s2, .int .i64 s3, .int .i64 s4, .int .i64 s5, .int .i64 s6, .slice s7.ptr s7.len s7.cap] :: L)) ?_ (m := 8) ⟨by omega, by omega, O⟩
    clear O
    rintro m (i : Int) h next hnx ⟨him, hi0, O⟩
    refine brr_p (fun hlt => ?_) (fun hlt => hj _ (K.up (T' := 13020) (by omega) (O.sel [2] 4 rfl (Nat.le_add_left _ _))))
    obtain ⟨x, hxw⟩ : ∃ x, xs[i.toNat]? = some x := ⟨_, List.getElem?_eq_getElem (by omega)⟩
    have xo := hall x (List.mem_of_getElem? hxw)
    refine O.getA (k := .ptr) (x := pxA x) 0 optc_len rfl (by rw [List.length_map]; exact h8.symm) (by omega) (by rw [List.getElem?_map, hxw]; rfl) id (fun _ => rfl) ?_
    have O := (O.sel [1, 0, 2, 3] 4 rfl (Nat.le_add_left _ _)).take i.toNat hxw
    refine F_law10_Play_looks.is K (by omega) xo.iv (O.sel [0, 3, 1, 2, 4] 5 rfl (Nat.le_add_left _ _)) fun h O => ?_
    refine brr_ff rfl ?_
    have O2 : Sat H h (playR bk mark x :: hole (playR bk mark) xs i.toNat :: B bk (13000 + 2 * i.toNat + 2) :: own a13 ((xs.map pxA).flatMap optc) :: own a9 [.int .i64 s1, .int .i64 s2, .int .i64 s3, .int .i64 s4, .int .i64 s5, .int .i64 s6, .slice s7.ptr s7.len s7.cap] :: L) := O.sel [0, 2, 1, 3, 4] 5 rfl (Nat.le_add_left _ _)
    have O2 := O2.give (by omega)
    rw [set_same hxw] at O2
    rw [wrap64 (by omega) (by omega)]
    refine hnx (m - 1) _ _ (by omega) ⟨by omega, by omega, ?_⟩
    rw [show 13000 + 2 * (i + 1).toNat = 13000 + 2 * i.toNat + 2 by omega]
    exact O2.sel [2, 0, 1, 3] 4 rfl (Nat.le_add_left _ _)
  clear O
  intro h O
  refine jn1 (fun z h' => z = true ∧ KeptH H h') (fun z h' hh => by obtain ⟨rfl, hk⟩ := hh; exact k _ hk) fun j hj => ?_
  refine F_law10_wakes.is O fun h O => ?_
  refine brr_tt rfl ?_
  exact K.look (by omega) O fun h O => hj _ _ ⟨rfl, O.kept⟩
end
end Go.Proofs.YtigcpkejjjgkeaaGreat.V
/- Lists of messages that carry marks, and grow. -/
namespace Go.Proofs.YtigcpkejjjgkeaaGreat.V
open Go Go.RowKit
set_option linter.unusedVariables false
set_option linter.unusedSimpArgs false

abbrev ME := Sl × Nat
def mkM (m : Nat) : Mg := { mgz with kind := 1000 + (m : Int) }
def inFamM (lab : Nat → Nat) (E : Blks) (e : ME) : Prop := e.1 = ⟨none, 0, 0⟩ ∨ ∃ b cs, (b, .inl cs) ∈ E ∧ e.1.ptr = some (pt b 0) ∧ e.1.len ≤ e.1.cap ∧ e.1.cap * 22 = cs.length ∧ lab b = e.2 ∧ ∀ i, i < e.1.len * 22 → cs[i]? = (mgC (mkM e.2))[i % 22]?
def famM (es : List ME) : Res := fun E => ∃ lab : Nat → Nat, ∀ e ∈ es, inFamM lab E e
theorem mgC_lenM (m : Nat) : (mgC (mkM m)).length = 22 := rfl
theorem famM.sub {h0 h : Heap} {L : List Res} {es fs : List ME} (O : Sat h0 h (famM es :: L)) (s : ∀ e ∈ fs, e ∈ es) : Sat h0 h (famM fs :: L) :=
  O.mono fun E ⟨lab, k⟩ => ⟨lab, fun e he => k e (s e he)⟩
theorem famM.none {h0 h : Heap} {L : List Res} (O : Sat h0 h L) : Sat h0 h (famM [] :: L) := O.empI.mono fun E _ => ⟨fun _ => 0, fun e he => by cases he⟩
theorem famM_view {h0 h : Heap} {L : List Res} (O : Sat h0 h L) (i : Nat) {es : List ME} {e : ME} (hi : i < L.length) (hn : nth i L = famM es) (he : e ∈ es) : View h 22 (En mgC) e.1 (List.replicate e.1.len (mkM e.2)) := by
  obtain ⟨E1, E2, h1, O', _⟩ := O.at i hi
  rw [hn] at h1
  obtain ⟨lab, k⟩ := h1
  rcases k e he with h | ⟨b, cs, hm, hp, hl, hc, _, ha⟩
  · rw [h]; exact View.nil
  · have B := (O'.blk _ (List.mem_append.2 (.inl hm))).2
    refine ⟨List.length_replicate.symm, fun j x hj => ?_⟩
    have hjl : j < e.1.len := by
      have := (List.getElem?_eq_some_iff.1 hj).1
      rwa [List.length_replicate] at this
    rw [List.getElem?_replicate, if_pos hjl] at hj
    cases hj
    refine ⟨pt b 0, mgC (mkM e.2), hp, rfl, rfl, ?_⟩
    have h2 := cellsAre_blk B (j * 22) 22
    have e3 : (cs.drop (j * 22)).take 22 = mgC (mkM e.2) := by
      apply List.ext_getElem?
      intro i
      by_cases hi : i < 22
      · rw [List.getElem?_take, if_pos hi, List.getElem?_drop, ha (j * 22 + i) (by omega)]
        congr 1
        omega
      · rw [List.getElem?_eq_none (by rw [List.length_take]; omega), List.getElem?_eq_none (by rw [mgC_lenM]; omega)]
    rw [e3] at h2
    rw [pt_add, Nat.zero_add]
    exact h2
theorem put_get {cs vs : List Value} {o : Nat} (h : o + vs.length ≤ cs.length) (i : Nat) : (V.put cs o vs)[i]? = if i < o then cs[i]? else if i < o + vs.length then vs[i - o]? else cs[i]? := by
  have e := put_app (cs.take o) (cs.drop o) vs (by rw [List.length_drop]; omega)
  rw [List.take_append_drop, List.length_take, Nat.min_eq_left (by omega)] at e
  rw [e]
  have hl : (cs.take o).length = o := by rw [List.length_take]; omega
  by_cases h1 : i < o
  · rw [if_pos h1, List.append_assoc, List.getElem?_append_left (by omega), List.getElem?_take, if_pos h1]
  rw [if_neg h1]
  by_cases h2 : i < o + vs.length
  · rw [if_pos h2, List.append_assoc, List.getElem?_append_right (by omega), hl, List.getElem?_append_left (by omega)]
  · rw [if_neg h2, List.getElem?_append_right (by rw [List.length_append]; omega), List.length_append, hl, List.drop_drop, List.getElem?_drop]
    congr 1
    omega
theorem put_len {cs vs : List Value} {o : Nat} (h : o + vs.length ≤ cs.length) : (V.put cs o vs).length = cs.length := by
  have e := put_app (cs.take o) (cs.drop o) vs (by rw [List.length_drop]; omega)
  rw [List.take_append_drop, List.length_take, Nat.min_eq_left (by omega)] at e
  rw [e]
  simp
  omega
theorem flat_rep {m : Nat} : ∀ (n i : Nat), i < n * 22 → ((List.replicate n (mkM m)).flatMap mgC)[i]? = (mgC (mkM m))[i % 22]?
  | 0, i, h => by omega
  | n + 1, i, h => by
    rw [List.replicate_succ, List.flatMap_cons]
    by_cases hi : i < 22
    · rw [List.getElem?_append_left (by rw [mgC_lenM]; exact hi), Nat.mod_eq_of_lt hi]
    · rw [List.getElem?_append_right (by rw [mgC_lenM]; omega), mgC_lenM, flat_rep n (i - 22) (by omega)]
      congr 1
      omega
theorem famM_new {h0 h : Heap} {L : List Res} {es : List ME} {b len cap m : Nat} {cs : List Value} (O : Sat h0 h (own b cs :: famM es :: L)) (hl : len ≤ cap) (hcap : cap * 22 = cs.length) (ha : ∀ i, i < len * 22 → cs[i]? = (mgC (mkM m))[i % 22]?) : Sat h0 h (famM (es ++ [(⟨some (pt b 0), len, cap⟩, m)]) :: L) := by
  obtain ⟨E, ⟨E1, E2, p, hA, F1, F2, p2, ⟨lab, k⟩, h2⟩, O'⟩ := O
  have hA : E1 = [(b, .inl cs)] := hA
  subst hA
  have pp : E.Perm (((b, .inl cs) :: F1) ++ F2) := p.trans (List.Perm.cons _ p2)
  have OO := O'.perm pp.symm
  have hd := OO.dis
  rw [List.cons_append, List.map_cons, List.nodup_cons] at hd
  refine ⟨E, ⟨(b, .inl cs) :: F1, F2, pp, ⟨fun x => if x = b then m else lab x, fun e he => ?_⟩, h2⟩, O'⟩
  rcases List.mem_append.1 he with he | he
  · rcases k e he with h | ⟨b', cs', hm, hp, hl', hc, hlab, ha'⟩
    · exact .inl h
    · refine .inr ⟨b', cs', List.mem_cons_of_mem _ hm, hp, hl', hc, ?_, ha'⟩
      have : b' ≠ b := by
        intro e
        subst e
        exact hd.1 (List.mem_map.2 ⟨_, List.mem_append.2 (.inl hm), rfl⟩)
      simp only [if_neg this]
      exact hlab
  · rw [List.mem_singleton.1 he]
    exact .inr ⟨b, cs, List.mem_cons_self, rfl, hl, hcap, by simp, ha⟩
theorem famM_take {h0 h : Heap} {L : List Res} {es : List ME} {s : Sl} {m : Nat} (O : Sat h0 h (buf 22 mgC s (List.replicate s.len (mkM m)) :: famM es :: L)) : Sat h0 h (famM (es ++ [(s, m)]) :: L) := by
  obtain ⟨sp, O⟩ := O.ex
  obtain ⟨E, ⟨E1, E2, p, hA, h2⟩, O'⟩ := O
  rcases hA with ⟨rfl, _, _, rfl⟩ | ⟨b, j, hs, hsp, rfl⟩
  · obtain ⟨F1, F2, p2, ⟨lab, k⟩, h2⟩ := h2
    refine ⟨E, ⟨F1, F2, p.trans p2, ⟨lab, fun e he => ?_⟩, h2⟩, O'⟩
    rcases List.mem_append.1 he with he | he
    · exact k e he
    · rw [List.mem_singleton.1 he]; exact .inl rfl
  · have O2 : Sat h0 h (own b ((List.replicate s.len (mkM m)).flatMap mgC ++ sp) :: famM es :: L) := ⟨E, ⟨[(b, _)], E2, p, rfl, h2⟩, O'⟩
    have hf := flatMap_len mgC_len (List.replicate s.len (mkM m))
    rw [List.length_replicate] at hf hs
    have := famM_new (len := s.len) (cap := s.len + j) (m := m) O2 (by omega) (by rw [List.length_append, hf, hsp, Nat.add_mul]) (fun i hi => by
      rw [List.getElem?_append_left (by omega)]
      exact flat_rep _ _ hi)
    rw [← hs] at this
    exact this
/-- One marked message is appended to a list. -/
theorem famM_app {h0 h : Heap} {L : List Res} {es : List ME} {a T m : Nat} {g : Sl} {z : Value} {K : Sl → Heap → Prop} (hz : z.cells.size = 22) (hl : g.len ≤ 1000000) (O : Sat h0 h (own a (mgC (mkM m)) :: famM (es ++ [(g, m)]) :: L)) (k : ∀ g' h', g'.len = g.len + 1 → Sat h0 h' (famM (es ++ [(g', m)]) :: L) → K g' h') : V.app T 22 208 z g (some (pt a 0)) 1 h K := by
  have hv := famM_view O 1 (by simp) rfl (List.mem_append.2 (.inr (List.mem_singleton.2 rfl)))
  have hmem : (g, m) ∈ es ++ [(g, m)] := List.mem_append.2 (.inr (List.mem_singleton.2 rfl))
  refine ⟨mgC (mkM m), rdP_own O 0 rfl 22 (Nat.le_refl _), fun hcap => ?_, fun hcap => ⟨growslice_fits (by exact hcap) (by omega), ?_⟩⟩
  · have O := O.drop
    obtain ⟨E, ⟨E1, E2, p, ⟨lab, kk⟩, h2⟩, O'⟩ := O
    rcases kk (g, m) hmem with hn | ⟨b, cs, hm, hp, hle, hc, hlab, ha⟩
    · simp only at hn
      rw [hn] at hcap
      simp at hcap
    · simp only at hp hle hc hlab ha
      obtain ⟨A, B, rfl⟩ := List.append_of_mem hm
      have pE : E.Perm ((b, .inl cs) :: (A ++ B ++ E2)) := by
        refine p.trans ?_
        rw [List.append_assoc, List.cons_append, List.append_assoc]
        exact List.perm_middle
      have O1 := O'.perm pE.symm
      have hd := O1.dis
      rw [List.map_cons, List.nodup_cons] at hd
      rw [hp]
      simp only [Option.map_some, stP, pt_add, Nat.zero_add]
      have hroom : g.len * 22 + (mgC (mkM m)).length ≤ cs.length := by rw [mgC_lenM]; omega
      refine Held.st O1 hroom rfl fun h' O2 => ?_
      refine k ⟨some (pt b 0), g.len + 1, g.cap⟩ h' rfl ⟨_, ⟨(b, .inl (V.put cs (g.len * 22) (mgC (mkM m)))) :: (A ++ B), E2, List.Perm.refl _, ⟨lab, fun e he => ?_⟩, h2⟩, O2⟩
      have same : ∀ (i : Nat) {m' : Nat}, m' = m → (cs[i]? = (mgC (mkM m'))[i % 22]?) ∨ (g.len * 22 ≤ i ∧ i < g.len * 22 + 22) → (V.put cs (g.len * 22) (mgC (mkM m)))[i]? = (mgC (mkM m'))[i % 22]? := by
        intro i m' em hi
        subst em
        rw [put_get hroom, mgC_lenM]
        by_cases h1 : i < g.len * 22
        · rw [if_pos h1]
          rcases hi with hi | hi
          · exact hi
          · omega
        rw [if_neg h1]
        by_cases h2 : i < g.len * 22 + 22
        · rw [if_pos h2]
          congr 1
          omega
        · rw [if_neg h2]
          rcases hi with hi | hi
          · exact hi
          · omega
      have other : ∀ e : ME, inFamM lab (A ++ (b, .inl cs) :: B) e → inFamM lab ((b, .inl (V.put cs (g.len * 22) (mgC (mkM m)))) :: (A ++ B)) e := by
        intro e ie
        rcases ie with h | ⟨b', cs', hm', hp', hl', hc', hlab', ha'⟩
        · exact .inl h
        · by_cases hb : b' = b
          · subst hb
            have ecs : cs' = cs := by
              rcases List.mem_append.1 hm' with x | x
              · exact absurd (List.mem_map.2 ⟨_, List.mem_append.2 (.inl (List.mem_append.2 (.inl x))), rfl⟩) hd.1
              · rcases List.mem_cons.1 x with x | x
                · exact Sum.inl.inj (Prod.mk.inj x).2
                · exact absurd (List.mem_map.2 ⟨_, List.mem_append.2 (.inl (List.mem_append.2 (.inr x))), rfl⟩) hd.1
            subst ecs
            refine .inr ⟨b', _, List.mem_cons_self, hp', hl', by rw [put_len hroom]; exact hc', hlab', fun i hi => same i (by rw [← hlab', hlab]) (.inl (ha' i hi))⟩
          · refine .inr ⟨b', cs', ?_, hp', hl', hc', hlab', ha'⟩
            rcases List.mem_append.1 hm' with x | x
            · exact List.mem_cons_of_mem _ (List.mem_append.2 (.inl x))
            · rcases List.mem_cons.1 x with x | x
              · exact absurd (Prod.mk.inj x).1 hb
              · exact List.mem_cons_of_mem _ (List.mem_append.2 (.inr x))
      rcases List.mem_append.1 he with he | he
      · exact other e (kk e (List.mem_append.2 (.inl he)))
      · rw [List.mem_singleton.1 he]
        refine .inr ⟨b, _, List.mem_cons_self, rfl, hcap, by rw [put_len hroom]; exact hc, hlab, fun i hi => ?_⟩
        simp only at hi
        refine same i rfl ?_
        by_cases h1 : i < g.len * 22
        · exact .inl (ha i h1)
        · exact .inr ⟨by omega, by omega⟩
  · refine ⟨(List.replicate g.len (mkM m)).flatMap mgC, hv.rd mgC_len, fun c hc => ?_⟩
    have hlen := flatMap_len mgC_len (List.replicate g.len (mkM m))
    rw [List.length_replicate] at hlen
    have O := O.drop
    have O2 := O.push ((List.replicate g.len (mkM m)).flatMap mgC ++ mgC (mkM m) ++ (Builtin.zeroCells z.cells (c - (g.len + 1))).toList) T (0, 0) (.inl rfl)
    have hzl : (Builtin.zeroCells z.cells (c - (g.len + 1))).toList.length = (c - (g.len + 1)) * 22 := by simp [Builtin.zeroCells, hz]
    have O3 := famM_new (len := g.len + 1) (cap := c) (m := m) O2 hc (by rw [List.length_append, List.length_append, hlen, hzl, mgC_lenM]; omega) (fun i hi => by
      rw [List.getElem?_append_left (by rw [List.length_append, hlen, mgC_lenM]; omega)]
      by_cases h1 : i < g.len * 22
      · rw [List.getElem?_append_left (by omega)]
        exact flat_rep _ _ h1
      · rw [List.getElem?_append_right (by omega), hlen]
        congr 1
        omega)
    refine k _ _ rfl (famM.sub O3 fun e he => ?_)
    rcases List.mem_append.1 he with he | he
    · exact List.mem_append.2 (.inl (List.mem_append.2 (.inl he)))
    · exact List.mem_append.2 (.inr he)
end Go.Proofs.YtigcpkejjjgkeaaGreat.V
/- Lists of bytes that carry marks, and grow: their blocks may be shared by lists of one mark. -/
namespace Go.Proofs.YtigcpkejjjgkeaaGreat.V
open Go Go.RowKit
set_option linter.unusedVariables false
set_option linter.unusedSimpArgs false
/-- Byte k of the mark of list n. -/
def atB (m k : Nat) : UInt8 := if k % 2 = 0 then UInt8.ofNat (1 + m % 251) else UInt8.ofNat (1 + (7 * m + m / 251) % 251)
def atC (m k : Nat) : Value := .int .u8 ((atB m k).toNat : Int)
def marksB (m n : Nat) : List UInt8 := (List.range n).map (atB m)
theorem marksB_len (m n : Nat) : (marksB m n).length = n := by simp [marksB]
theorem marksB_at {m n i : Nat} (h : i < n) : (marksB m n)[i]? = some (atB m i) := by simp [marksB, h]
abbrev BE := Sl × Nat
def inFam (lab : Nat → Nat) (E : Blks) (e : BE) : Prop := e.1 = ⟨none, 0, 0⟩ ∨ ∃ b cs, (b, .inl cs) ∈ E ∧ e.1.ptr = some (pt b 0) ∧ e.1.len ≤ e.1.cap ∧ e.1.cap = cs.length ∧ lab b = e.2 ∧ ∀ i, i < e.1.len → cs[i]? = some (atC e.2 i)
def famR (es : List BE) : Res := fun E => ∃ lab : Nat → Nat, ∀ e ∈ es, inFam lab E e
theorem famR.sub {h0 h : Heap} {L : List Res} {es fs : List BE} (O : Sat h0 h (famR es :: L)) (s : ∀ e ∈ fs, e ∈ es) : Sat h0 h (famR fs :: L) :=
  O.mono fun E ⟨lab, k⟩ => ⟨lab, fun e he => k e (s e he)⟩
theorem famR.none {h0 h : Heap} {L : List Res} (O : Sat h0 h L) : Sat h0 h (famR [] :: L) := O.empI.mono fun E _ => ⟨fun _ => 0, fun e he => by cases he⟩
theorem fam_view {h0 h : Heap} {L : List Res} (O : Sat h0 h L) (i : Nat) {es : List BE} {e : BE} (hi : i < L.length) (hn : nth i L = famR es) (he : e ∈ es) : Bytes h e.1 (marksB e.2 e.1.len) := by
  obtain ⟨E1, E2, h1, O', _⟩ := O.at i hi
  rw [hn] at h1
  obtain ⟨lab, k⟩ := h1
  rcases k e he with h | ⟨b, cs, hm, hp, hl, hc, _, ha⟩
  · rw [h]; exact View.nil
  · have B := (O'.blk _ (List.mem_append.2 (.inl hm))).2
    refine ⟨(marksB_len _ _).symm, fun j x hj => ?_⟩
    have hjl : j < e.1.len := by
      have := (List.getElem?_eq_some_iff.1 hj).1
      rwa [marksB_len] at this
    rw [marksB_at hjl] at hj
    cases hj
    refine ⟨pt b 0, u8 (atB e.2 j), hp, rfl, rfl, ?_⟩
    have hcell := ha j hjl
    have h2 := cellsAre_blk B j 1
    have e3 : (cs.drop j).take 1 = u8 (atB e.2 j) := by
      obtain ⟨hlt, e4⟩ := List.getElem?_eq_some_iff.1 hcell
      rw [List.drop_eq_getElem_cons hlt, e4]
      rfl
    rw [e3] at h2
    rw [pt_add, Nat.zero_add, Nat.mul_one]
    exact h2
theorem put_one : ∀ (cs : List Value) (o : Nat) (v : Value), V.put cs o [v] = cs.set o v
  | [], 0, v => by simp [V.put]
  | c :: cs, 0, v => by simp [V.put, put_nil]
  | [], o + 1, v => by simp [V.put]
  | c :: cs, o + 1, v => by simp [V.put, put_one cs o v]
theorem atC_one (m k : Nat) : oneV (atC m k) = true := rfl
/-- A new block becomes one of the lists. -/
theorem fam_new {h0 h : Heap} {L : List Res} {es : List BE} {b len m : Nat} {cs : List Value} (O : Sat h0 h (own b cs :: famR es :: L)) (hl : len ≤ cs.length) (ha : ∀ i, i < len → cs[i]? = some (atC m i)) : Sat h0 h (famR (es ++ [(⟨some (pt b 0), len, cs.length⟩, m)]) :: L) := by
  obtain ⟨E, ⟨E1, E2, p, hA, F1, F2, p2, ⟨lab, k⟩, h2⟩, O'⟩ := O
  have hA : E1 = [(b, .inl cs)] := hA
  subst hA
  have pp : E.Perm (((b, .inl cs) :: F1) ++ F2) := p.trans (List.Perm.cons _ p2)
  have OO := O'.perm pp.symm
  have hd := OO.dis
  rw [List.cons_append, List.map_cons, List.nodup_cons] at hd
  refine ⟨E, ⟨(b, .inl cs) :: F1, F2, pp, ⟨fun x => if x = b then m else lab x, fun e he => ?_⟩, h2⟩, O'⟩
  rcases List.mem_append.1 he with he | he
  · rcases k e he with h | ⟨b', cs', hm, hp, hl', hc, hlab, ha'⟩
    · exact .inl h
    · refine .inr ⟨b', cs', List.mem_cons_of_mem _ hm, hp, hl', hc, ?_, ha'⟩
      have : b' ≠ b := by
        intro e
        subst e
        exact hd.1 (List.mem_map.2 ⟨_, List.mem_append.2 (.inl hm), rfl⟩)
      simp only [if_neg this]
      exact hlab
  · rw [List.mem_singleton.1 he]
    exact .inr ⟨b, cs, List.mem_cons_self, rfl, hl, rfl, by simp, ha⟩
theorem Sat.buf_own' {α : Type} {h0 h : Heap} {L : List Res} {sz : Nat} {enc : α → List Value} {s : Sl} {xs : List α} (O : Sat h0 h (buf sz enc s xs :: L)) (hne : xs ≠ []) : ∃ b k sp, s = ⟨some (pt b 0), xs.length, xs.length + k⟩ ∧ sp.length = k * sz ∧ Sat h0 h (own b (xs.flatMap enc ++ sp) :: L) := by
  obtain ⟨sp, O1⟩ := O.ex
  obtain ⟨E, ⟨E1, E2, p, hA, h2⟩, O2⟩ := O1
  rcases hA with ⟨rfl, rfl, _, _⟩ | ⟨b, j, rfl, hsp, rfl⟩
  · exact absurd rfl hne
  · exact ⟨b, j, sp, rfl, hsp, E, ⟨[(b, _)], E2, p, rfl, h2⟩, O2⟩
/-- A list of one's own that carries its mark becomes one of the lists. -/
theorem fam_take {h0 h : Heap} {L : List Res} {es : List BE} {s : Sl} {m : Nat} (O : Sat h0 h (buf 1 u8 s (marksB m s.len) :: famR es :: L)) : Sat h0 h (famR (es ++ [(s, m)]) :: L) := by
  by_cases hz : marksB m s.len = []
  · obtain ⟨sp, O⟩ := O.ex
    obtain ⟨E, ⟨E1, E2, p, hA, h2⟩, O'⟩ := O
    rcases hA with ⟨rfl, _, _, rfl⟩ | ⟨b, j, hs, hsp, rfl⟩
    · obtain ⟨F1, F2, p2, ⟨lab, k⟩, h2⟩ := h2
      refine ⟨E, ⟨F1, F2, p.trans p2, ⟨lab, fun e he => ?_⟩, h2⟩, O'⟩
      rcases List.mem_append.1 he with he | he
      · exact k e he
      · rw [List.mem_singleton.1 he]; exact .inl rfl
    · have O2 : Sat h0 h (own b ((marksB m s.len).flatMap u8 ++ sp) :: famR es :: L) := ⟨E, ⟨[(b, _)], E2, p, rfl, h2⟩, O'⟩
      have hl : s.len = 0 := by
        have := congrArg List.length hz
        rwa [marksB_len] at this
      have := fam_new (len := 0) (m := m) O2 (by omega) (fun i hi => by omega)
      have e : s = ⟨some (pt b 0), 0, ((marksB m s.len).flatMap u8 ++ sp).length⟩ := by
        rw [hz, List.flatMap_nil, List.nil_append, hsp]
        rw [hz] at hs
        rw [hs]
        simp
      rw [← e] at this
      exact this
  · obtain ⟨b, j, sp, hs, hsp, O⟩ := O.buf_own' hz
    have hlen := flatMap_len u8_len (marksB m s.len)
    rw [marksB_len] at hlen hs
    have := fam_new (len := s.len) (m := m) O (by rw [List.length_append]; omega) (fun i hi => by
      rw [List.getElem?_append_left (by omega)]
      have key : ∀ (l : List UInt8) (i : Nat), (l.flatMap u8)[i]? = (l[i]?).map fun x => Value.int .u8 (x.toNat : Int) := by
        intro l
        induction l with
        | nil => intro i; simp
        | cons x l ih =>
          intro i
          rw [List.flatMap_cons]
          cases i with
          | zero => rfl
          | succ i => exact ih i
      rw [key, marksB_at hi]
      rfl)
    have e : s = ⟨some (pt b 0), s.len, ((marksB m s.len).flatMap u8 ++ sp).length⟩ := by
      rw [List.length_append, hlen, hsp, Nat.mul_one, Nat.mul_one]
      exact hs
    rw [← e] at this
    exact this
/-- One byte of its mark is appended to a list. -/
theorem fam_app {h0 h : Heap} {L : List Res} {es : List BE} {a T m : Nat} {g : Sl} {K : Sl → Heap → Prop} (hl : g.len ≤ 1099511627776) (O : Sat h0 h (own a [atC m g.len] :: famR (es ++ [(g, m)]) :: L)) (k : ∀ g' h', g'.len = g.len + 1 → Sat h0 h' (famR (es ++ [(g', m)]) :: L) → K g' h') : V.app T 1 1 (.int .u8 0) g (some (pt a 0)) 1 h K := by
  have hv := fam_view O 1 (by simp) rfl (List.mem_append.2 (.inr (List.mem_singleton.2 rfl)))
  have hmem : (g, m) ∈ es ++ [(g, m)] := List.mem_append.2 (.inr (List.mem_singleton.2 rfl))
  refine ⟨[atC m g.len], rdP_own O 0 rfl 1 (by simp), fun hcap => ?_, fun hcap => ⟨growslice_fits (by exact hcap) (by simp only [Nat.mul_one]; omega), ?_⟩⟩
  · have O := O.drop
    obtain ⟨E, ⟨E1, E2, p, ⟨lab, kk⟩, h2⟩, O'⟩ := O
    rcases kk (g, m) hmem with hn | ⟨b, cs, hm, hp, hle, hc, hlab, ha⟩
    · simp only at hn
      rw [hn] at hcap
      simp at hcap
    · simp only at hp hle hc hlab ha
      obtain ⟨A, B, rfl⟩ := List.append_of_mem hm
      have pE : E.Perm ((b, .inl cs) :: (A ++ B ++ E2)) := by
        refine p.trans ?_
        rw [List.append_assoc, List.cons_append, List.append_assoc]
        exact List.perm_middle
      have O1 := O'.perm pE.symm
      have hd := O1.dis
      rw [List.map_cons, List.nodup_cons] at hd
      rw [hp]
      simp only [Option.map_some, stP, pt_add, Nat.zero_add, Nat.mul_one]
      refine Held.st O1 (by simp only [List.length_singleton]; omega) rfl fun h' O2 => ?_
      have eput : V.put cs g.len [atC m g.len] = cs.set g.len (atC m g.len) := put_one _ _ _
      rw [eput] at O2
      refine k ⟨some (pt b 0), g.len + 1, g.cap⟩ h' rfl ⟨_, ⟨(b, .inl (cs.set g.len (atC m g.len))) :: (A ++ B), E2, List.Perm.refl _, ⟨lab, fun e he => ?_⟩, h2⟩, O2⟩
      have other : ∀ e : BE, inFam lab (A ++ (b, .inl cs) :: B) e → inFam lab ((b, .inl (cs.set g.len (atC m g.len))) :: (A ++ B)) e := by
        intro e ie
        rcases ie with h | ⟨b', cs', hm', hp', hl', hc', hlab', ha'⟩
        · exact .inl h
        · by_cases hb : b' = b
          · subst hb
            have ecs : cs' = cs := by
              rcases List.mem_append.1 hm' with x | x
              · exact absurd (List.mem_map.2 ⟨_, List.mem_append.2 (.inl (List.mem_append.2 (.inl x))), rfl⟩) hd.1
              · rcases List.mem_cons.1 x with x | x
                · exact Sum.inl.inj (Prod.mk.inj x).2
                · exact absurd (List.mem_map.2 ⟨_, List.mem_append.2 (.inl (List.mem_append.2 (.inr x))), rfl⟩) hd.1
            subst ecs
            refine .inr ⟨b', _, List.mem_cons_self, hp', hl', by rw [List.length_set]; exact hc', hlab', fun i hi => ?_⟩
            rw [List.getElem?_set]
            by_cases e2 : g.len = i
            · subst e2
              rw [if_pos rfl, if_pos (by omega), ← hlab', hlab]
            · rw [if_neg e2]
              exact ha' i hi
          · refine .inr ⟨b', cs', ?_, hp', hl', hc', hlab', ha'⟩
            rcases List.mem_append.1 hm' with x | x
            · exact List.mem_cons_of_mem _ (List.mem_append.2 (.inl x))
            · rcases List.mem_cons.1 x with x | x
              · exact absurd (Prod.mk.inj x).1 hb
              · exact List.mem_cons_of_mem _ (List.mem_append.2 (.inr x))
      rcases List.mem_append.1 he with he | he
      · exact other e (kk e (List.mem_append.2 (.inl he)))
      · rw [List.mem_singleton.1 he]
        refine .inr ⟨b, _, List.mem_cons_self, rfl, hcap, by rw [List.length_set]; exact hc, hlab, fun i hi => ?_⟩
        simp only at hi
        rw [List.getElem?_set]
        by_cases e2 : g.len = i
        · subst e2
          rw [if_pos rfl, if_pos (by omega)]
        · rw [if_neg e2]
          exact ha i (by omega)
  · refine ⟨(marksB m g.len).flatMap u8, ?_, fun c hc => ?_⟩
    · have := hv.rd u8_len
      exact this
    · have hlen := flatMap_len u8_len (marksB m g.len)
      rw [marksB_len] at hlen
      have O := O.drop
      have O2 := O.push ((marksB m g.len).flatMap u8 ++ [atC m g.len] ++ (Builtin.zeroCells (Value.int .u8 0).cells (c - (g.len + 1))).toList) T (0, 0) (.inl rfl)
      have hzl : (Builtin.zeroCells (Value.int .u8 0).cells (c - (g.len + 1))).toList.length = c - (g.len + 1) := by simp [Builtin.zeroCells, Value.cells]
      have htot : ((marksB m g.len).flatMap u8 ++ [atC m g.len] ++ (Builtin.zeroCells (Value.int .u8 0).cells (c - (g.len + 1))).toList).length = c := by
        rw [List.length_append, List.length_append, hlen, hzl, List.length_singleton]; omega
      have key : ∀ (l : List UInt8) (i : Nat), (l.flatMap u8)[i]? = (l[i]?).map fun x => Value.int .u8 (x.toNat : Int) := by
        intro l
        induction l with
        | nil => intro i; simp
        | cons x l ih =>
          intro i
          rw [List.flatMap_cons]
          cases i with
          | zero => rfl
          | succ i => exact ih i
      have O3 := fam_new (len := g.len + 1) (m := m) O2 (by omega) (fun i hi => by
        rw [List.getElem?_append_left (by rw [List.length_append, hlen, List.length_singleton]; omega)]
        by_cases e2 : i = g.len
        · subst e2
          rw [List.getElem?_append_right (by omega), hlen]
          simp
        · rw [List.getElem?_append_left (by omega), key, marksB_at (by omega)]
          rfl)
      rw [htot] at O3
      refine k _ _ rfl (famR.sub O3 fun e he => ?_)
      rcases List.mem_append.1 he with he | he
      · exact List.mem_append.2 (.inl (List.mem_append.2 (.inl he)))
      · exact List.mem_append.2 (.inr he)
end Go.Proofs.YtigcpkejjjgkeaaGreat.V
/- The Book whose lists are of bytes and of messages: all other kinds; its lists of bytes. (Printed from MBook1, MBook2.) -/
namespace Go.Proofs.YtigcpkejjjgkeaaGreat.V
open Go Go.RowKit
set_option linter.unusedVariables false
set_option linter.unusedSimpArgs false
theorem wl_now1 {i : Nat} {k : Kd} {B : (k.T → Heap → Prop) → k.T → Heap → Prop} {x : k.T} {h : Heap} (hb : ∀ next, B next x h) : wl [(i, .one k)] B x h :=
  wl1 (fun _ x' h' => x' = x ∧ h' = h) (fun m x' h' next _ ⟨e1, e2⟩ => by subst e1 e2; exact hb next) (m := 0) ⟨rfl, rfl⟩
def bkM (s0 s1 : Sl) (n : Int) (m0 m1 : Sl) (mn t d u : Int) : List Value := [.slice s0.ptr s0.len s0.cap, .slice s1.ptr s1.len s1.cap, .int .i64 n, .slice none 0 0, .slice none 0 0, .int .i64 0, .slice none 0 0, .slice none 0 0, .int .i64 0, .slice none 0 0, .slice none 0 0, .int .i64 0, .slice none 0 0, .slice none 0 0, .int .i64 0, .slice none 0 0, .slice none 0 0, .int .i64 0, .slice none 0 0, .slice none 0 0, .int .i64 0, .slice none 0 0, .slice none 0 0, .int .i64 0, .slice none 0 0, .slice none 0 0, .int .i64 0, .slice m0.ptr m0.len m0.cap, .slice m1.ptr m1.len m1.cap, .int .i64 mn, .slice none 0 0, .slice none 0 0, .int .i64 0, .slice none 0 0, .slice none 0 0, .int .i64 0, .int .i64 t, .int .i64 d, .int .i64 u]
section
variable {h0 h : Heap} {L : List Res} {bk : Nat} {s0 s1 y0 y1 : Sl} {n yn t d u : Int}
theorem F_law1_Book_kept.is {Q : Bool → Heap → Prop} (O : Sat h0 h (own bk (bkM s0 s1 n y0 y1 yn t d u) :: L)) (k : Q true h) : F_law1_Book_kept (some (pt bk 0)) h Q := by
  rw [F_law1_Book_kept.eq_1, F_law1_Book_kept_of.eq_1]
  unfold bkM at O
  refine jn_go ?_
  rw [F_law1_Book_kept.l2.eq_1]
  refine wl_now1 fun next => ?_
  simp only [nn_some, pt_add, Nat.zero_add, Nat.add_zero, Nat.reduceAdd, Nat.reduceMul, Int.toNat_zero, Int.toNat_one, Nat.zero_mul, Nat.one_mul]
  refine O.ld 0 rfl (ldL_c (k := .sl) (x := (⟨none, 0, 0⟩ : Sl)) (ldL_n ?_))
  refine brr_ff (by decide) ?_
  refine jn_go ?_
  rw [F_law1_Book_kept.l4.eq_1]
  refine wl_now1 fun next => ?_
  simp only [nn_some, pt_add, Nat.zero_add, Nat.add_zero, Nat.reduceAdd, Nat.reduceMul, Int.toNat_zero, Int.toNat_one, Nat.zero_mul, Nat.one_mul]
  refine O.ld 0 rfl (ldL_c (k := .sl) (x := (⟨none, 0, 0⟩ : Sl)) (ldL_n ?_))
  refine brr_ff (by decide) ?_
  refine jn_go ?_
  rw [F_law1_Book_kept.l6.eq_1]
  refine wl_now1 fun next => ?_
  simp only [nn_some, pt_add, Nat.zero_add, Nat.add_zero, Nat.reduceAdd, Nat.reduceMul, Int.toNat_zero, Int.toNat_one, Nat.zero_mul, Nat.one_mul]
  refine O.ld 0 rfl (ldL_c (k := .sl) (x := (⟨none, 0, 0⟩ : Sl)) (ldL_n ?_))
  refine brr_ff (by decide) ?_
  refine jn_go ?_
  rw [F_law1_Book_kept.l8.eq_1]
  refine wl_now1 fun next => ?_
  simp only [nn_some, pt_add, Nat.zero_add, Nat.add_zero, Nat.reduceAdd, Nat.reduceMul, Int.toNat_zero, Int.toNat_one, Nat.zero_mul, Nat.one_mul]
  refine O.ld 0 rfl (ldL_c (k := .sl) (x := (⟨none, 0, 0⟩ : Sl)) (ldL_n ?_))
  refine brr_ff (by decide) ?_
  exact k
theorem F_law1_Book_held.is {Q : Bool → Heap → Prop} (O : Sat h0 h (own bk (bkM s0 s1 n y0 y1 yn t d u) :: L)) (k : Q true h) : F_law1_Book_held (some (pt bk 0)) h Q := by
  rw [F_law1_Book_held.eq_1, F_law1_Book_held_of.eq_1]
  unfold bkM at O
  refine jn_go ?_
  rw [F_law1_Book_held.l2.eq_1]
  refine wl_now1 fun next => ?_
  simp only [nn_some, pt_add, Nat.zero_add, Nat.add_zero, Nat.reduceAdd, Nat.reduceMul, Int.toNat_zero, Int.toNat_one, Nat.zero_mul, Nat.one_mul]
  refine O.ld 0 rfl (ldL_c (k := .sl) (x := (⟨none, 0, 0⟩ : Sl)) (ldL_n ?_))
  refine brr_ff (by decide) ?_
  refine jn_go ?_
  rw [F_law1_Book_held.l4.eq_1]
  refine wl_now1 fun next => ?_
  simp only [nn_some, pt_add, Nat.zero_add, Nat.add_zero, Nat.reduceAdd, Nat.reduceMul, Int.toNat_zero, Int.toNat_one, Nat.zero_mul, Nat.one_mul]
  refine O.ld 0 rfl (ldL_c (k := .sl) (x := (⟨none, 0, 0⟩ : Sl)) (ldL_n ?_))
  refine brr_ff (by decide) ?_
  exact k
theorem F_law1_Book_growRows.is {Q : Heap → Prop} (O : Sat h0 h (own bk (bkM s0 s1 n y0 y1 yn t d u) :: L)) (k : ∀ h', Sat h0 h' (own bk (bkM s0 s1 n y0 y1 yn t d u) :: L) → Q h') : F_law1_Book_growRows (some (pt bk 0)) h Q := by
  rw [F_law1_Book_growRows.eq_1, F_law1_Book_growRows_of.eq_1]
  unfold bkM at O k
  simp only [nn_some, pt_add, Nat.zero_add, Nat.add_zero, Nat.reduceAdd, Nat.reduceMul, Int.toNat_zero, Int.toNat_one, Nat.zero_mul, Nat.one_mul]
  refine O.ld 0 rfl (ldL_c (k := .sl) (x := (⟨none, 0, 0⟩ : Sl)) (ldL_n ?_))
  refine O.ld 0 rfl (ldL_c (ldL_n ?_))
  refine jn_go ?_
  rw [F_law1_Book_growRows.l2.eq_1]
  refine wl_now1 fun next => ?_
  refine brr_ff (by decide) ?_
  refine O.ld 0 rfl (ldL_c (k := .sl) (x := (⟨none, 0, 0⟩ : Sl)) (ldL_n ?_))
  refine O.st 0 rfl (by simp) rfl fun h O => ?_
  dsimp only [V.put, List.set] at O
  exact k h O
theorem F_law1_Book_growTexts.is {Q : Heap → Prop} (O : Sat h0 h (own bk (bkM s0 s1 n y0 y1 yn t d u) :: L)) (k : ∀ h', Sat h0 h' (own bk (bkM s0 s1 n y0 y1 yn t d u) :: L) → Q h') : F_law1_Book_growTexts (some (pt bk 0)) h Q := by
  rw [F_law1_Book_growTexts.eq_1, F_law1_Book_growTexts_of.eq_1]
  unfold bkM at O k
  simp only [nn_some, pt_add, Nat.zero_add, Nat.add_zero, Nat.reduceAdd, Nat.reduceMul, Int.toNat_zero, Int.toNat_one, Nat.zero_mul, Nat.one_mul]
  refine O.ld 0 rfl (ldL_c (k := .sl) (x := (⟨none, 0, 0⟩ : Sl)) (ldL_n ?_))
  refine O.ld 0 rfl (ldL_c (ldL_n ?_))
  refine jn_go ?_
  rw [F_law1_Book_growTexts.l2.eq_1]
  refine wl_now1 fun next => ?_
  refine brr_ff (by decide) ?_
  refine O.ld 0 rfl (ldL_c (k := .sl) (x := (⟨none, 0, 0⟩ : Sl)) (ldL_n ?_))
  refine O.st 0 rfl (by simp) rfl fun h O => ?_
  dsimp only [V.put, List.set] at O
  exact k h O
theorem F_law1_Book_growInts.is {Q : Heap → Prop} (O : Sat h0 h (own bk (bkM s0 s1 n y0 y1 yn t d u) :: L)) (k : ∀ h', Sat h0 h' (own bk (bkM s0 s1 n y0 y1 yn t d u) :: L) → Q h') : F_law1_Book_growInts (some (pt bk 0)) h Q := by
  rw [F_law1_Book_growInts.eq_1, F_law1_Book_growInts_of.eq_1]
  unfold bkM at O k
  simp only [nn_some, pt_add, Nat.zero_add, Nat.add_zero, Nat.reduceAdd, Nat.reduceMul, Int.toNat_zero, Int.toNat_one, Nat.zero_mul, Nat.one_mul]
  refine O.ld 0 rfl (ldL_c (k := .sl) (x := (⟨none, 0, 0⟩ : Sl)) (ldL_n ?_))
  refine O.ld 0 rfl (ldL_c (ldL_n ?_))
  refine jn_go ?_
  rw [F_law1_Book_growInts.l2.eq_1]
  refine wl_now1 fun next => ?_
  refine brr_ff (by decide) ?_
  refine O.ld 0 rfl (ldL_c (k := .sl) (x := (⟨none, 0, 0⟩ : Sl)) (ldL_n ?_))
  refine O.st 0 rfl (by simp) rfl fun h O => ?_
  dsimp only [V.put, List.set] at O
  exact k h O
theorem F_law1_Book_growWords.is {Q : Heap → Prop} (O : Sat h0 h (own bk (bkM s0 s1 n y0 y1 yn t d u) :: L)) (k : ∀ h', Sat h0 h' (own bk (bkM s0 s1 n y0 y1 yn t d u) :: L) → Q h') : F_law1_Book_growWords (some (pt bk 0)) h Q := by
  rw [F_law1_Book_growWords.eq_1, F_law1_Book_growWords_of.eq_1]
  unfold bkM at O k
  simp only [nn_some, pt_add, Nat.zero_add, Nat.add_zero, Nat.reduceAdd, Nat.reduceMul, Int.toNat_zero, Int.toNat_one, Nat.zero_mul, Nat.one_mul]
  refine O.ld 0 rfl (ldL_c (k := .sl) (x := (⟨none, 0, 0⟩ : Sl)) (ldL_n ?_))
  refine O.ld 0 rfl (ldL_c (ldL_n ?_))
  refine jn_go ?_
  rw [F_law1_Book_growWords.l2.eq_1]
  refine wl_now1 fun next => ?_
  refine brr_ff (by decide) ?_
  refine O.ld 0 rfl (ldL_c (k := .sl) (x := (⟨none, 0, 0⟩ : Sl)) (ldL_n ?_))
  refine O.st 0 rfl (by simp) rfl fun h O => ?_
  dsimp only [V.put, List.set] at O
  exact k h O
theorem F_law1_Book_growDones.is {Q : Heap → Prop} (O : Sat h0 h (own bk (bkM s0 s1 n y0 y1 yn t d u) :: L)) (k : ∀ h', Sat h0 h' (own bk (bkM s0 s1 n y0 y1 yn t d u) :: L) → Q h') : F_law1_Book_growDones (some (pt bk 0)) h Q := by
  rw [F_law1_Book_growDones.eq_1, F_law1_Book_growDones_of.eq_1]
  unfold bkM at O k
  simp only [nn_some, pt_add, Nat.zero_add, Nat.add_zero, Nat.reduceAdd, Nat.reduceMul, Int.toNat_zero, Int.toNat_one, Nat.zero_mul, Nat.one_mul]
  refine O.ld 0 rfl (ldL_c (k := .sl) (x := (⟨none, 0, 0⟩ : Sl)) (ldL_n ?_))
  refine O.ld 0 rfl (ldL_c (ldL_n ?_))
  refine jn_go ?_
  rw [F_law1_Book_growDones.l2.eq_1]
  refine wl_now1 fun next => ?_
  refine brr_ff (by decide) ?_
  refine O.ld 0 rfl (ldL_c (k := .sl) (x := (⟨none, 0, 0⟩ : Sl)) (ldL_n ?_))
  refine O.st 0 rfl (by simp) rfl fun h O => ?_
  dsimp only [V.put, List.set] at O
  exact k h O
theorem F_law1_Book_growAccts.is {Q : Heap → Prop} (O : Sat h0 h (own bk (bkM s0 s1 n y0 y1 yn t d u) :: L)) (k : ∀ h', Sat h0 h' (own bk (bkM s0 s1 n y0 y1 yn t d u) :: L) → Q h') : F_law1_Book_growAccts (some (pt bk 0)) h Q := by
  rw [F_law1_Book_growAccts.eq_1, F_law1_Book_growAccts_of.eq_1]
  unfold bkM at O k
  simp only [nn_some, pt_add, Nat.zero_add, Nat.add_zero, Nat.reduceAdd, Nat.reduceMul, Int.toNat_zero, Int.toNat_one, Nat.zero_mul, Nat.one_mul]
  refine O.ld 0 rfl (ldL_c (k := .sl) (x := (⟨none, 0, 0⟩ : Sl)) (ldL_n ?_))
  refine O.ld 0 rfl (ldL_c (ldL_n ?_))
  refine jn_go ?_
  rw [F_law1_Book_growAccts.l2.eq_1]
  refine wl_now1 fun next => ?_
  refine brr_ff (by decide) ?_
  refine O.ld 0 rfl (ldL_c (k := .sl) (x := (⟨none, 0, 0⟩ : Sl)) (ldL_n ?_))
  refine O.st 0 rfl (by simp) rfl fun h O => ?_
  dsimp only [V.put, List.set] at O
  exact k h O
theorem F_law1_Book_growQueue.is {Q : Heap → Prop} (O : Sat h0 h (own bk (bkM s0 s1 n y0 y1 yn t d u) :: L)) (k : ∀ h', Sat h0 h' (own bk (bkM s0 s1 n y0 y1 yn t d u) :: L) → Q h') : F_law1_Book_growQueue (some (pt bk 0)) h Q := by
  rw [F_law1_Book_growQueue.eq_1, F_law1_Book_growQueue_of.eq_1]
  unfold bkM at O k
  simp only [nn_some, pt_add, Nat.zero_add, Nat.add_zero, Nat.reduceAdd, Nat.reduceMul, Int.toNat_zero, Int.toNat_one, Nat.zero_mul, Nat.one_mul]
  refine O.ld 0 rfl (ldL_c (k := .sl) (x := (⟨none, 0, 0⟩ : Sl)) (ldL_n ?_))
  refine O.ld 0 rfl (ldL_c (ldL_n ?_))
  refine jn_go ?_
  rw [F_law1_Book_growQueue.l2.eq_1]
  refine wl_now1 fun next => ?_
  refine brr_ff (by decide) ?_
  refine O.ld 0 rfl (ldL_c (k := .sl) (x := (⟨none, 0, 0⟩ : Sl)) (ldL_n ?_))
  refine O.st 0 rfl (by simp) rfl fun h O => ?_
  dsimp only [V.put, List.set] at O
  exact k h O
theorem F_law1_Book_growSlots.is {Q : Heap → Prop} (O : Sat h0 h (own bk (bkM s0 s1 n y0 y1 yn t d u) :: L)) (k : ∀ h', Sat h0 h' (own bk (bkM s0 s1 n y0 y1 yn t d u) :: L) → Q h') : F_law1_Book_growSlots (some (pt bk 0)) h Q := by
  rw [F_law1_Book_growSlots.eq_1, F_law1_Book_growSlots_of.eq_1]
  unfold bkM at O k
  simp only [nn_some, pt_add, Nat.zero_add, Nat.add_zero, Nat.reduceAdd, Nat.reduceMul, Int.toNat_zero, Int.toNat_one, Nat.zero_mul, Nat.one_mul]
  refine O.ld 0 rfl (ldL_c (k := .sl) (x := (⟨none, 0, 0⟩ : Sl)) (ldL_n ?_))
  refine O.ld 0 rfl (ldL_c (ldL_n ?_))
  refine jn_go ?_
  rw [F_law1_Book_growSlots.l2.eq_1]
  refine wl_now1 fun next => ?_
  refine brr_ff (by decide) ?_
  refine O.ld 0 rfl (ldL_c (k := .sl) (x := (⟨none, 0, 0⟩ : Sl)) (ldL_n ?_))
  refine O.st 0 rfl (by simp) rfl fun h O => ?_
  dsimp only [V.put, List.set] at O
  exact k h O
theorem F_law1_Book_growFlights.is {Q : Heap → Prop} (O : Sat h0 h (own bk (bkM s0 s1 n y0 y1 yn t d u) :: L)) (k : ∀ h', Sat h0 h' (own bk (bkM s0 s1 n y0 y1 yn t d u) :: L) → Q h') : F_law1_Book_growFlights (some (pt bk 0)) h Q := by
  rw [F_law1_Book_growFlights.eq_1, F_law1_Book_growFlights_of.eq_1]
  unfold bkM at O k
  simp only [nn_some, pt_add, Nat.zero_add, Nat.add_zero, Nat.reduceAdd, Nat.reduceMul, Int.toNat_zero, Int.toNat_one, Nat.zero_mul, Nat.one_mul]
  refine O.ld 0 rfl (ldL_c (k := .sl) (x := (⟨none, 0, 0⟩ : Sl)) (ldL_n ?_))
  refine O.ld 0 rfl (ldL_c (ldL_n ?_))
  refine jn_go ?_
  rw [F_law1_Book_growFlights.l2.eq_1]
  refine wl_now1 fun next => ?_
  refine brr_ff (by decide) ?_
  refine O.ld 0 rfl (ldL_c (k := .sl) (x := (⟨none, 0, 0⟩ : Sl)) (ldL_n ?_))
  refine O.st 0 rfl (by simp) rfl fun h O => ?_
  dsimp only [V.put, List.set] at O
  exact k h O
theorem F_law1_Book_growFiles.is {Q : Heap → Prop} (O : Sat h0 h (own bk (bkM s0 s1 n y0 y1 yn t d u) :: L)) (k : ∀ h', Sat h0 h' (own bk (bkM s0 s1 n y0 y1 yn t d u) :: L) → Q h') : F_law1_Book_growFiles (some (pt bk 0)) h Q := by
  rw [F_law1_Book_growFiles.eq_1, F_law1_Book_growFiles_of.eq_1]
  unfold bkM at O k
  simp only [nn_some, pt_add, Nat.zero_add, Nat.add_zero, Nat.reduceAdd, Nat.reduceMul, Int.toNat_zero, Int.toNat_one, Nat.zero_mul, Nat.one_mul]
  refine O.ld 0 rfl (ldL_c (k := .sl) (x := (⟨none, 0, 0⟩ : Sl)) (ldL_n ?_))
  refine O.ld 0 rfl (ldL_c (ldL_n ?_))
  refine jn_go ?_
  rw [F_law1_Book_growFiles.l2.eq_1]
  refine wl_now1 fun next => ?_
  refine brr_ff (by decide) ?_
  refine O.ld 0 rfl (ldL_c (k := .sl) (x := (⟨none, 0, 0⟩ : Sl)) (ldL_n ?_))
  refine O.st 0 rfl (by simp) rfl fun h O => ?_
  dsimp only [V.put, List.set] at O
  exact k h O
end
theorem wrap8K (n : Nat) : IntKind.u8.wrap (n : Int) = ((UInt8.ofNat n).toNat : Int) := by
  unfold IntKind.wrap
  simp [IntKind.bits, IntKind.signed]
theorem F_law1_at.is {h : Heap} {m k : Nat} {Q : Int → Heap → Prop} (hm : m ≤ 1099511627776) (hq : Q ((atB m k).toNat : Int) h) : F_law1_at m k h Q := by
  rw [F_law1_at.eq_1, F_law1_at_of.eq_1]
  have e2 : ((k : Int)).tmod 2 = ((k % 2 : Nat) : Int) := by rw [Int.tmod_eq_emod_of_nonneg (by omega)]; omega
  have e3 : ((m : Int)).tmod 251 = ((m % 251 : Nat) : Int) := by rw [Int.tmod_eq_emod_of_nonneg (by omega)]; omega
  have e4 : ((m : Int)).tdiv 251 = ((m / 251 : Nat) : Int) := by rw [Int.tdiv_eq_ediv_of_nonneg (by omega)]; omega
  unfold atB at hq
  refine ⟨by decide, ?_⟩
  rw [e2, e3, e4]
  refine brr_eq (fun e => ?_) (fun e => ?_)
  · rw [if_pos (by omega)] at hq
    refine ⟨by decide, ?_⟩
    rw [wrap64 (by omega) (by omega), show (1 + ((m % 251 : Nat) : Int)) = ((1 + m % 251 : Nat) : Int) by omega, wrap8K]
    exact hq
  · rw [if_neg (by omega)] at hq
    refine ⟨by decide, by decide, ?_⟩
    rw [wrap64 (x := 7 * (m : Int)) (by omega) (by omega), wrap64 (x := ((m / 251 : Nat) : Int)) (by omega) (by omega), wrap64 (x := 7 * (m : Int) + ((m / 251 : Nat) : Int)) (by omega) (by omega)]
    have e5 : (7 * (m : Int) + ((m / 251 : Nat) : Int)).tmod 251 = (((7 * m + m / 251) % 251 : Nat) : Int) := by rw [Int.tmod_eq_emod_of_nonneg (by omega)]; omega
    rw [e5, wrap64 (by omega) (by omega), show (1 + (((7 * m + m / 251) % 251 : Nat) : Int)) = ((1 + (7 * m + m / 251) % 251 : Nat) : Int) by omega, wrap8K]
    exact hq
section
variable {h0 h : Heap} {L : List Res} {bk : Nat} {s0 s1 y0 y1 : Sl} {n yn t d u : Int} {es : List BE}
theorem F_law1_Book_plain.is {Q : Bool → Heap → Prop} (hb : ∀ e ∈ es, e.1.len ≤ 1099511627776 ∧ e.2 ≤ 1099511627776) (hn : es.length ≤ 1099511627776) (O : Sat h0 h (own bk (bkM s0 s1 n y0 y1 yn t d u) :: buf 1 slc s0 (es.map (·.1)) :: buf 1 natc s1 (es.map (·.2)) :: famR es :: L)) (k : Q true h) : F_law1_Book_plain (some (pt bk 0)) h Q := by
  rw [F_law1_Book_plain.eq_1, F_law1_Book_plain_of.eq_1]
  have v0 := (O.view 1 slc_len (by simp) rfl).1
  have v1 := (O.view 2 natc_len (by simp) rfl).1
  have O1 := O
  unfold bkM at O
  refine jn0 (fun h' => h' = h) ?_ ?_
  · rintro h rfl
    refine jn_go ?_
    rw [F_law1_Book_plain.l4.eq_1]
    refine wl_now1 fun next => ?_
    simp only [nn_some, pt_add, Nat.zero_add, Nat.add_zero, Nat.reduceAdd, Nat.reduceMul, Int.toNat_zero, Int.toNat_one, Nat.zero_mul, Nat.one_mul]
    refine O.ld 0 rfl (ldL_c (k := .sl) (x := (⟨none, 0, 0⟩ : Sl)) (ldL_n ?_))
    refine brr_ff (by decide) ?_
    exact k
  intro j hj
  rw [F_law1_Book_plain.l2.eq_1]
  simp only [nn_some, pt_add, Nat.zero_add, Nat.add_zero, Nat.reduceAdd, Nat.reduceMul, Int.toNat_zero, Int.toNat_one, Nat.zero_mul, Nat.one_mul]
  refine wl1 (k := .int .i64) (fun (m : Nat) (i : Int) (h' : Heap) => 0 ≤ i ∧ i + m = es.length ∧ h' = h) ?_ (m := es.length) ⟨by omega, by omega, rfl⟩
  rintro m (i : Int) h2 next hnx ⟨hi0, him, rfl⟩
  refine O.ld 0 rfl (ldL_c (k := .sl) (x := s0) (ldL_n ?_))
  rw [v0.len, List.length_map]
  refine brr_p (fun hlt => ?_) (fun hlt => hj _ rfl)
  have hil : i.toNat < es.length := by omega
  obtain ⟨e, he⟩ : ∃ e, es[i.toNat]? = some e := ⟨_, List.getElem?_eq_getElem hil⟩
  have hem := List.mem_of_getElem? he
  have hbe := hb e hem
  have ve := fam_view O1 3 (by simp) rfl hem
  have q0 : (es.map (·.1))[i.toNat]? = some e.1 := by rw [List.getElem?_map, he]; rfl
  have q1 : (es.map (·.2))[i.toNat]? = some e.2 := by rw [List.getElem?_map, he]; rfl
  refine jn_go ?_
  refine jn_go ?_
  rw [F_law1_Book_plain.l1.eq_1]
  simp only [nn_some, pt_add, Nat.zero_add, Nat.add_zero, Nat.reduceAdd, Nat.reduceMul, Int.toNat_zero, Int.toNat_one, Nat.zero_mul, Nat.one_mul]
  refine wl1 (k := .int .i64) (fun (m' : Nat) (i' : Int) (h' : Heap) => 0 ≤ i' ∧ i' + m' = e.1.len ∧ h' = h2) ?_ (m := e.1.len) ⟨by omega, by omega, rfl⟩
  rintro m' (i' : Int) h3 next' hnx' ⟨hi0', him', rfl⟩
  refine O.ld 0 rfl (ldL_c (k := .sl) (x := s0) (ldL_n ?_))
  refine v0.getP hi0 q0 fun a hca => ?_
  refine ld_are (hca v0) (ldL_c (k := .sl) (x := e.1) (ldL_n ?_))
  refine brr_p (fun hlt' => ?_) (fun hlt' => ?_)
  · refine O.ld 0 rfl (ldL_c (k := .sl) (x := s0) (ldL_n ?_))
    refine v0.getP hi0 q0 fun a hca => ?_
    refine ld_are (hca v0) (ldL_c (k := .sl) (x := e.1) (ldL_n ?_))
    have hlt2 : i' < (e.1.len : Int) := hlt'
    refine ve.getP (x := atB e.2 i'.toNat) hi0' (marksB_at (by omega)) fun b hcb => ?_
    refine ld_are (hcb ve) (ldL_c (k := .int .u8) (x := ((atB e.2 i'.toNat).toNat : Int)) (ldL_n ?_))
    refine O.ld 0 rfl (ldL_c (k := .sl) (x := s1) (ldL_n ?_))
    refine v1.getP hi0 q1 fun c hcc => ?_
    refine ld_are (hcc v1) (ldL_c (ldL_n ?_))
    obtain ⟨kN, rfl⟩ := Int.eq_ofNat_of_zero_le hi0'
    refine F_law1_at.is hbe.2 ?_
    refine ⟨O.cells 0 rfl 0 1, hca v0, hcb ve, ?_⟩
    refine brr_ne (fun e => absurd rfl e) (fun _ => ?_)
    rw [wrap64 (by omega) (by omega)]
    exact hnx' (m' - 1) _ _ (by omega) ⟨by omega, by omega, rfl⟩
  · rw [wrap64 (by omega) (by omega)]
    exact hnx (m - 1) _ _ (by omega) ⟨by omega, by omega, rfl⟩
theorem F_law1_Book_growBytes.is {nN T : Nat} {Q : Heap → Prop} (hb : ∀ (i : Nat) e, es[i]? = some e → e.1.len ≤ (if i < nN then 5600096 else 5600000) ∧ e.2 ≤ T) (hT : T ≤ 1099511627776) (hn : nN ≤ es.length) (hes : es.length ≤ 1000000)
    (O : Sat h0 h (own bk (bkM s0 s1 nN y0 y1 yn t d u) :: buf 1 slc s0 (es.map (·.1)) :: buf 1 natc s1 (es.map (·.2)) :: famR es :: L))
    (k : ∀ s0 s1 (fs : List BE) h', fs.length ≤ es.length + 9 * (es.length - nN) → (∀ e ∈ fs, e.1.len ≤ 5600096 ∧ e.2 ≤ T) → Sat h0 h' (own bk (bkM s0 s1 fs.length y0 y1 yn t d u) :: buf 1 slc s0 (fs.map (·.1)) :: buf 1 natc s1 (fs.map (·.2)) :: famR fs :: L) → Q h') : F_law1_Book_growBytes (some (pt bk 0)) h Q := by
  rw [F_law1_Book_growBytes.eq_1, F_law1_Book_growBytes_of.eq_1]
  have v0 := (O.view 1 slc_len (by simp) rfl).1
  have hs0 := v0.len
  rw [List.length_map] at hs0
  have ld0 : ∀ {h : Heap} {M : List Res} {s0 s1 : Sl} {n : Int} {K : Sl → Prop}, Sat h0 h (own bk (bkM s0 s1 n y0 y1 yn t d u) :: M) → K s0 → ld [.sl] (pt bk 0) h K := fun O k => O.ld 0 rfl (ldL_c (k := .sl) (ldL_n k))
  have ld1 : ∀ {h : Heap} {M : List Res} {s0 s1 : Sl} {n : Int} {K : Sl → Prop}, Sat h0 h (own bk (bkM s0 s1 n y0 y1 yn t d u) :: M) → K s1 → ld [.sl] (pt bk 1) h K := fun O k => O.ld 0 rfl (ldL_c (k := .sl) (ldL_n k))
  have ld2 : ∀ {h : Heap} {M : List Res} {s0 s1 : Sl} {n : Int} {K : Int → Prop}, Sat h0 h (own bk (bkM s0 s1 n y0 y1 yn t d u) :: M) → K n → ld [.int .i64] (pt bk 2) h K := fun O k => O.ld 0 rfl (ldL_c (ldL_n k))
  have st0 : ∀ {h : Heap} {M : List Res} {s0 s1 s : Sl} {n : Int} {K : Heap → Prop}, Sat h0 h (own bk (bkM s0 s1 n y0 y1 yn t d u) :: M) → (∀ h', Sat h0 h' (own bk (bkM s s1 n y0 y1 yn t d u) :: M) → K h') → st (pt bk 0) [.slice s.ptr s.len s.cap] h K := by
    intro h M s0 s1 s n K O k
    unfold bkM at O
    refine O.st 0 rfl (by simp) rfl fun h O => ?_
    dsimp only [V.put, List.set] at O
    exact k h O
  have st1 : ∀ {h : Heap} {M : List Res} {s0 s1 s : Sl} {n : Int} {K : Heap → Prop}, Sat h0 h (own bk (bkM s0 s1 n y0 y1 yn t d u) :: M) → (∀ h', Sat h0 h' (own bk (bkM s0 s n y0 y1 yn t d u) :: M) → K h') → st (pt bk 1) [.slice s.ptr s.len s.cap] h K := by
    intro h M s0 s1 s n K O k
    unfold bkM at O
    refine O.st 0 rfl (by simp) rfl fun h O => ?_
    dsimp only [V.put, List.set] at O
    exact k h O
  have st2 : ∀ {h : Heap} {M : List Res} {s0 s1 : Sl} {n n' : Int} {K : Heap → Prop}, Sat h0 h (own bk (bkM s0 s1 n y0 y1 yn t d u) :: M) → (∀ h', Sat h0 h' (own bk (bkM s0 s1 n' y0 y1 yn t d u) :: M) → K h') → st (pt bk 2) [.int .i64 n'] h K := by
    intro h M s0 s1 n n' K O k
    unfold bkM at O
    refine O.st 0 rfl (by simp) rfl fun h O => ?_
    dsimp only [V.put, List.set] at O
    exact k h O
  simp only [nn_some, pt_add, Nat.zero_add, Nat.add_zero, Nat.reduceAdd, Nat.reduceMul, Int.toNat_zero, Int.toNat_one, Nat.zero_mul, Nat.one_mul]
  refine ld0 O ?_
  refine ld2 O ?_
  refine jn0 (fun h' => ∃ (s0 s1 : Sl) (X : List BE), X.length ≤ 9 * (es.length - nN) ∧ (∀ e ∈ X, e.1.len ≤ 5600096 ∧ e.2 ≤ T) ∧ Sat h0 h' (own bk (bkM s0 s1 nN y0 y1 yn t d u) :: buf 1 slc s0 ((es ++ X).map (·.1)) :: buf 1 natc s1 ((es ++ X).map (·.2)) :: famR (es ++ X) :: L)) ?_ ?_
  · clear O v0
    rintro h ⟨s0, s1, X, hX, hXb, O⟩
    refine ld0 O ?_
    have hl := (O.view 1 slc_len (by simp) rfl).1.len
    rw [List.length_map] at hl
    rw [hl]
    refine st2 O fun h O => ?_
    refine k s0 s1 (es ++ X) h (by rw [List.length_append]; omega) (fun e he => ?_) O
    rcases List.mem_append.1 he with he | he
    · obtain ⟨i, hi⟩ := List.getElem?_of_mem he
      have := hb i e hi
      refine ⟨?_, this.2⟩
      have h2 := this.1
      split at h2 <;> omega
    · exact hXb e he
  intro j6 hj6
  rw [F_law1_Book_growBytes.l2.eq_1, hs0]
  simp only [nn_some, pt_add, Nat.zero_add, Nat.add_zero, Nat.reduceAdd, Nat.reduceMul, Int.toNat_zero, Int.toNat_one, Nat.zero_mul, Nat.one_mul]
  refine wl1 (k := .int .i64) (fun (m : Nat) (kk : Int) (h' : Heap) => (nN : Int) ≤ kk ∧ kk + m = es.length ∧ ∃ (s0 s1 : Sl) (X : List BE), (X.length : Int) ≤ 9 * (kk - nN) ∧ (∀ e ∈ X, e.1.len ≤ 5600096 ∧ e.2 ≤ T) ∧ Sat h0 h' (own bk (bkM s0 s1 nN y0 y1 yn t d u) :: buf 1 slc s0 ((es ++ X).map (·.1)) :: buf 1 natc s1 ((es ++ X).map (·.2)) :: famR (es ++ X) :: L)) ?_ (m := es.length - nN) ⟨by omega, by omega, s0, s1, [], by simp, by simp, by rw [List.append_nil]; exact O⟩
  clear O v0 hs0
  rintro m (kk : Int) h next hnx ⟨hk0, hkm, s0, s1, X, hX, hXb, O⟩
  refine brr_p (fun hlt => ?_) (fun hlt => hj6 _ ⟨s0, s1, X, by omega, hXb, O⟩)
  obtain ⟨kN, rfl⟩ := Int.eq_ofNat_of_zero_le (show 0 ≤ kk by omega)
  have hlt : kN < es.length := by
    have hlt : (kN : Int) < (es.length : Int) := hlt
    omega
  obtain ⟨⟨g0, m0⟩, he⟩ : ∃ e, es[kN]? = some e := ⟨_, List.getElem?_eq_getElem hlt⟩
  obtain ⟨hg0, hm0⟩ := hb kN _ he
  rw [if_neg (by omega)] at hg0
  simp only at hg0 hm0
  have he2 : (es ++ X)[((kN : Nat) : Int).toNat]? = some (g0, m0) := by rw [Int.toNat_natCast, List.getElem?_append_left hlt]; exact he
  refine ld0 O ?_
  have v0 := (O.view 1 slc_len (by simp) rfl).1
  have v1 := (O.view 2 natc_len (by simp) rfl).1
  refine v0.get1 (k := .sl) (by omega) (x := g0) (by rw [List.getElem?_map, he2]; rfl) id (fun _ => rfl) ?_
  refine ld1 O ?_
  refine v1.get1 (k := .int .i64) (by omega) (x := m0) (by rw [List.getElem?_map, he2]; rfl) (fun x => (x : Int)) (fun _ => rfl) ?_
  simp only [id_eq]
  clear v0 v1
  refine jn_go ?_
  rw [F_law1_Book_growBytes.l1.eq_1]
  simp only [nn_some, pt_add, Nat.zero_add, Nat.add_zero, Nat.reduceAdd, Nat.reduceMul, Int.toNat_zero, Int.toNat_one, Nat.zero_mul, Nat.one_mul]
  have O : Sat h0 h (own bk (bkM s0 s1 nN y0 y1 yn t d u) :: buf 1 slc s0 ((es ++ X).map (·.1)) :: buf 1 natc s1 ((es ++ X).map (·.2)) :: famR (es ++ X ++ [(g0, m0)]) :: L) := by
    have O2 := O.sel [3, 0, 1, 2] 4 rfl (Nat.le_add_left _ _)
    have O3 := famR.sub (fs := es ++ X ++ [(g0, m0)]) O2 (fun e hx => by
      rcases List.mem_append.1 hx with hx | hx
      · exact hx
      · rw [List.mem_singleton.1 hx]; exact List.mem_append.2 (.inl (List.mem_of_getElem? he)))
    exact O3.sel [1, 2, 3, 0] 4 rfl (Nat.le_add_left _ _)
  refine wl2 (k := .sl) (l := .int .i64) (fun (M : Nat) (g : Sl) (i : Int) (h' : Heap) => i + M = 97 ∧ 1 ≤ i ∧ (g.len : Int) = g0.len + (i - 1) ∧ ∃ (s0 s1 : Sl) (X : List BE), (X.length : Int) ≤ 9 * ((kN : Int) - nN) + (if i - 1 < 3 then i - 1 else 3) + (i - 1) / 16 ∧ (∀ e ∈ X, e.1.len ≤ 5600096 ∧ e.2 ≤ T) ∧ Sat h0 h' (own bk (bkM s0 s1 nN y0 y1 yn t d u) :: buf 1 slc s0 ((es ++ X).map (·.1)) :: buf 1 natc s1 ((es ++ X).map (·.2)) :: famR (es ++ X ++ [(g, m0)]) :: L)) ?_ (m := 96) ⟨by omega, by omega, by omega, s0, s1, X, by split <;> omega, hXb, O⟩
  clear O hXb hX he2
  rintro M (g : Sl) (i : Int) h next' hnx' ⟨hiM, hi1, hgl, s0, s1, X, hX, hXb, O⟩
  refine brr_p (fun hlt2 => ?_) (fun hlt2 => ?_)
  case refine_2 =>
    have h97 : i = 97 := by
      have hlt2 : ¬ i ≤ 96 := hlt2
      omega
    subst h97
    rw [wrap64 (by omega) (by omega)]
    refine hnx (m - 1) _ _ (by omega) ⟨by omega, by omega, s0, s1, X, by split at hX <;> omega, hXb, ?_⟩
    have O2 := O.sel [3, 0, 1, 2] 4 rfl (Nat.le_add_left _ _)
    have O3 := famR.sub (fs := es ++ X) O2 (fun e hx => List.mem_append.2 (.inl hx))
    exact O3.sel [1, 2, 3, 0] 4 rfl (Nat.le_add_left _ _)
  have hlt2 : i ≤ 96 := hlt2
  refine F_law1_at.is (by omega) ?_
  refine O.al fun a h O => ?_
  replace O := O.sel [0, 4, 1, 2, 3] 5 rfl (Nat.le_add_left _ _)
  simp only [selT, List.map, nth, List.drop, List.cons_append, List.nil_append] at O
  refine fam_app (by omega) O fun g' h hg' O => ?_
  refine jn1 (fun z h' => z = decide (i < 4 ∨ i % 16 = 0) ∧ h' = h) ?_ ?_
  case refine_2 =>
    intro j30 hj30
    refine brr_p (fun h4 => ?_) (fun h4 => ?_)
    · exact hj30 _ _ ⟨(decide_eq_true (.inl h4)).symm, rfl⟩
    · refine ⟨by decide, hj30 _ _ ⟨?_, rfl⟩⟩
      rw [Int.tmod_eq_emod_of_nonneg (by omega)]
      by_cases h16 : i % 16 = 0
      · rw [decide_eq_true (.inr h16), h16]; rfl
      · rw [decide_eq_false (fun x => x.elim h4 h16)]
        exact beq_eq_false_iff_ne.2 h16
  rintro z h2 ⟨rfl, rfl⟩
  refine jn0 (fun h' => ∃ (s0 s1 : Sl) (X : List BE), (X.length : Int) ≤ 9 * ((kN : Int) - nN) + (if i < 3 then i else 3) + i / 16 ∧ (∀ e ∈ X, e.1.len ≤ 5600096 ∧ e.2 ≤ T) ∧ Sat h0 h' (own bk (bkM s0 s1 nN y0 y1 yn t d u) :: buf 1 slc s0 ((es ++ X).map (·.1)) :: buf 1 natc s1 ((es ++ X).map (·.2)) :: famR (es ++ X ++ [(g', m0)]) :: L)) ?_ ?_
  · clear O
    rintro h ⟨s0, s1, X, hX', hXb, O⟩
    rw [wrap64 (by omega) (by omega)]
    refine hnx' (M - 1) _ _ _ (by omega) ⟨by omega, by omega, by omega, s0, s1, X, by rw [show i + 1 - 1 = i by omega]; exact hX', hXb, O⟩
  intro j33 hj33
  refine brr_p (fun hp => ?_) (fun hp => ?_)
  case refine_2 =>
    refine hj33 _ ⟨s0, s1, X, ?_, hXb, O.sel [1, 2, 3, 0] 4 rfl (Nat.le_add_left _ _)⟩
    split at hX <;> split <;> omega
  have hXl : X.length ≤ 9000100 := by split at hX <;> omega
  have hesX : (es ++ X).length ≤ 10000100 := by rw [List.length_append]; omega
  have O : Sat h0 h2 (own bk (bkM s0 s1 nN y0 y1 yn t d u) :: buf 1 slc s0 ((es ++ X).map (·.1)) :: buf 1 natc s1 ((es ++ X).map (·.2)) :: famR (es ++ X ++ [(g', m0)]) :: L) := O.sel [1, 2, 3, 0] 4 rfl (Nat.le_add_left _ _)
  refine ld0 O ?_
  have O := O.swap
  refine O.push_buf g' rfl slc_len slc_one rfl (by rw [List.length_map]; omega) fun s38 h O _ => ?_
  refine st0 O.swap fun h O => ?_
  refine ld1 O ?_
  replace O := O.sel [2, 0, 1, 3] 4 rfl (Nat.le_add_left _ _)
  simp only [selT, List.map, nth, List.drop, List.cons_append, List.nil_append] at O
  refine O.push_buf m0 rfl natc_len natc_one rfl (by rw [List.length_map]; omega) fun s46 h O _ => ?_
  refine st1 O.swap fun h O => ?_
  have e1 : (es ++ X).map (·.1) ++ [g'] = (es ++ (X ++ [(g', m0)])).map (·.1) := by simp
  have e2 : (es ++ X).map (·.2) ++ [m0] = (es ++ (X ++ [(g', m0)])).map (·.2) := by simp
  rw [e1, e2] at O
  refine hj33 _ ⟨s38, s46, X ++ [(g', m0)], ?_, ?_, ?_⟩
  · rw [List.length_append, List.length_singleton]
    split at hX <;> split <;> omega
  · intro e hx
    rcases List.mem_append.1 hx with hx | hx
    · exact hXb e hx
    · rw [List.mem_singleton.1 hx]
      exact ⟨by show g'.len ≤ _; omega, hm0⟩
  · have O2 := O.sel [3, 0, 1, 2] 4 rfl (Nat.le_add_left _ _)
    have O3 := famR.sub (fs := es ++ (X ++ [(g', m0)]) ++ [(g', m0)]) O2 (fun e hx => by
      rcases List.mem_append.1 hx with hx | hx
      · rw [← List.append_assoc] at hx; exact hx
      · exact List.mem_append.2 (.inr hx))
    exact O3.sel [1, 3, 2, 0] 4 rfl (Nat.le_add_left _ _)
end
end Go.Proofs.YtigcpkejjjgkeaaGreat.V
/- The Book whose lists are of bytes and of messages: its lists of messages. (growMsgs printed from MBook2.) -/
namespace Go.Proofs.YtigcpkejjjgkeaaGreat.V
open Go Go.RowKit
set_option linter.unusedVariables false
set_option linter.unusedSimpArgs false

section
variable {h0 h : Heap} {L : List Res} {bk : Nat} {s0 s1 m0 m1 z0 z1 : Sl} {n mn zn t d u : Int} {es ms : List ME}
theorem F_law1_msgsMark.is {m : Nat} {Q : Int → Int → Int → Int → Int → Int → Int → Int → Int → Int → Sl → Int → Int → ByteArray → ByteArray → Int → Int → Int → Int → Int → Int → Int → Heap → Prop} (hm : m ≤ 1099511627776) (O : Sat h0 h L) (k : ∀ h', Sat h0 h' L → Q (mkM m).kind (mkM m).frm (mkM m).to (mkM m).shard (mkM m).epoch (mkM m).te (mkM m).ts (mkM m).round (mkM m).span (mkM m).seen (mkM m).v (mkM m).peer (mkM m).num (mkM m).name (mkM m).other (mkM m).amount (mkM m).life (mkM m).id (mkM m).op (mkM m).client (mkM m).state (mkM m).bad h') : F_law1_msgsMark m h Q := by
  rw [F_law1_msgsMark.eq_1, F_law1_msgsMark_of.eq_1]
  refine O.al fun a2 h O => ?_
  refine O.st 0 rfl (by simp) rfl fun h O => ?_
  dsimp only [V.put, List.set] at O
  refine O.ld 0 rfl ?_
  repeat (first | (with_reducible refine ldL_n ?_) | refine ldL_s ?_ | refine ldL_c ?_)
  rw [wrap64 (by omega) (by omega)]
  exact k _ O.drop
theorem F_law1_Book_told.is {Q : Bool → Heap → Prop} (hb : ∀ e ∈ ms, e.1.len ≤ 100000 ∧ e.2 ≤ 1099511627776) (hn : ms.length ≤ 1000000000) (O : Sat h0 h (own bk (bkM s0 s1 n m0 m1 mn t d u) :: buf 1 slc m0 (ms.map (·.1)) :: buf 1 natc m1 (ms.map (·.2)) :: famM ms :: L)) (k : ∀ h', Sat h0 h' (own bk (bkM s0 s1 n m0 m1 mn t d u) :: buf 1 slc m0 (ms.map (·.1)) :: buf 1 natc m1 (ms.map (·.2)) :: famM ms :: L) → Q true h') : F_law1_Book_told (some (pt bk 0)) h Q := by
  rw [F_law1_Book_told.eq_1, F_law1_Book_told_of.eq_1]
  have O1 := O
  unfold bkM at O
  refine jn_go ?_
  rw [F_law1_Book_told.l2.eq_1]
  refine wl_now1 fun next => ?_
  simp only [nn_some, pt_add, Nat.zero_add, Nat.add_zero, Nat.reduceAdd, Nat.reduceMul, Int.toNat_zero, Int.toNat_one, Nat.zero_mul, Nat.one_mul]
  refine O.ld 0 rfl (ldL_c (k := .sl) (x := (⟨none, 0, 0⟩ : Sl)) (ldL_n ?_))
  refine brr_ff (by decide) ?_
  refine jn_go ?_
  rw [F_law1_Book_told.l4.eq_1]
  refine wl_now1 fun next => ?_
  simp only [nn_some, pt_add, Nat.zero_add, Nat.add_zero, Nat.reduceAdd, Nat.reduceMul, Int.toNat_zero, Int.toNat_one, Nat.zero_mul, Nat.one_mul]
  refine O.ld 0 rfl (ldL_c (k := .sl) (x := (⟨none, 0, 0⟩ : Sl)) (ldL_n ?_))
  refine brr_ff (by decide) ?_
  refine jn_go ?_
  rw [F_law1_Book_told.l6.eq_1]
  refine wl_now1 fun next => ?_
  simp only [nn_some, pt_add, Nat.zero_add, Nat.add_zero, Nat.reduceAdd, Nat.reduceMul, Int.toNat_zero, Int.toNat_one, Nat.zero_mul, Nat.one_mul]
  refine O.ld 0 rfl (ldL_c (k := .sl) (x := (⟨none, 0, 0⟩ : Sl)) (ldL_n ?_))
  refine brr_ff (by decide) ?_
  clear O
  have ld27 : ∀ {h : Heap} {M : List Res} {K : Sl → Prop}, Sat h0 h (own bk (bkM s0 s1 n m0 m1 mn t d u) :: M) → K m0 → ld [.sl] (pt bk 27) h K := fun O k => O.ld 0 rfl (ldL_c (k := .sl) (ldL_n k))
  have ld28 : ∀ {h : Heap} {M : List Res} {K : Sl → Prop}, Sat h0 h (own bk (bkM s0 s1 n m0 m1 mn t d u) :: M) → K m1 → ld [.sl] (pt bk 28) h K := fun O k => O.ld 0 rfl (ldL_c (k := .sl) (ldL_n k))
  refine jn0 (fun h' => Sat h0 h' (own bk (bkM s0 s1 n m0 m1 mn t d u) :: buf 1 slc m0 (ms.map (·.1)) :: buf 1 natc m1 (ms.map (·.2)) :: famM ms :: L)) (fun h O => k h O) fun j hj => ?_
  rw [F_law1_Book_told.l8.eq_1]
  simp only [nn_some, pt_add, Nat.zero_add, Nat.add_zero, Nat.reduceAdd, Nat.reduceMul, Int.toNat_zero, Int.toNat_one, Nat.zero_mul, Nat.one_mul]
  refine wl1 (k := .int .i64) (fun (m : Nat) (i : Int) (h' : Heap) => 0 ≤ i ∧ i + m = ms.length ∧ Sat h0 h' (own bk (bkM s0 s1 n m0 m1 mn t d u) :: buf 1 slc m0 (ms.map (·.1)) :: buf 1 natc m1 (ms.map (·.2)) :: famM ms :: L)) ?_ (m := ms.length) ⟨by omega, by omega, O1⟩
  clear O1
  rintro m (i : Int) h next hnx ⟨hi0, him, O⟩
  refine ld27 O ?_
  have v0 := (O.view 1 slc_len (by simp) rfl).1
  have v1 := (O.view 2 natc_len (by simp) rfl).1
  rw [v0.len, List.length_map]
  refine brr_p (fun hlt => ?_) (fun hlt => hj _ O)
  obtain ⟨e, he⟩ : ∃ e, ms[i.toNat]? = some e := ⟨_, List.getElem?_eq_getElem (by omega)⟩
  have hem := List.mem_of_getElem? he
  have hbe := hb e hem
  have q0 : (ms.map (·.1))[i.toNat]? = some e.1 := by rw [List.getElem?_map, he]; rfl
  have q1 : (ms.map (·.2))[i.toNat]? = some e.2 := by rw [List.getElem?_map, he]; rfl
  refine jn0 (fun h' => Sat h0 h' (own bk (bkM s0 s1 n m0 m1 mn t d u) :: buf 1 slc m0 (ms.map (·.1)) :: buf 1 natc m1 (ms.map (·.2)) :: famM ms :: L)) ?_ ?_
  · clear O v0 v1
    intro h O
    rw [wrap64 (by omega) (by omega)]
    exact hnx (m - 1) _ _ (by omega) ⟨by omega, by omega, O⟩
  intro j2 hj2
  refine ld28 O ?_
  refine v1.get1 (k := .int .i64) hi0 q1 (fun x => (x : Int)) (fun _ => rfl) ?_
  refine jn_go ?_
  rw [F_law1_Book_told.l7.eq_1]
  simp only [nn_some, pt_add, Nat.zero_add, Nat.add_zero, Nat.reduceAdd, Nat.reduceMul, Int.toNat_zero, Int.toNat_one, Nat.zero_mul, Nat.one_mul]
  refine wl1 (k := .int .i64) (fun (m' : Nat) (i' : Int) (h' : Heap) => 0 ≤ i' ∧ i' + m' = e.1.len ∧ Sat h0 h' (own bk (bkM s0 s1 n m0 m1 mn t d u) :: buf 1 slc m0 (ms.map (·.1)) :: buf 1 natc m1 (ms.map (·.2)) :: famM ms :: L)) ?_ (m := e.1.len) ⟨by omega, by omega, O⟩
  clear O v0 v1
  rintro m' (i' : Int) h next' hnx' ⟨hi0', him', O⟩
  have v0 := (O.view 1 slc_len (by simp) rfl).1
  have ve := famM_view O 3 (by simp) rfl hem
  refine ld27 O ?_
  refine v0.slQ hi0 q0 ?_
  refine brr_p (fun hlt' => ?_) (fun hlt' => hj2 _ O)
  refine ld27 O ?_
  refine v0.slQ hi0 q0 ?_
  have hlt2 : i' < (e.1.len : Int) := hlt'
  refine ve.getP (x := mkM e.2) hi0' (by rw [List.getElem?_replicate, if_pos (by omega)]) fun b hcb => ?_
  refine ld_are (hcb ve) ?_
  unfold mgC
  repeat (first | (with_reducible refine ldL_n ?_) | refine ldL_s ?_ | refine ldL_c ?_)
  refine O.al fun a152 h O => ?_
  refine O.st 0 rfl (by simp) rfl fun h O => ?_
  dsimp only [V.put, List.set] at O
  refine jn1 (fun z h' => z = false ∧ h = h') ?_ ?_
  · rintro z h' ⟨rfl, rfl⟩
    refine brr_ff rfl ?_
    rw [wrap64 (by omega) (by omega)]
    exact hnx' (m' - 1) _ _ (by omega) ⟨by omega, by omega, O.drop⟩
  · intro j3 hj3
    refine O.ld 0 rfl (ldL_c (ldL_n ?_))
    rw [wrap64 (by omega) (by omega)]
    refine brr_tt (by simp [mkM]) ?_
    refine O.ld 0 rfl (ldL_s (ldL_n ?_))
    refine brr_tt rfl ?_
    refine O.ld 0 rfl (ldL_c (ldL_n ?_))
    refine brr_tt rfl ?_
    refine O.ld 0 rfl (ldL_c (k := .str) (ldL_n ?_))
    exact hj3 _ _ ⟨by show (!((⟨#[]⟩ : ByteArray).toList == (⟨#[]⟩ : ByteArray).toList)) = false; simp, rfl⟩
theorem F_law1_Book_growMsgs.is {nN T : Nat} {Q : Heap → Prop} (hb : ∀ (i : Nat) e, es[i]? = some e → e.1.len ≤ (if i < nN then 100 else 50) ∧ e.2 ≤ T) (hT : T ≤ 1099511627776) (hn : nN ≤ es.length) (hes : es.length ≤ 1000000)
    (O : Sat h0 h (own bk (bkM z0 z1 zn s0 s1 nN t d u) :: buf 1 slc s0 (es.map (·.1)) :: buf 1 natc s1 (es.map (·.2)) :: famM es :: L))
    (k : ∀ s0 s1 (fs : List ME) h', fs.length ≤ es.length + 9 * (es.length - nN) → (∀ e ∈ fs, e.1.len ≤ 100 ∧ e.2 ≤ T) → Sat h0 h' (own bk (bkM z0 z1 zn s0 s1 fs.length t d u) :: buf 1 slc s0 (fs.map (·.1)) :: buf 1 natc s1 (fs.map (·.2)) :: famM fs :: L) → Q h') : F_law1_Book_growMsgs (some (pt bk 0)) h Q := by
  rw [F_law1_Book_growMsgs.eq_1, F_law1_Book_growMsgs_of.eq_1]
  have v0 := (O.view 1 slc_len (by simp) rfl).1
  have hs0 := v0.len
  rw [List.length_map] at hs0
  have ld0 : ∀ {h : Heap} {M : List Res} {s0 s1 : Sl} {n : Int} {K : Sl → Prop}, Sat h0 h (own bk (bkM z0 z1 zn s0 s1 n t d u) :: M) → K s0 → ld [.sl] (pt bk 27) h K := fun O k => O.ld 0 rfl (ldL_c (k := .sl) (ldL_n k))
  have ld1 : ∀ {h : Heap} {M : List Res} {s0 s1 : Sl} {n : Int} {K : Sl → Prop}, Sat h0 h (own bk (bkM z0 z1 zn s0 s1 n t d u) :: M) → K s1 → ld [.sl] (pt bk 28) h K := fun O k => O.ld 0 rfl (ldL_c (k := .sl) (ldL_n k))
  have ld2 : ∀ {h : Heap} {M : List Res} {s0 s1 : Sl} {n : Int} {K : Int → Prop}, Sat h0 h (own bk (bkM z0 z1 zn s0 s1 n t d u) :: M) → K n → ld [.int .i64] (pt bk 29) h K := fun O k => O.ld 0 rfl (ldL_c (ldL_n k))
  have st0 : ∀ {h : Heap} {M : List Res} {s0 s1 s : Sl} {n : Int} {K : Heap → Prop}, Sat h0 h (own bk (bkM z0 z1 zn s0 s1 n t d u) :: M) → (∀ h', Sat h0 h' (own bk (bkM z0 z1 zn s s1 n t d u) :: M) → K h') → st (pt bk 27) [.slice s.ptr s.len s.cap] h K := by
    intro h M s0 s1 s n K O k
    unfold bkM at O
    refine O.st 0 rfl (by simp) rfl fun h O => ?_
    dsimp only [V.put, List.set] at O
    exact k h O
  have st1 : ∀ {h : Heap} {M : List Res} {s0 s1 s : Sl} {n : Int} {K : Heap → Prop}, Sat h0 h (own bk (bkM z0 z1 zn s0 s1 n t d u) :: M) → (∀ h', Sat h0 h' (own bk (bkM z0 z1 zn s0 s n t d u) :: M) → K h') → st (pt bk 28) [.slice s.ptr s.len s.cap] h K := by
    intro h M s0 s1 s n K O k
    unfold bkM at O
    refine O.st 0 rfl (by simp) rfl fun h O => ?_
    dsimp only [V.put, List.set] at O
    exact k h O
  have st2 : ∀ {h : Heap} {M : List Res} {s0 s1 : Sl} {n n' : Int} {K : Heap → Prop}, Sat h0 h (own bk (bkM z0 z1 zn s0 s1 n t d u) :: M) → (∀ h', Sat h0 h' (own bk (bkM z0 z1 zn s0 s1 n' t d u) :: M) → K h') → st (pt bk 29) [.int .i64 n'] h K := by
    intro h M s0 s1 n n' K O k
    unfold bkM at O
    refine O.st 0 rfl (by simp) rfl fun h O => ?_
    dsimp only [V.put, List.set] at O
    exact k h O
  simp only [nn_some, pt_add, Nat.zero_add, Nat.add_zero, Nat.reduceAdd, Nat.reduceMul, Int.toNat_zero, Int.toNat_one, Nat.zero_mul, Nat.one_mul]
  refine ld0 O ?_
  refine ld2 O ?_
  refine jn0 (fun h' => ∃ (s0 s1 : Sl) (X : List ME), X.length ≤ 9 * (es.length - nN) ∧ (∀ e ∈ X, e.1.len ≤ 100 ∧ e.2 ≤ T) ∧ Sat h0 h' (own bk (bkM z0 z1 zn s0 s1 nN t d u) :: buf 1 slc s0 ((es ++ X).map (·.1)) :: buf 1 natc s1 ((es ++ X).map (·.2)) :: famM (es ++ X) :: L)) ?_ ?_
  · clear O v0
    rintro h ⟨s0, s1, X, hX, hXb, O⟩
    refine ld0 O ?_
    have hl := (O.view 1 slc_len (by simp) rfl).1.len
    rw [List.length_map] at hl
    rw [hl]
    refine st2 O fun h O => ?_
    refine k s0 s1 (es ++ X) h (by rw [List.length_append]; omega) (fun e he => ?_) O
    rcases List.mem_append.1 he with he | he
    · obtain ⟨i, hi⟩ := List.getElem?_of_mem he
      have := hb i e hi
      refine ⟨?_, this.2⟩
      have h2 := this.1
      split at h2 <;> omega
    · exact hXb e he
  intro j6 hj6
  rw [F_law1_Book_growMsgs.l2.eq_1, hs0]
  simp only [nn_some, pt_add, Nat.zero_add, Nat.add_zero, Nat.reduceAdd, Nat.reduceMul, Int.toNat_zero, Int.toNat_one, Nat.zero_mul, Nat.one_mul]
  refine wl1 (k := .int .i64) (fun (m : Nat) (kk : Int) (h' : Heap) => (nN : Int) ≤ kk ∧ kk + m = es.length ∧ ∃ (s0 s1 : Sl) (X : List ME), (X.length : Int) ≤ 9 * (kk - nN) ∧ (∀ e ∈ X, e.1.len ≤ 100 ∧ e.2 ≤ T) ∧ Sat h0 h' (own bk (bkM z0 z1 zn s0 s1 nN t d u) :: buf 1 slc s0 ((es ++ X).map (·.1)) :: buf 1 natc s1 ((es ++ X).map (·.2)) :: famM (es ++ X) :: L)) ?_ (m := es.length - nN) ⟨by omega, by omega, s0, s1, [], by simp, by simp, by rw [List.append_nil]; exact O⟩
  clear O v0 hs0
  rintro m (kk : Int) h next hnx ⟨hk0, hkm, s0, s1, X, hX, hXb, O⟩
  refine brr_p (fun hlt => ?_) (fun hlt => hj6 _ ⟨s0, s1, X, by omega, hXb, O⟩)
  obtain ⟨kN, rfl⟩ := Int.eq_ofNat_of_zero_le (show 0 ≤ kk by omega)
  have hlt : kN < es.length := by
    have hlt : (kN : Int) < (es.length : Int) := hlt
    omega
  obtain ⟨⟨g0, m0⟩, he⟩ : ∃ e, es[kN]? = some e := ⟨_, List.getElem?_eq_getElem hlt⟩
  obtain ⟨hg0, hm0⟩ := hb kN _ he
  rw [if_neg (by omega)] at hg0
  simp only at hg0 hm0
  have he2 : (es ++ X)[((kN : Nat) : Int).toNat]? = some (g0, m0) := by rw [Int.toNat_natCast, List.getElem?_append_left hlt]; exact he
  refine ld0 O ?_
  have v0 := (O.view 1 slc_len (by simp) rfl).1
  have v1 := (O.view 2 natc_len (by simp) rfl).1
  refine v0.get1 (k := .sl) (by omega) (x := g0) (by rw [List.getElem?_map, he2]; rfl) id (fun _ => rfl) ?_
  refine ld1 O ?_
  refine v1.get1 (k := .int .i64) (by omega) (x := m0) (by rw [List.getElem?_map, he2]; rfl) (fun x => (x : Int)) (fun _ => rfl) ?_
  simp only [id_eq]
  clear v0 v1
  refine jn_go ?_
  rw [F_law1_Book_growMsgs.l1.eq_1]
  simp only [nn_some, pt_add, Nat.zero_add, Nat.add_zero, Nat.reduceAdd, Nat.reduceMul, Int.toNat_zero, Int.toNat_one, Nat.zero_mul, Nat.one_mul]
  have O : Sat h0 h (own bk (bkM z0 z1 zn s0 s1 nN t d u) :: buf 1 slc s0 ((es ++ X).map (·.1)) :: buf 1 natc s1 ((es ++ X).map (·.2)) :: famM (es ++ X ++ [(g0, m0)]) :: L) := by
    have O2 := O.sel [3, 0, 1, 2] 4 rfl (Nat.le_add_left _ _)
    have O3 := famM.sub (fs := es ++ X ++ [(g0, m0)]) O2 (fun e hx => by
      rcases List.mem_append.1 hx with hx | hx
      · exact hx
      · rw [List.mem_singleton.1 hx]; exact List.mem_append.2 (.inl (List.mem_of_getElem? he)))
    exact O3.sel [1, 2, 3, 0] 4 rfl (Nat.le_add_left _ _)
  refine wl2 (k := .sl) (l := .int .i64) (fun (M : Nat) (g : Sl) (i : Int) (h' : Heap) => i + M = 33 ∧ 1 ≤ i ∧ (g.len : Int) = g0.len + (i - 1) ∧ ∃ (s0 s1 : Sl) (X : List ME), (X.length : Int) ≤ 9 * ((kN : Int) - nN) + (if i - 1 < 3 then i - 1 else 3) + (i - 1) / 16 ∧ (∀ e ∈ X, e.1.len ≤ 100 ∧ e.2 ≤ T) ∧ Sat h0 h' (own bk (bkM z0 z1 zn s0 s1 nN t d u) :: buf 1 slc s0 ((es ++ X).map (·.1)) :: buf 1 natc s1 ((es ++ X).map (·.2)) :: famM (es ++ X ++ [(g, m0)]) :: L)) ?_ (m := 32) ⟨by omega, by omega, by omega, s0, s1, X, by split <;> omega, hXb, O⟩
  clear O hXb hX he2
  rintro M (g : Sl) (i : Int) h next' hnx' ⟨hiM, hi1, hgl, s0, s1, X, hX, hXb, O⟩
  refine brr_p (fun hlt2 => ?_) (fun hlt2 => ?_)
  case refine_2 =>
    have h97 : i = 33 := by
      have hlt2 : ¬ i ≤ 32 := hlt2
      omega
    subst h97
    rw [wrap64 (by omega) (by omega)]
    refine hnx (m - 1) _ _ (by omega) ⟨by omega, by omega, s0, s1, X, by split at hX <;> omega, hXb, ?_⟩
    have O2 := O.sel [3, 0, 1, 2] 4 rfl (Nat.le_add_left _ _)
    have O3 := famM.sub (fs := es ++ X) O2 (fun e hx => List.mem_append.2 (.inl hx))
    exact O3.sel [1, 2, 3, 0] 4 rfl (Nat.le_add_left _ _)
  have hlt2 : i ≤ 32 := hlt2
  refine F_law1_msgsMark.is (by omega) O fun h O => ?_
  refine O.al fun a h O => ?_
  have O : Sat h0 h (own a (mgC (mkM m0)) :: famM (es ++ X ++ [(g, m0)]) :: own bk (bkM z0 z1 zn s0 s1 nN t d u) :: buf 1 slc s0 ((es ++ X).map (·.1)) :: buf 1 natc s1 ((es ++ X).map (·.2)) :: L) := O.sel [0, 4, 1, 2, 3] 5 rfl (Nat.le_add_left _ _)
  refine famM_app (by simp [Value.cells]) (by omega) O fun g' h hg' O => ?_
  refine jn1 (fun z h' => z = decide (i < 4 ∨ i % 16 = 0) ∧ h' = h) ?_ ?_
  case refine_2 =>
    intro j30 hj30
    refine brr_p (fun h4 => ?_) (fun h4 => ?_)
    · exact hj30 _ _ ⟨(decide_eq_true (.inl h4)).symm, rfl⟩
    · refine ⟨by decide, hj30 _ _ ⟨?_, rfl⟩⟩
      rw [Int.tmod_eq_emod_of_nonneg (by omega)]
      by_cases h16 : i % 16 = 0
      · rw [decide_eq_true (.inr h16), h16]; rfl
      · rw [decide_eq_false (fun x => x.elim h4 h16)]
        exact beq_eq_false_iff_ne.2 h16
  rintro z h2 ⟨rfl, rfl⟩
  refine jn0 (fun h' => ∃ (s0 s1 : Sl) (X : List ME), (X.length : Int) ≤ 9 * ((kN : Int) - nN) + (if i < 3 then i else 3) + i / 16 ∧ (∀ e ∈ X, e.1.len ≤ 100 ∧ e.2 ≤ T) ∧ Sat h0 h' (own bk (bkM z0 z1 zn s0 s1 nN t d u) :: buf 1 slc s0 ((es ++ X).map (·.1)) :: buf 1 natc s1 ((es ++ X).map (·.2)) :: famM (es ++ X ++ [(g', m0)]) :: L)) ?_ ?_
  · clear O
    rintro h ⟨s0, s1, X, hX', hXb, O⟩
    rw [wrap64 (by omega) (by omega)]
    refine hnx' (M - 1) _ _ _ (by omega) ⟨by omega, by omega, by omega, s0, s1, X, by rw [show i + 1 - 1 = i by omega]; exact hX', hXb, O⟩
  intro j33 hj33
  refine brr_p (fun hp => ?_) (fun hp => ?_)
  case refine_2 =>
    refine hj33 _ ⟨s0, s1, X, ?_, hXb, O.sel [1, 2, 3, 0] 4 rfl (Nat.le_add_left _ _)⟩
    split at hX <;> split <;> omega
  have hXl : X.length ≤ 9000100 := by split at hX <;> omega
  have hesX : (es ++ X).length ≤ 10000100 := by rw [List.length_append]; omega
  have O : Sat h0 h2 (own bk (bkM z0 z1 zn s0 s1 nN t d u) :: buf 1 slc s0 ((es ++ X).map (·.1)) :: buf 1 natc s1 ((es ++ X).map (·.2)) :: famM (es ++ X ++ [(g', m0)]) :: L) := O.sel [1, 2, 3, 0] 4 rfl (Nat.le_add_left _ _)
  refine ld0 O ?_
  have O := O.swap
  refine O.push_buf g' rfl slc_len slc_one rfl (by rw [List.length_map]; omega) fun s38 h O _ => ?_
  refine st0 O.swap fun h O => ?_
  refine ld1 O ?_
  replace O := O.sel [2, 0, 1, 3] 4 rfl (Nat.le_add_left _ _)
  simp only [selT, List.map, nth, List.drop, List.cons_append, List.nil_append] at O
  refine O.push_buf m0 rfl natc_len natc_one rfl (by rw [List.length_map]; omega) fun s46 h O _ => ?_
  refine st1 O.swap fun h O => ?_
  have e1 : (es ++ X).map (·.1) ++ [g'] = (es ++ (X ++ [(g', m0)])).map (·.1) := by simp
  have e2 : (es ++ X).map (·.2) ++ [m0] = (es ++ (X ++ [(g', m0)])).map (·.2) := by simp
  rw [e1, e2] at O
  refine hj33 _ ⟨s38, s46, X ++ [(g', m0)], ?_, ?_, ?_⟩
  · rw [List.length_append, List.length_singleton]
    split at hX <;> split <;> omega
  · intro e hx
    rcases List.mem_append.1 hx with hx | hx
    · exact hXb e hx
    · rw [List.mem_singleton.1 hx]
      exact ⟨by show g'.len ≤ _; omega, hm0⟩
  · have O2 := O.sel [3, 0, 1, 2] 4 rfl (Nat.le_add_left _ _)
    have O3 := famM.sub (fs := es ++ (X ++ [(g', m0)]) ++ [(g', m0)]) O2 (fun e hx => by
      rcases List.mem_append.1 hx with hx | hx
      · rw [← List.append_assoc] at hx; exact hx
      · exact List.mem_append.2 (.inr hx))
    exact O3.sel [1, 3, 2, 0] 4 rfl (Nat.le_add_left _ _)
end
end Go.Proofs.YtigcpkejjjgkeaaGreat.V
/- The Book of lists of bytes and of messages: it finds its marks, always. (Bytes printed from MBook3.) -/
namespace Go.Proofs.YtigcpkejjjgkeaaGreat.V
open Go Go.RowKit
set_option linter.unusedVariables false
set_option linter.unusedSimpArgs false

structure BkN where
  s0 : Sl
  s1 : Sl
  es : List BE
  n : Nat
  m0 : Sl
  m1 : Sl
  ms : List ME
  mn : Nat
  t : Nat
  d : Nat
  u : Nat
structure BkN.Ok (x : BkN) (T : Nat) : Prop where
  t : x.t ≤ T
  n : x.n ≤ x.es.length
  room : 120 * (x.es.length + 9 * (x.es.length - x.n)) ≤ x.u
  u : x.u ≤ 16777216
  len : ∀ (i : Nat) e, x.es[i]? = some e → e.1.len ≤ (if i < x.n then 5600096 else 5600000) ∧ e.2 ≤ T
  mn : x.mn ≤ x.ms.length
  mroom : 800 * (x.ms.length + 9 * (x.ms.length - x.mn)) ≤ x.u
  mlen : ∀ (i : Nat) e, x.ms[i]? = some e → e.1.len ≤ (if i < x.mn then 100 else 50) ∧ e.2 ≤ T
def bkN (bk T : Nat) : Res := ex fun x : BkN => pr (x.Ok T) (star [own bk (bkM x.s0 x.s1 x.n x.m0 x.m1 x.mn x.t x.d x.u), buf 1 slc x.s0 (x.es.map (·.1)), buf 1 natc x.s1 (x.es.map (·.2)), famR x.es, buf 1 slc x.m0 (x.ms.map (·.1)), buf 1 natc x.m1 (x.ms.map (·.2)), famM x.ms])
section
variable {h0 h : Heap} {L : List Res} {bk T : Nat}
theorem Sat.bookN (O : Sat h0 h (bkN bk T :: L)) : ∃ x : BkN, x.Ok T ∧ Sat h0 h (own bk (bkM x.s0 x.s1 x.n x.m0 x.m1 x.mn x.t x.d x.u) :: buf 1 slc x.s0 (x.es.map (·.1)) :: buf 1 natc x.s1 (x.es.map (·.2)) :: famR x.es :: buf 1 slc x.m0 (x.ms.map (·.1)) :: buf 1 natc x.m1 (x.ms.map (·.2)) :: famM x.ms :: L) := by
  obtain ⟨x, O⟩ := O.ex
  obtain ⟨o, O⟩ := O.pr
  exact ⟨x, o, O.starE⟩
theorem Sat.bookNI {x : BkN} (o : x.Ok T) (O : Sat h0 h (own bk (bkM x.s0 x.s1 x.n x.m0 x.m1 x.mn x.t x.d x.u) :: buf 1 slc x.s0 (x.es.map (·.1)) :: buf 1 natc x.s1 (x.es.map (·.2)) :: famR x.es :: buf 1 slc x.m0 (x.ms.map (·.1)) :: buf 1 natc x.m1 (x.ms.map (·.2)) :: famM x.ms :: L)) : Sat h0 h (bkN bk T :: L) :=
  Sat.exI x (Sat.prI o (Sat.starI (Rs := [own bk (bkM x.s0 x.s1 x.n x.m0 x.m1 x.mn x.t x.d x.u), buf 1 slc x.s0 (x.es.map (·.1)), buf 1 natc x.s1 (x.es.map (·.2)), famR x.es, buf 1 slc x.m0 (x.ms.map (·.1)), buf 1 natc x.m1 (x.ms.map (·.2)), famM x.ms]) O))
theorem F_law1_Book_holds.is {x : BkN} {Q : Bool → Heap → Prop} (hb : ∀ e ∈ x.es, e.1.len ≤ 1099511627776 ∧ e.2 ≤ 1099511627776) (hn : x.es.length ≤ 1099511627776) (hbm : ∀ e ∈ x.ms, e.1.len ≤ 100000 ∧ e.2 ≤ 1099511627776) (hnm : x.ms.length ≤ 1000000000) (O : Sat h0 h (own bk (bkM x.s0 x.s1 x.n x.m0 x.m1 x.mn x.t x.d x.u) :: buf 1 slc x.s0 (x.es.map (·.1)) :: buf 1 natc x.s1 (x.es.map (·.2)) :: famR x.es :: buf 1 slc x.m0 (x.ms.map (·.1)) :: buf 1 natc x.m1 (x.ms.map (·.2)) :: famM x.ms :: L)) (k : ∀ h', Sat h0 h' (own bk (bkM x.s0 x.s1 x.n x.m0 x.m1 x.mn x.t x.d x.u) :: buf 1 slc x.s0 (x.es.map (·.1)) :: buf 1 natc x.s1 (x.es.map (·.2)) :: famR x.es :: buf 1 slc x.m0 (x.ms.map (·.1)) :: buf 1 natc x.m1 (x.ms.map (·.2)) :: famM x.ms :: L) → Q true h') : F_law1_Book_holds (some (pt bk 0)) h Q := by
  rw [F_law1_Book_holds.eq_1, F_law1_Book_holds_of.eq_1]
  refine jn1 (fun z h' => z = true ∧ Sat h0 h' (own bk (bkM x.s0 x.s1 x.n x.m0 x.m1 x.mn x.t x.d x.u) :: buf 1 slc x.s0 (x.es.map (·.1)) :: buf 1 natc x.s1 (x.es.map (·.2)) :: famR x.es :: buf 1 slc x.m0 (x.ms.map (·.1)) :: buf 1 natc x.m1 (x.ms.map (·.2)) :: famM x.ms :: L)) (fun z h' hh => by obtain ⟨rfl, O⟩ := hh; exact k _ O) ?_
  intro j hj
  refine F_law1_Book_plain.is hb hn O ?_
  refine brr_tt rfl ?_
  refine F_law1_Book_kept.is O ?_
  refine brr_tt rfl ?_
  refine F_law1_Book_told.is hbm hnm (O.sel [0, 4, 5, 6, 1, 2, 3] 7 rfl (Nat.le_add_left _ _)) fun h O => ?_
  refine brr_tt rfl ?_
  refine F_law1_Book_held.is O ?_
  exact hj _ _ ⟨rfl, O.sel [0, 4, 5, 6, 1, 2, 3] 7 rfl (Nat.le_add_left _ _)⟩
theorem BkN.Ok.lens {x : BkN} (o : x.Ok T) (hT : T ≤ 1099511627776) : (∀ e ∈ x.es, e.1.len ≤ 1099511627776 ∧ e.2 ≤ 1099511627776) ∧ ∀ e ∈ x.ms, e.1.len ≤ 100000 ∧ e.2 ≤ 1099511627776 := by
  refine ⟨fun e he => ?_, fun e he => ?_⟩
  · obtain ⟨i, hi⟩ := List.getElem?_of_mem he
    have := o.len i e hi
    refine ⟨?_, by omega⟩
    have h2 := this.1
    split at h2 <;> omega
  · obtain ⟨i, hi⟩ := List.getElem?_of_mem he
    have := o.mlen i e hi
    refine ⟨?_, by omega⟩
    have h2 := this.1
    split at h2 <;> omega
theorem F_law1_Book_Look.is {Q : Bool → Heap → Prop} (hT : T ≤ 1099511627776) (O : Sat h0 h (bkN bk T :: L)) (k : ∀ h', Sat h0 h' (bkN bk T :: L) → Q true h') : F_law1_Book_Look (some (pt bk 0)) h Q := by
  rw [F_law1_Book_Look.eq_1, F_law1_Book_Look_of.eq_1]
  obtain ⟨x, o, O⟩ := O.bookN
  have h1 := o.room; have h2 := o.u; have h3 := o.n; have h4 := o.mroom; have h5 := o.mn
  refine F_law1_Book_holds.is (o.lens hT).1 (by omega) (o.lens hT).2 (by omega) O fun h O => ?_
  refine brr_ff rfl ?_
  simp only [nn_some, pt_add, Nat.zero_add, Nat.add_zero, Nat.reduceAdd, Nat.reduceMul, Int.toNat_zero, Int.toNat_one, Nat.zero_mul, Nat.one_mul]
  have O1 := O
  unfold bkM at O1
  refine O1.ld 0 rfl (ldL_c (ldL_n ?_))
  refine O1.ld 0 rfl (ldL_c (ldL_n ?_))
  refine brr_eq (fun _ => k h (Sat.bookNI o O)) (fun _ => ?_)
  clear O1
  rw [F_law1_Book_grow.eq_1, F_law1_Book_grow_of.eq_1]
  refine F_law1_Book_growBytes.is o.len hT o.n (by omega) O fun s0 s1 fs h hfs hfb O => ?_
  refine F_law1_Book_growRows.is O fun h O => ?_
  refine F_law1_Book_growTexts.is O fun h O => ?_
  refine F_law1_Book_growInts.is O fun h O => ?_
  refine F_law1_Book_growWords.is O fun h O => ?_
  refine F_law1_Book_growDones.is O fun h O => ?_
  refine F_law1_Book_growAccts.is O fun h O => ?_
  refine F_law1_Book_growQueue.is O fun h O => ?_
  refine F_law1_Book_growSlots.is O fun h O => ?_
  refine F_law1_Book_growMsgs.is o.mlen hT o.mn (by omega) (O.sel [0, 4, 5, 6, 1, 2, 3] 7 rfl (Nat.le_add_left _ _)) fun m0 m1 gs h hgs hgb O => ?_
  refine F_law1_Book_growFlights.is O fun h O => ?_
  refine F_law1_Book_growFiles.is O fun h O => ?_
  simp only [nn_some, pt_add, Nat.zero_add, Nat.add_zero, Nat.reduceAdd, Nat.reduceMul, Int.toNat_zero, Int.toNat_one, Nat.zero_mul, Nat.one_mul]
  have O1 := O
  unfold bkM at O1
  refine O1.ld 0 rfl (ldL_c (ldL_n ?_))
  refine O1.st 0 rfl (by simp) rfl fun h O => ?_
  dsimp only [V.put, List.set] at O
  have O : Sat h0 h (own bk (bkM s0 s1 fs.length m0 m1 gs.length x.t x.t x.u) :: buf 1 slc s0 (fs.map (·.1)) :: buf 1 natc s1 (fs.map (·.2)) :: famR fs :: buf 1 slc m0 (gs.map (·.1)) :: buf 1 natc m1 (gs.map (·.2)) :: famM gs :: L) := O.sel [0, 4, 5, 6, 1, 2, 3] 7 rfl (Nat.le_add_left _ _)
  have o2 : BkN.Ok ⟨s0, s1, fs, fs.length, m0, m1, gs, gs.length, x.t, x.t, x.u⟩ T := by
    refine ⟨o.t, Nat.le_refl _, ?_, o.u, fun i e hi => ?_, Nat.le_refl _, ?_, fun i e hi => ?_⟩
    · show 120 * (fs.length + 9 * (fs.length - fs.length)) ≤ x.u
      omega
    · have hl := (List.getElem?_eq_some_iff.1 hi).1
      rw [if_pos hl]
      exact hfb e (List.mem_of_getElem? hi)
    · show 800 * (gs.length + 9 * (gs.length - gs.length)) ≤ x.u
      omega
    · have hl := (List.getElem?_eq_some_iff.1 hi).1
      rw [if_pos hl]
      exact hgb e (List.mem_of_getElem? hi)
  refine F_law1_Book_holds.is (x := ⟨s0, s1, fs, fs.length, m0, m1, gs, gs.length, x.t, x.t, x.u⟩) (o2.lens hT).1 (by show fs.length ≤ _; omega) (o2.lens hT).2 (by show gs.length ≤ _; omega) O fun h O => ?_
  exact k h (Sat.bookNI o2 O)
theorem marks_set {m i : Nat} {xs : List UInt8} (hi : i < xs.length) : (marksB m i ++ xs.drop i).set i (atB m i) = marksB m (i + 1) ++ xs.drop (i + 1) := by
  have e1 : xs.drop i = xs[i] :: xs.drop (i + 1) := List.drop_eq_getElem_cons hi
  rw [e1, List.set_append_right _ _ (by rw [marksB_len]; exact Nat.le_refl _), marksB_len, Nat.sub_self, List.set_cons_zero]
  have e2 : marksB m (i + 1) = marksB m i ++ [atB m i] := by unfold marksB; rw [List.range_succ, List.map_append]; rfl
  rw [e2, List.append_assoc]
  rfl
theorem F_law1_Book_Bytes.is {s : Sl} {xs : List UInt8} {Q : Heap → Prop} (hT : T ≤ 1099511627) (hx : xs.length ≤ 281474976710656) (O : Sat h0 h (buf 1 u8 s xs :: bkN bk T :: L)) (k : ∀ h', Sat h0 h' (bkN bk (T + 1) :: L) → Q h') : F_law1_Book_Bytes (some (pt bk 0)) s h Q := by
  rw [F_law1_Book_Bytes.eq_1, F_law1_Book_Bytes_of.eq_1]
  obtain ⟨x, o, O⟩ := O.swap.bookN
  have O := O.sel [0, 1, 2, 3, 7, 4, 5, 6] 8 rfl (Nat.le_add_left _ _)
  obtain ⟨L0, hL0⟩ : ∃ L0, L0 = buf 1 slc x.m0 (x.ms.map (·.1)) :: buf 1 natc x.m1 (x.ms.map (·.2)) :: famM x.ms :: L := ⟨_, rfl⟩
  have O : Sat h0 h (own bk (bkM x.s0 x.s1 x.n x.m0 x.m1 x.mn x.t x.d x.u) :: buf 1 slc x.s0 (x.es.map (·.1)) :: buf 1 natc x.s1 (x.es.map (·.2)) :: famR x.es :: buf 1 u8 s xs :: L0) := by rw [hL0]; exact O
  have h1 := o.room; have h2 := o.u; have h3 := o.n; have h4 := o.t
  have hsl := (O.view 4 u8_len (by simp) rfl).1.len
  simp only [nn_some, pt_add, Nat.zero_add, Nat.add_zero, Nat.reduceAdd, Nat.reduceMul, Int.toNat_zero, Int.toNat_one, Nat.zero_mul, Nat.one_mul]
  unfold bkM at O
  refine O.ld 0 rfl (ldL_c (ldL_n ?_))
  refine O.st 0 rfl (by simp) rfl fun h O => ?_
  dsimp only [V.put, List.set] at O
  rw [wrap64 (by omega) (by omega)] at O
  refine O.ld 0 rfl (ldL_c (ldL_n ?_))
  have em : (x.t : Int) + 1 = ((x.t + 1 : Nat) : Int) := by omega
  rw [em] at O ⊢
  have O : Sat h0 h (own bk (bkM x.s0 x.s1 x.n x.m0 x.m1 x.mn (x.t + 1 : Nat) x.d x.u) :: buf 1 slc x.s0 (x.es.map (·.1)) :: buf 1 natc x.s1 (x.es.map (·.2)) :: famR x.es :: buf 1 u8 s xs :: L0) := O
  replace O := O.sel [4, 0, 1, 2, 3] 5 rfl (Nat.le_add_left _ _)
  simp only [selT, List.map, nth, List.drop, List.cons_append, List.nil_append] at O
  refine jn0 (fun h' => Sat h0 h' (buf 1 u8 s (marksB (x.t + 1) s.len) :: own bk (bkM x.s0 x.s1 x.n x.m0 x.m1 x.mn (x.t + 1 : Nat) x.d x.u) :: buf 1 slc x.s0 (x.es.map (·.1)) :: buf 1 natc x.s1 (x.es.map (·.2)) :: famR x.es :: L0)) ?_ ?_
  case refine_2 =>
    intro j hj
    rw [F_law1_Book_Bytes.l1.eq_1, hsl]
    rw [hsl] at hj
    refine wl1 (k := .int .i64) (fun (m : Nat) (i : Int) (h' : Heap) => 0 ≤ i ∧ i + m = xs.length ∧ Sat h0 h' (buf 1 u8 s (marksB (x.t + 1) i.toNat ++ xs.drop i.toNat) :: own bk (bkM x.s0 x.s1 x.n x.m0 x.m1 x.mn (x.t + 1 : Nat) x.d x.u) :: buf 1 slc x.s0 (x.es.map (·.1)) :: buf 1 natc x.s1 (x.es.map (·.2)) :: famR x.es :: L0)) ?_ (m := xs.length) ⟨by omega, by omega, by rw [show marksB (x.t + 1) (0 : Int).toNat = [] from rfl]; exact O⟩
    clear O
    rintro m (i : Int) h next hn ⟨hi0, him, O⟩
    obtain ⟨i, rfl⟩ := Int.eq_ofNat_of_zero_le hi0
    simp only [Int.toNat_natCast] at O
    refine brr_p (fun hlt => ?_) (fun hlt => ?_)
    · have hil : i < xs.length := by omega
      refine F_law1_at.is (by omega) ?_
      refine O.put1 u8_len u8_one (by omega) (by rw [List.length_append, marksB_len, List.length_drop]; omega) (atB (x.t + 1) i) rfl fun h O => ?_
      rw [Int.toNat_natCast, marks_set hil] at O
      rw [wrap64 (by omega) (by omega)]
      refine hn (m - 1) _ _ (by omega) ⟨by omega, by omega, ?_⟩
      rw [show ((i : Int) + 1).toNat = i + 1 by omega]
      exact O
    · rw [List.drop_eq_nil_of_le (by omega), List.append_nil, show i = xs.length by omega] at O
      exact hj _ O
  clear O
  intro h O
  rw [F_law1_Book_tight.eq_1, F_law1_Book_tight_of.eq_1]
  simp only [nn_some, pt_add, Nat.zero_add, Nat.add_zero, Nat.reduceAdd, Nat.reduceMul, Int.toNat_zero, Int.toNat_one, Nat.zero_mul, Nat.one_mul]
  replace O := O.sel [1, 2, 3, 4, 0] 5 rfl (Nat.le_add_left _ _)
  simp only [selT, List.map, nth, List.drop, List.cons_append, List.nil_append] at O
  unfold bkM at O
  refine O.ld 0 rfl (ldL_c (ldL_n ?_))
  have ew : IntKind.i64.wrap (1200 + IntKind.i64.wrap (3 * ((s.len : Nat) : Int))) = 1200 + 3 * (xs.length : Int) := by
    rw [hsl, wrap64 (x := 3 * (xs.length : Int)) (by omega) (by omega), wrap64 (by omega) (by omega)]
  rw [ew, wrap64 (x := (x.u : Int) + (1200 + 3 * (xs.length : Int))) (by omega) (by omega)]
  have olen : ∀ (i : Nat) e, x.es[i]? = some e → e.1.len ≤ (if i < x.n then 5600096 else 5600000) ∧ e.2 ≤ T + 1 := fun i e hi => ⟨(o.len i e hi).1, Nat.le_succ_of_le (o.len i e hi).2⟩
  refine brr_p (fun hp => ?_) (fun hp => ?_)
  · refine brr_tt rfl ?_
    have O := O.sel [0, 1, 2, 3] 5 rfl (Nat.le_add_left _ _)
    rw [hL0] at O
    exact k h (Sat.bookNI (x := ⟨x.s0, x.s1, x.es, x.n, x.m0, x.m1, x.ms, x.mn, x.t + 1, x.d, x.u⟩) ⟨by show x.t + 1 ≤ T + 1; omega, o.n, o.room, o.u, olen, o.mn, o.mroom, fun i e hi => ⟨(o.mlen i e hi).1, Nat.le_succ_of_le (o.mlen i e hi).2⟩⟩ O)
  · have hp : ¬ (x.u : Int) + (1200 + 3 * (xs.length : Int)) > 16777216 := hp
    refine O.ld 0 rfl (ldL_c (ldL_n ?_))
    refine O.st 0 rfl (by simp) rfl fun h O => ?_
    dsimp only [V.put, List.set] at O
    rw [show (x.u : Int) + (1200 + 3 * (xs.length : Int)) = ((x.u + (1200 + 3 * xs.length) : Nat) : Int) by omega, wrap64 (by omega) (by omega)] at O
    refine brr_ff rfl ?_
    refine O.ld 0 rfl (ldL_c (k := .sl) (x := x.s0) (ldL_n ?_))
    have O := O.swap
    refine O.push_buf s rfl slc_len slc_one rfl (by rw [List.length_map]; omega) fun s2 h O _ => ?_
    have O := O.swap
    refine O.st 0 rfl (by simp) rfl fun h O => ?_
    dsimp only [V.put, List.set] at O
    refine O.ld 0 rfl (ldL_c (k := .sl) (x := x.s1) (ldL_n ?_))
    replace O := O.sel [2, 0, 1, 3, 4] 5 rfl (Nat.le_add_left _ _)
    simp only [selT, List.map, nth, List.drop, List.cons_append, List.nil_append] at O
    refine O.push_buf (x.t + 1) rfl natc_len natc_one rfl (by rw [List.length_map]; omega) fun s3 h O _ => ?_
    have O := O.swap
    refine O.st 0 rfl (by simp) rfl fun h O => ?_
    dsimp only [V.put, List.set] at O
    replace O := O.sel [4, 3, 0, 2, 1] 5 rfl (Nat.le_add_left _ _)
    simp only [selT, List.map, nth, List.drop, List.cons_append, List.nil_append] at O
    have O := fam_take O
    have O : Sat h0 h (famR (x.es ++ [(s, x.t + 1)]) :: own bk (bkM s2 s3 x.n x.m0 x.m1 x.mn (x.t + 1 : Nat) x.d (x.u + (1200 + 3 * xs.length) : Nat)) :: buf 1 slc s2 (x.es.map (·.1) ++ [s]) :: buf 1 natc s3 (x.es.map (·.2) ++ [x.t + 1]) :: L0) := O
    have e1 : x.es.map (·.1) ++ [s] = (x.es ++ [(s, x.t + 1)]).map (·.1) := by simp
    have e2 : x.es.map (·.2) ++ [x.t + 1] = (x.es ++ [(s, x.t + 1)]).map (·.2) := by simp
    rw [e1, e2] at O
    replace O := O.sel [1, 2, 3, 0] 4 rfl (Nat.le_add_left _ _)
    simp only [selT, List.map, nth, List.drop, List.cons_append, List.nil_append] at O
    have el : (x.es ++ [(s, x.t + 1)]).length = x.es.length + 1 := by simp
    rw [hL0] at O
    refine k h (Sat.bookNI (x := ⟨s2, s3, x.es ++ [(s, x.t + 1)], x.n, x.m0, x.m1, x.ms, x.mn, x.t + 1, x.d, x.u + (1200 + 3 * xs.length)⟩) ⟨by show x.t + 1 ≤ T + 1; omega, by show x.n ≤ (x.es ++ [(s, x.t + 1)]).length; omega, by show 120 * ((x.es ++ [(s, x.t + 1)]).length + 9 * ((x.es ++ [(s, x.t + 1)]).length - x.n)) ≤ x.u + (1200 + 3 * xs.length); omega, by show x.u + (1200 + 3 * xs.length) ≤ _; omega, fun i e hi => ?_, o.mn, by have := o.mroom; show 800 * (x.ms.length + 9 * (x.ms.length - x.mn)) ≤ x.u + (1200 + 3 * xs.length); omega, fun i e hi => ⟨(o.mlen i e hi).1, Nat.le_succ_of_le (o.mlen i e hi).2⟩⟩ O)
    have hi : (x.es ++ [(s, x.t + 1)])[i]? = some e := hi
    by_cases hlt : i < x.es.length
    · rw [List.getElem?_append_left hlt] at hi
      exact olen i e hi
    · rw [List.getElem?_append_right (by omega)] at hi
      have hi0 : i - x.es.length = 0 := by
        have := (List.getElem?_eq_some_iff.1 hi).1
        simp at this
        omega
      rw [hi0] at hi
      cases hi
      refine ⟨?_, by show x.t + 1 ≤ T + 1; omega⟩
      rw [if_neg (by show ¬ i < x.n; omega)]
      show s.len ≤ _
      omega
end
end Go.Proofs.YtigcpkejjjgkeaaGreat.V
namespace Go.Proofs.YtigcpkejjjgkeaaGreat.V
open Go Go.RowKit
set_option linter.unusedVariables false
set_option maxRecDepth 100000
def F_law10_QuorumFresh_of (f5_ : Int → Int → Int → Int → Int → Int → Sl → Bool → Heap → (Bool → Heap → Prop) → Prop) (s1 s2 s3 s4 s5 s6 : Int) (s7 : Sl) (h : Heap) (Q : Bool → Heap → Prop) : Prop :=
  al 25 [.int .i64 s1, .int .i64 s2, .int .i64 s3, .int .i64 s4, .int .i64 s5, .int .i64 s6, .slice s7.ptr s7.len s7.cap] h fun (a8 : Addr) (h9 : Heap) =>
  ld [.int .i64, .int .i64, .int .i64, .int .i64, .int .i64, .int .i64, .sl] a8 h9 fun (v10 v11 v12 v13 v14 v15 : Int) (v16 : Sl) =>
  f5_ v10 v11 v12 v13 v14 v15 v16 true h9 fun (r17 : Bool) (h18 : Heap) =>
  Q r17 h18
def F_law10_QuorumFresh (s1 s2 s3 s4 s5 s6 : Int) (s7 : Sl) (h : Heap) (Q : Bool → Heap → Prop) : Prop := F_law10_QuorumFresh_of F_law10_exact s1 s2 s3 s4 s5 s6 s7 h Q
def plan4 : Plan := .s (.r [1]) (.s (.r [2]) .z)
theorem F_law10_QuorumFresh.eq (f5_ : Int → Int → Int → Int → Int → Int → Sl → Bool → Heap → (Bool → Heap → Prop) → Prop) (s1 s2 s3 s4 s5 s6 : Int) (s7 : Sl) (h : Heap) (K : Value → Heap → Prop) : F_law10_QuorumFresh_of f5_ s1 s2 s3 s4 s5 s6 s7 h (fun (r0 : Bool) (h : Heap) => K (.bool r0) h) =
    den Tryz.prog (fn1 5 (E_law10_exact_of f5_) noFns) Tryz.f4.ntmps plan4 (bodyOf Tryz.f4) (args0 0 [(.agg #[.int .i64 s1, .int .i64 s2, .int .i64 s3, .int .i64 s4, .int .i64 s5, .int .i64 s6, .slice s7.ptr s7.len s7.cap] : Value)]) h ⟨fun env h => dRes Tryz.prog Tryz.f4.results.toList env h K, fun _ _ _ => False, fun env h => dRes Tryz.prog Tryz.f4.results.toList env h K⟩ := by kernel_rfl
def E_law10_QuorumFresh_of (f : Int → Int → Int → Int → Int → Int → Sl → Heap → (Bool → Heap → Prop) → Prop) : List Value → Heap → (Value → Heap → Prop) → Prop
  | [v0], h, K => vAgg v0 fun cs0 => decs [.int .i64, .int .i64, .int .i64, .int .i64, .int .i64, .int .i64, .sl] cs0.toList fun (s1 s2 s3 s4 s5 s6 : Int) (s7 : Sl) =>
  f s1 s2 s3 s4 s5 s6 s7 h (fun (r0 : Bool) (h : Heap) => K (.bool r0) h)
  | _, _, _ => False
abbrev E_law10_QuorumFresh := E_law10_QuorumFresh_of F_law10_QuorumFresh
theorem E_law10_QuorumFresh.at (f : Int → Int → Int → Int → Int → Int → Sl → Heap → (Bool → Heap → Prop) → Prop) (s1 s2 s3 s4 s5 s6 : Int) (s7 : Sl) (h : Heap) (K : Value → Heap → Prop) : E_law10_QuorumFresh_of f [.agg ([.int .i64 s1, .int .i64 s2, .int .i64 s3, .int .i64 s4, .int .i64 s5, .int .i64 s6, .slice s7.ptr s7.len s7.cap] : List Value).toArray] h K = f s1 s2 s3 s4 s5 s6 s7 h (fun (r0 : Bool) (h : Heap) => K (.bool r0) h) := rfl
theorem E_law10_QuorumFresh.right : IsRight Tryz.prog 4 E_law10_QuorumFresh := by
  refine isRight fun vs K w hh => ?_
  match vs, hh with
  | [v0], hh =>
    unfold E_law10_QuorumFresh E_law10_QuorumFresh_of at hh
    replace hh := vAgg_sound hh; obtain ⟨cs0, rfl, hh⟩ := hh
    replace hh := decs_cons hh; obtain ⟨s1, l0_0, e0_0, hh⟩ := hh
    replace hh := decs_cons hh; obtain ⟨s2, l0_1, e0_1, hh⟩ := hh
    replace hh := decs_cons hh; obtain ⟨s3, l0_2, e0_2, hh⟩ := hh
    replace hh := decs_cons hh; obtain ⟨s4, l0_3, e0_3, hh⟩ := hh
    replace hh := decs_cons hh; obtain ⟨s5, l0_4, e0_4, hh⟩ := hh
    replace hh := decs_cons hh; obtain ⟨s6, l0_5, e0_5, hh⟩ := hh
    replace hh := decs_cons hh; obtain ⟨s7, l0_6, e0_6, hh⟩ := hh
    replace hh := decs_nil hh; obtain ⟨rfl, hh⟩ := hh
    subst e0_6
    subst e0_5
    subst e0_4
    subst e0_3
    subst e0_2
    subst e0_1
    have ec0 := toArray_eq e0_0
    subst ec0
    unfold F_law10_QuorumFresh at hh
    exact calls_den (fn1_right ok5 E_law10_exact.right noFns_right) plan4 _ w K Tryz.func4 (by kernel_rfl) (by kernel_rfl) (Eq.mp (F_law10_QuorumFresh.eq F_law10_exact s1 s2 s3 s4 s5 s6 s7 w.heap K) hh)
theorem ok4 : okFn Tryz.prog 4 = true := by kernel_rfl
end Go.Proofs.YtigcpkejjjgkeaaGreat.V
/- The Book takes messages; QuorumFresh. -/
namespace Go.Proofs.YtigcpkejjjgkeaaGreat.V
open Go Go.RowKit
set_option linter.unusedVariables false
set_option linter.unusedSimpArgs false

theorem set_flatM {xs : List Mg} {sp : List Value} {i : Nat} {y : Mg} (hi : i < xs.length) : V.put (xs.flatMap mgC ++ sp) (i * 22) (mgC y) = (xs.set i y).flatMap mgC ++ sp := by
  have e : xs = xs.take i ++ (xs[i] :: xs.drop (i + 1)) := by rw [← List.drop_eq_getElem_cons hi, List.take_append_drop]
  have hl := flatMap_len mgC_len (xs.take i)
  rw [List.length_take, Nat.min_eq_left (by omega)] at hl
  have e1 : xs.flatMap mgC ++ sp = (xs.take i).flatMap mgC ++ (mgC xs[i] ++ ((xs.drop (i + 1)).flatMap mgC ++ sp)) := by
    conv => lhs; rw [e]
    rw [List.flatMap_append, List.flatMap_cons, List.append_assoc, List.append_assoc]
  have e2 : xs.set i y = xs.take i ++ (y :: xs.drop (i + 1)) := by
    rw [List.set_eq_take_append_cons_drop, if_pos hi]
  rw [e1, ← hl, put_app _ _ _ (by rw [List.length_append, mgC_len, mgC_len]; omega), e2, List.flatMap_append, List.flatMap_cons, mgC_len]
  rw [List.drop_append_of_le_length (by rw [mgC_len]; exact Nat.le_refl _), List.drop_of_length_le (by rw [mgC_len]; exact Nat.le_refl _)]
  simp only [List.append_assoc, List.nil_append]
theorem Sat.putM {h0 h : Heap} {L : List Res} {s : Sl} {xs : List Mg} {i : Int} {K : Heap → Prop} (O : Sat h0 h (buf 22 mgC s xs :: L)) (hi0 : 0 ≤ i) (hi1 : i < (xs.length : Int)) (y : Mg) {cs : List Value} (hcs : cs = mgC y) (k : ∀ h', Sat h0 h' (buf 22 mgC s (xs.set i.toNat y) :: L) → K h') : ixS 22 s i fun a => V.st a cs h K := by
  subst hcs
  obtain ⟨sp, O⟩ := O.ex
  obtain ⟨E, ⟨E1, E2, p, hA, h2⟩, O⟩ := O
  have O := O.perm p.symm
  rcases hA with ⟨rfl, rfl, _, _⟩ | ⟨b, j, rfl, hsp, rfl⟩
  · simp at hi1; omega
  · refine ⟨pt b 0, rfl, hi0, hi1, ?_⟩
    rw [pt_add, Nat.zero_add]
    have hl := flatMap_len mgC_len xs
    refine Held.st O (by rw [mgC_len, List.length_append, hl]; omega) (mgC_one y) fun h' O' => ?_
    rw [set_flatM (by omega)] at O'
    exact k _ ⟨_, ⟨[(b, _)], E2, List.Perm.refl _, ⟨sp, .inr ⟨b, j, by simp, hsp, rfl⟩⟩, h2⟩, O'⟩
theorem rep_set {y : Mg} {ls : List Mg} {i : Nat} (hi : i < ls.length) : (List.replicate i y ++ ls.drop i).set i y = List.replicate (i + 1) y ++ ls.drop (i + 1) := by
  rw [List.set_append_right _ _ (by rw [List.length_replicate]; exact Nat.le_refl _), List.length_replicate, Nat.sub_self, List.drop_eq_getElem_cons hi, List.set_cons_zero, List.replicate_succ', List.append_assoc]
  rfl
section
variable {h0 h : Heap} {L : List Res} {bk T : Nat}
theorem F_law1_Book_Msgs.is {s : Sl} {ms : List Mg} {Q : Heap → Prop} (hT : T ≤ 100000000) (hlen : ms.length ≤ 16) (hb : ∀ m ∈ ms, m.b.length ≤ (140737488355325 : Nat)) (O : Sat h0 h (msgsR s ms :: bkN bk T :: L)) (k : ∀ h', Sat h0 h' (bkN bk (T + ms.length + 1) :: L) → Q h') : F_law1_Book_Msgs (some (pt bk 0)) s h Q := by
  rw [F_law1_Book_Msgs.eq_1, F_law1_Book_Msgs_of.eq_1]
  obtain ⟨ls, el, O⟩ := O.msgs
  have ell : ls.length = ms.length := by have := congrArg List.length el; simpa using this
  have hbl : ∀ x ∈ ls, x.b.length ≤ (140737488355325 : Nat) := fun x hx => hb x.bare (by rw [← el]; exact List.mem_map.2 ⟨x, hx, rfl⟩)
  have hsl := (O.view 0 mgC_len (by simp) rfl).1.len
  refine jn0 (fun h' => Sat h0 h' (buf 22 mgC s ls :: bkN bk (T + ls.length) :: L)) ?_ ?_
  case refine_2 =>
    intro j hj
    rw [F_law1_Book_Msgs.l1.eq_1]
    refine wl1 (k := .int .i64) (fun (m : Nat) (i : Int) (h' : Heap) => i + m = ls.length ∧ 0 ≤ i ∧ Sat h0 h' (buf 22 mgC s ls :: many mvR (ls.drop i.toNat) :: bkN bk (T + i.toNat) :: L)) ?_ (m := ls.length) ⟨by omega, by omega, O⟩
    clear O
    rintro m (i : Int) h next hnx ⟨him, hi0, O⟩
    rw [hsl]
    refine brr_p (fun hlt => ?_) (fun hlt => hj _ ?_)
    case refine_2 =>
      rw [show i.toNat = ls.length by omega] at O
      exact O.sel [0, 2] 3 rfl (Nat.le_add_left _ _)
    have hil : i.toNat < ls.length := by omega
    obtain ⟨x, hx⟩ : ∃ x, ls[i.toNat]? = some x := ⟨_, List.getElem?_eq_getElem hil⟩
    have hx2 := (List.getElem?_eq_some_iff.1 hx).2
    have V := (O.view 0 mgC_len (by simp) rfl).1
    refine V.getP hi0 hx fun a ha => ld_drop (ha V) 10 (ldL_c (k := .sl) (x := x.v) (ldL_n ?_))
    have ed : ls.drop i.toNat = x :: ls.drop (i.toNat + 1) := by rw [List.drop_eq_getElem_cons hil, hx2]
    rw [ed] at O
    have O2 : Sat h0 h (sep (mvR x) (many mvR (ls.drop (i.toNat + 1))) :: buf 22 mgC s ls :: bkN bk (T + i.toNat) :: L) := O.sel [1, 0, 2] 3 rfl (Nat.le_add_left _ _)
    have O2 := O2.sep
    have O2 : Sat h0 h (buf 1 u8 x.v x.b :: bkN bk (T + i.toNat) :: many mvR (ls.drop (i.toNat + 1)) :: buf 22 mgC s ls :: L) := O2.sel [0, 3, 1, 2] 4 rfl (Nat.le_add_left _ _)
    refine F_law1_Book_Bytes.is (by omega) (by have := hbl x (List.mem_of_getElem? hx); omega) O2 fun h O => ?_
    rw [wrap64 (by omega) (by omega)]
    refine hnx (m - 1) _ _ (by omega) ⟨by omega, by omega, ?_⟩
    rw [show (i + 1).toNat = i.toNat + 1 by omega]
    exact O.sel [2, 1, 0] 3 rfl (Nat.le_add_left _ _)
  clear O
  intro h O
  obtain ⟨x, o, O⟩ := O.swap.bookN
  have h1 := o.room; have h2 := o.u; have h3 := o.n; have h4 := o.t; have h5 := o.mroom; have h6 := o.mn
  unfold bkM at O
  refine ⟨_, rfl, ?_⟩
  refine O.ld 0 rfl (ldL_c (ldL_n ?_))
  refine ⟨_, rfl, ?_⟩
  refine st_ad (b := bk) (o := 36) rfl ?_
  refine O.st 0 rfl (by simp) rfl fun h O => ?_
  dsimp only [V.put, List.set] at O
  rw [wrap64 (by omega) (by omega)] at O
  refine ⟨_, rfl, ?_⟩
  refine O.ld 0 rfl (ldL_c (ldL_n ?_))
  have em : (x.t : Int) + 1 = ((x.t + 1 : Nat) : Int) := by omega
  rw [em] at O ⊢
  have O : Sat h0 h (own bk (bkM x.s0 x.s1 x.n x.m0 x.m1 x.mn (x.t + 1 : Nat) x.d x.u) :: buf 1 slc x.s0 (x.es.map (·.1)) :: buf 1 natc x.s1 (x.es.map (·.2)) :: famR x.es :: buf 1 slc x.m0 (x.ms.map (·.1)) :: buf 1 natc x.m1 (x.ms.map (·.2)) :: famM x.ms :: buf 22 mgC s ls :: L) := O
  refine F_law1_msgsMark.is (by omega) O fun h O => ?_
  refine O.al fun a40 h O => ?_
  refine O.st 0 rfl (by simp) rfl fun h O => ?_
  dsimp only [V.put, List.set] at O
  have O : Sat h0 h (own a40 (mgC (mkM (x.t + 1))) :: own bk (bkM x.s0 x.s1 x.n x.m0 x.m1 x.mn (x.t + 1 : Nat) x.d x.u) :: buf 1 slc x.s0 (x.es.map (·.1)) :: buf 1 natc x.s1 (x.es.map (·.2)) :: famR x.es :: buf 1 slc x.m0 (x.ms.map (·.1)) :: buf 1 natc x.m1 (x.ms.map (·.2)) :: famM x.ms :: buf 22 mgC s ls :: L) := O
  have O : Sat h0 h (buf 22 mgC s ls :: own a40 (mgC (mkM (x.t + 1))) :: own bk (bkM x.s0 x.s1 x.n x.m0 x.m1 x.mn (x.t + 1 : Nat) x.d x.u) :: buf 1 slc x.s0 (x.es.map (·.1)) :: buf 1 natc x.s1 (x.es.map (·.2)) :: famR x.es :: buf 1 slc x.m0 (x.ms.map (·.1)) :: buf 1 natc x.m1 (x.ms.map (·.2)) :: famM x.ms :: L) := O.sel [8, 0, 1, 2, 3, 4, 5, 6, 7] 9 rfl (Nat.le_add_left _ _)
  refine jn0 (fun h' => Sat h0 h' (buf 22 mgC s (List.replicate s.len (mkM (x.t + 1))) :: own bk (bkM x.s0 x.s1 x.n x.m0 x.m1 x.mn (x.t + 1 : Nat) x.d x.u) :: buf 1 slc x.s0 (x.es.map (·.1)) :: buf 1 natc x.s1 (x.es.map (·.2)) :: famR x.es :: buf 1 slc x.m0 (x.ms.map (·.1)) :: buf 1 natc x.m1 (x.ms.map (·.2)) :: famM x.ms :: L)) ?_ ?_
  case refine_2 =>
    intro j hj
    rw [F_law1_Book_Msgs.l2.eq_1]
    refine wl1 (k := .int .i64) (fun (m : Nat) (i : Int) (h' : Heap) => i + m = ls.length ∧ 0 ≤ i ∧ Sat h0 h' (buf 22 mgC s (List.replicate i.toNat (mkM (x.t + 1)) ++ ls.drop i.toNat) :: own a40 (mgC (mkM (x.t + 1))) :: own bk (bkM x.s0 x.s1 x.n x.m0 x.m1 x.mn (x.t + 1 : Nat) x.d x.u) :: buf 1 slc x.s0 (x.es.map (·.1)) :: buf 1 natc x.s1 (x.es.map (·.2)) :: famR x.es :: buf 1 slc x.m0 (x.ms.map (·.1)) :: buf 1 natc x.m1 (x.ms.map (·.2)) :: famM x.ms :: L)) ?_ (m := ls.length) ⟨by omega, by omega, by rw [show (List.replicate (0 : Int).toNat (mkM (x.t + 1)) ++ ls.drop (0 : Int).toNat) = ls from rfl]; exact O⟩
    clear O
    rintro m (i : Int) h next hnx ⟨him, hi0, O⟩
    rw [hsl]
    refine brr_p (fun hlt => ?_) (fun hlt => hj _ ?_)
    case refine_2 =>
      rw [show i.toNat = ls.length by omega, List.drop_length, List.append_nil, ← hsl] at O
      exact O.sel [0, 2, 3, 4, 5, 6, 7, 8] 9 rfl (Nat.le_add_left _ _)
    have hil : i.toNat < ls.length := by omega
    refine O.ld 1 rfl ?_
    unfold mgC
    repeat (first | (with_reducible refine ldL_n ?_) | refine ldL_s ?_ | refine ldL_c ?_)
    refine O.putM hi0 (by rw [List.length_append, List.length_replicate, List.length_drop]; omega) (mkM (x.t + 1)) rfl fun h O => ?_
    rw [rep_set hil] at O
    rw [wrap64 (by omega) (by omega)]
    refine hnx (m - 1) _ _ (by omega) ⟨by omega, by omega, ?_⟩
    rw [show (i + 1).toNat = i.toNat + 1 by omega]
    exact O
  clear O
  intro h O
  rw [F_law1_Book_tight.eq_1, F_law1_Book_tight_of.eq_1]
  obtain ⟨M0, hM0⟩ : ∃ M0, M0 = buf 1 slc x.s0 (x.es.map (·.1)) :: buf 1 natc x.s1 (x.es.map (·.2)) :: famR x.es :: L := ⟨_, rfl⟩
  have O : Sat h0 h (own bk (bkM x.s0 x.s1 x.n x.m0 x.m1 x.mn (x.t + 1 : Nat) x.d x.u) :: buf 1 slc x.m0 (x.ms.map (·.1)) :: buf 1 natc x.m1 (x.ms.map (·.2)) :: famM x.ms :: buf 22 mgC s (List.replicate s.len (mkM (x.t + 1))) :: M0) := by
    rw [hM0]
    exact O.sel [1, 5, 6, 7, 0, 2, 3, 4] 8 rfl (Nat.le_add_left _ _)
  unfold bkM at O
  refine ⟨_, rfl, ?_⟩
  refine O.ld 0 rfl (ldL_c (ldL_n ?_))
  have ew : IntKind.i64.wrap (8000 + IntKind.i64.wrap (300 * ((s.len : Nat) : Int))) = 8000 + 300 * (ls.length : Int) := by
    rw [hsl, wrap64 (x := 300 * (ls.length : Int)) (by omega) (by omega), wrap64 (by omega) (by omega)]
  rw [ew, wrap64 (x := (x.u : Int) + (8000 + 300 * (ls.length : Int))) (by omega) (by omega)]
  have omlen : ∀ (i : Nat) e, x.ms[i]? = some e → e.1.len ≤ (if i < x.mn then 100 else 50) ∧ e.2 ≤ T + ms.length + 1 := fun i e hi => ⟨(o.mlen i e hi).1, by have := (o.mlen i e hi).2; omega⟩
  have olen : ∀ (i : Nat) e, x.es[i]? = some e → e.1.len ≤ (if i < x.n then 5600096 else 5600000) ∧ e.2 ≤ T + ms.length + 1 := fun i e hi => ⟨(o.len i e hi).1, by have := (o.len i e hi).2; omega⟩
  refine brr_p (fun hp => ?_) (fun hp => ?_)
  · refine brr_tt rfl ?_
    rw [hM0] at O
    have O : Sat h0 h (own bk (bkM x.s0 x.s1 x.n x.m0 x.m1 x.mn (x.t + 1 : Nat) x.d x.u) :: buf 1 slc x.s0 (x.es.map (·.1)) :: buf 1 natc x.s1 (x.es.map (·.2)) :: famR x.es :: buf 1 slc x.m0 (x.ms.map (·.1)) :: buf 1 natc x.m1 (x.ms.map (·.2)) :: famM x.ms :: L) := O.sel [0, 5, 6, 7, 1, 2, 3] 8 rfl (Nat.le_add_left _ _)
    exact k h (Sat.bookNI (x := ⟨x.s0, x.s1, x.es, x.n, x.m0, x.m1, x.ms, x.mn, x.t + 1, x.d, x.u⟩) ⟨by show x.t + 1 ≤ T + ms.length + 1; omega, o.n, o.room, o.u, olen, o.mn, o.mroom, omlen⟩ O)
  · have hp : ¬ (x.u : Int) + (8000 + 300 * (ls.length : Int)) > 16777216 := hp
    refine ⟨_, rfl, ?_⟩
    refine O.ld 0 rfl (ldL_c (ldL_n ?_))
    refine ⟨_, rfl, ?_⟩
    refine st_ad (b := bk) (o := 38) rfl ?_
    refine O.st 0 rfl (by simp) rfl fun h O => ?_
    dsimp only [V.put, List.set] at O
    rw [show (x.u : Int) + (8000 + 300 * (ls.length : Int)) = ((x.u + (8000 + 300 * ls.length) : Nat) : Int) by omega, wrap64 (by omega) (by omega)] at O
    refine brr_ff rfl ?_
    refine ⟨_, rfl, ?_⟩
    refine O.ld 0 rfl (ldL_c (k := .sl) (x := x.m0) (ldL_n ?_))
    have O := O.swap
    refine O.push_buf s rfl slc_len slc_one rfl (by rw [List.length_map]; omega) fun s2 h O _ => ?_
    have O := O.swap
    refine ⟨_, rfl, ?_⟩
    refine st_ad (b := bk) (o := 27) rfl ?_
    refine O.st 0 rfl (by simp) rfl fun h O => ?_
    dsimp only [V.put, List.set] at O
    refine ⟨_, rfl, ?_⟩
    refine O.ld 0 rfl (ldL_c (k := .sl) (x := x.m1) (ldL_n ?_))
    replace O := O.sel [2, 0, 1, 3, 4] 5 rfl (Nat.le_add_left _ _)
    simp only [selT, List.map, nth, List.drop, List.cons_append, List.nil_append] at O
    refine O.push_buf (x.t + 1) rfl natc_len natc_one rfl (by rw [List.length_map]; omega) fun s3 h O _ => ?_
    have O := O.swap
    refine ⟨_, rfl, ?_⟩
    refine st_ad (b := bk) (o := 28) rfl ?_
    refine O.st 0 rfl (by simp) rfl fun h O => ?_
    dsimp only [V.put, List.set] at O
    replace O := O.sel [4, 3, 0, 2, 1] 5 rfl (Nat.le_add_left _ _)
    simp only [selT, List.map, nth, List.drop, List.cons_append, List.nil_append] at O
    have O := famM_take O
    have O : Sat h0 h (famM (x.ms ++ [(s, x.t + 1)]) :: own bk (bkM x.s0 x.s1 x.n s2 s3 x.mn (x.t + 1 : Nat) x.d (x.u + (8000 + 300 * ls.length) : Nat)) :: buf 1 slc s2 (x.ms.map (·.1) ++ [s]) :: buf 1 natc s3 (x.ms.map (·.2) ++ [x.t + 1]) :: M0) := O
    have e1 : x.ms.map (·.1) ++ [s] = (x.ms ++ [(s, x.t + 1)]).map (·.1) := by simp
    have e2 : x.ms.map (·.2) ++ [x.t + 1] = (x.ms ++ [(s, x.t + 1)]).map (·.2) := by simp
    rw [e1, e2, hM0] at O
    have O : Sat h0 h (own bk (bkM x.s0 x.s1 x.n s2 s3 x.mn (x.t + 1 : Nat) x.d (x.u + (8000 + 300 * ls.length) : Nat)) :: buf 1 slc x.s0 (x.es.map (·.1)) :: buf 1 natc x.s1 (x.es.map (·.2)) :: famR x.es :: buf 1 slc s2 ((x.ms ++ [(s, x.t + 1)]).map (·.1)) :: buf 1 natc s3 ((x.ms ++ [(s, x.t + 1)]).map (·.2)) :: famM (x.ms ++ [(s, x.t + 1)]) :: L) := O.sel [1, 4, 5, 6, 2, 3, 0] 7 rfl (Nat.le_add_left _ _)
    have el2 : (x.ms ++ [(s, x.t + 1)]).length = x.ms.length + 1 := by simp
    refine k h (Sat.bookNI (x := ⟨x.s0, x.s1, x.es, x.n, s2, s3, x.ms ++ [(s, x.t + 1)], x.mn, x.t + 1, x.d, x.u + (8000 + 300 * ls.length)⟩) ⟨by show x.t + 1 ≤ T + ms.length + 1; omega, o.n, by show 120 * (x.es.length + 9 * (x.es.length - x.n)) ≤ x.u + (8000 + 300 * ls.length); omega, by show x.u + (8000 + 300 * ls.length) ≤ _; omega, olen, by show x.mn ≤ (x.ms ++ [(s, x.t + 1)]).length; omega, by show 800 * ((x.ms ++ [(s, x.t + 1)]).length + 9 * ((x.ms ++ [(s, x.t + 1)]).length - x.mn)) ≤ x.u + (8000 + 300 * ls.length); omega, fun i e hi => ?_⟩ O)
    have hi : (x.ms ++ [(s, x.t + 1)])[i]? = some e := hi
    by_cases hlt : i < x.ms.length
    · rw [List.getElem?_append_left hlt] at hi
      exact omlen i e hi
    · rw [List.getElem?_append_right (by omega)] at hi
      have hi0 : i - x.ms.length = 0 := by
        have := (List.getElem?_eq_some_iff.1 hi).1
        simp at this
        omega
      rw [hi0] at hi
      cases hi
      refine ⟨?_, by show x.t + 1 ≤ T + ms.length + 1; omega⟩
      rw [if_neg (by show ¬ i < x.mn; omega)]
      show s.len ≤ _
      omega
theorem bkN_up {T' : Nat} (ht : T ≤ T') (O : Sat h0 h (bkN bk T :: L)) : Sat h0 h (bkN bk T' :: L) := by
  obtain ⟨x, o, O⟩ := O.bookN
  exact Sat.bookNI (x := x) ⟨Nat.le_trans o.t ht, o.n, o.room, o.u, fun i e hi => ⟨(o.len i e hi).1, Nat.le_trans (o.len i e hi).2 ht⟩, o.mn, o.mroom, fun i e hi => ⟨(o.mlen i e hi).1, Nat.le_trans (o.mlen i e hi).2 ht⟩⟩ O
theorem bkN_start (O : Sat h0 h (own bk (bkM ⟨none, 0, 0⟩ ⟨none, 0, 0⟩ 0 ⟨none, 0, 0⟩ ⟨none, 0, 0⟩ 0 0 0 0) :: L)) : Sat h0 h (bkN bk 0 :: L) := by
  have O := (((((famM.none (famR.none O)).nil_buf (sz := 1) (enc := natc)).nil_buf (sz := 1) (enc := slc)).nil_buf (sz := 1) (enc := natc)).nil_buf (sz := 1) (enc := slc))
  exact Sat.bookNI (x := ⟨⟨none, 0, 0⟩, ⟨none, 0, 0⟩, [], 0, ⟨none, 0, 0⟩, ⟨none, 0, 0⟩, [], 0, 0, 0, 0⟩) ⟨Nat.le_refl _, Nat.le_refl _, by simp, by decide, fun i e hi => by simp at hi, Nat.le_refl _, by simp, fun i e hi => by simp at hi⟩ (O.sel [6, 0, 1, 5, 2, 3, 4] 7 rfl (Nat.le_add_left _ _))
end
theorem bkN_ok {H : Heap} (bk : Nat) : BkOk H bk true (bkN bk) where
  up ht O := bkN_up ht O
  look hT O k := F_law1_Book_Look.is (by omega) O k
  bytes _ {h L T s xs Q} hT hx O k := F_law1_Book_Bytes.is (by omega) (by omega) O k
  msgs _ {h L T s ms Q} hT hl hb O k := F_law1_Book_Msgs.is hT hl hb O fun h' O => k h' (bkN_up (by omega) O)
theorem quorumFresh_main (H : Heap) (cs : List Value) (F : Fit H 140737488351232 tyQScript cs) : E_law10_QuorumFresh [.agg cs.toArray] H (fun r h' => r = .bool true ∧ KeptH H h') := by
  replace F := Fit.g F
  obtain ⟨t1, _, rfl, t1a, t1b, F⟩ := Fit.i F
  replace F := Fit.g F
  obtain ⟨t2, _, rfl, t2a, t2b, F⟩ := Fit.i F
  replace F := Fit.z F
  replace F := Fit.g F
  obtain ⟨t3, _, rfl, t3a, t3b, F⟩ := Fit.i F
  replace F := Fit.g F
  obtain ⟨t4, _, rfl, t4a, t4b, F⟩ := Fit.i F
  replace F := Fit.z F
  replace F := Fit.g F
  obtain ⟨t5, _, rfl, t5a, t5b, F⟩ := Fit.i F
  replace F := Fit.g F
  obtain ⟨t6, _, rfl, t6a, t6b, F⟩ := Fit.i F
  replace F := Fit.z F
  obtain ⟨t7, _, rfl, t7S, F⟩ := Fit.s F
  obtain rfl := Fit.e F
  refine Eq.mpr (E_law10_QuorumFresh.at F_law10_QuorumFresh t1 t2 t3 t4 t5 t6 t7 H _) ?_
  obtain ⟨ops, Vo⟩ := t7S.qops
  rw [F_law10_QuorumFresh.eq_1, F_law10_QuorumFresh_of.eq_1]
  refine Sat.al (Sat.nil H) fun a8 h1 O => ?_
  refine O.ld 0 rfl (ldL_c (ldL_c (ldL_c (ldL_c (ldL_c (ldL_c (ldL_c (k := .sl) (x := t7) (ldL_n ?_))))))))
  exact F_law10_exact.is (B := bkN) bkN_ok bkN_start Vo O fun h' hk => ⟨rfl, hk⟩
end Go.Proofs.YtigcpkejjjgkeaaGreat.V
