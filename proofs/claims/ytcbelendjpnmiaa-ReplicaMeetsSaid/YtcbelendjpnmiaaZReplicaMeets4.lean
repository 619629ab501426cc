import Derived.Test.YtcbelendjpnmiaaZReplicaMeets3
import Derived.Test.YtcbelendjpnmiaaProg
namespace Go.Proofs.Ytcbelendjpnmiaa.V
open Go Go.RowKit
set_option linter.unusedVariables false
set_option maxRecDepth 100000
def F_law1_Book_holds_of (f72_ : Option Addr → Heap → (Bool → Heap → Prop) → Prop) (f73_ : Option Addr → Heap → (Bool → Heap → Prop) → Prop) (f74_ : Option Addr → Heap → (Bool → Heap → Prop) → Prop) (f75_ : Option Addr → Heap → (Bool → Heap → Prop) → Prop) (b1 : Option Addr) (h : Heap) (Q : Bool → Heap → Prop) : Prop :=
  jn [(2, .one .bool)] (fun (x11 : Bool) (h12 : Heap) =>
  Q x11 h12) (fun (j2 : Bool → Heap → Prop) =>
  f72_ b1 h fun (r3 : Bool) (h4 : Heap) =>
  brr r3
  (f73_ b1 h4 fun (r5 : Bool) (h6 : Heap) =>
  brr r5
  (f74_ b1 h6 fun (r7 : Bool) (h8 : Heap) =>
  brr r7
  (f75_ b1 h8 fun (r9 : Bool) (h10 : Heap) =>
  j2 r9 h10)
  (j2 false h8))
  (j2 false h6))
  (j2 false h4))
def F_law1_Book_holds (b1 : Option Addr) (h : Heap) (Q : Bool → Heap → Prop) : Prop := F_law1_Book_holds_of F_law1_Book_plain F_law1_Book_kept F_law1_Book_told F_law1_Book_held b1 h Q
def plan55 : Plan := .s (.r [0]) (.s (.rj [(2, .one .bool)] []) .z)
theorem F_law1_Book_holds.eq (f72_ : Option Addr → Heap → (Bool → Heap → Prop) → Prop) (f73_ : Option Addr → Heap → (Bool → Heap → Prop) → Prop) (f74_ : Option Addr → Heap → (Bool → Heap → Prop) → Prop) (f75_ : Option Addr → Heap → (Bool → Heap → Prop) → Prop) (b1 : Option Addr) (h : Heap) (K : Value → Heap → Prop) : F_law1_Book_holds_of f72_ f73_ f74_ f75_ b1 h (fun (r0 : Bool) (h : Heap) => K (.bool r0) h) =
    den Try.prog (fn1 72 (E_law1_Book_plain_of f72_) (fn1 73 (E_law1_Book_kept_of f73_) (fn1 74 (E_law1_Book_told_of f74_) (fn1 75 (E_law1_Book_held_of f75_) noFns)))) Try.f55.ntmps plan55 (bodyOf Try.f55) (args0 0 [(.pointer b1 : Value)]) h ⟨fun env h => dRes Try.prog Try.f55.results.toList env h K, fun _ _ _ => False, fun env h => dRes Try.prog Try.f55.results.toList env h K⟩ := by kernel_rfl
def E_law1_Book_holds_of (f : Option Addr → Heap → (Bool → Heap → Prop) → Prop) : List Value → Heap → (Value → Heap → Prop) → Prop
  | [v0], h, K => dec1 .ptr v0 fun (b1 : Option Addr) =>
  f b1 h (fun (r0 : Bool) (h : Heap) => K (.bool r0) h)
  | _, _, _ => False
abbrev E_law1_Book_holds := E_law1_Book_holds_of F_law1_Book_holds
theorem E_law1_Book_holds.right : IsRight Try.prog 55 E_law1_Book_holds := by
  refine isRight fun vs K w hh => ?_
  match vs, hh with
  | [v0], hh =>
    unfold E_law1_Book_holds E_law1_Book_holds_of at hh
    replace hh := dec1_sound hh; obtain ⟨b1, rfl, hh⟩ := hh
    unfold F_law1_Book_holds at hh
    exact calls_den (fn1_right ok72 E_law1_Book_plain.right (fn1_right ok73 E_law1_Book_kept.right (fn1_right ok74 E_law1_Book_told.right (fn1_right ok75 E_law1_Book_held.right noFns_right)))) plan55 _ w K Try.func55 (by kernel_rfl) (by kernel_rfl) (Eq.mp (F_law1_Book_holds.eq F_law1_Book_plain F_law1_Book_kept F_law1_Book_told F_law1_Book_held b1 w.heap K) hh)
theorem ok55 : okFn Try.prog 55 = true := by kernel_rfl
end Go.Proofs.Ytcbelendjpnmiaa.V
namespace Go.Proofs.Ytcbelendjpnmiaa.V
open Go Go.RowKit
set_option linter.unusedVariables false
set_option maxRecDepth 100000
def F_law1_Book_growBytes.l1 (f88_ : Int → Int → Heap → (Int → Heap → Prop) → Prop) (b1 : Option Addr) (v18 : Int) (j19 : Heap → Prop) : Sl → Int → Heap → Prop :=
  wl [(4, .one .sl), (6, .one (.int .i64))] (fun (next20 : Sl → Int → Heap → Prop) (g21 : Sl) (i22 : Int) (h23 : Heap) =>
  brr (decide (i22 ≤ 96))
  (f88_ v18 ((g21.len : Nat) : Int) h23 fun (r24 : Int) (h25 : Heap) =>
  al 5 [.int .u8 r24] h25 fun (a26 : Addr) (h27 : Heap) =>
  app 5 1 1 (.int .u8 0) g21 (some a26) 1 h27 fun (s28 : Sl) (h29 : Heap) =>
  jn [(52, .one .bool)] (fun (x31 : Bool) (h32 : Heap) =>
  jn [] (fun  (h50 : Heap) =>
  next20 s28 (IntKind.i64.wrap (i22 + 1)) h50) (fun (j33 : Heap → Prop) =>
  brr x31
  (nn b1 fun (a34 : Addr) =>
  ld [.sl] (a34.add 0) h32 fun (v35 : Sl) =>
  al 29 [.slice s28.ptr s28.len s28.cap] h32 fun (a36 : Addr) (h37 : Heap) =>
  app 29 1 24 (.slice none 0 0) v35 (some a36) 1 h37 fun (s38 : Sl) (h39 : Heap) =>
  nn b1 fun (a40 : Addr) =>
  st (a40.add 0) [.slice s38.ptr s38.len s38.cap] h39 fun (h41 : Heap) =>
  nn b1 fun (a42 : Addr) =>
  ld [.sl] (a42.add 1) h41 fun (v43 : Sl) =>
  al 3 [.int .i64 v18] h41 fun (a44 : Addr) (h45 : Heap) =>
  app 3 1 8 (.int .i64 0) v43 (some a44) 1 h45 fun (s46 : Sl) (h47 : Heap) =>
  nn b1 fun (a48 : Addr) =>
  st (a48.add 1) [.slice s46.ptr s46.len s46.cap] h47 fun (h49 : Heap) =>
  j33 h49)
  (j33 h32))) (fun (j30 : Bool → Heap → Prop) =>
  brr (decide (i22 < 4))
  (j30 true h29)
  ((16 : Int) ≠ 0 ∧
  j30 ((i22.tmod 16) == 0) h29)))
  (j19 h23))
def F_law1_Book_growBytes.l2 (f88_ : Int → Int → Heap → (Int → Heap → Prop) → Prop) (b1 : Option Addr) (v3 : Sl) (j6 : Heap → Prop) : Int → Heap → Prop :=
  wl [(3, .one (.int .i64))] (fun (next7 : Int → Heap → Prop) (k8 : Int) (h9 : Heap) =>
  brr (decide (k8 < ((v3.len : Nat) : Int)))
  (jn [] (fun  (h52 : Heap) =>
  next7 (IntKind.i64.wrap (k8 + 1)) h52) (fun (j10 : Heap → Prop) =>
  nn b1 fun (a11 : Addr) =>
  ld [.sl] (a11.add 0) h9 fun (v12 : Sl) =>
  ixS 1 v12 k8 fun (a13 : Addr) =>
  ld [.sl] a13 h9 fun (v14 : Sl) =>
  nn b1 fun (a15 : Addr) =>
  ld [.sl] (a15.add 1) h9 fun (v16 : Sl) =>
  ixS 1 v16 k8 fun (a17 : Addr) =>
  ld [.int .i64] a17 h9 fun (v18 : Int) =>
  jn [] (fun  (h51 : Heap) =>
  j10 h51) (fun (j19 : Heap → Prop) =>
  F_law1_Book_growBytes.l1 f88_ b1 v18 j19 v14 1 h9)))
  (j6 h9))
def F_law1_Book_growBytes_of (f88_ : Int → Int → Heap → (Int → Heap → Prop) → Prop) (b1 : Option Addr) (h : Heap) (Q : Heap → Prop) : Prop :=
  nn b1 fun (a2 : Addr) =>
  ld [.sl] (a2.add 0) h fun (v3 : Sl) =>
  nn b1 fun (a4 : Addr) =>
  ld [.int .i64] (a4.add 2) h fun (v5 : Int) =>
  jn [] (fun  (h53 : Heap) =>
  nn b1 fun (a54 : Addr) =>
  ld [.sl] (a54.add 0) h53 fun (v55 : Sl) =>
  nn b1 fun (a56 : Addr) =>
  st (a56.add 2) [.int .i64 ((v55.len : Nat) : Int)] h53 fun (h57 : Heap) =>
  Q h57) (fun (j6 : Heap → Prop) =>
  F_law1_Book_growBytes.l2 f88_ b1 v3 j6 v5 h)
def F_law1_Book_growBytes (b1 : Option Addr) (h : Heap) (Q : Heap → Prop) : Prop := F_law1_Book_growBytes_of F_law1_at b1 h Q
def plan76 : Plan := .s (.r [0, 2]) (.s (.s (.r [0, 2, 3]) (.bj [] [0] (.l [(3, .one (.int .i64))] [0, 2] (.s (.s (.r [0, 2, 3, 18]) (.c .z .z)) (.s (.bj [] [0, 2, 3] (.s (.r [0, 2, 3, 4]) (.s (.r [0, 2, 3, 4, 5]) (.s (.r [0, 2, 3, 4, 5, 6]) (.bj [] [0, 2, 3] (.l [(4, .one .sl), (6, .one (.int .i64))] [0, 2, 3, 5] (.s (.s (.r [0, 2, 3, 4, 5, 6, 36]) (.c .z .z)) (.s (.b (.s (.r [0, 2, 3, 4, 5, 6]) (.s (.rj [(52, .one .bool)] [0, 2, 3, 4, 5, 6]) (.cj [] [0, 2, 3, 4, 5, 6] (.s (.r [0, 2, 3, 4, 5, 6]) (.r [0, 2, 3, 4, 5, 6])) .z)))) (.r [0, 2, 3, 4, 5, 6]))))))))) (.r [0, 2, 3])))))) (.r []))
theorem F_law1_Book_growBytes.eq (f88_ : Int → Int → Heap → (Int → Heap → Prop) → Prop) (b1 : Option Addr) (h : Heap) (K : Value → Heap → Prop) : F_law1_Book_growBytes_of f88_ b1 h (fun  (h : Heap) => K (.tuple #[]) h) =
    den Try.prog (fn1 88 (E_law1_at_of f88_) noFns) Try.f76.ntmps plan76 (bodyOf Try.f76) (args0 0 [(.pointer b1 : Value)]) h ⟨fun env h => dRes Try.prog Try.f76.results.toList env h K, fun _ _ _ => False, fun env h => dRes Try.prog Try.f76.results.toList env h K⟩ := by kernel_rfl
def E_law1_Book_growBytes_of (f : Option Addr → Heap → (Heap → Prop) → Prop) : List Value → Heap → (Value → Heap → Prop) → Prop
  | [v0], h, K => dec1 .ptr v0 fun (b1 : Option Addr) =>
  f b1 h (fun  (h : Heap) => K (.tuple #[]) h)
  | _, _, _ => False
abbrev E_law1_Book_growBytes := E_law1_Book_growBytes_of F_law1_Book_growBytes
theorem E_law1_Book_growBytes.right : IsRight Try.prog 76 E_law1_Book_growBytes := by
  refine isRight fun vs K w hh => ?_
  match vs, hh with
  | [v0], hh =>
    unfold E_law1_Book_growBytes E_law1_Book_growBytes_of at hh
    replace hh := dec1_sound hh; obtain ⟨b1, rfl, hh⟩ := hh
    unfold F_law1_Book_growBytes at hh
    exact calls_den (fn1_right ok88 E_law1_at.right noFns_right) plan76 _ w K Try.func76 (by kernel_rfl) (by kernel_rfl) (Eq.mp (F_law1_Book_growBytes.eq F_law1_at b1 w.heap K) hh)
theorem ok76 : okFn Try.prog 76 = true := by kernel_rfl
end Go.Proofs.Ytcbelendjpnmiaa.V
namespace Go.Proofs.Ytcbelendjpnmiaa.V
open Go Go.RowKit
set_option linter.unusedVariables false
set_option maxRecDepth 100000
def F_law1_Book_growRows.l1 (f88_ : Int → Int → Heap → (Int → Heap → Prop) → Prop) (b1 : Option Addr) (v18 : Int) (j19 : Heap → Prop) : Sl → Int → Heap → Prop :=
  wl [(4, .one .sl), (6, .one (.int .i64))] (fun (next20 : Sl → Int → Heap → Prop) (g21 : Sl) (i22 : Int) (h23 : Heap) =>
  brr (decide (i22 ≤ 32))
  (f88_ v18 0 h23 fun (r24 : Int) (h25 : Heap) =>
  f88_ v18 1 h25 fun (r26 : Int) (h27 : Heap) =>
  al 5 [.int .u8 r24, .int .u8 r26] h27 fun (a28 : Addr) (h29 : Heap) =>
  al 29 [.slice (some a28) 2 2] h29 fun (a30 : Addr) (h31 : Heap) =>
  app 29 1 24 (.slice none 0 0) g21 (some a30) 1 h31 fun (s32 : Sl) (h33 : Heap) =>
  jn [(53, .one .bool)] (fun (x35 : Bool) (h36 : Heap) =>
  jn [] (fun  (h54 : Heap) =>
  next20 s32 (IntKind.i64.wrap (i22 + 1)) h54) (fun (j37 : Heap → Prop) =>
  brr x35
  (nn b1 fun (a38 : Addr) =>
  ld [.sl] (a38.add 3) h36 fun (v39 : Sl) =>
  al 85 [.slice s32.ptr s32.len s32.cap] h36 fun (a40 : Addr) (h41 : Heap) =>
  app 85 1 24 (.slice none 0 0) v39 (some a40) 1 h41 fun (s42 : Sl) (h43 : Heap) =>
  nn b1 fun (a44 : Addr) =>
  st (a44.add 3) [.slice s42.ptr s42.len s42.cap] h43 fun (h45 : Heap) =>
  nn b1 fun (a46 : Addr) =>
  ld [.sl] (a46.add 4) h45 fun (v47 : Sl) =>
  al 3 [.int .i64 v18] h45 fun (a48 : Addr) (h49 : Heap) =>
  app 3 1 8 (.int .i64 0) v47 (some a48) 1 h49 fun (s50 : Sl) (h51 : Heap) =>
  nn b1 fun (a52 : Addr) =>
  st (a52.add 4) [.slice s50.ptr s50.len s50.cap] h51 fun (h53 : Heap) =>
  j37 h53)
  (j37 h36))) (fun (j34 : Bool → Heap → Prop) =>
  brr (decide (i22 < 4))
  (j34 true h33)
  ((16 : Int) ≠ 0 ∧
  j34 ((i22.tmod 16) == 0) h33)))
  (j19 h23))
def F_law1_Book_growRows.l2 (f88_ : Int → Int → Heap → (Int → Heap → Prop) → Prop) (b1 : Option Addr) (v3 : Sl) (j6 : Heap → Prop) : Int → Heap → Prop :=
  wl [(3, .one (.int .i64))] (fun (next7 : Int → Heap → Prop) (k8 : Int) (h9 : Heap) =>
  brr (decide (k8 < ((v3.len : Nat) : Int)))
  (jn [] (fun  (h56 : Heap) =>
  next7 (IntKind.i64.wrap (k8 + 1)) h56) (fun (j10 : Heap → Prop) =>
  nn b1 fun (a11 : Addr) =>
  ld [.sl] (a11.add 3) h9 fun (v12 : Sl) =>
  ixS 1 v12 k8 fun (a13 : Addr) =>
  ld [.sl] a13 h9 fun (v14 : Sl) =>
  nn b1 fun (a15 : Addr) =>
  ld [.sl] (a15.add 4) h9 fun (v16 : Sl) =>
  ixS 1 v16 k8 fun (a17 : Addr) =>
  ld [.int .i64] a17 h9 fun (v18 : Int) =>
  jn [] (fun  (h55 : Heap) =>
  j10 h55) (fun (j19 : Heap → Prop) =>
  F_law1_Book_growRows.l1 f88_ b1 v18 j19 v14 1 h9)))
  (j6 h9))
def F_law1_Book_growRows_of (f88_ : Int → Int → Heap → (Int → Heap → Prop) → Prop) (b1 : Option Addr) (h : Heap) (Q : Heap → Prop) : Prop :=
  nn b1 fun (a2 : Addr) =>
  ld [.sl] (a2.add 3) h fun (v3 : Sl) =>
  nn b1 fun (a4 : Addr) =>
  ld [.int .i64] (a4.add 5) h fun (v5 : Int) =>
  jn [] (fun  (h57 : Heap) =>
  nn b1 fun (a58 : Addr) =>
  ld [.sl] (a58.add 3) h57 fun (v59 : Sl) =>
  nn b1 fun (a60 : Addr) =>
  st (a60.add 5) [.int .i64 ((v59.len : Nat) : Int)] h57 fun (h61 : Heap) =>
  Q h61) (fun (j6 : Heap → Prop) =>
  F_law1_Book_growRows.l2 f88_ b1 v3 j6 v5 h)
def F_law1_Book_growRows (b1 : Option Addr) (h : Heap) (Q : Heap → Prop) : Prop := F_law1_Book_growRows_of F_law1_at b1 h Q
def plan77 : Plan := .s (.r [0, 2]) (.s (.s (.r [0, 2, 3]) (.bj [] [0] (.l [(3, .one (.int .i64))] [0, 2] (.s (.s (.r [0, 2, 3, 18]) (.c .z .z)) (.s (.bj [] [0, 2, 3] (.s (.r [0, 2, 3, 4]) (.s (.r [0, 2, 3, 4, 5]) (.s (.r [0, 2, 3, 4, 5, 6]) (.bj [] [0, 2, 3] (.l [(4, .one .sl), (6, .one (.int .i64))] [0, 2, 3, 5] (.s (.s (.r [0, 2, 3, 4, 5, 6, 36]) (.c .z .z)) (.s (.b (.s (.r [0, 2, 3, 4, 5, 6]) (.s (.rj [(53, .one .bool)] [0, 2, 3, 4, 5, 6]) (.cj [] [0, 2, 3, 4, 5, 6] (.s (.r [0, 2, 3, 4, 5, 6]) (.r [0, 2, 3, 4, 5, 6])) .z)))) (.r [0, 2, 3, 4, 5, 6]))))))))) (.r [0, 2, 3])))))) (.r []))
theorem F_law1_Book_growRows.eq (f88_ : Int → Int → Heap → (Int → Heap → Prop) → Prop) (b1 : Option Addr) (h : Heap) (K : Value → Heap → Prop) : F_law1_Book_growRows_of f88_ b1 h (fun  (h : Heap) => K (.tuple #[]) h) =
    den Try.prog (fn1 88 (E_law1_at_of f88_) noFns) Try.f77.ntmps plan77 (bodyOf Try.f77) (args0 0 [(.pointer b1 : Value)]) h ⟨fun env h => dRes Try.prog Try.f77.results.toList env h K, fun _ _ _ => False, fun env h => dRes Try.prog Try.f77.results.toList env h K⟩ := by kernel_rfl
def E_law1_Book_growRows_of (f : Option Addr → Heap → (Heap → Prop) → Prop) : List Value → Heap → (Value → Heap → Prop) → Prop
  | [v0], h, K => dec1 .ptr v0 fun (b1 : Option Addr) =>
  f b1 h (fun  (h : Heap) => K (.tuple #[]) h)
  | _, _, _ => False
abbrev E_law1_Book_growRows := E_law1_Book_growRows_of F_law1_Book_growRows
theorem E_law1_Book_growRows.right : IsRight Try.prog 77 E_law1_Book_growRows := by
  refine isRight fun vs K w hh => ?_
  match vs, hh with
  | [v0], hh =>
    unfold E_law1_Book_growRows E_law1_Book_growRows_of at hh
    replace hh := dec1_sound hh; obtain ⟨b1, rfl, hh⟩ := hh
    unfold F_law1_Book_growRows at hh
    exact calls_den (fn1_right ok88 E_law1_at.right noFns_right) plan77 _ w K Try.func77 (by kernel_rfl) (by kernel_rfl) (Eq.mp (F_law1_Book_growRows.eq F_law1_at b1 w.heap K) hh)
theorem ok77 : okFn Try.prog 77 = true := by kernel_rfl
end Go.Proofs.Ytcbelendjpnmiaa.V
namespace Go.Proofs.Ytcbelendjpnmiaa.V
open Go Go.RowKit
set_option linter.unusedVariables false
set_option maxRecDepth 100000
def F_law1_Book_growTexts.l1 (f99_ : Int → Heap → (ByteArray → Heap → Prop) → Prop) (b1 : Option Addr) (v18 : Int) (j19 : Heap → Prop) : Sl → Int → Heap → Prop :=
  wl [(4, .one .sl), (6, .one (.int .i64))] (fun (next20 : Sl → Int → Heap → Prop) (g21 : Sl) (i22 : Int) (h23 : Heap) =>
  brr (decide (i22 ≤ 32))
  (f99_ v18 h23 fun (r24 : ByteArray) (h25 : Heap) =>
  al 9 [.string r24] h25 fun (a26 : Addr) (h27 : Heap) =>
  app 9 1 16 (.string (⟨#[]⟩ : ByteArray)) g21 (some a26) 1 h27 fun (s28 : Sl) (h29 : Heap) =>
  jn [(50, .one .bool)] (fun (x31 : Bool) (h32 : Heap) =>
  jn [] (fun  (h50 : Heap) =>
  next20 s28 (IntKind.i64.wrap (i22 + 1)) h50) (fun (j33 : Heap → Prop) =>
  brr x31
  (nn b1 fun (a34 : Addr) =>
  ld [.sl] (a34.add 6) h32 fun (v35 : Sl) =>
  al 159 [.slice s28.ptr s28.len s28.cap] h32 fun (a36 : Addr) (h37 : Heap) =>
  app 159 1 24 (.slice none 0 0) v35 (some a36) 1 h37 fun (s38 : Sl) (h39 : Heap) =>
  nn b1 fun (a40 : Addr) =>
  st (a40.add 6) [.slice s38.ptr s38.len s38.cap] h39 fun (h41 : Heap) =>
  nn b1 fun (a42 : Addr) =>
  ld [.sl] (a42.add 7) h41 fun (v43 : Sl) =>
  al 3 [.int .i64 v18] h41 fun (a44 : Addr) (h45 : Heap) =>
  app 3 1 8 (.int .i64 0) v43 (some a44) 1 h45 fun (s46 : Sl) (h47 : Heap) =>
  nn b1 fun (a48 : Addr) =>
  st (a48.add 7) [.slice s46.ptr s46.len s46.cap] h47 fun (h49 : Heap) =>
  j33 h49)
  (j33 h32))) (fun (j30 : Bool → Heap → Prop) =>
  brr (decide (i22 < 4))
  (j30 true h29)
  ((16 : Int) ≠ 0 ∧
  j30 ((i22.tmod 16) == 0) h29)))
  (j19 h23))
def F_law1_Book_growTexts.l2 (f99_ : Int → Heap → (ByteArray → Heap → Prop) → Prop) (b1 : Option Addr) (v3 : Sl) (j6 : Heap → Prop) : Int → Heap → Prop :=
  wl [(3, .one (.int .i64))] (fun (next7 : Int → Heap → Prop) (k8 : Int) (h9 : Heap) =>
  brr (decide (k8 < ((v3.len : Nat) : Int)))
  (jn [] (fun  (h52 : Heap) =>
  next7 (IntKind.i64.wrap (k8 + 1)) h52) (fun (j10 : Heap → Prop) =>
  nn b1 fun (a11 : Addr) =>
  ld [.sl] (a11.add 6) h9 fun (v12 : Sl) =>
  ixS 1 v12 k8 fun (a13 : Addr) =>
  ld [.sl] a13 h9 fun (v14 : Sl) =>
  nn b1 fun (a15 : Addr) =>
  ld [.sl] (a15.add 7) h9 fun (v16 : Sl) =>
  ixS 1 v16 k8 fun (a17 : Addr) =>
  ld [.int .i64] a17 h9 fun (v18 : Int) =>
  jn [] (fun  (h51 : Heap) =>
  j10 h51) (fun (j19 : Heap → Prop) =>
  F_law1_Book_growTexts.l1 f99_ b1 v18 j19 v14 1 h9)))
  (j6 h9))
def F_law1_Book_growTexts_of (f99_ : Int → Heap → (ByteArray → Heap → Prop) → Prop) (b1 : Option Addr) (h : Heap) (Q : Heap → Prop) : Prop :=
  nn b1 fun (a2 : Addr) =>
  ld [.sl] (a2.add 6) h fun (v3 : Sl) =>
  nn b1 fun (a4 : Addr) =>
  ld [.int .i64] (a4.add 8) h fun (v5 : Int) =>
  jn [] (fun  (h53 : Heap) =>
  nn b1 fun (a54 : Addr) =>
  ld [.sl] (a54.add 6) h53 fun (v55 : Sl) =>
  nn b1 fun (a56 : Addr) =>
  st (a56.add 8) [.int .i64 ((v55.len : Nat) : Int)] h53 fun (h57 : Heap) =>
  Q h57) (fun (j6 : Heap → Prop) =>
  F_law1_Book_growTexts.l2 f99_ b1 v3 j6 v5 h)
def F_law1_Book_growTexts (b1 : Option Addr) (h : Heap) (Q : Heap → Prop) : Prop := F_law1_Book_growTexts_of F_law1_textsMark b1 h Q
def plan78 : Plan := .s (.r [0, 2]) (.s (.s (.r [0, 2, 3]) (.bj [] [0] (.l [(3, .one (.int .i64))] [0, 2] (.s (.s (.r [0, 2, 3, 18]) (.c .z .z)) (.s (.bj [] [0, 2, 3] (.s (.r [0, 2, 3, 4]) (.s (.r [0, 2, 3, 4, 5]) (.s (.r [0, 2, 3, 4, 5, 6]) (.bj [] [0, 2, 3] (.l [(4, .one .sl), (6, .one (.int .i64))] [0, 2, 3, 5] (.s (.s (.r [0, 2, 3, 4, 5, 6, 36]) (.c .z .z)) (.s (.b (.s (.r [0, 2, 3, 4, 5, 6]) (.s (.rj [(50, .one .bool)] [0, 2, 3, 4, 5, 6]) (.cj [] [0, 2, 3, 4, 5, 6] (.s (.r [0, 2, 3, 4, 5, 6]) (.r [0, 2, 3, 4, 5, 6])) .z)))) (.r [0, 2, 3, 4, 5, 6]))))))))) (.r [0, 2, 3])))))) (.r []))
theorem F_law1_Book_growTexts.eq (f99_ : Int → Heap → (ByteArray → Heap → Prop) → Prop) (b1 : Option Addr) (h : Heap) (K : Value → Heap → Prop) : F_law1_Book_growTexts_of f99_ b1 h (fun  (h : Heap) => K (.tuple #[]) h) =
    den Try.prog (fn1 99 (E_law1_textsMark_of f99_) noFns) Try.f78.ntmps plan78 (bodyOf Try.f78) (args0 0 [(.pointer b1 : Value)]) h ⟨fun env h => dRes Try.prog Try.f78.results.toList env h K, fun _ _ _ => False, fun env h => dRes Try.prog Try.f78.results.toList env h K⟩ := by kernel_rfl
def E_law1_Book_growTexts_of (f : Option Addr → Heap → (Heap → Prop) → Prop) : List Value → Heap → (Value → Heap → Prop) → Prop
  | [v0], h, K => dec1 .ptr v0 fun (b1 : Option Addr) =>
  f b1 h (fun  (h : Heap) => K (.tuple #[]) h)
  | _, _, _ => False
abbrev E_law1_Book_growTexts := E_law1_Book_growTexts_of F_law1_Book_growTexts
theorem E_law1_Book_growTexts.right : IsRight Try.prog 78 E_law1_Book_growTexts := by
  refine isRight fun vs K w hh => ?_
  match vs, hh with
  | [v0], hh =>
    unfold E_law1_Book_growTexts E_law1_Book_growTexts_of at hh
    replace hh := dec1_sound hh; obtain ⟨b1, rfl, hh⟩ := hh
    unfold F_law1_Book_growTexts at hh
    exact calls_den (fn1_right ok99 E_law1_textsMark.right noFns_right) plan78 _ w K Try.func78 (by kernel_rfl) (by kernel_rfl) (Eq.mp (F_law1_Book_growTexts.eq F_law1_textsMark b1 w.heap K) hh)
theorem ok78 : okFn Try.prog 78 = true := by kernel_rfl
end Go.Proofs.Ytcbelendjpnmiaa.V
namespace Go.Proofs.Ytcbelendjpnmiaa.V
open Go Go.RowKit
set_option linter.unusedVariables false
set_option maxRecDepth 100000
def F_law1_Book_growInts.l1 (f100_ : Int → Heap → (Int → Heap → Prop) → Prop) (b1 : Option Addr) (v18 : Int) (j19 : Heap → Prop) : Sl → Int → Heap → Prop :=
  wl [(4, .one .sl), (6, .one (.int .i64))] (fun (next20 : Sl → Int → Heap → Prop) (g21 : Sl) (i22 : Int) (h23 : Heap) =>
  brr (decide (i22 ≤ 32))
  (f100_ v18 h23 fun (r24 : Int) (h25 : Heap) =>
  al 3 [.int .i64 r24] h25 fun (a26 : Addr) (h27 : Heap) =>
  app 3 1 8 (.int .i64 0) g21 (some a26) 1 h27 fun (s28 : Sl) (h29 : Heap) =>
  jn [(50, .one .bool)] (fun (x31 : Bool) (h32 : Heap) =>
  jn [] (fun  (h50 : Heap) =>
  next20 s28 (IntKind.i64.wrap (i22 + 1)) h50) (fun (j33 : Heap → Prop) =>
  brr x31
  (nn b1 fun (a34 : Addr) =>
  ld [.sl] (a34.add 9) h32 fun (v35 : Sl) =>
  al 86 [.slice s28.ptr s28.len s28.cap] h32 fun (a36 : Addr) (h37 : Heap) =>
  app 86 1 24 (.slice none 0 0) v35 (some a36) 1 h37 fun (s38 : Sl) (h39 : Heap) =>
  nn b1 fun (a40 : Addr) =>
  st (a40.add 9) [.slice s38.ptr s38.len s38.cap] h39 fun (h41 : Heap) =>
  nn b1 fun (a42 : Addr) =>
  ld [.sl] (a42.add 10) h41 fun (v43 : Sl) =>
  al 3 [.int .i64 v18] h41 fun (a44 : Addr) (h45 : Heap) =>
  app 3 1 8 (.int .i64 0) v43 (some a44) 1 h45 fun (s46 : Sl) (h47 : Heap) =>
  nn b1 fun (a48 : Addr) =>
  st (a48.add 10) [.slice s46.ptr s46.len s46.cap] h47 fun (h49 : Heap) =>
  j33 h49)
  (j33 h32))) (fun (j30 : Bool → Heap → Prop) =>
  brr (decide (i22 < 4))
  (j30 true h29)
  ((16 : Int) ≠ 0 ∧
  j30 ((i22.tmod 16) == 0) h29)))
  (j19 h23))
def F_law1_Book_growInts.l2 (f100_ : Int → Heap → (Int → Heap → Prop) → Prop) (b1 : Option Addr) (v3 : Sl) (j6 : Heap → Prop) : Int → Heap → Prop :=
  wl [(3, .one (.int .i64))] (fun (next7 : Int → Heap → Prop) (k8 : Int) (h9 : Heap) =>
  brr (decide (k8 < ((v3.len : Nat) : Int)))
  (jn [] (fun  (h52 : Heap) =>
  next7 (IntKind.i64.wrap (k8 + 1)) h52) (fun (j10 : Heap → Prop) =>
  nn b1 fun (a11 : Addr) =>
  ld [.sl] (a11.add 9) h9 fun (v12 : Sl) =>
  ixS 1 v12 k8 fun (a13 : Addr) =>
  ld [.sl] a13 h9 fun (v14 : Sl) =>
  nn b1 fun (a15 : Addr) =>
  ld [.sl] (a15.add 10) h9 fun (v16 : Sl) =>
  ixS 1 v16 k8 fun (a17 : Addr) =>
  ld [.int .i64] a17 h9 fun (v18 : Int) =>
  jn [] (fun  (h51 : Heap) =>
  j10 h51) (fun (j19 : Heap → Prop) =>
  F_law1_Book_growInts.l1 f100_ b1 v18 j19 v14 1 h9)))
  (j6 h9))
def F_law1_Book_growInts_of (f100_ : Int → Heap → (Int → Heap → Prop) → Prop) (b1 : Option Addr) (h : Heap) (Q : Heap → Prop) : Prop :=
  nn b1 fun (a2 : Addr) =>
  ld [.sl] (a2.add 9) h fun (v3 : Sl) =>
  nn b1 fun (a4 : Addr) =>
  ld [.int .i64] (a4.add 11) h fun (v5 : Int) =>
  jn [] (fun  (h53 : Heap) =>
  nn b1 fun (a54 : Addr) =>
  ld [.sl] (a54.add 9) h53 fun (v55 : Sl) =>
  nn b1 fun (a56 : Addr) =>
  st (a56.add 11) [.int .i64 ((v55.len : Nat) : Int)] h53 fun (h57 : Heap) =>
  Q h57) (fun (j6 : Heap → Prop) =>
  F_law1_Book_growInts.l2 f100_ b1 v3 j6 v5 h)
def F_law1_Book_growInts (b1 : Option Addr) (h : Heap) (Q : Heap → Prop) : Prop := F_law1_Book_growInts_of F_law1_intsMark b1 h Q
def plan79 : Plan := .s (.r [0, 2]) (.s (.s (.r [0, 2, 3]) (.bj [] [0] (.l [(3, .one (.int .i64))] [0, 2] (.s (.s (.r [0, 2, 3, 18]) (.c .z .z)) (.s (.bj [] [0, 2, 3] (.s (.r [0, 2, 3, 4]) (.s (.r [0, 2, 3, 4, 5]) (.s (.r [0, 2, 3, 4, 5, 6]) (.bj [] [0, 2, 3] (.l [(4, .one .sl), (6, .one (.int .i64))] [0, 2, 3, 5] (.s (.s (.r [0, 2, 3, 4, 5, 6, 36]) (.c .z .z)) (.s (.b (.s (.r [0, 2, 3, 4, 5, 6]) (.s (.rj [(50, .one .bool)] [0, 2, 3, 4, 5, 6]) (.cj [] [0, 2, 3, 4, 5, 6] (.s (.r [0, 2, 3, 4, 5, 6]) (.r [0, 2, 3, 4, 5, 6])) .z)))) (.r [0, 2, 3, 4, 5, 6]))))))))) (.r [0, 2, 3])))))) (.r []))
theorem F_law1_Book_growInts.eq (f100_ : Int → Heap → (Int → Heap → Prop) → Prop) (b1 : Option Addr) (h : Heap) (K : Value → Heap → Prop) : F_law1_Book_growInts_of f100_ b1 h (fun  (h : Heap) => K (.tuple #[]) h) =
    den Try.prog (fn1 100 (E_law1_intsMark_of f100_) noFns) Try.f79.ntmps plan79 (bodyOf Try.f79) (args0 0 [(.pointer b1 : Value)]) h ⟨fun env h => dRes Try.prog Try.f79.results.toList env h K, fun _ _ _ => False, fun env h => dRes Try.prog Try.f79.results.toList env h K⟩ := by kernel_rfl
def E_law1_Book_growInts_of (f : Option Addr → Heap → (Heap → Prop) → Prop) : List Value → Heap → (Value → Heap → Prop) → Prop
  | [v0], h, K => dec1 .ptr v0 fun (b1 : Option Addr) =>
  f b1 h (fun  (h : Heap) => K (.tuple #[]) h)
  | _, _, _ => False
abbrev E_law1_Book_growInts := E_law1_Book_growInts_of F_law1_Book_growInts
theorem E_law1_Book_growInts.right : IsRight Try.prog 79 E_law1_Book_growInts := by
  refine isRight fun vs K w hh => ?_
  match vs, hh with
  | [v0], hh =>
    unfold E_law1_Book_growInts E_law1_Book_growInts_of at hh
    replace hh := dec1_sound hh; obtain ⟨b1, rfl, hh⟩ := hh
    unfold F_law1_Book_growInts at hh
    exact calls_den (fn1_right ok100 E_law1_intsMark.right noFns_right) plan79 _ w K Try.func79 (by kernel_rfl) (by kernel_rfl) (Eq.mp (F_law1_Book_growInts.eq F_law1_intsMark b1 w.heap K) hh)
theorem ok79 : okFn Try.prog 79 = true := by kernel_rfl
end Go.Proofs.Ytcbelendjpnmiaa.V
namespace Go.Proofs.Ytcbelendjpnmiaa.V
open Go Go.RowKit
set_option linter.unusedVariables false
set_option maxRecDepth 100000
def F_law1_Book_growWords.l1 (f101_ : Int → Heap → (Int → Heap → Prop) → Prop) (b1 : Option Addr) (v18 : Int) (j19 : Heap → Prop) : Sl → Int → Heap → Prop :=
  wl [(4, .one .sl), (6, .one (.int .i64))] (fun (next20 : Sl → Int → Heap → Prop) (g21 : Sl) (i22 : Int) (h23 : Heap) =>
  brr (decide (i22 ≤ 32))
  (f101_ v18 h23 fun (r24 : Int) (h25 : Heap) =>
  al 33 [.int .u64 r24] h25 fun (a26 : Addr) (h27 : Heap) =>
  app 33 1 8 (.int .u64 0) g21 (some a26) 1 h27 fun (s28 : Sl) (h29 : Heap) =>
  jn [(50, .one .bool)] (fun (x31 : Bool) (h32 : Heap) =>
  jn [] (fun  (h50 : Heap) =>
  next20 s28 (IntKind.i64.wrap (i22 + 1)) h50) (fun (j33 : Heap → Prop) =>
  brr x31
  (nn b1 fun (a34 : Addr) =>
  ld [.sl] (a34.add 12) h32 fun (v35 : Sl) =>
  al 32 [.slice s28.ptr s28.len s28.cap] h32 fun (a36 : Addr) (h37 : Heap) =>
  app 32 1 24 (.slice none 0 0) v35 (some a36) 1 h37 fun (s38 : Sl) (h39 : Heap) =>
  nn b1 fun (a40 : Addr) =>
  st (a40.add 12) [.slice s38.ptr s38.len s38.cap] h39 fun (h41 : Heap) =>
  nn b1 fun (a42 : Addr) =>
  ld [.sl] (a42.add 13) h41 fun (v43 : Sl) =>
  al 3 [.int .i64 v18] h41 fun (a44 : Addr) (h45 : Heap) =>
  app 3 1 8 (.int .i64 0) v43 (some a44) 1 h45 fun (s46 : Sl) (h47 : Heap) =>
  nn b1 fun (a48 : Addr) =>
  st (a48.add 13) [.slice s46.ptr s46.len s46.cap] h47 fun (h49 : Heap) =>
  j33 h49)
  (j33 h32))) (fun (j30 : Bool → Heap → Prop) =>
  brr (decide (i22 < 4))
  (j30 true h29)
  ((16 : Int) ≠ 0 ∧
  j30 ((i22.tmod 16) == 0) h29)))
  (j19 h23))
def F_law1_Book_growWords.l2 (f101_ : Int → Heap → (Int → Heap → Prop) → Prop) (b1 : Option Addr) (v3 : Sl) (j6 : Heap → Prop) : Int → Heap → Prop :=
  wl [(3, .one (.int .i64))] (fun (next7 : Int → Heap → Prop) (k8 : Int) (h9 : Heap) =>
  brr (decide (k8 < ((v3.len : Nat) : Int)))
  (jn [] (fun  (h52 : Heap) =>
  next7 (IntKind.i64.wrap (k8 + 1)) h52) (fun (j10 : Heap → Prop) =>
  nn b1 fun (a11 : Addr) =>
  ld [.sl] (a11.add 12) h9 fun (v12 : Sl) =>
  ixS 1 v12 k8 fun (a13 : Addr) =>
  ld [.sl] a13 h9 fun (v14 : Sl) =>
  nn b1 fun (a15 : Addr) =>
  ld [.sl] (a15.add 13) h9 fun (v16 : Sl) =>
  ixS 1 v16 k8 fun (a17 : Addr) =>
  ld [.int .i64] a17 h9 fun (v18 : Int) =>
  jn [] (fun  (h51 : Heap) =>
  j10 h51) (fun (j19 : Heap → Prop) =>
  F_law1_Book_growWords.l1 f101_ b1 v18 j19 v14 1 h9)))
  (j6 h9))
def F_law1_Book_growWords_of (f101_ : Int → Heap → (Int → Heap → Prop) → Prop) (b1 : Option Addr) (h : Heap) (Q : Heap → Prop) : Prop :=
  nn b1 fun (a2 : Addr) =>
  ld [.sl] (a2.add 12) h fun (v3 : Sl) =>
  nn b1 fun (a4 : Addr) =>
  ld [.int .i64] (a4.add 14) h fun (v5 : Int) =>
  jn [] (fun  (h53 : Heap) =>
  nn b1 fun (a54 : Addr) =>
  ld [.sl] (a54.add 12) h53 fun (v55 : Sl) =>
  nn b1 fun (a56 : Addr) =>
  st (a56.add 14) [.int .i64 ((v55.len : Nat) : Int)] h53 fun (h57 : Heap) =>
  Q h57) (fun (j6 : Heap → Prop) =>
  F_law1_Book_growWords.l2 f101_ b1 v3 j6 v5 h)
def F_law1_Book_growWords (b1 : Option Addr) (h : Heap) (Q : Heap → Prop) : Prop := F_law1_Book_growWords_of F_law1_wordsMark b1 h Q
def plan80 : Plan := .s (.r [0, 2]) (.s (.s (.r [0, 2, 3]) (.bj [] [0] (.l [(3, .one (.int .i64))] [0, 2] (.s (.s (.r [0, 2, 3, 18]) (.c .z .z)) (.s (.bj [] [0, 2, 3] (.s (.r [0, 2, 3, 4]) (.s (.r [0, 2, 3, 4, 5]) (.s (.r [0, 2, 3, 4, 5, 6]) (.bj [] [0, 2, 3] (.l [(4, .one .sl), (6, .one (.int .i64))] [0, 2, 3, 5] (.s (.s (.r [0, 2, 3, 4, 5, 6, 36]) (.c .z .z)) (.s (.b (.s (.r [0, 2, 3, 4, 5, 6]) (.s (.rj [(50, .one .bool)] [0, 2, 3, 4, 5, 6]) (.cj [] [0, 2, 3, 4, 5, 6] (.s (.r [0, 2, 3, 4, 5, 6]) (.r [0, 2, 3, 4, 5, 6])) .z)))) (.r [0, 2, 3, 4, 5, 6]))))))))) (.r [0, 2, 3])))))) (.r []))
theorem F_law1_Book_growWords.eq (f101_ : Int → Heap → (Int → Heap → Prop) → Prop) (b1 : Option Addr) (h : Heap) (K : Value → Heap → Prop) : F_law1_Book_growWords_of f101_ b1 h (fun  (h : Heap) => K (.tuple #[]) h) =
    den Try.prog (fn1 101 (E_law1_wordsMark_of f101_) noFns) Try.f80.ntmps plan80 (bodyOf Try.f80) (args0 0 [(.pointer b1 : Value)]) h ⟨fun env h => dRes Try.prog Try.f80.results.toList env h K, fun _ _ _ => False, fun env h => dRes Try.prog Try.f80.results.toList env h K⟩ := by kernel_rfl
def E_law1_Book_growWords_of (f : Option Addr → Heap → (Heap → Prop) → Prop) : List Value → Heap → (Value → Heap → Prop) → Prop
  | [v0], h, K => dec1 .ptr v0 fun (b1 : Option Addr) =>
  f b1 h (fun  (h : Heap) => K (.tuple #[]) h)
  | _, _, _ => False
abbrev E_law1_Book_growWords := E_law1_Book_growWords_of F_law1_Book_growWords
theorem E_law1_Book_growWords.right : IsRight Try.prog 80 E_law1_Book_growWords := by
  refine isRight fun vs K w hh => ?_
  match vs, hh with
  | [v0], hh =>
    unfold E_law1_Book_growWords E_law1_Book_growWords_of at hh
    replace hh := dec1_sound hh; obtain ⟨b1, rfl, hh⟩ := hh
    unfold F_law1_Book_growWords at hh
    exact calls_den (fn1_right ok101 E_law1_wordsMark.right noFns_right) plan80 _ w K Try.func80 (by kernel_rfl) (by kernel_rfl) (Eq.mp (F_law1_Book_growWords.eq F_law1_wordsMark b1 w.heap K) hh)
theorem ok80 : okFn Try.prog 80 = true := by kernel_rfl
end Go.Proofs.Ytcbelendjpnmiaa.V
namespace Go.Proofs.Ytcbelendjpnmiaa.V
open Go Go.RowKit
set_option linter.unusedVariables false
set_option maxRecDepth 100000
def F_law1_Book_growDones.l1 (f102_ : Int → Heap → (Int → Int → Int → Int → Int → Heap → Prop) → Prop) (b1 : Option Addr) (v18 : Int) (j19 : Heap → Prop) : Sl → Int → Heap → Prop :=
  wl [(4, .one .sl), (6, .one (.int .i64))] (fun (next20 : Sl → Int → Heap → Prop) (g21 : Sl) (i22 : Int) (h23 : Heap) =>
  brr (decide (i22 ≤ 32))
  (f102_ v18 h23 fun (r24 r25 r26 r27 r28 : Int) (h29 : Heap) =>
  al 150 [.int .i64 r24, .int .u64 r25, .int .i64 r26, .int .i64 r27, .int .u64 r28] h29 fun (a30 : Addr) (h31 : Heap) =>
  app 150 5 40 (.agg #[.int .i64 0, .int .u64 0, .int .i64 0, .int .i64 0, .int .u64 0]) g21 (some a30) 1 h31 fun (s32 : Sl) (h33 : Heap) =>
  jn [(50, .one .bool)] (fun (x35 : Bool) (h36 : Heap) =>
  jn [] (fun  (h54 : Heap) =>
  next20 s32 (IntKind.i64.wrap (i22 + 1)) h54) (fun (j37 : Heap → Prop) =>
  brr x35
  (nn b1 fun (a38 : Addr) =>
  ld [.sl] (a38.add 15) h36 fun (v39 : Sl) =>
  al 147 [.slice s32.ptr s32.len s32.cap] h36 fun (a40 : Addr) (h41 : Heap) =>
  app 147 1 24 (.slice none 0 0) v39 (some a40) 1 h41 fun (s42 : Sl) (h43 : Heap) =>
  nn b1 fun (a44 : Addr) =>
  st (a44.add 15) [.slice s42.ptr s42.len s42.cap] h43 fun (h45 : Heap) =>
  nn b1 fun (a46 : Addr) =>
  ld [.sl] (a46.add 16) h45 fun (v47 : Sl) =>
  al 3 [.int .i64 v18] h45 fun (a48 : Addr) (h49 : Heap) =>
  app 3 1 8 (.int .i64 0) v47 (some a48) 1 h49 fun (s50 : Sl) (h51 : Heap) =>
  nn b1 fun (a52 : Addr) =>
  st (a52.add 16) [.slice s50.ptr s50.len s50.cap] h51 fun (h53 : Heap) =>
  j37 h53)
  (j37 h36))) (fun (j34 : Bool → Heap → Prop) =>
  brr (decide (i22 < 4))
  (j34 true h33)
  ((16 : Int) ≠ 0 ∧
  j34 ((i22.tmod 16) == 0) h33)))
  (j19 h23))
def F_law1_Book_growDones.l2 (f102_ : Int → Heap → (Int → Int → Int → Int → Int → Heap → Prop) → Prop) (b1 : Option Addr) (v3 : Sl) (j6 : Heap → Prop) : Int → Heap → Prop :=
  wl [(3, .one (.int .i64))] (fun (next7 : Int → Heap → Prop) (k8 : Int) (h9 : Heap) =>
  brr (decide (k8 < ((v3.len : Nat) : Int)))
  (jn [] (fun  (h56 : Heap) =>
  next7 (IntKind.i64.wrap (k8 + 1)) h56) (fun (j10 : Heap → Prop) =>
  nn b1 fun (a11 : Addr) =>
  ld [.sl] (a11.add 15) h9 fun (v12 : Sl) =>
  ixS 1 v12 k8 fun (a13 : Addr) =>
  ld [.sl] a13 h9 fun (v14 : Sl) =>
  nn b1 fun (a15 : Addr) =>
  ld [.sl] (a15.add 16) h9 fun (v16 : Sl) =>
  ixS 1 v16 k8 fun (a17 : Addr) =>
  ld [.int .i64] a17 h9 fun (v18 : Int) =>
  jn [] (fun  (h55 : Heap) =>
  j10 h55) (fun (j19 : Heap → Prop) =>
  F_law1_Book_growDones.l1 f102_ b1 v18 j19 v14 1 h9)))
  (j6 h9))
def F_law1_Book_growDones_of (f102_ : Int → Heap → (Int → Int → Int → Int → Int → Heap → Prop) → Prop) (b1 : Option Addr) (h : Heap) (Q : Heap → Prop) : Prop :=
  nn b1 fun (a2 : Addr) =>
  ld [.sl] (a2.add 15) h fun (v3 : Sl) =>
  nn b1 fun (a4 : Addr) =>
  ld [.int .i64] (a4.add 17) h fun (v5 : Int) =>
  jn [] (fun  (h57 : Heap) =>
  nn b1 fun (a58 : Addr) =>
  ld [.sl] (a58.add 15) h57 fun (v59 : Sl) =>
  nn b1 fun (a60 : Addr) =>
  st (a60.add 17) [.int .i64 ((v59.len : Nat) : Int)] h57 fun (h61 : Heap) =>
  Q h61) (fun (j6 : Heap → Prop) =>
  F_law1_Book_growDones.l2 f102_ b1 v3 j6 v5 h)
def F_law1_Book_growDones (b1 : Option Addr) (h : Heap) (Q : Heap → Prop) : Prop := F_law1_Book_growDones_of F_law1_donesMark b1 h Q
def plan81 : Plan := .s (.r [0, 2]) (.s (.s (.r [0, 2, 3]) (.bj [] [0] (.l [(3, .one (.int .i64))] [0, 2] (.s (.s (.r [0, 2, 3, 18]) (.c .z .z)) (.s (.bj [] [0, 2, 3] (.s (.r [0, 2, 3, 4]) (.s (.r [0, 2, 3, 4, 5]) (.s (.r [0, 2, 3, 4, 5, 6]) (.bj [] [0, 2, 3] (.l [(4, .one .sl), (6, .one (.int .i64))] [0, 2, 3, 5] (.s (.s (.r [0, 2, 3, 4, 5, 6, 36]) (.c .z .z)) (.s (.b (.s (.r [0, 2, 3, 4, 5, 6]) (.s (.rj [(50, .one .bool)] [0, 2, 3, 4, 5, 6]) (.cj [] [0, 2, 3, 4, 5, 6] (.s (.r [0, 2, 3, 4, 5, 6]) (.r [0, 2, 3, 4, 5, 6])) .z)))) (.r [0, 2, 3, 4, 5, 6]))))))))) (.r [0, 2, 3])))))) (.r []))
theorem F_law1_Book_growDones.eq (f102_ : Int → Heap → (Int → Int → Int → Int → Int → Heap → Prop) → Prop) (b1 : Option Addr) (h : Heap) (K : Value → Heap → Prop) : F_law1_Book_growDones_of f102_ b1 h (fun  (h : Heap) => K (.tuple #[]) h) =
    den Try.prog (fn1 102 (E_law1_donesMark_of f102_) noFns) Try.f81.ntmps plan81 (bodyOf Try.f81) (args0 0 [(.pointer b1 : Value)]) h ⟨fun env h => dRes Try.prog Try.f81.results.toList env h K, fun _ _ _ => False, fun env h => dRes Try.prog Try.f81.results.toList env h K⟩ := by kernel_rfl
def E_law1_Book_growDones_of (f : Option Addr → Heap → (Heap → Prop) → Prop) : List Value → Heap → (Value → Heap → Prop) → Prop
  | [v0], h, K => dec1 .ptr v0 fun (b1 : Option Addr) =>
  f b1 h (fun  (h : Heap) => K (.tuple #[]) h)
  | _, _, _ => False
abbrev E_law1_Book_growDones := E_law1_Book_growDones_of F_law1_Book_growDones
theorem E_law1_Book_growDones.right : IsRight Try.prog 81 E_law1_Book_growDones := by
  refine isRight fun vs K w hh => ?_
  match vs, hh with
  | [v0], hh =>
    unfold E_law1_Book_growDones E_law1_Book_growDones_of at hh
    replace hh := dec1_sound hh; obtain ⟨b1, rfl, hh⟩ := hh
    unfold F_law1_Book_growDones at hh
    exact calls_den (fn1_right ok102 E_law1_donesMark.right noFns_right) plan81 _ w K Try.func81 (by kernel_rfl) (by kernel_rfl) (Eq.mp (F_law1_Book_growDones.eq F_law1_donesMark b1 w.heap K) hh)
theorem ok81 : okFn Try.prog 81 = true := by kernel_rfl
end Go.Proofs.Ytcbelendjpnmiaa.V
namespace Go.Proofs.Ytcbelendjpnmiaa.V
open Go Go.RowKit
set_option linter.unusedVariables false
set_option maxRecDepth 100000
def F_law1_Book_growAccts.l1 (f103_ : Int → Heap → (ByteArray → Int → Heap → Prop) → Prop) (b1 : Option Addr) (v18 : Int) (j19 : Heap → Prop) : Sl → Int → Heap → Prop :=
  wl [(4, .one .sl), (6, .one (.int .i64))] (fun (next20 : Sl → Int → Heap → Prop) (g21 : Sl) (i22 : Int) (h23 : Heap) =>
  brr (decide (i22 ≤ 32))
  (f103_ v18 h23 fun (r24 : ByteArray) (r25 : Int) (h26 : Heap) =>
  al 152 [.string r24, .int .u64 r25] h26 fun (a27 : Addr) (h28 : Heap) =>
  app 152 2 24 (.agg #[.string (⟨#[]⟩ : ByteArray), .int .u64 0]) g21 (some a27) 1 h28 fun (s29 : Sl) (h30 : Heap) =>
  jn [(50, .one .bool)] (fun (x32 : Bool) (h33 : Heap) =>
  jn [] (fun  (h51 : Heap) =>
  next20 s29 (IntKind.i64.wrap (i22 + 1)) h51) (fun (j34 : Heap → Prop) =>
  brr x32
  (nn b1 fun (a35 : Addr) =>
  ld [.sl] (a35.add 18) h33 fun (v36 : Sl) =>
  al 130 [.slice s29.ptr s29.len s29.cap] h33 fun (a37 : Addr) (h38 : Heap) =>
  app 130 1 24 (.slice none 0 0) v36 (some a37) 1 h38 fun (s39 : Sl) (h40 : Heap) =>
  nn b1 fun (a41 : Addr) =>
  st (a41.add 18) [.slice s39.ptr s39.len s39.cap] h40 fun (h42 : Heap) =>
  nn b1 fun (a43 : Addr) =>
  ld [.sl] (a43.add 19) h42 fun (v44 : Sl) =>
  al 3 [.int .i64 v18] h42 fun (a45 : Addr) (h46 : Heap) =>
  app 3 1 8 (.int .i64 0) v44 (some a45) 1 h46 fun (s47 : Sl) (h48 : Heap) =>
  nn b1 fun (a49 : Addr) =>
  st (a49.add 19) [.slice s47.ptr s47.len s47.cap] h48 fun (h50 : Heap) =>
  j34 h50)
  (j34 h33))) (fun (j31 : Bool → Heap → Prop) =>
  brr (decide (i22 < 4))
  (j31 true h30)
  ((16 : Int) ≠ 0 ∧
  j31 ((i22.tmod 16) == 0) h30)))
  (j19 h23))
def F_law1_Book_growAccts.l2 (f103_ : Int → Heap → (ByteArray → Int → Heap → Prop) → Prop) (b1 : Option Addr) (v3 : Sl) (j6 : Heap → Prop) : Int → Heap → Prop :=
  wl [(3, .one (.int .i64))] (fun (next7 : Int → Heap → Prop) (k8 : Int) (h9 : Heap) =>
  brr (decide (k8 < ((v3.len : Nat) : Int)))
  (jn [] (fun  (h53 : Heap) =>
  next7 (IntKind.i64.wrap (k8 + 1)) h53) (fun (j10 : Heap → Prop) =>
  nn b1 fun (a11 : Addr) =>
  ld [.sl] (a11.add 18) h9 fun (v12 : Sl) =>
  ixS 1 v12 k8 fun (a13 : Addr) =>
  ld [.sl] a13 h9 fun (v14 : Sl) =>
  nn b1 fun (a15 : Addr) =>
  ld [.sl] (a15.add 19) h9 fun (v16 : Sl) =>
  ixS 1 v16 k8 fun (a17 : Addr) =>
  ld [.int .i64] a17 h9 fun (v18 : Int) =>
  jn [] (fun  (h52 : Heap) =>
  j10 h52) (fun (j19 : Heap → Prop) =>
  F_law1_Book_growAccts.l1 f103_ b1 v18 j19 v14 1 h9)))
  (j6 h9))
def F_law1_Book_growAccts_of (f103_ : Int → Heap → (ByteArray → Int → Heap → Prop) → Prop) (b1 : Option Addr) (h : Heap) (Q : Heap → Prop) : Prop :=
  nn b1 fun (a2 : Addr) =>
  ld [.sl] (a2.add 18) h fun (v3 : Sl) =>
  nn b1 fun (a4 : Addr) =>
  ld [.int .i64] (a4.add 20) h fun (v5 : Int) =>
  jn [] (fun  (h54 : Heap) =>
  nn b1 fun (a55 : Addr) =>
  ld [.sl] (a55.add 18) h54 fun (v56 : Sl) =>
  nn b1 fun (a57 : Addr) =>
  st (a57.add 20) [.int .i64 ((v56.len : Nat) : Int)] h54 fun (h58 : Heap) =>
  Q h58) (fun (j6 : Heap → Prop) =>
  F_law1_Book_growAccts.l2 f103_ b1 v3 j6 v5 h)
def F_law1_Book_growAccts (b1 : Option Addr) (h : Heap) (Q : Heap → Prop) : Prop := F_law1_Book_growAccts_of F_law1_acctsMark b1 h Q
def plan82 : Plan := .s (.r [0, 2]) (.s (.s (.r [0, 2, 3]) (.bj [] [0] (.l [(3, .one (.int .i64))] [0, 2] (.s (.s (.r [0, 2, 3, 18]) (.c .z .z)) (.s (.bj [] [0, 2, 3] (.s (.r [0, 2, 3, 4]) (.s (.r [0, 2, 3, 4, 5]) (.s (.r [0, 2, 3, 4, 5, 6]) (.bj [] [0, 2, 3] (.l [(4, .one .sl), (6, .one (.int .i64))] [0, 2, 3, 5] (.s (.s (.r [0, 2, 3, 4, 5, 6, 36]) (.c .z .z)) (.s (.b (.s (.r [0, 2, 3, 4, 5, 6]) (.s (.rj [(50, .one .bool)] [0, 2, 3, 4, 5, 6]) (.cj [] [0, 2, 3, 4, 5, 6] (.s (.r [0, 2, 3, 4, 5, 6]) (.r [0, 2, 3, 4, 5, 6])) .z)))) (.r [0, 2, 3, 4, 5, 6]))))))))) (.r [0, 2, 3])))))) (.r []))
theorem F_law1_Book_growAccts.eq (f103_ : Int → Heap → (ByteArray → Int → Heap → Prop) → Prop) (b1 : Option Addr) (h : Heap) (K : Value → Heap → Prop) : F_law1_Book_growAccts_of f103_ b1 h (fun  (h : Heap) => K (.tuple #[]) h) =
    den Try.prog (fn1 103 (E_law1_acctsMark_of f103_) noFns) Try.f82.ntmps plan82 (bodyOf Try.f82) (args0 0 [(.pointer b1 : Value)]) h ⟨fun env h => dRes Try.prog Try.f82.results.toList env h K, fun _ _ _ => False, fun env h => dRes Try.prog Try.f82.results.toList env h K⟩ := by kernel_rfl
def E_law1_Book_growAccts_of (f : Option Addr → Heap → (Heap → Prop) → Prop) : List Value → Heap → (Value → Heap → Prop) → Prop
  | [v0], h, K => dec1 .ptr v0 fun (b1 : Option Addr) =>
  f b1 h (fun  (h : Heap) => K (.tuple #[]) h)
  | _, _, _ => False
abbrev E_law1_Book_growAccts := E_law1_Book_growAccts_of F_law1_Book_growAccts
theorem E_law1_Book_growAccts.right : IsRight Try.prog 82 E_law1_Book_growAccts := by
  refine isRight fun vs K w hh => ?_
  match vs, hh with
  | [v0], hh =>
    unfold E_law1_Book_growAccts E_law1_Book_growAccts_of at hh
    replace hh := dec1_sound hh; obtain ⟨b1, rfl, hh⟩ := hh
    unfold F_law1_Book_growAccts at hh
    exact calls_den (fn1_right ok103 E_law1_acctsMark.right noFns_right) plan82 _ w K Try.func82 (by kernel_rfl) (by kernel_rfl) (Eq.mp (F_law1_Book_growAccts.eq F_law1_acctsMark b1 w.heap K) hh)
theorem ok82 : okFn Try.prog 82 = true := by kernel_rfl
end Go.Proofs.Ytcbelendjpnmiaa.V
namespace Go.Proofs.Ytcbelendjpnmiaa.V
open Go Go.RowKit
set_option linter.unusedVariables false
set_option maxRecDepth 100000
def F_law1_Book_growQueue.l1 (f104_ : Int → Heap → (Int → Int → ByteArray → Int → Heap → Prop) → Prop) (b1 : Option Addr) (v18 : Int) (j19 : Heap → Prop) : Sl → Int → Heap → Prop :=
  wl [(4, .one .sl), (6, .one (.int .i64))] (fun (next20 : Sl → Int → Heap → Prop) (g21 : Sl) (i22 : Int) (h23 : Heap) =>
  brr (decide (i22 ≤ 32))
  (f104_ v18 h23 fun (r24 r25 : Int) (r26 : ByteArray) (r27 : Int) (h28 : Heap) =>
  al 154 [.int .i64 r24, .int .u64 r25, .string r26, .int .u64 r27] h28 fun (a29 : Addr) (h30 : Heap) =>
  app 154 4 40 (.agg #[.int .i64 0, .int .u64 0, .string (⟨#[]⟩ : ByteArray), .int .u64 0]) g21 (some a29) 1 h30 fun (s31 : Sl) (h32 : Heap) =>
  jn [(50, .one .bool)] (fun (x34 : Bool) (h35 : Heap) =>
  jn [] (fun  (h53 : Heap) =>
  next20 s31 (IntKind.i64.wrap (i22 + 1)) h53) (fun (j36 : Heap → Prop) =>
  brr x34
  (nn b1 fun (a37 : Addr) =>
  ld [.sl] (a37.add 21) h35 fun (v38 : Sl) =>
  al 131 [.slice s31.ptr s31.len s31.cap] h35 fun (a39 : Addr) (h40 : Heap) =>
  app 131 1 24 (.slice none 0 0) v38 (some a39) 1 h40 fun (s41 : Sl) (h42 : Heap) =>
  nn b1 fun (a43 : Addr) =>
  st (a43.add 21) [.slice s41.ptr s41.len s41.cap] h42 fun (h44 : Heap) =>
  nn b1 fun (a45 : Addr) =>
  ld [.sl] (a45.add 22) h44 fun (v46 : Sl) =>
  al 3 [.int .i64 v18] h44 fun (a47 : Addr) (h48 : Heap) =>
  app 3 1 8 (.int .i64 0) v46 (some a47) 1 h48 fun (s49 : Sl) (h50 : Heap) =>
  nn b1 fun (a51 : Addr) =>
  st (a51.add 22) [.slice s49.ptr s49.len s49.cap] h50 fun (h52 : Heap) =>
  j36 h52)
  (j36 h35))) (fun (j33 : Bool → Heap → Prop) =>
  brr (decide (i22 < 4))
  (j33 true h32)
  ((16 : Int) ≠ 0 ∧
  j33 ((i22.tmod 16) == 0) h32)))
  (j19 h23))
def F_law1_Book_growQueue.l2 (f104_ : Int → Heap → (Int → Int → ByteArray → Int → Heap → Prop) → Prop) (b1 : Option Addr) (v3 : Sl) (j6 : Heap → Prop) : Int → Heap → Prop :=
  wl [(3, .one (.int .i64))] (fun (next7 : Int → Heap → Prop) (k8 : Int) (h9 : Heap) =>
  brr (decide (k8 < ((v3.len : Nat) : Int)))
  (jn [] (fun  (h55 : Heap) =>
  next7 (IntKind.i64.wrap (k8 + 1)) h55) (fun (j10 : Heap → Prop) =>
  nn b1 fun (a11 : Addr) =>
  ld [.sl] (a11.add 21) h9 fun (v12 : Sl) =>
  ixS 1 v12 k8 fun (a13 : Addr) =>
  ld [.sl] a13 h9 fun (v14 : Sl) =>
  nn b1 fun (a15 : Addr) =>
  ld [.sl] (a15.add 22) h9 fun (v16 : Sl) =>
  ixS 1 v16 k8 fun (a17 : Addr) =>
  ld [.int .i64] a17 h9 fun (v18 : Int) =>
  jn [] (fun  (h54 : Heap) =>
  j10 h54) (fun (j19 : Heap → Prop) =>
  F_law1_Book_growQueue.l1 f104_ b1 v18 j19 v14 1 h9)))
  (j6 h9))
def F_law1_Book_growQueue_of (f104_ : Int → Heap → (Int → Int → ByteArray → Int → Heap → Prop) → Prop) (b1 : Option Addr) (h : Heap) (Q : Heap → Prop) : Prop :=
  nn b1 fun (a2 : Addr) =>
  ld [.sl] (a2.add 21) h fun (v3 : Sl) =>
  nn b1 fun (a4 : Addr) =>
  ld [.int .i64] (a4.add 23) h fun (v5 : Int) =>
  jn [] (fun  (h56 : Heap) =>
  nn b1 fun (a57 : Addr) =>
  ld [.sl] (a57.add 21) h56 fun (v58 : Sl) =>
  nn b1 fun (a59 : Addr) =>
  st (a59.add 23) [.int .i64 ((v58.len : Nat) : Int)] h56 fun (h60 : Heap) =>
  Q h60) (fun (j6 : Heap → Prop) =>
  F_law1_Book_growQueue.l2 f104_ b1 v3 j6 v5 h)
def F_law1_Book_growQueue (b1 : Option Addr) (h : Heap) (Q : Heap → Prop) : Prop := F_law1_Book_growQueue_of F_law1_queueMark b1 h Q
def plan83 : Plan := .s (.r [0, 2]) (.s (.s (.r [0, 2, 3]) (.bj [] [0] (.l [(3, .one (.int .i64))] [0, 2] (.s (.s (.r [0, 2, 3, 18]) (.c .z .z)) (.s (.bj [] [0, 2, 3] (.s (.r [0, 2, 3, 4]) (.s (.r [0, 2, 3, 4, 5]) (.s (.r [0, 2, 3, 4, 5, 6]) (.bj [] [0, 2, 3] (.l [(4, .one .sl), (6, .one (.int .i64))] [0, 2, 3, 5] (.s (.s (.r [0, 2, 3, 4, 5, 6, 36]) (.c .z .z)) (.s (.b (.s (.r [0, 2, 3, 4, 5, 6]) (.s (.rj [(50, .one .bool)] [0, 2, 3, 4, 5, 6]) (.cj [] [0, 2, 3, 4, 5, 6] (.s (.r [0, 2, 3, 4, 5, 6]) (.r [0, 2, 3, 4, 5, 6])) .z)))) (.r [0, 2, 3, 4, 5, 6]))))))))) (.r [0, 2, 3])))))) (.r []))
theorem F_law1_Book_growQueue.eq (f104_ : Int → Heap → (Int → Int → ByteArray → Int → Heap → Prop) → Prop) (b1 : Option Addr) (h : Heap) (K : Value → Heap → Prop) : F_law1_Book_growQueue_of f104_ b1 h (fun  (h : Heap) => K (.tuple #[]) h) =
    den Try.prog (fn1 104 (E_law1_queueMark_of f104_) noFns) Try.f83.ntmps plan83 (bodyOf Try.f83) (args0 0 [(.pointer b1 : Value)]) h ⟨fun env h => dRes Try.prog Try.f83.results.toList env h K, fun _ _ _ => False, fun env h => dRes Try.prog Try.f83.results.toList env h K⟩ := by kernel_rfl
def E_law1_Book_growQueue_of (f : Option Addr → Heap → (Heap → Prop) → Prop) : List Value → Heap → (Value → Heap → Prop) → Prop
  | [v0], h, K => dec1 .ptr v0 fun (b1 : Option Addr) =>
  f b1 h (fun  (h : Heap) => K (.tuple #[]) h)
  | _, _, _ => False
abbrev E_law1_Book_growQueue := E_law1_Book_growQueue_of F_law1_Book_growQueue
theorem E_law1_Book_growQueue.right : IsRight Try.prog 83 E_law1_Book_growQueue := by
  refine isRight fun vs K w hh => ?_
  match vs, hh with
  | [v0], hh =>
    unfold E_law1_Book_growQueue E_law1_Book_growQueue_of at hh
    replace hh := dec1_sound hh; obtain ⟨b1, rfl, hh⟩ := hh
    unfold F_law1_Book_growQueue at hh
    exact calls_den (fn1_right ok104 E_law1_queueMark.right noFns_right) plan83 _ w K Try.func83 (by kernel_rfl) (by kernel_rfl) (Eq.mp (F_law1_Book_growQueue.eq F_law1_queueMark b1 w.heap K) hh)
theorem ok83 : okFn Try.prog 83 = true := by kernel_rfl
end Go.Proofs.Ytcbelendjpnmiaa.V
namespace Go.Proofs.Ytcbelendjpnmiaa.V
open Go Go.RowKit
set_option linter.unusedVariables false
set_option maxRecDepth 100000
def F_law1_Book_growSlots.l1 (f105_ : Int → Heap → (Int → Int → Int → Int → Heap → Prop) → Prop) (b1 : Option Addr) (v18 : Int) (j19 : Heap → Prop) : Sl → Int → Heap → Prop :=
  wl [(4, .one .sl), (6, .one (.int .i64))] (fun (next20 : Sl → Int → Heap → Prop) (g21 : Sl) (i22 : Int) (h23 : Heap) =>
  brr (decide (i22 ≤ 32))
  (f105_ v18 h23 fun (r24 r25 r26 r27 : Int) (h28 : Heap) =>
  al 156 [.int .u64 r24, .int .i64 r25, .int .i64 r26, .int .u64 r27] h28 fun (a29 : Addr) (h30 : Heap) =>
  app 156 4 32 (.agg #[.int .u64 0, .int .i64 0, .int .i64 0, .int .u64 0]) g21 (some a29) 1 h30 fun (s31 : Sl) (h32 : Heap) =>
  jn [(50, .one .bool)] (fun (x34 : Bool) (h35 : Heap) =>
  jn [] (fun  (h53 : Heap) =>
  next20 s31 (IntKind.i64.wrap (i22 + 1)) h53) (fun (j36 : Heap → Prop) =>
  brr x34
  (nn b1 fun (a37 : Addr) =>
  ld [.sl] (a37.add 24) h35 fun (v38 : Sl) =>
  al 132 [.slice s31.ptr s31.len s31.cap] h35 fun (a39 : Addr) (h40 : Heap) =>
  app 132 1 24 (.slice none 0 0) v38 (some a39) 1 h40 fun (s41 : Sl) (h42 : Heap) =>
  nn b1 fun (a43 : Addr) =>
  st (a43.add 24) [.slice s41.ptr s41.len s41.cap] h42 fun (h44 : Heap) =>
  nn b1 fun (a45 : Addr) =>
  ld [.sl] (a45.add 25) h44 fun (v46 : Sl) =>
  al 3 [.int .i64 v18] h44 fun (a47 : Addr) (h48 : Heap) =>
  app 3 1 8 (.int .i64 0) v46 (some a47) 1 h48 fun (s49 : Sl) (h50 : Heap) =>
  nn b1 fun (a51 : Addr) =>
  st (a51.add 25) [.slice s49.ptr s49.len s49.cap] h50 fun (h52 : Heap) =>
  j36 h52)
  (j36 h35))) (fun (j33 : Bool → Heap → Prop) =>
  brr (decide (i22 < 4))
  (j33 true h32)
  ((16 : Int) ≠ 0 ∧
  j33 ((i22.tmod 16) == 0) h32)))
  (j19 h23))
def F_law1_Book_growSlots.l2 (f105_ : Int → Heap → (Int → Int → Int → Int → Heap → Prop) → Prop) (b1 : Option Addr) (v3 : Sl) (j6 : Heap → Prop) : Int → Heap → Prop :=
  wl [(3, .one (.int .i64))] (fun (next7 : Int → Heap → Prop) (k8 : Int) (h9 : Heap) =>
  brr (decide (k8 < ((v3.len : Nat) : Int)))
  (jn [] (fun  (h55 : Heap) =>
  next7 (IntKind.i64.wrap (k8 + 1)) h55) (fun (j10 : Heap → Prop) =>
  nn b1 fun (a11 : Addr) =>
  ld [.sl] (a11.add 24) h9 fun (v12 : Sl) =>
  ixS 1 v12 k8 fun (a13 : Addr) =>
  ld [.sl] a13 h9 fun (v14 : Sl) =>
  nn b1 fun (a15 : Addr) =>
  ld [.sl] (a15.add 25) h9 fun (v16 : Sl) =>
  ixS 1 v16 k8 fun (a17 : Addr) =>
  ld [.int .i64] a17 h9 fun (v18 : Int) =>
  jn [] (fun  (h54 : Heap) =>
  j10 h54) (fun (j19 : Heap → Prop) =>
  F_law1_Book_growSlots.l1 f105_ b1 v18 j19 v14 1 h9)))
  (j6 h9))
def F_law1_Book_growSlots_of (f105_ : Int → Heap → (Int → Int → Int → Int → Heap → Prop) → Prop) (b1 : Option Addr) (h : Heap) (Q : Heap → Prop) : Prop :=
  nn b1 fun (a2 : Addr) =>
  ld [.sl] (a2.add 24) h fun (v3 : Sl) =>
  nn b1 fun (a4 : Addr) =>
  ld [.int .i64] (a4.add 26) h fun (v5 : Int) =>
  jn [] (fun  (h56 : Heap) =>
  nn b1 fun (a57 : Addr) =>
  ld [.sl] (a57.add 24) h56 fun (v58 : Sl) =>
  nn b1 fun (a59 : Addr) =>
  st (a59.add 26) [.int .i64 ((v58.len : Nat) : Int)] h56 fun (h60 : Heap) =>
  Q h60) (fun (j6 : Heap → Prop) =>
  F_law1_Book_growSlots.l2 f105_ b1 v3 j6 v5 h)
def F_law1_Book_growSlots (b1 : Option Addr) (h : Heap) (Q : Heap → Prop) : Prop := F_law1_Book_growSlots_of F_law1_slotsMark b1 h Q
def plan84 : Plan := .s (.r [0, 2]) (.s (.s (.r [0, 2, 3]) (.bj [] [0] (.l [(3, .one (.int .i64))] [0, 2] (.s (.s (.r [0, 2, 3, 18]) (.c .z .z)) (.s (.bj [] [0, 2, 3] (.s (.r [0, 2, 3, 4]) (.s (.r [0, 2, 3, 4, 5]) (.s (.r [0, 2, 3, 4, 5, 6]) (.bj [] [0, 2, 3] (.l [(4, .one .sl), (6, .one (.int .i64))] [0, 2, 3, 5] (.s (.s (.r [0, 2, 3, 4, 5, 6, 36]) (.c .z .z)) (.s (.b (.s (.r [0, 2, 3, 4, 5, 6]) (.s (.rj [(50, .one .bool)] [0, 2, 3, 4, 5, 6]) (.cj [] [0, 2, 3, 4, 5, 6] (.s (.r [0, 2, 3, 4, 5, 6]) (.r [0, 2, 3, 4, 5, 6])) .z)))) (.r [0, 2, 3, 4, 5, 6]))))))))) (.r [0, 2, 3])))))) (.r []))
theorem F_law1_Book_growSlots.eq (f105_ : Int → Heap → (Int → Int → Int → Int → Heap → Prop) → Prop) (b1 : Option Addr) (h : Heap) (K : Value → Heap → Prop) : F_law1_Book_growSlots_of f105_ b1 h (fun  (h : Heap) => K (.tuple #[]) h) =
    den Try.prog (fn1 105 (E_law1_slotsMark_of f105_) noFns) Try.f84.ntmps plan84 (bodyOf Try.f84) (args0 0 [(.pointer b1 : Value)]) h ⟨fun env h => dRes Try.prog Try.f84.results.toList env h K, fun _ _ _ => False, fun env h => dRes Try.prog Try.f84.results.toList env h K⟩ := by kernel_rfl
def E_law1_Book_growSlots_of (f : Option Addr → Heap → (Heap → Prop) → Prop) : List Value → Heap → (Value → Heap → Prop) → Prop
  | [v0], h, K => dec1 .ptr v0 fun (b1 : Option Addr) =>
  f b1 h (fun  (h : Heap) => K (.tuple #[]) h)
  | _, _, _ => False
abbrev E_law1_Book_growSlots := E_law1_Book_growSlots_of F_law1_Book_growSlots
theorem E_law1_Book_growSlots.right : IsRight Try.prog 84 E_law1_Book_growSlots := by
  refine isRight fun vs K w hh => ?_
  match vs, hh with
  | [v0], hh =>
    unfold E_law1_Book_growSlots E_law1_Book_growSlots_of at hh
    replace hh := dec1_sound hh; obtain ⟨b1, rfl, hh⟩ := hh
    unfold F_law1_Book_growSlots at hh
    exact calls_den (fn1_right ok105 E_law1_slotsMark.right noFns_right) plan84 _ w K Try.func84 (by kernel_rfl) (by kernel_rfl) (Eq.mp (F_law1_Book_growSlots.eq F_law1_slotsMark b1 w.heap K) hh)
theorem ok84 : okFn Try.prog 84 = true := by kernel_rfl
end Go.Proofs.Ytcbelendjpnmiaa.V
namespace Go.Proofs.Ytcbelendjpnmiaa.V
open Go Go.RowKit
set_option linter.unusedVariables false
set_option maxRecDepth 100000
def F_law1_msgsMark_of  (m1 : Int) (h : Heap) (Q : Int → Int → Int → Int → Int → Int → Int → Int → Int → Int → Sl → Int → Int → ByteArray → ByteArray → Int → Int → Int → Int → Int → Int → Int → Heap → Prop) : Prop :=
  al 42 [.int .i64 0, .int .i64 0, .int .i64 0, .int .i64 0, .int .u64 0, .int .u64 0, .int .u64 0, .int .u64 0, .int .i64 0, .int .u64 0, .slice none 0 0, .int .i64 0, .int .u64 0, .string (⟨#[]⟩ : ByteArray), .string (⟨#[]⟩ : ByteArray), .int .u64 0, .int .u64 0, .int .u64 0, .int .i64 0, .int .i64 0, .int .i64 0, .int .i64 0] h fun (a2 : Addr) (h3 : Heap) =>
  st a2 [.int .i64 (IntKind.i64.wrap (1000 + m1)), .int .i64 0, .int .i64 0, .int .i64 0, .int .u64 0, .int .u64 0, .int .u64 0, .int .u64 0, .int .i64 0, .int .u64 0, .slice none 0 0, .int .i64 0, .int .u64 0, .string (⟨#[]⟩ : ByteArray), .string (⟨#[]⟩ : ByteArray), .int .u64 0, .int .u64 0, .int .u64 0, .int .i64 0, .int .i64 0, .int .i64 0, .int .i64 0] h3 fun (h4 : Heap) =>
  ld [.int .i64, .int .i64, .int .i64, .int .i64, .int .u64, .int .u64, .int .u64, .int .u64, .int .i64, .int .u64, .sl, .int .i64, .int .u64, .str, .str, .int .u64, .int .u64, .int .u64, .int .i64, .int .i64, .int .i64, .int .i64] a2 h4 fun (v5 v6 v7 v8 v9 v10 v11 v12 v13 v14 : Int) (v15 : Sl) (v16 v17 : Int) (v18 v19 : ByteArray) (v20 v21 v22 v23 v24 v25 v26 : Int) =>
  Q v5 v6 v7 v8 v9 v10 v11 v12 v13 v14 v15 v16 v17 v18 v19 v20 v21 v22 v23 v24 v25 v26 h4
def F_law1_msgsMark (m1 : Int) (h : Heap) (Q : Int → Int → Int → Int → Int → Int → Int → Int → Int → Int → Sl → Int → Int → ByteArray → ByteArray → Int → Int → Int → Int → Int → Int → Int → Heap → Prop) : Prop := F_law1_msgsMark_of  m1 h Q
def plan107 : Plan := .s (.r [0, 2]) (.s (.r [2]) .z)
theorem F_law1_msgsMark.eq  (m1 : Int) (h : Heap) (K : Value → Heap → Prop) : F_law1_msgsMark_of  m1 h (fun (r0 r1 r2 r3 r4 r5 r6 r7 r8 r9 : Int) (r10 : Sl) (r11 r12 : Int) (r13 r14 : ByteArray) (r15 r16 r17 r18 r19 r20 r21 : Int) (h : Heap) => K (.agg #[.int .i64 r0, .int .i64 r1, .int .i64 r2, .int .i64 r3, .int .u64 r4, .int .u64 r5, .int .u64 r6, .int .u64 r7, .int .i64 r8, .int .u64 r9, .slice r10.ptr r10.len r10.cap, .int .i64 r11, .int .u64 r12, .string r13, .string r14, .int .u64 r15, .int .u64 r16, .int .u64 r17, .int .i64 r18, .int .i64 r19, .int .i64 r20, .int .i64 r21]) h) =
    den Try.prog noFns Try.f107.ntmps plan107 (bodyOf Try.f107) (args0 0 [(.int .i64 m1 : Value)]) h ⟨fun env h => dRes Try.prog Try.f107.results.toList env h K, fun _ _ _ => False, fun env h => dRes Try.prog Try.f107.results.toList env h K⟩ := by kernel_rfl
def E_law1_msgsMark_of (f : Int → Heap → (Int → Int → Int → Int → Int → Int → Int → Int → Int → Int → Sl → Int → Int → ByteArray → ByteArray → Int → Int → Int → Int → Int → Int → Int → Heap → Prop) → Prop) : List Value → Heap → (Value → Heap → Prop) → Prop
  | [v0], h, K => dec1 (.int .i64) v0 fun (m1 : Int) =>
  f m1 h (fun (r0 r1 r2 r3 r4 r5 r6 r7 r8 r9 : Int) (r10 : Sl) (r11 r12 : Int) (r13 r14 : ByteArray) (r15 r16 r17 r18 r19 r20 r21 : Int) (h : Heap) => K (.agg #[.int .i64 r0, .int .i64 r1, .int .i64 r2, .int .i64 r3, .int .u64 r4, .int .u64 r5, .int .u64 r6, .int .u64 r7, .int .i64 r8, .int .u64 r9, .slice r10.ptr r10.len r10.cap, .int .i64 r11, .int .u64 r12, .string r13, .string r14, .int .u64 r15, .int .u64 r16, .int .u64 r17, .int .i64 r18, .int .i64 r19, .int .i64 r20, .int .i64 r21]) h)
  | _, _, _ => False
abbrev E_law1_msgsMark := E_law1_msgsMark_of F_law1_msgsMark
theorem E_law1_msgsMark.right : IsRight Try.prog 107 E_law1_msgsMark := by
  refine isRight fun vs K w hh => ?_
  match vs, hh with
  | [v0], hh =>
    unfold E_law1_msgsMark E_law1_msgsMark_of at hh
    replace hh := dec1_sound hh; obtain ⟨m1, rfl, hh⟩ := hh
    unfold F_law1_msgsMark at hh
    exact calls_den noFns_right plan107 _ w K Try.func107 (by kernel_rfl) (by kernel_rfl) (Eq.mp (F_law1_msgsMark.eq  m1 w.heap K) hh)
theorem ok107 : okFn Try.prog 107 = true := by kernel_rfl
end Go.Proofs.Ytcbelendjpnmiaa.V
namespace Go.Proofs.Ytcbelendjpnmiaa.V
open Go Go.RowKit
set_option linter.unusedVariables false
set_option maxRecDepth 100000
def F_law1_Book_growMsgs.l1 (f107_ : Int → Heap → (Int → Int → Int → Int → Int → Int → Int → Int → Int → Int → Sl → Int → Int → ByteArray → ByteArray → Int → Int → Int → Int → Int → Int → Int → Heap → Prop) → Prop) (b1 : Option Addr) (v18 : Int) (j19 : Heap → Prop) : Sl → Int → Heap → Prop :=
  wl [(4, .one .sl), (6, .one (.int .i64))] (fun (next20 : Sl → Int → Heap → Prop) (g21 : Sl) (i22 : Int) (h23 : Heap) =>
  brr (decide (i22 ≤ 32))
  (f107_ v18 h23 fun (r24 r25 r26 r27 r28 r29 r30 r31 r32 r33 : Int) (r34 : Sl) (r35 r36 : Int) (r37 r38 : ByteArray) (r39 r40 r41 r42 r43 r44 r45 : Int) (h46 : Heap) =>
  al 42 [.int .i64 r24, .int .i64 r25, .int .i64 r26, .int .i64 r27, .int .u64 r28, .int .u64 r29, .int .u64 r30, .int .u64 r31, .int .i64 r32, .int .u64 r33, .slice r34.ptr r34.len r34.cap, .int .i64 r35, .int .u64 r36, .string r37, .string r38, .int .u64 r39, .int .u64 r40, .int .u64 r41, .int .i64 r42, .int .i64 r43, .int .i64 r44, .int .i64 r45] h46 fun (a47 : Addr) (h48 : Heap) =>
  app 42 22 208 (.agg #[.int .i64 0, .int .i64 0, .int .i64 0, .int .i64 0, .int .u64 0, .int .u64 0, .int .u64 0, .int .u64 0, .int .i64 0, .int .u64 0, .slice none 0 0, .int .i64 0, .int .u64 0, .string (⟨#[]⟩ : ByteArray), .string (⟨#[]⟩ : ByteArray), .int .u64 0, .int .u64 0, .int .u64 0, .int .i64 0, .int .i64 0, .int .i64 0, .int .i64 0]) g21 (some a47) 1 h48 fun (s49 : Sl) (h50 : Heap) =>
  jn [(50, .one .bool)] (fun (x52 : Bool) (h53 : Heap) =>
  jn [] (fun  (h71 : Heap) =>
  next20 s49 (IntKind.i64.wrap (i22 + 1)) h71) (fun (j54 : Heap → Prop) =>
  brr x52
  (nn b1 fun (a55 : Addr) =>
  ld [.sl] (a55.add 27) h53 fun (v56 : Sl) =>
  al 129 [.slice s49.ptr s49.len s49.cap] h53 fun (a57 : Addr) (h58 : Heap) =>
  app 129 1 24 (.slice none 0 0) v56 (some a57) 1 h58 fun (s59 : Sl) (h60 : Heap) =>
  nn b1 fun (a61 : Addr) =>
  st (a61.add 27) [.slice s59.ptr s59.len s59.cap] h60 fun (h62 : Heap) =>
  nn b1 fun (a63 : Addr) =>
  ld [.sl] (a63.add 28) h62 fun (v64 : Sl) =>
  al 3 [.int .i64 v18] h62 fun (a65 : Addr) (h66 : Heap) =>
  app 3 1 8 (.int .i64 0) v64 (some a65) 1 h66 fun (s67 : Sl) (h68 : Heap) =>
  nn b1 fun (a69 : Addr) =>
  st (a69.add 28) [.slice s67.ptr s67.len s67.cap] h68 fun (h70 : Heap) =>
  j54 h70)
  (j54 h53))) (fun (j51 : Bool → Heap → Prop) =>
  brr (decide (i22 < 4))
  (j51 true h50)
  ((16 : Int) ≠ 0 ∧
  j51 ((i22.tmod 16) == 0) h50)))
  (j19 h23))
def F_law1_Book_growMsgs.l2 (f107_ : Int → Heap → (Int → Int → Int → Int → Int → Int → Int → Int → Int → Int → Sl → Int → Int → ByteArray → ByteArray → Int → Int → Int → Int → Int → Int → Int → Heap → Prop) → Prop) (b1 : Option Addr) (v3 : Sl) (j6 : Heap → Prop) : Int → Heap → Prop :=
  wl [(3, .one (.int .i64))] (fun (next7 : Int → Heap → Prop) (k8 : Int) (h9 : Heap) =>
  brr (decide (k8 < ((v3.len : Nat) : Int)))
  (jn [] (fun  (h73 : Heap) =>
  next7 (IntKind.i64.wrap (k8 + 1)) h73) (fun (j10 : Heap → Prop) =>
  nn b1 fun (a11 : Addr) =>
  ld [.sl] (a11.add 27) h9 fun (v12 : Sl) =>
  ixS 1 v12 k8 fun (a13 : Addr) =>
  ld [.sl] a13 h9 fun (v14 : Sl) =>
  nn b1 fun (a15 : Addr) =>
  ld [.sl] (a15.add 28) h9 fun (v16 : Sl) =>
  ixS 1 v16 k8 fun (a17 : Addr) =>
  ld [.int .i64] a17 h9 fun (v18 : Int) =>
  jn [] (fun  (h72 : Heap) =>
  j10 h72) (fun (j19 : Heap → Prop) =>
  F_law1_Book_growMsgs.l1 f107_ b1 v18 j19 v14 1 h9)))
  (j6 h9))
def F_law1_Book_growMsgs_of (f107_ : Int → Heap → (Int → Int → Int → Int → Int → Int → Int → Int → Int → Int → Sl → Int → Int → ByteArray → ByteArray → Int → Int → Int → Int → Int → Int → Int → Heap → Prop) → Prop) (b1 : Option Addr) (h : Heap) (Q : Heap → Prop) : Prop :=
  nn b1 fun (a2 : Addr) =>
  ld [.sl] (a2.add 27) h fun (v3 : Sl) =>
  nn b1 fun (a4 : Addr) =>
  ld [.int .i64] (a4.add 29) h fun (v5 : Int) =>
  jn [] (fun  (h74 : Heap) =>
  nn b1 fun (a75 : Addr) =>
  ld [.sl] (a75.add 27) h74 fun (v76 : Sl) =>
  nn b1 fun (a77 : Addr) =>
  st (a77.add 29) [.int .i64 ((v76.len : Nat) : Int)] h74 fun (h78 : Heap) =>
  Q h78) (fun (j6 : Heap → Prop) =>
  F_law1_Book_growMsgs.l2 f107_ b1 v3 j6 v5 h)
def F_law1_Book_growMsgs (b1 : Option Addr) (h : Heap) (Q : Heap → Prop) : Prop := F_law1_Book_growMsgs_of F_law1_msgsMark b1 h Q
def plan85 : Plan := .s (.r [0, 2]) (.s (.s (.r [0, 2, 3]) (.bj [] [0] (.l [(3, .one (.int .i64))] [0, 2] (.s (.s (.r [0, 2, 3, 18]) (.c .z .z)) (.s (.bj [] [0, 2, 3] (.s (.r [0, 2, 3, 4]) (.s (.r [0, 2, 3, 4, 5]) (.s (.r [0, 2, 3, 4, 5, 6]) (.bj [] [0, 2, 3] (.l [(4, .one .sl), (6, .one (.int .i64))] [0, 2, 3, 5] (.s (.s (.r [0, 2, 3, 4, 5, 6, 36]) (.c .z .z)) (.s (.b (.s (.r [0, 2, 3, 4, 5, 6]) (.s (.rj [(50, .one .bool)] [0, 2, 3, 4, 5, 6]) (.cj [] [0, 2, 3, 4, 5, 6] (.s (.r [0, 2, 3, 4, 5, 6]) (.r [0, 2, 3, 4, 5, 6])) .z)))) (.r [0, 2, 3, 4, 5, 6]))))))))) (.r [0, 2, 3])))))) (.r []))
theorem F_law1_Book_growMsgs.eq (f107_ : Int → Heap → (Int → Int → Int → Int → Int → Int → Int → Int → Int → Int → Sl → Int → Int → ByteArray → ByteArray → Int → Int → Int → Int → Int → Int → Int → Heap → Prop) → Prop) (b1 : Option Addr) (h : Heap) (K : Value → Heap → Prop) : F_law1_Book_growMsgs_of f107_ b1 h (fun  (h : Heap) => K (.tuple #[]) h) =
    den Try.prog (fn1 107 (E_law1_msgsMark_of f107_) noFns) Try.f85.ntmps plan85 (bodyOf Try.f85) (args0 0 [(.pointer b1 : Value)]) h ⟨fun env h => dRes Try.prog Try.f85.results.toList env h K, fun _ _ _ => False, fun env h => dRes Try.prog Try.f85.results.toList env h K⟩ := by kernel_rfl
def E_law1_Book_growMsgs_of (f : Option Addr → Heap → (Heap → Prop) → Prop) : List Value → Heap → (Value → Heap → Prop) → Prop
  | [v0], h, K => dec1 .ptr v0 fun (b1 : Option Addr) =>
  f b1 h (fun  (h : Heap) => K (.tuple #[]) h)
  | _, _, _ => False
abbrev E_law1_Book_growMsgs := E_law1_Book_growMsgs_of F_law1_Book_growMsgs
theorem E_law1_Book_growMsgs.right : IsRight Try.prog 85 E_law1_Book_growMsgs := by
  refine isRight fun vs K w hh => ?_
  match vs, hh with
  | [v0], hh =>
    unfold E_law1_Book_growMsgs E_law1_Book_growMsgs_of at hh
    replace hh := dec1_sound hh; obtain ⟨b1, rfl, hh⟩ := hh
    unfold F_law1_Book_growMsgs at hh
    exact calls_den (fn1_right ok107 E_law1_msgsMark.right noFns_right) plan85 _ w K Try.func85 (by kernel_rfl) (by kernel_rfl) (Eq.mp (F_law1_Book_growMsgs.eq F_law1_msgsMark b1 w.heap K) hh)
theorem ok85 : okFn Try.prog 85 = true := by kernel_rfl
end Go.Proofs.Ytcbelendjpnmiaa.V
namespace Go.Proofs.Ytcbelendjpnmiaa.V
open Go Go.RowKit
set_option linter.unusedVariables false
set_option maxRecDepth 100000
def F_law1_flightsMark_of  (m1 : Int) (h : Heap) (Q : Int → Sl → Heap → Prop) : Prop :=
  al 169 [.int .i64 0, .slice none 0 0] h fun (a2 : Addr) (h3 : Heap) =>
  st a2 [.int .i64 (IntKind.i64.wrap (1000 + m1)), .slice none 0 0] h3 fun (h4 : Heap) =>
  ld [.int .i64, .sl] a2 h4 fun (v5 : Int) (v6 : Sl) =>
  Q v5 v6 h4
def F_law1_flightsMark (m1 : Int) (h : Heap) (Q : Int → Sl → Heap → Prop) : Prop := F_law1_flightsMark_of  m1 h Q
def plan108 : Plan := .s (.r [0, 2]) (.s (.r [2]) .z)
theorem F_law1_flightsMark.eq  (m1 : Int) (h : Heap) (K : Value → Heap → Prop) : F_law1_flightsMark_of  m1 h (fun (r0 : Int) (r1 : Sl) (h : Heap) => K (.agg #[.int .i64 r0, .slice r1.ptr r1.len r1.cap]) h) =
    den Try.prog noFns Try.f108.ntmps plan108 (bodyOf Try.f108) (args0 0 [(.int .i64 m1 : Value)]) h ⟨fun env h => dRes Try.prog Try.f108.results.toList env h K, fun _ _ _ => False, fun env h => dRes Try.prog Try.f108.results.toList env h K⟩ := by kernel_rfl
def E_law1_flightsMark_of (f : Int → Heap → (Int → Sl → Heap → Prop) → Prop) : List Value → Heap → (Value → Heap → Prop) → Prop
  | [v0], h, K => dec1 (.int .i64) v0 fun (m1 : Int) =>
  f m1 h (fun (r0 : Int) (r1 : Sl) (h : Heap) => K (.agg #[.int .i64 r0, .slice r1.ptr r1.len r1.cap]) h)
  | _, _, _ => False
abbrev E_law1_flightsMark := E_law1_flightsMark_of F_law1_flightsMark
theorem E_law1_flightsMark.right : IsRight Try.prog 108 E_law1_flightsMark := by
  refine isRight fun vs K w hh => ?_
  match vs, hh with
  | [v0], hh =>
    unfold E_law1_flightsMark E_law1_flightsMark_of at hh
    replace hh := dec1_sound hh; obtain ⟨m1, rfl, hh⟩ := hh
    unfold F_law1_flightsMark at hh
    exact calls_den noFns_right plan108 _ w K Try.func108 (by kernel_rfl) (by kernel_rfl) (Eq.mp (F_law1_flightsMark.eq  m1 w.heap K) hh)
theorem ok108 : okFn Try.prog 108 = true := by kernel_rfl
end Go.Proofs.Ytcbelendjpnmiaa.V
namespace Go.Proofs.Ytcbelendjpnmiaa.V
open Go Go.RowKit
set_option linter.unusedVariables false
set_option maxRecDepth 100000
def F_law1_Book_growFlights.l1 (f108_ : Int → Heap → (Int → Sl → Heap → Prop) → Prop) (b1 : Option Addr) (v18 : Int) (j19 : Heap → Prop) : Sl → Int → Heap → Prop :=
  wl [(4, .one .sl), (6, .one (.int .i64))] (fun (next20 : Sl → Int → Heap → Prop) (g21 : Sl) (i22 : Int) (h23 : Heap) =>
  brr (decide (i22 ≤ 32))
  (f108_ v18 h23 fun (r24 : Int) (r25 : Sl) (h26 : Heap) =>
  al 169 [.int .i64 r24, .slice r25.ptr r25.len r25.cap] h26 fun (a27 : Addr) (h28 : Heap) =>
  app 169 2 32 (.agg #[.int .i64 0, .slice none 0 0]) g21 (some a27) 1 h28 fun (s29 : Sl) (h30 : Heap) =>
  jn [(50, .one .bool)] (fun (x32 : Bool) (h33 : Heap) =>
  jn [] (fun  (h51 : Heap) =>
  next20 s29 (IntKind.i64.wrap (i22 + 1)) h51) (fun (j34 : Heap → Prop) =>
  brr x32
  (nn b1 fun (a35 : Addr) =>
  ld [.sl] (a35.add 30) h33 fun (v36 : Sl) =>
  al 167 [.slice s29.ptr s29.len s29.cap] h33 fun (a37 : Addr) (h38 : Heap) =>
  app 167 1 24 (.slice none 0 0) v36 (some a37) 1 h38 fun (s39 : Sl) (h40 : Heap) =>
  nn b1 fun (a41 : Addr) =>
  st (a41.add 30) [.slice s39.ptr s39.len s39.cap] h40 fun (h42 : Heap) =>
  nn b1 fun (a43 : Addr) =>
  ld [.sl] (a43.add 31) h42 fun (v44 : Sl) =>
  al 3 [.int .i64 v18] h42 fun (a45 : Addr) (h46 : Heap) =>
  app 3 1 8 (.int .i64 0) v44 (some a45) 1 h46 fun (s47 : Sl) (h48 : Heap) =>
  nn b1 fun (a49 : Addr) =>
  st (a49.add 31) [.slice s47.ptr s47.len s47.cap] h48 fun (h50 : Heap) =>
  j34 h50)
  (j34 h33))) (fun (j31 : Bool → Heap → Prop) =>
  brr (decide (i22 < 4))
  (j31 true h30)
  ((16 : Int) ≠ 0 ∧
  j31 ((i22.tmod 16) == 0) h30)))
  (j19 h23))
def F_law1_Book_growFlights.l2 (f108_ : Int → Heap → (Int → Sl → Heap → Prop) → Prop) (b1 : Option Addr) (v3 : Sl) (j6 : Heap → Prop) : Int → Heap → Prop :=
  wl [(3, .one (.int .i64))] (fun (next7 : Int → Heap → Prop) (k8 : Int) (h9 : Heap) =>
  brr (decide (k8 < ((v3.len : Nat) : Int)))
  (jn [] (fun  (h53 : Heap) =>
  next7 (IntKind.i64.wrap (k8 + 1)) h53) (fun (j10 : Heap → Prop) =>
  nn b1 fun (a11 : Addr) =>
  ld [.sl] (a11.add 30) h9 fun (v12 : Sl) =>
  ixS 1 v12 k8 fun (a13 : Addr) =>
  ld [.sl] a13 h9 fun (v14 : Sl) =>
  nn b1 fun (a15 : Addr) =>
  ld [.sl] (a15.add 31) h9 fun (v16 : Sl) =>
  ixS 1 v16 k8 fun (a17 : Addr) =>
  ld [.int .i64] a17 h9 fun (v18 : Int) =>
  jn [] (fun  (h52 : Heap) =>
  j10 h52) (fun (j19 : Heap → Prop) =>
  F_law1_Book_growFlights.l1 f108_ b1 v18 j19 v14 1 h9)))
  (j6 h9))
def F_law1_Book_growFlights_of (f108_ : Int → Heap → (Int → Sl → Heap → Prop) → Prop) (b1 : Option Addr) (h : Heap) (Q : Heap → Prop) : Prop :=
  nn b1 fun (a2 : Addr) =>
  ld [.sl] (a2.add 30) h fun (v3 : Sl) =>
  nn b1 fun (a4 : Addr) =>
  ld [.int .i64] (a4.add 32) h fun (v5 : Int) =>
  jn [] (fun  (h54 : Heap) =>
  nn b1 fun (a55 : Addr) =>
  ld [.sl] (a55.add 30) h54 fun (v56 : Sl) =>
  nn b1 fun (a57 : Addr) =>
  st (a57.add 32) [.int .i64 ((v56.len : Nat) : Int)] h54 fun (h58 : Heap) =>
  Q h58) (fun (j6 : Heap → Prop) =>
  F_law1_Book_growFlights.l2 f108_ b1 v3 j6 v5 h)
def F_law1_Book_growFlights (b1 : Option Addr) (h : Heap) (Q : Heap → Prop) : Prop := F_law1_Book_growFlights_of F_law1_flightsMark b1 h Q
def plan86 : Plan := .s (.r [0, 2]) (.s (.s (.r [0, 2, 3]) (.bj [] [0] (.l [(3, .one (.int .i64))] [0, 2] (.s (.s (.r [0, 2, 3, 18]) (.c .z .z)) (.s (.bj [] [0, 2, 3] (.s (.r [0, 2, 3, 4]) (.s (.r [0, 2, 3, 4, 5]) (.s (.r [0, 2, 3, 4, 5, 6]) (.bj [] [0, 2, 3] (.l [(4, .one .sl), (6, .one (.int .i64))] [0, 2, 3, 5] (.s (.s (.r [0, 2, 3, 4, 5, 6, 36]) (.c .z .z)) (.s (.b (.s (.r [0, 2, 3, 4, 5, 6]) (.s (.rj [(50, .one .bool)] [0, 2, 3, 4, 5, 6]) (.cj [] [0, 2, 3, 4, 5, 6] (.s (.r [0, 2, 3, 4, 5, 6]) (.r [0, 2, 3, 4, 5, 6])) .z)))) (.r [0, 2, 3, 4, 5, 6]))))))))) (.r [0, 2, 3])))))) (.r []))
theorem F_law1_Book_growFlights.eq (f108_ : Int → Heap → (Int → Sl → Heap → Prop) → Prop) (b1 : Option Addr) (h : Heap) (K : Value → Heap → Prop) : F_law1_Book_growFlights_of f108_ b1 h (fun  (h : Heap) => K (.tuple #[]) h) =
    den Try.prog (fn1 108 (E_law1_flightsMark_of f108_) noFns) Try.f86.ntmps plan86 (bodyOf Try.f86) (args0 0 [(.pointer b1 : Value)]) h ⟨fun env h => dRes Try.prog Try.f86.results.toList env h K, fun _ _ _ => False, fun env h => dRes Try.prog Try.f86.results.toList env h K⟩ := by kernel_rfl
def E_law1_Book_growFlights_of (f : Option Addr → Heap → (Heap → Prop) → Prop) : List Value → Heap → (Value → Heap → Prop) → Prop
  | [v0], h, K => dec1 .ptr v0 fun (b1 : Option Addr) =>
  f b1 h (fun  (h : Heap) => K (.tuple #[]) h)
  | _, _, _ => False
abbrev E_law1_Book_growFlights := E_law1_Book_growFlights_of F_law1_Book_growFlights
theorem E_law1_Book_growFlights.right : IsRight Try.prog 86 E_law1_Book_growFlights := by
  refine isRight fun vs K w hh => ?_
  match vs, hh with
  | [v0], hh =>
    unfold E_law1_Book_growFlights E_law1_Book_growFlights_of at hh
    replace hh := dec1_sound hh; obtain ⟨b1, rfl, hh⟩ := hh
    unfold F_law1_Book_growFlights at hh
    exact calls_den (fn1_right ok108 E_law1_flightsMark.right noFns_right) plan86 _ w K Try.func86 (by kernel_rfl) (by kernel_rfl) (Eq.mp (F_law1_Book_growFlights.eq F_law1_flightsMark b1 w.heap K) hh)
theorem ok86 : okFn Try.prog 86 = true := by kernel_rfl
end Go.Proofs.Ytcbelendjpnmiaa.V
namespace Go.Proofs.Ytcbelendjpnmiaa.V
open Go Go.RowKit
set_option linter.unusedVariables false
set_option maxRecDepth 100000
def F_law1_Book_growFiles.l1 (f106_ : Int → Heap → (ByteArray → Sl → Heap → Prop) → Prop) (b1 : Option Addr) (v18 : Int) (j19 : Heap → Prop) : Sl → Int → Heap → Prop :=
  wl [(4, .one .sl), (6, .one (.int .i64))] (fun (next20 : Sl → Int → Heap → Prop) (g21 : Sl) (i22 : Int) (h23 : Heap) =>
  brr (decide (i22 ≤ 32))
  (f106_ v18 h23 fun (r24 : ByteArray) (r25 : Sl) (h26 : Heap) =>
  al 172 [.string r24, .slice r25.ptr r25.len r25.cap] h26 fun (a27 : Addr) (h28 : Heap) =>
  app 172 2 40 (.agg #[.string (⟨#[]⟩ : ByteArray), .slice none 0 0]) g21 (some a27) 1 h28 fun (s29 : Sl) (h30 : Heap) =>
  jn [(50, .one .bool)] (fun (x32 : Bool) (h33 : Heap) =>
  jn [] (fun  (h51 : Heap) =>
  next20 s29 (IntKind.i64.wrap (i22 + 1)) h51) (fun (j34 : Heap → Prop) =>
  brr x32
  (nn b1 fun (a35 : Addr) =>
  ld [.sl] (a35.add 33) h33 fun (v36 : Sl) =>
  al 170 [.slice s29.ptr s29.len s29.cap] h33 fun (a37 : Addr) (h38 : Heap) =>
  app 170 1 24 (.slice none 0 0) v36 (some a37) 1 h38 fun (s39 : Sl) (h40 : Heap) =>
  nn b1 fun (a41 : Addr) =>
  st (a41.add 33) [.slice s39.ptr s39.len s39.cap] h40 fun (h42 : Heap) =>
  nn b1 fun (a43 : Addr) =>
  ld [.sl] (a43.add 34) h42 fun (v44 : Sl) =>
  al 3 [.int .i64 v18] h42 fun (a45 : Addr) (h46 : Heap) =>
  app 3 1 8 (.int .i64 0) v44 (some a45) 1 h46 fun (s47 : Sl) (h48 : Heap) =>
  nn b1 fun (a49 : Addr) =>
  st (a49.add 34) [.slice s47.ptr s47.len s47.cap] h48 fun (h50 : Heap) =>
  j34 h50)
  (j34 h33))) (fun (j31 : Bool → Heap → Prop) =>
  brr (decide (i22 < 4))
  (j31 true h30)
  ((16 : Int) ≠ 0 ∧
  j31 ((i22.tmod 16) == 0) h30)))
  (j19 h23))
def F_law1_Book_growFiles.l2 (f106_ : Int → Heap → (ByteArray → Sl → Heap → Prop) → Prop) (b1 : Option Addr) (v3 : Sl) (j6 : Heap → Prop) : Int → Heap → Prop :=
  wl [(3, .one (.int .i64))] (fun (next7 : Int → Heap → Prop) (k8 : Int) (h9 : Heap) =>
  brr (decide (k8 < ((v3.len : Nat) : Int)))
  (jn [] (fun  (h53 : Heap) =>
  next7 (IntKind.i64.wrap (k8 + 1)) h53) (fun (j10 : Heap → Prop) =>
  nn b1 fun (a11 : Addr) =>
  ld [.sl] (a11.add 33) h9 fun (v12 : Sl) =>
  ixS 1 v12 k8 fun (a13 : Addr) =>
  ld [.sl] a13 h9 fun (v14 : Sl) =>
  nn b1 fun (a15 : Addr) =>
  ld [.sl] (a15.add 34) h9 fun (v16 : Sl) =>
  ixS 1 v16 k8 fun (a17 : Addr) =>
  ld [.int .i64] a17 h9 fun (v18 : Int) =>
  jn [] (fun  (h52 : Heap) =>
  j10 h52) (fun (j19 : Heap → Prop) =>
  F_law1_Book_growFiles.l1 f106_ b1 v18 j19 v14 1 h9)))
  (j6 h9))
def F_law1_Book_growFiles_of (f106_ : Int → Heap → (ByteArray → Sl → Heap → Prop) → Prop) (b1 : Option Addr) (h : Heap) (Q : Heap → Prop) : Prop :=
  nn b1 fun (a2 : Addr) =>
  ld [.sl] (a2.add 33) h fun (v3 : Sl) =>
  nn b1 fun (a4 : Addr) =>
  ld [.int .i64] (a4.add 35) h fun (v5 : Int) =>
  jn [] (fun  (h54 : Heap) =>
  nn b1 fun (a55 : Addr) =>
  ld [.sl] (a55.add 33) h54 fun (v56 : Sl) =>
  nn b1 fun (a57 : Addr) =>
  st (a57.add 35) [.int .i64 ((v56.len : Nat) : Int)] h54 fun (h58 : Heap) =>
  Q h58) (fun (j6 : Heap → Prop) =>
  F_law1_Book_growFiles.l2 f106_ b1 v3 j6 v5 h)
def F_law1_Book_growFiles (b1 : Option Addr) (h : Heap) (Q : Heap → Prop) : Prop := F_law1_Book_growFiles_of F_law1_filesMark b1 h Q
def plan87 : Plan := .s (.r [0, 2]) (.s (.s (.r [0, 2, 3]) (.bj [] [0] (.l [(3, .one (.int .i64))] [0, 2] (.s (.s (.r [0, 2, 3, 18]) (.c .z .z)) (.s (.bj [] [0, 2, 3] (.s (.r [0, 2, 3, 4]) (.s (.r [0, 2, 3, 4, 5]) (.s (.r [0, 2, 3, 4, 5, 6]) (.bj [] [0, 2, 3] (.l [(4, .one .sl), (6, .one (.int .i64))] [0, 2, 3, 5] (.s (.s (.r [0, 2, 3, 4, 5, 6, 36]) (.c .z .z)) (.s (.b (.s (.r [0, 2, 3, 4, 5, 6]) (.s (.rj [(50, .one .bool)] [0, 2, 3, 4, 5, 6]) (.cj [] [0, 2, 3, 4, 5, 6] (.s (.r [0, 2, 3, 4, 5, 6]) (.r [0, 2, 3, 4, 5, 6])) .z)))) (.r [0, 2, 3, 4, 5, 6]))))))))) (.r [0, 2, 3])))))) (.r []))
theorem F_law1_Book_growFiles.eq (f106_ : Int → Heap → (ByteArray → Sl → Heap → Prop) → Prop) (b1 : Option Addr) (h : Heap) (K : Value → Heap → Prop) : F_law1_Book_growFiles_of f106_ b1 h (fun  (h : Heap) => K (.tuple #[]) h) =
    den Try.prog (fn1 106 (E_law1_filesMark_of f106_) noFns) Try.f87.ntmps plan87 (bodyOf Try.f87) (args0 0 [(.pointer b1 : Value)]) h ⟨fun env h => dRes Try.prog Try.f87.results.toList env h K, fun _ _ _ => False, fun env h => dRes Try.prog Try.f87.results.toList env h K⟩ := by kernel_rfl
def E_law1_Book_growFiles_of (f : Option Addr → Heap → (Heap → Prop) → Prop) : List Value → Heap → (Value → Heap → Prop) → Prop
  | [v0], h, K => dec1 .ptr v0 fun (b1 : Option Addr) =>
  f b1 h (fun  (h : Heap) => K (.tuple #[]) h)
  | _, _, _ => False
abbrev E_law1_Book_growFiles := E_law1_Book_growFiles_of F_law1_Book_growFiles
theorem E_law1_Book_growFiles.right : IsRight Try.prog 87 E_law1_Book_growFiles := by
  refine isRight fun vs K w hh => ?_
  match vs, hh with
  | [v0], hh =>
    unfold E_law1_Book_growFiles E_law1_Book_growFiles_of at hh
    replace hh := dec1_sound hh; obtain ⟨b1, rfl, hh⟩ := hh
    unfold F_law1_Book_growFiles at hh
    exact calls_den (fn1_right ok106 E_law1_filesMark.right noFns_right) plan87 _ w K Try.func87 (by kernel_rfl) (by kernel_rfl) (Eq.mp (F_law1_Book_growFiles.eq F_law1_filesMark b1 w.heap K) hh)
theorem ok87 : okFn Try.prog 87 = true := by kernel_rfl
end Go.Proofs.Ytcbelendjpnmiaa.V
namespace Go.Proofs.Ytcbelendjpnmiaa.V
open Go Go.RowKit
set_option linter.unusedVariables false
set_option maxRecDepth 100000
def F_law1_Book_grow_of (f76_ : Option Addr → Heap → (Heap → Prop) → Prop) (f77_ : Option Addr → Heap → (Heap → Prop) → Prop) (f78_ : Option Addr → Heap → (Heap → Prop) → Prop) (f79_ : Option Addr → Heap → (Heap → Prop) → Prop) (f80_ : Option Addr → Heap → (Heap → Prop) → Prop) (f81_ : Option Addr → Heap → (Heap → Prop) → Prop) (f82_ : Option Addr → Heap → (Heap → Prop) → Prop) (f83_ : Option Addr → Heap → (Heap → Prop) → Prop) (f84_ : Option Addr → Heap → (Heap → Prop) → Prop) (f85_ : Option Addr → Heap → (Heap → Prop) → Prop) (f86_ : Option Addr → Heap → (Heap → Prop) → Prop) (f87_ : Option Addr → Heap → (Heap → Prop) → Prop) (b1 : Option Addr) (h : Heap) (Q : Heap → Prop) : Prop :=
  f76_ b1 h fun  (h2 : Heap) =>
  f77_ b1 h2 fun  (h3 : Heap) =>
  f78_ b1 h3 fun  (h4 : Heap) =>
  f79_ b1 h4 fun  (h5 : Heap) =>
  f80_ b1 h5 fun  (h6 : Heap) =>
  f81_ b1 h6 fun  (h7 : Heap) =>
  f82_ b1 h7 fun  (h8 : Heap) =>
  f83_ b1 h8 fun  (h9 : Heap) =>
  f84_ b1 h9 fun  (h10 : Heap) =>
  f85_ b1 h10 fun  (h11 : Heap) =>
  f86_ b1 h11 fun  (h12 : Heap) =>
  f87_ b1 h12 fun  (h13 : Heap) =>
  nn b1 fun (a14 : Addr) =>
  ld [.int .i64] (a14.add 36) h13 fun (v15 : Int) =>
  nn b1 fun (a16 : Addr) =>
  st (a16.add 37) [.int .i64 v15] h13 fun (h17 : Heap) =>
  Q h17
def F_law1_Book_grow (b1 : Option Addr) (h : Heap) (Q : Heap → Prop) : Prop := F_law1_Book_grow_of F_law1_Book_growBytes F_law1_Book_growRows F_law1_Book_growTexts F_law1_Book_growInts F_law1_Book_growWords F_law1_Book_growDones F_law1_Book_growAccts F_law1_Book_growQueue F_law1_Book_growSlots F_law1_Book_growMsgs F_law1_Book_growFlights F_law1_Book_growFiles b1 h Q
def plan56 : Plan := .s (.r [0]) (.s (.r [0]) (.s (.r [0]) (.s (.r [0]) (.s (.r [0]) (.s (.r [0]) (.s (.r [0]) (.s (.r [0]) (.s (.r [0]) (.s (.r [0]) (.s (.r [0]) (.s (.r [0]) (.r []))))))))))))
theorem F_law1_Book_grow.eq (f76_ : Option Addr → Heap → (Heap → Prop) → Prop) (f77_ : Option Addr → Heap → (Heap → Prop) → Prop) (f78_ : Option Addr → Heap → (Heap → Prop) → Prop) (f79_ : Option Addr → Heap → (Heap → Prop) → Prop) (f80_ : Option Addr → Heap → (Heap → Prop) → Prop) (f81_ : Option Addr → Heap → (Heap → Prop) → Prop) (f82_ : Option Addr → Heap → (Heap → Prop) → Prop) (f83_ : Option Addr → Heap → (Heap → Prop) → Prop) (f84_ : Option Addr → Heap → (Heap → Prop) → Prop) (f85_ : Option Addr → Heap → (Heap → Prop) → Prop) (f86_ : Option Addr → Heap → (Heap → Prop) → Prop) (f87_ : Option Addr → Heap → (Heap → Prop) → Prop) (b1 : Option Addr) (h : Heap) (K : Value → Heap → Prop) : F_law1_Book_grow_of f76_ f77_ f78_ f79_ f80_ f81_ f82_ f83_ f84_ f85_ f86_ f87_ b1 h (fun  (h : Heap) => K (.tuple #[]) h) =
    den Try.prog (fn1 76 (E_law1_Book_growBytes_of f76_) (fn1 77 (E_law1_Book_growRows_of f77_) (fn1 78 (E_law1_Book_growTexts_of f78_) (fn1 79 (E_law1_Book_growInts_of f79_) (fn1 80 (E_law1_Book_growWords_of f80_) (fn1 81 (E_law1_Book_growDones_of f81_) (fn1 82 (E_law1_Book_growAccts_of f82_) (fn1 83 (E_law1_Book_growQueue_of f83_) (fn1 84 (E_law1_Book_growSlots_of f84_) (fn1 85 (E_law1_Book_growMsgs_of f85_) (fn1 86 (E_law1_Book_growFlights_of f86_) (fn1 87 (E_law1_Book_growFiles_of f87_) noFns)))))))))))) Try.f56.ntmps plan56 (bodyOf Try.f56) (args0 0 [(.pointer b1 : Value)]) h ⟨fun env h => dRes Try.prog Try.f56.results.toList env h K, fun _ _ _ => False, fun env h => dRes Try.prog Try.f56.results.toList env h K⟩ := by kernel_rfl
def E_law1_Book_grow_of (f : Option Addr → Heap → (Heap → Prop) → Prop) : List Value → Heap → (Value → Heap → Prop) → Prop
  | [v0], h, K => dec1 .ptr v0 fun (b1 : Option Addr) =>
  f b1 h (fun  (h : Heap) => K (.tuple #[]) h)
  | _, _, _ => False
abbrev E_law1_Book_grow := E_law1_Book_grow_of F_law1_Book_grow
theorem E_law1_Book_grow.right : IsRight Try.prog 56 E_law1_Book_grow := by
  refine isRight fun vs K w hh => ?_
  match vs, hh with
  | [v0], hh =>
    unfold E_law1_Book_grow E_law1_Book_grow_of at hh
    replace hh := dec1_sound hh; obtain ⟨b1, rfl, hh⟩ := hh
    unfold F_law1_Book_grow at hh
    exact calls_den (fn1_right ok76 E_law1_Book_growBytes.right (fn1_right ok77 E_law1_Book_growRows.right (fn1_right ok78 E_law1_Book_growTexts.right (fn1_right ok79 E_law1_Book_growInts.right (fn1_right ok80 E_law1_Book_growWords.right (fn1_right ok81 E_law1_Book_growDones.right (fn1_right ok82 E_law1_Book_growAccts.right (fn1_right ok83 E_law1_Book_growQueue.right (fn1_right ok84 E_law1_Book_growSlots.right (fn1_right ok85 E_law1_Book_growMsgs.right (fn1_right ok86 E_law1_Book_growFlights.right (fn1_right ok87 E_law1_Book_growFiles.right noFns_right)))))))))))) plan56 _ w K Try.func56 (by kernel_rfl) (by kernel_rfl) (Eq.mp (F_law1_Book_grow.eq F_law1_Book_growBytes F_law1_Book_growRows F_law1_Book_growTexts F_law1_Book_growInts F_law1_Book_growWords F_law1_Book_growDones F_law1_Book_growAccts F_law1_Book_growQueue F_law1_Book_growSlots F_law1_Book_growMsgs F_law1_Book_growFlights F_law1_Book_growFiles b1 w.heap K) hh)
theorem ok56 : okFn Try.prog 56 = true := by kernel_rfl
end Go.Proofs.Ytcbelendjpnmiaa.V
namespace Go.Proofs.Ytcbelendjpnmiaa.V
open Go Go.RowKit
set_option linter.unusedVariables false
set_option maxRecDepth 100000
def F_law1_Book_Look_of (f55_ : Option Addr → Heap → (Bool → Heap → Prop) → Prop) (f56_ : Option Addr → Heap → (Heap → Prop) → Prop) (b1 : Option Addr) (h : Heap) (Q : Bool → Heap → Prop) : Prop :=
  f55_ b1 h fun (r2 : Bool) (h3 : Heap) =>
  brr (!r2)
  (Q false h3)
  (nn b1 fun (a4 : Addr) =>
  ld [.int .i64] (a4.add 37) h3 fun (v5 : Int) =>
  nn b1 fun (a6 : Addr) =>
  ld [.int .i64] (a6.add 36) h3 fun (v7 : Int) =>
  brr (v5 == v7)
  (Q true h3)
  (f56_ b1 h3 fun  (h8 : Heap) =>
  f55_ b1 h8 fun (r9 : Bool) (h10 : Heap) =>
  Q r9 h10))
def F_law1_Book_Look (b1 : Option Addr) (h : Heap) (Q : Bool → Heap → Prop) : Prop := F_law1_Book_Look_of F_law1_Book_holds F_law1_Book_grow b1 h Q
def plan35 : Plan := .s (.r [0]) (.s (.s (.r [0, 5]) (.c (.s (.r [2]) .z) .z)) (.s (.s (.d [0, 1, 3, 7, 0, 16, 48, 112, 255] [[0, 1, 2, 3, 4, 5, 6, 7, 8]] [0, 14]) (.c (.s (.r [2]) .z) .z)) (.s (.r [0]) (.s (.r [2]) .z))))
theorem F_law1_Book_Look.eq (f55_ : Option Addr → Heap → (Bool → Heap → Prop) → Prop) (f56_ : Option Addr → Heap → (Heap → Prop) → Prop) (b1 : Option Addr) (h : Heap) (K : Value → Heap → Prop) : F_law1_Book_Look_of f55_ f56_ b1 h (fun (r0 : Bool) (h : Heap) => K (.bool r0) h) =
    den Try.prog (fn1 55 (E_law1_Book_holds_of f55_) (fn1 56 (E_law1_Book_grow_of f56_) noFns)) Try.f35.ntmps plan35 (bodyOf Try.f35) (args0 0 [(.pointer b1 : Value)]) h ⟨fun env h => dRes Try.prog Try.f35.results.toList env h K, fun _ _ _ => False, fun env h => dRes Try.prog Try.f35.results.toList env h K⟩ := by kernel_rfl
def E_law1_Book_Look_of (f : Option Addr → Heap → (Bool → Heap → Prop) → Prop) : List Value → Heap → (Value → Heap → Prop) → Prop
  | [v0], h, K => dec1 .ptr v0 fun (b1 : Option Addr) =>
  f b1 h (fun (r0 : Bool) (h : Heap) => K (.bool r0) h)
  | _, _, _ => False
abbrev E_law1_Book_Look := E_law1_Book_Look_of F_law1_Book_Look
theorem E_law1_Book_Look.right : IsRight Try.prog 35 E_law1_Book_Look := by
  refine isRight fun vs K w hh => ?_
  match vs, hh with
  | [v0], hh =>
    unfold E_law1_Book_Look E_law1_Book_Look_of at hh
    replace hh := dec1_sound hh; obtain ⟨b1, rfl, hh⟩ := hh
    unfold F_law1_Book_Look at hh
    exact calls_den (fn1_right ok55 E_law1_Book_holds.right (fn1_right ok56 E_law1_Book_grow.right noFns_right)) plan35 _ w K Try.func35 (by kernel_rfl) (by kernel_rfl) (Eq.mp (F_law1_Book_Look.eq F_law1_Book_holds F_law1_Book_grow b1 w.heap K) hh)
theorem ok35 : okFn Try.prog 35 = true := by kernel_rfl
end Go.Proofs.Ytcbelendjpnmiaa.V
namespace Go.Proofs.Ytcbelendjpnmiaa.V
open Go Go.RowKit
set_option linter.unusedVariables false
set_option maxRecDepth 100000
def F_law1_Book_tight_of  (b1 : Option Addr) (n2 : Int) (h : Heap) (Q : Bool → Heap → Prop) : Prop :=
  nn b1 fun (a3 : Addr) =>
  ld [.int .i64] (a3.add 38) h fun (v4 : Int) =>
  brr (decide ((IntKind.i64.wrap (v4 + n2)) > 16777216))
  (Q true h)
  (nn b1 fun (a5 : Addr) =>
  ld [.int .i64] (a5.add 38) h fun (v6 : Int) =>
  nn b1 fun (a7 : Addr) =>
  st (a7.add 38) [.int .i64 (IntKind.i64.wrap (v6 + n2))] h fun (h8 : Heap) =>
  Q false h8)
def F_law1_Book_tight (b1 : Option Addr) (n2 : Int) (h : Heap) (Q : Bool → Heap → Prop) : Prop := F_law1_Book_tight_of  b1 n2 h Q
def plan89 : Plan := .s (.r [0, 1]) (.s (.s (.r [0, 1, 11]) (.c (.s (.r [4]) .z) .z)) (.s (.r []) (.s (.r [4]) .z)))
theorem F_law1_Book_tight.eq  (b1 : Option Addr) (n2 : Int) (h : Heap) (K : Value → Heap → Prop) : F_law1_Book_tight_of  b1 n2 h (fun (r0 : Bool) (h : Heap) => K (.bool r0) h) =
    den Try.prog noFns Try.f89.ntmps plan89 (bodyOf Try.f89) (args0 0 [(.pointer b1 : Value), (.int .i64 n2 : Value)]) h ⟨fun env h => dRes Try.prog Try.f89.results.toList env h K, fun _ _ _ => False, fun env h => dRes Try.prog Try.f89.results.toList env h K⟩ := by kernel_rfl
def E_law1_Book_tight_of (f : Option Addr → Int → Heap → (Bool → Heap → Prop) → Prop) : List Value → Heap → (Value → Heap → Prop) → Prop
  | [v0, v1], h, K => dec1 .ptr v0 fun (b1 : Option Addr) =>
  dec1 (.int .i64) v1 fun (n2 : Int) =>
  f b1 n2 h (fun (r0 : Bool) (h : Heap) => K (.bool r0) h)
  | _, _, _ => False
abbrev E_law1_Book_tight := E_law1_Book_tight_of F_law1_Book_tight
theorem E_law1_Book_tight.right : IsRight Try.prog 89 E_law1_Book_tight := by
  refine isRight fun vs K w hh => ?_
  match vs, hh with
  | [v0, v1], hh =>
    unfold E_law1_Book_tight E_law1_Book_tight_of at hh
    replace hh := dec1_sound hh; obtain ⟨b1, rfl, hh⟩ := hh
    replace hh := dec1_sound hh; obtain ⟨n2, rfl, hh⟩ := hh
    unfold F_law1_Book_tight at hh
    exact calls_den noFns_right plan89 _ w K Try.func89 (by kernel_rfl) (by kernel_rfl) (Eq.mp (F_law1_Book_tight.eq  b1 n2 w.heap K) hh)
theorem ok89 : okFn Try.prog 89 = true := by kernel_rfl
end Go.Proofs.Ytcbelendjpnmiaa.V
namespace Go.Proofs.Ytcbelendjpnmiaa.V
open Go Go.RowKit
set_option linter.unusedVariables false
set_option maxRecDepth 100000
def F_law1_Book_Bytes.l1 (f88_ : Int → Int → Heap → (Int → Heap → Prop) → Prop) (l2 : Sl) (v8 : Int) (j9 : Heap → Prop) : Int → Heap → Prop :=
  wl [(5, .one (.int .i64))] (fun (next10 : Int → Heap → Prop) (i11 : Int) (h12 : Heap) =>
  brr (decide (i11 < ((l2.len : Nat) : Int)))
  (f88_ v8 i11 h12 fun (r13 : Int) (h14 : Heap) =>
  ixS 1 l2 i11 fun (a15 : Addr) =>
  st a15 [.int .u8 r13] h14 fun (h16 : Heap) =>
  next10 (IntKind.i64.wrap (i11 + 1)) h16)
  (j9 h12))
def F_law1_Book_Bytes_of (f88_ : Int → Int → Heap → (Int → Heap → Prop) → Prop) (f89_ : Option Addr → Int → Heap → (Bool → Heap → Prop) → Prop) (b1 : Option Addr) (l2 : Sl) (h : Heap) (Q : Heap → Prop) : Prop :=
  nn b1 fun (a3 : Addr) =>
  ld [.int .i64] (a3.add 36) h fun (v4 : Int) =>
  nn b1 fun (a5 : Addr) =>
  st (a5.add 36) [.int .i64 (IntKind.i64.wrap (v4 + 1))] h fun (h6 : Heap) =>
  nn b1 fun (a7 : Addr) =>
  ld [.int .i64] (a7.add 36) h6 fun (v8 : Int) =>
  jn [] (fun  (h17 : Heap) =>
  f89_ b1 (IntKind.i64.wrap (1200 + (IntKind.i64.wrap (3 * ((l2.len : Nat) : Int))))) h17 fun (r18 : Bool) (h19 : Heap) =>
  brr r18
  (Q h19)
  (nn b1 fun (a20 : Addr) =>
  ld [.sl] (a20.add 0) h19 fun (v21 : Sl) =>
  al 29 [.slice l2.ptr l2.len l2.cap] h19 fun (a22 : Addr) (h23 : Heap) =>
  app 29 1 24 (.slice none 0 0) v21 (some a22) 1 h23 fun (s24 : Sl) (h25 : Heap) =>
  nn b1 fun (a26 : Addr) =>
  st (a26.add 0) [.slice s24.ptr s24.len s24.cap] h25 fun (h27 : Heap) =>
  nn b1 fun (a28 : Addr) =>
  ld [.sl] (a28.add 1) h27 fun (v29 : Sl) =>
  al 3 [.int .i64 v8] h27 fun (a30 : Addr) (h31 : Heap) =>
  app 3 1 8 (.int .i64 0) v29 (some a30) 1 h31 fun (s32 : Sl) (h33 : Heap) =>
  nn b1 fun (a34 : Addr) =>
  st (a34.add 1) [.slice s32.ptr s32.len s32.cap] h33 fun (h35 : Heap) =>
  Q h35)) (fun (j9 : Heap → Prop) =>
  F_law1_Book_Bytes.l1 f88_ l2 v8 j9 0 h6)
def F_law1_Book_Bytes (b1 : Option Addr) (l2 : Sl) (h : Heap) (Q : Heap → Prop) : Prop := F_law1_Book_Bytes_of F_law1_at F_law1_Book_tight b1 l2 h Q
def plan58 : Plan := .s (.r [0, 1]) (.s (.r [0, 1, 4]) (.s (.s (.r [0, 1, 4, 5]) (.bj [] [0, 1, 4] (.l [(5, .one (.int .i64))] [0, 1, 4] (.s (.s (.r [0, 1, 4, 5, 20]) (.c .z .z)) (.s (.b (.r [0, 1, 4, 5])) (.r [0, 1, 4, 5])))))) (.s (.s (.r [0, 1, 4, 34]) (.c .z .z)) (.s (.r [0, 4]) (.r [])))))
theorem F_law1_Book_Bytes.eq (f88_ : Int → Int → Heap → (Int → Heap → Prop) → Prop) (f89_ : Option Addr → Int → Heap → (Bool → Heap → Prop) → Prop) (b1 : Option Addr) (l2 : Sl) (h : Heap) (K : Value → Heap → Prop) : F_law1_Book_Bytes_of f88_ f89_ b1 l2 h (fun  (h : Heap) => K (.tuple #[]) h) =
    den Try.prog (fn1 88 (E_law1_at_of f88_) (fn1 89 (E_law1_Book_tight_of f89_) noFns)) Try.f58.ntmps plan58 (bodyOf Try.f58) (args0 0 [(.pointer b1 : Value), (.slice l2.ptr l2.len l2.cap : Value)]) h ⟨fun env h => dRes Try.prog Try.f58.results.toList env h K, fun _ _ _ => False, fun env h => dRes Try.prog Try.f58.results.toList env h K⟩ := by kernel_rfl
def E_law1_Book_Bytes_of (f : Option Addr → Sl → Heap → (Heap → Prop) → Prop) : List Value → Heap → (Value → Heap → Prop) → Prop
  | [v0, v1], h, K => dec1 .ptr v0 fun (b1 : Option Addr) =>
  dec1 .sl v1 fun (l2 : Sl) =>
  f b1 l2 h (fun  (h : Heap) => K (.tuple #[]) h)
  | _, _, _ => False
abbrev E_law1_Book_Bytes := E_law1_Book_Bytes_of F_law1_Book_Bytes
theorem E_law1_Book_Bytes.right : IsRight Try.prog 58 E_law1_Book_Bytes := by
  refine isRight fun vs K w hh => ?_
  match vs, hh with
  | [v0, v1], hh =>
    unfold E_law1_Book_Bytes E_law1_Book_Bytes_of at hh
    replace hh := dec1_sound hh; obtain ⟨b1, rfl, hh⟩ := hh
    replace hh := dec1_sound hh; obtain ⟨l2, rfl, hh⟩ := hh
    unfold F_law1_Book_Bytes at hh
    exact calls_den (fn1_right ok88 E_law1_at.right (fn1_right ok89 E_law1_Book_tight.right noFns_right)) plan58 _ w K Try.func58 (by kernel_rfl) (by kernel_rfl) (Eq.mp (F_law1_Book_Bytes.eq F_law1_at F_law1_Book_tight b1 l2 w.heap K) hh)
theorem ok58 : okFn Try.prog 58 = true := by kernel_rfl
end Go.Proofs.Ytcbelendjpnmiaa.V
/- The Book whose lists are of bytes alone: what it does with all other kinds: nothing. (Printed by a small program.) -/
namespace Go.Proofs.Ytcbelendjpnmiaa.V
open Go Go.RowKit
set_option linter.unusedVariables false
set_option linter.unusedSimpArgs false
theorem wl_now1 {i : Nat} {k : Kd} {B : (k.T → Heap → Prop) → k.T → Heap → Prop} {x : k.T} {h : Heap} (hb : ∀ next, B next x h) : wl [(i, .one k)] B x h :=
  wl1 (fun _ x' h' => x' = x ∧ h' = h) (fun m x' h' next _ ⟨e1, e2⟩ => by subst e1 e2; exact hb next) (m := 0) ⟨rfl, rfl⟩
def bkC (s0 s1 : Sl) (n t d u : Int) : List Value := [.slice s0.ptr s0.len s0.cap, .slice s1.ptr s1.len s1.cap, .int .i64 n, .slice none 0 0, .slice none 0 0, .int .i64 0, .slice none 0 0, .slice none 0 0, .int .i64 0, .slice none 0 0, .slice none 0 0, .int .i64 0, .slice none 0 0, .slice none 0 0, .int .i64 0, .slice none 0 0, .slice none 0 0, .int .i64 0, .slice none 0 0, .slice none 0 0, .int .i64 0, .slice none 0 0, .slice none 0 0, .int .i64 0, .slice none 0 0, .slice none 0 0, .int .i64 0, .slice none 0 0, .slice none 0 0, .int .i64 0, .slice none 0 0, .slice none 0 0, .int .i64 0, .slice none 0 0, .slice none 0 0, .int .i64 0, .int .i64 t, .int .i64 d, .int .i64 u]
section
variable {h0 h : Heap} {L : List Res} {bk : Nat} {s0 s1 : Sl} {n t d u : Int}
theorem F_law1_Book_kept.is {Q : Bool → Heap → Prop} (O : Sat h0 h (own bk (bkC s0 s1 n t d u) :: L)) (k : Q true h) : F_law1_Book_kept (some (pt bk 0)) h Q := by
  rw [F_law1_Book_kept.eq_1, F_law1_Book_kept_of.eq_1]
  unfold bkC at O
  refine jn_go ?_
  rw [F_law1_Book_kept.l2.eq_1]
  refine wl_now1 fun next => ?_
  simp only [nn_some, pt_add, Nat.zero_add, Nat.add_zero, Nat.reduceAdd, Nat.reduceMul, Int.toNat_zero, Int.toNat_one, Nat.zero_mul, Nat.one_mul]
  refine O.ld 0 rfl (ldL_c (k := .sl) (x := (⟨none, 0, 0⟩ : Sl)) (ldL_n ?_))
  refine brr_ff (by decide) ?_
  refine jn_go ?_
  rw [F_law1_Book_kept.l4.eq_1]
  refine wl_now1 fun next => ?_
  simp only [nn_some, pt_add, Nat.zero_add, Nat.add_zero, Nat.reduceAdd, Nat.reduceMul, Int.toNat_zero, Int.toNat_one, Nat.zero_mul, Nat.one_mul]
  refine O.ld 0 rfl (ldL_c (k := .sl) (x := (⟨none, 0, 0⟩ : Sl)) (ldL_n ?_))
  refine brr_ff (by decide) ?_
  refine jn_go ?_
  rw [F_law1_Book_kept.l6.eq_1]
  refine wl_now1 fun next => ?_
  simp only [nn_some, pt_add, Nat.zero_add, Nat.add_zero, Nat.reduceAdd, Nat.reduceMul, Int.toNat_zero, Int.toNat_one, Nat.zero_mul, Nat.one_mul]
  refine O.ld 0 rfl (ldL_c (k := .sl) (x := (⟨none, 0, 0⟩ : Sl)) (ldL_n ?_))
  refine brr_ff (by decide) ?_
  refine jn_go ?_
  rw [F_law1_Book_kept.l8.eq_1]
  refine wl_now1 fun next => ?_
  simp only [nn_some, pt_add, Nat.zero_add, Nat.add_zero, Nat.reduceAdd, Nat.reduceMul, Int.toNat_zero, Int.toNat_one, Nat.zero_mul, Nat.one_mul]
  refine O.ld 0 rfl (ldL_c (k := .sl) (x := (⟨none, 0, 0⟩ : Sl)) (ldL_n ?_))
  refine brr_ff (by decide) ?_
  exact k
theorem F_law1_Book_told.is {Q : Bool → Heap → Prop} (O : Sat h0 h (own bk (bkC s0 s1 n t d u) :: L)) (k : Q true h) : F_law1_Book_told (some (pt bk 0)) h Q := by
  rw [F_law1_Book_told.eq_1, F_law1_Book_told_of.eq_1]
  unfold bkC at O
  refine jn_go ?_
  rw [F_law1_Book_told.l2.eq_1]
  refine wl_now1 fun next => ?_
  simp only [nn_some, pt_add, Nat.zero_add, Nat.add_zero, Nat.reduceAdd, Nat.reduceMul, Int.toNat_zero, Int.toNat_one, Nat.zero_mul, Nat.one_mul]
  refine O.ld 0 rfl (ldL_c (k := .sl) (x := (⟨none, 0, 0⟩ : Sl)) (ldL_n ?_))
  refine brr_ff (by decide) ?_
  refine jn_go ?_
  rw [F_law1_Book_told.l4.eq_1]
  refine wl_now1 fun next => ?_
  simp only [nn_some, pt_add, Nat.zero_add, Nat.add_zero, Nat.reduceAdd, Nat.reduceMul, Int.toNat_zero, Int.toNat_one, Nat.zero_mul, Nat.one_mul]
  refine O.ld 0 rfl (ldL_c (k := .sl) (x := (⟨none, 0, 0⟩ : Sl)) (ldL_n ?_))
  refine brr_ff (by decide) ?_
  refine jn_go ?_
  rw [F_law1_Book_told.l6.eq_1]
  refine wl_now1 fun next => ?_
  simp only [nn_some, pt_add, Nat.zero_add, Nat.add_zero, Nat.reduceAdd, Nat.reduceMul, Int.toNat_zero, Int.toNat_one, Nat.zero_mul, Nat.one_mul]
  refine O.ld 0 rfl (ldL_c (k := .sl) (x := (⟨none, 0, 0⟩ : Sl)) (ldL_n ?_))
  refine brr_ff (by decide) ?_
  refine jn_go ?_
  rw [F_law1_Book_told.l8.eq_1]
  refine wl_now1 fun next => ?_
  simp only [nn_some, pt_add, Nat.zero_add, Nat.add_zero, Nat.reduceAdd, Nat.reduceMul, Int.toNat_zero, Int.toNat_one, Nat.zero_mul, Nat.one_mul]
  refine O.ld 0 rfl (ldL_c (k := .sl) (x := (⟨none, 0, 0⟩ : Sl)) (ldL_n ?_))
  refine brr_ff (by decide) ?_
  exact k
theorem F_law1_Book_held.is {Q : Bool → Heap → Prop} (O : Sat h0 h (own bk (bkC s0 s1 n t d u) :: L)) (k : Q true h) : F_law1_Book_held (some (pt bk 0)) h Q := by
  rw [F_law1_Book_held.eq_1, F_law1_Book_held_of.eq_1]
  unfold bkC at O
  refine jn_go ?_
  rw [F_law1_Book_held.l2.eq_1]
  refine wl_now1 fun next => ?_
  simp only [nn_some, pt_add, Nat.zero_add, Nat.add_zero, Nat.reduceAdd, Nat.reduceMul, Int.toNat_zero, Int.toNat_one, Nat.zero_mul, Nat.one_mul]
  refine O.ld 0 rfl (ldL_c (k := .sl) (x := (⟨none, 0, 0⟩ : Sl)) (ldL_n ?_))
  refine brr_ff (by decide) ?_
  refine jn_go ?_
  rw [F_law1_Book_held.l4.eq_1]
  refine wl_now1 fun next => ?_
  simp only [nn_some, pt_add, Nat.zero_add, Nat.add_zero, Nat.reduceAdd, Nat.reduceMul, Int.toNat_zero, Int.toNat_one, Nat.zero_mul, Nat.one_mul]
  refine O.ld 0 rfl (ldL_c (k := .sl) (x := (⟨none, 0, 0⟩ : Sl)) (ldL_n ?_))
  refine brr_ff (by decide) ?_
  exact k
theorem F_law1_Book_growRows.is {Q : Heap → Prop} (O : Sat h0 h (own bk (bkC s0 s1 n t d u) :: L)) (k : ∀ h', Sat h0 h' (own bk (bkC s0 s1 n t d u) :: L) → Q h') : F_law1_Book_growRows (some (pt bk 0)) h Q := by
  rw [F_law1_Book_growRows.eq_1, F_law1_Book_growRows_of.eq_1]
  unfold bkC at O k
  simp only [nn_some, pt_add, Nat.zero_add, Nat.add_zero, Nat.reduceAdd, Nat.reduceMul, Int.toNat_zero, Int.toNat_one, Nat.zero_mul, Nat.one_mul]
  refine O.ld 0 rfl (ldL_c (k := .sl) (x := (⟨none, 0, 0⟩ : Sl)) (ldL_n ?_))
  refine O.ld 0 rfl (ldL_c (ldL_n ?_))
  refine jn_go ?_
  rw [F_law1_Book_growRows.l2.eq_1]
  refine wl_now1 fun next => ?_
  refine brr_ff (by decide) ?_
  refine O.ld 0 rfl (ldL_c (k := .sl) (x := (⟨none, 0, 0⟩ : Sl)) (ldL_n ?_))
  refine O.st 0 rfl (by simp) rfl fun h O => ?_
  dsimp only [V.put, List.set] at O
  exact k h O
theorem F_law1_Book_growTexts.is {Q : Heap → Prop} (O : Sat h0 h (own bk (bkC s0 s1 n t d u) :: L)) (k : ∀ h', Sat h0 h' (own bk (bkC s0 s1 n t d u) :: L) → Q h') : F_law1_Book_growTexts (some (pt bk 0)) h Q := by
  rw [F_law1_Book_growTexts.eq_1, F_law1_Book_growTexts_of.eq_1]
  unfold bkC at O k
  simp only [nn_some, pt_add, Nat.zero_add, Nat.add_zero, Nat.reduceAdd, Nat.reduceMul, Int.toNat_zero, Int.toNat_one, Nat.zero_mul, Nat.one_mul]
  refine O.ld 0 rfl (ldL_c (k := .sl) (x := (⟨none, 0, 0⟩ : Sl)) (ldL_n ?_))
  refine O.ld 0 rfl (ldL_c (ldL_n ?_))
  refine jn_go ?_
  rw [F_law1_Book_growTexts.l2.eq_1]
  refine wl_now1 fun next => ?_
  refine brr_ff (by decide) ?_
  refine O.ld 0 rfl (ldL_c (k := .sl) (x := (⟨none, 0, 0⟩ : Sl)) (ldL_n ?_))
  refine O.st 0 rfl (by simp) rfl fun h O => ?_
  dsimp only [V.put, List.set] at O
  exact k h O
theorem F_law1_Book_growInts.is {Q : Heap → Prop} (O : Sat h0 h (own bk (bkC s0 s1 n t d u) :: L)) (k : ∀ h', Sat h0 h' (own bk (bkC s0 s1 n t d u) :: L) → Q h') : F_law1_Book_growInts (some (pt bk 0)) h Q := by
  rw [F_law1_Book_growInts.eq_1, F_law1_Book_growInts_of.eq_1]
  unfold bkC at O k
  simp only [nn_some, pt_add, Nat.zero_add, Nat.add_zero, Nat.reduceAdd, Nat.reduceMul, Int.toNat_zero, Int.toNat_one, Nat.zero_mul, Nat.one_mul]
  refine O.ld 0 rfl (ldL_c (k := .sl) (x := (⟨none, 0, 0⟩ : Sl)) (ldL_n ?_))
  refine O.ld 0 rfl (ldL_c (ldL_n ?_))
  refine jn_go ?_
  rw [F_law1_Book_growInts.l2.eq_1]
  refine wl_now1 fun next => ?_
  refine brr_ff (by decide) ?_
  refine O.ld 0 rfl (ldL_c (k := .sl) (x := (⟨none, 0, 0⟩ : Sl)) (ldL_n ?_))
  refine O.st 0 rfl (by simp) rfl fun h O => ?_
  dsimp only [V.put, List.set] at O
  exact k h O
theorem F_law1_Book_growWords.is {Q : Heap → Prop} (O : Sat h0 h (own bk (bkC s0 s1 n t d u) :: L)) (k : ∀ h', Sat h0 h' (own bk (bkC s0 s1 n t d u) :: L) → Q h') : F_law1_Book_growWords (some (pt bk 0)) h Q := by
  rw [F_law1_Book_growWords.eq_1, F_law1_Book_growWords_of.eq_1]
  unfold bkC at O k
  simp only [nn_some, pt_add, Nat.zero_add, Nat.add_zero, Nat.reduceAdd, Nat.reduceMul, Int.toNat_zero, Int.toNat_one, Nat.zero_mul, Nat.one_mul]
  refine O.ld 0 rfl (ldL_c (k := .sl) (x := (⟨none, 0, 0⟩ : Sl)) (ldL_n ?_))
  refine O.ld 0 rfl (ldL_c (ldL_n ?_))
  refine jn_go ?_
  rw [F_law1_Book_growWords.l2.eq_1]
  refine wl_now1 fun next => ?_
  refine brr_ff (by decide) ?_
  refine O.ld 0 rfl (ldL_c (k := .sl) (x := (⟨none, 0, 0⟩ : Sl)) (ldL_n ?_))
  refine O.st 0 rfl (by simp) rfl fun h O => ?_
  dsimp only [V.put, List.set] at O
  exact k h O
theorem F_law1_Book_growDones.is {Q : Heap → Prop} (O : Sat h0 h (own bk (bkC s0 s1 n t d u) :: L)) (k : ∀ h', Sat h0 h' (own bk (bkC s0 s1 n t d u) :: L) → Q h') : F_law1_Book_growDones (some (pt bk 0)) h Q := by
  rw [F_law1_Book_growDones.eq_1, F_law1_Book_growDones_of.eq_1]
  unfold bkC at O k
  simp only [nn_some, pt_add, Nat.zero_add, Nat.add_zero, Nat.reduceAdd, Nat.reduceMul, Int.toNat_zero, Int.toNat_one, Nat.zero_mul, Nat.one_mul]
  refine O.ld 0 rfl (ldL_c (k := .sl) (x := (⟨none, 0, 0⟩ : Sl)) (ldL_n ?_))
  refine O.ld 0 rfl (ldL_c (ldL_n ?_))
  refine jn_go ?_
  rw [F_law1_Book_growDones.l2.eq_1]
  refine wl_now1 fun next => ?_
  refine brr_ff (by decide) ?_
  refine O.ld 0 rfl (ldL_c (k := .sl) (x := (⟨none, 0, 0⟩ : Sl)) (ldL_n ?_))
  refine O.st 0 rfl (by simp) rfl fun h O => ?_
  dsimp only [V.put, List.set] at O
  exact k h O
theorem F_law1_Book_growAccts.is {Q : Heap → Prop} (O : Sat h0 h (own bk (bkC s0 s1 n t d u) :: L)) (k : ∀ h', Sat h0 h' (own bk (bkC s0 s1 n t d u) :: L) → Q h') : F_law1_Book_growAccts (some (pt bk 0)) h Q := by
  rw [F_law1_Book_growAccts.eq_1, F_law1_Book_growAccts_of.eq_1]
  unfold bkC at O k
  simp only [nn_some, pt_add, Nat.zero_add, Nat.add_zero, Nat.reduceAdd, Nat.reduceMul, Int.toNat_zero, Int.toNat_one, Nat.zero_mul, Nat.one_mul]
  refine O.ld 0 rfl (ldL_c (k := .sl) (x := (⟨none, 0, 0⟩ : Sl)) (ldL_n ?_))
  refine O.ld 0 rfl (ldL_c (ldL_n ?_))
  refine jn_go ?_
  rw [F_law1_Book_growAccts.l2.eq_1]
  refine wl_now1 fun next => ?_
  refine brr_ff (by decide) ?_
  refine O.ld 0 rfl (ldL_c (k := .sl) (x := (⟨none, 0, 0⟩ : Sl)) (ldL_n ?_))
  refine O.st 0 rfl (by simp) rfl fun h O => ?_
  dsimp only [V.put, List.set] at O
  exact k h O
theorem F_law1_Book_growQueue.is {Q : Heap → Prop} (O : Sat h0 h (own bk (bkC s0 s1 n t d u) :: L)) (k : ∀ h', Sat h0 h' (own bk (bkC s0 s1 n t d u) :: L) → Q h') : F_law1_Book_growQueue (some (pt bk 0)) h Q := by
  rw [F_law1_Book_growQueue.eq_1, F_law1_Book_growQueue_of.eq_1]
  unfold bkC at O k
  simp only [nn_some, pt_add, Nat.zero_add, Nat.add_zero, Nat.reduceAdd, Nat.reduceMul, Int.toNat_zero, Int.toNat_one, Nat.zero_mul, Nat.one_mul]
  refine O.ld 0 rfl (ldL_c (k := .sl) (x := (⟨none, 0, 0⟩ : Sl)) (ldL_n ?_))
  refine O.ld 0 rfl (ldL_c (ldL_n ?_))
  refine jn_go ?_
  rw [F_law1_Book_growQueue.l2.eq_1]
  refine wl_now1 fun next => ?_
  refine brr_ff (by decide) ?_
  refine O.ld 0 rfl (ldL_c (k := .sl) (x := (⟨none, 0, 0⟩ : Sl)) (ldL_n ?_))
  refine O.st 0 rfl (by simp) rfl fun h O => ?_
  dsimp only [V.put, List.set] at O
  exact k h O
theorem F_law1_Book_growSlots.is {Q : Heap → Prop} (O : Sat h0 h (own bk (bkC s0 s1 n t d u) :: L)) (k : ∀ h', Sat h0 h' (own bk (bkC s0 s1 n t d u) :: L) → Q h') : F_law1_Book_growSlots (some (pt bk 0)) h Q := by
  rw [F_law1_Book_growSlots.eq_1, F_law1_Book_growSlots_of.eq_1]
  unfold bkC at O k
  simp only [nn_some, pt_add, Nat.zero_add, Nat.add_zero, Nat.reduceAdd, Nat.reduceMul, Int.toNat_zero, Int.toNat_one, Nat.zero_mul, Nat.one_mul]
  refine O.ld 0 rfl (ldL_c (k := .sl) (x := (⟨none, 0, 0⟩ : Sl)) (ldL_n ?_))
  refine O.ld 0 rfl (ldL_c (ldL_n ?_))
  refine jn_go ?_
  rw [F_law1_Book_growSlots.l2.eq_1]
  refine wl_now1 fun next => ?_
  refine brr_ff (by decide) ?_
  refine O.ld 0 rfl (ldL_c (k := .sl) (x := (⟨none, 0, 0⟩ : Sl)) (ldL_n ?_))
  refine O.st 0 rfl (by simp) rfl fun h O => ?_
  dsimp only [V.put, List.set] at O
  exact k h O
theorem F_law1_Book_growMsgs.is {Q : Heap → Prop} (O : Sat h0 h (own bk (bkC s0 s1 n t d u) :: L)) (k : ∀ h', Sat h0 h' (own bk (bkC s0 s1 n t d u) :: L) → Q h') : F_law1_Book_growMsgs (some (pt bk 0)) h Q := by
  rw [F_law1_Book_growMsgs.eq_1, F_law1_Book_growMsgs_of.eq_1]
  unfold bkC at O k
  simp only [nn_some, pt_add, Nat.zero_add, Nat.add_zero, Nat.reduceAdd, Nat.reduceMul, Int.toNat_zero, Int.toNat_one, Nat.zero_mul, Nat.one_mul]
  refine O.ld 0 rfl (ldL_c (k := .sl) (x := (⟨none, 0, 0⟩ : Sl)) (ldL_n ?_))
  refine O.ld 0 rfl (ldL_c (ldL_n ?_))
  refine jn_go ?_
  rw [F_law1_Book_growMsgs.l2.eq_1]
  refine wl_now1 fun next => ?_
  refine brr_ff (by decide) ?_
  refine O.ld 0 rfl (ldL_c (k := .sl) (x := (⟨none, 0, 0⟩ : Sl)) (ldL_n ?_))
  refine O.st 0 rfl (by simp) rfl fun h O => ?_
  dsimp only [V.put, List.set] at O
  exact k h O
theorem F_law1_Book_growFlights.is {Q : Heap → Prop} (O : Sat h0 h (own bk (bkC s0 s1 n t d u) :: L)) (k : ∀ h', Sat h0 h' (own bk (bkC s0 s1 n t d u) :: L) → Q h') : F_law1_Book_growFlights (some (pt bk 0)) h Q := by
  rw [F_law1_Book_growFlights.eq_1, F_law1_Book_growFlights_of.eq_1]
  unfold bkC at O k
  simp only [nn_some, pt_add, Nat.zero_add, Nat.add_zero, Nat.reduceAdd, Nat.reduceMul, Int.toNat_zero, Int.toNat_one, Nat.zero_mul, Nat.one_mul]
  refine O.ld 0 rfl (ldL_c (k := .sl) (x := (⟨none, 0, 0⟩ : Sl)) (ldL_n ?_))
  refine O.ld 0 rfl (ldL_c (ldL_n ?_))
  refine jn_go ?_
  rw [F_law1_Book_growFlights.l2.eq_1]
  refine wl_now1 fun next => ?_
  refine brr_ff (by decide) ?_
  refine O.ld 0 rfl (ldL_c (k := .sl) (x := (⟨none, 0, 0⟩ : Sl)) (ldL_n ?_))
  refine O.st 0 rfl (by simp) rfl fun h O => ?_
  dsimp only [V.put, List.set] at O
  exact k h O
theorem F_law1_Book_growFiles.is {Q : Heap → Prop} (O : Sat h0 h (own bk (bkC s0 s1 n t d u) :: L)) (k : ∀ h', Sat h0 h' (own bk (bkC s0 s1 n t d u) :: L) → Q h') : F_law1_Book_growFiles (some (pt bk 0)) h Q := by
  rw [F_law1_Book_growFiles.eq_1, F_law1_Book_growFiles_of.eq_1]
  unfold bkC at O k
  simp only [nn_some, pt_add, Nat.zero_add, Nat.add_zero, Nat.reduceAdd, Nat.reduceMul, Int.toNat_zero, Int.toNat_one, Nat.zero_mul, Nat.one_mul]
  refine O.ld 0 rfl (ldL_c (k := .sl) (x := (⟨none, 0, 0⟩ : Sl)) (ldL_n ?_))
  refine O.ld 0 rfl (ldL_c (ldL_n ?_))
  refine jn_go ?_
  rw [F_law1_Book_growFiles.l2.eq_1]
  refine wl_now1 fun next => ?_
  refine brr_ff (by decide) ?_
  refine O.ld 0 rfl (ldL_c (k := .sl) (x := (⟨none, 0, 0⟩ : Sl)) (ldL_n ?_))
  refine O.st 0 rfl (by simp) rfl fun h O => ?_
  dsimp only [V.put, List.set] at O
  exact k h O
end
end Go.Proofs.Ytcbelendjpnmiaa.V
/- Lists of bytes that carry marks, and grow: their blocks may be shared by lists of one mark. -/
namespace Go.Proofs.Ytcbelendjpnmiaa.V
open Go Go.RowKit
set_option linter.unusedVariables false
set_option linter.unusedSimpArgs false
/-- Byte k of the mark of list n. -/
def atB (m k : Nat) : UInt8 := if k % 2 = 0 then UInt8.ofNat (1 + m % 251) else UInt8.ofNat (1 + (7 * m + m / 251) % 251)
def atC (m k : Nat) : Value := .int .u8 ((atB m k).toNat : Int)
def marksB (m n : Nat) : List UInt8 := (List.range n).map (atB m)
theorem marksB_len (m n : Nat) : (marksB m n).length = n := by simp [marksB]
theorem marksB_at {m n i : Nat} (h : i < n) : (marksB m n)[i]? = some (atB m i) := by simp [marksB, h]
abbrev BE := Sl × Nat
def inFam (lab : Nat → Nat) (E : Blks) (e : BE) : Prop := e.1 = ⟨none, 0, 0⟩ ∨ ∃ b cs, (b, cs) ∈ E ∧ e.1.ptr = some (pt b 0) ∧ e.1.len ≤ e.1.cap ∧ e.1.cap = cs.length ∧ lab b = e.2 ∧ ∀ i, i < e.1.len → cs[i]? = some (atC e.2 i)
def famR (es : List BE) : Res := fun E => ∃ lab : Nat → Nat, ∀ e ∈ es, inFam lab E e
theorem famR.sub {h0 h : Heap} {L : List Res} {es fs : List BE} (O : Sat h0 h (famR es :: L)) (s : ∀ e ∈ fs, e ∈ es) : Sat h0 h (famR fs :: L) :=
  O.mono fun E ⟨lab, k⟩ => ⟨lab, fun e he => k e (s e he)⟩
theorem famR.none {h0 h : Heap} {L : List Res} (O : Sat h0 h L) : Sat h0 h (famR [] :: L) := O.empI.mono fun E _ => ⟨fun _ => 0, fun e he => by cases he⟩
theorem fam_view {h0 h : Heap} {L : List Res} (O : Sat h0 h L) (i : Nat) {es : List BE} {e : BE} (hi : i < L.length) (hn : nth i L = famR es) (he : e ∈ es) : Bytes h e.1 (marksB e.2 e.1.len) := by
  obtain ⟨E1, E2, h1, O', _⟩ := O.at i hi
  rw [hn] at h1
  obtain ⟨lab, k⟩ := h1
  rcases k e he with h | ⟨b, cs, hm, hp, hl, hc, _, ha⟩
  · rw [h]; exact View.nil
  · have B := (O'.blk _ (List.mem_append.2 (.inl hm))).2
    refine ⟨(marksB_len _ _).symm, fun j x hj => ?_⟩
    have hjl : j < e.1.len := by
      have := (List.getElem?_eq_some_iff.1 hj).1
      rwa [marksB_len] at this
    rw [marksB_at hjl] at hj
    cases hj
    refine ⟨pt b 0, u8 (atB e.2 j), hp, rfl, rfl, ?_⟩
    have hcell := ha j hjl
    have h2 := cellsAre_blk B j 1
    have e3 : (cs.drop j).take 1 = u8 (atB e.2 j) := by
      obtain ⟨hlt, e4⟩ := List.getElem?_eq_some_iff.1 hcell
      rw [List.drop_eq_getElem_cons hlt, e4]
      rfl
    rw [e3] at h2
    rw [pt_add, Nat.zero_add, Nat.mul_one]
    exact h2
theorem put_one : ∀ (cs : List Value) (o : Nat) (v : Value), V.put cs o [v] = cs.set o v
  | [], 0, v => by simp [V.put]
  | c :: cs, 0, v => by simp [V.put, put_nil]
  | [], o + 1, v => by simp [V.put]
  | c :: cs, o + 1, v => by simp [V.put, put_one cs o v]
theorem atC_one (m k : Nat) : oneV (atC m k) = true := rfl
/-- A new block becomes one of the lists. -/
theorem fam_new {h0 h : Heap} {L : List Res} {es : List BE} {b len m : Nat} {cs : List Value} (O : Sat h0 h (own b cs :: famR es :: L)) (hl : len ≤ cs.length) (ha : ∀ i, i < len → cs[i]? = some (atC m i)) : Sat h0 h (famR (es ++ [(⟨some (pt b 0), len, cs.length⟩, m)]) :: L) := by
  obtain ⟨E, ⟨E1, E2, p, hA, F1, F2, p2, ⟨lab, k⟩, h2⟩, O'⟩ := O
  have hA : E1 = [(b, cs)] := hA
  subst hA
  have pp : E.Perm (((b, cs) :: F1) ++ F2) := p.trans (List.Perm.cons _ p2)
  have OO := O'.perm pp.symm
  have hd := OO.dis
  rw [List.cons_append, List.map_cons, List.nodup_cons] at hd
  refine ⟨E, ⟨(b, cs) :: F1, F2, pp, ⟨fun x => if x = b then m else lab x, fun e he => ?_⟩, h2⟩, O'⟩
  rcases List.mem_append.1 he with he | he
  · rcases k e he with h | ⟨b', cs', hm, hp, hl', hc, hlab, ha'⟩
    · exact .inl h
    · refine .inr ⟨b', cs', List.mem_cons_of_mem _ hm, hp, hl', hc, ?_, ha'⟩
      have : b' ≠ b := by
        intro e
        subst e
        exact hd.1 (List.mem_map.2 ⟨_, List.mem_append.2 (.inl hm), rfl⟩)
      simp only [if_neg this]
      exact hlab
  · rw [List.mem_singleton.1 he]
    exact .inr ⟨b, cs, List.mem_cons_self, rfl, hl, rfl, by simp, ha⟩
theorem Sat.buf_own' {α : Type} {h0 h : Heap} {L : List Res} {sz : Nat} {enc : α → List Value} {s : Sl} {xs : List α} (O : Sat h0 h (buf sz enc s xs :: L)) (hne : xs ≠ []) : ∃ b k sp, s = ⟨some (pt b 0), xs.length, xs.length + k⟩ ∧ sp.length = k * sz ∧ Sat h0 h (own b (xs.flatMap enc ++ sp) :: L) := by
  obtain ⟨sp, O1⟩ := O.ex
  obtain ⟨E, ⟨E1, E2, p, hA, h2⟩, O2⟩ := O1
  rcases hA with ⟨rfl, rfl, _, _⟩ | ⟨b, j, rfl, hsp, rfl⟩
  · exact absurd rfl hne
  · exact ⟨b, j, sp, rfl, hsp, E, ⟨[(b, _)], E2, p, rfl, h2⟩, O2⟩
/-- A list of one's own that carries its mark becomes one of the lists. -/
theorem fam_take {h0 h : Heap} {L : List Res} {es : List BE} {s : Sl} {m : Nat} (O : Sat h0 h (buf 1 u8 s (marksB m s.len) :: famR es :: L)) : Sat h0 h (famR (es ++ [(s, m)]) :: L) := by
  by_cases hz : marksB m s.len = []
  · obtain ⟨sp, O⟩ := O.ex
    obtain ⟨E, ⟨E1, E2, p, hA, h2⟩, O'⟩ := O
    rcases hA with ⟨rfl, _, _, rfl⟩ | ⟨b, j, hs, hsp, rfl⟩
    · obtain ⟨F1, F2, p2, ⟨lab, k⟩, h2⟩ := h2
      refine ⟨E, ⟨F1, F2, p.trans p2, ⟨lab, fun e he => ?_⟩, h2⟩, O'⟩
      rcases List.mem_append.1 he with he | he
      · exact k e he
      · rw [List.mem_singleton.1 he]; exact .inl rfl
    · have O2 : Sat h0 h (own b ((marksB m s.len).flatMap u8 ++ sp) :: famR es :: L) := ⟨E, ⟨[(b, _)], E2, p, rfl, h2⟩, O'⟩
      have hl : s.len = 0 := by
        have := congrArg List.length hz
        rwa [marksB_len] at this
      have := fam_new (len := 0) (m := m) O2 (by omega) (fun i hi => by omega)
      have e : s = ⟨some (pt b 0), 0, ((marksB m s.len).flatMap u8 ++ sp).length⟩ := by
        rw [hz, List.flatMap_nil, List.nil_append, hsp]
        rw [hz] at hs
        rw [hs]
        simp
      rw [← e] at this
      exact this
  · obtain ⟨b, j, sp, hs, hsp, O⟩ := O.buf_own' hz
    have hlen := flatMap_len u8_len (marksB m s.len)
    rw [marksB_len] at hlen hs
    have := fam_new (len := s.len) (m := m) O (by rw [List.length_append]; omega) (fun i hi => by
      rw [List.getElem?_append_left (by omega)]
      have key : ∀ (l : List UInt8) (i : Nat), (l.flatMap u8)[i]? = (l[i]?).map fun x => Value.int .u8 (x.toNat : Int) := by
        intro l
        induction l with
        | nil => intro i; simp
        | cons x l ih =>
          intro i
          rw [List.flatMap_cons]
          cases i with
          | zero => rfl
          | succ i => exact ih i
      rw [key, marksB_at hi]
      rfl)
    have e : s = ⟨some (pt b 0), s.len, ((marksB m s.len).flatMap u8 ++ sp).length⟩ := by
      rw [List.length_append, hlen, hsp, Nat.mul_one, Nat.mul_one]
      exact hs
    rw [← e] at this
    exact this
/-- One byte of its mark is appended to a list. -/
theorem fam_app {h0 h : Heap} {L : List Res} {es : List BE} {a T m : Nat} {g : Sl} {K : Sl → Heap → Prop} (hl : g.len ≤ 1099511627776) (O : Sat h0 h (own a [atC m g.len] :: famR (es ++ [(g, m)]) :: L)) (k : ∀ g' h', g'.len = g.len + 1 → Sat h0 h' (famR (es ++ [(g', m)]) :: L) → K g' h') : V.app T 1 1 (.int .u8 0) g (some (pt a 0)) 1 h K := by
  have hv := fam_view O 1 (by simp) rfl (List.mem_append.2 (.inr (List.mem_singleton.2 rfl)))
  have hmem : (g, m) ∈ es ++ [(g, m)] := List.mem_append.2 (.inr (List.mem_singleton.2 rfl))
  refine ⟨[atC m g.len], rdP_own O 0 rfl 1 (by simp), fun hcap => ?_, fun hcap => ⟨growslice_fits (by exact hcap) (by simp only [Nat.mul_one]; omega), ?_⟩⟩
  · have O := O.drop
    obtain ⟨E, ⟨E1, E2, p, ⟨lab, kk⟩, h2⟩, O'⟩ := O
    rcases kk (g, m) hmem with hn | ⟨b, cs, hm, hp, hle, hc, hlab, ha⟩
    · simp only at hn
      rw [hn] at hcap
      simp at hcap
    · simp only at hp hle hc hlab ha
      obtain ⟨A, B, rfl⟩ := List.append_of_mem hm
      have pE : E.Perm ((b, cs) :: (A ++ B ++ E2)) := by
        refine p.trans ?_
        rw [List.append_assoc, List.cons_append, List.append_assoc]
        exact List.perm_middle
      have O1 := O'.perm pE.symm
      have hd := O1.dis
      rw [List.map_cons, List.nodup_cons] at hd
      rw [hp]
      simp only [Option.map_some, stP, pt_add, Nat.zero_add, Nat.mul_one]
      refine Held.st O1 (by simp only [List.length_singleton]; omega) rfl fun h' O2 => ?_
      have eput : V.put cs g.len [atC m g.len] = cs.set g.len (atC m g.len) := put_one _ _ _
      rw [eput] at O2
      refine k ⟨some (pt b 0), g.len + 1, g.cap⟩ h' rfl ⟨_, ⟨(b, cs.set g.len (atC m g.len)) :: (A ++ B), E2, List.Perm.refl _, ⟨lab, fun e he => ?_⟩, h2⟩, O2⟩
      have other : ∀ e : BE, inFam lab (A ++ (b, cs) :: B) e → inFam lab ((b, cs.set g.len (atC m g.len)) :: (A ++ B)) e := by
        intro e ie
        rcases ie with h | ⟨b', cs', hm', hp', hl', hc', hlab', ha'⟩
        · exact .inl h
        · by_cases hb : b' = b
          · subst hb
            have ecs : cs' = cs := by
              rcases List.mem_append.1 hm' with x | x
              · exact absurd (List.mem_map.2 ⟨_, List.mem_append.2 (.inl (List.mem_append.2 (.inl x))), rfl⟩) hd.1
              · rcases List.mem_cons.1 x with x | x
                · exact (Prod.mk.inj x).2
                · exact absurd (List.mem_map.2 ⟨_, List.mem_append.2 (.inl (List.mem_append.2 (.inr x))), rfl⟩) hd.1
            subst ecs
            refine .inr ⟨b', _, List.mem_cons_self, hp', hl', by rw [List.length_set]; exact hc', hlab', fun i hi => ?_⟩
            rw [List.getElem?_set]
            by_cases e2 : g.len = i
            · subst e2
              rw [if_pos rfl, if_pos (by omega), ← hlab', hlab]
            · rw [if_neg e2]
              exact ha' i hi
          · refine .inr ⟨b', cs', ?_, hp', hl', hc', hlab', ha'⟩
            rcases List.mem_append.1 hm' with x | x
            · exact List.mem_cons_of_mem _ (List.mem_append.2 (.inl x))
            · rcases List.mem_cons.1 x with x | x
              · exact absurd (Prod.mk.inj x).1 hb
              · exact List.mem_cons_of_mem _ (List.mem_append.2 (.inr x))
      rcases List.mem_append.1 he with he | he
      · exact other e (kk e (List.mem_append.2 (.inl he)))
      · rw [List.mem_singleton.1 he]
        refine .inr ⟨b, _, List.mem_cons_self, rfl, hcap, by rw [List.length_set]; exact hc, hlab, fun i hi => ?_⟩
        simp only at hi
        rw [List.getElem?_set]
        by_cases e2 : g.len = i
        · subst e2
          rw [if_pos rfl, if_pos (by omega)]
        · rw [if_neg e2]
          exact ha i (by omega)
  · refine ⟨(marksB m g.len).flatMap u8, ?_, fun c hc => ?_⟩
    · have := hv.rd u8_len
      exact this
    · have hlen := flatMap_len u8_len (marksB m g.len)
      rw [marksB_len] at hlen
      have O := O.drop
      have O2 := O.push ((marksB m g.len).flatMap u8 ++ [atC m g.len] ++ (Builtin.zeroCells (Value.int .u8 0).cells (c - (g.len + 1))).toList) T (0, 0) (.inl rfl)
      have hzl : (Builtin.zeroCells (Value.int .u8 0).cells (c - (g.len + 1))).toList.length = c - (g.len + 1) := by simp [Builtin.zeroCells, Value.cells]
      have htot : ((marksB m g.len).flatMap u8 ++ [atC m g.len] ++ (Builtin.zeroCells (Value.int .u8 0).cells (c - (g.len + 1))).toList).length = c := by
        rw [List.length_append, List.length_append, hlen, hzl, List.length_singleton]; omega
      have key : ∀ (l : List UInt8) (i : Nat), (l.flatMap u8)[i]? = (l[i]?).map fun x => Value.int .u8 (x.toNat : Int) := by
        intro l
        induction l with
        | nil => intro i; simp
        | cons x l ih =>
          intro i
          rw [List.flatMap_cons]
          cases i with
          | zero => rfl
          | succ i => exact ih i
      have O3 := fam_new (len := g.len + 1) (m := m) O2 (by omega) (fun i hi => by
        rw [List.getElem?_append_left (by rw [List.length_append, hlen, List.length_singleton]; omega)]
        by_cases e2 : i = g.len
        · subst e2
          rw [List.getElem?_append_right (by omega), hlen]
          simp
        · rw [List.getElem?_append_left (by omega), key, marksB_at (by omega)]
          rfl)
      rw [htot] at O3
      refine k _ _ rfl (famR.sub O3 fun e he => ?_)
      rcases List.mem_append.1 he with he | he
      · exact List.mem_append.2 (.inl (List.mem_append.2 (.inl he)))
      · exact List.mem_append.2 (.inr he)
end Go.Proofs.Ytcbelendjpnmiaa.V
/- The Book over lists of bytes: it finds its marks, always. -/
namespace Go.Proofs.Ytcbelendjpnmiaa.V
open Go Go.RowKit
set_option linter.unusedVariables false
set_option linter.unusedSimpArgs false
theorem wrap8K (n : Nat) : IntKind.u8.wrap (n : Int) = ((UInt8.ofNat n).toNat : Int) := by
  unfold IntKind.wrap
  simp [IntKind.bits, IntKind.signed]
theorem F_law1_at.is {h : Heap} {m k : Nat} {Q : Int → Heap → Prop} (hm : m ≤ 1099511627776) (hq : Q ((atB m k).toNat : Int) h) : F_law1_at m k h Q := by
  rw [F_law1_at.eq_1, F_law1_at_of.eq_1]
  have e2 : ((k : Int)).tmod 2 = ((k % 2 : Nat) : Int) := by rw [Int.tmod_eq_emod_of_nonneg (by omega)]; omega
  have e3 : ((m : Int)).tmod 251 = ((m % 251 : Nat) : Int) := by rw [Int.tmod_eq_emod_of_nonneg (by omega)]; omega
  have e4 : ((m : Int)).tdiv 251 = ((m / 251 : Nat) : Int) := by rw [Int.tdiv_eq_ediv_of_nonneg (by omega)]; omega
  unfold atB at hq
  refine ⟨by decide, ?_⟩
  rw [e2, e3, e4]
  refine brr_eq (fun e => ?_) (fun e => ?_)
  · rw [if_pos (by omega)] at hq
    refine ⟨by decide, ?_⟩
    rw [wrap64 (by omega) (by omega), show (1 + ((m % 251 : Nat) : Int)) = ((1 + m % 251 : Nat) : Int) by omega, wrap8K]
    exact hq
  · rw [if_neg (by omega)] at hq
    refine ⟨by decide, by decide, ?_⟩
    rw [wrap64 (x := 7 * (m : Int)) (by omega) (by omega), wrap64 (x := ((m / 251 : Nat) : Int)) (by omega) (by omega), wrap64 (x := 7 * (m : Int) + ((m / 251 : Nat) : Int)) (by omega) (by omega)]
    have e5 : (7 * (m : Int) + ((m / 251 : Nat) : Int)).tmod 251 = (((7 * m + m / 251) % 251 : Nat) : Int) := by rw [Int.tmod_eq_emod_of_nonneg (by omega)]; omega
    rw [e5, wrap64 (by omega) (by omega), show (1 + (((7 * m + m / 251) % 251 : Nat) : Int)) = ((1 + (7 * m + m / 251) % 251 : Nat) : Int) by omega, wrap8K]
    exact hq
section
variable {h0 h : Heap} {L : List Res} {bk : Nat} {s0 s1 : Sl} {n t d u : Int} {es : List BE}
theorem F_law1_Book_plain.is {Q : Bool → Heap → Prop} (hb : ∀ e ∈ es, e.1.len ≤ 1099511627776 ∧ e.2 ≤ 1099511627776) (hn : es.length ≤ 1099511627776) (O : Sat h0 h (own bk (bkC s0 s1 n t d u) :: buf 1 slc s0 (es.map (·.1)) :: buf 1 natc s1 (es.map (·.2)) :: famR es :: L)) (k : Q true h) : F_law1_Book_plain (some (pt bk 0)) h Q := by
  rw [F_law1_Book_plain.eq_1, F_law1_Book_plain_of.eq_1]
  have v0 := (O.view 1 slc_len (by simp) rfl).1
  have v1 := (O.view 2 natc_len (by simp) rfl).1
  have O1 := O
  unfold bkC at O
  refine jn0 (fun h' => h' = h) ?_ ?_
  · rintro h rfl
    refine jn_go ?_
    rw [F_law1_Book_plain.l4.eq_1]
    refine wl_now1 fun next => ?_
    simp only [nn_some, pt_add, Nat.zero_add, Nat.add_zero, Nat.reduceAdd, Nat.reduceMul, Int.toNat_zero, Int.toNat_one, Nat.zero_mul, Nat.one_mul]
    refine O.ld 0 rfl (ldL_c (k := .sl) (x := (⟨none, 0, 0⟩ : Sl)) (ldL_n ?_))
    refine brr_ff (by decide) ?_
    exact k
  intro j hj
  rw [F_law1_Book_plain.l2.eq_1]
  simp only [nn_some, pt_add, Nat.zero_add, Nat.add_zero, Nat.reduceAdd, Nat.reduceMul, Int.toNat_zero, Int.toNat_one, Nat.zero_mul, Nat.one_mul]
  refine wl1 (k := .int .i64) (fun (m : Nat) (i : Int) (h' : Heap) => 0 ≤ i ∧ i + m = es.length ∧ h' = h) ?_ (m := es.length) ⟨by omega, by omega, rfl⟩
  rintro m (i : Int) h2 next hnx ⟨hi0, him, rfl⟩
  refine O.ld 0 rfl (ldL_c (k := .sl) (x := s0) (ldL_n ?_))
  rw [v0.len, List.length_map]
  refine brr_p (fun hlt => ?_) (fun hlt => hj _ rfl)
  have hil : i.toNat < es.length := by omega
  obtain ⟨e, he⟩ : ∃ e, es[i.toNat]? = some e := ⟨_, List.getElem?_eq_getElem hil⟩
  have hem := List.mem_of_getElem? he
  have hbe := hb e hem
  have ve := fam_view O1 3 (by simp) rfl hem
  have q0 : (es.map (·.1))[i.toNat]? = some e.1 := by rw [List.getElem?_map, he]; rfl
  have q1 : (es.map (·.2))[i.toNat]? = some e.2 := by rw [List.getElem?_map, he]; rfl
  refine jn_go ?_
  refine jn_go ?_
  rw [F_law1_Book_plain.l1.eq_1]
  simp only [nn_some, pt_add, Nat.zero_add, Nat.add_zero, Nat.reduceAdd, Nat.reduceMul, Int.toNat_zero, Int.toNat_one, Nat.zero_mul, Nat.one_mul]
  refine wl1 (k := .int .i64) (fun (m' : Nat) (i' : Int) (h' : Heap) => 0 ≤ i' ∧ i' + m' = e.1.len ∧ h' = h2) ?_ (m := e.1.len) ⟨by omega, by omega, rfl⟩
  rintro m' (i' : Int) h3 next' hnx' ⟨hi0', him', rfl⟩
  refine O.ld 0 rfl (ldL_c (k := .sl) (x := s0) (ldL_n ?_))
  refine v0.getP hi0 q0 fun a hca => ?_
  refine ld_are (hca v0) (ldL_c (k := .sl) (x := e.1) (ldL_n ?_))
  refine brr_p (fun hlt' => ?_) (fun hlt' => ?_)
  · refine O.ld 0 rfl (ldL_c (k := .sl) (x := s0) (ldL_n ?_))
    refine v0.getP hi0 q0 fun a hca => ?_
    refine ld_are (hca v0) (ldL_c (k := .sl) (x := e.1) (ldL_n ?_))
    have hlt2 : i' < (e.1.len : Int) := hlt'
    refine ve.getP (x := atB e.2 i'.toNat) hi0' (marksB_at (by omega)) fun b hcb => ?_
    refine ld_are (hcb ve) (ldL_c (k := .int .u8) (x := ((atB e.2 i'.toNat).toNat : Int)) (ldL_n ?_))
    refine O.ld 0 rfl (ldL_c (k := .sl) (x := s1) (ldL_n ?_))
    refine v1.getP hi0 q1 fun c hcc => ?_
    refine ld_are (hcc v1) (ldL_c (ldL_n ?_))
    obtain ⟨kN, rfl⟩ := Int.eq_ofNat_of_zero_le hi0'
    refine F_law1_at.is hbe.2 ?_
    refine ⟨O.cells 0 rfl 0 1, hca v0, hcb ve, ?_⟩
    refine brr_ne (fun e => absurd rfl e) (fun _ => ?_)
    rw [wrap64 (by omega) (by omega)]
    exact hnx' (m' - 1) _ _ (by omega) ⟨by omega, by omega, rfl⟩
  · rw [wrap64 (by omega) (by omega)]
    exact hnx (m - 1) _ _ (by omega) ⟨by omega, by omega, rfl⟩
theorem F_law1_Book_growBytes.is {nN T : Nat} {Q : Heap → Prop} (hb : ∀ (i : Nat) e, es[i]? = some e → e.1.len ≤ (if i < nN then 5600096 else 5600000) ∧ e.2 ≤ T) (hT : T ≤ 1099511627776) (hn : nN ≤ es.length) (hes : es.length ≤ 1000000)
    (O : Sat h0 h (own bk (bkC s0 s1 nN t d u) :: buf 1 slc s0 (es.map (·.1)) :: buf 1 natc s1 (es.map (·.2)) :: famR es :: L))
    (k : ∀ s0 s1 (fs : List BE) h', fs.length ≤ es.length + 9 * (es.length - nN) → (∀ e ∈ fs, e.1.len ≤ 5600096 ∧ e.2 ≤ T) → Sat h0 h' (own bk (bkC s0 s1 fs.length t d u) :: buf 1 slc s0 (fs.map (·.1)) :: buf 1 natc s1 (fs.map (·.2)) :: famR fs :: L) → Q h') : F_law1_Book_growBytes (some (pt bk 0)) h Q := by
  rw [F_law1_Book_growBytes.eq_1, F_law1_Book_growBytes_of.eq_1]
  have v0 := (O.view 1 slc_len (by simp) rfl).1
  have hs0 := v0.len
  rw [List.length_map] at hs0
  have ld0 : ∀ {h : Heap} {M : List Res} {s0 s1 : Sl} {n : Int} {K : Sl → Prop}, Sat h0 h (own bk (bkC s0 s1 n t d u) :: M) → K s0 → ld [.sl] (pt bk 0) h K := fun O k => O.ld 0 rfl (ldL_c (k := .sl) (ldL_n k))
  have ld1 : ∀ {h : Heap} {M : List Res} {s0 s1 : Sl} {n : Int} {K : Sl → Prop}, Sat h0 h (own bk (bkC s0 s1 n t d u) :: M) → K s1 → ld [.sl] (pt bk 1) h K := fun O k => O.ld 0 rfl (ldL_c (k := .sl) (ldL_n k))
  have ld2 : ∀ {h : Heap} {M : List Res} {s0 s1 : Sl} {n : Int} {K : Int → Prop}, Sat h0 h (own bk (bkC s0 s1 n t d u) :: M) → K n → ld [.int .i64] (pt bk 2) h K := fun O k => O.ld 0 rfl (ldL_c (ldL_n k))
  have st0 : ∀ {h : Heap} {M : List Res} {s0 s1 s : Sl} {n : Int} {K : Heap → Prop}, Sat h0 h (own bk (bkC s0 s1 n t d u) :: M) → (∀ h', Sat h0 h' (own bk (bkC s s1 n t d u) :: M) → K h') → st (pt bk 0) [.slice s.ptr s.len s.cap] h K := by
    intro h M s0 s1 s n K O k
    unfold bkC at O
    refine O.st 0 rfl (by simp) rfl fun h O => ?_
    dsimp only [V.put, List.set] at O
    exact k h O
  have st1 : ∀ {h : Heap} {M : List Res} {s0 s1 s : Sl} {n : Int} {K : Heap → Prop}, Sat h0 h (own bk (bkC s0 s1 n t d u) :: M) → (∀ h', Sat h0 h' (own bk (bkC s0 s n t d u) :: M) → K h') → st (pt bk 1) [.slice s.ptr s.len s.cap] h K := by
    intro h M s0 s1 s n K O k
    unfold bkC at O
    refine O.st 0 rfl (by simp) rfl fun h O => ?_
    dsimp only [V.put, List.set] at O
    exact k h O
  have st2 : ∀ {h : Heap} {M : List Res} {s0 s1 : Sl} {n n' : Int} {K : Heap → Prop}, Sat h0 h (own bk (bkC s0 s1 n t d u) :: M) → (∀ h', Sat h0 h' (own bk (bkC s0 s1 n' t d u) :: M) → K h') → st (pt bk 2) [.int .i64 n'] h K := by
    intro h M s0 s1 n n' K O k
    unfold bkC at O
    refine O.st 0 rfl (by simp) rfl fun h O => ?_
    dsimp only [V.put, List.set] at O
    exact k h O
  simp only [nn_some, pt_add, Nat.zero_add, Nat.add_zero, Nat.reduceAdd, Nat.reduceMul, Int.toNat_zero, Int.toNat_one, Nat.zero_mul, Nat.one_mul]
  refine ld0 O ?_
  refine ld2 O ?_
  refine jn0 (fun h' => ∃ (s0 s1 : Sl) (X : List BE), X.length ≤ 9 * (es.length - nN) ∧ (∀ e ∈ X, e.1.len ≤ 5600096 ∧ e.2 ≤ T) ∧ Sat h0 h' (own bk (bkC s0 s1 nN t d u) :: buf 1 slc s0 ((es ++ X).map (·.1)) :: buf 1 natc s1 ((es ++ X).map (·.2)) :: famR (es ++ X) :: L)) ?_ ?_
  · clear O v0
    rintro h ⟨s0, s1, X, hX, hXb, O⟩
    refine ld0 O ?_
    have hl := (O.view 1 slc_len (by simp) rfl).1.len
    rw [List.length_map] at hl
    rw [hl]
    refine st2 O fun h O => ?_
    refine k s0 s1 (es ++ X) h (by rw [List.length_append]; omega) (fun e he => ?_) O
    rcases List.mem_append.1 he with he | he
    · obtain ⟨i, hi⟩ := List.getElem?_of_mem he
      have := hb i e hi
      refine ⟨?_, this.2⟩
      have h2 := this.1
      split at h2 <;> omega
    · exact hXb e he
  intro j6 hj6
  rw [F_law1_Book_growBytes.l2.eq_1, hs0]
  simp only [nn_some, pt_add, Nat.zero_add, Nat.add_zero, Nat.reduceAdd, Nat.reduceMul, Int.toNat_zero, Int.toNat_one, Nat.zero_mul, Nat.one_mul]
  refine wl1 (k := .int .i64) (fun (m : Nat) (kk : Int) (h' : Heap) => (nN : Int) ≤ kk ∧ kk + m = es.length ∧ ∃ (s0 s1 : Sl) (X : List BE), (X.length : Int) ≤ 9 * (kk - nN) ∧ (∀ e ∈ X, e.1.len ≤ 5600096 ∧ e.2 ≤ T) ∧ Sat h0 h' (own bk (bkC s0 s1 nN t d u) :: buf 1 slc s0 ((es ++ X).map (·.1)) :: buf 1 natc s1 ((es ++ X).map (·.2)) :: famR (es ++ X) :: L)) ?_ (m := es.length - nN) ⟨by omega, by omega, s0, s1, [], by simp, by simp, by rw [List.append_nil]; exact O⟩
  clear O v0 hs0
  rintro m (kk : Int) h next hnx ⟨hk0, hkm, s0, s1, X, hX, hXb, O⟩
  refine brr_p (fun hlt => ?_) (fun hlt => hj6 _ ⟨s0, s1, X, by omega, hXb, O⟩)
  obtain ⟨kN, rfl⟩ := Int.eq_ofNat_of_zero_le (show 0 ≤ kk by omega)
  have hlt : kN < es.length := by
    have hlt : (kN : Int) < (es.length : Int) := hlt
    omega
  obtain ⟨⟨g0, m0⟩, he⟩ : ∃ e, es[kN]? = some e := ⟨_, List.getElem?_eq_getElem hlt⟩
  obtain ⟨hg0, hm0⟩ := hb kN _ he
  rw [if_neg (by omega)] at hg0
  simp only at hg0 hm0
  have he2 : (es ++ X)[((kN : Nat) : Int).toNat]? = some (g0, m0) := by rw [Int.toNat_natCast, List.getElem?_append_left hlt]; exact he
  refine ld0 O ?_
  have v0 := (O.view 1 slc_len (by simp) rfl).1
  have v1 := (O.view 2 natc_len (by simp) rfl).1
  refine v0.get1 (k := .sl) (by omega) (x := g0) (by rw [List.getElem?_map, he2]; rfl) id (fun _ => rfl) ?_
  refine ld1 O ?_
  refine v1.get1 (k := .int .i64) (by omega) (x := m0) (by rw [List.getElem?_map, he2]; rfl) (fun x => (x : Int)) (fun _ => rfl) ?_
  simp only [id_eq]
  clear v0 v1
  refine jn_go ?_
  rw [F_law1_Book_growBytes.l1.eq_1]
  simp only [nn_some, pt_add, Nat.zero_add, Nat.add_zero, Nat.reduceAdd, Nat.reduceMul, Int.toNat_zero, Int.toNat_one, Nat.zero_mul, Nat.one_mul]
  have O : Sat h0 h (own bk (bkC s0 s1 nN t d u) :: buf 1 slc s0 ((es ++ X).map (·.1)) :: buf 1 natc s1 ((es ++ X).map (·.2)) :: famR (es ++ X ++ [(g0, m0)]) :: L) := by
    have O2 := O.sel [3, 0, 1, 2] 4 rfl (Nat.le_add_left _ _)
    have O3 := famR.sub (fs := es ++ X ++ [(g0, m0)]) O2 (fun e hx => by
      rcases List.mem_append.1 hx with hx | hx
      · exact hx
      · rw [List.mem_singleton.1 hx]; exact List.mem_append.2 (.inl (List.mem_of_getElem? he)))
    exact O3.sel [1, 2, 3, 0] 4 rfl (Nat.le_add_left _ _)
  refine wl2 (k := .sl) (l := .int .i64) (fun (M : Nat) (g : Sl) (i : Int) (h' : Heap) => i + M = 97 ∧ 1 ≤ i ∧ (g.len : Int) = g0.len + (i - 1) ∧ ∃ (s0 s1 : Sl) (X : List BE), (X.length : Int) ≤ 9 * ((kN : Int) - nN) + (if i - 1 < 3 then i - 1 else 3) + (i - 1) / 16 ∧ (∀ e ∈ X, e.1.len ≤ 5600096 ∧ e.2 ≤ T) ∧ Sat h0 h' (own bk (bkC s0 s1 nN t d u) :: buf 1 slc s0 ((es ++ X).map (·.1)) :: buf 1 natc s1 ((es ++ X).map (·.2)) :: famR (es ++ X ++ [(g, m0)]) :: L)) ?_ (m := 96) ⟨by omega, by omega, by omega, s0, s1, X, by split <;> omega, hXb, O⟩
  clear O hXb hX he2
  rintro M (g : Sl) (i : Int) h next' hnx' ⟨hiM, hi1, hgl, s0, s1, X, hX, hXb, O⟩
  refine brr_p (fun hlt2 => ?_) (fun hlt2 => ?_)
  case refine_2 =>
    have h97 : i = 97 := by
      have hlt2 : ¬ i ≤ 96 := hlt2
      omega
    subst h97
    rw [wrap64 (by omega) (by omega)]
    refine hnx (m - 1) _ _ (by omega) ⟨by omega, by omega, s0, s1, X, by split at hX <;> omega, hXb, ?_⟩
    have O2 := O.sel [3, 0, 1, 2] 4 rfl (Nat.le_add_left _ _)
    have O3 := famR.sub (fs := es ++ X) O2 (fun e hx => List.mem_append.2 (.inl hx))
    exact O3.sel [1, 2, 3, 0] 4 rfl (Nat.le_add_left _ _)
  have hlt2 : i ≤ 96 := hlt2
  refine F_law1_at.is (by omega) ?_
  refine O.al fun a h O => ?_
  replace O := O.sel [0, 4, 1, 2, 3] 5 rfl (Nat.le_add_left _ _)
  simp only [selT, List.map, nth, List.drop, List.cons_append, List.nil_append] at O
  refine fam_app (by omega) O fun g' h hg' O => ?_
  refine jn1 (fun z h' => z = decide (i < 4 ∨ i % 16 = 0) ∧ h' = h) ?_ ?_
  case refine_2 =>
    intro j30 hj30
    refine brr_p (fun h4 => ?_) (fun h4 => ?_)
    · exact hj30 _ _ ⟨(decide_eq_true (.inl h4)).symm, rfl⟩
    · refine ⟨by decide, hj30 _ _ ⟨?_, rfl⟩⟩
      rw [Int.tmod_eq_emod_of_nonneg (by omega)]
      by_cases h16 : i % 16 = 0
      · rw [decide_eq_true (.inr h16), h16]; rfl
      · rw [decide_eq_false (fun x => x.elim h4 h16)]
        exact beq_eq_false_iff_ne.2 h16
  rintro z h2 ⟨rfl, rfl⟩
  refine jn0 (fun h' => ∃ (s0 s1 : Sl) (X : List BE), (X.length : Int) ≤ 9 * ((kN : Int) - nN) + (if i < 3 then i else 3) + i / 16 ∧ (∀ e ∈ X, e.1.len ≤ 5600096 ∧ e.2 ≤ T) ∧ Sat h0 h' (own bk (bkC s0 s1 nN t d u) :: buf 1 slc s0 ((es ++ X).map (·.1)) :: buf 1 natc s1 ((es ++ X).map (·.2)) :: famR (es ++ X ++ [(g', m0)]) :: L)) ?_ ?_
  · clear O
    rintro h ⟨s0, s1, X, hX', hXb, O⟩
    rw [wrap64 (by omega) (by omega)]
    refine hnx' (M - 1) _ _ _ (by omega) ⟨by omega, by omega, by omega, s0, s1, X, by rw [show i + 1 - 1 = i by omega]; exact hX', hXb, O⟩
  intro j33 hj33
  refine brr_p (fun hp => ?_) (fun hp => ?_)
  case refine_2 =>
    refine hj33 _ ⟨s0, s1, X, ?_, hXb, O.sel [1, 2, 3, 0] 4 rfl (Nat.le_add_left _ _)⟩
    split at hX <;> split <;> omega
  have hXl : X.length ≤ 9000100 := by split at hX <;> omega
  have hesX : (es ++ X).length ≤ 10000100 := by rw [List.length_append]; omega
  have O : Sat h0 h2 (own bk (bkC s0 s1 nN t d u) :: buf 1 slc s0 ((es ++ X).map (·.1)) :: buf 1 natc s1 ((es ++ X).map (·.2)) :: famR (es ++ X ++ [(g', m0)]) :: L) := O.sel [1, 2, 3, 0] 4 rfl (Nat.le_add_left _ _)
  refine ld0 O ?_
  have O := O.swap
  refine O.push_buf g' rfl slc_len slc_one rfl (by rw [List.length_map]; omega) fun s38 h O _ => ?_
  refine st0 O.swap fun h O => ?_
  refine ld1 O ?_
  replace O := O.sel [2, 0, 1, 3] 4 rfl (Nat.le_add_left _ _)
  simp only [selT, List.map, nth, List.drop, List.cons_append, List.nil_append] at O
  refine O.push_buf m0 rfl natc_len natc_one rfl (by rw [List.length_map]; omega) fun s46 h O _ => ?_
  refine st1 O.swap fun h O => ?_
  have e1 : (es ++ X).map (·.1) ++ [g'] = (es ++ (X ++ [(g', m0)])).map (·.1) := by simp
  have e2 : (es ++ X).map (·.2) ++ [m0] = (es ++ (X ++ [(g', m0)])).map (·.2) := by simp
  rw [e1, e2] at O
  refine hj33 _ ⟨s38, s46, X ++ [(g', m0)], ?_, ?_, ?_⟩
  · rw [List.length_append, List.length_singleton]
    split at hX <;> split <;> omega
  · intro e hx
    rcases List.mem_append.1 hx with hx | hx
    · exact hXb e hx
    · rw [List.mem_singleton.1 hx]
      exact ⟨by show g'.len ≤ _; omega, hm0⟩
  · have O2 := O.sel [3, 0, 1, 2] 4 rfl (Nat.le_add_left _ _)
    have O3 := famR.sub (fs := es ++ (X ++ [(g', m0)]) ++ [(g', m0)]) O2 (fun e hx => by
      rcases List.mem_append.1 hx with hx | hx
      · rw [← List.append_assoc] at hx; exact hx
      · exact List.mem_append.2 (.inr hx))
    exact O3.sel [1, 3, 2, 0] 4 rfl (Nat.le_add_left _ _)
end
end Go.Proofs.Ytcbelendjpnmiaa.V
/- The Book over lists of bytes: what is given to it, what it answers. -/
namespace Go.Proofs.Ytcbelendjpnmiaa.V
open Go Go.RowKit
set_option linter.unusedVariables false
set_option linter.unusedSimpArgs false
structure BkS where
  s0 : Sl
  s1 : Sl
  es : List BE
  n : Nat
  t : Nat
  d : Nat
  u : Nat
structure BkS.Ok (x : BkS) (T : Nat) : Prop where
  t : x.t ≤ T
  n : x.n ≤ x.es.length
  room : 120 * (x.es.length + 9 * (x.es.length - x.n)) ≤ x.u
  u : x.u ≤ 16777216
  len : ∀ (i : Nat) e, x.es[i]? = some e → e.1.len ≤ (if i < x.n then 5600096 else 5600000) ∧ e.2 ≤ T
def bkR (bk T : Nat) : Res := ex fun x : BkS => pr (x.Ok T) (sep (own bk (bkC x.s0 x.s1 x.n x.t x.d x.u)) (sep (buf 1 slc x.s0 (x.es.map (·.1))) (sep (buf 1 natc x.s1 (x.es.map (·.2))) (famR x.es))))
theorem Sat.book {h0 h : Heap} {L : List Res} {bk T : Nat} (O : Sat h0 h (bkR bk T :: L)) : ∃ x : BkS, x.Ok T ∧ Sat h0 h (own bk (bkC x.s0 x.s1 x.n x.t x.d x.u) :: buf 1 slc x.s0 (x.es.map (·.1)) :: buf 1 natc x.s1 (x.es.map (·.2)) :: famR x.es :: L) := by
  obtain ⟨x, O⟩ := O.ex
  obtain ⟨o, O⟩ := O.pr
  have O := O.sep.swap.sep.swap.sep
  exact ⟨x, o, O.sel [3, 2, 0, 1] 4 rfl (Nat.le_add_left _ _)⟩
theorem Sat.bookI {h0 h : Heap} {L : List Res} {bk T : Nat} {x : BkS} (o : x.Ok T) (O : Sat h0 h (own bk (bkC x.s0 x.s1 x.n x.t x.d x.u) :: buf 1 slc x.s0 (x.es.map (·.1)) :: buf 1 natc x.s1 (x.es.map (·.2)) :: famR x.es :: L)) : Sat h0 h (bkR bk T :: L) := by
  have O := (O.sel [2, 3, 0, 1] 4 rfl (Nat.le_add_left _ _)).sepI
  have O := (O.sel [2, 0, 1] 3 rfl (Nat.le_add_left _ _)).sepI
  exact (Sat.prI o (O.swap.sepI)).exI x
section
variable {h0 h : Heap} {L : List Res} {bk T : Nat}
theorem F_law1_Book_holds.is {x : BkS} {Q : Bool → Heap → Prop} (hb : ∀ e ∈ x.es, e.1.len ≤ 1099511627776 ∧ e.2 ≤ 1099511627776) (hn : x.es.length ≤ 1099511627776) (O : Sat h0 h (own bk (bkC x.s0 x.s1 x.n x.t x.d x.u) :: buf 1 slc x.s0 (x.es.map (·.1)) :: buf 1 natc x.s1 (x.es.map (·.2)) :: famR x.es :: L)) (k : Q true h) : F_law1_Book_holds (some (pt bk 0)) h Q := by
  rw [F_law1_Book_holds.eq_1, F_law1_Book_holds_of.eq_1]
  refine jn1 (fun z h' => z = true ∧ h' = h) ?_ ?_
  · rintro z h ⟨rfl, rfl⟩
    exact k
  · intro j hj
    refine F_law1_Book_plain.is hb hn O ?_
    refine brr_tt rfl ?_
    refine F_law1_Book_kept.is O ?_
    refine brr_tt rfl ?_
    refine F_law1_Book_told.is O ?_
    refine brr_tt rfl ?_
    refine F_law1_Book_held.is O ?_
    exact hj _ _ ⟨rfl, rfl⟩
theorem BkS.Ok.lens {x : BkS} (o : x.Ok T) (hT : T ≤ 1099511627776) : ∀ e ∈ x.es, e.1.len ≤ 1099511627776 ∧ e.2 ≤ 1099511627776 := by
  intro e he
  obtain ⟨i, hi⟩ := List.getElem?_of_mem he
  have := o.len i e hi
  refine ⟨?_, by omega⟩
  have h2 := this.1
  split at h2 <;> omega
theorem F_law1_Book_Look.is {Q : Bool → Heap → Prop} (hT : T ≤ 1099511627776) (O : Sat h0 h (bkR bk T :: L)) (k : ∀ h', Sat h0 h' (bkR bk T :: L) → Q true h') : F_law1_Book_Look (some (pt bk 0)) h Q := by
  rw [F_law1_Book_Look.eq_1, F_law1_Book_Look_of.eq_1]
  obtain ⟨x, o, O⟩ := O.book
  have h1 := o.room; have h2 := o.u; have h3 := o.n
  refine F_law1_Book_holds.is (o.lens hT) (by omega) O ?_
  refine brr_ff rfl ?_
  simp only [nn_some, pt_add, Nat.zero_add, Nat.add_zero, Nat.reduceAdd, Nat.reduceMul, Int.toNat_zero, Int.toNat_one, Nat.zero_mul, Nat.one_mul]
  have O1 := O
  unfold bkC at O1
  refine O1.ld 0 rfl (ldL_c (ldL_n ?_))
  refine O1.ld 0 rfl (ldL_c (ldL_n ?_))
  refine brr_eq (fun _ => k h (Sat.bookI o O)) (fun _ => ?_)
  rw [F_law1_Book_grow.eq_1, F_law1_Book_grow_of.eq_1]
  refine F_law1_Book_growBytes.is o.len hT o.n (by omega) O fun s0 s1 fs h hfs hfb O => ?_
  refine F_law1_Book_growRows.is O fun h O => ?_
  refine F_law1_Book_growTexts.is O fun h O => ?_
  refine F_law1_Book_growInts.is O fun h O => ?_
  refine F_law1_Book_growWords.is O fun h O => ?_
  refine F_law1_Book_growDones.is O fun h O => ?_
  refine F_law1_Book_growAccts.is O fun h O => ?_
  refine F_law1_Book_growQueue.is O fun h O => ?_
  refine F_law1_Book_growSlots.is O fun h O => ?_
  refine F_law1_Book_growMsgs.is O fun h O => ?_
  refine F_law1_Book_growFlights.is O fun h O => ?_
  refine F_law1_Book_growFiles.is O fun h O => ?_
  simp only [nn_some, pt_add, Nat.zero_add, Nat.add_zero, Nat.reduceAdd, Nat.reduceMul, Int.toNat_zero, Int.toNat_one, Nat.zero_mul, Nat.one_mul]
  have O1 := O
  unfold bkC at O1
  refine O1.ld 0 rfl (ldL_c (ldL_n ?_))
  refine O1.st 0 rfl (by simp) rfl fun h O => ?_
  dsimp only [V.put, List.set] at O
  have O : Sat h0 h (own bk (bkC s0 s1 fs.length x.t x.t x.u) :: buf 1 slc s0 (fs.map (·.1)) :: buf 1 natc s1 (fs.map (·.2)) :: famR fs :: L) := O
  have o2 : BkS.Ok ⟨s0, s1, fs, fs.length, x.t, x.t, x.u⟩ T := by
    refine ⟨o.t, Nat.le_refl _, ?_, o.u, fun i e hi => ?_⟩
    · show 120 * (fs.length + 9 * (fs.length - fs.length)) ≤ x.u
      omega
    · have hl := (List.getElem?_eq_some_iff.1 hi).1
      rw [if_pos hl]
      exact hfb e (List.mem_of_getElem? hi)
  refine F_law1_Book_holds.is (x := ⟨s0, s1, fs, fs.length, x.t, x.t, x.u⟩) (o2.lens hT) (by show fs.length ≤ _; omega) O ?_
  exact k h (Sat.bookI o2 O)
theorem marks_set {m i : Nat} {xs : List UInt8} (hi : i < xs.length) : (marksB m i ++ xs.drop i).set i (atB m i) = marksB m (i + 1) ++ xs.drop (i + 1) := by
  have e1 : xs.drop i = xs[i] :: xs.drop (i + 1) := List.drop_eq_getElem_cons hi
  rw [e1, List.set_append_right _ _ (by rw [marksB_len]; exact Nat.le_refl _), marksB_len, Nat.sub_self, List.set_cons_zero]
  have e2 : marksB m (i + 1) = marksB m i ++ [atB m i] := by unfold marksB; rw [List.range_succ, List.map_append]; rfl
  rw [e2, List.append_assoc]
  rfl
theorem F_law1_Book_Bytes.is {s : Sl} {xs : List UInt8} {Q : Heap → Prop} (hT : T ≤ 1099511627) (hx : xs.length ≤ 281474976710656) (O : Sat h0 h (buf 1 u8 s xs :: bkR bk T :: L)) (k : ∀ h', Sat h0 h' (bkR bk (T + 1) :: L) → Q h') : F_law1_Book_Bytes (some (pt bk 0)) s h Q := by
  rw [F_law1_Book_Bytes.eq_1, F_law1_Book_Bytes_of.eq_1]
  obtain ⟨x, o, O⟩ := O.swap.book
  have h1 := o.room; have h2 := o.u; have h3 := o.n; have h4 := o.t
  have hsl := (O.view 4 u8_len (by simp) rfl).1.len
  simp only [nn_some, pt_add, Nat.zero_add, Nat.add_zero, Nat.reduceAdd, Nat.reduceMul, Int.toNat_zero, Int.toNat_one, Nat.zero_mul, Nat.one_mul]
  unfold bkC at O
  refine O.ld 0 rfl (ldL_c (ldL_n ?_))
  refine O.st 0 rfl (by simp) rfl fun h O => ?_
  dsimp only [V.put, List.set] at O
  rw [wrap64 (by omega) (by omega)] at O
  refine O.ld 0 rfl (ldL_c (ldL_n ?_))
  have em : (x.t : Int) + 1 = ((x.t + 1 : Nat) : Int) := by omega
  rw [em] at O ⊢
  have O : Sat h0 h (own bk (bkC x.s0 x.s1 x.n (x.t + 1 : Nat) x.d x.u) :: buf 1 slc x.s0 (x.es.map (·.1)) :: buf 1 natc x.s1 (x.es.map (·.2)) :: famR x.es :: buf 1 u8 s xs :: L) := O
  replace O := O.sel [4, 0, 1, 2, 3] 5 rfl (Nat.le_add_left _ _)
  simp only [selT, List.map, nth, List.drop, List.cons_append, List.nil_append] at O
  refine jn0 (fun h' => Sat h0 h' (buf 1 u8 s (marksB (x.t + 1) s.len) :: own bk (bkC x.s0 x.s1 x.n (x.t + 1 : Nat) x.d x.u) :: buf 1 slc x.s0 (x.es.map (·.1)) :: buf 1 natc x.s1 (x.es.map (·.2)) :: famR x.es :: L)) ?_ ?_
  case refine_2 =>
    intro j hj
    rw [F_law1_Book_Bytes.l1.eq_1, hsl]
    rw [hsl] at hj
    refine wl1 (k := .int .i64) (fun (m : Nat) (i : Int) (h' : Heap) => 0 ≤ i ∧ i + m = xs.length ∧ Sat h0 h' (buf 1 u8 s (marksB (x.t + 1) i.toNat ++ xs.drop i.toNat) :: own bk (bkC x.s0 x.s1 x.n (x.t + 1 : Nat) x.d x.u) :: buf 1 slc x.s0 (x.es.map (·.1)) :: buf 1 natc x.s1 (x.es.map (·.2)) :: famR x.es :: L)) ?_ (m := xs.length) ⟨by omega, by omega, by rw [show marksB (x.t + 1) (0 : Int).toNat = [] from rfl]; exact O⟩
    clear O
    rintro m (i : Int) h next hn ⟨hi0, him, O⟩
    obtain ⟨i, rfl⟩ := Int.eq_ofNat_of_zero_le hi0
    simp only [Int.toNat_natCast] at O
    refine brr_p (fun hlt => ?_) (fun hlt => ?_)
    · have hil : i < xs.length := by omega
      refine F_law1_at.is (by omega) ?_
      refine O.put1 u8_len u8_one (by omega) (by rw [List.length_append, marksB_len, List.length_drop]; omega) (atB (x.t + 1) i) rfl fun h O => ?_
      rw [Int.toNat_natCast, marks_set hil] at O
      rw [wrap64 (by omega) (by omega)]
      refine hn (m - 1) _ _ (by omega) ⟨by omega, by omega, ?_⟩
      rw [show ((i : Int) + 1).toNat = i + 1 by omega]
      exact O
    · rw [List.drop_eq_nil_of_le (by omega), List.append_nil, show i = xs.length by omega] at O
      exact hj _ O
  clear O
  intro h O
  rw [F_law1_Book_tight.eq_1, F_law1_Book_tight_of.eq_1]
  simp only [nn_some, pt_add, Nat.zero_add, Nat.add_zero, Nat.reduceAdd, Nat.reduceMul, Int.toNat_zero, Int.toNat_one, Nat.zero_mul, Nat.one_mul]
  replace O := O.sel [1, 2, 3, 4, 0] 5 rfl (Nat.le_add_left _ _)
  simp only [selT, List.map, nth, List.drop, List.cons_append, List.nil_append] at O
  unfold bkC at O
  refine O.ld 0 rfl (ldL_c (ldL_n ?_))
  have ew : IntKind.i64.wrap (1200 + IntKind.i64.wrap (3 * ((s.len : Nat) : Int))) = 1200 + 3 * (xs.length : Int) := by
    rw [hsl, wrap64 (x := 3 * (xs.length : Int)) (by omega) (by omega), wrap64 (by omega) (by omega)]
  rw [ew, wrap64 (x := (x.u : Int) + (1200 + 3 * (xs.length : Int))) (by omega) (by omega)]
  have olen : ∀ (i : Nat) e, x.es[i]? = some e → e.1.len ≤ (if i < x.n then 5600096 else 5600000) ∧ e.2 ≤ T + 1 := fun i e hi => ⟨(o.len i e hi).1, Nat.le_succ_of_le (o.len i e hi).2⟩
  refine brr_p (fun hp => ?_) (fun hp => ?_)
  · refine brr_tt rfl ?_
    have O := O.sel [0, 1, 2, 3] 5 rfl (Nat.le_add_left _ _)
    exact k h (Sat.bookI (x := ⟨x.s0, x.s1, x.es, x.n, x.t + 1, x.d, x.u⟩) ⟨by show x.t + 1 ≤ T + 1; omega, o.n, o.room, o.u, olen⟩ O)
  · have hp : ¬ (x.u : Int) + (1200 + 3 * (xs.length : Int)) > 16777216 := hp
    refine O.ld 0 rfl (ldL_c (ldL_n ?_))
    refine O.st 0 rfl (by simp) rfl fun h O => ?_
    dsimp only [V.put, List.set] at O
    rw [show (x.u : Int) + (1200 + 3 * (xs.length : Int)) = ((x.u + (1200 + 3 * xs.length) : Nat) : Int) by omega, wrap64 (by omega) (by omega)] at O
    refine brr_ff rfl ?_
    refine O.ld 0 rfl (ldL_c (k := .sl) (x := x.s0) (ldL_n ?_))
    have O := O.swap
    refine O.push_buf s rfl slc_len slc_one rfl (by rw [List.length_map]; omega) fun s2 h O _ => ?_
    have O := O.swap
    refine O.st 0 rfl (by simp) rfl fun h O => ?_
    dsimp only [V.put, List.set] at O
    refine O.ld 0 rfl (ldL_c (k := .sl) (x := x.s1) (ldL_n ?_))
    replace O := O.sel [2, 0, 1, 3, 4] 5 rfl (Nat.le_add_left _ _)
    simp only [selT, List.map, nth, List.drop, List.cons_append, List.nil_append] at O
    refine O.push_buf (x.t + 1) rfl natc_len natc_one rfl (by rw [List.length_map]; omega) fun s3 h O _ => ?_
    have O := O.swap
    refine O.st 0 rfl (by simp) rfl fun h O => ?_
    dsimp only [V.put, List.set] at O
    replace O := O.sel [4, 3, 0, 2, 1] 5 rfl (Nat.le_add_left _ _)
    simp only [selT, List.map, nth, List.drop, List.cons_append, List.nil_append] at O
    have O := fam_take O
    have O : Sat h0 h (famR (x.es ++ [(s, x.t + 1)]) :: own bk (bkC s2 s3 x.n (x.t + 1 : Nat) x.d (x.u + (1200 + 3 * xs.length) : Nat)) :: buf 1 slc s2 (x.es.map (·.1) ++ [s]) :: buf 1 natc s3 (x.es.map (·.2) ++ [x.t + 1]) :: L) := O
    have e1 : x.es.map (·.1) ++ [s] = (x.es ++ [(s, x.t + 1)]).map (·.1) := by simp
    have e2 : x.es.map (·.2) ++ [x.t + 1] = (x.es ++ [(s, x.t + 1)]).map (·.2) := by simp
    rw [e1, e2] at O
    replace O := O.sel [1, 2, 3, 0] 4 rfl (Nat.le_add_left _ _)
    simp only [selT, List.map, nth, List.drop, List.cons_append, List.nil_append] at O
    have el : (x.es ++ [(s, x.t + 1)]).length = x.es.length + 1 := by simp
    refine k h (Sat.bookI (x := ⟨s2, s3, x.es ++ [(s, x.t + 1)], x.n, x.t + 1, x.d, x.u + (1200 + 3 * xs.length)⟩) ⟨by show x.t + 1 ≤ T + 1; omega, by show x.n ≤ (x.es ++ [(s, x.t + 1)]).length; omega, by show 120 * ((x.es ++ [(s, x.t + 1)]).length + 9 * ((x.es ++ [(s, x.t + 1)]).length - x.n)) ≤ x.u + (1200 + 3 * xs.length); omega, by show x.u + (1200 + 3 * xs.length) ≤ _; omega, fun i e hi => ?_⟩ O)
    have hi : (x.es ++ [(s, x.t + 1)])[i]? = some e := hi
    by_cases hlt : i < x.es.length
    · rw [List.getElem?_append_left hlt] at hi
      exact olen i e hi
    · rw [List.getElem?_append_right (by omega)] at hi
      have hi0 : i - x.es.length = 0 := by
        have := (List.getElem?_eq_some_iff.1 hi).1
        simp at this
        omega
      rw [hi0] at hi
      cases hi
      refine ⟨?_, by show x.t + 1 ≤ T + 1; omega⟩
      rw [if_neg (by show ¬ i < x.n; omega)]
      show s.len ≤ _
      omega
end
end Go.Proofs.Ytcbelendjpnmiaa.V
/- An array in the midst of a struct: its elements of one cell are read and written. -/
namespace Go.Proofs.Ytcbelendjpnmiaa.V
open Go Go.RowKit
set_option linter.unusedVariables false
set_option linter.unusedSimpArgs false
variable {α : Type}
theorem flat1_at {enc : α → List Value} (he : ∀ x, (enc x).length = 1) : ∀ {xs : List α} {i : Nat} {x : α}, xs[i]? = some x → (xs.flatMap enc).drop i = enc x ++ (xs.drop (i + 1)).flatMap enc := by
  intro xs
  induction xs with
  | nil => intro i x h; simp at h
  | cons y xs ih =>
    intro i x h
    cases i with
    | zero => cases h; rfl
    | succ i =>
      rw [List.flatMap_cons]
      have hy := he y
      match hyy : enc y, hy with
      | [v], _ => exact ih h
theorem Sat.getO {h0 h : Heap} {L : List Res} (O : Sat h0 h L) (j : Nat) {b o n : Nat} {enc : α → List Value} {xs : List α} {pre ys : List Value} {i : Int} {k : Kd} {K : Addr → k.T → Prop} {x : α} (he : ∀ x, (enc x).length = 1) (hj : nth j L = own b (pre ++ (xs.flatMap enc ++ ys))) (ho : o = pre.length) (h0 : 0 ≤ i) (h1 : i < (n : Int)) (hx : xs[i.toNat]? = some x) (f : α → k.T) (hf : ∀ x, enc x = [k.enc (f x)])
    (kk : ∀ a, (∀ {h0' h' : Heap} {L' : List Res}, Sat h0' h' L' → ∀ j', nth j' L' = own b (pre ++ (xs.flatMap enc ++ ys)) → cellsAre h' a (enc x)) → K a (f x)) : ixA 1 (pt b o) n i fun a => V.ld [k] a h (K a) := by
  refine ⟨h0, h1, ?_⟩
  have hc : ∀ {h0' h' : Heap} {L' : List Res}, Sat h0' h' L' → ∀ j', nth j' L' = own b (pre ++ (xs.flatMap enc ++ ys)) → cellsAre h' ((pt b o).add (i.toNat * 1)) (enc x) := by
    intro h0' h' L' O' j' hj'
    have B := (O'.blk (nth_lt hj') hj').2
    have h2 := cellsAre_blk B (o + i.toNat) 1
    have hl := (List.getElem?_eq_some_iff.1 hx).1
    have e1 : ((pre ++ (xs.flatMap enc ++ ys)).drop (o + i.toNat)).take 1 = enc x := by
      rw [ho, ← List.drop_drop, List.drop_left, List.drop_append_of_le_length (by rw [flatMap_len he]; omega), flat1_at he hx, List.append_assoc, List.take_append_of_le_length (by rw [he]; exact Nat.le_refl _), List.take_of_length_le (by rw [he]; exact Nat.le_refl _)]
    rw [e1] at h2
    rw [pt_add, Nat.mul_one]
    exact h2
  have h1 := hc O j hj
  rw [hf] at h1
  exact ld_are h1 (ldL_c (ldL_n (kk _ hc)))
theorem put_behind {pre : List Value} : ∀ (cs : List Value) (i : Nat) (v : List Value), V.put (pre ++ cs) (pre.length + i) v = pre ++ V.put cs i v := by
  induction pre with
  | nil => intro cs i v; simp
  | cons c pre ih =>
    intro cs i v
    rw [List.length_cons, show pre.length + 1 + i = (pre.length + i) + 1 by omega]
    show c :: V.put (pre ++ cs) (pre.length + i) v = _
    rw [ih]
    rfl
theorem Sat.putO {h0 h : Heap} {L : List Res} {b o n : Nat} {enc : α → List Value} {xs : List α} {pre ys : List Value} {i : Int} {K : Heap → Prop} (O : Sat h0 h (own b (pre ++ (xs.flatMap enc ++ ys)) :: L)) (he : ∀ x, (enc x).length = 1) (ho : ∀ x, (enc x).all oneV = true) (hoo : o = pre.length) (hn : n = xs.length)
    (hi0 : 0 ≤ i) (hi1 : i < (n : Int)) (y : α) {cs : List Value} (hcs : cs = enc y) (k : ∀ h', Sat h0 h' (own b (pre ++ ((xs.set i.toNat y).flatMap enc ++ ys)) :: L) → K h') : ixA 1 (pt b o) n i fun a => V.st a cs h K := by
  subst hcs hn hoo
  refine ⟨hi0, hi1, ?_⟩
  rw [pt_add, Nat.mul_one]
  have hl := flatMap_len he xs
  refine O.st 0 rfl (by rw [he, List.length_append, List.length_append, hl]; omega) (ho y) fun h' O => ?_
  rw [put_behind, set_flat1 he xs ys i.toNat y (by omega)] at O
  exact k _ O
end Go.Proofs.Ytcbelendjpnmiaa.V
namespace Go.Proofs.Ytcbelendjpnmiaa.V
open Go Go.RowKit
set_option linter.unusedVariables false
set_option maxRecDepth 100000
def F_law1_Over.l1 (l1 : Sl) (j2 : Heap → Prop) : Int → Heap → Prop :=
  wl [(2, .one (.int .i64))] (fun (next3 : Int → Heap → Prop) (i4 : Int) (h5 : Heap) =>
  brr (decide (i4 < ((l1.len : Nat) : Int)))
  (ixS 1 l1 i4 fun (a6 : Addr) =>
  st a6 [.int .u8 238] h5 fun (h7 : Heap) =>
  next3 (IntKind.i64.wrap (i4 + 1)) h7)
  (j2 h5))
def F_law1_Over_of  (l1 : Sl) (h : Heap) (Q : Heap → Prop) : Prop :=
  jn [] (fun  (h8 : Heap) =>
  Q h8) (fun (j2 : Heap → Prop) =>
  F_law1_Over.l1 l1 j2 0 h)
def F_law1_Over (l1 : Sl) (h : Heap) (Q : Heap → Prop) : Prop := F_law1_Over_of  l1 h Q
def plan50 : Plan := .s (.r [0, 2]) (.bj [] [] (.l [(2, .one (.int .i64))] [0] (.s (.s (.r [0, 2, 6]) (.c .z .z)) (.s (.b (.r [0, 2])) (.r [0, 2])))))
theorem F_law1_Over.eq  (l1 : Sl) (h : Heap) (K : Value → Heap → Prop) : F_law1_Over_of  l1 h (fun  (h : Heap) => K (.tuple #[]) h) =
    den Try.prog noFns Try.f50.ntmps plan50 (bodyOf Try.f50) (args0 0 [(.slice l1.ptr l1.len l1.cap : Value)]) h ⟨fun env h => dRes Try.prog Try.f50.results.toList env h K, fun _ _ _ => False, fun env h => dRes Try.prog Try.f50.results.toList env h K⟩ := by kernel_rfl
def E_law1_Over_of (f : Sl → Heap → (Heap → Prop) → Prop) : List Value → Heap → (Value → Heap → Prop) → Prop
  | [v0], h, K => dec1 .sl v0 fun (l1 : Sl) =>
  f l1 h (fun  (h : Heap) => K (.tuple #[]) h)
  | _, _, _ => False
abbrev E_law1_Over := E_law1_Over_of F_law1_Over
theorem E_law1_Over.right : IsRight Try.prog 50 E_law1_Over := by
  refine isRight fun vs K w hh => ?_
  match vs, hh with
  | [v0], hh =>
    unfold E_law1_Over E_law1_Over_of at hh
    replace hh := dec1_sound hh; obtain ⟨l1, rfl, hh⟩ := hh
    unfold F_law1_Over at hh
    exact calls_den noFns_right plan50 _ w K Try.func50 (by kernel_rfl) (by kernel_rfl) (Eq.mp (F_law1_Over.eq  l1 w.heap K) hh)
theorem ok50 : okFn Try.prog 50 = true := by kernel_rfl
end Go.Proofs.Ytcbelendjpnmiaa.V
namespace Go.Proofs.Ytcbelendjpnmiaa.V
open Go Go.RowKit
set_option linter.unusedVariables false
set_option maxRecDepth 100000
def F_law9_stage_fresh_of (f10_ : Sl → Heap → (Option Addr → Heap → Prop) → Prop) (f47_ : Sl → Heap → (Sl → Heap → Prop) → Prop) (f48_ : Sl → Heap → (Option Addr → Heap → Prop) → Prop) (f49_ : Sl → Sl → Heap → (Bool → Heap → Prop) → Prop) (f50_ : Sl → Heap → (Heap → Prop) → Prop) (t1 : Option Addr) (k2 : Int) (value3 : Sl) (h : Heap) (Q : Bool → Heap → Prop) : Prop :=
  f47_ value3 h fun (r4 : Sl) (h5 : Heap) =>
  nn t1 fun (a6 : Addr) =>
  f10_ r4 h5 fun (r7 : Option Addr) (h8 : Heap) =>
  ixA 1 (a6.add 0) 2 k2 fun (a9 : Addr) =>
  st a9 [.pointer r7] h8 fun (h10 : Heap) =>
  nn t1 fun (a11 : Addr) =>
  f48_ value3 h10 fun (r12 : Option Addr) (h13 : Heap) =>
  ixA 1 (a11.add 2) 2 k2 fun (a14 : Addr) =>
  st a14 [.pointer r12] h13 fun (h15 : Heap) =>
  f49_ r4 value3 h15 fun (r16 : Bool) (h17 : Heap) =>
  f50_ r4 h17 fun  (h18 : Heap) =>
  jn [(6, .one .bool)] (fun (x23 : Bool) (h24 : Heap) =>
  Q x23 h24) (fun (j19 : Bool → Heap → Prop) =>
  brr r16
  (nn t1 fun (a20 : Addr) =>
  ixA 1 (a20.add 0) 2 k2 fun (a21 : Addr) =>
  ld [.ptr] a21 h18 fun (v22 : Option Addr) =>
  j19 (!v22.isNone) h18)
  (j19 false h18))
def F_law9_stage_fresh (t1 : Option Addr) (k2 : Int) (value3 : Sl) (h : Heap) (Q : Bool → Heap → Prop) : Prop := F_law9_stage_fresh_of F_replica_New F_law1_Lend F_ref9_New F_law1_Intact F_law1_Over t1 k2 value3 h Q
def plan33 : Plan := .s (.r [0, 1, 2]) (.s (.r [0, 1, 2, 7]) (.s (.d [0, 0, 0, 4, 1, 17, 63, 127] [[0, 1, 2, 4, 5, 3, 6, 7]] [0, 1, 2, 7]) (.s (.d [0, 0, 0, 4, 1, 17, 63, 127] [[0, 1, 2, 4, 5, 3, 6, 7]] [0, 1, 2, 7]) (.s (.r [0, 1, 7, 8]) (.s (.r [0, 1, 8]) (.s (.rj [(6, .one .bool)] []) .z))))))
theorem F_law9_stage_fresh.eq (f10_ : Sl → Heap → (Option Addr → Heap → Prop) → Prop) (f47_ : Sl → Heap → (Sl → Heap → Prop) → Prop) (f48_ : Sl → Heap → (Option Addr → Heap → Prop) → Prop) (f49_ : Sl → Sl → Heap → (Bool → Heap → Prop) → Prop) (f50_ : Sl → Heap → (Heap → Prop) → Prop) (t1 : Option Addr) (k2 : Int) (value3 : Sl) (h : Heap) (K : Value → Heap → Prop) : F_law9_stage_fresh_of f10_ f47_ f48_ f49_ f50_ t1 k2 value3 h (fun (r0 : Bool) (h : Heap) => K (.bool r0) h) =
    den Try.prog (fn1 10 (E_replica_New_of f10_) (fn1 47 (E_law1_Lend_of f47_) (fn1 48 (E_ref9_New_of f48_) (fn1 49 (E_law1_Intact_of f49_) (fn1 50 (E_law1_Over_of f50_) noFns))))) Try.f33.ntmps plan33 (bodyOf Try.f33) (args0 0 [(.pointer t1 : Value), (.int .i64 k2 : Value), (.slice value3.ptr value3.len value3.cap : Value)]) h ⟨fun env h => dRes Try.prog Try.f33.results.toList env h K, fun _ _ _ => False, fun env h => dRes Try.prog Try.f33.results.toList env h K⟩ := by kernel_rfl
def E_law9_stage_fresh_of (f : Option Addr → Int → Sl → Heap → (Bool → Heap → Prop) → Prop) : List Value → Heap → (Value → Heap → Prop) → Prop
  | [v0, v1, v2], h, K => dec1 .ptr v0 fun (t1 : Option Addr) =>
  dec1 (.int .i64) v1 fun (k2 : Int) =>
  dec1 .sl v2 fun (value3 : Sl) =>
  f t1 k2 value3 h (fun (r0 : Bool) (h : Heap) => K (.bool r0) h)
  | _, _, _ => False
abbrev E_law9_stage_fresh := E_law9_stage_fresh_of F_law9_stage_fresh
theorem E_law9_stage_fresh.right : IsRight Try.prog 33 E_law9_stage_fresh := by
  refine isRight fun vs K w hh => ?_
  match vs, hh with
  | [v0, v1, v2], hh =>
    unfold E_law9_stage_fresh E_law9_stage_fresh_of at hh
    replace hh := dec1_sound hh; obtain ⟨t1, rfl, hh⟩ := hh
    replace hh := dec1_sound hh; obtain ⟨k2, rfl, hh⟩ := hh
    replace hh := dec1_sound hh; obtain ⟨value3, rfl, hh⟩ := hh
    unfold F_law9_stage_fresh at hh
    exact calls_den (fn1_right ok10 E_replica_New.right (fn1_right ok47 E_law1_Lend.right (fn1_right ok48 E_ref9_New.right (fn1_right ok49 E_law1_Intact.right (fn1_right ok50 E_law1_Over.right noFns_right))))) plan33 _ w K Try.func33 (by kernel_rfl) (by kernel_rfl) (Eq.mp (F_law9_stage_fresh.eq F_replica_New F_law1_Lend F_ref9_New F_law1_Intact F_law1_Over t1 k2 value3 w.heap K) hh)
theorem ok33 : okFn Try.prog 33 = true := by kernel_rfl
end Go.Proofs.Ytcbelendjpnmiaa.V
namespace Go.Proofs.Ytcbelendjpnmiaa.V
open Go Go.RowKit
set_option linter.unusedVariables false
set_option maxRecDepth 100000
def F_law9_into_of  (n1 m2 : Int) (h : Heap) (Q : Int → Heap → Prop) : Prop :=
  m2 ≠ 0 ∧
  jn [(5, .one (.int .i64))] (fun (k4 : Int) (h5 : Heap) =>
  Q k4 h5) (fun (j3 : Int → Heap → Prop) =>
  brr (decide ((n1.tmod m2) < 0))
  (j3 (IntKind.i64.wrap ((n1.tmod m2) + m2)) h)
  (j3 (n1.tmod m2) h))
def F_law9_into (n1 m2 : Int) (h : Heap) (Q : Int → Heap → Prop) : Prop := F_law9_into_of  n1 m2 h Q
def plan9 : Plan := .s (.r [0, 1]) (.s (.r [1, 5]) (.s (.s (.r [1, 5, 10]) (.cj [(5, .one (.int .i64))] [] (.r [5]) .z)) (.s (.r [4]) .z)))
theorem F_law9_into.eq  (n1 m2 : Int) (h : Heap) (K : Value → Heap → Prop) : F_law9_into_of  n1 m2 h (fun (r0 : Int) (h : Heap) => K (.int .i64 r0) h) =
    den Try.prog noFns Try.f9.ntmps plan9 (bodyOf Try.f9) (args0 0 [(.int .i64 n1 : Value), (.int .i64 m2 : Value)]) h ⟨fun env h => dRes Try.prog Try.f9.results.toList env h K, fun _ _ _ => False, fun env h => dRes Try.prog Try.f9.results.toList env h K⟩ := by kernel_rfl
def E_law9_into_of (f : Int → Int → Heap → (Int → Heap → Prop) → Prop) : List Value → Heap → (Value → Heap → Prop) → Prop
  | [v0, v1], h, K => dec1 (.int .i64) v0 fun (n1 : Int) =>
  dec1 (.int .i64) v1 fun (m2 : Int) =>
  f n1 m2 h (fun (r0 : Int) (h : Heap) => K (.int .i64 r0) h)
  | _, _, _ => False
abbrev E_law9_into := E_law9_into_of F_law9_into
theorem E_law9_into.right : IsRight Try.prog 9 E_law9_into := by
  refine isRight fun vs K w hh => ?_
  match vs, hh with
  | [v0, v1], hh =>
    unfold E_law9_into E_law9_into_of at hh
    replace hh := dec1_sound hh; obtain ⟨n1, rfl, hh⟩ := hh
    replace hh := dec1_sound hh; obtain ⟨m2, rfl, hh⟩ := hh
    unfold F_law9_into at hh
    exact calls_den noFns_right plan9 _ w K Try.func9 (by kernel_rfl) (by kernel_rfl) (Eq.mp (F_law9_into.eq  n1 m2 w.heap K) hh)
theorem ok9 : okFn Try.prog 9 = true := by kernel_rfl
end Go.Proofs.Ytcbelendjpnmiaa.V
namespace Go.Proofs.Ytcbelendjpnmiaa.V
open Go Go.RowKit
set_option linter.unusedVariables false
set_option maxRecDepth 100000
def F_law9_stage_stored_of (f23_ : Option Addr → Heap → (Int → Int → Int → Sl → Heap → Prop) → Prop) (f26_ : Int → Int → Int → Sl → Int → Int → Int → Sl → Heap → (Bool → Heap → Prop) → Prop) (f28_ : Option Addr → Heap → (Int → Heap → Prop) → Prop) (f40_ : Option Addr → Heap → (Int → Int → Int → Sl → Heap → Prop) → Prop) (f57_ : Option Addr → Heap → (Int → Heap → Prop) → Prop) (f58_ : Option Addr → Sl → Heap → (Heap → Prop) → Prop) (t1 : Option Addr) (k2 : Int) (h : Heap) (Q : Bool → Heap → Prop) : Prop :=
  nn t1 fun (a3 : Addr) =>
  ixA 1 (a3.add 0) 2 k2 fun (a4 : Addr) =>
  ld [.ptr] a4 h fun (v5 : Option Addr) =>
  f23_ v5 h fun (r6 r7 r8 : Int) (r9 : Sl) (h10 : Heap) =>
  al 44 [.int .u64 0, .int .u64 0, .int .u64 0, .slice none 0 0] h10 fun (a11 : Addr) (h12 : Heap) =>
  st a11 [.int .u64 r6, .int .u64 r7, .int .u64 r8, .slice r9.ptr r9.len r9.cap] h12 fun (h13 : Heap) =>
  jn [(6, .one .bool)] (fun (ok39 : Bool) (h40 : Heap) =>
  nn t1 fun (a41 : Addr) =>
  ld [.bool] (a41.add 5) h40 fun (v42 : Bool) =>
  jn [] (fun  (h48 : Heap) =>
  Q ok39 h48) (fun (j43 : Heap → Prop) =>
  brr v42
  (nn t1 fun (a44 : Addr) =>
  ld [.ptr] (a44.add 4) h40 fun (v45 : Option Addr) =>
  ld [.sl] (a11.add 3) h40 fun (v46 : Sl) =>
  f58_ v45 v46 h40 fun  (h47 : Heap) =>
  j43 h47)
  (j43 h40))) (fun (j14 : Bool → Heap → Prop) =>
  ld [.int .u64, .int .u64, .int .u64, .sl] a11 h13 fun (v15 v16 v17 : Int) (v18 : Sl) =>
  nn t1 fun (a19 : Addr) =>
  ixA 1 (a19.add 2) 2 k2 fun (a20 : Addr) =>
  ld [.ptr] a20 h13 fun (v21 : Option Addr) =>
  f40_ v21 h13 fun (r22 r23 r24 : Int) (r25 : Sl) (h26 : Heap) =>
  cellsAre h26 a11 [.int .u64 v15, .int .u64 v16, .int .u64 v17, .slice v18.ptr v18.len v18.cap] ∧
  f26_ v15 v16 v17 v18 r22 r23 r24 r25 h26 fun (r27 : Bool) (h28 : Heap) =>
  brr r27
  (nn t1 fun (a29 : Addr) =>
  ixA 1 (a29.add 0) 2 k2 fun (a30 : Addr) =>
  ld [.ptr] a30 h28 fun (v31 : Option Addr) =>
  nn t1 fun (a32 : Addr) =>
  ixA 1 (a32.add 2) 2 k2 fun (a33 : Addr) =>
  ld [.ptr] a33 h28 fun (v34 : Option Addr) =>
  f28_ v31 h28 fun (r35 : Int) (h36 : Heap) =>
  cellsAre h36 a33 [.pointer v34] ∧
  f57_ v34 h36 fun (r37 : Int) (h38 : Heap) =>
  j14 (r35 == r37) h38)
  (j14 false h28))
def F_law9_stage_stored (t1 : Option Addr) (k2 : Int) (h : Heap) (Q : Bool → Heap → Prop) : Prop := F_law9_stage_stored_of F_replica_Replica_Stored F_ref0_EqStored F_replica_Replica_Wait F_ref9_Replica_Stored F_ref9_Replica_Wait F_law1_Book_Bytes t1 k2 h Q
def plan36 : Plan := .s (.r [0, 1]) (.s (.r [0, 1, 5]) (.s (.dj [0, 0, 0, 2, 10, 30, 62, 126, 255, 511, 1023, 1023, 2047, 6143, 16383, 32767, 65535, 1023, 1023, 132095, 656383, 1967103, 4064255, 8388607, 16777215, 33554431, 67108863] [[0, 1, 2, 3, 4, 5, 6, 7, 8, 9, 10, 11, 12, 13, 14, 15, 17, 18, 19, 20, 21, 22, 16, 23, 24, 25, 26]] [(6, .one .bool)] [0, 5]) (.s (.s (.r [0, 5, 6, 43]) (.cj [] [6] (.d [0, 1, 3, 7, 0, 16, 63] [[0, 1, 2, 3, 4, 5, 6]] [6]) .z)) (.s (.r [4]) .z))))
theorem F_law9_stage_stored.eq (f23_ : Option Addr → Heap → (Int → Int → Int → Sl → Heap → Prop) → Prop) (f26_ : Int → Int → Int → Sl → Int → Int → Int → Sl → Heap → (Bool → Heap → Prop) → Prop) (f28_ : Option Addr → Heap → (Int → Heap → Prop) → Prop) (f40_ : Option Addr → Heap → (Int → Int → Int → Sl → Heap → Prop) → Prop) (f57_ : Option Addr → Heap → (Int → Heap → Prop) → Prop) (f58_ : Option Addr → Sl → Heap → (Heap → Prop) → Prop) (t1 : Option Addr) (k2 : Int) (h : Heap) (K : Value → Heap → Prop) : F_law9_stage_stored_of f23_ f26_ f28_ f40_ f57_ f58_ t1 k2 h (fun (r0 : Bool) (h : Heap) => K (.bool r0) h) =
    den Try.prog (fn1 23 (E_replica_Replica_Stored_of f23_) (fn1 26 (E_ref0_EqStored_of f26_) (fn1 28 (E_replica_Replica_Wait_of f28_) (fn1 40 (E_ref9_Replica_Stored_of f40_) (fn1 57 (E_ref9_Replica_Wait_of f57_) (fn1 58 (E_law1_Book_Bytes_of f58_) noFns)))))) Try.f36.ntmps plan36 (bodyOf Try.f36) (args0 0 [(.pointer t1 : Value), (.int .i64 k2 : Value)]) h ⟨fun env h => dRes Try.prog Try.f36.results.toList env h K, fun _ _ _ => False, fun env h => dRes Try.prog Try.f36.results.toList env h K⟩ := by kernel_rfl
def E_law9_stage_stored_of (f : Option Addr → Int → Heap → (Bool → Heap → Prop) → Prop) : List Value → Heap → (Value → Heap → Prop) → Prop
  | [v0, v1], h, K => dec1 .ptr v0 fun (t1 : Option Addr) =>
  dec1 (.int .i64) v1 fun (k2 : Int) =>
  f t1 k2 h (fun (r0 : Bool) (h : Heap) => K (.bool r0) h)
  | _, _, _ => False
abbrev E_law9_stage_stored := E_law9_stage_stored_of F_law9_stage_stored
theorem E_law9_stage_stored.right : IsRight Try.prog 36 E_law9_stage_stored := by
  refine isRight fun vs K w hh => ?_
  match vs, hh with
  | [v0, v1], hh =>
    unfold E_law9_stage_stored E_law9_stage_stored_of at hh
    replace hh := dec1_sound hh; obtain ⟨t1, rfl, hh⟩ := hh
    replace hh := dec1_sound hh; obtain ⟨k2, rfl, hh⟩ := hh
    unfold F_law9_stage_stored at hh
    exact calls_den (fn1_right ok23 E_replica_Replica_Stored.right (fn1_right ok26 E_ref0_EqStored.right (fn1_right ok28 E_replica_Replica_Wait.right (fn1_right ok40 E_ref9_Replica_Stored.right (fn1_right ok57 E_ref9_Replica_Wait.right (fn1_right ok58 E_law1_Book_Bytes.right noFns_right)))))) plan36 _ w K Try.func36 (by kernel_rfl) (by kernel_rfl) (Eq.mp (F_law9_stage_stored.eq F_replica_Replica_Stored F_ref0_EqStored F_replica_Replica_Wait F_ref9_Replica_Stored F_ref9_Replica_Wait F_law1_Book_Bytes t1 k2 w.heap K) hh)
theorem ok36 : okFn Try.prog 36 = true := by kernel_rfl
end Go.Proofs.Ytcbelendjpnmiaa.V
namespace Go.Proofs.Ytcbelendjpnmiaa.V
open Go Go.RowKit
set_option linter.unusedVariables false
set_option maxRecDepth 100000
def F_law9_stage_hear_of (f12_ : Int → Int → Int → Int → Int → Int → Int → Int → Int → Int → Sl → Int → Int → ByteArray → ByteArray → Int → Int → Int → Int → Int → Int → Int → Heap → (Int → Int → Int → Int → Int → Int → Int → Int → Int → Int → Sl → Int → Int → ByteArray → ByteArray → Int → Int → Int → Int → Int → Int → Int → Heap → Prop) → Prop) (f13_ : Option Addr → Int → Int → Int → Int → Int → Int → Int → Int → Int → Int → Sl → Int → Int → ByteArray → ByteArray → Int → Int → Int → Int → Int → Int → Int → Heap → (Int → Int → Int → Int → Int → Int → Int → Int → Int → Int → Sl → Int → Int → ByteArray → ByteArray → Int → Int → Int → Int → Int → Int → Int → Bool → Bool → Bool → Heap → Prop) → Prop) (f29_ : Int → Int → Int → Int → Int → Int → Int → Int → Int → Int → Sl → Int → Int → ByteArray → ByteArray → Int → Int → Int → Int → Int → Int → Int → Int → Int → Int → Int → Int → Int → Int → Int → Int → Int → Sl → Int → Int → ByteArray → ByteArray → Int → Int → Int → Int → Int → Int → Int → Heap → (Bool → Heap → Prop) → Prop) (f38_ : Option Addr → Int → Int → Int → Int → Int → Int → Int → Int → Int → Int → Sl → Int → Int → ByteArray → ByteArray → Int → Int → Int → Int → Int → Int → Int → Heap → (Int → Int → Int → Int → Int → Int → Int → Int → Int → Int → Sl → Int → Int → ByteArray → ByteArray → Int → Int → Int → Int → Int → Int → Int → Bool → Bool → Bool → Heap → Prop) → Prop) (f47_ : Sl → Heap → (Sl → Heap → Prop) → Prop) (f49_ : Sl → Sl → Heap → (Bool → Heap → Prop) → Prop) (f50_ : Sl → Heap → (Heap → Prop) → Prop) (f58_ : Option Addr → Sl → Heap → (Heap → Prop) → Prop) (t1 : Option Addr) (k2 m3 m4 m5 m6 m7 m8 m9 m10 m11 m12 : Int) (m13 : Sl) (m14 m15 : Int) (m16 m17 : ByteArray) (m18 m19 m20 m21 m22 m23 m24 : Int) (h : Heap) (Q : Bool → Heap → Prop) : Prop :=
  al 42 [.int .i64 m3, .int .i64 m4, .int .i64 m5, .int .i64 m6, .int .u64 m7, .int .u64 m8, .int .u64 m9, .int .u64 m10, .int .i64 m11, .int .u64 m12, .slice m13.ptr m13.len m13.cap, .int .i64 m14, .int .u64 m15, .string m16, .string m17, .int .u64 m18, .int .u64 m19, .int .u64 m20, .int .i64 m21, .int .i64 m22, .int .i64 m23, .int .i64 m24] h fun (a25 : Addr) (h26 : Heap) =>
  ld [.sl] (a25.add 10) h26 fun (v27 : Sl) =>
  f47_ v27 h26 fun (r28 : Sl) (h29 : Heap) =>
  ld [.int .i64, .int .i64, .int .i64, .int .i64, .int .u64, .int .u64, .int .u64, .int .u64, .int .i64, .int .u64, .sl, .int .i64, .int .u64, .str, .str, .int .u64, .int .u64, .int .u64, .int .i64, .int .i64, .int .i64, .int .i64] a25 h29 fun (v30 v31 v32 v33 v34 v35 v36 v37 v38 v39 : Int) (v40 : Sl) (v41 v42 : Int) (v43 v44 : ByteArray) (v45 v46 v47 v48 v49 v50 v51 : Int) =>
  al 42 [.int .i64 0, .int .i64 0, .int .i64 0, .int .i64 0, .int .u64 0, .int .u64 0, .int .u64 0, .int .u64 0, .int .i64 0, .int .u64 0, .slice none 0 0, .int .i64 0, .int .u64 0, .string (⟨#[]⟩ : ByteArray), .string (⟨#[]⟩ : ByteArray), .int .u64 0, .int .u64 0, .int .u64 0, .int .i64 0, .int .i64 0, .int .i64 0, .int .i64 0] h29 fun (a52 : Addr) (h53 : Heap) =>
  st a52 [.int .i64 v30, .int .i64 v31, .int .i64 v32, .int .i64 v33, .int .u64 v34, .int .u64 v35, .int .u64 v36, .int .u64 v37, .int .i64 v38, .int .u64 v39, .slice v40.ptr v40.len v40.cap, .int .i64 v41, .int .u64 v42, .string v43, .string v44, .int .u64 v45, .int .u64 v46, .int .u64 v47, .int .i64 v48, .int .i64 v49, .int .i64 v50, .int .i64 v51] h53 fun (h54 : Heap) =>
  st (a52.add 10) [.slice r28.ptr r28.len r28.cap] h54 fun (h55 : Heap) =>
  jn [(9, .one .addr)] (fun (h_165 : Addr) (h166 : Heap) =>
  jn [(10, .one .addr)] (fun (w399 : Addr) (h400 : Heap) =>
  jn [(11, .one .bool)] (fun (ok457 : Bool) (h458 : Heap) =>
  f50_ r28 h458 fun  (h459 : Heap) =>
  nn t1 fun (a460 : Addr) =>
  ld [.bool] (a460.add 5) h459 fun (v461 : Bool) =>
  jn [] (fun  (h467 : Heap) =>
  Q ok457 h467) (fun (j462 : Heap → Prop) =>
  brr v461
  (nn t1 fun (a463 : Addr) =>
  ld [.ptr] (a463.add 4) h459 fun (v464 : Option Addr) =>
  ld [.sl] ((h_165.add 0).add 10) h459 fun (v465 : Sl) =>
  f58_ v464 v465 h459 fun  (h466 : Heap) =>
  j462 h466)
  (j462 h459))) (fun (j401 : Bool → Heap → Prop) =>
  ld [.int .i64, .int .i64, .int .i64, .int .i64, .int .u64, .int .u64, .int .u64, .int .u64, .int .i64, .int .u64, .sl, .int .i64, .int .u64, .str, .str, .int .u64, .int .u64, .int .u64, .int .i64, .int .i64, .int .i64, .int .i64] (h_165.add 0) h400 fun (v402 v403 v404 v405 v406 v407 v408 v409 v410 v411 : Int) (v412 : Sl) (v413 v414 : Int) (v415 v416 : ByteArray) (v417 v418 v419 v420 v421 v422 v423 : Int) =>
  ld [.int .i64, .int .i64, .int .i64, .int .i64, .int .u64, .int .u64, .int .u64, .int .u64, .int .i64, .int .u64, .sl, .int .i64, .int .u64, .str, .str, .int .u64, .int .u64, .int .u64, .int .i64, .int .i64, .int .i64, .int .i64] (w399.add 0) h400 fun (v424 v425 v426 v427 v428 v429 v430 v431 v432 v433 : Int) (v434 : Sl) (v435 v436 : Int) (v437 v438 : ByteArray) (v439 v440 v441 v442 v443 v444 v445 : Int) =>
  f29_ v402 v403 v404 v405 v406 v407 v408 v409 v410 v411 v412 v413 v414 v415 v416 v417 v418 v419 v420 v421 v422 v423 v424 v425 v426 v427 v428 v429 v430 v431 v432 v433 v434 v435 v436 v437 v438 v439 v440 v441 v442 v443 v444 v445 h400 fun (r446 : Bool) (h447 : Heap) =>
  brr r446
  (ld [.bool] (h_165.add 22) h447 fun (v448 : Bool) =>
  ld [.bool] (w399.add 22) h447 fun (v449 : Bool) =>
  brr (v448 == v449)
  (ld [.bool] (h_165.add 23) h447 fun (v450 : Bool) =>
  ld [.bool] (w399.add 23) h447 fun (v451 : Bool) =>
  brr (v450 == v451)
  (ld [.bool] (h_165.add 24) h447 fun (v452 : Bool) =>
  ld [.bool] (w399.add 24) h447 fun (v453 : Bool) =>
  brr (v452 == v453)
  (ld [.sl] (a25.add 10) h447 fun (v454 : Sl) =>
  f49_ r28 v454 h447 fun (r455 : Bool) (h456 : Heap) =>
  j401 r455 h456)
  (j401 false h447))
  (j401 false h447))
  (j401 false h447))
  (j401 false h447))) (fun (j167 : Addr → Heap → Prop) =>
  (nn t1 fun (a168 : Addr) =>
  ixA 1 (a168.add 2) 2 k2 fun (a169 : Addr) =>
  ld [.ptr] a169 h166 fun (v170 : Option Addr) =>
  ld [.int .i64, .int .i64, .int .i64, .int .i64, .int .u64, .int .u64, .int .u64, .int .u64, .int .i64, .int .u64, .sl, .int .i64, .int .u64, .str, .str, .int .u64, .int .u64, .int .u64, .int .i64, .int .i64, .int .i64, .int .i64] a25 h166 fun (v171 v172 v173 v174 v175 v176 v177 v178 v179 v180 : Int) (v181 : Sl) (v182 v183 : Int) (v184 v185 : ByteArray) (v186 v187 v188 v189 v190 v191 v192 : Int) =>
  f12_ v171 v172 v173 v174 v175 v176 v177 v178 v179 v180 v181 v182 v183 v184 v185 v186 v187 v188 v189 v190 v191 v192 h166 fun (r193 r194 r195 r196 r197 r198 r199 r200 r201 r202 : Int) (r203 : Sl) (r204 r205 : Int) (r206 r207 : ByteArray) (r208 r209 r210 r211 r212 r213 r214 : Int) (h215 : Heap) =>
  cellsAre h215 a169 [.pointer v170] ∧
  f38_ v170 r193 r194 r195 r196 r197 r198 r199 r200 r201 r202 r203 r204 r205 r206 r207 r208 r209 r210 r211 r212 r213 r214 h215 fun (r216 r217 r218 r219 r220 r221 r222 r223 r224 r225 : Int) (r226 : Sl) (r227 r228 : Int) (r229 r230 : ByteArray) (r231 r232 r233 r234 r235 r236 r237 : Int) (r238 r239 r240 : Bool) (h241 : Heap) =>
  al 115 [.int .i64 0, .int .i64 0, .int .i64 0, .int .i64 0, .int .u64 0, .int .u64 0, .int .u64 0, .int .u64 0, .int .i64 0, .int .u64 0, .slice none 0 0, .int .i64 0, .int .u64 0, .string (⟨#[]⟩ : ByteArray), .string (⟨#[]⟩ : ByteArray), .int .u64 0, .int .u64 0, .int .u64 0, .int .i64 0, .int .i64 0, .int .i64 0, .int .i64 0, .bool false, .bool false, .bool false] h241 fun (a242 : Addr) (h243 : Heap) =>
  cellsAre h243 a169 [.pointer v170] ∧
  cellsAre h243 a25 [.int .i64 v171, .int .i64 v172, .int .i64 v173, .int .i64 v174, .int .u64 v175, .int .u64 v176, .int .u64 v177, .int .u64 v178, .int .i64 v179, .int .u64 v180, .slice v181.ptr v181.len v181.cap, .int .i64 v182, .int .u64 v183, .string v184, .string v185, .int .u64 v186, .int .u64 v187, .int .u64 v188, .int .i64 v189, .int .i64 v190, .int .i64 v191, .int .i64 v192] ∧
  st a242 [.int .i64 r216, .int .i64 r217, .int .i64 r218, .int .i64 r219, .int .u64 r220, .int .u64 r221, .int .u64 r222, .int .u64 r223, .int .i64 r224, .int .u64 r225, .slice r226.ptr r226.len r226.cap, .int .i64 r227, .int .u64 r228, .string r229, .string r230, .int .u64 r231, .int .u64 r232, .int .u64 r233, .int .i64 r234, .int .i64 r235, .int .i64 r236, .int .i64 r237, .bool r238, .bool r239, .bool r240] h243 fun (h244 : Heap) =>
  j167 a242 h244) ∧
  (nn t1 fun (a245 : Addr) =>
  ixA 1 (a245.add 2) 2 k2 fun (a246 : Addr) =>
  ld [.ptr] a246 h166 fun (v247 : Option Addr) =>
  ld [.int .i64, .int .i64, .int .i64, .int .i64, .int .u64, .int .u64, .int .u64, .int .u64, .int .i64, .int .u64, .sl, .int .i64, .int .u64, .str, .str, .int .u64, .int .u64, .int .u64, .int .i64, .int .i64, .int .i64, .int .i64] a25 h166 fun (v248 v249 v250 v251 v252 v253 v254 v255 v256 v257 : Int) (v258 : Sl) (v259 v260 : Int) (v261 v262 : ByteArray) (v263 v264 v265 v266 v267 v268 v269 : Int) =>
  f12_ v248 v249 v250 v251 v252 v253 v254 v255 v256 v257 v258 v259 v260 v261 v262 v263 v264 v265 v266 v267 v268 v269 h166 fun (r270 r271 r272 r273 r274 r275 r276 r277 r278 r279 : Int) (r280 : Sl) (r281 r282 : Int) (r283 r284 : ByteArray) (r285 r286 r287 r288 r289 r290 r291 : Int) (h292 : Heap) =>
  cellsAre h292 a246 [.pointer v247] ∧
  al 115 [.int .i64 0, .int .i64 0, .int .i64 0, .int .i64 0, .int .u64 0, .int .u64 0, .int .u64 0, .int .u64 0, .int .i64 0, .int .u64 0, .slice none 0 0, .int .i64 0, .int .u64 0, .string (⟨#[]⟩ : ByteArray), .string (⟨#[]⟩ : ByteArray), .int .u64 0, .int .u64 0, .int .u64 0, .int .i64 0, .int .i64 0, .int .i64 0, .int .i64 0, .bool false, .bool false, .bool false] h292 fun (a293 : Addr) (h294 : Heap) =>
  cellsAre h294 a246 [.pointer v247] ∧
  cellsAre h294 a25 [.int .i64 v248, .int .i64 v249, .int .i64 v250, .int .i64 v251, .int .u64 v252, .int .u64 v253, .int .u64 v254, .int .u64 v255, .int .i64 v256, .int .u64 v257, .slice v258.ptr v258.len v258.cap, .int .i64 v259, .int .u64 v260, .string v261, .string v262, .int .u64 v263, .int .u64 v264, .int .u64 v265, .int .i64 v266, .int .i64 v267, .int .i64 v268, .int .i64 v269] ∧
  f38_ v247 r270 r271 r272 r273 r274 r275 r276 r277 r278 r279 r280 r281 r282 r283 r284 r285 r286 r287 r288 r289 r290 r291 h294 fun (r295 r296 r297 r298 r299 r300 r301 r302 r303 r304 : Int) (r305 : Sl) (r306 r307 : Int) (r308 r309 : ByteArray) (r310 r311 r312 r313 r314 r315 r316 : Int) (r317 r318 r319 : Bool) (h320 : Heap) =>
  st a293 [.int .i64 r295, .int .i64 r296, .int .i64 r297, .int .i64 r298, .int .u64 r299, .int .u64 r300, .int .u64 r301, .int .u64 r302, .int .i64 r303, .int .u64 r304, .slice r305.ptr r305.len r305.cap, .int .i64 r306, .int .u64 r307, .string r308, .string r309, .int .u64 r310, .int .u64 r311, .int .u64 r312, .int .i64 r313, .int .i64 r314, .int .i64 r315, .int .i64 r316, .bool r317, .bool r318, .bool r319] h320 fun (h321 : Heap) =>
  j167 a293 h321) ∧
  (nn t1 fun (a322 : Addr) =>
  ixA 1 (a322.add 2) 2 k2 fun (a323 : Addr) =>
  ld [.ptr] a323 h166 fun (v324 : Option Addr) =>
  ld [.int .i64, .int .i64, .int .i64, .int .i64, .int .u64, .int .u64, .int .u64, .int .u64, .int .i64, .int .u64, .sl, .int .i64, .int .u64, .str, .str, .int .u64, .int .u64, .int .u64, .int .i64, .int .i64, .int .i64, .int .i64] a25 h166 fun (v325 v326 v327 v328 v329 v330 v331 v332 v333 v334 : Int) (v335 : Sl) (v336 v337 : Int) (v338 v339 : ByteArray) (v340 v341 v342 v343 v344 v345 v346 : Int) =>
  al 115 [.int .i64 0, .int .i64 0, .int .i64 0, .int .i64 0, .int .u64 0, .int .u64 0, .int .u64 0, .int .u64 0, .int .i64 0, .int .u64 0, .slice none 0 0, .int .i64 0, .int .u64 0, .string (⟨#[]⟩ : ByteArray), .string (⟨#[]⟩ : ByteArray), .int .u64 0, .int .u64 0, .int .u64 0, .int .i64 0, .int .i64 0, .int .i64 0, .int .i64 0, .bool false, .bool false, .bool false] h166 fun (a347 : Addr) (h348 : Heap) =>
  cellsAre h348 a323 [.pointer v324] ∧
  cellsAre h348 a25 [.int .i64 v325, .int .i64 v326, .int .i64 v327, .int .i64 v328, .int .u64 v329, .int .u64 v330, .int .u64 v331, .int .u64 v332, .int .i64 v333, .int .u64 v334, .slice v335.ptr v335.len v335.cap, .int .i64 v336, .int .u64 v337, .string v338, .string v339, .int .u64 v340, .int .u64 v341, .int .u64 v342, .int .i64 v343, .int .i64 v344, .int .i64 v345, .int .i64 v346] ∧
  f12_ v325 v326 v327 v328 v329 v330 v331 v332 v333 v334 v335 v336 v337 v338 v339 v340 v341 v342 v343 v344 v345 v346 h348 fun (r349 r350 r351 r352 r353 r354 r355 r356 r357 r358 : Int) (r359 : Sl) (r360 r361 : Int) (r362 r363 : ByteArray) (r364 r365 r366 r367 r368 r369 r370 : Int) (h371 : Heap) =>
  cellsAre h371 a323 [.pointer v324] ∧
  f38_ v324 r349 r350 r351 r352 r353 r354 r355 r356 r357 r358 r359 r360 r361 r362 r363 r364 r365 r366 r367 r368 r369 r370 h371 fun (r372 r373 r374 r375 r376 r377 r378 r379 r380 r381 : Int) (r382 : Sl) (r383 r384 : Int) (r385 r386 : ByteArray) (r387 r388 r389 r390 r391 r392 r393 : Int) (r394 r395 r396 : Bool) (h397 : Heap) =>
  st a347 [.int .i64 r372, .int .i64 r373, .int .i64 r374, .int .i64 r375, .int .u64 r376, .int .u64 r377, .int .u64 r378, .int .u64 r379, .int .i64 r380, .int .u64 r381, .slice r382.ptr r382.len r382.cap, .int .i64 r383, .int .u64 r384, .string r385, .string r386, .int .u64 r387, .int .u64 r388, .int .u64 r389, .int .i64 r390, .int .i64 r391, .int .i64 r392, .int .i64 r393, .bool r394, .bool r395, .bool r396] h397 fun (h398 : Heap) =>
  j167 a347 h398))) (fun (j56 : Addr → Heap → Prop) =>
  (nn t1 fun (a57 : Addr) =>
  ixA 1 (a57.add 0) 2 k2 fun (a58 : Addr) =>
  ld [.ptr] a58 h55 fun (v59 : Option Addr) =>
  ld [.int .i64, .int .i64, .int .i64, .int .i64, .int .u64, .int .u64, .int .u64, .int .u64, .int .i64, .int .u64, .sl, .int .i64, .int .u64, .str, .str, .int .u64, .int .u64, .int .u64, .int .i64, .int .i64, .int .i64, .int .i64] a52 h55 fun (v60 v61 v62 v63 v64 v65 v66 v67 v68 v69 : Int) (v70 : Sl) (v71 v72 : Int) (v73 v74 : ByteArray) (v75 v76 v77 v78 v79 v80 v81 : Int) =>
  f13_ v59 v60 v61 v62 v63 v64 v65 v66 v67 v68 v69 v70 v71 v72 v73 v74 v75 v76 v77 v78 v79 v80 v81 h55 fun (r82 r83 r84 r85 r86 r87 r88 r89 r90 r91 : Int) (r92 : Sl) (r93 r94 : Int) (r95 r96 : ByteArray) (r97 r98 r99 r100 r101 r102 r103 : Int) (r104 r105 r106 : Bool) (h107 : Heap) =>
  al 49 [.int .i64 0, .int .i64 0, .int .i64 0, .int .i64 0, .int .u64 0, .int .u64 0, .int .u64 0, .int .u64 0, .int .i64 0, .int .u64 0, .slice none 0 0, .int .i64 0, .int .u64 0, .string (⟨#[]⟩ : ByteArray), .string (⟨#[]⟩ : ByteArray), .int .u64 0, .int .u64 0, .int .u64 0, .int .i64 0, .int .i64 0, .int .i64 0, .int .i64 0, .bool false, .bool false, .bool false] h107 fun (a108 : Addr) (h109 : Heap) =>
  cellsAre h109 a58 [.pointer v59] ∧
  cellsAre h109 a52 [.int .i64 v60, .int .i64 v61, .int .i64 v62, .int .i64 v63, .int .u64 v64, .int .u64 v65, .int .u64 v66, .int .u64 v67, .int .i64 v68, .int .u64 v69, .slice v70.ptr v70.len v70.cap, .int .i64 v71, .int .u64 v72, .string v73, .string v74, .int .u64 v75, .int .u64 v76, .int .u64 v77, .int .i64 v78, .int .i64 v79, .int .i64 v80, .int .i64 v81] ∧
  st a108 [.int .i64 r82, .int .i64 r83, .int .i64 r84, .int .i64 r85, .int .u64 r86, .int .u64 r87, .int .u64 r88, .int .u64 r89, .int .i64 r90, .int .u64 r91, .slice r92.ptr r92.len r92.cap, .int .i64 r93, .int .u64 r94, .string r95, .string r96, .int .u64 r97, .int .u64 r98, .int .u64 r99, .int .i64 r100, .int .i64 r101, .int .i64 r102, .int .i64 r103, .bool r104, .bool r105, .bool r106] h109 fun (h110 : Heap) =>
  j56 a108 h110) ∧
  (nn t1 fun (a111 : Addr) =>
  ixA 1 (a111.add 0) 2 k2 fun (a112 : Addr) =>
  ld [.ptr] a112 h55 fun (v113 : Option Addr) =>
  ld [.int .i64, .int .i64, .int .i64, .int .i64, .int .u64, .int .u64, .int .u64, .int .u64, .int .i64, .int .u64, .sl, .int .i64, .int .u64, .str, .str, .int .u64, .int .u64, .int .u64, .int .i64, .int .i64, .int .i64, .int .i64] a52 h55 fun (v114 v115 v116 v117 v118 v119 v120 v121 v122 v123 : Int) (v124 : Sl) (v125 v126 : Int) (v127 v128 : ByteArray) (v129 v130 v131 v132 v133 v134 v135 : Int) =>
  al 49 [.int .i64 0, .int .i64 0, .int .i64 0, .int .i64 0, .int .u64 0, .int .u64 0, .int .u64 0, .int .u64 0, .int .i64 0, .int .u64 0, .slice none 0 0, .int .i64 0, .int .u64 0, .string (⟨#[]⟩ : ByteArray), .string (⟨#[]⟩ : ByteArray), .int .u64 0, .int .u64 0, .int .u64 0, .int .i64 0, .int .i64 0, .int .i64 0, .int .i64 0, .bool false, .bool false, .bool false] h55 fun (a136 : Addr) (h137 : Heap) =>
  cellsAre h137 a112 [.pointer v113] ∧
  cellsAre h137 a52 [.int .i64 v114, .int .i64 v115, .int .i64 v116, .int .i64 v117, .int .u64 v118, .int .u64 v119, .int .u64 v120, .int .u64 v121, .int .i64 v122, .int .u64 v123, .slice v124.ptr v124.len v124.cap, .int .i64 v125, .int .u64 v126, .string v127, .string v128, .int .u64 v129, .int .u64 v130, .int .u64 v131, .int .i64 v132, .int .i64 v133, .int .i64 v134, .int .i64 v135] ∧
  f13_ v113 v114 v115 v116 v117 v118 v119 v120 v121 v122 v123 v124 v125 v126 v127 v128 v129 v130 v131 v132 v133 v134 v135 h137 fun (r138 r139 r140 r141 r142 r143 r144 r145 r146 r147 : Int) (r148 : Sl) (r149 r150 : Int) (r151 r152 : ByteArray) (r153 r154 r155 r156 r157 r158 r159 : Int) (r160 r161 r162 : Bool) (h163 : Heap) =>
  st a136 [.int .i64 r138, .int .i64 r139, .int .i64 r140, .int .i64 r141, .int .u64 r142, .int .u64 r143, .int .u64 r144, .int .u64 r145, .int .i64 r146, .int .u64 r147, .slice r148.ptr r148.len r148.cap, .int .i64 r149, .int .u64 r150, .string r151, .string r152, .int .u64 r153, .int .u64 r154, .int .u64 r155, .int .i64 r156, .int .i64 r157, .int .i64 r158, .int .i64 r159, .bool r160, .bool r161, .bool r162] h163 fun (h164 : Heap) =>
  j56 a136 h164))
def F_law9_stage_hear (t1 : Option Addr) (k2 m3 m4 m5 m6 m7 m8 m9 m10 m11 m12 : Int) (m13 : Sl) (m14 m15 : Int) (m16 m17 : ByteArray) (m18 m19 m20 m21 m22 m23 m24 : Int) (h : Heap) (Q : Bool → Heap → Prop) : Prop := F_law9_stage_hear_of F_ref0_CopyMsg F_replica_Replica_Hear F_ref0_EqMsg F_ref9_Replica_Hear F_law1_Lend F_law1_Intact F_law1_Over F_law1_Book_Bytes t1 k2 m3 m4 m5 m6 m7 m8 m9 m10 m11 m12 m13 m14 m15 m16 m17 m18 m19 m20 m21 m22 m23 m24 h Q
def plan51 : Plan := .s (.r [0, 1, 5]) (.s (.r [0, 1, 5, 7]) (.s (.r [0, 1, 5, 7, 8]) (.s (.r [0, 1, 5, 7, 8]) (.s (.dj [0, 0, 1, 5, 15, 31, 0, 127, 0, 511] [[0, 1, 2, 3, 4, 5, 6, 7, 8, 9], [0, 1, 2, 3, 4, 5, 6, 8, 7, 9]] [(9, .one .addr)] [0, 1, 5, 7]) (.s (.dj [0, 0, 1, 5, 15, 31, 0, 64, 255, 0, 1023] [[0, 1, 2, 3, 4, 5, 6, 7, 8, 9, 10], [0, 1, 2, 3, 4, 5, 6, 7, 9, 8, 10], [0, 1, 2, 3, 4, 5, 6, 9, 7, 8, 10]] [(10, .one .addr)] [0, 5, 7, 9]) (.s (.rj [(11, .one .bool)] [0, 7, 9]) (.s (.r [0, 9, 11]) (.s (.s (.r [0, 9, 11, 72]) (.cj [] [11] (.d [0, 1, 3, 7, 0, 16, 48, 127] [[0, 1, 2, 3, 4, 5, 6, 7]] [11]) .z)) (.s (.r [6]) .z)))))))))
theorem F_law9_stage_hear.eq (f12_ : Int → Int → Int → Int → Int → Int → Int → Int → Int → Int → Sl → Int → Int → ByteArray → ByteArray → Int → Int → Int → Int → Int → Int → Int → Heap → (Int → Int → Int → Int → Int → Int → Int → Int → Int → Int → Sl → Int → Int → ByteArray → ByteArray → Int → Int → Int → Int → Int → Int → Int → Heap → Prop) → Prop) (f13_ : Option Addr → Int → Int → Int → Int → Int → Int → Int → Int → Int → Int → Sl → Int → Int → ByteArray → ByteArray → Int → Int → Int → Int → Int → Int → Int → Heap → (Int → Int → Int → Int → Int → Int → Int → Int → Int → Int → Sl → Int → Int → ByteArray → ByteArray → Int → Int → Int → Int → Int → Int → Int → Bool → Bool → Bool → Heap → Prop) → Prop) (f29_ : Int → Int → Int → Int → Int → Int → Int → Int → Int → Int → Sl → Int → Int → ByteArray → ByteArray → Int → Int → Int → Int → Int → Int → Int → Int → Int → Int → Int → Int → Int → Int → Int → Int → Int → Sl → Int → Int → ByteArray → ByteArray → Int → Int → Int → Int → Int → Int → Int → Heap → (Bool → Heap → Prop) → Prop) (f38_ : Option Addr → Int → Int → Int → Int → Int → Int → Int → Int → Int → Int → Sl → Int → Int → ByteArray → ByteArray → Int → Int → Int → Int → Int → Int → Int → Heap → (Int → Int → Int → Int → Int → Int → Int → Int → Int → Int → Sl → Int → Int → ByteArray → ByteArray → Int → Int → Int → Int → Int → Int → Int → Bool → Bool → Bool → Heap → Prop) → Prop) (f47_ : Sl → Heap → (Sl → Heap → Prop) → Prop) (f49_ : Sl → Sl → Heap → (Bool → Heap → Prop) → Prop) (f50_ : Sl → Heap → (Heap → Prop) → Prop) (f58_ : Option Addr → Sl → Heap → (Heap → Prop) → Prop) (t1 : Option Addr) (k2 m3 m4 m5 m6 m7 m8 m9 m10 m11 m12 : Int) (m13 : Sl) (m14 m15 : Int) (m16 m17 : ByteArray) (m18 m19 m20 m21 m22 m23 m24 : Int) (h : Heap) (K : Value → Heap → Prop) : F_law9_stage_hear_of f12_ f13_ f29_ f38_ f47_ f49_ f50_ f58_ t1 k2 m3 m4 m5 m6 m7 m8 m9 m10 m11 m12 m13 m14 m15 m16 m17 m18 m19 m20 m21 m22 m23 m24 h (fun (r0 : Bool) (h : Heap) => K (.bool r0) h) =
    den Try.prog (fn1 12 (E_ref0_CopyMsg_of f12_) (fn1 13 (E_replica_Replica_Hear_of f13_) (fn1 29 (E_ref0_EqMsg_of f29_) (fn1 38 (E_ref9_Replica_Hear_of f38_) (fn1 47 (E_law1_Lend_of f47_) (fn1 49 (E_law1_Intact_of f49_) (fn1 50 (E_law1_Over_of f50_) (fn1 58 (E_law1_Book_Bytes_of f58_) noFns)))))))) Try.f51.ntmps plan51 (bodyOf Try.f51) (args0 0 [(.pointer t1 : Value), (.int .i64 k2 : Value), (.agg #[.int .i64 m3, .int .i64 m4, .int .i64 m5, .int .i64 m6, .int .u64 m7, .int .u64 m8, .int .u64 m9, .int .u64 m10, .int .i64 m11, .int .u64 m12, .slice m13.ptr m13.len m13.cap, .int .i64 m14, .int .u64 m15, .string m16, .string m17, .int .u64 m18, .int .u64 m19, .int .u64 m20, .int .i64 m21, .int .i64 m22, .int .i64 m23, .int .i64 m24] : Value)]) h ⟨fun env h => dRes Try.prog Try.f51.results.toList env h K, fun _ _ _ => False, fun env h => dRes Try.prog Try.f51.results.toList env h K⟩ := by kernel_rfl
def E_law9_stage_hear_of (f : Option Addr → Int → Int → Int → Int → Int → Int → Int → Int → Int → Int → Int → Sl → Int → Int → ByteArray → ByteArray → Int → Int → Int → Int → Int → Int → Int → Heap → (Bool → Heap → Prop) → Prop) : List Value → Heap → (Value → Heap → Prop) → Prop
  | [v0, v1, v2], h, K => dec1 .ptr v0 fun (t1 : Option Addr) =>
  dec1 (.int .i64) v1 fun (k2 : Int) =>
  vAgg v2 fun cs2 => decs [.int .i64, .int .i64, .int .i64, .int .i64, .int .u64, .int .u64, .int .u64, .int .u64, .int .i64, .int .u64, .sl, .int .i64, .int .u64, .str, .str, .int .u64, .int .u64, .int .u64, .int .i64, .int .i64, .int .i64, .int .i64] cs2.toList fun (m3 m4 m5 m6 m7 m8 m9 m10 m11 m12 : Int) (m13 : Sl) (m14 m15 : Int) (m16 m17 : ByteArray) (m18 m19 m20 m21 m22 m23 m24 : Int) =>
  f t1 k2 m3 m4 m5 m6 m7 m8 m9 m10 m11 m12 m13 m14 m15 m16 m17 m18 m19 m20 m21 m22 m23 m24 h (fun (r0 : Bool) (h : Heap) => K (.bool r0) h)
  | _, _, _ => False
abbrev E_law9_stage_hear := E_law9_stage_hear_of F_law9_stage_hear
theorem E_law9_stage_hear.right : IsRight Try.prog 51 E_law9_stage_hear := by
  refine isRight fun vs K w hh => ?_
  match vs, hh with
  | [v0, v1, v2], hh =>
    unfold E_law9_stage_hear E_law9_stage_hear_of at hh
    replace hh := dec1_sound hh; obtain ⟨t1, rfl, hh⟩ := hh
    replace hh := dec1_sound hh; obtain ⟨k2, rfl, hh⟩ := hh
    replace hh := vAgg_sound hh; obtain ⟨cs2, rfl, hh⟩ := hh
    replace hh := decs_cons hh; obtain ⟨m3, l2_0, e2_0, hh⟩ := hh
    replace hh := decs_cons hh; obtain ⟨m4, l2_1, e2_1, hh⟩ := hh
    replace hh := decs_cons hh; obtain ⟨m5, l2_2, e2_2, hh⟩ := hh
    replace hh := decs_cons hh; obtain ⟨m6, l2_3, e2_3, hh⟩ := hh
    replace hh := decs_cons hh; obtain ⟨m7, l2_4, e2_4, hh⟩ := hh
    replace hh := decs_cons hh; obtain ⟨m8, l2_5, e2_5, hh⟩ := hh
    replace hh := decs_cons hh; obtain ⟨m9, l2_6, e2_6, hh⟩ := hh
    replace hh := decs_cons hh; obtain ⟨m10, l2_7, e2_7, hh⟩ := hh
    replace hh := decs_cons hh; obtain ⟨m11, l2_8, e2_8, hh⟩ := hh
    replace hh := decs_cons hh; obtain ⟨m12, l2_9, e2_9, hh⟩ := hh
    replace hh := decs_cons hh; obtain ⟨m13, l2_10, e2_10, hh⟩ := hh
    replace hh := decs_cons hh; obtain ⟨m14, l2_11, e2_11, hh⟩ := hh
    replace hh := decs_cons hh; obtain ⟨m15, l2_12, e2_12, hh⟩ := hh
    replace hh := decs_cons hh; obtain ⟨m16, l2_13, e2_13, hh⟩ := hh
    replace hh := decs_cons hh; obtain ⟨m17, l2_14, e2_14, hh⟩ := hh
    replace hh := decs_cons hh; obtain ⟨m18, l2_15, e2_15, hh⟩ := hh
    replace hh := decs_cons hh; obtain ⟨m19, l2_16, e2_16, hh⟩ := hh
    replace hh := decs_cons hh; obtain ⟨m20, l2_17, e2_17, hh⟩ := hh
    replace hh := decs_cons hh; obtain ⟨m21, l2_18, e2_18, hh⟩ := hh
    replace hh := decs_cons hh; obtain ⟨m22, l2_19, e2_19, hh⟩ := hh
    replace hh := decs_cons hh; obtain ⟨m23, l2_20, e2_20, hh⟩ := hh
    replace hh := decs_cons hh; obtain ⟨m24, l2_21, e2_21, hh⟩ := hh
    replace hh := decs_nil hh; obtain ⟨rfl, hh⟩ := hh
    subst e2_21
    subst e2_20
    subst e2_19
    subst e2_18
    subst e2_17
    subst e2_16
    subst e2_15
    subst e2_14
    subst e2_13
    subst e2_12
    subst e2_11
    subst e2_10
    subst e2_9
    subst e2_8
    subst e2_7
    subst e2_6
    subst e2_5
    subst e2_4
    subst e2_3
    subst e2_2
    subst e2_1
    have ec2 := toArray_eq e2_0
    subst ec2
    unfold F_law9_stage_hear at hh
    exact calls_den (fn1_right ok12 E_ref0_CopyMsg.right (fn1_right ok13 E_replica_Replica_Hear.right (fn1_right ok29 E_ref0_EqMsg.right (fn1_right ok38 E_ref9_Replica_Hear.right (fn1_right ok47 E_law1_Lend.right (fn1_right ok49 E_law1_Intact.right (fn1_right ok50 E_law1_Over.right (fn1_right ok58 E_law1_Book_Bytes.right noFns_right)))))))) plan51 _ w K Try.func51 (by kernel_rfl) (by kernel_rfl) (Eq.mp (F_law9_stage_hear.eq F_ref0_CopyMsg F_replica_Replica_Hear F_ref0_EqMsg F_ref9_Replica_Hear F_law1_Lend F_law1_Intact F_law1_Over F_law1_Book_Bytes t1 k2 m3 m4 m5 m6 m7 m8 m9 m10 m11 m12 m13 m14 m15 m16 m17 m18 m19 m20 m21 m22 m23 m24 w.heap K) hh)
theorem ok51 : okFn Try.prog 51 = true := by kernel_rfl
end Go.Proofs.Ytcbelendjpnmiaa.V
namespace Go.Proofs.Ytcbelendjpnmiaa.V
open Go Go.RowKit
set_option linter.unusedVariables false
set_option maxRecDepth 100000
def F_law9_stage_load_of (f21_ : Int → Int → Int → Sl → Int → Heap → (Option Addr → Heap → Prop) → Prop) (f47_ : Sl → Heap → (Sl → Heap → Prop) → Prop) (f49_ : Sl → Sl → Heap → (Bool → Heap → Prop) → Prop) (f50_ : Sl → Heap → (Heap → Prop) → Prop) (f71_ : Int → Int → Int → Sl → Int → Heap → (Option Addr → Heap → Prop) → Prop) (t1 : Option Addr) (k2 s3 s4 s5 : Int) (s6 : Sl) (span7 : Int) (h : Heap) (Q : Bool → Heap → Prop) : Prop :=
  al 44 [.int .u64 s3, .int .u64 s4, .int .u64 s5, .slice s6.ptr s6.len s6.cap] h fun (a8 : Addr) (h9 : Heap) =>
  ld [.sl] (a8.add 3) h9 fun (v10 : Sl) =>
  f47_ v10 h9 fun (r11 : Sl) (h12 : Heap) =>
  ld [.int .u64, .int .u64, .int .u64, .sl] a8 h12 fun (v13 v14 v15 : Int) (v16 : Sl) =>
  al 44 [.int .u64 0, .int .u64 0, .int .u64 0, .slice none 0 0] h12 fun (a17 : Addr) (h18 : Heap) =>
  st a17 [.int .u64 v13, .int .u64 v14, .int .u64 v15, .slice v16.ptr v16.len v16.cap] h18 fun (h19 : Heap) =>
  st (a17.add 3) [.slice r11.ptr r11.len r11.cap] h19 fun (h20 : Heap) =>
  ld [.int .u64, .int .u64, .int .u64, .sl] a17 h20 fun (v21 v22 v23 : Int) (v24 : Sl) =>
  nn t1 fun (a25 : Addr) =>
  f21_ v21 v22 v23 v24 span7 h20 fun (r26 : Option Addr) (h27 : Heap) =>
  ixA 1 (a25.add 0) 2 k2 fun (a28 : Addr) =>
  st a28 [.pointer r26] h27 fun (h29 : Heap) =>
  ld [.int .u64, .int .u64, .int .u64, .sl] a8 h29 fun (v30 v31 v32 : Int) (v33 : Sl) =>
  nn t1 fun (a34 : Addr) =>
  f71_ v30 v31 v32 v33 span7 h29 fun (r35 : Option Addr) (h36 : Heap) =>
  ixA 1 (a34.add 2) 2 k2 fun (a37 : Addr) =>
  st a37 [.pointer r35] h36 fun (h38 : Heap) =>
  ld [.sl] (a8.add 3) h38 fun (v39 : Sl) =>
  f49_ r11 v39 h38 fun (r40 : Bool) (h41 : Heap) =>
  f50_ r11 h41 fun  (h42 : Heap) =>
  jn [(8, .one .bool)] (fun (x47 : Bool) (h48 : Heap) =>
  Q x47 h48) (fun (j43 : Bool → Heap → Prop) =>
  brr r40
  (nn t1 fun (a44 : Addr) =>
  ixA 1 (a44.add 0) 2 k2 fun (a45 : Addr) =>
  ld [.ptr] a45 h42 fun (v46 : Option Addr) =>
  j43 (!v46.isNone) h42)
  (j43 false h42))
def F_law9_stage_load (t1 : Option Addr) (k2 s3 s4 s5 : Int) (s6 : Sl) (span7 : Int) (h : Heap) (Q : Bool → Heap → Prop) : Prop := F_law9_stage_load_of F_replica_Load F_law1_Lend F_law1_Intact F_law1_Over F_ref9_Load t1 k2 s3 s4 s5 s6 span7 h Q
def plan54 : Plan := .s (.r [0, 1, 3, 6]) (.s (.r [0, 1, 3, 6, 9]) (.s (.r [0, 1, 3, 6, 9, 10]) (.s (.r [0, 1, 3, 6, 9, 10]) (.s (.d [0, 0, 0, 0, 12, 1, 33, 127, 255] [[0, 1, 2, 3, 5, 6, 4, 7, 8]] [0, 1, 3, 6, 9]) (.s (.d [0, 0, 0, 0, 12, 1, 33, 127, 255] [[0, 1, 2, 3, 5, 6, 4, 7, 8]] [0, 1, 6, 9]) (.s (.r [0, 1, 9, 11]) (.s (.r [0, 1, 11]) (.s (.rj [(8, .one .bool)] []) .z))))))))
theorem F_law9_stage_load.eq (f21_ : Int → Int → Int → Sl → Int → Heap → (Option Addr → Heap → Prop) → Prop) (f47_ : Sl → Heap → (Sl → Heap → Prop) → Prop) (f49_ : Sl → Sl → Heap → (Bool → Heap → Prop) → Prop) (f50_ : Sl → Heap → (Heap → Prop) → Prop) (f71_ : Int → Int → Int → Sl → Int → Heap → (Option Addr → Heap → Prop) → Prop) (t1 : Option Addr) (k2 s3 s4 s5 : Int) (s6 : Sl) (span7 : Int) (h : Heap) (K : Value → Heap → Prop) : F_law9_stage_load_of f21_ f47_ f49_ f50_ f71_ t1 k2 s3 s4 s5 s6 span7 h (fun (r0 : Bool) (h : Heap) => K (.bool r0) h) =
    den Try.prog (fn1 21 (E_replica_Load_of f21_) (fn1 47 (E_law1_Lend_of f47_) (fn1 49 (E_law1_Intact_of f49_) (fn1 50 (E_law1_Over_of f50_) (fn1 71 (E_ref9_Load_of f71_) noFns))))) Try.f54.ntmps plan54 (bodyOf Try.f54) (args0 0 [(.pointer t1 : Value), (.int .i64 k2 : Value), (.agg #[.int .u64 s3, .int .u64 s4, .int .u64 s5, .slice s6.ptr s6.len s6.cap] : Value), (.int .i64 span7 : Value)]) h ⟨fun env h => dRes Try.prog Try.f54.results.toList env h K, fun _ _ _ => False, fun env h => dRes Try.prog Try.f54.results.toList env h K⟩ := by kernel_rfl
def E_law9_stage_load_of (f : Option Addr → Int → Int → Int → Int → Sl → Int → Heap → (Bool → Heap → Prop) → Prop) : List Value → Heap → (Value → Heap → Prop) → Prop
  | [v0, v1, v2, v3], h, K => dec1 .ptr v0 fun (t1 : Option Addr) =>
  dec1 (.int .i64) v1 fun (k2 : Int) =>
  vAgg v2 fun cs2 => decs [.int .u64, .int .u64, .int .u64, .sl] cs2.toList fun (s3 s4 s5 : Int) (s6 : Sl) =>
  dec1 (.int .i64) v3 fun (span7 : Int) =>
  f t1 k2 s3 s4 s5 s6 span7 h (fun (r0 : Bool) (h : Heap) => K (.bool r0) h)
  | _, _, _ => False
abbrev E_law9_stage_load := E_law9_stage_load_of F_law9_stage_load
theorem E_law9_stage_load.right : IsRight Try.prog 54 E_law9_stage_load := by
  refine isRight fun vs K w hh => ?_
  match vs, hh with
  | [v0, v1, v2, v3], hh =>
    unfold E_law9_stage_load E_law9_stage_load_of at hh
    replace hh := dec1_sound hh; obtain ⟨t1, rfl, hh⟩ := hh
    replace hh := dec1_sound hh; obtain ⟨k2, rfl, hh⟩ := hh
    replace hh := vAgg_sound hh; obtain ⟨cs2, rfl, hh⟩ := hh
    replace hh := decs_cons hh; obtain ⟨s3, l2_0, e2_0, hh⟩ := hh
    replace hh := decs_cons hh; obtain ⟨s4, l2_1, e2_1, hh⟩ := hh
    replace hh := decs_cons hh; obtain ⟨s5, l2_2, e2_2, hh⟩ := hh
    replace hh := decs_cons hh; obtain ⟨s6, l2_3, e2_3, hh⟩ := hh
    replace hh := decs_nil hh; obtain ⟨rfl, hh⟩ := hh
    subst e2_3
    subst e2_2
    subst e2_1
    have ec2 := toArray_eq e2_0
    subst ec2
    replace hh := dec1_sound hh; obtain ⟨span7, rfl, hh⟩ := hh
    unfold F_law9_stage_load at hh
    exact calls_den (fn1_right ok21 E_replica_Load.right (fn1_right ok47 E_law1_Lend.right (fn1_right ok49 E_law1_Intact.right (fn1_right ok50 E_law1_Over.right (fn1_right ok71 E_ref9_Load.right noFns_right))))) plan54 _ w K Try.func54 (by kernel_rfl) (by kernel_rfl) (Eq.mp (F_law9_stage_load.eq F_replica_Load F_law1_Lend F_law1_Intact F_law1_Over F_ref9_Load t1 k2 s3 s4 s5 s6 span7 w.heap K) hh)
theorem ok54 : okFn Try.prog 54 = true := by kernel_rfl
end Go.Proofs.Ytcbelendjpnmiaa.V
namespace Go.Proofs.Ytcbelendjpnmiaa.V
open Go Go.RowKit
set_option linter.unusedVariables false
set_option maxRecDepth 100000
def F_law9_stage_plays_of (f9_ : Int → Int → Heap → (Int → Heap → Prop) → Prop) (f11_ : Option Addr → Heap → (Heap → Prop) → Prop) (f33_ : Option Addr → Int → Sl → Heap → (Bool → Heap → Prop) → Prop) (f36_ : Option Addr → Int → Heap → (Bool → Heap → Prop) → Prop) (f40_ : Option Addr → Heap → (Int → Int → Int → Sl → Heap → Prop) → Prop) (f42_ : Option Addr → Int → Heap → (Bool → Heap → Prop) → Prop) (f51_ : Option Addr → Int → Int → Int → Int → Int → Int → Int → Int → Int → Int → Int → Sl → Int → Int → ByteArray → ByteArray → Int → Int → Int → Int → Int → Int → Int → Heap → (Bool → Heap → Prop) → Prop) (f52_ : Option Addr → Heap → (Heap → Prop) → Prop) (f53_ : Option Addr → Int → Heap → (Bool → Heap → Prop) → Prop) (f54_ : Option Addr → Int → Int → Int → Int → Sl → Int → Heap → (Bool → Heap → Prop) → Prop) (t1 : Option Addr) (o2 o3 o4 o5 o6 o7 o8 o9 o10 o11 o12 o13 o14 o15 : Int) (o16 : Sl) (o17 o18 : Int) (o19 o20 : ByteArray) (o21 o22 o23 o24 o25 o26 o27 o28 o29 o30 : Int) (o31 : Sl) (h : Heap) (Q : Bool → Heap → Prop) : Prop :=
  al 46 [.int .i64 o2, .int .i64 o3, .int .i64 o4, .int .u64 o5, .int .i64 o6, .int .i64 o7, .int .i64 o8, .int .i64 o9, .int .u64 o10, .int .u64 o11, .int .u64 o12, .int .u64 o13, .int .i64 o14, .int .u64 o15, .slice o16.ptr o16.len o16.cap, .int .i64 o17, .int .u64 o18, .string o19, .string o20, .int .u64 o21, .int .u64 o22, .int .u64 o23, .int .i64 o24, .int .i64 o25, .int .i64 o26, .int .i64 o27, .int .u64 o28, .int .u64 o29, .int .u64 o30, .slice o31.ptr o31.len o31.cap] h fun (a32 : Addr) (h33 : Heap) =>
  ld [.int .i64] (a32.add 1) h33 fun (v34 : Int) =>
  f9_ v34 2 h33 fun (r35 : Int) (h36 : Heap) =>
  ld [.int .i64] (a32.add 0) h36 fun (v37 : Int) =>
  brr (v37 == 1)
  (ld [.int .i64, .int .i64, .int .i64, .int .i64, .int .u64, .int .u64, .int .u64, .int .u64, .int .i64, .int .u64, .sl, .int .i64, .int .u64, .str, .str, .int .u64, .int .u64, .int .u64, .int .i64, .int .i64, .int .i64, .int .i64] (a32.add 4) h36 fun (v38 v39 v40 v41 v42 v43 v44 v45 v46 v47 : Int) (v48 : Sl) (v49 v50 : Int) (v51 v52 : ByteArray) (v53 v54 v55 v56 v57 v58 v59 : Int) =>
  f51_ t1 r35 v38 v39 v40 v41 v42 v43 v44 v45 v46 v47 v48 v49 v50 v51 v52 v53 v54 v55 v56 v57 v58 v59 h36 fun (r60 : Bool) (h61 : Heap) =>
  Q r60 h61)
  (jn [] (fun  (h106 : Heap) =>
  Q true h106) (fun (j62 : Heap → Prop) =>
  brr (v37 == 2)
  (nn t1 fun (a63 : Addr) =>
  ixA 1 (a63.add 0) 2 r35 fun (a64 : Addr) =>
  ld [.ptr] a64 h36 fun (v65 : Option Addr) =>
  f11_ v65 h36 fun  (h66 : Heap) =>
  nn t1 fun (a67 : Addr) =>
  ixA 1 (a67.add 2) 2 r35 fun (a68 : Addr) =>
  ld [.ptr] a68 h66 fun (v69 : Option Addr) =>
  f52_ v69 h66 fun  (h70 : Heap) =>
  j62 h70)
  (brr (v37 == 3)
  (nn t1 fun (a71 : Addr) =>
  ixA 1 (a71.add 0) 2 r35 fun (a72 : Addr) =>
  ld [.ptr] a72 h36 fun (v73 : Option Addr) =>
  ld [.int .u64] (a32.add 3) h36 fun (v74 : Int) =>
  nn t1 fun (a75 : Addr) =>
  ixA 1 (a75.add 2) 2 r35 fun (a76 : Addr) =>
  ld [.ptr] a76 h36 fun (v77 : Option Addr) =>
  ld [.int .u64] (a32.add 3) h36 fun (v78 : Int) =>
  f42_ v73 v74 h36 fun (r79 : Bool) (h80 : Heap) =>
  cellsAre h80 a76 [.pointer v77] ∧
  cellsAre h80 (a32.add 3) [.int .u64 v78] ∧
  f53_ v77 v78 h80 fun (r81 : Bool) (h82 : Heap) =>
  Q (r79 == r81) h82)
  (brr (v37 == 4)
  (f36_ t1 r35 h36 fun (r83 : Bool) (h84 : Heap) =>
  Q r83 h84)
  (brr (v37 == 5)
  (ld [.int .u64, .int .u64, .int .u64, .sl] (a32.add 26) h36 fun (v85 v86 v87 : Int) (v88 : Sl) =>
  ld [.int .i64] (a32.add 2) h36 fun (v89 : Int) =>
  f54_ t1 r35 v85 v86 v87 v88 v89 h36 fun (r90 : Bool) (h91 : Heap) =>
  Q r90 h91)
  (brr (v37 == 6)
  (ld [.sl] ((a32.add 26).add 3) h36 fun (v92 : Sl) =>
  f33_ t1 r35 v92 h36 fun (r93 : Bool) (h94 : Heap) =>
  Q r93 h94)
  (brr (v37 == 7)
  (nn t1 fun (a95 : Addr) =>
  ixA 1 (a95.add 2) 2 r35 fun (a96 : Addr) =>
  ld [.ptr] a96 h36 fun (v97 : Option Addr) =>
  ld [.int .i64] (a32.add 2) h36 fun (v98 : Int) =>
  f40_ v97 h36 fun (r99 r100 r101 : Int) (r102 : Sl) (h103 : Heap) =>
  cellsAre h103 (a32.add 2) [.int .i64 v98] ∧
  f54_ t1 r35 r99 r100 r101 r102 v98 h103 fun (r104 : Bool) (h105 : Heap) =>
  Q r104 h105)
  (j62 h36))))))))
def F_law9_stage_plays (t1 : Option Addr) (o2 o3 o4 o5 o6 o7 o8 o9 o10 o11 o12 o13 o14 o15 : Int) (o16 : Sl) (o17 o18 : Int) (o19 o20 : ByteArray) (o21 o22 o23 o24 o25 o26 o27 o28 o29 o30 : Int) (o31 : Sl) (h : Heap) (Q : Bool → Heap → Prop) : Prop := F_law9_stage_plays_of F_law9_into F_replica_Replica_Tick F_law9_stage_fresh F_law9_stage_stored F_ref9_Replica_Stored F_replica_Replica_Own F_law9_stage_hear F_ref9_Replica_Tick F_ref9_Replica_Own F_law9_stage_load t1 o2 o3 o4 o5 o6 o7 o8 o9 o10 o11 o12 o13 o14 o15 o16 o17 o18 o19 o20 o21 o22 o23 o24 o25 o26 o27 o28 o29 o30 o31 h Q
def plan34 : Plan := .s (.r [0, 3]) (.s (.r [0, 3, 5]) (.s (.s (.r [0, 3, 5, 10]) (.b (.s (.r [0, 3, 5, 10, 11]) (.c (.s (.r [4]) .z) (.s (.r [0, 3, 5, 10, 18]) (.cj [] [] (.s (.r [0, 5]) (.r [])) (.s (.r [0, 3, 5, 10, 34]) (.c (.s (.d [0, 0, 1, 5, 15, 31, 0, 64, 255, 0, 0, 512, 2560, 7680, 15872, 0, 32768, 131071, 262143, 524287] [[0, 1, 2, 3, 4, 5, 6, 7, 9, 10, 11, 12, 13, 14, 15, 16, 8, 17, 18, 19]] [4]) .z) (.s (.r [0, 3, 5, 10, 55]) (.c (.s (.r [4]) .z) (.s (.r [0, 3, 5, 10, 60]) (.c (.s (.r [4]) .z) (.s (.r [0, 3, 5, 10, 69]) (.c (.s (.r [4]) .z) (.s (.r [0, 3, 5, 77]) (.c (.s (.d [0, 0, 0, 0, 4, 20, 60, 124, 252, 0, 512, 2047, 4095] [[0, 1, 2, 3, 4, 5, 6, 7, 9, 10, 8, 11, 12]] [4]) .z) .z)))))))))))))))) (.s (.r [4]) .z)))
theorem F_law9_stage_plays.eq (f9_ : Int → Int → Heap → (Int → Heap → Prop) → Prop) (f11_ : Option Addr → Heap → (Heap → Prop) → Prop) (f33_ : Option Addr → Int → Sl → Heap → (Bool → Heap → Prop) → Prop) (f36_ : Option Addr → Int → Heap → (Bool → Heap → Prop) → Prop) (f40_ : Option Addr → Heap → (Int → Int → Int → Sl → Heap → Prop) → Prop) (f42_ : Option Addr → Int → Heap → (Bool → Heap → Prop) → Prop) (f51_ : Option Addr → Int → Int → Int → Int → Int → Int → Int → Int → Int → Int → Int → Sl → Int → Int → ByteArray → ByteArray → Int → Int → Int → Int → Int → Int → Int → Heap → (Bool → Heap → Prop) → Prop) (f52_ : Option Addr → Heap → (Heap → Prop) → Prop) (f53_ : Option Addr → Int → Heap → (Bool → Heap → Prop) → Prop) (f54_ : Option Addr → Int → Int → Int → Int → Sl → Int → Heap → (Bool → Heap → Prop) → Prop) (t1 : Option Addr) (o2 o3 o4 o5 o6 o7 o8 o9 o10 o11 o12 o13 o14 o15 : Int) (o16 : Sl) (o17 o18 : Int) (o19 o20 : ByteArray) (o21 o22 o23 o24 o25 o26 o27 o28 o29 o30 : Int) (o31 : Sl) (h : Heap) (K : Value → Heap → Prop) : F_law9_stage_plays_of f9_ f11_ f33_ f36_ f40_ f42_ f51_ f52_ f53_ f54_ t1 o2 o3 o4 o5 o6 o7 o8 o9 o10 o11 o12 o13 o14 o15 o16 o17 o18 o19 o20 o21 o22 o23 o24 o25 o26 o27 o28 o29 o30 o31 h (fun (r0 : Bool) (h : Heap) => K (.bool r0) h) =
    den Try.prog (fn1 9 (E_law9_into_of f9_) (fn1 11 (E_replica_Replica_Tick_of f11_) (fn1 33 (E_law9_stage_fresh_of f33_) (fn1 36 (E_law9_stage_stored_of f36_) (fn1 40 (E_ref9_Replica_Stored_of f40_) (fn1 42 (E_replica_Replica_Own_of f42_) (fn1 51 (E_law9_stage_hear_of f51_) (fn1 52 (E_ref9_Replica_Tick_of f52_) (fn1 53 (E_ref9_Replica_Own_of f53_) (fn1 54 (E_law9_stage_load_of f54_) noFns)))))))))) Try.f34.ntmps plan34 (bodyOf Try.f34) (args0 0 [(.pointer t1 : Value), (.agg #[.int .i64 o2, .int .i64 o3, .int .i64 o4, .int .u64 o5, .int .i64 o6, .int .i64 o7, .int .i64 o8, .int .i64 o9, .int .u64 o10, .int .u64 o11, .int .u64 o12, .int .u64 o13, .int .i64 o14, .int .u64 o15, .slice o16.ptr o16.len o16.cap, .int .i64 o17, .int .u64 o18, .string o19, .string o20, .int .u64 o21, .int .u64 o22, .int .u64 o23, .int .i64 o24, .int .i64 o25, .int .i64 o26, .int .i64 o27, .int .u64 o28, .int .u64 o29, .int .u64 o30, .slice o31.ptr o31.len o31.cap] : Value)]) h ⟨fun env h => dRes Try.prog Try.f34.results.toList env h K, fun _ _ _ => False, fun env h => dRes Try.prog Try.f34.results.toList env h K⟩ := by kernel_rfl
def E_law9_stage_plays_of (f : Option Addr → Int → Int → Int → Int → Int → Int → Int → Int → Int → Int → Int → Int → Int → Int → Sl → Int → Int → ByteArray → ByteArray → Int → Int → Int → Int → Int → Int → Int → Int → Int → Int → Sl → Heap → (Bool → Heap → Prop) → Prop) : List Value → Heap → (Value → Heap → Prop) → Prop
  | [v0, v1], h, K => dec1 .ptr v0 fun (t1 : Option Addr) =>
  vAgg v1 fun cs1 => decs [.int .i64, .int .i64, .int .i64, .int .u64, .int .i64, .int .i64, .int .i64, .int .i64, .int .u64, .int .u64, .int .u64, .int .u64, .int .i64, .int .u64, .sl, .int .i64, .int .u64, .str, .str, .int .u64, .int .u64, .int .u64, .int .i64, .int .i64, .int .i64, .int .i64, .int .u64, .int .u64, .int .u64, .sl] cs1.toList fun (o2 o3 o4 o5 o6 o7 o8 o9 o10 o11 o12 o13 o14 o15 : Int) (o16 : Sl) (o17 o18 : Int) (o19 o20 : ByteArray) (o21 o22 o23 o24 o25 o26 o27 o28 o29 o30 : Int) (o31 : Sl) =>
  f t1 o2 o3 o4 o5 o6 o7 o8 o9 o10 o11 o12 o13 o14 o15 o16 o17 o18 o19 o20 o21 o22 o23 o24 o25 o26 o27 o28 o29 o30 o31 h (fun (r0 : Bool) (h : Heap) => K (.bool r0) h)
  | _, _, _ => False
abbrev E_law9_stage_plays := E_law9_stage_plays_of F_law9_stage_plays
theorem E_law9_stage_plays.right : IsRight Try.prog 34 E_law9_stage_plays := by
  refine isRight fun vs K w hh => ?_
  match vs, hh with
  | [v0, v1], hh =>
    unfold E_law9_stage_plays E_law9_stage_plays_of at hh
    replace hh := dec1_sound hh; obtain ⟨t1, rfl, hh⟩ := hh
    replace hh := vAgg_sound hh; obtain ⟨cs1, rfl, hh⟩ := hh
    replace hh := decs_cons hh; obtain ⟨o2, l1_0, e1_0, hh⟩ := hh
    replace hh := decs_cons hh; obtain ⟨o3, l1_1, e1_1, hh⟩ := hh
    replace hh := decs_cons hh; obtain ⟨o4, l1_2, e1_2, hh⟩ := hh
    replace hh := decs_cons hh; obtain ⟨o5, l1_3, e1_3, hh⟩ := hh
    replace hh := decs_cons hh; obtain ⟨o6, l1_4, e1_4, hh⟩ := hh
    replace hh := decs_cons hh; obtain ⟨o7, l1_5, e1_5, hh⟩ := hh
    replace hh := decs_cons hh; obtain ⟨o8, l1_6, e1_6, hh⟩ := hh
    replace hh := decs_cons hh; obtain ⟨o9, l1_7, e1_7, hh⟩ := hh
    replace hh := decs_cons hh; obtain ⟨o10, l1_8, e1_8, hh⟩ := hh
    replace hh := decs_cons hh; obtain ⟨o11, l1_9, e1_9, hh⟩ := hh
    replace hh := decs_cons hh; obtain ⟨o12, l1_10, e1_10, hh⟩ := hh
    replace hh := decs_cons hh; obtain ⟨o13, l1_11, e1_11, hh⟩ := hh
    replace hh := decs_cons hh; obtain ⟨o14, l1_12, e1_12, hh⟩ := hh
    replace hh := decs_cons hh; obtain ⟨o15, l1_13, e1_13, hh⟩ := hh
    replace hh := decs_cons hh; obtain ⟨o16, l1_14, e1_14, hh⟩ := hh
    replace hh := decs_cons hh; obtain ⟨o17, l1_15, e1_15, hh⟩ := hh
    replace hh := decs_cons hh; obtain ⟨o18, l1_16, e1_16, hh⟩ := hh
    replace hh := decs_cons hh; obtain ⟨o19, l1_17, e1_17, hh⟩ := hh
    replace hh := decs_cons hh; obtain ⟨o20, l1_18, e1_18, hh⟩ := hh
    replace hh := decs_cons hh; obtain ⟨o21, l1_19, e1_19, hh⟩ := hh
    replace hh := decs_cons hh; obtain ⟨o22, l1_20, e1_20, hh⟩ := hh
    replace hh := decs_cons hh; obtain ⟨o23, l1_21, e1_21, hh⟩ := hh
    replace hh := decs_cons hh; obtain ⟨o24, l1_22, e1_22, hh⟩ := hh
    replace hh := decs_cons hh; obtain ⟨o25, l1_23, e1_23, hh⟩ := hh
    replace hh := decs_cons hh; obtain ⟨o26, l1_24, e1_24, hh⟩ := hh
    replace hh := decs_cons hh; obtain ⟨o27, l1_25, e1_25, hh⟩ := hh
    replace hh := decs_cons hh; obtain ⟨o28, l1_26, e1_26, hh⟩ := hh
    replace hh := decs_cons hh; obtain ⟨o29, l1_27, e1_27, hh⟩ := hh
    replace hh := decs_cons hh; obtain ⟨o30, l1_28, e1_28, hh⟩ := hh
    replace hh := decs_cons hh; obtain ⟨o31, l1_29, e1_29, hh⟩ := hh
    replace hh := decs_nil hh; obtain ⟨rfl, hh⟩ := hh
    subst e1_29
    subst e1_28
    subst e1_27
    subst e1_26
    subst e1_25
    subst e1_24
    subst e1_23
    subst e1_22
    subst e1_21
    subst e1_20
    subst e1_19
    subst e1_18
    subst e1_17
    subst e1_16
    subst e1_15
    subst e1_14
    subst e1_13
    subst e1_12
    subst e1_11
    subst e1_10
    subst e1_9
    subst e1_8
    subst e1_7
    subst e1_6
    subst e1_5
    subst e1_4
    subst e1_3
    subst e1_2
    subst e1_1
    have ec1 := toArray_eq e1_0
    subst ec1
    unfold F_law9_stage_plays at hh
    exact calls_den (fn1_right ok9 E_law9_into.right (fn1_right ok11 E_replica_Replica_Tick.right (fn1_right ok33 E_law9_stage_fresh.right (fn1_right ok36 E_law9_stage_stored.right (fn1_right ok40 E_ref9_Replica_Stored.right (fn1_right ok42 E_replica_Replica_Own.right (fn1_right ok51 E_law9_stage_hear.right (fn1_right ok52 E_ref9_Replica_Tick.right (fn1_right ok53 E_ref9_Replica_Own.right (fn1_right ok54 E_law9_stage_load.right noFns_right)))))))))) plan34 _ w K Try.func34 (by kernel_rfl) (by kernel_rfl) (Eq.mp (F_law9_stage_plays.eq F_law9_into F_replica_Replica_Tick F_law9_stage_fresh F_law9_stage_stored F_ref9_Replica_Stored F_replica_Replica_Own F_law9_stage_hear F_ref9_Replica_Tick F_ref9_Replica_Own F_law9_stage_load t1 o2 o3 o4 o5 o6 o7 o8 o9 o10 o11 o12 o13 o14 o15 o16 o17 o18 o19 o20 o21 o22 o23 o24 o25 o26 o27 o28 o29 o30 o31 w.heap K) hh)
theorem ok34 : okFn Try.prog 34 = true := by kernel_rfl
end Go.Proofs.Ytcbelendjpnmiaa.V
namespace Go.Proofs.Ytcbelendjpnmiaa.V
open Go Go.RowKit
set_option linter.unusedVariables false
set_option maxRecDepth 100000
def F_law9_play.l1 (f34_ : Option Addr → Int → Int → Int → Int → Int → Int → Int → Int → Int → Int → Int → Int → Int → Int → Sl → Int → Int → ByteArray → ByteArray → Int → Int → Int → Int → Int → Int → Int → Int → Int → Int → Sl → Heap → (Bool → Heap → Prop) → Prop) (f35_ : Option Addr → Heap → (Bool → Heap → Prop) → Prop) (Q : Bool → Heap → Prop) (a4 a8 : Addr) (j19 : Heap → Prop) : Int → Heap → Prop :=
  wl [(6, .one (.int .i64))] (fun (next20 : Int → Heap → Prop) (i21 : Int) (h22 : Heap) =>
  jn [(32, .one .bool)] (fun (x25 : Bool) (h26 : Heap) =>
  brr x25
  (jn [(50, .one .bool)] (fun (x66 : Bool) (h67 : Heap) =>
  brr x66
  (Q false h67)
  (next20 (IntKind.i64.wrap (i21 + 1)) h67)) (fun (j27 : Bool → Heap → Prop) =>
  ld [.sl] (a4.add 1) h26 fun (v28 : Sl) =>
  ixS 30 v28 i21 fun (a29 : Addr) =>
  ld [.int .i64, .int .i64, .int .i64, .int .u64, .int .i64, .int .i64, .int .i64, .int .i64, .int .u64, .int .u64, .int .u64, .int .u64, .int .i64, .int .u64, .sl, .int .i64, .int .u64, .str, .str, .int .u64, .int .u64, .int .u64, .int .i64, .int .i64, .int .i64, .int .i64, .int .u64, .int .u64, .int .u64, .sl] a29 h26 fun (v30 v31 v32 v33 v34 v35 v36 v37 v38 v39 v40 v41 v42 v43 : Int) (v44 : Sl) (v45 v46 : Int) (v47 v48 : ByteArray) (v49 v50 v51 v52 v53 v54 v55 v56 v57 v58 : Int) (v59 : Sl) =>
  f34_ (some a8) v30 v31 v32 v33 v34 v35 v36 v37 v38 v39 v40 v41 v42 v43 v44 v45 v46 v47 v48 v49 v50 v51 v52 v53 v54 v55 v56 v57 v58 v59 h26 fun (r60 : Bool) (h61 : Heap) =>
  brr (!r60)
  (j27 true h61)
  (nn (some a8) fun (a62 : Addr) =>
  ld [.ptr] (a62.add 4) h61 fun (v63 : Option Addr) =>
  f35_ v63 h61 fun (r64 : Bool) (h65 : Heap) =>
  j27 (!r64) h65)))
  (j19 h26)) (fun (j23 : Bool → Heap → Prop) =>
  ld [.sl] (a4.add 1) h22 fun (v24 : Sl) =>
  brr (decide (i21 < ((v24.len : Nat) : Int)))
  (j23 (decide (i21 < 500)) h22)
  (j23 false h22)))
def F_law9_play_of (f18_ : Heap → (Bool → Heap → Prop) → Prop) (f33_ : Option Addr → Int → Sl → Heap → (Bool → Heap → Prop) → Prop) (f34_ : Option Addr → Int → Int → Int → Int → Int → Int → Int → Int → Int → Int → Int → Int → Int → Int → Sl → Int → Int → ByteArray → ByteArray → Int → Int → Int → Int → Int → Int → Int → Int → Int → Int → Sl → Heap → (Bool → Heap → Prop) → Prop) (f35_ : Option Addr → Heap → (Bool → Heap → Prop) → Prop) (f36_ : Option Addr → Int → Heap → (Bool → Heap → Prop) → Prop) (s1 s2 : Sl) (mark3 : Bool) (h : Heap) (Q : Bool → Heap → Prop) : Prop :=
  al 59 [.slice s1.ptr s1.len s1.cap, .slice s2.ptr s2.len s2.cap] h fun (a4 : Addr) (h5 : Heap) =>
  al 99 [.slice none 0 0, .slice none 0 0, .int .i64 0, .slice none 0 0, .slice none 0 0, .int .i64 0, .slice none 0 0, .slice none 0 0, .int .i64 0, .slice none 0 0, .slice none 0 0, .int .i64 0, .slice none 0 0, .slice none 0 0, .int .i64 0, .slice none 0 0, .slice none 0 0, .int .i64 0, .slice none 0 0, .slice none 0 0, .int .i64 0, .slice none 0 0, .slice none 0 0, .int .i64 0, .slice none 0 0, .slice none 0 0, .int .i64 0, .slice none 0 0, .slice none 0 0, .int .i64 0, .slice none 0 0, .slice none 0 0, .int .i64 0, .slice none 0 0, .slice none 0 0, .int .i64 0, .int .i64 0, .int .i64 0, .int .i64 0] h5 fun (a6 : Addr) (h7 : Heap) =>
  al 104 [.pointer none, .pointer none, .pointer none, .pointer none, .pointer (some a6), .bool mark3] h7 fun (a8 : Addr) (h9 : Heap) =>
  jn [(23, .one .bool)] (fun (x17 : Bool) (h18 : Heap) =>
  brr x17
  (Q false h18)
  (jn [] (fun  (h68 : Heap) =>
  jn [(4, .one .bool)] (fun (x76 : Bool) (h77 : Heap) =>
  Q x76 h77) (fun (j69 : Bool → Heap → Prop) =>
  f36_ (some a8) 0 h68 fun (r70 : Bool) (h71 : Heap) =>
  brr r70
  (f36_ (some a8) 1 h71 fun (r72 : Bool) (h73 : Heap) =>
  brr r72
  (f18_ h73 fun (r74 : Bool) (h75 : Heap) =>
  j69 r74 h75)
  (j69 false h73))
  (j69 false h71))) (fun (j19 : Heap → Prop) =>
  F_law9_play.l1 f34_ f35_ Q a4 a8 j19 0 h18))) (fun (j10 : Bool → Heap → Prop) =>
  ld [.sl] (a4.add 0) h9 fun (v11 : Sl) =>
  f33_ (some a8) 0 v11 h9 fun (r12 : Bool) (h13 : Heap) =>
  brr (!r12)
  (j10 true h13)
  (ld [.sl] (a4.add 0) h13 fun (v14 : Sl) =>
  f33_ (some a8) 1 v14 h13 fun (r15 : Bool) (h16 : Heap) =>
  j10 (!r15) h16))
def F_law9_play (s1 s2 : Sl) (mark3 : Bool) (h : Heap) (Q : Bool → Heap → Prop) : Prop := F_law9_play_of F_law9_lives F_law9_stage_fresh F_law9_stage_plays F_law1_Book_Look F_law9_stage_stored s1 s2 mark3 h Q
def plan19 : Plan := .s (.r [1, 2]) (.s (.r [2, 5]) (.s (.s (.rj [(23, .one .bool)] [2, 5]) (.c (.s (.r [4]) .z) .z)) (.s (.s (.r [2, 5, 6]) (.bj [] [5] (.l [(6, .one (.int .i64))] [2, 5] (.s (.s (.rj [(32, .one .bool)] [2, 5, 6]) (.c .z .z)) (.s (.b (.s (.rj [(50, .one .bool)] [2, 5, 6]) (.c (.s (.r [4]) .z) .z))) (.r [2, 5, 6])))))) (.s (.rj [(4, .one .bool)] []) .z))))
theorem F_law9_play.eq (f18_ : Heap → (Bool → Heap → Prop) → Prop) (f33_ : Option Addr → Int → Sl → Heap → (Bool → Heap → Prop) → Prop) (f34_ : Option Addr → Int → Int → Int → Int → Int → Int → Int → Int → Int → Int → Int → Int → Int → Int → Sl → Int → Int → ByteArray → ByteArray → Int → Int → Int → Int → Int → Int → Int → Int → Int → Int → Sl → Heap → (Bool → Heap → Prop) → Prop) (f35_ : Option Addr → Heap → (Bool → Heap → Prop) → Prop) (f36_ : Option Addr → Int → Heap → (Bool → Heap → Prop) → Prop) (s1 s2 : Sl) (mark3 : Bool) (h : Heap) (K : Value → Heap → Prop) : F_law9_play_of f18_ f33_ f34_ f35_ f36_ s1 s2 mark3 h (fun (r0 : Bool) (h : Heap) => K (.bool r0) h) =
    den Try.prog (fn1 18 (E_law9_lives_of f18_) (fn1 33 (E_law9_stage_fresh_of f33_) (fn1 34 (E_law9_stage_plays_of f34_) (fn1 35 (E_law1_Book_Look_of f35_) (fn1 36 (E_law9_stage_stored_of f36_) noFns))))) Try.f19.ntmps plan19 (bodyOf Try.f19) (args0 0 [(.agg #[.slice s1.ptr s1.len s1.cap, .slice s2.ptr s2.len s2.cap] : Value), (.bool mark3 : Value)]) h ⟨fun env h => dRes Try.prog Try.f19.results.toList env h K, fun _ _ _ => False, fun env h => dRes Try.prog Try.f19.results.toList env h K⟩ := by kernel_rfl
def E_law9_play_of (f : Sl → Sl → Bool → Heap → (Bool → Heap → Prop) → Prop) : List Value → Heap → (Value → Heap → Prop) → Prop
  | [v0, v1], h, K => vAgg v0 fun cs0 => decs [.sl, .sl] cs0.toList fun (s1 s2 : Sl) =>
  dec1 .bool v1 fun (mark3 : Bool) =>
  f s1 s2 mark3 h (fun (r0 : Bool) (h : Heap) => K (.bool r0) h)
  | _, _, _ => False
abbrev E_law9_play := E_law9_play_of F_law9_play
theorem E_law9_play.right : IsRight Try.prog 19 E_law9_play := by
  refine isRight fun vs K w hh => ?_
  match vs, hh with
  | [v0, v1], hh =>
    unfold E_law9_play E_law9_play_of at hh
    replace hh := vAgg_sound hh; obtain ⟨cs0, rfl, hh⟩ := hh
    replace hh := decs_cons hh; obtain ⟨s1, l0_0, e0_0, hh⟩ := hh
    replace hh := decs_cons hh; obtain ⟨s2, l0_1, e0_1, hh⟩ := hh
    replace hh := decs_nil hh; obtain ⟨rfl, hh⟩ := hh
    subst e0_1
    have ec0 := toArray_eq e0_0
    subst ec0
    replace hh := dec1_sound hh; obtain ⟨mark3, rfl, hh⟩ := hh
    unfold F_law9_play at hh
    exact calls_den (fn1_right ok18 E_law9_lives.right (fn1_right ok33 E_law9_stage_fresh.right (fn1_right ok34 E_law9_stage_plays.right (fn1_right ok35 E_law1_Book_Look.right (fn1_right ok36 E_law9_stage_stored.right noFns_right))))) plan19 _ w K Try.func19 (by kernel_rfl) (by kernel_rfl) (Eq.mp (F_law9_play.eq F_law9_lives F_law9_stage_fresh F_law9_stage_plays F_law1_Book_Look F_law9_stage_stored s1 s2 mark3 w.heap K) hh)
theorem ok19 : okFn Try.prog 19 = true := by kernel_rfl
end Go.Proofs.Ytcbelendjpnmiaa.V
/- Two replicas in turns, beside the document's: the stage. -/
namespace Go.Proofs.Ytcbelendjpnmiaa.V
open Go Go.RowKit
set_option linter.unusedVariables false
set_option linter.unusedSimpArgs false
/-- A replica and the document's, or none yet. -/
abbrev PR := Option (Nat × Nat × RS)
def prN : PR → Option Addr | none => none | some x => some (pt x.1 0)
def prW : PR → Option Addr | none => none | some x => some (pt x.2.1 0)
def prR : PR → Res | none => emp | some x => sep (repR x.1 x.2.2) (repR x.2.1 x.2.2)
def stR (xs : List PR) (bk : Nat) (mark : Bool) : List Value := [] ++ ((xs.map prN).flatMap optc ++ ((xs.map prW).flatMap optc ++ [.pointer (some (pt bk 0)), .bool mark]))
theorem BkS.Ok.up {x : BkS} {T T' : Nat} (o : x.Ok T) (h : T ≤ T') : x.Ok T' := ⟨Nat.le_trans o.t h, o.n, o.room, o.u, fun i e hi => ⟨(o.len i e hi).1, Nat.le_trans (o.len i e hi).2 h⟩⟩
theorem bk_up {h0 h : Heap} {L : List Res} {bk T T' : Nat} (O : Sat h0 h (bkR bk T :: L)) (ht : T ≤ T') : Sat h0 h (bkR bk T' :: L) := by
  obtain ⟨x, o, O⟩ := O.book
  exact Sat.bookI (o.up ht) O
theorem stR_tail {xs : List PR} {bk : Nat} {mark : Bool} (hx : xs.length = 2) : (stR xs bk mark).drop 4 = [.pointer (some (pt bk 0)), .bool mark] := by
  match xs, hx with
  | [x, y], _ => rfl
section
variable {h0 h : Heap} {L : List Res}
theorem F_law1_Over.is {s : Sl} {zs : List UInt8} {Q : Heap → Prop} (O : Sat h0 h (lent s zs :: L)) (hs : s.len = zs.length) (hz : zs.length ≤ 4611686018427387904) (k : ∀ h', Sat h0 h' L → Q h') : F_law1_Over s h Q := by
  rw [F_law1_Over.eq_1, F_law1_Over_of.eq_1]
  refine jn_go ?_
  rw [F_law1_Over.l1.eq_1]
  exact fill_lent O hs hz fun zs' h' _ O => k h' O.drop
theorem sr_n {a bk : Nat} {mark : Bool} {xs : List PR} {k : Nat} {x : PR} {K : Addr → Option Addr → Prop} (hx : xs[k]? = some x) (hk : k < 2) (O : Sat h0 h L) (j : Nat) (hj : nth j L = own a (stR xs bk mark))
    (kk : ∀ c, (∀ {h0' h' : Heap} {L' : List Res}, Sat h0' h' L' → ∀ j', nth j' L' = own a (stR xs bk mark) → cellsAre h' c [.pointer (prN x)]) → K c (prN x)) : ixA 1 ((pt a 0).add 0) 2 k fun c => V.ld [.ptr] c h (K c) :=
  Sat.getO O j (enc := optc) (pre := []) (xs := xs.map prN) (ys := (xs.map prW).flatMap optc ++ [.pointer (some (pt bk 0)), .bool mark]) optc_len hj rfl (by omega) (by omega) (x := prN x) (by rw [Int.toNat_natCast, List.getElem?_map, hx]; rfl) id (fun _ => rfl) kk
theorem sr_w {a bk : Nat} {mark : Bool} {xs : List PR} {k : Nat} {x : PR} {K : Addr → Option Addr → Prop} (h2 : xs.length = 2) (hx : xs[k]? = some x) (hk : k < 2) (O : Sat h0 h L) (j : Nat) (hj : nth j L = own a (stR xs bk mark))
    (kk : ∀ c, (∀ {h0' h' : Heap} {L' : List Res}, Sat h0' h' L' → ∀ j', nth j' L' = own a (stR xs bk mark) → cellsAre h' c [.pointer (prW x)]) → K c (prW x)) : ixA 1 ((pt a 0).add 2) 2 k fun c => V.ld [.ptr] c h (K c) :=
  Sat.getO O j (enc := optc) (pre := (xs.map prN).flatMap optc) (xs := xs.map prW) (ys := [.pointer (some (pt bk 0)), .bool mark]) optc_len hj (by rw [flatMap_len optc_len]; simp [h2]) (by omega) (by omega) (x := prW x) (by rw [Int.toNat_natCast, List.getElem?_map, hx]; rfl) id (fun _ => rfl) kk
/-- A pair is laid into the stage. -/
theorem sr_put {a bk : Nat} {mark : Bool} {xs : List PR} {k : Nat} {p q : Nat} {r : RS} {h : Heap} (hx : xs.length = 2) (hk : k < 2) (O : Sat h0 h (own a (((xs.map prN).set k (some (pt p 0))).flatMap optc ++ (((xs.map prW).set k (some (pt q 0))).flatMap optc ++ [.pointer (some (pt bk 0)), .bool mark])) :: repR p r :: repR q r :: many prR xs :: L)) :
    Sat h0 h (own a (stR (xs.set k (some (p, q, r))) bk mark) :: many prR (xs.set k (some (p, q, r))) :: L) := by
  obtain ⟨x, hxk⟩ : ∃ x, xs[k]? = some x := ⟨_, List.getElem?_eq_getElem (by omega)⟩
  have O : Sat h0 h (own a (stR (xs.set k (some (p, q, r))) bk mark) :: repR p r :: repR q r :: many prR xs :: L) := by
    unfold stR
    rw [List.map_set, List.map_set]
    exact O
  have O2 := (O.sel [3, 0, 1, 2] 4 rfl (Nat.le_add_left _ _)).take k hxk
  have O3 := (O2.drop.sel [2, 3, 0, 1] 4 rfl (Nat.le_add_left _ _)).sepI
  have O4 := Sat.give (f := prR) (y := some (p, q, r)) (O3.sel [0, 1, 2] 3 rfl (Nat.le_add_left _ _)) (by omega)
  exact O4.swap
theorem F_law9_stage_fresh.is {a bk : Nat} {mark : Bool} {xs : List PR} {k : Nat} {v : Sl} {zs : List UInt8} {Q : Bool → Heap → Prop} (hx : xs.length = 2) (hk : k < 2) (Vv : Bytes h0 v zs) (hb : zs.length ≤ (140737488355325 : Nat)) (O : Sat h0 h (own a (stR xs bk mark) :: many prR xs :: L))
    (kk : ∀ p q h', Sat h0 h' (own a (stR (xs.set k (some (p, q, ⟨0, 0, 0, zs, 0⟩))) bk mark) :: many prR (xs.set k (some (p, q, ⟨0, 0, 0, zs, 0⟩))) :: L) → Q true h') : F_law9_stage_fresh (some (pt a 0)) k v h Q := by
  rw [F_law9_stage_fresh.eq_1, F_law9_stage_fresh_of.eq_1]
  refine F_law1_Lend.is O (Vv.kept O.kept) (by omega) fun s h O hs => ?_
  refine ⟨_, rfl, ?_⟩
  refine F_replica_New.is O (fun h O => (O.lent 0 (by simp) rfl).1) hb fun p h O => ?_
  replace O := O.sel [2, 0, 1, 3] 4 rfl (Nat.le_add_left _ _)
  simp only [selT, List.map, nth, List.drop, List.cons_append, List.nil_append] at O
  refine Sat.putO O optc_len optc_one rfl (by simp [hx]) (by omega) (by omega) (some (pt p 0)) rfl fun h O => ?_
  rw [Int.toNat_natCast] at O
  have O : Sat h0 h (own a (((xs.map prN).set k (some (pt p 0))).flatMap optc ++ ((xs.map prW).flatMap optc ++ [.pointer (some (pt bk 0)), .bool mark])) :: _) := O
  refine ⟨_, rfl, ?_⟩
  refine F_ref9_New.is O (Vv.kept O.kept) hb fun q h O => ?_
  replace O := O.sel [1, 0, 2, 3, 4] 5 rfl (Nat.le_add_left _ _)
  simp only [selT, List.map, nth, List.drop, List.cons_append, List.nil_append] at O
  rw [show (pt a 0).add 2 = pt a 2 from by rw [pt_add]]
  refine Sat.putO O optc_len optc_one (by rw [flatMap_len optc_len]; simp [hx]) (by simp [hx]) (by omega) (by omega) (some (pt q 0)) rfl fun h O => ?_
  rw [Int.toNat_natCast] at O
  refine F_law1_Intact.is O 3 (by simp) rfl (Vv.kept O.kept) (by omega) ?_
  replace O := O.sel [3, 0, 2, 1, 4] 5 rfl (Nat.le_add_left _ _)
  simp only [selT, List.map, nth, List.drop, List.cons_append, List.nil_append] at O
  refine F_law1_Over.is O hs (by omega) fun h O => ?_
  have O := sr_put hx hk O
  refine jn1 (fun z h' => z = true ∧ h' = h) (fun z h' ⟨e, e2⟩ => by subst e; subst e2; exact kk p q _ O) fun j hj => ?_
  refine brr_tt (by simp) ?_
  refine ⟨_, rfl, ?_⟩
  refine sr_n (x := some (p, q, ⟨0, 0, 0, zs, 0⟩)) (by rw [List.getElem?_set_self (by omega)]) hk O 0 rfl fun c _ => ?_
  exact hj _ _ ⟨rfl, rfl⟩
theorem F_law9_stage_load.is {a bk : Nat} {mark : Bool} {xs : List PR} {k : Nat} {e1 e2 e3 sp : Int} {v : Sl} {zs : List UInt8} {Q : Bool → Heap → Prop} (hx : xs.length = 2) (hk : k < 2) (Vv : Stays h0 L fun h => Bytes h v zs) (hb : zs.length ≤ (140737488355325 : Nat)) (O : Sat h0 h (own a (stR xs bk mark) :: many prR xs :: L))
    (kk : ∀ p q h', Sat h0 h' (own a (stR (xs.set k (some (p, q, ⟨e1, e2, e3, zs, spanOf sp⟩))) bk mark) :: many prR (xs.set k (some (p, q, ⟨e1, e2, e3, zs, spanOf sp⟩))) :: L) → Q true h') : F_law9_stage_load (some (pt a 0)) k e1 e2 e3 v sp h Q := by
  rw [F_law9_stage_load.eq_1, F_law9_stage_load_of.eq_1]
  refine O.al fun x8 h O => ?_
  repeat (first | (with_reducible refine al_id ?_); refine O.al fun _ h O => ?_ | (with_reducible refine nn_id ?_); refine ⟨_, rfl, ?_⟩ | (with_reducible refine ld_id ?_); (first | refine O.ld 0 rfl ?_); (repeat (first | (with_reducible refine ldL_n ?_) | refine ldL_s ?_ | refine ldL_c ?_)) | (with_reducible refine st_ad (by first | (with_reducible rfl) | (simp only [pt_add, Nat.zero_add, Nat.add_zero, Nat.reduceAdd]; with_reducible rfl)) ?_); (first | refine O.st 0 rfl (by simp) rfl fun h O => ?_); (dsimp only [V.put, List.set, List.length_cons, List.length_nil] at O) | (with_reducible refine ca_id ?_); (first | refine O.ca 0 1 rfl ?_ | refine O.ca 0 2 rfl ?_))
  refine F_law1_Lend.is O (Vv h O.drop.drop.drop) (by omega) fun s h O hs => ?_
  repeat (first | (with_reducible refine al_id ?_); refine O.al fun _ h O => ?_ | (with_reducible refine nn_id ?_); refine ⟨_, rfl, ?_⟩ | (with_reducible refine ld_id ?_); (first | refine O.ld 0 rfl ?_ | refine O.ld 1 rfl ?_); (repeat (first | (with_reducible refine ldL_n ?_) | refine ldL_s ?_ | refine ldL_c ?_)) | (with_reducible refine st_ad (by first | (with_reducible rfl) | (simp only [pt_add, Nat.zero_add, Nat.add_zero, Nat.reduceAdd]; with_reducible rfl)) ?_); (first | refine O.st 0 rfl (by simp) rfl fun h O => ?_ | refine O.st 1 rfl (by simp) rfl fun h O => ?_); (dsimp only [V.put, List.set, List.length_cons, List.length_nil] at O) | (with_reducible refine ca_id ?_); (first | refine O.ca 0 1 rfl ?_ | refine O.ca 0 2 rfl ?_ | refine O.ca 1 1 rfl ?_ | refine O.ca 1 2 rfl ?_))
  refine F_replica_Load.is O (fun h O => (O.lent 1 (by simp) rfl).1) hb fun p h O => ?_
  replace O := O.sel [4, 0, 1, 2, 3, 5] 6 rfl (Nat.le_add_left _ _)
  simp only [selT, List.map, nth, List.drop, List.cons_append, List.nil_append] at O
  refine Sat.putO O optc_len optc_one rfl (by simp [hx]) (by omega) (by omega) (some (pt p 0)) rfl fun h O => ?_
  rw [Int.toNat_natCast] at O
  have O : Sat h0 h (own a (((xs.map prN).set k (some (pt p 0))).flatMap optc ++ ((xs.map prW).flatMap optc ++ [.pointer (some (pt bk 0)), .bool mark])) :: _) := O
  repeat (first | (with_reducible refine al_id ?_); refine O.al fun _ h O => ?_ | (with_reducible refine nn_id ?_); refine ⟨_, rfl, ?_⟩ | (with_reducible refine ld_id ?_); (first | refine O.ld 0 rfl ?_ | refine O.ld 1 rfl ?_ | refine O.ld 2 rfl ?_ | refine O.ld 3 rfl ?_ | refine O.ld 4 rfl ?_); (repeat (first | (with_reducible refine ldL_n ?_) | refine ldL_s ?_ | refine ldL_c ?_)) | (with_reducible refine st_ad (by first | (with_reducible rfl) | (simp only [pt_add, Nat.zero_add, Nat.add_zero, Nat.reduceAdd]; with_reducible rfl)) ?_); (first | refine O.st 0 rfl (by simp) rfl fun h O => ?_ | refine O.st 1 rfl (by simp) rfl fun h O => ?_ | refine O.st 2 rfl (by simp) rfl fun h O => ?_ | refine O.st 3 rfl (by simp) rfl fun h O => ?_ | refine O.st 4 rfl (by simp) rfl fun h O => ?_); (dsimp only [V.put, List.set, List.length_cons, List.length_nil] at O) | (with_reducible refine ca_id ?_); (first | refine O.ca 0 1 rfl ?_ | refine O.ca 0 2 rfl ?_ | refine O.ca 1 1 rfl ?_ | refine O.ca 1 2 rfl ?_ | refine O.ca 2 1 rfl ?_ | refine O.ca 2 2 rfl ?_ | refine O.ca 3 1 rfl ?_ | refine O.ca 3 2 rfl ?_ | refine O.ca 4 1 rfl ?_ | refine O.ca 4 2 rfl ?_))
  refine F_ref9_Load.is O (fun h O => Vv h (O.sel [] 6 rfl (Nat.le_add_left _ _))) hb fun q h O => ?_
  replace O := O.sel [1, 0, 2, 3, 4, 5, 6] 7 rfl (Nat.le_add_left _ _)
  simp only [selT, List.map, nth, List.drop, List.cons_append, List.nil_append] at O
  rw [show (pt a 0).add 2 = pt a 2 from by rw [pt_add]]
  refine Sat.putO O optc_len optc_one (by rw [flatMap_len optc_len]; simp [hx]) (by simp [hx]) (by omega) (by omega) (some (pt q 0)) rfl fun h O => ?_
  rw [Int.toNat_natCast] at O
  repeat (first | (with_reducible refine al_id ?_); refine O.al fun _ h O => ?_ | (with_reducible refine nn_id ?_); refine ⟨_, rfl, ?_⟩ | (with_reducible refine ld_id ?_); (first | refine O.ld 0 rfl ?_ | refine O.ld 1 rfl ?_ | refine O.ld 2 rfl ?_ | refine O.ld 3 rfl ?_ | refine O.ld 4 rfl ?_ | refine O.ld 5 rfl ?_); (repeat (first | (with_reducible refine ldL_n ?_) | refine ldL_s ?_ | refine ldL_c ?_)) | (with_reducible refine st_ad (by first | (with_reducible rfl) | (simp only [pt_add, Nat.zero_add, Nat.add_zero, Nat.reduceAdd]; with_reducible rfl)) ?_); (first | refine O.st 0 rfl (by simp) rfl fun h O => ?_ | refine O.st 1 rfl (by simp) rfl fun h O => ?_ | refine O.st 2 rfl (by simp) rfl fun h O => ?_ | refine O.st 3 rfl (by simp) rfl fun h O => ?_ | refine O.st 4 rfl (by simp) rfl fun h O => ?_ | refine O.st 5 rfl (by simp) rfl fun h O => ?_); (dsimp only [V.put, List.set, List.length_cons, List.length_nil] at O) | (with_reducible refine ca_id ?_); (first | refine O.ca 0 1 rfl ?_ | refine O.ca 0 2 rfl ?_ | refine O.ca 1 1 rfl ?_ | refine O.ca 1 2 rfl ?_ | refine O.ca 2 1 rfl ?_ | refine O.ca 2 2 rfl ?_ | refine O.ca 3 1 rfl ?_ | refine O.ca 3 2 rfl ?_ | refine O.ca 4 1 rfl ?_ | refine O.ca 4 2 rfl ?_ | refine O.ca 5 1 rfl ?_ | refine O.ca 5 2 rfl ?_))
  refine F_law1_Intact.is O 4 (by simp) rfl (Vv h (O.sel [] 7 rfl (Nat.le_add_left _ _))) (by omega) ?_
  replace O := O.sel [4, 0, 2, 1, 6] 7 rfl (Nat.le_add_left _ _)
  simp only [selT, List.map, nth, List.drop, List.cons_append, List.nil_append] at O
  refine F_law1_Over.is O hs (by omega) fun h O => ?_
  have O := sr_put hx hk O
  refine jn1 (fun z h' => z = true ∧ h' = h) (fun z h' ⟨e, e2⟩ => by subst e; subst e2; exact kk p q _ O) fun j hj => ?_
  refine brr_tt (by simp) ?_
  refine ⟨_, rfl, ?_⟩
  refine sr_n (x := some (p, q, ⟨e1, e2, e3, zs, spanOf sp⟩)) (by rw [List.getElem?_set_self (by omega)]) hk O 0 rfl fun c _ => ?_
  exact hj _ _ ⟨rfl, rfl⟩
end
end Go.Proofs.Ytcbelendjpnmiaa.V
namespace Go.Proofs.Ytcbelendjpnmiaa.V
open Go Go.RowKit
set_option linter.unusedVariables false
set_option maxRecDepth 100000
def F_law9_ReplicaExact_of (f19_ : Sl → Sl → Bool → Heap → (Bool → Heap → Prop) → Prop) (s1 s2 : Sl) (h : Heap) (Q : Bool → Heap → Prop) : Prop :=
  al 59 [.slice s1.ptr s1.len s1.cap, .slice s2.ptr s2.len s2.cap] h fun (a3 : Addr) (h4 : Heap) =>
  ld [.sl, .sl] a3 h4 fun (v5 v6 : Sl) =>
  f19_ v5 v6 false h4 fun (r7 : Bool) (h8 : Heap) =>
  Q r7 h8
def F_law9_ReplicaExact (s1 s2 : Sl) (h : Heap) (Q : Bool → Heap → Prop) : Prop := F_law9_ReplicaExact_of F_law9_play s1 s2 h Q
def plan4 : Plan := .s (.r [1]) (.s (.r [2]) .z)
theorem F_law9_ReplicaExact.eq (f19_ : Sl → Sl → Bool → Heap → (Bool → Heap → Prop) → Prop) (s1 s2 : Sl) (h : Heap) (K : Value → Heap → Prop) : F_law9_ReplicaExact_of f19_ s1 s2 h (fun (r0 : Bool) (h : Heap) => K (.bool r0) h) =
    den Try.prog (fn1 19 (E_law9_play_of f19_) noFns) Try.f4.ntmps plan4 (bodyOf Try.f4) (args0 0 [(.agg #[.slice s1.ptr s1.len s1.cap, .slice s2.ptr s2.len s2.cap] : Value)]) h ⟨fun env h => dRes Try.prog Try.f4.results.toList env h K, fun _ _ _ => False, fun env h => dRes Try.prog Try.f4.results.toList env h K⟩ := by kernel_rfl
def E_law9_ReplicaExact_of (f : Sl → Sl → Heap → (Bool → Heap → Prop) → Prop) : List Value → Heap → (Value → Heap → Prop) → Prop
  | [v0], h, K => vAgg v0 fun cs0 => decs [.sl, .sl] cs0.toList fun (s1 s2 : Sl) =>
  f s1 s2 h (fun (r0 : Bool) (h : Heap) => K (.bool r0) h)
  | _, _, _ => False
abbrev E_law9_ReplicaExact := E_law9_ReplicaExact_of F_law9_ReplicaExact
theorem E_law9_ReplicaExact.at (f : Sl → Sl → Heap → (Bool → Heap → Prop) → Prop) (s1 s2 : Sl) (h : Heap) (K : Value → Heap → Prop) : E_law9_ReplicaExact_of f [.agg ([.slice s1.ptr s1.len s1.cap, .slice s2.ptr s2.len s2.cap] : List Value).toArray] h K = f s1 s2 h (fun (r0 : Bool) (h : Heap) => K (.bool r0) h) := rfl
theorem E_law9_ReplicaExact.right : IsRight Try.prog 4 E_law9_ReplicaExact := by
  refine isRight fun vs K w hh => ?_
  match vs, hh with
  | [v0], hh =>
    unfold E_law9_ReplicaExact E_law9_ReplicaExact_of at hh
    replace hh := vAgg_sound hh; obtain ⟨cs0, rfl, hh⟩ := hh
    replace hh := decs_cons hh; obtain ⟨s1, l0_0, e0_0, hh⟩ := hh
    replace hh := decs_cons hh; obtain ⟨s2, l0_1, e0_1, hh⟩ := hh
    replace hh := decs_nil hh; obtain ⟨rfl, hh⟩ := hh
    subst e0_1
    have ec0 := toArray_eq e0_0
    subst ec0
    unfold F_law9_ReplicaExact at hh
    exact calls_den (fn1_right ok19 E_law9_play.right noFns_right) plan4 _ w K Try.func4 (by kernel_rfl) (by kernel_rfl) (Eq.mp (F_law9_ReplicaExact.eq F_law9_play s1 s2 w.heap K) hh)
theorem ok4 : okFn Try.prog 4 = true := by kernel_rfl
end Go.Proofs.Ytcbelendjpnmiaa.V
/- Two replicas in turns: every answer is the document's: what ReplicaExact plays. -/
namespace Go.Proofs.Ytcbelendjpnmiaa.V
open Go Go.RowKit
set_option linter.unusedVariables false
set_option linter.unusedSimpArgs false
theorem stR_same {xs : List PR} {k p q bk : Nat} {r r' : RS} {mark : Bool} (hx : xs[k]? = some (some (p, q, r))) : stR (xs.set k (some (p, q, r'))) bk mark = stR xs bk mark := by
  unfold stR
  rw [List.map_set, List.map_set, set_same (show (xs.map prN)[k]? = some (prN (some (p, q, r'))) by rw [List.getElem?_map, hx]; rfl), set_same (show (xs.map prW)[k]? = some (prW (some (p, q, r'))) by rw [List.getElem?_map, hx]; rfl)]
section
variable {h0 h : Heap} {L : List Res}
theorem ld_mark {a bk : Nat} {mark : Bool} {xs : List PR} {K : Bool → Prop} (h2 : xs.length = 2) (O : Sat h0 h L) (j : Nat) (hj : nth j L = own a (stR xs bk mark)) (k : K mark) : ld [.bool] ((pt a 0).add 5) h K := by
  rw [show (pt a 0).add 5 = pt a 5 from by rw [pt_add]]
  refine O.ld j hj ?_
  have e : (stR xs bk mark).drop 5 = [.bool mark] := by rw [show 5 = 4 + 1 from rfl, ← List.drop_drop, stR_tail h2]; rfl
  rw [e]
  exact ldL_c (k := .bool) (ldL_n k)
theorem ld_book {a bk : Nat} {mark : Bool} {xs : List PR} {K : Option Addr → Prop} (h2 : xs.length = 2) (O : Sat h0 h L) (j : Nat) (hj : nth j L = own a (stR xs bk mark)) (k : K (some (pt bk 0))) : ld [.ptr] ((pt a 0).add 4) h K := by
  rw [show (pt a 0).add 4 = pt a 4 from by rw [pt_add]]
  refine O.ld j hj ?_
  rw [stR_tail h2]
  exact ldL_c (k := .ptr) (ldL_n k)
theorem F_law9_stage_stored.is {a bk T k p q : Nat} {mark : Bool} {xs : List PR} {r : RS} {Q : Bool → Heap → Prop} (h2 : xs.length = 2) (hk : k < 2) (hx : xs[k]? = some (some (p, q, r))) (ok : r.Ok) (hT : T ≤ 100000000) (O : Sat h0 h (own a (stR xs bk mark) :: bkR bk T :: many prR xs :: L))
    (kk : ∀ h', Sat h0 h' (own a (stR xs bk mark) :: bkR bk (T + 1) :: many prR xs :: L) → Q true h') : F_law9_stage_stored (some (pt a 0)) k h Q := by
  rw [F_law9_stage_stored.eq_1, F_law9_stage_stored_of.eq_1]
  have hv := ok.v
  have O := ((O.sel [2, 0, 1] 3 rfl (Nat.le_add_left _ _)).take k hx).sep
  have O : Sat h0 h (repR p r :: repR q r :: hole prR xs k :: own a (stR xs bk mark) :: bkR bk T :: L) := O
  have back : ∀ {h : Heap}, Sat h0 h (repR p r :: repR q r :: hole prR xs k :: own a (stR xs bk mark) :: bkR bk (T + 1) :: L) → Q true h := by
    intro h O
    have O := Sat.give (f := prR) (y := some (p, q, r)) O.sepI (List.getElem?_eq_some_iff.1 hx).1
    rw [set_same hx] at O
    exact kk _ (O.sel [1, 2, 0] 3 rfl (Nat.le_add_left _ _))
  refine ⟨_, rfl, ?_⟩
  refine sr_n hx hk O 3 rfl fun c _ => ?_
  refine F_replica_Replica_Stored.is ok O fun s h O => ?_
  refine O.al fun x11 h O => ?_
  refine O.st 0 rfl (by simp) rfl fun h O => ?_
  dsimp only [V.put, List.set] at O
  refine jn1 (fun z h' => z = true ∧ Sat h0 h' (own x11 [.int .u64 r.prom, .int .u64 r.te, .int .u64 r.ts, .slice s.ptr s.len s.cap] :: buf 1 u8 s r.val :: repR p r :: repR q r :: hole prR xs k :: own a (stR xs bk mark) :: bkR bk T :: L)) ?_ ?_
  · clear O
    rintro z h ⟨rfl, O⟩
    refine ⟨_, rfl, ?_⟩
    refine ld_mark h2 O 5 rfl ?_
    refine jn0 (fun h' => Sat h0 h' (repR p r :: repR q r :: hole prR xs k :: own a (stR xs bk mark) :: bkR bk (T + 1) :: L)) (fun h O => back O) fun j hj => ?_
    refine brr_of (fun _ => ?_) (fun _ => ?_)
    · refine ⟨_, rfl, ?_⟩
      refine ld_book h2 O 5 rfl ?_
      repeat (first | (with_reducible refine al_id ?_); refine O.al fun _ h O => ?_ | (with_reducible refine nn_id ?_); refine ⟨_, rfl, ?_⟩ | (with_reducible refine ld_id ?_); (first | refine O.ld 0 rfl ?_); (repeat (first | (with_reducible refine ldL_n ?_) | refine ldL_s ?_ | refine ldL_c ?_)) | (with_reducible refine st_ad (by first | (with_reducible rfl) | (simp only [pt_add, Nat.zero_add, Nat.add_zero, Nat.reduceAdd]; with_reducible rfl)) ?_); (first | refine O.st 0 rfl (by simp) rfl fun h O => ?_); (dsimp only [V.put, List.set, List.length_cons, List.length_nil] at O) | (with_reducible refine ca_id ?_); (first | refine O.ca 0 1 rfl ?_ | refine O.ca 0 2 rfl ?_))
      replace O := O.sel [1, 6, 2, 3, 4, 5] 7 rfl (Nat.le_add_left _ _)
      simp only [selT, List.map, nth, List.drop, List.cons_append, List.nil_append] at O
      refine F_law1_Book_Bytes.is (by omega) (by omega) O fun h O => ?_
      exact hj _ (O.sel [1, 2, 3, 4, 0] 5 rfl (Nat.le_add_left _ _))
    · have O := bk_up (O.sel [6, 2, 3, 4, 5] 7 rfl (Nat.le_add_left _ _)) (Nat.le_succ T)
      exact hj _ (O.sel [1, 2, 3, 4, 0] 5 rfl (Nat.le_add_left _ _))
  · intro j hj
    refine O.ld 0 rfl (ldL_c (ldL_c (ldL_c (ldL_s (ldL_n ?_)))))
    refine ⟨_, rfl, ?_⟩
    refine sr_w h2 hx hk O 5 rfl fun c _ => ?_
    replace O := O.sel [3, 0, 1, 2, 4, 5, 6] 7 rfl (Nat.le_add_left _ _)
    simp only [selT, List.map, nth, List.drop, List.cons_append, List.nil_append] at O
    refine F_ref9_Replica_Stored.is ok O fun s2 h O => ?_
    refine ⟨cellsAre_blk (O.blk (i := 2) (by simp) rfl).2 0 4, ?_⟩
    refine F_ref0_EqStored.is O (fun h O => (O.view 3 u8_len (by simp) rfl).1) (fun h O => (O.view 0 u8_len (by simp) rfl).1) ok.v ok.v fun h O => ?_
    refine brr_tt (by simp) ?_
    refine ⟨_, rfl, ?_⟩
    refine sr_n hx hk O 6 rfl fun c1 _ => ?_
    refine ⟨_, rfl, ?_⟩
    refine sr_w h2 hx hk O 6 rfl fun c2 hc2 => ?_
    replace O := O.sel [4, 0, 1, 2, 3, 5, 6, 7] 8 rfl (Nat.le_add_left _ _)
    simp only [selT, List.map, nth, List.drop, List.cons_append, List.nil_append] at O
    refine F_replica_Replica_Wait.is O ?_
    refine ⟨hc2 O 6 rfl, ?_⟩
    replace O := O.sel [2, 0, 1, 3, 4, 5, 6, 7] 8 rfl (Nat.le_add_left _ _)
    simp only [selT, List.map, nth, List.drop, List.cons_append, List.nil_append] at O
    refine F_ref9_Replica_Wait.is O ?_
    refine hj _ _ ⟨by simp, ?_⟩
    exact O.sel [3, 4, 1, 0, 5, 6, 7] 8 rfl (Nat.le_add_left _ _)
theorem F_law9_stage_hear.is {a bk T k p q : Nat} {mark : Bool} {xs : List PR} {r : RS} {m : Mg} {Q : Bool → Heap → Prop} (h2 : xs.length = 2) (hk : k < 2) (hx : xs[k]? = some (some (p, q, r))) (ok : r.Ok) (hT : T ≤ 100000000) (Vm : Bytes h0 m.v m.b) (hb : m.b.length ≤ (140737488355325 : Nat)) (O : Sat h0 h (own a (stR xs bk mark) :: bkR bk T :: many prR xs :: L))
    (kk : ∀ h', Sat h0 h' (own a (stR (xs.set k (some (p, q, (hearS r m).1))) bk mark) :: bkR bk (T + 1) :: many prR (xs.set k (some (p, q, (hearS r m).1))) :: L) → Q true h') : F_law9_stage_hear (some (pt a 0)) k m.kind m.frm m.to m.shard m.epoch m.te m.ts m.round m.span m.seen m.v m.peer m.num m.name m.other m.amount m.life m.id m.op m.client m.state m.bad h Q := by
  rw [F_law9_stage_hear.eq_1, F_law9_stage_hear_of.eq_1]
  have hdv := hearS_val (m := m) ok
  have O := ((O.sel [2, 0, 1] 3 rfl (Nat.le_add_left _ _)).take k hx).sep
  have O : Sat h0 h (repR p r :: repR q r :: hole prR xs k :: own a (stR xs bk mark) :: bkR bk T :: L) := O
  have back : ∀ {h : Heap}, Sat h0 h (repR p (hearS r m).1 :: repR q (hearS r m).1 :: hole prR xs k :: own a (stR xs bk mark) :: bkR bk (T + 1) :: L) → Q true h := by
    intro h O
    have O := Sat.give (f := prR) (y := some (p, q, (hearS r m).1)) O.sepI (List.getElem?_eq_some_iff.1 hx).1
    have O := O.sel [1, 2, 0] 3 rfl (Nat.le_add_left _ _)
    have O : Sat h0 h (own a (stR xs bk mark) :: bkR bk (T + 1) :: many prR (xs.set k (some (p, q, (hearS r m).1))) :: L) := O
    rw [← stR_same (r' := (hearS r m).1) hx] at O
    exact kk _ O
  refine O.al fun x25 h O => ?_
  repeat (first | (with_reducible refine al_id ?_); refine O.al fun _ h O => ?_ | (with_reducible refine nn_id ?_); refine ⟨_, rfl, ?_⟩ | (with_reducible refine ld_id ?_); (first | refine O.ld 0 rfl ?_); (repeat (first | (with_reducible refine ldL_n ?_) | refine ldL_s ?_ | refine ldL_c ?_)) | (with_reducible refine st_ad (by first | (with_reducible rfl) | (simp only [pt_add, Nat.zero_add, Nat.add_zero, Nat.reduceAdd]; with_reducible rfl)) ?_); (first | refine O.st 0 rfl (by simp) rfl fun h O => ?_); (dsimp only [V.put, List.set, List.length_cons, List.length_nil] at O) | (with_reducible refine ca_id ?_); (first | refine O.ca 0 1 rfl ?_ | refine O.ca 0 2 rfl ?_))
  refine F_law1_Lend.is O (Vm.kept O.kept) (by omega) fun s28 h O hs => ?_
  refine O.ld 1 rfl ?_
  repeat (first | (with_reducible refine ldL_n ?_) | refine ldL_s ?_ | refine ldL_c ?_)
  refine O.al fun x52 h O => ?_
  repeat (first | (with_reducible refine al_id ?_); refine O.al fun _ h O => ?_ | (with_reducible refine nn_id ?_); refine ⟨_, rfl, ?_⟩ | (with_reducible refine ld_id ?_); (first | refine O.ld 0 rfl ?_); (repeat (first | (with_reducible refine ldL_n ?_) | refine ldL_s ?_ | refine ldL_c ?_)) | (with_reducible refine st_ad (by first | (with_reducible rfl) | (simp only [pt_add, Nat.zero_add, Nat.add_zero, Nat.reduceAdd]; with_reducible rfl)) ?_); (first | refine O.st 0 rfl (by simp) rfl fun h O => ?_); (dsimp only [V.put, List.set, List.length_cons, List.length_nil] at O) | (with_reducible refine ca_id ?_); (first | refine O.ca 0 1 rfl ?_ | refine O.ca 0 2 rfl ?_))
  generalize hd : (hearS r m).2 = d at hdv
  have O : Sat h0 h (own x52 (mgC { m with v := s28 }) :: lent s28 m.b :: own x25 (mgC m) :: repR p r :: repR q r :: hole prR xs k :: own a (stR xs bk mark) :: bkR bk T :: L) := O
  refine jn1 (fun f h' => ∃ x s, f = pt x 0 ∧ Sat h0 h' (own x (hdC d s) :: buf 1 u8 s d.val :: repR p (hearS r m).1 :: lent s28 m.b :: own x25 (mgC m) :: repR q r :: hole prR xs k :: own a (stR xs bk mark) :: bkR bk T :: L)) ?_ ?_
  case refine_2 =>
    subst hd
    intro j hj
    refine ⟨?_, ?_⟩
    · refine ⟨_, rfl, ?_⟩
      refine sr_n hx hk O 6 rfl fun c hc => ?_
      refine O.ld 0 rfl ?_
      repeat (first | (with_reducible refine ldL_n ?_) | refine ldL_s ?_ | refine ldL_c ?_)
      replace O := O.sel [3, 0, 1, 2, 4, 5, 6, 7] 8 rfl (Nat.le_add_left _ _)
      simp only [selT, List.map, nth, List.drop, List.cons_append, List.nil_append] at O
      refine F_replica_Replica_Hear.is (m := { m with v := s28 }) ok (fun h O => (O.lent 1 (by simp) rfl).1) hb O fun s h O => ?_
      refine O.al fun x108 h O => ?_
      refine ⟨hc O 8 rfl, cellsAre_blk (O.blk (i := 3) (by simp) rfl).2 0 22, ?_⟩
      refine O.st 0 rfl (by simp) rfl fun h O => ?_
      dsimp only [V.put, List.set] at O
      exact hj _ _ ⟨x108, s, rfl, O.sel [0, 1, 2, 4, 5, 6, 7, 8, 9] 10 rfl (Nat.le_add_left _ _)⟩
    · refine ⟨_, rfl, ?_⟩
      refine sr_n hx hk O 6 rfl fun c hc => ?_
      refine O.ld 0 rfl ?_
      repeat (first | (with_reducible refine ldL_n ?_) | refine ldL_s ?_ | refine ldL_c ?_)
      refine O.al fun x108 h O => ?_
      refine ⟨hc O 7 rfl, cellsAre_blk (O.blk (i := 1) (by simp) rfl).2 0 22, ?_⟩
      replace O := O.sel [4, 0, 1, 2, 3, 5, 6, 7, 8] 9 rfl (Nat.le_add_left _ _)
      simp only [selT, List.map, nth, List.drop, List.cons_append, List.nil_append] at O
      refine F_replica_Replica_Hear.is (m := { m with v := s28 }) ok (fun h O => (O.lent 2 (by simp) rfl).1) hb O fun s h O => ?_
      replace O := O.sel [2, 0, 1, 3, 4, 5, 6, 7, 8, 9] 10 rfl (Nat.le_add_left _ _)
      simp only [selT, List.map, nth, List.drop, List.cons_append, List.nil_append] at O
      refine O.st 0 rfl (by simp) rfl fun h O => ?_
      dsimp only [V.put, List.set] at O
      exact hj _ _ ⟨x108, s, rfl, O.sel [0, 1, 2, 4, 5, 6, 7, 8, 9] 10 rfl (Nat.le_add_left _ _)⟩
  clear O
  rintro f h ⟨x, s, rfl, O⟩
  refine jn1 (fun f h' => ∃ y u, f = pt y 0 ∧ Sat h0 h' (own y (hdC d u) :: buf 1 u8 u d.val :: own x (hdC d s) :: buf 1 u8 s d.val :: lent s28 m.b :: own x25 (mgC m) :: repR p (hearS r m).1 :: repR q (hearS r m).1 :: hole prR xs k :: own a (stR xs bk mark) :: bkR bk T :: L)) ?_ ?_
  case refine_2 =>
    subst hd
    intro j hj
    -- x, buf s, repR p, lent, x25, repR q, hole, a, bk
    refine ⟨?_, ?_, ?_⟩
    · refine ⟨_, rfl, ?_⟩
      refine sr_w h2 hx hk O 7 rfl fun c hc => ?_
      refine O.ld 4 rfl ?_
      repeat (first | (with_reducible refine ldL_n ?_) | refine ldL_s ?_ | refine ldL_c ?_)
      refine F_ref0_CopyMsg.is (m := m) O (fun h O => Vm.kept O.kept) hb fun sc h O => ?_
      refine ⟨hc O 8 rfl, ?_⟩
      replace O := O.sel [6, 0, 1, 2, 3, 4, 5, 7, 8, 9] 10 rfl (Nat.le_add_left _ _)
      simp only [selT, List.map, nth, List.drop, List.cons_append, List.nil_append] at O
      refine F_ref9_Replica_Hear.is (m := { m with v := sc }) ok (fun h O => (O.view 0 u8_len (by simp) rfl).1) hb O fun u h O => ?_
      refine O.al fun y h O => ?_
      refine ⟨hc O 10 rfl, cellsAre_blk (O.blk (i := 8) (by simp) rfl).2 0 22, ?_⟩
      refine O.st 0 rfl (by simp) rfl fun h O => ?_
      dsimp only [V.put, List.set] at O
      exact hj _ _ ⟨y, u, rfl, O.sel [0, 1, 4, 5, 7, 8, 6, 2, 9, 10, 11] 12 rfl (Nat.le_add_left _ _)⟩
    · refine ⟨_, rfl, ?_⟩
      refine sr_w h2 hx hk O 7 rfl fun c hc => ?_
      refine O.ld 4 rfl ?_
      repeat (first | (with_reducible refine ldL_n ?_) | refine ldL_s ?_ | refine ldL_c ?_)
      refine F_ref0_CopyMsg.is (m := m) O (fun h O => Vm.kept O.kept) hb fun sc h O => ?_
      refine ⟨hc O 8 rfl, ?_⟩
      refine O.al fun y h O => ?_
      refine ⟨hc O 9 rfl, cellsAre_blk (O.blk (i := 6) (by simp) rfl).2 0 22, ?_⟩
      replace O := O.sel [7, 1, 0, 2, 3, 4, 5, 6, 8, 9, 10] 11 rfl (Nat.le_add_left _ _)
      simp only [selT, List.map, nth, List.drop, List.cons_append, List.nil_append] at O
      refine F_ref9_Replica_Hear.is (m := { m with v := sc }) ok (fun h O => (O.view 0 u8_len (by simp) rfl).1) hb O fun u h O => ?_
      replace O := O.sel [3, 0, 1, 2, 4, 5, 6, 7, 8, 9, 10, 11] 12 rfl (Nat.le_add_left _ _)
      simp only [selT, List.map, nth, List.drop, List.cons_append, List.nil_append] at O
      refine O.st 0 rfl (by simp) rfl fun h O => ?_
      dsimp only [V.put, List.set] at O
      exact hj _ _ ⟨y, u, rfl, O.sel [0, 1, 4, 5, 7, 8, 6, 2, 9, 10, 11] 12 rfl (Nat.le_add_left _ _)⟩
    · refine ⟨_, rfl, ?_⟩
      refine sr_w h2 hx hk O 7 rfl fun c hc => ?_
      refine O.ld 4 rfl ?_
      repeat (first | (with_reducible refine ldL_n ?_) | refine ldL_s ?_ | refine ldL_c ?_)
      refine O.al fun y h O => ?_
      refine ⟨hc O 8 rfl, cellsAre_blk (O.blk (i := 5) (by simp) rfl).2 0 22, ?_⟩
      refine F_ref0_CopyMsg.is (m := m) O (fun h O => Vm.kept O.kept) hb fun sc h O => ?_
      refine ⟨hc O 9 rfl, ?_⟩
      replace O := O.sel [7, 0, 1, 2, 3, 4, 5, 6, 8, 9, 10] 11 rfl (Nat.le_add_left _ _)
      simp only [selT, List.map, nth, List.drop, List.cons_append, List.nil_append] at O
      refine F_ref9_Replica_Hear.is (m := { m with v := sc }) ok (fun h O => (O.view 0 u8_len (by simp) rfl).1) hb O fun u h O => ?_
      replace O := O.sel [3, 0, 1, 2, 4, 5, 6, 7, 8, 9, 10, 11] 12 rfl (Nat.le_add_left _ _)
      simp only [selT, List.map, nth, List.drop, List.cons_append, List.nil_append] at O
      refine O.st 0 rfl (by simp) rfl fun h O => ?_
      dsimp only [V.put, List.set] at O
      exact hj _ _ ⟨y, u, rfl, O.sel [0, 1, 4, 5, 7, 8, 6, 2, 9, 10, 11] 12 rfl (Nat.le_add_left _ _)⟩
  clear O
  rintro f h ⟨y, u, rfl, O⟩
  -- y, buf u, x, buf s, lent, x25, repR p, repR q, hole, a, bk
  refine jn1 (fun z h' => z = true ∧ Sat h0 h' (lent s28 m.b :: own x (hdC d s) :: buf 1 u8 s d.val :: repR p (hearS r m).1 :: repR q (hearS r m).1 :: hole prR xs k :: own a (stR xs bk mark) :: bkR bk T :: L)) ?_ ?_
  case refine_2 =>
    intro j hj
    repeat (first | (with_reducible refine al_id ?_); refine O.al fun _ h O => ?_ | (with_reducible refine nn_id ?_); refine ⟨_, rfl, ?_⟩ | (with_reducible refine ld_id ?_); (first | refine O.ld 0 rfl ?_ | refine O.ld 1 rfl ?_ | refine O.ld 2 rfl ?_ | refine O.ld 3 rfl ?_ | refine O.ld 4 rfl ?_ | refine O.ld 5 rfl ?_); (repeat (first | (with_reducible refine ldL_n ?_) | refine ldL_s ?_ | refine ldL_c ?_)) | (with_reducible refine st_ad (by first | (with_reducible rfl) | (simp only [pt_add, Nat.zero_add, Nat.add_zero, Nat.reduceAdd]; with_reducible rfl)) ?_); (first | refine O.st 0 rfl (by simp) rfl fun h O => ?_ | refine O.st 1 rfl (by simp) rfl fun h O => ?_ | refine O.st 2 rfl (by simp) rfl fun h O => ?_ | refine O.st 3 rfl (by simp) rfl fun h O => ?_ | refine O.st 4 rfl (by simp) rfl fun h O => ?_ | refine O.st 5 rfl (by simp) rfl fun h O => ?_); (dsimp only [V.put, List.set, List.length_cons, List.length_nil] at O) | (with_reducible refine ca_id ?_); (first | refine O.ca 0 1 rfl ?_ | refine O.ca 0 2 rfl ?_ | refine O.ca 1 1 rfl ?_ | refine O.ca 1 2 rfl ?_ | refine O.ca 2 1 rfl ?_ | refine O.ca 2 2 rfl ?_ | refine O.ca 3 1 rfl ?_ | refine O.ca 3 2 rfl ?_ | refine O.ca 4 1 rfl ?_ | refine O.ca 4 2 rfl ?_ | refine O.ca 5 1 rfl ?_ | refine O.ca 5 2 rfl ?_))
    refine F_ref0_EqMsg.is (m := hdM d s) (t := u) O (fun h O => (O.view 3 u8_len (by simp) rfl).1) (fun h O => (O.view 1 u8_len (by simp) rfl).1) hdv fun h O => ?_
    refine brr_tt rfl ?_
    repeat (first | (with_reducible refine al_id ?_); refine O.al fun _ h O => ?_ | (with_reducible refine nn_id ?_); refine ⟨_, rfl, ?_⟩ | (with_reducible refine ld_id ?_); (first | refine O.ld 0 rfl ?_ | refine O.ld 1 rfl ?_ | refine O.ld 2 rfl ?_ | refine O.ld 3 rfl ?_ | refine O.ld 4 rfl ?_ | refine O.ld 5 rfl ?_); (repeat (first | (with_reducible refine ldL_n ?_) | refine ldL_s ?_ | refine ldL_c ?_)) | (with_reducible refine st_ad (by first | (with_reducible rfl) | (simp only [pt_add, Nat.zero_add, Nat.add_zero, Nat.reduceAdd]; with_reducible rfl)) ?_); (first | refine O.st 0 rfl (by simp) rfl fun h O => ?_ | refine O.st 1 rfl (by simp) rfl fun h O => ?_ | refine O.st 2 rfl (by simp) rfl fun h O => ?_ | refine O.st 3 rfl (by simp) rfl fun h O => ?_ | refine O.st 4 rfl (by simp) rfl fun h O => ?_ | refine O.st 5 rfl (by simp) rfl fun h O => ?_); (dsimp only [V.put, List.set, List.length_cons, List.length_nil] at O) | (with_reducible refine ca_id ?_); (first | refine O.ca 0 1 rfl ?_ | refine O.ca 0 2 rfl ?_ | refine O.ca 1 1 rfl ?_ | refine O.ca 1 2 rfl ?_ | refine O.ca 2 1 rfl ?_ | refine O.ca 2 2 rfl ?_ | refine O.ca 3 1 rfl ?_ | refine O.ca 3 2 rfl ?_ | refine O.ca 4 1 rfl ?_ | refine O.ca 4 2 rfl ?_ | refine O.ca 5 1 rfl ?_ | refine O.ca 5 2 rfl ?_))
    refine brr_tt (by simp) ?_
    repeat (first | (with_reducible refine al_id ?_); refine O.al fun _ h O => ?_ | (with_reducible refine nn_id ?_); refine ⟨_, rfl, ?_⟩ | (with_reducible refine ld_id ?_); (first | refine O.ld 0 rfl ?_ | refine O.ld 1 rfl ?_ | refine O.ld 2 rfl ?_ | refine O.ld 3 rfl ?_ | refine O.ld 4 rfl ?_ | refine O.ld 5 rfl ?_); (repeat (first | (with_reducible refine ldL_n ?_) | refine ldL_s ?_ | refine ldL_c ?_)) | (with_reducible refine st_ad (by first | (with_reducible rfl) | (simp only [pt_add, Nat.zero_add, Nat.add_zero, Nat.reduceAdd]; with_reducible rfl)) ?_); (first | refine O.st 0 rfl (by simp) rfl fun h O => ?_ | refine O.st 1 rfl (by simp) rfl fun h O => ?_ | refine O.st 2 rfl (by simp) rfl fun h O => ?_ | refine O.st 3 rfl (by simp) rfl fun h O => ?_ | refine O.st 4 rfl (by simp) rfl fun h O => ?_ | refine O.st 5 rfl (by simp) rfl fun h O => ?_); (dsimp only [V.put, List.set, List.length_cons, List.length_nil] at O) | (with_reducible refine ca_id ?_); (first | refine O.ca 0 1 rfl ?_ | refine O.ca 0 2 rfl ?_ | refine O.ca 1 1 rfl ?_ | refine O.ca 1 2 rfl ?_ | refine O.ca 2 1 rfl ?_ | refine O.ca 2 2 rfl ?_ | refine O.ca 3 1 rfl ?_ | refine O.ca 3 2 rfl ?_ | refine O.ca 4 1 rfl ?_ | refine O.ca 4 2 rfl ?_ | refine O.ca 5 1 rfl ?_ | refine O.ca 5 2 rfl ?_))
    refine brr_tt (by simp) ?_
    repeat (first | (with_reducible refine al_id ?_); refine O.al fun _ h O => ?_ | (with_reducible refine nn_id ?_); refine ⟨_, rfl, ?_⟩ | (with_reducible refine ld_id ?_); (first | refine O.ld 0 rfl ?_ | refine O.ld 1 rfl ?_ | refine O.ld 2 rfl ?_ | refine O.ld 3 rfl ?_ | refine O.ld 4 rfl ?_ | refine O.ld 5 rfl ?_); (repeat (first | (with_reducible refine ldL_n ?_) | refine ldL_s ?_ | refine ldL_c ?_)) | (with_reducible refine st_ad (by first | (with_reducible rfl) | (simp only [pt_add, Nat.zero_add, Nat.add_zero, Nat.reduceAdd]; with_reducible rfl)) ?_); (first | refine O.st 0 rfl (by simp) rfl fun h O => ?_ | refine O.st 1 rfl (by simp) rfl fun h O => ?_ | refine O.st 2 rfl (by simp) rfl fun h O => ?_ | refine O.st 3 rfl (by simp) rfl fun h O => ?_ | refine O.st 4 rfl (by simp) rfl fun h O => ?_ | refine O.st 5 rfl (by simp) rfl fun h O => ?_); (dsimp only [V.put, List.set, List.length_cons, List.length_nil] at O) | (with_reducible refine ca_id ?_); (first | refine O.ca 0 1 rfl ?_ | refine O.ca 0 2 rfl ?_ | refine O.ca 1 1 rfl ?_ | refine O.ca 1 2 rfl ?_ | refine O.ca 2 1 rfl ?_ | refine O.ca 2 2 rfl ?_ | refine O.ca 3 1 rfl ?_ | refine O.ca 3 2 rfl ?_ | refine O.ca 4 1 rfl ?_ | refine O.ca 4 2 rfl ?_ | refine O.ca 5 1 rfl ?_ | refine O.ca 5 2 rfl ?_))
    refine brr_tt (by simp) ?_
    repeat (first | (with_reducible refine al_id ?_); refine O.al fun _ h O => ?_ | (with_reducible refine nn_id ?_); refine ⟨_, rfl, ?_⟩ | (with_reducible refine ld_id ?_); (first | refine O.ld 0 rfl ?_ | refine O.ld 1 rfl ?_ | refine O.ld 2 rfl ?_ | refine O.ld 3 rfl ?_ | refine O.ld 4 rfl ?_ | refine O.ld 5 rfl ?_); (repeat (first | (with_reducible refine ldL_n ?_) | refine ldL_s ?_ | refine ldL_c ?_)) | (with_reducible refine st_ad (by first | (with_reducible rfl) | (simp only [pt_add, Nat.zero_add, Nat.add_zero, Nat.reduceAdd]; with_reducible rfl)) ?_); (first | refine O.st 0 rfl (by simp) rfl fun h O => ?_ | refine O.st 1 rfl (by simp) rfl fun h O => ?_ | refine O.st 2 rfl (by simp) rfl fun h O => ?_ | refine O.st 3 rfl (by simp) rfl fun h O => ?_ | refine O.st 4 rfl (by simp) rfl fun h O => ?_ | refine O.st 5 rfl (by simp) rfl fun h O => ?_); (dsimp only [V.put, List.set, List.length_cons, List.length_nil] at O) | (with_reducible refine ca_id ?_); (first | refine O.ca 0 1 rfl ?_ | refine O.ca 0 2 rfl ?_ | refine O.ca 1 1 rfl ?_ | refine O.ca 1 2 rfl ?_ | refine O.ca 2 1 rfl ?_ | refine O.ca 2 2 rfl ?_ | refine O.ca 3 1 rfl ?_ | refine O.ca 3 2 rfl ?_ | refine O.ca 4 1 rfl ?_ | refine O.ca 4 2 rfl ?_ | refine O.ca 5 1 rfl ?_ | refine O.ca 5 2 rfl ?_))
    refine F_law1_Intact.is O 4 (by simp) rfl (Vm.kept O.kept) (by omega) ?_
    exact hj _ _ ⟨by simp, O.sel [4, 2, 3, 6, 7, 8, 9, 10] 11 rfl (Nat.le_add_left _ _)⟩
  clear O
  rintro z h ⟨rfl, O⟩
  refine F_law1_Over.is O hs (by omega) fun h O => ?_
  refine ⟨_, rfl, ?_⟩
  refine ld_mark h2 O 5 rfl ?_
  refine jn0 (fun h' => Sat h0 h' (repR p (hearS r m).1 :: repR q (hearS r m).1 :: hole prR xs k :: own a (stR xs bk mark) :: bkR bk (T + 1) :: L)) (fun h O => back O) fun j hj => ?_
  refine brr_of (fun _ => ?_) (fun _ => ?_)
  · refine ⟨_, rfl, ?_⟩
    refine ld_book h2 O 5 rfl ?_
    repeat (first | (with_reducible refine al_id ?_); refine O.al fun _ h O => ?_ | (with_reducible refine nn_id ?_); refine ⟨_, rfl, ?_⟩ | (with_reducible refine ld_id ?_); (first | refine O.ld 0 rfl ?_); (repeat (first | (with_reducible refine ldL_n ?_) | refine ldL_s ?_ | refine ldL_c ?_)) | (with_reducible refine st_ad (by first | (with_reducible rfl) | (simp only [pt_add, Nat.zero_add, Nat.add_zero, Nat.reduceAdd]; with_reducible rfl)) ?_); (first | refine O.st 0 rfl (by simp) rfl fun h O => ?_); (dsimp only [V.put, List.set, List.length_cons, List.length_nil] at O) | (with_reducible refine ca_id ?_); (first | refine O.ca 0 1 rfl ?_ | refine O.ca 0 2 rfl ?_))
    replace O := O.sel [1, 6, 2, 3, 4, 5] 7 rfl (Nat.le_add_left _ _)
    simp only [selT, List.map, nth, List.drop, List.cons_append, List.nil_append] at O
    refine F_law1_Book_Bytes.is (by omega) (by omega) O fun h O => ?_
    exact hj _ (O.sel [1, 2, 3, 4, 0] 5 rfl (Nat.le_add_left _ _))
  · have O := bk_up (O.sel [6, 2, 3, 4, 5] 7 rfl (Nat.le_add_left _ _)) (Nat.le_succ T)
    exact hj _ (O.sel [1, 2, 3, 4, 0] 5 rfl (Nat.le_add_left _ _))
end
end Go.Proofs.Ytcbelendjpnmiaa.V
