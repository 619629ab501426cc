import Derived.Test.YtompmkmbppcadaaDoorZCodeReads1
import Derived.Test.YtompmkmbppcadaaDoorProg
namespace Go.Proofs.YtompmkmbppcadaaDoor.V
open Go Go.RowKit
set_option linter.unusedVariables false
set_option maxRecDepth 100000
/-! (*tally/tallyref1.Eye).U8 -/
def F_ref1_Eye_U8_of (f58_ : Option Addr → Int → Heap → (Int → Heap → Prop) → Prop) (e1 : Option Addr) (h : Heap) (Q : Int → Heap → Prop) : Prop :=
  f58_ e1 1 h fun (r2 : Int) (h3 : Heap) =>
  Q (IntKind.u8.wrap r2) h3
def F_ref1_Eye_U8 (e1 : Option Addr) (h : Heap) (Q : Int → Heap → Prop) : Prop := F_ref1_Eye_U8_of F_ref1_Eye_fixed e1 h Q
def plan39 : Plan := .s (.r [0]) (.s (.r [2]) .z)
theorem F_ref1_Eye_U8.eq (f58_ : Option Addr → Int → Heap → (Int → Heap → Prop) → Prop) (e1 : Option Addr) (h : Heap) (K : Value → Heap → Prop) : F_ref1_Eye_U8_of f58_ e1 h (fun (r0 : Int) (h : Heap) => K (.int .u8 r0) h) =
    den Tryd.prog (fn1 58 (E_ref1_Eye_fixed_of f58_) noFns) Tryd.f39.ntmps plan39 (bodyOf Tryd.f39) (args0 0 [(.pointer e1 : Value)]) h ⟨fun env h => dRes Tryd.prog Tryd.f39.results.toList env h K, fun _ _ _ => False, fun env h => dRes Tryd.prog Tryd.f39.results.toList env h K⟩ := by kernel_rfl
def E_ref1_Eye_U8_of (f : Option Addr → Heap → (Int → Heap → Prop) → Prop) : List Value → Heap → (Value → Heap → Prop) → Prop
  | [v0], h, K => dec1 .ptr v0 fun (e1 : Option Addr) =>
  f e1 h (fun (r0 : Int) (h : Heap) => K (.int .u8 r0) h)
  | _, _, _ => False
abbrev E_ref1_Eye_U8 := E_ref1_Eye_U8_of F_ref1_Eye_U8
theorem E_ref1_Eye_U8.right : IsRight Tryd.prog 39 E_ref1_Eye_U8 := by
  refine isRight fun vs K w hh => ?_
  match vs, hh with
  | [v0], hh =>
    unfold E_ref1_Eye_U8 E_ref1_Eye_U8_of at hh
    replace hh := dec1_sound hh; obtain ⟨e1, rfl, hh⟩ := hh
    unfold F_ref1_Eye_U8 at hh
    exact calls_den (fn1_right ok58 E_ref1_Eye_fixed.right noFns_right) plan39 _ w K Tryd.func39 (by kernel_rfl) (by kernel_rfl) (Eq.mp (F_ref1_Eye_U8.eq F_ref1_Eye_fixed e1 w.heap K) hh)
theorem ok39 : okFn Tryd.prog 39 = true := by kernel_rfl
end Go.Proofs.YtompmkmbppcadaaDoor.V
namespace Go.Proofs.YtompmkmbppcadaaDoor.V
open Go Go.RowKit
set_option linter.unusedVariables false
set_option maxRecDepth 100000
/-! (*tally/tallyref1.Eye).U32 -/
def F_ref1_Eye_U32_of (f58_ : Option Addr → Int → Heap → (Int → Heap → Prop) → Prop) (e1 : Option Addr) (h : Heap) (Q : Int → Heap → Prop) : Prop :=
  f58_ e1 4 h fun (r2 : Int) (h3 : Heap) =>
  Q (IntKind.u32.wrap r2) h3
def F_ref1_Eye_U32 (e1 : Option Addr) (h : Heap) (Q : Int → Heap → Prop) : Prop := F_ref1_Eye_U32_of F_ref1_Eye_fixed e1 h Q
def plan41 : Plan := .s (.r [0]) (.s (.r [2]) .z)
theorem F_ref1_Eye_U32.eq (f58_ : Option Addr → Int → Heap → (Int → Heap → Prop) → Prop) (e1 : Option Addr) (h : Heap) (K : Value → Heap → Prop) : F_ref1_Eye_U32_of f58_ e1 h (fun (r0 : Int) (h : Heap) => K (.int .u32 r0) h) =
    den Tryd.prog (fn1 58 (E_ref1_Eye_fixed_of f58_) noFns) Tryd.f41.ntmps plan41 (bodyOf Tryd.f41) (args0 0 [(.pointer e1 : Value)]) h ⟨fun env h => dRes Tryd.prog Tryd.f41.results.toList env h K, fun _ _ _ => False, fun env h => dRes Tryd.prog Tryd.f41.results.toList env h K⟩ := by kernel_rfl
def E_ref1_Eye_U32_of (f : Option Addr → Heap → (Int → Heap → Prop) → Prop) : List Value → Heap → (Value → Heap → Prop) → Prop
  | [v0], h, K => dec1 .ptr v0 fun (e1 : Option Addr) =>
  f e1 h (fun (r0 : Int) (h : Heap) => K (.int .u32 r0) h)
  | _, _, _ => False
abbrev E_ref1_Eye_U32 := E_ref1_Eye_U32_of F_ref1_Eye_U32
theorem E_ref1_Eye_U32.right : IsRight Tryd.prog 41 E_ref1_Eye_U32 := by
  refine isRight fun vs K w hh => ?_
  match vs, hh with
  | [v0], hh =>
    unfold E_ref1_Eye_U32 E_ref1_Eye_U32_of at hh
    replace hh := dec1_sound hh; obtain ⟨e1, rfl, hh⟩ := hh
    unfold F_ref1_Eye_U32 at hh
    exact calls_den (fn1_right ok58 E_ref1_Eye_fixed.right noFns_right) plan41 _ w K Tryd.func41 (by kernel_rfl) (by kernel_rfl) (Eq.mp (F_ref1_Eye_U32.eq F_ref1_Eye_fixed e1 w.heap K) hh)
theorem ok41 : okFn Tryd.prog 41 = true := by kernel_rfl
end Go.Proofs.YtompmkmbppcadaaDoor.V
namespace Go.Proofs.YtompmkmbppcadaaDoor.V
open Go Go.RowKit
set_option linter.unusedVariables false
set_option maxRecDepth 100000
/-! (*tally/tallyref1.Eye).U64 -/
def F_ref1_Eye_U64_of (f58_ : Option Addr → Int → Heap → (Int → Heap → Prop) → Prop) (e1 : Option Addr) (h : Heap) (Q : Int → Heap → Prop) : Prop :=
  f58_ e1 8 h fun (r2 : Int) (h3 : Heap) =>
  Q r2 h3
def F_ref1_Eye_U64 (e1 : Option Addr) (h : Heap) (Q : Int → Heap → Prop) : Prop := F_ref1_Eye_U64_of F_ref1_Eye_fixed e1 h Q
def plan42 : Plan := .s (.r [0]) (.s (.r [2]) .z)
theorem F_ref1_Eye_U64.eq (f58_ : Option Addr → Int → Heap → (Int → Heap → Prop) → Prop) (e1 : Option Addr) (h : Heap) (K : Value → Heap → Prop) : F_ref1_Eye_U64_of f58_ e1 h (fun (r0 : Int) (h : Heap) => K (.int .u64 r0) h) =
    den Tryd.prog (fn1 58 (E_ref1_Eye_fixed_of f58_) noFns) Tryd.f42.ntmps plan42 (bodyOf Tryd.f42) (args0 0 [(.pointer e1 : Value)]) h ⟨fun env h => dRes Tryd.prog Tryd.f42.results.toList env h K, fun _ _ _ => False, fun env h => dRes Tryd.prog Tryd.f42.results.toList env h K⟩ := by kernel_rfl
def E_ref1_Eye_U64_of (f : Option Addr → Heap → (Int → Heap → Prop) → Prop) : List Value → Heap → (Value → Heap → Prop) → Prop
  | [v0], h, K => dec1 .ptr v0 fun (e1 : Option Addr) =>
  f e1 h (fun (r0 : Int) (h : Heap) => K (.int .u64 r0) h)
  | _, _, _ => False
abbrev E_ref1_Eye_U64 := E_ref1_Eye_U64_of F_ref1_Eye_U64
theorem E_ref1_Eye_U64.right : IsRight Tryd.prog 42 E_ref1_Eye_U64 := by
  refine isRight fun vs K w hh => ?_
  match vs, hh with
  | [v0], hh =>
    unfold E_ref1_Eye_U64 E_ref1_Eye_U64_of at hh
    replace hh := dec1_sound hh; obtain ⟨e1, rfl, hh⟩ := hh
    unfold F_ref1_Eye_U64 at hh
    exact calls_den (fn1_right ok58 E_ref1_Eye_fixed.right noFns_right) plan42 _ w K Tryd.func42 (by kernel_rfl) (by kernel_rfl) (Eq.mp (F_ref1_Eye_U64.eq F_ref1_Eye_fixed e1 w.heap K) hh)
theorem ok42 : okFn Tryd.prog 42 = true := by kernel_rfl
end Go.Proofs.YtompmkmbppcadaaDoor.V
namespace Go.Proofs.YtompmkmbppcadaaDoor.V
open Go Go.RowKit
set_option linter.unusedVariables false
set_option maxRecDepth 100000
/-! (*tally/tallyref1.Eye).last -/
def F_ref1_Eye_last.l1 (e1 : Option Addr) (Q : Int → Heap → Prop) (j2 : Heap → Prop) : Int → Heap → Prop :=
  wl [(3, .one (.int .i64))] (fun (next3 : Int → Heap → Prop) (k4 : Int) (h5 : Heap) =>
  jn [(19, .one .bool)] (fun (x11 : Bool) (h12 : Heap) =>
  brr x11
  (nn e1 fun (a13 : Addr) =>
  ld [.sl] (a13.add 0) h12 fun (v14 : Sl) =>
  nn e1 fun (a15 : Addr) =>
  ld [.int .i64] (a15.add 1) h12 fun (v16 : Int) =>
  ixS 1 v14 (IntKind.i64.wrap (v16 + k4)) fun (a17 : Addr) =>
  ld [.int .u8] a17 h12 fun (v18 : Int) =>
  brr (decide (v18 < 128))
  (nn e1 fun (a19 : Addr) =>
  ld [.int .i64] (a19.add 1) h12 fun (v20 : Int) =>
  Q (IntKind.i64.wrap (v20 + k4)) h12)
  (next3 (IntKind.i64.wrap (k4 + 1)) h12))
  (j2 h12)) (fun (j6 : Bool → Heap → Prop) =>
  brr (decide (k4 < 10))
  (nn e1 fun (a7 : Addr) =>
  ld [.int .i64] (a7.add 1) h5 fun (v8 : Int) =>
  nn e1 fun (a9 : Addr) =>
  ld [.sl] (a9.add 0) h5 fun (v10 : Sl) =>
  j6 (decide ((IntKind.i64.wrap (v8 + k4)) < ((v10.len : Nat) : Int))) h5)
  (j6 false h5)))
def F_ref1_Eye_last_of  (e1 : Option Addr) (h : Heap) (Q : Int → Heap → Prop) : Prop :=
  jn [] (fun  (h21 : Heap) =>
  Q (-1) h21) (fun (j2 : Heap → Prop) =>
  F_ref1_Eye_last.l1 e1 Q j2 0 h)
def F_ref1_Eye_last (e1 : Option Addr) (h : Heap) (Q : Int → Heap → Prop) : Prop := F_ref1_Eye_last_of  e1 h Q
def plan59 : Plan := .s (.r [0]) (.s (.s (.r [0, 3]) (.bj [] [] (.l [(3, .one (.int .i64))] [0] (.s (.s (.dj [0, 1, 3, 7, 15, 31, 63, 7, 255, 7, 519, 1543, 3591, 7687, 16383, 32767] [[0, 1, 2, 3, 4, 5, 6, 7, 8, 9, 10, 11, 12, 13, 14, 15]] [(19, .one .bool)] [0, 3]) (.c .z .z)) (.s (.b (.s (.d [0, 1, 3, 7, 0, 16, 48, 112, 0, 496, 1023, 2047, 4095] [[0, 1, 2, 3, 4, 5, 6, 7, 8, 9, 10, 11, 12]] [0, 3, 34]) (.c (.s (.r [2]) .z) .z))) (.r [0, 3])))))) (.s (.r [2]) .z))
theorem F_ref1_Eye_last.eq  (e1 : Option Addr) (h : Heap) (K : Value → Heap → Prop) : F_ref1_Eye_last_of  e1 h (fun (r0 : Int) (h : Heap) => K (.int .i64 r0) h) =
    den Tryd.prog noFns Tryd.f59.ntmps plan59 (bodyOf Tryd.f59) (args0 0 [(.pointer e1 : Value)]) h ⟨fun env h => dRes Tryd.prog Tryd.f59.results.toList env h K, fun _ _ _ => False, fun env h => dRes Tryd.prog Tryd.f59.results.toList env h K⟩ := by kernel_rfl
def E_ref1_Eye_last_of (f : Option Addr → Heap → (Int → Heap → Prop) → Prop) : List Value → Heap → (Value → Heap → Prop) → Prop
  | [v0], h, K => dec1 .ptr v0 fun (e1 : Option Addr) =>
  f e1 h (fun (r0 : Int) (h : Heap) => K (.int .i64 r0) h)
  | _, _, _ => False
abbrev E_ref1_Eye_last := E_ref1_Eye_last_of F_ref1_Eye_last
theorem E_ref1_Eye_last.right : IsRight Tryd.prog 59 E_ref1_Eye_last := by
  refine isRight fun vs K w hh => ?_
  match vs, hh with
  | [v0], hh =>
    unfold E_ref1_Eye_last E_ref1_Eye_last_of at hh
    replace hh := dec1_sound hh; obtain ⟨e1, rfl, hh⟩ := hh
    unfold F_ref1_Eye_last at hh
    exact calls_den noFns_right plan59 _ w K Tryd.func59 (by kernel_rfl) (by kernel_rfl) (Eq.mp (F_ref1_Eye_last.eq  e1 w.heap K) hh)
theorem ok59 : okFn Tryd.prog 59 = true := by kernel_rfl
end Go.Proofs.YtompmkmbppcadaaDoor.V
namespace Go.Proofs.YtompmkmbppcadaaDoor.V
open Go Go.RowKit
set_option linter.unusedVariables false
set_option maxRecDepth 100000
/-! (*tally/tallyref1.Eye).Var -/
def F_ref1_Eye_Var.l1 (e1 : Option Addr) (j15 : Int → Heap → Prop) : Int → Int → Heap → Prop :=
  wl [(6, .one (.int .u64)), (7, .one (.int .i64))] (fun (next16 : Int → Int → Heap → Prop) (n17 : Int) (i18 : Int) (h19 : Heap) =>
  nn e1 fun (a20 : Addr) =>
  ld [.int .i64] (a20.add 1) h19 fun (v21 : Int) =>
  brr (decide (i18 ≥ v21))
  (nn e1 fun (a22 : Addr) =>
  ld [.sl] (a22.add 0) h19 fun (v23 : Sl) =>
  ixS 1 v23 i18 fun (a24 : Addr) =>
  ld [.int .u8] a24 h19 fun (v25 : Int) =>
  (128 : Int) ≠ 0 ∧
  next16 (IntKind.u64.wrap ((IntKind.u64.wrap (n17 * 128)) + (IntKind.u64.wrap (v25.tmod 128)))) (IntKind.i64.wrap (i18 - 1)) h19)
  (j15 n17 h19))
def F_ref1_Eye_Var_of (f28_ : Sl → Sl → Heap → (Bool → Heap → Prop) → Prop) (f48_ : Option Addr → Heap → (Int → Heap → Prop) → Prop) (f54_ : Int → Heap → (Sl → Heap → Prop) → Prop) (f59_ : Option Addr → Heap → (Int → Heap → Prop) → Prop) (e1 : Option Addr) (most2 : Int) (h : Heap) (Q : Int → Heap → Prop) : Prop :=
  nn e1 fun (a3 : Addr) =>
  ld [.int .i64] (a3.add 2) h fun (v4 : Int) =>
  brr (v4 != 0)
  (Q 0 h)
  (f59_ e1 h fun (r5 : Int) (h6 : Heap) =>
  brr (decide (r5 < 0))
  (nn e1 fun (a7 : Addr) =>
  st (a7.add 2) [.int .i64 11] h6 fun (h8 : Heap) =>
  f48_ e1 h8 fun (r9 : Int) (h10 : Heap) =>
  jn [] (fun  (h14 : Heap) =>
  Q 0 h14) (fun (j11 : Heap → Prop) =>
  brr (decide (r9 < 10))
  (nn e1 fun (a12 : Addr) =>
  st (a12.add 2) [.int .i64 10] h10 fun (h13 : Heap) =>
  j11 h13)
  (j11 h10)))
  (jn [(6, .one (.int .u64))] (fun (n26 : Int) (h27 : Heap) =>
  nn e1 fun (a28 : Addr) =>
  ld [.sl] (a28.add 0) h27 fun (v29 : Sl) =>
  nn e1 fun (a30 : Addr) =>
  ld [.int .i64] (a30.add 1) h27 fun (v31 : Int) =>
  slFT 1 v29 v31 (IntKind.i64.wrap (r5 + 1)) fun (s32 : Sl) =>
  f54_ n26 h27 fun (r33 : Sl) (h34 : Heap) =>
  cellsAre h34 (a28.add 0) [.slice v29.ptr v29.len v29.cap] ∧
  cellsAre h34 (a30.add 1) [.int .i64 v31] ∧
  f28_ r33 s32 h34 fun (r35 : Bool) (h36 : Heap) =>
  brr (!r35)
  (nn e1 fun (a37 : Addr) =>
  st (a37.add 2) [.int .i64 11] h36 fun (h38 : Heap) =>
  Q 0 h38)
  (brr (decide (n26 > most2))
  (nn e1 fun (a39 : Addr) =>
  st (a39.add 2) [.int .i64 12] h36 fun (h40 : Heap) =>
  Q 0 h40)
  (nn e1 fun (a41 : Addr) =>
  st (a41.add 1) [.int .i64 (IntKind.i64.wrap (r5 + 1))] h36 fun (h42 : Heap) =>
  Q n26 h42))) (fun (j15 : Int → Heap → Prop) =>
  F_ref1_Eye_Var.l1 e1 j15 0 r5 h6)))
def F_ref1_Eye_Var (e1 : Option Addr) (most2 : Int) (h : Heap) (Q : Int → Heap → Prop) : Prop := F_ref1_Eye_Var_of F_ref0_Eq F_ref1_Eye_Left F_ref1_Var F_ref1_Eye_last e1 most2 h Q
def plan44 : Plan := .s (.r [0, 1]) (.s (.s (.r [0, 1, 12]) (.c (.s (.r [4]) .z) .z)) (.s (.r [0, 1, 5]) (.s (.s (.r [0, 1, 5, 16]) (.c (.s (.r [0]) (.s (.s (.r [0, 22]) (.cj [] [] (.r []) .z)) (.s (.r [4]) .z))) .z)) (.s (.r [0, 1, 5, 6]) (.s (.s (.r [0, 1, 5, 6, 7]) (.bj [(6, .one (.int .u64))] [0, 1, 5] (.l [(6, .one (.int .u64)), (7, .one (.int .i64))] [0, 1, 5] (.s (.s (.r [0, 1, 5, 6, 7, 32]) (.c .z .z)) (.s (.b (.r [0, 1, 5, 6, 7])) (.r [0, 1, 5, 6, 7])))))) (.s (.s (.d [0, 1, 0, 4, 12, 28, 0, 64, 192, 448, 0, 1024, 4092, 8191, 16383] [[0, 2, 3, 4, 5, 6, 7, 8, 9, 10, 11, 12, 1, 13, 14]] [0, 1, 5, 6, 61]) (.c (.s (.r []) (.s (.r [4]) .z)) .z)) (.s (.s (.r [0, 5, 6, 67]) (.c (.s (.r []) (.s (.r [4]) .z)) .z)) (.s (.r [6]) (.s (.r [4]) .z)))))))))
theorem F_ref1_Eye_Var.eq (f28_ : Sl → Sl → Heap → (Bool → Heap → Prop) → Prop) (f48_ : Option Addr → Heap → (Int → Heap → Prop) → Prop) (f54_ : Int → Heap → (Sl → Heap → Prop) → Prop) (f59_ : Option Addr → Heap → (Int → Heap → Prop) → Prop) (e1 : Option Addr) (most2 : Int) (h : Heap) (K : Value → Heap → Prop) : F_ref1_Eye_Var_of f28_ f48_ f54_ f59_ e1 most2 h (fun (r0 : Int) (h : Heap) => K (.int .u64 r0) h) =
    den Tryd.prog (fn1 28 (E_ref0_Eq_of f28_) (fn1 48 (E_ref1_Eye_Left_of f48_) (fn1 54 (E_ref1_Var_of f54_) (fn1 59 (E_ref1_Eye_last_of f59_) noFns)))) Tryd.f44.ntmps plan44 (bodyOf Tryd.f44) (args0 0 [(.pointer e1 : Value), (.int .u64 most2 : Value)]) h ⟨fun env h => dRes Tryd.prog Tryd.f44.results.toList env h K, fun _ _ _ => False, fun env h => dRes Tryd.prog Tryd.f44.results.toList env h K⟩ := by kernel_rfl
def E_ref1_Eye_Var_of (f : Option Addr → Int → Heap → (Int → Heap → Prop) → Prop) : List Value → Heap → (Value → Heap → Prop) → Prop
  | [v0, v1], h, K => dec1 .ptr v0 fun (e1 : Option Addr) =>
  dec1 (.int .u64) v1 fun (most2 : Int) =>
  f e1 most2 h (fun (r0 : Int) (h : Heap) => K (.int .u64 r0) h)
  | _, _, _ => False
abbrev E_ref1_Eye_Var := E_ref1_Eye_Var_of F_ref1_Eye_Var
theorem E_ref1_Eye_Var.right : IsRight Tryd.prog 44 E_ref1_Eye_Var := by
  refine isRight fun vs K w hh => ?_
  match vs, hh with
  | [v0, v1], hh =>
    unfold E_ref1_Eye_Var E_ref1_Eye_Var_of at hh
    replace hh := dec1_sound hh; obtain ⟨e1, rfl, hh⟩ := hh
    replace hh := dec1_sound hh; obtain ⟨most2, rfl, hh⟩ := hh
    unfold F_ref1_Eye_Var at hh
    exact calls_den (fn1_right ok28 E_ref0_Eq.right (fn1_right ok48 E_ref1_Eye_Left.right (fn1_right ok54 E_ref1_Var.right (fn1_right ok59 E_ref1_Eye_last.right noFns_right)))) plan44 _ w K Tryd.func44 (by kernel_rfl) (by kernel_rfl) (Eq.mp (F_ref1_Eye_Var.eq F_ref0_Eq F_ref1_Eye_Left F_ref1_Var F_ref1_Eye_last e1 most2 w.heap K) hh)
theorem ok44 : okFn Tryd.prog 44 = true := by kernel_rfl
end Go.Proofs.YtompmkmbppcadaaDoor.V
namespace Go.Proofs.YtompmkmbppcadaaDoor.V
open Go Go.RowKit
set_option linter.unusedVariables false
set_option maxRecDepth 100000
/-! (*tally/tallyref1.Eye).Text -/
def F_ref1_Eye_Text_of (f44_ : Option Addr → Int → Heap → (Int → Heap → Prop) → Prop) (f47_ : Option Addr → Int → Heap → (Sl → Heap → Prop) → Prop) (e1 : Option Addr) (most2 : Int) (h : Heap) (Q : Sl → Heap → Prop) : Prop :=
  jn [(1, .one (.int .i64))] (fun (most4 : Int) (h5 : Heap) =>
  nn e1 fun (a6 : Addr) =>
  ld [.int .i64] (a6.add 1) h5 fun (v7 : Int) =>
  f44_ e1 (IntKind.u64.wrap most4) h5 fun (r8 : Int) (h9 : Heap) =>
  f47_ e1 (IntKind.i64.wrap r8) h9 fun (r10 : Sl) (h11 : Heap) =>
  nn e1 fun (a12 : Addr) =>
  ld [.int .i64] (a12.add 2) h11 fun (v13 : Int) =>
  brr (v13 != 0)
  (nn e1 fun (a14 : Addr) =>
  st (a14.add 1) [.int .i64 v7] h11 fun (h15 : Heap) =>
  Q (⟨none, 0, 0⟩ : Sl) h15)
  (Q r10 h11)) (fun (j3 : Int → Heap → Prop) =>
  brr (decide (most2 < 0))
  (j3 0 h)
  (j3 most2 h))
def F_ref1_Eye_Text (e1 : Option Addr) (most2 : Int) (h : Heap) (Q : Sl → Heap → Prop) : Prop := F_ref1_Eye_Text_of F_ref1_Eye_Var F_ref1_Eye_Raw e1 most2 h Q
def plan46 : Plan := .s (.r [0, 1]) (.s (.s (.r [0, 1, 9]) (.cj [(1, .one (.int .i64))] [0] (.r [0, 1]) .z)) (.s (.r [0, 1, 5]) (.s (.r [0, 5, 6]) (.s (.r [0, 5, 7]) (.s (.s (.r [0, 5, 7, 26]) (.c (.s (.r []) (.s (.r [4]) .z)) .z)) (.s (.r [4]) .z))))))
theorem F_ref1_Eye_Text.eq (f44_ : Option Addr → Int → Heap → (Int → Heap → Prop) → Prop) (f47_ : Option Addr → Int → Heap → (Sl → Heap → Prop) → Prop) (e1 : Option Addr) (most2 : Int) (h : Heap) (K : Value → Heap → Prop) : F_ref1_Eye_Text_of f44_ f47_ e1 most2 h (fun (r0 : Sl) (h : Heap) => K (.slice r0.ptr r0.len r0.cap) h) =
    den Tryd.prog (fn1 44 (E_ref1_Eye_Var_of f44_) (fn1 47 (E_ref1_Eye_Raw_of f47_) noFns)) Tryd.f46.ntmps plan46 (bodyOf Tryd.f46) (args0 0 [(.pointer e1 : Value), (.int .i64 most2 : Value)]) h ⟨fun env h => dRes Tryd.prog Tryd.f46.results.toList env h K, fun _ _ _ => False, fun env h => dRes Tryd.prog Tryd.f46.results.toList env h K⟩ := by kernel_rfl
def E_ref1_Eye_Text_of (f : Option Addr → Int → Heap → (Sl → Heap → Prop) → Prop) : List Value → Heap → (Value → Heap → Prop) → Prop
  | [v0, v1], h, K => dec1 .ptr v0 fun (e1 : Option Addr) =>
  dec1 (.int .i64) v1 fun (most2 : Int) =>
  f e1 most2 h (fun (r0 : Sl) (h : Heap) => K (.slice r0.ptr r0.len r0.cap) h)
  | _, _, _ => False
abbrev E_ref1_Eye_Text := E_ref1_Eye_Text_of F_ref1_Eye_Text
theorem E_ref1_Eye_Text.right : IsRight Tryd.prog 46 E_ref1_Eye_Text := by
  refine isRight fun vs K w hh => ?_
  match vs, hh with
  | [v0, v1], hh =>
    unfold E_ref1_Eye_Text E_ref1_Eye_Text_of at hh
    replace hh := dec1_sound hh; obtain ⟨e1, rfl, hh⟩ := hh
    replace hh := dec1_sound hh; obtain ⟨most2, rfl, hh⟩ := hh
    unfold F_ref1_Eye_Text at hh
    exact calls_den (fn1_right ok44 E_ref1_Eye_Var.right (fn1_right ok47 E_ref1_Eye_Raw.right noFns_right)) plan46 _ w K Tryd.func46 (by kernel_rfl) (by kernel_rfl) (Eq.mp (F_ref1_Eye_Text.eq F_ref1_Eye_Var F_ref1_Eye_Raw e1 most2 w.heap K) hh)
theorem ok46 : okFn Tryd.prog 46 = true := by kernel_rfl
end Go.Proofs.YtompmkmbppcadaaDoor.V
namespace Go.Proofs.YtompmkmbppcadaaDoor.V
open Go Go.RowKit
set_option linter.unusedVariables false
set_option maxRecDepth 100000
/-! (*tally/tallyref1.Eye).End -/
def F_ref1_Eye_End_of (f48_ : Option Addr → Heap → (Int → Heap → Prop) → Prop) (e1 : Option Addr) (h : Heap) (Q : Int → Heap → Prop) : Prop :=
  jn [(12, .one .bool)] (fun (x7 : Bool) (h8 : Heap) =>
  brr x7
  (Q 13 h8)
  (nn e1 fun (a9 : Addr) =>
  ld [.int .i64] (a9.add 2) h8 fun (v10 : Int) =>
  Q v10 h8)) (fun (j2 : Bool → Heap → Prop) =>
  nn e1 fun (a3 : Addr) =>
  ld [.int .i64] (a3.add 2) h fun (v4 : Int) =>
  brr (v4 == 0)
  (f48_ e1 h fun (r5 : Int) (h6 : Heap) =>
  j2 (decide (r5 > 0)) h6)
  (j2 false h))
def F_ref1_Eye_End (e1 : Option Addr) (h : Heap) (Q : Int → Heap → Prop) : Prop := F_ref1_Eye_End_of F_ref1_Eye_Left e1 h Q
def plan19 : Plan := .s (.r [0]) (.s (.s (.rj [(12, .one .bool)] [0]) (.c (.s (.r [2]) .z) .z)) (.s (.r [2]) .z))
theorem F_ref1_Eye_End.eq (f48_ : Option Addr → Heap → (Int → Heap → Prop) → Prop) (e1 : Option Addr) (h : Heap) (K : Value → Heap → Prop) : F_ref1_Eye_End_of f48_ e1 h (fun (r0 : Int) (h : Heap) => K (.int .i64 r0) h) =
    den Tryd.prog (fn1 48 (E_ref1_Eye_Left_of f48_) noFns) Tryd.f19.ntmps plan19 (bodyOf Tryd.f19) (args0 0 [(.pointer e1 : Value)]) h ⟨fun env h => dRes Tryd.prog Tryd.f19.results.toList env h K, fun _ _ _ => False, fun env h => dRes Tryd.prog Tryd.f19.results.toList env h K⟩ := by kernel_rfl
def E_ref1_Eye_End_of (f : Option Addr → Heap → (Int → Heap → Prop) → Prop) : List Value → Heap → (Value → Heap → Prop) → Prop
  | [v0], h, K => dec1 .ptr v0 fun (e1 : Option Addr) =>
  f e1 h (fun (r0 : Int) (h : Heap) => K (.int .i64 r0) h)
  | _, _, _ => False
abbrev E_ref1_Eye_End := E_ref1_Eye_End_of F_ref1_Eye_End
theorem E_ref1_Eye_End.right : IsRight Tryd.prog 19 E_ref1_Eye_End := by
  refine isRight fun vs K w hh => ?_
  match vs, hh with
  | [v0], hh =>
    unfold E_ref1_Eye_End E_ref1_Eye_End_of at hh
    replace hh := dec1_sound hh; obtain ⟨e1, rfl, hh⟩ := hh
    unfold F_ref1_Eye_End at hh
    exact calls_den (fn1_right ok48 E_ref1_Eye_Left.right noFns_right) plan19 _ w K Tryd.func19 (by kernel_rfl) (by kernel_rfl) (Eq.mp (F_ref1_Eye_End.eq F_ref1_Eye_Left e1 w.heap K) hh)
theorem ok19 : okFn Tryd.prog 19 = true := by kernel_rfl
end Go.Proofs.YtompmkmbppcadaaDoor.V
namespace Go.Proofs.YtompmkmbppcadaaDoor.V
open Go Go.RowKit
set_option linter.unusedVariables false
set_option maxRecDepth 100000
/-! tally/tallylaw1.num -/
def F_law1_num_of  (e1 : Int) (h : Heap) (Q : Int → Heap → Prop) : Prop :=
  Q e1 h
def F_law1_num (e1 : Int) (h : Heap) (Q : Int → Heap → Prop) : Prop := F_law1_num_of  e1 h Q
def plan16 : Plan := .s (.r [0]) (.s (.r [2]) .z)
theorem F_law1_num.eq  (e1 : Int) (h : Heap) (K : Value → Heap → Prop) : F_law1_num_of  e1 h (fun (r0 : Int) (h : Heap) => K (.int .i64 r0) h) =
    den Tryd.prog noFns Tryd.f16.ntmps plan16 (bodyOf Tryd.f16) (args0 0 [(.int .i64 e1 : Value)]) h ⟨fun env h => dRes Tryd.prog Tryd.f16.results.toList env h K, fun _ _ _ => False, fun env h => dRes Tryd.prog Tryd.f16.results.toList env h K⟩ := by kernel_rfl
def E_law1_num_of (f : Int → Heap → (Int → Heap → Prop) → Prop) : List Value → Heap → (Value → Heap → Prop) → Prop
  | [v0], h, K => dec1 (.int .i64) v0 fun (e1 : Int) =>
  f e1 h (fun (r0 : Int) (h : Heap) => K (.int .i64 r0) h)
  | _, _, _ => False
abbrev E_law1_num := E_law1_num_of F_law1_num
theorem E_law1_num.right : IsRight Tryd.prog 16 E_law1_num := by
  refine isRight fun vs K w hh => ?_
  match vs, hh with
  | [v0], hh =>
    unfold E_law1_num E_law1_num_of at hh
    replace hh := dec1_sound hh; obtain ⟨e1, rfl, hh⟩ := hh
    unfold F_law1_num at hh
    exact calls_den noFns_right plan16 _ w K Tryd.func16 (by kernel_rfl) (by kernel_rfl) (Eq.mp (F_law1_num.eq  e1 w.heap K) hh)
theorem ok16 : okFn Tryd.prog 16 = true := by kernel_rfl
end Go.Proofs.YtompmkmbppcadaaDoor.V
namespace Go.Proofs.YtompmkmbppcadaaDoor.V
open Go Go.RowKit
set_option linter.unusedVariables false
set_option maxRecDepth 100000
/-! tally/tallylaw1.reads -/
def F_law1_reads_of (f12_ : Option Addr → Heap → (Int → Heap → Prop) → Prop) (f15_ : Option Addr → Heap → (Int → Heap → Prop) → Prop) (f16_ : Int → Heap → (Int → Heap → Prop) → Prop) (f17_ : Option Addr → Heap → (Int → Heap → Prop) → Prop) (f18_ : Option Addr → Heap → (Int → Heap → Prop) → Prop) (f19_ : Option Addr → Heap → (Int → Heap → Prop) → Prop) (f20_ : Option Addr → Heap → (Int → Heap → Prop) → Prop) (f28_ : Sl → Sl → Heap → (Bool → Heap → Prop) → Prop) (f29_ : Option Addr → Int → Heap → (Sl → Heap → Prop) → Prop) (f35_ : Option Addr → Heap → (Int → Heap → Prop) → Prop) (f39_ : Option Addr → Heap → (Int → Heap → Prop) → Prop) (f40_ : Option Addr → Heap → (Int → Heap → Prop) → Prop) (f41_ : Option Addr → Heap → (Int → Heap → Prop) → Prop) (f42_ : Option Addr → Heap → (Int → Heap → Prop) → Prop) (f43_ : Option Addr → Int → Heap → (Int → Heap → Prop) → Prop) (f44_ : Option Addr → Int → Heap → (Int → Heap → Prop) → Prop) (f45_ : Option Addr → Int → Heap → (Sl → Heap → Prop) → Prop) (f46_ : Option Addr → Int → Heap → (Sl → Heap → Prop) → Prop) (f47_ : Option Addr → Int → Heap → (Sl → Heap → Prop) → Prop) (f48_ : Option Addr → Heap → (Int → Heap → Prop) → Prop) (r1 : Option Addr) (e2 : Option Addr) (o3 : Int) (o4 : Int) (o5 : Int) (o6 : Int) (o7 : Sl) (h : Heap) (Q : Bool → Heap → Prop) : Prop :=
  al 39 [.int .i64 o3, .int .i64 o4, .int .i64 o5, .int .u64 o6, .slice o7.ptr o7.len o7.cap] h fun (a8 : Addr) (h9 : Heap) =>
  ld [.int .i64] (a8.add 0) h9 fun (v10 : Int) =>
  brr (v10 == 1)
  (f35_ r1 h9 fun (r11 : Int) (h12 : Heap) =>
  f39_ e2 h12 fun (r13 : Int) (h14 : Heap) =>
  Q (r11 == r13) h14)
  (brr (v10 == 2)
  (f40_ r1 h9 fun (r15 : Int) (h16 : Heap) =>
  f41_ e2 h16 fun (r17 : Int) (h18 : Heap) =>
  Q (r15 == r17) h18)
  (brr (v10 == 3)
  (f20_ r1 h9 fun (r19 : Int) (h20 : Heap) =>
  f42_ e2 h20 fun (r21 : Int) (h22 : Heap) =>
  Q (r19 == r21) h22)
  (brr (v10 == 4)
  (ld [.int .u64] (a8.add 3) h9 fun (v23 : Int) =>
  ld [.int .u64] (a8.add 3) h9 fun (v24 : Int) =>
  f43_ r1 v23 h9 fun (r25 : Int) (h26 : Heap) =>
  cellsAre h26 (a8.add 3) [.int .u64 v24] ∧
  f44_ e2 v24 h26 fun (r27 : Int) (h28 : Heap) =>
  Q (r25 == r27) h28)
  (brr (v10 == 5)
  (ld [.int .i64] (a8.add 2) h9 fun (v29 : Int) =>
  ld [.int .i64] (a8.add 2) h9 fun (v30 : Int) =>
  f45_ r1 v29 h9 fun (r31 : Sl) (h32 : Heap) =>
  cellsAre h32 (a8.add 2) [.int .i64 v30] ∧
  f46_ e2 v30 h32 fun (r33 : Sl) (h34 : Heap) =>
  f28_ r31 r33 h34 fun (r35 : Bool) (h36 : Heap) =>
  Q r35 h36)
  (brr (v10 == 6)
  (ld [.int .i64] (a8.add 2) h9 fun (v37 : Int) =>
  ld [.int .i64] (a8.add 2) h9 fun (v38 : Int) =>
  f29_ r1 v37 h9 fun (r39 : Sl) (h40 : Heap) =>
  cellsAre h40 (a8.add 2) [.int .i64 v38] ∧
  f47_ e2 v38 h40 fun (r41 : Sl) (h42 : Heap) =>
  f28_ r39 r41 h42 fun (r43 : Bool) (h44 : Heap) =>
  Q r43 h44)
  (brr (v10 == 7)
  (f12_ r1 h9 fun (r45 : Int) (h46 : Heap) =>
  f48_ e2 h46 fun (r47 : Int) (h48 : Heap) =>
  Q (r45 == r47) h48)
  (brr (v10 == 8)
  (nn e2 fun (a49 : Addr) =>
  ld [.int .i64] (a49.add 1) h9 fun (v50 : Int) =>
  f15_ r1 h9 fun (r51 : Int) (h52 : Heap) =>
  cellsAre h52 (a49.add 1) [.int .i64 v50] ∧
  Q (r51 == v50) h52)
  (brr (v10 == 9)
  (nn e2 fun (a53 : Addr) =>
  ld [.int .i64] (a53.add 2) h9 fun (v54 : Int) =>
  f17_ r1 h9 fun (r55 : Int) (h56 : Heap) =>
  cellsAre h56 (a53.add 2) [.int .i64 v54] ∧
  f16_ r55 h56 fun (r57 : Int) (h58 : Heap) =>
  cellsAre h58 (a53.add 2) [.int .i64 v54] ∧
  Q (r57 == v54) h58)
  (brr (v10 == 10)
  (f18_ r1 h9 fun (r59 : Int) (h60 : Heap) =>
  f16_ r59 h60 fun (r61 : Int) (h62 : Heap) =>
  f19_ e2 h62 fun (r63 : Int) (h64 : Heap) =>
  Q (r61 == r63) h64)
  (Q true h9))))))))))
def F_law1_reads (r1 : Option Addr) (e2 : Option Addr) (o3 : Int) (o4 : Int) (o5 : Int) (o6 : Int) (o7 : Sl) (h : Heap) (Q : Bool → Heap → Prop) : Prop := F_law1_reads_of F_code_Reader_Left F_code_Reader_At F_law1_num F_code_Reader_Fault F_code_Reader_End F_ref1_Eye_End F_code_Reader_U64 F_ref0_Eq F_code_Reader_Raw F_code_Reader_U8 F_ref1_Eye_U8 F_code_Reader_U32 F_ref1_Eye_U32 F_ref1_Eye_U64 F_code_Reader_Var F_ref1_Eye_Var F_code_Reader_Bytes F_ref1_Eye_Text F_ref1_Eye_Raw F_ref1_Eye_Left r1 e2 o3 o4 o5 o6 o7 h Q
def plan14 : Plan := .s (.r [0, 1, 5]) (.s (.s (.r [0, 1, 5, 8]) (.b (.s (.r [0, 1, 5, 8, 9]) (.c (.s (.r [6]) .z) (.s (.r [0, 1, 5, 8, 16]) (.c (.s (.r [6]) .z) (.s (.r [0, 1, 5, 8, 23]) (.c (.s (.r [6]) .z) (.s (.r [0, 1, 5, 8, 30]) (.c (.s (.d [0, 0, 2, 7, 0, 0, 32, 127, 255, 511] [[0, 1, 2, 4, 5, 6, 3, 7, 8, 9]] [6]) .z) (.s (.r [0, 1, 5, 8, 41]) (.c (.s (.d [0, 0, 2, 7, 0, 0, 32, 127, 255, 511] [[0, 1, 2, 4, 5, 6, 3, 7, 8, 9]] [6]) .z) (.s (.r [0, 1, 5, 8, 52]) (.c (.s (.d [0, 0, 2, 7, 0, 0, 32, 127, 255, 511] [[0, 1, 2, 4, 5, 6, 3, 7, 8, 9]] [6]) .z) (.s (.r [0, 1, 8, 63]) (.c (.s (.r [6]) .z) (.s (.r [0, 1, 8, 70]) (.c (.s (.d [0, 1, 0, 4, 12, 28, 63, 127] [[0, 2, 3, 4, 5, 1, 6, 7]] [6]) .z) (.s (.r [0, 1, 8, 79]) (.c (.s (.d [0, 1, 3, 0, 8, 24, 56, 127, 255] [[0, 3, 4, 5, 6, 1, 2, 7, 8]] [6]) .z) (.s (.r [0, 1, 89]) (.c (.s (.r [6]) .z) .z)))))))))))))))))))))) (.s (.r [6]) .z))
theorem F_law1_reads.eq (f12_ : Option Addr → Heap → (Int → Heap → Prop) → Prop) (f15_ : Option Addr → Heap → (Int → Heap → Prop) → Prop) (f16_ : Int → Heap → (Int → Heap → Prop) → Prop) (f17_ : Option Addr → Heap → (Int → Heap → Prop) → Prop) (f18_ : Option Addr → Heap → (Int → Heap → Prop) → Prop) (f19_ : Option Addr → Heap → (Int → Heap → Prop) → Prop) (f20_ : Option Addr → Heap → (Int → Heap → Prop) → Prop) (f28_ : Sl → Sl → Heap → (Bool → Heap → Prop) → Prop) (f29_ : Option Addr → Int → Heap → (Sl → Heap → Prop) → Prop) (f35_ : Option Addr → Heap → (Int → Heap → Prop) → Prop) (f39_ : Option Addr → Heap → (Int → Heap → Prop) → Prop) (f40_ : Option Addr → Heap → (Int → Heap → Prop) → Prop) (f41_ : Option Addr → Heap → (Int → Heap → Prop) → Prop) (f42_ : Option Addr → Heap → (Int → Heap → Prop) → Prop) (f43_ : Option Addr → Int → Heap → (Int → Heap → Prop) → Prop) (f44_ : Option Addr → Int → Heap → (Int → Heap → Prop) → Prop) (f45_ : Option Addr → Int → Heap → (Sl → Heap → Prop) → Prop) (f46_ : Option Addr → Int → Heap → (Sl → Heap → Prop) → Prop) (f47_ : Option Addr → Int → Heap → (Sl → Heap → Prop) → Prop) (f48_ : Option Addr → Heap → (Int → Heap → Prop) → Prop) (r1 : Option Addr) (e2 : Option Addr) (o3 : Int) (o4 : Int) (o5 : Int) (o6 : Int) (o7 : Sl) (h : Heap) (K : Value → Heap → Prop) : F_law1_reads_of f12_ f15_ f16_ f17_ f18_ f19_ f20_ f28_ f29_ f35_ f39_ f40_ f41_ f42_ f43_ f44_ f45_ f46_ f47_ f48_ r1 e2 o3 o4 o5 o6 o7 h (fun (r0 : Bool) (h : Heap) => K (.bool r0) h) =
    den Tryd.prog (fn1 12 (E_code_Reader_Left_of f12_) (fn1 15 (E_code_Reader_At_of f15_) (fn1 16 (E_law1_num_of f16_) (fn1 17 (E_code_Reader_Fault_of f17_) (fn1 18 (E_code_Reader_End_of f18_) (fn1 19 (E_ref1_Eye_End_of f19_) (fn1 20 (E_code_Reader_U64_of f20_) (fn1 28 (E_ref0_Eq_of f28_) (fn1 29 (E_code_Reader_Raw_of f29_) (fn1 35 (E_code_Reader_U8_of f35_) (fn1 39 (E_ref1_Eye_U8_of f39_) (fn1 40 (E_code_Reader_U32_of f40_) (fn1 41 (E_ref1_Eye_U32_of f41_) (fn1 42 (E_ref1_Eye_U64_of f42_) (fn1 43 (E_code_Reader_Var_of f43_) (fn1 44 (E_ref1_Eye_Var_of f44_) (fn1 45 (E_code_Reader_Bytes_of f45_) (fn1 46 (E_ref1_Eye_Text_of f46_) (fn1 47 (E_ref1_Eye_Raw_of f47_) (fn1 48 (E_ref1_Eye_Left_of f48_) noFns)))))))))))))))))))) Tryd.f14.ntmps plan14 (bodyOf Tryd.f14) (args0 0 [(.pointer r1 : Value), (.pointer e2 : Value), (.agg #[.int .i64 o3, .int .i64 o4, .int .i64 o5, .int .u64 o6, .slice o7.ptr o7.len o7.cap] : Value)]) h ⟨fun env h => dRes Tryd.prog Tryd.f14.results.toList env h K, fun _ _ _ => False, fun env h => dRes Tryd.prog Tryd.f14.results.toList env h K⟩ := by kernel_rfl
def E_law1_reads_of (f : Option Addr → Option Addr → Int → Int → Int → Int → Sl → Heap → (Bool → Heap → Prop) → Prop) : List Value → Heap → (Value → Heap → Prop) → Prop
  | [v0, v1, v2], h, K => dec1 .ptr v0 fun (r1 : Option Addr) =>
  dec1 .ptr v1 fun (e2 : Option Addr) =>
  vAgg v2 fun cs2 => decs [.int .i64, .int .i64, .int .i64, .int .u64, .sl] cs2.toList fun (o3 : Int) (o4 : Int) (o5 : Int) (o6 : Int) (o7 : Sl) =>
  f r1 e2 o3 o4 o5 o6 o7 h (fun (r0 : Bool) (h : Heap) => K (.bool r0) h)
  | _, _, _ => False
abbrev E_law1_reads := E_law1_reads_of F_law1_reads
theorem E_law1_reads.right : IsRight Tryd.prog 14 E_law1_reads := by
  refine isRight fun vs K w hh => ?_
  match vs, hh with
  | [v0, v1, v2], hh =>
    unfold E_law1_reads E_law1_reads_of at hh
    replace hh := dec1_sound hh; obtain ⟨r1, rfl, hh⟩ := hh
    replace hh := dec1_sound hh; obtain ⟨e2, rfl, hh⟩ := hh
    replace hh := vAgg_sound hh; obtain ⟨cs2, rfl, hh⟩ := hh
    replace hh := decs_cons hh; obtain ⟨o3, l2_0, e2_0, hh⟩ := hh
    replace hh := decs_cons hh; obtain ⟨o4, l2_1, e2_1, hh⟩ := hh
    replace hh := decs_cons hh; obtain ⟨o5, l2_2, e2_2, hh⟩ := hh
    replace hh := decs_cons hh; obtain ⟨o6, l2_3, e2_3, hh⟩ := hh
    replace hh := decs_cons hh; obtain ⟨o7, l2_4, e2_4, hh⟩ := hh
    replace hh := decs_nil hh; obtain ⟨rfl, hh⟩ := hh
    subst e2_4
    subst e2_3
    subst e2_2
    subst e2_1
    have ec2 := toArray_eq e2_0
    subst ec2
    unfold F_law1_reads at hh
    exact calls_den (fn1_right ok12 E_code_Reader_Left.right (fn1_right ok15 E_code_Reader_At.right (fn1_right ok16 E_law1_num.right (fn1_right ok17 E_code_Reader_Fault.right (fn1_right ok18 E_code_Reader_End.right (fn1_right ok19 E_ref1_Eye_End.right (fn1_right ok20 E_code_Reader_U64.right (fn1_right ok28 E_ref0_Eq.right (fn1_right ok29 E_code_Reader_Raw.right (fn1_right ok35 E_code_Reader_U8.right (fn1_right ok39 E_ref1_Eye_U8.right (fn1_right ok40 E_code_Reader_U32.right (fn1_right ok41 E_ref1_Eye_U32.right (fn1_right ok42 E_ref1_Eye_U64.right (fn1_right ok43 E_code_Reader_Var.right (fn1_right ok44 E_ref1_Eye_Var.right (fn1_right ok45 E_code_Reader_Bytes.right (fn1_right ok46 E_ref1_Eye_Text.right (fn1_right ok47 E_ref1_Eye_Raw.right (fn1_right ok48 E_ref1_Eye_Left.right noFns_right)))))))))))))))))))) plan14 _ w K Tryd.func14 (by kernel_rfl) (by kernel_rfl) (Eq.mp (F_law1_reads.eq F_code_Reader_Left F_code_Reader_At F_law1_num F_code_Reader_Fault F_code_Reader_End F_ref1_Eye_End F_code_Reader_U64 F_ref0_Eq F_code_Reader_Raw F_code_Reader_U8 F_ref1_Eye_U8 F_code_Reader_U32 F_ref1_Eye_U32 F_ref1_Eye_U64 F_code_Reader_Var F_ref1_Eye_Var F_code_Reader_Bytes F_ref1_Eye_Text F_ref1_Eye_Raw F_ref1_Eye_Left r1 e2 o3 o4 o5 o6 o7 w.heap K) hh)
theorem ok14 : okFn Tryd.prog 14 = true := by kernel_rfl
end Go.Proofs.YtompmkmbppcadaaDoor.V
/- The document's Reader (Eye), beside the program's. -/
namespace Go.Proofs.YtompmkmbppcadaaDoor.V
open Go Go.RowKit
set_option linter.unusedVariables false
set_option linter.unusedSimpArgs false
def eyC (s : Sl) (r : RS) : List Value := [.slice s.ptr s.len s.cap, .int .i64 (r.at_ : Int), .int .i64 (erN r.met)]
theorem erN_zero (m : Nat) : erN m = 0 ↔ m = 0 := by
  match m with
  | 0 => simp [erN]
  | 1 => simp [erN]
  | 2 => simp [erN]
  | 3 => simp [erN]
  | m + 4 => simp [erN]
theorem wrapu64m (n : Nat) : IntKind.u64.wrap (n : Int) = ((n % 18446744073709551616 : Nat) : Int) := by
  unfold IntKind.wrap
  simp [IntKind.bits, IntKind.signed]
theorem RS.nextB_le {r : RS} (n : Nat) : (r.nextB n).length ≤ r.b.length := by
  unfold RS.nextB
  split
  · simp
  · split
    · simp
    · rw [List.length_take, List.length_drop]; omega
theorem RS.next_p {r : RS} {n : Nat} (hm : r.met = 0) (hg : n > r.left) : r.next n = { r with met := 1 } ∧ r.nextB n = [] := by
  unfold RS.next RS.nextB
  rw [if_neg (by omega), if_pos hg, if_neg (by omega), if_pos hg]
  exact ⟨rfl, rfl⟩
theorem RS.next_q {r : RS} {n : Nat} (hm : r.met = 0) (hg : ¬ n > r.left) : r.next n = { r with at_ := r.at_ + n } ∧ r.nextB n = (r.b.drop r.at_).take n := by
  unfold RS.next RS.nextB
  rw [if_neg (by omega), if_neg hg, if_neg (by omega), if_neg hg]
  exact ⟨rfl, rfl⟩
/-- What an Eye reads stays as it is, whatever else is done. -/
def Eyes (h0 : Heap) (L : List Res) (s : Sl) (b : List UInt8) : Prop := Stays h0 L fun h => Bytes h s b ∧ s.len ≤ s.cap
section
variable {h0 h : Heap} {L : List Res} {p : Nat} {r : RS} {s : Sl}
theorem F_ref1_Eye_Left.is {Q : Int → Heap → Prop} (o : r.Ok) (hs : s.len = r.b.length) (O : Sat h0 h (own p (eyC s r) :: L)) (k : Q (r.left : Nat) h) : F_ref1_Eye_Left (some (pt p 0)) h Q := by
  rw [F_ref1_Eye_Left.eq_1, F_ref1_Eye_Left_of.eq_1]
  simp only [nn_some, pt_add, Nat.zero_add, Nat.add_zero, Nat.reduceAdd, Nat.reduceMul, Int.toNat_zero, Int.toNat_one, Nat.zero_mul, Nat.one_mul]
  unfold eyC at O
  refine O.ld 0 rfl (ldL_c (ldL_n ?_))
  refine O.ld 0 rfl (ldL_c (ldL_n ?_))
  rw [hs]
  have h1 := o.le; have h2 := o.len
  rw [wrap64 (by omega) (by omega)]
  unfold RS.left at k
  rw [show ((r.b.length : Int) - (r.at_ : Int)) = ((r.b.length - r.at_ : Nat) : Int) by omega]
  exact k
theorem F_ref1_Eye_Raw.is {n : Int} {Q : Sl → Heap → Prop} (o : r.Ok) (E : Eyes h0 L s r.b) (hn : n ≤ (9223372036854775807 : Int)) (O : Sat h0 h (own p (eyC s r) :: L)) (k : ∀ t h', Sat h0 h' (buf 1 u8 t (r.rawP n).2 :: own p (eyC s (r.rawP n).1) :: L) → Q t h') : F_ref1_Eye_Raw (some (pt p 0)) n h Q := by
  rw [F_ref1_Eye_Raw.eq_1, F_ref1_Eye_Raw_of.eq_1]
  simp only [nn_some, pt_add, Nat.zero_add, Nat.add_zero, Nat.reduceAdd, Nat.reduceMul, Int.toNat_zero, Int.toNat_one, Nat.zero_mul, Nat.one_mul]
  have hs := (E h O.drop).1.len
  have fin : ∀ {t : Sl} {h : Heap} {r' : RS} {xs : List UInt8}, Sat h0 h (buf 1 u8 t xs :: own p (eyC s r') :: L) → r.rawP n = (r', xs) → Q t h := by
    intro t h r' xs O e
    rw [e] at k
    exact k t h O
  have O1 := O
  unfold eyC at O
  refine O.ld 0 rfl (ldL_c (ldL_n ?_))
  refine brr_ne (fun hm => ?_) (fun hm => ?_)
  · have hm : r.met ≠ 0 := fun e => hm ((erN_zero _).2 e)
    refine fin O1.nil_buf ?_
    unfold RS.rawP RS.next RS.nextB
    rw [if_pos hm, if_pos hm, if_neg hm]
    split <;> rfl
  have hm : r.met = 0 := (erN_zero _).1 hm
  refine brr_p (fun hneg => ?_) (fun hneg => ?_)
  · refine O.st 0 rfl (by simp) rfl fun h O => ?_
    dsimp only [V.put, List.set] at O
    refine fin (r' := { r with met := 4 }) O.nil_buf ?_
    unfold RS.rawP
    rw [if_pos hneg, if_pos hm]
  obtain ⟨n, rfl⟩ := Int.eq_ofNat_of_zero_le (by omega : 0 ≤ n)
  have e : r.rawP (n : Int) = (r.next n, r.nextB n) := by unfold RS.rawP; rw [if_neg hneg]; rfl
  refine F_ref1_Eye_Left.is o hs O1 ?_
  refine brr_p (fun hg => ?_) (fun hg => ?_)
  · rw [(RS.next_p hm (by omega)).1, (RS.next_p hm (by omega)).2] at e
    refine O.st 0 rfl (by simp) rfl fun h O => ?_
    dsimp only [V.put, List.set] at O
    exact fin (r' := { r with met := 1 }) O.nil_buf e
  have hg : ¬ n > r.left := by omega
  rw [(RS.next_q hm hg).1, (RS.next_q hm hg).2] at e
  unfold RS.left at hg
  have h1 := o.le; have h2 := o.len
  have hc := (E h O1.drop).2
  refine O.ld 0 rfl (ldL_c (k := .sl) (x := s) (ldL_n ?_))
  refine O.ld 0 rfl (ldL_c (ldL_n ?_))
  refine O.ld 0 rfl (ldL_c (ldL_n ?_))
  rw [wrap64 (by omega) (by omega)]
  refine ⟨by omega, by omega, by omega, ?_⟩
  have V2 := (E h O1.drop).1.slice r.at_ (r.at_ + n) (s.cap - r.at_) (by omega) (by omega) hc
  rw [show r.at_ + n - r.at_ = n by omega] at V2
  rw [show ((r.at_ : Int) + n).toNat - (r.at_ : Int).toNat = n by omega, show (r.at_ : Int).toNat = r.at_ by omega]
  refine F_ref0_Copy.is O V2 (by rw [List.length_take, List.length_drop]; omega) fun t h O _ _ => ?_
  refine O.ld 1 rfl (ldL_c (ldL_n ?_))
  have O := O.swap
  refine O.st 0 rfl (by simp) rfl fun h O => ?_
  dsimp only [V.put, List.set] at O
  rw [wrap64 (by omega) (by omega)] at O
  refine fin (r' := { r with at_ := r.at_ + n }) ?_ e
  unfold eyC
  rw [show (((r.at_ + n : Nat)) : Int) = (r.at_ : Int) + n by omega]
  exact O.swap
theorem F_ref1_Eye_fixed.is {n : Nat} {Q : Int → Heap → Prop} (o : r.Ok) (E : Eyes h0 L s r.b) (hn : n ≤ 8) (O : Sat h0 h (own p (eyC s r) :: L)) (k : ∀ h', Sat h0 h' (own p (eyC s (r.next n)) :: L) → Q ((beN (r.nextB n) : Nat) : Int) h') : F_ref1_Eye_fixed (some (pt p 0)) n h Q := by
  rw [F_ref1_Eye_fixed.eq_1, F_ref1_Eye_fixed_of.eq_1]
  refine F_ref1_Eye_Raw.is (n := n) o E (by omega) O fun t h O => ?_
  have e : r.rawP (n : Int) = (r.next n, r.nextB n) := by unfold RS.rawP; rw [if_neg (by omega)]; rfl
  rw [e] at O
  dsimp only at O
  have hlen := nextB_len r n
  generalize r.nextB n = ys at *
  have V1 := (O.view 0 u8_len (by simp) rfl).1
  refine jn1 (fun (x : Int) h' => x = ((beN ys : Nat) : Int) ∧ h' = h) ?_ ?_
  · rintro x h ⟨rfl, rfl⟩
    exact k _ O.drop
  · intro j hj
    rw [F_ref1_Eye_fixed.l1.eq_1]
    refine wl2 (k := .int .u64) (l := .int .i64) (fun (m : Nat) (x i : Int) (h' : Heap) => 0 ≤ i ∧ i + m = ys.length ∧ h' = h ∧ x = ((beN (ys.take i.toNat) : Nat) : Int)) ?_ (m := ys.length) ⟨by omega, by omega, rfl, rfl⟩
    rintro m (x : Int) (i : Int) h next hn2 ⟨hi0, him, rfl, rfl⟩
    rw [V1.len]
    refine brr_p (fun hlt => ?_) (fun hlt => ?_)
    · refine Bytes.at V1 hi0 hlt fun c hc => ?_
      have hb := beN_lt (ys.take i.toNat)
      rw [List.length_take, Nat.min_eq_left (by omega)] at hb
      have h256 : 256 ^ i.toNat ≤ 256 ^ 7 := Nat.pow_le_pow_right (by decide) (by omega)
      have hb2 : beN (ys.take i.toNat) < 72057594037927936 := Nat.lt_of_lt_of_le hb h256
      have hcl := c.toNat_lt
      rw [wrapu64 (x := ((beN (ys.take i.toNat) : Nat) : Int) * 256) (by omega) (by omega), wrapu64 (x := (c.toNat : Int)) (by omega) (by omega), wrapu64 (by omega) (by omega), wrap64 (by omega) (by omega)]
      refine hn2 (m - 1) _ _ _ (by omega) ⟨by omega, by omega, rfl, ?_⟩
      rw [show (i + 1).toNat = i.toNat + 1 by omega, take_succ_eq hc, beN_snoc]
      omega
    · refine hj _ _ ⟨?_, rfl⟩
      rw [List.take_of_length_le (by omega)]
theorem F_ref1_Eye_U8.is {Q : Int → Heap → Prop} (o : r.Ok) (E : Eyes h0 L s r.b) (O : Sat h0 h (own p (eyC s r) :: L)) (k : ∀ h', Sat h0 h' (own p (eyC s (r.next 1)) :: L) → Q ((beN (r.nextB 1) : Nat) : Int) h') : F_ref1_Eye_U8 (some (pt p 0)) h Q := by
  rw [F_ref1_Eye_U8.eq_1, F_ref1_Eye_U8_of.eq_1]
  refine F_ref1_Eye_fixed.is (n := 1) o E (by decide) O fun h O => ?_
  have hb := beN_lt (r.nextB 1)
  have hl := nextB_len r 1
  have h256 : 256 ^ (r.nextB 1).length ≤ 256 ^ 1 := Nat.pow_le_pow_right (by decide) hl
  rw [wrap8_ofNat]
  have : (UInt8.ofNat (beN (r.nextB 1))).toNat = beN (r.nextB 1) := by simp; omega
  rw [this]
  exact k h O
theorem F_ref1_Eye_U32.is {Q : Int → Heap → Prop} (o : r.Ok) (E : Eyes h0 L s r.b) (O : Sat h0 h (own p (eyC s r) :: L)) (k : ∀ h', Sat h0 h' (own p (eyC s (r.next 4)) :: L) → Q ((beN (r.nextB 4) : Nat) : Int) h') : F_ref1_Eye_U32 (some (pt p 0)) h Q := by
  rw [F_ref1_Eye_U32.eq_1, F_ref1_Eye_U32_of.eq_1]
  refine F_ref1_Eye_fixed.is (n := 4) o E (by decide) O fun h O => ?_
  have hb := beN_lt (r.nextB 4)
  have hl := nextB_len r 4
  have h256 : 256 ^ (r.nextB 4).length ≤ 256 ^ 4 := Nat.pow_le_pow_right (by decide) hl
  rw [wrapu32 (by omega) (by omega)]
  exact k h O
theorem F_ref1_Eye_U64.is {Q : Int → Heap → Prop} (o : r.Ok) (E : Eyes h0 L s r.b) (O : Sat h0 h (own p (eyC s r) :: L)) (k : ∀ h', Sat h0 h' (own p (eyC s (r.next 8)) :: L) → Q ((beN (r.nextB 8) : Nat) : Int) h') : F_ref1_Eye_U64 (some (pt p 0)) h Q := by
  rw [F_ref1_Eye_U64.eq_1, F_ref1_Eye_U64_of.eq_1]
  exact F_ref1_Eye_fixed.is (n := 8) o E (by decide) O k
theorem F_ref1_Eye_End.is {Q : Int → Heap → Prop} (o : r.Ok) (hs : s.len = r.b.length) (O : Sat h0 h (own p (eyC s r) :: L)) (k : Q r.endN h) : F_ref1_Eye_End (some (pt p 0)) h Q := by
  rw [F_ref1_Eye_End.eq_1, F_ref1_Eye_End_of.eq_1]
  simp only [nn_some, pt_add, Nat.zero_add, Nat.add_zero, Nat.reduceAdd, Nat.reduceMul, Int.toNat_zero, Int.toNat_one, Nat.zero_mul, Nat.one_mul]
  unfold RS.endN at k
  refine jn1 (fun (b : Bool) h' => b = decide (r.met = 0 ∧ r.left > 0) ∧ h' = h) ?_ ?_
  · rintro (b : Bool) h ⟨rfl, rfl⟩
    refine brr_p (fun hp => ?_) (fun hp => ?_)
    · rw [if_pos hp] at k; exact k
    · rw [if_neg hp] at k
      unfold eyC at O
      refine O.ld 0 rfl (ldL_c (ldL_n ?_))
      exact k
  · intro j hj
    have O1 := O
    unfold eyC at O1
    refine O1.ld 0 rfl (ldL_c (ldL_n ?_))
    refine brr_eq (fun hm => ?_) (fun hm => ?_)
    · refine F_ref1_Eye_Left.is o hs O ?_
      refine hj _ _ ⟨?_, rfl⟩
      have : r.met = 0 := (erN_zero _).1 hm
      simp [this]
    · refine hj _ _ ⟨?_, rfl⟩
      have : r.met ≠ 0 := fun e => hm ((erN_zero _).2 e)
      simp [this]
theorem look_at {b : List UInt8} {a i : Nat} (hi : i < 10) : ((b.drop a).take 10)[i]? = b[a + i]? := by
  rw [List.getElem?_take, if_pos hi, List.getElem?_drop]
theorem F_ref1_Eye_last.is {Q : Int → Heap → Prop} (o : r.Ok) (E : Eyes h0 L s r.b) (O : Sat h0 h (own p (eyC s r) :: L)) (k1 : vlast r.look = none → Q (-1) h) (k2 : ∀ k, vlast r.look = some k → Q ((r.at_ + k : Nat) : Int) h) : F_ref1_Eye_last (some (pt p 0)) h Q := by
  rw [F_ref1_Eye_last.eq_1, F_ref1_Eye_last_of.eq_1]
  have h1 := o.le; have h2 := o.len
  have hs := (E h O.drop).1.len
  have hlen := r.look_len
  have hleft : r.left = r.b.length - r.at_ := rfl
  unfold eyC at O
  refine jn0 (fun h' => h' = h ∧ vlast r.look = none) (fun h' ⟨e1, e2⟩ => e1 ▸ k1 e2) fun j hj => ?_
  rw [F_ref1_Eye_last.l1.eq_1]
  simp only [nn_some, pt_add, Nat.zero_add, Nat.add_zero, Nat.reduceAdd, Nat.reduceMul, Int.toNat_zero, Int.toNat_one, Nat.zero_mul, Nat.one_mul]
  refine wl1 (k := .int .i64) (fun (m : Nat) (i : Int) (h' : Heap) => 0 ≤ i ∧ i + m = r.look.length ∧ h' = h ∧ vlast r.look = (vlast (r.look.drop i.toNat)).map (· + i.toNat)) ?_ (m := r.look.length) ⟨by omega, by omega, rfl, by simp⟩
  rintro m (i : Int) h next hn ⟨hi0, him, rfl, hv⟩
  obtain ⟨i, rfl⟩ := Int.eq_ofNat_of_zero_le hi0
  simp only [Int.toNat_natCast] at *
  refine jn1 (fun (b : Bool) h' => b = decide (i < r.look.length) ∧ h' = h) ?_ ?_
  case refine_2 =>
    intro j2 hj2
    refine brr_p (fun h10 => ?_) (fun h10 => ?_)
    · refine O.ld 0 rfl (ldL_c (ldL_n ?_))
      refine O.ld 0 rfl (ldL_c (ldL_n ?_))
      refine hj2 _ _ ⟨?_, rfl⟩
      rw [wrap64 (by omega) (by omega)]
      apply decide_eq_decide.2
      show (r.at_ : Int) + i < ((s.len : Nat) : Int) ↔ _
      have : (i : Int) < 10 := h10
      omega
    · refine hj2 _ _ ⟨?_, rfl⟩
      have : ¬ (i : Int) < 10 := h10
      rw [decide_eq_false]
      omega
  rintro (b : Bool) h ⟨rfl, rfl⟩
  refine brr_p (fun hlt => ?_) (fun hlt => ?_)
  · refine O.ld 0 rfl (ldL_c (k := .sl) (x := s) (ldL_n ?_))
    refine O.ld 0 rfl (ldL_c (ldL_n ?_))
    rw [wrap64 (by omega) (by omega)]
    have hc : r.look[i]? = r.b[r.at_ + i]? := look_at (by omega)
    refine Bytes.at (E h O.drop).1 (by omega) (by omega) fun c hx => ?_
    rw [show ((r.at_ : Int) + i).toNat = r.at_ + i by omega, ← hc] at hx
    have hst := vlast_step hx
    generalize hcn : (c.toNat : Int) = cn
    refine brr_p (fun h128 => ?_) (fun h128 => ?_)
    · refine O.ld 0 rfl (ldL_c (ldL_n ?_))
      rw [if_pos (by omega)] at hst
      rw [wrap64 (by omega) (by omega), show ((r.at_ : Int) + i) = ((r.at_ + i : Nat) : Int) by omega]
      refine k2 i ?_
      rw [hv, hst]; simp
    · rw [if_neg (by omega)] at hst
      rw [wrap64 (by omega) (by omega)]
      refine hn (m - 1) _ _ (by omega) ⟨by omega, by omega, rfl, ?_⟩
      rw [hv, hst, show ((i : Int) + 1).toNat = i + 1 by omega]
      cases vlast (r.look.drop (i + 1)) with
      | none => rfl
      | some y => simp; omega
  · refine hj _ ⟨rfl, ?_⟩
    rw [vlast_end (by omega)] at hv
    exact hv
theorem F_ref1_Eye_Var.is {most : Nat} {Q : Int → Heap → Prop} (o : r.Ok) (E : Eyes h0 L s r.b) (O : Sat h0 h (own p (eyC s r) :: L)) (k : ∀ h', Sat h0 h' (own p (eyC s (r.varP most).1) :: L) → Q (((r.varP most).2 : Nat) : Int) h') : F_ref1_Eye_Var (some (pt p 0)) most h Q := by
  rw [F_ref1_Eye_Var.eq_1, F_ref1_Eye_Var_of.eq_1]
  simp only [nn_some, pt_add, Nat.zero_add, Nat.add_zero, Nat.reduceAdd, Nat.reduceMul, Int.toNat_zero, Int.toNat_one, Nat.zero_mul, Nat.one_mul]
  have h1 := o.le; have h2 := o.len
  have hs := (E h O.drop).1.len
  have hcap := (E h O.drop).2
  have hlen := r.look_len
  have hleft : r.left = r.b.length - r.at_ := rfl
  have O1 := O
  unfold eyC at O
  refine O.ld 0 rfl (ldL_c (ldL_n ?_))
  refine brr_ne (fun hm => ?_) (fun hm => ?_)
  · have hm : r.met ≠ 0 := fun e => hm ((erN_zero _).2 e)
    have e : r.varP most = (r, 0) := by unfold RS.varP; rw [if_pos hm]
    rw [e] at k
    exact k h O1
  have hm : r.met = 0 := (erN_zero _).1 hm
  refine F_ref1_Eye_last.is o E O1 (fun hv => ?_) (fun kk hv => ?_)
  · rw [RS.varP_none hm hv] at k
    refine brr_tt (by simp) ?_
    refine O.st 0 rfl (by simp) rfl fun h O => ?_
    dsimp only [V.put, List.set] at O
    refine F_ref1_Eye_Left.is (r := { r with met := 2 }) ⟨o.le, o.len, by show 2 ≤ 4; decide⟩ hs O ?_
    refine jn0 (fun h' => Sat h0 h' (own p (eyC s { r with met := if r.look.length < 10 then 1 else 2 }) :: L)) (fun h O => k h O) fun j hj => ?_
    have el : RS.left { r with met := 2 } = r.left := rfl
    rw [el]
    refine brr_p (fun hlt => ?_) (fun hlt => ?_)
    · rw [if_pos (by omega)] at hj
      refine O.st 0 rfl (by simp) rfl fun h O => ?_
      dsimp only [V.put, List.set] at O
      exact hj _ O
    · rw [if_neg (by omega)] at hj
      exact hj _ O
  obtain ⟨c0, hc0, hc1, _⟩ := vlast_some hv
  have hkl := (List.getElem?_eq_some_iff.1 hc0).1
  have vS := RS.varP_some (most := most) hm hv
  have hform := form_iff hv (by omega)
  have htk : (r.look.take (kk + 1)).length = kk + 1 := by rw [List.length_take]; omega
  refine brr_ff (decide_eq_false (by omega)) ?_
  refine jn1 (fun (x : Int) h' => x = ((vnum (r.look.take (kk + 1)) % 18446744073709551616 : Nat) : Int) ∧ h' = h) ?_ ?_
  case refine_2 =>
    intro j hj
    rw [F_ref1_Eye_Var.l1.eq_1]
    simp only [nn_some, pt_add, Nat.zero_add, Nat.add_zero, Nat.reduceAdd, Nat.reduceMul, Int.toNat_zero, Int.toNat_one, Nat.zero_mul, Nat.one_mul]
    refine wl2 (k := .int .u64) (l := .int .i64) (fun (m : Nat) (x i : Int) (h' : Heap) => i + 1 = r.at_ + m ∧ m ≤ kk + 1 ∧ h' = h ∧ x = ((vnum ((r.look.take (kk + 1)).drop m) % 18446744073709551616 : Nat) : Int)) ?_ (m := kk + 1) ⟨by omega, by omega, rfl, by rw [List.drop_eq_nil_of_le (by omega)]; rfl⟩
    rintro m (x : Int) (i : Int) h next hn ⟨him, hmk, rfl, rfl⟩
    refine O.ld 0 rfl (ldL_c (ldL_n ?_))
    refine brr_p (fun hge => ?_) (fun hge => ?_)
    · have hge : i ≥ (r.at_ : Int) := hge
      refine O.ld 0 rfl (ldL_c (k := .sl) (x := s) (ldL_n ?_))
      refine Bytes.at (E h O1.drop).1 (by omega) (by omega) fun c hx => ?_
      have hx2 : (r.look.take (kk + 1))[m - 1]? = some c := by
        rw [List.getElem?_take, if_pos (by omega), show r.look[m - 1]? = r.b[r.at_ + (m - 1)]? from look_at (by omega), show r.at_ + (m - 1) = i.toNat by omega]
        exact hx
      have hd : (r.look.take (kk + 1)).drop (m - 1) = c :: (r.look.take (kk + 1)).drop m := by
        obtain ⟨hl, e⟩ := List.getElem?_eq_some_iff.1 hx2
        rw [List.drop_eq_getElem_cons hl, e, show m - 1 + 1 = m by omega]
      refine ⟨by decide, ?_⟩
      have e3 : ((c.toNat : Int)).tmod 128 = ((c.toNat % 128 : Nat) : Int) := by rw [Int.tmod_eq_emod_of_nonneg (by omega)]; omega
      have e4 : ∀ v : Nat, ((v % 18446744073709551616 : Nat) : Int) * 128 = ((v % 18446744073709551616 * 128 : Nat) : Int) := fun v => by omega
      rw [e3, e4, wrapu64m, wrapu64m, ← Int.natCast_add, wrapu64m, wrap64 (by omega) (by omega)]
      refine hn (m - 1) _ _ _ (by omega) ⟨by omega, by omega, rfl, ?_⟩
      rw [hd]
      show _ = ((((c.toNat % 128 + 128 * vnum ((r.look.take (kk + 1)).drop m)) % 18446744073709551616 : Nat)) : Int)
      omega
    · refine hj _ _ ⟨?_, rfl⟩
      have : m = 0 := by
        have hge : ¬ i ≥ (r.at_ : Int) := hge
        omega
      subst this
      rfl
  rintro (x : Int) h ⟨rfl, rfl⟩
  refine O.ld 0 rfl (ldL_c (k := .sl) (x := s) (ldL_n ?_))
  refine O.ld 0 rfl (ldL_c (ldL_n ?_))
  rw [wrap64 (by omega) (by omega)]
  refine ⟨by omega, by omega, by omega, ?_⟩
  refine F_ref1_Var.is O (Nat.mod_lt _ (by decide)) fun t h O => ?_
  refine ⟨O.cells 1 rfl 0 1, O.cells 1 rfl 1 1, ?_⟩
  have V2 := (E h O.drop.drop).1.slice r.at_ (r.at_ + (kk + 1)) (s.cap - r.at_) (by omega) (by omega) hcap
  rw [show r.at_ + (kk + 1) - r.at_ = kk + 1 by omega] at V2
  have e5 : (r.b.drop r.at_).take (kk + 1) = r.look.take (kk + 1) := by
    show _ = ((r.b.drop r.at_).take 10).take (kk + 1)
    rw [List.take_take, Nat.min_eq_left (by omega)]
  rw [e5] at V2
  rw [show (((r.at_ + kk : Nat) : Int) + 1).toNat - (r.at_ : Int).toNat = kk + 1 by omega, show (r.at_ : Int).toNat = r.at_ by omega]
  have hvb := (varB_le (n := vnum (r.look.take (kk + 1)) % 18446744073709551616) (Nat.mod_lt _ (by decide))).1
  refine F_ref0_Eq.is (O.view 0 u8_len (by simp) rfl).1 V2 (by omega) (by omega) ?_
  rw [hform, Bool.not_not]
  have O := O.drop
  refine brr_of (fun hb => ?_) (fun hb => ?_)
  · rw [if_pos hb] at vS
    refine O.st 0 rfl (by simp) rfl fun h O => ?_
    dsimp only [V.put, List.set] at O
    rw [vS] at k
    exact k h O
  have e6 : vnum (r.look.take (kk + 1)) % 18446744073709551616 = vnum (r.look.take (kk + 1)) := by
    rw [hb] at hform
    have := of_decide_eq_true hform
    have e7 := vnum_varB (vnum (r.look.take (kk + 1)) % 18446744073709551616)
    rw [this] at e7
    exact e7.symm
  rw [hb] at vS
  simp only [Bool.false_eq_true, if_false] at vS
  rw [e6]
  refine brr_p (fun hg => ?_) (fun hg => ?_)
  · rw [if_pos (by omega)] at vS
    refine O.st 0 rfl (by simp) rfl fun h O => ?_
    dsimp only [V.put, List.set] at O
    rw [vS] at k
    exact k h O
  · rw [if_neg (by omega)] at vS
    refine O.st 0 rfl (by simp) rfl fun h O => ?_
    dsimp only [V.put, List.set] at O
    rw [vS] at k
    refine k h ?_
    unfold eyC
    rw [show ((r.at_ + (kk + 1) : Nat) : Int) = ((r.at_ + kk : Nat) : Int) + 1 by omega]
    exact O
end
end Go.Proofs.YtompmkmbppcadaaDoor.V
/- One call of a Reader, beside the document's. -/
namespace Go.Proofs.YtompmkmbppcadaaDoor.V
open Go Go.RowKit
set_option linter.unusedVariables false
set_option linter.unusedSimpArgs false
theorem Eyes.drop {h0 : Heap} {L : List Res} {s : Sl} {b : List UInt8} {A : Res} (E : Eyes h0 L s b) : Eyes h0 (A :: L) s b := fun h O => E h O.drop
def RS.stepP (r : RS) (op : COp) : RS :=
  if op.kind = 1 then r.next 1 else if op.kind = 2 then r.next 4 else if op.kind = 3 then r.next 8 else if op.kind = 4 then (r.varP op.n).1
  else if op.kind = 5 then (r.bytesP op.m).1 else if op.kind = 6 then (r.rawP op.m).1 else r
theorem RS.Ok.stepP {r : RS} (o : r.Ok) (op : COp) : (r.stepP op).Ok := by
  unfold RS.stepP
  split
  · exact o.next _
  split
  · exact o.next _
  split
  · exact o.next _
  split
  · exact o.varP _
  split
  · exact o.bytesP _
  split
  · exact o.rawP _
  · exact o
theorem RS.next_b {r : RS} {n : Nat} : (r.next n).b = r.b := by
  unfold RS.next
  split
  · rfl
  · split <;> rfl
theorem RS.bytesP_b {r : RS} {n : Int} : (r.bytesP n).1.b = r.b := by
  unfold RS.bytesP
  split
  · exact RS.varP_b
  · show (RS.next _ _).b = _
    rw [RS.next_b, RS.varP_b]
theorem RS.rawP_b {r : RS} {n : Int} : (r.rawP n).1.b = r.b := by
  unfold RS.rawP
  split
  · show (if _ then _ else _ : RS).b = _
    split <;> rfl
  · exact RS.next_b
theorem RS.stepP_b {r : RS} {op : COp} : (r.stepP op).b = r.b := by
  unfold RS.stepP
  split
  · exact RS.next_b
  split
  · exact RS.next_b
  split
  · exact RS.next_b
  split
  · exact RS.varP_b
  split
  · exact RS.bytesP_b
  split
  · exact RS.rawP_b
  · rfl
theorem RS.bytesP_le {r : RS} {n : Int} : (r.bytesP n).2.length ≤ r.b.length := by
  unfold RS.bytesP
  split
  · simp
  · have := RS.nextB_le (r := (r.varP (max 0 n).toNat).1) (r.varP (max 0 n).toNat).2
    rw [RS.varP_b] at this
    exact this
theorem RS.rawP_le {r : RS} {n : Int} : (r.rawP n).2.length ≤ r.b.length := by
  unfold RS.rawP
  split
  · simp
  · exact RS.nextB_le _
section
variable {h0 h : Heap} {L : List Res} {p q : Nat} {r : RS} {s : Sl}
theorem F_ref1_Eye_Text.is {most : Int} {Q : Sl → Heap → Prop} (o : r.Ok) (E : Eyes h0 L s r.b) (hmo : most ≤ (9223372036854775807 : Int)) (O : Sat h0 h (own p (eyC s r) :: L)) (k : ∀ t h', Sat h0 h' (buf 1 u8 t (r.bytesP most).2 :: own p (eyC s (r.bytesP most).1) :: L) → Q t h') : F_ref1_Eye_Text (some (pt p 0)) most h Q := by
  rw [F_ref1_Eye_Text.eq_1, F_ref1_Eye_Text_of.eq_1]
  simp only [nn_some, pt_add, Nat.zero_add, Nat.add_zero, Nat.reduceAdd, Nat.reduceMul, Int.toNat_zero, Int.toNat_one, Nat.zero_mul, Nat.one_mul]
  have e : r.bytesP most = _ := RS.bytesP.eq_1 r most
  refine jn1 (fun (x : Int) h' => x = (((max 0 most).toNat : Nat) : Int) ∧ h' = h) ?_ ?_
  case refine_2 =>
    intro j hj
    refine brr_p (fun hlt => ?_) (fun hlt => ?_)
    · exact hj _ _ ⟨by omega, rfl⟩
    · exact hj _ _ ⟨by omega, rfl⟩
  rintro (x : Int) h ⟨rfl, rfl⟩
  have hmx : (max 0 most).toNat ≤ 9223372036854775807 := by omega
  generalize (max 0 most).toNat = mo at *
  have O1 := O
  unfold eyC at O1
  refine O1.ld 0 rfl (ldL_c (ldL_n ?_))
  rw [wrapu64 (by omega) (by omega)]
  refine F_ref1_Eye_Var.is o E O fun h O => ?_
  have o1 := o.varP mo
  have hn := RS.varP_le (r := r) (most := mo)
  have hb := RS.varP_b (r := r) (most := mo)
  have hmet := RS.varP_met (r := r) (most := mo)
  generalize (r.varP mo).2 = n at *
  generalize (r.varP mo).1 = r1 at *
  have E1 : Eyes h0 L s r1.b := by rw [hb]; exact E
  rw [wrap64 (by omega) (by omega)]
  refine F_ref1_Eye_Raw.is (n := n) o1 E1 (by omega) O fun t h O => ?_
  have er : r1.rawP (n : Int) = (r1.next n, r1.nextB n) := by unfold RS.rawP; rw [if_neg (by omega)]; rfl
  rw [er] at O
  dsimp only at O
  have O2 := O
  unfold eyC at O2
  refine O2.ld 1 rfl (ldL_c (ldL_n ?_))
  refine brr_ne (fun hm => ?_) (fun hm => ?_)
  · have hm : (r1.next n).met ≠ 0 := fun e => hm ((erN_zero _).2 e)
    have O := O2.drop
    refine O.st 0 rfl (by simp) rfl fun h O => ?_
    dsimp only [V.put, List.set] at O
    have eb : r.bytesP most = ({ r1.next n with at_ := r.at_ }, []) := by
      rw [e]
      by_cases h1 : r1.met = 0
      · by_cases h2 : n > r1.left
        · rw [if_pos ⟨h1, h2⟩, (RS.next_p h1 h2).1]
        · rw [(RS.next_q h1 h2).1] at hm
          exact absurd h1 hm
      · rw [if_neg (fun x => h1 x.1)]
        unfold RS.next RS.nextB
        rw [if_pos h1, if_pos h1, ← (hmet h1).2]
    rw [eb] at k
    exact k _ _ (O.nil_buf (sz := 1) (enc := u8))
  · have hm : (r1.next n).met = 0 := (erN_zero _).1 hm
    have eb : r.bytesP most = (r1.next n, r1.nextB n) := by
      rw [e]
      by_cases h1 : r1.met = 0
      · by_cases h2 : n > r1.left
        · rw [(RS.next_p h1 h2).1] at hm
          cases hm
        · rw [if_neg (fun x => h2 x.2)]
      · rw [if_neg (fun x => h1 x.1)]
    rw [eb] at k
    exact k _ _ O
theorem F_law1_reads.is {op : COp} {Q : Bool → Heap → Prop} (o : r.Ok) (E : Eyes h0 L s r.b) (Ee : Er h0) (hn : op.n < 18446744073709551616) (hM : op.m ≤ (9223372036854775807 : Int)) (O : Sat h0 h (rdR p r :: own q (eyC s r) :: L)) (k : ∀ h', Sat h0 h' (rdR p (r.stepP op) :: own q (eyC s (r.stepP op)) :: L) → Q true h') : F_law1_reads (some (pt p 0)) (some (pt q 0)) op.kind op.which op.m op.n op.s h Q := by
  rw [F_law1_reads.eq_1, F_law1_reads_of.eq_1]
  have hs : s.len = r.b.length := (E h O.drop.drop).1.len
  have hbl := o.len
  refine O.al fun a h O => ?_
  simp only [nn_some, pt_add, Nat.zero_add, Nat.add_zero, Nat.reduceAdd, Nat.reduceMul, Int.toNat_zero, Int.toNat_one, Nat.zero_mul, Nat.one_mul]
  refine O.ld 0 rfl (ldL_c (ldL_n ?_))
  unfold RS.stepP at k
  replace O := O.sel [1, 2, 0] 3 rfl (Nat.le_add_left _ _)
  simp only [selT, List.map, nth, List.drop, List.cons_append, List.nil_append] at O
  refine brr_eq (fun hk => ?_) (fun hk => ?_)
  · rw [if_pos hk] at k
    refine F_code_Reader_U8.is o O fun h O => ?_
    refine F_ref1_Eye_U8.is o E.drop.drop O.swap fun h O => ?_
    replace O := O.sel [1, 0] 3 rfl (Nat.le_add_left _ _)
    simp only [selT, List.map, nth, List.drop, List.cons_append, List.nil_append] at O
    refine Eq.mpr (congrArg (Q · h) (by simp)) (k h O)
  rw [if_neg hk] at k
  refine brr_eq (fun hk => ?_) (fun hk => ?_)
  · rw [if_pos hk] at k
    refine F_code_Reader_U32.is o O fun h O => ?_
    refine F_ref1_Eye_U32.is o E.drop.drop O.swap fun h O => ?_
    replace O := O.sel [1, 0] 3 rfl (Nat.le_add_left _ _)
    simp only [selT, List.map, nth, List.drop, List.cons_append, List.nil_append] at O
    refine Eq.mpr (congrArg (Q · h) (by simp)) (k h O)
  rw [if_neg hk] at k
  refine brr_eq (fun hk => ?_) (fun hk => ?_)
  · rw [if_pos hk] at k
    refine F_code_Reader_U64.is o O fun h O => ?_
    refine F_ref1_Eye_U64.is o E.drop.drop O.swap fun h O => ?_
    replace O := O.sel [1, 0] 3 rfl (Nat.le_add_left _ _)
    simp only [selT, List.map, nth, List.drop, List.cons_append, List.nil_append] at O
    refine Eq.mpr (congrArg (Q · h) (by simp)) (k h O)
  rw [if_neg hk] at k
  refine brr_eq (fun hk => ?_) (fun hk => ?_)
  · rw [if_pos hk] at k
    refine O.ld 2 rfl (ldL_c (ldL_n ?_))
    refine O.ld 2 rfl (ldL_c (ldL_n ?_))
    refine F_code_Reader_Var.is o O fun h O => ?_
    refine ⟨O.cells 2 rfl 3 1, ?_⟩
    refine F_ref1_Eye_Var.is o E.drop.drop O.swap fun h O => ?_
    replace O := O.sel [1, 0] 3 rfl (Nat.le_add_left _ _)
    simp only [selT, List.map, nth, List.drop, List.cons_append, List.nil_append] at O
    refine Eq.mpr (congrArg (Q · h) (by simp)) (k h O)
  rw [if_neg hk] at k
  refine brr_eq (fun hk => ?_) (fun hk => ?_)
  · rw [if_pos hk] at k
    refine O.ld 2 rfl (ldL_c (ldL_n ?_))
    refine O.ld 2 rfl (ldL_c (ldL_n ?_))
    refine F_code_Reader_Bytes.is o hM O fun t h O => ?_
    refine ⟨O.cells 3 rfl 2 1, ?_⟩
    replace O := O.sel [2, 0, 1, 3] 4 rfl (Nat.le_add_left _ _)
    simp only [selT, List.map, nth, List.drop, List.cons_append, List.nil_append] at O
    refine F_ref1_Eye_Text.is o E.drop.drop.drop hM O fun t2 h O => ?_
    have hl := RS.bytesP_le (r := r) (n := op.m)
    refine F_ref0_Eq.is (O.view 2 u8_len (by simp) rfl).1 (O.view 0 u8_len (by simp) rfl).1 (by omega) (by omega) ?_
    replace O := O.sel [3, 1] 5 rfl (Nat.le_add_left _ _)
    simp only [selT, List.map, nth, List.drop, List.cons_append, List.nil_append] at O
    refine Eq.mpr (congrArg (Q · h) (by simp)) (k h O)
  rw [if_neg hk] at k
  refine brr_eq (fun hk => ?_) (fun hk => ?_)
  · rw [if_pos hk] at k
    refine O.ld 2 rfl (ldL_c (ldL_n ?_))
    refine O.ld 2 rfl (ldL_c (ldL_n ?_))
    refine F_code_Reader_Raw.is o hM O fun t h O => ?_
    refine ⟨O.cells 3 rfl 2 1, ?_⟩
    replace O := O.sel [2, 0, 1, 3] 4 rfl (Nat.le_add_left _ _)
    simp only [selT, List.map, nth, List.drop, List.cons_append, List.nil_append] at O
    refine F_ref1_Eye_Raw.is o E.drop.drop.drop hM O fun t2 h O => ?_
    have hl := RS.rawP_le (r := r) (n := op.m)
    refine F_ref0_Eq.is (O.view 2 u8_len (by simp) rfl).1 (O.view 0 u8_len (by simp) rfl).1 (by omega) (by omega) ?_
    replace O := O.sel [3, 1] 5 rfl (Nat.le_add_left _ _)
    simp only [selT, List.map, nth, List.drop, List.cons_append, List.nil_append] at O
    refine Eq.mpr (congrArg (Q · h) (by simp)) (k h O)
  rw [if_neg hk] at k
  have fin : ∀ {b : Bool}, b = true → Q b h := by
    intro b e
    subst e
    replace O := O.sel [0, 1] 3 rfl (Nat.le_add_left _ _)
    simp only [selT, List.map, nth, List.drop, List.cons_append, List.nil_append] at O
    exact k h O
  refine brr_eq (fun _ => ?_) (fun _ => ?_)
  · refine F_code_Reader_Left.is o O ?_
    refine F_ref1_Eye_Left.is o hs O.swap ?_
    exact fin (by simp)
  refine brr_eq (fun _ => ?_) (fun _ => ?_)
  · have O2 := O
    unfold eyC at O2
    refine O2.ld 1 rfl (ldL_c (ldL_n ?_))
    refine F_code_Reader_At.is O ?_
    exact ⟨O2.cells 1 rfl 1 1, fin (by simp)⟩
  refine brr_eq (fun _ => ?_) (fun _ => ?_)
  · have O2 := O
    unfold eyC at O2
    refine O2.ld 1 rfl (ldL_c (ldL_n ?_))
    refine F_code_Reader_Fault.is (Ee.sat O) o O ?_
    refine ⟨O2.cells 1 rfl 2 1, ?_⟩
    rw [F_law1_num.eq_1, F_law1_num_of.eq_1]
    exact ⟨O2.cells 1 rfl 2 1, fin (by simp)⟩
  refine brr_eq (fun _ => ?_) (fun _ => ?_)
  · refine F_code_Reader_End.is (Ee.sat O) o O ?_
    rw [F_law1_num.eq_1, F_law1_num_of.eq_1]
    refine F_ref1_Eye_End.is o hs O.swap ?_
    exact fin (by simp)
  · exact fin rfl
end
end Go.Proofs.YtompmkmbppcadaaDoor.V
/- Arrays that are filled one by one; an array at the head of a struct. -/
namespace Go.Proofs.YtompmkmbppcadaaDoor.V
open Go Go.RowKit
set_option linter.unusedVariables false
set_option linter.unusedSimpArgs false
variable {α β : Type}
def optc (o : Option Addr) : List Value := [.pointer o]
theorem optc_len (x : Option Addr) : (optc x).length = 1 := rfl
theorem optc_one (x : Option Addr) : (optc x).all oneV = true := rfl
theorem set_stage (f : α → β) (xs : List α) (n : Nat) (y : α) (z : β) (h : xs.length < n) : (xs.map f ++ List.replicate (n - xs.length) z).set xs.length (f y) = (xs ++ [y]).map f ++ List.replicate (n - (xs ++ [y]).length) z := by
  obtain ⟨k, hk⟩ : ∃ k, n - xs.length = k + 1 := ⟨n - xs.length - 1, by omega⟩
  have e : n - (xs ++ [y]).length = k := by rw [List.length_append]; simp; omega
  rw [hk, e, List.replicate_succ, List.map_append, List.append_assoc]
  have := List.set_append_right (s := xs.map f) (t := z :: List.replicate k z) xs.length (f y) (by simp)
  rw [this]
  simp
/-- An element of one cell at the head of a block is read, and lies there for as long as the block is kept. -/
theorem Sat.getN {h0 h : Heap} {L : List Res} (O : Sat h0 h L) (j : Nat) {b n : Nat} {enc : α → List Value} {xs : List α} {ys : List Value} {i : Int} {k : Kd} {K : Addr → k.T → Prop} {x : α} (he : ∀ x, (enc x).length = 1) (hj : nth j L = own b (xs.flatMap enc ++ ys)) (h0 : 0 ≤ i) (h1 : i < (n : Int)) (hx : xs[i.toNat]? = some x) (f : α → k.T) (hf : ∀ x, enc x = [k.enc (f x)])
    (kk : ∀ a, (∀ {h0' h' : Heap} {L' : List Res}, Sat h0' h' L' → ∀ j', nth j' L' = own b (xs.flatMap enc ++ ys) → cellsAre h' a (enc x)) → K a (f x)) : ixA 1 (pt b 0) n i fun a => V.ld [k] a h (K a) := by
  have hl := (List.getElem?_eq_some_iff.1 hx).1
  refine ⟨h0, h1, ?_⟩
  have hc : ∀ {h0' h' : Heap} {L' : List Res}, Sat h0' h' L' → ∀ j', nth j' L' = own b (xs.flatMap enc ++ ys) → cellsAre h' ((pt b 0).add (i.toNat * 1)) (enc x) := by
    intro h0' h' L' O' j' hj'
    have V := view_of_blk (k := 0) he (O'.blk (nth_lt hj') hj').2
    obtain ⟨a, cs, h1, _, h3, h4⟩ := V.2 i.toNat x hx
    have e : pt b 0 = a := Option.some.inj h1
    subst e
    have e2 : cs = enc x := h3
    subst e2
    exact h4
  have h1 := hc O j hj
  rw [hf] at h1
  exact ld_are h1 (ldL_c (ldL_n (kk _ hc)))
/-- A lent list is written full. -/
theorem fill_lent {h0 h : Heap} {L : List Res} {s : Sl} {zs : List UInt8} {Q : Heap → Prop} {ii : Nat} (O : Sat h0 h (lent s zs :: L)) (hs : s.len = zs.length) (hz : zs.length ≤ 4611686018427387904) (k : ∀ zs' h', zs'.length = zs.length → Sat h0 h' (lent s zs' :: L) → Q h') :
    wl [(ii, .one (.int .i64))] (fun (next : Int → Heap → Prop) (i : Int) (h : Heap) => brr (decide (i < ((s.len : Nat) : Int))) (ixS 1 s i fun (a : Addr) => st a [.int .u8 238] h fun (h' : Heap) => next (IntKind.i64.wrap (i + 1)) h') (Q h)) 0 h := by
  refine wl1 (k := .int .i64) (fun (m : Nat) (i : Int) (h' : Heap) => 0 ≤ i ∧ i + m = zs.length ∧ ∃ ys : List UInt8, ys.length = zs.length ∧ Sat h0 h' (lent s ys :: L)) ?_ (m := zs.length) ⟨by omega, by omega, zs, rfl, O⟩
  clear O
  intro m (i : Int) h next hn ⟨hi0, him, ys, hy, O⟩
  rw [hs]
  refine brr_p (fun hlt => ?_) (fun hlt => k ys _ hy O)
  refine O.putL hi0 (by omega) 238 rfl fun h O => ?_
  rw [wrap64 (by omega) (by omega)]
  exact hn (m - 1) _ _ (by omega) ⟨by omega, by omega, _, by simp [hy], O⟩
end Go.Proofs.YtompmkmbppcadaaDoor.V
namespace Go.Proofs.YtompmkmbppcadaaDoor.V
open Go Go.RowKit
set_option linter.unusedVariables false
set_option maxRecDepth 100000
/-! tally/tallylaw1.CodeReads -/
def F_law1_CodeReads.l1 (r17 : Sl) (j40 : Heap → Prop) : Int → Heap → Prop :=
  wl [(7, .one (.int .i64))] (fun (next41 : Int → Heap → Prop) (i42 : Int) (h43 : Heap) =>
  brr (decide (i42 < ((r17.len : Nat) : Int)))
  (ixS 1 r17 i42 fun (a44 : Addr) =>
  st a44 [.int .u8 238] h43 fun (h45 : Heap) =>
  next41 (IntKind.i64.wrap (i42 + 1)) h45)
  (j40 h43))
def F_law1_CodeReads.l2 (f8_ : Sl → Heap → (Sl → Heap → Prop) → Prop) (f9_ : Sl → Heap → (Option Addr → Heap → Prop) → Prop) (f10_ : Sl → Heap → (Sl → Heap → Prop) → Prop) (f11_ : Sl → Sl → Heap → (Bool → Heap → Prop) → Prop) (f12_ : Option Addr → Heap → (Int → Heap → Prop) → Prop) (Q : Bool → Heap → Prop) (a4 : Addr) (a6 : Addr) (a8 : Addr) (j10 : Heap → Prop) : Int → Heap → Prop :=
  wl [(5, .one (.int .i64))] (fun (next11 : Int → Heap → Prop) (k12 : Int) (h13 : Heap) =>
  brr (decide (k12 < 2))
  (jn [] (fun  (h53 : Heap) =>
  next11 (IntKind.i64.wrap (k12 + 1)) h53) (fun (j14 : Heap → Prop) =>
  ixA 1 (a4.add 0) 2 k12 fun (a15 : Addr) =>
  ld [.sl] a15 h13 fun (v16 : Sl) =>
  f8_ v16 h13 fun (r17 : Sl) (h18 : Heap) =>
  f9_ r17 h18 fun (r19 : Option Addr) (h20 : Heap) =>
  ixA 1 a6 2 k12 fun (a21 : Addr) =>
  st a21 [.pointer r19] h20 fun (h22 : Heap) =>
  ixA 1 (a4.add 0) 2 k12 fun (a23 : Addr) =>
  ld [.sl] a23 h22 fun (v24 : Sl) =>
  f10_ v24 h22 fun (r25 : Sl) (h26 : Heap) =>
  al 34 [.slice r25.ptr r25.len r25.cap, .int .i64 0, .int .i64 0] h26 fun (a27 : Addr) (h28 : Heap) =>
  ixA 1 a8 2 k12 fun (a29 : Addr) =>
  st a29 [.pointer (some a27)] h28 fun (h30 : Heap) =>
  jn [(45, .one .bool)] (fun (x38 : Bool) (h39 : Heap) =>
  brr x38
  (Q false h39)
  (jn [] (fun  (h46 : Heap) =>
  ixA 1 a6 2 k12 fun (a47 : Addr) =>
  ld [.ptr] a47 h46 fun (v48 : Option Addr) =>
  ixA 1 (a4.add 0) 2 k12 fun (a49 : Addr) =>
  ld [.sl] a49 h46 fun (v50 : Sl) =>
  f12_ v48 h46 fun (r51 : Int) (h52 : Heap) =>
  cellsAre h52 a49 [.slice v50.ptr v50.len v50.cap] ∧
  brr (r51 != ((v50.len : Nat) : Int))
  (Q false h52)
  (j14 h52)) (fun (j40 : Heap → Prop) =>
  F_law1_CodeReads.l1 r17 j40 0 h39))) (fun (j31 : Bool → Heap → Prop) =>
  ixA 1 a6 2 k12 fun (a32 : Addr) =>
  ld [.ptr] a32 h30 fun (v33 : Option Addr) =>
  brr v33.isNone
  (j31 true h30)
  (ixA 1 (a4.add 0) 2 k12 fun (a34 : Addr) =>
  ld [.sl] a34 h30 fun (v35 : Sl) =>
  f11_ r17 v35 h30 fun (r36 : Bool) (h37 : Heap) =>
  j31 (!r36) h37))))
  (j10 h13))
def F_law1_CodeReads.l3 (f13_ : Int → Int → Heap → (Int → Heap → Prop) → Prop) (f14_ : Option Addr → Option Addr → Int → Int → Int → Int → Sl → Heap → (Bool → Heap → Prop) → Prop) (Q : Bool → Heap → Prop) (a4 : Addr) (a6 : Addr) (a8 : Addr) (j55 : Heap → Prop) : Int → Heap → Prop :=
  wl [(8, .one (.int .i64))] (fun (next56 : Int → Heap → Prop) (i57 : Int) (h58 : Heap) =>
  jn [(73, .one .bool)] (fun (x61 : Bool) (h62 : Heap) =>
  brr x61
  (ld [.sl] (a4.add 2) h62 fun (v63 : Sl) =>
  ixS 5 v63 i57 fun (a64 : Addr) =>
  ld [.int .i64, .int .i64, .int .i64, .int .u64, .sl] a64 h62 fun (v65 : Int) (v66 : Int) (v67 : Int) (v68 : Int) (v69 : Sl) =>
  al 39 [.int .i64 0, .int .i64 0, .int .i64 0, .int .u64 0, .slice none 0 0] h62 fun (a70 : Addr) (h71 : Heap) =>
  st a70 [.int .i64 v65, .int .i64 v66, .int .i64 v67, .int .u64 v68, .slice v69.ptr v69.len v69.cap] h71 fun (h72 : Heap) =>
  ld [.int .i64] (a70.add 1) h72 fun (v73 : Int) =>
  f13_ v73 2 h72 fun (r74 : Int) (h75 : Heap) =>
  ixA 1 a6 2 r74 fun (a76 : Addr) =>
  ld [.ptr] a76 h75 fun (v77 : Option Addr) =>
  ixA 1 a8 2 r74 fun (a78 : Addr) =>
  ld [.ptr] a78 h75 fun (v79 : Option Addr) =>
  ld [.int .i64, .int .i64, .int .i64, .int .u64, .sl] a70 h75 fun (v80 : Int) (v81 : Int) (v82 : Int) (v83 : Int) (v84 : Sl) =>
  f14_ v77 v79 v80 v81 v82 v83 v84 h75 fun (r85 : Bool) (h86 : Heap) =>
  brr (!r85)
  (Q false h86)
  (next56 (IntKind.i64.wrap (i57 + 1)) h86))
  (j55 h62)) (fun (j59 : Bool → Heap → Prop) =>
  ld [.sl] (a4.add 2) h58 fun (v60 : Sl) =>
  brr (decide (i57 < ((v60.len : Nat) : Int)))
  (j59 (decide (i57 < 400)) h58)
  (j59 false h58)))
def F_law1_CodeReads_of (f8_ : Sl → Heap → (Sl → Heap → Prop) → Prop) (f9_ : Sl → Heap → (Option Addr → Heap → Prop) → Prop) (f10_ : Sl → Heap → (Sl → Heap → Prop) → Prop) (f11_ : Sl → Sl → Heap → (Bool → Heap → Prop) → Prop) (f12_ : Option Addr → Heap → (Int → Heap → Prop) → Prop) (f13_ : Int → Int → Heap → (Int → Heap → Prop) → Prop) (f14_ : Option Addr → Option Addr → Int → Int → Int → Int → Sl → Heap → (Bool → Heap → Prop) → Prop) (f15_ : Option Addr → Heap → (Int → Heap → Prop) → Prop) (f16_ : Int → Heap → (Int → Heap → Prop) → Prop) (f17_ : Option Addr → Heap → (Int → Heap → Prop) → Prop) (f18_ : Option Addr → Heap → (Int → Heap → Prop) → Prop) (f19_ : Option Addr → Heap → (Int → Heap → Prop) → Prop) (script1 : Sl) (script2 : Sl) (script3 : Sl) (h : Heap) (Q : Bool → Heap → Prop) : Prop :=
  al 26 [.slice script1.ptr script1.len script1.cap, .slice script2.ptr script2.len script2.cap, .slice script3.ptr script3.len script3.cap] h fun (a4 : Addr) (h5 : Heap) =>
  al 28 [.pointer none, .pointer none] h5 fun (a6 : Addr) (h7 : Heap) =>
  al 30 [.pointer none, .pointer none] h7 fun (a8 : Addr) (h9 : Heap) =>
  jn [] (fun  (h54 : Heap) =>
  jn [] (fun  (h87 : Heap) =>
  jn [(2, .one .bool)] (fun (x117 : Bool) (h118 : Heap) =>
  Q x117 h118) (fun (j88 : Bool → Heap → Prop) =>
  ixA 1 a6 2 0 fun (a89 : Addr) =>
  ld [.ptr] a89 h87 fun (v90 : Option Addr) =>
  ixA 1 a8 2 0 fun (a91 : Addr) =>
  ld [.ptr] a91 h87 fun (v92 : Option Addr) =>
  nn v92 fun (a93 : Addr) =>
  ld [.int .i64] (a93.add 1) h87 fun (v94 : Int) =>
  f15_ v90 h87 fun (r95 : Int) (h96 : Heap) =>
  cellsAre h96 a91 [.pointer v92] ∧
  cellsAre h96 (a93.add 1) [.int .i64 v94] ∧
  brr (r95 == v94)
  (ixA 1 a6 2 0 fun (a97 : Addr) =>
  ld [.ptr] a97 h96 fun (v98 : Option Addr) =>
  ixA 1 a8 2 0 fun (a99 : Addr) =>
  ld [.ptr] a99 h96 fun (v100 : Option Addr) =>
  nn v100 fun (a101 : Addr) =>
  ld [.int .i64] (a101.add 2) h96 fun (v102 : Int) =>
  f17_ v98 h96 fun (r103 : Int) (h104 : Heap) =>
  cellsAre h104 a99 [.pointer v100] ∧
  cellsAre h104 (a101.add 2) [.int .i64 v102] ∧
  f16_ r103 h104 fun (r105 : Int) (h106 : Heap) =>
  cellsAre h106 a99 [.pointer v100] ∧
  cellsAre h106 (a101.add 2) [.int .i64 v102] ∧
  brr (r105 == v102)
  (ixA 1 a6 2 1 fun (a107 : Addr) =>
  ld [.ptr] a107 h106 fun (v108 : Option Addr) =>
  ixA 1 a8 2 1 fun (a109 : Addr) =>
  ld [.ptr] a109 h106 fun (v110 : Option Addr) =>
  f18_ v108 h106 fun (r111 : Int) (h112 : Heap) =>
  cellsAre h112 a109 [.pointer v110] ∧
  f16_ r111 h112 fun (r113 : Int) (h114 : Heap) =>
  cellsAre h114 a109 [.pointer v110] ∧
  f19_ v110 h114 fun (r115 : Int) (h116 : Heap) =>
  j88 (r113 == r115) h116)
  (j88 false h106))
  (j88 false h96))) (fun (j55 : Heap → Prop) =>
  F_law1_CodeReads.l3 f13_ f14_ Q a4 a6 a8 j55 0 h54)) (fun (j10 : Heap → Prop) =>
  F_law1_CodeReads.l2 f8_ f9_ f10_ f11_ f12_ Q a4 a6 a8 j10 0 h9)
def F_law1_CodeReads (script1 : Sl) (script2 : Sl) (script3 : Sl) (h : Heap) (Q : Bool → Heap → Prop) : Prop := F_law1_CodeReads_of F_law1_Lend F_code_Read F_ref0_Copy F_law1_Intact F_code_Reader_Left F_law1_into F_law1_reads F_code_Reader_At F_law1_num F_code_Reader_Fault F_code_Reader_End F_ref1_Eye_End script1 script2 script3 h Q
def plan3 : Plan := .s (.r [1]) (.s (.r [1, 3]) (.s (.r [1, 3, 4]) (.s (.s (.r [1, 3, 4, 5]) (.bj [] [1, 3, 4] (.l [(5, .one (.int .i64))] [1, 3, 4] (.s (.s (.r [1, 3, 4, 5, 12]) (.c .z .z)) (.s (.bj [] [1, 3, 4, 5] (.s (.r [1, 3, 4, 5, 6]) (.s (.r [1, 3, 4, 5, 6]) (.s (.r [1, 3, 4, 5, 6]) (.s (.s (.rj [(45, .one .bool)] [1, 3, 4, 5, 6]) (.c (.s (.r [2]) .z) .z)) (.s (.s (.r [1, 3, 4, 5, 6, 7]) (.bj [] [1, 3, 4, 5] (.l [(7, .one (.int .i64))] [1, 3, 4, 5, 6] (.s (.s (.r [1, 3, 4, 5, 6, 7, 49]) (.c .z .z)) (.s (.b (.r [1, 3, 4, 5, 6, 7])) (.r [1, 3, 4, 5, 6, 7])))))) (.s (.d [0, 1, 3, 7, 0, 0, 48, 112, 240, 511] [[0, 1, 2, 4, 5, 6, 7, 8, 3, 9]] [1, 3, 4, 5, 64]) (.c (.s (.r [2]) .z) .z)))))))) (.r [1, 3, 4, 5])))))) (.s (.s (.r [1, 3, 4, 8]) (.bj [] [3, 4] (.l [(8, .one (.int .i64))] [1, 3, 4] (.s (.s (.rj [(73, .one .bool)] [1, 3, 4, 8]) (.c .z .z)) (.s (.b (.s (.r [1, 3, 4, 8, 9]) (.s (.r [1, 3, 4, 8, 9, 10]) (.s (.d [0, 1, 3, 0, 8, 24, 0, 127, 255] [[0, 1, 2, 3, 4, 5, 6, 7, 8]] [1, 3, 4, 8, 92]) (.c (.s (.r [2]) .z) .z))))) (.r [1, 3, 4, 8])))))) (.s (.dj [0, 1, 3, 0, 8, 24, 56, 120, 255, 511, 1023, 2047, 4095, 8191, 1023, 17407, 50175, 115711, 246783, 524287, 1048575, 2097151, 4194303, 8388607, 16777215, 33554431, 4194303, 71303167, 268435455, 536870911, 1073741823, 2147483647] [[0, 1, 3, 4, 5, 6, 7, 2, 8, 9, 10, 11, 14, 15, 16, 17, 18, 12, 13, 19, 20, 21, 22, 23, 26, 27, 24, 25, 28, 29, 30, 31]] [(2, .one .bool)] []) .z)))))
theorem F_law1_CodeReads.eq (f8_ : Sl → Heap → (Sl → Heap → Prop) → Prop) (f9_ : Sl → Heap → (Option Addr → Heap → Prop) → Prop) (f10_ : Sl → Heap → (Sl → Heap → Prop) → Prop) (f11_ : Sl → Sl → Heap → (Bool → Heap → Prop) → Prop) (f12_ : Option Addr → Heap → (Int → Heap → Prop) → Prop) (f13_ : Int → Int → Heap → (Int → Heap → Prop) → Prop) (f14_ : Option Addr → Option Addr → Int → Int → Int → Int → Sl → Heap → (Bool → Heap → Prop) → Prop) (f15_ : Option Addr → Heap → (Int → Heap → Prop) → Prop) (f16_ : Int → Heap → (Int → Heap → Prop) → Prop) (f17_ : Option Addr → Heap → (Int → Heap → Prop) → Prop) (f18_ : Option Addr → Heap → (Int → Heap → Prop) → Prop) (f19_ : Option Addr → Heap → (Int → Heap → Prop) → Prop) (script1 : Sl) (script2 : Sl) (script3 : Sl) (h : Heap) (K : Value → Heap → Prop) : F_law1_CodeReads_of f8_ f9_ f10_ f11_ f12_ f13_ f14_ f15_ f16_ f17_ f18_ f19_ script1 script2 script3 h (fun (r0 : Bool) (h : Heap) => K (.bool r0) h) =
    den Tryd.prog (fn1 8 (E_law1_Lend_of f8_) (fn1 9 (E_code_Read_of f9_) (fn1 10 (E_ref0_Copy_of f10_) (fn1 11 (E_law1_Intact_of f11_) (fn1 12 (E_code_Reader_Left_of f12_) (fn1 13 (E_law1_into_of f13_) (fn1 14 (E_law1_reads_of f14_) (fn1 15 (E_code_Reader_At_of f15_) (fn1 16 (E_law1_num_of f16_) (fn1 17 (E_code_Reader_Fault_of f17_) (fn1 18 (E_code_Reader_End_of f18_) (fn1 19 (E_ref1_Eye_End_of f19_) noFns)))))))))))) Tryd.f3.ntmps plan3 (bodyOf Tryd.f3) (args0 0 [(.agg #[.slice script1.ptr script1.len script1.cap, .slice script2.ptr script2.len script2.cap, .slice script3.ptr script3.len script3.cap] : Value)]) h ⟨fun env h => dRes Tryd.prog Tryd.f3.results.toList env h K, fun _ _ _ => False, fun env h => dRes Tryd.prog Tryd.f3.results.toList env h K⟩ := by kernel_rfl
def E_law1_CodeReads_of (f : Sl → Sl → Sl → Heap → (Bool → Heap → Prop) → Prop) : List Value → Heap → (Value → Heap → Prop) → Prop
  | [v0], h, K => vAgg v0 fun cs0 => decs [.sl, .sl, .sl] cs0.toList fun (script1 : Sl) (script2 : Sl) (script3 : Sl) =>
  f script1 script2 script3 h (fun (r0 : Bool) (h : Heap) => K (.bool r0) h)
  | _, _, _ => False
abbrev E_law1_CodeReads := E_law1_CodeReads_of F_law1_CodeReads
theorem E_law1_CodeReads.at (f : Sl → Sl → Sl → Heap → (Bool → Heap → Prop) → Prop) (script1 : Sl) (script2 : Sl) (script3 : Sl) (h : Heap) (K : Value → Heap → Prop) : E_law1_CodeReads_of f [.agg ([.slice script1.ptr script1.len script1.cap, .slice script2.ptr script2.len script2.cap, .slice script3.ptr script3.len script3.cap] : List Value).toArray] h K = f script1 script2 script3 h (fun (r0 : Bool) (h : Heap) => K (.bool r0) h) := rfl
theorem E_law1_CodeReads.right : IsRight Tryd.prog 3 E_law1_CodeReads := by
  refine isRight fun vs K w hh => ?_
  match vs, hh with
  | [v0], hh =>
    unfold E_law1_CodeReads E_law1_CodeReads_of at hh
    replace hh := vAgg_sound hh; obtain ⟨cs0, rfl, hh⟩ := hh
    replace hh := decs_cons hh; obtain ⟨script1, l0_0, e0_0, hh⟩ := hh
    replace hh := decs_cons hh; obtain ⟨script2, l0_1, e0_1, hh⟩ := hh
    replace hh := decs_cons hh; obtain ⟨script3, l0_2, e0_2, hh⟩ := hh
    replace hh := decs_nil hh; obtain ⟨rfl, hh⟩ := hh
    subst e0_2
    subst e0_1
    have ec0 := toArray_eq e0_0
    subst ec0
    unfold F_law1_CodeReads at hh
    exact calls_den (fn1_right ok8 E_law1_Lend.right (fn1_right ok9 E_code_Read.right (fn1_right ok10 E_ref0_Copy.right (fn1_right ok11 E_law1_Intact.right (fn1_right ok12 E_code_Reader_Left.right (fn1_right ok13 E_law1_into.right (fn1_right ok14 E_law1_reads.right (fn1_right ok15 E_code_Reader_At.right (fn1_right ok16 E_law1_num.right (fn1_right ok17 E_code_Reader_Fault.right (fn1_right ok18 E_code_Reader_End.right (fn1_right ok19 E_ref1_Eye_End.right noFns_right)))))))))))) plan3 _ w K Tryd.func3 (by kernel_rfl) (by kernel_rfl) (Eq.mp (F_law1_CodeReads.eq F_law1_Lend F_code_Read F_ref0_Copy F_law1_Intact F_code_Reader_Left F_law1_into F_law1_reads F_code_Reader_At F_law1_num F_code_Reader_Fault F_code_Reader_End F_ref1_Eye_End script1 script2 script3 w.heap K) hh)
theorem ok3 : okFn Tryd.prog 3 = true := by kernel_rfl
end Go.Proofs.YtompmkmbppcadaaDoor.V
/- Two Readers over any bytes, in turns: what CodeReads plays. -/
namespace Go.Proofs.YtompmkmbppcadaaDoor.V
open Go Go.RowKit
set_option linter.unusedVariables false
set_option linter.unusedSimpArgs false
structure EX where
  p : Nat
  q : Nat
  s : Sl
  r : RS
def pP (x : EX) : Option Addr := some (pt x.p 0)
def pQ (x : EX) : Option Addr := some (pt x.q 0)
def exR (x : EX) : Res := sep (rdR x.p x.r) (sep (own x.q (eyC x.s x.r)) (buf 1 u8 x.s x.r.b))
theorem Eyes.ofbuf {h0 : Heap} {L : List Res} {s : Sl} {b : List UInt8} : Eyes h0 (buf 1 u8 s b :: L) s b := fun h O => O.view 0 u8_len (by simp) rfl
theorem codeReads_main (H : Heap) (cs : List Value) (F : Fit H 140737488351232 tyCScript cs) (E : Er H) : E_law1_CodeReads [.agg cs.toArray] H (fun r h' => r = .bool true ∧ KeptH H h') := by
  obtain ⟨_, _, rfl, _, ⟨_, _, rfl, _, ⟨t1, rfl, t1S⟩, _, _, rfl, _, ⟨t2, rfl, t2S⟩, rfl⟩, _, _, rfl, _, ⟨t3, rfl, t3S⟩, rfl⟩ := F
  simp only [List.cons_append, List.nil_append, List.append_nil]
  refine Eq.mpr (E_law1_CodeReads.at F_law1_CodeReads t1 t2 t3 H _) ?_
  obtain ⟨ops, Vo, hol⟩ := t3S.cops
  obtain ⟨hc1, b1, Vb1, hb1⟩ := t1S.bytesN
  obtain ⟨hc2, b2, Vb2, hb2⟩ := t2S.bytesN
  have get : ∀ k : Nat, k < 2 → ∃ t b, [t1, t2][k]? = some t ∧ Bytes H t b ∧ b.length ≤ 140737488351232 := by
    intro k hk
    match k, hk with
    | 0, _ => exact ⟨t1, b1, rfl, Vb1, hb1⟩
    | 1, _ => exact ⟨t2, b2, rfl, Vb2, hb2⟩
  rw [F_law1_CodeReads.eq_1, F_law1_CodeReads_of.eq_1]
  refine Sat.al (Sat.nil H) fun ba h1 O => ?_
  refine O.al fun a6 h O => ?_
  refine O.al fun a8 h O => ?_
  have O : Sat H h [own a8 ((([] : List EX).map pQ ++ List.replicate (2 - ([] : List EX).length) none).flatMap optc), own a6 ((([] : List EX).map pP ++ List.replicate (2 - ([] : List EX).length) none).flatMap optc), own ba ([t1, t2].flatMap slc ++ [.slice t3.ptr t3.len t3.cap])] := O
  have O := O.none (f := exR)
  refine jn0 (fun h' => ∃ xs : List EX, xs.length = 2 ∧ (∀ x ∈ xs, x.r.Ok) ∧ Sat H h' [many exR xs, own a8 ((xs.map pQ).flatMap optc), own a6 ((xs.map pP).flatMap optc), own ba ([t1, t2].flatMap slc ++ [.slice t3.ptr t3.len t3.cap])]) ?_ ?_
  case refine_2 =>
    intro j hj
    rw [F_law1_CodeReads.l2.eq_1]
    simp only [nn_some, pt_add, Nat.zero_add, Nat.add_zero, Nat.reduceAdd, Nat.reduceMul, Int.toNat_zero, Int.toNat_one, Nat.zero_mul, Nat.one_mul]
    refine wl1 (k := .int .i64) (fun (m : Nat) (k : Int) (h' : Heap) => ∃ xs : List EX, k = xs.length ∧ xs.length + m = 2 ∧ (∀ x ∈ xs, x.r.Ok) ∧ Sat H h' [many exR xs, own a8 ((xs.map pQ ++ List.replicate (2 - xs.length) none).flatMap optc), own a6 ((xs.map pP ++ List.replicate (2 - xs.length) none).flatMap optc), own ba ([t1, t2].flatMap slc ++ [.slice t3.ptr t3.len t3.cap])]) ?_ (m := 2) ⟨[], rfl, rfl, by simp, O⟩
    clear O
    rintro m (k : Int) h next hn ⟨xs, rfl, hxm, hok, O⟩
    refine brr_p (fun hlt => ?_) (fun hlt => ?_)
    case refine_2 =>
      have h2 : xs.length = 2 := by
        have hlt : ¬ (xs.length : Int) < 2 := hlt
        omega
      refine hj _ ⟨xs, h2, hok, ?_⟩
      rw [h2] at O
      simpa using O
    have hlt : xs.length < 2 := by
      have hlt : (xs.length : Int) < 2 := hlt
      omega
    obtain ⟨t, b, ht, Vb, hb⟩ := get xs.length hlt
    refine jn0 (fun h' => ∃ x : EX, x.r.Ok ∧ Sat H h' [exR x, many exR xs, own a8 ((((xs ++ [x]).map pQ) ++ List.replicate (2 - (xs ++ [x]).length) none).flatMap optc), own a6 ((((xs ++ [x]).map pP) ++ List.replicate (2 - (xs ++ [x]).length) none).flatMap optc), own ba ([t1, t2].flatMap slc ++ [.slice t3.ptr t3.len t3.cap])]) ?_ ?_
    · rintro h ⟨x, ox, O⟩
      rw [wrap64 (by omega) (by omega)]
      refine hn (m - 1) _ _ (by omega) ⟨xs ++ [x], by simp, by simp; omega, ?_, O.more⟩
      intro y hy
      rcases List.mem_append.1 hy with hy | hy
      · exact hok y hy
      · rw [List.mem_singleton.1 hy]; exact ox
    intro j14 hj14
    have hA : ∀ (f : EX → Option Addr), (xs.map f ++ List.replicate (2 - xs.length) none).length = 2 := fun f => by simp; omega
    have hB : ∀ (f : EX → Option Addr) y, ((xs ++ [y]).map f ++ List.replicate (2 - (xs ++ [y]).length) none).length = 2 := fun f y => by simp; omega
    have ht' : [t1, t2][((xs.length : Nat) : Int).toNat]? = some t := by rw [Int.toNat_natCast]; exact ht
    refine O.getN (k := .sl) 3 slc_len rfl (by omega) (by omega) ht' id (fun _ => rfl) fun _ _ => ?_
    refine F_law1_Lend.is O (Vb.kept O.kept) (by omega) fun r17 h O hr17 => ?_
    refine F_code_Read.is O (O.lent 0 (by simp) rfl).1 (by omega) fun p h O => ?_
    replace O := O.sel [4, 0, 1, 2, 3, 5] 6 rfl (Nat.le_add_left _ _)
    simp only [selT, List.map, nth, List.drop, List.cons_append, List.nil_append] at O
    refine O.putA optc_len optc_one (hA _).symm (by omega) (by rw [hA]; omega) (some (pt p 0)) rfl fun h O => ?_
    refine O.getN (k := .sl) 5 slc_len rfl (by omega) (by omega) ht' id (fun _ => rfl) fun _ _ => ?_
    refine F_ref0_Copy.is O (Vb.kept O.kept) (by omega) fun s h O _ _ => ?_
    refine O.al fun q h O => ?_
    replace O := O.sel [6, 2, 4, 0, 1, 3, 5, 7] 8 rfl (Nat.le_add_left _ _)
    simp only [selT, List.map, nth, List.drop, List.cons_append, List.nil_append] at O
    refine O.putA optc_len optc_one (hA _).symm (by omega) (by rw [hA]; omega) (some (pt q 0)) rfl fun h O => ?_
    have ea8 : (xs.map pQ ++ List.replicate (2 - xs.length) none).set xs.length (some (pt q 0)) = _ := set_stage pQ xs 2 ⟨p, q, s, ⟨b, 0, 0⟩⟩ none hlt
    have ea6 : (xs.map pP ++ List.replicate (2 - xs.length) none).set xs.length (some (pt p 0)) = _ := set_stage pP xs 2 ⟨p, q, s, ⟨b, 0, 0⟩⟩ none hlt
    rw [Int.toNat_natCast, ea8, ea6] at O
    clear ea8 ea6
    have ox : RS.Ok ⟨b, 0, 0⟩ := ⟨by show 0 ≤ b.length; omega, by show b.length ≤ _; omega, by show 0 ≤ 4; decide⟩
    have h6 : ((xs ++ [(⟨p, q, s, ⟨b, 0, 0⟩⟩ : EX)]).map pP ++ List.replicate (2 - (xs ++ [(⟨p, q, s, ⟨b, 0, 0⟩⟩ : EX)]).length) none)[((xs.length : Nat) : Int).toNat]? = some (some (pt p 0)) := by
      rw [Int.toNat_natCast]
      rw [List.getElem?_append_left (by simp)]
      simp
      rfl
    refine jn1 (fun t h' => t = false ∧ h' = h) ?_ ?_
    case refine_2 =>
      intro j31 hj31
      refine O.getA (k := .ptr) 1 optc_len rfl (hB _ _).symm (by omega) h6 id (fun _ => rfl) ?_
      refine brr_ff rfl ?_
      refine O.getN (k := .sl) 7 slc_len rfl (by omega) (by omega) ht' id (fun _ => rfl) fun _ _ => ?_
      refine F_law1_Intact.is O 2 (by simp) rfl (Vb.kept O.kept) (by omega) ?_
      refine hj31 _ _ ⟨by simp, rfl⟩
    rintro tt h ⟨rfl, rfl⟩
    refine brr_ff rfl ?_
    replace O := O.sel [2, 0, 1, 3, 4, 5, 6, 7] 8 rfl (Nat.le_add_left _ _)
    simp only [selT, List.map, nth, List.drop, List.cons_append, List.nil_append] at O
    refine jn0 (fun h' => Sat H h' [rdR p ⟨b, 0, 0⟩, own q (eyC s ⟨b, 0, 0⟩), buf 1 u8 s b, many exR xs, own a8 ((((xs ++ [(⟨p, q, s, ⟨b, 0, 0⟩⟩ : EX)]).map pQ) ++ List.replicate (2 - (xs ++ [(⟨p, q, s, ⟨b, 0, 0⟩⟩ : EX)]).length) none).flatMap optc), own a6 ((((xs ++ [(⟨p, q, s, ⟨b, 0, 0⟩⟩ : EX)]).map pP) ++ List.replicate (2 - (xs ++ [(⟨p, q, s, ⟨b, 0, 0⟩⟩ : EX)]).length) none).flatMap optc), own ba ([t1, t2].flatMap slc ++ [.slice t3.ptr t3.len t3.cap])]) ?_ ?_
    · clear O
      intro h O
      refine O.getA (k := .ptr) 5 optc_len rfl (hB _ _).symm (by omega) h6 id (fun _ => rfl) ?_
      refine O.getN (k := .sl) 6 slc_len rfl (by omega) (by omega) ht' id (fun _ => rfl) fun a hca => ?_
      refine F_code_Reader_Left.is ox O ?_
      refine ⟨hca O 6 rfl, ?_⟩
      have : (((RS.left ⟨b, 0, 0⟩ : Nat) : Int) != ((t.len : Nat) : Int)) = false := by
        rw [Vb.len]; simp [RS.left]
      refine brr_ff this ?_
      replace O := O.sel [1, 2, 0] 3 rfl (Nat.le_add_left _ _)
      simp only [selT, List.map, nth, List.drop, List.cons_append, List.nil_append] at O
      exact hj14 _ ⟨⟨p, q, s, ⟨b, 0, 0⟩⟩, ox, O.sepI.swap.sepI⟩
    · intro j40 hj40
      rw [F_law1_CodeReads.l1.eq_1]
      refine fill_lent O hr17 (by omega) fun zs h _ O => hj40 _ ?_
      have O := O.drop
      replace O := O.sel [4, 2, 3, 5, 0, 1, 6] 7 rfl (Nat.le_add_left _ _)
      simp only [selT, List.map, nth, List.drop, List.cons_append, List.nil_append] at O
      exact O
  clear O
  rintro h ⟨xs, hx2, hok, O⟩
  have hA : ∀ (f : EX → Option Addr), (xs.map f).length = 2 := fun f => by simp [hx2]
  have hX : ∀ {ys : List EX}, ys.length = 2 → ∀ n : Int, 0 ≤ n → n < 2 → ∃ x, ys[n.toNat]? = some x := fun hy n h0 h1 => ⟨_, List.getElem?_eq_getElem (by omega)⟩
  refine jn0 (fun h' => ∃ xs : List EX, xs.length = 2 ∧ (∀ x ∈ xs, x.r.Ok) ∧ Sat H h' [many exR xs, own a8 ((xs.map pQ).flatMap optc), own a6 ((xs.map pP).flatMap optc), own ba ([t1, t2].flatMap slc ++ [.slice t3.ptr t3.len t3.cap])]) ?_ ?_
  case refine_1 =>
    clear O hok hx2 hA xs
    rintro h ⟨xs, hx2, hok, O⟩
    have hA : ∀ (f : EX → Option Addr), (xs.map f).length = 2 := fun f => by simp [hx2]
    refine jn1 (fun t h' => t = true ∧ KeptH H h') (fun t h' ⟨e, k⟩ => ⟨by rw [e], k⟩) fun j88 hj88 => ?_
    obtain ⟨x0, hx0⟩ := hX hx2 0 (by decide) (by decide)
    obtain ⟨x1, hx1⟩ := hX hx2 1 (by decide) (by decide)
    have o0 := hok _ (List.mem_of_getElem? hx0)
    have o1 := hok _ (List.mem_of_getElem? hx1)
    have p0 : (xs.map pP)[(0 : Int).toNat]? = some (some (pt x0.p 0)) := by rw [List.getElem?_map, hx0]; rfl
    have q0 : (xs.map pQ)[(0 : Int).toNat]? = some (some (pt x0.q 0)) := by rw [List.getElem?_map, hx0]; rfl
    have p1 : (xs.map pP)[(1 : Int).toNat]? = some (some (pt x1.p 0)) := by rw [List.getElem?_map, hx1]; rfl
    have q1 : (xs.map pQ)[(1 : Int).toNat]? = some (some (pt x1.q 0)) := by rw [List.getElem?_map, hx1]; rfl
    have O0 := (O.take _ hx0).sep
    refine O.getA (k := .ptr) 2 optc_len rfl (hA _).symm (by decide) p0 id (fun _ => rfl) ?_
    refine O.getA' (k := .ptr) 1 optc_len rfl (hA _).symm (by decide) q0 id (fun _ => rfl) fun a hca => ?_
    simp only [id_eq]
    simp only [nn_some, pt_add, Nat.zero_add, Nat.add_zero, Nat.reduceAdd, Nat.reduceMul, Int.toNat_zero, Int.toNat_one, Nat.zero_mul, Nat.one_mul]
    have O1 := O0.swap.sep
    have O2 := O1
    unfold eyC at O2
    refine O2.ld 0 rfl (ldL_c (ldL_n ?_))
    refine F_code_Reader_At.is O0 ?_
    refine ⟨hca O2 4 rfl, O2.cells 0 rfl 1 1, ?_⟩
    refine brr_eq (fun _ => ?_) (fun e => absurd rfl e)
    refine O.getA (k := .ptr) 2 optc_len rfl (hA _).symm (by decide) p0 id (fun _ => rfl) ?_
    refine O.getA' (k := .ptr) 1 optc_len rfl (hA _).symm (by decide) q0 id (fun _ => rfl) fun a hca => ?_
    simp only [id_eq]
    simp only [nn_some, pt_add, Nat.zero_add, Nat.add_zero, Nat.reduceAdd, Nat.reduceMul, Int.toNat_zero, Int.toNat_one, Nat.zero_mul, Nat.one_mul]
    refine O2.ld 0 rfl (ldL_c (ldL_n ?_))
    refine F_code_Reader_Fault.is (E.sat O) o0 O0 ?_
    refine ⟨hca O2 4 rfl, O2.cells 0 rfl 2 1, ?_⟩
    rw [F_law1_num.eq_1, F_law1_num_of.eq_1]
    refine ⟨hca O2 4 rfl, O2.cells 0 rfl 2 1, ?_⟩
    refine brr_eq (fun _ => ?_) (fun e => absurd rfl e)
    refine O.getA (k := .ptr) 2 optc_len rfl (hA _).symm (by decide) p1 id (fun _ => rfl) ?_
    refine O.getA' (k := .ptr) 1 optc_len rfl (hA _).symm (by decide) q1 id (fun _ => rfl) fun a hca => ?_
    simp only [id_eq]
    have O0 := (O.take _ hx1).sep
    have O1 := O0.swap.sep
    refine F_code_Reader_End.is (E.sat O) o1 O0 ?_
    refine ⟨hca O1 4 rfl, ?_⟩
    rw [F_law1_num.eq_1, F_law1_num_of.eq_1]
    refine ⟨hca O1 4 rfl, ?_⟩
    refine F_ref1_Eye_End.is o1 (O1.view 1 u8_len (by simp) rfl).1.len O1 ?_
    exact hj88 _ _ ⟨by simp, O.kept⟩
  intro j55 hj55
  rw [F_law1_CodeReads.l3.eq_1]
  simp only [nn_some, pt_add, Nat.zero_add, Nat.add_zero, Nat.reduceAdd, Nat.reduceMul, Int.toNat_zero, Int.toNat_one, Nat.zero_mul, Nat.one_mul]
  refine wl1 (k := .int .i64) (fun (m : Nat) (i : Int) (h' : Heap) => i + m = ops.length ∧ 0 ≤ i ∧ i ≤ 400 ∧ ∃ xs : List EX, xs.length = 2 ∧ (∀ x ∈ xs, x.r.Ok) ∧ Sat H h' [many exR xs, own a8 ((xs.map pQ).flatMap optc), own a6 ((xs.map pP).flatMap optc), own ba ([t1, t2].flatMap slc ++ [.slice t3.ptr t3.len t3.cap])]) ?_ (m := ops.length) ⟨by omega, by omega, by omega, xs, hx2, hok, O⟩
  clear O hok hx2 hA xs
  intro m (i : Int) h2 next hn ⟨hi, hi0, hi4, xs, hx2, hok, O⟩
  have hA : ∀ (f : EX → Option Addr), (xs.map f).length = 2 := fun f => by simp [hx2]
  refine jn1 (fun t h' => h' = h2 ∧ (t = true → i < ops.length ∧ i < 400)) ?_ ?_
  case refine_2 =>
    intro j2 hj2
    refine O.ld 3 rfl (ldL_c (ldL_n ?_))
    rw [Vo.len]
    refine brr_p (fun hlt => ?_) (fun hlt => ?_)
    · exact hj2 _ _ ⟨rfl, fun e => ⟨hlt, by simpa using e⟩⟩
    · exact hj2 _ _ ⟨rfl, fun e => by cases e⟩
  rintro t h2 ⟨rfl, ht⟩
  refine brr_of (fun ht' => ?_) (fun ht' => hj55 _ ⟨xs, hx2, hok, O⟩)
  obtain ⟨hlt, hlt4⟩ := ht ht'
  refine O.ld 3 rfl (ldL_c (ldL_n ?_))
  refine (Vo.kept O.kept).ix hi0 hlt fun a cs op hx hlen hR hc => ?_
  obtain ⟨rfl, r1, r2, r3, r4, r5, r6, r7, r8⟩ := hR
  refine ld_are hc (ldL_c (ldL_c (ldL_c (ldL_c (ldL_c (k := .sl) (x := op.s) (ldL_n ?_))))))
  refine O.al fun bo h O => ?_
  refine O.st 0 rfl (by simp) rfl fun h O => ?_
  dsimp only [V.put, List.set] at O
  refine O.ld 0 rfl (ldL_c (ldL_n ?_))
  refine F_law1_into.is (by decide) (by decide) ?_
  have n0 := Int.emod_nonneg op.which (show (2 : Int) ≠ 0 by decide)
  have n1 := Int.emod_lt_of_pos op.which (show (0 : Int) < 2 by decide)
  generalize op.which % 2 = n at *
  obtain ⟨x, hxn⟩ := hX hx2 n n0 n1
  have ox := hok _ (List.mem_of_getElem? hxn)
  have pn : (xs.map pP)[n.toNat]? = some (some (pt x.p 0)) := by rw [List.getElem?_map, hxn]; rfl
  have qn : (xs.map pQ)[n.toNat]? = some (some (pt x.q 0)) := by rw [List.getElem?_map, hxn]; rfl
  refine O.getA (k := .ptr) 3 optc_len rfl (hA _).symm n0 pn id (fun _ => rfl) ?_
  refine O.getA (k := .ptr) 2 optc_len rfl (hA _).symm n0 qn id (fun _ => rfl) ?_
  refine O.ld 0 rfl (ldL_c (ldL_c (ldL_c (ldL_c (ldL_c (k := .sl) (x := op.s) (ldL_n ?_))))))
  have O := O.drop
  have O := (O.take _ hxn).sep.swap.sep
  replace O := O.sel [2, 0, 1] 3 rfl (Nat.le_add_left _ _)
  simp only [selT, List.map, nth, List.drop, List.cons_append, List.nil_append] at O
  refine F_law1_reads.is ox Eyes.ofbuf E r1 r8 O fun h O => ?_
  refine brr_ff rfl ?_
  rw [wrap64 (by omega) (by omega)]
  replace O := O.sel [1, 2, 0] 3 rfl (Nat.le_add_left _ _)
  simp only [selT, List.map, nth, List.drop, List.cons_append, List.nil_append] at O
  have eb : (x.r.stepP op).b = x.r.b := RS.stepP_b
  rw [← eb] at O
  have O := O.sepI.swap.sepI
  have O := O.give (f := exR) (y := { x with r := x.r.stepP op }) (List.getElem?_eq_some_iff.1 hxn).1
  refine hn (m - 1) _ _ (by omega) ⟨by omega, by omega, by omega, xs.set n.toNat { x with r := x.r.stepP op }, by simp [hx2], ?_, ?_⟩
  · intro y hy
    rcases List.mem_or_eq_of_mem_set hy with hy | rfl
    · exact hok y hy
    · exact ox.stepP op
  · rw [List.map_set, List.map_set, set_same (show (xs.map pQ)[n.toNat]? = some (pQ { x with r := x.r.stepP op }) from qn), set_same (show (xs.map pP)[n.toNat]? = some (pP { x with r := x.r.stepP op }) from pn)]
    exact O
end Go.Proofs.YtompmkmbppcadaaDoor.V
