import Derived.Test.YtompmkmbppcadaaDoorZCodeTurns1
import Derived.Test.YtompmkmbppcadaaDoorProg
namespace Go.Proofs.YtompmkmbppcadaaDoor.V
open Go Go.RowKit
set_option linter.unusedVariables false
set_option maxRecDepth 100000
/-! (*tally/tallyref1.Eye).U8 -/
def F_ref1_Eye_U8_of (f58_ : Option Addr → Int → Heap → (Int → Heap → Prop) → Prop) (e1 : Option Addr) (h : Heap) (Q : Int → Heap → Prop) : Prop :=
  f58_ e1 1 h fun (r2 : Int) (h3 : Heap) =>
  Q (IntKind.u8.wrap r2) h3
def F_ref1_Eye_U8 (e1 : Option Addr) (h : Heap) (Q : Int → Heap → Prop) : Prop := F_ref1_Eye_U8_of F_ref1_Eye_fixed e1 h Q
def plan39 : Plan := .s (.r [0]) (.s (.r [2]) .z)
theorem F_ref1_Eye_U8.eq (f58_ : Option Addr → Int → Heap → (Int → Heap → Prop) → Prop) (e1 : Option Addr) (h : Heap) (K : Value → Heap → Prop) : F_ref1_Eye_U8_of f58_ e1 h (fun (r0 : Int) (h : Heap) => K (.int .u8 r0) h) =
    den Tryd.prog (fn1 58 (E_ref1_Eye_fixed_of f58_) noFns) Tryd.f39.ntmps plan39 (bodyOf Tryd.f39) (args0 0 [(.pointer e1 : Value)]) h ⟨fun env h => dRes Tryd.prog Tryd.f39.results.toList env h K, fun _ _ _ => False, fun env h => dRes Tryd.prog Tryd.f39.results.toList env h K⟩ := by kernel_rfl
def E_ref1_Eye_U8_of (f : Option Addr → Heap → (Int → Heap → Prop) → Prop) : List Value → Heap → (Value → Heap → Prop) → Prop
  | [v0], h, K => dec1 .ptr v0 fun (e1 : Option Addr) =>
  f e1 h (fun (r0 : Int) (h : Heap) => K (.int .u8 r0) h)
  | _, _, _ => False
abbrev E_ref1_Eye_U8 := E_ref1_Eye_U8_of F_ref1_Eye_U8
theorem E_ref1_Eye_U8.right : IsRight Tryd.prog 39 E_ref1_Eye_U8 := by
  refine isRight fun vs K w hh => ?_
  match vs, hh with
  | [v0], hh =>
    unfold E_ref1_Eye_U8 E_ref1_Eye_U8_of at hh
    replace hh := dec1_sound hh; obtain ⟨e1, rfl, hh⟩ := hh
    unfold F_ref1_Eye_U8 at hh
    exact calls_den (fn1_right ok58 E_ref1_Eye_fixed.right noFns_right) plan39 _ w K Tryd.func39 (by kernel_rfl) (by kernel_rfl) (Eq.mp (F_ref1_Eye_U8.eq F_ref1_Eye_fixed e1 w.heap K) hh)
theorem ok39 : okFn Tryd.prog 39 = true := by kernel_rfl
end Go.Proofs.YtompmkmbppcadaaDoor.V
namespace Go.Proofs.YtompmkmbppcadaaDoor.V
open Go Go.RowKit
set_option linter.unusedVariables false
set_option maxRecDepth 100000
/-! (*tally/tallyref1.Eye).U32 -/
def F_ref1_Eye_U32_of (f58_ : Option Addr → Int → Heap → (Int → Heap → Prop) → Prop) (e1 : Option Addr) (h : Heap) (Q : Int → Heap → Prop) : Prop :=
  f58_ e1 4 h fun (r2 : Int) (h3 : Heap) =>
  Q (IntKind.u32.wrap r2) h3
def F_ref1_Eye_U32 (e1 : Option Addr) (h : Heap) (Q : Int → Heap → Prop) : Prop := F_ref1_Eye_U32_of F_ref1_Eye_fixed e1 h Q
def plan41 : Plan := .s (.r [0]) (.s (.r [2]) .z)
theorem F_ref1_Eye_U32.eq (f58_ : Option Addr → Int → Heap → (Int → Heap → Prop) → Prop) (e1 : Option Addr) (h : Heap) (K : Value → Heap → Prop) : F_ref1_Eye_U32_of f58_ e1 h (fun (r0 : Int) (h : Heap) => K (.int .u32 r0) h) =
    den Tryd.prog (fn1 58 (E_ref1_Eye_fixed_of f58_) noFns) Tryd.f41.ntmps plan41 (bodyOf Tryd.f41) (args0 0 [(.pointer e1 : Value)]) h ⟨fun env h => dRes Tryd.prog Tryd.f41.results.toList env h K, fun _ _ _ => False, fun env h => dRes Tryd.prog Tryd.f41.results.toList env h K⟩ := by kernel_rfl
def E_ref1_Eye_U32_of (f : Option Addr → Heap → (Int → Heap → Prop) → Prop) : List Value → Heap → (Value → Heap → Prop) → Prop
  | [v0], h, K => dec1 .ptr v0 fun (e1 : Option Addr) =>
  f e1 h (fun (r0 : Int) (h : Heap) => K (.int .u32 r0) h)
  | _, _, _ => False
abbrev E_ref1_Eye_U32 := E_ref1_Eye_U32_of F_ref1_Eye_U32
theorem E_ref1_Eye_U32.right : IsRight Tryd.prog 41 E_ref1_Eye_U32 := by
  refine isRight fun vs K w hh => ?_
  match vs, hh with
  | [v0], hh =>
    unfold E_ref1_Eye_U32 E_ref1_Eye_U32_of at hh
    replace hh := dec1_sound hh; obtain ⟨e1, rfl, hh⟩ := hh
    unfold F_ref1_Eye_U32 at hh
    exact calls_den (fn1_right ok58 E_ref1_Eye_fixed.right noFns_right) plan41 _ w K Tryd.func41 (by kernel_rfl) (by kernel_rfl) (Eq.mp (F_ref1_Eye_U32.eq F_ref1_Eye_fixed e1 w.heap K) hh)
theorem ok41 : okFn Tryd.prog 41 = true := by kernel_rfl
end Go.Proofs.YtompmkmbppcadaaDoor.V
namespace Go.Proofs.YtompmkmbppcadaaDoor.V
open Go Go.RowKit
set_option linter.unusedVariables false
set_option maxRecDepth 100000
/-! (*tally/tallyref1.Eye).U64 -/
def F_ref1_Eye_U64_of (f58_ : Option Addr → Int → Heap → (Int → Heap → Prop) → Prop) (e1 : Option Addr) (h : Heap) (Q : Int → Heap → Prop) : Prop :=
  f58_ e1 8 h fun (r2 : Int) (h3 : Heap) =>
  Q r2 h3
def F_ref1_Eye_U64 (e1 : Option Addr) (h : Heap) (Q : Int → Heap → Prop) : Prop := F_ref1_Eye_U64_of F_ref1_Eye_fixed e1 h Q
def plan42 : Plan := .s (.r [0]) (.s (.r [2]) .z)
theorem F_ref1_Eye_U64.eq (f58_ : Option Addr → Int → Heap → (Int → Heap → Prop) → Prop) (e1 : Option Addr) (h : Heap) (K : Value → Heap → Prop) : F_ref1_Eye_U64_of f58_ e1 h (fun (r0 : Int) (h : Heap) => K (.int .u64 r0) h) =
    den Tryd.prog (fn1 58 (E_ref1_Eye_fixed_of f58_) noFns) Tryd.f42.ntmps plan42 (bodyOf Tryd.f42) (args0 0 [(.pointer e1 : Value)]) h ⟨fun env h => dRes Tryd.prog Tryd.f42.results.toList env h K, fun _ _ _ => False, fun env h => dRes Tryd.prog Tryd.f42.results.toList env h K⟩ := by kernel_rfl
def E_ref1_Eye_U64_of (f : Option Addr → Heap → (Int → Heap → Prop) → Prop) : List Value → Heap → (Value → Heap → Prop) → Prop
  | [v0], h, K => dec1 .ptr v0 fun (e1 : Option Addr) =>
  f e1 h (fun (r0 : Int) (h : Heap) => K (.int .u64 r0) h)
  | _, _, _ => False
abbrev E_ref1_Eye_U64 := E_ref1_Eye_U64_of F_ref1_Eye_U64
theorem E_ref1_Eye_U64.right : IsRight Tryd.prog 42 E_ref1_Eye_U64 := by
  refine isRight fun vs K w hh => ?_
  match vs, hh with
  | [v0], hh =>
    unfold E_ref1_Eye_U64 E_ref1_Eye_U64_of at hh
    replace hh := dec1_sound hh; obtain ⟨e1, rfl, hh⟩ := hh
    unfold F_ref1_Eye_U64 at hh
    exact calls_den (fn1_right ok58 E_ref1_Eye_fixed.right noFns_right) plan42 _ w K Tryd.func42 (by kernel_rfl) (by kernel_rfl) (Eq.mp (F_ref1_Eye_U64.eq F_ref1_Eye_fixed e1 w.heap K) hh)
theorem ok42 : okFn Tryd.prog 42 = true := by kernel_rfl
end Go.Proofs.YtompmkmbppcadaaDoor.V
namespace Go.Proofs.YtompmkmbppcadaaDoor.V
open Go Go.RowKit
set_option linter.unusedVariables false
set_option maxRecDepth 100000
/-! (*tally/tallyref1.Eye).last -/
def F_ref1_Eye_last.l1 (e1 : Option Addr) (Q : Int → Heap → Prop) (j2 : Heap → Prop) : Int → Heap → Prop :=
  wl [(3, .one (.int .i64))] (fun (next3 : Int → Heap → Prop) (k4 : Int) (h5 : Heap) =>
  jn [(19, .one .bool)] (fun (x11 : Bool) (h12 : Heap) =>
  brr x11
  (nn e1 fun (a13 : Addr) =>
  ld [.sl] (a13.add 0) h12 fun (v14 : Sl) =>
  nn e1 fun (a15 : Addr) =>
  ld [.int .i64] (a15.add 1) h12 fun (v16 : Int) =>
  ixS 1 v14 (IntKind.i64.wrap (v16 + k4)) fun (a17 : Addr) =>
  ld [.int .u8] a17 h12 fun (v18 : Int) =>
  brr (decide (v18 < 128))
  (nn e1 fun (a19 : Addr) =>
  ld [.int .i64] (a19.add 1) h12 fun (v20 : Int) =>
  Q (IntKind.i64.wrap (v20 + k4)) h12)
  (next3 (IntKind.i64.wrap (k4 + 1)) h12))
  (j2 h12)) (fun (j6 : Bool → Heap → Prop) =>
  brr (decide (k4 < 10))
  (nn e1 fun (a7 : Addr) =>
  ld [.int .i64] (a7.add 1) h5 fun (v8 : Int) =>
  nn e1 fun (a9 : Addr) =>
  ld [.sl] (a9.add 0) h5 fun (v10 : Sl) =>
  j6 (decide ((IntKind.i64.wrap (v8 + k4)) < ((v10.len : Nat) : Int))) h5)
  (j6 false h5)))
def F_ref1_Eye_last_of  (e1 : Option Addr) (h : Heap) (Q : Int → Heap → Prop) : Prop :=
  jn [] (fun  (h21 : Heap) =>
  Q (-1) h21) (fun (j2 : Heap → Prop) =>
  F_ref1_Eye_last.l1 e1 Q j2 0 h)
def F_ref1_Eye_last (e1 : Option Addr) (h : Heap) (Q : Int → Heap → Prop) : Prop := F_ref1_Eye_last_of  e1 h Q
def plan59 : Plan := .s (.r [0]) (.s (.s (.r [0, 3]) (.bj [] [] (.l [(3, .one (.int .i64))] [0] (.s (.s (.dj [0, 1, 3, 7, 15, 31, 63, 7, 255, 7, 519, 1543, 3591, 7687, 16383, 32767] [[0, 1, 2, 3, 4, 5, 6, 7, 8, 9, 10, 11, 12, 13, 14, 15]] [(19, .one .bool)] [0, 3]) (.c .z .z)) (.s (.b (.s (.d [0, 1, 3, 7, 0, 16, 48, 112, 0, 496, 1023, 2047, 4095] [[0, 1, 2, 3, 4, 5, 6, 7, 8, 9, 10, 11, 12]] [0, 3, 34]) (.c (.s (.r [2]) .z) .z))) (.r [0, 3])))))) (.s (.r [2]) .z))
theorem F_ref1_Eye_last.eq  (e1 : Option Addr) (h : Heap) (K : Value → Heap → Prop) : F_ref1_Eye_last_of  e1 h (fun (r0 : Int) (h : Heap) => K (.int .i64 r0) h) =
    den Tryd.prog noFns Tryd.f59.ntmps plan59 (bodyOf Tryd.f59) (args0 0 [(.pointer e1 : Value)]) h ⟨fun env h => dRes Tryd.prog Tryd.f59.results.toList env h K, fun _ _ _ => False, fun env h => dRes Tryd.prog Tryd.f59.results.toList env h K⟩ := by kernel_rfl
def E_ref1_Eye_last_of (f : Option Addr → Heap → (Int → Heap → Prop) → Prop) : List Value → Heap → (Value → Heap → Prop) → Prop
  | [v0], h, K => dec1 .ptr v0 fun (e1 : Option Addr) =>
  f e1 h (fun (r0 : Int) (h : Heap) => K (.int .i64 r0) h)
  | _, _, _ => False
abbrev E_ref1_Eye_last := E_ref1_Eye_last_of F_ref1_Eye_last
theorem E_ref1_Eye_last.right : IsRight Tryd.prog 59 E_ref1_Eye_last := by
  refine isRight fun vs K w hh => ?_
  match vs, hh with
  | [v0], hh =>
    unfold E_ref1_Eye_last E_ref1_Eye_last_of at hh
    replace hh := dec1_sound hh; obtain ⟨e1, rfl, hh⟩ := hh
    unfold F_ref1_Eye_last at hh
    exact calls_den noFns_right plan59 _ w K Tryd.func59 (by kernel_rfl) (by kernel_rfl) (Eq.mp (F_ref1_Eye_last.eq  e1 w.heap K) hh)
theorem ok59 : okFn Tryd.prog 59 = true := by kernel_rfl
end Go.Proofs.YtompmkmbppcadaaDoor.V
namespace Go.Proofs.YtompmkmbppcadaaDoor.V
open Go Go.RowKit
set_option linter.unusedVariables false
set_option maxRecDepth 100000
/-! (*tally/tallyref1.Eye).Var -/
def F_ref1_Eye_Var.l1 (e1 : Option Addr) (j15 : Int → Heap → Prop) : Int → Int → Heap → Prop :=
  wl [(6, .one (.int .u64)), (7, .one (.int .i64))] (fun (next16 : Int → Int → Heap → Prop) (n17 : Int) (i18 : Int) (h19 : Heap) =>
  nn e1 fun (a20 : Addr) =>
  ld [.int .i64] (a20.add 1) h19 fun (v21 : Int) =>
  brr (decide (i18 ≥ v21))
  (nn e1 fun (a22 : Addr) =>
  ld [.sl] (a22.add 0) h19 fun (v23 : Sl) =>
  ixS 1 v23 i18 fun (a24 : Addr) =>
  ld [.int .u8] a24 h19 fun (v25 : Int) =>
  (128 : Int) ≠ 0 ∧
  next16 (IntKind.u64.wrap ((IntKind.u64.wrap (n17 * 128)) + (IntKind.u64.wrap (v25.tmod 128)))) (IntKind.i64.wrap (i18 - 1)) h19)
  (j15 n17 h19))
def F_ref1_Eye_Var_of (f28_ : Sl → Sl → Heap → (Bool → Heap → Prop) → Prop) (f48_ : Option Addr → Heap → (Int → Heap → Prop) → Prop) (f54_ : Int → Heap → (Sl → Heap → Prop) → Prop) (f59_ : Option Addr → Heap → (Int → Heap → Prop) → Prop) (e1 : Option Addr) (most2 : Int) (h : Heap) (Q : Int → Heap → Prop) : Prop :=
  nn e1 fun (a3 : Addr) =>
  ld [.int .i64] (a3.add 2) h fun (v4 : Int) =>
  brr (v4 != 0)
  (Q 0 h)
  (f59_ e1 h fun (r5 : Int) (h6 : Heap) =>
  brr (decide (r5 < 0))
  (nn e1 fun (a7 : Addr) =>
  st (a7.add 2) [.int .i64 11] h6 fun (h8 : Heap) =>
  f48_ e1 h8 fun (r9 : Int) (h10 : Heap) =>
  jn [] (fun  (h14 : Heap) =>
  Q 0 h14) (fun (j11 : Heap → Prop) =>
  brr (decide (r9 < 10))
  (nn e1 fun (a12 : Addr) =>
  st (a12.add 2) [.int .i64 10] h10 fun (h13 : Heap) =>
  j11 h13)
  (j11 h10)))
  (jn [(6, .one (.int .u64))] (fun (n26 : Int) (h27 : Heap) =>
  nn e1 fun (a28 : Addr) =>
  ld [.sl] (a28.add 0) h27 fun (v29 : Sl) =>
  nn e1 fun (a30 : Addr) =>
  ld [.int .i64] (a30.add 1) h27 fun (v31 : Int) =>
  slFT 1 v29 v31 (IntKind.i64.wrap (r5 + 1)) fun (s32 : Sl) =>
  f54_ n26 h27 fun (r33 : Sl) (h34 : Heap) =>
  cellsAre h34 (a28.add 0) [.slice v29.ptr v29.len v29.cap] ∧
  cellsAre h34 (a30.add 1) [.int .i64 v31] ∧
  f28_ r33 s32 h34 fun (r35 : Bool) (h36 : Heap) =>
  brr (!r35)
  (nn e1 fun (a37 : Addr) =>
  st (a37.add 2) [.int .i64 11] h36 fun (h38 : Heap) =>
  Q 0 h38)
  (brr (decide (n26 > most2))
  (nn e1 fun (a39 : Addr) =>
  st (a39.add 2) [.int .i64 12] h36 fun (h40 : Heap) =>
  Q 0 h40)
  (nn e1 fun (a41 : Addr) =>
  st (a41.add 1) [.int .i64 (IntKind.i64.wrap (r5 + 1))] h36 fun (h42 : Heap) =>
  Q n26 h42))) (fun (j15 : Int → Heap → Prop) =>
  F_ref1_Eye_Var.l1 e1 j15 0 r5 h6)))
def F_ref1_Eye_Var (e1 : Option Addr) (most2 : Int) (h : Heap) (Q : Int → Heap → Prop) : Prop := F_ref1_Eye_Var_of F_ref0_Eq F_ref1_Eye_Left F_ref1_Var F_ref1_Eye_last e1 most2 h Q
def plan44 : Plan := .s (.r [0, 1]) (.s (.s (.r [0, 1, 12]) (.c (.s (.r [4]) .z) .z)) (.s (.r [0, 1, 5]) (.s (.s (.r [0, 1, 5, 16]) (.c (.s (.r [0]) (.s (.s (.r [0, 22]) (.cj [] [] (.r []) .z)) (.s (.r [4]) .z))) .z)) (.s (.r [0, 1, 5, 6]) (.s (.s (.r [0, 1, 5, 6, 7]) (.bj [(6, .one (.int .u64))] [0, 1, 5] (.l [(6, .one (.int .u64)), (7, .one (.int .i64))] [0, 1, 5] (.s (.s (.r [0, 1, 5, 6, 7, 32]) (.c .z .z)) (.s (.b (.r [0, 1, 5, 6, 7])) (.r [0, 1, 5, 6, 7])))))) (.s (.s (.d [0, 1, 0, 4, 12, 28, 0, 64, 192, 448, 0, 1024, 4092, 8191, 16383] [[0, 2, 3, 4, 5, 6, 7, 8, 9, 10, 11, 12, 1, 13, 14]] [0, 1, 5, 6, 61]) (.c (.s (.r []) (.s (.r [4]) .z)) .z)) (.s (.s (.r [0, 5, 6, 67]) (.c (.s (.r []) (.s (.r [4]) .z)) .z)) (.s (.r [6]) (.s (.r [4]) .z)))))))))
theorem F_ref1_Eye_Var.eq (f28_ : Sl → Sl → Heap → (Bool → Heap → Prop) → Prop) (f48_ : Option Addr → Heap → (Int → Heap → Prop) → Prop) (f54_ : Int → Heap → (Sl → Heap → Prop) → Prop) (f59_ : Option Addr → Heap → (Int → Heap → Prop) → Prop) (e1 : Option Addr) (most2 : Int) (h : Heap) (K : Value → Heap → Prop) : F_ref1_Eye_Var_of f28_ f48_ f54_ f59_ e1 most2 h (fun (r0 : Int) (h : Heap) => K (.int .u64 r0) h) =
    den Tryd.prog (fn1 28 (E_ref0_Eq_of f28_) (fn1 48 (E_ref1_Eye_Left_of f48_) (fn1 54 (E_ref1_Var_of f54_) (fn1 59 (E_ref1_Eye_last_of f59_) noFns)))) Tryd.f44.ntmps plan44 (bodyOf Tryd.f44) (args0 0 [(.pointer e1 : Value), (.int .u64 most2 : Value)]) h ⟨fun env h => dRes Tryd.prog Tryd.f44.results.toList env h K, fun _ _ _ => False, fun env h => dRes Tryd.prog Tryd.f44.results.toList env h K⟩ := by kernel_rfl
def E_ref1_Eye_Var_of (f : Option Addr → Int → Heap → (Int → Heap → Prop) → Prop) : List Value → Heap → (Value → Heap → Prop) → Prop
  | [v0, v1], h, K => dec1 .ptr v0 fun (e1 : Option Addr) =>
  dec1 (.int .u64) v1 fun (most2 : Int) =>
  f e1 most2 h (fun (r0 : Int) (h : Heap) => K (.int .u64 r0) h)
  | _, _, _ => False
abbrev E_ref1_Eye_Var := E_ref1_Eye_Var_of F_ref1_Eye_Var
theorem E_ref1_Eye_Var.right : IsRight Tryd.prog 44 E_ref1_Eye_Var := by
  refine isRight fun vs K w hh => ?_
  match vs, hh with
  | [v0, v1], hh =>
    unfold E_ref1_Eye_Var E_ref1_Eye_Var_of at hh
    replace hh := dec1_sound hh; obtain ⟨e1, rfl, hh⟩ := hh
    replace hh := dec1_sound hh; obtain ⟨most2, rfl, hh⟩ := hh
    unfold F_ref1_Eye_Var at hh
    exact calls_den (fn1_right ok28 E_ref0_Eq.right (fn1_right ok48 E_ref1_Eye_Left.right (fn1_right ok54 E_ref1_Var.right (fn1_right ok59 E_ref1_Eye_last.right noFns_right)))) plan44 _ w K Tryd.func44 (by kernel_rfl) (by kernel_rfl) (Eq.mp (F_ref1_Eye_Var.eq F_ref0_Eq F_ref1_Eye_Left F_ref1_Var F_ref1_Eye_last e1 most2 w.heap K) hh)
theorem ok44 : okFn Tryd.prog 44 = true := by kernel_rfl
end Go.Proofs.YtompmkmbppcadaaDoor.V
namespace Go.Proofs.YtompmkmbppcadaaDoor.V
open Go Go.RowKit
set_option linter.unusedVariables false
set_option maxRecDepth 100000
/-! (*tally/tallyref1.Eye).Text -/
def F_ref1_Eye_Text_of (f44_ : Option Addr → Int → Heap → (Int → Heap → Prop) → Prop) (f47_ : Option Addr → Int → Heap → (Sl → Heap → Prop) → Prop) (e1 : Option Addr) (most2 : Int) (h : Heap) (Q : Sl → Heap → Prop) : Prop :=
  jn [(1, .one (.int .i64))] (fun (most4 : Int) (h5 : Heap) =>
  nn e1 fun (a6 : Addr) =>
  ld [.int .i64] (a6.add 1) h5 fun (v7 : Int) =>
  f44_ e1 (IntKind.u64.wrap most4) h5 fun (r8 : Int) (h9 : Heap) =>
  f47_ e1 (IntKind.i64.wrap r8) h9 fun (r10 : Sl) (h11 : Heap) =>
  nn e1 fun (a12 : Addr) =>
  ld [.int .i64] (a12.add 2) h11 fun (v13 : Int) =>
  brr (v13 != 0)
  (nn e1 fun (a14 : Addr) =>
  st (a14.add 1) [.int .i64 v7] h11 fun (h15 : Heap) =>
  Q (⟨none, 0, 0⟩ : Sl) h15)
  (Q r10 h11)) (fun (j3 : Int → Heap → Prop) =>
  brr (decide (most2 < 0))
  (j3 0 h)
  (j3 most2 h))
def F_ref1_Eye_Text (e1 : Option Addr) (most2 : Int) (h : Heap) (Q : Sl → Heap → Prop) : Prop := F_ref1_Eye_Text_of F_ref1_Eye_Var F_ref1_Eye_Raw e1 most2 h Q
def plan46 : Plan := .s (.r [0, 1]) (.s (.s (.r [0, 1, 9]) (.cj [(1, .one (.int .i64))] [0] (.r [0, 1]) .z)) (.s (.r [0, 1, 5]) (.s (.r [0, 5, 6]) (.s (.r [0, 5, 7]) (.s (.s (.r [0, 5, 7, 26]) (.c (.s (.r []) (.s (.r [4]) .z)) .z)) (.s (.r [4]) .z))))))
theorem F_ref1_Eye_Text.eq (f44_ : Option Addr → Int → Heap → (Int → Heap → Prop) → Prop) (f47_ : Option Addr → Int → Heap → (Sl → Heap → Prop) → Prop) (e1 : Option Addr) (most2 : Int) (h : Heap) (K : Value → Heap → Prop) : F_ref1_Eye_Text_of f44_ f47_ e1 most2 h (fun (r0 : Sl) (h : Heap) => K (.slice r0.ptr r0.len r0.cap) h) =
    den Tryd.prog (fn1 44 (E_ref1_Eye_Var_of f44_) (fn1 47 (E_ref1_Eye_Raw_of f47_) noFns)) Tryd.f46.ntmps plan46 (bodyOf Tryd.f46) (args0 0 [(.pointer e1 : Value), (.int .i64 most2 : Value)]) h ⟨fun env h => dRes Tryd.prog Tryd.f46.results.toList env h K, fun _ _ _ => False, fun env h => dRes Tryd.prog Tryd.f46.results.toList env h K⟩ := by kernel_rfl
def E_ref1_Eye_Text_of (f : Option Addr → Int → Heap → (Sl → Heap → Prop) → Prop) : List Value → Heap → (Value → Heap → Prop) → Prop
  | [v0, v1], h, K => dec1 .ptr v0 fun (e1 : Option Addr) =>
  dec1 (.int .i64) v1 fun (most2 : Int) =>
  f e1 most2 h (fun (r0 : Sl) (h : Heap) => K (.slice r0.ptr r0.len r0.cap) h)
  | _, _, _ => False
abbrev E_ref1_Eye_Text := E_ref1_Eye_Text_of F_ref1_Eye_Text
theorem E_ref1_Eye_Text.right : IsRight Tryd.prog 46 E_ref1_Eye_Text := by
  refine isRight fun vs K w hh => ?_
  match vs, hh with
  | [v0, v1], hh =>
    unfold E_ref1_Eye_Text E_ref1_Eye_Text_of at hh
    replace hh := dec1_sound hh; obtain ⟨e1, rfl, hh⟩ := hh
    replace hh := dec1_sound hh; obtain ⟨most2, rfl, hh⟩ := hh
    unfold F_ref1_Eye_Text at hh
    exact calls_den (fn1_right ok44 E_ref1_Eye_Var.right (fn1_right ok47 E_ref1_Eye_Raw.right noFns_right)) plan46 _ w K Tryd.func46 (by kernel_rfl) (by kernel_rfl) (Eq.mp (F_ref1_Eye_Text.eq F_ref1_Eye_Var F_ref1_Eye_Raw e1 most2 w.heap K) hh)
theorem ok46 : okFn Tryd.prog 46 = true := by kernel_rfl
end Go.Proofs.YtompmkmbppcadaaDoor.V
namespace Go.Proofs.YtompmkmbppcadaaDoor.V
open Go Go.RowKit
set_option linter.unusedVariables false
set_option maxRecDepth 100000
/-! (*tally/tallyref1.Eye).End -/
def F_ref1_Eye_End_of (f48_ : Option Addr → Heap → (Int → Heap → Prop) → Prop) (e1 : Option Addr) (h : Heap) (Q : Int → Heap → Prop) : Prop :=
  jn [(12, .one .bool)] (fun (x7 : Bool) (h8 : Heap) =>
  brr x7
  (Q 13 h8)
  (nn e1 fun (a9 : Addr) =>
  ld [.int .i64] (a9.add 2) h8 fun (v10 : Int) =>
  Q v10 h8)) (fun (j2 : Bool → Heap → Prop) =>
  nn e1 fun (a3 : Addr) =>
  ld [.int .i64] (a3.add 2) h fun (v4 : Int) =>
  brr (v4 == 0)
  (f48_ e1 h fun (r5 : Int) (h6 : Heap) =>
  j2 (decide (r5 > 0)) h6)
  (j2 false h))
def F_ref1_Eye_End (e1 : Option Addr) (h : Heap) (Q : Int → Heap → Prop) : Prop := F_ref1_Eye_End_of F_ref1_Eye_Left e1 h Q
def plan19 : Plan := .s (.r [0]) (.s (.s (.rj [(12, .one .bool)] [0]) (.c (.s (.r [2]) .z) .z)) (.s (.r [2]) .z))
theorem F_ref1_Eye_End.eq (f48_ : Option Addr → Heap → (Int → Heap → Prop) → Prop) (e1 : Option Addr) (h : Heap) (K : Value → Heap → Prop) : F_ref1_Eye_End_of f48_ e1 h (fun (r0 : Int) (h : Heap) => K (.int .i64 r0) h) =
    den Tryd.prog (fn1 48 (E_ref1_Eye_Left_of f48_) noFns) Tryd.f19.ntmps plan19 (bodyOf Tryd.f19) (args0 0 [(.pointer e1 : Value)]) h ⟨fun env h => dRes Tryd.prog Tryd.f19.results.toList env h K, fun _ _ _ => False, fun env h => dRes Tryd.prog Tryd.f19.results.toList env h K⟩ := by kernel_rfl
def E_ref1_Eye_End_of (f : Option Addr → Heap → (Int → Heap → Prop) → Prop) : List Value → Heap → (Value → Heap → Prop) → Prop
  | [v0], h, K => dec1 .ptr v0 fun (e1 : Option Addr) =>
  f e1 h (fun (r0 : Int) (h : Heap) => K (.int .i64 r0) h)
  | _, _, _ => False
abbrev E_ref1_Eye_End := E_ref1_Eye_End_of F_ref1_Eye_End
theorem E_ref1_Eye_End.right : IsRight Tryd.prog 19 E_ref1_Eye_End := by
  refine isRight fun vs K w hh => ?_
  match vs, hh with
  | [v0], hh =>
    unfold E_ref1_Eye_End E_ref1_Eye_End_of at hh
    replace hh := dec1_sound hh; obtain ⟨e1, rfl, hh⟩ := hh
    unfold F_ref1_Eye_End at hh
    exact calls_den (fn1_right ok48 E_ref1_Eye_Left.right noFns_right) plan19 _ w K Tryd.func19 (by kernel_rfl) (by kernel_rfl) (Eq.mp (F_ref1_Eye_End.eq F_ref1_Eye_Left e1 w.heap K) hh)
theorem ok19 : okFn Tryd.prog 19 = true := by kernel_rfl
end Go.Proofs.YtompmkmbppcadaaDoor.V
namespace Go.Proofs.YtompmkmbppcadaaDoor.V
open Go Go.RowKit
set_option linter.unusedVariables false
set_option maxRecDepth 100000
/-! tally/tallylaw1.num -/
def F_law1_num_of  (e1 : Int) (h : Heap) (Q : Int → Heap → Prop) : Prop :=
  Q e1 h
def F_law1_num (e1 : Int) (h : Heap) (Q : Int → Heap → Prop) : Prop := F_law1_num_of  e1 h Q
def plan16 : Plan := .s (.r [0]) (.s (.r [2]) .z)
theorem F_law1_num.eq  (e1 : Int) (h : Heap) (K : Value → Heap → Prop) : F_law1_num_of  e1 h (fun (r0 : Int) (h : Heap) => K (.int .i64 r0) h) =
    den Tryd.prog noFns Tryd.f16.ntmps plan16 (bodyOf Tryd.f16) (args0 0 [(.int .i64 e1 : Value)]) h ⟨fun env h => dRes Tryd.prog Tryd.f16.results.toList env h K, fun _ _ _ => False, fun env h => dRes Tryd.prog Tryd.f16.results.toList env h K⟩ := by kernel_rfl
def E_law1_num_of (f : Int → Heap → (Int → Heap → Prop) → Prop) : List Value → Heap → (Value → Heap → Prop) → Prop
  | [v0], h, K => dec1 (.int .i64) v0 fun (e1 : Int) =>
  f e1 h (fun (r0 : Int) (h : Heap) => K (.int .i64 r0) h)
  | _, _, _ => False
abbrev E_law1_num := E_law1_num_of F_law1_num
theorem E_law1_num.right : IsRight Tryd.prog 16 E_law1_num := by
  refine isRight fun vs K w hh => ?_
  match vs, hh with
  | [v0], hh =>
    unfold E_law1_num E_law1_num_of at hh
    replace hh := dec1_sound hh; obtain ⟨e1, rfl, hh⟩ := hh
    unfold F_law1_num at hh
    exact calls_den noFns_right plan16 _ w K Tryd.func16 (by kernel_rfl) (by kernel_rfl) (Eq.mp (F_law1_num.eq  e1 w.heap K) hh)
theorem ok16 : okFn Tryd.prog 16 = true := by kernel_rfl
end Go.Proofs.YtompmkmbppcadaaDoor.V
namespace Go.Proofs.YtompmkmbppcadaaDoor.V
open Go Go.RowKit
set_option linter.unusedVariables false
set_option maxRecDepth 100000
/-! tally/tallylaw1.reads -/
def F_law1_reads_of (f12_ : Option Addr → Heap → (Int → Heap → Prop) → Prop) (f15_ : Option Addr → Heap → (Int → Heap → Prop) → Prop) (f16_ : Int → Heap → (Int → Heap → Prop) → Prop) (f17_ : Option Addr → Heap → (Int → Heap → Prop) → Prop) (f18_ : Option Addr → Heap → (Int → Heap → Prop) → Prop) (f19_ : Option Addr → Heap → (Int → Heap → Prop) → Prop) (f20_ : Option Addr → Heap → (Int → Heap → Prop) → Prop) (f28_ : Sl → Sl → Heap → (Bool → Heap → Prop) → Prop) (f29_ : Option Addr → Int → Heap → (Sl → Heap → Prop) → Prop) (f35_ : Option Addr → Heap → (Int → Heap → Prop) → Prop) (f39_ : Option Addr → Heap → (Int → Heap → Prop) → Prop) (f40_ : Option Addr → Heap → (Int → Heap → Prop) → Prop) (f41_ : Option Addr → Heap → (Int → Heap → Prop) → Prop) (f42_ : Option Addr → Heap → (Int → Heap → Prop) → Prop) (f43_ : Option Addr → Int → Heap → (Int → Heap → Prop) → Prop) (f44_ : Option Addr → Int → Heap → (Int → Heap → Prop) → Prop) (f45_ : Option Addr → Int → Heap → (Sl → Heap → Prop) → Prop) (f46_ : Option Addr → Int → Heap → (Sl → Heap → Prop) → Prop) (f47_ : Option Addr → Int → Heap → (Sl → Heap → Prop) → Prop) (f48_ : Option Addr → Heap → (Int → Heap → Prop) → Prop) (r1 : Option Addr) (e2 : Option Addr) (o3 : Int) (o4 : Int) (o5 : Int) (o6 : Int) (o7 : Sl) (h : Heap) (Q : Bool → Heap → Prop) : Prop :=
  al 39 [.int .i64 o3, .int .i64 o4, .int .i64 o5, .int .u64 o6, .slice o7.ptr o7.len o7.cap] h fun (a8 : Addr) (h9 : Heap) =>
  ld [.int .i64] (a8.add 0) h9 fun (v10 : Int) =>
  brr (v10 == 1)
  (f35_ r1 h9 fun (r11 : Int) (h12 : Heap) =>
  f39_ e2 h12 fun (r13 : Int) (h14 : Heap) =>
  Q (r11 == r13) h14)
  (brr (v10 == 2)
  (f40_ r1 h9 fun (r15 : Int) (h16 : Heap) =>
  f41_ e2 h16 fun (r17 : Int) (h18 : Heap) =>
  Q (r15 == r17) h18)
  (brr (v10 == 3)
  (f20_ r1 h9 fun (r19 : Int) (h20 : Heap) =>
  f42_ e2 h20 fun (r21 : Int) (h22 : Heap) =>
  Q (r19 == r21) h22)
  (brr (v10 == 4)
  (ld [.int .u64] (a8.add 3) h9 fun (v23 : Int) =>
  ld [.int .u64] (a8.add 3) h9 fun (v24 : Int) =>
  f43_ r1 v23 h9 fun (r25 : Int) (h26 : Heap) =>
  cellsAre h26 (a8.add 3) [.int .u64 v24] ∧
  f44_ e2 v24 h26 fun (r27 : Int) (h28 : Heap) =>
  Q (r25 == r27) h28)
  (brr (v10 == 5)
  (ld [.int .i64] (a8.add 2) h9 fun (v29 : Int) =>
  ld [.int .i64] (a8.add 2) h9 fun (v30 : Int) =>
  f45_ r1 v29 h9 fun (r31 : Sl) (h32 : Heap) =>
  cellsAre h32 (a8.add 2) [.int .i64 v30] ∧
  f46_ e2 v30 h32 fun (r33 : Sl) (h34 : Heap) =>
  f28_ r31 r33 h34 fun (r35 : Bool) (h36 : Heap) =>
  Q r35 h36)
  (brr (v10 == 6)
  (ld [.int .i64] (a8.add 2) h9 fun (v37 : Int) =>
  ld [.int .i64] (a8.add 2) h9 fun (v38 : Int) =>
  f29_ r1 v37 h9 fun (r39 : Sl) (h40 : Heap) =>
  cellsAre h40 (a8.add 2) [.int .i64 v38] ∧
  f47_ e2 v38 h40 fun (r41 : Sl) (h42 : Heap) =>
  f28_ r39 r41 h42 fun (r43 : Bool) (h44 : Heap) =>
  Q r43 h44)
  (brr (v10 == 7)
  (f12_ r1 h9 fun (r45 : Int) (h46 : Heap) =>
  f48_ e2 h46 fun (r47 : Int) (h48 : Heap) =>
  Q (r45 == r47) h48)
  (brr (v10 == 8)
  (nn e2 fun (a49 : Addr) =>
  ld [.int .i64] (a49.add 1) h9 fun (v50 : Int) =>
  f15_ r1 h9 fun (r51 : Int) (h52 : Heap) =>
  cellsAre h52 (a49.add 1) [.int .i64 v50] ∧
  Q (r51 == v50) h52)
  (brr (v10 == 9)
  (nn e2 fun (a53 : Addr) =>
  ld [.int .i64] (a53.add 2) h9 fun (v54 : Int) =>
  f17_ r1 h9 fun (r55 : Int) (h56 : Heap) =>
  cellsAre h56 (a53.add 2) [.int .i64 v54] ∧
  f16_ r55 h56 fun (r57 : Int) (h58 : Heap) =>
  cellsAre h58 (a53.add 2) [.int .i64 v54] ∧
  Q (r57 == v54) h58)
  (brr (v10 == 10)
  (f18_ r1 h9 fun (r59 : Int) (h60 : Heap) =>
  f16_ r59 h60 fun (r61 : Int) (h62 : Heap) =>
  f19_ e2 h62 fun (r63 : Int) (h64 : Heap) =>
  Q (r61 == r63) h64)
  (Q true h9))))))))))
def F_law1_reads (r1 : Option Addr) (e2 : Option Addr) (o3 : Int) (o4 : Int) (o5 : Int) (o6 : Int) (o7 : Sl) (h : Heap) (Q : Bool → Heap → Prop) : Prop := F_law1_reads_of F_code_Reader_Left F_code_Reader_At F_law1_num F_code_Reader_Fault F_code_Reader_End F_ref1_Eye_End F_code_Reader_U64 F_ref0_Eq F_code_Reader_Raw F_code_Reader_U8 F_ref1_Eye_U8 F_code_Reader_U32 F_ref1_Eye_U32 F_ref1_Eye_U64 F_code_Reader_Var F_ref1_Eye_Var F_code_Reader_Bytes F_ref1_Eye_Text F_ref1_Eye_Raw F_ref1_Eye_Left r1 e2 o3 o4 o5 o6 o7 h Q
def plan14 : Plan := .s (.r [0, 1, 5]) (.s (.s (.r [0, 1, 5, 8]) (.b (.s (.r [0, 1, 5, 8, 9]) (.c (.s (.r [6]) .z) (.s (.r [0, 1, 5, 8, 16]) (.c (.s (.r [6]) .z) (.s (.r [0, 1, 5, 8, 23]) (.c (.s (.r [6]) .z) (.s (.r [0, 1, 5, 8, 30]) (.c (.s (.d [0, 0, 2, 7, 0, 0, 32, 127, 255, 511] [[0, 1, 2, 4, 5, 6, 3, 7, 8, 9]] [6]) .z) (.s (.r [0, 1, 5, 8, 41]) (.c (.s (.d [0, 0, 2, 7, 0, 0, 32, 127, 255, 511] [[0, 1, 2, 4, 5, 6, 3, 7, 8, 9]] [6]) .z) (.s (.r [0, 1, 5, 8, 52]) (.c (.s (.d [0, 0, 2, 7, 0, 0, 32, 127, 255, 511] [[0, 1, 2, 4, 5, 6, 3, 7, 8, 9]] [6]) .z) (.s (.r [0, 1, 8, 63]) (.c (.s (.r [6]) .z) (.s (.r [0, 1, 8, 70]) (.c (.s (.d [0, 1, 0, 4, 12, 28, 63, 127] [[0, 2, 3, 4, 5, 1, 6, 7]] [6]) .z) (.s (.r [0, 1, 8, 79]) (.c (.s (.d [0, 1, 3, 0, 8, 24, 56, 127, 255] [[0, 3, 4, 5, 6, 1, 2, 7, 8]] [6]) .z) (.s (.r [0, 1, 89]) (.c (.s (.r [6]) .z) .z)))))))))))))))))))))) (.s (.r [6]) .z))
theorem F_law1_reads.eq (f12_ : Option Addr → Heap → (Int → Heap → Prop) → Prop) (f15_ : Option Addr → Heap → (Int → Heap → Prop) → Prop) (f16_ : Int → Heap → (Int → Heap → Prop) → Prop) (f17_ : Option Addr → Heap → (Int → Heap → Prop) → Prop) (f18_ : Option Addr → Heap → (Int → Heap → Prop) → Prop) (f19_ : Option Addr → Heap → (Int → Heap → Prop) → Prop) (f20_ : Option Addr → Heap → (Int → Heap → Prop) → Prop) (f28_ : Sl → Sl → Heap → (Bool → Heap → Prop) → Prop) (f29_ : Option Addr → Int → Heap → (Sl → Heap → Prop) → Prop) (f35_ : Option Addr → Heap → (Int → Heap → Prop) → Prop) (f39_ : Option Addr → Heap → (Int → Heap → Prop) → Prop) (f40_ : Option Addr → Heap → (Int → Heap → Prop) → Prop) (f41_ : Option Addr → Heap → (Int → Heap → Prop) → Prop) (f42_ : Option Addr → Heap → (Int → Heap → Prop) → Prop) (f43_ : Option Addr → Int → Heap → (Int → Heap → Prop) → Prop) (f44_ : Option Addr → Int → Heap → (Int → Heap → Prop) → Prop) (f45_ : Option Addr → Int → Heap → (Sl → Heap → Prop) → Prop) (f46_ : Option Addr → Int → Heap → (Sl → Heap → Prop) → Prop) (f47_ : Option Addr → Int → Heap → (Sl → Heap → Prop) → Prop) (f48_ : Option Addr → Heap → (Int → Heap → Prop) → Prop) (r1 : Option Addr) (e2 : Option Addr) (o3 : Int) (o4 : Int) (o5 : Int) (o6 : Int) (o7 : Sl) (h : Heap) (K : Value → Heap → Prop) : F_law1_reads_of f12_ f15_ f16_ f17_ f18_ f19_ f20_ f28_ f29_ f35_ f39_ f40_ f41_ f42_ f43_ f44_ f45_ f46_ f47_ f48_ r1 e2 o3 o4 o5 o6 o7 h (fun (r0 : Bool) (h : Heap) => K (.bool r0) h) =
    den Tryd.prog (fn1 12 (E_code_Reader_Left_of f12_) (fn1 15 (E_code_Reader_At_of f15_) (fn1 16 (E_law1_num_of f16_) (fn1 17 (E_code_Reader_Fault_of f17_) (fn1 18 (E_code_Reader_End_of f18_) (fn1 19 (E_ref1_Eye_End_of f19_) (fn1 20 (E_code_Reader_U64_of f20_) (fn1 28 (E_ref0_Eq_of f28_) (fn1 29 (E_code_Reader_Raw_of f29_) (fn1 35 (E_code_Reader_U8_of f35_) (fn1 39 (E_ref1_Eye_U8_of f39_) (fn1 40 (E_code_Reader_U32_of f40_) (fn1 41 (E_ref1_Eye_U32_of f41_) (fn1 42 (E_ref1_Eye_U64_of f42_) (fn1 43 (E_code_Reader_Var_of f43_) (fn1 44 (E_ref1_Eye_Var_of f44_) (fn1 45 (E_code_Reader_Bytes_of f45_) (fn1 46 (E_ref1_Eye_Text_of f46_) (fn1 47 (E_ref1_Eye_Raw_of f47_) (fn1 48 (E_ref1_Eye_Left_of f48_) noFns)))))))))))))))))))) Tryd.f14.ntmps plan14 (bodyOf Tryd.f14) (args0 0 [(.pointer r1 : Value), (.pointer e2 : Value), (.agg #[.int .i64 o3, .int .i64 o4, .int .i64 o5, .int .u64 o6, .slice o7.ptr o7.len o7.cap] : Value)]) h ⟨fun env h => dRes Tryd.prog Tryd.f14.results.toList env h K, fun _ _ _ => False, fun env h => dRes Tryd.prog Tryd.f14.results.toList env h K⟩ := by kernel_rfl
def E_law1_reads_of (f : Option Addr → Option Addr → Int → Int → Int → Int → Sl → Heap → (Bool → Heap → Prop) → Prop) : List Value → Heap → (Value → Heap → Prop) → Prop
  | [v0, v1, v2], h, K => dec1 .ptr v0 fun (r1 : Option Addr) =>
  dec1 .ptr v1 fun (e2 : Option Addr) =>
  vAgg v2 fun cs2 => decs [.int .i64, .int .i64, .int .i64, .int .u64, .sl] cs2.toList fun (o3 : Int) (o4 : Int) (o5 : Int) (o6 : Int) (o7 : Sl) =>
  f r1 e2 o3 o4 o5 o6 o7 h (fun (r0 : Bool) (h : Heap) => K (.bool r0) h)
  | _, _, _ => False
abbrev E_law1_reads := E_law1_reads_of F_law1_reads
theorem E_law1_reads.right : IsRight Tryd.prog 14 E_law1_reads := by
  refine isRight fun vs K w hh => ?_
  match vs, hh with
  | [v0, v1, v2], hh =>
    unfold E_law1_reads E_law1_reads_of at hh
    replace hh := dec1_sound hh; obtain ⟨r1, rfl, hh⟩ := hh
    replace hh := dec1_sound hh; obtain ⟨e2, rfl, hh⟩ := hh
    replace hh := vAgg_sound hh; obtain ⟨cs2, rfl, hh⟩ := hh
    replace hh := decs_cons hh; obtain ⟨o3, l2_0, e2_0, hh⟩ := hh
    replace hh := decs_cons hh; obtain ⟨o4, l2_1, e2_1, hh⟩ := hh
    replace hh := decs_cons hh; obtain ⟨o5, l2_2, e2_2, hh⟩ := hh
    replace hh := decs_cons hh; obtain ⟨o6, l2_3, e2_3, hh⟩ := hh
    replace hh := decs_cons hh; obtain ⟨o7, l2_4, e2_4, hh⟩ := hh
    replace hh := decs_nil hh; obtain ⟨rfl, hh⟩ := hh
    subst e2_4
    subst e2_3
    subst e2_2
    subst e2_1
    have ec2 := toArray_eq e2_0
    subst ec2
    unfold F_law1_reads at hh
    exact calls_den (fn1_right ok12 E_code_Reader_Left.right (fn1_right ok15 E_code_Reader_At.right (fn1_right ok16 E_law1_num.right (fn1_right ok17 E_code_Reader_Fault.right (fn1_right ok18 E_code_Reader_End.right (fn1_right ok19 E_ref1_Eye_End.right (fn1_right ok20 E_code_Reader_U64.right (fn1_right ok28 E_ref0_Eq.right (fn1_right ok29 E_code_Reader_Raw.right (fn1_right ok35 E_code_Reader_U8.right (fn1_right ok39 E_ref1_Eye_U8.right (fn1_right ok40 E_code_Reader_U32.right (fn1_right ok41 E_ref1_Eye_U32.right (fn1_right ok42 E_ref1_Eye_U64.right (fn1_right ok43 E_code_Reader_Var.right (fn1_right ok44 E_ref1_Eye_Var.right (fn1_right ok45 E_code_Reader_Bytes.right (fn1_right ok46 E_ref1_Eye_Text.right (fn1_right ok47 E_ref1_Eye_Raw.right (fn1_right ok48 E_ref1_Eye_Left.right noFns_right)))))))))))))))))))) plan14 _ w K Tryd.func14 (by kernel_rfl) (by kernel_rfl) (Eq.mp (F_law1_reads.eq F_code_Reader_Left F_code_Reader_At F_law1_num F_code_Reader_Fault F_code_Reader_End F_ref1_Eye_End F_code_Reader_U64 F_ref0_Eq F_code_Reader_Raw F_code_Reader_U8 F_ref1_Eye_U8 F_code_Reader_U32 F_ref1_Eye_U32 F_ref1_Eye_U64 F_code_Reader_Var F_ref1_Eye_Var F_code_Reader_Bytes F_ref1_Eye_Text F_ref1_Eye_Raw F_ref1_Eye_Left r1 e2 o3 o4 o5 o6 o7 w.heap K) hh)
theorem ok14 : okFn Tryd.prog 14 = true := by kernel_rfl
end Go.Proofs.YtompmkmbppcadaaDoor.V
/- The document's Reader (Eye), beside the program's. -/
namespace Go.Proofs.YtompmkmbppcadaaDoor.V
open Go Go.RowKit
set_option linter.unusedVariables false
set_option linter.unusedSimpArgs false
def eyC (s : Sl) (r : RS) : List Value := [.slice s.ptr s.len s.cap, .int .i64 (r.at_ : Int), .int .i64 (erN r.met)]
theorem erN_zero (m : Nat) : erN m = 0 ↔ m = 0 := by
  match m with
  | 0 => simp [erN]
  | 1 => simp [erN]
  | 2 => simp [erN]
  | 3 => simp [erN]
  | m + 4 => simp [erN]
theorem wrapu64m (n : Nat) : IntKind.u64.wrap (n : Int) = ((n % 18446744073709551616 : Nat) : Int) := by
  unfold IntKind.wrap
  simp [IntKind.bits, IntKind.signed]
theorem RS.nextB_le {r : RS} (n : Nat) : (r.nextB n).length ≤ r.b.length := by
  unfold RS.nextB
  split
  · simp
  · split
    · simp
    · rw [List.length_take, List.length_drop]; omega
theorem RS.next_p {r : RS} {n : Nat} (hm : r.met = 0) (hg : n > r.left) : r.next n = { r with met := 1 } ∧ r.nextB n = [] := by
  unfold RS.next RS.nextB
  rw [if_neg (by omega), if_pos hg, if_neg (by omega), if_pos hg]
  exact ⟨rfl, rfl⟩
theorem RS.next_q {r : RS} {n : Nat} (hm : r.met = 0) (hg : ¬ n > r.left) : r.next n = { r with at_ := r.at_ + n } ∧ r.nextB n = (r.b.drop r.at_).take n := by
  unfold RS.next RS.nextB
  rw [if_neg (by omega), if_neg hg, if_neg (by omega), if_neg hg]
  exact ⟨rfl, rfl⟩
/-- What an Eye reads stays as it is, whatever else is done. -/
def Eyes (h0 : Heap) (L : List Res) (s : Sl) (b : List UInt8) : Prop := Stays h0 L fun h => Bytes h s b ∧ s.len ≤ s.cap
section
variable {h0 h : Heap} {L : List Res} {p : Nat} {r : RS} {s : Sl}
theorem F_ref1_Eye_Left.is {Q : Int → Heap → Prop} (o : r.Ok) (hs : s.len = r.b.length) (O : Sat h0 h (own p (eyC s r) :: L)) (k : Q (r.left : Nat) h) : F_ref1_Eye_Left (some (pt p 0)) h Q := by
  rw [F_ref1_Eye_Left.eq_1, F_ref1_Eye_Left_of.eq_1]
  simp only [nn_some, pt_add, Nat.zero_add, Nat.add_zero, Nat.reduceAdd, Nat.reduceMul, Int.toNat_zero, Int.toNat_one, Nat.zero_mul, Nat.one_mul]
  unfold eyC at O
  refine O.ld 0 rfl (ldL_c (ldL_n ?_))
  refine O.ld 0 rfl (ldL_c (ldL_n ?_))
  rw [hs]
  have h1 := o.le; have h2 := o.len
  rw [wrap64 (by omega) (by omega)]
  unfold RS.left at k
  rw [show ((r.b.length : Int) - (r.at_ : Int)) = ((r.b.length - r.at_ : Nat) : Int) by omega]
  exact k
theorem F_ref1_Eye_Raw.is {n : Int} {Q : Sl → Heap → Prop} (o : r.Ok) (E : Eyes h0 L s r.b) (hn : n ≤ (9223372036854775807 : Int)) (O : Sat h0 h (own p (eyC s r) :: L)) (k : ∀ t h', Sat h0 h' (buf 1 u8 t (r.rawP n).2 :: own p (eyC s (r.rawP n).1) :: L) → Q t h') : F_ref1_Eye_Raw (some (pt p 0)) n h Q := by
  rw [F_ref1_Eye_Raw.eq_1, F_ref1_Eye_Raw_of.eq_1]
  simp only [nn_some, pt_add, Nat.zero_add, Nat.add_zero, Nat.reduceAdd, Nat.reduceMul, Int.toNat_zero, Int.toNat_one, Nat.zero_mul, Nat.one_mul]
  have hs := (E h O.drop).1.len
  have fin : ∀ {t : Sl} {h : Heap} {r' : RS} {xs : List UInt8}, Sat h0 h (buf 1 u8 t xs :: own p (eyC s r') :: L) → r.rawP n = (r', xs) → Q t h := by
    intro t h r' xs O e
    rw [e] at k
    exact k t h O
  have O1 := O
  unfold eyC at O
  refine O.ld 0 rfl (ldL_c (ldL_n ?_))
  refine brr_ne (fun hm => ?_) (fun hm => ?_)
  · have hm : r.met ≠ 0 := fun e => hm ((erN_zero _).2 e)
    refine fin O1.nil_buf ?_
    unfold RS.rawP RS.next RS.nextB
    rw [if_pos hm, if_pos hm, if_neg hm]
    split <;> rfl
  have hm : r.met = 0 := (erN_zero _).1 hm
  refine brr_p (fun hneg => ?_) (fun hneg => ?_)
  · refine O.st 0 rfl (by simp) rfl fun h O => ?_
    dsimp only [V.put, List.set] at O
    refine fin (r' := { r with met := 4 }) O.nil_buf ?_
    unfold RS.rawP
    rw [if_pos hneg, if_pos hm]
  obtain ⟨n, rfl⟩ := Int.eq_ofNat_of_zero_le (by omega : 0 ≤ n)
  have e : r.rawP (n : Int) = (r.next n, r.nextB n) := by unfold RS.rawP; rw [if_neg hneg]; rfl
  refine F_ref1_Eye_Left.is o hs O1 ?_
  refine brr_p (fun hg => ?_) (fun hg => ?_)
  · rw [(RS.next_p hm (by omega)).1, (RS.next_p hm (by omega)).2] at e
    refine O.st 0 rfl (by simp) rfl fun h O => ?_
    dsimp only [V.put, List.set] at O
    exact fin (r' := { r with met := 1 }) O.nil_buf e
  have hg : ¬ n > r.left := by omega
  rw [(RS.next_q hm hg).1, (RS.next_q hm hg).2] at e
  unfold RS.left at hg
  have h1 := o.le; have h2 := o.len
  have hc := (E h O1.drop).2
  refine O.ld 0 rfl (ldL_c (k := .sl) (x := s) (ldL_n ?_))
  refine O.ld 0 rfl (ldL_c (ldL_n ?_))
  refine O.ld 0 rfl (ldL_c (ldL_n ?_))
  rw [wrap64 (by omega) (by omega)]
  refine ⟨by omega, by omega, by omega, ?_⟩
  have V2 := (E h O1.drop).1.slice r.at_ (r.at_ + n) (s.cap - r.at_) (by omega) (by omega) hc
  rw [show r.at_ + n - r.at_ = n by omega] at V2
  rw [show ((r.at_ : Int) + n).toNat - (r.at_ : Int).toNat = n by omega, show (r.at_ : Int).toNat = r.at_ by omega]
  refine F_ref0_Copy.is O V2 (by rw [List.length_take, List.length_drop]; omega) fun t h O _ _ => ?_
  refine O.ld 1 rfl (ldL_c (ldL_n ?_))
  have O := O.swap
  refine O.st 0 rfl (by simp) rfl fun h O => ?_
  dsimp only [V.put, List.set] at O
  rw [wrap64 (by omega) (by omega)] at O
  refine fin (r' := { r with at_ := r.at_ + n }) ?_ e
  unfold eyC
  rw [show (((r.at_ + n : Nat)) : Int) = (r.at_ : Int) + n by omega]
  exact O.swap
theorem F_ref1_Eye_fixed.is {n : Nat} {Q : Int → Heap → Prop} (o : r.Ok) (E : Eyes h0 L s r.b) (hn : n ≤ 8) (O : Sat h0 h (own p (eyC s r) :: L)) (k : ∀ h', Sat h0 h' (own p (eyC s (r.next n)) :: L) → Q ((beN (r.nextB n) : Nat) : Int) h') : F_ref1_Eye_fixed (some (pt p 0)) n h Q := by
  rw [F_ref1_Eye_fixed.eq_1, F_ref1_Eye_fixed_of.eq_1]
  refine F_ref1_Eye_Raw.is (n := n) o E (by omega) O fun t h O => ?_
  have e : r.rawP (n : Int) = (r.next n, r.nextB n) := by unfold RS.rawP; rw [if_neg (by omega)]; rfl
  rw [e] at O
  dsimp only at O
  have hlen := nextB_len r n
  generalize r.nextB n = ys at *
  have V1 := (O.view 0 u8_len (by simp) rfl).1
  refine jn1 (fun (x : Int) h' => x = ((beN ys : Nat) : Int) ∧ h' = h) ?_ ?_
  · rintro x h ⟨rfl, rfl⟩
    exact k _ O.drop
  · intro j hj
    rw [F_ref1_Eye_fixed.l1.eq_1]
    refine wl2 (k := .int .u64) (l := .int .i64) (fun (m : Nat) (x i : Int) (h' : Heap) => 0 ≤ i ∧ i + m = ys.length ∧ h' = h ∧ x = ((beN (ys.take i.toNat) : Nat) : Int)) ?_ (m := ys.length) ⟨by omega, by omega, rfl, rfl⟩
    rintro m (x : Int) (i : Int) h next hn2 ⟨hi0, him, rfl, rfl⟩
    rw [V1.len]
    refine brr_p (fun hlt => ?_) (fun hlt => ?_)
    · refine Bytes.at V1 hi0 hlt fun c hc => ?_
      have hb := beN_lt (ys.take i.toNat)
      rw [List.length_take, Nat.min_eq_left (by omega)] at hb
      have h256 : 256 ^ i.toNat ≤ 256 ^ 7 := Nat.pow_le_pow_right (by decide) (by omega)
      have hb2 : beN (ys.take i.toNat) < 72057594037927936 := Nat.lt_of_lt_of_le hb h256
      have hcl := c.toNat_lt
      rw [wrapu64 (x := ((beN (ys.take i.toNat) : Nat) : Int) * 256) (by omega) (by omega), wrapu64 (x := (c.toNat : Int)) (by omega) (by omega), wrapu64 (by omega) (by omega), wrap64 (by omega) (by omega)]
      refine hn2 (m - 1) _ _ _ (by omega) ⟨by omega, by omega, rfl, ?_⟩
      rw [show (i + 1).toNat = i.toNat + 1 by omega, take_succ_eq hc, beN_snoc]
      omega
    · refine hj _ _ ⟨?_, rfl⟩
      rw [List.take_of_length_le (by omega)]
theorem F_ref1_Eye_U8.is {Q : Int → Heap → Prop} (o : r.Ok) (E : Eyes h0 L s r.b) (O : Sat h0 h (own p (eyC s r) :: L)) (k : ∀ h', Sat h0 h' (own p (eyC s (r.next 1)) :: L) → Q ((beN (r.nextB 1) : Nat) : Int) h') : F_ref1_Eye_U8 (some (pt p 0)) h Q := by
  rw [F_ref1_Eye_U8.eq_1, F_ref1_Eye_U8_of.eq_1]
  refine F_ref1_Eye_fixed.is (n := 1) o E (by decide) O fun h O => ?_
  have hb := beN_lt (r.nextB 1)
  have hl := nextB_len r 1
  have h256 : 256 ^ (r.nextB 1).length ≤ 256 ^ 1 := Nat.pow_le_pow_right (by decide) hl
  rw [wrap8_ofNat]
  have : (UInt8.ofNat (beN (r.nextB 1))).toNat = beN (r.nextB 1) := by simp; omega
  rw [this]
  exact k h O
theorem F_ref1_Eye_U32.is {Q : Int → Heap → Prop} (o : r.Ok) (E : Eyes h0 L s r.b) (O : Sat h0 h (own p (eyC s r) :: L)) (k : ∀ h', Sat h0 h' (own p (eyC s (r.next 4)) :: L) → Q ((beN (r.nextB 4) : Nat) : Int) h') : F_ref1_Eye_U32 (some (pt p 0)) h Q := by
  rw [F_ref1_Eye_U32.eq_1, F_ref1_Eye_U32_of.eq_1]
  refine F_ref1_Eye_fixed.is (n := 4) o E (by decide) O fun h O => ?_
  have hb := beN_lt (r.nextB 4)
  have hl := nextB_len r 4
  have h256 : 256 ^ (r.nextB 4).length ≤ 256 ^ 4 := Nat.pow_le_pow_right (by decide) hl
  rw [wrapu32 (by omega) (by omega)]
  exact k h O
theorem F_ref1_Eye_U64.is {Q : Int → Heap → Prop} (o : r.Ok) (E : Eyes h0 L s r.b) (O : Sat h0 h (own p (eyC s r) :: L)) (k : ∀ h', Sat h0 h' (own p (eyC s (r.next 8)) :: L) → Q ((beN (r.nextB 8) : Nat) : Int) h') : F_ref1_Eye_U64 (some (pt p 0)) h Q := by
  rw [F_ref1_Eye_U64.eq_1, F_ref1_Eye_U64_of.eq_1]
  exact F_ref1_Eye_fixed.is (n := 8) o E (by decide) O k
theorem F_ref1_Eye_End.is {Q : Int → Heap → Prop} (o : r.Ok) (hs : s.len = r.b.length) (O : Sat h0 h (own p (eyC s r) :: L)) (k : Q r.endN h) : F_ref1_Eye_End (some (pt p 0)) h Q := by
  rw [F_ref1_Eye_End.eq_1, F_ref1_Eye_End_of.eq_1]
  simp only [nn_some, pt_add, Nat.zero_add, Nat.add_zero, Nat.reduceAdd, Nat.reduceMul, Int.toNat_zero, Int.toNat_one, Nat.zero_mul, Nat.one_mul]
  unfold RS.endN at k
  refine jn1 (fun (b : Bool) h' => b = decide (r.met = 0 ∧ r.left > 0) ∧ h' = h) ?_ ?_
  · rintro (b : Bool) h ⟨rfl, rfl⟩
    refine brr_p (fun hp => ?_) (fun hp => ?_)
    · rw [if_pos hp] at k; exact k
    · rw [if_neg hp] at k
      unfold eyC at O
      refine O.ld 0 rfl (ldL_c (ldL_n ?_))
      exact k
  · intro j hj
    have O1 := O
    unfold eyC at O1
    refine O1.ld 0 rfl (ldL_c (ldL_n ?_))
    refine brr_eq (fun hm => ?_) (fun hm => ?_)
    · refine F_ref1_Eye_Left.is o hs O ?_
      refine hj _ _ ⟨?_, rfl⟩
      have : r.met = 0 := (erN_zero _).1 hm
      simp [this]
    · refine hj _ _ ⟨?_, rfl⟩
      have : r.met ≠ 0 := fun e => hm ((erN_zero _).2 e)
      simp [this]
theorem look_at {b : List UInt8} {a i : Nat} (hi : i < 10) : ((b.drop a).take 10)[i]? = b[a + i]? := by
  rw [List.getElem?_take, if_pos hi, List.getElem?_drop]
theorem F_ref1_Eye_last.is {Q : Int → Heap → Prop} (o : r.Ok) (E : Eyes h0 L s r.b) (O : Sat h0 h (own p (eyC s r) :: L)) (k1 : vlast r.look = none → Q (-1) h) (k2 : ∀ k, vlast r.look = some k → Q ((r.at_ + k : Nat) : Int) h) : F_ref1_Eye_last (some (pt p 0)) h Q := by
  rw [F_ref1_Eye_last.eq_1, F_ref1_Eye_last_of.eq_1]
  have h1 := o.le; have h2 := o.len
  have hs := (E h O.drop).1.len
  have hlen := r.look_len
  have hleft : r.left = r.b.length - r.at_ := rfl
  unfold eyC at O
  refine jn0 (fun h' => h' = h ∧ vlast r.look = none) (fun h' ⟨e1, e2⟩ => e1 ▸ k1 e2) fun j hj => ?_
  rw [F_ref1_Eye_last.l1.eq_1]
  simp only [nn_some, pt_add, Nat.zero_add, Nat.add_zero, Nat.reduceAdd, Nat.reduceMul, Int.toNat_zero, Int.toNat_one, Nat.zero_mul, Nat.one_mul]
  refine wl1 (k := .int .i64) (fun (m : Nat) (i : Int) (h' : Heap) => 0 ≤ i ∧ i + m = r.look.length ∧ h' = h ∧ vlast r.look = (vlast (r.look.drop i.toNat)).map (· + i.toNat)) ?_ (m := r.look.length) ⟨by omega, by omega, rfl, by simp⟩
  rintro m (i : Int) h next hn ⟨hi0, him, rfl, hv⟩
  obtain ⟨i, rfl⟩ := Int.eq_ofNat_of_zero_le hi0
  simp only [Int.toNat_natCast] at *
  refine jn1 (fun (b : Bool) h' => b = decide (i < r.look.length) ∧ h' = h) ?_ ?_
  case refine_2 =>
    intro j2 hj2
    refine brr_p (fun h10 => ?_) (fun h10 => ?_)
    · refine O.ld 0 rfl (ldL_c (ldL_n ?_))
      refine O.ld 0 rfl (ldL_c (ldL_n ?_))
      refine hj2 _ _ ⟨?_, rfl⟩
      rw [wrap64 (by omega) (by omega)]
      apply decide_eq_decide.2
      show (r.at_ : Int) + i < ((s.len : Nat) : Int) ↔ _
      have : (i : Int) < 10 := h10
      omega
    · refine hj2 _ _ ⟨?_, rfl⟩
      have : ¬ (i : Int) < 10 := h10
      rw [decide_eq_false]
      omega
  rintro (b : Bool) h ⟨rfl, rfl⟩
  refine brr_p (fun hlt => ?_) (fun hlt => ?_)
  · refine O.ld 0 rfl (ldL_c (k := .sl) (x := s) (ldL_n ?_))
    refine O.ld 0 rfl (ldL_c (ldL_n ?_))
    rw [wrap64 (by omega) (by omega)]
    have hc : r.look[i]? = r.b[r.at_ + i]? := look_at (by omega)
    refine Bytes.at (E h O.drop).1 (by omega) (by omega) fun c hx => ?_
    rw [show ((r.at_ : Int) + i).toNat = r.at_ + i by omega, ← hc] at hx
    have hst := vlast_step hx
    generalize hcn : (c.toNat : Int) = cn
    refine brr_p (fun h128 => ?_) (fun h128 => ?_)
    · refine O.ld 0 rfl (ldL_c (ldL_n ?_))
      rw [if_pos (by omega)] at hst
      rw [wrap64 (by omega) (by omega), show ((r.at_ : Int) + i) = ((r.at_ + i : Nat) : Int) by omega]
      refine k2 i ?_
      rw [hv, hst]; simp
    · rw [if_neg (by omega)] at hst
      rw [wrap64 (by omega) (by omega)]
      refine hn (m - 1) _ _ (by omega) ⟨by omega, by omega, rfl, ?_⟩
      rw [hv, hst, show ((i : Int) + 1).toNat = i + 1 by omega]
      cases vlast (r.look.drop (i + 1)) with
      | none => rfl
      | some y => simp; omega
  · refine hj _ ⟨rfl, ?_⟩
    rw [vlast_end (by omega)] at hv
    exact hv
theorem F_ref1_Eye_Var.is {most : Nat} {Q : Int → Heap → Prop} (o : r.Ok) (E : Eyes h0 L s r.b) (O : Sat h0 h (own p (eyC s r) :: L)) (k : ∀ h', Sat h0 h' (own p (eyC s (r.varP most).1) :: L) → Q (((r.varP most).2 : Nat) : Int) h') : F_ref1_Eye_Var (some (pt p 0)) most h Q := by
  rw [F_ref1_Eye_Var.eq_1, F_ref1_Eye_Var_of.eq_1]
  simp only [nn_some, pt_add, Nat.zero_add, Nat.add_zero, Nat.reduceAdd, Nat.reduceMul, Int.toNat_zero, Int.toNat_one, Nat.zero_mul, Nat.one_mul]
  have h1 := o.le; have h2 := o.len
  have hs := (E h O.drop).1.len
  have hcap := (E h O.drop).2
  have hlen := r.look_len
  have hleft : r.left = r.b.length - r.at_ := rfl
  have O1 := O
  unfold eyC at O
  refine O.ld 0 rfl (ldL_c (ldL_n ?_))
  refine brr_ne (fun hm => ?_) (fun hm => ?_)
  · have hm : r.met ≠ 0 := fun e => hm ((erN_zero _).2 e)
    have e : r.varP most = (r, 0) := by unfold RS.varP; rw [if_pos hm]
    rw [e] at k
    exact k h O1
  have hm : r.met = 0 := (erN_zero _).1 hm
  refine F_ref1_Eye_last.is o E O1 (fun hv => ?_) (fun kk hv => ?_)
  · rw [RS.varP_none hm hv] at k
    refine brr_tt (by simp) ?_
    refine O.st 0 rfl (by simp) rfl fun h O => ?_
    dsimp only [V.put, List.set] at O
    refine F_ref1_Eye_Left.is (r := { r with met := 2 }) ⟨o.le, o.len, by show 2 ≤ 4; decide⟩ hs O ?_
    refine jn0 (fun h' => Sat h0 h' (own p (eyC s { r with met := if r.look.length < 10 then 1 else 2 }) :: L)) (fun h O => k h O) fun j hj => ?_
    have el : RS.left { r with met := 2 } = r.left := rfl
    rw [el]
    refine brr_p (fun hlt => ?_) (fun hlt => ?_)
    · rw [if_pos (by omega)] at hj
      refine O.st 0 rfl (by simp) rfl fun h O => ?_
      dsimp only [V.put, List.set] at O
      exact hj _ O
    · rw [if_neg (by omega)] at hj
      exact hj _ O
  obtain ⟨c0, hc0, hc1, _⟩ := vlast_some hv
  have hkl := (List.getElem?_eq_some_iff.1 hc0).1
  have vS := RS.varP_some (most := most) hm hv
  have hform := form_iff hv (by omega)
  have htk : (r.look.take (kk + 1)).length = kk + 1 := by rw [List.length_take]; omega
  refine brr_ff (decide_eq_false (by omega)) ?_
  refine jn1 (fun (x : Int) h' => x = ((vnum (r.look.take (kk + 1)) % 18446744073709551616 : Nat) : Int) ∧ h' = h) ?_ ?_
  case refine_2 =>
    intro j hj
    rw [F_ref1_Eye_Var.l1.eq_1]
    simp only [nn_some, pt_add, Nat.zero_add, Nat.add_zero, Nat.reduceAdd, Nat.reduceMul, Int.toNat_zero, Int.toNat_one, Nat.zero_mul, Nat.one_mul]
    refine wl2 (k := .int .u64) (l := .int .i64) (fun (m : Nat) (x i : Int) (h' : Heap) => i + 1 = r.at_ + m ∧ m ≤ kk + 1 ∧ h' = h ∧ x = ((vnum ((r.look.take (kk + 1)).drop m) % 18446744073709551616 : Nat) : Int)) ?_ (m := kk + 1) ⟨by omega, by omega, rfl, by rw [List.drop_eq_nil_of_le (by omega)]; rfl⟩
    rintro m (x : Int) (i : Int) h next hn ⟨him, hmk, rfl, rfl⟩
    refine O.ld 0 rfl (ldL_c (ldL_n ?_))
    refine brr_p (fun hge => ?_) (fun hge => ?_)
    · have hge : i ≥ (r.at_ : Int) := hge
      refine O.ld 0 rfl (ldL_c (k := .sl) (x := s) (ldL_n ?_))
      refine Bytes.at (E h O1.drop).1 (by omega) (by omega) fun c hx => ?_
      have hx2 : (r.look.take (kk + 1))[m - 1]? = some c := by
        rw [List.getElem?_take, if_pos (by omega), show r.look[m - 1]? = r.b[r.at_ + (m - 1)]? from look_at (by omega), show r.at_ + (m - 1) = i.toNat by omega]
        exact hx
      have hd : (r.look.take (kk + 1)).drop (m - 1) = c :: (r.look.take (kk + 1)).drop m := by
        obtain ⟨hl, e⟩ := List.getElem?_eq_some_iff.1 hx2
        rw [List.drop_eq_getElem_cons hl, e, show m - 1 + 1 = m by omega]
      refine ⟨by decide, ?_⟩
      have e3 : ((c.toNat : Int)).tmod 128 = ((c.toNat % 128 : Nat) : Int) := by rw [Int.tmod_eq_emod_of_nonneg (by omega)]; omega
      have e4 : ∀ v : Nat, ((v % 18446744073709551616 : Nat) : Int) * 128 = ((v % 18446744073709551616 * 128 : Nat) : Int) := fun v => by omega
      rw [e3, e4, wrapu64m, wrapu64m, ← Int.natCast_add, wrapu64m, wrap64 (by omega) (by omega)]
      refine hn (m - 1) _ _ _ (by omega) ⟨by omega, by omega, rfl, ?_⟩
      rw [hd]
      show _ = ((((c.toNat % 128 + 128 * vnum ((r.look.take (kk + 1)).drop m)) % 18446744073709551616 : Nat)) : Int)
      omega
    · refine hj _ _ ⟨?_, rfl⟩
      have : m = 0 := by
        have hge : ¬ i ≥ (r.at_ : Int) := hge
        omega
      subst this
      rfl
  rintro (x : Int) h ⟨rfl, rfl⟩
  refine O.ld 0 rfl (ldL_c (k := .sl) (x := s) (ldL_n ?_))
  refine O.ld 0 rfl (ldL_c (ldL_n ?_))
  rw [wrap64 (by omega) (by omega)]
  refine ⟨by omega, by omega, by omega, ?_⟩
  refine F_ref1_Var.is O (Nat.mod_lt _ (by decide)) fun t h O => ?_
  refine ⟨O.cells 1 rfl 0 1, O.cells 1 rfl 1 1, ?_⟩
  have V2 := (E h O.drop.drop).1.slice r.at_ (r.at_ + (kk + 1)) (s.cap - r.at_) (by omega) (by omega) hcap
  rw [show r.at_ + (kk + 1) - r.at_ = kk + 1 by omega] at V2
  have e5 : (r.b.drop r.at_).take (kk + 1) = r.look.take (kk + 1) := by
    show _ = ((r.b.drop r.at_).take 10).take (kk + 1)
    rw [List.take_take, Nat.min_eq_left (by omega)]
  rw [e5] at V2
  rw [show (((r.at_ + kk : Nat) : Int) + 1).toNat - (r.at_ : Int).toNat = kk + 1 by omega, show (r.at_ : Int).toNat = r.at_ by omega]
  have hvb := (varB_le (n := vnum (r.look.take (kk + 1)) % 18446744073709551616) (Nat.mod_lt _ (by decide))).1
  refine F_ref0_Eq.is (O.view 0 u8_len (by simp) rfl).1 V2 (by omega) (by omega) ?_
  rw [hform, Bool.not_not]
  have O := O.drop
  refine brr_of (fun hb => ?_) (fun hb => ?_)
  · rw [if_pos hb] at vS
    refine O.st 0 rfl (by simp) rfl fun h O => ?_
    dsimp only [V.put, List.set] at O
    rw [vS] at k
    exact k h O
  have e6 : vnum (r.look.take (kk + 1)) % 18446744073709551616 = vnum (r.look.take (kk + 1)) := by
    rw [hb] at hform
    have := of_decide_eq_true hform
    have e7 := vnum_varB (vnum (r.look.take (kk + 1)) % 18446744073709551616)
    rw [this] at e7
    exact e7.symm
  rw [hb] at vS
  simp only [Bool.false_eq_true, if_false] at vS
  rw [e6]
  refine brr_p (fun hg => ?_) (fun hg => ?_)
  · rw [if_pos (by omega)] at vS
    refine O.st 0 rfl (by simp) rfl fun h O => ?_
    dsimp only [V.put, List.set] at O
    rw [vS] at k
    exact k h O
  · rw [if_neg (by omega)] at vS
    refine O.st 0 rfl (by simp) rfl fun h O => ?_
    dsimp only [V.put, List.set] at O
    rw [vS] at k
    refine k h ?_
    unfold eyC
    rw [show ((r.at_ + (kk + 1) : Nat) : Int) = ((r.at_ + kk : Nat) : Int) + 1 by omega]
    exact O
end
end Go.Proofs.YtompmkmbppcadaaDoor.V
/- One call of a Reader, beside the document's. -/
namespace Go.Proofs.YtompmkmbppcadaaDoor.V
open Go Go.RowKit
set_option linter.unusedVariables false
set_option linter.unusedSimpArgs false
theorem Eyes.drop {h0 : Heap} {L : List Res} {s : Sl} {b : List UInt8} {A : Res} (E : Eyes h0 L s b) : Eyes h0 (A :: L) s b := fun h O => E h O.drop
def RS.stepP (r : RS) (op : COp) : RS :=
  if op.kind = 1 then r.next 1 else if op.kind = 2 then r.next 4 else if op.kind = 3 then r.next 8 else if op.kind = 4 then (r.varP op.n).1
  else if op.kind = 5 then (r.bytesP op.m).1 else if op.kind = 6 then (r.rawP op.m).1 else r
theorem RS.Ok.stepP {r : RS} (o : r.Ok) (op : COp) : (r.stepP op).Ok := by
  unfold RS.stepP
  split
  · exact o.next _
  split
  · exact o.next _
  split
  · exact o.next _
  split
  · exact o.varP _
  split
  · exact o.bytesP _
  split
  · exact o.rawP _
  · exact o
theorem RS.next_b {r : RS} {n : Nat} : (r.next n).b = r.b := by
  unfold RS.next
  split
  · rfl
  · split <;> rfl
theorem RS.bytesP_b {r : RS} {n : Int} : (r.bytesP n).1.b = r.b := by
  unfold RS.bytesP
  split
  · exact RS.varP_b
  · show (RS.next _ _).b = _
    rw [RS.next_b, RS.varP_b]
theorem RS.rawP_b {r : RS} {n : Int} : (r.rawP n).1.b = r.b := by
  unfold RS.rawP
  split
  · show (if _ then _ else _ : RS).b = _
    split <;> rfl
  · exact RS.next_b
theorem RS.stepP_b {r : RS} {op : COp} : (r.stepP op).b = r.b := by
  unfold RS.stepP
  split
  · exact RS.next_b
  split
  · exact RS.next_b
  split
  · exact RS.next_b
  split
  · exact RS.varP_b
  split
  · exact RS.bytesP_b
  split
  · exact RS.rawP_b
  · rfl
theorem RS.bytesP_le {r : RS} {n : Int} : (r.bytesP n).2.length ≤ r.b.length := by
  unfold RS.bytesP
  split
  · simp
  · have := RS.nextB_le (r := (r.varP (max 0 n).toNat).1) (r.varP (max 0 n).toNat).2
    rw [RS.varP_b] at this
    exact this
theorem RS.rawP_le {r : RS} {n : Int} : (r.rawP n).2.length ≤ r.b.length := by
  unfold RS.rawP
  split
  · simp
  · exact RS.nextB_le _
section
variable {h0 h : Heap} {L : List Res} {p q : Nat} {r : RS} {s : Sl}
theorem F_ref1_Eye_Text.is {most : Int} {Q : Sl → Heap → Prop} (o : r.Ok) (E : Eyes h0 L s r.b) (hmo : most ≤ (9223372036854775807 : Int)) (O : Sat h0 h (own p (eyC s r) :: L)) (k : ∀ t h', Sat h0 h' (buf 1 u8 t (r.bytesP most).2 :: own p (eyC s (r.bytesP most).1) :: L) → Q t h') : F_ref1_Eye_Text (some (pt p 0)) most h Q := by
  rw [F_ref1_Eye_Text.eq_1, F_ref1_Eye_Text_of.eq_1]
  simp only [nn_some, pt_add, Nat.zero_add, Nat.add_zero, Nat.reduceAdd, Nat.reduceMul, Int.toNat_zero, Int.toNat_one, Nat.zero_mul, Nat.one_mul]
  have e : r.bytesP most = _ := RS.bytesP.eq_1 r most
  refine jn1 (fun (x : Int) h' => x = (((max 0 most).toNat : Nat) : Int) ∧ h' = h) ?_ ?_
  case refine_2 =>
    intro j hj
    refine brr_p (fun hlt => ?_) (fun hlt => ?_)
    · exact hj _ _ ⟨by omega, rfl⟩
    · exact hj _ _ ⟨by omega, rfl⟩
  rintro (x : Int) h ⟨rfl, rfl⟩
  have hmx : (max 0 most).toNat ≤ 9223372036854775807 := by omega
  generalize (max 0 most).toNat = mo at *
  have O1 := O
  unfold eyC at O1
  refine O1.ld 0 rfl (ldL_c (ldL_n ?_))
  rw [wrapu64 (by omega) (by omega)]
  refine F_ref1_Eye_Var.is o E O fun h O => ?_
  have o1 := o.varP mo
  have hn := RS.varP_le (r := r) (most := mo)
  have hb := RS.varP_b (r := r) (most := mo)
  have hmet := RS.varP_met (r := r) (most := mo)
  generalize (r.varP mo).2 = n at *
  generalize (r.varP mo).1 = r1 at *
  have E1 : Eyes h0 L s r1.b := by rw [hb]; exact E
  rw [wrap64 (by omega) (by omega)]
  refine F_ref1_Eye_Raw.is (n := n) o1 E1 (by omega) O fun t h O => ?_
  have er : r1.rawP (n : Int) = (r1.next n, r1.nextB n) := by unfold RS.rawP; rw [if_neg (by omega)]; rfl
  rw [er] at O
  dsimp only at O
  have O2 := O
  unfold eyC at O2
  refine O2.ld 1 rfl (ldL_c (ldL_n ?_))
  refine brr_ne (fun hm => ?_) (fun hm => ?_)
  · have hm : (r1.next n).met ≠ 0 := fun e => hm ((erN_zero _).2 e)
    have O := O2.drop
    refine O.st 0 rfl (by simp) rfl fun h O => ?_
    dsimp only [V.put, List.set] at O
    have eb : r.bytesP most = ({ r1.next n with at_ := r.at_ }, []) := by
      rw [e]
      by_cases h1 : r1.met = 0
      · by_cases h2 : n > r1.left
        · rw [if_pos ⟨h1, h2⟩, (RS.next_p h1 h2).1]
        · rw [(RS.next_q h1 h2).1] at hm
          exact absurd h1 hm
      · rw [if_neg (fun x => h1 x.1)]
        unfold RS.next RS.nextB
        rw [if_pos h1, if_pos h1, ← (hmet h1).2]
    rw [eb] at k
    exact k _ _ (O.nil_buf (sz := 1) (enc := u8))
  · have hm : (r1.next n).met = 0 := (erN_zero _).1 hm
    have eb : r.bytesP most = (r1.next n, r1.nextB n) := by
      rw [e]
      by_cases h1 : r1.met = 0
      · by_cases h2 : n > r1.left
        · rw [(RS.next_p h1 h2).1] at hm
          cases hm
        · rw [if_neg (fun x => h2 x.2)]
      · rw [if_neg (fun x => h1 x.1)]
    rw [eb] at k
    exact k _ _ O
theorem F_law1_reads.is {op : COp} {Q : Bool → Heap → Prop} (o : r.Ok) (E : Eyes h0 L s r.b) (Ee : Er h0) (hn : op.n < 18446744073709551616) (hM : op.m ≤ (9223372036854775807 : Int)) (O : Sat h0 h (rdR p r :: own q (eyC s r) :: L)) (k : ∀ h', Sat h0 h' (rdR p (r.stepP op) :: own q (eyC s (r.stepP op)) :: L) → Q true h') : F_law1_reads (some (pt p 0)) (some (pt q 0)) op.kind op.which op.m op.n op.s h Q := by
  rw [F_law1_reads.eq_1, F_law1_reads_of.eq_1]
  have hs : s.len = r.b.length := (E h O.drop.drop).1.len
  have hbl := o.len
  refine O.al fun a h O => ?_
  simp only [nn_some, pt_add, Nat.zero_add, Nat.add_zero, Nat.reduceAdd, Nat.reduceMul, Int.toNat_zero, Int.toNat_one, Nat.zero_mul, Nat.one_mul]
  refine O.ld 0 rfl (ldL_c (ldL_n ?_))
  unfold RS.stepP at k
  replace O := O.sel [1, 2, 0] 3 rfl (Nat.le_add_left _ _)
  simp only [selT, List.map, nth, List.drop, List.cons_append, List.nil_append] at O
  refine brr_eq (fun hk => ?_) (fun hk => ?_)
  · rw [if_pos hk] at k
    refine F_code_Reader_U8.is o O fun h O => ?_
    refine F_ref1_Eye_U8.is o E.drop.drop O.swap fun h O => ?_
    replace O := O.sel [1, 0] 3 rfl (Nat.le_add_left _ _)
    simp only [selT, List.map, nth, List.drop, List.cons_append, List.nil_append] at O
    refine Eq.mpr (congrArg (Q · h) (by simp)) (k h O)
  rw [if_neg hk] at k
  refine brr_eq (fun hk => ?_) (fun hk => ?_)
  · rw [if_pos hk] at k
    refine F_code_Reader_U32.is o O fun h O => ?_
    refine F_ref1_Eye_U32.is o E.drop.drop O.swap fun h O => ?_
    replace O := O.sel [1, 0] 3 rfl (Nat.le_add_left _ _)
    simp only [selT, List.map, nth, List.drop, List.cons_append, List.nil_append] at O
    refine Eq.mpr (congrArg (Q · h) (by simp)) (k h O)
  rw [if_neg hk] at k
  refine brr_eq (fun hk => ?_) (fun hk => ?_)
  · rw [if_pos hk] at k
    refine F_code_Reader_U64.is o O fun h O => ?_
    refine F_ref1_Eye_U64.is o E.drop.drop O.swap fun h O => ?_
    replace O := O.sel [1, 0] 3 rfl (Nat.le_add_left _ _)
    simp only [selT, List.map, nth, List.drop, List.cons_append, List.nil_append] at O
    refine Eq.mpr (congrArg (Q · h) (by simp)) (k h O)
  rw [if_neg hk] at k
  refine brr_eq (fun hk => ?_) (fun hk => ?_)
  · rw [if_pos hk] at k
    refine O.ld 2 rfl (ldL_c (ldL_n ?_))
    refine O.ld 2 rfl (ldL_c (ldL_n ?_))
    refine F_code_Reader_Var.is o O fun h O => ?_
    refine ⟨O.cells 2 rfl 3 1, ?_⟩
    refine F_ref1_Eye_Var.is o E.drop.drop O.swap fun h O => ?_
    replace O := O.sel [1, 0] 3 rfl (Nat.le_add_left _ _)
    simp only [selT, List.map, nth, List.drop, List.cons_append, List.nil_append] at O
    refine Eq.mpr (congrArg (Q · h) (by simp)) (k h O)
  rw [if_neg hk] at k
  refine brr_eq (fun hk => ?_) (fun hk => ?_)
  · rw [if_pos hk] at k
    refine O.ld 2 rfl (ldL_c (ldL_n ?_))
    refine O.ld 2 rfl (ldL_c (ldL_n ?_))
    refine F_code_Reader_Bytes.is o hM O fun t h O => ?_
    refine ⟨O.cells 3 rfl 2 1, ?_⟩
    replace O := O.sel [2, 0, 1, 3] 4 rfl (Nat.le_add_left _ _)
    simp only [selT, List.map, nth, List.drop, List.cons_append, List.nil_append] at O
    refine F_ref1_Eye_Text.is o E.drop.drop.drop hM O fun t2 h O => ?_
    have hl := RS.bytesP_le (r := r) (n := op.m)
    refine F_ref0_Eq.is (O.view 2 u8_len (by simp) rfl).1 (O.view 0 u8_len (by simp) rfl).1 (by omega) (by omega) ?_
    replace O := O.sel [3, 1] 5 rfl (Nat.le_add_left _ _)
    simp only [selT, List.map, nth, List.drop, List.cons_append, List.nil_append] at O
    refine Eq.mpr (congrArg (Q · h) (by simp)) (k h O)
  rw [if_neg hk] at k
  refine brr_eq (fun hk => ?_) (fun hk => ?_)
  · rw [if_pos hk] at k
    refine O.ld 2 rfl (ldL_c (ldL_n ?_))
    refine O.ld 2 rfl (ldL_c (ldL_n ?_))
    refine F_code_Reader_Raw.is o hM O fun t h O => ?_
    refine ⟨O.cells 3 rfl 2 1, ?_⟩
    replace O := O.sel [2, 0, 1, 3] 4 rfl (Nat.le_add_left _ _)
    simp only [selT, List.map, nth, List.drop, List.cons_append, List.nil_append] at O
    refine F_ref1_Eye_Raw.is o E.drop.drop.drop hM O fun t2 h O => ?_
    have hl := RS.rawP_le (r := r) (n := op.m)
    refine F_ref0_Eq.is (O.view 2 u8_len (by simp) rfl).1 (O.view 0 u8_len (by simp) rfl).1 (by omega) (by omega) ?_
    replace O := O.sel [3, 1] 5 rfl (Nat.le_add_left _ _)
    simp only [selT, List.map, nth, List.drop, List.cons_append, List.nil_append] at O
    refine Eq.mpr (congrArg (Q · h) (by simp)) (k h O)
  rw [if_neg hk] at k
  have fin : ∀ {b : Bool}, b = true → Q b h := by
    intro b e
    subst e
    replace O := O.sel [0, 1] 3 rfl (Nat.le_add_left _ _)
    simp only [selT, List.map, nth, List.drop, List.cons_append, List.nil_append] at O
    exact k h O
  refine brr_eq (fun _ => ?_) (fun _ => ?_)
  · refine F_code_Reader_Left.is o O ?_
    refine F_ref1_Eye_Left.is o hs O.swap ?_
    exact fin (by simp)
  refine brr_eq (fun _ => ?_) (fun _ => ?_)
  · have O2 := O
    unfold eyC at O2
    refine O2.ld 1 rfl (ldL_c (ldL_n ?_))
    refine F_code_Reader_At.is O ?_
    exact ⟨O2.cells 1 rfl 1 1, fin (by simp)⟩
  refine brr_eq (fun _ => ?_) (fun _ => ?_)
  · have O2 := O
    unfold eyC at O2
    refine O2.ld 1 rfl (ldL_c (ldL_n ?_))
    refine F_code_Reader_Fault.is (Ee.sat O) o O ?_
    refine ⟨O2.cells 1 rfl 2 1, ?_⟩
    rw [F_law1_num.eq_1, F_law1_num_of.eq_1]
    exact ⟨O2.cells 1 rfl 2 1, fin (by simp)⟩
  refine brr_eq (fun _ => ?_) (fun _ => ?_)
  · refine F_code_Reader_End.is (Ee.sat O) o O ?_
    rw [F_law1_num.eq_1, F_law1_num_of.eq_1]
    refine F_ref1_Eye_End.is o hs O.swap ?_
    exact fin (by simp)
  · exact fin rfl
end
end Go.Proofs.YtompmkmbppcadaaDoor.V
/- What is read without a fault, written anew, is what was read: no program in sight. -/
namespace Go.Proofs.YtompmkmbppcadaaDoor.V
open Go Go.RowKit
set_option linter.unusedVariables false
set_option linter.unusedSimpArgs false
theorem fixB_snoc (n size : Nat) : fixB n (size + 1) = fixB (n / 256) size ++ [UInt8.ofNat n] := by
  unfold fixB
  rw [List.range_succ, List.map_append]
  congr 1
  · apply List.map_congr_left
    intro i hi
    have hi := List.mem_range.1 hi
    rw [show size + 1 - 1 - i = 1 + (size - 1 - i) by omega, Nat.pow_add, Nat.pow_one, Nat.div_div_eq_div_mul]
  · simp
theorem fixB_beN : ∀ (size : Nat) (ys : List UInt8), ys.length = size → fixB (beN ys) size = ys := by
  intro size
  induction size with
  | zero => intro ys h; have := List.length_eq_zero_iff.1 h; subst this; rfl
  | succ size ih =>
    intro ys h
    have e := List.dropLast_concat_getLast (l := ys) (by intro e; subst e; simp at h)
    rw [← e, beN_snoc, fixB_snoc]
    have hc := (ys.getLast (by intro e; subst e; simp at h)).toNat_lt
    congr 1
    · rw [show (beN ys.dropLast * 256 + (ys.getLast (by intro e; subst e; simp at h)).toNat) / 256 = beN ys.dropLast by omega]
      exact ih _ (by simp [h])
    · congr 1
      apply UInt8.toNat_inj.1
      simp
def RS.againP (r : RS) (op : COp) : RS :=
  if op.kind = 1 then r.next 1 else if op.kind = 2 then r.next 4 else if op.kind = 3 then r.next 8 else if op.kind = 4 then (r.varP op.n).1
  else if op.kind = 5 then (r.bytesP op.m).1 else if op.kind = 6 then (r.rawP (op.m % 20)).1 else r
def RS.againB (r : RS) (op : COp) : List UInt8 :=
  if op.kind = 1 then fixB (beN (r.nextB 1)) 1 else if op.kind = 2 then fixB (beN (r.nextB 4)) 4 else if op.kind = 3 then fixB (beN (r.nextB 8)) 8 else if op.kind = 4 then varB (r.varP op.n).2
  else if op.kind = 5 then varB (r.bytesP op.m).2.length ++ (r.bytesP op.m).2 else if op.kind = 6 then (r.rawP (op.m % 20)).2 else []
theorem RS.Ok.againP {r : RS} (o : r.Ok) (op : COp) : (r.againP op).Ok := by
  unfold RS.againP
  split
  · exact o.next _
  split
  · exact o.next _
  split
  · exact o.next _
  split
  · exact o.varP _
  split
  · exact o.bytesP _
  split
  · exact o.rawP _
  · exact o
theorem RS.againP_b {r : RS} {op : COp} : (r.againP op).b = r.b := by
  unfold RS.againP
  split
  · exact RS.next_b
  split
  · exact RS.next_b
  split
  · exact RS.next_b
  split
  · exact RS.varP_b
  split
  · exact RS.bytesP_b
  split
  · exact RS.rawP_b
  · rfl
/-- What a step of a Reader tells of the bytes that it took. -/
def Took (r r' : RS) (ys : List UInt8) : Prop := if r'.met = 0 then r.at_ ≤ r'.at_ ∧ r'.at_ ≤ r.b.length ∧ ys = (r.b.drop r.at_).take (r'.at_ - r.at_) else r'.at_ = r.at_
theorem took_next {r : RS} (o : r.Ok) (hm : r.met = 0) (n : Nat) : Took r (r.next n) (r.nextB n) ∧ ((r.next n).met = 0 → (r.nextB n).length = n) := by
  unfold Took
  by_cases h : n > r.left
  · rw [(RS.next_p hm h).1]
    refine ⟨?_, fun e => by cases e⟩
    rw [if_neg (by show ¬ (1 = 0); decide)]
  · rw [(RS.next_q hm h).1, (RS.next_q hm h).2]
    unfold RS.left at h
    have := o.le
    have e : (r.b.drop r.at_).length = r.b.length - r.at_ := List.length_drop
    refine ⟨?_, fun _ => by rw [List.length_take]; omega⟩
    rw [if_pos hm]
    refine ⟨by show r.at_ ≤ r.at_ + n; omega, by show r.at_ + n ≤ _; omega, ?_⟩
    show _ = List.take (r.at_ + n - r.at_) _
    rw [show r.at_ + n - r.at_ = n by omega]
theorem took_fixed {r : RS} (o : r.Ok) (hm : r.met = 0) (n : Nat) : Took r (r.next n) (fixB (beN (r.nextB n)) n) := by
  obtain ⟨h1, h2⟩ := took_next o hm n
  by_cases h : (r.next n).met = 0
  · rw [fixB_beN n _ (h2 h)]; exact h1
  · unfold Took at h1 ⊢
    rw [if_neg h] at h1 ⊢
    exact h1
theorem took_var {r : RS} (o : r.Ok) (hm : r.met = 0) (most : Nat) : Took r (r.varP most).1 (varB (r.varP most).2) := by
  by_cases h : (r.varP most).1.met = 0
  · unfold Took
    rw [if_pos h]
    cases hv : vlast r.look with
    | none =>
      rw [RS.varP_none hm hv] at h
      revert h
      show (if _ then 1 else 2) = 0 → _
      split <;> intro h <;> cases h
    | some k =>
      have vS := RS.varP_some (most := most) hm hv
      obtain ⟨c, hc, _⟩ := vlast_some hv
      have hk := (List.getElem?_eq_some_iff.1 hc).1
      have hlen := r.look_len
      have hform := form_iff hv (by omega)
      rw [vS] at h ⊢
      by_cases hb : badForm r.look k = true
      · rw [if_pos hb] at h; cases h
      · rw [if_neg hb] at h ⊢
        have hb : badForm r.look k = false := by simpa using hb
        by_cases hg : vnum (r.look.take (k + 1)) > most
        · rw [if_pos hg] at h; cases h
        · rw [if_neg hg]
          rw [hb] at hform
          have e1 := of_decide_eq_true hform
          have e2 := vnum_varB (vnum (r.look.take (k + 1)) % 18446744073709551616)
          rw [e1] at e2
          rw [← e2] at e1
          have hl : r.left = r.b.length - r.at_ := rfl
          have := o.le
          refine ⟨by show r.at_ ≤ r.at_ + (k + 1); omega, by show r.at_ + (k + 1) ≤ _; omega, ?_⟩
          show varB (vnum (r.look.take (k + 1))) = List.take (r.at_ + (k + 1) - r.at_) _
          rw [show r.at_ + (k + 1) - r.at_ = k + 1 by omega]
          have e5 : (r.b.drop r.at_).take (k + 1) = r.look.take (k + 1) := by
            show _ = ((r.b.drop r.at_).take 10).take (k + 1)
            rw [List.take_take, Nat.min_eq_left (by omega)]
          rw [e5]
          exact e1
  · unfold Took
    rw [if_neg h]
    exact (RS.varP_met h).2
theorem took_raw {r : RS} (o : r.Ok) (hm : r.met = 0) {n : Int} (hn : 0 ≤ n) : Took r (r.rawP n).1 (r.rawP n).2 := by
  unfold RS.rawP
  rw [if_neg (by omega)]
  exact (took_next o hm _).1
theorem took_bytes {r : RS} (o : r.Ok) (hm : r.met = 0) (n : Int) : Took r (r.bytesP n).1 (varB (r.bytesP n).2.length ++ (r.bytesP n).2) := by
  have t1 := took_var o hm (max 0 n).toNat
  have hmet := RS.varP_met (r := r) (most := (max 0 n).toNat)
  have o1 := o.varP (max 0 n).toNat
  have hb := RS.varP_b (r := r) (most := (max 0 n).toNat)
  have e : r.bytesP n = _ := RS.bytesP.eq_1 r n
  generalize (r.varP (max 0 n).toNat).2 = m at *
  generalize (r.varP (max 0 n).toNat).1 = r1 at *
  by_cases h1 : r1.met = 0
  · by_cases h2 : m > r1.left
    · rw [if_pos ⟨h1, h2⟩] at e
      rw [e]
      unfold Took
      rw [if_neg (by show ¬ (1 = 0); decide)]
    · rw [if_neg (fun x => h2 x.2)] at e
      rw [e]
      obtain ⟨t2, t3⟩ := took_next o1 h1 m
      have hmm : (r1.next m).met = 0 := by rw [(RS.next_q h1 h2).1]; exact h1
      have hl := t3 hmm
      unfold Took at t1 t2 ⊢
      rw [if_pos h1] at t1
      rw [if_pos hmm] at t2 ⊢
      obtain ⟨a1, a2, a3⟩ := t1
      obtain ⟨c1, c2, c3⟩ := t2
      refine ⟨by show r.at_ ≤ (r1.next m).at_; omega, by rw [hb] at c2; exact c2, ?_⟩
      show varB (r1.nextB m).length ++ r1.nextB m = _
      rw [hl, a3, c3, hb]
      show _ = List.take ((r1.next m).at_ - r.at_) _
      have hd : (r.b.drop r1.at_) = (r.b.drop r.at_).drop (r1.at_ - r.at_) := by rw [List.drop_drop]; congr 1; omega
      rw [hd, show (r1.next m).at_ - r.at_ = (r1.at_ - r.at_) + ((r1.next m).at_ - r1.at_) by omega, List.take_add]
  · rw [if_neg (fun x => h1 x.1)] at e
    rw [e]
    unfold RS.next RS.nextB
    rw [if_pos h1, if_pos h1]
    unfold Took
    rw [if_neg h1]
    exact (hmet h1).2
theorem took_again {r : RS} (o : r.Ok) (hm : r.met = 0) (op : COp) : Took r (r.againP op) (r.againB op) := by
  unfold RS.againP RS.againB
  by_cases h1 : op.kind = 1
  · rw [if_pos h1, if_pos h1]; exact took_fixed o hm 1
  rw [if_neg h1, if_neg h1]
  by_cases h1 : op.kind = 2
  · rw [if_pos h1, if_pos h1]; exact took_fixed o hm 4
  rw [if_neg h1, if_neg h1]
  by_cases h1 : op.kind = 3
  · rw [if_pos h1, if_pos h1]; exact took_fixed o hm 8
  rw [if_neg h1, if_neg h1]
  by_cases h1 : op.kind = 4
  · rw [if_pos h1, if_pos h1]; exact took_var o hm _
  rw [if_neg h1, if_neg h1]
  by_cases h1 : op.kind = 5
  · rw [if_pos h1, if_pos h1]; exact took_bytes o hm _
  rw [if_neg h1, if_neg h1]
  by_cases h1 : op.kind = 6
  · rw [if_pos h1, if_pos h1]; exact took_raw o hm (Int.emod_nonneg _ (by decide))
  rw [if_neg h1, if_neg h1]
  unfold Took
  rw [if_pos hm]
  exact ⟨Nat.le_refl _, o.le, by simp⟩
theorem took_take {r r' : RS} {ys : List UInt8} (t : Took r r' ys) (hm : r'.met = 0) : r.b.take r.at_ ++ ys = r.b.take r'.at_ := by
  unfold Took at t
  rw [if_pos hm] at t
  obtain ⟨h1, h2, h3⟩ := t
  rw [h3, show r'.at_ = r.at_ + (r'.at_ - r.at_) by omega, List.take_add]
  congr 2
  omega
end Go.Proofs.YtompmkmbppcadaaDoor.V
/- What is written is read: no program in sight. -/
namespace Go.Proofs.YtompmkmbppcadaaDoor.V
open Go Go.RowKit
set_option linter.unusedVariables false
set_option linter.unusedSimpArgs false
def RS.backP (r : RS) (op : COp) : RS :=
  if op.kind = 1 then r.next 1 else if op.kind = 2 then r.next 4 else if op.kind = 3 then r.next 8 else if op.kind = 4 then (r.varP op.n).1
  else if op.kind = 5 then (r.bytesP op.b.length).1 else if op.kind = 6 then (r.rawP op.b.length).1 else r
def RS.backA (r : RS) (op : COp) : Bool :=
  if op.kind = 1 then decide (beN (r.nextB 1) = op.n % 256) else if op.kind = 2 then decide (beN (r.nextB 4) = op.n % 4294967296) else if op.kind = 3 then decide (beN (r.nextB 8) = op.n) else if op.kind = 4 then decide ((r.varP op.n).2 = op.n)
  else if op.kind = 5 then decide ((r.bytesP op.b.length).2 = op.b) else if op.kind = 6 then decide ((r.rawP op.b.length).2 = op.b) else true
theorem RS.Ok.backP {r : RS} (o : r.Ok) (op : COp) : (r.backP op).Ok := by
  unfold RS.backP
  split
  · exact o.next _
  split
  · exact o.next _
  split
  · exact o.next _
  split
  · exact o.varP _
  split
  · exact o.bytesP _
  split
  · exact o.rawP _
  · exact o
/-- A Reader that stands before these bytes. -/
def Before (r : RS) (ys : List UInt8) : Prop := r.met = 0 ∧ (r.b.drop r.at_).take ys.length = ys
theorem Before.left {r : RS} {ys : List UInt8} (B : Before r ys) : ys.length ≤ r.left := by
  have := congrArg List.length B.2
  rw [List.length_take, List.length_drop] at this
  unfold RS.left
  omega
theorem Before.next {r : RS} {ys : List UInt8} (B : Before r ys) : r.next ys.length = { r with at_ := r.at_ + ys.length } ∧ r.nextB ys.length = ys := by
  have h := B.left
  have := RS.next_q B.1 (n := ys.length) (by omega)
  exact ⟨this.1, this.2.trans B.2⟩
theorem Before.pre {r : RS} {ys zs : List UInt8} (B : Before r (ys ++ zs)) : Before r ys := by
  refine ⟨B.1, ?_⟩
  have e := congrArg (List.take ys.length) B.2
  rw [List.take_take, List.take_left, List.length_append, Nat.min_eq_left (by omega)] at e
  exact e
theorem Before.suf {r : RS} {ys zs : List UInt8} (B : Before r (ys ++ zs)) : Before { r with at_ := r.at_ + ys.length } zs := by
  refine ⟨B.1, ?_⟩
  have e := congrArg (List.drop ys.length) B.2
  rw [List.drop_left, List.length_append, List.drop_take, List.drop_drop, Nat.add_sub_cancel_left] at e
  exact e
theorem varB_vlast : ∀ (n : Nat) (zs : List UInt8), vlast (varB n ++ zs) = some ((varB n).length - 1) := by
  intro n
  induction n using Nat.strongRecOn with
  | _ n ih =>
    intro zs
    rw [varB]
    by_cases hn : n < 128
    · rw [if_pos hn]
      show (if _ then _ else _) = _
      rw [if_pos (by simp; omega)]
      rfl
    · rw [if_neg hn]
      show (if _ then _ else _) = _
      have h1 : (UInt8.ofNat (128 + n % 128)).toNat = 128 + n % 128 := by simp; omega
      rw [if_neg (by omega)]
      have := ih (n / 128) (by omega) zs
      show (vlast (varB (n / 128) ++ zs)).map _ = _
      rw [this]
      have h2 : 1 ≤ (varB (n / 128)).length := by unfold varB; split <;> simp
      simp
      omega
theorem varB_pos (n : Nat) : 1 ≤ (varB n).length := by unfold varB; split <;> simp
theorem vlast_init : ∀ (n : Nat) (ys : List UInt8), ys.length < (varB n).length → (varB n).take ys.length = ys → vlast ys = none := by
  intro n
  induction n using Nat.strongRecOn with
  | _ n ih =>
    intro ys hl he
    rw [varB] at hl he
    by_cases hn : n < 128
    · rw [if_pos hn] at hl he
      have : ys = [] := List.length_eq_zero_iff.1 (by simpa using hl)
      subst this; rfl
    · rw [if_neg hn] at hl he
      cases ys with
      | nil => rfl
      | cons c ys =>
        rw [List.length_cons, List.take_succ_cons] at he
        have e1 := (List.cons.inj he).1
        have e2 := (List.cons.inj he).2
        have h1 : (UInt8.ofNat (128 + n % 128)).toNat = 128 + n % 128 := by simp; omega
        rw [← e1, vlast, if_neg (by omega), ih _ (by omega) ys (by simpa using hl) e2]
        rfl
theorem Before.look {r : RS} {ys : List UInt8} (B : Before r ys) (h : ys.length ≤ 10) : ∃ zs, r.look = ys ++ zs := by
  refine ⟨r.look.drop ys.length, ?_⟩
  have e : r.look.take ys.length = ys := by
    show ((r.b.drop r.at_).take 10).take _ = _
    rw [List.take_take, Nat.min_eq_left h]
    exact B.2
  rw [← List.take_append_drop ys.length r.look, e]
  congr 1
  rw [List.drop_left]
theorem Before.var {r : RS} {n most : Nat} (B : Before r (varB n)) (hn : n < 18446744073709551616) (hm : n ≤ most) : r.varP most = ({ r with at_ := r.at_ + (varB n).length }, n) := by
  have hl := varB_le hn
  obtain ⟨zs, e⟩ := B.look hl.1
  have hv := varB_vlast n zs
  rw [← e] at hv
  have vS := RS.varP_some (most := most) B.1 hv
  have hform := form_iff hv (by omega)
  rw [show (varB n).length - 1 + 1 = (varB n).length by omega] at vS hform
  have et : r.look.take (varB n).length = varB n := by rw [e, List.take_left]
  rw [et, vnum_varB] at vS hform
  rw [Nat.mod_eq_of_lt hn, decide_eq_true rfl] at hform
  have hb : badForm r.look ((varB n).length - 1) = false := by
    cases hc : badForm r.look ((varB n).length - 1) with
    | true => rw [hc] at hform; cases hform
    | false => rfl
  rw [hb, if_neg (by decide), if_neg (by omega)] at vS
  exact vS
theorem Before.bytes {r : RS} {ys : List UInt8} (B : Before r (varB ys.length ++ ys)) (hl : ys.length < 9223372036854775808) : r.bytesP ys.length = ({ r with at_ := r.at_ + (varB ys.length ++ ys).length }, ys) := by
  have e := RS.bytesP.eq_1 r ys.length
  rw [show (max 0 (ys.length : Int)).toNat = ys.length by omega, B.pre.var (by omega) (Nat.le_refl _)] at e
  have B2 := B.suf
  have h2 := B2.left
  rw [if_neg (fun x => by have h3 : ys.length > RS.left { r with at_ := r.at_ + (varB ys.length).length } := x.2; omega), B2.next.1, B2.next.2] at e
  rw [e, List.length_append, ← Nat.add_assoc]
/-- WHAT IS WRITTEN IS READ. -/
theorem back_full {r : RS} {op : COp} (hn : op.n < 18446744073709551616) (hb : op.b.length < 9223372036854775808) (B : Before r (laid op)) : r.backP op = { r with at_ := r.at_ + (laid op).length } ∧ r.backA op = true := by
  have fx : ∀ size m, m < 256 ^ size → Before r (fixB m size) → r.next size = { r with at_ := r.at_ + (fixB m size).length } ∧ beN (r.nextB size) = m := by
    intro size m hm B
    have h := B.next
    rw [fixB_len] at h ⊢
    rw [h.1, h.2, beN_fixB _ _ hm]
    exact ⟨rfl, rfl⟩
  unfold RS.backP RS.backA laid at *
  by_cases h1 : op.kind = 1
  · rw [if_pos h1] at B; rw [if_pos h1, if_pos h1, if_pos h1]
    obtain ⟨e1, e2⟩ := fx 1 _ (Nat.mod_lt _ (by decide)) B
    exact ⟨e1, decide_eq_true e2⟩
  rw [if_neg h1] at B; rw [if_neg h1, if_neg h1, if_neg h1]
  clear h1
  by_cases h1 : op.kind = 2
  · rw [if_pos h1] at B; rw [if_pos h1, if_pos h1, if_pos h1]
    obtain ⟨e1, e2⟩ := fx 4 _ (Nat.mod_lt _ (by decide)) B
    exact ⟨e1, decide_eq_true e2⟩
  rw [if_neg h1] at B; rw [if_neg h1, if_neg h1, if_neg h1]
  clear h1
  by_cases h1 : op.kind = 3
  · rw [if_pos h1] at B; rw [if_pos h1, if_pos h1, if_pos h1]
    obtain ⟨e1, e2⟩ := fx 8 _ hn B
    exact ⟨e1, decide_eq_true e2⟩
  rw [if_neg h1] at B; rw [if_neg h1, if_neg h1, if_neg h1]
  clear h1
  by_cases h1 : op.kind = 4
  · rw [if_pos h1] at B; rw [if_pos h1, if_pos h1, if_pos h1]
    rw [B.var hn (Nat.le_refl _)]
    exact ⟨rfl, decide_eq_true rfl⟩
  rw [if_neg h1] at B; rw [if_neg h1, if_neg h1, if_neg h1]
  clear h1
  by_cases h1 : op.kind = 5
  · rw [if_pos h1] at B; rw [if_pos h1, if_pos h1, if_pos h1]
    rw [B.bytes hb]
    exact ⟨rfl, decide_eq_true rfl⟩
  rw [if_neg h1] at B; rw [if_neg h1, if_neg h1, if_neg h1]
  clear h1
  by_cases h1 : op.kind = 6
  · rw [if_pos h1] at B; rw [if_pos h1, if_pos h1, if_pos h1]
    have e : r.rawP (op.b.length : Int) = (r.next op.b.length, r.nextB op.b.length) := by unfold RS.rawP; rw [if_neg (by omega)]; rfl
    rw [e, B.next.1, B.next.2]
    exact ⟨rfl, decide_eq_true rfl⟩
  rw [if_neg h1]; rw [if_neg h1, if_neg h1]
  exact ⟨by simp, rfl⟩
/-- OF WHAT IS CUT OFF, NOTHING IS READ. -/
theorem back_cut {r : RS} {op : COp} (o : r.Ok) (hm : r.met = 0) (hn : op.n < 18446744073709551616) (hb : op.b.length < 9223372036854775808) (hp : r.b.drop r.at_ = (laid op).dropLast) (hl : laid op ≠ []) : (r.backP op).met = 1 := by
  have hlen : r.left + 1 = (laid op).length := by
    have := congrArg List.length hp
    rw [List.length_drop, List.length_dropLast] at this
    have h2 := List.length_pos_iff.2 hl
    unfold RS.left
    omega
  have nx : ∀ n, n > r.left → (r.next n).met = 1 := fun n h => by rw [(RS.next_p hm h).1]
  have vr : ∀ n most, n < 18446744073709551616 → (r.b.drop r.at_ = (varB n).dropLast) → (r.varP most).1 = { r with met := 1 } := by
    intro n most hn e
    have h10 := (varB_le hn).1
    have h1 := varB_pos n
    have ll : (varB n).dropLast.length = (varB n).length - 1 := List.length_dropLast
    have el : r.look = (varB n).dropLast := by
      show (r.b.drop r.at_).take 10 = _
      rw [e, List.take_of_length_le (by omega)]
    have hv : vlast r.look = none := by
      rw [el]
      refine vlast_init n _ (by omega) ?_
      rw [ll, ← List.dropLast_eq_take]
    rw [RS.varP_none hm hv, if_pos (by rw [el]; omega)]
  have hn2 : op.n % 256 < 256 := Nat.mod_lt _ (by decide)
  unfold RS.backP laid at *
  by_cases h1 : op.kind = 1
  · rw [if_pos h1] at hlen; rw [if_pos h1]
    rw [fixB_len] at hlen
    exact nx _ (by omega)
  rw [if_neg h1] at hlen hp hl; rw [if_neg h1]
  clear h1
  by_cases h1 : op.kind = 2
  · rw [if_pos h1] at hlen; rw [if_pos h1]
    rw [fixB_len] at hlen
    exact nx _ (by omega)
  rw [if_neg h1] at hlen hp hl; rw [if_neg h1]
  clear h1
  by_cases h1 : op.kind = 3
  · rw [if_pos h1] at hlen; rw [if_pos h1]
    rw [fixB_len] at hlen
    exact nx _ (by omega)
  rw [if_neg h1] at hlen hp hl; rw [if_neg h1]
  clear h1
  by_cases h1 : op.kind = 4
  · rw [if_pos h1] at hlen hp; rw [if_pos h1]
    rw [vr _ _ hn hp]
  rw [if_neg h1] at hlen hp hl; rw [if_neg h1]
  clear h1
  by_cases h1 : op.kind = 5
  · rw [if_pos h1] at hlen hp; rw [if_pos h1]
    have e := RS.bytesP.eq_1 r op.b.length
    rw [show (max 0 (op.b.length : Int)).toNat = op.b.length by omega] at e
    by_cases h0 : op.b = []
    · rw [h0, List.append_nil] at hp
      have ev := vr _ op.b.length (by decide) hp
      rw [e, ev]
      rw [if_neg (fun x => by have : (1 : Nat) = 0 := x.1; omega)]
      show (RS.next _ _).met = 1
      unfold RS.next
      rw [if_pos (by show 1 ≠ 0; decide)]
    · have B : Before r (varB op.b.length) := by
        refine ⟨hm, ?_⟩
        rw [hp, List.dropLast_append_of_ne_nil h0, List.take_left]
      rw [B.var (by omega) (Nat.le_refl _)] at e
      have hle : RS.left { r with at_ := r.at_ + (varB op.b.length).length } < op.b.length := by
        rw [List.length_append] at hlen
        have := List.length_pos_iff.2 h0
        unfold RS.left at hlen ⊢
        show r.b.length - (r.at_ + _) < _
        omega
      rw [if_pos ⟨hm, hle⟩] at e
      rw [e]
  rw [if_neg h1] at hlen hp hl; rw [if_neg h1]
  clear h1
  by_cases h1 : op.kind = 6
  · rw [if_pos h1] at hlen; rw [if_pos h1]
    have e : r.rawP (op.b.length : Int) = (r.next op.b.length, r.nextB op.b.length) := by unfold RS.rawP; rw [if_neg (by omega)]; rfl
    rw [e]
    exact nx _ (by omega)
  rw [if_neg h1] at hl
  exact absurd rfl hl
theorem back_stuck {r : RS} {op : COp} (hm : r.met ≠ 0) : r.backP op = r := by
  unfold RS.backP
  rw [(RS.stuck_next hm _).1, (RS.stuck_next hm _).1, (RS.stuck_next hm _).1, RS.stuck_var hm, RS.stuck_bytes hm, RS.stuck_raw hm]
  simp
end Go.Proofs.YtompmkmbppcadaaDoor.V
namespace Go.Proofs.YtompmkmbppcadaaDoor.V
open Go Go.RowKit
set_option linter.unusedVariables false
set_option maxRecDepth 100000
/-! tally/tallylaw1.lays -/
def F_law1_lays_of (f25_ : Option Addr → Sl → Heap → (Heap → Prop) → Prop) (f27_ : Option Addr → Sl → Heap → (Heap → Prop) → Prop) (f32_ : Option Addr → Int → Heap → (Heap → Prop) → Prop) (f50_ : Option Addr → Int → Heap → (Heap → Prop) → Prop) (f56_ : Option Addr → Int → Heap → (Heap → Prop) → Prop) (f57_ : Option Addr → Int → Heap → (Heap → Prop) → Prop) (w1 : Option Addr) (o2 : Int) (o3 : Int) (o4 : Int) (o5 : Int) (o6 : Sl) (h : Heap) (Q : Heap → Prop) : Prop :=
  al 39 [.int .i64 o2, .int .i64 o3, .int .i64 o4, .int .u64 o5, .slice o6.ptr o6.len o6.cap] h fun (a7 : Addr) (h8 : Heap) =>
  ld [.int .i64] (a7.add 0) h8 fun (v9 : Int) =>
  jn [] (fun  (h33 : Heap) =>
  Q h33) (fun (j10 : Heap → Prop) =>
  brr (v9 == 1)
  (ld [.int .u64] (a7.add 3) h8 fun (v11 : Int) =>
  f32_ w1 (IntKind.u8.wrap v11) h8 fun  (h12 : Heap) =>
  j10 h12)
  (jn [] (fun  (h32 : Heap) =>
  j10 h32) (fun (j13 : Heap → Prop) =>
  brr (v9 == 2)
  (ld [.int .u64] (a7.add 3) h8 fun (v14 : Int) =>
  f56_ w1 (IntKind.u32.wrap v14) h8 fun  (h15 : Heap) =>
  j13 h15)
  (jn [] (fun  (h31 : Heap) =>
  j13 h31) (fun (j16 : Heap → Prop) =>
  brr (v9 == 3)
  (ld [.int .u64] (a7.add 3) h8 fun (v17 : Int) =>
  f57_ w1 v17 h8 fun  (h18 : Heap) =>
  j16 h18)
  (jn [] (fun  (h30 : Heap) =>
  j16 h30) (fun (j19 : Heap → Prop) =>
  brr (v9 == 4)
  (ld [.int .u64] (a7.add 3) h8 fun (v20 : Int) =>
  f50_ w1 v20 h8 fun  (h21 : Heap) =>
  j19 h21)
  (jn [] (fun  (h29 : Heap) =>
  j19 h29) (fun (j22 : Heap → Prop) =>
  brr (v9 == 5)
  (ld [.sl] (a7.add 4) h8 fun (v23 : Sl) =>
  f25_ w1 v23 h8 fun  (h24 : Heap) =>
  j22 h24)
  (jn [] (fun  (h28 : Heap) =>
  j22 h28) (fun (j25 : Heap → Prop) =>
  brr (v9 == 6)
  (ld [.sl] (a7.add 4) h8 fun (v26 : Sl) =>
  f27_ w1 v26 h8 fun  (h27 : Heap) =>
  j25 h27)
  (j25 h8))))))))))))
def F_law1_lays (w1 : Option Addr) (o2 : Int) (o3 : Int) (o4 : Int) (o5 : Int) (o6 : Sl) (h : Heap) (Q : Heap → Prop) : Prop := F_law1_lays_of F_code_Writer_Bytes F_code_Writer_Raw F_code_Writer_U8 F_code_Writer_Var F_code_Writer_U32 F_code_Writer_U64 w1 o2 o3 o4 o5 o6 h Q
def plan33 : Plan := .s (.r [0, 3]) (.s (.r [0, 3, 5]) (.b (.s (.r [0, 3, 5, 6]) (.cj [] [] (.r []) (.s (.r [0, 3, 5, 13]) (.cj [] [] (.r []) (.s (.r [0, 3, 5, 20]) (.cj [] [] (.r []) (.s (.r [0, 3, 5, 26]) (.cj [] [] (.r []) (.s (.r [0, 3, 5, 32]) (.cj [] [] (.r []) (.s (.r [0, 3, 38]) (.cj [] [] (.r []) .z))))))))))))))
theorem F_law1_lays.eq (f25_ : Option Addr → Sl → Heap → (Heap → Prop) → Prop) (f27_ : Option Addr → Sl → Heap → (Heap → Prop) → Prop) (f32_ : Option Addr → Int → Heap → (Heap → Prop) → Prop) (f50_ : Option Addr → Int → Heap → (Heap → Prop) → Prop) (f56_ : Option Addr → Int → Heap → (Heap → Prop) → Prop) (f57_ : Option Addr → Int → Heap → (Heap → Prop) → Prop) (w1 : Option Addr) (o2 : Int) (o3 : Int) (o4 : Int) (o5 : Int) (o6 : Sl) (h : Heap) (K : Value → Heap → Prop) : F_law1_lays_of f25_ f27_ f32_ f50_ f56_ f57_ w1 o2 o3 o4 o5 o6 h (fun  (h : Heap) => K (.tuple #[]) h) =
    den Tryd.prog (fn1 25 (E_code_Writer_Bytes_of f25_) (fn1 27 (E_code_Writer_Raw_of f27_) (fn1 32 (E_code_Writer_U8_of f32_) (fn1 50 (E_code_Writer_Var_of f50_) (fn1 56 (E_code_Writer_U32_of f56_) (fn1 57 (E_code_Writer_U64_of f57_) noFns)))))) Tryd.f33.ntmps plan33 (bodyOf Tryd.f33) (args0 0 [(.pointer w1 : Value), (.agg #[.int .i64 o2, .int .i64 o3, .int .i64 o4, .int .u64 o5, .slice o6.ptr o6.len o6.cap] : Value)]) h ⟨fun env h => dRes Tryd.prog Tryd.f33.results.toList env h K, fun _ _ _ => False, fun env h => dRes Tryd.prog Tryd.f33.results.toList env h K⟩ := by kernel_rfl
def E_law1_lays_of (f : Option Addr → Int → Int → Int → Int → Sl → Heap → (Heap → Prop) → Prop) : List Value → Heap → (Value → Heap → Prop) → Prop
  | [v0, v1], h, K => dec1 .ptr v0 fun (w1 : Option Addr) =>
  vAgg v1 fun cs1 => decs [.int .i64, .int .i64, .int .i64, .int .u64, .sl] cs1.toList fun (o2 : Int) (o3 : Int) (o4 : Int) (o5 : Int) (o6 : Sl) =>
  f w1 o2 o3 o4 o5 o6 h (fun  (h : Heap) => K (.tuple #[]) h)
  | _, _, _ => False
abbrev E_law1_lays := E_law1_lays_of F_law1_lays
theorem E_law1_lays.right : IsRight Tryd.prog 33 E_law1_lays := by
  refine isRight fun vs K w hh => ?_
  match vs, hh with
  | [v0, v1], hh =>
    unfold E_law1_lays E_law1_lays_of at hh
    replace hh := dec1_sound hh; obtain ⟨w1, rfl, hh⟩ := hh
    replace hh := vAgg_sound hh; obtain ⟨cs1, rfl, hh⟩ := hh
    replace hh := decs_cons hh; obtain ⟨o2, l1_0, e1_0, hh⟩ := hh
    replace hh := decs_cons hh; obtain ⟨o3, l1_1, e1_1, hh⟩ := hh
    replace hh := decs_cons hh; obtain ⟨o4, l1_2, e1_2, hh⟩ := hh
    replace hh := decs_cons hh; obtain ⟨o5, l1_3, e1_3, hh⟩ := hh
    replace hh := decs_cons hh; obtain ⟨o6, l1_4, e1_4, hh⟩ := hh
    replace hh := decs_nil hh; obtain ⟨rfl, hh⟩ := hh
    subst e1_4
    subst e1_3
    subst e1_2
    subst e1_1
    have ec1 := toArray_eq e1_0
    subst ec1
    unfold F_law1_lays at hh
    exact calls_den (fn1_right ok25 E_code_Writer_Bytes.right (fn1_right ok27 E_code_Writer_Raw.right (fn1_right ok32 E_code_Writer_U8.right (fn1_right ok50 E_code_Writer_Var.right (fn1_right ok56 E_code_Writer_U32.right (fn1_right ok57 E_code_Writer_U64.right noFns_right)))))) plan33 _ w K Tryd.func33 (by kernel_rfl) (by kernel_rfl) (Eq.mp (F_law1_lays.eq F_code_Writer_Bytes F_code_Writer_Raw F_code_Writer_U8 F_code_Writer_Var F_code_Writer_U32 F_code_Writer_U64 w1 o2 o3 o4 o5 o6 w.heap K) hh)
theorem ok33 : okFn Tryd.prog 33 = true := by kernel_rfl
end Go.Proofs.YtompmkmbppcadaaDoor.V
namespace Go.Proofs.YtompmkmbppcadaaDoor.V
open Go Go.RowKit
set_option linter.unusedVariables false
set_option maxRecDepth 100000
/-! tally/tallylaw1.back -/
def F_law1_back_of (f20_ : Option Addr → Heap → (Int → Heap → Prop) → Prop) (f28_ : Sl → Sl → Heap → (Bool → Heap → Prop) → Prop) (f29_ : Option Addr → Int → Heap → (Sl → Heap → Prop) → Prop) (f35_ : Option Addr → Heap → (Int → Heap → Prop) → Prop) (f40_ : Option Addr → Heap → (Int → Heap → Prop) → Prop) (f43_ : Option Addr → Int → Heap → (Int → Heap → Prop) → Prop) (f45_ : Option Addr → Int → Heap → (Sl → Heap → Prop) → Prop) (r1 : Option Addr) (o2 : Int) (o3 : Int) (o4 : Int) (o5 : Int) (o6 : Sl) (h : Heap) (Q : Bool → Heap → Prop) : Prop :=
  al 39 [.int .i64 o2, .int .i64 o3, .int .i64 o4, .int .u64 o5, .slice o6.ptr o6.len o6.cap] h fun (a7 : Addr) (h8 : Heap) =>
  ld [.int .i64] (a7.add 0) h8 fun (v9 : Int) =>
  brr (v9 == 1)
  (ld [.int .u64] (a7.add 3) h8 fun (v10 : Int) =>
  f35_ r1 h8 fun (r11 : Int) (h12 : Heap) =>
  cellsAre h12 (a7.add 3) [.int .u64 v10] ∧
  Q (r11 == (IntKind.u8.wrap v10)) h12)
  (brr (v9 == 2)
  (ld [.int .u64] (a7.add 3) h8 fun (v13 : Int) =>
  f40_ r1 h8 fun (r14 : Int) (h15 : Heap) =>
  cellsAre h15 (a7.add 3) [.int .u64 v13] ∧
  Q (r14 == (IntKind.u32.wrap v13)) h15)
  (brr (v9 == 3)
  (ld [.int .u64] (a7.add 3) h8 fun (v16 : Int) =>
  f20_ r1 h8 fun (r17 : Int) (h18 : Heap) =>
  cellsAre h18 (a7.add 3) [.int .u64 v16] ∧
  Q (r17 == v16) h18)
  (brr (v9 == 4)
  (ld [.int .u64] (a7.add 3) h8 fun (v19 : Int) =>
  ld [.int .u64] (a7.add 3) h8 fun (v20 : Int) =>
  f43_ r1 v19 h8 fun (r21 : Int) (h22 : Heap) =>
  cellsAre h22 (a7.add 3) [.int .u64 v20] ∧
  Q (r21 == v20) h22)
  (brr (v9 == 5)
  (ld [.sl] (a7.add 4) h8 fun (v23 : Sl) =>
  ld [.sl] (a7.add 4) h8 fun (v24 : Sl) =>
  f45_ r1 ((v23.len : Nat) : Int) h8 fun (r25 : Sl) (h26 : Heap) =>
  cellsAre h26 (a7.add 4) [.slice v24.ptr v24.len v24.cap] ∧
  f28_ r25 v24 h26 fun (r27 : Bool) (h28 : Heap) =>
  Q r27 h28)
  (brr (v9 == 6)
  (ld [.sl] (a7.add 4) h8 fun (v29 : Sl) =>
  ld [.sl] (a7.add 4) h8 fun (v30 : Sl) =>
  f29_ r1 ((v29.len : Nat) : Int) h8 fun (r31 : Sl) (h32 : Heap) =>
  cellsAre h32 (a7.add 4) [.slice v30.ptr v30.len v30.cap] ∧
  f28_ r31 v30 h32 fun (r33 : Bool) (h34 : Heap) =>
  Q r33 h34)
  (Q true h8))))))
def F_law1_back (r1 : Option Addr) (o2 : Int) (o3 : Int) (o4 : Int) (o5 : Int) (o6 : Sl) (h : Heap) (Q : Bool → Heap → Prop) : Prop := F_law1_back_of F_code_Reader_U64 F_ref0_Eq F_code_Reader_Raw F_code_Reader_U8 F_code_Reader_U32 F_code_Reader_Var F_code_Reader_Bytes r1 o2 o3 o4 o5 o6 h Q
def plan36 : Plan := .s (.r [0, 3]) (.s (.s (.r [0, 3, 6]) (.b (.s (.r [0, 3, 6, 7]) (.c (.s (.d [0, 1, 0, 4, 12, 31, 63] [[0, 2, 3, 4, 1, 5, 6]] [4]) .z) (.s (.r [0, 3, 6, 15]) (.c (.s (.d [0, 1, 0, 4, 12, 31, 63] [[0, 2, 3, 4, 1, 5, 6]] [4]) .z) (.s (.r [0, 3, 6, 23]) (.c (.s (.d [0, 1, 0, 4, 15, 31] [[0, 2, 3, 1, 4, 5]] [4]) .z) (.s (.r [0, 3, 6, 30]) (.c (.s (.d [0, 0, 2, 7, 0, 16, 63, 127] [[0, 1, 2, 4, 5, 3, 6, 7]] [4]) .z) (.s (.r [0, 3, 6, 39]) (.c (.s (.d [0, 0, 2, 6, 15, 0, 32, 127, 255] [[0, 1, 2, 3, 5, 6, 4, 7, 8]] [4]) .z) (.s (.r [0, 3, 49]) (.c (.s (.d [0, 0, 2, 6, 15, 0, 32, 127, 255] [[0, 1, 2, 3, 5, 6, 4, 7, 8]] [4]) .z) .z)))))))))))))) (.s (.r [4]) .z))
theorem F_law1_back.eq (f20_ : Option Addr → Heap → (Int → Heap → Prop) → Prop) (f28_ : Sl → Sl → Heap → (Bool → Heap → Prop) → Prop) (f29_ : Option Addr → Int → Heap → (Sl → Heap → Prop) → Prop) (f35_ : Option Addr → Heap → (Int → Heap → Prop) → Prop) (f40_ : Option Addr → Heap → (Int → Heap → Prop) → Prop) (f43_ : Option Addr → Int → Heap → (Int → Heap → Prop) → Prop) (f45_ : Option Addr → Int → Heap → (Sl → Heap → Prop) → Prop) (r1 : Option Addr) (o2 : Int) (o3 : Int) (o4 : Int) (o5 : Int) (o6 : Sl) (h : Heap) (K : Value → Heap → Prop) : F_law1_back_of f20_ f28_ f29_ f35_ f40_ f43_ f45_ r1 o2 o3 o4 o5 o6 h (fun (r0 : Bool) (h : Heap) => K (.bool r0) h) =
    den Tryd.prog (fn1 20 (E_code_Reader_U64_of f20_) (fn1 28 (E_ref0_Eq_of f28_) (fn1 29 (E_code_Reader_Raw_of f29_) (fn1 35 (E_code_Reader_U8_of f35_) (fn1 40 (E_code_Reader_U32_of f40_) (fn1 43 (E_code_Reader_Var_of f43_) (fn1 45 (E_code_Reader_Bytes_of f45_) noFns))))))) Tryd.f36.ntmps plan36 (bodyOf Tryd.f36) (args0 0 [(.pointer r1 : Value), (.agg #[.int .i64 o2, .int .i64 o3, .int .i64 o4, .int .u64 o5, .slice o6.ptr o6.len o6.cap] : Value)]) h ⟨fun env h => dRes Tryd.prog Tryd.f36.results.toList env h K, fun _ _ _ => False, fun env h => dRes Tryd.prog Tryd.f36.results.toList env h K⟩ := by kernel_rfl
def E_law1_back_of (f : Option Addr → Int → Int → Int → Int → Sl → Heap → (Bool → Heap → Prop) → Prop) : List Value → Heap → (Value → Heap → Prop) → Prop
  | [v0, v1], h, K => dec1 .ptr v0 fun (r1 : Option Addr) =>
  vAgg v1 fun cs1 => decs [.int .i64, .int .i64, .int .i64, .int .u64, .sl] cs1.toList fun (o2 : Int) (o3 : Int) (o4 : Int) (o5 : Int) (o6 : Sl) =>
  f r1 o2 o3 o4 o5 o6 h (fun (r0 : Bool) (h : Heap) => K (.bool r0) h)
  | _, _, _ => False
abbrev E_law1_back := E_law1_back_of F_law1_back
theorem E_law1_back.right : IsRight Tryd.prog 36 E_law1_back := by
  refine isRight fun vs K w hh => ?_
  match vs, hh with
  | [v0, v1], hh =>
    unfold E_law1_back E_law1_back_of at hh
    replace hh := dec1_sound hh; obtain ⟨r1, rfl, hh⟩ := hh
    replace hh := vAgg_sound hh; obtain ⟨cs1, rfl, hh⟩ := hh
    replace hh := decs_cons hh; obtain ⟨o2, l1_0, e1_0, hh⟩ := hh
    replace hh := decs_cons hh; obtain ⟨o3, l1_1, e1_1, hh⟩ := hh
    replace hh := decs_cons hh; obtain ⟨o4, l1_2, e1_2, hh⟩ := hh
    replace hh := decs_cons hh; obtain ⟨o5, l1_3, e1_3, hh⟩ := hh
    replace hh := decs_cons hh; obtain ⟨o6, l1_4, e1_4, hh⟩ := hh
    replace hh := decs_nil hh; obtain ⟨rfl, hh⟩ := hh
    subst e1_4
    subst e1_3
    subst e1_2
    subst e1_1
    have ec1 := toArray_eq e1_0
    subst ec1
    unfold F_law1_back at hh
    exact calls_den (fn1_right ok20 E_code_Reader_U64.right (fn1_right ok28 E_ref0_Eq.right (fn1_right ok29 E_code_Reader_Raw.right (fn1_right ok35 E_code_Reader_U8.right (fn1_right ok40 E_code_Reader_U32.right (fn1_right ok43 E_code_Reader_Var.right (fn1_right ok45 E_code_Reader_Bytes.right noFns_right))))))) plan36 _ w K Tryd.func36 (by kernel_rfl) (by kernel_rfl) (Eq.mp (F_law1_back.eq F_code_Reader_U64 F_ref0_Eq F_code_Reader_Raw F_code_Reader_U8 F_code_Reader_U32 F_code_Reader_Var F_code_Reader_Bytes r1 o2 o3 o4 o5 o6 w.heap K) hh)
theorem ok36 : okFn Tryd.prog 36 = true := by kernel_rfl
end Go.Proofs.YtompmkmbppcadaaDoor.V
namespace Go.Proofs.YtompmkmbppcadaaDoor.V
open Go Go.RowKit
set_option linter.unusedVariables false
set_option maxRecDepth 100000
/-! tally/tallylaw1.CodeTurns -/
def F_law1_CodeTurns.l1 (f33_ : Option Addr → Int → Int → Int → Int → Sl → Heap → (Heap → Prop) → Prop) (a4 : Addr) (r6 : Option Addr) (j9 : Heap → Prop) : Int → Heap → Prop :=
  wl [(4, .one (.int .i64))] (fun (next10 : Int → Heap → Prop) (i11 : Int) (h12 : Heap) =>
  jn [(23, .one .bool)] (fun (x15 : Bool) (h16 : Heap) =>
  brr x15
  (ld [.sl] (a4.add 2) h16 fun (v17 : Sl) =>
  ixS 5 v17 i11 fun (a18 : Addr) =>
  ld [.int .i64, .int .i64, .int .i64, .int .u64, .sl] a18 h16 fun (v19 : Int) (v20 : Int) (v21 : Int) (v22 : Int) (v23 : Sl) =>
  f33_ r6 v19 v20 v21 v22 v23 h16 fun  (h24 : Heap) =>
  next10 (IntKind.i64.wrap (i11 + 1)) h24)
  (j9 h16)) (fun (j13 : Bool → Heap → Prop) =>
  ld [.sl] (a4.add 2) h12 fun (v14 : Sl) =>
  brr (decide (i11 < ((v14.len : Nat) : Int)))
  (j13 (decide (i11 < 400)) h12)
  (j13 false h12)))
def F_law1_CodeTurns.l2 (f16_ : Int → Heap → (Int → Heap → Prop) → Prop) (f17_ : Option Addr → Heap → (Int → Heap → Prop) → Prop) (f36_ : Option Addr → Int → Int → Int → Int → Sl → Heap → (Bool → Heap → Prop) → Prop) (Q : Bool → Heap → Prop) (a4 : Addr) (r28 : Option Addr) (j37 : Heap → Prop) : Int → Heap → Prop :=
  wl [(7, .one (.int .i64))] (fun (next38 : Int → Heap → Prop) (i39 : Int) (h40 : Heap) =>
  jn [(64, .one .bool)] (fun (x43 : Bool) (h44 : Heap) =>
  brr x43
  (jn [(80, .one .bool)] (fun (x59 : Bool) (h60 : Heap) =>
  brr x59
  (Q false h60)
  (next38 (IntKind.i64.wrap (i39 + 1)) h60)) (fun (j45 : Bool → Heap → Prop) =>
  ld [.sl] (a4.add 2) h44 fun (v46 : Sl) =>
  ixS 5 v46 i39 fun (a47 : Addr) =>
  ld [.int .i64, .int .i64, .int .i64, .int .u64, .sl] a47 h44 fun (v48 : Int) (v49 : Int) (v50 : Int) (v51 : Int) (v52 : Sl) =>
  f36_ r28 v48 v49 v50 v51 v52 h44 fun (r53 : Bool) (h54 : Heap) =>
  brr (!r53)
  (j45 true h54)
  (f17_ r28 h54 fun (r55 : Int) (h56 : Heap) =>
  f16_ r55 h56 fun (r57 : Int) (h58 : Heap) =>
  j45 (r57 != 0) h58)))
  (j37 h44)) (fun (j41 : Bool → Heap → Prop) =>
  ld [.sl] (a4.add 2) h40 fun (v42 : Sl) =>
  brr (decide (i39 < ((v42.len : Nat) : Int)))
  (j41 (decide (i39 < 400)) h40)
  (j41 false h40)))
def F_law1_CodeTurns.l3 (f36_ : Option Addr → Int → Int → Int → Int → Sl → Heap → (Bool → Heap → Prop) → Prop) (a4 : Addr) (r74 : Option Addr) (j78 : Heap → Prop) : Int → Heap → Prop :=
  wl [(9, .one (.int .i64))] (fun (next79 : Int → Heap → Prop) (i80 : Int) (h81 : Heap) =>
  jn [(113, .one .bool)] (fun (x84 : Bool) (h85 : Heap) =>
  brr x84
  (ld [.sl] (a4.add 2) h85 fun (v86 : Sl) =>
  ixS 5 v86 i80 fun (a87 : Addr) =>
  ld [.int .i64, .int .i64, .int .i64, .int .u64, .sl] a87 h85 fun (v88 : Int) (v89 : Int) (v90 : Int) (v91 : Int) (v92 : Sl) =>
  f36_ r74 v88 v89 v90 v91 v92 h85 fun (r93 : Bool) (h94 : Heap) =>
  next79 (IntKind.i64.wrap (i80 + 1)) h94)
  (j78 h85)) (fun (j82 : Bool → Heap → Prop) =>
  ld [.sl] (a4.add 2) h81 fun (v83 : Sl) =>
  brr (decide (i80 < ((v83.len : Nat) : Int)))
  (j82 (decide (i80 < 400)) h81)
  (j82 false h81)))
def F_law1_CodeTurns_of (f9_ : Sl → Heap → (Option Addr → Heap → Prop) → Prop) (f12_ : Option Addr → Heap → (Int → Heap → Prop) → Prop) (f15_ : Option Addr → Heap → (Int → Heap → Prop) → Prop) (f16_ : Int → Heap → (Int → Heap → Prop) → Prop) (f17_ : Option Addr → Heap → (Int → Heap → Prop) → Prop) (f18_ : Option Addr → Heap → (Int → Heap → Prop) → Prop) (f23_ : Heap → (Option Addr → Heap → Prop) → Prop) (f30_ : Option Addr → Heap → (Sl → Heap → Prop) → Prop) (f32_ : Option Addr → Int → Heap → (Heap → Prop) → Prop) (f33_ : Option Addr → Int → Int → Int → Int → Sl → Heap → (Heap → Prop) → Prop) (f34_ : Option Addr → Heap → (Int → Heap → Prop) → Prop) (f35_ : Option Addr → Heap → (Int → Heap → Prop) → Prop) (f36_ : Option Addr → Int → Int → Int → Int → Sl → Heap → (Bool → Heap → Prop) → Prop) (script1 : Sl) (script2 : Sl) (script3 : Sl) (h : Heap) (Q : Bool → Heap → Prop) : Prop :=
  al 26 [.slice script1.ptr script1.len script1.cap, .slice script2.ptr script2.len script2.cap, .slice script3.ptr script3.len script3.cap] h fun (a4 : Addr) (h5 : Heap) =>
  f23_ h5 fun (r6 : Option Addr) (h7 : Heap) =>
  brr r6.isNone
  (Q false h7)
  (f32_ r6 7 h7 fun  (h8 : Heap) =>
  jn [] (fun  (h25 : Heap) =>
  f30_ r6 h25 fun (r26 : Sl) (h27 : Heap) =>
  f9_ r26 h27 fun (r28 : Option Addr) (h29 : Heap) =>
  jn [(55, .one .bool)] (fun (x35 : Bool) (h36 : Heap) =>
  brr x35
  (Q false h36)
  (jn [] (fun  (h61 : Heap) =>
  jn [(96, .one .bool)] (fun (x71 : Bool) (h72 : Heap) =>
  brr x71
  (Q false h72)
  (slTo r26 (IntKind.i64.wrap (((r26.len : Nat) : Int) - 1)) fun (s73 : Sl) =>
  f9_ s73 h72 fun (r74 : Option Addr) (h75 : Heap) =>
  f35_ r74 h75 fun (r76 : Int) (h77 : Heap) =>
  jn [] (fun  (h95 : Heap) =>
  jn [(2, .one .bool)] (fun (x105 : Bool) (h106 : Heap) =>
  Q x105 h106) (fun (j96 : Bool → Heap → Prop) =>
  f17_ r74 h95 fun (r97 : Int) (h98 : Heap) =>
  f16_ r97 h98 fun (r99 : Int) (h100 : Heap) =>
  brr (r99 == 10)
  (f18_ r74 h100 fun (r101 : Int) (h102 : Heap) =>
  f16_ r101 h102 fun (r103 : Int) (h104 : Heap) =>
  j96 (r103 == 10) h104)
  (j96 false h100))) (fun (j78 : Heap → Prop) =>
  F_law1_CodeTurns.l3 f36_ a4 r74 j78 0 h77))) (fun (j62 : Bool → Heap → Prop) =>
  f18_ r28 h61 fun (r63 : Int) (h64 : Heap) =>
  f16_ r63 h64 fun (r65 : Int) (h66 : Heap) =>
  brr (r65 != 0)
  (j62 true h66)
  (f12_ r28 h66 fun (r67 : Int) (h68 : Heap) =>
  brr (r67 != 0)
  (j62 true h68)
  (f15_ r28 h68 fun (r69 : Int) (h70 : Heap) =>
  j62 (r69 != ((r26.len : Nat) : Int)) h70)))) (fun (j37 : Heap → Prop) =>
  F_law1_CodeTurns.l2 f16_ f17_ f36_ Q a4 r28 j37 0 h36))) (fun (j30 : Bool → Heap → Prop) =>
  brr r28.isNone
  (j30 true h29)
  (f34_ r6 h29 fun (r31 : Int) (h32 : Heap) =>
  brr (((r26.len : Nat) : Int) != r31)
  (j30 true h32)
  (brr (((r26.len : Nat) : Int) == 0)
  (j30 true h32)
  (f35_ r28 h32 fun (r33 : Int) (h34 : Heap) =>
  j30 (r33 != 7) h34))))) (fun (j9 : Heap → Prop) =>
  F_law1_CodeTurns.l1 f33_ a4 r6 j9 0 h8))
def F_law1_CodeTurns (script1 : Sl) (script2 : Sl) (script3 : Sl) (h : Heap) (Q : Bool → Heap → Prop) : Prop := F_law1_CodeTurns_of F_code_Read F_code_Reader_Left F_code_Reader_At F_law1_num F_code_Reader_Fault F_code_Reader_End F_code_New F_code_Writer_Out F_code_Writer_U8 F_law1_lays F_code_Writer_Len F_code_Reader_U8 F_law1_back script1 script2 script3 h Q
def plan6 : Plan := .s (.r [1]) (.s (.r [1, 3]) (.s (.s (.r [1, 3, 12]) (.c (.s (.r [2]) .z) .z)) (.s (.r [1, 3]) (.s (.s (.r [1, 3, 4]) (.bj [] [1, 3] (.l [(4, .one (.int .i64))] [1, 3] (.s (.s (.rj [(23, .one .bool)] [1, 3, 4]) (.c .z .z)) (.s (.b (.r [1, 3, 4])) (.r [1, 3, 4])))))) (.s (.r [1, 3, 5]) (.s (.r [1, 3, 5, 6]) (.s (.s (.rj [(55, .one .bool)] [1, 5, 6]) (.c (.s (.r [2]) .z) .z)) (.s (.s (.r [1, 5, 6, 7]) (.bj [] [1, 5, 6] (.l [(7, .one (.int .i64))] [1, 5, 6] (.s (.s (.rj [(64, .one .bool)] [1, 5, 6, 7]) (.c .z .z)) (.s (.b (.s (.rj [(80, .one .bool)] [1, 5, 6, 7]) (.c (.s (.r [2]) .z) .z))) (.r [1, 5, 6, 7])))))) (.s (.s (.rj [(96, .one .bool)] [1, 5]) (.c (.s (.r [2]) .z) .z)) (.s (.r [1, 8]) (.s (.r [1, 8]) (.s (.s (.r [1, 8, 9]) (.bj [] [8] (.l [(9, .one (.int .i64))] [1, 8] (.s (.s (.rj [(113, .one .bool)] [1, 8, 9]) (.c .z .z)) (.s (.b (.r [1, 8, 9])) (.r [1, 8, 9])))))) (.s (.rj [(2, .one .bool)] []) .z)))))))))))))
theorem F_law1_CodeTurns.eq (f9_ : Sl → Heap → (Option Addr → Heap → Prop) → Prop) (f12_ : Option Addr → Heap → (Int → Heap → Prop) → Prop) (f15_ : Option Addr → Heap → (Int → Heap → Prop) → Prop) (f16_ : Int → Heap → (Int → Heap → Prop) → Prop) (f17_ : Option Addr → Heap → (Int → Heap → Prop) → Prop) (f18_ : Option Addr → Heap → (Int → Heap → Prop) → Prop) (f23_ : Heap → (Option Addr → Heap → Prop) → Prop) (f30_ : Option Addr → Heap → (Sl → Heap → Prop) → Prop) (f32_ : Option Addr → Int → Heap → (Heap → Prop) → Prop) (f33_ : Option Addr → Int → Int → Int → Int → Sl → Heap → (Heap → Prop) → Prop) (f34_ : Option Addr → Heap → (Int → Heap → Prop) → Prop) (f35_ : Option Addr → Heap → (Int → Heap → Prop) → Prop) (f36_ : Option Addr → Int → Int → Int → Int → Sl → Heap → (Bool → Heap → Prop) → Prop) (script1 : Sl) (script2 : Sl) (script3 : Sl) (h : Heap) (K : Value → Heap → Prop) : F_law1_CodeTurns_of f9_ f12_ f15_ f16_ f17_ f18_ f23_ f30_ f32_ f33_ f34_ f35_ f36_ script1 script2 script3 h (fun (r0 : Bool) (h : Heap) => K (.bool r0) h) =
    den Tryd.prog (fn1 9 (E_code_Read_of f9_) (fn1 12 (E_code_Reader_Left_of f12_) (fn1 15 (E_code_Reader_At_of f15_) (fn1 16 (E_law1_num_of f16_) (fn1 17 (E_code_Reader_Fault_of f17_) (fn1 18 (E_code_Reader_End_of f18_) (fn1 23 (E_code_New_of f23_) (fn1 30 (E_code_Writer_Out_of f30_) (fn1 32 (E_code_Writer_U8_of f32_) (fn1 33 (E_law1_lays_of f33_) (fn1 34 (E_code_Writer_Len_of f34_) (fn1 35 (E_code_Reader_U8_of f35_) (fn1 36 (E_law1_back_of f36_) noFns))))))))))))) Tryd.f6.ntmps plan6 (bodyOf Tryd.f6) (args0 0 [(.agg #[.slice script1.ptr script1.len script1.cap, .slice script2.ptr script2.len script2.cap, .slice script3.ptr script3.len script3.cap] : Value)]) h ⟨fun env h => dRes Tryd.prog Tryd.f6.results.toList env h K, fun _ _ _ => False, fun env h => dRes Tryd.prog Tryd.f6.results.toList env h K⟩ := by kernel_rfl
def E_law1_CodeTurns_of (f : Sl → Sl → Sl → Heap → (Bool → Heap → Prop) → Prop) : List Value → Heap → (Value → Heap → Prop) → Prop
  | [v0], h, K => vAgg v0 fun cs0 => decs [.sl, .sl, .sl] cs0.toList fun (script1 : Sl) (script2 : Sl) (script3 : Sl) =>
  f script1 script2 script3 h (fun (r0 : Bool) (h : Heap) => K (.bool r0) h)
  | _, _, _ => False
abbrev E_law1_CodeTurns := E_law1_CodeTurns_of F_law1_CodeTurns
theorem E_law1_CodeTurns.at (f : Sl → Sl → Sl → Heap → (Bool → Heap → Prop) → Prop) (script1 : Sl) (script2 : Sl) (script3 : Sl) (h : Heap) (K : Value → Heap → Prop) : E_law1_CodeTurns_of f [.agg ([.slice script1.ptr script1.len script1.cap, .slice script2.ptr script2.len script2.cap, .slice script3.ptr script3.len script3.cap] : List Value).toArray] h K = f script1 script2 script3 h (fun (r0 : Bool) (h : Heap) => K (.bool r0) h) := rfl
theorem E_law1_CodeTurns.right : IsRight Tryd.prog 6 E_law1_CodeTurns := by
  refine isRight fun vs K w hh => ?_
  match vs, hh with
  | [v0], hh =>
    unfold E_law1_CodeTurns E_law1_CodeTurns_of at hh
    replace hh := vAgg_sound hh; obtain ⟨cs0, rfl, hh⟩ := hh
    replace hh := decs_cons hh; obtain ⟨script1, l0_0, e0_0, hh⟩ := hh
    replace hh := decs_cons hh; obtain ⟨script2, l0_1, e0_1, hh⟩ := hh
    replace hh := decs_cons hh; obtain ⟨script3, l0_2, e0_2, hh⟩ := hh
    replace hh := decs_nil hh; obtain ⟨rfl, hh⟩ := hh
    subst e0_2
    subst e0_1
    have ec0 := toArray_eq e0_0
    subst ec0
    unfold F_law1_CodeTurns at hh
    exact calls_den (fn1_right ok9 E_code_Read.right (fn1_right ok12 E_code_Reader_Left.right (fn1_right ok15 E_code_Reader_At.right (fn1_right ok16 E_law1_num.right (fn1_right ok17 E_code_Reader_Fault.right (fn1_right ok18 E_code_Reader_End.right (fn1_right ok23 E_code_New.right (fn1_right ok30 E_code_Writer_Out.right (fn1_right ok32 E_code_Writer_U8.right (fn1_right ok33 E_law1_lays.right (fn1_right ok34 E_code_Writer_Len.right (fn1_right ok35 E_code_Reader_U8.right (fn1_right ok36 E_law1_back.right noFns_right))))))))))))) plan6 _ w K Tryd.func6 (by kernel_rfl) (by kernel_rfl) (Eq.mp (F_law1_CodeTurns.eq F_code_Read F_code_Reader_Left F_code_Reader_At F_law1_num F_code_Reader_Fault F_code_Reader_End F_code_New F_code_Writer_Out F_code_Writer_U8 F_law1_lays F_code_Writer_Len F_code_Reader_U8 F_law1_back script1 script2 script3 w.heap K) hh)
theorem ok6 : okFn Tryd.prog 6 = true := by kernel_rfl
end Go.Proofs.YtompmkmbppcadaaDoor.V
/- What is written is read, item by item: what CodeTurns plays. -/
namespace Go.Proofs.YtompmkmbppcadaaDoor.V
open Go Go.RowKit
set_option linter.unusedVariables false
set_option linter.unusedSimpArgs false
section
variable {h0 h : Heap} {L : List Res} {p w : Nat} {r : RS} {l : List UInt8}
theorem F_law1_lays.is {op : COp} {Q : Heap → Prop} (hn : op.n < 18446744073709551616) (Vb : Stays h0 L fun h => Bytes h op.s op.b) (hl : l.length + op.b.length + 18 ≤ (140737488355328 : Nat)) (O : Sat h0 h (wrR w l :: L)) (k : ∀ h', Sat h0 h' (wrR w (l ++ laid op) :: L) → Q h') : F_law1_lays (some (pt w 0)) op.kind op.which op.m op.n op.s h Q := by
  rw [F_law1_lays.eq_1, F_law1_lays_of.eq_1]
  refine O.al fun a h O => ?_
  simp only [nn_some, pt_add, Nat.zero_add, Nat.add_zero, Nat.reduceAdd, Nat.reduceMul, Int.toNat_zero, Int.toNat_one, Nat.zero_mul, Nat.one_mul]
  refine O.ld 0 rfl (ldL_c (ldL_n ?_))
  replace O := O.sel [1, 0] 2 rfl (Nat.le_add_left _ _)
  simp only [selT, List.map, nth, List.drop, List.cons_append, List.nil_append] at O
  refine jn0 (fun h' => Sat h0 h' (wrR w (l ++ laid op) :: L)) (fun h O => k h O) fun j hj => ?_
  unfold laid at hj
  clear k
  refine brr_eq (fun hk => ?_) (fun hk => ?_)
  · rw [if_pos hk] at hj
    refine O.ld 1 rfl (ldL_c (ldL_n ?_))
    rw [wrap8n]
    refine F_code_Writer_U8.is O (Nat.mod_lt _ (by decide)) (by omega) fun h O => ?_
    exact hj h O.swap.drop
  rw [if_neg hk] at hj
  refine jn0 (fun h' => j h') (fun _ h => h) fun j2 hj2 => ?_
  replace hj := fun h O => hj2 h (hj h O)
  clear hj2 j
  refine brr_eq (fun hk => ?_) (fun hk => ?_)
  · rw [if_pos hk] at hj
    refine O.ld 1 rfl (ldL_c (ldL_n ?_))
    rw [wrap32m]
    refine F_code_Writer_U32.is O (Nat.mod_lt _ (by decide)) (by omega) fun h O => ?_
    exact hj h O.swap.drop
  rw [if_neg hk] at hj
  refine jn0 (fun h' => j2 h') (fun _ h => h) fun j hj2 => ?_
  replace hj := fun h O => hj2 h (hj h O)
  clear hj2 j2
  refine brr_eq (fun hk => ?_) (fun hk => ?_)
  · rw [if_pos hk] at hj
    refine O.ld 1 rfl (ldL_c (ldL_n ?_))
    refine F_code_Writer_U64.is O (by omega) fun h O => ?_
    exact hj h O.swap.drop
  rw [if_neg hk] at hj
  refine jn0 (fun h' => j h') (fun _ h => h) fun j2 hj2 => ?_
  replace hj := fun h O => hj2 h (hj h O)
  clear hj2 j
  refine brr_eq (fun hk => ?_) (fun hk => ?_)
  · rw [if_pos hk] at hj
    refine O.ld 1 rfl (ldL_c (ldL_n ?_))
    refine F_code_Writer_Var.is O hn (by omega) fun h O => ?_
    exact hj h O.swap.drop
  rw [if_neg hk] at hj
  refine jn0 (fun h' => j2 h') (fun _ h => h) fun j hj2 => ?_
  replace hj := fun h O => hj2 h (hj h O)
  clear hj2 j2
  refine brr_eq (fun hk => ?_) (fun hk => ?_)
  · rw [if_pos hk] at hj
    refine O.ld 1 rfl (ldL_c (k := .sl) (x := op.s) (ldL_n ?_))
    refine F_code_Writer_Bytes.is O (fun h O => Vb h O.drop) (by omega) fun h O => ?_
    exact hj h O.swap.drop
  rw [if_neg hk] at hj
  refine jn0 (fun h' => j h') (fun _ h => h) fun j2 hj2 => ?_
  replace hj := fun h O => hj2 h (hj h O)
  clear hj2 j
  refine brr_eq (fun hk => ?_) (fun hk => ?_)
  · rw [if_pos hk] at hj
    refine O.ld 1 rfl (ldL_c (k := .sl) (x := op.s) (ldL_n ?_))
    refine F_code_Writer_Raw.is O (Vb h O.drop.drop) (by omega) fun h O => ?_
    exact hj h O.swap.drop
  rw [if_neg hk, List.append_nil] at hj
  exact hj _ O.swap.drop
theorem decEq_cast {a b : Nat} : ((a : Int) == (b : Int)) = decide (a = b) := by
  by_cases h : a = b
  · subst h; simp
  · rw [decide_eq_false h]
    exact beq_eq_false_iff_ne.2 (by omega)
theorem F_law1_back.is {op : COp} {Q : Bool → Heap → Prop} (o : r.Ok) (Vb : Stays h0 L fun h => Bytes h op.s op.b) (hb : op.b.length < 4611686018427387904) (O : Sat h0 h (rdR p r :: L)) (k : ∀ h', Sat h0 h' (rdR p (r.backP op) :: L) → Q (r.backA op) h') : F_law1_back (some (pt p 0)) op.kind op.which op.m op.n op.s h Q := by
  rw [F_law1_back.eq_1, F_law1_back_of.eq_1]
  refine O.al fun a h O => ?_
  simp only [nn_some, pt_add, Nat.zero_add, Nat.add_zero, Nat.reduceAdd, Nat.reduceMul, Int.toNat_zero, Int.toNat_one, Nat.zero_mul, Nat.one_mul]
  refine O.ld 0 rfl (ldL_c (ldL_n ?_))
  have hsl : op.s.len = op.b.length := (Vb h O.drop.drop).len
  have hbl := o.len
  replace O := O.sel [1, 0] 2 rfl (Nat.le_add_left _ _)
  simp only [selT, List.map, nth, List.drop, List.cons_append, List.nil_append] at O
  unfold RS.backP RS.backA at k
  refine brr_eq (fun hk => ?_) (fun hk => ?_)
  · rw [if_pos hk, if_pos hk] at k
    refine O.ld 1 rfl (ldL_c (ldL_n ?_))
    refine F_code_Reader_U8.is o O fun h O => ?_
    refine ⟨O.cells 1 rfl 3 1, ?_⟩
    rw [wrap8n, decEq_cast]
    exact k h O.swap.drop
  rw [if_neg hk, if_neg hk] at k
  refine brr_eq (fun hk => ?_) (fun hk => ?_)
  · rw [if_pos hk, if_pos hk] at k
    refine O.ld 1 rfl (ldL_c (ldL_n ?_))
    refine F_code_Reader_U32.is o O fun h O => ?_
    refine ⟨O.cells 1 rfl 3 1, ?_⟩
    rw [wrap32m, decEq_cast]
    exact k h O.swap.drop
  rw [if_neg hk, if_neg hk] at k
  refine brr_eq (fun hk => ?_) (fun hk => ?_)
  · rw [if_pos hk, if_pos hk] at k
    refine O.ld 1 rfl (ldL_c (ldL_n ?_))
    refine F_code_Reader_U64.is o O fun h O => ?_
    refine ⟨O.cells 1 rfl 3 1, ?_⟩
    rw [decEq_cast]
    exact k h O.swap.drop
  rw [if_neg hk, if_neg hk] at k
  refine brr_eq (fun hk => ?_) (fun hk => ?_)
  · rw [if_pos hk, if_pos hk] at k
    refine O.ld 1 rfl (ldL_c (ldL_n ?_))
    refine O.ld 1 rfl (ldL_c (ldL_n ?_))
    refine F_code_Reader_Var.is o O fun h O => ?_
    refine ⟨O.cells 1 rfl 3 1, ?_⟩
    rw [decEq_cast]
    exact k h O.swap.drop
  rw [if_neg hk, if_neg hk] at k
  refine brr_eq (fun hk => ?_) (fun hk => ?_)
  · rw [if_pos hk, if_pos hk] at k
    refine O.ld 1 rfl (ldL_c (k := .sl) (x := op.s) (ldL_n ?_))
    refine O.ld 1 rfl (ldL_c (k := .sl) (x := op.s) (ldL_n ?_))
    refine F_code_Reader_Bytes.is o (by omega) O fun t h O => ?_
    refine ⟨O.cells 2 rfl 4 1, ?_⟩
    rw [hsl] at O
    have := RS.bytesP_le (r := r) (n := op.b.length)
    refine F_ref0_Eq.is (O.view 0 u8_len (by simp) rfl).1 (Vb h O.drop.drop.drop) (by omega) (by omega) ?_
    exact k h O.drop.swap.drop
  rw [if_neg hk, if_neg hk] at k
  refine brr_eq (fun hk => ?_) (fun hk => ?_)
  · rw [if_pos hk, if_pos hk] at k
    refine O.ld 1 rfl (ldL_c (k := .sl) (x := op.s) (ldL_n ?_))
    refine O.ld 1 rfl (ldL_c (k := .sl) (x := op.s) (ldL_n ?_))
    refine F_code_Reader_Raw.is o (by omega) O fun t h O => ?_
    refine ⟨O.cells 2 rfl 4 1, ?_⟩
    rw [hsl] at O
    have := RS.rawP_le (r := r) (n := op.b.length)
    refine F_ref0_Eq.is (O.view 0 u8_len (by simp) rfl).1 (Vb h O.drop.drop.drop) (by omega) (by omega) ?_
    exact k h O.drop.swap.drop
  rw [if_neg hk, if_neg hk] at k
  exact k h O.swap.drop
end
def allB (ops : List COp) (i : Nat) : List UInt8 := (ops.take i).flatMap laid
theorem allB_succ {ops : List COp} {i : Nat} {op : COp} (hx : ops[i]? = some op) : allB ops (i + 1) = allB ops i ++ laid op := by
  unfold allB
  rw [take_succ_eq hx, List.flatMap_append]
  simp
theorem allB_split {ops : List COp} {i : Nat} {op : COp} (hx : ops[i]? = some op) (hi : i < 400) : ∃ Z, allB ops 400 = allB ops i ++ (laid op ++ Z) := by
  refine ⟨((ops.take 400).drop (i + 1)).flatMap laid, ?_⟩
  have h1 : (ops.take 400)[i]? = some op := by rw [List.getElem?_take, if_pos hi, hx]
  obtain ⟨hl, e⟩ := List.getElem?_eq_some_iff.1 h1
  have e2 := List.take_append_drop i (ops.take 400)
  rw [List.drop_eq_getElem_cons hl, e, List.take_take, Nat.min_eq_left (by omega)] at e2
  refine (congrArg (List.flatMap laid) e2.symm).trans ?_
  rw [List.flatMap_append, List.flatMap_cons]
  rfl
theorem allB_end {ops : List COp} {i : Nat} (h : ops.length ≤ i ∨ i = 400) (h4 : i ≤ 400) : allB ops i = allB ops 400 := by
  rcases h with h | rfl
  · unfold allB
    rw [List.take_of_length_le h, List.take_of_length_le (by omega)]
  · rfl
theorem before_at {A ys Z : List UInt8} {c : UInt8} : Before ⟨c :: (A ++ (ys ++ Z)), 1 + A.length, 0⟩ ys := by
  refine ⟨rfl, ?_⟩
  show ((c :: (A ++ (ys ++ Z))).drop (1 + A.length)).take ys.length = ys
  rw [Nat.add_comm, List.drop_succ_cons, List.drop_left, List.take_left]
theorem before_cut {A ys Z : List UInt8} {c : UInt8} {n : Nat} (h : 1 + A.length + ys.length ≤ n) : Before ⟨(c :: (A ++ (ys ++ Z))).take n, 1 + A.length, 0⟩ ys := by
  refine ⟨rfl, ?_⟩
  show (((c :: (A ++ (ys ++ Z))).take n).drop (1 + A.length)).take ys.length = ys
  rw [List.drop_take, List.take_take, Nat.min_eq_left (by omega), Nat.add_comm, List.drop_succ_cons, List.drop_left, List.take_left]
theorem codeTurns_main (H : Heap) (cs : List Value) (F : Fit H 1048576 tyCScript cs) (E : Er H) : E_law1_CodeTurns [.agg cs.toArray] H (fun r h' => r = .bool true ∧ KeptH H h') := by
  obtain ⟨_, _, rfl, _, ⟨_, _, rfl, _, ⟨t1, rfl, t1S⟩, _, _, rfl, _, ⟨t2, rfl, t2S⟩, rfl⟩, _, _, rfl, _, ⟨t3, rfl, t3S⟩, rfl⟩ := F
  simp only [List.cons_append, List.nil_append, List.append_nil]
  refine Eq.mpr (E_law1_CodeTurns.at F_law1_CodeTurns t1 t2 t3 H _) ?_
  obtain ⟨ops, Vo, hol⟩ := t3S.cops
  rw [F_law1_CodeTurns.eq_1, F_law1_CodeTurns_of.eq_1]
  refine Sat.al (Sat.nil H) fun ba h1 O => ?_
  refine F_code_New.is O fun w h O => ?_
  refine brr_ff rfl ?_
  refine F_code_Writer_U8.is (n := 7) O (by decide) (by simp) fun h O => ?_
  have O : Sat H h [wrR w (7 :: allB ops 0), own ba [.slice t1.ptr t1.len t1.cap, .slice t2.ptr t2.len t2.cap, .slice t3.ptr t3.len t3.cap]] := O
  refine jn0 (fun h' => (allB ops 400).length ≤ 400 * 1048600 ∧ Sat H h' [wrR w (7 :: allB ops 400), own ba [.slice t1.ptr t1.len t1.cap, .slice t2.ptr t2.len t2.cap, .slice t3.ptr t3.len t3.cap]]) ?_ ?_
  case refine_2 =>
    intro j hj
    rw [F_law1_CodeTurns.l1.eq_1]
    simp only [nn_some, pt_add, Nat.zero_add, Nat.add_zero, Nat.reduceAdd, Nat.reduceMul, Int.toNat_zero, Int.toNat_one, Nat.zero_mul, Nat.one_mul]
    refine wl1 (k := .int .i64) (fun (m : Nat) (i : Int) (h' : Heap) => i + m = ops.length ∧ 0 ≤ i ∧ i ≤ 400 ∧ ((allB ops i.toNat).length : Int) ≤ i * 1048600 ∧ Sat H h' [wrR w (7 :: allB ops i.toNat), own ba [.slice t1.ptr t1.len t1.cap, .slice t2.ptr t2.len t2.cap, .slice t3.ptr t3.len t3.cap]]) ?_ (m := ops.length) ⟨by omega, by omega, by omega, by simp [allB], O⟩
    clear O
    rintro m (i : Int) h2 next hn ⟨hi, hi0, hi4, hil, O⟩
    refine jn1 (fun t h' => h' = h2 ∧ (t = decide (i < ops.length ∧ i < 400))) ?_ ?_
    case refine_2 =>
      intro j2 hj2
      refine O.ld 1 rfl (ldL_c (ldL_n ?_))
      rw [Vo.len]
      refine brr_p (fun hlt => ?_) (fun hlt => ?_)
      · exact hj2 _ _ ⟨rfl, by simp [hlt]⟩
      · exact hj2 _ _ ⟨rfl, by simp; intro h; omega⟩
    rintro t h2 ⟨rfl, rfl⟩
    refine brr_p (fun ht => ?_) (fun ht => ?_)
    case refine_2 =>
      rw [allB_end (ops := ops) (i := i.toNat) (by omega) (by omega)] at O hil
      exact hj _ ⟨by omega, O⟩
    obtain ⟨hlt, hlt4⟩ := ht
    refine O.ld 1 rfl (ldL_c (ldL_n ?_))
    refine (Vo.kept O.kept).ix hi0 hlt fun a cs op hx hlen hR hc => ?_
    obtain ⟨rfl, r1, r2, r3, r4, r5, r6, r7, r8⟩ := hR
    refine ld_are hc (ldL_c (ldL_c (ldL_c (ldL_c (ldL_c (k := .sl) (x := op.s) (ldL_n ?_))))))
    refine F_law1_lays.is r1 (fun h O => r2.kept O.kept) (by simp only [List.length_cons]; omega) O fun h O => ?_
    rw [wrap64 (by omega) (by omega)]
    have hll := laid_len r1 (show op.b.length < 18446744073709551616 by omega)
    have es := allB_succ hx
    rw [List.cons_append, ← es] at O
    have el := congrArg List.length es
    rw [List.length_append] at el
    refine hn (m - 1) _ _ (by omega) ⟨by omega, by omega, by omega, ?_, ?_⟩
    · rw [show (i + 1).toNat = i.toNat + 1 by omega]; omega
    · rw [show (i + 1).toNat = i.toNat + 1 by omega]; exact O
  clear O
  rintro h ⟨hcl, O⟩
  have hcl2 : (7 :: allB ops 400).length ≤ 419440001 := by simp only [List.length_cons]; omega
  generalize hcont : (7 :: allB ops 400 : List UInt8) = cont at *
  have hne : 1 ≤ cont.length := by rw [← hcont]; simp
  refine F_code_Writer_Out.is O (by omega) fun s h O => ?_
  refine F_code_Read.is O (O.view 0 u8_len (by simp) rfl).1 (by omega) fun p h O => ?_
  have hsl := (O.view 1 u8_len (by simp) rfl).1.len
  have ok : ∀ (b : List UInt8) (k : Nat), k ≤ b.length → b.length ≤ 140737488355328 → RS.Ok ⟨b, k, 0⟩ := fun b k h1 h2 => ⟨h1, h2, by show 0 ≤ 4; decide⟩
  refine jn1 (fun t h' => t = false ∧ Sat H h' [rdR p ⟨cont, 1, 0⟩, buf 1 u8 s cont, wrR w cont, own ba [.slice t1.ptr t1.len t1.cap, .slice t2.ptr t2.len t2.cap, .slice t3.ptr t3.len t3.cap]]) ?_ ?_
  case refine_2 =>
    intro j hj
    refine brr_ff rfl ?_
    have Ow := O.drop.drop
    refine F_code_Writer_Len.is Ow ?_
    rw [hsl]
    refine brr_ne (fun e => absurd rfl e) (fun _ => ?_)
    refine brr_eq (fun e => by omega) (fun _ => ?_)
    refine F_code_Reader_U8.is (ok _ 0 (by omega) (by omega)) O fun h O => ?_
    have B : Before ⟨cont, 0, 0⟩ [7] := ⟨rfl, by rw [← hcont]; rfl⟩
    have e := B.next
    rw [show [(7 : UInt8)].length = 1 from rfl] at e
    rw [e.1] at O
    rw [e.2]
    exact hj _ _ ⟨rfl, O⟩
  clear O
  rintro t h ⟨rfl, O⟩
  refine brr_ff rfl ?_
  have step : ∀ {i : Nat} {op : COp}, ops[i]? = some op → i < 400 → ∃ Z, cont = 7 :: (allB ops i ++ (laid op ++ Z)) := by
    intro i op hx h4
    obtain ⟨Z, e⟩ := allB_split hx h4
    exact ⟨Z, by rw [← hcont, e]⟩
  have hclen : cont.length = 1 + (allB ops 400).length := by rw [← hcont, List.length_cons]; omega
  refine jn0 (fun h' => Sat H h' [rdR p ⟨cont, cont.length, 0⟩, buf 1 u8 s cont, wrR w cont, own ba [.slice t1.ptr t1.len t1.cap, .slice t2.ptr t2.len t2.cap, .slice t3.ptr t3.len t3.cap]]) ?_ ?_
  case refine_2 =>
    intro j hj
    rw [F_law1_CodeTurns.l2.eq_1]
    simp only [nn_some, pt_add, Nat.zero_add, Nat.add_zero, Nat.reduceAdd, Nat.reduceMul, Int.toNat_zero, Int.toNat_one, Nat.zero_mul, Nat.one_mul]
    refine wl1 (k := .int .i64) (fun (m : Nat) (i : Int) (h' : Heap) => i + m = ops.length ∧ 0 ≤ i ∧ i ≤ 400 ∧ Sat H h' [rdR p ⟨cont, 1 + (allB ops i.toNat).length, 0⟩, buf 1 u8 s cont, wrR w cont, own ba [.slice t1.ptr t1.len t1.cap, .slice t2.ptr t2.len t2.cap, .slice t3.ptr t3.len t3.cap]]) ?_ (m := ops.length) ⟨by omega, by omega, by omega, O⟩
    clear O
    rintro m (i : Int) h2 next hn ⟨hi, hi0, hi4, O⟩
    refine jn1 (fun t h' => h' = h2 ∧ (t = decide (i < ops.length ∧ i < 400))) ?_ ?_
    case refine_2 =>
      intro j2 hj2
      refine O.ld 3 rfl (ldL_c (ldL_n ?_))
      rw [Vo.len]
      refine brr_p (fun hlt => ?_) (fun hlt => ?_)
      · exact hj2 _ _ ⟨rfl, by simp [hlt]⟩
      · exact hj2 _ _ ⟨rfl, by simp; intro h; omega⟩
    rintro t h2 ⟨rfl, rfl⟩
    refine brr_p (fun ht => ?_) (fun ht => ?_)
    case refine_2 =>
      rw [allB_end (ops := ops) (i := i.toNat) (by omega) (by omega), ← hclen] at O
      exact hj _ O
    obtain ⟨hlt, hlt4⟩ := ht
    refine jn1 (fun t h' => t = false ∧ Sat H h' [rdR p ⟨cont, 1 + (allB ops (i.toNat + 1)).length, 0⟩, buf 1 u8 s cont, wrR w cont, own ba [.slice t1.ptr t1.len t1.cap, .slice t2.ptr t2.len t2.cap, .slice t3.ptr t3.len t3.cap]]) ?_ ?_
    · clear O
      rintro t h ⟨rfl, O⟩
      refine brr_ff rfl ?_
      rw [wrap64 (by omega) (by omega)]
      refine hn (m - 1) _ _ (by omega) ⟨by omega, by omega, by omega, ?_⟩
      rw [show (i + 1).toNat = i.toNat + 1 by omega]
      exact O
    intro j45 hj45
    refine O.ld 3 rfl (ldL_c (ldL_n ?_))
    refine (Vo.kept O.kept).ix hi0 hlt fun a cs op hx hlen hR hc => ?_
    obtain ⟨rfl, r1, r2, r3, r4, r5, r6, r7, r8⟩ := hR
    refine ld_are hc (ldL_c (ldL_c (ldL_c (ldL_c (ldL_c (k := .sl) (x := op.s) (ldL_n ?_))))))
    obtain ⟨Z, eZ⟩ := step hx (by omega)
    have eZl := congrArg List.length eZ
    simp only [List.length_cons, List.length_append] at eZl
    have B : Before ⟨cont, 1 + (allB ops i.toNat).length, 0⟩ (laid op) := by rw [eZ]; exact before_at
    obtain ⟨e1, e2⟩ := back_full r1 (by omega) B
    refine F_law1_back.is (ok _ _ (by omega) (by omega)) (fun h O => r2.kept O.kept) (by omega) O fun h O => ?_
    have es := congrArg List.length (allB_succ hx)
    rw [List.length_append] at es
    rw [e1] at O
    rw [e2]
    have O : Sat H h (rdR p ⟨cont, 1 + (allB ops i.toNat).length + (laid op).length, 0⟩ :: _) := O
    rw [show 1 + (allB ops i.toNat).length + (laid op).length = 1 + (allB ops (i.toNat + 1)).length by omega] at O
    refine brr_ff rfl ?_
    refine F_code_Reader_Fault.is (E.sat O) (ok _ _ (by omega) (by omega)) O ?_
    rw [F_law1_num.eq_1, F_law1_num_of.eq_1]
    exact hj45 _ _ ⟨rfl, O⟩
  clear O
  intro h O
  have oe := ok cont cont.length (Nat.le_refl _) (by omega)
  have le0 : RS.left ⟨cont, cont.length, 0⟩ = 0 := by show cont.length - cont.length = 0; omega
  refine jn1 (fun t h' => t = false ∧ h' = h) ?_ ?_
  case refine_2 =>
    intro j hj
    refine F_code_Reader_End.is (E.sat O) oe O ?_
    rw [F_law1_num.eq_1, F_law1_num_of.eq_1]
    refine brr_ne (fun e => absurd (by unfold RS.endN; rw [if_neg (fun x => absurd x.2 (by rw [le0]; decide))]; rfl) e) (fun _ => ?_)
    refine F_code_Reader_Left.is oe O ?_
    rw [le0]
    refine brr_ne (fun e => absurd rfl e) (fun _ => ?_)
    refine F_code_Reader_At.is O ?_
    refine hj _ _ ⟨?_, rfl⟩
    rw [hsl]; simp
  rintro t h ⟨rfl, rfl⟩
  refine brr_ff rfl ?_
  have hv := (O.view 1 u8_len (by simp) rfl)
  rw [hsl, wrap64 (by omega) (by omega)]
  refine ⟨by omega, by omega, ?_⟩
  rw [show ((cont.length : Int) - 1).toNat = cont.length - 1 by omega]
  have hcutl : (cont.take (cont.length - 1)).length = cont.length - 1 := by rw [List.length_take]; omega
  refine F_code_Read.is O (hv.1.take (cont.length - 1) s.cap (by omega)) (by omega) fun q h O => ?_
  have ok2 : ∀ {r : RS} {o : COp}, r.Ok → (r.backP o).Ok := fun o => o.backP _
  refine F_code_Reader_U8.is (ok _ 0 (by omega) (by omega)) O fun h O => ?_
  have st : ∃ r : RS, r.Ok ∧ r.b = cont.take (cont.length - 1) ∧ (r.met = 1 ∨ r = ⟨cont.take (cont.length - 1), 1 + (allB ops 0).length, 0⟩ ∧ 1 + (allB ops 0).length ≤ cont.length - 1) ∧ Sat H h [rdR q r, rdR p ⟨cont, cont.length, 0⟩, buf 1 u8 s cont, wrR w cont, own ba [.slice t1.ptr t1.len t1.cap, .slice t2.ptr t2.len t2.cap, .slice t3.ptr t3.len t3.cap]] := by
    refine ⟨_, (ok _ 0 (by omega) (by omega)).next 1, RS.next_b, ?_, O⟩
    by_cases h1 : 1 > RS.left ⟨cont.take (cont.length - 1), 0, 0⟩
    · left
      rw [(RS.next_p rfl h1).1]
    · right
      rw [(RS.next_q rfl h1).1]
      have h2 : ¬ 1 > (cont.take (cont.length - 1)).length - 0 := h1
      exact ⟨rfl, by show 1 + 0 ≤ _; omega⟩
  clear O
  obtain ⟨r, o, erb, hst, O⟩ := st
  refine jn0 (fun h' => ∃ r : RS, r.Ok ∧ r.met = 1 ∧ Sat H h' [rdR q r, rdR p ⟨cont, cont.length, 0⟩, buf 1 u8 s cont, wrR w cont, own ba [.slice t1.ptr t1.len t1.cap, .slice t2.ptr t2.len t2.cap, .slice t3.ptr t3.len t3.cap]]) ?_ ?_
  · clear O
    rintro h ⟨r, o, hm, O⟩
    refine jn1 (fun t h' => t = true ∧ KeptH H h') (fun t h' ⟨e, k⟩ => ⟨by rw [e], k⟩) fun j hj => ?_
    refine F_code_Reader_Fault.is (E.sat O) o O ?_
    rw [F_law1_num.eq_1, F_law1_num_of.eq_1, hm]
    refine brr_eq (fun _ => ?_) (fun e => absurd rfl e)
    refine F_code_Reader_End.is (E.sat O) o O ?_
    rw [F_law1_num.eq_1, F_law1_num_of.eq_1]
    refine hj _ _ ⟨?_, O.kept⟩
    unfold RS.endN
    rw [if_neg (fun x => by have := x.1; omega), hm]
    rfl
  intro j hj
  rw [F_law1_CodeTurns.l3.eq_1]
  simp only [nn_some, pt_add, Nat.zero_add, Nat.add_zero, Nat.reduceAdd, Nat.reduceMul, Int.toNat_zero, Int.toNat_one, Nat.zero_mul, Nat.one_mul]
  refine wl1 (k := .int .i64) (fun (m : Nat) (i : Int) (h' : Heap) => i + m = ops.length ∧ 0 ≤ i ∧ i ≤ 400 ∧ ∃ r : RS, r.Ok ∧ r.b = cont.take (cont.length - 1) ∧ (r.met = 1 ∨ r = ⟨cont.take (cont.length - 1), 1 + (allB ops i.toNat).length, 0⟩ ∧ 1 + (allB ops i.toNat).length ≤ cont.length - 1) ∧ Sat H h' [rdR q r, rdR p ⟨cont, cont.length, 0⟩, buf 1 u8 s cont, wrR w cont, own ba [.slice t1.ptr t1.len t1.cap, .slice t2.ptr t2.len t2.cap, .slice t3.ptr t3.len t3.cap]]) ?_ (m := ops.length) ⟨by omega, by omega, by omega, r, o, erb, hst, O⟩
  clear O hst erb o r
  rintro m (i : Int) h2 next hn ⟨hi, hi0, hi4, r, o, erb, hst, O⟩
  refine jn1 (fun t h' => h' = h2 ∧ (t = decide (i < ops.length ∧ i < 400))) ?_ ?_
  case refine_2 =>
    intro j2 hj2
    refine O.ld 4 rfl (ldL_c (ldL_n ?_))
    rw [Vo.len]
    refine brr_p (fun hlt => ?_) (fun hlt => ?_)
    · exact hj2 _ _ ⟨rfl, by simp [hlt]⟩
    · exact hj2 _ _ ⟨rfl, by simp; intro h; omega⟩
  rintro t h2 ⟨rfl, rfl⟩
  refine brr_p (fun ht => ?_) (fun ht => ?_)
  case refine_2 =>
    refine hj _ ⟨r, o, ?_, O⟩
    rcases hst with hst | ⟨_, hst⟩
    · exact hst
    · rw [allB_end (ops := ops) (i := i.toNat) (by omega) (by omega)] at hst
      omega
  obtain ⟨hlt, hlt4⟩ := ht
  refine O.ld 4 rfl (ldL_c (ldL_n ?_))
  refine (Vo.kept O.kept).ix hi0 hlt fun a cs op hx hlen hR hc => ?_
  obtain ⟨rfl, r1, r2, r3, r4, r5, r6, r7, r8⟩ := hR
  refine ld_are hc (ldL_c (ldL_c (ldL_c (ldL_c (ldL_c (k := .sl) (x := op.s) (ldL_n ?_))))))
  refine F_law1_back.is o (fun h O => r2.kept O.kept) (by omega) O fun h O => ?_
  rw [wrap64 (by omega) (by omega)]
  refine hn (m - 1) _ _ (by omega) ⟨by omega, by omega, by omega, _, o.backP op, ?_, ?_, O⟩
  · rcases hst with hst | ⟨rfl, hst⟩
    · rw [back_stuck (by omega)]; exact erb
    · unfold RS.backP
      split
      · exact RS.next_b
      split
      · exact RS.next_b
      split
      · exact RS.next_b
      split
      · exact RS.varP_b
      split
      · exact RS.bytesP_b
      split
      · exact RS.rawP_b
      · rfl
  · rcases hst with hst | ⟨rfl, hst⟩
    · left
      rw [back_stuck (by omega)]; exact hst
    · obtain ⟨Z, eZ⟩ := step hx (by omega)
      have eZl := congrArg List.length eZ
      simp only [List.length_cons, List.length_append] at eZl
      have es := congrArg List.length (allB_succ hx)
      rw [List.length_append] at es
      by_cases hfit : 1 + (allB ops i.toNat).length + (laid op).length ≤ cont.length - 1
      · right
        have B : Before ⟨cont.take (cont.length - 1), 1 + (allB ops i.toNat).length, 0⟩ (laid op) := by
          have := before_cut (A := allB ops i.toNat) (ys := laid op) (Z := Z) (c := 7) hfit
          rw [← eZ] at this
          exact this
        rw [(back_full r1 (by omega) B).1, show (i + 1).toNat = i.toNat + 1 by omega]
        refine ⟨?_, by omega⟩
        show (⟨_, 1 + (allB ops i.toNat).length + (laid op).length, 0⟩ : RS) = _
        rw [es, Nat.add_assoc]
      · left
        have hZ : Z = [] := List.length_eq_zero_iff.1 (by omega)
        have hne2 : laid op ≠ [] := by intro e; rw [e] at hfit eZl; rw [hZ] at eZl; simp at eZl hfit; omega
        refine back_cut o rfl r1 (by omega) ?_ hne2
        show (cont.take (cont.length - 1)).drop (1 + (allB ops i.toNat).length) = _
        rw [hZ, List.append_nil] at eZ
        have hz0 : Z.length = 0 := by rw [hZ]; rfl
        rw [List.drop_take, eZ, Nat.add_comm 1, List.drop_succ_cons, List.drop_left, List.dropLast_eq_take]
        congr 1
        simp only [List.length_cons, List.length_append]
        omega
end Go.Proofs.YtompmkmbppcadaaDoor.V
