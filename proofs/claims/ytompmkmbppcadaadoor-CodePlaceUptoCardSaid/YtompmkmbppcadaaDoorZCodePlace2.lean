import Derived.Test.YtompmkmbppcadaaDoorZCodePlace1
import Derived.Test.YtompmkmbppcadaaDoorProg
namespace Go.Proofs.YtompmkmbppcadaaDoor.V
open Go Go.RowKit
set_option linter.unusedVariables false
set_option maxRecDepth 100000
/-! (*tally/tallyref1.Eye).U8 -/
def F_ref1_Eye_U8_of (f58_ : Option Addr → Int → Heap → (Int → Heap → Prop) → Prop) (e1 : Option Addr) (h : Heap) (Q : Int → Heap → Prop) : Prop :=
  f58_ e1 1 h fun (r2 : Int) (h3 : Heap) =>
  Q (IntKind.u8.wrap r2) h3
def F_ref1_Eye_U8 (e1 : Option Addr) (h : Heap) (Q : Int → Heap → Prop) : Prop := F_ref1_Eye_U8_of F_ref1_Eye_fixed e1 h Q
def plan39 : Plan := .s (.r [0]) (.s (.r [2]) .z)
theorem F_ref1_Eye_U8.eq (f58_ : Option Addr → Int → Heap → (Int → Heap → Prop) → Prop) (e1 : Option Addr) (h : Heap) (K : Value → Heap → Prop) : F_ref1_Eye_U8_of f58_ e1 h (fun (r0 : Int) (h : Heap) => K (.int .u8 r0) h) =
    den Tryd.prog (fn1 58 (E_ref1_Eye_fixed_of f58_) noFns) Tryd.f39.ntmps plan39 (bodyOf Tryd.f39) (args0 0 [(.pointer e1 : Value)]) h ⟨fun env h => dRes Tryd.prog Tryd.f39.results.toList env h K, fun _ _ _ => False, fun env h => dRes Tryd.prog Tryd.f39.results.toList env h K⟩ := by kernel_rfl
def E_ref1_Eye_U8_of (f : Option Addr → Heap → (Int → Heap → Prop) → Prop) : List Value → Heap → (Value → Heap → Prop) → Prop
  | [v0], h, K => dec1 .ptr v0 fun (e1 : Option Addr) =>
  f e1 h (fun (r0 : Int) (h : Heap) => K (.int .u8 r0) h)
  | _, _, _ => False
abbrev E_ref1_Eye_U8 := E_ref1_Eye_U8_of F_ref1_Eye_U8
theorem E_ref1_Eye_U8.right : IsRight Tryd.prog 39 E_ref1_Eye_U8 := by
  refine isRight fun vs K w hh => ?_
  match vs, hh with
  | [v0], hh =>
    unfold E_ref1_Eye_U8 E_ref1_Eye_U8_of at hh
    replace hh := dec1_sound hh; obtain ⟨e1, rfl, hh⟩ := hh
    unfold F_ref1_Eye_U8 at hh
    exact calls_den (fn1_right ok58 E_ref1_Eye_fixed.right noFns_right) plan39 _ w K Tryd.func39 (by kernel_rfl) (by kernel_rfl) (Eq.mp (F_ref1_Eye_U8.eq F_ref1_Eye_fixed e1 w.heap K) hh)
theorem ok39 : okFn Tryd.prog 39 = true := by kernel_rfl
end Go.Proofs.YtompmkmbppcadaaDoor.V
namespace Go.Proofs.YtompmkmbppcadaaDoor.V
open Go Go.RowKit
set_option linter.unusedVariables false
set_option maxRecDepth 100000
/-! (*tally/tallyref1.Eye).U32 -/
def F_ref1_Eye_U32_of (f58_ : Option Addr → Int → Heap → (Int → Heap → Prop) → Prop) (e1 : Option Addr) (h : Heap) (Q : Int → Heap → Prop) : Prop :=
  f58_ e1 4 h fun (r2 : Int) (h3 : Heap) =>
  Q (IntKind.u32.wrap r2) h3
def F_ref1_Eye_U32 (e1 : Option Addr) (h : Heap) (Q : Int → Heap → Prop) : Prop := F_ref1_Eye_U32_of F_ref1_Eye_fixed e1 h Q
def plan41 : Plan := .s (.r [0]) (.s (.r [2]) .z)
theorem F_ref1_Eye_U32.eq (f58_ : Option Addr → Int → Heap → (Int → Heap → Prop) → Prop) (e1 : Option Addr) (h : Heap) (K : Value → Heap → Prop) : F_ref1_Eye_U32_of f58_ e1 h (fun (r0 : Int) (h : Heap) => K (.int .u32 r0) h) =
    den Tryd.prog (fn1 58 (E_ref1_Eye_fixed_of f58_) noFns) Tryd.f41.ntmps plan41 (bodyOf Tryd.f41) (args0 0 [(.pointer e1 : Value)]) h ⟨fun env h => dRes Tryd.prog Tryd.f41.results.toList env h K, fun _ _ _ => False, fun env h => dRes Tryd.prog Tryd.f41.results.toList env h K⟩ := by kernel_rfl
def E_ref1_Eye_U32_of (f : Option Addr → Heap → (Int → Heap → Prop) → Prop) : List Value → Heap → (Value → Heap → Prop) → Prop
  | [v0], h, K => dec1 .ptr v0 fun (e1 : Option Addr) =>
  f e1 h (fun (r0 : Int) (h : Heap) => K (.int .u32 r0) h)
  | _, _, _ => False
abbrev E_ref1_Eye_U32 := E_ref1_Eye_U32_of F_ref1_Eye_U32
theorem E_ref1_Eye_U32.right : IsRight Tryd.prog 41 E_ref1_Eye_U32 := by
  refine isRight fun vs K w hh => ?_
  match vs, hh with
  | [v0], hh =>
    unfold E_ref1_Eye_U32 E_ref1_Eye_U32_of at hh
    replace hh := dec1_sound hh; obtain ⟨e1, rfl, hh⟩ := hh
    unfold F_ref1_Eye_U32 at hh
    exact calls_den (fn1_right ok58 E_ref1_Eye_fixed.right noFns_right) plan41 _ w K Tryd.func41 (by kernel_rfl) (by kernel_rfl) (Eq.mp (F_ref1_Eye_U32.eq F_ref1_Eye_fixed e1 w.heap K) hh)
theorem ok41 : okFn Tryd.prog 41 = true := by kernel_rfl
end Go.Proofs.YtompmkmbppcadaaDoor.V
namespace Go.Proofs.YtompmkmbppcadaaDoor.V
open Go Go.RowKit
set_option linter.unusedVariables false
set_option maxRecDepth 100000
/-! (*tally/tallyref1.Eye).U64 -/
def F_ref1_Eye_U64_of (f58_ : Option Addr → Int → Heap → (Int → Heap → Prop) → Prop) (e1 : Option Addr) (h : Heap) (Q : Int → Heap → Prop) : Prop :=
  f58_ e1 8 h fun (r2 : Int) (h3 : Heap) =>
  Q r2 h3
def F_ref1_Eye_U64 (e1 : Option Addr) (h : Heap) (Q : Int → Heap → Prop) : Prop := F_ref1_Eye_U64_of F_ref1_Eye_fixed e1 h Q
def plan42 : Plan := .s (.r [0]) (.s (.r [2]) .z)
theorem F_ref1_Eye_U64.eq (f58_ : Option Addr → Int → Heap → (Int → Heap → Prop) → Prop) (e1 : Option Addr) (h : Heap) (K : Value → Heap → Prop) : F_ref1_Eye_U64_of f58_ e1 h (fun (r0 : Int) (h : Heap) => K (.int .u64 r0) h) =
    den Tryd.prog (fn1 58 (E_ref1_Eye_fixed_of f58_) noFns) Tryd.f42.ntmps plan42 (bodyOf Tryd.f42) (args0 0 [(.pointer e1 : Value)]) h ⟨fun env h => dRes Tryd.prog Tryd.f42.results.toList env h K, fun _ _ _ => False, fun env h => dRes Tryd.prog Tryd.f42.results.toList env h K⟩ := by kernel_rfl
def E_ref1_Eye_U64_of (f : Option Addr → Heap → (Int → Heap → Prop) → Prop) : List Value → Heap → (Value → Heap → Prop) → Prop
  | [v0], h, K => dec1 .ptr v0 fun (e1 : Option Addr) =>
  f e1 h (fun (r0 : Int) (h : Heap) => K (.int .u64 r0) h)
  | _, _, _ => False
abbrev E_ref1_Eye_U64 := E_ref1_Eye_U64_of F_ref1_Eye_U64
theorem E_ref1_Eye_U64.right : IsRight Tryd.prog 42 E_ref1_Eye_U64 := by
  refine isRight fun vs K w hh => ?_
  match vs, hh with
  | [v0], hh =>
    unfold E_ref1_Eye_U64 E_ref1_Eye_U64_of at hh
    replace hh := dec1_sound hh; obtain ⟨e1, rfl, hh⟩ := hh
    unfold F_ref1_Eye_U64 at hh
    exact calls_den (fn1_right ok58 E_ref1_Eye_fixed.right noFns_right) plan42 _ w K Tryd.func42 (by kernel_rfl) (by kernel_rfl) (Eq.mp (F_ref1_Eye_U64.eq F_ref1_Eye_fixed e1 w.heap K) hh)
theorem ok42 : okFn Tryd.prog 42 = true := by kernel_rfl
end Go.Proofs.YtompmkmbppcadaaDoor.V
namespace Go.Proofs.YtompmkmbppcadaaDoor.V
open Go Go.RowKit
set_option linter.unusedVariables false
set_option maxRecDepth 100000
/-! (*tally/tallyref1.Eye).last -/
def F_ref1_Eye_last.l1 (e1 : Option Addr) (Q : Int → Heap → Prop) (j2 : Heap → Prop) : Int → Heap → Prop :=
  wl [(3, .one (.int .i64))] (fun (next3 : Int → Heap → Prop) (k4 : Int) (h5 : Heap) =>
  jn [(19, .one .bool)] (fun (x11 : Bool) (h12 : Heap) =>
  brr x11
  (nn e1 fun (a13 : Addr) =>
  ld [.sl] (a13.add 0) h12 fun (v14 : Sl) =>
  nn e1 fun (a15 : Addr) =>
  ld [.int .i64] (a15.add 1) h12 fun (v16 : Int) =>
  ixS 1 v14 (IntKind.i64.wrap (v16 + k4)) fun (a17 : Addr) =>
  ld [.int .u8] a17 h12 fun (v18 : Int) =>
  brr (decide (v18 < 128))
  (nn e1 fun (a19 : Addr) =>
  ld [.int .i64] (a19.add 1) h12 fun (v20 : Int) =>
  Q (IntKind.i64.wrap (v20 + k4)) h12)
  (next3 (IntKind.i64.wrap (k4 + 1)) h12))
  (j2 h12)) (fun (j6 : Bool → Heap → Prop) =>
  brr (decide (k4 < 10))
  (nn e1 fun (a7 : Addr) =>
  ld [.int .i64] (a7.add 1) h5 fun (v8 : Int) =>
  nn e1 fun (a9 : Addr) =>
  ld [.sl] (a9.add 0) h5 fun (v10 : Sl) =>
  j6 (decide ((IntKind.i64.wrap (v8 + k4)) < ((v10.len : Nat) : Int))) h5)
  (j6 false h5)))
def F_ref1_Eye_last_of  (e1 : Option Addr) (h : Heap) (Q : Int → Heap → Prop) : Prop :=
  jn [] (fun  (h21 : Heap) =>
  Q (-1) h21) (fun (j2 : Heap → Prop) =>
  F_ref1_Eye_last.l1 e1 Q j2 0 h)
def F_ref1_Eye_last (e1 : Option Addr) (h : Heap) (Q : Int → Heap → Prop) : Prop := F_ref1_Eye_last_of  e1 h Q
def plan59 : Plan := .s (.r [0]) (.s (.s (.r [0, 3]) (.bj [] [] (.l [(3, .one (.int .i64))] [0] (.s (.s (.dj [0, 1, 3, 7, 15, 31, 63, 7, 255, 7, 519, 1543, 3591, 7687, 16383, 32767] [[0, 1, 2, 3, 4, 5, 6, 7, 8, 9, 10, 11, 12, 13, 14, 15]] [(19, .one .bool)] [0, 3]) (.c .z .z)) (.s (.b (.s (.d [0, 1, 3, 7, 0, 16, 48, 112, 0, 496, 1023, 2047, 4095] [[0, 1, 2, 3, 4, 5, 6, 7, 8, 9, 10, 11, 12]] [0, 3, 34]) (.c (.s (.r [2]) .z) .z))) (.r [0, 3])))))) (.s (.r [2]) .z))
theorem F_ref1_Eye_last.eq  (e1 : Option Addr) (h : Heap) (K : Value → Heap → Prop) : F_ref1_Eye_last_of  e1 h (fun (r0 : Int) (h : Heap) => K (.int .i64 r0) h) =
    den Tryd.prog noFns Tryd.f59.ntmps plan59 (bodyOf Tryd.f59) (args0 0 [(.pointer e1 : Value)]) h ⟨fun env h => dRes Tryd.prog Tryd.f59.results.toList env h K, fun _ _ _ => False, fun env h => dRes Tryd.prog Tryd.f59.results.toList env h K⟩ := by kernel_rfl
def E_ref1_Eye_last_of (f : Option Addr → Heap → (Int → Heap → Prop) → Prop) : List Value → Heap → (Value → Heap → Prop) → Prop
  | [v0], h, K => dec1 .ptr v0 fun (e1 : Option Addr) =>
  f e1 h (fun (r0 : Int) (h : Heap) => K (.int .i64 r0) h)
  | _, _, _ => False
abbrev E_ref1_Eye_last := E_ref1_Eye_last_of F_ref1_Eye_last
theorem E_ref1_Eye_last.right : IsRight Tryd.prog 59 E_ref1_Eye_last := by
  refine isRight fun vs K w hh => ?_
  match vs, hh with
  | [v0], hh =>
    unfold E_ref1_Eye_last E_ref1_Eye_last_of at hh
    replace hh := dec1_sound hh; obtain ⟨e1, rfl, hh⟩ := hh
    unfold F_ref1_Eye_last at hh
    exact calls_den noFns_right plan59 _ w K Tryd.func59 (by kernel_rfl) (by kernel_rfl) (Eq.mp (F_ref1_Eye_last.eq  e1 w.heap K) hh)
theorem ok59 : okFn Tryd.prog 59 = true := by kernel_rfl
end Go.Proofs.YtompmkmbppcadaaDoor.V
namespace Go.Proofs.YtompmkmbppcadaaDoor.V
open Go Go.RowKit
set_option linter.unusedVariables false
set_option maxRecDepth 100000
/-! (*tally/tallyref1.Eye).Var -/
def F_ref1_Eye_Var.l1 (e1 : Option Addr) (j15 : Int → Heap → Prop) : Int → Int → Heap → Prop :=
  wl [(6, .one (.int .u64)), (7, .one (.int .i64))] (fun (next16 : Int → Int → Heap → Prop) (n17 : Int) (i18 : Int) (h19 : Heap) =>
  nn e1 fun (a20 : Addr) =>
  ld [.int .i64] (a20.add 1) h19 fun (v21 : Int) =>
  brr (decide (i18 ≥ v21))
  (nn e1 fun (a22 : Addr) =>
  ld [.sl] (a22.add 0) h19 fun (v23 : Sl) =>
  ixS 1 v23 i18 fun (a24 : Addr) =>
  ld [.int .u8] a24 h19 fun (v25 : Int) =>
  (128 : Int) ≠ 0 ∧
  next16 (IntKind.u64.wrap ((IntKind.u64.wrap (n17 * 128)) + (IntKind.u64.wrap (v25.tmod 128)))) (IntKind.i64.wrap (i18 - 1)) h19)
  (j15 n17 h19))
def F_ref1_Eye_Var_of (f28_ : Sl → Sl → Heap → (Bool → Heap → Prop) → Prop) (f48_ : Option Addr → Heap → (Int → Heap → Prop) → Prop) (f54_ : Int → Heap → (Sl → Heap → Prop) → Prop) (f59_ : Option Addr → Heap → (Int → Heap → Prop) → Prop) (e1 : Option Addr) (most2 : Int) (h : Heap) (Q : Int → Heap → Prop) : Prop :=
  nn e1 fun (a3 : Addr) =>
  ld [.int .i64] (a3.add 2) h fun (v4 : Int) =>
  brr (v4 != 0)
  (Q 0 h)
  (f59_ e1 h fun (r5 : Int) (h6 : Heap) =>
  brr (decide (r5 < 0))
  (nn e1 fun (a7 : Addr) =>
  st (a7.add 2) [.int .i64 11] h6 fun (h8 : Heap) =>
  f48_ e1 h8 fun (r9 : Int) (h10 : Heap) =>
  jn [] (fun  (h14 : Heap) =>
  Q 0 h14) (fun (j11 : Heap → Prop) =>
  brr (decide (r9 < 10))
  (nn e1 fun (a12 : Addr) =>
  st (a12.add 2) [.int .i64 10] h10 fun (h13 : Heap) =>
  j11 h13)
  (j11 h10)))
  (jn [(6, .one (.int .u64))] (fun (n26 : Int) (h27 : Heap) =>
  nn e1 fun (a28 : Addr) =>
  ld [.sl] (a28.add 0) h27 fun (v29 : Sl) =>
  nn e1 fun (a30 : Addr) =>
  ld [.int .i64] (a30.add 1) h27 fun (v31 : Int) =>
  slFT 1 v29 v31 (IntKind.i64.wrap (r5 + 1)) fun (s32 : Sl) =>
  f54_ n26 h27 fun (r33 : Sl) (h34 : Heap) =>
  cellsAre h34 (a28.add 0) [.slice v29.ptr v29.len v29.cap] ∧
  cellsAre h34 (a30.add 1) [.int .i64 v31] ∧
  f28_ r33 s32 h34 fun (r35 : Bool) (h36 : Heap) =>
  brr (!r35)
  (nn e1 fun (a37 : Addr) =>
  st (a37.add 2) [.int .i64 11] h36 fun (h38 : Heap) =>
  Q 0 h38)
  (brr (decide (n26 > most2))
  (nn e1 fun (a39 : Addr) =>
  st (a39.add 2) [.int .i64 12] h36 fun (h40 : Heap) =>
  Q 0 h40)
  (nn e1 fun (a41 : Addr) =>
  st (a41.add 1) [.int .i64 (IntKind.i64.wrap (r5 + 1))] h36 fun (h42 : Heap) =>
  Q n26 h42))) (fun (j15 : Int → Heap → Prop) =>
  F_ref1_Eye_Var.l1 e1 j15 0 r5 h6)))
def F_ref1_Eye_Var (e1 : Option Addr) (most2 : Int) (h : Heap) (Q : Int → Heap → Prop) : Prop := F_ref1_Eye_Var_of F_ref0_Eq F_ref1_Eye_Left F_ref1_Var F_ref1_Eye_last e1 most2 h Q
def plan44 : Plan := .s (.r [0, 1]) (.s (.s (.r [0, 1, 12]) (.c (.s (.r [4]) .z) .z)) (.s (.r [0, 1, 5]) (.s (.s (.r [0, 1, 5, 16]) (.c (.s (.r [0]) (.s (.s (.r [0, 22]) (.cj [] [] (.r []) .z)) (.s (.r [4]) .z))) .z)) (.s (.r [0, 1, 5, 6]) (.s (.s (.r [0, 1, 5, 6, 7]) (.bj [(6, .one (.int .u64))] [0, 1, 5] (.l [(6, .one (.int .u64)), (7, .one (.int .i64))] [0, 1, 5] (.s (.s (.r [0, 1, 5, 6, 7, 32]) (.c .z .z)) (.s (.b (.r [0, 1, 5, 6, 7])) (.r [0, 1, 5, 6, 7])))))) (.s (.s (.d [0, 1, 0, 4, 12, 28, 0, 64, 192, 448, 0, 1024, 4092, 8191, 16383] [[0, 2, 3, 4, 5, 6, 7, 8, 9, 10, 11, 12, 1, 13, 14]] [0, 1, 5, 6, 61]) (.c (.s (.r []) (.s (.r [4]) .z)) .z)) (.s (.s (.r [0, 5, 6, 67]) (.c (.s (.r []) (.s (.r [4]) .z)) .z)) (.s (.r [6]) (.s (.r [4]) .z)))))))))
theorem F_ref1_Eye_Var.eq (f28_ : Sl → Sl → Heap → (Bool → Heap → Prop) → Prop) (f48_ : Option Addr → Heap → (Int → Heap → Prop) → Prop) (f54_ : Int → Heap → (Sl → Heap → Prop) → Prop) (f59_ : Option Addr → Heap → (Int → Heap → Prop) → Prop) (e1 : Option Addr) (most2 : Int) (h : Heap) (K : Value → Heap → Prop) : F_ref1_Eye_Var_of f28_ f48_ f54_ f59_ e1 most2 h (fun (r0 : Int) (h : Heap) => K (.int .u64 r0) h) =
    den Tryd.prog (fn1 28 (E_ref0_Eq_of f28_) (fn1 48 (E_ref1_Eye_Left_of f48_) (fn1 54 (E_ref1_Var_of f54_) (fn1 59 (E_ref1_Eye_last_of f59_) noFns)))) Tryd.f44.ntmps plan44 (bodyOf Tryd.f44) (args0 0 [(.pointer e1 : Value), (.int .u64 most2 : Value)]) h ⟨fun env h => dRes Tryd.prog Tryd.f44.results.toList env h K, fun _ _ _ => False, fun env h => dRes Tryd.prog Tryd.f44.results.toList env h K⟩ := by kernel_rfl
def E_ref1_Eye_Var_of (f : Option Addr → Int → Heap → (Int → Heap → Prop) → Prop) : List Value → Heap → (Value → Heap → Prop) → Prop
  | [v0, v1], h, K => dec1 .ptr v0 fun (e1 : Option Addr) =>
  dec1 (.int .u64) v1 fun (most2 : Int) =>
  f e1 most2 h (fun (r0 : Int) (h : Heap) => K (.int .u64 r0) h)
  | _, _, _ => False
abbrev E_ref1_Eye_Var := E_ref1_Eye_Var_of F_ref1_Eye_Var
theorem E_ref1_Eye_Var.right : IsRight Tryd.prog 44 E_ref1_Eye_Var := by
  refine isRight fun vs K w hh => ?_
  match vs, hh with
  | [v0, v1], hh =>
    unfold E_ref1_Eye_Var E_ref1_Eye_Var_of at hh
    replace hh := dec1_sound hh; obtain ⟨e1, rfl, hh⟩ := hh
    replace hh := dec1_sound hh; obtain ⟨most2, rfl, hh⟩ := hh
    unfold F_ref1_Eye_Var at hh
    exact calls_den (fn1_right ok28 E_ref0_Eq.right (fn1_right ok48 E_ref1_Eye_Left.right (fn1_right ok54 E_ref1_Var.right (fn1_right ok59 E_ref1_Eye_last.right noFns_right)))) plan44 _ w K Tryd.func44 (by kernel_rfl) (by kernel_rfl) (Eq.mp (F_ref1_Eye_Var.eq F_ref0_Eq F_ref1_Eye_Left F_ref1_Var F_ref1_Eye_last e1 most2 w.heap K) hh)
theorem ok44 : okFn Tryd.prog 44 = true := by kernel_rfl
end Go.Proofs.YtompmkmbppcadaaDoor.V
namespace Go.Proofs.YtompmkmbppcadaaDoor.V
open Go Go.RowKit
set_option linter.unusedVariables false
set_option maxRecDepth 100000
/-! (*tally/tallyref1.Eye).Text -/
def F_ref1_Eye_Text_of (f44_ : Option Addr → Int → Heap → (Int → Heap → Prop) → Prop) (f47_ : Option Addr → Int → Heap → (Sl → Heap → Prop) → Prop) (e1 : Option Addr) (most2 : Int) (h : Heap) (Q : Sl → Heap → Prop) : Prop :=
  jn [(1, .one (.int .i64))] (fun (most4 : Int) (h5 : Heap) =>
  nn e1 fun (a6 : Addr) =>
  ld [.int .i64] (a6.add 1) h5 fun (v7 : Int) =>
  f44_ e1 (IntKind.u64.wrap most4) h5 fun (r8 : Int) (h9 : Heap) =>
  f47_ e1 (IntKind.i64.wrap r8) h9 fun (r10 : Sl) (h11 : Heap) =>
  nn e1 fun (a12 : Addr) =>
  ld [.int .i64] (a12.add 2) h11 fun (v13 : Int) =>
  brr (v13 != 0)
  (nn e1 fun (a14 : Addr) =>
  st (a14.add 1) [.int .i64 v7] h11 fun (h15 : Heap) =>
  Q (⟨none, 0, 0⟩ : Sl) h15)
  (Q r10 h11)) (fun (j3 : Int → Heap → Prop) =>
  brr (decide (most2 < 0))
  (j3 0 h)
  (j3 most2 h))
def F_ref1_Eye_Text (e1 : Option Addr) (most2 : Int) (h : Heap) (Q : Sl → Heap → Prop) : Prop := F_ref1_Eye_Text_of F_ref1_Eye_Var F_ref1_Eye_Raw e1 most2 h Q
def plan46 : Plan := .s (.r [0, 1]) (.s (.s (.r [0, 1, 9]) (.cj [(1, .one (.int .i64))] [0] (.r [0, 1]) .z)) (.s (.r [0, 1, 5]) (.s (.r [0, 5, 6]) (.s (.r [0, 5, 7]) (.s (.s (.r [0, 5, 7, 26]) (.c (.s (.r []) (.s (.r [4]) .z)) .z)) (.s (.r [4]) .z))))))
theorem F_ref1_Eye_Text.eq (f44_ : Option Addr → Int → Heap → (Int → Heap → Prop) → Prop) (f47_ : Option Addr → Int → Heap → (Sl → Heap → Prop) → Prop) (e1 : Option Addr) (most2 : Int) (h : Heap) (K : Value → Heap → Prop) : F_ref1_Eye_Text_of f44_ f47_ e1 most2 h (fun (r0 : Sl) (h : Heap) => K (.slice r0.ptr r0.len r0.cap) h) =
    den Tryd.prog (fn1 44 (E_ref1_Eye_Var_of f44_) (fn1 47 (E_ref1_Eye_Raw_of f47_) noFns)) Tryd.f46.ntmps plan46 (bodyOf Tryd.f46) (args0 0 [(.pointer e1 : Value), (.int .i64 most2 : Value)]) h ⟨fun env h => dRes Tryd.prog Tryd.f46.results.toList env h K, fun _ _ _ => False, fun env h => dRes Tryd.prog Tryd.f46.results.toList env h K⟩ := by kernel_rfl
def E_ref1_Eye_Text_of (f : Option Addr → Int → Heap → (Sl → Heap → Prop) → Prop) : List Value → Heap → (Value → Heap → Prop) → Prop
  | [v0, v1], h, K => dec1 .ptr v0 fun (e1 : Option Addr) =>
  dec1 (.int .i64) v1 fun (most2 : Int) =>
  f e1 most2 h (fun (r0 : Sl) (h : Heap) => K (.slice r0.ptr r0.len r0.cap) h)
  | _, _, _ => False
abbrev E_ref1_Eye_Text := E_ref1_Eye_Text_of F_ref1_Eye_Text
theorem E_ref1_Eye_Text.right : IsRight Tryd.prog 46 E_ref1_Eye_Text := by
  refine isRight fun vs K w hh => ?_
  match vs, hh with
  | [v0, v1], hh =>
    unfold E_ref1_Eye_Text E_ref1_Eye_Text_of at hh
    replace hh := dec1_sound hh; obtain ⟨e1, rfl, hh⟩ := hh
    replace hh := dec1_sound hh; obtain ⟨most2, rfl, hh⟩ := hh
    unfold F_ref1_Eye_Text at hh
    exact calls_den (fn1_right ok44 E_ref1_Eye_Var.right (fn1_right ok47 E_ref1_Eye_Raw.right noFns_right)) plan46 _ w K Tryd.func46 (by kernel_rfl) (by kernel_rfl) (Eq.mp (F_ref1_Eye_Text.eq F_ref1_Eye_Var F_ref1_Eye_Raw e1 most2 w.heap K) hh)
theorem ok46 : okFn Tryd.prog 46 = true := by kernel_rfl
end Go.Proofs.YtompmkmbppcadaaDoor.V
namespace Go.Proofs.YtompmkmbppcadaaDoor.V
open Go Go.RowKit
set_option linter.unusedVariables false
set_option maxRecDepth 100000
/-! (*tally/tallyref1.Eye).End -/
def F_ref1_Eye_End_of (f48_ : Option Addr → Heap → (Int → Heap → Prop) → Prop) (e1 : Option Addr) (h : Heap) (Q : Int → Heap → Prop) : Prop :=
  jn [(12, .one .bool)] (fun (x7 : Bool) (h8 : Heap) =>
  brr x7
  (Q 13 h8)
  (nn e1 fun (a9 : Addr) =>
  ld [.int .i64] (a9.add 2) h8 fun (v10 : Int) =>
  Q v10 h8)) (fun (j2 : Bool → Heap → Prop) =>
  nn e1 fun (a3 : Addr) =>
  ld [.int .i64] (a3.add 2) h fun (v4 : Int) =>
  brr (v4 == 0)
  (f48_ e1 h fun (r5 : Int) (h6 : Heap) =>
  j2 (decide (r5 > 0)) h6)
  (j2 false h))
def F_ref1_Eye_End (e1 : Option Addr) (h : Heap) (Q : Int → Heap → Prop) : Prop := F_ref1_Eye_End_of F_ref1_Eye_Left e1 h Q
def plan19 : Plan := .s (.r [0]) (.s (.s (.rj [(12, .one .bool)] [0]) (.c (.s (.r [2]) .z) .z)) (.s (.r [2]) .z))
theorem F_ref1_Eye_End.eq (f48_ : Option Addr → Heap → (Int → Heap → Prop) → Prop) (e1 : Option Addr) (h : Heap) (K : Value → Heap → Prop) : F_ref1_Eye_End_of f48_ e1 h (fun (r0 : Int) (h : Heap) => K (.int .i64 r0) h) =
    den Tryd.prog (fn1 48 (E_ref1_Eye_Left_of f48_) noFns) Tryd.f19.ntmps plan19 (bodyOf Tryd.f19) (args0 0 [(.pointer e1 : Value)]) h ⟨fun env h => dRes Tryd.prog Tryd.f19.results.toList env h K, fun _ _ _ => False, fun env h => dRes Tryd.prog Tryd.f19.results.toList env h K⟩ := by kernel_rfl
def E_ref1_Eye_End_of (f : Option Addr → Heap → (Int → Heap → Prop) → Prop) : List Value → Heap → (Value → Heap → Prop) → Prop
  | [v0], h, K => dec1 .ptr v0 fun (e1 : Option Addr) =>
  f e1 h (fun (r0 : Int) (h : Heap) => K (.int .i64 r0) h)
  | _, _, _ => False
abbrev E_ref1_Eye_End := E_ref1_Eye_End_of F_ref1_Eye_End
theorem E_ref1_Eye_End.right : IsRight Tryd.prog 19 E_ref1_Eye_End := by
  refine isRight fun vs K w hh => ?_
  match vs, hh with
  | [v0], hh =>
    unfold E_ref1_Eye_End E_ref1_Eye_End_of at hh
    replace hh := dec1_sound hh; obtain ⟨e1, rfl, hh⟩ := hh
    unfold F_ref1_Eye_End at hh
    exact calls_den (fn1_right ok48 E_ref1_Eye_Left.right noFns_right) plan19 _ w K Tryd.func19 (by kernel_rfl) (by kernel_rfl) (Eq.mp (F_ref1_Eye_End.eq F_ref1_Eye_Left e1 w.heap K) hh)
theorem ok19 : okFn Tryd.prog 19 = true := by kernel_rfl
end Go.Proofs.YtompmkmbppcadaaDoor.V
namespace Go.Proofs.YtompmkmbppcadaaDoor.V
open Go Go.RowKit
set_option linter.unusedVariables false
set_option maxRecDepth 100000
/-! tally/tallylaw1.num -/
def F_law1_num_of  (e1 : Int) (h : Heap) (Q : Int → Heap → Prop) : Prop :=
  Q e1 h
def F_law1_num (e1 : Int) (h : Heap) (Q : Int → Heap → Prop) : Prop := F_law1_num_of  e1 h Q
def plan16 : Plan := .s (.r [0]) (.s (.r [2]) .z)
theorem F_law1_num.eq  (e1 : Int) (h : Heap) (K : Value → Heap → Prop) : F_law1_num_of  e1 h (fun (r0 : Int) (h : Heap) => K (.int .i64 r0) h) =
    den Tryd.prog noFns Tryd.f16.ntmps plan16 (bodyOf Tryd.f16) (args0 0 [(.int .i64 e1 : Value)]) h ⟨fun env h => dRes Tryd.prog Tryd.f16.results.toList env h K, fun _ _ _ => False, fun env h => dRes Tryd.prog Tryd.f16.results.toList env h K⟩ := by kernel_rfl
def E_law1_num_of (f : Int → Heap → (Int → Heap → Prop) → Prop) : List Value → Heap → (Value → Heap → Prop) → Prop
  | [v0], h, K => dec1 (.int .i64) v0 fun (e1 : Int) =>
  f e1 h (fun (r0 : Int) (h : Heap) => K (.int .i64 r0) h)
  | _, _, _ => False
abbrev E_law1_num := E_law1_num_of F_law1_num
theorem E_law1_num.right : IsRight Tryd.prog 16 E_law1_num := by
  refine isRight fun vs K w hh => ?_
  match vs, hh with
  | [v0], hh =>
    unfold E_law1_num E_law1_num_of at hh
    replace hh := dec1_sound hh; obtain ⟨e1, rfl, hh⟩ := hh
    unfold F_law1_num at hh
    exact calls_den noFns_right plan16 _ w K Tryd.func16 (by kernel_rfl) (by kernel_rfl) (Eq.mp (F_law1_num.eq  e1 w.heap K) hh)
theorem ok16 : okFn Tryd.prog 16 = true := by kernel_rfl
end Go.Proofs.YtompmkmbppcadaaDoor.V
namespace Go.Proofs.YtompmkmbppcadaaDoor.V
open Go Go.RowKit
set_option linter.unusedVariables false
set_option maxRecDepth 100000
/-! tally/tallylaw1.reads -/
def F_law1_reads_of (f12_ : Option Addr → Heap → (Int → Heap → Prop) → Prop) (f15_ : Option Addr → Heap → (Int → Heap → Prop) → Prop) (f16_ : Int → Heap → (Int → Heap → Prop) → Prop) (f17_ : Option Addr → Heap → (Int → Heap → Prop) → Prop) (f18_ : Option Addr → Heap → (Int → Heap → Prop) → Prop) (f19_ : Option Addr → Heap → (Int → Heap → Prop) → Prop) (f20_ : Option Addr → Heap → (Int → Heap → Prop) → Prop) (f28_ : Sl → Sl → Heap → (Bool → Heap → Prop) → Prop) (f29_ : Option Addr → Int → Heap → (Sl → Heap → Prop) → Prop) (f35_ : Option Addr → Heap → (Int → Heap → Prop) → Prop) (f39_ : Option Addr → Heap → (Int → Heap → Prop) → Prop) (f40_ : Option Addr → Heap → (Int → Heap → Prop) → Prop) (f41_ : Option Addr → Heap → (Int → Heap → Prop) → Prop) (f42_ : Option Addr → Heap → (Int → Heap → Prop) → Prop) (f43_ : Option Addr → Int → Heap → (Int → Heap → Prop) → Prop) (f44_ : Option Addr → Int → Heap → (Int → Heap → Prop) → Prop) (f45_ : Option Addr → Int → Heap → (Sl → Heap → Prop) → Prop) (f46_ : Option Addr → Int → Heap → (Sl → Heap → Prop) → Prop) (f47_ : Option Addr → Int → Heap → (Sl → Heap → Prop) → Prop) (f48_ : Option Addr → Heap → (Int → Heap → Prop) → Prop) (r1 : Option Addr) (e2 : Option Addr) (o3 : Int) (o4 : Int) (o5 : Int) (o6 : Int) (o7 : Sl) (h : Heap) (Q : Bool → Heap → Prop) : Prop :=
  al 39 [.int .i64 o3, .int .i64 o4, .int .i64 o5, .int .u64 o6, .slice o7.ptr o7.len o7.cap] h fun (a8 : Addr) (h9 : Heap) =>
  ld [.int .i64] (a8.add 0) h9 fun (v10 : Int) =>
  brr (v10 == 1)
  (f35_ r1 h9 fun (r11 : Int) (h12 : Heap) =>
  f39_ e2 h12 fun (r13 : Int) (h14 : Heap) =>
  Q (r11 == r13) h14)
  (brr (v10 == 2)
  (f40_ r1 h9 fun (r15 : Int) (h16 : Heap) =>
  f41_ e2 h16 fun (r17 : Int) (h18 : Heap) =>
  Q (r15 == r17) h18)
  (brr (v10 == 3)
  (f20_ r1 h9 fun (r19 : Int) (h20 : Heap) =>
  f42_ e2 h20 fun (r21 : Int) (h22 : Heap) =>
  Q (r19 == r21) h22)
  (brr (v10 == 4)
  (ld [.int .u64] (a8.add 3) h9 fun (v23 : Int) =>
  ld [.int .u64] (a8.add 3) h9 fun (v24 : Int) =>
  f43_ r1 v23 h9 fun (r25 : Int) (h26 : Heap) =>
  cellsAre h26 (a8.add 3) [.int .u64 v24] ∧
  f44_ e2 v24 h26 fun (r27 : Int) (h28 : Heap) =>
  Q (r25 == r27) h28)
  (brr (v10 == 5)
  (ld [.int .i64] (a8.add 2) h9 fun (v29 : Int) =>
  ld [.int .i64] (a8.add 2) h9 fun (v30 : Int) =>
  f45_ r1 v29 h9 fun (r31 : Sl) (h32 : Heap) =>
  cellsAre h32 (a8.add 2) [.int .i64 v30] ∧
  f46_ e2 v30 h32 fun (r33 : Sl) (h34 : Heap) =>
  f28_ r31 r33 h34 fun (r35 : Bool) (h36 : Heap) =>
  Q r35 h36)
  (brr (v10 == 6)
  (ld [.int .i64] (a8.add 2) h9 fun (v37 : Int) =>
  ld [.int .i64] (a8.add 2) h9 fun (v38 : Int) =>
  f29_ r1 v37 h9 fun (r39 : Sl) (h40 : Heap) =>
  cellsAre h40 (a8.add 2) [.int .i64 v38] ∧
  f47_ e2 v38 h40 fun (r41 : Sl) (h42 : Heap) =>
  f28_ r39 r41 h42 fun (r43 : Bool) (h44 : Heap) =>
  Q r43 h44)
  (brr (v10 == 7)
  (f12_ r1 h9 fun (r45 : Int) (h46 : Heap) =>
  f48_ e2 h46 fun (r47 : Int) (h48 : Heap) =>
  Q (r45 == r47) h48)
  (brr (v10 == 8)
  (nn e2 fun (a49 : Addr) =>
  ld [.int .i64] (a49.add 1) h9 fun (v50 : Int) =>
  f15_ r1 h9 fun (r51 : Int) (h52 : Heap) =>
  cellsAre h52 (a49.add 1) [.int .i64 v50] ∧
  Q (r51 == v50) h52)
  (brr (v10 == 9)
  (nn e2 fun (a53 : Addr) =>
  ld [.int .i64] (a53.add 2) h9 fun (v54 : Int) =>
  f17_ r1 h9 fun (r55 : Int) (h56 : Heap) =>
  cellsAre h56 (a53.add 2) [.int .i64 v54] ∧
  f16_ r55 h56 fun (r57 : Int) (h58 : Heap) =>
  cellsAre h58 (a53.add 2) [.int .i64 v54] ∧
  Q (r57 == v54) h58)
  (brr (v10 == 10)
  (f18_ r1 h9 fun (r59 : Int) (h60 : Heap) =>
  f16_ r59 h60 fun (r61 : Int) (h62 : Heap) =>
  f19_ e2 h62 fun (r63 : Int) (h64 : Heap) =>
  Q (r61 == r63) h64)
  (Q true h9))))))))))
def F_law1_reads (r1 : Option Addr) (e2 : Option Addr) (o3 : Int) (o4 : Int) (o5 : Int) (o6 : Int) (o7 : Sl) (h : Heap) (Q : Bool → Heap → Prop) : Prop := F_law1_reads_of F_code_Reader_Left F_code_Reader_At F_law1_num F_code_Reader_Fault F_code_Reader_End F_ref1_Eye_End F_code_Reader_U64 F_ref0_Eq F_code_Reader_Raw F_code_Reader_U8 F_ref1_Eye_U8 F_code_Reader_U32 F_ref1_Eye_U32 F_ref1_Eye_U64 F_code_Reader_Var F_ref1_Eye_Var F_code_Reader_Bytes F_ref1_Eye_Text F_ref1_Eye_Raw F_ref1_Eye_Left r1 e2 o3 o4 o5 o6 o7 h Q
def plan14 : Plan := .s (.r [0, 1, 5]) (.s (.s (.r [0, 1, 5, 8]) (.b (.s (.r [0, 1, 5, 8, 9]) (.c (.s (.r [6]) .z) (.s (.r [0, 1, 5, 8, 16]) (.c (.s (.r [6]) .z) (.s (.r [0, 1, 5, 8, 23]) (.c (.s (.r [6]) .z) (.s (.r [0, 1, 5, 8, 30]) (.c (.s (.d [0, 0, 2, 7, 0, 0, 32, 127, 255, 511] [[0, 1, 2, 4, 5, 6, 3, 7, 8, 9]] [6]) .z) (.s (.r [0, 1, 5, 8, 41]) (.c (.s (.d [0, 0, 2, 7, 0, 0, 32, 127, 255, 511] [[0, 1, 2, 4, 5, 6, 3, 7, 8, 9]] [6]) .z) (.s (.r [0, 1, 5, 8, 52]) (.c (.s (.d [0, 0, 2, 7, 0, 0, 32, 127, 255, 511] [[0, 1, 2, 4, 5, 6, 3, 7, 8, 9]] [6]) .z) (.s (.r [0, 1, 8, 63]) (.c (.s (.r [6]) .z) (.s (.r [0, 1, 8, 70]) (.c (.s (.d [0, 1, 0, 4, 12, 28, 63, 127] [[0, 2, 3, 4, 5, 1, 6, 7]] [6]) .z) (.s (.r [0, 1, 8, 79]) (.c (.s (.d [0, 1, 3, 0, 8, 24, 56, 127, 255] [[0, 3, 4, 5, 6, 1, 2, 7, 8]] [6]) .z) (.s (.r [0, 1, 89]) (.c (.s (.r [6]) .z) .z)))))))))))))))))))))) (.s (.r [6]) .z))
theorem F_law1_reads.eq (f12_ : Option Addr → Heap → (Int → Heap → Prop) → Prop) (f15_ : Option Addr → Heap → (Int → Heap → Prop) → Prop) (f16_ : Int → Heap → (Int → Heap → Prop) → Prop) (f17_ : Option Addr → Heap → (Int → Heap → Prop) → Prop) (f18_ : Option Addr → Heap → (Int → Heap → Prop) → Prop) (f19_ : Option Addr → Heap → (Int → Heap → Prop) → Prop) (f20_ : Option Addr → Heap → (Int → Heap → Prop) → Prop) (f28_ : Sl → Sl → Heap → (Bool → Heap → Prop) → Prop) (f29_ : Option Addr → Int → Heap → (Sl → Heap → Prop) → Prop) (f35_ : Option Addr → Heap → (Int → Heap → Prop) → Prop) (f39_ : Option Addr → Heap → (Int → Heap → Prop) → Prop) (f40_ : Option Addr → Heap → (Int → Heap → Prop) → Prop) (f41_ : Option Addr → Heap → (Int → Heap → Prop) → Prop) (f42_ : Option Addr → Heap → (Int → Heap → Prop) → Prop) (f43_ : Option Addr → Int → Heap → (Int → Heap → Prop) → Prop) (f44_ : Option Addr → Int → Heap → (Int → Heap → Prop) → Prop) (f45_ : Option Addr → Int → Heap → (Sl → Heap → Prop) → Prop) (f46_ : Option Addr → Int → Heap → (Sl → Heap → Prop) → Prop) (f47_ : Option Addr → Int → Heap → (Sl → Heap → Prop) → Prop) (f48_ : Option Addr → Heap → (Int → Heap → Prop) → Prop) (r1 : Option Addr) (e2 : Option Addr) (o3 : Int) (o4 : Int) (o5 : Int) (o6 : Int) (o7 : Sl) (h : Heap) (K : Value → Heap → Prop) : F_law1_reads_of f12_ f15_ f16_ f17_ f18_ f19_ f20_ f28_ f29_ f35_ f39_ f40_ f41_ f42_ f43_ f44_ f45_ f46_ f47_ f48_ r1 e2 o3 o4 o5 o6 o7 h (fun (r0 : Bool) (h : Heap) => K (.bool r0) h) =
    den Tryd.prog (fn1 12 (E_code_Reader_Left_of f12_) (fn1 15 (E_code_Reader_At_of f15_) (fn1 16 (E_law1_num_of f16_) (fn1 17 (E_code_Reader_Fault_of f17_) (fn1 18 (E_code_Reader_End_of f18_) (fn1 19 (E_ref1_Eye_End_of f19_) (fn1 20 (E_code_Reader_U64_of f20_) (fn1 28 (E_ref0_Eq_of f28_) (fn1 29 (E_code_Reader_Raw_of f29_) (fn1 35 (E_code_Reader_U8_of f35_) (fn1 39 (E_ref1_Eye_U8_of f39_) (fn1 40 (E_code_Reader_U32_of f40_) (fn1 41 (E_ref1_Eye_U32_of f41_) (fn1 42 (E_ref1_Eye_U64_of f42_) (fn1 43 (E_code_Reader_Var_of f43_) (fn1 44 (E_ref1_Eye_Var_of f44_) (fn1 45 (E_code_Reader_Bytes_of f45_) (fn1 46 (E_ref1_Eye_Text_of f46_) (fn1 47 (E_ref1_Eye_Raw_of f47_) (fn1 48 (E_ref1_Eye_Left_of f48_) noFns)))))))))))))))))))) Tryd.f14.ntmps plan14 (bodyOf Tryd.f14) (args0 0 [(.pointer r1 : Value), (.pointer e2 : Value), (.agg #[.int .i64 o3, .int .i64 o4, .int .i64 o5, .int .u64 o6, .slice o7.ptr o7.len o7.cap] : Value)]) h ⟨fun env h => dRes Tryd.prog Tryd.f14.results.toList env h K, fun _ _ _ => False, fun env h => dRes Tryd.prog Tryd.f14.results.toList env h K⟩ := by kernel_rfl
def E_law1_reads_of (f : Option Addr → Option Addr → Int → Int → Int → Int → Sl → Heap → (Bool → Heap → Prop) → Prop) : List Value → Heap → (Value → Heap → Prop) → Prop
  | [v0, v1, v2], h, K => dec1 .ptr v0 fun (r1 : Option Addr) =>
  dec1 .ptr v1 fun (e2 : Option Addr) =>
  vAgg v2 fun cs2 => decs [.int .i64, .int .i64, .int .i64, .int .u64, .sl] cs2.toList fun (o3 : Int) (o4 : Int) (o5 : Int) (o6 : Int) (o7 : Sl) =>
  f r1 e2 o3 o4 o5 o6 o7 h (fun (r0 : Bool) (h : Heap) => K (.bool r0) h)
  | _, _, _ => False
abbrev E_law1_reads := E_law1_reads_of F_law1_reads
theorem E_law1_reads.right : IsRight Tryd.prog 14 E_law1_reads := by
  refine isRight fun vs K w hh => ?_
  match vs, hh with
  | [v0, v1, v2], hh =>
    unfold E_law1_reads E_law1_reads_of at hh
    replace hh := dec1_sound hh; obtain ⟨r1, rfl, hh⟩ := hh
    replace hh := dec1_sound hh; obtain ⟨e2, rfl, hh⟩ := hh
    replace hh := vAgg_sound hh; obtain ⟨cs2, rfl, hh⟩ := hh
    replace hh := decs_cons hh; obtain ⟨o3, l2_0, e2_0, hh⟩ := hh
    replace hh := decs_cons hh; obtain ⟨o4, l2_1, e2_1, hh⟩ := hh
    replace hh := decs_cons hh; obtain ⟨o5, l2_2, e2_2, hh⟩ := hh
    replace hh := decs_cons hh; obtain ⟨o6, l2_3, e2_3, hh⟩ := hh
    replace hh := decs_cons hh; obtain ⟨o7, l2_4, e2_4, hh⟩ := hh
    replace hh := decs_nil hh; obtain ⟨rfl, hh⟩ := hh
    subst e2_4
    subst e2_3
    subst e2_2
    subst e2_1
    have ec2 := toArray_eq e2_0
    subst ec2
    unfold F_law1_reads at hh
    exact calls_den (fn1_right ok12 E_code_Reader_Left.right (fn1_right ok15 E_code_Reader_At.right (fn1_right ok16 E_law1_num.right (fn1_right ok17 E_code_Reader_Fault.right (fn1_right ok18 E_code_Reader_End.right (fn1_right ok19 E_ref1_Eye_End.right (fn1_right ok20 E_code_Reader_U64.right (fn1_right ok28 E_ref0_Eq.right (fn1_right ok29 E_code_Reader_Raw.right (fn1_right ok35 E_code_Reader_U8.right (fn1_right ok39 E_ref1_Eye_U8.right (fn1_right ok40 E_code_Reader_U32.right (fn1_right ok41 E_ref1_Eye_U32.right (fn1_right ok42 E_ref1_Eye_U64.right (fn1_right ok43 E_code_Reader_Var.right (fn1_right ok44 E_ref1_Eye_Var.right (fn1_right ok45 E_code_Reader_Bytes.right (fn1_right ok46 E_ref1_Eye_Text.right (fn1_right ok47 E_ref1_Eye_Raw.right (fn1_right ok48 E_ref1_Eye_Left.right noFns_right)))))))))))))))))))) plan14 _ w K Tryd.func14 (by kernel_rfl) (by kernel_rfl) (Eq.mp (F_law1_reads.eq F_code_Reader_Left F_code_Reader_At F_law1_num F_code_Reader_Fault F_code_Reader_End F_ref1_Eye_End F_code_Reader_U64 F_ref0_Eq F_code_Reader_Raw F_code_Reader_U8 F_ref1_Eye_U8 F_code_Reader_U32 F_ref1_Eye_U32 F_ref1_Eye_U64 F_code_Reader_Var F_ref1_Eye_Var F_code_Reader_Bytes F_ref1_Eye_Text F_ref1_Eye_Raw F_ref1_Eye_Left r1 e2 o3 o4 o5 o6 o7 w.heap K) hh)
theorem ok14 : okFn Tryd.prog 14 = true := by kernel_rfl
end Go.Proofs.YtompmkmbppcadaaDoor.V
/- The document's Reader (Eye), beside the program's. -/
namespace Go.Proofs.YtompmkmbppcadaaDoor.V
open Go Go.RowKit
set_option linter.unusedVariables false
set_option linter.unusedSimpArgs false
def eyC (s : Sl) (r : RS) : List Value := [.slice s.ptr s.len s.cap, .int .i64 (r.at_ : Int), .int .i64 (erN r.met)]
theorem erN_zero (m : Nat) : erN m = 0 ↔ m = 0 := by
  match m with
  | 0 => simp [erN]
  | 1 => simp [erN]
  | 2 => simp [erN]
  | 3 => simp [erN]
  | m + 4 => simp [erN]
theorem wrapu64m (n : Nat) : IntKind.u64.wrap (n : Int) = ((n % 18446744073709551616 : Nat) : Int) := by
  unfold IntKind.wrap
  simp [IntKind.bits, IntKind.signed]
theorem RS.nextB_le {r : RS} (n : Nat) : (r.nextB n).length ≤ r.b.length := by
  unfold RS.nextB
  split
  · simp
  · split
    · simp
    · rw [List.length_take, List.length_drop]; omega
theorem RS.next_p {r : RS} {n : Nat} (hm : r.met = 0) (hg : n > r.left) : r.next n = { r with met := 1 } ∧ r.nextB n = [] := by
  unfold RS.next RS.nextB
  rw [if_neg (by omega), if_pos hg, if_neg (by omega), if_pos hg]
  exact ⟨rfl, rfl⟩
theorem RS.next_q {r : RS} {n : Nat} (hm : r.met = 0) (hg : ¬ n > r.left) : r.next n = { r with at_ := r.at_ + n } ∧ r.nextB n = (r.b.drop r.at_).take n := by
  unfold RS.next RS.nextB
  rw [if_neg (by omega), if_neg hg, if_neg (by omega), if_neg hg]
  exact ⟨rfl, rfl⟩
/-- What an Eye reads stays as it is, whatever else is done. -/
def Eyes (h0 : Heap) (L : List Res) (s : Sl) (b : List UInt8) : Prop := Stays h0 L fun h => Bytes h s b ∧ s.len ≤ s.cap
section
variable {h0 h : Heap} {L : List Res} {p : Nat} {r : RS} {s : Sl}
theorem F_ref1_Eye_Left.is {Q : Int → Heap → Prop} (o : r.Ok) (hs : s.len = r.b.length) (O : Sat h0 h (own p (eyC s r) :: L)) (k : Q (r.left : Nat) h) : F_ref1_Eye_Left (some (pt p 0)) h Q := by
  rw [F_ref1_Eye_Left.eq_1, F_ref1_Eye_Left_of.eq_1]
  simp only [nn_some, pt_add, Nat.zero_add, Nat.add_zero, Nat.reduceAdd, Nat.reduceMul, Int.toNat_zero, Int.toNat_one, Nat.zero_mul, Nat.one_mul]
  unfold eyC at O
  refine O.ld 0 rfl (ldL_c (ldL_n ?_))
  refine O.ld 0 rfl (ldL_c (ldL_n ?_))
  rw [hs]
  have h1 := o.le; have h2 := o.len
  rw [wrap64 (by omega) (by omega)]
  unfold RS.left at k
  rw [show ((r.b.length : Int) - (r.at_ : Int)) = ((r.b.length - r.at_ : Nat) : Int) by omega]
  exact k
theorem F_ref1_Eye_Raw.is {n : Int} {Q : Sl → Heap → Prop} (o : r.Ok) (E : Eyes h0 L s r.b) (hn : n ≤ (9223372036854775807 : Int)) (O : Sat h0 h (own p (eyC s r) :: L)) (k : ∀ t h', Sat h0 h' (buf 1 u8 t (r.rawP n).2 :: own p (eyC s (r.rawP n).1) :: L) → Q t h') : F_ref1_Eye_Raw (some (pt p 0)) n h Q := by
  rw [F_ref1_Eye_Raw.eq_1, F_ref1_Eye_Raw_of.eq_1]
  simp only [nn_some, pt_add, Nat.zero_add, Nat.add_zero, Nat.reduceAdd, Nat.reduceMul, Int.toNat_zero, Int.toNat_one, Nat.zero_mul, Nat.one_mul]
  have hs := (E h O.drop).1.len
  have fin : ∀ {t : Sl} {h : Heap} {r' : RS} {xs : List UInt8}, Sat h0 h (buf 1 u8 t xs :: own p (eyC s r') :: L) → r.rawP n = (r', xs) → Q t h := by
    intro t h r' xs O e
    rw [e] at k
    exact k t h O
  have O1 := O
  unfold eyC at O
  refine O.ld 0 rfl (ldL_c (ldL_n ?_))
  refine brr_ne (fun hm => ?_) (fun hm => ?_)
  · have hm : r.met ≠ 0 := fun e => hm ((erN_zero _).2 e)
    refine fin O1.nil_buf ?_
    unfold RS.rawP RS.next RS.nextB
    rw [if_pos hm, if_pos hm, if_neg hm]
    split <;> rfl
  have hm : r.met = 0 := (erN_zero _).1 hm
  refine brr_p (fun hneg => ?_) (fun hneg => ?_)
  · refine O.st 0 rfl (by simp) rfl fun h O => ?_
    dsimp only [V.put, List.set] at O
    refine fin (r' := { r with met := 4 }) O.nil_buf ?_
    unfold RS.rawP
    rw [if_pos hneg, if_pos hm]
  obtain ⟨n, rfl⟩ := Int.eq_ofNat_of_zero_le (by omega : 0 ≤ n)
  have e : r.rawP (n : Int) = (r.next n, r.nextB n) := by unfold RS.rawP; rw [if_neg hneg]; rfl
  refine F_ref1_Eye_Left.is o hs O1 ?_
  refine brr_p (fun hg => ?_) (fun hg => ?_)
  · rw [(RS.next_p hm (by omega)).1, (RS.next_p hm (by omega)).2] at e
    refine O.st 0 rfl (by simp) rfl fun h O => ?_
    dsimp only [V.put, List.set] at O
    exact fin (r' := { r with met := 1 }) O.nil_buf e
  have hg : ¬ n > r.left := by omega
  rw [(RS.next_q hm hg).1, (RS.next_q hm hg).2] at e
  unfold RS.left at hg
  have h1 := o.le; have h2 := o.len
  have hc := (E h O1.drop).2
  refine O.ld 0 rfl (ldL_c (k := .sl) (x := s) (ldL_n ?_))
  refine O.ld 0 rfl (ldL_c (ldL_n ?_))
  refine O.ld 0 rfl (ldL_c (ldL_n ?_))
  rw [wrap64 (by omega) (by omega)]
  refine ⟨by omega, by omega, by omega, ?_⟩
  have V2 := (E h O1.drop).1.slice r.at_ (r.at_ + n) (s.cap - r.at_) (by omega) (by omega) hc
  rw [show r.at_ + n - r.at_ = n by omega] at V2
  rw [show ((r.at_ : Int) + n).toNat - (r.at_ : Int).toNat = n by omega, show (r.at_ : Int).toNat = r.at_ by omega]
  refine F_ref0_Copy.is O V2 (by rw [List.length_take, List.length_drop]; omega) fun t h O _ _ => ?_
  refine O.ld 1 rfl (ldL_c (ldL_n ?_))
  have O := O.swap
  refine O.st 0 rfl (by simp) rfl fun h O => ?_
  dsimp only [V.put, List.set] at O
  rw [wrap64 (by omega) (by omega)] at O
  refine fin (r' := { r with at_ := r.at_ + n }) ?_ e
  unfold eyC
  rw [show (((r.at_ + n : Nat)) : Int) = (r.at_ : Int) + n by omega]
  exact O.swap
theorem F_ref1_Eye_fixed.is {n : Nat} {Q : Int → Heap → Prop} (o : r.Ok) (E : Eyes h0 L s r.b) (hn : n ≤ 8) (O : Sat h0 h (own p (eyC s r) :: L)) (k : ∀ h', Sat h0 h' (own p (eyC s (r.next n)) :: L) → Q ((beN (r.nextB n) : Nat) : Int) h') : F_ref1_Eye_fixed (some (pt p 0)) n h Q := by
  rw [F_ref1_Eye_fixed.eq_1, F_ref1_Eye_fixed_of.eq_1]
  refine F_ref1_Eye_Raw.is (n := n) o E (by omega) O fun t h O => ?_
  have e : r.rawP (n : Int) = (r.next n, r.nextB n) := by unfold RS.rawP; rw [if_neg (by omega)]; rfl
  rw [e] at O
  dsimp only at O
  have hlen := nextB_len r n
  generalize r.nextB n = ys at *
  have V1 := (O.view 0 u8_len (by simp) rfl).1
  refine jn1 (fun (x : Int) h' => x = ((beN ys : Nat) : Int) ∧ h' = h) ?_ ?_
  · rintro x h ⟨rfl, rfl⟩
    exact k _ O.drop
  · intro j hj
    rw [F_ref1_Eye_fixed.l1.eq_1]
    refine wl2 (k := .int .u64) (l := .int .i64) (fun (m : Nat) (x i : Int) (h' : Heap) => 0 ≤ i ∧ i + m = ys.length ∧ h' = h ∧ x = ((beN (ys.take i.toNat) : Nat) : Int)) ?_ (m := ys.length) ⟨by omega, by omega, rfl, rfl⟩
    rintro m (x : Int) (i : Int) h next hn2 ⟨hi0, him, rfl, rfl⟩
    rw [V1.len]
    refine brr_p (fun hlt => ?_) (fun hlt => ?_)
    · refine Bytes.at V1 hi0 hlt fun c hc => ?_
      have hb := beN_lt (ys.take i.toNat)
      rw [List.length_take, Nat.min_eq_left (by omega)] at hb
      have h256 : 256 ^ i.toNat ≤ 256 ^ 7 := Nat.pow_le_pow_right (by decide) (by omega)
      have hb2 : beN (ys.take i.toNat) < 72057594037927936 := Nat.lt_of_lt_of_le hb h256
      have hcl := c.toNat_lt
      rw [wrapu64 (x := ((beN (ys.take i.toNat) : Nat) : Int) * 256) (by omega) (by omega), wrapu64 (x := (c.toNat : Int)) (by omega) (by omega), wrapu64 (by omega) (by omega), wrap64 (by omega) (by omega)]
      refine hn2 (m - 1) _ _ _ (by omega) ⟨by omega, by omega, rfl, ?_⟩
      rw [show (i + 1).toNat = i.toNat + 1 by omega, take_succ_eq hc, beN_snoc]
      omega
    · refine hj _ _ ⟨?_, rfl⟩
      rw [List.take_of_length_le (by omega)]
theorem F_ref1_Eye_U8.is {Q : Int → Heap → Prop} (o : r.Ok) (E : Eyes h0 L s r.b) (O : Sat h0 h (own p (eyC s r) :: L)) (k : ∀ h', Sat h0 h' (own p (eyC s (r.next 1)) :: L) → Q ((beN (r.nextB 1) : Nat) : Int) h') : F_ref1_Eye_U8 (some (pt p 0)) h Q := by
  rw [F_ref1_Eye_U8.eq_1, F_ref1_Eye_U8_of.eq_1]
  refine F_ref1_Eye_fixed.is (n := 1) o E (by decide) O fun h O => ?_
  have hb := beN_lt (r.nextB 1)
  have hl := nextB_len r 1
  have h256 : 256 ^ (r.nextB 1).length ≤ 256 ^ 1 := Nat.pow_le_pow_right (by decide) hl
  rw [wrap8_ofNat]
  have : (UInt8.ofNat (beN (r.nextB 1))).toNat = beN (r.nextB 1) := by simp; omega
  rw [this]
  exact k h O
theorem F_ref1_Eye_U32.is {Q : Int → Heap → Prop} (o : r.Ok) (E : Eyes h0 L s r.b) (O : Sat h0 h (own p (eyC s r) :: L)) (k : ∀ h', Sat h0 h' (own p (eyC s (r.next 4)) :: L) → Q ((beN (r.nextB 4) : Nat) : Int) h') : F_ref1_Eye_U32 (some (pt p 0)) h Q := by
  rw [F_ref1_Eye_U32.eq_1, F_ref1_Eye_U32_of.eq_1]
  refine F_ref1_Eye_fixed.is (n := 4) o E (by decide) O fun h O => ?_
  have hb := beN_lt (r.nextB 4)
  have hl := nextB_len r 4
  have h256 : 256 ^ (r.nextB 4).length ≤ 256 ^ 4 := Nat.pow_le_pow_right (by decide) hl
  rw [wrapu32 (by omega) (by omega)]
  exact k h O
theorem F_ref1_Eye_U64.is {Q : Int → Heap → Prop} (o : r.Ok) (E : Eyes h0 L s r.b) (O : Sat h0 h (own p (eyC s r) :: L)) (k : ∀ h', Sat h0 h' (own p (eyC s (r.next 8)) :: L) → Q ((beN (r.nextB 8) : Nat) : Int) h') : F_ref1_Eye_U64 (some (pt p 0)) h Q := by
  rw [F_ref1_Eye_U64.eq_1, F_ref1_Eye_U64_of.eq_1]
  exact F_ref1_Eye_fixed.is (n := 8) o E (by decide) O k
theorem F_ref1_Eye_End.is {Q : Int → Heap → Prop} (o : r.Ok) (hs : s.len = r.b.length) (O : Sat h0 h (own p (eyC s r) :: L)) (k : Q r.endN h) : F_ref1_Eye_End (some (pt p 0)) h Q := by
  rw [F_ref1_Eye_End.eq_1, F_ref1_Eye_End_of.eq_1]
  simp only [nn_some, pt_add, Nat.zero_add, Nat.add_zero, Nat.reduceAdd, Nat.reduceMul, Int.toNat_zero, Int.toNat_one, Nat.zero_mul, Nat.one_mul]
  unfold RS.endN at k
  refine jn1 (fun (b : Bool) h' => b = decide (r.met = 0 ∧ r.left > 0) ∧ h' = h) ?_ ?_
  · rintro (b : Bool) h ⟨rfl, rfl⟩
    refine brr_p (fun hp => ?_) (fun hp => ?_)
    · rw [if_pos hp] at k; exact k
    · rw [if_neg hp] at k
      unfold eyC at O
      refine O.ld 0 rfl (ldL_c (ldL_n ?_))
      exact k
  · intro j hj
    have O1 := O
    unfold eyC at O1
    refine O1.ld 0 rfl (ldL_c (ldL_n ?_))
    refine brr_eq (fun hm => ?_) (fun hm => ?_)
    · refine F_ref1_Eye_Left.is o hs O ?_
      refine hj _ _ ⟨?_, rfl⟩
      have : r.met = 0 := (erN_zero _).1 hm
      simp [this]
    · refine hj _ _ ⟨?_, rfl⟩
      have : r.met ≠ 0 := fun e => hm ((erN_zero _).2 e)
      simp [this]
theorem look_at {b : List UInt8} {a i : Nat} (hi : i < 10) : ((b.drop a).take 10)[i]? = b[a + i]? := by
  rw [List.getElem?_take, if_pos hi, List.getElem?_drop]
theorem F_ref1_Eye_last.is {Q : Int → Heap → Prop} (o : r.Ok) (E : Eyes h0 L s r.b) (O : Sat h0 h (own p (eyC s r) :: L)) (k1 : vlast r.look = none → Q (-1) h) (k2 : ∀ k, vlast r.look = some k → Q ((r.at_ + k : Nat) : Int) h) : F_ref1_Eye_last (some (pt p 0)) h Q := by
  rw [F_ref1_Eye_last.eq_1, F_ref1_Eye_last_of.eq_1]
  have h1 := o.le; have h2 := o.len
  have hs := (E h O.drop).1.len
  have hlen := r.look_len
  have hleft : r.left = r.b.length - r.at_ := rfl
  unfold eyC at O
  refine jn0 (fun h' => h' = h ∧ vlast r.look = none) (fun h' ⟨e1, e2⟩ => e1 ▸ k1 e2) fun j hj => ?_
  rw [F_ref1_Eye_last.l1.eq_1]
  simp only [nn_some, pt_add, Nat.zero_add, Nat.add_zero, Nat.reduceAdd, Nat.reduceMul, Int.toNat_zero, Int.toNat_one, Nat.zero_mul, Nat.one_mul]
  refine wl1 (k := .int .i64) (fun (m : Nat) (i : Int) (h' : Heap) => 0 ≤ i ∧ i + m = r.look.length ∧ h' = h ∧ vlast r.look = (vlast (r.look.drop i.toNat)).map (· + i.toNat)) ?_ (m := r.look.length) ⟨by omega, by omega, rfl, by simp⟩
  rintro m (i : Int) h next hn ⟨hi0, him, rfl, hv⟩
  obtain ⟨i, rfl⟩ := Int.eq_ofNat_of_zero_le hi0
  simp only [Int.toNat_natCast] at *
  refine jn1 (fun (b : Bool) h' => b = decide (i < r.look.length) ∧ h' = h) ?_ ?_
  case refine_2 =>
    intro j2 hj2
    refine brr_p (fun h10 => ?_) (fun h10 => ?_)
    · refine O.ld 0 rfl (ldL_c (ldL_n ?_))
      refine O.ld 0 rfl (ldL_c (ldL_n ?_))
      refine hj2 _ _ ⟨?_, rfl⟩
      rw [wrap64 (by omega) (by omega)]
      apply decide_eq_decide.2
      show (r.at_ : Int) + i < ((s.len : Nat) : Int) ↔ _
      have : (i : Int) < 10 := h10
      omega
    · refine hj2 _ _ ⟨?_, rfl⟩
      have : ¬ (i : Int) < 10 := h10
      rw [decide_eq_false]
      omega
  rintro (b : Bool) h ⟨rfl, rfl⟩
  refine brr_p (fun hlt => ?_) (fun hlt => ?_)
  · refine O.ld 0 rfl (ldL_c (k := .sl) (x := s) (ldL_n ?_))
    refine O.ld 0 rfl (ldL_c (ldL_n ?_))
    rw [wrap64 (by omega) (by omega)]
    have hc : r.look[i]? = r.b[r.at_ + i]? := look_at (by omega)
    refine Bytes.at (E h O.drop).1 (by omega) (by omega) fun c hx => ?_
    rw [show ((r.at_ : Int) + i).toNat = r.at_ + i by omega, ← hc] at hx
    have hst := vlast_step hx
    generalize hcn : (c.toNat : Int) = cn
    refine brr_p (fun h128 => ?_) (fun h128 => ?_)
    · refine O.ld 0 rfl (ldL_c (ldL_n ?_))
      rw [if_pos (by omega)] at hst
      rw [wrap64 (by omega) (by omega), show ((r.at_ : Int) + i) = ((r.at_ + i : Nat) : Int) by omega]
      refine k2 i ?_
      rw [hv, hst]; simp
    · rw [if_neg (by omega)] at hst
      rw [wrap64 (by omega) (by omega)]
      refine hn (m - 1) _ _ (by omega) ⟨by omega, by omega, rfl, ?_⟩
      rw [hv, hst, show ((i : Int) + 1).toNat = i + 1 by omega]
      cases vlast (r.look.drop (i + 1)) with
      | none => rfl
      | some y => simp; omega
  · refine hj _ ⟨rfl, ?_⟩
    rw [vlast_end (by omega)] at hv
    exact hv
theorem F_ref1_Eye_Var.is {most : Nat} {Q : Int → Heap → Prop} (o : r.Ok) (E : Eyes h0 L s r.b) (O : Sat h0 h (own p (eyC s r) :: L)) (k : ∀ h', Sat h0 h' (own p (eyC s (r.varP most).1) :: L) → Q (((r.varP most).2 : Nat) : Int) h') : F_ref1_Eye_Var (some (pt p 0)) most h Q := by
  rw [F_ref1_Eye_Var.eq_1, F_ref1_Eye_Var_of.eq_1]
  simp only [nn_some, pt_add, Nat.zero_add, Nat.add_zero, Nat.reduceAdd, Nat.reduceMul, Int.toNat_zero, Int.toNat_one, Nat.zero_mul, Nat.one_mul]
  have h1 := o.le; have h2 := o.len
  have hs := (E h O.drop).1.len
  have hcap := (E h O.drop).2
  have hlen := r.look_len
  have hleft : r.left = r.b.length - r.at_ := rfl
  have O1 := O
  unfold eyC at O
  refine O.ld 0 rfl (ldL_c (ldL_n ?_))
  refine brr_ne (fun hm => ?_) (fun hm => ?_)
  · have hm : r.met ≠ 0 := fun e => hm ((erN_zero _).2 e)
    have e : r.varP most = (r, 0) := by unfold RS.varP; rw [if_pos hm]
    rw [e] at k
    exact k h O1
  have hm : r.met = 0 := (erN_zero _).1 hm
  refine F_ref1_Eye_last.is o E O1 (fun hv => ?_) (fun kk hv => ?_)
  · rw [RS.varP_none hm hv] at k
    refine brr_tt (by simp) ?_
    refine O.st 0 rfl (by simp) rfl fun h O => ?_
    dsimp only [V.put, List.set] at O
    refine F_ref1_Eye_Left.is (r := { r with met := 2 }) ⟨o.le, o.len, by show 2 ≤ 4; decide⟩ hs O ?_
    refine jn0 (fun h' => Sat h0 h' (own p (eyC s { r with met := if r.look.length < 10 then 1 else 2 }) :: L)) (fun h O => k h O) fun j hj => ?_
    have el : RS.left { r with met := 2 } = r.left := rfl
    rw [el]
    refine brr_p (fun hlt => ?_) (fun hlt => ?_)
    · rw [if_pos (by omega)] at hj
      refine O.st 0 rfl (by simp) rfl fun h O => ?_
      dsimp only [V.put, List.set] at O
      exact hj _ O
    · rw [if_neg (by omega)] at hj
      exact hj _ O
  obtain ⟨c0, hc0, hc1, _⟩ := vlast_some hv
  have hkl := (List.getElem?_eq_some_iff.1 hc0).1
  have vS := RS.varP_some (most := most) hm hv
  have hform := form_iff hv (by omega)
  have htk : (r.look.take (kk + 1)).length = kk + 1 := by rw [List.length_take]; omega
  refine brr_ff (decide_eq_false (by omega)) ?_
  refine jn1 (fun (x : Int) h' => x = ((vnum (r.look.take (kk + 1)) % 18446744073709551616 : Nat) : Int) ∧ h' = h) ?_ ?_
  case refine_2 =>
    intro j hj
    rw [F_ref1_Eye_Var.l1.eq_1]
    simp only [nn_some, pt_add, Nat.zero_add, Nat.add_zero, Nat.reduceAdd, Nat.reduceMul, Int.toNat_zero, Int.toNat_one, Nat.zero_mul, Nat.one_mul]
    refine wl2 (k := .int .u64) (l := .int .i64) (fun (m : Nat) (x i : Int) (h' : Heap) => i + 1 = r.at_ + m ∧ m ≤ kk + 1 ∧ h' = h ∧ x = ((vnum ((r.look.take (kk + 1)).drop m) % 18446744073709551616 : Nat) : Int)) ?_ (m := kk + 1) ⟨by omega, by omega, rfl, by rw [List.drop_eq_nil_of_le (by omega)]; rfl⟩
    rintro m (x : Int) (i : Int) h next hn ⟨him, hmk, rfl, rfl⟩
    refine O.ld 0 rfl (ldL_c (ldL_n ?_))
    refine brr_p (fun hge => ?_) (fun hge => ?_)
    · have hge : i ≥ (r.at_ : Int) := hge
      refine O.ld 0 rfl (ldL_c (k := .sl) (x := s) (ldL_n ?_))
      refine Bytes.at (E h O1.drop).1 (by omega) (by omega) fun c hx => ?_
      have hx2 : (r.look.take (kk + 1))[m - 1]? = some c := by
        rw [List.getElem?_take, if_pos (by omega), show r.look[m - 1]? = r.b[r.at_ + (m - 1)]? from look_at (by omega), show r.at_ + (m - 1) = i.toNat by omega]
        exact hx
      have hd : (r.look.take (kk + 1)).drop (m - 1) = c :: (r.look.take (kk + 1)).drop m := by
        obtain ⟨hl, e⟩ := List.getElem?_eq_some_iff.1 hx2
        rw [List.drop_eq_getElem_cons hl, e, show m - 1 + 1 = m by omega]
      refine ⟨by decide, ?_⟩
      have e3 : ((c.toNat : Int)).tmod 128 = ((c.toNat % 128 : Nat) : Int) := by rw [Int.tmod_eq_emod_of_nonneg (by omega)]; omega
      have e4 : ∀ v : Nat, ((v % 18446744073709551616 : Nat) : Int) * 128 = ((v % 18446744073709551616 * 128 : Nat) : Int) := fun v => by omega
      rw [e3, e4, wrapu64m, wrapu64m, ← Int.natCast_add, wrapu64m, wrap64 (by omega) (by omega)]
      refine hn (m - 1) _ _ _ (by omega) ⟨by omega, by omega, rfl, ?_⟩
      rw [hd]
      show _ = ((((c.toNat % 128 + 128 * vnum ((r.look.take (kk + 1)).drop m)) % 18446744073709551616 : Nat)) : Int)
      omega
    · refine hj _ _ ⟨?_, rfl⟩
      have : m = 0 := by
        have hge : ¬ i ≥ (r.at_ : Int) := hge
        omega
      subst this
      rfl
  rintro (x : Int) h ⟨rfl, rfl⟩
  refine O.ld 0 rfl (ldL_c (k := .sl) (x := s) (ldL_n ?_))
  refine O.ld 0 rfl (ldL_c (ldL_n ?_))
  rw [wrap64 (by omega) (by omega)]
  refine ⟨by omega, by omega, by omega, ?_⟩
  refine F_ref1_Var.is O (Nat.mod_lt _ (by decide)) fun t h O => ?_
  refine ⟨O.cells 1 rfl 0 1, O.cells 1 rfl 1 1, ?_⟩
  have V2 := (E h O.drop.drop).1.slice r.at_ (r.at_ + (kk + 1)) (s.cap - r.at_) (by omega) (by omega) hcap
  rw [show r.at_ + (kk + 1) - r.at_ = kk + 1 by omega] at V2
  have e5 : (r.b.drop r.at_).take (kk + 1) = r.look.take (kk + 1) := by
    show _ = ((r.b.drop r.at_).take 10).take (kk + 1)
    rw [List.take_take, Nat.min_eq_left (by omega)]
  rw [e5] at V2
  rw [show (((r.at_ + kk : Nat) : Int) + 1).toNat - (r.at_ : Int).toNat = kk + 1 by omega, show (r.at_ : Int).toNat = r.at_ by omega]
  have hvb := (varB_le (n := vnum (r.look.take (kk + 1)) % 18446744073709551616) (Nat.mod_lt _ (by decide))).1
  refine F_ref0_Eq.is (O.view 0 u8_len (by simp) rfl).1 V2 (by omega) (by omega) ?_
  rw [hform, Bool.not_not]
  have O := O.drop
  refine brr_of (fun hb => ?_) (fun hb => ?_)
  · rw [if_pos hb] at vS
    refine O.st 0 rfl (by simp) rfl fun h O => ?_
    dsimp only [V.put, List.set] at O
    rw [vS] at k
    exact k h O
  have e6 : vnum (r.look.take (kk + 1)) % 18446744073709551616 = vnum (r.look.take (kk + 1)) := by
    rw [hb] at hform
    have := of_decide_eq_true hform
    have e7 := vnum_varB (vnum (r.look.take (kk + 1)) % 18446744073709551616)
    rw [this] at e7
    exact e7.symm
  rw [hb] at vS
  simp only [Bool.false_eq_true, if_false] at vS
  rw [e6]
  refine brr_p (fun hg => ?_) (fun hg => ?_)
  · rw [if_pos (by omega)] at vS
    refine O.st 0 rfl (by simp) rfl fun h O => ?_
    dsimp only [V.put, List.set] at O
    rw [vS] at k
    exact k h O
  · rw [if_neg (by omega)] at vS
    refine O.st 0 rfl (by simp) rfl fun h O => ?_
    dsimp only [V.put, List.set] at O
    rw [vS] at k
    refine k h ?_
    unfold eyC
    rw [show ((r.at_ + (kk + 1) : Nat) : Int) = ((r.at_ + kk : Nat) : Int) + 1 by omega]
    exact O
end
end Go.Proofs.YtompmkmbppcadaaDoor.V
/- One call of a Reader, beside the document's. -/
namespace Go.Proofs.YtompmkmbppcadaaDoor.V
open Go Go.RowKit
set_option linter.unusedVariables false
set_option linter.unusedSimpArgs false
theorem Eyes.drop {h0 : Heap} {L : List Res} {s : Sl} {b : List UInt8} {A : Res} (E : Eyes h0 L s b) : Eyes h0 (A :: L) s b := fun h O => E h O.drop
def RS.stepP (r : RS) (op : COp) : RS :=
  if op.kind = 1 then r.next 1 else if op.kind = 2 then r.next 4 else if op.kind = 3 then r.next 8 else if op.kind = 4 then (r.varP op.n).1
  else if op.kind = 5 then (r.bytesP op.m).1 else if op.kind = 6 then (r.rawP op.m).1 else r
theorem RS.Ok.stepP {r : RS} (o : r.Ok) (op : COp) : (r.stepP op).Ok := by
  unfold RS.stepP
  split
  · exact o.next _
  split
  · exact o.next _
  split
  · exact o.next _
  split
  · exact o.varP _
  split
  · exact o.bytesP _
  split
  · exact o.rawP _
  · exact o
theorem RS.next_b {r : RS} {n : Nat} : (r.next n).b = r.b := by
  unfold RS.next
  split
  · rfl
  · split <;> rfl
theorem RS.bytesP_b {r : RS} {n : Int} : (r.bytesP n).1.b = r.b := by
  unfold RS.bytesP
  split
  · exact RS.varP_b
  · show (RS.next _ _).b = _
    rw [RS.next_b, RS.varP_b]
theorem RS.rawP_b {r : RS} {n : Int} : (r.rawP n).1.b = r.b := by
  unfold RS.rawP
  split
  · show (if _ then _ else _ : RS).b = _
    split <;> rfl
  · exact RS.next_b
theorem RS.stepP_b {r : RS} {op : COp} : (r.stepP op).b = r.b := by
  unfold RS.stepP
  split
  · exact RS.next_b
  split
  · exact RS.next_b
  split
  · exact RS.next_b
  split
  · exact RS.varP_b
  split
  · exact RS.bytesP_b
  split
  · exact RS.rawP_b
  · rfl
theorem RS.bytesP_le {r : RS} {n : Int} : (r.bytesP n).2.length ≤ r.b.length := by
  unfold RS.bytesP
  split
  · simp
  · have := RS.nextB_le (r := (r.varP (max 0 n).toNat).1) (r.varP (max 0 n).toNat).2
    rw [RS.varP_b] at this
    exact this
theorem RS.rawP_le {r : RS} {n : Int} : (r.rawP n).2.length ≤ r.b.length := by
  unfold RS.rawP
  split
  · simp
  · exact RS.nextB_le _
section
variable {h0 h : Heap} {L : List Res} {p q : Nat} {r : RS} {s : Sl}
theorem F_ref1_Eye_Text.is {most : Int} {Q : Sl → Heap → Prop} (o : r.Ok) (E : Eyes h0 L s r.b) (hmo : most ≤ (9223372036854775807 : Int)) (O : Sat h0 h (own p (eyC s r) :: L)) (k : ∀ t h', Sat h0 h' (buf 1 u8 t (r.bytesP most).2 :: own p (eyC s (r.bytesP most).1) :: L) → Q t h') : F_ref1_Eye_Text (some (pt p 0)) most h Q := by
  rw [F_ref1_Eye_Text.eq_1, F_ref1_Eye_Text_of.eq_1]
  simp only [nn_some, pt_add, Nat.zero_add, Nat.add_zero, Nat.reduceAdd, Nat.reduceMul, Int.toNat_zero, Int.toNat_one, Nat.zero_mul, Nat.one_mul]
  have e : r.bytesP most = _ := RS.bytesP.eq_1 r most
  refine jn1 (fun (x : Int) h' => x = (((max 0 most).toNat : Nat) : Int) ∧ h' = h) ?_ ?_
  case refine_2 =>
    intro j hj
    refine brr_p (fun hlt => ?_) (fun hlt => ?_)
    · exact hj _ _ ⟨by omega, rfl⟩
    · exact hj _ _ ⟨by omega, rfl⟩
  rintro (x : Int) h ⟨rfl, rfl⟩
  have hmx : (max 0 most).toNat ≤ 9223372036854775807 := by omega
  generalize (max 0 most).toNat = mo at *
  have O1 := O
  unfold eyC at O1
  refine O1.ld 0 rfl (ldL_c (ldL_n ?_))
  rw [wrapu64 (by omega) (by omega)]
  refine F_ref1_Eye_Var.is o E O fun h O => ?_
  have o1 := o.varP mo
  have hn := RS.varP_le (r := r) (most := mo)
  have hb := RS.varP_b (r := r) (most := mo)
  have hmet := RS.varP_met (r := r) (most := mo)
  generalize (r.varP mo).2 = n at *
  generalize (r.varP mo).1 = r1 at *
  have E1 : Eyes h0 L s r1.b := by rw [hb]; exact E
  rw [wrap64 (by omega) (by omega)]
  refine F_ref1_Eye_Raw.is (n := n) o1 E1 (by omega) O fun t h O => ?_
  have er : r1.rawP (n : Int) = (r1.next n, r1.nextB n) := by unfold RS.rawP; rw [if_neg (by omega)]; rfl
  rw [er] at O
  dsimp only at O
  have O2 := O
  unfold eyC at O2
  refine O2.ld 1 rfl (ldL_c (ldL_n ?_))
  refine brr_ne (fun hm => ?_) (fun hm => ?_)
  · have hm : (r1.next n).met ≠ 0 := fun e => hm ((erN_zero _).2 e)
    have O := O2.drop
    refine O.st 0 rfl (by simp) rfl fun h O => ?_
    dsimp only [V.put, List.set] at O
    have eb : r.bytesP most = ({ r1.next n with at_ := r.at_ }, []) := by
      rw [e]
      by_cases h1 : r1.met = 0
      · by_cases h2 : n > r1.left
        · rw [if_pos ⟨h1, h2⟩, (RS.next_p h1 h2).1]
        · rw [(RS.next_q h1 h2).1] at hm
          exact absurd h1 hm
      · rw [if_neg (fun x => h1 x.1)]
        unfold RS.next RS.nextB
        rw [if_pos h1, if_pos h1, ← (hmet h1).2]
    rw [eb] at k
    exact k _ _ (O.nil_buf (sz := 1) (enc := u8))
  · have hm : (r1.next n).met = 0 := (erN_zero _).1 hm
    have eb : r.bytesP most = (r1.next n, r1.nextB n) := by
      rw [e]
      by_cases h1 : r1.met = 0
      · by_cases h2 : n > r1.left
        · rw [(RS.next_p h1 h2).1] at hm
          cases hm
        · rw [if_neg (fun x => h2 x.2)]
      · rw [if_neg (fun x => h1 x.1)]
    rw [eb] at k
    exact k _ _ O
theorem F_law1_reads.is {op : COp} {Q : Bool → Heap → Prop} (o : r.Ok) (E : Eyes h0 L s r.b) (Ee : Er h0) (hn : op.n < 18446744073709551616) (hM : op.m ≤ (9223372036854775807 : Int)) (O : Sat h0 h (rdR p r :: own q (eyC s r) :: L)) (k : ∀ h', Sat h0 h' (rdR p (r.stepP op) :: own q (eyC s (r.stepP op)) :: L) → Q true h') : F_law1_reads (some (pt p 0)) (some (pt q 0)) op.kind op.which op.m op.n op.s h Q := by
  rw [F_law1_reads.eq_1, F_law1_reads_of.eq_1]
  have hs : s.len = r.b.length := (E h O.drop.drop).1.len
  have hbl := o.len
  refine O.al fun a h O => ?_
  simp only [nn_some, pt_add, Nat.zero_add, Nat.add_zero, Nat.reduceAdd, Nat.reduceMul, Int.toNat_zero, Int.toNat_one, Nat.zero_mul, Nat.one_mul]
  refine O.ld 0 rfl (ldL_c (ldL_n ?_))
  unfold RS.stepP at k
  replace O := O.sel [1, 2, 0] 3 rfl (Nat.le_add_left _ _)
  simp only [selT, List.map, nth, List.drop, List.cons_append, List.nil_append] at O
  refine brr_eq (fun hk => ?_) (fun hk => ?_)
  · rw [if_pos hk] at k
    refine F_code_Reader_U8.is o O fun h O => ?_
    refine F_ref1_Eye_U8.is o E.drop.drop O.swap fun h O => ?_
    replace O := O.sel [1, 0] 3 rfl (Nat.le_add_left _ _)
    simp only [selT, List.map, nth, List.drop, List.cons_append, List.nil_append] at O
    refine Eq.mpr (congrArg (Q · h) (by simp)) (k h O)
  rw [if_neg hk] at k
  refine brr_eq (fun hk => ?_) (fun hk => ?_)
  · rw [if_pos hk] at k
    refine F_code_Reader_U32.is o O fun h O => ?_
    refine F_ref1_Eye_U32.is o E.drop.drop O.swap fun h O => ?_
    replace O := O.sel [1, 0] 3 rfl (Nat.le_add_left _ _)
    simp only [selT, List.map, nth, List.drop, List.cons_append, List.nil_append] at O
    refine Eq.mpr (congrArg (Q · h) (by simp)) (k h O)
  rw [if_neg hk] at k
  refine brr_eq (fun hk => ?_) (fun hk => ?_)
  · rw [if_pos hk] at k
    refine F_code_Reader_U64.is o O fun h O => ?_
    refine F_ref1_Eye_U64.is o E.drop.drop O.swap fun h O => ?_
    replace O := O.sel [1, 0] 3 rfl (Nat.le_add_left _ _)
    simp only [selT, List.map, nth, List.drop, List.cons_append, List.nil_append] at O
    refine Eq.mpr (congrArg (Q · h) (by simp)) (k h O)
  rw [if_neg hk] at k
  refine brr_eq (fun hk => ?_) (fun hk => ?_)
  · rw [if_pos hk] at k
    refine O.ld 2 rfl (ldL_c (ldL_n ?_))
    refine O.ld 2 rfl (ldL_c (ldL_n ?_))
    refine F_code_Reader_Var.is o O fun h O => ?_
    refine ⟨O.cells 2 rfl 3 1, ?_⟩
    refine F_ref1_Eye_Var.is o E.drop.drop O.swap fun h O => ?_
    replace O := O.sel [1, 0] 3 rfl (Nat.le_add_left _ _)
    simp only [selT, List.map, nth, List.drop, List.cons_append, List.nil_append] at O
    refine Eq.mpr (congrArg (Q · h) (by simp)) (k h O)
  rw [if_neg hk] at k
  refine brr_eq (fun hk => ?_) (fun hk => ?_)
  · rw [if_pos hk] at k
    refine O.ld 2 rfl (ldL_c (ldL_n ?_))
    refine O.ld 2 rfl (ldL_c (ldL_n ?_))
    refine F_code_Reader_Bytes.is o hM O fun t h O => ?_
    refine ⟨O.cells 3 rfl 2 1, ?_⟩
    replace O := O.sel [2, 0, 1, 3] 4 rfl (Nat.le_add_left _ _)
    simp only [selT, List.map, nth, List.drop, List.cons_append, List.nil_append] at O
    refine F_ref1_Eye_Text.is o E.drop.drop.drop hM O fun t2 h O => ?_
    have hl := RS.bytesP_le (r := r) (n := op.m)
    refine F_ref0_Eq.is (O.view 2 u8_len (by simp) rfl).1 (O.view 0 u8_len (by simp) rfl).1 (by omega) (by omega) ?_
    replace O := O.sel [3, 1] 5 rfl (Nat.le_add_left _ _)
    simp only [selT, List.map, nth, List.drop, List.cons_append, List.nil_append] at O
    refine Eq.mpr (congrArg (Q · h) (by simp)) (k h O)
  rw [if_neg hk] at k
  refine brr_eq (fun hk => ?_) (fun hk => ?_)
  · rw [if_pos hk] at k
    refine O.ld 2 rfl (ldL_c (ldL_n ?_))
    refine O.ld 2 rfl (ldL_c (ldL_n ?_))
    refine F_code_Reader_Raw.is o hM O fun t h O => ?_
    refine ⟨O.cells 3 rfl 2 1, ?_⟩
    replace O := O.sel [2, 0, 1, 3] 4 rfl (Nat.le_add_left _ _)
    simp only [selT, List.map, nth, List.drop, List.cons_append, List.nil_append] at O
    refine F_ref1_Eye_Raw.is o E.drop.drop.drop hM O fun t2 h O => ?_
    have hl := RS.rawP_le (r := r) (n := op.m)
    refine F_ref0_Eq.is (O.view 2 u8_len (by simp) rfl).1 (O.view 0 u8_len (by simp) rfl).1 (by omega) (by omega) ?_
    replace O := O.sel [3, 1] 5 rfl (Nat.le_add_left _ _)
    simp only [selT, List.map, nth, List.drop, List.cons_append, List.nil_append] at O
    refine Eq.mpr (congrArg (Q · h) (by simp)) (k h O)
  rw [if_neg hk] at k
  have fin : ∀ {b : Bool}, b = true → Q b h := by
    intro b e
    subst e
    replace O := O.sel [0, 1] 3 rfl (Nat.le_add_left _ _)
    simp only [selT, List.map, nth, List.drop, List.cons_append, List.nil_append] at O
    exact k h O
  refine brr_eq (fun _ => ?_) (fun _ => ?_)
  · refine F_code_Reader_Left.is o O ?_
    refine F_ref1_Eye_Left.is o hs O.swap ?_
    exact fin (by simp)
  refine brr_eq (fun _ => ?_) (fun _ => ?_)
  · have O2 := O
    unfold eyC at O2
    refine O2.ld 1 rfl (ldL_c (ldL_n ?_))
    refine F_code_Reader_At.is O ?_
    exact ⟨O2.cells 1 rfl 1 1, fin (by simp)⟩
  refine brr_eq (fun _ => ?_) (fun _ => ?_)
  · have O2 := O
    unfold eyC at O2
    refine O2.ld 1 rfl (ldL_c (ldL_n ?_))
    refine F_code_Reader_Fault.is (Ee.sat O) o O ?_
    refine ⟨O2.cells 1 rfl 2 1, ?_⟩
    rw [F_law1_num.eq_1, F_law1_num_of.eq_1]
    exact ⟨O2.cells 1 rfl 2 1, fin (by simp)⟩
  refine brr_eq (fun _ => ?_) (fun _ => ?_)
  · refine F_code_Reader_End.is (Ee.sat O) o O ?_
    rw [F_law1_num.eq_1, F_law1_num_of.eq_1]
    refine F_ref1_Eye_End.is o hs O.swap ?_
    exact fin (by simp)
  · exact fin rfl
end
end Go.Proofs.YtompmkmbppcadaaDoor.V
namespace Go.Proofs.YtompmkmbppcadaaDoor.V
open Go Go.RowKit
set_option linter.unusedVariables false
set_option maxRecDepth 100000
/-! tally/tallylaw1.read -/
def F_law1_read.l1 (f14_ : Option Addr → Option Addr → Int → Int → Int → Int → Sl → Heap → (Bool → Heap → Prop) → Prop) (ops3 : Sl) (Q : Bool → Heap → Prop) (r4 : Option Addr) (a8 : Addr) (j10 : Heap → Prop) : Int → Heap → Prop :=
  wl [(9, .one (.int .i64))] (fun (next11 : Int → Heap → Prop) (i12 : Int) (h13 : Heap) =>
  jn [(25, .one .bool)] (fun (x15 : Bool) (h16 : Heap) =>
  brr x15
  (ixS 5 ops3 i12 fun (a17 : Addr) =>
  ld [.int .i64, .int .i64, .int .i64, .int .u64, .sl] a17 h16 fun (v18 : Int) (v19 : Int) (v20 : Int) (v21 : Int) (v22 : Sl) =>
  f14_ r4 (some a8) v18 v19 v20 v21 v22 h16 fun (r23 : Bool) (h24 : Heap) =>
  brr (!r23)
  (Q false h24)
  (next11 (IntKind.i64.wrap (i12 + 1)) h24))
  (j10 h16)) (fun (j14 : Bool → Heap → Prop) =>
  brr (decide (i12 < ((ops3.len : Nat) : Int)))
  (j14 (decide (i12 < 400)) h13)
  (j14 false h13)))
def F_law1_read_of (f9_ : Sl → Heap → (Option Addr → Heap → Prop) → Prop) (f10_ : Sl → Heap → (Sl → Heap → Prop) → Prop) (f12_ : Option Addr → Heap → (Int → Heap → Prop) → Prop) (f14_ : Option Addr → Option Addr → Int → Int → Int → Int → Sl → Heap → (Bool → Heap → Prop) → Prop) (f15_ : Option Addr → Heap → (Int → Heap → Prop) → Prop) (f16_ : Int → Heap → (Int → Heap → Prop) → Prop) (f18_ : Option Addr → Heap → (Int → Heap → Prop) → Prop) (f19_ : Option Addr → Heap → (Int → Heap → Prop) → Prop) (in_1 : Sl) (b2 : Sl) (ops3 : Sl) (h : Heap) (Q : Bool → Heap → Prop) : Prop :=
  f9_ in_1 h fun (r4 : Option Addr) (h5 : Heap) =>
  f10_ b2 h5 fun (r6 : Sl) (h7 : Heap) =>
  al 34 [.slice r6.ptr r6.len r6.cap, .int .i64 0, .int .i64 0] h7 fun (a8 : Addr) (h9 : Heap) =>
  brr r4.isNone
  (Q false h9)
  (jn [] (fun  (h25 : Heap) =>
  jn [(6, .one .bool)] (fun (x41 : Bool) (h42 : Heap) =>
  Q x41 h42) (fun (j26 : Bool → Heap → Prop) =>
  nn (some a8) fun (a27 : Addr) =>
  ld [.int .i64] (a27.add 1) h25 fun (v28 : Int) =>
  f15_ r4 h25 fun (r29 : Int) (h30 : Heap) =>
  cellsAre h30 (a27.add 1) [.int .i64 v28] ∧
  brr (r29 == v28)
  (nn (some a8) fun (a31 : Addr) =>
  ld [.int .i64] (a31.add 1) h30 fun (v32 : Int) =>
  f12_ r4 h30 fun (r33 : Int) (h34 : Heap) =>
  cellsAre h34 (a31.add 1) [.int .i64 v32] ∧
  brr (r33 == (IntKind.i64.wrap (((b2.len : Nat) : Int) - v32)))
  (f18_ r4 h34 fun (r35 : Int) (h36 : Heap) =>
  f16_ r35 h36 fun (r37 : Int) (h38 : Heap) =>
  f19_ (some a8) h38 fun (r39 : Int) (h40 : Heap) =>
  j26 (r37 == r39) h40)
  (j26 false h34))
  (j26 false h30))) (fun (j10 : Heap → Prop) =>
  F_law1_read.l1 f14_ ops3 Q r4 a8 j10 0 h9))
def F_law1_read (in_1 : Sl) (b2 : Sl) (ops3 : Sl) (h : Heap) (Q : Bool → Heap → Prop) : Prop := F_law1_read_of F_code_Read F_ref0_Copy F_code_Reader_Left F_law1_reads F_code_Reader_At F_law1_num F_code_Reader_End F_ref1_Eye_End in_1 b2 ops3 h Q
def plan24 : Plan := .s (.r [0, 1, 2]) (.s (.r [1, 2, 7]) (.s (.r [1, 2, 7, 8]) (.s (.s (.r [1, 2, 7, 8, 17]) (.c (.s (.r [6]) .z) .z)) (.s (.s (.r [1, 2, 7, 8, 9]) (.bj [] [1, 7, 8] (.l [(9, .one (.int .i64))] [1, 2, 7, 8] (.s (.s (.rj [(25, .one .bool)] [1, 2, 7, 8, 9]) (.c .z .z)) (.s (.b (.s (.r [1, 2, 7, 8, 9, 35]) (.c (.s (.r [6]) .z) .z))) (.r [1, 2, 7, 8, 9])))))) (.s (.dj [0, 1, 0, 4, 12, 28, 63, 127, 255, 511, 255, 1279, 255, 4351, 12543, 28927, 64767, 131071, 262143, 524287, 1048575, 2097151, 4194303, 1048575, 16777215, 33554431, 67108863, 134217727] [[0, 2, 3, 4, 5, 1, 6, 7, 8, 10, 11, 12, 13, 14, 15, 16, 9, 17, 18, 19, 20, 23, 21, 22, 24, 25, 26, 27]] [(6, .one .bool)] []) .z)))))
theorem F_law1_read.eq (f9_ : Sl → Heap → (Option Addr → Heap → Prop) → Prop) (f10_ : Sl → Heap → (Sl → Heap → Prop) → Prop) (f12_ : Option Addr → Heap → (Int → Heap → Prop) → Prop) (f14_ : Option Addr → Option Addr → Int → Int → Int → Int → Sl → Heap → (Bool → Heap → Prop) → Prop) (f15_ : Option Addr → Heap → (Int → Heap → Prop) → Prop) (f16_ : Int → Heap → (Int → Heap → Prop) → Prop) (f18_ : Option Addr → Heap → (Int → Heap → Prop) → Prop) (f19_ : Option Addr → Heap → (Int → Heap → Prop) → Prop) (in_1 : Sl) (b2 : Sl) (ops3 : Sl) (h : Heap) (K : Value → Heap → Prop) : F_law1_read_of f9_ f10_ f12_ f14_ f15_ f16_ f18_ f19_ in_1 b2 ops3 h (fun (r0 : Bool) (h : Heap) => K (.bool r0) h) =
    den Tryd.prog (fn1 9 (E_code_Read_of f9_) (fn1 10 (E_ref0_Copy_of f10_) (fn1 12 (E_code_Reader_Left_of f12_) (fn1 14 (E_law1_reads_of f14_) (fn1 15 (E_code_Reader_At_of f15_) (fn1 16 (E_law1_num_of f16_) (fn1 18 (E_code_Reader_End_of f18_) (fn1 19 (E_ref1_Eye_End_of f19_) noFns)))))))) Tryd.f24.ntmps plan24 (bodyOf Tryd.f24) (args0 0 [(.slice in_1.ptr in_1.len in_1.cap : Value), (.slice b2.ptr b2.len b2.cap : Value), (.slice ops3.ptr ops3.len ops3.cap : Value)]) h ⟨fun env h => dRes Tryd.prog Tryd.f24.results.toList env h K, fun _ _ _ => False, fun env h => dRes Tryd.prog Tryd.f24.results.toList env h K⟩ := by kernel_rfl
def E_law1_read_of (f : Sl → Sl → Sl → Heap → (Bool → Heap → Prop) → Prop) : List Value → Heap → (Value → Heap → Prop) → Prop
  | [v0, v1, v2], h, K => dec1 .sl v0 fun (in_1 : Sl) =>
  dec1 .sl v1 fun (b2 : Sl) =>
  dec1 .sl v2 fun (ops3 : Sl) =>
  f in_1 b2 ops3 h (fun (r0 : Bool) (h : Heap) => K (.bool r0) h)
  | _, _, _ => False
abbrev E_law1_read := E_law1_read_of F_law1_read
theorem E_law1_read.right : IsRight Tryd.prog 24 E_law1_read := by
  refine isRight fun vs K w hh => ?_
  match vs, hh with
  | [v0, v1, v2], hh =>
    unfold E_law1_read E_law1_read_of at hh
    replace hh := dec1_sound hh; obtain ⟨in_1, rfl, hh⟩ := hh
    replace hh := dec1_sound hh; obtain ⟨b2, rfl, hh⟩ := hh
    replace hh := dec1_sound hh; obtain ⟨ops3, rfl, hh⟩ := hh
    unfold F_law1_read at hh
    exact calls_den (fn1_right ok9 E_code_Read.right (fn1_right ok10 E_ref0_Copy.right (fn1_right ok12 E_code_Reader_Left.right (fn1_right ok14 E_law1_reads.right (fn1_right ok15 E_code_Reader_At.right (fn1_right ok16 E_law1_num.right (fn1_right ok18 E_code_Reader_End.right (fn1_right ok19 E_ref1_Eye_End.right noFns_right)))))))) plan24 _ w K Tryd.func24 (by kernel_rfl) (by kernel_rfl) (Eq.mp (F_law1_read.eq F_code_Read F_ref0_Copy F_code_Reader_Left F_law1_reads F_code_Reader_At F_law1_num F_code_Reader_End F_ref1_Eye_End in_1 b2 ops3 w.heap K) hh)
theorem ok24 : okFn Tryd.prog 24 = true := by kernel_rfl
end Go.Proofs.YtompmkmbppcadaaDoor.V
namespace Go.Proofs.YtompmkmbppcadaaDoor.V
open Go Go.RowKit
set_option linter.unusedVariables false
set_option maxRecDepth 100000
/-! tally/tallylaw1.CodePlace -/
def F_law1_CodePlace_of (f8_ : Sl → Heap → (Sl → Heap → Prop) → Prop) (f9_ : Sl → Heap → (Option Addr → Heap → Prop) → Prop) (f22_ : Sl → Heap → (Sl → Heap → Prop) → Prop) (f23_ : Heap → (Option Addr → Heap → Prop) → Prop) (f24_ : Sl → Sl → Sl → Heap → (Bool → Heap → Prop) → Prop) (f25_ : Option Addr → Sl → Heap → (Heap → Prop) → Prop) (f26_ : Sl → Sl → Heap → (Heap → Prop) → Prop) (f27_ : Option Addr → Sl → Heap → (Heap → Prop) → Prop) (f28_ : Sl → Sl → Heap → (Bool → Heap → Prop) → Prop) (f29_ : Option Addr → Int → Heap → (Sl → Heap → Prop) → Prop) (f30_ : Option Addr → Heap → (Sl → Heap → Prop) → Prop) (f31_ : Sl → Heap → (Sl → Heap → Prop) → Prop) (script1 : Sl) (script2 : Sl) (script3 : Sl) (h : Heap) (Q : Bool → Heap → Prop) : Prop :=
  al 26 [.slice script1.ptr script1.len script1.cap, .slice script2.ptr script2.len script2.cap, .slice script3.ptr script3.len script3.cap] h fun (a4 : Addr) (h5 : Heap) =>
  ixA 1 (a4.add 0) 2 0 fun (a6 : Addr) =>
  ld [.sl] a6 h5 fun (v7 : Sl) =>
  f8_ v7 h5 fun (r8 : Sl) (h9 : Heap) =>
  ixA 1 (a4.add 0) 2 0 fun (a10 : Addr) =>
  ld [.sl] a10 h9 fun (v11 : Sl) =>
  f22_ v11 h9 fun (r12 : Sl) (h13 : Heap) =>
  f23_ h13 fun (r14 : Option Addr) (h15 : Heap) =>
  jn [(27, .one .bool)] (fun (x22 : Bool) (h23 : Heap) =>
  brr x22
  (Q false h23)
  (f25_ r14 r8 h23 fun  (h24 : Heap) =>
  f9_ r8 h24 fun (r25 : Option Addr) (h26 : Heap) =>
  f26_ r8 r12 h26 fun  (h27 : Heap) =>
  jn [(45, .one .bool)] (fun (x32 : Bool) (h33 : Heap) =>
  brr x32
  (Q false h33)
  (f27_ r14 r8 h33 fun  (h34 : Heap) =>
  ixA 1 (a4.add 0) 2 0 fun (a35 : Addr) =>
  ld [.sl] a35 h34 fun (v36 : Sl) =>
  f26_ r8 v36 h34 fun  (h37 : Heap) =>
  jn [(72, .one .bool)] (fun (x50 : Bool) (h51 : Heap) =>
  brr x50
  (Q false h51)
  (ixA 1 (a4.add 0) 2 0 fun (a52 : Addr) =>
  ld [.sl] a52 h51 fun (v53 : Sl) =>
  f30_ r14 h51 fun (r54 : Sl) (h55 : Heap) =>
  cellsAre h55 a52 [.slice v53.ptr v53.len v53.cap] ∧
  f31_ v53 h55 fun (r56 : Sl) (h57 : Heap) =>
  app 5 1 1 (.int .u8 0) r56 r12.ptr r12.len h57 fun (s58 : Sl) (h59 : Heap) =>
  f28_ r54 s58 h59 fun (r60 : Bool) (h61 : Heap) =>
  Q r60 h61)) (fun (j38 : Bool → Heap → Prop) =>
  ixA 1 (a4.add 0) 2 0 fun (a39 : Addr) =>
  ld [.sl] a39 h37 fun (v40 : Sl) =>
  ld [.sl] (a4.add 2) h37 fun (v41 : Sl) =>
  f24_ r8 v40 v41 h37 fun (r42 : Bool) (h43 : Heap) =>
  brr (!r42)
  (j38 true h43)
  (ixA 1 (a4.add 0) 2 0 fun (a44 : Addr) =>
  ld [.sl] a44 h43 fun (v45 : Sl) =>
  f29_ r25 ((r12.len : Nat) : Int) h43 fun (r46 : Sl) (h47 : Heap) =>
  cellsAre h47 a44 [.slice v45.ptr v45.len v45.cap] ∧
  f28_ r46 v45 h47 fun (r48 : Bool) (h49 : Heap) =>
  j38 (!r48) h49)))) (fun (j28 : Bool → Heap → Prop) =>
  brr r25.isNone
  (j28 true h27)
  (ld [.sl] (a4.add 2) h27 fun (v29 : Sl) =>
  f24_ r8 r12 v29 h27 fun (r30 : Bool) (h31 : Heap) =>
  j28 (!r30) h31)))) (fun (j16 : Bool → Heap → Prop) =>
  brr r14.isNone
  (j16 true h15)
  (ixA 1 (a4.add 0) 2 0 fun (a17 : Addr) =>
  ld [.sl] a17 h15 fun (v18 : Sl) =>
  ld [.sl] (a4.add 2) h15 fun (v19 : Sl) =>
  f24_ r8 v18 v19 h15 fun (r20 : Bool) (h21 : Heap) =>
  j16 (!r20) h21))
def F_law1_CodePlace (script1 : Sl) (script2 : Sl) (script3 : Sl) (h : Heap) (Q : Bool → Heap → Prop) : Prop := F_law1_CodePlace_of F_law1_Lend F_code_Read F_law1_Other F_code_New F_law1_read F_code_Writer_Bytes F_law1_Into F_code_Writer_Raw F_ref0_Eq F_code_Reader_Raw F_code_Writer_Out F_ref1_Text script1 script2 script3 h Q
def plan5 : Plan := .s (.r [1]) (.s (.r [1, 3]) (.s (.r [1, 3, 4]) (.s (.r [1, 3, 4, 5]) (.s (.s (.rj [(27, .one .bool)] [1, 3, 4, 5]) (.c (.s (.r [2]) .z) .z)) (.s (.r [1, 3, 4, 5]) (.s (.r [1, 3, 4, 5, 6]) (.s (.r [1, 3, 4, 5, 6]) (.s (.s (.rj [(45, .one .bool)] [1, 3, 4, 5, 6]) (.c (.s (.r [2]) .z) .z)) (.s (.r [1, 3, 4, 5, 6]) (.s (.r [1, 3, 4, 5, 6]) (.s (.s (.dj [0, 0, 2, 6, 0, 16, 63, 127, 255, 511, 511, 1535, 4095, 511, 8703, 25087, 65535, 131071, 262143] [[0, 1, 2, 3, 4, 5, 6, 7, 8, 9, 10, 11, 13, 14, 15, 12, 16, 17, 18]] [(72, .one .bool)] [1, 4, 5]) (.c (.s (.r [2]) .z) .z)) (.s (.d [0, 1, 0, 4, 12, 31, 0, 127, 255, 511] [[0, 2, 3, 4, 6, 1, 5, 7, 8, 9]] [2]) .z))))))))))))
theorem F_law1_CodePlace.eq (f8_ : Sl → Heap → (Sl → Heap → Prop) → Prop) (f9_ : Sl → Heap → (Option Addr → Heap → Prop) → Prop) (f22_ : Sl → Heap → (Sl → Heap → Prop) → Prop) (f23_ : Heap → (Option Addr → Heap → Prop) → Prop) (f24_ : Sl → Sl → Sl → Heap → (Bool → Heap → Prop) → Prop) (f25_ : Option Addr → Sl → Heap → (Heap → Prop) → Prop) (f26_ : Sl → Sl → Heap → (Heap → Prop) → Prop) (f27_ : Option Addr → Sl → Heap → (Heap → Prop) → Prop) (f28_ : Sl → Sl → Heap → (Bool → Heap → Prop) → Prop) (f29_ : Option Addr → Int → Heap → (Sl → Heap → Prop) → Prop) (f30_ : Option Addr → Heap → (Sl → Heap → Prop) → Prop) (f31_ : Sl → Heap → (Sl → Heap → Prop) → Prop) (script1 : Sl) (script2 : Sl) (script3 : Sl) (h : Heap) (K : Value → Heap → Prop) : F_law1_CodePlace_of f8_ f9_ f22_ f23_ f24_ f25_ f26_ f27_ f28_ f29_ f30_ f31_ script1 script2 script3 h (fun (r0 : Bool) (h : Heap) => K (.bool r0) h) =
    den Tryd.prog (fn1 8 (E_law1_Lend_of f8_) (fn1 9 (E_code_Read_of f9_) (fn1 22 (E_law1_Other_of f22_) (fn1 23 (E_code_New_of f23_) (fn1 24 (E_law1_read_of f24_) (fn1 25 (E_code_Writer_Bytes_of f25_) (fn1 26 (E_law1_Into_of f26_) (fn1 27 (E_code_Writer_Raw_of f27_) (fn1 28 (E_ref0_Eq_of f28_) (fn1 29 (E_code_Reader_Raw_of f29_) (fn1 30 (E_code_Writer_Out_of f30_) (fn1 31 (E_ref1_Text_of f31_) noFns)))))))))))) Tryd.f5.ntmps plan5 (bodyOf Tryd.f5) (args0 0 [(.agg #[.slice script1.ptr script1.len script1.cap, .slice script2.ptr script2.len script2.cap, .slice script3.ptr script3.len script3.cap] : Value)]) h ⟨fun env h => dRes Tryd.prog Tryd.f5.results.toList env h K, fun _ _ _ => False, fun env h => dRes Tryd.prog Tryd.f5.results.toList env h K⟩ := by kernel_rfl
def E_law1_CodePlace_of (f : Sl → Sl → Sl → Heap → (Bool → Heap → Prop) → Prop) : List Value → Heap → (Value → Heap → Prop) → Prop
  | [v0], h, K => vAgg v0 fun cs0 => decs [.sl, .sl, .sl] cs0.toList fun (script1 : Sl) (script2 : Sl) (script3 : Sl) =>
  f script1 script2 script3 h (fun (r0 : Bool) (h : Heap) => K (.bool r0) h)
  | _, _, _ => False
abbrev E_law1_CodePlace := E_law1_CodePlace_of F_law1_CodePlace
theorem E_law1_CodePlace.at (f : Sl → Sl → Sl → Heap → (Bool → Heap → Prop) → Prop) (script1 : Sl) (script2 : Sl) (script3 : Sl) (h : Heap) (K : Value → Heap → Prop) : E_law1_CodePlace_of f [.agg ([.slice script1.ptr script1.len script1.cap, .slice script2.ptr script2.len script2.cap, .slice script3.ptr script3.len script3.cap] : List Value).toArray] h K = f script1 script2 script3 h (fun (r0 : Bool) (h : Heap) => K (.bool r0) h) := rfl
theorem E_law1_CodePlace.right : IsRight Tryd.prog 5 E_law1_CodePlace := by
  refine isRight fun vs K w hh => ?_
  match vs, hh with
  | [v0], hh =>
    unfold E_law1_CodePlace E_law1_CodePlace_of at hh
    replace hh := vAgg_sound hh; obtain ⟨cs0, rfl, hh⟩ := hh
    replace hh := decs_cons hh; obtain ⟨script1, l0_0, e0_0, hh⟩ := hh
    replace hh := decs_cons hh; obtain ⟨script2, l0_1, e0_1, hh⟩ := hh
    replace hh := decs_cons hh; obtain ⟨script3, l0_2, e0_2, hh⟩ := hh
    replace hh := decs_nil hh; obtain ⟨rfl, hh⟩ := hh
    subst e0_2
    subst e0_1
    have ec0 := toArray_eq e0_0
    subst ec0
    unfold F_law1_CodePlace at hh
    exact calls_den (fn1_right ok8 E_law1_Lend.right (fn1_right ok9 E_code_Read.right (fn1_right ok22 E_law1_Other.right (fn1_right ok23 E_code_New.right (fn1_right ok24 E_law1_read.right (fn1_right ok25 E_code_Writer_Bytes.right (fn1_right ok26 E_law1_Into.right (fn1_right ok27 E_code_Writer_Raw.right (fn1_right ok28 E_ref0_Eq.right (fn1_right ok29 E_code_Reader_Raw.right (fn1_right ok30 E_code_Writer_Out.right (fn1_right ok31 E_ref1_Text.right noFns_right)))))))))))) plan5 _ w K Tryd.func5 (by kernel_rfl) (by kernel_rfl) (Eq.mp (F_law1_CodePlace.eq F_law1_Lend F_code_Read F_law1_Other F_code_New F_law1_read F_code_Writer_Bytes F_law1_Into F_code_Writer_Raw F_ref0_Eq F_code_Reader_Raw F_code_Writer_Out F_ref1_Text script1 script2 script3 w.heap K) hh)
theorem ok5 : okFn Tryd.prog 5 = true := by kernel_rfl
end Go.Proofs.YtompmkmbppcadaaDoor.V
/- What is handed in is not kept: what CodePlace plays. -/
namespace Go.Proofs.YtompmkmbppcadaaDoor.V
open Go Go.RowKit
set_option linter.unusedVariables false
set_option linter.unusedSimpArgs false
theorem Eyes.ofbuf' {h0 : Heap} {L : List Res} {s : Sl} {b : List UInt8} : Eyes h0 (buf 1 u8 s b :: L) s b := fun h O => O.view 0 u8_len (by simp) rfl
theorem F_law1_read.is {h0 h : Heap} {L : List Res} {N : Nat} {a b so : Sl} {xs : List UInt8} {ops : List COp} {Q : Bool → Heap → Prop} (Ee : Er h0) (hxs : xs.length ≤ 140737488351232) (hol : ops.length ≤ 140737488355328) (V1 : Bytes h a xs) (V2 : Stays h0 L fun h => Bytes h b xs) (Vo : View h0 5 (copR h0 N) so ops) (O : Sat h0 h L) (k : ∀ h', Sat h0 h' L → Q true h') : F_law1_read a b so h Q := by
  rw [F_law1_read.eq_1, F_law1_read_of.eq_1]
  refine F_code_Read.is O V1 (by omega) fun p h O => ?_
  refine F_ref0_Copy.is O (V2 h O.drop) (by omega) fun s h O _ _ => ?_
  refine O.al fun q h O => ?_
  refine brr_ff rfl ?_
  replace O := O.sel [2, 0, 1] 3 rfl (Nat.le_add_left _ _)
  simp only [selT, List.map, nth, List.drop, List.cons_append, List.nil_append] at O
  have o0 : RS.Ok ⟨xs, 0, 0⟩ := ⟨by show 0 ≤ xs.length; omega, by show xs.length ≤ _; omega, by show 0 ≤ 4; decide⟩
  have hbl : b.len = xs.length := (V2 h O.drop.drop.drop).len
  refine jn0 (fun h' => ∃ r : RS, r.Ok ∧ r.b = xs ∧ Sat h0 h' (rdR p r :: own q (eyC s r) :: buf 1 u8 s xs :: L)) ?_ ?_
  · clear O
    rintro h ⟨r, o, rfl, O⟩
    refine jn1 (fun t h' => t = true ∧ Sat h0 h' L) (fun t h ⟨e, O⟩ => e ▸ k h O) fun j hj => ?_
    have O2 := O
    unfold eyC at O2
    simp only [nn_some, pt_add, Nat.zero_add, Nat.add_zero, Nat.reduceAdd, Nat.reduceMul, Int.toNat_zero, Int.toNat_one, Nat.zero_mul, Nat.one_mul]
    refine O2.ld 1 rfl (ldL_c (ldL_n ?_))
    refine F_code_Reader_At.is O ?_
    refine ⟨O2.cells 1 rfl 1 1, ?_⟩
    refine brr_eq (fun _ => ?_) (fun e => absurd rfl e)
    refine O2.ld 1 rfl (ldL_c (ldL_n ?_))
    refine F_code_Reader_Left.is o O ?_
    refine ⟨O2.cells 1 rfl 1 1, ?_⟩
    have h1 := o.le; have h2 := o.len
    have hl : r.left = r.b.length - r.at_ := rfl
    rw [hbl, wrap64 (by omega) (by omega)]
    refine brr_eq (fun _ => ?_) (fun e => absurd (by omega) e)
    refine F_code_Reader_End.is (Ee.sat O) o O ?_
    rw [F_law1_num.eq_1, F_law1_num_of.eq_1]
    refine F_ref1_Eye_End.is o (O.view 2 u8_len (by simp) rfl).1.len O.swap ?_
    exact hj _ _ ⟨by simp, O.drop.drop.drop⟩
  · intro j10 hj10
    rw [F_law1_read.l1.eq_1]
    refine wl1 (k := .int .i64) (fun (m : Nat) (i : Int) (h' : Heap) => i + m = ops.length ∧ 0 ≤ i ∧ i ≤ 400 ∧ ∃ r : RS, r.Ok ∧ r.b = xs ∧ Sat h0 h' (rdR p r :: own q (eyC s r) :: buf 1 u8 s xs :: L)) ?_ (m := ops.length) ⟨by omega, by omega, by omega, _, o0, rfl, O⟩
    clear O
    rintro m (i : Int) h2 next hn ⟨hi, hi0, hi4, r, o, rfl, O⟩
    refine jn1 (fun t h' => h' = h2 ∧ (t = decide (i < ops.length ∧ i < 400))) ?_ ?_
    case refine_2 =>
      intro j2 hj2
      rw [Vo.len]
      refine brr_p (fun hlt => ?_) (fun hlt => ?_)
      · exact hj2 _ _ ⟨rfl, by simp [hlt]⟩
      · exact hj2 _ _ ⟨rfl, by simp; intro h; omega⟩
    rintro t h2 ⟨rfl, rfl⟩
    refine brr_p (fun ht => ?_) (fun ht => hj10 _ ⟨r, o, rfl, O⟩)
    obtain ⟨hlt, hlt4⟩ := ht
    refine (Vo.kept O.kept).ix hi0 hlt fun a cs op hx hlen hR hc => ?_
    obtain ⟨rfl, r1, r2, r3, r4, r5, r6, r7, r8⟩ := hR
    refine ld_are hc (ldL_c (ldL_c (ldL_c (ldL_c (ldL_c (k := .sl) (x := op.s) (ldL_n ?_))))))
    refine F_law1_reads.is o Eyes.ofbuf' Ee r1 r8 O fun h O => ?_
    refine brr_ff rfl ?_
    rw [wrap64 (by omega) (by omega)]
    exact hn (m - 1) _ _ (by omega) ⟨by omega, by omega, by omega, _, o.stepP op, RS.stepP_b, O⟩
theorem codePlace_main (H : Heap) (cs : List Value) (F : Fit H 1048576 tyCScript cs) (E : Er H) : E_law1_CodePlace [.agg cs.toArray] H (fun r h' => r = .bool true ∧ KeptH H h') := by
  obtain ⟨_, _, rfl, _, ⟨_, _, rfl, _, ⟨t1, rfl, t1S⟩, _, _, rfl, _, ⟨t2, rfl, t2S⟩, rfl⟩, _, _, rfl, _, ⟨t3, rfl, t3S⟩, rfl⟩ := F
  simp only [List.cons_append, List.nil_append, List.append_nil]
  refine Eq.mpr (E_law1_CodePlace.at F_law1_CodePlace t1 t2 t3 H _) ?_
  obtain ⟨ops, Vo, hol⟩ := t3S.cops
  obtain ⟨hc1, xs, Vb, hb⟩ := t1S.bytesN
  have lda : ∀ {h : Heap} {L : List Res} {ba : Nat} {K : Addr → Sl → Prop}, Sat H h L → (∃ i, nth i L = own ba [.slice t1.ptr t1.len t1.cap, .slice t2.ptr t2.len t2.cap, .slice t3.ptr t3.len t3.cap]) → K (pt ba 0) t1 → ixA 1 (pt ba 0) 2 0 fun a => V.ld [.sl] a h (K a) := by
    intro h L ba K O ⟨i, hi⟩ k
    refine ⟨by decide, by decide, ?_⟩
    rw [show (0 : Int).toNat * 1 = 0 from rfl, pt_add]
    exact O.ld i hi (ldL_c (k := .sl) (x := t1) (ldL_n k))
  rw [F_law1_CodePlace.eq_1, F_law1_CodePlace_of.eq_1]
  refine Sat.al (Sat.nil H) fun ba h1 O => ?_
  simp only [nn_some, pt_add, Nat.zero_add, Nat.add_zero, Nat.reduceAdd, Nat.reduceMul, Int.toNat_zero, Int.toNat_one, Nat.zero_mul, Nat.one_mul]
  refine lda (K := fun _ v7 => _) O ⟨0, rfl⟩ ?_
  refine F_law1_Lend.is O (Vb.kept O.kept) (by omega) fun l h O hll => ?_
  refine lda (K := fun _ v7 => _) O ⟨1, rfl⟩ ?_
  refine F_law1_Other.is O (fun h O => Vb.kept O.kept) (by omega) fun ot ys h hys O => ?_
  refine F_code_New.is O fun w h O => ?_
  refine jn1 (fun t h' => t = false ∧ Sat H h' [wrR w [], buf 1 u8 ot ys, lent l xs, own ba [.slice t1.ptr t1.len t1.cap, .slice t2.ptr t2.len t2.cap, .slice t3.ptr t3.len t3.cap]]) ?_ ?_
  case refine_2 =>
    intro j hj
    refine brr_ff rfl ?_
    refine lda (K := fun _ v7 => _) O ⟨3, rfl⟩ ?_
    refine O.ld 3 rfl (ldL_c (ldL_n ?_))
    refine F_law1_read.is E (by omega) (by omega) (O.lent 2 (by simp) rfl).1 (fun h O => Vb.kept O.kept) Vo O fun h O => ?_
    exact hj _ _ ⟨rfl, O⟩
  clear O
  rintro t h ⟨rfl, O⟩
  refine brr_ff rfl ?_
  refine F_code_Writer_Bytes.is O (fun h O => (O.lent 1 (by simp) rfl).1) (by simp; omega) fun h O => ?_
  rw [List.nil_append] at O
  refine F_code_Read.is O (O.lent 2 (by simp) rfl).1 (by omega) fun p h O => ?_
  replace O := O.sel [3, 0, 1, 2, 4] 5 rfl (Nat.le_add_left _ _)
  simp only [selT, List.map, nth, List.drop, List.cons_append, List.nil_append] at O
  refine F_law1_Into.is O (fun h O => (O.view 2 u8_len (by simp) rfl).1) hys.symm (by omega) fun h O => ?_
  refine jn1 (fun t h' => t = false ∧ Sat H h' [lent l ys, rdR p ⟨xs, 0, 0⟩, wrR w (varB xs.length ++ xs), buf 1 u8 ot ys, own ba [.slice t1.ptr t1.len t1.cap, .slice t2.ptr t2.len t2.cap, .slice t3.ptr t3.len t3.cap]]) ?_ ?_
  case refine_2 =>
    intro j hj
    refine brr_ff rfl ?_
    refine O.ld 4 rfl (ldL_c (ldL_n ?_))
    refine F_law1_read.is E (by omega) (by omega) (O.lent 0 (by simp) rfl).1 (fun h O => (O.view 3 u8_len (by simp) rfl).1) Vo O fun h O => ?_
    exact hj _ _ ⟨rfl, O⟩
  clear O
  rintro t h ⟨rfl, O⟩
  refine brr_ff rfl ?_
  replace O := O.sel [2, 0, 1, 3, 4] 5 rfl (Nat.le_add_left _ _)
  simp only [selT, List.map, nth, List.drop, List.cons_append, List.nil_append] at O
  have hv := (varB_le (n := xs.length) (by omega)).1
  refine F_code_Writer_Raw.is O (O.lent 1 (by simp) rfl).1 (by rw [List.length_append]; omega) fun h O => ?_
  refine lda (K := fun _ v7 => _) O ⟨4, rfl⟩ ?_
  replace O := O.sel [1, 0, 2, 3, 4] 5 rfl (Nat.le_add_left _ _)
  simp only [selT, List.map, nth, List.drop, List.cons_append, List.nil_append] at O
  refine F_law1_Into.is O (fun h O => Vb.kept O.kept) hys (by omega) fun h O => ?_
  refine jn1 (fun t h' => t = false ∧ Sat H h' [wrR w (varB xs.length ++ xs ++ ys), buf 1 u8 ot ys, own ba [.slice t1.ptr t1.len t1.cap, .slice t2.ptr t2.len t2.cap, .slice t3.ptr t3.len t3.cap]]) ?_ ?_
  case refine_2 =>
    intro j hj
    refine lda (K := fun _ v7 => _) O ⟨4, rfl⟩ ?_
    refine O.ld 4 rfl (ldL_c (ldL_n ?_))
    refine F_law1_read.is E (by omega) (by omega) (O.lent 0 (by simp) rfl).1 (fun h O => Vb.kept O.kept) Vo O fun h O => ?_
    refine brr_ff rfl ?_
    refine lda (K := fun a v => F_code_Reader_Raw (some (pt p 0)) ((ot.len : Nat) : Int) h fun r46 h47 => cellsAre h47 a [.slice v.ptr v.len v.cap] ∧ F_ref0_Eq r46 v h47 fun r48 h49 => j (!r48) h49) O ⟨4, rfl⟩ ?_
    have hol2 := (O.view 3 u8_len (by simp) rfl).1.len
    rw [hol2, hys]
    replace O := O.sel [2, 0, 1, 3, 4] 5 rfl (Nat.le_add_left _ _)
    simp only [selT, List.map, nth, List.drop, List.cons_append, List.nil_append] at O
    have o0 : RS.Ok ⟨xs, 0, 0⟩ := ⟨by show 0 ≤ xs.length; omega, by show xs.length ≤ _; omega, by show 0 ≤ 4; decide⟩
    refine F_code_Reader_Raw.is o0 (by omega) O fun s h O => ?_
    have er : (RS.rawP ⟨xs, 0, 0⟩ (xs.length : Int)).2 = xs := by
      have e : RS.rawP ⟨xs, 0, 0⟩ (xs.length : Int) = (RS.next ⟨xs, 0, 0⟩ xs.length, RS.nextB ⟨xs, 0, 0⟩ xs.length) := by unfold RS.rawP; rw [if_neg (by omega)]; rfl
      rw [e]
      show RS.nextB ⟨xs, 0, 0⟩ xs.length = xs
      rw [(RS.next_q rfl (by show ¬ xs.length > xs.length - 0; omega)).2]
      show (xs.drop 0).take xs.length = xs
      simp
    rw [er] at O
    refine ⟨O.cells 5 rfl 0 1, ?_⟩
    refine F_ref0_Eq.is (O.view 0 u8_len (by simp) rfl).1 (Vb.kept O.kept) (by omega) (by omega) ?_
    refine hj _ _ ⟨by simp, ?_⟩
    replace O := O.sel [3, 4, 5] 6 rfl (Nat.le_add_left _ _)
    simp only [selT, List.map, nth, List.drop, List.cons_append, List.nil_append] at O
    exact O
  clear O
  rintro t h ⟨rfl, O⟩
  refine brr_ff rfl ?_
  refine lda (K := fun a v => F_code_Writer_Out (some (pt w 0)) h fun r54 h55 => cellsAre h55 a [.slice v.ptr v.len v.cap] ∧ F_ref1_Text v h55 fun r56 h57 => app 5 1 1 (.int .u8 0) r56 ot.ptr ot.len h57 fun s58 h59 => F_ref0_Eq r54 s58 h59 fun r60 h61 => Value.bool r60 = Value.bool true ∧ KeptH H h61) O ⟨2, rfl⟩ ?_
  refine F_code_Writer_Out.is O (by rw [List.length_append, List.length_append]; omega) fun s h O => ?_
  refine ⟨O.cells 3 rfl 0 1, ?_⟩
  refine F_ref1_Text.is O (fun h O => Vb.kept O.kept) (by omega) fun s2 h O => ?_
  have Vt := (O.view 3 u8_len (by simp) rfl).1
  refine O.app_buf u8_len u8_one rfl (ys := ys) Vt.len (Vt.len ▸ Vt.rd u8_len) (by rw [List.length_append]; omega) fun s3 h O _ => ?_
  refine F_ref0_Eq.is (O.view 1 u8_len (by simp) rfl).1 (O.view 0 u8_len (by simp) rfl).1 (by rw [List.length_append, List.length_append]; omega) (by rw [List.length_append, List.length_append]; omega) ?_
  exact ⟨by simp, O.kept⟩
end Go.Proofs.YtompmkmbppcadaaDoor.V
