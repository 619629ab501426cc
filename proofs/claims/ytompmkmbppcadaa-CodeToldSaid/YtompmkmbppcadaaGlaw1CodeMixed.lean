import Derived.Test.YtompmkmbppcadaaV10
import Derived.Test.YtompmkmbppcadaaProg
import Derived.Test.YtompmkmbppcadaaGcodeSum
namespace Go.Proofs.Ytompmkmbppcadaa.V
open Go Go.RowKit
set_option linter.unusedVariables false
set_option maxRecDepth 100000
/-! tally/tallylaw1.CodeMixed -/
def F_law1_CodeMixed.l1 (v17 : Sl) (v20 : Sl) (v23 : Sl) (n28 : Int) (s30 : Sl) (j32 : Heap → Prop) : Int → Heap → Prop :=
  wl [(9, .one (.int .i64))] (fun (next33 : Int → Heap → Prop) (k34 : Int) (h35 : Heap) =>
  brr (decide (k34 < n28))
  (ixS 1 v17 k34 fun (a36 : Addr) =>
  ld [.int .u8] a36 h35 fun (v37 : Int) =>
  ixS 1 v20 k34 fun (a38 : Addr) =>
  ld [.int .u8] a38 h35 fun (v39 : Int) =>
  ixS 1 v23 k34 fun (a40 : Addr) =>
  ld [.int .u8] a40 h35 fun (v41 : Int) =>
  ixS 1 s30 k34 fun (a42 : Addr) =>
  st a42 [.int .u8 (IntKind.u8.wrap (BitVec.ofInt IntKind.u8.bits (IntKind.u8.wrap (BitVec.ofInt IntKind.u8.bits v37 ^^^ BitVec.ofInt IntKind.u8.bits v39).toNat) ^^^ BitVec.ofInt IntKind.u8.bits v41).toNat)] h35 fun (h43 : Heap) =>
  next33 (IntKind.i64.wrap (k34 + 1)) h43)
  (j32 h35))
def F_law1_CodeMixed.l2 (f9_ : Sl → Heap → (Int → Heap → Prop) → Prop) (Q : Bool → Heap → Prop) (a2 : Addr) (j9 : Heap → Prop) : Int → Heap → Prop :=
  wl [(3, .one (.int .i64))] (fun (next10 : Int → Heap → Prop) (i11 : Int) (h12 : Heap) =>
  ld [.sl] (a2.add 0) h12 fun (v13 : Sl) =>
  brr (decide ((IntKind.i64.wrap (i11 + 2)) < ((v13.len : Nat) : Int)))
  (jn [] (fun  (h56 : Heap) =>
  next10 (IntKind.i64.wrap (i11 + 1)) h56) (fun (j14 : Heap → Prop) =>
  ld [.sl] (a2.add 0) h12 fun (v15 : Sl) =>
  ixS 1 v15 i11 fun (a16 : Addr) =>
  ld [.sl] a16 h12 fun (v17 : Sl) =>
  ld [.sl] (a2.add 0) h12 fun (v18 : Sl) =>
  ixS 1 v18 (IntKind.i64.wrap (i11 + 1)) fun (a19 : Addr) =>
  ld [.sl] a19 h12 fun (v20 : Sl) =>
  ld [.sl] (a2.add 0) h12 fun (v21 : Sl) =>
  ixS 1 v21 (IntKind.i64.wrap (i11 + 2)) fun (a22 : Addr) =>
  ld [.sl] a22 h12 fun (v23 : Sl) =>
  jn [(7, .one (.int .i64))] (fun (n25 : Int) (h26 : Heap) =>
  jn [(7, .one (.int .i64))] (fun (n28 : Int) (h29 : Heap) =>
  mk 5 1 1 (.int .u8 0) n28 n28 h29 fun (s30 : Sl) (h31 : Heap) =>
  jn [] (fun  (h44 : Heap) =>
  slTo v17 n28 fun (s45 : Sl) =>
  slTo v20 n28 fun (s46 : Sl) =>
  slTo v23 n28 fun (s47 : Sl) =>
  f9_ s30 h44 fun (r48 : Int) (h49 : Heap) =>
  f9_ s45 h49 fun (r50 : Int) (h51 : Heap) =>
  f9_ s46 h51 fun (r52 : Int) (h53 : Heap) =>
  f9_ s47 h53 fun (r54 : Int) (h55 : Heap) =>
  brr (r48 != (IntKind.u32.wrap (BitVec.ofInt IntKind.u32.bits (IntKind.u32.wrap (BitVec.ofInt IntKind.u32.bits r50 ^^^ BitVec.ofInt IntKind.u32.bits r52).toNat) ^^^ BitVec.ofInt IntKind.u32.bits r54).toNat))
  (Q false h55)
  (j14 h55)) (fun (j32 : Heap → Prop) =>
  F_law1_CodeMixed.l1 v17 v20 v23 n28 s30 j32 0 h31)) (fun (j27 : Int → Heap → Prop) =>
  brr (decide (((v23.len : Nat) : Int) < n25))
  (j27 ((v23.len : Nat) : Int) h26)
  (j27 n25 h26))) (fun (j24 : Int → Heap → Prop) =>
  brr (decide (((v20.len : Nat) : Int) < ((v17.len : Nat) : Int)))
  (j24 ((v20.len : Nat) : Int) h12)
  (j24 ((v17.len : Nat) : Int) h12))))
  (j9 h12))
def F_law1_CodeMixed_of (f9_ : Sl → Heap → (Int → Heap → Prop) → Prop) (p1 : Sl) (h : Heap) (Q : Bool → Heap → Prop) : Prop :=
  al 24 [.slice p1.ptr p1.len p1.cap] h fun (a2 : Addr) (h3 : Heap) =>
  al 5 [.int .u8 97] h3 fun (a4 : Addr) (h5 : Heap) =>
  frz (some a4) h5 fun (h6 : Heap) =>
  f9_ ⟨(some a4), 1, 1⟩ h6 fun (r7 : Int) (h8 : Heap) =>
  brr (r7 != 3904355907)
  (Q false h8)
  (jn [] (fun  (h57 : Heap) =>
  Q true h57) (fun (j9 : Heap → Prop) =>
  F_law1_CodeMixed.l2 f9_ Q a2 j9 0 h8))
def F_law1_CodeMixed (p1 : Sl) (h : Heap) (Q : Bool → Heap → Prop) : Prop := F_law1_CodeMixed_of F_code_Sum p1 h Q
def plan5 : Plan := .s (.r [1]) (.s (.s (.r [1, 13]) (.c (.s (.r [2]) .z) .z)) (.s (.s (.r [1, 3]) (.bj [] [] (.l [(3, .one (.int .i64))] [1] (.s (.s (.r [1, 3, 19]) (.c .z .z)) (.s (.bj [] [1, 3] (.s (.r [1, 3, 4]) (.s (.r [1, 3, 4, 5]) (.s (.r [1, 3, 4, 5, 6]) (.s (.r [1, 3, 4, 5, 6, 7]) (.s (.s (.r [1, 3, 4, 5, 6, 7, 44]) (.cj [(7, .one (.int .i64))] [1, 3, 4, 5, 6] (.r [1, 3, 4, 5, 6, 7]) .z)) (.s (.s (.r [1, 3, 4, 5, 6, 7, 50]) (.cj [(7, .one (.int .i64))] [1, 3, 4, 5, 6] (.r [1, 3, 4, 5, 6, 7]) .z)) (.s (.r [1, 3, 4, 5, 6, 7, 8]) (.s (.s (.r [1, 3, 4, 5, 6, 7, 8, 9]) (.bj [] [1, 3, 4, 5, 6, 7, 8] (.l [(9, .one (.int .i64))] [1, 3, 4, 5, 6, 7, 8] (.s (.s (.r [1, 3, 4, 5, 6, 7, 8, 9, 57]) (.c .z .z)) (.s (.b (.d [0, 0, 0, 0, 12, 28, 0, 0, 192, 448, 1020, 0, 0, 6144, 14336, 32764, 65535, 131071] [[0, 1, 2, 3, 4, 5, 6, 7, 8, 9, 10, 11, 12, 13, 14, 15, 16, 17]] [1, 3, 4, 5, 6, 7, 8, 9])) (.r [1, 3, 4, 5, 6, 7, 8, 9])))))) (.s (.d [0, 1, 0, 0, 12, 31, 0, 0, 192, 511, 1023, 0, 0, 6144, 15359, 32767, 65535] [[0, 2, 3, 4, 6, 7, 8, 11, 12, 13, 1, 5, 9, 10, 14, 15, 16]] [1, 3, 93]) (.c (.s (.r [2]) .z) .z))))))))))) (.r [1, 3])))))) (.s (.r [2]) .z)))
theorem F_law1_CodeMixed.eq (f9_ : Sl → Heap → (Int → Heap → Prop) → Prop) (p1 : Sl) (h : Heap) (K : Value → Heap → Prop) : F_law1_CodeMixed_of f9_ p1 h (fun (r0 : Bool) (h : Heap) => K (.bool r0) h) =
    den Try.prog (fn1 9 (E_code_Sum_of f9_) noFns) Try.f5.ntmps plan5 (bodyOf Try.f5) (args0 0 [(.agg #[.slice p1.ptr p1.len p1.cap] : Value)]) h ⟨fun env h => dRes Try.prog Try.f5.results.toList env h K, fun _ _ _ => False, fun env h => dRes Try.prog Try.f5.results.toList env h K⟩ := by kernel_rfl
def E_law1_CodeMixed_of (f : Sl → Heap → (Bool → Heap → Prop) → Prop) : List Value → Heap → (Value → Heap → Prop) → Prop
  | [v0], h, K => vAgg v0 fun cs0 => decs [.sl] cs0.toList fun (p1 : Sl) =>
  f p1 h (fun (r0 : Bool) (h : Heap) => K (.bool r0) h)
  | _, _, _ => False
abbrev E_law1_CodeMixed := E_law1_CodeMixed_of F_law1_CodeMixed
theorem E_law1_CodeMixed.at (f : Sl → Heap → (Bool → Heap → Prop) → Prop) (p1 : Sl) (h : Heap) (K : Value → Heap → Prop) : E_law1_CodeMixed_of f [.agg ([.slice p1.ptr p1.len p1.cap] : List Value).toArray] h K = f p1 h (fun (r0 : Bool) (h : Heap) => K (.bool r0) h) := rfl
theorem E_law1_CodeMixed.right : IsRight Try.prog 5 E_law1_CodeMixed := by
  refine isRight fun vs K w hh => ?_
  match vs, hh with
  | [v0], hh =>
    unfold E_law1_CodeMixed E_law1_CodeMixed_of at hh
    replace hh := vAgg_sound hh; obtain ⟨cs0, rfl, hh⟩ := hh
    replace hh := decs_cons hh; obtain ⟨p1, l0_0, e0_0, hh⟩ := hh
    replace hh := decs_nil hh; obtain ⟨rfl, hh⟩ := hh
    have ec0 := toArray_eq e0_0
    subst ec0
    unfold F_law1_CodeMixed at hh
    exact calls_den (fn1_right ok9 E_code_Sum.right noFns_right) plan5 _ w K Try.func5 (by kernel_rfl) (by kernel_rfl) (Eq.mp (F_law1_CodeMixed.eq F_code_Sum p1 w.heap K) hh)
theorem ok5 : okFn Try.prog 5 = true := by kernel_rfl
end Go.Proofs.Ytompmkmbppcadaa.V
