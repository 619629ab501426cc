import Derived.Test.YtompmkmbppcadaaV10
import Derived.Test.YtompmkmbppcadaaProg
namespace Go.Proofs.Ytompmkmbppcadaa.V
open Go Go.RowKit
set_option linter.unusedVariables false
set_option maxRecDepth 100000
/-! tally/tallylaw1.Intact -/
def F_law1_Intact_of  (l1 : Sl) (b2 : Sl) (h : Heap) (Q : Bool → Heap → Prop) : Prop :=
  b2s l1.ptr l1.len h fun (s3 : ByteArray) =>
  b2s b2.ptr b2.len h fun (s4 : ByteArray) =>
  brr (!(s3.toList == s4.toList))
  (Q false h)
  (slTo l1 (IntKind.i64.wrap (((l1.len : Nat) : Int) + 3)) fun (s5 : Sl) =>
  jn [(4, .one .bool)] (fun (x13 : Bool) (h14 : Heap) =>
  Q x13 h14) (fun (j6 : Bool → Heap → Prop) =>
  ixS 1 s5 ((l1.len : Nat) : Int) fun (a7 : Addr) =>
  ld [.int .u8] a7 h fun (v8 : Int) =>
  brr (v8 == 165)
  (ixS 1 s5 (IntKind.i64.wrap (((l1.len : Nat) : Int) + 1)) fun (a9 : Addr) =>
  ld [.int .u8] a9 h fun (v10 : Int) =>
  brr (v10 == 90)
  (ixS 1 s5 (IntKind.i64.wrap (((l1.len : Nat) : Int) + 2)) fun (a11 : Addr) =>
  ld [.int .u8] a11 h fun (v12 : Int) =>
  j6 (v12 == 165) h)
  (j6 false h))
  (j6 false h)))
def F_law1_Intact (l1 : Sl) (b2 : Sl) (h : Heap) (Q : Bool → Heap → Prop) : Prop := F_law1_Intact_of  l1 b2 h Q
def plan12 : Plan := .s (.r [0, 1]) (.s (.s (.r [0, 10]) (.c (.s (.r [4]) .z) .z)) (.s (.r [0, 5]) (.s (.rj [(4, .one .bool)] []) .z)))
theorem F_law1_Intact.eq  (l1 : Sl) (b2 : Sl) (h : Heap) (K : Value → Heap → Prop) : F_law1_Intact_of  l1 b2 h (fun (r0 : Bool) (h : Heap) => K (.bool r0) h) =
    den Try.prog noFns Try.f12.ntmps plan12 (bodyOf Try.f12) (args0 0 [(.slice l1.ptr l1.len l1.cap : Value), (.slice b2.ptr b2.len b2.cap : Value)]) h ⟨fun env h => dRes Try.prog Try.f12.results.toList env h K, fun _ _ _ => False, fun env h => dRes Try.prog Try.f12.results.toList env h K⟩ := by kernel_rfl
def E_law1_Intact_of (f : Sl → Sl → Heap → (Bool → Heap → Prop) → Prop) : List Value → Heap → (Value → Heap → Prop) → Prop
  | [v0, v1], h, K => dec1 .sl v0 fun (l1 : Sl) =>
  dec1 .sl v1 fun (b2 : Sl) =>
  f l1 b2 h (fun (r0 : Bool) (h : Heap) => K (.bool r0) h)
  | _, _, _ => False
abbrev E_law1_Intact := E_law1_Intact_of F_law1_Intact
theorem E_law1_Intact.right : IsRight Try.prog 12 E_law1_Intact := by
  refine isRight fun vs K w hh => ?_
  match vs, hh with
  | [v0, v1], hh =>
    unfold E_law1_Intact E_law1_Intact_of at hh
    replace hh := dec1_sound hh; obtain ⟨l1, rfl, hh⟩ := hh
    replace hh := dec1_sound hh; obtain ⟨b2, rfl, hh⟩ := hh
    unfold F_law1_Intact at hh
    exact calls_den noFns_right plan12 _ w K Try.func12 (by kernel_rfl) (by kernel_rfl) (Eq.mp (F_law1_Intact.eq  l1 b2 w.heap K) hh)
theorem ok12 : okFn Try.prog 12 = true := by kernel_rfl
end Go.Proofs.Ytompmkmbppcadaa.V
