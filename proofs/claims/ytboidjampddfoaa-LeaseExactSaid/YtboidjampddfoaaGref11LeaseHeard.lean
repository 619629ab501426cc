import Derived.Test.YtboidjampddfoaaV10
import Derived.Test.YtboidjampddfoaaProg
namespace Go.Proofs.Ytboidjampddfoaa.V
open Go Go.RowKit
set_option linter.unusedVariables false
set_option maxRecDepth 100000
/-! (*tally/tallyref11.Lease).Heard -/
def F_ref11_Lease_Heard_of  (l1 : Option Addr) (epoch2 : Int) (prepare3 : Bool) (taken4 : Bool) (h : Heap) (Q : Heap → Prop) : Prop :=
  jn [(19, .one .bool)] (fun (x8 : Bool) (h9 : Heap) =>
  jn [] (fun  (h15 : Heap) =>
  nn l1 fun (a16 : Addr) =>
  ld [.int .u64] (a16.add 7) h15 fun (v17 : Int) =>
  jn [] (fun  (h21 : Heap) =>
  Q h21) (fun (j18 : Heap → Prop) =>
  brr (decide (epoch2 > v17))
  (nn l1 fun (a19 : Addr) =>
  st (a19.add 7) [.int .u64 epoch2] h15 fun (h20 : Heap) =>
  j18 h20)
  (j18 h15))) (fun (j10 : Heap → Prop) =>
  brr x8
  (nn l1 fun (a11 : Addr) =>
  ld [.int .i64] (a11.add 3) h9 fun (v12 : Int) =>
  nn l1 fun (a13 : Addr) =>
  st (a13.add 4) [.int .i64 v12] h9 fun (h14 : Heap) =>
  j10 h14)
  (j10 h9))) (fun (j5 : Bool → Heap → Prop) =>
  brr taken4
  (j5 true h)
  (brr prepare3
  (nn l1 fun (a6 : Addr) =>
  ld [.int .u64] (a6.add 7) h fun (v7 : Int) =>
  j5 (decide (epoch2 ≥ v7)) h)
  (j5 false h)))
def F_ref11_Lease_Heard (l1 : Option Addr) (epoch2 : Int) (prepare3 : Bool) (taken4 : Bool) (h : Heap) (Q : Heap → Prop) : Prop := F_ref11_Lease_Heard_of  l1 epoch2 prepare3 taken4 h Q
def plan48 : Plan := .s (.s (.rj [(19, .one .bool)] [0, 1]) (.cj [] [0, 1] (.r [0, 1]) .z)) (.s (.r [0, 1, 32]) (.cj [] [] (.r []) .z))
theorem F_ref11_Lease_Heard.eq  (l1 : Option Addr) (epoch2 : Int) (prepare3 : Bool) (taken4 : Bool) (h : Heap) (K : Value → Heap → Prop) : F_ref11_Lease_Heard_of  l1 epoch2 prepare3 taken4 h (fun  (h : Heap) => K (.tuple #[]) h) =
    den Try.prog noFns Try.f48.ntmps plan48 (bodyOf Try.f48) (args0 0 [(.pointer l1 : Value), (.int .u64 epoch2 : Value), (.bool prepare3 : Value), (.bool taken4 : Value)]) h ⟨fun env h => dRes Try.prog Try.f48.results.toList env h K, fun _ _ _ => False, fun env h => dRes Try.prog Try.f48.results.toList env h K⟩ := by kernel_rfl
def E_ref11_Lease_Heard_of (f : Option Addr → Int → Bool → Bool → Heap → (Heap → Prop) → Prop) : List Value → Heap → (Value → Heap → Prop) → Prop
  | [v0, v1, v2, v3], h, K => dec1 .ptr v0 fun (l1 : Option Addr) =>
  dec1 (.int .u64) v1 fun (epoch2 : Int) =>
  dec1 .bool v2 fun (prepare3 : Bool) =>
  dec1 .bool v3 fun (taken4 : Bool) =>
  f l1 epoch2 prepare3 taken4 h (fun  (h : Heap) => K (.tuple #[]) h)
  | _, _, _ => False
abbrev E_ref11_Lease_Heard := E_ref11_Lease_Heard_of F_ref11_Lease_Heard
theorem E_ref11_Lease_Heard.right : IsRight Try.prog 48 E_ref11_Lease_Heard := by
  refine isRight fun vs K w hh => ?_
  match vs, hh with
  | [v0, v1, v2, v3], hh =>
    unfold E_ref11_Lease_Heard E_ref11_Lease_Heard_of at hh
    replace hh := dec1_sound hh; obtain ⟨l1, rfl, hh⟩ := hh
    replace hh := dec1_sound hh; obtain ⟨epoch2, rfl, hh⟩ := hh
    replace hh := dec1_sound hh; obtain ⟨prepare3, rfl, hh⟩ := hh
    replace hh := dec1_sound hh; obtain ⟨taken4, rfl, hh⟩ := hh
    unfold F_ref11_Lease_Heard at hh
    exact calls_den noFns_right plan48 _ w K Try.func48 (by kernel_rfl) (by kernel_rfl) (Eq.mp (F_ref11_Lease_Heard.eq  l1 epoch2 prepare3 taken4 w.heap K) hh)
theorem ok48 : okFn Try.prog 48 = true := by kernel_rfl
end Go.Proofs.Ytboidjampddfoaa.V
