import Derived.Test.YtboidjampddfoaaV10
import Derived.Test.YtboidjampddfoaaProg
import Derived.Test.YtboidjampddfoaaGleaseLeasenext
namespace Go.Proofs.Ytboidjampddfoaa.V
open Go Go.RowKit
set_option linter.unusedVariables false
set_option maxRecDepth 100000
/-! (*tally/lease.Lease).begin -/
def F_lease_Lease_begin_of (f93_ : Option Addr → Heap → (Int → Heap → Prop) → Prop) (l1 : Option Addr) (h : Heap) (Q : Int → Heap → Prop) : Prop :=
  f93_ l1 h fun (r2 : Int) (h3 : Heap) =>
  jn [] (fun  (h17 : Heap) =>
  nn l1 fun (a18 : Addr) =>
  ld [.int .i64] (a18.add 6) h17 fun (v19 : Int) =>
  nn l1 fun (a20 : Addr) =>
  st ((a20.add 0).add 0) [.int .i64 v19] h17 fun (h21 : Heap) =>
  Q r2 h21) (fun (j4 : Heap → Prop) =>
  brr (decide (r2 > 0))
  (nn l1 fun (a5 : Addr) =>
  st (a5.add 7) [.int .u64 r2] h3 fun (h6 : Heap) =>
  nn l1 fun (a7 : Addr) =>
  ld [.int .i64] (a7.add 6) h6 fun (v8 : Int) =>
  nn l1 fun (a9 : Addr) =>
  ld [.int .i64] (a9.add 6) h6 fun (v10 : Int) =>
  nn l1 fun (a11 : Addr) =>
  ld [.int .i64] (a11.add 5) h6 fun (v12 : Int) =>
  nn l1 fun (a13 : Addr) =>
  ld [.int .i64] (a13.add 6) h6 fun (v14 : Int) =>
  nn l1 fun (a15 : Addr) =>
  st (a15.add 6) [.int .i64 (IntKind.i64.wrap (v8 + (if (IntKind.i64.wrap (v12 - v14)) < v10 then (IntKind.i64.wrap (v12 - v14)) else v10)))] h6 fun (h16 : Heap) =>
  j4 h16)
  (j4 h3))
def F_lease_Lease_begin (l1 : Option Addr) (h : Heap) (Q : Int → Heap → Prop) : Prop := F_lease_Lease_begin_of F_lease_Lease_next l1 h Q
def plan69 : Plan := .s (.r [0]) (.s (.r [0, 3]) (.s (.s (.r [0, 3, 7]) (.cj [] [0, 3] (.s (.r [0, 3]) (.d [0, 1, 3, 7, 0, 16, 48, 112, 0, 256, 768, 1792, 0, 4096, 12288, 28672, 65280, 131056, 262143, 524287, 1048575, 2097151] [[0, 1, 2, 3, 4, 5, 6, 7, 8, 9, 10, 11, 12, 13, 14, 15, 16, 17, 18, 19, 20, 21]] [0, 3])) .z)) (.s (.r [3]) (.s (.r [2]) .z))))
theorem F_lease_Lease_begin.eq (f93_ : Option Addr → Heap → (Int → Heap → Prop) → Prop) (l1 : Option Addr) (h : Heap) (K : Value → Heap → Prop) : F_lease_Lease_begin_of f93_ l1 h (fun (r0 : Int) (h : Heap) => K (.int .u64 r0) h) =
    den Try.prog (fn1 93 (E_lease_Lease_next_of f93_) noFns) Try.f69.ntmps plan69 (bodyOf Try.f69) (args0 0 [(.pointer l1 : Value)]) h ⟨fun env h => dRes Try.prog Try.f69.results.toList env h K, fun _ _ _ => False, fun env h => dRes Try.prog Try.f69.results.toList env h K⟩ := by kernel_rfl
def E_lease_Lease_begin_of (f : Option Addr → Heap → (Int → Heap → Prop) → Prop) : List Value → Heap → (Value → Heap → Prop) → Prop
  | [v0], h, K => dec1 .ptr v0 fun (l1 : Option Addr) =>
  f l1 h (fun (r0 : Int) (h : Heap) => K (.int .u64 r0) h)
  | _, _, _ => False
abbrev E_lease_Lease_begin := E_lease_Lease_begin_of F_lease_Lease_begin
theorem E_lease_Lease_begin.right : IsRight Try.prog 69 E_lease_Lease_begin := by
  refine isRight fun vs K w hh => ?_
  match vs, hh with
  | [v0], hh =>
    unfold E_lease_Lease_begin E_lease_Lease_begin_of at hh
    replace hh := dec1_sound hh; obtain ⟨l1, rfl, hh⟩ := hh
    unfold F_lease_Lease_begin at hh
    exact calls_den (fn1_right ok93 E_lease_Lease_next.right noFns_right) plan69 _ w K Try.func69 (by kernel_rfl) (by kernel_rfl) (Eq.mp (F_lease_Lease_begin.eq F_lease_Lease_next l1 w.heap K) hh)
theorem ok69 : okFn Try.prog 69 = true := by kernel_rfl
end Go.Proofs.Ytboidjampddfoaa.V
