import Derived.Test.YtboidjampddfoaaV10
import Derived.Test.YtboidjampddfoaaProg
import Derived.Test.YtboidjampddfoaaGleaseLeasePatience
import Derived.Test.YtboidjampddfoaaGleaseLeaseSpan
import Derived.Test.YtboidjampddfoaaGleaseLeaseLeft
import Derived.Test.YtboidjampddfoaaGleaseLeaseSeen
import Derived.Test.YtboidjampddfoaaGref11LeaseSpan
namespace Go.Proofs.Ytboidjampddfoaa.V
open Go Go.RowKit
set_option linter.unusedVariables false
set_option maxRecDepth 100000
/-! tally/tallylaw11.same -/
def F_law11_same_of (f37_ : Option Addr → Heap → (Int → Heap → Prop) → Prop) (f40_ : Option Addr → Heap → (Int → Heap → Prop) → Prop) (f43_ : Option Addr → Heap → (Int → Heap → Prop) → Prop) (f46_ : Option Addr → Heap → (Int → Heap → Prop) → Prop) (f72_ : Option Addr → Heap → (Int → Heap → Prop) → Prop) (l1 : Option Addr) (k2 : Option Addr) (h : Heap) (Q : Bool → Heap → Prop) : Prop :=
  jn [(4, .one .bool)] (fun (x20 : Bool) (h21 : Heap) =>
  Q x20 h21) (fun (j3 : Bool → Heap → Prop) =>
  nn k2 fun (a4 : Addr) =>
  ld [.int .u64] (a4.add 7) h fun (v5 : Int) =>
  f46_ l1 h fun (r6 : Int) (h7 : Heap) =>
  cellsAre h7 (a4.add 7) [.int .u64 v5] ∧
  brr (r6 == v5)
  (nn k2 fun (a8 : Addr) =>
  ld [.int .i64] (a8.add 3) h7 fun (v9 : Int) =>
  f37_ l1 h7 fun (r10 : Int) (h11 : Heap) =>
  cellsAre h11 (a8.add 3) [.int .i64 v9] ∧
  brr (r10 == v9)
  (nn k2 fun (a12 : Addr) =>
  ld [.int .i64] (a12.add 4) h11 fun (v13 : Int) =>
  f43_ l1 h11 fun (r14 : Int) (h15 : Heap) =>
  cellsAre h15 (a12.add 4) [.int .i64 v13] ∧
  brr (r14 == v13)
  (f40_ l1 h15 fun (r16 : Int) (h17 : Heap) =>
  f72_ k2 h17 fun (r18 : Int) (h19 : Heap) =>
  j3 (r16 == r18) h19)
  (j3 false h15))
  (j3 false h11))
  (j3 false h7))
def F_law11_same (l1 : Option Addr) (k2 : Option Addr) (h : Heap) (Q : Bool → Heap → Prop) : Prop := F_law11_same_of F_lease_Lease_Patience F_lease_Lease_Span F_lease_Lease_Left F_lease_Lease_Seen F_ref11_Lease_Span l1 k2 h Q
def plan53 : Plan := .s (.r [0, 1]) (.s (.dj [0, 1, 0, 4, 12, 28, 63, 127, 255, 511, 255, 1279, 3327, 7423, 16383, 32767, 65535, 131071, 262143, 131071, 655359, 1703935, 3801087, 8388607, 16777215, 33554431, 67108863, 134217727, 67108863, 536870911, 1073741823, 2147483647, 4294967295] [[0, 2, 3, 4, 5, 1, 6, 7, 8, 10, 11, 12, 13, 9, 14, 15, 16, 17, 19, 20, 21, 22, 18, 23, 24, 25, 26, 28, 27, 29, 30, 31, 32]] [(4, .one .bool)] []) .z)
theorem F_law11_same.eq (f37_ : Option Addr → Heap → (Int → Heap → Prop) → Prop) (f40_ : Option Addr → Heap → (Int → Heap → Prop) → Prop) (f43_ : Option Addr → Heap → (Int → Heap → Prop) → Prop) (f46_ : Option Addr → Heap → (Int → Heap → Prop) → Prop) (f72_ : Option Addr → Heap → (Int → Heap → Prop) → Prop) (l1 : Option Addr) (k2 : Option Addr) (h : Heap) (K : Value → Heap → Prop) : F_law11_same_of f37_ f40_ f43_ f46_ f72_ l1 k2 h (fun (r0 : Bool) (h : Heap) => K (.bool r0) h) =
    den Try.prog (fn1 37 (E_lease_Lease_Patience_of f37_) (fn1 40 (E_lease_Lease_Span_of f40_) (fn1 43 (E_lease_Lease_Left_of f43_) (fn1 46 (E_lease_Lease_Seen_of f46_) (fn1 72 (E_ref11_Lease_Span_of f72_) noFns))))) Try.f53.ntmps plan53 (bodyOf Try.f53) (args0 0 [(.pointer l1 : Value), (.pointer k2 : Value)]) h ⟨fun env h => dRes Try.prog Try.f53.results.toList env h K, fun _ _ _ => False, fun env h => dRes Try.prog Try.f53.results.toList env h K⟩ := by kernel_rfl
def E_law11_same_of (f : Option Addr → Option Addr → Heap → (Bool → Heap → Prop) → Prop) : List Value → Heap → (Value → Heap → Prop) → Prop
  | [v0, v1], h, K => dec1 .ptr v0 fun (l1 : Option Addr) =>
  dec1 .ptr v1 fun (k2 : Option Addr) =>
  f l1 k2 h (fun (r0 : Bool) (h : Heap) => K (.bool r0) h)
  | _, _, _ => False
abbrev E_law11_same := E_law11_same_of F_law11_same
theorem E_law11_same.right : IsRight Try.prog 53 E_law11_same := by
  refine isRight fun vs K w hh => ?_
  match vs, hh with
  | [v0, v1], hh =>
    unfold E_law11_same E_law11_same_of at hh
    replace hh := dec1_sound hh; obtain ⟨l1, rfl, hh⟩ := hh
    replace hh := dec1_sound hh; obtain ⟨k2, rfl, hh⟩ := hh
    unfold F_law11_same at hh
    exact calls_den (fn1_right ok37 E_lease_Lease_Patience.right (fn1_right ok40 E_lease_Lease_Span.right (fn1_right ok43 E_lease_Lease_Left.right (fn1_right ok46 E_lease_Lease_Seen.right (fn1_right ok72 E_ref11_Lease_Span.right noFns_right))))) plan53 _ w K Try.func53 (by kernel_rfl) (by kernel_rfl) (Eq.mp (F_law11_same.eq F_lease_Lease_Patience F_lease_Lease_Span F_lease_Lease_Left F_lease_Lease_Seen F_ref11_Lease_Span l1 k2 w.heap K) hh)
theorem ok53 : okFn Try.prog 53 = true := by kernel_rfl
end Go.Proofs.Ytboidjampddfoaa.V
