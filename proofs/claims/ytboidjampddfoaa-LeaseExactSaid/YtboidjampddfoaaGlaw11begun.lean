import Derived.Test.YtboidjampddfoaaV10
import Derived.Test.YtboidjampddfoaaProg
import Derived.Test.YtboidjampddfoaaGleaseNew
import Derived.Test.YtboidjampddfoaaGleaseLeaseTick
import Derived.Test.YtboidjampddfoaaGleaseLeasePatience
import Derived.Test.YtboidjampddfoaaGleaseLeaseSpan
import Derived.Test.YtboidjampddfoaaGleaseLeaseLeft
import Derived.Test.YtboidjampddfoaaGleaseLeaseSeen
namespace Go.Proofs.Ytboidjampddfoaa.V
open Go Go.RowKit
set_option linter.unusedVariables false
set_option maxRecDepth 100000
/-! tally/tallylaw11.begun -/
def F_law11_begun.l1 (f36_ : Option Addr → Int → Bool → Bool → Heap → (Int → Bool → Heap → Prop) → Prop) (Q : Bool → Heap → Prop) (r1 : Option Addr) (j10 : Heap → Prop) : Int → Heap → Prop :=
  wl [(2, .one (.int .i64))] (fun (next11 : Int → Heap → Prop) (i12 : Int) (h13 : Heap) =>
  brr (decide (i12 < 4))
  (f36_ r1 0 false true h13 fun (r14 : Int) (r15 : Bool) (h16 : Heap) =>
  jn [(33, .one .bool)] (fun (x18 : Bool) (h19 : Heap) =>
  brr x18
  (Q false h19)
  (next11 (IntKind.i64.wrap (i12 + 1)) h19)) (fun (j17 : Bool → Heap → Prop) =>
  brr (r14 != 0)
  (j17 true h16)
  (j17 r15 h16)))
  (j10 h13))
def F_law11_begun_of (f34_ : Int → Int → Int → Int → Heap → (Option Addr → Heap → Prop) → Prop) (f36_ : Option Addr → Int → Bool → Bool → Heap → (Int → Bool → Heap → Prop) → Prop) (f37_ : Option Addr → Heap → (Int → Heap → Prop) → Prop) (f40_ : Option Addr → Heap → (Int → Heap → Prop) → Prop) (f43_ : Option Addr → Heap → (Int → Heap → Prop) → Prop) (f46_ : Option Addr → Heap → (Int → Heap → Prop) → Prop)  (h : Heap) (Q : Bool → Heap → Prop) : Prop :=
  f34_ 1 3 10 0 h fun (r1 : Option Addr) (h2 : Heap) =>
  jn [(19, .one .bool)] (fun (x8 : Bool) (h9 : Heap) =>
  brr x8
  (Q false h9)
  (jn [] (fun  (h20 : Heap) =>
  f36_ r1 0 false true h20 fun (r21 : Int) (r22 : Bool) (h23 : Heap) =>
  jn [(0, .one .bool)] (fun (x29 : Bool) (h30 : Heap) =>
  Q x29 h30) (fun (j24 : Bool → Heap → Prop) =>
  brr (r21 == 1)
  (f37_ r1 h23 fun (r25 : Int) (h26 : Heap) =>
  brr (r25 == 8)
  (f46_ r1 h26 fun (r27 : Int) (h28 : Heap) =>
  j24 (r27 == 1) h28)
  (j24 false h26))
  (j24 false h23))) (fun (j10 : Heap → Prop) =>
  F_law11_begun.l1 f36_ Q r1 j10 0 h9))) (fun (j3 : Bool → Heap → Prop) =>
  brr r1.isNone
  (j3 true h2)
  (f43_ r1 h2 fun (r4 : Int) (h5 : Heap) =>
  brr (r4 != 5)
  (j3 true h5)
  (f40_ r1 h5 fun (r6 : Int) (h7 : Heap) =>
  j3 (r6 != 5) h7)))
def F_law11_begun  (h : Heap) (Q : Bool → Heap → Prop) : Prop := F_law11_begun_of F_lease_New F_lease_Lease_Tick F_lease_Lease_Patience F_lease_Lease_Span F_lease_Lease_Left F_lease_Lease_Seen  h Q
def plan33 : Plan := .s (.r []) (.s (.r [1]) (.s (.s (.rj [(19, .one .bool)] [1]) (.c (.s (.r [0]) .z) .z)) (.s (.s (.r [1, 2]) (.bj [] [1] (.l [(2, .one (.int .i64))] [1] (.s (.s (.r [1, 2, 21]) (.c .z .z)) (.s (.b (.s (.r [1, 2, 3, 4]) (.s (.rj [(33, .one .bool)] [1, 2]) (.c (.s (.r [0]) .z) .z)))) (.r [1, 2])))))) (.s (.r [1, 5]) (.s (.rj [(0, .one .bool)] []) .z)))))
theorem F_law11_begun.eq (f34_ : Int → Int → Int → Int → Heap → (Option Addr → Heap → Prop) → Prop) (f36_ : Option Addr → Int → Bool → Bool → Heap → (Int → Bool → Heap → Prop) → Prop) (f37_ : Option Addr → Heap → (Int → Heap → Prop) → Prop) (f40_ : Option Addr → Heap → (Int → Heap → Prop) → Prop) (f43_ : Option Addr → Heap → (Int → Heap → Prop) → Prop) (f46_ : Option Addr → Heap → (Int → Heap → Prop) → Prop)  (h : Heap) (K : Value → Heap → Prop) : F_law11_begun_of f34_ f36_ f37_ f40_ f43_ f46_  h (fun (r0 : Bool) (h : Heap) => K (.bool r0) h) =
    den Try.prog (fn1 34 (E_lease_New_of f34_) (fn1 36 (E_lease_Lease_Tick_of f36_) (fn1 37 (E_lease_Lease_Patience_of f37_) (fn1 40 (E_lease_Lease_Span_of f40_) (fn1 43 (E_lease_Lease_Left_of f43_) (fn1 46 (E_lease_Lease_Seen_of f46_) noFns)))))) Try.f33.ntmps plan33 (bodyOf Try.f33) (args0 0 []) h ⟨fun env h => dRes Try.prog Try.f33.results.toList env h K, fun _ _ _ => False, fun env h => dRes Try.prog Try.f33.results.toList env h K⟩ := by kernel_rfl
def E_law11_begun_of (f : Heap → (Bool → Heap → Prop) → Prop) : List Value → Heap → (Value → Heap → Prop) → Prop
  | [], h, K => f  h (fun (r0 : Bool) (h : Heap) => K (.bool r0) h)
  | _, _, _ => False
abbrev E_law11_begun := E_law11_begun_of F_law11_begun
theorem E_law11_begun.nil (f : Heap → (Bool → Heap → Prop) → Prop) (h : Heap) (K : Value → Heap → Prop) : E_law11_begun_of f [] h K = f  h (fun (r0 : Bool) (h : Heap) => K (.bool r0) h) := rfl
theorem E_law11_begun.right : IsRight Try.prog 33 E_law11_begun := by
  refine isRight fun vs K w hh => ?_
  match vs, hh with
  | [], hh =>
    replace hh := Eq.mp (E_law11_begun.nil F_law11_begun w.heap K) hh
    unfold F_law11_begun at hh
    exact calls_den (fn1_right ok34 E_lease_New.right (fn1_right ok36 E_lease_Lease_Tick.right (fn1_right ok37 E_lease_Lease_Patience.right (fn1_right ok40 E_lease_Lease_Span.right (fn1_right ok43 E_lease_Lease_Left.right (fn1_right ok46 E_lease_Lease_Seen.right noFns_right)))))) plan33 _ w K Try.func33 (by kernel_rfl) (by kernel_rfl) (Eq.mp (F_law11_begun.eq F_lease_New F_lease_Lease_Tick F_lease_Lease_Patience F_lease_Lease_Span F_lease_Lease_Left F_lease_Lease_Seen  w.heap K) hh)
theorem ok33 : okFn Try.prog 33 = true := by kernel_rfl
end Go.Proofs.Ytboidjampddfoaa.V
