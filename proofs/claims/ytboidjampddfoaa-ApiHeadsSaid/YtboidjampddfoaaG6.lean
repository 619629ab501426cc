import Derived.Test.YtboidjampddfoaaV10
import Derived.Test.YtboidjampddfoaaProg
namespace Go.Proofs.Ytboidjampddfoaa.V
open Go Go.RowKit
set_option linter.unusedVariables false
set_option maxRecDepth 100000
/-! tally/tallylaw0.ApiHeads -/
def F6of   (h : Heap) (Q : Bool → Heap → Prop) : Prop :=
  al 36 [.int .i64 0, .int .i64 0, .int .i64 0, .int .i64 0, .int .u64 0, .int .u64 0, .int .u64 0, .int .u64 0, .int .i64 0, .int .u64 0, .slice none 0 0, .int .i64 0, .int .u64 0, .string (⟨#[]⟩ : ByteArray), .string (⟨#[]⟩ : ByteArray), .int .u64 0, .int .u64 0, .int .u64 0, .int .i64 0, .int .i64 0, .int .i64 0, .int .i64 0] h fun (a1 : Addr) (h2 : Heap) =>
  st a1 [.int .i64 6, .int .i64 1, .int .i64 2, .int .i64 3, .int .u64 0, .int .u64 0, .int .u64 0, .int .u64 0, .int .i64 0, .int .u64 0, .slice none 0 0, .int .i64 0, .int .u64 0, .string (⟨#[]⟩ : ByteArray), .string (⟨#[]⟩ : ByteArray), .int .u64 0, .int .u64 0, .int .u64 0, .int .i64 0, .int .i64 0, .int .i64 0, .int .i64 0] h2 fun (h3 : Heap) =>
  jn [(0, .one .bool)] (fun (x9 : Bool) (h10 : Heap) =>
  Q x9 h10) (fun (j4 : Bool → Heap → Prop) =>
  ld [.int .i64] ((a1.add 0).add 0) h3 fun (v5 : Int) =>
  brr (v5 == 6)
  (ld [.int .i64] ((a1.add 0).add 1) h3 fun (v6 : Int) =>
  brr (v6 == 1)
  (ld [.int .i64] ((a1.add 0).add 2) h3 fun (v7 : Int) =>
  brr (v7 == 2)
  (ld [.int .i64] ((a1.add 0).add 3) h3 fun (v8 : Int) =>
  j4 (v8 == 3) h3)
  (j4 false h3))
  (j4 false h3))
  (j4 false h3))
def F6  (h : Heap) (Q : Bool → Heap → Prop) : Prop := F6of   h Q
def plan6 : Plan := .s (.r []) (.s (.r [1]) (.s (.rj [(0, .one .bool)] []) .z))
theorem F6.eq   (h : Heap) (K : Value → Heap → Prop) : F6of   h (fun (r0 : Bool) (h : Heap) => K (.bool r0) h) =
    den Try.prog noFns Try.f6.ntmps plan6 (bodyOf Try.f6) (args0 0 []) h ⟨fun env h => dRes Try.prog Try.f6.results.toList env h K, fun _ _ _ => False, fun env h => dRes Try.prog Try.f6.results.toList env h K⟩ := by kernel_rfl
def E6of (f : Heap → (Bool → Heap → Prop) → Prop) : List Value → Heap → (Value → Heap → Prop) → Prop
  | [], h, K => f  h (fun (r0 : Bool) (h : Heap) => K (.bool r0) h)
  | _, _, _ => False
abbrev E6 := E6of F6
theorem E6.right : IsRight Try.prog 6 E6 := by
  intro vs h K hh
  match vs, hh with
  | [], hh =>
    unfold E6 E6of at hh
    unfold F6 at hh
    exact fun w hw => by subst hw; exact calls_den noFns_right plan6 _ w K Try.func6 (by kernel_rfl) (by kernel_rfl) (Eq.mp (F6.eq   w.heap K) hh)
theorem ok6 : okFn Try.prog 6 = true := by kernel_rfl
end Go.Proofs.Ytboidjampddfoaa.V
