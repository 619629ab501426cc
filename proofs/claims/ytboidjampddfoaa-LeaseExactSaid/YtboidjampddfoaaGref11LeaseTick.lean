import Derived.Test.YtboidjampddfoaaV10
import Derived.Test.YtboidjampddfoaaProg
import Derived.Test.YtboidjampddfoaaGref11up
import Derived.Test.YtboidjampddfoaaGref11Leasenext
namespace Go.Proofs.Ytboidjampddfoaa.V
open Go Go.RowKit
set_option linter.unusedVariables false
set_option maxRecDepth 100000
/-! (*tally/tallyref11.Lease).Tick -/
def F_ref11_Lease_Tick_of (f70_ : Int → Heap → (Int → Heap → Prop) → Prop) (f71_ : Option Addr → Heap → (Int → Heap → Prop) → Prop) (l1 : Option Addr) (phase2 : Int) (holds3 : Bool) (free4 : Bool) (h : Heap) (Q : Int → Bool → Heap → Prop) : Prop :=
  nn l1 fun (a5 : Addr) =>
  ld [.int .i64] (a5.add 5) h fun (v6 : Int) =>
  f70_ v6 h fun (r7 : Int) (h8 : Heap) =>
  nn l1 fun (a9 : Addr) =>
  st (a9.add 5) [.int .i64 r7] h8 fun (h10 : Heap) =>
  nn l1 fun (a11 : Addr) =>
  ld [.int .i64] (a11.add 6) h10 fun (v12 : Int) =>
  f70_ v12 h10 fun (r13 : Int) (h14 : Heap) =>
  nn l1 fun (a15 : Addr) =>
  st (a15.add 6) [.int .i64 r13] h14 fun (h16 : Heap) =>
  brr holds3
  (nn l1 fun (a17 : Addr) =>
  ld [.int .i64] (a17.add 6) h16 fun (v18 : Int) =>
  nn l1 fun (a19 : Addr) =>
  ld [.int .i64] (a19.add 3) h16 fun (v20 : Int) =>
  Q 0 (decide (v18 ≥ v20)) h16)
  (brr (phase2 != 0)
  (Q 0 false h16)
  (nn l1 fun (a21 : Addr) =>
  ld [.int .i64] (a21.add 4) h16 fun (v22 : Int) =>
  jn [] (fun  (h28 : Heap) =>
  jn [(59, .one .bool)] (fun (x32 : Bool) (h33 : Heap) =>
  brr x32
  (Q 0 false h33)
  (f71_ l1 h33 fun (r34 : Int) (h35 : Heap) =>
  jn [] (fun  (h53 : Heap) =>
  nn l1 fun (a54 : Addr) =>
  ld [.int .i64] (a54.add 3) h53 fun (v55 : Int) =>
  nn l1 fun (a56 : Addr) =>
  st (a56.add 4) [.int .i64 v55] h53 fun (h57 : Heap) =>
  Q r34 false h57) (fun (j36 : Heap → Prop) =>
  brr (r34 != 0)
  (nn l1 fun (a37 : Addr) =>
  st (a37.add 7) [.int .u64 r34] h35 fun (h38 : Heap) =>
  nn l1 fun (a39 : Addr) =>
  ld [.int .i64] (a39.add 3) h38 fun (v40 : Int) =>
  nn l1 fun (a41 : Addr) =>
  ld [.int .i64] (a41.add 2) h38 fun (v42 : Int) =>
  (2 : Int) ≠ 0 ∧
  jn [] (fun  (h52 : Heap) =>
  j36 h52) (fun (j43 : Heap → Prop) =>
  brr (decide (v40 > (IntKind.i64.wrap (v42.tdiv 2))))
  (nn l1 fun (a44 : Addr) =>
  ld [.int .i64] (a44.add 2) h38 fun (v45 : Int) =>
  nn l1 fun (a46 : Addr) =>
  st (a46.add 3) [.int .i64 v45] h38 fun (h47 : Heap) =>
  j43 h47)
  (nn l1 fun (a48 : Addr) =>
  ld [.int .i64] (a48.add 3) h38 fun (v49 : Int) =>
  nn l1 fun (a50 : Addr) =>
  st (a50.add 3) [.int .i64 (IntKind.i64.wrap (2 * v49))] h38 fun (h51 : Heap) =>
  j43 h51)))
  (j36 h35)))) (fun (j29 : Bool → Heap → Prop) =>
  nn l1 fun (a30 : Addr) =>
  ld [.int .i64] (a30.add 4) h28 fun (v31 : Int) =>
  brr (decide (v31 > 0))
  (j29 true h28)
  (j29 (!free4) h28))) (fun (j23 : Heap → Prop) =>
  brr (decide (v22 > 0))
  (nn l1 fun (a24 : Addr) =>
  ld [.int .i64] (a24.add 4) h16 fun (v25 : Int) =>
  nn l1 fun (a26 : Addr) =>
  st (a26.add 4) [.int .i64 (IntKind.i64.wrap (v25 - 1))] h16 fun (h27 : Heap) =>
  j23 h27)
  (j23 h16))))
def F_ref11_Lease_Tick (l1 : Option Addr) (phase2 : Int) (holds3 : Bool) (free4 : Bool) (h : Heap) (Q : Int → Bool → Heap → Prop) : Prop := F_ref11_Lease_Tick_of F_ref11_up F_ref11_Lease_next l1 phase2 holds3 free4 h Q
def plan52 : Plan := .s (.r [0, 1, 2, 3]) (.s (.r [0, 1, 2, 3]) (.s (.r [0, 1, 2, 3]) (.s (.s (.r [0, 1, 3, 27]) (.c (.s (.d [0, 1, 3, 7, 0, 16, 48, 112, 255, 0, 1023] [[0, 1, 2, 3, 4, 5, 6, 7, 8, 9, 10]] [8, 9]) .z) .z)) (.s (.s (.r [0, 3, 38]) (.c (.s (.r [8, 9]) .z) .z)) (.s (.s (.r [0, 3, 43]) (.cj [] [0, 3] (.r [0, 3]) .z)) (.s (.s (.rj [(59, .one .bool)] [0]) (.c (.s (.r [8, 9]) .z) .z)) (.s (.r [0, 10]) (.s (.s (.r [0, 10, 63]) (.cj [] [0, 10] (.s (.r [0, 10]) (.s (.d [0, 1, 3, 7, 0, 16, 48, 112, 240, 511] [[0, 1, 2, 3, 4, 5, 6, 7, 8, 9]] [0, 10, 77]) (.cj [] [0, 10] (.r [0, 10]) (.r [0, 10])))) .z)) (.s (.r [10]) (.s (.r [8, 9]) .z))))))))))
theorem F_ref11_Lease_Tick.eq (f70_ : Int → Heap → (Int → Heap → Prop) → Prop) (f71_ : Option Addr → Heap → (Int → Heap → Prop) → Prop) (l1 : Option Addr) (phase2 : Int) (holds3 : Bool) (free4 : Bool) (h : Heap) (K : Value → Heap → Prop) : F_ref11_Lease_Tick_of f70_ f71_ l1 phase2 holds3 free4 h (fun (r0 : Int) (r1 : Bool) (h : Heap) => K (.tuple #[.int .u64 r0, .bool r1]) h) =
    den Try.prog (fn1 70 (E_ref11_up_of f70_) (fn1 71 (E_ref11_Lease_next_of f71_) noFns)) Try.f52.ntmps plan52 (bodyOf Try.f52) (args0 0 [(.pointer l1 : Value), (.int .i64 phase2 : Value), (.bool holds3 : Value), (.bool free4 : Value)]) h ⟨fun env h => dRes Try.prog Try.f52.results.toList env h K, fun _ _ _ => False, fun env h => dRes Try.prog Try.f52.results.toList env h K⟩ := by kernel_rfl
def E_ref11_Lease_Tick_of (f : Option Addr → Int → Bool → Bool → Heap → (Int → Bool → Heap → Prop) → Prop) : List Value → Heap → (Value → Heap → Prop) → Prop
  | [v0, v1, v2, v3], h, K => dec1 .ptr v0 fun (l1 : Option Addr) =>
  dec1 (.int .i64) v1 fun (phase2 : Int) =>
  dec1 .bool v2 fun (holds3 : Bool) =>
  dec1 .bool v3 fun (free4 : Bool) =>
  f l1 phase2 holds3 free4 h (fun (r0 : Int) (r1 : Bool) (h : Heap) => K (.tuple #[.int .u64 r0, .bool r1]) h)
  | _, _, _ => False
abbrev E_ref11_Lease_Tick := E_ref11_Lease_Tick_of F_ref11_Lease_Tick
theorem E_ref11_Lease_Tick.right : IsRight Try.prog 52 E_ref11_Lease_Tick := by
  refine isRight fun vs K w hh => ?_
  match vs, hh with
  | [v0, v1, v2, v3], hh =>
    unfold E_ref11_Lease_Tick E_ref11_Lease_Tick_of at hh
    replace hh := dec1_sound hh; obtain ⟨l1, rfl, hh⟩ := hh
    replace hh := dec1_sound hh; obtain ⟨phase2, rfl, hh⟩ := hh
    replace hh := dec1_sound hh; obtain ⟨holds3, rfl, hh⟩ := hh
    replace hh := dec1_sound hh; obtain ⟨free4, rfl, hh⟩ := hh
    unfold F_ref11_Lease_Tick at hh
    exact calls_den (fn1_right ok70 E_ref11_up.right (fn1_right ok71 E_ref11_Lease_next.right noFns_right)) plan52 _ w K Try.func52 (by kernel_rfl) (by kernel_rfl) (Eq.mp (F_ref11_Lease_Tick.eq F_ref11_up F_ref11_Lease_next l1 phase2 holds3 free4 w.heap K) hh)
theorem ok52 : okFn Try.prog 52 = true := by kernel_rfl
end Go.Proofs.Ytboidjampddfoaa.V
