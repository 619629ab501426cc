import Derived.Test.YtboidjampddfoaaV10
import Derived.Test.YtboidjampddfoaaProg
import Derived.Test.YtboidjampddfoaaGlaw11begun
import Derived.Test.YtboidjampddfoaaGleaseNew
import Derived.Test.YtboidjampddfoaaGlaw11within
import Derived.Test.YtboidjampddfoaaGleaseLeaseTick
import Derived.Test.YtboidjampddfoaaGleaseLeasePatience
import Derived.Test.YtboidjampddfoaaGleaseLeaseBegun
import Derived.Test.YtboidjampddfoaaGleaseLeaseDone
import Derived.Test.YtboidjampddfoaaGleaseLeaseSpan
import Derived.Test.YtboidjampddfoaaGlaw11at
namespace Go.Proofs.Ytboidjampddfoaa.V
open Go Go.RowKit
set_option linter.unusedVariables false
set_option maxRecDepth 100000
/-! tally/tallylaw11.LeaseFence -/
def F_law11_LeaseFence.l1 (f35_ : Int → Int → Heap → (Int → Heap → Prop) → Prop) (f36_ : Option Addr → Int → Bool → Bool → Heap → (Int → Bool → Heap → Prop) → Prop) (a6 : Addr) (r13 : Option Addr) (j15 : Heap → Prop) : Int → Heap → Prop :=
  wl [(4, .one (.int .i64))] (fun (next16 : Int → Heap → Prop) (k17 : Int) (h18 : Heap) =>
  ld [.int .i64] (a6.add 1) h18 fun (v19 : Int) =>
  f35_ v19 7 h18 fun (r20 : Int) (h21 : Heap) =>
  brr (decide (k17 < r20))
  (f36_ r13 0 false true h21 fun (r22 : Int) (r23 : Bool) (h24 : Heap) =>
  jn [(4, .one (.int .i64))] (fun (k26 : Int) (h27 : Heap) =>
  next16 k26 h27) (fun (j25 : Int → Heap → Prop) =>
  brr (r22 != 0)
  (j25 (IntKind.i64.wrap (k17 + 1)) h24)
  (j25 k17 h24)))
  (j15 h21))
def F_law11_LeaseFence.l2 (f33_ : Heap → (Bool → Heap → Prop) → Prop) (f36_ : Option Addr → Int → Bool → Bool → Heap → (Int → Bool → Heap → Prop) → Prop) (f38_ : Option Addr → Heap → (Heap → Prop) → Prop) (f39_ : Option Addr → Heap → (Heap → Prop) → Prop) (f40_ : Option Addr → Heap → (Int → Heap → Prop) → Prop) (Q : Bool → Heap → Prop) (r13 : Option Addr) (r29 : Int) (r44 : Int) (r47 : Int) (r50 : Int) (j52 : Int → Int → Int → Heap → Prop) : Int → Int → Int → Int → Int → Heap → Prop :=
  wl [(8, .one (.int .i64)), (9, .one (.int .i64)), (10, .one (.int .i64)), (15, .one (.int .i64)), (16, .one (.int .i64))] (fun (next53 : Int → Int → Int → Int → Int → Heap → Prop) (wait54 : Int) (now55 : Int) (begin56 : Int) (from_57 : Int) (x58 : Int) (h59 : Heap) =>
  brr (decide (x58 ≤ (IntKind.i64.wrap ((IntKind.i64.wrap (1 + r44)) + r47))))
  (jn [(15, .one (.int .i64))] (fun (from_62 : Int) (h63 : Heap) =>
  jn [(8, .one (.int .i64))] (fun (wait67 : Int) (h68 : Heap) =>
  brr (x58 == (IntKind.i64.wrap ((IntKind.i64.wrap (1 + r44)) + r47)))
  (f39_ r13 h68 fun  (h69 : Heap) =>
  j52 wait67 now55 from_62 h69)
  (jn [(8, .one (.int .i64))] (fun (wait71 : Int) (h72 : Heap) =>
  f36_ r13 3 true false h72 fun (r73 : Int) (r74 : Bool) (h75 : Heap) =>
  brr (!(r74 == (decide ((IntKind.i64.wrap ((IntKind.i64.wrap (now55 + 1)) - begin56)) ≥ r29))))
  (Q false h75)
  (brr r74
  (f33_ h75 fun (r76 : Bool) (h77 : Heap) =>
  Q r76 h77)
  (brr (decide (wait71 < 1))
  (Q false h75)
  (next53 wait71 (IntKind.i64.wrap (now55 + 1)) begin56 from_62 (IntKind.i64.wrap (x58 + 1)) h75)))) (fun (j70 : Int → Heap → Prop) =>
  brr (decide (wait67 > 0))
  (j70 (IntKind.i64.wrap (wait67 - 1)) h68)
  (j70 wait67 h68)))) (fun (j64 : Int → Heap → Prop) =>
  brr (x58 == (IntKind.i64.wrap ((IntKind.i64.wrap (1 + r44)) + r50)))
  (f40_ r13 h63 fun (r65 : Int) (h66 : Heap) =>
  j64 r65 h66)
  (j64 wait54 h63))) (fun (j60 : Int → Heap → Prop) =>
  brr (x58 == (IntKind.i64.wrap (1 + r44)))
  (f38_ r13 h59 fun  (h61 : Heap) =>
  j60 now55 h61)
  (j60 from_57 h59)))
  (j52 wait54 now55 begin56 h59))
def F_law11_LeaseFence.l3 (f33_ : Heap → (Bool → Heap → Prop) → Prop) (f36_ : Option Addr → Int → Bool → Bool → Heap → (Int → Bool → Heap → Prop) → Prop) (f38_ : Option Addr → Heap → (Heap → Prop) → Prop) (f39_ : Option Addr → Heap → (Heap → Prop) → Prop) (f40_ : Option Addr → Heap → (Int → Heap → Prop) → Prop) (f41_ : Sl → Int → Int → Heap → (Int → Heap → Prop) → Prop) (Q : Bool → Heap → Prop) (a6 : Addr) (r13 : Option Addr) (r29 : Int) (j35 : Heap → Prop) : Int → Int → Int → Int → Heap → Prop :=
  wl [(8, .one (.int .i64)), (9, .one (.int .i64)), (10, .one (.int .i64)), (11, .one (.int .i64))] (fun (next36 : Int → Int → Int → Int → Heap → Prop) (wait37 : Int) (now38 : Int) (begin39 : Int) (i40 : Int) (h41 : Heap) =>
  brr (decide (i40 < 40))
  (jn [(8, .one (.int .i64)), (9, .one (.int .i64)), (10, .one (.int .i64))] (fun (wait82 : Int) (now83 : Int) (begin84 : Int) (h85 : Heap) =>
  next36 wait82 now83 begin84 (IntKind.i64.wrap (i40 + 1)) h85) (fun (j42 : Int → Int → Int → Heap → Prop) =>
  ld [.sl] (a6.add 2) h41 fun (v43 : Sl) =>
  f41_ v43 i40 5 h41 fun (r44 : Int) (h45 : Heap) =>
  ld [.sl] (a6.add 3) h45 fun (v46 : Sl) =>
  f41_ v46 i40 30 h45 fun (r47 : Int) (h48 : Heap) =>
  ld [.sl] (a6.add 4) h48 fun (v49 : Sl) =>
  f41_ v49 i40 (IntKind.i64.wrap (r47 + 1)) h48 fun (r50 : Int) (h51 : Heap) =>
  jn [(8, .one (.int .i64)), (9, .one (.int .i64)), (10, .one (.int .i64))] (fun (wait78 : Int) (now79 : Int) (begin80 : Int) (h81 : Heap) =>
  j42 wait78 now79 begin80 h81) (fun (j52 : Int → Int → Int → Heap → Prop) =>
  F_law11_LeaseFence.l2 f33_ f36_ f38_ f39_ f40_ Q r13 r29 r44 r47 r50 j52 wait37 now38 begin39 0 0 h51)))
  (j35 h41))
def F_law11_LeaseFence_of (f33_ : Heap → (Bool → Heap → Prop) → Prop) (f34_ : Int → Int → Int → Int → Heap → (Option Addr → Heap → Prop) → Prop) (f35_ : Int → Int → Heap → (Int → Heap → Prop) → Prop) (f36_ : Option Addr → Int → Bool → Bool → Heap → (Int → Bool → Heap → Prop) → Prop) (f37_ : Option Addr → Heap → (Int → Heap → Prop) → Prop) (f38_ : Option Addr → Heap → (Heap → Prop) → Prop) (f39_ : Option Addr → Heap → (Heap → Prop) → Prop) (f40_ : Option Addr → Heap → (Int → Heap → Prop) → Prop) (f41_ : Sl → Int → Int → Heap → (Int → Heap → Prop) → Prop) (t1 : Int) (t2 : Int) (t3 : Sl) (t4 : Sl) (t5 : Sl) (h : Heap) (Q : Bool → Heap → Prop) : Prop :=
  al 72 [.int .i64 t1, .int .i64 t2, .slice t3.ptr t3.len t3.cap, .slice t4.ptr t4.len t4.cap, .slice t5.ptr t5.len t5.cap] h fun (a6 : Addr) (h7 : Heap) =>
  f33_ h7 fun (r8 : Bool) (h9 : Heap) =>
  brr (!r8)
  (Q false h9)
  (ld [.int .i64] (a6.add 0) h9 fun (v10 : Int) =>
  f35_ v10 100 h9 fun (r11 : Int) (h12 : Heap) =>
  f34_ 0 1 (IntKind.i64.wrap (4 + r11)) 0 h12 fun (r13 : Option Addr) (h14 : Heap) =>
  jn [] (fun  (h28 : Heap) =>
  f37_ r13 h28 fun (r29 : Int) (h30 : Heap) =>
  f38_ r13 h30 fun  (h31 : Heap) =>
  f39_ r13 h31 fun  (h32 : Heap) =>
  f40_ r13 h32 fun (r33 : Int) (h34 : Heap) =>
  jn [] (fun  (h86 : Heap) =>
  f33_ h86 fun (r87 : Bool) (h88 : Heap) =>
  Q r87 h88) (fun (j35 : Heap → Prop) =>
  F_law11_LeaseFence.l3 f33_ f36_ f38_ f39_ f40_ f41_ Q a6 r13 r29 j35 r33 0 0 0 h34)) (fun (j15 : Heap → Prop) =>
  F_law11_LeaseFence.l1 f35_ f36_ a6 r13 j15 0 h14))
def F_law11_LeaseFence (t1 : Int) (t2 : Int) (t3 : Sl) (t4 : Sl) (t5 : Sl) (h : Heap) (Q : Bool → Heap → Prop) : Prop := F_law11_LeaseFence_of F_law11_begun F_lease_New F_law11_within F_lease_Lease_Tick F_lease_Lease_Patience F_lease_Lease_Begun F_lease_Lease_Done F_lease_Lease_Span F_law11_at t1 t2 t3 t4 t5 h Q
def plan10 : Plan := .s (.r [1]) (.s (.s (.r [1, 20]) (.c (.s (.r [2]) .z) .z)) (.s (.r [1, 3]) (.s (.s (.r [1, 3, 4]) (.bj [] [1, 3] (.l [(4, .one (.int .i64))] [1, 3] (.s (.s (.r [1, 3, 4, 30]) (.c .z .z)) (.b (.s (.r [1, 3, 4, 5]) (.s (.r [1, 3, 4, 37]) (.cj [(4, .one (.int .i64))] [1, 3] (.r [1, 3, 4]) .z)))))))) (.s (.r [1, 3, 7]) (.s (.r [1, 3, 7]) (.s (.r [1, 3, 7]) (.s (.r [1, 3, 7, 8]) (.s (.r [1, 3, 7, 8, 9]) (.s (.r [1, 3, 7, 8, 9, 10]) (.s (.s (.r [1, 3, 7, 8, 9, 10, 11]) (.bj [] [] (.l [(8, .one (.int .i64)), (9, .one (.int .i64)), (10, .one (.int .i64)), (11, .one (.int .i64))] [1, 3, 7] (.s (.s (.r [1, 3, 7, 8, 9, 10, 11, 49]) (.c .z .z)) (.s (.bj [(8, .one (.int .i64)), (9, .one (.int .i64)), (10, .one (.int .i64))] [1, 3, 7, 11] (.s (.r [1, 3, 7, 8, 9, 10, 11, 12]) (.s (.r [1, 3, 7, 8, 9, 10, 11, 12, 13]) (.s (.r [1, 3, 7, 8, 9, 10, 11, 12, 13, 14]) (.s (.r [1, 3, 7, 8, 9, 10, 11, 12, 13, 14, 15]) (.s (.r [1, 3, 7, 8, 9, 10, 11, 12, 13, 14, 15, 16]) (.bj [(8, .one (.int .i64)), (9, .one (.int .i64)), (10, .one (.int .i64))] [1, 3, 7, 11] (.l [(8, .one (.int .i64)), (9, .one (.int .i64)), (10, .one (.int .i64)), (15, .one (.int .i64)), (16, .one (.int .i64))] [1, 3, 7, 11, 12, 13, 14] (.s (.s (.r [1, 3, 7, 8, 9, 10, 11, 12, 13, 14, 15, 16, 71]) (.c .z .z)) (.s (.b (.s (.s (.r [1, 3, 7, 8, 9, 10, 11, 12, 13, 14, 15, 16, 76]) (.cj [(15, .one (.int .i64))] [1, 3, 7, 8, 9, 10, 11, 12, 13, 14, 16] (.s (.r [1, 3, 7, 8, 9, 10, 11, 12, 13, 14, 16]) (.r [1, 3, 7, 8, 9, 10, 11, 12, 13, 14, 15, 16])) .z)) (.s (.s (.r [1, 3, 7, 8, 9, 10, 11, 12, 13, 14, 15, 16, 84]) (.cj [(8, .one (.int .i64))] [1, 3, 7, 9, 10, 11, 12, 13, 14, 15, 16] (.r [1, 3, 7, 8, 9, 10, 11, 12, 13, 14, 15, 16]) .z)) (.s (.s (.r [1, 3, 7, 8, 9, 10, 11, 12, 13, 14, 15, 16, 91]) (.c (.s (.r [1, 3, 7, 8, 9, 11, 15]) (.s (.r [1, 3, 7, 8, 9, 10, 11]) .z)) .z)) (.s (.r [1, 3, 7, 8, 9, 10, 11, 12, 13, 14, 15, 16]) (.s (.s (.r [1, 3, 7, 8, 9, 10, 11, 12, 13, 14, 15, 16, 98]) (.cj [(8, .one (.int .i64))] [1, 3, 7, 9, 10, 11, 12, 13, 14, 15, 16] (.r [1, 3, 7, 8, 9, 10, 11, 12, 13, 14, 15, 16]) .z)) (.s (.r [1, 3, 7, 8, 9, 10, 11, 12, 13, 14, 15, 16, 18]) (.s (.s (.r [1, 3, 7, 8, 9, 10, 11, 12, 13, 14, 15, 16, 18, 112]) (.c (.s (.r [2]) .z) .z)) (.s (.s (.r [1, 3, 7, 8, 9, 10, 11, 12, 13, 14, 15, 16, 113]) (.c (.s (.r [2]) .z) .z)) (.s (.r [1, 3, 7, 8, 9, 10, 11, 12, 13, 14, 15, 16, 116]) (.c (.s (.r [2]) .z) .z))))))))))) (.r [1, 3, 7, 8, 9, 10, 11, 12, 13, 14, 15, 16]))))))))))) (.r [1, 3, 7, 8, 9, 10, 11])))))) (.s (.r [2]) .z)))))))))))
theorem F_law11_LeaseFence.eq (f33_ : Heap → (Bool → Heap → Prop) → Prop) (f34_ : Int → Int → Int → Int → Heap → (Option Addr → Heap → Prop) → Prop) (f35_ : Int → Int → Heap → (Int → Heap → Prop) → Prop) (f36_ : Option Addr → Int → Bool → Bool → Heap → (Int → Bool → Heap → Prop) → Prop) (f37_ : Option Addr → Heap → (Int → Heap → Prop) → Prop) (f38_ : Option Addr → Heap → (Heap → Prop) → Prop) (f39_ : Option Addr → Heap → (Heap → Prop) → Prop) (f40_ : Option Addr → Heap → (Int → Heap → Prop) → Prop) (f41_ : Sl → Int → Int → Heap → (Int → Heap → Prop) → Prop) (t1 : Int) (t2 : Int) (t3 : Sl) (t4 : Sl) (t5 : Sl) (h : Heap) (K : Value → Heap → Prop) : F_law11_LeaseFence_of f33_ f34_ f35_ f36_ f37_ f38_ f39_ f40_ f41_ t1 t2 t3 t4 t5 h (fun (r0 : Bool) (h : Heap) => K (.bool r0) h) =
    den Try.prog (fn1 33 (E_law11_begun_of f33_) (fn1 34 (E_lease_New_of f34_) (fn1 35 (E_law11_within_of f35_) (fn1 36 (E_lease_Lease_Tick_of f36_) (fn1 37 (E_lease_Lease_Patience_of f37_) (fn1 38 (E_lease_Lease_Begun_of f38_) (fn1 39 (E_lease_Lease_Done_of f39_) (fn1 40 (E_lease_Lease_Span_of f40_) (fn1 41 (E_law11_at_of f41_) noFns))))))))) Try.f10.ntmps plan10 (bodyOf Try.f10) (args0 0 [(.agg #[.int .i64 t1, .int .i64 t2, .slice t3.ptr t3.len t3.cap, .slice t4.ptr t4.len t4.cap, .slice t5.ptr t5.len t5.cap] : Value)]) h ⟨fun env h => dRes Try.prog Try.f10.results.toList env h K, fun _ _ _ => False, fun env h => dRes Try.prog Try.f10.results.toList env h K⟩ := by kernel_rfl
def E_law11_LeaseFence_of (f : Int → Int → Sl → Sl → Sl → Heap → (Bool → Heap → Prop) → Prop) : List Value → Heap → (Value → Heap → Prop) → Prop
  | [v0], h, K => vAgg v0 fun cs0 => decs [.int .i64, .int .i64, .sl, .sl, .sl] cs0.toList fun (t1 : Int) (t2 : Int) (t3 : Sl) (t4 : Sl) (t5 : Sl) =>
  f t1 t2 t3 t4 t5 h (fun (r0 : Bool) (h : Heap) => K (.bool r0) h)
  | _, _, _ => False
abbrev E_law11_LeaseFence := E_law11_LeaseFence_of F_law11_LeaseFence
theorem E_law11_LeaseFence.at (f : Int → Int → Sl → Sl → Sl → Heap → (Bool → Heap → Prop) → Prop) (t1 : Int) (t2 : Int) (t3 : Sl) (t4 : Sl) (t5 : Sl) (h : Heap) (K : Value → Heap → Prop) : E_law11_LeaseFence_of f [.agg ([.int .i64 t1, .int .i64 t2, .slice t3.ptr t3.len t3.cap, .slice t4.ptr t4.len t4.cap, .slice t5.ptr t5.len t5.cap] : List Value).toArray] h K = f t1 t2 t3 t4 t5 h (fun (r0 : Bool) (h : Heap) => K (.bool r0) h) := rfl
theorem E_law11_LeaseFence.right : IsRight Try.prog 10 E_law11_LeaseFence := by
  refine isRight fun vs K w hh => ?_
  match vs, hh with
  | [v0], hh =>
    unfold E_law11_LeaseFence E_law11_LeaseFence_of at hh
    replace hh := vAgg_sound hh; obtain ⟨cs0, rfl, hh⟩ := hh
    replace hh := decs_cons hh; obtain ⟨t1, l0_0, e0_0, hh⟩ := hh
    replace hh := decs_cons hh; obtain ⟨t2, l0_1, e0_1, hh⟩ := hh
    replace hh := decs_cons hh; obtain ⟨t3, l0_2, e0_2, hh⟩ := hh
    replace hh := decs_cons hh; obtain ⟨t4, l0_3, e0_3, hh⟩ := hh
    replace hh := decs_cons hh; obtain ⟨t5, l0_4, e0_4, hh⟩ := hh
    replace hh := decs_nil hh; obtain ⟨rfl, hh⟩ := hh
    subst e0_4
    subst e0_3
    subst e0_2
    subst e0_1
    have ec0 := toArray_eq e0_0
    subst ec0
    unfold F_law11_LeaseFence at hh
    exact calls_den (fn1_right ok33 E_law11_begun.right (fn1_right ok34 E_lease_New.right (fn1_right ok35 E_law11_within.right (fn1_right ok36 E_lease_Lease_Tick.right (fn1_right ok37 E_lease_Lease_Patience.right (fn1_right ok38 E_lease_Lease_Begun.right (fn1_right ok39 E_lease_Lease_Done.right (fn1_right ok40 E_lease_Lease_Span.right (fn1_right ok41 E_law11_at.right noFns_right))))))))) plan10 _ w K Try.func10 (by kernel_rfl) (by kernel_rfl) (Eq.mp (F_law11_LeaseFence.eq F_law11_begun F_lease_New F_law11_within F_lease_Lease_Tick F_lease_Lease_Patience F_lease_Lease_Begun F_lease_Lease_Done F_lease_Lease_Span F_law11_at t1 t2 t3 t4 t5 w.heap K) hh)
theorem ok10 : okFn Try.prog 10 = true := by kernel_rfl
end Go.Proofs.Ytboidjampddfoaa.V
