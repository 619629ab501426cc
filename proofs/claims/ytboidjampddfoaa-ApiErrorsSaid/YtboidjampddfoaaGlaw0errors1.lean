import Derived.Test.YtboidjampddfoaaV10
import Derived.Test.YtboidjampddfoaaProg
import Derived.Test.YtboidjampddfoaaGlaw0num
namespace Go.Proofs.Ytboidjampddfoaa.V
open Go Go.RowKit
set_option linter.unusedVariables false
set_option maxRecDepth 100000
/-! tally/tallylaw0.errors1 -/
def F_law0_errors1_of (f54_ : Int → Heap → (Int → Heap → Prop) → Prop)  (h : Heap) (Q : Sl → Heap → Prop) : Prop :=
  f54_ 0 h fun (r1 : Int) (h2 : Heap) =>
  f54_ 10 h2 fun (r3 : Int) (h4 : Heap) =>
  f54_ 11 h4 fun (r5 : Int) (h6 : Heap) =>
  f54_ 12 h6 fun (r7 : Int) (h8 : Heap) =>
  f54_ 13 h8 fun (r9 : Int) (h10 : Heap) =>
  f54_ 14 h10 fun (r11 : Int) (h12 : Heap) =>
  f54_ 20 h12 fun (r13 : Int) (h14 : Heap) =>
  f54_ 21 h14 fun (r15 : Int) (h16 : Heap) =>
  f54_ 22 h16 fun (r17 : Int) (h18 : Heap) =>
  f54_ 23 h18 fun (r19 : Int) (h20 : Heap) =>
  f54_ 30 h20 fun (r21 : Int) (h22 : Heap) =>
  f54_ 40 h22 fun (r23 : Int) (h24 : Heap) =>
  f54_ 41 h24 fun (r25 : Int) (h26 : Heap) =>
  f54_ 42 h26 fun (r27 : Int) (h28 : Heap) =>
  f54_ 43 h28 fun (r29 : Int) (h30 : Heap) =>
  f54_ 44 h30 fun (r31 : Int) (h32 : Heap) =>
  f54_ 45 h32 fun (r33 : Int) (h34 : Heap) =>
  f54_ 46 h34 fun (r35 : Int) (h36 : Heap) =>
  f54_ 50 h36 fun (r37 : Int) (h38 : Heap) =>
  f54_ 51 h38 fun (r39 : Int) (h40 : Heap) =>
  f54_ 52 h40 fun (r41 : Int) (h42 : Heap) =>
  f54_ 60 h42 fun (r43 : Int) (h44 : Heap) =>
  f54_ 70 h44 fun (r45 : Int) (h46 : Heap) =>
  f54_ 80 h46 fun (r47 : Int) (h48 : Heap) =>
  f54_ 81 h48 fun (r49 : Int) (h50 : Heap) =>
  f54_ 82 h50 fun (r51 : Int) (h52 : Heap) =>
  f54_ 83 h52 fun (r53 : Int) (h54 : Heap) =>
  f54_ 120 h54 fun (r55 : Int) (h56 : Heap) =>
  f54_ 150 h56 fun (r57 : Int) (h58 : Heap) =>
  f54_ 151 h58 fun (r59 : Int) (h60 : Heap) =>
  f54_ 160 h60 fun (r61 : Int) (h62 : Heap) =>
  f54_ 161 h62 fun (r63 : Int) (h64 : Heap) =>
  f54_ 162 h64 fun (r65 : Int) (h66 : Heap) =>
  f54_ 170 h66 fun (r67 : Int) (h68 : Heap) =>
  f54_ 171 h68 fun (r69 : Int) (h70 : Heap) =>
  f54_ 180 h70 fun (r71 : Int) (h72 : Heap) =>
  f54_ 300 h72 fun (r73 : Int) (h74 : Heap) =>
  f54_ 301 h74 fun (r75 : Int) (h76 : Heap) =>
  f54_ 302 h76 fun (r77 : Int) (h78 : Heap) =>
  f54_ 303 h78 fun (r79 : Int) (h80 : Heap) =>
  f54_ 304 h80 fun (r81 : Int) (h82 : Heap) =>
  f54_ 305 h82 fun (r83 : Int) (h84 : Heap) =>
  f54_ 306 h84 fun (r85 : Int) (h86 : Heap) =>
  f54_ 307 h86 fun (r87 : Int) (h88 : Heap) =>
  al 98 [.int .i64 r1, .int .i64 0, .int .i64 r3, .int .i64 10, .int .i64 r5, .int .i64 11, .int .i64 r7, .int .i64 12, .int .i64 r9, .int .i64 13, .int .i64 r11, .int .i64 14, .int .i64 r13, .int .i64 20, .int .i64 r15, .int .i64 21, .int .i64 r17, .int .i64 22, .int .i64 r19, .int .i64 23, .int .i64 r21, .int .i64 30, .int .i64 r23, .int .i64 40, .int .i64 r25, .int .i64 41, .int .i64 r27, .int .i64 42, .int .i64 r29, .int .i64 43, .int .i64 r31, .int .i64 44, .int .i64 r33, .int .i64 45, .int .i64 r35, .int .i64 46, .int .i64 r37, .int .i64 50, .int .i64 r39, .int .i64 51, .int .i64 r41, .int .i64 52, .int .i64 r43, .int .i64 60, .int .i64 r45, .int .i64 70, .int .i64 r47, .int .i64 80, .int .i64 r49, .int .i64 81, .int .i64 r51, .int .i64 82, .int .i64 r53, .int .i64 83, .int .i64 r55, .int .i64 120, .int .i64 r57, .int .i64 150, .int .i64 r59, .int .i64 151, .int .i64 r61, .int .i64 160, .int .i64 r63, .int .i64 161, .int .i64 r65, .int .i64 162, .int .i64 r67, .int .i64 170, .int .i64 r69, .int .i64 171, .int .i64 r71, .int .i64 180, .int .i64 r73, .int .i64 300, .int .i64 r75, .int .i64 301, .int .i64 r77, .int .i64 302, .int .i64 r79, .int .i64 303, .int .i64 r81, .int .i64 304, .int .i64 r83, .int .i64 305, .int .i64 r85, .int .i64 306, .int .i64 r87, .int .i64 307] h88 fun (a89 : Addr) (h90 : Heap) =>
  Q ⟨(some a89), 44, 44⟩ h90
def F_law0_errors1  (h : Heap) (Q : Sl → Heap → Prop) : Prop := F_law0_errors1_of F_law0_num  h Q
def plan15 : Plan := .s (.r []) (.s (.r [0]) .z)
noncomputable def ops15 : Array Oper := match bodyOf Try.f15 with
  | .seq _ (.seq (.region _ ops _) _) => ops
  | _ => #[]
noncomputable def ops15z : Array Oper := match bodyOf Try.f15 with
  | .seq (.region _ ops _) _ => ops
  | _ => #[]
theorem F_law0_errors1.calls (f54_ : Int → Heap → (Int → Heap → Prop) → Prop) (h : Heap) (K : Env → Heap → Prop) :
  (f54_ 0 h fun (r1 : Int) (h1 : Heap) =>
  f54_ 10 h1 fun (r3 : Int) (h3 : Heap) =>
  f54_ 11 h3 fun (r5 : Int) (h5 : Heap) =>
  f54_ 12 h5 fun (r7 : Int) (h7 : Heap) =>
  f54_ 13 h7 fun (r9 : Int) (h9 : Heap) =>
  f54_ 14 h9 fun (r11 : Int) (h11 : Heap) =>
  f54_ 20 h11 fun (r13 : Int) (h13 : Heap) =>
  f54_ 21 h13 fun (r15 : Int) (h15 : Heap) =>
  f54_ 22 h15 fun (r17 : Int) (h17 : Heap) =>
  f54_ 23 h17 fun (r19 : Int) (h19 : Heap) =>
  f54_ 30 h19 fun (r21 : Int) (h21 : Heap) =>
  f54_ 40 h21 fun (r23 : Int) (h23 : Heap) =>
  f54_ 41 h23 fun (r25 : Int) (h25 : Heap) =>
  f54_ 42 h25 fun (r27 : Int) (h27 : Heap) =>
  f54_ 43 h27 fun (r29 : Int) (h29 : Heap) =>
  f54_ 44 h29 fun (r31 : Int) (h31 : Heap) =>
  f54_ 45 h31 fun (r33 : Int) (h33 : Heap) =>
  f54_ 46 h33 fun (r35 : Int) (h35 : Heap) =>
  f54_ 50 h35 fun (r37 : Int) (h37 : Heap) =>
  f54_ 51 h37 fun (r39 : Int) (h39 : Heap) =>
  f54_ 52 h39 fun (r41 : Int) (h41 : Heap) =>
  f54_ 60 h41 fun (r43 : Int) (h43 : Heap) =>
  f54_ 70 h43 fun (r45 : Int) (h45 : Heap) =>
  f54_ 80 h45 fun (r47 : Int) (h47 : Heap) =>
  f54_ 81 h47 fun (r49 : Int) (h49 : Heap) =>
  f54_ 82 h49 fun (r51 : Int) (h51 : Heap) =>
  f54_ 83 h51 fun (r53 : Int) (h53 : Heap) =>
  f54_ 120 h53 fun (r55 : Int) (h55 : Heap) =>
  f54_ 150 h55 fun (r57 : Int) (h57 : Heap) =>
  f54_ 151 h57 fun (r59 : Int) (h59 : Heap) =>
  f54_ 160 h59 fun (r61 : Int) (h61 : Heap) =>
  f54_ 161 h61 fun (r63 : Int) (h63 : Heap) =>
  f54_ 162 h63 fun (r65 : Int) (h65 : Heap) =>
  f54_ 170 h65 fun (r67 : Int) (h67 : Heap) =>
  f54_ 171 h67 fun (r69 : Int) (h69 : Heap) =>
  f54_ 180 h69 fun (r71 : Int) (h71 : Heap) =>
  f54_ 300 h71 fun (r73 : Int) (h73 : Heap) =>
  f54_ 301 h73 fun (r75 : Int) (h75 : Heap) =>
  f54_ 302 h75 fun (r77 : Int) (h77 : Heap) =>
  f54_ 303 h77 fun (r79 : Int) (h79 : Heap) =>
  f54_ 304 h79 fun (r81 : Int) (h81 : Heap) =>
  f54_ 305 h81 fun (r83 : Int) (h83 : Heap) =>
  f54_ 306 h83 fun (r85 : Int) (h85 : Heap) =>
  f54_ 307 h85 fun (r87 : Int) (h87 : Heap) =>
   K [(88, .agg #[.int .i64 r87, .int .i64 307]), (87, .int .i64 r87), (86, .agg #[.int .i64 r85, .int .i64 306]), (85, .int .i64 r85), (84, .agg #[.int .i64 r83, .int .i64 305]), (83, .int .i64 r83), (82, .agg #[.int .i64 r81, .int .i64 304]), (81, .int .i64 r81), (80, .agg #[.int .i64 r79, .int .i64 303]), (79, .int .i64 r79), (78, .agg #[.int .i64 r77, .int .i64 302]), (77, .int .i64 r77), (76, .agg #[.int .i64 r75, .int .i64 301]), (75, .int .i64 r75), (74, .agg #[.int .i64 r73, .int .i64 300]), (73, .int .i64 r73), (72, .agg #[.int .i64 r71, .int .i64 180]), (71, .int .i64 r71), (70, .agg #[.int .i64 r69, .int .i64 171]), (69, .int .i64 r69), (68, .agg #[.int .i64 r67, .int .i64 170]), (67, .int .i64 r67), (66, .agg #[.int .i64 r65, .int .i64 162]), (65, .int .i64 r65), (64, .agg #[.int .i64 r63, .int .i64 161]), (63, .int .i64 r63), (62, .agg #[.int .i64 r61, .int .i64 160]), (61, .int .i64 r61), (60, .agg #[.int .i64 r59, .int .i64 151]), (59, .int .i64 r59), (58, .agg #[.int .i64 r57, .int .i64 150]), (57, .int .i64 r57), (56, .agg #[.int .i64 r55, .int .i64 120]), (55, .int .i64 r55), (54, .agg #[.int .i64 r53, .int .i64 83]), (53, .int .i64 r53), (52, .agg #[.int .i64 r51, .int .i64 82]), (51, .int .i64 r51), (50, .agg #[.int .i64 r49, .int .i64 81]), (49, .int .i64 r49), (48, .agg #[.int .i64 r47, .int .i64 80]), (47, .int .i64 r47), (46, .agg #[.int .i64 r45, .int .i64 70]), (45, .int .i64 r45), (44, .agg #[.int .i64 r43, .int .i64 60]), (43, .int .i64 r43), (42, .agg #[.int .i64 r41, .int .i64 52]), (41, .int .i64 r41), (40, .agg #[.int .i64 r39, .int .i64 51]), (39, .int .i64 r39), (38, .agg #[.int .i64 r37, .int .i64 50]), (37, .int .i64 r37), (36, .agg #[.int .i64 r35, .int .i64 46]), (35, .int .i64 r35), (34, .agg #[.int .i64 r33, .int .i64 45]), (33, .int .i64 r33), (32, .agg #[.int .i64 r31, .int .i64 44]), (31, .int .i64 r31), (30, .agg #[.int .i64 r29, .int .i64 43]), (29, .int .i64 r29), (28, .agg #[.int .i64 r27, .int .i64 42]), (27, .int .i64 r27), (26, .agg #[.int .i64 r25, .int .i64 41]), (25, .int .i64 r25), (24, .agg #[.int .i64 r23, .int .i64 40]), (23, .int .i64 r23), (22, .agg #[.int .i64 r21, .int .i64 30]), (21, .int .i64 r21), (20, .agg #[.int .i64 r19, .int .i64 23]), (19, .int .i64 r19), (18, .agg #[.int .i64 r17, .int .i64 22]), (17, .int .i64 r17), (16, .agg #[.int .i64 r15, .int .i64 21]), (15, .int .i64 r15), (14, .agg #[.int .i64 r13, .int .i64 20]), (13, .int .i64 r13), (12, .agg #[.int .i64 r11, .int .i64 14]), (11, .int .i64 r11), (10, .agg #[.int .i64 r9, .int .i64 13]), (9, .int .i64 r9), (8, .agg #[.int .i64 r7, .int .i64 12]), (7, .int .i64 r7), (6, .agg #[.int .i64 r5, .int .i64 11]), (5, .int .i64 r5), (4, .agg #[.int .i64 r3, .int .i64 10]), (3, .int .i64 r3), (2, .agg #[.int .i64 r1, .int .i64 0]), (1, .int .i64 r1)] h87) = dOps Try.prog (fn1 54 (E_law0_num_of f54_) noFns) Try.f15.ntmps ops15 (ops15.toList.take 88) [] h K := by kernel_rfl
theorem dOps_append {P : Program} {Φ : Fns} {n : Nat} {ops : Array Oper} : ∀ (l m : List Oper) (env : Env) (h : Heap) (K : Env → Heap → Prop), dOps P Φ n ops (l ++ m) env h K = dOps P Φ n ops l env h fun env h => dOps P Φ n ops m env h K
  | [], m, env, h, K => rfl
  | o :: l, m, env, h, K => by
    simp only [List.cons_append, dOps]
    congr 2
    funext env h
    exact dOps_append l m env h K
theorem F_law0_errors1.body : bodyOf Try.f15 = .seq (.region 0 ops15z false) (.seq (.region 1 ops15 false) .ret) := by kernel_rfl
theorem F_law0_errors1.zero (Φ : Fns) (h : Heap) (K : Env → Heap → Prop) : dOps Try.prog Φ Try.f15.ntmps ops15z ops15z.toList (args0 0 []) h (fun env h => forceE (restr [] env) fun env => K env h) = K [] h := by kernel_rfl
theorem den15 {P : Program} {Φ : Fns} {n : Nat} {o1 o2 : Array Oper} {env : Env} {h : Heap} {κ : Cont} (l1 l2 : List Oper) (hl : o2.toList = l1 ++ l2) : den P Φ n (.s (.r []) (.s (.r [0]) .z)) (.seq (.region 0 o1 false) (.seq (.region 1 o2 false) .ret)) env h κ =
    dOps P Φ n o1 o1.toList env h fun env h => forceE (restr [] env) fun env => dOps P Φ n o2 l1 env h fun env h => dOps P Φ n o2 l2 env h fun env h => forceE (restr [0] env) fun env => κ.kr env h := by
  simp only [den, hl, dOps_append]
theorem F_law0_errors1.eq (f54_ : Int → Heap → (Int → Heap → Prop) → Prop)  (h : Heap) (K : Value → Heap → Prop) : F_law0_errors1_of f54_  h (fun (r0 : Sl) (h : Heap) => K (.slice r0.ptr r0.len r0.cap) h) =
    den Try.prog (fn1 54 (E_law0_num_of f54_) noFns) Try.f15.ntmps plan15 (bodyOf Try.f15) (args0 0 []) h ⟨fun env h => dRes Try.prog Try.f15.results.toList env h K, fun _ _ _ => False, fun env h => dRes Try.prog Try.f15.results.toList env h K⟩ := by
  rewrite [F_law0_errors1.body]
  unfold plan15
  rewrite [den15 (ops15.toList.take 88) (ops15.toList.drop 88) (List.take_append_drop 88 ops15.toList).symm]
  simp only [F_law0_errors1.zero]
  refine Eq.trans ?_ (F_law0_errors1.calls f54_ h _)
  dsimp only [F_law0_errors1_of]
  kernel_rfl
def E_law0_errors1_of (f : Heap → (Sl → Heap → Prop) → Prop) : List Value → Heap → (Value → Heap → Prop) → Prop
  | [], h, K => f  h (fun (r0 : Sl) (h : Heap) => K (.slice r0.ptr r0.len r0.cap) h)
  | _, _, _ => False
abbrev E_law0_errors1 := E_law0_errors1_of F_law0_errors1
theorem E_law0_errors1.nil (f : Heap → (Sl → Heap → Prop) → Prop) (h : Heap) (K : Value → Heap → Prop) : E_law0_errors1_of f [] h K = f  h (fun (r0 : Sl) (h : Heap) => K (.slice r0.ptr r0.len r0.cap) h) := rfl
theorem E_law0_errors1.right : IsRight Try.prog 15 E_law0_errors1 := by
  refine isRight fun vs K w hh => ?_
  match vs, hh with
  | [], hh =>
    replace hh := Eq.mp (E_law0_errors1.nil F_law0_errors1 w.heap K) hh
    unfold F_law0_errors1 at hh
    exact calls_den (fn1_right ok54 E_law0_num.right noFns_right) plan15 _ w K Try.func15 (by kernel_rfl) (by kernel_rfl) (Eq.mp (F_law0_errors1.eq F_law0_num  w.heap K) hh)
theorem ok15 : okFn Try.prog 15 = true := by kernel_rfl
end Go.Proofs.Ytboidjampddfoaa.V
