import Derived.Test.YtdjhjpckefkolaaZCodeFresh1
import Derived.Test.YtdjhjpckefkolaaProg
namespace Go.Proofs.Ytdjhjpckefkolaa.V
open Go Go.RowKit
set_option linter.unusedVariables false
set_option maxRecDepth 100000
def F_law1_Book_Bytes.l1 (f48_ : Int → Int → Heap → (Int → Heap → Prop) → Prop) (l2 : Sl) (v8 : Int) (j9 : Heap → Prop) : Int → Heap → Prop :=
  wl [(5, .one (.int .i64))] (fun (next10 : Int → Heap → Prop) (i11 : Int) (h12 : Heap) =>
  brr (decide (i11 < ((l2.len : Nat) : Int)))
  (f48_ v8 i11 h12 fun (r13 : Int) (h14 : Heap) =>
  ixS 1 l2 i11 fun (a15 : Addr) =>
  st a15 [.int .u8 r13] h14 fun (h16 : Heap) =>
  next10 (IntKind.i64.wrap (i11 + 1)) h16)
  (j9 h12))
def F_law1_Book_Bytes_of (f48_ : Int → Int → Heap → (Int → Heap → Prop) → Prop) (f49_ : Option Addr → Int → Heap → (Bool → Heap → Prop) → Prop) (b1 : Option Addr) (l2 : Sl) (h : Heap) (Q : Heap → Prop) : Prop :=
  nn b1 fun (a3 : Addr) =>
  ld [.int .i64] (a3.add 36) h fun (v4 : Int) =>
  nn b1 fun (a5 : Addr) =>
  st (a5.add 36) [.int .i64 (IntKind.i64.wrap (v4 + 1))] h fun (h6 : Heap) =>
  nn b1 fun (a7 : Addr) =>
  ld [.int .i64] (a7.add 36) h6 fun (v8 : Int) =>
  jn [] (fun  (h17 : Heap) =>
  f49_ b1 (IntKind.i64.wrap (1200 + (IntKind.i64.wrap (3 * ((l2.len : Nat) : Int))))) h17 fun (r18 : Bool) (h19 : Heap) =>
  brr r18
  (Q h19)
  (nn b1 fun (a20 : Addr) =>
  ld [.sl] (a20.add 0) h19 fun (v21 : Sl) =>
  al 22 [.slice l2.ptr l2.len l2.cap] h19 fun (a22 : Addr) (h23 : Heap) =>
  app 22 1 24 (.slice none 0 0) v21 (some a22) 1 h23 fun (s24 : Sl) (h25 : Heap) =>
  nn b1 fun (a26 : Addr) =>
  st (a26.add 0) [.slice s24.ptr s24.len s24.cap] h25 fun (h27 : Heap) =>
  nn b1 fun (a28 : Addr) =>
  ld [.sl] (a28.add 1) h27 fun (v29 : Sl) =>
  al 3 [.int .i64 v8] h27 fun (a30 : Addr) (h31 : Heap) =>
  app 3 1 8 (.int .i64 0) v29 (some a30) 1 h31 fun (s32 : Sl) (h33 : Heap) =>
  nn b1 fun (a34 : Addr) =>
  st (a34.add 1) [.slice s32.ptr s32.len s32.cap] h33 fun (h35 : Heap) =>
  Q h35)) (fun (j9 : Heap → Prop) =>
  F_law1_Book_Bytes.l1 f48_ l2 v8 j9 0 h6)
def F_law1_Book_Bytes (b1 : Option Addr) (l2 : Sl) (h : Heap) (Q : Heap → Prop) : Prop := F_law1_Book_Bytes_of F_law1_at F_law1_Book_tight b1 l2 h Q
def plan40 : Plan := .s (.r [0, 1]) (.s (.r [0, 1, 4]) (.s (.s (.r [0, 1, 4, 5]) (.bj [] [0, 1, 4] (.l [(5, .one (.int .i64))] [0, 1, 4] (.s (.s (.r [0, 1, 4, 5, 20]) (.c .z .z)) (.s (.b (.r [0, 1, 4, 5])) (.r [0, 1, 4, 5])))))) (.s (.s (.r [0, 1, 4, 34]) (.c .z .z)) (.s (.r [0, 4]) (.r [])))))
theorem F_law1_Book_Bytes.eq (f48_ : Int → Int → Heap → (Int → Heap → Prop) → Prop) (f49_ : Option Addr → Int → Heap → (Bool → Heap → Prop) → Prop) (b1 : Option Addr) (l2 : Sl) (h : Heap) (K : Value → Heap → Prop) : F_law1_Book_Bytes_of f48_ f49_ b1 l2 h (fun  (h : Heap) => K (.tuple #[]) h) =
    den Try.prog (fn1 48 (E_law1_at_of f48_) (fn1 49 (E_law1_Book_tight_of f49_) noFns)) Try.f40.ntmps plan40 (bodyOf Try.f40) (args0 0 [(.pointer b1 : Value), (.slice l2.ptr l2.len l2.cap : Value)]) h ⟨fun env h => dRes Try.prog Try.f40.results.toList env h K, fun _ _ _ => False, fun env h => dRes Try.prog Try.f40.results.toList env h K⟩ := by kernel_rfl
def E_law1_Book_Bytes_of (f : Option Addr → Sl → Heap → (Heap → Prop) → Prop) : List Value → Heap → (Value → Heap → Prop) → Prop
  | [v0, v1], h, K => dec1 .ptr v0 fun (b1 : Option Addr) =>
  dec1 .sl v1 fun (l2 : Sl) =>
  f b1 l2 h (fun  (h : Heap) => K (.tuple #[]) h)
  | _, _, _ => False
abbrev E_law1_Book_Bytes := E_law1_Book_Bytes_of F_law1_Book_Bytes
theorem E_law1_Book_Bytes.right : IsRight Try.prog 40 E_law1_Book_Bytes := by
  refine isRight fun vs K w hh => ?_
  match vs, hh with
  | [v0, v1], hh =>
    unfold E_law1_Book_Bytes E_law1_Book_Bytes_of at hh
    replace hh := dec1_sound hh; obtain ⟨b1, rfl, hh⟩ := hh
    replace hh := dec1_sound hh; obtain ⟨l2, rfl, hh⟩ := hh
    unfold F_law1_Book_Bytes at hh
    exact calls_den (fn1_right ok48 E_law1_at.right (fn1_right ok49 E_law1_Book_tight.right noFns_right)) plan40 _ w K Try.func40 (by kernel_rfl) (by kernel_rfl) (Eq.mp (F_law1_Book_Bytes.eq F_law1_at F_law1_Book_tight b1 l2 w.heap K) hh)
theorem ok40 : okFn Try.prog 40 = true := by kernel_rfl
end Go.Proofs.Ytdjhjpckefkolaa.V
/- The Book whose lists are of bytes alone: what it does with all other kinds: nothing. (Printed by a small program.) -/
namespace Go.Proofs.Ytdjhjpckefkolaa.V
open Go Go.RowKit
set_option linter.unusedVariables false
set_option linter.unusedSimpArgs false
theorem wl_now1 {i : Nat} {k : Kd} {B : (k.T → Heap → Prop) → k.T → Heap → Prop} {x : k.T} {h : Heap} (hb : ∀ next, B next x h) : wl [(i, .one k)] B x h :=
  wl1 (fun _ x' h' => x' = x ∧ h' = h) (fun m x' h' next _ ⟨e1, e2⟩ => by subst e1 e2; exact hb next) (m := 0) ⟨rfl, rfl⟩
def bkC (s0 s1 : Sl) (n t d u : Int) : List Value := [.slice s0.ptr s0.len s0.cap, .slice s1.ptr s1.len s1.cap, .int .i64 n, .slice none 0 0, .slice none 0 0, .int .i64 0, .slice none 0 0, .slice none 0 0, .int .i64 0, .slice none 0 0, .slice none 0 0, .int .i64 0, .slice none 0 0, .slice none 0 0, .int .i64 0, .slice none 0 0, .slice none 0 0, .int .i64 0, .slice none 0 0, .slice none 0 0, .int .i64 0, .slice none 0 0, .slice none 0 0, .int .i64 0, .slice none 0 0, .slice none 0 0, .int .i64 0, .slice none 0 0, .slice none 0 0, .int .i64 0, .slice none 0 0, .slice none 0 0, .int .i64 0, .slice none 0 0, .slice none 0 0, .int .i64 0, .int .i64 t, .int .i64 d, .int .i64 u]
section
variable {h0 h : Heap} {L : List Res} {bk : Nat} {s0 s1 : Sl} {n t d u : Int}
theorem F_law1_Book_kept.is {Q : Bool → Heap → Prop} (O : Sat h0 h (own bk (bkC s0 s1 n t d u) :: L)) (k : Q true h) : F_law1_Book_kept (some (pt bk 0)) h Q := by
  rw [F_law1_Book_kept.eq_1, F_law1_Book_kept_of.eq_1]
  unfold bkC at O
  refine jn_go ?_
  rw [F_law1_Book_kept.l2.eq_1]
  refine wl_now1 fun next => ?_
  simp only [nn_some, pt_add, Nat.zero_add, Nat.add_zero, Nat.reduceAdd, Nat.reduceMul, Int.toNat_zero, Int.toNat_one, Nat.zero_mul, Nat.one_mul]
  refine O.ld 0 rfl (ldL_c (k := .sl) (x := (⟨none, 0, 0⟩ : Sl)) (ldL_n ?_))
  refine brr_ff (by decide) ?_
  refine jn_go ?_
  rw [F_law1_Book_kept.l4.eq_1]
  refine wl_now1 fun next => ?_
  simp only [nn_some, pt_add, Nat.zero_add, Nat.add_zero, Nat.reduceAdd, Nat.reduceMul, Int.toNat_zero, Int.toNat_one, Nat.zero_mul, Nat.one_mul]
  refine O.ld 0 rfl (ldL_c (k := .sl) (x := (⟨none, 0, 0⟩ : Sl)) (ldL_n ?_))
  refine brr_ff (by decide) ?_
  refine jn_go ?_
  rw [F_law1_Book_kept.l6.eq_1]
  refine wl_now1 fun next => ?_
  simp only [nn_some, pt_add, Nat.zero_add, Nat.add_zero, Nat.reduceAdd, Nat.reduceMul, Int.toNat_zero, Int.toNat_one, Nat.zero_mul, Nat.one_mul]
  refine O.ld 0 rfl (ldL_c (k := .sl) (x := (⟨none, 0, 0⟩ : Sl)) (ldL_n ?_))
  refine brr_ff (by decide) ?_
  refine jn_go ?_
  rw [F_law1_Book_kept.l8.eq_1]
  refine wl_now1 fun next => ?_
  simp only [nn_some, pt_add, Nat.zero_add, Nat.add_zero, Nat.reduceAdd, Nat.reduceMul, Int.toNat_zero, Int.toNat_one, Nat.zero_mul, Nat.one_mul]
  refine O.ld 0 rfl (ldL_c (k := .sl) (x := (⟨none, 0, 0⟩ : Sl)) (ldL_n ?_))
  refine brr_ff (by decide) ?_
  exact k
theorem F_law1_Book_told.is {Q : Bool → Heap → Prop} (O : Sat h0 h (own bk (bkC s0 s1 n t d u) :: L)) (k : Q true h) : F_law1_Book_told (some (pt bk 0)) h Q := by
  rw [F_law1_Book_told.eq_1, F_law1_Book_told_of.eq_1]
  unfold bkC at O
  refine jn_go ?_
  rw [F_law1_Book_told.l2.eq_1]
  refine wl_now1 fun next => ?_
  simp only [nn_some, pt_add, Nat.zero_add, Nat.add_zero, Nat.reduceAdd, Nat.reduceMul, Int.toNat_zero, Int.toNat_one, Nat.zero_mul, Nat.one_mul]
  refine O.ld 0 rfl (ldL_c (k := .sl) (x := (⟨none, 0, 0⟩ : Sl)) (ldL_n ?_))
  refine brr_ff (by decide) ?_
  refine jn_go ?_
  rw [F_law1_Book_told.l4.eq_1]
  refine wl_now1 fun next => ?_
  simp only [nn_some, pt_add, Nat.zero_add, Nat.add_zero, Nat.reduceAdd, Nat.reduceMul, Int.toNat_zero, Int.toNat_one, Nat.zero_mul, Nat.one_mul]
  refine O.ld 0 rfl (ldL_c (k := .sl) (x := (⟨none, 0, 0⟩ : Sl)) (ldL_n ?_))
  refine brr_ff (by decide) ?_
  refine jn_go ?_
  rw [F_law1_Book_told.l6.eq_1]
  refine wl_now1 fun next => ?_
  simp only [nn_some, pt_add, Nat.zero_add, Nat.add_zero, Nat.reduceAdd, Nat.reduceMul, Int.toNat_zero, Int.toNat_one, Nat.zero_mul, Nat.one_mul]
  refine O.ld 0 rfl (ldL_c (k := .sl) (x := (⟨none, 0, 0⟩ : Sl)) (ldL_n ?_))
  refine brr_ff (by decide) ?_
  refine jn_go ?_
  rw [F_law1_Book_told.l8.eq_1]
  refine wl_now1 fun next => ?_
  simp only [nn_some, pt_add, Nat.zero_add, Nat.add_zero, Nat.reduceAdd, Nat.reduceMul, Int.toNat_zero, Int.toNat_one, Nat.zero_mul, Nat.one_mul]
  refine O.ld 0 rfl (ldL_c (k := .sl) (x := (⟨none, 0, 0⟩ : Sl)) (ldL_n ?_))
  refine brr_ff (by decide) ?_
  exact k
theorem F_law1_Book_held.is {Q : Bool → Heap → Prop} (O : Sat h0 h (own bk (bkC s0 s1 n t d u) :: L)) (k : Q true h) : F_law1_Book_held (some (pt bk 0)) h Q := by
  rw [F_law1_Book_held.eq_1, F_law1_Book_held_of.eq_1]
  unfold bkC at O
  refine jn_go ?_
  rw [F_law1_Book_held.l2.eq_1]
  refine wl_now1 fun next => ?_
  simp only [nn_some, pt_add, Nat.zero_add, Nat.add_zero, Nat.reduceAdd, Nat.reduceMul, Int.toNat_zero, Int.toNat_one, Nat.zero_mul, Nat.one_mul]
  refine O.ld 0 rfl (ldL_c (k := .sl) (x := (⟨none, 0, 0⟩ : Sl)) (ldL_n ?_))
  refine brr_ff (by decide) ?_
  refine jn_go ?_
  rw [F_law1_Book_held.l4.eq_1]
  refine wl_now1 fun next => ?_
  simp only [nn_some, pt_add, Nat.zero_add, Nat.add_zero, Nat.reduceAdd, Nat.reduceMul, Int.toNat_zero, Int.toNat_one, Nat.zero_mul, Nat.one_mul]
  refine O.ld 0 rfl (ldL_c (k := .sl) (x := (⟨none, 0, 0⟩ : Sl)) (ldL_n ?_))
  refine brr_ff (by decide) ?_
  exact k
theorem F_law1_Book_growRows.is {Q : Heap → Prop} (O : Sat h0 h (own bk (bkC s0 s1 n t d u) :: L)) (k : ∀ h', Sat h0 h' (own bk (bkC s0 s1 n t d u) :: L) → Q h') : F_law1_Book_growRows (some (pt bk 0)) h Q := by
  rw [F_law1_Book_growRows.eq_1, F_law1_Book_growRows_of.eq_1]
  unfold bkC at O k
  simp only [nn_some, pt_add, Nat.zero_add, Nat.add_zero, Nat.reduceAdd, Nat.reduceMul, Int.toNat_zero, Int.toNat_one, Nat.zero_mul, Nat.one_mul]
  refine O.ld 0 rfl (ldL_c (k := .sl) (x := (⟨none, 0, 0⟩ : Sl)) (ldL_n ?_))
  refine O.ld 0 rfl (ldL_c (ldL_n ?_))
  refine jn_go ?_
  rw [F_law1_Book_growRows.l2.eq_1]
  refine wl_now1 fun next => ?_
  refine brr_ff (by decide) ?_
  refine O.ld 0 rfl (ldL_c (k := .sl) (x := (⟨none, 0, 0⟩ : Sl)) (ldL_n ?_))
  refine O.st 0 rfl (by simp) rfl fun h O => ?_
  dsimp only [V.put, List.set] at O
  exact k h O
theorem F_law1_Book_growTexts.is {Q : Heap → Prop} (O : Sat h0 h (own bk (bkC s0 s1 n t d u) :: L)) (k : ∀ h', Sat h0 h' (own bk (bkC s0 s1 n t d u) :: L) → Q h') : F_law1_Book_growTexts (some (pt bk 0)) h Q := by
  rw [F_law1_Book_growTexts.eq_1, F_law1_Book_growTexts_of.eq_1]
  unfold bkC at O k
  simp only [nn_some, pt_add, Nat.zero_add, Nat.add_zero, Nat.reduceAdd, Nat.reduceMul, Int.toNat_zero, Int.toNat_one, Nat.zero_mul, Nat.one_mul]
  refine O.ld 0 rfl (ldL_c (k := .sl) (x := (⟨none, 0, 0⟩ : Sl)) (ldL_n ?_))
  refine O.ld 0 rfl (ldL_c (ldL_n ?_))
  refine jn_go ?_
  rw [F_law1_Book_growTexts.l2.eq_1]
  refine wl_now1 fun next => ?_
  refine brr_ff (by decide) ?_
  refine O.ld 0 rfl (ldL_c (k := .sl) (x := (⟨none, 0, 0⟩ : Sl)) (ldL_n ?_))
  refine O.st 0 rfl (by simp) rfl fun h O => ?_
  dsimp only [V.put, List.set] at O
  exact k h O
theorem F_law1_Book_growInts.is {Q : Heap → Prop} (O : Sat h0 h (own bk (bkC s0 s1 n t d u) :: L)) (k : ∀ h', Sat h0 h' (own bk (bkC s0 s1 n t d u) :: L) → Q h') : F_law1_Book_growInts (some (pt bk 0)) h Q := by
  rw [F_law1_Book_growInts.eq_1, F_law1_Book_growInts_of.eq_1]
  unfold bkC at O k
  simp only [nn_some, pt_add, Nat.zero_add, Nat.add_zero, Nat.reduceAdd, Nat.reduceMul, Int.toNat_zero, Int.toNat_one, Nat.zero_mul, Nat.one_mul]
  refine O.ld 0 rfl (ldL_c (k := .sl) (x := (⟨none, 0, 0⟩ : Sl)) (ldL_n ?_))
  refine O.ld 0 rfl (ldL_c (ldL_n ?_))
  refine jn_go ?_
  rw [F_law1_Book_growInts.l2.eq_1]
  refine wl_now1 fun next => ?_
  refine brr_ff (by decide) ?_
  refine O.ld 0 rfl (ldL_c (k := .sl) (x := (⟨none, 0, 0⟩ : Sl)) (ldL_n ?_))
  refine O.st 0 rfl (by simp) rfl fun h O => ?_
  dsimp only [V.put, List.set] at O
  exact k h O
theorem F_law1_Book_growWords.is {Q : Heap → Prop} (O : Sat h0 h (own bk (bkC s0 s1 n t d u) :: L)) (k : ∀ h', Sat h0 h' (own bk (bkC s0 s1 n t d u) :: L) → Q h') : F_law1_Book_growWords (some (pt bk 0)) h Q := by
  rw [F_law1_Book_growWords.eq_1, F_law1_Book_growWords_of.eq_1]
  unfold bkC at O k
  simp only [nn_some, pt_add, Nat.zero_add, Nat.add_zero, Nat.reduceAdd, Nat.reduceMul, Int.toNat_zero, Int.toNat_one, Nat.zero_mul, Nat.one_mul]
  refine O.ld 0 rfl (ldL_c (k := .sl) (x := (⟨none, 0, 0⟩ : Sl)) (ldL_n ?_))
  refine O.ld 0 rfl (ldL_c (ldL_n ?_))
  refine jn_go ?_
  rw [F_law1_Book_growWords.l2.eq_1]
  refine wl_now1 fun next => ?_
  refine brr_ff (by decide) ?_
  refine O.ld 0 rfl (ldL_c (k := .sl) (x := (⟨none, 0, 0⟩ : Sl)) (ldL_n ?_))
  refine O.st 0 rfl (by simp) rfl fun h O => ?_
  dsimp only [V.put, List.set] at O
  exact k h O
theorem F_law1_Book_growDones.is {Q : Heap → Prop} (O : Sat h0 h (own bk (bkC s0 s1 n t d u) :: L)) (k : ∀ h', Sat h0 h' (own bk (bkC s0 s1 n t d u) :: L) → Q h') : F_law1_Book_growDones (some (pt bk 0)) h Q := by
  rw [F_law1_Book_growDones.eq_1, F_law1_Book_growDones_of.eq_1]
  unfold bkC at O k
  simp only [nn_some, pt_add, Nat.zero_add, Nat.add_zero, Nat.reduceAdd, Nat.reduceMul, Int.toNat_zero, Int.toNat_one, Nat.zero_mul, Nat.one_mul]
  refine O.ld 0 rfl (ldL_c (k := .sl) (x := (⟨none, 0, 0⟩ : Sl)) (ldL_n ?_))
  refine O.ld 0 rfl (ldL_c (ldL_n ?_))
  refine jn_go ?_
  rw [F_law1_Book_growDones.l2.eq_1]
  refine wl_now1 fun next => ?_
  refine brr_ff (by decide) ?_
  refine O.ld 0 rfl (ldL_c (k := .sl) (x := (⟨none, 0, 0⟩ : Sl)) (ldL_n ?_))
  refine O.st 0 rfl (by simp) rfl fun h O => ?_
  dsimp only [V.put, List.set] at O
  exact k h O
theorem F_law1_Book_growAccts.is {Q : Heap → Prop} (O : Sat h0 h (own bk (bkC s0 s1 n t d u) :: L)) (k : ∀ h', Sat h0 h' (own bk (bkC s0 s1 n t d u) :: L) → Q h') : F_law1_Book_growAccts (some (pt bk 0)) h Q := by
  rw [F_law1_Book_growAccts.eq_1, F_law1_Book_growAccts_of.eq_1]
  unfold bkC at O k
  simp only [nn_some, pt_add, Nat.zero_add, Nat.add_zero, Nat.reduceAdd, Nat.reduceMul, Int.toNat_zero, Int.toNat_one, Nat.zero_mul, Nat.one_mul]
  refine O.ld 0 rfl (ldL_c (k := .sl) (x := (⟨none, 0, 0⟩ : Sl)) (ldL_n ?_))
  refine O.ld 0 rfl (ldL_c (ldL_n ?_))
  refine jn_go ?_
  rw [F_law1_Book_growAccts.l2.eq_1]
  refine wl_now1 fun next => ?_
  refine brr_ff (by decide) ?_
  refine O.ld 0 rfl (ldL_c (k := .sl) (x := (⟨none, 0, 0⟩ : Sl)) (ldL_n ?_))
  refine O.st 0 rfl (by simp) rfl fun h O => ?_
  dsimp only [V.put, List.set] at O
  exact k h O
theorem F_law1_Book_growQueue.is {Q : Heap → Prop} (O : Sat h0 h (own bk (bkC s0 s1 n t d u) :: L)) (k : ∀ h', Sat h0 h' (own bk (bkC s0 s1 n t d u) :: L) → Q h') : F_law1_Book_growQueue (some (pt bk 0)) h Q := by
  rw [F_law1_Book_growQueue.eq_1, F_law1_Book_growQueue_of.eq_1]
  unfold bkC at O k
  simp only [nn_some, pt_add, Nat.zero_add, Nat.add_zero, Nat.reduceAdd, Nat.reduceMul, Int.toNat_zero, Int.toNat_one, Nat.zero_mul, Nat.one_mul]
  refine O.ld 0 rfl (ldL_c (k := .sl) (x := (⟨none, 0, 0⟩ : Sl)) (ldL_n ?_))
  refine O.ld 0 rfl (ldL_c (ldL_n ?_))
  refine jn_go ?_
  rw [F_law1_Book_growQueue.l2.eq_1]
  refine wl_now1 fun next => ?_
  refine brr_ff (by decide) ?_
  refine O.ld 0 rfl (ldL_c (k := .sl) (x := (⟨none, 0, 0⟩ : Sl)) (ldL_n ?_))
  refine O.st 0 rfl (by simp) rfl fun h O => ?_
  dsimp only [V.put, List.set] at O
  exact k h O
theorem F_law1_Book_growSlots.is {Q : Heap → Prop} (O : Sat h0 h (own bk (bkC s0 s1 n t d u) :: L)) (k : ∀ h', Sat h0 h' (own bk (bkC s0 s1 n t d u) :: L) → Q h') : F_law1_Book_growSlots (some (pt bk 0)) h Q := by
  rw [F_law1_Book_growSlots.eq_1, F_law1_Book_growSlots_of.eq_1]
  unfold bkC at O k
  simp only [nn_some, pt_add, Nat.zero_add, Nat.add_zero, Nat.reduceAdd, Nat.reduceMul, Int.toNat_zero, Int.toNat_one, Nat.zero_mul, Nat.one_mul]
  refine O.ld 0 rfl (ldL_c (k := .sl) (x := (⟨none, 0, 0⟩ : Sl)) (ldL_n ?_))
  refine O.ld 0 rfl (ldL_c (ldL_n ?_))
  refine jn_go ?_
  rw [F_law1_Book_growSlots.l2.eq_1]
  refine wl_now1 fun next => ?_
  refine brr_ff (by decide) ?_
  refine O.ld 0 rfl (ldL_c (k := .sl) (x := (⟨none, 0, 0⟩ : Sl)) (ldL_n ?_))
  refine O.st 0 rfl (by simp) rfl fun h O => ?_
  dsimp only [V.put, List.set] at O
  exact k h O
theorem F_law1_Book_growMsgs.is {Q : Heap → Prop} (O : Sat h0 h (own bk (bkC s0 s1 n t d u) :: L)) (k : ∀ h', Sat h0 h' (own bk (bkC s0 s1 n t d u) :: L) → Q h') : F_law1_Book_growMsgs (some (pt bk 0)) h Q := by
  rw [F_law1_Book_growMsgs.eq_1, F_law1_Book_growMsgs_of.eq_1]
  unfold bkC at O k
  simp only [nn_some, pt_add, Nat.zero_add, Nat.add_zero, Nat.reduceAdd, Nat.reduceMul, Int.toNat_zero, Int.toNat_one, Nat.zero_mul, Nat.one_mul]
  refine O.ld 0 rfl (ldL_c (k := .sl) (x := (⟨none, 0, 0⟩ : Sl)) (ldL_n ?_))
  refine O.ld 0 rfl (ldL_c (ldL_n ?_))
  refine jn_go ?_
  rw [F_law1_Book_growMsgs.l2.eq_1]
  refine wl_now1 fun next => ?_
  refine brr_ff (by decide) ?_
  refine O.ld 0 rfl (ldL_c (k := .sl) (x := (⟨none, 0, 0⟩ : Sl)) (ldL_n ?_))
  refine O.st 0 rfl (by simp) rfl fun h O => ?_
  dsimp only [V.put, List.set] at O
  exact k h O
theorem F_law1_Book_growFlights.is {Q : Heap → Prop} (O : Sat h0 h (own bk (bkC s0 s1 n t d u) :: L)) (k : ∀ h', Sat h0 h' (own bk (bkC s0 s1 n t d u) :: L) → Q h') : F_law1_Book_growFlights (some (pt bk 0)) h Q := by
  rw [F_law1_Book_growFlights.eq_1, F_law1_Book_growFlights_of.eq_1]
  unfold bkC at O k
  simp only [nn_some, pt_add, Nat.zero_add, Nat.add_zero, Nat.reduceAdd, Nat.reduceMul, Int.toNat_zero, Int.toNat_one, Nat.zero_mul, Nat.one_mul]
  refine O.ld 0 rfl (ldL_c (k := .sl) (x := (⟨none, 0, 0⟩ : Sl)) (ldL_n ?_))
  refine O.ld 0 rfl (ldL_c (ldL_n ?_))
  refine jn_go ?_
  rw [F_law1_Book_growFlights.l2.eq_1]
  refine wl_now1 fun next => ?_
  refine brr_ff (by decide) ?_
  refine O.ld 0 rfl (ldL_c (k := .sl) (x := (⟨none, 0, 0⟩ : Sl)) (ldL_n ?_))
  refine O.st 0 rfl (by simp) rfl fun h O => ?_
  dsimp only [V.put, List.set] at O
  exact k h O
theorem F_law1_Book_growFiles.is {Q : Heap → Prop} (O : Sat h0 h (own bk (bkC s0 s1 n t d u) :: L)) (k : ∀ h', Sat h0 h' (own bk (bkC s0 s1 n t d u) :: L) → Q h') : F_law1_Book_growFiles (some (pt bk 0)) h Q := by
  rw [F_law1_Book_growFiles.eq_1, F_law1_Book_growFiles_of.eq_1]
  unfold bkC at O k
  simp only [nn_some, pt_add, Nat.zero_add, Nat.add_zero, Nat.reduceAdd, Nat.reduceMul, Int.toNat_zero, Int.toNat_one, Nat.zero_mul, Nat.one_mul]
  refine O.ld 0 rfl (ldL_c (k := .sl) (x := (⟨none, 0, 0⟩ : Sl)) (ldL_n ?_))
  refine O.ld 0 rfl (ldL_c (ldL_n ?_))
  refine jn_go ?_
  rw [F_law1_Book_growFiles.l2.eq_1]
  refine wl_now1 fun next => ?_
  refine brr_ff (by decide) ?_
  refine O.ld 0 rfl (ldL_c (k := .sl) (x := (⟨none, 0, 0⟩ : Sl)) (ldL_n ?_))
  refine O.st 0 rfl (by simp) rfl fun h O => ?_
  dsimp only [V.put, List.set] at O
  exact k h O
end
end Go.Proofs.Ytdjhjpckefkolaa.V
/- Lists of bytes that carry marks, and grow: their blocks may be shared by lists of one mark. -/
namespace Go.Proofs.Ytdjhjpckefkolaa.V
open Go Go.RowKit
set_option linter.unusedVariables false
set_option linter.unusedSimpArgs false
/-- Byte k of the mark of list n. -/
def atB (m k : Nat) : UInt8 := if k % 2 = 0 then UInt8.ofNat (1 + m % 251) else UInt8.ofNat (1 + (7 * m + m / 251) % 251)
def atC (m k : Nat) : Value := .int .u8 ((atB m k).toNat : Int)
def marksB (m n : Nat) : List UInt8 := (List.range n).map (atB m)
theorem marksB_len (m n : Nat) : (marksB m n).length = n := by simp [marksB]
theorem marksB_at {m n i : Nat} (h : i < n) : (marksB m n)[i]? = some (atB m i) := by simp [marksB, h]
abbrev BE := Sl × Nat
def inFam (lab : Nat → Nat) (E : Blks) (e : BE) : Prop := e.1 = ⟨none, 0, 0⟩ ∨ ∃ b cs, (b, cs) ∈ E ∧ e.1.ptr = some (pt b 0) ∧ e.1.len ≤ e.1.cap ∧ e.1.cap = cs.length ∧ lab b = e.2 ∧ ∀ i, i < e.1.len → cs[i]? = some (atC e.2 i)
def famR (es : List BE) : Res := fun E => ∃ lab : Nat → Nat, ∀ e ∈ es, inFam lab E e
theorem famR.sub {h0 h : Heap} {L : List Res} {es fs : List BE} (O : Sat h0 h (famR es :: L)) (s : ∀ e ∈ fs, e ∈ es) : Sat h0 h (famR fs :: L) :=
  O.mono fun E ⟨lab, k⟩ => ⟨lab, fun e he => k e (s e he)⟩
theorem famR.none {h0 h : Heap} {L : List Res} (O : Sat h0 h L) : Sat h0 h (famR [] :: L) := O.empI.mono fun E _ => ⟨fun _ => 0, fun e he => by cases he⟩
theorem fam_view {h0 h : Heap} {L : List Res} (O : Sat h0 h L) (i : Nat) {es : List BE} {e : BE} (hi : i < L.length) (hn : nth i L = famR es) (he : e ∈ es) : Bytes h e.1 (marksB e.2 e.1.len) := by
  obtain ⟨E1, E2, h1, O', _⟩ := O.at i hi
  rw [hn] at h1
  obtain ⟨lab, k⟩ := h1
  rcases k e he with h | ⟨b, cs, hm, hp, hl, hc, _, ha⟩
  · rw [h]; exact View.nil
  · have B := (O'.blk _ (List.mem_append.2 (.inl hm))).2
    refine ⟨(marksB_len _ _).symm, fun j x hj => ?_⟩
    have hjl : j < e.1.len := by
      have := (List.getElem?_eq_some_iff.1 hj).1
      rwa [marksB_len] at this
    rw [marksB_at hjl] at hj
    cases hj
    refine ⟨pt b 0, u8 (atB e.2 j), hp, rfl, rfl, ?_⟩
    have hcell := ha j hjl
    have h2 := cellsAre_blk B j 1
    have e3 : (cs.drop j).take 1 = u8 (atB e.2 j) := by
      obtain ⟨hlt, e4⟩ := List.getElem?_eq_some_iff.1 hcell
      rw [List.drop_eq_getElem_cons hlt, e4]
      rfl
    rw [e3] at h2
    rw [pt_add, Nat.zero_add, Nat.mul_one]
    exact h2
theorem put_one : ∀ (cs : List Value) (o : Nat) (v : Value), V.put cs o [v] = cs.set o v
  | [], 0, v => by simp [V.put]
  | c :: cs, 0, v => by simp [V.put, put_nil]
  | [], o + 1, v => by simp [V.put]
  | c :: cs, o + 1, v => by simp [V.put, put_one cs o v]
theorem atC_one (m k : Nat) : oneV (atC m k) = true := rfl
/-- A new block becomes one of the lists. -/
theorem fam_new {h0 h : Heap} {L : List Res} {es : List BE} {b len m : Nat} {cs : List Value} (O : Sat h0 h (own b cs :: famR es :: L)) (hl : len ≤ cs.length) (ha : ∀ i, i < len → cs[i]? = some (atC m i)) : Sat h0 h (famR (es ++ [(⟨some (pt b 0), len, cs.length⟩, m)]) :: L) := by
  obtain ⟨E, ⟨E1, E2, p, hA, F1, F2, p2, ⟨lab, k⟩, h2⟩, O'⟩ := O
  have hA : E1 = [(b, cs)] := hA
  subst hA
  have pp : E.Perm (((b, cs) :: F1) ++ F2) := p.trans (List.Perm.cons _ p2)
  have OO := O'.perm pp.symm
  have hd := OO.dis
  rw [List.cons_append, List.map_cons, List.nodup_cons] at hd
  refine ⟨E, ⟨(b, cs) :: F1, F2, pp, ⟨fun x => if x = b then m else lab x, fun e he => ?_⟩, h2⟩, O'⟩
  rcases List.mem_append.1 he with he | he
  · rcases k e he with h | ⟨b', cs', hm, hp, hl', hc, hlab, ha'⟩
    · exact .inl h
    · refine .inr ⟨b', cs', List.mem_cons_of_mem _ hm, hp, hl', hc, ?_, ha'⟩
      have : b' ≠ b := by
        intro e
        subst e
        exact hd.1 (List.mem_map.2 ⟨_, List.mem_append.2 (.inl hm), rfl⟩)
      simp only [if_neg this]
      exact hlab
  · rw [List.mem_singleton.1 he]
    exact .inr ⟨b, cs, List.mem_cons_self, rfl, hl, rfl, by simp, ha⟩
theorem Sat.buf_own' {α : Type} {h0 h : Heap} {L : List Res} {sz : Nat} {enc : α → List Value} {s : Sl} {xs : List α} (O : Sat h0 h (buf sz enc s xs :: L)) (hne : xs ≠ []) : ∃ b k sp, s = ⟨some (pt b 0), xs.length, xs.length + k⟩ ∧ sp.length = k * sz ∧ Sat h0 h (own b (xs.flatMap enc ++ sp) :: L) := by
  obtain ⟨sp, O1⟩ := O.ex
  obtain ⟨E, ⟨E1, E2, p, hA, h2⟩, O2⟩ := O1
  rcases hA with ⟨rfl, rfl, _, _⟩ | ⟨b, j, rfl, hsp, rfl⟩
  · exact absurd rfl hne
  · exact ⟨b, j, sp, rfl, hsp, E, ⟨[(b, _)], E2, p, rfl, h2⟩, O2⟩
/-- A list of one's own that carries its mark becomes one of the lists. -/
theorem fam_take {h0 h : Heap} {L : List Res} {es : List BE} {s : Sl} {m : Nat} (O : Sat h0 h (buf 1 u8 s (marksB m s.len) :: famR es :: L)) : Sat h0 h (famR (es ++ [(s, m)]) :: L) := by
  by_cases hz : marksB m s.len = []
  · obtain ⟨sp, O⟩ := O.ex
    obtain ⟨E, ⟨E1, E2, p, hA, h2⟩, O'⟩ := O
    rcases hA with ⟨rfl, _, _, rfl⟩ | ⟨b, j, hs, hsp, rfl⟩
    · obtain ⟨F1, F2, p2, ⟨lab, k⟩, h2⟩ := h2
      refine ⟨E, ⟨F1, F2, p.trans p2, ⟨lab, fun e he => ?_⟩, h2⟩, O'⟩
      rcases List.mem_append.1 he with he | he
      · exact k e he
      · rw [List.mem_singleton.1 he]; exact .inl rfl
    · have O2 : Sat h0 h (own b ((marksB m s.len).flatMap u8 ++ sp) :: famR es :: L) := ⟨E, ⟨[(b, _)], E2, p, rfl, h2⟩, O'⟩
      have hl : s.len = 0 := by
        have := congrArg List.length hz
        rwa [marksB_len] at this
      have := fam_new (len := 0) (m := m) O2 (by omega) (fun i hi => by omega)
      have e : s = ⟨some (pt b 0), 0, ((marksB m s.len).flatMap u8 ++ sp).length⟩ := by
        rw [hz, List.flatMap_nil, List.nil_append, hsp]
        rw [hz] at hs
        rw [hs]
        simp
      rw [← e] at this
      exact this
  · obtain ⟨b, j, sp, hs, hsp, O⟩ := O.buf_own' hz
    have hlen := flatMap_len u8_len (marksB m s.len)
    rw [marksB_len] at hlen hs
    have := fam_new (len := s.len) (m := m) O (by rw [List.length_append]; omega) (fun i hi => by
      rw [List.getElem?_append_left (by omega)]
      have key : ∀ (l : List UInt8) (i : Nat), (l.flatMap u8)[i]? = (l[i]?).map fun x => Value.int .u8 (x.toNat : Int) := by
        intro l
        induction l with
        | nil => intro i; simp
        | cons x l ih =>
          intro i
          rw [List.flatMap_cons]
          cases i with
          | zero => rfl
          | succ i => exact ih i
      rw [key, marksB_at hi]
      rfl)
    have e : s = ⟨some (pt b 0), s.len, ((marksB m s.len).flatMap u8 ++ sp).length⟩ := by
      rw [List.length_append, hlen, hsp, Nat.mul_one, Nat.mul_one]
      exact hs
    rw [← e] at this
    exact this
/-- One byte of its mark is appended to a list. -/
theorem fam_app {h0 h : Heap} {L : List Res} {es : List BE} {a T m : Nat} {g : Sl} {K : Sl → Heap → Prop} (hl : g.len ≤ 1099511627776) (O : Sat h0 h (own a [atC m g.len] :: famR (es ++ [(g, m)]) :: L)) (k : ∀ g' h', g'.len = g.len + 1 → Sat h0 h' (famR (es ++ [(g', m)]) :: L) → K g' h') : V.app T 1 1 (.int .u8 0) g (some (pt a 0)) 1 h K := by
  have hv := fam_view O 1 (by simp) rfl (List.mem_append.2 (.inr (List.mem_singleton.2 rfl)))
  have hmem : (g, m) ∈ es ++ [(g, m)] := List.mem_append.2 (.inr (List.mem_singleton.2 rfl))
  refine ⟨[atC m g.len], rdP_own O 0 rfl 1 (by simp), fun hcap => ?_, fun hcap => ⟨growslice_fits (by exact hcap) (by simp only [Nat.mul_one]; omega), ?_⟩⟩
  · have O := O.drop
    obtain ⟨E, ⟨E1, E2, p, ⟨lab, kk⟩, h2⟩, O'⟩ := O
    rcases kk (g, m) hmem with hn | ⟨b, cs, hm, hp, hle, hc, hlab, ha⟩
    · simp only at hn
      rw [hn] at hcap
      simp at hcap
    · simp only at hp hle hc hlab ha
      obtain ⟨A, B, rfl⟩ := List.append_of_mem hm
      have pE : E.Perm ((b, cs) :: (A ++ B ++ E2)) := by
        refine p.trans ?_
        rw [List.append_assoc, List.cons_append, List.append_assoc]
        exact List.perm_middle
      have O1 := O'.perm pE.symm
      have hd := O1.dis
      rw [List.map_cons, List.nodup_cons] at hd
      rw [hp]
      simp only [Option.map_some, stP, pt_add, Nat.zero_add, Nat.mul_one]
      refine Held.st O1 (by simp only [List.length_singleton]; omega) rfl fun h' O2 => ?_
      have eput : V.put cs g.len [atC m g.len] = cs.set g.len (atC m g.len) := put_one _ _ _
      rw [eput] at O2
      refine k ⟨some (pt b 0), g.len + 1, g.cap⟩ h' rfl ⟨_, ⟨(b, cs.set g.len (atC m g.len)) :: (A ++ B), E2, List.Perm.refl _, ⟨lab, fun e he => ?_⟩, h2⟩, O2⟩
      have other : ∀ e : BE, inFam lab (A ++ (b, cs) :: B) e → inFam lab ((b, cs.set g.len (atC m g.len)) :: (A ++ B)) e := by
        intro e ie
        rcases ie with h | ⟨b', cs', hm', hp', hl', hc', hlab', ha'⟩
        · exact .inl h
        · by_cases hb : b' = b
          · subst hb
            have ecs : cs' = cs := by
              rcases List.mem_append.1 hm' with x | x
              · exact absurd (List.mem_map.2 ⟨_, List.mem_append.2 (.inl (List.mem_append.2 (.inl x))), rfl⟩) hd.1
              · rcases List.mem_cons.1 x with x | x
                · exact (Prod.mk.inj x).2
                · exact absurd (List.mem_map.2 ⟨_, List.mem_append.2 (.inl (List.mem_append.2 (.inr x))), rfl⟩) hd.1
            subst ecs
            refine .inr ⟨b', _, List.mem_cons_self, hp', hl', by rw [List.length_set]; exact hc', hlab', fun i hi => ?_⟩
            rw [List.getElem?_set]
            by_cases e2 : g.len = i
            · subst e2
              rw [if_pos rfl, if_pos (by omega), ← hlab', hlab]
            · rw [if_neg e2]
              exact ha' i hi
          · refine .inr ⟨b', cs', ?_, hp', hl', hc', hlab', ha'⟩
            rcases List.mem_append.1 hm' with x | x
            · exact List.mem_cons_of_mem _ (List.mem_append.2 (.inl x))
            · rcases List.mem_cons.1 x with x | x
              · exact absurd (Prod.mk.inj x).1 hb
              · exact List.mem_cons_of_mem _ (List.mem_append.2 (.inr x))
      rcases List.mem_append.1 he with he | he
      · exact other e (kk e (List.mem_append.2 (.inl he)))
      · rw [List.mem_singleton.1 he]
        refine .inr ⟨b, _, List.mem_cons_self, rfl, hcap, by rw [List.length_set]; exact hc, hlab, fun i hi => ?_⟩
        simp only at hi
        rw [List.getElem?_set]
        by_cases e2 : g.len = i
        · subst e2
          rw [if_pos rfl, if_pos (by omega)]
        · rw [if_neg e2]
          exact ha i (by omega)
  · refine ⟨(marksB m g.len).flatMap u8, ?_, fun c hc => ?_⟩
    · have := hv.rd u8_len
      exact this
    · have hlen := flatMap_len u8_len (marksB m g.len)
      rw [marksB_len] at hlen
      have O := O.drop
      have O2 := O.push ((marksB m g.len).flatMap u8 ++ [atC m g.len] ++ (Builtin.zeroCells (Value.int .u8 0).cells (c - (g.len + 1))).toList) T (0, 0) (.inl rfl)
      have hzl : (Builtin.zeroCells (Value.int .u8 0).cells (c - (g.len + 1))).toList.length = c - (g.len + 1) := by simp [Builtin.zeroCells, Value.cells]
      have htot : ((marksB m g.len).flatMap u8 ++ [atC m g.len] ++ (Builtin.zeroCells (Value.int .u8 0).cells (c - (g.len + 1))).toList).length = c := by
        rw [List.length_append, List.length_append, hlen, hzl, List.length_singleton]; omega
      have key : ∀ (l : List UInt8) (i : Nat), (l.flatMap u8)[i]? = (l[i]?).map fun x => Value.int .u8 (x.toNat : Int) := by
        intro l
        induction l with
        | nil => intro i; simp
        | cons x l ih =>
          intro i
          rw [List.flatMap_cons]
          cases i with
          | zero => rfl
          | succ i => exact ih i
      have O3 := fam_new (len := g.len + 1) (m := m) O2 (by omega) (fun i hi => by
        rw [List.getElem?_append_left (by rw [List.length_append, hlen, List.length_singleton]; omega)]
        by_cases e2 : i = g.len
        · subst e2
          rw [List.getElem?_append_right (by omega), hlen]
          simp
        · rw [List.getElem?_append_left (by omega), key, marksB_at (by omega)]
          rfl)
      rw [htot] at O3
      refine k _ _ rfl (famR.sub O3 fun e he => ?_)
      rcases List.mem_append.1 he with he | he
      · exact List.mem_append.2 (.inl (List.mem_append.2 (.inl he)))
      · exact List.mem_append.2 (.inr he)
end Go.Proofs.Ytdjhjpckefkolaa.V
/- The Book over lists of bytes: it finds its marks, always. -/
namespace Go.Proofs.Ytdjhjpckefkolaa.V
open Go Go.RowKit
set_option linter.unusedVariables false
set_option linter.unusedSimpArgs false
theorem wrap8K (n : Nat) : IntKind.u8.wrap (n : Int) = ((UInt8.ofNat n).toNat : Int) := by
  unfold IntKind.wrap
  simp [IntKind.bits, IntKind.signed]
theorem F_law1_at.is {h : Heap} {m k : Nat} {Q : Int → Heap → Prop} (hm : m ≤ 1099511627776) (hq : Q ((atB m k).toNat : Int) h) : F_law1_at m k h Q := by
  rw [F_law1_at.eq_1, F_law1_at_of.eq_1]
  have e2 : ((k : Int)).tmod 2 = ((k % 2 : Nat) : Int) := by rw [Int.tmod_eq_emod_of_nonneg (by omega)]; omega
  have e3 : ((m : Int)).tmod 251 = ((m % 251 : Nat) : Int) := by rw [Int.tmod_eq_emod_of_nonneg (by omega)]; omega
  have e4 : ((m : Int)).tdiv 251 = ((m / 251 : Nat) : Int) := by rw [Int.tdiv_eq_ediv_of_nonneg (by omega)]; omega
  unfold atB at hq
  refine ⟨by decide, ?_⟩
  rw [e2, e3, e4]
  refine brr_eq (fun e => ?_) (fun e => ?_)
  · rw [if_pos (by omega)] at hq
    refine ⟨by decide, ?_⟩
    rw [wrap64 (by omega) (by omega), show (1 + ((m % 251 : Nat) : Int)) = ((1 + m % 251 : Nat) : Int) by omega, wrap8K]
    exact hq
  · rw [if_neg (by omega)] at hq
    refine ⟨by decide, by decide, ?_⟩
    rw [wrap64 (x := 7 * (m : Int)) (by omega) (by omega), wrap64 (x := ((m / 251 : Nat) : Int)) (by omega) (by omega), wrap64 (x := 7 * (m : Int) + ((m / 251 : Nat) : Int)) (by omega) (by omega)]
    have e5 : (7 * (m : Int) + ((m / 251 : Nat) : Int)).tmod 251 = (((7 * m + m / 251) % 251 : Nat) : Int) := by rw [Int.tmod_eq_emod_of_nonneg (by omega)]; omega
    rw [e5, wrap64 (by omega) (by omega), show (1 + (((7 * m + m / 251) % 251 : Nat) : Int)) = ((1 + (7 * m + m / 251) % 251 : Nat) : Int) by omega, wrap8K]
    exact hq
section
variable {h0 h : Heap} {L : List Res} {bk : Nat} {s0 s1 : Sl} {n t d u : Int} {es : List BE}
theorem F_law1_Book_plain.is {Q : Bool → Heap → Prop} (hb : ∀ e ∈ es, e.1.len ≤ 1099511627776 ∧ e.2 ≤ 1099511627776) (hn : es.length ≤ 1099511627776) (O : Sat h0 h (own bk (bkC s0 s1 n t d u) :: buf 1 slc s0 (es.map (·.1)) :: buf 1 natc s1 (es.map (·.2)) :: famR es :: L)) (k : Q true h) : F_law1_Book_plain (some (pt bk 0)) h Q := by
  rw [F_law1_Book_plain.eq_1, F_law1_Book_plain_of.eq_1]
  have v0 := (O.view 1 slc_len (by simp) rfl).1
  have v1 := (O.view 2 natc_len (by simp) rfl).1
  have O1 := O
  unfold bkC at O
  refine jn0 (fun h' => h' = h) ?_ ?_
  · rintro h rfl
    refine jn_go ?_
    rw [F_law1_Book_plain.l4.eq_1]
    refine wl_now1 fun next => ?_
    simp only [nn_some, pt_add, Nat.zero_add, Nat.add_zero, Nat.reduceAdd, Nat.reduceMul, Int.toNat_zero, Int.toNat_one, Nat.zero_mul, Nat.one_mul]
    refine O.ld 0 rfl (ldL_c (k := .sl) (x := (⟨none, 0, 0⟩ : Sl)) (ldL_n ?_))
    refine brr_ff (by decide) ?_
    exact k
  intro j hj
  rw [F_law1_Book_plain.l2.eq_1]
  simp only [nn_some, pt_add, Nat.zero_add, Nat.add_zero, Nat.reduceAdd, Nat.reduceMul, Int.toNat_zero, Int.toNat_one, Nat.zero_mul, Nat.one_mul]
  refine wl1 (k := .int .i64) (fun (m : Nat) (i : Int) (h' : Heap) => 0 ≤ i ∧ i + m = es.length ∧ h' = h) ?_ (m := es.length) ⟨by omega, by omega, rfl⟩
  rintro m (i : Int) h2 next hnx ⟨hi0, him, rfl⟩
  refine O.ld 0 rfl (ldL_c (k := .sl) (x := s0) (ldL_n ?_))
  rw [v0.len, List.length_map]
  refine brr_p (fun hlt => ?_) (fun hlt => hj _ rfl)
  have hil : i.toNat < es.length := by omega
  obtain ⟨e, he⟩ : ∃ e, es[i.toNat]? = some e := ⟨_, List.getElem?_eq_getElem hil⟩
  have hem := List.mem_of_getElem? he
  have hbe := hb e hem
  have ve := fam_view O1 3 (by simp) rfl hem
  have q0 : (es.map (·.1))[i.toNat]? = some e.1 := by rw [List.getElem?_map, he]; rfl
  have q1 : (es.map (·.2))[i.toNat]? = some e.2 := by rw [List.getElem?_map, he]; rfl
  refine jn_go ?_
  refine jn_go ?_
  rw [F_law1_Book_plain.l1.eq_1]
  simp only [nn_some, pt_add, Nat.zero_add, Nat.add_zero, Nat.reduceAdd, Nat.reduceMul, Int.toNat_zero, Int.toNat_one, Nat.zero_mul, Nat.one_mul]
  refine wl1 (k := .int .i64) (fun (m' : Nat) (i' : Int) (h' : Heap) => 0 ≤ i' ∧ i' + m' = e.1.len ∧ h' = h2) ?_ (m := e.1.len) ⟨by omega, by omega, rfl⟩
  rintro m' (i' : Int) h3 next' hnx' ⟨hi0', him', rfl⟩
  refine O.ld 0 rfl (ldL_c (k := .sl) (x := s0) (ldL_n ?_))
  refine v0.getP hi0 q0 fun a hca => ?_
  refine ld_are (hca v0) (ldL_c (k := .sl) (x := e.1) (ldL_n ?_))
  refine brr_p (fun hlt' => ?_) (fun hlt' => ?_)
  · refine O.ld 0 rfl (ldL_c (k := .sl) (x := s0) (ldL_n ?_))
    refine v0.getP hi0 q0 fun a hca => ?_
    refine ld_are (hca v0) (ldL_c (k := .sl) (x := e.1) (ldL_n ?_))
    have hlt2 : i' < (e.1.len : Int) := hlt'
    refine ve.getP (x := atB e.2 i'.toNat) hi0' (marksB_at (by omega)) fun b hcb => ?_
    refine ld_are (hcb ve) (ldL_c (k := .int .u8) (x := ((atB e.2 i'.toNat).toNat : Int)) (ldL_n ?_))
    refine O.ld 0 rfl (ldL_c (k := .sl) (x := s1) (ldL_n ?_))
    refine v1.getP hi0 q1 fun c hcc => ?_
    refine ld_are (hcc v1) (ldL_c (ldL_n ?_))
    obtain ⟨kN, rfl⟩ := Int.eq_ofNat_of_zero_le hi0'
    refine F_law1_at.is hbe.2 ?_
    refine ⟨O.cells 0 rfl 0 1, hca v0, hcb ve, ?_⟩
    refine brr_ne (fun e => absurd rfl e) (fun _ => ?_)
    rw [wrap64 (by omega) (by omega)]
    exact hnx' (m' - 1) _ _ (by omega) ⟨by omega, by omega, rfl⟩
  · rw [wrap64 (by omega) (by omega)]
    exact hnx (m - 1) _ _ (by omega) ⟨by omega, by omega, rfl⟩
theorem F_law1_Book_growBytes.is {nN T : Nat} {Q : Heap → Prop} (hb : ∀ (i : Nat) e, es[i]? = some e → e.1.len ≤ (if i < nN then 5600096 else 5600000) ∧ e.2 ≤ T) (hT : T ≤ 1099511627776) (hn : nN ≤ es.length) (hes : es.length ≤ 1000000)
    (O : Sat h0 h (own bk (bkC s0 s1 nN t d u) :: buf 1 slc s0 (es.map (·.1)) :: buf 1 natc s1 (es.map (·.2)) :: famR es :: L))
    (k : ∀ s0 s1 (fs : List BE) h', fs.length ≤ es.length + 9 * (es.length - nN) → (∀ e ∈ fs, e.1.len ≤ 5600096 ∧ e.2 ≤ T) → Sat h0 h' (own bk (bkC s0 s1 fs.length t d u) :: buf 1 slc s0 (fs.map (·.1)) :: buf 1 natc s1 (fs.map (·.2)) :: famR fs :: L) → Q h') : F_law1_Book_growBytes (some (pt bk 0)) h Q := by
  rw [F_law1_Book_growBytes.eq_1, F_law1_Book_growBytes_of.eq_1]
  have v0 := (O.view 1 slc_len (by simp) rfl).1
  have hs0 := v0.len
  rw [List.length_map] at hs0
  have ld0 : ∀ {h : Heap} {M : List Res} {s0 s1 : Sl} {n : Int} {K : Sl → Prop}, Sat h0 h (own bk (bkC s0 s1 n t d u) :: M) → K s0 → ld [.sl] (pt bk 0) h K := fun O k => O.ld 0 rfl (ldL_c (k := .sl) (ldL_n k))
  have ld1 : ∀ {h : Heap} {M : List Res} {s0 s1 : Sl} {n : Int} {K : Sl → Prop}, Sat h0 h (own bk (bkC s0 s1 n t d u) :: M) → K s1 → ld [.sl] (pt bk 1) h K := fun O k => O.ld 0 rfl (ldL_c (k := .sl) (ldL_n k))
  have ld2 : ∀ {h : Heap} {M : List Res} {s0 s1 : Sl} {n : Int} {K : Int → Prop}, Sat h0 h (own bk (bkC s0 s1 n t d u) :: M) → K n → ld [.int .i64] (pt bk 2) h K := fun O k => O.ld 0 rfl (ldL_c (ldL_n k))
  have st0 : ∀ {h : Heap} {M : List Res} {s0 s1 s : Sl} {n : Int} {K : Heap → Prop}, Sat h0 h (own bk (bkC s0 s1 n t d u) :: M) → (∀ h', Sat h0 h' (own bk (bkC s s1 n t d u) :: M) → K h') → st (pt bk 0) [.slice s.ptr s.len s.cap] h K := by
    intro h M s0 s1 s n K O k
    unfold bkC at O
    refine O.st 0 rfl (by simp) rfl fun h O => ?_
    dsimp only [V.put, List.set] at O
    exact k h O
  have st1 : ∀ {h : Heap} {M : List Res} {s0 s1 s : Sl} {n : Int} {K : Heap → Prop}, Sat h0 h (own bk (bkC s0 s1 n t d u) :: M) → (∀ h', Sat h0 h' (own bk (bkC s0 s n t d u) :: M) → K h') → st (pt bk 1) [.slice s.ptr s.len s.cap] h K := by
    intro h M s0 s1 s n K O k
    unfold bkC at O
    refine O.st 0 rfl (by simp) rfl fun h O => ?_
    dsimp only [V.put, List.set] at O
    exact k h O
  have st2 : ∀ {h : Heap} {M : List Res} {s0 s1 : Sl} {n n' : Int} {K : Heap → Prop}, Sat h0 h (own bk (bkC s0 s1 n t d u) :: M) → (∀ h', Sat h0 h' (own bk (bkC s0 s1 n' t d u) :: M) → K h') → st (pt bk 2) [.int .i64 n'] h K := by
    intro h M s0 s1 n n' K O k
    unfold bkC at O
    refine O.st 0 rfl (by simp) rfl fun h O => ?_
    dsimp only [V.put, List.set] at O
    exact k h O
  simp only [nn_some, pt_add, Nat.zero_add, Nat.add_zero, Nat.reduceAdd, Nat.reduceMul, Int.toNat_zero, Int.toNat_one, Nat.zero_mul, Nat.one_mul]
  refine ld0 O ?_
  refine ld2 O ?_
  refine jn0 (fun h' => ∃ (s0 s1 : Sl) (X : List BE), X.length ≤ 9 * (es.length - nN) ∧ (∀ e ∈ X, e.1.len ≤ 5600096 ∧ e.2 ≤ T) ∧ Sat h0 h' (own bk (bkC s0 s1 nN t d u) :: buf 1 slc s0 ((es ++ X).map (·.1)) :: buf 1 natc s1 ((es ++ X).map (·.2)) :: famR (es ++ X) :: L)) ?_ ?_
  · clear O v0
    rintro h ⟨s0, s1, X, hX, hXb, O⟩
    refine ld0 O ?_
    have hl := (O.view 1 slc_len (by simp) rfl).1.len
    rw [List.length_map] at hl
    rw [hl]
    refine st2 O fun h O => ?_
    refine k s0 s1 (es ++ X) h (by rw [List.length_append]; omega) (fun e he => ?_) O
    rcases List.mem_append.1 he with he | he
    · obtain ⟨i, hi⟩ := List.getElem?_of_mem he
      have := hb i e hi
      refine ⟨?_, this.2⟩
      have h2 := this.1
      split at h2 <;> omega
    · exact hXb e he
  intro j6 hj6
  rw [F_law1_Book_growBytes.l2.eq_1, hs0]
  simp only [nn_some, pt_add, Nat.zero_add, Nat.add_zero, Nat.reduceAdd, Nat.reduceMul, Int.toNat_zero, Int.toNat_one, Nat.zero_mul, Nat.one_mul]
  refine wl1 (k := .int .i64) (fun (m : Nat) (kk : Int) (h' : Heap) => (nN : Int) ≤ kk ∧ kk + m = es.length ∧ ∃ (s0 s1 : Sl) (X : List BE), (X.length : Int) ≤ 9 * (kk - nN) ∧ (∀ e ∈ X, e.1.len ≤ 5600096 ∧ e.2 ≤ T) ∧ Sat h0 h' (own bk (bkC s0 s1 nN t d u) :: buf 1 slc s0 ((es ++ X).map (·.1)) :: buf 1 natc s1 ((es ++ X).map (·.2)) :: famR (es ++ X) :: L)) ?_ (m := es.length - nN) ⟨by omega, by omega, s0, s1, [], by simp, by simp, by rw [List.append_nil]; exact O⟩
  clear O v0 hs0
  rintro m (kk : Int) h next hnx ⟨hk0, hkm, s0, s1, X, hX, hXb, O⟩
  refine brr_p (fun hlt => ?_) (fun hlt => hj6 _ ⟨s0, s1, X, by omega, hXb, O⟩)
  obtain ⟨kN, rfl⟩ := Int.eq_ofNat_of_zero_le (show 0 ≤ kk by omega)
  have hlt : kN < es.length := by
    have hlt : (kN : Int) < (es.length : Int) := hlt
    omega
  obtain ⟨⟨g0, m0⟩, he⟩ : ∃ e, es[kN]? = some e := ⟨_, List.getElem?_eq_getElem hlt⟩
  obtain ⟨hg0, hm0⟩ := hb kN _ he
  rw [if_neg (by omega)] at hg0
  simp only at hg0 hm0
  have he2 : (es ++ X)[((kN : Nat) : Int).toNat]? = some (g0, m0) := by rw [Int.toNat_natCast, List.getElem?_append_left hlt]; exact he
  refine ld0 O ?_
  have v0 := (O.view 1 slc_len (by simp) rfl).1
  have v1 := (O.view 2 natc_len (by simp) rfl).1
  refine v0.get1 (k := .sl) (by omega) (x := g0) (by rw [List.getElem?_map, he2]; rfl) id (fun _ => rfl) ?_
  refine ld1 O ?_
  refine v1.get1 (k := .int .i64) (by omega) (x := m0) (by rw [List.getElem?_map, he2]; rfl) (fun x => (x : Int)) (fun _ => rfl) ?_
  simp only [id_eq]
  clear v0 v1
  refine jn_go ?_
  rw [F_law1_Book_growBytes.l1.eq_1]
  simp only [nn_some, pt_add, Nat.zero_add, Nat.add_zero, Nat.reduceAdd, Nat.reduceMul, Int.toNat_zero, Int.toNat_one, Nat.zero_mul, Nat.one_mul]
  have O : Sat h0 h (own bk (bkC s0 s1 nN t d u) :: buf 1 slc s0 ((es ++ X).map (·.1)) :: buf 1 natc s1 ((es ++ X).map (·.2)) :: famR (es ++ X ++ [(g0, m0)]) :: L) := by
    have O2 := O.sel [3, 0, 1, 2] 4 rfl (Nat.le_add_left _ _)
    have O3 := famR.sub (fs := es ++ X ++ [(g0, m0)]) O2 (fun e hx => by
      rcases List.mem_append.1 hx with hx | hx
      · exact hx
      · rw [List.mem_singleton.1 hx]; exact List.mem_append.2 (.inl (List.mem_of_getElem? he)))
    exact O3.sel [1, 2, 3, 0] 4 rfl (Nat.le_add_left _ _)
  refine wl2 (k := .sl) (l := .int .i64) (fun (M : Nat) (g : Sl) (i : Int) (h' : Heap) => i + M = 97 ∧ 1 ≤ i ∧ (g.len : Int) = g0.len + (i - 1) ∧ ∃ (s0 s1 : Sl) (X : List BE), (X.length : Int) ≤ 9 * ((kN : Int) - nN) + (if i - 1 < 3 then i - 1 else 3) + (i - 1) / 16 ∧ (∀ e ∈ X, e.1.len ≤ 5600096 ∧ e.2 ≤ T) ∧ Sat h0 h' (own bk (bkC s0 s1 nN t d u) :: buf 1 slc s0 ((es ++ X).map (·.1)) :: buf 1 natc s1 ((es ++ X).map (·.2)) :: famR (es ++ X ++ [(g, m0)]) :: L)) ?_ (m := 96) ⟨by omega, by omega, by omega, s0, s1, X, by split <;> omega, hXb, O⟩
  clear O hXb hX he2
  rintro M (g : Sl) (i : Int) h next' hnx' ⟨hiM, hi1, hgl, s0, s1, X, hX, hXb, O⟩
  refine brr_p (fun hlt2 => ?_) (fun hlt2 => ?_)
  case refine_2 =>
    have h97 : i = 97 := by
      have hlt2 : ¬ i ≤ 96 := hlt2
      omega
    subst h97
    rw [wrap64 (by omega) (by omega)]
    refine hnx (m - 1) _ _ (by omega) ⟨by omega, by omega, s0, s1, X, by split at hX <;> omega, hXb, ?_⟩
    have O2 := O.sel [3, 0, 1, 2] 4 rfl (Nat.le_add_left _ _)
    have O3 := famR.sub (fs := es ++ X) O2 (fun e hx => List.mem_append.2 (.inl hx))
    exact O3.sel [1, 2, 3, 0] 4 rfl (Nat.le_add_left _ _)
  have hlt2 : i ≤ 96 := hlt2
  refine F_law1_at.is (by omega) ?_
  refine O.al fun a h O => ?_
  replace O := O.sel [0, 4, 1, 2, 3] 5 rfl (Nat.le_add_left _ _)
  simp only [selT, List.map, nth, List.drop, List.cons_append, List.nil_append] at O
  refine fam_app (by omega) O fun g' h hg' O => ?_
  refine jn1 (fun z h' => z = decide (i < 4 ∨ i % 16 = 0) ∧ h' = h) ?_ ?_
  case refine_2 =>
    intro j30 hj30
    refine brr_p (fun h4 => ?_) (fun h4 => ?_)
    · exact hj30 _ _ ⟨(decide_eq_true (.inl h4)).symm, rfl⟩
    · refine ⟨by decide, hj30 _ _ ⟨?_, rfl⟩⟩
      rw [Int.tmod_eq_emod_of_nonneg (by omega)]
      by_cases h16 : i % 16 = 0
      · rw [decide_eq_true (.inr h16), h16]; rfl
      · rw [decide_eq_false (fun x => x.elim h4 h16)]
        exact beq_eq_false_iff_ne.2 h16
  rintro z h2 ⟨rfl, rfl⟩
  refine jn0 (fun h' => ∃ (s0 s1 : Sl) (X : List BE), (X.length : Int) ≤ 9 * ((kN : Int) - nN) + (if i < 3 then i else 3) + i / 16 ∧ (∀ e ∈ X, e.1.len ≤ 5600096 ∧ e.2 ≤ T) ∧ Sat h0 h' (own bk (bkC s0 s1 nN t d u) :: buf 1 slc s0 ((es ++ X).map (·.1)) :: buf 1 natc s1 ((es ++ X).map (·.2)) :: famR (es ++ X ++ [(g', m0)]) :: L)) ?_ ?_
  · clear O
    rintro h ⟨s0, s1, X, hX', hXb, O⟩
    rw [wrap64 (by omega) (by omega)]
    refine hnx' (M - 1) _ _ _ (by omega) ⟨by omega, by omega, by omega, s0, s1, X, by rw [show i + 1 - 1 = i by omega]; exact hX', hXb, O⟩
  intro j33 hj33
  refine brr_p (fun hp => ?_) (fun hp => ?_)
  case refine_2 =>
    refine hj33 _ ⟨s0, s1, X, ?_, hXb, O.sel [1, 2, 3, 0] 4 rfl (Nat.le_add_left _ _)⟩
    split at hX <;> split <;> omega
  have hXl : X.length ≤ 9000100 := by split at hX <;> omega
  have hesX : (es ++ X).length ≤ 10000100 := by rw [List.length_append]; omega
  have O : Sat h0 h2 (own bk (bkC s0 s1 nN t d u) :: buf 1 slc s0 ((es ++ X).map (·.1)) :: buf 1 natc s1 ((es ++ X).map (·.2)) :: famR (es ++ X ++ [(g', m0)]) :: L) := O.sel [1, 2, 3, 0] 4 rfl (Nat.le_add_left _ _)
  refine ld0 O ?_
  have O := O.swap
  refine O.push_buf g' rfl slc_len slc_one rfl (by rw [List.length_map]; omega) fun s38 h O _ => ?_
  refine st0 O.swap fun h O => ?_
  refine ld1 O ?_
  replace O := O.sel [2, 0, 1, 3] 4 rfl (Nat.le_add_left _ _)
  simp only [selT, List.map, nth, List.drop, List.cons_append, List.nil_append] at O
  refine O.push_buf m0 rfl natc_len natc_one rfl (by rw [List.length_map]; omega) fun s46 h O _ => ?_
  refine st1 O.swap fun h O => ?_
  have e1 : (es ++ X).map (·.1) ++ [g'] = (es ++ (X ++ [(g', m0)])).map (·.1) := by simp
  have e2 : (es ++ X).map (·.2) ++ [m0] = (es ++ (X ++ [(g', m0)])).map (·.2) := by simp
  rw [e1, e2] at O
  refine hj33 _ ⟨s38, s46, X ++ [(g', m0)], ?_, ?_, ?_⟩
  · rw [List.length_append, List.length_singleton]
    split at hX <;> split <;> omega
  · intro e hx
    rcases List.mem_append.1 hx with hx | hx
    · exact hXb e hx
    · rw [List.mem_singleton.1 hx]
      exact ⟨by show g'.len ≤ _; omega, hm0⟩
  · have O2 := O.sel [3, 0, 1, 2] 4 rfl (Nat.le_add_left _ _)
    have O3 := famR.sub (fs := es ++ (X ++ [(g', m0)]) ++ [(g', m0)]) O2 (fun e hx => by
      rcases List.mem_append.1 hx with hx | hx
      · rw [← List.append_assoc] at hx; exact hx
      · exact List.mem_append.2 (.inr hx))
    exact O3.sel [1, 3, 2, 0] 4 rfl (Nat.le_add_left _ _)
end
end Go.Proofs.Ytdjhjpckefkolaa.V
/- The Book over lists of bytes: what is given to it, what it answers. -/
namespace Go.Proofs.Ytdjhjpckefkolaa.V
open Go Go.RowKit
set_option linter.unusedVariables false
set_option linter.unusedSimpArgs false
structure BkS where
  s0 : Sl
  s1 : Sl
  es : List BE
  n : Nat
  t : Nat
  d : Nat
  u : Nat
structure BkS.Ok (x : BkS) (T : Nat) : Prop where
  t : x.t ≤ T
  n : x.n ≤ x.es.length
  room : 120 * (x.es.length + 9 * (x.es.length - x.n)) ≤ x.u
  u : x.u ≤ 16777216
  len : ∀ (i : Nat) e, x.es[i]? = some e → e.1.len ≤ (if i < x.n then 5600096 else 5600000) ∧ e.2 ≤ T
def bkR (bk T : Nat) : Res := ex fun x : BkS => pr (x.Ok T) (sep (own bk (bkC x.s0 x.s1 x.n x.t x.d x.u)) (sep (buf 1 slc x.s0 (x.es.map (·.1))) (sep (buf 1 natc x.s1 (x.es.map (·.2))) (famR x.es))))
theorem Sat.book {h0 h : Heap} {L : List Res} {bk T : Nat} (O : Sat h0 h (bkR bk T :: L)) : ∃ x : BkS, x.Ok T ∧ Sat h0 h (own bk (bkC x.s0 x.s1 x.n x.t x.d x.u) :: buf 1 slc x.s0 (x.es.map (·.1)) :: buf 1 natc x.s1 (x.es.map (·.2)) :: famR x.es :: L) := by
  obtain ⟨x, O⟩ := O.ex
  obtain ⟨o, O⟩ := O.pr
  have O := O.sep.swap.sep.swap.sep
  exact ⟨x, o, O.sel [3, 2, 0, 1] 4 rfl (Nat.le_add_left _ _)⟩
theorem Sat.bookI {h0 h : Heap} {L : List Res} {bk T : Nat} {x : BkS} (o : x.Ok T) (O : Sat h0 h (own bk (bkC x.s0 x.s1 x.n x.t x.d x.u) :: buf 1 slc x.s0 (x.es.map (·.1)) :: buf 1 natc x.s1 (x.es.map (·.2)) :: famR x.es :: L)) : Sat h0 h (bkR bk T :: L) := by
  have O := (O.sel [2, 3, 0, 1] 4 rfl (Nat.le_add_left _ _)).sepI
  have O := (O.sel [2, 0, 1] 3 rfl (Nat.le_add_left _ _)).sepI
  exact (Sat.prI o (O.swap.sepI)).exI x
section
variable {h0 h : Heap} {L : List Res} {bk T : Nat}
theorem F_law1_Book_holds.is {x : BkS} {Q : Bool → Heap → Prop} (hb : ∀ e ∈ x.es, e.1.len ≤ 1099511627776 ∧ e.2 ≤ 1099511627776) (hn : x.es.length ≤ 1099511627776) (O : Sat h0 h (own bk (bkC x.s0 x.s1 x.n x.t x.d x.u) :: buf 1 slc x.s0 (x.es.map (·.1)) :: buf 1 natc x.s1 (x.es.map (·.2)) :: famR x.es :: L)) (k : Q true h) : F_law1_Book_holds (some (pt bk 0)) h Q := by
  rw [F_law1_Book_holds.eq_1, F_law1_Book_holds_of.eq_1]
  refine jn1 (fun z h' => z = true ∧ h' = h) ?_ ?_
  · rintro z h ⟨rfl, rfl⟩
    exact k
  · intro j hj
    refine F_law1_Book_plain.is hb hn O ?_
    refine brr_tt rfl ?_
    refine F_law1_Book_kept.is O ?_
    refine brr_tt rfl ?_
    refine F_law1_Book_told.is O ?_
    refine brr_tt rfl ?_
    refine F_law1_Book_held.is O ?_
    exact hj _ _ ⟨rfl, rfl⟩
theorem BkS.Ok.lens {x : BkS} (o : x.Ok T) (hT : T ≤ 1099511627776) : ∀ e ∈ x.es, e.1.len ≤ 1099511627776 ∧ e.2 ≤ 1099511627776 := by
  intro e he
  obtain ⟨i, hi⟩ := List.getElem?_of_mem he
  have := o.len i e hi
  refine ⟨?_, by omega⟩
  have h2 := this.1
  split at h2 <;> omega
theorem F_law1_Book_Look.is {Q : Bool → Heap → Prop} (hT : T ≤ 1099511627776) (O : Sat h0 h (bkR bk T :: L)) (k : ∀ h', Sat h0 h' (bkR bk T :: L) → Q true h') : F_law1_Book_Look (some (pt bk 0)) h Q := by
  rw [F_law1_Book_Look.eq_1, F_law1_Book_Look_of.eq_1]
  obtain ⟨x, o, O⟩ := O.book
  have h1 := o.room; have h2 := o.u; have h3 := o.n
  refine F_law1_Book_holds.is (o.lens hT) (by omega) O ?_
  refine brr_ff rfl ?_
  simp only [nn_some, pt_add, Nat.zero_add, Nat.add_zero, Nat.reduceAdd, Nat.reduceMul, Int.toNat_zero, Int.toNat_one, Nat.zero_mul, Nat.one_mul]
  have O1 := O
  unfold bkC at O1
  refine O1.ld 0 rfl (ldL_c (ldL_n ?_))
  refine O1.ld 0 rfl (ldL_c (ldL_n ?_))
  refine brr_eq (fun _ => k h (Sat.bookI o O)) (fun _ => ?_)
  rw [F_law1_Book_grow.eq_1, F_law1_Book_grow_of.eq_1]
  refine F_law1_Book_growBytes.is o.len hT o.n (by omega) O fun s0 s1 fs h hfs hfb O => ?_
  refine F_law1_Book_growRows.is O fun h O => ?_
  refine F_law1_Book_growTexts.is O fun h O => ?_
  refine F_law1_Book_growInts.is O fun h O => ?_
  refine F_law1_Book_growWords.is O fun h O => ?_
  refine F_law1_Book_growDones.is O fun h O => ?_
  refine F_law1_Book_growAccts.is O fun h O => ?_
  refine F_law1_Book_growQueue.is O fun h O => ?_
  refine F_law1_Book_growSlots.is O fun h O => ?_
  refine F_law1_Book_growMsgs.is O fun h O => ?_
  refine F_law1_Book_growFlights.is O fun h O => ?_
  refine F_law1_Book_growFiles.is O fun h O => ?_
  simp only [nn_some, pt_add, Nat.zero_add, Nat.add_zero, Nat.reduceAdd, Nat.reduceMul, Int.toNat_zero, Int.toNat_one, Nat.zero_mul, Nat.one_mul]
  have O1 := O
  unfold bkC at O1
  refine O1.ld 0 rfl (ldL_c (ldL_n ?_))
  refine O1.st 0 rfl (by simp) rfl fun h O => ?_
  dsimp only [V.put, List.set] at O
  have O : Sat h0 h (own bk (bkC s0 s1 fs.length x.t x.t x.u) :: buf 1 slc s0 (fs.map (·.1)) :: buf 1 natc s1 (fs.map (·.2)) :: famR fs :: L) := O
  have o2 : BkS.Ok ⟨s0, s1, fs, fs.length, x.t, x.t, x.u⟩ T := by
    refine ⟨o.t, Nat.le_refl _, ?_, o.u, fun i e hi => ?_⟩
    · show 120 * (fs.length + 9 * (fs.length - fs.length)) ≤ x.u
      omega
    · have hl := (List.getElem?_eq_some_iff.1 hi).1
      rw [if_pos hl]
      exact hfb e (List.mem_of_getElem? hi)
  refine F_law1_Book_holds.is (x := ⟨s0, s1, fs, fs.length, x.t, x.t, x.u⟩) (o2.lens hT) (by show fs.length ≤ _; omega) O ?_
  exact k h (Sat.bookI o2 O)
theorem marks_set {m i : Nat} {xs : List UInt8} (hi : i < xs.length) : (marksB m i ++ xs.drop i).set i (atB m i) = marksB m (i + 1) ++ xs.drop (i + 1) := by
  have e1 : xs.drop i = xs[i] :: xs.drop (i + 1) := List.drop_eq_getElem_cons hi
  rw [e1, List.set_append_right _ _ (by rw [marksB_len]; exact Nat.le_refl _), marksB_len, Nat.sub_self, List.set_cons_zero]
  have e2 : marksB m (i + 1) = marksB m i ++ [atB m i] := by unfold marksB; rw [List.range_succ, List.map_append]; rfl
  rw [e2, List.append_assoc]
  rfl
theorem F_law1_Book_Bytes.is {s : Sl} {xs : List UInt8} {Q : Heap → Prop} (hT : T ≤ 1099511627) (hx : xs.length ≤ 281474976710656) (O : Sat h0 h (buf 1 u8 s xs :: bkR bk T :: L)) (k : ∀ h', Sat h0 h' (bkR bk (T + 1) :: L) → Q h') : F_law1_Book_Bytes (some (pt bk 0)) s h Q := by
  rw [F_law1_Book_Bytes.eq_1, F_law1_Book_Bytes_of.eq_1]
  obtain ⟨x, o, O⟩ := O.swap.book
  have h1 := o.room; have h2 := o.u; have h3 := o.n; have h4 := o.t
  have hsl := (O.view 4 u8_len (by simp) rfl).1.len
  simp only [nn_some, pt_add, Nat.zero_add, Nat.add_zero, Nat.reduceAdd, Nat.reduceMul, Int.toNat_zero, Int.toNat_one, Nat.zero_mul, Nat.one_mul]
  unfold bkC at O
  refine O.ld 0 rfl (ldL_c (ldL_n ?_))
  refine O.st 0 rfl (by simp) rfl fun h O => ?_
  dsimp only [V.put, List.set] at O
  rw [wrap64 (by omega) (by omega)] at O
  refine O.ld 0 rfl (ldL_c (ldL_n ?_))
  have em : (x.t : Int) + 1 = ((x.t + 1 : Nat) : Int) := by omega
  rw [em] at O ⊢
  have O : Sat h0 h (own bk (bkC x.s0 x.s1 x.n (x.t + 1 : Nat) x.d x.u) :: buf 1 slc x.s0 (x.es.map (·.1)) :: buf 1 natc x.s1 (x.es.map (·.2)) :: famR x.es :: buf 1 u8 s xs :: L) := O
  replace O := O.sel [4, 0, 1, 2, 3] 5 rfl (Nat.le_add_left _ _)
  simp only [selT, List.map, nth, List.drop, List.cons_append, List.nil_append] at O
  refine jn0 (fun h' => Sat h0 h' (buf 1 u8 s (marksB (x.t + 1) s.len) :: own bk (bkC x.s0 x.s1 x.n (x.t + 1 : Nat) x.d x.u) :: buf 1 slc x.s0 (x.es.map (·.1)) :: buf 1 natc x.s1 (x.es.map (·.2)) :: famR x.es :: L)) ?_ ?_
  case refine_2 =>
    intro j hj
    rw [F_law1_Book_Bytes.l1.eq_1, hsl]
    rw [hsl] at hj
    refine wl1 (k := .int .i64) (fun (m : Nat) (i : Int) (h' : Heap) => 0 ≤ i ∧ i + m = xs.length ∧ Sat h0 h' (buf 1 u8 s (marksB (x.t + 1) i.toNat ++ xs.drop i.toNat) :: own bk (bkC x.s0 x.s1 x.n (x.t + 1 : Nat) x.d x.u) :: buf 1 slc x.s0 (x.es.map (·.1)) :: buf 1 natc x.s1 (x.es.map (·.2)) :: famR x.es :: L)) ?_ (m := xs.length) ⟨by omega, by omega, by rw [show marksB (x.t + 1) (0 : Int).toNat = [] from rfl]; exact O⟩
    clear O
    rintro m (i : Int) h next hn ⟨hi0, him, O⟩
    obtain ⟨i, rfl⟩ := Int.eq_ofNat_of_zero_le hi0
    simp only [Int.toNat_natCast] at O
    refine brr_p (fun hlt => ?_) (fun hlt => ?_)
    · have hil : i < xs.length := by omega
      refine F_law1_at.is (by omega) ?_
      refine O.put1 u8_len u8_one (by omega) (by rw [List.length_append, marksB_len, List.length_drop]; omega) (atB (x.t + 1) i) rfl fun h O => ?_
      rw [Int.toNat_natCast, marks_set hil] at O
      rw [wrap64 (by omega) (by omega)]
      refine hn (m - 1) _ _ (by omega) ⟨by omega, by omega, ?_⟩
      rw [show ((i : Int) + 1).toNat = i + 1 by omega]
      exact O
    · rw [List.drop_eq_nil_of_le (by omega), List.append_nil, show i = xs.length by omega] at O
      exact hj _ O
  clear O
  intro h O
  rw [F_law1_Book_tight.eq_1, F_law1_Book_tight_of.eq_1]
  simp only [nn_some, pt_add, Nat.zero_add, Nat.add_zero, Nat.reduceAdd, Nat.reduceMul, Int.toNat_zero, Int.toNat_one, Nat.zero_mul, Nat.one_mul]
  replace O := O.sel [1, 2, 3, 4, 0] 5 rfl (Nat.le_add_left _ _)
  simp only [selT, List.map, nth, List.drop, List.cons_append, List.nil_append] at O
  unfold bkC at O
  refine O.ld 0 rfl (ldL_c (ldL_n ?_))
  have ew : IntKind.i64.wrap (1200 + IntKind.i64.wrap (3 * ((s.len : Nat) : Int))) = 1200 + 3 * (xs.length : Int) := by
    rw [hsl, wrap64 (x := 3 * (xs.length : Int)) (by omega) (by omega), wrap64 (by omega) (by omega)]
  rw [ew, wrap64 (x := (x.u : Int) + (1200 + 3 * (xs.length : Int))) (by omega) (by omega)]
  have olen : ∀ (i : Nat) e, x.es[i]? = some e → e.1.len ≤ (if i < x.n then 5600096 else 5600000) ∧ e.2 ≤ T + 1 := fun i e hi => ⟨(o.len i e hi).1, Nat.le_succ_of_le (o.len i e hi).2⟩
  refine brr_p (fun hp => ?_) (fun hp => ?_)
  · refine brr_tt rfl ?_
    have O := O.sel [0, 1, 2, 3] 5 rfl (Nat.le_add_left _ _)
    exact k h (Sat.bookI (x := ⟨x.s0, x.s1, x.es, x.n, x.t + 1, x.d, x.u⟩) ⟨by show x.t + 1 ≤ T + 1; omega, o.n, o.room, o.u, olen⟩ O)
  · have hp : ¬ (x.u : Int) + (1200 + 3 * (xs.length : Int)) > 16777216 := hp
    refine O.ld 0 rfl (ldL_c (ldL_n ?_))
    refine O.st 0 rfl (by simp) rfl fun h O => ?_
    dsimp only [V.put, List.set] at O
    rw [show (x.u : Int) + (1200 + 3 * (xs.length : Int)) = ((x.u + (1200 + 3 * xs.length) : Nat) : Int) by omega, wrap64 (by omega) (by omega)] at O
    refine brr_ff rfl ?_
    refine O.ld 0 rfl (ldL_c (k := .sl) (x := x.s0) (ldL_n ?_))
    have O := O.swap
    refine O.push_buf s rfl slc_len slc_one rfl (by rw [List.length_map]; omega) fun s2 h O _ => ?_
    have O := O.swap
    refine O.st 0 rfl (by simp) rfl fun h O => ?_
    dsimp only [V.put, List.set] at O
    refine O.ld 0 rfl (ldL_c (k := .sl) (x := x.s1) (ldL_n ?_))
    replace O := O.sel [2, 0, 1, 3, 4] 5 rfl (Nat.le_add_left _ _)
    simp only [selT, List.map, nth, List.drop, List.cons_append, List.nil_append] at O
    refine O.push_buf (x.t + 1) rfl natc_len natc_one rfl (by rw [List.length_map]; omega) fun s3 h O _ => ?_
    have O := O.swap
    refine O.st 0 rfl (by simp) rfl fun h O => ?_
    dsimp only [V.put, List.set] at O
    replace O := O.sel [4, 3, 0, 2, 1] 5 rfl (Nat.le_add_left _ _)
    simp only [selT, List.map, nth, List.drop, List.cons_append, List.nil_append] at O
    have O := fam_take O
    have O : Sat h0 h (famR (x.es ++ [(s, x.t + 1)]) :: own bk (bkC s2 s3 x.n (x.t + 1 : Nat) x.d (x.u + (1200 + 3 * xs.length) : Nat)) :: buf 1 slc s2 (x.es.map (·.1) ++ [s]) :: buf 1 natc s3 (x.es.map (·.2) ++ [x.t + 1]) :: L) := O
    have e1 : x.es.map (·.1) ++ [s] = (x.es ++ [(s, x.t + 1)]).map (·.1) := by simp
    have e2 : x.es.map (·.2) ++ [x.t + 1] = (x.es ++ [(s, x.t + 1)]).map (·.2) := by simp
    rw [e1, e2] at O
    replace O := O.sel [1, 2, 3, 0] 4 rfl (Nat.le_add_left _ _)
    simp only [selT, List.map, nth, List.drop, List.cons_append, List.nil_append] at O
    have el : (x.es ++ [(s, x.t + 1)]).length = x.es.length + 1 := by simp
    refine k h (Sat.bookI (x := ⟨s2, s3, x.es ++ [(s, x.t + 1)], x.n, x.t + 1, x.d, x.u + (1200 + 3 * xs.length)⟩) ⟨by show x.t + 1 ≤ T + 1; omega, by show x.n ≤ (x.es ++ [(s, x.t + 1)]).length; omega, by show 120 * ((x.es ++ [(s, x.t + 1)]).length + 9 * ((x.es ++ [(s, x.t + 1)]).length - x.n)) ≤ x.u + (1200 + 3 * xs.length); omega, by show x.u + (1200 + 3 * xs.length) ≤ _; omega, fun i e hi => ?_⟩ O)
    have hi : (x.es ++ [(s, x.t + 1)])[i]? = some e := hi
    by_cases hlt : i < x.es.length
    · rw [List.getElem?_append_left hlt] at hi
      exact olen i e hi
    · rw [List.getElem?_append_right (by omega)] at hi
      have hi0 : i - x.es.length = 0 := by
        have := (List.getElem?_eq_some_iff.1 hi).1
        simp at this
        omega
      rw [hi0] at hi
      cases hi
      refine ⟨?_, by show x.t + 1 ≤ T + 1; omega⟩
      rw [if_neg (by show ¬ i < x.n; omega)]
      show s.len ≤ _
      omega
end
end Go.Proofs.Ytdjhjpckefkolaa.V
namespace Go.Proofs.Ytdjhjpckefkolaa.V
open Go Go.RowKit
set_option linter.unusedVariables false
set_option maxRecDepth 100000
def F_law1_Late_Add_of  (t1 : Option Addr) (got2 want3 : Sl) (h : Heap) (Q : Heap → Prop) : Prop :=
  nn t1 fun (a4 : Addr) =>
  ld [.sl] (a4.add 0) h fun (v5 : Sl) =>
  al 22 [.slice got2.ptr got2.len got2.cap] h fun (a6 : Addr) (h7 : Heap) =>
  app 22 1 24 (.slice none 0 0) v5 (some a6) 1 h7 fun (s8 : Sl) (h9 : Heap) =>
  nn t1 fun (a10 : Addr) =>
  st (a10.add 0) [.slice s8.ptr s8.len s8.cap] h9 fun (h11 : Heap) =>
  nn t1 fun (a12 : Addr) =>
  ld [.sl] (a12.add 1) h11 fun (v13 : Sl) =>
  b2s want3.ptr want3.len h11 fun (s14 : ByteArray) =>
  s2b 5 s14 h11 fun (s15 : Sl) (h16 : Heap) =>
  cellsAre h16 (a12.add 1) [.slice v13.ptr v13.len v13.cap] ∧
  al 22 [.slice s15.ptr s15.len s15.cap] h16 fun (a17 : Addr) (h18 : Heap) =>
  cellsAre h18 (a12.add 1) [.slice v13.ptr v13.len v13.cap] ∧
  app 22 1 24 (.slice none 0 0) v13 (some a17) 1 h18 fun (s19 : Sl) (h20 : Heap) =>
  nn t1 fun (a21 : Addr) =>
  st (a21.add 1) [.slice s19.ptr s19.len s19.cap] h20 fun (h22 : Heap) =>
  Q h22
def F_law1_Late_Add (t1 : Option Addr) (got2 want3 : Sl) (h : Heap) (Q : Heap → Prop) : Prop := F_law1_Late_Add_of  t1 got2 want3 h Q
def plan9 : Plan := .s (.r [0, 2]) (.d [0, 0, 2, 6, 14, 0, 32, 96, 224, 510, 1023, 2047, 4095] [[0, 1, 2, 3, 4, 5, 6, 7, 8, 9, 10, 11, 12]] [])
theorem F_law1_Late_Add.eq  (t1 : Option Addr) (got2 want3 : Sl) (h : Heap) (K : Value → Heap → Prop) : F_law1_Late_Add_of  t1 got2 want3 h (fun  (h : Heap) => K (.tuple #[]) h) =
    den Try.prog noFns Try.f9.ntmps plan9 (bodyOf Try.f9) (args0 0 [(.pointer t1 : Value), (.slice got2.ptr got2.len got2.cap : Value), (.slice want3.ptr want3.len want3.cap : Value)]) h ⟨fun env h => dRes Try.prog Try.f9.results.toList env h K, fun _ _ _ => False, fun env h => dRes Try.prog Try.f9.results.toList env h K⟩ := by kernel_rfl
def E_law1_Late_Add_of (f : Option Addr → Sl → Sl → Heap → (Heap → Prop) → Prop) : List Value → Heap → (Value → Heap → Prop) → Prop
  | [v0, v1, v2], h, K => dec1 .ptr v0 fun (t1 : Option Addr) =>
  dec1 .sl v1 fun (got2 : Sl) =>
  dec1 .sl v2 fun (want3 : Sl) =>
  f t1 got2 want3 h (fun  (h : Heap) => K (.tuple #[]) h)
  | _, _, _ => False
abbrev E_law1_Late_Add := E_law1_Late_Add_of F_law1_Late_Add
theorem E_law1_Late_Add.right : IsRight Try.prog 9 E_law1_Late_Add := by
  refine isRight fun vs K w hh => ?_
  match vs, hh with
  | [v0, v1, v2], hh =>
    unfold E_law1_Late_Add E_law1_Late_Add_of at hh
    replace hh := dec1_sound hh; obtain ⟨t1, rfl, hh⟩ := hh
    replace hh := dec1_sound hh; obtain ⟨got2, rfl, hh⟩ := hh
    replace hh := dec1_sound hh; obtain ⟨want3, rfl, hh⟩ := hh
    unfold F_law1_Late_Add at hh
    exact calls_den noFns_right plan9 _ w K Try.func9 (by kernel_rfl) (by kernel_rfl) (Eq.mp (F_law1_Late_Add.eq  t1 got2 want3 w.heap K) hh)
theorem ok9 : okFn Try.prog 9 = true := by kernel_rfl
end Go.Proofs.Ytdjhjpckefkolaa.V
namespace Go.Proofs.Ytdjhjpckefkolaa.V
open Go Go.RowKit
set_option linter.unusedVariables false
set_option maxRecDepth 100000
def F_law1_Late_same.l1 (t1 : Option Addr) (Q : Bool → Heap → Prop) (j2 : Heap → Prop) : Int → Heap → Prop :=
  wl [(3, .one (.int .i64))] (fun (next3 : Int → Heap → Prop) (i4 : Int) (h5 : Heap) =>
  nn t1 fun (a6 : Addr) =>
  ld [.sl] (a6.add 0) h5 fun (v7 : Sl) =>
  brr (decide (i4 < ((v7.len : Nat) : Int)))
  (nn t1 fun (a8 : Addr) =>
  ld [.sl] (a8.add 0) h5 fun (v9 : Sl) =>
  ixS 1 v9 i4 fun (a10 : Addr) =>
  ld [.sl] a10 h5 fun (v11 : Sl) =>
  b2s v11.ptr v11.len h5 fun (s12 : ByteArray) =>
  nn t1 fun (a13 : Addr) =>
  ld [.sl] (a13.add 1) h5 fun (v14 : Sl) =>
  ixS 1 v14 i4 fun (a15 : Addr) =>
  ld [.sl] a15 h5 fun (v16 : Sl) =>
  b2s v16.ptr v16.len h5 fun (s17 : ByteArray) =>
  brr (!(s12.toList == s17.toList))
  (Q false h5)
  (next3 (IntKind.i64.wrap (i4 + 1)) h5))
  (j2 h5))
def F_law1_Late_same_of  (t1 : Option Addr) (h : Heap) (Q : Bool → Heap → Prop) : Prop :=
  jn [] (fun  (h18 : Heap) =>
  Q true h18) (fun (j2 : Heap → Prop) =>
  F_law1_Late_same.l1 t1 Q j2 0 h)
def F_law1_Late_same (t1 : Option Addr) (h : Heap) (Q : Bool → Heap → Prop) : Prop := F_law1_Late_same_of  t1 h Q
def plan39 : Plan := .s (.r [0]) (.s (.s (.r [0, 3]) (.bj [] [] (.l [(3, .one (.int .i64))] [0] (.s (.s (.r [0, 3, 10]) (.c .z .z)) (.s (.b (.s (.d [0, 1, 3, 7, 0, 31, 63, 127, 0, 256, 768, 1792, 0, 7936, 16128, 32512, 65535] [[0, 1, 2, 3, 4, 5, 6, 7, 8, 9, 10, 11, 12, 13, 14, 15, 16]] [0, 3, 29]) (.c (.s (.r [2]) .z) .z))) (.r [0, 3])))))) (.s (.r [2]) .z))
theorem F_law1_Late_same.eq  (t1 : Option Addr) (h : Heap) (K : Value → Heap → Prop) : F_law1_Late_same_of  t1 h (fun (r0 : Bool) (h : Heap) => K (.bool r0) h) =
    den Try.prog noFns Try.f39.ntmps plan39 (bodyOf Try.f39) (args0 0 [(.pointer t1 : Value)]) h ⟨fun env h => dRes Try.prog Try.f39.results.toList env h K, fun _ _ _ => False, fun env h => dRes Try.prog Try.f39.results.toList env h K⟩ := by kernel_rfl
def E_law1_Late_same_of (f : Option Addr → Heap → (Bool → Heap → Prop) → Prop) : List Value → Heap → (Value → Heap → Prop) → Prop
  | [v0], h, K => dec1 .ptr v0 fun (t1 : Option Addr) =>
  f t1 h (fun (r0 : Bool) (h : Heap) => K (.bool r0) h)
  | _, _, _ => False
abbrev E_law1_Late_same := E_law1_Late_same_of F_law1_Late_same
theorem E_law1_Late_same.right : IsRight Try.prog 39 E_law1_Late_same := by
  refine isRight fun vs K w hh => ?_
  match vs, hh with
  | [v0], hh =>
    unfold E_law1_Late_same E_law1_Late_same_of at hh
    replace hh := dec1_sound hh; obtain ⟨t1, rfl, hh⟩ := hh
    unfold F_law1_Late_same at hh
    exact calls_den noFns_right plan39 _ w K Try.func39 (by kernel_rfl) (by kernel_rfl) (Eq.mp (F_law1_Late_same.eq  t1 w.heap K) hh)
theorem ok39 : okFn Try.prog 39 = true := by kernel_rfl
end Go.Proofs.Ytdjhjpckefkolaa.V
namespace Go.Proofs.Ytdjhjpckefkolaa.V
open Go Go.RowKit
set_option linter.unusedVariables false
set_option maxRecDepth 100000
def F_law1_Late_Settle.l1 (f40_ : Option Addr → Sl → Heap → (Heap → Prop) → Prop) (t1 b2 : Option Addr) (j8 : Heap → Prop) : Int → Heap → Prop :=
  wl [(7, .one (.int .i64))] (fun (next9 : Int → Heap → Prop) (i10 : Int) (h11 : Heap) =>
  nn t1 fun (a12 : Addr) =>
  ld [.sl] (a12.add 0) h11 fun (v13 : Sl) =>
  brr (decide (i10 < ((v13.len : Nat) : Int)))
  (nn t1 fun (a14 : Addr) =>
  ld [.sl] (a14.add 0) h11 fun (v15 : Sl) =>
  ixS 1 v15 i10 fun (a16 : Addr) =>
  ld [.sl] a16 h11 fun (v17 : Sl) =>
  f40_ b2 v17 h11 fun  (h18 : Heap) =>
  next9 (IntKind.i64.wrap (i10 + 1)) h18)
  (j8 h11))
def F_law1_Late_Settle_of (f16_ : Option Addr → Heap → (Bool → Heap → Prop) → Prop) (f39_ : Option Addr → Heap → (Bool → Heap → Prop) → Prop) (f40_ : Option Addr → Sl → Heap → (Heap → Prop) → Prop) (t1 b2 : Option Addr) (n3 : Int) (h : Heap) (Q : Bool → Heap → Prop) : Prop :=
  nn t1 fun (a4 : Addr) =>
  ld [.sl] (a4.add 0) h fun (v5 : Sl) =>
  brr (decide (((v5.len : Nat) : Int) < n3))
  (Q true h)
  (f39_ t1 h fun (r6 : Bool) (h7 : Heap) =>
  brr (!r6)
  (Q false h7)
  (jn [] (fun  (h19 : Heap) =>
  nn t1 fun (a20 : Addr) =>
  st (a20.add 0) [.slice none 0 0] h19 fun (h21 : Heap) =>
  nn t1 fun (a22 : Addr) =>
  st (a22.add 1) [.slice none 0 0] h21 fun (h23 : Heap) =>
  f16_ b2 h23 fun (r24 : Bool) (h25 : Heap) =>
  Q r24 h25) (fun (j8 : Heap → Prop) =>
  F_law1_Late_Settle.l1 f40_ t1 b2 j8 0 h7)))
def F_law1_Late_Settle (t1 b2 : Option Addr) (n3 : Int) (h : Heap) (Q : Bool → Heap → Prop) : Prop := F_law1_Late_Settle_of F_law1_Book_Look F_law1_Late_same F_law1_Book_Bytes t1 b2 n3 h Q
def plan15 : Plan := .s (.r [0, 1, 2]) (.s (.s (.r [0, 1, 14]) (.c (.s (.r [6]) .z) .z)) (.s (.s (.r [0, 1, 17]) (.c (.s (.r [6]) .z) .z)) (.s (.s (.r [0, 1, 7]) (.bj [] [0, 1] (.l [(7, .one (.int .i64))] [0, 1] (.s (.s (.r [0, 1, 7, 24]) (.c .z .z)) (.s (.b (.r [0, 1, 7])) (.r [0, 1, 7])))))) (.s (.r [0, 1]) (.s (.r [1]) (.s (.r [6]) .z))))))
theorem F_law1_Late_Settle.eq (f16_ : Option Addr → Heap → (Bool → Heap → Prop) → Prop) (f39_ : Option Addr → Heap → (Bool → Heap → Prop) → Prop) (f40_ : Option Addr → Sl → Heap → (Heap → Prop) → Prop) (t1 b2 : Option Addr) (n3 : Int) (h : Heap) (K : Value → Heap → Prop) : F_law1_Late_Settle_of f16_ f39_ f40_ t1 b2 n3 h (fun (r0 : Bool) (h : Heap) => K (.bool r0) h) =
    den Try.prog (fn1 16 (E_law1_Book_Look_of f16_) (fn1 39 (E_law1_Late_same_of f39_) (fn1 40 (E_law1_Book_Bytes_of f40_) noFns))) Try.f15.ntmps plan15 (bodyOf Try.f15) (args0 0 [(.pointer t1 : Value), (.pointer b2 : Value), (.int .i64 n3 : Value)]) h ⟨fun env h => dRes Try.prog Try.f15.results.toList env h K, fun _ _ _ => False, fun env h => dRes Try.prog Try.f15.results.toList env h K⟩ := by kernel_rfl
def E_law1_Late_Settle_of (f : Option Addr → Option Addr → Int → Heap → (Bool → Heap → Prop) → Prop) : List Value → Heap → (Value → Heap → Prop) → Prop
  | [v0, v1, v2], h, K => dec1 .ptr v0 fun (t1 : Option Addr) =>
  dec1 .ptr v1 fun (b2 : Option Addr) =>
  dec1 (.int .i64) v2 fun (n3 : Int) =>
  f t1 b2 n3 h (fun (r0 : Bool) (h : Heap) => K (.bool r0) h)
  | _, _, _ => False
abbrev E_law1_Late_Settle := E_law1_Late_Settle_of F_law1_Late_Settle
theorem E_law1_Late_Settle.right : IsRight Try.prog 15 E_law1_Late_Settle := by
  refine isRight fun vs K w hh => ?_
  match vs, hh with
  | [v0, v1, v2], hh =>
    unfold E_law1_Late_Settle E_law1_Late_Settle_of at hh
    replace hh := dec1_sound hh; obtain ⟨t1, rfl, hh⟩ := hh
    replace hh := dec1_sound hh; obtain ⟨b2, rfl, hh⟩ := hh
    replace hh := dec1_sound hh; obtain ⟨n3, rfl, hh⟩ := hh
    unfold F_law1_Late_Settle at hh
    exact calls_den (fn1_right ok16 E_law1_Book_Look.right (fn1_right ok39 E_law1_Late_same.right (fn1_right ok40 E_law1_Book_Bytes.right noFns_right))) plan15 _ w K Try.func15 (by kernel_rfl) (by kernel_rfl) (Eq.mp (F_law1_Late_Settle.eq F_law1_Book_Look F_law1_Late_same F_law1_Book_Bytes t1 b2 n3 w.heap K) hh)
theorem ok15 : okFn Try.prog 15 = true := by kernel_rfl
end Go.Proofs.Ytdjhjpckefkolaa.V
/- Answers that are kept for a while, then laid into the book: Late. -/
namespace Go.Proofs.Ytdjhjpckefkolaa.V
open Go Go.RowKit
set_option linter.unusedVariables false
set_option linter.unusedSimpArgs false
abbrev LE := Sl × List UInt8 × Sl
def lbE (e : LE) : Res := buf 1 u8 e.1 e.2.1
def lbW (e : LE) : Res := buf 1 u8 e.2.2 e.2.1
structure LtS where
  g : Sl
  w : Sl
  es : List LE
structure LtS.Ok (y : LtS) (n : Nat) : Prop where
  n : y.es.length = n
  b : ∀ e ∈ y.es, e.2.1.length ≤ 1099511627776
def lateR (t n : Nat) : Res := ex fun y : LtS => pr (y.Ok n) (sep (own t [.slice y.g.ptr y.g.len y.g.cap, .slice y.w.ptr y.w.len y.w.cap]) (sep (buf 1 slc y.g (y.es.map (·.1))) (sep (buf 1 slc y.w (y.es.map (·.2.2))) (sep (many lbE y.es) (many lbW y.es)))))
theorem Sat.s2bL {h0 h : Heap} {L : List Res} {T : Nat} {bs : ByteArray} {xs : List UInt8} {K : Sl → Heap → Prop} (O : Sat h0 h L) (hb : bs = ⟨xs.toArray⟩) (k : ∀ s h', Sat h0 h' (buf 1 u8 s xs :: L) → K s h') : V.s2b T bs h K := by
  subst hb
  intro c hc
  have hs : (⟨xs.toArray⟩ : ByteArray).size = xs.length := rfl
  rw [hs] at hc ⊢
  have fl : ∀ l : List UInt8, (l.map fun b => Value.int .u8 (b.toNat : Int)) = l.flatMap u8 := by
    intro l
    induction l with
    | nil => rfl
    | cons x l ih => rw [List.map_cons, List.flatMap_cons, ih]; rfl
  have e : (⟨xs.toArray⟩ : ByteArray).data.toList = xs := rfl
  rw [e, fl]
  have hl := flatMap_len u8_len xs
  have O' := O.push (xs.flatMap u8 ++ List.replicate (c - xs.length) (Value.int .u8 0)) T (c, c + 1) (.inr (by rw [List.length_append, hl, List.length_replicate]; omega))
  have O2 := (O'.own_buf (k := c - xs.length) (sz := 1) (by simp)).bufsI
  rw [show xs.length + (c - xs.length) = c by omega] at O2
  exact k _ _ O2
abbrev NM := Int × List UInt8
section
variable {h0 h : Heap} {L : List Res}
theorem Sat.lt {t n : Nat} (O : Sat h0 h (lateR t n :: L)) : ∃ y : LtS, y.Ok n ∧ Sat h0 h (own t [.slice y.g.ptr y.g.len y.g.cap, .slice y.w.ptr y.w.len y.w.cap] :: buf 1 slc y.g (y.es.map (·.1)) :: buf 1 slc y.w (y.es.map (·.2.2)) :: many lbE y.es :: many lbW y.es :: L) := by
  obtain ⟨y, O⟩ := O.ex
  obtain ⟨o, O⟩ := O.pr
  have O := O.sep.swap.sep.swap
  refine ⟨y, o, ?_⟩
  have O := O.sep
  have O := (O.sel [1, 0, 2, 3] 4 rfl (Nat.le_add_left _ _)).sep
  exact O.sel [4, 3, 2, 0, 1] 5 rfl (Nat.le_add_left _ _)
theorem Sat.ltI {t n : Nat} {y : LtS} (o : y.Ok n) (O : Sat h0 h (own t [.slice y.g.ptr y.g.len y.g.cap, .slice y.w.ptr y.w.len y.w.cap] :: buf 1 slc y.g (y.es.map (·.1)) :: buf 1 slc y.w (y.es.map (·.2.2)) :: many lbE y.es :: many lbW y.es :: L)) : Sat h0 h (lateR t n :: L) := by
  refine Sat.exI y (Sat.prI o ?_)
  have O := (O.sel [3, 4, 0, 1, 2] 5 rfl (Nat.le_add_left _ _)).sepI
  have O := (O.sel [3, 0, 1, 2] 4 rfl (Nat.le_add_left _ _)).sepI
  have O := (O.sel [2, 0, 1] 3 rfl (Nat.le_add_left _ _)).sepI
  exact (O.swap).sepI
theorem lt_new {t : Nat} (O : Sat h0 h (own t [.slice none 0 0, .slice none 0 0] :: L)) : Sat h0 h (lateR t 0 :: L) := by
  refine Sat.ltI (y := ⟨⟨none, 0, 0⟩, ⟨none, 0, 0⟩, []⟩) ⟨rfl, fun e he => by cases he⟩ ?_
  have O2 := ((((O.none (f := lbW)).none (f := lbE)).nil_buf (sz := 1) (enc := slc)).nil_buf (sz := 1) (enc := slc))
  exact O2.sel [4, 0, 1, 2, 3] 5 rfl (Nat.le_add_left _ _)
theorem F_law1_Late_Add.is {t n : Nat} {x w : Sl} {xs : List UInt8} {Q : Heap → Prop} (hn : n ≤ 1000000) (hx : xs.length ≤ 1099511627776) (Vw : Stays h0 L fun h => Bytes h w xs) (O : Sat h0 h (buf 1 u8 x xs :: lateR t n :: L)) (k : ∀ h', Sat h0 h' (lateR t (n + 1) :: L) → Q h') : F_law1_Late_Add (some (pt t 0)) x w h Q := by
  rw [F_law1_Late_Add.eq_1, F_law1_Late_Add_of.eq_1]
  obtain ⟨y, o, O⟩ := O.swap.lt
  have e1 := o.n
  refine ⟨_, rfl, ?_⟩
  refine O.ld 0 rfl (ldL_s (ldL_n ?_))
  refine Sat.push_buf (O.sel [1, 0, 2, 3, 4, 5] 6 rfl (Nat.le_add_left _ _)) x rfl slc_len slc_one rfl (by rw [List.length_map]; omega) fun g2 h O _ => ?_
  refine ⟨_, rfl, ?_⟩
  refine O.st 1 rfl (by simp) rfl fun h O => ?_
  dsimp only [V.put, List.set] at O
  refine ⟨_, rfl, ?_⟩
  refine O.ld 1 rfl (ldL_s (ldL_n ?_))
  refine b2s_view (Vw h (O.sel [] 6 rfl (Nat.le_add_left _ _))) ?_
  refine Sat.s2bL O rfl fun s15 h O => ?_
  refine O.ca 2 1 rfl ?_
  refine O.al fun b h O => ?_
  refine O.ca 3 1 rfl ?_
  have O := O.sel [4, 0, 1, 2, 3, 5, 6, 7] 8 rfl (Nat.le_add_left _ _)
  refine Sat.app_buf (enc := slc) O slc_len slc_one rfl (ys := [s15]) rfl (rdP_own O 1 rfl 1 (Nat.le_refl _)) (by simp; omega) fun w2 h O _ => ?_
  refine ⟨_, rfl, ?_⟩
  refine O.st 4 rfl (by simp) rfl fun h O => ?_
  dsimp only [V.put, List.set] at O
  refine k h (Sat.ltI (y := ⟨g2, w2, y.es ++ [(x, xs, s15)]⟩) ⟨by show (y.es ++ [_]).length = _; rw [List.length_append, e1]; rfl, fun e he => ?_⟩ ?_)
  · rcases List.mem_append.1 he with he | he
    · exact o.b e he
    · rw [List.mem_singleton.1 he]; exact hx
  · -- w2 0, cell b 1, s15 2, g2 3, own t 4, mE 5, mW 6, x 7
    have O := Sat.more (f := lbE) (y := (x, xs, s15)) (O.sel [7, 5, 0, 2, 3, 4, 6] 8 rfl (Nat.le_add_left _ _))
    have O := Sat.more (f := lbW) (y := (x, xs, s15)) (O.sel [2, 5, 0, 1, 3, 4] 6 rfl (Nat.le_add_left _ _))
    show Sat h0 h (_ :: buf 1 slc g2 ((y.es ++ [((x, xs, s15) : LE)]).map (·.1)) :: buf 1 slc w2 ((y.es ++ [((x, xs, s15) : LE)]).map (·.2.2)) :: _)
    rw [List.map_append, List.map_append]
    exact O.sel [4, 3, 2, 1, 0] 5 rfl (Nat.le_add_left _ _)
theorem F_law1_Late_same.is {t : Nat} {g w : Sl} {es : List LE} {Q : Bool → Heap → Prop} (hn : es.length ≤ 1000000) (O : Sat h0 h (own t [.slice g.ptr g.len g.cap, .slice w.ptr w.len w.cap] :: buf 1 slc g (es.map (·.1)) :: buf 1 slc w (es.map (·.2.2)) :: many lbE es :: many lbW es :: L)) (k : Q true h) : F_law1_Late_same (some (pt t 0)) h Q := by
  rw [F_law1_Late_same.eq_1, F_law1_Late_same_of.eq_1]
  refine jn0 (fun h' => h' = h) (fun h2 e => e ▸ k) fun j hj => ?_
  rw [F_law1_Late_same.l1.eq_1]
  refine wl1 (k := .int .i64) (fun (m : Nat) (i : Int) (h' : Heap) => i + m = es.length ∧ 0 ≤ i ∧ h' = h) ?_ (m := es.length) ⟨by omega, by omega, rfl⟩
  rintro m (i : Int) h2 next hn2 ⟨him, hi0, rfl⟩
  have V1 := (O.view 1 slc_len (by simp) rfl).1
  have V2 := (O.view 2 slc_len (by simp) rfl).1
  refine ⟨_, rfl, ?_⟩
  refine O.ld 0 rfl (ldL_s (ldL_n ?_))
  rw [V1.len, List.length_map]
  refine brr_p (fun hlt => ?_) (fun hlt => hj _ rfl)
  obtain ⟨e, he⟩ : ∃ e, es[i.toNat]? = some e := ⟨_, List.getElem?_eq_getElem (by omega)⟩
  have q1 : (es.map (·.1))[i.toNat]? = some e.1 := by rw [List.getElem?_map, he]; rfl
  have q2 : (es.map (·.2.2))[i.toNat]? = some e.2.2 := by rw [List.getElem?_map, he]; rfl
  have O1 : Sat h0 h2 (buf 1 u8 e.1 e.2.1 :: _) := (O.sel [3, 0, 1, 2, 4] 5 rfl (Nat.le_add_left _ _)).take _ he
  have O2 : Sat h0 h2 (buf 1 u8 e.2.2 e.2.1 :: _) := (O.sel [4, 0, 1, 2, 3] 5 rfl (Nat.le_add_left _ _)).take _ he
  refine ⟨_, rfl, ?_⟩
  refine O.ld 0 rfl (ldL_s (ldL_n ?_))
  refine V1.getP hi0 q1 fun a ha => ld_are (ha V1) (ldL_s (ldL_n ?_))
  refine b2s_view (O1.view 0 u8_len (by simp) rfl).1 ?_
  refine ⟨_, rfl, ?_⟩
  refine O.ld 0 rfl (ldL_s (ldL_n ?_))
  refine V2.getP hi0 q2 fun a ha => ld_are (ha V2) (ldL_s (ldL_n ?_))
  refine b2s_view (O2.view 0 u8_len (by simp) rfl).1 ?_
  refine brr_ff (by simp) ?_
  rw [wrap64 (by omega) (by omega)]
  exact hn2 (m - 1) _ _ (by omega) ⟨by omega, by omega, rfl⟩
theorem F_law1_Late_Settle.is {t n bk T : Nat} {z : Int} {Q : Bool → Heap → Prop} (hT : T + n ≤ 1000000) (O : Sat h0 h (lateR t n :: bkR bk T :: L)) (k : ∀ n' T' h', n' + T' ≤ n + T → Sat h0 h' (lateR t n' :: bkR bk T' :: L) → Q true h') : F_law1_Late_Settle (some (pt t 0)) (some (pt bk 0)) z h Q := by
  rw [F_law1_Late_Settle.eq_1, F_law1_Late_Settle_of.eq_1]
  obtain ⟨y, o, O⟩ := O.lt
  have e1 := o.n
  refine ⟨_, rfl, ?_⟩
  refine O.ld 0 rfl (ldL_s (ldL_n ?_))
  refine brr_p (fun hlt => k _ _ _ (Nat.le_refl _) (O.ltI o)) (fun hlt => ?_)
  refine F_law1_Late_same.is (by omega) O ?_
  refine brr_ff rfl ?_
  refine jn0 (fun h' => Sat h0 h' (own t [.slice y.g.ptr y.g.len y.g.cap, .slice y.w.ptr y.w.len y.w.cap] :: bkR bk (T + n) :: L)) ?_ ?_
  · clear O
    intro h O
    refine ⟨_, rfl, ?_⟩
    refine O.st 0 rfl (by simp) rfl fun h O => ?_
    dsimp only [V.put, List.set] at O
    refine ⟨_, rfl, ?_⟩
    refine O.st 0 rfl (by simp) rfl fun h O => ?_
    dsimp only [V.put, List.set] at O
    have O := (lt_new O).swap
    refine F_law1_Book_Look.is (by omega) O fun h O => ?_
    exact k 0 (T + n) _ (by omega) O.swap
  · intro j hj
    rw [F_law1_Late_Settle.l1.eq_1]
    refine wl1 (k := .int .i64) (fun (m : Nat) (i : Int) (h' : Heap) => i + m = y.es.length ∧ 0 ≤ i ∧ Sat h0 h' (own t [.slice y.g.ptr y.g.len y.g.cap, .slice y.w.ptr y.w.len y.w.cap] :: buf 1 slc y.g (y.es.map (·.1)) :: many lbE (y.es.drop i.toNat) :: bkR bk (T + i.toNat) :: L)) ?_ (m := y.es.length) ⟨by omega, by omega, by exact O.sel [0, 1, 3, 5] 6 rfl (Nat.le_add_left _ _)⟩
    clear O
    rintro m (i : Int) h next hn2 ⟨him, hi0, O⟩
    have V1 := (O.view 1 slc_len (by simp) rfl).1
    refine ⟨_, rfl, ?_⟩
    refine O.ld 0 rfl (ldL_s (ldL_n ?_))
    rw [V1.len, List.length_map]
    refine brr_p (fun hlt => ?_) (fun hlt => hj _ (by rw [show T + n = T + i.toNat by omega]; exact O.sel [0, 3] 4 rfl (Nat.le_add_left _ _)))
    obtain ⟨e, he⟩ : ∃ e, y.es[i.toNat]? = some e := ⟨_, List.getElem?_eq_getElem (by omega)⟩
    have q1 : (y.es.map (·.1))[i.toNat]? = some e.1 := by rw [List.getElem?_map, he]; rfl
    refine ⟨_, rfl, ?_⟩
    refine O.ld 0 rfl (ldL_s (ldL_n ?_))
    refine V1.getP hi0 q1 fun a ha => ld_are (ha V1) (ldL_s (ldL_n ?_))
    have ed : y.es.drop i.toNat = e :: y.es.drop (i.toNat + 1) := by
      obtain ⟨h1, h2⟩ := List.getElem?_eq_some_iff.1 he
      rw [List.drop_eq_getElem_cons h1, h2]
    rw [ed] at O
    have O := (O.sel [2, 0, 1, 3] 4 rfl (Nat.le_add_left _ _))
    have O : Sat h0 h (sep (lbE e) (many lbE (y.es.drop (i.toNat + 1))) :: own t [.slice y.g.ptr y.g.len y.g.cap, .slice y.w.ptr y.w.len y.w.cap] :: buf 1 slc y.g (y.es.map (·.1)) :: bkR bk (T + i.toNat) :: L) := O
    have O := O.sep.sel [0, 4, 2, 3, 1] 5 rfl (Nat.le_add_left _ _)
    have hb := o.b e (List.mem_of_getElem? he)
    refine F_law1_Book_Bytes.is (xs := e.2.1) (by omega) (by omega) O fun h O => ?_
    rw [wrap64 (by omega) (by omega)]
    refine hn2 (m - 1) _ _ (by omega) ⟨by omega, by omega, ?_⟩
    rw [show (i + 1).toNat = i.toNat + 1 by omega]
    exact O.sel [1, 2, 3, 0] 4 rfl (Nat.le_add_left _ _)
end
end Go.Proofs.Ytdjhjpckefkolaa.V
namespace Go.Proofs.Ytdjhjpckefkolaa.V
open Go Go.RowKit
set_option linter.unusedVariables false
set_option maxRecDepth 100000
def F_ref1_Eye_Left_of  (e1 : Option Addr) (h : Heap) (Q : Int → Heap → Prop) : Prop :=
  nn e1 fun (a2 : Addr) =>
  ld [.sl] (a2.add 0) h fun (v3 : Sl) =>
  nn e1 fun (a4 : Addr) =>
  ld [.int .i64] (a4.add 1) h fun (v5 : Int) =>
  Q (IntKind.i64.wrap (((v3.len : Nat) : Int) - v5)) h
def F_ref1_Eye_Left (e1 : Option Addr) (h : Heap) (Q : Int → Heap → Prop) : Prop := F_ref1_Eye_Left_of  e1 h Q
def plan38 : Plan := .s (.r [0]) (.s (.d [0, 1, 3, 7, 15, 0, 32, 96, 224, 511, 1023] [[0, 1, 2, 3, 4, 5, 6, 7, 8, 9, 10]] [2]) .z)
theorem F_ref1_Eye_Left.eq  (e1 : Option Addr) (h : Heap) (K : Value → Heap → Prop) : F_ref1_Eye_Left_of  e1 h (fun (r0 : Int) (h : Heap) => K (.int .i64 r0) h) =
    den Try.prog noFns Try.f38.ntmps plan38 (bodyOf Try.f38) (args0 0 [(.pointer e1 : Value)]) h ⟨fun env h => dRes Try.prog Try.f38.results.toList env h K, fun _ _ _ => False, fun env h => dRes Try.prog Try.f38.results.toList env h K⟩ := by kernel_rfl
def E_ref1_Eye_Left_of (f : Option Addr → Heap → (Int → Heap → Prop) → Prop) : List Value → Heap → (Value → Heap → Prop) → Prop
  | [v0], h, K => dec1 .ptr v0 fun (e1 : Option Addr) =>
  f e1 h (fun (r0 : Int) (h : Heap) => K (.int .i64 r0) h)
  | _, _, _ => False
abbrev E_ref1_Eye_Left := E_ref1_Eye_Left_of F_ref1_Eye_Left
theorem E_ref1_Eye_Left.right : IsRight Try.prog 38 E_ref1_Eye_Left := by
  refine isRight fun vs K w hh => ?_
  match vs, hh with
  | [v0], hh =>
    unfold E_ref1_Eye_Left E_ref1_Eye_Left_of at hh
    replace hh := dec1_sound hh; obtain ⟨e1, rfl, hh⟩ := hh
    unfold F_ref1_Eye_Left at hh
    exact calls_den noFns_right plan38 _ w K Try.func38 (by kernel_rfl) (by kernel_rfl) (Eq.mp (F_ref1_Eye_Left.eq  e1 w.heap K) hh)
theorem ok38 : okFn Try.prog 38 = true := by kernel_rfl
end Go.Proofs.Ytdjhjpckefkolaa.V
namespace Go.Proofs.Ytdjhjpckefkolaa.V
open Go Go.RowKit
set_option linter.unusedVariables false
set_option maxRecDepth 100000
def F_ref1_Eye_Raw_of (f6_ : Sl → Heap → (Sl → Heap → Prop) → Prop) (f38_ : Option Addr → Heap → (Int → Heap → Prop) → Prop) (e1 : Option Addr) (n2 : Int) (h : Heap) (Q : Sl → Heap → Prop) : Prop :=
  nn e1 fun (a3 : Addr) =>
  ld [.int .i64] (a3.add 2) h fun (v4 : Int) =>
  brr (v4 != 0)
  (Q (⟨none, 0, 0⟩ : Sl) h)
  (brr (decide (n2 < 0))
  (nn e1 fun (a5 : Addr) =>
  st (a5.add 2) [.int .i64 14] h fun (h6 : Heap) =>
  Q (⟨none, 0, 0⟩ : Sl) h6)
  (f38_ e1 h fun (r7 : Int) (h8 : Heap) =>
  brr (decide (n2 > r7))
  (nn e1 fun (a9 : Addr) =>
  st (a9.add 2) [.int .i64 10] h8 fun (h10 : Heap) =>
  Q (⟨none, 0, 0⟩ : Sl) h10)
  (nn e1 fun (a11 : Addr) =>
  ld [.sl] (a11.add 0) h8 fun (v12 : Sl) =>
  nn e1 fun (a13 : Addr) =>
  ld [.int .i64] (a13.add 1) h8 fun (v14 : Int) =>
  nn e1 fun (a15 : Addr) =>
  ld [.int .i64] (a15.add 1) h8 fun (v16 : Int) =>
  slFT 1 v12 v14 (IntKind.i64.wrap (v16 + n2)) fun (s17 : Sl) =>
  f6_ s17 h8 fun (r18 : Sl) (h19 : Heap) =>
  nn e1 fun (a20 : Addr) =>
  ld [.int .i64] (a20.add 1) h19 fun (v21 : Int) =>
  nn e1 fun (a22 : Addr) =>
  st (a22.add 1) [.int .i64 (IntKind.i64.wrap (v21 + n2))] h19 fun (h23 : Heap) =>
  Q r18 h23)))
def F_ref1_Eye_Raw (e1 : Option Addr) (n2 : Int) (h : Heap) (Q : Sl → Heap → Prop) : Prop := F_ref1_Eye_Raw_of F_ref0_Copy F_ref1_Eye_Left e1 n2 h Q
def plan13 : Plan := .s (.r [0, 1]) (.s (.b (.s (.r [0, 1, 6]) (.c (.s (.r [4]) .z) (.s (.r [0, 1, 12]) (.c (.s (.r []) (.s (.r [4]) .z)) (.s (.r [0, 1, 18]) (.c (.s (.r []) (.s (.r [4]) .z)) .z))))))) (.s (.d [0, 1, 3, 7, 0, 16, 48, 112, 0, 256, 768, 1792, 0, 7936, 16383, 32767, 65535] [[0, 1, 2, 3, 4, 5, 6, 7, 8, 9, 10, 11, 12, 13, 14, 15, 16]] [0, 1, 5]) (.s (.r [5]) (.s (.r [4]) .z))))
theorem F_ref1_Eye_Raw.eq (f6_ : Sl → Heap → (Sl → Heap → Prop) → Prop) (f38_ : Option Addr → Heap → (Int → Heap → Prop) → Prop) (e1 : Option Addr) (n2 : Int) (h : Heap) (K : Value → Heap → Prop) : F_ref1_Eye_Raw_of f6_ f38_ e1 n2 h (fun (r0 : Sl) (h : Heap) => K (.slice r0.ptr r0.len r0.cap) h) =
    den Try.prog (fn1 6 (E_ref0_Copy_of f6_) (fn1 38 (E_ref1_Eye_Left_of f38_) noFns)) Try.f13.ntmps plan13 (bodyOf Try.f13) (args0 0 [(.pointer e1 : Value), (.int .i64 n2 : Value)]) h ⟨fun env h => dRes Try.prog Try.f13.results.toList env h K, fun _ _ _ => False, fun env h => dRes Try.prog Try.f13.results.toList env h K⟩ := by kernel_rfl
def E_ref1_Eye_Raw_of (f : Option Addr → Int → Heap → (Sl → Heap → Prop) → Prop) : List Value → Heap → (Value → Heap → Prop) → Prop
  | [v0, v1], h, K => dec1 .ptr v0 fun (e1 : Option Addr) =>
  dec1 (.int .i64) v1 fun (n2 : Int) =>
  f e1 n2 h (fun (r0 : Sl) (h : Heap) => K (.slice r0.ptr r0.len r0.cap) h)
  | _, _, _ => False
abbrev E_ref1_Eye_Raw := E_ref1_Eye_Raw_of F_ref1_Eye_Raw
theorem E_ref1_Eye_Raw.right : IsRight Try.prog 13 E_ref1_Eye_Raw := by
  refine isRight fun vs K w hh => ?_
  match vs, hh with
  | [v0, v1], hh =>
    unfold E_ref1_Eye_Raw E_ref1_Eye_Raw_of at hh
    replace hh := dec1_sound hh; obtain ⟨e1, rfl, hh⟩ := hh
    replace hh := dec1_sound hh; obtain ⟨n2, rfl, hh⟩ := hh
    unfold F_ref1_Eye_Raw at hh
    exact calls_den (fn1_right ok6 E_ref0_Copy.right (fn1_right ok38 E_ref1_Eye_Left.right noFns_right)) plan13 _ w K Try.func13 (by kernel_rfl) (by kernel_rfl) (Eq.mp (F_ref1_Eye_Raw.eq F_ref0_Copy F_ref1_Eye_Left e1 n2 w.heap K) hh)
theorem ok13 : okFn Try.prog 13 = true := by kernel_rfl
end Go.Proofs.Ytdjhjpckefkolaa.V
namespace Go.Proofs.Ytdjhjpckefkolaa.V
open Go Go.RowKit
set_option linter.unusedVariables false
set_option maxRecDepth 100000
def F_ref1_Eye_last.l1 (e1 : Option Addr) (Q : Int → Heap → Prop) (j2 : Heap → Prop) : Int → Heap → Prop :=
  wl [(3, .one (.int .i64))] (fun (next3 : Int → Heap → Prop) (k4 : Int) (h5 : Heap) =>
  jn [(19, .one .bool)] (fun (x11 : Bool) (h12 : Heap) =>
  brr x11
  (nn e1 fun (a13 : Addr) =>
  ld [.sl] (a13.add 0) h12 fun (v14 : Sl) =>
  nn e1 fun (a15 : Addr) =>
  ld [.int .i64] (a15.add 1) h12 fun (v16 : Int) =>
  ixS 1 v14 (IntKind.i64.wrap (v16 + k4)) fun (a17 : Addr) =>
  ld [.int .u8] a17 h12 fun (v18 : Int) =>
  brr (decide (v18 < 128))
  (nn e1 fun (a19 : Addr) =>
  ld [.int .i64] (a19.add 1) h12 fun (v20 : Int) =>
  Q (IntKind.i64.wrap (v20 + k4)) h12)
  (next3 (IntKind.i64.wrap (k4 + 1)) h12))
  (j2 h12)) (fun (j6 : Bool → Heap → Prop) =>
  brr (decide (k4 < 10))
  (nn e1 fun (a7 : Addr) =>
  ld [.int .i64] (a7.add 1) h5 fun (v8 : Int) =>
  nn e1 fun (a9 : Addr) =>
  ld [.sl] (a9.add 0) h5 fun (v10 : Sl) =>
  j6 (decide ((IntKind.i64.wrap (v8 + k4)) < ((v10.len : Nat) : Int))) h5)
  (j6 false h5)))
def F_ref1_Eye_last_of  (e1 : Option Addr) (h : Heap) (Q : Int → Heap → Prop) : Prop :=
  jn [] (fun  (h21 : Heap) =>
  Q (-1) h21) (fun (j2 : Heap → Prop) =>
  F_ref1_Eye_last.l1 e1 Q j2 0 h)
def F_ref1_Eye_last (e1 : Option Addr) (h : Heap) (Q : Int → Heap → Prop) : Prop := F_ref1_Eye_last_of  e1 h Q
def plan47 : Plan := .s (.r [0]) (.s (.s (.r [0, 3]) (.bj [] [] (.l [(3, .one (.int .i64))] [0] (.s (.s (.dj [0, 1, 3, 7, 15, 31, 63, 7, 255, 7, 519, 1543, 3591, 7687, 16383, 32767] [[0, 1, 2, 3, 4, 5, 6, 7, 8, 9, 10, 11, 12, 13, 14, 15]] [(19, .one .bool)] [0, 3]) (.c .z .z)) (.s (.b (.s (.d [0, 1, 3, 7, 0, 16, 48, 112, 0, 496, 1023, 2047, 4095] [[0, 1, 2, 3, 4, 5, 6, 7, 8, 9, 10, 11, 12]] [0, 3, 34]) (.c (.s (.r [2]) .z) .z))) (.r [0, 3])))))) (.s (.r [2]) .z))
theorem F_ref1_Eye_last.eq  (e1 : Option Addr) (h : Heap) (K : Value → Heap → Prop) : F_ref1_Eye_last_of  e1 h (fun (r0 : Int) (h : Heap) => K (.int .i64 r0) h) =
    den Try.prog noFns Try.f47.ntmps plan47 (bodyOf Try.f47) (args0 0 [(.pointer e1 : Value)]) h ⟨fun env h => dRes Try.prog Try.f47.results.toList env h K, fun _ _ _ => False, fun env h => dRes Try.prog Try.f47.results.toList env h K⟩ := by kernel_rfl
def E_ref1_Eye_last_of (f : Option Addr → Heap → (Int → Heap → Prop) → Prop) : List Value → Heap → (Value → Heap → Prop) → Prop
  | [v0], h, K => dec1 .ptr v0 fun (e1 : Option Addr) =>
  f e1 h (fun (r0 : Int) (h : Heap) => K (.int .i64 r0) h)
  | _, _, _ => False
abbrev E_ref1_Eye_last := E_ref1_Eye_last_of F_ref1_Eye_last
theorem E_ref1_Eye_last.right : IsRight Try.prog 47 E_ref1_Eye_last := by
  refine isRight fun vs K w hh => ?_
  match vs, hh with
  | [v0], hh =>
    unfold E_ref1_Eye_last E_ref1_Eye_last_of at hh
    replace hh := dec1_sound hh; obtain ⟨e1, rfl, hh⟩ := hh
    unfold F_ref1_Eye_last at hh
    exact calls_den noFns_right plan47 _ w K Try.func47 (by kernel_rfl) (by kernel_rfl) (Eq.mp (F_ref1_Eye_last.eq  e1 w.heap K) hh)
theorem ok47 : okFn Try.prog 47 = true := by kernel_rfl
end Go.Proofs.Ytdjhjpckefkolaa.V
namespace Go.Proofs.Ytdjhjpckefkolaa.V
open Go Go.RowKit
set_option linter.unusedVariables false
set_option maxRecDepth 100000
def F_ref1_Var_of (f27_ : Int → Heap → (Sl → Heap → Prop) → Prop) (n1 : Int) (h : Heap) (Q : Sl → Heap → Prop) : Prop :=
  brr (decide (n1 < 128))
  (al 5 [.int .u8 (IntKind.u8.wrap n1)] h fun (a2 : Addr) (h3 : Heap) =>
  Q ⟨(some a2), 1, 1⟩ h3)
  ((128 : Int) ≠ 0 ∧
  al 5 [.int .u8 (IntKind.u8.wrap (IntKind.u64.wrap (128 + (n1.tmod 128))))] h fun (a4 : Addr) (h5 : Heap) =>
  (128 : Int) ≠ 0 ∧
  f27_ (IntKind.u64.wrap (n1.tdiv 128)) h5 fun (r6 : Sl) (h7 : Heap) =>
  app 5 1 1 (.int .u8 0) ⟨(some a4), 1, 1⟩ r6.ptr r6.len h7 fun (s8 : Sl) (h9 : Heap) =>
  Q s8 h9)
def F_ref1_Var_fuel : Nat → Int → Heap → (Sl → Heap → Prop) → Prop
  | 0 => fun _ _ _ => False
  | m + 1 => fun n1 h Q => F_ref1_Var_of (F_ref1_Var_fuel m) n1 h Q
def F_ref1_Var (n1 : Int) (h : Heap) (Q : Sl → Heap → Prop) : Prop := ∃ m, F_ref1_Var_fuel m n1 h Q
def plan27 : Plan := .s (.r [0]) (.s (.s (.r [0, 5]) (.c (.s (.r [2]) .z) .z)) (.s (.r [0, 3]) (.s (.r [3]) (.s (.r [2]) .z))))
def E_ref1_Var_of (f : Int → Heap → (Sl → Heap → Prop) → Prop) : List Value → Heap → (Value → Heap → Prop) → Prop
  | [v0], h, K => dec1 (.int .u64) v0 fun (n1 : Int) =>
  f n1 h (fun (r0 : Sl) (h : Heap) => K (.slice r0.ptr r0.len r0.cap) h)
  | _, _, _ => False
theorem F_ref1_Var.eq (f27_ : Int → Heap → (Sl → Heap → Prop) → Prop) (n1 : Int) (h : Heap) (K : Value → Heap → Prop) : F_ref1_Var_of f27_ n1 h (fun (r0 : Sl) (h : Heap) => K (.slice r0.ptr r0.len r0.cap) h) =
    den Try.prog (fn1 27 (E_ref1_Var_of f27_) noFns) Try.f27.ntmps plan27 (bodyOf Try.f27) (args0 0 [(.int .u64 n1 : Value)]) h ⟨fun env h => dRes Try.prog Try.f27.results.toList env h K, fun _ _ _ => False, fun env h => dRes Try.prog Try.f27.results.toList env h K⟩ := by kernel_rfl
abbrev E_ref1_Var := E_ref1_Var_of F_ref1_Var
theorem ok27 : okFn Try.prog 27 = true := by kernel_rfl
theorem E_ref1_Var.rightN : ∀ m, IsRight Try.prog 27 (E_ref1_Var_of (F_ref1_Var_fuel m))
  | 0 => isRight fun vs K w hh => by
    match vs, hh with
    | [v0], hh =>
      unfold E_ref1_Var_of at hh
      replace hh := dec1_sound hh; obtain ⟨n1, rfl, hh⟩ := hh
      exact (show False from hh).elim
  | m + 1 => isRight fun vs K w hh => by
    match vs, hh with
    | [v0], hh =>
      unfold E_ref1_Var_of at hh
      replace hh := dec1_sound hh; obtain ⟨n1, rfl, hh⟩ := hh
      exact calls_den (fn1_right ok27 (E_ref1_Var.rightN m) noFns_right) plan27 _ w K Try.func27 (by kernel_rfl) (by kernel_rfl) (Eq.mp (F_ref1_Var.eq (F_ref1_Var_fuel m) n1 w.heap K) hh)
theorem E_ref1_Var.right : IsRight Try.prog 27 E_ref1_Var := by
  refine isRight fun vs K w hh => ?_
  match vs, hh with
  | [v0], hh =>
    unfold E_ref1_Var E_ref1_Var_of at hh
    replace hh := dec1_sound hh; obtain ⟨n1, rfl, hh⟩ := hh
    unfold F_ref1_Var at hh
    obtain ⟨m, hh⟩ := hh
    cases m with
    | zero => exact (show False from hh).elim
    | succ m => exact calls_den (fn1_right ok27 (E_ref1_Var.rightN m) noFns_right) plan27 _ w K Try.func27 (by kernel_rfl) (by kernel_rfl) (Eq.mp (F_ref1_Var.eq (F_ref1_Var_fuel m) n1 w.heap K) hh)
end Go.Proofs.Ytdjhjpckefkolaa.V
namespace Go.Proofs.Ytdjhjpckefkolaa.V
open Go Go.RowKit
set_option linter.unusedVariables false
set_option maxRecDepth 100000
def F_code_Reader_Left_of  (r1 : Option Addr) (h : Heap) (Q : Int → Heap → Prop) : Prop :=
  nn r1 fun (a2 : Addr) =>
  ld [.sl] (a2.add 0) h fun (v3 : Sl) =>
  nn r1 fun (a4 : Addr) =>
  ld [.int .i64] (a4.add 1) h fun (v5 : Int) =>
  Q (IntKind.i64.wrap (((v3.len : Nat) : Int) - v5)) h
def F_code_Reader_Left (r1 : Option Addr) (h : Heap) (Q : Int → Heap → Prop) : Prop := F_code_Reader_Left_of  r1 h Q
def plan34 : Plan := .s (.r [0]) (.s (.d [0, 1, 3, 7, 15, 0, 32, 96, 224, 511, 1023] [[0, 1, 2, 3, 4, 5, 6, 7, 8, 9, 10]] [2]) .z)
theorem F_code_Reader_Left.eq  (r1 : Option Addr) (h : Heap) (K : Value → Heap → Prop) : F_code_Reader_Left_of  r1 h (fun (r0 : Int) (h : Heap) => K (.int .i64 r0) h) =
    den Try.prog noFns Try.f34.ntmps plan34 (bodyOf Try.f34) (args0 0 [(.pointer r1 : Value)]) h ⟨fun env h => dRes Try.prog Try.f34.results.toList env h K, fun _ _ _ => False, fun env h => dRes Try.prog Try.f34.results.toList env h K⟩ := by kernel_rfl
def E_code_Reader_Left_of (f : Option Addr → Heap → (Int → Heap → Prop) → Prop) : List Value → Heap → (Value → Heap → Prop) → Prop
  | [v0], h, K => dec1 .ptr v0 fun (r1 : Option Addr) =>
  f r1 h (fun (r0 : Int) (h : Heap) => K (.int .i64 r0) h)
  | _, _, _ => False
abbrev E_code_Reader_Left := E_code_Reader_Left_of F_code_Reader_Left
theorem E_code_Reader_Left.right : IsRight Try.prog 34 E_code_Reader_Left := by
  refine isRight fun vs K w hh => ?_
  match vs, hh with
  | [v0], hh =>
    unfold E_code_Reader_Left E_code_Reader_Left_of at hh
    replace hh := dec1_sound hh; obtain ⟨r1, rfl, hh⟩ := hh
    unfold F_code_Reader_Left at hh
    exact calls_den noFns_right plan34 _ w K Try.func34 (by kernel_rfl) (by kernel_rfl) (Eq.mp (F_code_Reader_Left.eq  r1 w.heap K) hh)
theorem ok34 : okFn Try.prog 34 = true := by kernel_rfl
end Go.Proofs.Ytdjhjpckefkolaa.V
namespace Go.Proofs.Ytdjhjpckefkolaa.V
open Go Go.RowKit
set_option linter.unusedVariables false
set_option maxRecDepth 100000
def F_code_Reader_stop_of  (r1 : Option Addr) (at_2 what3 : Int) (h : Heap) (Q : Heap → Prop) : Prop :=
  nn r1 fun (a4 : Addr) =>
  st (a4.add 1) [.int .i64 at_2] h fun (h5 : Heap) =>
  nn r1 fun (a6 : Addr) =>
  st (a6.add 2) [.int .i64 what3] h5 fun (h7 : Heap) =>
  Q h7
def F_code_Reader_stop (r1 : Option Addr) (at_2 what3 : Int) (h : Heap) (Q : Heap → Prop) : Prop := F_code_Reader_stop_of  r1 at_2 what3 h Q
def plan35 : Plan := .r []
theorem F_code_Reader_stop.eq  (r1 : Option Addr) (at_2 what3 : Int) (h : Heap) (K : Value → Heap → Prop) : F_code_Reader_stop_of  r1 at_2 what3 h (fun  (h : Heap) => K (.tuple #[]) h) =
    den Try.prog noFns Try.f35.ntmps plan35 (bodyOf Try.f35) (args0 0 [(.pointer r1 : Value), (.int .i64 at_2 : Value), (.int .i64 what3 : Value)]) h ⟨fun env h => dRes Try.prog Try.f35.results.toList env h K, fun _ _ _ => False, fun env h => dRes Try.prog Try.f35.results.toList env h K⟩ := by kernel_rfl
def E_code_Reader_stop_of (f : Option Addr → Int → Int → Heap → (Heap → Prop) → Prop) : List Value → Heap → (Value → Heap → Prop) → Prop
  | [v0, v1, v2], h, K => dec1 .ptr v0 fun (r1 : Option Addr) =>
  dec1 (.int .i64) v1 fun (at_2 : Int) =>
  dec1 (.int .i64) v2 fun (what3 : Int) =>
  f r1 at_2 what3 h (fun  (h : Heap) => K (.tuple #[]) h)
  | _, _, _ => False
abbrev E_code_Reader_stop := E_code_Reader_stop_of F_code_Reader_stop
theorem E_code_Reader_stop.right : IsRight Try.prog 35 E_code_Reader_stop := by
  refine isRight fun vs K w hh => ?_
  match vs, hh with
  | [v0, v1, v2], hh =>
    unfold E_code_Reader_stop E_code_Reader_stop_of at hh
    replace hh := dec1_sound hh; obtain ⟨r1, rfl, hh⟩ := hh
    replace hh := dec1_sound hh; obtain ⟨at_2, rfl, hh⟩ := hh
    replace hh := dec1_sound hh; obtain ⟨what3, rfl, hh⟩ := hh
    unfold F_code_Reader_stop at hh
    exact calls_den noFns_right plan35 _ w K Try.func35 (by kernel_rfl) (by kernel_rfl) (Eq.mp (F_code_Reader_stop.eq  r1 at_2 what3 w.heap K) hh)
theorem ok35 : okFn Try.prog 35 = true := by kernel_rfl
end Go.Proofs.Ytdjhjpckefkolaa.V
namespace Go.Proofs.Ytdjhjpckefkolaa.V
open Go Go.RowKit
set_option linter.unusedVariables false
set_option maxRecDepth 100000
def F_code_Reader_next_of (f34_ : Option Addr → Heap → (Int → Heap → Prop) → Prop) (f35_ : Option Addr → Int → Int → Heap → (Heap → Prop) → Prop) (r1 : Option Addr) (n2 : Int) (h : Heap) (Q : Sl → Heap → Prop) : Prop :=
  nn r1 fun (a3 : Addr) =>
  ld [.int .i64] (a3.add 2) h fun (v4 : Int) =>
  brr (v4 != 0)
  (Q (⟨none, 0, 0⟩ : Sl) h)
  (f34_ r1 h fun (r5 : Int) (h6 : Heap) =>
  brr (decide (n2 > r5))
  (nn r1 fun (a7 : Addr) =>
  ld [.int .i64] (a7.add 1) h6 fun (v8 : Int) =>
  f35_ r1 v8 1 h6 fun  (h9 : Heap) =>
  Q (⟨none, 0, 0⟩ : Sl) h9)
  (nn r1 fun (a10 : Addr) =>
  ld [.sl] (a10.add 0) h6 fun (v11 : Sl) =>
  nn r1 fun (a12 : Addr) =>
  ld [.int .i64] (a12.add 1) h6 fun (v13 : Int) =>
  nn r1 fun (a14 : Addr) =>
  ld [.int .i64] (a14.add 1) h6 fun (v15 : Int) =>
  slFT 1 v11 v13 (IntKind.i64.wrap (v15 + n2)) fun (s16 : Sl) =>
  nn r1 fun (a17 : Addr) =>
  ld [.int .i64] (a17.add 1) h6 fun (v18 : Int) =>
  nn r1 fun (a19 : Addr) =>
  st (a19.add 1) [.int .i64 (IntKind.i64.wrap (v18 + n2))] h6 fun (h20 : Heap) =>
  Q s16 h20))
def F_code_Reader_next (r1 : Option Addr) (n2 : Int) (h : Heap) (Q : Sl → Heap → Prop) : Prop := F_code_Reader_next_of F_code_Reader_Left F_code_Reader_stop r1 n2 h Q
def plan36 : Plan := .s (.r [0, 1]) (.s (.b (.s (.r [0, 1, 6]) (.c (.s (.r [4]) .z) (.s (.r [0, 1, 12]) (.c (.s (.r []) (.s (.r [4]) .z)) .z))))) (.s (.d [0, 1, 3, 7, 0, 16, 48, 112, 0, 256, 768, 1792, 0, 7936, 16383, 32767] [[0, 1, 2, 3, 4, 5, 6, 7, 8, 9, 10, 11, 12, 13, 14, 15]] [0, 1, 5]) (.s (.r [5]) (.s (.r [4]) .z))))
theorem F_code_Reader_next.eq (f34_ : Option Addr → Heap → (Int → Heap → Prop) → Prop) (f35_ : Option Addr → Int → Int → Heap → (Heap → Prop) → Prop) (r1 : Option Addr) (n2 : Int) (h : Heap) (K : Value → Heap → Prop) : F_code_Reader_next_of f34_ f35_ r1 n2 h (fun (r0 : Sl) (h : Heap) => K (.slice r0.ptr r0.len r0.cap) h) =
    den Try.prog (fn1 34 (E_code_Reader_Left_of f34_) (fn1 35 (E_code_Reader_stop_of f35_) noFns)) Try.f36.ntmps plan36 (bodyOf Try.f36) (args0 0 [(.pointer r1 : Value), (.int .i64 n2 : Value)]) h ⟨fun env h => dRes Try.prog Try.f36.results.toList env h K, fun _ _ _ => False, fun env h => dRes Try.prog Try.f36.results.toList env h K⟩ := by kernel_rfl
def E_code_Reader_next_of (f : Option Addr → Int → Heap → (Sl → Heap → Prop) → Prop) : List Value → Heap → (Value → Heap → Prop) → Prop
  | [v0, v1], h, K => dec1 .ptr v0 fun (r1 : Option Addr) =>
  dec1 (.int .i64) v1 fun (n2 : Int) =>
  f r1 n2 h (fun (r0 : Sl) (h : Heap) => K (.slice r0.ptr r0.len r0.cap) h)
  | _, _, _ => False
abbrev E_code_Reader_next := E_code_Reader_next_of F_code_Reader_next
theorem E_code_Reader_next.right : IsRight Try.prog 36 E_code_Reader_next := by
  refine isRight fun vs K w hh => ?_
  match vs, hh with
  | [v0, v1], hh =>
    unfold E_code_Reader_next E_code_Reader_next_of at hh
    replace hh := dec1_sound hh; obtain ⟨r1, rfl, hh⟩ := hh
    replace hh := dec1_sound hh; obtain ⟨n2, rfl, hh⟩ := hh
    unfold F_code_Reader_next at hh
    exact calls_den (fn1_right ok34 E_code_Reader_Left.right (fn1_right ok35 E_code_Reader_stop.right noFns_right)) plan36 _ w K Try.func36 (by kernel_rfl) (by kernel_rfl) (Eq.mp (F_code_Reader_next.eq F_code_Reader_Left F_code_Reader_stop r1 n2 w.heap K) hh)
theorem ok36 : okFn Try.prog 36 = true := by kernel_rfl
end Go.Proofs.Ytdjhjpckefkolaa.V
namespace Go.Proofs.Ytdjhjpckefkolaa.V
open Go Go.RowKit
set_option linter.unusedVariables false
set_option maxRecDepth 100000
def F_code_taken_of  (b1 : Sl) (h : Heap) (Q : Sl → Heap → Prop) : Prop :=
  mk 5 1 1 (.int .u8 0) ((b1.len : Nat) : Int) ((b1.len : Nat) : Int) h fun (s2 : Sl) (h3 : Heap) =>
  cpy 1 s2 b1.ptr b1.len h3 fun (h5 : Heap) =>
  Q s2 h5
def F_code_taken (b1 : Sl) (h : Heap) (Q : Sl → Heap → Prop) : Prop := F_code_taken_of  b1 h Q
def plan18 : Plan := .s (.r [0]) (.s (.r [0, 3]) (.s (.r [3]) (.s (.r [2]) .z)))
theorem F_code_taken.eq  (b1 : Sl) (h : Heap) (K : Value → Heap → Prop) : F_code_taken_of  b1 h (fun (r0 : Sl) (h : Heap) => K (.slice r0.ptr r0.len r0.cap) h) =
    den Try.prog noFns Try.f18.ntmps plan18 (bodyOf Try.f18) (args0 0 [(.slice b1.ptr b1.len b1.cap : Value)]) h ⟨fun env h => dRes Try.prog Try.f18.results.toList env h K, fun _ _ _ => False, fun env h => dRes Try.prog Try.f18.results.toList env h K⟩ := by kernel_rfl
def E_code_taken_of (f : Sl → Heap → (Sl → Heap → Prop) → Prop) : List Value → Heap → (Value → Heap → Prop) → Prop
  | [v0], h, K => dec1 .sl v0 fun (b1 : Sl) =>
  f b1 h (fun (r0 : Sl) (h : Heap) => K (.slice r0.ptr r0.len r0.cap) h)
  | _, _, _ => False
abbrev E_code_taken := E_code_taken_of F_code_taken
theorem E_code_taken.right : IsRight Try.prog 18 E_code_taken := by
  refine isRight fun vs K w hh => ?_
  match vs, hh with
  | [v0], hh =>
    unfold E_code_taken E_code_taken_of at hh
    replace hh := dec1_sound hh; obtain ⟨b1, rfl, hh⟩ := hh
    unfold F_code_taken at hh
    exact calls_den noFns_right plan18 _ w K Try.func18 (by kernel_rfl) (by kernel_rfl) (Eq.mp (F_code_taken.eq  b1 w.heap K) hh)
theorem ok18 : okFn Try.prog 18 = true := by kernel_rfl
end Go.Proofs.Ytdjhjpckefkolaa.V
namespace Go.Proofs.Ytdjhjpckefkolaa.V
open Go Go.RowKit
set_option linter.unusedVariables false
set_option maxRecDepth 100000
def F_code_Writer_fixed.l1 (w1 : Option Addr) (n2 size3 : Int) (j4 : Heap → Prop) : Int → Heap → Prop :=
  wl [(8, .one (.int .i64))] (fun (next5 : Int → Heap → Prop) (x6 : Int) (h7 : Heap) =>
  brr (decide (x6 < size3))
  (nn w1 fun (a8 : Addr) =>
  ld [.sl] (a8.add 0) h7 fun (v9 : Sl) =>
  0 ≤ (IntKind.i64.wrap (8 * (IntKind.i64.wrap ((IntKind.i64.wrap (size3 - 1)) - x6)))) ∧
  al 5 [.int .u8 (IntKind.u8.wrap (n2.fdiv (2 ^ min (IntKind.i64.wrap (8 * (IntKind.i64.wrap ((IntKind.i64.wrap (size3 - 1)) - x6)))).toNat IntKind.u64.bits)))] h7 fun (a10 : Addr) (h11 : Heap) =>
  cellsAre h11 (a8.add 0) [.slice v9.ptr v9.len v9.cap] ∧
  app 5 1 1 (.int .u8 0) v9 (some a10) 1 h11 fun (s12 : Sl) (h13 : Heap) =>
  nn w1 fun (a14 : Addr) =>
  st (a14.add 0) [.slice s12.ptr s12.len s12.cap] h13 fun (h15 : Heap) =>
  next5 (IntKind.i64.wrap (x6 + 1)) h15)
  (j4 h7))
def F_code_Writer_fixed_of  (w1 : Option Addr) (n2 size3 : Int) (h : Heap) (Q : Heap → Prop) : Prop :=
  jn [] (fun  (h16 : Heap) =>
  Q h16) (fun (j4 : Heap → Prop) =>
  F_code_Writer_fixed.l1 w1 n2 size3 j4 0 h)
def F_code_Writer_fixed (w1 : Option Addr) (n2 size3 : Int) (h : Heap) (Q : Heap → Prop) : Prop := F_code_Writer_fixed_of  w1 n2 size3 h Q
def plan44 : Plan := .s (.r [0, 1, 2, 7, 8]) (.bj [] [] (.l [(8, .one (.int .i64))] [0, 1, 2, 7] (.s (.r [0, 1, 2, 7, 8, 9]) (.s (.c .z .z) (.s (.b (.s (.r [0, 1, 2, 6, 7, 8]) (.d [0, 0, 2, 6, 14, 0, 0, 64, 0, 448, 960, 2016, 4064, 8160, 16382, 32767, 65535, 131071] [[0, 1, 2, 3, 4, 5, 6, 7, 8, 9, 10, 11, 12, 13, 14, 15, 16, 17]] [0, 1, 2, 7, 8]))) (.r [0, 1, 2, 7, 8]))))))
theorem F_code_Writer_fixed.eq  (w1 : Option Addr) (n2 size3 : Int) (h : Heap) (K : Value → Heap → Prop) : F_code_Writer_fixed_of  w1 n2 size3 h (fun  (h : Heap) => K (.tuple #[]) h) =
    den Try.prog noFns Try.f44.ntmps plan44 (bodyOf Try.f44) (args0 0 [(.pointer w1 : Value), (.int .u64 n2 : Value), (.int .i64 size3 : Value)]) h ⟨fun env h => dRes Try.prog Try.f44.results.toList env h K, fun _ _ _ => False, fun env h => dRes Try.prog Try.f44.results.toList env h K⟩ := by kernel_rfl
def E_code_Writer_fixed_of (f : Option Addr → Int → Int → Heap → (Heap → Prop) → Prop) : List Value → Heap → (Value → Heap → Prop) → Prop
  | [v0, v1, v2], h, K => dec1 .ptr v0 fun (w1 : Option Addr) =>
  dec1 (.int .u64) v1 fun (n2 : Int) =>
  dec1 (.int .i64) v2 fun (size3 : Int) =>
  f w1 n2 size3 h (fun  (h : Heap) => K (.tuple #[]) h)
  | _, _, _ => False
abbrev E_code_Writer_fixed := E_code_Writer_fixed_of F_code_Writer_fixed
theorem E_code_Writer_fixed.right : IsRight Try.prog 44 E_code_Writer_fixed := by
  refine isRight fun vs K w hh => ?_
  match vs, hh with
  | [v0, v1, v2], hh =>
    unfold E_code_Writer_fixed E_code_Writer_fixed_of at hh
    replace hh := dec1_sound hh; obtain ⟨w1, rfl, hh⟩ := hh
    replace hh := dec1_sound hh; obtain ⟨n2, rfl, hh⟩ := hh
    replace hh := dec1_sound hh; obtain ⟨size3, rfl, hh⟩ := hh
    unfold F_code_Writer_fixed at hh
    exact calls_den noFns_right plan44 _ w K Try.func44 (by kernel_rfl) (by kernel_rfl) (Eq.mp (F_code_Writer_fixed.eq  w1 n2 size3 w.heap K) hh)
theorem ok44 : okFn Try.prog 44 = true := by kernel_rfl
end Go.Proofs.Ytdjhjpckefkolaa.V
namespace Go.Proofs.Ytdjhjpckefkolaa.V
open Go Go.RowKit
set_option linter.unusedVariables false
set_option maxRecDepth 100000
def F_code_Writer_U8_of (f44_ : Option Addr → Int → Int → Heap → (Heap → Prop) → Prop) (w1 : Option Addr) (n2 : Int) (h : Heap) (Q : Heap → Prop) : Prop :=
  f44_ w1 (IntKind.u64.wrap n2) 1 h fun  (h3 : Heap) =>
  Q h3
def F_code_Writer_U8 (w1 : Option Addr) (n2 : Int) (h : Heap) (Q : Heap → Prop) : Prop := F_code_Writer_U8_of F_code_Writer_fixed w1 n2 h Q
def plan20 : Plan := .r []
theorem F_code_Writer_U8.eq (f44_ : Option Addr → Int → Int → Heap → (Heap → Prop) → Prop) (w1 : Option Addr) (n2 : Int) (h : Heap) (K : Value → Heap → Prop) : F_code_Writer_U8_of f44_ w1 n2 h (fun  (h : Heap) => K (.tuple #[]) h) =
    den Try.prog (fn1 44 (E_code_Writer_fixed_of f44_) noFns) Try.f20.ntmps plan20 (bodyOf Try.f20) (args0 0 [(.pointer w1 : Value), (.int .u8 n2 : Value)]) h ⟨fun env h => dRes Try.prog Try.f20.results.toList env h K, fun _ _ _ => False, fun env h => dRes Try.prog Try.f20.results.toList env h K⟩ := by kernel_rfl
def E_code_Writer_U8_of (f : Option Addr → Int → Heap → (Heap → Prop) → Prop) : List Value → Heap → (Value → Heap → Prop) → Prop
  | [v0, v1], h, K => dec1 .ptr v0 fun (w1 : Option Addr) =>
  dec1 (.int .u8) v1 fun (n2 : Int) =>
  f w1 n2 h (fun  (h : Heap) => K (.tuple #[]) h)
  | _, _, _ => False
abbrev E_code_Writer_U8 := E_code_Writer_U8_of F_code_Writer_U8
theorem E_code_Writer_U8.right : IsRight Try.prog 20 E_code_Writer_U8 := by
  refine isRight fun vs K w hh => ?_
  match vs, hh with
  | [v0, v1], hh =>
    unfold E_code_Writer_U8 E_code_Writer_U8_of at hh
    replace hh := dec1_sound hh; obtain ⟨w1, rfl, hh⟩ := hh
    replace hh := dec1_sound hh; obtain ⟨n2, rfl, hh⟩ := hh
    unfold F_code_Writer_U8 at hh
    exact calls_den (fn1_right ok44 E_code_Writer_fixed.right noFns_right) plan20 _ w K Try.func20 (by kernel_rfl) (by kernel_rfl) (Eq.mp (F_code_Writer_U8.eq F_code_Writer_fixed w1 n2 w.heap K) hh)
theorem ok20 : okFn Try.prog 20 = true := by kernel_rfl
end Go.Proofs.Ytdjhjpckefkolaa.V
namespace Go.Proofs.Ytdjhjpckefkolaa.V
open Go Go.RowKit
set_option linter.unusedVariables false
set_option maxRecDepth 100000
def F_code_Writer_U32_of (f44_ : Option Addr → Int → Int → Heap → (Heap → Prop) → Prop) (w1 : Option Addr) (n2 : Int) (h : Heap) (Q : Heap → Prop) : Prop :=
  f44_ w1 (IntKind.u64.wrap n2) 4 h fun  (h3 : Heap) =>
  Q h3
def F_code_Writer_U32 (w1 : Option Addr) (n2 : Int) (h : Heap) (Q : Heap → Prop) : Prop := F_code_Writer_U32_of F_code_Writer_fixed w1 n2 h Q
def plan22 : Plan := .r []
theorem F_code_Writer_U32.eq (f44_ : Option Addr → Int → Int → Heap → (Heap → Prop) → Prop) (w1 : Option Addr) (n2 : Int) (h : Heap) (K : Value → Heap → Prop) : F_code_Writer_U32_of f44_ w1 n2 h (fun  (h : Heap) => K (.tuple #[]) h) =
    den Try.prog (fn1 44 (E_code_Writer_fixed_of f44_) noFns) Try.f22.ntmps plan22 (bodyOf Try.f22) (args0 0 [(.pointer w1 : Value), (.int .u32 n2 : Value)]) h ⟨fun env h => dRes Try.prog Try.f22.results.toList env h K, fun _ _ _ => False, fun env h => dRes Try.prog Try.f22.results.toList env h K⟩ := by kernel_rfl
def E_code_Writer_U32_of (f : Option Addr → Int → Heap → (Heap → Prop) → Prop) : List Value → Heap → (Value → Heap → Prop) → Prop
  | [v0, v1], h, K => dec1 .ptr v0 fun (w1 : Option Addr) =>
  dec1 (.int .u32) v1 fun (n2 : Int) =>
  f w1 n2 h (fun  (h : Heap) => K (.tuple #[]) h)
  | _, _, _ => False
abbrev E_code_Writer_U32 := E_code_Writer_U32_of F_code_Writer_U32
theorem E_code_Writer_U32.right : IsRight Try.prog 22 E_code_Writer_U32 := by
  refine isRight fun vs K w hh => ?_
  match vs, hh with
  | [v0, v1], hh =>
    unfold E_code_Writer_U32 E_code_Writer_U32_of at hh
    replace hh := dec1_sound hh; obtain ⟨w1, rfl, hh⟩ := hh
    replace hh := dec1_sound hh; obtain ⟨n2, rfl, hh⟩ := hh
    unfold F_code_Writer_U32 at hh
    exact calls_den (fn1_right ok44 E_code_Writer_fixed.right noFns_right) plan22 _ w K Try.func22 (by kernel_rfl) (by kernel_rfl) (Eq.mp (F_code_Writer_U32.eq F_code_Writer_fixed w1 n2 w.heap K) hh)
theorem ok22 : okFn Try.prog 22 = true := by kernel_rfl
end Go.Proofs.Ytdjhjpckefkolaa.V
namespace Go.Proofs.Ytdjhjpckefkolaa.V
open Go Go.RowKit
set_option linter.unusedVariables false
set_option maxRecDepth 100000
def F_code_Writer_U64_of (f44_ : Option Addr → Int → Int → Heap → (Heap → Prop) → Prop) (w1 : Option Addr) (n2 : Int) (h : Heap) (Q : Heap → Prop) : Prop :=
  f44_ w1 n2 8 h fun  (h3 : Heap) =>
  Q h3
def F_code_Writer_U64 (w1 : Option Addr) (n2 : Int) (h : Heap) (Q : Heap → Prop) : Prop := F_code_Writer_U64_of F_code_Writer_fixed w1 n2 h Q
def plan24 : Plan := .r []
theorem F_code_Writer_U64.eq (f44_ : Option Addr → Int → Int → Heap → (Heap → Prop) → Prop) (w1 : Option Addr) (n2 : Int) (h : Heap) (K : Value → Heap → Prop) : F_code_Writer_U64_of f44_ w1 n2 h (fun  (h : Heap) => K (.tuple #[]) h) =
    den Try.prog (fn1 44 (E_code_Writer_fixed_of f44_) noFns) Try.f24.ntmps plan24 (bodyOf Try.f24) (args0 0 [(.pointer w1 : Value), (.int .u64 n2 : Value)]) h ⟨fun env h => dRes Try.prog Try.f24.results.toList env h K, fun _ _ _ => False, fun env h => dRes Try.prog Try.f24.results.toList env h K⟩ := by kernel_rfl
def E_code_Writer_U64_of (f : Option Addr → Int → Heap → (Heap → Prop) → Prop) : List Value → Heap → (Value → Heap → Prop) → Prop
  | [v0, v1], h, K => dec1 .ptr v0 fun (w1 : Option Addr) =>
  dec1 (.int .u64) v1 fun (n2 : Int) =>
  f w1 n2 h (fun  (h : Heap) => K (.tuple #[]) h)
  | _, _, _ => False
abbrev E_code_Writer_U64 := E_code_Writer_U64_of F_code_Writer_U64
theorem E_code_Writer_U64.right : IsRight Try.prog 24 E_code_Writer_U64 := by
  refine isRight fun vs K w hh => ?_
  match vs, hh with
  | [v0, v1], hh =>
    unfold E_code_Writer_U64 E_code_Writer_U64_of at hh
    replace hh := dec1_sound hh; obtain ⟨w1, rfl, hh⟩ := hh
    replace hh := dec1_sound hh; obtain ⟨n2, rfl, hh⟩ := hh
    unfold F_code_Writer_U64 at hh
    exact calls_den (fn1_right ok44 E_code_Writer_fixed.right noFns_right) plan24 _ w K Try.func24 (by kernel_rfl) (by kernel_rfl) (Eq.mp (F_code_Writer_U64.eq F_code_Writer_fixed w1 n2 w.heap K) hh)
theorem ok24 : okFn Try.prog 24 = true := by kernel_rfl
end Go.Proofs.Ytdjhjpckefkolaa.V
namespace Go.Proofs.Ytdjhjpckefkolaa.V
open Go Go.RowKit
set_option linter.unusedVariables false
set_option maxRecDepth 100000
def F_math_bits_Len64_of  (x1 : Int) (h : Heap) (Q : Int → Heap → Prop) : Prop :=
  jn [(0, .one (.int .u64)), (2, .one (.int .i64))] (fun (x3 n4 : Int) (h5 : Heap) =>
  jn [(0, .one (.int .u64)), (2, .one (.int .i64))] (fun (x7 n8 : Int) (h9 : Heap) =>
  jn [(0, .one (.int .u64)), (2, .one (.int .i64))] (fun (x11 n12 : Int) (h13 : Heap) =>
  stAt (⟨#[0, 1, 2, 2, 3, 3, 3, 3, 4, 4, 4, 4, 4, 4, 4, 4, 5, 5, 5, 5, 5, 5, 5, 5, 5, 5, 5, 5, 5, 5, 5, 5, 6, 6, 6, 6, 6, 6, 6, 6, 6, 6, 6, 6, 6, 6, 6, 6, 6, 6, 6, 6, 6, 6, 6, 6, 6, 6, 6, 6, 6, 6, 6, 6, 7, 7, 7, 7, 7, 7, 7, 7, 7, 7, 7, 7, 7, 7, 7, 7, 7, 7, 7, 7, 7, 7, 7, 7, 7, 7, 7, 7, 7, 7, 7, 7, 7, 7, 7, 7, 7, 7, 7, 7, 7, 7, 7, 7, 7, 7, 7, 7, 7, 7, 7, 7, 7, 7, 7, 7, 7, 7, 7, 7, 7, 7, 7, 7, 8, 8, 8, 8, 8, 8, 8, 8, 8, 8, 8, 8, 8, 8, 8, 8, 8, 8, 8, 8, 8, 8, 8, 8, 8, 8, 8, 8, 8, 8, 8, 8, 8, 8, 8, 8, 8, 8, 8, 8, 8, 8, 8, 8, 8, 8, 8, 8, 8, 8, 8, 8, 8, 8, 8, 8, 8, 8, 8, 8, 8, 8, 8, 8, 8, 8, 8, 8, 8, 8, 8, 8, 8, 8, 8, 8, 8, 8, 8, 8, 8, 8, 8, 8, 8, 8, 8, 8, 8, 8, 8, 8, 8, 8, 8, 8, 8, 8, 8, 8, 8, 8, 8, 8, 8, 8, 8, 8, 8, 8, 8, 8, 8, 8, 8, 8, 8, 8, 8, 8, 8, 8, 8, 8, 8, 8, 8, 8]⟩ : ByteArray) (IntKind.u8.wrap x11) fun (b14 : Int) =>
  Q (IntKind.i64.wrap (n12 + (IntKind.i64.wrap b14))) h13) (fun (j10 : Int → Int → Heap → Prop) =>
  brr (decide (x7 ≥ 256))
  (0 ≤ (8 : Int) ∧
  j10 (x7.fdiv (2 ^ min (8 : Int).toNat IntKind.u64.bits)) (IntKind.i64.wrap (n8 + 8)) h9)
  (j10 x7 n8 h9))) (fun (j6 : Int → Int → Heap → Prop) =>
  brr (decide (x3 ≥ 65536))
  (0 ≤ (16 : Int) ∧
  j6 (x3.fdiv (2 ^ min (16 : Int).toNat IntKind.u64.bits)) (IntKind.i64.wrap (n4 + 16)) h5)
  (j6 x3 n4 h5))) (fun (j2 : Int → Int → Heap → Prop) =>
  brr (decide (x1 ≥ 4294967296))
  (0 ≤ (32 : Int) ∧
  j2 (x1.fdiv (2 ^ min (32 : Int).toNat IntKind.u64.bits)) 32 h)
  (j2 x1 0 h))
def F_math_bits_Len64 (x1 : Int) (h : Heap) (Q : Int → Heap → Prop) : Prop := F_math_bits_Len64_of  x1 h Q
def plan46 : Plan := .s (.r [0, 2]) (.s (.s (.r [0, 2, 4]) (.cj [(0, .one (.int .u64)), (2, .one (.int .i64))] [] (.s (.r [0]) (.r [0, 2])) .z)) (.s (.s (.r [0, 2, 8]) (.cj [(0, .one (.int .u64)), (2, .one (.int .i64))] [] (.s (.r [0, 2]) (.r [0, 2])) .z)) (.s (.s (.r [0, 2, 14]) (.cj [(0, .one (.int .u64)), (2, .one (.int .i64))] [] (.s (.r [0, 2]) (.r [0, 2])) .z)) (.s (.r [2]) .z))))
theorem F_math_bits_Len64.eq  (x1 : Int) (h : Heap) (K : Value → Heap → Prop) : F_math_bits_Len64_of  x1 h (fun (r0 : Int) (h : Heap) => K (.int .i64 r0) h) =
    den Try.prog noFns Try.f46.ntmps plan46 (bodyOf Try.f46) (args0 0 [(.int .u64 x1 : Value)]) h ⟨fun env h => dRes Try.prog Try.f46.results.toList env h K, fun _ _ _ => False, fun env h => dRes Try.prog Try.f46.results.toList env h K⟩ := by kernel_rfl
def E_math_bits_Len64_of (f : Int → Heap → (Int → Heap → Prop) → Prop) : List Value → Heap → (Value → Heap → Prop) → Prop
  | [v0], h, K => dec1 (.int .u64) v0 fun (x1 : Int) =>
  f x1 h (fun (r0 : Int) (h : Heap) => K (.int .i64 r0) h)
  | _, _, _ => False
abbrev E_math_bits_Len64 := E_math_bits_Len64_of F_math_bits_Len64
theorem E_math_bits_Len64.right : IsRight Try.prog 46 E_math_bits_Len64 := by
  refine isRight fun vs K w hh => ?_
  match vs, hh with
  | [v0], hh =>
    unfold E_math_bits_Len64 E_math_bits_Len64_of at hh
    replace hh := dec1_sound hh; obtain ⟨x1, rfl, hh⟩ := hh
    unfold F_math_bits_Len64 at hh
    exact calls_den noFns_right plan46 _ w K Try.func46 (by kernel_rfl) (by kernel_rfl) (Eq.mp (F_math_bits_Len64.eq  x1 w.heap K) hh)
theorem ok46 : okFn Try.prog 46 = true := by kernel_rfl
end Go.Proofs.Ytdjhjpckefkolaa.V
namespace Go.Proofs.Ytdjhjpckefkolaa.V
open Go Go.RowKit
set_option linter.unusedVariables false
set_option maxRecDepth 100000
def F_code_Writer_Var.l1 (w1 : Option Addr) (r3 : Int) (j5 : Int → Heap → Prop) : Int → Int → Heap → Prop :=
  wl [(1, .one (.int .u64)), (9, .one (.int .i64))] (fun (next6 : Int → Int → Heap → Prop) (n7 x8 : Int) (h9 : Heap) =>
  brr (decide (x8 < (IntKind.i64.wrap ((IntKind.i64.wrap ((if r3 > 1 then r3 else 1) - 1)).tdiv 7))))
  (nn w1 fun (a10 : Addr) =>
  ld [.sl] (a10.add 0) h9 fun (v11 : Sl) =>
  al 5 [.int .u8 (IntKind.u8.wrap (BitVec.ofInt IntKind.u8.bits (IntKind.u8.wrap n7) ||| BitVec.ofInt IntKind.u8.bits 128).toNat)] h9 fun (a12 : Addr) (h13 : Heap) =>
  app 5 1 1 (.int .u8 0) v11 (some a12) 1 h13 fun (s14 : Sl) (h15 : Heap) =>
  nn w1 fun (a16 : Addr) =>
  st (a16.add 0) [.slice s14.ptr s14.len s14.cap] h15 fun (h17 : Heap) =>
  0 ≤ (7 : Int) ∧
  next6 (n7.fdiv (2 ^ min (7 : Int).toNat IntKind.u64.bits)) (IntKind.i64.wrap (x8 + 1)) h17)
  (j5 n7 h9))
def F_code_Writer_Var_of (f46_ : Int → Heap → (Int → Heap → Prop) → Prop) (w1 : Option Addr) (n2 : Int) (h : Heap) (Q : Heap → Prop) : Prop :=
  f46_ n2 h fun (r3 : Int) (h4 : Heap) =>
  (7 : Int) ≠ 0 ∧
  jn [(1, .one (.int .u64))] (fun (n18 : Int) (h19 : Heap) =>
  nn w1 fun (a20 : Addr) =>
  ld [.sl] (a20.add 0) h19 fun (v21 : Sl) =>
  al 5 [.int .u8 (IntKind.u8.wrap n18)] h19 fun (a22 : Addr) (h23 : Heap) =>
  app 5 1 1 (.int .u8 0) v21 (some a22) 1 h23 fun (s24 : Sl) (h25 : Heap) =>
  nn w1 fun (a26 : Addr) =>
  st (a26.add 0) [.slice s24.ptr s24.len s24.cap] h25 fun (h27 : Heap) =>
  Q h27) (fun (j5 : Int → Heap → Prop) =>
  F_code_Writer_Var.l1 w1 r3 j5 n2 0 h4)
def F_code_Writer_Var (w1 : Option Addr) (n2 : Int) (h : Heap) (Q : Heap → Prop) : Prop := F_code_Writer_Var_of F_math_bits_Len64 w1 n2 h Q
def plan26 : Plan := .s (.s (.r [0, 1, 8, 9]) (.bj [(1, .one (.int .u64))] [0] (.l [(1, .one (.int .u64)), (9, .one (.int .i64))] [0, 8] (.s (.r [0, 1, 8, 9, 10]) (.s (.c .z .z) (.s (.b (.s (.r [0, 1, 8, 9]) (.r [0, 1, 8, 9]))) (.r [0, 1, 8, 9]))))))) (.r [])
theorem F_code_Writer_Var.eq (f46_ : Int → Heap → (Int → Heap → Prop) → Prop) (w1 : Option Addr) (n2 : Int) (h : Heap) (K : Value → Heap → Prop) : F_code_Writer_Var_of f46_ w1 n2 h (fun  (h : Heap) => K (.tuple #[]) h) =
    den Try.prog (fn1 46 (E_math_bits_Len64_of f46_) noFns) Try.f26.ntmps plan26 (bodyOf Try.f26) (args0 0 [(.pointer w1 : Value), (.int .u64 n2 : Value)]) h ⟨fun env h => dRes Try.prog Try.f26.results.toList env h K, fun _ _ _ => False, fun env h => dRes Try.prog Try.f26.results.toList env h K⟩ := by kernel_rfl
def E_code_Writer_Var_of (f : Option Addr → Int → Heap → (Heap → Prop) → Prop) : List Value → Heap → (Value → Heap → Prop) → Prop
  | [v0, v1], h, K => dec1 .ptr v0 fun (w1 : Option Addr) =>
  dec1 (.int .u64) v1 fun (n2 : Int) =>
  f w1 n2 h (fun  (h : Heap) => K (.tuple #[]) h)
  | _, _, _ => False
abbrev E_code_Writer_Var := E_code_Writer_Var_of F_code_Writer_Var
theorem E_code_Writer_Var.right : IsRight Try.prog 26 E_code_Writer_Var := by
  refine isRight fun vs K w hh => ?_
  match vs, hh with
  | [v0, v1], hh =>
    unfold E_code_Writer_Var E_code_Writer_Var_of at hh
    replace hh := dec1_sound hh; obtain ⟨w1, rfl, hh⟩ := hh
    replace hh := dec1_sound hh; obtain ⟨n2, rfl, hh⟩ := hh
    unfold F_code_Writer_Var at hh
    exact calls_den (fn1_right ok46 E_math_bits_Len64.right noFns_right) plan26 _ w K Try.func26 (by kernel_rfl) (by kernel_rfl) (Eq.mp (F_code_Writer_Var.eq F_math_bits_Len64 w1 n2 w.heap K) hh)
theorem ok26 : okFn Try.prog 26 = true := by kernel_rfl
end Go.Proofs.Ytdjhjpckefkolaa.V
namespace Go.Proofs.Ytdjhjpckefkolaa.V
open Go Go.RowKit
set_option linter.unusedVariables false
set_option maxRecDepth 100000
def F_code_Writer_Raw_of  (w1 : Option Addr) (b2 : Sl) (h : Heap) (Q : Heap → Prop) : Prop :=
  nn w1 fun (a3 : Addr) =>
  ld [.sl] (a3.add 0) h fun (v4 : Sl) =>
  app 5 1 1 (.int .u8 0) v4 b2.ptr b2.len h fun (s5 : Sl) (h6 : Heap) =>
  nn w1 fun (a7 : Addr) =>
  st (a7.add 0) [.slice s5.ptr s5.len s5.cap] h6 fun (h8 : Heap) =>
  Q h8
def F_code_Writer_Raw (w1 : Option Addr) (b2 : Sl) (h : Heap) (Q : Heap → Prop) : Prop := F_code_Writer_Raw_of  w1 b2 h Q
def plan30 : Plan := .r []
theorem F_code_Writer_Raw.eq  (w1 : Option Addr) (b2 : Sl) (h : Heap) (K : Value → Heap → Prop) : F_code_Writer_Raw_of  w1 b2 h (fun  (h : Heap) => K (.tuple #[]) h) =
    den Try.prog noFns Try.f30.ntmps plan30 (bodyOf Try.f30) (args0 0 [(.pointer w1 : Value), (.slice b2.ptr b2.len b2.cap : Value)]) h ⟨fun env h => dRes Try.prog Try.f30.results.toList env h K, fun _ _ _ => False, fun env h => dRes Try.prog Try.f30.results.toList env h K⟩ := by kernel_rfl
def E_code_Writer_Raw_of (f : Option Addr → Sl → Heap → (Heap → Prop) → Prop) : List Value → Heap → (Value → Heap → Prop) → Prop
  | [v0, v1], h, K => dec1 .ptr v0 fun (w1 : Option Addr) =>
  dec1 .sl v1 fun (b2 : Sl) =>
  f w1 b2 h (fun  (h : Heap) => K (.tuple #[]) h)
  | _, _, _ => False
abbrev E_code_Writer_Raw := E_code_Writer_Raw_of F_code_Writer_Raw
theorem E_code_Writer_Raw.right : IsRight Try.prog 30 E_code_Writer_Raw := by
  refine isRight fun vs K w hh => ?_
  match vs, hh with
  | [v0, v1], hh =>
    unfold E_code_Writer_Raw E_code_Writer_Raw_of at hh
    replace hh := dec1_sound hh; obtain ⟨w1, rfl, hh⟩ := hh
    replace hh := dec1_sound hh; obtain ⟨b2, rfl, hh⟩ := hh
    unfold F_code_Writer_Raw at hh
    exact calls_den noFns_right plan30 _ w K Try.func30 (by kernel_rfl) (by kernel_rfl) (Eq.mp (F_code_Writer_Raw.eq  w1 b2 w.heap K) hh)
theorem ok30 : okFn Try.prog 30 = true := by kernel_rfl
end Go.Proofs.Ytdjhjpckefkolaa.V
namespace Go.Proofs.Ytdjhjpckefkolaa.V
open Go Go.RowKit
set_option linter.unusedVariables false
set_option maxRecDepth 100000
def F_code_Writer_Bytes_of (f26_ : Option Addr → Int → Heap → (Heap → Prop) → Prop) (f30_ : Option Addr → Sl → Heap → (Heap → Prop) → Prop) (w1 : Option Addr) (b2 : Sl) (h : Heap) (Q : Heap → Prop) : Prop :=
  f26_ w1 (IntKind.u64.wrap ((b2.len : Nat) : Int)) h fun  (h3 : Heap) =>
  f30_ w1 b2 h3 fun  (h4 : Heap) =>
  Q h4
def F_code_Writer_Bytes (w1 : Option Addr) (b2 : Sl) (h : Heap) (Q : Heap → Prop) : Prop := F_code_Writer_Bytes_of F_code_Writer_Var F_code_Writer_Raw w1 b2 h Q
def plan28 : Plan := .s (.r [0, 1]) (.r [])
theorem F_code_Writer_Bytes.eq (f26_ : Option Addr → Int → Heap → (Heap → Prop) → Prop) (f30_ : Option Addr → Sl → Heap → (Heap → Prop) → Prop) (w1 : Option Addr) (b2 : Sl) (h : Heap) (K : Value → Heap → Prop) : F_code_Writer_Bytes_of f26_ f30_ w1 b2 h (fun  (h : Heap) => K (.tuple #[]) h) =
    den Try.prog (fn1 26 (E_code_Writer_Var_of f26_) (fn1 30 (E_code_Writer_Raw_of f30_) noFns)) Try.f28.ntmps plan28 (bodyOf Try.f28) (args0 0 [(.pointer w1 : Value), (.slice b2.ptr b2.len b2.cap : Value)]) h ⟨fun env h => dRes Try.prog Try.f28.results.toList env h K, fun _ _ _ => False, fun env h => dRes Try.prog Try.f28.results.toList env h K⟩ := by kernel_rfl
def E_code_Writer_Bytes_of (f : Option Addr → Sl → Heap → (Heap → Prop) → Prop) : List Value → Heap → (Value → Heap → Prop) → Prop
  | [v0, v1], h, K => dec1 .ptr v0 fun (w1 : Option Addr) =>
  dec1 .sl v1 fun (b2 : Sl) =>
  f w1 b2 h (fun  (h : Heap) => K (.tuple #[]) h)
  | _, _, _ => False
abbrev E_code_Writer_Bytes := E_code_Writer_Bytes_of F_code_Writer_Bytes
theorem E_code_Writer_Bytes.right : IsRight Try.prog 28 E_code_Writer_Bytes := by
  refine isRight fun vs K w hh => ?_
  match vs, hh with
  | [v0, v1], hh =>
    unfold E_code_Writer_Bytes E_code_Writer_Bytes_of at hh
    replace hh := dec1_sound hh; obtain ⟨w1, rfl, hh⟩ := hh
    replace hh := dec1_sound hh; obtain ⟨b2, rfl, hh⟩ := hh
    unfold F_code_Writer_Bytes at hh
    exact calls_den (fn1_right ok26 E_code_Writer_Var.right (fn1_right ok30 E_code_Writer_Raw.right noFns_right)) plan28 _ w K Try.func28 (by kernel_rfl) (by kernel_rfl) (Eq.mp (F_code_Writer_Bytes.eq F_code_Writer_Var F_code_Writer_Raw w1 b2 w.heap K) hh)
theorem ok28 : okFn Try.prog 28 = true := by kernel_rfl
end Go.Proofs.Ytdjhjpckefkolaa.V
namespace Go.Proofs.Ytdjhjpckefkolaa.V
open Go Go.RowKit
set_option linter.unusedVariables false
set_option maxRecDepth 100000
def F_code_Writer_Len_of  (w1 : Option Addr) (h : Heap) (Q : Int → Heap → Prop) : Prop :=
  nn w1 fun (a2 : Addr) =>
  ld [.sl] (a2.add 0) h fun (v3 : Sl) =>
  Q ((v3.len : Nat) : Int) h
def F_code_Writer_Len (w1 : Option Addr) (h : Heap) (Q : Int → Heap → Prop) : Prop := F_code_Writer_Len_of  w1 h Q
def plan31 : Plan := .s (.r [0]) (.s (.r [2]) .z)
theorem F_code_Writer_Len.eq  (w1 : Option Addr) (h : Heap) (K : Value → Heap → Prop) : F_code_Writer_Len_of  w1 h (fun (r0 : Int) (h : Heap) => K (.int .i64 r0) h) =
    den Try.prog noFns Try.f31.ntmps plan31 (bodyOf Try.f31) (args0 0 [(.pointer w1 : Value)]) h ⟨fun env h => dRes Try.prog Try.f31.results.toList env h K, fun _ _ _ => False, fun env h => dRes Try.prog Try.f31.results.toList env h K⟩ := by kernel_rfl
def E_code_Writer_Len_of (f : Option Addr → Heap → (Int → Heap → Prop) → Prop) : List Value → Heap → (Value → Heap → Prop) → Prop
  | [v0], h, K => dec1 .ptr v0 fun (w1 : Option Addr) =>
  f w1 h (fun (r0 : Int) (h : Heap) => K (.int .i64 r0) h)
  | _, _, _ => False
abbrev E_code_Writer_Len := E_code_Writer_Len_of F_code_Writer_Len
theorem E_code_Writer_Len.right : IsRight Try.prog 31 E_code_Writer_Len := by
  refine isRight fun vs K w hh => ?_
  match vs, hh with
  | [v0], hh =>
    unfold E_code_Writer_Len E_code_Writer_Len_of at hh
    replace hh := dec1_sound hh; obtain ⟨w1, rfl, hh⟩ := hh
    unfold F_code_Writer_Len at hh
    exact calls_den noFns_right plan31 _ w K Try.func31 (by kernel_rfl) (by kernel_rfl) (Eq.mp (F_code_Writer_Len.eq  w1 w.heap K) hh)
theorem ok31 : okFn Try.prog 31 = true := by kernel_rfl
end Go.Proofs.Ytdjhjpckefkolaa.V
namespace Go.Proofs.Ytdjhjpckefkolaa.V
open Go Go.RowKit
set_option linter.unusedVariables false
set_option maxRecDepth 100000
def F_code_Writer_Out_of (f18_ : Sl → Heap → (Sl → Heap → Prop) → Prop) (w1 : Option Addr) (h : Heap) (Q : Sl → Heap → Prop) : Prop :=
  nn w1 fun (a2 : Addr) =>
  ld [.sl] (a2.add 0) h fun (v3 : Sl) =>
  f18_ v3 h fun (r4 : Sl) (h5 : Heap) =>
  Q r4 h5
def F_code_Writer_Out (w1 : Option Addr) (h : Heap) (Q : Sl → Heap → Prop) : Prop := F_code_Writer_Out_of F_code_taken w1 h Q
def plan14 : Plan := .s (.r [0]) (.s (.r [2]) .z)
theorem F_code_Writer_Out.eq (f18_ : Sl → Heap → (Sl → Heap → Prop) → Prop) (w1 : Option Addr) (h : Heap) (K : Value → Heap → Prop) : F_code_Writer_Out_of f18_ w1 h (fun (r0 : Sl) (h : Heap) => K (.slice r0.ptr r0.len r0.cap) h) =
    den Try.prog (fn1 18 (E_code_taken_of f18_) noFns) Try.f14.ntmps plan14 (bodyOf Try.f14) (args0 0 [(.pointer w1 : Value)]) h ⟨fun env h => dRes Try.prog Try.f14.results.toList env h K, fun _ _ _ => False, fun env h => dRes Try.prog Try.f14.results.toList env h K⟩ := by kernel_rfl
def E_code_Writer_Out_of (f : Option Addr → Heap → (Sl → Heap → Prop) → Prop) : List Value → Heap → (Value → Heap → Prop) → Prop
  | [v0], h, K => dec1 .ptr v0 fun (w1 : Option Addr) =>
  f w1 h (fun (r0 : Sl) (h : Heap) => K (.slice r0.ptr r0.len r0.cap) h)
  | _, _, _ => False
abbrev E_code_Writer_Out := E_code_Writer_Out_of F_code_Writer_Out
theorem E_code_Writer_Out.right : IsRight Try.prog 14 E_code_Writer_Out := by
  refine isRight fun vs K w hh => ?_
  match vs, hh with
  | [v0], hh =>
    unfold E_code_Writer_Out E_code_Writer_Out_of at hh
    replace hh := dec1_sound hh; obtain ⟨w1, rfl, hh⟩ := hh
    unfold F_code_Writer_Out at hh
    exact calls_den (fn1_right ok18 E_code_taken.right noFns_right) plan14 _ w K Try.func14 (by kernel_rfl) (by kernel_rfl) (Eq.mp (F_code_Writer_Out.eq F_code_taken w1 w.heap K) hh)
theorem ok14 : okFn Try.prog 14 = true := by kernel_rfl
end Go.Proofs.Ytdjhjpckefkolaa.V
namespace Go.Proofs.Ytdjhjpckefkolaa.V
open Go Go.RowKit
set_option linter.unusedVariables false
set_option maxRecDepth 100000
def F_code_New_of   (h : Heap) (Q : Option Addr → Heap → Prop) : Prop :=
  al 68 [.slice none 0 0] h fun (a1 : Addr) (h2 : Heap) =>
  Q (some a1) h2
def F_code_New  (h : Heap) (Q : Option Addr → Heap → Prop) : Prop := F_code_New_of   h Q
def plan4 : Plan := .s (.r []) (.s (.r [0]) .z)
theorem F_code_New.eq   (h : Heap) (K : Value → Heap → Prop) : F_code_New_of   h (fun (r0 : Option Addr) (h : Heap) => K (.pointer r0) h) =
    den Try.prog noFns Try.f4.ntmps plan4 (bodyOf Try.f4) (args0 0 []) h ⟨fun env h => dRes Try.prog Try.f4.results.toList env h K, fun _ _ _ => False, fun env h => dRes Try.prog Try.f4.results.toList env h K⟩ := by kernel_rfl
def E_code_New_of (f : Heap → (Option Addr → Heap → Prop) → Prop) : List Value → Heap → (Value → Heap → Prop) → Prop
  | [], h, K => f  h (fun (r0 : Option Addr) (h : Heap) => K (.pointer r0) h)
  | _, _, _ => False
abbrev E_code_New := E_code_New_of F_code_New
theorem E_code_New.nil (f : Heap → (Option Addr → Heap → Prop) → Prop) (h : Heap) (K : Value → Heap → Prop) : E_code_New_of f [] h K = f  h (fun (r0 : Option Addr) (h : Heap) => K (.pointer r0) h) := rfl
theorem E_code_New.right : IsRight Try.prog 4 E_code_New := by
  refine isRight fun vs K w hh => ?_
  match vs, hh with
  | [], hh =>
    replace hh := Eq.mp (E_code_New.nil F_code_New w.heap K) hh
    unfold F_code_New at hh
    exact calls_den noFns_right plan4 _ w K Try.func4 (by kernel_rfl) (by kernel_rfl) (Eq.mp (F_code_New.eq   w.heap K) hh)
theorem ok4 : okFn Try.prog 4 = true := by kernel_rfl
end Go.Proofs.Ytdjhjpckefkolaa.V
namespace Go.Proofs.Ytdjhjpckefkolaa.V
open Go Go.RowKit
set_option linter.unusedVariables false
set_option maxRecDepth 100000
def F_ref1_Text_of (f27_ : Int → Heap → (Sl → Heap → Prop) → Prop) (b1 : Sl) (h : Heap) (Q : Sl → Heap → Prop) : Prop :=
  f27_ (IntKind.u64.wrap ((b1.len : Nat) : Int)) h fun (r2 : Sl) (h3 : Heap) =>
  app 5 1 1 (.int .u8 0) r2 b1.ptr b1.len h3 fun (s4 : Sl) (h5 : Heap) =>
  Q s4 h5
def F_ref1_Text (b1 : Sl) (h : Heap) (Q : Sl → Heap → Prop) : Prop := F_ref1_Text_of F_ref1_Var b1 h Q
def plan29 : Plan := .s (.r [0]) (.s (.r [0, 3]) (.s (.r [3]) (.s (.r [2]) .z)))
theorem F_ref1_Text.eq (f27_ : Int → Heap → (Sl → Heap → Prop) → Prop) (b1 : Sl) (h : Heap) (K : Value → Heap → Prop) : F_ref1_Text_of f27_ b1 h (fun (r0 : Sl) (h : Heap) => K (.slice r0.ptr r0.len r0.cap) h) =
    den Try.prog (fn1 27 (E_ref1_Var_of f27_) noFns) Try.f29.ntmps plan29 (bodyOf Try.f29) (args0 0 [(.slice b1.ptr b1.len b1.cap : Value)]) h ⟨fun env h => dRes Try.prog Try.f29.results.toList env h K, fun _ _ _ => False, fun env h => dRes Try.prog Try.f29.results.toList env h K⟩ := by kernel_rfl
def E_ref1_Text_of (f : Sl → Heap → (Sl → Heap → Prop) → Prop) : List Value → Heap → (Value → Heap → Prop) → Prop
  | [v0], h, K => dec1 .sl v0 fun (b1 : Sl) =>
  f b1 h (fun (r0 : Sl) (h : Heap) => K (.slice r0.ptr r0.len r0.cap) h)
  | _, _, _ => False
abbrev E_ref1_Text := E_ref1_Text_of F_ref1_Text
theorem E_ref1_Text.right : IsRight Try.prog 29 E_ref1_Text := by
  refine isRight fun vs K w hh => ?_
  match vs, hh with
  | [v0], hh =>
    unfold E_ref1_Text E_ref1_Text_of at hh
    replace hh := dec1_sound hh; obtain ⟨b1, rfl, hh⟩ := hh
    unfold F_ref1_Text at hh
    exact calls_den (fn1_right ok27 E_ref1_Var.right noFns_right) plan29 _ w K Try.func29 (by kernel_rfl) (by kernel_rfl) (Eq.mp (F_ref1_Text.eq F_ref1_Var b1 w.heap K) hh)
theorem ok29 : okFn Try.prog 29 = true := by kernel_rfl
end Go.Proofs.Ytdjhjpckefkolaa.V
/- The program's Writer and what the document writes. -/
namespace Go.Proofs.Ytdjhjpckefkolaa.V
open Go Go.RowKit
set_option linter.unusedVariables false
set_option linter.unusedSimpArgs false
/-- A number in its shortest form. -/
def varB (n : Nat) : List UInt8 := if n < 128 then [UInt8.ofNat n] else UInt8.ofNat (128 + n % 128) :: varB (n / 128)
decreasing_by omega
/-- A number in so many bytes, the highest first. -/
def fixB (n size : Nat) : List UInt8 := (List.range size).map fun i => UInt8.ofNat (n / 256 ^ (size - 1 - i))
theorem fixB_len (n size : Nat) : (fixB n size).length = size := by simp [fixB]
theorem varB_len : ∀ (k n : Nat), n < 128 ^ (k + 1) → (varB n).length ≤ k + 1 ∧ 1 ≤ (varB n).length
  | 0, n, h => by
    rw [varB, if_pos (by simpa using h)]
    simp
  | k + 1, n, h => by
    rw [varB]
    split
    · simp
    · have := varB_len k (n / 128) (by rw [Nat.div_lt_iff_lt_mul (by decide)]; rw [Nat.pow_succ] at h; exact h)
      simp only [List.length_cons]
      omega
theorem varB_le {n : Nat} (h : n < 18446744073709551616) : (varB n).length ≤ 10 ∧ 1 ≤ (varB n).length := varB_len 9 n (by omega)
/-- A Writer in memory that holds these bytes. -/
def wrR (b : Nat) (l : List UInt8) : Res := ex fun s : Sl => sep (own b [.slice s.ptr s.len s.cap]) (buf 1 u8 s l)
theorem Sat.wr {h0 h : Heap} {L : List Res} {b : Nat} {l : List UInt8} (O : Sat h0 h (wrR b l :: L)) : ∃ s : Sl, Sat h0 h (own b [.slice s.ptr s.len s.cap] :: buf 1 u8 s l :: L) := by
  obtain ⟨s, O⟩ := O.ex
  exact ⟨s, O.sep⟩
theorem Sat.wrI {h0 h : Heap} {L : List Res} {b : Nat} {l : List UInt8} {s : Sl} (O : Sat h0 h (own b [.slice s.ptr s.len s.cap] :: buf 1 u8 s l :: L)) : Sat h0 h (wrR b l :: L) := O.sepI.exI s
/-- How many bits. -/
def BL (n b : Nat) : Prop := n < 2 ^ b ∧ (b = 0 ∨ 2 ^ (b - 1) ≤ n)
theorem BL.shift {n b k : Nat} (h : BL (n / 2 ^ k) b) (hn : 2 ^ k ≤ n) : BL n (b + k) := by
  have hp : 0 < 2 ^ k := Nat.pow_pos (by decide)
  have h1 : 1 ≤ n / 2 ^ k := (Nat.le_div_iff_mul_le hp).2 (by omega)
  obtain ⟨h2, h3⟩ := h
  refine ⟨?_, .inr ?_⟩
  · rw [Nat.pow_add]
    exact (Nat.div_lt_iff_lt_mul hp).1 h2
  · rcases h3 with h3 | h3
    · subst h3; simp at h2; omega
    · have hb : b ≠ 0 := by intro e; subst e; simp at h2; omega
      rw [show b + k - 1 = (b - 1) + k by omega, Nat.pow_add]
      exact (Nat.le_div_iff_mul_le hp).1 h3
theorem BL.count {n b : Nat} (h : BL n b) : n < 128 ^ (((if b > 1 then b else 1) - 1) / 7 + 1) ∧ (((if b > 1 then b else 1) - 1) / 7 = 0 ∨ 128 ^ (((if b > 1 then b else 1) - 1) / 7) ≤ n) := by
  obtain ⟨h1, h2⟩ := h
  have e : ∀ c, 128 ^ c = 2 ^ (7 * c) := fun c => by rw [Nat.pow_mul]
  rw [e, e]
  refine ⟨Nat.lt_of_lt_of_le h1 (Nat.pow_le_pow_right (by decide) ?_), ?_⟩
  · split <;> omega
  · by_cases hb : b > 1
    · rw [if_pos hb]
      right
      rcases h2 with h2 | h2
      · omega
      · exact Nat.le_trans (Nat.pow_le_pow_right (by decide) (by omega)) h2
    · rw [if_neg hb]; left; rfl
section
variable {h0 h : Heap} {L : List Res}
theorem shr64 (a k : Nat) (hk : k ≤ 64) : (a : Int).fdiv (2 ^ min (k : Int).toNat IntKind.u64.bits) = ((a / 2 ^ k : Nat) : Int) := by
  have h : min (k : Int).toNat IntKind.u64.bits = k := by
    show min (k : Int).toNat 64 = k
    omega
  rw [h, Int.fdiv_eq_ediv_of_nonneg _ (Int.pow_nonneg (by omega))]
  simp
set_option maxRecDepth 20000 in
theorem F_math_bits_Len64.is {n : Nat} {Q : Int → Heap → Prop} (hn : n < 18446744073709551616) (k : ∀ b : Nat, b ≤ 64 → BL n b → Q b h) : F_math_bits_Len64 n h Q := by
  rw [F_math_bits_Len64.eq_1, F_math_bits_Len64_of.eq_1]
  refine jn2 (fun (x y : Int) h' => h' = h ∧ ∃ a c : Nat, x = a ∧ y = c ∧ a < 4294967296 ∧ c ≤ 32 ∧ ∀ b : Nat, BL a b → b ≤ 32 → BL n (b + c)) ?_ ?_
  · rintro x y h ⟨rfl, a, c, rfl, rfl, ha, hc, hb⟩
    refine jn2 (fun (x y : Int) h' => h' = h ∧ ∃ a c : Nat, x = a ∧ y = c ∧ a < 65536 ∧ c ≤ 48 ∧ ∀ b : Nat, BL a b → b ≤ 16 → BL n (b + c)) ?_ ?_
    · clear ha hc hb a c
      rintro x y h ⟨rfl, a, c, rfl, rfl, ha, hc, hb⟩
      refine jn2 (fun (x y : Int) h' => h' = h ∧ ∃ a c : Nat, x = a ∧ y = c ∧ a < 256 ∧ c ≤ 56 ∧ ∀ b : Nat, BL a b → b ≤ 8 → BL n (b + c)) ?_ ?_
      · clear ha hc hb a c
        rintro x y h ⟨rfl, a, c, rfl, rfl, ha, hc, hb⟩
        have key : ∀ a : Fin 256, ∃ b : Nat, b ≤ 8 ∧ BL a b ∧ (⟨#[0, 1, 2, 2, 3, 3, 3, 3, 4, 4, 4, 4, 4, 4, 4, 4, 5, 5, 5, 5, 5, 5, 5, 5, 5, 5, 5, 5, 5, 5, 5, 5, 6, 6, 6, 6, 6, 6, 6, 6, 6, 6, 6, 6, 6, 6, 6, 6, 6, 6, 6, 6, 6, 6, 6, 6, 6, 6, 6, 6, 6, 6, 6, 6, 7, 7, 7, 7, 7, 7, 7, 7, 7, 7, 7, 7, 7, 7, 7, 7, 7, 7, 7, 7, 7, 7, 7, 7, 7, 7, 7, 7, 7, 7, 7, 7, 7, 7, 7, 7, 7, 7, 7, 7, 7, 7, 7, 7, 7, 7, 7, 7, 7, 7, 7, 7, 7, 7, 7, 7, 7, 7, 7, 7, 7, 7, 7, 7, 8, 8, 8, 8, 8, 8, 8, 8, 8, 8, 8, 8, 8, 8, 8, 8, 8, 8, 8, 8, 8, 8, 8, 8, 8, 8, 8, 8, 8, 8, 8, 8, 8, 8, 8, 8, 8, 8, 8, 8, 8, 8, 8, 8, 8, 8, 8, 8, 8, 8, 8, 8, 8, 8, 8, 8, 8, 8, 8, 8, 8, 8, 8, 8, 8, 8, 8, 8, 8, 8, 8, 8, 8, 8, 8, 8, 8, 8, 8, 8, 8, 8, 8, 8, 8, 8, 8, 8, 8, 8, 8, 8, 8, 8, 8, 8, 8, 8, 8, 8, 8, 8, 8, 8, 8, 8, 8, 8, 8, 8, 8, 8, 8, 8, 8, 8, 8, 8, 8, 8, 8, 8, 8, 8, 8, 8, 8, 8]⟩ : ByteArray)[a.val]? = some (UInt8.ofNat b) := by
          have : ∀ a : Fin 256, (List.range 9).any (fun b => decide (a.val < 2 ^ b) && (decide (b = 0) || decide (2 ^ (b - 1) ≤ a.val)) && decide ((⟨#[0, 1, 2, 2, 3, 3, 3, 3, 4, 4, 4, 4, 4, 4, 4, 4, 5, 5, 5, 5, 5, 5, 5, 5, 5, 5, 5, 5, 5, 5, 5, 5, 6, 6, 6, 6, 6, 6, 6, 6, 6, 6, 6, 6, 6, 6, 6, 6, 6, 6, 6, 6, 6, 6, 6, 6, 6, 6, 6, 6, 6, 6, 6, 6, 7, 7, 7, 7, 7, 7, 7, 7, 7, 7, 7, 7, 7, 7, 7, 7, 7, 7, 7, 7, 7, 7, 7, 7, 7, 7, 7, 7, 7, 7, 7, 7, 7, 7, 7, 7, 7, 7, 7, 7, 7, 7, 7, 7, 7, 7, 7, 7, 7, 7, 7, 7, 7, 7, 7, 7, 7, 7, 7, 7, 7, 7, 7, 7, 8, 8, 8, 8, 8, 8, 8, 8, 8, 8, 8, 8, 8, 8, 8, 8, 8, 8, 8, 8, 8, 8, 8, 8, 8, 8, 8, 8, 8, 8, 8, 8, 8, 8, 8, 8, 8, 8, 8, 8, 8, 8, 8, 8, 8, 8, 8, 8, 8, 8, 8, 8, 8, 8, 8, 8, 8, 8, 8, 8, 8, 8, 8, 8, 8, 8, 8, 8, 8, 8, 8, 8, 8, 8, 8, 8, 8, 8, 8, 8, 8, 8, 8, 8, 8, 8, 8, 8, 8, 8, 8, 8, 8, 8, 8, 8, 8, 8, 8, 8, 8, 8, 8, 8, 8, 8, 8, 8, 8, 8, 8, 8, 8, 8, 8, 8, 8, 8, 8, 8, 8, 8, 8, 8, 8, 8, 8, 8]⟩ : ByteArray)[a.val]? = some (UInt8.ofNat b))) = true := by decide +kernel
          intro a
          have := this a
          obtain ⟨b, h1, h2⟩ := List.any_eq_true.1 this
          rw [Bool.and_eq_true, Bool.and_eq_true, Bool.or_eq_true] at h2
          obtain ⟨⟨h2, h3⟩, h4⟩ := h2
          exact ⟨b, by have := List.mem_range.1 h1; omega, ⟨of_decide_eq_true h2, h3.imp of_decide_eq_true of_decide_eq_true⟩, of_decide_eq_true h4⟩
        obtain ⟨b, hb8, hbl, hat⟩ := key ⟨a, ha⟩
        rw [wrapu8 (x := (a : Int)) (by omega) (by omega)]
        refine ⟨UInt8.ofNat b, by omega, hat, ?_⟩
        have hbn : (UInt8.ofNat b).toNat = b := by rw [UInt8.toNat_ofNat']; omega
        show Q (IntKind.i64.wrap ((c : Int) + IntKind.i64.wrap ((UInt8.ofNat b).toNat : Int))) h
        rw [hbn, wrap64 (x := (b : Int)) (by omega) (by omega), wrap64 (by omega) (by omega)]
        have := k (b + c) (by omega) (hb b hbl hb8)
        rw [show (c : Int) + (b : Int) = ((b + c : Nat) : Int) by omega]
        exact this
      · intro j hj
        refine brr_p (fun hlt => ?_) (fun hlt => ?_)
        · refine ⟨by decide, ?_⟩
          rw [show ((8 : Int)) = ((8 : Nat) : Int) from rfl, shr64 a 8 (by decide), wrap64 (by omega) (by omega)]
          refine hj _ _ _ ⟨rfl, a / 2 ^ 8, c + 8, rfl, by omega, by omega, by omega, fun b h1 h2 => ?_⟩
          have := hb _ (h1.shift (by omega)) (by omega)
          rwa [show b + (c + 8) = b + 8 + c by omega]
        · exact hj _ _ _ ⟨rfl, a, c, rfl, rfl, by omega, by omega, fun b h1 h2 => hb b h1 (by omega)⟩
    · intro j hj
      refine brr_p (fun hlt => ?_) (fun hlt => ?_)
      · refine ⟨by decide, ?_⟩
        rw [show ((16 : Int)) = ((16 : Nat) : Int) from rfl, shr64 a 16 (by decide), wrap64 (by omega) (by omega)]
        refine hj _ _ _ ⟨rfl, a / 2 ^ 16, c + 16, rfl, by omega, by omega, by omega, fun b h1 h2 => ?_⟩
        have := hb _ (h1.shift (by omega)) (by omega)
        rwa [show b + (c + 16) = b + 16 + c by omega]
      · exact hj _ _ _ ⟨rfl, a, c, rfl, rfl, by omega, by omega, fun b h1 h2 => hb b h1 (by omega)⟩
  · intro j hj
    refine brr_p (fun hlt => ?_) (fun hlt => ?_)
    · refine ⟨by decide, ?_⟩
      rw [show ((32 : Int)) = ((32 : Nat) : Int) from rfl, shr64 n 32 (by decide)]
      exact hj _ _ _ ⟨rfl, n / 2 ^ 32, 32, rfl, rfl, by omega, by omega, fun b h1 h2 => h1.shift (by omega)⟩
    · exact hj _ _ _ ⟨rfl, n, 0, rfl, rfl, by omega, by omega, fun b h1 h2 => h1⟩
theorem F_code_New.is {Q : Option Addr → Heap → Prop} (O : Sat h0 h L) (k : ∀ b h', Sat h0 h' (wrR b [] :: L) → Q (some (pt b 0)) h') : F_code_New h Q := by
  rw [F_code_New.eq_1, F_code_New_of.eq_1]
  refine O.al fun b h O => ?_
  refine k b h ?_
  have O := (O.nil_buf (sz := 1) (enc := u8)).swap
  exact O.wrI (s := ⟨none, 0, 0⟩)
theorem F_code_Writer_Len.is {b : Nat} {l : List UInt8} {Q : Int → Heap → Prop} (O : Sat h0 h (wrR b l :: L)) (k : Q l.length h) : F_code_Writer_Len (some (pt b 0)) h Q := by
  rw [F_code_Writer_Len.eq_1, F_code_Writer_Len_of.eq_1]
  simp only [nn_some, pt_add, Nat.zero_add, Nat.add_zero, Nat.reduceAdd, Nat.reduceMul, Int.toNat_zero, Int.toNat_one, Nat.zero_mul, Nat.one_mul]
  obtain ⟨s, O⟩ := O.wr
  refine O.ld 0 rfl (ldL_c (ldL_n ?_))
  rw [(O.view 1 u8_len (by simp) rfl).1.len]
  exact k
theorem F_code_taken.is {a : Sl} {xs : List UInt8} {Q : Sl → Heap → Prop} (O : Sat h0 h L) (V1 : Bytes h a xs) (h1 : xs.length ≤ 281474976710656) (k : ∀ s h', Sat h0 h' (buf 1 u8 s xs :: L) → s.len = xs.length → s.ptr ≠ none → Q s h') : F_code_taken a h Q := by
  rw [F_code_taken.eq_1, F_code_taken_of.eq_1]
  have := F_ref0_Copy.is O V1 h1 k
  rw [F_ref0_Copy.eq_1, F_ref0_Copy_of.eq_1] at this
  exact this
theorem F_code_Writer_Out.is {b : Nat} {l : List UInt8} {Q : Sl → Heap → Prop} (O : Sat h0 h (wrR b l :: L)) (hl : l.length ≤ (140737488355328 : Nat)) (k : ∀ s h', Sat h0 h' (buf 1 u8 s l :: wrR b l :: L) → Q s h') : F_code_Writer_Out (some (pt b 0)) h Q := by
  rw [F_code_Writer_Out.eq_1, F_code_Writer_Out_of.eq_1]
  simp only [nn_some, pt_add, Nat.zero_add, Nat.add_zero, Nat.reduceAdd, Nat.reduceMul, Int.toNat_zero, Int.toNat_one, Nat.zero_mul, Nat.one_mul]
  obtain ⟨s, O⟩ := O.wr
  refine O.ld 0 rfl (ldL_c (ldL_n ?_))
  refine F_code_taken.is O (O.view 1 u8_len (by simp) rfl).1 (by omega) fun s2 h O _ _ => ?_
  refine k s2 h ?_
  have O := O.sel [1, 2, 0] 3 rfl (Nat.le_add_left _ _)
  simp only [selT, List.map, nth, List.drop, List.cons_append, List.nil_append] at O
  exact O.wrI.swap
theorem F_code_Writer_Raw.is {b : Nat} {l ys : List UInt8} {a : Sl} {Q : Heap → Prop} (O : Sat h0 h (wrR b l :: L)) (V1 : Bytes h a ys) (hl : l.length + ys.length ≤ (140737488355328 : Nat)) (k : ∀ h', Sat h0 h' (wrR b (l ++ ys) :: L) → Q h') : F_code_Writer_Raw (some (pt b 0)) a h Q := by
  rw [F_code_Writer_Raw.eq_1, F_code_Writer_Raw_of.eq_1]
  simp only [nn_some, pt_add, Nat.zero_add, Nat.add_zero, Nat.reduceAdd, Nat.reduceMul, Int.toNat_zero, Int.toNat_one, Nat.zero_mul, Nat.one_mul]
  obtain ⟨s, O⟩ := O.wr
  refine O.ld 0 rfl (ldL_c (ldL_n ?_))
  have O := O.swap
  refine O.app_buf u8_len u8_one rfl (ys := ys) V1.len (V1.len ▸ V1.rd u8_len) (by omega) fun s2 h O hs => ?_
  have O := O.swap
  refine O.st 0 rfl (by simp) rfl fun h O => ?_
  dsimp only [V.put, List.set] at O
  exact k _ (Sat.wrI (s := s2) O)
/-- One byte more. -/
theorem wr_push {b : Nat} {l : List UInt8} {s : Sl} {T T' : Nat} {x : UInt8} {cs : List Value} {K : Heap → Prop} (O : Sat h0 h (own b [.slice s.ptr s.len s.cap] :: buf 1 u8 s l :: L)) (hc : cs = u8 x) (hl : l.length + 1 ≤ (140737488355328 : Nat)) (k : ∀ h', Sat h0 h' (wrR b (l ++ [x]) :: L) → K h') :
    al T' cs h fun a h1 => app T 1 1 (.int .u8 0) s (some a) 1 h1 fun s2 h2 => st (pt b 0) [.slice s2.ptr s2.len s2.cap] h2 K := by
  refine O.swap.push_buf x hc u8_len u8_one rfl (by omega) fun s2 h2 O hs => ?_
  have O := O.swap
  refine O.st 0 rfl (by simp) rfl fun h O => ?_
  dsimp only [V.put, List.set] at O
  exact k _ (Sat.wrI (s := s2) O)
theorem fixB_at {n size i : Nat} (hi : i < size) : (fixB n size)[i]? = some (UInt8.ofNat (n / 256 ^ (size - 1 - i))) := by simp [fixB, hi]
theorem pow256 (k : Nat) : 256 ^ k = 2 ^ (8 * k) := by rw [Nat.pow_mul]
theorem wrap8_ofNat (n : Nat) : IntKind.u8.wrap (n : Int) = ((UInt8.ofNat n).toNat : Int) := by
  unfold IntKind.wrap
  simp [IntKind.bits, IntKind.signed]
theorem F_code_Writer_fixed.is {b n size : Nat} {l : List UInt8} {Q : Heap → Prop} (O : Sat h0 h (wrR b l :: L)) (hs : 0 < size) (hs8 : size ≤ 8) (hl : l.length + 8 ≤ (140737488355328 : Nat)) (k : ∀ h', Sat h0 h' (wrR b (l ++ fixB n size) :: L) → Q h') : F_code_Writer_fixed (some (pt b 0)) n size h Q := by
  rw [F_code_Writer_fixed.eq_1, F_code_Writer_fixed_of.eq_1]
  refine jn0 (fun h' => Sat h0 h' (wrR b (l ++ fixB n size) :: L)) (fun h O => k h O) fun j hj => ?_
  rw [F_code_Writer_fixed.l1.eq_1]
  simp only [nn_some, pt_add, Nat.zero_add, Nat.add_zero, Nat.reduceAdd, Nat.reduceMul, Int.toNat_zero, Int.toNat_one, Nat.zero_mul, Nat.one_mul]
  refine wl1 (k := .int .i64) (fun (m : Nat) (i : Int) (h' : Heap) => 0 ≤ i ∧ i + m = size ∧ Sat h0 h' (wrR b (l ++ (fixB n size).take i.toNat) :: L)) ?_ (m := size) ⟨by omega, by omega, by simpa using O⟩
  clear O
  intro m (i : Int) h next hn ⟨hi0, him, O⟩
  refine brr_p (fun hlt => ?_) (fun hlt => ?_)
  · obtain ⟨s, O⟩ := O.wr
    refine O.ld 0 rfl (ldL_c (ldL_n ?_))
    rw [wrap64 (x := (size : Int) - 1) (by omega) (by omega), wrap64 (x := (size : Int) - 1 - i) (by omega) (by omega), wrap64 (x := 8 * ((size : Int) - 1 - i)) (by omega) (by omega)]
    refine ⟨by omega, ?_⟩
    have e8 : 8 * ((size : Int) - 1 - i) = ((8 * (size - 1 - i.toNat) : Nat) : Int) := by omega
    rw [e8, shr64 n _ (by omega), ← pow256, wrap8_ofNat]
    refine O.al fun b2 h2 O => ?_
    refine ⟨O.cells 1 rfl 0 1, ?_⟩
    have hlen : (l ++ (fixB n size).take i.toNat).length ≤ l.length + 7 := by
      rw [List.length_append, List.length_take, fixB_len]; omega
    have O := O.sel [2, 0, 1] 3 rfl (Nat.le_add_left _ _)
    simp only [selT, List.map, nth, List.drop, List.cons_append, List.nil_append] at O
    have hr := rdP_own O 1 rfl 1 (by simp)
    refine O.app_buf u8_len u8_one rfl (ys := [UInt8.ofNat (n / 256 ^ (size - 1 - i.toNat))]) rfl hr (by simp only [List.length_cons, List.length_nil]; omega) fun s2 h2 O hs2 => ?_
    have O := O.sel [2, 0] 3 rfl (Nat.le_add_left _ _)
    simp only [selT, List.map, nth, List.drop, List.cons_append, List.nil_append] at O
    refine O.st 0 rfl (by simp) rfl fun h O => ?_
    dsimp only [V.put, List.set] at O
    have O := Sat.wrI (s := s2) O
    rw [wrap64 (by omega) (by omega)]
    refine hn (m - 1) _ _ (by omega) ⟨by omega, by omega, ?_⟩
    rw [show (i + 1).toNat = i.toNat + 1 by omega, take_succ_eq (fixB_at (by omega)), ← List.append_assoc]
    exact O
  · refine hj _ ?_
    rw [List.take_of_length_le (by rw [fixB_len]; omega)] at O
    exact O
theorem F_code_Writer_U8.is {b n : Nat} {l : List UInt8} {Q : Heap → Prop} (O : Sat h0 h (wrR b l :: L)) (hn : n < 256) (hl : l.length + 8 ≤ (140737488355328 : Nat)) (k : ∀ h', Sat h0 h' (wrR b (l ++ fixB n 1) :: L) → Q h') : F_code_Writer_U8 (some (pt b 0)) n h Q := by
  rw [F_code_Writer_U8.eq_1, F_code_Writer_U8_of.eq_1]
  rw [wrapu64 (by omega) (by omega)]
  exact F_code_Writer_fixed.is (size := 1) O (by decide) (by decide) hl k
theorem F_code_Writer_U32.is {b n : Nat} {l : List UInt8} {Q : Heap → Prop} (O : Sat h0 h (wrR b l :: L)) (hn : n < 4294967296) (hl : l.length + 8 ≤ (140737488355328 : Nat)) (k : ∀ h', Sat h0 h' (wrR b (l ++ fixB n 4) :: L) → Q h') : F_code_Writer_U32 (some (pt b 0)) n h Q := by
  rw [F_code_Writer_U32.eq_1, F_code_Writer_U32_of.eq_1]
  rw [wrapu64 (by omega) (by omega)]
  exact F_code_Writer_fixed.is (size := 4) O (by decide) (by decide) hl k
theorem F_code_Writer_U64.is {b n : Nat} {l : List UInt8} {Q : Heap → Prop} (O : Sat h0 h (wrR b l :: L)) (hl : l.length + 8 ≤ (140737488355328 : Nat)) (k : ∀ h', Sat h0 h' (wrR b (l ++ fixB n 8) :: L) → Q h') : F_code_Writer_U64 (some (pt b 0)) n h Q := by
  rw [F_code_Writer_U64.eq_1, F_code_Writer_U64_of.eq_1]
  exact F_code_Writer_fixed.is (size := 8) O (by decide) (by decide) hl k
theorem or128 (n : Nat) : IntKind.u8.wrap (BitVec.ofInt IntKind.u8.bits (IntKind.u8.wrap (n : Int)) ||| BitVec.ofInt IntKind.u8.bits 128).toNat = ((UInt8.ofNat (128 + n % 128)).toNat : Int) := by
  rw [wrap8_ofNat n]
  have key : ∀ c : Fin 256, IntKind.u8.wrap (BitVec.ofInt IntKind.u8.bits (c.val : Int) ||| BitVec.ofInt IntKind.u8.bits 128).toNat = ((UInt8.ofNat (128 + c.val % 128)).toNat : Int) := by decide +kernel
  have h := key ⟨(UInt8.ofNat n).toNat, (UInt8.ofNat n).toNat_lt⟩
  simp only at h
  rw [h]
  congr 3
  have : (UInt8.ofNat n).toNat = n % 256 := by simp
  rw [this]
  omega
theorem F_code_Writer_Var.is {b n : Nat} {l : List UInt8} {Q : Heap → Prop} (O : Sat h0 h (wrR b l :: L)) (hn : n < 18446744073709551616) (hl : l.length + 10 ≤ (140737488355328 : Nat)) (k : ∀ h', Sat h0 h' (wrR b (l ++ varB n) :: L) → Q h') : F_code_Writer_Var (some (pt b 0)) n h Q := by
  rw [F_code_Writer_Var.eq_1, F_code_Writer_Var_of.eq_1]
  simp only [nn_some, pt_add, Nat.zero_add, Nat.add_zero, Nat.reduceAdd, Nat.reduceMul, Int.toNat_zero, Int.toNat_one, Nat.zero_mul, Nat.one_mul]
  refine F_math_bits_Len64.is hn fun bl hb64 hbl => ?_
  refine ⟨by decide, ?_⟩
  obtain ⟨c1, c2⟩ := hbl.count
  have hc : ((if bl > 1 then bl else 1) - 1) / 7 ≤ 9 := by split <;> omega
  have ec : IntKind.i64.wrap ((IntKind.i64.wrap ((if (bl : Int) > 1 then (bl : Int) else 1) - 1)).tdiv 7) = ((((if bl > 1 then bl else 1) - 1) / 7 : Nat) : Int) := by
    rw [wrap64 (x := (if (bl : Int) > 1 then (bl : Int) else 1) - 1) (by split <;> omega) (by split <;> omega), Int.tdiv_eq_ediv_of_nonneg (by split <;> omega), wrap64 (by split <;> omega) (by split <;> omega)]
    split <;> split <;> omega
  generalize hcc : ((if bl > 1 then bl else 1) - 1) / 7 = c at *
  refine jn1 (fun (x : Int) h' => ∃ (pre : List UInt8) (n' : Nat), x = n' ∧ n' < 128 ∧ varB n = pre ++ varB n' ∧ pre.length ≤ 9 ∧ Sat h0 h' (wrR b (l ++ pre) :: L)) ?_ ?_
  · clear O
    rintro x h ⟨pre, n', rfl, hn', hv, hp, O⟩
    obtain ⟨s, O⟩ := O.wr
    refine O.ld 0 rfl (ldL_c (ldL_n ?_))
    refine wr_push O (x := UInt8.ofNat n') (by rw [wrap8_ofNat]; rfl) (by rw [List.length_append]; omega) fun h O => ?_
    refine k h ?_
    rw [hv, varB, if_pos hn', ← List.append_assoc]
    exact O
  · intro j hj
    rw [F_code_Writer_Var.l1.eq_1, ec]
    simp only [nn_some, pt_add, Nat.zero_add, Nat.add_zero, Nat.reduceAdd, Nat.reduceMul, Int.toNat_zero, Int.toNat_one, Nat.zero_mul, Nat.one_mul]
    refine wl2 (k := .int .u64) (l := .int .i64) (fun (m : Nat) (x i : Int) (h' : Heap) => 0 ≤ i ∧ i + m = c ∧ ∃ (pre : List UInt8) (n' : Nat), x = n' ∧ n' < 128 ^ (m + 1) ∧ (m = 0 ∨ 128 ^ m ≤ n') ∧ varB n = pre ++ varB n' ∧ pre.length = i.toNat ∧ Sat h0 h' (wrR b (l ++ pre) :: L)) ?_ (m := c) ⟨by omega, by omega, [], n, rfl, c1, c2, rfl, rfl, by simpa using O⟩
    clear O
    rintro m (x : Int) (i : Int) h next hn2 ⟨hi0, him, pre, n', rfl, h1, h2, hv, hp, O⟩
    refine brr_p (fun hlt => ?_) (fun hlt => ?_)
    · obtain ⟨m, rfl⟩ : ∃ q, m = q + 1 := ⟨m - 1, by omega⟩
      have hge : 128 ^ (m + 1) ≤ n' := by
        rcases h2 with h2 | h2
        · omega
        · exact h2
      have h128 : 128 ≤ n' := Nat.le_trans (by rw [Nat.pow_succ]; have : 0 < 128 ^ m := Nat.pow_pos (by decide); omega) hge
      obtain ⟨s, O⟩ := O.wr
      refine O.ld 0 rfl (ldL_c (ldL_n ?_))
      refine wr_push O (x := UInt8.ofNat (128 + n' % 128)) (by rw [or128]; rfl) (by rw [List.length_append]; omega) fun h O => ?_
      refine ⟨by decide, ?_⟩
      rw [show ((7 : Int)) = ((7 : Nat) : Int) from rfl, shr64 n' 7 (by decide), wrap64 (by omega) (by omega)]
      refine hn2 m _ _ _ (by omega) ⟨by omega, by omega, pre ++ [UInt8.ofNat (128 + n' % 128)], n' / 2 ^ 7, rfl, ?_, ?_, ?_, by simp; omega, by rw [← List.append_assoc]; exact O⟩
      · rw [Nat.div_lt_iff_lt_mul (by decide)]
        rw [Nat.pow_succ 128 (m + 1)] at h1
        exact h1
      · right
        rw [Nat.le_div_iff_mul_le (by decide)]
        rw [Nat.pow_succ] at hge
        exact hge
      · rw [hv, varB, if_neg (by omega), List.append_assoc]
        rfl
    · have hm : m = 0 := by omega
      subst hm
      exact hj _ _ ⟨pre, n', rfl, by simpa using h1, hv, by omega, O⟩
theorem F_code_Writer_Bytes.is {b : Nat} {l ys : List UInt8} {a : Sl} {Q : Heap → Prop} (O : Sat h0 h (wrR b l :: L)) (V1 : Stays h0 L fun h => Bytes h a ys) (hl : l.length + ys.length + 10 ≤ (140737488355328 : Nat)) (k : ∀ h', Sat h0 h' (wrR b (l ++ (varB ys.length ++ ys)) :: L) → Q h') : F_code_Writer_Bytes (some (pt b 0)) a h Q := by
  rw [F_code_Writer_Bytes.eq_1, F_code_Writer_Bytes_of.eq_1]
  have V0 := V1 h O.drop
  rw [V0.len, wrapu64 (by omega) (by omega)]
  refine F_code_Writer_Var.is O (by omega) (by omega) fun h O => ?_
  have hv := (varB_le (n := ys.length) (by omega)).1
  refine F_code_Writer_Raw.is O (V1 h O.drop) (by rw [List.length_append]; omega) fun h O => ?_
  refine k h ?_
  rw [← List.append_assoc]
  exact O
set_option maxRecDepth 100000 in
theorem F_ref1_Var_fuel.is (d : Nat) : ∀ (n : Nat) {h0 h : Heap} {L : List Res} {Q : Sl → Heap → Prop}, n < 128 ^ (d + 1) → d ≤ 9 → n < 18446744073709551616 → Sat h0 h L → (∀ s h', Sat h0 h' (buf 1 u8 s (varB n) :: L) → Q s h') → F_ref1_Var_fuel (d + 1) n h Q := by
  have key : ∀ d' n : Nat, d' ≤ d → ∀ {h0 h : Heap} {L : List Res} {Q : Sl → Heap → Prop}, n < 128 ^ (d' + 1) → d' ≤ 9 → n < 18446744073709551616 → Sat h0 h L → (∀ s h', Sat h0 h' (buf 1 u8 s (varB n) :: L) → Q s h') → F_ref1_Var_fuel (d' + 1) n h Q := by
    intro d'
    induction d' with
    | zero =>
      intro n _ h0 h L Q hn hd hn2 O k
      rw [F_ref1_Var_fuel.eq_2]
      show F_ref1_Var_of (F_ref1_Var_fuel 0) (n : Int) h Q
      rw [F_ref1_Var_of.eq_1]
      refine brr_tt (by simp at hn ⊢; omega) ?_
      refine O.al fun b h O => ?_
      rw [wrap8_ofNat] at O
      have O : Sat h0 h (own b ([UInt8.ofNat n].flatMap u8 ++ []) :: L) := O
      have O := (O.own_buf (k := 0) (sz := 1) (by simp)).bufsI
      refine k _ h ?_
      rw [varB, if_pos (by simpa using hn)]
      exact O
    | succ d ih =>
    intro n hdd h0 h L Q hn hd hn2 O k
    rw [F_ref1_Var_fuel.eq_2]
    show F_ref1_Var_of (F_ref1_Var_fuel (d + 1)) (n : Int) h Q
    rw [F_ref1_Var_of.eq_1]
    refine brr_p (fun hlt => ?_) (fun hlt => ?_)
    · refine O.al fun b h O => ?_
      rw [wrap8_ofNat] at O
      have O : Sat h0 h (own b ([UInt8.ofNat n].flatMap u8 ++ []) :: L) := O
      have O := (O.own_buf (k := 0) (sz := 1) (by simp)).bufsI
      refine k _ h ?_
      rw [varB, if_pos (by omega)]
      exact O
    · refine ⟨by decide, ?_⟩
      have hw : IntKind.u8.wrap (IntKind.u64.wrap (128 + ((n : Int).tmod 128))) = ((UInt8.ofNat (128 + n % 128)).toNat : Int) := by
        rw [Int.tmod_eq_emod_of_nonneg (by omega), wrapu64 (by omega) (by omega), show (128 : Int) + (n : Int) % 128 = ((128 + n % 128 : Nat) : Int) by omega, wrap8_ofNat]
      rw [hw]
      refine O.al fun b h O => ?_
      refine ⟨by decide, ?_⟩
      have O : Sat h0 h (own b ([UInt8.ofNat (128 + n % 128)].flatMap u8 ++ []) :: L) := O
      have O := (O.own_buf (k := 0) (sz := 1) (by simp)).bufsI
      rw [show IntKind.u64.wrap ((n : Int).tdiv 128) = ((n / 128 : Nat) : Int) by rw [Int.tdiv_eq_ediv_of_nonneg (by omega), wrapu64 (by omega) (by omega)]; omega]
      have hlt2 : n / 128 < 128 ^ (d + 1) := by rw [Nat.div_lt_iff_lt_mul (by decide)]; rw [Nat.pow_succ] at hn; exact hn
      refine ih (n / 128) (by omega) hlt2 (by omega) (by omega) O fun s h O => ?_
      have hlv := varB_len d (n / 128) hlt2
      have V2 := (O.view 0 u8_len (by simp) rfl).1
      have O := O.swap
      refine O.app_buf u8_len u8_one rfl (ys := varB (n / 128)) V2.len (V2.len ▸ V2.rd u8_len) (by simp only [List.length_cons, List.length_nil]; omega) fun s2 h O hs => ?_
      refine k s2 h ?_
      rw [varB, if_neg (by omega)]
      have O := O.sel [0] 2 rfl (Nat.le_add_left _ _)
      simp only [selT, List.map, nth, List.drop, List.cons_append, List.nil_append] at O
      exact O
  intro n h0 h L Q a b c e f
  exact key d n (Nat.le_refl _) a b c e f
set_option maxRecDepth 100000 in
theorem F_ref1_Var.is {n : Nat} {Q : Sl → Heap → Prop} (O : Sat h0 h L) (hn : n < 18446744073709551616) (k : ∀ s h', Sat h0 h' (buf 1 u8 s (varB n) :: L) → Q s h') : F_ref1_Var n h Q := by
  rw [F_ref1_Var.eq_1]
  exact Exists.intro (9 + 1) (F_ref1_Var_fuel.is 9 n (Nat.lt_of_lt_of_le hn (by decide)) (by decide) hn O k)
theorem F_ref1_Text.is {a : Sl} {ys : List UInt8} {Q : Sl → Heap → Prop} (O : Sat h0 h L) (V1 : Stays h0 L fun h => Bytes h a ys) (hl : ys.length + 10 ≤ (140737488355328 : Nat)) (k : ∀ s h', Sat h0 h' (buf 1 u8 s (varB ys.length ++ ys) :: L) → Q s h') : F_ref1_Text a h Q := by
  rw [F_ref1_Text.eq_1, F_ref1_Text_of.eq_1]
  have V0 := V1 h O
  rw [V0.len, wrapu64 (by omega) (by omega)]
  refine F_ref1_Var.is O (by omega) fun s h O => ?_
  have V2 := V1 h O.drop
  have hv := (varB_le (n := ys.length) (by omega)).1
  refine O.app_buf u8_len u8_one rfl (ys := ys) rfl (V2.len ▸ V2.rd u8_len) (by omega) fun s2 h O hs => ?_
  exact k s2 h O
end
end Go.Proofs.Ytdjhjpckefkolaa.V
namespace Go.Proofs.Ytdjhjpckefkolaa.V
open Go Go.RowKit
set_option linter.unusedVariables false
set_option maxRecDepth 100000
def F_code_Read_of (f18_ : Sl → Heap → (Sl → Heap → Prop) → Prop) (b1 : Sl) (h : Heap) (Q : Option Addr → Heap → Prop) : Prop :=
  f18_ b1 h fun (r2 : Sl) (h3 : Heap) =>
  al 70 [.slice r2.ptr r2.len r2.cap, .int .i64 0, .int .i64 0] h3 fun (a4 : Addr) (h5 : Heap) =>
  Q (some a4) h5
def F_code_Read (b1 : Sl) (h : Heap) (Q : Option Addr → Heap → Prop) : Prop := F_code_Read_of F_code_taken b1 h Q
def plan5 : Plan := .s (.r [0]) (.s (.r [2]) .z)
theorem F_code_Read.eq (f18_ : Sl → Heap → (Sl → Heap → Prop) → Prop) (b1 : Sl) (h : Heap) (K : Value → Heap → Prop) : F_code_Read_of f18_ b1 h (fun (r0 : Option Addr) (h : Heap) => K (.pointer r0) h) =
    den Try.prog (fn1 18 (E_code_taken_of f18_) noFns) Try.f5.ntmps plan5 (bodyOf Try.f5) (args0 0 [(.slice b1.ptr b1.len b1.cap : Value)]) h ⟨fun env h => dRes Try.prog Try.f5.results.toList env h K, fun _ _ _ => False, fun env h => dRes Try.prog Try.f5.results.toList env h K⟩ := by kernel_rfl
def E_code_Read_of (f : Sl → Heap → (Option Addr → Heap → Prop) → Prop) : List Value → Heap → (Value → Heap → Prop) → Prop
  | [v0], h, K => dec1 .sl v0 fun (b1 : Sl) =>
  f b1 h (fun (r0 : Option Addr) (h : Heap) => K (.pointer r0) h)
  | _, _, _ => False
abbrev E_code_Read := E_code_Read_of F_code_Read
theorem E_code_Read.right : IsRight Try.prog 5 E_code_Read := by
  refine isRight fun vs K w hh => ?_
  match vs, hh with
  | [v0], hh =>
    unfold E_code_Read E_code_Read_of at hh
    replace hh := dec1_sound hh; obtain ⟨b1, rfl, hh⟩ := hh
    unfold F_code_Read at hh
    exact calls_den (fn1_right ok18 E_code_taken.right noFns_right) plan5 _ w K Try.func5 (by kernel_rfl) (by kernel_rfl) (Eq.mp (F_code_Read.eq F_code_taken b1 w.heap K) hh)
theorem ok5 : okFn Try.prog 5 = true := by kernel_rfl
end Go.Proofs.Ytdjhjpckefkolaa.V
/- The program's Reader: its beginning, numbers of fixed size, how much is left. -/
namespace Go.Proofs.Ytdjhjpckefkolaa.V
open Go Go.RowKit
set_option linter.unusedVariables false
set_option linter.unusedSimpArgs false
/-- What a Reader keeps. -/
structure RS where
  b : List UInt8
  at_ : Nat
  met : Nat
structure RS.Ok (r : RS) : Prop where
  le : r.at_ ≤ r.b.length
  len : r.b.length ≤ 140737488355328
  met : r.met ≤ 4
def rdC (r : RS) (s : Sl) : List Value := [.slice s.ptr s.len s.cap, .int .i64 (r.at_ : Int), .int .i64 (r.met : Int)]
def rdR (p : Nat) (r : RS) : Res := ex fun s : Sl => sep (own p (rdC r s)) (buf 1 u8 s r.b)
theorem Sat.rd_ {h0 h : Heap} {L : List Res} {p : Nat} {r : RS} (O : Sat h0 h (rdR p r :: L)) : ∃ s : Sl, Sat h0 h (own p (rdC r s) :: buf 1 u8 s r.b :: L) := by
  obtain ⟨s, O⟩ := O.ex
  exact ⟨s, O.sep⟩
theorem Sat.rdI {h0 h : Heap} {L : List Res} {p : Nat} {r : RS} {s : Sl} (O : Sat h0 h (own p (rdC r s) :: buf 1 u8 s r.b :: L)) : Sat h0 h (rdR p r :: L) := O.sepI.exI s
def RS.left (r : RS) : Nat := r.b.length - r.at_
/-- So many bytes are taken, or a fault is noted. -/
def RS.next (r : RS) (n : Nat) : RS := if r.met ≠ 0 then r else if n > r.left then { r with met := 1 } else { r with at_ := r.at_ + n }
def RS.nextB (r : RS) (n : Nat) : List UInt8 := if r.met ≠ 0 then [] else if n > r.left then [] else (r.b.drop r.at_).take n
theorem RS.Ok.next {r : RS} (o : r.Ok) (n : Nat) : (r.next n).Ok := by
  unfold RS.next
  have := o.le
  split
  · exact o
  · split
    · exact ⟨o.le, o.len, by show 1 ≤ 4; decide⟩
    · refine ⟨?_, o.len, o.met⟩
      show r.at_ + n ≤ r.b.length
      unfold RS.left at *
      omega
def beN (l : List UInt8) : Nat := l.foldl (fun n c => n * 256 + c.toNat) 0
theorem beN_snoc (l : List UInt8) (c : UInt8) : beN (l ++ [c]) = beN l * 256 + c.toNat := by simp [beN]
theorem beN_lt (l : List UInt8) : beN l < 256 ^ l.length := by
  have key : ∀ n (l : List UInt8), l.length = n → beN l < 256 ^ n := by
    intro n
    induction n with
    | zero => intro l hl; have := List.length_eq_zero_iff.1 hl; subst this; simp [beN]
    | succ n ih =>
      intro l hl
      have e := List.dropLast_concat_getLast (l := l) (by intro e; subst e; simp at hl)
      rw [← e, beN_snoc, Nat.pow_succ]
      have := (l.getLast (by intro e; subst e; simp at hl)).toNat_lt
      have := ih l.dropLast (by simp [hl])
      omega
  exact key _ l rfl
section
variable {h0 h : Heap} {L : List Res} {p : Nat} {r : RS}
theorem F_code_Read.is {a : Sl} {xs : List UInt8} {Q : Option Addr → Heap → Prop} (O : Sat h0 h L) (V1 : Bytes h a xs) (hl : xs.length ≤ 140737488355328) (k : ∀ p h', Sat h0 h' (rdR p ⟨xs, 0, 0⟩ :: L) → Q (some (pt p 0)) h') : F_code_Read a h Q := by
  rw [F_code_Read.eq_1, F_code_Read_of.eq_1]
  refine F_code_taken.is O V1 (by omega) fun s h O _ _ => ?_
  refine O.al fun p h O => ?_
  exact k p h (Sat.rdI (r := ⟨xs, 0, 0⟩) O)
theorem F_code_Reader_Left.is {Q : Int → Heap → Prop} (o : r.Ok) (O : Sat h0 h (rdR p r :: L)) (k : Q (r.left : Nat) h) : F_code_Reader_Left (some (pt p 0)) h Q := by
  rw [F_code_Reader_Left.eq_1, F_code_Reader_Left_of.eq_1]
  simp only [nn_some, pt_add, Nat.zero_add, Nat.add_zero, Nat.reduceAdd, Nat.reduceMul, Int.toNat_zero, Int.toNat_one, Nat.zero_mul, Nat.one_mul]
  obtain ⟨s, O⟩ := O.rd_
  have hv := (O.view 1 u8_len (by simp) rfl).1.len
  unfold rdC at O
  refine O.ld 0 rfl (ldL_c (ldL_n ?_))
  refine O.ld 0 rfl (ldL_c (ldL_n ?_))
  rw [hv]
  have h1 := o.le; have h2 := o.len
  rw [wrap64 (by omega) (by omega)]
  unfold RS.left at k
  rw [show ((r.b.length : Int) - (r.at_ : Int)) = ((r.b.length - r.at_ : Nat) : Int) by omega]
  exact k
theorem F_code_Reader_stop.is {a : Nat} {m : Nat} {Q : Heap → Prop} (O : Sat h0 h (rdR p r :: L)) (k : ∀ h', Sat h0 h' (rdR p { r with at_ := a, met := m } :: L) → Q h') : F_code_Reader_stop (some (pt p 0)) (a : Int) (m : Int) h Q := by
  rw [F_code_Reader_stop.eq_1, F_code_Reader_stop_of.eq_1]
  simp only [nn_some, pt_add, Nat.zero_add, Nat.add_zero, Nat.reduceAdd, Nat.reduceMul, Int.toNat_zero, Int.toNat_one, Nat.zero_mul, Nat.one_mul]
  obtain ⟨s, O⟩ := O.rd_
  unfold rdC at O
  refine O.st 0 rfl (by simp) rfl fun h O => ?_
  dsimp only [V.put, List.set] at O
  refine O.st 0 rfl (by simp) rfl fun h O => ?_
  dsimp only [V.put, List.set] at O
  exact k _ (Sat.rdI (r := { r with at_ := a, met := m }) (s := s) O)
theorem F_code_Reader_next.is {n : Nat} {Q : Sl → Heap → Prop} (o : r.Ok) (hn : n < 9223372036854775808) (O : Sat h0 h (rdR p r :: L)) (k : ∀ s h', Sat h0 h' (rdR p (r.next n) :: L) → Bytes h' s (r.nextB n) → Q s h') : F_code_Reader_next (some (pt p 0)) n h Q := by
  rw [F_code_Reader_next.eq_1, F_code_Reader_next_of.eq_1]
  simp only [nn_some, pt_add, Nat.zero_add, Nat.add_zero, Nat.reduceAdd, Nat.reduceMul, Int.toNat_zero, Int.toNat_one, Nat.zero_mul, Nat.one_mul]
  have h1 := o.le; have h2 := o.len
  unfold RS.next RS.nextB at k
  obtain ⟨s, O⟩ := O.rd_
  have O1 := O
  unfold rdC at O1
  refine O1.ld 0 rfl (ldL_c (ldL_n ?_))
  refine brr_ne (fun hm => ?_) (fun hm => ?_)
  · have hm : r.met ≠ 0 := by omega
    rw [if_pos hm, if_pos hm] at k
    exact k _ _ O.rdI View.nil
  · have hm : ¬ r.met ≠ 0 := by omega
    rw [if_neg hm, if_neg hm] at k
    refine F_code_Reader_Left.is o O.rdI ?_
    refine brr_p (fun hg => ?_) (fun hg => ?_)
    · have hg : n > r.left := by omega
      rw [if_pos hg, if_pos hg] at k
      refine O1.ld 0 rfl (ldL_c (ldL_n ?_))
      refine F_code_Reader_stop.is (a := r.at_) (m := 1) O.rdI fun h O => ?_
      exact k _ _ O View.nil
    · have hg : ¬ n > r.left := by omega
      rw [if_neg hg, if_neg hg] at k
      unfold RS.left at hg
      refine O1.ld 0 rfl (ldL_c (k := .sl) (x := s) (ldL_n ?_))
      refine O1.ld 0 rfl (ldL_c (ldL_n ?_))
      refine O1.ld 0 rfl (ldL_c (ldL_n ?_))
      have hv := O.view 1 u8_len (by simp) rfl
      have hsl := hv.1.len
      rw [wrap64 (by omega) (by omega)]
      refine ⟨by omega, by omega, by omega, ?_⟩
      refine O1.ld 0 rfl (ldL_c (ldL_n ?_))
      rw [wrap64 (by omega) (by omega)]
      unfold rdC at O
      refine O.st 0 rfl (by simp) rfl fun h O => ?_
      dsimp only [V.put, List.set] at O
      have V2 := (O.view 1 u8_len (by simp) rfl)
      refine k _ _ (Sat.rdI (r := { r with at_ := r.at_ + n }) (s := s) ?_) ?_
      · unfold rdC
        rw [show (((r.at_ + n : Nat)) : Int) = (r.at_ : Int) + n by omega]
        exact O
      · have := V2.1.slice r.at_ (r.at_ + n) (s.cap - r.at_) (by omega) (by omega) V2.2
        rw [show r.at_ + n - r.at_ = n by omega] at this
        rw [show ((r.at_ : Int) + n).toNat - (r.at_ : Int).toNat = n by omega, show (r.at_ : Int).toNat = r.at_ by omega]
        exact this
theorem or8 (n : Nat) (c : UInt8) (hn : n < 72057594037927936) : IntKind.u64.wrap (BitVec.ofInt IntKind.u64.bits (IntKind.u64.wrap ((n : Int) * 2 ^ min (8 : Int).toNat IntKind.u64.bits)) ||| BitVec.ofInt IntKind.u64.bits (IntKind.u64.wrap (c.toNat : Int))).toNat = ((n * 256 + c.toNat : Nat) : Int) := by
  have hc := c.toNat_lt
  have e1 : IntKind.u64.wrap ((n : Int) * 2 ^ min (8 : Int).toNat IntKind.u64.bits) = ((n * 256 : Nat) : Int) := by
    have h : min (8 : Int).toNat IntKind.u64.bits = 8 := by decide
    rw [h, wrapu64 (by omega) (by omega)]
    omega
  have e2 : IntKind.u64.wrap (c.toNat : Int) = ((c.toNat : Nat) : Int) := wrapu64 (by omega) (by omega)
  have hof : ∀ m : Nat, m < 18446744073709551616 → BitVec.ofInt IntKind.u64.bits (m : Int) = BitVec.ofNat 64 m := by
    intro m hm
    show BitVec.ofInt 64 (m : Int) = BitVec.ofNat 64 m
    exact BitVec.ofInt_natCast ..
  rw [e1, e2, hof _ (by omega), hof _ (by omega)]
  have : (BitVec.ofNat 64 (n * 256) ||| BitVec.ofNat 64 c.toNat).toNat = n * 256 + c.toNat := by
    rw [BitVec.toNat_or, BitVec.toNat_ofNat, BitVec.toNat_ofNat, Nat.mod_eq_of_lt (by omega), Nat.mod_eq_of_lt (by omega)]
    have := Nat.two_pow_add_eq_or_of_lt (i := 8) hc n
    rw [Nat.mul_comm] at this
    exact this.symm
  show IntKind.u64.wrap (((BitVec.ofNat 64 (n * 256) ||| BitVec.ofNat 64 c.toNat).toNat : Nat) : Int) = _
  rw [this, wrapu64 (by omega) (by omega)]
theorem nextB_len (r : RS) (n : Nat) : (r.nextB n).length ≤ n := by
  unfold RS.nextB
  split
  · simp
  · split
    · simp
    · rw [List.length_take]; omega
end
theorem beN_fixB : ∀ (size n : Nat), n < 256 ^ size → beN (fixB n size) = n := by
  intro size
  induction size with
  | zero => intro n h; simp at h; subst h; rfl
  | succ size ih =>
    intro n h
    have e : fixB n (size + 1) = fixB (n / 256) size ++ [UInt8.ofNat n] := by
      unfold fixB
      rw [List.range_succ, List.map_append]
      congr 1
      · apply List.map_congr_left
        intro i hi
        have hi := List.mem_range.1 hi
        rw [show size + 1 - 1 - i = 1 + (size - 1 - i) by omega, Nat.pow_add, Nat.pow_one, Nat.div_div_eq_div_mul]
      · simp
    rw [e, beN_snoc, ih (n / 256) (by rw [Nat.pow_succ] at h; exact (Nat.div_lt_iff_lt_mul (by decide)).2 h)]
    simp
    omega
end Go.Proofs.Ytdjhjpckefkolaa.V
/- Numbers in their shortest form, read: no program in sight. -/
namespace Go.Proofs.Ytdjhjpckefkolaa.V
open Go Go.RowKit
set_option linter.unusedVariables false
set_option linter.unusedSimpArgs false
def vnum : List UInt8 → Nat
  | [] => 0
  | c :: t => c.toNat % 128 + 128 * vnum t
theorem vnum_snoc (a : List UInt8) (c : UInt8) : vnum (a ++ [c]) = vnum a + c.toNat % 128 * 128 ^ a.length := by
  induction a with
  | nil => simp [vnum]
  | cons x a ih =>
    show x.toNat % 128 + 128 * vnum (a ++ [c]) = x.toNat % 128 + 128 * vnum a + _
    rw [ih, List.length_cons, Nat.pow_succ, Nat.mul_add, Nat.add_assoc, Nat.mul_left_comm, Nat.mul_comm 128 (128 ^ a.length)]
theorem vnum_lt (l : List UInt8) : vnum l < 128 ^ l.length := by
  induction l with
  | nil => simp [vnum]
  | cons x a ih =>
    show x.toNat % 128 + 128 * vnum a < _
    rw [List.length_cons, Nat.pow_succ]
    have := Nat.mod_lt x.toNat (show 128 > 0 by decide)
    omega
/-- The place of the first byte without the highest bit. -/
def vlast : List UInt8 → Option Nat
  | [] => none
  | c :: t => if c.toNat < 128 then some 0 else (vlast t).map (· + 1)
theorem vlast_step {t : List UInt8} {i : Nat} {c : UInt8} (hc : t[i]? = some c) : vlast (t.drop i) = if c.toNat < 128 then some 0 else (vlast (t.drop (i + 1))).map (· + 1) := by
  obtain ⟨hi, e⟩ := List.getElem?_eq_some_iff.1 hc
  rw [List.drop_eq_getElem_cons hi, e, vlast]
theorem vlast_end {t : List UInt8} {i : Nat} (h : t.length ≤ i) : vlast (t.drop i) = none := by
  rw [List.drop_eq_nil_of_le h, vlast]
theorem vlast_some : ∀ {t : List UInt8} {k : Nat}, vlast t = some k → ∃ c, t[k]? = some c ∧ c.toNat < 128 ∧ ∀ (j : Nat) d, j < k → t[j]? = some d → 128 ≤ d.toNat
  | [], k, h => by cases h
  | c :: t, k, h => by
    rw [vlast] at h
    by_cases hc : c.toNat < 128
    · rw [if_pos hc] at h
      cases h
      exact ⟨c, rfl, hc, fun j d hj => by omega⟩
    · rw [if_neg hc] at h
      cases ht : vlast t with
      | none => rw [ht] at h; cases h
      | some k' =>
        rw [ht] at h
        cases h
        obtain ⟨d, h1, h2, h3⟩ := vlast_some ht
        refine ⟨d, h1, h2, fun j e hj he => ?_⟩
        cases j with
        | zero => cases he; omega
        | succ j => exact h3 j e (Nat.lt_of_succ_lt_succ hj) he
/-- Not the shortest form, or more than 64 bits. -/
def badForm (t : List UInt8) (k : Nat) : Bool := (decide (k = 9) && decide (1 < (t.getD k 0).toNat)) || (decide (0 < k) && decide ((t.getD k 0).toNat = 0))
def RS.look (r : RS) : List UInt8 := (r.b.drop r.at_).take 10
theorem RS.look_len (r : RS) : r.look.length = min 10 r.left := by
  unfold RS.look RS.left; rw [List.length_take, List.length_drop]
def RS.varP (r : RS) (most : Nat) : RS × Nat :=
  if r.met ≠ 0 then (r, 0) else
  match vlast r.look with
  | none => ({ r with met := if r.look.length < 10 then 1 else 2 }, 0)
  | some k => if badForm r.look k then ({ r with met := 2 }, 0) else if vnum (r.look.take (k + 1)) > most then ({ r with met := 3 }, 0) else ({ r with at_ := r.at_ + (k + 1) }, vnum (r.look.take (k + 1)))
theorem take_snoc_at {t : List UInt8} {i : Nat} {c : UInt8} (hc : t[i]? = some c) : vnum (t.take (i + 1)) = vnum (t.take i) + c.toNat % 128 * 128 ^ i := by
  rw [take_succ_eq hc, vnum_snoc, List.length_take, Nat.min_eq_left]
  exact Nat.le_of_lt (List.getElem?_eq_some_iff.1 hc).1
theorem RS.Ok.varP {r : RS} (o : r.Ok) (most : Nat) : (r.varP most).1.Ok := by
  unfold RS.varP
  split
  · exact o
  · split
    · exact ⟨o.le, o.len, by show (if _ then 1 else 2) ≤ 4; split <;> decide⟩
    · rename_i k hk
      split
      · exact ⟨o.le, o.len, by show 2 ≤ 4; decide⟩
      · split
        · exact ⟨o.le, o.len, by show 3 ≤ 4; decide⟩
        · obtain ⟨c, hc, _⟩ := vlast_some hk
          have h1 := (List.getElem?_eq_some_iff.1 hc).1
          rw [RS.look_len] at h1
          refine ⟨?_, o.len, o.met⟩
          show r.at_ + (k + 1) ≤ r.b.length
          have := o.le
          unfold RS.left at h1
          omega
theorem RS.varP_le {r : RS} {most : Nat} : (r.varP most).2 ≤ most := by
  unfold RS.varP
  split
  · simp
  · split
    · simp
    · split
      · simp
      · split
        · simp
        · rename_i h; exact Nat.le_of_not_lt h
theorem RS.varP_met {r : RS} {most : Nat} (h : (r.varP most).1.met ≠ 0) : (r.varP most).2 = 0 ∧ (r.varP most).1.at_ = r.at_ := by
  unfold RS.varP at *
  split at h
  · rename_i hm; rw [if_pos hm]; exact ⟨rfl, rfl⟩
  · rename_i hm
    rw [if_neg hm]
    split at h
    · exact ⟨rfl, rfl⟩
    · rename_i k hk
      split at h
      · rename_i hb; rw [if_pos hb]; exact ⟨rfl, rfl⟩
      · rename_i hb
        rw [if_neg hb]
        split at h
        · rename_i hg; rw [if_pos hg]; exact ⟨rfl, rfl⟩
        · exact absurd h hm
theorem RS.varP_b {r : RS} {most : Nat} : (r.varP most).1.b = r.b := by
  unfold RS.varP
  split
  · rfl
  · split
    · rfl
    · split
      · rfl
      · split <;> rfl
theorem RS.varP_none {r : RS} {most : Nat} (hm : r.met = 0) (h : vlast r.look = none) : r.varP most = ({ r with met := if r.look.length < 10 then 1 else 2 }, 0) := by
  unfold RS.varP
  rw [if_neg (by omega), h]
theorem RS.varP_some {r : RS} {most k : Nat} (hm : r.met = 0) (h : vlast r.look = some k) : r.varP most = if badForm r.look k then ({ r with met := 2 }, 0) else if vnum (r.look.take (k + 1)) > most then ({ r with met := 3 }, 0) else ({ r with at_ := r.at_ + (k + 1) }, vnum (r.look.take (k + 1))) := by
  unfold RS.varP
  rw [if_neg (by omega), h]
theorem varB_vnum : ∀ {l : List UInt8} {k : Nat}, vlast l = some k → l.length = k + 1 → (k = 0 ∨ (l.getD k 0).toNat ≠ 0) → varB (vnum l) = l
  | [], k, h, _, _ => by cases h
  | c :: t, k, h, hl, hz => by
    rw [vlast] at h
    by_cases hc : c.toNat < 128
    · rw [if_pos hc] at h
      cases h
      have : t = [] := List.length_eq_zero_iff.1 (by simpa using hl)
      subst this
      show varB (c.toNat % 128 + 128 * 0) = _
      rw [Nat.mul_zero, Nat.add_zero, Nat.mod_eq_of_lt hc]
      unfold varB
      rw [if_pos hc]
      simp
    · rw [if_neg hc] at h
      cases ht : vlast t with
      | none => rw [ht] at h; cases h
      | some k' =>
        rw [ht] at h
        cases h
        have hz' : (t.getD k' 0).toNat ≠ 0 := by
          rcases hz with hz | hz
          · exact absurd hz (Nat.succ_ne_zero _)
          · simpa using hz
        have ih := varB_vnum ht (by simpa using hl) (.inr hz')
        have hpos : 0 < vnum t := by
          apply Nat.pos_of_ne_zero
          intro e
          rw [e] at ih
          have h0 : varB 0 = [0] := by unfold varB; rfl
          rw [h0] at ih
          subst ih
          obtain ⟨d, h1, h2, h3⟩ := vlast_some ht
          have : k' = 0 := by simpa using hl.symm
          subst this
          exact hz' rfl
        show varB (c.toNat % 128 + 128 * vnum t) = _
        have hlt := c.toNat_lt
        have hm := Nat.mod_lt c.toNat (show 128 > 0 by decide)
        rw [varB, if_neg (by omega), show (c.toNat % 128 + 128 * vnum t) / 128 = vnum t by omega, ih]
        congr 1
        rw [show 128 + (c.toNat % 128 + 128 * vnum t) % 128 = c.toNat by omega]
        simp
theorem varB_last : ∀ (k n : Nat), (varB n).length = k + 1 → 128 ^ k ≤ n ∨ k = 0
  | 0, n, _ => .inr rfl
  | k + 1, n, h => by
    left
    rw [varB] at h
    by_cases hn : n < 128
    · rw [if_pos hn] at h; simp at h
    · rw [if_neg hn] at h
      rw [Nat.pow_succ]
      rcases varB_last k (n / 128) (by simpa using h) with h1 | h1
      · omega
      · subst h1; omega
theorem vnum_varB : ∀ (n : Nat), vnum (varB n) = n := by
  intro n
  induction n using Nat.strongRecOn with
  | _ n ih =>
    rw [varB]
    by_cases hn : n < 128
    · rw [if_pos hn]
      show (UInt8.ofNat n).toNat % 128 + 128 * 0 = n
      simp
      omega
    · rw [if_neg hn]
      show (UInt8.ofNat (128 + n % 128)).toNat % 128 + 128 * vnum (varB (n / 128)) = n
      rw [ih _ (by omega)]
      have : (UInt8.ofNat (128 + n % 128)).toNat = 128 + n % 128 := by simp; omega
      rw [this]
      omega
/-- WHAT IS READ IS THE SHORTEST FORM just when its number, cut to 64 bits, is written so. -/
theorem form_iff {t : List UInt8} {k : Nat} (h : vlast t = some k) (hk : k ≤ 9) : decide (varB (vnum (t.take (k + 1)) % 18446744073709551616) = t.take (k + 1)) = !badForm t k := by
  obtain ⟨c, hc, hc1, hj⟩ := vlast_some h
  have hlt := (List.getElem?_eq_some_iff.1 hc).1
  have hlen : (t.take (k + 1)).length = k + 1 := by rw [List.length_take]; omega
  have hg : t.getD k 0 = c := by rw [List.getD_eq_getElem?_getD, hc]; rfl
  have hs := take_snoc_at hc
  have hv := vnum_lt (t.take k)
  rw [List.length_take, Nat.min_eq_left (by omega)] at hv
  have hmod := Nat.mod_eq_of_lt hc1
  have hl : vlast (t.take (k + 1)) = some k := by
    have key : ∀ (t : List UInt8) (k : Nat), vlast t = some k → vlast (t.take (k + 1)) = some k := by
      intro t
      induction t with
      | nil => intro k h; cases h
      | cons x t ih =>
        intro k h
        rw [vlast] at h
        rw [List.take_succ_cons, vlast]
        by_cases hx : x.toNat < 128
        · rw [if_pos hx] at h ⊢; exact h
        · rw [if_neg hx] at h ⊢
          cases ht : vlast t with
          | none => rw [ht] at h; cases h
          | some k' => rw [ht] at h; cases h; rw [ih k' ht]; rfl
    exact key t k h
  have hg2 : (t.take (k + 1)).getD k 0 = c := by
    rw [List.getD_eq_getElem?_getD, List.getElem?_take, if_pos (by omega), hc]; rfl
  unfold badForm
  rw [hg]
  by_cases h1 : 0 < k ∧ c.toNat = 0
  · rw [show (decide (0 < k) && decide (c.toNat = 0)) = true by simp [h1], Bool.or_true]
    apply decide_eq_false
    intro e
    have e2 := vnum_varB (vnum (t.take (k + 1)) % 18446744073709551616)
    rw [e] at e2
    have := varB_last k _ (by rw [e]; exact hlen)
    rw [h1.2] at hs
    simp only [Nat.zero_mod, Nat.zero_mul, Nat.add_zero] at hs
    rw [← e2, hs] at this
    omega
  · rw [show (decide (0 < k) && decide (c.toNat = 0)) = false by
      rw [Bool.and_eq_false_iff]
      by_cases h2 : 0 < k
      · right; exact decide_eq_false fun e => h1 ⟨h2, e⟩
      · left; exact decide_eq_false h2, Bool.or_false]
    have full := varB_vnum hl hlen (by
      rw [hg2]
      by_cases h2 : 0 < k
      · right; intro e; exact h1 ⟨h2, e⟩
      · left; omega)
    by_cases h9 : k = 9 ∧ 1 < c.toNat
    · rw [show (decide (k = 9) && decide (1 < c.toNat)) = true by simp [h9]]
      apply decide_eq_false
      intro e
      have e2 := vnum_varB (vnum (t.take (k + 1)) % 18446744073709551616)
      rw [e] at e2
      have h3 : vnum (t.take (k + 1)) < 18446744073709551616 := by
        rw [e2]; exact Nat.mod_lt _ (by decide)
      obtain ⟨rfl, h4⟩ := h9
      rw [hs, hmod] at h3
      have : (128 : Nat) ^ 9 = 9223372036854775808 := by decide
      rw [this] at h3
      omega
    · rw [show (decide (k = 9) && decide (1 < c.toNat)) = false by
        rw [Bool.and_eq_false_iff]
        by_cases h2 : k = 9
        · right; exact decide_eq_false fun e => h9 ⟨h2, e⟩
        · left; exact decide_eq_false h2]
      apply decide_eq_true
      have h3 : vnum (t.take (k + 1)) < 18446744073709551616 := by
        rw [hs, hmod]
        by_cases h2 : k = 9
        · have : c.toNat ≤ 1 := by
            rcases Nat.lt_or_ge 1 c.toNat with h | h
            · exact absurd ⟨h2, h⟩ h9
            · exact h
          subst h2
          have e9 : (128 : Nat) ^ 9 = 9223372036854775808 := by decide
          rw [e9] at hv ⊢
          have : c.toNat * 9223372036854775808 ≤ 1 * 9223372036854775808 := Nat.mul_le_mul_right _ this
          omega
        · have h128 : (128 : Nat) ^ k ≤ 128 ^ 8 := Nat.pow_le_pow_right (by decide) (by omega)
          have e8 : (128 : Nat) ^ 8 = 72057594037927936 := by decide
          have : c.toNat * 128 ^ k ≤ 127 * 128 ^ 8 := Nat.mul_le_mul (by omega) h128
          omega
      rw [Nat.mod_eq_of_lt h3]
      exact full
end Go.Proofs.Ytdjhjpckefkolaa.V
namespace Go.Proofs.Ytdjhjpckefkolaa.V
open Go Go.RowKit
set_option linter.unusedVariables false
set_option maxRecDepth 100000
def F_code_Reader_Var.l1 (f35_ : Option Addr → Int → Int → Heap → (Heap → Prop) → Prop) (r1 : Option Addr) (most2 : Int) (Q : Int → Heap → Prop) (s13 : Sl) (j14 : Heap → Prop) : Int → Int → Heap → Prop :=
  wl [(5, .one (.int .u64)), (33, .one (.int .i64))] (fun (next15 : Int → Int → Heap → Prop) (n16 x17 : Int) (h18 : Heap) =>
  brr (decide (x17 < ((s13.len : Nat) : Int)))
  (ixS 1 s13 x17 fun (a19 : Addr) =>
  ld [.int .u8] a19 h18 fun (v20 : Int) =>
  jn [(43, .one .bool)] (fun (x22 : Bool) (h23 : Heap) =>
  brr x22
  (j14 h23)
  (0 ≤ (IntKind.i64.wrap (7 * x17)) ∧
  brr ((IntKind.u8.wrap (BitVec.ofInt IntKind.u8.bits v20 &&& BitVec.ofInt IntKind.u8.bits 128).toNat) != 0)
  (next15 (IntKind.u64.wrap (BitVec.ofInt IntKind.u64.bits n16 ||| BitVec.ofInt IntKind.u64.bits (IntKind.u64.wrap ((IntKind.u64.wrap (IntKind.u8.wrap (BitVec.ofInt IntKind.u8.bits v20 &&& BitVec.ofInt IntKind.u8.bits 127).toNat)) * 2 ^ min (IntKind.i64.wrap (7 * x17)).toNat IntKind.u64.bits))).toNat) (IntKind.i64.wrap (x17 + 1)) h23)
  (jn [(65, .one .bool)] (fun (x25 : Bool) (h26 : Heap) =>
  jn [] (fun  (h38 : Heap) =>
  Q 0 h38) (fun (j27 : Heap → Prop) =>
  brr x25
  (nn r1 fun (a28 : Addr) =>
  ld [.int .i64] (a28.add 1) h26 fun (v29 : Int) =>
  f35_ r1 v29 2 h26 fun  (h30 : Heap) =>
  j27 h30)
  (brr (decide ((IntKind.u64.wrap (BitVec.ofInt IntKind.u64.bits n16 ||| BitVec.ofInt IntKind.u64.bits (IntKind.u64.wrap ((IntKind.u64.wrap (IntKind.u8.wrap (BitVec.ofInt IntKind.u8.bits v20 &&& BitVec.ofInt IntKind.u8.bits 127).toNat)) * 2 ^ min (IntKind.i64.wrap (7 * x17)).toNat IntKind.u64.bits))).toNat) > most2))
  (nn r1 fun (a31 : Addr) =>
  ld [.int .i64] (a31.add 1) h26 fun (v32 : Int) =>
  f35_ r1 v32 3 h26 fun  (h33 : Heap) =>
  j27 h33)
  (nn r1 fun (a34 : Addr) =>
  ld [.int .i64] (a34.add 1) h26 fun (v35 : Int) =>
  nn r1 fun (a36 : Addr) =>
  st (a36.add 1) [.int .i64 (IntKind.i64.wrap (v35 + (IntKind.i64.wrap (x17 + 1))))] h26 fun (h37 : Heap) =>
  Q (IntKind.u64.wrap (BitVec.ofInt IntKind.u64.bits n16 ||| BitVec.ofInt IntKind.u64.bits (IntKind.u64.wrap ((IntKind.u64.wrap (IntKind.u8.wrap (BitVec.ofInt IntKind.u8.bits v20 &&& BitVec.ofInt IntKind.u8.bits 127).toNat)) * 2 ^ min (IntKind.i64.wrap (7 * x17)).toNat IntKind.u64.bits))).toNat) h37)))) (fun (j24 : Bool → Heap → Prop) =>
  brr (v20 == 0)
  (j24 (decide (x17 > 0)) h23)
  (j24 false h23))))) (fun (j21 : Bool → Heap → Prop) =>
  brr (x17 == 9)
  (j21 (decide (v20 > 1)) h18)
  (j21 false h18)))
  (j14 h18))
def F_code_Reader_Var_of (f34_ : Option Addr → Heap → (Int → Heap → Prop) → Prop) (f35_ : Option Addr → Int → Int → Heap → (Heap → Prop) → Prop) (r1 : Option Addr) (most2 : Int) (h : Heap) (Q : Int → Heap → Prop) : Prop :=
  nn r1 fun (a3 : Addr) =>
  ld [.int .i64] (a3.add 2) h fun (v4 : Int) =>
  brr (v4 != 0)
  (Q 0 h)
  (nn r1 fun (a5 : Addr) =>
  ld [.sl] (a5.add 0) h fun (v6 : Sl) =>
  nn r1 fun (a7 : Addr) =>
  ld [.int .i64] (a7.add 1) h fun (v8 : Int) =>
  nn r1 fun (a9 : Addr) =>
  ld [.int .i64] (a9.add 1) h fun (v10 : Int) =>
  f34_ r1 h fun (r11 : Int) (h12 : Heap) =>
  cellsAre h12 (a5.add 0) [.slice v6.ptr v6.len v6.cap] ∧
  cellsAre h12 (a7.add 1) [.int .i64 v8] ∧
  cellsAre h12 (a9.add 1) [.int .i64 v10] ∧
  slFT 1 v6 v8 (IntKind.i64.wrap (v10 + (if r11 < 10 then r11 else 10))) fun (s13 : Sl) =>
  jn [] (fun  (h39 : Heap) =>
  jn [] (fun  (h47 : Heap) =>
  Q 0 h47) (fun (j40 : Heap → Prop) =>
  brr (decide (((s13.len : Nat) : Int) < 10))
  (nn r1 fun (a41 : Addr) =>
  ld [.int .i64] (a41.add 1) h39 fun (v42 : Int) =>
  f35_ r1 v42 1 h39 fun  (h43 : Heap) =>
  j40 h43)
  (nn r1 fun (a44 : Addr) =>
  ld [.int .i64] (a44.add 1) h39 fun (v45 : Int) =>
  f35_ r1 v45 2 h39 fun  (h46 : Heap) =>
  j40 h46))) (fun (j14 : Heap → Prop) =>
  F_code_Reader_Var.l1 f35_ r1 most2 Q s13 j14 0 0 h12))
def F_code_Reader_Var (r1 : Option Addr) (most2 : Int) (h : Heap) (Q : Int → Heap → Prop) : Prop := F_code_Reader_Var_of F_code_Reader_Left F_code_Reader_stop r1 most2 h Q
def plan33 : Plan := .s (.r [0, 1]) (.s (.s (.r [0, 1, 13]) (.c (.s (.r [4]) .z) .z)) (.s (.r [0, 1, 5]) (.s (.d [0, 1, 3, 7, 0, 16, 48, 112, 0, 256, 768, 1792, 0, 4096, 12288, 32512, 65535, 131071] [[0, 1, 2, 3, 4, 5, 6, 7, 8, 9, 10, 11, 12, 13, 14, 15, 16, 17]] [0, 1, 5, 6]) (.s (.s (.r [0, 1, 5, 6, 31, 32, 33]) (.bj [] [0, 6] (.l [(5, .one (.int .u64)), (33, .one (.int .i64))] [0, 1, 6, 31, 32] (.s (.r [0, 1, 5, 6, 31, 32, 33, 34]) (.s (.c .z .z) (.s (.b (.s (.r [0, 1, 5, 6, 7, 8, 31, 32, 33]) (.s (.s (.rj [(43, .one .bool)] [0, 1, 5, 6, 7, 8, 31, 32, 33]) (.c .z .z)) (.s (.r [0, 1, 5, 6, 7, 8, 31, 32, 33]) (.s (.s (.r [0, 1, 5, 6, 7, 8, 31, 32, 33, 54]) (.c .z .z)) (.s (.b (.s (.rj [(65, .one .bool)] [0, 1, 5, 7]) (.cj [] [] (.r []) (.s (.r [0, 5, 7, 78]) (.c (.r []) (.s (.r [5]) (.s (.r [4]) .z))))))) (.s (.r [4]) .z))))))) (.r [0, 1, 5, 6, 31, 32, 33]))))))) (.s (.s (.r [0, 91]) (.cj [] [] (.r []) (.r []))) (.s (.r [4]) .z))))))
theorem F_code_Reader_Var.eq (f34_ : Option Addr → Heap → (Int → Heap → Prop) → Prop) (f35_ : Option Addr → Int → Int → Heap → (Heap → Prop) → Prop) (r1 : Option Addr) (most2 : Int) (h : Heap) (K : Value → Heap → Prop) : F_code_Reader_Var_of f34_ f35_ r1 most2 h (fun (r0 : Int) (h : Heap) => K (.int .u64 r0) h) =
    den Try.prog (fn1 34 (E_code_Reader_Left_of f34_) (fn1 35 (E_code_Reader_stop_of f35_) noFns)) Try.f33.ntmps plan33 (bodyOf Try.f33) (args0 0 [(.pointer r1 : Value), (.int .u64 most2 : Value)]) h ⟨fun env h => dRes Try.prog Try.f33.results.toList env h K, fun _ _ _ => False, fun env h => dRes Try.prog Try.f33.results.toList env h K⟩ := by kernel_rfl
def E_code_Reader_Var_of (f : Option Addr → Int → Heap → (Int → Heap → Prop) → Prop) : List Value → Heap → (Value → Heap → Prop) → Prop
  | [v0, v1], h, K => dec1 .ptr v0 fun (r1 : Option Addr) =>
  dec1 (.int .u64) v1 fun (most2 : Int) =>
  f r1 most2 h (fun (r0 : Int) (h : Heap) => K (.int .u64 r0) h)
  | _, _, _ => False
abbrev E_code_Reader_Var := E_code_Reader_Var_of F_code_Reader_Var
theorem E_code_Reader_Var.right : IsRight Try.prog 33 E_code_Reader_Var := by
  refine isRight fun vs K w hh => ?_
  match vs, hh with
  | [v0, v1], hh =>
    unfold E_code_Reader_Var E_code_Reader_Var_of at hh
    replace hh := dec1_sound hh; obtain ⟨r1, rfl, hh⟩ := hh
    replace hh := dec1_sound hh; obtain ⟨most2, rfl, hh⟩ := hh
    unfold F_code_Reader_Var at hh
    exact calls_den (fn1_right ok34 E_code_Reader_Left.right (fn1_right ok35 E_code_Reader_stop.right noFns_right)) plan33 _ w K Try.func33 (by kernel_rfl) (by kernel_rfl) (Eq.mp (F_code_Reader_Var.eq F_code_Reader_Left F_code_Reader_stop r1 most2 w.heap K) hh)
theorem ok33 : okFn Try.prog 33 = true := by kernel_rfl
end Go.Proofs.Ytdjhjpckefkolaa.V
namespace Go.Proofs.Ytdjhjpckefkolaa.V
open Go Go.RowKit
set_option linter.unusedVariables false
set_option maxRecDepth 100000
def F_code_Reader_Bytes_of (f18_ : Sl → Heap → (Sl → Heap → Prop) → Prop) (f33_ : Option Addr → Int → Heap → (Int → Heap → Prop) → Prop) (f34_ : Option Addr → Heap → (Int → Heap → Prop) → Prop) (f35_ : Option Addr → Int → Int → Heap → (Heap → Prop) → Prop) (f36_ : Option Addr → Int → Heap → (Sl → Heap → Prop) → Prop) (r1 : Option Addr) (most2 : Int) (h : Heap) (Q : Sl → Heap → Prop) : Prop :=
  nn r1 fun (a3 : Addr) =>
  ld [.int .i64] (a3.add 1) h fun (v4 : Int) =>
  f33_ r1 (IntKind.u64.wrap (if most2 > 0 then most2 else 0)) h fun (r5 : Int) (h6 : Heap) =>
  jn [(27, .one .bool)] (fun (x12 : Bool) (h13 : Heap) =>
  jn [] (fun  (h16 : Heap) =>
  f36_ r1 (IntKind.i64.wrap r5) h16 fun (r17 : Sl) (h18 : Heap) =>
  f18_ r17 h18 fun (r19 : Sl) (h20 : Heap) =>
  Q r19 h20) (fun (j14 : Heap → Prop) =>
  brr x12
  (f35_ r1 v4 1 h13 fun  (h15 : Heap) =>
  j14 h15)
  (j14 h13))) (fun (j7 : Bool → Heap → Prop) =>
  nn r1 fun (a8 : Addr) =>
  ld [.int .i64] (a8.add 2) h6 fun (v9 : Int) =>
  brr (v9 == 0)
  (f34_ r1 h6 fun (r10 : Int) (h11 : Heap) =>
  j7 (decide (r5 > (IntKind.u64.wrap r10))) h11)
  (j7 false h6))
def F_code_Reader_Bytes (r1 : Option Addr) (most2 : Int) (h : Heap) (Q : Sl → Heap → Prop) : Prop := F_code_Reader_Bytes_of F_code_taken F_code_Reader_Var F_code_Reader_Left F_code_Reader_stop F_code_Reader_next r1 most2 h Q
def plan8 : Plan := .s (.r [0, 1]) (.s (.r [0, 1, 5]) (.s (.r [0, 5, 6]) (.s (.s (.rj [(27, .one .bool)] [0, 5, 6]) (.cj [] [0, 6] (.r [0, 6]) .z)) (.s (.r [4]) .z))))
theorem F_code_Reader_Bytes.eq (f18_ : Sl → Heap → (Sl → Heap → Prop) → Prop) (f33_ : Option Addr → Int → Heap → (Int → Heap → Prop) → Prop) (f34_ : Option Addr → Heap → (Int → Heap → Prop) → Prop) (f35_ : Option Addr → Int → Int → Heap → (Heap → Prop) → Prop) (f36_ : Option Addr → Int → Heap → (Sl → Heap → Prop) → Prop) (r1 : Option Addr) (most2 : Int) (h : Heap) (K : Value → Heap → Prop) : F_code_Reader_Bytes_of f18_ f33_ f34_ f35_ f36_ r1 most2 h (fun (r0 : Sl) (h : Heap) => K (.slice r0.ptr r0.len r0.cap) h) =
    den Try.prog (fn1 18 (E_code_taken_of f18_) (fn1 33 (E_code_Reader_Var_of f33_) (fn1 34 (E_code_Reader_Left_of f34_) (fn1 35 (E_code_Reader_stop_of f35_) (fn1 36 (E_code_Reader_next_of f36_) noFns))))) Try.f8.ntmps plan8 (bodyOf Try.f8) (args0 0 [(.pointer r1 : Value), (.int .i64 most2 : Value)]) h ⟨fun env h => dRes Try.prog Try.f8.results.toList env h K, fun _ _ _ => False, fun env h => dRes Try.prog Try.f8.results.toList env h K⟩ := by kernel_rfl
def E_code_Reader_Bytes_of (f : Option Addr → Int → Heap → (Sl → Heap → Prop) → Prop) : List Value → Heap → (Value → Heap → Prop) → Prop
  | [v0, v1], h, K => dec1 .ptr v0 fun (r1 : Option Addr) =>
  dec1 (.int .i64) v1 fun (most2 : Int) =>
  f r1 most2 h (fun (r0 : Sl) (h : Heap) => K (.slice r0.ptr r0.len r0.cap) h)
  | _, _, _ => False
abbrev E_code_Reader_Bytes := E_code_Reader_Bytes_of F_code_Reader_Bytes
theorem E_code_Reader_Bytes.right : IsRight Try.prog 8 E_code_Reader_Bytes := by
  refine isRight fun vs K w hh => ?_
  match vs, hh with
  | [v0, v1], hh =>
    unfold E_code_Reader_Bytes E_code_Reader_Bytes_of at hh
    replace hh := dec1_sound hh; obtain ⟨r1, rfl, hh⟩ := hh
    replace hh := dec1_sound hh; obtain ⟨most2, rfl, hh⟩ := hh
    unfold F_code_Reader_Bytes at hh
    exact calls_den (fn1_right ok18 E_code_taken.right (fn1_right ok33 E_code_Reader_Var.right (fn1_right ok34 E_code_Reader_Left.right (fn1_right ok35 E_code_Reader_stop.right (fn1_right ok36 E_code_Reader_next.right noFns_right))))) plan8 _ w K Try.func8 (by kernel_rfl) (by kernel_rfl) (Eq.mp (F_code_Reader_Bytes.eq F_code_taken F_code_Reader_Var F_code_Reader_Left F_code_Reader_stop F_code_Reader_next r1 most2 w.heap K) hh)
theorem ok8 : okFn Try.prog 8 = true := by kernel_rfl
end Go.Proofs.Ytdjhjpckefkolaa.V
namespace Go.Proofs.Ytdjhjpckefkolaa.V
open Go Go.RowKit
set_option linter.unusedVariables false
set_option maxRecDepth 100000
def F_code_Reader_Raw_of (f18_ : Sl → Heap → (Sl → Heap → Prop) → Prop) (f35_ : Option Addr → Int → Int → Heap → (Heap → Prop) → Prop) (f36_ : Option Addr → Int → Heap → (Sl → Heap → Prop) → Prop) (r1 : Option Addr) (n2 : Int) (h : Heap) (Q : Sl → Heap → Prop) : Prop :=
  jn [(13, .one .bool)] (fun (x6 : Bool) (h7 : Heap) =>
  jn [] (fun  (h12 : Heap) =>
  f36_ r1 n2 h12 fun (r13 : Sl) (h14 : Heap) =>
  f18_ r13 h14 fun (r15 : Sl) (h16 : Heap) =>
  Q r15 h16) (fun (j8 : Heap → Prop) =>
  brr x6
  (nn r1 fun (a9 : Addr) =>
  ld [.int .i64] (a9.add 1) h7 fun (v10 : Int) =>
  f35_ r1 v10 4 h7 fun  (h11 : Heap) =>
  j8 h11)
  (j8 h7))) (fun (j3 : Bool → Heap → Prop) =>
  brr (decide (n2 < 0))
  (nn r1 fun (a4 : Addr) =>
  ld [.int .i64] (a4.add 2) h fun (v5 : Int) =>
  j3 (v5 == 0) h)
  (j3 false h))
def F_code_Reader_Raw (r1 : Option Addr) (n2 : Int) (h : Heap) (Q : Sl → Heap → Prop) : Prop := F_code_Reader_Raw_of F_code_taken F_code_Reader_stop F_code_Reader_next r1 n2 h Q
def plan11 : Plan := .s (.r [0, 1]) (.s (.s (.rj [(13, .one .bool)] [0, 1]) (.cj [] [0, 1] (.r [0, 1]) .z)) (.s (.r [4]) .z))
theorem F_code_Reader_Raw.eq (f18_ : Sl → Heap → (Sl → Heap → Prop) → Prop) (f35_ : Option Addr → Int → Int → Heap → (Heap → Prop) → Prop) (f36_ : Option Addr → Int → Heap → (Sl → Heap → Prop) → Prop) (r1 : Option Addr) (n2 : Int) (h : Heap) (K : Value → Heap → Prop) : F_code_Reader_Raw_of f18_ f35_ f36_ r1 n2 h (fun (r0 : Sl) (h : Heap) => K (.slice r0.ptr r0.len r0.cap) h) =
    den Try.prog (fn1 18 (E_code_taken_of f18_) (fn1 35 (E_code_Reader_stop_of f35_) (fn1 36 (E_code_Reader_next_of f36_) noFns))) Try.f11.ntmps plan11 (bodyOf Try.f11) (args0 0 [(.pointer r1 : Value), (.int .i64 n2 : Value)]) h ⟨fun env h => dRes Try.prog Try.f11.results.toList env h K, fun _ _ _ => False, fun env h => dRes Try.prog Try.f11.results.toList env h K⟩ := by kernel_rfl
def E_code_Reader_Raw_of (f : Option Addr → Int → Heap → (Sl → Heap → Prop) → Prop) : List Value → Heap → (Value → Heap → Prop) → Prop
  | [v0, v1], h, K => dec1 .ptr v0 fun (r1 : Option Addr) =>
  dec1 (.int .i64) v1 fun (n2 : Int) =>
  f r1 n2 h (fun (r0 : Sl) (h : Heap) => K (.slice r0.ptr r0.len r0.cap) h)
  | _, _, _ => False
abbrev E_code_Reader_Raw := E_code_Reader_Raw_of F_code_Reader_Raw
theorem E_code_Reader_Raw.right : IsRight Try.prog 11 E_code_Reader_Raw := by
  refine isRight fun vs K w hh => ?_
  match vs, hh with
  | [v0, v1], hh =>
    unfold E_code_Reader_Raw E_code_Reader_Raw_of at hh
    replace hh := dec1_sound hh; obtain ⟨r1, rfl, hh⟩ := hh
    replace hh := dec1_sound hh; obtain ⟨n2, rfl, hh⟩ := hh
    unfold F_code_Reader_Raw at hh
    exact calls_den (fn1_right ok18 E_code_taken.right (fn1_right ok35 E_code_Reader_stop.right (fn1_right ok36 E_code_Reader_next.right noFns_right))) plan11 _ w K Try.func11 (by kernel_rfl) (by kernel_rfl) (Eq.mp (F_code_Reader_Raw.eq F_code_taken F_code_Reader_stop F_code_Reader_next r1 n2 w.heap K) hh)
theorem ok11 : okFn Try.prog 11 = true := by kernel_rfl
end Go.Proofs.Ytdjhjpckefkolaa.V
/- The program's Reader: its fault and end, numbers in their shortest form, bytes. -/
namespace Go.Proofs.Ytdjhjpckefkolaa.V
open Go Go.RowKit
set_option linter.unusedVariables false
set_option linter.unusedSimpArgs false
/-- The table of the faults' numbers lies where it was laid. -/
def Er (h : Heap) : Prop := cellsAre h (pt 0 0) [.int .i64 0, .int .i64 10, .int .i64 11, .int .i64 12, .int .i64 14]
theorem Er.kept {h h' : Heap} (E : Er h) (k : KeptH h h') : Er h' := cellsAre_kept k E
theorem Er.sat {h0 h : Heap} {L : List Res} (E : Er h0) (O : Sat h0 h L) : Er h := E.kept O.kept
def erN : Nat → Int
  | 0 => 0
  | 1 => 10
  | 2 => 11
  | 3 => 12
  | _ => 14
def RS.endN (r : RS) : Int := if r.met = 0 ∧ r.left > 0 then 13 else erN r.met
/-- Bytes: a length of at most most, then so many bytes. -/
def RS.bytesP (r : RS) (most : Int) : RS × List UInt8 :=
  if (r.varP (max 0 most).toNat).1.met = 0 ∧ (r.varP (max 0 most).toNat).2 > (r.varP (max 0 most).toNat).1.left then ({ (r.varP (max 0 most).toNat).1 with at_ := r.at_, met := 1 }, [])
  else ((r.varP (max 0 most).toNat).1.next (r.varP (max 0 most).toNat).2, (r.varP (max 0 most).toNat).1.nextB (r.varP (max 0 most).toNat).2)
def RS.rawP (r : RS) (n : Int) : RS × List UInt8 :=
  if n < 0 then (if r.met = 0 then { r with met := 4 } else r, []) else (r.next n.toNat, r.nextB n.toNat)
theorem RS.Ok.rawP {r : RS} (o : r.Ok) (n : Int) : (r.rawP n).1.Ok := by
  unfold RS.rawP
  split
  · split
    · exact ⟨o.le, o.len, by show 4 ≤ 4; decide⟩
    · exact o
  · exact o.next _
theorem RS.Ok.bytesP {r : RS} (o : r.Ok) (n : Int) : (r.bytesP n).1.Ok := by
  unfold RS.bytesP
  split
  · exact ⟨by show r.at_ ≤ (r.varP _).1.b.length; rw [RS.varP_b]; exact o.le, (o.varP _).len, by show 1 ≤ 4; decide⟩
  · exact (o.varP _).next _
theorem RS.stuck_next {r : RS} (hm : r.met ≠ 0) (n : Nat) : r.next n = r ∧ r.nextB n = [] := by
  unfold RS.next RS.nextB
  rw [if_pos hm, if_pos hm]
  exact ⟨rfl, rfl⟩
theorem RS.stuck_var {r : RS} (hm : r.met ≠ 0) (n : Nat) : r.varP n = (r, 0) := by
  unfold RS.varP
  rw [if_pos hm]
theorem RS.stuck_bytes {r : RS} (hm : r.met ≠ 0) (n : Int) : r.bytesP n = (r, []) := by
  unfold RS.bytesP
  rw [RS.stuck_var hm]
  rw [if_neg (fun e => hm e.1), (RS.stuck_next hm _).1, (RS.stuck_next hm _).2]
theorem RS.stuck_raw {r : RS} (hm : r.met ≠ 0) (n : Int) : r.rawP n = (r, []) := by
  unfold RS.rawP
  rw [if_neg hm, (RS.stuck_next hm _).1, (RS.stuck_next hm _).2]
  split <;> rfl
theorem and127 (c : UInt8) : IntKind.u8.wrap (BitVec.ofInt IntKind.u8.bits (c.toNat : Int) &&& BitVec.ofInt IntKind.u8.bits 127).toNat = ((c.toNat % 128 : Nat) : Int) := by
  have key : ∀ c : Fin 256, IntKind.u8.wrap (BitVec.ofInt IntKind.u8.bits (c.val : Int) &&& BitVec.ofInt IntKind.u8.bits 127).toNat = ((c.val % 128 : Nat) : Int) := by decide +kernel
  exact key ⟨c.toNat, c.toNat_lt⟩
theorem and128 (c : UInt8) : (IntKind.u8.wrap (BitVec.ofInt IntKind.u8.bits (c.toNat : Int) &&& BitVec.ofInt IntKind.u8.bits 128).toNat != 0) = decide (128 ≤ c.toNat) := by
  have key : ∀ c : Fin 256, (IntKind.u8.wrap (BitVec.ofInt IntKind.u8.bits (c.val : Int) &&& BitVec.ofInt IntKind.u8.bits 128).toNat != 0) = decide (128 ≤ c.val) := by decide +kernel
  exact key ⟨c.toNat, c.toNat_lt⟩
theorem or7 (n i : Nat) (c : UInt8) (hn : n < 128 ^ i) (hi : i ≤ 9) (hc : i = 9 → c.toNat ≤ 1) : IntKind.u64.wrap (BitVec.ofInt IntKind.u64.bits (n : Int) ||| BitVec.ofInt IntKind.u64.bits (IntKind.u64.wrap (((c.toNat % 128 : Nat) : Int) * 2 ^ min (((7 * i : Nat)) : Int).toNat IntKind.u64.bits))).toNat = ((n + c.toNat % 128 * 128 ^ i : Nat) : Int) := by
  have hm := Nat.mod_lt c.toNat (show 128 > 0 by decide)
  have e7 : (128 : Nat) ^ i = 2 ^ (7 * i) := by rw [Nat.pow_mul]
  have hpow : (128 : Nat) ^ i ≤ 128 ^ 9 := Nat.pow_le_pow_right (by decide) hi
  have e9 : (128 : Nat) ^ 9 = 9223372036854775808 := by decide
  have hb : c.toNat % 128 * 128 ^ i ≤ 127 * 72057594037927936 ∨ (i = 9 ∧ c.toNat % 128 * 128 ^ i ≤ 9223372036854775808) := by
    by_cases h9 : i = 9
    · right
      refine ⟨h9, ?_⟩
      have := hc h9
      rw [h9, e9]
      have : c.toNat % 128 ≤ 1 := by omega
      have := Nat.mul_le_mul_right 9223372036854775808 this
      omega
    · left
      have h8 : (128 : Nat) ^ i ≤ 128 ^ 8 := Nat.pow_le_pow_right (by decide) (by omega)
      have e8 : (128 : Nat) ^ 8 = 72057594037927936 := by decide
      exact Nat.mul_le_mul (by omega) (by omega)
  have h7 : min (((7 * i : Nat)) : Int).toNat IntKind.u64.bits = 7 * i := by
    show min (((7 * i : Nat)) : Int).toNat 64 = _
    omega
  have hn64 : n < 9223372036854775808 := by omega
  have hx : c.toNat % 128 * 128 ^ i < 18446744073709551616 := by omega
  rw [h7]
  have e2 : ((c.toNat % 128 : Nat) : Int) * 2 ^ (7 * i) = ((c.toNat % 128 * 128 ^ i : Nat) : Int) := by
    rw [e7, Int.natCast_mul]
    simp
  rw [e2]
  have hsum : n + c.toNat % 128 * 128 ^ i < 18446744073709551616 := by
    rcases hb with hb | ⟨h9, hb⟩ <;> omega
  have hof : ∀ m : Nat, BitVec.ofInt IntKind.u64.bits (m : Int) = BitVec.ofNat 64 m := by
    intro m
    show BitVec.ofInt 64 (m : Int) = BitVec.ofNat 64 m
    exact BitVec.ofInt_natCast ..
  rw [wrapu64 (x := ((c.toNat % 128 * 128 ^ i : Nat) : Int)) (by omega) (by omega), hof, hof]
  have : (BitVec.ofNat 64 n ||| BitVec.ofNat 64 (c.toNat % 128 * 128 ^ i)).toNat = n + c.toNat % 128 * 128 ^ i := by
    rw [BitVec.toNat_or, BitVec.toNat_ofNat, BitVec.toNat_ofNat, Nat.mod_eq_of_lt (by omega), Nat.mod_eq_of_lt (by omega)]
    have := Nat.two_pow_add_eq_or_of_lt (i := 7 * i) (by rw [← e7]; exact hn) (c.toNat % 128)
    rw [← e7, Nat.mul_comm] at this
    rw [Nat.or_comm, ← this, Nat.add_comm]
  show IntKind.u64.wrap (((BitVec.ofNat 64 n ||| BitVec.ofNat 64 (c.toNat % 128 * 128 ^ i)).toNat : Nat) : Int) = _
  rw [this, wrapu64 (by omega) (by omega)]
section
variable {h0 h : Heap} {L : List Res} {p : Nat} {r : RS}
theorem F_code_Reader_next.stuck {n : Int} {Q : Sl → Heap → Prop} (hm : r.met ≠ 0) (O : Sat h0 h (rdR p r :: L)) (k : ∀ s, Bytes h s [] → Q s h) : F_code_Reader_next (some (pt p 0)) n h Q := by
  rw [F_code_Reader_next.eq_1, F_code_Reader_next_of.eq_1]
  simp only [nn_some, pt_add, Nat.zero_add, Nat.add_zero, Nat.reduceAdd, Nat.reduceMul, Int.toNat_zero, Int.toNat_one, Nat.zero_mul, Nat.one_mul]
  obtain ⟨s, O⟩ := O.rd_
  unfold rdC at O
  refine O.ld 0 rfl (ldL_c (ldL_n ?_))
  refine brr_ne (fun _ => ?_) (fun hm => by omega)
  exact k _ View.nil
theorem F_code_Reader_Var.is {most : Nat} {Q : Int → Heap → Prop} (o : r.Ok) (O : Sat h0 h (rdR p r :: L)) (k : ∀ h', Sat h0 h' (rdR p (r.varP most).1 :: L) → Q (((r.varP most).2 : Nat) : Int) h') : F_code_Reader_Var (some (pt p 0)) most h Q := by
  rw [F_code_Reader_Var.eq_1, F_code_Reader_Var_of.eq_1]
  simp only [nn_some, pt_add, Nat.zero_add, Nat.add_zero, Nat.reduceAdd, Nat.reduceMul, Int.toNat_zero, Int.toNat_one, Nat.zero_mul, Nat.one_mul]
  have h1 := o.le; have h2 := o.len
  have O2 := O
  obtain ⟨s, O1⟩ := O.rd_
  unfold rdC at O1
  have hb := O1.view 1 u8_len (by simp) rfl
  refine O1.ld 0 rfl (ldL_c (ldL_n ?_))
  refine brr_ne (fun hm => ?_) (fun hm => ?_)
  · have e : r.varP most = (r, 0) := by unfold RS.varP; rw [if_pos (by omega)]
    rw [e] at k
    exact k h O
  have hm : r.met = 0 := by omega
  refine O1.ld 0 rfl (ldL_c (k := .sl) (x := s) (ldL_n ?_))
  refine O1.ld 0 rfl (ldL_c (ldL_n ?_))
  refine O1.ld 0 rfl (ldL_c (ldL_n ?_))
  refine F_code_Reader_Left.is o O ?_
  refine ⟨O1.cells 0 rfl 0 1, O1.cells 0 rfl 1 1, O1.cells 0 rfl 1 1, ?_⟩
  have hlen := r.look_len
  have hleft : r.left = r.b.length - r.at_ := rfl
  have hsl := hb.1.len
  have emin : (if ((r.left : Nat) : Int) < 10 then ((r.left : Nat) : Int) else 10) = ((r.look.length : Nat) : Int) := by
    rw [hlen]; split <;> omega
  rw [emin, wrap64 (by omega) (by omega)]
  have hcap := hb.2
  refine ⟨by omega, by omega, by omega, ?_⟩
  have V2 : Bytes h ⟨slp 1 s r.at_, r.look.length, s.cap - r.at_⟩ r.look := by
    have := hb.1.slice r.at_ (r.at_ + r.look.length) (s.cap - r.at_) (by omega) (by omega) hb.2
    rw [show r.at_ + r.look.length - r.at_ = r.look.length by omega] at this
    have e : (r.b.drop r.at_).take r.look.length = r.look := by
      show _ = (r.b.drop r.at_).take 10
      rw [List.take_eq_take_iff, List.length_drop]
      omega
    rw [e] at this
    exact this
  rw [show ((r.at_ : Int) + r.look.length).toNat - (r.at_ : Int).toNat = r.look.length by omega, show (r.at_ : Int).toNat = r.at_ by omega]
  have hl10 : r.look.length ≤ 10 := by omega
  have vN := RS.varP_none (r := r) (most := most) hm
  have vS := fun k => RS.varP_some (r := r) (most := most) (k := k) hm
  generalize r.look = t at *
  refine jn0 (fun h' => h' = h ∧ r.varP most = ({ r with met := if t.length < 10 then 1 else 2 }, 0)) ?_ ?_
  · rintro h ⟨rfl, e⟩
    rw [e] at k
    refine jn0 (fun h' => Sat h0 h' (rdR p { r with met := if t.length < 10 then 1 else 2 } :: L)) (fun h O => k h O) fun j hj => ?_
    refine brr_p (fun hlt => ?_) (fun hlt => ?_)
    · have hlt : t.length < 10 := by have hlt : ((t.length : Nat) : Int) < 10 := hlt; omega
      rw [if_pos hlt] at hj
      refine O1.ld 0 rfl (ldL_c (ldL_n ?_))
      exact F_code_Reader_stop.is (a := r.at_) (m := 1) O fun h O => hj h O
    · have hlt : ¬ t.length < 10 := by have hlt : ¬ ((t.length : Nat) : Int) < 10 := hlt; omega
      rw [if_neg hlt] at hj
      refine O1.ld 0 rfl (ldL_c (ldL_n ?_))
      exact F_code_Reader_stop.is (a := r.at_) (m := 2) O fun h O => hj h O
  intro j14 hj14
  rw [F_code_Reader_Var.l1.eq_1]
  simp only [nn_some, pt_add, Nat.zero_add, Nat.add_zero, Nat.reduceAdd, Nat.reduceMul, Int.toNat_zero, Int.toNat_one, Nat.zero_mul, Nat.one_mul]
  refine wl2 (k := .int .u64) (l := .int .i64) (fun (m : Nat) (x i : Int) (h' : Heap) => 0 ≤ i ∧ i + m = t.length ∧ h' = h ∧ x = ((vnum (t.take i.toNat) : Nat) : Int) ∧ vlast t = (vlast (t.drop i.toNat)).map (· + i.toNat)) ?_ (m := t.length) ⟨by omega, by omega, rfl, rfl, by simp⟩
  rintro m (x : Int) (i : Int) h next hn ⟨hi0, him, rfl, rfl, hv⟩
  refine brr_p (fun hlt => ?_) (fun hlt => ?_)
  case refine_2 =>
    have hlt : ¬ i < (t.length : Int) := hlt
    rw [vlast_end (by omega)] at hv
    exact hj14 _ ⟨rfl, vN hv⟩
  have hlt : i < (t.length : Int) := hlt
  obtain ⟨i, rfl⟩ := Int.eq_ofNat_of_zero_le hi0
  simp only [Int.toNat_natCast] at *
  refine Bytes.at V2 hi0 hlt fun c hc => ?_
  simp only [Int.toNat_natCast] at hc
  have hst := vlast_step hc
  have hlt7 := vnum_lt (t.take i)
  rw [List.length_take, Nat.min_eq_left (by omega)] at hlt7
  have hgD : t.getD i 0 = c := by rw [List.getD_eq_getElem?_getD, hc]; rfl
  refine jn1 (fun (b : Bool) h' => b = decide (i = 9 ∧ 1 < c.toNat) ∧ h' = h) ?_ ?_
  case refine_2 =>
    intro j hj
    refine brr_eq (fun h9 => ?_) (fun h9 => ?_)
    · have h9 : (i : Int) = 9 := h9
      refine hj _ _ ⟨?_, rfl⟩
      have : i = 9 := by omega
      simp [this]
      omega
    · refine hj _ _ ⟨?_, rfl⟩
      have : i ≠ 9 := by intro e; subst e; exact h9 rfl
      simp [this]
  rintro (b : Bool) h ⟨rfl, rfl⟩
  refine brr_p (fun h9 => ?_) (fun h9 => ?_)
  · refine hj14 _ ⟨rfl, ?_⟩
    obtain ⟨rfl, hc1⟩ := h9
    by_cases hc128 : c.toNat < 128
    · rw [hst, if_pos hc128] at hv
      rw [vS 9 (by rw [hv]; rfl), if_pos (by unfold badForm; rw [hgD]; simp [hc1])]
      rw [if_neg (by omega)]
    · rw [hst, if_neg hc128, vlast_end (by omega)] at hv
      exact vN hv
  have e7 : IntKind.i64.wrap (7 * (i : Int)) = ((7 * i : Nat) : Int) := by rw [wrap64 (by omega) (by omega)]; omega
  have ewr : IntKind.u64.wrap ((c.toNat % 128 : Nat) : Int) = ((c.toNat % 128 : Nat) : Int) := wrapu64 (by omega) (by omega)
  have hc9 : i = 9 → c.toNat ≤ 1 := fun e => by
    rcases Nat.lt_or_ge 1 c.toNat with h | h
    · exact absurd ⟨e, h⟩ h9
    · exact h
  have hsn := take_snoc_at hc
  have hor := or7 _ i c hlt7 (by omega) hc9
  rw [← hsn] at hor
  simp only [e7, and127, ewr, hor, and128]
  refine ⟨by omega, ?_⟩
  refine brr_p (fun h128 => ?_) (fun h128 => ?_)
  · rw [if_neg (by omega)] at hst
    rw [wrap64 (by omega) (by omega)]
    refine hn (m - 1) _ _ _ (by omega) ⟨by omega, by omega, rfl, by simp [show ((i : Int) + 1).toNat = i + 1 by omega], ?_⟩
    rw [hv, hst, show ((i : Int) + 1).toNat = i + 1 by omega]
    cases vlast (t.drop (i + 1)) with
    | none => rfl
    | some y => simp; omega
  · rw [if_pos (by omega)] at hst
    rw [hst] at hv
    have hv : vlast t = some i := by rw [hv]; simp
    have vS := vS i hv
    refine jn1 (fun (b : Bool) h' => b = decide (c.toNat = 0 ∧ 0 < i) ∧ h' = h) ?_ ?_
    case refine_2 =>
      intro j hj
      refine brr_eq (fun h9 => ?_) (fun h9 => ?_)
      · refine hj _ _ ⟨?_, rfl⟩
        have : c.toNat = 0 := by omega
        simp [this]
      · refine hj _ _ ⟨?_, rfl⟩
        have : c.toNat ≠ 0 := by omega
        simp [this]
    rintro (b : Bool) h ⟨rfl, rfl⟩
    have hbad : badForm t i = decide (c.toNat = 0 ∧ 0 < i) := by
      unfold badForm
      rw [hgD]
      have : (decide (i = 9) && decide (1 < c.toNat)) = false := by
        by_cases e : i = 9
        · have := hc9 e; simp; omega
        · simp [e]
      rw [this, Bool.false_or, ← Bool.decide_and]
      exact decide_eq_decide.2 And.comm
    rw [hbad] at vS
    refine jn0 (fun h' => Sat h0 h' (rdR p (r.varP most).1 :: L) ∧ (r.varP most).2 = 0) ?_ ?_
    · rintro h ⟨O, e⟩
      rw [e] at k
      exact k h O
    · intro j27 hj27
      refine brr_p (fun hz => ?_) (fun hz => ?_)
      · rw [if_pos (by simpa using hz)] at vS
        refine O1.ld 0 rfl (ldL_c (ldL_n ?_))
        refine F_code_Reader_stop.is (a := r.at_) (m := 2) O fun h O => hj27 h ?_
        rw [vS]
        exact ⟨O, rfl⟩
      · rw [if_neg (by simpa using hz)] at vS
        refine brr_p (fun hg => ?_) (fun hg => ?_)
        · rw [if_pos (by omega)] at vS
          refine O1.ld 0 rfl (ldL_c (ldL_n ?_))
          refine F_code_Reader_stop.is (a := r.at_) (m := 3) O fun h O => hj27 h ?_
          rw [vS]
          exact ⟨O, rfl⟩
        · rw [if_neg (by omega)] at vS
          refine O1.ld 0 rfl (ldL_c (ldL_n ?_))
          refine O1.st 0 rfl (by simp) rfl fun h O => ?_
          dsimp only [V.put, List.set] at O
          rw [vS] at k
          refine k h (Sat.rdI (s := s) ?_)
          unfold rdC
          rw [wrap64 (x := (i : Int) + 1) (by omega) (by omega), wrap64 (by omega) (by omega)] at O
          rw [show ((r.at_ + (i + 1) : Nat) : Int) = (r.at_ : Int) + ((i : Int) + 1) by omega]
          exact O
theorem F_code_Reader_Raw.is {n : Int} {Q : Sl → Heap → Prop} (o : r.Ok) (hn : n ≤ (9223372036854775807 : Int)) (O : Sat h0 h (rdR p r :: L)) (k : ∀ s h', Sat h0 h' (buf 1 u8 s (r.rawP n).2 :: rdR p (r.rawP n).1 :: L) → Q s h') : F_code_Reader_Raw (some (pt p 0)) n h Q := by
  rw [F_code_Reader_Raw.eq_1, F_code_Reader_Raw_of.eq_1]
  simp only [nn_some, pt_add, Nat.zero_add, Nat.add_zero, Nat.reduceAdd, Nat.reduceMul, Int.toNat_zero, Int.toNat_one, Nat.zero_mul, Nat.one_mul]
  have fin : ∀ {s : Sl} {h : Heap} {r' : RS} {xs : List UInt8}, xs.length ≤ 281474976710656 → Sat h0 h (rdR p r' :: L) → Bytes h s xs → r.rawP n = (r', xs) → F_code_taken s h Q := by
    intro s h r' xs hx O V1 e
    rw [e] at k
    exact F_code_taken.is O V1 hx fun s h O _ _ => k s h O
  have hbl := o.len
  have hle := o.le
  refine jn1 (fun (b : Bool) h' => b = decide (n < 0 ∧ r.met = 0) ∧ h' = h) ?_ ?_
  · rintro (b : Bool) h ⟨rfl, rfl⟩
    refine jn0 (fun h' => ∃ r', Sat h0 h' (rdR p r' :: L) ∧ r' = (if n < 0 ∧ r.met = 0 then { r with met := 4 } else r)) ?_ ?_
    · rintro h ⟨r', O, rfl⟩
      by_cases hneg : n < 0
      · have e : r.rawP n = (if n < 0 ∧ r.met = 0 then { r with met := 4 } else r, []) := by
          unfold RS.rawP
          rw [if_pos hneg]
          simp [hneg]
        refine F_code_Reader_next.stuck (r := if n < 0 ∧ r.met = 0 then { r with met := 4 } else r) ?_ O fun s V1 => ?_
        · split
          · show 4 ≠ 0
            decide
          · rename_i hx; intro e; exact hx ⟨hneg, e⟩
        · exact fin (by simp) O V1 e
      · rw [if_neg (by omega)] at O
        have e : r.rawP n = (r.next n.toNat, r.nextB n.toNat) := by unfold RS.rawP; rw [if_neg hneg]
        obtain ⟨m, rfl⟩ := Int.eq_ofNat_of_zero_le (by omega : 0 ≤ n)
        simp only [Int.toNat_natCast] at e
        refine F_code_Reader_next.is o (by omega) O fun s h O V1 => ?_
        refine fin ?_ O V1 e
        unfold RS.nextB
        split
        · simp
        · split
          · simp
          · rw [List.length_take, List.length_drop]; omega
    · intro j hj
      refine brr_p (fun hp => ?_) (fun hp => ?_)
      · obtain ⟨s, O1⟩ := O.rd_
        unfold rdC at O1
        refine O1.ld 0 rfl (ldL_c (ldL_n ?_))
        refine F_code_Reader_stop.is (a := r.at_) (m := 4) O fun h O => hj h ⟨_, O, ?_⟩
        rw [if_pos hp]
      · exact hj _ ⟨_, O, by rw [if_neg hp]⟩
  · intro j hj
    refine brr_p (fun hp => ?_) (fun hp => ?_)
    · obtain ⟨s, O1⟩ := O.rd_
      unfold rdC at O1
      refine O1.ld 0 rfl (ldL_c (ldL_n ?_))
      refine hj _ _ ⟨?_, rfl⟩
      by_cases e : r.met = 0
      · simp [e, hp]
      · have : ((r.met : Int) == 0) = false := by simp; omega
        rw [this]; simp [e]
    · refine hj _ _ ⟨?_, rfl⟩
      simp [hp]
theorem F_code_Reader_Bytes.is {most : Int} {Q : Sl → Heap → Prop} (o : r.Ok) (hmo : most ≤ (9223372036854775807 : Int)) (O : Sat h0 h (rdR p r :: L)) (k : ∀ s h', Sat h0 h' (buf 1 u8 s (r.bytesP most).2 :: rdR p (r.bytesP most).1 :: L) → Q s h') : F_code_Reader_Bytes (some (pt p 0)) most h Q := by
  rw [F_code_Reader_Bytes.eq_1, F_code_Reader_Bytes_of.eq_1]
  simp only [nn_some, pt_add, Nat.zero_add, Nat.add_zero, Nat.reduceAdd, Nat.reduceMul, Int.toNat_zero, Int.toNat_one, Nat.zero_mul, Nat.one_mul]
  obtain ⟨s1, O1⟩ := O.rd_
  unfold rdC at O1
  refine O1.ld 0 rfl (ldL_c (ldL_n ?_))
  have emax : (if most > 0 then most else 0) = (((max 0 most).toNat : Nat) : Int) := by split <;> omega
  have hmx : (max 0 most).toNat ≤ 9223372036854775807 := by omega
  rw [emax, wrapu64 (by omega) (by omega)]
  have e : r.bytesP most = _ := RS.bytesP.eq_1 r most
  generalize (max 0 most).toNat = mo at *
  refine F_code_Reader_Var.is o O fun h O => ?_
  have o1 := o.varP mo
  have hn := RS.varP_le (r := r) (most := mo)
  have hb := RS.varP_b (r := r) (most := mo)
  generalize (r.varP mo).2 = n at *
  generalize (r.varP mo).1 = r1 at *
  have hb1 := o1.len
  have hle := o1.le
  have fin : ∀ {s : Sl} {h : Heap} {r' : RS} {xs : List UInt8}, xs.length ≤ 281474976710656 → Sat h0 h (rdR p r' :: L) → Bytes h s xs → r.bytesP most = (r', xs) → F_code_taken s h Q := by
    intro s h r' xs hx O V1 e
    rw [e] at k
    exact F_code_taken.is O V1 hx fun s h O _ _ => k s h O
  refine jn1 (fun (b : Bool) h' => b = decide (r1.met = 0 ∧ n > r1.left) ∧ h' = h) ?_ ?_
  · rintro (b : Bool) h ⟨rfl, rfl⟩
    refine jn0 (fun h' => ∃ r', Sat h0 h' (rdR p r' :: L) ∧ r' = (if r1.met = 0 ∧ n > r1.left then { r1 with at_ := r.at_, met := 1 } else r1)) ?_ ?_
    · rintro h ⟨r', O, rfl⟩
      rw [wrap64 (by omega) (by omega)]
      by_cases hp : r1.met = 0 ∧ n > r1.left
      · rw [if_pos hp] at O e
        refine F_code_Reader_next.stuck (r := { r1 with at_ := r.at_, met := 1 }) (by show 1 ≠ 0; decide) O fun s V1 => ?_
        exact fin (by simp) O V1 e
      · rw [if_neg hp] at O e
        refine F_code_Reader_next.is o1 (by omega) O fun s h O V1 => ?_
        refine fin ?_ O V1 e
        unfold RS.nextB
        split
        · simp
        · split
          · simp
          · rw [List.length_take, List.length_drop]; omega
    · intro j hj
      refine brr_p (fun hp => ?_) (fun hp => ?_)
      · refine F_code_Reader_stop.is (a := r.at_) (m := 1) O fun h O => hj h ⟨_, O, ?_⟩
        rw [if_pos hp]
      · exact hj _ ⟨_, O, by rw [if_neg hp]⟩
  · intro j hj
    obtain ⟨s, O1⟩ := O.rd_
    unfold rdC at O1
    refine O1.ld 0 rfl (ldL_c (ldL_n ?_))
    refine brr_eq (fun hm => ?_) (fun hm => ?_)
    · have hm : r1.met = 0 := by omega
      refine F_code_Reader_Left.is o1 O ?_
      have hleft : r1.left ≤ r1.b.length := by unfold RS.left; omega
      rw [wrapu64 (by omega) (by omega)]
      refine hj _ _ ⟨?_, rfl⟩
      apply decide_eq_decide.2
      omega
    · refine hj _ _ ⟨?_, rfl⟩
      have hm : r1.met ≠ 0 := by omega
      simp [hm]
end
end Go.Proofs.Ytdjhjpckefkolaa.V
/- Lists of texts as they come in; a text turned round; a text laid over another. -/
namespace Go.Proofs.Ytdjhjpckefkolaa.V
open Go Go.RowKit
set_option linter.unusedVariables false
set_option linter.unusedSimpArgs false
abbrev tyBytes : Ty := .sl 1 1 (.int .u8)
abbrev tyTexts : Ty := .cons (.sl 1 24 tyBytes) .nil
/-- A text of a list that came in. -/
def txR (H : Heap) (N : Nat) (x : Sl × List UInt8) (cs : List Value) : Prop := cs = [.slice x.1.ptr x.1.len x.1.cap] ∧ Bytes H x.1 x.2 ∧ x.2.length ≤ N ∧ x.1.len ≤ x.1.cap
theorem SlN.bytesN {h : Heap} {N : Nat} {s : Sl} (S : SlN h N 1 1 s fun cs => Fit h N (.int .u8) cs) : s.len ≤ s.cap ∧ ∃ l : List UInt8, Bytes h s l ∧ l.length ≤ N := by
  obtain ⟨h1, h2, l, V⟩ := S.bytes
  exact ⟨h1, l, V, by rw [← V.len]; omega⟩
theorem SlN.texts {h : Heap} {N : Nat} {s : Sl} (S : SlN h N 1 24 s fun cs => Fit h N tyBytes cs) : ∃ xs : List (Sl × List UInt8), View h 1 (txR h N) s xs ∧ xs.length ≤ N := by
  obtain ⟨h1, h2, _, xs, V⟩ := S.view (txR h N) (fun cs ⟨t, e, tS⟩ => by
    obtain ⟨h1, l, V, hl⟩ := tS.bytesN
    exact ⟨(t, l), e, V, hl, h1⟩)
  exact ⟨xs, V, by rw [← V.len]; omega⟩
section
variable {h0 h : Heap} {L : List Res}
end
end Go.Proofs.Ytdjhjpckefkolaa.V
namespace Go.Proofs.Ytdjhjpckefkolaa.V
open Go Go.RowKit
set_option linter.unusedVariables false
set_option maxRecDepth 100000
def F_law1_into_of  (n1 m2 : Int) (h : Heap) (Q : Int → Heap → Prop) : Prop :=
  m2 ≠ 0 ∧
  jn [(5, .one (.int .i64))] (fun (k4 : Int) (h5 : Heap) =>
  Q k4 h5) (fun (j3 : Int → Heap → Prop) =>
  brr (decide ((n1.tmod m2) < 0))
  (j3 (IntKind.i64.wrap ((n1.tmod m2) + m2)) h)
  (j3 (n1.tmod m2) h))
def F_law1_into (n1 m2 : Int) (h : Heap) (Q : Int → Heap → Prop) : Prop := F_law1_into_of  n1 m2 h Q
def plan12 : Plan := .s (.r [0, 1]) (.s (.r [1, 5]) (.s (.s (.r [1, 5, 10]) (.cj [(5, .one (.int .i64))] [] (.r [5]) .z)) (.s (.r [4]) .z)))
theorem F_law1_into.eq  (n1 m2 : Int) (h : Heap) (K : Value → Heap → Prop) : F_law1_into_of  n1 m2 h (fun (r0 : Int) (h : Heap) => K (.int .i64 r0) h) =
    den Try.prog noFns Try.f12.ntmps plan12 (bodyOf Try.f12) (args0 0 [(.int .i64 n1 : Value), (.int .i64 m2 : Value)]) h ⟨fun env h => dRes Try.prog Try.f12.results.toList env h K, fun _ _ _ => False, fun env h => dRes Try.prog Try.f12.results.toList env h K⟩ := by kernel_rfl
def E_law1_into_of (f : Int → Int → Heap → (Int → Heap → Prop) → Prop) : List Value → Heap → (Value → Heap → Prop) → Prop
  | [v0, v1], h, K => dec1 (.int .i64) v0 fun (n1 : Int) =>
  dec1 (.int .i64) v1 fun (m2 : Int) =>
  f n1 m2 h (fun (r0 : Int) (h : Heap) => K (.int .i64 r0) h)
  | _, _, _ => False
abbrev E_law1_into := E_law1_into_of F_law1_into
theorem E_law1_into.right : IsRight Try.prog 12 E_law1_into := by
  refine isRight fun vs K w hh => ?_
  match vs, hh with
  | [v0, v1], hh =>
    unfold E_law1_into E_law1_into_of at hh
    replace hh := dec1_sound hh; obtain ⟨n1, rfl, hh⟩ := hh
    replace hh := dec1_sound hh; obtain ⟨m2, rfl, hh⟩ := hh
    unfold F_law1_into at hh
    exact calls_den noFns_right plan12 _ w K Try.func12 (by kernel_rfl) (by kernel_rfl) (Eq.mp (F_law1_into.eq  n1 m2 w.heap K) hh)
theorem ok12 : okFn Try.prog 12 = true := by kernel_rfl
end Go.Proofs.Ytdjhjpckefkolaa.V
/- A step of a script on Writers and Readers. -/
namespace Go.Proofs.Ytdjhjpckefkolaa.V
open Go Go.RowKit
set_option linter.unusedVariables false
set_option linter.unusedSimpArgs false
structure COp where
  kind : Int
  which : Int
  m : Int
  n : Nat
  s : Sl
  b : List UInt8
abbrev tyCOp : Ty := .cons (.int .i64) (.cons (.int .i64) (.cons (.int .i64) (.cons (.int .u64) (.cons tyBytes .nil))))
abbrev tyCScript : Ty := .cons (.cons tyBytes (.cons tyBytes .nil)) (.cons (.sl 5 56 tyCOp) .nil)
def copC (o : COp) : List Value := [.int .i64 o.kind, .int .i64 o.which, .int .i64 o.m, .int .u64 o.n, .slice o.s.ptr o.s.len o.s.cap]
def copR (H : Heap) (N : Nat) (o : COp) (cs : List Value) : Prop := cs = copC o ∧ o.n < 18446744073709551616 ∧ Bytes H o.s o.b ∧ o.b.length ≤ N ∧ o.s.len ≤ o.s.cap ∧ IntKind.i64.min ≤ o.which ∧ o.which ≤ IntKind.i64.max ∧ IntKind.i64.min ≤ o.m ∧ o.m ≤ IntKind.i64.max
theorem SlN.cops {h : Heap} {N : Nat} {s : Sl} (S : SlN h N 5 56 s fun cs => Fit h N tyCOp cs) : ∃ l : List COp, View h 5 (copR h N) s l ∧ l.length ≤ N := by
  obtain ⟨h1, h2, _, xs, V⟩ := S.view (copR h N) (fun cs F => by
    obtain ⟨_, _, rfl, _, ⟨t1, rfl, t1a, t1b⟩, _, _, rfl, _, ⟨t2, rfl, t2a, t2b⟩, _, _, rfl, _, ⟨t3, rfl, t3a, t3b⟩, _, _, rfl, _, ⟨t4, rfl, t4a, t4b⟩, _, _, rfl, _, ⟨t5, rfl, t5S⟩, rfl⟩ := F
    rw [u64_min] at t4a; rw [u64_max] at t4b
    obtain ⟨hc, l, Vl, hl⟩ := t5S.bytesN
    refine ⟨⟨t1, t2, t3, t4.toNat, t5, l⟩, ?_, by show t4.toNat < _; omega, Vl, hl, hc, t2a, t2b, t3a, t3b⟩
    show _ = [_, _, _, Value.int .u64 ((t4.toNat : Nat) : Int), _]
    rw [show ((t4.toNat : Nat) : Int) = t4 by omega]
    rfl)
  exact ⟨xs, V, by rw [← V.len]; omega⟩
theorem wrap8n (n : Nat) : IntKind.u8.wrap (n : Int) = ((n % 256 : Nat) : Int) := by
  rw [wrap8_ofNat]; simp
theorem wrap32m (n : Nat) : IntKind.u32.wrap (n : Int) = ((n % 4294967296 : Nat) : Int) := by
  unfold IntKind.wrap
  simp [IntKind.bits, IntKind.signed]
section
variable {h0 h : Heap} {L : List Res}
theorem F_law1_into.is {i n : Int} {Q : Int → Heap → Prop} (hn : 0 < n) (hn2 : n < 4611686018427387904) (k : Q (i % n) h) : F_law1_into i n h Q := by
  rw [F_law1_into.eq_1, F_law1_into_of.eq_1]
  have hf := tmod_fix (a := i) hn
  have hl := tmod_lt (a := i) hn
  refine ⟨by omega, ?_⟩
  refine jn1 (fun x h' => x = i % n ∧ h' = h) ?_ ?_
  · rintro x h ⟨rfl, rfl⟩
    exact k
  · intro j hj
    refine brr_p (fun hlt => ?_) (fun hlt => ?_)
    · rw [if_pos hlt] at hf
      rw [wrap64 (by omega) (by omega)]
      exact hj _ _ ⟨hf, rfl⟩
    · rw [if_neg hlt] at hf
      exact hj _ _ ⟨hf, rfl⟩
/-- What one call lays. -/
def laid (o : COp) : List UInt8 :=
  if o.kind = 1 then fixB (o.n % 256) 1 else if o.kind = 2 then fixB (o.n % 4294967296) 4 else if o.kind = 3 then fixB o.n 8 else if o.kind = 4 then varB o.n else if o.kind = 5 then varB o.b.length ++ o.b else if o.kind = 6 then o.b else []
theorem laid_len {o : COp} (hn : o.n < 18446744073709551616) (hb : o.b.length < 18446744073709551616) : (laid o).length ≤ o.b.length + 18 := by
  unfold laid
  have h1 := (varB_le hn).1
  have h2 := (varB_le hb).1
  split
  · rw [fixB_len]; omega
  split
  · rw [fixB_len]; omega
  split
  · rw [fixB_len]; omega
  split
  · omega
  split
  · rw [List.length_append]; omega
  split
  · omega
  · simp
end
end Go.Proofs.Ytdjhjpckefkolaa.V
namespace Go.Proofs.Ytdjhjpckefkolaa.V
open Go Go.RowKit
set_option linter.unusedVariables false
set_option maxRecDepth 100000
def F_ref1_Eye_Var.l1 (e1 : Option Addr) (j15 : Int → Heap → Prop) : Int → Int → Heap → Prop :=
  wl [(6, .one (.int .u64)), (7, .one (.int .i64))] (fun (next16 : Int → Int → Heap → Prop) (n17 i18 : Int) (h19 : Heap) =>
  nn e1 fun (a20 : Addr) =>
  ld [.int .i64] (a20.add 1) h19 fun (v21 : Int) =>
  brr (decide (i18 ≥ v21))
  (nn e1 fun (a22 : Addr) =>
  ld [.sl] (a22.add 0) h19 fun (v23 : Sl) =>
  ixS 1 v23 i18 fun (a24 : Addr) =>
  ld [.int .u8] a24 h19 fun (v25 : Int) =>
  (128 : Int) ≠ 0 ∧
  next16 (IntKind.u64.wrap ((IntKind.u64.wrap (n17 * 128)) + (IntKind.u64.wrap (v25.tmod 128)))) (IntKind.i64.wrap (i18 - 1)) h19)
  (j15 n17 h19))
def F_ref1_Eye_Var_of (f17_ : Sl → Sl → Heap → (Bool → Heap → Prop) → Prop) (f27_ : Int → Heap → (Sl → Heap → Prop) → Prop) (f38_ : Option Addr → Heap → (Int → Heap → Prop) → Prop) (f47_ : Option Addr → Heap → (Int → Heap → Prop) → Prop) (e1 : Option Addr) (most2 : Int) (h : Heap) (Q : Int → Heap → Prop) : Prop :=
  nn e1 fun (a3 : Addr) =>
  ld [.int .i64] (a3.add 2) h fun (v4 : Int) =>
  brr (v4 != 0)
  (Q 0 h)
  (f47_ e1 h fun (r5 : Int) (h6 : Heap) =>
  brr (decide (r5 < 0))
  (nn e1 fun (a7 : Addr) =>
  st (a7.add 2) [.int .i64 11] h6 fun (h8 : Heap) =>
  f38_ e1 h8 fun (r9 : Int) (h10 : Heap) =>
  jn [] (fun  (h14 : Heap) =>
  Q 0 h14) (fun (j11 : Heap → Prop) =>
  brr (decide (r9 < 10))
  (nn e1 fun (a12 : Addr) =>
  st (a12.add 2) [.int .i64 10] h10 fun (h13 : Heap) =>
  j11 h13)
  (j11 h10)))
  (jn [(6, .one (.int .u64))] (fun (n26 : Int) (h27 : Heap) =>
  nn e1 fun (a28 : Addr) =>
  ld [.sl] (a28.add 0) h27 fun (v29 : Sl) =>
  nn e1 fun (a30 : Addr) =>
  ld [.int .i64] (a30.add 1) h27 fun (v31 : Int) =>
  slFT 1 v29 v31 (IntKind.i64.wrap (r5 + 1)) fun (s32 : Sl) =>
  f27_ n26 h27 fun (r33 : Sl) (h34 : Heap) =>
  cellsAre h34 (a28.add 0) [.slice v29.ptr v29.len v29.cap] ∧
  cellsAre h34 (a30.add 1) [.int .i64 v31] ∧
  f17_ r33 s32 h34 fun (r35 : Bool) (h36 : Heap) =>
  brr (!r35)
  (nn e1 fun (a37 : Addr) =>
  st (a37.add 2) [.int .i64 11] h36 fun (h38 : Heap) =>
  Q 0 h38)
  (brr (decide (n26 > most2))
  (nn e1 fun (a39 : Addr) =>
  st (a39.add 2) [.int .i64 12] h36 fun (h40 : Heap) =>
  Q 0 h40)
  (nn e1 fun (a41 : Addr) =>
  st (a41.add 1) [.int .i64 (IntKind.i64.wrap (r5 + 1))] h36 fun (h42 : Heap) =>
  Q n26 h42))) (fun (j15 : Int → Heap → Prop) =>
  F_ref1_Eye_Var.l1 e1 j15 0 r5 h6)))
def F_ref1_Eye_Var (e1 : Option Addr) (most2 : Int) (h : Heap) (Q : Int → Heap → Prop) : Prop := F_ref1_Eye_Var_of F_ref0_Eq F_ref1_Var F_ref1_Eye_Left F_ref1_Eye_last e1 most2 h Q
def plan37 : Plan := .s (.r [0, 1]) (.s (.s (.r [0, 1, 12]) (.c (.s (.r [4]) .z) .z)) (.s (.r [0, 1, 5]) (.s (.s (.r [0, 1, 5, 16]) (.c (.s (.r [0]) (.s (.s (.r [0, 22]) (.cj [] [] (.r []) .z)) (.s (.r [4]) .z))) .z)) (.s (.r [0, 1, 5, 6]) (.s (.s (.r [0, 1, 5, 6, 7]) (.bj [(6, .one (.int .u64))] [0, 1, 5] (.l [(6, .one (.int .u64)), (7, .one (.int .i64))] [0, 1, 5] (.s (.s (.r [0, 1, 5, 6, 7, 32]) (.c .z .z)) (.s (.b (.r [0, 1, 5, 6, 7])) (.r [0, 1, 5, 6, 7])))))) (.s (.s (.d [0, 1, 0, 4, 12, 28, 0, 64, 192, 448, 0, 1024, 4092, 8191, 16383] [[0, 2, 3, 4, 5, 6, 7, 8, 9, 10, 11, 12, 1, 13, 14]] [0, 1, 5, 6, 61]) (.c (.s (.r []) (.s (.r [4]) .z)) .z)) (.s (.s (.r [0, 5, 6, 67]) (.c (.s (.r []) (.s (.r [4]) .z)) .z)) (.s (.r [6]) (.s (.r [4]) .z)))))))))
theorem F_ref1_Eye_Var.eq (f17_ : Sl → Sl → Heap → (Bool → Heap → Prop) → Prop) (f27_ : Int → Heap → (Sl → Heap → Prop) → Prop) (f38_ : Option Addr → Heap → (Int → Heap → Prop) → Prop) (f47_ : Option Addr → Heap → (Int → Heap → Prop) → Prop) (e1 : Option Addr) (most2 : Int) (h : Heap) (K : Value → Heap → Prop) : F_ref1_Eye_Var_of f17_ f27_ f38_ f47_ e1 most2 h (fun (r0 : Int) (h : Heap) => K (.int .u64 r0) h) =
    den Try.prog (fn1 17 (E_ref0_Eq_of f17_) (fn1 27 (E_ref1_Var_of f27_) (fn1 38 (E_ref1_Eye_Left_of f38_) (fn1 47 (E_ref1_Eye_last_of f47_) noFns)))) Try.f37.ntmps plan37 (bodyOf Try.f37) (args0 0 [(.pointer e1 : Value), (.int .u64 most2 : Value)]) h ⟨fun env h => dRes Try.prog Try.f37.results.toList env h K, fun _ _ _ => False, fun env h => dRes Try.prog Try.f37.results.toList env h K⟩ := by kernel_rfl
def E_ref1_Eye_Var_of (f : Option Addr → Int → Heap → (Int → Heap → Prop) → Prop) : List Value → Heap → (Value → Heap → Prop) → Prop
  | [v0, v1], h, K => dec1 .ptr v0 fun (e1 : Option Addr) =>
  dec1 (.int .u64) v1 fun (most2 : Int) =>
  f e1 most2 h (fun (r0 : Int) (h : Heap) => K (.int .u64 r0) h)
  | _, _, _ => False
abbrev E_ref1_Eye_Var := E_ref1_Eye_Var_of F_ref1_Eye_Var
theorem E_ref1_Eye_Var.right : IsRight Try.prog 37 E_ref1_Eye_Var := by
  refine isRight fun vs K w hh => ?_
  match vs, hh with
  | [v0, v1], hh =>
    unfold E_ref1_Eye_Var E_ref1_Eye_Var_of at hh
    replace hh := dec1_sound hh; obtain ⟨e1, rfl, hh⟩ := hh
    replace hh := dec1_sound hh; obtain ⟨most2, rfl, hh⟩ := hh
    unfold F_ref1_Eye_Var at hh
    exact calls_den (fn1_right ok17 E_ref0_Eq.right (fn1_right ok27 E_ref1_Var.right (fn1_right ok38 E_ref1_Eye_Left.right (fn1_right ok47 E_ref1_Eye_last.right noFns_right)))) plan37 _ w K Try.func37 (by kernel_rfl) (by kernel_rfl) (Eq.mp (F_ref1_Eye_Var.eq F_ref0_Eq F_ref1_Var F_ref1_Eye_Left F_ref1_Eye_last e1 most2 w.heap K) hh)
theorem ok37 : okFn Try.prog 37 = true := by kernel_rfl
end Go.Proofs.Ytdjhjpckefkolaa.V
namespace Go.Proofs.Ytdjhjpckefkolaa.V
open Go Go.RowKit
set_option linter.unusedVariables false
set_option maxRecDepth 100000
def F_ref1_Eye_Text_of (f13_ : Option Addr → Int → Heap → (Sl → Heap → Prop) → Prop) (f37_ : Option Addr → Int → Heap → (Int → Heap → Prop) → Prop) (e1 : Option Addr) (most2 : Int) (h : Heap) (Q : Sl → Heap → Prop) : Prop :=
  jn [(1, .one (.int .i64))] (fun (most4 : Int) (h5 : Heap) =>
  nn e1 fun (a6 : Addr) =>
  ld [.int .i64] (a6.add 1) h5 fun (v7 : Int) =>
  f37_ e1 (IntKind.u64.wrap most4) h5 fun (r8 : Int) (h9 : Heap) =>
  f13_ e1 (IntKind.i64.wrap r8) h9 fun (r10 : Sl) (h11 : Heap) =>
  nn e1 fun (a12 : Addr) =>
  ld [.int .i64] (a12.add 2) h11 fun (v13 : Int) =>
  brr (v13 != 0)
  (nn e1 fun (a14 : Addr) =>
  st (a14.add 1) [.int .i64 v7] h11 fun (h15 : Heap) =>
  Q (⟨none, 0, 0⟩ : Sl) h15)
  (Q r10 h11)) (fun (j3 : Int → Heap → Prop) =>
  brr (decide (most2 < 0))
  (j3 0 h)
  (j3 most2 h))
def F_ref1_Eye_Text (e1 : Option Addr) (most2 : Int) (h : Heap) (Q : Sl → Heap → Prop) : Prop := F_ref1_Eye_Text_of F_ref1_Eye_Raw F_ref1_Eye_Var e1 most2 h Q
def plan10 : Plan := .s (.r [0, 1]) (.s (.s (.r [0, 1, 9]) (.cj [(1, .one (.int .i64))] [0] (.r [0, 1]) .z)) (.s (.r [0, 1, 5]) (.s (.r [0, 5, 6]) (.s (.r [0, 5, 7]) (.s (.s (.r [0, 5, 7, 26]) (.c (.s (.r []) (.s (.r [4]) .z)) .z)) (.s (.r [4]) .z))))))
theorem F_ref1_Eye_Text.eq (f13_ : Option Addr → Int → Heap → (Sl → Heap → Prop) → Prop) (f37_ : Option Addr → Int → Heap → (Int → Heap → Prop) → Prop) (e1 : Option Addr) (most2 : Int) (h : Heap) (K : Value → Heap → Prop) : F_ref1_Eye_Text_of f13_ f37_ e1 most2 h (fun (r0 : Sl) (h : Heap) => K (.slice r0.ptr r0.len r0.cap) h) =
    den Try.prog (fn1 13 (E_ref1_Eye_Raw_of f13_) (fn1 37 (E_ref1_Eye_Var_of f37_) noFns)) Try.f10.ntmps plan10 (bodyOf Try.f10) (args0 0 [(.pointer e1 : Value), (.int .i64 most2 : Value)]) h ⟨fun env h => dRes Try.prog Try.f10.results.toList env h K, fun _ _ _ => False, fun env h => dRes Try.prog Try.f10.results.toList env h K⟩ := by kernel_rfl
def E_ref1_Eye_Text_of (f : Option Addr → Int → Heap → (Sl → Heap → Prop) → Prop) : List Value → Heap → (Value → Heap → Prop) → Prop
  | [v0, v1], h, K => dec1 .ptr v0 fun (e1 : Option Addr) =>
  dec1 (.int .i64) v1 fun (most2 : Int) =>
  f e1 most2 h (fun (r0 : Sl) (h : Heap) => K (.slice r0.ptr r0.len r0.cap) h)
  | _, _, _ => False
abbrev E_ref1_Eye_Text := E_ref1_Eye_Text_of F_ref1_Eye_Text
theorem E_ref1_Eye_Text.right : IsRight Try.prog 10 E_ref1_Eye_Text := by
  refine isRight fun vs K w hh => ?_
  match vs, hh with
  | [v0, v1], hh =>
    unfold E_ref1_Eye_Text E_ref1_Eye_Text_of at hh
    replace hh := dec1_sound hh; obtain ⟨e1, rfl, hh⟩ := hh
    replace hh := dec1_sound hh; obtain ⟨most2, rfl, hh⟩ := hh
    unfold F_ref1_Eye_Text at hh
    exact calls_den (fn1_right ok13 E_ref1_Eye_Raw.right (fn1_right ok37 E_ref1_Eye_Var.right noFns_right)) plan10 _ w K Try.func10 (by kernel_rfl) (by kernel_rfl) (Eq.mp (F_ref1_Eye_Text.eq F_ref1_Eye_Raw F_ref1_Eye_Var e1 most2 w.heap K) hh)
theorem ok10 : okFn Try.prog 10 = true := by kernel_rfl
end Go.Proofs.Ytdjhjpckefkolaa.V
/- The document's Reader (Eye), beside the program's. -/
namespace Go.Proofs.Ytdjhjpckefkolaa.V
open Go Go.RowKit
set_option linter.unusedVariables false
set_option linter.unusedSimpArgs false
def eyC (s : Sl) (r : RS) : List Value := [.slice s.ptr s.len s.cap, .int .i64 (r.at_ : Int), .int .i64 (erN r.met)]
theorem erN_zero (m : Nat) : erN m = 0 ↔ m = 0 := by
  match m with
  | 0 => simp [erN]
  | 1 => simp [erN]
  | 2 => simp [erN]
  | 3 => simp [erN]
  | m + 4 => simp [erN]
theorem wrapu64m (n : Nat) : IntKind.u64.wrap (n : Int) = ((n % 18446744073709551616 : Nat) : Int) := by
  unfold IntKind.wrap
  simp [IntKind.bits, IntKind.signed]
theorem RS.nextB_le {r : RS} (n : Nat) : (r.nextB n).length ≤ r.b.length := by
  unfold RS.nextB
  split
  · simp
  · split
    · simp
    · rw [List.length_take, List.length_drop]; omega
theorem RS.next_p {r : RS} {n : Nat} (hm : r.met = 0) (hg : n > r.left) : r.next n = { r with met := 1 } ∧ r.nextB n = [] := by
  unfold RS.next RS.nextB
  rw [if_neg (by omega), if_pos hg, if_neg (by omega), if_pos hg]
  exact ⟨rfl, rfl⟩
theorem RS.next_q {r : RS} {n : Nat} (hm : r.met = 0) (hg : ¬ n > r.left) : r.next n = { r with at_ := r.at_ + n } ∧ r.nextB n = (r.b.drop r.at_).take n := by
  unfold RS.next RS.nextB
  rw [if_neg (by omega), if_neg hg, if_neg (by omega), if_neg hg]
  exact ⟨rfl, rfl⟩
/-- What an Eye reads stays as it is, whatever else is done. -/
def Eyes (h0 : Heap) (L : List Res) (s : Sl) (b : List UInt8) : Prop := Stays h0 L fun h => Bytes h s b ∧ s.len ≤ s.cap
section
variable {h0 h : Heap} {L : List Res} {p : Nat} {r : RS} {s : Sl}
theorem F_ref1_Eye_Left.is {Q : Int → Heap → Prop} (o : r.Ok) (hs : s.len = r.b.length) (O : Sat h0 h (own p (eyC s r) :: L)) (k : Q (r.left : Nat) h) : F_ref1_Eye_Left (some (pt p 0)) h Q := by
  rw [F_ref1_Eye_Left.eq_1, F_ref1_Eye_Left_of.eq_1]
  simp only [nn_some, pt_add, Nat.zero_add, Nat.add_zero, Nat.reduceAdd, Nat.reduceMul, Int.toNat_zero, Int.toNat_one, Nat.zero_mul, Nat.one_mul]
  unfold eyC at O
  refine O.ld 0 rfl (ldL_c (ldL_n ?_))
  refine O.ld 0 rfl (ldL_c (ldL_n ?_))
  rw [hs]
  have h1 := o.le; have h2 := o.len
  rw [wrap64 (by omega) (by omega)]
  unfold RS.left at k
  rw [show ((r.b.length : Int) - (r.at_ : Int)) = ((r.b.length - r.at_ : Nat) : Int) by omega]
  exact k
theorem F_ref1_Eye_Raw.is {n : Int} {Q : Sl → Heap → Prop} (o : r.Ok) (E : Eyes h0 L s r.b) (hn : n ≤ (9223372036854775807 : Int)) (O : Sat h0 h (own p (eyC s r) :: L)) (k : ∀ t h', Sat h0 h' (buf 1 u8 t (r.rawP n).2 :: own p (eyC s (r.rawP n).1) :: L) → Q t h') : F_ref1_Eye_Raw (some (pt p 0)) n h Q := by
  rw [F_ref1_Eye_Raw.eq_1, F_ref1_Eye_Raw_of.eq_1]
  simp only [nn_some, pt_add, Nat.zero_add, Nat.add_zero, Nat.reduceAdd, Nat.reduceMul, Int.toNat_zero, Int.toNat_one, Nat.zero_mul, Nat.one_mul]
  have hs := (E h O.drop).1.len
  have fin : ∀ {t : Sl} {h : Heap} {r' : RS} {xs : List UInt8}, Sat h0 h (buf 1 u8 t xs :: own p (eyC s r') :: L) → r.rawP n = (r', xs) → Q t h := by
    intro t h r' xs O e
    rw [e] at k
    exact k t h O
  have O1 := O
  unfold eyC at O
  refine O.ld 0 rfl (ldL_c (ldL_n ?_))
  refine brr_ne (fun hm => ?_) (fun hm => ?_)
  · have hm : r.met ≠ 0 := fun e => hm ((erN_zero _).2 e)
    refine fin O1.nil_buf ?_
    unfold RS.rawP RS.next RS.nextB
    rw [if_pos hm, if_pos hm, if_neg hm]
    split <;> rfl
  have hm : r.met = 0 := (erN_zero _).1 hm
  refine brr_p (fun hneg => ?_) (fun hneg => ?_)
  · refine O.st 0 rfl (by simp) rfl fun h O => ?_
    dsimp only [V.put, List.set] at O
    refine fin (r' := { r with met := 4 }) O.nil_buf ?_
    unfold RS.rawP
    rw [if_pos hneg, if_pos hm]
  obtain ⟨n, rfl⟩ := Int.eq_ofNat_of_zero_le (by omega : 0 ≤ n)
  have e : r.rawP (n : Int) = (r.next n, r.nextB n) := by unfold RS.rawP; rw [if_neg hneg]; rfl
  refine F_ref1_Eye_Left.is o hs O1 ?_
  refine brr_p (fun hg => ?_) (fun hg => ?_)
  · rw [(RS.next_p hm (by omega)).1, (RS.next_p hm (by omega)).2] at e
    refine O.st 0 rfl (by simp) rfl fun h O => ?_
    dsimp only [V.put, List.set] at O
    exact fin (r' := { r with met := 1 }) O.nil_buf e
  have hg : ¬ n > r.left := by omega
  rw [(RS.next_q hm hg).1, (RS.next_q hm hg).2] at e
  unfold RS.left at hg
  have h1 := o.le; have h2 := o.len
  have hc := (E h O1.drop).2
  refine O.ld 0 rfl (ldL_c (k := .sl) (x := s) (ldL_n ?_))
  refine O.ld 0 rfl (ldL_c (ldL_n ?_))
  refine O.ld 0 rfl (ldL_c (ldL_n ?_))
  rw [wrap64 (by omega) (by omega)]
  refine ⟨by omega, by omega, by omega, ?_⟩
  have V2 := (E h O1.drop).1.slice r.at_ (r.at_ + n) (s.cap - r.at_) (by omega) (by omega) hc
  rw [show r.at_ + n - r.at_ = n by omega] at V2
  rw [show ((r.at_ : Int) + n).toNat - (r.at_ : Int).toNat = n by omega, show (r.at_ : Int).toNat = r.at_ by omega]
  refine F_ref0_Copy.is O V2 (by rw [List.length_take, List.length_drop]; omega) fun t h O _ _ => ?_
  refine O.ld 1 rfl (ldL_c (ldL_n ?_))
  have O := O.swap
  refine O.st 0 rfl (by simp) rfl fun h O => ?_
  dsimp only [V.put, List.set] at O
  rw [wrap64 (by omega) (by omega)] at O
  refine fin (r' := { r with at_ := r.at_ + n }) ?_ e
  unfold eyC
  rw [show (((r.at_ + n : Nat)) : Int) = (r.at_ : Int) + n by omega]
  exact O.swap
theorem look_at {b : List UInt8} {a i : Nat} (hi : i < 10) : ((b.drop a).take 10)[i]? = b[a + i]? := by
  rw [List.getElem?_take, if_pos hi, List.getElem?_drop]
theorem F_ref1_Eye_last.is {Q : Int → Heap → Prop} (o : r.Ok) (E : Eyes h0 L s r.b) (O : Sat h0 h (own p (eyC s r) :: L)) (k1 : vlast r.look = none → Q (-1) h) (k2 : ∀ k, vlast r.look = some k → Q ((r.at_ + k : Nat) : Int) h) : F_ref1_Eye_last (some (pt p 0)) h Q := by
  rw [F_ref1_Eye_last.eq_1, F_ref1_Eye_last_of.eq_1]
  have h1 := o.le; have h2 := o.len
  have hs := (E h O.drop).1.len
  have hlen := r.look_len
  have hleft : r.left = r.b.length - r.at_ := rfl
  unfold eyC at O
  refine jn0 (fun h' => h' = h ∧ vlast r.look = none) (fun h' ⟨e1, e2⟩ => e1 ▸ k1 e2) fun j hj => ?_
  rw [F_ref1_Eye_last.l1.eq_1]
  simp only [nn_some, pt_add, Nat.zero_add, Nat.add_zero, Nat.reduceAdd, Nat.reduceMul, Int.toNat_zero, Int.toNat_one, Nat.zero_mul, Nat.one_mul]
  refine wl1 (k := .int .i64) (fun (m : Nat) (i : Int) (h' : Heap) => 0 ≤ i ∧ i + m = r.look.length ∧ h' = h ∧ vlast r.look = (vlast (r.look.drop i.toNat)).map (· + i.toNat)) ?_ (m := r.look.length) ⟨by omega, by omega, rfl, by simp⟩
  rintro m (i : Int) h next hn ⟨hi0, him, rfl, hv⟩
  obtain ⟨i, rfl⟩ := Int.eq_ofNat_of_zero_le hi0
  simp only [Int.toNat_natCast] at *
  refine jn1 (fun (b : Bool) h' => b = decide (i < r.look.length) ∧ h' = h) ?_ ?_
  case refine_2 =>
    intro j2 hj2
    refine brr_p (fun h10 => ?_) (fun h10 => ?_)
    · refine O.ld 0 rfl (ldL_c (ldL_n ?_))
      refine O.ld 0 rfl (ldL_c (ldL_n ?_))
      refine hj2 _ _ ⟨?_, rfl⟩
      rw [wrap64 (by omega) (by omega)]
      apply decide_eq_decide.2
      show (r.at_ : Int) + i < ((s.len : Nat) : Int) ↔ _
      have : (i : Int) < 10 := h10
      omega
    · refine hj2 _ _ ⟨?_, rfl⟩
      have : ¬ (i : Int) < 10 := h10
      rw [decide_eq_false]
      omega
  rintro (b : Bool) h ⟨rfl, rfl⟩
  refine brr_p (fun hlt => ?_) (fun hlt => ?_)
  · refine O.ld 0 rfl (ldL_c (k := .sl) (x := s) (ldL_n ?_))
    refine O.ld 0 rfl (ldL_c (ldL_n ?_))
    rw [wrap64 (by omega) (by omega)]
    have hc : r.look[i]? = r.b[r.at_ + i]? := look_at (by omega)
    refine Bytes.at (E h O.drop).1 (by omega) (by omega) fun c hx => ?_
    rw [show ((r.at_ : Int) + i).toNat = r.at_ + i by omega, ← hc] at hx
    have hst := vlast_step hx
    generalize hcn : (c.toNat : Int) = cn
    refine brr_p (fun h128 => ?_) (fun h128 => ?_)
    · refine O.ld 0 rfl (ldL_c (ldL_n ?_))
      rw [if_pos (by omega)] at hst
      rw [wrap64 (by omega) (by omega), show ((r.at_ : Int) + i) = ((r.at_ + i : Nat) : Int) by omega]
      refine k2 i ?_
      rw [hv, hst]; simp
    · rw [if_neg (by omega)] at hst
      rw [wrap64 (by omega) (by omega)]
      refine hn (m - 1) _ _ (by omega) ⟨by omega, by omega, rfl, ?_⟩
      rw [hv, hst, show ((i : Int) + 1).toNat = i + 1 by omega]
      cases vlast (r.look.drop (i + 1)) with
      | none => rfl
      | some y => simp; omega
  · refine hj _ ⟨rfl, ?_⟩
    rw [vlast_end (by omega)] at hv
    exact hv
theorem F_ref1_Eye_Var.is {most : Nat} {Q : Int → Heap → Prop} (o : r.Ok) (E : Eyes h0 L s r.b) (O : Sat h0 h (own p (eyC s r) :: L)) (k : ∀ h', Sat h0 h' (own p (eyC s (r.varP most).1) :: L) → Q (((r.varP most).2 : Nat) : Int) h') : F_ref1_Eye_Var (some (pt p 0)) most h Q := by
  rw [F_ref1_Eye_Var.eq_1, F_ref1_Eye_Var_of.eq_1]
  simp only [nn_some, pt_add, Nat.zero_add, Nat.add_zero, Nat.reduceAdd, Nat.reduceMul, Int.toNat_zero, Int.toNat_one, Nat.zero_mul, Nat.one_mul]
  have h1 := o.le; have h2 := o.len
  have hs := (E h O.drop).1.len
  have hcap := (E h O.drop).2
  have hlen := r.look_len
  have hleft : r.left = r.b.length - r.at_ := rfl
  have O1 := O
  unfold eyC at O
  refine O.ld 0 rfl (ldL_c (ldL_n ?_))
  refine brr_ne (fun hm => ?_) (fun hm => ?_)
  · have hm : r.met ≠ 0 := fun e => hm ((erN_zero _).2 e)
    have e : r.varP most = (r, 0) := by unfold RS.varP; rw [if_pos hm]
    rw [e] at k
    exact k h O1
  have hm : r.met = 0 := (erN_zero _).1 hm
  refine F_ref1_Eye_last.is o E O1 (fun hv => ?_) (fun kk hv => ?_)
  · rw [RS.varP_none hm hv] at k
    refine brr_tt (by simp) ?_
    refine O.st 0 rfl (by simp) rfl fun h O => ?_
    dsimp only [V.put, List.set] at O
    refine F_ref1_Eye_Left.is (r := { r with met := 2 }) ⟨o.le, o.len, by show 2 ≤ 4; decide⟩ hs O ?_
    refine jn0 (fun h' => Sat h0 h' (own p (eyC s { r with met := if r.look.length < 10 then 1 else 2 }) :: L)) (fun h O => k h O) fun j hj => ?_
    have el : RS.left { r with met := 2 } = r.left := rfl
    rw [el]
    refine brr_p (fun hlt => ?_) (fun hlt => ?_)
    · rw [if_pos (by omega)] at hj
      refine O.st 0 rfl (by simp) rfl fun h O => ?_
      dsimp only [V.put, List.set] at O
      exact hj _ O
    · rw [if_neg (by omega)] at hj
      exact hj _ O
  obtain ⟨c0, hc0, hc1, _⟩ := vlast_some hv
  have hkl := (List.getElem?_eq_some_iff.1 hc0).1
  have vS := RS.varP_some (most := most) hm hv
  have hform := form_iff hv (by omega)
  have htk : (r.look.take (kk + 1)).length = kk + 1 := by rw [List.length_take]; omega
  refine brr_ff (decide_eq_false (by omega)) ?_
  refine jn1 (fun (x : Int) h' => x = ((vnum (r.look.take (kk + 1)) % 18446744073709551616 : Nat) : Int) ∧ h' = h) ?_ ?_
  case refine_2 =>
    intro j hj
    rw [F_ref1_Eye_Var.l1.eq_1]
    simp only [nn_some, pt_add, Nat.zero_add, Nat.add_zero, Nat.reduceAdd, Nat.reduceMul, Int.toNat_zero, Int.toNat_one, Nat.zero_mul, Nat.one_mul]
    refine wl2 (k := .int .u64) (l := .int .i64) (fun (m : Nat) (x i : Int) (h' : Heap) => i + 1 = r.at_ + m ∧ m ≤ kk + 1 ∧ h' = h ∧ x = ((vnum ((r.look.take (kk + 1)).drop m) % 18446744073709551616 : Nat) : Int)) ?_ (m := kk + 1) ⟨by omega, by omega, rfl, by rw [List.drop_eq_nil_of_le (by omega)]; rfl⟩
    rintro m (x : Int) (i : Int) h next hn ⟨him, hmk, rfl, rfl⟩
    refine O.ld 0 rfl (ldL_c (ldL_n ?_))
    refine brr_p (fun hge => ?_) (fun hge => ?_)
    · have hge : i ≥ (r.at_ : Int) := hge
      refine O.ld 0 rfl (ldL_c (k := .sl) (x := s) (ldL_n ?_))
      refine Bytes.at (E h O1.drop).1 (by omega) (by omega) fun c hx => ?_
      have hx2 : (r.look.take (kk + 1))[m - 1]? = some c := by
        rw [List.getElem?_take, if_pos (by omega), show r.look[m - 1]? = r.b[r.at_ + (m - 1)]? from look_at (by omega), show r.at_ + (m - 1) = i.toNat by omega]
        exact hx
      have hd : (r.look.take (kk + 1)).drop (m - 1) = c :: (r.look.take (kk + 1)).drop m := by
        obtain ⟨hl, e⟩ := List.getElem?_eq_some_iff.1 hx2
        rw [List.drop_eq_getElem_cons hl, e, show m - 1 + 1 = m by omega]
      refine ⟨by decide, ?_⟩
      have e3 : ((c.toNat : Int)).tmod 128 = ((c.toNat % 128 : Nat) : Int) := by rw [Int.tmod_eq_emod_of_nonneg (by omega)]; omega
      have e4 : ∀ v : Nat, ((v % 18446744073709551616 : Nat) : Int) * 128 = ((v % 18446744073709551616 * 128 : Nat) : Int) := fun v => by omega
      rw [e3, e4, wrapu64m, wrapu64m, ← Int.natCast_add, wrapu64m, wrap64 (by omega) (by omega)]
      refine hn (m - 1) _ _ _ (by omega) ⟨by omega, by omega, rfl, ?_⟩
      rw [hd]
      show _ = ((((c.toNat % 128 + 128 * vnum ((r.look.take (kk + 1)).drop m)) % 18446744073709551616 : Nat)) : Int)
      omega
    · refine hj _ _ ⟨?_, rfl⟩
      have : m = 0 := by
        have hge : ¬ i ≥ (r.at_ : Int) := hge
        omega
      subst this
      rfl
  rintro (x : Int) h ⟨rfl, rfl⟩
  refine O.ld 0 rfl (ldL_c (k := .sl) (x := s) (ldL_n ?_))
  refine O.ld 0 rfl (ldL_c (ldL_n ?_))
  rw [wrap64 (by omega) (by omega)]
  refine ⟨by omega, by omega, by omega, ?_⟩
  refine F_ref1_Var.is O (Nat.mod_lt _ (by decide)) fun t h O => ?_
  refine ⟨O.cells 1 rfl 0 1, O.cells 1 rfl 1 1, ?_⟩
  have V2 := (E h O.drop.drop).1.slice r.at_ (r.at_ + (kk + 1)) (s.cap - r.at_) (by omega) (by omega) hcap
  rw [show r.at_ + (kk + 1) - r.at_ = kk + 1 by omega] at V2
  have e5 : (r.b.drop r.at_).take (kk + 1) = r.look.take (kk + 1) := by
    show _ = ((r.b.drop r.at_).take 10).take (kk + 1)
    rw [List.take_take, Nat.min_eq_left (by omega)]
  rw [e5] at V2
  rw [show (((r.at_ + kk : Nat) : Int) + 1).toNat - (r.at_ : Int).toNat = kk + 1 by omega, show (r.at_ : Int).toNat = r.at_ by omega]
  have hvb := (varB_le (n := vnum (r.look.take (kk + 1)) % 18446744073709551616) (Nat.mod_lt _ (by decide))).1
  refine F_ref0_Eq.is (O.view 0 u8_len (by simp) rfl).1 V2 (by omega) (by omega) ?_
  rw [hform, Bool.not_not]
  have O := O.drop
  refine brr_of (fun hb => ?_) (fun hb => ?_)
  · rw [if_pos hb] at vS
    refine O.st 0 rfl (by simp) rfl fun h O => ?_
    dsimp only [V.put, List.set] at O
    rw [vS] at k
    exact k h O
  have e6 : vnum (r.look.take (kk + 1)) % 18446744073709551616 = vnum (r.look.take (kk + 1)) := by
    rw [hb] at hform
    have := of_decide_eq_true hform
    have e7 := vnum_varB (vnum (r.look.take (kk + 1)) % 18446744073709551616)
    rw [this] at e7
    exact e7.symm
  rw [hb] at vS
  simp only [Bool.false_eq_true, if_false] at vS
  rw [e6]
  refine brr_p (fun hg => ?_) (fun hg => ?_)
  · rw [if_pos (by omega)] at vS
    refine O.st 0 rfl (by simp) rfl fun h O => ?_
    dsimp only [V.put, List.set] at O
    rw [vS] at k
    exact k h O
  · rw [if_neg (by omega)] at vS
    refine O.st 0 rfl (by simp) rfl fun h O => ?_
    dsimp only [V.put, List.set] at O
    rw [vS] at k
    refine k h ?_
    unfold eyC
    rw [show ((r.at_ + (kk + 1) : Nat) : Int) = ((r.at_ + kk : Nat) : Int) + 1 by omega]
    exact O
end
end Go.Proofs.Ytdjhjpckefkolaa.V
/- One call of a Reader, beside the document's. -/
namespace Go.Proofs.Ytdjhjpckefkolaa.V
open Go Go.RowKit
set_option linter.unusedVariables false
set_option linter.unusedSimpArgs false
theorem Eyes.drop {h0 : Heap} {L : List Res} {s : Sl} {b : List UInt8} {A : Res} (E : Eyes h0 L s b) : Eyes h0 (A :: L) s b := fun h O => E h O.drop
def RS.stepP (r : RS) (op : COp) : RS :=
  if op.kind = 1 then r.next 1 else if op.kind = 2 then r.next 4 else if op.kind = 3 then r.next 8 else if op.kind = 4 then (r.varP op.n).1
  else if op.kind = 5 then (r.bytesP op.m).1 else if op.kind = 6 then (r.rawP op.m).1 else r
theorem RS.Ok.stepP {r : RS} (o : r.Ok) (op : COp) : (r.stepP op).Ok := by
  unfold RS.stepP
  split
  · exact o.next _
  split
  · exact o.next _
  split
  · exact o.next _
  split
  · exact o.varP _
  split
  · exact o.bytesP _
  split
  · exact o.rawP _
  · exact o
theorem RS.next_b {r : RS} {n : Nat} : (r.next n).b = r.b := by
  unfold RS.next
  split
  · rfl
  · split <;> rfl
theorem RS.bytesP_b {r : RS} {n : Int} : (r.bytesP n).1.b = r.b := by
  unfold RS.bytesP
  split
  · exact RS.varP_b
  · show (RS.next _ _).b = _
    rw [RS.next_b, RS.varP_b]
theorem RS.rawP_b {r : RS} {n : Int} : (r.rawP n).1.b = r.b := by
  unfold RS.rawP
  split
  · show (if _ then _ else _ : RS).b = _
    split <;> rfl
  · exact RS.next_b
theorem RS.stepP_b {r : RS} {op : COp} : (r.stepP op).b = r.b := by
  unfold RS.stepP
  split
  · exact RS.next_b
  split
  · exact RS.next_b
  split
  · exact RS.next_b
  split
  · exact RS.varP_b
  split
  · exact RS.bytesP_b
  split
  · exact RS.rawP_b
  · rfl
theorem RS.bytesP_le {r : RS} {n : Int} : (r.bytesP n).2.length ≤ r.b.length := by
  unfold RS.bytesP
  split
  · simp
  · have := RS.nextB_le (r := (r.varP (max 0 n).toNat).1) (r.varP (max 0 n).toNat).2
    rw [RS.varP_b] at this
    exact this
theorem RS.rawP_le {r : RS} {n : Int} : (r.rawP n).2.length ≤ r.b.length := by
  unfold RS.rawP
  split
  · simp
  · exact RS.nextB_le _
section
variable {h0 h : Heap} {L : List Res} {p q : Nat} {r : RS} {s : Sl}
theorem F_ref1_Eye_Text.is {most : Int} {Q : Sl → Heap → Prop} (o : r.Ok) (E : Eyes h0 L s r.b) (hmo : most ≤ (9223372036854775807 : Int)) (O : Sat h0 h (own p (eyC s r) :: L)) (k : ∀ t h', Sat h0 h' (buf 1 u8 t (r.bytesP most).2 :: own p (eyC s (r.bytesP most).1) :: L) → Q t h') : F_ref1_Eye_Text (some (pt p 0)) most h Q := by
  rw [F_ref1_Eye_Text.eq_1, F_ref1_Eye_Text_of.eq_1]
  simp only [nn_some, pt_add, Nat.zero_add, Nat.add_zero, Nat.reduceAdd, Nat.reduceMul, Int.toNat_zero, Int.toNat_one, Nat.zero_mul, Nat.one_mul]
  have e : r.bytesP most = _ := RS.bytesP.eq_1 r most
  refine jn1 (fun (x : Int) h' => x = (((max 0 most).toNat : Nat) : Int) ∧ h' = h) ?_ ?_
  case refine_2 =>
    intro j hj
    refine brr_p (fun hlt => ?_) (fun hlt => ?_)
    · exact hj _ _ ⟨by omega, rfl⟩
    · exact hj _ _ ⟨by omega, rfl⟩
  rintro (x : Int) h ⟨rfl, rfl⟩
  have hmx : (max 0 most).toNat ≤ 9223372036854775807 := by omega
  generalize (max 0 most).toNat = mo at *
  have O1 := O
  unfold eyC at O1
  refine O1.ld 0 rfl (ldL_c (ldL_n ?_))
  rw [wrapu64 (by omega) (by omega)]
  refine F_ref1_Eye_Var.is o E O fun h O => ?_
  have o1 := o.varP mo
  have hn := RS.varP_le (r := r) (most := mo)
  have hb := RS.varP_b (r := r) (most := mo)
  have hmet := RS.varP_met (r := r) (most := mo)
  generalize (r.varP mo).2 = n at *
  generalize (r.varP mo).1 = r1 at *
  have E1 : Eyes h0 L s r1.b := by rw [hb]; exact E
  rw [wrap64 (by omega) (by omega)]
  refine F_ref1_Eye_Raw.is (n := n) o1 E1 (by omega) O fun t h O => ?_
  have er : r1.rawP (n : Int) = (r1.next n, r1.nextB n) := by unfold RS.rawP; rw [if_neg (by omega)]; rfl
  rw [er] at O
  dsimp only at O
  have O2 := O
  unfold eyC at O2
  refine O2.ld 1 rfl (ldL_c (ldL_n ?_))
  refine brr_ne (fun hm => ?_) (fun hm => ?_)
  · have hm : (r1.next n).met ≠ 0 := fun e => hm ((erN_zero _).2 e)
    have O := O2.drop
    refine O.st 0 rfl (by simp) rfl fun h O => ?_
    dsimp only [V.put, List.set] at O
    have eb : r.bytesP most = ({ r1.next n with at_ := r.at_ }, []) := by
      rw [e]
      by_cases h1 : r1.met = 0
      · by_cases h2 : n > r1.left
        · rw [if_pos ⟨h1, h2⟩, (RS.next_p h1 h2).1]
        · rw [(RS.next_q h1 h2).1] at hm
          exact absurd h1 hm
      · rw [if_neg (fun x => h1 x.1)]
        unfold RS.next RS.nextB
        rw [if_pos h1, if_pos h1, ← (hmet h1).2]
    rw [eb] at k
    exact k _ _ (O.nil_buf (sz := 1) (enc := u8))
  · have hm : (r1.next n).met = 0 := (erN_zero _).1 hm
    have eb : r.bytesP most = (r1.next n, r1.nextB n) := by
      rw [e]
      by_cases h1 : r1.met = 0
      · by_cases h2 : n > r1.left
        · rw [(RS.next_p h1 h2).1] at hm
          cases hm
        · rw [if_neg (fun x => h2 x.2)]
      · rw [if_neg (fun x => h1 x.1)]
    rw [eb] at k
    exact k _ _ O
end
end Go.Proofs.Ytdjhjpckefkolaa.V
namespace Go.Proofs.Ytdjhjpckefkolaa.V
open Go Go.RowKit
set_option linter.unusedVariables false
set_option maxRecDepth 100000
def F_ref1_fixed.l1 (s3 : Sl) (j5 : Heap → Prop) : Int → Int → Heap → Prop :=
  wl [(0, .one (.int .u64)), (6, .one (.int .i64))] (fun (next6 : Int → Int → Heap → Prop) (n7 i8 : Int) (h9 : Heap) =>
  brr (decide (i8 ≥ 0))
  ((256 : Int) ≠ 0 ∧
  ixS 1 s3 i8 fun (a10 : Addr) =>
  st a10 [.int .u8 (IntKind.u8.wrap (n7.tmod 256))] h9 fun (h11 : Heap) =>
  (256 : Int) ≠ 0 ∧
  next6 (IntKind.u64.wrap (n7.tdiv 256)) (IntKind.i64.wrap (i8 - 1)) h11)
  (j5 h9))
def F_ref1_fixed_of  (n1 size2 : Int) (h : Heap) (Q : Sl → Heap → Prop) : Prop :=
  mk 5 1 1 (.int .u8 0) size2 size2 h fun (s3 : Sl) (h4 : Heap) =>
  jn [] (fun  (h12 : Heap) =>
  Q s3 h12) (fun (j5 : Heap → Prop) =>
  F_ref1_fixed.l1 s3 j5 n1 (IntKind.i64.wrap (size2 - 1)) h4)
def F_ref1_fixed (n1 size2 : Int) (h : Heap) (Q : Sl → Heap → Prop) : Prop := F_ref1_fixed_of  n1 size2 h Q
def plan45 : Plan := .s (.r [0, 1]) (.s (.r [0, 1, 5]) (.s (.s (.r [0, 5, 6]) (.bj [] [5] (.l [(0, .one (.int .u64)), (6, .one (.int .i64))] [5] (.s (.s (.r [0, 5, 6, 12]) (.c .z .z)) (.s (.b (.s (.r [0, 5, 6]) (.r [0, 5, 6]))) (.r [0, 5, 6])))))) (.s (.r [4]) .z)))
theorem F_ref1_fixed.eq  (n1 size2 : Int) (h : Heap) (K : Value → Heap → Prop) : F_ref1_fixed_of  n1 size2 h (fun (r0 : Sl) (h : Heap) => K (.slice r0.ptr r0.len r0.cap) h) =
    den Try.prog noFns Try.f45.ntmps plan45 (bodyOf Try.f45) (args0 0 [(.int .u64 n1 : Value), (.int .i64 size2 : Value)]) h ⟨fun env h => dRes Try.prog Try.f45.results.toList env h K, fun _ _ _ => False, fun env h => dRes Try.prog Try.f45.results.toList env h K⟩ := by kernel_rfl
def E_ref1_fixed_of (f : Int → Int → Heap → (Sl → Heap → Prop) → Prop) : List Value → Heap → (Value → Heap → Prop) → Prop
  | [v0, v1], h, K => dec1 (.int .u64) v0 fun (n1 : Int) =>
  dec1 (.int .i64) v1 fun (size2 : Int) =>
  f n1 size2 h (fun (r0 : Sl) (h : Heap) => K (.slice r0.ptr r0.len r0.cap) h)
  | _, _, _ => False
abbrev E_ref1_fixed := E_ref1_fixed_of F_ref1_fixed
theorem E_ref1_fixed.right : IsRight Try.prog 45 E_ref1_fixed := by
  refine isRight fun vs K w hh => ?_
  match vs, hh with
  | [v0, v1], hh =>
    unfold E_ref1_fixed E_ref1_fixed_of at hh
    replace hh := dec1_sound hh; obtain ⟨n1, rfl, hh⟩ := hh
    replace hh := dec1_sound hh; obtain ⟨size2, rfl, hh⟩ := hh
    unfold F_ref1_fixed at hh
    exact calls_den noFns_right plan45 _ w K Try.func45 (by kernel_rfl) (by kernel_rfl) (Eq.mp (F_ref1_fixed.eq  n1 size2 w.heap K) hh)
theorem ok45 : okFn Try.prog 45 = true := by kernel_rfl
end Go.Proofs.Ytdjhjpckefkolaa.V
namespace Go.Proofs.Ytdjhjpckefkolaa.V
open Go Go.RowKit
set_option linter.unusedVariables false
set_option maxRecDepth 100000
def F_ref1_U8_of (f45_ : Int → Int → Heap → (Sl → Heap → Prop) → Prop) (n1 : Int) (h : Heap) (Q : Sl → Heap → Prop) : Prop :=
  f45_ (IntKind.u64.wrap n1) 1 h fun (r2 : Sl) (h3 : Heap) =>
  Q r2 h3
def F_ref1_U8 (n1 : Int) (h : Heap) (Q : Sl → Heap → Prop) : Prop := F_ref1_U8_of F_ref1_fixed n1 h Q
def plan21 : Plan := .s (.r [0]) (.s (.r [2]) .z)
theorem F_ref1_U8.eq (f45_ : Int → Int → Heap → (Sl → Heap → Prop) → Prop) (n1 : Int) (h : Heap) (K : Value → Heap → Prop) : F_ref1_U8_of f45_ n1 h (fun (r0 : Sl) (h : Heap) => K (.slice r0.ptr r0.len r0.cap) h) =
    den Try.prog (fn1 45 (E_ref1_fixed_of f45_) noFns) Try.f21.ntmps plan21 (bodyOf Try.f21) (args0 0 [(.int .u8 n1 : Value)]) h ⟨fun env h => dRes Try.prog Try.f21.results.toList env h K, fun _ _ _ => False, fun env h => dRes Try.prog Try.f21.results.toList env h K⟩ := by kernel_rfl
def E_ref1_U8_of (f : Int → Heap → (Sl → Heap → Prop) → Prop) : List Value → Heap → (Value → Heap → Prop) → Prop
  | [v0], h, K => dec1 (.int .u8) v0 fun (n1 : Int) =>
  f n1 h (fun (r0 : Sl) (h : Heap) => K (.slice r0.ptr r0.len r0.cap) h)
  | _, _, _ => False
abbrev E_ref1_U8 := E_ref1_U8_of F_ref1_U8
theorem E_ref1_U8.right : IsRight Try.prog 21 E_ref1_U8 := by
  refine isRight fun vs K w hh => ?_
  match vs, hh with
  | [v0], hh =>
    unfold E_ref1_U8 E_ref1_U8_of at hh
    replace hh := dec1_sound hh; obtain ⟨n1, rfl, hh⟩ := hh
    unfold F_ref1_U8 at hh
    exact calls_den (fn1_right ok45 E_ref1_fixed.right noFns_right) plan21 _ w K Try.func21 (by kernel_rfl) (by kernel_rfl) (Eq.mp (F_ref1_U8.eq F_ref1_fixed n1 w.heap K) hh)
theorem ok21 : okFn Try.prog 21 = true := by kernel_rfl
end Go.Proofs.Ytdjhjpckefkolaa.V
namespace Go.Proofs.Ytdjhjpckefkolaa.V
open Go Go.RowKit
set_option linter.unusedVariables false
set_option maxRecDepth 100000
def F_ref1_U32_of (f45_ : Int → Int → Heap → (Sl → Heap → Prop) → Prop) (n1 : Int) (h : Heap) (Q : Sl → Heap → Prop) : Prop :=
  f45_ (IntKind.u64.wrap n1) 4 h fun (r2 : Sl) (h3 : Heap) =>
  Q r2 h3
def F_ref1_U32 (n1 : Int) (h : Heap) (Q : Sl → Heap → Prop) : Prop := F_ref1_U32_of F_ref1_fixed n1 h Q
def plan23 : Plan := .s (.r [0]) (.s (.r [2]) .z)
theorem F_ref1_U32.eq (f45_ : Int → Int → Heap → (Sl → Heap → Prop) → Prop) (n1 : Int) (h : Heap) (K : Value → Heap → Prop) : F_ref1_U32_of f45_ n1 h (fun (r0 : Sl) (h : Heap) => K (.slice r0.ptr r0.len r0.cap) h) =
    den Try.prog (fn1 45 (E_ref1_fixed_of f45_) noFns) Try.f23.ntmps plan23 (bodyOf Try.f23) (args0 0 [(.int .u32 n1 : Value)]) h ⟨fun env h => dRes Try.prog Try.f23.results.toList env h K, fun _ _ _ => False, fun env h => dRes Try.prog Try.f23.results.toList env h K⟩ := by kernel_rfl
def E_ref1_U32_of (f : Int → Heap → (Sl → Heap → Prop) → Prop) : List Value → Heap → (Value → Heap → Prop) → Prop
  | [v0], h, K => dec1 (.int .u32) v0 fun (n1 : Int) =>
  f n1 h (fun (r0 : Sl) (h : Heap) => K (.slice r0.ptr r0.len r0.cap) h)
  | _, _, _ => False
abbrev E_ref1_U32 := E_ref1_U32_of F_ref1_U32
theorem E_ref1_U32.right : IsRight Try.prog 23 E_ref1_U32 := by
  refine isRight fun vs K w hh => ?_
  match vs, hh with
  | [v0], hh =>
    unfold E_ref1_U32 E_ref1_U32_of at hh
    replace hh := dec1_sound hh; obtain ⟨n1, rfl, hh⟩ := hh
    unfold F_ref1_U32 at hh
    exact calls_den (fn1_right ok45 E_ref1_fixed.right noFns_right) plan23 _ w K Try.func23 (by kernel_rfl) (by kernel_rfl) (Eq.mp (F_ref1_U32.eq F_ref1_fixed n1 w.heap K) hh)
theorem ok23 : okFn Try.prog 23 = true := by kernel_rfl
end Go.Proofs.Ytdjhjpckefkolaa.V
namespace Go.Proofs.Ytdjhjpckefkolaa.V
open Go Go.RowKit
set_option linter.unusedVariables false
set_option maxRecDepth 100000
def F_ref1_U64_of (f45_ : Int → Int → Heap → (Sl → Heap → Prop) → Prop) (n1 : Int) (h : Heap) (Q : Sl → Heap → Prop) : Prop :=
  f45_ n1 8 h fun (r2 : Sl) (h3 : Heap) =>
  Q r2 h3
def F_ref1_U64 (n1 : Int) (h : Heap) (Q : Sl → Heap → Prop) : Prop := F_ref1_U64_of F_ref1_fixed n1 h Q
def plan25 : Plan := .s (.r [0]) (.s (.r [2]) .z)
theorem F_ref1_U64.eq (f45_ : Int → Int → Heap → (Sl → Heap → Prop) → Prop) (n1 : Int) (h : Heap) (K : Value → Heap → Prop) : F_ref1_U64_of f45_ n1 h (fun (r0 : Sl) (h : Heap) => K (.slice r0.ptr r0.len r0.cap) h) =
    den Try.prog (fn1 45 (E_ref1_fixed_of f45_) noFns) Try.f25.ntmps plan25 (bodyOf Try.f25) (args0 0 [(.int .u64 n1 : Value)]) h ⟨fun env h => dRes Try.prog Try.f25.results.toList env h K, fun _ _ _ => False, fun env h => dRes Try.prog Try.f25.results.toList env h K⟩ := by kernel_rfl
def E_ref1_U64_of (f : Int → Heap → (Sl → Heap → Prop) → Prop) : List Value → Heap → (Value → Heap → Prop) → Prop
  | [v0], h, K => dec1 (.int .u64) v0 fun (n1 : Int) =>
  f n1 h (fun (r0 : Sl) (h : Heap) => K (.slice r0.ptr r0.len r0.cap) h)
  | _, _, _ => False
abbrev E_ref1_U64 := E_ref1_U64_of F_ref1_U64
theorem E_ref1_U64.right : IsRight Try.prog 25 E_ref1_U64 := by
  refine isRight fun vs K w hh => ?_
  match vs, hh with
  | [v0], hh =>
    unfold E_ref1_U64 E_ref1_U64_of at hh
    replace hh := dec1_sound hh; obtain ⟨n1, rfl, hh⟩ := hh
    unfold F_ref1_U64 at hh
    exact calls_den (fn1_right ok45 E_ref1_fixed.right noFns_right) plan25 _ w K Try.func25 (by kernel_rfl) (by kernel_rfl) (Eq.mp (F_ref1_U64.eq F_ref1_fixed n1 w.heap K) hh)
theorem ok25 : okFn Try.prog 25 = true := by kernel_rfl
end Go.Proofs.Ytdjhjpckefkolaa.V
