/- The program's lease answers as the document's, whatever is called: what LeaseExact plays. -/
import Derived.Test.YtboidjampddfoaaMLeaseOps
import Derived.Test.YtboidjampddfoaaMLeaseRef
import Derived.Test.YtboidjampddfoaaV17
import Derived.Test.YtboidjampddfoaaGlaw11LeaseExact
namespace Go.Proofs.Ytboidjampddfoaa.V
open Go Go.RowKit
set_option linter.unusedVariables false
set_option linter.unusedSimpArgs false
abbrev tyScriptX : Ty := .cons (.int .i64) (.cons (.int .i64) (.cons (.int .i64) (.cons (.int .u64) (.cons (.sl 9 64 tyLOp) .nil))))
theorem F_law11_same.is {h0 h : Heap} {L : List Res} {b c : Nat} {l : LS} {Q : Bool → Heap → Prop} (o : l.Ok) (O : Sat h0 h (own b (leaseC l) :: own c (refC l) :: L)) (k : Q true h) : F_law11_same (some (pt b 0)) (some (pt c 0)) h Q := by
  rw [F_law11_same.eq_1, F_law11_same_of.eq_1]
  simp only [nn_some, pt_add, Nat.zero_add, Nat.add_zero, Nat.reduceAdd, Nat.reduceMul, Int.toNat_zero, Int.toNat_one, Nat.zero_mul, Nat.one_mul]
  have hc := cellsAre_blk (O.blk (i := 1) (by simp) rfl).2
  have h7 := hc 7 1
  have h3 := hc 3 1
  have h4 := hc 4 1
  have O2 := O
  unfold refC at O2
  refine jn1 (fun t h' => t = true ∧ h' = h) ?_ ?_
  · rintro t h ⟨rfl, rfl⟩
    exact k
  · intro j hj
    refine O2.ld 1 rfl (ldL_c (ldL_n ?_))
    refine F_lease_Lease_Seen.is O ?_
    refine ⟨h7, ?_⟩
    refine brr_tt (by simp) ?_
    refine O2.ld 1 rfl (ldL_c (ldL_n ?_))
    refine F_lease_Lease_Patience.is O ?_
    refine ⟨h3, ?_⟩
    refine brr_tt (by simp) ?_
    refine O2.ld 1 rfl (ldL_c (ldL_n ?_))
    refine F_lease_Lease_Left.is O ?_
    refine ⟨h4, ?_⟩
    refine brr_tt (by simp) ?_
    refine F_lease_Lease_Span.is o O ?_
    refine F_ref11_Lease_Span.is o O.swap ?_
    exact hj _ _ ⟨by simp, rfl⟩
abbrev LX := Nat × Nat × LS
def prR (x : LX) : Res := sep (own x.1 (leaseC x.2.2)) (own x.2.1 (refC x.2.2))
abbrev fst1 (xs : List LX) : List Nat := xs.map (·.1)
abbrev snd1 (xs : List LX) : List Nat := xs.map (·.2.1)
theorem and1 (x : Int) : IntKind.i64.wrap (BitVec.ofInt IntKind.i64.bits x &&& BitVec.ofInt IntKind.i64.bits 1).toNat = 0 ∨ IntKind.i64.wrap (BitVec.ofInt IntKind.i64.bits x &&& BitVec.ofInt IntKind.i64.bits 1).toNat = 1 := by
  have h1 : (BitVec.ofInt IntKind.i64.bits 1).toNat = 1 := by decide
  rw [BitVec.toNat_and, h1, Nat.and_one_is_mod]
  have := Nat.mod_lt (BitVec.ofInt IntKind.i64.bits x).toNat (show 0 < 2 by decide)
  rw [wrap64 (by omega) (by omega)]
  omega
theorem leaseExact_main (H : Heap) (cs : List Value) (F : Fit H 140737488351232 tyScriptX cs) : E_law11_LeaseExact [.agg cs.toArray] H (fun r h' => r = .bool true ∧ KeptH H h') := by
  obtain ⟨_, _, rfl, _, ⟨t1, rfl, t1a, t1b⟩, _, _, rfl, _, ⟨t2, rfl, t2a, t2b⟩, _, _, rfl, _, ⟨t3, rfl, t3a, t3b⟩, _, _, rfl, _, ⟨t4, rfl, t4a, t4b⟩, _, _, rfl, _, ⟨t5, rfl, t5S⟩, rfl⟩ := F
  simp only [List.cons_append, List.nil_append, List.append_nil]
  refine Eq.mpr (E_law11_LeaseExact.at F_law11_LeaseExact t1 t2 t3 t4 t5 H _) ?_
  obtain ⟨ops, Vo⟩ := t5S.lops
  rw [u64_min] at t4a; rw [u64_max] at t4b
  rw [F_law11_LeaseExact.eq_1, F_law11_LeaseExact_of.eq_1]
  refine Sat.al (Sat.nil H) fun ba h1 O => ?_
  simp only [nn_some, pt_add, Nat.zero_add, Nat.add_zero, Nat.reduceAdd, Nat.reduceMul, Int.toNat_zero, Int.toNat_one, Nat.zero_mul, Nat.one_mul]
  refine F_law11_begun.is O fun h1 O => ?_
  refine brr_ff rfl ?_
  refine O.ld 0 rfl (ldL_c (ldL_n ?_))
  refine O.ld 0 rfl (ldL_c (ldL_n ?_))
  refine O.ld 0 rfl (ldL_c (ldL_n ?_))
  refine O.ld 0 rfl (ldL_c (ldL_n ?_))
  have o1 : (LS.new t1 t2 t3 t4).Ok := LS.new_ok (by rw [← i64_max]; exact t2b) (by rw [← i64_max]; exact t3b) t4a (by omega)
  have o2 : (LS.new 0 1 4 0).Ok := LS.new_ok (by decide) (by decide) (by decide) (by decide)
  refine F_lease_New.is O t1a t1b t2b t3b fun b0 h1 O => ?_
  refine F_lease_New.is O (by decide) (by decide) (by decide) (by decide) fun b1 h1 O => ?_
  refine O.al fun bA h1 O => ?_
  refine O.st 0 rfl (by simp) rfl fun h O => ?_
  dsimp only [V.put, List.set] at O
  refine O.ld 3 rfl (ldL_c (ldL_n ?_))
  refine O.ld 3 rfl (ldL_c (ldL_n ?_))
  refine O.ld 3 rfl (ldL_c (ldL_n ?_))
  refine O.ld 3 rfl (ldL_c (ldL_n ?_))
  refine F_ref11_New.is O t2b t3b fun c0 h1 O => ?_
  refine F_ref11_New.is O (by decide) (by decide) fun c1 h1 O => ?_
  refine O.al fun bB h1 O => ?_
  refine O.st 0 rfl (by simp) rfl fun h O => ?_
  dsimp only [V.put, List.set] at O
  have O : Sat H h [own bB ([c0, c1].flatMap ptrc), own c1 (refC (LS.new 0 1 4 0)), own c0 (refC (LS.new t1 t2 t3 t4)), own bA ([b0, b1].flatMap ptrc), own b1 (leaseC (LS.new 0 1 4 0)), own b0 (leaseC (LS.new t1 t2 t3 t4)), own ba [.int .i64 t1, .int .i64 t2, .int .i64 t3, .int .u64 t4, .slice t5.ptr t5.len t5.cap]] := O
  have start : ∃ xs : List LX, xs.length = 2 ∧ (∀ x ∈ xs, x.2.2.Ok) ∧ Sat H h [many prR xs, own bA ((fst1 xs).flatMap ptrc), own bB ((snd1 xs).flatMap ptrc), own ba [.int .i64 t1, .int .i64 t2, .int .i64 t3, .int .u64 t4, .slice t5.ptr t5.len t5.cap]] := by
    refine ⟨[(b0, c0, LS.new t1 t2 t3 t4), (b1, c1, LS.new 0 1 4 0)], rfl, by intro x hx; simp at hx; rcases hx with rfl | rfl; exact o1; exact o2, ?_⟩
    replace O := O.sel [5, 2, 4, 1, 3, 0, 6] 7 rfl (Nat.le_add_left _ _)
    simp only [selT, List.map, nth, List.drop, List.cons_append, List.nil_append] at O
    have O : Sat H h (prR (b0, c0, LS.new t1 t2 t3 t4) :: _) := O.sepI
    have O := (O.none (f := prR)).swap.more
    replace O := O.sel [1, 2, 0, 3, 4, 5] 6 rfl (Nat.le_add_left _ _)
    simp only [selT, List.map, nth, List.drop, List.cons_append, List.nil_append] at O
    have O : Sat H h (prR (b1, c1, LS.new 0 1 4 0) :: _) := O.sepI
    exact O.more
  clear O
  have both : ∀ (xs : List LX) h, xs.length = 2 → (∀ x ∈ xs, x.2.2.Ok) → Sat H h [many prR xs, own bA ((fst1 xs).flatMap ptrc), own bB ((snd1 xs).flatMap ptrc), own ba [.int .i64 t1, .int .i64 t2, .int .i64 t3, .int .u64 t4, .slice t5.ptr t5.len t5.cap]] →
      ∀ (i : Int) (K : Option Addr → Option Addr → Prop), (i = 0 ∨ i = 1) → (∀ b c l L, l.Ok → Sat H h (own b (leaseC l) :: own c (refC l) :: L) → K (some (pt b 0)) (some (pt c 0))) → ixA 1 (pt bA 0) 2 i fun a => ld [.ptr] a h fun v => ixA 1 (pt bB 0) 2 i fun a' => ld [.ptr] a' h fun v' => K v v' := by
    intro xs h hl ox O i K hi k
    have hlt : i.toNat < xs.length := by omega
    obtain ⟨⟨b, c, l⟩, hx⟩ : ∃ x, xs[i.toNat]? = some x := ⟨_, List.getElem?_eq_getElem hlt⟩
    refine O.getA (k := .ptr) 1 ptrc_len rfl (by simp [hl]) (by omega) (x := b) (by simp [hx]) (fun b => some (pt b 0)) (fun _ => rfl) ?_
    refine O.getA (k := .ptr) 2 ptrc_len rfl (by simp [hl]) (by omega) (x := c) (by simp [hx]) (fun b => some (pt b 0)) (fun _ => rfl) ?_
    exact k b c l _ (ox _ (List.mem_of_getElem? hx)) (O.take i.toNat hx).sep
  obtain ⟨xs, hx2, ox, O⟩ := start
  refine jn0 (fun h' => ∃ xs : List LX, xs.length = 2 ∧ (∀ x ∈ xs, x.2.2.Ok) ∧ Sat H h' [many prR xs, own bA ((fst1 xs).flatMap ptrc), own bB ((snd1 xs).flatMap ptrc), own ba [.int .i64 t1, .int .i64 t2, .int .i64 t3, .int .u64 t4, .slice t5.ptr t5.len t5.cap]]) ?_ ?_
  · clear O ox hx2 xs
    rintro h ⟨xs, hx2, ox, O⟩
    refine jn1 (fun t h' => t = true ∧ KeptH H h') ?_ ?_
    · rintro t h ⟨rfl, k⟩
      exact ⟨rfl, k⟩
    · intro j hj
      refine both xs h hx2 ox O 0 _ (.inl rfl) fun b c l L o O2 => ?_
      refine F_law11_same.is o O2 ?_
      refine brr_tt rfl ?_
      refine both xs h hx2 ox O 1 _ (.inr rfl) fun b c l L o O2 => ?_
      refine F_law11_same.is o O2 ?_
      refine brr_tt rfl ?_
      refine F_law11_begun.is O fun h O => ?_
      exact hj _ _ ⟨rfl, O.kept⟩
  · intro j hj
    rw [F_law11_LeaseExact.l1.eq_1]
    refine wl1 (k := .int .i64) (fun (m : Nat) (i : Int) (h' : Heap) => i + m = ops.length ∧ 0 ≤ i ∧ ∃ xs : List LX, xs.length = 2 ∧ (∀ x ∈ xs, x.2.2.Ok) ∧ Sat H h' [many prR xs, own bA ((fst1 xs).flatMap ptrc), own bB ((snd1 xs).flatMap ptrc), own ba [.int .i64 t1, .int .i64 t2, .int .i64 t3, .int .u64 t4, .slice t5.ptr t5.len t5.cap]]) ?_ (m := ops.length) ⟨by omega, by omega, xs, hx2, ox, O⟩
    clear O ox hx2 xs
    intro m (i : Int) h2 next hn ⟨hi, hi0, xs, hx2, ox, O⟩
    refine jn1 (fun t h' => h' = h2 ∧ (t = true → i < ops.length ∧ i < 3000)) ?_ ?_
    · rintro t h2 ⟨rfl, ht⟩
      refine brr_of (fun ht' => ?_) (fun ht' => hj _ ⟨xs, hx2, ox, O⟩)
      obtain ⟨hlt, hlt3⟩ := ht ht'
      refine O.ld 3 rfl (ldL_c (ldL_n ?_))
      refine (Vo.kept O.kept).ix hi0 hlt fun a cs op hx hlen hR hc => ?_
      obtain ⟨rfl, hR⟩ := hR
      refine ld_are hc (ldL_c (ldL_c (ldL_c (ldL_c (ldL_c (ldL_c (ldL_c (ldL_c (ldL_c (ldL_n ?_))))))))))
      refine O.al fun bo h3 O => ?_
      refine O.st 0 rfl (by simp) rfl fun h O => ?_
      dsimp only [V.put, List.set] at O
      refine O.ld 0 rfl (ldL_c (ldL_n ?_))
      refine O.ld 0 rfl (ldL_c (ldL_n ?_))
      have hn01 := and1 op.on
      generalize IntKind.i64.wrap (BitVec.ofInt IntKind.i64.bits op.on &&& BitVec.ofInt IntKind.i64.bits 1).toNat = n at *
      have hn0 : 0 ≤ n := by omega
      have hnl : n.toNat < xs.length := by omega
      obtain ⟨⟨b, c, l⟩, hxn⟩ : ∃ x, xs[n.toNat]? = some x := ⟨_, List.getElem?_eq_getElem hnl⟩
      have o : l.Ok := ox _ (List.mem_of_getElem? hxn)
      have hb : (fst1 xs)[n.toNat]? = some b := by simp [hxn]
      have hcc : (snd1 xs)[n.toNat]? = some c := by simp [hxn]
      replace O := O.sel [1, 0, 2, 3, 4] 5 rfl (Nat.le_add_left _ _)
      simp only [selT, List.map, nth, List.drop, List.cons_append, List.nil_append] at O
      have O := (O.take n.toNat hxn).sep
      simp only at O
      refine jn0 (fun h' => ∃ b' c' l', l'.Ok ∧ Sat H h' [own b' (leaseC l'), own c' (refC l'), hole prR xs n.toNat, own bA (((fst1 xs).set n.toNat b').flatMap ptrc), own bB (((snd1 xs).set n.toNat c').flatMap ptrc), own ba [.int .i64 t1, .int .i64 t2, .int .i64 t3, .int .u64 t4, .slice t5.ptr t5.len t5.cap]]) ?_ ?_
      · clear O
        rintro h4 ⟨b', c', l', o', O⟩
        have O : Sat H h4 (prR (b', c', l') :: _) := O.sepI
        have O := O.give hnl
        have e1 : (fst1 xs).set n.toNat b' = fst1 (xs.set n.toNat (b', c', l')) := by unfold fst1; rw [List.map_set]
        have e2 : (snd1 xs).set n.toNat c' = snd1 (xs.set n.toNat (b', c', l')) := by unfold snd1; rw [List.map_set]
        rw [e1, e2] at O
        have hl2 : (xs.set n.toNat (b', c', l')).length = 2 := by simp [hx2]
        have ox2 : ∀ x ∈ xs.set n.toNat (b', c', l'), x.2.2.Ok := by
          intro x hx
          rcases List.mem_or_eq_of_mem_set hx with hx | rfl
          · exact ox x hx
          · exact o'
        refine jn1 (fun t h' => t = false ∧ h' = h4) ?_ ?_
        · rintro t h4 ⟨rfl, rfl⟩
          refine brr_ff rfl ?_
          rw [wrap64 (by omega) (by omega)]
          exact hn (m - 1) _ _ (by omega) ⟨by omega, by omega, _, hl2, ox2, O⟩
        · intro j2 hj2
          refine both _ h4 hl2 ox2 O 0 _ (.inl rfl) fun b c l L o O2 => ?_
          refine F_law11_same.is o O2 ?_
          refine brr_ff rfl ?_
          refine both _ h4 hl2 ox2 O 1 _ (.inr rfl) fun b c l L o O2 => ?_
          refine F_law11_same.is o O2 ?_
          exact hj2 _ _ ⟨rfl, rfl⟩
      · intro j2 hj2
        have fin : ∀ h' l', l'.Ok → Sat H h' [own b (leaseC l'), own c (refC l'), hole prR xs n.toNat, own bo (lopC op), own bA ((fst1 xs).flatMap ptrc), own bB ((snd1 xs).flatMap ptrc), own ba [.int .i64 t1, .int .i64 t2, .int .i64 t3, .int .u64 t4, .slice t5.ptr t5.len t5.cap]] → j2 h' := by
          intro h' l' o' O
          refine hj2 _ ⟨b, c, l', o', ?_⟩
          replace O := O.sel [0, 1, 2, 4, 5, 6] 7 rfl (Nat.le_add_left _ _)
          simp only [selT, List.map, nth, List.drop, List.cons_append, List.nil_append] at O
          rw [set_same hb, set_same hcc]
          exact O
        have O : Sat H h [own b (leaseC l), own c (refC l), hole prR xs n.toNat, own bo (lopC op), own bA ((fst1 xs).flatMap ptrc), own bB ((snd1 xs).flatMap ptrc), own ba [.int .i64 t1, .int .i64 t2, .int .i64 t3, .int .u64 t4, .slice t5.ptr t5.len t5.cap]] := O
        unfold lopC at O fin
        have pb : ∀ {L1 L2 : LS} {h' : Heap} {K : Option Addr → Prop}, Sat H h' [own b (leaseC L1), own c (refC L2), hole prR xs n.toNat, own bo (lopC op), own bA ((fst1 xs).flatMap ptrc), own bB ((snd1 xs).flatMap ptrc), own ba [.int .i64 t1, .int .i64 t2, .int .i64 t3, .int .u64 t4, .slice t5.ptr t5.len t5.cap]] → K (some (pt b 0)) → ixA 1 (pt bA 0) 2 n fun a => ld [.ptr] a h' K := fun O k =>
          O.getA (k := .ptr) 4 ptrc_len rfl (by simp [hx2]) hn0 hb (fun b => some (pt b 0)) (fun _ => rfl) k
        have pc : ∀ {L1 L2 : LS} {h' : Heap} {K : Option Addr → Prop}, Sat H h' [own b (leaseC L1), own c (refC L2), hole prR xs n.toNat, own bo (lopC op), own bA ((fst1 xs).flatMap ptrc), own bB ((snd1 xs).flatMap ptrc), own ba [.int .i64 t1, .int .i64 t2, .int .i64 t3, .int .u64 t4, .slice t5.ptr t5.len t5.cap]] → K (some (pt c 0)) → ixA 1 (pt bB 0) 2 n fun a => ld [.ptr] a h' K := fun O k =>
          O.getA (k := .ptr) 5 ptrc_len rfl (by simp [hx2]) hn0 hcc (fun b => some (pt b 0)) (fun _ => rfl) k
        refine brr_eq (fun hk => ?_) (fun hk => ?_)
        · refine pb O ?_
          refine O.ld 3 rfl (ldL_c (ldL_n ?_))
          refine O.ld 3 rfl (ldL_c (ldL_n ?_))
          refine O.ld 3 rfl (ldL_c (ldL_n ?_))
          refine F_lease_Lease_Heard.is O fun h O => ?_
          refine pc O ?_
          refine O.ld 3 rfl (ldL_c (ldL_n ?_))
          refine O.ld 3 rfl (ldL_c (ldL_n ?_))
          refine O.ld 3 rfl (ldL_c (ldL_n ?_))
          refine F_ref11_Lease_Heard.is O.swap fun h O => ?_
          exact fin _ _ (o.heard hR.1 hR.2.1) O.swap
        refine jn0 _ hj2 fun j3 hj3 => ?_
        replace fin : ∀ h' l', l'.Ok → Sat H h' [own b (leaseC l'), own c (refC l'), hole prR xs n.toNat, own bo (lopC op), own bA ((fst1 xs).flatMap ptrc), own bB ((snd1 xs).flatMap ptrc), own ba [.int .i64 t1, .int .i64 t2, .int .i64 t3, .int .u64 t4, .slice t5.ptr t5.len t5.cap]] → j3 h' := by
          intro h' l' o' O
          refine hj3 _ ⟨b, c, l', o', ?_⟩
          replace O := O.sel [0, 1, 2, 4, 5, 6] 7 rfl (Nat.le_add_left _ _)
          simp only [selT, List.map, nth, List.drop, List.cons_append, List.nil_append] at O
          rw [set_same hb, set_same hcc]
          exact O
        refine brr_eq (fun hk => ?_) (fun hk => ?_)
        · refine pb O ?_
          refine F_lease_Lease_Rest.is O fun h O => ?_
          refine pc O ?_
          refine F_ref11_Lease_Rest.is O.swap fun h O => ?_
          exact fin _ _ o.rest O.swap
        refine jn0 _ (fun _ h => hj3 _ h) fun j4 hj4 => ?_
        replace fin : ∀ h' l', l'.Ok → Sat H h' [own b (leaseC l'), own c (refC l'), hole prR xs n.toNat, own bo (lopC op), own bA ((fst1 xs).flatMap ptrc), own bB ((snd1 xs).flatMap ptrc), own ba [.int .i64 t1, .int .i64 t2, .int .i64 t3, .int .u64 t4, .slice t5.ptr t5.len t5.cap]] → j4 h' := by
          intro h' l' o' O
          refine hj4 _ ⟨b, c, l', o', ?_⟩
          replace O := O.sel [0, 1, 2, 4, 5, 6] 7 rfl (Nat.le_add_left _ _)
          simp only [selT, List.map, nth, List.drop, List.cons_append, List.nil_append] at O
          rw [set_same hb, set_same hcc]
          exact O
        refine brr_eq (fun hk => ?_) (fun hk => ?_)
        · refine pb O ?_
          refine F_lease_Lease_Begun.is O fun h O => ?_
          refine pc O ?_
          refine F_ref11_Lease_Begun.is O.swap fun h O => ?_
          exact fin _ _ o.begun O.swap
        refine jn0 _ (fun _ h => hj4 _ h) fun j5 hj5 => ?_
        replace fin : ∀ h' l', l'.Ok → Sat H h' [own b (leaseC l'), own c (refC l'), hole prR xs n.toNat, own bo (lopC op), own bA ((fst1 xs).flatMap ptrc), own bB ((snd1 xs).flatMap ptrc), own ba [.int .i64 t1, .int .i64 t2, .int .i64 t3, .int .u64 t4, .slice t5.ptr t5.len t5.cap]] → j5 h' := by
          intro h' l' o' O
          refine hj5 _ ⟨b, c, l', o', ?_⟩
          replace O := O.sel [0, 1, 2, 4, 5, 6] 7 rfl (Nat.le_add_left _ _)
          simp only [selT, List.map, nth, List.drop, List.cons_append, List.nil_append] at O
          rw [set_same hb, set_same hcc]
          exact O
        refine brr_eq (fun hk => ?_) (fun hk => ?_)
        · refine pb O ?_
          refine F_lease_Lease_Done.is O fun h O => ?_
          refine pc O ?_
          refine F_ref11_Lease_Done.is O.swap fun h O => ?_
          exact fin _ _ o.done O.swap
        refine jn0 _ (fun _ h => hj5 _ h) fun j6 hj6 => ?_
        replace fin : ∀ h' l', l'.Ok → Sat H h' [own b (leaseC l'), own c (refC l'), hole prR xs n.toNat, own bo (lopC op), own bA ((fst1 xs).flatMap ptrc), own bB ((snd1 xs).flatMap ptrc), own ba [.int .i64 t1, .int .i64 t2, .int .i64 t3, .int .u64 t4, .slice t5.ptr t5.len t5.cap]] → j6 h' := by
          intro h' l' o' O
          refine hj6 _ ⟨b, c, l', o', ?_⟩
          replace O := O.sel [0, 1, 2, 4, 5, 6] 7 rfl (Nat.le_add_left _ _)
          simp only [selT, List.map, nth, List.drop, List.cons_append, List.nil_append] at O
          rw [set_same hb, set_same hcc]
          exact O
        refine brr_eq (fun hk => ?_) (fun hk => ?_)
        · refine pb O ?_
          refine O.ld 3 rfl (ldL_c (ldL_n ?_))
          refine O.ld 3 rfl (ldL_c (ldL_n ?_))
          refine O.ld 3 rfl (ldL_c (ldL_n ?_))
          refine F_lease_Lease_Tick.is o O fun h O => ?_
          refine pc O ?_
          refine O.ld 3 rfl (ldL_c (ldL_n ?_))
          refine O.ld 3 rfl (ldL_c (ldL_n ?_))
          refine O.ld 3 rfl (ldL_c (ldL_n ?_))
          refine F_ref11_Lease_Tick.is o O.swap fun h O => ?_
          refine jn1 (fun t h' => t = false ∧ h' = h) ?_ ?_
          · rintro t h ⟨rfl, rfl⟩
            refine brr_ff rfl ?_
            exact fin _ _ o.tick O.swap
          · intro j7 hj7
            refine brr_ff (by simp) ?_
            exact hj7 _ _ ⟨by simp, rfl⟩
        refine jn0 _ (fun _ h => hj6 _ h) fun j7 hj7 => ?_
        refine brr_eq (fun hk => ?_) (fun hk => ?_)
        · obtain ⟨r1, r2, r3, r4, r5, r6, r7, r8, r9, r10⟩ := hR
          refine O.ld 3 rfl (ldL_c (ldL_n ?_))
          refine O.ld 3 rfl (ldL_c (ldL_n ?_))
          refine O.ld 3 rfl (ldL_c (ldL_n ?_))
          refine O.ld 3 rfl (ldL_c (ldL_n ?_))
          refine F_lease_New.is O r5 r6 r8 r10 fun b' h O => ?_
          replace O := O.sel [5, 0, 1, 2, 3, 4, 6, 7] 8 rfl (Nat.le_add_left _ _)
          simp only [selT, List.map, nth, List.drop, List.cons_append, List.nil_append] at O
          refine O.putA ptrc_len ptrc_one (by simp [hx2]) hn0 (by simp; omega) b' rfl fun h O => ?_
          refine O.ld 5 rfl (ldL_c (ldL_n ?_))
          refine O.ld 5 rfl (ldL_c (ldL_n ?_))
          refine O.ld 5 rfl (ldL_c (ldL_n ?_))
          refine O.ld 5 rfl (ldL_c (ldL_n ?_))
          refine F_ref11_New.is O r8 r10 fun c' h O => ?_
          replace O := O.sel [7, 0, 2, 5, 1, 8] 9 rfl (Nat.le_add_left _ _)
          simp only [selT, List.map, nth, List.drop, List.cons_append, List.nil_append] at O
          refine O.putA ptrc_len ptrc_one (by simp [hx2]) hn0 (by simp; omega) c' rfl fun h O => ?_
          replace O := O.sel [2, 1, 3, 4, 0, 5] 6 rfl (Nat.le_add_left _ _)
          simp only [selT, List.map, nth, List.drop, List.cons_append, List.nil_append] at O
          refine hj7 _ ⟨b', c', _, LS.new_ok (by rw [← i64_max]; exact r8) (by rw [← i64_max]; exact r10) r1 r2, O⟩
        · refine hj7 _ ⟨b, c, l, o, ?_⟩
          replace O := O.sel [0, 1, 2, 4, 5, 6] 7 rfl (Nat.le_add_left _ _)
          simp only [selT, List.map, nth, List.drop, List.cons_append, List.nil_append] at O
          rw [set_same hb, set_same hcc]
          exact O
    · intro j2 hj2
      refine O.ld 3 rfl (ldL_c (ldL_n ?_))
      rw [Vo.len]
      refine brr_p (fun hlt => ?_) (fun hlt => ?_)
      · exact hj2 _ _ ⟨rfl, fun e => ⟨hlt, by simpa using e⟩⟩
      · exact hj2 _ _ ⟨rfl, fun e => by cases e⟩
end Go.Proofs.Ytboidjampddfoaa.V
