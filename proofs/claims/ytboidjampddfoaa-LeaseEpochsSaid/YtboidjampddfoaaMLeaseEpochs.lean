/- Epochs rise and are each one's own: what LeaseEpochs plays. -/
import Derived.Test.YtboidjampddfoaaMLeaseOps
import Derived.Test.YtboidjampddfoaaV17
import Derived.Test.YtboidjampddfoaaGlaw11LeaseEpochs
namespace Go.Proofs.Ytboidjampddfoaa.V
open Go Go.RowKit
set_option linter.unusedVariables false
set_option linter.unusedSimpArgs false
abbrev tyScript : Ty := .cons (.int .i64) (.cons (.int .i64) (.cons (.int .i64) (.cons (.int .u64) (.cons (.sl 9 64 tyLOp) .nil))))
theorem F_law11_has.is {h : Heap} {s : Sl} {xs : List Int} {e : Int} {Q : Bool → Heap → Prop} (V : View h 1 (En u64c) s xs) (hb : xs.length ≤ 1000000) (k : ∀ b, (b = true → e ∈ xs) → Q b h) : F_law11_has s e h Q := by
  rw [F_law11_has.eq_1, F_law11_has_of.eq_1]
  refine jn0 (fun h' => h' = h) ?_ ?_
  · rintro h rfl
    exact k _ fun e => by cases e
  · intro j hj
    rw [F_law11_has.l1.eq_1]
    refine wl1 (k := .int .i64) (fun (m : Nat) (i : Int) (h' : Heap) => i + m = xs.length ∧ 0 ≤ i ∧ h' = h) ?_ (m := xs.length) ⟨by omega, by omega, rfl⟩
    rintro m (i : Int) h next hn ⟨hi, hi0, rfl⟩
    rw [V.len]
    refine brr_p (fun hlt => ?_) (fun hlt => hj _ rfl)
    refine V.at1 (k := .int .u64) hi0 hlt id (fun x => rfl) fun x hx => ?_
    refine brr_eq (fun he => ?_) (fun he => ?_)
    · exact k _ fun _ => by
        have he' : x = e := he
        subst he'
        exact List.mem_of_getElem? hx
    · rw [wrap64 (by omega) (by omega)]
      exact hn (m - 1) _ _ (by omega) ⟨by omega, by omega, rfl⟩
theorem LS.tick_idle {l : LS} (o : l.Ok) {free : Bool} : (l.tick 0 false free).copies = l.copies ∧ (l.tick 0 false free).most = l.most ∧ (l.tick 0 false free).place = l.place ∧ l.patience ≤ (l.tick 0 false free).patience ∧
    ((l.tickE 0 false free = 0 ∧ (l.tick 0 false free).seen = l.seen ∧ ((l.tick 0 false free).left ≤ l.left ∨ (l.tick 0 false free).left ≤ l.most)) ∨
     (l.tickE 0 false free = (l.tick 0 false free).seen ∧ free = true ∧ l.seen < (l.tick 0 false free).seen ∧ (l.tick 0 false free).seen ≤ l.seen + l.copies ∧ (l.tick 0 false free).seen % l.copies = l.place ∧ (l.tick 0 false free).left ≤ l.most)) := by
  have hl0 := o.left0; have hp1 := o.pat1; have hp0 := o.pat0; have hm1 := o.most1
  by_cases hb : l.left ≤ 1 ∧ free = true
  · obtain ⟨hb, rfl⟩ := hb
    obtain ⟨e1, e2⟩ := LS.tick_begin hb hl0
    have hn := o.next
    have hnn : l.pass.down.next = l.next := LS.next_same rfl rfl rfl
    by_cases hz : l.next = 0
    · have hbg : l.tick 0 false true = { l.pass.down with left := l.patience } := by
        rw [e2]; unfold LS.begin; rw [if_neg (by omega)]; rfl
      rw [e1, hbg]
      exact ⟨rfl, rfl, rfl, by show l.patience ≤ l.patience; omega, .inl ⟨hz, rfl, .inr hp1⟩⟩
    · have hbg := LS.begin_pos (l := l.pass.down) (by omega)
      rw [e1, e2, hbg]
      refine ⟨rfl, rfl, rfl, ?_, .inr ⟨hnn.symm, rfl, ?_, ?_, ?_, ?_⟩⟩
      · show l.patience ≤ if 2 * l.patience > l.most then l.most else 2 * l.patience
        split <;> omega
      · show l.seen < l.pass.down.next
        rw [hnn]; omega
      · show l.pass.down.next ≤ _
        rw [hnn]; omega
      · show l.pass.down.next % _ = _
        rw [hnn]; omega
      · show (if 2 * l.patience > l.most then l.most else 2 * l.patience) ≤ l.most
        split <;> omega
  · obtain ⟨e1, e2⟩ := LS.tick_stay hb hl0
    rw [e1, e2]
    refine ⟨rfl, rfl, rfl, by show l.patience ≤ l.patience; omega, .inl ⟨rfl, rfl, .inl ?_⟩⟩
    show (if l.left - 1 < 0 then 0 else l.left - 1) ≤ l.left
    split <;> omega
def epR (x : Nat × LS) : Res := own x.1 (leaseC x.2)
structure EpOk (n cop mst i : Int) (bs : List Nat) (ls : List (Nat × LS)) (alls : List Int) : Prop where
  len1 : (ls.length : Int) = n
  ptrs : ls.map (·.1) = bs
  each : ∀ (k : Nat) x, ls[k]? = some x → x.2.Ok ∧ x.2.copies = cop ∧ x.2.most = mst ∧ x.2.place = k ∧ x.2.left ≤ mst + cop ∧ x.2.seen ≤ 100000 + 9 * i
  all_ : ∀ e ∈ alls, ∃ (k : Nat) (x : Nat × LS), ls[k]? = some x ∧ e % cop = k ∧ e ≤ x.2.seen
  alen : (alls.length : Int) ≤ i
theorem EpOk.upd {nn cop mst i : Int} {bs : List Nat} {ls : List (Nat × LS)} {alls alls' : List Int} (ok : EpOk nn cop mst i bs ls alls) {n b : Nat} {l l' : LS} (hx : ls[n]? = some (b, l)) (o' : l'.Ok) (hc : l'.copies = cop) (hm : l'.most = mst)
    (hp : l'.place = l.place) (hl : l'.left ≤ mst + cop) (hs : l'.seen ≤ 100000 + 9 * (i + 1)) (hmono : l.seen ≤ l'.seen) (ha : ∀ e ∈ alls', e ∈ alls ∨ (e % cop = n ∧ e ≤ l'.seen)) (hlen : (alls'.length : Int) ≤ i + 1) :
    EpOk nn cop mst (i + 1) bs (ls.set n (b, l')) alls' := by
  have hn := (List.getElem?_eq_some_iff.1 hx).1
  have hnn : (ls.set n (b, l'))[n]? = some (b, l') := by simp [hn]
  refine ⟨by simp [ok.len1], by rw [map_set_fst hx]; exact ok.ptrs, fun k x hk => ?_, fun e he => ?_, hlen⟩
  · by_cases e : n = k
    · subst e
      rw [hnn] at hk
      have := Option.some.inj hk
      subst this
      exact ⟨o', hc, hm, hp.trans (ok.each n _ hx).2.2.2.1, hl, hs⟩
    · rw [List.getElem?_set_ne e] at hk
      obtain ⟨k1, k2, k3, k4, k5, k6⟩ := ok.each k x hk
      exact ⟨k1, k2, k3, k4, k5, by omega⟩
  · rcases ha e he with h | ⟨h1, h2⟩
    · obtain ⟨k, x, k1, k2, k3⟩ := ok.all_ e h
      by_cases ek : n = k
      · subst ek
        rw [hx] at k1
        have := Option.some.inj k1
        subst this
        exact ⟨n, _, hnn, k2, by show e ≤ l'.seen; have : e ≤ l.seen := k3; omega⟩
      · exact ⟨k, x, by rw [List.getElem?_set_ne ek]; exact k1, k2, k3⟩
    · exact ⟨n, _, hnn, h1, h2⟩
theorem leaseEpochs_main (H : Heap) (cs : List Value) (F : Fit H 140737488351232 tyScript cs) : E_law11_LeaseEpochs [.agg cs.toArray] H (fun r h' => r = .bool true ∧ KeptH H h') := by
  obtain ⟨_, _, rfl, _, ⟨t1, rfl, t1a, t1b⟩, _, _, rfl, _, ⟨t2, rfl, t2a, t2b⟩, _, _, rfl, _, ⟨t3, rfl, t3a, t3b⟩, _, _, rfl, _, ⟨t4, rfl, t4a, t4b⟩, _, _, rfl, _, ⟨t5, rfl, t5S⟩, rfl⟩ := F
  simp only [List.cons_append, List.nil_append, List.append_nil]
  refine Eq.mpr (E_law11_LeaseEpochs.at F_law11_LeaseEpochs t1 t2 t3 t4 t5 H _) ?_
  obtain ⟨ops, Vo⟩ := t5S.lops
  rw [u64_min] at t4a; rw [u64_max] at t4b
  rw [F_law11_LeaseEpochs.eq_1, F_law11_LeaseEpochs_of.eq_1]
  refine Sat.al (Sat.nil H) fun ba h1 O => ?_
  simp only [nn_some, pt_add, Nat.zero_add, Nat.add_zero, Nat.reduceAdd, Nat.reduceMul, Int.toNat_zero, Int.toNat_one, Nat.zero_mul, Nat.one_mul]
  refine F_law11_begun.is O fun h1 O => ?_
  refine brr_ff rfl ?_
  refine O.ld 0 rfl (ldL_c (ldL_n ?_))
  refine F_law11_within.is (by decide) (by decide) ?_
  refine O.ld 0 rfl (ldL_c (ldL_n ?_))
  refine F_law11_within.is (by decide) (by decide) ?_
  have c0 := Int.emod_nonneg t2 (show (9 : Int) ≠ 0 by decide)
  have c1 := Int.emod_lt_of_pos t2 (show (0 : Int) < 9 by decide)
  have m0 := Int.emod_nonneg t3 (show (100 : Int) ≠ 0 by decide)
  have m1 := Int.emod_lt_of_pos t3 (show (0 : Int) < 100 by decide)
  have w1 : IntKind.i64.wrap (1 + t2 % 9) = 1 + t2 % 9 := wrap64 (by omega) (by omega)
  have w2 : IntKind.i64.wrap (4 + t3 % 100) = 4 + t3 % 100 := wrap64 (by omega) (by omega)
  refine jn2 (fun l33 top34 h' => ∃ bs ls, EpOk (1 + t2 % 9) (1 + t2 % 9) (4 + t3 % 100) 0 bs ls [] ∧ Sat H h' [many epR ls, buf 1 ptrc l33 bs, buf 1 u64c top34 (ls.map (·.2.seen)), own ba [.int .i64 t1, .int .i64 t2, .int .i64 t3, .int .u64 t4, .slice t5.ptr t5.len t5.cap]]) ?_ ?_
  · rintro l33 top34 h1 ⟨bs, ls, ok, O⟩
    refine jn0 (fun h' => KeptH H h') ?_ ?_
    · intro h2 k
      refine F_law11_begun.is ((Sat.nil H).kept2 k) fun h3 O => ?_
      exact ⟨rfl, O.kept⟩
    · intro j hj
      rw [F_law11_LeaseEpochs.l2.eq_1, w1, w2]
      have hcop : 1 ≤ 1 + t2 % 9 ∧ 1 + t2 % 9 ≤ 9 := by omega
      have hmst : 4 ≤ 4 + t3 % 100 ∧ 4 + t3 % 100 ≤ 103 := by omega
      generalize 1 + t2 % 9 = cop at *
      generalize 4 + t3 % 100 = mst at *
      clear w1 w2 c0 c1 m0 m1
      refine wl2 (k := .sl) (l := .int .i64) (fun (m : Nat) (all : Sl) (i : Int) (h' : Heap) => i + m = ops.length ∧ 0 ≤ i ∧ ∃ ls alls, EpOk cop cop mst i bs ls alls ∧ Sat H h' [many epR ls, buf 1 ptrc l33 bs, buf 1 u64c top34 (ls.map (·.2.seen)), buf 1 u64c all alls, own ba [.int .i64 t1, .int .i64 t2, .int .i64 t3, .int .u64 t4, .slice t5.ptr t5.len t5.cap]]) ?_ (m := ops.length)
        ⟨by omega, by omega, ls, [], ok, by
          have O := O.nil_buf (sz := 1) (enc := u64c)
          replace O := O.sel [1, 2, 3, 0, 4] 5 rfl (Nat.le_add_left _ _)
          simp only [selT, List.map, nth, List.drop, List.cons_append, List.nil_append] at O
          exact O⟩
      clear O ok ls
      intro m (all : Sl) (i : Int) h2 next hn ⟨hi, hi0, ls, alls, ok, O⟩
      refine jn1 (fun t h' => h' = h2 ∧ (t = true → i < ops.length ∧ i < 3000)) ?_ ?_
      · rintro t h2 ⟨rfl, ht⟩
        refine brr_of (fun ht' => ?_) (fun ht' => hj _ O.kept)
        obtain ⟨hlt, hlt3⟩ := ht ht'
        refine O.ld 4 rfl (ldL_c (ldL_n ?_))
        refine (Vo.kept O.kept).ix hi0 hlt fun a cs op hx hlen hR hc => ?_
        obtain ⟨rfl, hR⟩ := hR
        refine ld_are hc (ldL_c (ldL_c (ldL_c (ldL_c (ldL_c (ldL_c (ldL_c (ldL_c (ldL_c (ldL_n ?_))))))))))
        refine O.al fun bo h3 O => ?_
        refine O.st 0 rfl (by simp) rfl fun h O => ?_
        dsimp only [V.put, List.set] at O
        refine O.ld 0 rfl (ldL_c (ldL_n ?_))
        refine F_law11_within.is (by omega) (by omega) ?_
        have n0 := Int.emod_nonneg op.on (show cop ≠ 0 by omega)
        have n1 := Int.emod_lt_of_pos op.on (show 0 < cop by omega)
        generalize op.on % cop = n at *
        obtain ⟨⟨b, l⟩, hx⟩ : ∃ x, ls[n.toNat]? = some x := ⟨_, List.getElem?_eq_getElem (by have := ok.len1; omega)⟩
        have hb : bs[n.toNat]? = some b := by rw [← ok.ptrs]; simp [hx]
        have htop : (ls.map (·.2.seen))[n.toNat]? = some l.seen := by simp [hx]
        have hn2 : (n.toNat : Int) = n := by omega
        have hxl : n.toNat < ls.length := (List.getElem?_eq_some_iff.1 hx).1
        obtain ⟨ol, oc, om, opl, oleft, oseen⟩ := ok.each _ _ hx
        simp only at ol oc om opl oleft oseen
        replace O := O.sel [1, 0, 2, 3, 4, 5] 6 rfl (Nat.le_add_left _ _)
        simp only [selT, List.map, nth, List.drop, List.cons_append, List.nil_append] at O
        have O := O.take n.toNat hx
        unfold epR at O
        refine View.get1 (k := .ptr) (O.view 3 ptrc_len (by simp) rfl).1 n0 hb (fun b => some (pt b 0)) (fun _ => rfl) ?_
        refine F_lease_Lease_Patience.is O ?_
        refine O.ld 2 rfl (ldL_c (ldL_n ?_))
        refine jn1 (fun (all : Sl) h' => ∃ l' alls', l'.Ok ∧ l'.copies = cop ∧ l'.most = mst ∧ l'.place = l.place ∧ l'.left ≤ mst + cop ∧ l.patience ≤ l'.patience ∧ l.seen ≤ l'.seen ∧ l'.seen ≤ 100000 + 9 * (i + 1) ∧
          (∀ e ∈ alls', e ∈ alls ∨ (e % cop = n.toNat ∧ e ≤ l'.seen)) ∧ (alls'.length : Int) ≤ i + 1 ∧
          Sat H h' [own b (leaseC l'), hole epR ls n.toNat, own bo [.int .i64 op.on, .int .i64 op.kind, .int .u64 op.epoch, .int .i64 op.phase, .bool op.a, .bool op.b, .int .i64 op.place, .int .i64 op.copies, .int .i64 op.most], buf 1 ptrc l33 bs, buf 1 u64c top34 ((ls.map (·.2.seen)).set n.toNat l'.seen), buf 1 u64c all alls', own ba [.int .i64 t1, .int .i64 t2, .int .i64 t3, .int .u64 t4, .slice t5.ptr t5.len t5.cap]]) ?_ ?_
        · clear O
          rintro all h4 ⟨l', alls', o', oc', om', opl', oleft', opat', omono', oseen', oall', olen', O⟩
          refine View.get1 (k := .ptr) (O.view 3 ptrc_len (by simp) rfl).1 n0 hb (fun b => some (pt b 0)) (fun _ => rfl) ?_
          refine F_lease_Lease_Patience.is O ?_
          have p0 := o'.pat0; have p1 := o'.pat1; have l0 := o'.left0
          refine jn1 (fun t h' => h' = h4 ∧ t = false) ?_ ?_
          · rintro t h4 ⟨rfl, rfl⟩
            refine brr_ff rfl ?_
            rw [wrap64 (by omega) (by omega)]
            replace O := O.sel [0, 1, 3, 4, 5, 6] 7 rfl (Nat.le_add_left _ _)
            simp only [selT, List.map, nth, List.drop, List.cons_append, List.nil_append] at O
            have O : Sat H _ (epR (b, l') :: _) := O
            have O := O.give hxl
            refine hn (m - 1) _ _ _ (by omega) ⟨by omega, by omega, ls.set n.toNat (b, l'), alls', ok.upd hx o' oc' om' opl' oleft' oseen' omono' oall' olen', ?_⟩
            rw [List.map_set]
            exact O
          · intro j3 hj3
            have htop' : ((ls.map (·.2.seen)).set n.toNat l'.seen)[n.toNat]? = some l'.seen := by simp [hxl]
            refine brr_ff (by simp; omega) ?_
            refine brr_ff (by simp; omega) ?_
            refine brr_ff (by simp; omega) ?_
            refine View.get1 (k := .ptr) (O.view 3 ptrc_len (by simp) rfl).1 n0 hb (fun b => some (pt b 0)) (fun _ => rfl) ?_
            refine (O.view 4 u64c_len (by simp) rfl).1.ix n0 (by simp; omega) fun a cs x hx' hlen hR hc => ?_
            obtain rfl : x = l'.seen := by rw [htop'] at hx'; exact (Option.some.inj hx').symm
            obtain rfl : cs = u64c l'.seen := hR
            refine ld_are hc (ldL_c (ldL_n ?_))
            refine F_lease_Lease_Seen.is O ?_
            refine ⟨hc, ?_⟩
            refine brr_ff (by simp) ?_
            refine View.get1 (k := .ptr) (O.view 3 ptrc_len (by simp) rfl).1 n0 hb (fun b => some (pt b 0)) (fun _ => rfl) ?_
            refine F_lease_Lease_Span.is o' O ?_
            have e : up l'.patience = l'.patience + 1 := by unfold up; rw [if_pos (by omega)]
            rw [e, wrap64 (by omega) (by omega)]
            refine brr_ff (by simp) ?_
            refine View.get1 (k := .ptr) (O.view 3 ptrc_len (by simp) rfl).1 n0 hb (fun b => some (pt b 0)) (fun _ => rfl) ?_
            refine F_lease_Lease_Left.is O ?_
            refine brr_ff (by simp; omega) ?_
            refine View.get1 (k := .ptr) (O.view 3 ptrc_len (by simp) rfl).1 n0 hb (fun b => some (pt b 0)) (fun _ => rfl) ?_
            refine F_lease_Lease_Left.is O ?_
            rw [wrap64 (by omega) (by omega)]
            exact hj3 _ _ ⟨rfl, by simp; omega⟩
        · intro j3 hj3
          have s0 := ol.seen0; have p0 := ol.pat0; have p1 := ol.pat1
          refine brr_eq (fun hk => ?_) (fun hk => ?_)
          · refine O.ld 2 rfl (ldL_c (ldL_n ?_))
            refine ⟨by decide, ?_⟩
            refine View.get1 (k := .ptr) (O.view 3 ptrc_len (by simp) rfl).1 n0 hb (fun b => some (pt b 0)) (fun _ => rfl) ?_
            refine O.ld 2 rfl (ldL_c (ldL_n ?_))
            refine O.ld 2 rfl (ldL_c (ldL_n ?_))
            rw [Int.tmod_eq_emod_of_nonneg hR.1]
            have e0 := Int.emod_nonneg op.epoch (show (100000 : Int) ≠ 0 by decide)
            have e1 := Int.emod_lt_of_pos op.epoch (show (0 : Int) < 100000 by decide)
            generalize op.epoch % 100000 = ep at *
            refine F_lease_Lease_Heard.is O fun h5 O => ?_
            refine View.get1 (k := .int .u64) (O.view 4 u64c_len (by simp) rfl).1 n0 htop id (fun _ => rfl) ?_
            have hse : (l.heard ep op.a op.b).seen = if ep > l.seen then ep else l.seen := rfl
            have fin : ∀ h', Sat H h' [own b (leaseC (l.heard ep op.a op.b)), hole epR ls n.toNat, own bo [.int .i64 op.on, .int .i64 op.kind, .int .u64 op.epoch, .int .i64 op.phase, .bool op.a, .bool op.b, .int .i64 op.place, .int .i64 op.copies, .int .i64 op.most], buf 1 ptrc l33 bs, buf 1 u64c top34 ((ls.map (·.2.seen)).set n.toNat (if ep > l.seen then ep else l.seen)), buf 1 u64c all alls, own ba [.int .i64 t1, .int .i64 t2, .int .i64 t3, .int .u64 t4, .slice t5.ptr t5.len t5.cap]] → j3 all h' := by
              intro h' O
              refine hj3 _ _ ⟨_, alls, ol.heard (a := op.a) (b := op.b) e0 (by omega), oc, om, rfl, ?_, Int.le_refl _, ?_, ?_, fun e he => .inl he, by have := ok.alen; omega, O⟩
              · show (if _ then l.patience else l.left) ≤ _
                split <;> omega
              · rw [hse]; split <;> omega
              · rw [hse]; split <;> omega
            refine jn0 _ fin fun j4 hj4 => ?_
            refine brr_p (fun hg => ?_) (fun hg => ?_)
            · have hg : ep > l.seen := hg
              replace O := O.sel [4, 0, 1, 2, 3, 5, 6] 7 rfl (Nat.le_add_left _ _)
              simp only [selT, List.map, nth, List.drop, List.cons_append, List.nil_append] at O
              refine O.put1 u64c_len u64c_one n0 (by simp; omega) ep rfl fun h6 O => ?_
              replace O := O.sel [1, 2, 3, 4, 0, 5, 6] 7 rfl (Nat.le_add_left _ _)
              simp only [selT, List.map, nth, List.drop, List.cons_append, List.nil_append] at O
              refine hj4 _ ?_
              rw [if_pos hg]
              exact O
            · have hg : ¬ ep > l.seen := hg
              refine hj4 _ ?_
              rw [if_neg hg, set_same htop]
              exact O
          · refine jn1 _ (fun _ _ h => hj3 _ _ h) fun j4 hj4 => ?_
            refine brr_eq (fun hk2 => ?_) (fun hk2 => ?_)
            · refine View.get1 (k := .ptr) (O.view 3 ptrc_len (by simp) rfl).1 n0 hb (fun b => some (pt b 0)) (fun _ => rfl) ?_
              refine F_lease_Lease_Rest.is O fun h5 O => ?_
              refine hj4 _ _ ⟨_, alls, ol.rest, oc, om, rfl, ?_, Int.le_refl _, Int.le_refl _, ?_, fun e he => .inl he, by have := ok.alen; omega, ?_⟩
              · show l.patience ≤ _; omega
              · show l.seen ≤ _; omega
              · show Sat H h5 [_, _, _, _, buf 1 u64c top34 ((ls.map (·.2.seen)).set n.toNat l.seen), _, _]
                rw [set_same htop]
                exact O
            · refine View.get1 (k := .ptr) (O.view 3 ptrc_len (by simp) rfl).1 n0 hb (fun b => some (pt b 0)) (fun _ => rfl) ?_
              refine O.ld 2 rfl (ldL_c (ldL_n ?_))
              refine F_lease_Lease_Tick.is ol O fun h5 O => ?_
              obtain ⟨f1, f2, f3, f4, f5⟩ := LS.tick_idle ol (free := op.b)
              have ot := ol.tick (ph := 0) (a := false) (b := op.b)
              rw [LS.tickB_idle]
              generalize l.tick 0 false op.b = l' at *
              generalize l.tickE 0 false op.b = e at *
              refine jn1 (fun t h' => h' = h5 ∧ t = false) ?_ ?_
              · rintro t h5 ⟨rfl, rfl⟩
                refine brr_ff rfl ?_
                refine jn1 _ (fun _ _ h => hj4 _ _ h) fun j5 hj5 => ?_
                refine brr_ne (fun hne => ?_) (fun he => ?_)
                · rcases f5 with ⟨g1, _⟩ | ⟨g1, g2, g3, g4, g5, g6⟩
                  · exact absurd g1 hne
                  · replace O := O.sel [5, 0, 1, 2, 3, 4, 6] 7 rfl (Nat.le_add_left _ _)
                    simp only [selT, List.map, nth, List.drop, List.cons_append, List.nil_append] at O
                    refine O.push_buf e rfl u64c_len u64c_one rfl (by have := ok.alen; omega) fun s6 h6 O hs6 => ?_
                    replace O := O.sel [5, 0, 1, 2, 3, 4, 6] 7 rfl (Nat.le_add_left _ _)
                    simp only [selT, List.map, nth, List.drop, List.cons_append, List.nil_append] at O
                    refine O.put1 u64c_len u64c_one n0 (by simp; omega) e rfl fun h6 O => ?_
                    replace O := O.sel [2, 3, 4, 5, 0, 1, 6] 7 rfl (Nat.le_add_left _ _)
                    simp only [selT, List.map, nth, List.drop, List.cons_append, List.nil_append] at O
                    refine hj5 _ _ ⟨l', alls ++ [e], ot, by omega, by omega, f3, by omega, f4, by omega, by omega, ?_, by have := ok.alen; simp; omega, by rw [← g1]; exact O⟩
                    intro x hx
                    rcases List.mem_append.1 hx with hx | hx
                    · exact .inl hx
                    · simp at hx; subst hx
                      refine .inr ⟨?_, by omega⟩
                      rw [g1, ← oc, g5, opl]
                · rcases f5 with ⟨g1, g2, g3⟩ | ⟨g1, g2, g3, g4, g5, g6⟩
                  · refine hj5 _ _ ⟨l', alls, ot, by omega, by omega, f3, by omega, f4, by omega, by omega, fun e he => .inl he, by have := ok.alen; omega, ?_⟩
                    rw [g2, set_same htop]
                    exact O
                  · have he : e = 0 := he
                    omega
              · intro j5 hj5
                refine brr_ff rfl ?_
                refine brr_ne (fun hne => ?_) (fun he => hj5 _ _ ⟨rfl, rfl⟩)
                rcases f5 with ⟨g1, _⟩ | ⟨g1, g2, g3, g4, g5, g6⟩
                · exact absurd g1 hne
                · have w3 : IntKind.i64.wrap cop = cop := wrap64 (by omega) (by omega)
                  have w4 : IntKind.u64.wrap cop = cop := wrapu64 (by omega) (by omega)
                  have w5 : IntKind.u64.wrap n = n := wrapu64 (by omega) (by omega)
                  refine View.get1 (k := .int .u64) (O.view 4 u64c_len (by simp) rfl).1 n0 htop id (fun _ => rfl) ?_
                  refine brr_ff (by simp; omega) ?_
                  rw [w4, w5]
                  refine ⟨by omega, ?_⟩
                  refine brr_ff (by rw [Int.tmod_eq_emod_of_nonneg (by omega), g1, ← oc, g5, opl]; simp; omega) ?_
                  refine View.get1 (k := .int .u64) (O.view 4 u64c_len (by simp) rfl).1 n0 htop id (fun _ => rfl) ?_
                  refine brr_ff (by rw [wrapu64 (by simp; omega) (by simp; omega)]; simp; omega) ?_
                  refine O.ld 2 rfl (ldL_c (ldL_n ?_))
                  rw [g2]
                  refine brr_ff rfl ?_
                  refine F_law11_has.is (O.view 5 u64c_len (by simp) rfl).1 (by have := ok.alen; omega) fun r hr => ?_
                  refine hj5 _ _ ⟨rfl, ?_⟩
                  cases r with
                  | false => rfl
                  | true =>
                    obtain ⟨k, x, k1, k2, k3⟩ := ok.all_ _ (hr rfl)
                    have hkn : k = n.toNat := by
                      have : e % cop = n := by rw [g1, ← oc, g5, opl]; exact hn2
                      omega
                    subst hkn
                    rw [hx] at k1
                    have := Option.some.inj k1
                    subst this
                    have k3 : e ≤ l.seen := k3
                    omega
      · intro j2 hj2
        refine O.ld 4 rfl (ldL_c (ldL_n ?_))
        rw [Vo.len]
        refine brr_p (fun hlt => ?_) (fun hlt => ?_)
        · exact hj2 _ _ ⟨rfl, fun e => ⟨hlt, by simpa using e⟩⟩
        · exact hj2 _ _ ⟨rfl, fun e => by cases e⟩
  · intro j hj
    rw [F_law11_LeaseEpochs.l1.eq_1, w1, w2]
    have hcop : 1 ≤ 1 + t2 % 9 ∧ 1 + t2 % 9 ≤ 9 := by omega
    have hmst : 4 ≤ 4 + t3 % 100 ∧ 4 + t3 % 100 ≤ 103 := by omega
    generalize 1 + t2 % 9 = cop at *
    generalize 4 + t3 % 100 = mst at *
    have s0 := Int.emod_nonneg t4 (show (1000 : Int) ≠ 0 by decide)
    have s1 := Int.emod_lt_of_pos t4 (show (0 : Int) < 1000 by decide)
    have hmod : t4.tmod 1000 = t4 % 1000 := Int.tmod_eq_emod_of_nonneg t4a
    refine wl3 (k := .sl) (l := .sl) (l3 := .int .i64) (fun (m : Nat) (l t : Sl) (i : Int) (h' : Heap) => i + m = cop ∧ 0 ≤ i ∧ ∃ bs ls, EpOk i cop mst 0 bs ls [] ∧ Sat H h' [many epR ls, buf 1 ptrc l bs, buf 1 u64c t (ls.map (·.2.seen)), own ba [.int .i64 t1, .int .i64 t2, .int .i64 t3, .int .u64 t4, .slice t5.ptr t5.len t5.cap]]) ?_ (m := cop.toNat)
      ⟨by omega, by omega, [], [], ⟨rfl, rfl, by simp, by simp, by simp⟩, by
        have O := ((O.nil_buf (sz := 1) (enc := u64c)).nil_buf (sz := 1) (enc := ptrc)).none (f := epR)
        exact O⟩
    clear O
    intro m (l : Sl) (tt : Sl) (i : Int) h2 next hn ⟨hi, hi0, bs, ls, ok, O⟩
    refine brr_p (fun hlt => ?_) (fun hlt => ?_)
    · refine O.ld 3 rfl (ldL_c (ldL_n ?_))
      rw [hmod]
      refine ⟨by decide, ?_⟩
      refine F_lease_New.is O (by rw [i64_min]; omega) (by rw [i64_max]; omega) (by rw [i64_max]; omega) (by rw [i64_max]; omega) fun b h3 O => ?_
      have hnew : LS.new i cop mst (t4 % 1000) = ⟨4 + i, 0, 0, i, cop, mst, 4, t4 % 1000⟩ := by
        unfold LS.new
        simp only [if_neg (show ¬ (1 : Int) > cop by omega), if_neg (show ¬ (4 : Int) > mst by omega), Int.emod_eq_of_lt hi0 hlt]
        rw [if_pos (by omega)]
      have o : (LS.new i cop mst (t4 % 1000)).Ok := LS.new_ok (by omega) (by omega) s0 (by omega)
      rw [hnew] at o O
      generalize hl : (⟨4 + i, 0, 0, i, cop, mst, 4, t4 % 1000⟩ : LS) = lz at *
      have O : Sat H h3 (epR (b, lz) :: _) := O
      have O := O.more
      replace O := O.sel [1, 0, 2, 3] 4 rfl (Nat.le_add_left _ _)
      simp only [selT, List.map, nth, List.drop, List.cons_append, List.nil_append] at O
      have hlen := ok.len1
      have hbl : bs.length = ls.length := by rw [← ok.ptrs]; simp
      refine O.push_buf b rfl ptrc_len ptrc_one rfl (by omega) fun s3 h4 O hs3 => ?_
      replace O := O.sel [2, 0, 1, 3] 4 rfl (Nat.le_add_left _ _)
      simp only [selT, List.map, nth, List.drop, List.cons_append, List.nil_append] at O
      refine O.push_buf (t4 % 1000) rfl u64c_len u64c_one rfl (by simp; omega) fun s4 h5 O hs4 => ?_
      replace O := O.sel [2, 1, 0, 3] 4 rfl (Nat.le_add_left _ _)
      simp only [selT, List.map, nth, List.drop, List.cons_append, List.nil_append] at O
      rw [wrap64 (by omega) (by omega)]
      refine hn (m - 1) _ _ _ _ (by omega) ⟨by omega, by omega, bs ++ [b], ls ++ [(b, lz)], ⟨by simp; omega, by rw [← ok.ptrs]; simp, ?_, by simp, by simp⟩, by rw [List.map_append]; subst hl; exact O⟩
      intro k x hx
      rw [List.getElem?_append] at hx
      split at hx
      · exact ok.each k x hx
      · rename_i hk
        by_cases e : k - ls.length = 0
        · rw [e] at hx; simp at hx; subst hx; subst hl
          exact ⟨o, rfl, rfl, by show i = k; omega, by show 4 + i ≤ mst + cop; omega, by show t4 % 1000 ≤ 100000 + 9 * 0; omega⟩
        · rw [List.getElem?_eq_none (by simp; omega)] at hx; simp at hx
    · have hic : i = cop := by omega
      subst hic
      exact hj _ _ _ ⟨bs, ls, ok, O⟩
end Go.Proofs.Ytboidjampddfoaa.V
