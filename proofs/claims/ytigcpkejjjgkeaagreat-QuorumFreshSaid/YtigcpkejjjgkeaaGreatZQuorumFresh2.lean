import Derived.Test.YtigcpkejjjgkeaaGreatZQuorumFresh1
import Derived.Test.YtigcpkejjjgkeaaGreatProg
namespace Go.Proofs.YtigcpkejjjgkeaaGreat.V
open Go Go.RowKit
set_option linter.unusedVariables false
set_option maxRecDepth 100000
def F_quorum_Quorum_Epoch_of  (q1 : Option Addr) (h : Heap) (Q : Int → Heap → Prop) : Prop :=
  nn q1 fun (a2 : Addr) =>
  ld [.int .u64] (a2.add 4) h fun (v3 : Int) =>
  Q v3 h
def F_quorum_Quorum_Epoch (q1 : Option Addr) (h : Heap) (Q : Int → Heap → Prop) : Prop := F_quorum_Quorum_Epoch_of  q1 h Q
def plan19 : Plan := .s (.r [0]) (.s (.r [2]) .z)
theorem F_quorum_Quorum_Epoch.eq  (q1 : Option Addr) (h : Heap) (K : Value → Heap → Prop) : F_quorum_Quorum_Epoch_of  q1 h (fun (r0 : Int) (h : Heap) => K (.int .u64 r0) h) =
    den Tryz.prog noFns Tryz.f19.ntmps plan19 (bodyOf Tryz.f19) (args0 0 [(.pointer q1 : Value)]) h ⟨fun env h => dRes Tryz.prog Tryz.f19.results.toList env h K, fun _ _ _ => False, fun env h => dRes Tryz.prog Tryz.f19.results.toList env h K⟩ := by kernel_rfl
def E_quorum_Quorum_Epoch_of (f : Option Addr → Heap → (Int → Heap → Prop) → Prop) : List Value → Heap → (Value → Heap → Prop) → Prop
  | [v0], h, K => dec1 .ptr v0 fun (q1 : Option Addr) =>
  f q1 h (fun (r0 : Int) (h : Heap) => K (.int .u64 r0) h)
  | _, _, _ => False
abbrev E_quorum_Quorum_Epoch := E_quorum_Quorum_Epoch_of F_quorum_Quorum_Epoch
theorem E_quorum_Quorum_Epoch.right : IsRight Tryz.prog 19 E_quorum_Quorum_Epoch := by
  refine isRight fun vs K w hh => ?_
  match vs, hh with
  | [v0], hh =>
    unfold E_quorum_Quorum_Epoch E_quorum_Quorum_Epoch_of at hh
    replace hh := dec1_sound hh; obtain ⟨q1, rfl, hh⟩ := hh
    unfold F_quorum_Quorum_Epoch at hh
    exact calls_den noFns_right plan19 _ w K Tryz.func19 (by kernel_rfl) (by kernel_rfl) (Eq.mp (F_quorum_Quorum_Epoch.eq  q1 w.heap K) hh)
theorem ok19 : okFn Tryz.prog 19 = true := by kernel_rfl
end Go.Proofs.YtigcpkejjjgkeaaGreat.V
namespace Go.Proofs.YtigcpkejjjgkeaaGreat.V
open Go Go.RowKit
set_option linter.unusedVariables false
set_option maxRecDepth 100000
def F_quorum_Quorum_Seen_of  (q1 : Option Addr) (h : Heap) (Q : Int → Heap → Prop) : Prop :=
  nn q1 fun (a2 : Addr) =>
  ld [.int .u64] (a2.add 5) h fun (v3 : Int) =>
  Q v3 h
def F_quorum_Quorum_Seen (q1 : Option Addr) (h : Heap) (Q : Int → Heap → Prop) : Prop := F_quorum_Quorum_Seen_of  q1 h Q
def plan20 : Plan := .s (.r [0]) (.s (.r [2]) .z)
theorem F_quorum_Quorum_Seen.eq  (q1 : Option Addr) (h : Heap) (K : Value → Heap → Prop) : F_quorum_Quorum_Seen_of  q1 h (fun (r0 : Int) (h : Heap) => K (.int .u64 r0) h) =
    den Tryz.prog noFns Tryz.f20.ntmps plan20 (bodyOf Tryz.f20) (args0 0 [(.pointer q1 : Value)]) h ⟨fun env h => dRes Tryz.prog Tryz.f20.results.toList env h K, fun _ _ _ => False, fun env h => dRes Tryz.prog Tryz.f20.results.toList env h K⟩ := by kernel_rfl
def E_quorum_Quorum_Seen_of (f : Option Addr → Heap → (Int → Heap → Prop) → Prop) : List Value → Heap → (Value → Heap → Prop) → Prop
  | [v0], h, K => dec1 .ptr v0 fun (q1 : Option Addr) =>
  f q1 h (fun (r0 : Int) (h : Heap) => K (.int .u64 r0) h)
  | _, _, _ => False
abbrev E_quorum_Quorum_Seen := E_quorum_Quorum_Seen_of F_quorum_Quorum_Seen
theorem E_quorum_Quorum_Seen.right : IsRight Tryz.prog 20 E_quorum_Quorum_Seen := by
  refine isRight fun vs K w hh => ?_
  match vs, hh with
  | [v0], hh =>
    unfold E_quorum_Quorum_Seen E_quorum_Quorum_Seen_of at hh
    replace hh := dec1_sound hh; obtain ⟨q1, rfl, hh⟩ := hh
    unfold F_quorum_Quorum_Seen at hh
    exact calls_den noFns_right plan20 _ w K Tryz.func20 (by kernel_rfl) (by kernel_rfl) (Eq.mp (F_quorum_Quorum_Seen.eq  q1 w.heap K) hh)
theorem ok20 : okFn Tryz.prog 20 = true := by kernel_rfl
end Go.Proofs.YtigcpkejjjgkeaaGreat.V
/- The program's quorum: what it holds; lists of messages; send. -/
namespace Go.Proofs.YtigcpkejjjgkeaaGreat.V
open Go Go.RowKit
set_option linter.unusedVariables false
set_option linter.unusedSimpArgs false
structure QA where
  sc : Sl
  sv : Sl
  sw : Sl
  r1 : Nat
  r2 : Nat
  r3 : Nat
  r4 : Nat
def quR (p : Nat) (q : QS) : Res := ex fun a : QA => star [own p [.int .i64 q.node, .int .i64 q.shard, .slice a.sc.ptr a.sc.len a.sc.cap, .int .i64 q.phase, .int .u64 q.epoch, .int .u64 q.seen, .int .u64 q.best.1, .int .u64 q.best.2, .int .u64 q.tag.1, .int .u64 q.tag.2, .slice a.sv.ptr a.sv.len a.sv.cap, .int .u64 q.chosen.1, .int .u64 q.chosen.2, .slice a.sw.ptr a.sw.len a.sw.cap, .int .u64 q.begun, .int .u64 q.done, .map (some a.r1), .map (some a.r2), .map (some a.r3), .map (some a.r4)], buf 1 i64c a.sc q.cop, mapR a.r1 q.pm, mapR a.r2 q.wr, mapR a.r3 q.rf, mapR a.r4 q.bt, poolR [(a.sv, q.val), (a.sw, q.what)]]
def Mg.bare (m : Mg) : Mg := { m with v := ⟨none, 0, 0⟩ }
def mvR (m : Mg) : Res := buf 1 u8 m.v m.b
def msgsR (s : Sl) (ms : List Mg) : Res := ex fun ls : List Mg => pr (ls.map Mg.bare = ms) (sep (buf 22 mgC s ls) (many mvR ls))
theorem mgC_len (m : Mg) : (mgC m).length = 22 := rfl
theorem mgC_one (m : Mg) : (mgC m).all oneV = true := rfl
section
variable {h0 h : Heap} {L : List Res}
theorem star_permL {L M : List Res} (p : L.Perm M) : ∀ {E : Blks}, star L E → star M E := by
  induction p with
  | nil => exact fun h => h
  | cons A _ ih => exact fun ⟨E1, E2, p1, hA, h2⟩ => ⟨E1, E2, p1, hA, ih h2⟩
  | swap A B L => exact fun ⟨E1, E2, p1, hA, F1, F2, q, hB, h2⟩ => ⟨F1, E1 ++ F2, perm_cons_app p1 q, hB, E1, F2, List.Perm.refl _, hA, h2⟩
  | trans _ _ ih1 ih2 => exact fun h => ih2 (ih1 h)
theorem Sat.permL {L M : List Res} (O : Sat h0 h L) (p : L.Perm M) : Sat h0 h M := by
  obtain ⟨E, hs, H⟩ := O
  exact ⟨E, star_permL p hs, H⟩
theorem Sat.flip {L M : List Res} (O : Sat h0 h (L ++ M)) : Sat h0 h (M ++ L) := O.permL List.perm_append_comm
theorem Sat.starE {Rs : List Res} (O : Sat h0 h (star Rs :: L)) : Sat h0 h (Rs ++ L) := by
  induction Rs generalizing L with
  | nil => exact O.emp
  | cons A Rs ih =>
    have O : Sat h0 h (V.sep A (star Rs) :: L) := O
    exact (ih O.sep.swap).permL List.perm_middle
theorem Sat.qu {p : Nat} {q : QS} (O : Sat h0 h (quR p q :: L)) : ∃ a : QA, Sat h0 h (own p [.int .i64 q.node, .int .i64 q.shard, .slice a.sc.ptr a.sc.len a.sc.cap, .int .i64 q.phase, .int .u64 q.epoch, .int .u64 q.seen, .int .u64 q.best.1, .int .u64 q.best.2, .int .u64 q.tag.1, .int .u64 q.tag.2, .slice a.sv.ptr a.sv.len a.sv.cap, .int .u64 q.chosen.1, .int .u64 q.chosen.2, .slice a.sw.ptr a.sw.len a.sw.cap, .int .u64 q.begun, .int .u64 q.done, .map (some a.r1), .map (some a.r2), .map (some a.r3), .map (some a.r4)] :: buf 1 i64c a.sc q.cop :: mapR a.r1 q.pm :: mapR a.r2 q.wr :: mapR a.r3 q.rf :: mapR a.r4 q.bt :: poolR [(a.sv, q.val), (a.sw, q.what)] :: L) := by
  obtain ⟨a, O⟩ := O.ex
  exact ⟨a, O.starE⟩
theorem Sat.quI {p : Nat} (q : QS) (a : QA) (O : Sat h0 h (own p [.int .i64 q.node, .int .i64 q.shard, .slice a.sc.ptr a.sc.len a.sc.cap, .int .i64 q.phase, .int .u64 q.epoch, .int .u64 q.seen, .int .u64 q.best.1, .int .u64 q.best.2, .int .u64 q.tag.1, .int .u64 q.tag.2, .slice a.sv.ptr a.sv.len a.sv.cap, .int .u64 q.chosen.1, .int .u64 q.chosen.2, .slice a.sw.ptr a.sw.len a.sw.cap, .int .u64 q.begun, .int .u64 q.done, .map (some a.r1), .map (some a.r2), .map (some a.r3), .map (some a.r4)] :: buf 1 i64c a.sc q.cop :: mapR a.r1 q.pm :: mapR a.r2 q.wr :: mapR a.r3 q.rf :: mapR a.r4 q.bt :: poolR [(a.sv, q.val), (a.sw, q.what)] :: L)) : Sat h0 h (quR p q :: L) := by
  refine Sat.exI a ?_
  have O := (O.sel [0, 1, 2, 3, 4, 5, 6] 7 rfl (Nat.le_add_left _ _))
  obtain ⟨E, ⟨E0, F0, p0, k0, E1, F1, p1, k1, E2, F2, p2, k2, E3, F3, p3, k3, E4, F4, p4, k4, E5, F5, p5, k5, E6, F6, p6, k6, h2⟩, H⟩ := O
  refine ⟨E, ⟨E0 ++ (E1 ++ (E2 ++ (E3 ++ (E4 ++ (E5 ++ (E6 ++ [])))))), F6, ?_, ?_, h2⟩, H⟩
  · refine p0.trans ?_
    rw [List.append_nil, List.append_assoc]
    refine List.Perm.append_left _ (p1.trans ?_)
    rw [List.append_assoc]
    refine List.Perm.append_left _ (p2.trans ?_)
    rw [List.append_assoc]
    refine List.Perm.append_left _ (p3.trans ?_)
    rw [List.append_assoc]
    refine List.Perm.append_left _ (p4.trans ?_)
    rw [List.append_assoc]
    refine List.Perm.append_left _ (p5.trans ?_)
    rw [List.append_assoc]
    exact List.Perm.append_left _ p6
  · exact ⟨E0, _, List.Perm.refl _, k0, E1, _, List.Perm.refl _, k1, E2, _, List.Perm.refl _, k2, E3, _, List.Perm.refl _, k3, E4, _, List.Perm.refl _, k4, E5, _, List.Perm.refl _, k5, E6, [], List.Perm.refl _, k6, rfl⟩
theorem F_slices_Clone_cbaad.is {a : Sl} {xs : List UInt8} {Q : Sl → Heap → Prop} (O : Sat h0 h L) (V1 : Stays h0 L fun h => Bytes h a xs) (hl : xs.length ≤ (140737488355325 : Nat)) (k : ∀ s h', Sat h0 h' (buf 1 u8 s xs :: L) → Q s h') : F_slices_Clone_cbaad a h Q := by
  rw [F_slices_Clone_cbaad.eq_1, F_slices_Clone_cbaad_of.eq_1]
  have hn := (V1 h O).len
  cases e : a.ptr with
  | none =>
    refine brr_tt rfl ?_
    have hx : xs = [] := by
      cases xs with
      | nil => rfl
      | cons x xs =>
        obtain ⟨p, cs, h1, _⟩ := (V1 h O).2 0 x rfl
        rw [e] at h1; cases h1
    subst hx
    exact k _ _ O.nil_buf
  | some p =>
    refine brr_ff rfl ?_
    refine O.al fun b h O => ?_
    have O : Sat h0 h (own b (([] : List UInt8).flatMap u8 ++ []) :: L) := O
    have O := O.own_buf (k := 0) (sz := 1) (by simp)
    have O : Sat h0 h (buf 1 u8 ⟨some (pt b 0), 0, 0⟩ [] :: L) := O.bufsI
    have V2 := V1 h O.drop
    rw [← e]
    refine O.app_buf u8_len u8_one rfl (ys := xs) hn ?_ (by simp; omega) fun s h O _ => ?_
    · have := V2.rd u8_len
      simpa using this
    · exact k _ _ (by rwa [List.nil_append] at O)
theorem F_slices_Clone_abbee.is {a : Sl} {xs : List Int} {Q : Sl → Heap → Prop} (O : Sat h0 h L) (V1 : Stays h0 L fun h => View h 1 (En i64c) a xs) (hl : xs.length ≤ 1000000) (k : ∀ s h', Sat h0 h' (buf 1 i64c s xs :: L) → Q s h') : F_slices_Clone_abbee a h Q := by
  rw [F_slices_Clone_abbee.eq_1, F_slices_Clone_abbee_of.eq_1]
  have hn := (V1 h O).len
  cases e : a.ptr with
  | none =>
    refine brr_tt rfl ?_
    have hx : xs = [] := by
      cases xs with
      | nil => rfl
      | cons x xs =>
        obtain ⟨p, cs, h1, _⟩ := (V1 h O).2 0 x rfl
        rw [e] at h1; cases h1
    subst hx
    exact k _ _ O.nil_buf
  | some p =>
    refine brr_ff rfl ?_
    refine O.al fun b h O => ?_
    have O : Sat h0 h (own b (([] : List Int).flatMap i64c ++ []) :: L) := O
    have O := O.own_buf (k := 0) (sz := 1) (by simp)
    have O : Sat h0 h (buf 1 i64c ⟨some (pt b 0), 0, 0⟩ [] :: L) := O.bufsI
    have V2 := V1 h O.drop
    rw [← e]
    refine O.app_buf i64c_len i64c_one rfl (ys := xs) hn ?_ (by simp; omega) fun s h O _ => ?_
    · have := V2.rd i64c_len
      simpa using this
    · exact k _ _ (by rwa [List.nil_append] at O)
theorem View.i6 {s : Sl} {xs : List Int} {i : Int} {K : Int → Prop} {x : Int} (V : View h 1 (En i64c) s xs) (h0 : 0 ≤ i) (hx : xs[i.toNat]? = some x) (kk : K x) : ixS 1 s i fun a => ld [.int .i64] a h K :=
  V.getP h0 hx fun a ha => ld_are (ha V) (ldL_c (ldL_n kk))
theorem F_slices_Contains_cfbaf.is {s : Sl} {xs : List Int} {n : Int} {Q : Bool → Heap → Prop} (V : View h 1 (En i64c) s xs) (hl : xs.length ≤ 1000000) (k : Q (decide (n ∈ xs)) h) : F_slices_Contains_cfbaf s n h Q := by
  rw [F_slices_Contains_cfbaf.eq_1, F_slices_Contains_cfbaf_of.eq_1]
  rw [F_slices_Index_fbcab.eq_1, F_slices_Index_fbcab_of.eq_1]
  refine jn0 (fun h' => h' = h ∧ n ∉ xs) ?_ ?_
  · rintro h2 ⟨rfl, hn⟩
    rw [show decide (n ∈ xs) = false from decide_eq_false hn] at k
    exact k
  · intro j hj
    rw [F_slices_Index_fbcab.l1.eq_1]
    refine wl1 (k := .int .i64) (fun (m : Nat) (i : Int) (h' : Heap) => h' = h ∧ i + m = xs.length ∧ 0 ≤ i ∧ (∀ j : Nat, (j : Int) < i → xs[j]? ≠ some n)) ?_ (m := xs.length) ⟨rfl, by omega, by omega, fun j hj => by omega⟩
    rintro m (i : Int) h2 next hnx ⟨rfl, him, hi0, hall⟩
    rw [V.len]
    refine brr_p (fun hlt => ?_) (fun hlt => hj _ ⟨rfl, fun hm => ?_⟩)
    · obtain ⟨x, hx⟩ : ∃ x, xs[i.toNat]? = some x := ⟨_, List.getElem?_eq_getElem (by omega)⟩
      refine V.i6 hi0 hx ?_
      refine brr_eq (fun hq => ?_) (fun hq => ?_)
      · have hm : n ∈ xs := by rw [hq]; exact List.mem_of_getElem? hx
        rw [show decide (n ∈ xs) = true from decide_eq_true hm] at k
        show Q (decide (i ≥ 0)) _
        rw [show decide (i ≥ 0) = true from decide_eq_true hi0]
        exact k
      · rw [wrap64 (by omega) (by omega)]
        refine hnx (m - 1) _ _ (by omega) ⟨rfl, by omega, by omega, fun j hj => ?_⟩
        by_cases q : (j : Int) < i
        · exact hall j q
        · rw [show j = i.toNat by omega, hx]
          intro e
          cases e
          exact hq rfl
    · obtain ⟨j, hj2⟩ := List.getElem?_of_mem hm
      have := (List.getElem?_eq_some_iff.1 hj2).1
      exact hall j (by omega) hj2
theorem Sat.msgs {s : Sl} {ms : List Mg} (O : Sat h0 h (msgsR s ms :: L)) : ∃ ls : List Mg, ls.map Mg.bare = ms ∧ Sat h0 h (buf 22 mgC s ls :: many mvR ls :: L) := by
  obtain ⟨ls, O⟩ := O.ex
  obtain ⟨e, O⟩ := O.pr
  exact ⟨ls, e, O.sep⟩
theorem Sat.msgsI {s : Sl} {ls : List Mg} {ms : List Mg} (e : ls.map Mg.bare = ms) (O : Sat h0 h (buf 22 mgC s ls :: many mvR ls :: L)) : Sat h0 h (msgsR s ms :: L) := Sat.exI ls (Sat.prI e O.sepI)
abbrev sendF : Fns := fn1 42 E_slices_Clone_cbaad (fn1 86 E_quorum_Quorum_mine (fn1 95 E_quorum_nodes_in noFns))
theorem filt_take {α : Type} {l : List α} {f : α → Bool} {i : Nat} {x : α} (h : l[i]? = some x) : (l.take (i + 1)).filter f = (l.take i).filter f ++ if f x then [x] else [] := by
  obtain ⟨hi, rfl⟩ := List.getElem?_eq_some_iff.1 h
  rw [List.take_succ_eq_append_getElem hi, List.filter_append]
  congr 1
  by_cases q : f l[i] <;> simp [q]
theorem F_quorum_Quorum_send.is {p : Nat} {node shard : Int} {sc : Sl} {cop : List Int} {C : List Value} {x : Mg} {fv : Option FV} {out : Int → Bool} {Q : Sl → Heap → Prop} (hc : cop.length ≤ 1000000) (hb : x.b.length ≤ (140737488355325 : Nat))
    (Vx : Stays h0 L fun h => Bytes h x.v x.b)
    (dy : ∀ (c : Int) {M : List Res} {h : Heap} {K : Bool → Heap → Prop}, Sat h0 h (own p (.int .i64 node :: .int .i64 shard :: .slice sc.ptr sc.len sc.cap :: C) :: buf 1 i64c sc cop :: (L ++ M)) → K (out c) h → dyn1 .bool sendF (Kd.enc .fn fv) [(.int .i64 c : Value)] h K)
    (O : Sat h0 h (own p (.int .i64 node :: .int .i64 shard :: .slice sc.ptr sc.len sc.cap :: C) :: buf 1 i64c sc cop :: L))
    (k : ∀ s h', Sat h0 h' (msgsR s ((cop.filter fun c => !out c).map fun c => { x.bare with frm := node, to := c, shard := shard }) :: own p (.int .i64 node :: .int .i64 shard :: .slice sc.ptr sc.len sc.cap :: C) :: buf 1 i64c sc cop :: L) → Q s h') : F_quorum_Quorum_send (some (pt p 0)) x.kind x.frm x.to x.shard x.epoch x.te x.ts x.round x.span x.seen x.v x.peer x.num x.name x.other x.amount x.life x.id x.op x.client x.state x.bad fv h Q := by
  rw [F_quorum_Quorum_send.eq_1, F_quorum_Quorum_send_of.eq_1]
  refine O.al fun a25 h O => ?_
  refine ⟨_, rfl, ?_⟩
  refine O.ld 1 rfl (ldL_c (k := .sl) (x := sc) (ldL_n ?_))
  refine jn1 (fun s h' => Sat h0 h' (msgsR s ((cop.filter fun c => !out c).map fun c => { x.bare with frm := node, to := c, shard := shard }) :: own p (.int .i64 node :: .int .i64 shard :: .slice sc.ptr sc.len sc.cap :: C) :: buf 1 i64c sc cop :: L)) (fun s h O => k s h O) ?_
  intro j hj
  rw [F_quorum_Quorum_send.l1.eq_1]
  refine wl2 (k := .sl) (l := .int .i64) (fun (m : Nat) (s : Sl) (i : Int) (h' : Heap) => i + m = cop.length ∧ 0 ≤ i ∧ ∃ ls : List Mg, ls.map Mg.bare = ((cop.take i.toNat).filter fun c => !out c).map (fun c => { x.bare with frm := node, to := c, shard := shard }) ∧ (ls.length : Int) ≤ i ∧ Sat h0 h' (own a25 (mgC x) :: buf 22 mgC s ls :: many mvR ls :: own p (.int .i64 node :: .int .i64 shard :: .slice sc.ptr sc.len sc.cap :: C) :: buf 1 i64c sc cop :: L)) ?_ (m := cop.length) ⟨by omega, by omega, [], by simp, by simp, by
    have O2 := (O.none (f := mvR)).nil_buf (sz := 22) (enc := mgC)
    exact O2.sel [2, 0, 1, 3, 4] 5 rfl (Nat.le_add_left _ _)⟩
  clear O
  rintro m (s : Sl) (i : Int) h next hnx ⟨him, hi0, ls, hls, hll, O⟩
  have V1 := (O.view 4 i64c_len (by simp) rfl).1
  rw [V1.len]
  refine brr_p (fun hlt => ?_) (fun hlt => hj _ _ ?_)
  case refine_2 =>
    rw [List.take_of_length_le (by omega)] at hls
    exact Sat.msgsI hls (O.sel [1, 2, 3, 4] 5 rfl (Nat.le_add_left _ _))
  obtain ⟨c, hcx⟩ : ∃ c, cop[i.toNat]? = some c := ⟨_, List.getElem?_eq_getElem (by omega)⟩
  have ft := filt_take (f := fun c => !out c) hcx
  rw [show i.toNat + 1 = (i + 1).toNat by omega] at ft
  refine jn1 (fun s h' => ∃ ls : List Mg, ls.map Mg.bare = ((cop.take (i + 1).toNat).filter fun c => !out c).map (fun c => { x.bare with frm := node, to := c, shard := shard }) ∧ (ls.length : Int) ≤ i + 1 ∧ Sat h0 h' (own a25 (mgC x) :: buf 22 mgC s ls :: many mvR ls :: own p (.int .i64 node :: .int .i64 shard :: .slice sc.ptr sc.len sc.cap :: C) :: buf 1 i64c sc cop :: L)) ?_ ?_
  · clear O
    rintro s h ⟨ls, h1, h2, O⟩
    rw [wrap64 (by omega) (by omega)]
    exact hnx (m - 1) _ _ _ (by omega) ⟨by omega, by omega, ls, h1, h2, O⟩
  intro j2 hj2
  refine V1.i6 hi0 hcx ?_
  refine dy c (M := [own a25 (mgC x), buf 22 mgC s ls, many mvR ls]) ?_ ?_
  · have O2 : Sat h0 h ([own a25 (mgC x), buf 22 mgC s ls, many mvR ls] ++ (own p (.int .i64 node :: .int .i64 shard :: .slice sc.ptr sc.len sc.cap :: C) :: buf 1 i64c sc cop :: L)) := O
    exact Sat.flip O2
  cases ho : out c with
  | true =>
    refine brr_tt rfl ?_
    refine hj2 _ _ ⟨ls, ?_, by omega, O⟩
    rw [hls, ft, ho]
    simp
  | false =>
    refine brr_ff rfl ?_
    refine O.ld 0 rfl ?_
    repeat (first | (with_reducible refine ldL_n ?_) | refine ldL_s ?_ | refine ldL_c ?_)
    refine O.al fun a61 h O => ?_
    refine O.st 0 rfl (by simp) rfl fun h O => ?_
    dsimp only [V.put, List.set] at O
    refine ⟨_, rfl, ?_⟩
    refine O.ld 4 rfl (ldL_c (ldL_n ?_))
    refine ⟨_, rfl, ?_⟩
    refine O.ld 4 rfl (ldL_c (ldL_n ?_))
    refine O.ld 1 rfl (ldL_s (ldL_n ?_))
    refine F_slices_Clone_cbaad.is O (fun h O => Vx h (O.sel [] 6 rfl (Nat.le_add_left _ _))) hb fun sv h O => ?_
    refine O.ca 5 1 rfl ?_
    refine O.ca 5 1 rfl ?_
    refine st_ad (b := a61) (o := 1) rfl ?_
    refine O.st 1 rfl (by simp) rfl fun h O => ?_
    dsimp only [V.put, List.set] at O
    refine O.ca 5 1 rfl ?_
    refine st_ad (b := a61) (o := 2) rfl ?_
    refine O.st 1 rfl (by simp) rfl fun h O => ?_
    dsimp only [V.put, List.set] at O
    refine O.ca 5 1 rfl ?_
    refine st_ad (b := a61) (o := 3) rfl ?_
    refine O.st 1 rfl (by simp) rfl fun h O => ?_
    dsimp only [V.put, List.set] at O
    refine st_ad (b := a61) (o := 10) rfl ?_
    refine O.st 1 rfl (by simp) rfl fun h O => ?_
    dsimp only [V.put, List.set] at O
    refine O.ld 1 rfl ?_
    repeat (first | (with_reducible refine ldL_n ?_) | refine ldL_s ?_ | refine ldL_c ?_)
    have O := O.sel [3, 0, 2, 4, 5, 6] 7 rfl (Nat.le_add_left _ _)
    refine Sat.push_buf (enc := mgC) O { x with frm := node, to := c, shard := shard, v := sv } rfl mgC_len mgC_one (by simp [Value.cells]) (by omega) fun s2 h O _ => ?_
    generalize hy : ({ x with frm := node, to := c, shard := shard, v := sv } : Mg) = y at O
    have O : Sat h0 h (mvR y :: many mvR ls :: buf 22 mgC s2 (ls ++ [y]) :: own a25 (mgC x) :: own p (.int .i64 node :: .int .i64 shard :: .slice sc.ptr sc.len sc.cap :: C) :: buf 1 i64c sc cop :: L) := by
      rw [← hy] at O ⊢
      exact O.sel [1, 3, 0, 2, 4, 5] 6 rfl (Nat.le_add_left _ _)
    have O := Sat.more O
    refine hj2 _ _ ⟨ls ++ [y], ?_, by rw [List.length_append]; simp; omega, O.sel [2, 1, 0, 3, 4] 5 rfl (Nat.le_add_left _ _)⟩
    subst hy
    rw [List.map_append, hls, ft, ho]
    simp [Mg.bare]
end
end Go.Proofs.YtigcpkejjjgkeaaGreat.V
/- The program's quorum: its small functions; what it sends; Stop, Start. -/
namespace Go.Proofs.YtigcpkejjjgkeaaGreat.V
open Go Go.RowKit
set_option linter.unusedVariables false
set_option linter.unusedSimpArgs false
structure QS.Ok (q : QS) : Prop where
  c : q.cop.length ≤ 1000000
  v : q.val.length ≤ (140737488355325 : Nat)
  w : q.what.length ≤ (140737488355325 : Nat)
  n : q.rf.Nodup
  s : ∀ x ∈ q.rf, x ∈ q.cop
  t : 0 ≤ q.tag.2
  b : 0 ≤ q.begun
theorem dyn1_at {k : Kd} {Φ : Fns} {id : Nat} {fs vs : List Value} {h : Heap} {K : k.T → Heap → Prop} (e : Φ id (fs ++ vs) h fun u h => dec1 k u fun x => K x h) : dyn1 k Φ (Kd.enc .fn (some ⟨.func id, fs, []⟩)) vs h K :=
  ⟨_, id, rfl, rfl, by simpa using e⟩
theorem call_mine {q : Option Addr} {c : Int} {h : Heap} {K : Bool → Heap → Prop} : (sendF 86 [.pointer q, .int .i64 c] h fun u h => dec1 .bool u fun x => K x h) = F_quorum_Quorum_mine q c h K := by kernel_rfl
theorem call_in {m : Option Nat} {c : Int} {h : Heap} {K : Bool → Heap → Prop} : (sendF 95 [.map m, .int .i64 c] h fun u h => dec1 .bool u fun x => K x h) = F_quorum_nodes_in m c h K := by kernel_rfl
theorem nodup_sub_len : ∀ {l m : List Int}, l.Nodup → (∀ x ∈ l, x ∈ m) → l.length ≤ m.length
  | [], m, _, _ => Nat.zero_le _
  | x :: l, m, hn, hs => by
    rw [List.nodup_cons] at hn
    have hx := hs x List.mem_cons_self
    have := nodup_sub_len (l := l) (m := m.erase x) hn.2 fun y hy => (List.mem_erase_of_ne (by rintro rfl; exact hn.1 hy)).2 (hs y (List.mem_cons_of_mem _ hy))
    rw [List.length_erase_of_mem hx] at this
    have := List.length_pos_of_mem hx
    simp
    omega
theorem putK_nodup {l : List Int} {n : Int} (h : l.Nodup) : (putK l n).Nodup := by
  unfold putK
  split
  · exact h
  · rename_i hn
    exact List.nodup_append.2 ⟨h, by simp, fun a ha b hb => by rw [List.mem_singleton.1 hb]; exact fun e => hn (e ▸ ha)⟩
theorem putK_sub {l : List Int} {n x : Int} (h : x ∈ putK l n) : x ∈ l ∨ x = n := by
  unfold putK at h
  split at h
  · exact .inl h
  · simpa using h
section
variable {h0 h : Heap} {L : List Res} {p : Nat} {q : QS}
theorem pool_nils (O : Sat h0 h L) : Sat h0 h (poolR [(⟨none, 0, 0⟩, []), (⟨none, 0, 0⟩, [])] :: L) := O.empI.mono fun E _ e he => by
  rcases List.mem_cons.1 he with rfl | he
  · exact .inl ⟨rfl, rfl⟩
  · rw [List.mem_singleton.1 he]; exact .inl ⟨rfl, rfl⟩
def QS.fresh (node shard : Int) (cop : List Int) : QS := ⟨node, shard, cop, 0, 0, 0, (0, 0), (0, 0), [], (0, 0), [], 0, 0, [], [], [], []⟩
theorem F_quorum_New.is {node shard : Int} {s : Sl} {cop : List Int} {Q : Option Addr → Heap → Prop} (V1 : Stays h0 L fun h => View h 1 (En i64c) s cop) (hl : cop.length ≤ 1000000) (O : Sat h0 h L) (k : ∀ p h', Sat h0 h' (quR p (QS.fresh node shard cop) :: L) → Q (some (pt p 0)) h') : F_quorum_New node shard s h Q := by
  rw [F_quorum_New.eq_1, F_quorum_New_of.eq_1]
  refine F_slices_Clone_abbee.is O V1 hl fun sc h O => ?_
  refine O.alm fun m6 h O => ?_
  refine O.alm fun m8 h O => ?_
  refine O.alm fun m10 h O => ?_
  refine O.alm fun m12 h O => ?_
  refine O.al fun p h O => ?_
  refine k p h ?_
  have O := pool_nils O
  exact Sat.quI (QS.fresh node shard cop) ⟨sc, ⟨none, 0, 0⟩, ⟨none, 0, 0⟩, m6, m8, m10, m12⟩ (O.sel [1, 6, 5, 4, 3, 2, 0] 7 rfl (Nat.le_add_left _ _))
theorem F_quorum_Quorum_most.is {n : Int} {Q : Bool → Heap → Prop} (ok : q.cop.length ≤ 1000000) (O : Sat h0 h (quR p q :: L)) (k : Q (q.most n) h) : F_quorum_Quorum_most (some (pt p 0)) n h Q := by
  rw [F_quorum_Quorum_most.eq_1, F_quorum_Quorum_most_of.eq_1]
  obtain ⟨a, O⟩ := O.qu
  refine ⟨_, rfl, ?_⟩
  refine O.ld 0 rfl (ldL_c (k := .sl) (x := a.sc) (ldL_n ?_))
  refine ⟨by decide, ?_⟩
  rw [(O.view 1 i64c_len (by simp) rfl).1.len, Int.tdiv_eq_ediv_of_nonneg (by omega), wrap64 (by omega) (by omega)]
  exact k
theorem F_quorum_Quorum_Holds.is {Q : Bool → Heap → Prop} (O : Sat h0 h (quR p q :: L)) (k : Q q.holds h) : F_quorum_Quorum_Holds (some (pt p 0)) h Q := by
  rw [F_quorum_Quorum_Holds.eq_1, F_quorum_Quorum_Holds_of.eq_1]
  obtain ⟨a, O⟩ := O.qu
  refine jn1 (fun z h' => h' = h ∧ z = q.holds) (fun z h' e => by obtain ⟨rfl, rfl⟩ := e; exact k) fun j hj => ?_
  refine ⟨_, rfl, ?_⟩
  refine O.ld 0 rfl (ldL_c (ldL_n ?_))
  refine brr_eq (fun h3 => hj _ _ ⟨rfl, by simp [QS.holds, h3]⟩) (fun h3 => ?_)
  refine ⟨_, rfl, ?_⟩
  refine O.ld 0 rfl (ldL_c (ldL_n ?_))
  refine brr_eq (fun h2 => ?_) (fun h2 => hj _ _ ⟨rfl, by simp [QS.holds, h3, h2]⟩)
  refine ⟨_, rfl, ?_⟩
  refine O.ld 0 rfl (ldL_c (ldL_n ?_))
  refine hj _ _ ⟨rfl, ?_⟩
  simp only [QS.holds, h2]
  simp
theorem F_quorum_Quorum_mine.is {c : Int} {C : List Value} {M : List Res} {K : Bool → Heap → Prop} (O : Sat h0 h (own p (.int .i64 q.node :: C) :: M)) (k : K (c == q.node) h) : F_quorum_Quorum_mine (some (pt p 0)) c h K := by
  rw [F_quorum_Quorum_mine.eq_1, F_quorum_Quorum_mine_of.eq_1]
  refine ⟨_, rfl, ?_⟩
  refine O.ld 0 rfl (ldL_c (ldL_n ?_))
  exact k
theorem F_quorum_nodes_in.is {c : Int} {r i : Nat} {l : List Int} {K : Bool → Heap → Prop} (O : Sat h0 h L) (hi : nth i L = mapR r l) (k : K (decide (c ∈ l)) h) : F_quorum_nodes_in (some r) c h K := by
  rw [F_quorum_nodes_in.eq_1, F_quorum_nodes_in_of.eq_1]
  exact O.mg i hi k
theorem F_quorum_Quorum_prepares.is {Q : Sl → Heap → Prop} (ok : q.Ok) (O : Sat h0 h (quR p q :: L)) (k : ∀ s h', Sat h0 h' (msgsR s q.prepares :: quR p q :: L) → Q s h') : F_quorum_Quorum_prepares (some (pt p 0)) h Q := by
  rw [F_quorum_Quorum_prepares.eq_1, F_quorum_Quorum_prepares_of.eq_1]
  obtain ⟨a, O⟩ := O.qu
  refine ⟨_, rfl, ?_⟩
  refine O.ld 0 rfl (ldL_c (ldL_n ?_))
  refine F_quorum_Quorum_send.is (x := { mgz with kind := 1, epoch := q.epoch }) (out := fun c => c == q.node) ok.c (by show (0 : Nat) ≤ _; decide) (fun h O => View.nil (p := none) (c := 0)) (fun c {M h K} O kk => ?_) O fun s h O => ?_
  · refine dyn1_at ?_
    refine Eq.mpr call_mine ?_
    exact F_quorum_Quorum_mine.is O kk
  · exact k _ _ (Sat.quI q a (O.sel [1, 2, 3, 4, 5, 6, 7, 0] 8 rfl (Nat.le_add_left _ _)) |>.swap)
theorem F_quorum_Quorum_writes.is {span : Int} {Q : Sl → Heap → Prop} (ok : q.Ok) (O : Sat h0 h (quR p q :: L)) (k : ∀ s h', Sat h0 h' (msgsR s (q.writes span) :: quR p q :: L) → Q s h') : F_quorum_Quorum_writes (some (pt p 0)) span h Q := by
  rw [F_quorum_Quorum_writes.eq_1, F_quorum_Quorum_writes_of.eq_1]
  obtain ⟨a, O⟩ := O.qu
  refine ⟨_, rfl, ?_⟩
  refine O.ld 0 rfl (ldL_c (ldL_c (ldL_n ?_)))
  refine ⟨_, rfl, ?_⟩
  refine O.ld 0 rfl (ldL_c (k := .sl) (x := a.sv) (ldL_n ?_))
  refine ⟨_, rfl, ?_⟩
  refine O.ld 0 rfl (ldL_c (k := .map) (x := some a.r2) (ldL_n ?_))
  refine F_quorum_Quorum_send.is (x := { mgz with kind := 4, te := q.tag.1, ts := q.tag.2, span := span, v := a.sv, b := q.val }) (out := fun c => decide (c ∈ q.wr)) ok.c ok.v (fun h O => pool_view O 4 (by simp) rfl (e := (a.sv, q.val)) (by simp)) (fun c {M h K} O kk => ?_) O fun s h O => ?_
  · refine dyn1_at ?_
    refine Eq.mpr call_in ?_
    exact F_quorum_nodes_in.is O (i := 3) rfl kk
  · exact k _ _ (Sat.quI q a (O.sel [1, 2, 3, 4, 5, 6, 7, 0] 8 rfl (Nat.le_add_left _ _)) |>.swap)
theorem F_quorum_Quorum_beats.is {span : Int} {Q : Sl → Heap → Prop} (ok : q.Ok) (O : Sat h0 h (quR p q :: L)) (k : ∀ s h', Sat h0 h' (msgsR s (q.beats span) :: quR p q :: L) → Q s h') : F_quorum_Quorum_beats (some (pt p 0)) span h Q := by
  rw [F_quorum_Quorum_beats.eq_1, F_quorum_Quorum_beats_of.eq_1]
  obtain ⟨a, O⟩ := O.qu
  refine ⟨_, rfl, ?_⟩
  refine O.ld 0 rfl (ldL_c (ldL_n ?_))
  refine ⟨_, rfl, ?_⟩
  refine O.ld 0 rfl (ldL_c (ldL_n ?_))
  refine ⟨_, rfl, ?_⟩
  refine O.ld 0 rfl (ldL_c (k := .map) (x := some a.r4) (ldL_n ?_))
  refine F_quorum_Quorum_send.is (x := { mgz with kind := 6, epoch := q.epoch, round := q.begun, span := span }) (out := fun c => decide (c ∈ q.bt)) ok.c (by show (0 : Nat) ≤ _; decide) (fun h O => View.nil (p := none) (c := 0)) (fun c {M h K} O kk => ?_) O fun s h O => ?_
  · refine dyn1_at ?_
    refine Eq.mpr call_in ?_
    exact F_quorum_nodes_in.is O (i := 5) rfl kk
  · exact k _ _ (Sat.quI q a (O.sel [1, 2, 3, 4, 5, 6, 7, 0] 8 rfl (Nat.le_add_left _ _)) |>.swap)
theorem QS.Ok.wrt (ok : q.Ok) {seq : Int} (hs : 0 ≤ seq) : (q.wrt seq).Ok := ⟨ok.c, ok.v, ok.w, ok.n, ok.s, hs, ok.b⟩
theorem F_quorum_Quorum_write.is {seq span : Int} {Q : Sl → Heap → Prop} (ok : q.Ok) (hs : 0 ≤ seq) (O : Sat h0 h (quR p q :: L)) (k : ∀ s h', Sat h0 h' (msgsR s ((q.wrt seq).writes span) :: quR p (q.wrt seq) :: L) → Q s h') : F_quorum_Quorum_write (some (pt p 0)) seq span h Q := by
  rw [F_quorum_Quorum_write.eq_1, F_quorum_Quorum_write_of.eq_1]
  obtain ⟨a, O⟩ := O.qu
  refine ⟨_, rfl, ?_⟩
  refine O.ld 0 rfl (ldL_c (ldL_n ?_))
  refine ⟨_, rfl, ?_⟩
  refine st_ad (b := p) (o := 3) rfl ?_
  refine O.st 0 rfl (by simp) rfl fun h O => ?_
  dsimp only [V.put, List.set] at O
  refine ⟨_, rfl, ?_⟩
  refine st_ad (b := p) (o := 8) rfl ?_
  refine O.st 0 rfl (by simp) rfl fun h O => ?_
  dsimp only [V.put, List.set] at O
  refine ⟨_, rfl, ?_⟩
  refine O.ld 0 rfl (ldL_c (k := .map) (x := some a.r2) (ldL_n ?_))
  refine O.mclr 3 rfl fun h O => ?_
  exact F_quorum_Quorum_writes.is (ok.wrt hs) (Sat.quI (q.wrt seq) a O) k
theorem F_quorum_Quorum_Stop.is {Q : Heap → Prop} (O : Sat h0 h (quR p q :: L)) (k : ∀ h', Sat h0 h' (quR p q.stop :: L) → Q h') : F_quorum_Quorum_Stop (some (pt p 0)) h Q := by
  rw [F_quorum_Quorum_Stop.eq_1, F_quorum_Quorum_Stop_of.eq_1]
  obtain ⟨a, O⟩ := O.qu
  refine ⟨_, rfl, ?_⟩
  refine st_ad (b := p) (o := 3) rfl ?_
  refine O.st 0 rfl (by simp) rfl fun h O => ?_
  dsimp only [V.put, List.set] at O
  refine ⟨_, rfl, ?_⟩
  refine st_ad (b := p) (o := 4) rfl ?_
  refine O.st 0 rfl (by simp) rfl fun h O => ?_
  dsimp only [V.put, List.set] at O
  refine ⟨_, rfl, ?_⟩
  refine st_ad (b := p) (o := 8) rfl ?_
  refine O.st 0 rfl (by simp) rfl fun h O => ?_
  dsimp only [V.put, List.set] at O
  refine ⟨_, rfl, ?_⟩
  refine st_ad (b := p) (o := 11) rfl ?_
  refine O.st 0 rfl (by simp) rfl fun h O => ?_
  dsimp only [V.put, List.set] at O
  refine ⟨_, rfl, ?_⟩
  refine st_ad (b := p) (o := 10) rfl ?_
  refine O.st 0 rfl (by simp) rfl fun h O => ?_
  dsimp only [V.put, List.set] at O
  refine ⟨_, rfl, ?_⟩
  refine st_ad (b := p) (o := 13) rfl ?_
  refine O.st 0 rfl (by simp) rfl fun h O => ?_
  dsimp only [V.put, List.set] at O
  refine ⟨_, rfl, ?_⟩
  refine st_ad (b := p) (o := 14) rfl ?_
  refine O.st 0 rfl (by simp) rfl fun h O => ?_
  dsimp only [V.put, List.set] at O
  refine ⟨_, rfl, ?_⟩
  refine st_ad (b := p) (o := 15) rfl ?_
  refine O.st 0 rfl (by simp) rfl fun h O => ?_
  dsimp only [V.put, List.set] at O
  refine ⟨_, rfl, ?_⟩
  refine O.ld 0 rfl (ldL_c (k := .map) (x := some a.r1) (ldL_n ?_))
  refine ⟨_, rfl, ?_⟩
  refine O.ld 0 rfl (ldL_c (k := .map) (x := some a.r2) (ldL_n ?_))
  refine ⟨_, rfl, ?_⟩
  refine O.ld 0 rfl (ldL_c (k := .map) (x := some a.r3) (ldL_n ?_))
  refine ⟨_, rfl, ?_⟩
  refine O.ld 0 rfl (ldL_c (k := .map) (x := some a.r4) (ldL_n ?_))
  refine O.al fun x h O => ?_
  have O : Sat h0 h (own x [.map (some a.r1), .map (some a.r2), .map (some a.r3), .map (some a.r4)] :: own p [.int .i64 q.node, .int .i64 q.shard, .slice a.sc.ptr a.sc.len a.sc.cap, .int .i64 0, .int .u64 0, .int .u64 q.seen, .int .u64 q.best.1, .int .u64 q.best.2, .int .u64 0, .int .u64 0, .slice none 0 0, .int .u64 0, .int .u64 0, .slice none 0 0, .int .u64 0, .int .u64 0, .map (some a.r1), .map (some a.r2), .map (some a.r3), .map (some a.r4)] :: buf 1 i64c a.sc q.cop :: mapR a.r1 q.pm :: mapR a.r2 q.wr :: mapR a.r3 q.rf :: mapR a.r4 q.bt :: poolR [(a.sv, q.val), (a.sw, q.what)] :: L) := O
  refine jn0 (fun h' => Sat h0 h' (quR p q.stop :: L)) (fun h O => k h O) fun j hj => ?_
  rw [F_quorum_Quorum_Stop.l1.eq_1]
  refine wl1 (k := .int .i64) (fun (m : Nat) (i : Int) (h' : Heap) => i + m = 4 ∧ 0 ≤ i ∧ Sat h0 h' (own x [.map (some a.r1), .map (some a.r2), .map (some a.r3), .map (some a.r4)] :: own p [.int .i64 q.node, .int .i64 q.shard, .slice a.sc.ptr a.sc.len a.sc.cap, .int .i64 0, .int .u64 0, .int .u64 q.seen, .int .u64 q.best.1, .int .u64 q.best.2, .int .u64 0, .int .u64 0, .slice none 0 0, .int .u64 0, .int .u64 0, .slice none 0 0, .int .u64 0, .int .u64 0, .map (some a.r1), .map (some a.r2), .map (some a.r3), .map (some a.r4)] :: buf 1 i64c a.sc q.cop :: mapR a.r1 (if 0 < i then [] else q.pm) :: mapR a.r2 (if 1 < i then [] else q.wr) :: mapR a.r3 (if 2 < i then [] else q.rf) :: mapR a.r4 (if 3 < i then [] else q.bt) :: poolR [(a.sv, q.val), (a.sw, q.what)] :: L)) ?_ (m := 4) ⟨by omega, by omega, by simpa using O⟩
  clear O
  rintro m (i : Int) h next hnx ⟨him, hi0, O⟩
  refine brr_p (fun hlt => ?_) (fun hlt => hj _ ?_)
  case refine_2 =>
    have hlt : ¬ i < 4 := hlt
    rw [if_pos (show 0 < i by omega), if_pos (show 1 < i by omega), if_pos (show 2 < i by omega), if_pos (show 3 < i by omega)] at O
    have O := pool_nils (O.sel [1, 2, 3, 4, 5, 6] 8 rfl (Nat.le_add_left _ _))
    exact Sat.quI q.stop ⟨a.sc, ⟨none, 0, 0⟩, ⟨none, 0, 0⟩, a.r1, a.r2, a.r3, a.r4⟩ (O.sel [1, 2, 3, 4, 5, 6, 0] 7 rfl (Nat.le_add_left _ _))
  have hlt : i < 4 := hlt
  have hi : i = 0 ∨ i = 1 ∨ i = 2 ∨ i = 3 := by omega
  rcases hi with rfl | rfl | rfl | rfl
  · refine ⟨_, rfl, by decide, (show (0 : Int) < 4 by decide), ?_⟩
    refine O.ld 0 rfl (ldL_c (k := .map) (x := some a.r1) (ldL_n ?_))
    refine O.mclr 3 rfl fun h O => ?_
    rw [wrap64 (by omega) (by omega)]
    exact hnx 3 _ _ (by omega) ⟨by omega, by omega, O⟩
  · refine ⟨_, rfl, by decide, (show (1 : Int) < 4 by decide), ?_⟩
    refine O.ld 0 rfl (ldL_c (k := .map) (x := some a.r2) (ldL_n ?_))
    refine O.mclr 4 rfl fun h O => ?_
    rw [wrap64 (by omega) (by omega)]
    exact hnx 2 _ _ (by omega) ⟨by omega, by omega, O⟩
  · refine ⟨_, rfl, by decide, (show (2 : Int) < 4 by decide), ?_⟩
    refine O.ld 0 rfl (ldL_c (k := .map) (x := some a.r3) (ldL_n ?_))
    refine O.mclr 5 rfl fun h O => ?_
    rw [wrap64 (by omega) (by omega)]
    exact hnx 1 _ _ (by omega) ⟨by omega, by omega, O⟩
  · refine ⟨_, rfl, by decide, (show (3 : Int) < 4 by decide), ?_⟩
    refine O.ld 0 rfl (ldL_c (k := .map) (x := some a.r4) (ldL_n ?_))
    refine O.mclr 6 rfl fun h O => ?_
    rw [wrap64 (by omega) (by omega)]
    exact hnx 0 _ _ (by omega) ⟨by omega, by omega, O⟩
theorem QS.Ok.stop (ok : q.Ok) : q.stop.Ok := ⟨ok.c, by simp [QS.stop], by simp [QS.stop], List.nodup_nil, fun x hx => absurd hx List.not_mem_nil, Int.le_refl _, Int.le_refl _⟩
theorem QS.Ok.start0 (ok : q.Ok) {e te ts : Int} {b : List UInt8} (hb : b.length ≤ (140737488355325 : Nat)) : (q.start0 e te ts b).Ok := ⟨ok.c, hb, by simp [QS.start0, QS.stop], List.nodup_nil, fun x hx => absurd hx List.not_mem_nil, Int.le_refl _, Int.le_refl _⟩
theorem QS.Ok.start (ok : q.Ok) {e te ts span : Int} {b : List UInt8} (hb : b.length ≤ (140737488355325 : Nat)) : (q.start e te ts b span).1.Ok := by
  unfold QS.start
  split
  · exact (ok.start0 hb).wrt (by decide)
  · exact ok.start0 hb
theorem F_quorum_Quorum_Start.is {e e0 te ts span : Int} {v : Sl} {b : List UInt8} {Q : Sl → Heap → Prop} (ok : q.Ok) (hb : b.length ≤ (140737488355325 : Nat)) (Vv : Stays h0 L fun h => Bytes h v b) (O : Sat h0 h (quR p q :: L)) (k : ∀ s h', Sat h0 h' (msgsR s (q.start e te ts b span).2 :: quR p (q.start e te ts b span).1 :: L) → Q s h') : F_quorum_Quorum_Start (some (pt p 0)) e e0 te ts v span h Q := by
  rw [F_quorum_Quorum_Start.eq_1, F_quorum_Quorum_Start_of.eq_1]
  refine O.al fun x h O => ?_
  refine F_quorum_Quorum_Stop.is O.swap fun h O => ?_
  obtain ⟨a, O⟩ := O.qu
  have ok0 := ok.start0 (e := e) (te := te) (ts := ts) hb
  refine ⟨_, rfl, ?_⟩
  refine st_ad (b := p) (o := 3) rfl ?_
  refine O.st 0 rfl (by simp) rfl fun h O => ?_
  dsimp only [V.put, List.set] at O
  refine ⟨_, rfl, ?_⟩
  refine st_ad (b := p) (o := 4) rfl ?_
  refine O.st 0 rfl (by simp) rfl fun h O => ?_
  dsimp only [V.put, List.set] at O
  refine O.ld 7 rfl (ldL_c (ldL_c (ldL_n ?_)))
  refine O.ld 7 rfl (ldL_c (k := .sl) (x := v) (ldL_n ?_))
  refine F_slices_Clone_cbaad.is O (fun h O => Vv h (O.sel [] 8 rfl (Nat.le_add_left _ _))) hb fun sv h O => ?_
  refine O.ca 8 2 rfl ?_
  refine ⟨_, rfl, ?_⟩
  refine st_ad (b := p) (o := 6) rfl ?_
  refine O.st 1 rfl (by simp) rfl fun h O => ?_
  dsimp only [V.put, List.set] at O
  refine ⟨_, rfl, ?_⟩
  refine st_ad (b := p) (o := 10) rfl ?_
  refine O.st 1 rfl (by simp) rfl fun h O => ?_
  dsimp only [V.put, List.set] at O
  refine ⟨_, rfl, ?_⟩
  refine O.ld 1 rfl (ldL_c (k := .map) (x := some a.r1) (ldL_n ?_))
  refine ⟨_, rfl, ?_⟩
  refine O.ld 1 rfl (ldL_c (ldL_n ?_))
  refine O.mput 3 rfl fun h O => ?_
  have O2 := pool_take (O.sel [0, 7, 1, 2, 3, 4, 5, 6] 9 rfl (Nat.le_add_left _ _))
  have O2 := pool_sub O2 (fs := [(sv, b), (a.sw, [])]) (by
    intro e he
    simp only [List.mem_cons, List.not_mem_nil, or_false] at he
    rcases he with rfl | rfl
    · simp
    · simp [QS.stop])
  have O : Sat h0 h (quR p (q.start0 e te ts b) :: L) := Sat.quI (q.start0 e te ts b) ⟨a.sc, sv, a.sw, a.r1, a.r2, a.r3, a.r4⟩ (O2.sel [1, 2, 3, 4, 5, 6, 0] 7 rfl (Nat.le_add_left _ _))
  refine F_quorum_Quorum_most.is ok0.c O ?_
  unfold QS.start at k
  refine brr_of (fun hm => ?_) (fun hm => ?_)
  · rw [if_pos hm] at k
    exact F_quorum_Quorum_write.is ok0 (by decide) O k
  · rw [if_neg (by simp [hm])] at k
    exact F_quorum_Quorum_prepares.is ok0 O k
end
end Go.Proofs.YtigcpkejjjgkeaaGreat.V
/- The program's quorum: what it does with a message of each kind; Hear. -/
namespace Go.Proofs.YtigcpkejjjgkeaaGreat.V
open Go Go.RowKit
set_option linter.unusedVariables false
set_option linter.unusedSimpArgs false
section
variable {h0 h : Heap} {L : List Res} {p : Nat} {q : QS} {m : Mg}
theorem msgs_none (O : Sat h0 h L) : Sat h0 h (msgsR ⟨none, 0, 0⟩ [] :: L) := Sat.msgsI (ls := []) rfl ((O.none (f := mvR)).nil_buf (sz := 22) (enc := mgC))
theorem F_quorum_above.is {a b c d : Int} {Q : Bool → Heap → Prop} (O : Sat h0 h L) (k : ∀ h', Sat h0 h' L → Q (decide (tagLt c d a b)) h') : F_quorum_above a b c d h Q := by
  rw [F_quorum_above.eq_1, F_quorum_above_of.eq_1]
  refine O.al fun x h O => ?_
  refine O.al fun y h O => ?_
  refine jn1 (fun z h' => h' = h ∧ z = decide (tagLt c d a b)) (fun z h' e => by obtain ⟨rfl, rfl⟩ := e; exact k _ O.drop.drop) fun j hj => ?_
  refine O.ld 1 rfl (ldL_c (ldL_n ?_))
  refine O.ld 0 rfl (ldL_c (ldL_n ?_))
  refine brr_p (fun h1 => hj _ _ ⟨rfl, (decide_eq_true (by unfold tagLt; omega)).symm⟩) (fun h1 => ?_)
  refine O.ld 1 rfl (ldL_c (ldL_n ?_))
  refine O.ld 0 rfl (ldL_c (ldL_n ?_))
  refine brr_eq (fun h2 => ?_) (fun h2 => hj _ _ ⟨rfl, (decide_eq_false (by unfold tagLt; omega)).symm⟩)
  refine O.ld 1 rfl (ldL_c (ldL_n ?_))
  refine O.ld 0 rfl (ldL_c (ldL_n ?_))
  exact hj _ _ ⟨rfl, decide_eq_decide.2 (by unfold tagLt; omega)⟩
theorem QS.Ok.prom (ok : q.Ok) (hb : m.b.length ≤ (140737488355325 : Nat)) : (q.prom m).Ok := by
  unfold QS.prom
  split
  · exact ⟨ok.c, hb, ok.w, ok.n, ok.s, ok.t, ok.b⟩
  · exact ⟨ok.c, ok.v, ok.w, ok.n, ok.s, ok.t, ok.b⟩
theorem QS.Ok.promise (ok : q.Ok) (hb : m.b.length ≤ (140737488355325 : Nat)) (span : Int) : (q.promise m span).1.Ok := by
  unfold QS.promise
  split
  · exact ok
  · split
    · exact (ok.prom hb).wrt (by decide)
    · exact ok.prom hb
theorem F_quorum_Quorum_promise.is {span : Int} {Q : Sl → Heap → Prop} (ok : q.Ok) (hb : m.b.length ≤ (140737488355325 : Nat)) (Vv : Stays h0 L fun h => Bytes h m.v m.b) (O : Sat h0 h (quR p q :: L)) (k : ∀ s h', Sat h0 h' (msgsR s (q.promise m span).2 :: quR p (q.promise m span).1 :: L) → Q s h') : F_quorum_Quorum_promise (some (pt p 0)) m.kind m.frm m.to m.shard m.epoch m.te m.ts m.round m.span m.seen m.v m.peer m.num m.name m.other m.amount m.life m.id m.op m.client m.state m.bad span h Q := by
  rw [F_quorum_Quorum_promise.eq_1, F_quorum_Quorum_promise_of.eq_1]
  refine O.al fun x h O => ?_
  obtain ⟨a, O⟩ := O.swap.qu
  have O : Sat h0 h (own p [.int .i64 q.node, .int .i64 q.shard, .slice a.sc.ptr a.sc.len a.sc.cap, .int .i64 q.phase, .int .u64 q.epoch, .int .u64 q.seen, .int .u64 q.best.1, .int .u64 q.best.2, .int .u64 q.tag.1, .int .u64 q.tag.2, .slice a.sv.ptr a.sv.len a.sv.cap, .int .u64 q.chosen.1, .int .u64 q.chosen.2, .slice a.sw.ptr a.sw.len a.sw.cap, .int .u64 q.begun, .int .u64 q.done, .map (some a.r1), .map (some a.r2), .map (some a.r3), .map (some a.r4)] :: buf 1 i64c a.sc q.cop :: mapR a.r1 q.pm :: mapR a.r2 q.wr :: mapR a.r3 q.rf :: mapR a.r4 q.bt :: poolR [(a.sv, q.val), (a.sw, q.what)] :: own x (mgC m) :: L) := O
  refine jn1 (fun z h' => h' = h ∧ z = decide (q.phase ≠ 1 ∨ m.epoch ≠ q.epoch ∨ m.frm ∈ q.pm)) ?_ ?_
  case refine_2 =>
    intro j hj
    refine ⟨_, rfl, ?_⟩
    refine O.ld 0 rfl (ldL_c (ldL_n ?_))
    refine brr_ne (fun h1 => hj _ _ ⟨rfl, by simp [h1]⟩) (fun h1 => ?_)
    refine O.ld 7 rfl (ldL_c (ldL_n ?_))
    refine ⟨_, rfl, ?_⟩
    refine O.ld 0 rfl (ldL_c (ldL_n ?_))
    refine brr_ne (fun h2 => hj _ _ ⟨rfl, by simp [h2]⟩) (fun h2 => ?_)
    refine ⟨_, rfl, ?_⟩
    refine O.ld 0 rfl (ldL_c (k := .map) (x := some a.r1) (ldL_n ?_))
    refine O.ld 7 rfl (ldL_c (ldL_n ?_))
    refine O.mg 2 rfl ?_
    exact hj _ _ ⟨rfl, by simp [h1, h2]⟩
  rintro z h2 ⟨rfl, rfl⟩
  unfold QS.promise at k
  refine brr_p (fun hc => ?_) (fun hc => ?_)
  · rw [if_pos hc] at k
    exact k _ _ (msgs_none (Sat.quI q a (O.sel [0, 1, 2, 3, 4, 5, 6] 8 rfl (Nat.le_add_left _ _))))
  rw [if_neg hc] at k
  refine ⟨_, rfl, ?_⟩
  refine O.ld 0 rfl (ldL_c (k := .map) (x := some a.r1) (ldL_n ?_))
  refine O.ld 7 rfl (ldL_c (ldL_n ?_))
  refine O.mput 2 rfl fun h O => ?_
  refine O.ld 7 rfl (ldL_c (ldL_c (ldL_n ?_)))
  refine ⟨_, rfl, ?_⟩
  refine O.ld 0 rfl (ldL_c (ldL_c (ldL_n ?_)))
  refine F_quorum_above.is O fun h O => ?_
  have okp := ok.prom (m := m) hb
  refine jn0 (fun h' => Sat h0 h' (quR p (q.prom m) :: L)) ?_ ?_
  · clear O
    intro h O
    obtain ⟨a, O1⟩ := O.qu
    refine ⟨_, rfl, ?_⟩
    refine O1.ld 0 rfl (ldL_c (k := .map) (x := some a.r1) (ldL_n ?_))
    refine O1.mlen 2 rfl ?_
    refine F_quorum_Quorum_most.is okp.c O ?_
    refine brr_of (fun hm => ?_) (fun hm => ?_)
    · rw [if_pos hm] at k
      exact F_quorum_Quorum_write.is okp (by decide) O k
    · rw [if_neg (by simp [hm])] at k
      exact k _ _ (msgs_none O)
  · intro j hj
    refine brr_p (fun ht => ?_) (fun ht => ?_)
    · refine O.ld 7 rfl (ldL_c (ldL_c (ldL_n ?_)))
      refine O.ld 7 rfl (ldL_c (k := .sl) (x := m.v) (ldL_n ?_))
      refine F_slices_Clone_cbaad.is O (fun h O => Vv h (O.sel [] 8 rfl (Nat.le_add_left _ _))) hb fun sv h O => ?_
      refine O.ca 8 2 rfl ?_
      refine ⟨_, rfl, ?_⟩
      refine st_ad (b := p) (o := 6) rfl ?_
      refine O.st 1 rfl (by simp) rfl fun h O => ?_
      dsimp only [V.put, List.set] at O
      refine ⟨_, rfl, ?_⟩
      refine st_ad (b := p) (o := 10) rfl ?_
      refine O.st 1 rfl (by simp) rfl fun h O => ?_
      dsimp only [V.put, List.set] at O
      have O2 := pool_take (O.sel [0, 7, 1, 2, 3, 4, 5, 6] 9 rfl (Nat.le_add_left _ _))
      have O2 := pool_sub O2 (fs := [(sv, m.b), (a.sw, q.what)]) (by
        intro e he
        simp only [List.mem_cons, List.not_mem_nil, or_false] at he
        rcases he with rfl | rfl <;> simp)
      refine hj _ ?_
      unfold QS.prom
      rw [if_pos ht]
      exact Sat.quI ({ q with pm := putK q.pm m.frm, best := (m.te, m.ts), val := m.b }) ⟨a.sc, sv, a.sw, a.r1, a.r2, a.r3, a.r4⟩ (O2.sel [1, 2, 3, 4, 5, 6, 0] 7 rfl (Nat.le_add_left _ _))
    · refine hj _ ?_
      unfold QS.prom
      rw [if_neg ht]
      exact Sat.quI ({ q with pm := putK q.pm m.frm }) a (O.sel [0, 1, 2, 3, 4, 5, 6] 8 rfl (Nat.le_add_left _ _))
theorem QS.Ok.stored (ok : q.Ok) : (q.stored m).Ok := by
  unfold QS.stored
  split
  · split
    · exact ⟨ok.c, ok.v, ok.v, ok.n, ok.s, ok.t, ok.b⟩
    · exact ⟨ok.c, ok.v, ok.w, ok.n, ok.s, ok.t, ok.b⟩
  · exact ok
theorem F_quorum_Quorum_stored.is {span : Int} {Q : Sl → Heap → Prop} (ok : q.Ok) (O : Sat h0 h (quR p q :: L)) (k : ∀ s h', Sat h0 h' (msgsR s [] :: quR p (q.stored m) :: L) → Q s h') : F_quorum_Quorum_stored (some (pt p 0)) m.kind m.frm m.to m.shard m.epoch m.te m.ts m.round m.span m.seen m.v m.peer m.num m.name m.other m.amount m.life m.id m.op m.client m.state m.bad span h Q := by
  rw [F_quorum_Quorum_stored.eq_1, F_quorum_Quorum_stored_of.eq_1]
  refine O.al fun x h O => ?_
  obtain ⟨a, O⟩ := O.swap.qu
  have O : Sat h0 h (own p [.int .i64 q.node, .int .i64 q.shard, .slice a.sc.ptr a.sc.len a.sc.cap, .int .i64 q.phase, .int .u64 q.epoch, .int .u64 q.seen, .int .u64 q.best.1, .int .u64 q.best.2, .int .u64 q.tag.1, .int .u64 q.tag.2, .slice a.sv.ptr a.sv.len a.sv.cap, .int .u64 q.chosen.1, .int .u64 q.chosen.2, .slice a.sw.ptr a.sw.len a.sw.cap, .int .u64 q.begun, .int .u64 q.done, .map (some a.r1), .map (some a.r2), .map (some a.r3), .map (some a.r4)] :: buf 1 i64c a.sc q.cop :: mapR a.r1 q.pm :: mapR a.r2 q.wr :: mapR a.r3 q.rf :: mapR a.r4 q.bt :: poolR [(a.sv, q.val), (a.sw, q.what)] :: own x (mgC m) :: L) := O
  refine jn1 (fun z h' => h' = h ∧ z = decide (q.phase = 2 ∧ m.te = q.tag.1 ∧ m.ts = q.tag.2)) ?_ ?_
  case refine_2 =>
    intro j hj
    refine ⟨_, rfl, ?_⟩
    refine O.ld 0 rfl (ldL_c (ldL_n ?_))
    refine brr_eq (fun h1 => ?_) (fun h1 => hj _ _ ⟨rfl, by simp [h1]⟩)
    refine O.ld 7 rfl (ldL_c (ldL_c (ldL_n ?_)))
    refine ⟨_, rfl, ?_⟩
    refine O.ld 0 rfl (ldL_c (ldL_c (ldL_n ?_)))
    refine hj _ _ ⟨rfl, ?_⟩
    rw [Bool.eq_iff_iff]
    simp [h1]
  rintro z h2 ⟨rfl, rfl⟩
  unfold QS.stored at k
  refine jn0 (fun h' => Sat h0 h' (quR p (if q.phase = 2 ∧ m.te = q.tag.1 ∧ m.ts = q.tag.2 then if q.most ((putK q.wr m.frm).length : Nat) = true then { q with wr := putK q.wr m.frm, phase := 3, chosen := q.tag, what := q.val } else { q with wr := putK q.wr m.frm } else q) :: L)) (fun h O => k _ _ (msgs_none O)) fun j hj => ?_
  refine brr_p (fun hc => ?_) (fun hc => ?_)
  case refine_2 =>
    rw [if_neg hc] at hj
    exact hj _ (Sat.quI q a (O.sel [0, 1, 2, 3, 4, 5, 6] 8 rfl (Nat.le_add_left _ _)))
  rw [if_pos hc] at hj
  refine ⟨_, rfl, ?_⟩
  refine O.ld 0 rfl (ldL_c (k := .map) (x := some a.r2) (ldL_n ?_))
  refine O.ld 7 rfl (ldL_c (ldL_n ?_))
  refine O.mput 3 rfl fun h O => ?_
  refine ⟨_, rfl, ?_⟩
  refine O.ld 0 rfl (ldL_c (k := .map) (x := some a.r2) (ldL_n ?_))
  refine O.mlen 3 rfl ?_
  have Om := Sat.quI ({ q with wr := putK q.wr m.frm }) a (O.sel [0, 1, 2, 3, 4, 5, 6] 8 rfl (Nat.le_add_left _ _))
  refine F_quorum_Quorum_most.is (q := { q with wr := putK q.wr m.frm }) ok.c Om ?_
  refine jn_go ?_
  refine brr_of (fun hm => ?_) (fun hm => ?_)
  · rw [if_pos (show q.most _ = true from hm)] at hj
    refine ⟨_, rfl, ?_⟩
    refine O.ld 0 rfl (ldL_c (ldL_c (ldL_n ?_)))
    refine ⟨_, rfl, ?_⟩
    refine O.ld 0 rfl (ldL_c (k := .sl) (x := a.sv) (ldL_n ?_))
    refine ⟨_, rfl, ?_⟩
    refine st_ad (b := p) (o := 3) rfl ?_
    refine O.st 0 rfl (by simp) rfl fun h O => ?_
    dsimp only [V.put, List.set] at O
    refine ⟨_, rfl, ?_⟩
    refine st_ad (b := p) (o := 11) rfl ?_
    refine O.st 0 rfl (by simp) rfl fun h O => ?_
    dsimp only [V.put, List.set] at O
    refine ⟨_, rfl, ?_⟩
    refine st_ad (b := p) (o := 13) rfl ?_
    refine O.st 0 rfl (by simp) rfl fun h O => ?_
    dsimp only [V.put, List.set] at O
    have O2 := pool_sub (O.sel [6, 0, 1, 2, 3, 4, 5] 8 rfl (Nat.le_add_left _ _)) (fs := [(a.sv, q.val), (a.sv, q.val)]) (by
      intro e he
      simp only [List.mem_cons, List.not_mem_nil, or_false] at he
      rcases he with rfl | rfl <;> simp)
    exact hj _ (Sat.quI ({ q with wr := putK q.wr m.frm, phase := 3, chosen := q.tag, what := q.val }) ⟨a.sc, a.sv, a.sv, a.r1, a.r2, a.r3, a.r4⟩ (O2.sel [1, 2, 3, 4, 5, 6, 0] 7 rfl (Nat.le_add_left _ _)))
  · rw [if_neg (show ¬ q.most _ = true by have hm : q.most ((putK q.wr m.frm).length : Nat) = false := hm; simp [hm])] at hj
    exact hj _ Om
theorem QS.Ok.refuse (ok : q.Ok) (hm : m.frm ∈ q.cop) : (q.refuse m).Ok := by
  unfold QS.refuse
  split
  · exact ⟨ok.c, ok.v, ok.w, ok.n, ok.s, ok.t, ok.b⟩
  · split
    · refine ⟨ok.c, ok.v, ok.w, putK_nodup ok.n, fun x hx => ?_, ok.t, ok.b⟩
      rcases putK_sub hx with hx | rfl
      · exact ok.s x hx
      · exact hm
    · exact QS.Ok.stop ⟨ok.c, ok.v, ok.w, ok.n, ok.s, ok.t, ok.b⟩
theorem F_quorum_Quorum_refuse.is {span : Int} {Q : Sl → Heap → Prop} (ok : q.Ok) (hm : m.frm ∈ q.cop) (O : Sat h0 h (quR p q :: L)) (k : ∀ s h', Sat h0 h' (msgsR s [] :: quR p (q.refuse m) :: L) → Q s h') : F_quorum_Quorum_refuse (some (pt p 0)) m.kind m.frm m.to m.shard m.epoch m.te m.ts m.round m.span m.seen m.v m.peer m.num m.name m.other m.amount m.life m.id m.op m.client m.state m.bad span h Q := by
  rw [F_quorum_Quorum_refuse.eq_1, F_quorum_Quorum_refuse_of.eq_1]
  refine O.al fun x h O => ?_
  obtain ⟨a, O⟩ := O.swap.qu
  have O : Sat h0 h (own p [.int .i64 q.node, .int .i64 q.shard, .slice a.sc.ptr a.sc.len a.sc.cap, .int .i64 q.phase, .int .u64 q.epoch, .int .u64 q.seen, .int .u64 q.best.1, .int .u64 q.best.2, .int .u64 q.tag.1, .int .u64 q.tag.2, .slice a.sv.ptr a.sv.len a.sv.cap, .int .u64 q.chosen.1, .int .u64 q.chosen.2, .slice a.sw.ptr a.sw.len a.sw.cap, .int .u64 q.begun, .int .u64 q.done, .map (some a.r1), .map (some a.r2), .map (some a.r3), .map (some a.r4)] :: buf 1 i64c a.sc q.cop :: mapR a.r1 q.pm :: mapR a.r2 q.wr :: mapR a.r3 q.rf :: mapR a.r4 q.bt :: poolR [(a.sv, q.val), (a.sw, q.what)] :: own x (mgC m) :: L) := O
  refine ⟨_, rfl, ?_⟩
  refine O.ld 0 rfl (ldL_c (ldL_n ?_))
  refine O.ld 7 rfl (ldL_c (ldL_n ?_))
  refine ⟨_, rfl, ?_⟩
  refine st_ad (b := p) (o := 5) rfl ?_
  refine O.st 0 rfl (by simp) rfl fun h O => ?_
  dsimp only [V.put, List.set] at O
  have O : Sat h0 h (own p [.int .i64 q.node, .int .i64 q.shard, .slice a.sc.ptr a.sc.len a.sc.cap, .int .i64 q.phase, .int .u64 q.epoch, .int .u64 (if m.seen > q.seen then m.seen else q.seen), .int .u64 q.best.1, .int .u64 q.best.2, .int .u64 q.tag.1, .int .u64 q.tag.2, .slice a.sv.ptr a.sv.len a.sv.cap, .int .u64 q.chosen.1, .int .u64 q.chosen.2, .slice a.sw.ptr a.sw.len a.sw.cap, .int .u64 q.begun, .int .u64 q.done, .map (some a.r1), .map (some a.r2), .map (some a.r3), .map (some a.r4)] :: buf 1 i64c a.sc q.cop :: mapR a.r1 q.pm :: mapR a.r2 q.wr :: mapR a.r3 q.rf :: mapR a.r4 q.bt :: poolR [(a.sv, q.val), (a.sw, q.what)] :: own x (mgC m) :: L) := O
  refine jn1 (fun z h' => h' = h ∧ z = decide (q.phase = 0 ∨ m.epoch ≠ q.epoch ∨ m.seen ≤ q.epoch)) ?_ ?_
  case refine_2 =>
    intro j hj
    refine ⟨_, rfl, ?_⟩
    refine O.ld 0 rfl (ldL_c (ldL_n ?_))
    refine brr_eq (fun h1 => hj _ _ ⟨rfl, by simp [h1]⟩) (fun h1 => ?_)
    refine O.ld 7 rfl (ldL_c (ldL_n ?_))
    refine ⟨_, rfl, ?_⟩
    refine O.ld 0 rfl (ldL_c (ldL_n ?_))
    refine brr_ne (fun h2 => hj _ _ ⟨rfl, by simp [h2]⟩) (fun h2 => ?_)
    refine O.ld 7 rfl (ldL_c (ldL_n ?_))
    refine ⟨_, rfl, ?_⟩
    refine O.ld 0 rfl (ldL_c (ldL_n ?_))
    exact hj _ _ ⟨rfl, by simp [h1, h2]⟩
  rintro z h2 ⟨rfl, rfl⟩
  unfold QS.refuse at k
  refine brr_p (fun hc => ?_) (fun hc => ?_)
  · rw [if_pos hc] at k
    exact k _ _ (msgs_none (Sat.quI (q.heed m) a (O.sel [0, 1, 2, 3, 4, 5, 6] 8 rfl (Nat.le_add_left _ _))))
  rw [if_neg hc] at k
  refine ⟨_, rfl, ?_⟩
  refine O.ld 0 rfl (ldL_c (k := .map) (x := some a.r3) (ldL_n ?_))
  refine O.ld 7 rfl (ldL_c (ldL_n ?_))
  refine O.mput 4 rfl fun h O => ?_
  have Om := Sat.quI ({ q.heed m with rf := putK q.rf m.frm }) a (O.sel [0, 1, 2, 3, 4, 5, 6] 8 rfl (Nat.le_add_left _ _))
  clear O
  have hrl : (putK q.rf m.frm).length ≤ q.cop.length := nodup_sub_len (putK_nodup ok.n) fun x hx => by
    rcases putK_sub hx with hx | rfl
    · exact ok.s x hx
    · exact hm
  have hcl := ok.c
  refine jn1 (fun z h' => z = !decide (q.holds = true ∧ q.most ((q.cop.length : Int) - ((putK q.rf m.frm).length : Nat)) = true) ∧ Sat h0 h' (quR p { q.heed m with rf := putK q.rf m.frm } :: L)) ?_ ?_
  case refine_2 =>
    intro j hj
    refine F_quorum_Quorum_Holds.is Om ?_
    refine brr_not ?_
    refine brr_of (fun hh => ?_) (fun hh => ?_)
    case refine_2 => exact hj _ _ ⟨by have hh : q.holds = false := hh; simp [hh], Om⟩
    obtain ⟨a2, O⟩ := Om.qu
    refine ⟨_, rfl, ?_⟩
    refine O.ld 0 rfl (ldL_c (k := .sl) (x := a2.sc) (ldL_n ?_))
    rw [(O.view 1 i64c_len (by simp) rfl).1.len]
    refine ⟨_, rfl, ?_⟩
    refine O.ld 0 rfl (ldL_c (k := .map) (x := some a2.r3) (ldL_n ?_))
    refine O.mlen 4 rfl ?_
    have ec : ({ q.heed m with rf := putK q.rf m.frm } : QS).cop = q.cop := rfl
    have er : ({ q.heed m with rf := putK q.rf m.frm } : QS).rf = putK q.rf m.frm := rfl
    rw [ec, er, wrap64 (by omega) (by omega)]
    refine F_quorum_Quorum_most.is (q := { q.heed m with rf := putK q.rf m.frm }) ok.c Om ?_
    refine hj _ _ ⟨?_, Om⟩
    have hh : q.holds = true := hh
    have em : ∀ n, ({ q.heed m with rf := putK q.rf m.frm } : QS).most n = q.most n := fun n => rfl
    rw [em]
    cases q.most ((q.cop.length : Int) - ((putK q.rf m.frm).length : Nat)) <;> simp [hh]
  rintro z h ⟨rfl, O⟩
  refine jn0 (fun h' => Sat h0 h' (quR p (if q.holds = true ∧ q.most ((q.cop.length : Int) - ((putK q.rf m.frm).length : Nat)) = true then { q.heed m with rf := putK q.rf m.frm } else (q.heed m).stop) :: L)) (fun h O => k _ _ (msgs_none O)) fun j hj => ?_
  refine brr_not ?_
  refine brr_p (fun hc => ?_) (fun hc => ?_)
  · rw [if_pos hc] at hj
    exact hj _ O
  · rw [if_neg hc] at hj
    exact F_quorum_Quorum_Stop.is O hj
theorem QS.Ok.beat (ok : q.Ok) : (q.beat m).Ok := by
  unfold QS.beat
  split
  · split
    · exact ⟨ok.c, ok.v, ok.w, ok.n, ok.s, ok.t, ok.b⟩
    · exact ⟨ok.c, ok.v, ok.w, ok.n, ok.s, ok.t, ok.b⟩
  · exact ok
theorem F_quorum_Quorum_beat.is {span : Int} {Q : Sl → Heap → Prop} (ok : q.Ok) (O : Sat h0 h (quR p q :: L)) (k : ∀ s h', Sat h0 h' (msgsR s [] :: quR p (q.beat m) :: L) → Q s h') : F_quorum_Quorum_beat (some (pt p 0)) m.kind m.frm m.to m.shard m.epoch m.te m.ts m.round m.span m.seen m.v m.peer m.num m.name m.other m.amount m.life m.id m.op m.client m.state m.bad span h Q := by
  rw [F_quorum_Quorum_beat.eq_1, F_quorum_Quorum_beat_of.eq_1]
  refine O.al fun x h O => ?_
  have Oq := O.swap
  obtain ⟨a, O⟩ := O.swap.qu
  have O : Sat h0 h (own p [.int .i64 q.node, .int .i64 q.shard, .slice a.sc.ptr a.sc.len a.sc.cap, .int .i64 q.phase, .int .u64 q.epoch, .int .u64 q.seen, .int .u64 q.best.1, .int .u64 q.best.2, .int .u64 q.tag.1, .int .u64 q.tag.2, .slice a.sv.ptr a.sv.len a.sv.cap, .int .u64 q.chosen.1, .int .u64 q.chosen.2, .slice a.sw.ptr a.sw.len a.sw.cap, .int .u64 q.begun, .int .u64 q.done, .map (some a.r1), .map (some a.r2), .map (some a.r3), .map (some a.r4)] :: buf 1 i64c a.sc q.cop :: mapR a.r1 q.pm :: mapR a.r2 q.wr :: mapR a.r3 q.rf :: mapR a.r4 q.bt :: poolR [(a.sv, q.val), (a.sw, q.what)] :: own x (mgC m) :: L) := O
  refine jn1 (fun z h' => h' = h ∧ z = decide (q.holds = true ∧ q.begun ≠ q.done ∧ m.epoch = q.epoch ∧ m.round = q.begun)) ?_ ?_
  case refine_2 =>
    intro j hj
    refine F_quorum_Quorum_Holds.is Oq ?_
    refine brr_of (fun hh => ?_) (fun hh => hj _ _ ⟨rfl, by simp [hh]⟩)
    refine ⟨_, rfl, ?_⟩
    refine O.ld 0 rfl (ldL_c (ldL_n ?_))
    refine ⟨_, rfl, ?_⟩
    refine O.ld 0 rfl (ldL_c (ldL_n ?_))
    refine brr_ne (fun h1 => ?_) (fun h1 => hj _ _ ⟨rfl, by simp [h1]⟩)
    refine O.ld 7 rfl (ldL_c (ldL_n ?_))
    refine ⟨_, rfl, ?_⟩
    refine O.ld 0 rfl (ldL_c (ldL_n ?_))
    refine brr_eq (fun h2 => ?_) (fun h2 => hj _ _ ⟨rfl, by simp [h2]⟩)
    refine O.ld 7 rfl (ldL_c (ldL_n ?_))
    refine ⟨_, rfl, ?_⟩
    refine O.ld 0 rfl (ldL_c (ldL_n ?_))
    refine hj _ _ ⟨rfl, ?_⟩
    rw [Bool.eq_iff_iff]
    simp [hh, h1, h2]
  rintro z h2 ⟨rfl, rfl⟩
  unfold QS.beat at k
  refine jn0 (fun h' => Sat h0 h' (quR p (if q.holds = true ∧ q.begun ≠ q.done ∧ m.epoch = q.epoch ∧ m.round = q.begun then if q.most ((putK q.bt m.frm).length : Nat) = true then { q with bt := putK q.bt m.frm, done := q.begun } else { q with bt := putK q.bt m.frm } else q) :: L)) (fun h O => k _ _ (msgs_none O)) fun j hj => ?_
  refine brr_p (fun hc => ?_) (fun hc => ?_)
  case refine_2 =>
    rw [if_neg hc] at hj
    exact hj _ (Sat.quI q a (O.sel [0, 1, 2, 3, 4, 5, 6] 8 rfl (Nat.le_add_left _ _)))
  rw [if_pos hc] at hj
  refine ⟨_, rfl, ?_⟩
  refine O.ld 0 rfl (ldL_c (k := .map) (x := some a.r4) (ldL_n ?_))
  refine O.ld 7 rfl (ldL_c (ldL_n ?_))
  refine O.mput 5 rfl fun h O => ?_
  refine ⟨_, rfl, ?_⟩
  refine O.ld 0 rfl (ldL_c (k := .map) (x := some a.r4) (ldL_n ?_))
  refine O.mlen 5 rfl ?_
  have Om := Sat.quI ({ q with bt := putK q.bt m.frm }) a (O.sel [0, 1, 2, 3, 4, 5, 6] 8 rfl (Nat.le_add_left _ _))
  refine F_quorum_Quorum_most.is (q := { q with bt := putK q.bt m.frm }) ok.c Om ?_
  refine jn_go ?_
  refine brr_of (fun hm => ?_) (fun hm => ?_)
  · rw [if_pos (show q.most _ = true from hm)] at hj
    refine ⟨_, rfl, ?_⟩
    refine O.ld 0 rfl (ldL_c (ldL_n ?_))
    refine ⟨_, rfl, ?_⟩
    refine st_ad (b := p) (o := 15) rfl ?_
    refine O.st 0 rfl (by simp) rfl fun h O => ?_
    dsimp only [V.put, List.set] at O
    exact hj _ (Sat.quI ({ q with bt := putK q.bt m.frm, done := q.begun }) a (O.sel [0, 1, 2, 3, 4, 5, 6] 8 rfl (Nat.le_add_left _ _)))
  · rw [if_neg (show ¬ q.most _ = true by have hm : q.most ((putK q.bt m.frm).length : Nat) = false := hm; simp [hm])] at hj
    exact hj _ Om
end
theorem push_setQ {h : Heap} {o o' : Obj} : (h.push o).setIfInBounds h.size o' = h.push o' := by
  apply Array.ext_getElem?
  intro i
  rw [Array.getElem?_setIfInBounds, Array.getElem?_push, Array.getElem?_push]
  by_cases hi : h.size = i
  · subst hi; simp
  · rw [if_neg hi, if_neg (Ne.symm hi), if_neg (Ne.symm hi)]
theorem KeptH.pushQ (h : Heap) (o : Obj) : KeptH h (h.push o) := ⟨by simp, fun k hk => by rw [Array.getElem?_push, if_neg (by omega)]⟩
def kindsM : Array MapEntry := #[⟨.int .i64 2, .func (.func 90) #[] #[], 0⟩, ⟨.int .i64 5, .func (.func 91) #[] #[], 1⟩, ⟨.int .i64 3, .func (.func 92) #[] #[], 2⟩, ⟨.int .i64 7, .func (.func 93) #[] #[], 3⟩]
theorem mput_pushQ {kk : IntKind} {n : Int} {v : Value} {h : Heap} {es : Array MapEntry} {c : Nat} {q : Option (Nat × Value)} {K : Heap → Prop} (hq : findM kk n es = some q) (k : K (h.push (putM es c q (.int kk n) v))) : mput kk (some h.size) n v (h.push (.map es c)) K :=
  ⟨es, c, q, by simp, hq, by rw [push_setQ]; exact k⟩
theorem F_quorum_kinds.is {h : Heap} {Q : Option Nat → Heap → Prop} (k : Q (some h.size) (h.push (.map kindsM 4))) : F_quorum_kinds h Q := by
  rw [F_quorum_kinds.eq_1, F_quorum_kinds_of.eq_1]
  unfold alM
  refine mput_pushQ (q := none) rfl ?_
  refine mput_pushQ (q := none) rfl ?_
  refine mput_pushQ (q := none) rfl ?_
  refine mput_pushQ (q := none) rfl ?_
  exact k
theorem find_kinds {n : Int} {h : Heap} {K : Option FV → Bool → Prop} (k2 : n = 2 → K (some ⟨.func 90, [], []⟩) true) (k5 : n = 5 → K (some ⟨.func 91, [], []⟩) true) (k3 : n = 3 → K (some ⟨.func 92, [], []⟩) true) (k7 : n = 7 → K (some ⟨.func 93, [], []⟩) true) (k0 : n ≠ 2 → n ≠ 5 → n ≠ 3 → n ≠ 7 → K none false) : mg .fn .i64 (some h.size) n .nilFunc (h.push (.map kindsM 4)) K := by
  by_cases h2 : n = 2
  · exact ⟨kindsM, 4, some (0, .func (.func 90) #[] #[]), by simp, by subst h2; rfl, k2 h2⟩
  by_cases h5 : n = 5
  · exact ⟨kindsM, 4, some (1, .func (.func 91) #[] #[]), by simp, by subst h5; rfl, k5 h5⟩
  by_cases h3 : n = 3
  · exact ⟨kindsM, 4, some (2, .func (.func 92) #[] #[]), by simp, by subst h3; rfl, k3 h3⟩
  by_cases h7 : n = 7
  · exact ⟨kindsM, 4, some (3, .func (.func 93) #[] #[]), by simp, by subst h7; rfl, k7 h7⟩
  · refine ⟨kindsM, 4, none, by simp, ?_, k0 h2 h5 h3 h7⟩
    have e2 : (n == 2) = false := by simpa using h2
    have e5 : (n == 5) = false := by simpa using h5
    have e3 : (n == 3) = false := by simpa using h3
    have e7 : (n == 7) = false := by simpa using h7
    simp [findM, kindsM, Instr.findNow, Instr.sameNow, e2, e5, e3, e7]
abbrev kindF : Fns := fn1 61 E_quorum_kinds (fn1 62 E_slices_Contains_cfbaf (fn1 90 E_quorum_Quorum_promise (fn1 91 E_quorum_Quorum_stored (fn1 92 E_quorum_Quorum_refuse (fn1 93 E_quorum_Quorum_beat noFns)))))
theorem call_promise {p : Option Addr} {m : Mg} {span : Int} {h : Heap} {K : Sl → Heap → Prop} : (kindF 90 [.pointer p, .agg (mgC m).toArray, .int .i64 span] h fun u h => dec1 .sl u fun x => K x h) = F_quorum_Quorum_promise p m.kind m.frm m.to m.shard m.epoch m.te m.ts m.round m.span m.seen m.v m.peer m.num m.name m.other m.amount m.life m.id m.op m.client m.state m.bad span h K := by kernel_rfl
theorem call_stored {p : Option Addr} {m : Mg} {span : Int} {h : Heap} {K : Sl → Heap → Prop} : (kindF 91 [.pointer p, .agg (mgC m).toArray, .int .i64 span] h fun u h => dec1 .sl u fun x => K x h) = F_quorum_Quorum_stored p m.kind m.frm m.to m.shard m.epoch m.te m.ts m.round m.span m.seen m.v m.peer m.num m.name m.other m.amount m.life m.id m.op m.client m.state m.bad span h K := by kernel_rfl
theorem call_refuse {p : Option Addr} {m : Mg} {span : Int} {h : Heap} {K : Sl → Heap → Prop} : (kindF 92 [.pointer p, .agg (mgC m).toArray, .int .i64 span] h fun u h => dec1 .sl u fun x => K x h) = F_quorum_Quorum_refuse p m.kind m.frm m.to m.shard m.epoch m.te m.ts m.round m.span m.seen m.v m.peer m.num m.name m.other m.amount m.life m.id m.op m.client m.state m.bad span h K := by kernel_rfl
theorem call_beat {p : Option Addr} {m : Mg} {span : Int} {h : Heap} {K : Sl → Heap → Prop} : (kindF 93 [.pointer p, .agg (mgC m).toArray, .int .i64 span] h fun u h => dec1 .sl u fun x => K x h) = F_quorum_Quorum_beat p m.kind m.frm m.to m.shard m.epoch m.te m.ts m.round m.span m.seen m.v m.peer m.num m.name m.other m.amount m.life m.id m.op m.client m.state m.bad span h K := by kernel_rfl
end Go.Proofs.YtigcpkejjjgkeaaGreat.V
/- The program's quorum: Hear, Propose, Tick, what it tells of itself. -/
namespace Go.Proofs.YtigcpkejjjgkeaaGreat.V
open Go Go.RowKit
set_option linter.unusedVariables false
set_option linter.unusedSimpArgs false
section
variable {h0 h : Heap} {L : List Res} {p : Nat} {q : QS} {m : Mg}
theorem QS.Ok.hear (ok : q.Ok) (hb : m.b.length ≤ (140737488355325 : Nat)) (span : Int) : (q.hear m span).1.Ok := by
  unfold QS.hear
  by_cases h : m.to ≠ q.node ∨ m.shard ≠ q.shard ∨ m.frm ∉ q.cop
  · rw [if_pos h]; exact ok
  rw [if_neg h]
  have hc : m.frm ∈ q.cop := Decidable.byContradiction fun hn => h (.inr (.inr hn))
  split
  · exact ok.promise hb span
  split
  · exact ok.stored
  split
  · exact ok.refuse hc
  split
  · exact ok.beat
  · exact ok
theorem F_quorum_Quorum_Hear.is {span : Int} {Q : Sl → Heap → Prop} (ok : q.Ok) (hb : m.b.length ≤ (140737488355325 : Nat)) (Vv : Stays h0 L fun h => Bytes h m.v m.b) (O : Sat h0 h (quR p q :: L)) (k : ∀ s h', Sat h0 h' (msgsR s (q.hear m span).2 :: quR p (q.hear m span).1 :: L) → Q s h') : F_quorum_Quorum_Hear (some (pt p 0)) m.kind m.frm m.to m.shard m.epoch m.te m.ts m.round m.span m.seen m.v m.peer m.num m.name m.other m.amount m.life m.id m.op m.client m.state m.bad span h Q := by
  rw [F_quorum_Quorum_Hear.eq_1, F_quorum_Quorum_Hear_of.eq_1]
  refine O.al fun x h O => ?_
  refine O.ld 0 rfl (ldL_c (ldL_n ?_))
  refine F_quorum_kinds.is ?_
  have O := O.kept2 (KeptH.pushQ h (.map kindsM 4))
  refine O.ca 0 1 rfl ?_
  have fk := @find_kinds m.kind h
  generalize h.push (.map kindsM 4) = h at O fk ⊢
  have Oq := O.swap
  obtain ⟨a, O⟩ := O.swap.qu
  have O : Sat h0 h (own p [.int .i64 q.node, .int .i64 q.shard, .slice a.sc.ptr a.sc.len a.sc.cap, .int .i64 q.phase, .int .u64 q.epoch, .int .u64 q.seen, .int .u64 q.best.1, .int .u64 q.best.2, .int .u64 q.tag.1, .int .u64 q.tag.2, .slice a.sv.ptr a.sv.len a.sv.cap, .int .u64 q.chosen.1, .int .u64 q.chosen.2, .slice a.sw.ptr a.sw.len a.sw.cap, .int .u64 q.begun, .int .u64 q.done, .map (some a.r1), .map (some a.r2), .map (some a.r3), .map (some a.r4)] :: buf 1 i64c a.sc q.cop :: mapR a.r1 q.pm :: mapR a.r2 q.wr :: mapR a.r3 q.rf :: mapR a.r4 q.bt :: poolR [(a.sv, q.val), (a.sw, q.what)] :: own x (mgC m) :: L) := O
  have cond : ∀ j : Bool → Heap → Prop, (∀ z h', (h' = h ∧ z = decide (m.to ≠ q.node ∨ m.shard ≠ q.shard ∨ m.frm ∉ q.cop)) → j z h') → ld [.int .i64] (((pt x 0).add 0).add 2) h fun (v34 : Int) => nn (some (pt p 0)) fun (a35 : Addr) => ld [.int .i64] (a35.add 0) h fun (v36 : Int) => brr (v34 != v36) (j true h) (ld [.int .i64] (((pt x 0).add 0).add 3) h fun (v37 : Int) => nn (some (pt p 0)) fun (a38 : Addr) => ld [.int .i64] (a38.add 1) h fun (v39 : Int) => brr (v37 != v39) (j true h) (nn (some (pt p 0)) fun (a40 : Addr) => ld [.sl] (a40.add 2) h fun (v41 : Sl) => ld [.int .i64] (((pt x 0).add 0).add 1) h fun (v42 : Int) => F_slices_Contains_cfbaf v41 v42 h fun (r43 : Bool) (h44 : Heap) => j (!r43) h44)) := by
    intro j hj
    refine O.ld 7 rfl (ldL_c (ldL_n ?_))
    refine ⟨_, rfl, ?_⟩
    refine O.ld 0 rfl (ldL_c (ldL_n ?_))
    refine brr_ne (fun h1 => hj _ _ ⟨rfl, by simp [h1]⟩) (fun h1 => ?_)
    refine O.ld 7 rfl (ldL_c (ldL_n ?_))
    refine ⟨_, rfl, ?_⟩
    refine O.ld 0 rfl (ldL_c (ldL_n ?_))
    refine brr_ne (fun h2 => hj _ _ ⟨rfl, by simp [h2]⟩) (fun h2 => ?_)
    refine ⟨_, rfl, ?_⟩
    refine O.ld 0 rfl (ldL_c (k := .sl) (x := a.sc) (ldL_n ?_))
    refine O.ld 7 rfl (ldL_c (ldL_n ?_))
    refine F_slices_Contains_cfbaf.is (O.view 1 i64c_len (by simp) rfl).1 ok.c ?_
    refine hj _ _ ⟨rfl, ?_⟩
    rw [Bool.eq_iff_iff]
    simp [h1, h2]
  have Vm : Stays h0 (own x (mgC m) :: L) fun h => Bytes h m.v m.b := fun h O => Vv h O.drop
  have k2 : ∀ {r : QS × List Mg} {s : Sl} {h' : Heap}, (∀ s h', Sat h0 h' (msgsR s r.2 :: quR p r.1 :: L) → Q s h') → Sat h0 h' (msgsR s r.2 :: quR p r.1 :: own x (mgC m) :: L) → Q s h' := fun k O => k _ _ (O.sel [0, 1] 3 rfl (Nat.le_add_left _ _))
  refine fk (fun hk => ?_) (fun hk => ?_) (fun hk => ?_) (fun hk => ?_) (fun n2 n5 n3 n7 => ?_)
  · have e : q.hear m span = if m.to ≠ q.node ∨ m.shard ≠ q.shard ∨ m.frm ∉ q.cop then (q, []) else q.promise m span := by
      unfold QS.hear
      simp [hk]
    rw [e] at k
    refine jn1 (fun z h' => h' = h ∧ z = decide (m.to ≠ q.node ∨ m.shard ≠ q.shard ∨ m.frm ∉ q.cop)) ?_ ?_
    case refine_2 =>
      intro j hj
      exact cond j hj
    rintro z h2 ⟨rfl, rfl⟩
    refine brr_p (fun hc => ?_) (fun hc => ?_)
    · rw [if_pos hc] at k
      exact k _ _ (msgs_none (Oq.sel [0] 2 rfl (Nat.le_add_left _ _)))
    rw [if_neg hc] at k
    have hcop : m.frm ∈ q.cop := Decidable.byContradiction fun hn => hc (.inr (.inr hn))
    refine O.ld 7 rfl ?_
    repeat (first | (with_reducible refine ldL_n ?_) | refine ldL_s ?_ | refine ldL_c ?_)
    refine dyn1_at (fs := []) ?_
    refine Eq.mpr (call_promise (m := m)) ?_
    exact F_quorum_Quorum_promise.is ok hb Vm Oq fun s h O => k2 k O
  · have e : q.hear m span = if m.to ≠ q.node ∨ m.shard ≠ q.shard ∨ m.frm ∉ q.cop then (q, []) else (q.stored m, []) := by
      unfold QS.hear
      simp [hk]
    rw [e] at k
    refine jn1 (fun z h' => h' = h ∧ z = decide (m.to ≠ q.node ∨ m.shard ≠ q.shard ∨ m.frm ∉ q.cop)) ?_ ?_
    case refine_2 =>
      intro j hj
      exact cond j hj
    rintro z h2 ⟨rfl, rfl⟩
    refine brr_p (fun hc => ?_) (fun hc => ?_)
    · rw [if_pos hc] at k
      exact k _ _ (msgs_none (Oq.sel [0] 2 rfl (Nat.le_add_left _ _)))
    rw [if_neg hc] at k
    have hcop : m.frm ∈ q.cop := Decidable.byContradiction fun hn => hc (.inr (.inr hn))
    refine O.ld 7 rfl ?_
    repeat (first | (with_reducible refine ldL_n ?_) | refine ldL_s ?_ | refine ldL_c ?_)
    refine dyn1_at (fs := []) ?_
    refine Eq.mpr (call_stored (m := m)) ?_
    exact F_quorum_Quorum_stored.is ok Oq fun s h O => k2 k O
  · have e : q.hear m span = if m.to ≠ q.node ∨ m.shard ≠ q.shard ∨ m.frm ∉ q.cop then (q, []) else (q.refuse m, []) := by
      unfold QS.hear
      simp [hk]
    rw [e] at k
    refine jn1 (fun z h' => h' = h ∧ z = decide (m.to ≠ q.node ∨ m.shard ≠ q.shard ∨ m.frm ∉ q.cop)) ?_ ?_
    case refine_2 =>
      intro j hj
      exact cond j hj
    rintro z h2 ⟨rfl, rfl⟩
    refine brr_p (fun hc => ?_) (fun hc => ?_)
    · rw [if_pos hc] at k
      exact k _ _ (msgs_none (Oq.sel [0] 2 rfl (Nat.le_add_left _ _)))
    rw [if_neg hc] at k
    have hcop : m.frm ∈ q.cop := Decidable.byContradiction fun hn => hc (.inr (.inr hn))
    refine O.ld 7 rfl ?_
    repeat (first | (with_reducible refine ldL_n ?_) | refine ldL_s ?_ | refine ldL_c ?_)
    refine dyn1_at (fs := []) ?_
    refine Eq.mpr (call_refuse (m := m)) ?_
    exact F_quorum_Quorum_refuse.is ok hcop Oq fun s h O => k2 k O
  · have e : q.hear m span = if m.to ≠ q.node ∨ m.shard ≠ q.shard ∨ m.frm ∉ q.cop then (q, []) else (q.beat m, []) := by
      unfold QS.hear
      simp [hk]
    rw [e] at k
    refine jn1 (fun z h' => h' = h ∧ z = decide (m.to ≠ q.node ∨ m.shard ≠ q.shard ∨ m.frm ∉ q.cop)) ?_ ?_
    case refine_2 =>
      intro j hj
      exact cond j hj
    rintro z h2 ⟨rfl, rfl⟩
    refine brr_p (fun hc => ?_) (fun hc => ?_)
    · rw [if_pos hc] at k
      exact k _ _ (msgs_none (Oq.sel [0] 2 rfl (Nat.le_add_left _ _)))
    rw [if_neg hc] at k
    have hcop : m.frm ∈ q.cop := Decidable.byContradiction fun hn => hc (.inr (.inr hn))
    refine O.ld 7 rfl ?_
    repeat (first | (with_reducible refine ldL_n ?_) | refine ldL_s ?_ | refine ldL_c ?_)
    refine dyn1_at (fs := []) ?_
    refine Eq.mpr (call_beat (m := m)) ?_
    exact F_quorum_Quorum_beat.is ok Oq fun s h O => k2 k O
  · have e : q.hear m span = (q, []) := by
      unfold QS.hear
      rw [if_neg n2, if_neg n5, if_neg n3, if_neg n7]
      split <;> rfl
    rw [e] at k
    refine jn1 (fun z h' => h' = h ∧ z = true) ?_ ?_
    case refine_2 =>
      intro j hj
      exact hj _ _ ⟨rfl, rfl⟩
    rintro z h2 ⟨rfl, rfl⟩
    refine brr_tt rfl ?_
    exact k _ _ (msgs_none (Oq.sel [0] 2 rfl (Nat.le_add_left _ _)))
theorem QS.Ok.propose (ok : q.Ok) {b : List UInt8} (hb : b.length ≤ (140737488355325 : Nat)) (span : Int) : (q.propose b span).1.Ok := by
  unfold QS.propose
  split
  · exact ok
  · have := ok.t
    exact QS.Ok.wrt (q := { q with val := b }) ⟨ok.c, hb, ok.w, ok.n, ok.s, ok.t, ok.b⟩ (by omega)
theorem F_quorum_Quorum_Propose.is {v : Sl} {b : List UInt8} {span : Int} {Q : Sl → Bool → Heap → Prop} (ok : q.Ok) (hb : b.length ≤ (140737488355325 : Nat)) (Vv : Stays h0 L fun h => Bytes h v b) (O : Sat h0 h (quR p q :: L)) (k : ∀ s h', Sat h0 h' (msgsR s (q.propose b span).2.1 :: quR p (q.propose b span).1 :: L) → Q s (q.propose b span).2.2 h') : F_quorum_Quorum_Propose (some (pt p 0)) v span h Q := by
  rw [F_quorum_Quorum_Propose.eq_1, F_quorum_Quorum_Propose_of.eq_1]
  have Oq := O
  obtain ⟨a, O⟩ := O.qu
  have hb0 := ok.t
  refine jn1 (fun z h' => h' = h ∧ z = decide (q.phase ≠ 3 ∨ (1099511627776 : Int) ≤ q.tag.2)) ?_ ?_
  case refine_2 =>
    intro j hj
    refine ⟨_, rfl, ?_⟩
    refine O.ld 0 rfl (ldL_c (ldL_n ?_))
    refine brr_ne (fun h1 => hj _ _ ⟨rfl, by simp [h1]⟩) (fun h1 => ?_)
    refine ⟨_, rfl, ?_⟩
    refine O.ld 0 rfl (ldL_c (ldL_n ?_))
    exact hj _ _ ⟨rfl, by simp [h1]⟩
  rintro z h2 ⟨rfl, rfl⟩
  unfold QS.propose at k
  refine brr_p (fun hc => ?_) (fun hc => ?_)
  · rw [if_pos hc] at k
    exact k _ _ (msgs_none Oq)
  rw [if_neg hc] at k
  refine F_slices_Clone_cbaad.is O (fun h O => Vv h (O.sel [] 7 rfl (Nat.le_add_left _ _))) hb fun sv h O => ?_
  refine ⟨_, rfl, ?_⟩
  refine st_ad (b := p) (o := 10) rfl ?_
  refine O.st 1 rfl (by simp) rfl fun h O => ?_
  dsimp only [V.put, List.set] at O
  refine ⟨_, rfl, ?_⟩
  refine O.ld 1 rfl (ldL_c (ldL_n ?_))
  have O2 := pool_take (O.sel [0, 7, 1, 2, 3, 4, 5, 6] 8 rfl (Nat.le_add_left _ _))
  have O2 := pool_sub O2 (fs := [(sv, b), (a.sw, q.what)]) (by
    intro e he
    simp only [List.mem_cons, List.not_mem_nil, or_false] at he
    rcases he with rfl | rfl <;> simp)
  have Oq := Sat.quI ({ q with val := b }) ⟨a.sc, sv, a.sw, a.r1, a.r2, a.r3, a.r4⟩ (O2.sel [1, 2, 3, 4, 5, 6, 0] 7 rfl (Nat.le_add_left _ _))
  have hw : IntKind.u64.wrap (q.tag.2 + 1) = q.tag.2 + 1 := by unfold IntKind.wrap; simp [IntKind.signed, IntKind.bits]; omega
  rw [hw]
  exact F_quorum_Quorum_write.is (q := { q with val := b }) ⟨ok.c, hb, ok.w, ok.n, ok.s, ok.t, ok.b⟩ (by omega) Oq k
theorem Sat.manyApp {α : Type} {f : α → Res} {xs ys : List α} (O : Sat h0 h (many f xs :: many f ys :: L)) : Sat h0 h (many f (xs ++ ys) :: L) := by
  refine O.sepI.mono fun E hE => ?_
  obtain ⟨E1, E2, p1, h1, h2⟩ := hE
  have := star_app h1 h2
  rw [← List.map_append] at this
  exact star_perm this p1
theorem QS.Ok.tick (ok : q.Ok) (span : Int) : (q.tick span).1.Ok := by
  have := ok.b
  unfold QS.tick
  split
  · exact ok
  split
  · split
    · exact ok
    · exact ⟨ok.c, ok.v, ok.w, ok.n, ok.s, ok.t, by show 0 ≤ q.begun + 1; omega⟩
  · exact ok
theorem send_len {x : Mg} {out : Int → Bool} : (q.send x out).length ≤ q.cop.length := by
  unfold QS.send
  rw [List.length_map]
  exact List.length_filter_le _ _
theorem tick0_len {span : Int} : (q.tick0 span).length ≤ q.cop.length := by
  unfold QS.tick0
  split
  · exact send_len
  split
  · exact send_len
  · simp
theorem F_quorum_Quorum_Tick.is {span : Int} {Q : Sl → Heap → Prop} (ok : q.Ok) (O : Sat h0 h (quR p q :: L)) (k : ∀ s h', Sat h0 h' (msgsR s (q.tick span).2 :: quR p (q.tick span).1 :: L) → Q s h') : F_quorum_Quorum_Tick (some (pt p 0)) span h Q := by
  rw [F_quorum_Quorum_Tick.eq_1, F_quorum_Quorum_Tick_of.eq_1]
  have hb0 := ok.b
  have hcl := ok.c
  have ht0 := tick0_len (q := q) (span := span)
  obtain ⟨a0, O1⟩ := O.qu
  refine ⟨_, rfl, ?_⟩
  refine O1.ld 0 rfl (ldL_c (ldL_n ?_))
  clear O1
  refine jn1 (fun s h' => Sat h0 h' (msgsR s (q.tick0 span) :: quR p q :: L)) ?_ ?_
  case refine_2 =>
    intro j hj
    unfold QS.tick0 at hj
    refine brr_eq (fun h1 => ?_) (fun h1 => ?_)
    · rw [if_pos h1] at hj
      exact F_quorum_Quorum_prepares.is ok O hj
    rw [if_neg h1] at hj
    refine jn_go ?_
    refine brr_eq (fun h2 => ?_) (fun h2 => ?_)
    · rw [if_pos h2] at hj
      exact F_quorum_Quorum_writes.is ok O hj
    · rw [if_neg h2] at hj
      exact hj _ _ (msgs_none O)
  clear O
  rintro s h O
  unfold QS.tick at k
  refine F_quorum_Quorum_Holds.is O.swap ?_
  refine brr_not ?_
  refine brr_of (fun hh => ?_) (fun hh => ?_)
  case refine_2 =>
    rw [if_pos hh] at k
    exact k _ _ O
  rw [if_neg (by simp [hh])] at k
  obtain ⟨a, O1⟩ := O.swap.qu
  refine ⟨_, rfl, ?_⟩
  refine O1.ld 0 rfl (ldL_c (ldL_n ?_))
  refine ⟨_, rfl, ?_⟩
  refine O1.ld 0 rfl (ldL_c (ldL_n ?_))
  have fin : ∀ {q2 : QS} {h : Heap}, q2.Ok → q2.cop = q.cop → Sat h0 h (quR p q2 :: msgsR s (q.tick0 span) :: L) → (∀ s' h', Sat h0 h' (msgsR s' (q.tick0 span ++ q2.beats span) :: quR p q2 :: L) → Q s' h') → F_quorum_Quorum_beats (some (pt p 0)) span h fun r33 h34 => app 61 22 208 (.agg #[.int .i64 0, .int .i64 0, .int .i64 0, .int .i64 0, .int .u64 0, .int .u64 0, .int .u64 0, .int .u64 0, .int .i64 0, .int .u64 0, .slice none 0 0, .int .i64 0, .int .u64 0, .string (⟨#[]⟩ : ByteArray), .string (⟨#[]⟩ : ByteArray), .int .u64 0, .int .u64 0, .int .u64 0, .int .i64 0, .int .i64 0, .int .i64 0, .int .i64 0]) s r33.ptr r33.len h34 fun s35 h36 => Q s35 h36 := by
    intro q2 h ok2 ec O kk
    refine F_quorum_Quorum_beats.is ok2 O fun s2 h O => ?_
    obtain ⟨ls2, e2, O⟩ := O.msgs
    obtain ⟨ls, e1, O⟩ := (O.sel [3, 0, 1, 2] 4 rfl (Nat.le_add_left _ _)).msgs
    have V := (O.view 2 mgC_len (by simp) rfl).1
    have l1 : ls.length ≤ 1000000 := by have := congrArg List.length e1; rw [List.length_map] at this; omega
    have l2 : ls2.length ≤ 1000000 := by
      have := congrArg List.length e2
      have := send_len (q := q2) (x := { mgz with kind := 6, epoch := q2.epoch, round := q2.begun, span := span }) (out := fun c => decide (c ∈ q2.bt))
      have e3 : (q2.beats span).length ≤ q2.cop.length := this
      rw [ec] at e3
      rw [List.length_map] at *
      omega
    refine Sat.app_buf (enc := mgC) O mgC_len mgC_one (by simp [Value.cells]) (ys := ls2) V.len (V.rd mgC_len) (by omega) fun s3 h O _ => ?_
    have O := Sat.manyApp (O.sel [1, 3, 0, 4] 5 rfl (Nat.le_add_left _ _))
    exact kk _ _ (Sat.msgsI (by rw [List.map_append, e1, e2]) O.swap)
  refine jn0 (fun h' => F_quorum_Quorum_beats (some (pt p 0)) span h' fun r33 h34 => app 61 22 208 (.agg #[.int .i64 0, .int .i64 0, .int .i64 0, .int .i64 0, .int .u64 0, .int .u64 0, .int .u64 0, .int .u64 0, .int .i64 0, .int .u64 0, .slice none 0 0, .int .i64 0, .int .u64 0, .string (⟨#[]⟩ : ByteArray), .string (⟨#[]⟩ : ByteArray), .int .u64 0, .int .u64 0, .int .u64 0, .int .i64 0, .int .i64 0, .int .i64 0, .int .i64 0]) s r33.ptr r33.len h34 fun s35 h36 => Q s35 h36) (fun h x => x) fun j hj => ?_
  refine brr_eq (fun he => ?_) (fun he => ?_)
  · rw [if_pos he] at k
    refine ⟨_, rfl, ?_⟩
    refine O1.ld 0 rfl (ldL_c (ldL_n ?_))
    refine brr_p (fun hm => ?_) (fun hm => ?_)
    · rw [if_pos hm] at k
      exact k _ _ O
    have hm2 : ¬ (1099511627776 : Int) ≤ q.begun := hm
    rw [if_neg hm2] at k
    refine ⟨_, rfl, ?_⟩
    refine O1.ld 0 rfl (ldL_c (ldL_n ?_))
    have hw : IntKind.u64.wrap (q.begun + 1) = q.begun + 1 := by unfold IntKind.wrap; simp [IntKind.signed, IntKind.bits]; omega
    rw [hw]
    refine ⟨_, rfl, ?_⟩
    refine st_ad (b := p) (o := 14) rfl ?_
    refine O1.st 0 rfl (by simp) rfl fun h O => ?_
    dsimp only [V.put, List.set] at O
    refine ⟨_, rfl, ?_⟩
    refine O.ld 0 rfl (ldL_c (k := .map) (x := some a.r4) (ldL_n ?_))
    refine O.mclr 5 rfl fun h O => ?_
    have Oq := Sat.quI q.rise a O
    refine hj _ (fin (q2 := q.rise) ?_ rfl Oq k)
    exact ⟨ok.c, ok.v, ok.w, ok.n, ok.s, ok.t, by show 0 ≤ q.begun + 1; omega⟩
  · rw [if_neg he] at k
    exact hj _ (fin ok rfl O.swap k)
theorem F_quorum_Quorum_Chosen.is {Q : Int → Int → Sl → Heap → Prop} (ok : q.Ok) (O : Sat h0 h (quR p q :: L)) (k : ∀ s h', Sat h0 h' (buf 1 u8 s q.what :: quR p q :: L) → Q q.chosen.1 q.chosen.2 s h') : F_quorum_Quorum_Chosen (some (pt p 0)) h Q := by
  rw [F_quorum_Quorum_Chosen.eq_1, F_quorum_Quorum_Chosen_of.eq_1]
  refine O.al fun x h O => ?_
  obtain ⟨a, O⟩ := O.swap.qu
  refine ⟨_, rfl, ?_⟩
  refine O.ld 0 rfl (ldL_c (ldL_c (ldL_n ?_)))
  refine ⟨_, rfl, ?_⟩
  refine O.ld 0 rfl (ldL_c (k := .sl) (x := a.sw) (ldL_n ?_))
  refine F_slices_Clone_cbaad.is O (fun h O => pool_view O 6 (by simp) rfl (e := (a.sw, q.what)) (by simp)) ok.w fun s h O => ?_
  refine O.ca 1 2 rfl ?_
  refine O.st 8 rfl (by simp) rfl fun h O => ?_
  dsimp only [V.put, List.set] at O
  refine O.ld 8 rfl (ldL_c (ldL_c (ldL_n ?_)))
  refine k _ _ ?_
  exact (Sat.quI q a (O.sel [1, 2, 3, 4, 5, 6, 7, 0] 9 rfl (Nat.le_add_left _ _))).swap
theorem F_quorum_Quorum_Round.is {Q : Int → Int → Heap → Prop} (O : Sat h0 h (quR p q :: L)) (k : Q q.begun q.done h) : F_quorum_Quorum_Round (some (pt p 0)) h Q := by
  rw [F_quorum_Quorum_Round.eq_1, F_quorum_Quorum_Round_of.eq_1]
  obtain ⟨a, O⟩ := O.qu
  refine ⟨_, rfl, ?_⟩
  refine O.ld 0 rfl (ldL_c (ldL_n ?_))
  refine ⟨_, rfl, ?_⟩
  refine O.ld 0 rfl (ldL_c (ldL_n ?_))
  exact k
theorem F_quorum_Quorum_Phase.is {Q : Int → Heap → Prop} (O : Sat h0 h (quR p q :: L)) (k : Q q.phase h) : F_quorum_Quorum_Phase (some (pt p 0)) h Q := by
  rw [F_quorum_Quorum_Phase.eq_1, F_quorum_Quorum_Phase_of.eq_1]
  obtain ⟨a, O⟩ := O.qu
  refine ⟨_, rfl, ?_⟩
  refine O.ld 0 rfl (ldL_c (ldL_n ?_))
  exact k
theorem F_quorum_Quorum_Epoch.is {Q : Int → Heap → Prop} (O : Sat h0 h (quR p q :: L)) (k : Q q.epoch h) : F_quorum_Quorum_Epoch (some (pt p 0)) h Q := by
  rw [F_quorum_Quorum_Epoch.eq_1, F_quorum_Quorum_Epoch_of.eq_1]
  obtain ⟨a, O⟩ := O.qu
  refine ⟨_, rfl, ?_⟩
  refine O.ld 0 rfl (ldL_c (ldL_n ?_))
  exact k
theorem F_quorum_Quorum_Seen.is {Q : Int → Heap → Prop} (O : Sat h0 h (quR p q :: L)) (k : Q q.seen h) : F_quorum_Quorum_Seen (some (pt p 0)) h Q := by
  rw [F_quorum_Quorum_Seen.eq_1, F_quorum_Quorum_Seen_of.eq_1]
  obtain ⟨a, O⟩ := O.qu
  refine ⟨_, rfl, ?_⟩
  refine O.ld 0 rfl (ldL_c (ldL_n ?_))
  exact k
end
end Go.Proofs.YtigcpkejjjgkeaaGreat.V
namespace Go.Proofs.YtigcpkejjjgkeaaGreat.V
open Go Go.RowKit
set_option linter.unusedVariables false
set_option maxRecDepth 100000
def F_ref0_CmpTag_of  (a1 a2 b3 b4 : Int) (h : Heap) (Q : Int → Heap → Prop) : Prop :=
  al 51 [.int .u64 a1, .int .u64 a2] h fun (a5 : Addr) (h6 : Heap) =>
  al 51 [.int .u64 b3, .int .u64 b4] h6 fun (a7 : Addr) (h8 : Heap) =>
  jn [(5, .one .bool)] (fun (x16 : Bool) (h17 : Heap) =>
  brr x16
  (Q (-1) h17)
  (ld [.int .u64, .int .u64] a5 h17 fun (v18 v19 : Int) =>
  ld [.int .u64, .int .u64] a7 h17 fun (v20 v21 : Int) =>
  brr ((v18 == v20) && ((v19 == v21) && (true)))
  (Q 0 h17)
  (Q 1 h17))) (fun (j9 : Bool → Heap → Prop) =>
  ld [.int .u64] (a5.add 0) h8 fun (v10 : Int) =>
  ld [.int .u64] (a7.add 0) h8 fun (v11 : Int) =>
  brr (decide (v10 < v11))
  (j9 true h8)
  (ld [.int .u64] (a5.add 0) h8 fun (v12 : Int) =>
  ld [.int .u64] (a7.add 0) h8 fun (v13 : Int) =>
  brr (v12 == v13)
  (ld [.int .u64] (a5.add 1) h8 fun (v14 : Int) =>
  ld [.int .u64] (a7.add 1) h8 fun (v15 : Int) =>
  j9 (decide (v14 < v15)) h8)
  (j9 false h8)))
def F_ref0_CmpTag (a1 a2 b3 b4 : Int) (h : Heap) (Q : Int → Heap → Prop) : Prop := F_ref0_CmpTag_of  a1 a2 b3 b4 h Q
def plan89 : Plan := .s (.r [2, 3]) (.s (.b (.s (.rj [(5, .one .bool)] [2, 3]) (.c (.s (.r [4]) .z) (.s (.r [25]) (.c (.s (.r [4]) .z) .z))))) (.s (.r [4]) .z))
theorem F_ref0_CmpTag.eq  (a1 a2 b3 b4 : Int) (h : Heap) (K : Value → Heap → Prop) : F_ref0_CmpTag_of  a1 a2 b3 b4 h (fun (r0 : Int) (h : Heap) => K (.int .i64 r0) h) =
    den Tryz.prog noFns Tryz.f89.ntmps plan89 (bodyOf Tryz.f89) (args0 0 [(.agg #[.int .u64 a1, .int .u64 a2] : Value), (.agg #[.int .u64 b3, .int .u64 b4] : Value)]) h ⟨fun env h => dRes Tryz.prog Tryz.f89.results.toList env h K, fun _ _ _ => False, fun env h => dRes Tryz.prog Tryz.f89.results.toList env h K⟩ := by kernel_rfl
def E_ref0_CmpTag_of (f : Int → Int → Int → Int → Heap → (Int → Heap → Prop) → Prop) : List Value → Heap → (Value → Heap → Prop) → Prop
  | [v0, v1], h, K => vAgg v0 fun cs0 => decs [.int .u64, .int .u64] cs0.toList fun (a1 a2 : Int) =>
  vAgg v1 fun cs1 => decs [.int .u64, .int .u64] cs1.toList fun (b3 b4 : Int) =>
  f a1 a2 b3 b4 h (fun (r0 : Int) (h : Heap) => K (.int .i64 r0) h)
  | _, _, _ => False
abbrev E_ref0_CmpTag := E_ref0_CmpTag_of F_ref0_CmpTag
theorem E_ref0_CmpTag.right : IsRight Tryz.prog 89 E_ref0_CmpTag := by
  refine isRight fun vs K w hh => ?_
  match vs, hh with
  | [v0, v1], hh =>
    unfold E_ref0_CmpTag E_ref0_CmpTag_of at hh
    replace hh := vAgg_sound hh; obtain ⟨cs0, rfl, hh⟩ := hh
    replace hh := decs_cons hh; obtain ⟨a1, l0_0, e0_0, hh⟩ := hh
    replace hh := decs_cons hh; obtain ⟨a2, l0_1, e0_1, hh⟩ := hh
    replace hh := decs_nil hh; obtain ⟨rfl, hh⟩ := hh
    subst e0_1
    have ec0 := toArray_eq e0_0
    subst ec0
    replace hh := vAgg_sound hh; obtain ⟨cs1, rfl, hh⟩ := hh
    replace hh := decs_cons hh; obtain ⟨b3, l1_0, e1_0, hh⟩ := hh
    replace hh := decs_cons hh; obtain ⟨b4, l1_1, e1_1, hh⟩ := hh
    replace hh := decs_nil hh; obtain ⟨rfl, hh⟩ := hh
    subst e1_1
    have ec1 := toArray_eq e1_0
    subst ec1
    unfold F_ref0_CmpTag at hh
    exact calls_den noFns_right plan89 _ w K Tryz.func89 (by kernel_rfl) (by kernel_rfl) (Eq.mp (F_ref0_CmpTag.eq  a1 a2 b3 b4 w.heap K) hh)
theorem ok89 : okFn Tryz.prog 89 = true := by kernel_rfl
end Go.Proofs.YtigcpkejjjgkeaaGreat.V
/- The program's replica: what it does with a message of each kind. -/
namespace Go.Proofs.YtigcpkejjjgkeaaGreat.V
open Go Go.RowKit
set_option linter.unusedVariables false
set_option linter.unusedSimpArgs false
section
variable {h0 h : Heap} {L : List Res}
theorem orCmp {a b c d : Int} : let x := if a < c then (-1 : Int) else if c < a then 1 else 0; let y := if b < d then (-1 : Int) else if d < b then 1 else 0; ((if x = 0 then y else x) < 0 ↔ tagLt a b c d) ∧ ((if x = 0 then y else x) > 0 ↔ tagLt c d a b) := by
  intro x y
  unfold tagLt
  have hx : x = if a < c then (-1 : Int) else if c < a then 1 else 0 := rfl
  have hy : y = if b < d then (-1 : Int) else if d < b then 1 else 0 := rfl
  clear_value x y
  split at hx <;> (try split at hx) <;> split at hy <;> (try split at hy) <;> subst hx <;> subst hy <;> constructor <;> simp <;> omega
end
end Go.Proofs.YtigcpkejjjgkeaaGreat.V
/- The program's replica: Hear. -/
namespace Go.Proofs.YtigcpkejjjgkeaaGreat.V
open Go Go.RowKit
set_option linter.unusedVariables false
set_option linter.unusedSimpArgs false
theorem push_set {h : Heap} {o o' : Obj} : (h.push o).setIfInBounds h.size o' = h.push o' := by
  apply Array.ext_getElem?
  intro i
  rw [Array.getElem?_setIfInBounds, Array.getElem?_push, Array.getElem?_push]
  by_cases hi : h.size = i
  · subst hi; simp
  · rw [if_neg hi, if_neg (Ne.symm hi), if_neg (Ne.symm hi)]
theorem KeptH.push (h : Heap) (o : Obj) : KeptH h (h.push o) := ⟨by simp, fun k hk => by rw [Array.getElem?_push, if_neg (by omega)]⟩
def hearsM : Array MapEntry := #[⟨.int .i64 1, .func (.func 44) #[] #[], 0⟩, ⟨.int .i64 4, .func (.func 45) #[] #[], 1⟩, ⟨.int .i64 6, .func (.func 46) #[] #[], 2⟩]
theorem mput_push {kk : IntKind} {n : Int} {v : Value} {h : Heap} {es : Array MapEntry} {c : Nat} {q : Option (Nat × Value)} {K : Heap → Prop} (hq : findM kk n es = some q) (k : K (h.push (putM es c q (.int kk n) v))) : mput kk (some h.size) n v (h.push (.map es c)) K :=
  ⟨es, c, q, by simp, hq, by rw [push_set]; exact k⟩
theorem find_hears {n : Int} {h : Heap} {K : Option FV → Bool → Prop} (k1 : n = 1 → K (some ⟨.func 44, [], []⟩) true) (k4 : n = 4 → K (some ⟨.func 45, [], []⟩) true) (k6 : n = 6 → K (some ⟨.func 46, [], []⟩) true) (k0 : n ≠ 1 → n ≠ 4 → n ≠ 6 → K none false) : mg .fn .i64 (some h.size) n .nilFunc (h.push (.map hearsM 3)) K := by
  by_cases h1 : n = 1
  · exact ⟨hearsM, 3, some (0, .func (.func 44) #[] #[]), by simp, by subst h1; rfl, k1 h1⟩
  by_cases h4 : n = 4
  · exact ⟨hearsM, 3, some (1, .func (.func 45) #[] #[]), by simp, by subst h4; rfl, k4 h4⟩
  by_cases h6 : n = 6
  · exact ⟨hearsM, 3, some (2, .func (.func 46) #[] #[]), by simp, by subst h6; rfl, k6 h6⟩
  · refine ⟨hearsM, 3, none, by simp, ?_, k0 h1 h4 h6⟩
    have e1 : (n == 1) = false := by simpa using h1
    have e4 : (n == 4) = false := by simpa using h4
    have e6 : (n == 6) = false := by simpa using h6
    simp [findM, hearsM, Instr.findNow, Instr.sameNow, e1, e4, e6]
abbrev HK : List Kd := [.int .i64, .int .i64, .int .i64, .int .i64, .int .u64, .int .u64, .int .u64, .int .u64, .int .i64, .int .u64, .sl, .int .i64, .int .u64, .str, .str, .int .u64, .int .u64, .int .u64, .int .i64, .int .i64, .int .i64, .int .i64, .bool, .bool, .bool]
theorem dyn_at {ks : List Kd} {Φ : Fns} {id : Nat} {vs : List Value} {h : Heap} {K : Fn ks (Heap → Prop)} (k : Φ id vs h fun u h => vAgg u fun cs => decsH ks cs.toList K h) : dynA ks Φ (Kd.enc .fn (some ⟨.func id, [], []⟩)) vs h K :=
  ⟨_, id, rfl, rfl, by simpa using k⟩
theorem prep_ans {r : RS} {m : Mg} : (prep r m).2.ans = false := by unfold prep; split <;> rfl
theorem writ_ans {r : RS} {m : Mg} : (writ r m).2.ans = false := by unfold writ; split; rfl; split; rfl; split <;> rfl
theorem beats_ans {r : RS} {m : Mg} : (beats r m).2.ans = false := by unfold beats; split <;> rfl
section
variable {h0 h : Heap} {L : List Res}
end
end Go.Proofs.YtigcpkejjjgkeaaGreat.V
namespace Go.Proofs.YtigcpkejjjgkeaaGreat.V
open Go Go.RowKit
set_option linter.unusedVariables false
set_option maxRecDepth 100000
def F_ref0_EqMsg_of (f43_ : Sl → Sl → Heap → (Int → Heap → Prop) → Prop) (a1 a2 a3 a4 a5 a6 a7 a8 a9 a10 : Int) (a11 : Sl) (a12 a13 : Int) (a14 a15 : ByteArray) (a16 a17 a18 a19 a20 a21 a22 b23 b24 b25 b26 b27 b28 b29 b30 b31 b32 : Int) (b33 : Sl) (b34 b35 : Int) (b36 b37 : ByteArray) (b38 b39 b40 b41 b42 b43 b44 : Int) (h : Heap) (Q : Bool → Heap → Prop) : Prop :=
  al 61 [.int .i64 a1, .int .i64 a2, .int .i64 a3, .int .i64 a4, .int .u64 a5, .int .u64 a6, .int .u64 a7, .int .u64 a8, .int .i64 a9, .int .u64 a10, .slice a11.ptr a11.len a11.cap, .int .i64 a12, .int .u64 a13, .string a14, .string a15, .int .u64 a16, .int .u64 a17, .int .u64 a18, .int .i64 a19, .int .i64 a20, .int .i64 a21, .int .i64 a22] h fun (a45 : Addr) (h46 : Heap) =>
  al 61 [.int .i64 b23, .int .i64 b24, .int .i64 b25, .int .i64 b26, .int .u64 b27, .int .u64 b28, .int .u64 b29, .int .u64 b30, .int .i64 b31, .int .u64 b32, .slice b33.ptr b33.len b33.cap, .int .i64 b34, .int .u64 b35, .string b36, .string b37, .int .u64 b38, .int .u64 b39, .int .u64 b40, .int .i64 b41, .int .i64 b42, .int .i64 b43, .int .i64 b44] h46 fun (a47 : Addr) (h48 : Heap) =>
  jn [(4, .one .bool)] (fun (x96 : Bool) (h97 : Heap) =>
  Q x96 h97) (fun (j49 : Bool → Heap → Prop) =>
  ld [.int .i64, .int .i64, .int .i64, .int .i64] (a45.add 0) h48 fun (v50 v51 v52 v53 : Int) =>
  ld [.int .i64, .int .i64, .int .i64, .int .i64] (a47.add 0) h48 fun (v54 v55 v56 v57 : Int) =>
  brr ((v50 == v54) && ((v51 == v55) && ((v52 == v56) && ((v53 == v57) && (true)))))
  (ld [.int .u64] (a45.add 4) h48 fun (v58 : Int) =>
  ld [.int .u64] (a47.add 4) h48 fun (v59 : Int) =>
  brr (v58 == v59)
  (ld [.int .u64, .int .u64] (a45.add 5) h48 fun (v60 v61 : Int) =>
  ld [.int .u64, .int .u64] (a47.add 5) h48 fun (v62 v63 : Int) =>
  brr ((v60 == v62) && ((v61 == v63) && (true)))
  (ld [.int .u64] (a45.add 7) h48 fun (v64 : Int) =>
  ld [.int .u64] (a47.add 7) h48 fun (v65 : Int) =>
  brr (v64 == v65)
  (ld [.int .i64] (a45.add 8) h48 fun (v66 : Int) =>
  ld [.int .i64] (a47.add 8) h48 fun (v67 : Int) =>
  brr (v66 == v67)
  (ld [.int .u64] (a45.add 9) h48 fun (v68 : Int) =>
  ld [.int .u64] (a47.add 9) h48 fun (v69 : Int) =>
  brr (v68 == v69)
  (ld [.sl] (a45.add 10) h48 fun (v70 : Sl) =>
  ld [.sl] (a47.add 10) h48 fun (v71 : Sl) =>
  f43_ v70 v71 h48 fun (r72 : Int) (h73 : Heap) =>
  brr (r72 == 0)
  (ld [.int .i64] (a45.add 11) h73 fun (v74 : Int) =>
  ld [.int .i64] (a47.add 11) h73 fun (v75 : Int) =>
  brr (v74 == v75)
  (ld [.int .u64] (a45.add 12) h73 fun (v76 : Int) =>
  ld [.int .u64] (a47.add 12) h73 fun (v77 : Int) =>
  brr (v76 == v77)
  (ld [.str] (a45.add 13) h73 fun (v78 : ByteArray) =>
  ld [.str] (a47.add 13) h73 fun (v79 : ByteArray) =>
  brr (v78.toList == v79.toList)
  (ld [.str] (a45.add 14) h73 fun (v80 : ByteArray) =>
  ld [.str] (a47.add 14) h73 fun (v81 : ByteArray) =>
  brr (v80.toList == v81.toList)
  (ld [.int .u64] (a45.add 15) h73 fun (v82 : Int) =>
  ld [.int .u64] (a47.add 15) h73 fun (v83 : Int) =>
  brr (v82 == v83)
  (ld [.int .u64, .int .u64] (a45.add 16) h73 fun (v84 v85 : Int) =>
  ld [.int .u64, .int .u64] (a47.add 16) h73 fun (v86 v87 : Int) =>
  brr ((v84 == v86) && ((v85 == v87) && (true)))
  (ld [.int .i64] (a45.add 18) h73 fun (v88 : Int) =>
  ld [.int .i64] (a47.add 18) h73 fun (v89 : Int) =>
  brr (v88 == v89)
  (ld [.int .i64] (a45.add 19) h73 fun (v90 : Int) =>
  ld [.int .i64] (a47.add 19) h73 fun (v91 : Int) =>
  brr (v90 == v91)
  (ld [.int .i64] (a45.add 20) h73 fun (v92 : Int) =>
  ld [.int .i64] (a47.add 20) h73 fun (v93 : Int) =>
  brr (v92 == v93)
  (ld [.int .i64] (a45.add 21) h73 fun (v94 : Int) =>
  ld [.int .i64] (a47.add 21) h73 fun (v95 : Int) =>
  j49 (v94 == v95) h73)
  (j49 false h73))
  (j49 false h73))
  (j49 false h73))
  (j49 false h73))
  (j49 false h73))
  (j49 false h73))
  (j49 false h73))
  (j49 false h73))
  (j49 false h73))
  (j49 false h73))
  (j49 false h48))
  (j49 false h48))
  (j49 false h48))
  (j49 false h48))
  (j49 false h48))
  (j49 false h48))
def F_ref0_EqMsg (a1 a2 a3 a4 a5 a6 a7 a8 a9 a10 : Int) (a11 : Sl) (a12 a13 : Int) (a14 a15 : ByteArray) (a16 a17 a18 a19 a20 a21 a22 b23 b24 b25 b26 b27 b28 b29 b30 b31 b32 : Int) (b33 : Sl) (b34 b35 : Int) (b36 b37 : ByteArray) (b38 b39 b40 b41 b42 b43 b44 : Int) (h : Heap) (Q : Bool → Heap → Prop) : Prop := F_ref0_EqMsg_of F_ref0_Cmp a1 a2 a3 a4 a5 a6 a7 a8 a9 a10 a11 a12 a13 a14 a15 a16 a17 a18 a19 a20 a21 a22 b23 b24 b25 b26 b27 b28 b29 b30 b31 b32 b33 b34 b35 b36 b37 b38 b39 b40 b41 b42 b43 b44 h Q
def plan87 : Plan := .s (.r [2, 3]) (.s (.rj [(4, .one .bool)] []) .z)
theorem F_ref0_EqMsg.eq (f43_ : Sl → Sl → Heap → (Int → Heap → Prop) → Prop) (a1 a2 a3 a4 a5 a6 a7 a8 a9 a10 : Int) (a11 : Sl) (a12 a13 : Int) (a14 a15 : ByteArray) (a16 a17 a18 a19 a20 a21 a22 b23 b24 b25 b26 b27 b28 b29 b30 b31 b32 : Int) (b33 : Sl) (b34 b35 : Int) (b36 b37 : ByteArray) (b38 b39 b40 b41 b42 b43 b44 : Int) (h : Heap) (K : Value → Heap → Prop) : F_ref0_EqMsg_of f43_ a1 a2 a3 a4 a5 a6 a7 a8 a9 a10 a11 a12 a13 a14 a15 a16 a17 a18 a19 a20 a21 a22 b23 b24 b25 b26 b27 b28 b29 b30 b31 b32 b33 b34 b35 b36 b37 b38 b39 b40 b41 b42 b43 b44 h (fun (r0 : Bool) (h : Heap) => K (.bool r0) h) =
    den Tryz.prog (fn1 43 (E_ref0_Cmp_of f43_) noFns) Tryz.f87.ntmps plan87 (bodyOf Tryz.f87) (args0 0 [(.agg #[.int .i64 a1, .int .i64 a2, .int .i64 a3, .int .i64 a4, .int .u64 a5, .int .u64 a6, .int .u64 a7, .int .u64 a8, .int .i64 a9, .int .u64 a10, .slice a11.ptr a11.len a11.cap, .int .i64 a12, .int .u64 a13, .string a14, .string a15, .int .u64 a16, .int .u64 a17, .int .u64 a18, .int .i64 a19, .int .i64 a20, .int .i64 a21, .int .i64 a22] : Value), (.agg #[.int .i64 b23, .int .i64 b24, .int .i64 b25, .int .i64 b26, .int .u64 b27, .int .u64 b28, .int .u64 b29, .int .u64 b30, .int .i64 b31, .int .u64 b32, .slice b33.ptr b33.len b33.cap, .int .i64 b34, .int .u64 b35, .string b36, .string b37, .int .u64 b38, .int .u64 b39, .int .u64 b40, .int .i64 b41, .int .i64 b42, .int .i64 b43, .int .i64 b44] : Value)]) h ⟨fun env h => dRes Tryz.prog Tryz.f87.results.toList env h K, fun _ _ _ => False, fun env h => dRes Tryz.prog Tryz.f87.results.toList env h K⟩ := by kernel_rfl
def E_ref0_EqMsg_of (f : Int → Int → Int → Int → Int → Int → Int → Int → Int → Int → Sl → Int → Int → ByteArray → ByteArray → Int → Int → Int → Int → Int → Int → Int → Int → Int → Int → Int → Int → Int → Int → Int → Int → Int → Sl → Int → Int → ByteArray → ByteArray → Int → Int → Int → Int → Int → Int → Int → Heap → (Bool → Heap → Prop) → Prop) : List Value → Heap → (Value → Heap → Prop) → Prop
  | [v0, v1], h, K => vAgg v0 fun cs0 => decs [.int .i64, .int .i64, .int .i64, .int .i64, .int .u64, .int .u64, .int .u64, .int .u64, .int .i64, .int .u64, .sl, .int .i64, .int .u64, .str, .str, .int .u64, .int .u64, .int .u64, .int .i64, .int .i64, .int .i64, .int .i64] cs0.toList fun (a1 a2 a3 a4 a5 a6 a7 a8 a9 a10 : Int) (a11 : Sl) (a12 a13 : Int) (a14 a15 : ByteArray) (a16 a17 a18 a19 a20 a21 a22 : Int) =>
  vAgg v1 fun cs1 => decs [.int .i64, .int .i64, .int .i64, .int .i64, .int .u64, .int .u64, .int .u64, .int .u64, .int .i64, .int .u64, .sl, .int .i64, .int .u64, .str, .str, .int .u64, .int .u64, .int .u64, .int .i64, .int .i64, .int .i64, .int .i64] cs1.toList fun (b23 b24 b25 b26 b27 b28 b29 b30 b31 b32 : Int) (b33 : Sl) (b34 b35 : Int) (b36 b37 : ByteArray) (b38 b39 b40 b41 b42 b43 b44 : Int) =>
  f a1 a2 a3 a4 a5 a6 a7 a8 a9 a10 a11 a12 a13 a14 a15 a16 a17 a18 a19 a20 a21 a22 b23 b24 b25 b26 b27 b28 b29 b30 b31 b32 b33 b34 b35 b36 b37 b38 b39 b40 b41 b42 b43 b44 h (fun (r0 : Bool) (h : Heap) => K (.bool r0) h)
  | _, _, _ => False
abbrev E_ref0_EqMsg := E_ref0_EqMsg_of F_ref0_EqMsg
theorem E_ref0_EqMsg.right : IsRight Tryz.prog 87 E_ref0_EqMsg := by
  refine isRight fun vs K w hh => ?_
  match vs, hh with
  | [v0, v1], hh =>
    unfold E_ref0_EqMsg E_ref0_EqMsg_of at hh
    replace hh := vAgg_sound hh; obtain ⟨cs0, rfl, hh⟩ := hh
    replace hh := decs_cons hh; obtain ⟨a1, l0_0, e0_0, hh⟩ := hh
    replace hh := decs_cons hh; obtain ⟨a2, l0_1, e0_1, hh⟩ := hh
    replace hh := decs_cons hh; obtain ⟨a3, l0_2, e0_2, hh⟩ := hh
    replace hh := decs_cons hh; obtain ⟨a4, l0_3, e0_3, hh⟩ := hh
    replace hh := decs_cons hh; obtain ⟨a5, l0_4, e0_4, hh⟩ := hh
    replace hh := decs_cons hh; obtain ⟨a6, l0_5, e0_5, hh⟩ := hh
    replace hh := decs_cons hh; obtain ⟨a7, l0_6, e0_6, hh⟩ := hh
    replace hh := decs_cons hh; obtain ⟨a8, l0_7, e0_7, hh⟩ := hh
    replace hh := decs_cons hh; obtain ⟨a9, l0_8, e0_8, hh⟩ := hh
    replace hh := decs_cons hh; obtain ⟨a10, l0_9, e0_9, hh⟩ := hh
    replace hh := decs_cons hh; obtain ⟨a11, l0_10, e0_10, hh⟩ := hh
    replace hh := decs_cons hh; obtain ⟨a12, l0_11, e0_11, hh⟩ := hh
    replace hh := decs_cons hh; obtain ⟨a13, l0_12, e0_12, hh⟩ := hh
    replace hh := decs_cons hh; obtain ⟨a14, l0_13, e0_13, hh⟩ := hh
    replace hh := decs_cons hh; obtain ⟨a15, l0_14, e0_14, hh⟩ := hh
    replace hh := decs_cons hh; obtain ⟨a16, l0_15, e0_15, hh⟩ := hh
    replace hh := decs_cons hh; obtain ⟨a17, l0_16, e0_16, hh⟩ := hh
    replace hh := decs_cons hh; obtain ⟨a18, l0_17, e0_17, hh⟩ := hh
    replace hh := decs_cons hh; obtain ⟨a19, l0_18, e0_18, hh⟩ := hh
    replace hh := decs_cons hh; obtain ⟨a20, l0_19, e0_19, hh⟩ := hh
    replace hh := decs_cons hh; obtain ⟨a21, l0_20, e0_20, hh⟩ := hh
    replace hh := decs_cons hh; obtain ⟨a22, l0_21, e0_21, hh⟩ := hh
    replace hh := decs_nil hh; obtain ⟨rfl, hh⟩ := hh
    subst e0_21
    subst e0_20
    subst e0_19
    subst e0_18
    subst e0_17
    subst e0_16
    subst e0_15
    subst e0_14
    subst e0_13
    subst e0_12
    subst e0_11
    subst e0_10
    subst e0_9
    subst e0_8
    subst e0_7
    subst e0_6
    subst e0_5
    subst e0_4
    subst e0_3
    subst e0_2
    subst e0_1
    have ec0 := toArray_eq e0_0
    subst ec0
    replace hh := vAgg_sound hh; obtain ⟨cs1, rfl, hh⟩ := hh
    replace hh := decs_cons hh; obtain ⟨b23, l1_0, e1_0, hh⟩ := hh
    replace hh := decs_cons hh; obtain ⟨b24, l1_1, e1_1, hh⟩ := hh
    replace hh := decs_cons hh; obtain ⟨b25, l1_2, e1_2, hh⟩ := hh
    replace hh := decs_cons hh; obtain ⟨b26, l1_3, e1_3, hh⟩ := hh
    replace hh := decs_cons hh; obtain ⟨b27, l1_4, e1_4, hh⟩ := hh
    replace hh := decs_cons hh; obtain ⟨b28, l1_5, e1_5, hh⟩ := hh
    replace hh := decs_cons hh; obtain ⟨b29, l1_6, e1_6, hh⟩ := hh
    replace hh := decs_cons hh; obtain ⟨b30, l1_7, e1_7, hh⟩ := hh
    replace hh := decs_cons hh; obtain ⟨b31, l1_8, e1_8, hh⟩ := hh
    replace hh := decs_cons hh; obtain ⟨b32, l1_9, e1_9, hh⟩ := hh
    replace hh := decs_cons hh; obtain ⟨b33, l1_10, e1_10, hh⟩ := hh
    replace hh := decs_cons hh; obtain ⟨b34, l1_11, e1_11, hh⟩ := hh
    replace hh := decs_cons hh; obtain ⟨b35, l1_12, e1_12, hh⟩ := hh
    replace hh := decs_cons hh; obtain ⟨b36, l1_13, e1_13, hh⟩ := hh
    replace hh := decs_cons hh; obtain ⟨b37, l1_14, e1_14, hh⟩ := hh
    replace hh := decs_cons hh; obtain ⟨b38, l1_15, e1_15, hh⟩ := hh
    replace hh := decs_cons hh; obtain ⟨b39, l1_16, e1_16, hh⟩ := hh
    replace hh := decs_cons hh; obtain ⟨b40, l1_17, e1_17, hh⟩ := hh
    replace hh := decs_cons hh; obtain ⟨b41, l1_18, e1_18, hh⟩ := hh
    replace hh := decs_cons hh; obtain ⟨b42, l1_19, e1_19, hh⟩ := hh
    replace hh := decs_cons hh; obtain ⟨b43, l1_20, e1_20, hh⟩ := hh
    replace hh := decs_cons hh; obtain ⟨b44, l1_21, e1_21, hh⟩ := hh
    replace hh := decs_nil hh; obtain ⟨rfl, hh⟩ := hh
    subst e1_21
    subst e1_20
    subst e1_19
    subst e1_18
    subst e1_17
    subst e1_16
    subst e1_15
    subst e1_14
    subst e1_13
    subst e1_12
    subst e1_11
    subst e1_10
    subst e1_9
    subst e1_8
    subst e1_7
    subst e1_6
    subst e1_5
    subst e1_4
    subst e1_3
    subst e1_2
    subst e1_1
    have ec1 := toArray_eq e1_0
    subst ec1
    unfold F_ref0_EqMsg at hh
    exact calls_den (fn1_right ok43 E_ref0_Cmp.right noFns_right) plan87 _ w K Tryz.func87 (by kernel_rfl) (by kernel_rfl) (Eq.mp (F_ref0_EqMsg.eq F_ref0_Cmp a1 a2 a3 a4 a5 a6 a7 a8 a9 a10 a11 a12 a13 a14 a15 a16 a17 a18 a19 a20 a21 a22 b23 b24 b25 b26 b27 b28 b29 b30 b31 b32 b33 b34 b35 b36 b37 b38 b39 b40 b41 b42 b43 b44 w.heap K) hh)
theorem ok87 : okFn Tryz.prog 87 = true := by kernel_rfl
end Go.Proofs.YtigcpkejjjgkeaaGreat.V
/- The document's replica; messages and what is stored, compared and copied. -/
namespace Go.Proofs.YtigcpkejjjgkeaaGreat.V
open Go Go.RowKit
set_option linter.unusedVariables false
set_option linter.unusedSimpArgs false
section
variable {h0 h : Heap} {L : List Res}
theorem F_ref0_CmpTag.is {a b c d : Int} {Q : Int → Heap → Prop} (O : Sat h0 h L) (k : ∀ h', Sat h0 h' L → Q (if tagLt a b c d then -1 else if a = c ∧ b = d then 0 else 1) h') : F_ref0_CmpTag a b c d h Q := by
  rw [F_ref0_CmpTag.eq_1, F_ref0_CmpTag_of.eq_1]
  refine O.al fun x5 h O => ?_
  refine O.al fun x7 h O => ?_
  refine jn1 (fun z h' => h' = h ∧ z = decide (tagLt a b c d)) ?_ ?_
  · rintro z h ⟨rfl, rfl⟩
    refine brr_p (fun hc => ?_) (fun hc => ?_)
    · rw [if_pos hc] at k
      exact k _ O.drop.drop
    · rw [if_neg hc] at k
      repeat (first | (with_reducible refine al_id ?_); refine O.al fun _ h O => ?_ | (with_reducible refine nn_id ?_); refine ⟨_, rfl, ?_⟩ | (with_reducible refine ld_id ?_); (first | refine O.ld 0 rfl ?_ | refine O.ld 1 rfl ?_); (repeat (first | (with_reducible refine ldL_n ?_) | refine ldL_s ?_ | refine ldL_c ?_)) | (with_reducible refine st_ad (by first | (with_reducible rfl) | (simp only [pt_add, Nat.zero_add, Nat.add_zero, Nat.reduceAdd]; with_reducible rfl)) ?_); (first | refine O.st 0 rfl (by simp) rfl fun h O => ?_ | refine O.st 1 rfl (by simp) rfl fun h O => ?_); (dsimp only [V.put, List.set, List.length_cons, List.length_nil] at O) | (with_reducible refine ca_id ?_); (first | refine O.ca 0 1 rfl ?_ | refine O.ca 0 2 rfl ?_ | refine O.ca 1 1 rfl ?_ | refine O.ca 1 2 rfl ?_))
      refine brr_of (fun h1 => ?_) (fun h1 => ?_)
      · rw [if_pos (by simpa using h1)] at k
        exact k _ O.drop.drop
      · rw [if_neg (by simpa using h1)] at k
        exact k _ O.drop.drop
  · intro j hj
    repeat (first | (with_reducible refine al_id ?_); refine O.al fun _ h O => ?_ | (with_reducible refine nn_id ?_); refine ⟨_, rfl, ?_⟩ | (with_reducible refine ld_id ?_); (first | refine O.ld 0 rfl ?_ | refine O.ld 1 rfl ?_); (repeat (first | (with_reducible refine ldL_n ?_) | refine ldL_s ?_ | refine ldL_c ?_)) | (with_reducible refine st_ad (by first | (with_reducible rfl) | (simp only [pt_add, Nat.zero_add, Nat.add_zero, Nat.reduceAdd]; with_reducible rfl)) ?_); (first | refine O.st 0 rfl (by simp) rfl fun h O => ?_ | refine O.st 1 rfl (by simp) rfl fun h O => ?_); (dsimp only [V.put, List.set, List.length_cons, List.length_nil] at O) | (with_reducible refine ca_id ?_); (first | refine O.ca 0 1 rfl ?_ | refine O.ca 0 2 rfl ?_ | refine O.ca 1 1 rfl ?_ | refine O.ca 1 2 rfl ?_))
    have ht : tagLt a b c d ↔ (a < c ∨ (a = c ∧ b < d)) := Iff.rfl
    refine brr_p (fun h1 => ?_) (fun h1 => ?_)
    · exact hj _ _ ⟨rfl, (decide_eq_true (ht.2 (by omega))).symm⟩
    repeat (first | (with_reducible refine al_id ?_); refine O.al fun _ h O => ?_ | (with_reducible refine nn_id ?_); refine ⟨_, rfl, ?_⟩ | (with_reducible refine ld_id ?_); (first | refine O.ld 0 rfl ?_ | refine O.ld 1 rfl ?_); (repeat (first | (with_reducible refine ldL_n ?_) | refine ldL_s ?_ | refine ldL_c ?_)) | (with_reducible refine st_ad (by first | (with_reducible rfl) | (simp only [pt_add, Nat.zero_add, Nat.add_zero, Nat.reduceAdd]; with_reducible rfl)) ?_); (first | refine O.st 0 rfl (by simp) rfl fun h O => ?_ | refine O.st 1 rfl (by simp) rfl fun h O => ?_); (dsimp only [V.put, List.set, List.length_cons, List.length_nil] at O) | (with_reducible refine ca_id ?_); (first | refine O.ca 0 1 rfl ?_ | refine O.ca 0 2 rfl ?_ | refine O.ca 1 1 rfl ?_ | refine O.ca 1 2 rfl ?_))
    refine brr_eq (fun h2 => ?_) (fun h2 => ?_)
    · repeat (first | (with_reducible refine al_id ?_); refine O.al fun _ h O => ?_ | (with_reducible refine nn_id ?_); refine ⟨_, rfl, ?_⟩ | (with_reducible refine ld_id ?_); (first | refine O.ld 0 rfl ?_ | refine O.ld 1 rfl ?_); (repeat (first | (with_reducible refine ldL_n ?_) | refine ldL_s ?_ | refine ldL_c ?_)) | (with_reducible refine st_ad (by first | (with_reducible rfl) | (simp only [pt_add, Nat.zero_add, Nat.add_zero, Nat.reduceAdd]; with_reducible rfl)) ?_); (first | refine O.st 0 rfl (by simp) rfl fun h O => ?_ | refine O.st 1 rfl (by simp) rfl fun h O => ?_); (dsimp only [V.put, List.set, List.length_cons, List.length_nil] at O) | (with_reducible refine ca_id ?_); (first | refine O.ca 0 1 rfl ?_ | refine O.ca 0 2 rfl ?_ | refine O.ca 1 1 rfl ?_ | refine O.ca 1 2 rfl ?_))
      exact hj _ _ ⟨rfl, decide_eq_decide.2 (by rw [ht]; omega)⟩
    · exact hj _ _ ⟨rfl, (decide_eq_false (by rw [ht]; omega)).symm⟩
theorem F_ref0_EqMsg.is {m : Mg} {t : Sl} {Q : Bool → Heap → Prop} (O : Sat h0 h L) (V1 : Stays h0 L fun h => Bytes h m.v m.b) (V2 : Stays h0 L fun h => Bytes h t m.b) (h1 : m.b.length ≤ (140737488355325 : Nat)) (k : ∀ h', Sat h0 h' L → Q true h') : F_ref0_EqMsg m.kind m.frm m.to m.shard m.epoch m.te m.ts m.round m.span m.seen m.v m.peer m.num m.name m.other m.amount m.life m.id m.op m.client m.state m.bad m.kind m.frm m.to m.shard m.epoch m.te m.ts m.round m.span m.seen t m.peer m.num m.name m.other m.amount m.life m.id m.op m.client m.state m.bad h Q := by
  rw [F_ref0_EqMsg.eq_1, F_ref0_EqMsg_of.eq_1]
  refine O.al fun x45 h O => ?_
  refine O.al fun x47 h O => ?_
  refine jn1 (fun z h' => h' = h ∧ z = true) (fun z h' ⟨e, e2⟩ => by subst e; subst e2; exact k _ O.drop.drop) fun j hj => ?_
  repeat (first | (with_reducible refine al_id ?_); refine O.al fun _ h O => ?_ | (with_reducible refine nn_id ?_); refine ⟨_, rfl, ?_⟩ | (with_reducible refine ld_id ?_); (first | refine O.ld 0 rfl ?_ | refine O.ld 1 rfl ?_); (repeat (first | (with_reducible refine ldL_n ?_) | refine ldL_s ?_ | refine ldL_c ?_)) | (with_reducible refine st_ad (by first | (with_reducible rfl) | (simp only [pt_add, Nat.zero_add, Nat.add_zero, Nat.reduceAdd]; with_reducible rfl)) ?_); (first | refine O.st 0 rfl (by simp) rfl fun h O => ?_ | refine O.st 1 rfl (by simp) rfl fun h O => ?_); (dsimp only [V.put, List.set, List.length_cons, List.length_nil] at O) | (with_reducible refine ca_id ?_); (first | refine O.ca 0 1 rfl ?_ | refine O.ca 0 2 rfl ?_ | refine O.ca 1 1 rfl ?_ | refine O.ca 1 2 rfl ?_))
  refine brr_tt (by simp) ?_
  repeat (first | (with_reducible refine al_id ?_); refine O.al fun _ h O => ?_ | (with_reducible refine nn_id ?_); refine ⟨_, rfl, ?_⟩ | (with_reducible refine ld_id ?_); (first | refine O.ld 0 rfl ?_ | refine O.ld 1 rfl ?_); (repeat (first | (with_reducible refine ldL_n ?_) | refine ldL_s ?_ | refine ldL_c ?_)) | (with_reducible refine st_ad (by first | (with_reducible rfl) | (simp only [pt_add, Nat.zero_add, Nat.add_zero, Nat.reduceAdd]; with_reducible rfl)) ?_); (first | refine O.st 0 rfl (by simp) rfl fun h O => ?_ | refine O.st 1 rfl (by simp) rfl fun h O => ?_); (dsimp only [V.put, List.set, List.length_cons, List.length_nil] at O) | (with_reducible refine ca_id ?_); (first | refine O.ca 0 1 rfl ?_ | refine O.ca 0 2 rfl ?_ | refine O.ca 1 1 rfl ?_ | refine O.ca 1 2 rfl ?_))
  refine brr_tt (by simp) ?_
  repeat (first | (with_reducible refine al_id ?_); refine O.al fun _ h O => ?_ | (with_reducible refine nn_id ?_); refine ⟨_, rfl, ?_⟩ | (with_reducible refine ld_id ?_); (first | refine O.ld 0 rfl ?_ | refine O.ld 1 rfl ?_); (repeat (first | (with_reducible refine ldL_n ?_) | refine ldL_s ?_ | refine ldL_c ?_)) | (with_reducible refine st_ad (by first | (with_reducible rfl) | (simp only [pt_add, Nat.zero_add, Nat.add_zero, Nat.reduceAdd]; with_reducible rfl)) ?_); (first | refine O.st 0 rfl (by simp) rfl fun h O => ?_ | refine O.st 1 rfl (by simp) rfl fun h O => ?_); (dsimp only [V.put, List.set, List.length_cons, List.length_nil] at O) | (with_reducible refine ca_id ?_); (first | refine O.ca 0 1 rfl ?_ | refine O.ca 0 2 rfl ?_ | refine O.ca 1 1 rfl ?_ | refine O.ca 1 2 rfl ?_))
  refine brr_tt (by simp) ?_
  repeat (first | (with_reducible refine al_id ?_); refine O.al fun _ h O => ?_ | (with_reducible refine nn_id ?_); refine ⟨_, rfl, ?_⟩ | (with_reducible refine ld_id ?_); (first | refine O.ld 0 rfl ?_ | refine O.ld 1 rfl ?_); (repeat (first | (with_reducible refine ldL_n ?_) | refine ldL_s ?_ | refine ldL_c ?_)) | (with_reducible refine st_ad (by first | (with_reducible rfl) | (simp only [pt_add, Nat.zero_add, Nat.add_zero, Nat.reduceAdd]; with_reducible rfl)) ?_); (first | refine O.st 0 rfl (by simp) rfl fun h O => ?_ | refine O.st 1 rfl (by simp) rfl fun h O => ?_); (dsimp only [V.put, List.set, List.length_cons, List.length_nil] at O) | (with_reducible refine ca_id ?_); (first | refine O.ca 0 1 rfl ?_ | refine O.ca 0 2 rfl ?_ | refine O.ca 1 1 rfl ?_ | refine O.ca 1 2 rfl ?_))
  refine brr_tt (by simp) ?_
  repeat (first | (with_reducible refine al_id ?_); refine O.al fun _ h O => ?_ | (with_reducible refine nn_id ?_); refine ⟨_, rfl, ?_⟩ | (with_reducible refine ld_id ?_); (first | refine O.ld 0 rfl ?_ | refine O.ld 1 rfl ?_); (repeat (first | (with_reducible refine ldL_n ?_) | refine ldL_s ?_ | refine ldL_c ?_)) | (with_reducible refine st_ad (by first | (with_reducible rfl) | (simp only [pt_add, Nat.zero_add, Nat.add_zero, Nat.reduceAdd]; with_reducible rfl)) ?_); (first | refine O.st 0 rfl (by simp) rfl fun h O => ?_ | refine O.st 1 rfl (by simp) rfl fun h O => ?_); (dsimp only [V.put, List.set, List.length_cons, List.length_nil] at O) | (with_reducible refine ca_id ?_); (first | refine O.ca 0 1 rfl ?_ | refine O.ca 0 2 rfl ?_ | refine O.ca 1 1 rfl ?_ | refine O.ca 1 2 rfl ?_))
  refine brr_tt (by simp) ?_
  repeat (first | (with_reducible refine al_id ?_); refine O.al fun _ h O => ?_ | (with_reducible refine nn_id ?_); refine ⟨_, rfl, ?_⟩ | (with_reducible refine ld_id ?_); (first | refine O.ld 0 rfl ?_ | refine O.ld 1 rfl ?_); (repeat (first | (with_reducible refine ldL_n ?_) | refine ldL_s ?_ | refine ldL_c ?_)) | (with_reducible refine st_ad (by first | (with_reducible rfl) | (simp only [pt_add, Nat.zero_add, Nat.add_zero, Nat.reduceAdd]; with_reducible rfl)) ?_); (first | refine O.st 0 rfl (by simp) rfl fun h O => ?_ | refine O.st 1 rfl (by simp) rfl fun h O => ?_); (dsimp only [V.put, List.set, List.length_cons, List.length_nil] at O) | (with_reducible refine ca_id ?_); (first | refine O.ca 0 1 rfl ?_ | refine O.ca 0 2 rfl ?_ | refine O.ca 1 1 rfl ?_ | refine O.ca 1 2 rfl ?_))
  refine brr_tt (by simp) ?_
  repeat (first | (with_reducible refine al_id ?_); refine O.al fun _ h O => ?_ | (with_reducible refine nn_id ?_); refine ⟨_, rfl, ?_⟩ | (with_reducible refine ld_id ?_); (first | refine O.ld 0 rfl ?_ | refine O.ld 1 rfl ?_); (repeat (first | (with_reducible refine ldL_n ?_) | refine ldL_s ?_ | refine ldL_c ?_)) | (with_reducible refine st_ad (by first | (with_reducible rfl) | (simp only [pt_add, Nat.zero_add, Nat.add_zero, Nat.reduceAdd]; with_reducible rfl)) ?_); (first | refine O.st 0 rfl (by simp) rfl fun h O => ?_ | refine O.st 1 rfl (by simp) rfl fun h O => ?_); (dsimp only [V.put, List.set, List.length_cons, List.length_nil] at O) | (with_reducible refine ca_id ?_); (first | refine O.ca 0 1 rfl ?_ | refine O.ca 0 2 rfl ?_ | refine O.ca 1 1 rfl ?_ | refine O.ca 1 2 rfl ?_))
  refine F_ref0_Cmp.is (V1 h O.drop.drop) (V2 h O.drop.drop) (by omega) (by omega) fun r hr => ?_
  refine brr_tt (by simp [hr]) ?_
  repeat (first | (with_reducible refine al_id ?_); refine O.al fun _ h O => ?_ | (with_reducible refine nn_id ?_); refine ⟨_, rfl, ?_⟩ | (with_reducible refine ld_id ?_); (first | refine O.ld 0 rfl ?_ | refine O.ld 1 rfl ?_); (repeat (first | (with_reducible refine ldL_n ?_) | refine ldL_s ?_ | refine ldL_c ?_)) | (with_reducible refine st_ad (by first | (with_reducible rfl) | (simp only [pt_add, Nat.zero_add, Nat.add_zero, Nat.reduceAdd]; with_reducible rfl)) ?_); (first | refine O.st 0 rfl (by simp) rfl fun h O => ?_ | refine O.st 1 rfl (by simp) rfl fun h O => ?_); (dsimp only [V.put, List.set, List.length_cons, List.length_nil] at O) | (with_reducible refine ca_id ?_); (first | refine O.ca 0 1 rfl ?_ | refine O.ca 0 2 rfl ?_ | refine O.ca 1 1 rfl ?_ | refine O.ca 1 2 rfl ?_))
  refine brr_tt (by simp) ?_
  repeat (first | (with_reducible refine al_id ?_); refine O.al fun _ h O => ?_ | (with_reducible refine nn_id ?_); refine ⟨_, rfl, ?_⟩ | (with_reducible refine ld_id ?_); (first | refine O.ld 0 rfl ?_ | refine O.ld 1 rfl ?_); (repeat (first | (with_reducible refine ldL_n ?_) | refine ldL_s ?_ | refine ldL_c ?_)) | (with_reducible refine st_ad (by first | (with_reducible rfl) | (simp only [pt_add, Nat.zero_add, Nat.add_zero, Nat.reduceAdd]; with_reducible rfl)) ?_); (first | refine O.st 0 rfl (by simp) rfl fun h O => ?_ | refine O.st 1 rfl (by simp) rfl fun h O => ?_); (dsimp only [V.put, List.set, List.length_cons, List.length_nil] at O) | (with_reducible refine ca_id ?_); (first | refine O.ca 0 1 rfl ?_ | refine O.ca 0 2 rfl ?_ | refine O.ca 1 1 rfl ?_ | refine O.ca 1 2 rfl ?_))
  refine brr_tt (by simp) ?_
  repeat (first | (with_reducible refine al_id ?_); refine O.al fun _ h O => ?_ | (with_reducible refine nn_id ?_); refine ⟨_, rfl, ?_⟩ | (with_reducible refine ld_id ?_); (first | refine O.ld 0 rfl ?_ | refine O.ld 1 rfl ?_); (repeat (first | (with_reducible refine ldL_n ?_) | refine ldL_s ?_ | refine ldL_c ?_)) | (with_reducible refine st_ad (by first | (with_reducible rfl) | (simp only [pt_add, Nat.zero_add, Nat.add_zero, Nat.reduceAdd]; with_reducible rfl)) ?_); (first | refine O.st 0 rfl (by simp) rfl fun h O => ?_ | refine O.st 1 rfl (by simp) rfl fun h O => ?_); (dsimp only [V.put, List.set, List.length_cons, List.length_nil] at O) | (with_reducible refine ca_id ?_); (first | refine O.ca 0 1 rfl ?_ | refine O.ca 0 2 rfl ?_ | refine O.ca 1 1 rfl ?_ | refine O.ca 1 2 rfl ?_))
  refine brr_tt (by simp) ?_
  repeat (first | (with_reducible refine al_id ?_); refine O.al fun _ h O => ?_ | (with_reducible refine nn_id ?_); refine ⟨_, rfl, ?_⟩ | (with_reducible refine ld_id ?_); (first | refine O.ld 0 rfl ?_ | refine O.ld 1 rfl ?_); (repeat (first | (with_reducible refine ldL_n ?_) | refine ldL_s ?_ | refine ldL_c ?_)) | (with_reducible refine st_ad (by first | (with_reducible rfl) | (simp only [pt_add, Nat.zero_add, Nat.add_zero, Nat.reduceAdd]; with_reducible rfl)) ?_); (first | refine O.st 0 rfl (by simp) rfl fun h O => ?_ | refine O.st 1 rfl (by simp) rfl fun h O => ?_); (dsimp only [V.put, List.set, List.length_cons, List.length_nil] at O) | (with_reducible refine ca_id ?_); (first | refine O.ca 0 1 rfl ?_ | refine O.ca 0 2 rfl ?_ | refine O.ca 1 1 rfl ?_ | refine O.ca 1 2 rfl ?_))
  refine brr_tt (by simp) ?_
  repeat (first | (with_reducible refine al_id ?_); refine O.al fun _ h O => ?_ | (with_reducible refine nn_id ?_); refine ⟨_, rfl, ?_⟩ | (with_reducible refine ld_id ?_); (first | refine O.ld 0 rfl ?_ | refine O.ld 1 rfl ?_); (repeat (first | (with_reducible refine ldL_n ?_) | refine ldL_s ?_ | refine ldL_c ?_)) | (with_reducible refine st_ad (by first | (with_reducible rfl) | (simp only [pt_add, Nat.zero_add, Nat.add_zero, Nat.reduceAdd]; with_reducible rfl)) ?_); (first | refine O.st 0 rfl (by simp) rfl fun h O => ?_ | refine O.st 1 rfl (by simp) rfl fun h O => ?_); (dsimp only [V.put, List.set, List.length_cons, List.length_nil] at O) | (with_reducible refine ca_id ?_); (first | refine O.ca 0 1 rfl ?_ | refine O.ca 0 2 rfl ?_ | refine O.ca 1 1 rfl ?_ | refine O.ca 1 2 rfl ?_))
  refine brr_tt (by simp) ?_
  repeat (first | (with_reducible refine al_id ?_); refine O.al fun _ h O => ?_ | (with_reducible refine nn_id ?_); refine ⟨_, rfl, ?_⟩ | (with_reducible refine ld_id ?_); (first | refine O.ld 0 rfl ?_ | refine O.ld 1 rfl ?_); (repeat (first | (with_reducible refine ldL_n ?_) | refine ldL_s ?_ | refine ldL_c ?_)) | (with_reducible refine st_ad (by first | (with_reducible rfl) | (simp only [pt_add, Nat.zero_add, Nat.add_zero, Nat.reduceAdd]; with_reducible rfl)) ?_); (first | refine O.st 0 rfl (by simp) rfl fun h O => ?_ | refine O.st 1 rfl (by simp) rfl fun h O => ?_); (dsimp only [V.put, List.set, List.length_cons, List.length_nil] at O) | (with_reducible refine ca_id ?_); (first | refine O.ca 0 1 rfl ?_ | refine O.ca 0 2 rfl ?_ | refine O.ca 1 1 rfl ?_ | refine O.ca 1 2 rfl ?_))
  refine brr_tt (by simp) ?_
  repeat (first | (with_reducible refine al_id ?_); refine O.al fun _ h O => ?_ | (with_reducible refine nn_id ?_); refine ⟨_, rfl, ?_⟩ | (with_reducible refine ld_id ?_); (first | refine O.ld 0 rfl ?_ | refine O.ld 1 rfl ?_); (repeat (first | (with_reducible refine ldL_n ?_) | refine ldL_s ?_ | refine ldL_c ?_)) | (with_reducible refine st_ad (by first | (with_reducible rfl) | (simp only [pt_add, Nat.zero_add, Nat.add_zero, Nat.reduceAdd]; with_reducible rfl)) ?_); (first | refine O.st 0 rfl (by simp) rfl fun h O => ?_ | refine O.st 1 rfl (by simp) rfl fun h O => ?_); (dsimp only [V.put, List.set, List.length_cons, List.length_nil] at O) | (with_reducible refine ca_id ?_); (first | refine O.ca 0 1 rfl ?_ | refine O.ca 0 2 rfl ?_ | refine O.ca 1 1 rfl ?_ | refine O.ca 1 2 rfl ?_))
  refine brr_tt (by simp) ?_
  repeat (first | (with_reducible refine al_id ?_); refine O.al fun _ h O => ?_ | (with_reducible refine nn_id ?_); refine ⟨_, rfl, ?_⟩ | (with_reducible refine ld_id ?_); (first | refine O.ld 0 rfl ?_ | refine O.ld 1 rfl ?_); (repeat (first | (with_reducible refine ldL_n ?_) | refine ldL_s ?_ | refine ldL_c ?_)) | (with_reducible refine st_ad (by first | (with_reducible rfl) | (simp only [pt_add, Nat.zero_add, Nat.add_zero, Nat.reduceAdd]; with_reducible rfl)) ?_); (first | refine O.st 0 rfl (by simp) rfl fun h O => ?_ | refine O.st 1 rfl (by simp) rfl fun h O => ?_); (dsimp only [V.put, List.set, List.length_cons, List.length_nil] at O) | (with_reducible refine ca_id ?_); (first | refine O.ca 0 1 rfl ?_ | refine O.ca 0 2 rfl ?_ | refine O.ca 1 1 rfl ?_ | refine O.ca 1 2 rfl ?_))
  refine brr_tt (by simp) ?_
  repeat (first | (with_reducible refine al_id ?_); refine O.al fun _ h O => ?_ | (with_reducible refine nn_id ?_); refine ⟨_, rfl, ?_⟩ | (with_reducible refine ld_id ?_); (first | refine O.ld 0 rfl ?_ | refine O.ld 1 rfl ?_); (repeat (first | (with_reducible refine ldL_n ?_) | refine ldL_s ?_ | refine ldL_c ?_)) | (with_reducible refine st_ad (by first | (with_reducible rfl) | (simp only [pt_add, Nat.zero_add, Nat.add_zero, Nat.reduceAdd]; with_reducible rfl)) ?_); (first | refine O.st 0 rfl (by simp) rfl fun h O => ?_ | refine O.st 1 rfl (by simp) rfl fun h O => ?_); (dsimp only [V.put, List.set, List.length_cons, List.length_nil] at O) | (with_reducible refine ca_id ?_); (first | refine O.ca 0 1 rfl ?_ | refine O.ca 0 2 rfl ?_ | refine O.ca 1 1 rfl ?_ | refine O.ca 1 2 rfl ?_))
  refine brr_tt (by simp) ?_
  repeat (first | (with_reducible refine al_id ?_); refine O.al fun _ h O => ?_ | (with_reducible refine nn_id ?_); refine ⟨_, rfl, ?_⟩ | (with_reducible refine ld_id ?_); (first | refine O.ld 0 rfl ?_ | refine O.ld 1 rfl ?_); (repeat (first | (with_reducible refine ldL_n ?_) | refine ldL_s ?_ | refine ldL_c ?_)) | (with_reducible refine st_ad (by first | (with_reducible rfl) | (simp only [pt_add, Nat.zero_add, Nat.add_zero, Nat.reduceAdd]; with_reducible rfl)) ?_); (first | refine O.st 0 rfl (by simp) rfl fun h O => ?_ | refine O.st 1 rfl (by simp) rfl fun h O => ?_); (dsimp only [V.put, List.set, List.length_cons, List.length_nil] at O) | (with_reducible refine ca_id ?_); (first | refine O.ca 0 1 rfl ?_ | refine O.ca 0 2 rfl ?_ | refine O.ca 1 1 rfl ?_ | refine O.ca 1 2 rfl ?_))
  exact hj _ _ ⟨rfl, by simp⟩
end
end Go.Proofs.YtigcpkejjjgkeaaGreat.V
namespace Go.Proofs.YtigcpkejjjgkeaaGreat.V
open Go Go.RowKit
set_option linter.unusedVariables false
set_option maxRecDepth 100000
def F_ref0_EqMsgs.l1 (f87_ : Int → Int → Int → Int → Int → Int → Int → Int → Int → Int → Sl → Int → Int → ByteArray → ByteArray → Int → Int → Int → Int → Int → Int → Int → Int → Int → Int → Int → Int → Int → Int → Int → Int → Int → Sl → Int → Int → ByteArray → ByteArray → Int → Int → Int → Int → Int → Int → Int → Heap → (Bool → Heap → Prop) → Prop) (a1 b2 : Sl) (Q : Bool → Heap → Prop) (j3 : Heap → Prop) : Int → Heap → Prop :=
  wl [(5, .one (.int .i64))] (fun (next4 : Int → Heap → Prop) (i5 : Int) (h6 : Heap) =>
  brr (decide (i5 < ((a1.len : Nat) : Int)))
  (ixS 22 a1 i5 fun (a7 : Addr) =>
  ld [.int .i64, .int .i64, .int .i64, .int .i64, .int .u64, .int .u64, .int .u64, .int .u64, .int .i64, .int .u64, .sl, .int .i64, .int .u64, .str, .str, .int .u64, .int .u64, .int .u64, .int .i64, .int .i64, .int .i64, .int .i64] a7 h6 fun (v8 v9 v10 v11 v12 v13 v14 v15 v16 v17 : Int) (v18 : Sl) (v19 v20 : Int) (v21 v22 : ByteArray) (v23 v24 v25 v26 v27 v28 v29 : Int) =>
  ixS 22 b2 i5 fun (a30 : Addr) =>
  ld [.int .i64, .int .i64, .int .i64, .int .i64, .int .u64, .int .u64, .int .u64, .int .u64, .int .i64, .int .u64, .sl, .int .i64, .int .u64, .str, .str, .int .u64, .int .u64, .int .u64, .int .i64, .int .i64, .int .i64, .int .i64] a30 h6 fun (v31 v32 v33 v34 v35 v36 v37 v38 v39 v40 : Int) (v41 : Sl) (v42 v43 : Int) (v44 v45 : ByteArray) (v46 v47 v48 v49 v50 v51 v52 : Int) =>
  f87_ v8 v9 v10 v11 v12 v13 v14 v15 v16 v17 v18 v19 v20 v21 v22 v23 v24 v25 v26 v27 v28 v29 v31 v32 v33 v34 v35 v36 v37 v38 v39 v40 v41 v42 v43 v44 v45 v46 v47 v48 v49 v50 v51 v52 h6 fun (r53 : Bool) (h54 : Heap) =>
  brr (!r53)
  (Q false h54)
  (next4 (IntKind.i64.wrap (i5 + 1)) h54))
  (j3 h6))
def F_ref0_EqMsgs_of (f87_ : Int → Int → Int → Int → Int → Int → Int → Int → Int → Int → Sl → Int → Int → ByteArray → ByteArray → Int → Int → Int → Int → Int → Int → Int → Int → Int → Int → Int → Int → Int → Int → Int → Int → Int → Sl → Int → Int → ByteArray → ByteArray → Int → Int → Int → Int → Int → Int → Int → Heap → (Bool → Heap → Prop) → Prop) (a1 b2 : Sl) (h : Heap) (Q : Bool → Heap → Prop) : Prop :=
  brr (((a1.len : Nat) : Int) != ((b2.len : Nat) : Int))
  (Q false h)
  (jn [] (fun  (h55 : Heap) =>
  Q true h55) (fun (j3 : Heap → Prop) =>
  F_ref0_EqMsgs.l1 f87_ a1 b2 Q j3 0 h))
def F_ref0_EqMsgs (a1 b2 : Sl) (h : Heap) (Q : Bool → Heap → Prop) : Prop := F_ref0_EqMsgs_of F_ref0_EqMsg a1 b2 h Q
def plan53 : Plan := .s (.r [0, 1]) (.s (.s (.r [0, 1, 10]) (.c (.s (.r [4]) .z) .z)) (.s (.s (.r [0, 1, 5]) (.bj [] [] (.l [(5, .one (.int .i64))] [0, 1] (.s (.s (.r [0, 1, 5, 14]) (.c .z .z)) (.s (.b (.s (.d [0, 0, 3, 7, 0, 0, 48, 112, 255, 511] [[0, 1, 2, 3, 4, 5, 6, 7, 8, 9]] [0, 1, 5, 26]) (.c (.s (.r [4]) .z) .z))) (.r [0, 1, 5])))))) (.s (.r [4]) .z)))
theorem F_ref0_EqMsgs.eq (f87_ : Int → Int → Int → Int → Int → Int → Int → Int → Int → Int → Sl → Int → Int → ByteArray → ByteArray → Int → Int → Int → Int → Int → Int → Int → Int → Int → Int → Int → Int → Int → Int → Int → Int → Int → Sl → Int → Int → ByteArray → ByteArray → Int → Int → Int → Int → Int → Int → Int → Heap → (Bool → Heap → Prop) → Prop) (a1 b2 : Sl) (h : Heap) (K : Value → Heap → Prop) : F_ref0_EqMsgs_of f87_ a1 b2 h (fun (r0 : Bool) (h : Heap) => K (.bool r0) h) =
    den Tryz.prog (fn1 87 (E_ref0_EqMsg_of f87_) noFns) Tryz.f53.ntmps plan53 (bodyOf Tryz.f53) (args0 0 [(.slice a1.ptr a1.len a1.cap : Value), (.slice b2.ptr b2.len b2.cap : Value)]) h ⟨fun env h => dRes Tryz.prog Tryz.f53.results.toList env h K, fun _ _ _ => False, fun env h => dRes Tryz.prog Tryz.f53.results.toList env h K⟩ := by kernel_rfl
def E_ref0_EqMsgs_of (f : Sl → Sl → Heap → (Bool → Heap → Prop) → Prop) : List Value → Heap → (Value → Heap → Prop) → Prop
  | [v0, v1], h, K => dec1 .sl v0 fun (a1 : Sl) =>
  dec1 .sl v1 fun (b2 : Sl) =>
  f a1 b2 h (fun (r0 : Bool) (h : Heap) => K (.bool r0) h)
  | _, _, _ => False
abbrev E_ref0_EqMsgs := E_ref0_EqMsgs_of F_ref0_EqMsgs
theorem E_ref0_EqMsgs.right : IsRight Tryz.prog 53 E_ref0_EqMsgs := by
  refine isRight fun vs K w hh => ?_
  match vs, hh with
  | [v0, v1], hh =>
    unfold E_ref0_EqMsgs E_ref0_EqMsgs_of at hh
    replace hh := dec1_sound hh; obtain ⟨a1, rfl, hh⟩ := hh
    replace hh := dec1_sound hh; obtain ⟨b2, rfl, hh⟩ := hh
    unfold F_ref0_EqMsgs at hh
    exact calls_den (fn1_right ok87 E_ref0_EqMsg.right noFns_right) plan53 _ w K Tryz.func53 (by kernel_rfl) (by kernel_rfl) (Eq.mp (F_ref0_EqMsgs.eq F_ref0_EqMsg a1 b2 w.heap K) hh)
theorem ok53 : okFn Tryz.prog 53 = true := by kernel_rfl
end Go.Proofs.YtigcpkejjjgkeaaGreat.V
namespace Go.Proofs.YtigcpkejjjgkeaaGreat.V
open Go Go.RowKit
set_option linter.unusedVariables false
set_option maxRecDepth 100000
def F_law10_wakes_of (f13_ : Int → Int → Sl → Heap → (Option Addr → Heap → Prop) → Prop) (f18_ : Option Addr → Heap → (Int → Heap → Prop) → Prop) (f26_ : Option Addr → Int → Int → Int → Int → Sl → Int → Heap → (Sl → Heap → Prop) → Prop)  (h : Heap) (Q : Bool → Heap → Prop) : Prop :=
  al 3 [.int .i64 3] h fun (a1 : Addr) (h2 : Heap) =>
  f13_ 3 1 ⟨(some a1), 1, 1⟩ h2 fun (r3 : Option Addr) (h4 : Heap) =>
  brr r3.isNone
  (Q false h4)
  (al 5 [.int .u8 120] h4 fun (a5 : Addr) (h6 : Heap) =>
  frz (some a5) h6 fun (h7 : Heap) =>
  f26_ r3 5 5 0 0 ⟨(some a5), 1, 1⟩ 2 h7 fun (r8 : Sl) (h9 : Heap) =>
  jn [(0, .one .bool)] (fun (x18 : Bool) (h19 : Heap) =>
  Q x18 h19) (fun (j10 : Bool → Heap → Prop) =>
  brr (((r8.len : Nat) : Int) == 1)
  (ixS 22 r8 0 fun (a11 : Addr) =>
  ld [.int .i64] ((a11.add 0).add 0) h9 fun (v12 : Int) =>
  brr (v12 == 4)
  (ixS 22 r8 0 fun (a13 : Addr) =>
  ld [.int .u64, .int .u64] (a13.add 5) h9 fun (v14 v15 : Int) =>
  brr ((v14 == 5) && ((v15 == 1) && (true)))
  (f18_ r3 h9 fun (r16 : Int) (h17 : Heap) =>
  j10 (r16 == 2) h17)
  (j10 false h9))
  (j10 false h9))
  (j10 false h9)))
def F_law10_wakes  (h : Heap) (Q : Bool → Heap → Prop) : Prop := F_law10_wakes_of F_quorum_New F_quorum_Quorum_Phase F_quorum_Quorum_Start  h Q
def plan11 : Plan := .s (.r []) (.s (.r [1]) (.s (.s (.r [1, 6]) (.c (.s (.r [0]) .z) .z)) (.s (.r [1, 2]) (.s (.rj [(0, .one .bool)] []) .z))))
theorem F_law10_wakes.eq (f13_ : Int → Int → Sl → Heap → (Option Addr → Heap → Prop) → Prop) (f18_ : Option Addr → Heap → (Int → Heap → Prop) → Prop) (f26_ : Option Addr → Int → Int → Int → Int → Sl → Int → Heap → (Sl → Heap → Prop) → Prop)  (h : Heap) (K : Value → Heap → Prop) : F_law10_wakes_of f13_ f18_ f26_  h (fun (r0 : Bool) (h : Heap) => K (.bool r0) h) =
    den Tryz.prog (fn1 13 (E_quorum_New_of f13_) (fn1 18 (E_quorum_Quorum_Phase_of f18_) (fn1 26 (E_quorum_Quorum_Start_of f26_) noFns))) Tryz.f11.ntmps plan11 (bodyOf Tryz.f11) (args0 0 []) h ⟨fun env h => dRes Tryz.prog Tryz.f11.results.toList env h K, fun _ _ _ => False, fun env h => dRes Tryz.prog Tryz.f11.results.toList env h K⟩ := by kernel_rfl
def E_law10_wakes_of (f : Heap → (Bool → Heap → Prop) → Prop) : List Value → Heap → (Value → Heap → Prop) → Prop
  | [], h, K => f  h (fun (r0 : Bool) (h : Heap) => K (.bool r0) h)
  | _, _, _ => False
abbrev E_law10_wakes := E_law10_wakes_of F_law10_wakes
theorem E_law10_wakes.nil (f : Heap → (Bool → Heap → Prop) → Prop) (h : Heap) (K : Value → Heap → Prop) : E_law10_wakes_of f [] h K = f  h (fun (r0 : Bool) (h : Heap) => K (.bool r0) h) := rfl
theorem E_law10_wakes.right : IsRight Tryz.prog 11 E_law10_wakes := by
  refine isRight fun vs K w hh => ?_
  match vs, hh with
  | [], hh =>
    replace hh := Eq.mp (E_law10_wakes.nil F_law10_wakes w.heap K) hh
    unfold F_law10_wakes at hh
    exact calls_den (fn1_right ok13 E_quorum_New.right (fn1_right ok18 E_quorum_Quorum_Phase.right (fn1_right ok26 E_quorum_Quorum_Start.right noFns_right))) plan11 _ w K Tryz.func11 (by kernel_rfl) (by kernel_rfl) (Eq.mp (F_law10_wakes.eq F_quorum_New F_quorum_Quorum_Phase F_quorum_Quorum_Start  w.heap K) hh)
theorem ok11 : okFn Tryz.prog 11 = true := by kernel_rfl
end Go.Proofs.YtigcpkejjjgkeaaGreat.V
namespace Go.Proofs.YtigcpkejjjgkeaaGreat.V
open Go Go.RowKit
set_option linter.unusedVariables false
set_option maxRecDepth 100000
def F_law10_into_of  (i1 n2 : Int) (h : Heap) (Q : Int → Heap → Prop) : Prop :=
  n2 ≠ 0 ∧
  jn [(0, .one (.int .i64))] (fun (i4 : Int) (h5 : Heap) =>
  Q i4 h5) (fun (j3 : Int → Heap → Prop) =>
  brr (decide ((i1.tmod n2) < 0))
  (j3 (IntKind.i64.wrap ((i1.tmod n2) + n2)) h)
  (j3 (i1.tmod n2) h))
def F_law10_into (i1 n2 : Int) (h : Heap) (Q : Int → Heap → Prop) : Prop := F_law10_into_of  i1 n2 h Q
def plan8 : Plan := .s (.r [0, 1]) (.s (.r [0, 1]) (.s (.s (.r [0, 1, 9]) (.cj [(0, .one (.int .i64))] [] (.r [0]) .z)) (.s (.r [4]) .z)))
theorem F_law10_into.eq  (i1 n2 : Int) (h : Heap) (K : Value → Heap → Prop) : F_law10_into_of  i1 n2 h (fun (r0 : Int) (h : Heap) => K (.int .i64 r0) h) =
    den Tryz.prog noFns Tryz.f8.ntmps plan8 (bodyOf Tryz.f8) (args0 0 [(.int .i64 i1 : Value), (.int .i64 n2 : Value)]) h ⟨fun env h => dRes Tryz.prog Tryz.f8.results.toList env h K, fun _ _ _ => False, fun env h => dRes Tryz.prog Tryz.f8.results.toList env h K⟩ := by kernel_rfl
def E_law10_into_of (f : Int → Int → Heap → (Int → Heap → Prop) → Prop) : List Value → Heap → (Value → Heap → Prop) → Prop
  | [v0, v1], h, K => dec1 (.int .i64) v0 fun (i1 : Int) =>
  dec1 (.int .i64) v1 fun (n2 : Int) =>
  f i1 n2 h (fun (r0 : Int) (h : Heap) => K (.int .i64 r0) h)
  | _, _, _ => False
abbrev E_law10_into := E_law10_into_of F_law10_into
theorem E_law10_into.right : IsRight Tryz.prog 8 E_law10_into := by
  refine isRight fun vs K w hh => ?_
  match vs, hh with
  | [v0, v1], hh =>
    unfold E_law10_into E_law10_into_of at hh
    replace hh := dec1_sound hh; obtain ⟨i1, rfl, hh⟩ := hh
    replace hh := dec1_sound hh; obtain ⟨n2, rfl, hh⟩ := hh
    unfold F_law10_into at hh
    exact calls_den noFns_right plan8 _ w K Tryz.func8 (by kernel_rfl) (by kernel_rfl) (Eq.mp (F_law10_into.eq  i1 n2 w.heap K) hh)
theorem ok8 : okFn Tryz.prog 8 = true := by kernel_rfl
end Go.Proofs.YtigcpkejjjgkeaaGreat.V
namespace Go.Proofs.YtigcpkejjjgkeaaGreat.V
open Go Go.RowKit
set_option linter.unusedVariables false
set_option maxRecDepth 100000
def F_law10_copiesOf.l1 (r2 : Int) (j4 : Sl → Heap → Prop) : Sl → Int → Heap → Prop :=
  wl [(4, .one .sl), (5, .one (.int .i64))] (fun (next5 : Sl → Int → Heap → Prop) (l6 : Sl) (i7 : Int) (h8 : Heap) =>
  brr (decide (i7 < (IntKind.i64.wrap (1 + (IntKind.i64.wrap (2 * r2))))))
  ((9 : Int) ≠ 0 ∧
  al 3 [.int .i64 ((IntKind.i64.wrap ((IntKind.i64.wrap (4 * i7)) + 5)).tmod 9)] h8 fun (a9 : Addr) (h10 : Heap) =>
  app 3 1 8 (.int .i64 0) l6 (some a9) 1 h10 fun (s11 : Sl) (h12 : Heap) =>
  next5 s11 (IntKind.i64.wrap (i7 + 1)) h12)
  (j4 l6 h8))
def F_law10_copiesOf_of (f8_ : Int → Int → Heap → (Int → Heap → Prop) → Prop) (many1 : Int) (h : Heap) (Q : Sl → Heap → Prop) : Prop :=
  f8_ many1 4 h fun (r2 : Int) (h3 : Heap) =>
  jn [(4, .one .sl)] (fun (l13 : Sl) (h14 : Heap) =>
  Q l13 h14) (fun (j4 : Sl → Heap → Prop) =>
  F_law10_copiesOf.l1 r2 j4 (⟨none, 0, 0⟩ : Sl) 0 h3)
def F_law10_copiesOf (many1 : Int) (h : Heap) (Q : Sl → Heap → Prop) : Prop := F_law10_copiesOf_of F_law10_into many1 h Q
def plan12 : Plan := .s (.r [0]) (.s (.r [3]) (.s (.r [3, 4]) (.s (.s (.r [3, 4, 5]) (.bj [(4, .one .sl)] [] (.l [(4, .one .sl), (5, .one (.int .i64))] [3] (.s (.s (.r [3, 4, 5, 12]) (.c .z .z)) (.s (.b (.r [3, 4, 5])) (.r [3, 4, 5])))))) (.s (.r [2]) .z))))
theorem F_law10_copiesOf.eq (f8_ : Int → Int → Heap → (Int → Heap → Prop) → Prop) (many1 : Int) (h : Heap) (K : Value → Heap → Prop) : F_law10_copiesOf_of f8_ many1 h (fun (r0 : Sl) (h : Heap) => K (.slice r0.ptr r0.len r0.cap) h) =
    den Tryz.prog (fn1 8 (E_law10_into_of f8_) noFns) Tryz.f12.ntmps plan12 (bodyOf Tryz.f12) (args0 0 [(.int .i64 many1 : Value)]) h ⟨fun env h => dRes Tryz.prog Tryz.f12.results.toList env h K, fun _ _ _ => False, fun env h => dRes Tryz.prog Tryz.f12.results.toList env h K⟩ := by kernel_rfl
def E_law10_copiesOf_of (f : Int → Heap → (Sl → Heap → Prop) → Prop) : List Value → Heap → (Value → Heap → Prop) → Prop
  | [v0], h, K => dec1 (.int .i64) v0 fun (many1 : Int) =>
  f many1 h (fun (r0 : Sl) (h : Heap) => K (.slice r0.ptr r0.len r0.cap) h)
  | _, _, _ => False
abbrev E_law10_copiesOf := E_law10_copiesOf_of F_law10_copiesOf
theorem E_law10_copiesOf.right : IsRight Tryz.prog 12 E_law10_copiesOf := by
  refine isRight fun vs K w hh => ?_
  match vs, hh with
  | [v0], hh =>
    unfold E_law10_copiesOf E_law10_copiesOf_of at hh
    replace hh := dec1_sound hh; obtain ⟨many1, rfl, hh⟩ := hh
    unfold F_law10_copiesOf at hh
    exact calls_den (fn1_right ok8 E_law10_into.right noFns_right) plan12 _ w K Tryz.func12 (by kernel_rfl) (by kernel_rfl) (Eq.mp (F_law10_copiesOf.eq F_law10_into many1 w.heap K) hh)
theorem ok12 : okFn Tryz.prog 12 = true := by kernel_rfl
end Go.Proofs.YtigcpkejjjgkeaaGreat.V
/- The laws' small functions for quorums; an Op as it comes in. -/
namespace Go.Proofs.YtigcpkejjjgkeaaGreat.V
open Go Go.RowKit
set_option linter.unusedVariables false
set_option linter.unusedSimpArgs false
section
variable {h0 h : Heap} {L : List Res} {p : Nat} {q : QS} {m : Mg}
theorem F_law10_into.is {i n : Int} {Q : Int → Heap → Prop} (hn : 0 < n) (hn2 : n < 4611686018427387904) (k : Q (i % n) h) : F_law10_into i n h Q := by
  rw [F_law10_into.eq_1, F_law10_into_of.eq_1]
  have hf := tmod_fix (a := i) hn
  have hl := tmod_lt (a := i) hn
  refine ⟨by omega, ?_⟩
  refine jn1 (fun x h' => x = i % n ∧ h' = h) ?_ ?_
  · rintro x h ⟨rfl, rfl⟩
    exact k
  · intro j hj
    refine brr_p (fun hlt => ?_) (fun hlt => ?_)
    · rw [if_pos hlt] at hf
      rw [wrap64 (by omega) (by omega)]
      exact hj _ _ ⟨hf, rfl⟩
    · rw [if_neg hlt] at hf
      exact hj _ _ ⟨hf, rfl⟩
def copyN (n : Nat) : List Int := (List.range n).map fun i => ((4 * i + 5 : Nat) : Int) % 9
theorem copyN_len (n : Nat) : (copyN n).length = n := by simp [copyN]
theorem copyN_succ (n : Nat) : copyN (n + 1) = copyN n ++ [((4 * n + 5 : Nat) : Int) % 9] := by simp [copyN, List.range_succ]
theorem F_law10_copiesOf.is {many : Int} {Q : Sl → Heap → Prop} (O : Sat h0 h L) (k : ∀ s h' (n : Nat), (n = 1 ∨ n = 3 ∨ n = 5 ∨ n = 7) → Sat h0 h' (buf 1 i64c s (copyN n) :: L) → Q s h') : F_law10_copiesOf many h Q := by
  rw [F_law10_copiesOf.eq_1, F_law10_copiesOf_of.eq_1]
  refine F_law10_into.is (by decide) (by decide) ?_
  obtain ⟨g, hg, hg3⟩ : ∃ g : Nat, many % 4 = g ∧ g < 4 := ⟨(many % 4).toNat, by omega, by omega⟩
  rw [hg]
  obtain ⟨n, hn⟩ : ∃ n, n = 1 + 2 * g := ⟨_, rfl⟩
  have ewn : IntKind.i64.wrap (1 + IntKind.i64.wrap (2 * (g : Int))) = (n : Int) := by rw [wrap64 (x := 2 * (g : Int)) (by omega) (by omega), wrap64 (by omega) (by omega)]; omega
  refine jn1 (fun s h' => Sat h0 h' (buf 1 i64c s (copyN n) :: L)) (fun s h O => k s h n (by omega) O) fun j hj => ?_
  rw [F_law10_copiesOf.l1.eq_1]
  refine wl2 (k := .sl) (l := .int .i64) (fun (m : Nat) (s : Sl) (i : Int) (h' : Heap) => i + m = n ∧ 0 ≤ i ∧ Sat h0 h' (buf 1 i64c s (copyN i.toNat) :: L)) ?_ (m := n) ⟨by omega, by omega, O.nil_buf⟩
  clear O
  rintro m (s : Sl) (i : Int) h next hnx ⟨him, hi0, O⟩
  rw [ewn]
  refine brr_p (fun hlt => ?_) (fun hlt => hj _ _ (by rw [show n = i.toNat by omega]; exact O))
  refine ⟨by decide, ?_⟩
  have e : (IntKind.i64.wrap (IntKind.i64.wrap (4 * i) + 5)).tmod 9 = ((4 * i.toNat + 5 : Nat) : Int) % 9 := by
    rw [wrap64 (x := 4 * i) (by omega) (by omega), wrap64 (by omega) (by omega), Int.tmod_eq_emod_of_nonneg (by omega)]
    congr 1
    omega
  rw [e]
  refine Sat.push_buf (enc := i64c) O (((4 * i.toNat + 5 : Nat) : Int) % 9) rfl i64c_len i64c_one rfl (by rw [copyN_len]; omega) fun s2 h O _ => ?_
  rw [← copyN_succ] at O
  rw [wrap64 (by omega) (by omega)]
  refine hnx (m - 1) _ _ _ (by omega) ⟨by omega, by omega, ?_⟩
  rw [show (i + 1).toNat = i.toNat + 1 by omega]
  exact O
theorem F_ref0_EqMsgs.is {s t : Sl} {ms : List Mg} {Q : Bool → Heap → Prop} (hb : ∀ m ∈ ms, m.b.length ≤ (140737488355325 : Nat)) (hl : ms.length ≤ 3000000) (O : Sat h0 h (msgsR s ms :: msgsR t ms :: L)) (k : ∀ h', Sat h0 h' (msgsR s ms :: msgsR t ms :: L) → Q true h') : F_ref0_EqMsgs s t h Q := by
  rw [F_ref0_EqMsgs.eq_1, F_ref0_EqMsgs_of.eq_1]
  obtain ⟨ls, e1, O⟩ := O.msgs
  obtain ⟨lt, e2, O⟩ := (O.sel [2, 0, 1] 3 rfl (Nat.le_add_left _ _)).msgs
  have O : Sat h0 h (buf 22 mgC t lt :: many mvR lt :: buf 22 mgC s ls :: many mvR ls :: L) := O
  have V1 : Stays h0 (buf 22 mgC t lt :: many mvR lt :: buf 22 mgC s ls :: many mvR ls :: L) fun h => View h 22 (En mgC) s ls := fun h O => (O.view 2 mgC_len (by simp) rfl).1
  have V2 : Stays h0 (buf 22 mgC t lt :: many mvR lt :: buf 22 mgC s ls :: many mvR ls :: L) fun h => View h 22 (En mgC) t lt := fun h O => (O.view 0 mgC_len (by simp) rfl).1
  have l1 : ls.length = ms.length := by have := congrArg List.length e1; simpa using this
  have l2 : lt.length = ms.length := by have := congrArg List.length e2; simpa using this
  refine brr_ne (fun hne => absurd ?_ hne) (fun _ => ?_)
  · rw [(V1 h O).len, (V2 h O).len, l1, l2]
  refine jn0 (fun h' => Sat h0 h' (buf 22 mgC t lt :: many mvR lt :: buf 22 mgC s ls :: many mvR ls :: L)) ?_ ?_
  · clear O
    intro h O
    have O := Sat.msgsI e2 O
    have O := Sat.msgsI e1 (O.sel [1, 2, 0] 3 rfl (Nat.le_add_left _ _))
    exact k _ O
  · intro j hj
    rw [F_ref0_EqMsgs.l1.eq_1]
    refine wl1 (k := .int .i64) (fun (m : Nat) (i : Int) (h' : Heap) => i + m = ms.length ∧ 0 ≤ i ∧ Sat h0 h' (buf 22 mgC t lt :: many mvR lt :: buf 22 mgC s ls :: many mvR ls :: L)) ?_ (m := ms.length) ⟨by omega, by omega, O⟩
    clear O
    rintro m (i : Int) h next hnx ⟨him, hi0, O⟩
    rw [show decide (i < ((s.len : Nat) : Int)) = decide (i < (ms.length : Int)) by rw [(V1 h O).len, l1]]
    refine brr_p (fun hlt => ?_) (fun hlt => hj _ O)
    obtain ⟨x, hx⟩ : ∃ x, ls[i.toNat]? = some x := ⟨_, List.getElem?_eq_getElem (by omega)⟩
    obtain ⟨y, hy⟩ : ∃ y, lt[i.toNat]? = some y := ⟨_, List.getElem?_eq_getElem (by omega)⟩
    have ex : x.bare = y.bare := by
      have a := congrArg (·[i.toNat]?) e1
      have b := congrArg (·[i.toNat]?) e2
      simp only [List.getElem?_map, hx, hy, Option.map_some] at a b
      exact Option.some.inj (a.trans b.symm)
    have hy2 : y = { x with v := y.v } := by
      cases x; cases y
      simp only [Mg.bare, Mg.mk.injEq] at ex ⊢
      simp only [ex, and_self]
    have hxb : x.b.length ≤ (140737488355325 : Nat) := by
      have : x.bare ∈ ms := by rw [← e1]; exact List.mem_map.2 ⟨x, List.mem_of_getElem? hx, rfl⟩
      exact hb x.bare this
    refine (V1 h O).getP hi0 hx fun a ha => ld_are (ha (V1 h O)) ?_
    unfold mgC
    repeat (first | (with_reducible refine ldL_n ?_) | refine ldL_s ?_ | refine ldL_c ?_)
    refine (V2 h O).getP hi0 hy fun a ha => ld_are (ha (V2 h O)) ?_
    rw [hy2]
    unfold mgC
    repeat (first | (with_reducible refine ldL_n ?_) | refine ldL_s ?_ | refine ldL_c ?_)
    have yb : y.b = x.b := by rw [hy2]
    refine F_ref0_EqMsg.is (m := x) (t := y.v) O (fun h O => ?_) (fun h O => ?_) hxb fun h O => ?_
    · have := (O.sel [3, 0, 1, 2] 4 rfl (Nat.le_add_left _ _)).take _ hx
      exact (this.view 0 u8_len (by simp) rfl).1
    · have := (O.sel [1, 0, 2, 3] 4 rfl (Nat.le_add_left _ _)).take _ hy
      rw [← yb]
      exact (this.view 0 u8_len (by simp) rfl).1
    refine brr_ff rfl ?_
    rw [wrap64 (by omega) (by omega)]
    exact hnx (m - 1) _ _ (by omega) ⟨by omega, by omega, O⟩
theorem msgs_len {s : Sl} {ms : List Mg} (O : Sat h0 h (msgsR s ms :: L)) : s.len = ms.length := by
  obtain ⟨ls, e, O⟩ := O.msgs
  rw [(O.view 0 mgC_len (by simp) rfl).1.len, ← e, List.length_map]
theorem send_b {x m : Mg} {out : Int → Bool} (h : m ∈ q.send x out) : m.b = x.b := by
  unfold QS.send at h
  obtain ⟨c, _, rfl⟩ := List.mem_map.1 h
  rfl
theorem prepares_b {m : Mg} (h : m ∈ q.prepares) : m.b.length ≤ (140737488355325 : Nat) := by rw [send_b h]; show (0 : Nat) ≤ _; decide
theorem writes_b {m : Mg} {span : Int} (ok : q.Ok) (h : m ∈ q.writes span) : m.b.length ≤ (140737488355325 : Nat) := by rw [send_b h]; exact ok.v
theorem beats_b {m : Mg} {span : Int} (h : m ∈ q.beats span) : m.b.length ≤ (140737488355325 : Nat) := by rw [send_b h]; show (0 : Nat) ≤ _; decide
theorem start_b {e te ts span : Int} {b : List UInt8} (ok : q.Ok) (hb : b.length ≤ (140737488355325 : Nat)) : (∀ m ∈ (q.start e te ts b span).2, m.b.length ≤ (140737488355325 : Nat)) ∧ (q.start e te ts b span).2.length ≤ 1000000 := by
  have hc := ok.c
  unfold QS.start
  split
  · exact ⟨fun m h => writes_b ((ok.start0 hb).wrt (by decide)) h, Nat.le_trans send_len hc⟩
  · exact ⟨fun m h => prepares_b h, Nat.le_trans send_len hc⟩
theorem hear_b {m : Mg} {span : Int} (ok : q.Ok) (hb : m.b.length ≤ (140737488355325 : Nat)) : (∀ x ∈ (q.hear m span).2, x.b.length ≤ (140737488355325 : Nat)) ∧ (q.hear m span).2.length ≤ 1000000 := by
  have hc := ok.c
  have z : (∀ x ∈ ([] : List Mg), x.b.length ≤ (140737488355325 : Nat)) ∧ ([] : List Mg).length ≤ 1000000 := ⟨fun x hx => absurd hx List.not_mem_nil, by simp⟩
  unfold QS.hear
  split
  · exact z
  split
  · unfold QS.promise
    split
    · exact z
    split
    · refine ⟨fun m h => writes_b ((ok.prom hb).wrt (by decide)) h, Nat.le_trans send_len ?_⟩
      show (q.prom m).cop.length ≤ _
      rw [prom_same.2.2.1]; exact hc
    · exact z
  split
  · exact z
  split
  · exact z
  split
  · exact z
  · exact z
theorem propose_b {b : List UInt8} {span : Int} (ok : q.Ok) (hb : b.length ≤ (140737488355325 : Nat)) : (∀ m ∈ (q.propose b span).2.1, m.b.length ≤ (140737488355325 : Nat)) ∧ (q.propose b span).2.1.length ≤ 1000000 := by
  have hc := ok.c
  have ht := ok.t
  unfold QS.propose
  split
  · exact ⟨fun x hx => absurd hx List.not_mem_nil, by simp⟩
  · exact ⟨fun m h => writes_b (QS.Ok.wrt (q := { q with val := b }) ⟨ok.c, hb, ok.w, ok.n, ok.s, ok.t, ok.b⟩ (by omega)) h, Nat.le_trans send_len hc⟩
theorem tick0_b {m : Mg} {span : Int} (ok : q.Ok) (h : m ∈ q.tick0 span) : m.b.length ≤ (140737488355325 : Nat) := by
  unfold QS.tick0 at h
  split at h
  · exact prepares_b h
  split at h
  · exact writes_b ok h
  · cases h
theorem tick_b {span : Int} (ok : q.Ok) : (∀ m ∈ (q.tick span).2, m.b.length ≤ (140737488355325 : Nat)) ∧ (q.tick span).2.length ≤ 2000000 := by
  have hc := ok.c
  have h0 := tick0_len (q := q) (span := span)
  have h1 : (q.beats span).length ≤ q.cop.length := send_len
  have h2 : (q.rise.beats span).length ≤ q.cop.length := send_len (q := q.rise)
  unfold QS.tick
  split
  · exact ⟨fun m h => tick0_b ok h, by show (q.tick0 span).length ≤ _; omega⟩
  split
  · split
    · exact ⟨fun m h => tick0_b ok h, by show (q.tick0 span).length ≤ _; omega⟩
    · refine ⟨fun m h => ?_, by rw [List.length_append]; omega⟩
      rcases List.mem_append.1 h with h | h
      · exact tick0_b ok h
      · exact beats_b h
  · refine ⟨fun m h => ?_, by rw [List.length_append]; omega⟩
    rcases List.mem_append.1 h with h | h
    · exact tick0_b ok h
    · exact beats_b h
theorem fresh_ok {node shard : Int} {cop : List Int} (hc : cop.length ≤ 1000000) : (QS.fresh node shard cop).Ok := ⟨hc, by simp [QS.fresh], by simp [QS.fresh], List.nodup_nil, fun x hx => absurd hx List.not_mem_nil, Int.le_refl _, Int.le_refl _⟩
theorem int_buf {b : Nat} {x : Int} (O : Sat h0 h (own b [.int .i64 x] :: L)) : Sat h0 h (buf 1 i64c ⟨some (pt b 0), 1, 1⟩ [x] :: L) := by
  have O : Sat h0 h (own b ([x].flatMap i64c ++ []) :: L) := O
  exact (O.own_buf (k := 0) (sz := 1) rfl).bufsI
def wakeQ : QS := ((QS.fresh 3 1 [3]).start 5 0 0 [120] 2).1
theorem F_law10_wakes.is {Q : Bool → Heap → Prop} (O : Sat h0 h L) (k : ∀ h', Sat h0 h' L → Q true h') : F_law10_wakes h Q := by
  rw [F_law10_wakes.eq_1, F_law10_wakes_of.eq_1]
  refine O.al fun a1 h O => ?_
  have O := int_buf O
  refine F_quorum_New.is (cop := [3]) (fun h O => (O.view 0 i64c_len (by simp) rfl).1) (by simp) O fun p h O => ?_
  refine brr_ff rfl ?_
  refine O.al fun a5 h O => ?_
  refine O.frz fun h O => ?_
  have O : Sat h0 h (own a5 [.int .u8 ((120 : UInt8).toNat : Int)] :: quR p (QS.fresh 3 1 [3]) :: buf 1 i64c ⟨some (pt a1 0), 1, 1⟩ [3] :: L) := O
  have O := lit_buf O
  refine F_quorum_Quorum_Start.is (b := [120]) (fresh_ok (by simp)) (by simp) (fun h O => (O.view 0 u8_len (by simp) rfl).1) O.swap fun s h O => ?_
  have e : ((QS.fresh 3 1 [3]).start 5 0 0 [120] 2).2 = [{ mgz with kind := 4, frm := 3, to := 3, shard := 1, te := 5, ts := 1, span := 2, b := [120] }] := by rfl
  rw [e] at O
  obtain ⟨ls, el, O⟩ := O.msgs
  have V := (O.view 0 mgC_len (by simp) rfl).1
  obtain ⟨x, rfl⟩ : ∃ x, ls = [x] := by
    have hl : ls.length = 1 := by have := congrArg List.length el; simpa using this
    cases ls with
    | nil => cases hl
    | cons x t =>
      cases t with
      | nil => exact ⟨x, rfl⟩
      | cons y t => simp at hl
  have ex : x.bare = { mgz with kind := 4, frm := 3, to := 3, shard := 1, te := 5, ts := 1, span := 2, b := [120] } := by
    simpa using el
  have x1 : x.kind = 4 := congrArg Mg.kind ex
  have x2 : x.te = 5 := congrArg Mg.te ex
  have x3 : x.ts = 1 := congrArg Mg.ts ex
  refine jn1 (fun z h' => z = true ∧ Sat h0 h' L) (fun z h' hh => by obtain ⟨rfl, O⟩ := hh; exact k _ O) fun j hj => ?_
  rw [V.len]
  refine brr_eq (fun _ => ?_) (fun hn => absurd rfl hn)
  refine V.getP (x := x) (Int.le_refl _) rfl fun a ha => ld_drop (ha V) 0 (ldL_c (ldL_n ?_))
  rw [x1]
  refine brr_tt rfl ?_
  refine V.getP (x := x) (Int.le_refl _) rfl fun a ha => ld_drop (ha V) 5 (ldL_c (ldL_c (ldL_n ?_)))
  rw [x2, x3]
  refine brr_tt rfl ?_
  refine F_quorum_Quorum_Phase.is (O.sel [2] 3 rfl (Nat.le_add_left _ _)) ?_
  exact hj _ _ ⟨by rfl, O.sel [] 5 rfl (Nat.le_add_left _ _)⟩
end
structure QOp where
  kind : Int
  which : Int
  epoch : Int
  o1 : Int
  te : Int
  ts : Int
  ov : Sl
  span : Int
  m : Mg
  aim : Int
  v : Sl
  ob : List UInt8
  vb : List UInt8
def qopC (o : QOp) : List Value := [.int .i64 o.kind, .int .i64 o.which, .int .u64 o.epoch, .int .u64 o.o1, .int .u64 o.te, .int .u64 o.ts, .slice o.ov.ptr o.ov.len o.ov.cap, .int .i64 o.span, .int .i64 o.m.kind, .int .i64 o.m.frm, .int .i64 o.m.to, .int .i64 o.m.shard, .int .u64 o.m.epoch, .int .u64 o.m.te, .int .u64 o.m.ts, .int .u64 o.m.round, .int .i64 o.m.span, .int .u64 o.m.seen, .slice o.m.v.ptr o.m.v.len o.m.v.cap, .int .i64 o.m.peer, .int .u64 o.m.num, .string o.m.name, .string o.m.other, .int .u64 o.m.amount, .int .u64 o.m.life, .int .u64 o.m.id, .int .i64 o.m.op, .int .i64 o.m.client, .int .i64 o.m.state, .int .i64 o.m.bad, .int .i64 o.aim, .slice o.v.ptr o.v.len o.v.cap]
abbrev tyB : Ty := .sl 1 1 (.int .u8)
abbrev tyMsg : Ty := .cons (.cons (.int .i64) (.cons (.int .i64) (.cons (.int .i64) (.cons (.int .i64) .nil)))) (.cons (.int .u64) (.cons (.cons (.int .u64) (.cons (.int .u64) .nil)) (.cons (.int .u64) (.cons (.int .i64) (.cons (.int .u64) (.cons tyB (.cons (.int .i64) (.cons (.int .u64) (.cons .str (.cons .str (.cons (.int .u64) (.cons (.cons (.int .u64) (.cons (.int .u64) .nil)) (.cons (.int .i64) (.cons (.int .i64) (.cons (.int .i64) (.cons (.int .i64) .nil))))))))))))))))
abbrev tyStored : Ty := .cons (.int .u64) (.cons (.cons (.int .u64) (.cons (.int .u64) .nil)) (.cons tyB .nil))
abbrev tyQOp : Ty := .cons (.int .i64) (.cons (.int .i64) (.cons (.int .u64) (.cons tyStored (.cons (.int .i64) (.cons tyMsg (.cons (.int .i64) (.cons tyB .nil)))))))
abbrev tyTwo : Ty := .cons (.int .i64) (.cons (.int .i64) .nil)
abbrev tyQScript : Ty := .cons tyTwo (.cons tyTwo (.cons tyTwo (.cons (.sl 32 320 tyQOp) .nil)))
structure QOp.Ok (h : Heap) (o : QOp) : Prop where
  mv : Bytes h o.m.v o.m.b
  mb : o.m.b.length ≤ (140737488355325 : Nat)
  ov : Bytes h o.ov o.ob
  ob : o.ob.length ≤ (140737488355325 : Nat)
  v : Bytes h o.v o.vb
  vb : o.vb.length ≤ (140737488355325 : Nat)
def qopR (h : Heap) (o : QOp) (cs : List Value) : Prop := cs = qopC o ∧ o.Ok h
theorem SlN.qops {h : Heap} {s : Sl} (S : SlN h 140737488351232 32 320 s fun cs => Fit h 140737488351232 tyQOp cs) : ∃ l : List QOp, View h 32 (qopR h) s l := by
  obtain ⟨h1, h2, _, xs, V⟩ := S.view (qopR h) (fun cs F => by
    obtain ⟨t1, _, rfl, t1a, t1b, F⟩ := Fit.i F
    obtain ⟨t2, _, rfl, t2a, t2b, F⟩ := Fit.i F
    obtain ⟨t3, _, rfl, t3a, t3b, F⟩ := Fit.i F
    replace F := Fit.g F
    obtain ⟨s1, _, rfl, s1a, s1b, F⟩ := Fit.i F
    replace F := Fit.g F
    replace F := Fit.g F
    obtain ⟨s2, _, rfl, s2a, s2b, F⟩ := Fit.i F
    replace F := Fit.g F
    obtain ⟨s3, _, rfl, s3a, s3b, F⟩ := Fit.i F
    replace F := Fit.z F
    replace F := Fit.g F
    obtain ⟨s4, _, rfl, s4S, F⟩ := Fit.s F
    replace F := Fit.z F
    obtain ⟨t4, _, rfl, t4a, t4b, F⟩ := Fit.i F
    replace F := Fit.g F
    replace F := Fit.g F
    obtain ⟨m1, _, rfl, m1a, m1b, F⟩ := Fit.i F
    replace F := Fit.g F
    obtain ⟨m2, _, rfl, m2a, m2b, F⟩ := Fit.i F
    replace F := Fit.g F
    obtain ⟨m3, _, rfl, m3a, m3b, F⟩ := Fit.i F
    replace F := Fit.g F
    obtain ⟨m4, _, rfl, m4a, m4b, F⟩ := Fit.i F
    replace F := Fit.z F
    replace F := Fit.g F
    obtain ⟨m5, _, rfl, m5a, m5b, F⟩ := Fit.i F
    replace F := Fit.g F
    replace F := Fit.g F
    obtain ⟨m6, _, rfl, m6a, m6b, F⟩ := Fit.i F
    replace F := Fit.g F
    obtain ⟨m7, _, rfl, m7a, m7b, F⟩ := Fit.i F
    replace F := Fit.z F
    replace F := Fit.g F
    obtain ⟨m8, _, rfl, m8a, m8b, F⟩ := Fit.i F
    replace F := Fit.g F
    obtain ⟨m9, _, rfl, m9a, m9b, F⟩ := Fit.i F
    replace F := Fit.g F
    obtain ⟨m10, _, rfl, m10a, m10b, F⟩ := Fit.i F
    replace F := Fit.g F
    obtain ⟨m11, _, rfl, m11S, F⟩ := Fit.s F
    replace F := Fit.g F
    obtain ⟨m12, _, rfl, m12a, m12b, F⟩ := Fit.i F
    replace F := Fit.g F
    obtain ⟨m13, _, rfl, m13a, m13b, F⟩ := Fit.i F
    replace F := Fit.g F
    obtain ⟨m14, _, rfl, m14l, F⟩ := Fit.a F
    replace F := Fit.g F
    obtain ⟨m15, _, rfl, m15l, F⟩ := Fit.a F
    replace F := Fit.g F
    obtain ⟨m16, _, rfl, m16a, m16b, F⟩ := Fit.i F
    replace F := Fit.g F
    replace F := Fit.g F
    obtain ⟨m17, _, rfl, m17a, m17b, F⟩ := Fit.i F
    replace F := Fit.g F
    obtain ⟨m18, _, rfl, m18a, m18b, F⟩ := Fit.i F
    replace F := Fit.z F
    replace F := Fit.g F
    obtain ⟨m19, _, rfl, m19a, m19b, F⟩ := Fit.i F
    replace F := Fit.g F
    obtain ⟨m20, _, rfl, m20a, m20b, F⟩ := Fit.i F
    replace F := Fit.g F
    obtain ⟨m21, _, rfl, m21a, m21b, F⟩ := Fit.i F
    replace F := Fit.g F
    obtain ⟨m22, _, rfl, m22a, m22b, F⟩ := Fit.i F
    replace F := Fit.z F
    obtain ⟨t5, _, rfl, t5a, t5b, F⟩ := Fit.i F
    obtain ⟨t6, _, rfl, t6S, F⟩ := Fit.s F
    obtain rfl := Fit.e F
    obtain ⟨_, a2, l, Vl⟩ := m11S.bytes
    obtain ⟨_, b2, l2, Vl2⟩ := s4S.bytes
    obtain ⟨_, c2, l3, Vl3⟩ := t6S.bytes
    have hl := Vl.len
    have hl2 := Vl2.len
    have hl3 := Vl3.len
    refine ⟨⟨t1, t2, t3, s1, s2, s3, s4, t4, ⟨m1, m2, m3, m4, m5, m6, m7, m8, m9, m10, m11, m12, m13, m14, m15, m16, m17, m18, m19, m20, m21, m22, l⟩, t5, t6, l2, l3⟩, rfl, Vl, ?_, Vl2, ?_, Vl3, ?_⟩
    · show l.length ≤ _; omega
    · show l2.length ≤ _; omega
    · show l3.length ≤ _; omega)
  exact ⟨xs, V⟩
end Go.Proofs.YtigcpkejjjgkeaaGreat.V
/- What keeps a quorum's steps in order (plain). -/
namespace Go.Proofs.YtigcpkejjjgkeaaGreat.V
open Go Go.RowKit
set_option linter.unusedVariables false
set_option linter.unusedSimpArgs false

structure QS.Inv (q : QS) : Prop where
  ok : q.Ok
  p1 : q.phase = 1 → q.most (q.pm.length : Nat) = false
  p2 : q.phase = 2 → q.most (q.wr.length : Nat) = false
  p3 : q.phase = 3 → q.chosen = q.tag
  bd : q.begun ≠ q.done → q.most (q.bt.length : Nat) = false
section
variable {q : QS} {m : Mg}
theorem most_zero : q.most ((([] : List Int).length : Nat) : Int) = false := by unfold QS.most; exact decide_eq_false (by simp; omega)
theorem most_small {n : Nat} (h : q.most (n : Int) = false) : n ≤ q.cop.length / 2 := by
  unfold QS.most at h
  have := of_decide_eq_false h
  omega
theorem inv_wrt (ok : q.Ok) (bd : q.begun ≠ q.done → q.most (q.bt.length : Nat) = false) {seq : Int} (hs : 0 ≤ seq) : (q.wrt seq).Inv :=
  ⟨ok.wrt hs, fun h => absurd h (by show ¬ (2 : Int) = 1; decide), fun _ => most_zero, fun h => absurd h (by show ¬ (2 : Int) = 3; decide), bd⟩
theorem inv_stop (ok : q.Ok) : q.stop.Inv :=
  ⟨ok.stop, fun h => absurd h (by show ¬ (0 : Int) = 1; decide), fun h => absurd h (by show ¬ (0 : Int) = 2; decide), fun h => absurd h (by show ¬ (0 : Int) = 3; decide), fun h => absurd rfl h⟩
theorem inv_fresh {node shard : Int} {cop : List Int} (hc : cop.length ≤ 1000000) : (QS.fresh node shard cop).Inv :=
  ⟨fresh_ok hc, fun h => absurd h (by show ¬ (0 : Int) = 1; decide), fun h => absurd h (by show ¬ (0 : Int) = 2; decide), fun h => absurd h (by show ¬ (0 : Int) = 3; decide), fun h => absurd rfl h⟩
theorem inv_start (ok : q.Ok) {e te ts span : Int} {b : List UInt8} (hb : b.length ≤ (140737488355325 : Nat)) : (q.start e te ts b span).1.Inv := by
  unfold QS.start
  split
  · exact inv_wrt (ok.start0 hb) (fun h => absurd rfl h) (by decide)
  · rename_i h
    exact ⟨ok.start0 hb, fun _ => eq_false_of_ne_true h, fun h => absurd h (by show ¬ (1 : Int) = 2; decide), fun h => absurd h (by show ¬ (1 : Int) = 3; decide), fun h => absurd rfl h⟩
theorem prom_more : (q.prom m).begun = q.begun ∧ (q.prom m).done = q.done ∧ (q.prom m).bt = q.bt ∧ (q.prom m).wr = q.wr ∧ (q.prom m).tag = q.tag ∧ (q.prom m).chosen = q.chosen ∧ (q.prom m).what = q.what ∧ (q.prom m).rf = q.rf ∧ (q.prom m).seen = q.seen := by
  unfold QS.prom; split <;> exact ⟨rfl, rfl, rfl, rfl, rfl, rfl, rfl, rfl, rfl⟩
theorem prom_most {n : Int} : (q.prom m).most n = q.most n := by unfold QS.most; rw [prom_same.2.2.1]
theorem inv_promise (iv : q.Inv) (hb : m.b.length ≤ (140737488355325 : Nat)) (span : Int) : (q.promise m span).1.Inv := by
  obtain ⟨e1, e2, e3, e4, e5, e6⟩ := prom_same (q := q) (m := m)
  obtain ⟨f1, f2, f3, f4, f5, f6, f7, f8, f9⟩ := prom_more (q := q) (m := m)
  have ok := iv.ok.prom hb
  have bd : (q.prom m).begun ≠ (q.prom m).done → (q.prom m).most ((q.prom m).bt.length : Nat) = false := by
    rw [f1, f2, f3, prom_most]; exact iv.bd
  unfold QS.promise
  split
  · exact iv
  split
  · exact inv_wrt ok bd (by decide)
  · rename_i h1 h2
    have hp : q.phase = 1 := by
      rcases Decidable.em (q.phase = 1) with h | h
      · exact h
      · exact absurd (.inl h) h1
    refine ⟨ok, fun _ => by simpa using h2, fun h => ?_, fun h => ?_, bd⟩
    · rw [e4, hp] at h; exact absurd h (by decide)
    · rw [e4, hp] at h; exact absurd h (by decide)
theorem inv_stored (iv : q.Inv) : (q.stored m).Inv := by
  have ok := iv.ok.stored (m := m)
  unfold QS.stored at ok ⊢
  split
  · rename_i h1
    rw [if_pos h1] at ok
    split
    · rename_i h2
      rw [if_pos h2] at ok
      exact ⟨ok, fun h => absurd h (by show ¬ (3 : Int) = 1; decide), fun h => absurd h (by show ¬ (3 : Int) = 2; decide), fun _ => rfl, iv.bd⟩
    · rename_i h2
      rw [if_neg h2] at ok
      exact ⟨ok, iv.p1, fun _ => eq_false_of_ne_true h2, iv.p3, iv.bd⟩
  · exact iv
theorem inv_heed (iv : q.Inv) : (q.heed m).Inv := ⟨⟨iv.ok.c, iv.ok.v, iv.ok.w, iv.ok.n, iv.ok.s, iv.ok.t, iv.ok.b⟩, iv.p1, iv.p2, iv.p3, iv.bd⟩
theorem inv_refuse (iv : q.Inv) (hm : m.frm ∈ q.cop) : (q.refuse m).Inv := by
  have ok := iv.ok.refuse hm
  unfold QS.refuse at ok ⊢
  split
  · exact inv_heed iv
  · rename_i h1
    rw [if_neg h1] at ok
    split
    · rename_i h2
      rw [if_pos h2] at ok
      exact ⟨ok, iv.p1, iv.p2, iv.p3, iv.bd⟩
    · exact inv_stop (inv_heed iv).ok
theorem inv_beat (iv : q.Inv) : (q.beat m).Inv := by
  have ok := iv.ok.beat (m := m)
  unfold QS.beat at ok ⊢
  split
  · rename_i h1
    rw [if_pos h1] at ok
    split
    · rename_i h2
      rw [if_pos h2] at ok
      exact ⟨ok, iv.p1, iv.p2, iv.p3, fun h => absurd rfl h⟩
    · rename_i h2
      rw [if_neg h2] at ok
      exact ⟨ok, iv.p1, iv.p2, iv.p3, fun _ => eq_false_of_ne_true h2⟩
  · exact iv
theorem inv_hear (iv : q.Inv) (hb : m.b.length ≤ (140737488355325 : Nat)) (span : Int) : (q.hear m span).1.Inv := by
  unfold QS.hear
  split
  · exact iv
  rename_i hg
  have hm : m.frm ∈ q.cop := Decidable.byContradiction fun h => hg (.inr (.inr h))
  split
  · exact inv_promise iv hb span
  split
  · exact inv_stored iv
  split
  · exact inv_refuse iv hm
  split
  · exact inv_beat iv
  · exact iv
theorem inv_propose (iv : q.Inv) {b : List UInt8} (hb : b.length ≤ (140737488355325 : Nat)) (span : Int) : (q.propose b span).1.Inv := by
  have ht := iv.ok.t
  unfold QS.propose
  split
  · exact iv
  · exact inv_wrt (q := { q with val := b }) ⟨iv.ok.c, hb, iv.ok.w, iv.ok.n, iv.ok.s, iv.ok.t, iv.ok.b⟩ iv.bd (by omega)
theorem inv_tick (iv : q.Inv) (span : Int) : (q.tick span).1.Inv := by
  have ok := iv.ok.tick span
  unfold QS.tick at ok ⊢
  split
  · exact iv
  rename_i h1
  rw [if_neg h1] at ok
  split
  · rename_i h2
    rw [if_pos h2] at ok
    split
    · exact iv
    · rename_i h3
      rw [if_neg h3] at ok
      exact ⟨ok, iv.p1, iv.p2, iv.p3, fun _ => most_zero⟩
  · exact iv
end
end Go.Proofs.YtigcpkejjjgkeaaGreat.V
namespace Go.Proofs.YtigcpkejjjgkeaaGreat.V
open Go Go.RowKit
set_option linter.unusedVariables false
set_option maxRecDepth 100000
def F_ref10_New.l1 (copies3 : Sl) (a4 : Addr) (j6 : Heap → Prop) : Int → Heap → Prop :=
  wl [(8, .one (.int .i64))] (fun (next7 : Int → Heap → Prop) (i8 : Int) (h9 : Heap) =>
  brr (decide (i8 < ((copies3.len : Nat) : Int)))
  (nn (some a4) fun (a10 : Addr) =>
  ld [.sl] (a10.add 2) h9 fun (v11 : Sl) =>
  ixS 1 copies3 i8 fun (a12 : Addr) =>
  ld [.int .i64] a12 h9 fun (v13 : Int) =>
  al 3 [.int .i64 v13] h9 fun (a14 : Addr) (h15 : Heap) =>
  cellsAre h15 (a10.add 2) [.slice v11.ptr v11.len v11.cap] ∧
  app 3 1 8 (.int .i64 0) v11 (some a14) 1 h15 fun (s16 : Sl) (h17 : Heap) =>
  nn (some a4) fun (a18 : Addr) =>
  st (a18.add 2) [.slice s16.ptr s16.len s16.cap] h17 fun (h19 : Heap) =>
  next7 (IntKind.i64.wrap (i8 + 1)) h19)
  (j6 h9))
def F_ref10_New_of  (node1 shard2 : Int) (copies3 : Sl) (h : Heap) (Q : Option Addr → Heap → Prop) : Prop :=
  al 82 [.int .i64 node1, .int .i64 shard2, .slice none 0 0, .int .i64 0, .int .u64 0, .slice none 0 0, .int .u64 0, .int .u64 0, .slice none 0 0, .slice none 0 0, .slice none 0 0, .bool false, .int .u64 0, .int .u64 0, .slice none 0 0, .int .u64 0, .int .u64 0, .slice none 0 0, .int .u64 0] h fun (a4 : Addr) (h5 : Heap) =>
  jn [] (fun  (h20 : Heap) =>
  Q (some a4) h20) (fun (j6 : Heap → Prop) =>
  F_ref10_New.l1 copies3 a4 j6 0 h5)
def F_ref10_New (node1 shard2 : Int) (copies3 : Sl) (h : Heap) (Q : Option Addr → Heap → Prop) : Prop := F_ref10_New_of  node1 shard2 copies3 h Q
def plan14 : Plan := .s (.r [0, 1, 2]) (.s (.r [2, 7]) (.s (.s (.r [2, 7, 8]) (.bj [] [7] (.l [(8, .one (.int .i64))] [2, 7] (.s (.s (.r [2, 7, 8, 16]) (.c .z .z)) (.s (.b (.d [0, 0, 2, 6, 14, 0, 0, 96, 224, 480, 1022, 2047, 4095, 8191] [[0, 1, 2, 3, 4, 5, 6, 7, 8, 9, 10, 11, 12, 13]] [2, 7, 8])) (.r [2, 7, 8])))))) (.s (.r [6]) .z)))
theorem F_ref10_New.eq  (node1 shard2 : Int) (copies3 : Sl) (h : Heap) (K : Value → Heap → Prop) : F_ref10_New_of  node1 shard2 copies3 h (fun (r0 : Option Addr) (h : Heap) => K (.pointer r0) h) =
    den Tryz.prog noFns Tryz.f14.ntmps plan14 (bodyOf Tryz.f14) (args0 0 [(.int .i64 node1 : Value), (.int .i64 shard2 : Value), (.slice copies3.ptr copies3.len copies3.cap : Value)]) h ⟨fun env h => dRes Tryz.prog Tryz.f14.results.toList env h K, fun _ _ _ => False, fun env h => dRes Tryz.prog Tryz.f14.results.toList env h K⟩ := by kernel_rfl
def E_ref10_New_of (f : Int → Int → Sl → Heap → (Option Addr → Heap → Prop) → Prop) : List Value → Heap → (Value → Heap → Prop) → Prop
  | [v0, v1, v2], h, K => dec1 (.int .i64) v0 fun (node1 : Int) =>
  dec1 (.int .i64) v1 fun (shard2 : Int) =>
  dec1 .sl v2 fun (copies3 : Sl) =>
  f node1 shard2 copies3 h (fun (r0 : Option Addr) (h : Heap) => K (.pointer r0) h)
  | _, _, _ => False
abbrev E_ref10_New := E_ref10_New_of F_ref10_New
theorem E_ref10_New.right : IsRight Tryz.prog 14 E_ref10_New := by
  refine isRight fun vs K w hh => ?_
  match vs, hh with
  | [v0, v1, v2], hh =>
    unfold E_ref10_New E_ref10_New_of at hh
    replace hh := dec1_sound hh; obtain ⟨node1, rfl, hh⟩ := hh
    replace hh := dec1_sound hh; obtain ⟨shard2, rfl, hh⟩ := hh
    replace hh := dec1_sound hh; obtain ⟨copies3, rfl, hh⟩ := hh
    unfold F_ref10_New at hh
    exact calls_den noFns_right plan14 _ w K Tryz.func14 (by kernel_rfl) (by kernel_rfl) (Eq.mp (F_ref10_New.eq  node1 shard2 copies3 w.heap K) hh)
theorem ok14 : okFn Tryz.prog 14 = true := by kernel_rfl
end Go.Proofs.YtigcpkejjjgkeaaGreat.V
namespace Go.Proofs.YtigcpkejjjgkeaaGreat.V
open Go Go.RowKit
set_option linter.unusedVariables false
set_option maxRecDepth 100000
def F_ref10_Quorum_Holds_of  (q1 : Option Addr) (h : Heap) (Q : Bool → Heap → Prop) : Prop :=
  jn [(2, .one .bool)] (fun (x9 : Bool) (h10 : Heap) =>
  Q x9 h10) (fun (j2 : Bool → Heap → Prop) =>
  nn q1 fun (a3 : Addr) =>
  ld [.int .i64] (a3.add 3) h fun (v4 : Int) =>
  brr (v4 == 3)
  (j2 true h)
  (nn q1 fun (a5 : Addr) =>
  ld [.int .i64] (a5.add 3) h fun (v6 : Int) =>
  brr (v6 == 2)
  (nn q1 fun (a7 : Addr) =>
  ld [.int .u64] ((a7.add 6).add 1) h fun (v8 : Int) =>
  j2 (decide (v8 > 1)) h)
  (j2 false h)))
def F_ref10_Quorum_Holds (q1 : Option Addr) (h : Heap) (Q : Bool → Heap → Prop) : Prop := F_ref10_Quorum_Holds_of  q1 h Q
def plan22 : Plan := .s (.r [0]) (.s (.rj [(2, .one .bool)] []) .z)
theorem F_ref10_Quorum_Holds.eq  (q1 : Option Addr) (h : Heap) (K : Value → Heap → Prop) : F_ref10_Quorum_Holds_of  q1 h (fun (r0 : Bool) (h : Heap) => K (.bool r0) h) =
    den Tryz.prog noFns Tryz.f22.ntmps plan22 (bodyOf Tryz.f22) (args0 0 [(.pointer q1 : Value)]) h ⟨fun env h => dRes Tryz.prog Tryz.f22.results.toList env h K, fun _ _ _ => False, fun env h => dRes Tryz.prog Tryz.f22.results.toList env h K⟩ := by kernel_rfl
def E_ref10_Quorum_Holds_of (f : Option Addr → Heap → (Bool → Heap → Prop) → Prop) : List Value → Heap → (Value → Heap → Prop) → Prop
  | [v0], h, K => dec1 .ptr v0 fun (q1 : Option Addr) =>
  f q1 h (fun (r0 : Bool) (h : Heap) => K (.bool r0) h)
  | _, _, _ => False
abbrev E_ref10_Quorum_Holds := E_ref10_Quorum_Holds_of F_ref10_Quorum_Holds
theorem E_ref10_Quorum_Holds.right : IsRight Tryz.prog 22 E_ref10_Quorum_Holds := by
  refine isRight fun vs K w hh => ?_
  match vs, hh with
  | [v0], hh =>
    unfold E_ref10_Quorum_Holds E_ref10_Quorum_Holds_of at hh
    replace hh := dec1_sound hh; obtain ⟨q1, rfl, hh⟩ := hh
    unfold F_ref10_Quorum_Holds at hh
    exact calls_den noFns_right plan22 _ w K Tryz.func22 (by kernel_rfl) (by kernel_rfl) (Eq.mp (F_ref10_Quorum_Holds.eq  q1 w.heap K) hh)
theorem ok22 : okFn Tryz.prog 22 = true := by kernel_rfl
end Go.Proofs.YtigcpkejjjgkeaaGreat.V
namespace Go.Proofs.YtigcpkejjjgkeaaGreat.V
open Go Go.RowKit
set_option linter.unusedVariables false
set_option maxRecDepth 100000
def F_ref10_Quorum_many_of  (q1 : Option Addr) (n2 : Int) (h : Heap) (Q : Bool → Heap → Prop) : Prop :=
  nn q1 fun (a3 : Addr) =>
  ld [.sl] (a3.add 2) h fun (v4 : Sl) =>
  Q (decide ((IntKind.i64.wrap (2 * n2)) > ((v4.len : Nat) : Int))) h
def F_ref10_Quorum_many (q1 : Option Addr) (n2 : Int) (h : Heap) (Q : Bool → Heap → Prop) : Prop := F_ref10_Quorum_many_of  q1 n2 h Q
def plan56 : Plan := .s (.r [0, 1]) (.s (.r [4]) .z)
theorem F_ref10_Quorum_many.eq  (q1 : Option Addr) (n2 : Int) (h : Heap) (K : Value → Heap → Prop) : F_ref10_Quorum_many_of  q1 n2 h (fun (r0 : Bool) (h : Heap) => K (.bool r0) h) =
    den Tryz.prog noFns Tryz.f56.ntmps plan56 (bodyOf Tryz.f56) (args0 0 [(.pointer q1 : Value), (.int .i64 n2 : Value)]) h ⟨fun env h => dRes Tryz.prog Tryz.f56.results.toList env h K, fun _ _ _ => False, fun env h => dRes Tryz.prog Tryz.f56.results.toList env h K⟩ := by kernel_rfl
def E_ref10_Quorum_many_of (f : Option Addr → Int → Heap → (Bool → Heap → Prop) → Prop) : List Value → Heap → (Value → Heap → Prop) → Prop
  | [v0, v1], h, K => dec1 .ptr v0 fun (q1 : Option Addr) =>
  dec1 (.int .i64) v1 fun (n2 : Int) =>
  f q1 n2 h (fun (r0 : Bool) (h : Heap) => K (.bool r0) h)
  | _, _, _ => False
abbrev E_ref10_Quorum_many := E_ref10_Quorum_many_of F_ref10_Quorum_many
theorem E_ref10_Quorum_many.right : IsRight Tryz.prog 56 E_ref10_Quorum_many := by
  refine isRight fun vs K w hh => ?_
  match vs, hh with
  | [v0, v1], hh =>
    unfold E_ref10_Quorum_many E_ref10_Quorum_many_of at hh
    replace hh := dec1_sound hh; obtain ⟨q1, rfl, hh⟩ := hh
    replace hh := dec1_sound hh; obtain ⟨n2, rfl, hh⟩ := hh
    unfold F_ref10_Quorum_many at hh
    exact calls_den noFns_right plan56 _ w K Tryz.func56 (by kernel_rfl) (by kernel_rfl) (Eq.mp (F_ref10_Quorum_many.eq  q1 n2 w.heap K) hh)
theorem ok56 : okFn Tryz.prog 56 = true := by kernel_rfl
end Go.Proofs.YtigcpkejjjgkeaaGreat.V
namespace Go.Proofs.YtigcpkejjjgkeaaGreat.V
open Go Go.RowKit
set_option linter.unusedVariables false
set_option maxRecDepth 100000
def F_ref10_Quorum_to.l1 (f55_ : Sl → Heap → (Sl → Heap → Prop) → Prop) (q1 : Option Addr) (kind2 : Int) (l3 : Sl) (span4 : Int) (j5 : Sl → Heap → Prop) : Sl → Int → Heap → Prop :=
  wl [(9, .one .sl), (10, .one (.int .i64))] (fun (next6 : Sl → Int → Heap → Prop) (m7 : Sl) (i8 : Int) (h9 : Heap) =>
  brr (decide (i8 < ((l3.len : Nat) : Int)))
  (nn q1 fun (a10 : Addr) =>
  ld [.int .i64] (a10.add 0) h9 fun (v11 : Int) =>
  ixS 1 l3 i8 fun (a12 : Addr) =>
  ld [.int .i64] a12 h9 fun (v13 : Int) =>
  nn q1 fun (a14 : Addr) =>
  ld [.int .i64] (a14.add 1) h9 fun (v15 : Int) =>
  al 61 [.int .i64 0, .int .i64 0, .int .i64 0, .int .i64 0, .int .u64 0, .int .u64 0, .int .u64 0, .int .u64 0, .int .i64 0, .int .u64 0, .slice none 0 0, .int .i64 0, .int .u64 0, .string (⟨#[]⟩ : ByteArray), .string (⟨#[]⟩ : ByteArray), .int .u64 0, .int .u64 0, .int .u64 0, .int .i64 0, .int .i64 0, .int .i64 0, .int .i64 0] h9 fun (a16 : Addr) (h17 : Heap) =>
  cellsAre h17 (a10.add 0) [.int .i64 v11] ∧
  cellsAre h17 a12 [.int .i64 v13] ∧
  cellsAre h17 (a14.add 1) [.int .i64 v15] ∧
  st a16 [.int .i64 kind2, .int .i64 v11, .int .i64 v13, .int .i64 v15, .int .u64 0, .int .u64 0, .int .u64 0, .int .u64 0, .int .i64 0, .int .u64 0, .slice none 0 0, .int .i64 0, .int .u64 0, .string (⟨#[]⟩ : ByteArray), .string (⟨#[]⟩ : ByteArray), .int .u64 0, .int .u64 0, .int .u64 0, .int .i64 0, .int .i64 0, .int .i64 0, .int .i64 0] h17 fun (h18 : Heap) =>
  jn [] (fun  (h44 : Heap) =>
  ld [.int .i64, .int .i64, .int .i64, .int .i64, .int .u64, .int .u64, .int .u64, .int .u64, .int .i64, .int .u64, .sl, .int .i64, .int .u64, .str, .str, .int .u64, .int .u64, .int .u64, .int .i64, .int .i64, .int .i64, .int .i64] a16 h44 fun (v45 v46 v47 v48 v49 v50 v51 v52 v53 v54 : Int) (v55 : Sl) (v56 v57 : Int) (v58 v59 : ByteArray) (v60 v61 v62 v63 v64 v65 v66 : Int) =>
  al 61 [.int .i64 v45, .int .i64 v46, .int .i64 v47, .int .i64 v48, .int .u64 v49, .int .u64 v50, .int .u64 v51, .int .u64 v52, .int .i64 v53, .int .u64 v54, .slice v55.ptr v55.len v55.cap, .int .i64 v56, .int .u64 v57, .string v58, .string v59, .int .u64 v60, .int .u64 v61, .int .u64 v62, .int .i64 v63, .int .i64 v64, .int .i64 v65, .int .i64 v66] h44 fun (a67 : Addr) (h68 : Heap) =>
  app 61 22 208 (.agg #[.int .i64 0, .int .i64 0, .int .i64 0, .int .i64 0, .int .u64 0, .int .u64 0, .int .u64 0, .int .u64 0, .int .i64 0, .int .u64 0, .slice none 0 0, .int .i64 0, .int .u64 0, .string (⟨#[]⟩ : ByteArray), .string (⟨#[]⟩ : ByteArray), .int .u64 0, .int .u64 0, .int .u64 0, .int .i64 0, .int .i64 0, .int .i64 0, .int .i64 0]) m7 (some a67) 1 h68 fun (s69 : Sl) (h70 : Heap) =>
  next6 s69 (IntKind.i64.wrap (i8 + 1)) h70) (fun (j19 : Heap → Prop) =>
  brr (kind2 == 1)
  (nn q1 fun (a20 : Addr) =>
  ld [.int .u64] (a20.add 4) h18 fun (v21 : Int) =>
  st (a16.add 4) [.int .u64 v21] h18 fun (h22 : Heap) =>
  j19 h22)
  (jn [] (fun  (h43 : Heap) =>
  j19 h43) (fun (j23 : Heap → Prop) =>
  brr (kind2 == 4)
  (nn q1 fun (a24 : Addr) =>
  ld [.int .u64, .int .u64] (a24.add 6) h18 fun (v25 v26 : Int) =>
  st (a16.add 5) [.int .u64 v25, .int .u64 v26] h18 fun (h27 : Heap) =>
  nn q1 fun (a28 : Addr) =>
  ld [.sl] (a28.add 8) h27 fun (v29 : Sl) =>
  f55_ v29 h27 fun (r30 : Sl) (h31 : Heap) =>
  st (a16.add 10) [.slice r30.ptr r30.len r30.cap] h31 fun (h32 : Heap) =>
  st (a16.add 8) [.int .i64 span4] h32 fun (h33 : Heap) =>
  j23 h33)
  (jn [] (fun  (h42 : Heap) =>
  j23 h42) (fun (j34 : Heap → Prop) =>
  brr (kind2 == 6)
  (nn q1 fun (a35 : Addr) =>
  ld [.int .u64] (a35.add 4) h18 fun (v36 : Int) =>
  st (a16.add 4) [.int .u64 v36] h18 fun (h37 : Heap) =>
  nn q1 fun (a38 : Addr) =>
  ld [.int .u64] (a38.add 15) h37 fun (v39 : Int) =>
  st (a16.add 7) [.int .u64 v39] h37 fun (h40 : Heap) =>
  st (a16.add 8) [.int .i64 span4] h40 fun (h41 : Heap) =>
  j34 h41)
  (j34 h18)))))))
  (j5 m7 h9))
def F_ref10_Quorum_to_of (f55_ : Sl → Heap → (Sl → Heap → Prop) → Prop) (q1 : Option Addr) (kind2 : Int) (l3 : Sl) (span4 : Int) (h : Heap) (Q : Sl → Heap → Prop) : Prop :=
  jn [(9, .one .sl)] (fun (m71 : Sl) (h72 : Heap) =>
  Q m71 h72) (fun (j5 : Sl → Heap → Prop) =>
  F_ref10_Quorum_to.l1 f55_ q1 kind2 l3 span4 j5 (⟨none, 0, 0⟩ : Sl) 0 h)
def F_ref10_Quorum_to (q1 : Option Addr) (kind2 : Int) (l3 : Sl) (span4 : Int) (h : Heap) (Q : Sl → Heap → Prop) : Prop := F_ref10_Quorum_to_of F_ref0_Copy q1 kind2 l3 span4 h Q
def plan59 : Plan := .s (.r [0, 1, 2, 3]) (.s (.r [0, 1, 2, 3, 9]) (.s (.s (.r [0, 1, 2, 3, 9, 10]) (.bj [(9, .one .sl)] [] (.l [(9, .one .sl), (10, .one (.int .i64))] [0, 1, 2, 3] (.s (.s (.r [0, 1, 2, 3, 9, 10, 15]) (.c .z .z)) (.s (.b (.s (.d [0, 0, 2, 6, 14, 0, 0, 96, 224, 0, 512, 1536, 3584, 8191, 16383, 0, 65535] [[0, 1, 2, 3, 4, 5, 6, 7, 8, 9, 10, 11, 12, 13, 14, 15, 16]] [0, 1, 2, 3, 9, 10, 11]) (.s (.s (.r [0, 1, 2, 3, 9, 10, 11, 33]) (.b (.s (.r [0, 1, 2, 3, 9, 10, 11, 33, 34]) (.cj [] [0, 1, 2, 3, 9, 10, 11] (.r [0, 1, 2, 3, 9, 10, 11]) (.s (.r [0, 1, 2, 3, 9, 10, 11, 33, 41]) (.cj [] [0, 1, 2, 3, 9, 10, 11] (.s (.r [0, 1, 2, 3, 9, 10, 11]) (.s (.r [0, 1, 2, 3, 9, 10, 11]) (.r [0, 1, 2, 3, 9, 10, 11]))) (.s (.r [0, 1, 2, 3, 9, 10, 11, 56]) (.cj [] [0, 1, 2, 3, 9, 10, 11] (.s (.r [0, 1, 2, 3, 9, 10, 11]) (.s (.r [0, 1, 2, 3, 9, 10, 11]) (.r [0, 1, 2, 3, 9, 10, 11]))) .z)))))))) (.r [0, 1, 2, 3, 9, 10])))) (.r [0, 1, 2, 3, 9, 10])))))) (.s (.r [8]) .z)))
theorem F_ref10_Quorum_to.eq (f55_ : Sl → Heap → (Sl → Heap → Prop) → Prop) (q1 : Option Addr) (kind2 : Int) (l3 : Sl) (span4 : Int) (h : Heap) (K : Value → Heap → Prop) : F_ref10_Quorum_to_of f55_ q1 kind2 l3 span4 h (fun (r0 : Sl) (h : Heap) => K (.slice r0.ptr r0.len r0.cap) h) =
    den Tryz.prog (fn1 55 (E_ref0_Copy_of f55_) noFns) Tryz.f59.ntmps plan59 (bodyOf Tryz.f59) (args0 0 [(.pointer q1 : Value), (.int .i64 kind2 : Value), (.slice l3.ptr l3.len l3.cap : Value), (.int .i64 span4 : Value)]) h ⟨fun env h => dRes Tryz.prog Tryz.f59.results.toList env h K, fun _ _ _ => False, fun env h => dRes Tryz.prog Tryz.f59.results.toList env h K⟩ := by kernel_rfl
def E_ref10_Quorum_to_of (f : Option Addr → Int → Sl → Int → Heap → (Sl → Heap → Prop) → Prop) : List Value → Heap → (Value → Heap → Prop) → Prop
  | [v0, v1, v2, v3], h, K => dec1 .ptr v0 fun (q1 : Option Addr) =>
  dec1 (.int .i64) v1 fun (kind2 : Int) =>
  dec1 .sl v2 fun (l3 : Sl) =>
  dec1 (.int .i64) v3 fun (span4 : Int) =>
  f q1 kind2 l3 span4 h (fun (r0 : Sl) (h : Heap) => K (.slice r0.ptr r0.len r0.cap) h)
  | _, _, _ => False
abbrev E_ref10_Quorum_to := E_ref10_Quorum_to_of F_ref10_Quorum_to
theorem E_ref10_Quorum_to.right : IsRight Tryz.prog 59 E_ref10_Quorum_to := by
  refine isRight fun vs K w hh => ?_
  match vs, hh with
  | [v0, v1, v2, v3], hh =>
    unfold E_ref10_Quorum_to E_ref10_Quorum_to_of at hh
    replace hh := dec1_sound hh; obtain ⟨q1, rfl, hh⟩ := hh
    replace hh := dec1_sound hh; obtain ⟨kind2, rfl, hh⟩ := hh
    replace hh := dec1_sound hh; obtain ⟨l3, rfl, hh⟩ := hh
    replace hh := dec1_sound hh; obtain ⟨span4, rfl, hh⟩ := hh
    unfold F_ref10_Quorum_to at hh
    exact calls_den (fn1_right ok55 E_ref0_Copy.right noFns_right) plan59 _ w K Tryz.func59 (by kernel_rfl) (by kernel_rfl) (Eq.mp (F_ref10_Quorum_to.eq F_ref0_Copy q1 kind2 l3 span4 w.heap K) hh)
theorem ok59 : okFn Tryz.prog 59 = true := by kernel_rfl
end Go.Proofs.YtigcpkejjjgkeaaGreat.V
namespace Go.Proofs.YtigcpkejjjgkeaaGreat.V
open Go Go.RowKit
set_option linter.unusedVariables false
set_option maxRecDepth 100000
def F_ref10_Quorum_writes_of (f55_ : Sl → Heap → (Sl → Heap → Prop) → Prop) (f59_ : Option Addr → Int → Sl → Int → Heap → (Sl → Heap → Prop) → Prop) (q1 : Option Addr) (seq2 : Int) (value3 : Sl) (span4 : Int) (h : Heap) (Q : Sl → Heap → Prop) : Prop :=
  nn q1 fun (a5 : Addr) =>
  st (a5.add 3) [.int .i64 2] h fun (h6 : Heap) =>
  nn q1 fun (a7 : Addr) =>
  ld [.int .u64] (a7.add 4) h6 fun (v8 : Int) =>
  nn q1 fun (a9 : Addr) =>
  st (a9.add 6) [.int .u64 v8, .int .u64 seq2] h6 fun (h10 : Heap) =>
  f55_ value3 h10 fun (r11 : Sl) (h12 : Heap) =>
  nn q1 fun (a13 : Addr) =>
  st (a13.add 8) [.slice r11.ptr r11.len r11.cap] h12 fun (h14 : Heap) =>
  nn q1 fun (a15 : Addr) =>
  st (a15.add 9) [.slice none 0 0] h14 fun (h16 : Heap) =>
  nn q1 fun (a17 : Addr) =>
  ld [.sl] (a17.add 2) h16 fun (v18 : Sl) =>
  f59_ q1 4 v18 span4 h16 fun (r19 : Sl) (h20 : Heap) =>
  Q r19 h20
def F_ref10_Quorum_writes (q1 : Option Addr) (seq2 : Int) (value3 : Sl) (span4 : Int) (h : Heap) (Q : Sl → Heap → Prop) : Prop := F_ref10_Quorum_writes_of F_ref0_Copy F_ref10_Quorum_to q1 seq2 value3 span4 h Q
def plan57 : Plan := .s (.r [0, 1, 2, 3]) (.s (.r [0, 1, 2, 3]) (.s (.r [0, 2, 3]) (.s (.r [0, 3]) (.s (.r [0, 3]) (.s (.r [8]) .z)))))
theorem F_ref10_Quorum_writes.eq (f55_ : Sl → Heap → (Sl → Heap → Prop) → Prop) (f59_ : Option Addr → Int → Sl → Int → Heap → (Sl → Heap → Prop) → Prop) (q1 : Option Addr) (seq2 : Int) (value3 : Sl) (span4 : Int) (h : Heap) (K : Value → Heap → Prop) : F_ref10_Quorum_writes_of f55_ f59_ q1 seq2 value3 span4 h (fun (r0 : Sl) (h : Heap) => K (.slice r0.ptr r0.len r0.cap) h) =
    den Tryz.prog (fn1 55 (E_ref0_Copy_of f55_) (fn1 59 (E_ref10_Quorum_to_of f59_) noFns)) Tryz.f57.ntmps plan57 (bodyOf Tryz.f57) (args0 0 [(.pointer q1 : Value), (.int .u64 seq2 : Value), (.slice value3.ptr value3.len value3.cap : Value), (.int .i64 span4 : Value)]) h ⟨fun env h => dRes Tryz.prog Tryz.f57.results.toList env h K, fun _ _ _ => False, fun env h => dRes Tryz.prog Tryz.f57.results.toList env h K⟩ := by kernel_rfl
def E_ref10_Quorum_writes_of (f : Option Addr → Int → Sl → Int → Heap → (Sl → Heap → Prop) → Prop) : List Value → Heap → (Value → Heap → Prop) → Prop
  | [v0, v1, v2, v3], h, K => dec1 .ptr v0 fun (q1 : Option Addr) =>
  dec1 (.int .u64) v1 fun (seq2 : Int) =>
  dec1 .sl v2 fun (value3 : Sl) =>
  dec1 (.int .i64) v3 fun (span4 : Int) =>
  f q1 seq2 value3 span4 h (fun (r0 : Sl) (h : Heap) => K (.slice r0.ptr r0.len r0.cap) h)
  | _, _, _ => False
abbrev E_ref10_Quorum_writes := E_ref10_Quorum_writes_of F_ref10_Quorum_writes
theorem E_ref10_Quorum_writes.right : IsRight Tryz.prog 57 E_ref10_Quorum_writes := by
  refine isRight fun vs K w hh => ?_
  match vs, hh with
  | [v0, v1, v2, v3], hh =>
    unfold E_ref10_Quorum_writes E_ref10_Quorum_writes_of at hh
    replace hh := dec1_sound hh; obtain ⟨q1, rfl, hh⟩ := hh
    replace hh := dec1_sound hh; obtain ⟨seq2, rfl, hh⟩ := hh
    replace hh := dec1_sound hh; obtain ⟨value3, rfl, hh⟩ := hh
    replace hh := dec1_sound hh; obtain ⟨span4, rfl, hh⟩ := hh
    unfold F_ref10_Quorum_writes at hh
    exact calls_den (fn1_right ok55 E_ref0_Copy.right (fn1_right ok59 E_ref10_Quorum_to.right noFns_right)) plan57 _ w K Tryz.func57 (by kernel_rfl) (by kernel_rfl) (Eq.mp (F_ref10_Quorum_writes.eq F_ref0_Copy F_ref10_Quorum_to q1 seq2 value3 span4 w.heap K) hh)
theorem ok57 : okFn Tryz.prog 57 = true := by kernel_rfl
end Go.Proofs.YtigcpkejjjgkeaaGreat.V
namespace Go.Proofs.YtigcpkejjjgkeaaGreat.V
open Go Go.RowKit
set_option linter.unusedVariables false
set_option maxRecDepth 100000
def F_ref10_Quorum_best.l1 (f89_ : Int → Int → Int → Int → Heap → (Int → Heap → Prop) → Prop) (q1 : Option Addr) (j2 : Int → Heap → Prop) : Int → Int → Heap → Prop :=
  wl [(3, .one (.int .i64)), (4, .one (.int .i64))] (fun (next3 : Int → Int → Heap → Prop) (k4 i5 : Int) (h6 : Heap) =>
  nn q1 fun (a7 : Addr) =>
  ld [.sl] (a7.add 5) h6 fun (v8 : Sl) =>
  brr (decide (i5 < ((v8.len : Nat) : Int)))
  (nn q1 fun (a9 : Addr) =>
  ld [.sl] (a9.add 5) h6 fun (v10 : Sl) =>
  ixS 4 v10 i5 fun (a11 : Addr) =>
  ld [.int .u64, .int .u64] (a11.add 1) h6 fun (v12 v13 : Int) =>
  nn q1 fun (a14 : Addr) =>
  ld [.sl] (a14.add 5) h6 fun (v15 : Sl) =>
  ixS 4 v15 k4 fun (a16 : Addr) =>
  ld [.int .u64, .int .u64] (a16.add 1) h6 fun (v17 v18 : Int) =>
  f89_ v12 v13 v17 v18 h6 fun (r19 : Int) (h20 : Heap) =>
  jn [(3, .one (.int .i64))] (fun (k22 : Int) (h23 : Heap) =>
  next3 k22 (IntKind.i64.wrap (i5 + 1)) h23) (fun (j21 : Int → Heap → Prop) =>
  brr (decide (r19 > 0))
  (j21 i5 h20)
  (j21 k4 h20)))
  (j2 k4 h6))
def F_ref10_Quorum_best_of (f89_ : Int → Int → Int → Int → Heap → (Int → Heap → Prop) → Prop) (q1 : Option Addr) (h : Heap) (Q : Sl → Heap → Prop) : Prop :=
  jn [(3, .one (.int .i64))] (fun (k24 : Int) (h25 : Heap) =>
  nn q1 fun (a26 : Addr) =>
  ld [.sl] (a26.add 5) h25 fun (v27 : Sl) =>
  ixS 4 v27 k24 fun (a28 : Addr) =>
  ld [.sl] (a28.add 3) h25 fun (v29 : Sl) =>
  Q v29 h25) (fun (j2 : Int → Heap → Prop) =>
  F_ref10_Quorum_best.l1 f89_ q1 j2 0 1 h)
def F_ref10_Quorum_best (q1 : Option Addr) (h : Heap) (Q : Sl → Heap → Prop) : Prop := F_ref10_Quorum_best_of F_ref0_CmpTag q1 h Q
def plan58 : Plan := .s (.r [0]) (.s (.r [0, 3]) (.s (.s (.r [0, 3, 4]) (.bj [(3, .one (.int .i64))] [0] (.l [(3, .one (.int .i64)), (4, .one (.int .i64))] [0] (.s (.s (.r [0, 3, 4, 11]) (.c .z .z)) (.s (.b (.s (.d [0, 1, 3, 7, 0, 31, 63, 127, 0, 256, 768, 1792, 0, 7936, 16128, 32512, 65535, 131071] [[0, 1, 2, 3, 4, 5, 6, 7, 8, 9, 10, 11, 12, 13, 14, 15, 16, 17]] [0, 3, 4, 31]) (.cj [(3, .one (.int .i64))] [0, 4] (.r [0, 3, 4]) .z))) (.r [0, 3, 4])))))) (.s (.r [2]) .z)))
theorem F_ref10_Quorum_best.eq (f89_ : Int → Int → Int → Int → Heap → (Int → Heap → Prop) → Prop) (q1 : Option Addr) (h : Heap) (K : Value → Heap → Prop) : F_ref10_Quorum_best_of f89_ q1 h (fun (r0 : Sl) (h : Heap) => K (.slice r0.ptr r0.len r0.cap) h) =
    den Tryz.prog (fn1 89 (E_ref0_CmpTag_of f89_) noFns) Tryz.f58.ntmps plan58 (bodyOf Tryz.f58) (args0 0 [(.pointer q1 : Value)]) h ⟨fun env h => dRes Tryz.prog Tryz.f58.results.toList env h K, fun _ _ _ => False, fun env h => dRes Tryz.prog Tryz.f58.results.toList env h K⟩ := by kernel_rfl
def E_ref10_Quorum_best_of (f : Option Addr → Heap → (Sl → Heap → Prop) → Prop) : List Value → Heap → (Value → Heap → Prop) → Prop
  | [v0], h, K => dec1 .ptr v0 fun (q1 : Option Addr) =>
  f q1 h (fun (r0 : Sl) (h : Heap) => K (.slice r0.ptr r0.len r0.cap) h)
  | _, _, _ => False
abbrev E_ref10_Quorum_best := E_ref10_Quorum_best_of F_ref10_Quorum_best
theorem E_ref10_Quorum_best.right : IsRight Tryz.prog 58 E_ref10_Quorum_best := by
  refine isRight fun vs K w hh => ?_
  match vs, hh with
  | [v0], hh =>
    unfold E_ref10_Quorum_best E_ref10_Quorum_best_of at hh
    replace hh := dec1_sound hh; obtain ⟨q1, rfl, hh⟩ := hh
    unfold F_ref10_Quorum_best at hh
    exact calls_den (fn1_right ok89 E_ref0_CmpTag.right noFns_right) plan58 _ w K Tryz.func58 (by kernel_rfl) (by kernel_rfl) (Eq.mp (F_ref10_Quorum_best.eq F_ref0_CmpTag q1 w.heap K) hh)
theorem ok58 : okFn Tryz.prog 58 = true := by kernel_rfl
end Go.Proofs.YtigcpkejjjgkeaaGreat.V
namespace Go.Proofs.YtigcpkejjjgkeaaGreat.V
open Go Go.RowKit
set_option linter.unusedVariables false
set_option maxRecDepth 100000
def F_ref10_in.l1 (l1 : Sl) (n2 : Int) (Q : Bool → Heap → Prop) (j3 : Heap → Prop) : Int → Heap → Prop :=
  wl [(5, .one (.int .i64))] (fun (next4 : Int → Heap → Prop) (i5 : Int) (h6 : Heap) =>
  brr (decide (i5 < ((l1.len : Nat) : Int)))
  (ixS 1 l1 i5 fun (a7 : Addr) =>
  ld [.int .i64] a7 h6 fun (v8 : Int) =>
  brr (v8 == n2)
  (Q true h6)
  (next4 (IntKind.i64.wrap (i5 + 1)) h6))
  (j3 h6))
def F_ref10_in_of  (l1 : Sl) (n2 : Int) (h : Heap) (Q : Bool → Heap → Prop) : Prop :=
  jn [] (fun  (h9 : Heap) =>
  Q false h9) (fun (j3 : Heap → Prop) =>
  F_ref10_in.l1 l1 n2 Q j3 0 h)
def F_ref10_in (l1 : Sl) (n2 : Int) (h : Heap) (Q : Bool → Heap → Prop) : Prop := F_ref10_in_of  l1 n2 h Q
def plan63 : Plan := .s (.r [0, 1]) (.s (.s (.r [0, 1, 5]) (.bj [] [] (.l [(5, .one (.int .i64))] [0, 1] (.s (.s (.r [0, 1, 5, 9]) (.c .z .z)) (.s (.b (.s (.r [0, 1, 5, 17]) (.c (.s (.r [4]) .z) .z))) (.r [0, 1, 5])))))) (.s (.r [4]) .z))
theorem F_ref10_in.eq  (l1 : Sl) (n2 : Int) (h : Heap) (K : Value → Heap → Prop) : F_ref10_in_of  l1 n2 h (fun (r0 : Bool) (h : Heap) => K (.bool r0) h) =
    den Tryz.prog noFns Tryz.f63.ntmps plan63 (bodyOf Tryz.f63) (args0 0 [(.slice l1.ptr l1.len l1.cap : Value), (.int .i64 n2 : Value)]) h ⟨fun env h => dRes Tryz.prog Tryz.f63.results.toList env h K, fun _ _ _ => False, fun env h => dRes Tryz.prog Tryz.f63.results.toList env h K⟩ := by kernel_rfl
def E_ref10_in_of (f : Sl → Int → Heap → (Bool → Heap → Prop) → Prop) : List Value → Heap → (Value → Heap → Prop) → Prop
  | [v0, v1], h, K => dec1 .sl v0 fun (l1 : Sl) =>
  dec1 (.int .i64) v1 fun (n2 : Int) =>
  f l1 n2 h (fun (r0 : Bool) (h : Heap) => K (.bool r0) h)
  | _, _, _ => False
abbrev E_ref10_in := E_ref10_in_of F_ref10_in
theorem E_ref10_in.right : IsRight Tryz.prog 63 E_ref10_in := by
  refine isRight fun vs K w hh => ?_
  match vs, hh with
  | [v0, v1], hh =>
    unfold E_ref10_in E_ref10_in_of at hh
    replace hh := dec1_sound hh; obtain ⟨l1, rfl, hh⟩ := hh
    replace hh := dec1_sound hh; obtain ⟨n2, rfl, hh⟩ := hh
    unfold F_ref10_in at hh
    exact calls_den noFns_right plan63 _ w K Tryz.func63 (by kernel_rfl) (by kernel_rfl) (Eq.mp (F_ref10_in.eq  l1 n2 w.heap K) hh)
theorem ok63 : okFn Tryz.prog 63 = true := by kernel_rfl
end Go.Proofs.YtigcpkejjjgkeaaGreat.V
namespace Go.Proofs.YtigcpkejjjgkeaaGreat.V
open Go Go.RowKit
set_option linter.unusedVariables false
set_option maxRecDepth 100000
def F_ref10_Quorum_promised.l1 (q1 : Option Addr) (n2 : Int) (Q : Bool → Heap → Prop) (j3 : Heap → Prop) : Int → Heap → Prop :=
  wl [(5, .one (.int .i64))] (fun (next4 : Int → Heap → Prop) (i5 : Int) (h6 : Heap) =>
  nn q1 fun (a7 : Addr) =>
  ld [.sl] (a7.add 5) h6 fun (v8 : Sl) =>
  brr (decide (i5 < ((v8.len : Nat) : Int)))
  (nn q1 fun (a9 : Addr) =>
  ld [.sl] (a9.add 5) h6 fun (v10 : Sl) =>
  ixS 4 v10 i5 fun (a11 : Addr) =>
  ld [.int .i64] (a11.add 0) h6 fun (v12 : Int) =>
  brr (v12 == n2)
  (Q true h6)
  (next4 (IntKind.i64.wrap (i5 + 1)) h6))
  (j3 h6))
def F_ref10_Quorum_promised_of  (q1 : Option Addr) (n2 : Int) (h : Heap) (Q : Bool → Heap → Prop) : Prop :=
  jn [] (fun  (h13 : Heap) =>
  Q false h13) (fun (j3 : Heap → Prop) =>
  F_ref10_Quorum_promised.l1 q1 n2 Q j3 0 h)
def F_ref10_Quorum_promised (q1 : Option Addr) (n2 : Int) (h : Heap) (Q : Bool → Heap → Prop) : Prop := F_ref10_Quorum_promised_of  q1 n2 h Q
def plan64 : Plan := .s (.r [0, 1]) (.s (.s (.r [0, 1, 5]) (.bj [] [] (.l [(5, .one (.int .i64))] [0, 1] (.s (.s (.r [0, 1, 5, 12]) (.c .z .z)) (.s (.b (.s (.r [0, 1, 5, 24]) (.c (.s (.r [4]) .z) .z))) (.r [0, 1, 5])))))) (.s (.r [4]) .z))
theorem F_ref10_Quorum_promised.eq  (q1 : Option Addr) (n2 : Int) (h : Heap) (K : Value → Heap → Prop) : F_ref10_Quorum_promised_of  q1 n2 h (fun (r0 : Bool) (h : Heap) => K (.bool r0) h) =
    den Tryz.prog noFns Tryz.f64.ntmps plan64 (bodyOf Tryz.f64) (args0 0 [(.pointer q1 : Value), (.int .i64 n2 : Value)]) h ⟨fun env h => dRes Tryz.prog Tryz.f64.results.toList env h K, fun _ _ _ => False, fun env h => dRes Tryz.prog Tryz.f64.results.toList env h K⟩ := by kernel_rfl
def E_ref10_Quorum_promised_of (f : Option Addr → Int → Heap → (Bool → Heap → Prop) → Prop) : List Value → Heap → (Value → Heap → Prop) → Prop
  | [v0, v1], h, K => dec1 .ptr v0 fun (q1 : Option Addr) =>
  dec1 (.int .i64) v1 fun (n2 : Int) =>
  f q1 n2 h (fun (r0 : Bool) (h : Heap) => K (.bool r0) h)
  | _, _, _ => False
abbrev E_ref10_Quorum_promised := E_ref10_Quorum_promised_of F_ref10_Quorum_promised
theorem E_ref10_Quorum_promised.right : IsRight Tryz.prog 64 E_ref10_Quorum_promised := by
  refine isRight fun vs K w hh => ?_
  match vs, hh with
  | [v0, v1], hh =>
    unfold E_ref10_Quorum_promised E_ref10_Quorum_promised_of at hh
    replace hh := dec1_sound hh; obtain ⟨q1, rfl, hh⟩ := hh
    replace hh := dec1_sound hh; obtain ⟨n2, rfl, hh⟩ := hh
    unfold F_ref10_Quorum_promised at hh
    exact calls_den noFns_right plan64 _ w K Tryz.func64 (by kernel_rfl) (by kernel_rfl) (Eq.mp (F_ref10_Quorum_promised.eq  q1 n2 w.heap K) hh)
theorem ok64 : okFn Tryz.prog 64 = true := by kernel_rfl
end Go.Proofs.YtigcpkejjjgkeaaGreat.V
namespace Go.Proofs.YtigcpkejjjgkeaaGreat.V
open Go Go.RowKit
set_option linter.unusedVariables false
set_option maxRecDepth 100000
def F_ref10_Quorum_Stop_of  (q1 : Option Addr) (h : Heap) (Q : Heap → Prop) : Prop :=
  nn q1 fun (a2 : Addr) =>
  ld [.int .u64] (a2.add 18) h fun (v3 : Int) =>
  nn q1 fun (a4 : Addr) =>
  ld [.sl] (a4.add 2) h fun (v5 : Sl) =>
  nn q1 fun (a6 : Addr) =>
  ld [.int .i64] (a6.add 0) h fun (v7 : Int) =>
  nn q1 fun (a8 : Addr) =>
  ld [.int .i64] (a8.add 1) h fun (v9 : Int) =>
  nn q1 fun (a10 : Addr) =>
  st a10 [.int .i64 v7, .int .i64 v9, .slice v5.ptr v5.len v5.cap, .int .i64 0, .int .u64 0, .slice none 0 0, .int .u64 0, .int .u64 0, .slice none 0 0, .slice none 0 0, .slice none 0 0, .bool false, .int .u64 0, .int .u64 0, .slice none 0 0, .int .u64 0, .int .u64 0, .slice none 0 0, .int .u64 v3] h fun (h11 : Heap) =>
  Q h11
def F_ref10_Quorum_Stop (q1 : Option Addr) (h : Heap) (Q : Heap → Prop) : Prop := F_ref10_Quorum_Stop_of  q1 h Q
def plan38 : Plan := .s (.r [0, 2]) (.s (.r [0, 2, 3]) (.d [0, 0, 2, 6, 14, 0, 32, 96, 224, 0, 0, 2046, 4095, 8191] [[0, 1, 2, 3, 4, 5, 6, 7, 8, 9, 10, 11, 12, 13]] []))
theorem F_ref10_Quorum_Stop.eq  (q1 : Option Addr) (h : Heap) (K : Value → Heap → Prop) : F_ref10_Quorum_Stop_of  q1 h (fun  (h : Heap) => K (.tuple #[]) h) =
    den Tryz.prog noFns Tryz.f38.ntmps plan38 (bodyOf Tryz.f38) (args0 0 [(.pointer q1 : Value)]) h ⟨fun env h => dRes Tryz.prog Tryz.f38.results.toList env h K, fun _ _ _ => False, fun env h => dRes Tryz.prog Tryz.f38.results.toList env h K⟩ := by kernel_rfl
def E_ref10_Quorum_Stop_of (f : Option Addr → Heap → (Heap → Prop) → Prop) : List Value → Heap → (Value → Heap → Prop) → Prop
  | [v0], h, K => dec1 .ptr v0 fun (q1 : Option Addr) =>
  f q1 h (fun  (h : Heap) => K (.tuple #[]) h)
  | _, _, _ => False
abbrev E_ref10_Quorum_Stop := E_ref10_Quorum_Stop_of F_ref10_Quorum_Stop
theorem E_ref10_Quorum_Stop.right : IsRight Tryz.prog 38 E_ref10_Quorum_Stop := by
  refine isRight fun vs K w hh => ?_
  match vs, hh with
  | [v0], hh =>
    unfold E_ref10_Quorum_Stop E_ref10_Quorum_Stop_of at hh
    replace hh := dec1_sound hh; obtain ⟨q1, rfl, hh⟩ := hh
    unfold F_ref10_Quorum_Stop at hh
    exact calls_den noFns_right plan38 _ w K Tryz.func38 (by kernel_rfl) (by kernel_rfl) (Eq.mp (F_ref10_Quorum_Stop.eq  q1 w.heap K) hh)
theorem ok38 : okFn Tryz.prog 38 = true := by kernel_rfl
end Go.Proofs.YtigcpkejjjgkeaaGreat.V
namespace Go.Proofs.YtigcpkejjjgkeaaGreat.V
open Go Go.RowKit
set_option linter.unusedVariables false
set_option maxRecDepth 100000
def F_ref10_Quorum_refused_of (f22_ : Option Addr → Heap → (Bool → Heap → Prop) → Prop) (f38_ : Option Addr → Heap → (Heap → Prop) → Prop) (f56_ : Option Addr → Int → Heap → (Bool → Heap → Prop) → Prop) (f63_ : Sl → Int → Heap → (Bool → Heap → Prop) → Prop) (q1 : Option Addr) (m2 m3 m4 m5 m6 m7 m8 m9 m10 m11 : Int) (m12 : Sl) (m13 m14 : Int) (m15 m16 : ByteArray) (m17 m18 m19 m20 m21 m22 m23 : Int) (h : Heap) (Q : Heap → Prop) : Prop :=
  al 61 [.int .i64 m2, .int .i64 m3, .int .i64 m4, .int .i64 m5, .int .u64 m6, .int .u64 m7, .int .u64 m8, .int .u64 m9, .int .i64 m10, .int .u64 m11, .slice m12.ptr m12.len m12.cap, .int .i64 m13, .int .u64 m14, .string m15, .string m16, .int .u64 m17, .int .u64 m18, .int .u64 m19, .int .i64 m20, .int .i64 m21, .int .i64 m22, .int .i64 m23] h fun (a24 : Addr) (h25 : Heap) =>
  ld [.int .u64] (a24.add 9) h25 fun (v26 : Int) =>
  nn q1 fun (a27 : Addr) =>
  ld [.int .u64] (a27.add 18) h25 fun (v28 : Int) =>
  jn [] (fun  (h33 : Heap) =>
  jn [(38, .one .bool)] (fun (x43 : Bool) (h44 : Heap) =>
  brr x43
  (Q h44)
  (f22_ q1 h44 fun (r45 : Bool) (h46 : Heap) =>
  brr (!r45)
  (f38_ q1 h46 fun  (h47 : Heap) =>
  Q h47)
  (nn q1 fun (a48 : Addr) =>
  ld [.sl] (a48.add 10) h46 fun (v49 : Sl) =>
  ld [.int .i64] ((a24.add 0).add 1) h46 fun (v50 : Int) =>
  f63_ v49 v50 h46 fun (r51 : Bool) (h52 : Heap) =>
  jn [] (fun  (h63 : Heap) =>
  nn q1 fun (a64 : Addr) =>
  ld [.sl] (a64.add 2) h63 fun (v65 : Sl) =>
  nn q1 fun (a66 : Addr) =>
  ld [.sl] (a66.add 10) h63 fun (v67 : Sl) =>
  f56_ q1 (IntKind.i64.wrap (((v65.len : Nat) : Int) - ((v67.len : Nat) : Int))) h63 fun (r68 : Bool) (h69 : Heap) =>
  jn [] (fun  (h72 : Heap) =>
  Q h72) (fun (j70 : Heap → Prop) =>
  brr (!r68)
  (f38_ q1 h69 fun  (h71 : Heap) =>
  j70 h71)
  (j70 h69))) (fun (j53 : Heap → Prop) =>
  brr (!r51)
  (nn q1 fun (a54 : Addr) =>
  ld [.sl] (a54.add 10) h52 fun (v55 : Sl) =>
  ld [.int .i64] ((a24.add 0).add 1) h52 fun (v56 : Int) =>
  al 3 [.int .i64 v56] h52 fun (a57 : Addr) (h58 : Heap) =>
  cellsAre h58 (a54.add 10) [.slice v55.ptr v55.len v55.cap] ∧
  app 3 1 8 (.int .i64 0) v55 (some a57) 1 h58 fun (s59 : Sl) (h60 : Heap) =>
  nn q1 fun (a61 : Addr) =>
  st (a61.add 10) [.slice s59.ptr s59.len s59.cap] h60 fun (h62 : Heap) =>
  j53 h62)
  (j53 h52))))) (fun (j34 : Bool → Heap → Prop) =>
  nn q1 fun (a35 : Addr) =>
  ld [.int .i64] (a35.add 3) h33 fun (v36 : Int) =>
  brr (v36 == 0)
  (j34 true h33)
  (ld [.int .u64] (a24.add 4) h33 fun (v37 : Int) =>
  nn q1 fun (a38 : Addr) =>
  ld [.int .u64] (a38.add 4) h33 fun (v39 : Int) =>
  brr (v37 != v39)
  (j34 true h33)
  (ld [.int .u64] (a24.add 9) h33 fun (v40 : Int) =>
  nn q1 fun (a41 : Addr) =>
  ld [.int .u64] (a41.add 4) h33 fun (v42 : Int) =>
  j34 (decide (v40 ≤ v42)) h33)))) (fun (j29 : Heap → Prop) =>
  brr (decide (v26 > v28))
  (ld [.int .u64] (a24.add 9) h25 fun (v30 : Int) =>
  nn q1 fun (a31 : Addr) =>
  st (a31.add 18) [.int .u64 v30] h25 fun (h32 : Heap) =>
  j29 h32)
  (j29 h25))
def F_ref10_Quorum_refused (q1 : Option Addr) (m2 m3 m4 m5 m6 m7 m8 m9 m10 m11 : Int) (m12 : Sl) (m13 m14 : Int) (m15 m16 : ByteArray) (m17 m18 m19 m20 m21 m22 m23 : Int) (h : Heap) (Q : Heap → Prop) : Prop := F_ref10_Quorum_refused_of F_ref10_Quorum_Holds F_ref10_Quorum_Stop F_ref10_Quorum_many F_ref10_in q1 m2 m3 m4 m5 m6 m7 m8 m9 m10 m11 m12 m13 m14 m15 m16 m17 m18 m19 m20 m21 m22 m23 h Q
def plan65 : Plan := .s (.r [0, 3]) (.s (.s (.d [0, 1, 0, 4, 12, 28, 63] [[0, 1, 2, 3, 4, 5, 6]] [0, 3, 10]) (.cj [] [0, 3] (.r [0, 3]) .z)) (.s (.s (.dj [0, 1, 3, 7, 15, 31, 63, 127, 63, 319, 831, 1855, 4095, 8191, 16383, 32767, 65535, 32767, 163839, 425983, 950271, 2097151, 4194303] [[0, 1, 2, 3, 4, 5, 6, 7, 8, 9, 10, 11, 12, 13, 14, 15, 16, 17, 18, 19, 20, 21, 22]] [(38, .one .bool)] [0, 3]) (.c .z .z)) (.s (.s (.r [0, 3, 41]) (.c (.s (.r []) .z) .z)) (.s (.s (.d [0, 1, 3, 7, 0, 16, 48, 127, 255] [[0, 1, 2, 3, 4, 5, 6, 7, 8]] [0, 3, 52]) (.cj [] [0] (.d [0, 0, 2, 6, 14, 0, 32, 96, 224, 510, 1023, 2047, 4095] [[0, 1, 2, 3, 4, 5, 6, 7, 8, 9, 10, 11, 12]] [0]) .z)) (.s (.d [0, 0, 2, 6, 14, 30, 0, 64, 192, 448, 960, 2046, 4095, 8191] [[0, 1, 2, 3, 4, 5, 6, 7, 8, 9, 10, 11, 12, 13]] [0, 78]) (.cj [] [] (.r []) .z))))))
theorem F_ref10_Quorum_refused.eq (f22_ : Option Addr → Heap → (Bool → Heap → Prop) → Prop) (f38_ : Option Addr → Heap → (Heap → Prop) → Prop) (f56_ : Option Addr → Int → Heap → (Bool → Heap → Prop) → Prop) (f63_ : Sl → Int → Heap → (Bool → Heap → Prop) → Prop) (q1 : Option Addr) (m2 m3 m4 m5 m6 m7 m8 m9 m10 m11 : Int) (m12 : Sl) (m13 m14 : Int) (m15 m16 : ByteArray) (m17 m18 m19 m20 m21 m22 m23 : Int) (h : Heap) (K : Value → Heap → Prop) : F_ref10_Quorum_refused_of f22_ f38_ f56_ f63_ q1 m2 m3 m4 m5 m6 m7 m8 m9 m10 m11 m12 m13 m14 m15 m16 m17 m18 m19 m20 m21 m22 m23 h (fun  (h : Heap) => K (.tuple #[]) h) =
    den Tryz.prog (fn1 22 (E_ref10_Quorum_Holds_of f22_) (fn1 38 (E_ref10_Quorum_Stop_of f38_) (fn1 56 (E_ref10_Quorum_many_of f56_) (fn1 63 (E_ref10_in_of f63_) noFns)))) Tryz.f65.ntmps plan65 (bodyOf Tryz.f65) (args0 0 [(.pointer q1 : Value), (.agg #[.int .i64 m2, .int .i64 m3, .int .i64 m4, .int .i64 m5, .int .u64 m6, .int .u64 m7, .int .u64 m8, .int .u64 m9, .int .i64 m10, .int .u64 m11, .slice m12.ptr m12.len m12.cap, .int .i64 m13, .int .u64 m14, .string m15, .string m16, .int .u64 m17, .int .u64 m18, .int .u64 m19, .int .i64 m20, .int .i64 m21, .int .i64 m22, .int .i64 m23] : Value)]) h ⟨fun env h => dRes Tryz.prog Tryz.f65.results.toList env h K, fun _ _ _ => False, fun env h => dRes Tryz.prog Tryz.f65.results.toList env h K⟩ := by kernel_rfl
def E_ref10_Quorum_refused_of (f : Option Addr → Int → Int → Int → Int → Int → Int → Int → Int → Int → Int → Sl → Int → Int → ByteArray → ByteArray → Int → Int → Int → Int → Int → Int → Int → Heap → (Heap → Prop) → Prop) : List Value → Heap → (Value → Heap → Prop) → Prop
  | [v0, v1], h, K => dec1 .ptr v0 fun (q1 : Option Addr) =>
  vAgg v1 fun cs1 => decs [.int .i64, .int .i64, .int .i64, .int .i64, .int .u64, .int .u64, .int .u64, .int .u64, .int .i64, .int .u64, .sl, .int .i64, .int .u64, .str, .str, .int .u64, .int .u64, .int .u64, .int .i64, .int .i64, .int .i64, .int .i64] cs1.toList fun (m2 m3 m4 m5 m6 m7 m8 m9 m10 m11 : Int) (m12 : Sl) (m13 m14 : Int) (m15 m16 : ByteArray) (m17 m18 m19 m20 m21 m22 m23 : Int) =>
  f q1 m2 m3 m4 m5 m6 m7 m8 m9 m10 m11 m12 m13 m14 m15 m16 m17 m18 m19 m20 m21 m22 m23 h (fun  (h : Heap) => K (.tuple #[]) h)
  | _, _, _ => False
abbrev E_ref10_Quorum_refused := E_ref10_Quorum_refused_of F_ref10_Quorum_refused
theorem E_ref10_Quorum_refused.right : IsRight Tryz.prog 65 E_ref10_Quorum_refused := by
  refine isRight fun vs K w hh => ?_
  match vs, hh with
  | [v0, v1], hh =>
    unfold E_ref10_Quorum_refused E_ref10_Quorum_refused_of at hh
    replace hh := dec1_sound hh; obtain ⟨q1, rfl, hh⟩ := hh
    replace hh := vAgg_sound hh; obtain ⟨cs1, rfl, hh⟩ := hh
    replace hh := decs_cons hh; obtain ⟨m2, l1_0, e1_0, hh⟩ := hh
    replace hh := decs_cons hh; obtain ⟨m3, l1_1, e1_1, hh⟩ := hh
    replace hh := decs_cons hh; obtain ⟨m4, l1_2, e1_2, hh⟩ := hh
    replace hh := decs_cons hh; obtain ⟨m5, l1_3, e1_3, hh⟩ := hh
    replace hh := decs_cons hh; obtain ⟨m6, l1_4, e1_4, hh⟩ := hh
    replace hh := decs_cons hh; obtain ⟨m7, l1_5, e1_5, hh⟩ := hh
    replace hh := decs_cons hh; obtain ⟨m8, l1_6, e1_6, hh⟩ := hh
    replace hh := decs_cons hh; obtain ⟨m9, l1_7, e1_7, hh⟩ := hh
    replace hh := decs_cons hh; obtain ⟨m10, l1_8, e1_8, hh⟩ := hh
    replace hh := decs_cons hh; obtain ⟨m11, l1_9, e1_9, hh⟩ := hh
    replace hh := decs_cons hh; obtain ⟨m12, l1_10, e1_10, hh⟩ := hh
    replace hh := decs_cons hh; obtain ⟨m13, l1_11, e1_11, hh⟩ := hh
    replace hh := decs_cons hh; obtain ⟨m14, l1_12, e1_12, hh⟩ := hh
    replace hh := decs_cons hh; obtain ⟨m15, l1_13, e1_13, hh⟩ := hh
    replace hh := decs_cons hh; obtain ⟨m16, l1_14, e1_14, hh⟩ := hh
    replace hh := decs_cons hh; obtain ⟨m17, l1_15, e1_15, hh⟩ := hh
    replace hh := decs_cons hh; obtain ⟨m18, l1_16, e1_16, hh⟩ := hh
    replace hh := decs_cons hh; obtain ⟨m19, l1_17, e1_17, hh⟩ := hh
    replace hh := decs_cons hh; obtain ⟨m20, l1_18, e1_18, hh⟩ := hh
    replace hh := decs_cons hh; obtain ⟨m21, l1_19, e1_19, hh⟩ := hh
    replace hh := decs_cons hh; obtain ⟨m22, l1_20, e1_20, hh⟩ := hh
    replace hh := decs_cons hh; obtain ⟨m23, l1_21, e1_21, hh⟩ := hh
    replace hh := decs_nil hh; obtain ⟨rfl, hh⟩ := hh
    subst e1_21
    subst e1_20
    subst e1_19
    subst e1_18
    subst e1_17
    subst e1_16
    subst e1_15
    subst e1_14
    subst e1_13
    subst e1_12
    subst e1_11
    subst e1_10
    subst e1_9
    subst e1_8
    subst e1_7
    subst e1_6
    subst e1_5
    subst e1_4
    subst e1_3
    subst e1_2
    subst e1_1
    have ec1 := toArray_eq e1_0
    subst ec1
    unfold F_ref10_Quorum_refused at hh
    exact calls_den (fn1_right ok22 E_ref10_Quorum_Holds.right (fn1_right ok38 E_ref10_Quorum_Stop.right (fn1_right ok56 E_ref10_Quorum_many.right (fn1_right ok63 E_ref10_in.right noFns_right)))) plan65 _ w K Tryz.func65 (by kernel_rfl) (by kernel_rfl) (Eq.mp (F_ref10_Quorum_refused.eq F_ref10_Quorum_Holds F_ref10_Quorum_Stop F_ref10_Quorum_many F_ref10_in q1 m2 m3 m4 m5 m6 m7 m8 m9 m10 m11 m12 m13 m14 m15 m16 m17 m18 m19 m20 m21 m22 m23 w.heap K) hh)
theorem ok65 : okFn Tryz.prog 65 = true := by kernel_rfl
end Go.Proofs.YtigcpkejjjgkeaaGreat.V
namespace Go.Proofs.YtigcpkejjjgkeaaGreat.V
open Go Go.RowKit
set_option linter.unusedVariables false
set_option maxRecDepth 100000
def F_ref10_Quorum_Hear_of (f22_ : Option Addr → Heap → (Bool → Heap → Prop) → Prop) (f55_ : Sl → Heap → (Sl → Heap → Prop) → Prop) (f56_ : Option Addr → Int → Heap → (Bool → Heap → Prop) → Prop) (f57_ : Option Addr → Int → Sl → Int → Heap → (Sl → Heap → Prop) → Prop) (f58_ : Option Addr → Heap → (Sl → Heap → Prop) → Prop) (f63_ : Sl → Int → Heap → (Bool → Heap → Prop) → Prop) (f64_ : Option Addr → Int → Heap → (Bool → Heap → Prop) → Prop) (f65_ : Option Addr → Int → Int → Int → Int → Int → Int → Int → Int → Int → Int → Sl → Int → Int → ByteArray → ByteArray → Int → Int → Int → Int → Int → Int → Int → Heap → (Heap → Prop) → Prop) (q1 : Option Addr) (m2 m3 m4 m5 m6 m7 m8 m9 m10 m11 : Int) (m12 : Sl) (m13 m14 : Int) (m15 m16 : ByteArray) (m17 m18 m19 m20 m21 m22 m23 span24 : Int) (h : Heap) (Q : Sl → Heap → Prop) : Prop :=
  al 61 [.int .i64 m2, .int .i64 m3, .int .i64 m4, .int .i64 m5, .int .u64 m6, .int .u64 m7, .int .u64 m8, .int .u64 m9, .int .i64 m10, .int .u64 m11, .slice m12.ptr m12.len m12.cap, .int .i64 m13, .int .u64 m14, .string m15, .string m16, .int .u64 m17, .int .u64 m18, .int .u64 m19, .int .i64 m20, .int .i64 m21, .int .i64 m22, .int .i64 m23] h fun (a25 : Addr) (h26 : Heap) =>
  jn [(35, .one .bool)] (fun (x39 : Bool) (h40 : Heap) =>
  brr x39
  (Q (⟨none, 0, 0⟩ : Sl) h40)
  (ld [.int .i64] ((a25.add 0).add 0) h40 fun (v41 : Int) =>
  jn [] (fun  (h187 : Heap) =>
  Q (⟨none, 0, 0⟩ : Sl) h187) (fun (j42 : Heap → Prop) =>
  brr (v41 == 2)
  (jn [(61, .one .bool)] (fun (x52 : Bool) (h53 : Heap) =>
  brr x52
  (Q (⟨none, 0, 0⟩ : Sl) h53)
  (nn q1 fun (a54 : Addr) =>
  ld [.sl] (a54.add 5) h53 fun (v55 : Sl) =>
  ld [.int .i64] ((a25.add 0).add 1) h53 fun (v56 : Int) =>
  ld [.int .u64, .int .u64] (a25.add 5) h53 fun (v57 v58 : Int) =>
  ld [.sl] (a25.add 10) h53 fun (v59 : Sl) =>
  f55_ v59 h53 fun (r60 : Sl) (h61 : Heap) =>
  cellsAre h61 (a54.add 5) [.slice v55.ptr v55.len v55.cap] ∧
  cellsAre h61 ((a25.add 0).add 1) [.int .i64 v56] ∧
  cellsAre h61 (a25.add 5) [.int .u64 v57, .int .u64 v58] ∧
  al 107 [.int .i64 v56, .int .u64 v57, .int .u64 v58, .slice r60.ptr r60.len r60.cap] h61 fun (a62 : Addr) (h63 : Heap) =>
  cellsAre h63 (a54.add 5) [.slice v55.ptr v55.len v55.cap] ∧
  app 107 4 48 (.agg #[.int .i64 0, .int .u64 0, .int .u64 0, .slice none 0 0]) v55 (some a62) 1 h63 fun (s64 : Sl) (h65 : Heap) =>
  nn q1 fun (a66 : Addr) =>
  st (a66.add 5) [.slice s64.ptr s64.len s64.cap] h65 fun (h67 : Heap) =>
  nn q1 fun (a68 : Addr) =>
  ld [.sl] (a68.add 5) h67 fun (v69 : Sl) =>
  f56_ q1 ((v69.len : Nat) : Int) h67 fun (r70 : Bool) (h71 : Heap) =>
  brr r70
  (f58_ q1 h71 fun (r72 : Sl) (h73 : Heap) =>
  f57_ q1 1 r72 span24 h73 fun (r74 : Sl) (h75 : Heap) =>
  Q r74 h75)
  (j42 h71))) (fun (j43 : Bool → Heap → Prop) =>
  nn q1 fun (a44 : Addr) =>
  ld [.int .i64] (a44.add 3) h40 fun (v45 : Int) =>
  brr (v45 != 1)
  (j43 true h40)
  (ld [.int .u64] (a25.add 4) h40 fun (v46 : Int) =>
  nn q1 fun (a47 : Addr) =>
  ld [.int .u64] (a47.add 4) h40 fun (v48 : Int) =>
  brr (v46 != v48)
  (j43 true h40)
  (ld [.int .i64] ((a25.add 0).add 1) h40 fun (v49 : Int) =>
  f64_ q1 v49 h40 fun (r50 : Bool) (h51 : Heap) =>
  j43 r50 h51))))
  (jn [] (fun  (h186 : Heap) =>
  j42 h186) (fun (j76 : Heap → Prop) =>
  brr (v41 == 5)
  (jn [(117, .one .bool)] (fun (x90 : Bool) (h91 : Heap) =>
  brr x90
  (Q (⟨none, 0, 0⟩ : Sl) h91)
  (nn q1 fun (a92 : Addr) =>
  ld [.sl] (a92.add 9) h91 fun (v93 : Sl) =>
  ld [.int .i64] ((a25.add 0).add 1) h91 fun (v94 : Int) =>
  al 3 [.int .i64 v94] h91 fun (a95 : Addr) (h96 : Heap) =>
  cellsAre h96 (a92.add 9) [.slice v93.ptr v93.len v93.cap] ∧
  app 3 1 8 (.int .i64 0) v93 (some a95) 1 h96 fun (s97 : Sl) (h98 : Heap) =>
  nn q1 fun (a99 : Addr) =>
  st (a99.add 9) [.slice s97.ptr s97.len s97.cap] h98 fun (h100 : Heap) =>
  nn q1 fun (a101 : Addr) =>
  ld [.sl] (a101.add 9) h100 fun (v102 : Sl) =>
  f56_ q1 ((v102.len : Nat) : Int) h100 fun (r103 : Bool) (h104 : Heap) =>
  jn [] (fun  (h119 : Heap) =>
  j76 h119) (fun (j105 : Heap → Prop) =>
  brr r103
  (nn q1 fun (a106 : Addr) =>
  st (a106.add 11) [.bool true] h104 fun (h107 : Heap) =>
  nn q1 fun (a108 : Addr) =>
  ld [.int .u64, .int .u64] (a108.add 6) h107 fun (v109 v110 : Int) =>
  nn q1 fun (a111 : Addr) =>
  st (a111.add 12) [.int .u64 v109, .int .u64 v110] h107 fun (h112 : Heap) =>
  nn q1 fun (a113 : Addr) =>
  ld [.sl] (a113.add 8) h112 fun (v114 : Sl) =>
  nn q1 fun (a115 : Addr) =>
  st (a115.add 14) [.slice v114.ptr v114.len v114.cap] h112 fun (h116 : Heap) =>
  nn q1 fun (a117 : Addr) =>
  st (a117.add 3) [.int .i64 3] h116 fun (h118 : Heap) =>
  j105 h118)
  (j105 h104)))) (fun (j77 : Bool → Heap → Prop) =>
  nn q1 fun (a78 : Addr) =>
  ld [.int .i64] (a78.add 3) h40 fun (v79 : Int) =>
  brr (v79 != 2)
  (j77 true h40)
  (ld [.int .u64, .int .u64] (a25.add 5) h40 fun (v80 v81 : Int) =>
  nn q1 fun (a82 : Addr) =>
  ld [.int .u64, .int .u64] (a82.add 6) h40 fun (v83 v84 : Int) =>
  brr (!((v80 == v83) && ((v81 == v84) && (true))))
  (j77 true h40)
  (nn q1 fun (a85 : Addr) =>
  ld [.sl] (a85.add 9) h40 fun (v86 : Sl) =>
  ld [.int .i64] ((a25.add 0).add 1) h40 fun (v87 : Int) =>
  f63_ v86 v87 h40 fun (r88 : Bool) (h89 : Heap) =>
  j77 r88 h89))))
  (jn [] (fun  (h185 : Heap) =>
  j76 h185) (fun (j120 : Heap → Prop) =>
  brr (v41 == 3)
  (ld [.int .i64, .int .i64, .int .i64, .int .i64, .int .u64, .int .u64, .int .u64, .int .u64, .int .i64, .int .u64, .sl, .int .i64, .int .u64, .str, .str, .int .u64, .int .u64, .int .u64, .int .i64, .int .i64, .int .i64, .int .i64] a25 h40 fun (v121 v122 v123 v124 v125 v126 v127 v128 v129 v130 : Int) (v131 : Sl) (v132 v133 : Int) (v134 v135 : ByteArray) (v136 v137 v138 v139 v140 v141 v142 : Int) =>
  f65_ q1 v121 v122 v123 v124 v125 v126 v127 v128 v129 v130 v131 v132 v133 v134 v135 v136 v137 v138 v139 v140 v141 v142 h40 fun  (h143 : Heap) =>
  j120 h143)
  (jn [] (fun  (h184 : Heap) =>
  j120 h184) (fun (j144 : Heap → Prop) =>
  brr (v41 == 7)
  (jn [(205, .one .bool)] (fun (x163 : Bool) (h164 : Heap) =>
  brr x163
  (Q (⟨none, 0, 0⟩ : Sl) h164)
  (nn q1 fun (a165 : Addr) =>
  ld [.sl] (a165.add 17) h164 fun (v166 : Sl) =>
  ld [.int .i64] ((a25.add 0).add 1) h164 fun (v167 : Int) =>
  al 3 [.int .i64 v167] h164 fun (a168 : Addr) (h169 : Heap) =>
  cellsAre h169 (a165.add 17) [.slice v166.ptr v166.len v166.cap] ∧
  app 3 1 8 (.int .i64 0) v166 (some a168) 1 h169 fun (s170 : Sl) (h171 : Heap) =>
  nn q1 fun (a172 : Addr) =>
  st (a172.add 17) [.slice s170.ptr s170.len s170.cap] h171 fun (h173 : Heap) =>
  nn q1 fun (a174 : Addr) =>
  ld [.sl] (a174.add 17) h173 fun (v175 : Sl) =>
  f56_ q1 ((v175.len : Nat) : Int) h173 fun (r176 : Bool) (h177 : Heap) =>
  jn [] (fun  (h183 : Heap) =>
  j144 h183) (fun (j178 : Heap → Prop) =>
  brr r176
  (nn q1 fun (a179 : Addr) =>
  ld [.int .u64] (a179.add 15) h177 fun (v180 : Int) =>
  nn q1 fun (a181 : Addr) =>
  st (a181.add 16) [.int .u64 v180] h177 fun (h182 : Heap) =>
  j178 h182)
  (j178 h177)))) (fun (j145 : Bool → Heap → Prop) =>
  f22_ q1 h40 fun (r146 : Bool) (h147 : Heap) =>
  brr (!r146)
  (j145 true h147)
  (nn q1 fun (a148 : Addr) =>
  ld [.int .u64] (a148.add 15) h147 fun (v149 : Int) =>
  nn q1 fun (a150 : Addr) =>
  ld [.int .u64] (a150.add 16) h147 fun (v151 : Int) =>
  brr (v149 == v151)
  (j145 true h147)
  (ld [.int .u64] (a25.add 4) h147 fun (v152 : Int) =>
  nn q1 fun (a153 : Addr) =>
  ld [.int .u64] (a153.add 4) h147 fun (v154 : Int) =>
  brr (v152 != v154)
  (j145 true h147)
  (ld [.int .u64] (a25.add 7) h147 fun (v155 : Int) =>
  nn q1 fun (a156 : Addr) =>
  ld [.int .u64] (a156.add 15) h147 fun (v157 : Int) =>
  brr (v155 != v157)
  (j145 true h147)
  (nn q1 fun (a158 : Addr) =>
  ld [.sl] (a158.add 17) h147 fun (v159 : Sl) =>
  ld [.int .i64] ((a25.add 0).add 1) h147 fun (v160 : Int) =>
  f63_ v159 v160 h147 fun (r161 : Bool) (h162 : Heap) =>
  j145 r161 h162))))))
  (j144 h40)))))))))) (fun (j27 : Bool → Heap → Prop) =>
  ld [.int .i64] ((a25.add 0).add 2) h26 fun (v28 : Int) =>
  nn q1 fun (a29 : Addr) =>
  ld [.int .i64] (a29.add 0) h26 fun (v30 : Int) =>
  brr (v28 != v30)
  (j27 true h26)
  (ld [.int .i64] ((a25.add 0).add 3) h26 fun (v31 : Int) =>
  nn q1 fun (a32 : Addr) =>
  ld [.int .i64] (a32.add 1) h26 fun (v33 : Int) =>
  brr (v31 != v33)
  (j27 true h26)
  (nn q1 fun (a34 : Addr) =>
  ld [.sl] (a34.add 2) h26 fun (v35 : Sl) =>
  ld [.int .i64] ((a25.add 0).add 1) h26 fun (v36 : Int) =>
  f63_ v35 v36 h26 fun (r37 : Bool) (h38 : Heap) =>
  j27 (!r37) h38)))
def F_ref10_Quorum_Hear (q1 : Option Addr) (m2 m3 m4 m5 m6 m7 m8 m9 m10 m11 : Int) (m12 : Sl) (m13 m14 : Int) (m15 m16 : ByteArray) (m17 m18 m19 m20 m21 m22 m23 span24 : Int) (h : Heap) (Q : Sl → Heap → Prop) : Prop := F_ref10_Quorum_Hear_of F_ref10_Quorum_Holds F_ref0_Copy F_ref10_Quorum_many F_ref10_Quorum_writes F_ref10_Quorum_best F_ref10_in F_ref10_Quorum_promised F_ref10_Quorum_refused q1 m2 m3 m4 m5 m6 m7 m8 m9 m10 m11 m12 m13 m14 m15 m16 m17 m18 m19 m20 m21 m22 m23 span24 h Q
def plan32 : Plan := .s (.r [0, 2, 4]) (.s (.s (.dj [0, 1, 3, 0, 8, 24, 56, 127, 255, 511, 1023, 2047, 511, 4607, 12799, 29183, 65535, 131071, 262143, 524287, 1048575, 2097151, 4194303, 524287, 8912895, 25690111, 67108863, 134217727, 268435455] [[0, 1, 2, 3, 4, 5, 6, 7, 8, 9, 10, 11, 12, 13, 14, 15, 16, 17, 18, 19, 20, 21, 22, 23, 24, 25, 26, 27, 28]] [(35, .one .bool)] [0, 2, 4]) (.c (.s (.r [6]) .z) .z)) (.s (.s (.r [0, 2, 4, 38]) (.b (.s (.r [0, 2, 4, 38, 39]) (.cj [] [] (.s (.s (.dj [0, 1, 3, 7, 15, 31, 63, 127, 63, 319, 831, 1855, 4095, 8191, 16383, 32767, 32767, 98303, 229375, 524287, 1048575] [[0, 1, 2, 3, 4, 5, 6, 7, 8, 9, 10, 11, 12, 13, 14, 15, 16, 17, 18, 19, 20]] [(61, .one .bool)] [0, 2, 4]) (.c (.s (.r [6]) .z) .z)) (.s (.d [0, 0, 2, 6, 14, 0, 32, 96, 0, 256, 0, 1024, 3072, 8160, 16352, 32766, 65535, 131071, 262143] [[0, 1, 2, 3, 4, 5, 6, 7, 8, 9, 10, 11, 12, 13, 14, 15, 16, 17, 18]] [0, 2]) (.s (.r [0, 2, 86]) (.c (.s (.r [6]) .z) .z)))) (.s (.r [0, 4, 38, 92]) (.cj [] [] (.s (.s (.dj [0, 1, 3, 7, 15, 31, 63, 127, 63, 319, 831, 1855, 4095, 8191, 16383, 32767, 65535, 131071, 262143, 32767, 557055, 1605631, 4194303, 8388607] [[0, 1, 2, 3, 4, 5, 6, 7, 8, 9, 10, 11, 12, 13, 14, 15, 16, 17, 18, 19, 20, 21, 22, 23]] [(117, .one .bool)] [0, 4]) (.c (.s (.r [6]) .z) .z)) (.s (.d [0, 0, 2, 6, 14, 0, 32, 96, 224, 510, 1023, 2047, 4095] [[0, 1, 2, 3, 4, 5, 6, 7, 8, 9, 10, 11, 12]] [0]) (.s (.r [0, 136]) (.cj [] [] (.s (.r [0]) (.s (.r [0]) (.s (.r [0]) (.r [])))) .z)))) (.s (.r [0, 4, 38, 157]) (.cj [] [] (.r []) (.s (.r [0, 4, 162]) (.cj [] [] (.s (.s (.dj [0, 1, 3, 7, 15, 31, 63, 127, 15, 271, 783, 1807, 4095, 8191, 16383, 32767, 65535, 32767, 163839, 425983, 950271, 2097151, 4194303, 8388607, 16777215, 33554431, 16777215, 83886079, 218103807, 486539263, 1073741823, 2147483647, 4294967295, 8589934591, 17179869183, 34359738367, 68719476735, 8589934591, 146028888063, 420906795007, 1099511627775, 2199023255551] [[0, 1, 2, 3, 4, 5, 6, 7, 8, 9, 10, 11, 12, 13, 14, 15, 16, 17, 18, 19, 20, 21, 22, 23, 24, 25, 26, 27, 28, 29, 30, 31, 32, 33, 34, 35, 36, 37, 38, 39, 40, 41]] [(205, .one .bool)] [0, 4]) (.c (.s (.r [6]) .z) .z)) (.s (.d [0, 0, 2, 6, 14, 0, 32, 96, 224, 510, 1023, 2047, 4095] [[0, 1, 2, 3, 4, 5, 6, 7, 8, 9, 10, 11, 12]] [0]) (.s (.r [0, 224]) (.cj [] [] (.r []) .z)))) .z)))))))))) (.s (.r [6]) .z)))
theorem F_ref10_Quorum_Hear.eq (f22_ : Option Addr → Heap → (Bool → Heap → Prop) → Prop) (f55_ : Sl → Heap → (Sl → Heap → Prop) → Prop) (f56_ : Option Addr → Int → Heap → (Bool → Heap → Prop) → Prop) (f57_ : Option Addr → Int → Sl → Int → Heap → (Sl → Heap → Prop) → Prop) (f58_ : Option Addr → Heap → (Sl → Heap → Prop) → Prop) (f63_ : Sl → Int → Heap → (Bool → Heap → Prop) → Prop) (f64_ : Option Addr → Int → Heap → (Bool → Heap → Prop) → Prop) (f65_ : Option Addr → Int → Int → Int → Int → Int → Int → Int → Int → Int → Int → Sl → Int → Int → ByteArray → ByteArray → Int → Int → Int → Int → Int → Int → Int → Heap → (Heap → Prop) → Prop) (q1 : Option Addr) (m2 m3 m4 m5 m6 m7 m8 m9 m10 m11 : Int) (m12 : Sl) (m13 m14 : Int) (m15 m16 : ByteArray) (m17 m18 m19 m20 m21 m22 m23 span24 : Int) (h : Heap) (K : Value → Heap → Prop) : F_ref10_Quorum_Hear_of f22_ f55_ f56_ f57_ f58_ f63_ f64_ f65_ q1 m2 m3 m4 m5 m6 m7 m8 m9 m10 m11 m12 m13 m14 m15 m16 m17 m18 m19 m20 m21 m22 m23 span24 h (fun (r0 : Sl) (h : Heap) => K (.slice r0.ptr r0.len r0.cap) h) =
    den Tryz.prog (fn1 22 (E_ref10_Quorum_Holds_of f22_) (fn1 55 (E_ref0_Copy_of f55_) (fn1 56 (E_ref10_Quorum_many_of f56_) (fn1 57 (E_ref10_Quorum_writes_of f57_) (fn1 58 (E_ref10_Quorum_best_of f58_) (fn1 63 (E_ref10_in_of f63_) (fn1 64 (E_ref10_Quorum_promised_of f64_) (fn1 65 (E_ref10_Quorum_refused_of f65_) noFns)))))))) Tryz.f32.ntmps plan32 (bodyOf Tryz.f32) (args0 0 [(.pointer q1 : Value), (.agg #[.int .i64 m2, .int .i64 m3, .int .i64 m4, .int .i64 m5, .int .u64 m6, .int .u64 m7, .int .u64 m8, .int .u64 m9, .int .i64 m10, .int .u64 m11, .slice m12.ptr m12.len m12.cap, .int .i64 m13, .int .u64 m14, .string m15, .string m16, .int .u64 m17, .int .u64 m18, .int .u64 m19, .int .i64 m20, .int .i64 m21, .int .i64 m22, .int .i64 m23] : Value), (.int .i64 span24 : Value)]) h ⟨fun env h => dRes Tryz.prog Tryz.f32.results.toList env h K, fun _ _ _ => False, fun env h => dRes Tryz.prog Tryz.f32.results.toList env h K⟩ := by kernel_rfl
def E_ref10_Quorum_Hear_of (f : Option Addr → Int → Int → Int → Int → Int → Int → Int → Int → Int → Int → Sl → Int → Int → ByteArray → ByteArray → Int → Int → Int → Int → Int → Int → Int → Int → Heap → (Sl → Heap → Prop) → Prop) : List Value → Heap → (Value → Heap → Prop) → Prop
  | [v0, v1, v2], h, K => dec1 .ptr v0 fun (q1 : Option Addr) =>
  vAgg v1 fun cs1 => decs [.int .i64, .int .i64, .int .i64, .int .i64, .int .u64, .int .u64, .int .u64, .int .u64, .int .i64, .int .u64, .sl, .int .i64, .int .u64, .str, .str, .int .u64, .int .u64, .int .u64, .int .i64, .int .i64, .int .i64, .int .i64] cs1.toList fun (m2 m3 m4 m5 m6 m7 m8 m9 m10 m11 : Int) (m12 : Sl) (m13 m14 : Int) (m15 m16 : ByteArray) (m17 m18 m19 m20 m21 m22 m23 : Int) =>
  dec1 (.int .i64) v2 fun (span24 : Int) =>
  f q1 m2 m3 m4 m5 m6 m7 m8 m9 m10 m11 m12 m13 m14 m15 m16 m17 m18 m19 m20 m21 m22 m23 span24 h (fun (r0 : Sl) (h : Heap) => K (.slice r0.ptr r0.len r0.cap) h)
  | _, _, _ => False
abbrev E_ref10_Quorum_Hear := E_ref10_Quorum_Hear_of F_ref10_Quorum_Hear
theorem E_ref10_Quorum_Hear.right : IsRight Tryz.prog 32 E_ref10_Quorum_Hear := by
  refine isRight fun vs K w hh => ?_
  match vs, hh with
  | [v0, v1, v2], hh =>
    unfold E_ref10_Quorum_Hear E_ref10_Quorum_Hear_of at hh
    replace hh := dec1_sound hh; obtain ⟨q1, rfl, hh⟩ := hh
    replace hh := vAgg_sound hh; obtain ⟨cs1, rfl, hh⟩ := hh
    replace hh := decs_cons hh; obtain ⟨m2, l1_0, e1_0, hh⟩ := hh
    replace hh := decs_cons hh; obtain ⟨m3, l1_1, e1_1, hh⟩ := hh
    replace hh := decs_cons hh; obtain ⟨m4, l1_2, e1_2, hh⟩ := hh
    replace hh := decs_cons hh; obtain ⟨m5, l1_3, e1_3, hh⟩ := hh
    replace hh := decs_cons hh; obtain ⟨m6, l1_4, e1_4, hh⟩ := hh
    replace hh := decs_cons hh; obtain ⟨m7, l1_5, e1_5, hh⟩ := hh
    replace hh := decs_cons hh; obtain ⟨m8, l1_6, e1_6, hh⟩ := hh
    replace hh := decs_cons hh; obtain ⟨m9, l1_7, e1_7, hh⟩ := hh
    replace hh := decs_cons hh; obtain ⟨m10, l1_8, e1_8, hh⟩ := hh
    replace hh := decs_cons hh; obtain ⟨m11, l1_9, e1_9, hh⟩ := hh
    replace hh := decs_cons hh; obtain ⟨m12, l1_10, e1_10, hh⟩ := hh
    replace hh := decs_cons hh; obtain ⟨m13, l1_11, e1_11, hh⟩ := hh
    replace hh := decs_cons hh; obtain ⟨m14, l1_12, e1_12, hh⟩ := hh
    replace hh := decs_cons hh; obtain ⟨m15, l1_13, e1_13, hh⟩ := hh
    replace hh := decs_cons hh; obtain ⟨m16, l1_14, e1_14, hh⟩ := hh
    replace hh := decs_cons hh; obtain ⟨m17, l1_15, e1_15, hh⟩ := hh
    replace hh := decs_cons hh; obtain ⟨m18, l1_16, e1_16, hh⟩ := hh
    replace hh := decs_cons hh; obtain ⟨m19, l1_17, e1_17, hh⟩ := hh
    replace hh := decs_cons hh; obtain ⟨m20, l1_18, e1_18, hh⟩ := hh
    replace hh := decs_cons hh; obtain ⟨m21, l1_19, e1_19, hh⟩ := hh
    replace hh := decs_cons hh; obtain ⟨m22, l1_20, e1_20, hh⟩ := hh
    replace hh := decs_cons hh; obtain ⟨m23, l1_21, e1_21, hh⟩ := hh
    replace hh := decs_nil hh; obtain ⟨rfl, hh⟩ := hh
    subst e1_21
    subst e1_20
    subst e1_19
    subst e1_18
    subst e1_17
    subst e1_16
    subst e1_15
    subst e1_14
    subst e1_13
    subst e1_12
    subst e1_11
    subst e1_10
    subst e1_9
    subst e1_8
    subst e1_7
    subst e1_6
    subst e1_5
    subst e1_4
    subst e1_3
    subst e1_2
    subst e1_1
    have ec1 := toArray_eq e1_0
    subst ec1
    replace hh := dec1_sound hh; obtain ⟨span24, rfl, hh⟩ := hh
    unfold F_ref10_Quorum_Hear at hh
    exact calls_den (fn1_right ok22 E_ref10_Quorum_Holds.right (fn1_right ok55 E_ref0_Copy.right (fn1_right ok56 E_ref10_Quorum_many.right (fn1_right ok57 E_ref10_Quorum_writes.right (fn1_right ok58 E_ref10_Quorum_best.right (fn1_right ok63 E_ref10_in.right (fn1_right ok64 E_ref10_Quorum_promised.right (fn1_right ok65 E_ref10_Quorum_refused.right noFns_right)))))))) plan32 _ w K Tryz.func32 (by kernel_rfl) (by kernel_rfl) (Eq.mp (F_ref10_Quorum_Hear.eq F_ref10_Quorum_Holds F_ref0_Copy F_ref10_Quorum_many F_ref10_Quorum_writes F_ref10_Quorum_best F_ref10_in F_ref10_Quorum_promised F_ref10_Quorum_refused q1 m2 m3 m4 m5 m6 m7 m8 m9 m10 m11 m12 m13 m14 m15 m16 m17 m18 m19 m20 m21 m22 m23 span24 w.heap K) hh)
theorem ok32 : okFn Tryz.prog 32 = true := by kernel_rfl
end Go.Proofs.YtigcpkejjjgkeaaGreat.V
namespace Go.Proofs.YtigcpkejjjgkeaaGreat.V
open Go Go.RowKit
set_option linter.unusedVariables false
set_option maxRecDepth 100000
def F_ref10_Quorum_without.l1 (f63_ : Sl → Int → Heap → (Bool → Heap → Prop) → Prop) (q1 : Option Addr) (l2 : Sl) (j3 : Sl → Heap → Prop) : Sl → Int → Heap → Prop :=
  wl [(5, .one .sl), (6, .one (.int .i64))] (fun (next4 : Sl → Int → Heap → Prop) (m5 : Sl) (i6 : Int) (h7 : Heap) =>
  nn q1 fun (a8 : Addr) =>
  ld [.sl] (a8.add 2) h7 fun (v9 : Sl) =>
  brr (decide (i6 < ((v9.len : Nat) : Int)))
  (nn q1 fun (a10 : Addr) =>
  ld [.sl] (a10.add 2) h7 fun (v11 : Sl) =>
  ixS 1 v11 i6 fun (a12 : Addr) =>
  ld [.int .i64] a12 h7 fun (v13 : Int) =>
  f63_ l2 v13 h7 fun (r14 : Bool) (h15 : Heap) =>
  jn [(5, .one .sl)] (fun (m25 : Sl) (h26 : Heap) =>
  next4 m25 (IntKind.i64.wrap (i6 + 1)) h26) (fun (j16 : Sl → Heap → Prop) =>
  brr (!r14)
  (nn q1 fun (a17 : Addr) =>
  ld [.sl] (a17.add 2) h15 fun (v18 : Sl) =>
  ixS 1 v18 i6 fun (a19 : Addr) =>
  ld [.int .i64] a19 h15 fun (v20 : Int) =>
  al 3 [.int .i64 v20] h15 fun (a21 : Addr) (h22 : Heap) =>
  app 3 1 8 (.int .i64 0) m5 (some a21) 1 h22 fun (s23 : Sl) (h24 : Heap) =>
  j16 s23 h24)
  (j16 m5 h15)))
  (j3 m5 h7))
def F_ref10_Quorum_without_of (f63_ : Sl → Int → Heap → (Bool → Heap → Prop) → Prop) (q1 : Option Addr) (l2 : Sl) (h : Heap) (Q : Sl → Heap → Prop) : Prop :=
  jn [(5, .one .sl)] (fun (m27 : Sl) (h28 : Heap) =>
  Q m27 h28) (fun (j3 : Sl → Heap → Prop) =>
  F_ref10_Quorum_without.l1 f63_ q1 l2 j3 (⟨none, 0, 0⟩ : Sl) 0 h)
def F_ref10_Quorum_without (q1 : Option Addr) (l2 : Sl) (h : Heap) (Q : Sl → Heap → Prop) : Prop := F_ref10_Quorum_without_of F_ref10_in q1 l2 h Q
def plan60 : Plan := .s (.r [0, 1]) (.s (.r [0, 1, 5]) (.s (.s (.r [0, 1, 5, 6]) (.bj [(5, .one .sl)] [] (.l [(5, .one .sl), (6, .one (.int .i64))] [0, 1] (.s (.s (.r [0, 1, 5, 6, 13]) (.c .z .z)) (.s (.b (.s (.r [0, 1, 5, 6, 25]) (.cj [(5, .one .sl)] [0, 1, 6] (.r [0, 1, 5, 6]) .z))) (.r [0, 1, 5, 6])))))) (.s (.r [4]) .z)))
theorem F_ref10_Quorum_without.eq (f63_ : Sl → Int → Heap → (Bool → Heap → Prop) → Prop) (q1 : Option Addr) (l2 : Sl) (h : Heap) (K : Value → Heap → Prop) : F_ref10_Quorum_without_of f63_ q1 l2 h (fun (r0 : Sl) (h : Heap) => K (.slice r0.ptr r0.len r0.cap) h) =
    den Tryz.prog (fn1 63 (E_ref10_in_of f63_) noFns) Tryz.f60.ntmps plan60 (bodyOf Tryz.f60) (args0 0 [(.pointer q1 : Value), (.slice l2.ptr l2.len l2.cap : Value)]) h ⟨fun env h => dRes Tryz.prog Tryz.f60.results.toList env h K, fun _ _ _ => False, fun env h => dRes Tryz.prog Tryz.f60.results.toList env h K⟩ := by kernel_rfl
def E_ref10_Quorum_without_of (f : Option Addr → Sl → Heap → (Sl → Heap → Prop) → Prop) : List Value → Heap → (Value → Heap → Prop) → Prop
  | [v0, v1], h, K => dec1 .ptr v0 fun (q1 : Option Addr) =>
  dec1 .sl v1 fun (l2 : Sl) =>
  f q1 l2 h (fun (r0 : Sl) (h : Heap) => K (.slice r0.ptr r0.len r0.cap) h)
  | _, _, _ => False
abbrev E_ref10_Quorum_without := E_ref10_Quorum_without_of F_ref10_Quorum_without
theorem E_ref10_Quorum_without.right : IsRight Tryz.prog 60 E_ref10_Quorum_without := by
  refine isRight fun vs K w hh => ?_
  match vs, hh with
  | [v0, v1], hh =>
    unfold E_ref10_Quorum_without E_ref10_Quorum_without_of at hh
    replace hh := dec1_sound hh; obtain ⟨q1, rfl, hh⟩ := hh
    replace hh := dec1_sound hh; obtain ⟨l2, rfl, hh⟩ := hh
    unfold F_ref10_Quorum_without at hh
    exact calls_den (fn1_right ok63 E_ref10_in.right noFns_right) plan60 _ w K Tryz.func60 (by kernel_rfl) (by kernel_rfl) (Eq.mp (F_ref10_Quorum_without.eq F_ref10_in q1 l2 w.heap K) hh)
theorem ok60 : okFn Tryz.prog 60 = true := by kernel_rfl
end Go.Proofs.YtigcpkejjjgkeaaGreat.V
namespace Go.Proofs.YtigcpkejjjgkeaaGreat.V
open Go Go.RowKit
set_option linter.unusedVariables false
set_option maxRecDepth 100000
def F_ref10_Quorum_Start_of (f38_ : Option Addr → Heap → (Heap → Prop) → Prop) (f55_ : Sl → Heap → (Sl → Heap → Prop) → Prop) (f56_ : Option Addr → Int → Heap → (Bool → Heap → Prop) → Prop) (f57_ : Option Addr → Int → Sl → Int → Heap → (Sl → Heap → Prop) → Prop) (f58_ : Option Addr → Heap → (Sl → Heap → Prop) → Prop) (f59_ : Option Addr → Int → Sl → Int → Heap → (Sl → Heap → Prop) → Prop) (f60_ : Option Addr → Sl → Heap → (Sl → Heap → Prop) → Prop) (q1 : Option Addr) (epoch2 own3 own4 own5 : Int) (own6 : Sl) (span7 : Int) (h : Heap) (Q : Sl → Heap → Prop) : Prop :=
  al 54 [.int .u64 own3, .int .u64 own4, .int .u64 own5, .slice own6.ptr own6.len own6.cap] h fun (a8 : Addr) (h9 : Heap) =>
  f38_ q1 h9 fun  (h10 : Heap) =>
  nn q1 fun (a11 : Addr) =>
  st (a11.add 3) [.int .i64 1] h10 fun (h12 : Heap) =>
  nn q1 fun (a13 : Addr) =>
  st (a13.add 4) [.int .u64 epoch2] h12 fun (h14 : Heap) =>
  nn q1 fun (a15 : Addr) =>
  ld [.int .i64] (a15.add 0) h14 fun (v16 : Int) =>
  ld [.int .u64, .int .u64] (a8.add 1) h14 fun (v17 v18 : Int) =>
  ld [.sl] (a8.add 3) h14 fun (v19 : Sl) =>
  f55_ v19 h14 fun (r20 : Sl) (h21 : Heap) =>
  cellsAre h21 (a15.add 0) [.int .i64 v16] ∧
  cellsAre h21 (a8.add 1) [.int .u64 v17, .int .u64 v18] ∧
  al 107 [.int .i64 v16, .int .u64 v17, .int .u64 v18, .slice r20.ptr r20.len r20.cap] h21 fun (a22 : Addr) (h23 : Heap) =>
  nn q1 fun (a24 : Addr) =>
  st (a24.add 5) [.slice (some a22) 1 1] h23 fun (h25 : Heap) =>
  f56_ q1 1 h25 fun (r26 : Bool) (h27 : Heap) =>
  brr r26
  (f58_ q1 h27 fun (r28 : Sl) (h29 : Heap) =>
  f57_ q1 1 r28 span7 h29 fun (r30 : Sl) (h31 : Heap) =>
  Q r30 h31)
  (nn q1 fun (a32 : Addr) =>
  ld [.int .i64] (a32.add 0) h27 fun (v33 : Int) =>
  al 3 [.int .i64 v33] h27 fun (a34 : Addr) (h35 : Heap) =>
  f60_ q1 ⟨(some a34), 1, 1⟩ h35 fun (r36 : Sl) (h37 : Heap) =>
  f59_ q1 1 r36 span7 h37 fun (r38 : Sl) (h39 : Heap) =>
  Q r38 h39)
def F_ref10_Quorum_Start (q1 : Option Addr) (epoch2 own3 own4 own5 : Int) (own6 : Sl) (span7 : Int) (h : Heap) (Q : Sl → Heap → Prop) : Prop := F_ref10_Quorum_Start_of F_ref10_Quorum_Stop F_ref0_Copy F_ref10_Quorum_many F_ref10_Quorum_writes F_ref10_Quorum_best F_ref10_Quorum_to F_ref10_Quorum_without q1 epoch2 own3 own4 own5 own6 span7 h Q
def plan29 : Plan := .s (.r [0, 1, 3, 6]) (.s (.r [0, 1, 3, 6]) (.s (.r [0, 1, 3, 6]) (.s (.r [0, 3, 6]) (.s (.d [0, 0, 2, 6, 14, 0, 32, 0, 128, 384, 1022, 2046, 4095, 8191, 16383] [[0, 1, 2, 3, 4, 5, 6, 7, 8, 9, 10, 11, 12, 13, 14]] [0, 3]) (.s (.s (.r [0, 3, 33]) (.c (.s (.r [8]) .z) .z)) (.s (.r [8]) .z))))))
theorem F_ref10_Quorum_Start.eq (f38_ : Option Addr → Heap → (Heap → Prop) → Prop) (f55_ : Sl → Heap → (Sl → Heap → Prop) → Prop) (f56_ : Option Addr → Int → Heap → (Bool → Heap → Prop) → Prop) (f57_ : Option Addr → Int → Sl → Int → Heap → (Sl → Heap → Prop) → Prop) (f58_ : Option Addr → Heap → (Sl → Heap → Prop) → Prop) (f59_ : Option Addr → Int → Sl → Int → Heap → (Sl → Heap → Prop) → Prop) (f60_ : Option Addr → Sl → Heap → (Sl → Heap → Prop) → Prop) (q1 : Option Addr) (epoch2 own3 own4 own5 : Int) (own6 : Sl) (span7 : Int) (h : Heap) (K : Value → Heap → Prop) : F_ref10_Quorum_Start_of f38_ f55_ f56_ f57_ f58_ f59_ f60_ q1 epoch2 own3 own4 own5 own6 span7 h (fun (r0 : Sl) (h : Heap) => K (.slice r0.ptr r0.len r0.cap) h) =
    den Tryz.prog (fn1 38 (E_ref10_Quorum_Stop_of f38_) (fn1 55 (E_ref0_Copy_of f55_) (fn1 56 (E_ref10_Quorum_many_of f56_) (fn1 57 (E_ref10_Quorum_writes_of f57_) (fn1 58 (E_ref10_Quorum_best_of f58_) (fn1 59 (E_ref10_Quorum_to_of f59_) (fn1 60 (E_ref10_Quorum_without_of f60_) noFns))))))) Tryz.f29.ntmps plan29 (bodyOf Tryz.f29) (args0 0 [(.pointer q1 : Value), (.int .u64 epoch2 : Value), (.agg #[.int .u64 own3, .int .u64 own4, .int .u64 own5, .slice own6.ptr own6.len own6.cap] : Value), (.int .i64 span7 : Value)]) h ⟨fun env h => dRes Tryz.prog Tryz.f29.results.toList env h K, fun _ _ _ => False, fun env h => dRes Tryz.prog Tryz.f29.results.toList env h K⟩ := by kernel_rfl
def E_ref10_Quorum_Start_of (f : Option Addr → Int → Int → Int → Int → Sl → Int → Heap → (Sl → Heap → Prop) → Prop) : List Value → Heap → (Value → Heap → Prop) → Prop
  | [v0, v1, v2, v3], h, K => dec1 .ptr v0 fun (q1 : Option Addr) =>
  dec1 (.int .u64) v1 fun (epoch2 : Int) =>
  vAgg v2 fun cs2 => decs [.int .u64, .int .u64, .int .u64, .sl] cs2.toList fun (own3 own4 own5 : Int) (own6 : Sl) =>
  dec1 (.int .i64) v3 fun (span7 : Int) =>
  f q1 epoch2 own3 own4 own5 own6 span7 h (fun (r0 : Sl) (h : Heap) => K (.slice r0.ptr r0.len r0.cap) h)
  | _, _, _ => False
abbrev E_ref10_Quorum_Start := E_ref10_Quorum_Start_of F_ref10_Quorum_Start
theorem E_ref10_Quorum_Start.right : IsRight Tryz.prog 29 E_ref10_Quorum_Start := by
  refine isRight fun vs K w hh => ?_
  match vs, hh with
  | [v0, v1, v2, v3], hh =>
    unfold E_ref10_Quorum_Start E_ref10_Quorum_Start_of at hh
    replace hh := dec1_sound hh; obtain ⟨q1, rfl, hh⟩ := hh
    replace hh := dec1_sound hh; obtain ⟨epoch2, rfl, hh⟩ := hh
    replace hh := vAgg_sound hh; obtain ⟨cs2, rfl, hh⟩ := hh
    replace hh := decs_cons hh; obtain ⟨own3, l2_0, e2_0, hh⟩ := hh
    replace hh := decs_cons hh; obtain ⟨own4, l2_1, e2_1, hh⟩ := hh
    replace hh := decs_cons hh; obtain ⟨own5, l2_2, e2_2, hh⟩ := hh
    replace hh := decs_cons hh; obtain ⟨own6, l2_3, e2_3, hh⟩ := hh
    replace hh := decs_nil hh; obtain ⟨rfl, hh⟩ := hh
    subst e2_3
    subst e2_2
    subst e2_1
    have ec2 := toArray_eq e2_0
    subst ec2
    replace hh := dec1_sound hh; obtain ⟨span7, rfl, hh⟩ := hh
    unfold F_ref10_Quorum_Start at hh
    exact calls_den (fn1_right ok38 E_ref10_Quorum_Stop.right (fn1_right ok55 E_ref0_Copy.right (fn1_right ok56 E_ref10_Quorum_many.right (fn1_right ok57 E_ref10_Quorum_writes.right (fn1_right ok58 E_ref10_Quorum_best.right (fn1_right ok59 E_ref10_Quorum_to.right (fn1_right ok60 E_ref10_Quorum_without.right noFns_right))))))) plan29 _ w K Tryz.func29 (by kernel_rfl) (by kernel_rfl) (Eq.mp (F_ref10_Quorum_Start.eq F_ref10_Quorum_Stop F_ref0_Copy F_ref10_Quorum_many F_ref10_Quorum_writes F_ref10_Quorum_best F_ref10_Quorum_to F_ref10_Quorum_without q1 epoch2 own3 own4 own5 own6 span7 w.heap K) hh)
theorem ok29 : okFn Tryz.prog 29 = true := by kernel_rfl
end Go.Proofs.YtigcpkejjjgkeaaGreat.V
namespace Go.Proofs.YtigcpkejjjgkeaaGreat.V
open Go Go.RowKit
set_option linter.unusedVariables false
set_option maxRecDepth 100000
def F_ref10_Quorum_Tick_of (f22_ : Option Addr → Heap → (Bool → Heap → Prop) → Prop) (f59_ : Option Addr → Int → Sl → Int → Heap → (Sl → Heap → Prop) → Prop) (f60_ : Option Addr → Sl → Heap → (Sl → Heap → Prop) → Prop) (q1 : Option Addr) (span2 : Int) (h : Heap) (Q : Sl → Heap → Prop) : Prop :=
  nn q1 fun (a3 : Addr) =>
  ld [.int .i64] (a3.add 3) h fun (v4 : Int) =>
  jn [(5, .one .sl)] (fun (l14 : Sl) (h15 : Heap) =>
  nn q1 fun (a16 : Addr) =>
  ld [.int .i64] (a16.add 3) h15 fun (v17 : Int) =>
  jn [(5, .one .sl)] (fun (l25 : Sl) (h26 : Heap) =>
  f22_ q1 h26 fun (r27 : Bool) (h28 : Heap) =>
  brr (!r27)
  (Q l25 h28)
  (nn q1 fun (a29 : Addr) =>
  ld [.int .u64] (a29.add 15) h28 fun (v30 : Int) =>
  nn q1 fun (a31 : Addr) =>
  ld [.int .u64] (a31.add 16) h28 fun (v32 : Int) =>
  jn [] (fun  (h42 : Heap) =>
  nn q1 fun (a43 : Addr) =>
  ld [.sl] (a43.add 17) h42 fun (v44 : Sl) =>
  f60_ q1 v44 h42 fun (r45 : Sl) (h46 : Heap) =>
  f59_ q1 6 r45 span2 h46 fun (r47 : Sl) (h48 : Heap) =>
  app 61 22 208 (.agg #[.int .i64 0, .int .i64 0, .int .i64 0, .int .i64 0, .int .u64 0, .int .u64 0, .int .u64 0, .int .u64 0, .int .i64 0, .int .u64 0, .slice none 0 0, .int .i64 0, .int .u64 0, .string (⟨#[]⟩ : ByteArray), .string (⟨#[]⟩ : ByteArray), .int .u64 0, .int .u64 0, .int .u64 0, .int .i64 0, .int .i64 0, .int .i64 0, .int .i64 0]) l25 r47.ptr r47.len h48 fun (s49 : Sl) (h50 : Heap) =>
  Q s49 h50) (fun (j33 : Heap → Prop) =>
  brr (v30 == v32)
  (nn q1 fun (a34 : Addr) =>
  ld [.int .u64] (a34.add 15) h28 fun (v35 : Int) =>
  brr (decide (v35 ≥ 1099511627776))
  (Q l25 h28)
  (nn q1 fun (a36 : Addr) =>
  ld [.int .u64] (a36.add 15) h28 fun (v37 : Int) =>
  nn q1 fun (a38 : Addr) =>
  st (a38.add 15) [.int .u64 (IntKind.u64.wrap (v37 + 1))] h28 fun (h39 : Heap) =>
  nn q1 fun (a40 : Addr) =>
  st (a40.add 17) [.slice none 0 0] h39 fun (h41 : Heap) =>
  j33 h41))
  (j33 h28)))) (fun (j18 : Sl → Heap → Prop) =>
  brr (v17 == 2)
  (nn q1 fun (a19 : Addr) =>
  ld [.sl] (a19.add 9) h15 fun (v20 : Sl) =>
  f60_ q1 v20 h15 fun (r21 : Sl) (h22 : Heap) =>
  f59_ q1 4 r21 span2 h22 fun (r23 : Sl) (h24 : Heap) =>
  j18 r23 h24)
  (j18 l14 h15))) (fun (j5 : Sl → Heap → Prop) =>
  brr (v4 == 1)
  (nn q1 fun (a6 : Addr) =>
  ld [.int .i64] (a6.add 0) h fun (v7 : Int) =>
  al 3 [.int .i64 v7] h fun (a8 : Addr) (h9 : Heap) =>
  f60_ q1 ⟨(some a8), 1, 1⟩ h9 fun (r10 : Sl) (h11 : Heap) =>
  f59_ q1 1 r10 span2 h11 fun (r12 : Sl) (h13 : Heap) =>
  j5 r12 h13)
  (j5 (⟨none, 0, 0⟩ : Sl) h))
def F_ref10_Quorum_Tick (q1 : Option Addr) (span2 : Int) (h : Heap) (Q : Sl → Heap → Prop) : Prop := F_ref10_Quorum_Tick_of F_ref10_Quorum_Holds F_ref10_Quorum_to F_ref10_Quorum_without q1 span2 h Q
def plan36 : Plan := .s (.r [0, 1]) (.s (.r [0, 1, 5]) (.s (.s (.r [0, 1, 5, 10]) (.cj [(5, .one .sl)] [0, 1] (.r [0, 1, 5]) .z)) (.s (.s (.r [0, 1, 5, 25]) (.cj [(5, .one .sl)] [0, 1] (.r [0, 1, 5]) .z)) (.s (.s (.r [0, 1, 5, 37]) (.c (.s (.r [4]) .z) .z)) (.s (.s (.d [0, 1, 3, 7, 0, 16, 48, 112, 255] [[0, 1, 2, 3, 4, 5, 6, 7, 8]] [0, 1, 5, 47]) (.cj [] [0, 1, 5] (.s (.s (.r [0, 1, 5, 52]) (.c (.s (.r [4]) .z) .z)) (.s (.r [0, 1, 5]) (.r [0, 1, 5]))) .z)) (.s (.r [4]) .z))))))
theorem F_ref10_Quorum_Tick.eq (f22_ : Option Addr → Heap → (Bool → Heap → Prop) → Prop) (f59_ : Option Addr → Int → Sl → Int → Heap → (Sl → Heap → Prop) → Prop) (f60_ : Option Addr → Sl → Heap → (Sl → Heap → Prop) → Prop) (q1 : Option Addr) (span2 : Int) (h : Heap) (K : Value → Heap → Prop) : F_ref10_Quorum_Tick_of f22_ f59_ f60_ q1 span2 h (fun (r0 : Sl) (h : Heap) => K (.slice r0.ptr r0.len r0.cap) h) =
    den Tryz.prog (fn1 22 (E_ref10_Quorum_Holds_of f22_) (fn1 59 (E_ref10_Quorum_to_of f59_) (fn1 60 (E_ref10_Quorum_without_of f60_) noFns))) Tryz.f36.ntmps plan36 (bodyOf Tryz.f36) (args0 0 [(.pointer q1 : Value), (.int .i64 span2 : Value)]) h ⟨fun env h => dRes Tryz.prog Tryz.f36.results.toList env h K, fun _ _ _ => False, fun env h => dRes Tryz.prog Tryz.f36.results.toList env h K⟩ := by kernel_rfl
def E_ref10_Quorum_Tick_of (f : Option Addr → Int → Heap → (Sl → Heap → Prop) → Prop) : List Value → Heap → (Value → Heap → Prop) → Prop
  | [v0, v1], h, K => dec1 .ptr v0 fun (q1 : Option Addr) =>
  dec1 (.int .i64) v1 fun (span2 : Int) =>
  f q1 span2 h (fun (r0 : Sl) (h : Heap) => K (.slice r0.ptr r0.len r0.cap) h)
  | _, _, _ => False
abbrev E_ref10_Quorum_Tick := E_ref10_Quorum_Tick_of F_ref10_Quorum_Tick
theorem E_ref10_Quorum_Tick.right : IsRight Tryz.prog 36 E_ref10_Quorum_Tick := by
  refine isRight fun vs K w hh => ?_
  match vs, hh with
  | [v0, v1], hh =>
    unfold E_ref10_Quorum_Tick E_ref10_Quorum_Tick_of at hh
    replace hh := dec1_sound hh; obtain ⟨q1, rfl, hh⟩ := hh
    replace hh := dec1_sound hh; obtain ⟨span2, rfl, hh⟩ := hh
    unfold F_ref10_Quorum_Tick at hh
    exact calls_den (fn1_right ok22 E_ref10_Quorum_Holds.right (fn1_right ok59 E_ref10_Quorum_to.right (fn1_right ok60 E_ref10_Quorum_without.right noFns_right))) plan36 _ w K Tryz.func36 (by kernel_rfl) (by kernel_rfl) (Eq.mp (F_ref10_Quorum_Tick.eq F_ref10_Quorum_Holds F_ref10_Quorum_to F_ref10_Quorum_without q1 span2 w.heap K) hh)
theorem ok36 : okFn Tryz.prog 36 = true := by kernel_rfl
end Go.Proofs.YtigcpkejjjgkeaaGreat.V
namespace Go.Proofs.YtigcpkejjjgkeaaGreat.V
open Go Go.RowKit
set_option linter.unusedVariables false
set_option maxRecDepth 100000
def F_ref10_Quorum_Propose_of (f57_ : Option Addr → Int → Sl → Int → Heap → (Sl → Heap → Prop) → Prop) (q1 : Option Addr) (value2 : Sl) (span3 : Int) (h : Heap) (Q : Sl → Bool → Heap → Prop) : Prop :=
  jn [(20, .one .bool)] (fun (x9 : Bool) (h10 : Heap) =>
  brr x9
  (Q (⟨none, 0, 0⟩ : Sl) false h10)
  (nn q1 fun (a11 : Addr) =>
  ld [.int .u64] ((a11.add 12).add 1) h10 fun (v12 : Int) =>
  f57_ q1 (IntKind.u64.wrap (v12 + 1)) value2 span3 h10 fun (r13 : Sl) (h14 : Heap) =>
  Q r13 true h14)) (fun (j4 : Bool → Heap → Prop) =>
  nn q1 fun (a5 : Addr) =>
  ld [.int .i64] (a5.add 3) h fun (v6 : Int) =>
  brr (v6 != 3)
  (j4 true h)
  (nn q1 fun (a7 : Addr) =>
  ld [.int .u64] ((a7.add 12).add 1) h fun (v8 : Int) =>
  j4 (decide (v8 ≥ 1099511627776)) h))
def F_ref10_Quorum_Propose (q1 : Option Addr) (value2 : Sl) (span3 : Int) (h : Heap) (Q : Sl → Bool → Heap → Prop) : Prop := F_ref10_Quorum_Propose_of F_ref10_Quorum_writes q1 value2 span3 h Q
def plan34 : Plan := .s (.r [0, 1, 2]) (.s (.s (.rj [(20, .one .bool)] [0, 1, 2]) (.c (.s (.r [6, 7]) .z) .z)) (.s (.r [6, 7]) .z))
theorem F_ref10_Quorum_Propose.eq (f57_ : Option Addr → Int → Sl → Int → Heap → (Sl → Heap → Prop) → Prop) (q1 : Option Addr) (value2 : Sl) (span3 : Int) (h : Heap) (K : Value → Heap → Prop) : F_ref10_Quorum_Propose_of f57_ q1 value2 span3 h (fun (r0 : Sl) (r1 : Bool) (h : Heap) => K (.tuple #[.slice r0.ptr r0.len r0.cap, .bool r1]) h) =
    den Tryz.prog (fn1 57 (E_ref10_Quorum_writes_of f57_) noFns) Tryz.f34.ntmps plan34 (bodyOf Tryz.f34) (args0 0 [(.pointer q1 : Value), (.slice value2.ptr value2.len value2.cap : Value), (.int .i64 span3 : Value)]) h ⟨fun env h => dRes Tryz.prog Tryz.f34.results.toList env h K, fun _ _ _ => False, fun env h => dRes Tryz.prog Tryz.f34.results.toList env h K⟩ := by kernel_rfl
def E_ref10_Quorum_Propose_of (f : Option Addr → Sl → Int → Heap → (Sl → Bool → Heap → Prop) → Prop) : List Value → Heap → (Value → Heap → Prop) → Prop
  | [v0, v1, v2], h, K => dec1 .ptr v0 fun (q1 : Option Addr) =>
  dec1 .sl v1 fun (value2 : Sl) =>
  dec1 (.int .i64) v2 fun (span3 : Int) =>
  f q1 value2 span3 h (fun (r0 : Sl) (r1 : Bool) (h : Heap) => K (.tuple #[.slice r0.ptr r0.len r0.cap, .bool r1]) h)
  | _, _, _ => False
abbrev E_ref10_Quorum_Propose := E_ref10_Quorum_Propose_of F_ref10_Quorum_Propose
theorem E_ref10_Quorum_Propose.right : IsRight Tryz.prog 34 E_ref10_Quorum_Propose := by
  refine isRight fun vs K w hh => ?_
  match vs, hh with
  | [v0, v1, v2], hh =>
    unfold E_ref10_Quorum_Propose E_ref10_Quorum_Propose_of at hh
    replace hh := dec1_sound hh; obtain ⟨q1, rfl, hh⟩ := hh
    replace hh := dec1_sound hh; obtain ⟨value2, rfl, hh⟩ := hh
    replace hh := dec1_sound hh; obtain ⟨span3, rfl, hh⟩ := hh
    unfold F_ref10_Quorum_Propose at hh
    exact calls_den (fn1_right ok57 E_ref10_Quorum_writes.right noFns_right) plan34 _ w K Tryz.func34 (by kernel_rfl) (by kernel_rfl) (Eq.mp (F_ref10_Quorum_Propose.eq F_ref10_Quorum_writes q1 value2 span3 w.heap K) hh)
theorem ok34 : okFn Tryz.prog 34 = true := by kernel_rfl
end Go.Proofs.YtigcpkejjjgkeaaGreat.V
/- The document's quorum: what it holds; its small functions. -/
namespace Go.Proofs.YtigcpkejjjgkeaaGreat.V
open Go Go.RowKit
set_option linter.unusedVariables false
set_option linter.unusedSimpArgs false

structure PM where
  frm : Int
  te : Int
  ts : Int
  v : Sl
  b : List UInt8
def pmC (x : PM) : List Value := [.int .i64 x.frm, .int .u64 x.te, .int .u64 x.ts, .slice x.v.ptr x.v.len x.v.cap]
theorem pmC_len (x : PM) : (pmC x).length = 4 := rfl
theorem pmC_one (x : PM) : (pmC x).all oneV = true := rfl
def best1 (k : PM) : List PM → PM
  | [] => k
  | x :: xs => best1 (if tagLt k.te k.ts x.te x.ts then x else k) xs
theorem best1_snoc {y : PM} : ∀ {xs : List PM} {k : PM}, best1 k (xs ++ [y]) = if tagLt (best1 k xs).te (best1 k xs).ts y.te y.ts then y else best1 k xs
  | [], k => rfl
  | x :: xs, k => best1_snoc (xs := xs)
structure RA where
  sc : Sl
  sp : Sl
  sv : Sl
  sw : Sl
  sr : Sl
  sh : Sl
  sb : Sl
  ps : List PM
  any : Bool
abbrev rcL (q : QS) (a : RA) : List Value := [.int .i64 q.node, .int .i64 q.shard, .slice a.sc.ptr a.sc.len a.sc.cap, .int .i64 q.phase, .int .u64 q.epoch, .slice a.sp.ptr a.sp.len a.sp.cap, .int .u64 q.tag.1, .int .u64 q.tag.2, .slice a.sv.ptr a.sv.len a.sv.cap, .slice a.sw.ptr a.sw.len a.sw.cap, .slice a.sr.ptr a.sr.len a.sr.cap, .bool a.any, .int .u64 q.chosen.1, .int .u64 q.chosen.2, .slice a.sh.ptr a.sh.len a.sh.cap, .int .u64 q.begun, .int .u64 q.done, .slice a.sb.ptr a.sb.len a.sb.cap, .int .u64 q.seen]
def refVal (q : QS) : List UInt8 := if q.phase = 1 then [] else q.val
def refP (q : QS) (a : RA) : List PE := (a.sv, refVal q) :: (a.sh, q.what) :: a.ps.map fun x => (x.v, x.b)
def pend (q : QS) (ps : List PM) : Prop := ps.map PM.frm = q.pm ∧ (q.phase = 1 → ∃ x xs, ps = x :: xs ∧ (best1 x xs).te = q.best.1 ∧ (best1 x xs).ts = q.best.2 ∧ (best1 x xs).b = q.val)
def rfR (r : Nat) (q : QS) : Res := ex fun a : RA => pr (pend q a.ps) (star [own r [.int .i64 q.node, .int .i64 q.shard, .slice a.sc.ptr a.sc.len a.sc.cap, .int .i64 q.phase, .int .u64 q.epoch, .slice a.sp.ptr a.sp.len a.sp.cap, .int .u64 q.tag.1, .int .u64 q.tag.2, .slice a.sv.ptr a.sv.len a.sv.cap, .slice a.sw.ptr a.sw.len a.sw.cap, .slice a.sr.ptr a.sr.len a.sr.cap, .bool a.any, .int .u64 q.chosen.1, .int .u64 q.chosen.2, .slice a.sh.ptr a.sh.len a.sh.cap, .int .u64 q.begun, .int .u64 q.done, .slice a.sb.ptr a.sb.len a.sb.cap, .int .u64 q.seen], buf 1 i64c a.sc q.cop, buf 4 pmC a.sp a.ps, buf 1 i64c a.sw q.wr, buf 1 i64c a.sr q.rf, buf 1 i64c a.sb q.bt, poolR (refP q a)])
section
variable {h0 h : Heap} {L : List Res} {r : Nat} {q : QS} {m : Mg} {a : RA}
theorem Sat.starI {Rs : List Res} (O : Sat h0 h (Rs ++ L)) : Sat h0 h (star Rs :: L) := by
  induction Rs generalizing L with
  | nil => exact O.empI
  | cons A Rs ih =>
    have O2 : Sat h0 h (Rs ++ A :: L) := O.permL List.perm_middle.symm
    exact ((ih O2).swap).sepI
theorem Sat.rf (O : Sat h0 h (rfR r q :: L)) : ∃ a : RA, pend q a.ps ∧ Sat h0 h (own r [.int .i64 q.node, .int .i64 q.shard, .slice a.sc.ptr a.sc.len a.sc.cap, .int .i64 q.phase, .int .u64 q.epoch, .slice a.sp.ptr a.sp.len a.sp.cap, .int .u64 q.tag.1, .int .u64 q.tag.2, .slice a.sv.ptr a.sv.len a.sv.cap, .slice a.sw.ptr a.sw.len a.sw.cap, .slice a.sr.ptr a.sr.len a.sr.cap, .bool a.any, .int .u64 q.chosen.1, .int .u64 q.chosen.2, .slice a.sh.ptr a.sh.len a.sh.cap, .int .u64 q.begun, .int .u64 q.done, .slice a.sb.ptr a.sb.len a.sb.cap, .int .u64 q.seen] :: buf 1 i64c a.sc q.cop :: buf 4 pmC a.sp a.ps :: buf 1 i64c a.sw q.wr :: buf 1 i64c a.sr q.rf :: buf 1 i64c a.sb q.bt :: poolR (refP q a) :: L) := by
  obtain ⟨a, O⟩ := O.ex
  obtain ⟨e, O⟩ := O.pr
  exact ⟨a, e, O.starE⟩
theorem Sat.rfI (q : QS) (a : RA) (e : pend q a.ps) (O : Sat h0 h (own r [.int .i64 q.node, .int .i64 q.shard, .slice a.sc.ptr a.sc.len a.sc.cap, .int .i64 q.phase, .int .u64 q.epoch, .slice a.sp.ptr a.sp.len a.sp.cap, .int .u64 q.tag.1, .int .u64 q.tag.2, .slice a.sv.ptr a.sv.len a.sv.cap, .slice a.sw.ptr a.sw.len a.sw.cap, .slice a.sr.ptr a.sr.len a.sr.cap, .bool a.any, .int .u64 q.chosen.1, .int .u64 q.chosen.2, .slice a.sh.ptr a.sh.len a.sh.cap, .int .u64 q.begun, .int .u64 q.done, .slice a.sb.ptr a.sb.len a.sb.cap, .int .u64 q.seen] :: buf 1 i64c a.sc q.cop :: buf 4 pmC a.sp a.ps :: buf 1 i64c a.sw q.wr :: buf 1 i64c a.sr q.rf :: buf 1 i64c a.sb q.bt :: poolR (refP q a) :: L)) : Sat h0 h (rfR r q :: L) := by
  refine Sat.exI a (Sat.prI e ?_)
  exact Sat.starI (Rs := [own r [.int .i64 q.node, .int .i64 q.shard, .slice a.sc.ptr a.sc.len a.sc.cap, .int .i64 q.phase, .int .u64 q.epoch, .slice a.sp.ptr a.sp.len a.sp.cap, .int .u64 q.tag.1, .int .u64 q.tag.2, .slice a.sv.ptr a.sv.len a.sv.cap, .slice a.sw.ptr a.sw.len a.sw.cap, .slice a.sr.ptr a.sr.len a.sr.cap, .bool a.any, .int .u64 q.chosen.1, .int .u64 q.chosen.2, .slice a.sh.ptr a.sh.len a.sh.cap, .int .u64 q.begun, .int .u64 q.done, .slice a.sb.ptr a.sb.len a.sb.cap, .int .u64 q.seen], buf 1 i64c a.sc q.cop, buf 4 pmC a.sp a.ps, buf 1 i64c a.sw q.wr, buf 1 i64c a.sr q.rf, buf 1 i64c a.sb q.bt, poolR (refP q a)]) O
theorem F_ref10_in.is {s : Sl} {xs : List Int} {n : Int} {Q : Bool → Heap → Prop} (V : View h 1 (En i64c) s xs) (hl : xs.length ≤ 1000000) (k : Q (decide (n ∈ xs)) h) : F_ref10_in s n h Q := by
  rw [F_ref10_in.eq_1, F_ref10_in_of.eq_1]
  refine jn0 (fun h' => h' = h ∧ n ∉ xs) ?_ ?_
  · rintro h2 ⟨rfl, hn⟩
    rw [show decide (n ∈ xs) = false from decide_eq_false hn] at k
    exact k
  · intro j hj
    rw [F_ref10_in.l1.eq_1]
    refine wl1 (k := .int .i64) (fun (m : Nat) (i : Int) (h' : Heap) => h' = h ∧ i + m = xs.length ∧ 0 ≤ i ∧ (∀ j : Nat, (j : Int) < i → xs[j]? ≠ some n)) ?_ (m := xs.length) ⟨rfl, by omega, by omega, fun j hj => by omega⟩
    rintro m (i : Int) h2 next hnx ⟨rfl, him, hi0, hall⟩
    rw [V.len]
    refine brr_p (fun hlt => ?_) (fun hlt => hj _ ⟨rfl, fun hm => ?_⟩)
    · obtain ⟨x, hx⟩ : ∃ x, xs[i.toNat]? = some x := ⟨_, List.getElem?_eq_getElem (by omega)⟩
      refine V.i6 hi0 hx ?_
      refine brr_eq (fun hq => ?_) (fun hq => ?_)
      · have hm : n ∈ xs := by rw [← hq]; exact List.mem_of_getElem? hx
        rw [show decide (n ∈ xs) = true from decide_eq_true hm] at k
        exact k
      · rw [wrap64 (by omega) (by omega)]
        refine hnx (m - 1) _ _ (by omega) ⟨rfl, by omega, by omega, fun j hj => ?_⟩
        by_cases q : (j : Int) < i
        · exact hall j q
        · rw [show j = i.toNat by omega, hx]
          intro e
          cases e
          exact hq rfl
    · obtain ⟨j, hj2⟩ := List.getElem?_of_mem hm
      have := (List.getElem?_eq_some_iff.1 hj2).1
      exact hall j (by omega) hj2
theorem F_ref10_Quorum_many.is {n nd sh : Int} {sc : Sl} {cop : List Int} {C : List Value} {Q : Bool → Heap → Prop} (hn : 0 ≤ n) (hn2 : n ≤ 4000000) (ec : q.cop = cop) (ok : cop.length ≤ 1000000) (O : Sat h0 h (own r (.int .i64 nd :: .int .i64 sh :: .slice sc.ptr sc.len sc.cap :: C) :: buf 1 i64c sc cop :: L)) (k : Q (q.most n) h) : F_ref10_Quorum_many (some (pt r 0)) n h Q := by
  rw [F_ref10_Quorum_many.eq_1, F_ref10_Quorum_many_of.eq_1]
  refine ⟨_, rfl, ?_⟩
  refine O.ld 0 rfl (ldL_c (k := .sl) (x := sc) (ldL_n ?_))
  rw [(O.view 1 i64c_len (by simp) rfl).1.len, wrap64 (by omega) (by omega)]
  have e : decide (2 * n > (cop.length : Int)) = q.most n := by
    unfold QS.most
    rw [ec]
    exact decide_eq_decide.2 (by omega)
  rw [e]
  exact k
theorem F_ref10_Quorum_Holds.is {Q : Bool → Heap → Prop} (O : Sat h0 h (own r [.int .i64 q.node, .int .i64 q.shard, .slice a.sc.ptr a.sc.len a.sc.cap, .int .i64 q.phase, .int .u64 q.epoch, .slice a.sp.ptr a.sp.len a.sp.cap, .int .u64 q.tag.1, .int .u64 q.tag.2, .slice a.sv.ptr a.sv.len a.sv.cap, .slice a.sw.ptr a.sw.len a.sw.cap, .slice a.sr.ptr a.sr.len a.sr.cap, .bool a.any, .int .u64 q.chosen.1, .int .u64 q.chosen.2, .slice a.sh.ptr a.sh.len a.sh.cap, .int .u64 q.begun, .int .u64 q.done, .slice a.sb.ptr a.sb.len a.sb.cap, .int .u64 q.seen] :: L)) (k : Q q.holds h) : F_ref10_Quorum_Holds (some (pt r 0)) h Q := by
  rw [F_ref10_Quorum_Holds.eq_1, F_ref10_Quorum_Holds_of.eq_1]
  refine jn1 (fun z h' => h' = h ∧ z = q.holds) (fun z h' e => by obtain ⟨rfl, rfl⟩ := e; exact k) fun j hj => ?_
  refine ⟨_, rfl, ?_⟩
  refine O.ld 0 rfl (ldL_c (ldL_n ?_))
  refine brr_eq (fun h3 => hj _ _ ⟨rfl, by simp [QS.holds, h3]⟩) (fun h3 => ?_)
  refine ⟨_, rfl, ?_⟩
  refine O.ld 0 rfl (ldL_c (ldL_n ?_))
  refine brr_eq (fun h2 => ?_) (fun h2 => hj _ _ ⟨rfl, by simp [QS.holds, h3, h2]⟩)
  refine ⟨_, rfl, ?_⟩
  refine O.ld 0 rfl (ldL_c (ldL_n ?_))
  refine hj _ _ ⟨rfl, ?_⟩
  simp only [QS.holds, h2]
  simp
theorem F_ref10_Quorum_without.is {nd sh : Int} {sc l : Sl} {cop xs : List Int} {C : List Value} {Q : Sl → Heap → Prop} (hc : cop.length ≤ 1000000) (hx : xs.length ≤ 1000000) (O : Sat h0 h (own r (.int .i64 nd :: .int .i64 sh :: .slice sc.ptr sc.len sc.cap :: C) :: buf 1 i64c sc cop :: L)) (V : Stays h0 L fun h => View h 1 (En i64c) l xs)
    (k : ∀ s h', Sat h0 h' (buf 1 i64c s (cop.filter fun c => !decide (c ∈ xs)) :: own r (.int .i64 nd :: .int .i64 sh :: .slice sc.ptr sc.len sc.cap :: C) :: buf 1 i64c sc cop :: L) → Q s h') : F_ref10_Quorum_without (some (pt r 0)) l h Q := by
  rw [F_ref10_Quorum_without.eq_1, F_ref10_Quorum_without_of.eq_1]
  refine jn1 (fun s h' => Sat h0 h' (buf 1 i64c s (cop.filter fun c => !decide (c ∈ xs)) :: own r (.int .i64 nd :: .int .i64 sh :: .slice sc.ptr sc.len sc.cap :: C) :: buf 1 i64c sc cop :: L)) (fun s h O => k s h O) fun j hj => ?_
  rw [F_ref10_Quorum_without.l1.eq_1]
  refine wl2 (k := .sl) (l := .int .i64) (fun (m : Nat) (s : Sl) (i : Int) (h' : Heap) => i + m = cop.length ∧ 0 ≤ i ∧ Sat h0 h' (buf 1 i64c s ((cop.take i.toNat).filter fun c => !decide (c ∈ xs)) :: own r (.int .i64 nd :: .int .i64 sh :: .slice sc.ptr sc.len sc.cap :: C) :: buf 1 i64c sc cop :: L)) ?_ (m := cop.length) ⟨by omega, by omega, O.nil_buf⟩
  clear O
  rintro m (s : Sl) (i : Int) h next hnx ⟨him, hi0, O⟩
  have V1 := (O.view 2 i64c_len (by simp) rfl).1
  refine ⟨_, rfl, ?_⟩
  refine O.ld 1 rfl (ldL_c (k := .sl) (x := sc) (ldL_n ?_))
  rw [V1.len]
  refine brr_p (fun hlt => ?_) (fun hlt => hj _ _ (by rw [List.take_of_length_le (by omega)] at O; exact O))
  obtain ⟨c, hcx⟩ : ∃ c, cop[i.toNat]? = some c := ⟨_, List.getElem?_eq_getElem (by omega)⟩
  have ft := filt_take (f := fun c => !decide (c ∈ xs)) hcx
  rw [show i.toNat + 1 = (i + 1).toNat by omega] at ft
  have hle : ((cop.take i.toNat).filter fun c => !decide (c ∈ xs)).length ≤ 1000000 := Nat.le_trans (List.length_filter_le _ _) (by rw [List.length_take]; omega)
  refine ⟨_, rfl, ?_⟩
  refine O.ld 1 rfl (ldL_c (k := .sl) (x := sc) (ldL_n ?_))
  refine V1.i6 hi0 hcx ?_
  refine F_ref10_in.is (V h O.drop.drop.drop) hx ?_
  refine jn1 (fun s h' => Sat h0 h' (buf 1 i64c s ((cop.take (i + 1).toNat).filter fun c => !decide (c ∈ xs)) :: own r (.int .i64 nd :: .int .i64 sh :: .slice sc.ptr sc.len sc.cap :: C) :: buf 1 i64c sc cop :: L)) ?_ ?_
  · clear O V1
    intro s h O
    rw [wrap64 (by omega) (by omega)]
    exact hnx (m - 1) _ _ _ (by omega) ⟨by omega, by omega, O⟩
  intro j2 hj2
  rw [ft] at hj2
  by_cases hm : c ∈ xs
  · refine brr_ff (by simp [hm]) (hj2 _ _ ?_)
    simpa [hm] using O
  · refine brr_tt (by simp [hm]) ?_
    refine ⟨_, rfl, ?_⟩
    refine O.ld 1 rfl (ldL_c (k := .sl) (x := sc) (ldL_n ?_))
    refine V1.i6 hi0 hcx ?_
    refine Sat.push_buf (enc := i64c) O c rfl i64c_len i64c_one rfl (by omega) fun s2 h O _ => hj2 _ _ ?_
    simpa [hm] using O
def toMg (q : QS) (kind span c : Int) : Mg := { (if kind = 1 then { mgz with kind := 1, epoch := q.epoch } else if kind = 4 then { mgz with kind := 4, te := q.tag.1, ts := q.tag.2, span := span, b := refVal q } else { mgz with kind := 6, epoch := q.epoch, round := q.begun, span := span } : Mg) with frm := q.node, to := c, shard := q.shard }
theorem F_ref10_Quorum_to.is {kind span : Int} {l : Sl} {xs : List Int} {Q : Sl → Heap → Prop} (hk : kind = 1 ∨ kind = 4 ∨ kind = 6) (hx : xs.length ≤ 1000000) (hv : (refVal q).length ≤ (140737488355325 : Nat)) (O : Sat h0 h (own r [.int .i64 q.node, .int .i64 q.shard, .slice a.sc.ptr a.sc.len a.sc.cap, .int .i64 q.phase, .int .u64 q.epoch, .slice a.sp.ptr a.sp.len a.sp.cap, .int .u64 q.tag.1, .int .u64 q.tag.2, .slice a.sv.ptr a.sv.len a.sv.cap, .slice a.sw.ptr a.sw.len a.sw.cap, .slice a.sr.ptr a.sr.len a.sr.cap, .bool a.any, .int .u64 q.chosen.1, .int .u64 q.chosen.2, .slice a.sh.ptr a.sh.len a.sh.cap, .int .u64 q.begun, .int .u64 q.done, .slice a.sb.ptr a.sb.len a.sb.cap, .int .u64 q.seen] :: L)) (Vl : Stays h0 L fun h => View h 1 (En i64c) l xs) (VV : Stays h0 L fun h => Bytes h a.sv (refVal q))
    (k : ∀ s h', Sat h0 h' (msgsR s (xs.map fun c => toMg q kind span c) :: own r [.int .i64 q.node, .int .i64 q.shard, .slice a.sc.ptr a.sc.len a.sc.cap, .int .i64 q.phase, .int .u64 q.epoch, .slice a.sp.ptr a.sp.len a.sp.cap, .int .u64 q.tag.1, .int .u64 q.tag.2, .slice a.sv.ptr a.sv.len a.sv.cap, .slice a.sw.ptr a.sw.len a.sw.cap, .slice a.sr.ptr a.sr.len a.sr.cap, .bool a.any, .int .u64 q.chosen.1, .int .u64 q.chosen.2, .slice a.sh.ptr a.sh.len a.sh.cap, .int .u64 q.begun, .int .u64 q.done, .slice a.sb.ptr a.sb.len a.sb.cap, .int .u64 q.seen] :: L) → Q s h') : F_ref10_Quorum_to (some (pt r 0)) kind l span h Q := by
  rw [F_ref10_Quorum_to.eq_1, F_ref10_Quorum_to_of.eq_1]
  refine jn1 (fun s h' => Sat h0 h' (msgsR s (xs.map fun c => toMg q kind span c) :: own r [.int .i64 q.node, .int .i64 q.shard, .slice a.sc.ptr a.sc.len a.sc.cap, .int .i64 q.phase, .int .u64 q.epoch, .slice a.sp.ptr a.sp.len a.sp.cap, .int .u64 q.tag.1, .int .u64 q.tag.2, .slice a.sv.ptr a.sv.len a.sv.cap, .slice a.sw.ptr a.sw.len a.sw.cap, .slice a.sr.ptr a.sr.len a.sr.cap, .bool a.any, .int .u64 q.chosen.1, .int .u64 q.chosen.2, .slice a.sh.ptr a.sh.len a.sh.cap, .int .u64 q.begun, .int .u64 q.done, .slice a.sb.ptr a.sb.len a.sb.cap, .int .u64 q.seen] :: L)) (fun s h O => k s h O) fun j hj => ?_
  rw [F_ref10_Quorum_to.l1.eq_1]
  refine wl2 (k := .sl) (l := .int .i64) (fun (m : Nat) (s : Sl) (i : Int) (h' : Heap) => i + m = xs.length ∧ 0 ≤ i ∧ ∃ ls : List Mg, ls.map Mg.bare = (xs.take i.toNat).map (fun c => toMg q kind span c) ∧ Sat h0 h' (buf 22 mgC s ls :: many mvR ls :: own r [.int .i64 q.node, .int .i64 q.shard, .slice a.sc.ptr a.sc.len a.sc.cap, .int .i64 q.phase, .int .u64 q.epoch, .slice a.sp.ptr a.sp.len a.sp.cap, .int .u64 q.tag.1, .int .u64 q.tag.2, .slice a.sv.ptr a.sv.len a.sv.cap, .slice a.sw.ptr a.sw.len a.sw.cap, .slice a.sr.ptr a.sr.len a.sr.cap, .bool a.any, .int .u64 q.chosen.1, .int .u64 q.chosen.2, .slice a.sh.ptr a.sh.len a.sh.cap, .int .u64 q.begun, .int .u64 q.done, .slice a.sb.ptr a.sb.len a.sb.cap, .int .u64 q.seen] :: L)) ?_ (m := xs.length) ⟨by omega, by omega, [], by simp, by
    exact (O.none (f := mvR)).nil_buf (sz := 22) (enc := mgC)⟩
  clear O
  rintro m (s : Sl) (i : Int) h next hnx ⟨him, hi0, ls, hls, O⟩
  have V1 := Vl h O.drop.drop.drop
  rw [V1.len]
  have hll : ls.length ≤ 1000000 := by
    have := congrArg List.length hls
    simp only [List.length_map, List.length_take] at this
    omega
  refine brr_p (fun hlt => ?_) (fun hlt => hj _ _ (by rw [List.take_of_length_le (by omega)] at hls; exact Sat.msgsI hls O))
  obtain ⟨c, hcx⟩ : ∃ c, xs[i.toNat]? = some c := ⟨_, List.getElem?_eq_getElem (by omega)⟩
  refine ⟨_, rfl, ?_⟩
  refine O.ld 2 rfl (ldL_c (ldL_n ?_))
  refine V1.getP hi0 hcx fun a12 ha => ld_are (ha V1) (ldL_c (ldL_n ?_))
  refine ⟨_, rfl, ?_⟩
  refine O.ld 2 rfl (ldL_c (ldL_n ?_))
  refine O.al fun a16 h O => ?_
  refine O.ca 3 1 rfl ?_
  refine ⟨ha (Vl h O.drop.drop.drop.drop), ?_⟩
  refine O.ca 3 1 rfl ?_
  refine O.st 0 rfl (by simp) rfl fun h O => ?_
  dsimp only [V.put, List.set] at O
  refine jn0 (fun h' => ∃ y : Mg, y.bare = toMg q kind span c ∧ Sat h0 h' (mvR y :: own a16 (mgC y) :: buf 22 mgC s ls :: many mvR ls :: own r [.int .i64 q.node, .int .i64 q.shard, .slice a.sc.ptr a.sc.len a.sc.cap, .int .i64 q.phase, .int .u64 q.epoch, .slice a.sp.ptr a.sp.len a.sp.cap, .int .u64 q.tag.1, .int .u64 q.tag.2, .slice a.sv.ptr a.sv.len a.sv.cap, .slice a.sw.ptr a.sw.len a.sw.cap, .slice a.sr.ptr a.sr.len a.sr.cap, .bool a.any, .int .u64 q.chosen.1, .int .u64 q.chosen.2, .slice a.sh.ptr a.sh.len a.sh.cap, .int .u64 q.begun, .int .u64 q.done, .slice a.sb.ptr a.sb.len a.sb.cap, .int .u64 q.seen] :: L)) ?_ ?_
  · clear O V1
    rintro h ⟨y, hy, O⟩
    refine O.ld 1 rfl ?_
    unfold mgC
    repeat (first | (with_reducible refine ldL_n ?_) | refine ldL_s ?_ | refine ldL_c ?_)
    have O2 : Sat h0 h (buf 22 mgC s ls :: mvR y :: many mvR ls :: own r [.int .i64 q.node, .int .i64 q.shard, .slice a.sc.ptr a.sc.len a.sc.cap, .int .i64 q.phase, .int .u64 q.epoch, .slice a.sp.ptr a.sp.len a.sp.cap, .int .u64 q.tag.1, .int .u64 q.tag.2, .slice a.sv.ptr a.sv.len a.sv.cap, .slice a.sw.ptr a.sw.len a.sw.cap, .slice a.sr.ptr a.sr.len a.sr.cap, .bool a.any, .int .u64 q.chosen.1, .int .u64 q.chosen.2, .slice a.sh.ptr a.sh.len a.sh.cap, .int .u64 q.begun, .int .u64 q.done, .slice a.sb.ptr a.sb.len a.sb.cap, .int .u64 q.seen] :: L) := O.sel [2, 0, 3, 4] 5 rfl (Nat.le_add_left _ _)
    refine Sat.push_buf (enc := mgC) O2 y rfl mgC_len mgC_one (by simp [Value.cells]) (by omega) fun s2 h O _ => ?_
    have O2 : Sat h0 h (mvR y :: many mvR ls :: buf 22 mgC s2 (ls ++ [y]) :: own r [.int .i64 q.node, .int .i64 q.shard, .slice a.sc.ptr a.sc.len a.sc.cap, .int .i64 q.phase, .int .u64 q.epoch, .slice a.sp.ptr a.sp.len a.sp.cap, .int .u64 q.tag.1, .int .u64 q.tag.2, .slice a.sv.ptr a.sv.len a.sv.cap, .slice a.sw.ptr a.sw.len a.sw.cap, .slice a.sr.ptr a.sr.len a.sr.cap, .bool a.any, .int .u64 q.chosen.1, .int .u64 q.chosen.2, .slice a.sh.ptr a.sh.len a.sh.cap, .int .u64 q.begun, .int .u64 q.done, .slice a.sb.ptr a.sb.len a.sb.cap, .int .u64 q.seen] :: L) := O.sel [1, 2, 0, 3] 4 rfl (Nat.le_add_left _ _)
    have O := O2.more
    rw [wrap64 (by omega) (by omega)]
    refine hnx (m - 1) _ _ _ (by omega) ⟨by omega, by omega, ls ++ [y], ?_, O.swap⟩
    rw [show (i + 1).toNat = i.toNat + 1 by omega, List.take_add_one, hcx, List.map_append, List.map_append, hls, List.map_cons, hy]
    rfl
  intro j2 hj2
  refine brr_eq (fun k1 => ?_) (fun k1 => ?_)
  · subst k1
    refine ⟨_, rfl, ?_⟩
    refine O.ld 3 rfl (ldL_c (ldL_n ?_))
    refine st_ad (b := a16) (o := 4) rfl ?_
    refine O.st 0 rfl (by simp) rfl fun h O => ?_
    dsimp only [V.put, List.set] at O
    have O := O.nil_buf (sz := 1) (enc := u8)
    exact hj2 _ ⟨{ mgz with kind := 1, epoch := q.epoch, frm := q.node, to := c, shard := q.shard }, rfl, O⟩
  refine jn_go ?_
  refine brr_eq (fun k4 => ?_) (fun k4 => ?_)
  · subst k4
    refine ⟨_, rfl, ?_⟩
    refine O.ld 3 rfl (ldL_c (ldL_c (ldL_n ?_)))
    refine st_ad (b := a16) (o := 5) rfl ?_
    refine O.st 0 rfl (by simp) rfl fun h O => ?_
    dsimp only [V.put, List.set] at O
    refine ⟨_, rfl, ?_⟩
    refine O.ld 3 rfl (ldL_c (k := .sl) (x := a.sv) (ldL_n ?_))
    refine F_ref0_Copy.is O (VV h O.drop.drop.drop.drop) (by omega) fun s30 h O _ _ => ?_
    refine st_ad (b := a16) (o := 10) rfl ?_
    refine O.st 1 rfl (by simp) rfl fun h O => ?_
    dsimp only [V.put, List.set] at O
    refine st_ad (b := a16) (o := 8) rfl ?_
    refine O.st 1 rfl (by simp) rfl fun h O => ?_
    dsimp only [V.put, List.set] at O
    exact hj2 _ ⟨{ mgz with kind := 4, te := q.tag.1, ts := q.tag.2, span := span, v := s30, b := refVal q, frm := q.node, to := c, shard := q.shard }, rfl, O⟩
  refine jn_go ?_
  have k6 : kind = 6 := by omega
  subst k6
  refine brr_tt rfl ?_
  refine ⟨_, rfl, ?_⟩
  refine O.ld 3 rfl (ldL_c (ldL_n ?_))
  refine st_ad (b := a16) (o := 4) rfl ?_
  refine O.st 0 rfl (by simp) rfl fun h O => ?_
  dsimp only [V.put, List.set] at O
  refine ⟨_, rfl, ?_⟩
  refine O.ld 3 rfl (ldL_c (ldL_n ?_))
  refine st_ad (b := a16) (o := 7) rfl ?_
  refine O.st 0 rfl (by simp) rfl fun h O => ?_
  dsimp only [V.put, List.set] at O
  refine st_ad (b := a16) (o := 8) rfl ?_
  refine O.st 0 rfl (by simp) rfl fun h O => ?_
  dsimp only [V.put, List.set] at O
  have O := O.nil_buf (sz := 1) (enc := u8)
  exact hj2 _ ⟨{ mgz with kind := 6, epoch := q.epoch, round := q.begun, span := span, frm := q.node, to := c, shard := q.shard }, rfl, O⟩
theorem cmp_pos {a b c d : Int} : ((if tagLt a b c d then (-1 : Int) else if a = c ∧ b = d then 0 else 1) > 0) ↔ tagLt c d a b := by
  have e1 : tagLt a b c d ↔ (a < c ∨ (a = c ∧ b < d)) := Iff.rfl
  have e2 : tagLt c d a b ↔ (c < a ∨ (c = a ∧ d < b)) := Iff.rfl
  rw [e2]
  by_cases h1 : tagLt a b c d
  · rw [if_pos h1]
    have h1 := e1.1 h1
    omega
  rw [if_neg h1]
  have h1 : ¬ (a < c ∨ (a = c ∧ b < d)) := fun x => h1 (e1.2 x)
  by_cases h2 : a = c ∧ b = d
  · rw [if_pos h2]
    omega
  rw [if_neg h2]
  omega
theorem F_ref10_Quorum_best.is {x : PM} {xs : List PM} {Q : Sl → Heap → Prop} (hps : a.ps = x :: xs) (hl : xs.length ≤ 1000000) (O : Sat h0 h (own r [.int .i64 q.node, .int .i64 q.shard, .slice a.sc.ptr a.sc.len a.sc.cap, .int .i64 q.phase, .int .u64 q.epoch, .slice a.sp.ptr a.sp.len a.sp.cap, .int .u64 q.tag.1, .int .u64 q.tag.2, .slice a.sv.ptr a.sv.len a.sv.cap, .slice a.sw.ptr a.sw.len a.sw.cap, .slice a.sr.ptr a.sr.len a.sr.cap, .bool a.any, .int .u64 q.chosen.1, .int .u64 q.chosen.2, .slice a.sh.ptr a.sh.len a.sh.cap, .int .u64 q.begun, .int .u64 q.done, .slice a.sb.ptr a.sb.len a.sb.cap, .int .u64 q.seen] :: buf 4 pmC a.sp a.ps :: L)) (k : ∀ h', Sat h0 h' (own r [.int .i64 q.node, .int .i64 q.shard, .slice a.sc.ptr a.sc.len a.sc.cap, .int .i64 q.phase, .int .u64 q.epoch, .slice a.sp.ptr a.sp.len a.sp.cap, .int .u64 q.tag.1, .int .u64 q.tag.2, .slice a.sv.ptr a.sv.len a.sv.cap, .slice a.sw.ptr a.sw.len a.sw.cap, .slice a.sr.ptr a.sr.len a.sr.cap, .bool a.any, .int .u64 q.chosen.1, .int .u64 q.chosen.2, .slice a.sh.ptr a.sh.len a.sh.cap, .int .u64 q.begun, .int .u64 q.done, .slice a.sb.ptr a.sb.len a.sb.cap, .int .u64 q.seen] :: buf 4 pmC a.sp a.ps :: L) → Q (best1 x xs).v h') : F_ref10_Quorum_best (some (pt r 0)) h Q := by
  rw [F_ref10_Quorum_best.eq_1, F_ref10_Quorum_best_of.eq_1]
  refine jn1 (fun (z : Int) h' => ∃ kn : Nat, z = (kn : Int) ∧ a.ps[kn]? = some (best1 x xs) ∧ Sat h0 h' (own r [.int .i64 q.node, .int .i64 q.shard, .slice a.sc.ptr a.sc.len a.sc.cap, .int .i64 q.phase, .int .u64 q.epoch, .slice a.sp.ptr a.sp.len a.sp.cap, .int .u64 q.tag.1, .int .u64 q.tag.2, .slice a.sv.ptr a.sv.len a.sv.cap, .slice a.sw.ptr a.sw.len a.sw.cap, .slice a.sr.ptr a.sr.len a.sr.cap, .bool a.any, .int .u64 q.chosen.1, .int .u64 q.chosen.2, .slice a.sh.ptr a.sh.len a.sh.cap, .int .u64 q.begun, .int .u64 q.done, .slice a.sb.ptr a.sb.len a.sb.cap, .int .u64 q.seen] :: buf 4 pmC a.sp a.ps :: L)) ?_ ?_
  · clear O
    rintro z h ⟨kn, rfl, hkn, O⟩
    refine ⟨_, rfl, ?_⟩
    refine O.ld 0 rfl (ldL_c (k := .sl) (x := a.sp) (ldL_n ?_))
    refine (O.view 1 pmC_len (by simp) rfl).1.getP (by omega) (by simpa using hkn) fun b hb => ld_drop (hb (O.view 1 pmC_len (by simp) rfl).1) 3 (ldL_s (ldL_n ?_))
    exact k _ O
  intro j hj
  rw [F_ref10_Quorum_best.l1.eq_1]
  have hlen : a.ps.length = xs.length + 1 := by rw [hps]; rfl
  refine wl2 (k := .int .i64) (l := .int .i64) (fun (m : Nat) (k i : Int) (h' : Heap) => i + m = a.ps.length ∧ 1 ≤ i ∧ ∃ kn : Nat, k = (kn : Int) ∧ a.ps[kn]? = some (best1 x (xs.take (i.toNat - 1))) ∧ Sat h0 h' (own r [.int .i64 q.node, .int .i64 q.shard, .slice a.sc.ptr a.sc.len a.sc.cap, .int .i64 q.phase, .int .u64 q.epoch, .slice a.sp.ptr a.sp.len a.sp.cap, .int .u64 q.tag.1, .int .u64 q.tag.2, .slice a.sv.ptr a.sv.len a.sv.cap, .slice a.sw.ptr a.sw.len a.sw.cap, .slice a.sr.ptr a.sr.len a.sr.cap, .bool a.any, .int .u64 q.chosen.1, .int .u64 q.chosen.2, .slice a.sh.ptr a.sh.len a.sh.cap, .int .u64 q.begun, .int .u64 q.done, .slice a.sb.ptr a.sb.len a.sb.cap, .int .u64 q.seen] :: buf 4 pmC a.sp a.ps :: L)) ?_ (m := xs.length) ⟨by omega, by omega, 0, rfl, by rw [hps]; rfl, O⟩
  clear O
  rintro m (z : Int) (i : Int) h next hnx ⟨him, hi1, kn, rfl, hkn, O⟩
  refine ⟨_, rfl, ?_⟩
  refine O.ld 0 rfl (ldL_c (k := .sl) (x := a.sp) (ldL_n ?_))
  have V := (O.view 1 pmC_len (by simp) rfl).1
  rw [V.len]
  refine brr_p (fun hlt => ?_) (fun hlt => hj _ _ ⟨kn, rfl, by rw [List.take_of_length_le (by omega)] at hkn; exact hkn, O⟩)
  obtain ⟨y, hy⟩ : ∃ y, a.ps[i.toNat]? = some y := ⟨_, List.getElem?_eq_getElem (by omega)⟩
  have hy2 : xs[i.toNat - 1]? = some y := by
    rw [hps, show i.toNat = (i.toNat - 1) + 1 by omega, List.getElem?_cons_succ] at hy
    exact hy
  refine ⟨_, rfl, ?_⟩
  refine O.ld 0 rfl (ldL_c (k := .sl) (x := a.sp) (ldL_n ?_))
  refine V.getP (by omega) hy fun b hb => ld_drop (hb V) 1 (ldL_c (ldL_c (ldL_n ?_)))
  refine ⟨_, rfl, ?_⟩
  refine O.ld 0 rfl (ldL_c (k := .sl) (x := a.sp) (ldL_n ?_))
  refine V.getP (by omega) (by simpa using hkn) fun b2 hb2 => ld_drop (hb2 V) 1 (ldL_c (ldL_c (ldL_n ?_)))
  refine F_ref0_CmpTag.is O fun h O => ?_
  have et : xs.take ((i + 1).toNat - 1) = xs.take (i.toNat - 1) ++ [y] := by
    rw [show (i + 1).toNat - 1 = (i.toNat - 1) + 1 by omega, List.take_add_one, hy2]
    rfl
  refine jn1 (fun (z : Int) h' => ∃ kn : Nat, z = (kn : Int) ∧ a.ps[kn]? = some (best1 x (xs.take ((i + 1).toNat - 1))) ∧ Sat h0 h' (own r [.int .i64 q.node, .int .i64 q.shard, .slice a.sc.ptr a.sc.len a.sc.cap, .int .i64 q.phase, .int .u64 q.epoch, .slice a.sp.ptr a.sp.len a.sp.cap, .int .u64 q.tag.1, .int .u64 q.tag.2, .slice a.sv.ptr a.sv.len a.sv.cap, .slice a.sw.ptr a.sw.len a.sw.cap, .slice a.sr.ptr a.sr.len a.sr.cap, .bool a.any, .int .u64 q.chosen.1, .int .u64 q.chosen.2, .slice a.sh.ptr a.sh.len a.sh.cap, .int .u64 q.begun, .int .u64 q.done, .slice a.sb.ptr a.sb.len a.sb.cap, .int .u64 q.seen] :: buf 4 pmC a.sp a.ps :: L)) ?_ ?_
  · clear O V
    rintro z h ⟨kn, rfl, hkn, O⟩
    rw [wrap64 (by omega) (by omega)]
    exact hnx (m - 1) _ _ _ (by omega) ⟨by omega, by omega, kn, rfl, hkn, O⟩
  intro j2 hj2
  refine brr_p (fun hc => ?_) (fun hc => ?_)
  · refine hj2 _ _ ⟨i.toNat, by omega, ?_, O⟩
    rw [et, best1_snoc, if_pos (cmp_pos.1 hc)]
    exact hy
  · refine hj2 _ _ ⟨kn, rfl, ?_, O⟩
    rw [et, best1_snoc, if_neg fun h => hc (cmp_pos.2 h)]
    exact hkn
end
end Go.Proofs.YtigcpkejjjgkeaaGreat.V
