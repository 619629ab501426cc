import Derived.Test.YtigcpkejjjgkeaaZQuorumCounts1
import Derived.Test.YtigcpkejjjgkeaaProg
/- The program's quorum: what it holds; lists of messages; send. -/
namespace Go.Proofs.Ytigcpkejjjgkeaa.V
open Go Go.RowKit
set_option linter.unusedVariables false
set_option linter.unusedSimpArgs false
structure QA where
  sc : Sl
  sv : Sl
  sw : Sl
  r1 : Nat
  r2 : Nat
  r3 : Nat
  r4 : Nat
def quR (p : Nat) (q : QS) : Res := ex fun a : QA => star [own p [.int .i64 q.node, .int .i64 q.shard, .slice a.sc.ptr a.sc.len a.sc.cap, .int .i64 q.phase, .int .u64 q.epoch, .int .u64 q.seen, .int .u64 q.best.1, .int .u64 q.best.2, .int .u64 q.tag.1, .int .u64 q.tag.2, .slice a.sv.ptr a.sv.len a.sv.cap, .int .u64 q.chosen.1, .int .u64 q.chosen.2, .slice a.sw.ptr a.sw.len a.sw.cap, .int .u64 q.begun, .int .u64 q.done, .map (some a.r1), .map (some a.r2), .map (some a.r3), .map (some a.r4)], buf 1 i64c a.sc q.cop, mapR a.r1 q.pm, mapR a.r2 q.wr, mapR a.r3 q.rf, mapR a.r4 q.bt, poolR [(a.sv, q.val), (a.sw, q.what)]]
def Mg.bare (m : Mg) : Mg := { m with v := ⟨none, 0, 0⟩ }
def mvR (m : Mg) : Res := buf 1 u8 m.v m.b
def msgsR (s : Sl) (ms : List Mg) : Res := ex fun ls : List Mg => pr (ls.map Mg.bare = ms) (sep (buf 22 mgC s ls) (many mvR ls))
theorem mgC_len (m : Mg) : (mgC m).length = 22 := rfl
theorem mgC_one (m : Mg) : (mgC m).all oneV = true := rfl
section
variable {h0 h : Heap} {L : List Res}
theorem star_permL {L M : List Res} (p : L.Perm M) : ∀ {E : Blks}, star L E → star M E := by
  induction p with
  | nil => exact fun h => h
  | cons A _ ih => exact fun ⟨E1, E2, p1, hA, h2⟩ => ⟨E1, E2, p1, hA, ih h2⟩
  | swap A B L => exact fun ⟨E1, E2, p1, hA, F1, F2, q, hB, h2⟩ => ⟨F1, E1 ++ F2, perm_cons_app p1 q, hB, E1, F2, List.Perm.refl _, hA, h2⟩
  | trans _ _ ih1 ih2 => exact fun h => ih2 (ih1 h)
theorem Sat.permL {L M : List Res} (O : Sat h0 h L) (p : L.Perm M) : Sat h0 h M := by
  obtain ⟨E, hs, H⟩ := O
  exact ⟨E, star_permL p hs, H⟩
theorem Sat.flip {L M : List Res} (O : Sat h0 h (L ++ M)) : Sat h0 h (M ++ L) := O.permL List.perm_append_comm
theorem Sat.starE {Rs : List Res} (O : Sat h0 h (star Rs :: L)) : Sat h0 h (Rs ++ L) := by
  induction Rs generalizing L with
  | nil => exact O.emp
  | cons A Rs ih =>
    have O : Sat h0 h (V.sep A (star Rs) :: L) := O
    exact (ih O.sep.swap).permL List.perm_middle
theorem Sat.qu {p : Nat} {q : QS} (O : Sat h0 h (quR p q :: L)) : ∃ a : QA, Sat h0 h (own p [.int .i64 q.node, .int .i64 q.shard, .slice a.sc.ptr a.sc.len a.sc.cap, .int .i64 q.phase, .int .u64 q.epoch, .int .u64 q.seen, .int .u64 q.best.1, .int .u64 q.best.2, .int .u64 q.tag.1, .int .u64 q.tag.2, .slice a.sv.ptr a.sv.len a.sv.cap, .int .u64 q.chosen.1, .int .u64 q.chosen.2, .slice a.sw.ptr a.sw.len a.sw.cap, .int .u64 q.begun, .int .u64 q.done, .map (some a.r1), .map (some a.r2), .map (some a.r3), .map (some a.r4)] :: buf 1 i64c a.sc q.cop :: mapR a.r1 q.pm :: mapR a.r2 q.wr :: mapR a.r3 q.rf :: mapR a.r4 q.bt :: poolR [(a.sv, q.val), (a.sw, q.what)] :: L) := by
  obtain ⟨a, O⟩ := O.ex
  exact ⟨a, O.starE⟩
theorem Sat.quI {p : Nat} (q : QS) (a : QA) (O : Sat h0 h (own p [.int .i64 q.node, .int .i64 q.shard, .slice a.sc.ptr a.sc.len a.sc.cap, .int .i64 q.phase, .int .u64 q.epoch, .int .u64 q.seen, .int .u64 q.best.1, .int .u64 q.best.2, .int .u64 q.tag.1, .int .u64 q.tag.2, .slice a.sv.ptr a.sv.len a.sv.cap, .int .u64 q.chosen.1, .int .u64 q.chosen.2, .slice a.sw.ptr a.sw.len a.sw.cap, .int .u64 q.begun, .int .u64 q.done, .map (some a.r1), .map (some a.r2), .map (some a.r3), .map (some a.r4)] :: buf 1 i64c a.sc q.cop :: mapR a.r1 q.pm :: mapR a.r2 q.wr :: mapR a.r3 q.rf :: mapR a.r4 q.bt :: poolR [(a.sv, q.val), (a.sw, q.what)] :: L)) : Sat h0 h (quR p q :: L) := by
  refine Sat.exI a ?_
  have O := (O.sel [0, 1, 2, 3, 4, 5, 6] 7 rfl (Nat.le_add_left _ _))
  obtain ⟨E, ⟨E0, F0, p0, k0, E1, F1, p1, k1, E2, F2, p2, k2, E3, F3, p3, k3, E4, F4, p4, k4, E5, F5, p5, k5, E6, F6, p6, k6, h2⟩, H⟩ := O
  refine ⟨E, ⟨E0 ++ (E1 ++ (E2 ++ (E3 ++ (E4 ++ (E5 ++ (E6 ++ [])))))), F6, ?_, ?_, h2⟩, H⟩
  · refine p0.trans ?_
    rw [List.append_nil, List.append_assoc]
    refine List.Perm.append_left _ (p1.trans ?_)
    rw [List.append_assoc]
    refine List.Perm.append_left _ (p2.trans ?_)
    rw [List.append_assoc]
    refine List.Perm.append_left _ (p3.trans ?_)
    rw [List.append_assoc]
    refine List.Perm.append_left _ (p4.trans ?_)
    rw [List.append_assoc]
    refine List.Perm.append_left _ (p5.trans ?_)
    rw [List.append_assoc]
    exact List.Perm.append_left _ p6
  · exact ⟨E0, _, List.Perm.refl _, k0, E1, _, List.Perm.refl _, k1, E2, _, List.Perm.refl _, k2, E3, _, List.Perm.refl _, k3, E4, _, List.Perm.refl _, k4, E5, _, List.Perm.refl _, k5, E6, [], List.Perm.refl _, k6, rfl⟩
theorem F_slices_Clone_cbaad.is {a : Sl} {xs : List UInt8} {Q : Sl → Heap → Prop} (O : Sat h0 h L) (V1 : Stays h0 L fun h => Bytes h a xs) (hl : xs.length ≤ (140737488355325 : Nat)) (k : ∀ s h', Sat h0 h' (buf 1 u8 s xs :: L) → Q s h') : F_slices_Clone_cbaad a h Q := by
  rw [F_slices_Clone_cbaad.eq_1, F_slices_Clone_cbaad_of.eq_1]
  have hn := (V1 h O).len
  cases e : a.ptr with
  | none =>
    refine brr_tt rfl ?_
    have hx : xs = [] := by
      cases xs with
      | nil => rfl
      | cons x xs =>
        obtain ⟨p, cs, h1, _⟩ := (V1 h O).2 0 x rfl
        rw [e] at h1; cases h1
    subst hx
    exact k _ _ O.nil_buf
  | some p =>
    refine brr_ff rfl ?_
    refine O.al fun b h O => ?_
    have O : Sat h0 h (own b (([] : List UInt8).flatMap u8 ++ []) :: L) := O
    have O := O.own_buf (k := 0) (sz := 1) (by simp)
    have O : Sat h0 h (buf 1 u8 ⟨some (pt b 0), 0, 0⟩ [] :: L) := O.bufsI
    have V2 := V1 h O.drop
    rw [← e]
    refine O.app_buf u8_len u8_one rfl (ys := xs) hn ?_ (by simp; omega) fun s h O _ => ?_
    · have := V2.rd u8_len
      simpa using this
    · exact k _ _ (by rwa [List.nil_append] at O)
theorem F_slices_Clone_abbee.is {a : Sl} {xs : List Int} {Q : Sl → Heap → Prop} (O : Sat h0 h L) (V1 : Stays h0 L fun h => View h 1 (En i64c) a xs) (hl : xs.length ≤ 1000000) (k : ∀ s h', Sat h0 h' (buf 1 i64c s xs :: L) → Q s h') : F_slices_Clone_abbee a h Q := by
  rw [F_slices_Clone_abbee.eq_1, F_slices_Clone_abbee_of.eq_1]
  have hn := (V1 h O).len
  cases e : a.ptr with
  | none =>
    refine brr_tt rfl ?_
    have hx : xs = [] := by
      cases xs with
      | nil => rfl
      | cons x xs =>
        obtain ⟨p, cs, h1, _⟩ := (V1 h O).2 0 x rfl
        rw [e] at h1; cases h1
    subst hx
    exact k _ _ O.nil_buf
  | some p =>
    refine brr_ff rfl ?_
    refine O.al fun b h O => ?_
    have O : Sat h0 h (own b (([] : List Int).flatMap i64c ++ []) :: L) := O
    have O := O.own_buf (k := 0) (sz := 1) (by simp)
    have O : Sat h0 h (buf 1 i64c ⟨some (pt b 0), 0, 0⟩ [] :: L) := O.bufsI
    have V2 := V1 h O.drop
    rw [← e]
    refine O.app_buf i64c_len i64c_one rfl (ys := xs) hn ?_ (by simp; omega) fun s h O _ => ?_
    · have := V2.rd i64c_len
      simpa using this
    · exact k _ _ (by rwa [List.nil_append] at O)
theorem View.i6 {s : Sl} {xs : List Int} {i : Int} {K : Int → Prop} {x : Int} (V : View h 1 (En i64c) s xs) (h0 : 0 ≤ i) (hx : xs[i.toNat]? = some x) (kk : K x) : ixS 1 s i fun a => ld [.int .i64] a h K :=
  V.getP h0 hx fun a ha => ld_are (ha V) (ldL_c (ldL_n kk))
theorem F_slices_Contains_cfbaf.is {s : Sl} {xs : List Int} {n : Int} {Q : Bool → Heap → Prop} (V : View h 1 (En i64c) s xs) (hl : xs.length ≤ 1000000) (k : Q (decide (n ∈ xs)) h) : F_slices_Contains_cfbaf s n h Q := by
  rw [F_slices_Contains_cfbaf.eq_1, F_slices_Contains_cfbaf_of.eq_1]
  rw [F_slices_Index_fbcab.eq_1, F_slices_Index_fbcab_of.eq_1]
  refine jn0 (fun h' => h' = h ∧ n ∉ xs) ?_ ?_
  · rintro h2 ⟨rfl, hn⟩
    rw [show decide (n ∈ xs) = false from decide_eq_false hn] at k
    exact k
  · intro j hj
    rw [F_slices_Index_fbcab.l1.eq_1]
    refine wl1 (k := .int .i64) (fun (m : Nat) (i : Int) (h' : Heap) => h' = h ∧ i + m = xs.length ∧ 0 ≤ i ∧ (∀ j : Nat, (j : Int) < i → xs[j]? ≠ some n)) ?_ (m := xs.length) ⟨rfl, by omega, by omega, fun j hj => by omega⟩
    rintro m (i : Int) h2 next hnx ⟨rfl, him, hi0, hall⟩
    rw [V.len]
    refine brr_p (fun hlt => ?_) (fun hlt => hj _ ⟨rfl, fun hm => ?_⟩)
    · obtain ⟨x, hx⟩ : ∃ x, xs[i.toNat]? = some x := ⟨_, List.getElem?_eq_getElem (by omega)⟩
      refine V.i6 hi0 hx ?_
      refine brr_eq (fun hq => ?_) (fun hq => ?_)
      · have hm : n ∈ xs := by rw [hq]; exact List.mem_of_getElem? hx
        rw [show decide (n ∈ xs) = true from decide_eq_true hm] at k
        show Q (decide (i ≥ 0)) _
        rw [show decide (i ≥ 0) = true from decide_eq_true hi0]
        exact k
      · rw [wrap64 (by omega) (by omega)]
        refine hnx (m - 1) _ _ (by omega) ⟨rfl, by omega, by omega, fun j hj => ?_⟩
        by_cases q : (j : Int) < i
        · exact hall j q
        · rw [show j = i.toNat by omega, hx]
          intro e
          cases e
          exact hq rfl
    · obtain ⟨j, hj2⟩ := List.getElem?_of_mem hm
      have := (List.getElem?_eq_some_iff.1 hj2).1
      exact hall j (by omega) hj2
theorem Sat.msgs {s : Sl} {ms : List Mg} (O : Sat h0 h (msgsR s ms :: L)) : ∃ ls : List Mg, ls.map Mg.bare = ms ∧ Sat h0 h (buf 22 mgC s ls :: many mvR ls :: L) := by
  obtain ⟨ls, O⟩ := O.ex
  obtain ⟨e, O⟩ := O.pr
  exact ⟨ls, e, O.sep⟩
theorem Sat.msgsI {s : Sl} {ls : List Mg} {ms : List Mg} (e : ls.map Mg.bare = ms) (O : Sat h0 h (buf 22 mgC s ls :: many mvR ls :: L)) : Sat h0 h (msgsR s ms :: L) := Sat.exI ls (Sat.prI e O.sepI)
abbrev sendF : Fns := fn1 25 E_slices_Clone_cbaad (fn1 53 E_quorum_Quorum_mine (fn1 54 E_quorum_nodes_in noFns))
theorem filt_take {α : Type} {l : List α} {f : α → Bool} {i : Nat} {x : α} (h : l[i]? = some x) : (l.take (i + 1)).filter f = (l.take i).filter f ++ if f x then [x] else [] := by
  obtain ⟨hi, rfl⟩ := List.getElem?_eq_some_iff.1 h
  rw [List.take_succ_eq_append_getElem hi, List.filter_append]
  congr 1
  by_cases q : f l[i] <;> simp [q]
theorem F_quorum_Quorum_send.is {p : Nat} {node shard : Int} {sc : Sl} {cop : List Int} {C : List Value} {x : Mg} {fv : Option FV} {out : Int → Bool} {Q : Sl → Heap → Prop} (hc : cop.length ≤ 1000000) (hb : x.b.length ≤ (140737488355325 : Nat))
    (Vx : Stays h0 L fun h => Bytes h x.v x.b)
    (dy : ∀ (c : Int) {M : List Res} {h : Heap} {K : Bool → Heap → Prop}, Sat h0 h (own p (.int .i64 node :: .int .i64 shard :: .slice sc.ptr sc.len sc.cap :: C) :: buf 1 i64c sc cop :: (L ++ M)) → K (out c) h → dyn1 .bool sendF (Kd.enc .fn fv) [(.int .i64 c : Value)] h K)
    (O : Sat h0 h (own p (.int .i64 node :: .int .i64 shard :: .slice sc.ptr sc.len sc.cap :: C) :: buf 1 i64c sc cop :: L))
    (k : ∀ s h', Sat h0 h' (msgsR s ((cop.filter fun c => !out c).map fun c => { x.bare with frm := node, to := c, shard := shard }) :: own p (.int .i64 node :: .int .i64 shard :: .slice sc.ptr sc.len sc.cap :: C) :: buf 1 i64c sc cop :: L) → Q s h') : F_quorum_Quorum_send (some (pt p 0)) x.kind x.frm x.to x.shard x.epoch x.te x.ts x.round x.span x.seen x.v x.peer x.num x.name x.other x.amount x.life x.id x.op x.client x.state x.bad fv h Q := by
  rw [F_quorum_Quorum_send.eq_1, F_quorum_Quorum_send_of.eq_1]
  refine O.al fun a25 h O => ?_
  refine ⟨_, rfl, ?_⟩
  refine O.ld 1 rfl (ldL_c (k := .sl) (x := sc) (ldL_n ?_))
  refine jn1 (fun s h' => Sat h0 h' (msgsR s ((cop.filter fun c => !out c).map fun c => { x.bare with frm := node, to := c, shard := shard }) :: own p (.int .i64 node :: .int .i64 shard :: .slice sc.ptr sc.len sc.cap :: C) :: buf 1 i64c sc cop :: L)) (fun s h O => k s h O) ?_
  intro j hj
  rw [F_quorum_Quorum_send.l1.eq_1]
  refine wl2 (k := .sl) (l := .int .i64) (fun (m : Nat) (s : Sl) (i : Int) (h' : Heap) => i + m = cop.length ∧ 0 ≤ i ∧ ∃ ls : List Mg, ls.map Mg.bare = ((cop.take i.toNat).filter fun c => !out c).map (fun c => { x.bare with frm := node, to := c, shard := shard }) ∧ (ls.length : Int) ≤ i ∧ Sat h0 h' (own a25 (mgC x) :: buf 22 mgC s ls :: many mvR ls :: own p (.int .i64 node :: .int .i64 shard :: .slice sc.ptr sc.len sc.cap :: C) :: buf 1 i64c sc cop :: L)) ?_ (m := cop.length) ⟨by omega, by omega, [], by simp, by simp, by
    have O2 := (O.none (f := mvR)).nil_buf (sz := 22) (enc := mgC)
    exact O2.sel [2, 0, 1, 3, 4] 5 rfl (Nat.le_add_left _ _)⟩
  clear O
  rintro m (s : Sl) (i : Int) h next hnx ⟨him, hi0, ls, hls, hll, O⟩
  have V1 := (O.view 4 i64c_len (by simp) rfl).1
  rw [V1.len]
  refine brr_p (fun hlt => ?_) (fun hlt => hj _ _ ?_)
  case refine_2 =>
    rw [List.take_of_length_le (by omega)] at hls
    exact Sat.msgsI hls (O.sel [1, 2, 3, 4] 5 rfl (Nat.le_add_left _ _))
  obtain ⟨c, hcx⟩ : ∃ c, cop[i.toNat]? = some c := ⟨_, List.getElem?_eq_getElem (by omega)⟩
  have ft := filt_take (f := fun c => !out c) hcx
  rw [show i.toNat + 1 = (i + 1).toNat by omega] at ft
  refine jn1 (fun s h' => ∃ ls : List Mg, ls.map Mg.bare = ((cop.take (i + 1).toNat).filter fun c => !out c).map (fun c => { x.bare with frm := node, to := c, shard := shard }) ∧ (ls.length : Int) ≤ i + 1 ∧ Sat h0 h' (own a25 (mgC x) :: buf 22 mgC s ls :: many mvR ls :: own p (.int .i64 node :: .int .i64 shard :: .slice sc.ptr sc.len sc.cap :: C) :: buf 1 i64c sc cop :: L)) ?_ ?_
  · clear O
    rintro s h ⟨ls, h1, h2, O⟩
    rw [wrap64 (by omega) (by omega)]
    exact hnx (m - 1) _ _ _ (by omega) ⟨by omega, by omega, ls, h1, h2, O⟩
  intro j2 hj2
  refine V1.i6 hi0 hcx ?_
  refine dy c (M := [own a25 (mgC x), buf 22 mgC s ls, many mvR ls]) ?_ ?_
  · have O2 : Sat h0 h ([own a25 (mgC x), buf 22 mgC s ls, many mvR ls] ++ (own p (.int .i64 node :: .int .i64 shard :: .slice sc.ptr sc.len sc.cap :: C) :: buf 1 i64c sc cop :: L)) := O
    exact Sat.flip O2
  cases ho : out c with
  | true =>
    refine brr_tt rfl ?_
    refine hj2 _ _ ⟨ls, ?_, by omega, O⟩
    rw [hls, ft, ho]
    simp
  | false =>
    refine brr_ff rfl ?_
    refine O.ld 0 rfl ?_
    repeat (first | (with_reducible refine ldL_n ?_) | refine ldL_s ?_ | refine ldL_c ?_)
    refine O.al fun a61 h O => ?_
    refine O.st 0 rfl (by simp) rfl fun h O => ?_
    dsimp only [V.put, List.set] at O
    refine ⟨_, rfl, ?_⟩
    refine O.ld 4 rfl (ldL_c (ldL_n ?_))
    refine ⟨_, rfl, ?_⟩
    refine O.ld 4 rfl (ldL_c (ldL_n ?_))
    refine O.ld 1 rfl (ldL_s (ldL_n ?_))
    refine F_slices_Clone_cbaad.is O (fun h O => Vx h (O.sel [] 6 rfl (Nat.le_add_left _ _))) hb fun sv h O => ?_
    refine O.ca 5 1 rfl ?_
    refine O.ca 5 1 rfl ?_
    refine st_ad (b := a61) (o := 1) rfl ?_
    refine O.st 1 rfl (by simp) rfl fun h O => ?_
    dsimp only [V.put, List.set] at O
    refine O.ca 5 1 rfl ?_
    refine st_ad (b := a61) (o := 2) rfl ?_
    refine O.st 1 rfl (by simp) rfl fun h O => ?_
    dsimp only [V.put, List.set] at O
    refine O.ca 5 1 rfl ?_
    refine st_ad (b := a61) (o := 3) rfl ?_
    refine O.st 1 rfl (by simp) rfl fun h O => ?_
    dsimp only [V.put, List.set] at O
    refine st_ad (b := a61) (o := 10) rfl ?_
    refine O.st 1 rfl (by simp) rfl fun h O => ?_
    dsimp only [V.put, List.set] at O
    refine O.ld 1 rfl ?_
    repeat (first | (with_reducible refine ldL_n ?_) | refine ldL_s ?_ | refine ldL_c ?_)
    have O := O.sel [3, 0, 2, 4, 5, 6] 7 rfl (Nat.le_add_left _ _)
    refine Sat.push_buf (enc := mgC) O { x with frm := node, to := c, shard := shard, v := sv } rfl mgC_len mgC_one (by simp [Value.cells]) (by omega) fun s2 h O _ => ?_
    generalize hy : ({ x with frm := node, to := c, shard := shard, v := sv } : Mg) = y at O
    have O : Sat h0 h (mvR y :: many mvR ls :: buf 22 mgC s2 (ls ++ [y]) :: own a25 (mgC x) :: own p (.int .i64 node :: .int .i64 shard :: .slice sc.ptr sc.len sc.cap :: C) :: buf 1 i64c sc cop :: L) := by
      rw [← hy] at O ⊢
      exact O.sel [1, 3, 0, 2, 4, 5] 6 rfl (Nat.le_add_left _ _)
    have O := Sat.more O
    refine hj2 _ _ ⟨ls ++ [y], ?_, by rw [List.length_append]; simp; omega, O.sel [2, 1, 0, 3, 4] 5 rfl (Nat.le_add_left _ _)⟩
    subst hy
    rw [List.map_append, hls, ft, ho]
    simp [Mg.bare]
end
end Go.Proofs.Ytigcpkejjjgkeaa.V
/- The program's quorum: its small functions; what it sends; Stop, Start. -/
namespace Go.Proofs.Ytigcpkejjjgkeaa.V
open Go Go.RowKit
set_option linter.unusedVariables false
set_option linter.unusedSimpArgs false
structure QS.Ok (q : QS) : Prop where
  c : q.cop.length ≤ 1000000
  v : q.val.length ≤ (140737488355325 : Nat)
  w : q.what.length ≤ (140737488355325 : Nat)
  n : q.rf.Nodup
  s : ∀ x ∈ q.rf, x ∈ q.cop
  t : 0 ≤ q.tag.2
  b : 0 ≤ q.begun
theorem dyn1_at {k : Kd} {Φ : Fns} {id : Nat} {fs vs : List Value} {h : Heap} {K : k.T → Heap → Prop} (e : Φ id (fs ++ vs) h fun u h => dec1 k u fun x => K x h) : dyn1 k Φ (Kd.enc .fn (some ⟨.func id, fs, []⟩)) vs h K :=
  ⟨_, id, rfl, rfl, by simpa using e⟩
theorem call_mine {q : Option Addr} {c : Int} {h : Heap} {K : Bool → Heap → Prop} : (sendF 53 [.pointer q, .int .i64 c] h fun u h => dec1 .bool u fun x => K x h) = F_quorum_Quorum_mine q c h K := by kernel_rfl
theorem call_in {m : Option Nat} {c : Int} {h : Heap} {K : Bool → Heap → Prop} : (sendF 54 [.map m, .int .i64 c] h fun u h => dec1 .bool u fun x => K x h) = F_quorum_nodes_in m c h K := by kernel_rfl
theorem nodup_sub_len : ∀ {l m : List Int}, l.Nodup → (∀ x ∈ l, x ∈ m) → l.length ≤ m.length
  | [], m, _, _ => Nat.zero_le _
  | x :: l, m, hn, hs => by
    rw [List.nodup_cons] at hn
    have hx := hs x List.mem_cons_self
    have := nodup_sub_len (l := l) (m := m.erase x) hn.2 fun y hy => (List.mem_erase_of_ne (by rintro rfl; exact hn.1 hy)).2 (hs y (List.mem_cons_of_mem _ hy))
    rw [List.length_erase_of_mem hx] at this
    have := List.length_pos_of_mem hx
    simp
    omega
theorem putK_nodup {l : List Int} {n : Int} (h : l.Nodup) : (putK l n).Nodup := by
  unfold putK
  split
  · exact h
  · rename_i hn
    exact List.nodup_append.2 ⟨h, by simp, fun a ha b hb => by rw [List.mem_singleton.1 hb]; exact fun e => hn (e ▸ ha)⟩
theorem putK_sub {l : List Int} {n x : Int} (h : x ∈ putK l n) : x ∈ l ∨ x = n := by
  unfold putK at h
  split at h
  · exact .inl h
  · simpa using h
section
variable {h0 h : Heap} {L : List Res} {p : Nat} {q : QS}
theorem pool_nils (O : Sat h0 h L) : Sat h0 h (poolR [(⟨none, 0, 0⟩, []), (⟨none, 0, 0⟩, [])] :: L) := O.empI.mono fun E _ e he => by
  rcases List.mem_cons.1 he with rfl | he
  · exact .inl ⟨rfl, rfl⟩
  · rw [List.mem_singleton.1 he]; exact .inl ⟨rfl, rfl⟩
def QS.fresh (node shard : Int) (cop : List Int) : QS := ⟨node, shard, cop, 0, 0, 0, (0, 0), (0, 0), [], (0, 0), [], 0, 0, [], [], [], []⟩
theorem F_quorum_New.is {node shard : Int} {s : Sl} {cop : List Int} {Q : Option Addr → Heap → Prop} (V1 : Stays h0 L fun h => View h 1 (En i64c) s cop) (hl : cop.length ≤ 1000000) (O : Sat h0 h L) (k : ∀ p h', Sat h0 h' (quR p (QS.fresh node shard cop) :: L) → Q (some (pt p 0)) h') : F_quorum_New node shard s h Q := by
  rw [F_quorum_New.eq_1, F_quorum_New_of.eq_1]
  refine F_slices_Clone_abbee.is O V1 hl fun sc h O => ?_
  refine O.alm fun m6 h O => ?_
  refine O.alm fun m8 h O => ?_
  refine O.alm fun m10 h O => ?_
  refine O.alm fun m12 h O => ?_
  refine O.al fun p h O => ?_
  refine k p h ?_
  have O := pool_nils O
  exact Sat.quI (QS.fresh node shard cop) ⟨sc, ⟨none, 0, 0⟩, ⟨none, 0, 0⟩, m6, m8, m10, m12⟩ (O.sel [1, 6, 5, 4, 3, 2, 0] 7 rfl (Nat.le_add_left _ _))
theorem F_quorum_Quorum_most.is {n : Int} {Q : Bool → Heap → Prop} (ok : q.cop.length ≤ 1000000) (O : Sat h0 h (quR p q :: L)) (k : Q (q.most n) h) : F_quorum_Quorum_most (some (pt p 0)) n h Q := by
  rw [F_quorum_Quorum_most.eq_1, F_quorum_Quorum_most_of.eq_1]
  obtain ⟨a, O⟩ := O.qu
  refine ⟨_, rfl, ?_⟩
  refine O.ld 0 rfl (ldL_c (k := .sl) (x := a.sc) (ldL_n ?_))
  refine ⟨by decide, ?_⟩
  rw [(O.view 1 i64c_len (by simp) rfl).1.len, Int.tdiv_eq_ediv_of_nonneg (by omega), wrap64 (by omega) (by omega)]
  exact k
theorem F_quorum_Quorum_Holds.is {Q : Bool → Heap → Prop} (O : Sat h0 h (quR p q :: L)) (k : Q q.holds h) : F_quorum_Quorum_Holds (some (pt p 0)) h Q := by
  rw [F_quorum_Quorum_Holds.eq_1, F_quorum_Quorum_Holds_of.eq_1]
  obtain ⟨a, O⟩ := O.qu
  refine jn1 (fun z h' => h' = h ∧ z = q.holds) (fun z h' e => by obtain ⟨rfl, rfl⟩ := e; exact k) fun j hj => ?_
  refine ⟨_, rfl, ?_⟩
  refine O.ld 0 rfl (ldL_c (ldL_n ?_))
  refine brr_eq (fun h3 => hj _ _ ⟨rfl, by simp [QS.holds, h3]⟩) (fun h3 => ?_)
  refine ⟨_, rfl, ?_⟩
  refine O.ld 0 rfl (ldL_c (ldL_n ?_))
  refine brr_eq (fun h2 => ?_) (fun h2 => hj _ _ ⟨rfl, by simp [QS.holds, h3, h2]⟩)
  refine ⟨_, rfl, ?_⟩
  refine O.ld 0 rfl (ldL_c (ldL_n ?_))
  refine hj _ _ ⟨rfl, ?_⟩
  simp only [QS.holds, h2]
  simp
theorem F_quorum_Quorum_mine.is {c : Int} {C : List Value} {M : List Res} {K : Bool → Heap → Prop} (O : Sat h0 h (own p (.int .i64 q.node :: C) :: M)) (k : K (c == q.node) h) : F_quorum_Quorum_mine (some (pt p 0)) c h K := by
  rw [F_quorum_Quorum_mine.eq_1, F_quorum_Quorum_mine_of.eq_1]
  refine ⟨_, rfl, ?_⟩
  refine O.ld 0 rfl (ldL_c (ldL_n ?_))
  exact k
theorem F_quorum_nodes_in.is {c : Int} {r i : Nat} {l : List Int} {K : Bool → Heap → Prop} (O : Sat h0 h L) (hi : nth i L = mapR r l) (k : K (decide (c ∈ l)) h) : F_quorum_nodes_in (some r) c h K := by
  rw [F_quorum_nodes_in.eq_1, F_quorum_nodes_in_of.eq_1]
  exact O.mg i hi k
theorem F_quorum_Quorum_prepares.is {Q : Sl → Heap → Prop} (ok : q.Ok) (O : Sat h0 h (quR p q :: L)) (k : ∀ s h', Sat h0 h' (msgsR s q.prepares :: quR p q :: L) → Q s h') : F_quorum_Quorum_prepares (some (pt p 0)) h Q := by
  rw [F_quorum_Quorum_prepares.eq_1, F_quorum_Quorum_prepares_of.eq_1]
  obtain ⟨a, O⟩ := O.qu
  refine ⟨_, rfl, ?_⟩
  refine O.ld 0 rfl (ldL_c (ldL_n ?_))
  refine F_quorum_Quorum_send.is (x := { mgz with kind := 1, epoch := q.epoch }) (out := fun c => c == q.node) ok.c (by show (0 : Nat) ≤ _; decide) (fun h O => View.nil (p := none) (c := 0)) (fun c {M h K} O kk => ?_) O fun s h O => ?_
  · refine dyn1_at ?_
    refine Eq.mpr call_mine ?_
    exact F_quorum_Quorum_mine.is O kk
  · exact k _ _ (Sat.quI q a (O.sel [1, 2, 3, 4, 5, 6, 7, 0] 8 rfl (Nat.le_add_left _ _)) |>.swap)
theorem F_quorum_Quorum_writes.is {span : Int} {Q : Sl → Heap → Prop} (ok : q.Ok) (O : Sat h0 h (quR p q :: L)) (k : ∀ s h', Sat h0 h' (msgsR s (q.writes span) :: quR p q :: L) → Q s h') : F_quorum_Quorum_writes (some (pt p 0)) span h Q := by
  rw [F_quorum_Quorum_writes.eq_1, F_quorum_Quorum_writes_of.eq_1]
  obtain ⟨a, O⟩ := O.qu
  refine ⟨_, rfl, ?_⟩
  refine O.ld 0 rfl (ldL_c (ldL_c (ldL_n ?_)))
  refine ⟨_, rfl, ?_⟩
  refine O.ld 0 rfl (ldL_c (k := .sl) (x := a.sv) (ldL_n ?_))
  refine ⟨_, rfl, ?_⟩
  refine O.ld 0 rfl (ldL_c (k := .map) (x := some a.r2) (ldL_n ?_))
  refine F_quorum_Quorum_send.is (x := { mgz with kind := 4, te := q.tag.1, ts := q.tag.2, span := span, v := a.sv, b := q.val }) (out := fun c => decide (c ∈ q.wr)) ok.c ok.v (fun h O => pool_view O 4 (by simp) rfl (e := (a.sv, q.val)) (by simp)) (fun c {M h K} O kk => ?_) O fun s h O => ?_
  · refine dyn1_at ?_
    refine Eq.mpr call_in ?_
    exact F_quorum_nodes_in.is O (i := 3) rfl kk
  · exact k _ _ (Sat.quI q a (O.sel [1, 2, 3, 4, 5, 6, 7, 0] 8 rfl (Nat.le_add_left _ _)) |>.swap)
theorem F_quorum_Quorum_beats.is {span : Int} {Q : Sl → Heap → Prop} (ok : q.Ok) (O : Sat h0 h (quR p q :: L)) (k : ∀ s h', Sat h0 h' (msgsR s (q.beats span) :: quR p q :: L) → Q s h') : F_quorum_Quorum_beats (some (pt p 0)) span h Q := by
  rw [F_quorum_Quorum_beats.eq_1, F_quorum_Quorum_beats_of.eq_1]
  obtain ⟨a, O⟩ := O.qu
  refine ⟨_, rfl, ?_⟩
  refine O.ld 0 rfl (ldL_c (ldL_n ?_))
  refine ⟨_, rfl, ?_⟩
  refine O.ld 0 rfl (ldL_c (ldL_n ?_))
  refine ⟨_, rfl, ?_⟩
  refine O.ld 0 rfl (ldL_c (k := .map) (x := some a.r4) (ldL_n ?_))
  refine F_quorum_Quorum_send.is (x := { mgz with kind := 6, epoch := q.epoch, round := q.begun, span := span }) (out := fun c => decide (c ∈ q.bt)) ok.c (by show (0 : Nat) ≤ _; decide) (fun h O => View.nil (p := none) (c := 0)) (fun c {M h K} O kk => ?_) O fun s h O => ?_
  · refine dyn1_at ?_
    refine Eq.mpr call_in ?_
    exact F_quorum_nodes_in.is O (i := 5) rfl kk
  · exact k _ _ (Sat.quI q a (O.sel [1, 2, 3, 4, 5, 6, 7, 0] 8 rfl (Nat.le_add_left _ _)) |>.swap)
theorem QS.Ok.wrt (ok : q.Ok) {seq : Int} (hs : 0 ≤ seq) : (q.wrt seq).Ok := ⟨ok.c, ok.v, ok.w, ok.n, ok.s, hs, ok.b⟩
theorem F_quorum_Quorum_write.is {seq span : Int} {Q : Sl → Heap → Prop} (ok : q.Ok) (hs : 0 ≤ seq) (O : Sat h0 h (quR p q :: L)) (k : ∀ s h', Sat h0 h' (msgsR s ((q.wrt seq).writes span) :: quR p (q.wrt seq) :: L) → Q s h') : F_quorum_Quorum_write (some (pt p 0)) seq span h Q := by
  rw [F_quorum_Quorum_write.eq_1, F_quorum_Quorum_write_of.eq_1]
  obtain ⟨a, O⟩ := O.qu
  refine ⟨_, rfl, ?_⟩
  refine O.ld 0 rfl (ldL_c (ldL_n ?_))
  refine ⟨_, rfl, ?_⟩
  refine st_ad (b := p) (o := 3) rfl ?_
  refine O.st 0 rfl (by simp) rfl fun h O => ?_
  dsimp only [V.put, List.set] at O
  refine ⟨_, rfl, ?_⟩
  refine st_ad (b := p) (o := 8) rfl ?_
  refine O.st 0 rfl (by simp) rfl fun h O => ?_
  dsimp only [V.put, List.set] at O
  refine ⟨_, rfl, ?_⟩
  refine O.ld 0 rfl (ldL_c (k := .map) (x := some a.r2) (ldL_n ?_))
  refine O.mclr 3 rfl fun h O => ?_
  exact F_quorum_Quorum_writes.is (ok.wrt hs) (Sat.quI (q.wrt seq) a O) k
theorem F_quorum_Quorum_Stop.is {Q : Heap → Prop} (O : Sat h0 h (quR p q :: L)) (k : ∀ h', Sat h0 h' (quR p q.stop :: L) → Q h') : F_quorum_Quorum_Stop (some (pt p 0)) h Q := by
  rw [F_quorum_Quorum_Stop.eq_1, F_quorum_Quorum_Stop_of.eq_1]
  obtain ⟨a, O⟩ := O.qu
  refine ⟨_, rfl, ?_⟩
  refine st_ad (b := p) (o := 3) rfl ?_
  refine O.st 0 rfl (by simp) rfl fun h O => ?_
  dsimp only [V.put, List.set] at O
  refine ⟨_, rfl, ?_⟩
  refine st_ad (b := p) (o := 4) rfl ?_
  refine O.st 0 rfl (by simp) rfl fun h O => ?_
  dsimp only [V.put, List.set] at O
  refine ⟨_, rfl, ?_⟩
  refine st_ad (b := p) (o := 8) rfl ?_
  refine O.st 0 rfl (by simp) rfl fun h O => ?_
  dsimp only [V.put, List.set] at O
  refine ⟨_, rfl, ?_⟩
  refine st_ad (b := p) (o := 11) rfl ?_
  refine O.st 0 rfl (by simp) rfl fun h O => ?_
  dsimp only [V.put, List.set] at O
  refine ⟨_, rfl, ?_⟩
  refine st_ad (b := p) (o := 10) rfl ?_
  refine O.st 0 rfl (by simp) rfl fun h O => ?_
  dsimp only [V.put, List.set] at O
  refine ⟨_, rfl, ?_⟩
  refine st_ad (b := p) (o := 13) rfl ?_
  refine O.st 0 rfl (by simp) rfl fun h O => ?_
  dsimp only [V.put, List.set] at O
  refine ⟨_, rfl, ?_⟩
  refine st_ad (b := p) (o := 14) rfl ?_
  refine O.st 0 rfl (by simp) rfl fun h O => ?_
  dsimp only [V.put, List.set] at O
  refine ⟨_, rfl, ?_⟩
  refine st_ad (b := p) (o := 15) rfl ?_
  refine O.st 0 rfl (by simp) rfl fun h O => ?_
  dsimp only [V.put, List.set] at O
  refine ⟨_, rfl, ?_⟩
  refine O.ld 0 rfl (ldL_c (k := .map) (x := some a.r1) (ldL_n ?_))
  refine ⟨_, rfl, ?_⟩
  refine O.ld 0 rfl (ldL_c (k := .map) (x := some a.r2) (ldL_n ?_))
  refine ⟨_, rfl, ?_⟩
  refine O.ld 0 rfl (ldL_c (k := .map) (x := some a.r3) (ldL_n ?_))
  refine ⟨_, rfl, ?_⟩
  refine O.ld 0 rfl (ldL_c (k := .map) (x := some a.r4) (ldL_n ?_))
  refine O.al fun x h O => ?_
  have O : Sat h0 h (own x [.map (some a.r1), .map (some a.r2), .map (some a.r3), .map (some a.r4)] :: own p [.int .i64 q.node, .int .i64 q.shard, .slice a.sc.ptr a.sc.len a.sc.cap, .int .i64 0, .int .u64 0, .int .u64 q.seen, .int .u64 q.best.1, .int .u64 q.best.2, .int .u64 0, .int .u64 0, .slice none 0 0, .int .u64 0, .int .u64 0, .slice none 0 0, .int .u64 0, .int .u64 0, .map (some a.r1), .map (some a.r2), .map (some a.r3), .map (some a.r4)] :: buf 1 i64c a.sc q.cop :: mapR a.r1 q.pm :: mapR a.r2 q.wr :: mapR a.r3 q.rf :: mapR a.r4 q.bt :: poolR [(a.sv, q.val), (a.sw, q.what)] :: L) := O
  refine jn0 (fun h' => Sat h0 h' (quR p q.stop :: L)) (fun h O => k h O) fun j hj => ?_
  rw [F_quorum_Quorum_Stop.l1.eq_1]
  refine wl1 (k := .int .i64) (fun (m : Nat) (i : Int) (h' : Heap) => i + m = 4 ∧ 0 ≤ i ∧ Sat h0 h' (own x [.map (some a.r1), .map (some a.r2), .map (some a.r3), .map (some a.r4)] :: own p [.int .i64 q.node, .int .i64 q.shard, .slice a.sc.ptr a.sc.len a.sc.cap, .int .i64 0, .int .u64 0, .int .u64 q.seen, .int .u64 q.best.1, .int .u64 q.best.2, .int .u64 0, .int .u64 0, .slice none 0 0, .int .u64 0, .int .u64 0, .slice none 0 0, .int .u64 0, .int .u64 0, .map (some a.r1), .map (some a.r2), .map (some a.r3), .map (some a.r4)] :: buf 1 i64c a.sc q.cop :: mapR a.r1 (if 0 < i then [] else q.pm) :: mapR a.r2 (if 1 < i then [] else q.wr) :: mapR a.r3 (if 2 < i then [] else q.rf) :: mapR a.r4 (if 3 < i then [] else q.bt) :: poolR [(a.sv, q.val), (a.sw, q.what)] :: L)) ?_ (m := 4) ⟨by omega, by omega, by simpa using O⟩
  clear O
  rintro m (i : Int) h next hnx ⟨him, hi0, O⟩
  refine brr_p (fun hlt => ?_) (fun hlt => hj _ ?_)
  case refine_2 =>
    have hlt : ¬ i < 4 := hlt
    rw [if_pos (show 0 < i by omega), if_pos (show 1 < i by omega), if_pos (show 2 < i by omega), if_pos (show 3 < i by omega)] at O
    have O := pool_nils (O.sel [1, 2, 3, 4, 5, 6] 8 rfl (Nat.le_add_left _ _))
    exact Sat.quI q.stop ⟨a.sc, ⟨none, 0, 0⟩, ⟨none, 0, 0⟩, a.r1, a.r2, a.r3, a.r4⟩ (O.sel [1, 2, 3, 4, 5, 6, 0] 7 rfl (Nat.le_add_left _ _))
  have hlt : i < 4 := hlt
  have hi : i = 0 ∨ i = 1 ∨ i = 2 ∨ i = 3 := by omega
  rcases hi with rfl | rfl | rfl | rfl
  · refine ⟨_, rfl, by decide, (show (0 : Int) < 4 by decide), ?_⟩
    refine O.ld 0 rfl (ldL_c (k := .map) (x := some a.r1) (ldL_n ?_))
    refine O.mclr 3 rfl fun h O => ?_
    rw [wrap64 (by omega) (by omega)]
    exact hnx 3 _ _ (by omega) ⟨by omega, by omega, O⟩
  · refine ⟨_, rfl, by decide, (show (1 : Int) < 4 by decide), ?_⟩
    refine O.ld 0 rfl (ldL_c (k := .map) (x := some a.r2) (ldL_n ?_))
    refine O.mclr 4 rfl fun h O => ?_
    rw [wrap64 (by omega) (by omega)]
    exact hnx 2 _ _ (by omega) ⟨by omega, by omega, O⟩
  · refine ⟨_, rfl, by decide, (show (2 : Int) < 4 by decide), ?_⟩
    refine O.ld 0 rfl (ldL_c (k := .map) (x := some a.r3) (ldL_n ?_))
    refine O.mclr 5 rfl fun h O => ?_
    rw [wrap64 (by omega) (by omega)]
    exact hnx 1 _ _ (by omega) ⟨by omega, by omega, O⟩
  · refine ⟨_, rfl, by decide, (show (3 : Int) < 4 by decide), ?_⟩
    refine O.ld 0 rfl (ldL_c (k := .map) (x := some a.r4) (ldL_n ?_))
    refine O.mclr 6 rfl fun h O => ?_
    rw [wrap64 (by omega) (by omega)]
    exact hnx 0 _ _ (by omega) ⟨by omega, by omega, O⟩
theorem QS.Ok.stop (ok : q.Ok) : q.stop.Ok := ⟨ok.c, by simp [QS.stop], by simp [QS.stop], List.nodup_nil, fun x hx => absurd hx List.not_mem_nil, Int.le_refl _, Int.le_refl _⟩
theorem QS.Ok.start0 (ok : q.Ok) {e te ts : Int} {b : List UInt8} (hb : b.length ≤ (140737488355325 : Nat)) : (q.start0 e te ts b).Ok := ⟨ok.c, hb, by simp [QS.start0, QS.stop], List.nodup_nil, fun x hx => absurd hx List.not_mem_nil, Int.le_refl _, Int.le_refl _⟩
theorem QS.Ok.start (ok : q.Ok) {e te ts span : Int} {b : List UInt8} (hb : b.length ≤ (140737488355325 : Nat)) : (q.start e te ts b span).1.Ok := by
  unfold QS.start
  split
  · exact (ok.start0 hb).wrt (by decide)
  · exact ok.start0 hb
theorem F_quorum_Quorum_Start.is {e e0 te ts span : Int} {v : Sl} {b : List UInt8} {Q : Sl → Heap → Prop} (ok : q.Ok) (hb : b.length ≤ (140737488355325 : Nat)) (Vv : Stays h0 L fun h => Bytes h v b) (O : Sat h0 h (quR p q :: L)) (k : ∀ s h', Sat h0 h' (msgsR s (q.start e te ts b span).2 :: quR p (q.start e te ts b span).1 :: L) → Q s h') : F_quorum_Quorum_Start (some (pt p 0)) e e0 te ts v span h Q := by
  rw [F_quorum_Quorum_Start.eq_1, F_quorum_Quorum_Start_of.eq_1]
  refine O.al fun x h O => ?_
  refine F_quorum_Quorum_Stop.is O.swap fun h O => ?_
  obtain ⟨a, O⟩ := O.qu
  have ok0 := ok.start0 (e := e) (te := te) (ts := ts) hb
  refine ⟨_, rfl, ?_⟩
  refine st_ad (b := p) (o := 3) rfl ?_
  refine O.st 0 rfl (by simp) rfl fun h O => ?_
  dsimp only [V.put, List.set] at O
  refine ⟨_, rfl, ?_⟩
  refine st_ad (b := p) (o := 4) rfl ?_
  refine O.st 0 rfl (by simp) rfl fun h O => ?_
  dsimp only [V.put, List.set] at O
  refine O.ld 7 rfl (ldL_c (ldL_c (ldL_n ?_)))
  refine O.ld 7 rfl (ldL_c (k := .sl) (x := v) (ldL_n ?_))
  refine F_slices_Clone_cbaad.is O (fun h O => Vv h (O.sel [] 8 rfl (Nat.le_add_left _ _))) hb fun sv h O => ?_
  refine O.ca 8 2 rfl ?_
  refine ⟨_, rfl, ?_⟩
  refine st_ad (b := p) (o := 6) rfl ?_
  refine O.st 1 rfl (by simp) rfl fun h O => ?_
  dsimp only [V.put, List.set] at O
  refine ⟨_, rfl, ?_⟩
  refine st_ad (b := p) (o := 10) rfl ?_
  refine O.st 1 rfl (by simp) rfl fun h O => ?_
  dsimp only [V.put, List.set] at O
  refine ⟨_, rfl, ?_⟩
  refine O.ld 1 rfl (ldL_c (k := .map) (x := some a.r1) (ldL_n ?_))
  refine ⟨_, rfl, ?_⟩
  refine O.ld 1 rfl (ldL_c (ldL_n ?_))
  refine O.mput 3 rfl fun h O => ?_
  have O2 := pool_take (O.sel [0, 7, 1, 2, 3, 4, 5, 6] 9 rfl (Nat.le_add_left _ _))
  have O2 := pool_sub O2 (fs := [(sv, b), (a.sw, [])]) (by
    intro e he
    simp only [List.mem_cons, List.not_mem_nil, or_false] at he
    rcases he with rfl | rfl
    · simp
    · simp [QS.stop])
  have O : Sat h0 h (quR p (q.start0 e te ts b) :: L) := Sat.quI (q.start0 e te ts b) ⟨a.sc, sv, a.sw, a.r1, a.r2, a.r3, a.r4⟩ (O2.sel [1, 2, 3, 4, 5, 6, 0] 7 rfl (Nat.le_add_left _ _))
  refine F_quorum_Quorum_most.is ok0.c O ?_
  unfold QS.start at k
  refine brr_of (fun hm => ?_) (fun hm => ?_)
  · rw [if_pos hm] at k
    exact F_quorum_Quorum_write.is ok0 (by decide) O k
  · rw [if_neg (by simp [hm])] at k
    exact F_quorum_Quorum_prepares.is ok0 O k
end
end Go.Proofs.Ytigcpkejjjgkeaa.V
/- The program's quorum: what it does with a message of each kind; Hear. -/
namespace Go.Proofs.Ytigcpkejjjgkeaa.V
open Go Go.RowKit
set_option linter.unusedVariables false
set_option linter.unusedSimpArgs false
section
variable {h0 h : Heap} {L : List Res} {p : Nat} {q : QS} {m : Mg}
theorem msgs_none (O : Sat h0 h L) : Sat h0 h (msgsR ⟨none, 0, 0⟩ [] :: L) := Sat.msgsI (ls := []) rfl ((O.none (f := mvR)).nil_buf (sz := 22) (enc := mgC))
theorem F_quorum_above.is {a b c d : Int} {Q : Bool → Heap → Prop} (O : Sat h0 h L) (k : ∀ h', Sat h0 h' L → Q (decide (tagLt c d a b)) h') : F_quorum_above a b c d h Q := by
  rw [F_quorum_above.eq_1, F_quorum_above_of.eq_1]
  refine O.al fun x h O => ?_
  refine O.al fun y h O => ?_
  refine jn1 (fun z h' => h' = h ∧ z = decide (tagLt c d a b)) (fun z h' e => by obtain ⟨rfl, rfl⟩ := e; exact k _ O.drop.drop) fun j hj => ?_
  refine O.ld 1 rfl (ldL_c (ldL_n ?_))
  refine O.ld 0 rfl (ldL_c (ldL_n ?_))
  refine brr_p (fun h1 => hj _ _ ⟨rfl, (decide_eq_true (by unfold tagLt; omega)).symm⟩) (fun h1 => ?_)
  refine O.ld 1 rfl (ldL_c (ldL_n ?_))
  refine O.ld 0 rfl (ldL_c (ldL_n ?_))
  refine brr_eq (fun h2 => ?_) (fun h2 => hj _ _ ⟨rfl, (decide_eq_false (by unfold tagLt; omega)).symm⟩)
  refine O.ld 1 rfl (ldL_c (ldL_n ?_))
  refine O.ld 0 rfl (ldL_c (ldL_n ?_))
  exact hj _ _ ⟨rfl, decide_eq_decide.2 (by unfold tagLt; omega)⟩
theorem QS.Ok.prom (ok : q.Ok) (hb : m.b.length ≤ (140737488355325 : Nat)) : (q.prom m).Ok := by
  unfold QS.prom
  split
  · exact ⟨ok.c, hb, ok.w, ok.n, ok.s, ok.t, ok.b⟩
  · exact ⟨ok.c, ok.v, ok.w, ok.n, ok.s, ok.t, ok.b⟩
theorem QS.Ok.promise (ok : q.Ok) (hb : m.b.length ≤ (140737488355325 : Nat)) (span : Int) : (q.promise m span).1.Ok := by
  unfold QS.promise
  split
  · exact ok
  · split
    · exact (ok.prom hb).wrt (by decide)
    · exact ok.prom hb
theorem F_quorum_Quorum_promise.is {span : Int} {Q : Sl → Heap → Prop} (ok : q.Ok) (hb : m.b.length ≤ (140737488355325 : Nat)) (Vv : Stays h0 L fun h => Bytes h m.v m.b) (O : Sat h0 h (quR p q :: L)) (k : ∀ s h', Sat h0 h' (msgsR s (q.promise m span).2 :: quR p (q.promise m span).1 :: L) → Q s h') : F_quorum_Quorum_promise (some (pt p 0)) m.kind m.frm m.to m.shard m.epoch m.te m.ts m.round m.span m.seen m.v m.peer m.num m.name m.other m.amount m.life m.id m.op m.client m.state m.bad span h Q := by
  rw [F_quorum_Quorum_promise.eq_1, F_quorum_Quorum_promise_of.eq_1]
  refine O.al fun x h O => ?_
  obtain ⟨a, O⟩ := O.swap.qu
  have O : Sat h0 h (own p [.int .i64 q.node, .int .i64 q.shard, .slice a.sc.ptr a.sc.len a.sc.cap, .int .i64 q.phase, .int .u64 q.epoch, .int .u64 q.seen, .int .u64 q.best.1, .int .u64 q.best.2, .int .u64 q.tag.1, .int .u64 q.tag.2, .slice a.sv.ptr a.sv.len a.sv.cap, .int .u64 q.chosen.1, .int .u64 q.chosen.2, .slice a.sw.ptr a.sw.len a.sw.cap, .int .u64 q.begun, .int .u64 q.done, .map (some a.r1), .map (some a.r2), .map (some a.r3), .map (some a.r4)] :: buf 1 i64c a.sc q.cop :: mapR a.r1 q.pm :: mapR a.r2 q.wr :: mapR a.r3 q.rf :: mapR a.r4 q.bt :: poolR [(a.sv, q.val), (a.sw, q.what)] :: own x (mgC m) :: L) := O
  refine jn1 (fun z h' => h' = h ∧ z = decide (q.phase ≠ 1 ∨ m.epoch ≠ q.epoch ∨ m.frm ∈ q.pm)) ?_ ?_
  case refine_2 =>
    intro j hj
    refine ⟨_, rfl, ?_⟩
    refine O.ld 0 rfl (ldL_c (ldL_n ?_))
    refine brr_ne (fun h1 => hj _ _ ⟨rfl, by simp [h1]⟩) (fun h1 => ?_)
    refine O.ld 7 rfl (ldL_c (ldL_n ?_))
    refine ⟨_, rfl, ?_⟩
    refine O.ld 0 rfl (ldL_c (ldL_n ?_))
    refine brr_ne (fun h2 => hj _ _ ⟨rfl, by simp [h2]⟩) (fun h2 => ?_)
    refine ⟨_, rfl, ?_⟩
    refine O.ld 0 rfl (ldL_c (k := .map) (x := some a.r1) (ldL_n ?_))
    refine O.ld 7 rfl (ldL_c (ldL_n ?_))
    refine O.mg 2 rfl ?_
    exact hj _ _ ⟨rfl, by simp [h1, h2]⟩
  rintro z h2 ⟨rfl, rfl⟩
  unfold QS.promise at k
  refine brr_p (fun hc => ?_) (fun hc => ?_)
  · rw [if_pos hc] at k
    exact k _ _ (msgs_none (Sat.quI q a (O.sel [0, 1, 2, 3, 4, 5, 6] 8 rfl (Nat.le_add_left _ _))))
  rw [if_neg hc] at k
  refine ⟨_, rfl, ?_⟩
  refine O.ld 0 rfl (ldL_c (k := .map) (x := some a.r1) (ldL_n ?_))
  refine O.ld 7 rfl (ldL_c (ldL_n ?_))
  refine O.mput 2 rfl fun h O => ?_
  refine O.ld 7 rfl (ldL_c (ldL_c (ldL_n ?_)))
  refine ⟨_, rfl, ?_⟩
  refine O.ld 0 rfl (ldL_c (ldL_c (ldL_n ?_)))
  refine F_quorum_above.is O fun h O => ?_
  have okp := ok.prom (m := m) hb
  refine jn0 (fun h' => Sat h0 h' (quR p (q.prom m) :: L)) ?_ ?_
  · clear O
    intro h O
    obtain ⟨a, O1⟩ := O.qu
    refine ⟨_, rfl, ?_⟩
    refine O1.ld 0 rfl (ldL_c (k := .map) (x := some a.r1) (ldL_n ?_))
    refine O1.mlen 2 rfl ?_
    refine F_quorum_Quorum_most.is okp.c O ?_
    refine brr_of (fun hm => ?_) (fun hm => ?_)
    · rw [if_pos hm] at k
      exact F_quorum_Quorum_write.is okp (by decide) O k
    · rw [if_neg (by simp [hm])] at k
      exact k _ _ (msgs_none O)
  · intro j hj
    refine brr_p (fun ht => ?_) (fun ht => ?_)
    · refine O.ld 7 rfl (ldL_c (ldL_c (ldL_n ?_)))
      refine O.ld 7 rfl (ldL_c (k := .sl) (x := m.v) (ldL_n ?_))
      refine F_slices_Clone_cbaad.is O (fun h O => Vv h (O.sel [] 8 rfl (Nat.le_add_left _ _))) hb fun sv h O => ?_
      refine O.ca 8 2 rfl ?_
      refine ⟨_, rfl, ?_⟩
      refine st_ad (b := p) (o := 6) rfl ?_
      refine O.st 1 rfl (by simp) rfl fun h O => ?_
      dsimp only [V.put, List.set] at O
      refine ⟨_, rfl, ?_⟩
      refine st_ad (b := p) (o := 10) rfl ?_
      refine O.st 1 rfl (by simp) rfl fun h O => ?_
      dsimp only [V.put, List.set] at O
      have O2 := pool_take (O.sel [0, 7, 1, 2, 3, 4, 5, 6] 9 rfl (Nat.le_add_left _ _))
      have O2 := pool_sub O2 (fs := [(sv, m.b), (a.sw, q.what)]) (by
        intro e he
        simp only [List.mem_cons, List.not_mem_nil, or_false] at he
        rcases he with rfl | rfl <;> simp)
      refine hj _ ?_
      unfold QS.prom
      rw [if_pos ht]
      exact Sat.quI ({ q with pm := putK q.pm m.frm, best := (m.te, m.ts), val := m.b }) ⟨a.sc, sv, a.sw, a.r1, a.r2, a.r3, a.r4⟩ (O2.sel [1, 2, 3, 4, 5, 6, 0] 7 rfl (Nat.le_add_left _ _))
    · refine hj _ ?_
      unfold QS.prom
      rw [if_neg ht]
      exact Sat.quI ({ q with pm := putK q.pm m.frm }) a (O.sel [0, 1, 2, 3, 4, 5, 6] 8 rfl (Nat.le_add_left _ _))
theorem QS.Ok.stored (ok : q.Ok) : (q.stored m).Ok := by
  unfold QS.stored
  split
  · split
    · exact ⟨ok.c, ok.v, ok.v, ok.n, ok.s, ok.t, ok.b⟩
    · exact ⟨ok.c, ok.v, ok.w, ok.n, ok.s, ok.t, ok.b⟩
  · exact ok
theorem F_quorum_Quorum_stored.is {span : Int} {Q : Sl → Heap → Prop} (ok : q.Ok) (O : Sat h0 h (quR p q :: L)) (k : ∀ s h', Sat h0 h' (msgsR s [] :: quR p (q.stored m) :: L) → Q s h') : F_quorum_Quorum_stored (some (pt p 0)) m.kind m.frm m.to m.shard m.epoch m.te m.ts m.round m.span m.seen m.v m.peer m.num m.name m.other m.amount m.life m.id m.op m.client m.state m.bad span h Q := by
  rw [F_quorum_Quorum_stored.eq_1, F_quorum_Quorum_stored_of.eq_1]
  refine O.al fun x h O => ?_
  obtain ⟨a, O⟩ := O.swap.qu
  have O : Sat h0 h (own p [.int .i64 q.node, .int .i64 q.shard, .slice a.sc.ptr a.sc.len a.sc.cap, .int .i64 q.phase, .int .u64 q.epoch, .int .u64 q.seen, .int .u64 q.best.1, .int .u64 q.best.2, .int .u64 q.tag.1, .int .u64 q.tag.2, .slice a.sv.ptr a.sv.len a.sv.cap, .int .u64 q.chosen.1, .int .u64 q.chosen.2, .slice a.sw.ptr a.sw.len a.sw.cap, .int .u64 q.begun, .int .u64 q.done, .map (some a.r1), .map (some a.r2), .map (some a.r3), .map (some a.r4)] :: buf 1 i64c a.sc q.cop :: mapR a.r1 q.pm :: mapR a.r2 q.wr :: mapR a.r3 q.rf :: mapR a.r4 q.bt :: poolR [(a.sv, q.val), (a.sw, q.what)] :: own x (mgC m) :: L) := O
  refine jn1 (fun z h' => h' = h ∧ z = decide (q.phase = 2 ∧ m.te = q.tag.1 ∧ m.ts = q.tag.2)) ?_ ?_
  case refine_2 =>
    intro j hj
    refine ⟨_, rfl, ?_⟩
    refine O.ld 0 rfl (ldL_c (ldL_n ?_))
    refine brr_eq (fun h1 => ?_) (fun h1 => hj _ _ ⟨rfl, by simp [h1]⟩)
    refine O.ld 7 rfl (ldL_c (ldL_c (ldL_n ?_)))
    refine ⟨_, rfl, ?_⟩
    refine O.ld 0 rfl (ldL_c (ldL_c (ldL_n ?_)))
    refine hj _ _ ⟨rfl, ?_⟩
    rw [Bool.eq_iff_iff]
    simp [h1]
  rintro z h2 ⟨rfl, rfl⟩
  unfold QS.stored at k
  refine jn0 (fun h' => Sat h0 h' (quR p (if q.phase = 2 ∧ m.te = q.tag.1 ∧ m.ts = q.tag.2 then if q.most ((putK q.wr m.frm).length : Nat) = true then { q with wr := putK q.wr m.frm, phase := 3, chosen := q.tag, what := q.val } else { q with wr := putK q.wr m.frm } else q) :: L)) (fun h O => k _ _ (msgs_none O)) fun j hj => ?_
  refine brr_p (fun hc => ?_) (fun hc => ?_)
  case refine_2 =>
    rw [if_neg hc] at hj
    exact hj _ (Sat.quI q a (O.sel [0, 1, 2, 3, 4, 5, 6] 8 rfl (Nat.le_add_left _ _)))
  rw [if_pos hc] at hj
  refine ⟨_, rfl, ?_⟩
  refine O.ld 0 rfl (ldL_c (k := .map) (x := some a.r2) (ldL_n ?_))
  refine O.ld 7 rfl (ldL_c (ldL_n ?_))
  refine O.mput 3 rfl fun h O => ?_
  refine ⟨_, rfl, ?_⟩
  refine O.ld 0 rfl (ldL_c (k := .map) (x := some a.r2) (ldL_n ?_))
  refine O.mlen 3 rfl ?_
  have Om := Sat.quI ({ q with wr := putK q.wr m.frm }) a (O.sel [0, 1, 2, 3, 4, 5, 6] 8 rfl (Nat.le_add_left _ _))
  refine F_quorum_Quorum_most.is (q := { q with wr := putK q.wr m.frm }) ok.c Om ?_
  refine jn_go ?_
  refine brr_of (fun hm => ?_) (fun hm => ?_)
  · rw [if_pos (show q.most _ = true from hm)] at hj
    refine ⟨_, rfl, ?_⟩
    refine O.ld 0 rfl (ldL_c (ldL_c (ldL_n ?_)))
    refine ⟨_, rfl, ?_⟩
    refine O.ld 0 rfl (ldL_c (k := .sl) (x := a.sv) (ldL_n ?_))
    refine ⟨_, rfl, ?_⟩
    refine st_ad (b := p) (o := 3) rfl ?_
    refine O.st 0 rfl (by simp) rfl fun h O => ?_
    dsimp only [V.put, List.set] at O
    refine ⟨_, rfl, ?_⟩
    refine st_ad (b := p) (o := 11) rfl ?_
    refine O.st 0 rfl (by simp) rfl fun h O => ?_
    dsimp only [V.put, List.set] at O
    refine ⟨_, rfl, ?_⟩
    refine st_ad (b := p) (o := 13) rfl ?_
    refine O.st 0 rfl (by simp) rfl fun h O => ?_
    dsimp only [V.put, List.set] at O
    have O2 := pool_sub (O.sel [6, 0, 1, 2, 3, 4, 5] 8 rfl (Nat.le_add_left _ _)) (fs := [(a.sv, q.val), (a.sv, q.val)]) (by
      intro e he
      simp only [List.mem_cons, List.not_mem_nil, or_false] at he
      rcases he with rfl | rfl <;> simp)
    exact hj _ (Sat.quI ({ q with wr := putK q.wr m.frm, phase := 3, chosen := q.tag, what := q.val }) ⟨a.sc, a.sv, a.sv, a.r1, a.r2, a.r3, a.r4⟩ (O2.sel [1, 2, 3, 4, 5, 6, 0] 7 rfl (Nat.le_add_left _ _)))
  · rw [if_neg (show ¬ q.most _ = true by have hm : q.most ((putK q.wr m.frm).length : Nat) = false := hm; simp [hm])] at hj
    exact hj _ Om
theorem QS.Ok.refuse (ok : q.Ok) (hm : m.frm ∈ q.cop) : (q.refuse m).Ok := by
  unfold QS.refuse
  split
  · exact ⟨ok.c, ok.v, ok.w, ok.n, ok.s, ok.t, ok.b⟩
  · split
    · refine ⟨ok.c, ok.v, ok.w, putK_nodup ok.n, fun x hx => ?_, ok.t, ok.b⟩
      rcases putK_sub hx with hx | rfl
      · exact ok.s x hx
      · exact hm
    · exact QS.Ok.stop ⟨ok.c, ok.v, ok.w, ok.n, ok.s, ok.t, ok.b⟩
theorem F_quorum_Quorum_refuse.is {span : Int} {Q : Sl → Heap → Prop} (ok : q.Ok) (hm : m.frm ∈ q.cop) (O : Sat h0 h (quR p q :: L)) (k : ∀ s h', Sat h0 h' (msgsR s [] :: quR p (q.refuse m) :: L) → Q s h') : F_quorum_Quorum_refuse (some (pt p 0)) m.kind m.frm m.to m.shard m.epoch m.te m.ts m.round m.span m.seen m.v m.peer m.num m.name m.other m.amount m.life m.id m.op m.client m.state m.bad span h Q := by
  rw [F_quorum_Quorum_refuse.eq_1, F_quorum_Quorum_refuse_of.eq_1]
  refine O.al fun x h O => ?_
  obtain ⟨a, O⟩ := O.swap.qu
  have O : Sat h0 h (own p [.int .i64 q.node, .int .i64 q.shard, .slice a.sc.ptr a.sc.len a.sc.cap, .int .i64 q.phase, .int .u64 q.epoch, .int .u64 q.seen, .int .u64 q.best.1, .int .u64 q.best.2, .int .u64 q.tag.1, .int .u64 q.tag.2, .slice a.sv.ptr a.sv.len a.sv.cap, .int .u64 q.chosen.1, .int .u64 q.chosen.2, .slice a.sw.ptr a.sw.len a.sw.cap, .int .u64 q.begun, .int .u64 q.done, .map (some a.r1), .map (some a.r2), .map (some a.r3), .map (some a.r4)] :: buf 1 i64c a.sc q.cop :: mapR a.r1 q.pm :: mapR a.r2 q.wr :: mapR a.r3 q.rf :: mapR a.r4 q.bt :: poolR [(a.sv, q.val), (a.sw, q.what)] :: own x (mgC m) :: L) := O
  refine ⟨_, rfl, ?_⟩
  refine O.ld 0 rfl (ldL_c (ldL_n ?_))
  refine O.ld 7 rfl (ldL_c (ldL_n ?_))
  refine ⟨_, rfl, ?_⟩
  refine st_ad (b := p) (o := 5) rfl ?_
  refine O.st 0 rfl (by simp) rfl fun h O => ?_
  dsimp only [V.put, List.set] at O
  have O : Sat h0 h (own p [.int .i64 q.node, .int .i64 q.shard, .slice a.sc.ptr a.sc.len a.sc.cap, .int .i64 q.phase, .int .u64 q.epoch, .int .u64 (if m.seen > q.seen then m.seen else q.seen), .int .u64 q.best.1, .int .u64 q.best.2, .int .u64 q.tag.1, .int .u64 q.tag.2, .slice a.sv.ptr a.sv.len a.sv.cap, .int .u64 q.chosen.1, .int .u64 q.chosen.2, .slice a.sw.ptr a.sw.len a.sw.cap, .int .u64 q.begun, .int .u64 q.done, .map (some a.r1), .map (some a.r2), .map (some a.r3), .map (some a.r4)] :: buf 1 i64c a.sc q.cop :: mapR a.r1 q.pm :: mapR a.r2 q.wr :: mapR a.r3 q.rf :: mapR a.r4 q.bt :: poolR [(a.sv, q.val), (a.sw, q.what)] :: own x (mgC m) :: L) := O
  refine jn1 (fun z h' => h' = h ∧ z = decide (q.phase = 0 ∨ m.epoch ≠ q.epoch ∨ m.seen ≤ q.epoch)) ?_ ?_
  case refine_2 =>
    intro j hj
    refine ⟨_, rfl, ?_⟩
    refine O.ld 0 rfl (ldL_c (ldL_n ?_))
    refine brr_eq (fun h1 => hj _ _ ⟨rfl, by simp [h1]⟩) (fun h1 => ?_)
    refine O.ld 7 rfl (ldL_c (ldL_n ?_))
    refine ⟨_, rfl, ?_⟩
    refine O.ld 0 rfl (ldL_c (ldL_n ?_))
    refine brr_ne (fun h2 => hj _ _ ⟨rfl, by simp [h2]⟩) (fun h2 => ?_)
    refine O.ld 7 rfl (ldL_c (ldL_n ?_))
    refine ⟨_, rfl, ?_⟩
    refine O.ld 0 rfl (ldL_c (ldL_n ?_))
    exact hj _ _ ⟨rfl, by simp [h1, h2]⟩
  rintro z h2 ⟨rfl, rfl⟩
  unfold QS.refuse at k
  refine brr_p (fun hc => ?_) (fun hc => ?_)
  · rw [if_pos hc] at k
    exact k _ _ (msgs_none (Sat.quI (q.heed m) a (O.sel [0, 1, 2, 3, 4, 5, 6] 8 rfl (Nat.le_add_left _ _))))
  rw [if_neg hc] at k
  refine ⟨_, rfl, ?_⟩
  refine O.ld 0 rfl (ldL_c (k := .map) (x := some a.r3) (ldL_n ?_))
  refine O.ld 7 rfl (ldL_c (ldL_n ?_))
  refine O.mput 4 rfl fun h O => ?_
  have Om := Sat.quI ({ q.heed m with rf := putK q.rf m.frm }) a (O.sel [0, 1, 2, 3, 4, 5, 6] 8 rfl (Nat.le_add_left _ _))
  clear O
  have hrl : (putK q.rf m.frm).length ≤ q.cop.length := nodup_sub_len (putK_nodup ok.n) fun x hx => by
    rcases putK_sub hx with hx | rfl
    · exact ok.s x hx
    · exact hm
  have hcl := ok.c
  refine jn1 (fun z h' => z = !decide (q.holds = true ∧ q.most ((q.cop.length : Int) - ((putK q.rf m.frm).length : Nat)) = true) ∧ Sat h0 h' (quR p { q.heed m with rf := putK q.rf m.frm } :: L)) ?_ ?_
  case refine_2 =>
    intro j hj
    refine F_quorum_Quorum_Holds.is Om ?_
    refine brr_not ?_
    refine brr_of (fun hh => ?_) (fun hh => ?_)
    case refine_2 => exact hj _ _ ⟨by have hh : q.holds = false := hh; simp [hh], Om⟩
    obtain ⟨a2, O⟩ := Om.qu
    refine ⟨_, rfl, ?_⟩
    refine O.ld 0 rfl (ldL_c (k := .sl) (x := a2.sc) (ldL_n ?_))
    rw [(O.view 1 i64c_len (by simp) rfl).1.len]
    refine ⟨_, rfl, ?_⟩
    refine O.ld 0 rfl (ldL_c (k := .map) (x := some a2.r3) (ldL_n ?_))
    refine O.mlen 4 rfl ?_
    have ec : ({ q.heed m with rf := putK q.rf m.frm } : QS).cop = q.cop := rfl
    have er : ({ q.heed m with rf := putK q.rf m.frm } : QS).rf = putK q.rf m.frm := rfl
    rw [ec, er, wrap64 (by omega) (by omega)]
    refine F_quorum_Quorum_most.is (q := { q.heed m with rf := putK q.rf m.frm }) ok.c Om ?_
    refine hj _ _ ⟨?_, Om⟩
    have hh : q.holds = true := hh
    have em : ∀ n, ({ q.heed m with rf := putK q.rf m.frm } : QS).most n = q.most n := fun n => rfl
    rw [em]
    cases q.most ((q.cop.length : Int) - ((putK q.rf m.frm).length : Nat)) <;> simp [hh]
  rintro z h ⟨rfl, O⟩
  refine jn0 (fun h' => Sat h0 h' (quR p (if q.holds = true ∧ q.most ((q.cop.length : Int) - ((putK q.rf m.frm).length : Nat)) = true then { q.heed m with rf := putK q.rf m.frm } else (q.heed m).stop) :: L)) (fun h O => k _ _ (msgs_none O)) fun j hj => ?_
  refine brr_not ?_
  refine brr_p (fun hc => ?_) (fun hc => ?_)
  · rw [if_pos hc] at hj
    exact hj _ O
  · rw [if_neg hc] at hj
    exact F_quorum_Quorum_Stop.is O hj
theorem QS.Ok.beat (ok : q.Ok) : (q.beat m).Ok := by
  unfold QS.beat
  split
  · split
    · exact ⟨ok.c, ok.v, ok.w, ok.n, ok.s, ok.t, ok.b⟩
    · exact ⟨ok.c, ok.v, ok.w, ok.n, ok.s, ok.t, ok.b⟩
  · exact ok
theorem F_quorum_Quorum_beat.is {span : Int} {Q : Sl → Heap → Prop} (ok : q.Ok) (O : Sat h0 h (quR p q :: L)) (k : ∀ s h', Sat h0 h' (msgsR s [] :: quR p (q.beat m) :: L) → Q s h') : F_quorum_Quorum_beat (some (pt p 0)) m.kind m.frm m.to m.shard m.epoch m.te m.ts m.round m.span m.seen m.v m.peer m.num m.name m.other m.amount m.life m.id m.op m.client m.state m.bad span h Q := by
  rw [F_quorum_Quorum_beat.eq_1, F_quorum_Quorum_beat_of.eq_1]
  refine O.al fun x h O => ?_
  have Oq := O.swap
  obtain ⟨a, O⟩ := O.swap.qu
  have O : Sat h0 h (own p [.int .i64 q.node, .int .i64 q.shard, .slice a.sc.ptr a.sc.len a.sc.cap, .int .i64 q.phase, .int .u64 q.epoch, .int .u64 q.seen, .int .u64 q.best.1, .int .u64 q.best.2, .int .u64 q.tag.1, .int .u64 q.tag.2, .slice a.sv.ptr a.sv.len a.sv.cap, .int .u64 q.chosen.1, .int .u64 q.chosen.2, .slice a.sw.ptr a.sw.len a.sw.cap, .int .u64 q.begun, .int .u64 q.done, .map (some a.r1), .map (some a.r2), .map (some a.r3), .map (some a.r4)] :: buf 1 i64c a.sc q.cop :: mapR a.r1 q.pm :: mapR a.r2 q.wr :: mapR a.r3 q.rf :: mapR a.r4 q.bt :: poolR [(a.sv, q.val), (a.sw, q.what)] :: own x (mgC m) :: L) := O
  refine jn1 (fun z h' => h' = h ∧ z = decide (q.holds = true ∧ q.begun ≠ q.done ∧ m.epoch = q.epoch ∧ m.round = q.begun)) ?_ ?_
  case refine_2 =>
    intro j hj
    refine F_quorum_Quorum_Holds.is Oq ?_
    refine brr_of (fun hh => ?_) (fun hh => hj _ _ ⟨rfl, by simp [hh]⟩)
    refine ⟨_, rfl, ?_⟩
    refine O.ld 0 rfl (ldL_c (ldL_n ?_))
    refine ⟨_, rfl, ?_⟩
    refine O.ld 0 rfl (ldL_c (ldL_n ?_))
    refine brr_ne (fun h1 => ?_) (fun h1 => hj _ _ ⟨rfl, by simp [h1]⟩)
    refine O.ld 7 rfl (ldL_c (ldL_n ?_))
    refine ⟨_, rfl, ?_⟩
    refine O.ld 0 rfl (ldL_c (ldL_n ?_))
    refine brr_eq (fun h2 => ?_) (fun h2 => hj _ _ ⟨rfl, by simp [h2]⟩)
    refine O.ld 7 rfl (ldL_c (ldL_n ?_))
    refine ⟨_, rfl, ?_⟩
    refine O.ld 0 rfl (ldL_c (ldL_n ?_))
    refine hj _ _ ⟨rfl, ?_⟩
    rw [Bool.eq_iff_iff]
    simp [hh, h1, h2]
  rintro z h2 ⟨rfl, rfl⟩
  unfold QS.beat at k
  refine jn0 (fun h' => Sat h0 h' (quR p (if q.holds = true ∧ q.begun ≠ q.done ∧ m.epoch = q.epoch ∧ m.round = q.begun then if q.most ((putK q.bt m.frm).length : Nat) = true then { q with bt := putK q.bt m.frm, done := q.begun } else { q with bt := putK q.bt m.frm } else q) :: L)) (fun h O => k _ _ (msgs_none O)) fun j hj => ?_
  refine brr_p (fun hc => ?_) (fun hc => ?_)
  case refine_2 =>
    rw [if_neg hc] at hj
    exact hj _ (Sat.quI q a (O.sel [0, 1, 2, 3, 4, 5, 6] 8 rfl (Nat.le_add_left _ _)))
  rw [if_pos hc] at hj
  refine ⟨_, rfl, ?_⟩
  refine O.ld 0 rfl (ldL_c (k := .map) (x := some a.r4) (ldL_n ?_))
  refine O.ld 7 rfl (ldL_c (ldL_n ?_))
  refine O.mput 5 rfl fun h O => ?_
  refine ⟨_, rfl, ?_⟩
  refine O.ld 0 rfl (ldL_c (k := .map) (x := some a.r4) (ldL_n ?_))
  refine O.mlen 5 rfl ?_
  have Om := Sat.quI ({ q with bt := putK q.bt m.frm }) a (O.sel [0, 1, 2, 3, 4, 5, 6] 8 rfl (Nat.le_add_left _ _))
  refine F_quorum_Quorum_most.is (q := { q with bt := putK q.bt m.frm }) ok.c Om ?_
  refine jn_go ?_
  refine brr_of (fun hm => ?_) (fun hm => ?_)
  · rw [if_pos (show q.most _ = true from hm)] at hj
    refine ⟨_, rfl, ?_⟩
    refine O.ld 0 rfl (ldL_c (ldL_n ?_))
    refine ⟨_, rfl, ?_⟩
    refine st_ad (b := p) (o := 15) rfl ?_
    refine O.st 0 rfl (by simp) rfl fun h O => ?_
    dsimp only [V.put, List.set] at O
    exact hj _ (Sat.quI ({ q with bt := putK q.bt m.frm, done := q.begun }) a (O.sel [0, 1, 2, 3, 4, 5, 6] 8 rfl (Nat.le_add_left _ _)))
  · rw [if_neg (show ¬ q.most _ = true by have hm : q.most ((putK q.bt m.frm).length : Nat) = false := hm; simp [hm])] at hj
    exact hj _ Om
end
theorem push_setQ {h : Heap} {o o' : Obj} : (h.push o).setIfInBounds h.size o' = h.push o' := by
  apply Array.ext_getElem?
  intro i
  rw [Array.getElem?_setIfInBounds, Array.getElem?_push, Array.getElem?_push]
  by_cases hi : h.size = i
  · subst hi; simp
  · rw [if_neg hi, if_neg (Ne.symm hi), if_neg (Ne.symm hi)]
theorem KeptH.pushQ (h : Heap) (o : Obj) : KeptH h (h.push o) := ⟨by simp, fun k hk => by rw [Array.getElem?_push, if_neg (by omega)]⟩
def kindsM : Array MapEntry := #[⟨.int .i64 2, .func (.func 61) #[] #[], 0⟩, ⟨.int .i64 5, .func (.func 62) #[] #[], 1⟩, ⟨.int .i64 3, .func (.func 63) #[] #[], 2⟩, ⟨.int .i64 7, .func (.func 64) #[] #[], 3⟩]
theorem mput_pushQ {kk : IntKind} {n : Int} {v : Value} {h : Heap} {es : Array MapEntry} {c : Nat} {q : Option (Nat × Value)} {K : Heap → Prop} (hq : findM kk n es = some q) (k : K (h.push (putM es c q (.int kk n) v))) : mput kk (some h.size) n v (h.push (.map es c)) K :=
  ⟨es, c, q, by simp, hq, by rw [push_setQ]; exact k⟩
theorem F_quorum_kinds.is {h : Heap} {Q : Option Nat → Heap → Prop} (k : Q (some h.size) (h.push (.map kindsM 4))) : F_quorum_kinds h Q := by
  rw [F_quorum_kinds.eq_1, F_quorum_kinds_of.eq_1]
  unfold alM
  refine mput_pushQ (q := none) rfl ?_
  refine mput_pushQ (q := none) rfl ?_
  refine mput_pushQ (q := none) rfl ?_
  refine mput_pushQ (q := none) rfl ?_
  exact k
theorem find_kinds {n : Int} {h : Heap} {K : Option FV → Bool → Prop} (k2 : n = 2 → K (some ⟨.func 61, [], []⟩) true) (k5 : n = 5 → K (some ⟨.func 62, [], []⟩) true) (k3 : n = 3 → K (some ⟨.func 63, [], []⟩) true) (k7 : n = 7 → K (some ⟨.func 64, [], []⟩) true) (k0 : n ≠ 2 → n ≠ 5 → n ≠ 3 → n ≠ 7 → K none false) : mg .fn .i64 (some h.size) n .nilFunc (h.push (.map kindsM 4)) K := by
  by_cases h2 : n = 2
  · exact ⟨kindsM, 4, some (0, .func (.func 61) #[] #[]), by simp, by subst h2; rfl, k2 h2⟩
  by_cases h5 : n = 5
  · exact ⟨kindsM, 4, some (1, .func (.func 62) #[] #[]), by simp, by subst h5; rfl, k5 h5⟩
  by_cases h3 : n = 3
  · exact ⟨kindsM, 4, some (2, .func (.func 63) #[] #[]), by simp, by subst h3; rfl, k3 h3⟩
  by_cases h7 : n = 7
  · exact ⟨kindsM, 4, some (3, .func (.func 64) #[] #[]), by simp, by subst h7; rfl, k7 h7⟩
  · refine ⟨kindsM, 4, none, by simp, ?_, k0 h2 h5 h3 h7⟩
    have e2 : (n == 2) = false := by simpa using h2
    have e5 : (n == 5) = false := by simpa using h5
    have e3 : (n == 3) = false := by simpa using h3
    have e7 : (n == 7) = false := by simpa using h7
    simp [findM, kindsM, Instr.findNow, Instr.sameNow, e2, e5, e3, e7]
abbrev kindF : Fns := fn1 48 E_quorum_kinds (fn1 49 E_slices_Contains_cfbaf (fn1 61 E_quorum_Quorum_promise (fn1 62 E_quorum_Quorum_stored (fn1 63 E_quorum_Quorum_refuse (fn1 64 E_quorum_Quorum_beat noFns)))))
theorem call_promise {p : Option Addr} {m : Mg} {span : Int} {h : Heap} {K : Sl → Heap → Prop} : (kindF 61 [.pointer p, .agg (mgC m).toArray, .int .i64 span] h fun u h => dec1 .sl u fun x => K x h) = F_quorum_Quorum_promise p m.kind m.frm m.to m.shard m.epoch m.te m.ts m.round m.span m.seen m.v m.peer m.num m.name m.other m.amount m.life m.id m.op m.client m.state m.bad span h K := by kernel_rfl
theorem call_stored {p : Option Addr} {m : Mg} {span : Int} {h : Heap} {K : Sl → Heap → Prop} : (kindF 62 [.pointer p, .agg (mgC m).toArray, .int .i64 span] h fun u h => dec1 .sl u fun x => K x h) = F_quorum_Quorum_stored p m.kind m.frm m.to m.shard m.epoch m.te m.ts m.round m.span m.seen m.v m.peer m.num m.name m.other m.amount m.life m.id m.op m.client m.state m.bad span h K := by kernel_rfl
theorem call_refuse {p : Option Addr} {m : Mg} {span : Int} {h : Heap} {K : Sl → Heap → Prop} : (kindF 63 [.pointer p, .agg (mgC m).toArray, .int .i64 span] h fun u h => dec1 .sl u fun x => K x h) = F_quorum_Quorum_refuse p m.kind m.frm m.to m.shard m.epoch m.te m.ts m.round m.span m.seen m.v m.peer m.num m.name m.other m.amount m.life m.id m.op m.client m.state m.bad span h K := by kernel_rfl
theorem call_beat {p : Option Addr} {m : Mg} {span : Int} {h : Heap} {K : Sl → Heap → Prop} : (kindF 64 [.pointer p, .agg (mgC m).toArray, .int .i64 span] h fun u h => dec1 .sl u fun x => K x h) = F_quorum_Quorum_beat p m.kind m.frm m.to m.shard m.epoch m.te m.ts m.round m.span m.seen m.v m.peer m.num m.name m.other m.amount m.life m.id m.op m.client m.state m.bad span h K := by kernel_rfl
end Go.Proofs.Ytigcpkejjjgkeaa.V
/- The program's quorum: Hear, Propose, Tick, what it tells of itself. -/
namespace Go.Proofs.Ytigcpkejjjgkeaa.V
open Go Go.RowKit
set_option linter.unusedVariables false
set_option linter.unusedSimpArgs false
section
variable {h0 h : Heap} {L : List Res} {p : Nat} {q : QS} {m : Mg}
theorem QS.Ok.hear (ok : q.Ok) (hb : m.b.length ≤ (140737488355325 : Nat)) (span : Int) : (q.hear m span).1.Ok := by
  unfold QS.hear
  by_cases h : m.to ≠ q.node ∨ m.shard ≠ q.shard ∨ m.frm ∉ q.cop
  · rw [if_pos h]; exact ok
  rw [if_neg h]
  have hc : m.frm ∈ q.cop := Decidable.byContradiction fun hn => h (.inr (.inr hn))
  split
  · exact ok.promise hb span
  split
  · exact ok.stored
  split
  · exact ok.refuse hc
  split
  · exact ok.beat
  · exact ok
theorem F_quorum_Quorum_Hear.is {span : Int} {Q : Sl → Heap → Prop} (ok : q.Ok) (hb : m.b.length ≤ (140737488355325 : Nat)) (Vv : Stays h0 L fun h => Bytes h m.v m.b) (O : Sat h0 h (quR p q :: L)) (k : ∀ s h', Sat h0 h' (msgsR s (q.hear m span).2 :: quR p (q.hear m span).1 :: L) → Q s h') : F_quorum_Quorum_Hear (some (pt p 0)) m.kind m.frm m.to m.shard m.epoch m.te m.ts m.round m.span m.seen m.v m.peer m.num m.name m.other m.amount m.life m.id m.op m.client m.state m.bad span h Q := by
  rw [F_quorum_Quorum_Hear.eq_1, F_quorum_Quorum_Hear_of.eq_1]
  refine O.al fun x h O => ?_
  refine O.ld 0 rfl (ldL_c (ldL_n ?_))
  refine F_quorum_kinds.is ?_
  have O := O.kept2 (KeptH.pushQ h (.map kindsM 4))
  refine O.ca 0 1 rfl ?_
  have fk := @find_kinds m.kind h
  generalize h.push (.map kindsM 4) = h at O fk ⊢
  have Oq := O.swap
  obtain ⟨a, O⟩ := O.swap.qu
  have O : Sat h0 h (own p [.int .i64 q.node, .int .i64 q.shard, .slice a.sc.ptr a.sc.len a.sc.cap, .int .i64 q.phase, .int .u64 q.epoch, .int .u64 q.seen, .int .u64 q.best.1, .int .u64 q.best.2, .int .u64 q.tag.1, .int .u64 q.tag.2, .slice a.sv.ptr a.sv.len a.sv.cap, .int .u64 q.chosen.1, .int .u64 q.chosen.2, .slice a.sw.ptr a.sw.len a.sw.cap, .int .u64 q.begun, .int .u64 q.done, .map (some a.r1), .map (some a.r2), .map (some a.r3), .map (some a.r4)] :: buf 1 i64c a.sc q.cop :: mapR a.r1 q.pm :: mapR a.r2 q.wr :: mapR a.r3 q.rf :: mapR a.r4 q.bt :: poolR [(a.sv, q.val), (a.sw, q.what)] :: own x (mgC m) :: L) := O
  have cond : ∀ j : Bool → Heap → Prop, (∀ z h', (h' = h ∧ z = decide (m.to ≠ q.node ∨ m.shard ≠ q.shard ∨ m.frm ∉ q.cop)) → j z h') → ld [.int .i64] (((pt x 0).add 0).add 2) h fun (v34 : Int) => nn (some (pt p 0)) fun (a35 : Addr) => ld [.int .i64] (a35.add 0) h fun (v36 : Int) => brr (v34 != v36) (j true h) (ld [.int .i64] (((pt x 0).add 0).add 3) h fun (v37 : Int) => nn (some (pt p 0)) fun (a38 : Addr) => ld [.int .i64] (a38.add 1) h fun (v39 : Int) => brr (v37 != v39) (j true h) (nn (some (pt p 0)) fun (a40 : Addr) => ld [.sl] (a40.add 2) h fun (v41 : Sl) => ld [.int .i64] (((pt x 0).add 0).add 1) h fun (v42 : Int) => F_slices_Contains_cfbaf v41 v42 h fun (r43 : Bool) (h44 : Heap) => j (!r43) h44)) := by
    intro j hj
    refine O.ld 7 rfl (ldL_c (ldL_n ?_))
    refine ⟨_, rfl, ?_⟩
    refine O.ld 0 rfl (ldL_c (ldL_n ?_))
    refine brr_ne (fun h1 => hj _ _ ⟨rfl, by simp [h1]⟩) (fun h1 => ?_)
    refine O.ld 7 rfl (ldL_c (ldL_n ?_))
    refine ⟨_, rfl, ?_⟩
    refine O.ld 0 rfl (ldL_c (ldL_n ?_))
    refine brr_ne (fun h2 => hj _ _ ⟨rfl, by simp [h2]⟩) (fun h2 => ?_)
    refine ⟨_, rfl, ?_⟩
    refine O.ld 0 rfl (ldL_c (k := .sl) (x := a.sc) (ldL_n ?_))
    refine O.ld 7 rfl (ldL_c (ldL_n ?_))
    refine F_slices_Contains_cfbaf.is (O.view 1 i64c_len (by simp) rfl).1 ok.c ?_
    refine hj _ _ ⟨rfl, ?_⟩
    rw [Bool.eq_iff_iff]
    simp [h1, h2]
  have Vm : Stays h0 (own x (mgC m) :: L) fun h => Bytes h m.v m.b := fun h O => Vv h O.drop
  have k2 : ∀ {r : QS × List Mg} {s : Sl} {h' : Heap}, (∀ s h', Sat h0 h' (msgsR s r.2 :: quR p r.1 :: L) → Q s h') → Sat h0 h' (msgsR s r.2 :: quR p r.1 :: own x (mgC m) :: L) → Q s h' := fun k O => k _ _ (O.sel [0, 1] 3 rfl (Nat.le_add_left _ _))
  refine fk (fun hk => ?_) (fun hk => ?_) (fun hk => ?_) (fun hk => ?_) (fun n2 n5 n3 n7 => ?_)
  · have e : q.hear m span = if m.to ≠ q.node ∨ m.shard ≠ q.shard ∨ m.frm ∉ q.cop then (q, []) else q.promise m span := by
      unfold QS.hear
      simp [hk]
    rw [e] at k
    refine jn1 (fun z h' => h' = h ∧ z = decide (m.to ≠ q.node ∨ m.shard ≠ q.shard ∨ m.frm ∉ q.cop)) ?_ ?_
    case refine_2 =>
      intro j hj
      exact cond j hj
    rintro z h2 ⟨rfl, rfl⟩
    refine brr_p (fun hc => ?_) (fun hc => ?_)
    · rw [if_pos hc] at k
      exact k _ _ (msgs_none (Oq.sel [0] 2 rfl (Nat.le_add_left _ _)))
    rw [if_neg hc] at k
    have hcop : m.frm ∈ q.cop := Decidable.byContradiction fun hn => hc (.inr (.inr hn))
    refine O.ld 7 rfl ?_
    repeat (first | (with_reducible refine ldL_n ?_) | refine ldL_s ?_ | refine ldL_c ?_)
    refine dyn1_at (fs := []) ?_
    refine Eq.mpr (call_promise (m := m)) ?_
    exact F_quorum_Quorum_promise.is ok hb Vm Oq fun s h O => k2 k O
  · have e : q.hear m span = if m.to ≠ q.node ∨ m.shard ≠ q.shard ∨ m.frm ∉ q.cop then (q, []) else (q.stored m, []) := by
      unfold QS.hear
      simp [hk]
    rw [e] at k
    refine jn1 (fun z h' => h' = h ∧ z = decide (m.to ≠ q.node ∨ m.shard ≠ q.shard ∨ m.frm ∉ q.cop)) ?_ ?_
    case refine_2 =>
      intro j hj
      exact cond j hj
    rintro z h2 ⟨rfl, rfl⟩
    refine brr_p (fun hc => ?_) (fun hc => ?_)
    · rw [if_pos hc] at k
      exact k _ _ (msgs_none (Oq.sel [0] 2 rfl (Nat.le_add_left _ _)))
    rw [if_neg hc] at k
    have hcop : m.frm ∈ q.cop := Decidable.byContradiction fun hn => hc (.inr (.inr hn))
    refine O.ld 7 rfl ?_
    repeat (first | (with_reducible refine ldL_n ?_) | refine ldL_s ?_ | refine ldL_c ?_)
    refine dyn1_at (fs := []) ?_
    refine Eq.mpr (call_stored (m := m)) ?_
    exact F_quorum_Quorum_stored.is ok Oq fun s h O => k2 k O
  · have e : q.hear m span = if m.to ≠ q.node ∨ m.shard ≠ q.shard ∨ m.frm ∉ q.cop then (q, []) else (q.refuse m, []) := by
      unfold QS.hear
      simp [hk]
    rw [e] at k
    refine jn1 (fun z h' => h' = h ∧ z = decide (m.to ≠ q.node ∨ m.shard ≠ q.shard ∨ m.frm ∉ q.cop)) ?_ ?_
    case refine_2 =>
      intro j hj
      exact cond j hj
    rintro z h2 ⟨rfl, rfl⟩
    refine brr_p (fun hc => ?_) (fun hc => ?_)
    · rw [if_pos hc] at k
      exact k _ _ (msgs_none (Oq.sel [0] 2 rfl (Nat.le_add_left _ _)))
    rw [if_neg hc] at k
    have hcop : m.frm ∈ q.cop := Decidable.byContradiction fun hn => hc (.inr (.inr hn))
    refine O.ld 7 rfl ?_
    repeat (first | (with_reducible refine ldL_n ?_) | refine ldL_s ?_ | refine ldL_c ?_)
    refine dyn1_at (fs := []) ?_
    refine Eq.mpr (call_refuse (m := m)) ?_
    exact F_quorum_Quorum_refuse.is ok hcop Oq fun s h O => k2 k O
  · have e : q.hear m span = if m.to ≠ q.node ∨ m.shard ≠ q.shard ∨ m.frm ∉ q.cop then (q, []) else (q.beat m, []) := by
      unfold QS.hear
      simp [hk]
    rw [e] at k
    refine jn1 (fun z h' => h' = h ∧ z = decide (m.to ≠ q.node ∨ m.shard ≠ q.shard ∨ m.frm ∉ q.cop)) ?_ ?_
    case refine_2 =>
      intro j hj
      exact cond j hj
    rintro z h2 ⟨rfl, rfl⟩
    refine brr_p (fun hc => ?_) (fun hc => ?_)
    · rw [if_pos hc] at k
      exact k _ _ (msgs_none (Oq.sel [0] 2 rfl (Nat.le_add_left _ _)))
    rw [if_neg hc] at k
    have hcop : m.frm ∈ q.cop := Decidable.byContradiction fun hn => hc (.inr (.inr hn))
    refine O.ld 7 rfl ?_
    repeat (first | (with_reducible refine ldL_n ?_) | refine ldL_s ?_ | refine ldL_c ?_)
    refine dyn1_at (fs := []) ?_
    refine Eq.mpr (call_beat (m := m)) ?_
    exact F_quorum_Quorum_beat.is ok Oq fun s h O => k2 k O
  · have e : q.hear m span = (q, []) := by
      unfold QS.hear
      rw [if_neg n2, if_neg n5, if_neg n3, if_neg n7]
      split <;> rfl
    rw [e] at k
    refine jn1 (fun z h' => h' = h ∧ z = true) ?_ ?_
    case refine_2 =>
      intro j hj
      exact hj _ _ ⟨rfl, rfl⟩
    rintro z h2 ⟨rfl, rfl⟩
    refine brr_tt rfl ?_
    exact k _ _ (msgs_none (Oq.sel [0] 2 rfl (Nat.le_add_left _ _)))
theorem QS.Ok.propose (ok : q.Ok) {b : List UInt8} (hb : b.length ≤ (140737488355325 : Nat)) (span : Int) : (q.propose b span).1.Ok := by
  unfold QS.propose
  split
  · exact ok
  · have := ok.t
    exact QS.Ok.wrt (q := { q with val := b }) ⟨ok.c, hb, ok.w, ok.n, ok.s, ok.t, ok.b⟩ (by omega)
theorem F_quorum_Quorum_Propose.is {v : Sl} {b : List UInt8} {span : Int} {Q : Sl → Bool → Heap → Prop} (ok : q.Ok) (hb : b.length ≤ (140737488355325 : Nat)) (Vv : Stays h0 L fun h => Bytes h v b) (O : Sat h0 h (quR p q :: L)) (k : ∀ s h', Sat h0 h' (msgsR s (q.propose b span).2.1 :: quR p (q.propose b span).1 :: L) → Q s (q.propose b span).2.2 h') : F_quorum_Quorum_Propose (some (pt p 0)) v span h Q := by
  rw [F_quorum_Quorum_Propose.eq_1, F_quorum_Quorum_Propose_of.eq_1]
  have Oq := O
  obtain ⟨a, O⟩ := O.qu
  have hb0 := ok.t
  refine jn1 (fun z h' => h' = h ∧ z = decide (q.phase ≠ 3 ∨ (1099511627776 : Int) ≤ q.tag.2)) ?_ ?_
  case refine_2 =>
    intro j hj
    refine ⟨_, rfl, ?_⟩
    refine O.ld 0 rfl (ldL_c (ldL_n ?_))
    refine brr_ne (fun h1 => hj _ _ ⟨rfl, by simp [h1]⟩) (fun h1 => ?_)
    refine ⟨_, rfl, ?_⟩
    refine O.ld 0 rfl (ldL_c (ldL_n ?_))
    exact hj _ _ ⟨rfl, by simp [h1]⟩
  rintro z h2 ⟨rfl, rfl⟩
  unfold QS.propose at k
  refine brr_p (fun hc => ?_) (fun hc => ?_)
  · rw [if_pos hc] at k
    exact k _ _ (msgs_none Oq)
  rw [if_neg hc] at k
  refine F_slices_Clone_cbaad.is O (fun h O => Vv h (O.sel [] 7 rfl (Nat.le_add_left _ _))) hb fun sv h O => ?_
  refine ⟨_, rfl, ?_⟩
  refine st_ad (b := p) (o := 10) rfl ?_
  refine O.st 1 rfl (by simp) rfl fun h O => ?_
  dsimp only [V.put, List.set] at O
  refine ⟨_, rfl, ?_⟩
  refine O.ld 1 rfl (ldL_c (ldL_n ?_))
  have O2 := pool_take (O.sel [0, 7, 1, 2, 3, 4, 5, 6] 8 rfl (Nat.le_add_left _ _))
  have O2 := pool_sub O2 (fs := [(sv, b), (a.sw, q.what)]) (by
    intro e he
    simp only [List.mem_cons, List.not_mem_nil, or_false] at he
    rcases he with rfl | rfl <;> simp)
  have Oq := Sat.quI ({ q with val := b }) ⟨a.sc, sv, a.sw, a.r1, a.r2, a.r3, a.r4⟩ (O2.sel [1, 2, 3, 4, 5, 6, 0] 7 rfl (Nat.le_add_left _ _))
  have hw : IntKind.u64.wrap (q.tag.2 + 1) = q.tag.2 + 1 := by unfold IntKind.wrap; simp [IntKind.signed, IntKind.bits]; omega
  rw [hw]
  exact F_quorum_Quorum_write.is (q := { q with val := b }) ⟨ok.c, hb, ok.w, ok.n, ok.s, ok.t, ok.b⟩ (by omega) Oq k
theorem Sat.manyApp {α : Type} {f : α → Res} {xs ys : List α} (O : Sat h0 h (many f xs :: many f ys :: L)) : Sat h0 h (many f (xs ++ ys) :: L) := by
  refine O.sepI.mono fun E hE => ?_
  obtain ⟨E1, E2, p1, h1, h2⟩ := hE
  have := star_app h1 h2
  rw [← List.map_append] at this
  exact star_perm this p1
theorem QS.Ok.tick (ok : q.Ok) (span : Int) : (q.tick span).1.Ok := by
  have := ok.b
  unfold QS.tick
  split
  · exact ok
  split
  · split
    · exact ok
    · exact ⟨ok.c, ok.v, ok.w, ok.n, ok.s, ok.t, by show 0 ≤ q.begun + 1; omega⟩
  · exact ok
theorem send_len {x : Mg} {out : Int → Bool} : (q.send x out).length ≤ q.cop.length := by
  unfold QS.send
  rw [List.length_map]
  exact List.length_filter_le _ _
theorem tick0_len {span : Int} : (q.tick0 span).length ≤ q.cop.length := by
  unfold QS.tick0
  split
  · exact send_len
  split
  · exact send_len
  · simp
theorem F_quorum_Quorum_Tick.is {span : Int} {Q : Sl → Heap → Prop} (ok : q.Ok) (O : Sat h0 h (quR p q :: L)) (k : ∀ s h', Sat h0 h' (msgsR s (q.tick span).2 :: quR p (q.tick span).1 :: L) → Q s h') : F_quorum_Quorum_Tick (some (pt p 0)) span h Q := by
  rw [F_quorum_Quorum_Tick.eq_1, F_quorum_Quorum_Tick_of.eq_1]
  have hb0 := ok.b
  have hcl := ok.c
  have ht0 := tick0_len (q := q) (span := span)
  obtain ⟨a0, O1⟩ := O.qu
  refine ⟨_, rfl, ?_⟩
  refine O1.ld 0 rfl (ldL_c (ldL_n ?_))
  clear O1
  refine jn1 (fun s h' => Sat h0 h' (msgsR s (q.tick0 span) :: quR p q :: L)) ?_ ?_
  case refine_2 =>
    intro j hj
    unfold QS.tick0 at hj
    refine brr_eq (fun h1 => ?_) (fun h1 => ?_)
    · rw [if_pos h1] at hj
      exact F_quorum_Quorum_prepares.is ok O hj
    rw [if_neg h1] at hj
    refine jn_go ?_
    refine brr_eq (fun h2 => ?_) (fun h2 => ?_)
    · rw [if_pos h2] at hj
      exact F_quorum_Quorum_writes.is ok O hj
    · rw [if_neg h2] at hj
      exact hj _ _ (msgs_none O)
  clear O
  rintro s h O
  unfold QS.tick at k
  refine F_quorum_Quorum_Holds.is O.swap ?_
  refine brr_not ?_
  refine brr_of (fun hh => ?_) (fun hh => ?_)
  case refine_2 =>
    rw [if_pos hh] at k
    exact k _ _ O
  rw [if_neg (by simp [hh])] at k
  obtain ⟨a, O1⟩ := O.swap.qu
  refine ⟨_, rfl, ?_⟩
  refine O1.ld 0 rfl (ldL_c (ldL_n ?_))
  refine ⟨_, rfl, ?_⟩
  refine O1.ld 0 rfl (ldL_c (ldL_n ?_))
  have fin : ∀ {q2 : QS} {h : Heap}, q2.Ok → q2.cop = q.cop → Sat h0 h (quR p q2 :: msgsR s (q.tick0 span) :: L) → (∀ s' h', Sat h0 h' (msgsR s' (q.tick0 span ++ q2.beats span) :: quR p q2 :: L) → Q s' h') → F_quorum_Quorum_beats (some (pt p 0)) span h fun r33 h34 => app 66 22 208 (.agg #[.int .i64 0, .int .i64 0, .int .i64 0, .int .i64 0, .int .u64 0, .int .u64 0, .int .u64 0, .int .u64 0, .int .i64 0, .int .u64 0, .slice none 0 0, .int .i64 0, .int .u64 0, .string (⟨#[]⟩ : ByteArray), .string (⟨#[]⟩ : ByteArray), .int .u64 0, .int .u64 0, .int .u64 0, .int .i64 0, .int .i64 0, .int .i64 0, .int .i64 0]) s r33.ptr r33.len h34 fun s35 h36 => Q s35 h36 := by
    intro q2 h ok2 ec O kk
    refine F_quorum_Quorum_beats.is ok2 O fun s2 h O => ?_
    obtain ⟨ls2, e2, O⟩ := O.msgs
    obtain ⟨ls, e1, O⟩ := (O.sel [3, 0, 1, 2] 4 rfl (Nat.le_add_left _ _)).msgs
    have V := (O.view 2 mgC_len (by simp) rfl).1
    have l1 : ls.length ≤ 1000000 := by have := congrArg List.length e1; rw [List.length_map] at this; omega
    have l2 : ls2.length ≤ 1000000 := by
      have := congrArg List.length e2
      have := send_len (q := q2) (x := { mgz with kind := 6, epoch := q2.epoch, round := q2.begun, span := span }) (out := fun c => decide (c ∈ q2.bt))
      have e3 : (q2.beats span).length ≤ q2.cop.length := this
      rw [ec] at e3
      rw [List.length_map] at *
      omega
    refine Sat.app_buf (enc := mgC) O mgC_len mgC_one (by simp [Value.cells]) (ys := ls2) V.len (V.rd mgC_len) (by omega) fun s3 h O _ => ?_
    have O := Sat.manyApp (O.sel [1, 3, 0, 4] 5 rfl (Nat.le_add_left _ _))
    exact kk _ _ (Sat.msgsI (by rw [List.map_append, e1, e2]) O.swap)
  refine jn0 (fun h' => F_quorum_Quorum_beats (some (pt p 0)) span h' fun r33 h34 => app 66 22 208 (.agg #[.int .i64 0, .int .i64 0, .int .i64 0, .int .i64 0, .int .u64 0, .int .u64 0, .int .u64 0, .int .u64 0, .int .i64 0, .int .u64 0, .slice none 0 0, .int .i64 0, .int .u64 0, .string (⟨#[]⟩ : ByteArray), .string (⟨#[]⟩ : ByteArray), .int .u64 0, .int .u64 0, .int .u64 0, .int .i64 0, .int .i64 0, .int .i64 0, .int .i64 0]) s r33.ptr r33.len h34 fun s35 h36 => Q s35 h36) (fun h x => x) fun j hj => ?_
  refine brr_eq (fun he => ?_) (fun he => ?_)
  · rw [if_pos he] at k
    refine ⟨_, rfl, ?_⟩
    refine O1.ld 0 rfl (ldL_c (ldL_n ?_))
    refine brr_p (fun hm => ?_) (fun hm => ?_)
    · rw [if_pos hm] at k
      exact k _ _ O
    have hm2 : ¬ (1099511627776 : Int) ≤ q.begun := hm
    rw [if_neg hm2] at k
    refine ⟨_, rfl, ?_⟩
    refine O1.ld 0 rfl (ldL_c (ldL_n ?_))
    have hw : IntKind.u64.wrap (q.begun + 1) = q.begun + 1 := by unfold IntKind.wrap; simp [IntKind.signed, IntKind.bits]; omega
    rw [hw]
    refine ⟨_, rfl, ?_⟩
    refine st_ad (b := p) (o := 14) rfl ?_
    refine O1.st 0 rfl (by simp) rfl fun h O => ?_
    dsimp only [V.put, List.set] at O
    refine ⟨_, rfl, ?_⟩
    refine O.ld 0 rfl (ldL_c (k := .map) (x := some a.r4) (ldL_n ?_))
    refine O.mclr 5 rfl fun h O => ?_
    have Oq := Sat.quI q.rise a O
    refine hj _ (fin (q2 := q.rise) ?_ rfl Oq k)
    exact ⟨ok.c, ok.v, ok.w, ok.n, ok.s, ok.t, by show 0 ≤ q.begun + 1; omega⟩
  · rw [if_neg he] at k
    exact hj _ (fin ok rfl O.swap k)
theorem F_quorum_Quorum_Chosen.is {Q : Int → Int → Sl → Heap → Prop} (ok : q.Ok) (O : Sat h0 h (quR p q :: L)) (k : ∀ s h', Sat h0 h' (buf 1 u8 s q.what :: quR p q :: L) → Q q.chosen.1 q.chosen.2 s h') : F_quorum_Quorum_Chosen (some (pt p 0)) h Q := by
  rw [F_quorum_Quorum_Chosen.eq_1, F_quorum_Quorum_Chosen_of.eq_1]
  refine O.al fun x h O => ?_
  obtain ⟨a, O⟩ := O.swap.qu
  refine ⟨_, rfl, ?_⟩
  refine O.ld 0 rfl (ldL_c (ldL_c (ldL_n ?_)))
  refine ⟨_, rfl, ?_⟩
  refine O.ld 0 rfl (ldL_c (k := .sl) (x := a.sw) (ldL_n ?_))
  refine F_slices_Clone_cbaad.is O (fun h O => pool_view O 6 (by simp) rfl (e := (a.sw, q.what)) (by simp)) ok.w fun s h O => ?_
  refine O.ca 1 2 rfl ?_
  refine O.st 8 rfl (by simp) rfl fun h O => ?_
  dsimp only [V.put, List.set] at O
  refine O.ld 8 rfl (ldL_c (ldL_c (ldL_n ?_)))
  refine k _ _ ?_
  exact (Sat.quI q a (O.sel [1, 2, 3, 4, 5, 6, 7, 0] 9 rfl (Nat.le_add_left _ _))).swap
theorem F_quorum_Quorum_Round.is {Q : Int → Int → Heap → Prop} (O : Sat h0 h (quR p q :: L)) (k : Q q.begun q.done h) : F_quorum_Quorum_Round (some (pt p 0)) h Q := by
  rw [F_quorum_Quorum_Round.eq_1, F_quorum_Quorum_Round_of.eq_1]
  obtain ⟨a, O⟩ := O.qu
  refine ⟨_, rfl, ?_⟩
  refine O.ld 0 rfl (ldL_c (ldL_n ?_))
  refine ⟨_, rfl, ?_⟩
  refine O.ld 0 rfl (ldL_c (ldL_n ?_))
  exact k
theorem F_quorum_Quorum_Phase.is {Q : Int → Heap → Prop} (O : Sat h0 h (quR p q :: L)) (k : Q q.phase h) : F_quorum_Quorum_Phase (some (pt p 0)) h Q := by
  rw [F_quorum_Quorum_Phase.eq_1, F_quorum_Quorum_Phase_of.eq_1]
  obtain ⟨a, O⟩ := O.qu
  refine ⟨_, rfl, ?_⟩
  refine O.ld 0 rfl (ldL_c (ldL_n ?_))
  exact k
theorem F_quorum_Quorum_Epoch.is {Q : Int → Heap → Prop} (O : Sat h0 h (quR p q :: L)) (k : Q q.epoch h) : F_quorum_Quorum_Epoch (some (pt p 0)) h Q := by
  rw [F_quorum_Quorum_Epoch.eq_1, F_quorum_Quorum_Epoch_of.eq_1]
  obtain ⟨a, O⟩ := O.qu
  refine ⟨_, rfl, ?_⟩
  refine O.ld 0 rfl (ldL_c (ldL_n ?_))
  exact k
theorem F_quorum_Quorum_Seen.is {Q : Int → Heap → Prop} (O : Sat h0 h (quR p q :: L)) (k : Q q.seen h) : F_quorum_Quorum_Seen (some (pt p 0)) h Q := by
  rw [F_quorum_Quorum_Seen.eq_1, F_quorum_Quorum_Seen_of.eq_1]
  obtain ⟨a, O⟩ := O.qu
  refine ⟨_, rfl, ?_⟩
  refine O.ld 0 rfl (ldL_c (ldL_n ?_))
  exact k
end
end Go.Proofs.Ytigcpkejjjgkeaa.V
namespace Go.Proofs.Ytigcpkejjjgkeaa.V
open Go Go.RowKit
set_option linter.unusedVariables false
set_option maxRecDepth 100000
def F_ref0_CmpTag_of  (a1 a2 b3 b4 : Int) (h : Heap) (Q : Int → Heap → Prop) : Prop :=
  al 35 [.int .u64 a1, .int .u64 a2] h fun (a5 : Addr) (h6 : Heap) =>
  al 35 [.int .u64 b3, .int .u64 b4] h6 fun (a7 : Addr) (h8 : Heap) =>
  jn [(5, .one .bool)] (fun (x16 : Bool) (h17 : Heap) =>
  brr x16
  (Q (-1) h17)
  (ld [.int .u64, .int .u64] a5 h17 fun (v18 v19 : Int) =>
  ld [.int .u64, .int .u64] a7 h17 fun (v20 v21 : Int) =>
  brr ((v18 == v20) && ((v19 == v21) && (true)))
  (Q 0 h17)
  (Q 1 h17))) (fun (j9 : Bool → Heap → Prop) =>
  ld [.int .u64] (a5.add 0) h8 fun (v10 : Int) =>
  ld [.int .u64] (a7.add 0) h8 fun (v11 : Int) =>
  brr (decide (v10 < v11))
  (j9 true h8)
  (ld [.int .u64] (a5.add 0) h8 fun (v12 : Int) =>
  ld [.int .u64] (a7.add 0) h8 fun (v13 : Int) =>
  brr (v12 == v13)
  (ld [.int .u64] (a5.add 1) h8 fun (v14 : Int) =>
  ld [.int .u64] (a7.add 1) h8 fun (v15 : Int) =>
  j9 (decide (v14 < v15)) h8)
  (j9 false h8)))
def F_ref0_CmpTag (a1 a2 b3 b4 : Int) (h : Heap) (Q : Int → Heap → Prop) : Prop := F_ref0_CmpTag_of  a1 a2 b3 b4 h Q
def plan57 : Plan := .s (.r [2, 3]) (.s (.b (.s (.rj [(5, .one .bool)] [2, 3]) (.c (.s (.r [4]) .z) (.s (.r [25]) (.c (.s (.r [4]) .z) .z))))) (.s (.r [4]) .z))
theorem F_ref0_CmpTag.eq  (a1 a2 b3 b4 : Int) (h : Heap) (K : Value → Heap → Prop) : F_ref0_CmpTag_of  a1 a2 b3 b4 h (fun (r0 : Int) (h : Heap) => K (.int .i64 r0) h) =
    den Try.prog noFns Try.f57.ntmps plan57 (bodyOf Try.f57) (args0 0 [(.agg #[.int .u64 a1, .int .u64 a2] : Value), (.agg #[.int .u64 b3, .int .u64 b4] : Value)]) h ⟨fun env h => dRes Try.prog Try.f57.results.toList env h K, fun _ _ _ => False, fun env h => dRes Try.prog Try.f57.results.toList env h K⟩ := by kernel_rfl
def E_ref0_CmpTag_of (f : Int → Int → Int → Int → Heap → (Int → Heap → Prop) → Prop) : List Value → Heap → (Value → Heap → Prop) → Prop
  | [v0, v1], h, K => vAgg v0 fun cs0 => decs [.int .u64, .int .u64] cs0.toList fun (a1 a2 : Int) =>
  vAgg v1 fun cs1 => decs [.int .u64, .int .u64] cs1.toList fun (b3 b4 : Int) =>
  f a1 a2 b3 b4 h (fun (r0 : Int) (h : Heap) => K (.int .i64 r0) h)
  | _, _, _ => False
abbrev E_ref0_CmpTag := E_ref0_CmpTag_of F_ref0_CmpTag
theorem E_ref0_CmpTag.right : IsRight Try.prog 57 E_ref0_CmpTag := by
  refine isRight fun vs K w hh => ?_
  match vs, hh with
  | [v0, v1], hh =>
    unfold E_ref0_CmpTag E_ref0_CmpTag_of at hh
    replace hh := vAgg_sound hh; obtain ⟨cs0, rfl, hh⟩ := hh
    replace hh := decs_cons hh; obtain ⟨a1, l0_0, e0_0, hh⟩ := hh
    replace hh := decs_cons hh; obtain ⟨a2, l0_1, e0_1, hh⟩ := hh
    replace hh := decs_nil hh; obtain ⟨rfl, hh⟩ := hh
    subst e0_1
    have ec0 := toArray_eq e0_0
    subst ec0
    replace hh := vAgg_sound hh; obtain ⟨cs1, rfl, hh⟩ := hh
    replace hh := decs_cons hh; obtain ⟨b3, l1_0, e1_0, hh⟩ := hh
    replace hh := decs_cons hh; obtain ⟨b4, l1_1, e1_1, hh⟩ := hh
    replace hh := decs_nil hh; obtain ⟨rfl, hh⟩ := hh
    subst e1_1
    have ec1 := toArray_eq e1_0
    subst ec1
    unfold F_ref0_CmpTag at hh
    exact calls_den noFns_right plan57 _ w K Try.func57 (by kernel_rfl) (by kernel_rfl) (Eq.mp (F_ref0_CmpTag.eq  a1 a2 b3 b4 w.heap K) hh)
theorem ok57 : okFn Try.prog 57 = true := by kernel_rfl
end Go.Proofs.Ytigcpkejjjgkeaa.V
/- The program's replica: what it does with a message of each kind. -/
namespace Go.Proofs.Ytigcpkejjjgkeaa.V
open Go Go.RowKit
set_option linter.unusedVariables false
set_option linter.unusedSimpArgs false
section
variable {h0 h : Heap} {L : List Res}
theorem orCmp {a b c d : Int} : let x := if a < c then (-1 : Int) else if c < a then 1 else 0; let y := if b < d then (-1 : Int) else if d < b then 1 else 0; ((if x = 0 then y else x) < 0 ↔ tagLt a b c d) ∧ ((if x = 0 then y else x) > 0 ↔ tagLt c d a b) := by
  intro x y
  unfold tagLt
  have hx : x = if a < c then (-1 : Int) else if c < a then 1 else 0 := rfl
  have hy : y = if b < d then (-1 : Int) else if d < b then 1 else 0 := rfl
  clear_value x y
  split at hx <;> (try split at hx) <;> split at hy <;> (try split at hy) <;> subst hx <;> subst hy <;> constructor <;> simp <;> omega
end
end Go.Proofs.Ytigcpkejjjgkeaa.V
/- The program's replica: Hear. -/
namespace Go.Proofs.Ytigcpkejjjgkeaa.V
open Go Go.RowKit
set_option linter.unusedVariables false
set_option linter.unusedSimpArgs false
theorem push_set {h : Heap} {o o' : Obj} : (h.push o).setIfInBounds h.size o' = h.push o' := by
  apply Array.ext_getElem?
  intro i
  rw [Array.getElem?_setIfInBounds, Array.getElem?_push, Array.getElem?_push]
  by_cases hi : h.size = i
  · subst hi; simp
  · rw [if_neg hi, if_neg (Ne.symm hi), if_neg (Ne.symm hi)]
theorem KeptH.push (h : Heap) (o : Obj) : KeptH h (h.push o) := ⟨by simp, fun k hk => by rw [Array.getElem?_push, if_neg (by omega)]⟩
def hearsM : Array MapEntry := #[⟨.int .i64 1, .func (.func 44) #[] #[], 0⟩, ⟨.int .i64 4, .func (.func 45) #[] #[], 1⟩, ⟨.int .i64 6, .func (.func 46) #[] #[], 2⟩]
theorem mput_push {kk : IntKind} {n : Int} {v : Value} {h : Heap} {es : Array MapEntry} {c : Nat} {q : Option (Nat × Value)} {K : Heap → Prop} (hq : findM kk n es = some q) (k : K (h.push (putM es c q (.int kk n) v))) : mput kk (some h.size) n v (h.push (.map es c)) K :=
  ⟨es, c, q, by simp, hq, by rw [push_set]; exact k⟩
theorem find_hears {n : Int} {h : Heap} {K : Option FV → Bool → Prop} (k1 : n = 1 → K (some ⟨.func 44, [], []⟩) true) (k4 : n = 4 → K (some ⟨.func 45, [], []⟩) true) (k6 : n = 6 → K (some ⟨.func 46, [], []⟩) true) (k0 : n ≠ 1 → n ≠ 4 → n ≠ 6 → K none false) : mg .fn .i64 (some h.size) n .nilFunc (h.push (.map hearsM 3)) K := by
  by_cases h1 : n = 1
  · exact ⟨hearsM, 3, some (0, .func (.func 44) #[] #[]), by simp, by subst h1; rfl, k1 h1⟩
  by_cases h4 : n = 4
  · exact ⟨hearsM, 3, some (1, .func (.func 45) #[] #[]), by simp, by subst h4; rfl, k4 h4⟩
  by_cases h6 : n = 6
  · exact ⟨hearsM, 3, some (2, .func (.func 46) #[] #[]), by simp, by subst h6; rfl, k6 h6⟩
  · refine ⟨hearsM, 3, none, by simp, ?_, k0 h1 h4 h6⟩
    have e1 : (n == 1) = false := by simpa using h1
    have e4 : (n == 4) = false := by simpa using h4
    have e6 : (n == 6) = false := by simpa using h6
    simp [findM, hearsM, Instr.findNow, Instr.sameNow, e1, e4, e6]
abbrev HK : List Kd := [.int .i64, .int .i64, .int .i64, .int .i64, .int .u64, .int .u64, .int .u64, .int .u64, .int .i64, .int .u64, .sl, .int .i64, .int .u64, .str, .str, .int .u64, .int .u64, .int .u64, .int .i64, .int .i64, .int .i64, .int .i64, .bool, .bool, .bool]
theorem dyn_at {ks : List Kd} {Φ : Fns} {id : Nat} {vs : List Value} {h : Heap} {K : Fn ks (Heap → Prop)} (k : Φ id vs h fun u h => vAgg u fun cs => decsH ks cs.toList K h) : dynA ks Φ (Kd.enc .fn (some ⟨.func id, [], []⟩)) vs h K :=
  ⟨_, id, rfl, rfl, by simpa using k⟩
theorem prep_ans {r : RS} {m : Mg} : (prep r m).2.ans = false := by unfold prep; split <;> rfl
theorem writ_ans {r : RS} {m : Mg} : (writ r m).2.ans = false := by unfold writ; split; rfl; split; rfl; split <;> rfl
theorem beats_ans {r : RS} {m : Mg} : (beats r m).2.ans = false := by unfold beats; split <;> rfl
section
variable {h0 h : Heap} {L : List Res}
end
end Go.Proofs.Ytigcpkejjjgkeaa.V
namespace Go.Proofs.Ytigcpkejjjgkeaa.V
open Go Go.RowKit
set_option linter.unusedVariables false
set_option maxRecDepth 100000
def F_ref0_EqMsg_of (f60_ : Sl → Sl → Heap → (Int → Heap → Prop) → Prop) (a1 a2 a3 a4 a5 a6 a7 a8 a9 a10 : Int) (a11 : Sl) (a12 a13 : Int) (a14 a15 : ByteArray) (a16 a17 a18 a19 a20 a21 a22 b23 b24 b25 b26 b27 b28 b29 b30 b31 b32 : Int) (b33 : Sl) (b34 b35 : Int) (b36 b37 : ByteArray) (b38 b39 b40 b41 b42 b43 b44 : Int) (h : Heap) (Q : Bool → Heap → Prop) : Prop :=
  al 66 [.int .i64 a1, .int .i64 a2, .int .i64 a3, .int .i64 a4, .int .u64 a5, .int .u64 a6, .int .u64 a7, .int .u64 a8, .int .i64 a9, .int .u64 a10, .slice a11.ptr a11.len a11.cap, .int .i64 a12, .int .u64 a13, .string a14, .string a15, .int .u64 a16, .int .u64 a17, .int .u64 a18, .int .i64 a19, .int .i64 a20, .int .i64 a21, .int .i64 a22] h fun (a45 : Addr) (h46 : Heap) =>
  al 66 [.int .i64 b23, .int .i64 b24, .int .i64 b25, .int .i64 b26, .int .u64 b27, .int .u64 b28, .int .u64 b29, .int .u64 b30, .int .i64 b31, .int .u64 b32, .slice b33.ptr b33.len b33.cap, .int .i64 b34, .int .u64 b35, .string b36, .string b37, .int .u64 b38, .int .u64 b39, .int .u64 b40, .int .i64 b41, .int .i64 b42, .int .i64 b43, .int .i64 b44] h46 fun (a47 : Addr) (h48 : Heap) =>
  jn [(4, .one .bool)] (fun (x96 : Bool) (h97 : Heap) =>
  Q x96 h97) (fun (j49 : Bool → Heap → Prop) =>
  ld [.int .i64, .int .i64, .int .i64, .int .i64] (a45.add 0) h48 fun (v50 v51 v52 v53 : Int) =>
  ld [.int .i64, .int .i64, .int .i64, .int .i64] (a47.add 0) h48 fun (v54 v55 v56 v57 : Int) =>
  brr ((v50 == v54) && ((v51 == v55) && ((v52 == v56) && ((v53 == v57) && (true)))))
  (ld [.int .u64] (a45.add 4) h48 fun (v58 : Int) =>
  ld [.int .u64] (a47.add 4) h48 fun (v59 : Int) =>
  brr (v58 == v59)
  (ld [.int .u64, .int .u64] (a45.add 5) h48 fun (v60 v61 : Int) =>
  ld [.int .u64, .int .u64] (a47.add 5) h48 fun (v62 v63 : Int) =>
  brr ((v60 == v62) && ((v61 == v63) && (true)))
  (ld [.int .u64] (a45.add 7) h48 fun (v64 : Int) =>
  ld [.int .u64] (a47.add 7) h48 fun (v65 : Int) =>
  brr (v64 == v65)
  (ld [.int .i64] (a45.add 8) h48 fun (v66 : Int) =>
  ld [.int .i64] (a47.add 8) h48 fun (v67 : Int) =>
  brr (v66 == v67)
  (ld [.int .u64] (a45.add 9) h48 fun (v68 : Int) =>
  ld [.int .u64] (a47.add 9) h48 fun (v69 : Int) =>
  brr (v68 == v69)
  (ld [.sl] (a45.add 10) h48 fun (v70 : Sl) =>
  ld [.sl] (a47.add 10) h48 fun (v71 : Sl) =>
  f60_ v70 v71 h48 fun (r72 : Int) (h73 : Heap) =>
  brr (r72 == 0)
  (ld [.int .i64] (a45.add 11) h73 fun (v74 : Int) =>
  ld [.int .i64] (a47.add 11) h73 fun (v75 : Int) =>
  brr (v74 == v75)
  (ld [.int .u64] (a45.add 12) h73 fun (v76 : Int) =>
  ld [.int .u64] (a47.add 12) h73 fun (v77 : Int) =>
  brr (v76 == v77)
  (ld [.str] (a45.add 13) h73 fun (v78 : ByteArray) =>
  ld [.str] (a47.add 13) h73 fun (v79 : ByteArray) =>
  brr (v78.toList == v79.toList)
  (ld [.str] (a45.add 14) h73 fun (v80 : ByteArray) =>
  ld [.str] (a47.add 14) h73 fun (v81 : ByteArray) =>
  brr (v80.toList == v81.toList)
  (ld [.int .u64] (a45.add 15) h73 fun (v82 : Int) =>
  ld [.int .u64] (a47.add 15) h73 fun (v83 : Int) =>
  brr (v82 == v83)
  (ld [.int .u64, .int .u64] (a45.add 16) h73 fun (v84 v85 : Int) =>
  ld [.int .u64, .int .u64] (a47.add 16) h73 fun (v86 v87 : Int) =>
  brr ((v84 == v86) && ((v85 == v87) && (true)))
  (ld [.int .i64] (a45.add 18) h73 fun (v88 : Int) =>
  ld [.int .i64] (a47.add 18) h73 fun (v89 : Int) =>
  brr (v88 == v89)
  (ld [.int .i64] (a45.add 19) h73 fun (v90 : Int) =>
  ld [.int .i64] (a47.add 19) h73 fun (v91 : Int) =>
  brr (v90 == v91)
  (ld [.int .i64] (a45.add 20) h73 fun (v92 : Int) =>
  ld [.int .i64] (a47.add 20) h73 fun (v93 : Int) =>
  brr (v92 == v93)
  (ld [.int .i64] (a45.add 21) h73 fun (v94 : Int) =>
  ld [.int .i64] (a47.add 21) h73 fun (v95 : Int) =>
  j49 (v94 == v95) h73)
  (j49 false h73))
  (j49 false h73))
  (j49 false h73))
  (j49 false h73))
  (j49 false h73))
  (j49 false h73))
  (j49 false h73))
  (j49 false h73))
  (j49 false h73))
  (j49 false h73))
  (j49 false h48))
  (j49 false h48))
  (j49 false h48))
  (j49 false h48))
  (j49 false h48))
  (j49 false h48))
def F_ref0_EqMsg (a1 a2 a3 a4 a5 a6 a7 a8 a9 a10 : Int) (a11 : Sl) (a12 a13 : Int) (a14 a15 : ByteArray) (a16 a17 a18 a19 a20 a21 a22 b23 b24 b25 b26 b27 b28 b29 b30 b31 b32 : Int) (b33 : Sl) (b34 b35 : Int) (b36 b37 : ByteArray) (b38 b39 b40 b41 b42 b43 b44 : Int) (h : Heap) (Q : Bool → Heap → Prop) : Prop := F_ref0_EqMsg_of F_ref0_Cmp a1 a2 a3 a4 a5 a6 a7 a8 a9 a10 a11 a12 a13 a14 a15 a16 a17 a18 a19 a20 a21 a22 b23 b24 b25 b26 b27 b28 b29 b30 b31 b32 b33 b34 b35 b36 b37 b38 b39 b40 b41 b42 b43 b44 h Q
def plan47 : Plan := .s (.r [2, 3]) (.s (.rj [(4, .one .bool)] []) .z)
theorem F_ref0_EqMsg.eq (f60_ : Sl → Sl → Heap → (Int → Heap → Prop) → Prop) (a1 a2 a3 a4 a5 a6 a7 a8 a9 a10 : Int) (a11 : Sl) (a12 a13 : Int) (a14 a15 : ByteArray) (a16 a17 a18 a19 a20 a21 a22 b23 b24 b25 b26 b27 b28 b29 b30 b31 b32 : Int) (b33 : Sl) (b34 b35 : Int) (b36 b37 : ByteArray) (b38 b39 b40 b41 b42 b43 b44 : Int) (h : Heap) (K : Value → Heap → Prop) : F_ref0_EqMsg_of f60_ a1 a2 a3 a4 a5 a6 a7 a8 a9 a10 a11 a12 a13 a14 a15 a16 a17 a18 a19 a20 a21 a22 b23 b24 b25 b26 b27 b28 b29 b30 b31 b32 b33 b34 b35 b36 b37 b38 b39 b40 b41 b42 b43 b44 h (fun (r0 : Bool) (h : Heap) => K (.bool r0) h) =
    den Try.prog (fn1 60 (E_ref0_Cmp_of f60_) noFns) Try.f47.ntmps plan47 (bodyOf Try.f47) (args0 0 [(.agg #[.int .i64 a1, .int .i64 a2, .int .i64 a3, .int .i64 a4, .int .u64 a5, .int .u64 a6, .int .u64 a7, .int .u64 a8, .int .i64 a9, .int .u64 a10, .slice a11.ptr a11.len a11.cap, .int .i64 a12, .int .u64 a13, .string a14, .string a15, .int .u64 a16, .int .u64 a17, .int .u64 a18, .int .i64 a19, .int .i64 a20, .int .i64 a21, .int .i64 a22] : Value), (.agg #[.int .i64 b23, .int .i64 b24, .int .i64 b25, .int .i64 b26, .int .u64 b27, .int .u64 b28, .int .u64 b29, .int .u64 b30, .int .i64 b31, .int .u64 b32, .slice b33.ptr b33.len b33.cap, .int .i64 b34, .int .u64 b35, .string b36, .string b37, .int .u64 b38, .int .u64 b39, .int .u64 b40, .int .i64 b41, .int .i64 b42, .int .i64 b43, .int .i64 b44] : Value)]) h ⟨fun env h => dRes Try.prog Try.f47.results.toList env h K, fun _ _ _ => False, fun env h => dRes Try.prog Try.f47.results.toList env h K⟩ := by kernel_rfl
def E_ref0_EqMsg_of (f : Int → Int → Int → Int → Int → Int → Int → Int → Int → Int → Sl → Int → Int → ByteArray → ByteArray → Int → Int → Int → Int → Int → Int → Int → Int → Int → Int → Int → Int → Int → Int → Int → Int → Int → Sl → Int → Int → ByteArray → ByteArray → Int → Int → Int → Int → Int → Int → Int → Heap → (Bool → Heap → Prop) → Prop) : List Value → Heap → (Value → Heap → Prop) → Prop
  | [v0, v1], h, K => vAgg v0 fun cs0 => decs [.int .i64, .int .i64, .int .i64, .int .i64, .int .u64, .int .u64, .int .u64, .int .u64, .int .i64, .int .u64, .sl, .int .i64, .int .u64, .str, .str, .int .u64, .int .u64, .int .u64, .int .i64, .int .i64, .int .i64, .int .i64] cs0.toList fun (a1 a2 a3 a4 a5 a6 a7 a8 a9 a10 : Int) (a11 : Sl) (a12 a13 : Int) (a14 a15 : ByteArray) (a16 a17 a18 a19 a20 a21 a22 : Int) =>
  vAgg v1 fun cs1 => decs [.int .i64, .int .i64, .int .i64, .int .i64, .int .u64, .int .u64, .int .u64, .int .u64, .int .i64, .int .u64, .sl, .int .i64, .int .u64, .str, .str, .int .u64, .int .u64, .int .u64, .int .i64, .int .i64, .int .i64, .int .i64] cs1.toList fun (b23 b24 b25 b26 b27 b28 b29 b30 b31 b32 : Int) (b33 : Sl) (b34 b35 : Int) (b36 b37 : ByteArray) (b38 b39 b40 b41 b42 b43 b44 : Int) =>
  f a1 a2 a3 a4 a5 a6 a7 a8 a9 a10 a11 a12 a13 a14 a15 a16 a17 a18 a19 a20 a21 a22 b23 b24 b25 b26 b27 b28 b29 b30 b31 b32 b33 b34 b35 b36 b37 b38 b39 b40 b41 b42 b43 b44 h (fun (r0 : Bool) (h : Heap) => K (.bool r0) h)
  | _, _, _ => False
abbrev E_ref0_EqMsg := E_ref0_EqMsg_of F_ref0_EqMsg
theorem E_ref0_EqMsg.right : IsRight Try.prog 47 E_ref0_EqMsg := by
  refine isRight fun vs K w hh => ?_
  match vs, hh with
  | [v0, v1], hh =>
    unfold E_ref0_EqMsg E_ref0_EqMsg_of at hh
    replace hh := vAgg_sound hh; obtain ⟨cs0, rfl, hh⟩ := hh
    replace hh := decs_cons hh; obtain ⟨a1, l0_0, e0_0, hh⟩ := hh
    replace hh := decs_cons hh; obtain ⟨a2, l0_1, e0_1, hh⟩ := hh
    replace hh := decs_cons hh; obtain ⟨a3, l0_2, e0_2, hh⟩ := hh
    replace hh := decs_cons hh; obtain ⟨a4, l0_3, e0_3, hh⟩ := hh
    replace hh := decs_cons hh; obtain ⟨a5, l0_4, e0_4, hh⟩ := hh
    replace hh := decs_cons hh; obtain ⟨a6, l0_5, e0_5, hh⟩ := hh
    replace hh := decs_cons hh; obtain ⟨a7, l0_6, e0_6, hh⟩ := hh
    replace hh := decs_cons hh; obtain ⟨a8, l0_7, e0_7, hh⟩ := hh
    replace hh := decs_cons hh; obtain ⟨a9, l0_8, e0_8, hh⟩ := hh
    replace hh := decs_cons hh; obtain ⟨a10, l0_9, e0_9, hh⟩ := hh
    replace hh := decs_cons hh; obtain ⟨a11, l0_10, e0_10, hh⟩ := hh
    replace hh := decs_cons hh; obtain ⟨a12, l0_11, e0_11, hh⟩ := hh
    replace hh := decs_cons hh; obtain ⟨a13, l0_12, e0_12, hh⟩ := hh
    replace hh := decs_cons hh; obtain ⟨a14, l0_13, e0_13, hh⟩ := hh
    replace hh := decs_cons hh; obtain ⟨a15, l0_14, e0_14, hh⟩ := hh
    replace hh := decs_cons hh; obtain ⟨a16, l0_15, e0_15, hh⟩ := hh
    replace hh := decs_cons hh; obtain ⟨a17, l0_16, e0_16, hh⟩ := hh
    replace hh := decs_cons hh; obtain ⟨a18, l0_17, e0_17, hh⟩ := hh
    replace hh := decs_cons hh; obtain ⟨a19, l0_18, e0_18, hh⟩ := hh
    replace hh := decs_cons hh; obtain ⟨a20, l0_19, e0_19, hh⟩ := hh
    replace hh := decs_cons hh; obtain ⟨a21, l0_20, e0_20, hh⟩ := hh
    replace hh := decs_cons hh; obtain ⟨a22, l0_21, e0_21, hh⟩ := hh
    replace hh := decs_nil hh; obtain ⟨rfl, hh⟩ := hh
    subst e0_21
    subst e0_20
    subst e0_19
    subst e0_18
    subst e0_17
    subst e0_16
    subst e0_15
    subst e0_14
    subst e0_13
    subst e0_12
    subst e0_11
    subst e0_10
    subst e0_9
    subst e0_8
    subst e0_7
    subst e0_6
    subst e0_5
    subst e0_4
    subst e0_3
    subst e0_2
    subst e0_1
    have ec0 := toArray_eq e0_0
    subst ec0
    replace hh := vAgg_sound hh; obtain ⟨cs1, rfl, hh⟩ := hh
    replace hh := decs_cons hh; obtain ⟨b23, l1_0, e1_0, hh⟩ := hh
    replace hh := decs_cons hh; obtain ⟨b24, l1_1, e1_1, hh⟩ := hh
    replace hh := decs_cons hh; obtain ⟨b25, l1_2, e1_2, hh⟩ := hh
    replace hh := decs_cons hh; obtain ⟨b26, l1_3, e1_3, hh⟩ := hh
    replace hh := decs_cons hh; obtain ⟨b27, l1_4, e1_4, hh⟩ := hh
    replace hh := decs_cons hh; obtain ⟨b28, l1_5, e1_5, hh⟩ := hh
    replace hh := decs_cons hh; obtain ⟨b29, l1_6, e1_6, hh⟩ := hh
    replace hh := decs_cons hh; obtain ⟨b30, l1_7, e1_7, hh⟩ := hh
    replace hh := decs_cons hh; obtain ⟨b31, l1_8, e1_8, hh⟩ := hh
    replace hh := decs_cons hh; obtain ⟨b32, l1_9, e1_9, hh⟩ := hh
    replace hh := decs_cons hh; obtain ⟨b33, l1_10, e1_10, hh⟩ := hh
    replace hh := decs_cons hh; obtain ⟨b34, l1_11, e1_11, hh⟩ := hh
    replace hh := decs_cons hh; obtain ⟨b35, l1_12, e1_12, hh⟩ := hh
    replace hh := decs_cons hh; obtain ⟨b36, l1_13, e1_13, hh⟩ := hh
    replace hh := decs_cons hh; obtain ⟨b37, l1_14, e1_14, hh⟩ := hh
    replace hh := decs_cons hh; obtain ⟨b38, l1_15, e1_15, hh⟩ := hh
    replace hh := decs_cons hh; obtain ⟨b39, l1_16, e1_16, hh⟩ := hh
    replace hh := decs_cons hh; obtain ⟨b40, l1_17, e1_17, hh⟩ := hh
    replace hh := decs_cons hh; obtain ⟨b41, l1_18, e1_18, hh⟩ := hh
    replace hh := decs_cons hh; obtain ⟨b42, l1_19, e1_19, hh⟩ := hh
    replace hh := decs_cons hh; obtain ⟨b43, l1_20, e1_20, hh⟩ := hh
    replace hh := decs_cons hh; obtain ⟨b44, l1_21, e1_21, hh⟩ := hh
    replace hh := decs_nil hh; obtain ⟨rfl, hh⟩ := hh
    subst e1_21
    subst e1_20
    subst e1_19
    subst e1_18
    subst e1_17
    subst e1_16
    subst e1_15
    subst e1_14
    subst e1_13
    subst e1_12
    subst e1_11
    subst e1_10
    subst e1_9
    subst e1_8
    subst e1_7
    subst e1_6
    subst e1_5
    subst e1_4
    subst e1_3
    subst e1_2
    subst e1_1
    have ec1 := toArray_eq e1_0
    subst ec1
    unfold F_ref0_EqMsg at hh
    exact calls_den (fn1_right ok60 E_ref0_Cmp.right noFns_right) plan47 _ w K Try.func47 (by kernel_rfl) (by kernel_rfl) (Eq.mp (F_ref0_EqMsg.eq F_ref0_Cmp a1 a2 a3 a4 a5 a6 a7 a8 a9 a10 a11 a12 a13 a14 a15 a16 a17 a18 a19 a20 a21 a22 b23 b24 b25 b26 b27 b28 b29 b30 b31 b32 b33 b34 b35 b36 b37 b38 b39 b40 b41 b42 b43 b44 w.heap K) hh)
theorem ok47 : okFn Try.prog 47 = true := by kernel_rfl
end Go.Proofs.Ytigcpkejjjgkeaa.V
namespace Go.Proofs.Ytigcpkejjjgkeaa.V
open Go Go.RowKit
set_option linter.unusedVariables false
set_option maxRecDepth 100000
def F_ref0_CopyMsg_of (f56_ : Sl → Heap → (Sl → Heap → Prop) → Prop) (m1 m2 m3 m4 m5 m6 m7 m8 m9 m10 : Int) (m11 : Sl) (m12 m13 : Int) (m14 m15 : ByteArray) (m16 m17 m18 m19 m20 m21 m22 : Int) (h : Heap) (Q : Int → Int → Int → Int → Int → Int → Int → Int → Int → Int → Sl → Int → Int → ByteArray → ByteArray → Int → Int → Int → Int → Int → Int → Int → Heap → Prop) : Prop :=
  al 66 [.int .i64 m1, .int .i64 m2, .int .i64 m3, .int .i64 m4, .int .u64 m5, .int .u64 m6, .int .u64 m7, .int .u64 m8, .int .i64 m9, .int .u64 m10, .slice m11.ptr m11.len m11.cap, .int .i64 m12, .int .u64 m13, .string m14, .string m15, .int .u64 m16, .int .u64 m17, .int .u64 m18, .int .i64 m19, .int .i64 m20, .int .i64 m21, .int .i64 m22] h fun (a23 : Addr) (h24 : Heap) =>
  al 66 [.int .i64 0, .int .i64 0, .int .i64 0, .int .i64 0, .int .u64 0, .int .u64 0, .int .u64 0, .int .u64 0, .int .i64 0, .int .u64 0, .slice none 0 0, .int .i64 0, .int .u64 0, .string (⟨#[]⟩ : ByteArray), .string (⟨#[]⟩ : ByteArray), .int .u64 0, .int .u64 0, .int .u64 0, .int .i64 0, .int .i64 0, .int .i64 0, .int .i64 0] h24 fun (a25 : Addr) (h26 : Heap) =>
  ld [.sl] (a23.add 10) h26 fun (v27 : Sl) =>
  f56_ v27 h26 fun (r28 : Sl) (h29 : Heap) =>
  st (a23.add 10) [.slice r28.ptr r28.len r28.cap] h29 fun (h30 : Heap) =>
  ld [.int .i64, .int .i64, .int .i64, .int .i64, .int .u64, .int .u64, .int .u64, .int .u64, .int .i64, .int .u64, .sl, .int .i64, .int .u64, .str, .str, .int .u64, .int .u64, .int .u64, .int .i64, .int .i64, .int .i64, .int .i64] a23 h30 fun (v31 v32 v33 v34 v35 v36 v37 v38 v39 v40 : Int) (v41 : Sl) (v42 v43 : Int) (v44 v45 : ByteArray) (v46 v47 v48 v49 v50 v51 v52 : Int) =>
  st a25 [.int .i64 v31, .int .i64 v32, .int .i64 v33, .int .i64 v34, .int .u64 v35, .int .u64 v36, .int .u64 v37, .int .u64 v38, .int .i64 v39, .int .u64 v40, .slice v41.ptr v41.len v41.cap, .int .i64 v42, .int .u64 v43, .string v44, .string v45, .int .u64 v46, .int .u64 v47, .int .u64 v48, .int .i64 v49, .int .i64 v50, .int .i64 v51, .int .i64 v52] h30 fun (h53 : Heap) =>
  ld [.int .i64, .int .i64, .int .i64, .int .i64, .int .u64, .int .u64, .int .u64, .int .u64, .int .i64, .int .u64, .sl, .int .i64, .int .u64, .str, .str, .int .u64, .int .u64, .int .u64, .int .i64, .int .i64, .int .i64, .int .i64] a25 h53 fun (v54 v55 v56 v57 v58 v59 v60 v61 v62 v63 : Int) (v64 : Sl) (v65 v66 : Int) (v67 v68 : ByteArray) (v69 v70 v71 v72 v73 v74 v75 : Int) =>
  Q v54 v55 v56 v57 v58 v59 v60 v61 v62 v63 v64 v65 v66 v67 v68 v69 v70 v71 v72 v73 v74 v75 h53
def F_ref0_CopyMsg (m1 m2 m3 m4 m5 m6 m7 m8 m9 m10 : Int) (m11 : Sl) (m12 m13 : Int) (m14 m15 : ByteArray) (m16 m17 m18 m19 m20 m21 m22 : Int) (h : Heap) (Q : Int → Int → Int → Int → Int → Int → Int → Int → Int → Int → Sl → Int → Int → ByteArray → ByteArray → Int → Int → Int → Int → Int → Int → Int → Heap → Prop) : Prop := F_ref0_CopyMsg_of F_ref0_Copy m1 m2 m3 m4 m5 m6 m7 m8 m9 m10 m11 m12 m13 m14 m15 m16 m17 m18 m19 m20 m21 m22 h Q
def plan38 : Plan := .s (.r [1, 2]) (.s (.r [1, 2]) (.s (.r [2]) .z))
theorem F_ref0_CopyMsg.eq (f56_ : Sl → Heap → (Sl → Heap → Prop) → Prop) (m1 m2 m3 m4 m5 m6 m7 m8 m9 m10 : Int) (m11 : Sl) (m12 m13 : Int) (m14 m15 : ByteArray) (m16 m17 m18 m19 m20 m21 m22 : Int) (h : Heap) (K : Value → Heap → Prop) : F_ref0_CopyMsg_of f56_ m1 m2 m3 m4 m5 m6 m7 m8 m9 m10 m11 m12 m13 m14 m15 m16 m17 m18 m19 m20 m21 m22 h (fun (r0 r1 r2 r3 r4 r5 r6 r7 r8 r9 : Int) (r10 : Sl) (r11 r12 : Int) (r13 r14 : ByteArray) (r15 r16 r17 r18 r19 r20 r21 : Int) (h : Heap) => K (.agg #[.int .i64 r0, .int .i64 r1, .int .i64 r2, .int .i64 r3, .int .u64 r4, .int .u64 r5, .int .u64 r6, .int .u64 r7, .int .i64 r8, .int .u64 r9, .slice r10.ptr r10.len r10.cap, .int .i64 r11, .int .u64 r12, .string r13, .string r14, .int .u64 r15, .int .u64 r16, .int .u64 r17, .int .i64 r18, .int .i64 r19, .int .i64 r20, .int .i64 r21]) h) =
    den Try.prog (fn1 56 (E_ref0_Copy_of f56_) noFns) Try.f38.ntmps plan38 (bodyOf Try.f38) (args0 0 [(.agg #[.int .i64 m1, .int .i64 m2, .int .i64 m3, .int .i64 m4, .int .u64 m5, .int .u64 m6, .int .u64 m7, .int .u64 m8, .int .i64 m9, .int .u64 m10, .slice m11.ptr m11.len m11.cap, .int .i64 m12, .int .u64 m13, .string m14, .string m15, .int .u64 m16, .int .u64 m17, .int .u64 m18, .int .i64 m19, .int .i64 m20, .int .i64 m21, .int .i64 m22] : Value)]) h ⟨fun env h => dRes Try.prog Try.f38.results.toList env h K, fun _ _ _ => False, fun env h => dRes Try.prog Try.f38.results.toList env h K⟩ := by kernel_rfl
def E_ref0_CopyMsg_of (f : Int → Int → Int → Int → Int → Int → Int → Int → Int → Int → Sl → Int → Int → ByteArray → ByteArray → Int → Int → Int → Int → Int → Int → Int → Heap → (Int → Int → Int → Int → Int → Int → Int → Int → Int → Int → Sl → Int → Int → ByteArray → ByteArray → Int → Int → Int → Int → Int → Int → Int → Heap → Prop) → Prop) : List Value → Heap → (Value → Heap → Prop) → Prop
  | [v0], h, K => vAgg v0 fun cs0 => decs [.int .i64, .int .i64, .int .i64, .int .i64, .int .u64, .int .u64, .int .u64, .int .u64, .int .i64, .int .u64, .sl, .int .i64, .int .u64, .str, .str, .int .u64, .int .u64, .int .u64, .int .i64, .int .i64, .int .i64, .int .i64] cs0.toList fun (m1 m2 m3 m4 m5 m6 m7 m8 m9 m10 : Int) (m11 : Sl) (m12 m13 : Int) (m14 m15 : ByteArray) (m16 m17 m18 m19 m20 m21 m22 : Int) =>
  f m1 m2 m3 m4 m5 m6 m7 m8 m9 m10 m11 m12 m13 m14 m15 m16 m17 m18 m19 m20 m21 m22 h (fun (r0 r1 r2 r3 r4 r5 r6 r7 r8 r9 : Int) (r10 : Sl) (r11 r12 : Int) (r13 r14 : ByteArray) (r15 r16 r17 r18 r19 r20 r21 : Int) (h : Heap) => K (.agg #[.int .i64 r0, .int .i64 r1, .int .i64 r2, .int .i64 r3, .int .u64 r4, .int .u64 r5, .int .u64 r6, .int .u64 r7, .int .i64 r8, .int .u64 r9, .slice r10.ptr r10.len r10.cap, .int .i64 r11, .int .u64 r12, .string r13, .string r14, .int .u64 r15, .int .u64 r16, .int .u64 r17, .int .i64 r18, .int .i64 r19, .int .i64 r20, .int .i64 r21]) h)
  | _, _, _ => False
abbrev E_ref0_CopyMsg := E_ref0_CopyMsg_of F_ref0_CopyMsg
theorem E_ref0_CopyMsg.right : IsRight Try.prog 38 E_ref0_CopyMsg := by
  refine isRight fun vs K w hh => ?_
  match vs, hh with
  | [v0], hh =>
    unfold E_ref0_CopyMsg E_ref0_CopyMsg_of at hh
    replace hh := vAgg_sound hh; obtain ⟨cs0, rfl, hh⟩ := hh
    replace hh := decs_cons hh; obtain ⟨m1, l0_0, e0_0, hh⟩ := hh
    replace hh := decs_cons hh; obtain ⟨m2, l0_1, e0_1, hh⟩ := hh
    replace hh := decs_cons hh; obtain ⟨m3, l0_2, e0_2, hh⟩ := hh
    replace hh := decs_cons hh; obtain ⟨m4, l0_3, e0_3, hh⟩ := hh
    replace hh := decs_cons hh; obtain ⟨m5, l0_4, e0_4, hh⟩ := hh
    replace hh := decs_cons hh; obtain ⟨m6, l0_5, e0_5, hh⟩ := hh
    replace hh := decs_cons hh; obtain ⟨m7, l0_6, e0_6, hh⟩ := hh
    replace hh := decs_cons hh; obtain ⟨m8, l0_7, e0_7, hh⟩ := hh
    replace hh := decs_cons hh; obtain ⟨m9, l0_8, e0_8, hh⟩ := hh
    replace hh := decs_cons hh; obtain ⟨m10, l0_9, e0_9, hh⟩ := hh
    replace hh := decs_cons hh; obtain ⟨m11, l0_10, e0_10, hh⟩ := hh
    replace hh := decs_cons hh; obtain ⟨m12, l0_11, e0_11, hh⟩ := hh
    replace hh := decs_cons hh; obtain ⟨m13, l0_12, e0_12, hh⟩ := hh
    replace hh := decs_cons hh; obtain ⟨m14, l0_13, e0_13, hh⟩ := hh
    replace hh := decs_cons hh; obtain ⟨m15, l0_14, e0_14, hh⟩ := hh
    replace hh := decs_cons hh; obtain ⟨m16, l0_15, e0_15, hh⟩ := hh
    replace hh := decs_cons hh; obtain ⟨m17, l0_16, e0_16, hh⟩ := hh
    replace hh := decs_cons hh; obtain ⟨m18, l0_17, e0_17, hh⟩ := hh
    replace hh := decs_cons hh; obtain ⟨m19, l0_18, e0_18, hh⟩ := hh
    replace hh := decs_cons hh; obtain ⟨m20, l0_19, e0_19, hh⟩ := hh
    replace hh := decs_cons hh; obtain ⟨m21, l0_20, e0_20, hh⟩ := hh
    replace hh := decs_cons hh; obtain ⟨m22, l0_21, e0_21, hh⟩ := hh
    replace hh := decs_nil hh; obtain ⟨rfl, hh⟩ := hh
    subst e0_21
    subst e0_20
    subst e0_19
    subst e0_18
    subst e0_17
    subst e0_16
    subst e0_15
    subst e0_14
    subst e0_13
    subst e0_12
    subst e0_11
    subst e0_10
    subst e0_9
    subst e0_8
    subst e0_7
    subst e0_6
    subst e0_5
    subst e0_4
    subst e0_3
    subst e0_2
    subst e0_1
    have ec0 := toArray_eq e0_0
    subst ec0
    unfold F_ref0_CopyMsg at hh
    exact calls_den (fn1_right ok56 E_ref0_Copy.right noFns_right) plan38 _ w K Try.func38 (by kernel_rfl) (by kernel_rfl) (Eq.mp (F_ref0_CopyMsg.eq F_ref0_Copy m1 m2 m3 m4 m5 m6 m7 m8 m9 m10 m11 m12 m13 m14 m15 m16 m17 m18 m19 m20 m21 m22 w.heap K) hh)
theorem ok38 : okFn Try.prog 38 = true := by kernel_rfl
end Go.Proofs.Ytigcpkejjjgkeaa.V
/- The document's replica; messages and what is stored, compared and copied. -/
namespace Go.Proofs.Ytigcpkejjjgkeaa.V
open Go Go.RowKit
set_option linter.unusedVariables false
set_option linter.unusedSimpArgs false
section
variable {h0 h : Heap} {L : List Res}
theorem F_ref0_CmpTag.is {a b c d : Int} {Q : Int → Heap → Prop} (O : Sat h0 h L) (k : ∀ h', Sat h0 h' L → Q (if tagLt a b c d then -1 else if a = c ∧ b = d then 0 else 1) h') : F_ref0_CmpTag a b c d h Q := by
  rw [F_ref0_CmpTag.eq_1, F_ref0_CmpTag_of.eq_1]
  refine O.al fun x5 h O => ?_
  refine O.al fun x7 h O => ?_
  refine jn1 (fun z h' => h' = h ∧ z = decide (tagLt a b c d)) ?_ ?_
  · rintro z h ⟨rfl, rfl⟩
    refine brr_p (fun hc => ?_) (fun hc => ?_)
    · rw [if_pos hc] at k
      exact k _ O.drop.drop
    · rw [if_neg hc] at k
      repeat (first | (with_reducible refine al_id ?_); refine O.al fun _ h O => ?_ | (with_reducible refine nn_id ?_); refine ⟨_, rfl, ?_⟩ | (with_reducible refine ld_id ?_); (first | refine O.ld 0 rfl ?_ | refine O.ld 1 rfl ?_); (repeat (first | (with_reducible refine ldL_n ?_) | refine ldL_s ?_ | refine ldL_c ?_)) | (with_reducible refine st_ad (by first | (with_reducible rfl) | (simp only [pt_add, Nat.zero_add, Nat.add_zero, Nat.reduceAdd]; with_reducible rfl)) ?_); (first | refine O.st 0 rfl (by simp) rfl fun h O => ?_ | refine O.st 1 rfl (by simp) rfl fun h O => ?_); (dsimp only [V.put, List.set, List.length_cons, List.length_nil] at O) | (with_reducible refine ca_id ?_); (first | refine O.ca 0 1 rfl ?_ | refine O.ca 0 2 rfl ?_ | refine O.ca 1 1 rfl ?_ | refine O.ca 1 2 rfl ?_))
      refine brr_of (fun h1 => ?_) (fun h1 => ?_)
      · rw [if_pos (by simpa using h1)] at k
        exact k _ O.drop.drop
      · rw [if_neg (by simpa using h1)] at k
        exact k _ O.drop.drop
  · intro j hj
    repeat (first | (with_reducible refine al_id ?_); refine O.al fun _ h O => ?_ | (with_reducible refine nn_id ?_); refine ⟨_, rfl, ?_⟩ | (with_reducible refine ld_id ?_); (first | refine O.ld 0 rfl ?_ | refine O.ld 1 rfl ?_); (repeat (first | (with_reducible refine ldL_n ?_) | refine ldL_s ?_ | refine ldL_c ?_)) | (with_reducible refine st_ad (by first | (with_reducible rfl) | (simp only [pt_add, Nat.zero_add, Nat.add_zero, Nat.reduceAdd]; with_reducible rfl)) ?_); (first | refine O.st 0 rfl (by simp) rfl fun h O => ?_ | refine O.st 1 rfl (by simp) rfl fun h O => ?_); (dsimp only [V.put, List.set, List.length_cons, List.length_nil] at O) | (with_reducible refine ca_id ?_); (first | refine O.ca 0 1 rfl ?_ | refine O.ca 0 2 rfl ?_ | refine O.ca 1 1 rfl ?_ | refine O.ca 1 2 rfl ?_))
    have ht : tagLt a b c d ↔ (a < c ∨ (a = c ∧ b < d)) := Iff.rfl
    refine brr_p (fun h1 => ?_) (fun h1 => ?_)
    · exact hj _ _ ⟨rfl, (decide_eq_true (ht.2 (by omega))).symm⟩
    repeat (first | (with_reducible refine al_id ?_); refine O.al fun _ h O => ?_ | (with_reducible refine nn_id ?_); refine ⟨_, rfl, ?_⟩ | (with_reducible refine ld_id ?_); (first | refine O.ld 0 rfl ?_ | refine O.ld 1 rfl ?_); (repeat (first | (with_reducible refine ldL_n ?_) | refine ldL_s ?_ | refine ldL_c ?_)) | (with_reducible refine st_ad (by first | (with_reducible rfl) | (simp only [pt_add, Nat.zero_add, Nat.add_zero, Nat.reduceAdd]; with_reducible rfl)) ?_); (first | refine O.st 0 rfl (by simp) rfl fun h O => ?_ | refine O.st 1 rfl (by simp) rfl fun h O => ?_); (dsimp only [V.put, List.set, List.length_cons, List.length_nil] at O) | (with_reducible refine ca_id ?_); (first | refine O.ca 0 1 rfl ?_ | refine O.ca 0 2 rfl ?_ | refine O.ca 1 1 rfl ?_ | refine O.ca 1 2 rfl ?_))
    refine brr_eq (fun h2 => ?_) (fun h2 => ?_)
    · repeat (first | (with_reducible refine al_id ?_); refine O.al fun _ h O => ?_ | (with_reducible refine nn_id ?_); refine ⟨_, rfl, ?_⟩ | (with_reducible refine ld_id ?_); (first | refine O.ld 0 rfl ?_ | refine O.ld 1 rfl ?_); (repeat (first | (with_reducible refine ldL_n ?_) | refine ldL_s ?_ | refine ldL_c ?_)) | (with_reducible refine st_ad (by first | (with_reducible rfl) | (simp only [pt_add, Nat.zero_add, Nat.add_zero, Nat.reduceAdd]; with_reducible rfl)) ?_); (first | refine O.st 0 rfl (by simp) rfl fun h O => ?_ | refine O.st 1 rfl (by simp) rfl fun h O => ?_); (dsimp only [V.put, List.set, List.length_cons, List.length_nil] at O) | (with_reducible refine ca_id ?_); (first | refine O.ca 0 1 rfl ?_ | refine O.ca 0 2 rfl ?_ | refine O.ca 1 1 rfl ?_ | refine O.ca 1 2 rfl ?_))
      exact hj _ _ ⟨rfl, decide_eq_decide.2 (by rw [ht]; omega)⟩
    · exact hj _ _ ⟨rfl, (decide_eq_false (by rw [ht]; omega)).symm⟩
theorem F_ref0_CopyMsg.is {m : Mg} {Q : Int → Int → Int → Int → Int → Int → Int → Int → Int → Int → Sl → Int → Int → ByteArray → ByteArray → Int → Int → Int → Int → Int → Int → Int → Heap → Prop} (O : Sat h0 h L) (V1 : Stays h0 L fun h => Bytes h m.v m.b) (hb : m.b.length ≤ (140737488355325 : Nat)) (k : ∀ s h', Sat h0 h' (buf 1 u8 s m.b :: L) → Q m.kind m.frm m.to m.shard m.epoch m.te m.ts m.round m.span m.seen s m.peer m.num m.name m.other m.amount m.life m.id m.op m.client m.state m.bad h') : F_ref0_CopyMsg m.kind m.frm m.to m.shard m.epoch m.te m.ts m.round m.span m.seen m.v m.peer m.num m.name m.other m.amount m.life m.id m.op m.client m.state m.bad h Q := by
  rw [F_ref0_CopyMsg.eq_1, F_ref0_CopyMsg_of.eq_1]
  repeat (first | (with_reducible refine al_id ?_); refine O.al fun _ h O => ?_ | (with_reducible refine nn_id ?_); refine ⟨_, rfl, ?_⟩ | (with_reducible refine ld_id ?_); (first | refine O.ld 0 rfl ?_ | refine O.ld 1 rfl ?_); (repeat (first | (with_reducible refine ldL_n ?_) | refine ldL_s ?_ | refine ldL_c ?_)) | (with_reducible refine st_ad (by first | (with_reducible rfl) | (simp only [pt_add, Nat.zero_add, Nat.add_zero, Nat.reduceAdd]; with_reducible rfl)) ?_); (first | refine O.st 0 rfl (by simp) rfl fun h O => ?_ | refine O.st 1 rfl (by simp) rfl fun h O => ?_); (dsimp only [V.put, List.set, List.length_cons, List.length_nil] at O) | (with_reducible refine ca_id ?_); (first | refine O.ca 0 1 rfl ?_ | refine O.ca 0 2 rfl ?_ | refine O.ca 1 1 rfl ?_ | refine O.ca 1 2 rfl ?_))
  refine F_ref0_Copy.is O (V1 h O.drop.drop) (by omega) fun s h O _ _ => ?_
  repeat (first | (with_reducible refine al_id ?_); refine O.al fun _ h O => ?_ | (with_reducible refine nn_id ?_); refine ⟨_, rfl, ?_⟩ | (with_reducible refine ld_id ?_); (first | refine O.ld 0 rfl ?_ | refine O.ld 1 rfl ?_ | refine O.ld 2 rfl ?_); (repeat (first | (with_reducible refine ldL_n ?_) | refine ldL_s ?_ | refine ldL_c ?_)) | (with_reducible refine st_ad (by first | (with_reducible rfl) | (simp only [pt_add, Nat.zero_add, Nat.add_zero, Nat.reduceAdd]; with_reducible rfl)) ?_); (first | refine O.st 0 rfl (by simp) rfl fun h O => ?_ | refine O.st 1 rfl (by simp) rfl fun h O => ?_ | refine O.st 2 rfl (by simp) rfl fun h O => ?_); (dsimp only [V.put, List.set, List.length_cons, List.length_nil] at O) | (with_reducible refine ca_id ?_); (first | refine O.ca 0 1 rfl ?_ | refine O.ca 0 2 rfl ?_ | refine O.ca 1 1 rfl ?_ | refine O.ca 1 2 rfl ?_ | refine O.ca 2 1 rfl ?_ | refine O.ca 2 2 rfl ?_))
  exact k _ _ (O.sel [0] 3 rfl (Nat.le_add_left _ _))
theorem F_ref0_EqMsg.is {m : Mg} {t : Sl} {Q : Bool → Heap → Prop} (O : Sat h0 h L) (V1 : Stays h0 L fun h => Bytes h m.v m.b) (V2 : Stays h0 L fun h => Bytes h t m.b) (h1 : m.b.length ≤ (140737488355325 : Nat)) (k : ∀ h', Sat h0 h' L → Q true h') : F_ref0_EqMsg m.kind m.frm m.to m.shard m.epoch m.te m.ts m.round m.span m.seen m.v m.peer m.num m.name m.other m.amount m.life m.id m.op m.client m.state m.bad m.kind m.frm m.to m.shard m.epoch m.te m.ts m.round m.span m.seen t m.peer m.num m.name m.other m.amount m.life m.id m.op m.client m.state m.bad h Q := by
  rw [F_ref0_EqMsg.eq_1, F_ref0_EqMsg_of.eq_1]
  refine O.al fun x45 h O => ?_
  refine O.al fun x47 h O => ?_
  refine jn1 (fun z h' => h' = h ∧ z = true) (fun z h' ⟨e, e2⟩ => by subst e; subst e2; exact k _ O.drop.drop) fun j hj => ?_
  repeat (first | (with_reducible refine al_id ?_); refine O.al fun _ h O => ?_ | (with_reducible refine nn_id ?_); refine ⟨_, rfl, ?_⟩ | (with_reducible refine ld_id ?_); (first | refine O.ld 0 rfl ?_ | refine O.ld 1 rfl ?_); (repeat (first | (with_reducible refine ldL_n ?_) | refine ldL_s ?_ | refine ldL_c ?_)) | (with_reducible refine st_ad (by first | (with_reducible rfl) | (simp only [pt_add, Nat.zero_add, Nat.add_zero, Nat.reduceAdd]; with_reducible rfl)) ?_); (first | refine O.st 0 rfl (by simp) rfl fun h O => ?_ | refine O.st 1 rfl (by simp) rfl fun h O => ?_); (dsimp only [V.put, List.set, List.length_cons, List.length_nil] at O) | (with_reducible refine ca_id ?_); (first | refine O.ca 0 1 rfl ?_ | refine O.ca 0 2 rfl ?_ | refine O.ca 1 1 rfl ?_ | refine O.ca 1 2 rfl ?_))
  refine brr_tt (by simp) ?_
  repeat (first | (with_reducible refine al_id ?_); refine O.al fun _ h O => ?_ | (with_reducible refine nn_id ?_); refine ⟨_, rfl, ?_⟩ | (with_reducible refine ld_id ?_); (first | refine O.ld 0 rfl ?_ | refine O.ld 1 rfl ?_); (repeat (first | (with_reducible refine ldL_n ?_) | refine ldL_s ?_ | refine ldL_c ?_)) | (with_reducible refine st_ad (by first | (with_reducible rfl) | (simp only [pt_add, Nat.zero_add, Nat.add_zero, Nat.reduceAdd]; with_reducible rfl)) ?_); (first | refine O.st 0 rfl (by simp) rfl fun h O => ?_ | refine O.st 1 rfl (by simp) rfl fun h O => ?_); (dsimp only [V.put, List.set, List.length_cons, List.length_nil] at O) | (with_reducible refine ca_id ?_); (first | refine O.ca 0 1 rfl ?_ | refine O.ca 0 2 rfl ?_ | refine O.ca 1 1 rfl ?_ | refine O.ca 1 2 rfl ?_))
  refine brr_tt (by simp) ?_
  repeat (first | (with_reducible refine al_id ?_); refine O.al fun _ h O => ?_ | (with_reducible refine nn_id ?_); refine ⟨_, rfl, ?_⟩ | (with_reducible refine ld_id ?_); (first | refine O.ld 0 rfl ?_ | refine O.ld 1 rfl ?_); (repeat (first | (with_reducible refine ldL_n ?_) | refine ldL_s ?_ | refine ldL_c ?_)) | (with_reducible refine st_ad (by first | (with_reducible rfl) | (simp only [pt_add, Nat.zero_add, Nat.add_zero, Nat.reduceAdd]; with_reducible rfl)) ?_); (first | refine O.st 0 rfl (by simp) rfl fun h O => ?_ | refine O.st 1 rfl (by simp) rfl fun h O => ?_); (dsimp only [V.put, List.set, List.length_cons, List.length_nil] at O) | (with_reducible refine ca_id ?_); (first | refine O.ca 0 1 rfl ?_ | refine O.ca 0 2 rfl ?_ | refine O.ca 1 1 rfl ?_ | refine O.ca 1 2 rfl ?_))
  refine brr_tt (by simp) ?_
  repeat (first | (with_reducible refine al_id ?_); refine O.al fun _ h O => ?_ | (with_reducible refine nn_id ?_); refine ⟨_, rfl, ?_⟩ | (with_reducible refine ld_id ?_); (first | refine O.ld 0 rfl ?_ | refine O.ld 1 rfl ?_); (repeat (first | (with_reducible refine ldL_n ?_) | refine ldL_s ?_ | refine ldL_c ?_)) | (with_reducible refine st_ad (by first | (with_reducible rfl) | (simp only [pt_add, Nat.zero_add, Nat.add_zero, Nat.reduceAdd]; with_reducible rfl)) ?_); (first | refine O.st 0 rfl (by simp) rfl fun h O => ?_ | refine O.st 1 rfl (by simp) rfl fun h O => ?_); (dsimp only [V.put, List.set, List.length_cons, List.length_nil] at O) | (with_reducible refine ca_id ?_); (first | refine O.ca 0 1 rfl ?_ | refine O.ca 0 2 rfl ?_ | refine O.ca 1 1 rfl ?_ | refine O.ca 1 2 rfl ?_))
  refine brr_tt (by simp) ?_
  repeat (first | (with_reducible refine al_id ?_); refine O.al fun _ h O => ?_ | (with_reducible refine nn_id ?_); refine ⟨_, rfl, ?_⟩ | (with_reducible refine ld_id ?_); (first | refine O.ld 0 rfl ?_ | refine O.ld 1 rfl ?_); (repeat (first | (with_reducible refine ldL_n ?_) | refine ldL_s ?_ | refine ldL_c ?_)) | (with_reducible refine st_ad (by first | (with_reducible rfl) | (simp only [pt_add, Nat.zero_add, Nat.add_zero, Nat.reduceAdd]; with_reducible rfl)) ?_); (first | refine O.st 0 rfl (by simp) rfl fun h O => ?_ | refine O.st 1 rfl (by simp) rfl fun h O => ?_); (dsimp only [V.put, List.set, List.length_cons, List.length_nil] at O) | (with_reducible refine ca_id ?_); (first | refine O.ca 0 1 rfl ?_ | refine O.ca 0 2 rfl ?_ | refine O.ca 1 1 rfl ?_ | refine O.ca 1 2 rfl ?_))
  refine brr_tt (by simp) ?_
  repeat (first | (with_reducible refine al_id ?_); refine O.al fun _ h O => ?_ | (with_reducible refine nn_id ?_); refine ⟨_, rfl, ?_⟩ | (with_reducible refine ld_id ?_); (first | refine O.ld 0 rfl ?_ | refine O.ld 1 rfl ?_); (repeat (first | (with_reducible refine ldL_n ?_) | refine ldL_s ?_ | refine ldL_c ?_)) | (with_reducible refine st_ad (by first | (with_reducible rfl) | (simp only [pt_add, Nat.zero_add, Nat.add_zero, Nat.reduceAdd]; with_reducible rfl)) ?_); (first | refine O.st 0 rfl (by simp) rfl fun h O => ?_ | refine O.st 1 rfl (by simp) rfl fun h O => ?_); (dsimp only [V.put, List.set, List.length_cons, List.length_nil] at O) | (with_reducible refine ca_id ?_); (first | refine O.ca 0 1 rfl ?_ | refine O.ca 0 2 rfl ?_ | refine O.ca 1 1 rfl ?_ | refine O.ca 1 2 rfl ?_))
  refine brr_tt (by simp) ?_
  repeat (first | (with_reducible refine al_id ?_); refine O.al fun _ h O => ?_ | (with_reducible refine nn_id ?_); refine ⟨_, rfl, ?_⟩ | (with_reducible refine ld_id ?_); (first | refine O.ld 0 rfl ?_ | refine O.ld 1 rfl ?_); (repeat (first | (with_reducible refine ldL_n ?_) | refine ldL_s ?_ | refine ldL_c ?_)) | (with_reducible refine st_ad (by first | (with_reducible rfl) | (simp only [pt_add, Nat.zero_add, Nat.add_zero, Nat.reduceAdd]; with_reducible rfl)) ?_); (first | refine O.st 0 rfl (by simp) rfl fun h O => ?_ | refine O.st 1 rfl (by simp) rfl fun h O => ?_); (dsimp only [V.put, List.set, List.length_cons, List.length_nil] at O) | (with_reducible refine ca_id ?_); (first | refine O.ca 0 1 rfl ?_ | refine O.ca 0 2 rfl ?_ | refine O.ca 1 1 rfl ?_ | refine O.ca 1 2 rfl ?_))
  refine F_ref0_Cmp.is (V1 h O.drop.drop) (V2 h O.drop.drop) (by omega) (by omega) fun r hr => ?_
  refine brr_tt (by simp [hr]) ?_
  repeat (first | (with_reducible refine al_id ?_); refine O.al fun _ h O => ?_ | (with_reducible refine nn_id ?_); refine ⟨_, rfl, ?_⟩ | (with_reducible refine ld_id ?_); (first | refine O.ld 0 rfl ?_ | refine O.ld 1 rfl ?_); (repeat (first | (with_reducible refine ldL_n ?_) | refine ldL_s ?_ | refine ldL_c ?_)) | (with_reducible refine st_ad (by first | (with_reducible rfl) | (simp only [pt_add, Nat.zero_add, Nat.add_zero, Nat.reduceAdd]; with_reducible rfl)) ?_); (first | refine O.st 0 rfl (by simp) rfl fun h O => ?_ | refine O.st 1 rfl (by simp) rfl fun h O => ?_); (dsimp only [V.put, List.set, List.length_cons, List.length_nil] at O) | (with_reducible refine ca_id ?_); (first | refine O.ca 0 1 rfl ?_ | refine O.ca 0 2 rfl ?_ | refine O.ca 1 1 rfl ?_ | refine O.ca 1 2 rfl ?_))
  refine brr_tt (by simp) ?_
  repeat (first | (with_reducible refine al_id ?_); refine O.al fun _ h O => ?_ | (with_reducible refine nn_id ?_); refine ⟨_, rfl, ?_⟩ | (with_reducible refine ld_id ?_); (first | refine O.ld 0 rfl ?_ | refine O.ld 1 rfl ?_); (repeat (first | (with_reducible refine ldL_n ?_) | refine ldL_s ?_ | refine ldL_c ?_)) | (with_reducible refine st_ad (by first | (with_reducible rfl) | (simp only [pt_add, Nat.zero_add, Nat.add_zero, Nat.reduceAdd]; with_reducible rfl)) ?_); (first | refine O.st 0 rfl (by simp) rfl fun h O => ?_ | refine O.st 1 rfl (by simp) rfl fun h O => ?_); (dsimp only [V.put, List.set, List.length_cons, List.length_nil] at O) | (with_reducible refine ca_id ?_); (first | refine O.ca 0 1 rfl ?_ | refine O.ca 0 2 rfl ?_ | refine O.ca 1 1 rfl ?_ | refine O.ca 1 2 rfl ?_))
  refine brr_tt (by simp) ?_
  repeat (first | (with_reducible refine al_id ?_); refine O.al fun _ h O => ?_ | (with_reducible refine nn_id ?_); refine ⟨_, rfl, ?_⟩ | (with_reducible refine ld_id ?_); (first | refine O.ld 0 rfl ?_ | refine O.ld 1 rfl ?_); (repeat (first | (with_reducible refine ldL_n ?_) | refine ldL_s ?_ | refine ldL_c ?_)) | (with_reducible refine st_ad (by first | (with_reducible rfl) | (simp only [pt_add, Nat.zero_add, Nat.add_zero, Nat.reduceAdd]; with_reducible rfl)) ?_); (first | refine O.st 0 rfl (by simp) rfl fun h O => ?_ | refine O.st 1 rfl (by simp) rfl fun h O => ?_); (dsimp only [V.put, List.set, List.length_cons, List.length_nil] at O) | (with_reducible refine ca_id ?_); (first | refine O.ca 0 1 rfl ?_ | refine O.ca 0 2 rfl ?_ | refine O.ca 1 1 rfl ?_ | refine O.ca 1 2 rfl ?_))
  refine brr_tt (by simp) ?_
  repeat (first | (with_reducible refine al_id ?_); refine O.al fun _ h O => ?_ | (with_reducible refine nn_id ?_); refine ⟨_, rfl, ?_⟩ | (with_reducible refine ld_id ?_); (first | refine O.ld 0 rfl ?_ | refine O.ld 1 rfl ?_); (repeat (first | (with_reducible refine ldL_n ?_) | refine ldL_s ?_ | refine ldL_c ?_)) | (with_reducible refine st_ad (by first | (with_reducible rfl) | (simp only [pt_add, Nat.zero_add, Nat.add_zero, Nat.reduceAdd]; with_reducible rfl)) ?_); (first | refine O.st 0 rfl (by simp) rfl fun h O => ?_ | refine O.st 1 rfl (by simp) rfl fun h O => ?_); (dsimp only [V.put, List.set, List.length_cons, List.length_nil] at O) | (with_reducible refine ca_id ?_); (first | refine O.ca 0 1 rfl ?_ | refine O.ca 0 2 rfl ?_ | refine O.ca 1 1 rfl ?_ | refine O.ca 1 2 rfl ?_))
  refine brr_tt (by simp) ?_
  repeat (first | (with_reducible refine al_id ?_); refine O.al fun _ h O => ?_ | (with_reducible refine nn_id ?_); refine ⟨_, rfl, ?_⟩ | (with_reducible refine ld_id ?_); (first | refine O.ld 0 rfl ?_ | refine O.ld 1 rfl ?_); (repeat (first | (with_reducible refine ldL_n ?_) | refine ldL_s ?_ | refine ldL_c ?_)) | (with_reducible refine st_ad (by first | (with_reducible rfl) | (simp only [pt_add, Nat.zero_add, Nat.add_zero, Nat.reduceAdd]; with_reducible rfl)) ?_); (first | refine O.st 0 rfl (by simp) rfl fun h O => ?_ | refine O.st 1 rfl (by simp) rfl fun h O => ?_); (dsimp only [V.put, List.set, List.length_cons, List.length_nil] at O) | (with_reducible refine ca_id ?_); (first | refine O.ca 0 1 rfl ?_ | refine O.ca 0 2 rfl ?_ | refine O.ca 1 1 rfl ?_ | refine O.ca 1 2 rfl ?_))
  refine brr_tt (by simp) ?_
  repeat (first | (with_reducible refine al_id ?_); refine O.al fun _ h O => ?_ | (with_reducible refine nn_id ?_); refine ⟨_, rfl, ?_⟩ | (with_reducible refine ld_id ?_); (first | refine O.ld 0 rfl ?_ | refine O.ld 1 rfl ?_); (repeat (first | (with_reducible refine ldL_n ?_) | refine ldL_s ?_ | refine ldL_c ?_)) | (with_reducible refine st_ad (by first | (with_reducible rfl) | (simp only [pt_add, Nat.zero_add, Nat.add_zero, Nat.reduceAdd]; with_reducible rfl)) ?_); (first | refine O.st 0 rfl (by simp) rfl fun h O => ?_ | refine O.st 1 rfl (by simp) rfl fun h O => ?_); (dsimp only [V.put, List.set, List.length_cons, List.length_nil] at O) | (with_reducible refine ca_id ?_); (first | refine O.ca 0 1 rfl ?_ | refine O.ca 0 2 rfl ?_ | refine O.ca 1 1 rfl ?_ | refine O.ca 1 2 rfl ?_))
  refine brr_tt (by simp) ?_
  repeat (first | (with_reducible refine al_id ?_); refine O.al fun _ h O => ?_ | (with_reducible refine nn_id ?_); refine ⟨_, rfl, ?_⟩ | (with_reducible refine ld_id ?_); (first | refine O.ld 0 rfl ?_ | refine O.ld 1 rfl ?_); (repeat (first | (with_reducible refine ldL_n ?_) | refine ldL_s ?_ | refine ldL_c ?_)) | (with_reducible refine st_ad (by first | (with_reducible rfl) | (simp only [pt_add, Nat.zero_add, Nat.add_zero, Nat.reduceAdd]; with_reducible rfl)) ?_); (first | refine O.st 0 rfl (by simp) rfl fun h O => ?_ | refine O.st 1 rfl (by simp) rfl fun h O => ?_); (dsimp only [V.put, List.set, List.length_cons, List.length_nil] at O) | (with_reducible refine ca_id ?_); (first | refine O.ca 0 1 rfl ?_ | refine O.ca 0 2 rfl ?_ | refine O.ca 1 1 rfl ?_ | refine O.ca 1 2 rfl ?_))
  refine brr_tt (by simp) ?_
  repeat (first | (with_reducible refine al_id ?_); refine O.al fun _ h O => ?_ | (with_reducible refine nn_id ?_); refine ⟨_, rfl, ?_⟩ | (with_reducible refine ld_id ?_); (first | refine O.ld 0 rfl ?_ | refine O.ld 1 rfl ?_); (repeat (first | (with_reducible refine ldL_n ?_) | refine ldL_s ?_ | refine ldL_c ?_)) | (with_reducible refine st_ad (by first | (with_reducible rfl) | (simp only [pt_add, Nat.zero_add, Nat.add_zero, Nat.reduceAdd]; with_reducible rfl)) ?_); (first | refine O.st 0 rfl (by simp) rfl fun h O => ?_ | refine O.st 1 rfl (by simp) rfl fun h O => ?_); (dsimp only [V.put, List.set, List.length_cons, List.length_nil] at O) | (with_reducible refine ca_id ?_); (first | refine O.ca 0 1 rfl ?_ | refine O.ca 0 2 rfl ?_ | refine O.ca 1 1 rfl ?_ | refine O.ca 1 2 rfl ?_))
  refine brr_tt (by simp) ?_
  repeat (first | (with_reducible refine al_id ?_); refine O.al fun _ h O => ?_ | (with_reducible refine nn_id ?_); refine ⟨_, rfl, ?_⟩ | (with_reducible refine ld_id ?_); (first | refine O.ld 0 rfl ?_ | refine O.ld 1 rfl ?_); (repeat (first | (with_reducible refine ldL_n ?_) | refine ldL_s ?_ | refine ldL_c ?_)) | (with_reducible refine st_ad (by first | (with_reducible rfl) | (simp only [pt_add, Nat.zero_add, Nat.add_zero, Nat.reduceAdd]; with_reducible rfl)) ?_); (first | refine O.st 0 rfl (by simp) rfl fun h O => ?_ | refine O.st 1 rfl (by simp) rfl fun h O => ?_); (dsimp only [V.put, List.set, List.length_cons, List.length_nil] at O) | (with_reducible refine ca_id ?_); (first | refine O.ca 0 1 rfl ?_ | refine O.ca 0 2 rfl ?_ | refine O.ca 1 1 rfl ?_ | refine O.ca 1 2 rfl ?_))
  refine brr_tt (by simp) ?_
  repeat (first | (with_reducible refine al_id ?_); refine O.al fun _ h O => ?_ | (with_reducible refine nn_id ?_); refine ⟨_, rfl, ?_⟩ | (with_reducible refine ld_id ?_); (first | refine O.ld 0 rfl ?_ | refine O.ld 1 rfl ?_); (repeat (first | (with_reducible refine ldL_n ?_) | refine ldL_s ?_ | refine ldL_c ?_)) | (with_reducible refine st_ad (by first | (with_reducible rfl) | (simp only [pt_add, Nat.zero_add, Nat.add_zero, Nat.reduceAdd]; with_reducible rfl)) ?_); (first | refine O.st 0 rfl (by simp) rfl fun h O => ?_ | refine O.st 1 rfl (by simp) rfl fun h O => ?_); (dsimp only [V.put, List.set, List.length_cons, List.length_nil] at O) | (with_reducible refine ca_id ?_); (first | refine O.ca 0 1 rfl ?_ | refine O.ca 0 2 rfl ?_ | refine O.ca 1 1 rfl ?_ | refine O.ca 1 2 rfl ?_))
  exact hj _ _ ⟨rfl, by simp⟩
end
end Go.Proofs.Ytigcpkejjjgkeaa.V
namespace Go.Proofs.Ytigcpkejjjgkeaa.V
open Go Go.RowKit
set_option linter.unusedVariables false
set_option maxRecDepth 100000
def F_ref0_EqMsgs.l1 (f47_ : Int → Int → Int → Int → Int → Int → Int → Int → Int → Int → Sl → Int → Int → ByteArray → ByteArray → Int → Int → Int → Int → Int → Int → Int → Int → Int → Int → Int → Int → Int → Int → Int → Int → Int → Sl → Int → Int → ByteArray → ByteArray → Int → Int → Int → Int → Int → Int → Int → Heap → (Bool → Heap → Prop) → Prop) (a1 b2 : Sl) (Q : Bool → Heap → Prop) (j3 : Heap → Prop) : Int → Heap → Prop :=
  wl [(5, .one (.int .i64))] (fun (next4 : Int → Heap → Prop) (i5 : Int) (h6 : Heap) =>
  brr (decide (i5 < ((a1.len : Nat) : Int)))
  (ixS 22 a1 i5 fun (a7 : Addr) =>
  ld [.int .i64, .int .i64, .int .i64, .int .i64, .int .u64, .int .u64, .int .u64, .int .u64, .int .i64, .int .u64, .sl, .int .i64, .int .u64, .str, .str, .int .u64, .int .u64, .int .u64, .int .i64, .int .i64, .int .i64, .int .i64] a7 h6 fun (v8 v9 v10 v11 v12 v13 v14 v15 v16 v17 : Int) (v18 : Sl) (v19 v20 : Int) (v21 v22 : ByteArray) (v23 v24 v25 v26 v27 v28 v29 : Int) =>
  ixS 22 b2 i5 fun (a30 : Addr) =>
  ld [.int .i64, .int .i64, .int .i64, .int .i64, .int .u64, .int .u64, .int .u64, .int .u64, .int .i64, .int .u64, .sl, .int .i64, .int .u64, .str, .str, .int .u64, .int .u64, .int .u64, .int .i64, .int .i64, .int .i64, .int .i64] a30 h6 fun (v31 v32 v33 v34 v35 v36 v37 v38 v39 v40 : Int) (v41 : Sl) (v42 v43 : Int) (v44 v45 : ByteArray) (v46 v47 v48 v49 v50 v51 v52 : Int) =>
  f47_ v8 v9 v10 v11 v12 v13 v14 v15 v16 v17 v18 v19 v20 v21 v22 v23 v24 v25 v26 v27 v28 v29 v31 v32 v33 v34 v35 v36 v37 v38 v39 v40 v41 v42 v43 v44 v45 v46 v47 v48 v49 v50 v51 v52 h6 fun (r53 : Bool) (h54 : Heap) =>
  brr (!r53)
  (Q false h54)
  (next4 (IntKind.i64.wrap (i5 + 1)) h54))
  (j3 h6))
def F_ref0_EqMsgs_of (f47_ : Int → Int → Int → Int → Int → Int → Int → Int → Int → Int → Sl → Int → Int → ByteArray → ByteArray → Int → Int → Int → Int → Int → Int → Int → Int → Int → Int → Int → Int → Int → Int → Int → Int → Int → Sl → Int → Int → ByteArray → ByteArray → Int → Int → Int → Int → Int → Int → Int → Heap → (Bool → Heap → Prop) → Prop) (a1 b2 : Sl) (h : Heap) (Q : Bool → Heap → Prop) : Prop :=
  brr (((a1.len : Nat) : Int) != ((b2.len : Nat) : Int))
  (Q false h)
  (jn [] (fun  (h55 : Heap) =>
  Q true h55) (fun (j3 : Heap → Prop) =>
  F_ref0_EqMsgs.l1 f47_ a1 b2 Q j3 0 h))
def F_ref0_EqMsgs (a1 b2 : Sl) (h : Heap) (Q : Bool → Heap → Prop) : Prop := F_ref0_EqMsgs_of F_ref0_EqMsg a1 b2 h Q
def plan18 : Plan := .s (.r [0, 1]) (.s (.s (.r [0, 1, 10]) (.c (.s (.r [4]) .z) .z)) (.s (.s (.r [0, 1, 5]) (.bj [] [] (.l [(5, .one (.int .i64))] [0, 1] (.s (.s (.r [0, 1, 5, 14]) (.c .z .z)) (.s (.b (.s (.d [0, 0, 3, 7, 0, 0, 48, 112, 255, 511] [[0, 1, 2, 3, 4, 5, 6, 7, 8, 9]] [0, 1, 5, 26]) (.c (.s (.r [4]) .z) .z))) (.r [0, 1, 5])))))) (.s (.r [4]) .z)))
theorem F_ref0_EqMsgs.eq (f47_ : Int → Int → Int → Int → Int → Int → Int → Int → Int → Int → Sl → Int → Int → ByteArray → ByteArray → Int → Int → Int → Int → Int → Int → Int → Int → Int → Int → Int → Int → Int → Int → Int → Int → Int → Sl → Int → Int → ByteArray → ByteArray → Int → Int → Int → Int → Int → Int → Int → Heap → (Bool → Heap → Prop) → Prop) (a1 b2 : Sl) (h : Heap) (K : Value → Heap → Prop) : F_ref0_EqMsgs_of f47_ a1 b2 h (fun (r0 : Bool) (h : Heap) => K (.bool r0) h) =
    den Try.prog (fn1 47 (E_ref0_EqMsg_of f47_) noFns) Try.f18.ntmps plan18 (bodyOf Try.f18) (args0 0 [(.slice a1.ptr a1.len a1.cap : Value), (.slice b2.ptr b2.len b2.cap : Value)]) h ⟨fun env h => dRes Try.prog Try.f18.results.toList env h K, fun _ _ _ => False, fun env h => dRes Try.prog Try.f18.results.toList env h K⟩ := by kernel_rfl
def E_ref0_EqMsgs_of (f : Sl → Sl → Heap → (Bool → Heap → Prop) → Prop) : List Value → Heap → (Value → Heap → Prop) → Prop
  | [v0, v1], h, K => dec1 .sl v0 fun (a1 : Sl) =>
  dec1 .sl v1 fun (b2 : Sl) =>
  f a1 b2 h (fun (r0 : Bool) (h : Heap) => K (.bool r0) h)
  | _, _, _ => False
abbrev E_ref0_EqMsgs := E_ref0_EqMsgs_of F_ref0_EqMsgs
theorem E_ref0_EqMsgs.right : IsRight Try.prog 18 E_ref0_EqMsgs := by
  refine isRight fun vs K w hh => ?_
  match vs, hh with
  | [v0, v1], hh =>
    unfold E_ref0_EqMsgs E_ref0_EqMsgs_of at hh
    replace hh := dec1_sound hh; obtain ⟨a1, rfl, hh⟩ := hh
    replace hh := dec1_sound hh; obtain ⟨b2, rfl, hh⟩ := hh
    unfold F_ref0_EqMsgs at hh
    exact calls_den (fn1_right ok47 E_ref0_EqMsg.right noFns_right) plan18 _ w K Try.func18 (by kernel_rfl) (by kernel_rfl) (Eq.mp (F_ref0_EqMsgs.eq F_ref0_EqMsg a1 b2 w.heap K) hh)
theorem ok18 : okFn Try.prog 18 = true := by kernel_rfl
end Go.Proofs.Ytigcpkejjjgkeaa.V
namespace Go.Proofs.Ytigcpkejjjgkeaa.V
open Go Go.RowKit
set_option linter.unusedVariables false
set_option maxRecDepth 100000
def F_law10_wakes_of (f8_ : Int → Int → Sl → Heap → (Option Addr → Heap → Prop) → Prop) (f10_ : Option Addr → Int → Int → Int → Int → Sl → Int → Heap → (Sl → Heap → Prop) → Prop) (f13_ : Option Addr → Heap → (Int → Heap → Prop) → Prop)  (h : Heap) (Q : Bool → Heap → Prop) : Prop :=
  al 3 [.int .i64 3] h fun (a1 : Addr) (h2 : Heap) =>
  f8_ 3 1 ⟨(some a1), 1, 1⟩ h2 fun (r3 : Option Addr) (h4 : Heap) =>
  brr r3.isNone
  (Q false h4)
  (al 5 [.int .u8 120] h4 fun (a5 : Addr) (h6 : Heap) =>
  frz (some a5) h6 fun (h7 : Heap) =>
  f10_ r3 5 5 0 0 ⟨(some a5), 1, 1⟩ 2 h7 fun (r8 : Sl) (h9 : Heap) =>
  jn [(0, .one .bool)] (fun (x18 : Bool) (h19 : Heap) =>
  Q x18 h19) (fun (j10 : Bool → Heap → Prop) =>
  brr (((r8.len : Nat) : Int) == 1)
  (ixS 22 r8 0 fun (a11 : Addr) =>
  ld [.int .i64] ((a11.add 0).add 0) h9 fun (v12 : Int) =>
  brr (v12 == 4)
  (ixS 22 r8 0 fun (a13 : Addr) =>
  ld [.int .u64, .int .u64] (a13.add 5) h9 fun (v14 v15 : Int) =>
  brr ((v14 == 5) && ((v15 == 1) && (true)))
  (f13_ r3 h9 fun (r16 : Int) (h17 : Heap) =>
  j10 (r16 == 2) h17)
  (j10 false h9))
  (j10 false h9))
  (j10 false h9)))
def F_law10_wakes  (h : Heap) (Q : Bool → Heap → Prop) : Prop := F_law10_wakes_of F_quorum_New F_quorum_Quorum_Start F_quorum_Quorum_Phase  h Q
def plan9 : Plan := .s (.r []) (.s (.r [1]) (.s (.s (.r [1, 6]) (.c (.s (.r [0]) .z) .z)) (.s (.r [1, 2]) (.s (.rj [(0, .one .bool)] []) .z))))
theorem F_law10_wakes.eq (f8_ : Int → Int → Sl → Heap → (Option Addr → Heap → Prop) → Prop) (f10_ : Option Addr → Int → Int → Int → Int → Sl → Int → Heap → (Sl → Heap → Prop) → Prop) (f13_ : Option Addr → Heap → (Int → Heap → Prop) → Prop)  (h : Heap) (K : Value → Heap → Prop) : F_law10_wakes_of f8_ f10_ f13_  h (fun (r0 : Bool) (h : Heap) => K (.bool r0) h) =
    den Try.prog (fn1 8 (E_quorum_New_of f8_) (fn1 10 (E_quorum_Quorum_Start_of f10_) (fn1 13 (E_quorum_Quorum_Phase_of f13_) noFns))) Try.f9.ntmps plan9 (bodyOf Try.f9) (args0 0 []) h ⟨fun env h => dRes Try.prog Try.f9.results.toList env h K, fun _ _ _ => False, fun env h => dRes Try.prog Try.f9.results.toList env h K⟩ := by kernel_rfl
def E_law10_wakes_of (f : Heap → (Bool → Heap → Prop) → Prop) : List Value → Heap → (Value → Heap → Prop) → Prop
  | [], h, K => f  h (fun (r0 : Bool) (h : Heap) => K (.bool r0) h)
  | _, _, _ => False
abbrev E_law10_wakes := E_law10_wakes_of F_law10_wakes
theorem E_law10_wakes.nil (f : Heap → (Bool → Heap → Prop) → Prop) (h : Heap) (K : Value → Heap → Prop) : E_law10_wakes_of f [] h K = f  h (fun (r0 : Bool) (h : Heap) => K (.bool r0) h) := rfl
theorem E_law10_wakes.right : IsRight Try.prog 9 E_law10_wakes := by
  refine isRight fun vs K w hh => ?_
  match vs, hh with
  | [], hh =>
    replace hh := Eq.mp (E_law10_wakes.nil F_law10_wakes w.heap K) hh
    unfold F_law10_wakes at hh
    exact calls_den (fn1_right ok8 E_quorum_New.right (fn1_right ok10 E_quorum_Quorum_Start.right (fn1_right ok13 E_quorum_Quorum_Phase.right noFns_right))) plan9 _ w K Try.func9 (by kernel_rfl) (by kernel_rfl) (Eq.mp (F_law10_wakes.eq F_quorum_New F_quorum_Quorum_Start F_quorum_Quorum_Phase  w.heap K) hh)
theorem ok9 : okFn Try.prog 9 = true := by kernel_rfl
end Go.Proofs.Ytigcpkejjjgkeaa.V
namespace Go.Proofs.Ytigcpkejjjgkeaa.V
open Go Go.RowKit
set_option linter.unusedVariables false
set_option maxRecDepth 100000
def F_law10_into_of  (i1 n2 : Int) (h : Heap) (Q : Int → Heap → Prop) : Prop :=
  n2 ≠ 0 ∧
  jn [(0, .one (.int .i64))] (fun (i4 : Int) (h5 : Heap) =>
  Q i4 h5) (fun (j3 : Int → Heap → Prop) =>
  brr (decide ((i1.tmod n2) < 0))
  (j3 (IntKind.i64.wrap ((i1.tmod n2) + n2)) h)
  (j3 (i1.tmod n2) h))
def F_law10_into (i1 n2 : Int) (h : Heap) (Q : Int → Heap → Prop) : Prop := F_law10_into_of  i1 n2 h Q
def plan7 : Plan := .s (.r [0, 1]) (.s (.r [0, 1]) (.s (.s (.r [0, 1, 9]) (.cj [(0, .one (.int .i64))] [] (.r [0]) .z)) (.s (.r [4]) .z)))
theorem F_law10_into.eq  (i1 n2 : Int) (h : Heap) (K : Value → Heap → Prop) : F_law10_into_of  i1 n2 h (fun (r0 : Int) (h : Heap) => K (.int .i64 r0) h) =
    den Try.prog noFns Try.f7.ntmps plan7 (bodyOf Try.f7) (args0 0 [(.int .i64 i1 : Value), (.int .i64 n2 : Value)]) h ⟨fun env h => dRes Try.prog Try.f7.results.toList env h K, fun _ _ _ => False, fun env h => dRes Try.prog Try.f7.results.toList env h K⟩ := by kernel_rfl
def E_law10_into_of (f : Int → Int → Heap → (Int → Heap → Prop) → Prop) : List Value → Heap → (Value → Heap → Prop) → Prop
  | [v0, v1], h, K => dec1 (.int .i64) v0 fun (i1 : Int) =>
  dec1 (.int .i64) v1 fun (n2 : Int) =>
  f i1 n2 h (fun (r0 : Int) (h : Heap) => K (.int .i64 r0) h)
  | _, _, _ => False
abbrev E_law10_into := E_law10_into_of F_law10_into
theorem E_law10_into.right : IsRight Try.prog 7 E_law10_into := by
  refine isRight fun vs K w hh => ?_
  match vs, hh with
  | [v0, v1], hh =>
    unfold E_law10_into E_law10_into_of at hh
    replace hh := dec1_sound hh; obtain ⟨i1, rfl, hh⟩ := hh
    replace hh := dec1_sound hh; obtain ⟨n2, rfl, hh⟩ := hh
    unfold F_law10_into at hh
    exact calls_den noFns_right plan7 _ w K Try.func7 (by kernel_rfl) (by kernel_rfl) (Eq.mp (F_law10_into.eq  i1 n2 w.heap K) hh)
theorem ok7 : okFn Try.prog 7 = true := by kernel_rfl
end Go.Proofs.Ytigcpkejjjgkeaa.V
namespace Go.Proofs.Ytigcpkejjjgkeaa.V
open Go Go.RowKit
set_option linter.unusedVariables false
set_option maxRecDepth 100000
def F_law10_copiesOf.l1 (r2 : Int) (j4 : Sl → Heap → Prop) : Sl → Int → Heap → Prop :=
  wl [(4, .one .sl), (5, .one (.int .i64))] (fun (next5 : Sl → Int → Heap → Prop) (l6 : Sl) (i7 : Int) (h8 : Heap) =>
  brr (decide (i7 < (IntKind.i64.wrap (1 + (IntKind.i64.wrap (2 * r2))))))
  ((9 : Int) ≠ 0 ∧
  al 3 [.int .i64 ((IntKind.i64.wrap ((IntKind.i64.wrap (4 * i7)) + 5)).tmod 9)] h8 fun (a9 : Addr) (h10 : Heap) =>
  app 3 1 8 (.int .i64 0) l6 (some a9) 1 h10 fun (s11 : Sl) (h12 : Heap) =>
  next5 s11 (IntKind.i64.wrap (i7 + 1)) h12)
  (j4 l6 h8))
def F_law10_copiesOf_of (f7_ : Int → Int → Heap → (Int → Heap → Prop) → Prop) (many1 : Int) (h : Heap) (Q : Sl → Heap → Prop) : Prop :=
  f7_ many1 4 h fun (r2 : Int) (h3 : Heap) =>
  jn [(4, .one .sl)] (fun (l13 : Sl) (h14 : Heap) =>
  Q l13 h14) (fun (j4 : Sl → Heap → Prop) =>
  F_law10_copiesOf.l1 r2 j4 (⟨none, 0, 0⟩ : Sl) 0 h3)
def F_law10_copiesOf (many1 : Int) (h : Heap) (Q : Sl → Heap → Prop) : Prop := F_law10_copiesOf_of F_law10_into many1 h Q
def plan6 : Plan := .s (.r [0]) (.s (.r [3]) (.s (.r [3, 4]) (.s (.s (.r [3, 4, 5]) (.bj [(4, .one .sl)] [] (.l [(4, .one .sl), (5, .one (.int .i64))] [3] (.s (.s (.r [3, 4, 5, 12]) (.c .z .z)) (.s (.b (.r [3, 4, 5])) (.r [3, 4, 5])))))) (.s (.r [2]) .z))))
theorem F_law10_copiesOf.eq (f7_ : Int → Int → Heap → (Int → Heap → Prop) → Prop) (many1 : Int) (h : Heap) (K : Value → Heap → Prop) : F_law10_copiesOf_of f7_ many1 h (fun (r0 : Sl) (h : Heap) => K (.slice r0.ptr r0.len r0.cap) h) =
    den Try.prog (fn1 7 (E_law10_into_of f7_) noFns) Try.f6.ntmps plan6 (bodyOf Try.f6) (args0 0 [(.int .i64 many1 : Value)]) h ⟨fun env h => dRes Try.prog Try.f6.results.toList env h K, fun _ _ _ => False, fun env h => dRes Try.prog Try.f6.results.toList env h K⟩ := by kernel_rfl
def E_law10_copiesOf_of (f : Int → Heap → (Sl → Heap → Prop) → Prop) : List Value → Heap → (Value → Heap → Prop) → Prop
  | [v0], h, K => dec1 (.int .i64) v0 fun (many1 : Int) =>
  f many1 h (fun (r0 : Sl) (h : Heap) => K (.slice r0.ptr r0.len r0.cap) h)
  | _, _, _ => False
abbrev E_law10_copiesOf := E_law10_copiesOf_of F_law10_copiesOf
theorem E_law10_copiesOf.right : IsRight Try.prog 6 E_law10_copiesOf := by
  refine isRight fun vs K w hh => ?_
  match vs, hh with
  | [v0], hh =>
    unfold E_law10_copiesOf E_law10_copiesOf_of at hh
    replace hh := dec1_sound hh; obtain ⟨many1, rfl, hh⟩ := hh
    unfold F_law10_copiesOf at hh
    exact calls_den (fn1_right ok7 E_law10_into.right noFns_right) plan6 _ w K Try.func6 (by kernel_rfl) (by kernel_rfl) (Eq.mp (F_law10_copiesOf.eq F_law10_into many1 w.heap K) hh)
theorem ok6 : okFn Try.prog 6 = true := by kernel_rfl
end Go.Proofs.Ytigcpkejjjgkeaa.V
/- The laws' small functions for quorums; an Op as it comes in. -/
namespace Go.Proofs.Ytigcpkejjjgkeaa.V
open Go Go.RowKit
set_option linter.unusedVariables false
set_option linter.unusedSimpArgs false
section
variable {h0 h : Heap} {L : List Res} {p : Nat} {q : QS} {m : Mg}
theorem F_law10_into.is {i n : Int} {Q : Int → Heap → Prop} (hn : 0 < n) (hn2 : n < 4611686018427387904) (k : Q (i % n) h) : F_law10_into i n h Q := by
  rw [F_law10_into.eq_1, F_law10_into_of.eq_1]
  have hf := tmod_fix (a := i) hn
  have hl := tmod_lt (a := i) hn
  refine ⟨by omega, ?_⟩
  refine jn1 (fun x h' => x = i % n ∧ h' = h) ?_ ?_
  · rintro x h ⟨rfl, rfl⟩
    exact k
  · intro j hj
    refine brr_p (fun hlt => ?_) (fun hlt => ?_)
    · rw [if_pos hlt] at hf
      rw [wrap64 (by omega) (by omega)]
      exact hj _ _ ⟨hf, rfl⟩
    · rw [if_neg hlt] at hf
      exact hj _ _ ⟨hf, rfl⟩
def copyN (n : Nat) : List Int := (List.range n).map fun i => ((4 * i + 5 : Nat) : Int) % 9
theorem copyN_len (n : Nat) : (copyN n).length = n := by simp [copyN]
theorem copyN_succ (n : Nat) : copyN (n + 1) = copyN n ++ [((4 * n + 5 : Nat) : Int) % 9] := by simp [copyN, List.range_succ]
theorem F_law10_copiesOf.is {many : Int} {Q : Sl → Heap → Prop} (O : Sat h0 h L) (k : ∀ s h' (n : Nat), (n = 1 ∨ n = 3 ∨ n = 5 ∨ n = 7) → Sat h0 h' (buf 1 i64c s (copyN n) :: L) → Q s h') : F_law10_copiesOf many h Q := by
  rw [F_law10_copiesOf.eq_1, F_law10_copiesOf_of.eq_1]
  refine F_law10_into.is (by decide) (by decide) ?_
  obtain ⟨g, hg, hg3⟩ : ∃ g : Nat, many % 4 = g ∧ g < 4 := ⟨(many % 4).toNat, by omega, by omega⟩
  rw [hg]
  obtain ⟨n, hn⟩ : ∃ n, n = 1 + 2 * g := ⟨_, rfl⟩
  have ewn : IntKind.i64.wrap (1 + IntKind.i64.wrap (2 * (g : Int))) = (n : Int) := by rw [wrap64 (x := 2 * (g : Int)) (by omega) (by omega), wrap64 (by omega) (by omega)]; omega
  refine jn1 (fun s h' => Sat h0 h' (buf 1 i64c s (copyN n) :: L)) (fun s h O => k s h n (by omega) O) fun j hj => ?_
  rw [F_law10_copiesOf.l1.eq_1]
  refine wl2 (k := .sl) (l := .int .i64) (fun (m : Nat) (s : Sl) (i : Int) (h' : Heap) => i + m = n ∧ 0 ≤ i ∧ Sat h0 h' (buf 1 i64c s (copyN i.toNat) :: L)) ?_ (m := n) ⟨by omega, by omega, O.nil_buf⟩
  clear O
  rintro m (s : Sl) (i : Int) h next hnx ⟨him, hi0, O⟩
  rw [ewn]
  refine brr_p (fun hlt => ?_) (fun hlt => hj _ _ (by rw [show n = i.toNat by omega]; exact O))
  refine ⟨by decide, ?_⟩
  have e : (IntKind.i64.wrap (IntKind.i64.wrap (4 * i) + 5)).tmod 9 = ((4 * i.toNat + 5 : Nat) : Int) % 9 := by
    rw [wrap64 (x := 4 * i) (by omega) (by omega), wrap64 (by omega) (by omega), Int.tmod_eq_emod_of_nonneg (by omega)]
    congr 1
    omega
  rw [e]
  refine Sat.push_buf (enc := i64c) O (((4 * i.toNat + 5 : Nat) : Int) % 9) rfl i64c_len i64c_one rfl (by rw [copyN_len]; omega) fun s2 h O _ => ?_
  rw [← copyN_succ] at O
  rw [wrap64 (by omega) (by omega)]
  refine hnx (m - 1) _ _ _ (by omega) ⟨by omega, by omega, ?_⟩
  rw [show (i + 1).toNat = i.toNat + 1 by omega]
  exact O
theorem F_ref0_EqMsgs.is {s t : Sl} {ms : List Mg} {Q : Bool → Heap → Prop} (hb : ∀ m ∈ ms, m.b.length ≤ (140737488355325 : Nat)) (hl : ms.length ≤ 3000000) (O : Sat h0 h (msgsR s ms :: msgsR t ms :: L)) (k : ∀ h', Sat h0 h' (msgsR s ms :: msgsR t ms :: L) → Q true h') : F_ref0_EqMsgs s t h Q := by
  rw [F_ref0_EqMsgs.eq_1, F_ref0_EqMsgs_of.eq_1]
  obtain ⟨ls, e1, O⟩ := O.msgs
  obtain ⟨lt, e2, O⟩ := (O.sel [2, 0, 1] 3 rfl (Nat.le_add_left _ _)).msgs
  have O : Sat h0 h (buf 22 mgC t lt :: many mvR lt :: buf 22 mgC s ls :: many mvR ls :: L) := O
  have V1 : Stays h0 (buf 22 mgC t lt :: many mvR lt :: buf 22 mgC s ls :: many mvR ls :: L) fun h => View h 22 (En mgC) s ls := fun h O => (O.view 2 mgC_len (by simp) rfl).1
  have V2 : Stays h0 (buf 22 mgC t lt :: many mvR lt :: buf 22 mgC s ls :: many mvR ls :: L) fun h => View h 22 (En mgC) t lt := fun h O => (O.view 0 mgC_len (by simp) rfl).1
  have l1 : ls.length = ms.length := by have := congrArg List.length e1; simpa using this
  have l2 : lt.length = ms.length := by have := congrArg List.length e2; simpa using this
  refine brr_ne (fun hne => absurd ?_ hne) (fun _ => ?_)
  · rw [(V1 h O).len, (V2 h O).len, l1, l2]
  refine jn0 (fun h' => Sat h0 h' (buf 22 mgC t lt :: many mvR lt :: buf 22 mgC s ls :: many mvR ls :: L)) ?_ ?_
  · clear O
    intro h O
    have O := Sat.msgsI e2 O
    have O := Sat.msgsI e1 (O.sel [1, 2, 0] 3 rfl (Nat.le_add_left _ _))
    exact k _ O
  · intro j hj
    rw [F_ref0_EqMsgs.l1.eq_1]
    refine wl1 (k := .int .i64) (fun (m : Nat) (i : Int) (h' : Heap) => i + m = ms.length ∧ 0 ≤ i ∧ Sat h0 h' (buf 22 mgC t lt :: many mvR lt :: buf 22 mgC s ls :: many mvR ls :: L)) ?_ (m := ms.length) ⟨by omega, by omega, O⟩
    clear O
    rintro m (i : Int) h next hnx ⟨him, hi0, O⟩
    rw [show decide (i < ((s.len : Nat) : Int)) = decide (i < (ms.length : Int)) by rw [(V1 h O).len, l1]]
    refine brr_p (fun hlt => ?_) (fun hlt => hj _ O)
    obtain ⟨x, hx⟩ : ∃ x, ls[i.toNat]? = some x := ⟨_, List.getElem?_eq_getElem (by omega)⟩
    obtain ⟨y, hy⟩ : ∃ y, lt[i.toNat]? = some y := ⟨_, List.getElem?_eq_getElem (by omega)⟩
    have ex : x.bare = y.bare := by
      have a := congrArg (·[i.toNat]?) e1
      have b := congrArg (·[i.toNat]?) e2
      simp only [List.getElem?_map, hx, hy, Option.map_some] at a b
      exact Option.some.inj (a.trans b.symm)
    have hy2 : y = { x with v := y.v } := by
      cases x; cases y
      simp only [Mg.bare, Mg.mk.injEq] at ex ⊢
      simp only [ex, and_self]
    have hxb : x.b.length ≤ (140737488355325 : Nat) := by
      have : x.bare ∈ ms := by rw [← e1]; exact List.mem_map.2 ⟨x, List.mem_of_getElem? hx, rfl⟩
      exact hb x.bare this
    refine (V1 h O).getP hi0 hx fun a ha => ld_are (ha (V1 h O)) ?_
    unfold mgC
    repeat (first | (with_reducible refine ldL_n ?_) | refine ldL_s ?_ | refine ldL_c ?_)
    refine (V2 h O).getP hi0 hy fun a ha => ld_are (ha (V2 h O)) ?_
    rw [hy2]
    unfold mgC
    repeat (first | (with_reducible refine ldL_n ?_) | refine ldL_s ?_ | refine ldL_c ?_)
    have yb : y.b = x.b := by rw [hy2]
    refine F_ref0_EqMsg.is (m := x) (t := y.v) O (fun h O => ?_) (fun h O => ?_) hxb fun h O => ?_
    · have := (O.sel [3, 0, 1, 2] 4 rfl (Nat.le_add_left _ _)).take _ hx
      exact (this.view 0 u8_len (by simp) rfl).1
    · have := (O.sel [1, 0, 2, 3] 4 rfl (Nat.le_add_left _ _)).take _ hy
      rw [← yb]
      exact (this.view 0 u8_len (by simp) rfl).1
    refine brr_ff rfl ?_
    rw [wrap64 (by omega) (by omega)]
    exact hnx (m - 1) _ _ (by omega) ⟨by omega, by omega, O⟩
theorem msgs_len {s : Sl} {ms : List Mg} (O : Sat h0 h (msgsR s ms :: L)) : s.len = ms.length := by
  obtain ⟨ls, e, O⟩ := O.msgs
  rw [(O.view 0 mgC_len (by simp) rfl).1.len, ← e, List.length_map]
theorem send_b {x m : Mg} {out : Int → Bool} (h : m ∈ q.send x out) : m.b = x.b := by
  unfold QS.send at h
  obtain ⟨c, _, rfl⟩ := List.mem_map.1 h
  rfl
theorem prepares_b {m : Mg} (h : m ∈ q.prepares) : m.b.length ≤ (140737488355325 : Nat) := by rw [send_b h]; show (0 : Nat) ≤ _; decide
theorem writes_b {m : Mg} {span : Int} (ok : q.Ok) (h : m ∈ q.writes span) : m.b.length ≤ (140737488355325 : Nat) := by rw [send_b h]; exact ok.v
theorem beats_b {m : Mg} {span : Int} (h : m ∈ q.beats span) : m.b.length ≤ (140737488355325 : Nat) := by rw [send_b h]; show (0 : Nat) ≤ _; decide
theorem start_b {e te ts span : Int} {b : List UInt8} (ok : q.Ok) (hb : b.length ≤ (140737488355325 : Nat)) : (∀ m ∈ (q.start e te ts b span).2, m.b.length ≤ (140737488355325 : Nat)) ∧ (q.start e te ts b span).2.length ≤ 1000000 := by
  have hc := ok.c
  unfold QS.start
  split
  · exact ⟨fun m h => writes_b ((ok.start0 hb).wrt (by decide)) h, Nat.le_trans send_len hc⟩
  · exact ⟨fun m h => prepares_b h, Nat.le_trans send_len hc⟩
theorem hear_b {m : Mg} {span : Int} (ok : q.Ok) (hb : m.b.length ≤ (140737488355325 : Nat)) : (∀ x ∈ (q.hear m span).2, x.b.length ≤ (140737488355325 : Nat)) ∧ (q.hear m span).2.length ≤ 1000000 := by
  have hc := ok.c
  have z : (∀ x ∈ ([] : List Mg), x.b.length ≤ (140737488355325 : Nat)) ∧ ([] : List Mg).length ≤ 1000000 := ⟨fun x hx => absurd hx List.not_mem_nil, by simp⟩
  unfold QS.hear
  split
  · exact z
  split
  · unfold QS.promise
    split
    · exact z
    split
    · refine ⟨fun m h => writes_b ((ok.prom hb).wrt (by decide)) h, Nat.le_trans send_len ?_⟩
      show (q.prom m).cop.length ≤ _
      rw [prom_same.2.2.1]; exact hc
    · exact z
  split
  · exact z
  split
  · exact z
  split
  · exact z
  · exact z
theorem propose_b {b : List UInt8} {span : Int} (ok : q.Ok) (hb : b.length ≤ (140737488355325 : Nat)) : (∀ m ∈ (q.propose b span).2.1, m.b.length ≤ (140737488355325 : Nat)) ∧ (q.propose b span).2.1.length ≤ 1000000 := by
  have hc := ok.c
  have ht := ok.t
  unfold QS.propose
  split
  · exact ⟨fun x hx => absurd hx List.not_mem_nil, by simp⟩
  · exact ⟨fun m h => writes_b (QS.Ok.wrt (q := { q with val := b }) ⟨ok.c, hb, ok.w, ok.n, ok.s, ok.t, ok.b⟩ (by omega)) h, Nat.le_trans send_len hc⟩
theorem tick0_b {m : Mg} {span : Int} (ok : q.Ok) (h : m ∈ q.tick0 span) : m.b.length ≤ (140737488355325 : Nat) := by
  unfold QS.tick0 at h
  split at h
  · exact prepares_b h
  split at h
  · exact writes_b ok h
  · cases h
theorem tick_b {span : Int} (ok : q.Ok) : (∀ m ∈ (q.tick span).2, m.b.length ≤ (140737488355325 : Nat)) ∧ (q.tick span).2.length ≤ 2000000 := by
  have hc := ok.c
  have h0 := tick0_len (q := q) (span := span)
  have h1 : (q.beats span).length ≤ q.cop.length := send_len
  have h2 : (q.rise.beats span).length ≤ q.cop.length := send_len (q := q.rise)
  unfold QS.tick
  split
  · exact ⟨fun m h => tick0_b ok h, by show (q.tick0 span).length ≤ _; omega⟩
  split
  · split
    · exact ⟨fun m h => tick0_b ok h, by show (q.tick0 span).length ≤ _; omega⟩
    · refine ⟨fun m h => ?_, by rw [List.length_append]; omega⟩
      rcases List.mem_append.1 h with h | h
      · exact tick0_b ok h
      · exact beats_b h
  · refine ⟨fun m h => ?_, by rw [List.length_append]; omega⟩
    rcases List.mem_append.1 h with h | h
    · exact tick0_b ok h
    · exact beats_b h
theorem fresh_ok {node shard : Int} {cop : List Int} (hc : cop.length ≤ 1000000) : (QS.fresh node shard cop).Ok := ⟨hc, by simp [QS.fresh], by simp [QS.fresh], List.nodup_nil, fun x hx => absurd hx List.not_mem_nil, Int.le_refl _, Int.le_refl _⟩
theorem int_buf {b : Nat} {x : Int} (O : Sat h0 h (own b [.int .i64 x] :: L)) : Sat h0 h (buf 1 i64c ⟨some (pt b 0), 1, 1⟩ [x] :: L) := by
  have O : Sat h0 h (own b ([x].flatMap i64c ++ []) :: L) := O
  exact (O.own_buf (k := 0) (sz := 1) rfl).bufsI
def wakeQ : QS := ((QS.fresh 3 1 [3]).start 5 0 0 [120] 2).1
theorem F_law10_wakes.is {Q : Bool → Heap → Prop} (O : Sat h0 h L) (k : ∀ h', Sat h0 h' L → Q true h') : F_law10_wakes h Q := by
  rw [F_law10_wakes.eq_1, F_law10_wakes_of.eq_1]
  refine O.al fun a1 h O => ?_
  have O := int_buf O
  refine F_quorum_New.is (cop := [3]) (fun h O => (O.view 0 i64c_len (by simp) rfl).1) (by simp) O fun p h O => ?_
  refine brr_ff rfl ?_
  refine O.al fun a5 h O => ?_
  refine O.frz fun h O => ?_
  have O : Sat h0 h (own a5 [.int .u8 ((120 : UInt8).toNat : Int)] :: quR p (QS.fresh 3 1 [3]) :: buf 1 i64c ⟨some (pt a1 0), 1, 1⟩ [3] :: L) := O
  have O := lit_buf O
  refine F_quorum_Quorum_Start.is (b := [120]) (fresh_ok (by simp)) (by simp) (fun h O => (O.view 0 u8_len (by simp) rfl).1) O.swap fun s h O => ?_
  have e : ((QS.fresh 3 1 [3]).start 5 0 0 [120] 2).2 = [{ mgz with kind := 4, frm := 3, to := 3, shard := 1, te := 5, ts := 1, span := 2, b := [120] }] := by rfl
  rw [e] at O
  obtain ⟨ls, el, O⟩ := O.msgs
  have V := (O.view 0 mgC_len (by simp) rfl).1
  obtain ⟨x, rfl⟩ : ∃ x, ls = [x] := by
    have hl : ls.length = 1 := by have := congrArg List.length el; simpa using this
    cases ls with
    | nil => cases hl
    | cons x t =>
      cases t with
      | nil => exact ⟨x, rfl⟩
      | cons y t => simp at hl
  have ex : x.bare = { mgz with kind := 4, frm := 3, to := 3, shard := 1, te := 5, ts := 1, span := 2, b := [120] } := by
    simpa using el
  have x1 : x.kind = 4 := congrArg Mg.kind ex
  have x2 : x.te = 5 := congrArg Mg.te ex
  have x3 : x.ts = 1 := congrArg Mg.ts ex
  refine jn1 (fun z h' => z = true ∧ Sat h0 h' L) (fun z h' hh => by obtain ⟨rfl, O⟩ := hh; exact k _ O) fun j hj => ?_
  rw [V.len]
  refine brr_eq (fun _ => ?_) (fun hn => absurd rfl hn)
  refine V.getP (x := x) (Int.le_refl _) rfl fun a ha => ld_drop (ha V) 0 (ldL_c (ldL_n ?_))
  rw [x1]
  refine brr_tt rfl ?_
  refine V.getP (x := x) (Int.le_refl _) rfl fun a ha => ld_drop (ha V) 5 (ldL_c (ldL_c (ldL_n ?_)))
  rw [x2, x3]
  refine brr_tt rfl ?_
  refine F_quorum_Quorum_Phase.is (O.sel [2] 3 rfl (Nat.le_add_left _ _)) ?_
  exact hj _ _ ⟨by rfl, O.sel [] 5 rfl (Nat.le_add_left _ _)⟩
end
structure QOp where
  kind : Int
  which : Int
  epoch : Int
  o1 : Int
  te : Int
  ts : Int
  ov : Sl
  span : Int
  m : Mg
  aim : Int
  v : Sl
  ob : List UInt8
  vb : List UInt8
def qopC (o : QOp) : List Value := [.int .i64 o.kind, .int .i64 o.which, .int .u64 o.epoch, .int .u64 o.o1, .int .u64 o.te, .int .u64 o.ts, .slice o.ov.ptr o.ov.len o.ov.cap, .int .i64 o.span, .int .i64 o.m.kind, .int .i64 o.m.frm, .int .i64 o.m.to, .int .i64 o.m.shard, .int .u64 o.m.epoch, .int .u64 o.m.te, .int .u64 o.m.ts, .int .u64 o.m.round, .int .i64 o.m.span, .int .u64 o.m.seen, .slice o.m.v.ptr o.m.v.len o.m.v.cap, .int .i64 o.m.peer, .int .u64 o.m.num, .string o.m.name, .string o.m.other, .int .u64 o.m.amount, .int .u64 o.m.life, .int .u64 o.m.id, .int .i64 o.m.op, .int .i64 o.m.client, .int .i64 o.m.state, .int .i64 o.m.bad, .int .i64 o.aim, .slice o.v.ptr o.v.len o.v.cap]
abbrev tyB : Ty := .sl 1 1 (.int .u8)
abbrev tyMsg : Ty := .cons (.cons (.int .i64) (.cons (.int .i64) (.cons (.int .i64) (.cons (.int .i64) .nil)))) (.cons (.int .u64) (.cons (.cons (.int .u64) (.cons (.int .u64) .nil)) (.cons (.int .u64) (.cons (.int .i64) (.cons (.int .u64) (.cons tyB (.cons (.int .i64) (.cons (.int .u64) (.cons .str (.cons .str (.cons (.int .u64) (.cons (.cons (.int .u64) (.cons (.int .u64) .nil)) (.cons (.int .i64) (.cons (.int .i64) (.cons (.int .i64) (.cons (.int .i64) .nil))))))))))))))))
abbrev tyStored : Ty := .cons (.int .u64) (.cons (.cons (.int .u64) (.cons (.int .u64) .nil)) (.cons tyB .nil))
abbrev tyQOp : Ty := .cons (.int .i64) (.cons (.int .i64) (.cons (.int .u64) (.cons tyStored (.cons (.int .i64) (.cons tyMsg (.cons (.int .i64) (.cons tyB .nil)))))))
abbrev tyTwo : Ty := .cons (.int .i64) (.cons (.int .i64) .nil)
abbrev tyQScript : Ty := .cons tyTwo (.cons tyTwo (.cons tyTwo (.cons (.sl 32 320 tyQOp) .nil)))
structure QOp.Ok (h : Heap) (o : QOp) : Prop where
  mv : Bytes h o.m.v o.m.b
  mb : o.m.b.length ≤ (140737488355325 : Nat)
  ov : Bytes h o.ov o.ob
  ob : o.ob.length ≤ (140737488355325 : Nat)
  v : Bytes h o.v o.vb
  vb : o.vb.length ≤ (140737488355325 : Nat)
def qopR (h : Heap) (o : QOp) (cs : List Value) : Prop := cs = qopC o ∧ o.Ok h
theorem SlN.qops {h : Heap} {s : Sl} (S : SlN h 140737488351232 32 320 s fun cs => Fit h 140737488351232 tyQOp cs) : ∃ l : List QOp, View h 32 (qopR h) s l := by
  obtain ⟨h1, h2, _, xs, V⟩ := S.view (qopR h) (fun cs F => by
    obtain ⟨t1, _, rfl, t1a, t1b, F⟩ := Fit.i F
    obtain ⟨t2, _, rfl, t2a, t2b, F⟩ := Fit.i F
    obtain ⟨t3, _, rfl, t3a, t3b, F⟩ := Fit.i F
    replace F := Fit.g F
    obtain ⟨s1, _, rfl, s1a, s1b, F⟩ := Fit.i F
    replace F := Fit.g F
    replace F := Fit.g F
    obtain ⟨s2, _, rfl, s2a, s2b, F⟩ := Fit.i F
    replace F := Fit.g F
    obtain ⟨s3, _, rfl, s3a, s3b, F⟩ := Fit.i F
    replace F := Fit.z F
    replace F := Fit.g F
    obtain ⟨s4, _, rfl, s4S, F⟩ := Fit.s F
    replace F := Fit.z F
    obtain ⟨t4, _, rfl, t4a, t4b, F⟩ := Fit.i F
    replace F := Fit.g F
    replace F := Fit.g F
    obtain ⟨m1, _, rfl, m1a, m1b, F⟩ := Fit.i F
    replace F := Fit.g F
    obtain ⟨m2, _, rfl, m2a, m2b, F⟩ := Fit.i F
    replace F := Fit.g F
    obtain ⟨m3, _, rfl, m3a, m3b, F⟩ := Fit.i F
    replace F := Fit.g F
    obtain ⟨m4, _, rfl, m4a, m4b, F⟩ := Fit.i F
    replace F := Fit.z F
    replace F := Fit.g F
    obtain ⟨m5, _, rfl, m5a, m5b, F⟩ := Fit.i F
    replace F := Fit.g F
    replace F := Fit.g F
    obtain ⟨m6, _, rfl, m6a, m6b, F⟩ := Fit.i F
    replace F := Fit.g F
    obtain ⟨m7, _, rfl, m7a, m7b, F⟩ := Fit.i F
    replace F := Fit.z F
    replace F := Fit.g F
    obtain ⟨m8, _, rfl, m8a, m8b, F⟩ := Fit.i F
    replace F := Fit.g F
    obtain ⟨m9, _, rfl, m9a, m9b, F⟩ := Fit.i F
    replace F := Fit.g F
    obtain ⟨m10, _, rfl, m10a, m10b, F⟩ := Fit.i F
    replace F := Fit.g F
    obtain ⟨m11, _, rfl, m11S, F⟩ := Fit.s F
    replace F := Fit.g F
    obtain ⟨m12, _, rfl, m12a, m12b, F⟩ := Fit.i F
    replace F := Fit.g F
    obtain ⟨m13, _, rfl, m13a, m13b, F⟩ := Fit.i F
    replace F := Fit.g F
    obtain ⟨m14, _, rfl, m14l, F⟩ := Fit.a F
    replace F := Fit.g F
    obtain ⟨m15, _, rfl, m15l, F⟩ := Fit.a F
    replace F := Fit.g F
    obtain ⟨m16, _, rfl, m16a, m16b, F⟩ := Fit.i F
    replace F := Fit.g F
    replace F := Fit.g F
    obtain ⟨m17, _, rfl, m17a, m17b, F⟩ := Fit.i F
    replace F := Fit.g F
    obtain ⟨m18, _, rfl, m18a, m18b, F⟩ := Fit.i F
    replace F := Fit.z F
    replace F := Fit.g F
    obtain ⟨m19, _, rfl, m19a, m19b, F⟩ := Fit.i F
    replace F := Fit.g F
    obtain ⟨m20, _, rfl, m20a, m20b, F⟩ := Fit.i F
    replace F := Fit.g F
    obtain ⟨m21, _, rfl, m21a, m21b, F⟩ := Fit.i F
    replace F := Fit.g F
    obtain ⟨m22, _, rfl, m22a, m22b, F⟩ := Fit.i F
    replace F := Fit.z F
    obtain ⟨t5, _, rfl, t5a, t5b, F⟩ := Fit.i F
    obtain ⟨t6, _, rfl, t6S, F⟩ := Fit.s F
    obtain rfl := Fit.e F
    obtain ⟨_, a2, l, Vl⟩ := m11S.bytes
    obtain ⟨_, b2, l2, Vl2⟩ := s4S.bytes
    obtain ⟨_, c2, l3, Vl3⟩ := t6S.bytes
    have hl := Vl.len
    have hl2 := Vl2.len
    have hl3 := Vl3.len
    refine ⟨⟨t1, t2, t3, s1, s2, s3, s4, t4, ⟨m1, m2, m3, m4, m5, m6, m7, m8, m9, m10, m11, m12, m13, m14, m15, m16, m17, m18, m19, m20, m21, m22, l⟩, t5, t6, l2, l3⟩, rfl, Vl, ?_, Vl2, ?_, Vl3, ?_⟩
    · show l.length ≤ _; omega
    · show l2.length ≤ _; omega
    · show l3.length ≤ _; omega)
  exact ⟨xs, V⟩
end Go.Proofs.Ytigcpkejjjgkeaa.V
/- Counting: how a quorum stands while answers of one kind come in. -/
namespace Go.Proofs.Ytigcpkejjjgkeaa.V
open Go Go.RowKit
set_option linter.unusedVariables false
set_option linter.unusedSimpArgs false
structure QS.Base (q : QS) (nd : Int) (l : List Int) : Prop where
  ok : q.Ok
  n : q.node = nd
  s : q.shard = 1
  c : q.cop = l
  e : q.epoch = 77
def need (l : List Int) : Nat := l.length / 2 + 1
structure QS.St0 (q : QS) (nd : Int) (l S : List Int) : Prop where
  b : q.Base nd l
  b0 : q.begun = 0
  d0 : q.done = 0
  go : S.length < need l → q.phase = 1 ∧ q.pm = S
  on : need l ≤ S.length → q.phase = 2 ∧ q.tag = (77, 1) ∧ q.wr = []
structure QS.St1 (q : QS) (nd : Int) (l S : List Int) : Prop where
  b : q.Base nd l
  b0 : q.begun = 0
  d0 : q.done = 0
  t : q.tag = (77, 1)
  w : q.wr = S
  go : S.length < need l → q.phase = 2
  on : need l ≤ S.length → q.phase = 3
structure QS.St2 (q : QS) (nd : Int) (l S : List Int) : Prop where
  b : q.Base nd l
  b0 : q.begun = 1
  p : q.phase = 3
  w : q.bt = S
  go : S.length < need l → q.done = 0
  on : need l ≤ S.length → q.done = 1
def QS.StK (q : QS) (nd : Int) (l : List Int) (k : Int) (S : List Int) : Prop := if k = 0 then q.St0 nd l S else if k = 1 then q.St1 nd l S else q.St2 nd l S
section
variable {q : QS} {nd : Int} {l S : List Int} {m : Mg} {c : Int}
theorem most_need (e : q.cop = l) {n : Nat} : q.most (n : Int) = decide (need l ≤ n) := by
  unfold QS.most need
  rw [e]
  apply decide_eq_decide.2
  omega
theorem left_len : ∀ (l : List Int) (S : List Int), (l.map fun c => decide (c ∈ S)).count false = (l.filter fun c => !decide (c ∈ S)).length
  | [], S => rfl
  | x :: l, S => by
    rw [List.map_cons, List.count_cons, List.filter_cons, left_len l S]
    by_cases h : x ∈ S <;> simp [h]
theorem mark_put (hn : l.Nodup) {p : Nat} (hp : l[p]? = some c) : (l.map fun c => decide (c ∈ S)).set p true = l.map fun x => decide (x ∈ putK S c) := by
  obtain ⟨hp1, hp2⟩ := List.getElem?_eq_some_iff.1 hp
  apply List.ext_getElem
  · simp
  intro j h1 h2
  simp only [List.length_set, List.length_map] at h1
  rw [List.getElem_set, List.getElem_map, List.getElem_map]
  by_cases hj : p = j
  · subst hj
    rw [if_pos rfl, hp2]
    exact (decide_eq_true putK_mem).symm
  · rw [if_neg hj]
    apply decide_eq_decide.2
    constructor
    · intro h
      unfold putK
      split
      · exact h
      · exact List.mem_append.2 (.inl h)
    · intro h
      rcases putK_sub h with h | h
      · exact h
      · exfalso
        apply hj
        have := (List.getElem_inj hn (i := p) (j := j) (h₀ := hp1) (h₁ := h1)).1 (by rw [hp2, h])
        exact this
theorem putK_len (h : c ∉ S) : (putK S c).length = S.length + 1 := by
  unfold putK
  rw [if_neg h, List.length_append]
  rfl
theorem putK_in (h : c ∈ S) : putK S c = S := if_pos h
theorem hear0 (st : q.St0 nd l S) (hS : S.length < need l) (hc : c ∈ l) (hk : m.kind = 2) (hf : m.frm = c) (ht : m.to = nd) (hs : m.shard = 1) (he : m.epoch = 77) (hb : m.b.length ≤ (140737488355325 : Nat)) : (q.hear m 6).1.St0 nd l (putK S c) ∧ (q.hear m 6).2.length = if need l ≤ (putK S c).length then l.length else 0 := by
  have okh := st.b.ok.hear hb 6
  obtain ⟨p1, p2⟩ := st.go hS
  have hg : ¬ (m.to ≠ q.node ∨ m.shard ≠ q.shard ∨ m.frm ∉ q.cop) := by rw [ht, hs, hf, st.b.n, st.b.s, st.b.c]; simp [hc]
  have e1 : q.hear m 6 = q.promise m 6 := by unfold QS.hear; rw [if_neg hg, if_pos hk]
  rw [e1] at okh ⊢
  unfold QS.promise at okh ⊢
  by_cases hi : c ∈ S
  · have h1 : q.phase ≠ 1 ∨ m.epoch ≠ q.epoch ∨ m.frm ∈ q.pm := .inr (.inr (by rw [hf, p2]; exact hi))
    rw [if_pos h1, putK_in hi, if_neg (by omega)]
    exact ⟨st, rfl⟩
  · have h1 : ¬ (q.phase ≠ 1 ∨ m.epoch ≠ q.epoch ∨ m.frm ∈ q.pm) := by rw [hf, p2, p1, he, st.b.e]; simp [hi]
    obtain ⟨s1, s2, s3, s4, s5, s6⟩ := prom_same (q := q) (m := m)
    have s7 : (q.prom m).begun = q.begun ∧ (q.prom m).done = q.done := by unfold QS.prom; split <;> exact ⟨rfl, rfl⟩
    rw [hf, p2] at s6
    rw [if_neg h1] at okh ⊢
    rw [most_need (s3.trans st.b.c), s6] at okh ⊢
    by_cases hm : need l ≤ (putK S c).length
    · rw [if_pos (decide_eq_true hm)] at okh ⊢
      rw [if_pos hm]
      refine ⟨⟨⟨okh, s1.trans st.b.n, s2.trans st.b.s, s3.trans st.b.c, s5.trans st.b.e⟩, s7.1.trans st.b0, s7.2.trans st.d0, fun h => by omega, fun _ => ⟨rfl, ?_, rfl⟩⟩, ?_⟩
      · show ((q.prom m).epoch, (1 : Int)) = _
        rw [s5, st.b.e]
      · show (List.map _ (List.filter _ (q.prom m).cop)).length = _
        rw [List.length_map, s3, st.b.c]
        show (List.filter (fun c => !decide (c ∈ ([] : List Int))) l).length = _
        simp
    · rw [if_neg (by simp [hm])] at okh ⊢
      rw [if_neg hm]
      exact ⟨⟨⟨okh, s1.trans st.b.n, s2.trans st.b.s, s3.trans st.b.c, s5.trans st.b.e⟩, s7.1.trans st.b0, s7.2.trans st.d0, fun _ => ⟨s4.trans p1, s6⟩, fun h => absurd h hm⟩, rfl⟩
theorem hear1 (st : q.St1 nd l S) (hS : S.length < need l) (hc : c ∈ l) (hk : m.kind = 5) (hf : m.frm = c) (ht : m.to = nd) (hs : m.shard = 1) (he : m.te = 77) (he2 : m.ts = 1) (hb : m.b.length ≤ (140737488355325 : Nat)) : (q.hear m 6).1.St1 nd l (putK S c) ∧ (q.hear m 6).2.length = 0 := by
  have okh := st.b.ok.hear hb 6
  have p1 := st.go hS
  have hg : ¬ (m.to ≠ q.node ∨ m.shard ≠ q.shard ∨ m.frm ∉ q.cop) := by rw [ht, hs, hf, st.b.n, st.b.s, st.b.c]; simp [hc]
  have e1 : q.hear m 6 = (q.stored m, []) := by unfold QS.hear; rw [if_neg hg, if_neg (by omega), if_pos hk]
  rw [e1] at okh ⊢
  refine ⟨?_, rfl⟩
  show (q.stored m).St1 nd l _
  replace okh : (q.stored m).Ok := okh
  unfold QS.stored at okh ⊢
  have h1 : q.phase = 2 ∧ m.te = q.tag.1 ∧ m.ts = q.tag.2 := ⟨p1, by rw [he, st.t], by rw [he2, st.t]⟩
  rw [if_pos h1, hf, st.w, most_need st.b.c] at okh ⊢
  by_cases hm : need l ≤ (putK S c).length
  · rw [if_pos (decide_eq_true hm)] at okh ⊢
    exact ⟨⟨okh, st.b.n, st.b.s, st.b.c, st.b.e⟩, st.b0, st.d0, st.t, rfl, fun h => by omega, fun _ => rfl⟩
  · rw [if_neg (by simp [hm])] at okh ⊢
    exact ⟨⟨okh, st.b.n, st.b.s, st.b.c, st.b.e⟩, st.b0, st.d0, st.t, rfl, fun _ => p1, fun h => absurd h hm⟩
theorem hear2 (st : q.St2 nd l S) (hS : S.length < need l) (hc : c ∈ l) (hk : m.kind = 7) (hf : m.frm = c) (ht : m.to = nd) (hs : m.shard = 1) (he : m.epoch = 77) (hr : m.round = 1) (hb : m.b.length ≤ (140737488355325 : Nat)) : (q.hear m 6).1.St2 nd l (putK S c) ∧ (q.hear m 6).2.length = 0 := by
  have okh := st.b.ok.hear hb 6
  have p1 := st.go hS
  have hg : ¬ (m.to ≠ q.node ∨ m.shard ≠ q.shard ∨ m.frm ∉ q.cop) := by rw [ht, hs, hf, st.b.n, st.b.s, st.b.c]; simp [hc]
  have e1 : q.hear m 6 = (q.beat m, []) := by unfold QS.hear; rw [if_neg hg, if_neg (by omega), if_neg (by omega), if_neg (by omega), if_pos hk]
  rw [e1] at okh ⊢
  refine ⟨?_, rfl⟩
  show (q.beat m).St2 nd l _
  replace okh : (q.beat m).Ok := okh
  unfold QS.beat at okh ⊢
  have hh : q.holds = true := by unfold QS.holds; rw [st.p]; rfl
  have h1 : q.holds = true ∧ q.begun ≠ q.done ∧ m.epoch = q.epoch ∧ m.round = q.begun := ⟨hh, by rw [st.b0, p1]; decide, by rw [he, st.b.e], by rw [hr, st.b0]⟩
  rw [if_pos h1, hf, st.w, most_need st.b.c] at okh ⊢
  by_cases hm : need l ≤ (putK S c).length
  · rw [if_pos (decide_eq_true hm)] at okh ⊢
    exact ⟨⟨okh, st.b.n, st.b.s, st.b.c, st.b.e⟩, st.b0, st.p, rfl, fun h => by omega, fun _ => st.b0⟩
  · rw [if_neg (by simp [hm])] at okh ⊢
    exact ⟨⟨okh, st.b.n, st.b.s, st.b.c, st.b.e⟩, st.b0, st.p, rfl, fun _ => p1, fun h => absurd h hm⟩
theorem tick1 (st : q.St1 nd l S) (hS : S.length < need l) : (q.tick 6).1 = q ∧ (q.tick 6).2.length = (l.filter fun c => !decide (c ∈ S)).length := by
  have p1 := st.go hS
  have hh : q.holds = false := by unfold QS.holds; rw [p1, st.t]; rfl
  unfold QS.tick
  rw [if_pos hh]
  refine ⟨rfl, ?_⟩
  show (q.tick0 6).length = _
  unfold QS.tick0
  rw [if_neg (by omega), if_pos p1]
  show (List.map _ (List.filter _ q.cop)).length = _
  rw [List.length_map, st.b.c, st.w]
theorem tick2 (st : q.St2 nd l S) (hS : S.length < need l) : (q.tick 6).1 = q ∧ (q.tick 6).2.length = (l.filter fun c => !decide (c ∈ S)).length := by
  have p1 := st.go hS
  have hh : q.holds = true := by unfold QS.holds; rw [st.p]; rfl
  unfold QS.tick
  rw [if_neg (by simp [hh]), if_neg (by rw [st.b0, p1]; decide)]
  refine ⟨rfl, ?_⟩
  show (q.tick0 6 ++ q.beats 6).length = _
  unfold QS.tick0
  rw [if_neg (by rw [st.p]; decide), if_neg (by rw [st.p]; decide)]
  show (List.map _ (List.filter _ q.cop)).length = _
  rw [List.length_map, st.b.c, st.w]
theorem round1 (st : q.St1 nd l S) (hS : need l ≤ S.length) : (q.tick 6).1.St2 nd l [] ∧ (q.tick 6).2.length = l.length := by
  have okh := st.b.ok.tick 6
  have p1 := st.on hS
  have hh : q.holds = true := by unfold QS.holds; rw [p1]; rfl
  unfold QS.tick at okh ⊢
  rw [if_neg (by simp [hh]), if_pos (by rw [st.b0, st.d0]), if_neg (by rw [st.b0]; decide)] at okh ⊢
  refine ⟨⟨⟨okh, st.b.n, st.b.s, st.b.c, st.b.e⟩, by show q.begun + 1 = 1; rw [st.b0]; rfl, p1, rfl, fun _ => st.d0, fun h => ?_⟩, ?_⟩
  · simp [need] at h
  · show (q.tick0 6 ++ q.rise.beats 6).length = _
    unfold QS.tick0
    rw [if_neg (by rw [p1]; decide), if_neg (by rw [p1]; decide)]
    show (List.map _ (List.filter (fun c => !decide (c ∈ ([] : List Int))) q.cop)).length = _
    rw [List.length_map, st.b.c]
    simp
theorem stage1 (st : q.St0 nd l S) (hS : need l ≤ S.length) : q.St1 nd l [] :=
  ⟨st.b, st.b0, st.d0, (st.on hS).2.1, (st.on hS).2.2, fun _ => (st.on hS).1, fun h => by simp [need] at h⟩
/-- A message that counts for a stage. -/
structure Ans (nd : Int) (k c : Int) (m : Mg) : Prop where
  f : m.frm = c
  t : m.to = nd
  s : m.shard = 1
  b : m.b.length ≤ (140737488355325 : Nat)
  k0 : k = 0 → m.kind = 2 ∧ m.epoch = 77
  k1 : k = 1 → m.kind = 5 ∧ m.te = 77 ∧ m.ts = 1
  k2 : k = 2 → m.kind = 7 ∧ m.epoch = 77 ∧ m.round = 1
theorem hearK {k : Int} (h0 : 0 ≤ k) (h3 : k < 3) (st : q.StK nd l k S) (hS : S.length < need l) (hc : c ∈ l) (a : Ans nd k c m) : (q.hear m 6).1.StK nd l k (putK S c) ∧ (q.hear m 6).2.length = if k = 0 ∧ need l ≤ (putK S c).length then l.length else 0 := by
  unfold QS.StK at st ⊢
  by_cases e0 : k = 0
  · rw [if_pos e0] at st ⊢
    obtain ⟨x, y⟩ := hear0 st hS hc (a.k0 e0).1 a.f a.t a.s (a.k0 e0).2 a.b
    exact ⟨x, by simpa [e0] using y⟩
  rw [if_neg e0] at st ⊢
  by_cases e1 : k = 1
  · rw [if_pos e1] at st ⊢
    obtain ⟨x, y⟩ := hear1 st hS hc (a.k1 e1).1 a.f a.t a.s (a.k1 e1).2.1 (a.k1 e1).2.2 a.b
    exact ⟨x, by simpa [e0] using y⟩
  · rw [if_neg e1] at st ⊢
    have e2 : k = 2 := by omega
    obtain ⟨x, y⟩ := hear2 st hS hc (a.k2 e2).1 a.f a.t a.s (a.k2 e2).2.1 (a.k2 e2).2.2 a.b
    exact ⟨x, by simpa [e0] using y⟩
theorem tickK {k : Int} (h0 : 0 < k) (st : q.StK nd l k S) (hS : S.length < need l) : (q.tick 6).1 = q ∧ (q.tick 6).2.length = (l.filter fun c => !decide (c ∈ S)).length := by
  unfold QS.StK at st
  rw [if_neg (by omega)] at st
  by_cases e1 : k = 1
  · rw [if_pos e1] at st
    exact tick1 st hS
  · rw [if_neg e1] at st
    exact tick2 st hS
theorem StK.base {k : Int} (st : q.StK nd l k S) : q.Base nd l := by
  unfold QS.StK at st
  split at st
  · exact st.b
  split at st
  · exact st.b
  · exact st.b
theorem StK.phase0 (st : q.StK nd l 0 S) (hS : need l ≤ S.length) : q.phase = 2 := (QS.St0.on (show q.St0 nd l S from st) hS).1
theorem StK.holds {k : Int} (h0 : 0 < k) (st : q.StK nd l k S) (hS : need l ≤ S.length) : q.holds = true := by
  unfold QS.StK at st
  rw [if_neg (by omega)] at st
  unfold QS.holds
  split at st
  · rw [st.on hS]; rfl
  · rw [st.p]; rfl
theorem StK.done (st : q.StK nd l 2 S) (hS : need l ≤ S.length) : q.done = 1 := QS.St2.on (show q.St2 nd l S from st) hS
theorem start_St0 (ok : q.Ok) (e1 : q.node = nd) (e2 : q.shard = 1) (e3 : q.cop = l) (hl : 2 ≤ need l) (hn : l.Nodup) (hm : nd ∈ l) {b : List UInt8} (hb : b.length ≤ (140737488355325 : Nat)) : (q.start 77 3 4 b 6).1.StK nd l 0 [nd] ∧ (q.start 77 3 4 b 6).2.length = l.length - 1 := by
  have oks := ok.start (e := 77) (te := 3) (ts := 4) (span := 6) hb
  have hmost : (q.start0 77 3 4 b).most 1 = false := by
    have := most_need (q := q.start0 77 3 4 b) (l := l) e3 (n := 1)
    rw [show ((1 : Nat) : Int) = 1 from rfl] at this
    rw [this]
    exact decide_eq_false (by omega)
  unfold QS.start at oks ⊢
  rw [if_neg (by simp [hmost])] at oks ⊢
  refine ⟨?_, ?_⟩
  · show (q.start0 77 3 4 b).St0 nd l [nd]
    refine ⟨⟨oks, e1, e2, e3, rfl⟩, rfl, rfl, fun _ => ⟨rfl, ?_⟩, fun h => ?_⟩
    · show [q.node] = _
      rw [e1]
    · simp only [List.length_singleton] at h; omega
  · show (List.map _ (List.filter (fun c => !(c == q.node)) q.cop)).length = _
    rw [List.length_map, e3, e1]
    have h1 : (l.filter fun c => !(c == nd)).length + (l.filter fun c => c == nd).length = l.length := by
      clear hmost oks hm hn hl e3
      induction l with
      | nil => rfl
      | cons x l ih =>
        simp only [List.filter_cons, List.length_cons]
        cases x == nd <;> simp <;> omega
    have h2 : (l.filter fun c => c == nd).length = 1 := by
      have := (List.Nodup.count (a := nd) hn).trans (if_pos hm)
      rw [List.count_eq_length_filter] at this
      exact this
    omega
end
theorem copyN_nodup {n : Nat} (h : n = 1 ∨ n = 3 ∨ n = 5 ∨ n = 7) : (copyN n).Nodup := by
  rcases h with rfl | rfl | rfl | rfl <;> decide
end Go.Proofs.Ytigcpkejjjgkeaa.V
namespace Go.Proofs.Ytigcpkejjjgkeaa.V
open Go Go.RowKit
set_option linter.unusedVariables false
set_option maxRecDepth 100000
def F_law10_left.l1 (l1 : Sl) (j2 : Int → Heap → Prop) : Int → Int → Heap → Prop :=
  wl [(3, .one (.int .i64)), (4, .one (.int .i64))] (fun (next3 : Int → Int → Heap → Prop) (n4 i5 : Int) (h6 : Heap) =>
  brr (decide (i5 < ((l1.len : Nat) : Int)))
  (ixS 1 l1 i5 fun (a7 : Addr) =>
  ld [.bool] a7 h6 fun (v8 : Bool) =>
  jn [(3, .one (.int .i64))] (fun (n10 : Int) (h11 : Heap) =>
  next3 n10 (IntKind.i64.wrap (i5 + 1)) h11) (fun (j9 : Int → Heap → Prop) =>
  brr (!v8)
  (j9 (IntKind.i64.wrap (n4 + 1)) h6)
  (j9 n4 h6)))
  (j2 n4 h6))
def F_law10_left_of  (l1 : Sl) (h : Heap) (Q : Int → Heap → Prop) : Prop :=
  jn [(3, .one (.int .i64))] (fun (n12 : Int) (h13 : Heap) =>
  Q n12 h13) (fun (j2 : Int → Heap → Prop) =>
  F_law10_left.l1 l1 j2 0 0 h)
def F_law10_left (l1 : Sl) (h : Heap) (Q : Int → Heap → Prop) : Prop := F_law10_left_of  l1 h Q
def plan32 : Plan := .s (.r [0]) (.s (.r [0, 3]) (.s (.s (.r [0, 3, 4]) (.bj [(3, .one (.int .i64))] [] (.l [(3, .one (.int .i64)), (4, .one (.int .i64))] [0] (.s (.s (.r [0, 3, 4, 8]) (.c .z .z)) (.s (.b (.s (.r [0, 3, 4, 15]) (.cj [(3, .one (.int .i64))] [0, 4] (.r [0, 3, 4]) .z))) (.r [0, 3, 4])))))) (.s (.r [2]) .z)))
theorem F_law10_left.eq  (l1 : Sl) (h : Heap) (K : Value → Heap → Prop) : F_law10_left_of  l1 h (fun (r0 : Int) (h : Heap) => K (.int .i64 r0) h) =
    den Try.prog noFns Try.f32.ntmps plan32 (bodyOf Try.f32) (args0 0 [(.slice l1.ptr l1.len l1.cap : Value)]) h ⟨fun env h => dRes Try.prog Try.f32.results.toList env h K, fun _ _ _ => False, fun env h => dRes Try.prog Try.f32.results.toList env h K⟩ := by kernel_rfl
def E_law10_left_of (f : Sl → Heap → (Int → Heap → Prop) → Prop) : List Value → Heap → (Value → Heap → Prop) → Prop
  | [v0], h, K => dec1 .sl v0 fun (l1 : Sl) =>
  f l1 h (fun (r0 : Int) (h : Heap) => K (.int .i64 r0) h)
  | _, _, _ => False
abbrev E_law10_left := E_law10_left_of F_law10_left
theorem E_law10_left.right : IsRight Try.prog 32 E_law10_left := by
  refine isRight fun vs K w hh => ?_
  match vs, hh with
  | [v0], hh =>
    unfold E_law10_left E_law10_left_of at hh
    replace hh := dec1_sound hh; obtain ⟨l1, rfl, hh⟩ := hh
    unfold F_law10_left at hh
    exact calls_den noFns_right plan32 _ w K Try.func32 (by kernel_rfl) (by kernel_rfl) (Eq.mp (F_law10_left.eq  l1 w.heap K) hh)
theorem ok32 : okFn Try.prog 32 = true := by kernel_rfl
end Go.Proofs.Ytigcpkejjjgkeaa.V
namespace Go.Proofs.Ytigcpkejjjgkeaa.V
open Go Go.RowKit
set_option linter.unusedVariables false
set_option maxRecDepth 100000
def F_law10_Nodes_Steps0_of  (n1 : Int) (n2 : Sl) (i3 : Int) (h : Heap) (Q : Int → Heap → Prop) : Prop :=
  al 24 [.int .i64 n1, .slice n2.ptr n2.len n2.cap] h fun (a4 : Addr) (h5 : Heap) =>
  ld [.sl] (a4.add 1) h5 fun (v6 : Sl) =>
  brr (decide (i3 < ((v6.len : Nat) : Int)))
  (ld [.sl] (a4.add 1) h5 fun (v7 : Sl) =>
  ixS 3 v7 i3 fun (a8 : Addr) =>
  ld [.int .i64] (a8.add 2) h5 fun (v9 : Int) =>
  Q v9 h5)
  (Q 0 h5)
def F_law10_Nodes_Steps0 (n1 : Int) (n2 : Sl) (i3 : Int) (h : Heap) (Q : Int → Heap → Prop) : Prop := F_law10_Nodes_Steps0_of  n1 n2 i3 h Q
def plan55 : Plan := .s (.r [1, 2]) (.s (.s (.r [1, 2, 9]) (.c (.s (.r [4]) .z) .z)) (.s (.r [4]) .z))
theorem F_law10_Nodes_Steps0.eq  (n1 : Int) (n2 : Sl) (i3 : Int) (h : Heap) (K : Value → Heap → Prop) : F_law10_Nodes_Steps0_of  n1 n2 i3 h (fun (r0 : Int) (h : Heap) => K (.int .i64 r0) h) =
    den Try.prog noFns Try.f55.ntmps plan55 (bodyOf Try.f55) (args0 0 [(.agg #[.int .i64 n1, .slice n2.ptr n2.len n2.cap] : Value), (.int .i64 i3 : Value)]) h ⟨fun env h => dRes Try.prog Try.f55.results.toList env h K, fun _ _ _ => False, fun env h => dRes Try.prog Try.f55.results.toList env h K⟩ := by kernel_rfl
def E_law10_Nodes_Steps0_of (f : Int → Sl → Int → Heap → (Int → Heap → Prop) → Prop) : List Value → Heap → (Value → Heap → Prop) → Prop
  | [v0, v1], h, K => vAgg v0 fun cs0 => decs [.int .i64, .sl] cs0.toList fun (n1 : Int) (n2 : Sl) =>
  dec1 (.int .i64) v1 fun (i3 : Int) =>
  f n1 n2 i3 h (fun (r0 : Int) (h : Heap) => K (.int .i64 r0) h)
  | _, _, _ => False
abbrev E_law10_Nodes_Steps0 := E_law10_Nodes_Steps0_of F_law10_Nodes_Steps0
theorem E_law10_Nodes_Steps0.right : IsRight Try.prog 55 E_law10_Nodes_Steps0 := by
  refine isRight fun vs K w hh => ?_
  match vs, hh with
  | [v0, v1], hh =>
    unfold E_law10_Nodes_Steps0 E_law10_Nodes_Steps0_of at hh
    replace hh := vAgg_sound hh; obtain ⟨cs0, rfl, hh⟩ := hh
    replace hh := decs_cons hh; obtain ⟨n1, l0_0, e0_0, hh⟩ := hh
    replace hh := decs_cons hh; obtain ⟨n2, l0_1, e0_1, hh⟩ := hh
    replace hh := decs_nil hh; obtain ⟨rfl, hh⟩ := hh
    subst e0_1
    have ec0 := toArray_eq e0_0
    subst ec0
    replace hh := dec1_sound hh; obtain ⟨i3, rfl, hh⟩ := hh
    unfold F_law10_Nodes_Steps0 at hh
    exact calls_den noFns_right plan55 _ w K Try.func55 (by kernel_rfl) (by kernel_rfl) (Eq.mp (F_law10_Nodes_Steps0.eq  n1 n2 i3 w.heap K) hh)
theorem ok55 : okFn Try.prog 55 = true := by kernel_rfl
end Go.Proofs.Ytigcpkejjjgkeaa.V
namespace Go.Proofs.Ytigcpkejjjgkeaa.V
open Go Go.RowKit
set_option linter.unusedVariables false
set_option maxRecDepth 100000
def F_law10_Nodes_answer_of (f7_ : Int → Int → Heap → (Int → Heap → Prop) → Prop) (f55_ : Int → Sl → Int → Heap → (Int → Heap → Prop) → Prop) (n1 : Int) (n2 l3 : Sl) (me4 k5 p6 i7 : Int) (h : Heap) (Q : Int → Int → Int → Int → Int → Int → Int → Int → Int → Int → Sl → Int → Int → ByteArray → ByteArray → Int → Int → Int → Int → Int → Int → Int → Heap → Prop) : Prop :=
  al 24 [.int .i64 n1, .slice n2.ptr n2.len n2.cap] h fun (a8 : Addr) (h9 : Heap) =>
  al 66 [.int .i64 0, .int .i64 0, .int .i64 0, .int .i64 0, .int .u64 0, .int .u64 0, .int .u64 0, .int .u64 0, .int .i64 0, .int .u64 0, .slice none 0 0, .int .i64 0, .int .u64 0, .string (⟨#[]⟩ : ByteArray), .string (⟨#[]⟩ : ByteArray), .int .u64 0, .int .u64 0, .int .u64 0, .int .i64 0, .int .i64 0, .int .i64 0, .int .i64 0] h9 fun (a10 : Addr) (h11 : Heap) =>
  ixS 1 l3 p6 fun (a12 : Addr) =>
  ld [.int .i64] a12 h11 fun (v13 : Int) =>
  ixS 1 l3 me4 fun (a14 : Addr) =>
  ld [.int .i64] a14 h11 fun (v15 : Int) =>
  al 66 [.int .i64 0, .int .i64 0, .int .i64 0, .int .i64 0, .int .u64 0, .int .u64 0, .int .u64 0, .int .u64 0, .int .i64 0, .int .u64 0, .slice none 0 0, .int .i64 0, .int .u64 0, .string (⟨#[]⟩ : ByteArray), .string (⟨#[]⟩ : ByteArray), .int .u64 0, .int .u64 0, .int .u64 0, .int .i64 0, .int .i64 0, .int .i64 0, .int .i64 0] h11 fun (a16 : Addr) (h17 : Heap) =>
  cellsAre h17 a12 [.int .i64 v13] ∧
  cellsAre h17 a14 [.int .i64 v15] ∧
  st a16 [.int .i64 2, .int .i64 v13, .int .i64 v15, .int .i64 1, .int .u64 0, .int .u64 0, .int .u64 0, .int .u64 0, .int .i64 0, .int .u64 0, .slice none 0 0, .int .i64 0, .int .u64 0, .string (⟨#[]⟩ : ByteArray), .string (⟨#[]⟩ : ByteArray), .int .u64 0, .int .u64 0, .int .u64 0, .int .i64 0, .int .i64 0, .int .i64 0, .int .i64 0] h17 fun (h18 : Heap) =>
  jn [] (fun  (h40 : Heap) =>
  ld [.int .i64, .int .i64, .int .i64, .int .i64, .int .u64, .int .u64, .int .u64, .int .u64, .int .i64, .int .u64, .sl, .int .i64, .int .u64, .str, .str, .int .u64, .int .u64, .int .u64, .int .i64, .int .i64, .int .i64, .int .i64] a16 h40 fun (v41 v42 v43 v44 v45 v46 v47 v48 v49 v50 : Int) (v51 : Sl) (v52 v53 : Int) (v54 v55 : ByteArray) (v56 v57 v58 v59 v60 v61 v62 : Int) =>
  st a10 [.int .i64 v41, .int .i64 v42, .int .i64 v43, .int .i64 v44, .int .u64 v45, .int .u64 v46, .int .u64 v47, .int .u64 v48, .int .i64 v49, .int .u64 v50, .slice v51.ptr v51.len v51.cap, .int .i64 v52, .int .u64 v53, .string v54, .string v55, .int .u64 v56, .int .u64 v57, .int .u64 v58, .int .i64 v59, .int .i64 v60, .int .i64 v61, .int .i64 v62] h40 fun (h63 : Heap) =>
  ld [.int .i64, .int .i64, .int .i64, .int .i64, .int .u64, .int .u64, .int .u64, .int .u64, .int .i64, .int .u64, .sl, .int .i64, .int .u64, .str, .str, .int .u64, .int .u64, .int .u64, .int .i64, .int .i64, .int .i64, .int .i64] a10 h63 fun (v64 v65 v66 v67 v68 v69 v70 v71 v72 v73 : Int) (v74 : Sl) (v75 v76 : Int) (v77 v78 : ByteArray) (v79 v80 v81 v82 v83 v84 v85 : Int) =>
  Q v64 v65 v66 v67 v68 v69 v70 v71 v72 v73 v74 v75 v76 v77 v78 v79 v80 v81 v82 v83 v84 v85 h63) (fun (j19 : Heap → Prop) =>
  brr (k5 == 0)
  (st (a16.add 4) [.int .u64 77] h18 fun (h20 : Heap) =>
  ld [.int .i64, .sl] a8 h20 fun (v21 : Int) (v22 : Sl) =>
  f55_ v21 v22 i7 h20 fun (r23 : Int) (h24 : Heap) =>
  f7_ r23 5 h24 fun (r25 : Int) (h26 : Heap) =>
  st (a16.add 5) [.int .u64 (IntKind.u64.wrap r25), .int .u64 (IntKind.u64.wrap p6)] h26 fun (h27 : Heap) =>
  al 5 [.int .u8 (IntKind.u8.wrap p6)] h27 fun (a28 : Addr) (h29 : Heap) =>
  st (a16.add 10) [.slice (some a28) 1 1] h29 fun (h30 : Heap) =>
  j19 h30)
  (jn [] (fun  (h39 : Heap) =>
  j19 h39) (fun (j31 : Heap → Prop) =>
  brr (k5 == 1)
  (st ((a16.add 0).add 0) [.int .i64 5] h18 fun (h32 : Heap) =>
  st (a16.add 5) [.int .u64 77, .int .u64 1] h32 fun (h33 : Heap) =>
  j31 h33)
  (jn [] (fun  (h38 : Heap) =>
  j31 h38) (fun (j34 : Heap → Prop) =>
  brr (k5 == 2)
  (st ((a16.add 0).add 0) [.int .i64 7] h18 fun (h35 : Heap) =>
  st (a16.add 4) [.int .u64 77] h35 fun (h36 : Heap) =>
  st (a16.add 7) [.int .u64 1] h36 fun (h37 : Heap) =>
  j34 h37)
  (j34 h18))))))
def F_law10_Nodes_answer (n1 : Int) (n2 l3 : Sl) (me4 k5 p6 i7 : Int) (h : Heap) (Q : Int → Int → Int → Int → Int → Int → Int → Int → Int → Int → Sl → Int → Int → ByteArray → ByteArray → Int → Int → Int → Int → Int → Int → Int → Heap → Prop) : Prop := F_law10_Nodes_answer_of F_law10_into F_law10_Nodes_Steps0 n1 n2 l3 me4 k5 p6 i7 h Q
def plan33 : Plan := .s (.r [1, 2, 3, 4, 5, 6, 12]) (.s (.d [0, 0, 3, 7, 0, 0, 48, 112, 255, 511, 0, 2047] [[0, 1, 2, 3, 4, 5, 6, 7, 8, 9, 10, 11]] [3, 4, 5, 6, 12, 13]) (.s (.s (.r [4, 5, 6, 12, 13, 24]) (.b (.s (.r [4, 5, 6, 12, 13, 24, 25]) (.cj [] [12, 13] (.s (.r [4, 5, 6, 12, 13]) (.s (.r [4, 12, 13]) (.r [12, 13]))) (.s (.r [12, 13, 24, 41]) (.cj [] [12, 13] (.s (.r [12, 13]) (.r [12, 13])) (.s (.r [12, 13, 47]) (.cj [] [12, 13] (.s (.r [12, 13]) (.s (.r [12, 13]) (.r [12, 13]))) .z)))))))) (.s (.r [12]) .z)))
theorem F_law10_Nodes_answer.eq (f7_ : Int → Int → Heap → (Int → Heap → Prop) → Prop) (f55_ : Int → Sl → Int → Heap → (Int → Heap → Prop) → Prop) (n1 : Int) (n2 l3 : Sl) (me4 k5 p6 i7 : Int) (h : Heap) (K : Value → Heap → Prop) : F_law10_Nodes_answer_of f7_ f55_ n1 n2 l3 me4 k5 p6 i7 h (fun (r0 r1 r2 r3 r4 r5 r6 r7 r8 r9 : Int) (r10 : Sl) (r11 r12 : Int) (r13 r14 : ByteArray) (r15 r16 r17 r18 r19 r20 r21 : Int) (h : Heap) => K (.agg #[.int .i64 r0, .int .i64 r1, .int .i64 r2, .int .i64 r3, .int .u64 r4, .int .u64 r5, .int .u64 r6, .int .u64 r7, .int .i64 r8, .int .u64 r9, .slice r10.ptr r10.len r10.cap, .int .i64 r11, .int .u64 r12, .string r13, .string r14, .int .u64 r15, .int .u64 r16, .int .u64 r17, .int .i64 r18, .int .i64 r19, .int .i64 r20, .int .i64 r21]) h) =
    den Try.prog (fn1 7 (E_law10_into_of f7_) (fn1 55 (E_law10_Nodes_Steps0_of f55_) noFns)) Try.f33.ntmps plan33 (bodyOf Try.f33) (args0 0 [(.agg #[.int .i64 n1, .slice n2.ptr n2.len n2.cap] : Value), (.slice l3.ptr l3.len l3.cap : Value), (.int .i64 me4 : Value), (.int .i64 k5 : Value), (.int .i64 p6 : Value), (.int .i64 i7 : Value)]) h ⟨fun env h => dRes Try.prog Try.f33.results.toList env h K, fun _ _ _ => False, fun env h => dRes Try.prog Try.f33.results.toList env h K⟩ := by kernel_rfl
def E_law10_Nodes_answer_of (f : Int → Sl → Sl → Int → Int → Int → Int → Heap → (Int → Int → Int → Int → Int → Int → Int → Int → Int → Int → Sl → Int → Int → ByteArray → ByteArray → Int → Int → Int → Int → Int → Int → Int → Heap → Prop) → Prop) : List Value → Heap → (Value → Heap → Prop) → Prop
  | [v0, v1, v2, v3, v4, v5], h, K => vAgg v0 fun cs0 => decs [.int .i64, .sl] cs0.toList fun (n1 : Int) (n2 : Sl) =>
  dec1 .sl v1 fun (l3 : Sl) =>
  dec1 (.int .i64) v2 fun (me4 : Int) =>
  dec1 (.int .i64) v3 fun (k5 : Int) =>
  dec1 (.int .i64) v4 fun (p6 : Int) =>
  dec1 (.int .i64) v5 fun (i7 : Int) =>
  f n1 n2 l3 me4 k5 p6 i7 h (fun (r0 r1 r2 r3 r4 r5 r6 r7 r8 r9 : Int) (r10 : Sl) (r11 r12 : Int) (r13 r14 : ByteArray) (r15 r16 r17 r18 r19 r20 r21 : Int) (h : Heap) => K (.agg #[.int .i64 r0, .int .i64 r1, .int .i64 r2, .int .i64 r3, .int .u64 r4, .int .u64 r5, .int .u64 r6, .int .u64 r7, .int .i64 r8, .int .u64 r9, .slice r10.ptr r10.len r10.cap, .int .i64 r11, .int .u64 r12, .string r13, .string r14, .int .u64 r15, .int .u64 r16, .int .u64 r17, .int .i64 r18, .int .i64 r19, .int .i64 r20, .int .i64 r21]) h)
  | _, _, _ => False
abbrev E_law10_Nodes_answer := E_law10_Nodes_answer_of F_law10_Nodes_answer
theorem E_law10_Nodes_answer.right : IsRight Try.prog 33 E_law10_Nodes_answer := by
  refine isRight fun vs K w hh => ?_
  match vs, hh with
  | [v0, v1, v2, v3, v4, v5], hh =>
    unfold E_law10_Nodes_answer E_law10_Nodes_answer_of at hh
    replace hh := vAgg_sound hh; obtain ⟨cs0, rfl, hh⟩ := hh
    replace hh := decs_cons hh; obtain ⟨n1, l0_0, e0_0, hh⟩ := hh
    replace hh := decs_cons hh; obtain ⟨n2, l0_1, e0_1, hh⟩ := hh
    replace hh := decs_nil hh; obtain ⟨rfl, hh⟩ := hh
    subst e0_1
    have ec0 := toArray_eq e0_0
    subst ec0
    replace hh := dec1_sound hh; obtain ⟨l3, rfl, hh⟩ := hh
    replace hh := dec1_sound hh; obtain ⟨me4, rfl, hh⟩ := hh
    replace hh := dec1_sound hh; obtain ⟨k5, rfl, hh⟩ := hh
    replace hh := dec1_sound hh; obtain ⟨p6, rfl, hh⟩ := hh
    replace hh := dec1_sound hh; obtain ⟨i7, rfl, hh⟩ := hh
    unfold F_law10_Nodes_answer at hh
    exact calls_den (fn1_right ok7 E_law10_into.right (fn1_right ok55 E_law10_Nodes_Steps0.right noFns_right)) plan33 _ w K Try.func33 (by kernel_rfl) (by kernel_rfl) (Eq.mp (F_law10_Nodes_answer.eq F_law10_into F_law10_Nodes_Steps0 n1 n2 l3 me4 k5 p6 i7 w.heap K) hh)
theorem ok33 : okFn Try.prog 33 = true := by kernel_rfl
end Go.Proofs.Ytigcpkejjjgkeaa.V
namespace Go.Proofs.Ytigcpkejjjgkeaa.V
open Go Go.RowKit
set_option linter.unusedVariables false
set_option maxRecDepth 100000
def F_law10_Nodes_counts.l1 (f7_ : Int → Int → Heap → (Int → Heap → Prop) → Prop) (f11_ : Option Addr → Int → Heap → (Sl → Heap → Prop) → Prop) (f20_ : Option Addr → Int → Int → Int → Int → Int → Int → Int → Int → Int → Int → Sl → Int → Int → ByteArray → ByteArray → Int → Int → Int → Int → Int → Int → Int → Int → Heap → (Sl → Heap → Prop) → Prop) (f32_ : Sl → Heap → (Int → Heap → Prop) → Prop) (f33_ : Int → Sl → Sl → Int → Int → Int → Int → Heap → (Int → Int → Int → Int → Int → Int → Int → Int → Int → Int → Sl → Int → Int → ByteArray → ByteArray → Int → Int → Int → Int → Int → Int → Int → Heap → Prop) → Prop) (q3 : Option Addr) (l4 : Sl) (me5 k6 : Int) (Q : Bool → Heap → Prop) (a7 : Addr) (s9 : Sl) (j16 : Heap → Prop) : Int → Int → Heap → Prop :=
  wl [(13, .one (.int .i64)), (14, .one (.int .i64))] (fun (next17 : Int → Int → Heap → Prop) (count18 i19 : Int) (h20 : Heap) =>
  jn [(43, .one .bool)] (fun (x23 : Bool) (h24 : Heap) =>
  brr x23
  (((l4.len : Nat) : Int) ≠ 0 ∧
  ld [.sl] (a7.add 1) h24 fun (v25 : Sl) =>
  jn [(15, .one (.int .i64))] (fun (p32 : Int) (h33 : Heap) =>
  jn [(73, .one .bool)] (fun (x39 : Bool) (h40 : Heap) =>
  brr x39
  (Q false h40)
  (ld [.int .i64, .sl] a7 h40 fun (v41 : Int) (v42 : Sl) =>
  f33_ v41 v42 l4 me5 k6 p32 i19 h40 fun (r43 r44 r45 r46 r47 r48 r49 r50 r51 r52 : Int) (r53 : Sl) (r54 r55 : Int) (r56 r57 : ByteArray) (r58 r59 r60 r61 r62 r63 r64 : Int) (h65 : Heap) =>
  f20_ q3 r43 r44 r45 r46 r47 r48 r49 r50 r51 r52 r53 r54 r55 r56 r57 r58 r59 r60 r61 r62 r63 r64 6 h65 fun (r66 : Sl) (h67 : Heap) =>
  ixS 1 s9 p32 fun (a68 : Addr) =>
  ld [.bool] a68 h67 fun (v69 : Bool) =>
  jn [(13, .one (.int .i64))] (fun (count73 : Int) (h74 : Heap) =>
  jn [(114, .one .bool)] (fun (x76 : Bool) (h77 : Heap) =>
  brr x76
  (Q false h77)
  (next17 count73 (IntKind.i64.wrap (i19 + 1)) h77)) (fun (j75 : Bool → Heap → Prop) =>
  brr (k6 == 0)
  (brr (!((((r66.len : Nat) : Int) == ((l4.len : Nat) : Int)) == (count73 == (IntKind.i64.wrap ((IntKind.i64.wrap (((l4.len : Nat) : Int).tdiv 2)) + 1)))))
  (j75 true h74)
  (brr (decide (k6 > 0))
  (j75 (((r66.len : Nat) : Int) != 0) h74)
  (j75 false h74)))
  (brr (decide (k6 > 0))
  (j75 (((r66.len : Nat) : Int) != 0) h74)
  (j75 false h74)))) (fun (j70 : Int → Heap → Prop) =>
  brr (!v69)
  (ixS 1 s9 p32 fun (a71 : Addr) =>
  st a71 [.bool true] h67 fun (h72 : Heap) =>
  j70 (IntKind.i64.wrap (count18 + 1)) h72)
  (j70 count18 h67)))) (fun (j34 : Bool → Heap → Prop) =>
  brr (decide (k6 > 0))
  (f11_ q3 6 h33 fun (r35 : Sl) (h36 : Heap) =>
  f32_ s9 h36 fun (r37 : Int) (h38 : Heap) =>
  j34 (((r35.len : Nat) : Int) != r37) h38)
  (j34 false h33))) (fun (j26 : Int → Heap → Prop) =>
  brr (decide (i19 < ((v25.len : Nat) : Int)))
  (ld [.sl] (a7.add 1) h24 fun (v27 : Sl) =>
  ixS 3 v27 i19 fun (a28 : Addr) =>
  ld [.int .i64] (a28.add 1) h24 fun (v29 : Int) =>
  f7_ v29 ((l4.len : Nat) : Int) h24 fun (r30 : Int) (h31 : Heap) =>
  j26 r30 h31)
  (j26 (i19.tmod ((l4.len : Nat) : Int)) h24)))
  (j16 h24)) (fun (j21 : Bool → Heap → Prop) =>
  ld [.sl] (a7.add 1) h20 fun (v22 : Sl) =>
  brr (decide (i19 < (IntKind.i64.wrap (((v22.len : Nat) : Int) + ((l4.len : Nat) : Int)))))
  (j21 (decide (count18 < (IntKind.i64.wrap ((IntKind.i64.wrap (((l4.len : Nat) : Int).tdiv 2)) + 1)))) h20)
  (j21 false h20)))
def F_law10_Nodes_counts_of (f7_ : Int → Int → Heap → (Int → Heap → Prop) → Prop) (f11_ : Option Addr → Int → Heap → (Sl → Heap → Prop) → Prop) (f13_ : Option Addr → Heap → (Int → Heap → Prop) → Prop) (f20_ : Option Addr → Int → Int → Int → Int → Int → Int → Int → Int → Int → Int → Sl → Int → Int → ByteArray → ByteArray → Int → Int → Int → Int → Int → Int → Int → Int → Heap → (Sl → Heap → Prop) → Prop) (f30_ : Option Addr → Heap → (Bool → Heap → Prop) → Prop) (f32_ : Sl → Heap → (Int → Heap → Prop) → Prop) (f33_ : Int → Sl → Sl → Int → Int → Int → Int → Heap → (Int → Int → Int → Int → Int → Int → Int → Int → Int → Int → Sl → Int → Int → ByteArray → ByteArray → Int → Int → Int → Int → Int → Int → Int → Heap → Prop) → Prop) (f34_ : Option Addr → Heap → (Int → Int → Heap → Prop) → Prop) (n1 : Int) (n2 : Sl) (q3 : Option Addr) (l4 : Sl) (me5 k6 : Int) (h : Heap) (Q : Bool → Heap → Prop) : Prop :=
  al 24 [.int .i64 n1, .slice n2.ptr n2.len n2.cap] h fun (a7 : Addr) (h8 : Heap) =>
  (2 : Int) ≠ 0 ∧
  mk 4 1 1 (.bool false) ((l4.len : Nat) : Int) ((l4.len : Nat) : Int) h8 fun (s9 : Sl) (h10 : Heap) =>
  jn [(13, .one (.int .i64))] (fun (count14 : Int) (h15 : Heap) =>
  jn [] (fun  (h78 : Heap) =>
  f34_ q3 h78 fun (r79 r80 : Int) (h81 : Heap) =>
  jn [(10, .one .bool)] (fun (x89 : Bool) (h90 : Heap) =>
  Q x89 h90) (fun (j82 : Bool → Heap → Prop) =>
  brr (k6 == 0)
  (f13_ q3 h81 fun (r83 : Int) (h84 : Heap) =>
  brr (r83 != 2)
  (j82 (!true) h84)
  (brr (decide (k6 > 0))
  (f30_ q3 h84 fun (r85 : Bool) (h86 : Heap) =>
  brr (!r85)
  (j82 (!true) h86)
  (brr (k6 == 2)
  (j82 (!(r80 != 1)) h86)
  (j82 (!false) h86)))
  (brr (k6 == 2)
  (j82 (!(r80 != 1)) h84)
  (j82 (!false) h84))))
  (brr (decide (k6 > 0))
  (f30_ q3 h81 fun (r87 : Bool) (h88 : Heap) =>
  brr (!r87)
  (j82 (!true) h88)
  (brr (k6 == 2)
  (j82 (!(r80 != 1)) h88)
  (j82 (!false) h88)))
  (brr (k6 == 2)
  (j82 (!(r80 != 1)) h81)
  (j82 (!false) h81))))) (fun (j16 : Heap → Prop) =>
  F_law10_Nodes_counts.l1 f7_ f11_ f20_ f32_ f33_ q3 l4 me5 k6 Q a7 s9 j16 count14 0 h15)) (fun (j11 : Int → Heap → Prop) =>
  brr (k6 == 0)
  (ixS 1 s9 me5 fun (a12 : Addr) =>
  st a12 [.bool true] h10 fun (h13 : Heap) =>
  j11 1 h13)
  (j11 0 h10))
def F_law10_Nodes_counts (n1 : Int) (n2 : Sl) (q3 : Option Addr) (l4 : Sl) (me5 k6 : Int) (h : Heap) (Q : Bool → Heap → Prop) : Prop := F_law10_Nodes_counts_of F_law10_into F_quorum_Quorum_Tick F_quorum_Quorum_Phase F_quorum_Quorum_Hear F_quorum_Quorum_Holds F_law10_left F_law10_Nodes_answer F_quorum_Quorum_Round n1 n2 q3 l4 me5 k6 h Q
def plan12 : Plan := .s (.r [1, 2, 3, 4, 5]) (.s (.r [1, 2, 3, 4, 5, 11]) (.s (.r [1, 2, 3, 4, 5, 11, 12]) (.s (.r [1, 2, 3, 4, 5, 11, 12, 13]) (.s (.s (.r [1, 2, 3, 4, 5, 11, 12, 13, 27]) (.cj [(13, .one (.int .i64))] [1, 2, 3, 4, 5, 11, 12] (.s (.r [1, 2, 3, 4, 5, 11, 12]) (.r [1, 2, 3, 4, 5, 11, 12, 13])) .z)) (.s (.s (.r [1, 2, 3, 4, 5, 11, 12, 13, 14]) (.bj [] [1, 4] (.l [(13, .one (.int .i64)), (14, .one (.int .i64))] [1, 2, 3, 4, 5, 11, 12] (.s (.s (.rj [(43, .one .bool)] [1, 2, 3, 4, 5, 11, 12, 13, 14]) (.c .z .z)) (.s (.b (.s (.r [1, 2, 3, 4, 5, 11, 12, 13, 14, 15]) (.s (.s (.r [1, 2, 3, 4, 5, 11, 12, 13, 14, 15, 54]) (.cj [(15, .one (.int .i64))] [1, 2, 3, 4, 5, 11, 12, 13, 14] (.r [1, 2, 3, 4, 5, 11, 12, 13, 14, 15]) .z)) (.s (.s (.rj [(73, .one .bool)] [1, 2, 3, 4, 5, 11, 12, 13, 14, 15]) (.c (.s (.r [10]) .z) .z)) (.s (.r [1, 2, 3, 4, 5, 11, 12, 13, 14, 15, 16]) (.s (.s (.r [1, 2, 3, 4, 5, 11, 12, 13, 14, 15, 16, 87]) (.cj [(13, .one (.int .i64))] [1, 2, 3, 4, 5, 11, 12, 14, 16] (.s (.r [1, 2, 3, 4, 5, 11, 12, 13, 14, 16]) (.r [1, 2, 3, 4, 5, 11, 12, 13, 14, 16])) .z)) (.s (.rj [(114, .one .bool)] [1, 2, 3, 4, 5, 11, 12, 13, 14]) (.c (.s (.r [10]) .z) .z)))))))) (.r [1, 2, 3, 4, 5, 11, 12, 13, 14])))))) (.s (.r [1, 4, 18]) (.s (.rj [(10, .one .bool)] []) .z)))))))
theorem F_law10_Nodes_counts.eq (f7_ : Int → Int → Heap → (Int → Heap → Prop) → Prop) (f11_ : Option Addr → Int → Heap → (Sl → Heap → Prop) → Prop) (f13_ : Option Addr → Heap → (Int → Heap → Prop) → Prop) (f20_ : Option Addr → Int → Int → Int → Int → Int → Int → Int → Int → Int → Int → Sl → Int → Int → ByteArray → ByteArray → Int → Int → Int → Int → Int → Int → Int → Int → Heap → (Sl → Heap → Prop) → Prop) (f30_ : Option Addr → Heap → (Bool → Heap → Prop) → Prop) (f32_ : Sl → Heap → (Int → Heap → Prop) → Prop) (f33_ : Int → Sl → Sl → Int → Int → Int → Int → Heap → (Int → Int → Int → Int → Int → Int → Int → Int → Int → Int → Sl → Int → Int → ByteArray → ByteArray → Int → Int → Int → Int → Int → Int → Int → Heap → Prop) → Prop) (f34_ : Option Addr → Heap → (Int → Int → Heap → Prop) → Prop) (n1 : Int) (n2 : Sl) (q3 : Option Addr) (l4 : Sl) (me5 k6 : Int) (h : Heap) (K : Value → Heap → Prop) : F_law10_Nodes_counts_of f7_ f11_ f13_ f20_ f30_ f32_ f33_ f34_ n1 n2 q3 l4 me5 k6 h (fun (r0 : Bool) (h : Heap) => K (.bool r0) h) =
    den Try.prog (fn1 7 (E_law10_into_of f7_) (fn1 11 (E_quorum_Quorum_Tick_of f11_) (fn1 13 (E_quorum_Quorum_Phase_of f13_) (fn1 20 (E_quorum_Quorum_Hear_of f20_) (fn1 30 (E_quorum_Quorum_Holds_of f30_) (fn1 32 (E_law10_left_of f32_) (fn1 33 (E_law10_Nodes_answer_of f33_) (fn1 34 (E_quorum_Quorum_Round_of f34_) noFns)))))))) Try.f12.ntmps plan12 (bodyOf Try.f12) (args0 0 [(.agg #[.int .i64 n1, .slice n2.ptr n2.len n2.cap] : Value), (.pointer q3 : Value), (.slice l4.ptr l4.len l4.cap : Value), (.int .i64 me5 : Value), (.int .i64 k6 : Value)]) h ⟨fun env h => dRes Try.prog Try.f12.results.toList env h K, fun _ _ _ => False, fun env h => dRes Try.prog Try.f12.results.toList env h K⟩ := by kernel_rfl
def E_law10_Nodes_counts_of (f : Int → Sl → Option Addr → Sl → Int → Int → Heap → (Bool → Heap → Prop) → Prop) : List Value → Heap → (Value → Heap → Prop) → Prop
  | [v0, v1, v2, v3, v4], h, K => vAgg v0 fun cs0 => decs [.int .i64, .sl] cs0.toList fun (n1 : Int) (n2 : Sl) =>
  dec1 .ptr v1 fun (q3 : Option Addr) =>
  dec1 .sl v2 fun (l4 : Sl) =>
  dec1 (.int .i64) v3 fun (me5 : Int) =>
  dec1 (.int .i64) v4 fun (k6 : Int) =>
  f n1 n2 q3 l4 me5 k6 h (fun (r0 : Bool) (h : Heap) => K (.bool r0) h)
  | _, _, _ => False
abbrev E_law10_Nodes_counts := E_law10_Nodes_counts_of F_law10_Nodes_counts
theorem E_law10_Nodes_counts.right : IsRight Try.prog 12 E_law10_Nodes_counts := by
  refine isRight fun vs K w hh => ?_
  match vs, hh with
  | [v0, v1, v2, v3, v4], hh =>
    unfold E_law10_Nodes_counts E_law10_Nodes_counts_of at hh
    replace hh := vAgg_sound hh; obtain ⟨cs0, rfl, hh⟩ := hh
    replace hh := decs_cons hh; obtain ⟨n1, l0_0, e0_0, hh⟩ := hh
    replace hh := decs_cons hh; obtain ⟨n2, l0_1, e0_1, hh⟩ := hh
    replace hh := decs_nil hh; obtain ⟨rfl, hh⟩ := hh
    subst e0_1
    have ec0 := toArray_eq e0_0
    subst ec0
    replace hh := dec1_sound hh; obtain ⟨q3, rfl, hh⟩ := hh
    replace hh := dec1_sound hh; obtain ⟨l4, rfl, hh⟩ := hh
    replace hh := dec1_sound hh; obtain ⟨me5, rfl, hh⟩ := hh
    replace hh := dec1_sound hh; obtain ⟨k6, rfl, hh⟩ := hh
    unfold F_law10_Nodes_counts at hh
    exact calls_den (fn1_right ok7 E_law10_into.right (fn1_right ok11 E_quorum_Quorum_Tick.right (fn1_right ok13 E_quorum_Quorum_Phase.right (fn1_right ok20 E_quorum_Quorum_Hear.right (fn1_right ok30 E_quorum_Quorum_Holds.right (fn1_right ok32 E_law10_left.right (fn1_right ok33 E_law10_Nodes_answer.right (fn1_right ok34 E_quorum_Quorum_Round.right noFns_right)))))))) plan12 _ w K Try.func12 (by kernel_rfl) (by kernel_rfl) (Eq.mp (F_law10_Nodes_counts.eq F_law10_into F_quorum_Quorum_Tick F_quorum_Quorum_Phase F_quorum_Quorum_Hear F_quorum_Quorum_Holds F_law10_left F_law10_Nodes_answer F_quorum_Quorum_Round n1 n2 q3 l4 me5 k6 w.heap K) hh)
theorem ok12 : okFn Try.prog 12 = true := by kernel_rfl
end Go.Proofs.Ytigcpkejjjgkeaa.V
namespace Go.Proofs.Ytigcpkejjjgkeaa.V
open Go Go.RowKit
set_option linter.unusedVariables false
set_option maxRecDepth 100000
def F_law10_QuorumCounts.l1 (f11_ : Option Addr → Int → Heap → (Sl → Heap → Prop) → Prop) (f12_ : Int → Sl → Option Addr → Sl → Int → Int → Heap → (Bool → Heap → Prop) → Prop) (Q : Bool → Heap → Prop) (a3 : Addr) (r6 : Sl) (r9 : Int) (r13 : Option Addr) (j25 : Heap → Prop) : Int → Heap → Prop :=
  wl [(7, .one (.int .i64))] (fun (next26 : Int → Heap → Prop) (k27 : Int) (h28 : Heap) =>
  brr (decide (k27 < 3))
  (jn [(60, .one .bool)] (fun (x32 : Bool) (h33 : Heap) =>
  brr x32
  (Q false h33)
  (ld [.int .i64, .sl] a3 h33 fun (v34 : Int) (v35 : Sl) =>
  f12_ v34 v35 r13 r6 r9 k27 h33 fun (r36 : Bool) (h37 : Heap) =>
  brr (!r36)
  (Q false h37)
  (next26 (IntKind.i64.wrap (k27 + 1)) h37))) (fun (j29 : Bool → Heap → Prop) =>
  brr (k27 == 2)
  (f11_ r13 6 h28 fun (r30 : Sl) (h31 : Heap) =>
  j29 (((r30.len : Nat) : Int) != ((r6.len : Nat) : Int)) h31)
  (j29 false h28)))
  (j25 h28))
def F_law10_QuorumCounts_of (f6_ : Int → Heap → (Sl → Heap → Prop) → Prop) (f7_ : Int → Int → Heap → (Int → Heap → Prop) → Prop) (f8_ : Int → Int → Sl → Heap → (Option Addr → Heap → Prop) → Prop) (f9_ : Heap → (Bool → Heap → Prop) → Prop) (f10_ : Option Addr → Int → Int → Int → Int → Sl → Int → Heap → (Sl → Heap → Prop) → Prop) (f11_ : Option Addr → Int → Heap → (Sl → Heap → Prop) → Prop) (f12_ : Int → Sl → Option Addr → Sl → Int → Int → Heap → (Bool → Heap → Prop) → Prop) (f13_ : Option Addr → Heap → (Int → Heap → Prop) → Prop) (n1 : Int) (n2 : Sl) (h : Heap) (Q : Bool → Heap → Prop) : Prop :=
  al 24 [.int .i64 n1, .slice n2.ptr n2.len n2.cap] h fun (a3 : Addr) (h4 : Heap) =>
  ld [.int .i64] (a3.add 0) h4 fun (v5 : Int) =>
  f6_ v5 h4 fun (r6 : Sl) (h7 : Heap) =>
  ld [.sl] (a3.add 1) h7 fun (v8 : Sl) =>
  f7_ ((v8.len : Nat) : Int) ((r6.len : Nat) : Int) h7 fun (r9 : Int) (h10 : Heap) =>
  ixS 1 r6 r9 fun (a11 : Addr) =>
  ld [.int .i64] a11 h10 fun (v12 : Int) =>
  f8_ v12 1 r6 h10 fun (r13 : Option Addr) (h14 : Heap) =>
  jn [(28, .one .bool)] (fun (x18 : Bool) (h19 : Heap) =>
  brr x18
  (Q false h19)
  (al 5 [.int .u8 111, .int .u8 119, .int .u8 110] h19 fun (a20 : Addr) (h21 : Heap) =>
  frz (some a20) h21 fun (h22 : Heap) =>
  f10_ r13 77 77 3 4 ⟨(some a20), 3, 3⟩ 6 h22 fun (r23 : Sl) (h24 : Heap) =>
  brr (((r6.len : Nat) : Int) == 1)
  (Q (((r23.len : Nat) : Int) == 1) h24)
  (brr (((r23.len : Nat) : Int) != (IntKind.i64.wrap (((r6.len : Nat) : Int) - 1)))
  (Q false h24)
  (jn [] (fun  (h38 : Heap) =>
  f13_ r13 h38 fun (r39 : Int) (h40 : Heap) =>
  Q (r39 == 3) h40) (fun (j25 : Heap → Prop) =>
  F_law10_QuorumCounts.l1 f11_ f12_ Q a3 r6 r9 r13 j25 0 h24))))) (fun (j15 : Bool → Heap → Prop) =>
  brr r13.isNone
  (j15 true h14)
  (f9_ h14 fun (r16 : Bool) (h17 : Heap) =>
  j15 (!r16) h17))
def F_law10_QuorumCounts (n1 : Int) (n2 : Sl) (h : Heap) (Q : Bool → Heap → Prop) : Prop := F_law10_QuorumCounts_of F_law10_copiesOf F_law10_into F_quorum_New F_law10_wakes F_quorum_Quorum_Start F_quorum_Quorum_Tick F_law10_Nodes_counts F_quorum_Quorum_Phase n1 n2 h Q
def plan3 : Plan := .s (.r [1]) (.s (.r [1, 3]) (.s (.r [1, 3, 4]) (.s (.r [1, 3, 4, 5]) (.s (.s (.rj [(28, .one .bool)] [1, 3, 4, 5]) (.c (.s (.r [2]) .z) .z)) (.s (.r [1, 3, 4, 5, 6]) (.s (.s (.r [1, 3, 4, 5, 6, 37]) (.c (.s (.r [2]) .z) .z)) (.s (.s (.r [1, 3, 4, 5, 46]) (.c (.s (.r [2]) .z) .z)) (.s (.s (.r [1, 3, 4, 5, 7]) (.bj [] [5] (.l [(7, .one (.int .i64))] [1, 3, 4, 5] (.s (.s (.r [1, 3, 4, 5, 7, 48]) (.c .z .z)) (.s (.b (.s (.s (.rj [(60, .one .bool)] [1, 3, 4, 5, 7]) (.c (.s (.r [2]) .z) .z)) (.s (.r [1, 3, 4, 5, 7, 67]) (.c (.s (.r [2]) .z) .z)))) (.r [1, 3, 4, 5, 7])))))) (.s (.r [2]) .z)))))))))
theorem F_law10_QuorumCounts.eq (f6_ : Int → Heap → (Sl → Heap → Prop) → Prop) (f7_ : Int → Int → Heap → (Int → Heap → Prop) → Prop) (f8_ : Int → Int → Sl → Heap → (Option Addr → Heap → Prop) → Prop) (f9_ : Heap → (Bool → Heap → Prop) → Prop) (f10_ : Option Addr → Int → Int → Int → Int → Sl → Int → Heap → (Sl → Heap → Prop) → Prop) (f11_ : Option Addr → Int → Heap → (Sl → Heap → Prop) → Prop) (f12_ : Int → Sl → Option Addr → Sl → Int → Int → Heap → (Bool → Heap → Prop) → Prop) (f13_ : Option Addr → Heap → (Int → Heap → Prop) → Prop) (n1 : Int) (n2 : Sl) (h : Heap) (K : Value → Heap → Prop) : F_law10_QuorumCounts_of f6_ f7_ f8_ f9_ f10_ f11_ f12_ f13_ n1 n2 h (fun (r0 : Bool) (h : Heap) => K (.bool r0) h) =
    den Try.prog (fn1 6 (E_law10_copiesOf_of f6_) (fn1 7 (E_law10_into_of f7_) (fn1 8 (E_quorum_New_of f8_) (fn1 9 (E_law10_wakes_of f9_) (fn1 10 (E_quorum_Quorum_Start_of f10_) (fn1 11 (E_quorum_Quorum_Tick_of f11_) (fn1 12 (E_law10_Nodes_counts_of f12_) (fn1 13 (E_quorum_Quorum_Phase_of f13_) noFns)))))))) Try.f3.ntmps plan3 (bodyOf Try.f3) (args0 0 [(.agg #[.int .i64 n1, .slice n2.ptr n2.len n2.cap] : Value)]) h ⟨fun env h => dRes Try.prog Try.f3.results.toList env h K, fun _ _ _ => False, fun env h => dRes Try.prog Try.f3.results.toList env h K⟩ := by kernel_rfl
def E_law10_QuorumCounts_of (f : Int → Sl → Heap → (Bool → Heap → Prop) → Prop) : List Value → Heap → (Value → Heap → Prop) → Prop
  | [v0], h, K => vAgg v0 fun cs0 => decs [.int .i64, .sl] cs0.toList fun (n1 : Int) (n2 : Sl) =>
  f n1 n2 h (fun (r0 : Bool) (h : Heap) => K (.bool r0) h)
  | _, _, _ => False
abbrev E_law10_QuorumCounts := E_law10_QuorumCounts_of F_law10_QuorumCounts
theorem E_law10_QuorumCounts.at (f : Int → Sl → Heap → (Bool → Heap → Prop) → Prop) (n1 : Int) (n2 : Sl) (h : Heap) (K : Value → Heap → Prop) : E_law10_QuorumCounts_of f [.agg ([.int .i64 n1, .slice n2.ptr n2.len n2.cap] : List Value).toArray] h K = f n1 n2 h (fun (r0 : Bool) (h : Heap) => K (.bool r0) h) := rfl
theorem E_law10_QuorumCounts.right : IsRight Try.prog 3 E_law10_QuorumCounts := by
  refine isRight fun vs K w hh => ?_
  match vs, hh with
  | [v0], hh =>
    unfold E_law10_QuorumCounts E_law10_QuorumCounts_of at hh
    replace hh := vAgg_sound hh; obtain ⟨cs0, rfl, hh⟩ := hh
    replace hh := decs_cons hh; obtain ⟨n1, l0_0, e0_0, hh⟩ := hh
    replace hh := decs_cons hh; obtain ⟨n2, l0_1, e0_1, hh⟩ := hh
    replace hh := decs_nil hh; obtain ⟨rfl, hh⟩ := hh
    subst e0_1
    have ec0 := toArray_eq e0_0
    subst ec0
    unfold F_law10_QuorumCounts at hh
    exact calls_den (fn1_right ok6 E_law10_copiesOf.right (fn1_right ok7 E_law10_into.right (fn1_right ok8 E_quorum_New.right (fn1_right ok9 E_law10_wakes.right (fn1_right ok10 E_quorum_Quorum_Start.right (fn1_right ok11 E_quorum_Quorum_Tick.right (fn1_right ok12 E_law10_Nodes_counts.right (fn1_right ok13 E_quorum_Quorum_Phase.right noFns_right)))))))) plan3 _ w K Try.func3 (by kernel_rfl) (by kernel_rfl) (Eq.mp (F_law10_QuorumCounts.eq F_law10_copiesOf F_law10_into F_quorum_New F_law10_wakes F_quorum_Quorum_Start F_quorum_Quorum_Tick F_law10_Nodes_counts F_quorum_Quorum_Phase n1 n2 w.heap K) hh)
theorem ok3 : okFn Try.prog 3 = true := by kernel_rfl
end Go.Proofs.Ytigcpkejjjgkeaa.V
/- Counting alone: QuorumCounts. -/
namespace Go.Proofs.Ytigcpkejjjgkeaa.V
open Go Go.RowKit
set_option linter.unusedVariables false
set_option linter.unusedSimpArgs false
abbrev St3 := Int × Int × Int
def stC (x : St3) : List Value := [.int .i64 x.1, .int .i64 x.2.1, .int .i64 x.2.2]
def bo1 (b : Bool) : List Value := [.bool b]
theorem bo1_len (b : Bool) : (bo1 b).length = 1 := rfl
theorem bo1_one (b : Bool) : (bo1 b).all oneV = true := rfl
theorem mk_bools (n : Nat) : mkCells (.bool false) ((n : Int).toNat * 1) = (List.replicate n false).flatMap bo1 ++ [] := by
  rw [List.append_nil, Int.toNat_natCast, Nat.mul_one]
  unfold mkCells
  induction n with
  | zero => simp
  | succ n ih =>
    rw [List.replicate_succ, List.flatMap_cons, ← ih]
    apply List.ext_getElem
    · simp [bo1]
    · intro i h1 h2
      cases i <;> simp [bo1, Value.cells]
theorem rep_map : ∀ l : List Int, List.replicate l.length false = l.map fun c => decide (c ∈ ([] : List Int))
  | [] => rfl
  | x :: l => by rw [List.length_cons, List.replicate_succ, List.map_cons, rep_map l]; simp
section
variable {h0 h : Heap} {L : List Res} {p : Nat} {q : QS} {m : Mg}
theorem F_law10_Nodes_Steps0.is {n1 i : Int} {n2 : Sl} {xs : List St3} {Q : Int → Heap → Prop} (Vo : View h0 3 (En stC) n2 xs) (hi : 0 ≤ i) (O : Sat h0 h L) (k : ∀ x h', Sat h0 h' L → Q x h') : F_law10_Nodes_Steps0 n1 n2 i h Q := by
  rw [F_law10_Nodes_Steps0.eq_1, F_law10_Nodes_Steps0_of.eq_1]
  refine O.al fun a4 h O => ?_
  refine O.ld 0 rfl (ldL_s (ldL_n ?_))
  rw [Vo.len]
  refine brr_p (fun hlt => ?_) (fun hlt => k _ _ (O.sel [] 1 rfl (Nat.le_add_left _ _)))
  refine O.ld 0 rfl (ldL_s (ldL_n ?_))
  refine (Vo.kept O.kept).ix hi hlt fun a cs x hx hlen hR hc => ?_
  have e : cs = stC x := hR
  subst e
  refine ld_drop hc 2 (ldL_c (ldL_n ?_))
  exact k _ _ (O.sel [] 1 rfl (Nat.le_add_left _ _))
theorem F_law10_left.is {s : Sl} {bs : List Bool} {Q : Int → Heap → Prop} (V : View h 1 (En bo1) s bs) (hl : bs.length ≤ 1000000) (k : Q ((bs.count false : Nat) : Int) h) : F_law10_left s h Q := by
  rw [F_law10_left.eq_1, F_law10_left_of.eq_1]
  refine jn1 (fun n h' => h' = h ∧ n = ((bs.count false : Nat) : Int)) (fun n h' e => by obtain ⟨rfl, rfl⟩ := e; exact k) fun j hj => ?_
  rw [F_law10_left.l1.eq_1]
  refine wl2 (k := .int .i64) (l := .int .i64) (fun (m : Nat) (n i : Int) (h' : Heap) => h' = h ∧ i + m = bs.length ∧ 0 ≤ i ∧ n = (((bs.take i.toNat).count false : Nat) : Int)) ?_ (m := bs.length) ⟨rfl, by omega, by omega, by simp⟩
  rintro m (n : Int) (i : Int) h' next hnx ⟨rfl, him, hi0, hn⟩
  rw [V.len]
  refine brr_p (fun hlt => ?_) (fun hlt => hj _ _ ⟨rfl, by rw [hn, List.take_of_length_le (by omega)]⟩)
  obtain ⟨b, hb⟩ : ∃ b, bs[i.toNat]? = some b := ⟨_, List.getElem?_eq_getElem (by omega)⟩
  refine V.get1 (k := .bool) hi0 hb (fun x => x) (fun _ => rfl) ?_
  obtain ⟨hb1, hb2⟩ := List.getElem?_eq_some_iff.1 hb
  have et : (bs.take (i + 1).toNat).count false = (bs.take i.toNat).count false + (if b = false then 1 else 0) := by
    rw [show (i + 1).toNat = i.toNat + 1 by omega, List.take_succ_eq_append_getElem hb1, List.count_append, hb2]
    cases b <;> rfl
  have hc : (bs.take i.toNat).count false ≤ 1000000 := Nat.le_trans List.count_le_length (by rw [List.length_take]; omega)
  refine jn1 (fun x h2 => h2 = h' ∧ x = (((bs.take (i + 1).toNat).count false : Nat) : Int)) ?_ ?_
  · rintro x h2 ⟨rfl, rfl⟩
    rw [wrap64 (by omega) (by omega)]
    exact hnx (m - 1) _ _ _ (by omega) ⟨rfl, by omega, by omega, rfl⟩
  · intro j2 hj2
    cases b with
    | true =>
      refine brr_ff rfl (hj2 _ _ ⟨rfl, ?_⟩)
      rw [et]; simpa using hn
    | false =>
      refine brr_tt rfl ?_
      rw [wrap64 (by omega) (by omega)]
      refine hj2 _ _ ⟨rfl, ?_⟩
      rw [et, hn]; rfl
theorem F_law10_Nodes_answer.is {n1 me k pp i c nd : Int} {n2 sc : Sl} {l : List Int} {xs : List St3} {Q : Int → Int → Int → Int → Int → Int → Int → Int → Int → Int → Sl → Int → Int → ByteArray → ByteArray → Int → Int → Int → Int → Int → Int → Int → Heap → Prop} (Vo : View h0 3 (En stC) n2 xs) (hi : 0 ≤ i) (h0m : 0 ≤ me) (hme : l[me.toNat]? = some nd) (h0p : 0 ≤ pp) (hp7 : pp < 7) (hpp : l[pp.toNat]? = some c) (hk0 : 0 ≤ k) (hk3 : k < 3)
    (O : Sat h0 h (buf 1 i64c sc l :: L)) (kk : ∀ (m : Mg) h', Ans nd k c m → Sat h0 h' (buf 1 u8 m.v m.b :: buf 1 i64c sc l :: L) → Q m.kind m.frm m.to m.shard m.epoch m.te m.ts m.round m.span m.seen m.v m.peer m.num m.name m.other m.amount m.life m.id m.op m.client m.state m.bad h') : F_law10_Nodes_answer n1 n2 sc me k pp i h Q := by
  rw [F_law10_Nodes_answer.eq_1, F_law10_Nodes_answer_of.eq_1]
  refine O.al fun a8 h O => ?_
  refine O.al fun a10 h O => ?_
  refine (O.view 2 i64c_len (by simp) rfl).1.getP h0p hpp fun b1 hb1 => ld_are (hb1 (O.view 2 i64c_len (by simp) rfl).1) (ldL_c (ldL_n ?_))
  refine (O.view 2 i64c_len (by simp) rfl).1.getP h0m hme fun b2 hb2 => ld_are (hb2 (O.view 2 i64c_len (by simp) rfl).1) (ldL_c (ldL_n ?_))
  refine O.al fun a16 h O => ?_
  refine ⟨hb1 (O.view 3 i64c_len (by simp) rfl).1, hb2 (O.view 3 i64c_len (by simp) rfl).1, ?_⟩
  refine O.st 0 rfl (by simp) rfl fun h O => ?_
  dsimp only [V.put, List.set] at O
  refine jn0 (fun h' => ∃ m : Mg, Ans nd k c m ∧ Sat h0 h' (buf 1 u8 m.v m.b :: own a16 (mgC m) :: own a10 [.int .i64 0, .int .i64 0, .int .i64 0, .int .i64 0, .int .u64 0, .int .u64 0, .int .u64 0, .int .u64 0, .int .i64 0, .int .u64 0, .slice none 0 0, .int .i64 0, .int .u64 0, .string (⟨#[]⟩ : ByteArray), .string (⟨#[]⟩ : ByteArray), .int .u64 0, .int .u64 0, .int .u64 0, .int .i64 0, .int .i64 0, .int .i64 0, .int .i64 0] :: own a8 [.int .i64 n1, .slice n2.ptr n2.len n2.cap] :: buf 1 i64c sc l :: L)) ?_ ?_
  · clear O
    rintro h ⟨m, am, O⟩
    refine O.ld 1 rfl ?_
    unfold mgC
    repeat (first | (with_reducible refine ldL_n ?_) | refine ldL_s ?_ | refine ldL_c ?_)
    refine O.st 2 rfl (by simp) rfl fun h O => ?_
    dsimp only [V.put, List.set] at O
    refine O.ld 2 rfl ?_
    repeat (first | (with_reducible refine ldL_n ?_) | refine ldL_s ?_ | refine ldL_c ?_)
    exact kk m _ am (O.sel [0, 4] 5 rfl (Nat.le_add_left _ _))
  intro j hj
  refine brr_eq (fun k0 => ?_) (fun k0 => ?_)
  · refine st_ad (b := a16) (o := 4) rfl ?_
    refine O.st 0 rfl (by simp) rfl fun h O => ?_
    dsimp only [V.put, List.set] at O
    refine O.ld 2 rfl (ldL_c (ldL_s (ldL_n ?_)))
    refine F_law10_Nodes_Steps0.is Vo hi O fun x h O => ?_
    refine F_law10_into.is (by omega) (by omega) ?_
    refine st_ad (b := a16) (o := 5) rfl ?_
    refine O.st 0 rfl (by simp) rfl fun h O => ?_
    dsimp only [V.put, List.set] at O
    refine O.al fun a28 h O => ?_
    refine st_ad (b := a16) (o := 10) rfl ?_
    refine O.st 1 rfl (by simp) rfl fun h O => ?_
    dsimp only [V.put, List.set] at O
    have e8 : IntKind.u8.wrap pp = ((UInt8.ofNat pp.toNat).toNat : Int) := by
      rw [wrapu8 h0p (by omega)]
      simp
      omega
    rw [e8] at O
    have O := lit_buf O
    exact hj _ ⟨{ mgz with kind := 2, frm := c, to := nd, shard := 1, epoch := 77, te := IntKind.u64.wrap (x % 5), ts := IntKind.u64.wrap pp, v := ⟨some (pt a28 0), 1, 1⟩, b := [UInt8.ofNat pp.toNat] }, ⟨rfl, rfl, rfl, by show (1 : Nat) ≤ _; decide, fun _ => ⟨rfl, rfl⟩, fun h => by omega, fun h => by omega⟩, O⟩
  refine jn_go ?_
  refine brr_eq (fun k1 => ?_) (fun k1 => ?_)
  · refine st_ad (b := a16) (o := 0) rfl ?_
    refine O.st 0 rfl (by simp) rfl fun h O => ?_
    dsimp only [V.put, List.set] at O
    refine st_ad (b := a16) (o := 5) rfl ?_
    refine O.st 0 rfl (by simp) rfl fun h O => ?_
    dsimp only [V.put, List.set] at O
    have O := O.nil_buf (sz := 1) (enc := u8)
    exact hj _ ⟨{ mgz with kind := 5, frm := c, to := nd, shard := 1, te := 77, ts := 1 }, ⟨rfl, rfl, rfl, by show (0 : Nat) ≤ _; decide, fun h => by omega, fun _ => ⟨rfl, rfl, rfl⟩, fun h => by omega⟩, O⟩
  refine jn_go ?_
  refine brr_tt (by simp; omega) ?_
  refine st_ad (b := a16) (o := 0) rfl ?_
  refine O.st 0 rfl (by simp) rfl fun h O => ?_
  dsimp only [V.put, List.set] at O
  refine st_ad (b := a16) (o := 4) rfl ?_
  refine O.st 0 rfl (by simp) rfl fun h O => ?_
  dsimp only [V.put, List.set] at O
  refine st_ad (b := a16) (o := 7) rfl ?_
  refine O.st 0 rfl (by simp) rfl fun h O => ?_
  dsimp only [V.put, List.set] at O
  have O := O.nil_buf (sz := 1) (enc := u8)
  exact hj _ ⟨{ mgz with kind := 7, frm := c, to := nd, shard := 1, epoch := 77, round := 1 }, ⟨rfl, rfl, rfl, by show (0 : Nat) ≤ _; decide, fun h => by omega, fun h => by omega, fun _ => ⟨rfl, rfl, rfl⟩⟩, O⟩
theorem F_law10_Nodes_counts.is {n1 me k nd : Int} {n2 sc : Sl} {l : List Int} {xs : List St3} {Q : Bool → Heap → Prop} (hn : l.Nodup) (h3 : 3 ≤ l.length) (h7 : l.length ≤ 7) (h0m : 0 ≤ me) (hme : l[me.toNat]? = some nd) (hk0 : 0 ≤ k) (hk3 : k < 3) (Vo : View h0 3 (En stC) n2 xs) (hx : xs.length ≤ 4611686018427387904)
    (st : q.StK nd l k (if k = 0 then [nd] else [])) (O : Sat h0 h (quR p q :: buf 1 i64c sc l :: L))
    (kk : ∀ (q : QS) S h', q.StK nd l k S → need l ≤ S.length → Sat h0 h' (quR p q :: buf 1 i64c sc l :: L) → Q true h') : F_law10_Nodes_counts n1 n2 (some (pt p 0)) sc me k h Q := by
  rw [F_law10_Nodes_counts.eq_1, F_law10_Nodes_counts_of.eq_1]
  refine O.al fun a7 h O => ?_
  refine ⟨by decide, ?_⟩
  have hsl : sc.len = l.length := (O.view 2 i64c_len (by simp) rfl).1.len
  rw [hsl]
  refine O.mk_buf (by omega) (by omega) (by omega) fun b9 h O => ?_
  rw [mk_bools] at O
  have O := (O.own_buf (k := 0) (sz := 1) rfl).bufsI
  rw [List.length_replicate, Nat.add_zero] at O
  rw [Int.toNat_natCast]
  obtain ⟨s9, hs9⟩ : ∃ s : Sl, s = ⟨some (pt b9 0), l.length, l.length⟩ := ⟨_, rfl⟩
  rw [← hs9] at O ⊢
  rw [rep_map] at O
  have hmem : nd ∈ l := List.mem_of_getElem? hme
  have hme2 := (List.getElem?_eq_some_iff.1 hme).1
  have hnd : need l = l.length / 2 + 1 := rfl
  refine jn1 (fun count h' => ∃ S, S = (if k = 0 then [nd] else []) ∧ count = ((S.length : Nat) : Int) ∧ Sat h0 h' (buf 1 bo1 s9 (l.map fun c => decide (c ∈ S)) :: own a7 [.int .i64 n1, .slice n2.ptr n2.len n2.cap] :: quR p q :: buf 1 i64c sc l :: L)) ?_ ?_
  case refine_2 =>
    intro j hj
    refine brr_eq (fun k0 => ?_) (fun k0 => hj _ _ ⟨[], by rw [if_neg k0], rfl, O⟩)
    refine O.put1 bo1_len bo1_one h0m (by rw [List.length_map]; omega) true rfl fun h O => ?_
    rw [mark_put hn hme] at O
    exact hj _ _ ⟨[nd], by rw [if_pos k0], rfl, O⟩
  clear O
  rintro count h ⟨S, hS, hcnt, O⟩
  rw [← hS] at st
  refine jn0 (fun h' => ∃ (q : QS) (S : List Int), q.StK nd l k S ∧ need l ≤ S.length ∧ Sat h0 h' (buf 1 bo1 s9 (l.map fun c => decide (c ∈ S)) :: own a7 [.int .i64 n1, .slice n2.ptr n2.len n2.cap] :: quR p q :: buf 1 i64c sc l :: L)) ?_ ?_
  · clear O st hS hcnt
    rintro h ⟨q, S, st, hle, O⟩
    have O := O.sel [2, 3] 4 rfl (Nat.le_add_left _ _)
    refine F_quorum_Quorum_Round.is O ?_
    refine jn1 (fun z h' => z = true ∧ h = h') (fun z h' hh => by obtain ⟨rfl, rfl⟩ := hh; exact kk q S _ st hle O) fun j hj => ?_
    refine brr_eq (fun k0 => ?_) (fun k0 => ?_)
    · subst k0
      refine F_quorum_Quorum_Phase.is O ?_
      rw [StK.phase0 st hle]
      refine brr_ff rfl ?_
      refine brr_ff rfl ?_
      refine brr_ff rfl ?_
      exact hj _ _ ⟨rfl, rfl⟩
    · refine brr_tt (by simp; omega) ?_
      refine F_quorum_Quorum_Holds.is O ?_
      rw [StK.holds (by omega) st hle]
      refine brr_ff rfl ?_
      refine brr_eq (fun k2 => ?_) (fun k2 => hj _ _ ⟨rfl, rfl⟩)
      subst k2
      rw [StK.done st hle]
      exact hj _ _ ⟨rfl, rfl⟩
  intro j16 hj16
  rw [F_law10_Nodes_counts.l1.eq_1]
  have hS0 : S.Nodup ∧ (∀ x ∈ S, x ∈ l) ∧ S.length ≤ need l := by
    rw [hS, hnd]
    split
    · exact ⟨by simp, fun x hx => by rw [List.mem_singleton.1 hx]; exact hmem, by simp⟩
    · exact ⟨List.nodup_nil, fun x hx => absurd hx List.not_mem_nil, by simp⟩
  clear hS
  refine wl2 (k := .int .i64) (l := .int .i64) (fun (m : Nat) (count i : Int) (h' : Heap) => i + m = xs.length + l.length ∧ 0 ≤ i ∧ ∃ (q : QS) (S : List Int), q.StK nd l k S ∧ count = ((S.length : Nat) : Int) ∧ (S.Nodup ∧ (∀ x ∈ S, x ∈ l) ∧ S.length ≤ need l) ∧ (∀ (j : Nat) (c : Int), xs.length ≤ j → (j : Int) < i → l[j % l.length]? = some c → c ∈ S) ∧ Sat h0 h' (buf 1 bo1 s9 (l.map fun c => decide (c ∈ S)) :: own a7 [.int .i64 n1, .slice n2.ptr n2.len n2.cap] :: quR p q :: buf 1 i64c sc l :: L)) ?_ (m := xs.length + l.length) ⟨by omega, by omega, q, S, st, hcnt, hS0, fun j c h1 h2 => by omega, O⟩
  clear O st hcnt hS0
  rintro mm (count : Int) (i : Int) h next hnx ⟨him, hi0, q, S, st, hcnt, ⟨sn, ss, sl⟩, cov, O⟩
  have ewn : IntKind.i64.wrap (IntKind.i64.wrap (((l.length : Nat) : Int).tdiv 2) + 1) = ((need l : Nat) : Int) := by
    rw [Int.tdiv_eq_ediv_of_nonneg (by omega), wrap64 (x := ((l.length : Nat) : Int) / 2) (by omega) (by omega), wrap64 (by omega) (by omega), hnd]
    omega
  rw [hsl]
  rw [ewn]
  refine jn1 (fun z h' => h = h' ∧ z = decide (i < xs.length + l.length ∧ count < (need l : Int))) ?_ ?_
  case refine_2 =>
    intro j hj
    refine O.ld 1 rfl (ldL_s (ldL_n ?_))
    rw [Vo.len, wrap64 (by omega) (by omega)]
    refine brr_p (fun hlt => ?_) (fun hlt => ?_)
    · exact hj _ _ ⟨rfl, by simp [hlt]⟩
    · exact hj _ _ ⟨rfl, by simp; intro h; omega⟩
  rintro z h' ⟨rfl, rfl⟩
  refine brr_p (fun hg => ?_) (fun hg => ?_)
  case refine_2 =>
    refine hj16 _ ⟨q, S, st, ?_, O⟩
    rcases Nat.lt_or_ge S.length (need l) with hlt | hge
    · exfalso
      have hge : ¬ (i < xs.length + l.length) := fun h => hg ⟨h, by omega⟩
      have hall : ∀ x ∈ l, x ∈ S := by
        intro x hx
        obtain ⟨r, hr⟩ := List.getElem?_of_mem hx
        have hr2 := (List.getElem?_eq_some_iff.1 hr).1
        have e : (xs.length + (r + l.length - xs.length % l.length) % l.length) % l.length = r := by
          have hm := Nat.mod_lt xs.length (show 0 < l.length by omega)
          obtain ⟨qq, hq⟩ : ∃ qq, xs.length = l.length * qq + xs.length % l.length := ⟨xs.length / l.length, (Nat.div_add_mod _ _).symm⟩
          rw [Nat.add_mod_mod]
          rw [show xs.length + (r + l.length - xs.length % l.length) = r + l.length * (qq + 1) by rw [Nat.mul_add]; omega]
          rw [Nat.add_mul_mod_self_left, Nat.mod_eq_of_lt hr2]
        have hm2 := Nat.mod_lt (r + l.length - xs.length % l.length) (show 0 < l.length by omega)
        exact cov (xs.length + (r + l.length - xs.length % l.length) % l.length) x (by omega) (by omega) (by rw [e]; exact hr)
      have := nodup_sub_len hn hall
      omega
    · exact hge
  obtain ⟨hg1, hg2⟩ := hg
  have hlt : S.length < need l := by omega
  refine ⟨by omega, ?_⟩
  refine O.ld 1 rfl (ldL_s (ldL_n ?_))
  have m0 := fun x : Int => Int.emod_nonneg x (show ((l.length : Nat) : Int) ≠ 0 by omega)
  have m1 := fun x : Int => Int.emod_lt_of_pos x (show (0 : Int) < ((l.length : Nat) : Int) by omega)
  refine jn1 (fun (pp : Int) h' => h = h' ∧ 0 ≤ pp ∧ pp < l.length ∧ ((xs.length : Int) ≤ i → pp = i % (l.length : Int))) ?_ ?_
  case refine_2 =>
    intro j hj
    rw [Vo.len]
    refine brr_p (fun hlt2 => ?_) (fun hlt2 => ?_)
    · refine O.ld 1 rfl (ldL_s (ldL_n ?_))
      refine (Vo.kept O.kept).ix hi0 hlt2 fun a cs x hx hlen hR hc => ?_
      have e : cs = stC x := hR
      subst e
      refine ld_drop hc 1 (ldL_c (ldL_n ?_))
      refine F_law10_into.is (by omega) (by omega) ?_
      exact hj _ _ ⟨rfl, m0 _, m1 _, fun h => by omega⟩
    · rw [Int.tmod_eq_emod_of_nonneg hi0]
      exact hj _ _ ⟨rfl, m0 _, m1 _, fun _ => rfl⟩
  rintro (pp : Int) h' ⟨rfl, hp0, hp1, hpi⟩
  obtain ⟨c, hc⟩ : ∃ c, l[pp.toNat]? = some c := ⟨_, List.getElem?_eq_getElem (by omega)⟩
  have hcm : c ∈ l := List.mem_of_getElem? hc
  have cov2 : ∀ (j : Nat) (c : Int), xs.length ≤ j → (j : Int) < i + 1 → l[j % l.length]? = some c → c ∈ putK S (l.getD pp.toNat 0) := by
    intro j x h1 h2 hx
    have hd : l.getD pp.toNat 0 = c := by rw [List.getD_eq_getElem?_getD, hc]; rfl
    rw [hd]
    by_cases hj : (j : Int) < i
    · have := cov j x h1 hj hx
      unfold putK
      split
      · exact this
      · exact List.mem_append.2 (.inl this)
    · have e1 := hpi (by omega)
      have e2 : j % l.length = pp.toNat := by
        have : ((j % l.length : Nat) : Int) = (j : Int) % (l.length : Int) := by simp
        have : (j : Int) = i := by omega
        rw [← this] at e1
        omega
      rw [e2, hc] at hx
      rw [← Option.some.inj hx]
      exact putK_mem
  have hd : l.getD pp.toNat 0 = c := by rw [List.getD_eq_getElem?_getD, hc]; rfl
  rw [hd] at cov2
  have base := StK.base st
  refine jn1 (fun z h' => z = false ∧ Sat h0 h' (buf 1 bo1 s9 (l.map fun c => decide (c ∈ S)) :: own a7 [.int .i64 n1, .slice n2.ptr n2.len n2.cap] :: quR p q :: buf 1 i64c sc l :: L)) ?_ ?_
  case refine_2 =>
    intro j hj
    refine brr_p (fun kp => ?_) (fun kp => hj _ _ ⟨rfl, O⟩)
    obtain ⟨e1, e2⟩ := tickK kp st hlt
    refine F_quorum_Quorum_Tick.is base.ok (O.sel [2, 0, 1, 3] 4 rfl (Nat.le_add_left _ _)) fun s1 h O => ?_
    rw [e1] at O
    refine F_law10_left.is (O.view 2 bo1_len (by simp) rfl).1 (by rw [List.length_map]; omega) ?_
    refine hj _ _ ⟨?_, O.sel [2, 3, 1, 4] 5 rfl (Nat.le_add_left _ _)⟩
    rw [msgs_len O, e2, left_len]
    simp
  rintro z h' ⟨rfl, O⟩
  refine brr_ff rfl ?_
  refine O.ld 1 rfl (ldL_c (ldL_s (ldL_n ?_)))
  refine F_law10_Nodes_answer.is Vo hi0 h0m hme hp0 (by omega) hc hk0 hk3 (O.sel [3, 0, 1, 2] 4 rfl (Nat.le_add_left _ _)) fun m h am O => ?_
  obtain ⟨st2, ho⟩ := hearK hk0 hk3 st hlt hcm am
  refine F_quorum_Quorum_Hear.is base.ok am.b (fun h O => (O.view 0 u8_len (by simp) rfl).1) (O.sel [4, 0, 1, 2, 3] 5 rfl (Nat.le_add_left _ _)) fun s1 h O => ?_
  have O : Sat h0 h (buf 1 bo1 s9 (l.map fun c => decide (c ∈ S)) :: own a7 [.int .i64 n1, .slice n2.ptr n2.len n2.cap] :: quR p (q.hear m 6).1 :: buf 1 i64c sc l :: msgsR s1 (q.hear m 6).2 :: L) := O.sel [4, 5, 1, 3, 0] 6 rfl (Nat.le_add_left _ _)
  have hlen : s1.len = (q.hear m 6).2.length := msgs_len (O.sel [4] 5 rfl (Nat.le_add_left _ _))
  rw [ho] at hlen
  have hbp : (l.map fun c => decide (c ∈ S))[pp.toNat]? = some (decide (c ∈ S)) := by rw [List.getElem?_map, hc]; rfl
  refine (O.view 0 bo1_len (by simp) rfl).1.get1 (k := .bool) hp0 hbp (fun x => x) (fun _ => rfl) ?_
  refine jn1 (fun (z : Int) h' => z = (((putK S c).length : Nat) : Int) ∧ Sat h0 h' (buf 1 bo1 s9 (l.map fun x => decide (x ∈ putK S c)) :: own a7 [.int .i64 n1, .slice n2.ptr n2.len n2.cap] :: quR p (q.hear m 6).1 :: buf 1 i64c sc l :: msgsR s1 (q.hear m 6).2 :: L)) ?_ ?_
  case refine_2 =>
    intro j hj
    by_cases hcs : c ∈ S
    · refine brr_ff (by simp [hcs]) ?_
      refine hj _ _ ⟨by rw [putK_in hcs, hcnt], ?_⟩
      rw [putK_in hcs]
      exact O
    · refine brr_tt (by simp [hcs]) ?_
      refine O.put1 bo1_len bo1_one hp0 (by rw [List.length_map]; omega) true rfl fun h O => ?_
      rw [mark_put hn hc] at O
      refine hj _ _ ⟨?_, O⟩
      rw [hcnt, putK_len hcs, wrap64 (by omega) (by omega)]
      omega
  clear O
  rintro z h ⟨rfl, O⟩
  have hpl : (putK S c).length ≤ need l := by
    by_cases hcs : c ∈ S
    · rw [putK_in hcs]; omega
    · rw [putK_len hcs]; omega
  refine jn1 (fun z h' => z = false ∧ h = h') ?_ ?_
  · rintro z h' ⟨rfl, rfl⟩
    refine brr_ff rfl ?_
    rw [wrap64 (by omega) (by omega)]
    refine hnx (mm - 1) _ _ _ (by omega) ⟨by omega, by omega, _, putK S c, st2, rfl, ⟨putK_nodup sn, fun x hx => ?_, hpl⟩, cov2, O.sel [0, 1, 2, 3] 5 rfl (Nat.le_add_left _ _)⟩
    rcases putK_sub hx with hx | rfl
    · exact ss x hx
    · exact hcm
  · intro j hj
    rw [hlen]
    refine brr_eq (fun k0 => ?_) (fun k0 => ?_)
    · subst k0
      refine brr_ff ?_ ?_
      · by_cases hnl : need l ≤ (putK S c).length
        · rw [if_pos ⟨rfl, hnl⟩, show (putK S c).length = need l by omega]
          simp
        · rw [if_neg fun h => hnl h.2]
          have h1 : (((0 : Nat) : Int) == ((l.length : Nat) : Int)) = false := by simp; omega
          have h2 : ((((putK S c).length : Nat) : Int) == ((need l : Nat) : Int)) = false := by simp; omega
          rw [h1, h2]
          rfl
      · refine brr_ff rfl ?_
        exact hj _ _ ⟨rfl, rfl⟩
    · refine brr_tt (by simp; omega) ?_
      rw [if_neg fun h => k0 h.1]
      exact hj _ _ ⟨rfl, rfl⟩
theorem start_one (ok : q.Ok) (hl : q.cop.length = 1) {b : List UInt8} : (q.start 77 3 4 b 6).2.length = 1 := by
  have hmost : (q.start0 77 3 4 b).most 1 = true := by
    have := most_need (q := q.start0 77 3 4 b) (l := q.cop) rfl (n := 1)
    rw [show ((1 : Nat) : Int) = 1 from rfl] at this
    rw [this]
    exact decide_eq_true (by unfold need; omega)
  unfold QS.start
  rw [if_pos hmost]
  show (List.map _ (List.filter (fun c => !decide (c ∈ ([] : List Int))) q.cop)).length = _
  rw [List.length_map]
  have e : (q.start0 77 3 4 b).cop.filter (fun c => !decide (c ∈ ([] : List Int))) = q.cop := by
    show q.cop.filter _ = _
    simp
  exact (congrArg List.length e).trans hl
end
abbrev tyStep : Ty := .cons (.int .i64) (.cons (.int .i64) (.cons (.int .i64) .nil))
abbrev tyNodes : Ty := .cons (.int .i64) (.cons (.sl 3 24 tyStep) .nil)
theorem SlN.steps {h : Heap} {s : Sl} (S : SlN h 140737488351232 3 24 s fun cs => Fit h 140737488351232 tyStep cs) : ∃ l : List St3, View h 3 (En stC) s l ∧ l.length ≤ 140737488351232 := by
  obtain ⟨h1, h2, _, xs, V⟩ := S.view (En stC) (fun cs F => by
    obtain ⟨t1, _, rfl, t1a, t1b, F⟩ := Fit.i F
    obtain ⟨t2, _, rfl, t2a, t2b, F⟩ := Fit.i F
    obtain ⟨t3, _, rfl, t3a, t3b, F⟩ := Fit.i F
    obtain rfl := Fit.e F
    exact ⟨(t1, t2, t3), rfl⟩)
  exact ⟨xs, V, by rw [← V.len]; omega⟩
theorem quorumCounts_main (H : Heap) (cs : List Value) (F : Fit H 140737488351232 tyNodes cs) : E_law10_QuorumCounts [.agg cs.toArray] H (fun r h' => r = .bool true ∧ KeptH H h') := by
  obtain ⟨t1, _, rfl, t1a, t1b, F⟩ := Fit.i F
  obtain ⟨t2, _, rfl, t2S, F⟩ := Fit.s F
  obtain rfl := Fit.e F
  refine Eq.mpr (E_law10_QuorumCounts.at F_law10_QuorumCounts t1 t2 H _) ?_
  obtain ⟨xs, Vo, hx⟩ := t2S.steps
  rw [F_law10_QuorumCounts.eq_1, F_law10_QuorumCounts_of.eq_1]
  refine Sat.al (Sat.nil H) fun a3 h1 O => ?_
  refine O.ld 0 rfl (ldL_c (ldL_n ?_))
  refine F_law10_copiesOf.is O fun sc h n hn O => ?_
  refine O.ld 1 rfl (ldL_s (ldL_n ?_))
  have V := (O.view 0 i64c_len (by simp) rfl).1
  have cl := copyN_len n
  have hsl : sc.len = n := by rw [V.len, cl]
  rw [hsl]
  rw [show ((t2.len : Nat) : Int) = (xs.length : Int) by rw [Vo.len]]
  refine F_law10_into.is (by omega) (by omega) ?_
  have m0 := Int.emod_nonneg (xs.length : Int) (show (n : Int) ≠ 0 by omega)
  have m1 := Int.emod_lt_of_pos (xs.length : Int) (show (0 : Int) < (n : Int) by omega)
  obtain ⟨nd, hnd⟩ : ∃ c, (copyN n)[((xs.length : Int) % (n : Int)).toNat]? = some c := ⟨_, List.getElem?_eq_getElem (by omega)⟩
  refine V.i6 m0 hnd ?_
  refine F_quorum_New.is (cop := copyN n) (fun h O => (O.view 0 i64c_len (by simp) rfl).1) (by omega) O fun p h O => ?_
  have ok0 := fresh_ok (node := nd) (shard := 1) (cop := copyN n) (by omega)
  have nod := copyN_nodup hn
  refine jn1 (fun z h' => z = false ∧ Sat H h' [quR p (QS.fresh nd 1 (copyN n)), buf 1 i64c sc (copyN n), own a3 [.int .i64 t1, .slice t2.ptr t2.len t2.cap]]) ?_ ?_
  case refine_2 =>
    intro j hj
    refine brr_ff rfl ?_
    refine F_law10_wakes.is O fun h O => ?_
    exact hj _ _ ⟨rfl, O⟩
  clear O V
  rintro z h ⟨rfl, O⟩
  refine brr_ff rfl ?_
  refine O.al fun a20 h O => ?_
  refine O.frz fun h O => ?_
  have O : Sat H h (own a20 (([111, 119, 110] : List UInt8).flatMap u8 ++ []) :: quR p (QS.fresh nd 1 (copyN n)) :: [buf 1 i64c sc (copyN n), own a3 [.int .i64 t1, .slice t2.ptr t2.len t2.cap]]) := O
  have O := (O.own_buf (k := 0) (sz := 1) rfl).bufsI
  have O : Sat H h (buf 1 u8 ⟨some (pt a20 0), 3, 3⟩ [111, 119, 110] :: quR p (QS.fresh nd 1 (copyN n)) :: [buf 1 i64c sc (copyN n), own a3 [.int .i64 t1, .slice t2.ptr t2.len t2.cap]]) := O
  refine F_quorum_Quorum_Start.is (b := [111, 119, 110]) ok0 (by show (3 : Nat) ≤ _; decide) (fun h O => (O.view 0 u8_len (by simp) rfl).1) O.swap fun s h O => ?_
  have hlen := msgs_len O
  refine brr_eq (fun n1 => ?_) (fun n1 => ?_)
  · refine ⟨?_, O.kept⟩
    rw [hlen, start_one ok0 (by show (copyN n).length = 1; omega)]
    rfl
  have hmem : nd ∈ copyN n := List.mem_of_getElem? hnd
  obtain ⟨st0, sl⟩ := start_St0 (l := copyN n) (nd := nd) (b := [111, 119, 110]) ok0 rfl rfl rfl (by unfold need; omega) nod hmem (by show (3 : Nat) ≤ _; decide)
  rw [sl, cl] at hlen
  refine brr_ff ?_ ?_
  · rw [hlen, wrap64 (by omega) (by omega)]
    simp
    omega
  refine jn0 (fun h' => ∃ q : QS, q.phase = 3 ∧ Sat H h' [quR p q, buf 1 i64c sc (copyN n), own a3 [.int .i64 t1, .slice t2.ptr t2.len t2.cap]]) ?_ ?_
  · rintro h ⟨q, hq, O⟩
    refine F_quorum_Quorum_Phase.is O ?_
    rw [hq]
    exact ⟨rfl, O.kept⟩
  intro j hj
  rw [F_law10_QuorumCounts.l1.eq_1]
  have start : ∃ q : QS, q.StK nd (copyN n) 0 [nd] ∧ Sat H h [quR p q, buf 1 i64c sc (copyN n), own a3 [.int .i64 t1, .slice t2.ptr t2.len t2.cap]] := ⟨_, st0, O.sel [1, 3, 4] 5 rfl (Nat.le_add_left _ _)⟩
  clear O st0
  obtain ⟨q, st, O⟩ := start
  refine wl1 (k := .int .i64) (fun (m : Nat) (k : Int) (h' : Heap) => k + m = 3 ∧ 0 ≤ k ∧ ∃ q : QS, (k = 0 → q.StK nd (copyN n) 0 [nd]) ∧ (k = 1 → q.St1 nd (copyN n) []) ∧ (k = 2 → ∃ S, q.St1 nd (copyN n) S ∧ need (copyN n) ≤ S.length) ∧ (k = 3 → q.phase = 3) ∧ Sat H h' [quR p q, buf 1 i64c sc (copyN n), own a3 [.int .i64 t1, .slice t2.ptr t2.len t2.cap]]) ?_ (m := 3) ⟨by omega, by omega, q, fun _ => st, fun h => by omega, fun h => by omega, fun h => by omega, O⟩
  clear O st
  rintro m (k : Int) h next hnx ⟨hkm, hk0, q, p0, p1, p2, p3, O⟩
  refine brr_p (fun hk3 => ?_) (fun hk3 => hj _ ⟨q, p3 (by omega), O⟩)
  refine jn1 (fun z h' => z = false ∧ ∃ q : QS, q.StK nd (copyN n) k (if k = 0 then [nd] else []) ∧ Sat H h' [quR p q, buf 1 i64c sc (copyN n), own a3 [.int .i64 t1, .slice t2.ptr t2.len t2.cap]]) ?_ ?_
  case refine_2 =>
    intro j2 hj2
    refine brr_eq (fun k2 => ?_) (fun k2 => ?_)
    · obtain ⟨S, s1, s2⟩ := p2 k2
      obtain ⟨st2, hl⟩ := round1 s1 s2
      refine F_quorum_Quorum_Tick.is s1.b.ok O fun s h O => ?_
      have hlen := msgs_len O
      rw [hl] at hlen
      refine hj2 _ _ ⟨?_, _, ?_, O.sel [1, 2, 3] 4 rfl (Nat.le_add_left _ _)⟩
      · rw [hlen, cl, hsl]; simp
      · subst k2; exact st2
    · refine hj2 _ _ ⟨rfl, q, ?_, O⟩
      by_cases k0 : k = 0
      · subst k0; exact p0 rfl
      · have k1 : k = 1 := by omega
        subst k1; exact p1 rfl
  clear O p0 p1 p2 p3
  rintro z h ⟨rfl, q, st, O⟩
  refine brr_ff rfl ?_
  refine O.ld 2 rfl (ldL_c (ldL_s (ldL_n ?_)))
  refine F_law10_Nodes_counts.is nod (by omega) (by omega) m0 hnd hk0 hk3 Vo (by omega) st O fun q S h st hle O => ?_
  refine brr_ff rfl ?_
  rw [wrap64 (by omega) (by omega)]
  refine hnx (m - 1) _ _ (by omega) ⟨by omega, by omega, q, fun h => by omega, fun e => ?_, fun e => ?_, fun e => ?_, O⟩
  · have k0 : k = 0 := by omega
    subst k0
    exact stage1 st hle
  · have k1 : k = 1 := by omega
    subst k1
    exact ⟨S, st, hle⟩
  · have k2 : k = 2 := by omega
    subst k2
    exact QS.St2.p (show q.St2 nd (copyN n) S from st)
end Go.Proofs.Ytigcpkejjjgkeaa.V
