import Derived.Test.YtigcpkejjjgkeaaZQuorumRow1
import Derived.Test.YtigcpkejjjgkeaaProg
/- The program's quorum: what it holds; lists of messages; send. -/
namespace Go.Proofs.Ytigcpkejjjgkeaa.V
open Go Go.RowKit
set_option linter.unusedVariables false
set_option linter.unusedSimpArgs false
structure QA where
  sc : Sl
  sv : Sl
  sw : Sl
  r1 : Nat
  r2 : Nat
  r3 : Nat
  r4 : Nat
def quR (p : Nat) (q : QS) : Res := ex fun a : QA => star [own p [.int .i64 q.node, .int .i64 q.shard, .slice a.sc.ptr a.sc.len a.sc.cap, .int .i64 q.phase, .int .u64 q.epoch, .int .u64 q.seen, .int .u64 q.best.1, .int .u64 q.best.2, .int .u64 q.tag.1, .int .u64 q.tag.2, .slice a.sv.ptr a.sv.len a.sv.cap, .int .u64 q.chosen.1, .int .u64 q.chosen.2, .slice a.sw.ptr a.sw.len a.sw.cap, .int .u64 q.begun, .int .u64 q.done, .map (some a.r1), .map (some a.r2), .map (some a.r3), .map (some a.r4)], buf 1 i64c a.sc q.cop, mapR a.r1 q.pm, mapR a.r2 q.wr, mapR a.r3 q.rf, mapR a.r4 q.bt, poolR [(a.sv, q.val), (a.sw, q.what)]]
def Mg.bare (m : Mg) : Mg := { m with v := ⟨none, 0, 0⟩ }
def mvR (m : Mg) : Res := buf 1 u8 m.v m.b
def msgsR (s : Sl) (ms : List Mg) : Res := ex fun ls : List Mg => pr (ls.map Mg.bare = ms) (sep (buf 22 mgC s ls) (many mvR ls))
theorem mgC_len (m : Mg) : (mgC m).length = 22 := rfl
theorem mgC_one (m : Mg) : (mgC m).all oneV = true := rfl
section
variable {h0 h : Heap} {L : List Res}
theorem star_permL {L M : List Res} (p : L.Perm M) : ∀ {E : Blks}, star L E → star M E := by
  induction p with
  | nil => exact fun h => h
  | cons A _ ih => exact fun ⟨E1, E2, p1, hA, h2⟩ => ⟨E1, E2, p1, hA, ih h2⟩
  | swap A B L => exact fun ⟨E1, E2, p1, hA, F1, F2, q, hB, h2⟩ => ⟨F1, E1 ++ F2, perm_cons_app p1 q, hB, E1, F2, List.Perm.refl _, hA, h2⟩
  | trans _ _ ih1 ih2 => exact fun h => ih2 (ih1 h)
theorem Sat.permL {L M : List Res} (O : Sat h0 h L) (p : L.Perm M) : Sat h0 h M := by
  obtain ⟨E, hs, H⟩ := O
  exact ⟨E, star_permL p hs, H⟩
theorem Sat.flip {L M : List Res} (O : Sat h0 h (L ++ M)) : Sat h0 h (M ++ L) := O.permL List.perm_append_comm
theorem Sat.starE {Rs : List Res} (O : Sat h0 h (star Rs :: L)) : Sat h0 h (Rs ++ L) := by
  induction Rs generalizing L with
  | nil => exact O.emp
  | cons A Rs ih =>
    have O : Sat h0 h (V.sep A (star Rs) :: L) := O
    exact (ih O.sep.swap).permL List.perm_middle
theorem Sat.qu {p : Nat} {q : QS} (O : Sat h0 h (quR p q :: L)) : ∃ a : QA, Sat h0 h (own p [.int .i64 q.node, .int .i64 q.shard, .slice a.sc.ptr a.sc.len a.sc.cap, .int .i64 q.phase, .int .u64 q.epoch, .int .u64 q.seen, .int .u64 q.best.1, .int .u64 q.best.2, .int .u64 q.tag.1, .int .u64 q.tag.2, .slice a.sv.ptr a.sv.len a.sv.cap, .int .u64 q.chosen.1, .int .u64 q.chosen.2, .slice a.sw.ptr a.sw.len a.sw.cap, .int .u64 q.begun, .int .u64 q.done, .map (some a.r1), .map (some a.r2), .map (some a.r3), .map (some a.r4)] :: buf 1 i64c a.sc q.cop :: mapR a.r1 q.pm :: mapR a.r2 q.wr :: mapR a.r3 q.rf :: mapR a.r4 q.bt :: poolR [(a.sv, q.val), (a.sw, q.what)] :: L) := by
  obtain ⟨a, O⟩ := O.ex
  exact ⟨a, O.starE⟩
theorem Sat.quI {p : Nat} (q : QS) (a : QA) (O : Sat h0 h (own p [.int .i64 q.node, .int .i64 q.shard, .slice a.sc.ptr a.sc.len a.sc.cap, .int .i64 q.phase, .int .u64 q.epoch, .int .u64 q.seen, .int .u64 q.best.1, .int .u64 q.best.2, .int .u64 q.tag.1, .int .u64 q.tag.2, .slice a.sv.ptr a.sv.len a.sv.cap, .int .u64 q.chosen.1, .int .u64 q.chosen.2, .slice a.sw.ptr a.sw.len a.sw.cap, .int .u64 q.begun, .int .u64 q.done, .map (some a.r1), .map (some a.r2), .map (some a.r3), .map (some a.r4)] :: buf 1 i64c a.sc q.cop :: mapR a.r1 q.pm :: mapR a.r2 q.wr :: mapR a.r3 q.rf :: mapR a.r4 q.bt :: poolR [(a.sv, q.val), (a.sw, q.what)] :: L)) : Sat h0 h (quR p q :: L) := by
  refine Sat.exI a ?_
  have O := (O.sel [0, 1, 2, 3, 4, 5, 6] 7 rfl (Nat.le_add_left _ _))
  obtain ⟨E, ⟨E0, F0, p0, k0, E1, F1, p1, k1, E2, F2, p2, k2, E3, F3, p3, k3, E4, F4, p4, k4, E5, F5, p5, k5, E6, F6, p6, k6, h2⟩, H⟩ := O
  refine ⟨E, ⟨E0 ++ (E1 ++ (E2 ++ (E3 ++ (E4 ++ (E5 ++ (E6 ++ [])))))), F6, ?_, ?_, h2⟩, H⟩
  · refine p0.trans ?_
    rw [List.append_nil, List.append_assoc]
    refine List.Perm.append_left _ (p1.trans ?_)
    rw [List.append_assoc]
    refine List.Perm.append_left _ (p2.trans ?_)
    rw [List.append_assoc]
    refine List.Perm.append_left _ (p3.trans ?_)
    rw [List.append_assoc]
    refine List.Perm.append_left _ (p4.trans ?_)
    rw [List.append_assoc]
    refine List.Perm.append_left _ (p5.trans ?_)
    rw [List.append_assoc]
    exact List.Perm.append_left _ p6
  · exact ⟨E0, _, List.Perm.refl _, k0, E1, _, List.Perm.refl _, k1, E2, _, List.Perm.refl _, k2, E3, _, List.Perm.refl _, k3, E4, _, List.Perm.refl _, k4, E5, _, List.Perm.refl _, k5, E6, [], List.Perm.refl _, k6, rfl⟩
theorem F_slices_Clone_cbaad.is {a : Sl} {xs : List UInt8} {Q : Sl → Heap → Prop} (O : Sat h0 h L) (V1 : Stays h0 L fun h => Bytes h a xs) (hl : xs.length ≤ (140737488355325 : Nat)) (k : ∀ s h', Sat h0 h' (buf 1 u8 s xs :: L) → Q s h') : F_slices_Clone_cbaad a h Q := by
  rw [F_slices_Clone_cbaad.eq_1, F_slices_Clone_cbaad_of.eq_1]
  have hn := (V1 h O).len
  cases e : a.ptr with
  | none =>
    refine brr_tt rfl ?_
    have hx : xs = [] := by
      cases xs with
      | nil => rfl
      | cons x xs =>
        obtain ⟨p, cs, h1, _⟩ := (V1 h O).2 0 x rfl
        rw [e] at h1; cases h1
    subst hx
    exact k _ _ O.nil_buf
  | some p =>
    refine brr_ff rfl ?_
    refine O.al fun b h O => ?_
    have O : Sat h0 h (own b (([] : List UInt8).flatMap u8 ++ []) :: L) := O
    have O := O.own_buf (k := 0) (sz := 1) (by simp)
    have O : Sat h0 h (buf 1 u8 ⟨some (pt b 0), 0, 0⟩ [] :: L) := O.bufsI
    have V2 := V1 h O.drop
    rw [← e]
    refine O.app_buf u8_len u8_one rfl (ys := xs) hn ?_ (by simp; omega) fun s h O _ => ?_
    · have := V2.rd u8_len
      simpa using this
    · exact k _ _ (by rwa [List.nil_append] at O)
theorem F_slices_Clone_abbee.is {a : Sl} {xs : List Int} {Q : Sl → Heap → Prop} (O : Sat h0 h L) (V1 : Stays h0 L fun h => View h 1 (En i64c) a xs) (hl : xs.length ≤ 1000000) (k : ∀ s h', Sat h0 h' (buf 1 i64c s xs :: L) → Q s h') : F_slices_Clone_abbee a h Q := by
  rw [F_slices_Clone_abbee.eq_1, F_slices_Clone_abbee_of.eq_1]
  have hn := (V1 h O).len
  cases e : a.ptr with
  | none =>
    refine brr_tt rfl ?_
    have hx : xs = [] := by
      cases xs with
      | nil => rfl
      | cons x xs =>
        obtain ⟨p, cs, h1, _⟩ := (V1 h O).2 0 x rfl
        rw [e] at h1; cases h1
    subst hx
    exact k _ _ O.nil_buf
  | some p =>
    refine brr_ff rfl ?_
    refine O.al fun b h O => ?_
    have O : Sat h0 h (own b (([] : List Int).flatMap i64c ++ []) :: L) := O
    have O := O.own_buf (k := 0) (sz := 1) (by simp)
    have O : Sat h0 h (buf 1 i64c ⟨some (pt b 0), 0, 0⟩ [] :: L) := O.bufsI
    have V2 := V1 h O.drop
    rw [← e]
    refine O.app_buf i64c_len i64c_one rfl (ys := xs) hn ?_ (by simp; omega) fun s h O _ => ?_
    · have := V2.rd i64c_len
      simpa using this
    · exact k _ _ (by rwa [List.nil_append] at O)
theorem View.i6 {s : Sl} {xs : List Int} {i : Int} {K : Int → Prop} {x : Int} (V : View h 1 (En i64c) s xs) (h0 : 0 ≤ i) (hx : xs[i.toNat]? = some x) (kk : K x) : ixS 1 s i fun a => ld [.int .i64] a h K :=
  V.getP h0 hx fun a ha => ld_are (ha V) (ldL_c (ldL_n kk))
theorem F_slices_Contains_cfbaf.is {s : Sl} {xs : List Int} {n : Int} {Q : Bool → Heap → Prop} (V : View h 1 (En i64c) s xs) (hl : xs.length ≤ 1000000) (k : Q (decide (n ∈ xs)) h) : F_slices_Contains_cfbaf s n h Q := by
  rw [F_slices_Contains_cfbaf.eq_1, F_slices_Contains_cfbaf_of.eq_1]
  rw [F_slices_Index_fbcab.eq_1, F_slices_Index_fbcab_of.eq_1]
  refine jn0 (fun h' => h' = h ∧ n ∉ xs) ?_ ?_
  · rintro h2 ⟨rfl, hn⟩
    rw [show decide (n ∈ xs) = false from decide_eq_false hn] at k
    exact k
  · intro j hj
    rw [F_slices_Index_fbcab.l1.eq_1]
    refine wl1 (k := .int .i64) (fun (m : Nat) (i : Int) (h' : Heap) => h' = h ∧ i + m = xs.length ∧ 0 ≤ i ∧ (∀ j : Nat, (j : Int) < i → xs[j]? ≠ some n)) ?_ (m := xs.length) ⟨rfl, by omega, by omega, fun j hj => by omega⟩
    rintro m (i : Int) h2 next hnx ⟨rfl, him, hi0, hall⟩
    rw [V.len]
    refine brr_p (fun hlt => ?_) (fun hlt => hj _ ⟨rfl, fun hm => ?_⟩)
    · obtain ⟨x, hx⟩ : ∃ x, xs[i.toNat]? = some x := ⟨_, List.getElem?_eq_getElem (by omega)⟩
      refine V.i6 hi0 hx ?_
      refine brr_eq (fun hq => ?_) (fun hq => ?_)
      · have hm : n ∈ xs := by rw [hq]; exact List.mem_of_getElem? hx
        rw [show decide (n ∈ xs) = true from decide_eq_true hm] at k
        show Q (decide (i ≥ 0)) _
        rw [show decide (i ≥ 0) = true from decide_eq_true hi0]
        exact k
      · rw [wrap64 (by omega) (by omega)]
        refine hnx (m - 1) _ _ (by omega) ⟨rfl, by omega, by omega, fun j hj => ?_⟩
        by_cases q : (j : Int) < i
        · exact hall j q
        · rw [show j = i.toNat by omega, hx]
          intro e
          cases e
          exact hq rfl
    · obtain ⟨j, hj2⟩ := List.getElem?_of_mem hm
      have := (List.getElem?_eq_some_iff.1 hj2).1
      exact hall j (by omega) hj2
theorem Sat.msgs {s : Sl} {ms : List Mg} (O : Sat h0 h (msgsR s ms :: L)) : ∃ ls : List Mg, ls.map Mg.bare = ms ∧ Sat h0 h (buf 22 mgC s ls :: many mvR ls :: L) := by
  obtain ⟨ls, O⟩ := O.ex
  obtain ⟨e, O⟩ := O.pr
  exact ⟨ls, e, O.sep⟩
theorem Sat.msgsI {s : Sl} {ls : List Mg} {ms : List Mg} (e : ls.map Mg.bare = ms) (O : Sat h0 h (buf 22 mgC s ls :: many mvR ls :: L)) : Sat h0 h (msgsR s ms :: L) := Sat.exI ls (Sat.prI e O.sepI)
abbrev sendF : Fns := fn1 25 E_slices_Clone_cbaad (fn1 53 E_quorum_Quorum_mine (fn1 54 E_quorum_nodes_in noFns))
theorem filt_take {α : Type} {l : List α} {f : α → Bool} {i : Nat} {x : α} (h : l[i]? = some x) : (l.take (i + 1)).filter f = (l.take i).filter f ++ if f x then [x] else [] := by
  obtain ⟨hi, rfl⟩ := List.getElem?_eq_some_iff.1 h
  rw [List.take_succ_eq_append_getElem hi, List.filter_append]
  congr 1
  by_cases q : f l[i] <;> simp [q]
theorem F_quorum_Quorum_send.is {p : Nat} {node shard : Int} {sc : Sl} {cop : List Int} {C : List Value} {x : Mg} {fv : Option FV} {out : Int → Bool} {Q : Sl → Heap → Prop} (hc : cop.length ≤ 1000000) (hb : x.b.length ≤ (140737488355325 : Nat))
    (Vx : Stays h0 L fun h => Bytes h x.v x.b)
    (dy : ∀ (c : Int) {M : List Res} {h : Heap} {K : Bool → Heap → Prop}, Sat h0 h (own p (.int .i64 node :: .int .i64 shard :: .slice sc.ptr sc.len sc.cap :: C) :: buf 1 i64c sc cop :: (L ++ M)) → K (out c) h → dyn1 .bool sendF (Kd.enc .fn fv) [(.int .i64 c : Value)] h K)
    (O : Sat h0 h (own p (.int .i64 node :: .int .i64 shard :: .slice sc.ptr sc.len sc.cap :: C) :: buf 1 i64c sc cop :: L))
    (k : ∀ s h', Sat h0 h' (msgsR s ((cop.filter fun c => !out c).map fun c => { x.bare with frm := node, to := c, shard := shard }) :: own p (.int .i64 node :: .int .i64 shard :: .slice sc.ptr sc.len sc.cap :: C) :: buf 1 i64c sc cop :: L) → Q s h') : F_quorum_Quorum_send (some (pt p 0)) x.kind x.frm x.to x.shard x.epoch x.te x.ts x.round x.span x.seen x.v x.peer x.num x.name x.other x.amount x.life x.id x.op x.client x.state x.bad fv h Q := by
  rw [F_quorum_Quorum_send.eq_1, F_quorum_Quorum_send_of.eq_1]
  refine O.al fun a25 h O => ?_
  refine ⟨_, rfl, ?_⟩
  refine O.ld 1 rfl (ldL_c (k := .sl) (x := sc) (ldL_n ?_))
  refine jn1 (fun s h' => Sat h0 h' (msgsR s ((cop.filter fun c => !out c).map fun c => { x.bare with frm := node, to := c, shard := shard }) :: own p (.int .i64 node :: .int .i64 shard :: .slice sc.ptr sc.len sc.cap :: C) :: buf 1 i64c sc cop :: L)) (fun s h O => k s h O) ?_
  intro j hj
  rw [F_quorum_Quorum_send.l1.eq_1]
  refine wl2 (k := .sl) (l := .int .i64) (fun (m : Nat) (s : Sl) (i : Int) (h' : Heap) => i + m = cop.length ∧ 0 ≤ i ∧ ∃ ls : List Mg, ls.map Mg.bare = ((cop.take i.toNat).filter fun c => !out c).map (fun c => { x.bare with frm := node, to := c, shard := shard }) ∧ (ls.length : Int) ≤ i ∧ Sat h0 h' (own a25 (mgC x) :: buf 22 mgC s ls :: many mvR ls :: own p (.int .i64 node :: .int .i64 shard :: .slice sc.ptr sc.len sc.cap :: C) :: buf 1 i64c sc cop :: L)) ?_ (m := cop.length) ⟨by omega, by omega, [], by simp, by simp, by
    have O2 := (O.none (f := mvR)).nil_buf (sz := 22) (enc := mgC)
    exact O2.sel [2, 0, 1, 3, 4] 5 rfl (Nat.le_add_left _ _)⟩
  clear O
  rintro m (s : Sl) (i : Int) h next hnx ⟨him, hi0, ls, hls, hll, O⟩
  have V1 := (O.view 4 i64c_len (by simp) rfl).1
  rw [V1.len]
  refine brr_p (fun hlt => ?_) (fun hlt => hj _ _ ?_)
  case refine_2 =>
    rw [List.take_of_length_le (by omega)] at hls
    exact Sat.msgsI hls (O.sel [1, 2, 3, 4] 5 rfl (Nat.le_add_left _ _))
  obtain ⟨c, hcx⟩ : ∃ c, cop[i.toNat]? = some c := ⟨_, List.getElem?_eq_getElem (by omega)⟩
  have ft := filt_take (f := fun c => !out c) hcx
  rw [show i.toNat + 1 = (i + 1).toNat by omega] at ft
  refine jn1 (fun s h' => ∃ ls : List Mg, ls.map Mg.bare = ((cop.take (i + 1).toNat).filter fun c => !out c).map (fun c => { x.bare with frm := node, to := c, shard := shard }) ∧ (ls.length : Int) ≤ i + 1 ∧ Sat h0 h' (own a25 (mgC x) :: buf 22 mgC s ls :: many mvR ls :: own p (.int .i64 node :: .int .i64 shard :: .slice sc.ptr sc.len sc.cap :: C) :: buf 1 i64c sc cop :: L)) ?_ ?_
  · clear O
    rintro s h ⟨ls, h1, h2, O⟩
    rw [wrap64 (by omega) (by omega)]
    exact hnx (m - 1) _ _ _ (by omega) ⟨by omega, by omega, ls, h1, h2, O⟩
  intro j2 hj2
  refine V1.i6 hi0 hcx ?_
  refine dy c (M := [own a25 (mgC x), buf 22 mgC s ls, many mvR ls]) ?_ ?_
  · have O2 : Sat h0 h ([own a25 (mgC x), buf 22 mgC s ls, many mvR ls] ++ (own p (.int .i64 node :: .int .i64 shard :: .slice sc.ptr sc.len sc.cap :: C) :: buf 1 i64c sc cop :: L)) := O
    exact Sat.flip O2
  cases ho : out c with
  | true =>
    refine brr_tt rfl ?_
    refine hj2 _ _ ⟨ls, ?_, by omega, O⟩
    rw [hls, ft, ho]
    simp
  | false =>
    refine brr_ff rfl ?_
    refine O.ld 0 rfl ?_
    repeat (first | (with_reducible refine ldL_n ?_) | refine ldL_s ?_ | refine ldL_c ?_)
    refine O.al fun a61 h O => ?_
    refine O.st 0 rfl (by simp) rfl fun h O => ?_
    dsimp only [V.put, List.set] at O
    refine ⟨_, rfl, ?_⟩
    refine O.ld 4 rfl (ldL_c (ldL_n ?_))
    refine ⟨_, rfl, ?_⟩
    refine O.ld 4 rfl (ldL_c (ldL_n ?_))
    refine O.ld 1 rfl (ldL_s (ldL_n ?_))
    refine F_slices_Clone_cbaad.is O (fun h O => Vx h (O.sel [] 6 rfl (Nat.le_add_left _ _))) hb fun sv h O => ?_
    refine O.ca 5 1 rfl ?_
    refine O.ca 5 1 rfl ?_
    refine st_ad (b := a61) (o := 1) rfl ?_
    refine O.st 1 rfl (by simp) rfl fun h O => ?_
    dsimp only [V.put, List.set] at O
    refine O.ca 5 1 rfl ?_
    refine st_ad (b := a61) (o := 2) rfl ?_
    refine O.st 1 rfl (by simp) rfl fun h O => ?_
    dsimp only [V.put, List.set] at O
    refine O.ca 5 1 rfl ?_
    refine st_ad (b := a61) (o := 3) rfl ?_
    refine O.st 1 rfl (by simp) rfl fun h O => ?_
    dsimp only [V.put, List.set] at O
    refine st_ad (b := a61) (o := 10) rfl ?_
    refine O.st 1 rfl (by simp) rfl fun h O => ?_
    dsimp only [V.put, List.set] at O
    refine O.ld 1 rfl ?_
    repeat (first | (with_reducible refine ldL_n ?_) | refine ldL_s ?_ | refine ldL_c ?_)
    have O := O.sel [3, 0, 2, 4, 5, 6] 7 rfl (Nat.le_add_left _ _)
    refine Sat.push_buf (enc := mgC) O { x with frm := node, to := c, shard := shard, v := sv } rfl mgC_len mgC_one (by simp [Value.cells]) (by omega) fun s2 h O _ => ?_
    generalize hy : ({ x with frm := node, to := c, shard := shard, v := sv } : Mg) = y at O
    have O : Sat h0 h (mvR y :: many mvR ls :: buf 22 mgC s2 (ls ++ [y]) :: own a25 (mgC x) :: own p (.int .i64 node :: .int .i64 shard :: .slice sc.ptr sc.len sc.cap :: C) :: buf 1 i64c sc cop :: L) := by
      rw [← hy] at O ⊢
      exact O.sel [1, 3, 0, 2, 4, 5] 6 rfl (Nat.le_add_left _ _)
    have O := Sat.more O
    refine hj2 _ _ ⟨ls ++ [y], ?_, by rw [List.length_append]; simp; omega, O.sel [2, 1, 0, 3, 4] 5 rfl (Nat.le_add_left _ _)⟩
    subst hy
    rw [List.map_append, hls, ft, ho]
    simp [Mg.bare]
end
end Go.Proofs.Ytigcpkejjjgkeaa.V
/- The program's quorum: its small functions; what it sends; Stop, Start. -/
namespace Go.Proofs.Ytigcpkejjjgkeaa.V
open Go Go.RowKit
set_option linter.unusedVariables false
set_option linter.unusedSimpArgs false
structure QS.Ok (q : QS) : Prop where
  c : q.cop.length ≤ 1000000
  v : q.val.length ≤ (140737488355325 : Nat)
  w : q.what.length ≤ (140737488355325 : Nat)
  n : q.rf.Nodup
  s : ∀ x ∈ q.rf, x ∈ q.cop
  t : 0 ≤ q.tag.2
  b : 0 ≤ q.begun
theorem dyn1_at {k : Kd} {Φ : Fns} {id : Nat} {fs vs : List Value} {h : Heap} {K : k.T → Heap → Prop} (e : Φ id (fs ++ vs) h fun u h => dec1 k u fun x => K x h) : dyn1 k Φ (Kd.enc .fn (some ⟨.func id, fs, []⟩)) vs h K :=
  ⟨_, id, rfl, rfl, by simpa using e⟩
theorem call_mine {q : Option Addr} {c : Int} {h : Heap} {K : Bool → Heap → Prop} : (sendF 53 [.pointer q, .int .i64 c] h fun u h => dec1 .bool u fun x => K x h) = F_quorum_Quorum_mine q c h K := by kernel_rfl
theorem call_in {m : Option Nat} {c : Int} {h : Heap} {K : Bool → Heap → Prop} : (sendF 54 [.map m, .int .i64 c] h fun u h => dec1 .bool u fun x => K x h) = F_quorum_nodes_in m c h K := by kernel_rfl
theorem nodup_sub_len : ∀ {l m : List Int}, l.Nodup → (∀ x ∈ l, x ∈ m) → l.length ≤ m.length
  | [], m, _, _ => Nat.zero_le _
  | x :: l, m, hn, hs => by
    rw [List.nodup_cons] at hn
    have hx := hs x List.mem_cons_self
    have := nodup_sub_len (l := l) (m := m.erase x) hn.2 fun y hy => (List.mem_erase_of_ne (by rintro rfl; exact hn.1 hy)).2 (hs y (List.mem_cons_of_mem _ hy))
    rw [List.length_erase_of_mem hx] at this
    have := List.length_pos_of_mem hx
    simp
    omega
theorem putK_nodup {l : List Int} {n : Int} (h : l.Nodup) : (putK l n).Nodup := by
  unfold putK
  split
  · exact h
  · rename_i hn
    exact List.nodup_append.2 ⟨h, by simp, fun a ha b hb => by rw [List.mem_singleton.1 hb]; exact fun e => hn (e ▸ ha)⟩
theorem putK_sub {l : List Int} {n x : Int} (h : x ∈ putK l n) : x ∈ l ∨ x = n := by
  unfold putK at h
  split at h
  · exact .inl h
  · simpa using h
section
variable {h0 h : Heap} {L : List Res} {p : Nat} {q : QS}
theorem pool_nils (O : Sat h0 h L) : Sat h0 h (poolR [(⟨none, 0, 0⟩, []), (⟨none, 0, 0⟩, [])] :: L) := O.empI.mono fun E _ e he => by
  rcases List.mem_cons.1 he with rfl | he
  · exact .inl ⟨rfl, rfl⟩
  · rw [List.mem_singleton.1 he]; exact .inl ⟨rfl, rfl⟩
def QS.fresh (node shard : Int) (cop : List Int) : QS := ⟨node, shard, cop, 0, 0, 0, (0, 0), (0, 0), [], (0, 0), [], 0, 0, [], [], [], []⟩
theorem F_quorum_New.is {node shard : Int} {s : Sl} {cop : List Int} {Q : Option Addr → Heap → Prop} (V1 : Stays h0 L fun h => View h 1 (En i64c) s cop) (hl : cop.length ≤ 1000000) (O : Sat h0 h L) (k : ∀ p h', Sat h0 h' (quR p (QS.fresh node shard cop) :: L) → Q (some (pt p 0)) h') : F_quorum_New node shard s h Q := by
  rw [F_quorum_New.eq_1, F_quorum_New_of.eq_1]
  refine F_slices_Clone_abbee.is O V1 hl fun sc h O => ?_
  refine O.alm fun m6 h O => ?_
  refine O.alm fun m8 h O => ?_
  refine O.alm fun m10 h O => ?_
  refine O.alm fun m12 h O => ?_
  refine O.al fun p h O => ?_
  refine k p h ?_
  have O := pool_nils O
  exact Sat.quI (QS.fresh node shard cop) ⟨sc, ⟨none, 0, 0⟩, ⟨none, 0, 0⟩, m6, m8, m10, m12⟩ (O.sel [1, 6, 5, 4, 3, 2, 0] 7 rfl (Nat.le_add_left _ _))
theorem F_quorum_Quorum_most.is {n : Int} {Q : Bool → Heap → Prop} (ok : q.cop.length ≤ 1000000) (O : Sat h0 h (quR p q :: L)) (k : Q (q.most n) h) : F_quorum_Quorum_most (some (pt p 0)) n h Q := by
  rw [F_quorum_Quorum_most.eq_1, F_quorum_Quorum_most_of.eq_1]
  obtain ⟨a, O⟩ := O.qu
  refine ⟨_, rfl, ?_⟩
  refine O.ld 0 rfl (ldL_c (k := .sl) (x := a.sc) (ldL_n ?_))
  refine ⟨by decide, ?_⟩
  rw [(O.view 1 i64c_len (by simp) rfl).1.len, Int.tdiv_eq_ediv_of_nonneg (by omega), wrap64 (by omega) (by omega)]
  exact k
theorem F_quorum_Quorum_Holds.is {Q : Bool → Heap → Prop} (O : Sat h0 h (quR p q :: L)) (k : Q q.holds h) : F_quorum_Quorum_Holds (some (pt p 0)) h Q := by
  rw [F_quorum_Quorum_Holds.eq_1, F_quorum_Quorum_Holds_of.eq_1]
  obtain ⟨a, O⟩ := O.qu
  refine jn1 (fun z h' => h' = h ∧ z = q.holds) (fun z h' e => by obtain ⟨rfl, rfl⟩ := e; exact k) fun j hj => ?_
  refine ⟨_, rfl, ?_⟩
  refine O.ld 0 rfl (ldL_c (ldL_n ?_))
  refine brr_eq (fun h3 => hj _ _ ⟨rfl, by simp [QS.holds, h3]⟩) (fun h3 => ?_)
  refine ⟨_, rfl, ?_⟩
  refine O.ld 0 rfl (ldL_c (ldL_n ?_))
  refine brr_eq (fun h2 => ?_) (fun h2 => hj _ _ ⟨rfl, by simp [QS.holds, h3, h2]⟩)
  refine ⟨_, rfl, ?_⟩
  refine O.ld 0 rfl (ldL_c (ldL_n ?_))
  refine hj _ _ ⟨rfl, ?_⟩
  simp only [QS.holds, h2]
  simp
theorem F_quorum_Quorum_mine.is {c : Int} {C : List Value} {M : List Res} {K : Bool → Heap → Prop} (O : Sat h0 h (own p (.int .i64 q.node :: C) :: M)) (k : K (c == q.node) h) : F_quorum_Quorum_mine (some (pt p 0)) c h K := by
  rw [F_quorum_Quorum_mine.eq_1, F_quorum_Quorum_mine_of.eq_1]
  refine ⟨_, rfl, ?_⟩
  refine O.ld 0 rfl (ldL_c (ldL_n ?_))
  exact k
theorem F_quorum_nodes_in.is {c : Int} {r i : Nat} {l : List Int} {K : Bool → Heap → Prop} (O : Sat h0 h L) (hi : nth i L = mapR r l) (k : K (decide (c ∈ l)) h) : F_quorum_nodes_in (some r) c h K := by
  rw [F_quorum_nodes_in.eq_1, F_quorum_nodes_in_of.eq_1]
  exact O.mg i hi k
theorem F_quorum_Quorum_prepares.is {Q : Sl → Heap → Prop} (ok : q.Ok) (O : Sat h0 h (quR p q :: L)) (k : ∀ s h', Sat h0 h' (msgsR s q.prepares :: quR p q :: L) → Q s h') : F_quorum_Quorum_prepares (some (pt p 0)) h Q := by
  rw [F_quorum_Quorum_prepares.eq_1, F_quorum_Quorum_prepares_of.eq_1]
  obtain ⟨a, O⟩ := O.qu
  refine ⟨_, rfl, ?_⟩
  refine O.ld 0 rfl (ldL_c (ldL_n ?_))
  refine F_quorum_Quorum_send.is (x := { mgz with kind := 1, epoch := q.epoch }) (out := fun c => c == q.node) ok.c (by show (0 : Nat) ≤ _; decide) (fun h O => View.nil (p := none) (c := 0)) (fun c {M h K} O kk => ?_) O fun s h O => ?_
  · refine dyn1_at ?_
    refine Eq.mpr call_mine ?_
    exact F_quorum_Quorum_mine.is O kk
  · exact k _ _ (Sat.quI q a (O.sel [1, 2, 3, 4, 5, 6, 7, 0] 8 rfl (Nat.le_add_left _ _)) |>.swap)
theorem F_quorum_Quorum_writes.is {span : Int} {Q : Sl → Heap → Prop} (ok : q.Ok) (O : Sat h0 h (quR p q :: L)) (k : ∀ s h', Sat h0 h' (msgsR s (q.writes span) :: quR p q :: L) → Q s h') : F_quorum_Quorum_writes (some (pt p 0)) span h Q := by
  rw [F_quorum_Quorum_writes.eq_1, F_quorum_Quorum_writes_of.eq_1]
  obtain ⟨a, O⟩ := O.qu
  refine ⟨_, rfl, ?_⟩
  refine O.ld 0 rfl (ldL_c (ldL_c (ldL_n ?_)))
  refine ⟨_, rfl, ?_⟩
  refine O.ld 0 rfl (ldL_c (k := .sl) (x := a.sv) (ldL_n ?_))
  refine ⟨_, rfl, ?_⟩
  refine O.ld 0 rfl (ldL_c (k := .map) (x := some a.r2) (ldL_n ?_))
  refine F_quorum_Quorum_send.is (x := { mgz with kind := 4, te := q.tag.1, ts := q.tag.2, span := span, v := a.sv, b := q.val }) (out := fun c => decide (c ∈ q.wr)) ok.c ok.v (fun h O => pool_view O 4 (by simp) rfl (e := (a.sv, q.val)) (by simp)) (fun c {M h K} O kk => ?_) O fun s h O => ?_
  · refine dyn1_at ?_
    refine Eq.mpr call_in ?_
    exact F_quorum_nodes_in.is O (i := 3) rfl kk
  · exact k _ _ (Sat.quI q a (O.sel [1, 2, 3, 4, 5, 6, 7, 0] 8 rfl (Nat.le_add_left _ _)) |>.swap)
theorem F_quorum_Quorum_beats.is {span : Int} {Q : Sl → Heap → Prop} (ok : q.Ok) (O : Sat h0 h (quR p q :: L)) (k : ∀ s h', Sat h0 h' (msgsR s (q.beats span) :: quR p q :: L) → Q s h') : F_quorum_Quorum_beats (some (pt p 0)) span h Q := by
  rw [F_quorum_Quorum_beats.eq_1, F_quorum_Quorum_beats_of.eq_1]
  obtain ⟨a, O⟩ := O.qu
  refine ⟨_, rfl, ?_⟩
  refine O.ld 0 rfl (ldL_c (ldL_n ?_))
  refine ⟨_, rfl, ?_⟩
  refine O.ld 0 rfl (ldL_c (ldL_n ?_))
  refine ⟨_, rfl, ?_⟩
  refine O.ld 0 rfl (ldL_c (k := .map) (x := some a.r4) (ldL_n ?_))
  refine F_quorum_Quorum_send.is (x := { mgz with kind := 6, epoch := q.epoch, round := q.begun, span := span }) (out := fun c => decide (c ∈ q.bt)) ok.c (by show (0 : Nat) ≤ _; decide) (fun h O => View.nil (p := none) (c := 0)) (fun c {M h K} O kk => ?_) O fun s h O => ?_
  · refine dyn1_at ?_
    refine Eq.mpr call_in ?_
    exact F_quorum_nodes_in.is O (i := 5) rfl kk
  · exact k _ _ (Sat.quI q a (O.sel [1, 2, 3, 4, 5, 6, 7, 0] 8 rfl (Nat.le_add_left _ _)) |>.swap)
theorem QS.Ok.wrt (ok : q.Ok) {seq : Int} (hs : 0 ≤ seq) : (q.wrt seq).Ok := ⟨ok.c, ok.v, ok.w, ok.n, ok.s, hs, ok.b⟩
theorem F_quorum_Quorum_write.is {seq span : Int} {Q : Sl → Heap → Prop} (ok : q.Ok) (hs : 0 ≤ seq) (O : Sat h0 h (quR p q :: L)) (k : ∀ s h', Sat h0 h' (msgsR s ((q.wrt seq).writes span) :: quR p (q.wrt seq) :: L) → Q s h') : F_quorum_Quorum_write (some (pt p 0)) seq span h Q := by
  rw [F_quorum_Quorum_write.eq_1, F_quorum_Quorum_write_of.eq_1]
  obtain ⟨a, O⟩ := O.qu
  refine ⟨_, rfl, ?_⟩
  refine O.ld 0 rfl (ldL_c (ldL_n ?_))
  refine ⟨_, rfl, ?_⟩
  refine st_ad (b := p) (o := 3) rfl ?_
  refine O.st 0 rfl (by simp) rfl fun h O => ?_
  dsimp only [V.put, List.set] at O
  refine ⟨_, rfl, ?_⟩
  refine st_ad (b := p) (o := 8) rfl ?_
  refine O.st 0 rfl (by simp) rfl fun h O => ?_
  dsimp only [V.put, List.set] at O
  refine ⟨_, rfl, ?_⟩
  refine O.ld 0 rfl (ldL_c (k := .map) (x := some a.r2) (ldL_n ?_))
  refine O.mclr 3 rfl fun h O => ?_
  exact F_quorum_Quorum_writes.is (ok.wrt hs) (Sat.quI (q.wrt seq) a O) k
theorem F_quorum_Quorum_Stop.is {Q : Heap → Prop} (O : Sat h0 h (quR p q :: L)) (k : ∀ h', Sat h0 h' (quR p q.stop :: L) → Q h') : F_quorum_Quorum_Stop (some (pt p 0)) h Q := by
  rw [F_quorum_Quorum_Stop.eq_1, F_quorum_Quorum_Stop_of.eq_1]
  obtain ⟨a, O⟩ := O.qu
  refine ⟨_, rfl, ?_⟩
  refine st_ad (b := p) (o := 3) rfl ?_
  refine O.st 0 rfl (by simp) rfl fun h O => ?_
  dsimp only [V.put, List.set] at O
  refine ⟨_, rfl, ?_⟩
  refine st_ad (b := p) (o := 4) rfl ?_
  refine O.st 0 rfl (by simp) rfl fun h O => ?_
  dsimp only [V.put, List.set] at O
  refine ⟨_, rfl, ?_⟩
  refine st_ad (b := p) (o := 8) rfl ?_
  refine O.st 0 rfl (by simp) rfl fun h O => ?_
  dsimp only [V.put, List.set] at O
  refine ⟨_, rfl, ?_⟩
  refine st_ad (b := p) (o := 11) rfl ?_
  refine O.st 0 rfl (by simp) rfl fun h O => ?_
  dsimp only [V.put, List.set] at O
  refine ⟨_, rfl, ?_⟩
  refine st_ad (b := p) (o := 10) rfl ?_
  refine O.st 0 rfl (by simp) rfl fun h O => ?_
  dsimp only [V.put, List.set] at O
  refine ⟨_, rfl, ?_⟩
  refine st_ad (b := p) (o := 13) rfl ?_
  refine O.st 0 rfl (by simp) rfl fun h O => ?_
  dsimp only [V.put, List.set] at O
  refine ⟨_, rfl, ?_⟩
  refine st_ad (b := p) (o := 14) rfl ?_
  refine O.st 0 rfl (by simp) rfl fun h O => ?_
  dsimp only [V.put, List.set] at O
  refine ⟨_, rfl, ?_⟩
  refine st_ad (b := p) (o := 15) rfl ?_
  refine O.st 0 rfl (by simp) rfl fun h O => ?_
  dsimp only [V.put, List.set] at O
  refine ⟨_, rfl, ?_⟩
  refine O.ld 0 rfl (ldL_c (k := .map) (x := some a.r1) (ldL_n ?_))
  refine ⟨_, rfl, ?_⟩
  refine O.ld 0 rfl (ldL_c (k := .map) (x := some a.r2) (ldL_n ?_))
  refine ⟨_, rfl, ?_⟩
  refine O.ld 0 rfl (ldL_c (k := .map) (x := some a.r3) (ldL_n ?_))
  refine ⟨_, rfl, ?_⟩
  refine O.ld 0 rfl (ldL_c (k := .map) (x := some a.r4) (ldL_n ?_))
  refine O.al fun x h O => ?_
  have O : Sat h0 h (own x [.map (some a.r1), .map (some a.r2), .map (some a.r3), .map (some a.r4)] :: own p [.int .i64 q.node, .int .i64 q.shard, .slice a.sc.ptr a.sc.len a.sc.cap, .int .i64 0, .int .u64 0, .int .u64 q.seen, .int .u64 q.best.1, .int .u64 q.best.2, .int .u64 0, .int .u64 0, .slice none 0 0, .int .u64 0, .int .u64 0, .slice none 0 0, .int .u64 0, .int .u64 0, .map (some a.r1), .map (some a.r2), .map (some a.r3), .map (some a.r4)] :: buf 1 i64c a.sc q.cop :: mapR a.r1 q.pm :: mapR a.r2 q.wr :: mapR a.r3 q.rf :: mapR a.r4 q.bt :: poolR [(a.sv, q.val), (a.sw, q.what)] :: L) := O
  refine jn0 (fun h' => Sat h0 h' (quR p q.stop :: L)) (fun h O => k h O) fun j hj => ?_
  rw [F_quorum_Quorum_Stop.l1.eq_1]
  refine wl1 (k := .int .i64) (fun (m : Nat) (i : Int) (h' : Heap) => i + m = 4 ∧ 0 ≤ i ∧ Sat h0 h' (own x [.map (some a.r1), .map (some a.r2), .map (some a.r3), .map (some a.r4)] :: own p [.int .i64 q.node, .int .i64 q.shard, .slice a.sc.ptr a.sc.len a.sc.cap, .int .i64 0, .int .u64 0, .int .u64 q.seen, .int .u64 q.best.1, .int .u64 q.best.2, .int .u64 0, .int .u64 0, .slice none 0 0, .int .u64 0, .int .u64 0, .slice none 0 0, .int .u64 0, .int .u64 0, .map (some a.r1), .map (some a.r2), .map (some a.r3), .map (some a.r4)] :: buf 1 i64c a.sc q.cop :: mapR a.r1 (if 0 < i then [] else q.pm) :: mapR a.r2 (if 1 < i then [] else q.wr) :: mapR a.r3 (if 2 < i then [] else q.rf) :: mapR a.r4 (if 3 < i then [] else q.bt) :: poolR [(a.sv, q.val), (a.sw, q.what)] :: L)) ?_ (m := 4) ⟨by omega, by omega, by simpa using O⟩
  clear O
  rintro m (i : Int) h next hnx ⟨him, hi0, O⟩
  refine brr_p (fun hlt => ?_) (fun hlt => hj _ ?_)
  case refine_2 =>
    have hlt : ¬ i < 4 := hlt
    rw [if_pos (show 0 < i by omega), if_pos (show 1 < i by omega), if_pos (show 2 < i by omega), if_pos (show 3 < i by omega)] at O
    have O := pool_nils (O.sel [1, 2, 3, 4, 5, 6] 8 rfl (Nat.le_add_left _ _))
    exact Sat.quI q.stop ⟨a.sc, ⟨none, 0, 0⟩, ⟨none, 0, 0⟩, a.r1, a.r2, a.r3, a.r4⟩ (O.sel [1, 2, 3, 4, 5, 6, 0] 7 rfl (Nat.le_add_left _ _))
  have hlt : i < 4 := hlt
  have hi : i = 0 ∨ i = 1 ∨ i = 2 ∨ i = 3 := by omega
  rcases hi with rfl | rfl | rfl | rfl
  · refine ⟨_, rfl, by decide, (show (0 : Int) < 4 by decide), ?_⟩
    refine O.ld 0 rfl (ldL_c (k := .map) (x := some a.r1) (ldL_n ?_))
    refine O.mclr 3 rfl fun h O => ?_
    rw [wrap64 (by omega) (by omega)]
    exact hnx 3 _ _ (by omega) ⟨by omega, by omega, O⟩
  · refine ⟨_, rfl, by decide, (show (1 : Int) < 4 by decide), ?_⟩
    refine O.ld 0 rfl (ldL_c (k := .map) (x := some a.r2) (ldL_n ?_))
    refine O.mclr 4 rfl fun h O => ?_
    rw [wrap64 (by omega) (by omega)]
    exact hnx 2 _ _ (by omega) ⟨by omega, by omega, O⟩
  · refine ⟨_, rfl, by decide, (show (2 : Int) < 4 by decide), ?_⟩
    refine O.ld 0 rfl (ldL_c (k := .map) (x := some a.r3) (ldL_n ?_))
    refine O.mclr 5 rfl fun h O => ?_
    rw [wrap64 (by omega) (by omega)]
    exact hnx 1 _ _ (by omega) ⟨by omega, by omega, O⟩
  · refine ⟨_, rfl, by decide, (show (3 : Int) < 4 by decide), ?_⟩
    refine O.ld 0 rfl (ldL_c (k := .map) (x := some a.r4) (ldL_n ?_))
    refine O.mclr 6 rfl fun h O => ?_
    rw [wrap64 (by omega) (by omega)]
    exact hnx 0 _ _ (by omega) ⟨by omega, by omega, O⟩
theorem QS.Ok.stop (ok : q.Ok) : q.stop.Ok := ⟨ok.c, by simp [QS.stop], by simp [QS.stop], List.nodup_nil, fun x hx => absurd hx List.not_mem_nil, Int.le_refl _, Int.le_refl _⟩
theorem QS.Ok.start0 (ok : q.Ok) {e te ts : Int} {b : List UInt8} (hb : b.length ≤ (140737488355325 : Nat)) : (q.start0 e te ts b).Ok := ⟨ok.c, hb, by simp [QS.start0, QS.stop], List.nodup_nil, fun x hx => absurd hx List.not_mem_nil, Int.le_refl _, Int.le_refl _⟩
theorem QS.Ok.start (ok : q.Ok) {e te ts span : Int} {b : List UInt8} (hb : b.length ≤ (140737488355325 : Nat)) : (q.start e te ts b span).1.Ok := by
  unfold QS.start
  split
  · exact (ok.start0 hb).wrt (by decide)
  · exact ok.start0 hb
theorem F_quorum_Quorum_Start.is {e e0 te ts span : Int} {v : Sl} {b : List UInt8} {Q : Sl → Heap → Prop} (ok : q.Ok) (hb : b.length ≤ (140737488355325 : Nat)) (Vv : Stays h0 L fun h => Bytes h v b) (O : Sat h0 h (quR p q :: L)) (k : ∀ s h', Sat h0 h' (msgsR s (q.start e te ts b span).2 :: quR p (q.start e te ts b span).1 :: L) → Q s h') : F_quorum_Quorum_Start (some (pt p 0)) e e0 te ts v span h Q := by
  rw [F_quorum_Quorum_Start.eq_1, F_quorum_Quorum_Start_of.eq_1]
  refine O.al fun x h O => ?_
  refine F_quorum_Quorum_Stop.is O.swap fun h O => ?_
  obtain ⟨a, O⟩ := O.qu
  have ok0 := ok.start0 (e := e) (te := te) (ts := ts) hb
  refine ⟨_, rfl, ?_⟩
  refine st_ad (b := p) (o := 3) rfl ?_
  refine O.st 0 rfl (by simp) rfl fun h O => ?_
  dsimp only [V.put, List.set] at O
  refine ⟨_, rfl, ?_⟩
  refine st_ad (b := p) (o := 4) rfl ?_
  refine O.st 0 rfl (by simp) rfl fun h O => ?_
  dsimp only [V.put, List.set] at O
  refine O.ld 7 rfl (ldL_c (ldL_c (ldL_n ?_)))
  refine O.ld 7 rfl (ldL_c (k := .sl) (x := v) (ldL_n ?_))
  refine F_slices_Clone_cbaad.is O (fun h O => Vv h (O.sel [] 8 rfl (Nat.le_add_left _ _))) hb fun sv h O => ?_
  refine O.ca 8 2 rfl ?_
  refine ⟨_, rfl, ?_⟩
  refine st_ad (b := p) (o := 6) rfl ?_
  refine O.st 1 rfl (by simp) rfl fun h O => ?_
  dsimp only [V.put, List.set] at O
  refine ⟨_, rfl, ?_⟩
  refine st_ad (b := p) (o := 10) rfl ?_
  refine O.st 1 rfl (by simp) rfl fun h O => ?_
  dsimp only [V.put, List.set] at O
  refine ⟨_, rfl, ?_⟩
  refine O.ld 1 rfl (ldL_c (k := .map) (x := some a.r1) (ldL_n ?_))
  refine ⟨_, rfl, ?_⟩
  refine O.ld 1 rfl (ldL_c (ldL_n ?_))
  refine O.mput 3 rfl fun h O => ?_
  have O2 := pool_take (O.sel [0, 7, 1, 2, 3, 4, 5, 6] 9 rfl (Nat.le_add_left _ _))
  have O2 := pool_sub O2 (fs := [(sv, b), (a.sw, [])]) (by
    intro e he
    simp only [List.mem_cons, List.not_mem_nil, or_false] at he
    rcases he with rfl | rfl
    · simp
    · simp [QS.stop])
  have O : Sat h0 h (quR p (q.start0 e te ts b) :: L) := Sat.quI (q.start0 e te ts b) ⟨a.sc, sv, a.sw, a.r1, a.r2, a.r3, a.r4⟩ (O2.sel [1, 2, 3, 4, 5, 6, 0] 7 rfl (Nat.le_add_left _ _))
  refine F_quorum_Quorum_most.is ok0.c O ?_
  unfold QS.start at k
  refine brr_of (fun hm => ?_) (fun hm => ?_)
  · rw [if_pos hm] at k
    exact F_quorum_Quorum_write.is ok0 (by decide) O k
  · rw [if_neg (by simp [hm])] at k
    exact F_quorum_Quorum_prepares.is ok0 O k
end
end Go.Proofs.Ytigcpkejjjgkeaa.V
/- The program's quorum: what it does with a message of each kind; Hear. -/
namespace Go.Proofs.Ytigcpkejjjgkeaa.V
open Go Go.RowKit
set_option linter.unusedVariables false
set_option linter.unusedSimpArgs false
section
variable {h0 h : Heap} {L : List Res} {p : Nat} {q : QS} {m : Mg}
theorem msgs_none (O : Sat h0 h L) : Sat h0 h (msgsR ⟨none, 0, 0⟩ [] :: L) := Sat.msgsI (ls := []) rfl ((O.none (f := mvR)).nil_buf (sz := 22) (enc := mgC))
theorem F_quorum_above.is {a b c d : Int} {Q : Bool → Heap → Prop} (O : Sat h0 h L) (k : ∀ h', Sat h0 h' L → Q (decide (tagLt c d a b)) h') : F_quorum_above a b c d h Q := by
  rw [F_quorum_above.eq_1, F_quorum_above_of.eq_1]
  refine O.al fun x h O => ?_
  refine O.al fun y h O => ?_
  refine jn1 (fun z h' => h' = h ∧ z = decide (tagLt c d a b)) (fun z h' e => by obtain ⟨rfl, rfl⟩ := e; exact k _ O.drop.drop) fun j hj => ?_
  refine O.ld 1 rfl (ldL_c (ldL_n ?_))
  refine O.ld 0 rfl (ldL_c (ldL_n ?_))
  refine brr_p (fun h1 => hj _ _ ⟨rfl, (decide_eq_true (by unfold tagLt; omega)).symm⟩) (fun h1 => ?_)
  refine O.ld 1 rfl (ldL_c (ldL_n ?_))
  refine O.ld 0 rfl (ldL_c (ldL_n ?_))
  refine brr_eq (fun h2 => ?_) (fun h2 => hj _ _ ⟨rfl, (decide_eq_false (by unfold tagLt; omega)).symm⟩)
  refine O.ld 1 rfl (ldL_c (ldL_n ?_))
  refine O.ld 0 rfl (ldL_c (ldL_n ?_))
  exact hj _ _ ⟨rfl, decide_eq_decide.2 (by unfold tagLt; omega)⟩
theorem QS.Ok.prom (ok : q.Ok) (hb : m.b.length ≤ (140737488355325 : Nat)) : (q.prom m).Ok := by
  unfold QS.prom
  split
  · exact ⟨ok.c, hb, ok.w, ok.n, ok.s, ok.t, ok.b⟩
  · exact ⟨ok.c, ok.v, ok.w, ok.n, ok.s, ok.t, ok.b⟩
theorem QS.Ok.promise (ok : q.Ok) (hb : m.b.length ≤ (140737488355325 : Nat)) (span : Int) : (q.promise m span).1.Ok := by
  unfold QS.promise
  split
  · exact ok
  · split
    · exact (ok.prom hb).wrt (by decide)
    · exact ok.prom hb
theorem F_quorum_Quorum_promise.is {span : Int} {Q : Sl → Heap → Prop} (ok : q.Ok) (hb : m.b.length ≤ (140737488355325 : Nat)) (Vv : Stays h0 L fun h => Bytes h m.v m.b) (O : Sat h0 h (quR p q :: L)) (k : ∀ s h', Sat h0 h' (msgsR s (q.promise m span).2 :: quR p (q.promise m span).1 :: L) → Q s h') : F_quorum_Quorum_promise (some (pt p 0)) m.kind m.frm m.to m.shard m.epoch m.te m.ts m.round m.span m.seen m.v m.peer m.num m.name m.other m.amount m.life m.id m.op m.client m.state m.bad span h Q := by
  rw [F_quorum_Quorum_promise.eq_1, F_quorum_Quorum_promise_of.eq_1]
  refine O.al fun x h O => ?_
  obtain ⟨a, O⟩ := O.swap.qu
  have O : Sat h0 h (own p [.int .i64 q.node, .int .i64 q.shard, .slice a.sc.ptr a.sc.len a.sc.cap, .int .i64 q.phase, .int .u64 q.epoch, .int .u64 q.seen, .int .u64 q.best.1, .int .u64 q.best.2, .int .u64 q.tag.1, .int .u64 q.tag.2, .slice a.sv.ptr a.sv.len a.sv.cap, .int .u64 q.chosen.1, .int .u64 q.chosen.2, .slice a.sw.ptr a.sw.len a.sw.cap, .int .u64 q.begun, .int .u64 q.done, .map (some a.r1), .map (some a.r2), .map (some a.r3), .map (some a.r4)] :: buf 1 i64c a.sc q.cop :: mapR a.r1 q.pm :: mapR a.r2 q.wr :: mapR a.r3 q.rf :: mapR a.r4 q.bt :: poolR [(a.sv, q.val), (a.sw, q.what)] :: own x (mgC m) :: L) := O
  refine jn1 (fun z h' => h' = h ∧ z = decide (q.phase ≠ 1 ∨ m.epoch ≠ q.epoch ∨ m.frm ∈ q.pm)) ?_ ?_
  case refine_2 =>
    intro j hj
    refine ⟨_, rfl, ?_⟩
    refine O.ld 0 rfl (ldL_c (ldL_n ?_))
    refine brr_ne (fun h1 => hj _ _ ⟨rfl, by simp [h1]⟩) (fun h1 => ?_)
    refine O.ld 7 rfl (ldL_c (ldL_n ?_))
    refine ⟨_, rfl, ?_⟩
    refine O.ld 0 rfl (ldL_c (ldL_n ?_))
    refine brr_ne (fun h2 => hj _ _ ⟨rfl, by simp [h2]⟩) (fun h2 => ?_)
    refine ⟨_, rfl, ?_⟩
    refine O.ld 0 rfl (ldL_c (k := .map) (x := some a.r1) (ldL_n ?_))
    refine O.ld 7 rfl (ldL_c (ldL_n ?_))
    refine O.mg 2 rfl ?_
    exact hj _ _ ⟨rfl, by simp [h1, h2]⟩
  rintro z h2 ⟨rfl, rfl⟩
  unfold QS.promise at k
  refine brr_p (fun hc => ?_) (fun hc => ?_)
  · rw [if_pos hc] at k
    exact k _ _ (msgs_none (Sat.quI q a (O.sel [0, 1, 2, 3, 4, 5, 6] 8 rfl (Nat.le_add_left _ _))))
  rw [if_neg hc] at k
  refine ⟨_, rfl, ?_⟩
  refine O.ld 0 rfl (ldL_c (k := .map) (x := some a.r1) (ldL_n ?_))
  refine O.ld 7 rfl (ldL_c (ldL_n ?_))
  refine O.mput 2 rfl fun h O => ?_
  refine O.ld 7 rfl (ldL_c (ldL_c (ldL_n ?_)))
  refine ⟨_, rfl, ?_⟩
  refine O.ld 0 rfl (ldL_c (ldL_c (ldL_n ?_)))
  refine F_quorum_above.is O fun h O => ?_
  have okp := ok.prom (m := m) hb
  refine jn0 (fun h' => Sat h0 h' (quR p (q.prom m) :: L)) ?_ ?_
  · clear O
    intro h O
    obtain ⟨a, O1⟩ := O.qu
    refine ⟨_, rfl, ?_⟩
    refine O1.ld 0 rfl (ldL_c (k := .map) (x := some a.r1) (ldL_n ?_))
    refine O1.mlen 2 rfl ?_
    refine F_quorum_Quorum_most.is okp.c O ?_
    refine brr_of (fun hm => ?_) (fun hm => ?_)
    · rw [if_pos hm] at k
      exact F_quorum_Quorum_write.is okp (by decide) O k
    · rw [if_neg (by simp [hm])] at k
      exact k _ _ (msgs_none O)
  · intro j hj
    refine brr_p (fun ht => ?_) (fun ht => ?_)
    · refine O.ld 7 rfl (ldL_c (ldL_c (ldL_n ?_)))
      refine O.ld 7 rfl (ldL_c (k := .sl) (x := m.v) (ldL_n ?_))
      refine F_slices_Clone_cbaad.is O (fun h O => Vv h (O.sel [] 8 rfl (Nat.le_add_left _ _))) hb fun sv h O => ?_
      refine O.ca 8 2 rfl ?_
      refine ⟨_, rfl, ?_⟩
      refine st_ad (b := p) (o := 6) rfl ?_
      refine O.st 1 rfl (by simp) rfl fun h O => ?_
      dsimp only [V.put, List.set] at O
      refine ⟨_, rfl, ?_⟩
      refine st_ad (b := p) (o := 10) rfl ?_
      refine O.st 1 rfl (by simp) rfl fun h O => ?_
      dsimp only [V.put, List.set] at O
      have O2 := pool_take (O.sel [0, 7, 1, 2, 3, 4, 5, 6] 9 rfl (Nat.le_add_left _ _))
      have O2 := pool_sub O2 (fs := [(sv, m.b), (a.sw, q.what)]) (by
        intro e he
        simp only [List.mem_cons, List.not_mem_nil, or_false] at he
        rcases he with rfl | rfl <;> simp)
      refine hj _ ?_
      unfold QS.prom
      rw [if_pos ht]
      exact Sat.quI ({ q with pm := putK q.pm m.frm, best := (m.te, m.ts), val := m.b }) ⟨a.sc, sv, a.sw, a.r1, a.r2, a.r3, a.r4⟩ (O2.sel [1, 2, 3, 4, 5, 6, 0] 7 rfl (Nat.le_add_left _ _))
    · refine hj _ ?_
      unfold QS.prom
      rw [if_neg ht]
      exact Sat.quI ({ q with pm := putK q.pm m.frm }) a (O.sel [0, 1, 2, 3, 4, 5, 6] 8 rfl (Nat.le_add_left _ _))
theorem QS.Ok.stored (ok : q.Ok) : (q.stored m).Ok := by
  unfold QS.stored
  split
  · split
    · exact ⟨ok.c, ok.v, ok.v, ok.n, ok.s, ok.t, ok.b⟩
    · exact ⟨ok.c, ok.v, ok.w, ok.n, ok.s, ok.t, ok.b⟩
  · exact ok
theorem F_quorum_Quorum_stored.is {span : Int} {Q : Sl → Heap → Prop} (ok : q.Ok) (O : Sat h0 h (quR p q :: L)) (k : ∀ s h', Sat h0 h' (msgsR s [] :: quR p (q.stored m) :: L) → Q s h') : F_quorum_Quorum_stored (some (pt p 0)) m.kind m.frm m.to m.shard m.epoch m.te m.ts m.round m.span m.seen m.v m.peer m.num m.name m.other m.amount m.life m.id m.op m.client m.state m.bad span h Q := by
  rw [F_quorum_Quorum_stored.eq_1, F_quorum_Quorum_stored_of.eq_1]
  refine O.al fun x h O => ?_
  obtain ⟨a, O⟩ := O.swap.qu
  have O : Sat h0 h (own p [.int .i64 q.node, .int .i64 q.shard, .slice a.sc.ptr a.sc.len a.sc.cap, .int .i64 q.phase, .int .u64 q.epoch, .int .u64 q.seen, .int .u64 q.best.1, .int .u64 q.best.2, .int .u64 q.tag.1, .int .u64 q.tag.2, .slice a.sv.ptr a.sv.len a.sv.cap, .int .u64 q.chosen.1, .int .u64 q.chosen.2, .slice a.sw.ptr a.sw.len a.sw.cap, .int .u64 q.begun, .int .u64 q.done, .map (some a.r1), .map (some a.r2), .map (some a.r3), .map (some a.r4)] :: buf 1 i64c a.sc q.cop :: mapR a.r1 q.pm :: mapR a.r2 q.wr :: mapR a.r3 q.rf :: mapR a.r4 q.bt :: poolR [(a.sv, q.val), (a.sw, q.what)] :: own x (mgC m) :: L) := O
  refine jn1 (fun z h' => h' = h ∧ z = decide (q.phase = 2 ∧ m.te = q.tag.1 ∧ m.ts = q.tag.2)) ?_ ?_
  case refine_2 =>
    intro j hj
    refine ⟨_, rfl, ?_⟩
    refine O.ld 0 rfl (ldL_c (ldL_n ?_))
    refine brr_eq (fun h1 => ?_) (fun h1 => hj _ _ ⟨rfl, by simp [h1]⟩)
    refine O.ld 7 rfl (ldL_c (ldL_c (ldL_n ?_)))
    refine ⟨_, rfl, ?_⟩
    refine O.ld 0 rfl (ldL_c (ldL_c (ldL_n ?_)))
    refine hj _ _ ⟨rfl, ?_⟩
    rw [Bool.eq_iff_iff]
    simp [h1]
  rintro z h2 ⟨rfl, rfl⟩
  unfold QS.stored at k
  refine jn0 (fun h' => Sat h0 h' (quR p (if q.phase = 2 ∧ m.te = q.tag.1 ∧ m.ts = q.tag.2 then if q.most ((putK q.wr m.frm).length : Nat) = true then { q with wr := putK q.wr m.frm, phase := 3, chosen := q.tag, what := q.val } else { q with wr := putK q.wr m.frm } else q) :: L)) (fun h O => k _ _ (msgs_none O)) fun j hj => ?_
  refine brr_p (fun hc => ?_) (fun hc => ?_)
  case refine_2 =>
    rw [if_neg hc] at hj
    exact hj _ (Sat.quI q a (O.sel [0, 1, 2, 3, 4, 5, 6] 8 rfl (Nat.le_add_left _ _)))
  rw [if_pos hc] at hj
  refine ⟨_, rfl, ?_⟩
  refine O.ld 0 rfl (ldL_c (k := .map) (x := some a.r2) (ldL_n ?_))
  refine O.ld 7 rfl (ldL_c (ldL_n ?_))
  refine O.mput 3 rfl fun h O => ?_
  refine ⟨_, rfl, ?_⟩
  refine O.ld 0 rfl (ldL_c (k := .map) (x := some a.r2) (ldL_n ?_))
  refine O.mlen 3 rfl ?_
  have Om := Sat.quI ({ q with wr := putK q.wr m.frm }) a (O.sel [0, 1, 2, 3, 4, 5, 6] 8 rfl (Nat.le_add_left _ _))
  refine F_quorum_Quorum_most.is (q := { q with wr := putK q.wr m.frm }) ok.c Om ?_
  refine jn_go ?_
  refine brr_of (fun hm => ?_) (fun hm => ?_)
  · rw [if_pos (show q.most _ = true from hm)] at hj
    refine ⟨_, rfl, ?_⟩
    refine O.ld 0 rfl (ldL_c (ldL_c (ldL_n ?_)))
    refine ⟨_, rfl, ?_⟩
    refine O.ld 0 rfl (ldL_c (k := .sl) (x := a.sv) (ldL_n ?_))
    refine ⟨_, rfl, ?_⟩
    refine st_ad (b := p) (o := 3) rfl ?_
    refine O.st 0 rfl (by simp) rfl fun h O => ?_
    dsimp only [V.put, List.set] at O
    refine ⟨_, rfl, ?_⟩
    refine st_ad (b := p) (o := 11) rfl ?_
    refine O.st 0 rfl (by simp) rfl fun h O => ?_
    dsimp only [V.put, List.set] at O
    refine ⟨_, rfl, ?_⟩
    refine st_ad (b := p) (o := 13) rfl ?_
    refine O.st 0 rfl (by simp) rfl fun h O => ?_
    dsimp only [V.put, List.set] at O
    have O2 := pool_sub (O.sel [6, 0, 1, 2, 3, 4, 5] 8 rfl (Nat.le_add_left _ _)) (fs := [(a.sv, q.val), (a.sv, q.val)]) (by
      intro e he
      simp only [List.mem_cons, List.not_mem_nil, or_false] at he
      rcases he with rfl | rfl <;> simp)
    exact hj _ (Sat.quI ({ q with wr := putK q.wr m.frm, phase := 3, chosen := q.tag, what := q.val }) ⟨a.sc, a.sv, a.sv, a.r1, a.r2, a.r3, a.r4⟩ (O2.sel [1, 2, 3, 4, 5, 6, 0] 7 rfl (Nat.le_add_left _ _)))
  · rw [if_neg (show ¬ q.most _ = true by have hm : q.most ((putK q.wr m.frm).length : Nat) = false := hm; simp [hm])] at hj
    exact hj _ Om
theorem QS.Ok.refuse (ok : q.Ok) (hm : m.frm ∈ q.cop) : (q.refuse m).Ok := by
  unfold QS.refuse
  split
  · exact ⟨ok.c, ok.v, ok.w, ok.n, ok.s, ok.t, ok.b⟩
  · split
    · refine ⟨ok.c, ok.v, ok.w, putK_nodup ok.n, fun x hx => ?_, ok.t, ok.b⟩
      rcases putK_sub hx with hx | rfl
      · exact ok.s x hx
      · exact hm
    · exact QS.Ok.stop ⟨ok.c, ok.v, ok.w, ok.n, ok.s, ok.t, ok.b⟩
theorem F_quorum_Quorum_refuse.is {span : Int} {Q : Sl → Heap → Prop} (ok : q.Ok) (hm : m.frm ∈ q.cop) (O : Sat h0 h (quR p q :: L)) (k : ∀ s h', Sat h0 h' (msgsR s [] :: quR p (q.refuse m) :: L) → Q s h') : F_quorum_Quorum_refuse (some (pt p 0)) m.kind m.frm m.to m.shard m.epoch m.te m.ts m.round m.span m.seen m.v m.peer m.num m.name m.other m.amount m.life m.id m.op m.client m.state m.bad span h Q := by
  rw [F_quorum_Quorum_refuse.eq_1, F_quorum_Quorum_refuse_of.eq_1]
  refine O.al fun x h O => ?_
  obtain ⟨a, O⟩ := O.swap.qu
  have O : Sat h0 h (own p [.int .i64 q.node, .int .i64 q.shard, .slice a.sc.ptr a.sc.len a.sc.cap, .int .i64 q.phase, .int .u64 q.epoch, .int .u64 q.seen, .int .u64 q.best.1, .int .u64 q.best.2, .int .u64 q.tag.1, .int .u64 q.tag.2, .slice a.sv.ptr a.sv.len a.sv.cap, .int .u64 q.chosen.1, .int .u64 q.chosen.2, .slice a.sw.ptr a.sw.len a.sw.cap, .int .u64 q.begun, .int .u64 q.done, .map (some a.r1), .map (some a.r2), .map (some a.r3), .map (some a.r4)] :: buf 1 i64c a.sc q.cop :: mapR a.r1 q.pm :: mapR a.r2 q.wr :: mapR a.r3 q.rf :: mapR a.r4 q.bt :: poolR [(a.sv, q.val), (a.sw, q.what)] :: own x (mgC m) :: L) := O
  refine ⟨_, rfl, ?_⟩
  refine O.ld 0 rfl (ldL_c (ldL_n ?_))
  refine O.ld 7 rfl (ldL_c (ldL_n ?_))
  refine ⟨_, rfl, ?_⟩
  refine st_ad (b := p) (o := 5) rfl ?_
  refine O.st 0 rfl (by simp) rfl fun h O => ?_
  dsimp only [V.put, List.set] at O
  have O : Sat h0 h (own p [.int .i64 q.node, .int .i64 q.shard, .slice a.sc.ptr a.sc.len a.sc.cap, .int .i64 q.phase, .int .u64 q.epoch, .int .u64 (if m.seen > q.seen then m.seen else q.seen), .int .u64 q.best.1, .int .u64 q.best.2, .int .u64 q.tag.1, .int .u64 q.tag.2, .slice a.sv.ptr a.sv.len a.sv.cap, .int .u64 q.chosen.1, .int .u64 q.chosen.2, .slice a.sw.ptr a.sw.len a.sw.cap, .int .u64 q.begun, .int .u64 q.done, .map (some a.r1), .map (some a.r2), .map (some a.r3), .map (some a.r4)] :: buf 1 i64c a.sc q.cop :: mapR a.r1 q.pm :: mapR a.r2 q.wr :: mapR a.r3 q.rf :: mapR a.r4 q.bt :: poolR [(a.sv, q.val), (a.sw, q.what)] :: own x (mgC m) :: L) := O
  refine jn1 (fun z h' => h' = h ∧ z = decide (q.phase = 0 ∨ m.epoch ≠ q.epoch ∨ m.seen ≤ q.epoch)) ?_ ?_
  case refine_2 =>
    intro j hj
    refine ⟨_, rfl, ?_⟩
    refine O.ld 0 rfl (ldL_c (ldL_n ?_))
    refine brr_eq (fun h1 => hj _ _ ⟨rfl, by simp [h1]⟩) (fun h1 => ?_)
    refine O.ld 7 rfl (ldL_c (ldL_n ?_))
    refine ⟨_, rfl, ?_⟩
    refine O.ld 0 rfl (ldL_c (ldL_n ?_))
    refine brr_ne (fun h2 => hj _ _ ⟨rfl, by simp [h2]⟩) (fun h2 => ?_)
    refine O.ld 7 rfl (ldL_c (ldL_n ?_))
    refine ⟨_, rfl, ?_⟩
    refine O.ld 0 rfl (ldL_c (ldL_n ?_))
    exact hj _ _ ⟨rfl, by simp [h1, h2]⟩
  rintro z h2 ⟨rfl, rfl⟩
  unfold QS.refuse at k
  refine brr_p (fun hc => ?_) (fun hc => ?_)
  · rw [if_pos hc] at k
    exact k _ _ (msgs_none (Sat.quI (q.heed m) a (O.sel [0, 1, 2, 3, 4, 5, 6] 8 rfl (Nat.le_add_left _ _))))
  rw [if_neg hc] at k
  refine ⟨_, rfl, ?_⟩
  refine O.ld 0 rfl (ldL_c (k := .map) (x := some a.r3) (ldL_n ?_))
  refine O.ld 7 rfl (ldL_c (ldL_n ?_))
  refine O.mput 4 rfl fun h O => ?_
  have Om := Sat.quI ({ q.heed m with rf := putK q.rf m.frm }) a (O.sel [0, 1, 2, 3, 4, 5, 6] 8 rfl (Nat.le_add_left _ _))
  clear O
  have hrl : (putK q.rf m.frm).length ≤ q.cop.length := nodup_sub_len (putK_nodup ok.n) fun x hx => by
    rcases putK_sub hx with hx | rfl
    · exact ok.s x hx
    · exact hm
  have hcl := ok.c
  refine jn1 (fun z h' => z = !decide (q.holds = true ∧ q.most ((q.cop.length : Int) - ((putK q.rf m.frm).length : Nat)) = true) ∧ Sat h0 h' (quR p { q.heed m with rf := putK q.rf m.frm } :: L)) ?_ ?_
  case refine_2 =>
    intro j hj
    refine F_quorum_Quorum_Holds.is Om ?_
    refine brr_not ?_
    refine brr_of (fun hh => ?_) (fun hh => ?_)
    case refine_2 => exact hj _ _ ⟨by have hh : q.holds = false := hh; simp [hh], Om⟩
    obtain ⟨a2, O⟩ := Om.qu
    refine ⟨_, rfl, ?_⟩
    refine O.ld 0 rfl (ldL_c (k := .sl) (x := a2.sc) (ldL_n ?_))
    rw [(O.view 1 i64c_len (by simp) rfl).1.len]
    refine ⟨_, rfl, ?_⟩
    refine O.ld 0 rfl (ldL_c (k := .map) (x := some a2.r3) (ldL_n ?_))
    refine O.mlen 4 rfl ?_
    have ec : ({ q.heed m with rf := putK q.rf m.frm } : QS).cop = q.cop := rfl
    have er : ({ q.heed m with rf := putK q.rf m.frm } : QS).rf = putK q.rf m.frm := rfl
    rw [ec, er, wrap64 (by omega) (by omega)]
    refine F_quorum_Quorum_most.is (q := { q.heed m with rf := putK q.rf m.frm }) ok.c Om ?_
    refine hj _ _ ⟨?_, Om⟩
    have hh : q.holds = true := hh
    have em : ∀ n, ({ q.heed m with rf := putK q.rf m.frm } : QS).most n = q.most n := fun n => rfl
    rw [em]
    cases q.most ((q.cop.length : Int) - ((putK q.rf m.frm).length : Nat)) <;> simp [hh]
  rintro z h ⟨rfl, O⟩
  refine jn0 (fun h' => Sat h0 h' (quR p (if q.holds = true ∧ q.most ((q.cop.length : Int) - ((putK q.rf m.frm).length : Nat)) = true then { q.heed m with rf := putK q.rf m.frm } else (q.heed m).stop) :: L)) (fun h O => k _ _ (msgs_none O)) fun j hj => ?_
  refine brr_not ?_
  refine brr_p (fun hc => ?_) (fun hc => ?_)
  · rw [if_pos hc] at hj
    exact hj _ O
  · rw [if_neg hc] at hj
    exact F_quorum_Quorum_Stop.is O hj
theorem QS.Ok.beat (ok : q.Ok) : (q.beat m).Ok := by
  unfold QS.beat
  split
  · split
    · exact ⟨ok.c, ok.v, ok.w, ok.n, ok.s, ok.t, ok.b⟩
    · exact ⟨ok.c, ok.v, ok.w, ok.n, ok.s, ok.t, ok.b⟩
  · exact ok
theorem F_quorum_Quorum_beat.is {span : Int} {Q : Sl → Heap → Prop} (ok : q.Ok) (O : Sat h0 h (quR p q :: L)) (k : ∀ s h', Sat h0 h' (msgsR s [] :: quR p (q.beat m) :: L) → Q s h') : F_quorum_Quorum_beat (some (pt p 0)) m.kind m.frm m.to m.shard m.epoch m.te m.ts m.round m.span m.seen m.v m.peer m.num m.name m.other m.amount m.life m.id m.op m.client m.state m.bad span h Q := by
  rw [F_quorum_Quorum_beat.eq_1, F_quorum_Quorum_beat_of.eq_1]
  refine O.al fun x h O => ?_
  have Oq := O.swap
  obtain ⟨a, O⟩ := O.swap.qu
  have O : Sat h0 h (own p [.int .i64 q.node, .int .i64 q.shard, .slice a.sc.ptr a.sc.len a.sc.cap, .int .i64 q.phase, .int .u64 q.epoch, .int .u64 q.seen, .int .u64 q.best.1, .int .u64 q.best.2, .int .u64 q.tag.1, .int .u64 q.tag.2, .slice a.sv.ptr a.sv.len a.sv.cap, .int .u64 q.chosen.1, .int .u64 q.chosen.2, .slice a.sw.ptr a.sw.len a.sw.cap, .int .u64 q.begun, .int .u64 q.done, .map (some a.r1), .map (some a.r2), .map (some a.r3), .map (some a.r4)] :: buf 1 i64c a.sc q.cop :: mapR a.r1 q.pm :: mapR a.r2 q.wr :: mapR a.r3 q.rf :: mapR a.r4 q.bt :: poolR [(a.sv, q.val), (a.sw, q.what)] :: own x (mgC m) :: L) := O
  refine jn1 (fun z h' => h' = h ∧ z = decide (q.holds = true ∧ q.begun ≠ q.done ∧ m.epoch = q.epoch ∧ m.round = q.begun)) ?_ ?_
  case refine_2 =>
    intro j hj
    refine F_quorum_Quorum_Holds.is Oq ?_
    refine brr_of (fun hh => ?_) (fun hh => hj _ _ ⟨rfl, by simp [hh]⟩)
    refine ⟨_, rfl, ?_⟩
    refine O.ld 0 rfl (ldL_c (ldL_n ?_))
    refine ⟨_, rfl, ?_⟩
    refine O.ld 0 rfl (ldL_c (ldL_n ?_))
    refine brr_ne (fun h1 => ?_) (fun h1 => hj _ _ ⟨rfl, by simp [h1]⟩)
    refine O.ld 7 rfl (ldL_c (ldL_n ?_))
    refine ⟨_, rfl, ?_⟩
    refine O.ld 0 rfl (ldL_c (ldL_n ?_))
    refine brr_eq (fun h2 => ?_) (fun h2 => hj _ _ ⟨rfl, by simp [h2]⟩)
    refine O.ld 7 rfl (ldL_c (ldL_n ?_))
    refine ⟨_, rfl, ?_⟩
    refine O.ld 0 rfl (ldL_c (ldL_n ?_))
    refine hj _ _ ⟨rfl, ?_⟩
    rw [Bool.eq_iff_iff]
    simp [hh, h1, h2]
  rintro z h2 ⟨rfl, rfl⟩
  unfold QS.beat at k
  refine jn0 (fun h' => Sat h0 h' (quR p (if q.holds = true ∧ q.begun ≠ q.done ∧ m.epoch = q.epoch ∧ m.round = q.begun then if q.most ((putK q.bt m.frm).length : Nat) = true then { q with bt := putK q.bt m.frm, done := q.begun } else { q with bt := putK q.bt m.frm } else q) :: L)) (fun h O => k _ _ (msgs_none O)) fun j hj => ?_
  refine brr_p (fun hc => ?_) (fun hc => ?_)
  case refine_2 =>
    rw [if_neg hc] at hj
    exact hj _ (Sat.quI q a (O.sel [0, 1, 2, 3, 4, 5, 6] 8 rfl (Nat.le_add_left _ _)))
  rw [if_pos hc] at hj
  refine ⟨_, rfl, ?_⟩
  refine O.ld 0 rfl (ldL_c (k := .map) (x := some a.r4) (ldL_n ?_))
  refine O.ld 7 rfl (ldL_c (ldL_n ?_))
  refine O.mput 5 rfl fun h O => ?_
  refine ⟨_, rfl, ?_⟩
  refine O.ld 0 rfl (ldL_c (k := .map) (x := some a.r4) (ldL_n ?_))
  refine O.mlen 5 rfl ?_
  have Om := Sat.quI ({ q with bt := putK q.bt m.frm }) a (O.sel [0, 1, 2, 3, 4, 5, 6] 8 rfl (Nat.le_add_left _ _))
  refine F_quorum_Quorum_most.is (q := { q with bt := putK q.bt m.frm }) ok.c Om ?_
  refine jn_go ?_
  refine brr_of (fun hm => ?_) (fun hm => ?_)
  · rw [if_pos (show q.most _ = true from hm)] at hj
    refine ⟨_, rfl, ?_⟩
    refine O.ld 0 rfl (ldL_c (ldL_n ?_))
    refine ⟨_, rfl, ?_⟩
    refine st_ad (b := p) (o := 15) rfl ?_
    refine O.st 0 rfl (by simp) rfl fun h O => ?_
    dsimp only [V.put, List.set] at O
    exact hj _ (Sat.quI ({ q with bt := putK q.bt m.frm, done := q.begun }) a (O.sel [0, 1, 2, 3, 4, 5, 6] 8 rfl (Nat.le_add_left _ _)))
  · rw [if_neg (show ¬ q.most _ = true by have hm : q.most ((putK q.bt m.frm).length : Nat) = false := hm; simp [hm])] at hj
    exact hj _ Om
end
theorem push_setQ {h : Heap} {o o' : Obj} : (h.push o).setIfInBounds h.size o' = h.push o' := by
  apply Array.ext_getElem?
  intro i
  rw [Array.getElem?_setIfInBounds, Array.getElem?_push, Array.getElem?_push]
  by_cases hi : h.size = i
  · subst hi; simp
  · rw [if_neg hi, if_neg (Ne.symm hi), if_neg (Ne.symm hi)]
theorem KeptH.pushQ (h : Heap) (o : Obj) : KeptH h (h.push o) := ⟨by simp, fun k hk => by rw [Array.getElem?_push, if_neg (by omega)]⟩
def kindsM : Array MapEntry := #[⟨.int .i64 2, .func (.func 61) #[] #[], 0⟩, ⟨.int .i64 5, .func (.func 62) #[] #[], 1⟩, ⟨.int .i64 3, .func (.func 63) #[] #[], 2⟩, ⟨.int .i64 7, .func (.func 64) #[] #[], 3⟩]
theorem mput_pushQ {kk : IntKind} {n : Int} {v : Value} {h : Heap} {es : Array MapEntry} {c : Nat} {q : Option (Nat × Value)} {K : Heap → Prop} (hq : findM kk n es = some q) (k : K (h.push (putM es c q (.int kk n) v))) : mput kk (some h.size) n v (h.push (.map es c)) K :=
  ⟨es, c, q, by simp, hq, by rw [push_setQ]; exact k⟩
theorem F_quorum_kinds.is {h : Heap} {Q : Option Nat → Heap → Prop} (k : Q (some h.size) (h.push (.map kindsM 4))) : F_quorum_kinds h Q := by
  rw [F_quorum_kinds.eq_1, F_quorum_kinds_of.eq_1]
  unfold alM
  refine mput_pushQ (q := none) rfl ?_
  refine mput_pushQ (q := none) rfl ?_
  refine mput_pushQ (q := none) rfl ?_
  refine mput_pushQ (q := none) rfl ?_
  exact k
theorem find_kinds {n : Int} {h : Heap} {K : Option FV → Bool → Prop} (k2 : n = 2 → K (some ⟨.func 61, [], []⟩) true) (k5 : n = 5 → K (some ⟨.func 62, [], []⟩) true) (k3 : n = 3 → K (some ⟨.func 63, [], []⟩) true) (k7 : n = 7 → K (some ⟨.func 64, [], []⟩) true) (k0 : n ≠ 2 → n ≠ 5 → n ≠ 3 → n ≠ 7 → K none false) : mg .fn .i64 (some h.size) n .nilFunc (h.push (.map kindsM 4)) K := by
  by_cases h2 : n = 2
  · exact ⟨kindsM, 4, some (0, .func (.func 61) #[] #[]), by simp, by subst h2; rfl, k2 h2⟩
  by_cases h5 : n = 5
  · exact ⟨kindsM, 4, some (1, .func (.func 62) #[] #[]), by simp, by subst h5; rfl, k5 h5⟩
  by_cases h3 : n = 3
  · exact ⟨kindsM, 4, some (2, .func (.func 63) #[] #[]), by simp, by subst h3; rfl, k3 h3⟩
  by_cases h7 : n = 7
  · exact ⟨kindsM, 4, some (3, .func (.func 64) #[] #[]), by simp, by subst h7; rfl, k7 h7⟩
  · refine ⟨kindsM, 4, none, by simp, ?_, k0 h2 h5 h3 h7⟩
    have e2 : (n == 2) = false := by simpa using h2
    have e5 : (n == 5) = false := by simpa using h5
    have e3 : (n == 3) = false := by simpa using h3
    have e7 : (n == 7) = false := by simpa using h7
    simp [findM, kindsM, Instr.findNow, Instr.sameNow, e2, e5, e3, e7]
abbrev kindF : Fns := fn1 48 E_quorum_kinds (fn1 49 E_slices_Contains_cfbaf (fn1 61 E_quorum_Quorum_promise (fn1 62 E_quorum_Quorum_stored (fn1 63 E_quorum_Quorum_refuse (fn1 64 E_quorum_Quorum_beat noFns)))))
theorem call_promise {p : Option Addr} {m : Mg} {span : Int} {h : Heap} {K : Sl → Heap → Prop} : (kindF 61 [.pointer p, .agg (mgC m).toArray, .int .i64 span] h fun u h => dec1 .sl u fun x => K x h) = F_quorum_Quorum_promise p m.kind m.frm m.to m.shard m.epoch m.te m.ts m.round m.span m.seen m.v m.peer m.num m.name m.other m.amount m.life m.id m.op m.client m.state m.bad span h K := by kernel_rfl
theorem call_stored {p : Option Addr} {m : Mg} {span : Int} {h : Heap} {K : Sl → Heap → Prop} : (kindF 62 [.pointer p, .agg (mgC m).toArray, .int .i64 span] h fun u h => dec1 .sl u fun x => K x h) = F_quorum_Quorum_stored p m.kind m.frm m.to m.shard m.epoch m.te m.ts m.round m.span m.seen m.v m.peer m.num m.name m.other m.amount m.life m.id m.op m.client m.state m.bad span h K := by kernel_rfl
theorem call_refuse {p : Option Addr} {m : Mg} {span : Int} {h : Heap} {K : Sl → Heap → Prop} : (kindF 63 [.pointer p, .agg (mgC m).toArray, .int .i64 span] h fun u h => dec1 .sl u fun x => K x h) = F_quorum_Quorum_refuse p m.kind m.frm m.to m.shard m.epoch m.te m.ts m.round m.span m.seen m.v m.peer m.num m.name m.other m.amount m.life m.id m.op m.client m.state m.bad span h K := by kernel_rfl
theorem call_beat {p : Option Addr} {m : Mg} {span : Int} {h : Heap} {K : Sl → Heap → Prop} : (kindF 64 [.pointer p, .agg (mgC m).toArray, .int .i64 span] h fun u h => dec1 .sl u fun x => K x h) = F_quorum_Quorum_beat p m.kind m.frm m.to m.shard m.epoch m.te m.ts m.round m.span m.seen m.v m.peer m.num m.name m.other m.amount m.life m.id m.op m.client m.state m.bad span h K := by kernel_rfl
end Go.Proofs.Ytigcpkejjjgkeaa.V
/- The program's quorum: Hear, Propose, Tick, what it tells of itself. -/
namespace Go.Proofs.Ytigcpkejjjgkeaa.V
open Go Go.RowKit
set_option linter.unusedVariables false
set_option linter.unusedSimpArgs false
section
variable {h0 h : Heap} {L : List Res} {p : Nat} {q : QS} {m : Mg}
theorem QS.Ok.hear (ok : q.Ok) (hb : m.b.length ≤ (140737488355325 : Nat)) (span : Int) : (q.hear m span).1.Ok := by
  unfold QS.hear
  by_cases h : m.to ≠ q.node ∨ m.shard ≠ q.shard ∨ m.frm ∉ q.cop
  · rw [if_pos h]; exact ok
  rw [if_neg h]
  have hc : m.frm ∈ q.cop := Decidable.byContradiction fun hn => h (.inr (.inr hn))
  split
  · exact ok.promise hb span
  split
  · exact ok.stored
  split
  · exact ok.refuse hc
  split
  · exact ok.beat
  · exact ok
theorem F_quorum_Quorum_Hear.is {span : Int} {Q : Sl → Heap → Prop} (ok : q.Ok) (hb : m.b.length ≤ (140737488355325 : Nat)) (Vv : Stays h0 L fun h => Bytes h m.v m.b) (O : Sat h0 h (quR p q :: L)) (k : ∀ s h', Sat h0 h' (msgsR s (q.hear m span).2 :: quR p (q.hear m span).1 :: L) → Q s h') : F_quorum_Quorum_Hear (some (pt p 0)) m.kind m.frm m.to m.shard m.epoch m.te m.ts m.round m.span m.seen m.v m.peer m.num m.name m.other m.amount m.life m.id m.op m.client m.state m.bad span h Q := by
  rw [F_quorum_Quorum_Hear.eq_1, F_quorum_Quorum_Hear_of.eq_1]
  refine O.al fun x h O => ?_
  refine O.ld 0 rfl (ldL_c (ldL_n ?_))
  refine F_quorum_kinds.is ?_
  have O := O.kept2 (KeptH.pushQ h (.map kindsM 4))
  refine O.ca 0 1 rfl ?_
  have fk := @find_kinds m.kind h
  generalize h.push (.map kindsM 4) = h at O fk ⊢
  have Oq := O.swap
  obtain ⟨a, O⟩ := O.swap.qu
  have O : Sat h0 h (own p [.int .i64 q.node, .int .i64 q.shard, .slice a.sc.ptr a.sc.len a.sc.cap, .int .i64 q.phase, .int .u64 q.epoch, .int .u64 q.seen, .int .u64 q.best.1, .int .u64 q.best.2, .int .u64 q.tag.1, .int .u64 q.tag.2, .slice a.sv.ptr a.sv.len a.sv.cap, .int .u64 q.chosen.1, .int .u64 q.chosen.2, .slice a.sw.ptr a.sw.len a.sw.cap, .int .u64 q.begun, .int .u64 q.done, .map (some a.r1), .map (some a.r2), .map (some a.r3), .map (some a.r4)] :: buf 1 i64c a.sc q.cop :: mapR a.r1 q.pm :: mapR a.r2 q.wr :: mapR a.r3 q.rf :: mapR a.r4 q.bt :: poolR [(a.sv, q.val), (a.sw, q.what)] :: own x (mgC m) :: L) := O
  have cond : ∀ j : Bool → Heap → Prop, (∀ z h', (h' = h ∧ z = decide (m.to ≠ q.node ∨ m.shard ≠ q.shard ∨ m.frm ∉ q.cop)) → j z h') → ld [.int .i64] (((pt x 0).add 0).add 2) h fun (v34 : Int) => nn (some (pt p 0)) fun (a35 : Addr) => ld [.int .i64] (a35.add 0) h fun (v36 : Int) => brr (v34 != v36) (j true h) (ld [.int .i64] (((pt x 0).add 0).add 3) h fun (v37 : Int) => nn (some (pt p 0)) fun (a38 : Addr) => ld [.int .i64] (a38.add 1) h fun (v39 : Int) => brr (v37 != v39) (j true h) (nn (some (pt p 0)) fun (a40 : Addr) => ld [.sl] (a40.add 2) h fun (v41 : Sl) => ld [.int .i64] (((pt x 0).add 0).add 1) h fun (v42 : Int) => F_slices_Contains_cfbaf v41 v42 h fun (r43 : Bool) (h44 : Heap) => j (!r43) h44)) := by
    intro j hj
    refine O.ld 7 rfl (ldL_c (ldL_n ?_))
    refine ⟨_, rfl, ?_⟩
    refine O.ld 0 rfl (ldL_c (ldL_n ?_))
    refine brr_ne (fun h1 => hj _ _ ⟨rfl, by simp [h1]⟩) (fun h1 => ?_)
    refine O.ld 7 rfl (ldL_c (ldL_n ?_))
    refine ⟨_, rfl, ?_⟩
    refine O.ld 0 rfl (ldL_c (ldL_n ?_))
    refine brr_ne (fun h2 => hj _ _ ⟨rfl, by simp [h2]⟩) (fun h2 => ?_)
    refine ⟨_, rfl, ?_⟩
    refine O.ld 0 rfl (ldL_c (k := .sl) (x := a.sc) (ldL_n ?_))
    refine O.ld 7 rfl (ldL_c (ldL_n ?_))
    refine F_slices_Contains_cfbaf.is (O.view 1 i64c_len (by simp) rfl).1 ok.c ?_
    refine hj _ _ ⟨rfl, ?_⟩
    rw [Bool.eq_iff_iff]
    simp [h1, h2]
  have Vm : Stays h0 (own x (mgC m) :: L) fun h => Bytes h m.v m.b := fun h O => Vv h O.drop
  have k2 : ∀ {r : QS × List Mg} {s : Sl} {h' : Heap}, (∀ s h', Sat h0 h' (msgsR s r.2 :: quR p r.1 :: L) → Q s h') → Sat h0 h' (msgsR s r.2 :: quR p r.1 :: own x (mgC m) :: L) → Q s h' := fun k O => k _ _ (O.sel [0, 1] 3 rfl (Nat.le_add_left _ _))
  refine fk (fun hk => ?_) (fun hk => ?_) (fun hk => ?_) (fun hk => ?_) (fun n2 n5 n3 n7 => ?_)
  · have e : q.hear m span = if m.to ≠ q.node ∨ m.shard ≠ q.shard ∨ m.frm ∉ q.cop then (q, []) else q.promise m span := by
      unfold QS.hear
      simp [hk]
    rw [e] at k
    refine jn1 (fun z h' => h' = h ∧ z = decide (m.to ≠ q.node ∨ m.shard ≠ q.shard ∨ m.frm ∉ q.cop)) ?_ ?_
    case refine_2 =>
      intro j hj
      exact cond j hj
    rintro z h2 ⟨rfl, rfl⟩
    refine brr_p (fun hc => ?_) (fun hc => ?_)
    · rw [if_pos hc] at k
      exact k _ _ (msgs_none (Oq.sel [0] 2 rfl (Nat.le_add_left _ _)))
    rw [if_neg hc] at k
    have hcop : m.frm ∈ q.cop := Decidable.byContradiction fun hn => hc (.inr (.inr hn))
    refine O.ld 7 rfl ?_
    repeat (first | (with_reducible refine ldL_n ?_) | refine ldL_s ?_ | refine ldL_c ?_)
    refine dyn1_at (fs := []) ?_
    refine Eq.mpr (call_promise (m := m)) ?_
    exact F_quorum_Quorum_promise.is ok hb Vm Oq fun s h O => k2 k O
  · have e : q.hear m span = if m.to ≠ q.node ∨ m.shard ≠ q.shard ∨ m.frm ∉ q.cop then (q, []) else (q.stored m, []) := by
      unfold QS.hear
      simp [hk]
    rw [e] at k
    refine jn1 (fun z h' => h' = h ∧ z = decide (m.to ≠ q.node ∨ m.shard ≠ q.shard ∨ m.frm ∉ q.cop)) ?_ ?_
    case refine_2 =>
      intro j hj
      exact cond j hj
    rintro z h2 ⟨rfl, rfl⟩
    refine brr_p (fun hc => ?_) (fun hc => ?_)
    · rw [if_pos hc] at k
      exact k _ _ (msgs_none (Oq.sel [0] 2 rfl (Nat.le_add_left _ _)))
    rw [if_neg hc] at k
    have hcop : m.frm ∈ q.cop := Decidable.byContradiction fun hn => hc (.inr (.inr hn))
    refine O.ld 7 rfl ?_
    repeat (first | (with_reducible refine ldL_n ?_) | refine ldL_s ?_ | refine ldL_c ?_)
    refine dyn1_at (fs := []) ?_
    refine Eq.mpr (call_stored (m := m)) ?_
    exact F_quorum_Quorum_stored.is ok Oq fun s h O => k2 k O
  · have e : q.hear m span = if m.to ≠ q.node ∨ m.shard ≠ q.shard ∨ m.frm ∉ q.cop then (q, []) else (q.refuse m, []) := by
      unfold QS.hear
      simp [hk]
    rw [e] at k
    refine jn1 (fun z h' => h' = h ∧ z = decide (m.to ≠ q.node ∨ m.shard ≠ q.shard ∨ m.frm ∉ q.cop)) ?_ ?_
    case refine_2 =>
      intro j hj
      exact cond j hj
    rintro z h2 ⟨rfl, rfl⟩
    refine brr_p (fun hc => ?_) (fun hc => ?_)
    · rw [if_pos hc] at k
      exact k _ _ (msgs_none (Oq.sel [0] 2 rfl (Nat.le_add_left _ _)))
    rw [if_neg hc] at k
    have hcop : m.frm ∈ q.cop := Decidable.byContradiction fun hn => hc (.inr (.inr hn))
    refine O.ld 7 rfl ?_
    repeat (first | (with_reducible refine ldL_n ?_) | refine ldL_s ?_ | refine ldL_c ?_)
    refine dyn1_at (fs := []) ?_
    refine Eq.mpr (call_refuse (m := m)) ?_
    exact F_quorum_Quorum_refuse.is ok hcop Oq fun s h O => k2 k O
  · have e : q.hear m span = if m.to ≠ q.node ∨ m.shard ≠ q.shard ∨ m.frm ∉ q.cop then (q, []) else (q.beat m, []) := by
      unfold QS.hear
      simp [hk]
    rw [e] at k
    refine jn1 (fun z h' => h' = h ∧ z = decide (m.to ≠ q.node ∨ m.shard ≠ q.shard ∨ m.frm ∉ q.cop)) ?_ ?_
    case refine_2 =>
      intro j hj
      exact cond j hj
    rintro z h2 ⟨rfl, rfl⟩
    refine brr_p (fun hc => ?_) (fun hc => ?_)
    · rw [if_pos hc] at k
      exact k _ _ (msgs_none (Oq.sel [0] 2 rfl (Nat.le_add_left _ _)))
    rw [if_neg hc] at k
    have hcop : m.frm ∈ q.cop := Decidable.byContradiction fun hn => hc (.inr (.inr hn))
    refine O.ld 7 rfl ?_
    repeat (first | (with_reducible refine ldL_n ?_) | refine ldL_s ?_ | refine ldL_c ?_)
    refine dyn1_at (fs := []) ?_
    refine Eq.mpr (call_beat (m := m)) ?_
    exact F_quorum_Quorum_beat.is ok Oq fun s h O => k2 k O
  · have e : q.hear m span = (q, []) := by
      unfold QS.hear
      rw [if_neg n2, if_neg n5, if_neg n3, if_neg n7]
      split <;> rfl
    rw [e] at k
    refine jn1 (fun z h' => h' = h ∧ z = true) ?_ ?_
    case refine_2 =>
      intro j hj
      exact hj _ _ ⟨rfl, rfl⟩
    rintro z h2 ⟨rfl, rfl⟩
    refine brr_tt rfl ?_
    exact k _ _ (msgs_none (Oq.sel [0] 2 rfl (Nat.le_add_left _ _)))
theorem QS.Ok.propose (ok : q.Ok) {b : List UInt8} (hb : b.length ≤ (140737488355325 : Nat)) (span : Int) : (q.propose b span).1.Ok := by
  unfold QS.propose
  split
  · exact ok
  · have := ok.t
    exact QS.Ok.wrt (q := { q with val := b }) ⟨ok.c, hb, ok.w, ok.n, ok.s, ok.t, ok.b⟩ (by omega)
theorem F_quorum_Quorum_Propose.is {v : Sl} {b : List UInt8} {span : Int} {Q : Sl → Bool → Heap → Prop} (ok : q.Ok) (hb : b.length ≤ (140737488355325 : Nat)) (Vv : Stays h0 L fun h => Bytes h v b) (O : Sat h0 h (quR p q :: L)) (k : ∀ s h', Sat h0 h' (msgsR s (q.propose b span).2.1 :: quR p (q.propose b span).1 :: L) → Q s (q.propose b span).2.2 h') : F_quorum_Quorum_Propose (some (pt p 0)) v span h Q := by
  rw [F_quorum_Quorum_Propose.eq_1, F_quorum_Quorum_Propose_of.eq_1]
  have Oq := O
  obtain ⟨a, O⟩ := O.qu
  have hb0 := ok.t
  refine jn1 (fun z h' => h' = h ∧ z = decide (q.phase ≠ 3 ∨ (1099511627776 : Int) ≤ q.tag.2)) ?_ ?_
  case refine_2 =>
    intro j hj
    refine ⟨_, rfl, ?_⟩
    refine O.ld 0 rfl (ldL_c (ldL_n ?_))
    refine brr_ne (fun h1 => hj _ _ ⟨rfl, by simp [h1]⟩) (fun h1 => ?_)
    refine ⟨_, rfl, ?_⟩
    refine O.ld 0 rfl (ldL_c (ldL_n ?_))
    exact hj _ _ ⟨rfl, by simp [h1]⟩
  rintro z h2 ⟨rfl, rfl⟩
  unfold QS.propose at k
  refine brr_p (fun hc => ?_) (fun hc => ?_)
  · rw [if_pos hc] at k
    exact k _ _ (msgs_none Oq)
  rw [if_neg hc] at k
  refine F_slices_Clone_cbaad.is O (fun h O => Vv h (O.sel [] 7 rfl (Nat.le_add_left _ _))) hb fun sv h O => ?_
  refine ⟨_, rfl, ?_⟩
  refine st_ad (b := p) (o := 10) rfl ?_
  refine O.st 1 rfl (by simp) rfl fun h O => ?_
  dsimp only [V.put, List.set] at O
  refine ⟨_, rfl, ?_⟩
  refine O.ld 1 rfl (ldL_c (ldL_n ?_))
  have O2 := pool_take (O.sel [0, 7, 1, 2, 3, 4, 5, 6] 8 rfl (Nat.le_add_left _ _))
  have O2 := pool_sub O2 (fs := [(sv, b), (a.sw, q.what)]) (by
    intro e he
    simp only [List.mem_cons, List.not_mem_nil, or_false] at he
    rcases he with rfl | rfl <;> simp)
  have Oq := Sat.quI ({ q with val := b }) ⟨a.sc, sv, a.sw, a.r1, a.r2, a.r3, a.r4⟩ (O2.sel [1, 2, 3, 4, 5, 6, 0] 7 rfl (Nat.le_add_left _ _))
  have hw : IntKind.u64.wrap (q.tag.2 + 1) = q.tag.2 + 1 := by unfold IntKind.wrap; simp [IntKind.signed, IntKind.bits]; omega
  rw [hw]
  exact F_quorum_Quorum_write.is (q := { q with val := b }) ⟨ok.c, hb, ok.w, ok.n, ok.s, ok.t, ok.b⟩ (by omega) Oq k
theorem Sat.manyApp {α : Type} {f : α → Res} {xs ys : List α} (O : Sat h0 h (many f xs :: many f ys :: L)) : Sat h0 h (many f (xs ++ ys) :: L) := by
  refine O.sepI.mono fun E hE => ?_
  obtain ⟨E1, E2, p1, h1, h2⟩ := hE
  have := star_app h1 h2
  rw [← List.map_append] at this
  exact star_perm this p1
theorem QS.Ok.tick (ok : q.Ok) (span : Int) : (q.tick span).1.Ok := by
  have := ok.b
  unfold QS.tick
  split
  · exact ok
  split
  · split
    · exact ok
    · exact ⟨ok.c, ok.v, ok.w, ok.n, ok.s, ok.t, by show 0 ≤ q.begun + 1; omega⟩
  · exact ok
theorem send_len {x : Mg} {out : Int → Bool} : (q.send x out).length ≤ q.cop.length := by
  unfold QS.send
  rw [List.length_map]
  exact List.length_filter_le _ _
theorem tick0_len {span : Int} : (q.tick0 span).length ≤ q.cop.length := by
  unfold QS.tick0
  split
  · exact send_len
  split
  · exact send_len
  · simp
theorem F_quorum_Quorum_Tick.is {span : Int} {Q : Sl → Heap → Prop} (ok : q.Ok) (O : Sat h0 h (quR p q :: L)) (k : ∀ s h', Sat h0 h' (msgsR s (q.tick span).2 :: quR p (q.tick span).1 :: L) → Q s h') : F_quorum_Quorum_Tick (some (pt p 0)) span h Q := by
  rw [F_quorum_Quorum_Tick.eq_1, F_quorum_Quorum_Tick_of.eq_1]
  have hb0 := ok.b
  have hcl := ok.c
  have ht0 := tick0_len (q := q) (span := span)
  obtain ⟨a0, O1⟩ := O.qu
  refine ⟨_, rfl, ?_⟩
  refine O1.ld 0 rfl (ldL_c (ldL_n ?_))
  clear O1
  refine jn1 (fun s h' => Sat h0 h' (msgsR s (q.tick0 span) :: quR p q :: L)) ?_ ?_
  case refine_2 =>
    intro j hj
    unfold QS.tick0 at hj
    refine brr_eq (fun h1 => ?_) (fun h1 => ?_)
    · rw [if_pos h1] at hj
      exact F_quorum_Quorum_prepares.is ok O hj
    rw [if_neg h1] at hj
    refine jn_go ?_
    refine brr_eq (fun h2 => ?_) (fun h2 => ?_)
    · rw [if_pos h2] at hj
      exact F_quorum_Quorum_writes.is ok O hj
    · rw [if_neg h2] at hj
      exact hj _ _ (msgs_none O)
  clear O
  rintro s h O
  unfold QS.tick at k
  refine F_quorum_Quorum_Holds.is O.swap ?_
  refine brr_not ?_
  refine brr_of (fun hh => ?_) (fun hh => ?_)
  case refine_2 =>
    rw [if_pos hh] at k
    exact k _ _ O
  rw [if_neg (by simp [hh])] at k
  obtain ⟨a, O1⟩ := O.swap.qu
  refine ⟨_, rfl, ?_⟩
  refine O1.ld 0 rfl (ldL_c (ldL_n ?_))
  refine ⟨_, rfl, ?_⟩
  refine O1.ld 0 rfl (ldL_c (ldL_n ?_))
  have fin : ∀ {q2 : QS} {h : Heap}, q2.Ok → q2.cop = q.cop → Sat h0 h (quR p q2 :: msgsR s (q.tick0 span) :: L) → (∀ s' h', Sat h0 h' (msgsR s' (q.tick0 span ++ q2.beats span) :: quR p q2 :: L) → Q s' h') → F_quorum_Quorum_beats (some (pt p 0)) span h fun r33 h34 => app 66 22 208 (.agg #[.int .i64 0, .int .i64 0, .int .i64 0, .int .i64 0, .int .u64 0, .int .u64 0, .int .u64 0, .int .u64 0, .int .i64 0, .int .u64 0, .slice none 0 0, .int .i64 0, .int .u64 0, .string (⟨#[]⟩ : ByteArray), .string (⟨#[]⟩ : ByteArray), .int .u64 0, .int .u64 0, .int .u64 0, .int .i64 0, .int .i64 0, .int .i64 0, .int .i64 0]) s r33.ptr r33.len h34 fun s35 h36 => Q s35 h36 := by
    intro q2 h ok2 ec O kk
    refine F_quorum_Quorum_beats.is ok2 O fun s2 h O => ?_
    obtain ⟨ls2, e2, O⟩ := O.msgs
    obtain ⟨ls, e1, O⟩ := (O.sel [3, 0, 1, 2] 4 rfl (Nat.le_add_left _ _)).msgs
    have V := (O.view 2 mgC_len (by simp) rfl).1
    have l1 : ls.length ≤ 1000000 := by have := congrArg List.length e1; rw [List.length_map] at this; omega
    have l2 : ls2.length ≤ 1000000 := by
      have := congrArg List.length e2
      have := send_len (q := q2) (x := { mgz with kind := 6, epoch := q2.epoch, round := q2.begun, span := span }) (out := fun c => decide (c ∈ q2.bt))
      have e3 : (q2.beats span).length ≤ q2.cop.length := this
      rw [ec] at e3
      rw [List.length_map] at *
      omega
    refine Sat.app_buf (enc := mgC) O mgC_len mgC_one (by simp [Value.cells]) (ys := ls2) V.len (V.rd mgC_len) (by omega) fun s3 h O _ => ?_
    have O := Sat.manyApp (O.sel [1, 3, 0, 4] 5 rfl (Nat.le_add_left _ _))
    exact kk _ _ (Sat.msgsI (by rw [List.map_append, e1, e2]) O.swap)
  refine jn0 (fun h' => F_quorum_Quorum_beats (some (pt p 0)) span h' fun r33 h34 => app 66 22 208 (.agg #[.int .i64 0, .int .i64 0, .int .i64 0, .int .i64 0, .int .u64 0, .int .u64 0, .int .u64 0, .int .u64 0, .int .i64 0, .int .u64 0, .slice none 0 0, .int .i64 0, .int .u64 0, .string (⟨#[]⟩ : ByteArray), .string (⟨#[]⟩ : ByteArray), .int .u64 0, .int .u64 0, .int .u64 0, .int .i64 0, .int .i64 0, .int .i64 0, .int .i64 0]) s r33.ptr r33.len h34 fun s35 h36 => Q s35 h36) (fun h x => x) fun j hj => ?_
  refine brr_eq (fun he => ?_) (fun he => ?_)
  · rw [if_pos he] at k
    refine ⟨_, rfl, ?_⟩
    refine O1.ld 0 rfl (ldL_c (ldL_n ?_))
    refine brr_p (fun hm => ?_) (fun hm => ?_)
    · rw [if_pos hm] at k
      exact k _ _ O
    have hm2 : ¬ (1099511627776 : Int) ≤ q.begun := hm
    rw [if_neg hm2] at k
    refine ⟨_, rfl, ?_⟩
    refine O1.ld 0 rfl (ldL_c (ldL_n ?_))
    have hw : IntKind.u64.wrap (q.begun + 1) = q.begun + 1 := by unfold IntKind.wrap; simp [IntKind.signed, IntKind.bits]; omega
    rw [hw]
    refine ⟨_, rfl, ?_⟩
    refine st_ad (b := p) (o := 14) rfl ?_
    refine O1.st 0 rfl (by simp) rfl fun h O => ?_
    dsimp only [V.put, List.set] at O
    refine ⟨_, rfl, ?_⟩
    refine O.ld 0 rfl (ldL_c (k := .map) (x := some a.r4) (ldL_n ?_))
    refine O.mclr 5 rfl fun h O => ?_
    have Oq := Sat.quI q.rise a O
    refine hj _ (fin (q2 := q.rise) ?_ rfl Oq k)
    exact ⟨ok.c, ok.v, ok.w, ok.n, ok.s, ok.t, by show 0 ≤ q.begun + 1; omega⟩
  · rw [if_neg he] at k
    exact hj _ (fin ok rfl O.swap k)
theorem F_quorum_Quorum_Chosen.is {Q : Int → Int → Sl → Heap → Prop} (ok : q.Ok) (O : Sat h0 h (quR p q :: L)) (k : ∀ s h', Sat h0 h' (buf 1 u8 s q.what :: quR p q :: L) → Q q.chosen.1 q.chosen.2 s h') : F_quorum_Quorum_Chosen (some (pt p 0)) h Q := by
  rw [F_quorum_Quorum_Chosen.eq_1, F_quorum_Quorum_Chosen_of.eq_1]
  refine O.al fun x h O => ?_
  obtain ⟨a, O⟩ := O.swap.qu
  refine ⟨_, rfl, ?_⟩
  refine O.ld 0 rfl (ldL_c (ldL_c (ldL_n ?_)))
  refine ⟨_, rfl, ?_⟩
  refine O.ld 0 rfl (ldL_c (k := .sl) (x := a.sw) (ldL_n ?_))
  refine F_slices_Clone_cbaad.is O (fun h O => pool_view O 6 (by simp) rfl (e := (a.sw, q.what)) (by simp)) ok.w fun s h O => ?_
  refine O.ca 1 2 rfl ?_
  refine O.st 8 rfl (by simp) rfl fun h O => ?_
  dsimp only [V.put, List.set] at O
  refine O.ld 8 rfl (ldL_c (ldL_c (ldL_n ?_)))
  refine k _ _ ?_
  exact (Sat.quI q a (O.sel [1, 2, 3, 4, 5, 6, 7, 0] 9 rfl (Nat.le_add_left _ _))).swap
theorem F_quorum_Quorum_Round.is {Q : Int → Int → Heap → Prop} (O : Sat h0 h (quR p q :: L)) (k : Q q.begun q.done h) : F_quorum_Quorum_Round (some (pt p 0)) h Q := by
  rw [F_quorum_Quorum_Round.eq_1, F_quorum_Quorum_Round_of.eq_1]
  obtain ⟨a, O⟩ := O.qu
  refine ⟨_, rfl, ?_⟩
  refine O.ld 0 rfl (ldL_c (ldL_n ?_))
  refine ⟨_, rfl, ?_⟩
  refine O.ld 0 rfl (ldL_c (ldL_n ?_))
  exact k
theorem F_quorum_Quorum_Phase.is {Q : Int → Heap → Prop} (O : Sat h0 h (quR p q :: L)) (k : Q q.phase h) : F_quorum_Quorum_Phase (some (pt p 0)) h Q := by
  rw [F_quorum_Quorum_Phase.eq_1, F_quorum_Quorum_Phase_of.eq_1]
  obtain ⟨a, O⟩ := O.qu
  refine ⟨_, rfl, ?_⟩
  refine O.ld 0 rfl (ldL_c (ldL_n ?_))
  exact k
theorem F_quorum_Quorum_Epoch.is {Q : Int → Heap → Prop} (O : Sat h0 h (quR p q :: L)) (k : Q q.epoch h) : F_quorum_Quorum_Epoch (some (pt p 0)) h Q := by
  rw [F_quorum_Quorum_Epoch.eq_1, F_quorum_Quorum_Epoch_of.eq_1]
  obtain ⟨a, O⟩ := O.qu
  refine ⟨_, rfl, ?_⟩
  refine O.ld 0 rfl (ldL_c (ldL_n ?_))
  exact k
theorem F_quorum_Quorum_Seen.is {Q : Int → Heap → Prop} (O : Sat h0 h (quR p q :: L)) (k : Q q.seen h) : F_quorum_Quorum_Seen (some (pt p 0)) h Q := by
  rw [F_quorum_Quorum_Seen.eq_1, F_quorum_Quorum_Seen_of.eq_1]
  obtain ⟨a, O⟩ := O.qu
  refine ⟨_, rfl, ?_⟩
  refine O.ld 0 rfl (ldL_c (ldL_n ?_))
  exact k
end
end Go.Proofs.Ytigcpkejjjgkeaa.V
namespace Go.Proofs.Ytigcpkejjjgkeaa.V
open Go Go.RowKit
set_option linter.unusedVariables false
set_option maxRecDepth 100000
def F_ref0_CmpTag_of  (a1 a2 b3 b4 : Int) (h : Heap) (Q : Int → Heap → Prop) : Prop :=
  al 35 [.int .u64 a1, .int .u64 a2] h fun (a5 : Addr) (h6 : Heap) =>
  al 35 [.int .u64 b3, .int .u64 b4] h6 fun (a7 : Addr) (h8 : Heap) =>
  jn [(5, .one .bool)] (fun (x16 : Bool) (h17 : Heap) =>
  brr x16
  (Q (-1) h17)
  (ld [.int .u64, .int .u64] a5 h17 fun (v18 v19 : Int) =>
  ld [.int .u64, .int .u64] a7 h17 fun (v20 v21 : Int) =>
  brr ((v18 == v20) && ((v19 == v21) && (true)))
  (Q 0 h17)
  (Q 1 h17))) (fun (j9 : Bool → Heap → Prop) =>
  ld [.int .u64] (a5.add 0) h8 fun (v10 : Int) =>
  ld [.int .u64] (a7.add 0) h8 fun (v11 : Int) =>
  brr (decide (v10 < v11))
  (j9 true h8)
  (ld [.int .u64] (a5.add 0) h8 fun (v12 : Int) =>
  ld [.int .u64] (a7.add 0) h8 fun (v13 : Int) =>
  brr (v12 == v13)
  (ld [.int .u64] (a5.add 1) h8 fun (v14 : Int) =>
  ld [.int .u64] (a7.add 1) h8 fun (v15 : Int) =>
  j9 (decide (v14 < v15)) h8)
  (j9 false h8)))
def F_ref0_CmpTag (a1 a2 b3 b4 : Int) (h : Heap) (Q : Int → Heap → Prop) : Prop := F_ref0_CmpTag_of  a1 a2 b3 b4 h Q
def plan57 : Plan := .s (.r [2, 3]) (.s (.b (.s (.rj [(5, .one .bool)] [2, 3]) (.c (.s (.r [4]) .z) (.s (.r [25]) (.c (.s (.r [4]) .z) .z))))) (.s (.r [4]) .z))
theorem F_ref0_CmpTag.eq  (a1 a2 b3 b4 : Int) (h : Heap) (K : Value → Heap → Prop) : F_ref0_CmpTag_of  a1 a2 b3 b4 h (fun (r0 : Int) (h : Heap) => K (.int .i64 r0) h) =
    den Try.prog noFns Try.f57.ntmps plan57 (bodyOf Try.f57) (args0 0 [(.agg #[.int .u64 a1, .int .u64 a2] : Value), (.agg #[.int .u64 b3, .int .u64 b4] : Value)]) h ⟨fun env h => dRes Try.prog Try.f57.results.toList env h K, fun _ _ _ => False, fun env h => dRes Try.prog Try.f57.results.toList env h K⟩ := by kernel_rfl
def E_ref0_CmpTag_of (f : Int → Int → Int → Int → Heap → (Int → Heap → Prop) → Prop) : List Value → Heap → (Value → Heap → Prop) → Prop
  | [v0, v1], h, K => vAgg v0 fun cs0 => decs [.int .u64, .int .u64] cs0.toList fun (a1 a2 : Int) =>
  vAgg v1 fun cs1 => decs [.int .u64, .int .u64] cs1.toList fun (b3 b4 : Int) =>
  f a1 a2 b3 b4 h (fun (r0 : Int) (h : Heap) => K (.int .i64 r0) h)
  | _, _, _ => False
abbrev E_ref0_CmpTag := E_ref0_CmpTag_of F_ref0_CmpTag
theorem E_ref0_CmpTag.right : IsRight Try.prog 57 E_ref0_CmpTag := by
  refine isRight fun vs K w hh => ?_
  match vs, hh with
  | [v0, v1], hh =>
    unfold E_ref0_CmpTag E_ref0_CmpTag_of at hh
    replace hh := vAgg_sound hh; obtain ⟨cs0, rfl, hh⟩ := hh
    replace hh := decs_cons hh; obtain ⟨a1, l0_0, e0_0, hh⟩ := hh
    replace hh := decs_cons hh; obtain ⟨a2, l0_1, e0_1, hh⟩ := hh
    replace hh := decs_nil hh; obtain ⟨rfl, hh⟩ := hh
    subst e0_1
    have ec0 := toArray_eq e0_0
    subst ec0
    replace hh := vAgg_sound hh; obtain ⟨cs1, rfl, hh⟩ := hh
    replace hh := decs_cons hh; obtain ⟨b3, l1_0, e1_0, hh⟩ := hh
    replace hh := decs_cons hh; obtain ⟨b4, l1_1, e1_1, hh⟩ := hh
    replace hh := decs_nil hh; obtain ⟨rfl, hh⟩ := hh
    subst e1_1
    have ec1 := toArray_eq e1_0
    subst ec1
    unfold F_ref0_CmpTag at hh
    exact calls_den noFns_right plan57 _ w K Try.func57 (by kernel_rfl) (by kernel_rfl) (Eq.mp (F_ref0_CmpTag.eq  a1 a2 b3 b4 w.heap K) hh)
theorem ok57 : okFn Try.prog 57 = true := by kernel_rfl
end Go.Proofs.Ytigcpkejjjgkeaa.V
/- The program's replica: what it does with a message of each kind. -/
namespace Go.Proofs.Ytigcpkejjjgkeaa.V
open Go Go.RowKit
set_option linter.unusedVariables false
set_option linter.unusedSimpArgs false
section
variable {h0 h : Heap} {L : List Res}
theorem orCmp {a b c d : Int} : let x := if a < c then (-1 : Int) else if c < a then 1 else 0; let y := if b < d then (-1 : Int) else if d < b then 1 else 0; ((if x = 0 then y else x) < 0 ↔ tagLt a b c d) ∧ ((if x = 0 then y else x) > 0 ↔ tagLt c d a b) := by
  intro x y
  unfold tagLt
  have hx : x = if a < c then (-1 : Int) else if c < a then 1 else 0 := rfl
  have hy : y = if b < d then (-1 : Int) else if d < b then 1 else 0 := rfl
  clear_value x y
  split at hx <;> (try split at hx) <;> split at hy <;> (try split at hy) <;> subst hx <;> subst hy <;> constructor <;> simp <;> omega
end
end Go.Proofs.Ytigcpkejjjgkeaa.V
/- The program's replica: Hear. -/
namespace Go.Proofs.Ytigcpkejjjgkeaa.V
open Go Go.RowKit
set_option linter.unusedVariables false
set_option linter.unusedSimpArgs false
theorem push_set {h : Heap} {o o' : Obj} : (h.push o).setIfInBounds h.size o' = h.push o' := by
  apply Array.ext_getElem?
  intro i
  rw [Array.getElem?_setIfInBounds, Array.getElem?_push, Array.getElem?_push]
  by_cases hi : h.size = i
  · subst hi; simp
  · rw [if_neg hi, if_neg (Ne.symm hi), if_neg (Ne.symm hi)]
theorem KeptH.push (h : Heap) (o : Obj) : KeptH h (h.push o) := ⟨by simp, fun k hk => by rw [Array.getElem?_push, if_neg (by omega)]⟩
def hearsM : Array MapEntry := #[⟨.int .i64 1, .func (.func 44) #[] #[], 0⟩, ⟨.int .i64 4, .func (.func 45) #[] #[], 1⟩, ⟨.int .i64 6, .func (.func 46) #[] #[], 2⟩]
theorem mput_push {kk : IntKind} {n : Int} {v : Value} {h : Heap} {es : Array MapEntry} {c : Nat} {q : Option (Nat × Value)} {K : Heap → Prop} (hq : findM kk n es = some q) (k : K (h.push (putM es c q (.int kk n) v))) : mput kk (some h.size) n v (h.push (.map es c)) K :=
  ⟨es, c, q, by simp, hq, by rw [push_set]; exact k⟩
theorem find_hears {n : Int} {h : Heap} {K : Option FV → Bool → Prop} (k1 : n = 1 → K (some ⟨.func 44, [], []⟩) true) (k4 : n = 4 → K (some ⟨.func 45, [], []⟩) true) (k6 : n = 6 → K (some ⟨.func 46, [], []⟩) true) (k0 : n ≠ 1 → n ≠ 4 → n ≠ 6 → K none false) : mg .fn .i64 (some h.size) n .nilFunc (h.push (.map hearsM 3)) K := by
  by_cases h1 : n = 1
  · exact ⟨hearsM, 3, some (0, .func (.func 44) #[] #[]), by simp, by subst h1; rfl, k1 h1⟩
  by_cases h4 : n = 4
  · exact ⟨hearsM, 3, some (1, .func (.func 45) #[] #[]), by simp, by subst h4; rfl, k4 h4⟩
  by_cases h6 : n = 6
  · exact ⟨hearsM, 3, some (2, .func (.func 46) #[] #[]), by simp, by subst h6; rfl, k6 h6⟩
  · refine ⟨hearsM, 3, none, by simp, ?_, k0 h1 h4 h6⟩
    have e1 : (n == 1) = false := by simpa using h1
    have e4 : (n == 4) = false := by simpa using h4
    have e6 : (n == 6) = false := by simpa using h6
    simp [findM, hearsM, Instr.findNow, Instr.sameNow, e1, e4, e6]
abbrev HK : List Kd := [.int .i64, .int .i64, .int .i64, .int .i64, .int .u64, .int .u64, .int .u64, .int .u64, .int .i64, .int .u64, .sl, .int .i64, .int .u64, .str, .str, .int .u64, .int .u64, .int .u64, .int .i64, .int .i64, .int .i64, .int .i64, .bool, .bool, .bool]
theorem dyn_at {ks : List Kd} {Φ : Fns} {id : Nat} {vs : List Value} {h : Heap} {K : Fn ks (Heap → Prop)} (k : Φ id vs h fun u h => vAgg u fun cs => decsH ks cs.toList K h) : dynA ks Φ (Kd.enc .fn (some ⟨.func id, [], []⟩)) vs h K :=
  ⟨_, id, rfl, rfl, by simpa using k⟩
theorem prep_ans {r : RS} {m : Mg} : (prep r m).2.ans = false := by unfold prep; split <;> rfl
theorem writ_ans {r : RS} {m : Mg} : (writ r m).2.ans = false := by unfold writ; split; rfl; split; rfl; split <;> rfl
theorem beats_ans {r : RS} {m : Mg} : (beats r m).2.ans = false := by unfold beats; split <;> rfl
section
variable {h0 h : Heap} {L : List Res}
end
end Go.Proofs.Ytigcpkejjjgkeaa.V
namespace Go.Proofs.Ytigcpkejjjgkeaa.V
open Go Go.RowKit
set_option linter.unusedVariables false
set_option maxRecDepth 100000
def F_ref0_EqMsg_of (f60_ : Sl → Sl → Heap → (Int → Heap → Prop) → Prop) (a1 a2 a3 a4 a5 a6 a7 a8 a9 a10 : Int) (a11 : Sl) (a12 a13 : Int) (a14 a15 : ByteArray) (a16 a17 a18 a19 a20 a21 a22 b23 b24 b25 b26 b27 b28 b29 b30 b31 b32 : Int) (b33 : Sl) (b34 b35 : Int) (b36 b37 : ByteArray) (b38 b39 b40 b41 b42 b43 b44 : Int) (h : Heap) (Q : Bool → Heap → Prop) : Prop :=
  al 66 [.int .i64 a1, .int .i64 a2, .int .i64 a3, .int .i64 a4, .int .u64 a5, .int .u64 a6, .int .u64 a7, .int .u64 a8, .int .i64 a9, .int .u64 a10, .slice a11.ptr a11.len a11.cap, .int .i64 a12, .int .u64 a13, .string a14, .string a15, .int .u64 a16, .int .u64 a17, .int .u64 a18, .int .i64 a19, .int .i64 a20, .int .i64 a21, .int .i64 a22] h fun (a45 : Addr) (h46 : Heap) =>
  al 66 [.int .i64 b23, .int .i64 b24, .int .i64 b25, .int .i64 b26, .int .u64 b27, .int .u64 b28, .int .u64 b29, .int .u64 b30, .int .i64 b31, .int .u64 b32, .slice b33.ptr b33.len b33.cap, .int .i64 b34, .int .u64 b35, .string b36, .string b37, .int .u64 b38, .int .u64 b39, .int .u64 b40, .int .i64 b41, .int .i64 b42, .int .i64 b43, .int .i64 b44] h46 fun (a47 : Addr) (h48 : Heap) =>
  jn [(4, .one .bool)] (fun (x96 : Bool) (h97 : Heap) =>
  Q x96 h97) (fun (j49 : Bool → Heap → Prop) =>
  ld [.int .i64, .int .i64, .int .i64, .int .i64] (a45.add 0) h48 fun (v50 v51 v52 v53 : Int) =>
  ld [.int .i64, .int .i64, .int .i64, .int .i64] (a47.add 0) h48 fun (v54 v55 v56 v57 : Int) =>
  brr ((v50 == v54) && ((v51 == v55) && ((v52 == v56) && ((v53 == v57) && (true)))))
  (ld [.int .u64] (a45.add 4) h48 fun (v58 : Int) =>
  ld [.int .u64] (a47.add 4) h48 fun (v59 : Int) =>
  brr (v58 == v59)
  (ld [.int .u64, .int .u64] (a45.add 5) h48 fun (v60 v61 : Int) =>
  ld [.int .u64, .int .u64] (a47.add 5) h48 fun (v62 v63 : Int) =>
  brr ((v60 == v62) && ((v61 == v63) && (true)))
  (ld [.int .u64] (a45.add 7) h48 fun (v64 : Int) =>
  ld [.int .u64] (a47.add 7) h48 fun (v65 : Int) =>
  brr (v64 == v65)
  (ld [.int .i64] (a45.add 8) h48 fun (v66 : Int) =>
  ld [.int .i64] (a47.add 8) h48 fun (v67 : Int) =>
  brr (v66 == v67)
  (ld [.int .u64] (a45.add 9) h48 fun (v68 : Int) =>
  ld [.int .u64] (a47.add 9) h48 fun (v69 : Int) =>
  brr (v68 == v69)
  (ld [.sl] (a45.add 10) h48 fun (v70 : Sl) =>
  ld [.sl] (a47.add 10) h48 fun (v71 : Sl) =>
  f60_ v70 v71 h48 fun (r72 : Int) (h73 : Heap) =>
  brr (r72 == 0)
  (ld [.int .i64] (a45.add 11) h73 fun (v74 : Int) =>
  ld [.int .i64] (a47.add 11) h73 fun (v75 : Int) =>
  brr (v74 == v75)
  (ld [.int .u64] (a45.add 12) h73 fun (v76 : Int) =>
  ld [.int .u64] (a47.add 12) h73 fun (v77 : Int) =>
  brr (v76 == v77)
  (ld [.str] (a45.add 13) h73 fun (v78 : ByteArray) =>
  ld [.str] (a47.add 13) h73 fun (v79 : ByteArray) =>
  brr (v78.toList == v79.toList)
  (ld [.str] (a45.add 14) h73 fun (v80 : ByteArray) =>
  ld [.str] (a47.add 14) h73 fun (v81 : ByteArray) =>
  brr (v80.toList == v81.toList)
  (ld [.int .u64] (a45.add 15) h73 fun (v82 : Int) =>
  ld [.int .u64] (a47.add 15) h73 fun (v83 : Int) =>
  brr (v82 == v83)
  (ld [.int .u64, .int .u64] (a45.add 16) h73 fun (v84 v85 : Int) =>
  ld [.int .u64, .int .u64] (a47.add 16) h73 fun (v86 v87 : Int) =>
  brr ((v84 == v86) && ((v85 == v87) && (true)))
  (ld [.int .i64] (a45.add 18) h73 fun (v88 : Int) =>
  ld [.int .i64] (a47.add 18) h73 fun (v89 : Int) =>
  brr (v88 == v89)
  (ld [.int .i64] (a45.add 19) h73 fun (v90 : Int) =>
  ld [.int .i64] (a47.add 19) h73 fun (v91 : Int) =>
  brr (v90 == v91)
  (ld [.int .i64] (a45.add 20) h73 fun (v92 : Int) =>
  ld [.int .i64] (a47.add 20) h73 fun (v93 : Int) =>
  brr (v92 == v93)
  (ld [.int .i64] (a45.add 21) h73 fun (v94 : Int) =>
  ld [.int .i64] (a47.add 21) h73 fun (v95 : Int) =>
  j49 (v94 == v95) h73)
  (j49 false h73))
  (j49 false h73))
  (j49 false h73))
  (j49 false h73))
  (j49 false h73))
  (j49 false h73))
  (j49 false h73))
  (j49 false h73))
  (j49 false h73))
  (j49 false h73))
  (j49 false h48))
  (j49 false h48))
  (j49 false h48))
  (j49 false h48))
  (j49 false h48))
  (j49 false h48))
def F_ref0_EqMsg (a1 a2 a3 a4 a5 a6 a7 a8 a9 a10 : Int) (a11 : Sl) (a12 a13 : Int) (a14 a15 : ByteArray) (a16 a17 a18 a19 a20 a21 a22 b23 b24 b25 b26 b27 b28 b29 b30 b31 b32 : Int) (b33 : Sl) (b34 b35 : Int) (b36 b37 : ByteArray) (b38 b39 b40 b41 b42 b43 b44 : Int) (h : Heap) (Q : Bool → Heap → Prop) : Prop := F_ref0_EqMsg_of F_ref0_Cmp a1 a2 a3 a4 a5 a6 a7 a8 a9 a10 a11 a12 a13 a14 a15 a16 a17 a18 a19 a20 a21 a22 b23 b24 b25 b26 b27 b28 b29 b30 b31 b32 b33 b34 b35 b36 b37 b38 b39 b40 b41 b42 b43 b44 h Q
def plan47 : Plan := .s (.r [2, 3]) (.s (.rj [(4, .one .bool)] []) .z)
theorem F_ref0_EqMsg.eq (f60_ : Sl → Sl → Heap → (Int → Heap → Prop) → Prop) (a1 a2 a3 a4 a5 a6 a7 a8 a9 a10 : Int) (a11 : Sl) (a12 a13 : Int) (a14 a15 : ByteArray) (a16 a17 a18 a19 a20 a21 a22 b23 b24 b25 b26 b27 b28 b29 b30 b31 b32 : Int) (b33 : Sl) (b34 b35 : Int) (b36 b37 : ByteArray) (b38 b39 b40 b41 b42 b43 b44 : Int) (h : Heap) (K : Value → Heap → Prop) : F_ref0_EqMsg_of f60_ a1 a2 a3 a4 a5 a6 a7 a8 a9 a10 a11 a12 a13 a14 a15 a16 a17 a18 a19 a20 a21 a22 b23 b24 b25 b26 b27 b28 b29 b30 b31 b32 b33 b34 b35 b36 b37 b38 b39 b40 b41 b42 b43 b44 h (fun (r0 : Bool) (h : Heap) => K (.bool r0) h) =
    den Try.prog (fn1 60 (E_ref0_Cmp_of f60_) noFns) Try.f47.ntmps plan47 (bodyOf Try.f47) (args0 0 [(.agg #[.int .i64 a1, .int .i64 a2, .int .i64 a3, .int .i64 a4, .int .u64 a5, .int .u64 a6, .int .u64 a7, .int .u64 a8, .int .i64 a9, .int .u64 a10, .slice a11.ptr a11.len a11.cap, .int .i64 a12, .int .u64 a13, .string a14, .string a15, .int .u64 a16, .int .u64 a17, .int .u64 a18, .int .i64 a19, .int .i64 a20, .int .i64 a21, .int .i64 a22] : Value), (.agg #[.int .i64 b23, .int .i64 b24, .int .i64 b25, .int .i64 b26, .int .u64 b27, .int .u64 b28, .int .u64 b29, .int .u64 b30, .int .i64 b31, .int .u64 b32, .slice b33.ptr b33.len b33.cap, .int .i64 b34, .int .u64 b35, .string b36, .string b37, .int .u64 b38, .int .u64 b39, .int .u64 b40, .int .i64 b41, .int .i64 b42, .int .i64 b43, .int .i64 b44] : Value)]) h ⟨fun env h => dRes Try.prog Try.f47.results.toList env h K, fun _ _ _ => False, fun env h => dRes Try.prog Try.f47.results.toList env h K⟩ := by kernel_rfl
def E_ref0_EqMsg_of (f : Int → Int → Int → Int → Int → Int → Int → Int → Int → Int → Sl → Int → Int → ByteArray → ByteArray → Int → Int → Int → Int → Int → Int → Int → Int → Int → Int → Int → Int → Int → Int → Int → Int → Int → Sl → Int → Int → ByteArray → ByteArray → Int → Int → Int → Int → Int → Int → Int → Heap → (Bool → Heap → Prop) → Prop) : List Value → Heap → (Value → Heap → Prop) → Prop
  | [v0, v1], h, K => vAgg v0 fun cs0 => decs [.int .i64, .int .i64, .int .i64, .int .i64, .int .u64, .int .u64, .int .u64, .int .u64, .int .i64, .int .u64, .sl, .int .i64, .int .u64, .str, .str, .int .u64, .int .u64, .int .u64, .int .i64, .int .i64, .int .i64, .int .i64] cs0.toList fun (a1 a2 a3 a4 a5 a6 a7 a8 a9 a10 : Int) (a11 : Sl) (a12 a13 : Int) (a14 a15 : ByteArray) (a16 a17 a18 a19 a20 a21 a22 : Int) =>
  vAgg v1 fun cs1 => decs [.int .i64, .int .i64, .int .i64, .int .i64, .int .u64, .int .u64, .int .u64, .int .u64, .int .i64, .int .u64, .sl, .int .i64, .int .u64, .str, .str, .int .u64, .int .u64, .int .u64, .int .i64, .int .i64, .int .i64, .int .i64] cs1.toList fun (b23 b24 b25 b26 b27 b28 b29 b30 b31 b32 : Int) (b33 : Sl) (b34 b35 : Int) (b36 b37 : ByteArray) (b38 b39 b40 b41 b42 b43 b44 : Int) =>
  f a1 a2 a3 a4 a5 a6 a7 a8 a9 a10 a11 a12 a13 a14 a15 a16 a17 a18 a19 a20 a21 a22 b23 b24 b25 b26 b27 b28 b29 b30 b31 b32 b33 b34 b35 b36 b37 b38 b39 b40 b41 b42 b43 b44 h (fun (r0 : Bool) (h : Heap) => K (.bool r0) h)
  | _, _, _ => False
abbrev E_ref0_EqMsg := E_ref0_EqMsg_of F_ref0_EqMsg
theorem E_ref0_EqMsg.right : IsRight Try.prog 47 E_ref0_EqMsg := by
  refine isRight fun vs K w hh => ?_
  match vs, hh with
  | [v0, v1], hh =>
    unfold E_ref0_EqMsg E_ref0_EqMsg_of at hh
    replace hh := vAgg_sound hh; obtain ⟨cs0, rfl, hh⟩ := hh
    replace hh := decs_cons hh; obtain ⟨a1, l0_0, e0_0, hh⟩ := hh
    replace hh := decs_cons hh; obtain ⟨a2, l0_1, e0_1, hh⟩ := hh
    replace hh := decs_cons hh; obtain ⟨a3, l0_2, e0_2, hh⟩ := hh
    replace hh := decs_cons hh; obtain ⟨a4, l0_3, e0_3, hh⟩ := hh
    replace hh := decs_cons hh; obtain ⟨a5, l0_4, e0_4, hh⟩ := hh
    replace hh := decs_cons hh; obtain ⟨a6, l0_5, e0_5, hh⟩ := hh
    replace hh := decs_cons hh; obtain ⟨a7, l0_6, e0_6, hh⟩ := hh
    replace hh := decs_cons hh; obtain ⟨a8, l0_7, e0_7, hh⟩ := hh
    replace hh := decs_cons hh; obtain ⟨a9, l0_8, e0_8, hh⟩ := hh
    replace hh := decs_cons hh; obtain ⟨a10, l0_9, e0_9, hh⟩ := hh
    replace hh := decs_cons hh; obtain ⟨a11, l0_10, e0_10, hh⟩ := hh
    replace hh := decs_cons hh; obtain ⟨a12, l0_11, e0_11, hh⟩ := hh
    replace hh := decs_cons hh; obtain ⟨a13, l0_12, e0_12, hh⟩ := hh
    replace hh := decs_cons hh; obtain ⟨a14, l0_13, e0_13, hh⟩ := hh
    replace hh := decs_cons hh; obtain ⟨a15, l0_14, e0_14, hh⟩ := hh
    replace hh := decs_cons hh; obtain ⟨a16, l0_15, e0_15, hh⟩ := hh
    replace hh := decs_cons hh; obtain ⟨a17, l0_16, e0_16, hh⟩ := hh
    replace hh := decs_cons hh; obtain ⟨a18, l0_17, e0_17, hh⟩ := hh
    replace hh := decs_cons hh; obtain ⟨a19, l0_18, e0_18, hh⟩ := hh
    replace hh := decs_cons hh; obtain ⟨a20, l0_19, e0_19, hh⟩ := hh
    replace hh := decs_cons hh; obtain ⟨a21, l0_20, e0_20, hh⟩ := hh
    replace hh := decs_cons hh; obtain ⟨a22, l0_21, e0_21, hh⟩ := hh
    replace hh := decs_nil hh; obtain ⟨rfl, hh⟩ := hh
    subst e0_21
    subst e0_20
    subst e0_19
    subst e0_18
    subst e0_17
    subst e0_16
    subst e0_15
    subst e0_14
    subst e0_13
    subst e0_12
    subst e0_11
    subst e0_10
    subst e0_9
    subst e0_8
    subst e0_7
    subst e0_6
    subst e0_5
    subst e0_4
    subst e0_3
    subst e0_2
    subst e0_1
    have ec0 := toArray_eq e0_0
    subst ec0
    replace hh := vAgg_sound hh; obtain ⟨cs1, rfl, hh⟩ := hh
    replace hh := decs_cons hh; obtain ⟨b23, l1_0, e1_0, hh⟩ := hh
    replace hh := decs_cons hh; obtain ⟨b24, l1_1, e1_1, hh⟩ := hh
    replace hh := decs_cons hh; obtain ⟨b25, l1_2, e1_2, hh⟩ := hh
    replace hh := decs_cons hh; obtain ⟨b26, l1_3, e1_3, hh⟩ := hh
    replace hh := decs_cons hh; obtain ⟨b27, l1_4, e1_4, hh⟩ := hh
    replace hh := decs_cons hh; obtain ⟨b28, l1_5, e1_5, hh⟩ := hh
    replace hh := decs_cons hh; obtain ⟨b29, l1_6, e1_6, hh⟩ := hh
    replace hh := decs_cons hh; obtain ⟨b30, l1_7, e1_7, hh⟩ := hh
    replace hh := decs_cons hh; obtain ⟨b31, l1_8, e1_8, hh⟩ := hh
    replace hh := decs_cons hh; obtain ⟨b32, l1_9, e1_9, hh⟩ := hh
    replace hh := decs_cons hh; obtain ⟨b33, l1_10, e1_10, hh⟩ := hh
    replace hh := decs_cons hh; obtain ⟨b34, l1_11, e1_11, hh⟩ := hh
    replace hh := decs_cons hh; obtain ⟨b35, l1_12, e1_12, hh⟩ := hh
    replace hh := decs_cons hh; obtain ⟨b36, l1_13, e1_13, hh⟩ := hh
    replace hh := decs_cons hh; obtain ⟨b37, l1_14, e1_14, hh⟩ := hh
    replace hh := decs_cons hh; obtain ⟨b38, l1_15, e1_15, hh⟩ := hh
    replace hh := decs_cons hh; obtain ⟨b39, l1_16, e1_16, hh⟩ := hh
    replace hh := decs_cons hh; obtain ⟨b40, l1_17, e1_17, hh⟩ := hh
    replace hh := decs_cons hh; obtain ⟨b41, l1_18, e1_18, hh⟩ := hh
    replace hh := decs_cons hh; obtain ⟨b42, l1_19, e1_19, hh⟩ := hh
    replace hh := decs_cons hh; obtain ⟨b43, l1_20, e1_20, hh⟩ := hh
    replace hh := decs_cons hh; obtain ⟨b44, l1_21, e1_21, hh⟩ := hh
    replace hh := decs_nil hh; obtain ⟨rfl, hh⟩ := hh
    subst e1_21
    subst e1_20
    subst e1_19
    subst e1_18
    subst e1_17
    subst e1_16
    subst e1_15
    subst e1_14
    subst e1_13
    subst e1_12
    subst e1_11
    subst e1_10
    subst e1_9
    subst e1_8
    subst e1_7
    subst e1_6
    subst e1_5
    subst e1_4
    subst e1_3
    subst e1_2
    subst e1_1
    have ec1 := toArray_eq e1_0
    subst ec1
    unfold F_ref0_EqMsg at hh
    exact calls_den (fn1_right ok60 E_ref0_Cmp.right noFns_right) plan47 _ w K Try.func47 (by kernel_rfl) (by kernel_rfl) (Eq.mp (F_ref0_EqMsg.eq F_ref0_Cmp a1 a2 a3 a4 a5 a6 a7 a8 a9 a10 a11 a12 a13 a14 a15 a16 a17 a18 a19 a20 a21 a22 b23 b24 b25 b26 b27 b28 b29 b30 b31 b32 b33 b34 b35 b36 b37 b38 b39 b40 b41 b42 b43 b44 w.heap K) hh)
theorem ok47 : okFn Try.prog 47 = true := by kernel_rfl
end Go.Proofs.Ytigcpkejjjgkeaa.V
namespace Go.Proofs.Ytigcpkejjjgkeaa.V
open Go Go.RowKit
set_option linter.unusedVariables false
set_option maxRecDepth 100000
def F_ref0_CopyMsg_of (f56_ : Sl → Heap → (Sl → Heap → Prop) → Prop) (m1 m2 m3 m4 m5 m6 m7 m8 m9 m10 : Int) (m11 : Sl) (m12 m13 : Int) (m14 m15 : ByteArray) (m16 m17 m18 m19 m20 m21 m22 : Int) (h : Heap) (Q : Int → Int → Int → Int → Int → Int → Int → Int → Int → Int → Sl → Int → Int → ByteArray → ByteArray → Int → Int → Int → Int → Int → Int → Int → Heap → Prop) : Prop :=
  al 66 [.int .i64 m1, .int .i64 m2, .int .i64 m3, .int .i64 m4, .int .u64 m5, .int .u64 m6, .int .u64 m7, .int .u64 m8, .int .i64 m9, .int .u64 m10, .slice m11.ptr m11.len m11.cap, .int .i64 m12, .int .u64 m13, .string m14, .string m15, .int .u64 m16, .int .u64 m17, .int .u64 m18, .int .i64 m19, .int .i64 m20, .int .i64 m21, .int .i64 m22] h fun (a23 : Addr) (h24 : Heap) =>
  al 66 [.int .i64 0, .int .i64 0, .int .i64 0, .int .i64 0, .int .u64 0, .int .u64 0, .int .u64 0, .int .u64 0, .int .i64 0, .int .u64 0, .slice none 0 0, .int .i64 0, .int .u64 0, .string (⟨#[]⟩ : ByteArray), .string (⟨#[]⟩ : ByteArray), .int .u64 0, .int .u64 0, .int .u64 0, .int .i64 0, .int .i64 0, .int .i64 0, .int .i64 0] h24 fun (a25 : Addr) (h26 : Heap) =>
  ld [.sl] (a23.add 10) h26 fun (v27 : Sl) =>
  f56_ v27 h26 fun (r28 : Sl) (h29 : Heap) =>
  st (a23.add 10) [.slice r28.ptr r28.len r28.cap] h29 fun (h30 : Heap) =>
  ld [.int .i64, .int .i64, .int .i64, .int .i64, .int .u64, .int .u64, .int .u64, .int .u64, .int .i64, .int .u64, .sl, .int .i64, .int .u64, .str, .str, .int .u64, .int .u64, .int .u64, .int .i64, .int .i64, .int .i64, .int .i64] a23 h30 fun (v31 v32 v33 v34 v35 v36 v37 v38 v39 v40 : Int) (v41 : Sl) (v42 v43 : Int) (v44 v45 : ByteArray) (v46 v47 v48 v49 v50 v51 v52 : Int) =>
  st a25 [.int .i64 v31, .int .i64 v32, .int .i64 v33, .int .i64 v34, .int .u64 v35, .int .u64 v36, .int .u64 v37, .int .u64 v38, .int .i64 v39, .int .u64 v40, .slice v41.ptr v41.len v41.cap, .int .i64 v42, .int .u64 v43, .string v44, .string v45, .int .u64 v46, .int .u64 v47, .int .u64 v48, .int .i64 v49, .int .i64 v50, .int .i64 v51, .int .i64 v52] h30 fun (h53 : Heap) =>
  ld [.int .i64, .int .i64, .int .i64, .int .i64, .int .u64, .int .u64, .int .u64, .int .u64, .int .i64, .int .u64, .sl, .int .i64, .int .u64, .str, .str, .int .u64, .int .u64, .int .u64, .int .i64, .int .i64, .int .i64, .int .i64] a25 h53 fun (v54 v55 v56 v57 v58 v59 v60 v61 v62 v63 : Int) (v64 : Sl) (v65 v66 : Int) (v67 v68 : ByteArray) (v69 v70 v71 v72 v73 v74 v75 : Int) =>
  Q v54 v55 v56 v57 v58 v59 v60 v61 v62 v63 v64 v65 v66 v67 v68 v69 v70 v71 v72 v73 v74 v75 h53
def F_ref0_CopyMsg (m1 m2 m3 m4 m5 m6 m7 m8 m9 m10 : Int) (m11 : Sl) (m12 m13 : Int) (m14 m15 : ByteArray) (m16 m17 m18 m19 m20 m21 m22 : Int) (h : Heap) (Q : Int → Int → Int → Int → Int → Int → Int → Int → Int → Int → Sl → Int → Int → ByteArray → ByteArray → Int → Int → Int → Int → Int → Int → Int → Heap → Prop) : Prop := F_ref0_CopyMsg_of F_ref0_Copy m1 m2 m3 m4 m5 m6 m7 m8 m9 m10 m11 m12 m13 m14 m15 m16 m17 m18 m19 m20 m21 m22 h Q
def plan38 : Plan := .s (.r [1, 2]) (.s (.r [1, 2]) (.s (.r [2]) .z))
theorem F_ref0_CopyMsg.eq (f56_ : Sl → Heap → (Sl → Heap → Prop) → Prop) (m1 m2 m3 m4 m5 m6 m7 m8 m9 m10 : Int) (m11 : Sl) (m12 m13 : Int) (m14 m15 : ByteArray) (m16 m17 m18 m19 m20 m21 m22 : Int) (h : Heap) (K : Value → Heap → Prop) : F_ref0_CopyMsg_of f56_ m1 m2 m3 m4 m5 m6 m7 m8 m9 m10 m11 m12 m13 m14 m15 m16 m17 m18 m19 m20 m21 m22 h (fun (r0 r1 r2 r3 r4 r5 r6 r7 r8 r9 : Int) (r10 : Sl) (r11 r12 : Int) (r13 r14 : ByteArray) (r15 r16 r17 r18 r19 r20 r21 : Int) (h : Heap) => K (.agg #[.int .i64 r0, .int .i64 r1, .int .i64 r2, .int .i64 r3, .int .u64 r4, .int .u64 r5, .int .u64 r6, .int .u64 r7, .int .i64 r8, .int .u64 r9, .slice r10.ptr r10.len r10.cap, .int .i64 r11, .int .u64 r12, .string r13, .string r14, .int .u64 r15, .int .u64 r16, .int .u64 r17, .int .i64 r18, .int .i64 r19, .int .i64 r20, .int .i64 r21]) h) =
    den Try.prog (fn1 56 (E_ref0_Copy_of f56_) noFns) Try.f38.ntmps plan38 (bodyOf Try.f38) (args0 0 [(.agg #[.int .i64 m1, .int .i64 m2, .int .i64 m3, .int .i64 m4, .int .u64 m5, .int .u64 m6, .int .u64 m7, .int .u64 m8, .int .i64 m9, .int .u64 m10, .slice m11.ptr m11.len m11.cap, .int .i64 m12, .int .u64 m13, .string m14, .string m15, .int .u64 m16, .int .u64 m17, .int .u64 m18, .int .i64 m19, .int .i64 m20, .int .i64 m21, .int .i64 m22] : Value)]) h ⟨fun env h => dRes Try.prog Try.f38.results.toList env h K, fun _ _ _ => False, fun env h => dRes Try.prog Try.f38.results.toList env h K⟩ := by kernel_rfl
def E_ref0_CopyMsg_of (f : Int → Int → Int → Int → Int → Int → Int → Int → Int → Int → Sl → Int → Int → ByteArray → ByteArray → Int → Int → Int → Int → Int → Int → Int → Heap → (Int → Int → Int → Int → Int → Int → Int → Int → Int → Int → Sl → Int → Int → ByteArray → ByteArray → Int → Int → Int → Int → Int → Int → Int → Heap → Prop) → Prop) : List Value → Heap → (Value → Heap → Prop) → Prop
  | [v0], h, K => vAgg v0 fun cs0 => decs [.int .i64, .int .i64, .int .i64, .int .i64, .int .u64, .int .u64, .int .u64, .int .u64, .int .i64, .int .u64, .sl, .int .i64, .int .u64, .str, .str, .int .u64, .int .u64, .int .u64, .int .i64, .int .i64, .int .i64, .int .i64] cs0.toList fun (m1 m2 m3 m4 m5 m6 m7 m8 m9 m10 : Int) (m11 : Sl) (m12 m13 : Int) (m14 m15 : ByteArray) (m16 m17 m18 m19 m20 m21 m22 : Int) =>
  f m1 m2 m3 m4 m5 m6 m7 m8 m9 m10 m11 m12 m13 m14 m15 m16 m17 m18 m19 m20 m21 m22 h (fun (r0 r1 r2 r3 r4 r5 r6 r7 r8 r9 : Int) (r10 : Sl) (r11 r12 : Int) (r13 r14 : ByteArray) (r15 r16 r17 r18 r19 r20 r21 : Int) (h : Heap) => K (.agg #[.int .i64 r0, .int .i64 r1, .int .i64 r2, .int .i64 r3, .int .u64 r4, .int .u64 r5, .int .u64 r6, .int .u64 r7, .int .i64 r8, .int .u64 r9, .slice r10.ptr r10.len r10.cap, .int .i64 r11, .int .u64 r12, .string r13, .string r14, .int .u64 r15, .int .u64 r16, .int .u64 r17, .int .i64 r18, .int .i64 r19, .int .i64 r20, .int .i64 r21]) h)
  | _, _, _ => False
abbrev E_ref0_CopyMsg := E_ref0_CopyMsg_of F_ref0_CopyMsg
theorem E_ref0_CopyMsg.right : IsRight Try.prog 38 E_ref0_CopyMsg := by
  refine isRight fun vs K w hh => ?_
  match vs, hh with
  | [v0], hh =>
    unfold E_ref0_CopyMsg E_ref0_CopyMsg_of at hh
    replace hh := vAgg_sound hh; obtain ⟨cs0, rfl, hh⟩ := hh
    replace hh := decs_cons hh; obtain ⟨m1, l0_0, e0_0, hh⟩ := hh
    replace hh := decs_cons hh; obtain ⟨m2, l0_1, e0_1, hh⟩ := hh
    replace hh := decs_cons hh; obtain ⟨m3, l0_2, e0_2, hh⟩ := hh
    replace hh := decs_cons hh; obtain ⟨m4, l0_3, e0_3, hh⟩ := hh
    replace hh := decs_cons hh; obtain ⟨m5, l0_4, e0_4, hh⟩ := hh
    replace hh := decs_cons hh; obtain ⟨m6, l0_5, e0_5, hh⟩ := hh
    replace hh := decs_cons hh; obtain ⟨m7, l0_6, e0_6, hh⟩ := hh
    replace hh := decs_cons hh; obtain ⟨m8, l0_7, e0_7, hh⟩ := hh
    replace hh := decs_cons hh; obtain ⟨m9, l0_8, e0_8, hh⟩ := hh
    replace hh := decs_cons hh; obtain ⟨m10, l0_9, e0_9, hh⟩ := hh
    replace hh := decs_cons hh; obtain ⟨m11, l0_10, e0_10, hh⟩ := hh
    replace hh := decs_cons hh; obtain ⟨m12, l0_11, e0_11, hh⟩ := hh
    replace hh := decs_cons hh; obtain ⟨m13, l0_12, e0_12, hh⟩ := hh
    replace hh := decs_cons hh; obtain ⟨m14, l0_13, e0_13, hh⟩ := hh
    replace hh := decs_cons hh; obtain ⟨m15, l0_14, e0_14, hh⟩ := hh
    replace hh := decs_cons hh; obtain ⟨m16, l0_15, e0_15, hh⟩ := hh
    replace hh := decs_cons hh; obtain ⟨m17, l0_16, e0_16, hh⟩ := hh
    replace hh := decs_cons hh; obtain ⟨m18, l0_17, e0_17, hh⟩ := hh
    replace hh := decs_cons hh; obtain ⟨m19, l0_18, e0_18, hh⟩ := hh
    replace hh := decs_cons hh; obtain ⟨m20, l0_19, e0_19, hh⟩ := hh
    replace hh := decs_cons hh; obtain ⟨m21, l0_20, e0_20, hh⟩ := hh
    replace hh := decs_cons hh; obtain ⟨m22, l0_21, e0_21, hh⟩ := hh
    replace hh := decs_nil hh; obtain ⟨rfl, hh⟩ := hh
    subst e0_21
    subst e0_20
    subst e0_19
    subst e0_18
    subst e0_17
    subst e0_16
    subst e0_15
    subst e0_14
    subst e0_13
    subst e0_12
    subst e0_11
    subst e0_10
    subst e0_9
    subst e0_8
    subst e0_7
    subst e0_6
    subst e0_5
    subst e0_4
    subst e0_3
    subst e0_2
    subst e0_1
    have ec0 := toArray_eq e0_0
    subst ec0
    unfold F_ref0_CopyMsg at hh
    exact calls_den (fn1_right ok56 E_ref0_Copy.right noFns_right) plan38 _ w K Try.func38 (by kernel_rfl) (by kernel_rfl) (Eq.mp (F_ref0_CopyMsg.eq F_ref0_Copy m1 m2 m3 m4 m5 m6 m7 m8 m9 m10 m11 m12 m13 m14 m15 m16 m17 m18 m19 m20 m21 m22 w.heap K) hh)
theorem ok38 : okFn Try.prog 38 = true := by kernel_rfl
end Go.Proofs.Ytigcpkejjjgkeaa.V
/- The document's replica; messages and what is stored, compared and copied. -/
namespace Go.Proofs.Ytigcpkejjjgkeaa.V
open Go Go.RowKit
set_option linter.unusedVariables false
set_option linter.unusedSimpArgs false
section
variable {h0 h : Heap} {L : List Res}
theorem F_ref0_CmpTag.is {a b c d : Int} {Q : Int → Heap → Prop} (O : Sat h0 h L) (k : ∀ h', Sat h0 h' L → Q (if tagLt a b c d then -1 else if a = c ∧ b = d then 0 else 1) h') : F_ref0_CmpTag a b c d h Q := by
  rw [F_ref0_CmpTag.eq_1, F_ref0_CmpTag_of.eq_1]
  refine O.al fun x5 h O => ?_
  refine O.al fun x7 h O => ?_
  refine jn1 (fun z h' => h' = h ∧ z = decide (tagLt a b c d)) ?_ ?_
  · rintro z h ⟨rfl, rfl⟩
    refine brr_p (fun hc => ?_) (fun hc => ?_)
    · rw [if_pos hc] at k
      exact k _ O.drop.drop
    · rw [if_neg hc] at k
      repeat (first | (with_reducible refine al_id ?_); refine O.al fun _ h O => ?_ | (with_reducible refine nn_id ?_); refine ⟨_, rfl, ?_⟩ | (with_reducible refine ld_id ?_); (first | refine O.ld 0 rfl ?_ | refine O.ld 1 rfl ?_); (repeat (first | (with_reducible refine ldL_n ?_) | refine ldL_s ?_ | refine ldL_c ?_)) | (with_reducible refine st_ad (by first | (with_reducible rfl) | (simp only [pt_add, Nat.zero_add, Nat.add_zero, Nat.reduceAdd]; with_reducible rfl)) ?_); (first | refine O.st 0 rfl (by simp) rfl fun h O => ?_ | refine O.st 1 rfl (by simp) rfl fun h O => ?_); (dsimp only [V.put, List.set, List.length_cons, List.length_nil] at O) | (with_reducible refine ca_id ?_); (first | refine O.ca 0 1 rfl ?_ | refine O.ca 0 2 rfl ?_ | refine O.ca 1 1 rfl ?_ | refine O.ca 1 2 rfl ?_))
      refine brr_of (fun h1 => ?_) (fun h1 => ?_)
      · rw [if_pos (by simpa using h1)] at k
        exact k _ O.drop.drop
      · rw [if_neg (by simpa using h1)] at k
        exact k _ O.drop.drop
  · intro j hj
    repeat (first | (with_reducible refine al_id ?_); refine O.al fun _ h O => ?_ | (with_reducible refine nn_id ?_); refine ⟨_, rfl, ?_⟩ | (with_reducible refine ld_id ?_); (first | refine O.ld 0 rfl ?_ | refine O.ld 1 rfl ?_); (repeat (first | (with_reducible refine ldL_n ?_) | refine ldL_s ?_ | refine ldL_c ?_)) | (with_reducible refine st_ad (by first | (with_reducible rfl) | (simp only [pt_add, Nat.zero_add, Nat.add_zero, Nat.reduceAdd]; with_reducible rfl)) ?_); (first | refine O.st 0 rfl (by simp) rfl fun h O => ?_ | refine O.st 1 rfl (by simp) rfl fun h O => ?_); (dsimp only [V.put, List.set, List.length_cons, List.length_nil] at O) | (with_reducible refine ca_id ?_); (first | refine O.ca 0 1 rfl ?_ | refine O.ca 0 2 rfl ?_ | refine O.ca 1 1 rfl ?_ | refine O.ca 1 2 rfl ?_))
    have ht : tagLt a b c d ↔ (a < c ∨ (a = c ∧ b < d)) := Iff.rfl
    refine brr_p (fun h1 => ?_) (fun h1 => ?_)
    · exact hj _ _ ⟨rfl, (decide_eq_true (ht.2 (by omega))).symm⟩
    repeat (first | (with_reducible refine al_id ?_); refine O.al fun _ h O => ?_ | (with_reducible refine nn_id ?_); refine ⟨_, rfl, ?_⟩ | (with_reducible refine ld_id ?_); (first | refine O.ld 0 rfl ?_ | refine O.ld 1 rfl ?_); (repeat (first | (with_reducible refine ldL_n ?_) | refine ldL_s ?_ | refine ldL_c ?_)) | (with_reducible refine st_ad (by first | (with_reducible rfl) | (simp only [pt_add, Nat.zero_add, Nat.add_zero, Nat.reduceAdd]; with_reducible rfl)) ?_); (first | refine O.st 0 rfl (by simp) rfl fun h O => ?_ | refine O.st 1 rfl (by simp) rfl fun h O => ?_); (dsimp only [V.put, List.set, List.length_cons, List.length_nil] at O) | (with_reducible refine ca_id ?_); (first | refine O.ca 0 1 rfl ?_ | refine O.ca 0 2 rfl ?_ | refine O.ca 1 1 rfl ?_ | refine O.ca 1 2 rfl ?_))
    refine brr_eq (fun h2 => ?_) (fun h2 => ?_)
    · repeat (first | (with_reducible refine al_id ?_); refine O.al fun _ h O => ?_ | (with_reducible refine nn_id ?_); refine ⟨_, rfl, ?_⟩ | (with_reducible refine ld_id ?_); (first | refine O.ld 0 rfl ?_ | refine O.ld 1 rfl ?_); (repeat (first | (with_reducible refine ldL_n ?_) | refine ldL_s ?_ | refine ldL_c ?_)) | (with_reducible refine st_ad (by first | (with_reducible rfl) | (simp only [pt_add, Nat.zero_add, Nat.add_zero, Nat.reduceAdd]; with_reducible rfl)) ?_); (first | refine O.st 0 rfl (by simp) rfl fun h O => ?_ | refine O.st 1 rfl (by simp) rfl fun h O => ?_); (dsimp only [V.put, List.set, List.length_cons, List.length_nil] at O) | (with_reducible refine ca_id ?_); (first | refine O.ca 0 1 rfl ?_ | refine O.ca 0 2 rfl ?_ | refine O.ca 1 1 rfl ?_ | refine O.ca 1 2 rfl ?_))
      exact hj _ _ ⟨rfl, decide_eq_decide.2 (by rw [ht]; omega)⟩
    · exact hj _ _ ⟨rfl, (decide_eq_false (by rw [ht]; omega)).symm⟩
theorem F_ref0_CopyMsg.is {m : Mg} {Q : Int → Int → Int → Int → Int → Int → Int → Int → Int → Int → Sl → Int → Int → ByteArray → ByteArray → Int → Int → Int → Int → Int → Int → Int → Heap → Prop} (O : Sat h0 h L) (V1 : Stays h0 L fun h => Bytes h m.v m.b) (hb : m.b.length ≤ (140737488355325 : Nat)) (k : ∀ s h', Sat h0 h' (buf 1 u8 s m.b :: L) → Q m.kind m.frm m.to m.shard m.epoch m.te m.ts m.round m.span m.seen s m.peer m.num m.name m.other m.amount m.life m.id m.op m.client m.state m.bad h') : F_ref0_CopyMsg m.kind m.frm m.to m.shard m.epoch m.te m.ts m.round m.span m.seen m.v m.peer m.num m.name m.other m.amount m.life m.id m.op m.client m.state m.bad h Q := by
  rw [F_ref0_CopyMsg.eq_1, F_ref0_CopyMsg_of.eq_1]
  repeat (first | (with_reducible refine al_id ?_); refine O.al fun _ h O => ?_ | (with_reducible refine nn_id ?_); refine ⟨_, rfl, ?_⟩ | (with_reducible refine ld_id ?_); (first | refine O.ld 0 rfl ?_ | refine O.ld 1 rfl ?_); (repeat (first | (with_reducible refine ldL_n ?_) | refine ldL_s ?_ | refine ldL_c ?_)) | (with_reducible refine st_ad (by first | (with_reducible rfl) | (simp only [pt_add, Nat.zero_add, Nat.add_zero, Nat.reduceAdd]; with_reducible rfl)) ?_); (first | refine O.st 0 rfl (by simp) rfl fun h O => ?_ | refine O.st 1 rfl (by simp) rfl fun h O => ?_); (dsimp only [V.put, List.set, List.length_cons, List.length_nil] at O) | (with_reducible refine ca_id ?_); (first | refine O.ca 0 1 rfl ?_ | refine O.ca 0 2 rfl ?_ | refine O.ca 1 1 rfl ?_ | refine O.ca 1 2 rfl ?_))
  refine F_ref0_Copy.is O (V1 h O.drop.drop) (by omega) fun s h O _ _ => ?_
  repeat (first | (with_reducible refine al_id ?_); refine O.al fun _ h O => ?_ | (with_reducible refine nn_id ?_); refine ⟨_, rfl, ?_⟩ | (with_reducible refine ld_id ?_); (first | refine O.ld 0 rfl ?_ | refine O.ld 1 rfl ?_ | refine O.ld 2 rfl ?_); (repeat (first | (with_reducible refine ldL_n ?_) | refine ldL_s ?_ | refine ldL_c ?_)) | (with_reducible refine st_ad (by first | (with_reducible rfl) | (simp only [pt_add, Nat.zero_add, Nat.add_zero, Nat.reduceAdd]; with_reducible rfl)) ?_); (first | refine O.st 0 rfl (by simp) rfl fun h O => ?_ | refine O.st 1 rfl (by simp) rfl fun h O => ?_ | refine O.st 2 rfl (by simp) rfl fun h O => ?_); (dsimp only [V.put, List.set, List.length_cons, List.length_nil] at O) | (with_reducible refine ca_id ?_); (first | refine O.ca 0 1 rfl ?_ | refine O.ca 0 2 rfl ?_ | refine O.ca 1 1 rfl ?_ | refine O.ca 1 2 rfl ?_ | refine O.ca 2 1 rfl ?_ | refine O.ca 2 2 rfl ?_))
  exact k _ _ (O.sel [0] 3 rfl (Nat.le_add_left _ _))
theorem F_ref0_EqMsg.is {m : Mg} {t : Sl} {Q : Bool → Heap → Prop} (O : Sat h0 h L) (V1 : Stays h0 L fun h => Bytes h m.v m.b) (V2 : Stays h0 L fun h => Bytes h t m.b) (h1 : m.b.length ≤ (140737488355325 : Nat)) (k : ∀ h', Sat h0 h' L → Q true h') : F_ref0_EqMsg m.kind m.frm m.to m.shard m.epoch m.te m.ts m.round m.span m.seen m.v m.peer m.num m.name m.other m.amount m.life m.id m.op m.client m.state m.bad m.kind m.frm m.to m.shard m.epoch m.te m.ts m.round m.span m.seen t m.peer m.num m.name m.other m.amount m.life m.id m.op m.client m.state m.bad h Q := by
  rw [F_ref0_EqMsg.eq_1, F_ref0_EqMsg_of.eq_1]
  refine O.al fun x45 h O => ?_
  refine O.al fun x47 h O => ?_
  refine jn1 (fun z h' => h' = h ∧ z = true) (fun z h' ⟨e, e2⟩ => by subst e; subst e2; exact k _ O.drop.drop) fun j hj => ?_
  repeat (first | (with_reducible refine al_id ?_); refine O.al fun _ h O => ?_ | (with_reducible refine nn_id ?_); refine ⟨_, rfl, ?_⟩ | (with_reducible refine ld_id ?_); (first | refine O.ld 0 rfl ?_ | refine O.ld 1 rfl ?_); (repeat (first | (with_reducible refine ldL_n ?_) | refine ldL_s ?_ | refine ldL_c ?_)) | (with_reducible refine st_ad (by first | (with_reducible rfl) | (simp only [pt_add, Nat.zero_add, Nat.add_zero, Nat.reduceAdd]; with_reducible rfl)) ?_); (first | refine O.st 0 rfl (by simp) rfl fun h O => ?_ | refine O.st 1 rfl (by simp) rfl fun h O => ?_); (dsimp only [V.put, List.set, List.length_cons, List.length_nil] at O) | (with_reducible refine ca_id ?_); (first | refine O.ca 0 1 rfl ?_ | refine O.ca 0 2 rfl ?_ | refine O.ca 1 1 rfl ?_ | refine O.ca 1 2 rfl ?_))
  refine brr_tt (by simp) ?_
  repeat (first | (with_reducible refine al_id ?_); refine O.al fun _ h O => ?_ | (with_reducible refine nn_id ?_); refine ⟨_, rfl, ?_⟩ | (with_reducible refine ld_id ?_); (first | refine O.ld 0 rfl ?_ | refine O.ld 1 rfl ?_); (repeat (first | (with_reducible refine ldL_n ?_) | refine ldL_s ?_ | refine ldL_c ?_)) | (with_reducible refine st_ad (by first | (with_reducible rfl) | (simp only [pt_add, Nat.zero_add, Nat.add_zero, Nat.reduceAdd]; with_reducible rfl)) ?_); (first | refine O.st 0 rfl (by simp) rfl fun h O => ?_ | refine O.st 1 rfl (by simp) rfl fun h O => ?_); (dsimp only [V.put, List.set, List.length_cons, List.length_nil] at O) | (with_reducible refine ca_id ?_); (first | refine O.ca 0 1 rfl ?_ | refine O.ca 0 2 rfl ?_ | refine O.ca 1 1 rfl ?_ | refine O.ca 1 2 rfl ?_))
  refine brr_tt (by simp) ?_
  repeat (first | (with_reducible refine al_id ?_); refine O.al fun _ h O => ?_ | (with_reducible refine nn_id ?_); refine ⟨_, rfl, ?_⟩ | (with_reducible refine ld_id ?_); (first | refine O.ld 0 rfl ?_ | refine O.ld 1 rfl ?_); (repeat (first | (with_reducible refine ldL_n ?_) | refine ldL_s ?_ | refine ldL_c ?_)) | (with_reducible refine st_ad (by first | (with_reducible rfl) | (simp only [pt_add, Nat.zero_add, Nat.add_zero, Nat.reduceAdd]; with_reducible rfl)) ?_); (first | refine O.st 0 rfl (by simp) rfl fun h O => ?_ | refine O.st 1 rfl (by simp) rfl fun h O => ?_); (dsimp only [V.put, List.set, List.length_cons, List.length_nil] at O) | (with_reducible refine ca_id ?_); (first | refine O.ca 0 1 rfl ?_ | refine O.ca 0 2 rfl ?_ | refine O.ca 1 1 rfl ?_ | refine O.ca 1 2 rfl ?_))
  refine brr_tt (by simp) ?_
  repeat (first | (with_reducible refine al_id ?_); refine O.al fun _ h O => ?_ | (with_reducible refine nn_id ?_); refine ⟨_, rfl, ?_⟩ | (with_reducible refine ld_id ?_); (first | refine O.ld 0 rfl ?_ | refine O.ld 1 rfl ?_); (repeat (first | (with_reducible refine ldL_n ?_) | refine ldL_s ?_ | refine ldL_c ?_)) | (with_reducible refine st_ad (by first | (with_reducible rfl) | (simp only [pt_add, Nat.zero_add, Nat.add_zero, Nat.reduceAdd]; with_reducible rfl)) ?_); (first | refine O.st 0 rfl (by simp) rfl fun h O => ?_ | refine O.st 1 rfl (by simp) rfl fun h O => ?_); (dsimp only [V.put, List.set, List.length_cons, List.length_nil] at O) | (with_reducible refine ca_id ?_); (first | refine O.ca 0 1 rfl ?_ | refine O.ca 0 2 rfl ?_ | refine O.ca 1 1 rfl ?_ | refine O.ca 1 2 rfl ?_))
  refine brr_tt (by simp) ?_
  repeat (first | (with_reducible refine al_id ?_); refine O.al fun _ h O => ?_ | (with_reducible refine nn_id ?_); refine ⟨_, rfl, ?_⟩ | (with_reducible refine ld_id ?_); (first | refine O.ld 0 rfl ?_ | refine O.ld 1 rfl ?_); (repeat (first | (with_reducible refine ldL_n ?_) | refine ldL_s ?_ | refine ldL_c ?_)) | (with_reducible refine st_ad (by first | (with_reducible rfl) | (simp only [pt_add, Nat.zero_add, Nat.add_zero, Nat.reduceAdd]; with_reducible rfl)) ?_); (first | refine O.st 0 rfl (by simp) rfl fun h O => ?_ | refine O.st 1 rfl (by simp) rfl fun h O => ?_); (dsimp only [V.put, List.set, List.length_cons, List.length_nil] at O) | (with_reducible refine ca_id ?_); (first | refine O.ca 0 1 rfl ?_ | refine O.ca 0 2 rfl ?_ | refine O.ca 1 1 rfl ?_ | refine O.ca 1 2 rfl ?_))
  refine brr_tt (by simp) ?_
  repeat (first | (with_reducible refine al_id ?_); refine O.al fun _ h O => ?_ | (with_reducible refine nn_id ?_); refine ⟨_, rfl, ?_⟩ | (with_reducible refine ld_id ?_); (first | refine O.ld 0 rfl ?_ | refine O.ld 1 rfl ?_); (repeat (first | (with_reducible refine ldL_n ?_) | refine ldL_s ?_ | refine ldL_c ?_)) | (with_reducible refine st_ad (by first | (with_reducible rfl) | (simp only [pt_add, Nat.zero_add, Nat.add_zero, Nat.reduceAdd]; with_reducible rfl)) ?_); (first | refine O.st 0 rfl (by simp) rfl fun h O => ?_ | refine O.st 1 rfl (by simp) rfl fun h O => ?_); (dsimp only [V.put, List.set, List.length_cons, List.length_nil] at O) | (with_reducible refine ca_id ?_); (first | refine O.ca 0 1 rfl ?_ | refine O.ca 0 2 rfl ?_ | refine O.ca 1 1 rfl ?_ | refine O.ca 1 2 rfl ?_))
  refine brr_tt (by simp) ?_
  repeat (first | (with_reducible refine al_id ?_); refine O.al fun _ h O => ?_ | (with_reducible refine nn_id ?_); refine ⟨_, rfl, ?_⟩ | (with_reducible refine ld_id ?_); (first | refine O.ld 0 rfl ?_ | refine O.ld 1 rfl ?_); (repeat (first | (with_reducible refine ldL_n ?_) | refine ldL_s ?_ | refine ldL_c ?_)) | (with_reducible refine st_ad (by first | (with_reducible rfl) | (simp only [pt_add, Nat.zero_add, Nat.add_zero, Nat.reduceAdd]; with_reducible rfl)) ?_); (first | refine O.st 0 rfl (by simp) rfl fun h O => ?_ | refine O.st 1 rfl (by simp) rfl fun h O => ?_); (dsimp only [V.put, List.set, List.length_cons, List.length_nil] at O) | (with_reducible refine ca_id ?_); (first | refine O.ca 0 1 rfl ?_ | refine O.ca 0 2 rfl ?_ | refine O.ca 1 1 rfl ?_ | refine O.ca 1 2 rfl ?_))
  refine F_ref0_Cmp.is (V1 h O.drop.drop) (V2 h O.drop.drop) (by omega) (by omega) fun r hr => ?_
  refine brr_tt (by simp [hr]) ?_
  repeat (first | (with_reducible refine al_id ?_); refine O.al fun _ h O => ?_ | (with_reducible refine nn_id ?_); refine ⟨_, rfl, ?_⟩ | (with_reducible refine ld_id ?_); (first | refine O.ld 0 rfl ?_ | refine O.ld 1 rfl ?_); (repeat (first | (with_reducible refine ldL_n ?_) | refine ldL_s ?_ | refine ldL_c ?_)) | (with_reducible refine st_ad (by first | (with_reducible rfl) | (simp only [pt_add, Nat.zero_add, Nat.add_zero, Nat.reduceAdd]; with_reducible rfl)) ?_); (first | refine O.st 0 rfl (by simp) rfl fun h O => ?_ | refine O.st 1 rfl (by simp) rfl fun h O => ?_); (dsimp only [V.put, List.set, List.length_cons, List.length_nil] at O) | (with_reducible refine ca_id ?_); (first | refine O.ca 0 1 rfl ?_ | refine O.ca 0 2 rfl ?_ | refine O.ca 1 1 rfl ?_ | refine O.ca 1 2 rfl ?_))
  refine brr_tt (by simp) ?_
  repeat (first | (with_reducible refine al_id ?_); refine O.al fun _ h O => ?_ | (with_reducible refine nn_id ?_); refine ⟨_, rfl, ?_⟩ | (with_reducible refine ld_id ?_); (first | refine O.ld 0 rfl ?_ | refine O.ld 1 rfl ?_); (repeat (first | (with_reducible refine ldL_n ?_) | refine ldL_s ?_ | refine ldL_c ?_)) | (with_reducible refine st_ad (by first | (with_reducible rfl) | (simp only [pt_add, Nat.zero_add, Nat.add_zero, Nat.reduceAdd]; with_reducible rfl)) ?_); (first | refine O.st 0 rfl (by simp) rfl fun h O => ?_ | refine O.st 1 rfl (by simp) rfl fun h O => ?_); (dsimp only [V.put, List.set, List.length_cons, List.length_nil] at O) | (with_reducible refine ca_id ?_); (first | refine O.ca 0 1 rfl ?_ | refine O.ca 0 2 rfl ?_ | refine O.ca 1 1 rfl ?_ | refine O.ca 1 2 rfl ?_))
  refine brr_tt (by simp) ?_
  repeat (first | (with_reducible refine al_id ?_); refine O.al fun _ h O => ?_ | (with_reducible refine nn_id ?_); refine ⟨_, rfl, ?_⟩ | (with_reducible refine ld_id ?_); (first | refine O.ld 0 rfl ?_ | refine O.ld 1 rfl ?_); (repeat (first | (with_reducible refine ldL_n ?_) | refine ldL_s ?_ | refine ldL_c ?_)) | (with_reducible refine st_ad (by first | (with_reducible rfl) | (simp only [pt_add, Nat.zero_add, Nat.add_zero, Nat.reduceAdd]; with_reducible rfl)) ?_); (first | refine O.st 0 rfl (by simp) rfl fun h O => ?_ | refine O.st 1 rfl (by simp) rfl fun h O => ?_); (dsimp only [V.put, List.set, List.length_cons, List.length_nil] at O) | (with_reducible refine ca_id ?_); (first | refine O.ca 0 1 rfl ?_ | refine O.ca 0 2 rfl ?_ | refine O.ca 1 1 rfl ?_ | refine O.ca 1 2 rfl ?_))
  refine brr_tt (by simp) ?_
  repeat (first | (with_reducible refine al_id ?_); refine O.al fun _ h O => ?_ | (with_reducible refine nn_id ?_); refine ⟨_, rfl, ?_⟩ | (with_reducible refine ld_id ?_); (first | refine O.ld 0 rfl ?_ | refine O.ld 1 rfl ?_); (repeat (first | (with_reducible refine ldL_n ?_) | refine ldL_s ?_ | refine ldL_c ?_)) | (with_reducible refine st_ad (by first | (with_reducible rfl) | (simp only [pt_add, Nat.zero_add, Nat.add_zero, Nat.reduceAdd]; with_reducible rfl)) ?_); (first | refine O.st 0 rfl (by simp) rfl fun h O => ?_ | refine O.st 1 rfl (by simp) rfl fun h O => ?_); (dsimp only [V.put, List.set, List.length_cons, List.length_nil] at O) | (with_reducible refine ca_id ?_); (first | refine O.ca 0 1 rfl ?_ | refine O.ca 0 2 rfl ?_ | refine O.ca 1 1 rfl ?_ | refine O.ca 1 2 rfl ?_))
  refine brr_tt (by simp) ?_
  repeat (first | (with_reducible refine al_id ?_); refine O.al fun _ h O => ?_ | (with_reducible refine nn_id ?_); refine ⟨_, rfl, ?_⟩ | (with_reducible refine ld_id ?_); (first | refine O.ld 0 rfl ?_ | refine O.ld 1 rfl ?_); (repeat (first | (with_reducible refine ldL_n ?_) | refine ldL_s ?_ | refine ldL_c ?_)) | (with_reducible refine st_ad (by first | (with_reducible rfl) | (simp only [pt_add, Nat.zero_add, Nat.add_zero, Nat.reduceAdd]; with_reducible rfl)) ?_); (first | refine O.st 0 rfl (by simp) rfl fun h O => ?_ | refine O.st 1 rfl (by simp) rfl fun h O => ?_); (dsimp only [V.put, List.set, List.length_cons, List.length_nil] at O) | (with_reducible refine ca_id ?_); (first | refine O.ca 0 1 rfl ?_ | refine O.ca 0 2 rfl ?_ | refine O.ca 1 1 rfl ?_ | refine O.ca 1 2 rfl ?_))
  refine brr_tt (by simp) ?_
  repeat (first | (with_reducible refine al_id ?_); refine O.al fun _ h O => ?_ | (with_reducible refine nn_id ?_); refine ⟨_, rfl, ?_⟩ | (with_reducible refine ld_id ?_); (first | refine O.ld 0 rfl ?_ | refine O.ld 1 rfl ?_); (repeat (first | (with_reducible refine ldL_n ?_) | refine ldL_s ?_ | refine ldL_c ?_)) | (with_reducible refine st_ad (by first | (with_reducible rfl) | (simp only [pt_add, Nat.zero_add, Nat.add_zero, Nat.reduceAdd]; with_reducible rfl)) ?_); (first | refine O.st 0 rfl (by simp) rfl fun h O => ?_ | refine O.st 1 rfl (by simp) rfl fun h O => ?_); (dsimp only [V.put, List.set, List.length_cons, List.length_nil] at O) | (with_reducible refine ca_id ?_); (first | refine O.ca 0 1 rfl ?_ | refine O.ca 0 2 rfl ?_ | refine O.ca 1 1 rfl ?_ | refine O.ca 1 2 rfl ?_))
  refine brr_tt (by simp) ?_
  repeat (first | (with_reducible refine al_id ?_); refine O.al fun _ h O => ?_ | (with_reducible refine nn_id ?_); refine ⟨_, rfl, ?_⟩ | (with_reducible refine ld_id ?_); (first | refine O.ld 0 rfl ?_ | refine O.ld 1 rfl ?_); (repeat (first | (with_reducible refine ldL_n ?_) | refine ldL_s ?_ | refine ldL_c ?_)) | (with_reducible refine st_ad (by first | (with_reducible rfl) | (simp only [pt_add, Nat.zero_add, Nat.add_zero, Nat.reduceAdd]; with_reducible rfl)) ?_); (first | refine O.st 0 rfl (by simp) rfl fun h O => ?_ | refine O.st 1 rfl (by simp) rfl fun h O => ?_); (dsimp only [V.put, List.set, List.length_cons, List.length_nil] at O) | (with_reducible refine ca_id ?_); (first | refine O.ca 0 1 rfl ?_ | refine O.ca 0 2 rfl ?_ | refine O.ca 1 1 rfl ?_ | refine O.ca 1 2 rfl ?_))
  refine brr_tt (by simp) ?_
  repeat (first | (with_reducible refine al_id ?_); refine O.al fun _ h O => ?_ | (with_reducible refine nn_id ?_); refine ⟨_, rfl, ?_⟩ | (with_reducible refine ld_id ?_); (first | refine O.ld 0 rfl ?_ | refine O.ld 1 rfl ?_); (repeat (first | (with_reducible refine ldL_n ?_) | refine ldL_s ?_ | refine ldL_c ?_)) | (with_reducible refine st_ad (by first | (with_reducible rfl) | (simp only [pt_add, Nat.zero_add, Nat.add_zero, Nat.reduceAdd]; with_reducible rfl)) ?_); (first | refine O.st 0 rfl (by simp) rfl fun h O => ?_ | refine O.st 1 rfl (by simp) rfl fun h O => ?_); (dsimp only [V.put, List.set, List.length_cons, List.length_nil] at O) | (with_reducible refine ca_id ?_); (first | refine O.ca 0 1 rfl ?_ | refine O.ca 0 2 rfl ?_ | refine O.ca 1 1 rfl ?_ | refine O.ca 1 2 rfl ?_))
  refine brr_tt (by simp) ?_
  repeat (first | (with_reducible refine al_id ?_); refine O.al fun _ h O => ?_ | (with_reducible refine nn_id ?_); refine ⟨_, rfl, ?_⟩ | (with_reducible refine ld_id ?_); (first | refine O.ld 0 rfl ?_ | refine O.ld 1 rfl ?_); (repeat (first | (with_reducible refine ldL_n ?_) | refine ldL_s ?_ | refine ldL_c ?_)) | (with_reducible refine st_ad (by first | (with_reducible rfl) | (simp only [pt_add, Nat.zero_add, Nat.add_zero, Nat.reduceAdd]; with_reducible rfl)) ?_); (first | refine O.st 0 rfl (by simp) rfl fun h O => ?_ | refine O.st 1 rfl (by simp) rfl fun h O => ?_); (dsimp only [V.put, List.set, List.length_cons, List.length_nil] at O) | (with_reducible refine ca_id ?_); (first | refine O.ca 0 1 rfl ?_ | refine O.ca 0 2 rfl ?_ | refine O.ca 1 1 rfl ?_ | refine O.ca 1 2 rfl ?_))
  refine brr_tt (by simp) ?_
  repeat (first | (with_reducible refine al_id ?_); refine O.al fun _ h O => ?_ | (with_reducible refine nn_id ?_); refine ⟨_, rfl, ?_⟩ | (with_reducible refine ld_id ?_); (first | refine O.ld 0 rfl ?_ | refine O.ld 1 rfl ?_); (repeat (first | (with_reducible refine ldL_n ?_) | refine ldL_s ?_ | refine ldL_c ?_)) | (with_reducible refine st_ad (by first | (with_reducible rfl) | (simp only [pt_add, Nat.zero_add, Nat.add_zero, Nat.reduceAdd]; with_reducible rfl)) ?_); (first | refine O.st 0 rfl (by simp) rfl fun h O => ?_ | refine O.st 1 rfl (by simp) rfl fun h O => ?_); (dsimp only [V.put, List.set, List.length_cons, List.length_nil] at O) | (with_reducible refine ca_id ?_); (first | refine O.ca 0 1 rfl ?_ | refine O.ca 0 2 rfl ?_ | refine O.ca 1 1 rfl ?_ | refine O.ca 1 2 rfl ?_))
  exact hj _ _ ⟨rfl, by simp⟩
end
end Go.Proofs.Ytigcpkejjjgkeaa.V
namespace Go.Proofs.Ytigcpkejjjgkeaa.V
open Go Go.RowKit
set_option linter.unusedVariables false
set_option maxRecDepth 100000
def F_ref0_EqMsgs.l1 (f47_ : Int → Int → Int → Int → Int → Int → Int → Int → Int → Int → Sl → Int → Int → ByteArray → ByteArray → Int → Int → Int → Int → Int → Int → Int → Int → Int → Int → Int → Int → Int → Int → Int → Int → Int → Sl → Int → Int → ByteArray → ByteArray → Int → Int → Int → Int → Int → Int → Int → Heap → (Bool → Heap → Prop) → Prop) (a1 b2 : Sl) (Q : Bool → Heap → Prop) (j3 : Heap → Prop) : Int → Heap → Prop :=
  wl [(5, .one (.int .i64))] (fun (next4 : Int → Heap → Prop) (i5 : Int) (h6 : Heap) =>
  brr (decide (i5 < ((a1.len : Nat) : Int)))
  (ixS 22 a1 i5 fun (a7 : Addr) =>
  ld [.int .i64, .int .i64, .int .i64, .int .i64, .int .u64, .int .u64, .int .u64, .int .u64, .int .i64, .int .u64, .sl, .int .i64, .int .u64, .str, .str, .int .u64, .int .u64, .int .u64, .int .i64, .int .i64, .int .i64, .int .i64] a7 h6 fun (v8 v9 v10 v11 v12 v13 v14 v15 v16 v17 : Int) (v18 : Sl) (v19 v20 : Int) (v21 v22 : ByteArray) (v23 v24 v25 v26 v27 v28 v29 : Int) =>
  ixS 22 b2 i5 fun (a30 : Addr) =>
  ld [.int .i64, .int .i64, .int .i64, .int .i64, .int .u64, .int .u64, .int .u64, .int .u64, .int .i64, .int .u64, .sl, .int .i64, .int .u64, .str, .str, .int .u64, .int .u64, .int .u64, .int .i64, .int .i64, .int .i64, .int .i64] a30 h6 fun (v31 v32 v33 v34 v35 v36 v37 v38 v39 v40 : Int) (v41 : Sl) (v42 v43 : Int) (v44 v45 : ByteArray) (v46 v47 v48 v49 v50 v51 v52 : Int) =>
  f47_ v8 v9 v10 v11 v12 v13 v14 v15 v16 v17 v18 v19 v20 v21 v22 v23 v24 v25 v26 v27 v28 v29 v31 v32 v33 v34 v35 v36 v37 v38 v39 v40 v41 v42 v43 v44 v45 v46 v47 v48 v49 v50 v51 v52 h6 fun (r53 : Bool) (h54 : Heap) =>
  brr (!r53)
  (Q false h54)
  (next4 (IntKind.i64.wrap (i5 + 1)) h54))
  (j3 h6))
def F_ref0_EqMsgs_of (f47_ : Int → Int → Int → Int → Int → Int → Int → Int → Int → Int → Sl → Int → Int → ByteArray → ByteArray → Int → Int → Int → Int → Int → Int → Int → Int → Int → Int → Int → Int → Int → Int → Int → Int → Int → Sl → Int → Int → ByteArray → ByteArray → Int → Int → Int → Int → Int → Int → Int → Heap → (Bool → Heap → Prop) → Prop) (a1 b2 : Sl) (h : Heap) (Q : Bool → Heap → Prop) : Prop :=
  brr (((a1.len : Nat) : Int) != ((b2.len : Nat) : Int))
  (Q false h)
  (jn [] (fun  (h55 : Heap) =>
  Q true h55) (fun (j3 : Heap → Prop) =>
  F_ref0_EqMsgs.l1 f47_ a1 b2 Q j3 0 h))
def F_ref0_EqMsgs (a1 b2 : Sl) (h : Heap) (Q : Bool → Heap → Prop) : Prop := F_ref0_EqMsgs_of F_ref0_EqMsg a1 b2 h Q
def plan18 : Plan := .s (.r [0, 1]) (.s (.s (.r [0, 1, 10]) (.c (.s (.r [4]) .z) .z)) (.s (.s (.r [0, 1, 5]) (.bj [] [] (.l [(5, .one (.int .i64))] [0, 1] (.s (.s (.r [0, 1, 5, 14]) (.c .z .z)) (.s (.b (.s (.d [0, 0, 3, 7, 0, 0, 48, 112, 255, 511] [[0, 1, 2, 3, 4, 5, 6, 7, 8, 9]] [0, 1, 5, 26]) (.c (.s (.r [4]) .z) .z))) (.r [0, 1, 5])))))) (.s (.r [4]) .z)))
theorem F_ref0_EqMsgs.eq (f47_ : Int → Int → Int → Int → Int → Int → Int → Int → Int → Int → Sl → Int → Int → ByteArray → ByteArray → Int → Int → Int → Int → Int → Int → Int → Int → Int → Int → Int → Int → Int → Int → Int → Int → Int → Sl → Int → Int → ByteArray → ByteArray → Int → Int → Int → Int → Int → Int → Int → Heap → (Bool → Heap → Prop) → Prop) (a1 b2 : Sl) (h : Heap) (K : Value → Heap → Prop) : F_ref0_EqMsgs_of f47_ a1 b2 h (fun (r0 : Bool) (h : Heap) => K (.bool r0) h) =
    den Try.prog (fn1 47 (E_ref0_EqMsg_of f47_) noFns) Try.f18.ntmps plan18 (bodyOf Try.f18) (args0 0 [(.slice a1.ptr a1.len a1.cap : Value), (.slice b2.ptr b2.len b2.cap : Value)]) h ⟨fun env h => dRes Try.prog Try.f18.results.toList env h K, fun _ _ _ => False, fun env h => dRes Try.prog Try.f18.results.toList env h K⟩ := by kernel_rfl
def E_ref0_EqMsgs_of (f : Sl → Sl → Heap → (Bool → Heap → Prop) → Prop) : List Value → Heap → (Value → Heap → Prop) → Prop
  | [v0, v1], h, K => dec1 .sl v0 fun (a1 : Sl) =>
  dec1 .sl v1 fun (b2 : Sl) =>
  f a1 b2 h (fun (r0 : Bool) (h : Heap) => K (.bool r0) h)
  | _, _, _ => False
abbrev E_ref0_EqMsgs := E_ref0_EqMsgs_of F_ref0_EqMsgs
theorem E_ref0_EqMsgs.right : IsRight Try.prog 18 E_ref0_EqMsgs := by
  refine isRight fun vs K w hh => ?_
  match vs, hh with
  | [v0, v1], hh =>
    unfold E_ref0_EqMsgs E_ref0_EqMsgs_of at hh
    replace hh := dec1_sound hh; obtain ⟨a1, rfl, hh⟩ := hh
    replace hh := dec1_sound hh; obtain ⟨b2, rfl, hh⟩ := hh
    unfold F_ref0_EqMsgs at hh
    exact calls_den (fn1_right ok47 E_ref0_EqMsg.right noFns_right) plan18 _ w K Try.func18 (by kernel_rfl) (by kernel_rfl) (Eq.mp (F_ref0_EqMsgs.eq F_ref0_EqMsg a1 b2 w.heap K) hh)
theorem ok18 : okFn Try.prog 18 = true := by kernel_rfl
end Go.Proofs.Ytigcpkejjjgkeaa.V
namespace Go.Proofs.Ytigcpkejjjgkeaa.V
open Go Go.RowKit
set_option linter.unusedVariables false
set_option maxRecDepth 100000
def F_law10_wakes_of (f8_ : Int → Int → Sl → Heap → (Option Addr → Heap → Prop) → Prop) (f10_ : Option Addr → Int → Int → Int → Int → Sl → Int → Heap → (Sl → Heap → Prop) → Prop) (f13_ : Option Addr → Heap → (Int → Heap → Prop) → Prop)  (h : Heap) (Q : Bool → Heap → Prop) : Prop :=
  al 3 [.int .i64 3] h fun (a1 : Addr) (h2 : Heap) =>
  f8_ 3 1 ⟨(some a1), 1, 1⟩ h2 fun (r3 : Option Addr) (h4 : Heap) =>
  brr r3.isNone
  (Q false h4)
  (al 5 [.int .u8 120] h4 fun (a5 : Addr) (h6 : Heap) =>
  frz (some a5) h6 fun (h7 : Heap) =>
  f10_ r3 5 5 0 0 ⟨(some a5), 1, 1⟩ 2 h7 fun (r8 : Sl) (h9 : Heap) =>
  jn [(0, .one .bool)] (fun (x18 : Bool) (h19 : Heap) =>
  Q x18 h19) (fun (j10 : Bool → Heap → Prop) =>
  brr (((r8.len : Nat) : Int) == 1)
  (ixS 22 r8 0 fun (a11 : Addr) =>
  ld [.int .i64] ((a11.add 0).add 0) h9 fun (v12 : Int) =>
  brr (v12 == 4)
  (ixS 22 r8 0 fun (a13 : Addr) =>
  ld [.int .u64, .int .u64] (a13.add 5) h9 fun (v14 v15 : Int) =>
  brr ((v14 == 5) && ((v15 == 1) && (true)))
  (f13_ r3 h9 fun (r16 : Int) (h17 : Heap) =>
  j10 (r16 == 2) h17)
  (j10 false h9))
  (j10 false h9))
  (j10 false h9)))
def F_law10_wakes  (h : Heap) (Q : Bool → Heap → Prop) : Prop := F_law10_wakes_of F_quorum_New F_quorum_Quorum_Start F_quorum_Quorum_Phase  h Q
def plan9 : Plan := .s (.r []) (.s (.r [1]) (.s (.s (.r [1, 6]) (.c (.s (.r [0]) .z) .z)) (.s (.r [1, 2]) (.s (.rj [(0, .one .bool)] []) .z))))
theorem F_law10_wakes.eq (f8_ : Int → Int → Sl → Heap → (Option Addr → Heap → Prop) → Prop) (f10_ : Option Addr → Int → Int → Int → Int → Sl → Int → Heap → (Sl → Heap → Prop) → Prop) (f13_ : Option Addr → Heap → (Int → Heap → Prop) → Prop)  (h : Heap) (K : Value → Heap → Prop) : F_law10_wakes_of f8_ f10_ f13_  h (fun (r0 : Bool) (h : Heap) => K (.bool r0) h) =
    den Try.prog (fn1 8 (E_quorum_New_of f8_) (fn1 10 (E_quorum_Quorum_Start_of f10_) (fn1 13 (E_quorum_Quorum_Phase_of f13_) noFns))) Try.f9.ntmps plan9 (bodyOf Try.f9) (args0 0 []) h ⟨fun env h => dRes Try.prog Try.f9.results.toList env h K, fun _ _ _ => False, fun env h => dRes Try.prog Try.f9.results.toList env h K⟩ := by kernel_rfl
def E_law10_wakes_of (f : Heap → (Bool → Heap → Prop) → Prop) : List Value → Heap → (Value → Heap → Prop) → Prop
  | [], h, K => f  h (fun (r0 : Bool) (h : Heap) => K (.bool r0) h)
  | _, _, _ => False
abbrev E_law10_wakes := E_law10_wakes_of F_law10_wakes
theorem E_law10_wakes.nil (f : Heap → (Bool → Heap → Prop) → Prop) (h : Heap) (K : Value → Heap → Prop) : E_law10_wakes_of f [] h K = f  h (fun (r0 : Bool) (h : Heap) => K (.bool r0) h) := rfl
theorem E_law10_wakes.right : IsRight Try.prog 9 E_law10_wakes := by
  refine isRight fun vs K w hh => ?_
  match vs, hh with
  | [], hh =>
    replace hh := Eq.mp (E_law10_wakes.nil F_law10_wakes w.heap K) hh
    unfold F_law10_wakes at hh
    exact calls_den (fn1_right ok8 E_quorum_New.right (fn1_right ok10 E_quorum_Quorum_Start.right (fn1_right ok13 E_quorum_Quorum_Phase.right noFns_right))) plan9 _ w K Try.func9 (by kernel_rfl) (by kernel_rfl) (Eq.mp (F_law10_wakes.eq F_quorum_New F_quorum_Quorum_Start F_quorum_Quorum_Phase  w.heap K) hh)
theorem ok9 : okFn Try.prog 9 = true := by kernel_rfl
end Go.Proofs.Ytigcpkejjjgkeaa.V
namespace Go.Proofs.Ytigcpkejjjgkeaa.V
open Go Go.RowKit
set_option linter.unusedVariables false
set_option maxRecDepth 100000
def F_law10_into_of  (i1 n2 : Int) (h : Heap) (Q : Int → Heap → Prop) : Prop :=
  n2 ≠ 0 ∧
  jn [(0, .one (.int .i64))] (fun (i4 : Int) (h5 : Heap) =>
  Q i4 h5) (fun (j3 : Int → Heap → Prop) =>
  brr (decide ((i1.tmod n2) < 0))
  (j3 (IntKind.i64.wrap ((i1.tmod n2) + n2)) h)
  (j3 (i1.tmod n2) h))
def F_law10_into (i1 n2 : Int) (h : Heap) (Q : Int → Heap → Prop) : Prop := F_law10_into_of  i1 n2 h Q
def plan7 : Plan := .s (.r [0, 1]) (.s (.r [0, 1]) (.s (.s (.r [0, 1, 9]) (.cj [(0, .one (.int .i64))] [] (.r [0]) .z)) (.s (.r [4]) .z)))
theorem F_law10_into.eq  (i1 n2 : Int) (h : Heap) (K : Value → Heap → Prop) : F_law10_into_of  i1 n2 h (fun (r0 : Int) (h : Heap) => K (.int .i64 r0) h) =
    den Try.prog noFns Try.f7.ntmps plan7 (bodyOf Try.f7) (args0 0 [(.int .i64 i1 : Value), (.int .i64 n2 : Value)]) h ⟨fun env h => dRes Try.prog Try.f7.results.toList env h K, fun _ _ _ => False, fun env h => dRes Try.prog Try.f7.results.toList env h K⟩ := by kernel_rfl
def E_law10_into_of (f : Int → Int → Heap → (Int → Heap → Prop) → Prop) : List Value → Heap → (Value → Heap → Prop) → Prop
  | [v0, v1], h, K => dec1 (.int .i64) v0 fun (i1 : Int) =>
  dec1 (.int .i64) v1 fun (n2 : Int) =>
  f i1 n2 h (fun (r0 : Int) (h : Heap) => K (.int .i64 r0) h)
  | _, _, _ => False
abbrev E_law10_into := E_law10_into_of F_law10_into
theorem E_law10_into.right : IsRight Try.prog 7 E_law10_into := by
  refine isRight fun vs K w hh => ?_
  match vs, hh with
  | [v0, v1], hh =>
    unfold E_law10_into E_law10_into_of at hh
    replace hh := dec1_sound hh; obtain ⟨i1, rfl, hh⟩ := hh
    replace hh := dec1_sound hh; obtain ⟨n2, rfl, hh⟩ := hh
    unfold F_law10_into at hh
    exact calls_den noFns_right plan7 _ w K Try.func7 (by kernel_rfl) (by kernel_rfl) (Eq.mp (F_law10_into.eq  i1 n2 w.heap K) hh)
theorem ok7 : okFn Try.prog 7 = true := by kernel_rfl
end Go.Proofs.Ytigcpkejjjgkeaa.V
namespace Go.Proofs.Ytigcpkejjjgkeaa.V
open Go Go.RowKit
set_option linter.unusedVariables false
set_option maxRecDepth 100000
def F_law10_copiesOf.l1 (r2 : Int) (j4 : Sl → Heap → Prop) : Sl → Int → Heap → Prop :=
  wl [(4, .one .sl), (5, .one (.int .i64))] (fun (next5 : Sl → Int → Heap → Prop) (l6 : Sl) (i7 : Int) (h8 : Heap) =>
  brr (decide (i7 < (IntKind.i64.wrap (1 + (IntKind.i64.wrap (2 * r2))))))
  ((9 : Int) ≠ 0 ∧
  al 3 [.int .i64 ((IntKind.i64.wrap ((IntKind.i64.wrap (4 * i7)) + 5)).tmod 9)] h8 fun (a9 : Addr) (h10 : Heap) =>
  app 3 1 8 (.int .i64 0) l6 (some a9) 1 h10 fun (s11 : Sl) (h12 : Heap) =>
  next5 s11 (IntKind.i64.wrap (i7 + 1)) h12)
  (j4 l6 h8))
def F_law10_copiesOf_of (f7_ : Int → Int → Heap → (Int → Heap → Prop) → Prop) (many1 : Int) (h : Heap) (Q : Sl → Heap → Prop) : Prop :=
  f7_ many1 4 h fun (r2 : Int) (h3 : Heap) =>
  jn [(4, .one .sl)] (fun (l13 : Sl) (h14 : Heap) =>
  Q l13 h14) (fun (j4 : Sl → Heap → Prop) =>
  F_law10_copiesOf.l1 r2 j4 (⟨none, 0, 0⟩ : Sl) 0 h3)
def F_law10_copiesOf (many1 : Int) (h : Heap) (Q : Sl → Heap → Prop) : Prop := F_law10_copiesOf_of F_law10_into many1 h Q
def plan6 : Plan := .s (.r [0]) (.s (.r [3]) (.s (.r [3, 4]) (.s (.s (.r [3, 4, 5]) (.bj [(4, .one .sl)] [] (.l [(4, .one .sl), (5, .one (.int .i64))] [3] (.s (.s (.r [3, 4, 5, 12]) (.c .z .z)) (.s (.b (.r [3, 4, 5])) (.r [3, 4, 5])))))) (.s (.r [2]) .z))))
theorem F_law10_copiesOf.eq (f7_ : Int → Int → Heap → (Int → Heap → Prop) → Prop) (many1 : Int) (h : Heap) (K : Value → Heap → Prop) : F_law10_copiesOf_of f7_ many1 h (fun (r0 : Sl) (h : Heap) => K (.slice r0.ptr r0.len r0.cap) h) =
    den Try.prog (fn1 7 (E_law10_into_of f7_) noFns) Try.f6.ntmps plan6 (bodyOf Try.f6) (args0 0 [(.int .i64 many1 : Value)]) h ⟨fun env h => dRes Try.prog Try.f6.results.toList env h K, fun _ _ _ => False, fun env h => dRes Try.prog Try.f6.results.toList env h K⟩ := by kernel_rfl
def E_law10_copiesOf_of (f : Int → Heap → (Sl → Heap → Prop) → Prop) : List Value → Heap → (Value → Heap → Prop) → Prop
  | [v0], h, K => dec1 (.int .i64) v0 fun (many1 : Int) =>
  f many1 h (fun (r0 : Sl) (h : Heap) => K (.slice r0.ptr r0.len r0.cap) h)
  | _, _, _ => False
abbrev E_law10_copiesOf := E_law10_copiesOf_of F_law10_copiesOf
theorem E_law10_copiesOf.right : IsRight Try.prog 6 E_law10_copiesOf := by
  refine isRight fun vs K w hh => ?_
  match vs, hh with
  | [v0], hh =>
    unfold E_law10_copiesOf E_law10_copiesOf_of at hh
    replace hh := dec1_sound hh; obtain ⟨many1, rfl, hh⟩ := hh
    unfold F_law10_copiesOf at hh
    exact calls_den (fn1_right ok7 E_law10_into.right noFns_right) plan6 _ w K Try.func6 (by kernel_rfl) (by kernel_rfl) (Eq.mp (F_law10_copiesOf.eq F_law10_into many1 w.heap K) hh)
theorem ok6 : okFn Try.prog 6 = true := by kernel_rfl
end Go.Proofs.Ytigcpkejjjgkeaa.V
/- The laws' small functions for quorums; an Op as it comes in. -/
namespace Go.Proofs.Ytigcpkejjjgkeaa.V
open Go Go.RowKit
set_option linter.unusedVariables false
set_option linter.unusedSimpArgs false
section
variable {h0 h : Heap} {L : List Res} {p : Nat} {q : QS} {m : Mg}
theorem F_law10_into.is {i n : Int} {Q : Int → Heap → Prop} (hn : 0 < n) (hn2 : n < 4611686018427387904) (k : Q (i % n) h) : F_law10_into i n h Q := by
  rw [F_law10_into.eq_1, F_law10_into_of.eq_1]
  have hf := tmod_fix (a := i) hn
  have hl := tmod_lt (a := i) hn
  refine ⟨by omega, ?_⟩
  refine jn1 (fun x h' => x = i % n ∧ h' = h) ?_ ?_
  · rintro x h ⟨rfl, rfl⟩
    exact k
  · intro j hj
    refine brr_p (fun hlt => ?_) (fun hlt => ?_)
    · rw [if_pos hlt] at hf
      rw [wrap64 (by omega) (by omega)]
      exact hj _ _ ⟨hf, rfl⟩
    · rw [if_neg hlt] at hf
      exact hj _ _ ⟨hf, rfl⟩
def copyN (n : Nat) : List Int := (List.range n).map fun i => ((4 * i + 5 : Nat) : Int) % 9
theorem copyN_len (n : Nat) : (copyN n).length = n := by simp [copyN]
theorem copyN_succ (n : Nat) : copyN (n + 1) = copyN n ++ [((4 * n + 5 : Nat) : Int) % 9] := by simp [copyN, List.range_succ]
theorem F_law10_copiesOf.is {many : Int} {Q : Sl → Heap → Prop} (O : Sat h0 h L) (k : ∀ s h' (n : Nat), (n = 1 ∨ n = 3 ∨ n = 5 ∨ n = 7) → Sat h0 h' (buf 1 i64c s (copyN n) :: L) → Q s h') : F_law10_copiesOf many h Q := by
  rw [F_law10_copiesOf.eq_1, F_law10_copiesOf_of.eq_1]
  refine F_law10_into.is (by decide) (by decide) ?_
  obtain ⟨g, hg, hg3⟩ : ∃ g : Nat, many % 4 = g ∧ g < 4 := ⟨(many % 4).toNat, by omega, by omega⟩
  rw [hg]
  obtain ⟨n, hn⟩ : ∃ n, n = 1 + 2 * g := ⟨_, rfl⟩
  have ewn : IntKind.i64.wrap (1 + IntKind.i64.wrap (2 * (g : Int))) = (n : Int) := by rw [wrap64 (x := 2 * (g : Int)) (by omega) (by omega), wrap64 (by omega) (by omega)]; omega
  refine jn1 (fun s h' => Sat h0 h' (buf 1 i64c s (copyN n) :: L)) (fun s h O => k s h n (by omega) O) fun j hj => ?_
  rw [F_law10_copiesOf.l1.eq_1]
  refine wl2 (k := .sl) (l := .int .i64) (fun (m : Nat) (s : Sl) (i : Int) (h' : Heap) => i + m = n ∧ 0 ≤ i ∧ Sat h0 h' (buf 1 i64c s (copyN i.toNat) :: L)) ?_ (m := n) ⟨by omega, by omega, O.nil_buf⟩
  clear O
  rintro m (s : Sl) (i : Int) h next hnx ⟨him, hi0, O⟩
  rw [ewn]
  refine brr_p (fun hlt => ?_) (fun hlt => hj _ _ (by rw [show n = i.toNat by omega]; exact O))
  refine ⟨by decide, ?_⟩
  have e : (IntKind.i64.wrap (IntKind.i64.wrap (4 * i) + 5)).tmod 9 = ((4 * i.toNat + 5 : Nat) : Int) % 9 := by
    rw [wrap64 (x := 4 * i) (by omega) (by omega), wrap64 (by omega) (by omega), Int.tmod_eq_emod_of_nonneg (by omega)]
    congr 1
    omega
  rw [e]
  refine Sat.push_buf (enc := i64c) O (((4 * i.toNat + 5 : Nat) : Int) % 9) rfl i64c_len i64c_one rfl (by rw [copyN_len]; omega) fun s2 h O _ => ?_
  rw [← copyN_succ] at O
  rw [wrap64 (by omega) (by omega)]
  refine hnx (m - 1) _ _ _ (by omega) ⟨by omega, by omega, ?_⟩
  rw [show (i + 1).toNat = i.toNat + 1 by omega]
  exact O
theorem F_ref0_EqMsgs.is {s t : Sl} {ms : List Mg} {Q : Bool → Heap → Prop} (hb : ∀ m ∈ ms, m.b.length ≤ (140737488355325 : Nat)) (hl : ms.length ≤ 3000000) (O : Sat h0 h (msgsR s ms :: msgsR t ms :: L)) (k : ∀ h', Sat h0 h' (msgsR s ms :: msgsR t ms :: L) → Q true h') : F_ref0_EqMsgs s t h Q := by
  rw [F_ref0_EqMsgs.eq_1, F_ref0_EqMsgs_of.eq_1]
  obtain ⟨ls, e1, O⟩ := O.msgs
  obtain ⟨lt, e2, O⟩ := (O.sel [2, 0, 1] 3 rfl (Nat.le_add_left _ _)).msgs
  have O : Sat h0 h (buf 22 mgC t lt :: many mvR lt :: buf 22 mgC s ls :: many mvR ls :: L) := O
  have V1 : Stays h0 (buf 22 mgC t lt :: many mvR lt :: buf 22 mgC s ls :: many mvR ls :: L) fun h => View h 22 (En mgC) s ls := fun h O => (O.view 2 mgC_len (by simp) rfl).1
  have V2 : Stays h0 (buf 22 mgC t lt :: many mvR lt :: buf 22 mgC s ls :: many mvR ls :: L) fun h => View h 22 (En mgC) t lt := fun h O => (O.view 0 mgC_len (by simp) rfl).1
  have l1 : ls.length = ms.length := by have := congrArg List.length e1; simpa using this
  have l2 : lt.length = ms.length := by have := congrArg List.length e2; simpa using this
  refine brr_ne (fun hne => absurd ?_ hne) (fun _ => ?_)
  · rw [(V1 h O).len, (V2 h O).len, l1, l2]
  refine jn0 (fun h' => Sat h0 h' (buf 22 mgC t lt :: many mvR lt :: buf 22 mgC s ls :: many mvR ls :: L)) ?_ ?_
  · clear O
    intro h O
    have O := Sat.msgsI e2 O
    have O := Sat.msgsI e1 (O.sel [1, 2, 0] 3 rfl (Nat.le_add_left _ _))
    exact k _ O
  · intro j hj
    rw [F_ref0_EqMsgs.l1.eq_1]
    refine wl1 (k := .int .i64) (fun (m : Nat) (i : Int) (h' : Heap) => i + m = ms.length ∧ 0 ≤ i ∧ Sat h0 h' (buf 22 mgC t lt :: many mvR lt :: buf 22 mgC s ls :: many mvR ls :: L)) ?_ (m := ms.length) ⟨by omega, by omega, O⟩
    clear O
    rintro m (i : Int) h next hnx ⟨him, hi0, O⟩
    rw [show decide (i < ((s.len : Nat) : Int)) = decide (i < (ms.length : Int)) by rw [(V1 h O).len, l1]]
    refine brr_p (fun hlt => ?_) (fun hlt => hj _ O)
    obtain ⟨x, hx⟩ : ∃ x, ls[i.toNat]? = some x := ⟨_, List.getElem?_eq_getElem (by omega)⟩
    obtain ⟨y, hy⟩ : ∃ y, lt[i.toNat]? = some y := ⟨_, List.getElem?_eq_getElem (by omega)⟩
    have ex : x.bare = y.bare := by
      have a := congrArg (·[i.toNat]?) e1
      have b := congrArg (·[i.toNat]?) e2
      simp only [List.getElem?_map, hx, hy, Option.map_some] at a b
      exact Option.some.inj (a.trans b.symm)
    have hy2 : y = { x with v := y.v } := by
      cases x; cases y
      simp only [Mg.bare, Mg.mk.injEq] at ex ⊢
      simp only [ex, and_self]
    have hxb : x.b.length ≤ (140737488355325 : Nat) := by
      have : x.bare ∈ ms := by rw [← e1]; exact List.mem_map.2 ⟨x, List.mem_of_getElem? hx, rfl⟩
      exact hb x.bare this
    refine (V1 h O).getP hi0 hx fun a ha => ld_are (ha (V1 h O)) ?_
    unfold mgC
    repeat (first | (with_reducible refine ldL_n ?_) | refine ldL_s ?_ | refine ldL_c ?_)
    refine (V2 h O).getP hi0 hy fun a ha => ld_are (ha (V2 h O)) ?_
    rw [hy2]
    unfold mgC
    repeat (first | (with_reducible refine ldL_n ?_) | refine ldL_s ?_ | refine ldL_c ?_)
    have yb : y.b = x.b := by rw [hy2]
    refine F_ref0_EqMsg.is (m := x) (t := y.v) O (fun h O => ?_) (fun h O => ?_) hxb fun h O => ?_
    · have := (O.sel [3, 0, 1, 2] 4 rfl (Nat.le_add_left _ _)).take _ hx
      exact (this.view 0 u8_len (by simp) rfl).1
    · have := (O.sel [1, 0, 2, 3] 4 rfl (Nat.le_add_left _ _)).take _ hy
      rw [← yb]
      exact (this.view 0 u8_len (by simp) rfl).1
    refine brr_ff rfl ?_
    rw [wrap64 (by omega) (by omega)]
    exact hnx (m - 1) _ _ (by omega) ⟨by omega, by omega, O⟩
theorem msgs_len {s : Sl} {ms : List Mg} (O : Sat h0 h (msgsR s ms :: L)) : s.len = ms.length := by
  obtain ⟨ls, e, O⟩ := O.msgs
  rw [(O.view 0 mgC_len (by simp) rfl).1.len, ← e, List.length_map]
theorem send_b {x m : Mg} {out : Int → Bool} (h : m ∈ q.send x out) : m.b = x.b := by
  unfold QS.send at h
  obtain ⟨c, _, rfl⟩ := List.mem_map.1 h
  rfl
theorem prepares_b {m : Mg} (h : m ∈ q.prepares) : m.b.length ≤ (140737488355325 : Nat) := by rw [send_b h]; show (0 : Nat) ≤ _; decide
theorem writes_b {m : Mg} {span : Int} (ok : q.Ok) (h : m ∈ q.writes span) : m.b.length ≤ (140737488355325 : Nat) := by rw [send_b h]; exact ok.v
theorem beats_b {m : Mg} {span : Int} (h : m ∈ q.beats span) : m.b.length ≤ (140737488355325 : Nat) := by rw [send_b h]; show (0 : Nat) ≤ _; decide
theorem start_b {e te ts span : Int} {b : List UInt8} (ok : q.Ok) (hb : b.length ≤ (140737488355325 : Nat)) : (∀ m ∈ (q.start e te ts b span).2, m.b.length ≤ (140737488355325 : Nat)) ∧ (q.start e te ts b span).2.length ≤ 1000000 := by
  have hc := ok.c
  unfold QS.start
  split
  · exact ⟨fun m h => writes_b ((ok.start0 hb).wrt (by decide)) h, Nat.le_trans send_len hc⟩
  · exact ⟨fun m h => prepares_b h, Nat.le_trans send_len hc⟩
theorem hear_b {m : Mg} {span : Int} (ok : q.Ok) (hb : m.b.length ≤ (140737488355325 : Nat)) : (∀ x ∈ (q.hear m span).2, x.b.length ≤ (140737488355325 : Nat)) ∧ (q.hear m span).2.length ≤ 1000000 := by
  have hc := ok.c
  have z : (∀ x ∈ ([] : List Mg), x.b.length ≤ (140737488355325 : Nat)) ∧ ([] : List Mg).length ≤ 1000000 := ⟨fun x hx => absurd hx List.not_mem_nil, by simp⟩
  unfold QS.hear
  split
  · exact z
  split
  · unfold QS.promise
    split
    · exact z
    split
    · refine ⟨fun m h => writes_b ((ok.prom hb).wrt (by decide)) h, Nat.le_trans send_len ?_⟩
      show (q.prom m).cop.length ≤ _
      rw [prom_same.2.2.1]; exact hc
    · exact z
  split
  · exact z
  split
  · exact z
  split
  · exact z
  · exact z
theorem propose_b {b : List UInt8} {span : Int} (ok : q.Ok) (hb : b.length ≤ (140737488355325 : Nat)) : (∀ m ∈ (q.propose b span).2.1, m.b.length ≤ (140737488355325 : Nat)) ∧ (q.propose b span).2.1.length ≤ 1000000 := by
  have hc := ok.c
  have ht := ok.t
  unfold QS.propose
  split
  · exact ⟨fun x hx => absurd hx List.not_mem_nil, by simp⟩
  · exact ⟨fun m h => writes_b (QS.Ok.wrt (q := { q with val := b }) ⟨ok.c, hb, ok.w, ok.n, ok.s, ok.t, ok.b⟩ (by omega)) h, Nat.le_trans send_len hc⟩
theorem tick0_b {m : Mg} {span : Int} (ok : q.Ok) (h : m ∈ q.tick0 span) : m.b.length ≤ (140737488355325 : Nat) := by
  unfold QS.tick0 at h
  split at h
  · exact prepares_b h
  split at h
  · exact writes_b ok h
  · cases h
theorem tick_b {span : Int} (ok : q.Ok) : (∀ m ∈ (q.tick span).2, m.b.length ≤ (140737488355325 : Nat)) ∧ (q.tick span).2.length ≤ 2000000 := by
  have hc := ok.c
  have h0 := tick0_len (q := q) (span := span)
  have h1 : (q.beats span).length ≤ q.cop.length := send_len
  have h2 : (q.rise.beats span).length ≤ q.cop.length := send_len (q := q.rise)
  unfold QS.tick
  split
  · exact ⟨fun m h => tick0_b ok h, by show (q.tick0 span).length ≤ _; omega⟩
  split
  · split
    · exact ⟨fun m h => tick0_b ok h, by show (q.tick0 span).length ≤ _; omega⟩
    · refine ⟨fun m h => ?_, by rw [List.length_append]; omega⟩
      rcases List.mem_append.1 h with h | h
      · exact tick0_b ok h
      · exact beats_b h
  · refine ⟨fun m h => ?_, by rw [List.length_append]; omega⟩
    rcases List.mem_append.1 h with h | h
    · exact tick0_b ok h
    · exact beats_b h
theorem fresh_ok {node shard : Int} {cop : List Int} (hc : cop.length ≤ 1000000) : (QS.fresh node shard cop).Ok := ⟨hc, by simp [QS.fresh], by simp [QS.fresh], List.nodup_nil, fun x hx => absurd hx List.not_mem_nil, Int.le_refl _, Int.le_refl _⟩
theorem int_buf {b : Nat} {x : Int} (O : Sat h0 h (own b [.int .i64 x] :: L)) : Sat h0 h (buf 1 i64c ⟨some (pt b 0), 1, 1⟩ [x] :: L) := by
  have O : Sat h0 h (own b ([x].flatMap i64c ++ []) :: L) := O
  exact (O.own_buf (k := 0) (sz := 1) rfl).bufsI
def wakeQ : QS := ((QS.fresh 3 1 [3]).start 5 0 0 [120] 2).1
theorem F_law10_wakes.is {Q : Bool → Heap → Prop} (O : Sat h0 h L) (k : ∀ h', Sat h0 h' L → Q true h') : F_law10_wakes h Q := by
  rw [F_law10_wakes.eq_1, F_law10_wakes_of.eq_1]
  refine O.al fun a1 h O => ?_
  have O := int_buf O
  refine F_quorum_New.is (cop := [3]) (fun h O => (O.view 0 i64c_len (by simp) rfl).1) (by simp) O fun p h O => ?_
  refine brr_ff rfl ?_
  refine O.al fun a5 h O => ?_
  refine O.frz fun h O => ?_
  have O : Sat h0 h (own a5 [.int .u8 ((120 : UInt8).toNat : Int)] :: quR p (QS.fresh 3 1 [3]) :: buf 1 i64c ⟨some (pt a1 0), 1, 1⟩ [3] :: L) := O
  have O := lit_buf O
  refine F_quorum_Quorum_Start.is (b := [120]) (fresh_ok (by simp)) (by simp) (fun h O => (O.view 0 u8_len (by simp) rfl).1) O.swap fun s h O => ?_
  have e : ((QS.fresh 3 1 [3]).start 5 0 0 [120] 2).2 = [{ mgz with kind := 4, frm := 3, to := 3, shard := 1, te := 5, ts := 1, span := 2, b := [120] }] := by rfl
  rw [e] at O
  obtain ⟨ls, el, O⟩ := O.msgs
  have V := (O.view 0 mgC_len (by simp) rfl).1
  obtain ⟨x, rfl⟩ : ∃ x, ls = [x] := by
    have hl : ls.length = 1 := by have := congrArg List.length el; simpa using this
    cases ls with
    | nil => cases hl
    | cons x t =>
      cases t with
      | nil => exact ⟨x, rfl⟩
      | cons y t => simp at hl
  have ex : x.bare = { mgz with kind := 4, frm := 3, to := 3, shard := 1, te := 5, ts := 1, span := 2, b := [120] } := by
    simpa using el
  have x1 : x.kind = 4 := congrArg Mg.kind ex
  have x2 : x.te = 5 := congrArg Mg.te ex
  have x3 : x.ts = 1 := congrArg Mg.ts ex
  refine jn1 (fun z h' => z = true ∧ Sat h0 h' L) (fun z h' hh => by obtain ⟨rfl, O⟩ := hh; exact k _ O) fun j hj => ?_
  rw [V.len]
  refine brr_eq (fun _ => ?_) (fun hn => absurd rfl hn)
  refine V.getP (x := x) (Int.le_refl _) rfl fun a ha => ld_drop (ha V) 0 (ldL_c (ldL_n ?_))
  rw [x1]
  refine brr_tt rfl ?_
  refine V.getP (x := x) (Int.le_refl _) rfl fun a ha => ld_drop (ha V) 5 (ldL_c (ldL_c (ldL_n ?_)))
  rw [x2, x3]
  refine brr_tt rfl ?_
  refine F_quorum_Quorum_Phase.is (O.sel [2] 3 rfl (Nat.le_add_left _ _)) ?_
  exact hj _ _ ⟨by rfl, O.sel [] 5 rfl (Nat.le_add_left _ _)⟩
end
structure QOp where
  kind : Int
  which : Int
  epoch : Int
  o1 : Int
  te : Int
  ts : Int
  ov : Sl
  span : Int
  m : Mg
  aim : Int
  v : Sl
  ob : List UInt8
  vb : List UInt8
def qopC (o : QOp) : List Value := [.int .i64 o.kind, .int .i64 o.which, .int .u64 o.epoch, .int .u64 o.o1, .int .u64 o.te, .int .u64 o.ts, .slice o.ov.ptr o.ov.len o.ov.cap, .int .i64 o.span, .int .i64 o.m.kind, .int .i64 o.m.frm, .int .i64 o.m.to, .int .i64 o.m.shard, .int .u64 o.m.epoch, .int .u64 o.m.te, .int .u64 o.m.ts, .int .u64 o.m.round, .int .i64 o.m.span, .int .u64 o.m.seen, .slice o.m.v.ptr o.m.v.len o.m.v.cap, .int .i64 o.m.peer, .int .u64 o.m.num, .string o.m.name, .string o.m.other, .int .u64 o.m.amount, .int .u64 o.m.life, .int .u64 o.m.id, .int .i64 o.m.op, .int .i64 o.m.client, .int .i64 o.m.state, .int .i64 o.m.bad, .int .i64 o.aim, .slice o.v.ptr o.v.len o.v.cap]
abbrev tyB : Ty := .sl 1 1 (.int .u8)
abbrev tyMsg : Ty := .cons (.cons (.int .i64) (.cons (.int .i64) (.cons (.int .i64) (.cons (.int .i64) .nil)))) (.cons (.int .u64) (.cons (.cons (.int .u64) (.cons (.int .u64) .nil)) (.cons (.int .u64) (.cons (.int .i64) (.cons (.int .u64) (.cons tyB (.cons (.int .i64) (.cons (.int .u64) (.cons .str (.cons .str (.cons (.int .u64) (.cons (.cons (.int .u64) (.cons (.int .u64) .nil)) (.cons (.int .i64) (.cons (.int .i64) (.cons (.int .i64) (.cons (.int .i64) .nil))))))))))))))))
abbrev tyStored : Ty := .cons (.int .u64) (.cons (.cons (.int .u64) (.cons (.int .u64) .nil)) (.cons tyB .nil))
abbrev tyQOp : Ty := .cons (.int .i64) (.cons (.int .i64) (.cons (.int .u64) (.cons tyStored (.cons (.int .i64) (.cons tyMsg (.cons (.int .i64) (.cons tyB .nil)))))))
abbrev tyTwo : Ty := .cons (.int .i64) (.cons (.int .i64) .nil)
abbrev tyQScript : Ty := .cons tyTwo (.cons tyTwo (.cons tyTwo (.cons (.sl 32 320 tyQOp) .nil)))
structure QOp.Ok (h : Heap) (o : QOp) : Prop where
  mv : Bytes h o.m.v o.m.b
  mb : o.m.b.length ≤ (140737488355325 : Nat)
  ov : Bytes h o.ov o.ob
  ob : o.ob.length ≤ (140737488355325 : Nat)
  v : Bytes h o.v o.vb
  vb : o.vb.length ≤ (140737488355325 : Nat)
def qopR (h : Heap) (o : QOp) (cs : List Value) : Prop := cs = qopC o ∧ o.Ok h
theorem SlN.qops {h : Heap} {s : Sl} (S : SlN h 140737488351232 32 320 s fun cs => Fit h 140737488351232 tyQOp cs) : ∃ l : List QOp, View h 32 (qopR h) s l := by
  obtain ⟨h1, h2, _, xs, V⟩ := S.view (qopR h) (fun cs F => by
    obtain ⟨t1, _, rfl, t1a, t1b, F⟩ := Fit.i F
    obtain ⟨t2, _, rfl, t2a, t2b, F⟩ := Fit.i F
    obtain ⟨t3, _, rfl, t3a, t3b, F⟩ := Fit.i F
    replace F := Fit.g F
    obtain ⟨s1, _, rfl, s1a, s1b, F⟩ := Fit.i F
    replace F := Fit.g F
    replace F := Fit.g F
    obtain ⟨s2, _, rfl, s2a, s2b, F⟩ := Fit.i F
    replace F := Fit.g F
    obtain ⟨s3, _, rfl, s3a, s3b, F⟩ := Fit.i F
    replace F := Fit.z F
    replace F := Fit.g F
    obtain ⟨s4, _, rfl, s4S, F⟩ := Fit.s F
    replace F := Fit.z F
    obtain ⟨t4, _, rfl, t4a, t4b, F⟩ := Fit.i F
    replace F := Fit.g F
    replace F := Fit.g F
    obtain ⟨m1, _, rfl, m1a, m1b, F⟩ := Fit.i F
    replace F := Fit.g F
    obtain ⟨m2, _, rfl, m2a, m2b, F⟩ := Fit.i F
    replace F := Fit.g F
    obtain ⟨m3, _, rfl, m3a, m3b, F⟩ := Fit.i F
    replace F := Fit.g F
    obtain ⟨m4, _, rfl, m4a, m4b, F⟩ := Fit.i F
    replace F := Fit.z F
    replace F := Fit.g F
    obtain ⟨m5, _, rfl, m5a, m5b, F⟩ := Fit.i F
    replace F := Fit.g F
    replace F := Fit.g F
    obtain ⟨m6, _, rfl, m6a, m6b, F⟩ := Fit.i F
    replace F := Fit.g F
    obtain ⟨m7, _, rfl, m7a, m7b, F⟩ := Fit.i F
    replace F := Fit.z F
    replace F := Fit.g F
    obtain ⟨m8, _, rfl, m8a, m8b, F⟩ := Fit.i F
    replace F := Fit.g F
    obtain ⟨m9, _, rfl, m9a, m9b, F⟩ := Fit.i F
    replace F := Fit.g F
    obtain ⟨m10, _, rfl, m10a, m10b, F⟩ := Fit.i F
    replace F := Fit.g F
    obtain ⟨m11, _, rfl, m11S, F⟩ := Fit.s F
    replace F := Fit.g F
    obtain ⟨m12, _, rfl, m12a, m12b, F⟩ := Fit.i F
    replace F := Fit.g F
    obtain ⟨m13, _, rfl, m13a, m13b, F⟩ := Fit.i F
    replace F := Fit.g F
    obtain ⟨m14, _, rfl, m14l, F⟩ := Fit.a F
    replace F := Fit.g F
    obtain ⟨m15, _, rfl, m15l, F⟩ := Fit.a F
    replace F := Fit.g F
    obtain ⟨m16, _, rfl, m16a, m16b, F⟩ := Fit.i F
    replace F := Fit.g F
    replace F := Fit.g F
    obtain ⟨m17, _, rfl, m17a, m17b, F⟩ := Fit.i F
    replace F := Fit.g F
    obtain ⟨m18, _, rfl, m18a, m18b, F⟩ := Fit.i F
    replace F := Fit.z F
    replace F := Fit.g F
    obtain ⟨m19, _, rfl, m19a, m19b, F⟩ := Fit.i F
    replace F := Fit.g F
    obtain ⟨m20, _, rfl, m20a, m20b, F⟩ := Fit.i F
    replace F := Fit.g F
    obtain ⟨m21, _, rfl, m21a, m21b, F⟩ := Fit.i F
    replace F := Fit.g F
    obtain ⟨m22, _, rfl, m22a, m22b, F⟩ := Fit.i F
    replace F := Fit.z F
    obtain ⟨t5, _, rfl, t5a, t5b, F⟩ := Fit.i F
    obtain ⟨t6, _, rfl, t6S, F⟩ := Fit.s F
    obtain rfl := Fit.e F
    obtain ⟨_, a2, l, Vl⟩ := m11S.bytes
    obtain ⟨_, b2, l2, Vl2⟩ := s4S.bytes
    obtain ⟨_, c2, l3, Vl3⟩ := t6S.bytes
    have hl := Vl.len
    have hl2 := Vl2.len
    have hl3 := Vl3.len
    refine ⟨⟨t1, t2, t3, s1, s2, s3, s4, t4, ⟨m1, m2, m3, m4, m5, m6, m7, m8, m9, m10, m11, m12, m13, m14, m15, m16, m17, m18, m19, m20, m21, m22, l⟩, t5, t6, l2, l3⟩, rfl, Vl, ?_, Vl2, ?_, Vl3, ?_⟩
    · show l.length ≤ _; omega
    · show l2.length ≤ _; omega
    · show l3.length ≤ _; omega)
  exact ⟨xs, V⟩
end Go.Proofs.Ytigcpkejjjgkeaa.V
/- What keeps a quorum's steps in order (plain). -/
namespace Go.Proofs.Ytigcpkejjjgkeaa.V
open Go Go.RowKit
set_option linter.unusedVariables false
set_option linter.unusedSimpArgs false

structure QS.Inv (q : QS) : Prop where
  ok : q.Ok
  p1 : q.phase = 1 → q.most (q.pm.length : Nat) = false
  p2 : q.phase = 2 → q.most (q.wr.length : Nat) = false
  p3 : q.phase = 3 → q.chosen = q.tag
  bd : q.begun ≠ q.done → q.most (q.bt.length : Nat) = false
section
variable {q : QS} {m : Mg}
theorem most_zero : q.most ((([] : List Int).length : Nat) : Int) = false := by unfold QS.most; exact decide_eq_false (by simp; omega)
theorem most_small {n : Nat} (h : q.most (n : Int) = false) : n ≤ q.cop.length / 2 := by
  unfold QS.most at h
  have := of_decide_eq_false h
  omega
theorem inv_wrt (ok : q.Ok) (bd : q.begun ≠ q.done → q.most (q.bt.length : Nat) = false) {seq : Int} (hs : 0 ≤ seq) : (q.wrt seq).Inv :=
  ⟨ok.wrt hs, fun h => absurd h (by show ¬ (2 : Int) = 1; decide), fun _ => most_zero, fun h => absurd h (by show ¬ (2 : Int) = 3; decide), bd⟩
theorem inv_stop (ok : q.Ok) : q.stop.Inv :=
  ⟨ok.stop, fun h => absurd h (by show ¬ (0 : Int) = 1; decide), fun h => absurd h (by show ¬ (0 : Int) = 2; decide), fun h => absurd h (by show ¬ (0 : Int) = 3; decide), fun h => absurd rfl h⟩
theorem inv_fresh {node shard : Int} {cop : List Int} (hc : cop.length ≤ 1000000) : (QS.fresh node shard cop).Inv :=
  ⟨fresh_ok hc, fun h => absurd h (by show ¬ (0 : Int) = 1; decide), fun h => absurd h (by show ¬ (0 : Int) = 2; decide), fun h => absurd h (by show ¬ (0 : Int) = 3; decide), fun h => absurd rfl h⟩
theorem inv_start (ok : q.Ok) {e te ts span : Int} {b : List UInt8} (hb : b.length ≤ (140737488355325 : Nat)) : (q.start e te ts b span).1.Inv := by
  unfold QS.start
  split
  · exact inv_wrt (ok.start0 hb) (fun h => absurd rfl h) (by decide)
  · rename_i h
    exact ⟨ok.start0 hb, fun _ => eq_false_of_ne_true h, fun h => absurd h (by show ¬ (1 : Int) = 2; decide), fun h => absurd h (by show ¬ (1 : Int) = 3; decide), fun h => absurd rfl h⟩
theorem prom_more : (q.prom m).begun = q.begun ∧ (q.prom m).done = q.done ∧ (q.prom m).bt = q.bt ∧ (q.prom m).wr = q.wr ∧ (q.prom m).tag = q.tag ∧ (q.prom m).chosen = q.chosen ∧ (q.prom m).what = q.what ∧ (q.prom m).rf = q.rf ∧ (q.prom m).seen = q.seen := by
  unfold QS.prom; split <;> exact ⟨rfl, rfl, rfl, rfl, rfl, rfl, rfl, rfl, rfl⟩
theorem prom_most {n : Int} : (q.prom m).most n = q.most n := by unfold QS.most; rw [prom_same.2.2.1]
theorem inv_promise (iv : q.Inv) (hb : m.b.length ≤ (140737488355325 : Nat)) (span : Int) : (q.promise m span).1.Inv := by
  obtain ⟨e1, e2, e3, e4, e5, e6⟩ := prom_same (q := q) (m := m)
  obtain ⟨f1, f2, f3, f4, f5, f6, f7, f8, f9⟩ := prom_more (q := q) (m := m)
  have ok := iv.ok.prom hb
  have bd : (q.prom m).begun ≠ (q.prom m).done → (q.prom m).most ((q.prom m).bt.length : Nat) = false := by
    rw [f1, f2, f3, prom_most]; exact iv.bd
  unfold QS.promise
  split
  · exact iv
  split
  · exact inv_wrt ok bd (by decide)
  · rename_i h1 h2
    have hp : q.phase = 1 := by
      rcases Decidable.em (q.phase = 1) with h | h
      · exact h
      · exact absurd (.inl h) h1
    refine ⟨ok, fun _ => by simpa using h2, fun h => ?_, fun h => ?_, bd⟩
    · rw [e4, hp] at h; exact absurd h (by decide)
    · rw [e4, hp] at h; exact absurd h (by decide)
theorem inv_stored (iv : q.Inv) : (q.stored m).Inv := by
  have ok := iv.ok.stored (m := m)
  unfold QS.stored at ok ⊢
  split
  · rename_i h1
    rw [if_pos h1] at ok
    split
    · rename_i h2
      rw [if_pos h2] at ok
      exact ⟨ok, fun h => absurd h (by show ¬ (3 : Int) = 1; decide), fun h => absurd h (by show ¬ (3 : Int) = 2; decide), fun _ => rfl, iv.bd⟩
    · rename_i h2
      rw [if_neg h2] at ok
      exact ⟨ok, iv.p1, fun _ => eq_false_of_ne_true h2, iv.p3, iv.bd⟩
  · exact iv
theorem inv_heed (iv : q.Inv) : (q.heed m).Inv := ⟨⟨iv.ok.c, iv.ok.v, iv.ok.w, iv.ok.n, iv.ok.s, iv.ok.t, iv.ok.b⟩, iv.p1, iv.p2, iv.p3, iv.bd⟩
theorem inv_refuse (iv : q.Inv) (hm : m.frm ∈ q.cop) : (q.refuse m).Inv := by
  have ok := iv.ok.refuse hm
  unfold QS.refuse at ok ⊢
  split
  · exact inv_heed iv
  · rename_i h1
    rw [if_neg h1] at ok
    split
    · rename_i h2
      rw [if_pos h2] at ok
      exact ⟨ok, iv.p1, iv.p2, iv.p3, iv.bd⟩
    · exact inv_stop (inv_heed iv).ok
theorem inv_beat (iv : q.Inv) : (q.beat m).Inv := by
  have ok := iv.ok.beat (m := m)
  unfold QS.beat at ok ⊢
  split
  · rename_i h1
    rw [if_pos h1] at ok
    split
    · rename_i h2
      rw [if_pos h2] at ok
      exact ⟨ok, iv.p1, iv.p2, iv.p3, fun h => absurd rfl h⟩
    · rename_i h2
      rw [if_neg h2] at ok
      exact ⟨ok, iv.p1, iv.p2, iv.p3, fun _ => eq_false_of_ne_true h2⟩
  · exact iv
theorem inv_hear (iv : q.Inv) (hb : m.b.length ≤ (140737488355325 : Nat)) (span : Int) : (q.hear m span).1.Inv := by
  unfold QS.hear
  split
  · exact iv
  rename_i hg
  have hm : m.frm ∈ q.cop := Decidable.byContradiction fun h => hg (.inr (.inr h))
  split
  · exact inv_promise iv hb span
  split
  · exact inv_stored iv
  split
  · exact inv_refuse iv hm
  split
  · exact inv_beat iv
  · exact iv
theorem inv_propose (iv : q.Inv) {b : List UInt8} (hb : b.length ≤ (140737488355325 : Nat)) (span : Int) : (q.propose b span).1.Inv := by
  have ht := iv.ok.t
  unfold QS.propose
  split
  · exact iv
  · exact inv_wrt (q := { q with val := b }) ⟨iv.ok.c, hb, iv.ok.w, iv.ok.n, iv.ok.s, iv.ok.t, iv.ok.b⟩ iv.bd (by omega)
theorem inv_tick (iv : q.Inv) (span : Int) : (q.tick span).1.Inv := by
  have ok := iv.ok.tick span
  unfold QS.tick at ok ⊢
  split
  · exact iv
  rename_i h1
  rw [if_neg h1] at ok
  split
  · rename_i h2
    rw [if_pos h2] at ok
    split
    · exact iv
    · rename_i h3
      rw [if_neg h3] at ok
      exact ⟨ok, iv.p1, iv.p2, iv.p3, fun _ => most_zero⟩
  · exact iv
end
end Go.Proofs.Ytigcpkejjjgkeaa.V
/- A shard's nodes and copies: what holds at all times (plain). -/
namespace Go.Proofs.Ytigcpkejjjgkeaa.V
open Go Go.RowKit
set_option linter.unusedVariables false
set_option linter.unusedSimpArgs false

structure CP where
  prom : Int
  te : Int
  ts : Int
  b : List UInt8
structure WR where
  te : Int
  ts : Int
  b : List UInt8
  st : List Bool
abbrev CP.tg (c : CP) : Tg := (c.te, c.ts)
abbrev WR.tg (x : WR) : Tg := (x.te, x.ts)
structure BS where
  ns : List Int
  cs : List CP
  wrs : List WR
def tle (a b : Tg) : Prop := a.1 < b.1 ∨ (a.1 = b.1 ∧ a.2 ≤ b.2)
theorem tle_refl (a : Tg) : tle a a := .inr ⟨rfl, Int.le_refl _⟩
theorem tle_trans {a b c : Tg} (h : tle a b) (g : tle b c) : tle a c := by unfold tle at *; omega
theorem tle_of_not_lt {a b : Tg} (h : ¬ tagLt b.1 b.2 a.1 a.2) : tle a b := by
  have h : ¬ (b.1 < a.1 ∨ (b.1 = a.1 ∧ b.2 < a.2)) := h
  unfold tle
  omega
theorem tle_of_lt {a b : Tg} (h : tagLt a.1 a.2 b.1 b.2) : tle a b := by
  have h : (a.1 < b.1 ∨ (a.1 = b.1 ∧ a.2 < b.2)) := h
  unfold tle
  omega
def Sto (β : BS) (t : Tg) (a : Nat) : Prop := ∃ x ∈ β.wrs, x.tg = t ∧ x.st[a]? = some true
def Wrt (β : BS) (t : Tg) (b : List UInt8) : Prop := ∃ x ∈ β.wrs, x.tg = t ∧ x.b = b
def Pr (β : BS) (a : Nat) (e : Int) : Prop := ∃ c, β.cs[a]? = some c ∧ e ≤ c.prom
def Sn (β : BS) (a : Nat) (e : Int) (t : Tg) : Prop := Pr β a e ∧ ∀ t0, Sto β t0 a → t0.1 < e → tle t0 t
def Ow (β : BS) (e : Int) : Prop := ∃ p : Nat, (p : Int) = e % (β.ns.length : Int) ∧ Pr β p e
def Sns (β : BS) (l : List Int) (e : Int) (t : Tg) : Prop := ∀ c ∈ l, ∃ a, β.ns[a]? = some c ∧ Sn β a e t
def Sts (β : BS) (l : List Int) (t : Tg) : Prop := ∀ c ∈ l, ∃ a, β.ns[a]? = some c ∧ Sto β t a
def Big (β : BS) (l : List Int) : Prop := l.Nodup ∧ (∀ c ∈ l, c ∈ β.ns) ∧ β.ns.length < 2 * l.length
structure Ext (β γ : BS) : Prop where
  n : γ.ns = β.ns
  p : ∀ {a e}, Pr β a e → Pr γ a e
  w : ∀ {t b}, Wrt β t b → Wrt γ t b
  s : ∀ {t a}, Sto β t a → Sto γ t a
  b : ∀ {t a e}, Pr β a e → Sto γ t a → t.1 < e → Sto β t a
structure QOk (β : BS) (p : Nat) (q : QS) : Prop where
  iv : q.Inv
  n : β.ns[p]? = some q.node
  s : q.shard = 2
  c : q.cop = β.ns
  ph : q.phase = 0 ∨ q.phase = 1 ∨ q.phase = 2 ∨ q.phase = 3
  e : q.phase ≠ 0 → (p : Int) = q.epoch % (β.ns.length : Int) ∧ Pr β p q.epoch ∧ 1 ≤ q.epoch
  nd : q.pm.Nodup ∧ (∀ c ∈ q.pm, c ∈ β.ns) ∧ q.wr.Nodup ∧ (∀ c ∈ q.wr, c ∈ β.ns)
  p1 : q.phase = 1 → Sns β q.pm q.epoch q.best ∧ q.best.1 < q.epoch ∧ Wrt β q.best q.val ∧ ∀ x ∈ β.wrs, x.te ≠ q.epoch
  p23 : q.phase = 2 ∨ q.phase = 3 → Wrt β q.tag q.val ∧ q.tag.1 = q.epoch ∧ 1 ≤ q.tag.2 ∧ ∀ x ∈ β.wrs, x.te = q.epoch → x.ts ≤ q.tag.2
  p2 : q.phase = 2 → Sts β q.wr q.tag
  p3 : q.phase = 3 → q.what = q.val
  ch : (q.chosen = (0, 0) ∧ q.what = []) ∨ (1 ≤ q.chosen.2 ∧ q.chosen.1 = q.epoch ∧ Wrt β q.chosen q.what ∧ ∃ l, Big β l ∧ Sts β l q.chosen)
  z : q.phase = 1 → q.begun = 0 ∧ q.done = 0 ∧ q.chosen = (0, 0) ∧ q.what = []
structure COk (β : BS) (a : Nat) (c : CP) : Prop where
  t0 : 0 ≤ c.te
  t1 : c.te ≤ c.prom
  s : Sto β c.tg a
  w : Wrt β c.tg c.b
  m : ∀ t, Sto β t a → tle t c.tg
  b : c.b.length ≤ (140737488355325 : Nat)
structure MOk (β : BS) (E : Int) (m : Mg) : Prop where
  f : m.frm ∈ β.ns
  t : m.to ∈ β.ns
  s : m.shard = 2
  b : m.b.length ≤ (140737488355325 : Nat)
  k1 : m.kind = 1 → Ow β m.epoch ∧ 0 ≤ m.epoch
  k2 : m.kind = 2 → ∃ a, β.ns[a]? = some m.frm ∧ Sn β a m.epoch (m.te, m.ts) ∧ m.te ≤ m.epoch ∧ Wrt β (m.te, m.ts) m.b
  k4 : m.kind = 4 → Wrt β (m.te, m.ts) m.b
  k5 : m.kind = 5 → ∃ a, β.ns[a]? = some m.frm ∧ Sto β (m.te, m.ts) a
  k6 : m.kind = 6 → 0 ≤ m.epoch ∧ m.epoch ≤ E
structure XOk (β : BS) (x : WR) : Prop where
  l : x.st.length = β.ns.length
  b : x.b.length ≤ (140737488355325 : Nat)
  o : (x.te = 0 ∧ x.ts = 0) ∨ (1 ≤ x.te ∧ 1 ≤ x.ts ∧ Ow β x.te)
  t : x.ts = 1 → ∃ l bt, Big β l ∧ Sns β l x.te bt ∧ bt.1 < x.te ∧ Wrt β bt x.b
structure BOk (β : BS) (E : Int) : Prop where
  nd : β.ns.Nodup
  n1 : 1 ≤ β.ns.length
  n7 : β.ns.length ≤ 7
  cl : β.cs.length = β.ns.length
  c : ∀ (a : Nat) c, β.cs[a]? = some c → COk β a c ∧ 0 ≤ c.prom ∧ c.prom ≤ E
  x : ∀ x ∈ β.wrs, XOk β x
  u : (β.wrs.map WR.tg).Nodup
section
variable {β γ : BS} {q : QS} {m : Mg} {p a : Nat} {e E : Int} {t : Tg} {l : List Int} {b : List UInt8}
theorem Ext.sn (h : Ext β γ) (s : Sn β a e t) : Sn γ a e t := ⟨h.p s.1, fun t0 st lt => s.2 t0 (h.b s.1 st lt) lt⟩
theorem Ext.ow (h : Ext β γ) (s : Ow β e) : Ow γ e := by
  obtain ⟨p, h1, h2⟩ := s
  exact ⟨p, by rw [h.n]; exact h1, h.p h2⟩
theorem Ext.sns (h : Ext β γ) (s : Sns β l e t) : Sns γ l e t := fun c hc => by
  obtain ⟨a, h1, h2⟩ := s c hc
  exact ⟨a, by rw [h.n]; exact h1, h.sn h2⟩
theorem Ext.sts (h : Ext β γ) (s : Sts β l t) : Sts γ l t := fun c hc => by
  obtain ⟨a, h1, h2⟩ := s c hc
  exact ⟨a, by rw [h.n]; exact h1, h.s h2⟩
theorem Ext.big (h : Ext β γ) (s : Big β l) : Big γ l := by
  unfold Big at *
  rw [h.n]
  exact s
theorem Ext.qq (h : Ext β γ) (nw : ∀ x ∈ γ.wrs, (∃ y ∈ β.wrs, y.tg = x.tg) ∨ (q.phase ≠ 0 → x.te ≠ q.epoch)) (o : QOk β p q) : QOk γ p q where
  iv := o.iv
  n := by rw [h.n]; exact o.n
  s := o.s
  c := by rw [h.n]; exact o.c
  ph := o.ph
  e hp := by
    rw [h.n]
    obtain ⟨h1, h2, h3⟩ := o.e hp
    exact ⟨h1, h.p h2, h3⟩
  nd := by rw [h.n]; exact o.nd
  p1 hp := by
    obtain ⟨h1, h2, h3, h4⟩ := o.p1 hp
    refine ⟨h.sns h1, h2, h.w h3, fun x hx => ?_⟩
    rcases nw x hx with ⟨y, hy, e⟩ | e
    · have := h4 y hy
      have e1 : y.te = x.te := congrArg Prod.fst e
      rw [← e1]
      exact this
    · exact e (by omega)
  p23 hp := by
    obtain ⟨h1, h2, h3, h4⟩ := o.p23 hp
    refine ⟨h.w h1, h2, h3, fun x hx he => ?_⟩
    rcases nw x hx with ⟨y, hy, e⟩ | e
    · have e1 : y.te = x.te := congrArg Prod.fst e
      have e2 : y.ts = x.ts := congrArg Prod.snd e
      rw [← e2]
      exact h4 y hy (e1.trans he)
    · exact absurd he (e (by omega))
  p2 hp := h.sts (o.p2 hp)
  p3 := o.p3
  ch := by
    rcases o.ch with h1 | ⟨h1, h2, h3, l, h4, h5⟩
    · exact .inl h1
    · exact .inr ⟨h1, h2, h.w h3, l, h.big h4, h.sts h5⟩
  z := o.z
theorem Ext.mm (h : Ext β γ) (o : MOk β E m) {F : Int} (hE : E ≤ F) : MOk γ F m where
  f := by rw [h.n]; exact o.f
  t := by rw [h.n]; exact o.t
  s := o.s
  b := o.b
  k1 k := ⟨h.ow (o.k1 k).1, (o.k1 k).2⟩
  k2 k := by
    obtain ⟨a, h1, h2, h3, h4⟩ := o.k2 k
    exact ⟨a, by rw [h.n]; exact h1, h.sn h2, h3, h.w h4⟩
  k4 k := h.w (o.k4 k)
  k5 k := by
    obtain ⟨a, h1, h2⟩ := o.k5 k
    exact ⟨a, by rw [h.n]; exact h1, h.s h2⟩
  k6 k := ⟨(o.k6 k).1, Int.le_trans (o.k6 k).2 hE⟩
theorem Ext.xx {x : WR} (h : Ext β γ) (o : XOk β x) : XOk γ x where
  l := by rw [h.n]; exact o.l
  b := o.b
  o := by
    rcases o.o with h1 | ⟨h1, h2, h3⟩
    · exact .inl h1
    · exact .inr ⟨h1, h2, h.ow h3⟩
  t k := by
    obtain ⟨l, bt, h1, h2, h3, h4⟩ := o.t k
    exact ⟨l, bt, h.big h1, h.sns h2, h3, h.w h4⟩
theorem Ext.refl (β : BS) : Ext β β := ⟨rfl, fun h => h, fun h => h, fun h => h, fun _ h _ => h⟩
theorem count_zip : ∀ (ns : List Int) (st : List Bool), st.length = ns.length → (((ns.zip st).filter (·.2)).map (·.1)).length = st.count true ∧ (((ns.zip st).filter (!·.2)).map (·.1)).length + st.count true = ns.length
  | [], [], _ => ⟨rfl, rfl⟩
  | c :: ns, s :: st, h => by
    obtain ⟨h1, h2⟩ := count_zip ns st (by simpa using h)
    rw [List.length_map] at h1 h2
    cases s <;> simp [List.zip_cons_cons, List.filter_cons, List.count_cons] <;> omega
theorem mem_zip {ns : List Int} {st : List Bool} {a : Nat} {c : Int} {s : Bool} (h1 : ns[a]? = some c) (h2 : st[a]? = some s) : (c, s) ∈ ns.zip st := by
  have : (ns.zip st)[a]? = some (c, s) := by rw [List.getElem?_zip_eq_some]; exact ⟨h1, h2⟩
  exact List.mem_of_getElem? this
theorem many_true {ns : List Int} {st : List Bool} (hl : st.length = ns.length) (nd : l.Nodup) (h : ∀ c ∈ l, ∃ a : Nat, ns[a]? = some c ∧ st[a]? = some true) : l.length ≤ st.count true := by
  rw [← (count_zip ns st hl).1]
  refine nodup_sub_len nd fun c hc => ?_
  obtain ⟨a, h1, h2⟩ := h c hc
  exact List.mem_map.2 ⟨(c, true), List.mem_filter.2 ⟨mem_zip h1 h2, rfl⟩, rfl⟩
theorem meets {ns : List Int} {st : List Bool} (hl : st.length = ns.length) (nd : l.Nodup) (hs : ∀ c ∈ l, c ∈ ns) (h1 : ns.length < 2 * l.length) (h2 : ns.length < 2 * st.count true) : ∃ c ∈ l, ∃ a : Nat, ns[a]? = some c ∧ st[a]? = some true := by
  by_cases hx : ∃ c ∈ l, ∃ a : Nat, ns[a]? = some c ∧ st[a]? = some true
  · exact hx
  exfalso
  have h3 := (count_zip ns st hl).2
  have h4 : l.length ≤ (((ns.zip st).filter (!·.2)).map (·.1)).length := by
    refine nodup_sub_len nd fun c hc => ?_
    obtain ⟨a, ha⟩ := List.getElem?_of_mem (hs c hc)
    have hal := (List.getElem?_eq_some_iff.1 ha).1
    obtain ⟨s, hsx⟩ : ∃ s, st[a]? = some s := ⟨_, List.getElem?_eq_getElem (by omega)⟩
    cases s with
    | true => exact absurd ⟨c, hc, a, ha, hsx⟩ hx
    | false => exact List.mem_map.2 ⟨(c, false), List.mem_filter.2 ⟨mem_zip ha hsx, rfl⟩, rfl⟩
  omega
theorem uniq {x y : WR} (u : (β.wrs.map WR.tg).Nodup) (hx : x ∈ β.wrs) (hy : y ∈ β.wrs) (e : x.tg = y.tg) : x = y := by
  obtain ⟨i, hi⟩ := List.getElem?_of_mem hx
  obtain ⟨j, hj⟩ := List.getElem?_of_mem hy
  have h1 : (β.wrs.map WR.tg)[i]? = some x.tg := by rw [List.getElem?_map, hi]; rfl
  have h2 : (β.wrs.map WR.tg)[j]? = some x.tg := by rw [List.getElem?_map, hj, e]; rfl
  obtain ⟨g1, g2⟩ := List.getElem?_eq_some_iff.1 h1
  obtain ⟨g3, g4⟩ := List.getElem?_eq_some_iff.1 h2
  have := (List.getElem_inj u (i := i) (j := j) (h₀ := g1) (h₁ := g3)).1 (g2.trans g4.symm)
  subst this
  exact Option.some.inj (hi.symm.trans hj)
/-- What is written with a tag that many have stored is behind every greater epoch's first value. -/
theorem behind {x y : WR} (B : BOk β E) (hx : x ∈ β.wrs) (hy : y ∈ β.wrs) (hc : β.ns.length < 2 * x.st.count true) (ht : y.ts = 1) (he : x.te < y.te) : ∃ z ∈ β.wrs, z.te < y.te ∧ tle x.tg z.tg ∧ z.b = y.b := by
  obtain ⟨l, bt, ⟨g1, g2, g3⟩, h2, h3, z, hz, z1, z2⟩ := (B.x y hy).t ht
  obtain ⟨c, hcl, a, ha, hs⟩ := meets (B.x x hx).l g1 g2 g3 hc
  obtain ⟨a', ha', hsn⟩ := h2 c hcl
  obtain ⟨k1, k2⟩ := List.getElem?_eq_some_iff.1 ha
  obtain ⟨k3, k4⟩ := List.getElem?_eq_some_iff.1 ha'
  have := (List.getElem_inj B.nd (i := a) (j := a') (h₀ := k1) (h₁ := k3)).1 (k2.trans k4.symm)
  subst this
  have := hsn.2 x.tg ⟨x, hx, rfl, hs⟩ he
  rw [← z1] at h3 this
  exact ⟨z, hz, h3, this, z2⟩
/-- A copy promises more. -/
theorem raise_ext {c c2 : CP} (hc : β.cs[a]? = some c) (hp : c.prom ≤ c2.prom) : Ext β { β with cs := β.cs.set a c2 } where
  n := rfl
  p {a' e} h := by
    obtain ⟨x, h1, h2⟩ := h
    by_cases ha : a = a'
    · subst ha
      rw [hc] at h1
      cases h1
      exact ⟨c2, by show (β.cs.set a c2)[a]? = _; rw [List.getElem?_set_self (List.getElem?_eq_some_iff.1 hc).1], by omega⟩
    · exact ⟨x, by show (β.cs.set a c2)[a']? = _; rw [List.getElem?_set_ne ha]; exact h1, h2⟩
  w h := h
  s h := h
  b _ h _ := h
/-- A write is marked as stored at a copy. -/
def markW (t : Tg) (a : Nat) (x : WR) : WR := if x.tg = t then { x with st := x.st.set a true } else x
theorem mark_tg {x : WR} : (markW t a x).tg = x.tg ∧ (markW t a x).b = x.b ∧ (markW t a x).st.length = x.st.length ∧ (markW t a x).te = x.te ∧ (markW t a x).ts = x.ts := by
  unfold markW
  split
  · exact ⟨rfl, rfl, by simp, rfl, rfl⟩
  · exact ⟨rfl, rfl, rfl, rfl, rfl⟩
theorem mark_sto {x : WR} {k : Nat} : (markW t a x).st[k]? = some true → x.st[k]? = some true ∨ (x.tg = t ∧ k = a) := by
  unfold markW
  split
  · rename_i h
    intro g
    rw [List.getElem?_set] at g
    split at g
    · rename_i h2; exact .inr ⟨h, h2.symm⟩
    · exact .inl g
  · exact .inl
theorem mark_keeps {x : WR} {k : Nat} (h : x.st[k]? = some true) : (markW t a x).st[k]? = some true := by
  unfold markW
  split
  · rw [List.getElem?_set]
    split
    · rename_i h2
      subst h2
      rw [if_pos (List.getElem?_eq_some_iff.1 h).1]
    · exact h
  · exact h
theorem mark_ext {c c2 : CP} (hc : β.cs[a]? = some c) (hp : c.prom ≤ c2.prom) (ht : c.prom ≤ t.1) : Ext β ⟨β.ns, β.cs.set a c2, β.wrs.map (markW t a)⟩ where
  n := rfl
  p h := (raise_ext hc hp).p h
  w h := by
    obtain ⟨x, h1, h2, h3⟩ := h
    exact ⟨_, List.mem_map.2 ⟨x, h1, rfl⟩, mark_tg.1.trans h2, mark_tg.2.1.trans h3⟩
  s h := by
    obtain ⟨x, h1, h2, h3⟩ := h
    exact ⟨_, List.mem_map.2 ⟨x, h1, rfl⟩, mark_tg.1.trans h2, mark_keeps h3⟩
  b {t0 a' e} h1 h2 h3 := by
    obtain ⟨y, hy, g2, g3⟩ := h2
    obtain ⟨x, hx, rfl⟩ := List.mem_map.1 hy
    rw [mark_tg.1] at g2
    rcases mark_sto g3 with g | ⟨g, rfl⟩
    · exact ⟨x, hx, g2, g⟩
    · exfalso
      obtain ⟨c', k1, k2⟩ := h1
      rw [hc] at k1
      cases k1
      rw [← g2, g] at h3
      omega
/-- A new write. -/
theorem add_ext {x : WR} (hs : ∀ k : Nat, x.st[k]? ≠ some true) : Ext β { β with wrs := β.wrs ++ [x] } where
  n := rfl
  p h := h
  w h := by
    obtain ⟨y, h1, h2⟩ := h
    exact ⟨y, List.mem_append.2 (.inl h1), h2⟩
  s h := by
    obtain ⟨y, h1, h2⟩ := h
    exact ⟨y, List.mem_append.2 (.inl h1), h2⟩
  b {t a e} _ h _ := by
    obtain ⟨y, h1, h2, h3⟩ := h
    rcases List.mem_append.1 h1 with h1 | h1
    · exact ⟨y, h1, h2, h3⟩
    · rw [List.mem_singleton.1 h1] at h3
      exact absurd h3 (hs a)
end
end Go.Proofs.Ytigcpkejjjgkeaa.V
/- A shard's nodes and copies: each step keeps what holds at all times (plain). -/
namespace Go.Proofs.Ytigcpkejjjgkeaa.V
open Go Go.RowKit
set_option linter.unusedVariables false
set_option linter.unusedSimpArgs false

section
variable {β γ : BS} {q : QS} {m : Mg} {p a : Nat} {e E : Int} {t : Tg} {l : List Int} {b : List UInt8}
theorem qok_idle (B : BOk β E) (iv : q.Inv) (h1 : β.ns[p]? = some q.node) (h2 : q.shard = 2) (h3 : q.cop = β.ns) (h4 : q.phase = 0) (h5 : q.pm = []) (h6 : q.wr = []) (h7 : q.chosen = (0, 0)) (h8 : q.what = []) : QOk β p q where
  iv := iv
  n := h1
  s := h2
  c := h3
  ph := .inl h4
  e h := absurd h4 h
  nd := by rw [h5, h6]; exact ⟨List.nodup_nil, fun c h => absurd h List.not_mem_nil, List.nodup_nil, fun c h => absurd h List.not_mem_nil⟩
  p1 h := by omega
  p23 h := by omega
  p2 h := by omega
  p3 h := by omega
  ch := .inl ⟨h7, h8⟩
  z h := by omega
theorem qok_stop (B : BOk β E) (o : QOk β p q) : QOk β p q.stop := qok_idle B (inv_stop o.iv.ok) o.n o.s o.c rfl rfl rfl rfl rfl
/-- Phase 1, but for the majority. -/
structure P1 (β : BS) (p : Nat) (q : QS) : Prop where
  ok : q.Ok
  n : β.ns[p]? = some q.node
  s : q.shard = 2
  c : q.cop = β.ns
  e : (p : Int) = q.epoch % (β.ns.length : Int) ∧ Pr β p q.epoch ∧ 1 ≤ q.epoch
  nd : q.pm.Nodup ∧ ∀ c ∈ q.pm, c ∈ β.ns
  p1 : Sns β q.pm q.epoch q.best ∧ q.best.1 < q.epoch ∧ Wrt β q.best q.val ∧ ∀ x ∈ β.wrs, x.te ≠ q.epoch
  bd : q.begun = 0 ∧ q.done = 0 ∧ q.chosen = (0, 0) ∧ q.what = []
theorem most_iff (h : q.cop = β.ns) {n : Nat} : q.most (n : Int) = decide (β.ns.length < 2 * n) := by
  unfold QS.most
  rw [h]
  exact decide_eq_decide.2 (by omega)
/-- What may be told as the greatest chosen tag of a lesser epoch. -/
def LastOk (β : BS) (e : Int) (T : Tg) : Prop := T = (0, 0) ∨ ∃ y ∈ β.wrs, y.te < e ∧ β.ns.length < 2 * y.st.count true ∧ y.tg = T
def newW (β : BS) (q : QS) (s : Int) : WR := ⟨q.epoch, s, q.val, List.replicate β.ns.length false⟩
theorem newW_st {s : Int} : ∀ k : Nat, (newW β q s).st[k]? ≠ some true := by
  intro k h
  have : (List.replicate β.ns.length false)[k]? = some true := h
  rw [List.getElem?_replicate] at this
  split at this <;> cases this
theorem tle_zero (B : BOk β E) {x : WR} (hx : x ∈ β.wrs) : tle (0, 0) x.tg := by
  rcases (B.x x hx).o with ⟨h1, h2⟩ | ⟨h1, _⟩
  · show tle (0, 0) (x.te, x.ts)
    rw [h1, h2]; exact tle_refl _
  · exact .inl (by show (0 : Int) < x.te; omega)
theorem bok_add (B : BOk β E) {x : WR} (hx : XOk { β with wrs := β.wrs ++ [x] } x) (X : Ext β { β with wrs := β.wrs ++ [x] }) (fr : ∀ y ∈ β.wrs, y.tg ≠ x.tg) (hn : ∀ k : Nat, x.st[k]? ≠ some true) : BOk { β with wrs := β.wrs ++ [x] } E where
  nd := B.nd
  n1 := B.n1
  n7 := B.n7
  cl := B.cl
  c a c hc := by
    obtain ⟨o, h1, h2⟩ := B.c a c hc
    refine ⟨⟨o.t0, o.t1, X.s o.s, X.w o.w, fun t ht => ?_, o.b⟩, h1, h2⟩
    obtain ⟨y, g1, g2, g3⟩ := ht
    rcases List.mem_append.1 g1 with g | g
    · exact o.m t ⟨y, g, g2, g3⟩
    · rw [List.mem_singleton.1 g] at g3; exact absurd g3 (hn a)
  x y hy := by
    rcases List.mem_append.1 hy with h | h
    · exact X.xx (B.x y h)
    · rw [List.mem_singleton.1 h]; exact hx
  u := by
    rw [List.map_append]
    exact List.nodup_append.2 ⟨B.u, by simp, fun s hs r hr => by
      obtain ⟨y, hy, rfl⟩ := List.mem_map.1 hs
      rw [List.mem_singleton.1 hr]
      exact fr y hy⟩
/-- The first value of an epoch is written. -/
theorem first_write (B : BOk β E) (o : P1 β p q) (hm : β.ns.length < 2 * q.pm.length) : (∀ y ∈ β.wrs, y.tg ≠ (q.epoch, 1)) ∧ (∀ T, LastOk β q.epoch T → ∃ z ∈ β.wrs, z.te < q.epoch ∧ tle T z.tg ∧ z.b = q.val) ∧ Ext β { β with wrs := β.wrs ++ [newW β q 1] } ∧ BOk { β with wrs := β.wrs ++ [newW β q 1] } E ∧ QOk { β with wrs := β.wrs ++ [newW β q 1] } p (q.wrt 1) := by
  obtain ⟨h1, h2, h3, h4⟩ := o.p1
  have fr : ∀ y ∈ β.wrs, y.tg ≠ (q.epoch, 1) := fun y hy h => h4 y hy (congrArg Prod.fst h)
  have X : Ext β { β with wrs := β.wrs ++ [newW β q 1] } := add_ext newW_st
  have big : Big β q.pm := ⟨o.nd.1, o.nd.2, hm⟩
  refine ⟨fr, ?_, X, ?_, ?_⟩
  · intro T hT
    obtain ⟨z, z1, z2, z3⟩ := h3
    have z2 : z.tg = q.best := z2
    refine ⟨z, z1, by rw [← z2] at h2; exact h2, ?_, z3⟩
    rcases hT with rfl | ⟨y, y1, y2, y3, rfl⟩
    · exact tle_zero B z1
    · obtain ⟨c, hc, a, ha, hs⟩ := meets (B.x y y1).l o.nd.1 o.nd.2 hm y3
      obtain ⟨a', ha', sn⟩ := h1 c hc
      obtain ⟨k1, k2⟩ := List.getElem?_eq_some_iff.1 ha
      obtain ⟨k3, k4⟩ := List.getElem?_eq_some_iff.1 ha'
      have := (List.getElem_inj B.nd (i := a) (j := a') (h₀ := k1) (h₁ := k3)).1 (k2.trans k4.symm)
      subst this
      rw [z2]
      exact sn.2 y.tg ⟨y, y1, rfl, hs⟩ y2
  · refine bok_add B ⟨by show (List.replicate _ _).length = _; simp, o.ok.v, .inr ⟨o.e.2.2, Int.le_refl _, p, o.e.1, X.p o.e.2.1⟩, fun _ => ⟨q.pm, q.best, X.big big, X.sns h1, h2, X.w h3⟩⟩ X fr newW_st
  · refine ⟨inv_wrt o.ok (fun h => absurd (o.bd.1.trans o.bd.2.1.symm) h) (by decide), o.n, o.s, o.c, .inr (.inr (.inl rfl)), fun _ => ⟨o.e.1, X.p o.e.2.1, o.e.2.2⟩, ⟨o.nd.1, o.nd.2, List.nodup_nil, fun c h => absurd h List.not_mem_nil⟩, fun h => absurd h (by show ¬ (2 : Int) = 1; decide), fun _ => ⟨?_, rfl, Int.le_refl _, ?_⟩, fun _ c h => absurd h List.not_mem_nil, fun h => absurd h (by show ¬ (2 : Int) = 3; decide),   .inl ⟨o.bd.2.2.1, o.bd.2.2.2⟩, fun h => absurd h (by show ¬ (2 : Int) = 1; decide)⟩
    · exact ⟨newW β q 1, List.mem_append.2 (.inr (List.mem_singleton.2 rfl)), rfl, rfl⟩
    · intro x hx he
      rcases List.mem_append.1 hx with h | h
      · exact absurd he (h4 x h)
      · rw [List.mem_singleton.1 h]; exact Int.le_refl _
/-- The next value of an epoch is written. -/
theorem next_write (B : BOk β E) (o : QOk β p q) (h3 : q.phase = 3) (hb : b.length ≤ (140737488355325 : Nat)) : (∀ y ∈ β.wrs, y.tg ≠ (q.epoch, q.tag.2 + 1)) ∧ Ext β { β with wrs := β.wrs ++ [newW β { q with val := b } (q.tag.2 + 1)] } ∧ BOk { β with wrs := β.wrs ++ [newW β { q with val := b } (q.tag.2 + 1)] } E ∧ QOk { β with wrs := β.wrs ++ [newW β { q with val := b } (q.tag.2 + 1)] } p (({ q with val := b } : QS).wrt (q.tag.2 + 1)) := by
  obtain ⟨g1, g2, g3, g4⟩ := o.p23 (.inr h3)
  obtain ⟨e1, e2, e3⟩ := o.e (by omega)
  have fr : ∀ y ∈ β.wrs, y.tg ≠ (q.epoch, q.tag.2 + 1) := fun y hy h => by
    have h1 : y.te = q.epoch := congrArg Prod.fst h
    have h2 : y.ts = q.tag.2 + 1 := congrArg Prod.snd h
    have := g4 y hy h1
    omega
  have X : Ext β { β with wrs := β.wrs ++ [newW β { q with val := b } (q.tag.2 + 1)] } := add_ext newW_st
  refine ⟨fr, X, ?_, ?_⟩
  · refine bok_add B ⟨by show (List.replicate _ _).length = _; simp, hb, .inr ⟨e3, by show 1 ≤ q.tag.2 + 1; omega, p, e1, X.p e2⟩, fun h => ?_⟩ X fr newW_st
    have h : q.tag.2 + 1 = 1 := h
    omega
  · refine ⟨inv_wrt (q := { q with val := b }) ⟨o.iv.ok.c, hb, o.iv.ok.w, o.iv.ok.n, o.iv.ok.s, o.iv.ok.t, o.iv.ok.b⟩ o.iv.bd (by omega), o.n, o.s, o.c, .inr (.inr (.inl rfl)), fun _ => ⟨e1, X.p e2, e3⟩, ⟨o.nd.1, o.nd.2.1, List.nodup_nil, fun c h => absurd h List.not_mem_nil⟩, fun h => absurd h (by show ¬ (2 : Int) = 1; decide), fun _ => ⟨?_, rfl, by show 1 ≤ q.tag.2 + 1; omega, ?_⟩, fun _ c h => absurd h List.not_mem_nil, fun h => absurd h (by show ¬ (2 : Int) = 3; decide), ?_, fun h => absurd h (by show ¬ (2 : Int) = 1; decide)⟩
    · exact ⟨_, List.mem_append.2 (.inr (List.mem_singleton.2 rfl)), rfl, rfl⟩
    · intro x hx he
      rcases List.mem_append.1 hx with h | h
      · have := g4 x h he
        show x.ts ≤ q.tag.2 + 1
        omega
      · rw [List.mem_singleton.1 h]; exact Int.le_refl _
    · rcases o.ch with h1 | ⟨h1, h2, h3, l, h4, h5⟩
      · exact .inl h1
      · exact .inr ⟨h1, h2, X.w h3, l, X.big h4, X.sts h5⟩
/-- A promise that counts. -/
theorem p1_prom (B : BOk β E) (o : QOk β p q) (hp : q.phase = 1) (mo : MOk β E m) (k2 : m.kind = 2) (he : m.epoch = q.epoch) : P1 β p (q.prom m) := by
  obtain ⟨e1, e2, e3, e4, e5, e6⟩ := prom_same (q := q) (m := m)
  obtain ⟨f1, f2, f3, f4, f5, f6, f7, f8, f9⟩ := prom_more (q := q) (m := m)
  obtain ⟨h1, h2, h3, h4⟩ := o.p1 hp
  obtain ⟨a, ha, sn, hle, hw⟩ := mo.k2 k2
  rw [he] at sn hle
  have hlt : m.te < q.epoch := by
    obtain ⟨x, hx, hx2, _⟩ := hw
    have := h4 x hx
    have hx3 : x.te = m.te := congrArg Prod.fst hx2
    omega
  have hb : tle q.best (q.prom m).best ∧ tle (m.te, m.ts) (q.prom m).best ∧ (q.prom m).best.1 < q.epoch ∧ Wrt β (q.prom m).best (q.prom m).val := by
    unfold QS.prom
    by_cases hx : tagLt q.best.1 q.best.2 m.te m.ts
    · rw [if_pos hx]
      exact ⟨tle_of_lt (a := q.best) (b := (m.te, m.ts)) hx, tle_refl _, hlt, hw⟩
    · rw [if_neg hx]
      exact ⟨tle_refl _, tle_of_not_lt (a := (m.te, m.ts)) (b := q.best) hx, h2, h3⟩
  refine ⟨o.iv.ok.prom mo.b, by rw [e1]; exact o.n, e2.trans o.s, e3.trans o.c, by rw [e5]; exact o.e (by omega), ⟨by rw [e6]; exact putK_nodup o.nd.1, fun c hc => ?_⟩, ⟨fun c hc => ?_, by rw [e5]; exact hb.2.2.1, hb.2.2.2, by rw [e5]; exact h4⟩, ⟨f1.trans (o.z hp).1, f2.trans (o.z hp).2.1, f6.trans (o.z hp).2.2.1, f7.trans (o.z hp).2.2.2⟩⟩
  · rw [e6] at hc
    rcases putK_sub hc with h | rfl
    · exact o.nd.2.1 c h
    · exact mo.f
  · rw [e6] at hc
    rw [e5]
    rcases putK_sub hc with h | rfl
    · obtain ⟨a', g1, g2⟩ := h1 c h
      exact ⟨a', g1, g2.1, fun t0 st lt => tle_trans (g2.2 t0 st lt) hb.1⟩
    · exact ⟨a, ha, sn.1, fun t0 st lt => tle_trans (sn.2 t0 st lt) hb.2.1⟩
theorem p1_qok (o : P1 β p q) (iv : q.Inv) (hp : q.phase = 1) (hw : q.wr.Nodup ∧ ∀ c ∈ q.wr, c ∈ β.ns) : QOk β p q :=
  ⟨iv, o.n, o.s, o.c, .inr (.inl hp), fun _ => o.e, ⟨o.nd.1, o.nd.2, hw.1, hw.2⟩, fun _ => o.p1, fun h => by omega, fun h => by omega, fun h => by omega, .inl ⟨o.bd.2.2.1, o.bd.2.2.2⟩, fun _ => o.bd⟩
/-- A copy's answer that it stored. -/
theorem qok_stored (o : QOk β p q) (mo : MOk β E m) (k5 : m.kind = 5) : QOk β p (q.stored m) := by
  have iv := inv_stored (m := m) o.iv
  unfold QS.stored at iv ⊢
  by_cases h : q.phase = 2 ∧ m.te = q.tag.1 ∧ m.ts = q.tag.2
  case neg => rw [if_neg h]; exact o
  rw [if_pos h] at iv ⊢
  obtain ⟨h1, h2, h3⟩ := h
  obtain ⟨g1, g2, g3, g4⟩ := o.p23 (.inl h1)
  obtain ⟨a, ha, hs⟩ := mo.k5 k5
  have et : (m.te, m.ts) = q.tag := by rw [h2, h3]
  rw [et] at hs
  have sts : Sts β (putK q.wr m.frm) q.tag := fun c hc => by
    rcases putK_sub hc with h | rfl
    · exact o.p2 h1 c h
    · exact ⟨a, ha, hs⟩
  have nd : (putK q.wr m.frm).Nodup ∧ ∀ c ∈ putK q.wr m.frm, c ∈ β.ns := ⟨putK_nodup o.nd.2.2.1, fun c hc => by
    rcases putK_sub hc with h | rfl
    · exact o.nd.2.2.2 c h
    · exact mo.f⟩
  by_cases hm : q.most ((putK q.wr m.frm).length : Nat) = true
  · rw [if_pos hm] at iv ⊢
    have hmm := hm
    rw [most_iff o.c] at hmm
    exact ⟨iv, o.n, o.s, o.c, .inr (.inr (.inr rfl)), fun _ => o.e (by omega), ⟨o.nd.1, o.nd.2.1, nd.1, nd.2⟩, fun h => absurd h (by show ¬ (3 : Int) = 1; decide), fun _ => ⟨g1, g2, g3, g4⟩, fun h => absurd h (by show ¬ (3 : Int) = 2; decide), fun _ => rfl, .inr ⟨g3, g2, g1, _, ⟨nd.1, nd.2, of_decide_eq_true hmm⟩, sts⟩, fun h => absurd h (by show ¬ (3 : Int) = 1; decide)⟩
  · rw [if_neg hm] at iv ⊢
    exact ⟨iv, o.n, o.s, o.c, o.ph, o.e, ⟨o.nd.1, o.nd.2.1, nd.1, nd.2⟩, fun h => o.p1 h, o.p23, fun _ => sts, o.p3, o.ch, o.z⟩
theorem qok_heed (o : QOk β p q) : QOk β p (q.heed m) := ⟨inv_heed o.iv, o.n, o.s, o.c, o.ph, o.e, o.nd, o.p1, o.p23, o.p2, o.p3, o.ch, o.z⟩
theorem qok_refuse (B : BOk β E) (o : QOk β p q) (hm : m.frm ∈ β.ns) : QOk β p (q.refuse m) := by
  have iv := inv_refuse (m := m) o.iv (by rw [o.c]; exact hm)
  unfold QS.refuse at iv ⊢
  split
  · exact qok_heed o
  rename_i h1
  rw [if_neg h1] at iv
  split
  · rename_i h2
    rw [if_pos h2] at iv
    exact ⟨iv, o.n, o.s, o.c, o.ph, o.e, o.nd, o.p1, o.p23, o.p2, o.p3, o.ch, o.z⟩
  · exact qok_stop B (qok_heed o)
theorem holds_ph (h : q.holds = true) : q.phase ≠ 1 := by
  intro e
  unfold QS.holds at h
  rw [e] at h
  simp at h
theorem qok_beat (o : QOk β p q) : QOk β p (q.beat m) := by
  have iv := inv_beat (m := m) o.iv
  unfold QS.beat at iv ⊢
  split
  · rename_i h1
    have hh := h1.1
    rw [if_pos h1] at iv
    split
    · rename_i h2
      rw [if_pos h2] at iv
      exact ⟨iv, o.n, o.s, o.c, o.ph, o.e, o.nd, o.p1, o.p23, o.p2, o.p3, o.ch, fun hp => absurd hp (holds_ph hh)⟩
    · rename_i h2
      rw [if_neg h2] at iv
      exact ⟨iv, o.n, o.s, o.c, o.ph, o.e, o.nd, o.p1, o.p23, o.p2, o.p3, o.ch, fun hp => absurd hp (holds_ph hh)⟩
  · exact o
theorem qok_tick (o : QOk β p q) (span : Int) : QOk β p (q.tick span).1 := by
  have iv := inv_tick o.iv span
  unfold QS.tick at iv ⊢
  split
  · exact o
  rename_i h1
  have hh : q.holds = true := by simpa using h1
  rw [if_neg h1] at iv
  split
  · rename_i h2
    rw [if_pos h2] at iv
    split
    · exact o
    · rename_i h3
      rw [if_neg h3] at iv
      exact ⟨iv, o.n, o.s, o.c, o.ph, o.e, o.nd, o.p1, o.p23, o.p2, o.p3, o.ch, fun hp => absurd hp (holds_ph hh)⟩
  · exact o
end
end Go.Proofs.Ytigcpkejjjgkeaa.V
/- A shard's nodes and copies: the world and its steps (plain). -/
namespace Go.Proofs.Ytigcpkejjjgkeaa.V
open Go Go.RowKit
set_option linter.unusedVariables false
set_option linter.unusedSimpArgs false

structure WD where
  β : BS
  qs : List QS
  way : List Mg
  turn : Int
structure WOk (w : WD) (k : Nat) : Prop where
  B : BOk w.β (20 * (k : Int))
  ql : w.qs.length = w.β.ns.length
  q : ∀ (p : Nat) q, w.qs[p]? = some q → QOk w.β p q
  m : ∀ m ∈ w.way, MOk w.β (20 * (k : Int)) m
  wl : w.way.length ≤ 2000 + k
  xl : w.β.wrs.length ≤ k + 1
  t : 0 ≤ w.turn ∧ w.turn ≤ k
def pushW (way ms : List Mg) : List Mg := way ++ ms.take (2000 - way.length)
def actB (β : BS) (q : QS) (new : Bool) : BS := if new then { β with wrs := β.wrs ++ [newW β q q.tag.2] } else β
def WD.act (w : WD) (p : Nat) (q : QS) (ms : List Mg) (new : Bool) : WD := ⟨actB w.β q new, w.qs.set p q, pushW w.way ms, w.turn⟩
def raiseB (β : BS) (a : Nat) (c : CP) (e : Int) : BS := { β with cs := β.cs.set a { c with prom := e } }
structure SendOk (β : BS) (q : QS) (ms : List Mg) (new : Bool) : Prop where
  h : ∀ m ∈ ms, m.frm = q.node ∧ m.shard = 2 ∧ m.to ∈ β.ns ∧ m.b.length ≤ (140737488355325 : Nat)
  l : ms.length ≤ 14
  w0 : new = false → ∀ m ∈ ms, m.kind = 4 → Wrt β (m.te, m.ts) m.b
  w1 : new = true → ms ≠ [] ∧ (∀ m ∈ ms, m.kind = 4 ∧ m.te = q.epoch ∧ m.ts = q.tag.2 ∧ m.b = q.val) ∧ (∀ y ∈ β.wrs, y.tg ≠ (q.epoch, q.tag.2)) ∧ (q.tag.2 = 1 → ∀ T, LastOk β q.epoch T → ∃ z ∈ β.wrs, z.te < q.epoch ∧ tle T z.tg ∧ z.b = q.val)
theorem hear_cop2 {q : QS} {m : Mg} : (q.hear m 3).1.node = q.node := by
  have hp : (q.promise m 3).1.node = q.node := (promise_twice q m 3).2.1
  unfold QS.hear
  split
  · rfl
  split
  · exact hp
  split
  · exact (stored_twice q m).2.1
  split
  · exact (refuse_twice q m).2.1
  split
  · exact (beat_twice q m).2.1
  · rfl
section
variable {w : WD} {k : Nat} {β γ : BS} {q : QS} {m : Mg} {p a : Nat} {e E : Int} {t : Tg} {l : List Int} {b : List UInt8}
theorem bok_E {F : Int} (B : BOk β E) (h : E ≤ F) : BOk β F := ⟨B.nd, B.n1, B.n7, B.cl, fun a c hc => ⟨(B.c a c hc).1, (B.c a c hc).2.1, Int.le_trans (B.c a c hc).2.2 h⟩, B.x, B.u⟩
theorem raise_ok {c : CP} {F : Int} (B : BOk β E) (hc : β.cs[a]? = some c) (hp : c.prom ≤ e) (he : e ≤ F) (hF : E ≤ F) : Ext β (raiseB β a c e) ∧ BOk (raiseB β a c e) F := by
  have X : Ext β (raiseB β a c e) := raise_ext hc hp
  refine ⟨X, B.nd, B.n1, B.n7, by show (β.cs.set a _).length = _; rw [List.length_set]; exact B.cl, fun a2 c2 h2 => ?_, fun x hx => X.xx (B.x x hx), B.u⟩
  have h2 : (β.cs.set a { c with prom := e })[a2]? = some c2 := h2
  by_cases ha : a = a2
  · subst ha
    rw [List.getElem?_set_self (List.getElem?_eq_some_iff.1 hc).1] at h2
    cases h2
    obtain ⟨o, h1, h3⟩ := B.c a c hc
    exact ⟨⟨o.t0, Int.le_trans o.t1 hp, o.s, o.w, o.m, o.b⟩, by show 0 ≤ e; omega, he⟩
  · rw [List.getElem?_set_ne ha] at h2
    obtain ⟨o, h1, h3⟩ := B.c a2 c2 h2
    exact ⟨⟨o.t0, o.t1, o.s, o.w, o.m, o.b⟩, h1, by omega⟩
theorem act_ok {ms : List Mg} {new : Bool} {q0 : QS} (o : WOk w k) (hp : w.qs[p]? = some q0) (X : Ext w.β (actB w.β q new)) (G : BOk (actB w.β q new) (20 * (k : Int) + 20)) (hq : QOk (actB w.β q new) p q) (hn : new = true → (p : Int) = q.epoch % (w.β.ns.length : Int)) (hms : ∀ m ∈ ms, MOk (actB w.β q new) (20 * (k : Int) + 20) m) (hl : ms.length ≤ 14) : WOk (w.act p q ms new) (k + 1) := by
  have hpl := (List.getElem?_eq_some_iff.1 hp).1
  have e20 : 20 * ((k + 1 : Nat) : Int) = 20 * (k : Int) + 20 := by omega
  refine ⟨by rw [e20]; exact G, ?_, ?_, ?_, ?_, ?_, ?_⟩
  · show (w.qs.set p q).length = (actB w.β q new).ns.length
    rw [List.length_set, X.n, o.ql]
  · intro p2 q2 h2
    have h2 : (w.qs.set p q)[p2]? = some q2 := h2
    by_cases hpp : p = p2
    · subst hpp
      rw [List.getElem?_set_self hpl] at h2
      cases h2
      exact hq
    · rw [List.getElem?_set_ne hpp] at h2
      have o2 := o.q p2 q2 h2
      refine Ext.qq X (fun x hx => ?_) o2
      have hx : x ∈ (actB w.β q new).wrs := hx
      unfold actB at hx
      split at hx
      · rename_i hnew
        rcases List.mem_append.1 hx with h | h
        · exact .inl ⟨x, h, rfl⟩
        · refine .inr fun hph he => ?_
          rw [List.mem_singleton.1 h] at he
          have he : q.epoch = q2.epoch := he
          have h3 := hn hnew
          have h4 := (o2.e hph).1
          rw [← he] at h4
          omega
      · exact .inl ⟨x, hx, rfl⟩
  · intro m hm
    rw [e20]
    rcases List.mem_append.1 hm with h | h
    · exact X.mm (o.m m h) (by omega)
    · exact hms m (List.mem_of_mem_take h)
  · show (w.way ++ ms.take (2000 - w.way.length)).length ≤ _
    have := o.wl
    rw [List.length_append, List.length_take]
    omega
  · have h1 := o.xl
    show (actB w.β q new).wrs.length ≤ _
    unfold actB
    split
    · show (w.β.wrs ++ [_]).length ≤ _
      rw [List.length_append, List.length_singleton]
      omega
    · omega
  · have := o.t
    show 0 ≤ w.turn ∧ w.turn ≤ ((k + 1 : Nat) : Int)
    omega
theorem in_send {x : Mg} {out : Int → Bool} (h : m ∈ q.send x out) : m.frm = q.node ∧ m.shard = q.shard ∧ m.to ∈ q.cop ∧ m.b = x.b ∧ m.kind = x.kind ∧ m.epoch = x.epoch ∧ m.te = x.te ∧ m.ts = x.ts ∧ m.round = x.round := by
  unfold QS.send at h
  obtain ⟨c, hc, rfl⟩ := List.mem_map.1 h
  exact ⟨rfl, rfl, (List.mem_filter.1 hc).1, rfl, rfl, rfl, rfl, rfl, rfl⟩
/-- What every quorum's messages have. -/
structure QB (β : BS) (p : Nat) (q : QS) : Prop where
  n : β.ns[p]? = some q.node
  s : q.shard = 2
  c : q.cop = β.ns
  v : q.val.length ≤ (140737488355325 : Nat)
theorem QOk.qb (o : QOk β p q) : QB β p q := ⟨o.n, o.s, o.c, o.iv.ok.v⟩
theorem mok_send {x : Mg} {out : Int → Bool} (o : QB β p q) (h : m ∈ q.send x out) (hb : x.b.length ≤ (140737488355325 : Nat)) (k1 : x.kind = 1 → Ow β x.epoch ∧ 0 ≤ x.epoch) (k2 : x.kind ≠ 2) (k4 : x.kind = 4 → Wrt β (x.te, x.ts) x.b) (k5 : x.kind ≠ 5) (k6 : x.kind = 6 → 0 ≤ x.epoch ∧ x.epoch ≤ E) : MOk β E m := by
  obtain ⟨h1, h2, h3, h4, h5, h6, h7, h8, h9⟩ := in_send h
  refine ⟨by rw [h1]; exact List.mem_of_getElem? o.n, by rw [← o.c]; exact h3, h2.trans o.s, by rw [h4]; exact hb, ?_, ?_, ?_, ?_, ?_⟩
  · rw [h5, h6]; exact k1
  · rw [h5]; exact fun h => absurd h k2
  · rw [h5, h7, h8, h4]; exact k4
  · rw [h5]; exact fun h => absurd h k5
  · rw [h5, h6]; exact k6
theorem sent (o : QB β p q) {x : Mg} {out : Int → Bool} (h : m ∈ q.send x out) (hb : x.b.length ≤ (140737488355325 : Nat)) : m.frm = q.node ∧ m.shard = 2 ∧ m.to ∈ β.ns ∧ m.b.length ≤ (140737488355325 : Nat) := by
  obtain ⟨h1, h2, h3, h4, _⟩ := in_send h
  exact ⟨h1, h2.trans o.s, by rw [← o.c]; exact h3, by rw [h4]; exact hb⟩
theorem writes_len {span : Int} (h : q.wr = []) : (q.writes span).length = q.cop.length := by
  show (List.map _ (List.filter _ q.cop)).length = _
  rw [List.length_map, h]
  simp
/-- A new write's messages. -/
theorem send_new {s : Int} {span : Int} (B : BOk β E) (o : QB β p q) (fr : ∀ y ∈ β.wrs, y.tg ≠ (q.epoch, s)) (tk : s = 1 → ∀ T, LastOk β q.epoch T → ∃ z ∈ β.wrs, z.te < q.epoch ∧ tle T z.tg ∧ z.b = q.val) : SendOk β (q.wrt s) ((q.wrt s).writes span) true where
  h m hm := sent (q := q.wrt s) ⟨o.n, o.s, o.c, o.v⟩ hm o.v
  l := by
    have : ((q.wrt s).writes span).length ≤ (q.wrt s).cop.length := send_len
    have h2 : (q.wrt s).cop = β.ns := o.c
    rw [h2] at this
    have := B.n7
    omega
  w0 h := absurd h (by decide)
  w1 _ := by
    refine ⟨fun h => ?_, fun m hm => ?_, fr, tk⟩
    · have h1 := writes_len (q := q.wrt s) (span := span) rfl
      rw [h] at h1
      have h2 : (q.wrt s).cop = β.ns := o.c
      rw [h2] at h1
      have := B.n1
      simp at h1
      omega
    · obtain ⟨h1, h2, h3, h4, h5, h6, h7, h8, h9⟩ := in_send hm
      exact ⟨h5, h7, h8, h4⟩
theorem wrt_mok {s : Int} {span : Int} {F : Int} (o : QB β p q) (hw : Wrt β (q.epoch, s) q.val) : ∀ m ∈ (q.wrt s).writes span, MOk β F m := fun m hm =>
  mok_send (q := q.wrt s) ⟨o.n, o.s, o.c, o.v⟩ hm o.v (fun h => absurd h (by show ¬ (4 : Int) = 1; decide)) (by show (4 : Int) ≠ 2; decide) (fun _ => hw) (by show (4 : Int) ≠ 5; decide) (fun h => absurd h (by show ¬ (4 : Int) = 6; decide))
theorem actB_new {q : QS} {s : Int} : actB β (q.wrt s) true = { β with wrs := β.wrs ++ [newW β q s] } := rfl
theorem wrt_new {q : QS} {s : Int} : Wrt { β with wrs := β.wrs ++ [newW β q s] } (q.epoch, s) q.val := ⟨_, List.mem_append.2 (.inr (List.mem_singleton.2 rfl)), rfl, rfl⟩
/-- A quorum hears. -/
theorem hear_ok (o : WOk w k) (hp : w.qs[p]? = some q) (mo : MOk w.β (20 * (k : Int)) m) : SendOk w.β (q.hear m 3).1 (q.hear m 3).2 (!(q.hear m 3).2.isEmpty) ∧ WOk (w.act p (q.hear m 3).1 (q.hear m 3).2 (!(q.hear m 3).2.isEmpty)) (k + 1) ∧ (q.hear m 3).1.node = q.node := by
  have B := o.B
  have oq := o.q p q hp
  have quiet : ∀ {q' : QS}, QOk w.β p q' → SendOk w.β q' [] false ∧ WOk (w.act p q' [] false) (k + 1) := by
    intro q' h
    refine ⟨⟨fun m hm => absurd hm List.not_mem_nil, by simp, fun _ m hm => absurd hm List.not_mem_nil, fun h => absurd h (by decide)⟩, ?_⟩
    exact act_ok o hp (Ext.refl _) (bok_E B (by omega)) h (fun h => absurd h (by decide)) (fun m hm => absurd hm List.not_mem_nil) (by simp)
  have hcop := hear_cop2 (q := q) (m := m)
  refine ⟨?_, ?_, hcop⟩
  all_goals
    unfold QS.hear
    by_cases hg : m.to ≠ q.node ∨ m.shard ≠ q.shard ∨ m.frm ∉ q.cop
    · rw [if_pos hg]
      first | exact (quiet oq).1 | exact (quiet oq).2
    rw [if_neg hg]
    by_cases k2 : m.kind = 2
    · rw [if_pos k2]
      unfold QS.promise
      by_cases hx : q.phase ≠ 1 ∨ m.epoch ≠ q.epoch ∨ m.frm ∈ q.pm
      · rw [if_pos hx]
        first | exact (quiet oq).1 | exact (quiet oq).2
      rw [if_neg hx]
      have h1 : q.phase = 1 := Decidable.byContradiction fun h => hx (.inl h)
      have h2 : m.epoch = q.epoch := Decidable.byContradiction fun h => hx (.inr (.inl h))
      have P := p1_prom B oq h1 mo k2 h2
      have e4 : (q.prom m).phase = 1 := prom_same.2.2.2.1.trans h1
      by_cases hm : (q.prom m).most ((q.prom m).pm.length : Nat) = true
      · rw [if_pos hm]
        have hmm := hm
        rw [most_iff P.c] at hmm
        obtain ⟨fr, tk, X, G, Q'⟩ := first_write (bok_E B (show 20 * (k : Int) ≤ 20 * (k : Int) + 20 by omega)) P (of_decide_eq_true hmm)
        have qb : QB w.β p (q.prom m) := ⟨P.n, P.s, P.c, P.ok.v⟩
        have so := send_new (span := 3) B qb fr (fun _ => tk)
        have ne : (!(((q.prom m).wrt 1).writes 3).isEmpty) = true := by
          have := (so.w1 rfl).1
          cases h : ((q.prom m).wrt 1).writes 3 with
          | nil => exact absurd h this
          | cons _ _ => rfl
        show _
        simp only [ne]
        first
          | exact so
          | exact act_ok o hp X G Q' (fun _ => P.e.1) (wrt_mok (p := p) ⟨P.n, P.s, P.c, P.ok.v⟩ wrt_new) so.l
      · rw [if_neg hm]
        have iv := inv_promise oq.iv mo.b 3
        unfold QS.promise at iv
        rw [if_neg hx, if_neg hm] at iv
        have Q' := p1_qok P iv e4 (by rw [(prom_more (q := q) (m := m)).2.2.2.1]; exact ⟨oq.nd.2.2.1, oq.nd.2.2.2⟩)
        first | exact (quiet Q').1 | exact (quiet Q').2
    rw [if_neg k2]
    by_cases k5 : m.kind = 5
    · rw [if_pos k5]
      have Q' := qok_stored oq mo k5
      first | exact (quiet Q').1 | exact (quiet Q').2
    rw [if_neg k5]
    by_cases k3 : m.kind = 3
    · rw [if_pos k3]
      have Q' := qok_refuse B oq mo.f
      first | exact (quiet Q').1 | exact (quiet Q').2
    rw [if_neg k3]
    by_cases k7 : m.kind = 7
    · rw [if_pos k7]
      have Q' := qok_beat (m := m) oq
      first | exact (quiet Q').1 | exact (quiet Q').2
    rw [if_neg k7]
    first | exact (quiet oq).1 | exact (quiet oq).2
/-- A node begins an epoch. -/
theorem start_ok {c : CP} (o : WOk w k) (hp : w.qs[p]? = some q) (hc : w.β.cs[p]? = some c) (h1 : c.prom < e) (h2 : e ≤ 20 * (k : Int) + 20) (h3 : (p : Int) = e % (w.β.ns.length : Int)) : SendOk (raiseB w.β p c e) (q.start e c.te c.ts c.b 3).1 (q.start e c.te c.ts c.b 3).2 (decide (w.β.ns.length = 1)) ∧ WOk (({ w with β := raiseB w.β p c e } : WD).act p (q.start e c.te c.ts c.b 3).1 (q.start e c.te c.ts c.b 3).2 (decide (w.β.ns.length = 1))) (k + 1) := by
  have B := o.B
  have oq := o.q p q hp
  obtain ⟨oc, c0, cE⟩ := B.c p c hc
  obtain ⟨X, G⟩ := raise_ok (F := 20 * (k : Int) + 20) B hc (Int.le_of_lt h1) h2 (by omega)
  have ok0 := oq.iv.ok.start0 (e := e) (te := c.te) (ts := c.ts) oc.b
  have pr : Pr (raiseB w.β p c e) p e := ⟨{ c with prom := e }, by show (w.β.cs.set p _)[p]? = _; rw [List.getElem?_set_self (List.getElem?_eq_some_iff.1 hc).1], Int.le_refl _⟩
  have hnew : ∀ x ∈ w.β.wrs, x.te ≠ e := by
    intro x hx he
    rcases (B.x x hx).o with ⟨g1, _⟩ | ⟨g1, _, p', g3, c', g4, g5⟩
    · omega
    · have : p' = p := by rw [he] at g3; omega
      subst this
      rw [hc] at g4
      cases g4
      omega
  have P : P1 (raiseB w.β p c e) p (q.start0 e c.te c.ts c.b) := ⟨ok0, oq.n, oq.s, oq.c, ⟨h3, pr, by show 1 ≤ e; omega⟩, ⟨by show [q.node].Nodup; simp, fun x hx => by rw [List.mem_singleton.1 (show x ∈ [q.node] from hx)]; exact List.mem_of_getElem? oq.n⟩, ⟨fun x hx => ⟨p, by rw [List.mem_singleton.1 (show x ∈ [q.node] from hx)]; exact oq.n, pr, fun t0 st _ => oc.m t0 st⟩, by show c.te < e; have := oc.t1; omega, oc.w, hnew⟩, ⟨rfl, rfl, rfl, rfl⟩⟩
  have hmo : (q.start0 e c.te c.ts c.b).most 1 = decide (w.β.ns.length = 1) := by
    have h5 : (q.start0 e c.te c.ts c.b).cop = (raiseB w.β p c e).ns := oq.c
    have := most_iff (n := 1) h5
    rw [show ((1 : Nat) : Int) = 1 from rfl] at this
    rw [this]
    have := B.n1
    have h6 : (raiseB w.β p c e).ns = w.β.ns := rfl
    rw [h6]
    exact decide_eq_decide.2 (by omega)
  have e2 : (({ w with β := raiseB w.β p c e } : WD).qs[p]? = some q) := hp
  have mm : ∀ m ∈ w.way, MOk (raiseB w.β p c e) (20 * (k : Int)) m := fun m hm => X.mm (o.m m hm) (Int.le_refl _)
  have go : ∀ {q' : QS} {ms : List Mg} {new : Bool}, Ext (raiseB w.β p c e) (actB (raiseB w.β p c e) q' new) → BOk (actB (raiseB w.β p c e) q' new) (20 * (k : Int) + 20) → QOk (actB (raiseB w.β p c e) q' new) p q' → (p : Int) = q'.epoch % (w.β.ns.length : Int) → (∀ m ∈ ms, MOk (actB (raiseB w.β p c e) q' new) (20 * (k : Int) + 20) m) → ms.length ≤ 14 → WOk (({ w with β := raiseB w.β p c e } : WD).act p q' ms new) (k + 1) := by
    intro q' ms new X2 G2 Q2 he hms hl
    have hpl := (List.getElem?_eq_some_iff.1 hp).1
    have e20 : 20 * ((k + 1 : Nat) : Int) = 20 * (k : Int) + 20 := by omega
    refine ⟨by rw [e20]; exact G2, ?_, ?_, ?_, ?_, ?_, ?_⟩
    · show (w.qs.set p q').length = (actB (raiseB w.β p c e) q' new).ns.length
      rw [List.length_set, X2.n, o.ql]
      rfl
    · intro p2 q2 h2
      have h2 : (w.qs.set p q')[p2]? = some q2 := h2
      by_cases hpp : p = p2
      · subst hpp
        rw [List.getElem?_set_self hpl] at h2
        cases h2
        exact Q2
      · rw [List.getElem?_set_ne hpp] at h2
        have o2 := Ext.qq X (fun x hx => .inl ⟨x, hx, rfl⟩) (o.q p2 q2 h2)
        refine Ext.qq X2 (fun x hx => ?_) o2
        have hx : x ∈ (actB (raiseB w.β p c e) q' new).wrs := hx
        unfold actB at hx
        split at hx
        · rcases List.mem_append.1 hx with h | h
          · exact .inl ⟨x, h, rfl⟩
          · refine .inr fun hph hee => ?_
            rw [List.mem_singleton.1 h] at hee
            have hee : q'.epoch = q2.epoch := hee
            have h4 := (o2.e hph).1
            rw [← hee] at h4
            have h4 : (p2 : Int) = q'.epoch % (w.β.ns.length : Int) := h4
            omega
        · exact .inl ⟨x, hx, rfl⟩
    · intro m hm
      rw [e20]
      rcases List.mem_append.1 hm with h | h
      · exact X2.mm (mm m h) (by omega)
      · exact hms m (List.mem_of_mem_take h)
    · show (w.way ++ ms.take (2000 - w.way.length)).length ≤ _
      have := o.wl
      rw [List.length_append, List.length_take]
      omega
    · have h1 := o.xl
      show (actB (raiseB w.β p c e) q' new).wrs.length ≤ _
      unfold actB
      split
      · show (w.β.wrs ++ [_]).length ≤ _
        rw [List.length_append, List.length_singleton]
        omega
      · show w.β.wrs.length ≤ _
        omega
    · have := o.t
      show 0 ≤ w.turn ∧ w.turn ≤ ((k + 1 : Nat) : Int)
      omega
  unfold QS.start
  rw [hmo]
  by_cases hn : w.β.ns.length = 1
  · simp only [hn, decide_true, if_true]
    obtain ⟨fr, tk, X2, G2, Q2⟩ := first_write G P (by show w.β.ns.length < 2 * 1; omega)
    have so := send_new (span := 3) G ⟨P.n, P.s, P.c, ok0.v⟩ fr (fun _ => tk)
    exact ⟨so, go (q' := (q.start0 e c.te c.ts c.b).wrt 1) (new := true) X2 G2 Q2 h3 (wrt_mok ⟨P.n, P.s, P.c, ok0.v⟩ wrt_new) so.l⟩
  · simp only [hn, decide_false, Bool.false_eq_true, if_false]
    have iv := inv_start (q := q) (e := e) (te := c.te) (ts := c.ts) (span := 3) oq.iv.ok oc.b
    unfold QS.start at iv
    rw [hmo, decide_eq_false hn] at iv
    simp only [Bool.false_eq_true, if_false] at iv
    have Q2 := p1_qok P iv rfl ⟨List.nodup_nil, fun c h => absurd h List.not_mem_nil⟩
    have hl : (q.start0 e c.te c.ts c.b).prepares.length ≤ 14 := by
      have : (q.start0 e c.te c.ts c.b).prepares.length ≤ (q.start0 e c.te c.ts c.b).cop.length := send_len
      have h2 : (q.start0 e c.te c.ts c.b).cop = w.β.ns := oq.c
      rw [h2] at this
      have := B.n7
      omega
    have qb : QB (raiseB w.β p c e) p (q.start0 e c.te c.ts c.b) := ⟨P.n, P.s, P.c, ok0.v⟩
    refine ⟨⟨fun m hm => sent qb hm (by show (0 : Nat) ≤ _; decide), hl, fun _ m hm k4 => ?_, fun h => absurd h (by decide)⟩, go (new := false) (Ext.refl _) G Q2 h3 (fun m hm => mok_send qb hm (by show (0 : Nat) ≤ _; decide) (fun _ => ⟨⟨p, h3, pr⟩, by show 0 ≤ e; omega⟩) (by show (1 : Int) ≠ 2; decide) (fun h => absurd h (by show ¬ (1 : Int) = 4; decide)) (by show (1 : Int) ≠ 5; decide) (fun h => absurd h (by show ¬ (1 : Int) = 6; decide))) hl⟩
    have := (in_send hm).2.2.2.2.1
    rw [k4] at this
    exact absurd this (by show ¬ (4 : Int) = 1; decide)
end
end Go.Proofs.Ytigcpkejjjgkeaa.V
/- A shard's nodes and copies: the other steps (plain). -/
namespace Go.Proofs.Ytigcpkejjjgkeaa.V
open Go Go.RowKit
set_option linter.unusedVariables false
set_option linter.unusedSimpArgs false

section
variable {w : WD} {k : Nat} {β γ : BS} {q : QS} {m : Mg} {p a : Nat} {e E : Int} {t : Tg} {l : List Int} {b : List UInt8}
theorem turn_ok {tn : Int} (o : WOk w k) (h : 0 ≤ tn ∧ tn ≤ k) : WOk { w with turn := tn } k := ⟨o.B, o.ql, o.q, o.m, o.wl, o.xl, h⟩
theorem way_ok {ms : List Mg} (o : WOk w k) (h : ∀ m ∈ ms, m ∈ w.way) (hl : ms.length ≤ 2000 + k) : WOk { w with way := ms } k := ⟨o.B, o.ql, o.q, fun m hm => o.m m (h m hm), hl, o.xl, o.t⟩
theorem more_ok (o : WOk w k) : WOk w (k + 1) := by
  have e20 : 20 * ((k + 1 : Nat) : Int) = 20 * (k : Int) + 20 := by omega
  exact ⟨by rw [e20]; exact bok_E o.B (by omega), o.ql, o.q, fun m hm => by rw [e20]; exact (Ext.refl _).mm (o.m m hm) (by omega), by have := o.wl; omega, by have := o.xl; omega, by have := o.t; omega⟩
/-- The copies or the writes change, no quorum does. -/
theorem base_ok {ms : List Mg} (o : WOk w k) (X : Ext w.β γ) (G : BOk γ (20 * (k : Int) + 20)) (hx : ∀ x ∈ γ.wrs, ∃ y ∈ w.β.wrs, y.tg = x.tg) (hxl : γ.wrs.length ≤ k + 2) (hms : ∀ m ∈ ms, MOk γ (20 * (k : Int) + 20) m) (hl : ms.length ≤ 1) : WOk ⟨γ, w.qs, w.way ++ ms, w.turn⟩ (k + 1) := by
  have e20 : 20 * ((k + 1 : Nat) : Int) = 20 * (k : Int) + 20 := by omega
  refine ⟨by rw [e20]; exact G, ?_, fun p q h => Ext.qq X (fun x h => .inl (hx x h)) (o.q p q h), fun m hm => ?_, ?_, hxl, ?_⟩
  · show w.qs.length = γ.ns.length
    rw [X.n]
    exact o.ql
  · rw [e20]
    rcases List.mem_append.1 hm with h | h
    · exact X.mm (o.m m h) (by omega)
    · exact hms m h
  · show (w.way ++ ms).length ≤ _
    have := o.wl
    rw [List.length_append]
    omega
  · have := o.t
    show 0 ≤ w.turn ∧ w.turn ≤ ((k + 1 : Nat) : Int)
    omega
theorem propose_ok (o : WOk w k) (hp : w.qs[p]? = some q) (hb : b.length ≤ (140737488355325 : Nat)) : SendOk w.β (q.propose b 3).1 (q.propose b 3).2.1 (q.propose b 3).2.2 ∧ WOk (w.act p (q.propose b 3).1 (q.propose b 3).2.1 (q.propose b 3).2.2) (k + 1) ∧ (q.propose b 3).1.node = q.node := by
  have oq := o.q p q hp
  have B := o.B
  unfold QS.propose
  by_cases h : q.phase ≠ 3 ∨ (1099511627776 : Int) ≤ q.tag.2
  · rw [if_pos h]
    refine ⟨⟨fun m hm => absurd hm List.not_mem_nil, by simp, fun _ m hm => absurd hm List.not_mem_nil, fun h => absurd h (by show ¬ false = true; decide)⟩, ?_, rfl⟩
    exact act_ok o hp (Ext.refl _) (bok_E B (by omega)) oq (fun h => absurd h (by show ¬ false = true; decide)) (fun m hm => absurd hm List.not_mem_nil) (by simp)
  · rw [if_neg h]
    have h3 : q.phase = 3 := Decidable.byContradiction fun g => h (.inl g)
    obtain ⟨fr, X, G, Q'⟩ := next_write (bok_E B (show 20 * (k : Int) ≤ 20 * (k : Int) + 20 by omega)) oq h3 hb
    have g3 := (oq.p23 (.inr h3)).2.2.1
    have qb : QB w.β p ({ q with val := b } : QS) := ⟨oq.n, oq.s, oq.c, hb⟩
    have so := send_new (span := 3) B qb fr (fun h => by omega)
    exact ⟨so, act_ok o hp X G Q' (fun _ => (oq.e (by omega)).1) (wrt_mok (p := p) ⟨oq.n, oq.s, oq.c, hb⟩ wrt_new) so.l, rfl⟩
theorem tick_ok (o : WOk w k) (hp : w.qs[p]? = some q) : SendOk w.β (q.tick 3).1 (q.tick 3).2 false ∧ WOk (w.act p (q.tick 3).1 (q.tick 3).2 false) (k + 1) ∧ (q.tick 3).1.node = q.node := by
  have oq := o.q p q hp
  have B := o.B
  have hE : q.phase ≠ 0 → 0 ≤ q.epoch ∧ q.epoch ≤ 20 * (k : Int) + 20 := fun h => by
    obtain ⟨_, ⟨c, hc, hce⟩, h1⟩ := oq.e h
    have := (B.c p c hc).2.2
    omega
  have hms : ∀ m ∈ (q.tick 3).2, (m.frm = q.node ∧ m.shard = 2 ∧ m.to ∈ w.β.ns ∧ m.b.length ≤ (140737488355325 : Nat)) ∧ (m.kind = 4 → Wrt w.β (m.te, m.ts) m.b) ∧ MOk w.β (20 * (k : Int) + 20) m := by
    have t0 : ∀ m ∈ q.tick0 3, (m.frm = q.node ∧ m.shard = 2 ∧ m.to ∈ w.β.ns ∧ m.b.length ≤ (140737488355325 : Nat)) ∧ (m.kind = 4 → Wrt w.β (m.te, m.ts) m.b) ∧ MOk w.β (20 * (k : Int) + 20) m := by
      intro m hm
      unfold QS.tick0 at hm
      split at hm
      · rename_i h1
        have h0 : (0 : Nat) ≤ (140737488355325 : Nat) := by decide
        have := oq.e (by omega)
        have s := sent oq.qb hm h0
        refine ⟨s, fun h4 => ?_, mok_send oq.qb hm h0 (fun _ => ⟨⟨p, this.1, this.2.1⟩, by show 0 ≤ q.epoch; omega⟩) (by show (1 : Int) ≠ 2; decide) (fun h => absurd h (by show ¬ (1 : Int) = 4; decide)) (by show (1 : Int) ≠ 5; decide) (fun h => absurd h (by show ¬ (1 : Int) = 6; decide))⟩
        have := (in_send hm).2.2.2.2.1
        rw [h4] at this
        exact absurd this (by show ¬ (4 : Int) = 1; decide)
      split at hm
      · rename_i h1 h2
        have s := sent oq.qb hm oq.iv.ok.v
        have hw := (oq.p23 (.inl h2)).1
        obtain ⟨g1, g2, g3, g4, g5, g6, g7, g8, g9⟩ := in_send hm
        refine ⟨s, fun _ => by rw [g7, g8, g4]; exact hw, mok_send oq.qb hm oq.iv.ok.v (fun h => absurd h (by show ¬ (4 : Int) = 1; decide)) (by show (4 : Int) ≠ 2; decide) (fun _ => hw) (by show (4 : Int) ≠ 5; decide) (fun h => absurd h (by show ¬ (4 : Int) = 6; decide))⟩
      · cases hm
    have bts : ∀ {q2 : QS} {m : Mg}, q2.node = q.node → q2.shard = q.shard → q2.cop = q.cop → q2.epoch = q.epoch → q.phase ≠ 0 → m ∈ q2.beats 3 → (m.frm = q.node ∧ m.shard = 2 ∧ m.to ∈ w.β.ns ∧ m.b.length ≤ (140737488355325 : Nat)) ∧ (m.kind = 4 → Wrt w.β (m.te, m.ts) m.b) ∧ MOk w.β (20 * (k : Int) + 20) m := by
      intro q2 m e1 e2 e3 e4 h0 hm
      have h00 : (0 : Nat) ≤ (140737488355325 : Nat) := by decide
      have hh := hE h0
      obtain ⟨g1, g2, g3, g4, g5, g6, g7, g8, g9⟩ := in_send hm
      refine ⟨⟨g1.trans e1, g2.trans (e2.trans oq.s), by rw [← oq.c, ← e3]; exact g3, by rw [g4]; exact h00⟩, fun h4 => ?_, ?_⟩
      · rw [h4] at g5
        exact absurd g5 (by show ¬ (4 : Int) = 6; decide)
      · refine ⟨by rw [g1, e1]; exact List.mem_of_getElem? oq.n, by rw [← oq.c, ← e3]; exact g3, g2.trans (e2.trans oq.s), by rw [g4]; exact h00, ?_, ?_, ?_, ?_, ?_⟩
        · rw [g5]; exact fun h => absurd h (by show ¬ (6 : Int) = 1; decide)
        · rw [g5]; exact fun h => absurd h (by show ¬ (6 : Int) = 2; decide)
        · rw [g5]; exact fun h => absurd h (by show ¬ (6 : Int) = 4; decide)
        · rw [g5]; exact fun h => absurd h (by show ¬ (6 : Int) = 5; decide)
        · rw [g6]; exact fun _ => by show 0 ≤ q2.epoch ∧ q2.epoch ≤ _; rw [e4]; exact hh
    intro m hm
    unfold QS.tick at hm
    split at hm
    · exact t0 m hm
    rename_i hh
    have hph : q.phase ≠ 0 := by
      intro h0
      have : q.holds = true := by simpa using hh
      unfold QS.holds at this
      rw [h0] at this
      simp at this
    split at hm
    · split at hm
      · exact t0 m hm
      · rcases List.mem_append.1 hm with h | h
        · exact t0 m h
        · exact bts (q2 := q.rise) rfl rfl rfl rfl hph h
    · rcases List.mem_append.1 hm with h | h
      · exact t0 m h
      · exact bts (q2 := q) rfl rfl rfl rfl hph h
  have hnd : (q.tick 3).1.node = q.node := by
    unfold QS.tick
    split
    · rfl
    split
    · split
      · rfl
      · rfl
    · rfl
  have hl : (q.tick 3).2.length ≤ 14 := by
    have n7 := B.n7
    have h1 : (q.tick0 3).length ≤ q.cop.length := tick0_len
    have h2 : (q.beats 3).length ≤ q.cop.length := send_len
    have h3 : (q.rise.beats 3).length ≤ q.cop.length := send_len (q := q.rise)
    rw [oq.c] at h1 h2 h3
    unfold QS.tick
    split
    · show (q.tick0 3).length ≤ _; omega
    split
    · split
      · show (q.tick0 3).length ≤ _; omega
      · rw [List.length_append]; omega
    · rw [List.length_append]; omega
  refine ⟨⟨fun m hm => by rw [hnd]; exact (hms m hm).1, hl, fun _ m hm k4 => (hms m hm).2.1 k4, fun h => absurd h (by decide)⟩, ?_, hnd⟩
  exact act_ok o hp (Ext.refl _) (bok_E B (by omega)) (qok_tick oq 3) (fun h => absurd h (by decide)) (fun m hm => (hms m hm).2.2) hl
theorem quiet_ok {q' : QS} (o : WOk w k) (hp : w.qs[p]? = some q) (h : QOk w.β p q') : WOk { w with qs := w.qs.set p q' } (k + 1) := by
  have := act_ok (new := false) (ms := []) o hp (Ext.refl _) (bok_E o.B (by omega)) h (fun h => absurd h (by decide)) (fun m hm => absurd hm List.not_mem_nil) (by simp)
  have e : w.act p q' [] false = { w with qs := w.qs.set p q' } := by
    unfold WD.act actB pushW
    simp
  rw [e] at this
  exact this
theorem new_qok (B : BOk β E) {nd : Int} (h : β.ns[p]? = some nd) : QOk β p (QS.fresh nd 2 β.ns) := qok_idle B (inv_fresh (by have := B.n7; omega)) h rfl rfl rfl rfl rfl rfl rfl
def epM (m : Mg) : Int := if m.kind = 4 then m.te else m.epoch
def refM (m : Mg) (c : CP) : Mg := { mgz with kind := 3, frm := m.to, to := m.frm, shard := 2, epoch := epM m, seen := c.prom }
def ansM (m : Mg) (c : CP) : Mg := if m.kind = 1 then { mgz with kind := 2, frm := m.to, to := m.frm, shard := 2, epoch := m.epoch, te := c.te, ts := c.ts, b := c.b } else if m.kind = 4 then { mgz with kind := 5, frm := m.to, to := m.frm, shard := 2, te := m.te, ts := m.ts } else { mgz with kind := 7, frm := m.to, to := m.frm, shard := 2, epoch := m.epoch, round := m.round }
def stoB (β : BS) (a : Nat) (m : Mg) : BS := ⟨β.ns, β.cs.set a ⟨m.te, m.te, m.ts, m.b⟩, β.wrs.map (markW (m.te, m.ts) a)⟩
def WD.hearC (w : WD) (a : Nat) (c : CP) (m : Mg) : WD :=
  if epM m < c.prom then { w with way := w.way ++ [refM m c] }
  else if m.kind = 4 ∧ tagLt c.te c.ts m.te m.ts then ⟨stoB w.β a m, w.qs, w.way ++ [ansM m c], w.turn⟩
  else if m.kind = 4 ∧ ¬ (c.te = m.te ∧ c.ts = m.ts) then { w with β := raiseB w.β a c (epM m) }
  else ⟨raiseB w.β a c (epM m), w.qs, w.way ++ [ansM m c], w.turn⟩
theorem sto_ok {c : CP} {F : Int} (B : BOk β E) (hc : β.cs[a]? = some c) (hp : c.prom ≤ m.te) (h4 : Wrt β (m.te, m.ts) m.b) (hlt : tagLt c.te c.ts m.te m.ts) (hb : m.b.length ≤ (140737488355325 : Nat)) (he : m.te ≤ F) (hF : E ≤ F) : Ext β (stoB β a m) ∧ BOk (stoB β a m) F ∧ Sto (stoB β a m) (m.te, m.ts) a := by
  have hal := (List.getElem?_eq_some_iff.1 hc).1
  have X : Ext β (stoB β a m) := mark_ext (t := (m.te, m.ts)) (c2 := ⟨m.te, m.te, m.ts, m.b⟩) hc hp hp
  have S : Sto (stoB β a m) (m.te, m.ts) a := by
    obtain ⟨x, h1, h2, h3⟩ := h4
    refine ⟨markW (m.te, m.ts) a x, List.mem_map.2 ⟨x, h1, rfl⟩, mark_tg.1.trans h2, ?_⟩
    unfold markW
    rw [if_pos h2]
    show (x.st.set a true)[a]? = _
    rw [List.getElem?_set_self (by rw [(B.x x h1).l, ← B.cl]; exact hal)]
  obtain ⟨oc, c0, cE⟩ := B.c a c hc
  have t01 := oc.t0
  have t11 := oc.t1
  refine ⟨X, ⟨B.nd, B.n1, B.n7, by show (β.cs.set a _).length = _; rw [List.length_set]; exact B.cl, fun a2 c2 h2 => ?_, fun x hx => ?_, ?_⟩, S⟩
  · have back : ∀ {t : Tg} {a2 : Nat}, Sto (stoB β a m) t a2 → Sto β t a2 ∨ (t = (m.te, m.ts) ∧ a2 = a) := by
      intro t a2 h
      obtain ⟨y, hy, g2, g3⟩ := h
      obtain ⟨x, hx, rfl⟩ := List.mem_map.1 hy
      rw [mark_tg.1] at g2
      rcases mark_sto g3 with g | ⟨g, h⟩
      · exact .inl ⟨x, hx, g2, g⟩
      · exact .inr ⟨by rw [← g2, g], h⟩
    have h2 : (β.cs.set a ⟨m.te, m.te, m.ts, m.b⟩)[a2]? = some c2 := h2
    by_cases ha : a = a2
    · subst ha
      rw [List.getElem?_set_self hal] at h2
      cases h2
      refine ⟨⟨by show 0 ≤ m.te; omega, by show m.te ≤ m.te; omega, S, X.w h4, fun t ht => ?_, hb⟩, by show 0 ≤ m.te; omega, he⟩
      rcases back ht with h | ⟨h, _⟩
      · exact tle_trans (oc.m t h) (tle_of_lt (a := (c.te, c.ts)) (b := (m.te, m.ts)) hlt)
      · rw [h]; exact tle_refl _
    · rw [List.getElem?_set_ne ha] at h2
      obtain ⟨o, h1, h3⟩ := B.c a2 c2 h2
      refine ⟨⟨o.t0, o.t1, X.s o.s, X.w o.w, fun t ht => ?_, o.b⟩, h1, by omega⟩
      rcases back ht with h | ⟨_, h⟩
      · exact o.m t h
      · exact absurd h.symm ha
  · obtain ⟨y, hy, rfl⟩ := List.mem_map.1 hx
    have o := X.xx (B.x y hy)
    refine ⟨by rw [mark_tg.2.2.1]; exact o.l, by rw [mark_tg.2.1]; exact o.b, by rw [mark_tg.2.2.2.1, mark_tg.2.2.2.2]; exact o.o, ?_⟩
    rw [mark_tg.2.2.2.1, mark_tg.2.2.2.2, mark_tg.2.1]
    exact o.t
  · show ((β.wrs.map (markW (m.te, m.ts) a)).map WR.tg).Nodup
    rw [List.map_map]
    have : (WR.tg ∘ markW (m.te, m.ts) a) = WR.tg := by
      funext x
      exact mark_tg.1
    rw [this]
    exact B.u
theorem hearC_ok {c : CP} (o : WOk w k) (ha : w.β.ns[a]? = some m.to) (hc : w.β.cs[a]? = some c) (mo : MOk w.β (20 * (k : Int)) m) (hk : m.kind = 1 ∨ m.kind = 4 ∨ m.kind = 6) : WOk (w.hearC a c m) (k + 1) := by
  have B := o.B
  obtain ⟨oc, c0, cE⟩ := B.c a c hc
  have xl := o.xl
  have he : epM m ≤ 20 * (k : Int) := by
    unfold epM
    rcases hk with h | h | h
    · rw [if_neg (by omega)]
      obtain ⟨p, _, c2, hc2, h3⟩ := (mo.k1 h).1
      have := (B.c p c2 hc2).2.2
      omega
    · rw [if_pos h]
      obtain ⟨x, hx, h2, _⟩ := mo.k4 h
      have h2 : x.te = m.te := congrArg Prod.fst h2
      rcases (B.x x hx).o with ⟨g1, _⟩ | ⟨_, _, p, _, c2, hc2, h3⟩
      · omega
      · have := (B.c p c2 hc2).2.2
        omega
    · rw [if_neg (by omega)]
      exact (mo.k6 h).2
  have hto := mo.t
  have hfr := mo.f
  unfold WD.hearC
  by_cases hr : epM m < c.prom
  · rw [if_pos hr]
    refine base_ok o (Ext.refl _) (bok_E B (by omega)) (fun x hx => ⟨x, hx, rfl⟩) (by omega) (fun x hx => ?_) (by simp)
    rw [List.mem_singleton.1 hx]
    refine ⟨hto, hfr, rfl, by show (0 : Nat) ≤ _; decide, fun h => absurd h (by show ¬ (3 : Int) = 1; decide), fun h => absurd h (by show ¬ (3 : Int) = 2; decide), fun h => absurd h (by show ¬ (3 : Int) = 4; decide), fun h => absurd h (by show ¬ (3 : Int) = 5; decide), fun h => absurd h (by show ¬ (3 : Int) = 6; decide)⟩
  rw [if_neg hr]
  by_cases hs : m.kind = 4 ∧ tagLt c.te c.ts m.te m.ts
  · rw [if_pos hs]
    obtain ⟨h4, hlt⟩ := hs
    have ep : epM m = m.te := if_pos h4
    rw [ep] at hr he
    obtain ⟨X, G, S⟩ := sto_ok (F := 20 * (k : Int) + 20) B hc (by omega) (mo.k4 h4) hlt mo.b (by omega) (by omega)
    refine base_ok o X G (fun x hx => ?_) (by show (w.β.wrs.map _).length ≤ _; rw [List.length_map]; omega) (fun x hx => ?_) (by simp)
    · obtain ⟨y, hy, rfl⟩ := List.mem_map.1 hx
      exact ⟨y, hy, mark_tg.1.symm⟩
    · rw [List.mem_singleton.1 hx]
      unfold ansM
      rw [if_neg (by omega), if_pos h4]
      exact ⟨by rw [X.n]; exact hto, by rw [X.n]; exact hfr, rfl, by show (0 : Nat) ≤ _; decide, fun h => absurd h (by show ¬ (5 : Int) = 1; decide), fun h => absurd h (by show ¬ (5 : Int) = 2; decide), fun h => absurd h (by show ¬ (5 : Int) = 4; decide), fun _ => ⟨a, by rw [X.n]; exact ha, S⟩, fun h => absurd h (by show ¬ (5 : Int) = 6; decide)⟩
  rw [if_neg hs]
  obtain ⟨X, G⟩ := raise_ok (F := 20 * (k : Int) + 20) (e := epM m) B hc (by omega) (by omega) (by omega)
  by_cases hn : m.kind = 4 ∧ ¬ (c.te = m.te ∧ c.ts = m.ts)
  · rw [if_pos hn]
    have := base_ok (ms := []) o X G (fun x hx => ⟨x, hx, rfl⟩) (by show w.β.wrs.length ≤ _; omega) (fun x hx => absurd hx List.not_mem_nil) (by simp)
    rw [List.append_nil] at this
    exact this
  · rw [if_neg hn]
    refine base_ok o X G (fun x hx => ⟨x, hx, rfl⟩) (by show w.β.wrs.length ≤ _; omega) (fun x hx => ?_) (by simp)
    rw [List.mem_singleton.1 hx]
    have pr : Pr (raiseB w.β a c (epM m)) a (epM m) := ⟨{ c with prom := epM m }, by show (w.β.cs.set a _)[a]? = _; rw [List.getElem?_set_self (List.getElem?_eq_some_iff.1 hc).1], Int.le_refl _⟩
    unfold ansM
    rcases hk with h | h | h
    · rw [if_pos h]
      have ep : epM m = m.epoch := if_neg (by omega)
      rw [ep] at pr hr
      refine ⟨hto, hfr, rfl, oc.b, fun h => absurd h (by show ¬ (2 : Int) = 1; decide), fun _ => ⟨a, ha, ⟨by rw [ep]; exact pr, fun t0 st _ => oc.m t0 st⟩, by show c.te ≤ m.epoch; have := oc.t1; omega, X.w oc.w⟩, fun h => absurd h (by show ¬ (2 : Int) = 4; decide), fun h => absurd h (by show ¬ (2 : Int) = 5; decide), fun h => absurd h (by show ¬ (2 : Int) = 6; decide)⟩
    · rw [if_neg (by omega), if_pos h]
      have hq : c.te = m.te ∧ c.ts = m.ts := Decidable.byContradiction fun g => hn ⟨h, g⟩
      have hst : Sto (raiseB w.β a c (epM m)) (m.te, m.ts) a := by
        rw [← hq.1, ← hq.2]
        exact X.s oc.s
      exact ⟨hto, hfr, rfl, by show (0 : Nat) ≤ _; decide, fun h => absurd h (by show ¬ (5 : Int) = 1; decide), fun h => absurd h (by show ¬ (5 : Int) = 2; decide), fun h => absurd h (by show ¬ (5 : Int) = 4; decide), fun _ => ⟨a, ha, hst⟩, fun h => absurd h (by show ¬ (5 : Int) = 6; decide)⟩
    · rw [if_neg (by omega), if_neg (by omega)]
      exact ⟨hto, hfr, rfl, by show (0 : Nat) ≤ _; decide, fun h => absurd h (by show ¬ (7 : Int) = 1; decide), fun h => absurd h (by show ¬ (7 : Int) = 2; decide), fun h => absurd h (by show ¬ (7 : Int) = 4; decide), fun h => absurd h (by show ¬ (7 : Int) = 5; decide), fun h => absurd h (by show ¬ (7 : Int) = 6; decide)⟩
/-- What a quorum tells to be chosen. -/
theorem told_ok (B : BOk β E) (o : QOk β p q) : (q.chosen = (0, 0) ∧ q.what = []) ∨ (1 ≤ q.chosen.2 ∧ q.chosen.1 = q.epoch ∧ ∃ x ∈ β.wrs, x.tg = q.chosen ∧ x.b = q.what ∧ β.ns.length < 2 * x.st.count true) := by
  rcases o.ch with h | ⟨h1, h2, ⟨x, x1, x2, x3⟩, l, ⟨l1, l2, l3⟩, sts⟩
  · exact .inl h
  · refine .inr ⟨h1, h2, x, x1, x2, x3, ?_⟩
    have := many_true (B.x x x1).l l1 fun c hc => by
      obtain ⟨a, ha, y, y1, y2, y3⟩ := sts c hc
      have e := uniq B.u y1 x1 (y2.trans x2.symm)
      subst e
      exact ⟨a, ha, y3⟩
    omega
end
end Go.Proofs.Ytigcpkejjjgkeaa.V
/- A shard's nodes and copies: when nothing is lost, an epoch comes to hold (plain). -/
namespace Go.Proofs.Ytigcpkejjjgkeaa.V
open Go Go.RowKit
set_option linter.unusedVariables false
set_option linter.unusedSimpArgs false

def LMsg (nd e : Int) (T : Tg) (bg ph : Int) (m : Mg) : Prop :=
  (m.kind = 1 ∧ m.frm = nd ∧ m.epoch = e) ∨ (m.kind = 2 ∧ m.to = nd) ∨ (m.kind = 4 ∧ m.frm = nd ∧ m.te = T.1 ∧ m.ts = T.2 ∧ ph ≠ 1) ∨ (m.kind = 5 ∧ m.to = nd) ∨ (m.kind = 6 ∧ m.frm = nd ∧ m.epoch = e ∧ m.round = bg) ∨ (m.kind = 7 ∧ m.to = nd)
structure Lv (w : WD) (q : QS) (e : Int) (T : Tg) (bg : Int) (V : List UInt8 → Prop) : Prop where
  q0 : w.qs[0]? = some q
  ee : q.epoch = e
  ph : q.phase = 1 ∨ q.phase = 2 ∨ q.phase = 3
  tg : q.phase ≠ 1 → q.tag = T ∧ V q.val
  t0 : T.1 = e
  t1 : q.phase = 1 → T.2 = 1 ∧ ∀ b, V b
  eg : q.begun = bg
  hb : q.begun ≠ q.done → q.phase = 3
  dn : q.done ≤ q.begun
  cp : ∀ (a : Nat) c, w.β.cs[a]? = some c → c.prom ≤ e ∧ tle c.tg T
  wm : ∀ m ∈ w.way, LMsg q.node e T bg q.phase m
  a1 : q.phase = 1 → ∀ c ∈ w.β.ns, c ∈ q.pm ∨ (∃ m ∈ w.way, m.kind = 1 ∧ m.to = c) ∨ (∃ m ∈ w.way, m.kind = 2 ∧ m.frm = c ∧ m.epoch = e)
  a2 : q.phase = 2 → ∀ c ∈ w.β.ns, c ∈ q.wr ∨ (∃ m ∈ w.way, m.kind = 4 ∧ m.to = c) ∨ (∃ m ∈ w.way, m.kind = 5 ∧ m.frm = c ∧ m.te = T.1 ∧ m.ts = T.2)
  a3 : q.begun ≠ q.done → ∀ c ∈ w.β.ns, c ∈ q.bt ∨ (∃ m ∈ w.way, m.kind = 6 ∧ m.to = c) ∨ (∃ m ∈ w.way, m.kind = 7 ∧ m.frm = c ∧ m.epoch = e ∧ m.round = bg)
def wt (m : Mg) : Nat := if m.kind = 1 ∨ m.kind = 4 ∨ m.kind = 6 then 2 else 1
def mu (w : WD) (q : QS) : Nat := (w.way.map wt).sum + if q.phase = 1 then 2 * w.β.ns.length + 1 else 0
theorem wt_len : ∀ l : List Mg, l.length ≤ (l.map wt).sum
  | [] => Nat.le_refl _
  | m :: l => by
    have := wt_len l
    rw [List.map_cons, List.sum_cons, List.length_cons]
    have : 1 ≤ wt m := by unfold wt; split <;> omega
    omega
theorem wt_le : ∀ l : List Mg, (l.map wt).sum ≤ 2 * l.length
  | [] => Nat.le_refl _
  | m :: l => by
    have := wt_le l
    rw [List.map_cons, List.sum_cons, List.length_cons]
    have : wt m ≤ 2 := by unfold wt; split <;> omega
    omega
section
variable {w : WD} {k : Nat} {β γ : BS} {q : QS} {m : Mg} {rest : List Mg} {p a : Nat} {e E bg : Int} {T t : Tg} {l : List Int} {b : List UInt8} {V : List UInt8 → Prop}
theorem ans_wt {c : CP} : wt (ansM m c) = 1 := by
  unfold ansM wt
  split
  · rfl
  split
  · rfl
  · rfl
/-- A message comes to a copy. -/
theorem lv_copy {c : CP} (L : Lv w q e T bg V) (hw : w.way = m :: rest) (ha : w.β.ns[a]? = some m.to) (hc : w.β.cs[a]? = some c) (hk : m.kind = 1 ∨ m.kind = 4 ∨ m.kind = 6) : Lv (({ w with way := rest } : WD).hearC a c m) q e T bg V ∧ mu (({ w with way := rest } : WD).hearC a c m) q + 1 ≤ mu w q := by
  have lm := L.wm m (by rw [hw]; exact List.mem_cons_self)
  obtain ⟨cpe, cpt⟩ := L.cp a c hc
  have ep : epM m = e := by
    unfold epM
    rcases lm with h | h | h | h | h | h
    · rw [if_neg (by omega)]; exact h.2.2
    · omega
    · rw [if_pos h.1, h.2.2.1]; exact L.t0
    · omega
    · rw [if_neg (by omega)]; exact h.2.2.1
    · omega
  have frm : m.frm = q.node := by
    rcases lm with h | h | h | h | h | h
    · exact h.2.1
    · omega
    · exact h.2.1
    · omega
    · exact h.2.1
    · omega
  have key : ∃ γ : BS, ({ w with way := rest } : WD).hearC a c m = ⟨γ, w.qs, rest ++ [ansM m c], w.turn⟩ ∧ γ.ns = w.β.ns ∧ ∀ (a2 : Nat) c2, γ.cs[a2]? = some c2 → c2.prom ≤ e ∧ tle c2.tg T := by
    have hal := (List.getElem?_eq_some_iff.1 hc).1
    unfold WD.hearC
    rw [if_neg (by rw [ep]; omega)]
    by_cases hs : m.kind = 4 ∧ tagLt c.te c.ts m.te m.ts
    · rw [if_pos hs]
      refine ⟨_, rfl, rfl, fun a2 c2 h2 => ?_⟩
      have h2 : (w.β.cs.set a ⟨m.te, m.te, m.ts, m.b⟩)[a2]? = some c2 := h2
      by_cases haa : a = a2
      · subst haa
        rw [List.getElem?_set_self hal] at h2
        cases h2
        have ht : m.te = T.1 ∧ m.ts = T.2 := by
          rcases lm with h | h | h | h | h | h
          · omega
          · omega
          · exact ⟨h.2.2.1, h.2.2.2.1⟩
          · omega
          · omega
          · omega
        refine ⟨by show m.te ≤ e; rw [ht.1, L.t0]; exact Int.le_refl _, ?_⟩
        show tle (m.te, m.ts) T
        rw [ht.1, ht.2]
        exact tle_refl _
      · rw [List.getElem?_set_ne haa] at h2
        exact L.cp a2 c2 h2
    rw [if_neg hs]
    have hn : ¬ (m.kind = 4 ∧ ¬ (c.te = m.te ∧ c.ts = m.ts)) := by
      rintro ⟨h4, h5⟩
      rcases lm with h | h | h | h | h | h
      · omega
      · omega
      · have h6 : ¬ tagLt c.te c.ts m.te m.ts := fun g => hs ⟨h4, g⟩
        have h6 : ¬ (c.te < m.te ∨ (c.te = m.te ∧ c.ts < m.ts)) := h6
        have h7 : c.te < T.1 ∨ (c.te = T.1 ∧ c.ts ≤ T.2) := cpt
        rw [h.2.2.1, h.2.2.2.1] at h5 h6
        omega
      · omega
      · omega
      · omega
    rw [if_neg hn]
    refine ⟨_, rfl, rfl, fun a2 c2 h2 => ?_⟩
    have h2 : (w.β.cs.set a { c with prom := epM m })[a2]? = some c2 := h2
    by_cases haa : a = a2
    · subst haa
      rw [List.getElem?_set_self hal] at h2
      cases h2
      exact ⟨by show epM m ≤ e; omega, cpt⟩
    · rw [List.getElem?_set_ne haa] at h2
      exact L.cp a2 c2 h2
  obtain ⟨γ, hw2, hns, hcp⟩ := key
  rw [hw2]
  have mid : ∀ {P : Mg → Prop}, (∃ x ∈ w.way, P x) → P m ∨ ∃ x ∈ rest ++ [ansM m c], P x := by
    intro P ⟨x, hx, px⟩
    rw [hw] at hx
    rcases List.mem_cons.1 hx with rfl | h
    · exact .inl px
    · exact .inr ⟨x, List.mem_append.2 (.inl h), px⟩
  have last : ansM m c ∈ rest ++ [ansM m c] := List.mem_append.2 (.inr (List.mem_singleton.2 rfl))
  have an1 : m.kind = 1 → (ansM m c).kind = 2 ∧ (ansM m c).frm = m.to ∧ (ansM m c).epoch = m.epoch ∧ (ansM m c).to = m.frm := fun h => by unfold ansM; rw [if_pos h]; exact ⟨rfl, rfl, rfl, rfl⟩
  have an4 : m.kind = 4 → (ansM m c).kind = 5 ∧ (ansM m c).frm = m.to ∧ (ansM m c).te = m.te ∧ (ansM m c).ts = m.ts ∧ (ansM m c).to = m.frm := fun h => by unfold ansM; rw [if_neg (by omega), if_pos h]; exact ⟨rfl, rfl, rfl, rfl, rfl⟩
  have an6 : m.kind = 6 → (ansM m c).kind = 7 ∧ (ansM m c).frm = m.to ∧ (ansM m c).epoch = m.epoch ∧ (ansM m c).round = m.round ∧ (ansM m c).to = m.frm := fun h => by unfold ansM; rw [if_neg (by omega), if_neg (by omega)]; exact ⟨rfl, rfl, rfl, rfl, rfl⟩
  refine ⟨⟨L.q0, L.ee, L.ph, L.tg, L.t0, L.t1, L.eg, L.hb, L.dn, hcp, fun x hx => ?_, fun hp c0 h0 => ?_, fun hp c0 h0 => ?_, fun hp c0 h0 => ?_⟩, ?_⟩
  · rcases List.mem_append.1 hx with h | h
    · exact L.wm x (by rw [hw]; exact List.mem_cons_of_mem _ h)
    · rw [List.mem_singleton.1 h]
      rcases hk with h | h | h
      · exact .inr (.inl ⟨(an1 h).1, (an1 h).2.2.2.trans frm⟩)
      · exact .inr (.inr (.inr (.inl ⟨(an4 h).1, (an4 h).2.2.2.2.trans frm⟩)))
      · exact .inr (.inr (.inr (.inr (.inr ⟨(an6 h).1, (an6 h).2.2.2.2.trans frm⟩))))
  · rcases L.a1 hp c0 (by rw [← hns]; exact h0) with h | h | h
    · exact .inl h
    · rcases mid h with ⟨g1, g2⟩ | g
      · refine .inr (.inr ⟨_, last, (an1 g1).1, (an1 g1).2.1.trans g2, ?_⟩)
        rw [(an1 g1).2.2.1]
        have : epM m = m.epoch := if_neg (by omega)
        omega
      · exact .inr (.inl g)
    · rcases mid h with ⟨g1, _⟩ | g
      · omega
      · exact .inr (.inr g)
  · rcases L.a2 hp c0 (by rw [← hns]; exact h0) with h | h | h
    · exact .inl h
    · rcases mid h with ⟨g1, g2⟩ | g
      · refine .inr (.inr ⟨_, last, (an4 g1).1, (an4 g1).2.1.trans g2, ?_, ?_⟩)
        · rw [(an4 g1).2.2.1]
          rcases lm with h | h | h | h | h | h
          · omega
          · omega
          · exact h.2.2.1
          · omega
          · omega
          · omega
        · rw [(an4 g1).2.2.2.1]
          rcases lm with h | h | h | h | h | h
          · omega
          · omega
          · exact h.2.2.2.1
          · omega
          · omega
          · omega
      · exact .inr (.inl g)
    · rcases mid h with ⟨g1, _⟩ | g
      · omega
      · exact .inr (.inr g)
  · rcases L.a3 hp c0 (by rw [← hns]; exact h0) with h | h | h
    · exact .inl h
    · rcases mid h with ⟨g1, g2⟩ | g
      · refine .inr (.inr ⟨_, last, (an6 g1).1, (an6 g1).2.1.trans g2, ?_, ?_⟩)
        · rw [(an6 g1).2.2.1]
          have : epM m = m.epoch := if_neg (by omega)
          omega
        · rw [(an6 g1).2.2.2.1]
          rcases lm with h | h | h | h | h | h
          · omega
          · omega
          · omega
          · omega
          · exact h.2.2.2
          · omega
      · exact .inr (.inl g)
    · rcases mid h with ⟨g1, _⟩ | g
      · omega
      · exact .inr (.inr g)
  · unfold mu
    have h2 : wt m = 2 := if_pos hk
    show ((rest ++ [ansM m c]).map wt).sum + (if q.phase = 1 then 2 * γ.ns.length + 1 else 0) + 1 ≤ (w.way.map wt).sum + _
    rw [hw, hns, List.map_append, List.sum_append, List.map_cons, List.map_nil, List.sum_cons, List.sum_nil, List.map_cons, List.sum_cons, ans_wt, h2]
    omega
theorem pushW_all {ms : List Mg} (h : rest.length + ms.length ≤ 2000) : pushW rest ms = rest ++ ms := by
  unfold pushW
  rw [List.take_of_length_le (by omega)]
theorem writes_all {c0 : Int} (hc : c0 ∈ q.cop) (hw : q.wr = []) : ∃ x ∈ q.writes 3, x.kind = 4 ∧ x.to = c0 := by
  have : c0 ∈ q.cop.filter fun c => !decide (c ∈ q.wr) := List.mem_filter.2 ⟨hc, by rw [hw]; simp⟩
  exact ⟨_, List.mem_map.2 ⟨c0, this, rfl⟩, rfl, rfl⟩
/-- An answer comes to the quorum. -/
theorem lv_hear (o : WOk w k) (L : Lv w q e T bg V) (hw : w.way = m :: rest) (hmu : mu w q ≤ 200) (hk : ¬ (m.kind = 1 ∨ m.kind = 4 ∨ m.kind = 6)) : m.to = q.node ∧ ∃ new, new = (!(q.hear m 3).2.isEmpty) ∧ Lv (({ w with way := rest } : WD).act 0 (q.hear m 3).1 (q.hear m 3).2 new) (q.hear m 3).1 e T bg V ∧ mu (({ w with way := rest } : WD).act 0 (q.hear m 3).1 (q.hear m 3).2 new) (q.hear m 3).1 + 1 ≤ mu w q := by
  have lm := L.wm m (by rw [hw]; exact List.mem_cons_self)
  have mo := o.m m (by rw [hw]; exact List.mem_cons_self)
  have oq := o.q 0 q L.q0
  have B := o.B
  have n7 := B.n7
  have hto : m.to = q.node := by
    rcases lm with h | h | h | h | h | h
    · exact absurd (.inl h.1) hk
    · exact h.2
    · exact absurd (.inr (.inl h.1)) hk
    · exact h.2
    · exact absurd (.inr (.inr h.1)) hk
    · exact h.2
  refine ⟨hto, _, rfl, ?_⟩
  have hl0 : 0 < w.qs.length := (List.getElem?_eq_some_iff.1 L.q0).1
  have hwt : wt m = 1 := if_neg hk
  have hmu0 : (w.way.map wt).sum = 1 + (rest.map wt).sum := by rw [hw, List.map_cons, List.sum_cons, hwt]
  have hrl := wt_len rest
  have hrest : rest.length ≤ 200 := by unfold mu at hmu; omega
  have mid : ∀ {P : Mg → Prop}, (∃ x ∈ w.way, P x) → P m ∨ ∃ x ∈ rest, P x := by
    intro P ⟨x, hx, px⟩
    rw [hw] at hx
    rcases List.mem_cons.1 hx with rfl | h
    · exact .inl px
    · exact .inr ⟨x, h, px⟩
  have wmr : ∀ x ∈ rest, LMsg q.node e T bg q.phase x := fun x hx => L.wm x (by rw [hw]; exact List.mem_cons_of_mem _ hx)
  -- no message is sent, the quorum stands as q'
  have quiet : ∀ {q' : QS}, q'.node = q.node → q'.epoch = e → q'.begun = q.begun → (q'.phase = q.phase ∨ (q.phase = 2 ∧ q'.phase = 3)) → q'.tag = q.tag → (q'.phase ≠ 1 → q'.val = q.val) → (q'.begun ≠ q'.done → q.begun ≠ q.done) → q'.done ≤ q'.begun → (q'.phase = 1 → ∀ c0 ∈ w.β.ns, c0 ∈ q.pm ∨ (m.kind = 2 ∧ m.frm = c0 ∧ m.epoch = e) → c0 ∈ q'.pm) → (q'.phase = 2 → ∀ c0 ∈ w.β.ns, c0 ∈ q.wr ∨ (m.kind = 5 ∧ m.frm = c0 ∧ m.te = T.1 ∧ m.ts = T.2) → c0 ∈ q'.wr) → (q'.begun ≠ q'.done → ∀ c0 ∈ w.β.ns, c0 ∈ q.bt ∨ (m.kind = 7 ∧ m.frm = c0 ∧ m.epoch = e ∧ m.round = bg) → c0 ∈ q'.bt) → Lv (({ w with way := rest } : WD).act 0 q' [] (!([] : List Mg).isEmpty)) q' e T bg V ∧ mu (({ w with way := rest } : WD).act 0 q' [] (!([] : List Mg).isEmpty)) q' + 1 ≤ mu w q := by
    intro q' e1 e2 e3 e4 e5 e6 e7 e8 f1 f2 f3
    have ew : ({ w with way := rest } : WD).act 0 q' [] (!([] : List Mg).isEmpty) = ⟨w.β, w.qs.set 0 q', rest, w.turn⟩ := by
      unfold WD.act actB pushW
      simp
    rw [ew]
    have ph1 : q'.phase = 1 → q.phase = 1 := fun h => by omega
    refine ⟨⟨by show (w.qs.set 0 q')[0]? = _; rw [List.getElem?_set_self hl0], e2, ?_, fun h => ?_, L.t0, fun h => L.t1 (ph1 h), e3.trans L.eg, fun h => ?_, e8, L.cp, fun x hx => ?_, fun hp c0 h0 => ?_, fun hp c0 h0 => ?_, fun hp c0 h0 => ?_⟩, ?_⟩
    · have := L.ph; omega
    · rw [e5, e6 h]; exact L.tg (by have := L.ph; omega)
    · have := L.hb (e7 h); omega
    · rw [e1]
      rcases wmr x hx with h | h | h | h | h | h
      · exact .inl h
      · exact .inr (.inl h)
      · exact .inr (.inr (.inl ⟨h.1, h.2.1, h.2.2.1, h.2.2.2.1, by have := h.2.2.2.2; omega⟩))
      · exact .inr (.inr (.inr (.inl h)))
      · exact .inr (.inr (.inr (.inr (.inl h))))
      · exact .inr (.inr (.inr (.inr (.inr h))))
    · rcases L.a1 (ph1 hp) c0 h0 with h | h | h
      · exact .inl (f1 hp c0 h0 (.inl h))
      · rcases mid h with ⟨g1, _⟩ | g
        · exact absurd (.inl g1) hk
        · exact .inr (.inl g)
      · rcases mid h with g | g
        · exact .inl (f1 hp c0 h0 (.inr g))
        · exact .inr (.inr g)
    · rcases L.a2 (by omega) c0 h0 with h | h | h
      · exact .inl (f2 hp c0 h0 (.inl h))
      · rcases mid h with ⟨g1, _⟩ | g
        · exact absurd (.inr (.inl g1)) hk
        · exact .inr (.inl g)
      · rcases mid h with g | g
        · exact .inl (f2 hp c0 h0 (.inr g))
        · exact .inr (.inr g)
    · rcases L.a3 (e7 hp) c0 h0 with h | h | h
      · exact .inl (f3 hp c0 h0 (.inl h))
      · rcases mid h with ⟨g1, _⟩ | g
        · exact absurd (.inr (.inr g1)) hk
        · exact .inr (.inl g)
      · rcases mid h with g | g
        · exact .inl (f3 hp c0 h0 (.inr g))
        · exact .inr (.inr g)
    · unfold mu
      show (rest.map wt).sum + (if q'.phase = 1 then 2 * w.β.ns.length + 1 else 0) + 1 ≤ _
      rw [hmu0]
      by_cases h : q'.phase = 1
      · rw [if_pos h, if_pos (ph1 h)]; omega
      · rw [if_neg h]; omega
  have same : (m.kind = 2 → q.phase = 1 → m.epoch = e → m.frm ∈ q.pm) → (m.kind = 5 → q.phase = 2 → m.te = T.1 → m.ts = T.2 → m.frm ∈ q.wr) → (m.kind = 7 → q.begun ≠ q.done → m.epoch = e → m.round = bg → m.frm ∈ q.bt) → Lv (({ w with way := rest } : WD).act 0 q [] (!([] : List Mg).isEmpty)) q e T bg V ∧ mu (({ w with way := rest } : WD).act 0 q [] (!([] : List Mg).isEmpty)) q + 1 ≤ mu w q := fun g1 g2 g3 => quiet rfl L.ee rfl (.inl rfl) rfl (fun _ => rfl) (fun h => h) L.dn (fun hp c0 _ h => by rcases h with h | ⟨h1, rfl, h3⟩; exact h; exact g1 h1 hp h3) (fun hp c0 _ h => by rcases h with h | ⟨h1, rfl, h3, h4⟩; exact h; exact g2 h1 hp h3 h4) (fun hp c0 _ h => by rcases h with h | ⟨h1, rfl, h3, h4⟩; exact h; exact g3 h1 hp h3 h4)
  have hg : ¬ (m.to ≠ q.node ∨ m.shard ≠ q.shard ∨ m.frm ∉ q.cop) := by
    rintro (h | h | h)
    · exact h hto
    · exact h (mo.s.trans oq.s.symm)
    · rw [oq.c] at h; exact h mo.f
  unfold QS.hear
  rw [if_neg hg]
  by_cases k2 : m.kind = 2
  · rw [if_pos k2]
    unfold QS.promise
    by_cases hx : q.phase ≠ 1 ∨ m.epoch ≠ q.epoch ∨ m.frm ∈ q.pm
    · rw [if_pos hx]
      refine same (fun _ h1 h2 => ?_) (fun h => by omega) (fun h => by omega)
      rcases hx with h | h | h
      · exact absurd h1 h
      · rw [L.ee] at h; exact absurd h2 h
      · exact h
    rw [if_neg hx]
    have h1 : q.phase = 1 := Decidable.byContradiction fun h => hx (.inl h)
    have h2 : m.epoch = q.epoch := Decidable.byContradiction fun h => hx (.inr (.inl h))
    have P := p1_prom B oq h1 mo k2 h2
    obtain ⟨e1, e2, e3, e4, e5, e6⟩ := prom_same (q := q) (m := m)
    obtain ⟨f1, f2, f3, f4, f5, f6, f7, f8, f9⟩ := prom_more (q := q) (m := m)
    by_cases hm : (q.prom m).most ((q.prom m).pm.length : Nat) = true
    · rw [if_pos hm]
      obtain ⟨T2, VA⟩ := L.t1 h1
      have hcop : ((q.prom m).wrt 1).cop = w.β.ns := P.c
      have hlw : (((q.prom m).wrt 1).writes 3).length = w.β.ns.length := by rw [writes_len rfl, hcop]
      have zz := oq.z h1
      have eT : (q.prom m).epoch = e := e5.trans L.ee
      have hp2 : pushW rest (((q.prom m).wrt 1).writes 3) = rest ++ ((q.prom m).wrt 1).writes 3 := pushW_all (by omega)
      refine ⟨⟨by show (w.qs.set 0 _)[0]? = _; rw [List.getElem?_set_self hl0], eT, .inr (.inl rfl), fun _ => ⟨?_, VA _⟩, L.t0, fun h => absurd h (by show ¬ (2 : Int) = 1; decide), f1.trans L.eg, fun h => ?_, by show (q.prom m).done ≤ (q.prom m).begun; rw [f1, f2]; exact L.dn, fun a2 c2 h2 => ?_, fun x hx => ?_, fun h => absurd h (by show ¬ (2 : Int) = 1; decide), fun _ c0 h0 => ?_, fun h => ?_⟩, ?_⟩
      · show ((q.prom m).epoch, (1 : Int)) = T
        rw [eT, ← L.t0, ← T2]
      · exact absurd (show (q.prom m).begun = (q.prom m).done by rw [f1, f2, zz.1, zz.2.1]) h
      · refine L.cp a2 c2 ?_
        have h2 : (actB w.β _ _).cs[a2]? = some c2 := h2
        unfold actB at h2
        split at h2
        · exact h2
        · exact h2
      · have hx : x ∈ pushW rest (((q.prom m).wrt 1).writes 3) := hx
        rw [hp2] at hx
        show LMsg (q.prom m).node e T bg 2 x
        rw [e1]
        rcases List.mem_append.1 hx with h | h
        · rcases wmr x h with h | h | h | h | h | h
          · exact .inl h
          · exact .inr (.inl h)
          · exact absurd h1 h.2.2.2.2
          · exact .inr (.inr (.inr (.inl h)))
          · exact .inr (.inr (.inr (.inr (.inl h))))
          · exact .inr (.inr (.inr (.inr (.inr h))))
        · obtain ⟨g1, g2, g3, g4, g5, g6, g7, g8, g9⟩ := in_send h
          refine .inr (.inr (.inl ⟨g5, g1.trans e1, g7.trans ?_, g8.trans T2.symm, by decide⟩))
          exact eT.trans L.t0.symm
      · obtain ⟨x, hx, x1, x2⟩ := writes_all (q := (q.prom m).wrt 1) (c0 := c0) (by
          rw [hcop]
          have h0 : c0 ∈ (actB w.β _ _).ns := h0
          unfold actB at h0
          split at h0
          · exact h0
          · exact h0) rfl
        refine .inr (.inl ⟨x, ?_, x1, x2⟩)
        show x ∈ pushW rest (((q.prom m).wrt 1).writes 3)
        rw [hp2]
        exact List.mem_append.2 (.inr hx)
      · exact absurd (show (q.prom m).begun = (q.prom m).done by rw [f1, f2, zz.1, zz.2.1]) h
      · unfold mu
        show ((pushW rest (((q.prom m).wrt 1).writes 3)).map wt).sum + (if (2 : Int) = 1 then _ else 0) + 1 ≤ _
        have := wt_le (((q.prom m).wrt 1).writes 3)
        rw [hp2, hmu0, if_neg (by decide), if_pos h1, List.map_append, List.sum_append]
        omega
    · rw [if_neg hm]
      refine quiet e1 (e5.trans L.ee) f1 (.inl e4) f5 (fun h => absurd (e4.trans h1) h) (fun h => by rw [f1, f2] at h; exact h) (by rw [f1, f2]; exact L.dn) (fun hp c0 _ h => ?_) (fun hp => absurd (hp.symm.trans (e4.trans h1)) (by decide)) (fun hp c0 _ h => ?_)
      · rw [e6]
        rcases h with h | ⟨_, rfl, _⟩
        · unfold putK
          split
          · exact h
          · exact List.mem_append.2 (.inl h)
        · exact putK_mem
      · rw [f3]
        rcases h with h | ⟨h, _⟩
        · exact h
        · omega
  rw [if_neg k2]
  by_cases k5 : m.kind = 5
  · rw [if_pos k5]
    show Lv (({ w with way := rest } : WD).act 0 (q.stored m) [] (!([] : List Mg).isEmpty)) (q.stored m) e T bg V ∧ mu (({ w with way := rest } : WD).act 0 (q.stored m) [] (!([] : List Mg).isEmpty)) (q.stored m) + 1 ≤ mu w q
    unfold QS.stored
    by_cases hx : q.phase = 2 ∧ m.te = q.tag.1 ∧ m.ts = q.tag.2
    · rw [if_pos hx]
      have sub : ∀ c0 : Int, c0 ∈ q.wr ∨ (m.kind = 5 ∧ m.frm = c0 ∧ m.te = T.1 ∧ m.ts = T.2) → c0 ∈ putK q.wr m.frm := by
        intro c0 h
        rcases h with h | ⟨_, rfl, _⟩
        · unfold putK
          split
          · exact h
          · exact List.mem_append.2 (.inl h)
        · exact putK_mem
      have n7' : ¬ m.kind = 7 := by omega
      split
      · exact quiet rfl L.ee rfl (.inr ⟨hx.1, rfl⟩) rfl (fun _ => rfl) (fun h => h) L.dn (fun h => absurd h (by show ¬ (3 : Int) = 1; decide)) (fun h => absurd h (by show ¬ (3 : Int) = 2; decide)) (fun _ c0 _ h => by rcases h with h | ⟨h, _⟩; exact h; exact absurd h n7')
      · exact quiet rfl L.ee rfl (.inl rfl) rfl (fun _ => rfl) (fun h => h) L.dn (fun h => by have h : q.phase = 1 := h; omega) (fun _ c0 _ h => sub c0 h) (fun _ c0 _ h => by rcases h with h | ⟨h, _⟩; exact h; exact absurd h n7')
    · rw [if_neg hx]
      refine same (fun h => by omega) (fun _ h1 h2 h3 => ?_) (fun h => by omega)
      have := (L.tg (by omega)).1
      rw [this] at hx
      exact absurd ⟨h1, h2, h3⟩ hx
  rw [if_neg k5]
  have k7 : m.kind = 7 := by
    rcases lm with h | h | h | h | h | h
    · exact absurd (.inl h.1) hk
    · exact absurd h.1 k2
    · exact absurd (.inr (.inl h.1)) hk
    · exact absurd h.1 k5
    · exact absurd (.inr (.inr h.1)) hk
    · exact h.1
  rw [if_neg (by omega), if_pos k7]
  show Lv (({ w with way := rest } : WD).act 0 (q.beat m) [] (!([] : List Mg).isEmpty)) (q.beat m) e T bg V ∧ mu (({ w with way := rest } : WD).act 0 (q.beat m) [] (!([] : List Mg).isEmpty)) (q.beat m) + 1 ≤ mu w q
  unfold QS.beat
  by_cases hx : q.holds = true ∧ q.begun ≠ q.done ∧ m.epoch = q.epoch ∧ m.round = q.begun
  · rw [if_pos hx]
    have sub : ∀ c0 : Int, c0 ∈ q.bt ∨ (m.kind = 7 ∧ m.frm = c0 ∧ m.epoch = e ∧ m.round = bg) → c0 ∈ putK q.bt m.frm := by
      intro c0 h
      rcases h with h | ⟨_, rfl, _⟩
      · unfold putK
        split
        · exact h
        · exact List.mem_append.2 (.inl h)
      · exact putK_mem
    have p3 := L.hb hx.2.1
    split
    · exact quiet rfl L.ee rfl (.inl rfl) rfl (fun _ => rfl) (fun h => absurd rfl h) (Int.le_refl _) (fun h => by have h : q.phase = 1 := h; omega) (fun h => by have h : q.phase = 2 := h; omega) (fun h => absurd rfl h)
    · exact quiet rfl L.ee rfl (.inl rfl) rfl (fun _ => rfl) (fun h => h) L.dn (fun h => by have h : q.phase = 1 := h; omega) (fun h => by have h : q.phase = 2 := h; omega) (fun _ c0 _ h => sub c0 h)
  · rw [if_neg hx]
    refine same (fun h => by omega) (fun h => by omega) (fun _ h1 h2 h3 => ?_)
    have p3 := L.hb h1
    have hh : q.holds = true := by unfold QS.holds; rw [p3]; rfl
    exact absurd ⟨hh, h1, by rw [L.ee]; exact h2, by rw [L.eg]; exact h3⟩ hx
/-- When no message is on its way, all is done. -/
theorem lv_end (o : WOk w k) (L : Lv w q e T bg V) (hw : w.way = []) : q.phase = 3 ∧ q.done = q.begun := by
  have oq := o.q 0 q L.q0
  have B := o.B
  have n1 := B.n1
  have no : ∀ {P : Mg → Prop}, ¬ ∃ x ∈ w.way, P x := by
    rintro P ⟨x, hx, _⟩
    rw [hw] at hx
    cases hx
  have big : ∀ {l : List Int}, (∀ c ∈ w.β.ns, c ∈ l) → q.most (l.length : Nat) = true := by
    intro l h
    have := nodup_sub_len B.nd h
    rw [most_iff oq.c]
    exact decide_eq_true (by omega)
  refine ⟨?_, ?_⟩
  · rcases L.ph with h | h | h
    · exfalso
      have h1 := big (l := q.pm) fun c hc => by
        rcases L.a1 h c hc with g | g | g
        · exact g
        · exact absurd g no
        · exact absurd g no
      rw [oq.iv.p1 h] at h1
      cases h1
    · exfalso
      have h1 := big (l := q.wr) fun c hc => by
        rcases L.a2 h c hc with g | g | g
        · exact g
        · exact absurd g no
        · exact absurd g no
      rw [oq.iv.p2 h] at h1
      cases h1
    · exact h
  · rcases Decidable.em (q.begun = q.done) with h | h
    · exact h.symm
    · exfalso
      have h1 := big (l := q.bt) fun c hc => by
        rcases L.a3 h c hc with g | g | g
        · exact g
        · exact absurd g no
        · exact absurd g no
      rw [oq.iv.bd h] at h1
      cases h1
end
end Go.Proofs.Ytigcpkejjjgkeaa.V
