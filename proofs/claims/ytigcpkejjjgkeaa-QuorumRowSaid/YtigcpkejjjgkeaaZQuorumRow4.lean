import Derived.Test.YtigcpkejjjgkeaaZQuorumRow3
/- The world: messages are sent; what is told. -/
namespace Go.Proofs.Ytigcpkejjjgkeaa.V
open Go Go.RowKit
set_option linter.unusedVariables false
set_option linter.unusedSimpArgs false

section
variable {h0 h : Heap} {L : List Res} {a : Nat} {g : GW} {w : WD} {turn : Int} {ns : List Int} {m : Mg} {β : BS} {q : QS} {E0 E1 : Int} {qs : List QS} {way ms : List Mg} {new : Bool}
set_option maxRecDepth 20000 in
theorem F_law10_World_sends.is {p : Nat} {s : Sl} {Q : Bool → Heap → Prop} (hp : β.ns[p]? = some q.node) (so : SendOk β q ms new) (B0 : BOk β E0) (B1 : BOk (actB β q new) E1) (hxl : β.wrs.length ≤ 9000) (hwl : way.length ≤ 100000)
    (O : Sat h0 h (msgsR s ms :: worldR a ⟨β, qs, way, turn⟩ :: L)) (k : ∀ h', Sat h0 h' (worldR a ⟨actB β q new, qs, pushW way ms, turn⟩ :: L) → Q true h') : F_law10_World_sends (some (pt a 0)) (p : Int) s h Q := by
  rw [F_law10_World_sends.eq_1, F_law10_World_sends_of.eq_1]
  obtain ⟨ls, el, O⟩ := O.msgs
  have ell : ls.length = ms.length := by have := congrArg List.length el; simpa using this
  have hml := so.l
  have hA : new = false → actB β q new = β := fun h => by rw [h]; rfl
  have n1 := B0.n1
  have n7 := B0.n7
  have hns : (actB β q new).ns = β.ns := by unfold actB; split <;> rfl
  have hA1 : (actB β q new).wrs.length ≤ 9001 := by
    unfold actB
    split
    · show (β.wrs ++ [_]).length ≤ _
      rw [List.length_append, List.length_singleton]; omega
    · omega
  refine jn0 (fun h' => Sat h0 h' (worldR a ⟨actB β q new, qs, pushW way ms, turn⟩ :: L)) (fun h O => k h O) fun j hj => ?_
  rw [F_law10_World_sends.l1.eq_1]
  refine wl1 (k := .int .i64) (fun (m : Nat) (i : Int) (h' : Heap) => i + m = ms.length ∧ 0 ≤ i ∧ ∃ βi, (βi = actB β q new ∨ (i = 0 ∧ βi = β)) ∧ Sat h0 h' (buf 22 mgC s ls :: many mvR ls :: worldR a ⟨βi, qs, pushW way (ms.take i.toNat), turn⟩ :: L)) ?_ (m := ms.length) ⟨by omega, by omega, β, .inr ⟨rfl, rfl⟩, by
    have e : pushW way (ms.take (0 : Int).toNat) = way := by unfold pushW; simp
    rw [e]
    exact O⟩
  clear O
  rintro mm (i : Int) h next hnx ⟨him, hi0, βi, hβ, O⟩
  have Vv := (O.view 0 mgC_len (by simp) rfl).1
  rw [Vv.len, ell]
  refine brr_p (fun hlt => ?_) (fun hlt => hj _ ?_)
  case refine_2 =>
    have hi : i.toNat = ms.length := by omega
    rw [hi, List.take_length] at O
    have eβ : βi = actB β q new := by
      rcases hβ with h | ⟨h1, h2⟩
      · exact h
      · have hms : ms = [] := List.length_eq_zero_iff.1 (by omega)
        cases hn : new with
        | false => rw [h2]; rfl
        | true => exact absurd hms (so.w1 hn).1
    rw [eβ] at O
    exact O.drop.drop
  obtain ⟨x, hx⟩ : ∃ x, ls[i.toNat]? = some x := ⟨_, List.getElem?_eq_getElem (by omega)⟩
  have hxb : ms[i.toNat]? = some x.bare := by rw [← el, List.getElem?_map, hx]; rfl
  have hmem : x.bare ∈ ms := List.mem_of_getElem? hxb
  obtain ⟨s1, s2, s3, s4⟩ := so.h _ hmem
  refine Vv.getP hi0 hx fun b hb => ld_are (hb Vv) ?_
  unfold mgC
  repeat (first | (with_reducible refine ldL_n ?_) | refine ldL_s ?_ | refine ldL_c ?_)
  refine F_ref0_CopyMsg.is (m := x) O (fun h O => by
    have := (O.sel [1, 0, 2] 3 rfl (Nat.le_add_left _ _)).take i.toNat hx
    exact (this.view 0 u8_len (by simp) rfl).1) s4 fun sv h O => ?_
  refine O.al fun a54 h O => ?_
  refine O.st 0 rfl (by simp) rfl fun h O => ?_
  dsimp only [V.put, List.set] at O
  have O : Sat h0 h (own a54 (mgC { x with v := sv }) :: buf 1 u8 sv x.b :: buf 22 mgC s ls :: many mvR ls :: worldR a ⟨βi, qs, pushW way (ms.take i.toNat), turn⟩ :: L) := O
  obtain ⟨g, gk, O⟩ := (O.sel [4, 0, 1, 2, 3] 5 rfl (Nat.le_add_left _ _)).wld
  have O := O turn rfl
  have O : Sat h0 h (own a [.slice g.sn.ptr g.sn.len g.sn.cap, .slice g.sq.ptr g.sq.len g.sq.cap, .slice g.sC.ptr g.sC.len g.sC.cap, .slice g.sw.ptr g.sw.len g.sw.cap, .slice g.sx.ptr g.sx.len g.sx.cap, .int .i64 turn] :: buf 1 i64c g.sn βi.ns :: buf 1 optc g.sq (g.qp.map qpA) :: many qpR g.qp :: buf 4 cpC g.sC g.cl :: buf 22 mgC g.sw g.wl :: buf 6 wrC g.sx g.xl :: many xsR g.xl :: poolR g.ps :: own a54 (mgC { x with v := sv }) :: buf 1 u8 sv x.b :: buf 22 mgC s ls :: many mvR ls :: L) := O
  have O := pool_take (O.sel [10, 8, 0, 1, 2, 3, 4, 5, 6, 7, 9, 11, 12] 13 rfl (Nat.le_add_left _ _))
  obtain ⟨g1, hg1⟩ : ∃ g1 : GW, g1 = { g with ps := g.ps ++ [(sv, x.b)] } := ⟨_, rfl⟩
  have gk1 : GOk g1 ⟨βi, qs, pushW way (ms.take i.toNat), turn⟩ := by
    subst hg1
    exact ⟨gk.gq, gk.gc, gk.gw, gk.gx, fun y hy => List.mem_append.2 (.inl (gk.pc y hy)), fun y hy => List.mem_append.2 (.inl (gk.pw y hy)), fun y hy => List.mem_append.2 (.inl (gk.px y hy))⟩
  have pin : (sv, x.b) ∈ g1.ps := by subst hg1; exact List.mem_append.2 (.inr (List.mem_singleton.2 rfl))
  have O : Sat h0 h (own a54 (mgC { x with v := sv }) :: own a [.slice g1.sn.ptr g1.sn.len g1.sn.cap, .slice g1.sq.ptr g1.sq.len g1.sq.cap, .slice g1.sC.ptr g1.sC.len g1.sC.cap, .slice g1.sw.ptr g1.sw.len g1.sw.cap, .slice g1.sx.ptr g1.sx.len g1.sx.cap, .int .i64 turn] :: buf 1 i64c g1.sn βi.ns :: buf 1 optc g1.sq (g1.qp.map qpA) :: many qpR g1.qp :: buf 4 cpC g1.sC g1.cl :: buf 22 mgC g1.sw g1.wl :: buf 6 wrC g1.sx g1.xl :: many xsR g1.xl :: poolR g1.ps :: buf 22 mgC s ls :: many mvR ls :: L) := by
    subst hg1
    exact O.sel [9, 1, 2, 3, 4, 5, 6, 7, 8, 0, 10, 11] 12 rfl (Nat.le_add_left _ _)
  clear hg1 gk
  have eβn : βi.ns = β.ns := by
    rcases hβ with h | ⟨_, h⟩
    · rw [h, hns]
    · rw [h]
  have Bi : ∃ E, BOk βi E := by
    rcases hβ with h | ⟨_, h⟩
    · exact ⟨E1, by rw [h]; exact B1⟩
    · exact ⟨E0, by rw [h]; exact B0⟩
  obtain ⟨Ei, Bi⟩ := Bi
  have hil : βi.wrs.length ≤ 9001 := by
    rcases hβ with h | ⟨_, h⟩
    · rw [h]; exact hA1
    · rw [h]; omega
  have gxl : g1.xl.length ≤ 9001 := by
    have := congrArg List.length gk1.gx
    rw [List.length_map] at this
    have this : g1.xl.length = βi.wrs.length := this
    omega
  have xin : ∀ y ∈ g1.xl, y.x ∈ βi.wrs := fun y hy => by rw [← gk1.gx]; exact List.mem_map.2 ⟨y, hy, rfl⟩
  have xout : ∀ z ∈ βi.wrs, ∃ y ∈ g1.xl, y.x = z := fun z hz => by rw [← gk1.gx] at hz; exact List.mem_map.1 hz
  refine jn1 (fun z h' => z = false ∧ h' = h) ?_ ?_
  case refine_2 =>
    intro j2 hj2
    refine O.ld 0 rfl (ldL_c (ldL_n ?_))
    refine ⟨_, rfl, ?_⟩
    refine O.ld 1 rfl (ldL_c (k := .sl) (x := g1.sn) (ldL_n ?_))
    refine (O.view 2 i64c_len (by simp) rfl).1.i6 (x := q.node) (by omega) (by rw [Int.toNat_natCast]; show βi.ns[p]? = _; rw [eβn]; exact hp) ?_
    refine brr_ne (fun h => absurd s1 h) (fun _ => ?_)
    refine O.ld 0 rfl (ldL_c (ldL_n ?_))
    refine brr_ne (fun h => absurd s2 h) (fun _ => ?_)
    refine O.ld 0 rfl (ldL_c (ldL_n ?_))
    refine F_law10_World_place.is (g := g1) (turn := turn) (ns := βi.ns) O.drop (by rw [eβn]; omega) (by rw [eβn]; exact s3) fun r hr => ?_
    exact hj2 _ _ ⟨by simp, rfl⟩
  rintro z h' ⟨rfl, rfl⟩
  refine brr_ff rfl ?_
  refine jn1 (fun z h' => z = false ∧ ∃ g2 : GW, GOk g2 ⟨actB β q new, qs, pushW way (ms.take i.toNat), turn⟩ ∧ (sv, x.b) ∈ g2.ps ∧ Sat h0 h' (own a54 (mgC { x with v := sv }) :: own a [.slice g2.sn.ptr g2.sn.len g2.sn.cap, .slice g2.sq.ptr g2.sq.len g2.sq.cap, .slice g2.sC.ptr g2.sC.len g2.sC.cap, .slice g2.sw.ptr g2.sw.len g2.sw.cap, .slice g2.sx.ptr g2.sx.len g2.sx.cap, .int .i64 turn] :: buf 1 i64c g2.sn β.ns :: buf 1 optc g2.sq (g2.qp.map qpA) :: many qpR g2.qp :: buf 4 cpC g2.sC g2.cl :: buf 22 mgC g2.sw g2.wl :: buf 6 wrC g2.sx g2.xl :: many xsR g2.xl :: poolR g2.ps :: buf 22 mgC s ls :: many mvR ls :: L)) ?_ ?_
  case refine_2 =>
    intro j2 hj2
    refine O.ld 0 rfl (ldL_c (ldL_n ?_))
    refine brr_eq (fun k4 => ?_) (fun k4 => ?_)
    case refine_2 =>
      have hn : new = false := by
        cases hn : new with
        | false => rfl
        | true => exact absurd ((so.w1 hn).2.1 _ hmem).1 k4
      have eβ : βi = actB β q new := by
        rcases hβ with h | ⟨_, h⟩
        · exact h
        · rw [hA hn]; exact h
      rw [eβ] at gk1 O
      exact hj2 _ _ ⟨rfl, g1, gk1, pin, by rw [hns] at O; exact O⟩
    have wrt : ∀ b, Wrt βi (x.te, x.ts) b → b = x.b → ∀ y ∈ g1.xl, y.x.tg = (x.te, x.ts) → y.x.b = x.b := by
      intro b hw hbb y hy hyt
      obtain ⟨z, z1, z2, z3⟩ := hw
      have := uniq Bi.u (xin y hy) z1 (hyt.trans z2.symm)
      rw [this, z3, hbb]
    have old : new = false → Wrt βi (x.te, x.ts) x.b := by
      intro hn
      have := so.w0 hn _ hmem k4
      rcases hβ with h | ⟨_, h⟩
      · rw [h, hA hn]; exact this
      · rw [h]; exact this
    have mid : new = true → βi = actB β q new → Wrt βi (x.te, x.ts) x.b := by
      intro hn he
      obtain ⟨g1, g2, g3, g4⟩ := (so.w1 hn).2.1 _ hmem
      have g2 : x.te = q.epoch := g2
      have g3 : x.ts = q.tag.2 := g3
      have g4 : x.b = q.val := g4
      rw [he, hn]
      exact ⟨newW β q q.tag.2, List.mem_append.2 (.inr (List.mem_singleton.2 rfl)), by rw [g2, g3]; rfl, g4.symm⟩
    refine O.ld 0 rfl ?_
    unfold mgC
    repeat (first | (with_reducible refine ldL_n ?_) | refine ldL_s ?_ | refine ldL_c ?_)
    refine F_law10_World_writes.is (g := g1) (turn := turn) (ns := βi.ns) (m := { x with v := sv }) (by rw [eβn]; exact n1) (by rw [eβn]; omega) (by omega) (fun y hy => (Bi.x _ (xin y hy)).l) gk1.px (fun y hy => (Bi.x _ (xin y hy)).b) pin s4 (O.sel [1, 2, 7, 8, 9, 0, 3, 4, 5, 6, 10, 11] 12 rfl (Nat.le_add_left _ _)) ?_ ?_ ?_ ?_
    · intro y hy hyt
      cases hn : new with
      | false => exact wrt _ (old hn) rfl y hy hyt
      | true =>
        rcases hβ with h | ⟨h1, h⟩
        · exact wrt _ (mid hn h) rfl y hy hyt
        · obtain ⟨_, g2, g3, g4⟩ := so.w1 hn
          obtain ⟨k1, k2, k3, k4⟩ := g2 _ hmem
          refine absurd ?_ (g3 y.x (by rw [← h]; exact xin y hy))
          rw [hyt]
          exact Prod.ext k2 k3
    · intro hno ht T hT
      have none : ∀ b, ¬ Wrt βi (x.te, x.ts) b := by
        rintro b ⟨z, z1, z2, _⟩
        obtain ⟨y, hy, rfl⟩ := xout z z1
        exact hno y hy z2
      cases hn : new with
      | false => exact absurd (old hn) (none _)
      | true =>
        rcases hβ with h | ⟨h1, h⟩
        · exact absurd (mid hn h) (none _)
        · obtain ⟨_, g2, g3, g4⟩ := so.w1 hn
          obtain ⟨k1, k2, k3, k4⟩ := g2 _ hmem
          have k2 : x.te = q.epoch := k2
          have k3 : x.ts = q.tag.2 := k3
          have k4 : x.b = q.val := k4
          have ht : x.ts = 1 := ht
          obtain ⟨z, z1, z2, z3, z4⟩ := g4 (by omega) T (by
            rcases hT with h5 | ⟨y, y1, y2, y3, y4⟩
            · exact .inl h5
            · refine .inr ⟨y.x, by rw [← h]; exact xin y y1, by rw [← k2]; exact y2, ?_, y4⟩
              rw [← eβn]
              exact y3)
          rw [← h] at z1
          obtain ⟨y, hy, rfl⟩ := xout z z1
          exact ⟨y, hy, by show y.x.te < x.te; rw [k2]; exact z2, z3, z4.trans k4.symm⟩
    · intro h hex O
      have eβ : βi = actB β q new := by
        rcases hβ with h | ⟨h1, h⟩
        · exact h
        · cases hn : new with
          | false => rw [h]; rfl
          | true =>
            exfalso
            obtain ⟨_, g2, g3, g4⟩ := so.w1 hn
            obtain ⟨k1, k2, k3, k4⟩ := g2 _ hmem
            obtain ⟨y, hy, hyt⟩ := hex
            refine absurd ?_ (g3 y.x (by rw [← h]; exact xin y hy))
            rw [hyt]
            exact Prod.ext k2 k3
      have O := O.sel [5, 0, 1, 6, 7, 8, 9, 2, 3, 4, 10, 11] 12 rfl (Nat.le_add_left _ _)
      rw [eβ] at gk1 O
      exact hj2 _ _ ⟨rfl, g1, gk1, pin, by rw [hns] at O; exact O⟩
    · intro sx s44 T h hno O
      have none : ∀ b, ¬ Wrt βi (x.te, x.ts) b := by
        rintro b ⟨z, z1, z2, _⟩
        obtain ⟨y, hy, rfl⟩ := xout z z1
        exact hno y hy z2
      have hn : new = true := by
        cases hn : new with
        | true => rfl
        | false => exact absurd (old hn) (none _)
      have eβ : βi = β := by
        rcases hβ with h | ⟨_, h⟩
        · exact absurd (mid hn h) (none _)
        · exact h
      obtain ⟨_, g2, g3, g4⟩ := so.w1 hn
      obtain ⟨k1, k2, k3, k4⟩ := g2 _ hmem
      have k2 : x.te = q.epoch := k2
      have k3 : x.ts = q.tag.2 := k3
      have k4 : x.b = q.val := k4
      refine hj2 _ _ ⟨rfl, { g1 with sx := sx, xl := g1.xl ++ [⟨⟨x.te, x.ts, x.b, List.replicate β.ns.length false⟩, sv, s44, T.1, T.2⟩] }, ⟨gk1.gq, ?_, gk1.gw, ?_, gk1.pc, gk1.pw, fun y hy => ?_⟩, pin, ?_⟩
      · rw [hn]
        show g1.cl.map CX.c = β.cs
        rw [← eβ]
        exact gk1.gc
      · rw [hn]
        show (g1.xl ++ [_]).map XX.x = β.wrs ++ [newW β q q.tag.2]
        have e5 : g1.xl.map XX.x = β.wrs := by rw [← eβ]; exact gk1.gx
        rw [List.map_append, e5, List.map_cons, List.map_nil, k2, k3, k4]
        rfl
      · rcases List.mem_append.1 hy with h | h
        · exact gk1.px y h
        · rw [List.mem_singleton.1 h]; exact pin
      · rw [eβ] at O
        exact O.sel [5, 0, 1, 6, 7, 8, 9, 2, 3, 4, 10, 11] 12 rfl (Nat.le_add_left _ _)
  clear O pin gk1 gxl xin xout
  rintro z h ⟨rfl, g2, gk2, pin, O⟩
  refine brr_ff rfl ?_
  have gwl : g2.wl.length = (pushW way (ms.take i.toNat)).length := by have := congrArg List.length gk2.gw; rw [List.length_map] at this; exact this
  have ets : ms.take (i + 1).toNat = ms.take i.toNat ++ [x.bare] := by rw [show (i + 1).toNat = i.toNat + 1 by omega, List.take_add_one, hxb]; rfl
  have pl : (pushW way (ms.take i.toNat)).length ≤ 100014 := by
    unfold pushW
    rw [List.length_append, List.length_take, List.length_take]
    omega
  have W := (O.view 6 mgC_len (by simp) rfl).1
  refine ⟨_, rfl, ?_⟩
  refine O.ld 1 rfl ?_
  refine ldL_c (k := .sl) (x := g2.sw) ?_
  with_reducible refine ldL_n ?_
  rw [W.len, gwl]
  refine jn0 (fun h' => Sat h0 h' (buf 22 mgC s ls :: many mvR ls :: worldR a ⟨actB β q new, qs, pushW way (ms.take (i + 1).toNat), turn⟩ :: L)) ?_ ?_
  · clear O
    intro h O
    rw [wrap64 (by omega) (by omega)]
    exact hnx (mm - 1) _ _ (by omega) ⟨by omega, by omega, _, .inl rfl, O⟩
  intro j3 hj3
  rw [ets, push_snoc] at hj3
  refine brr_p (fun h2 => ?_) (fun h2 => ?_)
  · have h2 : (pushW way (ms.take i.toNat)).length < 2000 := by
      have : (((pushW way (ms.take i.toNat)).length : Nat) : Int) < 2000 := h2
      omega
    rw [if_pos h2] at hj3
    refine ⟨_, rfl, ?_⟩
    refine O.ld 1 rfl (ldL_c (k := .sl) (x := g2.sw) (ldL_n ?_))
    refine O.ld 0 rfl ?_
    unfold mgC
    repeat (first | (with_reducible refine ldL_n ?_) | refine ldL_s ?_ | refine ldL_c ?_)
    refine O.al fun a124 h O => ?_
    refine O.ca 2 1 rfl ?_
    have O2 : Sat h0 h (buf 22 mgC g2.sw g2.wl :: own a124 (mgC { x with v := sv }) :: own a [.slice g2.sn.ptr g2.sn.len g2.sn.cap, .slice g2.sq.ptr g2.sq.len g2.sq.cap, .slice g2.sC.ptr g2.sC.len g2.sC.cap, .slice g2.sw.ptr g2.sw.len g2.sw.cap, .slice g2.sx.ptr g2.sx.len g2.sx.cap, .int .i64 turn] :: buf 1 i64c g2.sn β.ns :: buf 1 optc g2.sq (g2.qp.map qpA) :: many qpR g2.qp :: buf 4 cpC g2.sC g2.cl :: buf 6 wrC g2.sx g2.xl :: many xsR g2.xl :: poolR g2.ps :: buf 22 mgC s ls :: many mvR ls :: L) := O.sel [7, 0, 2, 3, 4, 5, 6, 8, 9, 10, 11, 12] 13 rfl (Nat.le_add_left _ _)
    refine Sat.app_buf (enc := mgC) O2 mgC_len mgC_one (by simp [Value.cells]) (ys := [{ x with v := sv }]) rfl (rdP_own O2 1 rfl 22 (Nat.le_refl _)) (by simp only [List.length_cons, List.length_nil]; omega) fun sw h O _ => ?_
    refine ⟨_, rfl, ?_⟩
    refine st_ad (b := a) (o := 3) rfl ?_
    refine O.st 2 rfl (by simp) rfl fun h O => ?_
    dsimp only [V.put, List.set] at O
    refine hj3 _ ?_
    have gk3 : GOk { g2 with sw := sw, wl := g2.wl ++ [{ x with v := sv }] } ⟨actB β q new, qs, pushW way (ms.take i.toNat) ++ [x.bare], turn⟩ := ⟨gk2.gq, gk2.gc, by
      show (g2.wl ++ [_]).map Mg.bare = _
      rw [List.map_append, gk2.gw]
      rfl, gk2.gx, gk2.pc, fun y hy => by
        rcases List.mem_append.1 hy with h | h
        · exact gk2.pw y h
        · rw [List.mem_singleton.1 h]; exact pin, gk2.px⟩
    have O3 := Sat.wldI (turn := turn) (ns := β.ns) ⟨actB β q new, qs, pushW way (ms.take i.toNat) ++ [x.bare], turn⟩ _ gk3 rfl hns.symm (O.sel [2, 3, 4, 5, 6, 0, 7, 8, 9, 10, 11] 12 rfl (Nat.le_add_left _ _))
    exact O3.sel [1, 2, 0] 3 rfl (Nat.le_add_left _ _)
  · have h2 : ¬ (pushW way (ms.take i.toNat)).length < 2000 := fun g => h2 (by show (((pushW way (ms.take i.toNat)).length : Nat) : Int) < 2000; omega)
    rw [if_neg h2] at hj3
    refine hj3 _ ?_
    have O3 := Sat.wldI (turn := turn) (ns := β.ns) ⟨actB β q new, qs, pushW way (ms.take i.toNat), turn⟩ g2 gk2 rfl hns.symm (O.sel [1, 2, 3, 4, 5, 6, 7, 8, 9, 10, 11] 12 rfl (Nat.le_add_left _ _))
    exact O3.sel [1, 2, 0] 3 rfl (Nat.le_add_left _ _)
end
end Go.Proofs.Ytigcpkejjjgkeaa.V
/- The world: value, told, starts. -/
namespace Go.Proofs.Ytigcpkejjjgkeaa.V
open Go Go.RowKit
set_option linter.unusedVariables false
set_option linter.unusedSimpArgs false

def valB (t : Int) : List UInt8 := [118, UInt8.ofNat t.toNat, UInt8.ofNat (t.toNat / 256)]
theorem wrap8W (n : Nat) : IntKind.u8.wrap (n : Int) = ((UInt8.ofNat n).toNat : Int) := by
  unfold IntKind.wrap
  simp [IntKind.bits, IntKind.signed]
section
variable {h0 h : Heap} {L : List Res} {a : Nat} {w : WD} {m : Mg} {E : Int} {k0 : Nat}
theorem qp_at {g : GW} {p : Nat} {q : QS} (gk : GOk g w) (hq : w.qs[p]? = some q) : ∃ r, g.qp[p]? = some (r, q) := by
  rw [← gk.gq, List.getElem?_map] at hq
  cases h : g.qp[p]? with
  | none => rw [h] at hq; cases hq
  | some x =>
    rw [h] at hq
    have : x.2 = q := Option.some.inj hq
    exact ⟨x.1, by rw [← this]⟩
theorem F_law10_World_value.is {Q : Sl → Heap → Prop} (ht : 0 ≤ w.turn ∧ w.turn ≤ 1000000) (O : Sat h0 h (worldR a w :: L)) (k : ∀ s h', Sat h0 h' (buf 1 u8 s (valB (w.turn + 1)) :: worldR a { w with turn := w.turn + 1 } :: L) → Q s h') : F_law10_World_value (some (pt a 0)) h Q := by
  rw [F_law10_World_value.eq_1, F_law10_World_value_of.eq_1]
  obtain ⟨g, gk, O⟩ := O.wld
  have O := O _ rfl
  refine ⟨_, rfl, ?_⟩
  refine O.ld 0 rfl (ldL_c (ldL_n ?_))
  refine ⟨_, rfl, ?_⟩
  refine st_ad (b := a) (o := 5) rfl ?_
  refine O.st 0 rfl (by simp) rfl fun h O => ?_
  dsimp only [V.put, List.set] at O
  rw [wrap64 (by omega) (by omega)] at O
  refine ⟨_, rfl, ?_⟩
  refine O.ld 0 rfl (ldL_c (ldL_n ?_))
  refine ⟨_, rfl, ?_⟩
  refine O.ld 0 rfl (ldL_c (ldL_n ?_))
  refine ⟨by decide, ?_⟩
  refine O.al fun a10 h O => ?_
  have e2 : (w.turn + 1).fdiv (2 ^ min (8 : Int).toNat IntKind.i64.bits) = (((w.turn + 1).toNat / 256 : Nat) : Int) := by
    rw [show (2 : Int) ^ min (8 : Int).toNat IntKind.i64.bits = 256 from rfl, Int.fdiv_eq_ediv_of_nonneg _ (by omega)]
    omega
  have e1 : IntKind.u8.wrap (w.turn + 1) = ((UInt8.ofNat (w.turn + 1).toNat).toNat : Int) := by
    rw [← wrap8W]
    congr 1
    omega
  rw [e2, e1, wrap8W] at O
  have O : Sat h0 h (own a10 ((valB (w.turn + 1)).flatMap u8 ++ []) :: _) := O
  have O := (O.own_buf (k := 0) (sz := 1) rfl).bufsI
  have O3 := Sat.wldI (turn := w.turn + 1) { w with turn := w.turn + 1 } g ⟨gk.gq, gk.gc, gk.gw, gk.gx, gk.pc, gk.pw, gk.px⟩ rfl rfl (O.sel [1, 2, 3, 4, 5, 6, 7, 8, 9, 0] 10 rfl (Nat.le_add_left _ _))
  exact k _ _ O3.swap
theorem F_law10_World_told.is {p : Nat} {q : QS} {Q : Bool → Heap → Prop} (B : BOk w.β E) (hq : w.qs[p]? = some q) (oq : QOk w.β p q) (hxl : w.β.wrs.length ≤ 9001) (O : Sat h0 h (worldR a w :: L)) (k : ∀ h', Sat h0 h' (worldR a w :: L) → Q true h') : F_law10_World_told (some (pt a 0)) (p : Int) h Q := by
  rw [F_law10_World_told.eq_1, F_law10_World_told_of.eq_1]
  have n7 := B.n7
  have hw := oq.iv.ok.w
  obtain ⟨g, gk, O⟩ := O.wld
  have O := O w.turn rfl
  obtain ⟨r, hr⟩ := qp_at gk hq
  have hqa : (g.qp.map qpA)[p]? = some (some (pt r 0)) := by rw [List.getElem?_map, hr]; rfl
  have gxl : g.xl.length ≤ 9001 := by
    have := congrArg List.length gk.gx
    rw [List.length_map] at this
    omega
  have xin : ∀ y ∈ g.xl, y.x ∈ w.β.wrs := fun y hy => by rw [← gk.gx]; exact List.mem_map.2 ⟨y, hy, rfl⟩
  refine ⟨_, rfl, ?_⟩
  refine O.ld 0 rfl (ldL_c (k := .sl) (x := g.sq) (ldL_n ?_))
  refine (O.view 2 optc_len (by simp) rfl).1.get1 (k := .ptr) (by omega) (x := some (pt r 0)) (by rw [Int.toNat_natCast]; exact hqa) id (fun _ => rfl) ?_
  have O := (O.sel [3, 0, 1, 2, 4, 5, 6, 7, 8] 9 rfl (Nat.le_add_left _ _)).take p hr
  have O : Sat h0 h (quR r q :: hole qpR g.qp p :: own a [.slice g.sn.ptr g.sn.len g.sn.cap, .slice g.sq.ptr g.sq.len g.sq.cap, .slice g.sC.ptr g.sC.len g.sC.cap, .slice g.sw.ptr g.sw.len g.sw.cap, .slice g.sx.ptr g.sx.len g.sx.cap, .int .i64 w.turn] :: buf 1 i64c g.sn w.β.ns :: buf 1 optc g.sq (g.qp.map qpA) :: buf 4 cpC g.sC g.cl :: buf 22 mgC g.sw g.wl :: buf 6 wrC g.sx g.xl :: many xsR g.xl :: poolR g.ps :: L) := O
  refine F_quorum_Quorum_Chosen.is oq.iv.ok O fun s h O => ?_
  refine O.al fun a11 h O => ?_
  refine O.st 0 rfl (by simp) rfl fun h O => ?_
  dsimp only [V.put, List.set] at O
  have O : Sat h0 h (own a11 [.int .u64 q.chosen.1, .int .u64 q.chosen.2] :: buf 1 u8 s q.what :: quR r q :: hole qpR g.qp p :: own a [.slice g.sn.ptr g.sn.len g.sn.cap, .slice g.sq.ptr g.sq.len g.sq.cap, .slice g.sC.ptr g.sC.len g.sC.cap, .slice g.sw.ptr g.sw.len g.sw.cap, .slice g.sx.ptr g.sx.len g.sx.cap, .int .i64 w.turn] :: buf 1 i64c g.sn w.β.ns :: buf 1 optc g.sq (g.qp.map qpA) :: buf 4 cpC g.sC g.cl :: buf 22 mgC g.sw g.wl :: buf 6 wrC g.sx g.xl :: many xsR g.xl :: poolR g.ps :: L) := O
  have back : ∀ {h : Heap}, Sat h0 h (own a11 [.int .u64 q.chosen.1, .int .u64 q.chosen.2] :: buf 1 u8 s q.what :: quR r q :: hole qpR g.qp p :: own a [.slice g.sn.ptr g.sn.len g.sn.cap, .slice g.sq.ptr g.sq.len g.sq.cap, .slice g.sC.ptr g.sC.len g.sC.cap, .slice g.sw.ptr g.sw.len g.sw.cap, .slice g.sx.ptr g.sx.len g.sx.cap, .int .i64 w.turn] :: buf 1 i64c g.sn w.β.ns :: buf 1 optc g.sq (g.qp.map qpA) :: buf 4 cpC g.sC g.cl :: buf 22 mgC g.sw g.wl :: buf 6 wrC g.sx g.xl :: many xsR g.xl :: poolR g.ps :: L) → Sat h0 h (worldR a w :: L) := by
    intro h O
    have O2 : Sat h0 h (qpR (r, q) :: hole qpR g.qp p :: own a [.slice g.sn.ptr g.sn.len g.sn.cap, .slice g.sq.ptr g.sq.len g.sq.cap, .slice g.sC.ptr g.sC.len g.sC.cap, .slice g.sw.ptr g.sw.len g.sw.cap, .slice g.sx.ptr g.sx.len g.sx.cap, .int .i64 w.turn] :: buf 1 i64c g.sn w.β.ns :: buf 1 optc g.sq (g.qp.map qpA) :: buf 4 cpC g.sC g.cl :: buf 22 mgC g.sw g.wl :: buf 6 wrC g.sx g.xl :: many xsR g.xl :: poolR g.ps :: L) := O.drop.drop
    have O2 := O2.give (List.getElem?_eq_some_iff.1 hr).1
    rw [set_same hr] at O2
    exact Sat.wldI w g gk rfl rfl (O2.sel [1, 2, 3, 0, 4, 5, 6, 7, 8] 9 rfl (Nat.le_add_left _ _))
  refine O.ld 0 rfl (ldL_c (ldL_c (ldL_n ?_)))
  rcases told_ok B oq with ⟨h1, h2⟩ | ⟨h1, h2, x, hx, hx1, hx2, hx3⟩
  · refine brr_tt (by rw [h1]; rfl) ?_
    have hl := (O.view 1 u8_len (by simp) rfl).1.len
    rw [hl, h2]
    exact k _ (back O)
  · refine brr_ff (by
      have : q.chosen.2 ≠ 0 := by omega
      simp [this]) ?_
    refine O.ld 0 rfl (ldL_c (ldL_c (ldL_n ?_)))
    have O2 : Sat h0 h (own a [.slice g.sn.ptr g.sn.len g.sn.cap, .slice g.sq.ptr g.sq.len g.sq.cap, .slice g.sC.ptr g.sC.len g.sC.cap, .slice g.sw.ptr g.sw.len g.sw.cap, .slice g.sx.ptr g.sx.len g.sx.cap, .int .i64 w.turn] :: buf 6 wrC g.sx g.xl :: own a11 [.int .u64 q.chosen.1, .int .u64 q.chosen.2] :: buf 1 u8 s q.what :: quR r q :: hole qpR g.qp p :: buf 1 i64c g.sn w.β.ns :: buf 1 optc g.sq (g.qp.map qpA) :: buf 4 cpC g.sC g.cl :: buf 22 mgC g.sw g.wl :: many xsR g.xl :: poolR g.ps :: L) := O.sel [4, 9, 0, 1, 2, 3, 5, 6, 7, 8, 10, 11] 12 rfl (Nat.le_add_left _ _)
    refine F_law10_World_find.is (t := q.chosen) O2 (by omega) (fun h hno O => ?_) (fun i y h hy hyt O => ?_)
    · exfalso
      rw [← gk.gx] at hx
      obtain ⟨y, hy, rfl⟩ := List.mem_map.1 hx
      exact hno y hy hx1
    have hym := List.mem_of_getElem? hy
    have exy : y.x = x := uniq B.u (xin y hym) hx (hyt.trans hx1.symm)
    refine jn1 (fun z h' => z = true ∧ h' = h) ?_ ?_
    · rintro z h' ⟨rfl, rfl⟩
      exact k _ (back (O.sel [2, 3, 4, 5, 0, 6, 7, 8, 9, 1, 10, 11] 12 rfl (Nat.le_add_left _ _)))
    intro j hj
    refine brr_tt (by simp) ?_
    have O3 : Sat h0 h (own a [.slice g.sn.ptr g.sn.len g.sn.cap, .slice g.sq.ptr g.sq.len g.sq.cap, .slice g.sC.ptr g.sC.len g.sC.cap, .slice g.sw.ptr g.sw.len g.sw.cap, .slice g.sx.ptr g.sx.len g.sx.cap, .int .i64 w.turn] :: buf 1 i64c g.sn w.β.ns :: buf 6 wrC g.sx g.xl :: many xsR g.xl :: buf 1 u8 s q.what :: poolR g.ps :: buf 1 optc g.sq (g.qp.map qpA) :: own a11 [.int .u64 q.chosen.1, .int .u64 q.chosen.2] :: quR r q :: L) := O.sel [0, 6, 1, 10, 3, 11, 7, 2, 4] 12 rfl (Nat.le_add_left _ _)
    refine F_law10_World_chosen.is (x := y) O3 (by omega) hy ((B.x _ (xin y hym)).l) ?_
    rw [exy, decide_eq_true hx3]
    refine brr_tt rfl ?_
    refine ⟨_, rfl, ?_⟩
    refine O3.ld 0 rfl (ldL_c (k := .sl) (x := g.sx) (ldL_n ?_))
    have W := (O3.view 2 wrC_len (by simp) rfl).1
    refine W.ptr hy fun b hb2 => ld_drop (W.atp hy hb2) 2 (ldL_c (k := .sl) (x := y.v) (ldL_n ?_))
    refine F_ref0_Eq.is (xs := q.what) (ys := y.x.b) (O3.view 4 u8_len (by simp) rfl).1 (pool_view O3 5 (by simp) rfl (gk.px y hym)) (by omega) (by have := (B.x _ (xin y hym)).b; omega) ?_
    refine brr_tt (by rw [exy, hx2]; simp) ?_
    refine O3.ld 7 rfl (ldL_c (ldL_n ?_))
    refine ⟨_, rfl, ?_⟩
    refine O3.ld 0 rfl (ldL_c (k := .sl) (x := g.sq) (ldL_n ?_))
    refine (O3.view 6 optc_len (by simp) rfl).1.get1 (k := .ptr) (by omega) (x := some (pt r 0)) (by rw [Int.toNat_natCast]; exact hqa) id (fun _ => rfl) ?_
    refine F_quorum_Quorum_Epoch.is (O3.sel [8] 9 rfl (Nat.le_add_left _ _)) ?_
    refine O3.ca 7 1 rfl ?_
    exact hj _ _ ⟨by simp [h2], rfl⟩
theorem begins {n p low : Int} (h1 : 1 ≤ n) (h7 : n ≤ 7) (hp : 0 ≤ p) (hpn : p < n) (hl : 0 ≤ low) : (low + (n + p - low % n) % n) % n = p ∧ low ≤ low + (n + p - low % n) % n ∧ (n + p - low % n) % n < 7 := by
  have : n = 1 ∨ n = 2 ∨ n = 3 ∨ n = 4 ∨ n = 5 ∨ n = 6 ∨ n = 7 := by omega
  rcases this with rfl | rfl | rfl | rfl | rfl | rfl | rfl <;> omega
theorem F_law10_World_starts.is {p : Nat} {q : QS} {c : CP} {more : Int} {Q : Bool → Heap → Prop} (o : WOk w k0) (hk : k0 ≤ 8000) (hp : w.qs[p]? = some q) (hc : w.β.cs[p]? = some c) (O : Sat h0 h (worldR a w :: L))
    (k : ∀ e h', c.prom < e → (p : Int) = e % (w.β.ns.length : Int) → e ≤ 20 * (k0 : Int) + 20 → Sat h0 h' (worldR a (({ w with β := raiseB w.β p c e } : WD).act p (q.start e c.te c.ts c.b 3).1 (q.start e c.te c.ts c.b 3).2 (decide (w.β.ns.length = 1))) :: L) → Q true h') : F_law10_World_starts (some (pt a 0)) (p : Int) more h Q := by
  rw [F_law10_World_starts.eq_1, F_law10_World_starts_of.eq_1]
  have B := o.B
  have n1 := B.n1
  have n7 := B.n7
  have oq := o.q p q hp
  obtain ⟨oc, c0, cE⟩ := B.c p c hc
  have hpl := (List.getElem?_eq_some_iff.1 hp).1
  have hql := o.ql
  have hxl := o.xl
  have hwl := o.wl
  obtain ⟨g, gk, O⟩ := O.wld
  have O := O w.turn rfl
  obtain ⟨r, hr⟩ := qp_at gk hp
  have hqa : (g.qp.map qpA)[p]? = some (some (pt r 0)) := by rw [List.getElem?_map, hr]; rfl
  obtain ⟨y, hy, hyc⟩ : ∃ y : CX, g.cl[p]? = some y ∧ y.c = c := by
    rw [← gk.gc, List.getElem?_map] at hc
    cases h : g.cl[p]? with
    | none => rw [h] at hc; cases hc
    | some x => rw [h] at hc; exact ⟨x, rfl, Option.some.inj hc⟩
  have hsl : g.sn.len = w.β.ns.length := (O.view 1 i64c_len (by simp) rfl).1.len
  refine ⟨_, rfl, ?_⟩
  refine O.ld 0 rfl (ldL_c (k := .sl) (x := g.sn) (ldL_n ?_))
  refine ⟨_, rfl, ?_⟩
  refine O.ld 0 rfl (ldL_c (k := .sl) (x := g.sC) (ldL_n ?_))
  have W := (O.view 4 cpC_len (by simp) rfl).1
  refine W.ptr hy fun b8 hb8 => ?_
  refine ⟨_, rfl, ?_⟩
  refine ld_drop (W.atp hy hb8) 0 (ldL_c (ldL_n ?_))
  refine F_law10_into.is (by decide) (by decide) ?_
  have mo0 := Int.emod_nonneg more (show (3 : Int) ≠ 0 by decide)
  have mo1 := Int.emod_lt_of_pos more (show (0 : Int) < 3 by decide)
  rw [hyc]
  refine ⟨by have := cellsAre_drop 0 (W.atp hy hb8); unfold cpC at this; rw [hyc] at this; exact ⟨this.1, trivial⟩, ?_⟩
  rw [hsl]
  have en : IntKind.u64.wrap ((w.β.ns.length : Nat) : Int) = ((w.β.ns.length : Nat) : Int) := wrapu64 (by omega) (by omega)
  have e1 : IntKind.u64.wrap (c.prom + 1) = c.prom + 1 := wrapu64 (by omega) (by omega)
  have e2 : IntKind.u64.wrap (more % 3) = more % 3 := wrapu64 (by omega) (by omega)
  have e3 : IntKind.u64.wrap (c.prom + 1 + more % 3) = c.prom + 1 + more % 3 := wrapu64 (by omega) (by omega)
  have e4 : IntKind.u64.wrap (p : Int) = (p : Int) := wrapu64 (by omega) (by omega)
  obtain ⟨low, hlow⟩ : ∃ low, low = c.prom + 1 + more % 3 := ⟨_, rfl⟩
  have hl0 : 0 ≤ low := by omega
  have e5 : low.tmod ((w.β.ns.length : Nat) : Int) = low % ((w.β.ns.length : Nat) : Int) := Int.tmod_eq_emod_of_nonneg hl0
  have b0 := Int.emod_nonneg low (show ((w.β.ns.length : Nat) : Int) ≠ 0 by omega)
  have b1 := Int.emod_lt_of_pos low (show (0 : Int) < ((w.β.ns.length : Nat) : Int) by omega)
  have e6 : IntKind.u64.wrap (((w.β.ns.length : Nat) : Int) + (p : Int)) = ((w.β.ns.length : Nat) : Int) + (p : Int) := wrapu64 (by omega) (by omega)
  have e7 : IntKind.u64.wrap (((w.β.ns.length : Nat) : Int) + (p : Int) - low % ((w.β.ns.length : Nat) : Int)) = ((w.β.ns.length : Nat) : Int) + (p : Int) - low % ((w.β.ns.length : Nat) : Int) := wrapu64 (by omega) (by omega)
  have e8 : (((w.β.ns.length : Nat) : Int) + (p : Int) - low % ((w.β.ns.length : Nat) : Int)).tmod ((w.β.ns.length : Nat) : Int) = (((w.β.ns.length : Nat) : Int) + (p : Int) - low % ((w.β.ns.length : Nat) : Int)) % ((w.β.ns.length : Nat) : Int) := Int.tmod_eq_emod_of_nonneg (by omega)
  obtain ⟨g1, g2, g3⟩ := begins (n := ((w.β.ns.length : Nat) : Int)) (p := (p : Int)) (by omega) (by omega) (by omega) (by omega) hl0
  obtain ⟨e, he⟩ : ∃ e, e = low + (((w.β.ns.length : Nat) : Int) + (p : Int) - low % ((w.β.ns.length : Nat) : Int)) % ((w.β.ns.length : Nat) : Int) := ⟨_, rfl⟩
  have e9 : IntKind.u64.wrap (low + (((w.β.ns.length : Nat) : Int) + (p : Int) - low % ((w.β.ns.length : Nat) : Int)) % ((w.β.ns.length : Nat) : Int)) = e := by rw [he]; exact wrapu64 (by omega) (by omega)
  rw [en, e1, e2, e3, e4, ← hlow, e5, e6, e7, e8, e9]
  rw [← he] at g1 g2
  have x1 : c.prom < e := by omega
  have x2 : e ≤ 20 * (k0 : Int) + 20 := by omega
  refine ⟨by omega, by omega, ?_⟩
  refine ⟨_, rfl, ?_⟩
  obtain ⟨so, ok2⟩ := start_ok o hp hc x1 x2 g1.symm
  have O2 : Sat h0 h (buf 4 cpC g.sC g.cl :: own a [.slice g.sn.ptr g.sn.len g.sn.cap, .slice g.sq.ptr g.sq.len g.sq.cap, .slice g.sC.ptr g.sC.len g.sC.cap, .slice g.sw.ptr g.sw.len g.sw.cap, .slice g.sx.ptr g.sx.len g.sx.cap, .int .i64 w.turn] :: buf 1 i64c g.sn w.β.ns :: buf 1 optc g.sq (g.qp.map qpA) :: many qpR g.qp :: buf 22 mgC g.sw g.wl :: buf 6 wrC g.sx g.xl :: many xsR g.xl :: poolR g.ps :: L) := O.sel [4, 0, 1, 2, 3, 5, 6, 7, 8] 9 rfl (Nat.le_add_left _ _)
  refine O2.fld cpC_len hy hb8 (by simp) rfl (y := ⟨{ y.c with prom := e }, y.v⟩) rfl fun h O => ?_
  obtain ⟨cl, hcl⟩ : ∃ cl, cl = g.cl.set p ⟨{ y.c with prom := e }, y.v⟩ := ⟨_, rfl⟩
  have hy2 : cl[p]? = some ⟨{ y.c with prom := e }, y.v⟩ := by rw [hcl, List.getElem?_set_self (List.getElem?_eq_some_iff.1 hy).1]
  rw [← hcl] at O
  refine ⟨_, rfl, ?_⟩
  refine O.ld 1 rfl (ldL_c (k := .sl) (x := g.sq) (ldL_n ?_))
  refine (O.view 3 optc_len (by simp) rfl).1.getP (x := some (pt r 0)) (by omega) (by rw [Int.toNat_natCast]; exact hqa) fun b17 hb17 => ?_
  refine ld_are (hb17 (O.view 3 optc_len (by simp) rfl).1) (ldL_c (k := .ptr) (x := some (pt r 0)) (ldL_n ?_))
  refine ⟨_, rfl, ?_⟩
  have W2 := (O.view 0 cpC_len (by simp) rfl).1
  refine ld_drop (W2.atp hy2 hb8) 1 (ldL_c (ldL_c (ldL_n ?_)))
  refine ⟨_, rfl, ?_⟩
  refine ld_drop (W2.atp hy2 hb8) 3 (ldL_c (k := .sl) (x := y.v) (ldL_n ?_))
  have pin : (y.v, c.b) ∈ g.ps := by rw [← hyc]; exact gk.pc y (List.mem_of_getElem? hy)
  refine F_ref0_Copy.is (xs := c.b) O (pool_view O 8 (by simp) rfl pin) (by have := oc.b; omega) fun sv h O _ _ => ?_
  refine O.ca 2 1 rfl ?_
  refine ⟨hb17 (O.view 4 optc_len (by simp) rfl).1, ?_⟩
  refine ⟨by have := cellsAre_drop 1 ((O.view 1 cpC_len (by simp) rfl).1.atp hy2 hb8); exact ⟨this.1, this.2.1, trivial⟩, ?_⟩
  have O := (O.sel [5, 0, 1, 2, 3, 4, 6, 7, 8, 9] 10 rfl (Nat.le_add_left _ _)).take p hr
  have O : Sat h0 h (quR r q :: hole qpR g.qp p :: buf 1 u8 sv c.b :: buf 4 cpC g.sC cl :: own a [.slice g.sn.ptr g.sn.len g.sn.cap, .slice g.sq.ptr g.sq.len g.sq.cap, .slice g.sC.ptr g.sC.len g.sC.cap, .slice g.sw.ptr g.sw.len g.sw.cap, .slice g.sx.ptr g.sx.len g.sx.cap, .int .i64 w.turn] :: buf 1 i64c g.sn w.β.ns :: buf 1 optc g.sq (g.qp.map qpA) :: buf 22 mgC g.sw g.wl :: buf 6 wrC g.sx g.xl :: many xsR g.xl :: poolR g.ps :: L) := O
  rw [hyc]
  refine F_quorum_Quorum_Start.is oq.iv.ok oc.b (fun h O => (O.view 1 u8_len (by simp) rfl).1) O fun s h O => ?_
  have O3 : Sat h0 h (qpR (r, (q.start e c.te c.ts c.b 3).1) :: hole qpR g.qp p :: msgsR s (q.start e c.te c.ts c.b 3).2 :: buf 4 cpC g.sC cl :: own a [.slice g.sn.ptr g.sn.len g.sn.cap, .slice g.sq.ptr g.sq.len g.sq.cap, .slice g.sC.ptr g.sC.len g.sC.cap, .slice g.sw.ptr g.sw.len g.sw.cap, .slice g.sx.ptr g.sx.len g.sx.cap, .int .i64 w.turn] :: buf 1 i64c g.sn w.β.ns :: buf 1 optc g.sq (g.qp.map qpA) :: buf 22 mgC g.sw g.wl :: buf 6 wrC g.sx g.xl :: many xsR g.xl :: poolR g.ps :: L) := O.sel [1, 2, 0, 4, 5, 6, 7, 8, 9, 10, 11] 12 rfl (Nat.le_add_left _ _)
  have O3 := O3.give (List.getElem?_eq_some_iff.1 hr).1
  obtain ⟨qp, hqp⟩ : ∃ qp, qp = g.qp.set p (r, (q.start e c.te c.ts c.b 3).1) := ⟨_, rfl⟩
  have hqpA : qp.map qpA = g.qp.map qpA := by
    rw [hqp, List.map_set]
    exact set_same (by rw [hqa]; rfl)
  rw [← hqp] at O3
  have gk2 : GOk { g with qp := qp, cl := cl } ⟨raiseB w.β p c e, w.qs.set p (q.start e c.te c.ts c.b 3).1, w.way, w.turn⟩ := by
    refine ⟨?_, ?_, gk.gw, gk.gx, fun z hz => ?_, gk.pw, gk.px⟩
    · show qp.map (·.2) = w.qs.set p _
      rw [hqp, List.map_set, gk.gq]
    · show cl.map CX.c = w.β.cs.set p _
      rw [hcl, List.map_set, gk.gc, hyc]
    · have hz : z ∈ cl := hz
      rw [hcl] at hz
      rcases List.mem_or_eq_of_mem_set hz with h | rfl
      · exact gk.pc z h
      · show (y.v, y.c.b) ∈ g.ps
        rw [hyc]; exact pin
  have O4 : Sat h0 h (own a [.slice g.sn.ptr g.sn.len g.sn.cap, .slice g.sq.ptr g.sq.len g.sq.cap, .slice g.sC.ptr g.sC.len g.sC.cap, .slice g.sw.ptr g.sw.len g.sw.cap, .slice g.sx.ptr g.sx.len g.sx.cap, .int .i64 w.turn] :: buf 1 i64c g.sn w.β.ns :: buf 1 optc g.sq (qp.map qpA) :: many qpR qp :: buf 4 cpC g.sC cl :: buf 22 mgC g.sw g.wl :: buf 6 wrC g.sx g.xl :: many xsR g.xl :: poolR g.ps :: msgsR s (q.start e c.te c.ts c.b 3).2 :: L) := by
    rw [hqpA]
    exact O3.sel [3, 4, 5, 0, 2, 6, 7, 8, 9, 1] 10 rfl (Nat.le_add_left _ _)
  have O5 := Sat.wldI (turn := w.turn) (ns := w.β.ns) _ { g with qp := qp, cl := cl } gk2 rfl rfl O4
  have hsn : (q.start e c.te c.ts c.b 3).1.node = q.node := by unfold QS.start; split <;> rfl
  refine F_law10_World_sends.is (E0 := 20 * (k0 : Int) + 20) (by rw [hsn]; exact oq.n) so (raise_ok B hc (Int.le_of_lt x1) x2 (by omega)).2 ok2.B (by show w.β.wrs.length ≤ 9000; omega) (by omega) O5.swap fun h O => k e h x1 g1.symm x2 O
end
end Go.Proofs.Ytigcpkejjjgkeaa.V
/- The world: a message is heard. -/
namespace Go.Proofs.Ytigcpkejjjgkeaa.V
open Go Go.RowKit
set_option linter.unusedVariables false
set_option linter.unusedSimpArgs false

theorem pool_nilW {h0 h : Heap} {L : List Res} {ms : List PE} (O : Sat h0 h (poolR ms :: L)) : Sat h0 h (poolR (ms ++ [(⟨none, 0, 0⟩, [])]) :: L) := O.mono fun E k e he => by
  rcases List.mem_append.1 he with h | h
  · exact k e h
  · rw [List.mem_singleton.1 h]; exact .inl ⟨rfl, rfl⟩
def bk0 (m : Mg) : Mg := if m.kind = 1 then { mgz with kind := 2, frm := m.to, to := m.frm, shard := 2, epoch := m.epoch } else if m.kind = 4 then { mgz with kind := 5, frm := m.to, to := m.frm, shard := 2, te := m.te, ts := m.ts } else { mgz with kind := 7, frm := m.to, to := m.frm, shard := 2, epoch := m.epoch, round := m.round }
/-- In a list of writes with unlike tags one is marked. -/
theorem mark_set {l : List WR} {i : Nat} {x : WR} {t : Tg} {a : Nat} (u : (l.map WR.tg).Nodup) (hx : l[i]? = some x) (ht : x.tg = t) : l.map (markW t a) = l.set i { x with st := x.st.set a true } := by
  obtain ⟨hi, hxi⟩ := List.getElem?_eq_some_iff.1 hx
  apply List.ext_getElem
  · simp
  intro j h1 h2
  rw [List.getElem_map, List.getElem_set]
  rw [List.length_map] at h1
  by_cases hj : i = j
  · subst hj
    rw [if_pos rfl, hxi]
    unfold markW
    rw [if_pos ht]
  · rw [if_neg hj]
    unfold markW
    rw [if_neg]
    intro he
    apply hj
    refine (List.getElem_inj u (i := i) (j := j) (h₀ := by rw [List.length_map]; exact hi) (h₁ := by rw [List.length_map]; exact h1)).1 ?_
    rw [List.getElem_map, List.getElem_map, hxi, ht, he]
section
variable {h0 h : Heap} {L : List Res} {a : Nat} {g : GW} {w : WD} {m : Mg} {k0 : Nat}
/-- An answer goes on its way. -/
theorem way_more {β : BS} {qs : List QS} {way : List Mg} {turn : Int} {x : Mg} {a2 : Nat} {T : Nat} {z : Value} {Q : Heap → Prop} (gk : GOk g ⟨β, qs, way, turn⟩) (pin : (x.v, x.b) ∈ g.ps) (hl : g.wl.length ≤ 100000) (hz : z.cells.size = 22) (O : Sat h0 h (own a2 (mgC x) :: own a [.slice g.sn.ptr g.sn.len g.sn.cap, .slice g.sq.ptr g.sq.len g.sq.cap, .slice g.sC.ptr g.sC.len g.sC.cap, .slice g.sw.ptr g.sw.len g.sw.cap, .slice g.sx.ptr g.sx.len g.sx.cap, .int .i64 turn] :: buf 1 i64c g.sn β.ns :: buf 1 optc g.sq (g.qp.map qpA) :: many qpR g.qp :: buf 4 cpC g.sC g.cl :: buf 22 mgC g.sw g.wl :: buf 6 wrC g.sx g.xl :: many xsR g.xl :: poolR g.ps :: L)) (k : ∀ h', Sat h0 h' (worldR a ⟨β, qs, way ++ [x.bare], turn⟩ :: L) → Q h') : V.app T 22 208 z g.sw (some (pt a2 0)) 1 h fun s h' => nn (some (pt a 0)) fun a98 => st (a98.add 3) [.slice s.ptr s.len s.cap] h' fun h2 => Q h2 := by
  have O2 : Sat h0 h (buf 22 mgC g.sw g.wl :: own a2 (mgC x) :: own a [.slice g.sn.ptr g.sn.len g.sn.cap, .slice g.sq.ptr g.sq.len g.sq.cap, .slice g.sC.ptr g.sC.len g.sC.cap, .slice g.sw.ptr g.sw.len g.sw.cap, .slice g.sx.ptr g.sx.len g.sx.cap, .int .i64 turn] :: buf 1 i64c g.sn β.ns :: buf 1 optc g.sq (g.qp.map qpA) :: many qpR g.qp :: buf 4 cpC g.sC g.cl :: buf 6 wrC g.sx g.xl :: many xsR g.xl :: poolR g.ps :: L) := O.sel [6, 0, 1, 2, 3, 4, 5, 7, 8, 9] 10 rfl (Nat.le_add_left _ _)
  refine Sat.app_buf (enc := mgC) O2 mgC_len mgC_one hz (ys := [x]) rfl (rdP_own O2 1 rfl 22 (Nat.le_refl _)) (by simp only [List.length_cons, List.length_nil]; omega) fun sw h O _ => ?_
  refine ⟨_, rfl, ?_⟩
  refine st_ad (b := a) (o := 3) rfl ?_
  refine O.st 2 rfl (by simp) rfl fun h O => ?_
  dsimp only [V.put, List.set] at O
  refine k _ ?_
  have gk3 : GOk { g with sw := sw, wl := g.wl ++ [x] } ⟨β, qs, way ++ [x.bare], turn⟩ := ⟨gk.gq, gk.gc, by
    show (g.wl ++ [_]).map Mg.bare = _
    rw [List.map_append, gk.gw]
    rfl, gk.gx, gk.pc, fun y hy => by
      rcases List.mem_append.1 hy with h | h
      · exact gk.pw y h
      · rw [List.mem_singleton.1 h]; exact pin, gk.px⟩
  exact Sat.wldI (turn := turn) (ns := β.ns) _ _ gk3 rfl rfl (O.sel [2, 3, 4, 5, 6, 0, 7, 8, 9] 10 rfl (Nat.le_add_left _ _))
set_option maxRecDepth 20000 in
theorem F_law10_World_hears.is {Q : Bool → Heap → Prop} (o : WOk w k0) (hk0 : k0 ≤ 8000) (gk : GOk g w) (mo : MOk w.β (20 * (k0 : Int)) m) (pin : (m.v, m.b) ∈ g.ps) (O : Sat h0 h (own a [.slice g.sn.ptr g.sn.len g.sn.cap, .slice g.sq.ptr g.sq.len g.sq.cap, .slice g.sC.ptr g.sC.len g.sC.cap, .slice g.sw.ptr g.sw.len g.sw.cap, .slice g.sx.ptr g.sx.len g.sx.cap, .int .i64 w.turn] :: buf 1 i64c g.sn w.β.ns :: buf 1 optc g.sq (g.qp.map qpA) :: many qpR g.qp :: buf 4 cpC g.sC g.cl :: buf 22 mgC g.sw g.wl :: buf 6 wrC g.sx g.xl :: many xsR g.xl :: poolR g.ps :: L))
    (kC : ∀ (i : Nat) c h', w.β.ns[i]? = some m.to → w.β.cs[i]? = some c → (m.kind = 1 ∨ m.kind = 4 ∨ m.kind = 6) → Sat h0 h' (worldR a (w.hearC i c m) :: L) → Q true h')
    (kQ : ∀ (p : Nat) q h', w.β.ns[p]? = some m.to → w.qs[p]? = some q → ¬ (m.kind = 1 ∨ m.kind = 4 ∨ m.kind = 6) → Sat h0 h' (worldR a (w.act p (q.hear m 3).1 (q.hear m 3).2 (!(q.hear m 3).2.isEmpty)) :: L) → Q true h') : F_law10_World_hears (some (pt a 0)) m.kind m.frm m.to m.shard m.epoch m.te m.ts m.round m.span m.seen m.v m.peer m.num m.name m.other m.amount m.life m.id m.op m.client m.state m.bad h Q := by
  rw [F_law10_World_hears.eq_1, F_law10_World_hears_of.eq_1]
  have B := o.B
  have n1 := B.n1
  have n7 := B.n7
  have hcl := B.cl
  have hql := o.ql
  have hxl := o.xl
  have hwl := o.wl
  have gwl : g.wl.length ≤ 11000 := by
    have := congrArg List.length gk.gw
    rw [List.length_map] at this
    omega
  have gxl : g.xl.length ≤ 9001 := by
    have := congrArg List.length gk.gx
    rw [List.length_map] at this
    omega
  have xin : ∀ y ∈ g.xl, y.x ∈ w.β.wrs := fun y hy => by rw [← gk.gx]; exact List.mem_map.2 ⟨y, hy, rfl⟩
  refine O.al fun a24 h O => ?_
  have O : Sat h0 h (own a24 (mgC m) :: own a [.slice g.sn.ptr g.sn.len g.sn.cap, .slice g.sq.ptr g.sq.len g.sq.cap, .slice g.sC.ptr g.sC.len g.sC.cap, .slice g.sw.ptr g.sw.len g.sw.cap, .slice g.sx.ptr g.sx.len g.sx.cap, .int .i64 w.turn] :: buf 1 i64c g.sn w.β.ns :: buf 1 optc g.sq (g.qp.map qpA) :: many qpR g.qp :: buf 4 cpC g.sC g.cl :: buf 22 mgC g.sw g.wl :: buf 6 wrC g.sx g.xl :: many xsR g.xl :: poolR g.ps :: L) := O
  refine O.ld 0 rfl (ldL_c (ldL_n ?_))
  refine F_law10_World_place.is (g := g) (turn := w.turn) (ns := w.β.ns) O.drop (by omega) mo.t fun i hi => ?_
  have hil := (List.getElem?_eq_some_iff.1 hi).1
  obtain ⟨c, hc⟩ : ∃ c, w.β.cs[i]? = some c := ⟨_, List.getElem?_eq_getElem (by omega)⟩
  obtain ⟨q, hq⟩ : ∃ q, w.qs[i]? = some q := ⟨_, List.getElem?_eq_getElem (by omega)⟩
  obtain ⟨oc, c0, cE⟩ := B.c i c hc
  have oq := o.q i q hq
  obtain ⟨r, hr⟩ := qp_at gk hq
  have hqa : (g.qp.map qpA)[i]? = some (some (pt r 0)) := by rw [List.getElem?_map, hr]; rfl
  obtain ⟨y, hy, hyc⟩ : ∃ y : CX, g.cl[i]? = some y ∧ y.c = c := by
    rw [← gk.gc, List.getElem?_map] at hc
    cases h : g.cl[i]? with
    | none => rw [h] at hc; cases hc
    | some x => rw [h] at hc; exact ⟨x, rfl, Option.some.inj hc⟩
  subst hyc
  refine ⟨_, rfl, ?_⟩
  refine O.ld 1 rfl (ldL_c (k := .sl) (x := g.sC) (ldL_n ?_))
  refine (O.view 5 cpC_len (by simp) rfl).1.ptr hy fun b31 hb31 => ?_
  refine O.ld 0 rfl (ldL_c (ldL_n ?_))
  refine O.ld 0 rfl (ldL_c (ldL_n ?_))
  refine O.ld 0 rfl (ldL_c (ldL_n ?_))
  refine O.al fun a35 h O => ?_
  refine O.st 0 rfl (by simp) rfl fun h O => ?_
  dsimp only [V.put, List.set] at O
  refine O.ld 1 rfl (ldL_c (ldL_n ?_))
  refine O.ld 1 rfl (ldL_c (ldL_n ?_))
  refine jn1 (fun (e : Int) h' => (m.kind = 1 ∨ m.kind = 4 ∨ m.kind = 6) ∧ e = epM m ∧ Sat h0 h' (own a35 (mgC (bk0 m)) :: own a24 (mgC m) :: own a [.slice g.sn.ptr g.sn.len g.sn.cap, .slice g.sq.ptr g.sq.len g.sq.cap, .slice g.sC.ptr g.sC.len g.sC.cap, .slice g.sw.ptr g.sw.len g.sw.cap, .slice g.sx.ptr g.sx.len g.sx.cap, .int .i64 w.turn] :: buf 1 i64c g.sn w.β.ns :: buf 1 optc g.sq (g.qp.map qpA) :: many qpR g.qp :: buf 4 cpC g.sC g.cl :: buf 22 mgC g.sw g.wl :: buf 6 wrC g.sx g.xl :: many xsR g.xl :: poolR g.ps :: L)) ?_ ?_
  case refine_2 =>
    intro j40 hj40
    refine brr_eq (fun k1 => ?_) (fun k1 => ?_)
    · refine st_ad (b := a35) (o := 0) rfl ?_
      refine O.st 0 rfl (by simp) rfl fun h O => ?_
      dsimp only [V.put, List.set] at O
      refine hj40 _ _ ⟨.inl k1, (if_neg (by omega)).symm, ?_⟩
      have e : bk0 m = { mgz with kind := 2, frm := m.to, to := m.frm, shard := 2, epoch := m.epoch } := if_pos k1
      rw [e]
      exact O
    refine jn_go ?_
    refine brr_eq (fun k4 => ?_) (fun k4 => ?_)
    · refine O.ld 1 rfl (ldL_c (ldL_n ?_))
      refine st_ad (b := a35) (o := 4) rfl ?_
      refine O.st 0 rfl (by simp) rfl fun h O => ?_
      dsimp only [V.put, List.set] at O
      refine st_ad (b := a35) (o := 0) rfl ?_
      refine O.st 0 rfl (by simp) rfl fun h O => ?_
      dsimp only [V.put, List.set] at O
      refine O.ld 1 rfl (ldL_c (ldL_c (ldL_n ?_)))
      refine st_ad (b := a35) (o := 5) rfl ?_
      refine O.st 0 rfl (by simp) rfl fun h O => ?_
      dsimp only [V.put, List.set] at O
      refine hj40 _ _ ⟨.inr (.inl k4), (if_pos k4).symm, ?_⟩
      have e : bk0 m = { mgz with kind := 5, frm := m.to, to := m.frm, shard := 2, te := m.te, ts := m.ts } := by unfold bk0; rw [if_neg k1, if_pos k4]
      rw [e]
      exact O
    refine brr_eq (fun k6 => ?_) (fun k6 => ?_)
    · refine st_ad (b := a35) (o := 0) rfl ?_
      refine O.st 0 rfl (by simp) rfl fun h O => ?_
      dsimp only [V.put, List.set] at O
      refine O.ld 1 rfl (ldL_c (ldL_n ?_))
      refine st_ad (b := a35) (o := 7) rfl ?_
      refine O.st 0 rfl (by simp) rfl fun h O => ?_
      dsimp only [V.put, List.set] at O
      refine hj40 _ _ ⟨.inr (.inr k6), (if_neg k4).symm, ?_⟩
      have e : bk0 m = { mgz with kind := 7, frm := m.to, to := m.frm, shard := 2, epoch := m.epoch, round := m.round } := by unfold bk0; rw [if_neg k1, if_neg k4]
      rw [e]
      exact O
    have hkk : ¬ (m.kind = 1 ∨ m.kind = 4 ∨ m.kind = 6) := by omega
    obtain ⟨so, ok2, hnd⟩ := hear_ok o hq mo
    refine ⟨_, rfl, ?_⟩
    refine O.ld 2 rfl (ldL_c (k := .sl) (x := g.sq) (ldL_n ?_))
    refine (O.view 4 optc_len (by simp) rfl).1.get1 (k := .ptr) (by omega) (x := some (pt r 0)) (by rw [Int.toNat_natCast]; exact hqa) id (fun _ => rfl) ?_
    have O : Sat h0 h (own a24 (mgC m) :: own a [.slice g.sn.ptr g.sn.len g.sn.cap, .slice g.sq.ptr g.sq.len g.sq.cap, .slice g.sC.ptr g.sC.len g.sC.cap, .slice g.sw.ptr g.sw.len g.sw.cap, .slice g.sx.ptr g.sx.len g.sx.cap, .int .i64 w.turn] :: buf 1 i64c g.sn w.β.ns :: buf 1 optc g.sq (g.qp.map qpA) :: many qpR g.qp :: buf 4 cpC g.sC g.cl :: buf 22 mgC g.sw g.wl :: buf 6 wrC g.sx g.xl :: many xsR g.xl :: poolR g.ps :: L) := O.drop
    refine O.ld 0 rfl ?_
    unfold mgC
    repeat (first | (with_reducible refine ldL_n ?_) | refine ldL_s ?_ | refine ldL_c ?_)
    have O := (O.sel [4, 9, 0, 1, 2, 3, 5, 6, 7, 8] 10 rfl (Nat.le_add_left _ _)).take i hr
    have O : Sat h0 h (quR r q :: hole qpR g.qp i :: poolR g.ps :: own a [.slice g.sn.ptr g.sn.len g.sn.cap, .slice g.sq.ptr g.sq.len g.sq.cap, .slice g.sC.ptr g.sC.len g.sC.cap, .slice g.sw.ptr g.sw.len g.sw.cap, .slice g.sx.ptr g.sx.len g.sx.cap, .int .i64 w.turn] :: buf 1 i64c g.sn w.β.ns :: buf 1 optc g.sq (g.qp.map qpA) :: buf 4 cpC g.sC g.cl :: buf 22 mgC g.sw g.wl :: buf 6 wrC g.sx g.xl :: many xsR g.xl :: L) := O.sel [0, 1, 2, 4, 5, 6, 7, 8, 9, 10] 11 rfl (Nat.le_add_left _ _)
    refine F_quorum_Quorum_Hear.is (m := m) oq.iv.ok mo.b (fun h O => pool_view O 1 (by simp) rfl pin) O fun s h O => ?_
    have O3 : Sat h0 h (qpR (r, (q.hear m 3).1) :: hole qpR g.qp i :: msgsR s (q.hear m 3).2 :: poolR g.ps :: own a [.slice g.sn.ptr g.sn.len g.sn.cap, .slice g.sq.ptr g.sq.len g.sq.cap, .slice g.sC.ptr g.sC.len g.sC.cap, .slice g.sw.ptr g.sw.len g.sw.cap, .slice g.sx.ptr g.sx.len g.sx.cap, .int .i64 w.turn] :: buf 1 i64c g.sn w.β.ns :: buf 1 optc g.sq (g.qp.map qpA) :: buf 4 cpC g.sC g.cl :: buf 22 mgC g.sw g.wl :: buf 6 wrC g.sx g.xl :: many xsR g.xl :: L) := O.sel [1, 2, 0, 3, 4, 5, 6, 7, 8, 9, 10] 11 rfl (Nat.le_add_left _ _)
    have O3 := O3.give (List.getElem?_eq_some_iff.1 hr).1
    obtain ⟨qp, hqp⟩ : ∃ qp, qp = g.qp.set i (r, (q.hear m 3).1) := ⟨_, rfl⟩
    have hqpA : qp.map qpA = g.qp.map qpA := by
      rw [hqp, List.map_set]
      exact set_same (by rw [hqa]; rfl)
    rw [← hqp] at O3
    have gk2 : GOk { g with qp := qp } ⟨w.β, w.qs.set i (q.hear m 3).1, w.way, w.turn⟩ := by
      refine ⟨?_, gk.gc, gk.gw, gk.gx, gk.pc, gk.pw, gk.px⟩
      show qp.map (·.2) = w.qs.set i _
      rw [hqp, List.map_set, gk.gq]
    have O4 : Sat h0 h (own a [.slice g.sn.ptr g.sn.len g.sn.cap, .slice g.sq.ptr g.sq.len g.sq.cap, .slice g.sC.ptr g.sC.len g.sC.cap, .slice g.sw.ptr g.sw.len g.sw.cap, .slice g.sx.ptr g.sx.len g.sx.cap, .int .i64 w.turn] :: buf 1 i64c g.sn w.β.ns :: buf 1 optc g.sq (qp.map qpA) :: many qpR qp :: buf 4 cpC g.sC g.cl :: buf 22 mgC g.sw g.wl :: buf 6 wrC g.sx g.xl :: many xsR g.xl :: poolR g.ps :: msgsR s (q.hear m 3).2 :: L) := by
      rw [hqpA]
      exact O3.sel [3, 4, 5, 0, 6, 7, 8, 9, 2, 1] 10 rfl (Nat.le_add_left _ _)
    have O5 := Sat.wldI (turn := w.turn) (ns := w.β.ns) _ { g with qp := qp } gk2 rfl rfl O4
    exact F_law10_World_sends.is (E0 := 20 * (k0 : Int)) (by rw [hnd]; exact oq.n) so B ok2.B (by omega) (by omega) O5.swap fun h O => kQ i q h hi hq hkk O
  clear O
  rintro e h ⟨hk, rfl, O⟩
  refine ⟨_, rfl, ?_⟩
  refine ld_drop ((O.view 6 cpC_len (by simp) rfl).1.atp hy hb31) 0 (ldL_c (ldL_n ?_))
  refine brr_p (fun hlt => ?_) (fun hlt => ?_)
  · refine ⟨_, rfl, ?_⟩
    refine O.ld 2 rfl (ldL_c (k := .sl) (x := g.sw) (ldL_n ?_))
    refine O.ld 1 rfl (ldL_c (ldL_n ?_))
    refine O.ld 1 rfl (ldL_c (ldL_n ?_))
    refine ⟨_, rfl, ?_⟩
    refine ld_drop ((O.view 6 cpC_len (by simp) rfl).1.atp hy hb31) 0 (ldL_c (ldL_n ?_))
    refine O.al fun a94 h O => ?_
    refine O.ca 3 1 rfl ?_
    have O2 : Sat h0 h (own a94 (mgC (refM m y.c)) :: own a [.slice g.sn.ptr g.sn.len g.sn.cap, .slice g.sq.ptr g.sq.len g.sq.cap, .slice g.sC.ptr g.sC.len g.sC.cap, .slice g.sw.ptr g.sw.len g.sw.cap, .slice g.sx.ptr g.sx.len g.sx.cap, .int .i64 w.turn] :: buf 1 i64c g.sn w.β.ns :: buf 1 optc g.sq (g.qp.map qpA) :: many qpR g.qp :: buf 4 cpC g.sC g.cl :: buf 22 mgC g.sw g.wl :: buf 6 wrC g.sx g.xl :: many xsR g.xl :: poolR (g.ps ++ [(⟨none, 0, 0⟩, [])]) :: own a24 (mgC m) :: L) := by
      have O3 := pool_nilW (O.sel [11, 0, 3, 4, 5, 6, 7, 8, 9, 10, 2] 12 rfl (Nat.le_add_left _ _))
      exact O3.sel [1, 2, 3, 4, 5, 6, 7, 8, 9, 0, 10] 11 rfl (Nat.le_add_left _ _)
    refine way_more (Q := fun h => Q true h) (z := .agg #[.int .i64 0, .int .i64 0, .int .i64 0, .int .i64 0, .int .u64 0, .int .u64 0, .int .u64 0, .int .u64 0, .int .i64 0, .int .u64 0, .slice none 0 0, .int .i64 0, .int .u64 0, .string (⟨#[]⟩ : ByteArray), .string (⟨#[]⟩ : ByteArray), .int .u64 0, .int .u64 0, .int .u64 0, .int .i64 0, .int .i64 0, .int .i64 0, .int .i64 0]) (g := { g with ps := g.ps ++ [(⟨none, 0, 0⟩, [])] }) (x := refM m y.c) (β := w.β) (qs := w.qs) (way := w.way) (turn := w.turn) ⟨gk.gq, gk.gc, gk.gw, gk.gx, fun z hz => List.mem_append.2 (.inl (gk.pc z hz)), fun z hz => List.mem_append.2 (.inl (gk.pw z hz)), fun z hz => List.mem_append.2 (.inl (gk.px z hz))⟩ (List.mem_append.2 (.inr (List.mem_singleton.2 rfl))) (by show g.wl.length ≤ _; omega) (by simp [Value.cells]) O2 fun h O => kC i y.c h hi hc hk ?_
    have e : w.hearC i y.c m = ⟨w.β, w.qs, w.way ++ [(refM m y.c).bare], w.turn⟩ := by
      unfold WD.hearC
      rw [if_pos hlt]
      rfl
    rw [e]
    exact O.sel [0] 2 rfl (Nat.le_add_left _ _)
  have hlt : ¬ epM m < y.c.prom := hlt
  refine ⟨_, rfl, ?_⟩
  have O2 : Sat h0 h (buf 4 cpC g.sC g.cl :: own a35 (mgC (bk0 m)) :: own a24 (mgC m) :: own a [.slice g.sn.ptr g.sn.len g.sn.cap, .slice g.sq.ptr g.sq.len g.sq.cap, .slice g.sC.ptr g.sC.len g.sC.cap, .slice g.sw.ptr g.sw.len g.sw.cap, .slice g.sx.ptr g.sx.len g.sx.cap, .int .i64 w.turn] :: buf 1 i64c g.sn w.β.ns :: buf 1 optc g.sq (g.qp.map qpA) :: many qpR g.qp :: buf 22 mgC g.sw g.wl :: buf 6 wrC g.sx g.xl :: many xsR g.xl :: poolR g.ps :: L) := O.sel [6, 0, 1, 2, 3, 4, 5, 7, 8, 9, 10] 11 rfl (Nat.le_add_left _ _)
  refine O2.fld cpC_len hy hb31 (by simp) rfl (y := ⟨{ y.c with prom := epM m }, y.v⟩) rfl fun h O => ?_
  obtain ⟨cl, hcl1⟩ : ∃ cl, cl = g.cl.set i ⟨{ y.c with prom := epM m }, y.v⟩ := ⟨_, rfl⟩
  have hy2 : cl[i]? = some ⟨{ y.c with prom := epM m }, y.v⟩ := by rw [hcl1, List.getElem?_set_self (List.getElem?_eq_some_iff.1 hy).1]
  rw [← hcl1] at O
  have O : Sat h0 h (own a35 (mgC (bk0 m)) :: own a24 (mgC m) :: own a [.slice g.sn.ptr g.sn.len g.sn.cap, .slice g.sq.ptr g.sq.len g.sq.cap, .slice g.sC.ptr g.sC.len g.sC.cap, .slice g.sw.ptr g.sw.len g.sw.cap, .slice g.sx.ptr g.sx.len g.sx.cap, .int .i64 w.turn] :: buf 1 i64c g.sn w.β.ns :: buf 1 optc g.sq (g.qp.map qpA) :: many qpR g.qp :: buf 4 cpC g.sC cl :: buf 22 mgC g.sw g.wl :: buf 6 wrC g.sx g.xl :: many xsR g.xl :: poolR g.ps :: L) := O.sel [1, 2, 3, 4, 5, 6, 0, 7, 8, 9, 10] 11 rfl (Nat.le_add_left _ _)
  have gk1 : GOk { g with cl := cl } ⟨raiseB w.β i y.c (epM m), w.qs, w.way, w.turn⟩ := by
    refine ⟨gk.gq, ?_, gk.gw, gk.gx, fun z hz => ?_, gk.pw, gk.px⟩
    · show cl.map CX.c = w.β.cs.set i _
      rw [hcl1, List.map_set, gk.gc]
    · have hz : z ∈ cl := hz
      rw [hcl1] at hz
      rcases List.mem_or_eq_of_mem_set hz with h | rfl
      · exact gk.pc z h
      · exact gk.pc y (List.mem_of_getElem? hy)
  refine jn1 (fun z h' => z = decide (m.kind = 4 ∧ tagLt y.c.te y.c.ts m.te m.ts) ∧ Sat h0 h' (own a35 (mgC (bk0 m)) :: own a24 (mgC m) :: own a [.slice g.sn.ptr g.sn.len g.sn.cap, .slice g.sq.ptr g.sq.len g.sq.cap, .slice g.sC.ptr g.sC.len g.sC.cap, .slice g.sw.ptr g.sw.len g.sw.cap, .slice g.sx.ptr g.sx.len g.sx.cap, .int .i64 w.turn] :: buf 1 i64c g.sn w.β.ns :: buf 1 optc g.sq (g.qp.map qpA) :: many qpR g.qp :: buf 4 cpC g.sC cl :: buf 22 mgC g.sw g.wl :: buf 6 wrC g.sx g.xl :: many xsR g.xl :: poolR g.ps :: L)) ?_ ?_
  case refine_2 =>
    intro j hj
    refine O.ld 1 rfl (ldL_c (ldL_n ?_))
    refine brr_eq (fun k4 => ?_) (fun k4 => hj _ _ ⟨by simp [k4], O⟩)
    refine O.ld 1 rfl (ldL_c (ldL_c (ldL_n ?_)))
    refine ⟨_, rfl, ?_⟩
    refine ld_drop ((O.view 6 cpC_len (by simp) rfl).1.atp hy2 hb31) 1 (ldL_c (ldL_c (ldL_n ?_)))
    refine F_ref0_CmpTag.is O fun h O => ?_
    refine hj _ _ ⟨?_, O⟩
    refine decide_eq_decide.2 ?_
    rw [cmp_posW]
    exact ⟨fun h => ⟨k4, h⟩, fun h => h.2⟩
  clear O
  rintro z h ⟨rfl, O⟩
  refine jn0 (fun h' => ∃ (g2 : GW) (y2 : CX) (β2 : BS), GOk g2 ⟨β2, w.qs, w.way, w.turn⟩ ∧ g2.cl[i]? = some y2 ∧ g2.sC = g.sC ∧ g2.wl = g.wl ∧ β2.ns = w.β.ns ∧ ((m.kind = 4 ∧ tagLt y.c.te y.c.ts m.te m.ts ∧ β2 = stoB w.β i m ∧ y2.c.te = m.te ∧ y2.c.ts = m.ts) ∨ (¬ (m.kind = 4 ∧ tagLt y.c.te y.c.ts m.te m.ts) ∧ β2 = raiseB w.β i y.c (epM m) ∧ y2.c.te = y.c.te ∧ y2.c.ts = y.c.ts ∧ y2.c.b = y.c.b ∧ y2.v = y.v)) ∧ Sat h0 h' (own a35 (mgC (bk0 m)) :: own a24 (mgC m) :: own a [.slice g2.sn.ptr g2.sn.len g2.sn.cap, .slice g2.sq.ptr g2.sq.len g2.sq.cap, .slice g2.sC.ptr g2.sC.len g2.sC.cap, .slice g2.sw.ptr g2.sw.len g2.sw.cap, .slice g2.sx.ptr g2.sx.len g2.sx.cap, .int .i64 w.turn] :: buf 1 i64c g2.sn w.β.ns :: buf 1 optc g2.sq (g2.qp.map qpA) :: many qpR g2.qp :: buf 4 cpC g2.sC g2.cl :: buf 22 mgC g2.sw g2.wl :: buf 6 wrC g2.sx g2.xl :: many xsR g2.xl :: poolR g2.ps :: L)) ?_ ?_
  case refine_2 =>
    intro j113 hj113
    refine brr_p (fun hs => ?_) (fun hs => ?_)
    case refine_2 =>
      exact hj113 _ ⟨{ g with cl := cl }, ⟨{ y.c with prom := epM m }, y.v⟩, _, gk1, hy2, rfl, rfl, rfl, .inr ⟨hs, rfl, rfl, rfl, rfl, rfl⟩, O⟩
    obtain ⟨k4, hlt2⟩ := hs
    have ep : epM m = m.te := if_pos k4
    obtain ⟨x0, hx0, hx1, hx2⟩ := mo.k4 k4
    refine O.ld 1 rfl (ldL_c (ldL_c (ldL_n ?_)))
    refine ⟨_, rfl, ?_⟩
    have O2 : Sat h0 h (buf 4 cpC g.sC cl :: own a35 (mgC (bk0 m)) :: own a24 (mgC m) :: own a [.slice g.sn.ptr g.sn.len g.sn.cap, .slice g.sq.ptr g.sq.len g.sq.cap, .slice g.sC.ptr g.sC.len g.sC.cap, .slice g.sw.ptr g.sw.len g.sw.cap, .slice g.sx.ptr g.sx.len g.sx.cap, .int .i64 w.turn] :: buf 1 i64c g.sn w.β.ns :: buf 1 optc g.sq (g.qp.map qpA) :: many qpR g.qp :: buf 22 mgC g.sw g.wl :: buf 6 wrC g.sx g.xl :: many xsR g.xl :: poolR g.ps :: L) := O.sel [6, 0, 1, 2, 3, 4, 5, 7, 8, 9, 10] 11 rfl (Nat.le_add_left _ _)
    refine O2.fld cpC_len hy2 hb31 (by simp) rfl (y := ⟨⟨epM m, m.te, m.ts, y.c.b⟩, y.v⟩) rfl fun h O => ?_
    have hil2 := (List.getElem?_eq_some_iff.1 hy2).1
    refine O.ld 2 rfl (ldL_c (k := .sl) (x := m.v) (ldL_n ?_))
    refine F_ref0_Copy.is (xs := m.b) O (pool_view O 10 (by simp) rfl pin) (by have := mo.b; omega) fun sv h O _ _ => ?_
    refine ⟨_, rfl, ?_⟩
    have O2 : Sat h0 h (buf 4 cpC g.sC (cl.set i ⟨⟨epM m, m.te, m.ts, y.c.b⟩, y.v⟩) :: buf 1 u8 sv m.b :: own a35 (mgC (bk0 m)) :: own a24 (mgC m) :: own a [.slice g.sn.ptr g.sn.len g.sn.cap, .slice g.sq.ptr g.sq.len g.sq.cap, .slice g.sC.ptr g.sC.len g.sC.cap, .slice g.sw.ptr g.sw.len g.sw.cap, .slice g.sx.ptr g.sx.len g.sx.cap, .int .i64 w.turn] :: buf 1 i64c g.sn w.β.ns :: buf 1 optc g.sq (g.qp.map qpA) :: many qpR g.qp :: buf 22 mgC g.sw g.wl :: buf 6 wrC g.sx g.xl :: many xsR g.xl :: poolR g.ps :: L) := O.swap
    refine O2.fld cpC_len (i := i) (x := ⟨⟨epM m, m.te, m.ts, y.c.b⟩, y.v⟩) (by rw [List.getElem?_set_self hil2]) hb31 (by simp) rfl (y := ⟨⟨epM m, m.te, m.ts, m.b⟩, sv⟩) rfl fun h O => ?_
    rw [List.set_set] at O
    refine O.ld 3 rfl (ldL_c (ldL_c (ldL_n ?_)))
    have O2 : Sat h0 h (own a [.slice g.sn.ptr g.sn.len g.sn.cap, .slice g.sq.ptr g.sq.len g.sq.cap, .slice g.sC.ptr g.sC.len g.sC.cap, .slice g.sw.ptr g.sw.len g.sw.cap, .slice g.sx.ptr g.sx.len g.sx.cap, .int .i64 w.turn] :: buf 6 wrC g.sx g.xl :: buf 4 cpC g.sC (cl.set i ⟨⟨epM m, m.te, m.ts, m.b⟩, sv⟩) :: buf 1 u8 sv m.b :: poolR g.ps :: own a35 (mgC (bk0 m)) :: own a24 (mgC m) :: buf 1 i64c g.sn w.β.ns :: buf 1 optc g.sq (g.qp.map qpA) :: many qpR g.qp :: buf 22 mgC g.sw g.wl :: many xsR g.xl :: L) := O.sel [4, 9, 0, 1, 11, 2, 3, 5, 6, 7, 8, 10] 12 rfl (Nat.le_add_left _ _)
    refine F_law10_World_find.is (t := (m.te, m.ts)) O2 (by omega) (fun h hno O => ?_) (fun k x h hx hxt O => ?_)
    · exfalso
      rw [← gk.gx] at hx0
      obtain ⟨x, hx, rfl⟩ := List.mem_map.1 hx0
      exact hno x hx hx1
    refine brr_ff (by simp) ?_
    refine ⟨_, rfl, ?_⟩
    refine O.ld 0 rfl (ldL_c (k := .sl) (x := g.sx) (ldL_n ?_))
    have W := (O.view 1 wrC_len (by simp) rfl).1
    refine W.ptr hx fun b hb2 => ld_drop (W.atp hx hb2) 3 (ldL_c (k := .sl) (x := x.s) (ldL_n ?_))
    have hxm := List.mem_of_getElem? hx
    have hst := (B.x _ (xin x hxm)).l
    have O := (O.sel [11, 0, 1, 2, 3, 4, 5, 6, 7, 8, 9, 10] 12 rfl (Nat.le_add_left _ _)).take k hx
    have O : Sat h0 h (buf 1 bo1 x.s x.x.st :: hole xsR g.xl k :: own a [.slice g.sn.ptr g.sn.len g.sn.cap, .slice g.sq.ptr g.sq.len g.sq.cap, .slice g.sC.ptr g.sC.len g.sC.cap, .slice g.sw.ptr g.sw.len g.sw.cap, .slice g.sx.ptr g.sx.len g.sx.cap, .int .i64 w.turn] :: buf 6 wrC g.sx g.xl :: buf 4 cpC g.sC (cl.set i ⟨⟨epM m, m.te, m.ts, m.b⟩, sv⟩) :: buf 1 u8 sv m.b :: poolR g.ps :: own a35 (mgC (bk0 m)) :: own a24 (mgC m) :: buf 1 i64c g.sn w.β.ns :: buf 1 optc g.sq (g.qp.map qpA) :: many qpR g.qp :: buf 22 mgC g.sw g.wl :: L) := O
    refine O.put1 bo1_len bo1_one (by omega) (by omega) true rfl fun h O => ?_
    rw [Int.toNat_natCast] at O
    obtain ⟨x2, hx2e⟩ : ∃ x2 : XX, x2 = { x with x := { x.x with st := x.x.st.set i true } } := ⟨_, rfl⟩
    have O3 : Sat h0 h (xsR x2 :: hole xsR g.xl k :: own a [.slice g.sn.ptr g.sn.len g.sn.cap, .slice g.sq.ptr g.sq.len g.sq.cap, .slice g.sC.ptr g.sC.len g.sC.cap, .slice g.sw.ptr g.sw.len g.sw.cap, .slice g.sx.ptr g.sx.len g.sx.cap, .int .i64 w.turn] :: buf 6 wrC g.sx g.xl :: buf 4 cpC g.sC (cl.set i ⟨⟨epM m, m.te, m.ts, m.b⟩, sv⟩) :: buf 1 u8 sv m.b :: poolR g.ps :: own a35 (mgC (bk0 m)) :: own a24 (mgC m) :: buf 1 i64c g.sn w.β.ns :: buf 1 optc g.sq (g.qp.map qpA) :: many qpR g.qp :: buf 22 mgC g.sw g.wl :: L) := by rw [hx2e]; exact O
    have O3 := O3.give (List.getElem?_eq_some_iff.1 hx).1
    have O3 := pool_take (O3.sel [4, 5, 0, 1, 2, 3, 6, 7, 8, 9, 10, 11] 12 rfl (Nat.le_add_left _ _))
    have exs : g.xl.flatMap wrC = (g.xl.set k x2).flatMap wrC := by
      have h1 : ∀ (l : List XX) (k : Nat), l[k]? = some x → l.flatMap wrC = (l.set k x2).flatMap wrC := by
        intro l
        induction l with
        | nil => intro k h; simp at h
        | cons z l ih =>
          intro k h
          cases k with
          | zero =>
            have : z = x := by simpa using h
            rw [List.set_cons_zero, List.flatMap_cons, List.flatMap_cons, this, hx2e]
            rfl
          | succ k =>
            rw [List.set_cons_succ, List.flatMap_cons, List.flatMap_cons, ← ih k (by simpa using h)]
      exact h1 _ _ hx
    have ebuf : ∀ {h : Heap} {M : List Res}, Sat h0 h (buf 6 wrC g.sx g.xl :: M) → Sat h0 h (buf 6 wrC g.sx (g.xl.set k x2) :: M) := by
      intro h M O
      refine O.mono fun E hE => ?_
      obtain ⟨sp, hE⟩ := hE
      rcases hE with ⟨h1, h2, h3, h4⟩ | ⟨b, j, h1, h2, h3⟩
      · exact ⟨sp, .inl ⟨h1, by rw [h2]; rfl, h3, h4⟩⟩
      · exact ⟨sp, .inr ⟨b, j, by rw [List.length_set]; exact h1, h2, by rw [← exs]; exact h3⟩⟩
    have O4 := ebuf (O3.sel [3, 0, 1, 2, 4, 5, 6, 7, 8, 9, 10] 11 rfl (Nat.le_add_left _ _))
    -- xl, pool, mx, W, cl, a35, a24, sn, sq, qp, wl
    refine hj113 _ ⟨{ g with cl := cl.set i ⟨⟨epM m, m.te, m.ts, m.b⟩, sv⟩, xl := g.xl.set k x2, ps := g.ps ++ [(sv, m.b)] }, ⟨⟨epM m, m.te, m.ts, m.b⟩, sv⟩, stoB w.β i m, ⟨gk.gq, ?_, gk.gw, ?_, fun z hz => ?_, fun z hz => List.mem_append.2 (.inl (gk.pw z hz)), fun z hz => ?_⟩, by show (cl.set i _)[i]? = _; rw [List.getElem?_set_self hil2], rfl, rfl, rfl, .inl ⟨k4, hlt2, rfl, rfl, rfl⟩, O4.sel [5, 6, 3, 7, 8, 9, 4, 10, 0, 2, 1] 11 rfl (Nat.le_add_left _ _)⟩
    · show (cl.set i _).map CX.c = w.β.cs.set i _
      rw [hcl1, List.set_set, List.map_set, gk.gc, ep]
    · show (g.xl.set k x2).map XX.x = w.β.wrs.map (markW (m.te, m.ts) i)
      have hk : w.β.wrs[k]? = some x.x := by rw [← gk.gx, List.getElem?_map, hx]; rfl
      rw [mark_set B.u hk hxt, List.map_set, gk.gx, hx2e]
    · have hz : z ∈ cl.set i _ := hz
      rcases List.mem_or_eq_of_mem_set hz with h | rfl
      · exact List.mem_append.2 (.inl (gk1.pc z h))
      · exact List.mem_append.2 (.inr (List.mem_singleton.2 rfl))
    · have hz : z ∈ g.xl.set k x2 := hz
      rcases List.mem_or_eq_of_mem_set hz with h | rfl
      · exact List.mem_append.2 (.inl (gk.px z h))
      · rw [hx2e]
        exact List.mem_append.2 (.inl (gk.px x hxm))
  clear O
  rintro h ⟨g2, y2, β2, gk2, hy2g, hsC, hwl2, hns2, hcase, O⟩
  have hb2 : g2.sC.ptr.map (·.add (i * 4)) = some b31 := by rw [hsC]; exact hb31
  refine jn1 (fun z h' => h = h' ∧ z = decide (m.kind = 4 ∧ ¬ (y2.c.te = m.te ∧ y2.c.ts = m.ts))) ?_ ?_
  case refine_2 =>
    intro j hj
    refine O.ld 1 rfl (ldL_c (ldL_n ?_))
    refine brr_eq (fun k4 => ?_) (fun k4 => hj _ _ ⟨rfl, by simp [k4]⟩)
    refine ⟨_, rfl, ?_⟩
    refine ld_drop ((O.view 6 cpC_len (by simp) rfl).1.atp hy2g hb2) 1 (ldL_c (ldL_c (ldL_n ?_)))
    refine O.ld 1 rfl (ldL_c (ldL_c (ldL_n ?_)))
    refine hj _ _ ⟨rfl, ?_⟩
    by_cases hq2 : y2.c.te = m.te ∧ y2.c.ts = m.ts
    · simp [hq2.1, hq2.2]
    · rw [decide_eq_true ⟨k4, hq2⟩]
      by_cases h3 : y2.c.te = m.te
      · have h4 : y2.c.ts ≠ m.ts := fun g => hq2 ⟨h3, g⟩
        simp [h4]
      · simp [h3]
  rintro z h' ⟨rfl, rfl⟩
  refine brr_p (fun hno => ?_) (fun hno => ?_)
  · have e : w.hearC i y.c m = ⟨β2, w.qs, w.way, w.turn⟩ := by
      rcases hcase with ⟨_, _, _, h4, h5⟩ | ⟨g1, g2, g3, g4, _⟩
      · exact absurd ⟨h4, h5⟩ hno.2
      · unfold WD.hearC
        rw [if_neg hlt, if_neg g1, if_pos ⟨hno.1, by rw [← g3, ← g4]; exact hno.2⟩, g2]
    refine kC i y.c _ hi hc hk ?_
    rw [e]
    exact Sat.wldI (turn := w.turn) (ns := w.β.ns) _ g2 gk2 rfl hns2.symm (O.sel [2, 3, 4, 5, 6, 7, 8, 9, 10] 11 rfl (Nat.le_add_left _ _))
  have e : w.hearC i y.c m = ⟨β2, w.qs, w.way ++ [ansM m y.c], w.turn⟩ := by
    rcases hcase with ⟨g1, g2, g3, _⟩ | ⟨g1, g2, g3, g4, _⟩
    · unfold WD.hearC
      rw [if_neg hlt, if_pos ⟨g1, g2⟩, g3]
    · unfold WD.hearC
      rw [if_neg hlt, if_neg g1, if_neg (by rw [← g3, ← g4]; exact hno), g2]
  refine O.ld 1 rfl (ldL_c (ldL_n ?_))
  refine jn0 (fun h' => ∃ (x : Mg) (ps : List PE), x.bare = ansM m y.c ∧ (x.v, x.b) ∈ ps ∧ (∀ e ∈ g2.ps, e ∈ ps) ∧ Sat h0 h' (own a35 (mgC x) :: own a24 (mgC m) :: own a [.slice g2.sn.ptr g2.sn.len g2.sn.cap, .slice g2.sq.ptr g2.sq.len g2.sq.cap, .slice g2.sC.ptr g2.sC.len g2.sC.cap, .slice g2.sw.ptr g2.sw.len g2.sw.cap, .slice g2.sx.ptr g2.sx.len g2.sx.cap, .int .i64 w.turn] :: buf 1 i64c g2.sn w.β.ns :: buf 1 optc g2.sq (g2.qp.map qpA) :: many qpR g2.qp :: buf 4 cpC g2.sC g2.cl :: buf 22 mgC g2.sw g2.wl :: buf 6 wrC g2.sx g2.xl :: many xsR g2.xl :: poolR ps :: L)) ?_ ?_
  · clear O
    rintro h ⟨x, ps, hxb, hxp, hsub, O⟩
    refine ⟨_, rfl, ?_⟩
    refine O.ld 2 rfl (ldL_c (k := .sl) (x := g2.sw) (ldL_n ?_))
    refine O.ld 0 rfl ?_
    unfold mgC
    repeat (first | (with_reducible refine ldL_n ?_) | refine ldL_s ?_ | refine ldL_c ?_)
    refine O.al fun a179 h O => ?_
    refine O.ca 3 1 rfl ?_
    have O2 : Sat h0 h (own a179 (mgC x) :: own a [.slice g2.sn.ptr g2.sn.len g2.sn.cap, .slice g2.sq.ptr g2.sq.len g2.sq.cap, .slice g2.sC.ptr g2.sC.len g2.sC.cap, .slice g2.sw.ptr g2.sw.len g2.sw.cap, .slice g2.sx.ptr g2.sx.len g2.sx.cap, .int .i64 w.turn] :: buf 1 i64c g2.sn w.β.ns :: buf 1 optc g2.sq (g2.qp.map qpA) :: many qpR g2.qp :: buf 4 cpC g2.sC g2.cl :: buf 22 mgC g2.sw g2.wl :: buf 6 wrC g2.sx g2.xl :: many xsR g2.xl :: poolR ps :: own a24 (mgC m) :: L) := O.sel [0, 3, 4, 5, 6, 7, 8, 9, 10, 11, 2] 12 rfl (Nat.le_add_left _ _)
    rw [← hns2] at O2
    refine way_more (Q := fun h => Q true h) (z := .agg #[.int .i64 0, .int .i64 0, .int .i64 0, .int .i64 0, .int .u64 0, .int .u64 0, .int .u64 0, .int .u64 0, .int .i64 0, .int .u64 0, .slice none 0 0, .int .i64 0, .int .u64 0, .string (⟨#[]⟩ : ByteArray), .string (⟨#[]⟩ : ByteArray), .int .u64 0, .int .u64 0, .int .u64 0, .int .i64 0, .int .i64 0, .int .i64 0, .int .i64 0]) (g := { g2 with ps := ps }) (x := x) (β := β2) (qs := w.qs) (way := w.way) (turn := w.turn) ⟨gk2.gq, gk2.gc, gk2.gw, gk2.gx, fun z hz => hsub _ (gk2.pc z hz), fun z hz => hsub _ (gk2.pw z hz), fun z hz => hsub _ (gk2.px z hz)⟩ hxp (by show g2.wl.length ≤ _; rw [hwl2]; omega) (by simp [Value.cells]) O2 fun h O => kC i y.c h hi hc hk ?_
    rw [e, ← hxb]
    exact O.sel [0] 2 rfl (Nat.le_add_left _ _)
  intro j144 hj144
  refine brr_eq (fun k1 => ?_) (fun k1 => ?_)
  · have hnf : ¬ (m.kind = 4 ∧ tagLt y.c.te y.c.ts m.te m.ts) := by omega
    obtain ⟨g3, g4, g5, g6⟩ : y2.c.te = y.c.te ∧ y2.c.ts = y.c.ts ∧ y2.c.b = y.c.b ∧ y2.v = y.v := by
      rcases hcase with ⟨h4, _⟩ | ⟨_, _, h⟩
      · omega
      · exact h
    have eb : bk0 m = { mgz with kind := 2, frm := m.to, to := m.frm, shard := 2, epoch := m.epoch } := if_pos k1
    rw [eb] at O
    unfold mgC at O
    refine ⟨_, rfl, ?_⟩
    refine ld_drop ((O.view 6 cpC_len (by simp) rfl).1.atp hy2g hb2) 1 (ldL_c (ldL_c (ldL_n ?_)))
    refine st_ad (b := a35) (o := 5) rfl ?_
    refine O.st 0 rfl (by simp) rfl fun h O => ?_
    dsimp only [V.put, List.set] at O
    refine ⟨_, rfl, ?_⟩
    refine ld_drop ((O.view 6 cpC_len (by simp) rfl).1.atp hy2g hb2) 3 (ldL_c (k := .sl) (x := y2.v) (ldL_n ?_))
    refine F_ref0_Copy.is (xs := y2.c.b) O (pool_view O 10 (by simp) rfl (gk2.pc y2 (List.mem_of_getElem? hy2g))) (by rw [g5]; have := oc.b; omega) fun sv h O _ _ => ?_
    refine st_ad (b := a35) (o := 10) rfl ?_
    refine O.st 1 rfl (by simp) rfl fun h O => ?_
    dsimp only [V.put, List.set] at O
    have O2 := pool_take (O.sel [0, 11, 1, 2, 3, 4, 5, 6, 7, 8, 9, 10] 12 rfl (Nat.le_add_left _ _))
    refine hj144 _ ⟨{ mgz with kind := 2, frm := m.to, to := m.frm, shard := 2, epoch := m.epoch, te := y2.c.te, ts := y2.c.ts, v := sv, b := y2.c.b }, g2.ps ++ [(sv, y2.c.b)], ?_, List.mem_append.2 (.inr (List.mem_singleton.2 rfl)), fun e he => List.mem_append.2 (.inl he), O2.sel [1, 2, 3, 4, 5, 6, 7, 8, 9, 10, 0] 11 rfl (Nat.le_add_left _ _)⟩
    unfold ansM
    rw [if_pos k1, g3, g4, g5]
    rfl
  · have O2 := pool_nilW (O.sel [10, 0, 1, 2, 3, 4, 5, 6, 7, 8, 9] 11 rfl (Nat.le_add_left _ _))
    have O3 : Sat h0 h (own a35 (mgC (bk0 m)) :: own a24 (mgC m) :: own a [.slice g2.sn.ptr g2.sn.len g2.sn.cap, .slice g2.sq.ptr g2.sq.len g2.sq.cap, .slice g2.sC.ptr g2.sC.len g2.sC.cap, .slice g2.sw.ptr g2.sw.len g2.sw.cap, .slice g2.sx.ptr g2.sx.len g2.sx.cap, .int .i64 w.turn] :: buf 1 i64c g2.sn w.β.ns :: buf 1 optc g2.sq (g2.qp.map qpA) :: many qpR g2.qp :: buf 4 cpC g2.sC g2.cl :: buf 22 mgC g2.sw g2.wl :: buf 6 wrC g2.sx g2.xl :: many xsR g2.xl :: poolR (g2.ps ++ [(⟨none, 0, 0⟩, [])]) :: L) := O2.sel [1, 2, 3, 4, 5, 6, 7, 8, 9, 10, 0] 11 rfl (Nat.le_add_left _ _)
    have pb : (bk0 m).v = ⟨none, 0, 0⟩ ∧ (bk0 m).b = [] ∧ (bk0 m).bare = ansM m y.c := by
      unfold bk0 ansM
      rw [if_neg k1, if_neg k1]
      split
      · exact ⟨rfl, rfl, rfl⟩
      · exact ⟨rfl, rfl, rfl⟩
    have pin2 : ((bk0 m).v, (bk0 m).b) ∈ g2.ps ++ [(⟨none, 0, 0⟩, [])] := by
      rw [pb.1, pb.2.1]
      exact List.mem_append.2 (.inr (List.mem_singleton.2 rfl))
    exact hj144 _ ⟨bk0 m, _, pb.2.2, pin2, fun e he => List.mem_append.2 (.inl he), O3⟩
end
end Go.Proofs.Ytigcpkejjjgkeaa.V
/- The world: a step. -/
namespace Go.Proofs.Ytigcpkejjjgkeaa.V
open Go Go.RowKit
set_option linter.unusedVariables false
set_option linter.unusedSimpArgs false

def kindC (m : Mg) : Prop := m.kind = 1 ∨ m.kind = 4 ∨ m.kind = 6
structure StepTo (w : WD) (kind place at_ : Int) (w2 : WD) : Prop where
  d : kind = 2 → at_ = 0 → ∀ m rest, w.way = m :: rest → (∃ i c, w.β.ns[i]? = some m.to ∧ w.β.cs[i]? = some c ∧ kindC m ∧ w2 = ({ w with way := rest } : WD).hearC i c m) ∨ (∃ p q, w.β.ns[p]? = some m.to ∧ w.qs[p]? = some q ∧ ¬ kindC m ∧ w2 = ({ w with way := rest } : WD).act p (q.hear m 3).1 (q.hear m 3).2 (!(q.hear m 3).2.isEmpty))
  p : kind = 5 → place = 0 → ∃ q, w.qs[0]? = some q ∧ w2 = ({ w with turn := w.turn + 1 } : WD).act 0 (q.propose (valB (w.turn + 1)) 3).1 (q.propose (valB (w.turn + 1)) 3).2.1 (q.propose (valB (w.turn + 1)) 3).2.2
  t : kind = 6 → place = 0 → ∃ q, w.qs[0]? = some q ∧ w2 = w.act 0 (q.tick 3).1 (q.tick 3).2 false
section
variable {h0 h : Heap} {L : List Res} {a : Nat} {g : GW} {w : WD} {m : Mg} {k0 : Nat} {turn : Int} {ns : List Int}
theorem cut_way {T : Nat} {i : Nat} {K : Heap → Prop} (hi : i < g.wl.length) (hl : g.wl.length ≤ 100000) (O : Sat h0 h (own a [.slice g.sn.ptr g.sn.len g.sn.cap, .slice g.sq.ptr g.sq.len g.sq.cap, .slice g.sC.ptr g.sC.len g.sC.cap, .slice g.sw.ptr g.sw.len g.sw.cap, .slice g.sx.ptr g.sx.len g.sx.cap, .int .i64 turn] :: buf 1 i64c g.sn ns :: buf 1 optc g.sq (g.qp.map qpA) :: many qpR g.qp :: buf 4 cpC g.sC g.cl :: buf 22 mgC g.sw g.wl :: buf 6 wrC g.sx g.xl :: many xsR g.xl :: poolR g.ps :: L)) (k : ∀ sw h', Sat h0 h' (own a [.slice g.sn.ptr g.sn.len g.sn.cap, .slice g.sq.ptr g.sq.len g.sq.cap, .slice g.sC.ptr g.sC.len g.sC.cap, .slice sw.ptr sw.len sw.cap, .slice g.sx.ptr g.sx.len g.sx.cap, .int .i64 turn] :: buf 1 i64c g.sn ns :: buf 1 optc g.sq (g.qp.map qpA) :: many qpR g.qp :: buf 4 cpC g.sC g.cl :: buf 22 mgC sw (g.wl.take i ++ g.wl.drop (i + 1)) :: buf 6 wrC g.sx g.xl :: many xsR g.xl :: poolR g.ps :: L) → K h') :
    nn (some (pt a 0)) fun (a59 : Addr) => ld [.sl] (a59.add 3) h fun (v60 : Sl) => slTo v60 (i : Int) fun (s61 : Sl) => nn (some (pt a 0)) fun (a62 : Addr) => ld [.sl] (a62.add 3) h fun (v63 : Sl) => slFrom 22 v63 (IntKind.i64.wrap ((i : Int) + 1)) fun (s64 : Sl) => al T [] h fun (a65 : Addr) (h66 : Heap) => cellsAre h66 (a59.add 3) [.slice v60.ptr v60.len v60.cap] ∧ cellsAre h66 (a62.add 3) [.slice v63.ptr v63.len v63.cap] ∧ app T 22 208 (.agg #[.int .i64 0, .int .i64 0, .int .i64 0, .int .i64 0, .int .u64 0, .int .u64 0, .int .u64 0, .int .u64 0, .int .i64 0, .int .u64 0, .slice none 0 0, .int .i64 0, .int .u64 0, .string (⟨#[]⟩ : ByteArray), .string (⟨#[]⟩ : ByteArray), .int .u64 0, .int .u64 0, .int .u64 0, .int .i64 0, .int .i64 0, .int .i64 0, .int .i64 0]) ⟨(some a65), 0, 0⟩ s61.ptr s61.len h66 fun (s67 : Sl) (h68 : Heap) => cellsAre h68 (a62.add 3) [.slice v63.ptr v63.len v63.cap] ∧ app T 22 208 (.agg #[.int .i64 0, .int .i64 0, .int .i64 0, .int .i64 0, .int .u64 0, .int .u64 0, .int .u64 0, .int .u64 0, .int .i64 0, .int .u64 0, .slice none 0 0, .int .i64 0, .int .u64 0, .string (⟨#[]⟩ : ByteArray), .string (⟨#[]⟩ : ByteArray), .int .u64 0, .int .u64 0, .int .u64 0, .int .i64 0, .int .i64 0, .int .i64 0, .int .i64 0]) s67 s64.ptr s64.len h68 fun (s69 : Sl) (h70 : Heap) => nn (some (pt a 0)) fun (a71 : Addr) => st (a71.add 3) [.slice s69.ptr s69.len s69.cap] h70 fun (h72 : Heap) => K h72 := by
  have hz : ((.agg #[.int .i64 0, .int .i64 0, .int .i64 0, .int .i64 0, .int .u64 0, .int .u64 0, .int .u64 0, .int .u64 0, .int .i64 0, .int .u64 0, .slice none 0 0, .int .i64 0, .int .u64 0, .string (⟨#[]⟩ : ByteArray), .string (⟨#[]⟩ : ByteArray), .int .u64 0, .int .u64 0, .int .u64 0, .int .i64 0, .int .i64 0, .int .i64 0, .int .i64 0]) : Value).cells.size = 22 := by simp [Value.cells]
  have hv := O.view 5 mgC_len (by simp) rfl
  have hlen := hv.1.len
  refine ⟨_, rfl, ?_⟩
  refine O.ld 0 rfl (ldL_c (k := .sl) (x := g.sw) (ldL_n ?_))
  refine ⟨by omega, by have := hv.2; omega, ?_⟩
  refine ⟨_, rfl, ?_⟩
  refine O.ld 0 rfl (ldL_c (k := .sl) (x := g.sw) (ldL_n ?_))
  rw [wrap64 (by omega) (by omega)]
  refine ⟨by omega, by omega, ?_⟩
  refine O.al fun c h O => ?_
  simp only [Int.toNat_natCast, show ((i : Int) + 1).toNat = i + 1 by omega]
  refine O.ca 1 1 rfl ?_
  refine O.ca 1 1 rfl ?_
  have O := (O.own_buf (k := 0) (sz := 22) (enc := mgC) (xs := []) (sp := []) rfl).bufsI
  have hv := O.view 6 mgC_len (by simp) rfl
  have v1 := hv.1.take i g.sw.cap (by omega)
  have el1 : (g.wl.take i).length = i := by rw [List.length_take]; omega
  refine O.app_buf mgC_len mgC_one hz (ys := g.wl.take i) el1.symm (v1.rd mgC_len) (by simp only [List.length_nil]; omega) fun s2 h O _ => ?_
  rw [List.nil_append] at O
  refine O.ca 1 1 rfl ?_
  have hv := O.view 6 mgC_len (by simp) rfl
  have v2 := hv.1.slice (i + 1) g.wl.length (g.sw.cap - (i + 1)) (by omega) (by omega) hv.2
  have el2 : ((g.wl.drop (i + 1)).take (g.wl.length - (i + 1))) = g.wl.drop (i + 1) := List.take_of_length_le (by rw [List.length_drop]; omega)
  rw [el2] at v2
  have r2 := v2.rd mgC_len
  refine O.app_buf mgC_len mgC_one hz (ys := g.wl.drop (i + 1)) (by rw [List.length_drop, hlen]) (by rw [hlen]; exact r2) (by rw [List.length_take, List.length_drop]; omega) fun s3 h O _ => ?_
  refine ⟨_, rfl, ?_⟩
  refine st_ad (b := a) (o := 3) rfl ?_
  refine O.st 1 rfl (by simp) rfl fun h O => ?_
  dsimp only [V.put, List.set] at O
  exact k s3 _ (O.sel [1, 2, 3, 4, 5, 0, 7, 8, 9] 10 rfl (Nat.le_add_left _ _))
theorem q_out {p r : Nat} {q : QS} (hr : g.qp[p]? = some (r, q)) (O : Sat h0 h (own a [.slice g.sn.ptr g.sn.len g.sn.cap, .slice g.sq.ptr g.sq.len g.sq.cap, .slice g.sC.ptr g.sC.len g.sC.cap, .slice g.sw.ptr g.sw.len g.sw.cap, .slice g.sx.ptr g.sx.len g.sx.cap, .int .i64 turn] :: buf 1 i64c g.sn ns :: buf 1 optc g.sq (g.qp.map qpA) :: many qpR g.qp :: buf 4 cpC g.sC g.cl :: buf 22 mgC g.sw g.wl :: buf 6 wrC g.sx g.xl :: many xsR g.xl :: poolR g.ps :: L)) : Sat h0 h (quR r q :: hole qpR g.qp p :: own a [.slice g.sn.ptr g.sn.len g.sn.cap, .slice g.sq.ptr g.sq.len g.sq.cap, .slice g.sC.ptr g.sC.len g.sC.cap, .slice g.sw.ptr g.sw.len g.sw.cap, .slice g.sx.ptr g.sx.len g.sx.cap, .int .i64 turn] :: buf 1 i64c g.sn ns :: buf 1 optc g.sq (g.qp.map qpA) :: buf 4 cpC g.sC g.cl :: buf 22 mgC g.sw g.wl :: buf 6 wrC g.sx g.xl :: many xsR g.xl :: poolR g.ps :: L) :=
  (O.sel [3, 0, 1, 2, 4, 5, 6, 7, 8] 9 rfl (Nat.le_add_left _ _)).take p hr
theorem q_in {p r : Nat} {q q2 : QS} (gk : GOk g w) (hr : g.qp[p]? = some (r, q)) (ht : turn = w.turn) (hn : ns = w.β.ns) (O : Sat h0 h (quR r q2 :: hole qpR g.qp p :: own a [.slice g.sn.ptr g.sn.len g.sn.cap, .slice g.sq.ptr g.sq.len g.sq.cap, .slice g.sC.ptr g.sC.len g.sC.cap, .slice g.sw.ptr g.sw.len g.sw.cap, .slice g.sx.ptr g.sx.len g.sx.cap, .int .i64 turn] :: buf 1 i64c g.sn ns :: buf 1 optc g.sq (g.qp.map qpA) :: buf 4 cpC g.sC g.cl :: buf 22 mgC g.sw g.wl :: buf 6 wrC g.sx g.xl :: many xsR g.xl :: poolR g.ps :: L)) : Sat h0 h (worldR a { w with qs := w.qs.set p q2 } :: L) := by
  have O : Sat h0 h (qpR (r, q2) :: hole qpR g.qp p :: own a [.slice g.sn.ptr g.sn.len g.sn.cap, .slice g.sq.ptr g.sq.len g.sq.cap, .slice g.sC.ptr g.sC.len g.sC.cap, .slice g.sw.ptr g.sw.len g.sw.cap, .slice g.sx.ptr g.sx.len g.sx.cap, .int .i64 turn] :: buf 1 i64c g.sn ns :: buf 1 optc g.sq (g.qp.map qpA) :: buf 4 cpC g.sC g.cl :: buf 22 mgC g.sw g.wl :: buf 6 wrC g.sx g.xl :: many xsR g.xl :: poolR g.ps :: L) := O
  have O3 := O.give (List.getElem?_eq_some_iff.1 hr).1
  have hqpA : (g.qp.set p (r, q2)).map qpA = g.qp.map qpA := by
    rw [List.map_set]
    refine set_same ?_
    rw [List.getElem?_map, hr]
    rfl
  rw [← hqpA] at O3
  refine Sat.wldI (turn := turn) (ns := ns) { w with qs := w.qs.set p q2 } { g with qp := g.qp.set p (r, q2) } ⟨?_, gk.gc, gk.gw, gk.gx, gk.pc, gk.pw, gk.px⟩ ht hn (O3.sel [1, 2, 3, 0, 4, 5, 6, 7, 8] 9 rfl (Nat.le_add_left _ _))
  show (g.qp.set p (r, q2)).map (·.2) = w.qs.set p q2
  rw [List.map_set, gk.gq]
theorem value_o {Q : Sl → Heap → Prop} (ht : 0 ≤ turn ∧ turn ≤ 1000000) (O : Sat h0 h (own a [.slice g.sn.ptr g.sn.len g.sn.cap, .slice g.sq.ptr g.sq.len g.sq.cap, .slice g.sC.ptr g.sC.len g.sC.cap, .slice g.sw.ptr g.sw.len g.sw.cap, .slice g.sx.ptr g.sx.len g.sx.cap, .int .i64 turn] :: buf 1 i64c g.sn ns :: buf 1 optc g.sq (g.qp.map qpA) :: many qpR g.qp :: buf 4 cpC g.sC g.cl :: buf 22 mgC g.sw g.wl :: buf 6 wrC g.sx g.xl :: many xsR g.xl :: poolR g.ps :: L)) (k : ∀ s h', Sat h0 h' (own a [.slice g.sn.ptr g.sn.len g.sn.cap, .slice g.sq.ptr g.sq.len g.sq.cap, .slice g.sC.ptr g.sC.len g.sC.cap, .slice g.sw.ptr g.sw.len g.sw.cap, .slice g.sx.ptr g.sx.len g.sx.cap, .int .i64 (turn + 1)] :: buf 1 i64c g.sn ns :: buf 1 optc g.sq (g.qp.map qpA) :: many qpR g.qp :: buf 4 cpC g.sC g.cl :: buf 22 mgC g.sw g.wl :: buf 6 wrC g.sx g.xl :: many xsR g.xl :: poolR g.ps :: buf 1 u8 s (valB (turn + 1)) :: L) → Q s h') : F_law10_World_value (some (pt a 0)) h Q := by
  rw [F_law10_World_value.eq_1, F_law10_World_value_of.eq_1]
  refine ⟨_, rfl, ?_⟩
  refine O.ld 0 rfl (ldL_c (ldL_n ?_))
  refine ⟨_, rfl, ?_⟩
  refine st_ad (b := a) (o := 5) rfl ?_
  refine O.st 0 rfl (by simp) rfl fun h O => ?_
  dsimp only [V.put, List.set] at O
  rw [wrap64 (by omega) (by omega)] at O
  refine ⟨_, rfl, ?_⟩
  refine O.ld 0 rfl (ldL_c (ldL_n ?_))
  refine ⟨_, rfl, ?_⟩
  refine O.ld 0 rfl (ldL_c (ldL_n ?_))
  refine ⟨by decide, ?_⟩
  refine O.al fun a10 h O => ?_
  have e2 : (turn + 1).fdiv (2 ^ min (8 : Int).toNat IntKind.i64.bits) = (((turn + 1).toNat / 256 : Nat) : Int) := by
    rw [show (2 : Int) ^ min (8 : Int).toNat IntKind.i64.bits = 256 from rfl, Int.fdiv_eq_ediv_of_nonneg _ (by omega)]
    omega
  have e1 : IntKind.u8.wrap (turn + 1) = ((UInt8.ofNat (turn + 1).toNat).toNat : Int) := by
    rw [← wrap8W]
    congr 1
    omega
  rw [e2, e1, wrap8W] at O
  have O : Sat h0 h (own a10 ((valB (turn + 1)).flatMap u8 ++ []) :: _) := O
  have O := (O.own_buf (k := 0) (sz := 1) rfl).bufsI
  exact k _ _ (O.sel [1, 2, 3, 4, 5, 6, 7, 8, 9, 0] 10 rfl (Nat.le_add_left _ _))
set_option maxRecDepth 20000 in
theorem F_law10_World_step.is {kind place at_ : Int} {Q : Bool → Heap → Prop} (o : WOk w k0) (hk0 : k0 ≤ 8000) (O : Sat h0 h (worldR a w :: L)) (k : ∀ w2 h', WOk w2 (k0 + 1) → StepTo w kind place at_ w2 → Sat h0 h' (worldR a w2 :: L) → Q true h') : F_law10_World_step (some (pt a 0)) kind place at_ h Q := by
  rw [F_law10_World_step.eq_1, F_law10_World_step_of.eq_1]
  have B := o.B
  have n1 := B.n1
  have n7 := B.n7
  have hql := o.ql
  have hcl := B.cl
  have hwl := o.wl
  have hxl := o.xl
  have htn := o.t
  refine O.al fun a5 h O => ?_
  have Oc : Sat h0 h (worldR a w :: own a5 [.int .i64 kind, .int .i64 place, .int .i64 at_] :: L) := O.swap
  obtain ⟨g, gk, O⟩ := Oc.wld
  have O := O w.turn rfl
  have O : Sat h0 h (own a [.slice g.sn.ptr g.sn.len g.sn.cap, .slice g.sq.ptr g.sq.len g.sq.cap, .slice g.sC.ptr g.sC.len g.sC.cap, .slice g.sw.ptr g.sw.len g.sw.cap, .slice g.sx.ptr g.sx.len g.sx.cap, .int .i64 w.turn] :: buf 1 i64c g.sn w.β.ns :: buf 1 optc g.sq (g.qp.map qpA) :: many qpR g.qp :: buf 4 cpC g.sC g.cl :: buf 22 mgC g.sw g.wl :: buf 6 wrC g.sx g.xl :: many xsR g.xl :: poolR g.ps :: own a5 [.int .i64 kind, .int .i64 place, .int .i64 at_] :: L) := O
  have gwl : g.wl.length = w.way.length := by have := congrArg List.length gk.gw; rw [List.length_map] at this; exact this
  have hsl : g.sn.len = w.β.ns.length := (O.view 1 i64c_len (by simp) rfl).1.len
  have hsw : g.sw.len = w.way.length := by rw [(O.view 5 mgC_len (by simp) rfl).1.len, gwl]
  refine O.ld 9 rfl (ldL_c (ldL_n ?_))
  refine ⟨_, rfl, ?_⟩
  refine O.ld 0 rfl (ldL_c (k := .sl) (x := g.sn) (ldL_n ?_))
  rw [hsl]
  refine F_law10_into.is (by omega) (by omega) ?_
  have m0 := Int.emod_nonneg place (show ((w.β.ns.length : Nat) : Int) ≠ 0 by omega)
  have m1 := Int.emod_lt_of_pos place (show (0 : Int) < ((w.β.ns.length : Nat) : Int) by omega)
  obtain ⟨p, hp⟩ : ∃ p : Nat, place % ((w.β.ns.length : Nat) : Int) = (p : Int) := ⟨(place % ((w.β.ns.length : Nat) : Int)).toNat, by omega⟩
  have hp0 : place = 0 → p = 0 := fun h => by rw [h] at hp; simp at hp; omega
  rw [hp]
  obtain ⟨q, hq⟩ : ∃ q, w.qs[p]? = some q := ⟨_, List.getElem?_eq_getElem (by omega)⟩
  obtain ⟨c, hc⟩ : ∃ c, w.β.cs[p]? = some c := ⟨_, List.getElem?_eq_getElem (by omega)⟩
  have oq := o.q p q hq
  obtain ⟨r, hr⟩ := qp_at gk hq
  have hqa : (g.qp.map qpA)[p]? = some (some (pt r 0)) := by rw [List.getElem?_map, hr]; rfl
  refine ⟨_, rfl, ?_⟩
  refine O.ld 0 rfl (ldL_c (k := .sl) (x := g.sw) (ldL_n ?_))
  rw [hsw]
  refine jn1 (fun (x : Int) h' => h = h' ∧ (0 < w.way.length → ∃ i : Nat, x = (i : Int) ∧ i < w.way.length ∧ (at_ = 0 → i = 0))) ?_ ?_
  case refine_2 =>
    intro j hj
    refine brr_p (fun hlt => ?_) (fun hlt => hj _ _ ⟨rfl, fun h => by omega⟩)
    refine O.ld 9 rfl (ldL_c (ldL_n ?_))
    refine ⟨_, rfl, ?_⟩
    refine O.ld 0 rfl (ldL_c (k := .sl) (x := g.sw) (ldL_n ?_))
    rw [hsw]
    refine F_law10_into.is (by omega) (by omega) ?_
    have a0 := Int.emod_nonneg at_ (show ((w.way.length : Nat) : Int) ≠ 0 by omega)
    have a1 := Int.emod_lt_of_pos at_ (show (0 : Int) < ((w.way.length : Nat) : Int) by omega)
    refine hj _ _ ⟨rfl, fun _ => ⟨(at_ % ((w.way.length : Nat) : Int)).toNat, by omega, by omega, fun h => by rw [h]; simp⟩⟩
  rintro x h' ⟨rfl, hx⟩
  refine O.ld 9 rfl (ldL_c (ldL_n ?_))
  refine jn2 (fun (pp : Int) ok h' => ok = true ∧ ∃ (p2 : Nat) (w2 : WD), pp = (p2 : Int) ∧ p2 < w2.qs.length ∧ WOk w2 (k0 + 1) ∧ StepTo w kind place at_ w2 ∧ Sat h0 h' (worldR a w2 :: own a5 [.int .i64 kind, .int .i64 place, .int .i64 at_] :: L)) ?_ ?_
  · clear O Oc
    rintro pp ok h ⟨rfl, p2, w2, rfl, hp2, o2, s2, O⟩
    obtain ⟨q2, hq2⟩ : ∃ q2, w2.qs[p2]? = some q2 := ⟨_, List.getElem?_eq_getElem hp2⟩
    have hx2 := o2.xl
    refine jn1 (fun z h' => z = true ∧ Sat h0 h' (worldR a w2 :: L)) (fun z h' hh => by obtain ⟨rfl, O⟩ := hh; exact k w2 _ o2 s2 O) fun j hj => ?_
    refine brr_tt rfl ?_
    exact F_law10_World_told.is o2.B hq2 (o2.q p2 q2 hq2) (by omega) O fun h O => hj _ _ ⟨rfl, O.sel [0] 2 rfl (Nat.le_add_left _ _)⟩
  intro j23 hj23
  have nos : ∀ {w2 : WD}, kind ≠ 2 → kind ≠ 5 → kind ≠ 6 → StepTo w kind place at_ w2 := fun h1 h2 h3 => ⟨fun h => absurd h h1, fun h => absurd h h2, fun h => absurd h h3⟩
  refine brr_eq (fun k1 => ?_) (fun k1 => ?_)
  · refine O.ld 9 rfl (ldL_c (ldL_n ?_))
    refine F_law10_World_starts.is o hk0 hq hc Oc fun e h g1 g2 g3 O => ?_
    have ok2 := (start_ok o hq hc g1 g3 g2).2
    have hlen : p < (({ w with β := raiseB w.β p c e } : WD).act p (q.start e c.te c.ts c.b 3).1 (q.start e c.te c.ts c.b 3).2 (decide (w.β.ns.length = 1))).qs.length := by
      show p < (w.qs.set p _).length
      rw [List.length_set]; omega
    exact hj23 _ _ _ ⟨rfl, p, _, rfl, hlen, ok2, nos (by omega) (by omega) (by omega), O⟩
  refine jn_go ?_
  refine brr_eq (fun k2 => ?_) (fun k2 => ?_)
  · refine ⟨_, rfl, ?_⟩
    refine O.ld 0 rfl (ldL_c (k := .sl) (x := g.sw) (ldL_n ?_))
    rw [hsw]
    refine jn_go ?_
    refine brr_p (fun hlt => ?_) (fun hlt => ?_)
    case refine_2 =>
      exact hj23 _ _ _ ⟨rfl, p, w, rfl, by omega, more_ok o, ⟨fun _ _ m rest e => by rw [e] at hlt; simp at hlt, fun h => by omega, fun h => by omega⟩, Oc⟩
    obtain ⟨i, rfl, hi, hi0⟩ := hx (by omega)
    obtain ⟨x, hxw⟩ : ∃ x, g.wl[i]? = some x := ⟨_, List.getElem?_eq_getElem (by omega)⟩
    have hxb : w.way[i]? = some x.bare := by rw [← gk.gw, List.getElem?_map, hxw]; rfl
    have mo : MOk w.β (20 * (k0 : Int)) x := by
      have := o.m x.bare (List.mem_of_getElem? hxb)
      exact ⟨this.f, this.t, this.s, this.b, this.k1, this.k2, this.k4, this.k5, this.k6⟩
    refine ⟨_, rfl, ?_⟩
    refine O.ld 0 rfl (ldL_c (k := .sl) (x := g.sw) (ldL_n ?_))
    refine (O.view 5 mgC_len (by simp) rfl).1.getP (x := x) (by omega) (by rw [Int.toNat_natCast]; exact hxw) fun b hb => ld_are (hb (O.view 5 mgC_len (by simp) rfl).1) ?_
    unfold mgC
    repeat (first | (with_reducible refine ldL_n ?_) | refine ldL_s ?_ | refine ldL_c ?_)
    refine O.al fun a56 h O => ?_
    refine O.st 0 rfl (by simp) rfl fun h O => ?_
    dsimp only [V.put, List.set] at O
    have O : Sat h0 h (own a [.slice g.sn.ptr g.sn.len g.sn.cap, .slice g.sq.ptr g.sq.len g.sq.cap, .slice g.sC.ptr g.sC.len g.sC.cap, .slice g.sw.ptr g.sw.len g.sw.cap, .slice g.sx.ptr g.sx.len g.sx.cap, .int .i64 w.turn] :: buf 1 i64c g.sn w.β.ns :: buf 1 optc g.sq (g.qp.map qpA) :: many qpR g.qp :: buf 4 cpC g.sC g.cl :: buf 22 mgC g.sw g.wl :: buf 6 wrC g.sx g.xl :: many xsR g.xl :: poolR g.ps :: own a56 (mgC x) :: own a5 [.int .i64 kind, .int .i64 place, .int .i64 at_] :: L) := O.sel [1, 2, 3, 4, 5, 6, 7, 8, 9, 0, 10] 11 rfl (Nat.le_add_left _ _)
    refine cut_way (by omega) (by omega) O fun sw h O => ?_
    refine O.ld 9 rfl (ldL_c (ldL_n ?_))
    obtain ⟨g2, hg2⟩ : ∃ g2 : GW, g2 = { g with sw := sw, wl := g.wl.take i ++ g.wl.drop (i + 1) } := ⟨_, rfl⟩
    obtain ⟨w1, hw1⟩ : ∃ w1 : WD, w1 = { w with way := w.way.take i ++ w.way.drop (i + 1) } := ⟨_, rfl⟩
    have gk2 : GOk g2 w1 := by
      subst hg2 hw1
      refine ⟨gk.gq, gk.gc, ?_, gk.gx, gk.pc, fun y hy => ?_, gk.px⟩
      · show (g.wl.take i ++ g.wl.drop (i + 1)).map Mg.bare = w.way.take i ++ w.way.drop (i + 1)
        rw [List.map_append, List.map_take, List.map_drop, gk.gw]
      · rcases List.mem_append.1 hy with h | h
        · exact gk.pw y (List.mem_of_mem_take h)
        · exact gk.pw y (List.mem_of_mem_drop h)
    have o1 : WOk w1 k0 := by
      subst hw1
      refine way_ok o (fun m hm => ?_) (by rw [List.length_append, List.length_take, List.length_drop]; omega)
      rcases List.mem_append.1 hm with h | h
      · exact List.mem_of_mem_take h
      · exact List.mem_of_mem_drop h
    have w1b : w1.β = w.β ∧ w1.qs = w.qs ∧ w1.turn = w.turn := by subst hw1; exact ⟨rfl, rfl, rfl⟩
    have pin : (x.v, x.b) ∈ g2.ps := by subst hg2; exact gk.pw x (List.mem_of_getElem? hxw)
    have O : Sat h0 h (own a [.slice g2.sn.ptr g2.sn.len g2.sn.cap, .slice g2.sq.ptr g2.sq.len g2.sq.cap, .slice g2.sC.ptr g2.sC.len g2.sC.cap, .slice g2.sw.ptr g2.sw.len g2.sw.cap, .slice g2.sx.ptr g2.sx.len g2.sx.cap, .int .i64 w1.turn] :: buf 1 i64c g2.sn w1.β.ns :: buf 1 optc g2.sq (g2.qp.map qpA) :: many qpR g2.qp :: buf 4 cpC g2.sC g2.cl :: buf 22 mgC g2.sw g2.wl :: buf 6 wrC g2.sx g2.xl :: many xsR g2.xl :: poolR g2.ps :: own a56 (mgC x) :: own a5 [.int .i64 kind, .int .i64 place, .int .i64 at_] :: L) := by
      rw [w1b.1, w1b.2.2]
      subst hg2
      exact O
    refine F_law10_World_place.is (g := g2) (turn := w1.turn) (ns := w1.β.ns) O (by rw [w1b.1]; omega) (by rw [w1b.1]; exact mo.t) fun i2 hi2 => ?_
    refine O.ld 9 rfl ?_
    unfold mgC
    repeat (first | (with_reducible refine ldL_n ?_) | refine ldL_s ?_ | refine ldL_c ?_)
    have hi2l := (List.getElem?_eq_some_iff.1 hi2).1
    have rest : ∀ m rest, w.way = m :: rest → at_ = 0 → m = x.bare ∧ w1 = { w with way := rest } := by
      intro m rest e h
      have hi00 := hi0 h
      subst hi00
      rw [e] at hxb hw1
      refine ⟨Option.some.inj hxb, ?_⟩
      rw [hw1]
      simp
    have hkey : ∀ {h : Heap} {w2 : WD}, WOk w2 (k0 + 1) → StepTo w kind place at_ w2 → w2.β.ns.length = w.β.ns.length → Sat h0 h (worldR a w2 :: own a56 (mgC x) :: own a5 [.int .i64 kind, .int .i64 place, .int .i64 at_] :: L) → j23 (i2 : Int) true h := by
      intro h w2 o2 s2 hn O
      refine hj23 _ _ _ ⟨rfl, i2, w2, rfl, ?_, o2, s2, O.sel [0, 2] 3 rfl (Nat.le_add_left _ _)⟩
      rw [o2.ql, hn, ← w1b.1]
      exact hi2l
    refine F_law10_World_hears.is (m := x) o1 hk0 gk2 (by rw [w1b.1]; exact mo) pin O (fun i3 c3 h h1 h2 h3 O => ?_) (fun p3 q3 h h1 h2 h3 O => ?_)
    · have o2 := hearC_ok (m := x) o1 h1 h2 (by rw [w1b.1]; exact mo) h3
      refine hkey o2 ⟨fun _ ha m rest1 e => ?_, fun h => by omega, fun h => by omega⟩ ?_ O
      · obtain ⟨e1, e2⟩ := rest m rest1 e ha
        subst e1
        refine .inl ⟨i3, c3, by rw [← w1b.1]; exact h1, by rw [← w1b.1]; exact h2, h3, ?_⟩
        rw [← e2]
        rfl
      · have : (w1.hearC i3 c3 x).β.ns = w1.β.ns := by
          unfold WD.hearC
          split
          · rfl
          split
          · rfl
          split
          · rfl
          · rfl
        rw [this, w1b.1]
    · have o2 := (hear_ok (m := x) o1 h2 (by rw [w1b.1]; exact mo)).2.1
      refine hkey o2 ⟨fun _ ha m rest1 e => ?_, fun h => by omega, fun h => by omega⟩ ?_ O
      · obtain ⟨e1, e2⟩ := rest m rest1 e ha
        subst e1
        refine .inr ⟨p3, q3, by rw [← w1b.1]; exact h1, by rw [← w1b.2.1]; exact h2, h3, ?_⟩
        rw [← e2]
        rfl
      · have : (w1.act p3 (q3.hear x 3).1 (q3.hear x 3).2 (!(q3.hear x 3).2.isEmpty)).β.ns = w1.β.ns := by
          show (actB w1.β _ _).ns = _
          unfold actB
          split <;> rfl
        rw [this, w1b.1]
  refine jn_go ?_
  refine brr_eq (fun k3 => ?_) (fun k3 => ?_)
  · refine ⟨_, rfl, ?_⟩
    refine O.ld 0 rfl (ldL_c (k := .sl) (x := g.sw) (ldL_n ?_))
    rw [hsw]
    refine jn_go ?_
    refine brr_p (fun hlt => ?_) (fun hlt => ?_)
    case refine_2 =>
      exact hj23 _ _ _ ⟨rfl, p, w, rfl, by omega, more_ok o, nos (by omega) (by omega) (by omega), Oc⟩
    obtain ⟨i, rfl, hi, hi0⟩ := hx (by omega)
    refine cut_way (by omega) (by omega) O fun sw h O => ?_
    refine hj23 _ _ _ ⟨rfl, p, { w with way := w.way.take i ++ w.way.drop (i + 1) }, rfl, by show p < w.qs.length; omega, more_ok (way_ok o (fun m hm => ?_) (by rw [List.length_append, List.length_take, List.length_drop]; omega)), nos (by omega) (by omega) (by omega), ?_⟩
    · rcases List.mem_append.1 hm with h | h
      · exact List.mem_of_mem_take h
      · exact List.mem_of_mem_drop h
    · refine Sat.wldI (turn := w.turn) (ns := w.β.ns) _ { g with sw := sw, wl := g.wl.take i ++ g.wl.drop (i + 1) } ⟨gk.gq, gk.gc, ?_, gk.gx, gk.pc, fun y hy => ?_, gk.px⟩ rfl rfl O
      · show (g.wl.take i ++ g.wl.drop (i + 1)).map Mg.bare = w.way.take i ++ w.way.drop (i + 1)
        rw [List.map_append, List.map_take, List.map_drop, gk.gw]
      · rcases List.mem_append.1 hy with h | h
        · exact gk.pw y (List.mem_of_mem_take h)
        · exact gk.pw y (List.mem_of_mem_drop h)
  refine jn_go ?_
  refine brr_eq (fun k4 => ?_) (fun k4 => ?_)
  · refine ⟨_, rfl, ?_⟩
    refine O.ld 0 rfl (ldL_c (k := .sl) (x := g.sw) (ldL_n ?_))
    rw [hsw]
    refine jn_go ?_
    refine brr_p (fun hlt => ?_) (fun hlt => ?_)
    case refine_2 =>
      exact hj23 _ _ _ ⟨rfl, p, w, rfl, by omega, more_ok o, nos (by omega) (by omega) (by omega), Oc⟩
    obtain ⟨i, rfl, hi, hi0⟩ := hx (by omega)
    obtain ⟨x, hxw⟩ : ∃ x, g.wl[i]? = some x := ⟨_, List.getElem?_eq_getElem (by omega)⟩
    have hxb : w.way[i]? = some x.bare := by rw [← gk.gw, List.getElem?_map, hxw]; rfl
    have hxm := List.mem_of_getElem? hxb
    have mob := (o.m x.bare hxm).b
    have mob : x.b.length ≤ (140737488355325 : Nat) := mob
    refine ⟨_, rfl, ?_⟩
    refine O.ld 0 rfl (ldL_c (k := .sl) (x := g.sw) (ldL_n ?_))
    refine ⟨_, rfl, ?_⟩
    refine O.ld 0 rfl (ldL_c (k := .sl) (x := g.sw) (ldL_n ?_))
    refine (O.view 5 mgC_len (by simp) rfl).1.getP (x := x) (by omega) (by rw [Int.toNat_natCast]; exact hxw) fun b hb => ld_are (hb (O.view 5 mgC_len (by simp) rfl).1) ?_
    unfold mgC
    repeat (first | (with_reducible refine ldL_n ?_) | refine ldL_s ?_ | refine ldL_c ?_)
    refine F_ref0_CopyMsg.is (m := x) O (fun h O => pool_view O 8 (by simp) rfl (gk.pw x (List.mem_of_getElem? hxw))) mob fun sv h O => ?_
    refine O.ca 1 1 rfl ?_
    refine O.al fun a176 h O => ?_
    refine O.ca 2 1 rfl ?_
    have O2 := pool_take (O.sel [1, 10, 0, 2, 3, 4, 5, 6, 7, 8, 9, 11] 12 rfl (Nat.le_add_left _ _))
    have O3 : Sat h0 h (own a176 (mgC { x with v := sv }) :: own a [.slice g.sn.ptr g.sn.len g.sn.cap, .slice g.sq.ptr g.sq.len g.sq.cap, .slice g.sC.ptr g.sC.len g.sC.cap, .slice g.sw.ptr g.sw.len g.sw.cap, .slice g.sx.ptr g.sx.len g.sx.cap, .int .i64 w.turn] :: buf 1 i64c g.sn w.β.ns :: buf 1 optc g.sq (g.qp.map qpA) :: many qpR g.qp :: buf 4 cpC g.sC g.cl :: buf 22 mgC g.sw g.wl :: buf 6 wrC g.sx g.xl :: many xsR g.xl :: poolR (g.ps ++ [(sv, x.b)]) :: own a5 [.int .i64 kind, .int .i64 place, .int .i64 at_] :: L) := O2.sel [1, 2, 3, 4, 5, 6, 7, 8, 9, 0, 10] 11 rfl (Nat.le_add_left _ _)
    refine way_more (Q := fun h => j23 (p : Int) true h) (z := (.agg #[.int .i64 0, .int .i64 0, .int .i64 0, .int .i64 0, .int .u64 0, .int .u64 0, .int .u64 0, .int .u64 0, .int .i64 0, .int .u64 0, .slice none 0 0, .int .i64 0, .int .u64 0, .string (⟨#[]⟩ : ByteArray), .string (⟨#[]⟩ : ByteArray), .int .u64 0, .int .u64 0, .int .u64 0, .int .i64 0, .int .i64 0, .int .i64 0, .int .i64 0])) (g := { g with ps := g.ps ++ [(sv, x.b)] }) (x := { x with v := sv }) (β := w.β) (qs := w.qs) (way := w.way) (turn := w.turn) ⟨gk.gq, gk.gc, gk.gw, gk.gx, fun z hz => List.mem_append.2 (.inl (gk.pc z hz)), fun z hz => List.mem_append.2 (.inl (gk.pw z hz)), fun z hz => List.mem_append.2 (.inl (gk.px z hz))⟩ (List.mem_append.2 (.inr (List.mem_singleton.2 rfl))) (by show g.wl.length ≤ _; omega) (by simp [Value.cells]) O3 fun h O => ?_
    have e20 : 20 * ((k0 + 1 : Nat) : Int) = 20 * (k0 : Int) + 20 := by omega
    have ok2 : WOk ⟨w.β, w.qs, w.way ++ [x.bare], w.turn⟩ (k0 + 1) := base_ok (ms := [x.bare]) o (Ext.refl _) (bok_E B (by omega)) (fun y hy => ⟨y, hy, rfl⟩) (by omega) (fun y hy => by rw [List.mem_singleton.1 hy]; exact (Ext.refl _).mm (o.m _ hxm) (by omega)) (by simp)
    exact hj23 _ _ _ ⟨rfl, p, _, rfl, by show p < w.qs.length; omega, ok2, nos (by omega) (by omega) (by omega), O⟩
  refine jn_go ?_
  refine brr_eq (fun k5 => ?_) (fun k5 => ?_)
  · refine ⟨_, rfl, ?_⟩
    refine O.ld 0 rfl (ldL_c (k := .sl) (x := g.sq) (ldL_n ?_))
    refine (O.view 2 optc_len (by simp) rfl).1.getP (x := some (pt r 0)) (by omega) (by rw [Int.toNat_natCast]; exact hqa) fun b hb => ?_
    refine ld_are (hb (O.view 2 optc_len (by simp) rfl).1) (ldL_c (k := .ptr) (x := some (pt r 0)) (ldL_n ?_))
    refine value_o (by omega) O fun s h O => ?_
    refine O.ca 0 1 rfl ?_
    refine ⟨hb (O.view 2 optc_len (by simp) rfl).1, ?_⟩
    obtain ⟨w1, hw1⟩ : ∃ w1 : WD, w1 = { w with turn := w.turn + 1 } := ⟨_, rfl⟩
    have gk1 : GOk g w1 := by subst hw1; exact ⟨gk.gq, gk.gc, gk.gw, gk.gx, gk.pc, gk.pw, gk.px⟩
    have vb : (valB (w.turn + 1)).length ≤ (140737488355325 : Nat) := by show (3 : Nat) ≤ _; decide
    obtain ⟨so, ok2, hnd⟩ := propose_ok (b := valB (w.turn + 1)) o hq vb
    have ok3 : WOk (w1.act p (q.propose (valB (w.turn + 1)) 3).1 (q.propose (valB (w.turn + 1)) 3).2.1 (q.propose (valB (w.turn + 1)) 3).2.2) (k0 + 1) := by
      have := turn_ok (tn := w.turn + 1) ok2 (by omega)
      subst hw1
      exact this
    have O2 := q_out hr O
    refine F_quorum_Quorum_Propose.is oq.iv.ok vb (fun h O => (O.view 9 u8_len (by simp) rfl).1) O2 fun s2 h O => ?_
    have O3 : Sat h0 h (quR r (q.propose (valB (w.turn + 1)) 3).1 :: hole qpR g.qp p :: own a [.slice g.sn.ptr g.sn.len g.sn.cap, .slice g.sq.ptr g.sq.len g.sq.cap, .slice g.sC.ptr g.sC.len g.sC.cap, .slice g.sw.ptr g.sw.len g.sw.cap, .slice g.sx.ptr g.sx.len g.sx.cap, .int .i64 (w.turn + 1)] :: buf 1 i64c g.sn w.β.ns :: buf 1 optc g.sq (g.qp.map qpA) :: buf 4 cpC g.sC g.cl :: buf 22 mgC g.sw g.wl :: buf 6 wrC g.sx g.xl :: many xsR g.xl :: poolR g.ps :: msgsR s2 (q.propose (valB (w.turn + 1)) 3).2.1 :: own a5 [.int .i64 kind, .int .i64 place, .int .i64 at_] :: L) := O.sel [1, 2, 3, 4, 5, 6, 7, 8, 9, 10, 0, 12] 13 rfl (Nat.le_add_left _ _)
    have O4 := q_in (turn := w.turn + 1) (ns := w.β.ns) (w := w1) gk1 hr (by subst hw1; rfl) (by subst hw1; rfl) O3
    have hw1b : w1.β = w.β ∧ w1.qs = w.qs ∧ w1.way = w.way ∧ w1.turn = w.turn + 1 := by subst hw1; exact ⟨rfl, rfl, rfl, rfl⟩
    refine F_law10_World_sends.is (β := w.β) (qs := w1.qs.set p (q.propose (valB (w.turn + 1)) 3).1) (way := w.way) (turn := w.turn + 1) (E0 := 20 * (k0 : Int)) (E1 := 20 * ((k0 + 1 : Nat) : Int)) (new := (q.propose (valB (w.turn + 1)) 3).2.2) (by rw [hnd]; exact oq.n) so B ok2.B (by omega) (by omega) (by subst hw1; exact O4.swap) fun h O => ?_
    have hlen : p < w1.qs.length := by rw [hw1b.2.1]; omega
    refine hj23 _ _ _ ⟨rfl, p, w1.act p (q.propose (valB (w.turn + 1)) 3).1 (q.propose (valB (w.turn + 1)) 3).2.1 (q.propose (valB (w.turn + 1)) 3).2.2, rfl, by show p < (w1.qs.set p _).length; rw [List.length_set]; exact hlen, ok3, ⟨fun h => by omega, fun _ h0 => ?_, fun h => by omega⟩, by subst hw1; exact O⟩
    have e := hp0 h0
    subst e
    exact ⟨q, hq, by rw [hw1]⟩
  refine jn_go ?_
  refine brr_eq (fun k6 => ?_) (fun k6 => ?_)
  · refine ⟨_, rfl, ?_⟩
    refine O.ld 0 rfl (ldL_c (k := .sl) (x := g.sq) (ldL_n ?_))
    refine (O.view 2 optc_len (by simp) rfl).1.get1 (k := .ptr) (by omega) (x := some (pt r 0)) (by rw [Int.toNat_natCast]; exact hqa) id (fun _ => rfl) ?_
    obtain ⟨so, ok2, hnd⟩ := tick_ok o hq
    have O2 := q_out hr O
    refine F_quorum_Quorum_Tick.is oq.iv.ok O2 fun s2 h O => ?_
    have O3 : Sat h0 h (quR r (q.tick 3).1 :: hole qpR g.qp p :: own a [.slice g.sn.ptr g.sn.len g.sn.cap, .slice g.sq.ptr g.sq.len g.sq.cap, .slice g.sC.ptr g.sC.len g.sC.cap, .slice g.sw.ptr g.sw.len g.sw.cap, .slice g.sx.ptr g.sx.len g.sx.cap, .int .i64 w.turn] :: buf 1 i64c g.sn w.β.ns :: buf 1 optc g.sq (g.qp.map qpA) :: buf 4 cpC g.sC g.cl :: buf 22 mgC g.sw g.wl :: buf 6 wrC g.sx g.xl :: many xsR g.xl :: poolR g.ps :: msgsR s2 (q.tick 3).2 :: own a5 [.int .i64 kind, .int .i64 place, .int .i64 at_] :: L) := O.sel [1, 2, 3, 4, 5, 6, 7, 8, 9, 10, 0, 11] 12 rfl (Nat.le_add_left _ _)
    have O4 := q_in (turn := w.turn) (ns := w.β.ns) (w := w) gk hr rfl rfl O3
    refine F_law10_World_sends.is (E0 := 20 * (k0 : Int)) (E1 := 20 * ((k0 + 1 : Nat) : Int)) (new := false) (by rw [hnd]; exact oq.n) so B ok2.B (by omega) (by omega) O4.swap fun h O => ?_
    refine hj23 _ _ _ ⟨rfl, p, w.act p (q.tick 3).1 (q.tick 3).2 false, rfl, by show p < (w.qs.set p _).length; rw [List.length_set]; omega, ok2, ⟨fun h => by omega, fun h => by omega, fun _ h0 => ?_⟩, O⟩
    have e := hp0 h0
    subst e
    exact ⟨q, hq, rfl⟩
  refine jn_go ?_
  refine brr_eq (fun k7 => ?_) (fun k7 => ?_)
  · obtain ⟨nd, hnd⟩ : ∃ nd, w.β.ns[p]? = some nd := ⟨_, List.getElem?_eq_getElem (by omega)⟩
    refine ⟨_, rfl, ?_⟩
    refine O.ld 0 rfl (ldL_c (k := .sl) (x := g.sq) (ldL_n ?_))
    refine ⟨_, rfl, ?_⟩
    refine O.ld 0 rfl (ldL_c (k := .sl) (x := g.sn) (ldL_n ?_))
    refine (O.view 1 i64c_len (by simp) rfl).1.i6 (x := nd) (by omega) (by rw [Int.toNat_natCast]; exact hnd) ?_
    refine ⟨_, rfl, ?_⟩
    refine O.ld 0 rfl (ldL_c (k := .sl) (x := g.sn) (ldL_n ?_))
    refine F_quorum_New.is (cop := w.β.ns) (fun h O => (O.view 1 i64c_len (by simp) rfl).1) (by omega) O fun r2 h O => ?_
    refine O.ca 1 1 rfl ?_
    have O2 : Sat h0 h (buf 1 optc g.sq (g.qp.map qpA) :: quR r2 (QS.fresh nd 2 w.β.ns) :: own a [.slice g.sn.ptr g.sn.len g.sn.cap, .slice g.sq.ptr g.sq.len g.sq.cap, .slice g.sC.ptr g.sC.len g.sC.cap, .slice g.sw.ptr g.sw.len g.sw.cap, .slice g.sx.ptr g.sx.len g.sx.cap, .int .i64 w.turn] :: buf 1 i64c g.sn w.β.ns :: many qpR g.qp :: buf 4 cpC g.sC g.cl :: buf 22 mgC g.sw g.wl :: buf 6 wrC g.sx g.xl :: many xsR g.xl :: poolR g.ps :: own a5 [.int .i64 kind, .int .i64 place, .int .i64 at_] :: L) := O.sel [3, 0, 1, 2, 4, 5, 6, 7, 8, 9, 10] 11 rfl (Nat.le_add_left _ _)
    have hpl : p < (g.qp.map qpA).length := by rw [List.length_map]; exact (List.getElem?_eq_some_iff.1 hr).1
    refine O2.put1 optc_len optc_one (by omega) (by omega) (some (pt r2 0)) rfl fun h O => ?_
    rw [Int.toNat_natCast] at O
    have hqa2 : ((g.qp.map qpA).set p (some (pt r2 0)))[p]? = some (some (pt r2 0)) := by rw [List.getElem?_set_self hpl]
    refine ⟨_, rfl, ?_⟩
    refine O.ld 2 rfl (ldL_c (k := .sl) (x := g.sq) (ldL_n ?_))
    refine (O.view 0 optc_len (by simp) rfl).1.get1 (k := .ptr) (by omega) (x := some (pt r2 0)) (by rw [Int.toNat_natCast]; exact hqa2) id (fun _ => rfl) ?_
    have ok2 := quiet_ok o hq (new_qok B hnd)
    have O3 := (O.sel [4, 0, 1, 2, 3, 5, 6, 7, 8, 9, 10] 11 rfl (Nat.le_add_left _ _)).take p hr
    have O4 : Sat h0 h (qpR (r2, QS.fresh nd 2 w.β.ns) :: hole qpR g.qp p :: buf 1 optc g.sq ((g.qp.map qpA).set p (some (pt r2 0))) :: own a [.slice g.sn.ptr g.sn.len g.sn.cap, .slice g.sq.ptr g.sq.len g.sq.cap, .slice g.sC.ptr g.sC.len g.sC.cap, .slice g.sw.ptr g.sw.len g.sw.cap, .slice g.sx.ptr g.sx.len g.sx.cap, .int .i64 w.turn] :: buf 1 i64c g.sn w.β.ns :: buf 4 cpC g.sC g.cl :: buf 22 mgC g.sw g.wl :: buf 6 wrC g.sx g.xl :: many xsR g.xl :: poolR g.ps :: own a5 [.int .i64 kind, .int .i64 place, .int .i64 at_] :: L) := O3.sel [3, 1, 2, 4, 5, 6, 7, 8, 9, 10, 11] 12 rfl (Nat.le_add_left _ _)
    have O5 := O4.give (List.getElem?_eq_some_iff.1 hr).1
    have eqs : (g.qp.map qpA).set p (some (pt r2 0)) = (g.qp.set p (r2, QS.fresh nd 2 w.β.ns)).map qpA := by rw [List.map_set]; rfl
    rw [eqs] at O5
    refine hj23 _ _ _ ⟨rfl, p, { w with qs := w.qs.set p (QS.fresh nd 2 w.β.ns) }, rfl, by show p < (w.qs.set p _).length; rw [List.length_set]; omega, ok2, nos (by omega) (by omega) (by omega), ?_⟩
    refine Sat.wldI (turn := w.turn) (ns := w.β.ns) _ { g with qp := g.qp.set p (r2, QS.fresh nd 2 w.β.ns) } ⟨?_, gk.gc, gk.gw, gk.gx, gk.pc, gk.pw, gk.px⟩ rfl rfl (O5.sel [2, 3, 1, 0, 4, 5, 6, 7, 8, 9] 10 rfl (Nat.le_add_left _ _))
    show (g.qp.set p _).map (·.2) = w.qs.set p _
    rw [List.map_set, gk.gq]
  refine jn_go ?_
  refine brr_eq (fun k8 => ?_) (fun k8 => ?_)
  · refine ⟨_, rfl, ?_⟩
    refine O.ld 0 rfl (ldL_c (k := .sl) (x := g.sq) (ldL_n ?_))
    refine (O.view 2 optc_len (by simp) rfl).1.get1 (k := .ptr) (by omega) (x := some (pt r 0)) (by rw [Int.toNat_natCast]; exact hqa) id (fun _ => rfl) ?_
    have O2 := q_out hr O
    refine F_quorum_Quorum_Stop.is O2 fun h O => ?_
    have O4 := q_in (turn := w.turn) (ns := w.β.ns) (w := w) gk hr rfl rfl O
    exact hj23 _ _ _ ⟨rfl, p, { w with qs := w.qs.set p q.stop }, rfl, by show p < (w.qs.set p _).length; rw [List.length_set]; omega, quiet_ok o hq (qok_stop B oq), nos (by omega) (by omega) (by omega), O4⟩
  · exact hj23 _ _ _ ⟨rfl, p, w, rfl, by omega, more_ok o, nos (by omega) (by omega) (by omega), Oc⟩
end
end Go.Proofs.Ytigcpkejjjgkeaa.V
/- The world: all messages come. -/
namespace Go.Proofs.Ytigcpkejjjgkeaa.V
open Go Go.RowKit
set_option linter.unusedVariables false
set_option linter.unusedSimpArgs false

section
variable {w : WD} {k : Nat} {q : QS} {m : Mg} {p a : Nat} {e E bg : Int} {T t : Tg} {V : List UInt8 → Prop} {b : List UInt8}
theorem wok_mono {k2 : Nat} (o : WOk w k) (h : k ≤ k2) : WOk w k2 := by
  induction h with
  | refl => exact o
  | step _ ih => exact more_ok ih
theorem push_nil {ms : List Mg} (h : ms.length ≤ 14) : pushW [] ms = ms := by
  unfold pushW
  rw [List.take_of_length_le (by simp; omega)]
  rfl
theorem mu_le {q2 : QS} {ms : List Mg} {β : BS} {qs : List QS} {tn : Int} (h : ms.length ≤ 14) (h7 : β.ns.length ≤ 7) : mu ⟨β, qs, ms, tn⟩ q2 ≤ 200 := by
  unfold mu
  have := wt_le ms
  show (ms.map wt).sum + (if q2.phase = 1 then 2 * β.ns.length + 1 else 0) ≤ 200
  split <;> omega
theorem actB_cs {β : BS} {q : QS} {new : Bool} : (actB β q new).cs = β.cs ∧ (actB β q new).ns = β.ns := by
  unfold actB
  split <;> exact ⟨rfl, rfl⟩
/-- A node begins an epoch, nothing else is on its way. -/
theorem lv_start {c : CP} (o : WOk w k) (hw : w.way = []) (hq : w.qs[0]? = some q) (hc : w.β.cs[0]? = some c) (hall : ∀ (a : Nat) c2, w.β.cs[a]? = some c2 → c2.prom ≤ c.prom) (h1 : c.prom < e) :
    Lv (({ w with β := raiseB w.β 0 c e } : WD).act 0 (q.start e c.te c.ts c.b 3).1 (q.start e c.te c.ts c.b 3).2 (decide (w.β.ns.length = 1))) (q.start e c.te c.ts c.b 3).1 e (e, 1) 0 (fun _ => True) ∧ mu (({ w with β := raiseB w.β 0 c e } : WD).act 0 (q.start e c.te c.ts c.b 3).1 (q.start e c.te c.ts c.b 3).2 (decide (w.β.ns.length = 1))) (q.start e c.te c.ts c.b 3).1 ≤ 200 := by
  have B := o.B
  have n7 := B.n7
  have oq := o.q 0 q hq
  have hl0 : 0 < w.qs.length := (List.getElem?_eq_some_iff.1 hq).1
  have hcl := (List.getElem?_eq_some_iff.1 hc).1
  obtain ⟨q', hq'⟩ : ∃ q', q' = (q.start e c.te c.ts c.b 3).1 := ⟨_, rfl⟩
  obtain ⟨ms, hms⟩ : ∃ ms, ms = (q.start e c.te c.ts c.b 3).2 := ⟨_, rfl⟩
  obtain ⟨new, hnew⟩ : ∃ new, new = (decide (w.β.ns.length = 1)) := ⟨_, rfl⟩
  have cp : ∀ (a : Nat) c2, (actB (raiseB w.β 0 c e) q' new).cs[a]? = some c2 → c2.prom ≤ e ∧ tle c2.tg (e, 1) := by
    intro a c2 h2
    rw [actB_cs.1] at h2
    have h2 : (w.β.cs.set 0 { c with prom := e })[a]? = some c2 := h2
    by_cases ha : 0 = a
    · subst ha
      rw [List.getElem?_set_self hcl] at h2
      cases h2
      have := (B.c 0 c hc).1.t1
      exact ⟨Int.le_refl _, .inl (by show c.te < e; omega)⟩
    · rw [List.getElem?_set_ne ha] at h2
      have g1 := hall a c2 h2
      have := (B.c a c2 h2).1.t1
      exact ⟨by omega, .inl (by show c2.te < e; omega)⟩
  have hns : (actB (raiseB w.β 0 c e) q' new).ns = w.β.ns := actB_cs.2
  have hml : ms.length ≤ 14 ∧ q'.epoch = e ∧ q'.begun = 0 ∧ q'.done = 0 ∧ q'.node = q.node ∧ ((q'.phase = 2 ∧ q'.tag = (e, 1) ∧ (∀ m ∈ ms, m.kind = 4 ∧ m.frm = q.node ∧ m.te = e ∧ m.ts = 1) ∧ ∀ c0 ∈ w.β.ns, ∃ m ∈ ms, m.kind = 4 ∧ m.to = c0) ∨ (q'.phase = 1 ∧ (∀ m ∈ ms, m.kind = 1 ∧ m.frm = q.node ∧ m.epoch = e) ∧ ∀ c0 ∈ w.β.ns, c0 ∈ q'.pm ∨ ∃ m ∈ ms, m.kind = 1 ∧ m.to = c0)) := by
    have hcop : (q.start0 e c.te c.ts c.b).cop = w.β.ns := oq.c
    subst hq' hms
    unfold QS.start
    by_cases hm : (q.start0 e c.te c.ts c.b).most 1 = true
    · rw [if_pos hm]
      refine ⟨?_, rfl, rfl, rfl, rfl, .inl ⟨rfl, rfl, fun m hm => ?_, fun c0 h0 => ?_⟩⟩
      · show (((q.start0 e c.te c.ts c.b).wrt 1).writes 3).length ≤ _
        rw [writes_len rfl]
        show (q.start0 e c.te c.ts c.b).cop.length ≤ _
        rw [hcop]; omega
      · obtain ⟨g1, g2, g3, g4, g5, g6, g7, g8, g9⟩ := in_send hm
        exact ⟨g5, g1, g7, g8⟩
      · exact writes_all (q := (q.start0 e c.te c.ts c.b).wrt 1) (by show c0 ∈ (q.start0 e c.te c.ts c.b).cop; rw [hcop]; exact h0) rfl
    · rw [if_neg hm]
      refine ⟨?_, rfl, rfl, rfl, rfl, .inr ⟨rfl, fun m hm => ?_, fun c0 h0 => ?_⟩⟩
      · have : ((q.start0 e c.te c.ts c.b).prepares).length ≤ (q.start0 e c.te c.ts c.b).cop.length := send_len
        rw [hcop] at this
        show ((q.start0 e c.te c.ts c.b).prepares).length ≤ _
        omega
      · obtain ⟨g1, g2, g3, g4, g5, g6, g7, g8, g9⟩ := in_send hm
        exact ⟨g5, g1, g6⟩
      · by_cases hn : c0 = q.node
        · exact .inl (List.mem_singleton.2 hn)
        · refine .inr ⟨_, List.mem_map.2 ⟨c0, List.mem_filter.2 ⟨by rw [hcop]; exact h0, ?_⟩, rfl⟩, rfl, rfl⟩
          show (!(c0 == q.node)) = true
          rw [beq_eq_false_iff_ne.2 hn]
          rfl
  rw [← hq', ← hms, ← hnew]
  obtain ⟨ml, e1, e2, e3, e4, hcase⟩ := hml
  have hway : (({ w with β := raiseB w.β 0 c e } : WD).act 0 q' ms new) = ⟨actB (raiseB w.β 0 c e) q' new, w.qs.set 0 q', ms, w.turn⟩ := by
    show WD.mk _ _ (pushW w.way ms) _ = _
    rw [hw, push_nil ml]
  rw [hway]
  refine ⟨⟨?_, e1, ?_, fun h => ?_, rfl, fun _ => ⟨rfl, fun _ => trivial⟩, e2, fun h => absurd (e2.trans e3.symm) h, by rw [e2, e3]; exact Int.le_refl _, cp, fun x hx => ?_, fun hp c0 h0 => ?_, fun hp c0 h0 => ?_, fun h => absurd (e2.trans e3.symm) h⟩, mu_le ml (by rw [hns]; exact n7)⟩
  · show (w.qs.set 0 q')[0]? = _
    rw [List.getElem?_set_self hl0]
  · rcases hcase with h | h
    · exact .inr (.inl h.1)
    · exact .inl h.1
  · rcases hcase with g | g
    · exact ⟨g.2.1, trivial⟩
    · exact absurd g.1 h
  · have hx : x ∈ ms := hx
    rcases hcase with g | g
    · obtain ⟨g1, g2, g3, g4⟩ := g.2.2.1 x hx
      exact .inr (.inr (.inl ⟨g1, g2.trans e4.symm, g3, g4, by omega⟩))
    · obtain ⟨g1, g2, g3⟩ := g.2.1 x hx
      exact .inl ⟨g1, g2.trans e4.symm, g3⟩
  · have h0 : c0 ∈ w.β.ns := by rw [← hns]; exact h0
    rcases hcase with g | g
    · omega
    · rcases g.2.2 c0 h0 with h | h
      · exact .inl h
      · exact .inr (.inl h)
  · have h0 : c0 ∈ w.β.ns := by rw [← hns]; exact h0
    rcases hcase with g | g
    · exact .inr (.inl (g.2.2.2 c0 h0))
    · omega
/-- A value is proposed, nothing else is on its way. -/
theorem lv_prop {tn : Int} (o : WOk w k) (L : Lv w q e T bg V) (hw : w.way = []) (h3 : q.phase = 3) (hd : q.done = q.begun) (hM : T.2 < (1099511627776 : Int)) :
    Lv (({ w with turn := tn } : WD).act 0 (q.propose b 3).1 (q.propose b 3).2.1 (q.propose b 3).2.2) (q.propose b 3).1 e (e, T.2 + 1) bg (fun v => v = b) ∧ mu (({ w with turn := tn } : WD).act 0 (q.propose b 3).1 (q.propose b 3).2.1 (q.propose b 3).2.2) (q.propose b 3).1 ≤ 200 := by
  have B := o.B
  have n7 := B.n7
  have oq := o.q 0 q L.q0
  have hl0 : 0 < w.qs.length := (List.getElem?_eq_some_iff.1 L.q0).1
  have ht := (L.tg (by omega)).1
  unfold QS.propose
  rw [if_neg (by rw [ht]; omega)]
  obtain ⟨q', hq'⟩ : ∃ q', q' = (({ q with val := b } : QS).wrt (q.tag.2 + 1)) := ⟨_, rfl⟩
  have hcop : q'.cop = w.β.ns := by rw [hq']; exact oq.c
  have hwr : q'.wr = [] := by rw [hq']; rfl
  have ml : (q'.writes 3).length ≤ 14 := by rw [writes_len hwr, hcop]; omega
  have hway : (({ w with turn := tn } : WD).act 0 q' (q'.writes 3) true) = ⟨actB w.β q' true, w.qs.set 0 q', q'.writes 3, tn⟩ := by
    show WD.mk _ _ (pushW w.way _) _ = _
    rw [hw, push_nil ml]
  show Lv (({ w with turn := tn } : WD).act 0 (({ q with val := b } : QS).wrt (q.tag.2 + 1)) ((({ q with val := b } : QS).wrt (q.tag.2 + 1)).writes 3) true) (({ q with val := b } : QS).wrt (q.tag.2 + 1)) e (e, T.2 + 1) bg (fun v => v = b) ∧ mu (({ w with turn := tn } : WD).act 0 (({ q with val := b } : QS).wrt (q.tag.2 + 1)) ((({ q with val := b } : QS).wrt (q.tag.2 + 1)).writes 3) true) (({ q with val := b } : QS).wrt (q.tag.2 + 1)) ≤ 200
  rw [← hq', hway]
  have hns : (actB w.β q' true).ns = w.β.ns := actB_cs.2
  have e1 : q'.epoch = e := by rw [hq']; exact L.ee
  have e2 : q'.begun = bg := by rw [hq']; exact L.eg
  have e3 : q'.done = bg := by rw [hq']; exact hd.trans L.eg
  have e4 : q'.node = q.node := by rw [hq']; rfl
  have e5 : q'.phase = 2 := by rw [hq']; rfl
  have e6 : q'.tag = (e, T.2 + 1) := by rw [hq']; show (q.epoch, q.tag.2 + 1) = _; rw [L.ee, ht]
  have e7 : q'.val = b := by rw [hq']; rfl
  refine ⟨⟨?_, e1, .inr (.inl e5), fun _ => ⟨e6, e7⟩, rfl, fun h => by omega, e2, fun h => absurd (e2.trans e3.symm) h, by rw [e2, e3]; exact Int.le_refl _, fun a c hc => ?_, fun x hx => ?_, fun h => by omega, fun hp c0 h0 => ?_, fun h => absurd (e2.trans e3.symm) h⟩, mu_le ml (by rw [hns]; exact n7)⟩
  · show (w.qs.set 0 q')[0]? = _
    rw [List.getElem?_set_self hl0]
  · have hc : (actB w.β q' true).cs[a]? = some c := hc
    rw [actB_cs.1] at hc
    obtain ⟨g1, g2⟩ := L.cp a c hc
    refine ⟨g1, tle_trans g2 (.inr ⟨L.t0, ?_⟩)⟩
    show T.2 ≤ T.2 + 1
    omega
  · have hx : x ∈ q'.writes 3 := hx
    obtain ⟨g1, g2, g3, g4, g5, g6, g7, g8, g9⟩ := in_send hx
    refine .inr (.inr (.inl ⟨g5, g1, g7.trans ?_, g8.trans ?_, by omega⟩))
    · show q'.tag.1 = _
      rw [e6]
    · show q'.tag.2 = _
      rw [e6]
  · have h0 : c0 ∈ w.β.ns := by rw [← hns]; exact h0
    exact .inr (.inl (writes_all (by rw [hcop]; exact h0) hwr))
/-- A round begins, nothing else is on its way. -/
theorem lv_tick (o : WOk w k) (L : Lv w q e T bg V) (hw : w.way = []) (h3 : q.phase = 3) (hd : q.done = q.begun) (hM : bg < (1099511627776 : Int)) :
    Lv (w.act 0 (q.tick 3).1 (q.tick 3).2 false) (q.tick 3).1 e T (bg + 1) V ∧ mu (w.act 0 (q.tick 3).1 (q.tick 3).2 false) (q.tick 3).1 ≤ 200 := by
  have B := o.B
  have n7 := B.n7
  have oq := o.q 0 q L.q0
  have hl0 : 0 < w.qs.length := (List.getElem?_eq_some_iff.1 L.q0).1
  have hh : ¬ q.holds = false := by unfold QS.holds; rw [h3]; simp
  have hM2 : ¬ (1099511627776 : Int) ≤ q.begun := by rw [L.eg]; omega
  have t0 : q.tick0 3 = [] := by unfold QS.tick0; rw [if_neg (by omega), if_neg (by omega)]
  unfold QS.tick
  rw [if_neg hh, if_pos hd.symm, if_neg hM2, t0]
  show Lv (w.act 0 q.rise (q.rise.beats 3) false) q.rise e T (bg + 1) V ∧ mu (w.act 0 q.rise (q.rise.beats 3) false) q.rise ≤ 200
  have ml : (q.rise.beats 3).length ≤ 14 := by
    have : (q.rise.beats 3).length ≤ q.rise.cop.length := send_len
    have h2 : q.rise.cop = w.β.ns := oq.c
    rw [h2] at this
    omega
  have hway : w.act 0 q.rise (q.rise.beats 3) false = ⟨w.β, w.qs.set 0 q.rise, q.rise.beats 3, w.turn⟩ := by
    show WD.mk _ _ (pushW w.way _) _ = _
    rw [hw, push_nil ml]
    rfl
  rw [hway]
  have e0 : q.rise.phase = 3 := h3
  refine ⟨⟨?_, L.ee, .inr (.inr h3), fun _ => L.tg (by omega), L.t0, fun h => by omega, by show q.begun + 1 = _; rw [L.eg], fun _ => h3, by show q.done ≤ q.begun + 1; omega, L.cp, fun x hx => ?_, fun h => by omega, fun h => by omega, fun _ c0 h0 => ?_⟩, mu_le ml n7⟩
  · show (w.qs.set 0 q.rise)[0]? = _
    rw [List.getElem?_set_self hl0]
  · have hx : x ∈ q.rise.beats 3 := hx
    obtain ⟨g1, g2, g3, g4, g5, g6, g7, g8, g9⟩ := in_send hx
    refine .inr (.inr (.inr (.inr (.inl ⟨g5, g1, g6.trans L.ee, g9.trans ?_⟩))))
    show q.begun + 1 = _
    rw [L.eg]
  · refine .inr (.inl ⟨_, List.mem_map.2 ⟨c0, List.mem_filter.2 ⟨?_, ?_⟩, rfl⟩, rfl, rfl⟩)
    · show c0 ∈ q.cop
      rw [oq.c]; exact h0
    · show (!decide (c0 ∈ ([] : List Int))) = true
      simp
theorem hearC_turn {c : CP} : (w.hearC a c m).turn = w.turn := by
  unfold WD.hearC
  split
  · rfl
  split
  · rfl
  split
  · rfl
  · rfl
/-- One message comes. -/
theorem lv_step {w2 : WD} (o : WOk w k) (hw : w.way ≠ []) (L : Lv w q e T bg V) (hmu : mu w q ≤ 200) (s : StepTo w 2 0 0 w2) : w2.turn = w.turn ∧ ∃ q2, Lv w2 q2 e T bg V ∧ mu w2 q2 + 1 ≤ mu w q := by
  obtain ⟨m, rest, hm⟩ : ∃ m rest, w.way = m :: rest := by
    cases h : w.way with
    | nil => exact absurd h hw
    | cons m rest => exact ⟨m, rest, rfl⟩
  rcases s.d rfl rfl m rest hm with ⟨i, c, h1, h2, h3, rfl⟩ | ⟨p, q3, h1, h2, h3, rfl⟩
  · exact ⟨hearC_turn, q, lv_copy L hm h1 h2 h3⟩
  · obtain ⟨h4, new, h5, h6, h7⟩ := lv_hear o L hm hmu h3
    have hn0 := (o.q 0 q L.q0).n
    obtain ⟨k1, k2⟩ := List.getElem?_eq_some_iff.1 h1
    obtain ⟨k3, k4⟩ := List.getElem?_eq_some_iff.1 hn0
    have := (List.getElem_inj o.B.nd (i := p) (j := 0) (h₀ := k1) (h₁ := k3)).1 ((k2.trans h4).trans k4.symm)
    subst this
    rw [L.q0] at h2
    cases h2
    subst h5
    exact ⟨rfl, _, h6, h7⟩
end
section
variable {h0 h : Heap} {L : List Res} {a : Nat} {g : GW} {w : WD} {m : Mg} {k0 : Nat} {turn : Int} {ns : List Int}
theorem F_law10_World_all.is {n : Nat} {Q : Bool → Heap → Prop} (J : Nat → WD → Prop) (o : WOk w k0) (hn : k0 + n ≤ 8000) (hJ : J 0 w) (O : Sat h0 h (worldR a w :: L))
    (step : ∀ (i : Nat) w w2, i < n → w.way ≠ [] → WOk w (k0 + i) → J i w → StepTo w 2 0 0 w2 → J (i + 1) w2)
    (k : ∀ (i : Nat) w2 h', i ≤ n → (i = n ∨ w2.way = []) → WOk w2 (k0 + i) → J i w2 → Sat h0 h' (worldR a w2 :: L) → Q true h') : F_law10_World_all (some (pt a 0)) (n : Int) h Q := by
  rw [F_law10_World_all.eq_1, F_law10_World_all_of.eq_1]
  refine jn0 (fun h' => ∃ (i : Nat) (w2 : WD), i ≤ n ∧ (i = n ∨ w2.way = []) ∧ WOk w2 (k0 + i) ∧ J i w2 ∧ Sat h0 h' (worldR a w2 :: L)) (fun h ⟨i, w2, h1, h2, h3, h4, O⟩ => k i w2 h h1 h2 h3 h4 O) fun j hj => ?_
  rw [F_law10_World_all.l1.eq_1]
  refine wl1 (k := .int .i64) (fun (m : Nat) (i : Int) (h' : Heap) => ∃ (r : Nat) (w2 : WD), i = (r : Int) ∧ r + m = n ∧ WOk w2 (k0 + r) ∧ J r w2 ∧ Sat h0 h' (worldR a w2 :: L)) ?_ (m := n) ⟨0, w, rfl, by omega, o, hJ, O⟩
  clear O hJ o
  rintro m (i : Int) h next hnx ⟨r, w2, rfl, hr, o, hJ, O⟩
  refine jn1 (fun z h' => h = h' ∧ (z = true → r < n ∧ w2.way ≠ []) ∧ (z = false → r = n ∨ w2.way = [])) ?_ ?_
  · rintro z h' ⟨rfl, g1, g2⟩
    refine brr_of (fun hz => ?_) (fun hz => hj _ ⟨r, w2, by omega, g2 hz, o, hJ, O⟩)
    obtain ⟨h1, h2⟩ := g1 hz
    refine F_law10_World_step.is o (by omega) O fun w3 h o3 s3 O => ?_
    refine brr_ff rfl ?_
    rw [wrap64 (by omega) (by omega)]
    exact hnx (m - 1) _ _ (by omega) ⟨r + 1, w3, by omega, by omega, o3, step r w2 w3 h1 h2 o hJ s3, O⟩
  · intro j2 hj2
    refine brr_p (fun h1 => ?_) (fun h1 => hj2 _ _ ⟨rfl, fun h => absurd h (by decide), fun _ => .inl (by omega)⟩)
    obtain ⟨g, gk, O⟩ := O.wld
    have O := O w2.turn rfl
    have hsw : g.sw.len = w2.way.length := by rw [(O.view 5 mgC_len (by simp) rfl).1.len, ← gk.gw, List.length_map]
    refine ⟨_, rfl, ?_⟩
    refine O.ld 0 rfl (ldL_c (k := .sl) (x := g.sw) (ldL_n ?_))
    rw [hsw]
    refine hj2 _ _ ⟨rfl, fun hz => ⟨by omega, fun e => ?_⟩, fun hz => .inr ?_⟩
    · have := of_decide_eq_true hz
      rw [e] at this
      simp at this
    · have := of_decide_eq_false hz
      exact List.length_eq_zero_iff.1 (by omega)
theorem F_law10_World_all.lv {q : QS} {e bg : Int} {T : Tg} {V : List UInt8 → Prop} {Q : Bool → Heap → Prop} (o : WOk w k0) (hk : k0 ≤ 7000) (lv : Lv w q e T bg V) (hm : mu w q ≤ 200) (O : Sat h0 h (worldR a w :: L))
    (k : ∀ w2 q2 h', WOk w2 (k0 + 200) → w2.turn = w.turn → w2.way = [] → Lv w2 q2 e T bg V → q2.phase = 3 → q2.done = q2.begun → Sat h0 h' (worldR a w2 :: L) → Q true h') : F_law10_World_all (some (pt a 0)) 200 h Q := by
  have := F_law10_World_all.is (n := 200) (Q := Q) (fun i w2 => w2.turn = w.turn ∧ ∃ q2, Lv w2 q2 e T bg V ∧ mu w2 q2 + i ≤ 200) o (by omega) ⟨rfl, q, lv, hm⟩ O
    (fun i w1 w2 hi hw o1 hJ s => by
      obtain ⟨h1, q1, l1, m1⟩ := hJ
      obtain ⟨h2, q2, l2, m2⟩ := lv_step o1 hw l1 (by omega) s
      exact ⟨h2.trans h1, q2, l2, by omega⟩)
    (fun i w2 h hi hend o2 hJ O => by
      obtain ⟨h1, q2, l2, m2⟩ := hJ
      have hway : w2.way = [] := by
        rcases hend with h | h
        · have h3 := wt_len w2.way
          unfold mu at m2
          exact List.length_eq_zero_iff.1 (by omega)
        · exact h
      have o3 := wok_mono o2 (show k0 + i ≤ k0 + 200 by omega)
      obtain ⟨p3, pd⟩ := lv_end o3 l2 hway
      exact k w2 q2 h o3 h1 hway l2 p3 pd O)
  exact this
end
end Go.Proofs.Ytigcpkejjjgkeaa.V
/- The world: what is chosen stays so. -/
namespace Go.Proofs.Ytigcpkejjjgkeaa.V
open Go Go.RowKit
set_option linter.unusedVariables false
set_option linter.unusedSimpArgs false

section
variable {h0 h : Heap} {L : List Res} {a : Nat} {g : GW} {w : WD} {m : Mg} {k0 : Nat}
theorem F_law10_World_still.is {Q : Bool → Heap → Prop} (o : WOk w k0) (hk : k0 ≤ 8000) (O : Sat h0 h (worldR a w :: L)) (k : ∀ h', Sat h0 h' (worldR a w :: L) → Q true h') : F_law10_World_still (some (pt a 0)) h Q := by
  rw [F_law10_World_still.eq_1, F_law10_World_still_of.eq_1]
  have B := o.B
  have n7 := B.n7
  have hxl := o.xl
  obtain ⟨g, gk, O⟩ := O.wld
  have O := O w.turn rfl
  have gxl : g.xl.length = w.β.wrs.length := by rw [← gk.gx, List.length_map]
  have xm : ∀ x ∈ g.xl, x.x ∈ w.β.wrs := fun x hx => by rw [← gk.gx]; exact List.mem_map.2 ⟨x, hx, rfl⟩
  have hs : ∀ x ∈ g.xl, x.x.st.length = w.β.ns.length := fun x hx => (B.x _ (xm x hx)).l
  have hb : ∀ x ∈ g.xl, x.x.b.length ≤ (140737488355325 : Nat) := fun x hx => (B.x _ (xm x hx)).b
  refine jn0 (fun h' => Sat h0 h' (own a [.slice g.sn.ptr g.sn.len g.sn.cap, .slice g.sq.ptr g.sq.len g.sq.cap, .slice g.sC.ptr g.sC.len g.sC.cap, .slice g.sw.ptr g.sw.len g.sw.cap, .slice g.sx.ptr g.sx.len g.sx.cap, .int .i64 w.turn] :: buf 1 i64c g.sn w.β.ns :: buf 1 optc g.sq (g.qp.map qpA) :: many qpR g.qp :: buf 4 cpC g.sC g.cl :: buf 22 mgC g.sw g.wl :: buf 6 wrC g.sx g.xl :: many xsR g.xl :: poolR g.ps :: L)) (fun h O => k h (Sat.wldI (turn := w.turn) (ns := w.β.ns) w g gk rfl rfl O)) fun j hj => ?_
  rw [F_law10_World_still.l2.eq_1]
  refine wl1 (k := .int .i64) (fun (m : Nat) (i : Int) (h' : Heap) => i + m = g.xl.length ∧ 0 ≤ i ∧ Sat h0 h' (own a [.slice g.sn.ptr g.sn.len g.sn.cap, .slice g.sq.ptr g.sq.len g.sq.cap, .slice g.sC.ptr g.sC.len g.sC.cap, .slice g.sw.ptr g.sw.len g.sw.cap, .slice g.sx.ptr g.sx.len g.sx.cap, .int .i64 w.turn] :: buf 1 i64c g.sn w.β.ns :: buf 1 optc g.sq (g.qp.map qpA) :: many qpR g.qp :: buf 4 cpC g.sC g.cl :: buf 22 mgC g.sw g.wl :: buf 6 wrC g.sx g.xl :: many xsR g.xl :: poolR g.ps :: L)) ?_ (m := g.xl.length) ⟨by omega, by omega, O⟩
  clear O
  rintro m (i : Int) h next hnx ⟨him, hi0, O⟩
  obtain ⟨r, rfl⟩ : ∃ r : Nat, i = (r : Int) := ⟨i.toNat, by omega⟩
  have W := (O.view 6 wrC_len (by simp) rfl).1
  refine ⟨_, rfl, ?_⟩
  refine O.ld 0 rfl (ldL_c (k := .sl) (x := g.sx) (ldL_n ?_))
  rw [W.len]
  refine brr_p (fun hlt => ?_) (fun hlt => hj _ O)
  obtain ⟨x, hx⟩ : ∃ x, g.xl[r]? = some x := ⟨_, List.getElem?_eq_getElem (by omega)⟩
  have hxm := List.mem_of_getElem? hx
  refine jn0 (fun h' => Sat h0 h' (own a [.slice g.sn.ptr g.sn.len g.sn.cap, .slice g.sq.ptr g.sq.len g.sq.cap, .slice g.sC.ptr g.sC.len g.sC.cap, .slice g.sw.ptr g.sw.len g.sw.cap, .slice g.sx.ptr g.sx.len g.sx.cap, .int .i64 w.turn] :: buf 1 i64c g.sn w.β.ns :: buf 1 optc g.sq (g.qp.map qpA) :: many qpR g.qp :: buf 4 cpC g.sC g.cl :: buf 22 mgC g.sw g.wl :: buf 6 wrC g.sx g.xl :: many xsR g.xl :: poolR g.ps :: L)) (fun h O => ?_) fun j8 hj8 => ?_
  · rw [wrap64 (by omega) (by omega)]
    exact hnx (m - 1) _ _ (by omega) ⟨by omega, by omega, O⟩
  have O2 : Sat h0 h (own a [.slice g.sn.ptr g.sn.len g.sn.cap, .slice g.sq.ptr g.sq.len g.sq.cap, .slice g.sC.ptr g.sC.len g.sC.cap, .slice g.sw.ptr g.sw.len g.sw.cap, .slice g.sx.ptr g.sx.len g.sx.cap, .int .i64 w.turn] :: buf 1 i64c g.sn w.β.ns :: buf 6 wrC g.sx g.xl :: many xsR g.xl :: buf 1 optc g.sq (g.qp.map qpA) :: many qpR g.qp :: buf 4 cpC g.sC g.cl :: buf 22 mgC g.sw g.wl :: poolR g.ps :: L) := O.sel [0, 1, 6, 7, 2, 3, 4, 5, 8] 9 rfl (Nat.le_add_left _ _)
  refine F_law10_World_chosen.is O2 (by omega) hx (hs x hxm) ?_
  refine brr_of (fun _ => hj8 _ O) (fun hz => ?_)
  have hch : w.β.ns.length < 2 * x.x.st.count true := by simpa using hz
  refine jn0 (fun h' => Sat h0 h' (own a [.slice g.sn.ptr g.sn.len g.sn.cap, .slice g.sq.ptr g.sq.len g.sq.cap, .slice g.sC.ptr g.sC.len g.sC.cap, .slice g.sw.ptr g.sw.len g.sw.cap, .slice g.sx.ptr g.sx.len g.sx.cap, .int .i64 w.turn] :: buf 1 i64c g.sn w.β.ns :: buf 1 optc g.sq (g.qp.map qpA) :: many qpR g.qp :: buf 4 cpC g.sC g.cl :: buf 22 mgC g.sw g.wl :: buf 6 wrC g.sx g.xl :: many xsR g.xl :: poolR g.ps :: L)) (fun h O => hj8 _ O) fun j11 hj11 => ?_
  rw [wrap64 (by omega) (by omega), F_law10_World_still.l1.eq_1]
  refine wl1 (k := .int .i64) (fun (m : Nat) (i : Int) (h' : Heap) => i + m = g.xl.length ∧ 0 ≤ i ∧ Sat h0 h' (own a [.slice g.sn.ptr g.sn.len g.sn.cap, .slice g.sq.ptr g.sq.len g.sq.cap, .slice g.sC.ptr g.sC.len g.sC.cap, .slice g.sw.ptr g.sw.len g.sw.cap, .slice g.sx.ptr g.sx.len g.sx.cap, .int .i64 w.turn] :: buf 1 i64c g.sn w.β.ns :: buf 1 optc g.sq (g.qp.map qpA) :: many qpR g.qp :: buf 4 cpC g.sC g.cl :: buf 22 mgC g.sw g.wl :: buf 6 wrC g.sx g.xl :: many xsR g.xl :: poolR g.ps :: L)) ?_ (m := g.xl.length - (r + 1)) ⟨by omega, by omega, O⟩
  clear O O2 W
  rintro m2 (kk : Int) h next2 hnx2 ⟨him2, hk2, O⟩
  obtain ⟨v, rfl⟩ : ∃ v : Nat, kk = (v : Int) := ⟨kk.toNat, by omega⟩
  have W := (O.view 6 wrC_len (by simp) rfl).1
  refine ⟨_, rfl, ?_⟩
  refine O.ld 0 rfl (ldL_c (k := .sl) (x := g.sx) (ldL_n ?_))
  rw [W.len]
  refine brr_p (fun hlt2 => ?_) (fun hlt2 => hj11 _ O)
  obtain ⟨y, hy⟩ : ∃ y, g.xl[v]? = some y := ⟨_, List.getElem?_eq_getElem (by omega)⟩
  have hym := List.mem_of_getElem? hy
  refine jn0 (fun h' => Sat h0 h' (own a [.slice g.sn.ptr g.sn.len g.sn.cap, .slice g.sq.ptr g.sq.len g.sq.cap, .slice g.sC.ptr g.sC.len g.sC.cap, .slice g.sw.ptr g.sw.len g.sw.cap, .slice g.sx.ptr g.sx.len g.sx.cap, .int .i64 w.turn] :: buf 1 i64c g.sn w.β.ns :: buf 1 optc g.sq (g.qp.map qpA) :: many qpR g.qp :: buf 4 cpC g.sC g.cl :: buf 22 mgC g.sw g.wl :: buf 6 wrC g.sx g.xl :: many xsR g.xl :: poolR g.ps :: L)) (fun h O => ?_) fun j17 hj17 => ?_
  · rw [wrap64 (by omega) (by omega)]
    exact hnx2 (m2 - 1) _ _ (by omega) ⟨by omega, by omega, O⟩
  refine ⟨_, rfl, ?_⟩
  refine O.ld 0 rfl (ldL_c (k := .sl) (x := g.sx) (ldL_n ?_))
  refine W.getP (x := y) (by omega) (by rw [Int.toNat_natCast]; exact hy) fun b hb1 => ld_are (hb1 W) ?_
  unfold wrC
  repeat (first | (with_reducible refine ldL_n ?_) | refine ldL_s ?_ | refine ldL_c ?_)
  refine O.al fun a27 h O => ?_
  refine O.st 0 rfl (by simp) rfl fun h O => ?_
  dsimp only [V.put, List.set] at O
  have O : Sat h0 h (own a27 [.int .u64 y.x.te, .int .u64 y.x.ts, .slice y.v.ptr y.v.len y.v.cap, .slice y.s.ptr y.s.len y.s.cap, .int .u64 y.be, .int .u64 y.bs] :: own a [.slice g.sn.ptr g.sn.len g.sn.cap, .slice g.sq.ptr g.sq.len g.sq.cap, .slice g.sC.ptr g.sC.len g.sC.cap, .slice g.sw.ptr g.sw.len g.sw.cap, .slice g.sx.ptr g.sx.len g.sx.cap, .int .i64 w.turn] :: buf 1 i64c g.sn w.β.ns :: buf 1 optc g.sq (g.qp.map qpA) :: many qpR g.qp :: buf 4 cpC g.sC g.cl :: buf 22 mgC g.sw g.wl :: buf 6 wrC g.sx g.xl :: many xsR g.xl :: poolR g.ps :: L) := O
  have W := (O.view 7 wrC_len (by simp) rfl).1
  refine jn1 (fun z h' => h = h' ∧ (z = false → y.x.ts = 1 ∧ x.x.te < y.x.te)) ?_ ?_
  · rintro z h' ⟨rfl, hz⟩
    refine brr_of (fun _ => hj17 _ O.drop) (fun hf => ?_)
    obtain ⟨g1, g2⟩ := hz hf
    refine ⟨_, rfl, ?_⟩
    refine O.ld 1 rfl (ldL_c (k := .sl) (x := g.sx) (ldL_n ?_))
    refine W.getP (x := x) (by omega) (by rw [Int.toNat_natCast]; exact hx) fun b1 hb1 => ld_drop (hb1 W) 0 (ldL_c (ldL_c (ldL_n ?_)))
    refine st_ad (b := a27) (o := 4) rfl ?_
    refine O.st 0 rfl (by simp) rfl fun h O => ?_
    dsimp only [V.put, List.set] at O
    have O : Sat h0 h (own a27 [.int .u64 y.x.te, .int .u64 y.x.ts, .slice y.v.ptr y.v.len y.v.cap, .slice y.s.ptr y.s.len y.s.cap, .int .u64 x.x.te, .int .u64 x.x.ts] :: own a [.slice g.sn.ptr g.sn.len g.sn.cap, .slice g.sq.ptr g.sq.len g.sq.cap, .slice g.sC.ptr g.sC.len g.sC.cap, .slice g.sw.ptr g.sw.len g.sw.cap, .slice g.sx.ptr g.sx.len g.sx.cap, .int .i64 w.turn] :: buf 1 i64c g.sn w.β.ns :: buf 1 optc g.sq (g.qp.map qpA) :: many qpR g.qp :: buf 4 cpC g.sC g.cl :: buf 22 mgC g.sw g.wl :: buf 6 wrC g.sx g.xl :: many xsR g.xl :: poolR g.ps :: L) := O
    refine O.ld 0 rfl (ldL_c (ldL_c (ldL_c (k := .sl) (x := y.v) (ldL_c (k := .sl) (x := y.s) (ldL_c (ldL_c (ldL_n ?_)))))))
    obtain ⟨z1, hz1, z2, z3, z4⟩ := behind B (xm x hxm) (xm y hym) hch g1 g2
    obtain ⟨zz, hzz, rfl⟩ : ∃ zz ∈ g.xl, zz.x = z1 := by rw [← gk.gx] at hz1; exact List.mem_map.1 hz1
    have O3 : Sat h0 h (own a [.slice g.sn.ptr g.sn.len g.sn.cap, .slice g.sq.ptr g.sq.len g.sq.cap, .slice g.sC.ptr g.sC.len g.sC.cap, .slice g.sw.ptr g.sw.len g.sw.cap, .slice g.sx.ptr g.sx.len g.sx.cap, .int .i64 w.turn] :: buf 6 wrC g.sx g.xl :: poolR g.ps :: buf 1 i64c g.sn w.β.ns :: buf 1 optc g.sq (g.qp.map qpA) :: many qpR g.qp :: buf 4 cpC g.sC g.cl :: buf 22 mgC g.sw g.wl :: many xsR g.xl :: L) := O.sel [1, 7, 9, 2, 3, 4, 5, 6, 8] 10 rfl (Nat.le_add_left _ _)
    refine F_law10_World_taken.is O3 (by omega) gk.px hb (gk.px y hym) (hb y hym) zz hzz z2 z3 z4 fun h O => ?_
    refine brr_ff rfl ?_
    exact hj17 _ (O.sel [0, 3, 4, 5, 6, 7, 1, 8, 2] 9 rfl (Nat.le_add_left _ _))
  · intro j30 hj30
    refine O.ld 0 rfl (ldL_c (ldL_n ?_))
    refine brr_of (fun _ => hj30 _ _ ⟨rfl, fun h => absurd h (by decide)⟩) (fun hne => ?_)
    have g1 : y.x.ts = 1 := by simpa using hne
    refine O.ld 0 rfl (ldL_c (ldL_n ?_))
    refine ⟨_, rfl, ?_⟩
    refine O.ld 1 rfl (ldL_c (k := .sl) (x := g.sx) (ldL_n ?_))
    refine W.getP (x := x) (by omega) (by rw [Int.toNat_natCast]; exact hx) fun b1 hb1 => ld_drop (hb1 W) 0 (ldL_c (ldL_n ?_))
    exact hj30 _ _ ⟨rfl, fun hz => ⟨g1, by have := of_decide_eq_false hz; omega⟩⟩
end
end Go.Proofs.Ytigcpkejjjgkeaa.V
/- The world: its beginning. -/
namespace Go.Proofs.Ytigcpkejjjgkeaa.V
open Go Go.RowKit
set_option linter.unusedVariables false
set_option linter.unusedSimpArgs false

def firstB : List UInt8 := [102, 105, 114, 115, 116]
def cp0 : CP := ⟨0, 0, 0, firstB⟩
def wr0 (n : Nat) : WR := ⟨0, 0, firstB, List.replicate n true⟩
def w00 (n : Nat) : WD := ⟨⟨copyN n, List.replicate n cp0, [wr0 n]⟩, (copyN n).map fun c => QS.fresh c 2 (copyN n), [], 0⟩
theorem w00_ok {n : Nat} (hn : n = 1 ∨ n = 3 ∨ n = 5 ∨ n = 7) : WOk (w00 n) 0 := by
  have cl := copyN_len n
  have hv : firstB.length ≤ (140737488355325 : Nat) := by show (5 : Nat) ≤ _; decide
  have hw : Wrt (w00 n).β (0, 0) firstB := ⟨wr0 n, List.mem_singleton.2 rfl, rfl, rfl⟩
  have B : BOk (w00 n).β (20 * ((0 : Nat) : Int)) := by
    refine ⟨copyN_nodup hn, by show 1 ≤ (copyN n).length; omega, by show (copyN n).length ≤ 7; omega, by show (List.replicate n cp0).length = (copyN n).length; simp [cl], fun a c hc => ?_, fun x hx => ?_, by show ([wr0 n].map WR.tg).Nodup; simp⟩
    · have hc : (List.replicate n cp0)[a]? = some c := hc
      rw [List.getElem?_replicate] at hc
      split at hc
      · rename_i han
        cases hc
        refine ⟨⟨Int.le_refl _, Int.le_refl _, ⟨wr0 n, List.mem_singleton.2 rfl, rfl, ?_⟩, hw, fun t ht => ?_, hv⟩, Int.le_refl _, by show (0 : Int) ≤ _; omega⟩
        · show (List.replicate n true)[a]? = _
          rw [List.getElem?_replicate, if_pos han]
        · obtain ⟨x, h1, h2, _⟩ := ht
          rw [List.mem_singleton.1 h1] at h2
          rw [← h2]
          exact tle_refl _
      · cases hc
    · rw [List.mem_singleton.1 hx]
      exact ⟨by show (List.replicate n true).length = (copyN n).length; simp [cl], hv, .inl ⟨rfl, rfl⟩, fun h => absurd h (by show ¬ (0 : Int) = 1; decide)⟩
  refine ⟨B, by show ((copyN n).map _).length = (copyN n).length; simp, fun p q hq => ?_, fun m hm => absurd hm List.not_mem_nil, by show (0 : Nat) ≤ _; omega, Nat.le_refl _, by show (0 : Int) ≤ 0 ∧ (0 : Int) ≤ _; omega⟩
  have hq : ((copyN n).map fun c => QS.fresh c 2 (copyN n))[p]? = some q := hq
  rw [List.getElem?_map] at hq
  cases h : (copyN n)[p]? with
  | none => rw [h] at hq; cases hq
  | some nd =>
    rw [h] at hq
    cases hq
    exact new_qok B h
section
variable {h0 h : Heap} {L : List Res}
set_option maxRecDepth 20000 in
theorem F_law10_world.is {many1 : Int} {Q : Option Addr → Heap → Prop} (O : Sat h0 h L) (k : ∀ (a : Nat) (w : WD) h', WOk w 0 → Sat h0 h' (worldR a w :: L) → Q (some (pt a 0)) h') : F_law10_world many1 h Q := by
  rw [F_law10_world.eq_1, F_law10_world_of.eq_1]
  refine F_law10_copiesOf.is O fun sn h n hn O => ?_
  have cl := copyN_len n
  refine O.al fun a4 h O => ?_
  have O1 : Sat h0 h (own a4 [.slice sn.ptr sn.len sn.cap, .slice none 0 0, .slice none 0 0, .slice none 0 0, .slice none 0 0, .int .i64 0] :: buf 1 i64c sn (copyN n) :: L) := O
  refine jn0 (fun h' => ∃ (sq sC : Sl) (qp : List (Nat × QS)) (cx : List CX) (ps : List PE), qp.map (·.2) = (copyN n).map (fun c => QS.fresh c 2 (copyN n)) ∧ cx.map CX.c = List.replicate n cp0 ∧ (∀ x ∈ cx, (x.v, x.c.b) ∈ ps) ∧ Sat h0 h' (own a4 [.slice sn.ptr sn.len sn.cap, .slice sq.ptr sq.len sq.cap, .slice sC.ptr sC.len sC.cap, .slice none 0 0, .slice none 0 0, .int .i64 0] :: buf 1 i64c sn (copyN n) :: buf 1 optc sq (qp.map qpA) :: many qpR qp :: buf 4 cpC sC cx :: poolR ps :: L)) ?_ ?_
  case refine_2 =>
    intro j6 hj6
    rw [F_law10_world.l1.eq_1]
    have start : ∃ (sq sC : Sl) (qp : List (Nat × QS)) (cx : List CX) (ps : List PE), qp.map (·.2) = ((copyN n).take 0).map (fun c => QS.fresh c 2 (copyN n)) ∧ cx.map CX.c = List.replicate 0 cp0 ∧ (∀ x ∈ cx, (x.v, x.c.b) ∈ ps) ∧ Sat h0 h (own a4 [.slice sn.ptr sn.len sn.cap, .slice sq.ptr sq.len sq.cap, .slice sC.ptr sC.len sC.cap, .slice none 0 0, .slice none 0 0, .int .i64 0] :: buf 1 i64c sn (copyN n) :: buf 1 optc sq (qp.map qpA) :: many qpR qp :: buf 4 cpC sC cx :: poolR ps :: L) := by
      have O2 : Sat h0 h (own a4 [.slice sn.ptr sn.len sn.cap, .slice none 0 0, .slice none 0 0, .slice none 0 0, .slice none 0 0, .int .i64 0] :: buf 1 i64c sn (copyN n) :: buf 1 optc ⟨none, 0, 0⟩ [] :: many qpR [] :: buf 4 cpC ⟨none, 0, 0⟩ [] :: poolR [(⟨none, 0, 0⟩, []), (⟨none, 0, 0⟩, [])] :: L) := by
        have P := pool_nils O1
        have P := P.nil_buf (sz := 4) (enc := cpC)
        have P := P.none (f := qpR)
        have P := P.nil_buf (sz := 1) (enc := optc)
        exact P.sel [4, 5, 0, 1, 2, 3] 6 rfl (Nat.le_add_left _ _)
      exact ⟨⟨none, 0, 0⟩, ⟨none, 0, 0⟩, [], [], _, rfl, rfl, fun x hx => absurd hx List.not_mem_nil, O2⟩
    refine wl1 (k := .int .i64) (fun (m : Nat) (i : Int) (h' : Heap) => ∃ r : Nat, i = (r : Int) ∧ r + m = n ∧ ∃ (sq sC : Sl) (qp : List (Nat × QS)) (cx : List CX) (ps : List PE), qp.map (·.2) = ((copyN n).take r).map (fun c => QS.fresh c 2 (copyN n)) ∧ cx.map CX.c = List.replicate r cp0 ∧ (∀ x ∈ cx, (x.v, x.c.b) ∈ ps) ∧ Sat h0 h' (own a4 [.slice sn.ptr sn.len sn.cap, .slice sq.ptr sq.len sq.cap, .slice sC.ptr sC.len sC.cap, .slice none 0 0, .slice none 0 0, .int .i64 0] :: buf 1 i64c sn (copyN n) :: buf 1 optc sq (qp.map qpA) :: many qpR qp :: buf 4 cpC sC cx :: poolR ps :: L)) ?_ (m := n) ⟨0, rfl, by omega, start⟩
    clear O O1 start
    rintro m (i : Int) h next hnx ⟨r, rfl, hr, sq, sC, qp, cx, ps, hq, hc, hp, O⟩
    have W := (O.view 1 i64c_len (by simp) rfl).1
    have ql : qp.length = r := by
      have := congrArg List.length hq
      rw [List.length_map, List.length_map, List.length_take, cl] at this
      omega
    have cxl : cx.length = r := by
      have := congrArg List.length hc
      rw [List.length_map, List.length_replicate] at this
      exact this
    refine ⟨_, rfl, ?_⟩
    refine O.ld 0 rfl (ldL_c (k := .sl) (x := sn) (ldL_n ?_))
    rw [W.len, cl]
    refine brr_p (fun hlt => ?_) (fun hlt => hj6 _ ?_)
    case refine_2 =>
      have e : r = n := by omega
      subst e
      rw [List.take_of_length_le (by omega)] at hq
      exact ⟨sq, sC, qp, cx, ps, hq, hc, hp, O⟩
    obtain ⟨nd, hnd⟩ : ∃ nd, (copyN n)[r]? = some nd := ⟨_, List.getElem?_eq_getElem (by omega)⟩
    refine ⟨_, rfl, ?_⟩
    refine O.ld 0 rfl (ldL_c (k := .sl) (x := sn) (ldL_n ?_))
    refine W.i6 (x := nd) (by omega) (by rw [Int.toNat_natCast]; exact hnd) ?_
    refine ⟨_, rfl, ?_⟩
    refine O.ld 0 rfl (ldL_c (k := .sl) (x := sn) (ldL_n ?_))
    refine F_quorum_New.is (cop := copyN n) (fun h O => (O.view 1 i64c_len (by simp) rfl).1) (by omega) O fun p h O => ?_
    refine brr_ff rfl ?_
    refine ⟨_, rfl, ?_⟩
    refine O.ld 1 rfl (ldL_c (k := .sl) (x := sq) (ldL_n ?_))
    refine O.al fun a22 h O => ?_
    have O2 : Sat h0 h (buf 1 optc sq (qp.map qpA) :: own a22 (optc (some (pt p 0))) :: quR p (QS.fresh nd 2 (copyN n)) :: own a4 [.slice sn.ptr sn.len sn.cap, .slice sq.ptr sq.len sq.cap, .slice sC.ptr sC.len sC.cap, .slice none 0 0, .slice none 0 0, .int .i64 0] :: buf 1 i64c sn (copyN n) :: many qpR qp :: buf 4 cpC sC cx :: poolR ps :: L) := O.sel [4, 0, 1, 2, 3, 5, 6, 7] 8 rfl (Nat.le_add_left _ _)
    refine Sat.app_buf (enc := optc) O2 optc_len optc_one rfl (ys := [some (pt p 0)]) rfl (rdP_own O2 1 rfl 1 (Nat.le_refl _)) (by simp only [List.length_cons, List.length_nil, List.length_map]; omega) fun sq2 h O _ => ?_
    refine ⟨_, rfl, ?_⟩
    refine st_ad (b := a4) (o := 1) rfl ?_
    refine O.st 3 rfl (by simp) rfl fun h O => ?_
    dsimp only [V.put, List.set] at O
    refine ⟨_, rfl, ?_⟩
    refine O.ld 3 rfl (ldL_c (k := .sl) (x := sC) (ldL_n ?_))
    refine O.al fun a30 h O => ?_
    refine O.frz fun h O => ?_
    have O : Sat h0 h (own a30 (firstB.flatMap u8 ++ []) :: _) := O
    have O := (O.own_buf (k := 0) (sz := 1) rfl).bufsI
    have O3 : Sat h0 h (buf 1 u8 ⟨some (pt a30 0), 5, 5⟩ firstB :: poolR ps :: buf 1 optc sq2 (qp.map qpA ++ [some (pt p 0)]) :: quR p (QS.fresh nd 2 (copyN n)) :: own a4 [.slice sn.ptr sn.len sn.cap, .slice sq2.ptr sq2.len sq2.cap, .slice sC.ptr sC.len sC.cap, .slice none 0 0, .slice none 0 0, .int .i64 0] :: buf 1 i64c sn (copyN n) :: many qpR qp :: buf 4 cpC sC cx :: L) := O.sel [0, 8, 1, 3, 4, 5, 6, 7] 9 rfl (Nat.le_add_left _ _)
    have O := pool_take O3
    refine O.al fun a33 h O => ?_
    have O2 : Sat h0 h (buf 4 cpC sC cx :: own a33 (cpC ⟨cp0, ⟨some (pt a30 0), 5, 5⟩⟩) :: poolR (ps ++ [(⟨some (pt a30 0), 5, 5⟩, firstB)]) :: buf 1 optc sq2 (qp.map qpA ++ [some (pt p 0)]) :: quR p (QS.fresh nd 2 (copyN n)) :: own a4 [.slice sn.ptr sn.len sn.cap, .slice sq2.ptr sq2.len sq2.cap, .slice sC.ptr sC.len sC.cap, .slice none 0 0, .slice none 0 0, .int .i64 0] :: buf 1 i64c sn (copyN n) :: many qpR qp :: L) := O.sel [7, 0, 1, 2, 3, 4, 5, 6] 8 rfl (Nat.le_add_left _ _)
    refine Sat.app_buf (enc := cpC) O2 cpC_len cpC_one rfl (ys := [⟨cp0, ⟨some (pt a30 0), 5, 5⟩⟩]) rfl (rdP_own O2 1 rfl 4 (Nat.le_refl _)) (by simp only [List.length_cons, List.length_nil]; omega) fun sC2 h O _ => ?_
    refine ⟨_, rfl, ?_⟩
    refine st_ad (b := a4) (o := 2) rfl ?_
    refine O.st 5 rfl (by simp) rfl fun h O => ?_
    dsimp only [V.put, List.set] at O
    rw [wrap64 (by omega) (by omega)]
    have O4 : Sat h0 h (qpR (p, QS.fresh nd 2 (copyN n)) :: many qpR qp :: own a4 [.slice sn.ptr sn.len sn.cap, .slice sq2.ptr sq2.len sq2.cap, .slice sC2.ptr sC2.len sC2.cap, .slice none 0 0, .slice none 0 0, .int .i64 0] :: buf 1 i64c sn (copyN n) :: buf 1 optc sq2 (qp.map qpA ++ [some (pt p 0)]) :: buf 4 cpC sC2 (cx ++ [⟨cp0, ⟨some (pt a30 0), 5, 5⟩⟩]) :: poolR (ps ++ [(⟨some (pt a30 0), 5, 5⟩, firstB)]) :: L) := O.sel [4, 7, 5, 6, 3, 0, 2] 8 rfl (Nat.le_add_left _ _)
    have O5 := Sat.more O4
    have eq2 : qp.map qpA ++ [some (pt p 0)] = (qp ++ [(p, QS.fresh nd 2 (copyN n))]).map qpA := by rw [List.map_append]; rfl
    rw [eq2] at O5
    refine hnx (m - 1) _ _ (by omega) ⟨r + 1, by omega, by omega, sq2, sC2, qp ++ [(p, QS.fresh nd 2 (copyN n))], _, _, ?_, ?_, ?_, O5.sel [1, 2, 3, 0, 4, 5] 6 rfl (Nat.le_add_left _ _)⟩
    · have e2 : (copyN n).take (r + 1) = (copyN n).take r ++ [nd] := by
        rw [List.take_add_one, hnd]
        rfl
      rw [e2, List.map_append, List.map_append, hq]
      rfl
    · rw [List.map_append, hc, List.replicate_succ']
      rfl
    · intro x hx
      rcases List.mem_append.1 hx with h | h
      · exact List.mem_append.2 (.inl (hp x h))
      · rw [List.mem_singleton.1 h]
        exact List.mem_append.2 (.inr (List.mem_singleton.2 rfl))
  clear O O1
  rintro h ⟨sq, sC, qp, cx, ps, hq, hc, hp, O⟩
  refine O.al fun a40 h O => ?_
  refine O.frz fun h O => ?_
  have O : Sat h0 h (own a40 (firstB.flatMap u8 ++ []) :: _) := O
  have O := (O.own_buf (k := 0) (sz := 1) rfl).bufsI
  have O3 : Sat h0 h (buf 1 u8 ⟨some (pt a40 0), 5, 5⟩ firstB :: poolR ps :: own a4 [.slice sn.ptr sn.len sn.cap, .slice sq.ptr sq.len sq.cap, .slice sC.ptr sC.len sC.cap, .slice none 0 0, .slice none 0 0, .int .i64 0] :: buf 1 i64c sn (copyN n) :: buf 1 optc sq (qp.map qpA) :: many qpR qp :: buf 4 cpC sC cx :: L) := O.sel [0, 6, 1, 2, 3, 4, 5] 7 rfl (Nat.le_add_left _ _)
  have O := pool_take O3
  have hsl : sn.len = n := by rw [(O.view 2 i64c_len (by simp) rfl).1.len, cl]
  refine ⟨_, rfl, ?_⟩
  refine O.ld 1 rfl (ldL_c (k := .sl) (x := sn) (ldL_n ?_))
  rw [hsl]
  refine O.mk_buf (by omega) (by omega) (by omega) fun b45 h O => ?_
  rw [show mkCells (Value.bool false) ((n : Int).toNat * 1) = (List.replicate n false).flatMap bo1 ++ [] from by rw [← mk_bools]] at O
  have O := (O.own_buf (k := 0) (sz := 1) rfl).bufsI
  rw [List.length_replicate, Nat.add_zero] at O
  rw [Int.toNat_natCast]
  obtain ⟨s45, hs45⟩ : ∃ s : Sl, s = ⟨some (pt b45 0), n, n⟩ := ⟨_, rfl⟩
  rw [← hs45] at O ⊢
  refine O.al fun a47 h O => ?_
  refine ⟨_, rfl, ?_⟩
  refine st_ad (b := a4) (o := 4) rfl ?_
  refine O.st 3 rfl (by simp) rfl fun h O => ?_
  dsimp only [V.put, List.set] at O
  obtain ⟨xx, hxx⟩ : ∃ xx : XX, xx = ⟨wr0 n, ⟨some (pt a40 0), 5, 5⟩, s45, 0, 0⟩ := ⟨_, rfl⟩
  have O : Sat h0 h (own a47 ([xx].flatMap wrC ++ []) :: buf 1 bo1 s45 (List.replicate n false) :: poolR (ps ++ [(⟨some (pt a40 0), 5, 5⟩, firstB)]) :: own a4 [.slice sn.ptr sn.len sn.cap, .slice sq.ptr sq.len sq.cap, .slice sC.ptr sC.len sC.cap, .slice none 0 0, .slice (some (pt a47 0)) 1 1, .int .i64 0] :: buf 1 i64c sn (copyN n) :: buf 1 optc sq (qp.map qpA) :: many qpR qp :: buf 4 cpC sC cx :: L) := by
    subst hxx
    exact O
  have O := (O.own_buf (k := 0) (sz := 6) rfl).bufsI
  have O : Sat h0 h (buf 6 wrC ⟨some (pt a47 0), 1, 1⟩ [xx] :: buf 1 bo1 s45 (List.replicate n false) :: poolR (ps ++ [(⟨some (pt a40 0), 5, 5⟩, firstB)]) :: own a4 [.slice sn.ptr sn.len sn.cap, .slice sq.ptr sq.len sq.cap, .slice sC.ptr sC.len sC.cap, .slice none 0 0, .slice (some (pt a47 0)) 1 1, .int .i64 0] :: buf 1 i64c sn (copyN n) :: buf 1 optc sq (qp.map qpA) :: many qpR qp :: buf 4 cpC sC cx :: L) := O
  refine jn0 (fun h' => Sat h0 h' (buf 1 bo1 s45 (List.replicate n true) :: buf 6 wrC ⟨some (pt a47 0), 1, 1⟩ [xx] :: poolR (ps ++ [(⟨some (pt a40 0), 5, 5⟩, firstB)]) :: own a4 [.slice sn.ptr sn.len sn.cap, .slice sq.ptr sq.len sq.cap, .slice sC.ptr sC.len sC.cap, .slice none 0 0, .slice (some (pt a47 0)) 1 1, .int .i64 0] :: buf 1 i64c sn (copyN n) :: buf 1 optc sq (qp.map qpA) :: many qpR qp :: buf 4 cpC sC cx :: L)) (fun h O => ?_) fun j51 hj51 => ?_
  · have hxs : xsR xx = buf 1 bo1 s45 (List.replicate n true) := by rw [hxx]; rfl
    have O2 : Sat h0 h (xsR xx :: many xsR [] :: buf 6 wrC ⟨some (pt a47 0), 1, 1⟩ [xx] :: poolR (ps ++ [(⟨some (pt a40 0), 5, 5⟩, firstB)]) :: own a4 [.slice sn.ptr sn.len sn.cap, .slice sq.ptr sq.len sq.cap, .slice sC.ptr sC.len sC.cap, .slice none 0 0, .slice (some (pt a47 0)) 1 1, .int .i64 0] :: buf 1 i64c sn (copyN n) :: buf 1 optc sq (qp.map qpA) :: many qpR qp :: buf 4 cpC sC cx :: L) := by
      rw [hxs]
      exact (O.none (f := xsR)).swap
    have O3 : Sat h0 h (many xsR [xx] :: buf 6 wrC ⟨some (pt a47 0), 1, 1⟩ [xx] :: poolR (ps ++ [(⟨some (pt a40 0), 5, 5⟩, firstB)]) :: own a4 [.slice sn.ptr sn.len sn.cap, .slice sq.ptr sq.len sq.cap, .slice sC.ptr sC.len sC.cap, .slice none 0 0, .slice (some (pt a47 0)) 1 1, .int .i64 0] :: buf 1 i64c sn (copyN n) :: buf 1 optc sq (qp.map qpA) :: many qpR qp :: buf 4 cpC sC cx :: L) := Sat.more O2
    have O4 := O3.nil_buf (sz := 22) (enc := mgC)
    refine k a4 (w00 n) h (w00_ok hn) ?_
    refine Sat.wldI (turn := 0) (ns := copyN n) (w00 n) ⟨sn, sq, sC, ⟨none, 0, 0⟩, ⟨some (pt a47 0), 1, 1⟩, qp, cx, [], [xx], ps ++ [(⟨some (pt a40 0), 5, 5⟩, firstB)]⟩ ⟨hq, hc, rfl, by rw [hxx]; rfl, fun x hx => List.mem_append.2 (.inl (hp x hx)), fun x hx => absurd hx List.not_mem_nil, fun x hx => ?_⟩ rfl rfl ?_
    · rw [List.mem_singleton.1 hx, hxx]
      exact List.mem_append.2 (.inr (List.mem_singleton.2 rfl))
    · exact O4.sel [4, 5, 6, 7, 8, 0, 2, 1, 3] 9 rfl (Nat.le_add_left _ _)
  rw [F_law10_world.l2.eq_1]
  have O := O.swap
  refine wl1 (k := .int .i64) (fun (m : Nat) (i : Int) (h' : Heap) => ∃ (r : Nat) (bs : List Bool), i = (r : Int) ∧ r + m = n ∧ bs.length = n ∧ (∀ j : Nat, j < r → bs[j]? = some true) ∧ Sat h0 h' (buf 1 bo1 s45 bs :: buf 6 wrC ⟨some (pt a47 0), 1, 1⟩ [xx] :: poolR (ps ++ [(⟨some (pt a40 0), 5, 5⟩, firstB)]) :: own a4 [.slice sn.ptr sn.len sn.cap, .slice sq.ptr sq.len sq.cap, .slice sC.ptr sC.len sC.cap, .slice none 0 0, .slice (some (pt a47 0)) 1 1, .int .i64 0] :: buf 1 i64c sn (copyN n) :: buf 1 optc sq (qp.map qpA) :: many qpR qp :: buf 4 cpC sC cx :: L)) ?_ (m := n) ⟨0, _, rfl, by omega, List.length_replicate, fun j hj => by omega, O⟩
  clear O
  rintro m (i : Int) h next hnx ⟨r, bs, rfl, hr, hbl, hbs, O⟩
  refine ⟨_, rfl, ?_⟩
  refine O.ld 3 rfl (ldL_c (k := .sl) (x := sn) (ldL_n ?_))
  rw [hsl]
  refine brr_p (fun hlt => ?_) (fun hlt => hj51 _ ?_)
  case refine_2 =>
    have e : bs = List.replicate n true := by
      refine List.ext_getElem? fun j => ?_
      by_cases hj : j < n
      · rw [hbs j (by omega), List.getElem?_replicate, if_pos hj]
      · rw [List.getElem?_eq_none (by omega), List.getElem?_eq_none (by simp; omega)]
    rw [e] at O
    exact O
  have W := (O.view 1 wrC_len (by simp) rfl).1
  refine ⟨_, rfl, ?_⟩
  refine O.ld 3 rfl (ldL_c (k := .sl) (x := ⟨some (pt a47 0), 1, 1⟩) (ldL_n ?_))
  refine W.getP (i := (0 : Int)) (x := xx) (by omega) rfl fun b1 hb1 => ld_drop (hb1 W) 3 ?_
  refine ldL_c (k := .sl) (x := xx.s) (ldL_n ?_)
  rw [show xx.s = s45 by rw [hxx]]
  refine O.put1 bo1_len bo1_one (by omega) (by omega) true rfl fun h O => ?_
  rw [Int.toNat_natCast] at O
  rw [wrap64 (by omega) (by omega)]
  refine hnx (m - 1) _ _ (by omega) ⟨r + 1, bs.set r true, by omega, by omega, by rw [List.length_set]; exact hbl, fun j hj => ?_, O⟩
  by_cases hjr : r = j
  · subst hjr
    rw [List.getElem?_set_self (by omega)]
  · rw [List.getElem?_set_ne hjr]
    exact hbs j (by omega)
end
end Go.Proofs.Ytigcpkejjjgkeaa.V
/- The world: its end. -/
namespace Go.Proofs.Ytigcpkejjjgkeaa.V
open Go Go.RowKit
set_option linter.unusedVariables false
set_option linter.unusedSimpArgs false

/-- An epoch is held, nothing is on its way. -/
structure Fin (w : WD) (q : QS) (k : Nat) (e : Int) (T : Tg) (bg : Int) (V : List UInt8 → Prop) : Prop where
  o : WOk w k
  l : Lv w q e T bg V
  w : w.way = []
  p : q.phase = 3
  d : q.done = q.begun
section
variable {h0 h : Heap} {L : List Res} {a : Nat} {g : GW} {w : WD} {m : Mg} {k0 : Nat} {q : QS} {turn : Int} {ns : List Int}
theorem q_at {K : Option Addr → Prop} (hq : w.qs[0]? = some q) (O : Sat h0 h (worldR a w :: L)) (k : ∀ (r : Nat) (R : List Res), Sat h0 h (quR r q :: R) → (∀ h' X, Sat h0 h' (X :: quR r q :: R) → Sat h0 h' (worldR a w :: X :: L)) → K (some (pt r 0))) :
    nn (some (pt a 0)) fun (a33 : Addr) => ld [.sl] (a33.add 1) h fun (v34 : Sl) => ixS 1 v34 0 fun (a35 : Addr) => ld [.ptr] a35 h fun (v36 : Option Addr) => K v36 := by
  obtain ⟨g, gk, O⟩ := O.wld
  have O := O w.turn rfl
  obtain ⟨r, hr⟩ := qp_at gk hq
  have hqa : (g.qp.map qpA)[0]? = some (some (pt r 0)) := by rw [List.getElem?_map, hr]; rfl
  refine ⟨_, rfl, ?_⟩
  refine O.ld 0 rfl (ldL_c (k := .sl) (x := g.sq) (ldL_n ?_))
  refine (O.view 2 optc_len (by simp) rfl).1.get1 (k := .ptr) (by omega) (x := some (pt r 0)) hqa id (fun _ => rfl) ?_
  have O2 := q_out hr O
  refine k r (hole qpR g.qp 0 :: own a [.slice g.sn.ptr g.sn.len g.sn.cap, .slice g.sq.ptr g.sq.len g.sq.cap, .slice g.sC.ptr g.sC.len g.sC.cap, .slice g.sw.ptr g.sw.len g.sw.cap, .slice g.sx.ptr g.sx.len g.sx.cap, .int .i64 w.turn] :: buf 1 i64c g.sn w.β.ns :: buf 1 optc g.sq (g.qp.map qpA) :: buf 4 cpC g.sC g.cl :: buf 22 mgC g.sw g.wl :: buf 6 wrC g.sx g.xl :: many xsR g.xl :: poolR g.ps :: L) O2 fun h' X O3 => ?_
  have O4 : Sat h0 h' (quR r q :: hole qpR g.qp 0 :: own a [.slice g.sn.ptr g.sn.len g.sn.cap, .slice g.sq.ptr g.sq.len g.sq.cap, .slice g.sC.ptr g.sC.len g.sC.cap, .slice g.sw.ptr g.sw.len g.sw.cap, .slice g.sx.ptr g.sx.len g.sx.cap, .int .i64 w.turn] :: buf 1 i64c g.sn w.β.ns :: buf 1 optc g.sq (g.qp.map qpA) :: buf 4 cpC g.sC g.cl :: buf 22 mgC g.sw g.wl :: buf 6 wrC g.sx g.xl :: many xsR g.xl :: poolR g.ps :: X :: L) := O3.sel [1, 2, 3, 4, 5, 6, 7, 8, 9, 10, 0] 11 rfl (Nat.le_add_left _ _)
  have O5 := q_in (turn := w.turn) (ns := w.β.ns) gk hr rfl rfl O4
  have e : w.qs.set 0 q = w.qs := set_same hq
  rw [e] at O5
  exact O5
theorem ends_high {Q : Int → Heap → Prop} (o : WOk w k0) (hk : k0 ≤ 8000) (O : Sat h0 h (own a [.slice g.sn.ptr g.sn.len g.sn.cap, .slice g.sq.ptr g.sq.len g.sq.cap, .slice g.sC.ptr g.sC.len g.sC.cap, .slice g.sw.ptr g.sw.len g.sw.cap, .slice g.sx.ptr g.sx.len g.sx.cap, .int .i64 w.turn] :: buf 1 i64c g.sn w.β.ns :: buf 1 optc g.sq (g.qp.map qpA) :: many qpR g.qp :: buf 4 cpC g.sC g.cl :: buf 22 mgC g.sw g.wl :: buf 6 wrC g.sx g.xl :: many xsR g.xl :: poolR g.ps :: L)) (gk : GOk g w) (j : ∀ (hi : Int), 0 ≤ hi → hi ≤ 20 * (k0 : Int) → (∀ (a : Nat) c, w.β.cs[a]? = some c → c.prom ≤ hi) → Q hi h) : F_law10_World_ends.l1 (some (pt a 0)) Q 0 0 h := by
  have B := o.B
  have n7 := B.n7
  have hcl := B.cl
  have gcl : g.cl.length = w.β.cs.length := by have := congrArg List.length gk.gc; rw [List.length_map] at this; exact this
  have W := (O.view 4 cpC_len (by simp) rfl).1
  rw [F_law10_World_ends.l1.eq_1]
  refine wl2 (k := .int .u64) (l := .int .i64) (fun (m : Nat) (hi i : Int) (h' : Heap) => h = h' ∧ i + m = w.β.cs.length ∧ 0 ≤ i ∧ 0 ≤ hi ∧ hi ≤ 20 * (k0 : Int) ∧ ∀ (a : Nat) c, (a : Int) < i → w.β.cs[a]? = some c → c.prom ≤ hi) ?_ (m := w.β.cs.length) ⟨rfl, by omega, by omega, by omega, by omega, fun a c h => by omega⟩
  rintro m (hi : Int) (i : Int) h2 next hnx ⟨rfl, him, hi0, h1, h2, h3⟩
  obtain ⟨r, rfl⟩ : ∃ r : Nat, i = (r : Int) := ⟨i.toNat, by omega⟩
  refine ⟨_, rfl, ?_⟩
  refine O.ld 0 rfl (ldL_c (k := .sl) (x := g.sC) (ldL_n ?_))
  rw [W.len, gcl]
  refine brr_p (fun hlt => ?_) (fun hlt => j hi h1 h2 fun a c hc => h3 a c (by have := (List.getElem?_eq_some_iff.1 hc).1; omega) hc)
  obtain ⟨y, hy⟩ : ∃ y, g.cl[r]? = some y := ⟨_, List.getElem?_eq_getElem (by omega)⟩
  have hc : w.β.cs[r]? = some y.c := by rw [← gk.gc, List.getElem?_map, hy]; rfl
  obtain ⟨c1, c2, c3⟩ := B.c r y.c hc
  refine ⟨_, rfl, ?_⟩
  refine O.ld 0 rfl (ldL_c (k := .sl) (x := g.sC) (ldL_n ?_))
  refine W.getP (x := y) (by omega) (by rw [Int.toNat_natCast]; exact hy) fun b1 hb1 => ld_drop (hb1 W) 0 (ldL_c (ldL_n ?_))
  refine jn1 (fun (z : Int) h' => h = h' ∧ 0 ≤ z ∧ z ≤ 20 * (k0 : Int) ∧ hi ≤ z ∧ y.c.prom ≤ z) ?_ ?_
  · rintro z h' ⟨rfl, g1, g2, g3, g4⟩
    rw [wrap64 (by omega) (by omega)]
    refine hnx (m - 1) _ _ _ (by omega) ⟨rfl, by omega, by omega, g1, g2, fun a c ha hc2 => ?_⟩
    by_cases har : a = r
    · subst har
      rw [hc] at hc2
      cases hc2
      exact g4
    · have := h3 a c (by omega) hc2
      omega
  · intro j2 hj2
    refine brr_p (fun hgt => ?_) (fun hgt => hj2 _ _ ⟨rfl, h1, h2, by omega, by omega⟩)
    refine ⟨_, rfl, ?_⟩
    refine O.ld 0 rfl (ldL_c (k := .sl) (x := g.sC) (ldL_n ?_))
    refine W.getP (x := y) (by omega) (by rw [Int.toNat_natCast]; exact hy) fun b1 hb1 => ld_drop (hb1 W) 0 (ldL_c (ldL_n ?_))
    exact hj2 _ _ ⟨rfl, c2, c3, by omega, by omega⟩
/-- The two proposals. -/
theorem ends_two {Q : Bool → Heap → Prop} {j : Heap → Prop} {e : Int} {V : List UInt8 → Prop} (hk : k0 ≤ 6000) (F : Fin w q k0 e (e, 1) 0 V) (O : Sat h0 h (worldR a w :: L))
    (k : ∀ (w2 : WD) (q2 : QS) h', Fin w2 q2 (k0 + 402) e (e, 3) 0 (fun v => v = valB w2.turn) → Sat h0 h' (worldR a w2 :: L) → j h') : F_law10_World_ends.l2 F_quorum_Quorum_Phase F_law10_World_step F_law10_World_all (some (pt a 0)) Q j 0 h := by
  rw [F_law10_World_ends.l2.eq_1]
  refine wl1 (k := .int .i64) (fun (m : Nat) (i : Int) (h' : Heap) => ∃ r : Nat, i = (r : Int) ∧ r + m = 2 ∧ ∃ (w : WD) (q : QS) (V : List UInt8 → Prop), Fin w q (k0 + 201 * r) e (e, 1 + (r : Int)) 0 V ∧ (r = 2 → V = fun v => v = valB w.turn) ∧ Sat h0 h' (worldR a w :: L)) ?_ (m := 2) ⟨0, rfl, by omega, w, q, V, by simpa using F, fun h => by omega, O⟩
  clear O F
  rintro m (i : Int) h next hnx ⟨r, rfl, hr, w, q, V, F, hV, O⟩
  refine brr_p (fun hlt => ?_) (fun hlt => ?_)
  case refine_2 =>
    have e2 : r = 2 := by omega
    subst e2
    have hV := hV rfl
    subst hV
    exact k w q h F O
  refine jn1 (fun z h' => z = false ∧ ∃ (w : WD) (q : QS), Fin w q (k0 + 201 * (r + 1)) e (e, 1 + ((r + 1 : Nat) : Int)) 0 (fun v => v = valB w.turn) ∧ Sat h0 h' (worldR a w :: L)) ?_ ?_
  · clear O F hV
    rintro z h ⟨rfl, w, q, F, O⟩
    refine brr_ff rfl ?_
    rw [wrap64 (by omega) (by omega)]
    exact hnx (m - 1) _ _ (by omega) ⟨r + 1, by omega, by omega, w, q, _, F, fun _ => rfl, O⟩
  · intro j2 hj2
    refine F_law10_World_step.is F.o (by omega) O fun w2 h o2 s2 O => ?_
    refine brr_ff rfl ?_
    obtain ⟨q1, hq1, hw2⟩ := s2.p rfl rfl
    rw [F.l.q0] at hq1
    cases hq1
    obtain ⟨l2, m2⟩ := lv_prop (b := valB (w.turn + 1)) (tn := w.turn + 1) F.o F.l F.w F.p F.d (by show 1 + (r : Int) < _; omega)
    rw [← hw2] at l2 m2
    have t2 : w2.turn = w.turn + 1 := by rw [hw2]; rfl
    refine F_law10_World_all.lv o2 (by omega) l2 m2 O fun w3 q3 h o3 t3 e3 l3 p3 d3 O => ?_
    refine brr_ff rfl ?_
    refine q_at l3.q0 O fun r1 R O1 _ => ?_
    refine F_quorum_Quorum_Phase.is O1 ?_
    refine hj2 _ _ ⟨by rw [p3]; rfl, w3, q3, ⟨wok_mono o3 (by omega), ?_, e3, p3, d3⟩, O⟩
    rw [show (1 + ((r + 1 : Nat) : Int)) = 1 + (r : Int) + 1 by omega, t3, t2]
    exact l3
/-- What is chosen at last. -/
theorem ends_last {Q : Bool → Heap → Prop} {e : Int} (hk : k0 ≤ 8000) (F : Fin w q k0 e (e, 3) 1 (fun v => v = valB w.turn)) (O : Sat h0 h (worldR a w :: L))
    (k : ∀ h', Sat h0 h' (worldR a w :: L) → Q true h') : 
    (nn (some (pt a 0)) fun (a66 : Addr) =>
      ld [.sl] (a66.add 1) h fun (v67 : Sl) =>
      ixS 1 v67 0 fun (a68 : Addr) =>
      ld [.ptr] a68 h fun (v69 : Option Addr) =>
      F_quorum_Quorum_Chosen v69 h fun (r70 : Int) (r71 : Int) (r72 : Sl) (h73 : Heap) =>
      al 35 [.int .u64 0, .int .u64 0] h73 fun (a74 : Addr) (h75 : Heap) =>
      st a74 [.int .u64 r70, .int .u64 r71] h75 fun (h76 : Heap) =>
      nn (some (pt a 0)) fun (a77 : Addr) =>
      ld [.sl] (a77.add 1) h76 fun (v78 : Sl) =>
      ixS 1 v78 0 fun (a79 : Addr) =>
      ld [.ptr] a79 h76 fun (v80 : Option Addr) =>
      F_quorum_Quorum_Round v80 h76 fun (r81 : Int) (r82 : Int) (h83 : Heap) =>
      jn [(2, .one .bool)] (fun (x96 : Bool) (h97 : Heap) =>
      Q x96 h97) (fun (j84 : Bool → Heap → Prop) =>
      ld [.int .u64] (a74.add 1) h83 fun (v85 : Int) =>
      brr (v85 == 3)
      (nn (some (pt a 0)) fun (a86 : Addr) =>
      ld [.int .i64] (a86.add 5) h83 fun (v87 : Int) =>
      nn (some (pt a 0)) fun (a88 : Addr) =>
      ld [.int .i64] (a88.add 5) h83 fun (v89 : Int) =>
      0 ≤ (8 : Int) ∧
      al 5 [.int .u8 118, .int .u8 (IntKind.u8.wrap v87), .int .u8 (IntKind.u8.wrap (v89.fdiv (2 ^ min (8 : Int).toNat IntKind.i64.bits)))] h83 fun (a90 : Addr) (h91 : Heap) =>
      F_ref0_Eq r72 ⟨(some a90), 3, 3⟩ h91 fun (r92 : Bool) (h93 : Heap) =>
      brr r92
      (brr (r81 == 1)
      (brr (r82 == 1)
      (F_law10_World_still (some (pt a 0)) h93 fun (r94 : Bool) (h95 : Heap) =>
      j84 r94 h95)
      (j84 false h93))
      (j84 false h93))
      (j84 false h93))
      (j84 false h83))) := by
  have oq := F.o.q 0 q F.l.q0
  have htn := F.o.t
  have tg := F.l.tg (by have := F.p; omega)
  have hch : q.chosen = (e, 3) := (oq.iv.p3 F.p).trans tg.1
  have hwh : q.what = valB w.turn := (oq.p3 F.p).trans tg.2
  have hbg : q.begun = 1 := F.l.eg
  have hdn : q.done = 1 := F.d.trans hbg
  refine q_at F.l.q0 O fun r R O1 back => ?_
  refine F_quorum_Quorum_Chosen.is oq.iv.ok O1 fun s h O1 => ?_
  have O := back h _ O1
  clear O1 back
  rw [hch, hwh] at *
  refine O.al fun a74 h O => ?_
  refine O.st 0 rfl (by simp) rfl fun h O => ?_
  dsimp only [V.put, List.set] at O
  have O : Sat h0 h (own a74 [.int .u64 e, .int .u64 3] :: worldR a w :: buf 1 u8 s (valB w.turn) :: L) := O
  refine q_at F.l.q0 O.swap fun r R O1 _ => ?_
  refine F_quorum_Quorum_Round.is O1 ?_
  clear O1
  rw [hbg, hdn]
  refine jn_go ?_
  refine O.ld 0 rfl (ldL_c (ldL_n ?_))
  refine brr_tt rfl ?_
  obtain ⟨g, gk, O⟩ := O.swap.wld
  have O := O w.turn rfl
  refine ⟨_, rfl, ?_⟩
  refine O.ld 0 rfl (ldL_c (ldL_n ?_))
  refine ⟨_, rfl, ?_⟩
  refine O.ld 0 rfl (ldL_c (ldL_n ?_))
  refine ⟨by decide, ?_⟩
  refine O.al fun a90 h O => ?_
  have e2 : w.turn.fdiv (2 ^ min (8 : Int).toNat IntKind.i64.bits) = ((w.turn.toNat / 256 : Nat) : Int) := by
    rw [show (2 : Int) ^ min (8 : Int).toNat IntKind.i64.bits = 256 from rfl, Int.fdiv_eq_ediv_of_nonneg _ (by omega)]
    omega
  have e1 : IntKind.u8.wrap w.turn = ((UInt8.ofNat w.turn.toNat).toNat : Int) := by
    rw [← wrap8W]
    congr 1
    omega
  rw [e2, e1, wrap8W] at O
  have O : Sat h0 h (own a90 ((valB w.turn).flatMap u8 ++ []) :: _) := O
  have O := (O.own_buf (k := 0) (sz := 1) rfl).bufsI
  have O : Sat h0 h (buf 1 u8 ⟨some (pt a90 0), 3, 3⟩ (valB w.turn) :: own a [.slice g.sn.ptr g.sn.len g.sn.cap, .slice g.sq.ptr g.sq.len g.sq.cap, .slice g.sC.ptr g.sC.len g.sC.cap, .slice g.sw.ptr g.sw.len g.sw.cap, .slice g.sx.ptr g.sx.len g.sx.cap, .int .i64 w.turn] :: buf 1 i64c g.sn w.β.ns :: buf 1 optc g.sq (g.qp.map qpA) :: many qpR g.qp :: buf 4 cpC g.sC g.cl :: buf 22 mgC g.sw g.wl :: buf 6 wrC g.sx g.xl :: many xsR g.xl :: poolR g.ps :: own a74 [.int .u64 e, .int .u64 3] :: buf 1 u8 s (valB w.turn) :: L) := O
  have hv : (valB w.turn).length = 3 := rfl
  refine F_ref0_Eq.is (xs := valB w.turn) (ys := valB w.turn) (O.view 11 u8_len (by simp) rfl).1 (O.view 0 u8_len (by simp) rfl).1 (by omega) (by omega) ?_
  rw [decide_eq_true rfl]
  refine brr_tt rfl (brr_tt rfl (brr_tt rfl ?_))
  have O := Sat.wldI (turn := w.turn) (ns := w.β.ns) w g gk rfl rfl (O.sel [1, 2, 3, 4, 5, 6, 7, 8, 9, 0, 10, 11] 12 rfl (Nat.le_add_left _ _))
  refine F_law10_World_still.is F.o (by omega) O fun h O => ?_
  exact k h (O.sel [0] 4 rfl (Nat.le_add_left _ _))
end
end Go.Proofs.Ytigcpkejjjgkeaa.V
/- The world: its end; the law. -/
namespace Go.Proofs.Ytigcpkejjjgkeaa.V
open Go Go.RowKit
set_option linter.unusedVariables false
set_option linter.unusedSimpArgs false

section
variable {h0 h : Heap} {L : List Res} {a : Nat} {g : GW} {w : WD} {m : Mg} {k0 : Nat} {q : QS} {turn : Int} {ns : List Int}
set_option maxRecDepth 20000 in
theorem F_law10_World_ends.is {Q : Bool → Heap → Prop} (o : WOk w k0) (hk : k0 ≤ 5000) (O : Sat h0 h (worldR a w :: L))
    (k : ∀ (w2 : WD) h', Sat h0 h' (worldR a w2 :: L) → Q true h') : F_law10_World_ends (some (pt a 0)) h Q := by
  rw [F_law10_World_ends.eq_1, F_law10_World_ends_of.eq_1]
  have start : ∀ {K : Heap → Prop}, (∀ h', Sat h0 h' (worldR a { w with way := [] } :: L) → K h') → nn (some (pt a 0)) fun (a2 : Addr) => st (a2.add 3) [.slice none 0 0] h fun (h3 : Heap) => K h3 := by
    intro K kk
    obtain ⟨g, gk, O⟩ := O.wld
    have O := O w.turn rfl
    refine ⟨_, rfl, ?_⟩
    refine st_ad (b := a) (o := 3) rfl ?_
    refine O.st 0 rfl (by simp) rfl fun h O => ?_
    dsimp only [V.put, List.set] at O
    have O2 := O.nil_buf (sz := 22) (enc := mgC)
    refine kk _ ?_
    exact Sat.wldI (turn := w.turn) (ns := w.β.ns) { w with way := [] } { g with sw := ⟨none, 0, 0⟩, wl := [] } ⟨gk.gq, gk.gc, rfl, gk.gx, gk.pc, fun x hx => absurd hx List.not_mem_nil, gk.px⟩ rfl rfl (O2.sel [1, 2, 3, 4, 5, 0, 7, 8, 9] 10 rfl (Nat.le_add_left _ _))
  refine start fun h O => ?_
  clear start
  have o1 : WOk { w with way := [] } k0 := way_ok o (fun m hm => absurd hm List.not_mem_nil) (by show (0 : Nat) ≤ _; omega)
  obtain ⟨w1, hw1⟩ : ∃ w1 : WD, w1 = { w with way := [] } := ⟨_, rfl⟩
  have e1 : w1.way = [] := by rw [hw1]
  rw [← hw1] at o1 O
  clear hw1 o
  have B := o1.B
  have n1 := B.n1
  have n7 := B.n7
  have hcl := B.cl
  have hql := o1.ql
  obtain ⟨q, hq⟩ : ∃ q, w1.qs[0]? = some q := ⟨_, List.getElem?_eq_getElem (by omega)⟩
  obtain ⟨c, hc⟩ : ∃ c, w1.β.cs[0]? = some c := ⟨_, List.getElem?_eq_getElem (by omega)⟩
  refine jn1 (fun (hi : Int) h' => hi ≤ 20 * (k0 : Int) ∧ (∀ (a : Nat) c, w1.β.cs[a]? = some c → c.prom ≤ hi) ∧ Sat h0 h' (worldR a w1 :: L)) ?_ ?_
  case refine_2 =>
    intro j hj
    obtain ⟨g, gk, O2⟩ := O.wld
    have O2 := O2 w1.turn rfl
    exact ends_high o1 (by omega) O2 gk fun hi h1 h2 h3 => hj _ _ ⟨h2, h3, O⟩
  clear O
  rintro hi h ⟨hi1, hi2, O⟩
  obtain ⟨w2, hw2⟩ : ∃ w2 : WD, w2 = { w1 with β := raiseB w1.β 0 c hi } := ⟨_, rfl⟩
  have raise : ∀ {K : Heap → Prop}, (∀ h', Sat h0 h' (worldR a w2 :: L) → K h') → nn (some (pt a 0)) fun (a24 : Addr) => ld [.sl] (a24.add 2) h fun (v25 : Sl) => ixS 4 v25 0 fun (a26 : Addr) => st (a26.add 0) [.int .u64 hi] h fun (h27 : Heap) => K h27 := by
    intro K kk
    obtain ⟨g, gk, O⟩ := O.wld
    have O := O w1.turn rfl
    obtain ⟨y, hy, hyc⟩ : ∃ y : CX, g.cl[0]? = some y ∧ y.c = c := by
      rw [← gk.gc, List.getElem?_map] at hc
      cases h : g.cl[0]? with
      | none => rw [h] at hc; cases hc
      | some x => rw [h] at hc; exact ⟨x, rfl, Option.some.inj hc⟩
    refine ⟨_, rfl, ?_⟩
    refine O.ld 0 rfl (ldL_c (k := .sl) (x := g.sC) (ldL_n ?_))
    have W := (O.view 4 cpC_len (by simp) rfl).1
    refine View.ptr (i := 0) W hy fun b8 hb8 => ?_
    have O2 : Sat h0 h (buf 4 cpC g.sC g.cl :: own a [.slice g.sn.ptr g.sn.len g.sn.cap, .slice g.sq.ptr g.sq.len g.sq.cap, .slice g.sC.ptr g.sC.len g.sC.cap, .slice g.sw.ptr g.sw.len g.sw.cap, .slice g.sx.ptr g.sx.len g.sx.cap, .int .i64 w1.turn] :: buf 1 i64c g.sn w1.β.ns :: buf 1 optc g.sq (g.qp.map qpA) :: many qpR g.qp :: buf 22 mgC g.sw g.wl :: buf 6 wrC g.sx g.xl :: many xsR g.xl :: poolR g.ps :: L) := O.sel [4, 0, 1, 2, 3, 5, 6, 7, 8] 9 rfl (Nat.le_add_left _ _)
    refine O2.fld cpC_len hy hb8 (by simp) rfl (y := ⟨{ y.c with prom := hi }, y.v⟩) rfl fun h O => ?_
    refine kk _ ?_
    have hyl := (List.getElem?_eq_some_iff.1 hy).1
    subst hw2
    refine Sat.wldI (turn := w1.turn) (ns := w1.β.ns) _ { g with cl := g.cl.set 0 ⟨{ y.c with prom := hi }, y.v⟩ } ⟨gk.gq, ?_, gk.gw, gk.gx, fun z hz => ?_, gk.pw, gk.px⟩ rfl rfl (O.sel [1, 2, 3, 4, 0, 5, 6, 7, 8] 9 rfl (Nat.le_add_left _ _))
    · show (g.cl.set 0 _).map CX.c = w1.β.cs.set 0 _
      rw [List.map_set, gk.gc, hyc]
    · have hz : z ∈ g.cl.set 0 ⟨{ y.c with prom := hi }, y.v⟩ := hz
      rcases List.mem_or_eq_of_mem_set hz with h | rfl
      · exact gk.pc z h
      · exact gk.pc y (List.mem_of_getElem? hy)
  refine raise fun h O => ?_
  clear raise
  have hcl0 := (List.getElem?_eq_some_iff.1 hc).1
  have hp := hi2 0 c hc
  have o2 : WOk w2 (k0 + 1) := by
    obtain ⟨X, G⟩ := raise_ok (F := 20 * (k0 : Int) + 20) (e := hi) B hc hp (by omega) (by omega)
    have := base_ok (ms := []) o1 X G (fun x hx => ⟨x, hx, rfl⟩) (by show w1.β.wrs.length ≤ _; have := o1.xl; omega) (fun x hx => absurd hx List.not_mem_nil) (by simp)
    rw [List.append_nil] at this
    rw [hw2]
    exact this
  have hq2 : w2.qs[0]? = some q := by rw [hw2]; exact hq
  have e2 : w2.way = [] := by rw [hw2]; exact e1
  obtain ⟨c2, hc2⟩ : ∃ c2 : CP, c2 = { c with prom := hi } := ⟨_, rfl⟩
  have hcs : w2.β.cs = w1.β.cs.set 0 c2 := by rw [hw2, hc2]; rfl
  have hcc : w2.β.cs[0]? = some c2 := by rw [hcs, List.getElem?_set_self hcl0]
  have hall : ∀ (a : Nat) c3, w2.β.cs[a]? = some c3 → c3.prom ≤ c2.prom := by
    intro a c3 h3
    rw [hcs] at h3
    by_cases ha : 0 = a
    · subst ha
      rw [List.getElem?_set_self hcl0] at h3
      cases h3
      exact Int.le_refl _
    · rw [List.getElem?_set_ne ha] at h3
      have := hi2 a c3 h3
      rw [hc2]
      exact this
  refine jn1 (fun z h' => z = false ∧ ∃ (w3 : WD) (q3 : QS) (e : Int), Fin w3 q3 (k0 + 202) e (e, 1) 0 (fun _ => True) ∧ Sat h0 h' (worldR a w3 :: L)) ?_ ?_
  case refine_2 =>
    intro j hj
    refine F_law10_World_starts.is (p := 0) o2 (by omega) hq2 hcc O fun e h g1 g2 g3 O => ?_
    refine brr_ff rfl ?_
    have o3 := (start_ok o2 hq2 hcc g1 g3 g2).2
    obtain ⟨l3, m3⟩ := lv_start o2 e2 hq2 hcc hall g1
    refine F_law10_World_all.lv o3 (by omega) l3 m3 O fun w3 q3 h o4 t4 e4 l4 p4 d4 O => ?_
    refine brr_ff rfl ?_
    refine q_at l4.q0 O fun r R O1 _ => ?_
    refine F_quorum_Quorum_Holds.is O1 ?_
    have hh : q3.holds = true := by unfold QS.holds; rw [p4]; rfl
    rw [hh]
    exact hj _ _ ⟨rfl, w3, q3, e, ⟨wok_mono o4 (by omega), l4, e4, p4, d4⟩, O⟩
  clear O o1 o2
  rintro z h ⟨rfl, w3, q3, e, F, O⟩
  refine brr_ff rfl ?_
  refine jn0 (fun h' => ∃ (w4 : WD) (q4 : QS), Fin w4 q4 (k0 + 202 + 402) e (e, 3) 0 (fun v => v = valB w4.turn) ∧ Sat h0 h' (worldR a w4 :: L)) ?_ ?_
  case refine_2 =>
    intro j hj
    exact ends_two (by omega) F O fun w4 q4 h F O => hj _ ⟨w4, q4, F, O⟩
  clear O F
  rintro h ⟨w4, q4, F, O⟩
  refine jn1 (fun z h' => z = false ∧ ∃ (w5 : WD) (q5 : QS), Fin w5 q5 (k0 + 202 + 402 + 201) e (e, 3) 1 (fun v => v = valB w5.turn) ∧ Sat h0 h' (worldR a w5 :: L)) ?_ ?_
  case refine_2 =>
    intro j hj
    refine F_law10_World_step.is F.o (by omega) O fun w5 h o5 s5 O => ?_
    refine brr_ff rfl ?_
    obtain ⟨q1, hq1, hw5⟩ := s5.t rfl rfl
    rw [F.l.q0] at hq1
    cases hq1
    obtain ⟨l5, m5⟩ := lv_tick F.o F.l F.w F.p F.d (by decide)
    rw [← hw5] at l5 m5
    have t5 : w5.turn = w4.turn := by rw [hw5]; rfl
    refine F_law10_World_all.lv o5 (by omega) l5 m5 O fun w6 q6 h o6 t6 e6 l6 p6 d6 O => ?_
    refine hj _ _ ⟨rfl, w6, q6, ⟨wok_mono o6 (by omega), ?_, e6, p6, d6⟩, O⟩
    rw [t6, t5]
    exact l6
  clear O F
  rintro z h ⟨rfl, w5, q5, F, O⟩
  refine brr_ff rfl ?_
  exact ends_last (by omega) F O fun h O => k w5 h O
theorem quorumRow_main (H : Heap) (cs : List Value) (F : Fit H 140737488351232 tyNodes cs) : E_law10_QuorumRow [.agg cs.toArray] H (fun r h' => r = .bool true ∧ KeptH H h') := by
  obtain ⟨t1, _, rfl, t1a, t1b, F⟩ := Fit.i F
  obtain ⟨t2, _, rfl, t2S, F⟩ := Fit.s F
  obtain rfl := Fit.e F
  refine Eq.mpr (E_law10_QuorumRow.at F_law10_QuorumRow t1 t2 H _) ?_
  obtain ⟨xs, Vo, hx⟩ := t2S.steps
  rw [F_law10_QuorumRow.eq_1, F_law10_QuorumRow_of.eq_1]
  refine Sat.al (Sat.nil H) fun a3 h1 O => ?_
  refine O.ld 0 rfl (ldL_c (ldL_n ?_))
  refine F_law10_world.is O fun a w h o O => ?_
  refine brr_ff rfl ?_
  refine jn0 (fun h' => ∃ (w2 : WD), WOk w2 400 ∧ Sat H h' [worldR a w2, own a3 [.int .i64 t1, .slice t2.ptr t2.len t2.cap]]) ?_ ?_
  · clear O o
    rintro h ⟨w2, o, O⟩
    refine jn1 (fun z h' => z = true ∧ KeptH H h') (fun z h hh => ⟨by rw [hh.1], hh.2⟩) fun j hj => ?_
    refine F_law10_World_still.is o (by omega) O fun h O => ?_
    refine brr_tt rfl ?_
    refine F_law10_World_ends.is o (by omega) O fun w3 h O => ?_
    exact hj _ _ ⟨rfl, O.kept⟩
  intro j hj
  rw [F_law10_QuorumRow.l1.eq_1]
  refine wl1 (k := .int .i64) (fun (m : Nat) (i : Int) (h' : Heap) => ∃ r : Nat, i = (r : Int) ∧ r + m = 400 ∧ ∃ (w2 : WD), WOk w2 r ∧ Sat H h' [worldR a w2, own a3 [.int .i64 t1, .slice t2.ptr t2.len t2.cap]]) ?_ (m := 400) ⟨0, rfl, rfl, w, o, O⟩
  clear O o
  rintro m (i : Int) h next hnx ⟨r, rfl, hr, w2, o, O⟩
  refine jn1 (fun z h' => h = h' ∧ (z = true → r < 400 ∧ r < xs.length)) ?_ ?_
  case refine_2 =>
    intro j2 hj2
    refine O.ld 1 rfl (ldL_s (ldL_n ?_))
    rw [Vo.len]
    refine brr_p (fun h1 => ?_) (fun h1 => hj2 _ _ ⟨rfl, fun h => absurd h (by decide)⟩)
    exact hj2 _ _ ⟨rfl, fun hz => by have := of_decide_eq_true hz; omega⟩
  rintro z h' ⟨rfl, hz⟩
  refine brr_of (fun hzt => ?_) (fun _ => hj _ ⟨w2, wok_mono o (by omega), O⟩)
  obtain ⟨h1, h2⟩ := hz hzt
  refine O.ld 1 rfl (ldL_s (ldL_n ?_))
  obtain ⟨x, hx1⟩ : ∃ x, xs[r]? = some x := ⟨_, List.getElem?_eq_getElem h2⟩
  refine (Vo.kept O.kept).getP (x := x) (by omega) (by rw [Int.toNat_natCast]; exact hx1) fun b hb => ld_are (hb (Vo.kept O.kept)) ?_
  unfold stC
  repeat (first | (with_reducible refine ldL_n ?_) | refine ldL_s ?_ | refine ldL_c ?_)
  refine F_law10_World_step.is o (by omega) O fun w3 h o3 s3 O => ?_
  refine brr_ff rfl ?_
  rw [wrap64 (by omega) (by omega)]
  exact hnx (m - 1) _ _ (by omega) ⟨r + 1, by omega, by omega, w3, o3, O⟩
end
end Go.Proofs.Ytigcpkejjjgkeaa.V
