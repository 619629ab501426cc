/- CodePlace: what is handed in is not kept. -/
import Derived.Test.YtompmkmbppcadaaDoorRows
import Derived.Test.YtompmkmbppcadaaDoorCards
import Derived.Test.YtompmkmbppcadaaDoorTie
import Derived.Test.YtompmkmbppcadaaDoorZCodePlace2
import Derived.WalkKit
import Derived.ProofKit
import Derived.OpenShut
import Derived.ShutString
import Derived.ChangeOld
import Derived.Below
import Derived.SizedLaws
import Derived.Carry
import Derived.Deep.DeepHandedRow
import Derived.Lib.LaidTab
namespace Go.Proofs.YtompmkmbppcadaaDoor.codePlaceUptoLaw
open Go.ChangeShapes Go.WideShapes Go.ChangeAt Go.RowKit
set_option linter.unusedVariables false
theorem own : ownKnob Tryd.prog.godebug = none := by kernel_rfl
theorem laidOut : laidOutB Tryd.prog = true := by kernel_rfl
theorem gTab : Tryd.prog.globalNamed "tally/code.errnos" = some 0 := by kernel_rfl
theorem gTabType : (Tryd.prog.globals[0]?).map (·.type) = some 64 := by kernel_rfl
theorem cellsT : Tryd.prog.cellsOf 64 = 5 := by kernel_rfl
theorem cellsE : Tryd.prog.cellsOf 43 = 1 := by kernel_rfl
theorem undT : Tryd.prog.underlying 64 = some (.array 5 43) := by kernel_rfl
theorem undE : Tryd.prog.underlying 43 = some (.int .i64) := by kernel_rfl
/-- What the row's list gives: the table's cells. -/
theorem table {W : World} (h : laidMetH Tryd.prog Rows.codePlaceUptoRow.laid W) : Lib.TabIs Tryd.prog W "tally/code.errnos" .i64 [0, 10, 11, 12, 14] :=
  Lib.tabIs_of_head (rest := []) gTab gTabType undT undE cellsE cellsT h
theorem cells {W : World} (h : laidMetH Tryd.prog Rows.codePlaceUptoRow.laid W) : V.cellsAre W.heap (V.pt 0 0) [.int .i64 0, .int .i64 10, .int .i64 11, .int .i64 12, .int .i64 14] :=
  ⟨(table h).cell gTab 0 (by decide), (table h).cell gTab 1 (by decide), (table h).cell gTab 2 (by decide), (table h).cell gTab 3 (by decide), (table h).cell gTab 4 (by decide), trivial⟩
/-- A world for the witness: the settled one, the table holding what its initialiser lays. -/
noncomputable def laidWorld (os : Os) : World :=
  { World.holding Tryd.prog os ⟨#[], #[], []⟩ with heap := (World.holding Tryd.prog os ⟨#[], #[], []⟩).heap.modify 0 fun
      | .cells _ t frozen => .cells #[.int .i64 0, .int .i64 10, .int .i64 11, .int .i64 12, .int .i64 14] t frozen
      | o => o }
theorem laid_met (os : Os) : laidMet Tryd.prog Rows.codePlaceUptoRow.laid ((laidWorld os).forCall (fun _ _ => 0) ⟨#[], #[V.zeroOf Tryd.prog 26], []⟩).memory :=
  laidMet_of_run' 8 (by kernel_rfl) (by kernel_rfl)
theorem reads (os : Os) {H : Type} (enc : TypeId × Value → H) : ∃ places, DataW.whole enc Tryd.prog ((laidWorld os).forCall (fun _ _ => 0) ⟨#[], #[V.zeroOf Tryd.prog 26], []⟩).memory Tryd.f5.params.toList Rows.codePlaceSpec.vars false #[V.zeroOf Tryd.prog 26].toList 8 = some ([.agg [.agg [.nil, .nil], .nil]], [], places) :=
  ⟨[], by kernel_rfl⟩
set_option maxRecDepth 100000 in
theorem lifted (os : Os) (started : os.Started) (H : Type) (enc : TypeId × Value → H) (F : Stop.Interp) :
    ReturnsInHanded {} Tryd.checked os 5 .any ((Rows.OpenSpec.upto Rows.codePlaceSpec).preRow enc Tryd.prog Tryd.f5 Rows.codePlaceUptoRow.domain false Rows.codePlaceUptoRow.laid) (((Rows.OpenSpec.upto Rows.codePlaceSpec).at F).post enc Tryd.prog Tryd.f5 false true false false) := by
  obtain ⟨places, hx⟩ := reads os enc
  refine returnsInHanded_of_row (C := Tryd.checked) (s := Rows.OpenSpec.upto Rows.codePlaceSpec) own started (by kernel_rfl) Tryd.func5
    (witness_row_at (enc := enc) (C := Tryd.checked) false (laidWorld os) #[V.zeroOf Tryd.prog 26] rfl (by kernel_rfl) (by kernel_rfl) (by kernel_rfl)
      (OpenSpec.preRow_of_cond 8 hx (by kernel_rfl) (fun k hk => by cases hk; kernel_rfl) (by kernel_rfl) (laid_met os))) ?_
  intro W base args ds gs before hval0 hW _ hcnd hsz0 hL _ _
  have hsz : (DataW.weightsEach Tryd.prog (Tryd.f5.params.toList ++ Rows.codePlaceSpec.plain.varTypes Tryd.prog) (ds ++ gs)).all (· ≤ reachBytes) = true := hsz0
  have hval : ∀ (j : Nat) t v, Tryd.f5.params[j]? = some t → args[j]? = some v → Value.okWide Tryd.prog W .any base t v := hval0
  have hW' : DataW.Whole enc Tryd.prog Tryd.f5.params.toList Rows.codePlaceSpec.vars false W args.toList ds gs before := hW
  obtain ⟨p, q, hA0, hV, rfl, hfz, hnd⟩ := hW
  have hA : DataW.TrodAll enc Tryd.prog W 0 (fun _ => true) true Tryd.f5.params.toList args.toList ds p := hA0
  rw [Tryd.params5] at hA hsz hval
  obtain ⟨v, d, rfl, rfl, h0⟩ := trodAll_one hA
  obtain ⟨rfl, rfl⟩ := trodVars_none hV
  have hsz1 : ∀ x ∈ d.weights Tryd.prog 26, x ≤ reachBytes := by
    intro x hx
    have := List.all_eq_true.1 hsz x (List.mem_append.2 (.inl hx))
    simpa using this
  have hbk : Rows.uptoBulkAll ([d] ++ []) ≤ 1048576 := of_decide_eq_true (hcnd _ rfl)
  simp only [List.append_nil, Rows.uptoBulkAll, Nat.add_zero] at hbk
  have hok := hval 0 26 v (by simp) (by simp)
  obtain ⟨cs, rfl⟩ := V.okv_agg (t := 26) (by kernel_rfl) (V.okv_of (W := W) hok)
  obtain ⟨fuel, hfuel⟩ := h0
  have R := V.trod_rdN (V.bound_upto (Nat.le_refl _)) fuel 26 _ d p hfuel ⟨hsz1, hbk⟩
  have F := V.fits_of 12 (show V.shape Tryd.prog 12 26 = some V.tyCScript by kernel_rfl) R (.inr trivial)
  have h0 : DataW.Trod enc Tryd.prog W 0 (fun _ => true) true 26 (.agg cs) d p := ⟨fuel, hfuel⟩
  refine (V.E_law1_CodePlace.right [.agg cs] W.heap _ (V.codePlace_main W.heap cs.toList F (cells hL)) W rfl).mono fun e W' he => ?_
  obtain ⟨r, rfl, ⟨rfl, hk⟩, hs⟩ := he
  have bel : Below W.heap.size W W' := ⟨hs.os, hs.tape, hs.output, hk.size, hk.at_⟩
  exact ⟨_, rfl, _, _, _, [], _, [], hW', trodAll_mk1 (shut_bool Tryd.underlying4 _), trodAll_mk1 (Below.trod laidOut (by kernel_rfl) (of_decide_eq_true (by kernel_rfl)) h0 bel fun x hx => DataW.trod_lt fuel _ _ _ hfuel x hx), rfl, bel.frame _, fun h => by cases h⟩
theorem said : Rows.codePlaceUptoRow.holds Tryd.pinned (Rows.OpenSpec.upto Rows.codePlaceSpec) :=
  OpenClaim.holds_of_cond 5 Tryd.f5 rfl rfl rfl rfl rfl rfl rfl ⟨rfl, rfl, rfl, rfl, rfl⟩ rfl rfl rfl rfl rfl (by kernel_rfl) Tryd.func5 (by kernel_rfl)
    (of_decide_eq_true (by kernel_rfl)) (by unfold Func.isWrapper; first | (rw [if_pos (by decide +kernel)]; kernel_rfl) | (rw [if_neg (by decide +kernel)]; exact ⟨rfl, rfl⟩))
    (fun os started H enc _ F => by rw [OpenClaim.pre_eq_preRow]; exact lifted os started H enc F)
/-- No parameter wants a stand-in; the program's own looks are off: what the card asks. -/
theorem plain (f : FuncId) (fn : Func) (hf : Tryd.pinned.checked.prog.funcNamed "tally/tallylaw1.CodePlace" = some f) (hfn : Tryd.pinned.checked.prog.funcs[f]? = some fn) :
    false = Tryd.pinned.checked.prog.looks [] ∧ ∀ (j : Nat) t, fn.params[j]? = some t → Tryd.pinned.checked.prog.wantsStandIn t = false := by
  obtain rfl : f = 5 := Option.some.inj ((show Tryd.prog.funcNamed "tally/tallylaw1.CodePlace" = some 5 by kernel_rfl).symm.trans hf) |>.symm
  obtain rfl : fn = Tryd.f5 := (Option.some.inj (Tryd.func5.symm.trans hfn)).symm
  refine ⟨by kernel_rfl, fun j t ht => ?_⟩
  rw [Tryd.params5] at ht
  obtain rfl : t = 26 := by simpa using Array.mem_of_getElem? ht
  exact (show Tryd.prog.wantsStandIn 26 = false by kernel_rfl)
end Go.Proofs.YtompmkmbppcadaaDoor.codePlaceUptoLaw
namespace Go.Proofs.YtompmkmbppcadaaDoor
/-- The card. -/
theorem codePlace_upto_card : Rows.CodePlaceUptoCardSaid :=
  Claim7.holds_tied_plain_at .later [] _ _ _ _ codePlaceUptoLaw.said (fun _ h => by cases h) (by kernel_rfl) (fun _ h => by cases h) codePlaceUpto_row_tie rfl ⟨rfl, rfl⟩ (by kernel_rfl) rfl codePlaceUptoLaw.plain (by kernel_rfl)
end Go.Proofs.YtompmkmbppcadaaDoor
