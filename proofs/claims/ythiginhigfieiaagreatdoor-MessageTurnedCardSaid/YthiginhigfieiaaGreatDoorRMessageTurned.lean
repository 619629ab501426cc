/- A message's bytes with one bit turned are no message; of fewer bytes, or with bytes behind, Decode answers what the document answers. -/
import Derived.Test.YthiginhigfieiaaGreatDoorRows
import Derived.Test.YthiginhigfieiaaGreatDoorCards
import Derived.Test.YthiginhigfieiaaGreatDoorTie
import Derived.Test.YthiginhigfieiaaGreatDoorZMessageTurned4
import Derived.WalkKit
import Derived.ProofKit
import Derived.OpenShut
import Derived.ShutString
import Derived.ChangeOld
import Derived.Below
import Derived.SizedLaws
import Derived.Carry
import Derived.Deep.DeepHandedRow
import Derived.Deep.DeepWitnessRowRef
import Derived.Lib.LaidTab
namespace Go.Proofs.YthiginhigfieiaaGreatDoor.messageTurnedLaw
open Go.ChangeShapes Go.WideShapes Go.ChangeAt Go.RowKit
set_option linter.unusedVariables false
theorem own : ownKnob Tryz.prog.godebug = none := by kernel_rfl
theorem laidOut : laidOutB Tryz.prog = true := by kernel_rfl
theorem gTab : Tryz.prog.globalNamed "tally/code.errnos" = some 1 := by kernel_rfl
theorem gTabType : (Tryz.prog.globals[1]?).map (·.type) = some 155 := by kernel_rfl
theorem cellsT : Tryz.prog.cellsOf 155 = 5 := by kernel_rfl
theorem cellsE : Tryz.prog.cellsOf 50 = 1 := by kernel_rfl
theorem undT : Tryz.prog.underlying 155 = some (.array 5 50) := by kernel_rfl
theorem undE : Tryz.prog.underlying 50 = some (.int .i64) := by kernel_rfl
theorem gUse : Tryz.prog.globalNamed "tally/message.uses" = some 0 := by kernel_rfl
theorem gUseType : (Tryz.prog.globals[0]?).map (·.type) = some 92 := by kernel_rfl
theorem undU : Tryz.prog.underlying 92 = some (.array 12 28) := by kernel_rfl
theorem undS : Tryz.prog.underlying 28 = some (.slice 3) := by kernel_rfl
theorem undI : Tryz.prog.underlying 3 = some (.int .i64) := by kernel_rfl
theorem cellsS : Tryz.prog.cellsOf 28 = 1 := by kernel_rfl
theorem cellsI : Tryz.prog.cellsOf 3 = 1 := by kernel_rfl
/-- What the row's list gives: the uses of each kind. -/
theorem uses {W : World} (h : laidMetH Tryz.prog Rows.messageTurnedRow.laid W) : V.Us W.heap :=
  V.us_of (n1 := "tally/code.errnos") (d1 := Rows.laid_tally_code_errnos) gUse gUseType undU undS undI cellsS cellsI rfl h
/-- What the row's list gives: the table's cells. -/
theorem table {W : World} (h : laidMetH Tryz.prog Rows.messageTurnedRow.laid W) : Lib.TabIs Tryz.prog W "tally/code.errnos" .i64 [0, 10, 11, 12, 14] :=
  Lib.tabIs_of_head (rest := [("tally/message.uses", Rows.laid_tally_message_uses)]) gTab gTabType undT undE cellsE cellsT h
theorem cells {W : World} (h : laidMetH Tryz.prog Rows.messageTurnedRow.laid W) : V.cellsAre W.heap (V.pt 1 0) [.int .i64 0, .int .i64 10, .int .i64 11, .int .i64 12, .int .i64 14] :=
  ⟨(table h).cell gTab 0 (by decide), (table h).cell gTab 1 (by decide), (table h).cell gTab 2 (by decide), (table h).cell gTab 3 (by decide), (table h).cell gTab 4 (by decide), trivial⟩
def lay1 : Obj → Obj
  | .cells _ t frozen => .cells #[.int .i64 0, .int .i64 10, .int .i64 11, .int .i64 12, .int .i64 14] t frozen
  | o => o
def lay2 (S : Nat) : Obj → Obj
  | .cells _ t frozen => .cells #[.slice none 0 0, .slice (some ⟨S, 0, none⟩) 1 1, .slice (some ⟨S, 1, none⟩) 3 3, .slice (some ⟨S, 4, none⟩) 2 2, .slice (some ⟨S, 6, none⟩) 3 3, .slice (some ⟨S, 9, none⟩) 1 1, .slice (some ⟨S, 10, none⟩) 3 3, .slice (some ⟨S, 13, none⟩) 2 2, .slice (some ⟨S, 15, none⟩) 4 4, .slice (some ⟨S, 19, none⟩) 2 2, .slice (some ⟨S, 21, none⟩) 7 7, .slice (some ⟨S, 28, none⟩) 4 4] t frozen
  | o => o
/-- A world for the witness: the settled one, the tables holding what their initialisers lay. -/
noncomputable def laidWorld (os : Os) : World :=
  { World.holding Tryz.prog os ⟨#[.cells #[.int .i64 0, .int .i64 0, .int .i64 1, .int .i64 5, .int .i64 0, .int .i64 4, .int .i64 1, .int .i64 3, .int .i64 5, .int .i64 1, .int .i64 0, .int .i64 2, .int .i64 3, .int .i64 0, .int .i64 2, .int .i64 6, .int .i64 7, .int .i64 8, .int .i64 10, .int .i64 6, .int .i64 7, .int .i64 7, .int .i64 8, .int .i64 9, .int .i64 10, .int .i64 11, .int .i64 12, .int .i64 13, .int .i64 10, .int .i64 11, .int .i64 14, .int .i64 15] 3], #[], []⟩ with heap := ((World.holding Tryz.prog os ⟨#[.cells #[.int .i64 0, .int .i64 0, .int .i64 1, .int .i64 5, .int .i64 0, .int .i64 4, .int .i64 1, .int .i64 3, .int .i64 5, .int .i64 1, .int .i64 0, .int .i64 2, .int .i64 3, .int .i64 0, .int .i64 2, .int .i64 6, .int .i64 7, .int .i64 8, .int .i64 10, .int .i64 6, .int .i64 7, .int .i64 7, .int .i64 8, .int .i64 9, .int .i64 10, .int .i64 11, .int .i64 12, .int .i64 13, .int .i64 10, .int .i64 11, .int .i64 14, .int .i64 15] 3], #[], []⟩).heap.modify 1 lay1).modify 0 (lay2 (World.settled Tryz.prog os).heap.size) }
theorem laid_met (os : Os) : laidMet Tryz.prog Rows.messageTurnedRow.laid ((laidWorld os).forCall (fun _ _ => 0) ⟨#[], #[V.zeroOf Tryz.prog 76], []⟩).memory :=
  laidMet_of_run' 8 (by kernel_rfl) (by kernel_rfl)
theorem reads (os : Os) {H : Type} (enc : TypeId × Value → H) : ∃ places, DataW.whole enc Tryz.prog ((laidWorld os).forCall (fun _ _ => 0) ⟨#[], #[V.zeroOf Tryz.prog 76], []⟩).memory Tryz.f6.params.toList Rows.messageTurnedSpec.vars false #[V.zeroOf Tryz.prog 76].toList 8 = some ([.agg [.agg [.agg [.lit (.int .i64 0), .lit (.int .i64 0), .lit (.int .i64 0), .lit (.int .i64 0)], .lit (.int .u64 0), .agg [.lit (.int .u64 0), .lit (.int .u64 0)], .lit (.int .u64 0), .lit (.int .i64 0), .lit (.int .u64 0), .nil, .lit (.int .i64 0), .lit (.int .u64 0), .lit (.string []), .lit (.string []), .lit (.int .u64 0), .agg [.lit (.int .u64 0), .lit (.int .u64 0)], .lit (.int .i64 0), .lit (.int .i64 0), .lit (.int .i64 0), .lit (.int .i64 0)], .lit (.int .i64 0), .lit (.int .i64 0), .nil]], [], places) :=
  ⟨[], by kernel_rfl⟩
set_option maxRecDepth 100000 in
theorem lifted (os : Os) (started : os.Started) (H : Type) (enc : TypeId × Value → H) (F : Stop.Interp) :
    ReturnsInHanded {} Tryz.checked os 6 .any ((OpenSpec.ofChange Rows.messageTurnedSpec).preRow enc Tryz.prog Tryz.f6 Rows.messageTurnedRow.domain false Rows.messageTurnedRow.laid) (((OpenSpec.ofChange Rows.messageTurnedSpec).at F).post enc Tryz.prog Tryz.f6 false true false false) := by
  obtain ⟨places, hx⟩ := reads os enc
  refine returnsInHanded_of_row (C := Tryz.checked) (s := OpenSpec.ofChange Rows.messageTurnedSpec) own started (by kernel_rfl) Tryz.func6
    (witness_row_atRef (enc := enc) (C := Tryz.checked) false (laidWorld os) #[V.zeroOf Tryz.prog 76] rfl (by kernel_rfl) (by kernel_rfl) (by kernel_rfl)
      (OpenSpec.preRow_of_cond 8 hx (by kernel_rfl) (fun k hk => by cases hk) (by kernel_rfl) (laid_met os))) ?_
  intro W base args ds gs before hval0 hW _ hcnd hsz0 hL _ _
  have hsz : (DataW.weightsEach Tryz.prog (Tryz.f6.params.toList ++ Rows.messageTurnedSpec.plain.varTypes Tryz.prog) (ds ++ gs)).all (· ≤ reachBytes) = true := hsz0
  have hval : ∀ (j : Nat) t v, Tryz.f6.params[j]? = some t → args[j]? = some v → Value.okWide Tryz.prog W .any base t v := hval0
  have hW' : DataW.Whole enc Tryz.prog Tryz.f6.params.toList Rows.messageTurnedSpec.vars false W args.toList ds gs before := hW
  obtain ⟨p, q, hA0, hV, rfl, hfz, hnd⟩ := hW
  have hA : DataW.TrodAll enc Tryz.prog W 0 (fun _ => true) true Tryz.f6.params.toList args.toList ds p := hA0
  rw [Tryz.params6] at hA hsz hval
  obtain ⟨v, d, rfl, rfl, h0⟩ := trodAll_one hA
  obtain ⟨rfl, rfl⟩ := trodVars_none hV
  have hsz1 : ∀ x ∈ d.weights Tryz.prog 76, x ≤ reachBytes := by
    intro x hx
    have := List.all_eq_true.1 hsz x (List.mem_append.2 (.inl hx))
    simpa using this
  have hok := hval 0 76 v (by simp) (by simp)
  obtain ⟨cs, rfl⟩ := V.okv_agg (t := 76) (by kernel_rfl) (V.okv_of (W := W) hok)
  obtain ⟨fuel, hfuel⟩ := h0
  have R := V.trod_rdN V.bound_said fuel 76 _ d p hfuel hsz1
  have F := V.fits_of 12 (show V.shape Tryz.prog 12 76 = some V.tyTurn by kernel_rfl) R (.inr trivial)
  have h0 : DataW.Trod enc Tryz.prog W 0 (fun _ => true) true 76 (.agg cs) d p := ⟨fuel, hfuel⟩
  refine (V.E_law8_MessageTurned.right [.agg cs] W.heap _ (V.messageTurned_main W.heap cs.toList F (cells hL) (uses hL)) W rfl).mono fun e W' he => ?_
  obtain ⟨r, rfl, ⟨rfl, hk⟩, hs⟩ := he
  have bel : Below W.heap.size W W' := ⟨hs.os, hs.tape, hs.output, hk.size, hk.at_⟩
  exact ⟨_, rfl, _, _, _, [], _, [], hW', trodAll_mk1 (shut_bool Tryz.underlying4 _), trodAll_mk1 (Below.trod laidOut (by kernel_rfl) (of_decide_eq_true (by kernel_rfl)) h0 bel fun x hx => DataW.trod_lt fuel _ _ _ hfuel x hx), rfl, bel.frame _, fun h => by cases h⟩
theorem said : Rows.messageTurnedRow.holds Tryz.pinned (OpenSpec.ofChange Rows.messageTurnedSpec) :=
  OpenClaim.holds_of_cond 6 Tryz.f6 rfl rfl rfl rfl rfl rfl rfl ⟨rfl, rfl, rfl, rfl, rfl⟩ rfl rfl rfl rfl rfl (by kernel_rfl) Tryz.func6 (by kernel_rfl)
    (of_decide_eq_true (by kernel_rfl)) (by unfold Func.isWrapper; first | (rw [if_pos (by decide +kernel)]; kernel_rfl) | (rw [if_neg (by decide +kernel)]; exact ⟨rfl, rfl⟩))
    (fun os started H enc _ F => by rw [OpenClaim.pre_eq_preRow]; exact lifted os started H enc F)
/-- No parameter wants a stand-in; the program's own looks are off: what the card asks. -/
theorem plain (f : FuncId) (fn : Func) (hf : Tryz.pinned.checked.prog.funcNamed "tally/tallylaw8.MessageTurned" = some f) (hfn : Tryz.pinned.checked.prog.funcs[f]? = some fn) :
    false = Tryz.pinned.checked.prog.looks [] ∧ ∀ (j : Nat) t, fn.params[j]? = some t → Tryz.pinned.checked.prog.wantsStandIn t = false := by
  obtain rfl : f = 6 := Option.some.inj ((show Tryz.prog.funcNamed "tally/tallylaw8.MessageTurned" = some 6 by kernel_rfl).symm.trans hf) |>.symm
  obtain rfl : fn = Tryz.f6 := (Option.some.inj (Tryz.func6.symm.trans hfn)).symm
  refine ⟨by kernel_rfl, fun j t ht => ?_⟩
  rw [Tryz.params6] at ht
  obtain rfl : t = 76 := by simpa using Array.mem_of_getElem? ht
  exact (show Tryz.prog.wantsStandIn 76 = false by kernel_rfl)
end Go.Proofs.YthiginhigfieiaaGreatDoor.messageTurnedLaw
namespace Go.Proofs.YthiginhigfieiaaGreatDoor
/-- The card. -/
theorem messageTurned_card : Rows.MessageTurnedCardSaid :=
  Claim7.holds_tied_plain_at .later [] _ _ _ _ messageTurnedLaw.said (fun _ h => by cases h) (by kernel_rfl) (fun _ h => by cases h) messageTurned_row_tie rfl ⟨rfl, rfl⟩ (by kernel_rfl) rfl messageTurnedLaw.plain (by kernel_rfl)
end Go.Proofs.YthiginhigfieiaaGreatDoor
