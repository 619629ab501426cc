/- Any number of Writers and Readers live side by side, each by itself; where what comes in is of bulk at most 1048576. -/
import Derived.Test.YtompmkmbppcadaaRows
import Derived.Test.YtompmkmbppcadaaZCodeMany2
import Derived.WalkKit
import Derived.ProofKit
import Derived.OpenShut
import Derived.ShutString
import Derived.ChangeOld
import Derived.Below
import Derived.SizedLaws
import Derived.JoinedCond
import Derived.Deep.CondSized
import Derived.Carry
namespace Go.Proofs.Ytompmkmbppcadaa.codeManyUptoLaw
open Go.ChangeShapes Go.WideShapes Go.ChangeAt Go.RowKit
set_option linter.unusedVariables false
theorem own : ownKnob Try.prog.godebug = none := by kernel_rfl
theorem laidOut : laidOutB Try.prog = true := by kernel_rfl
set_option maxRecDepth 100000 in
theorem lifted (os : Os) (started : os.Started) (H : Type) (enc : TypeId × Value → H) (F : Stop.Interp) :
    ReturnsInHanded {} Try.checked os 7 .any ((Rows.OpenSpec.upto Rows.codeManySpec).pre6 enc Try.prog Try.f7 Rows.codeManyUptoRow.domain false) (((Rows.OpenSpec.upto Rows.codeManySpec).at F).post enc Try.prog Try.f7 false true false false) := by
  refine returnsInHanded_of_cond_sized (C := Try.checked) (s := Rows.OpenSpec.upto Rows.codeManySpec) (k := Rows.uptoSmall) rfl own started (by kernel_rfl) Try.func7
    (OpenSpec.witness (enc := enc) (C := Try.checked) (s := Rows.OpenSpec.upto Rows.codeManySpec) (k := Rows.uptoSmall) rfl false ⟨#[], #[V.zeroOf Try.prog 54], []⟩ 8 (by kernel_rfl) (by kernel_rfl) (by kernel_rfl)
      (x := ([.agg [.lit (.int .i64 0), .nil]], [], [])) (by kernel_rfl) rfl (by kernel_rfl)) ?_
  intro W base args ds gs before hval0 hW hcnd hkk hsz0 _
  have hsz : (DataW.weightsEach Try.prog (Try.f7.params.toList ++ Rows.codeManySpec.plain.varTypes Try.prog) (ds ++ gs)).all (· ≤ reachBytes) = true := hsz0
  have hval : ∀ (j : Nat) t v, Try.f7.params[j]? = some t → args[j]? = some v → Value.okWide Try.prog W .any base t v := hval0
  have hW' : DataW.Whole enc Try.prog Try.f7.params.toList Rows.codeManySpec.vars false W args.toList ds gs before := hW
  obtain ⟨p, q, hA0, hV, rfl, hfz, hnd⟩ := hW
  have hA : DataW.TrodAll enc Try.prog W 0 (fun _ => true) true Try.f7.params.toList args.toList ds p := hA0
  rw [Try.params7] at hA hsz hval
  obtain ⟨v, d, rfl, rfl, h0⟩ := trodAll_one hA
  obtain ⟨rfl, rfl⟩ := trodVars_none hV
  have hsz1 : ∀ x ∈ d.weights Try.prog 54, x ≤ reachBytes := by
    intro x hx
    have := List.all_eq_true.1 hsz x (List.mem_append.2 (.inl hx))
    simpa using this
  have hbk : Rows.uptoBulkAll ([d] ++ []) ≤ 1048576 := of_decide_eq_true hkk
  simp only [List.append_nil, Rows.uptoBulkAll, Nat.add_zero] at hbk
  have hok := hval 0 54 v (by simp) (by simp)
  obtain ⟨cs, rfl⟩ := V.okv_agg (t := 54) (by kernel_rfl) (V.okv_of (W := W) hok)
  obtain ⟨fuel, hfuel⟩ := h0
  have R := V.trod_rdN (V.bound_upto (Nat.le_refl _)) fuel 54 _ d p hfuel ⟨hsz1, hbk⟩
  have F := V.fits_of 12 (show V.shape Try.prog 12 54 = some V.tyCrowd by kernel_rfl) R (.inr trivial)
  have h0 : DataW.Trod enc Try.prog W 0 (fun _ => true) true 54 (.agg cs) d p := ⟨fuel, hfuel⟩
  refine (V.E_law1_CodeMany.right [.agg cs] W.heap _ (V.codeMany_main W.heap cs.toList F) W rfl).mono fun e W' he => ?_
  obtain ⟨r, rfl, ⟨rfl, hk⟩, hs⟩ := he
  have bel : Below W.heap.size W W' := ⟨hs.os, hs.tape, hs.output, hk.size, hk.at_⟩
  exact ⟨_, rfl, _, _, _, [], _, [], hW', trodAll_mk1 (shut_bool Try.underlying4 _), trodAll_mk1 (Below.trod laidOut (by kernel_rfl) (of_decide_eq_true (by kernel_rfl)) h0 bel fun x hx => DataW.trod_lt fuel _ _ _ hfuel x hx), rfl, bel.frame _, fun h => by cases h⟩
theorem over : Rows.codeManyUptoRow.holds Try.pinned (Rows.OpenSpec.upto Rows.codeManySpec) :=
  OpenClaim.holds_of_cond 7 Try.f7 rfl rfl rfl rfl rfl rfl rfl ⟨rfl, rfl, rfl, rfl, rfl⟩ rfl rfl rfl rfl rfl (by kernel_rfl) Try.func7 (by kernel_rfl)
    (of_decide_eq_true (by kernel_rfl)) (by unfold Func.isWrapper; first | (rw [if_pos (by decide +kernel)]; kernel_rfl) | (rw [if_neg (by decide +kernel)]; exact ⟨rfl, rfl⟩))
    (fun os started H enc _ F => lifted os started H enc F)
end Go.Proofs.Ytompmkmbppcadaa.codeManyUptoLaw
namespace Go.Proofs.Ytompmkmbppcadaa
/-- The row, under a short name, for the claim. -/
theorem codeMany_upto_holds : Rows.CodeManyUptoSaid := codeManyUptoLaw.over
end Go.Proofs.Ytompmkmbppcadaa
