/- For every script within the bounds the law answers true: what a Reader and a Writer hand out shares no memory with what they keep. -/
import Derived.Test.YtdjhjpckefkolaaRows
import Derived.Test.YtdjhjpckefkolaaZCodeFresh3
import Derived.WalkKit
import Derived.ProofKit
import Derived.OpenShut
import Derived.ShutString
import Derived.ChangeOld
import Derived.Below
import Derived.SizedLaws
import Derived.JoinedCond
import Derived.Deep.CondSized
import Derived.Carry
namespace Go.Proofs.Ytdjhjpckefkolaa.codeFreshUptoLaw
open Go.ChangeShapes Go.WideShapes Go.ChangeAt Go.RowKit
set_option linter.unusedVariables false
theorem own : ownKnob Try.prog.godebug = none := by kernel_rfl
theorem laidOut : laidOutB Try.prog = true := by kernel_rfl
set_option maxRecDepth 100000 in
theorem lifted (os : Os) (started : os.Started) (H : Type) (enc : TypeId × Value → H) (F : Stop.Interp) :
    ReturnsInHanded {} Try.checked os 3 .any ((Rows.OpenSpec.upto Rows.codeFreshSpec).pre6 enc Try.prog Try.f3 Rows.codeFreshUptoRow.domain false) (((Rows.OpenSpec.upto Rows.codeFreshSpec).at F).post enc Try.prog Try.f3 false true false false) := by
  refine returnsInHanded_of_cond_sized (C := Try.checked) (s := Rows.OpenSpec.upto Rows.codeFreshSpec) (k := Rows.uptoSmall) rfl own started (by kernel_rfl) Try.func3
    (OpenSpec.witness (enc := enc) (C := Try.checked) (s := Rows.OpenSpec.upto Rows.codeFreshSpec) (k := Rows.uptoSmall) rfl false ⟨#[], #[V.zeroOf Try.prog 26], []⟩ 8 (by kernel_rfl) (by kernel_rfl) (by kernel_rfl)
      (x := ([.agg [.agg [.nil, .nil], .nil]], [], [])) (by kernel_rfl) rfl (by kernel_rfl)) ?_
  intro W base args ds gs before hval0 hW hcnd hkk hsz0 _
  have hsz : (DataW.weightsEach Try.prog (Try.f3.params.toList ++ Rows.codeFreshSpec.plain.varTypes Try.prog) (ds ++ gs)).all (· ≤ reachBytes) = true := hsz0
  have hval : ∀ (j : Nat) t v, Try.f3.params[j]? = some t → args[j]? = some v → Value.okWide Try.prog W .any base t v := hval0
  have hW' : DataW.Whole enc Try.prog Try.f3.params.toList Rows.codeFreshSpec.vars false W args.toList ds gs before := hW
  obtain ⟨p, q, hA0, hV, rfl, hfz, hnd⟩ := hW
  have hA : DataW.TrodAll enc Try.prog W 0 (fun _ => true) true Try.f3.params.toList args.toList ds p := hA0
  rw [Try.params3] at hA hsz hval
  obtain ⟨v, d, rfl, rfl, h0⟩ := trodAll_one hA
  obtain ⟨rfl, rfl⟩ := trodVars_none hV
  have hsz1 : ∀ x ∈ d.weights Try.prog 26, x ≤ reachBytes := by
    intro x hx
    have := List.all_eq_true.1 hsz x (List.mem_append.2 (.inl hx))
    simpa using this
  have hbk : Rows.uptoBulkAll ([d] ++ []) ≤ 1048576 := of_decide_eq_true hkk
  simp only [List.append_nil, Rows.uptoBulkAll, Nat.add_zero] at hbk
  have hok := hval 0 26 v (by simp) (by simp)
  obtain ⟨cs, rfl⟩ := V.okv_agg (t := 26) (by kernel_rfl) (V.okv_of (W := W) hok)
  obtain ⟨fuel, hfuel⟩ := h0
  have R := V.trod_rdN (V.bound_upto (Nat.le_refl _)) fuel 26 _ d p hfuel ⟨hsz1, hbk⟩
  have F := V.fits_of 12 (show V.shape Try.prog 12 26 = some V.tyCScript by kernel_rfl) R (.inr trivial)
  have h0 : DataW.Trod enc Try.prog W 0 (fun _ => true) true 26 (.agg cs) d p := ⟨fuel, hfuel⟩
  refine (V.E_law1_CodeFresh.right [.agg cs] W.heap _ (V.codeFresh_main W.heap cs.toList F) W rfl).mono fun e W' he => ?_
  obtain ⟨r, rfl, ⟨rfl, hk⟩, hs⟩ := he
  have bel : Below W.heap.size W W' := ⟨hs.os, hs.tape, hs.output, hk.size, hk.at_⟩
  exact ⟨_, rfl, _, _, _, [], _, [], hW', trodAll_mk1 (shut_bool Try.underlying4 _), trodAll_mk1 (Below.trod laidOut (by kernel_rfl) (of_decide_eq_true (by kernel_rfl)) h0 bel fun x hx => DataW.trod_lt fuel _ _ _ hfuel x hx), rfl, bel.frame _, fun h => by cases h⟩
theorem over : Rows.codeFreshUptoRow.holds Try.pinned (Rows.OpenSpec.upto Rows.codeFreshSpec) :=
  OpenClaim.holds_of_cond 3 Try.f3 rfl rfl rfl rfl rfl rfl rfl ⟨rfl, rfl, rfl, rfl, rfl⟩ rfl rfl rfl rfl rfl (by kernel_rfl) Try.func3 (by kernel_rfl)
    (of_decide_eq_true (by kernel_rfl)) (by unfold Func.isWrapper; first | (rw [if_pos (by decide +kernel)]; kernel_rfl) | (rw [if_neg (by decide +kernel)]; exact ⟨rfl, rfl⟩))
    (fun os started H enc _ F => lifted os started H enc F)
end Go.Proofs.Ytdjhjpckefkolaa.codeFreshUptoLaw
namespace Go.Proofs.Ytdjhjpckefkolaa
/-- The row, under a short name, for the claim. -/
theorem codeFresh_upto_holds : Rows.CodeFreshUptoSaid := codeFreshUptoLaw.over
end Go.Proofs.Ytdjhjpckefkolaa
