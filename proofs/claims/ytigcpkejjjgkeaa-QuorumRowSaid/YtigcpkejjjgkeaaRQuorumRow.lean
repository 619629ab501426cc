/- Whatever steps a shard's nodes take, what is chosen is found by every later epoch's first value; and in the end an epoch holds and two values are chosen in their order. -/
import Derived.Test.YtigcpkejjjgkeaaRows
import Derived.Test.YtigcpkejjjgkeaaZQuorumRow4
import Derived.WalkKit
import Derived.ProofKit
import Derived.OpenShut
import Derived.ShutString
import Derived.ChangeOld
import Derived.Below
import Derived.SizedLaws
import Derived.Carry
namespace Go.Proofs.Ytigcpkejjjgkeaa.quorumRowLaw
open Go.ChangeShapes Go.WideShapes Go.ChangeAt Go.RowKit
set_option linter.unusedVariables false
theorem own : ownKnob Try.prog.godebug = none := by kernel_rfl
theorem laidOut : laidOutB Try.prog = true := by kernel_rfl
set_option maxRecDepth 100000 in
theorem lifted (os : Os) (started : os.Started) (H : Type) (enc : TypeId × Value → H) :
    ReturnsInHanded {} Try.checked os 4 .any (Rows.quorumRowSpec.pre6 enc Try.prog Try.f4 Rows.quorumRowRow.domain false) (Rows.quorumRowSpec.post enc Try.prog Try.f4 false true false false) := by
  refine returnsInHanded_of_change_sized (C := Try.checked) own started (by kernel_rfl) Try.func4
    (ChangeSpec.witness6 (enc := enc) (C := Try.checked) false ⟨#[], #[V.zeroOf Try.prog 24], []⟩ 8 (by kernel_rfl) (by kernel_rfl) (by kernel_rfl) (by kernel_rfl)) ?_
  intro W base args ds gs before hval0 hW hcnd hsz0 _
  have hsz : (DataW.weightsEach Try.prog (Try.f4.params.toList ++ Rows.quorumRowSpec.plain.varTypes Try.prog) (ds ++ gs)).all (· ≤ reachBytes) = true := hsz0
  have hval : ∀ (j : Nat) t v, Try.f4.params[j]? = some t → args[j]? = some v → Value.okWide Try.prog W .any base t v := hval0
  have hW' := hW
  obtain ⟨p, q, hA0, hV, rfl, hfz, hnd⟩ := hW
  have hA : DataW.TrodAll enc Try.prog W 0 (fun _ => true) true Try.f4.params.toList args.toList ds p := hA0
  rw [Try.params4] at hA hsz hval
  obtain ⟨v, d, rfl, rfl, h0⟩ := trodAll_one hA
  obtain ⟨rfl, rfl⟩ := trodVars_none hV
  have hsz1 : ∀ x ∈ d.weights Try.prog 24, x ≤ reachBytes := by
    intro x hx
    have := List.all_eq_true.1 hsz x (List.mem_append.2 (.inl hx))
    simpa using this
  have hok := hval 0 24 v (by simp) (by simp)
  obtain ⟨cs, rfl⟩ := V.okv_agg (t := 24) (by kernel_rfl) (V.okv_of (W := W) hok)
  obtain ⟨fuel, hfuel⟩ := h0
  have R := V.trod_rdN V.bound_said fuel 24 _ d p hfuel hsz1
  have F := V.fits_of 12 (show V.shape Try.prog 12 24 = some V.tyNodes by kernel_rfl) R (.inr trivial)
  have h0 : DataW.Trod enc Try.prog W 0 (fun _ => true) true 24 (.agg cs) d p := ⟨fuel, hfuel⟩
  refine (V.E_law10_QuorumRow.right [.agg cs] W.heap _ (V.quorumRow_main W.heap cs.toList F) W rfl).mono fun e W' he => ?_
  obtain ⟨r, rfl, ⟨rfl, hk⟩, hs⟩ := he
  have bel : Below W.heap.size W W' := ⟨hs.os, hs.tape, hs.output, hk.size, hk.at_⟩
  exact ⟨_, rfl, _, _, _, [], _, [], hW', trodAll_mk1 (shut_bool Try.underlying4 _), trodAll_mk1 (Below.trod laidOut (by kernel_rfl) (of_decide_eq_true (by kernel_rfl)) h0 bel fun x hx => DataW.trod_lt fuel _ _ _ hfuel x hx), rfl, bel.frame _, fun h => by cases h⟩
theorem over : Rows.quorumRowRow.holds Try.pinned (OpenSpec.ofChange Rows.quorumRowSpec) :=
  OpenClaim.holds_of_wide 4 Try.f4 rfl rfl rfl rfl rfl rfl rfl ⟨rfl, rfl, rfl, rfl, rfl⟩ rfl rfl rfl rfl rfl (by kernel_rfl) Try.func4 (by kernel_rfl)
    (of_decide_eq_true (by kernel_rfl)) (by unfold Func.isWrapper; first | (rw [if_pos (by decide +kernel)]; kernel_rfl) | (rw [if_neg (by decide +kernel)]; exact ⟨rfl, rfl⟩))
    (fun os started H enc _ => lifted os started H enc)
end Go.Proofs.Ytigcpkejjjgkeaa.quorumRowLaw
namespace Go.Proofs.Ytigcpkejjjgkeaa
/-- The row, under a short name, for the claim. -/
theorem quorumRow_holds : Rows.QuorumRowSaid := quorumRowLaw.over
end Go.Proofs.Ytigcpkejjjgkeaa
