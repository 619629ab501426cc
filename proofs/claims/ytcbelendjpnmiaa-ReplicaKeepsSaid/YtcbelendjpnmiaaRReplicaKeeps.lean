/- ReplicaKeeps: from a write or beat that is taken with a Span on, every prepare of an epoch above promised is refused for so many ticks, and promised behind them; the same epoch is promised at any time. -/
import Derived.Test.YtcbelendjpnmiaaRows
import Derived.Test.YtcbelendjpnmiaaZReplicaKeeps3
import Derived.WalkKit
import Derived.ProofKit
import Derived.OpenShut
import Derived.ShutString
import Derived.ChangeOld
import Derived.Below
import Derived.SizedLaws
import Derived.Carry
namespace Go.Proofs.Ytcbelendjpnmiaa.replicaKeepsLaw
open Go.ChangeShapes Go.WideShapes Go.ChangeAt Go.RowKit
set_option linter.unusedVariables false
theorem own : ownKnob Try.prog.godebug = none := by kernel_rfl
theorem laidOut : laidOutB Try.prog = true := by kernel_rfl
set_option maxRecDepth 100000 in
theorem lifted (os : Os) (started : os.Started) (H : Type) (enc : TypeId × Value → H) :
    ReturnsInHanded {} Try.checked os 7 .any (Rows.replicaKeepsSpec.pre6 enc Try.prog Try.f7 Rows.replicaKeepsRow.domain false) (Rows.replicaKeepsSpec.post enc Try.prog Try.f7 false true false false) := by
  refine returnsInHanded_of_change_sized (C := Try.checked) own started (by kernel_rfl) Try.func7
    (ChangeSpec.witness6 (enc := enc) (C := Try.checked) false ⟨#[], #[V.zeroOf Try.prog 63, V.zeroOf Try.prog 33], []⟩ 8 (by kernel_rfl) (by kernel_rfl) (by kernel_rfl) (by kernel_rfl)) ?_
  intro W base args ds gs before hval0 hW hcnd hsz0 _
  have hsz : (DataW.weightsEach Try.prog (Try.f7.params.toList ++ Rows.replicaKeepsSpec.plain.varTypes Try.prog) (ds ++ gs)).all (· ≤ reachBytes) = true := hsz0
  have hval : ∀ (j : Nat) t v, Try.f7.params[j]? = some t → args[j]? = some v → Value.okWide Try.prog W .any base t v := hval0
  have hW' := hW
  obtain ⟨p, q, hA0, hV, rfl, hfz, hnd⟩ := hW
  have hA : DataW.TrodAll enc Try.prog W 0 (fun _ => true) true Try.f7.params.toList args.toList ds p := hA0
  rw [Try.params7] at hA hsz hval
  obtain ⟨v, v2, d, d2, p1, p2, rfl, rfl, rfl, h0, h02⟩ := trodAll_two hA
  obtain ⟨rfl, rfl⟩ := trodVars_none hV
  have hsz1 : ∀ x ∈ d.weights Try.prog 63, x ≤ reachBytes := by
    intro x hx
    have := List.all_eq_true.1 hsz x (List.mem_append.2 (.inl hx))
    simpa using this
  have hsz2 : ∀ x ∈ d2.weights Try.prog 33, x ≤ reachBytes := by
    intro x hx
    have := List.all_eq_true.1 hsz x (List.mem_append.2 (.inr (List.mem_append.2 (.inl hx))))
    simpa using this
  have hok := hval 0 63 v (by simp) (by simp)
  have hok2 := hval 1 33 v2 (by simp) (by simp)
  obtain ⟨cs, rfl⟩ := V.okv_agg (t := 63) (by kernel_rfl) (V.okv_of (W := W) hok)
  obtain ⟨fuel, hfuel⟩ := h0
  obtain ⟨fuel2, hfuel2⟩ := h02
  have R := V.trod_rdN V.bound_said fuel 63 _ d p1 hfuel hsz1
  have F := V.fits_of 12 (show V.shape Try.prog 12 63 = some V.tyLife by kernel_rfl) R (.inr trivial)
  have R2 := V.trod_rdN V.bound_said fuel2 33 _ d2 p2 hfuel2 hsz2
  have F2 := V.fits_of 12 (show V.shape Try.prog 12 33 = some (.int .u64) by kernel_rfl) R2 (.inr trivial)
  obtain ⟨n, rfl, hn0, hn1⟩ := V.okv_one Try.underlying33 (V.okv_of (W := W) hok2) F2
  have h0 : DataW.Trod enc Try.prog W 0 (fun _ => true) true 63 (.agg cs) d p1 := ⟨fuel, hfuel⟩
  have h02 : DataW.Trod enc Try.prog W 0 (fun _ => true) true 33 (.int .u64 n) d2 p2 := ⟨fuel2, hfuel2⟩
  refine (V.E_law9_ReplicaKeeps.right [.agg cs, .int .u64 n] W.heap _ (V.replicaKeeps_main W.heap cs.toList n hn0 F) W rfl).mono fun e W' he => ?_
  obtain ⟨r, rfl, ⟨rfl, hk⟩, hs⟩ := he
  have bel : Below W.heap.size W W' := ⟨hs.os, hs.tape, hs.output, hk.size, hk.at_⟩
  exact ⟨_, rfl, _, _, _, [], _, [], hW', trodAll_mk1 (shut_bool Try.underlying4 _), trodAll_mk2 (Below.trod laidOut (by kernel_rfl) (of_decide_eq_true (by kernel_rfl)) h0 bel fun x hx => DataW.trod_lt fuel _ _ _ hfuel x hx) (Below.trod laidOut (by kernel_rfl) (of_decide_eq_true (by kernel_rfl)) h02 bel fun x hx => DataW.trod_lt fuel2 _ _ _ hfuel2 x hx), rfl, bel.frame _, fun h => by cases h⟩
theorem over : Rows.replicaKeepsRow.holds Try.pinned (OpenSpec.ofChange Rows.replicaKeepsSpec) :=
  OpenClaim.holds_of_wide 7 Try.f7 rfl rfl rfl rfl rfl rfl rfl ⟨rfl, rfl, rfl, rfl, rfl⟩ rfl rfl rfl rfl rfl (by kernel_rfl) Try.func7 (by kernel_rfl)
    (of_decide_eq_true (by kernel_rfl)) (by unfold Func.isWrapper; first | (rw [if_pos (by decide +kernel)]; kernel_rfl) | (rw [if_neg (by decide +kernel)]; exact ⟨rfl, rfl⟩))
    (fun os started H enc _ => lifted os started H enc)
end Go.Proofs.Ytcbelendjpnmiaa.replicaKeepsLaw
namespace Go.Proofs.Ytcbelendjpnmiaa
/-- The row, under a short name, for the claim. -/
theorem replicaKeeps_holds : Rows.ReplicaKeepsSaid := replicaKeepsLaw.over
end Go.Proofs.Ytcbelendjpnmiaa
