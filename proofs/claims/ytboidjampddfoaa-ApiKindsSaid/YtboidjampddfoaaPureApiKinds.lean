/-
  Every kind, call, state, phase and event of package api has its number.
  No condition.
-/
import Derived.Test.YtboidjampddfoaaPApiKindsx1
namespace Go.Proofs.Ytboidjampddfoaa.Pure
open Go.RowKit Go.Proofs.Ytboidjampddfoaa.PApiKinds Go.Proofs.YtboidjampddfoaaW.PrintWords Go.Proofs.YtboidjampddfoaaW.PrintLast

/-- YOURS: ∃ k, tallylaw0_ApiKinds.f k  = some true
What it reaches (each with k first where it has rounds; `.mono`: more rounds tell the same; `.l0`, ..: its loops, with `.mono_l`): tallylaw0_all.f, tallylaw0_kinds.f, tallylaw0_ApiKinds.f -/
theorem ApiKinds : tallylaw0_ApiKinds.Pure := by
  exact ⟨100, by decide +kernel⟩

end Go.Proofs.Ytboidjampddfoaa.Pure
