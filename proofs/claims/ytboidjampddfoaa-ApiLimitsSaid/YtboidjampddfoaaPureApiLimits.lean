/-
  Every limit of package api has the number that the document gives it.
  No condition.
-/
import Derived.Test.YtboidjampddfoaaPApiLimitsx1
namespace Go.Proofs.Ytboidjampddfoaa.Pure
open Go.RowKit Go.Proofs.Ytboidjampddfoaa.PApiLimits Go.Proofs.YtboidjampddfoaaW.PrintWords Go.Proofs.YtboidjampddfoaaW.PrintLast

/-- YOURS: ∃ k, tallylaw0_ApiLimits.f k  = some true
What it reaches (each with k first where it has rounds; `.mono`: more rounds tell the same; `.l0`, ..: its loops, with `.mono_l`): tallylaw0_all.f, tallylaw0_limits.f, tallylaw0_ApiLimits.f -/
theorem ApiLimits : tallylaw0_ApiLimits.Pure := by
  exact ⟨100, by decide +kernel⟩

end Go.Proofs.Ytboidjampddfoaa.Pure
