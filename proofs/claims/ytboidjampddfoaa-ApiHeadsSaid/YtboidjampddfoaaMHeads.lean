/- A message's head lies first in the message, with its four fields in order. -/
import Derived.Test.YtboidjampddfoaaV12
import Derived.Test.YtboidjampddfoaaG6
namespace Go.Proofs.Ytboidjampddfoaa.V
open Go Go.RowKit
set_option linter.unusedVariables false
set_option linter.unusedSimpArgs false
theorem apiHeads_main (h : Heap) : E6 [] h (fun r h' => r = .bool true ∧ KeptH h h') := by
  unfold E6 E6of F6 F6of
  refine al_own (Own.none h) fun b h1 O => ?_
  refine O.st 0 rfl (by simp) rfl fun h2 O => ?_
  simp only [jn, pt_add, Nat.zero_add, Nat.add_zero]
  refine O.ld 0 rfl ⟨_, rfl, ?_⟩
  refine O.ld 0 rfl ⟨_, rfl, ?_⟩
  refine O.ld 0 rfl ⟨_, rfl, ?_⟩
  refine O.ld 0 rfl ⟨_, rfl, ?_⟩
  exact ⟨rfl, O.kept⟩
end Go.Proofs.Ytboidjampddfoaa.V
