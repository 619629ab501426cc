/-
  No cell of these rows narrows 'for every input' (looked for: loops, veiled, ifaces, maps, wideKeys, modest, calm, conditions, laid).
  DERIVED. THE GIVEN ROWS OF THIS SEAT. 11 by the template 'for every input the law returns true; each argument reads behind the call as it read before'; 0 by the template 'total and deterministic' (their statements: YtboidjampddfoaaTotals.lean).
  GIVEN WITH THE SEED: the statements are not yours to turn. If you find one false, say at which input.
  Laid BY PROGRAM, IN A SANDBOX (cutbox-rows.mjs): the forced cells as the released guide's own fill.sh prints them over the translation d35355e929878e5c… (all of the seat's roots in one cut). By AI agents, Wed Nov 11 2026. No macro, syntax, notation, axiom, sorry.
-/
import Derived.Test.YtboidjampddfoaaChecked
import GoSem.Claim
import GoSem.ClaimJoined
import GoSem.ClaimMapViews
import Derived.JoinedTies
import Derived.KernelRfl
namespace Go.Proofs.Ytboidjampddfoaa
/- THE CELL 'sum', in the pinned program and in every row, IS THE sha256 OF THE DUMP (.gsa) THAT YtboidjampddfoaaProg.lean LOADS. Nothing in Lean hashes anything: it is a label: what it is worth is what the hold of that sum in a sandbox is worth. -/
noncomputable def Try.pinned : Pinned := { name := "ytboidjampddfoaa", sum := "d35355e929878e5cf9d58aec896a798ceb870f8534a5e39280615bfe56c4de2e", checked := Try.checked }
namespace Rows
def none {H : Type} : Left H := { results := [], args := [] }

/-- 'tallylaw0.ApiErrors': WHATEVER THE INPUT: true; the input reads as it did. -/
def apiErrorsSpec : ChangeSpec := { name := "apiErrors", fn := fun _ => fun
  | [] => { results := [.lit (.bool true)], args := [] }
  | _ => none }
def apiErrorsRow : OpenClaim := { program := "ytboidjampddfoaa", sum := "d35355e929878e5cf9d58aec896a798ceb870f8534a5e39280615bfe56c4de2e", func := "tally/tallylaw0.ApiErrors", spec := "apiErrors", apart := false }
def ApiErrorsSaid : Prop := apiErrorsRow.holds Try.pinned (OpenSpec.ofChange apiErrorsSpec)

/-- ITS FALSE NEIGHBOUR: 'it returns false'. Refute it at one input. -/
def apiErrorsWrong : ChangeSpec := { name := "apiErrors", fn := fun _ => fun
  | [] => { results := [.lit (.bool false)], args := [] }
  | _ => none }
def ApiErrorsWrongFalsely : Prop := apiErrorsRow.holds Try.pinned (OpenSpec.ofChange apiErrorsWrong)

/-- 'tallylaw0.ApiLimits': WHATEVER THE INPUT: true; the input reads as it did. -/
def apiLimitsSpec : ChangeSpec := { name := "apiLimits", fn := fun _ => fun
  | [] => { results := [.lit (.bool true)], args := [] }
  | _ => none }
def apiLimitsRow : OpenClaim := { program := "ytboidjampddfoaa", sum := "d35355e929878e5cf9d58aec896a798ceb870f8534a5e39280615bfe56c4de2e", func := "tally/tallylaw0.ApiLimits", spec := "apiLimits", apart := false }
def ApiLimitsSaid : Prop := apiLimitsRow.holds Try.pinned (OpenSpec.ofChange apiLimitsSpec)

/-- ITS FALSE NEIGHBOUR: 'it returns false'. Refute it at one input. -/
def apiLimitsWrong : ChangeSpec := { name := "apiLimits", fn := fun _ => fun
  | [] => { results := [.lit (.bool false)], args := [] }
  | _ => none }
def ApiLimitsWrongFalsely : Prop := apiLimitsRow.holds Try.pinned (OpenSpec.ofChange apiLimitsWrong)

/-- 'tallylaw0.ApiKinds': WHATEVER THE INPUT: true; the input reads as it did. -/
def apiKindsSpec : ChangeSpec := { name := "apiKinds", fn := fun _ => fun
  | [] => { results := [.lit (.bool true)], args := [] }
  | _ => none }
def apiKindsRow : OpenClaim := { program := "ytboidjampddfoaa", sum := "d35355e929878e5cf9d58aec896a798ceb870f8534a5e39280615bfe56c4de2e", func := "tally/tallylaw0.ApiKinds", spec := "apiKinds", apart := false }
def ApiKindsSaid : Prop := apiKindsRow.holds Try.pinned (OpenSpec.ofChange apiKindsSpec)

/-- ITS FALSE NEIGHBOUR: 'it returns false'. Refute it at one input. -/
def apiKindsWrong : ChangeSpec := { name := "apiKinds", fn := fun _ => fun
  | [] => { results := [.lit (.bool false)], args := [] }
  | _ => none }
def ApiKindsWrongFalsely : Prop := apiKindsRow.holds Try.pinned (OpenSpec.ofChange apiKindsWrong)

/-- 'tallylaw0.ApiHeads': WHATEVER THE INPUT: true; the input reads as it did. -/
def apiHeadsSpec : ChangeSpec := { name := "apiHeads", fn := fun _ => fun
  | [] => { results := [.lit (.bool true)], args := [] }
  | _ => none }
def apiHeadsRow : OpenClaim := { program := "ytboidjampddfoaa", sum := "d35355e929878e5cf9d58aec896a798ceb870f8534a5e39280615bfe56c4de2e", func := "tally/tallylaw0.ApiHeads", spec := "apiHeads", apart := false }
def ApiHeadsSaid : Prop := apiHeadsRow.holds Try.pinned (OpenSpec.ofChange apiHeadsSpec)

/-- ITS FALSE NEIGHBOUR: 'it returns false'. Refute it at one input. -/
def apiHeadsWrong : ChangeSpec := { name := "apiHeads", fn := fun _ => fun
  | [] => { results := [.lit (.bool false)], args := [] }
  | _ => none }
def ApiHeadsWrongFalsely : Prop := apiHeadsRow.holds Try.pinned (OpenSpec.ofChange apiHeadsWrong)

/-- 'tallylaw6.NetExact': WHATEVER THE INPUT: true; the input reads as it did. -/
def netExactSpec : ChangeSpec := { name := "netExact", fn := fun _ => fun
  | [d] => { results := [.lit (.bool true)], args := [d] }
  | _ => none }
def netExactRow : OpenClaim := { program := "ytboidjampddfoaa", sum := "d35355e929878e5cf9d58aec896a798ceb870f8534a5e39280615bfe56c4de2e", func := "tally/tallylaw6.NetExact", spec := "netExact", apart := false }
def NetExactSaid : Prop := netExactRow.holds Try.pinned (OpenSpec.ofChange netExactSpec)

/-- ITS FALSE NEIGHBOUR: 'it returns false'. Refute it at one input. -/
def netExactWrong : ChangeSpec := { name := "netExact", fn := fun _ => fun
  | [d] => { results := [.lit (.bool false)], args := [d] }
  | _ => none }
def NetExactWrongFalsely : Prop := netExactRow.holds Try.pinned (OpenSpec.ofChange netExactWrong)

/-- 'tallylaw6.NetFresh': WHATEVER THE INPUT: true; the input reads as it did. -/
def netFreshSpec : ChangeSpec := { name := "netFresh", fn := fun _ => fun
  | [d] => { results := [.lit (.bool true)], args := [d] }
  | _ => none }
def netFreshRow : OpenClaim := { program := "ytboidjampddfoaa", sum := "d35355e929878e5cf9d58aec896a798ceb870f8534a5e39280615bfe56c4de2e", func := "tally/tallylaw6.NetFresh", spec := "netFresh", apart := false }
def NetFreshSaid : Prop := netFreshRow.holds Try.pinned (OpenSpec.ofChange netFreshSpec)

/-- ITS FALSE NEIGHBOUR: 'it returns false'. Refute it at one input. -/
def netFreshWrong : ChangeSpec := { name := "netFresh", fn := fun _ => fun
  | [d] => { results := [.lit (.bool false)], args := [d] }
  | _ => none }
def NetFreshWrongFalsely : Prop := netFreshRow.holds Try.pinned (OpenSpec.ofChange netFreshWrong)

/-- 'tallylaw6.NetKeeps': WHATEVER THE INPUT: true; the input reads as it did. -/
def netKeepsSpec : ChangeSpec := { name := "netKeeps", fn := fun _ => fun
  | [d] => { results := [.lit (.bool true)], args := [d] }
  | _ => none }
def netKeepsRow : OpenClaim := { program := "ytboidjampddfoaa", sum := "d35355e929878e5cf9d58aec896a798ceb870f8534a5e39280615bfe56c4de2e", func := "tally/tallylaw6.NetKeeps", spec := "netKeeps", apart := false }
def NetKeepsSaid : Prop := netKeepsRow.holds Try.pinned (OpenSpec.ofChange netKeepsSpec)

/-- ITS FALSE NEIGHBOUR: 'it returns false'. Refute it at one input. -/
def netKeepsWrong : ChangeSpec := { name := "netKeeps", fn := fun _ => fun
  | [d] => { results := [.lit (.bool false)], args := [d] }
  | _ => none }
def NetKeepsWrongFalsely : Prop := netKeepsRow.holds Try.pinned (OpenSpec.ofChange netKeepsWrong)

/-- 'tallylaw11.LeaseFence': WHATEVER THE INPUT: true; the input reads as it did. -/
def leaseFenceSpec : ChangeSpec := { name := "leaseFence", fn := fun _ => fun
  | [d] => { results := [.lit (.bool true)], args := [d] }
  | _ => none }
def leaseFenceRow : OpenClaim := { program := "ytboidjampddfoaa", sum := "d35355e929878e5cf9d58aec896a798ceb870f8534a5e39280615bfe56c4de2e", func := "tally/tallylaw11.LeaseFence", spec := "leaseFence", apart := false }
def LeaseFenceSaid : Prop := leaseFenceRow.holds Try.pinned (OpenSpec.ofChange leaseFenceSpec)

/-- ITS FALSE NEIGHBOUR: 'it returns false'. Refute it at one input. -/
def leaseFenceWrong : ChangeSpec := { name := "leaseFence", fn := fun _ => fun
  | [d] => { results := [.lit (.bool false)], args := [d] }
  | _ => none }
def LeaseFenceWrongFalsely : Prop := leaseFenceRow.holds Try.pinned (OpenSpec.ofChange leaseFenceWrong)

/-- 'tallylaw11.LeaseRuns': WHATEVER THE INPUT: true; the input reads as it did. -/
def leaseRunsSpec : ChangeSpec := { name := "leaseRuns", fn := fun _ => fun
  | [d] => { results := [.lit (.bool true)], args := [d] }
  | _ => none }
def leaseRunsRow : OpenClaim := { program := "ytboidjampddfoaa", sum := "d35355e929878e5cf9d58aec896a798ceb870f8534a5e39280615bfe56c4de2e", func := "tally/tallylaw11.LeaseRuns", spec := "leaseRuns", apart := false }
def LeaseRunsSaid : Prop := leaseRunsRow.holds Try.pinned (OpenSpec.ofChange leaseRunsSpec)

/-- ITS FALSE NEIGHBOUR: 'it returns false'. Refute it at one input. -/
def leaseRunsWrong : ChangeSpec := { name := "leaseRuns", fn := fun _ => fun
  | [d] => { results := [.lit (.bool false)], args := [d] }
  | _ => none }
def LeaseRunsWrongFalsely : Prop := leaseRunsRow.holds Try.pinned (OpenSpec.ofChange leaseRunsWrong)

/-- 'tallylaw11.LeaseEpochs': WHATEVER THE INPUT: true; the input reads as it did. -/
def leaseEpochsSpec : ChangeSpec := { name := "leaseEpochs", fn := fun _ => fun
  | [d] => { results := [.lit (.bool true)], args := [d] }
  | _ => none }
def leaseEpochsRow : OpenClaim := { program := "ytboidjampddfoaa", sum := "d35355e929878e5cf9d58aec896a798ceb870f8534a5e39280615bfe56c4de2e", func := "tally/tallylaw11.LeaseEpochs", spec := "leaseEpochs", apart := false }
def LeaseEpochsSaid : Prop := leaseEpochsRow.holds Try.pinned (OpenSpec.ofChange leaseEpochsSpec)

/-- ITS FALSE NEIGHBOUR: 'it returns false'. Refute it at one input. -/
def leaseEpochsWrong : ChangeSpec := { name := "leaseEpochs", fn := fun _ => fun
  | [d] => { results := [.lit (.bool false)], args := [d] }
  | _ => none }
def LeaseEpochsWrongFalsely : Prop := leaseEpochsRow.holds Try.pinned (OpenSpec.ofChange leaseEpochsWrong)

/-- 'tallylaw11.LeaseExact': WHATEVER THE INPUT: true; the input reads as it did. -/
def leaseExactSpec : ChangeSpec := { name := "leaseExact", fn := fun _ => fun
  | [d] => { results := [.lit (.bool true)], args := [d] }
  | _ => none }
def leaseExactRow : OpenClaim := { program := "ytboidjampddfoaa", sum := "d35355e929878e5cf9d58aec896a798ceb870f8534a5e39280615bfe56c4de2e", func := "tally/tallylaw11.LeaseExact", spec := "leaseExact", apart := false }
def LeaseExactSaid : Prop := leaseExactRow.holds Try.pinned (OpenSpec.ofChange leaseExactSpec)

/-- ITS FALSE NEIGHBOUR: 'it returns false'. Refute it at one input. -/
def leaseExactWrong : ChangeSpec := { name := "leaseExact", fn := fun _ => fun
  | [d] => { results := [.lit (.bool false)], args := [d] }
  | _ => none }
def LeaseExactWrongFalsely : Prop := leaseExactRow.holds Try.pinned (OpenSpec.ofChange leaseExactWrong)

/- THE SECOND FORM. 'bulk': how many values and letters a reading holds, each counted each time it is reached (what is shared counts as often as it is met; a slice's spare places count too). A statement '..UptoSaid' is the law's where the arguments, and the package variables that the reading takes, are together of bulk at most 1048576: NARROWER than '..Said'. Prove '..Said' where nothing that the law and all that it calls make is longer than what came in: it says more and counts as full. Else prove '..UptoSaid'. A law counts once. -/
mutual
def uptoBulk {H : Type} : DataW H → Nat
  | .lit (.string bytes) => bytes.length + 1
  | .lit _ => 1
  | .nil => 1
  | .ptr d => uptoBulk d + 1
  | .slice elems spare => uptoBulkAll elems + uptoBulkAll spare + 1
  | .agg parts => uptoBulkAll parts + 1
  | .iface _ d => uptoBulk d + 1
  | .map entries => uptoBulkEntries entries + 1
  | .held _ => 1
def uptoBulkAll {H : Type} : List (DataW H) → Nat
  | [] => 0
  | d :: r => uptoBulk d + uptoBulkAll r
def uptoBulkEntries {H : Type} : List (Lit × DataW H) → Nat
  | [] => 0
  | x :: r => uptoBulkEntry x + uptoBulkEntries r
def uptoBulkEntry {H : Type} : Lit × DataW H → Nat
  | (.string bytes, d) => bytes.length + uptoBulk d + 1
  | (_, d) => uptoBulk d + 1
 end
def uptoSmall : (H : Type) → List (DataW H) → Bool := fun _ ds => decide (uptoBulkAll ds ≤ 1048576)
def OpenSpec.upto (s : _root_.Go.ChangeSpec) : _root_.Go.OpenSpec := { _root_.Go.OpenSpec.ofChange s with cond := some uptoSmall }

/-- 'tallylaw0.ApiErrors', WHERE WHAT IT READS IS OF BULK AT MOST 1048576: true; the input reads as it did. -/
def apiErrorsUptoRow : OpenClaim := { program := "ytboidjampddfoaa", sum := "d35355e929878e5cf9d58aec896a798ceb870f8534a5e39280615bfe56c4de2e", func := "tally/tallylaw0.ApiErrors", spec := "apiErrors", apart := false, narrowed := true }
def ApiErrorsUptoSaid : Prop := apiErrorsUptoRow.holds Try.pinned (OpenSpec.upto apiErrorsSpec)

/-- 'tallylaw0.ApiLimits', WHERE WHAT IT READS IS OF BULK AT MOST 1048576: true; the input reads as it did. -/
def apiLimitsUptoRow : OpenClaim := { program := "ytboidjampddfoaa", sum := "d35355e929878e5cf9d58aec896a798ceb870f8534a5e39280615bfe56c4de2e", func := "tally/tallylaw0.ApiLimits", spec := "apiLimits", apart := false, narrowed := true }
def ApiLimitsUptoSaid : Prop := apiLimitsUptoRow.holds Try.pinned (OpenSpec.upto apiLimitsSpec)

/-- 'tallylaw0.ApiKinds', WHERE WHAT IT READS IS OF BULK AT MOST 1048576: true; the input reads as it did. -/
def apiKindsUptoRow : OpenClaim := { program := "ytboidjampddfoaa", sum := "d35355e929878e5cf9d58aec896a798ceb870f8534a5e39280615bfe56c4de2e", func := "tally/tallylaw0.ApiKinds", spec := "apiKinds", apart := false, narrowed := true }
def ApiKindsUptoSaid : Prop := apiKindsUptoRow.holds Try.pinned (OpenSpec.upto apiKindsSpec)

/-- 'tallylaw0.ApiHeads', WHERE WHAT IT READS IS OF BULK AT MOST 1048576: true; the input reads as it did. -/
def apiHeadsUptoRow : OpenClaim := { program := "ytboidjampddfoaa", sum := "d35355e929878e5cf9d58aec896a798ceb870f8534a5e39280615bfe56c4de2e", func := "tally/tallylaw0.ApiHeads", spec := "apiHeads", apart := false, narrowed := true }
def ApiHeadsUptoSaid : Prop := apiHeadsUptoRow.holds Try.pinned (OpenSpec.upto apiHeadsSpec)

/-- 'tallylaw6.NetExact', WHERE WHAT IT READS IS OF BULK AT MOST 1048576: true; the input reads as it did. -/
def netExactUptoRow : OpenClaim := { program := "ytboidjampddfoaa", sum := "d35355e929878e5cf9d58aec896a798ceb870f8534a5e39280615bfe56c4de2e", func := "tally/tallylaw6.NetExact", spec := "netExact", apart := false, narrowed := true }
def NetExactUptoSaid : Prop := netExactUptoRow.holds Try.pinned (OpenSpec.upto netExactSpec)

/-- 'tallylaw6.NetFresh', WHERE WHAT IT READS IS OF BULK AT MOST 1048576: true; the input reads as it did. -/
def netFreshUptoRow : OpenClaim := { program := "ytboidjampddfoaa", sum := "d35355e929878e5cf9d58aec896a798ceb870f8534a5e39280615bfe56c4de2e", func := "tally/tallylaw6.NetFresh", spec := "netFresh", apart := false, narrowed := true }
def NetFreshUptoSaid : Prop := netFreshUptoRow.holds Try.pinned (OpenSpec.upto netFreshSpec)

/-- 'tallylaw6.NetKeeps', WHERE WHAT IT READS IS OF BULK AT MOST 1048576: true; the input reads as it did. -/
def netKeepsUptoRow : OpenClaim := { program := "ytboidjampddfoaa", sum := "d35355e929878e5cf9d58aec896a798ceb870f8534a5e39280615bfe56c4de2e", func := "tally/tallylaw6.NetKeeps", spec := "netKeeps", apart := false, narrowed := true }
def NetKeepsUptoSaid : Prop := netKeepsUptoRow.holds Try.pinned (OpenSpec.upto netKeepsSpec)

/-- 'tallylaw11.LeaseFence', WHERE WHAT IT READS IS OF BULK AT MOST 1048576: true; the input reads as it did. -/
def leaseFenceUptoRow : OpenClaim := { program := "ytboidjampddfoaa", sum := "d35355e929878e5cf9d58aec896a798ceb870f8534a5e39280615bfe56c4de2e", func := "tally/tallylaw11.LeaseFence", spec := "leaseFence", apart := false, narrowed := true }
def LeaseFenceUptoSaid : Prop := leaseFenceUptoRow.holds Try.pinned (OpenSpec.upto leaseFenceSpec)

/-- 'tallylaw11.LeaseRuns', WHERE WHAT IT READS IS OF BULK AT MOST 1048576: true; the input reads as it did. -/
def leaseRunsUptoRow : OpenClaim := { program := "ytboidjampddfoaa", sum := "d35355e929878e5cf9d58aec896a798ceb870f8534a5e39280615bfe56c4de2e", func := "tally/tallylaw11.LeaseRuns", spec := "leaseRuns", apart := false, narrowed := true }
def LeaseRunsUptoSaid : Prop := leaseRunsUptoRow.holds Try.pinned (OpenSpec.upto leaseRunsSpec)

/-- 'tallylaw11.LeaseEpochs', WHERE WHAT IT READS IS OF BULK AT MOST 1048576: true; the input reads as it did. -/
def leaseEpochsUptoRow : OpenClaim := { program := "ytboidjampddfoaa", sum := "d35355e929878e5cf9d58aec896a798ceb870f8534a5e39280615bfe56c4de2e", func := "tally/tallylaw11.LeaseEpochs", spec := "leaseEpochs", apart := false, narrowed := true }
def LeaseEpochsUptoSaid : Prop := leaseEpochsUptoRow.holds Try.pinned (OpenSpec.upto leaseEpochsSpec)

/-- 'tallylaw11.LeaseExact', WHERE WHAT IT READS IS OF BULK AT MOST 1048576: true; the input reads as it did. -/
def leaseExactUptoRow : OpenClaim := { program := "ytboidjampddfoaa", sum := "d35355e929878e5cf9d58aec896a798ceb870f8534a5e39280615bfe56c4de2e", func := "tally/tallylaw11.LeaseExact", spec := "leaseExact", apart := false, narrowed := true }
def LeaseExactUptoSaid : Prop := leaseExactUptoRow.holds Try.pinned (OpenSpec.upto leaseExactSpec)

end Rows
end Go.Proofs.Ytboidjampddfoaa
