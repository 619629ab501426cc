/-
  No cell of these rows narrows 'for every input' (looked for: loops, veiled, ifaces, maps, wideKeys, modest, calm, conditions, laid).
  DERIVED. THE GIVEN ROWS OF THIS SEAT. 6 by the template 'for every input the law returns true; each argument reads behind the call as it read before'; 0 by the template 'total and deterministic' (their statements: YtcbelendjpnmiaaTotals.lean).
  GIVEN WITH THE SEED: the statements are not yours to turn. If you find one false, say at which input.
  Laid BY PROGRAM, IN A SANDBOX (cutbox-rows.mjs): the forced cells as the released guide's own fill.sh prints them over the translation 6dee2bfea82ac70b… (all of the seat's roots in one cut). By AI agents, Wed Nov 11 2026. No macro, syntax, notation, axiom, sorry.
-/
import Derived.Test.YtcbelendjpnmiaaChecked
import GoSem.Claim
import GoSem.ClaimJoined
import GoSem.ClaimMapViews
import Derived.JoinedTies
import Derived.KernelRfl
namespace Go.Proofs.Ytcbelendjpnmiaa
/- THE CELL 'sum', in the pinned program and in every row, IS THE sha256 OF THE DUMP (.gsa) THAT YtcbelendjpnmiaaProg.lean LOADS. Nothing in Lean hashes anything: it is a label: what it is worth is what the hold of that sum in a sandbox is worth. -/
noncomputable def Try.pinned : Pinned := { name := "ytcbelendjpnmiaa", sum := "6dee2bfea82ac70b755dfdd253bc6522f729e0a6e8c2514f090409c9c0f3da6a", checked := Try.checked }
namespace Rows
def none {H : Type} : Left H := { results := [], args := [] }

/-- 'tallylaw9.ReplicaMeets': WHATEVER THE INPUT: true; the input reads as it did. -/
def replicaMeetsSpec : ChangeSpec := { name := "replicaMeets", fn := fun _ => fun
  | [d] => { results := [.lit (.bool true)], args := [d] }
  | _ => none }
def replicaMeetsRow : OpenClaim := { program := "ytcbelendjpnmiaa", sum := "6dee2bfea82ac70b755dfdd253bc6522f729e0a6e8c2514f090409c9c0f3da6a", func := "tally/tallylaw9.ReplicaMeets", spec := "replicaMeets", unfollowed := true, recurses := true, apart := false }
def ReplicaMeetsSaid : Prop := replicaMeetsRow.holds Try.pinned (OpenSpec.ofChange replicaMeetsSpec)

/-- ITS FALSE NEIGHBOUR: 'it returns false'. Refute it at one input. -/
def replicaMeetsWrong : ChangeSpec := { name := "replicaMeets", fn := fun _ => fun
  | [d] => { results := [.lit (.bool false)], args := [d] }
  | _ => none }
def ReplicaMeetsWrongFalsely : Prop := replicaMeetsRow.holds Try.pinned (OpenSpec.ofChange replicaMeetsWrong)

/-- 'tallylaw9.ReplicaExact': WHATEVER THE INPUT: true; the input reads as it did. -/
def replicaExactSpec : ChangeSpec := { name := "replicaExact", fn := fun _ => fun
  | [d] => { results := [.lit (.bool true)], args := [d] }
  | _ => none }
def replicaExactRow : OpenClaim := { program := "ytcbelendjpnmiaa", sum := "6dee2bfea82ac70b755dfdd253bc6522f729e0a6e8c2514f090409c9c0f3da6a", func := "tally/tallylaw9.ReplicaExact", spec := "replicaExact", unfollowed := true, recurses := true, apart := false }
def ReplicaExactSaid : Prop := replicaExactRow.holds Try.pinned (OpenSpec.ofChange replicaExactSpec)

/-- ITS FALSE NEIGHBOUR: 'it returns false'. Refute it at one input. -/
def replicaExactWrong : ChangeSpec := { name := "replicaExact", fn := fun _ => fun
  | [d] => { results := [.lit (.bool false)], args := [d] }
  | _ => none }
def ReplicaExactWrongFalsely : Prop := replicaExactRow.holds Try.pinned (OpenSpec.ofChange replicaExactWrong)

/-- 'tallylaw9.ReplicaFresh': WHATEVER THE INPUT: true; the input reads as it did. -/
def replicaFreshSpec : ChangeSpec := { name := "replicaFresh", fn := fun _ => fun
  | [d] => { results := [.lit (.bool true)], args := [d] }
  | _ => none }
def replicaFreshRow : OpenClaim := { program := "ytcbelendjpnmiaa", sum := "6dee2bfea82ac70b755dfdd253bc6522f729e0a6e8c2514f090409c9c0f3da6a", func := "tally/tallylaw9.ReplicaFresh", spec := "replicaFresh", unfollowed := true, recurses := true, apart := false }
def ReplicaFreshSaid : Prop := replicaFreshRow.holds Try.pinned (OpenSpec.ofChange replicaFreshSpec)

/-- ITS FALSE NEIGHBOUR: 'it returns false'. Refute it at one input. -/
def replicaFreshWrong : ChangeSpec := { name := "replicaFresh", fn := fun _ => fun
  | [d] => { results := [.lit (.bool false)], args := [d] }
  | _ => none }
def ReplicaFreshWrongFalsely : Prop := replicaFreshRow.holds Try.pinned (OpenSpec.ofChange replicaFreshWrong)

/-- 'tallylaw9.ReplicaFences': WHATEVER THE INPUT: true; the input reads as it did. -/
def replicaFencesSpec : ChangeSpec := { name := "replicaFences", fn := fun _ => fun
  | [d] => { results := [.lit (.bool true)], args := [d] }
  | _ => none }
def replicaFencesRow : OpenClaim := { program := "ytcbelendjpnmiaa", sum := "6dee2bfea82ac70b755dfdd253bc6522f729e0a6e8c2514f090409c9c0f3da6a", func := "tally/tallylaw9.ReplicaFences", spec := "replicaFences", unfollowed := true, recurses := true, apart := false }
def ReplicaFencesSaid : Prop := replicaFencesRow.holds Try.pinned (OpenSpec.ofChange replicaFencesSpec)

/-- ITS FALSE NEIGHBOUR: 'it returns false'. Refute it at one input. -/
def replicaFencesWrong : ChangeSpec := { name := "replicaFences", fn := fun _ => fun
  | [d] => { results := [.lit (.bool false)], args := [d] }
  | _ => none }
def ReplicaFencesWrongFalsely : Prop := replicaFencesRow.holds Try.pinned (OpenSpec.ofChange replicaFencesWrong)

/-- 'tallylaw9.ReplicaKeeps': WHATEVER THE INPUT: true; the input reads as it did. -/
def replicaKeepsSpec : ChangeSpec := { name := "replicaKeeps", fn := fun _ => fun
  | [d1, d2] => { results := [.lit (.bool true)], args := [d1, d2] }
  | _ => none }
def replicaKeepsRow : OpenClaim := { program := "ytcbelendjpnmiaa", sum := "6dee2bfea82ac70b755dfdd253bc6522f729e0a6e8c2514f090409c9c0f3da6a", func := "tally/tallylaw9.ReplicaKeeps", spec := "replicaKeeps", unfollowed := true, recurses := true, apart := false }
def ReplicaKeepsSaid : Prop := replicaKeepsRow.holds Try.pinned (OpenSpec.ofChange replicaKeepsSpec)

/-- ITS FALSE NEIGHBOUR: 'it returns false'. Refute it at one input. -/
def replicaKeepsWrong : ChangeSpec := { name := "replicaKeeps", fn := fun _ => fun
  | [d1, d2] => { results := [.lit (.bool false)], args := [d1, d2] }
  | _ => none }
def ReplicaKeepsWrongFalsely : Prop := replicaKeepsRow.holds Try.pinned (OpenSpec.ofChange replicaKeepsWrong)

/-- 'tallylaw9.ReplicaTwice': WHATEVER THE INPUT: true; the input reads as it did. -/
def replicaTwiceSpec : ChangeSpec := { name := "replicaTwice", fn := fun _ => fun
  | [d] => { results := [.lit (.bool true)], args := [d] }
  | _ => none }
def replicaTwiceRow : OpenClaim := { program := "ytcbelendjpnmiaa", sum := "6dee2bfea82ac70b755dfdd253bc6522f729e0a6e8c2514f090409c9c0f3da6a", func := "tally/tallylaw9.ReplicaTwice", spec := "replicaTwice", unfollowed := true, recurses := true, apart := false }
def ReplicaTwiceSaid : Prop := replicaTwiceRow.holds Try.pinned (OpenSpec.ofChange replicaTwiceSpec)

/-- ITS FALSE NEIGHBOUR: 'it returns false'. Refute it at one input. -/
def replicaTwiceWrong : ChangeSpec := { name := "replicaTwice", fn := fun _ => fun
  | [d] => { results := [.lit (.bool false)], args := [d] }
  | _ => none }
def ReplicaTwiceWrongFalsely : Prop := replicaTwiceRow.holds Try.pinned (OpenSpec.ofChange replicaTwiceWrong)

/- THE SECOND FORM. 'bulk': how many values and letters a reading holds, each counted each time it is reached (what is shared counts as often as it is met; a slice's spare places count too). A statement '..UptoSaid' is the law's where the arguments, and the package variables that the reading takes, are together of bulk at most 1048576: NARROWER than '..Said'. Prove '..Said' where nothing that the law and all that it calls make is longer than what came in: it says more and counts as full. Else prove '..UptoSaid'. A law counts once. -/
mutual
def uptoBulk {H : Type} : DataW H → Nat
  | .lit (.string bytes) => bytes.length + 1
  | .lit _ => 1
  | .nil => 1
  | .ptr d => uptoBulk d + 1
  | .slice elems spare => uptoBulkAll elems + uptoBulkAll spare + 1
  | .agg parts => uptoBulkAll parts + 1
  | .iface _ d => uptoBulk d + 1
  | .map entries => uptoBulkEntries entries + 1
  | .held _ => 1
def uptoBulkAll {H : Type} : List (DataW H) → Nat
  | [] => 0
  | d :: r => uptoBulk d + uptoBulkAll r
def uptoBulkEntries {H : Type} : List (Lit × DataW H) → Nat
  | [] => 0
  | x :: r => uptoBulkEntry x + uptoBulkEntries r
def uptoBulkEntry {H : Type} : Lit × DataW H → Nat
  | (.string bytes, d) => bytes.length + uptoBulk d + 1
  | (_, d) => uptoBulk d + 1
 end
def uptoSmall : (H : Type) → List (DataW H) → Bool := fun _ ds => decide (uptoBulkAll ds ≤ 1048576)
def OpenSpec.upto (s : _root_.Go.ChangeSpec) : _root_.Go.OpenSpec := { _root_.Go.OpenSpec.ofChange s with cond := some uptoSmall }

/-- 'tallylaw9.ReplicaMeets', WHERE WHAT IT READS IS OF BULK AT MOST 1048576: true; the input reads as it did. -/
def replicaMeetsUptoRow : OpenClaim := { program := "ytcbelendjpnmiaa", sum := "6dee2bfea82ac70b755dfdd253bc6522f729e0a6e8c2514f090409c9c0f3da6a", func := "tally/tallylaw9.ReplicaMeets", spec := "replicaMeets", unfollowed := true, recurses := true, apart := false, narrowed := true }
def ReplicaMeetsUptoSaid : Prop := replicaMeetsUptoRow.holds Try.pinned (OpenSpec.upto replicaMeetsSpec)

/-- 'tallylaw9.ReplicaExact', WHERE WHAT IT READS IS OF BULK AT MOST 1048576: true; the input reads as it did. -/
def replicaExactUptoRow : OpenClaim := { program := "ytcbelendjpnmiaa", sum := "6dee2bfea82ac70b755dfdd253bc6522f729e0a6e8c2514f090409c9c0f3da6a", func := "tally/tallylaw9.ReplicaExact", spec := "replicaExact", unfollowed := true, recurses := true, apart := false, narrowed := true }
def ReplicaExactUptoSaid : Prop := replicaExactUptoRow.holds Try.pinned (OpenSpec.upto replicaExactSpec)

/-- 'tallylaw9.ReplicaFresh', WHERE WHAT IT READS IS OF BULK AT MOST 1048576: true; the input reads as it did. -/
def replicaFreshUptoRow : OpenClaim := { program := "ytcbelendjpnmiaa", sum := "6dee2bfea82ac70b755dfdd253bc6522f729e0a6e8c2514f090409c9c0f3da6a", func := "tally/tallylaw9.ReplicaFresh", spec := "replicaFresh", unfollowed := true, recurses := true, apart := false, narrowed := true }
def ReplicaFreshUptoSaid : Prop := replicaFreshUptoRow.holds Try.pinned (OpenSpec.upto replicaFreshSpec)

/-- 'tallylaw9.ReplicaFences', WHERE WHAT IT READS IS OF BULK AT MOST 1048576: true; the input reads as it did. -/
def replicaFencesUptoRow : OpenClaim := { program := "ytcbelendjpnmiaa", sum := "6dee2bfea82ac70b755dfdd253bc6522f729e0a6e8c2514f090409c9c0f3da6a", func := "tally/tallylaw9.ReplicaFences", spec := "replicaFences", unfollowed := true, recurses := true, apart := false, narrowed := true }
def ReplicaFencesUptoSaid : Prop := replicaFencesUptoRow.holds Try.pinned (OpenSpec.upto replicaFencesSpec)

/-- 'tallylaw9.ReplicaKeeps', WHERE WHAT IT READS IS OF BULK AT MOST 1048576: true; the input reads as it did. -/
def replicaKeepsUptoRow : OpenClaim := { program := "ytcbelendjpnmiaa", sum := "6dee2bfea82ac70b755dfdd253bc6522f729e0a6e8c2514f090409c9c0f3da6a", func := "tally/tallylaw9.ReplicaKeeps", spec := "replicaKeeps", unfollowed := true, recurses := true, apart := false, narrowed := true }
def ReplicaKeepsUptoSaid : Prop := replicaKeepsUptoRow.holds Try.pinned (OpenSpec.upto replicaKeepsSpec)

/-- 'tallylaw9.ReplicaTwice', WHERE WHAT IT READS IS OF BULK AT MOST 1048576: true; the input reads as it did. -/
def replicaTwiceUptoRow : OpenClaim := { program := "ytcbelendjpnmiaa", sum := "6dee2bfea82ac70b755dfdd253bc6522f729e0a6e8c2514f090409c9c0f3da6a", func := "tally/tallylaw9.ReplicaTwice", spec := "replicaTwice", unfollowed := true, recurses := true, apart := false, narrowed := true }
def ReplicaTwiceUptoSaid : Prop := replicaTwiceUptoRow.holds Try.pinned (OpenSpec.upto replicaTwiceSpec)

end Rows
end Go.Proofs.Ytcbelendjpnmiaa
