/-
  No cell of these rows narrows 'for every input' (looked for: loops, veiled, ifaces, maps, wideKeys, modest, calm, conditions, laid).
  DERIVED. THE GIVEN ROWS OF THIS SEAT. 3 by the template 'for every input the law returns true; each argument reads behind the call as it read before'; 0 by the template 'total and deterministic' (their statements: YtigcpkejjjgkeaaTotals.lean).
  GIVEN WITH THE SEED: the statements are not yours to turn. If you find one false, say at which input.
  Laid BY PROGRAM, IN A SANDBOX (cutbox-rows.mjs): the forced cells as the released guide's own fill.sh prints them over the translation 93b712f8530cdcd6… (all of the seat's roots in one cut). By AI agents, Wed Nov 11 2026. No macro, syntax, notation, axiom, sorry.
-/
import Derived.Test.YtigcpkejjjgkeaaChecked
import GoSem.Claim
import GoSem.ClaimJoined
import GoSem.ClaimMapViews
import Derived.JoinedTies
import Derived.KernelRfl
namespace Go.Proofs.Ytigcpkejjjgkeaa
/- THE CELL 'sum', in the pinned program and in every row, IS THE sha256 OF THE DUMP (.gsa) THAT YtigcpkejjjgkeaaProg.lean LOADS. Nothing in Lean hashes anything: it is a label: what it is worth is what the hold of that sum in a sandbox is worth. -/
noncomputable def Try.pinned : Pinned := { name := "ytigcpkejjjgkeaa", sum := "93b712f8530cdcd642af0fbca71f92aa14cf69ebfe4634921c87c1ed1ab17d4b", checked := Try.checked }
namespace Rows
def none {H : Type} : Left H := { results := [], args := [] }

/-- 'tallylaw10.QuorumCounts': WHATEVER THE INPUT: true; the input reads as it did. -/
def quorumCountsSpec : ChangeSpec := { name := "quorumCounts", fn := fun _ => fun
  | [d] => { results := [.lit (.bool true)], args := [d] }
  | _ => none }
def quorumCountsRow : OpenClaim := { program := "ytigcpkejjjgkeaa", sum := "93b712f8530cdcd642af0fbca71f92aa14cf69ebfe4634921c87c1ed1ab17d4b", func := "tally/tallylaw10.QuorumCounts", spec := "quorumCounts", unfollowed := true, recurses := true, apart := false }
def QuorumCountsSaid : Prop := quorumCountsRow.holds Try.pinned (OpenSpec.ofChange quorumCountsSpec)

/-- ITS FALSE NEIGHBOUR: 'it returns false'. Refute it at one input. -/
def quorumCountsWrong : ChangeSpec := { name := "quorumCounts", fn := fun _ => fun
  | [d] => { results := [.lit (.bool false)], args := [d] }
  | _ => none }
def QuorumCountsWrongFalsely : Prop := quorumCountsRow.holds Try.pinned (OpenSpec.ofChange quorumCountsWrong)

/-- 'tallylaw10.QuorumRow': WHATEVER THE INPUT: true; the input reads as it did. -/
def quorumRowSpec : ChangeSpec := { name := "quorumRow", fn := fun _ => fun
  | [d] => { results := [.lit (.bool true)], args := [d] }
  | _ => none }
def quorumRowRow : OpenClaim := { program := "ytigcpkejjjgkeaa", sum := "93b712f8530cdcd642af0fbca71f92aa14cf69ebfe4634921c87c1ed1ab17d4b", func := "tally/tallylaw10.QuorumRow", spec := "quorumRow", unfollowed := true, recurses := true, apart := false }
def QuorumRowSaid : Prop := quorumRowRow.holds Try.pinned (OpenSpec.ofChange quorumRowSpec)

/-- ITS FALSE NEIGHBOUR: 'it returns false'. Refute it at one input. -/
def quorumRowWrong : ChangeSpec := { name := "quorumRow", fn := fun _ => fun
  | [d] => { results := [.lit (.bool false)], args := [d] }
  | _ => none }
def QuorumRowWrongFalsely : Prop := quorumRowRow.holds Try.pinned (OpenSpec.ofChange quorumRowWrong)

/-- 'tallylaw10.QuorumOnce': WHATEVER THE INPUT: true; the input reads as it did. -/
def quorumOnceSpec : ChangeSpec := { name := "quorumOnce", fn := fun _ => fun
  | [d] => { results := [.lit (.bool true)], args := [d] }
  | _ => none }
def quorumOnceRow : OpenClaim := { program := "ytigcpkejjjgkeaa", sum := "93b712f8530cdcd642af0fbca71f92aa14cf69ebfe4634921c87c1ed1ab17d4b", func := "tally/tallylaw10.QuorumOnce", spec := "quorumOnce", unfollowed := true, recurses := true, apart := false }
def QuorumOnceSaid : Prop := quorumOnceRow.holds Try.pinned (OpenSpec.ofChange quorumOnceSpec)

/-- ITS FALSE NEIGHBOUR: 'it returns false'. Refute it at one input. -/
def quorumOnceWrong : ChangeSpec := { name := "quorumOnce", fn := fun _ => fun
  | [d] => { results := [.lit (.bool false)], args := [d] }
  | _ => none }
def QuorumOnceWrongFalsely : Prop := quorumOnceRow.holds Try.pinned (OpenSpec.ofChange quorumOnceWrong)

/- THE SECOND FORM. 'bulk': how many values and letters a reading holds, each counted each time it is reached (what is shared counts as often as it is met; a slice's spare places count too). A statement '..UptoSaid' is the law's where the arguments, and the package variables that the reading takes, are together of bulk at most 1048576: NARROWER than '..Said'. Prove '..Said' where nothing that the law and all that it calls make is longer than what came in: it says more and counts as full. Else prove '..UptoSaid'. A law counts once. -/
mutual
def uptoBulk {H : Type} : DataW H → Nat
  | .lit (.string bytes) => bytes.length + 1
  | .lit _ => 1
  | .nil => 1
  | .ptr d => uptoBulk d + 1
  | .slice elems spare => uptoBulkAll elems + uptoBulkAll spare + 1
  | .agg parts => uptoBulkAll parts + 1
  | .iface _ d => uptoBulk d + 1
  | .map entries => uptoBulkEntries entries + 1
  | .held _ => 1
def uptoBulkAll {H : Type} : List (DataW H) → Nat
  | [] => 0
  | d :: r => uptoBulk d + uptoBulkAll r
def uptoBulkEntries {H : Type} : List (Lit × DataW H) → Nat
  | [] => 0
  | x :: r => uptoBulkEntry x + uptoBulkEntries r
def uptoBulkEntry {H : Type} : Lit × DataW H → Nat
  | (.string bytes, d) => bytes.length + uptoBulk d + 1
  | (_, d) => uptoBulk d + 1
 end
def uptoSmall : (H : Type) → List (DataW H) → Bool := fun _ ds => decide (uptoBulkAll ds ≤ 1048576)
def OpenSpec.upto (s : _root_.Go.ChangeSpec) : _root_.Go.OpenSpec := { _root_.Go.OpenSpec.ofChange s with cond := some uptoSmall }

/-- 'tallylaw10.QuorumCounts', WHERE WHAT IT READS IS OF BULK AT MOST 1048576: true; the input reads as it did. -/
def quorumCountsUptoRow : OpenClaim := { program := "ytigcpkejjjgkeaa", sum := "93b712f8530cdcd642af0fbca71f92aa14cf69ebfe4634921c87c1ed1ab17d4b", func := "tally/tallylaw10.QuorumCounts", spec := "quorumCounts", unfollowed := true, recurses := true, apart := false, narrowed := true }
def QuorumCountsUptoSaid : Prop := quorumCountsUptoRow.holds Try.pinned (OpenSpec.upto quorumCountsSpec)

/-- 'tallylaw10.QuorumRow', WHERE WHAT IT READS IS OF BULK AT MOST 1048576: true; the input reads as it did. -/
def quorumRowUptoRow : OpenClaim := { program := "ytigcpkejjjgkeaa", sum := "93b712f8530cdcd642af0fbca71f92aa14cf69ebfe4634921c87c1ed1ab17d4b", func := "tally/tallylaw10.QuorumRow", spec := "quorumRow", unfollowed := true, recurses := true, apart := false, narrowed := true }
def QuorumRowUptoSaid : Prop := quorumRowUptoRow.holds Try.pinned (OpenSpec.upto quorumRowSpec)

/-- 'tallylaw10.QuorumOnce', WHERE WHAT IT READS IS OF BULK AT MOST 1048576: true; the input reads as it did. -/
def quorumOnceUptoRow : OpenClaim := { program := "ytigcpkejjjgkeaa", sum := "93b712f8530cdcd642af0fbca71f92aa14cf69ebfe4634921c87c1ed1ab17d4b", func := "tally/tallylaw10.QuorumOnce", spec := "quorumOnce", unfollowed := true, recurses := true, apart := false, narrowed := true }
def QuorumOnceUptoSaid : Prop := quorumOnceUptoRow.holds Try.pinned (OpenSpec.upto quorumOnceSpec)

end Rows
end Go.Proofs.Ytigcpkejjjgkeaa
