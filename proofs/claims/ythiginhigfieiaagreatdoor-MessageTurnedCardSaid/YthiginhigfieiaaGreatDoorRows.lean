/-
  NARROWER THAN 'FOR EVERY INPUT', by the rows' own cells (each row's printed sentence says how): MessageExact: laid · MessagePlaced: laid · MessageBack: laid · MessageTurned: laid.
  DERIVED. THE GIVEN ROWS OF THIS SEAT. 4 by the template 'for every input the law returns true; each argument reads behind the call as it read before'; 0 by the template 'total and deterministic' (their statements: YthiginhigfieiaaGreatDoorTotals.lean).
  GIVEN WITH THE SEED: the statements are not yours to turn. If you find one false, say at which input.
  Laid BY PROGRAM, IN A SANDBOX (cutbox-rows.mjs): the forced cells as the released guide's own fill.sh prints them over the translation 15faf18fb72e6d61… (all of the seat's roots in one cut). By AI agents, Wed Nov 11 2026. No macro, syntax, notation, axiom, sorry.
-/
import Derived.Test.YthiginhigfieiaaGreatDoorChecked
import GoSem.Claim
import GoSem.ClaimJoined
import GoSem.ClaimMapViews
import Derived.JoinedTies
import Derived.KernelRfl
namespace Go.Proofs.YthiginhigfieiaaGreatDoor
/- THE CELL 'sum', in the pinned program and in every row, IS THE sha256 OF THE DUMP (.gsa) THAT YthiginhigfieiaaGreatDoorProg.lean LOADS. Nothing in Lean hashes anything: it is a label: what it is worth is what the hold of that sum in a sandbox is worth. -/
noncomputable def Tryz.pinned : Pinned := { name := "ythiginhigfieiaagreatdoor", sum := "15faf18fb72e6d610c1b316e92e70fdde8c6b08af94e1aff49ed4836c22f2a6e", checked := Tryz.checked }
namespace Rows
def none {H : Type} : Left H := { results := [], args := [] }

/- WHAT THE LISTED PACKAGE-LEVEL VARIABLES READ AS WHEN THE CALL BEGINS. Each datum BY PROGRAM (the guide's laid-datum.mjs) off the statement by which the dump's own 'gosem.cut.vars' lays the variable. In a bare row this is a premise. The card (YthiginhigfieiaaGreatDoorCards.lean) ties it to the program's text. -/
def laid_tally_code_errnos {H : Type} : DataW H := .agg [.lit (.int .i64 0), .lit (.int .i64 10), .lit (.int .i64 11), .lit (.int .i64 12), .lit (.int .i64 14)]
def laid_tally_message_uses {H : Type} : DataW H := .agg [.nil, .slice [.lit (.int .i64 0)] [], .slice [.lit (.int .i64 0), .lit (.int .i64 1), .lit (.int .i64 5)] [], .slice [.lit (.int .i64 0), .lit (.int .i64 4)] [], .slice [.lit (.int .i64 1), .lit (.int .i64 3), .lit (.int .i64 5)] [], .slice [.lit (.int .i64 1)] [], .slice [.lit (.int .i64 0), .lit (.int .i64 2), .lit (.int .i64 3)] [], .slice [.lit (.int .i64 0), .lit (.int .i64 2)] [], .slice [.lit (.int .i64 6), .lit (.int .i64 7), .lit (.int .i64 8), .lit (.int .i64 10)] [], .slice [.lit (.int .i64 6), .lit (.int .i64 7)] [], .slice [.lit (.int .i64 7), .lit (.int .i64 8), .lit (.int .i64 9), .lit (.int .i64 10), .lit (.int .i64 11), .lit (.int .i64 12), .lit (.int .i64 13)] [], .slice [.lit (.int .i64 10), .lit (.int .i64 11), .lit (.int .i64 14), .lit (.int .i64 15)] []]

/-- 'tallylaw8.MessageExact': WHATEVER THE INPUT: true; the input reads as it did. -/
def messageExactSpec : ChangeSpec := { name := "messageExact", fn := fun _ => fun
  | [d] => { results := [.lit (.bool true)], args := [d] }
  | _ => none }
def messageExactRow : OpenClaim := { program := "ythiginhigfieiaagreatdoor", sum := "15faf18fb72e6d610c1b316e92e70fdde8c6b08af94e1aff49ed4836c22f2a6e", func := "tally/tallylaw8.MessageExact", spec := "messageExact", unfollowed := true, recurses := true, named := ["tally/message.uses", "tally/code.errnos"], apart := false, laid := [("tally/code.errnos", laid_tally_code_errnos), ("tally/message.uses", laid_tally_message_uses)] }
def MessageExactSaid : Prop := messageExactRow.holds Tryz.pinned (OpenSpec.ofChange messageExactSpec)

/-- ITS FALSE NEIGHBOUR: 'it returns false'. Refute it at one input. -/
def messageExactWrong : ChangeSpec := { name := "messageExact", fn := fun _ => fun
  | [d] => { results := [.lit (.bool false)], args := [d] }
  | _ => none }
def MessageExactWrongFalsely : Prop := messageExactRow.holds Tryz.pinned (OpenSpec.ofChange messageExactWrong)

/-- 'tallylaw8.MessagePlaced': WHATEVER THE INPUT: true; the input reads as it did. -/
def messagePlacedSpec : ChangeSpec := { name := "messagePlaced", fn := fun _ => fun
  | [d] => { results := [.lit (.bool true)], args := [d] }
  | _ => none }
def messagePlacedRow : OpenClaim := { program := "ythiginhigfieiaagreatdoor", sum := "15faf18fb72e6d610c1b316e92e70fdde8c6b08af94e1aff49ed4836c22f2a6e", func := "tally/tallylaw8.MessagePlaced", spec := "messagePlaced", unfollowed := true, recurses := true, named := ["tally/message.uses", "tally/code.errnos"], apart := false, laid := [("tally/code.errnos", laid_tally_code_errnos), ("tally/message.uses", laid_tally_message_uses)] }
def MessagePlacedSaid : Prop := messagePlacedRow.holds Tryz.pinned (OpenSpec.ofChange messagePlacedSpec)

/-- ITS FALSE NEIGHBOUR: 'it returns false'. Refute it at one input. -/
def messagePlacedWrong : ChangeSpec := { name := "messagePlaced", fn := fun _ => fun
  | [d] => { results := [.lit (.bool false)], args := [d] }
  | _ => none }
def MessagePlacedWrongFalsely : Prop := messagePlacedRow.holds Tryz.pinned (OpenSpec.ofChange messagePlacedWrong)

/-- 'tallylaw8.MessageBack': WHATEVER THE INPUT: true; the input reads as it did. -/
def messageBackSpec : ChangeSpec := { name := "messageBack", fn := fun _ => fun
  | [d] => { results := [.lit (.bool true)], args := [d] }
  | _ => none }
def messageBackRow : OpenClaim := { program := "ythiginhigfieiaagreatdoor", sum := "15faf18fb72e6d610c1b316e92e70fdde8c6b08af94e1aff49ed4836c22f2a6e", func := "tally/tallylaw8.MessageBack", spec := "messageBack", unfollowed := true, recurses := true, named := ["tally/message.uses", "tally/code.errnos"], apart := false, laid := [("tally/code.errnos", laid_tally_code_errnos), ("tally/message.uses", laid_tally_message_uses)] }
def MessageBackSaid : Prop := messageBackRow.holds Tryz.pinned (OpenSpec.ofChange messageBackSpec)

/-- ITS FALSE NEIGHBOUR: 'it returns false'. Refute it at one input. -/
def messageBackWrong : ChangeSpec := { name := "messageBack", fn := fun _ => fun
  | [d] => { results := [.lit (.bool false)], args := [d] }
  | _ => none }
def MessageBackWrongFalsely : Prop := messageBackRow.holds Tryz.pinned (OpenSpec.ofChange messageBackWrong)

/-- 'tallylaw8.MessageTurned': WHATEVER THE INPUT: true; the input reads as it did. -/
def messageTurnedSpec : ChangeSpec := { name := "messageTurned", fn := fun _ => fun
  | [d] => { results := [.lit (.bool true)], args := [d] }
  | _ => none }
def messageTurnedRow : OpenClaim := { program := "ythiginhigfieiaagreatdoor", sum := "15faf18fb72e6d610c1b316e92e70fdde8c6b08af94e1aff49ed4836c22f2a6e", func := "tally/tallylaw8.MessageTurned", spec := "messageTurned", unfollowed := true, recurses := true, named := ["tally/message.uses", "tally/code.errnos"], apart := false, laid := [("tally/code.errnos", laid_tally_code_errnos), ("tally/message.uses", laid_tally_message_uses)] }
def MessageTurnedSaid : Prop := messageTurnedRow.holds Tryz.pinned (OpenSpec.ofChange messageTurnedSpec)

/-- ITS FALSE NEIGHBOUR: 'it returns false'. Refute it at one input. -/
def messageTurnedWrong : ChangeSpec := { name := "messageTurned", fn := fun _ => fun
  | [d] => { results := [.lit (.bool false)], args := [d] }
  | _ => none }
def MessageTurnedWrongFalsely : Prop := messageTurnedRow.holds Tryz.pinned (OpenSpec.ofChange messageTurnedWrong)

/- THE SECOND FORM. 'bulk': how many values and letters a reading holds, each counted each time it is reached (what is shared counts as often as it is met; a slice's spare places count too). A statement '..UptoSaid' is the law's where the arguments, and the package variables that the reading takes, are together of bulk at most 1048576: NARROWER than '..Said'. Prove '..Said' where nothing that the law and all that it calls make is longer than what came in: it says more and counts as full. Else prove '..UptoSaid'. A law counts once. -/
mutual
def uptoBulk {H : Type} : DataW H → Nat
  | .lit (.string bytes) => bytes.length + 1
  | .lit _ => 1
  | .nil => 1
  | .ptr d => uptoBulk d + 1
  | .slice elems spare => uptoBulkAll elems + uptoBulkAll spare + 1
  | .agg parts => uptoBulkAll parts + 1
  | .iface _ d => uptoBulk d + 1
  | .map entries => uptoBulkEntries entries + 1
  | .held _ => 1
def uptoBulkAll {H : Type} : List (DataW H) → Nat
  | [] => 0
  | d :: r => uptoBulk d + uptoBulkAll r
def uptoBulkEntries {H : Type} : List (Lit × DataW H) → Nat
  | [] => 0
  | x :: r => uptoBulkEntry x + uptoBulkEntries r
def uptoBulkEntry {H : Type} : Lit × DataW H → Nat
  | (.string bytes, d) => bytes.length + uptoBulk d + 1
  | (_, d) => uptoBulk d + 1
 end
def uptoSmall : (H : Type) → List (DataW H) → Bool := fun _ ds => decide (uptoBulkAll ds ≤ 1048576)
def OpenSpec.upto (s : _root_.Go.ChangeSpec) : _root_.Go.OpenSpec := { _root_.Go.OpenSpec.ofChange s with cond := some uptoSmall }

/-- 'tallylaw8.MessageExact', WHERE WHAT IT READS IS OF BULK AT MOST 1048576: true; the input reads as it did. -/
def messageExactUptoRow : OpenClaim := { program := "ythiginhigfieiaagreatdoor", sum := "15faf18fb72e6d610c1b316e92e70fdde8c6b08af94e1aff49ed4836c22f2a6e", func := "tally/tallylaw8.MessageExact", spec := "messageExact", unfollowed := true, recurses := true, named := ["tally/message.uses", "tally/code.errnos"], apart := false, laid := [("tally/code.errnos", laid_tally_code_errnos), ("tally/message.uses", laid_tally_message_uses)], narrowed := true }
def MessageExactUptoSaid : Prop := messageExactUptoRow.holds Tryz.pinned (OpenSpec.upto messageExactSpec)

/-- 'tallylaw8.MessagePlaced', WHERE WHAT IT READS IS OF BULK AT MOST 1048576: true; the input reads as it did. -/
def messagePlacedUptoRow : OpenClaim := { program := "ythiginhigfieiaagreatdoor", sum := "15faf18fb72e6d610c1b316e92e70fdde8c6b08af94e1aff49ed4836c22f2a6e", func := "tally/tallylaw8.MessagePlaced", spec := "messagePlaced", unfollowed := true, recurses := true, named := ["tally/message.uses", "tally/code.errnos"], apart := false, laid := [("tally/code.errnos", laid_tally_code_errnos), ("tally/message.uses", laid_tally_message_uses)], narrowed := true }
def MessagePlacedUptoSaid : Prop := messagePlacedUptoRow.holds Tryz.pinned (OpenSpec.upto messagePlacedSpec)

/-- 'tallylaw8.MessageBack', WHERE WHAT IT READS IS OF BULK AT MOST 1048576: true; the input reads as it did. -/
def messageBackUptoRow : OpenClaim := { program := "ythiginhigfieiaagreatdoor", sum := "15faf18fb72e6d610c1b316e92e70fdde8c6b08af94e1aff49ed4836c22f2a6e", func := "tally/tallylaw8.MessageBack", spec := "messageBack", unfollowed := true, recurses := true, named := ["tally/message.uses", "tally/code.errnos"], apart := false, laid := [("tally/code.errnos", laid_tally_code_errnos), ("tally/message.uses", laid_tally_message_uses)], narrowed := true }
def MessageBackUptoSaid : Prop := messageBackUptoRow.holds Tryz.pinned (OpenSpec.upto messageBackSpec)

/-- 'tallylaw8.MessageTurned', WHERE WHAT IT READS IS OF BULK AT MOST 1048576: true; the input reads as it did. -/
def messageTurnedUptoRow : OpenClaim := { program := "ythiginhigfieiaagreatdoor", sum := "15faf18fb72e6d610c1b316e92e70fdde8c6b08af94e1aff49ed4836c22f2a6e", func := "tally/tallylaw8.MessageTurned", spec := "messageTurned", unfollowed := true, recurses := true, named := ["tally/message.uses", "tally/code.errnos"], apart := false, laid := [("tally/code.errnos", laid_tally_code_errnos), ("tally/message.uses", laid_tally_message_uses)], narrowed := true }
def MessageTurnedUptoSaid : Prop := messageTurnedUptoRow.holds Tryz.pinned (OpenSpec.upto messageTurnedSpec)

end Rows
end Go.Proofs.YthiginhigfieiaaGreatDoor
