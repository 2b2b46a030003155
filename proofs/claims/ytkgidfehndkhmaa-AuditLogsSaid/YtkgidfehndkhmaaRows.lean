/-
  No cell of these rows narrows 'for every input' (looked for: loops, veiled, ifaces, maps, wideKeys, modest, calm, conditions, laid).
  DERIVED. THE GIVEN ROWS OF THIS SEAT. 7 by the template 'for every input the law returns true; each argument reads behind the call as it read before'; 0 by the template 'total and deterministic' (their statements: YtkgidfehndkhmaaTotals.lean).
  GIVEN WITH THE SEED: the statements are not yours to turn. If you find one false, say at which input.
  Laid BY PROGRAM, IN A SANDBOX (cutbox-rows.mjs): the forced cells as the released guide's own fill.sh prints them over the translation d62031fbf54ed580… (all of the seat's roots in one cut). By AI agents, Wed Nov 11 2026. No macro, syntax, notation, axiom, sorry.
-/
import Derived.Test.YtkgidfehndkhmaaChecked
import GoSem.Claim
import GoSem.ClaimJoined
import GoSem.ClaimMapViews
import Derived.JoinedTies
import Derived.KernelRfl
namespace Go.Proofs.Ytkgidfehndkhmaa
/- THE CELL 'sum', in the pinned program and in every row, IS THE sha256 OF THE DUMP (.gsa) THAT YtkgidfehndkhmaaProg.lean LOADS. Nothing in Lean hashes anything: it is a label: what it is worth is what the hold of that sum in a sandbox is worth. -/
noncomputable def Try.pinned : Pinned := { name := "ytkgidfehndkhmaa", sum := "d62031fbf54ed5801d9ece4cdf7f5af61734e7f04de81a641da0a0f0b5ca59c9", checked := Try.checked }
namespace Rows
def none {H : Type} : Left H := { results := [], args := [] }

/-- 'postroadlaw18.AuditAcks': WHATEVER THE INPUT: true; the input reads as it did. -/
def auditAcksSpec : ChangeSpec := { name := "auditAcks", fn := fun _ => fun
  | [d] => { results := [.lit (.bool true)], args := [d] }
  | _ => none }
def auditAcksRow : OpenClaim := { program := "ytkgidfehndkhmaa", sum := "d62031fbf54ed5801d9ece4cdf7f5af61734e7f04de81a641da0a0f0b5ca59c9", func := "postroad/postroadlaw18.AuditAcks", spec := "auditAcks", plainKeys := false, apart := false }
def AuditAcksSaid : Prop := auditAcksRow.holds Try.pinned (OpenSpec.ofChange auditAcksSpec)

/-- ITS FALSE NEIGHBOUR: 'it returns false'. Refute it at one input. -/
def auditAcksWrong : ChangeSpec := { name := "auditAcks", fn := fun _ => fun
  | [d] => { results := [.lit (.bool false)], args := [d] }
  | _ => none }
def AuditAcksWrongFalsely : Prop := auditAcksRow.holds Try.pinned (OpenSpec.ofChange auditAcksWrong)

/-- 'postroadlaw18.AuditFetches': WHATEVER THE INPUT: true; the input reads as it did. -/
def auditFetchesSpec : ChangeSpec := { name := "auditFetches", fn := fun _ => fun
  | [d1, d2] => { results := [.lit (.bool true)], args := [d1, d2] }
  | _ => none }
def auditFetchesRow : OpenClaim := { program := "ytkgidfehndkhmaa", sum := "d62031fbf54ed5801d9ece4cdf7f5af61734e7f04de81a641da0a0f0b5ca59c9", func := "postroad/postroadlaw18.AuditFetches", spec := "auditFetches", plainKeys := false, apart := false }
def AuditFetchesSaid : Prop := auditFetchesRow.holds Try.pinned (OpenSpec.ofChange auditFetchesSpec)

/-- ITS FALSE NEIGHBOUR: 'it returns false'. Refute it at one input. -/
def auditFetchesWrong : ChangeSpec := { name := "auditFetches", fn := fun _ => fun
  | [d1, d2] => { results := [.lit (.bool false)], args := [d1, d2] }
  | _ => none }
def AuditFetchesWrongFalsely : Prop := auditFetchesRow.holds Try.pinned (OpenSpec.ofChange auditFetchesWrong)

/-- 'postroadlaw18.AuditMoves': WHATEVER THE INPUT: true; the input reads as it did. -/
def auditMovesSpec : ChangeSpec := { name := "auditMoves", fn := fun _ => fun
  | [d1, d2, d3] => { results := [.lit (.bool true)], args := [d1, d2, d3] }
  | _ => none }
def auditMovesRow : OpenClaim := { program := "ytkgidfehndkhmaa", sum := "d62031fbf54ed5801d9ece4cdf7f5af61734e7f04de81a641da0a0f0b5ca59c9", func := "postroad/postroadlaw18.AuditMoves", spec := "auditMoves", plainKeys := false, apart := false }
def AuditMovesSaid : Prop := auditMovesRow.holds Try.pinned (OpenSpec.ofChange auditMovesSpec)

/-- ITS FALSE NEIGHBOUR: 'it returns false'. Refute it at one input. -/
def auditMovesWrong : ChangeSpec := { name := "auditMoves", fn := fun _ => fun
  | [d1, d2, d3] => { results := [.lit (.bool false)], args := [d1, d2, d3] }
  | _ => none }
def AuditMovesWrongFalsely : Prop := auditMovesRow.holds Try.pinned (OpenSpec.ofChange auditMovesWrong)

/-- 'postroadlaw18.AuditParts': WHATEVER THE INPUT: true; the input reads as it did. -/
def auditPartsSpec : ChangeSpec := { name := "auditParts", fn := fun _ => fun
  | [d1, d2, d3] => { results := [.lit (.bool true)], args := [d1, d2, d3] }
  | _ => none }
def auditPartsRow : OpenClaim := { program := "ytkgidfehndkhmaa", sum := "d62031fbf54ed5801d9ece4cdf7f5af61734e7f04de81a641da0a0f0b5ca59c9", func := "postroad/postroadlaw18.AuditParts", spec := "auditParts", plainKeys := false, apart := false }
def AuditPartsSaid : Prop := auditPartsRow.holds Try.pinned (OpenSpec.ofChange auditPartsSpec)

/-- ITS FALSE NEIGHBOUR: 'it returns false'. Refute it at one input. -/
def auditPartsWrong : ChangeSpec := { name := "auditParts", fn := fun _ => fun
  | [d1, d2, d3] => { results := [.lit (.bool false)], args := [d1, d2, d3] }
  | _ => none }
def AuditPartsWrongFalsely : Prop := auditPartsRow.holds Try.pinned (OpenSpec.ofChange auditPartsWrong)

/-- 'postroadlaw18.AuditKeeps': WHATEVER THE INPUT: true; the input reads as it did. -/
def auditKeepsSpec : ChangeSpec := { name := "auditKeeps", fn := fun _ => fun
  | [d1, d2, d3] => { results := [.lit (.bool true)], args := [d1, d2, d3] }
  | _ => none }
def auditKeepsRow : OpenClaim := { program := "ytkgidfehndkhmaa", sum := "d62031fbf54ed5801d9ece4cdf7f5af61734e7f04de81a641da0a0f0b5ca59c9", func := "postroad/postroadlaw18.AuditKeeps", spec := "auditKeeps", plainKeys := false, apart := false }
def AuditKeepsSaid : Prop := auditKeepsRow.holds Try.pinned (OpenSpec.ofChange auditKeepsSpec)

/-- ITS FALSE NEIGHBOUR: 'it returns false'. Refute it at one input. -/
def auditKeepsWrong : ChangeSpec := { name := "auditKeeps", fn := fun _ => fun
  | [d1, d2, d3] => { results := [.lit (.bool false)], args := [d1, d2, d3] }
  | _ => none }
def AuditKeepsWrongFalsely : Prop := auditKeepsRow.holds Try.pinned (OpenSpec.ofChange auditKeepsWrong)

/-- 'postroadlaw18.AuditLogs': WHATEVER THE INPUT: true; the input reads as it did. -/
def auditLogsSpec : ChangeSpec := { name := "auditLogs", fn := fun _ => fun
  | [d1, d2] => { results := [.lit (.bool true)], args := [d1, d2] }
  | _ => none }
def auditLogsRow : OpenClaim := { program := "ytkgidfehndkhmaa", sum := "d62031fbf54ed5801d9ece4cdf7f5af61734e7f04de81a641da0a0f0b5ca59c9", func := "postroad/postroadlaw18.AuditLogs", spec := "auditLogs", plainKeys := false, apart := false }
def AuditLogsSaid : Prop := auditLogsRow.holds Try.pinned (OpenSpec.ofChange auditLogsSpec)

/-- ITS FALSE NEIGHBOUR: 'it returns false'. Refute it at one input. -/
def auditLogsWrong : ChangeSpec := { name := "auditLogs", fn := fun _ => fun
  | [d1, d2] => { results := [.lit (.bool false)], args := [d1, d2] }
  | _ => none }
def AuditLogsWrongFalsely : Prop := auditLogsRow.holds Try.pinned (OpenSpec.ofChange auditLogsWrong)

/-- 'postroadlaw18.AuditTells': WHATEVER THE INPUT: true; the input reads as it did. -/
def auditTellsSpec : ChangeSpec := { name := "auditTells", fn := fun _ => fun
  | [d1, d2] => { results := [.lit (.bool true)], args := [d1, d2] }
  | _ => none }
def auditTellsRow : OpenClaim := { program := "ytkgidfehndkhmaa", sum := "d62031fbf54ed5801d9ece4cdf7f5af61734e7f04de81a641da0a0f0b5ca59c9", func := "postroad/postroadlaw18.AuditTells", spec := "auditTells", plainKeys := false, apart := false }
def AuditTellsSaid : Prop := auditTellsRow.holds Try.pinned (OpenSpec.ofChange auditTellsSpec)

/-- ITS FALSE NEIGHBOUR: 'it returns false'. Refute it at one input. -/
def auditTellsWrong : ChangeSpec := { name := "auditTells", fn := fun _ => fun
  | [d1, d2] => { results := [.lit (.bool false)], args := [d1, d2] }
  | _ => none }
def AuditTellsWrongFalsely : Prop := auditTellsRow.holds Try.pinned (OpenSpec.ofChange auditTellsWrong)

/- THE SECOND FORM. 'bulk': how many values and letters a reading holds, each counted each time it is reached (what is shared counts as often as it is met; a slice's spare places count too). A statement '..UptoSaid' is the law's where the arguments, and the package variables that the reading takes, are together of bulk at most 1048576: NARROWER than '..Said'. Prove '..Said' where nothing that the law and all that it calls make is longer than what came in: it says more and counts as full. Else prove '..UptoSaid'. A law counts once. -/
mutual
def uptoBulk {H : Type} : DataW H → Nat
  | .lit (.string bytes) => bytes.length + 1
  | .lit _ => 1
  | .nil => 1
  | .ptr d => uptoBulk d + 1
  | .slice elems spare => uptoBulkAll elems + uptoBulkAll spare + 1
  | .agg parts => uptoBulkAll parts + 1
  | .iface _ d => uptoBulk d + 1
  | .map entries => uptoBulkEntries entries + 1
  | .held _ => 1
def uptoBulkAll {H : Type} : List (DataW H) → Nat
  | [] => 0
  | d :: r => uptoBulk d + uptoBulkAll r
def uptoBulkEntries {H : Type} : List (Lit × DataW H) → Nat
  | [] => 0
  | x :: r => uptoBulkEntry x + uptoBulkEntries r
def uptoBulkEntry {H : Type} : Lit × DataW H → Nat
  | (.string bytes, d) => bytes.length + uptoBulk d + 1
  | (_, d) => uptoBulk d + 1
 end
def uptoSmall : (H : Type) → List (DataW H) → Bool := fun _ ds => decide (uptoBulkAll ds ≤ 1048576)
def OpenSpec.upto (s : _root_.Go.ChangeSpec) : _root_.Go.OpenSpec := { _root_.Go.OpenSpec.ofChange s with cond := some uptoSmall }

/-- 'postroadlaw18.AuditAcks', WHERE WHAT IT READS IS OF BULK AT MOST 1048576: true; the input reads as it did. -/
def auditAcksUptoRow : OpenClaim := { program := "ytkgidfehndkhmaa", sum := "d62031fbf54ed5801d9ece4cdf7f5af61734e7f04de81a641da0a0f0b5ca59c9", func := "postroad/postroadlaw18.AuditAcks", spec := "auditAcks", plainKeys := false, apart := false, narrowed := true }
def AuditAcksUptoSaid : Prop := auditAcksUptoRow.holds Try.pinned (OpenSpec.upto auditAcksSpec)

/-- 'postroadlaw18.AuditFetches', WHERE WHAT IT READS IS OF BULK AT MOST 1048576: true; the input reads as it did. -/
def auditFetchesUptoRow : OpenClaim := { program := "ytkgidfehndkhmaa", sum := "d62031fbf54ed5801d9ece4cdf7f5af61734e7f04de81a641da0a0f0b5ca59c9", func := "postroad/postroadlaw18.AuditFetches", spec := "auditFetches", plainKeys := false, apart := false, narrowed := true }
def AuditFetchesUptoSaid : Prop := auditFetchesUptoRow.holds Try.pinned (OpenSpec.upto auditFetchesSpec)

/-- 'postroadlaw18.AuditMoves', WHERE WHAT IT READS IS OF BULK AT MOST 1048576: true; the input reads as it did. -/
def auditMovesUptoRow : OpenClaim := { program := "ytkgidfehndkhmaa", sum := "d62031fbf54ed5801d9ece4cdf7f5af61734e7f04de81a641da0a0f0b5ca59c9", func := "postroad/postroadlaw18.AuditMoves", spec := "auditMoves", plainKeys := false, apart := false, narrowed := true }
def AuditMovesUptoSaid : Prop := auditMovesUptoRow.holds Try.pinned (OpenSpec.upto auditMovesSpec)

/-- 'postroadlaw18.AuditParts', WHERE WHAT IT READS IS OF BULK AT MOST 1048576: true; the input reads as it did. -/
def auditPartsUptoRow : OpenClaim := { program := "ytkgidfehndkhmaa", sum := "d62031fbf54ed5801d9ece4cdf7f5af61734e7f04de81a641da0a0f0b5ca59c9", func := "postroad/postroadlaw18.AuditParts", spec := "auditParts", plainKeys := false, apart := false, narrowed := true }
def AuditPartsUptoSaid : Prop := auditPartsUptoRow.holds Try.pinned (OpenSpec.upto auditPartsSpec)

/-- 'postroadlaw18.AuditKeeps', WHERE WHAT IT READS IS OF BULK AT MOST 1048576: true; the input reads as it did. -/
def auditKeepsUptoRow : OpenClaim := { program := "ytkgidfehndkhmaa", sum := "d62031fbf54ed5801d9ece4cdf7f5af61734e7f04de81a641da0a0f0b5ca59c9", func := "postroad/postroadlaw18.AuditKeeps", spec := "auditKeeps", plainKeys := false, apart := false, narrowed := true }
def AuditKeepsUptoSaid : Prop := auditKeepsUptoRow.holds Try.pinned (OpenSpec.upto auditKeepsSpec)

/-- 'postroadlaw18.AuditLogs', WHERE WHAT IT READS IS OF BULK AT MOST 1048576: true; the input reads as it did. -/
def auditLogsUptoRow : OpenClaim := { program := "ytkgidfehndkhmaa", sum := "d62031fbf54ed5801d9ece4cdf7f5af61734e7f04de81a641da0a0f0b5ca59c9", func := "postroad/postroadlaw18.AuditLogs", spec := "auditLogs", plainKeys := false, apart := false, narrowed := true }
def AuditLogsUptoSaid : Prop := auditLogsUptoRow.holds Try.pinned (OpenSpec.upto auditLogsSpec)

/-- 'postroadlaw18.AuditTells', WHERE WHAT IT READS IS OF BULK AT MOST 1048576: true; the input reads as it did. -/
def auditTellsUptoRow : OpenClaim := { program := "ytkgidfehndkhmaa", sum := "d62031fbf54ed5801d9ece4cdf7f5af61734e7f04de81a641da0a0f0b5ca59c9", func := "postroad/postroadlaw18.AuditTells", spec := "auditTells", plainKeys := false, apart := false, narrowed := true }
def AuditTellsUptoSaid : Prop := auditTellsUptoRow.holds Try.pinned (OpenSpec.upto auditTellsSpec)

end Rows
end Go.Proofs.Ytkgidfehndkhmaa
