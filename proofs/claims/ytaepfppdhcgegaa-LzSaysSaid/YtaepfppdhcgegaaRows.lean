/-
  No cell of these rows narrows 'for every input' (looked for: loops, veiled, ifaces, maps, wideKeys, modest, calm, conditions, laid).
  DERIVED. THE GIVEN ROWS OF THIS SEAT. 6 by the template 'for every input the law returns true; each argument reads behind the call as it read before'; 0 by the template 'total and deterministic' (their statements: YtaepfppdhcgegaaTotals.lean).
  GIVEN WITH THE SEED: the statements are not yours to turn. If you find one false, say at which input.
  Laid BY PROGRAM, IN A SANDBOX (cutbox-rows.mjs): the forced cells as the released guide's own fill.sh prints them over the translation 5c4fa9648bcfbc2a… (all of the seat's roots in one cut). By AI agents, Wed Nov 11 2026. No macro, syntax, notation, axiom, sorry.
-/
import Derived.Test.YtaepfppdhcgegaaChecked
import GoSem.Claim
import GoSem.ClaimJoined
import GoSem.ClaimMapViews
import Derived.JoinedTies
import Derived.KernelRfl
namespace Go.Proofs.Ytaepfppdhcgegaa
/- THE CELL 'sum', in the pinned program and in every row, IS THE sha256 OF THE DUMP (.gsa) THAT YtaepfppdhcgegaaProg.lean LOADS. Nothing in Lean hashes anything: it is a label: what it is worth is what the hold of that sum in a sandbox is worth. -/
noncomputable def Try.pinned : Pinned := { name := "ytaepfppdhcgegaa", sum := "5c4fa9648bcfbc2af24cc0a32ccc983f2a1137bf587b2d7a4a179173c395f08b", checked := Try.checked }
namespace Rows
def none {H : Type} : Left H := { results := [], args := [] }

/-- 'postroadlaw06.LzReads': WHATEVER THE INPUT: true; the input reads as it did. -/
def lzReadsSpec : ChangeSpec := { name := "lzReads", fn := fun _ => fun
  | [d1, d2] => { results := [.lit (.bool true)], args := [d1, d2] }
  | _ => none }
def lzReadsRow : OpenClaim := { program := "ytaepfppdhcgegaa", sum := "5c4fa9648bcfbc2af24cc0a32ccc983f2a1137bf587b2d7a4a179173c395f08b", func := "postroad/postroadlaw06.LzReads", spec := "lzReads", plainKeys := false, apart := false }
def LzReadsSaid : Prop := lzReadsRow.holds Try.pinned (OpenSpec.ofChange lzReadsSpec)

/-- ITS FALSE NEIGHBOUR: 'it returns false'. Refute it at one input. -/
def lzReadsWrong : ChangeSpec := { name := "lzReads", fn := fun _ => fun
  | [d1, d2] => { results := [.lit (.bool false)], args := [d1, d2] }
  | _ => none }
def LzReadsWrongFalsely : Prop := lzReadsRow.holds Try.pinned (OpenSpec.ofChange lzReadsWrong)

/-- 'postroadlaw06.LzBack': WHATEVER THE INPUT: true; the input reads as it did. -/
def lzBackSpec : ChangeSpec := { name := "lzBack", fn := fun _ => fun
  | [d] => { results := [.lit (.bool true)], args := [d] }
  | _ => none }
def lzBackRow : OpenClaim := { program := "ytaepfppdhcgegaa", sum := "5c4fa9648bcfbc2af24cc0a32ccc983f2a1137bf587b2d7a4a179173c395f08b", func := "postroad/postroadlaw06.LzBack", spec := "lzBack", plainKeys := false, apart := false }
def LzBackSaid : Prop := lzBackRow.holds Try.pinned (OpenSpec.ofChange lzBackSpec)

/-- ITS FALSE NEIGHBOUR: 'it returns false'. Refute it at one input. -/
def lzBackWrong : ChangeSpec := { name := "lzBack", fn := fun _ => fun
  | [d] => { results := [.lit (.bool false)], args := [d] }
  | _ => none }
def LzBackWrongFalsely : Prop := lzBackRow.holds Try.pinned (OpenSpec.ofChange lzBackWrong)

/-- 'postroadlaw06.LzEnds': WHATEVER THE INPUT: true; the input reads as it did. -/
def lzEndsSpec : ChangeSpec := { name := "lzEnds", fn := fun _ => fun
  | [d] => { results := [.lit (.bool true)], args := [d] }
  | _ => none }
def lzEndsRow : OpenClaim := { program := "ytaepfppdhcgegaa", sum := "5c4fa9648bcfbc2af24cc0a32ccc983f2a1137bf587b2d7a4a179173c395f08b", func := "postroad/postroadlaw06.LzEnds", spec := "lzEnds", plainKeys := false, apart := false }
def LzEndsSaid : Prop := lzEndsRow.holds Try.pinned (OpenSpec.ofChange lzEndsSpec)

/-- ITS FALSE NEIGHBOUR: 'it returns false'. Refute it at one input. -/
def lzEndsWrong : ChangeSpec := { name := "lzEnds", fn := fun _ => fun
  | [d] => { results := [.lit (.bool false)], args := [d] }
  | _ => none }
def LzEndsWrongFalsely : Prop := lzEndsRow.holds Try.pinned (OpenSpec.ofChange lzEndsWrong)

/-- 'postroadlaw06.LzMost': WHATEVER THE INPUT: true; the input reads as it did. -/
def lzMostSpec : ChangeSpec := { name := "lzMost", fn := fun _ => fun
  | [d1, d2] => { results := [.lit (.bool true)], args := [d1, d2] }
  | _ => none }
def lzMostRow : OpenClaim := { program := "ytaepfppdhcgegaa", sum := "5c4fa9648bcfbc2af24cc0a32ccc983f2a1137bf587b2d7a4a179173c395f08b", func := "postroad/postroadlaw06.LzMost", spec := "lzMost", plainKeys := false, apart := false }
def LzMostSaid : Prop := lzMostRow.holds Try.pinned (OpenSpec.ofChange lzMostSpec)

/-- ITS FALSE NEIGHBOUR: 'it returns false'. Refute it at one input. -/
def lzMostWrong : ChangeSpec := { name := "lzMost", fn := fun _ => fun
  | [d1, d2] => { results := [.lit (.bool false)], args := [d1, d2] }
  | _ => none }
def LzMostWrongFalsely : Prop := lzMostRow.holds Try.pinned (OpenSpec.ofChange lzMostWrong)

/-- 'postroadlaw06.LzSays': WHATEVER THE INPUT: true; the input reads as it did. -/
def lzSaysSpec : ChangeSpec := { name := "lzSays", fn := fun _ => fun
  | [d] => { results := [.lit (.bool true)], args := [d] }
  | _ => none }
def lzSaysRow : OpenClaim := { program := "ytaepfppdhcgegaa", sum := "5c4fa9648bcfbc2af24cc0a32ccc983f2a1137bf587b2d7a4a179173c395f08b", func := "postroad/postroadlaw06.LzSays", spec := "lzSays", plainKeys := false, apart := false }
def LzSaysSaid : Prop := lzSaysRow.holds Try.pinned (OpenSpec.ofChange lzSaysSpec)

/-- ITS FALSE NEIGHBOUR: 'it returns false'. Refute it at one input. -/
def lzSaysWrong : ChangeSpec := { name := "lzSays", fn := fun _ => fun
  | [d] => { results := [.lit (.bool false)], args := [d] }
  | _ => none }
def LzSaysWrongFalsely : Prop := lzSaysRow.holds Try.pinned (OpenSpec.ofChange lzSaysWrong)

/-- 'postroadlaw06.LzCuts': WHATEVER THE INPUT: true; the input reads as it did. -/
def lzCutsSpec : ChangeSpec := { name := "lzCuts", fn := fun _ => fun
  | [d1, d2] => { results := [.lit (.bool true)], args := [d1, d2] }
  | _ => none }
def lzCutsRow : OpenClaim := { program := "ytaepfppdhcgegaa", sum := "5c4fa9648bcfbc2af24cc0a32ccc983f2a1137bf587b2d7a4a179173c395f08b", func := "postroad/postroadlaw06.LzCuts", spec := "lzCuts", plainKeys := false, apart := false }
def LzCutsSaid : Prop := lzCutsRow.holds Try.pinned (OpenSpec.ofChange lzCutsSpec)

/-- ITS FALSE NEIGHBOUR: 'it returns false'. Refute it at one input. -/
def lzCutsWrong : ChangeSpec := { name := "lzCuts", fn := fun _ => fun
  | [d1, d2] => { results := [.lit (.bool false)], args := [d1, d2] }
  | _ => none }
def LzCutsWrongFalsely : Prop := lzCutsRow.holds Try.pinned (OpenSpec.ofChange lzCutsWrong)

/- THE SECOND FORM. 'bulk': how many values and letters a reading holds, each counted each time it is reached (what is shared counts as often as it is met; a slice's spare places count too). A statement '..UptoSaid' is the law's where the arguments, and the package variables that the reading takes, are together of bulk at most 1048576: NARROWER than '..Said'. Prove '..Said' where nothing that the law and all that it calls make is longer than what came in: it says more and counts as full. Else prove '..UptoSaid'. A law counts once. -/
mutual
def uptoBulk {H : Type} : DataW H → Nat
  | .lit (.string bytes) => bytes.length + 1
  | .lit _ => 1
  | .nil => 1
  | .ptr d => uptoBulk d + 1
  | .slice elems spare => uptoBulkAll elems + uptoBulkAll spare + 1
  | .agg parts => uptoBulkAll parts + 1
  | .iface _ d => uptoBulk d + 1
  | .map entries => uptoBulkEntries entries + 1
  | .held _ => 1
def uptoBulkAll {H : Type} : List (DataW H) → Nat
  | [] => 0
  | d :: r => uptoBulk d + uptoBulkAll r
def uptoBulkEntries {H : Type} : List (Lit × DataW H) → Nat
  | [] => 0
  | x :: r => uptoBulkEntry x + uptoBulkEntries r
def uptoBulkEntry {H : Type} : Lit × DataW H → Nat
  | (.string bytes, d) => bytes.length + uptoBulk d + 1
  | (_, d) => uptoBulk d + 1
 end
def uptoSmall : (H : Type) → List (DataW H) → Bool := fun _ ds => decide (uptoBulkAll ds ≤ 1048576)
def OpenSpec.upto (s : _root_.Go.ChangeSpec) : _root_.Go.OpenSpec := { _root_.Go.OpenSpec.ofChange s with cond := some uptoSmall }

/-- 'postroadlaw06.LzReads', WHERE WHAT IT READS IS OF BULK AT MOST 1048576: true; the input reads as it did. -/
def lzReadsUptoRow : OpenClaim := { program := "ytaepfppdhcgegaa", sum := "5c4fa9648bcfbc2af24cc0a32ccc983f2a1137bf587b2d7a4a179173c395f08b", func := "postroad/postroadlaw06.LzReads", spec := "lzReads", plainKeys := false, apart := false, narrowed := true }
def LzReadsUptoSaid : Prop := lzReadsUptoRow.holds Try.pinned (OpenSpec.upto lzReadsSpec)

/-- 'postroadlaw06.LzBack', WHERE WHAT IT READS IS OF BULK AT MOST 1048576: true; the input reads as it did. -/
def lzBackUptoRow : OpenClaim := { program := "ytaepfppdhcgegaa", sum := "5c4fa9648bcfbc2af24cc0a32ccc983f2a1137bf587b2d7a4a179173c395f08b", func := "postroad/postroadlaw06.LzBack", spec := "lzBack", plainKeys := false, apart := false, narrowed := true }
def LzBackUptoSaid : Prop := lzBackUptoRow.holds Try.pinned (OpenSpec.upto lzBackSpec)

/-- 'postroadlaw06.LzEnds', WHERE WHAT IT READS IS OF BULK AT MOST 1048576: true; the input reads as it did. -/
def lzEndsUptoRow : OpenClaim := { program := "ytaepfppdhcgegaa", sum := "5c4fa9648bcfbc2af24cc0a32ccc983f2a1137bf587b2d7a4a179173c395f08b", func := "postroad/postroadlaw06.LzEnds", spec := "lzEnds", plainKeys := false, apart := false, narrowed := true }
def LzEndsUptoSaid : Prop := lzEndsUptoRow.holds Try.pinned (OpenSpec.upto lzEndsSpec)

/-- 'postroadlaw06.LzMost', WHERE WHAT IT READS IS OF BULK AT MOST 1048576: true; the input reads as it did. -/
def lzMostUptoRow : OpenClaim := { program := "ytaepfppdhcgegaa", sum := "5c4fa9648bcfbc2af24cc0a32ccc983f2a1137bf587b2d7a4a179173c395f08b", func := "postroad/postroadlaw06.LzMost", spec := "lzMost", plainKeys := false, apart := false, narrowed := true }
def LzMostUptoSaid : Prop := lzMostUptoRow.holds Try.pinned (OpenSpec.upto lzMostSpec)

/-- 'postroadlaw06.LzSays', WHERE WHAT IT READS IS OF BULK AT MOST 1048576: true; the input reads as it did. -/
def lzSaysUptoRow : OpenClaim := { program := "ytaepfppdhcgegaa", sum := "5c4fa9648bcfbc2af24cc0a32ccc983f2a1137bf587b2d7a4a179173c395f08b", func := "postroad/postroadlaw06.LzSays", spec := "lzSays", plainKeys := false, apart := false, narrowed := true }
def LzSaysUptoSaid : Prop := lzSaysUptoRow.holds Try.pinned (OpenSpec.upto lzSaysSpec)

/-- 'postroadlaw06.LzCuts', WHERE WHAT IT READS IS OF BULK AT MOST 1048576: true; the input reads as it did. -/
def lzCutsUptoRow : OpenClaim := { program := "ytaepfppdhcgegaa", sum := "5c4fa9648bcfbc2af24cc0a32ccc983f2a1137bf587b2d7a4a179173c395f08b", func := "postroad/postroadlaw06.LzCuts", spec := "lzCuts", plainKeys := false, apart := false, narrowed := true }
def LzCutsUptoSaid : Prop := lzCutsUptoRow.holds Try.pinned (OpenSpec.upto lzCutsSpec)

end Rows
end Go.Proofs.Ytaepfppdhcgegaa
