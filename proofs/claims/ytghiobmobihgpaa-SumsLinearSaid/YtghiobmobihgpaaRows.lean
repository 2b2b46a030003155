/-
  No cell of these rows narrows 'for every input' (looked for: loops, veiled, ifaces, maps, wideKeys, modest, calm, conditions, laid).
  DERIVED. THE GIVEN ROWS OF THIS SEAT. 8 by the template 'for every input the law returns true; each argument reads behind the call as it read before'; 0 by the template 'total and deterministic' (their statements: YtghiobmobihgpaaTotals.lean).
  GIVEN WITH THE SEED: the statements are not yours to turn. If you find one false, say at which input.
  Laid BY PROGRAM, IN A SANDBOX (cutbox-rows.mjs): the forced cells as the released guide's own fill.sh prints them over the translation c346bfb60437928c… (all of the seat's roots in one cut). By AI agents, Wed Nov 11 2026. No macro, syntax, notation, axiom, sorry.
-/
import Derived.Test.YtghiobmobihgpaaChecked
import GoSem.Claim
import GoSem.ClaimJoined
import GoSem.ClaimMapViews
import Derived.JoinedTies
import Derived.KernelRfl
namespace Go.Proofs.Ytghiobmobihgpaa
/- THE CELL 'sum', in the pinned program and in every row, IS THE sha256 OF THE DUMP (.gsa) THAT YtghiobmobihgpaaProg.lean LOADS. Nothing in Lean hashes anything: it is a label: what it is worth is what the hold of that sum in a sandbox is worth. -/
noncomputable def Try.pinned : Pinned := { name := "ytghiobmobihgpaa", sum := "c346bfb60437928c5a8da82392be58de7734ff431eee23c603e81ad213b24cfe", checked := Try.checked }
namespace Rows
def none {H : Type} : Left H := { results := [], args := [] }

/-- 'postroadlaw02.SumsCrc': WHATEVER THE INPUT: true; the input reads as it did. -/
def sumsCrcSpec : ChangeSpec := { name := "sumsCrc", fn := fun _ => fun
  | [d] => { results := [.lit (.bool true)], args := [d] }
  | _ => none }
def sumsCrcRow : OpenClaim := { program := "ytghiobmobihgpaa", sum := "c346bfb60437928c5a8da82392be58de7734ff431eee23c603e81ad213b24cfe", func := "postroad/postroadlaw02.SumsCrc", spec := "sumsCrc", apart := false }
def SumsCrcSaid : Prop := sumsCrcRow.holds Try.pinned (OpenSpec.ofChange sumsCrcSpec)

/-- ITS FALSE NEIGHBOUR: 'it returns false'. Refute it at one input. -/
def sumsCrcWrong : ChangeSpec := { name := "sumsCrc", fn := fun _ => fun
  | [d] => { results := [.lit (.bool false)], args := [d] }
  | _ => none }
def SumsCrcWrongFalsely : Prop := sumsCrcRow.holds Try.pinned (OpenSpec.ofChange sumsCrcWrong)

/-- 'postroadlaw02.SumsHash': WHATEVER THE INPUT: true; the input reads as it did. -/
def sumsHashSpec : ChangeSpec := { name := "sumsHash", fn := fun _ => fun
  | [d1, d2] => { results := [.lit (.bool true)], args := [d1, d2] }
  | _ => none }
def sumsHashRow : OpenClaim := { program := "ytghiobmobihgpaa", sum := "c346bfb60437928c5a8da82392be58de7734ff431eee23c603e81ad213b24cfe", func := "postroad/postroadlaw02.SumsHash", spec := "sumsHash", apart := false }
def SumsHashSaid : Prop := sumsHashRow.holds Try.pinned (OpenSpec.ofChange sumsHashSpec)

/-- ITS FALSE NEIGHBOUR: 'it returns false'. Refute it at one input. -/
def sumsHashWrong : ChangeSpec := { name := "sumsHash", fn := fun _ => fun
  | [d1, d2] => { results := [.lit (.bool false)], args := [d1, d2] }
  | _ => none }
def SumsHashWrongFalsely : Prop := sumsHashRow.holds Try.pinned (OpenSpec.ofChange sumsHashWrong)

/-- 'postroadlaw02.SumsNobody': WHATEVER THE INPUT: true; the input reads as it did. -/
def sumsNobodySpec : ChangeSpec := { name := "sumsNobody", fn := fun _ => fun
  | [d] => { results := [.lit (.bool true)], args := [d] }
  | _ => none }
def sumsNobodyRow : OpenClaim := { program := "ytghiobmobihgpaa", sum := "c346bfb60437928c5a8da82392be58de7734ff431eee23c603e81ad213b24cfe", func := "postroad/postroadlaw02.SumsNobody", spec := "sumsNobody", apart := false }
def SumsNobodySaid : Prop := sumsNobodyRow.holds Try.pinned (OpenSpec.ofChange sumsNobodySpec)

/-- ITS FALSE NEIGHBOUR: 'it returns false'. Refute it at one input. -/
def sumsNobodyWrong : ChangeSpec := { name := "sumsNobody", fn := fun _ => fun
  | [d] => { results := [.lit (.bool false)], args := [d] }
  | _ => none }
def SumsNobodyWrongFalsely : Prop := sumsNobodyRow.holds Try.pinned (OpenSpec.ofChange sumsNobodyWrong)

/-- 'postroadlaw02.SumsTell': WHATEVER THE INPUT: true; the input reads as it did. -/
def sumsTellSpec : ChangeSpec := { name := "sumsTell", fn := fun _ => fun
  | [d1, d2, d3] => { results := [.lit (.bool true)], args := [d1, d2, d3] }
  | _ => none }
def sumsTellRow : OpenClaim := { program := "ytghiobmobihgpaa", sum := "c346bfb60437928c5a8da82392be58de7734ff431eee23c603e81ad213b24cfe", func := "postroad/postroadlaw02.SumsTell", spec := "sumsTell", apart := false }
def SumsTellSaid : Prop := sumsTellRow.holds Try.pinned (OpenSpec.ofChange sumsTellSpec)

/-- ITS FALSE NEIGHBOUR: 'it returns false'. Refute it at one input. -/
def sumsTellWrong : ChangeSpec := { name := "sumsTell", fn := fun _ => fun
  | [d1, d2, d3] => { results := [.lit (.bool false)], args := [d1, d2, d3] }
  | _ => none }
def SumsTellWrongFalsely : Prop := sumsTellRow.holds Try.pinned (OpenSpec.ofChange sumsTellWrong)

/-- 'postroadlaw02.SumsLinear': WHATEVER THE INPUT: true; the input reads as it did. -/
def sumsLinearSpec : ChangeSpec := { name := "sumsLinear", fn := fun _ => fun
  | [d1, d2] => { results := [.lit (.bool true)], args := [d1, d2] }
  | _ => none }
def sumsLinearRow : OpenClaim := { program := "ytghiobmobihgpaa", sum := "c346bfb60437928c5a8da82392be58de7734ff431eee23c603e81ad213b24cfe", func := "postroad/postroadlaw02.SumsLinear", spec := "sumsLinear", apart := false }
def SumsLinearSaid : Prop := sumsLinearRow.holds Try.pinned (OpenSpec.ofChange sumsLinearSpec)

/-- ITS FALSE NEIGHBOUR: 'it returns false'. Refute it at one input. -/
def sumsLinearWrong : ChangeSpec := { name := "sumsLinear", fn := fun _ => fun
  | [d1, d2] => { results := [.lit (.bool false)], args := [d1, d2] }
  | _ => none }
def SumsLinearWrongFalsely : Prop := sumsLinearRow.holds Try.pinned (OpenSpec.ofChange sumsLinearWrong)

/-- 'postroadlaw02.SumsBurst': WHATEVER THE INPUT: true; the input reads as it did. -/
def sumsBurstSpec : ChangeSpec := { name := "sumsBurst", fn := fun _ => fun
  | [d1, d2, d3] => { results := [.lit (.bool true)], args := [d1, d2, d3] }
  | _ => none }
def sumsBurstRow : OpenClaim := { program := "ytghiobmobihgpaa", sum := "c346bfb60437928c5a8da82392be58de7734ff431eee23c603e81ad213b24cfe", func := "postroad/postroadlaw02.SumsBurst", spec := "sumsBurst", apart := false }
def SumsBurstSaid : Prop := sumsBurstRow.holds Try.pinned (OpenSpec.ofChange sumsBurstSpec)

/-- ITS FALSE NEIGHBOUR: 'it returns false'. Refute it at one input. -/
def sumsBurstWrong : ChangeSpec := { name := "sumsBurst", fn := fun _ => fun
  | [d1, d2, d3] => { results := [.lit (.bool false)], args := [d1, d2, d3] }
  | _ => none }
def SumsBurstWrongFalsely : Prop := sumsBurstRow.holds Try.pinned (OpenSpec.ofChange sumsBurstWrong)

/-- 'postroadlaw02.SumsMore': WHATEVER THE INPUT: true; the input reads as it did. -/
def sumsMoreSpec : ChangeSpec := { name := "sumsMore", fn := fun _ => fun
  | [d1, d2] => { results := [.lit (.bool true)], args := [d1, d2] }
  | _ => none }
def sumsMoreRow : OpenClaim := { program := "ytghiobmobihgpaa", sum := "c346bfb60437928c5a8da82392be58de7734ff431eee23c603e81ad213b24cfe", func := "postroad/postroadlaw02.SumsMore", spec := "sumsMore", apart := false }
def SumsMoreSaid : Prop := sumsMoreRow.holds Try.pinned (OpenSpec.ofChange sumsMoreSpec)

/-- ITS FALSE NEIGHBOUR: 'it returns false'. Refute it at one input. -/
def sumsMoreWrong : ChangeSpec := { name := "sumsMore", fn := fun _ => fun
  | [d1, d2] => { results := [.lit (.bool false)], args := [d1, d2] }
  | _ => none }
def SumsMoreWrongFalsely : Prop := sumsMoreRow.holds Try.pinned (OpenSpec.ofChange sumsMoreWrong)

/-- 'postroadlaw02.SumsParts': WHATEVER THE INPUT: true; the input reads as it did. -/
def sumsPartsSpec : ChangeSpec := { name := "sumsParts", fn := fun _ => fun
  | [d1, d2] => { results := [.lit (.bool true)], args := [d1, d2] }
  | _ => none }
def sumsPartsRow : OpenClaim := { program := "ytghiobmobihgpaa", sum := "c346bfb60437928c5a8da82392be58de7734ff431eee23c603e81ad213b24cfe", func := "postroad/postroadlaw02.SumsParts", spec := "sumsParts", apart := false }
def SumsPartsSaid : Prop := sumsPartsRow.holds Try.pinned (OpenSpec.ofChange sumsPartsSpec)

/-- ITS FALSE NEIGHBOUR: 'it returns false'. Refute it at one input. -/
def sumsPartsWrong : ChangeSpec := { name := "sumsParts", fn := fun _ => fun
  | [d1, d2] => { results := [.lit (.bool false)], args := [d1, d2] }
  | _ => none }
def SumsPartsWrongFalsely : Prop := sumsPartsRow.holds Try.pinned (OpenSpec.ofChange sumsPartsWrong)

/- THE SECOND FORM. 'bulk': how many values and letters a reading holds, each counted each time it is reached (what is shared counts as often as it is met; a slice's spare places count too). A statement '..UptoSaid' is the law's where the arguments, and the package variables that the reading takes, are together of bulk at most 1048576: NARROWER than '..Said'. Prove '..Said' where nothing that the law and all that it calls make is longer than what came in: it says more and counts as full. Else prove '..UptoSaid'. A law counts once. -/
mutual
def uptoBulk {H : Type} : DataW H → Nat
  | .lit (.string bytes) => bytes.length + 1
  | .lit _ => 1
  | .nil => 1
  | .ptr d => uptoBulk d + 1
  | .slice elems spare => uptoBulkAll elems + uptoBulkAll spare + 1
  | .agg parts => uptoBulkAll parts + 1
  | .iface _ d => uptoBulk d + 1
  | .map entries => uptoBulkEntries entries + 1
  | .held _ => 1
def uptoBulkAll {H : Type} : List (DataW H) → Nat
  | [] => 0
  | d :: r => uptoBulk d + uptoBulkAll r
def uptoBulkEntries {H : Type} : List (Lit × DataW H) → Nat
  | [] => 0
  | x :: r => uptoBulkEntry x + uptoBulkEntries r
def uptoBulkEntry {H : Type} : Lit × DataW H → Nat
  | (.string bytes, d) => bytes.length + uptoBulk d + 1
  | (_, d) => uptoBulk d + 1
 end
def uptoSmall : (H : Type) → List (DataW H) → Bool := fun _ ds => decide (uptoBulkAll ds ≤ 1048576)
def OpenSpec.upto (s : _root_.Go.ChangeSpec) : _root_.Go.OpenSpec := { _root_.Go.OpenSpec.ofChange s with cond := some uptoSmall }

/-- 'postroadlaw02.SumsCrc', WHERE WHAT IT READS IS OF BULK AT MOST 1048576: true; the input reads as it did. -/
def sumsCrcUptoRow : OpenClaim := { program := "ytghiobmobihgpaa", sum := "c346bfb60437928c5a8da82392be58de7734ff431eee23c603e81ad213b24cfe", func := "postroad/postroadlaw02.SumsCrc", spec := "sumsCrc", apart := false, narrowed := true }
def SumsCrcUptoSaid : Prop := sumsCrcUptoRow.holds Try.pinned (OpenSpec.upto sumsCrcSpec)

/-- 'postroadlaw02.SumsHash', WHERE WHAT IT READS IS OF BULK AT MOST 1048576: true; the input reads as it did. -/
def sumsHashUptoRow : OpenClaim := { program := "ytghiobmobihgpaa", sum := "c346bfb60437928c5a8da82392be58de7734ff431eee23c603e81ad213b24cfe", func := "postroad/postroadlaw02.SumsHash", spec := "sumsHash", apart := false, narrowed := true }
def SumsHashUptoSaid : Prop := sumsHashUptoRow.holds Try.pinned (OpenSpec.upto sumsHashSpec)

/-- 'postroadlaw02.SumsNobody', WHERE WHAT IT READS IS OF BULK AT MOST 1048576: true; the input reads as it did. -/
def sumsNobodyUptoRow : OpenClaim := { program := "ytghiobmobihgpaa", sum := "c346bfb60437928c5a8da82392be58de7734ff431eee23c603e81ad213b24cfe", func := "postroad/postroadlaw02.SumsNobody", spec := "sumsNobody", apart := false, narrowed := true }
def SumsNobodyUptoSaid : Prop := sumsNobodyUptoRow.holds Try.pinned (OpenSpec.upto sumsNobodySpec)

/-- 'postroadlaw02.SumsTell', WHERE WHAT IT READS IS OF BULK AT MOST 1048576: true; the input reads as it did. -/
def sumsTellUptoRow : OpenClaim := { program := "ytghiobmobihgpaa", sum := "c346bfb60437928c5a8da82392be58de7734ff431eee23c603e81ad213b24cfe", func := "postroad/postroadlaw02.SumsTell", spec := "sumsTell", apart := false, narrowed := true }
def SumsTellUptoSaid : Prop := sumsTellUptoRow.holds Try.pinned (OpenSpec.upto sumsTellSpec)

/-- 'postroadlaw02.SumsLinear', WHERE WHAT IT READS IS OF BULK AT MOST 1048576: true; the input reads as it did. -/
def sumsLinearUptoRow : OpenClaim := { program := "ytghiobmobihgpaa", sum := "c346bfb60437928c5a8da82392be58de7734ff431eee23c603e81ad213b24cfe", func := "postroad/postroadlaw02.SumsLinear", spec := "sumsLinear", apart := false, narrowed := true }
def SumsLinearUptoSaid : Prop := sumsLinearUptoRow.holds Try.pinned (OpenSpec.upto sumsLinearSpec)

/-- 'postroadlaw02.SumsBurst', WHERE WHAT IT READS IS OF BULK AT MOST 1048576: true; the input reads as it did. -/
def sumsBurstUptoRow : OpenClaim := { program := "ytghiobmobihgpaa", sum := "c346bfb60437928c5a8da82392be58de7734ff431eee23c603e81ad213b24cfe", func := "postroad/postroadlaw02.SumsBurst", spec := "sumsBurst", apart := false, narrowed := true }
def SumsBurstUptoSaid : Prop := sumsBurstUptoRow.holds Try.pinned (OpenSpec.upto sumsBurstSpec)

/-- 'postroadlaw02.SumsMore', WHERE WHAT IT READS IS OF BULK AT MOST 1048576: true; the input reads as it did. -/
def sumsMoreUptoRow : OpenClaim := { program := "ytghiobmobihgpaa", sum := "c346bfb60437928c5a8da82392be58de7734ff431eee23c603e81ad213b24cfe", func := "postroad/postroadlaw02.SumsMore", spec := "sumsMore", apart := false, narrowed := true }
def SumsMoreUptoSaid : Prop := sumsMoreUptoRow.holds Try.pinned (OpenSpec.upto sumsMoreSpec)

/-- 'postroadlaw02.SumsParts', WHERE WHAT IT READS IS OF BULK AT MOST 1048576: true; the input reads as it did. -/
def sumsPartsUptoRow : OpenClaim := { program := "ytghiobmobihgpaa", sum := "c346bfb60437928c5a8da82392be58de7734ff431eee23c603e81ad213b24cfe", func := "postroad/postroadlaw02.SumsParts", spec := "sumsParts", apart := false, narrowed := true }
def SumsPartsUptoSaid : Prop := sumsPartsUptoRow.holds Try.pinned (OpenSpec.upto sumsPartsSpec)

end Rows
end Go.Proofs.Ytghiobmobihgpaa
