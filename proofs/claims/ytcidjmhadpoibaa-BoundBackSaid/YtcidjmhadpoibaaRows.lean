/-
  No cell of these rows narrows 'for every input' (looked for: loops, veiled, ifaces, maps, wideKeys, modest, calm, conditions, laid).
  DERIVED. THE GIVEN ROWS OF THIS SEAT. 11 by the template 'for every input the law returns true; each argument reads behind the call as it read before'; 0 by the template 'total and deterministic' (their statements: YtcidjmhadpoibaaTotals.lean).
  GIVEN WITH THE SEED: the statements are not yours to turn. If you find one false, say at which input.
  Laid BY PROGRAM, IN A SANDBOX (cutbox-rows.mjs): the forced cells as the released guide's own fill.sh prints them over the translation 14ae23d898ebd2ba… (all of the seat's roots in one cut). By AI agents, Wed Nov 11 2026. No macro, syntax, notation, axiom, sorry.
-/
import Derived.Test.YtcidjmhadpoibaaChecked
import GoSem.Claim
import GoSem.ClaimJoined
import GoSem.ClaimMapViews
import Derived.JoinedTies
import Derived.KernelRfl
namespace Go.Proofs.Ytcidjmhadpoibaa
/- THE CELL 'sum', in the pinned program and in every row, IS THE sha256 OF THE DUMP (.gsa) THAT YtcidjmhadpoibaaProg.lean LOADS. Nothing in Lean hashes anything: it is a label: what it is worth is what the hold of that sum in a sandbox is worth. -/
noncomputable def Try.pinned : Pinned := { name := "ytcidjmhadpoibaa", sum := "14ae23d898ebd2ba1c7bbae30f910c817fc365f65dd9ffae860b3255812997f2", checked := Try.checked }
namespace Rows
def none {H : Type} : Left H := { results := [], args := [] }

/-- 'rallentandolaw01.NumSums': WHATEVER THE INPUT: true; the input reads as it did. -/
def numSumsSpec : ChangeSpec := { name := "numSums", fn := fun _ => fun
  | [d] => { results := [.lit (.bool true)], args := [d] }
  | _ => none }
def numSumsRow : OpenClaim := { program := "ytcidjmhadpoibaa", sum := "14ae23d898ebd2ba1c7bbae30f910c817fc365f65dd9ffae860b3255812997f2", func := "rallentando/rallentandolaw01.NumSums", spec := "numSums", unfollowed := true, recurses := true, apart := false }
def NumSumsSaid : Prop := numSumsRow.holds Try.pinned (OpenSpec.ofChange numSumsSpec)

/-- ITS FALSE NEIGHBOUR: 'it returns false'. Refute it at one input. -/
def numSumsWrong : ChangeSpec := { name := "numSums", fn := fun _ => fun
  | [d] => { results := [.lit (.bool false)], args := [d] }
  | _ => none }
def NumSumsWrongFalsely : Prop := numSumsRow.holds Try.pinned (OpenSpec.ofChange numSumsWrong)

/-- 'rallentandolaw01.NumOrder': WHATEVER THE INPUT: true; the input reads as it did. -/
def numOrderSpec : ChangeSpec := { name := "numOrder", fn := fun _ => fun
  | [d1, d2] => { results := [.lit (.bool true)], args := [d1, d2] }
  | _ => none }
def numOrderRow : OpenClaim := { program := "ytcidjmhadpoibaa", sum := "14ae23d898ebd2ba1c7bbae30f910c817fc365f65dd9ffae860b3255812997f2", func := "rallentando/rallentandolaw01.NumOrder", spec := "numOrder", unfollowed := true, recurses := true, apart := false }
def NumOrderSaid : Prop := numOrderRow.holds Try.pinned (OpenSpec.ofChange numOrderSpec)

/-- ITS FALSE NEIGHBOUR: 'it returns false'. Refute it at one input. -/
def numOrderWrong : ChangeSpec := { name := "numOrder", fn := fun _ => fun
  | [d1, d2] => { results := [.lit (.bool false)], args := [d1, d2] }
  | _ => none }
def NumOrderWrongFalsely : Prop := numOrderRow.holds Try.pinned (OpenSpec.ofChange numOrderWrong)

/-- 'rallentandolaw01.NumParts': WHATEVER THE INPUT: true; the input reads as it did. -/
def numPartsSpec : ChangeSpec := { name := "numParts", fn := fun _ => fun
  | [d1, d2] => { results := [.lit (.bool true)], args := [d1, d2] }
  | _ => none }
def numPartsRow : OpenClaim := { program := "ytcidjmhadpoibaa", sum := "14ae23d898ebd2ba1c7bbae30f910c817fc365f65dd9ffae860b3255812997f2", func := "rallentando/rallentandolaw01.NumParts", spec := "numParts", unfollowed := true, recurses := true, apart := false }
def NumPartsSaid : Prop := numPartsRow.holds Try.pinned (OpenSpec.ofChange numPartsSpec)

/-- ITS FALSE NEIGHBOUR: 'it returns false'. Refute it at one input. -/
def numPartsWrong : ChangeSpec := { name := "numParts", fn := fun _ => fun
  | [d1, d2] => { results := [.lit (.bool false)], args := [d1, d2] }
  | _ => none }
def NumPartsWrongFalsely : Prop := numPartsRow.holds Try.pinned (OpenSpec.ofChange numPartsWrong)

/-- 'rallentandolaw01.NumNames': WHATEVER THE INPUT: true; the input reads as it did. -/
def numNamesSpec : ChangeSpec := { name := "numNames", fn := fun _ => fun
  | [] => { results := [.lit (.bool true)], args := [] }
  | _ => none }
def numNamesRow : OpenClaim := { program := "ytcidjmhadpoibaa", sum := "14ae23d898ebd2ba1c7bbae30f910c817fc365f65dd9ffae860b3255812997f2", func := "rallentando/rallentandolaw01.NumNames", spec := "numNames", unfollowed := true, recurses := true, apart := false }
def NumNamesSaid : Prop := numNamesRow.holds Try.pinned (OpenSpec.ofChange numNamesSpec)

/-- ITS FALSE NEIGHBOUR: 'it returns false'. Refute it at one input. -/
def numNamesWrong : ChangeSpec := { name := "numNames", fn := fun _ => fun
  | [] => { results := [.lit (.bool false)], args := [] }
  | _ => none }
def NumNamesWrongFalsely : Prop := numNamesRow.holds Try.pinned (OpenSpec.ofChange numNamesWrong)

/-- 'rallentandolaw01.NumTells': WHATEVER THE INPUT: true; the input reads as it did. -/
def numTellsSpec : ChangeSpec := { name := "numTells", fn := fun _ => fun
  | [d1, d2] => { results := [.lit (.bool true)], args := [d1, d2] }
  | _ => none }
def numTellsRow : OpenClaim := { program := "ytcidjmhadpoibaa", sum := "14ae23d898ebd2ba1c7bbae30f910c817fc365f65dd9ffae860b3255812997f2", func := "rallentando/rallentandolaw01.NumTells", spec := "numTells", unfollowed := true, recurses := true, apart := false }
def NumTellsSaid : Prop := numTellsRow.holds Try.pinned (OpenSpec.ofChange numTellsSpec)

/-- ITS FALSE NEIGHBOUR: 'it returns false'. Refute it at one input. -/
def numTellsWrong : ChangeSpec := { name := "numTells", fn := fun _ => fun
  | [d1, d2] => { results := [.lit (.bool false)], args := [d1, d2] }
  | _ => none }
def NumTellsWrongFalsely : Prop := numTellsRow.holds Try.pinned (OpenSpec.ofChange numTellsWrong)

/-- 'rallentandolaw01.NumClamps': WHATEVER THE INPUT: true; the input reads as it did. -/
def numClampsSpec : ChangeSpec := { name := "numClamps", fn := fun _ => fun
  | [d1, d2] => { results := [.lit (.bool true)], args := [d1, d2] }
  | _ => none }
def numClampsRow : OpenClaim := { program := "ytcidjmhadpoibaa", sum := "14ae23d898ebd2ba1c7bbae30f910c817fc365f65dd9ffae860b3255812997f2", func := "rallentando/rallentandolaw01.NumClamps", spec := "numClamps", unfollowed := true, recurses := true, apart := false }
def NumClampsSaid : Prop := numClampsRow.holds Try.pinned (OpenSpec.ofChange numClampsSpec)

/-- ITS FALSE NEIGHBOUR: 'it returns false'. Refute it at one input. -/
def numClampsWrong : ChangeSpec := { name := "numClamps", fn := fun _ => fun
  | [d1, d2] => { results := [.lit (.bool false)], args := [d1, d2] }
  | _ => none }
def NumClampsWrongFalsely : Prop := numClampsRow.holds Try.pinned (OpenSpec.ofChange numClampsWrong)

/-- 'rallentandolaw02.BoundBack': WHATEVER THE INPUT: true; the input reads as it did. -/
def boundBackSpec : ChangeSpec := { name := "boundBack", fn := fun _ => fun
  | [d1, d2, d3] => { results := [.lit (.bool true)], args := [d1, d2, d3] }
  | _ => none }
def boundBackRow : OpenClaim := { program := "ytcidjmhadpoibaa", sum := "14ae23d898ebd2ba1c7bbae30f910c817fc365f65dd9ffae860b3255812997f2", func := "rallentando/rallentandolaw02.BoundBack", spec := "boundBack", apart := false }
def BoundBackSaid : Prop := boundBackRow.holds Try.pinned (OpenSpec.ofChange boundBackSpec)

/-- ITS FALSE NEIGHBOUR: 'it returns false'. Refute it at one input. -/
def boundBackWrong : ChangeSpec := { name := "boundBack", fn := fun _ => fun
  | [d1, d2, d3] => { results := [.lit (.bool false)], args := [d1, d2, d3] }
  | _ => none }
def BoundBackWrongFalsely : Prop := boundBackRow.holds Try.pinned (OpenSpec.ofChange boundBackWrong)

/-- 'rallentandolaw02.BoundNots': WHATEVER THE INPUT: true; the input reads as it did. -/
def boundNotsSpec : ChangeSpec := { name := "boundNots", fn := fun _ => fun
  | [d1, d2, d3] => { results := [.lit (.bool true)], args := [d1, d2, d3] }
  | _ => none }
def boundNotsRow : OpenClaim := { program := "ytcidjmhadpoibaa", sum := "14ae23d898ebd2ba1c7bbae30f910c817fc365f65dd9ffae860b3255812997f2", func := "rallentando/rallentandolaw02.BoundNots", spec := "boundNots", apart := false }
def BoundNotsSaid : Prop := boundNotsRow.holds Try.pinned (OpenSpec.ofChange boundNotsSpec)

/-- ITS FALSE NEIGHBOUR: 'it returns false'. Refute it at one input. -/
def boundNotsWrong : ChangeSpec := { name := "boundNots", fn := fun _ => fun
  | [d1, d2, d3] => { results := [.lit (.bool false)], args := [d1, d2, d3] }
  | _ => none }
def BoundNotsWrongFalsely : Prop := boundNotsRow.holds Try.pinned (OpenSpec.ofChange boundNotsWrong)

/-- 'rallentandolaw02.BoundNames': WHATEVER THE INPUT: true; the input reads as it did. -/
def boundNamesSpec : ChangeSpec := { name := "boundNames", fn := fun _ => fun
  | [] => { results := [.lit (.bool true)], args := [] }
  | _ => none }
def boundNamesRow : OpenClaim := { program := "ytcidjmhadpoibaa", sum := "14ae23d898ebd2ba1c7bbae30f910c817fc365f65dd9ffae860b3255812997f2", func := "rallentando/rallentandolaw02.BoundNames", spec := "boundNames", apart := false }
def BoundNamesSaid : Prop := boundNamesRow.holds Try.pinned (OpenSpec.ofChange boundNamesSpec)

/-- ITS FALSE NEIGHBOUR: 'it returns false'. Refute it at one input. -/
def boundNamesWrong : ChangeSpec := { name := "boundNames", fn := fun _ => fun
  | [] => { results := [.lit (.bool false)], args := [] }
  | _ => none }
def BoundNamesWrongFalsely : Prop := boundNamesRow.holds Try.pinned (OpenSpec.ofChange boundNamesWrong)

/-- 'rallentandolaw02.BoundTells': WHATEVER THE INPUT: true; the input reads as it did. -/
def boundTellsSpec : ChangeSpec := { name := "boundTells", fn := fun _ => fun
  | [d1, d2, d3] => { results := [.lit (.bool true)], args := [d1, d2, d3] }
  | _ => none }
def boundTellsRow : OpenClaim := { program := "ytcidjmhadpoibaa", sum := "14ae23d898ebd2ba1c7bbae30f910c817fc365f65dd9ffae860b3255812997f2", func := "rallentando/rallentandolaw02.BoundTells", spec := "boundTells", apart := false }
def BoundTellsSaid : Prop := boundTellsRow.holds Try.pinned (OpenSpec.ofChange boundTellsSpec)

/-- ITS FALSE NEIGHBOUR: 'it returns false'. Refute it at one input. -/
def boundTellsWrong : ChangeSpec := { name := "boundTells", fn := fun _ => fun
  | [d1, d2, d3] => { results := [.lit (.bool false)], args := [d1, d2, d3] }
  | _ => none }
def BoundTellsWrongFalsely : Prop := boundTellsRow.holds Try.pinned (OpenSpec.ofChange boundTellsWrong)

/-- 'rallentandolaw02.BoundSums': WHATEVER THE INPUT: true; the input reads as it did. -/
def boundSumsSpec : ChangeSpec := { name := "boundSums", fn := fun _ => fun
  | [d1, d2, d3, d4, d5] => { results := [.lit (.bool true)], args := [d1, d2, d3, d4, d5] }
  | _ => none }
def boundSumsRow : OpenClaim := { program := "ytcidjmhadpoibaa", sum := "14ae23d898ebd2ba1c7bbae30f910c817fc365f65dd9ffae860b3255812997f2", func := "rallentando/rallentandolaw02.BoundSums", spec := "boundSums", unfollowed := true, recurses := true, apart := false }
def BoundSumsSaid : Prop := boundSumsRow.holds Try.pinned (OpenSpec.ofChange boundSumsSpec)

/-- ITS FALSE NEIGHBOUR: 'it returns false'. Refute it at one input. -/
def boundSumsWrong : ChangeSpec := { name := "boundSums", fn := fun _ => fun
  | [d1, d2, d3, d4, d5] => { results := [.lit (.bool false)], args := [d1, d2, d3, d4, d5] }
  | _ => none }
def BoundSumsWrongFalsely : Prop := boundSumsRow.holds Try.pinned (OpenSpec.ofChange boundSumsWrong)

/- THE SECOND FORM. 'bulk': how many values and letters a reading holds, each counted each time it is reached (what is shared counts as often as it is met; a slice's spare places count too). A statement '..UptoSaid' is the law's where the arguments, and the package variables that the reading takes, are together of bulk at most 1048576: NARROWER than '..Said'. Prove '..Said' where nothing that the law and all that it calls make is longer than what came in: it says more and counts as full. Else prove '..UptoSaid'. A law counts once. -/
mutual
def uptoBulk {H : Type} : DataW H → Nat
  | .lit (.string bytes) => bytes.length + 1
  | .lit _ => 1
  | .nil => 1
  | .ptr d => uptoBulk d + 1
  | .slice elems spare => uptoBulkAll elems + uptoBulkAll spare + 1
  | .agg parts => uptoBulkAll parts + 1
  | .iface _ d => uptoBulk d + 1
  | .map entries => uptoBulkEntries entries + 1
  | .held _ => 1
def uptoBulkAll {H : Type} : List (DataW H) → Nat
  | [] => 0
  | d :: r => uptoBulk d + uptoBulkAll r
def uptoBulkEntries {H : Type} : List (Lit × DataW H) → Nat
  | [] => 0
  | x :: r => uptoBulkEntry x + uptoBulkEntries r
def uptoBulkEntry {H : Type} : Lit × DataW H → Nat
  | (.string bytes, d) => bytes.length + uptoBulk d + 1
  | (_, d) => uptoBulk d + 1
 end
def uptoSmall : (H : Type) → List (DataW H) → Bool := fun _ ds => decide (uptoBulkAll ds ≤ 1048576)
def OpenSpec.upto (s : _root_.Go.ChangeSpec) : _root_.Go.OpenSpec := { _root_.Go.OpenSpec.ofChange s with cond := some uptoSmall }

/-- 'rallentandolaw01.NumSums', WHERE WHAT IT READS IS OF BULK AT MOST 1048576: true; the input reads as it did. -/
def numSumsUptoRow : OpenClaim := { program := "ytcidjmhadpoibaa", sum := "14ae23d898ebd2ba1c7bbae30f910c817fc365f65dd9ffae860b3255812997f2", func := "rallentando/rallentandolaw01.NumSums", spec := "numSums", unfollowed := true, recurses := true, apart := false, narrowed := true }
def NumSumsUptoSaid : Prop := numSumsUptoRow.holds Try.pinned (OpenSpec.upto numSumsSpec)

/-- 'rallentandolaw01.NumOrder', WHERE WHAT IT READS IS OF BULK AT MOST 1048576: true; the input reads as it did. -/
def numOrderUptoRow : OpenClaim := { program := "ytcidjmhadpoibaa", sum := "14ae23d898ebd2ba1c7bbae30f910c817fc365f65dd9ffae860b3255812997f2", func := "rallentando/rallentandolaw01.NumOrder", spec := "numOrder", unfollowed := true, recurses := true, apart := false, narrowed := true }
def NumOrderUptoSaid : Prop := numOrderUptoRow.holds Try.pinned (OpenSpec.upto numOrderSpec)

/-- 'rallentandolaw01.NumParts', WHERE WHAT IT READS IS OF BULK AT MOST 1048576: true; the input reads as it did. -/
def numPartsUptoRow : OpenClaim := { program := "ytcidjmhadpoibaa", sum := "14ae23d898ebd2ba1c7bbae30f910c817fc365f65dd9ffae860b3255812997f2", func := "rallentando/rallentandolaw01.NumParts", spec := "numParts", unfollowed := true, recurses := true, apart := false, narrowed := true }
def NumPartsUptoSaid : Prop := numPartsUptoRow.holds Try.pinned (OpenSpec.upto numPartsSpec)

/-- 'rallentandolaw01.NumNames', WHERE WHAT IT READS IS OF BULK AT MOST 1048576: true; the input reads as it did. -/
def numNamesUptoRow : OpenClaim := { program := "ytcidjmhadpoibaa", sum := "14ae23d898ebd2ba1c7bbae30f910c817fc365f65dd9ffae860b3255812997f2", func := "rallentando/rallentandolaw01.NumNames", spec := "numNames", unfollowed := true, recurses := true, apart := false, narrowed := true }
def NumNamesUptoSaid : Prop := numNamesUptoRow.holds Try.pinned (OpenSpec.upto numNamesSpec)

/-- 'rallentandolaw01.NumTells', WHERE WHAT IT READS IS OF BULK AT MOST 1048576: true; the input reads as it did. -/
def numTellsUptoRow : OpenClaim := { program := "ytcidjmhadpoibaa", sum := "14ae23d898ebd2ba1c7bbae30f910c817fc365f65dd9ffae860b3255812997f2", func := "rallentando/rallentandolaw01.NumTells", spec := "numTells", unfollowed := true, recurses := true, apart := false, narrowed := true }
def NumTellsUptoSaid : Prop := numTellsUptoRow.holds Try.pinned (OpenSpec.upto numTellsSpec)

/-- 'rallentandolaw01.NumClamps', WHERE WHAT IT READS IS OF BULK AT MOST 1048576: true; the input reads as it did. -/
def numClampsUptoRow : OpenClaim := { program := "ytcidjmhadpoibaa", sum := "14ae23d898ebd2ba1c7bbae30f910c817fc365f65dd9ffae860b3255812997f2", func := "rallentando/rallentandolaw01.NumClamps", spec := "numClamps", unfollowed := true, recurses := true, apart := false, narrowed := true }
def NumClampsUptoSaid : Prop := numClampsUptoRow.holds Try.pinned (OpenSpec.upto numClampsSpec)

/-- 'rallentandolaw02.BoundBack', WHERE WHAT IT READS IS OF BULK AT MOST 1048576: true; the input reads as it did. -/
def boundBackUptoRow : OpenClaim := { program := "ytcidjmhadpoibaa", sum := "14ae23d898ebd2ba1c7bbae30f910c817fc365f65dd9ffae860b3255812997f2", func := "rallentando/rallentandolaw02.BoundBack", spec := "boundBack", apart := false, narrowed := true }
def BoundBackUptoSaid : Prop := boundBackUptoRow.holds Try.pinned (OpenSpec.upto boundBackSpec)

/-- 'rallentandolaw02.BoundNots', WHERE WHAT IT READS IS OF BULK AT MOST 1048576: true; the input reads as it did. -/
def boundNotsUptoRow : OpenClaim := { program := "ytcidjmhadpoibaa", sum := "14ae23d898ebd2ba1c7bbae30f910c817fc365f65dd9ffae860b3255812997f2", func := "rallentando/rallentandolaw02.BoundNots", spec := "boundNots", apart := false, narrowed := true }
def BoundNotsUptoSaid : Prop := boundNotsUptoRow.holds Try.pinned (OpenSpec.upto boundNotsSpec)

/-- 'rallentandolaw02.BoundNames', WHERE WHAT IT READS IS OF BULK AT MOST 1048576: true; the input reads as it did. -/
def boundNamesUptoRow : OpenClaim := { program := "ytcidjmhadpoibaa", sum := "14ae23d898ebd2ba1c7bbae30f910c817fc365f65dd9ffae860b3255812997f2", func := "rallentando/rallentandolaw02.BoundNames", spec := "boundNames", apart := false, narrowed := true }
def BoundNamesUptoSaid : Prop := boundNamesUptoRow.holds Try.pinned (OpenSpec.upto boundNamesSpec)

/-- 'rallentandolaw02.BoundTells', WHERE WHAT IT READS IS OF BULK AT MOST 1048576: true; the input reads as it did. -/
def boundTellsUptoRow : OpenClaim := { program := "ytcidjmhadpoibaa", sum := "14ae23d898ebd2ba1c7bbae30f910c817fc365f65dd9ffae860b3255812997f2", func := "rallentando/rallentandolaw02.BoundTells", spec := "boundTells", apart := false, narrowed := true }
def BoundTellsUptoSaid : Prop := boundTellsUptoRow.holds Try.pinned (OpenSpec.upto boundTellsSpec)

/-- 'rallentandolaw02.BoundSums', WHERE WHAT IT READS IS OF BULK AT MOST 1048576: true; the input reads as it did. -/
def boundSumsUptoRow : OpenClaim := { program := "ytcidjmhadpoibaa", sum := "14ae23d898ebd2ba1c7bbae30f910c817fc365f65dd9ffae860b3255812997f2", func := "rallentando/rallentandolaw02.BoundSums", spec := "boundSums", unfollowed := true, recurses := true, apart := false, narrowed := true }
def BoundSumsUptoSaid : Prop := boundSumsUptoRow.holds Try.pinned (OpenSpec.upto boundSumsSpec)

end Rows
end Go.Proofs.Ytcidjmhadpoibaa
