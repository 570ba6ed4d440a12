/-
  No cell of these rows narrows 'for every input' (looked for: loops, veiled, ifaces, maps, wideKeys, modest, calm, conditions, laid).
  DERIVED. THE GIVEN ROWS OF THIS SEAT. 11 by the template 'for every input the law returns true; each argument reads behind the call as it read before'; 0 by the template 'total and deterministic' (their statements: YtjbhpfmnfdebkaaGreatTotals.lean).
  GIVEN WITH THE SEED: the statements are not yours to turn. If you find one false, say at which input.
  Laid BY PROGRAM, IN A SANDBOX (cutbox-rows.mjs): the forced cells as the released guide's own fill.sh prints them over the translation c6d25699c57d796f… (all of the seat's roots in one cut). By AI agents, Wed Nov 11 2026. No macro, syntax, notation, axiom, sorry.
-/
import Derived.Test.YtjbhpfmnfdebkaaGreatChecked
import GoSem.Claim
import GoSem.ClaimJoined
import GoSem.ClaimMapViews
import Derived.JoinedTies
import Derived.KernelRfl
namespace Go.Proofs.YtjbhpfmnfdebkaaGreat
/- THE CELL 'sum', in the pinned program and in every row, IS THE sha256 OF THE DUMP (.gsa) THAT YtjbhpfmnfdebkaaGreatProg.lean LOADS. Nothing in Lean hashes anything: it is a label: what it is worth is what the hold of that sum in a sandbox is worth. -/
noncomputable def Tryz.pinned : Pinned := { name := "ytjbhpfmnfdebkaagreat", sum := "c6d25699c57d796ff65f59996a0656b34f1c0a65cbaac088f9ff915cf2c9f57c", checked := Tryz.checked }
namespace Rows
def none {H : Type} : Left H := { results := [], args := [] }

/-- 'rallentandolaw24.TableCats': WHATEVER THE INPUT: true; the input reads as it did. -/
def tableCatsSpec : ChangeSpec := { name := "tableCats", fn := fun _ => fun
  | [d1, d2, d3, d4, d5] => { results := [.lit (.bool true)], args := [d1, d2, d3, d4, d5] }
  | _ => none }
def tableCatsRow : OpenClaim := { program := "ytjbhpfmnfdebkaagreat", sum := "c6d25699c57d796ff65f59996a0656b34f1c0a65cbaac088f9ff915cf2c9f57c", func := "rallentando/rallentandolaw24.TableCats", spec := "tableCats", unfollowed := true, recurses := true, apart := false }
def TableCatsSaid : Prop := tableCatsRow.holds Tryz.pinned (OpenSpec.ofChange tableCatsSpec)

/-- ITS FALSE NEIGHBOUR: 'it returns false'. Refute it at one input. -/
def tableCatsWrong : ChangeSpec := { name := "tableCats", fn := fun _ => fun
  | [d1, d2, d3, d4, d5] => { results := [.lit (.bool false)], args := [d1, d2, d3, d4, d5] }
  | _ => none }
def TableCatsWrongFalsely : Prop := tableCatsRow.holds Tryz.pinned (OpenSpec.ofChange tableCatsWrong)

/-- 'rallentandolaw14.RegionSets': WHATEVER THE INPUT: true; the input reads as it did. -/
def regionSetsSpec : ChangeSpec := { name := "regionSets", fn := fun _ => fun
  | [d1, d2, d3, d4, d5, d6] => { results := [.lit (.bool true)], args := [d1, d2, d3, d4, d5, d6] }
  | _ => none }
def regionSetsRow : OpenClaim := { program := "ytjbhpfmnfdebkaagreat", sum := "c6d25699c57d796ff65f59996a0656b34f1c0a65cbaac088f9ff915cf2c9f57c", func := "rallentando/rallentandolaw14.RegionSets", spec := "regionSets", inPlace := ["math/bits.Sub64"], unfollowed := true, recurses := true, apart := false }
def RegionSetsSaid : Prop := regionSetsRow.holds Tryz.pinned (OpenSpec.ofChange regionSetsSpec)

/-- ITS FALSE NEIGHBOUR: 'it returns false'. Refute it at one input. -/
def regionSetsWrong : ChangeSpec := { name := "regionSets", fn := fun _ => fun
  | [d1, d2, d3, d4, d5, d6] => { results := [.lit (.bool false)], args := [d1, d2, d3, d4, d5, d6] }
  | _ => none }
def RegionSetsWrongFalsely : Prop := regionSetsRow.holds Tryz.pinned (OpenSpec.ofChange regionSetsWrong)

/-- 'rallentandolaw24.TableAdds': WHATEVER THE INPUT: true; the input reads as it did. -/
def tableAddsSpec : ChangeSpec := { name := "tableAdds", fn := fun _ => fun
  | [d1, d2, d3] => { results := [.lit (.bool true)], args := [d1, d2, d3] }
  | _ => none }
def tableAddsRow : OpenClaim := { program := "ytjbhpfmnfdebkaagreat", sum := "c6d25699c57d796ff65f59996a0656b34f1c0a65cbaac088f9ff915cf2c9f57c", func := "rallentando/rallentandolaw24.TableAdds", spec := "tableAdds", unfollowed := true, recurses := true, apart := false }
def TableAddsSaid : Prop := tableAddsRow.holds Tryz.pinned (OpenSpec.ofChange tableAddsSpec)

/-- ITS FALSE NEIGHBOUR: 'it returns false'. Refute it at one input. -/
def tableAddsWrong : ChangeSpec := { name := "tableAdds", fn := fun _ => fun
  | [d1, d2, d3] => { results := [.lit (.bool false)], args := [d1, d2, d3] }
  | _ => none }
def TableAddsWrongFalsely : Prop := tableAddsRow.holds Tryz.pinned (OpenSpec.ofChange tableAddsWrong)

/-- 'rallentandolaw14.RegionLists': WHATEVER THE INPUT: true; the input reads as it did. -/
def regionListsSpec : ChangeSpec := { name := "regionLists", fn := fun _ => fun
  | [d1, d2, d3, d4, d5, d6, d7] => { results := [.lit (.bool true)], args := [d1, d2, d3, d4, d5, d6, d7] }
  | _ => none }
def regionListsRow : OpenClaim := { program := "ytjbhpfmnfdebkaagreat", sum := "c6d25699c57d796ff65f59996a0656b34f1c0a65cbaac088f9ff915cf2c9f57c", func := "rallentando/rallentandolaw14.RegionLists", spec := "regionLists", inPlace := ["math/bits.Sub64"], unfollowed := true, recurses := true, apart := false }
def RegionListsSaid : Prop := regionListsRow.holds Tryz.pinned (OpenSpec.ofChange regionListsSpec)

/-- ITS FALSE NEIGHBOUR: 'it returns false'. Refute it at one input. -/
def regionListsWrong : ChangeSpec := { name := "regionLists", fn := fun _ => fun
  | [d1, d2, d3, d4, d5, d6, d7] => { results := [.lit (.bool false)], args := [d1, d2, d3, d4, d5, d6, d7] }
  | _ => none }
def RegionListsWrongFalsely : Prop := regionListsRow.holds Tryz.pinned (OpenSpec.ofChange regionListsWrong)

/-- 'rallentandolaw25.CloseDoes': WHATEVER THE INPUT: true; the input reads as it did. -/
def closeDoesSpec : ChangeSpec := { name := "closeDoes", fn := fun _ => fun
  | [d1, d2, d3] => { results := [.lit (.bool true)], args := [d1, d2, d3] }
  | _ => none }
def closeDoesRow : OpenClaim := { program := "ytjbhpfmnfdebkaagreat", sum := "c6d25699c57d796ff65f59996a0656b34f1c0a65cbaac088f9ff915cf2c9f57c", func := "rallentando/rallentandolaw25.CloseDoes", spec := "closeDoes", unfollowed := true, recurses := true, apart := false }
def CloseDoesSaid : Prop := closeDoesRow.holds Tryz.pinned (OpenSpec.ofChange closeDoesSpec)

/-- ITS FALSE NEIGHBOUR: 'it returns false'. Refute it at one input. -/
def closeDoesWrong : ChangeSpec := { name := "closeDoes", fn := fun _ => fun
  | [d1, d2, d3] => { results := [.lit (.bool false)], args := [d1, d2, d3] }
  | _ => none }
def CloseDoesWrongFalsely : Prop := closeDoesRow.holds Tryz.pinned (OpenSpec.ofChange closeDoesWrong)

/-- 'rallentandolaw24.TableNews': WHATEVER THE INPUT: true; the input reads as it did. -/
def tableNewsSpec : ChangeSpec := { name := "tableNews", fn := fun _ => fun
  | [d1, d2, d3, d4] => { results := [.lit (.bool true)], args := [d1, d2, d3, d4] }
  | _ => none }
def tableNewsRow : OpenClaim := { program := "ytjbhpfmnfdebkaagreat", sum := "c6d25699c57d796ff65f59996a0656b34f1c0a65cbaac088f9ff915cf2c9f57c", func := "rallentando/rallentandolaw24.TableNews", spec := "tableNews", unfollowed := true, recurses := true, apart := false }
def TableNewsSaid : Prop := tableNewsRow.holds Tryz.pinned (OpenSpec.ofChange tableNewsSpec)

/-- ITS FALSE NEIGHBOUR: 'it returns false'. Refute it at one input. -/
def tableNewsWrong : ChangeSpec := { name := "tableNews", fn := fun _ => fun
  | [d1, d2, d3, d4] => { results := [.lit (.bool false)], args := [d1, d2, d3, d4] }
  | _ => none }
def TableNewsWrongFalsely : Prop := tableNewsRow.holds Tryz.pinned (OpenSpec.ofChange tableNewsWrong)

/-- 'rallentandolaw25.CloseNames': WHATEVER THE INPUT: true; the input reads as it did. -/
def closeNamesSpec : ChangeSpec := { name := "closeNames", fn := fun _ => fun
  | [] => { results := [.lit (.bool true)], args := [] }
  | _ => none }
def closeNamesRow : OpenClaim := { program := "ytjbhpfmnfdebkaagreat", sum := "c6d25699c57d796ff65f59996a0656b34f1c0a65cbaac088f9ff915cf2c9f57c", func := "rallentando/rallentandolaw25.CloseNames", spec := "closeNames", unfollowed := true, recurses := true, apart := false }
def CloseNamesSaid : Prop := closeNamesRow.holds Tryz.pinned (OpenSpec.ofChange closeNamesSpec)

/-- ITS FALSE NEIGHBOUR: 'it returns false'. Refute it at one input. -/
def closeNamesWrong : ChangeSpec := { name := "closeNames", fn := fun _ => fun
  | [] => { results := [.lit (.bool false)], args := [] }
  | _ => none }
def CloseNamesWrongFalsely : Prop := closeNamesRow.holds Tryz.pinned (OpenSpec.ofChange closeNamesWrong)

/-- 'rallentandolaw25.CloseAgain': WHATEVER THE INPUT: true; the input reads as it did. -/
def closeAgainSpec : ChangeSpec := { name := "closeAgain", fn := fun _ => fun
  | [d1, d2, d3] => { results := [.lit (.bool true)], args := [d1, d2, d3] }
  | _ => none }
def closeAgainRow : OpenClaim := { program := "ytjbhpfmnfdebkaagreat", sum := "c6d25699c57d796ff65f59996a0656b34f1c0a65cbaac088f9ff915cf2c9f57c", func := "rallentando/rallentandolaw25.CloseAgain", spec := "closeAgain", unfollowed := true, recurses := true, apart := false }
def CloseAgainSaid : Prop := closeAgainRow.holds Tryz.pinned (OpenSpec.ofChange closeAgainSpec)

/-- ITS FALSE NEIGHBOUR: 'it returns false'. Refute it at one input. -/
def closeAgainWrong : ChangeSpec := { name := "closeAgain", fn := fun _ => fun
  | [d1, d2, d3] => { results := [.lit (.bool false)], args := [d1, d2, d3] }
  | _ => none }
def CloseAgainWrongFalsely : Prop := closeAgainRow.holds Tryz.pinned (OpenSpec.ofChange closeAgainWrong)

/-- 'rallentandolaw25.CloseLeast': WHATEVER THE INPUT: true; the input reads as it did. -/
def closeLeastSpec : ChangeSpec := { name := "closeLeast", fn := fun _ => fun
  | [d1, d2, d3] => { results := [.lit (.bool true)], args := [d1, d2, d3] }
  | _ => none }
def closeLeastRow : OpenClaim := { program := "ytjbhpfmnfdebkaagreat", sum := "c6d25699c57d796ff65f59996a0656b34f1c0a65cbaac088f9ff915cf2c9f57c", func := "rallentando/rallentandolaw25.CloseLeast", spec := "closeLeast", unfollowed := true, recurses := true, apart := false }
def CloseLeastSaid : Prop := closeLeastRow.holds Tryz.pinned (OpenSpec.ofChange closeLeastSpec)

/-- ITS FALSE NEIGHBOUR: 'it returns false'. Refute it at one input. -/
def closeLeastWrong : ChangeSpec := { name := "closeLeast", fn := fun _ => fun
  | [d1, d2, d3] => { results := [.lit (.bool false)], args := [d1, d2, d3] }
  | _ => none }
def CloseLeastWrongFalsely : Prop := closeLeastRow.holds Tryz.pinned (OpenSpec.ofChange closeLeastWrong)

/-- 'rallentandolaw24.TableNames': WHATEVER THE INPUT: true; the input reads as it did. -/
def tableNamesSpec : ChangeSpec := { name := "tableNames", fn := fun _ => fun
  | [] => { results := [.lit (.bool true)], args := [] }
  | _ => none }
def tableNamesRow : OpenClaim := { program := "ytjbhpfmnfdebkaagreat", sum := "c6d25699c57d796ff65f59996a0656b34f1c0a65cbaac088f9ff915cf2c9f57c", func := "rallentando/rallentandolaw24.TableNames", spec := "tableNames", unfollowed := true, recurses := true, apart := false }
def TableNamesSaid : Prop := tableNamesRow.holds Tryz.pinned (OpenSpec.ofChange tableNamesSpec)

/-- ITS FALSE NEIGHBOUR: 'it returns false'. Refute it at one input. -/
def tableNamesWrong : ChangeSpec := { name := "tableNames", fn := fun _ => fun
  | [] => { results := [.lit (.bool false)], args := [] }
  | _ => none }
def TableNamesWrongFalsely : Prop := tableNamesRow.holds Tryz.pinned (OpenSpec.ofChange tableNamesWrong)

/-- 'rallentandolaw24.TablePoints': WHATEVER THE INPUT: true; the input reads as it did. -/
def tablePointsSpec : ChangeSpec := { name := "tablePoints", fn := fun _ => fun
  | [d1, d2, d3, d4, d5] => { results := [.lit (.bool true)], args := [d1, d2, d3, d4, d5] }
  | _ => none }
def tablePointsRow : OpenClaim := { program := "ytjbhpfmnfdebkaagreat", sum := "c6d25699c57d796ff65f59996a0656b34f1c0a65cbaac088f9ff915cf2c9f57c", func := "rallentando/rallentandolaw24.TablePoints", spec := "tablePoints", unfollowed := true, recurses := true, apart := false }
def TablePointsSaid : Prop := tablePointsRow.holds Tryz.pinned (OpenSpec.ofChange tablePointsSpec)

/-- ITS FALSE NEIGHBOUR: 'it returns false'. Refute it at one input. -/
def tablePointsWrong : ChangeSpec := { name := "tablePoints", fn := fun _ => fun
  | [d1, d2, d3, d4, d5] => { results := [.lit (.bool false)], args := [d1, d2, d3, d4, d5] }
  | _ => none }
def TablePointsWrongFalsely : Prop := tablePointsRow.holds Tryz.pinned (OpenSpec.ofChange tablePointsWrong)

/- THE SECOND FORM. 'bulk': how many values and letters a reading holds, each counted each time it is reached (what is shared counts as often as it is met; a slice's spare places count too). A statement '..UptoSaid' is the law's where the arguments, and the package variables that the reading takes, are together of bulk at most 1048576: NARROWER than '..Said'. Prove '..Said' where nothing that the law and all that it calls make is longer than what came in: it says more and counts as full. Else prove '..UptoSaid'. A law counts once. -/
mutual
def uptoBulk {H : Type} : DataW H → Nat
  | .lit (.string bytes) => bytes.length + 1
  | .lit _ => 1
  | .nil => 1
  | .ptr d => uptoBulk d + 1
  | .slice elems spare => uptoBulkAll elems + uptoBulkAll spare + 1
  | .agg parts => uptoBulkAll parts + 1
  | .iface _ d => uptoBulk d + 1
  | .map entries => uptoBulkEntries entries + 1
  | .held _ => 1
def uptoBulkAll {H : Type} : List (DataW H) → Nat
  | [] => 0
  | d :: r => uptoBulk d + uptoBulkAll r
def uptoBulkEntries {H : Type} : List (Lit × DataW H) → Nat
  | [] => 0
  | x :: r => uptoBulkEntry x + uptoBulkEntries r
def uptoBulkEntry {H : Type} : Lit × DataW H → Nat
  | (.string bytes, d) => bytes.length + uptoBulk d + 1
  | (_, d) => uptoBulk d + 1
 end
def uptoSmall : (H : Type) → List (DataW H) → Bool := fun _ ds => decide (uptoBulkAll ds ≤ 1048576)
def OpenSpec.upto (s : _root_.Go.ChangeSpec) : _root_.Go.OpenSpec := { _root_.Go.OpenSpec.ofChange s with cond := some uptoSmall }

/-- 'rallentandolaw24.TableCats', WHERE WHAT IT READS IS OF BULK AT MOST 1048576: true; the input reads as it did. -/
def tableCatsUptoRow : OpenClaim := { program := "ytjbhpfmnfdebkaagreat", sum := "c6d25699c57d796ff65f59996a0656b34f1c0a65cbaac088f9ff915cf2c9f57c", func := "rallentando/rallentandolaw24.TableCats", spec := "tableCats", unfollowed := true, recurses := true, apart := false, narrowed := true }
def TableCatsUptoSaid : Prop := tableCatsUptoRow.holds Tryz.pinned (OpenSpec.upto tableCatsSpec)

/-- 'rallentandolaw14.RegionSets', WHERE WHAT IT READS IS OF BULK AT MOST 1048576: true; the input reads as it did. -/
def regionSetsUptoRow : OpenClaim := { program := "ytjbhpfmnfdebkaagreat", sum := "c6d25699c57d796ff65f59996a0656b34f1c0a65cbaac088f9ff915cf2c9f57c", func := "rallentando/rallentandolaw14.RegionSets", spec := "regionSets", inPlace := ["math/bits.Sub64"], unfollowed := true, recurses := true, apart := false, narrowed := true }
def RegionSetsUptoSaid : Prop := regionSetsUptoRow.holds Tryz.pinned (OpenSpec.upto regionSetsSpec)

/-- 'rallentandolaw24.TableAdds', WHERE WHAT IT READS IS OF BULK AT MOST 1048576: true; the input reads as it did. -/
def tableAddsUptoRow : OpenClaim := { program := "ytjbhpfmnfdebkaagreat", sum := "c6d25699c57d796ff65f59996a0656b34f1c0a65cbaac088f9ff915cf2c9f57c", func := "rallentando/rallentandolaw24.TableAdds", spec := "tableAdds", unfollowed := true, recurses := true, apart := false, narrowed := true }
def TableAddsUptoSaid : Prop := tableAddsUptoRow.holds Tryz.pinned (OpenSpec.upto tableAddsSpec)

/-- 'rallentandolaw14.RegionLists', WHERE WHAT IT READS IS OF BULK AT MOST 1048576: true; the input reads as it did. -/
def regionListsUptoRow : OpenClaim := { program := "ytjbhpfmnfdebkaagreat", sum := "c6d25699c57d796ff65f59996a0656b34f1c0a65cbaac088f9ff915cf2c9f57c", func := "rallentando/rallentandolaw14.RegionLists", spec := "regionLists", inPlace := ["math/bits.Sub64"], unfollowed := true, recurses := true, apart := false, narrowed := true }
def RegionListsUptoSaid : Prop := regionListsUptoRow.holds Tryz.pinned (OpenSpec.upto regionListsSpec)

/-- 'rallentandolaw25.CloseDoes', WHERE WHAT IT READS IS OF BULK AT MOST 1048576: true; the input reads as it did. -/
def closeDoesUptoRow : OpenClaim := { program := "ytjbhpfmnfdebkaagreat", sum := "c6d25699c57d796ff65f59996a0656b34f1c0a65cbaac088f9ff915cf2c9f57c", func := "rallentando/rallentandolaw25.CloseDoes", spec := "closeDoes", unfollowed := true, recurses := true, apart := false, narrowed := true }
def CloseDoesUptoSaid : Prop := closeDoesUptoRow.holds Tryz.pinned (OpenSpec.upto closeDoesSpec)

/-- 'rallentandolaw24.TableNews', WHERE WHAT IT READS IS OF BULK AT MOST 1048576: true; the input reads as it did. -/
def tableNewsUptoRow : OpenClaim := { program := "ytjbhpfmnfdebkaagreat", sum := "c6d25699c57d796ff65f59996a0656b34f1c0a65cbaac088f9ff915cf2c9f57c", func := "rallentando/rallentandolaw24.TableNews", spec := "tableNews", unfollowed := true, recurses := true, apart := false, narrowed := true }
def TableNewsUptoSaid : Prop := tableNewsUptoRow.holds Tryz.pinned (OpenSpec.upto tableNewsSpec)

/-- 'rallentandolaw25.CloseNames', WHERE WHAT IT READS IS OF BULK AT MOST 1048576: true; the input reads as it did. -/
def closeNamesUptoRow : OpenClaim := { program := "ytjbhpfmnfdebkaagreat", sum := "c6d25699c57d796ff65f59996a0656b34f1c0a65cbaac088f9ff915cf2c9f57c", func := "rallentando/rallentandolaw25.CloseNames", spec := "closeNames", unfollowed := true, recurses := true, apart := false, narrowed := true }
def CloseNamesUptoSaid : Prop := closeNamesUptoRow.holds Tryz.pinned (OpenSpec.upto closeNamesSpec)

/-- 'rallentandolaw25.CloseAgain', WHERE WHAT IT READS IS OF BULK AT MOST 1048576: true; the input reads as it did. -/
def closeAgainUptoRow : OpenClaim := { program := "ytjbhpfmnfdebkaagreat", sum := "c6d25699c57d796ff65f59996a0656b34f1c0a65cbaac088f9ff915cf2c9f57c", func := "rallentando/rallentandolaw25.CloseAgain", spec := "closeAgain", unfollowed := true, recurses := true, apart := false, narrowed := true }
def CloseAgainUptoSaid : Prop := closeAgainUptoRow.holds Tryz.pinned (OpenSpec.upto closeAgainSpec)

/-- 'rallentandolaw25.CloseLeast', WHERE WHAT IT READS IS OF BULK AT MOST 1048576: true; the input reads as it did. -/
def closeLeastUptoRow : OpenClaim := { program := "ytjbhpfmnfdebkaagreat", sum := "c6d25699c57d796ff65f59996a0656b34f1c0a65cbaac088f9ff915cf2c9f57c", func := "rallentando/rallentandolaw25.CloseLeast", spec := "closeLeast", unfollowed := true, recurses := true, apart := false, narrowed := true }
def CloseLeastUptoSaid : Prop := closeLeastUptoRow.holds Tryz.pinned (OpenSpec.upto closeLeastSpec)

/-- 'rallentandolaw24.TableNames', WHERE WHAT IT READS IS OF BULK AT MOST 1048576: true; the input reads as it did. -/
def tableNamesUptoRow : OpenClaim := { program := "ytjbhpfmnfdebkaagreat", sum := "c6d25699c57d796ff65f59996a0656b34f1c0a65cbaac088f9ff915cf2c9f57c", func := "rallentando/rallentandolaw24.TableNames", spec := "tableNames", unfollowed := true, recurses := true, apart := false, narrowed := true }
def TableNamesUptoSaid : Prop := tableNamesUptoRow.holds Tryz.pinned (OpenSpec.upto tableNamesSpec)

/-- 'rallentandolaw24.TablePoints', WHERE WHAT IT READS IS OF BULK AT MOST 1048576: true; the input reads as it did. -/
def tablePointsUptoRow : OpenClaim := { program := "ytjbhpfmnfdebkaagreat", sum := "c6d25699c57d796ff65f59996a0656b34f1c0a65cbaac088f9ff915cf2c9f57c", func := "rallentando/rallentandolaw24.TablePoints", spec := "tablePoints", unfollowed := true, recurses := true, apart := false, narrowed := true }
def TablePointsUptoSaid : Prop := tablePointsUptoRow.holds Tryz.pinned (OpenSpec.upto tablePointsSpec)

end Rows
end Go.Proofs.YtjbhpfmnfdebkaaGreat
