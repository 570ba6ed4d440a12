/-
  No cell of these rows narrows 'for every input' (looked for: loops, veiled, ifaces, maps, wideKeys, modest, calm, conditions, laid).
  DERIVED. THE GIVEN ROWS OF THIS SEAT. 8 by the template 'for every input the law returns true; each argument reads behind the call as it read before'; 0 by the template 'total and deterministic' (their statements: YthajkhbeehiepaaGreatTotals.lean).
  GIVEN WITH THE SEED: the statements are not yours to turn. If you find one false, say at which input.
  Laid BY PROGRAM, IN A SANDBOX (cutbox-rows.mjs): the forced cells as the released guide's own fill.sh prints them over the translation d77991ac8d1c2bfd… (all of the seat's roots in one cut). By AI agents, Wed Nov 11 2026. No macro, syntax, notation, axiom, sorry.
-/
import Derived.Test.YthajkhbeehiepaaGreatChecked
import GoSem.Claim
import GoSem.ClaimJoined
import GoSem.ClaimMapViews
import Derived.JoinedTies
import Derived.KernelRfl
namespace Go.Proofs.YthajkhbeehiepaaGreat
/- THE CELL 'sum', in the pinned program and in every row, IS THE sha256 OF THE DUMP (.gsa) THAT YthajkhbeehiepaaGreatProg.lean LOADS. Nothing in Lean hashes anything: it is a label: what it is worth is what the hold of that sum in a sandbox is worth. -/
noncomputable def Tryz.pinned : Pinned := { name := "ythajkhbeehiepaagreat", sum := "d77991ac8d1c2bfd93947dc1b76c2d06c386786609d22b942894a178ec8b4017", checked := Tryz.checked }
namespace Rows
def none {H : Type} : Left H := { results := [], args := [] }

/-- 'rallentandolaw14.RegionTells': WHATEVER THE INPUT: true; the input reads as it did. -/
def regionTellsSpec : ChangeSpec := { name := "regionTells", fn := fun _ => fun
  | [d1, d2, d3] => { results := [.lit (.bool true)], args := [d1, d2, d3] }
  | _ => none }
def regionTellsRow : OpenClaim := { program := "ythajkhbeehiepaagreat", sum := "d77991ac8d1c2bfd93947dc1b76c2d06c386786609d22b942894a178ec8b4017", func := "rallentando/rallentandolaw14.RegionTells", spec := "regionTells", inPlace := ["math/bits.Sub64"], unfollowed := true, recurses := true, apart := false }
def RegionTellsSaid : Prop := regionTellsRow.holds Tryz.pinned (OpenSpec.ofChange regionTellsSpec)

/-- ITS FALSE NEIGHBOUR: 'it returns false'. Refute it at one input. -/
def regionTellsWrong : ChangeSpec := { name := "regionTells", fn := fun _ => fun
  | [d1, d2, d3] => { results := [.lit (.bool false)], args := [d1, d2, d3] }
  | _ => none }
def RegionTellsWrongFalsely : Prop := regionTellsRow.holds Tryz.pinned (OpenSpec.ofChange regionTellsWrong)

/-- 'rallentandolaw14.RegionSets': WHATEVER THE INPUT: true; the input reads as it did. -/
def regionSetsSpec : ChangeSpec := { name := "regionSets", fn := fun _ => fun
  | [d1, d2, d3, d4, d5, d6] => { results := [.lit (.bool true)], args := [d1, d2, d3, d4, d5, d6] }
  | _ => none }
def regionSetsRow : OpenClaim := { program := "ythajkhbeehiepaagreat", sum := "d77991ac8d1c2bfd93947dc1b76c2d06c386786609d22b942894a178ec8b4017", func := "rallentando/rallentandolaw14.RegionSets", spec := "regionSets", inPlace := ["math/bits.Sub64"], unfollowed := true, recurses := true, apart := false }
def RegionSetsSaid : Prop := regionSetsRow.holds Tryz.pinned (OpenSpec.ofChange regionSetsSpec)

/-- ITS FALSE NEIGHBOUR: 'it returns false'. Refute it at one input. -/
def regionSetsWrong : ChangeSpec := { name := "regionSets", fn := fun _ => fun
  | [d1, d2, d3, d4, d5, d6] => { results := [.lit (.bool false)], args := [d1, d2, d3, d4, d5, d6] }
  | _ => none }
def RegionSetsWrongFalsely : Prop := regionSetsRow.holds Tryz.pinned (OpenSpec.ofChange regionSetsWrong)

/-- 'rallentandolaw14.RegionPoints': WHATEVER THE INPUT: true; the input reads as it did. -/
def regionPointsSpec : ChangeSpec := { name := "regionPoints", fn := fun _ => fun
  | [d1, d2, d3] => { results := [.lit (.bool true)], args := [d1, d2, d3] }
  | _ => none }
def regionPointsRow : OpenClaim := { program := "ythajkhbeehiepaagreat", sum := "d77991ac8d1c2bfd93947dc1b76c2d06c386786609d22b942894a178ec8b4017", func := "rallentando/rallentandolaw14.RegionPoints", spec := "regionPoints", inPlace := ["math/bits.Sub64"], unfollowed := true, recurses := true, apart := false }
def RegionPointsSaid : Prop := regionPointsRow.holds Tryz.pinned (OpenSpec.ofChange regionPointsSpec)

/-- ITS FALSE NEIGHBOUR: 'it returns false'. Refute it at one input. -/
def regionPointsWrong : ChangeSpec := { name := "regionPoints", fn := fun _ => fun
  | [d1, d2, d3] => { results := [.lit (.bool false)], args := [d1, d2, d3] }
  | _ => none }
def RegionPointsWrongFalsely : Prop := regionPointsRow.holds Tryz.pinned (OpenSpec.ofChange regionPointsWrong)

/-- 'rallentandolaw12.CoverPrunes': WHATEVER THE INPUT: true; the input reads as it did. -/
def coverPrunesSpec : ChangeSpec := { name := "coverPrunes", fn := fun _ => fun
  | [d1, d2] => { results := [.lit (.bool true)], args := [d1, d2] }
  | _ => none }
def coverPrunesRow : OpenClaim := { program := "ythajkhbeehiepaagreat", sum := "d77991ac8d1c2bfd93947dc1b76c2d06c386786609d22b942894a178ec8b4017", func := "rallentando/rallentandolaw12.CoverPrunes", spec := "coverPrunes", unfollowed := true, recurses := true, apart := false }
def CoverPrunesSaid : Prop := coverPrunesRow.holds Tryz.pinned (OpenSpec.ofChange coverPrunesSpec)

/-- ITS FALSE NEIGHBOUR: 'it returns false'. Refute it at one input. -/
def coverPrunesWrong : ChangeSpec := { name := "coverPrunes", fn := fun _ => fun
  | [d1, d2] => { results := [.lit (.bool false)], args := [d1, d2] }
  | _ => none }
def CoverPrunesWrongFalsely : Prop := coverPrunesRow.holds Tryz.pinned (OpenSpec.ofChange coverPrunesWrong)

/-- 'rallentandolaw14.RegionLists': WHATEVER THE INPUT: true; the input reads as it did. -/
def regionListsSpec : ChangeSpec := { name := "regionLists", fn := fun _ => fun
  | [d1, d2, d3, d4, d5, d6, d7] => { results := [.lit (.bool true)], args := [d1, d2, d3, d4, d5, d6, d7] }
  | _ => none }
def regionListsRow : OpenClaim := { program := "ythajkhbeehiepaagreat", sum := "d77991ac8d1c2bfd93947dc1b76c2d06c386786609d22b942894a178ec8b4017", func := "rallentando/rallentandolaw14.RegionLists", spec := "regionLists", inPlace := ["math/bits.Sub64"], unfollowed := true, recurses := true, apart := false }
def RegionListsSaid : Prop := regionListsRow.holds Tryz.pinned (OpenSpec.ofChange regionListsSpec)

/-- ITS FALSE NEIGHBOUR: 'it returns false'. Refute it at one input. -/
def regionListsWrong : ChangeSpec := { name := "regionLists", fn := fun _ => fun
  | [d1, d2, d3, d4, d5, d6, d7] => { results := [.lit (.bool false)], args := [d1, d2, d3, d4, d5, d6, d7] }
  | _ => none }
def RegionListsWrongFalsely : Prop := regionListsRow.holds Tryz.pinned (OpenSpec.ofChange regionListsWrong)

/-- 'rallentandolaw12.CoverTells': WHATEVER THE INPUT: true; the input reads as it did. -/
def coverTellsSpec : ChangeSpec := { name := "coverTells", fn := fun _ => fun
  | [d1, d2, d3] => { results := [.lit (.bool true)], args := [d1, d2, d3] }
  | _ => none }
def coverTellsRow : OpenClaim := { program := "ythajkhbeehiepaagreat", sum := "d77991ac8d1c2bfd93947dc1b76c2d06c386786609d22b942894a178ec8b4017", func := "rallentando/rallentandolaw12.CoverTells", spec := "coverTells", inPlace := ["math/bits.Sub64"], unfollowed := true, recurses := true, apart := false }
def CoverTellsSaid : Prop := coverTellsRow.holds Tryz.pinned (OpenSpec.ofChange coverTellsSpec)

/-- ITS FALSE NEIGHBOUR: 'it returns false'. Refute it at one input. -/
def coverTellsWrong : ChangeSpec := { name := "coverTells", fn := fun _ => fun
  | [d1, d2, d3] => { results := [.lit (.bool false)], args := [d1, d2, d3] }
  | _ => none }
def CoverTellsWrongFalsely : Prop := coverTellsRow.holds Tryz.pinned (OpenSpec.ofChange coverTellsWrong)

/-- 'rallentandolaw12.CoverLong': WHATEVER THE INPUT: true; the input reads as it did. -/
def coverLongSpec : ChangeSpec := { name := "coverLong", fn := fun _ => fun
  | [d1, d2] => { results := [.lit (.bool true)], args := [d1, d2] }
  | _ => none }
def coverLongRow : OpenClaim := { program := "ythajkhbeehiepaagreat", sum := "d77991ac8d1c2bfd93947dc1b76c2d06c386786609d22b942894a178ec8b4017", func := "rallentando/rallentandolaw12.CoverLong", spec := "coverLong", inPlace := ["math/bits.Sub64"], unfollowed := true, recurses := true, apart := false }
def CoverLongSaid : Prop := coverLongRow.holds Tryz.pinned (OpenSpec.ofChange coverLongSpec)

/-- ITS FALSE NEIGHBOUR: 'it returns false'. Refute it at one input. -/
def coverLongWrong : ChangeSpec := { name := "coverLong", fn := fun _ => fun
  | [d1, d2] => { results := [.lit (.bool false)], args := [d1, d2] }
  | _ => none }
def CoverLongWrongFalsely : Prop := coverLongRow.holds Tryz.pinned (OpenSpec.ofChange coverLongWrong)

/-- 'rallentandolaw12.CoverNames': WHATEVER THE INPUT: true; the input reads as it did. -/
def coverNamesSpec : ChangeSpec := { name := "coverNames", fn := fun _ => fun
  | [] => { results := [.lit (.bool true)], args := [] }
  | _ => none }
def coverNamesRow : OpenClaim := { program := "ythajkhbeehiepaagreat", sum := "d77991ac8d1c2bfd93947dc1b76c2d06c386786609d22b942894a178ec8b4017", func := "rallentando/rallentandolaw12.CoverNames", spec := "coverNames", inPlace := ["math/bits.Sub64"], unfollowed := true, recurses := true, apart := false }
def CoverNamesSaid : Prop := coverNamesRow.holds Tryz.pinned (OpenSpec.ofChange coverNamesSpec)

/-- ITS FALSE NEIGHBOUR: 'it returns false'. Refute it at one input. -/
def coverNamesWrong : ChangeSpec := { name := "coverNames", fn := fun _ => fun
  | [] => { results := [.lit (.bool false)], args := [] }
  | _ => none }
def CoverNamesWrongFalsely : Prop := coverNamesRow.holds Tryz.pinned (OpenSpec.ofChange coverNamesWrong)

/- THE SECOND FORM. 'bulk': how many values and letters a reading holds, each counted each time it is reached (what is shared counts as often as it is met; a slice's spare places count too). A statement '..UptoSaid' is the law's where the arguments, and the package variables that the reading takes, are together of bulk at most 1048576: NARROWER than '..Said'. Prove '..Said' where nothing that the law and all that it calls make is longer than what came in: it says more and counts as full. Else prove '..UptoSaid'. A law counts once. -/
mutual
def uptoBulk {H : Type} : DataW H → Nat
  | .lit (.string bytes) => bytes.length + 1
  | .lit _ => 1
  | .nil => 1
  | .ptr d => uptoBulk d + 1
  | .slice elems spare => uptoBulkAll elems + uptoBulkAll spare + 1
  | .agg parts => uptoBulkAll parts + 1
  | .iface _ d => uptoBulk d + 1
  | .map entries => uptoBulkEntries entries + 1
  | .held _ => 1
def uptoBulkAll {H : Type} : List (DataW H) → Nat
  | [] => 0
  | d :: r => uptoBulk d + uptoBulkAll r
def uptoBulkEntries {H : Type} : List (Lit × DataW H) → Nat
  | [] => 0
  | x :: r => uptoBulkEntry x + uptoBulkEntries r
def uptoBulkEntry {H : Type} : Lit × DataW H → Nat
  | (.string bytes, d) => bytes.length + uptoBulk d + 1
  | (_, d) => uptoBulk d + 1
 end
def uptoSmall : (H : Type) → List (DataW H) → Bool := fun _ ds => decide (uptoBulkAll ds ≤ 1048576)
def OpenSpec.upto (s : _root_.Go.ChangeSpec) : _root_.Go.OpenSpec := { _root_.Go.OpenSpec.ofChange s with cond := some uptoSmall }

/-- 'rallentandolaw14.RegionTells', WHERE WHAT IT READS IS OF BULK AT MOST 1048576: true; the input reads as it did. -/
def regionTellsUptoRow : OpenClaim := { program := "ythajkhbeehiepaagreat", sum := "d77991ac8d1c2bfd93947dc1b76c2d06c386786609d22b942894a178ec8b4017", func := "rallentando/rallentandolaw14.RegionTells", spec := "regionTells", inPlace := ["math/bits.Sub64"], unfollowed := true, recurses := true, apart := false, narrowed := true }
def RegionTellsUptoSaid : Prop := regionTellsUptoRow.holds Tryz.pinned (OpenSpec.upto regionTellsSpec)

/-- 'rallentandolaw14.RegionSets', WHERE WHAT IT READS IS OF BULK AT MOST 1048576: true; the input reads as it did. -/
def regionSetsUptoRow : OpenClaim := { program := "ythajkhbeehiepaagreat", sum := "d77991ac8d1c2bfd93947dc1b76c2d06c386786609d22b942894a178ec8b4017", func := "rallentando/rallentandolaw14.RegionSets", spec := "regionSets", inPlace := ["math/bits.Sub64"], unfollowed := true, recurses := true, apart := false, narrowed := true }
def RegionSetsUptoSaid : Prop := regionSetsUptoRow.holds Tryz.pinned (OpenSpec.upto regionSetsSpec)

/-- 'rallentandolaw14.RegionPoints', WHERE WHAT IT READS IS OF BULK AT MOST 1048576: true; the input reads as it did. -/
def regionPointsUptoRow : OpenClaim := { program := "ythajkhbeehiepaagreat", sum := "d77991ac8d1c2bfd93947dc1b76c2d06c386786609d22b942894a178ec8b4017", func := "rallentando/rallentandolaw14.RegionPoints", spec := "regionPoints", inPlace := ["math/bits.Sub64"], unfollowed := true, recurses := true, apart := false, narrowed := true }
def RegionPointsUptoSaid : Prop := regionPointsUptoRow.holds Tryz.pinned (OpenSpec.upto regionPointsSpec)

/-- 'rallentandolaw12.CoverPrunes', WHERE WHAT IT READS IS OF BULK AT MOST 1048576: true; the input reads as it did. -/
def coverPrunesUptoRow : OpenClaim := { program := "ythajkhbeehiepaagreat", sum := "d77991ac8d1c2bfd93947dc1b76c2d06c386786609d22b942894a178ec8b4017", func := "rallentando/rallentandolaw12.CoverPrunes", spec := "coverPrunes", unfollowed := true, recurses := true, apart := false, narrowed := true }
def CoverPrunesUptoSaid : Prop := coverPrunesUptoRow.holds Tryz.pinned (OpenSpec.upto coverPrunesSpec)

/-- 'rallentandolaw14.RegionLists', WHERE WHAT IT READS IS OF BULK AT MOST 1048576: true; the input reads as it did. -/
def regionListsUptoRow : OpenClaim := { program := "ythajkhbeehiepaagreat", sum := "d77991ac8d1c2bfd93947dc1b76c2d06c386786609d22b942894a178ec8b4017", func := "rallentando/rallentandolaw14.RegionLists", spec := "regionLists", inPlace := ["math/bits.Sub64"], unfollowed := true, recurses := true, apart := false, narrowed := true }
def RegionListsUptoSaid : Prop := regionListsUptoRow.holds Tryz.pinned (OpenSpec.upto regionListsSpec)

/-- 'rallentandolaw12.CoverTells', WHERE WHAT IT READS IS OF BULK AT MOST 1048576: true; the input reads as it did. -/
def coverTellsUptoRow : OpenClaim := { program := "ythajkhbeehiepaagreat", sum := "d77991ac8d1c2bfd93947dc1b76c2d06c386786609d22b942894a178ec8b4017", func := "rallentando/rallentandolaw12.CoverTells", spec := "coverTells", inPlace := ["math/bits.Sub64"], unfollowed := true, recurses := true, apart := false, narrowed := true }
def CoverTellsUptoSaid : Prop := coverTellsUptoRow.holds Tryz.pinned (OpenSpec.upto coverTellsSpec)

/-- 'rallentandolaw12.CoverLong', WHERE WHAT IT READS IS OF BULK AT MOST 1048576: true; the input reads as it did. -/
def coverLongUptoRow : OpenClaim := { program := "ythajkhbeehiepaagreat", sum := "d77991ac8d1c2bfd93947dc1b76c2d06c386786609d22b942894a178ec8b4017", func := "rallentando/rallentandolaw12.CoverLong", spec := "coverLong", inPlace := ["math/bits.Sub64"], unfollowed := true, recurses := true, apart := false, narrowed := true }
def CoverLongUptoSaid : Prop := coverLongUptoRow.holds Tryz.pinned (OpenSpec.upto coverLongSpec)

/-- 'rallentandolaw12.CoverNames', WHERE WHAT IT READS IS OF BULK AT MOST 1048576: true; the input reads as it did. -/
def coverNamesUptoRow : OpenClaim := { program := "ythajkhbeehiepaagreat", sum := "d77991ac8d1c2bfd93947dc1b76c2d06c386786609d22b942894a178ec8b4017", func := "rallentando/rallentandolaw12.CoverNames", spec := "coverNames", inPlace := ["math/bits.Sub64"], unfollowed := true, recurses := true, apart := false, narrowed := true }
def CoverNamesUptoSaid : Prop := coverNamesUptoRow.holds Tryz.pinned (OpenSpec.upto coverNamesSpec)

end Rows
end Go.Proofs.YthajkhbeehiepaaGreat
