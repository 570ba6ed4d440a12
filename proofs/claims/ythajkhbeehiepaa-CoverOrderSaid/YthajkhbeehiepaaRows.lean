/-
  No cell of these rows narrows 'for every input' (looked for: loops, veiled, ifaces, maps, wideKeys, modest, calm, conditions, laid).
  DERIVED. THE GIVEN ROWS OF THIS SEAT. 4 by the template 'for every input the law returns true; each argument reads behind the call as it read before'; 0 by the template 'total and deterministic' (their statements: YthajkhbeehiepaaTotals.lean).
  GIVEN WITH THE SEED: the statements are not yours to turn. If you find one false, say at which input.
  Laid BY PROGRAM, IN A SANDBOX (cutbox-rows.mjs): the forced cells as the released guide's own fill.sh prints them over the translation e78d8bfcf6e354b2… (all of the seat's roots in one cut). By AI agents, Wed Nov 11 2026. No macro, syntax, notation, axiom, sorry.
-/
import Derived.Test.YthajkhbeehiepaaChecked
import GoSem.Claim
import GoSem.ClaimJoined
import GoSem.ClaimMapViews
import Derived.JoinedTies
import Derived.KernelRfl
namespace Go.Proofs.Ythajkhbeehiepaa
/- THE CELL 'sum', in the pinned program and in every row, IS THE sha256 OF THE DUMP (.gsa) THAT YthajkhbeehiepaaProg.lean LOADS. Nothing in Lean hashes anything: it is a label: what it is worth is what the hold of that sum in a sandbox is worth. -/
noncomputable def Try.pinned : Pinned := { name := "ythajkhbeehiepaa", sum := "e78d8bfcf6e354b2246a6f1360b5fbe02c6118f406520d8db785698884e92665", checked := Try.checked }
namespace Rows
def none {H : Type} : Left H := { results := [], args := [] }

/-- 'rallentandolaw14.RegionNames': WHATEVER THE INPUT: true; the input reads as it did. -/
def regionNamesSpec : ChangeSpec := { name := "regionNames", fn := fun _ => fun
  | [] => { results := [.lit (.bool true)], args := [] }
  | _ => none }
def regionNamesRow : OpenClaim := { program := "ythajkhbeehiepaa", sum := "e78d8bfcf6e354b2246a6f1360b5fbe02c6118f406520d8db785698884e92665", func := "rallentando/rallentandolaw14.RegionNames", spec := "regionNames", inPlace := ["math/bits.Sub64"], unfollowed := true, recurses := true, apart := false }
def RegionNamesSaid : Prop := regionNamesRow.holds Try.pinned (OpenSpec.ofChange regionNamesSpec)

/-- ITS FALSE NEIGHBOUR: 'it returns false'. Refute it at one input. -/
def regionNamesWrong : ChangeSpec := { name := "regionNames", fn := fun _ => fun
  | [] => { results := [.lit (.bool false)], args := [] }
  | _ => none }
def RegionNamesWrongFalsely : Prop := regionNamesRow.holds Try.pinned (OpenSpec.ofChange regionNamesWrong)

/-- 'rallentandolaw14.RegionZones': WHATEVER THE INPUT: true; the input reads as it did. -/
def regionZonesSpec : ChangeSpec := { name := "regionZones", fn := fun _ => fun
  | [d1, d2, d3] => { results := [.lit (.bool true)], args := [d1, d2, d3] }
  | _ => none }
def regionZonesRow : OpenClaim := { program := "ythajkhbeehiepaa", sum := "e78d8bfcf6e354b2246a6f1360b5fbe02c6118f406520d8db785698884e92665", func := "rallentando/rallentandolaw14.RegionZones", spec := "regionZones", inPlace := ["math/bits.Sub64"], unfollowed := true, recurses := true, apart := false }
def RegionZonesSaid : Prop := regionZonesRow.holds Try.pinned (OpenSpec.ofChange regionZonesSpec)

/-- ITS FALSE NEIGHBOUR: 'it returns false'. Refute it at one input. -/
def regionZonesWrong : ChangeSpec := { name := "regionZones", fn := fun _ => fun
  | [d1, d2, d3] => { results := [.lit (.bool false)], args := [d1, d2, d3] }
  | _ => none }
def RegionZonesWrongFalsely : Prop := regionZonesRow.holds Try.pinned (OpenSpec.ofChange regionZonesWrong)

/-- 'rallentandolaw12.CoverWitness': WHATEVER THE INPUT: true; the input reads as it did. -/
def coverWitnessSpec : ChangeSpec := { name := "coverWitness", fn := fun _ => fun
  | [d1, d2, d3] => { results := [.lit (.bool true)], args := [d1, d2, d3] }
  | _ => none }
def coverWitnessRow : OpenClaim := { program := "ythajkhbeehiepaa", sum := "e78d8bfcf6e354b2246a6f1360b5fbe02c6118f406520d8db785698884e92665", func := "rallentando/rallentandolaw12.CoverWitness", spec := "coverWitness", inPlace := ["math/bits.Sub64"], unfollowed := true, recurses := true, apart := false }
def CoverWitnessSaid : Prop := coverWitnessRow.holds Try.pinned (OpenSpec.ofChange coverWitnessSpec)

/-- ITS FALSE NEIGHBOUR: 'it returns false'. Refute it at one input. -/
def coverWitnessWrong : ChangeSpec := { name := "coverWitness", fn := fun _ => fun
  | [d1, d2, d3] => { results := [.lit (.bool false)], args := [d1, d2, d3] }
  | _ => none }
def CoverWitnessWrongFalsely : Prop := coverWitnessRow.holds Try.pinned (OpenSpec.ofChange coverWitnessWrong)

/-- 'rallentandolaw12.CoverOrder': WHATEVER THE INPUT: true; the input reads as it did. -/
def coverOrderSpec : ChangeSpec := { name := "coverOrder", fn := fun _ => fun
  | [d1, d2] => { results := [.lit (.bool true)], args := [d1, d2] }
  | _ => none }
def coverOrderRow : OpenClaim := { program := "ythajkhbeehiepaa", sum := "e78d8bfcf6e354b2246a6f1360b5fbe02c6118f406520d8db785698884e92665", func := "rallentando/rallentandolaw12.CoverOrder", spec := "coverOrder", unfollowed := true, recurses := true, apart := false }
def CoverOrderSaid : Prop := coverOrderRow.holds Try.pinned (OpenSpec.ofChange coverOrderSpec)

/-- ITS FALSE NEIGHBOUR: 'it returns false'. Refute it at one input. -/
def coverOrderWrong : ChangeSpec := { name := "coverOrder", fn := fun _ => fun
  | [d1, d2] => { results := [.lit (.bool false)], args := [d1, d2] }
  | _ => none }
def CoverOrderWrongFalsely : Prop := coverOrderRow.holds Try.pinned (OpenSpec.ofChange coverOrderWrong)

/- THE SECOND FORM. 'bulk': how many values and letters a reading holds, each counted each time it is reached (what is shared counts as often as it is met; a slice's spare places count too). A statement '..UptoSaid' is the law's where the arguments, and the package variables that the reading takes, are together of bulk at most 1048576: NARROWER than '..Said'. Prove '..Said' where nothing that the law and all that it calls make is longer than what came in: it says more and counts as full. Else prove '..UptoSaid'. A law counts once. -/
mutual
def uptoBulk {H : Type} : DataW H → Nat
  | .lit (.string bytes) => bytes.length + 1
  | .lit _ => 1
  | .nil => 1
  | .ptr d => uptoBulk d + 1
  | .slice elems spare => uptoBulkAll elems + uptoBulkAll spare + 1
  | .agg parts => uptoBulkAll parts + 1
  | .iface _ d => uptoBulk d + 1
  | .map entries => uptoBulkEntries entries + 1
  | .held _ => 1
def uptoBulkAll {H : Type} : List (DataW H) → Nat
  | [] => 0
  | d :: r => uptoBulk d + uptoBulkAll r
def uptoBulkEntries {H : Type} : List (Lit × DataW H) → Nat
  | [] => 0
  | x :: r => uptoBulkEntry x + uptoBulkEntries r
def uptoBulkEntry {H : Type} : Lit × DataW H → Nat
  | (.string bytes, d) => bytes.length + uptoBulk d + 1
  | (_, d) => uptoBulk d + 1
 end
def uptoSmall : (H : Type) → List (DataW H) → Bool := fun _ ds => decide (uptoBulkAll ds ≤ 1048576)
def OpenSpec.upto (s : _root_.Go.ChangeSpec) : _root_.Go.OpenSpec := { _root_.Go.OpenSpec.ofChange s with cond := some uptoSmall }

/-- 'rallentandolaw14.RegionNames', WHERE WHAT IT READS IS OF BULK AT MOST 1048576: true; the input reads as it did. -/
def regionNamesUptoRow : OpenClaim := { program := "ythajkhbeehiepaa", sum := "e78d8bfcf6e354b2246a6f1360b5fbe02c6118f406520d8db785698884e92665", func := "rallentando/rallentandolaw14.RegionNames", spec := "regionNames", inPlace := ["math/bits.Sub64"], unfollowed := true, recurses := true, apart := false, narrowed := true }
def RegionNamesUptoSaid : Prop := regionNamesUptoRow.holds Try.pinned (OpenSpec.upto regionNamesSpec)

/-- 'rallentandolaw14.RegionZones', WHERE WHAT IT READS IS OF BULK AT MOST 1048576: true; the input reads as it did. -/
def regionZonesUptoRow : OpenClaim := { program := "ythajkhbeehiepaa", sum := "e78d8bfcf6e354b2246a6f1360b5fbe02c6118f406520d8db785698884e92665", func := "rallentando/rallentandolaw14.RegionZones", spec := "regionZones", inPlace := ["math/bits.Sub64"], unfollowed := true, recurses := true, apart := false, narrowed := true }
def RegionZonesUptoSaid : Prop := regionZonesUptoRow.holds Try.pinned (OpenSpec.upto regionZonesSpec)

/-- 'rallentandolaw12.CoverWitness', WHERE WHAT IT READS IS OF BULK AT MOST 1048576: true; the input reads as it did. -/
def coverWitnessUptoRow : OpenClaim := { program := "ythajkhbeehiepaa", sum := "e78d8bfcf6e354b2246a6f1360b5fbe02c6118f406520d8db785698884e92665", func := "rallentando/rallentandolaw12.CoverWitness", spec := "coverWitness", inPlace := ["math/bits.Sub64"], unfollowed := true, recurses := true, apart := false, narrowed := true }
def CoverWitnessUptoSaid : Prop := coverWitnessUptoRow.holds Try.pinned (OpenSpec.upto coverWitnessSpec)

/-- 'rallentandolaw12.CoverOrder', WHERE WHAT IT READS IS OF BULK AT MOST 1048576: true; the input reads as it did. -/
def coverOrderUptoRow : OpenClaim := { program := "ythajkhbeehiepaa", sum := "e78d8bfcf6e354b2246a6f1360b5fbe02c6118f406520d8db785698884e92665", func := "rallentando/rallentandolaw12.CoverOrder", spec := "coverOrder", unfollowed := true, recurses := true, apart := false, narrowed := true }
def CoverOrderUptoSaid : Prop := coverOrderUptoRow.holds Try.pinned (OpenSpec.upto coverOrderSpec)

end Rows
end Go.Proofs.Ythajkhbeehiepaa
