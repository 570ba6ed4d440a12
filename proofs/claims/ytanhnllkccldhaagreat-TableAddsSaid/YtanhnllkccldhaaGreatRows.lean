/-
  No cell of these rows narrows 'for every input' (looked for: loops, veiled, ifaces, maps, wideKeys, modest, calm, conditions, laid).
  DERIVED. THE GIVEN ROWS OF THIS SEAT. 6 by the template 'for every input the law returns true; each argument reads behind the call as it read before'; 0 by the template 'total and deterministic' (their statements: YtanhnllkccldhaaGreatTotals.lean).
  GIVEN WITH THE SEED: the statements are not yours to turn. If you find one false, say at which input.
  Laid BY PROGRAM, IN A SANDBOX (cutbox-rows.mjs): the forced cells as the released guide's own fill.sh prints them over the translation 75cf2f3db6905aca… (all of the seat's roots in one cut). By AI agents, Wed Nov 11 2026. No macro, syntax, notation, axiom, sorry.
-/
import Derived.Test.YtanhnllkccldhaaGreatChecked
import GoSem.Claim
import GoSem.ClaimJoined
import GoSem.ClaimMapViews
import Derived.JoinedTies
import Derived.KernelRfl
namespace Go.Proofs.YtanhnllkccldhaaGreat
/- THE CELL 'sum', in the pinned program and in every row, IS THE sha256 OF THE DUMP (.gsa) THAT YtanhnllkccldhaaGreatProg.lean LOADS. Nothing in Lean hashes anything: it is a label: what it is worth is what the hold of that sum in a sandbox is worth. -/
noncomputable def Tryz.pinned : Pinned := { name := "ytanhnllkccldhaagreat", sum := "75cf2f3db6905acae220b2c7a2b22115a8ba5c9ebcf0454e3b7e381137ae3ff5", checked := Tryz.checked }
namespace Rows
def none {H : Type} : Left H := { results := [], args := [] }

/-- 'rallentandolaw24.TableCats': WHATEVER THE INPUT: true; the input reads as it did. -/
def tableCatsSpec : ChangeSpec := { name := "tableCats", fn := fun _ => fun
  | [d1, d2, d3, d4, d5] => { results := [.lit (.bool true)], args := [d1, d2, d3, d4, d5] }
  | _ => none }
def tableCatsRow : OpenClaim := { program := "ytanhnllkccldhaagreat", sum := "75cf2f3db6905acae220b2c7a2b22115a8ba5c9ebcf0454e3b7e381137ae3ff5", func := "rallentando/rallentandolaw24.TableCats", spec := "tableCats", unfollowed := true, recurses := true, apart := false }
def TableCatsSaid : Prop := tableCatsRow.holds Tryz.pinned (OpenSpec.ofChange tableCatsSpec)

/-- ITS FALSE NEIGHBOUR: 'it returns false'. Refute it at one input. -/
def tableCatsWrong : ChangeSpec := { name := "tableCats", fn := fun _ => fun
  | [d1, d2, d3, d4, d5] => { results := [.lit (.bool false)], args := [d1, d2, d3, d4, d5] }
  | _ => none }
def TableCatsWrongFalsely : Prop := tableCatsRow.holds Tryz.pinned (OpenSpec.ofChange tableCatsWrong)

/-- 'rallentandolaw24.TableAdds': WHATEVER THE INPUT: true; the input reads as it did. -/
def tableAddsSpec : ChangeSpec := { name := "tableAdds", fn := fun _ => fun
  | [d1, d2, d3] => { results := [.lit (.bool true)], args := [d1, d2, d3] }
  | _ => none }
def tableAddsRow : OpenClaim := { program := "ytanhnllkccldhaagreat", sum := "75cf2f3db6905acae220b2c7a2b22115a8ba5c9ebcf0454e3b7e381137ae3ff5", func := "rallentando/rallentandolaw24.TableAdds", spec := "tableAdds", unfollowed := true, recurses := true, apart := false }
def TableAddsSaid : Prop := tableAddsRow.holds Tryz.pinned (OpenSpec.ofChange tableAddsSpec)

/-- ITS FALSE NEIGHBOUR: 'it returns false'. Refute it at one input. -/
def tableAddsWrong : ChangeSpec := { name := "tableAdds", fn := fun _ => fun
  | [d1, d2, d3] => { results := [.lit (.bool false)], args := [d1, d2, d3] }
  | _ => none }
def TableAddsWrongFalsely : Prop := tableAddsRow.holds Tryz.pinned (OpenSpec.ofChange tableAddsWrong)

/-- 'rallentandolaw25.CloseDoes': WHATEVER THE INPUT: true; the input reads as it did. -/
def closeDoesSpec : ChangeSpec := { name := "closeDoes", fn := fun _ => fun
  | [d1, d2, d3] => { results := [.lit (.bool true)], args := [d1, d2, d3] }
  | _ => none }
def closeDoesRow : OpenClaim := { program := "ytanhnllkccldhaagreat", sum := "75cf2f3db6905acae220b2c7a2b22115a8ba5c9ebcf0454e3b7e381137ae3ff5", func := "rallentando/rallentandolaw25.CloseDoes", spec := "closeDoes", unfollowed := true, recurses := true, apart := false }
def CloseDoesSaid : Prop := closeDoesRow.holds Tryz.pinned (OpenSpec.ofChange closeDoesSpec)

/-- ITS FALSE NEIGHBOUR: 'it returns false'. Refute it at one input. -/
def closeDoesWrong : ChangeSpec := { name := "closeDoes", fn := fun _ => fun
  | [d1, d2, d3] => { results := [.lit (.bool false)], args := [d1, d2, d3] }
  | _ => none }
def CloseDoesWrongFalsely : Prop := closeDoesRow.holds Tryz.pinned (OpenSpec.ofChange closeDoesWrong)

/-- 'rallentandolaw24.TableNews': WHATEVER THE INPUT: true; the input reads as it did. -/
def tableNewsSpec : ChangeSpec := { name := "tableNews", fn := fun _ => fun
  | [d1, d2, d3, d4] => { results := [.lit (.bool true)], args := [d1, d2, d3, d4] }
  | _ => none }
def tableNewsRow : OpenClaim := { program := "ytanhnllkccldhaagreat", sum := "75cf2f3db6905acae220b2c7a2b22115a8ba5c9ebcf0454e3b7e381137ae3ff5", func := "rallentando/rallentandolaw24.TableNews", spec := "tableNews", unfollowed := true, recurses := true, apart := false }
def TableNewsSaid : Prop := tableNewsRow.holds Tryz.pinned (OpenSpec.ofChange tableNewsSpec)

/-- ITS FALSE NEIGHBOUR: 'it returns false'. Refute it at one input. -/
def tableNewsWrong : ChangeSpec := { name := "tableNews", fn := fun _ => fun
  | [d1, d2, d3, d4] => { results := [.lit (.bool false)], args := [d1, d2, d3, d4] }
  | _ => none }
def TableNewsWrongFalsely : Prop := tableNewsRow.holds Tryz.pinned (OpenSpec.ofChange tableNewsWrong)

/-- 'rallentandolaw24.TableNames': WHATEVER THE INPUT: true; the input reads as it did. -/
def tableNamesSpec : ChangeSpec := { name := "tableNames", fn := fun _ => fun
  | [] => { results := [.lit (.bool true)], args := [] }
  | _ => none }
def tableNamesRow : OpenClaim := { program := "ytanhnllkccldhaagreat", sum := "75cf2f3db6905acae220b2c7a2b22115a8ba5c9ebcf0454e3b7e381137ae3ff5", func := "rallentando/rallentandolaw24.TableNames", spec := "tableNames", unfollowed := true, recurses := true, apart := false }
def TableNamesSaid : Prop := tableNamesRow.holds Tryz.pinned (OpenSpec.ofChange tableNamesSpec)

/-- ITS FALSE NEIGHBOUR: 'it returns false'. Refute it at one input. -/
def tableNamesWrong : ChangeSpec := { name := "tableNames", fn := fun _ => fun
  | [] => { results := [.lit (.bool false)], args := [] }
  | _ => none }
def TableNamesWrongFalsely : Prop := tableNamesRow.holds Tryz.pinned (OpenSpec.ofChange tableNamesWrong)

/-- 'rallentandolaw24.TablePoints': WHATEVER THE INPUT: true; the input reads as it did. -/
def tablePointsSpec : ChangeSpec := { name := "tablePoints", fn := fun _ => fun
  | [d1, d2, d3, d4, d5] => { results := [.lit (.bool true)], args := [d1, d2, d3, d4, d5] }
  | _ => none }
def tablePointsRow : OpenClaim := { program := "ytanhnllkccldhaagreat", sum := "75cf2f3db6905acae220b2c7a2b22115a8ba5c9ebcf0454e3b7e381137ae3ff5", func := "rallentando/rallentandolaw24.TablePoints", spec := "tablePoints", unfollowed := true, recurses := true, apart := false }
def TablePointsSaid : Prop := tablePointsRow.holds Tryz.pinned (OpenSpec.ofChange tablePointsSpec)

/-- ITS FALSE NEIGHBOUR: 'it returns false'. Refute it at one input. -/
def tablePointsWrong : ChangeSpec := { name := "tablePoints", fn := fun _ => fun
  | [d1, d2, d3, d4, d5] => { results := [.lit (.bool false)], args := [d1, d2, d3, d4, d5] }
  | _ => none }
def TablePointsWrongFalsely : Prop := tablePointsRow.holds Tryz.pinned (OpenSpec.ofChange tablePointsWrong)

/- THE SECOND FORM. 'bulk': how many values and letters a reading holds, each counted each time it is reached (what is shared counts as often as it is met; a slice's spare places count too). A statement '..UptoSaid' is the law's where the arguments, and the package variables that the reading takes, are together of bulk at most 1048576: NARROWER than '..Said'. Prove '..Said' where nothing that the law and all that it calls make is longer than what came in: it says more and counts as full. Else prove '..UptoSaid'. A law counts once. -/
mutual
def uptoBulk {H : Type} : DataW H → Nat
  | .lit (.string bytes) => bytes.length + 1
  | .lit _ => 1
  | .nil => 1
  | .ptr d => uptoBulk d + 1
  | .slice elems spare => uptoBulkAll elems + uptoBulkAll spare + 1
  | .agg parts => uptoBulkAll parts + 1
  | .iface _ d => uptoBulk d + 1
  | .map entries => uptoBulkEntries entries + 1
  | .held _ => 1
def uptoBulkAll {H : Type} : List (DataW H) → Nat
  | [] => 0
  | d :: r => uptoBulk d + uptoBulkAll r
def uptoBulkEntries {H : Type} : List (Lit × DataW H) → Nat
  | [] => 0
  | x :: r => uptoBulkEntry x + uptoBulkEntries r
def uptoBulkEntry {H : Type} : Lit × DataW H → Nat
  | (.string bytes, d) => bytes.length + uptoBulk d + 1
  | (_, d) => uptoBulk d + 1
 end
def uptoSmall : (H : Type) → List (DataW H) → Bool := fun _ ds => decide (uptoBulkAll ds ≤ 1048576)
def OpenSpec.upto (s : _root_.Go.ChangeSpec) : _root_.Go.OpenSpec := { _root_.Go.OpenSpec.ofChange s with cond := some uptoSmall }

/-- 'rallentandolaw24.TableCats', WHERE WHAT IT READS IS OF BULK AT MOST 1048576: true; the input reads as it did. -/
def tableCatsUptoRow : OpenClaim := { program := "ytanhnllkccldhaagreat", sum := "75cf2f3db6905acae220b2c7a2b22115a8ba5c9ebcf0454e3b7e381137ae3ff5", func := "rallentando/rallentandolaw24.TableCats", spec := "tableCats", unfollowed := true, recurses := true, apart := false, narrowed := true }
def TableCatsUptoSaid : Prop := tableCatsUptoRow.holds Tryz.pinned (OpenSpec.upto tableCatsSpec)

/-- 'rallentandolaw24.TableAdds', WHERE WHAT IT READS IS OF BULK AT MOST 1048576: true; the input reads as it did. -/
def tableAddsUptoRow : OpenClaim := { program := "ytanhnllkccldhaagreat", sum := "75cf2f3db6905acae220b2c7a2b22115a8ba5c9ebcf0454e3b7e381137ae3ff5", func := "rallentando/rallentandolaw24.TableAdds", spec := "tableAdds", unfollowed := true, recurses := true, apart := false, narrowed := true }
def TableAddsUptoSaid : Prop := tableAddsUptoRow.holds Tryz.pinned (OpenSpec.upto tableAddsSpec)

/-- 'rallentandolaw25.CloseDoes', WHERE WHAT IT READS IS OF BULK AT MOST 1048576: true; the input reads as it did. -/
def closeDoesUptoRow : OpenClaim := { program := "ytanhnllkccldhaagreat", sum := "75cf2f3db6905acae220b2c7a2b22115a8ba5c9ebcf0454e3b7e381137ae3ff5", func := "rallentando/rallentandolaw25.CloseDoes", spec := "closeDoes", unfollowed := true, recurses := true, apart := false, narrowed := true }
def CloseDoesUptoSaid : Prop := closeDoesUptoRow.holds Tryz.pinned (OpenSpec.upto closeDoesSpec)

/-- 'rallentandolaw24.TableNews', WHERE WHAT IT READS IS OF BULK AT MOST 1048576: true; the input reads as it did. -/
def tableNewsUptoRow : OpenClaim := { program := "ytanhnllkccldhaagreat", sum := "75cf2f3db6905acae220b2c7a2b22115a8ba5c9ebcf0454e3b7e381137ae3ff5", func := "rallentando/rallentandolaw24.TableNews", spec := "tableNews", unfollowed := true, recurses := true, apart := false, narrowed := true }
def TableNewsUptoSaid : Prop := tableNewsUptoRow.holds Tryz.pinned (OpenSpec.upto tableNewsSpec)

/-- 'rallentandolaw24.TableNames', WHERE WHAT IT READS IS OF BULK AT MOST 1048576: true; the input reads as it did. -/
def tableNamesUptoRow : OpenClaim := { program := "ytanhnllkccldhaagreat", sum := "75cf2f3db6905acae220b2c7a2b22115a8ba5c9ebcf0454e3b7e381137ae3ff5", func := "rallentando/rallentandolaw24.TableNames", spec := "tableNames", unfollowed := true, recurses := true, apart := false, narrowed := true }
def TableNamesUptoSaid : Prop := tableNamesUptoRow.holds Tryz.pinned (OpenSpec.upto tableNamesSpec)

/-- 'rallentandolaw24.TablePoints', WHERE WHAT IT READS IS OF BULK AT MOST 1048576: true; the input reads as it did. -/
def tablePointsUptoRow : OpenClaim := { program := "ytanhnllkccldhaagreat", sum := "75cf2f3db6905acae220b2c7a2b22115a8ba5c9ebcf0454e3b7e381137ae3ff5", func := "rallentando/rallentandolaw24.TablePoints", spec := "tablePoints", unfollowed := true, recurses := true, apart := false, narrowed := true }
def TablePointsUptoSaid : Prop := tablePointsUptoRow.holds Tryz.pinned (OpenSpec.upto tablePointsSpec)

end Rows
end Go.Proofs.YtanhnllkccldhaaGreat
