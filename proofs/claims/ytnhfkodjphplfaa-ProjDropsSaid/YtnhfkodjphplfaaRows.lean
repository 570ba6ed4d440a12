/-
  No cell of these rows narrows 'for every input' (looked for: loops, veiled, ifaces, maps, wideKeys, modest, calm, conditions, laid).
  DERIVED. THE GIVEN ROWS OF THIS SEAT. 6 by the template 'for every input the law returns true; each argument reads behind the call as it read before'; 0 by the template 'total and deterministic' (their statements: YtnhfkodjphplfaaTotals.lean).
  GIVEN WITH THE SEED: the statements are not yours to turn. If you find one false, say at which input.
  Laid BY PROGRAM, IN A SANDBOX (cutbox-rows.mjs): the forced cells as the released guide's own fill.sh prints them over the translation b302ac67bcee5256… (all of the seat's roots in one cut). By AI agents, Wed Nov 11 2026. No macro, syntax, notation, axiom, sorry.
-/
import Derived.Test.YtnhfkodjphplfaaChecked
import GoSem.Claim
import GoSem.ClaimJoined
import GoSem.ClaimMapViews
import Derived.JoinedTies
import Derived.KernelRfl
namespace Go.Proofs.Ytnhfkodjphplfaa
/- THE CELL 'sum', in the pinned program and in every row, IS THE sha256 OF THE DUMP (.gsa) THAT YtnhfkodjphplfaaProg.lean LOADS. Nothing in Lean hashes anything: it is a label: what it is worth is what the hold of that sum in a sandbox is worth. -/
noncomputable def Try.pinned : Pinned := { name := "ytnhfkodjphplfaa", sum := "b302ac67bcee52563879b4b3faba15a6d90d189a4b4cbe77e200f4972ae73f3e", checked := Try.checked }
namespace Rows
def none {H : Type} : Left H := { results := [], args := [] }

/-- 'rallentandolaw07.ProjTwo': WHATEVER THE INPUT: true; the input reads as it did. -/
def projTwoSpec : ChangeSpec := { name := "projTwo", fn := fun _ => fun
  | [d1, d2, d3] => { results := [.lit (.bool true)], args := [d1, d2, d3] }
  | _ => none }
def projTwoRow : OpenClaim := { program := "ytnhfkodjphplfaa", sum := "b302ac67bcee52563879b4b3faba15a6d90d189a4b4cbe77e200f4972ae73f3e", func := "rallentando/rallentandolaw07.ProjTwo", spec := "projTwo", unfollowed := true, recurses := true, apart := false }
def ProjTwoSaid : Prop := projTwoRow.holds Try.pinned (OpenSpec.ofChange projTwoSpec)

/-- ITS FALSE NEIGHBOUR: 'it returns false'. Refute it at one input. -/
def projTwoWrong : ChangeSpec := { name := "projTwo", fn := fun _ => fun
  | [d1, d2, d3] => { results := [.lit (.bool false)], args := [d1, d2, d3] }
  | _ => none }
def ProjTwoWrongFalsely : Prop := projTwoRow.holds Try.pinned (OpenSpec.ofChange projTwoWrong)

/-- 'rallentandolaw07.ProjGrows': WHATEVER THE INPUT: true; the input reads as it did. -/
def projGrowsSpec : ChangeSpec := { name := "projGrows", fn := fun _ => fun
  | [d1, d2, d3] => { results := [.lit (.bool true)], args := [d1, d2, d3] }
  | _ => none }
def projGrowsRow : OpenClaim := { program := "ytnhfkodjphplfaa", sum := "b302ac67bcee52563879b4b3faba15a6d90d189a4b4cbe77e200f4972ae73f3e", func := "rallentando/rallentandolaw07.ProjGrows", spec := "projGrows", unfollowed := true, recurses := true, apart := false }
def ProjGrowsSaid : Prop := projGrowsRow.holds Try.pinned (OpenSpec.ofChange projGrowsSpec)

/-- ITS FALSE NEIGHBOUR: 'it returns false'. Refute it at one input. -/
def projGrowsWrong : ChangeSpec := { name := "projGrows", fn := fun _ => fun
  | [d1, d2, d3] => { results := [.lit (.bool false)], args := [d1, d2, d3] }
  | _ => none }
def ProjGrowsWrongFalsely : Prop := projGrowsRow.holds Try.pinned (OpenSpec.ofChange projGrowsWrong)

/-- 'rallentandolaw07.ProjNames': WHATEVER THE INPUT: true; the input reads as it did. -/
def projNamesSpec : ChangeSpec := { name := "projNames", fn := fun _ => fun
  | [] => { results := [.lit (.bool true)], args := [] }
  | _ => none }
def projNamesRow : OpenClaim := { program := "ytnhfkodjphplfaa", sum := "b302ac67bcee52563879b4b3faba15a6d90d189a4b4cbe77e200f4972ae73f3e", func := "rallentando/rallentandolaw07.ProjNames", spec := "projNames", unfollowed := true, recurses := true, apart := false }
def ProjNamesSaid : Prop := projNamesRow.holds Try.pinned (OpenSpec.ofChange projNamesSpec)

/-- ITS FALSE NEIGHBOUR: 'it returns false'. Refute it at one input. -/
def projNamesWrong : ChangeSpec := { name := "projNames", fn := fun _ => fun
  | [] => { results := [.lit (.bool false)], args := [] }
  | _ => none }
def ProjNamesWrongFalsely : Prop := projNamesRow.holds Try.pinned (OpenSpec.ofChange projNamesWrong)

/-- 'rallentandolaw07.ProjTells': WHATEVER THE INPUT: true; the input reads as it did. -/
def projTellsSpec : ChangeSpec := { name := "projTells", fn := fun _ => fun
  | [d1, d2, d3] => { results := [.lit (.bool true)], args := [d1, d2, d3] }
  | _ => none }
def projTellsRow : OpenClaim := { program := "ytnhfkodjphplfaa", sum := "b302ac67bcee52563879b4b3faba15a6d90d189a4b4cbe77e200f4972ae73f3e", func := "rallentando/rallentandolaw07.ProjTells", spec := "projTells", unfollowed := true, recurses := true, apart := false }
def ProjTellsSaid : Prop := projTellsRow.holds Try.pinned (OpenSpec.ofChange projTellsSpec)

/-- ITS FALSE NEIGHBOUR: 'it returns false'. Refute it at one input. -/
def projTellsWrong : ChangeSpec := { name := "projTells", fn := fun _ => fun
  | [d1, d2, d3] => { results := [.lit (.bool false)], args := [d1, d2, d3] }
  | _ => none }
def ProjTellsWrongFalsely : Prop := projTellsRow.holds Try.pinned (OpenSpec.ofChange projTellsWrong)

/-- 'rallentandolaw07.ProjMoves': WHATEVER THE INPUT: true; the input reads as it did. -/
def projMovesSpec : ChangeSpec := { name := "projMoves", fn := fun _ => fun
  | [d1, d2, d3] => { results := [.lit (.bool true)], args := [d1, d2, d3] }
  | _ => none }
def projMovesRow : OpenClaim := { program := "ytnhfkodjphplfaa", sum := "b302ac67bcee52563879b4b3faba15a6d90d189a4b4cbe77e200f4972ae73f3e", func := "rallentando/rallentandolaw07.ProjMoves", spec := "projMoves", unfollowed := true, recurses := true, apart := false }
def ProjMovesSaid : Prop := projMovesRow.holds Try.pinned (OpenSpec.ofChange projMovesSpec)

/-- ITS FALSE NEIGHBOUR: 'it returns false'. Refute it at one input. -/
def projMovesWrong : ChangeSpec := { name := "projMoves", fn := fun _ => fun
  | [d1, d2, d3] => { results := [.lit (.bool false)], args := [d1, d2, d3] }
  | _ => none }
def ProjMovesWrongFalsely : Prop := projMovesRow.holds Try.pinned (OpenSpec.ofChange projMovesWrong)

/-- 'rallentandolaw07.ProjDrops': WHATEVER THE INPUT: true; the input reads as it did. -/
def projDropsSpec : ChangeSpec := { name := "projDrops", fn := fun _ => fun
  | [d1, d2, d3] => { results := [.lit (.bool true)], args := [d1, d2, d3] }
  | _ => none }
def projDropsRow : OpenClaim := { program := "ytnhfkodjphplfaa", sum := "b302ac67bcee52563879b4b3faba15a6d90d189a4b4cbe77e200f4972ae73f3e", func := "rallentando/rallentandolaw07.ProjDrops", spec := "projDrops", inPlace := ["math/bits.Sub64"], unfollowed := true, recurses := true, apart := false }
def ProjDropsSaid : Prop := projDropsRow.holds Try.pinned (OpenSpec.ofChange projDropsSpec)

/-- ITS FALSE NEIGHBOUR: 'it returns false'. Refute it at one input. -/
def projDropsWrong : ChangeSpec := { name := "projDrops", fn := fun _ => fun
  | [d1, d2, d3] => { results := [.lit (.bool false)], args := [d1, d2, d3] }
  | _ => none }
def ProjDropsWrongFalsely : Prop := projDropsRow.holds Try.pinned (OpenSpec.ofChange projDropsWrong)

/- THE SECOND FORM. 'bulk': how many values and letters a reading holds, each counted each time it is reached (what is shared counts as often as it is met; a slice's spare places count too). A statement '..UptoSaid' is the law's where the arguments, and the package variables that the reading takes, are together of bulk at most 1048576: NARROWER than '..Said'. Prove '..Said' where nothing that the law and all that it calls make is longer than what came in: it says more and counts as full. Else prove '..UptoSaid'. A law counts once. -/
mutual
def uptoBulk {H : Type} : DataW H → Nat
  | .lit (.string bytes) => bytes.length + 1
  | .lit _ => 1
  | .nil => 1
  | .ptr d => uptoBulk d + 1
  | .slice elems spare => uptoBulkAll elems + uptoBulkAll spare + 1
  | .agg parts => uptoBulkAll parts + 1
  | .iface _ d => uptoBulk d + 1
  | .map entries => uptoBulkEntries entries + 1
  | .held _ => 1
def uptoBulkAll {H : Type} : List (DataW H) → Nat
  | [] => 0
  | d :: r => uptoBulk d + uptoBulkAll r
def uptoBulkEntries {H : Type} : List (Lit × DataW H) → Nat
  | [] => 0
  | x :: r => uptoBulkEntry x + uptoBulkEntries r
def uptoBulkEntry {H : Type} : Lit × DataW H → Nat
  | (.string bytes, d) => bytes.length + uptoBulk d + 1
  | (_, d) => uptoBulk d + 1
 end
def uptoSmall : (H : Type) → List (DataW H) → Bool := fun _ ds => decide (uptoBulkAll ds ≤ 1048576)
def OpenSpec.upto (s : _root_.Go.ChangeSpec) : _root_.Go.OpenSpec := { _root_.Go.OpenSpec.ofChange s with cond := some uptoSmall }

/-- 'rallentandolaw07.ProjTwo', WHERE WHAT IT READS IS OF BULK AT MOST 1048576: true; the input reads as it did. -/
def projTwoUptoRow : OpenClaim := { program := "ytnhfkodjphplfaa", sum := "b302ac67bcee52563879b4b3faba15a6d90d189a4b4cbe77e200f4972ae73f3e", func := "rallentando/rallentandolaw07.ProjTwo", spec := "projTwo", unfollowed := true, recurses := true, apart := false, narrowed := true }
def ProjTwoUptoSaid : Prop := projTwoUptoRow.holds Try.pinned (OpenSpec.upto projTwoSpec)

/-- 'rallentandolaw07.ProjGrows', WHERE WHAT IT READS IS OF BULK AT MOST 1048576: true; the input reads as it did. -/
def projGrowsUptoRow : OpenClaim := { program := "ytnhfkodjphplfaa", sum := "b302ac67bcee52563879b4b3faba15a6d90d189a4b4cbe77e200f4972ae73f3e", func := "rallentando/rallentandolaw07.ProjGrows", spec := "projGrows", unfollowed := true, recurses := true, apart := false, narrowed := true }
def ProjGrowsUptoSaid : Prop := projGrowsUptoRow.holds Try.pinned (OpenSpec.upto projGrowsSpec)

/-- 'rallentandolaw07.ProjNames', WHERE WHAT IT READS IS OF BULK AT MOST 1048576: true; the input reads as it did. -/
def projNamesUptoRow : OpenClaim := { program := "ytnhfkodjphplfaa", sum := "b302ac67bcee52563879b4b3faba15a6d90d189a4b4cbe77e200f4972ae73f3e", func := "rallentando/rallentandolaw07.ProjNames", spec := "projNames", unfollowed := true, recurses := true, apart := false, narrowed := true }
def ProjNamesUptoSaid : Prop := projNamesUptoRow.holds Try.pinned (OpenSpec.upto projNamesSpec)

/-- 'rallentandolaw07.ProjTells', WHERE WHAT IT READS IS OF BULK AT MOST 1048576: true; the input reads as it did. -/
def projTellsUptoRow : OpenClaim := { program := "ytnhfkodjphplfaa", sum := "b302ac67bcee52563879b4b3faba15a6d90d189a4b4cbe77e200f4972ae73f3e", func := "rallentando/rallentandolaw07.ProjTells", spec := "projTells", unfollowed := true, recurses := true, apart := false, narrowed := true }
def ProjTellsUptoSaid : Prop := projTellsUptoRow.holds Try.pinned (OpenSpec.upto projTellsSpec)

/-- 'rallentandolaw07.ProjMoves', WHERE WHAT IT READS IS OF BULK AT MOST 1048576: true; the input reads as it did. -/
def projMovesUptoRow : OpenClaim := { program := "ytnhfkodjphplfaa", sum := "b302ac67bcee52563879b4b3faba15a6d90d189a4b4cbe77e200f4972ae73f3e", func := "rallentando/rallentandolaw07.ProjMoves", spec := "projMoves", unfollowed := true, recurses := true, apart := false, narrowed := true }
def ProjMovesUptoSaid : Prop := projMovesUptoRow.holds Try.pinned (OpenSpec.upto projMovesSpec)

/-- 'rallentandolaw07.ProjDrops', WHERE WHAT IT READS IS OF BULK AT MOST 1048576: true; the input reads as it did. -/
def projDropsUptoRow : OpenClaim := { program := "ytnhfkodjphplfaa", sum := "b302ac67bcee52563879b4b3faba15a6d90d189a4b4cbe77e200f4972ae73f3e", func := "rallentando/rallentandolaw07.ProjDrops", spec := "projDrops", inPlace := ["math/bits.Sub64"], unfollowed := true, recurses := true, apart := false, narrowed := true }
def ProjDropsUptoSaid : Prop := projDropsUptoRow.holds Try.pinned (OpenSpec.upto projDropsSpec)

end Rows
end Go.Proofs.Ytnhfkodjphplfaa
