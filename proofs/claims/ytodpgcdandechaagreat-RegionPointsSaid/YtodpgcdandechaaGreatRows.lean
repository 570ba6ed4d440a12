/-
  No cell of these rows narrows 'for every input' (looked for: loops, veiled, ifaces, maps, wideKeys, modest, calm, conditions, laid).
  DERIVED. THE GIVEN ROWS OF THIS SEAT. 5 by the template 'for every input the law returns true; each argument reads behind the call as it read before'; 0 by the template 'total and deterministic' (their statements: YtodpgcdandechaaGreatTotals.lean).
  GIVEN WITH THE SEED: the statements are not yours to turn. If you find one false, say at which input.
  Laid BY PROGRAM, IN A SANDBOX (cutbox-rows.mjs): the forced cells as the released guide's own fill.sh prints them over the translation 781a8facb3358db1… (all of the seat's roots in one cut). By AI agents, Wed Nov 11 2026. No macro, syntax, notation, axiom, sorry.
-/
import Derived.Test.YtodpgcdandechaaGreatChecked
import GoSem.Claim
import GoSem.ClaimJoined
import GoSem.ClaimMapViews
import Derived.JoinedTies
import Derived.KernelRfl
namespace Go.Proofs.YtodpgcdandechaaGreat
/- THE CELL 'sum', in the pinned program and in every row, IS THE sha256 OF THE DUMP (.gsa) THAT YtodpgcdandechaaGreatProg.lean LOADS. Nothing in Lean hashes anything: it is a label: what it is worth is what the hold of that sum in a sandbox is worth. -/
noncomputable def Tryz.pinned : Pinned := { name := "ytodpgcdandechaagreat", sum := "781a8facb3358db16986cab08db32be979319c6c8c81684e7bcd383d10850777", checked := Tryz.checked }
namespace Rows
def none {H : Type} : Left H := { results := [], args := [] }

/-- 'rallentandolaw14.RegionTells': WHATEVER THE INPUT: true; the input reads as it did. -/
def regionTellsSpec : ChangeSpec := { name := "regionTells", fn := fun _ => fun
  | [d1, d2, d3] => { results := [.lit (.bool true)], args := [d1, d2, d3] }
  | _ => none }
def regionTellsRow : OpenClaim := { program := "ytodpgcdandechaagreat", sum := "781a8facb3358db16986cab08db32be979319c6c8c81684e7bcd383d10850777", func := "rallentando/rallentandolaw14.RegionTells", spec := "regionTells", inPlace := ["math/bits.Sub64"], unfollowed := true, recurses := true, apart := false }
def RegionTellsSaid : Prop := regionTellsRow.holds Tryz.pinned (OpenSpec.ofChange regionTellsSpec)

/-- ITS FALSE NEIGHBOUR: 'it returns false'. Refute it at one input. -/
def regionTellsWrong : ChangeSpec := { name := "regionTells", fn := fun _ => fun
  | [d1, d2, d3] => { results := [.lit (.bool false)], args := [d1, d2, d3] }
  | _ => none }
def RegionTellsWrongFalsely : Prop := regionTellsRow.holds Tryz.pinned (OpenSpec.ofChange regionTellsWrong)

/-- 'rallentandolaw14.RegionPoints': WHATEVER THE INPUT: true; the input reads as it did. -/
def regionPointsSpec : ChangeSpec := { name := "regionPoints", fn := fun _ => fun
  | [d1, d2, d3] => { results := [.lit (.bool true)], args := [d1, d2, d3] }
  | _ => none }
def regionPointsRow : OpenClaim := { program := "ytodpgcdandechaagreat", sum := "781a8facb3358db16986cab08db32be979319c6c8c81684e7bcd383d10850777", func := "rallentando/rallentandolaw14.RegionPoints", spec := "regionPoints", inPlace := ["math/bits.Sub64"], unfollowed := true, recurses := true, apart := false }
def RegionPointsSaid : Prop := regionPointsRow.holds Tryz.pinned (OpenSpec.ofChange regionPointsSpec)

/-- ITS FALSE NEIGHBOUR: 'it returns false'. Refute it at one input. -/
def regionPointsWrong : ChangeSpec := { name := "regionPoints", fn := fun _ => fun
  | [d1, d2, d3] => { results := [.lit (.bool false)], args := [d1, d2, d3] }
  | _ => none }
def RegionPointsWrongFalsely : Prop := regionPointsRow.holds Tryz.pinned (OpenSpec.ofChange regionPointsWrong)

/-- 'rallentandolaw14.RegionLists': WHATEVER THE INPUT: true; the input reads as it did. -/
def regionListsSpec : ChangeSpec := { name := "regionLists", fn := fun _ => fun
  | [d1, d2, d3, d4, d5, d6, d7] => { results := [.lit (.bool true)], args := [d1, d2, d3, d4, d5, d6, d7] }
  | _ => none }
def regionListsRow : OpenClaim := { program := "ytodpgcdandechaagreat", sum := "781a8facb3358db16986cab08db32be979319c6c8c81684e7bcd383d10850777", func := "rallentando/rallentandolaw14.RegionLists", spec := "regionLists", inPlace := ["math/bits.Sub64"], unfollowed := true, recurses := true, apart := false }
def RegionListsSaid : Prop := regionListsRow.holds Tryz.pinned (OpenSpec.ofChange regionListsSpec)

/-- ITS FALSE NEIGHBOUR: 'it returns false'. Refute it at one input. -/
def regionListsWrong : ChangeSpec := { name := "regionLists", fn := fun _ => fun
  | [d1, d2, d3, d4, d5, d6, d7] => { results := [.lit (.bool false)], args := [d1, d2, d3, d4, d5, d6, d7] }
  | _ => none }
def RegionListsWrongFalsely : Prop := regionListsRow.holds Tryz.pinned (OpenSpec.ofChange regionListsWrong)

/-- 'rallentandolaw13.ZsetTells': WHATEVER THE INPUT: true; the input reads as it did. -/
def zsetTellsSpec : ChangeSpec := { name := "zsetTells", fn := fun _ => fun
  | [d1, d2] => { results := [.lit (.bool true)], args := [d1, d2] }
  | _ => none }
def zsetTellsRow : OpenClaim := { program := "ytodpgcdandechaagreat", sum := "781a8facb3358db16986cab08db32be979319c6c8c81684e7bcd383d10850777", func := "rallentando/rallentandolaw13.ZsetTells", spec := "zsetTells", unfollowed := true, recurses := true, apart := false }
def ZsetTellsSaid : Prop := zsetTellsRow.holds Tryz.pinned (OpenSpec.ofChange zsetTellsSpec)

/-- ITS FALSE NEIGHBOUR: 'it returns false'. Refute it at one input. -/
def zsetTellsWrong : ChangeSpec := { name := "zsetTells", fn := fun _ => fun
  | [d1, d2] => { results := [.lit (.bool false)], args := [d1, d2] }
  | _ => none }
def ZsetTellsWrongFalsely : Prop := zsetTellsRow.holds Tryz.pinned (OpenSpec.ofChange zsetTellsWrong)

/-- 'rallentandolaw13.ZsetAsks': WHATEVER THE INPUT: true; the input reads as it did. -/
def zsetAsksSpec : ChangeSpec := { name := "zsetAsks", fn := fun _ => fun
  | [d1, d2, d3, d4, d5, d6] => { results := [.lit (.bool true)], args := [d1, d2, d3, d4, d5, d6] }
  | _ => none }
def zsetAsksRow : OpenClaim := { program := "ytodpgcdandechaagreat", sum := "781a8facb3358db16986cab08db32be979319c6c8c81684e7bcd383d10850777", func := "rallentando/rallentandolaw13.ZsetAsks", spec := "zsetAsks", unfollowed := true, recurses := true, apart := false }
def ZsetAsksSaid : Prop := zsetAsksRow.holds Tryz.pinned (OpenSpec.ofChange zsetAsksSpec)

/-- ITS FALSE NEIGHBOUR: 'it returns false'. Refute it at one input. -/
def zsetAsksWrong : ChangeSpec := { name := "zsetAsks", fn := fun _ => fun
  | [d1, d2, d3, d4, d5, d6] => { results := [.lit (.bool false)], args := [d1, d2, d3, d4, d5, d6] }
  | _ => none }
def ZsetAsksWrongFalsely : Prop := zsetAsksRow.holds Tryz.pinned (OpenSpec.ofChange zsetAsksWrong)

/- THE SECOND FORM. 'bulk': how many values and letters a reading holds, each counted each time it is reached (what is shared counts as often as it is met; a slice's spare places count too). A statement '..UptoSaid' is the law's where the arguments, and the package variables that the reading takes, are together of bulk at most 1048576: NARROWER than '..Said'. Prove '..Said' where nothing that the law and all that it calls make is longer than what came in: it says more and counts as full. Else prove '..UptoSaid'. A law counts once. -/
mutual
def uptoBulk {H : Type} : DataW H → Nat
  | .lit (.string bytes) => bytes.length + 1
  | .lit _ => 1
  | .nil => 1
  | .ptr d => uptoBulk d + 1
  | .slice elems spare => uptoBulkAll elems + uptoBulkAll spare + 1
  | .agg parts => uptoBulkAll parts + 1
  | .iface _ d => uptoBulk d + 1
  | .map entries => uptoBulkEntries entries + 1
  | .held _ => 1
def uptoBulkAll {H : Type} : List (DataW H) → Nat
  | [] => 0
  | d :: r => uptoBulk d + uptoBulkAll r
def uptoBulkEntries {H : Type} : List (Lit × DataW H) → Nat
  | [] => 0
  | x :: r => uptoBulkEntry x + uptoBulkEntries r
def uptoBulkEntry {H : Type} : Lit × DataW H → Nat
  | (.string bytes, d) => bytes.length + uptoBulk d + 1
  | (_, d) => uptoBulk d + 1
 end
def uptoSmall : (H : Type) → List (DataW H) → Bool := fun _ ds => decide (uptoBulkAll ds ≤ 1048576)
def OpenSpec.upto (s : _root_.Go.ChangeSpec) : _root_.Go.OpenSpec := { _root_.Go.OpenSpec.ofChange s with cond := some uptoSmall }

/-- 'rallentandolaw14.RegionTells', WHERE WHAT IT READS IS OF BULK AT MOST 1048576: true; the input reads as it did. -/
def regionTellsUptoRow : OpenClaim := { program := "ytodpgcdandechaagreat", sum := "781a8facb3358db16986cab08db32be979319c6c8c81684e7bcd383d10850777", func := "rallentando/rallentandolaw14.RegionTells", spec := "regionTells", inPlace := ["math/bits.Sub64"], unfollowed := true, recurses := true, apart := false, narrowed := true }
def RegionTellsUptoSaid : Prop := regionTellsUptoRow.holds Tryz.pinned (OpenSpec.upto regionTellsSpec)

/-- 'rallentandolaw14.RegionPoints', WHERE WHAT IT READS IS OF BULK AT MOST 1048576: true; the input reads as it did. -/
def regionPointsUptoRow : OpenClaim := { program := "ytodpgcdandechaagreat", sum := "781a8facb3358db16986cab08db32be979319c6c8c81684e7bcd383d10850777", func := "rallentando/rallentandolaw14.RegionPoints", spec := "regionPoints", inPlace := ["math/bits.Sub64"], unfollowed := true, recurses := true, apart := false, narrowed := true }
def RegionPointsUptoSaid : Prop := regionPointsUptoRow.holds Tryz.pinned (OpenSpec.upto regionPointsSpec)

/-- 'rallentandolaw14.RegionLists', WHERE WHAT IT READS IS OF BULK AT MOST 1048576: true; the input reads as it did. -/
def regionListsUptoRow : OpenClaim := { program := "ytodpgcdandechaagreat", sum := "781a8facb3358db16986cab08db32be979319c6c8c81684e7bcd383d10850777", func := "rallentando/rallentandolaw14.RegionLists", spec := "regionLists", inPlace := ["math/bits.Sub64"], unfollowed := true, recurses := true, apart := false, narrowed := true }
def RegionListsUptoSaid : Prop := regionListsUptoRow.holds Tryz.pinned (OpenSpec.upto regionListsSpec)

/-- 'rallentandolaw13.ZsetTells', WHERE WHAT IT READS IS OF BULK AT MOST 1048576: true; the input reads as it did. -/
def zsetTellsUptoRow : OpenClaim := { program := "ytodpgcdandechaagreat", sum := "781a8facb3358db16986cab08db32be979319c6c8c81684e7bcd383d10850777", func := "rallentando/rallentandolaw13.ZsetTells", spec := "zsetTells", unfollowed := true, recurses := true, apart := false, narrowed := true }
def ZsetTellsUptoSaid : Prop := zsetTellsUptoRow.holds Tryz.pinned (OpenSpec.upto zsetTellsSpec)

/-- 'rallentandolaw13.ZsetAsks', WHERE WHAT IT READS IS OF BULK AT MOST 1048576: true; the input reads as it did. -/
def zsetAsksUptoRow : OpenClaim := { program := "ytodpgcdandechaagreat", sum := "781a8facb3358db16986cab08db32be979319c6c8c81684e7bcd383d10850777", func := "rallentando/rallentandolaw13.ZsetAsks", spec := "zsetAsks", unfollowed := true, recurses := true, apart := false, narrowed := true }
def ZsetAsksUptoSaid : Prop := zsetAsksUptoRow.holds Tryz.pinned (OpenSpec.upto zsetAsksSpec)

end Rows
end Go.Proofs.YtodpgcdandechaaGreat
