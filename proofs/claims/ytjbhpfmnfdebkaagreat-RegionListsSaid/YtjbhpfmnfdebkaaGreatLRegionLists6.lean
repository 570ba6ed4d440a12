/-
  Merged texts of this law (each with its own head below).
-/
import Derived.Test.YtjbhpfmnfdebkaaGreatLRegionLists5
import Derived.Test.YtjbhpfmnfdebkaaGreatLRegionLists4
import Derived.Test.YtjbhpfmnfdebkaaGreatLRegionLists3
import Derived.Lib.SliceRun
/-
  The contracts of zone.checked and zone.Meet, by the engine.
-/
namespace Go.Proofs.YtjbhpfmnfdebkaaGreat
set_option linter.unusedVariables false
set_option linter.unusedSimpArgs false
set_option maxRecDepth 100000
open Go.RowKit Go.Proofs.YtjbhpfmnfdebkaaGreat.Eng Enc

namespace Zo
def odd (z : Zn) : Bool := decide (chk z ≠ 0)
def checks (l : List Zn) : Int := if l.any odd = true then 8 else 0
theorem chk_cases (z : Zn) : chk z = 0 ∨ chk z = 8 := by unfold chk; split <;> simp
/-- what two zones have in common. -/
def meet (a b : Zn) : Zn × Int :=
  if checks [a, b] = 0 then (if (Tg.meet 3 (matL a) 3 (matL b)).2.2 = 0 then told (Tg.meet 3 (matL a) 3 (matL b)).2.1 else (nought, (Tg.meet 3 (matL a) 3 (matL b)).2.2)) else (nought, checks [a, b])
end Zo
end Go.Proofs.YtjbhpfmnfdebkaaGreat

/-
  slices.Delete at a list of int: in place.
-/
namespace Go.Proofs.YtjbhpfmnfdebkaaGreat
set_option linter.unusedVariables false
set_option linter.unusedSimpArgs false
set_option maxRecDepth 100000
open Go.RowKit Go.Proofs.YtjbhpfmnfdebkaaGreat.Eng Enc

end Go.Proofs.YtjbhpfmnfdebkaaGreat

/-
  The contracts of package proj, by the engine: made, and what hands it its places.
-/
namespace Go.Proofs.YtjbhpfmnfdebkaaGreat
set_option linter.unusedVariables false
set_option linter.unusedSimpArgs false
set_option maxRecDepth 100000
open Go.RowKit Go.Proofs.YtjbhpfmnfdebkaaGreat.Eng Enc

theorem kpD_set {w0 : Base} {wr : World} {M r : List Nat} {w1 : World} {g x : Nat} {v : Value} (hg : w0.B ≤ g) (hr : ∀ b, b ∈ r → b ≠ g) (hM : g ∈ M) : kpD w0 wr M r w1 (w1.setCell ⟨g, x, none⟩ v) := fun _ =>
  ⟨keep_set hg hr, fun k hk hkm => Below.heap_setCell _ _ _ _ (fun e => hkm (e ▸ hM))⟩
end Go.Proofs.YtjbhpfmnfdebkaaGreat

/-
  The contract of proj.Drop, by the engine.
-/
namespace Go.Proofs.YtjbhpfmnfdebkaaGreat
set_option linter.unusedVariables false
set_option linter.unusedSimpArgs false
set_option maxRecDepth 100000
open Go.RowKit Go.Proofs.YtjbhpfmnfdebkaaGreat.Eng Enc

namespace Proj
/-- a clock's old number, where clock k has gone. -/
def sk (k j : Nat) : Nat := if j < k then j else j + 1
def dropAt (N k idx : Nat) : Nat := sk k (idx / (N - 1)) * N + sk k (idx % (N - 1))
def dropL (N k : Nat) (c : List Int) : List Int := (List.range ((N - 1) * (N - 1))).map fun idx => c[dropAt N k idx]?.getD 0
/-- Drop: the clocks, the bounds, and the error. -/
def drop (n : Int) (L : List Int) (k : Int) : Int × List Int × Int :=
  if Dbm.chk n L = 0 then (if k < 1 ∨ n ≤ k then (0, [], 2) else (match Dbm.closeL n.toNat L with | some c => (n - 1, dropL n.toNat k.toNat c, 0) | none => (0, [], 6))) else (0, [], 8)
end Proj

abbrev TI : TypeId := 3
/-- a list of numbers from 0 on. -/
def upto (N : Nat) : List Int := (List.range N).map (Int.ofNat)
end Go.Proofs.YtjbhpfmnfdebkaaGreat

/-
  The contract of comp.Comp, by the engine.
-/
namespace Go.Proofs.YtjbhpfmnfdebkaaGreat
set_option linter.unusedVariables false
set_option linter.unusedSimpArgs false
set_option maxRecDepth 100000
open Go.RowKit Go.Proofs.YtjbhpfmnfdebkaaGreat.Eng Enc

namespace Cmp
/-- the matrix of two zones one behind the other: 0, t, s, u. -/
def mat (a b : Zn) : List Int := put 0 2 3 (Zo.matL b) (put 0 1 2 (Zo.matL a) (Dbm.topL 4) 9) 9
def comp (a b : Zn) : Zn × Int :=
  if Zo.chk a = 0 ∧ Zo.chk b = 0 then (if (Proj.drop 4 (mat a b) 2).2.2 = 0 then Zo.of (Proj.drop 4 (mat a b) 2).1 (Proj.drop 4 (mat a b) 2).2.1 else (Zo.nought, (Proj.drop 4 (mat a b) 2).2.2)) else (Zo.nought, 8)
end Cmp
end Go.Proofs.YtjbhpfmnfdebkaaGreat

/-
  The contracts of zset.paired, Or, And, Comp, by the engine.
-/
namespace Go.Proofs.YtjbhpfmnfdebkaaGreat
set_option linter.unusedVariables false
set_option linter.unusedSimpArgs false
set_option maxRecDepth 100000
open Go.RowKit Go.Proofs.YtjbhpfmnfdebkaaGreat.Eng Enc

namespace Zs
/-- what two lists come to, zone by zone of the first one. -/
def pairGo (f : Zn → Zn → Zn × Int) (b : List Zn) : List Zn → List Zn → List Zn × Int
  | out, [] => (out, 0)
  | out, x :: a => if (come (f x) out b).2 = 0 then pairGo f b (come (f x) out b).1 a else ([], (come (f x) out b).2)
def paired (f : Zn → Zn → Zn × Int) (a b : List Zn) : List Zn × Int := if Cv.checked [a, b] = 0 then pairGo f b [] a else ([], Cv.checked [a, b])
def or (a b : List Zn) : List Zn × Int := if Cv.checked [a, b] = 0 then Cv.prune (a ++ b) else ([], Cv.checked [a, b])
def and (a b : List Zn) : List Zn × Int := paired Zo.meet a b
def comp (a b : List Zn) : List Zn × Int := paired Cmp.comp a b
end Zs
end Go.Proofs.YtjbhpfmnfdebkaaGreat

/-
  The contracts of win.with, Within, Window, by the engine.
-/
namespace Go.Proofs.YtjbhpfmnfdebkaaGreat
set_option linter.unusedVariables false
set_option linter.unusedSimpArgs false
set_option maxRecDepth 100000
open Go.RowKit Go.Proofs.YtjbhpfmnfdebkaaGreat.Eng Enc

namespace Wn
/-- a zone with a bound less at a place. -/
def less (z : Zn) (i : Nat) (x : Int) : Zn := Zo.set z i (min (Zo.get z i) x)
/-- a zone with two bounds more. -/
def with2 (z : Zn) (i : Nat) (x : Int) (j : Nat) (y : Int) : Zn × Int :=
  if (Zo.mat (less (less z i x) j y)).2.2 = 0 then Zo.of (Zo.mat (less (less z i x) j y)).1 (Zo.mat (less (less z i x) j y)).2.1 else (Zo.nought, (Zo.mat (less (less z i x) j y)).2.2)
end Wn
namespace Wn
def fits (n : Int) : Bool := decide (-288230376151711744 ≤ n) && decide (n ≤ 288230376151711744)
/-- a zone with u less t in a span. -/
def within (z : Zn) (s : Sp) : Zn × Int :=
  if Zo.chk z = 0 then (if (Zo.btw s).2.2 = 0 then with2 z 4 ((Zo.btw s).2.1[2]?.getD 0) 5 ((Zo.btw s).2.1[1]?.getD 0) else (Zo.nought, (Zo.btw s).2.2)) else (Zo.nought, Zo.chk z)
/-- a zone with u in a window. -/
def window (z : Zn) (lo hi : Int) : Zn × Int :=
  if Zo.chk z = 0 then (if fits lo = true ∧ fits hi = true ∧ lo < hi then with2 z 2 (Bd.made hi false).1 3 (Bd.made (-lo) true).1 else (Zo.nought, 2)) else (Zo.nought, 8)
end Wn
end Go.Proofs.YtjbhpfmnfdebkaaGreat

/-
  The contract of cover.All, by the engine.
-/
namespace Go.Proofs.YtjbhpfmnfdebkaaGreat
set_option linter.unusedVariables false
set_option linter.unusedSimpArgs false
set_option maxRecDepth 100000
open Go.RowKit Go.Proofs.YtjbhpfmnfdebkaaGreat.Eng Enc

/-- where cover.All's rounds stand: the boxes of the list and of what is told. -/
structure Cv.AllAt (Bb Be : Nat) (sv : Value) (b : List Zn) (e : Int) (W : World) : Prop where
  hb : W.heap[Bb]? = some (.cells #[sv] 22 (0, 0))
  he : W.heap[Be]? = some (.cells #[.int .i64 e] 28 (0, 0))
  sl : Sl W.heap.size W sv b
theorem lt_of_cells {W : World} {B : Nat} {o : Obj} (h : W.heap[B]? = some o) : B < W.heap.size := (Array.getElem?_eq_some_iff.1 h).1
section
variable {Bb Be : Nat} {sv : Value} {b : List Zn} {e : Int} {W X : World}
theorem Cv.AllAt.go (h : Cv.AllAt Bb Be sv b e W) (hB : Below W.heap.size W X) : Cv.AllAt Bb Be sv b e X :=
  ⟨(hB.block _ (lt_of_cells h.hb)).trans h.hb, (hB.block _ (lt_of_cells h.he)).trans h.he, h.sl.go hB hB.size⟩
end
end Go.Proofs.YtjbhpfmnfdebkaaGreat

/-
  The contracts of zset.each, Within, Window, In, Same, by the engine.
-/
namespace Go.Proofs.YtjbhpfmnfdebkaaGreat
set_option linter.unusedVariables false
set_option linter.unusedSimpArgs false
set_option maxRecDepth 100000
open Go.RowKit Go.Proofs.YtjbhpfmnfdebkaaGreat.Eng Enc

namespace Zs
def free : Zn := ⟨9223372036854775807, 9223372036854775807, 9223372036854775807, 9223372036854775807, 9223372036854775807, 9223372036854775807⟩
/-- what all zones come to. -/
def each (f : Zn → Zn × Int) (l : List Zn) : List Zn × Int :=
  if Cv.checked [l] = 0 then (if (f free).2 ≠ 0 ∧ (f free).2 ≠ 6 then ([], (f free).2) else come f [] l) else ([], Cv.checked [l])
def within (l : List Zn) (s : Sp) : List Zn × Int := each (fun z => Wn.within z s) l
def window (l : List Zn) (lo hi : Int) : List Zn × Int := each (fun z => Wn.window z lo hi) l
def same (a b : List Zn) : Bool × Int := if (Cv.all_ a b).2 = 0 ∧ (Cv.all_ a b).1 = true then Cv.all_ b a else (false, (Cv.all_ a b).2)
end Zs
end Go.Proofs.YtjbhpfmnfdebkaaGreat

/-
  The contracts of slices.Equal at zones, zset.Check, zset.Has, by the engine.
-/
namespace Go.Proofs.YtjbhpfmnfdebkaaGreat
set_option linter.unusedVariables false
set_option linter.unusedSimpArgs false
set_option maxRecDepth 100000
open Go.RowKit Go.Proofs.YtjbhpfmnfdebkaaGreat.Eng Enc

namespace Zs
/-- a set has a point. -/
def has (l : List Zn) (p : Pt) : Bool × Int :=
  if Cv.checked [l] = 0 then (if (Zo.has free p).2 = 0 then (l.any (fun z => decide ((Zo.has z p).2 = 0) && (Zo.has z p).1), 0) else (false, (Zo.has free p).2)) else (false, Cv.checked [l])
end Zs
end Go.Proofs.YtjbhpfmnfdebkaaGreat

/-
  Plain laws of sets of zones: the points of what two zones have in common, of unions, of pairs. No program is in sight.
-/
namespace Go.Proofs.YtjbhpfmnfdebkaaGreat
set_option linter.unusedVariables false
set_option linter.unusedSimpArgs false
open Go.RowKit Go.Proofs.YtjbhpfmnfdebkaaGreat.Eng Enc
namespace Zo
open Mi Dbm
end Zo
namespace Zs
open Mi Dbm
end Zs
end Go.Proofs.YtjbhpfmnfdebkaaGreat

/-
  The document's answers: ref08.told, ref08.Common, by the engine.
-/
namespace Go.Proofs.YtjbhpfmnfdebkaaGreat
set_option linter.unusedVariables false
set_option linter.unusedSimpArgs false
set_option maxRecDepth 100000
open Go.RowKit Go.Proofs.YtjbhpfmnfdebkaaGreat.Eng Enc

namespace Zo
open Dbm
end Zo
end Go.Proofs.YtjbhpfmnfdebkaaGreat

/-
  The document's answer of layer 14: a region's point and zone, by the engine.
-/
namespace Go.Proofs.YtjbhpfmnfdebkaaGreat
set_option linter.unusedVariables false
set_option linter.unusedSimpArgs false
set_option maxRecDepth 100000
open Go.RowKit Go.Proofs.YtjbhpfmnfdebkaaGreat.Eng Enc

theorem rat14_any (pl pa d : Int) (h : 0 ≤ pl ∧ pl ≤ 1000) (h3 : Rg.Three pa d) (w : World) :
    Calls Tryz.prog 169 #[.int .i64 pl, .int .i64 pa, .int .i64 d] w fun e w' => e = .returned (.agg #[.int .i64 (Rg.time pl pa d).num, .int .i64 (Rg.time pl pa d).den]) ∧ Below w.heap.size w w' := by
  refine fun_eq 0 w Tryz.func169 (args := [.val (.int .i64 pl), .val (.int .i64 pa), .val (.int .i64 d)]) rfl rfl ?_
  rw [(Rg.time_doc h h3).1]
  have hd : 2 ≤ d ∧ d ≤ 3 ∧ 0 ≤ pa ∧ pa ≤ 3 := by rcases h3 with h | h | h <;> omega
  have hm := Fr.mul_bd (u := pl / 2) (v := d) (m := 500) (n := 3) (by omega) (by omega) (by omega) (by omega)
  have e2 : pl.tdiv 2 = pl / 2 := Int.tdiv_eq_ediv_of_nonneg h.1
  have e3 : pl.tmod 2 = pl % 2 := Int.tmod_eq_emod_of_nonneg h.1
  refine NewI.mk fun b1 hb1 => ?_
  refine Need.mk (by decide) ?_
  refine Branch.mk (fun hc => ?_) (fun hc => ?_)
  · have he : pl % 2 = 0 := by rw [← e3]; simpa using hc
    rw [if_pos he]
    refine Need.mk ⟨by decide, by rw [e2]; simp only [inK]; omega⟩ ?_
    exact EndI.mk fun w3 h3 => by rw [e2]
  · have he : ¬ pl % 2 = 0 := by rw [← e3]; simpa using hc
    rw [if_neg he]
    refine Need.mk ⟨by decide, by rw [e2]; simp only [inK]; omega⟩ ?_
    refine Need.mk (by rw [e2]; simp only [inK]; omega) ?_
    refine Need.mk (by rw [e2]; simp only [inK]; omega) ?_
    exact EndI.mk fun w3 h3 => by rw [e2]
theorem rof14_any (n long : Int) (hl : 1 ≤ long ∧ long ≤ 16) (hn : 0 ≤ n ∧ n < 3 * (2 * long + 1) * (2 * long + 1)) (w : World) :
    Calls Tryz.prog 101 #[.int .i64 n, .int .i64 long] w fun e w' => e = .returned (.tuple #[.agg #[.int .i64 (Rg.pt n long).t.num, .int .i64 (Rg.pt n long).t.den, .int .i64 (Rg.pt n long).u.num, .int .i64 (Rg.pt n long).u.den], .bool (Rg.point n long).2]) ∧ Below w.heap.size w w' := by
  refine fun_eq 0 w Tryz.func101 (args := [.val (.int .i64 n), .val (.int .i64 long)]) rfl rfl ?_
  have hm := Fr.mul_bd (u := 3 * (2 * long + 1)) (v := 2 * long + 1) (m := 99) (n := 33) (by omega) (by omega) (by omega) (by omega)
  have e1 : n.tdiv 3 = n / 3 := Int.tdiv_eq_ediv_of_nonneg hn.1
  have e2 : (n.tdiv 3).tdiv (2 * long + 1) = n / 3 / Rg.sides long := by rw [e1]; exact Int.tdiv_eq_ediv_of_nonneg (by omega)
  have e3 : (n.tdiv 3).tmod (2 * long + 1) = n / 3 % Rg.sides long := by rw [e1]; exact Int.tmod_eq_emod_of_nonneg (by omega)
  have e4 : n.tmod 3 = n % 3 := Int.tmod_eq_emod_of_nonneg hn.1
  have hs : Rg.sides long = 2 * long + 1 := rfl
  have ht : 0 ≤ n / 3 / Rg.sides long ∧ n / 3 / Rg.sides long ≤ 1000 := by
    have h1 : 0 ≤ n / 3 / Rg.sides long := Int.ediv_nonneg (by omega) (by omega)
    have h2 : n / 3 / Rg.sides long < Rg.sides long := by
      refine Int.ediv_lt_of_lt_mul (by omega) ?_
      have : n < 3 * (Rg.sides long * Rg.sides long) := by rw [← Int.mul_assoc]; exact hn.2
      omega
    omega
  have hu : 0 ≤ n / 3 % Rg.sides long ∧ n / 3 % Rg.sides long ≤ 1000 := by
    have h1 := Int.emod_nonneg (n / 3) (b := Rg.sides long) (by omega)
    have h2 := Int.emod_lt_of_pos (n / 3) (b := Rg.sides long) (by omega)
    omega
  have h3 := Rg.parts_three (r := n % 3) (by omega)
  have hTok := (Rg.time_doc ht h3.1).2
  have hUok := (Rg.time_doc hu h3.2).2
  have hb := Rg.parts_three (r := n % 3) (by omega)
  have hins : (Rg.pt n long).ins := by
    have hp : (0 ≤ (Rg.parts (n % 3)).1 ∧ (Rg.parts (n % 3)).1 ≤ 10) ∧ (0 ≤ (Rg.parts (n % 3)).2.1 ∧ (Rg.parts (n % 3)).2.1 ≤ 10) ∧ (1 ≤ (Rg.parts (n % 3)).2.2 ∧ (Rg.parts (n % 3)).2.2 ≤ 10) := by
      rcases (by omega : n % 3 = 0 ∨ n % 3 = 1 ∨ n % 3 = 2) with h | h | h <;> rw [h] <;> simp [Rg.parts]
    exact ⟨Rg.time_ins ht hp.1 hp.2.2, Rg.time_ins hu hp.2.1 hp.2.2⟩
  have n1 : (3 : Int) ≠ 0 ∧ inK .i64 (n.tdiv 3) := ⟨by decide, by rw [e1]; simp only [inK]; omega⟩
  have A : ∀ (pl pa d : Int), 0 ≤ pl ∧ pl ≤ 1000 → Rg.Three pa d → ∀ w, Calls Tryz.prog 169 #[.int .i64 pl, .int .i64 pa, .int .i64 d] w fun e w' => e = .returned (.agg #[.int .i64 (Rg.time pl pa d).num, .int .i64 (Rg.time pl pa d).den]) ∧ Below w.heap.size w w' := fun pl pa d h h3 w => rat14_any pl pa d h h3 w
  refine NewI.mk fun b1 hb1 => ?_
  refine Need.mk n1 ?_
  refine Need.mk (by simp only [inK]; omega) ?_
  refine Need.mk (by simp only [inK]; omega) ?_
  refine Need.mk ⟨by omega, by rw [e2]; simp only [inK]; omega⟩ ?_
  refine Need.mk n1 ?_
  refine Need.mk (by simp only [inK]; omega) ?_
  refine Need.mk (by simp only [inK]; omega) ?_
  refine Need.mk (by omega) ?_
  conv => whnf
  rw [e2, e3]
  refine CallI.to1 (A _ 1 2 ht (.inl ⟨rfl, rfl⟩)) fun w2 => ?_
  refine CallI.to1 (A _ 1 2 hu (.inl ⟨rfl, rfl⟩)) fun w3 => ?_
  refine NewI.mk fun b2 hb2 => ?_
  refine Need.mk (by decide) ?_
  have hp : ∀ (p : Pt), Rg.pt n long = p → p.t.ok = true ∧ p.u.ok = true ∧ p.ins := fun p e => by subst e; exact ⟨hTok, hUok, hins⟩
  refine Branch.mk (fun hc => ?_) (fun hc => ?_)
  · have h0 : n % 3 = 0 := by rw [← e4]; simpa using hc
    have hpt : Rg.pt n long = ⟨Rg.time (n / 3 / Rg.sides long) 1 3, Rg.time (n / 3 % Rg.sides long) 2 3⟩ := by unfold Rg.pt; rw [h0]; rfl
    refine CallI.to1 (A _ 1 3 ht (.inr (.inl ⟨rfl, rfl⟩))) fun w2 => ?_
    refine CallI.to1 (A _ 2 3 hu (.inr (.inr ⟨rfl, rfl⟩))) fun w3 => ?_
    refine Need.mk (by decide) ?_
    refine Branch.no (by rw [e4, h0]; rfl) ?_
    refine DrawI.wr (.tk 0 (.tk 1 (.tk 2 (.tk 4 (.ev 3 (.tk 5 (.ev 6 (.tk 7 .done)))))))) [0] [] (by kernel_rfl) rfl (by simp) fun w1 h1 => ?_
    obtain ⟨o1, o2, o3⟩ := hp _ hpt
    unfold Rg.point
    rw [hpt]
    refine CallI.to1 (fun w => rnumber14_any ⟨Rg.time (n / 3 / Rg.sides long) 1 3, Rg.time (n / 3 % Rg.sides long) 2 3⟩ long o3 o1 o2 hl w) fun w4 => ?_
    exact EndI.mk fun w9 h9 => rfl
  · have h0 : ¬ n % 3 = 0 := by rw [← e4]; simpa using hc
    refine Need.mk (by decide) ?_
    refine Branch.mk (fun hc2 => ?_) (fun hc2 => ?_)
    · have h2 : n % 3 = 2 := by rw [← e4]; simpa using hc2
      have hpt : Rg.pt n long = ⟨Rg.time (n / 3 / Rg.sides long) 2 3, Rg.time (n / 3 % Rg.sides long) 1 3⟩ := by unfold Rg.pt; rw [h2]; rfl
      refine CallI.to1 (A _ 2 3 ht (.inr (.inr ⟨rfl, rfl⟩))) fun w2 => ?_
      refine CallI.to1 (A _ 1 3 hu (.inr (.inl ⟨rfl, rfl⟩))) fun w3 => ?_
      refine DrawI.wr (.tk 0 (.tk 1 (.tk 2 (.tk 4 (.ev 3 (.tk 5 (.ev 6 (.tk 7 .done)))))))) [0] [] (by kernel_rfl) rfl (by simp) fun w1 h1 => ?_
      obtain ⟨o1, o2, o3⟩ := hp _ hpt
      unfold Rg.point
      rw [hpt]
      refine CallI.to1 (fun w => rnumber14_any ⟨Rg.time (n / 3 / Rg.sides long) 2 3, Rg.time (n / 3 % Rg.sides long) 1 3⟩ long o3 o1 o2 hl w) fun w4 => ?_
      exact EndI.mk fun w9 h9 => rfl
    · have h2 : ¬ n % 3 = 2 := by rw [← e4]; simpa using hc2
      have h1 : n % 3 = 1 := by omega
      have hpt : Rg.pt n long = ⟨Rg.time (n / 3 / Rg.sides long) 1 2, Rg.time (n / 3 % Rg.sides long) 1 2⟩ := by unfold Rg.pt; rw [h1]; rfl
      refine DrawI.wr (.tk 0 (.tk 1 (.tk 2 (.tk 4 (.ev 3 (.tk 5 (.ev 6 (.tk 7 .done)))))))) [0] [] (by kernel_rfl) rfl (by simp) fun w1 h1 => ?_
      obtain ⟨o1, o2, o3⟩ := hp _ hpt
      unfold Rg.point
      rw [hpt]
      refine CallI.to1 (fun w => rnumber14_any ⟨Rg.time (n / 3 / Rg.sides long) 1 2, Rg.time (n / 3 % Rg.sides long) 1 2⟩ long o3 o1 o2 hl w) fun w4 => ?_
      exact EndI.mk fun w9 h9 => rfl
theorem rpoint14_any (n long : Int) (w : World) :
    Calls Tryz.prog 176 #[.int .i64 n, .int .i64 long] w fun e w' => e = .returned (.tuple #[.agg #[.int .i64 (Rg.askPoint n long).1.t.num, .int .i64 (Rg.askPoint n long).1.t.den, .int .i64 (Rg.askPoint n long).1.u.num, .int .i64 (Rg.askPoint n long).1.u.den], .int .i64 (Rg.askPoint n long).2]) ∧ Below w.heap.size w w' := by
  refine fun_eq 0 w Tryz.func176 (args := [.val (.int .i64 n), .val (.int .i64 long)]) rfl rfl ?_
  refine NewI.mk fun b1 hb1 => ?_
  (first
    | (refine CallI.to1 (rfits14_any long) fun w2 => ?_)
    | (refine Branch.yes rfl ?_)
    | (refine Branch.no rfl ?_)
    | (refine Branch.mk (fun hb => ?_) (fun hb => ?_))
    | (refine NewI.mk fun nb hnb => ?_)
    | (refine Need.mk (by show _ ∧ _; omega) ?_)
    | (refine Need.mk (by omega) ?_)
    | (refine Need.mk ?_ ?_)
    | (refine EndI.mk fun w1 h1 => ?_))
  unfold Rg.askPoint
  refine Branch.mk (fun hc => ?_) (fun hc => ?_)
  · have hf : Rg.fits long = false := by simpa using hc
    refine EndI.mk fun w3 h3 => ?_
    rw [if_pos (.inl (by unfold Rg.many; rw [hf]; simp))]; rfl
  have hf : Rg.fits long = true := by simpa using hc
  have hl := Rg.fits_iff.1 hf
  rw [Rg.many_doc hl]
  refine Branch.mk (fun hc2 => ?_) (fun hc2 => ?_)
  · refine EndI.mk fun w3 h3 => ?_
    rw [if_pos (.inr (.inl (by simpa using hc2)))]; rfl
  have h0 : ¬ n < 0 := by simpa using hc2
  (first
    | (refine CallI.to1 (rcount14_any long hl) fun w2 => ?_)
    | (refine Branch.yes rfl ?_)
    | (refine Branch.no rfl ?_)
    | (refine Branch.mk (fun hb => ?_) (fun hb => ?_))
    | (refine NewI.mk fun nb hnb => ?_)
    | (refine Need.mk (by show _ ∧ _; omega) ?_)
    | (refine Need.mk (by omega) ?_)
    | (refine Need.mk ?_ ?_)
    | (refine EndI.mk fun w1 h1 => ?_))
  refine Branch.mk (fun hc3 => ?_) (fun hc3 => ?_)
  · refine EndI.mk fun w3 h3 => ?_
    rw [if_pos (.inr (.inr (by simpa using hc3)))]; rfl
  have h1 : ¬ 3 * (2 * long + 1) * (2 * long + 1) ≤ n := by simpa using hc3
  rw [if_neg (by simp only; omega)]
  (first
    | (refine CallI.to1 (rof14_any n long hl (by omega)) fun w2 => ?_)
    | (refine Branch.yes rfl ?_)
    | (refine Branch.no rfl ?_)
    | (refine Branch.mk (fun hb => ?_) (fun hb => ?_))
    | (refine NewI.mk fun nb hnb => ?_)
    | (refine Need.mk (by show _ ∧ _; omega) ?_)
    | (refine Need.mk (by omega) ?_)
    | (refine Need.mk ?_ ?_)
    | (refine EndI.mk fun w1 h1 => ?_))
  refine NewI.mk fun b2 hb2 => ?_
  refine Branch.mk (fun hc4 => ?_) (fun hc4 => ?_)
  · refine EndI.mk fun w3 h3 => ?_
    rw [if_neg (by have h4 : (Rg.point n long).2 = false := by simpa using hc4
                   rw [h4]; simp)]; rfl
  · refine EndI.mk fun w3 h3 => ?_
    rw [if_pos (by simpa using hc4)]
/-- a span whose numbers are no greater than may be. -/
def Sp.fit (s : Sp) : Prop := (-288230376151711744 ≤ s.lo ∧ s.lo ≤ 288230376151711744) ∧ (s.op = true ∨ -288230376151711744 ≤ s.hi ∧ s.hi ≤ 288230376151711744)
theorem rabove_any (s : Sp) (h : s.fit) (w : World) :
    Calls Tryz.prog 243 #[.agg #[.int .i64 s.lo, .bool s.ls, .int .i64 s.hi, .bool s.hs, .bool s.op]] w fun e w' => e = .returned (.int .i64 (Rg.ab s)) ∧ Below w.heap.size w w' := by
  refine fun_eq 0 w Tryz.func243 (args := [.agg [.val (.int .i64 s.lo), .val (.bool s.ls), .val (.int .i64 s.hi), .val (.bool s.hs), .val (.bool s.op)]]) rfl rfl ?_
  refine NewI.mk fun b1 hb1 => ?_
  unfold Rg.ab
  refine Branch.mk (fun hc => ?_) (fun hc => ?_)
  · rw [if_pos hc]
    exact EndI.mk fun w3 h3 => rfl
  · have h2 : -288230376151711744 ≤ s.hi ∧ s.hi ≤ 288230376151711744 := by rcases h.2 with h | h; rw [h] at hc; cases hc; exact h
    rw [if_neg (by rw [hc]; simp)]
    refine CallI.to0 (fun w => rmade_any s.hi s.hs (by omega) (by omega) w) fun w2 => ?_
    exact EndI.mk fun w3 h3 => rfl
theorem rbelow_any (s : Sp) (h : s.fit) (w : World) :
    Calls Tryz.prog 242 #[.agg #[.int .i64 s.lo, .bool s.ls, .int .i64 s.hi, .bool s.hs, .bool s.op]] w fun e w' => e = .returned (.int .i64 (Rg.be s)) ∧ Below w.heap.size w w' := by
  refine fun_eq 0 w Tryz.func242 (args := [.agg [.val (.int .i64 s.lo), .val (.bool s.ls), .val (.int .i64 s.hi), .val (.bool s.hs), .val (.bool s.op)]]) rfl rfl ?_
  have h1 := h.1
  refine NewI.mk fun b1 hb1 => ?_
  refine Need.mk (by simp only [inK]; omega) ?_
  refine CallI.to0 (fun w => rmade_any (0 - s.lo) s.ls (by omega) (by omega) w) fun w2 => ?_
  exact EndI.mk fun w3 h3 => rfl
end Go.Proofs.YtjbhpfmnfdebkaaGreat

/-
  The document's answer of layer 14: Same, Pick, Marks, by the engine.
-/
namespace Go.Proofs.YtjbhpfmnfdebkaaGreat
set_option linter.unusedVariables false
set_option linter.unusedSimpArgs false
set_option maxRecDepth 100000
open Go.RowKit Go.Proofs.YtjbhpfmnfdebkaaGreat.Eng Enc

theorem rsame14_any (l m : List Int) (a : Option Addr) (cap : Nat) (b : Option Addr) (cb : Nat) (w : World) (hS : Sl w.heap.size w (.slice a l.length cap) l) (hT : Sl w.heap.size w (.slice b m.length cb) m) :
    Calls Tryz.prog 40 #[.slice a l.length cap, .slice b m.length cb] w fun e w' => e = .returned (.bool (decide (l = m))) ∧ Below w.heap.size w w' := by
  refine fun_eq 0 w Tryz.func40 (args := [.val (.slice a l.length cap), .val (.slice b m.length cb)]) rfl rfl ?_
  obtain ⟨_, _, hfe, hcap1, hcap2, _⟩ := hS.form
  injection hfe with _ _ hfe
  subst hfe
  unfold maxLen at hcap2
  refine Branch.mk (fun hc => ?_) (fun hc => ?_)
  · have hne : l.length ≠ m.length := by have := of_decide_eq_true hc; omega
    refine EndI.mk fun w9 h9 => ?_
    rw [decide_eq_false (fun e => hne (by rw [e]))]
  have hlm : l.length = m.length := by have := of_decide_eq_false hc; omega
  refine LoopI.invC (α := Nat × World) (fun y => [(5, .val (.int .i64 y.1))]) (fun y => y.2) (fun y => y.1 ≤ l.length ∧ Below w.heap.size w y.2 ∧ l.take y.1 = m.take y.1) (fun y => l.length - y.1) ?_ ?_
  · intro w1 h1
    exact ⟨(0, w1), Cov.mk (by repeat' (first | exact trivial | refine And.intro rfl ?_)) rfl rfl rfl rfl rfl, rfl, Nat.zero_le _, h1.below, rfl⟩
  rintro ⟨k, V⟩ ⟨hk, hV, hall⟩
  simp only at hk hV hall
  refine Branch.mk (fun hc2 => ?_) (fun hc2 => ?_)
  · have hlt : k < l.length := by have := of_decide_eq_true hc2; simp only at this; omega
    have hx := List.getElem?_eq_getElem (l := l) (i := k) hlt
    have hy := List.getElem?_eq_getElem (l := m) (i := k) (by omega)
    generalize l[k] = x at hx
    generalize m[k]'(by omega) = y at hy
    refine DrawI.go (.tk 0 (.tk 1 (.tk 2 (.tk 3 (.tk 4 (.tk 5 (.tk 6 (.tk 7 (.tk 8 .done))))))))) (by kernel_rfl) fun w4 h4 => ?_
    have hg4 : Below V.heap.size V w4 := h4.go
    have hw4 := hV.trans (hg4.mono hV.size)
    have hS4 := hS.go hw4 hw4.size
    have hT4 := hT.go hw4 hw4.size
    refine hS4.idx hx fun ad had => ?_
    refine hS4.ld1 hx had (Below.refl _ _) (by simp) ?_
    refine hT4.idx hy fun ad2 had2 => ?_
    refine hT4.ld1 hy had2 (Below.refl _ _) (by simp) ?_
    refine Branch.mk (fun hc3 => ?_) (fun hc3 => ?_)
    · have hne : x ≠ y := by simpa using hc3
      refine EndI.mk fun w9 h9 => ?_
      rw [decide_eq_false (fun e => hne (by rw [e, hy] at hx; injection hx with hx; exact hx.symm))]
    · have he : x = y := by simpa using hc3
      refine Need.mk (by simp only [inK]; omega) (EndI.mk fun w9 h9 => ⟨(k + 1, w9), Cov.mk (by repeat' (first | exact trivial | refine And.intro rfl ?_)) rfl rfl rfl rfl rfl, rfl, ⟨hlt, h9.below, ?_⟩, by simp only; omega⟩)
      simp only
      rw [List.take_add_one, List.take_add_one, hall, hx, hy, he]
  · have hge : k = l.length := by have := of_decide_eq_false hc2; simp only at this; omega
    subst hge
    rw [List.take_length, hlm, List.take_length] at hall
    refine EndI.mk fun w9 h9 => ?_
    rw [decide_eq_true hall]
namespace Rg
/-- of marks, the places that are marked, up to a place. -/
def pkTo (s : List Bool) (k : Nat) : List Int := ((List.range k).filter fun n => s[n]?.getD false).map Int.ofNat
theorem pkTo_step {s : List Bool} {k : Nat} {x : Bool} (hx : s[k]? = some x) : pkTo s (k + 1) = if x = true then pkTo s k ++ [(k : Int)] else pkTo s k := by
  unfold pkTo
  rw [List.range_succ, List.filter_append, List.map_append]
  simp only [List.filter_cons, List.filter_nil, hx, Option.getD_some]
  cases x <;> simp
theorem pkTo_len (s : List Bool) (k : Nat) : (pkTo s k).length ≤ k := by
  unfold pkTo
  rw [List.length_map]
  have := List.length_filter_le (fun n => s[n]?.getD false) (List.range k)
  rw [List.length_range] at this; exact this
end Rg
theorem rpick14_any (s : List Bool) (hlen : s.length ≤ 4096) (a : Option Addr) (ca : Nat) (w : World) (hS : Sl w.heap.size w (.slice a s.length ca) s) :
    Calls Tryz.prog 103 #[.slice a s.length ca] w (Ret w fun v w' => Own TKi w.heap.size w' v (Rg.pkTo s s.length)) := by
  refine fun_ret 0 w Tryz.func103 (args := [.val (.slice a s.length ca)]) rfl rfl ?_
  have st := Stay.first (w := w)
  refine LoopI.invC (α := Nat × World × Value) (fun y => [(4, .val (.int .i64 y.1)), (3, .val y.2.2)]) (fun y => y.2.1) (fun y => y.1 ≤ s.length ∧ Below w.heap.size w y.2.1 ∧ ∃ base, Lp ⟨w, w.heap.size, Nat.le_refl _⟩ [w] [] TKi base y.2.1 y.2.2 (Rg.pkTo s y.1)) (fun y => s.length - y.1) ?_ ?_
  · intro w1 h1
    exact ⟨(0, w1, .slice none 0 0), Cov.mk (by repeat' (first | exact trivial | refine And.intro rfl ?_)) rfl rfl rfl rfl rfl, rfl, Nat.zero_le _, h1.below, _, Lp.start st h1 (by simp)⟩
  rintro ⟨k, V, ov⟩ ⟨hk, hV, base, lp⟩
  simp only at hk hV lp
  obtain ⟨ao, co, rfl⟩ := lp.own.form
  have hle := Rg.pkTo_len s k
  refine Branch.mk (fun z3 => ?_) (fun z3 => ?_)
  · have hlt : k < s.length := by have := of_decide_eq_true z3; simp only at this; omega
    have hx := List.getElem?_eq_getElem (l := s) (i := k) hlt
    generalize s[k] = x at hx
    have hes := Rg.pkTo_step hx
    have hSV := hS.go hV hV.size
    refine hSV.idx hx fun ad had => ?_
    refine hSV.ldv hx rfl had (Below.refl _ _) (by simp) ?_
    refine Branch.mk (fun z4 => ?_) (fun z4 => ?_)
    · rw [if_pos z4] at hes
      refine NewI.mk fun b1 hb1 => ?_
      have hb1' : V.heap.size ≤ b1 := hb1
      refine GenN.appL (α := Int) elIn lp (fun y hy => .inr (by simp at hy; omega)) (by simp) [(k : Int)] (fun w8 h8 => src_own h8 0 rfl rfl rfl rfl) (by simp; omega) (by decide) fun a' c' w8 w9 h8 lp9 hsz hbl => ?_
      rw [← hes] at lp9 ⊢
      refine Need.mk (by simp only [inK]; omega) (EndI.mk fun w10 h10 => ⟨(k + 1, w10, .slice a' (Rg.pkTo s (k + 1)).length c'), Cov.mk (by repeat' (first | exact trivial | refine And.intro rfl ?_)) rfl rfl rfl rfl rfl, rfl, ⟨hlt, h10.below, base, lp9.at h10 (by simp)⟩, by simp only; omega⟩)
    · rw [if_neg (by rw [z4]; decide)] at hes
      rw [← hes] at lp ⊢
      refine Need.mk (by simp only [inK]; omega) (EndI.mk fun w10 h10 => ⟨(k + 1, w10, .slice ao (Rg.pkTo s (k + 1)).length co), Cov.mk (by repeat' (first | exact trivial | refine And.intro rfl ?_)) rfl rfl rfl rfl rfl, rfl, ⟨hlt, h10.below, base, lp.at h10 (by simp)⟩, by simp only; omega⟩)
  · have hge : k = s.length := by have := of_decide_eq_false z3; simp only at this; omega
    subst hge
    refine EndI.mk fun w10 h10 => (lp.at h10 (by simp)).own.lower ?_
    exact lp.anc w (by simp)
end Go.Proofs.YtjbhpfmnfdebkaaGreat

/-
  The contract of region.List, by the engine.
-/
namespace Go.Proofs.YtjbhpfmnfdebkaaGreat
set_option linter.unusedVariables false
set_option linter.unusedSimpArgs false
set_option maxRecDepth 100000
open Go.RowKit Go.Proofs.YtjbhpfmnfdebkaaGreat.Eng Enc

namespace Rg
/-- is a number a region's, and in its range? -/
def isR (long : Int) (x : Int) : Bool := decide (0 ≤ x) && decide (x < (many long).1) && (point x long).2
/-- is a region's point in one of some zones? -/
def inL (l : List Zn) (long : Int) (x : Int) : Bool := isR long x && l.any fun z => (Zo.has z (pt x long)).1
/-- the numbers of which p says so, rising. -/
def up (long : Int) (p : Int → Bool) : List Int := ((List.range (many long).1.toNat).filter fun n : Nat => p (n : Int)).map Int.ofNat
theorem mem_up {long : Int} {p : Int → Bool} (h : ∀ x, p x = true → 0 ≤ x ∧ x < (many long).1) (x : Int) : x ∈ up long p ↔ p x = true := by
  unfold up
  rw [List.mem_map]
  constructor
  · rintro ⟨k, hk, rfl⟩
    exact (List.mem_filter.1 hk).2
  · intro hx
    obtain ⟨h0, h1⟩ := h x hx
    refine ⟨x.toNat, List.mem_filter.2 ⟨List.mem_range.2 (by omega), ?_⟩, Int.toNat_of_nonneg h0⟩
    show p ((x.toNat : Nat) : Int) = true
    rw [Int.toNat_of_nonneg h0]; exact hx
theorem up_rising (long : Int) (p : Int → Bool) : (up long p).Pairwise fun x y => x < y := by
  unfold up
  rw [List.pairwise_map]
  exact (List.pairwise_lt_range.filter _).imp fun h => Int.ofNat_lt.2 h
def list (l : List Zn) (long : Int) : List Int × Int :=
  if (many long).2 ≠ 0 then ([], (many long).2) else if l.any (fun z => decide (Zo.chk z ≠ 0)) = true then ([], 8) else (up long (inL l long), 0)
theorem inL_in {l : List Zn} {long x : Int} (h : inL l long x = true) : 0 ≤ x ∧ x < (many long).1 := by
  unfold inL isR at h
  simp only [Bool.and_eq_true, decide_eq_true_eq] at h
  exact h.1.1
end Rg
theorem rlist_any (l : List Zn) (hlen : l.length ≤ 4096) (long : Int) (a : Option Addr) (ca : Nat) (w : World) (hS : Sl w.heap.size w (.slice a l.length ca) l) :
    Calls Tryz.prog 20 #[.slice a l.length ca, .int .i64 long] w (Ret w fun v w' => ∃ a' c', v = .tuple #[.slice a' (Rg.list l long).1.length c', .int .i64 (Rg.list l long).2] ∧ Own TKi w.heap.size w' (.slice a' (Rg.list l long).1.length c') (Rg.list l long).1) := by
  refine fun_ret 0 w Tryz.func20 (args := [.val (.slice a l.length ca), .val (.int .i64 long)]) rfl rfl ?_
  have st := Stay.first (w := w)
  apply CallI.use1
  focus (exact fun w2 h2 => many_any long w2)
  intro w2 v2 h2 hB2
  have st := st.next h2 (fun x hx => by simp at hx <;> omega) hB2
  unfold Rg.list
  refine Branch.mk (fun hc => ?_) (fun hc => ?_)
  · rw [if_pos (by simpa using hc)]
    exact EndI.mk fun w9 h9 => ⟨_, _, rfl, Own.nil⟩
  have h0 : (Rg.many long).2 = 0 := by simpa using hc
  rw [if_neg (by rw [h0]; simp)]
  have hl : 1 ≤ long ∧ long ≤ 16 := by
    cases hf : Rg.fits long with
    | true => exact Rg.fits_iff.1 hf
    | false => unfold Rg.many at h0; rw [hf] at h0; cases h0
  have hs : 3 ≤ Rg.sides long ∧ Rg.sides long ≤ 33 := by unfold Rg.sides; omega
  have hmany : (Rg.many long).1 = 3 * Rg.sides long * Rg.sides long := by unfold Rg.many; rw [if_pos (Rg.fits_iff.2 hl)]
  have hmm := Fr.mul_bd (u := 3 * Rg.sides long) (v := Rg.sides long) (m := 99) (n := 33) (by omega) (by omega) (by omega) (by omega)
  obtain ⟨M, hM⟩ : ∃ M : Nat, (Rg.many long).1 = M := ⟨(Rg.many long).1.toNat, by omega⟩
  have hM4 : M ≤ 3267 := by omega
  rw [hM]
  refine ⟨fun w3 h3 => ⟨_, _, run_makeMap _ w3, KpOk.ok h3 ((Below.refl _ _).alloc (Nat.le_refl _) _), ?_⟩⟩
  have hms := MSet.made w3
  have hb3 : Below w.heap.size w (w3.alloc (.map #[] 0)) := h3.below.alloc h3.below.size _
  have hwb : w.heap.size ≤ w3.heap.size := h3.below.size
  generalize w3.alloc (.map #[] 0) = w4 at hms hb3 ⊢
  generalize w3.heap.size = B at hms hwb ⊢
  have hsup : ∀ n : Nat, n < M → 0 ≤ (n : Int) ∧ (n : Int) < (Rg.many long).1 := fun n hn => by omega
  refine LoopI.invC (α := Nat × World) (fun y => [(28, .val (.int .i64 y.1))]) (fun y => y.2)
    (fun y => y.1 ≤ l.length ∧ Below w.heap.size w y.2 ∧ (∀ z, z ∈ l.take y.1 → Zo.chk z = 0) ∧ ∃ f, MSet y.2 B (y.1 * M) f ∧ ∀ x, f x = Rg.inL (l.take y.1) long x) (fun y => l.length - y.1) ?_ ?_
  · intro w5 h5
    exact ⟨(0, w5), Cov.mk (by repeat' (first | exact trivial | refine And.intro rfl ?_)) rfl rfl rfl rfl rfl, rfl, Nat.zero_le _, h5.below, by simp, _, by simpa using hms.below (at_belowM h5 (by simp)), by simp [Rg.inL]⟩
  rintro ⟨i, V⟩ ⟨hi, hV, hzs, f, hf, hfx⟩
  simp only at hi hV hzs hf hfx
  refine Branch.mk (fun z1 => ?_) (fun z1 => ?_)
  · have hiN : i < l.length := by have := of_decide_eq_true z1; simp only at this; omega
    have hz := List.getElem?_eq_getElem (l := l) (i := i) hiN
    have hts : l.take (i + 1) = l.take i ++ [l[i]'hiN] := by rw [List.take_add_one, hz]; rfl
    have hzm := List.getElem_mem hiN
    generalize l[i]'hiN = z at hz hts hzm
    have hSV : Sl V.heap.size V (.slice a l.length ca) l := hS.go hV hV.size
    refine hSV.idx hz fun ad had => ?_
    refine hSV.ld hz had (Below.refl _ _) (by simp) ?_
    refine NewI.mk fun b10 hb10 => ?_
    have hb10' : V.heap.size ≤ b10 := hb10
    apply CallI.use1
    focus (exact fun w5 h5 => zcheck_any z w5)
    intro w5 v5 h5 hB5
    have hf5 := (hf.at h5 (by have := hf.lt; simp; omega)).below hB5
    have hB10 : B ≠ b10 := by have := hf.lt; omega
    refine Branch.mk (fun z2 => ?_) (fun z2 => ?_)
    · have hne : Zo.chk z ≠ 0 := of_decide_eq_true z2
      have h8 : Zo.chk z = 8 := by unfold Zo.chk at hne ⊢; split at hne <;> simp_all
      rw [if_pos (List.any_eq_true.2 ⟨z, hzm, by simpa using hne⟩), h8]
      exact EndI.mk fun w9 h9 => ⟨_, _, rfl, Own.nil⟩
    have hz0 : Zo.chk z = 0 := by have := of_decide_eq_false z2; simpa using this
    have hl10 : b10 < w5.heap.size := h5.lt b10 (by simp)
    have hw5 : Below w.heap.size w v5 := h5.below.trans (hB5.mono h5.below.size)
    refine LoopI.invC (α := Nat × World) (fun y => [(38, .val (.int .i64 y.1))]) (fun y => y.2)
      (fun y => y.1 ≤ M ∧ Below w.heap.size w y.2 ∧ v5.heap.size ≤ y.2.heap.size ∧ ∃ g, MSet y.2 B (i * M + y.1) g ∧ ∀ x, g x = (Rg.inL (l.take i) long x || (Rg.isR long x && decide (x < (y.1 : Int)) && (Zo.has z (Rg.pt x long)).1))) (fun y => M - y.1) ?_ ?_
    · intro w6 h6
      refine ⟨(0, w6), Cov.mk (by repeat' (first | exact trivial | refine And.intro rfl ?_)) rfl rfl rfl rfl rfl, rfl, Nat.zero_le _, h6.below, h6.size, f, hf5.at h6 (by simp), fun x => ?_⟩
      rw [hfx x]
      have hno : (Rg.isR long x && decide (x < ((0 : Nat) : Int)) && (Zo.has z (Rg.pt x long)).1) = false := by
        by_cases h : x < 0
        · have : Rg.isR long x = false := by unfold Rg.isR; rw [decide_eq_false (by omega : ¬ 0 ≤ x)]; rfl
          rw [this]; rfl
        · rw [decide_eq_false (by simpa using h)]; simp
      rw [hno, Bool.or_false]
    rintro ⟨k, U⟩ ⟨hk, hU, hvu, g, hg, hgx⟩
    simp only at hk hU hvu hg hgx
    refine Branch.mk (fun z3 => ?_) (fun z3 => ?_)
    · have hkM : k < M := by have := of_decide_eq_true z3; simp only at this; omega
      obtain ⟨hk0, hk1⟩ := hsup k hkM
      have hki : inK .i64 (k : Int) := by simp only [inK]; omega
      have hBU := hg.lt
      have hpins : (Rg.pt k long).ins := by
        have ht : 0 ≤ (k : Int) / 3 / Rg.sides long ∧ (k : Int) / 3 / Rg.sides long ≤ 1000 := by
          have h1 : 0 ≤ (k : Int) / 3 / Rg.sides long := Int.ediv_nonneg (by omega) (by omega)
          have h2 : (k : Int) / 3 / Rg.sides long < Rg.sides long := by
            refine Int.ediv_lt_of_lt_mul (by omega) ?_
            have : (k : Int) < 3 * (Rg.sides long * Rg.sides long) := by rw [← Int.mul_assoc, ← hmany]; exact hk1
            omega
          omega
        have hu : 0 ≤ (k : Int) / 3 % Rg.sides long ∧ (k : Int) / 3 % Rg.sides long ≤ 1000 := by
          have h1 := Int.emod_nonneg ((k : Int) / 3) (b := Rg.sides long) (by omega)
          have h2 := Int.emod_lt_of_pos ((k : Int) / 3) (b := Rg.sides long) (by omega)
          omega
        have hp : (0 ≤ (Rg.parts ((k : Int) % 3)).1 ∧ (Rg.parts ((k : Int) % 3)).1 ≤ 10) ∧ (0 ≤ (Rg.parts ((k : Int) % 3)).2.1 ∧ (Rg.parts ((k : Int) % 3)).2.1 ≤ 10) ∧ (1 ≤ (Rg.parts ((k : Int) % 3)).2.2 ∧ (Rg.parts ((k : Int) % 3)).2.2 ≤ 10) := by
          rcases (by omega : (k : Int) % 3 = 0 ∨ (k : Int) % 3 = 1 ∨ (k : Int) % 3 = 2) with h | h | h <;> rw [h] <;> simp [Rg.parts]
        exact ⟨Rg.time_ins ht hp.1 hp.2.2, Rg.time_ins hu hp.2.1 hp.2.2⟩
      have hR : Rg.isR long k = (Rg.point k long).2 := by
        unfold Rg.isR
        rw [decide_eq_true hk0, decide_eq_true hk1]; simp
      -- what comes of it, if number k's own word stands
      have hstep : ∀ g' : Int → Bool, (∀ x, x ≠ (k : Int) → g' x = g x) → g' k = (g k || ((Rg.point k long).2 && (Zo.has z (Rg.pt k long)).1)) → ∀ x, g' x = (Rg.inL (l.take i) long x || (Rg.isR long x && decide (x < ((k + 1 : Nat) : Int)) && (Zo.has z (Rg.pt x long)).1)) := fun g' h1 h2 x => by
        by_cases e : x = (k : Int)
        · subst e
          rw [h2, hgx, hR, decide_eq_false (by omega : ¬ (k : Int) < (k : Int)), decide_eq_true (by omega : (k : Int) < ((k + 1 : Nat) : Int))]
          simp
        · rw [h1 x e, hgx]
          have : decide (x < (k : Int)) = decide (x < ((k + 1 : Nat) : Int)) := by rw [decide_eq_decide]; omega
          rw [this]
      apply CallI.use1
      focus (exact fun w6 h6 => point_any k long hl ⟨hk0, hk1⟩ w6)
      intro w6 v6 h6 hB6
      have hg6 := (hg.below (at_belowM h6 (by simp))).below hB6
      refine NewI.mk fun b13 hb13 => ?_
      have hb13' : v6.heap.size ≤ b13 := hb13
      have hU6 : U.heap.size ≤ v6.heap.size := Nat.le_trans h6.size hB6.size
      have hnB : B ∉ [b10, b13] := by simp; omega
      refine Branch.mk (fun z4 => ?_) (fun z4 => ?_)
      · refine ⟨fun w7 h7 => ?_⟩
        have hg7 := hg6.at h7 (by simp <;> omega)
        refine ⟨_, w7, hg7.look k hki, KpOk.ok h7 (Below.refl _ _), ?_⟩
        have hs7 := h7.size
        by_cases hgk : g k = true
        · rw [if_pos hgk]
          refine Branch.no rfl ?_
          refine Need.mk (by simp only [inK]; omega) (EndI.mk fun w9 h9 => ⟨(k + 1, w9), Cov.mk (by repeat' (first | exact trivial | refine And.intro rfl ?_)) rfl rfl rfl rfl rfl, rfl, ⟨hkM, h9.below, by have := h9.size; simp only; omega, g, ?_, hstep g (fun _ _ => rfl) (by rw [hgk]; rfl)⟩, by simp only; omega⟩)
          obtain ⟨D, q1, q2, q3⟩ := hg7.at h9 (by simp <;> omega)
          exact ⟨D, q1.mono (by simp only; omega), q2, q3⟩
        · have hgf : g k = false := by simpa using hgk
          rw [if_neg hgk]
          refine Branch.yes rfl ?_
          apply CallI.use
          focus (exact fun w8 h8 => zhas_any z (Rg.pt k long) hpins w8)
          rintro v w8 v8 h8 hB8 rfl
          have hg8 := (hg7.at h8 (by simp <;> omega)).below hB8
          have hs8 := h8.size
          have hs8' := hB8.size
          refine Branch.mk (fun z5 => ?_) (fun z5 => ?_)
          · refine ⟨fun w9 h9 => ?_⟩
            have hg9 := hg8.at h9 (by simp <;> omega)
            have hs9 := h9.size
            obtain ⟨w10, hrun, hput, hgr⟩ := hg9.put k hki (by
              have : i * M ≤ 4096 * 3267 := Nat.mul_le_mul (by omega) hM4
              omega)
            refine ⟨w10, hrun, keep_grown h9 hgr (fun q hq => by injection hq with hq; subst hq; exact ⟨hwb, hnB⟩), ?_⟩
            have hs10 := hgr.size
            refine Need.mk (by simp only [inK]; omega) (EndI.mk fun w11 h11 => ⟨(k + 1, w11), Cov.mk (by repeat' (first | exact trivial | refine And.intro rfl ?_)) rfl rfl rfl rfl rfl, rfl, ⟨hkM, h11.below, by have := h11.size; simp only; omega, (fun y => g y || decide (y = (k : Int))), ?_, hstep (fun y => g y || decide (y = (k : Int))) (fun x hx => ?_) ?_⟩, by simp only; omega⟩)
            · obtain ⟨D, q1, q2, q3⟩ := hput.at h11 (by simp <;> omega)
              exact ⟨D, q1.mono (by simp only; omega), q2, q3⟩
            · simp [hx]
            · rw [z4, z5]; simp
          · refine Need.mk (by simp only [inK]; omega) (EndI.mk fun w9 h9 => ⟨(k + 1, w9), Cov.mk (by repeat' (first | exact trivial | refine And.intro rfl ?_)) rfl rfl rfl rfl rfl, rfl, ⟨hkM, h9.below, by have := h9.size; simp only; omega, g, ?_, hstep g (fun _ _ => rfl) (by rw [z5]; simp)⟩, by simp only; omega⟩)
            obtain ⟨D, q1, q2, q3⟩ := hg8.at h9 (by simp <;> omega)
            exact ⟨D, q1.mono (by simp only; omega), q2, q3⟩
      · refine Need.mk (by simp only [inK]; omega) (EndI.mk fun w9 h9 => ⟨(k + 1, w9), Cov.mk (by repeat' (first | exact trivial | refine And.intro rfl ?_)) rfl rfl rfl rfl rfl, rfl, ⟨hkM, h9.below, by have := h9.size; simp only; omega, g, ?_, hstep g (fun _ _ => rfl) (by rw [z4]; simp)⟩, by simp only; omega⟩)
        obtain ⟨D, q1, q2, q3⟩ := hg6.at h9 (by simp <;> omega)
        exact ⟨D, q1.mono (by simp only; omega), q2, q3⟩
    · have hge : k = M := by have := of_decide_eq_false z3; simp only at this; omega
      subst hge
      refine Need.mk (by simp only [inK]; omega) (EndI.mk fun w9 h9 => ⟨(i + 1, w9), Cov.mk (by repeat' (first | exact trivial | refine And.intro rfl ?_)) rfl rfl rfl rfl rfl, rfl, ⟨hiN, h9.below, fun y hy => ?_, g, ?_, fun x => ?_⟩, by simp only; omega⟩)
      · rw [hts] at hy
        rcases List.mem_append.1 hy with h | h
        · exact hzs y h
        · rw [List.mem_singleton.1 h]; exact hz0
      · have := hg.at h9 (by simp)
        rw [show (i + 1) * k = i * k + k by rw [Nat.add_mul, Nat.one_mul]]
        exact this
      · rw [hgx, hts]
        unfold Rg.inL
        rw [List.any_append]
        by_cases hr : Rg.isR long x = true
        · have hx2 : x < (k : Int) := by
            unfold Rg.isR at hr
            simp only [Bool.and_eq_true, decide_eq_true_eq] at hr
            omega
          rw [hr, decide_eq_true hx2]; simp
        · have : Rg.isR long x = false := by simpa using hr
          rw [this]; simp
  · have hge : i = l.length := by have := of_decide_eq_false z1; simp only at this; omega
    subst hge
    rw [List.take_length] at hzs hfx
    rw [if_neg (by
      intro h
      obtain ⟨z, hz, h⟩ := List.any_eq_true.1 h
      simp [hzs z hz] at h)]
    apply CallI.use
    focus (exact fun w5 h5 => rising_any (f := f) (by
      have : l.length * M ≤ 4096 * 3267 := Nat.mul_le_mul hlen hM4
      omega) (Rg.up long (Rg.inL l long)) (Rg.up_rising _ _) (fun x => by rw [Rg.mem_up (fun x hx => Rg.inL_in hx), hfx]) w5 (hf.at h5 (by simp)))
    rintro v w5 v5 h5 hB5 hO5
    obtain ⟨a5, c5, rfl⟩ := hO5.form
    exact EndI.mk fun w9 h9 => ⟨_, _, rfl, (hO5.lower h5.below.size).below (at_belowM h9 (by simp))⟩
end Go.Proofs.YtjbhpfmnfdebkaaGreat

/-
  The document's answer of layer 14: Marks, between, Comp, by the engine.
-/
namespace Go.Proofs.YtjbhpfmnfdebkaaGreat
set_option linter.unusedVariables false
set_option linter.unusedSimpArgs false
set_option maxRecDepth 100000
open Go.RowKit Go.Proofs.YtjbhpfmnfdebkaaGreat.Eng Enc

namespace Rg
/-- the marks of the first k of some numbers. -/
def mks (l : List Int) (M k : Nat) : List Bool := (List.range M).map fun n : Nat => decide ((n : Int) ∈ l.take k)
theorem mks_len (l : List Int) (M k : Nat) : (mks l M k).length = M := by simp [mks]
theorem mks_get {l : List Int} {M k n : Nat} (h : n < M) : (mks l M k)[n]? = some (decide ((n : Int) ∈ l.take k)) := by
  unfold mks
  rw [List.getElem?_map, List.getElem?_range h]; rfl
theorem mks_zero (l : List Int) (M : Nat) : mks l M 0 = List.replicate M false := by
  unfold mks
  simp only [List.take_zero, List.not_mem_nil, decide_false, List.map_const', List.length_range]
theorem mks_step {l : List Int} {M k : Nat} {x : Int} (hx : l[k]? = some x) : mks l M (k + 1) = if 0 ≤ x ∧ x < (M : Int) then (mks l M k).set x.toNat true else mks l M k := by
  have ht : l.take (k + 1) = l.take k ++ [x] := by rw [List.take_add_one, hx]; rfl
  apply List.ext_getElem?
  intro n
  by_cases hn : n < M
  · rw [mks_get hn, ht]
    split
    · by_cases e : x.toNat = n
      · subst e
        rw [List.getElem?_set_self (by rw [mks_len]; exact hn)]
        congr 1
        rw [decide_eq_true]
        rw [List.mem_append, List.mem_singleton]; right; omega
      · rw [List.getElem?_set_ne e, mks_get hn]
        congr 1
        rw [decide_eq_decide, List.mem_append, List.mem_singleton]
        constructor
        · rintro (h | h)
          · exact h
          · omega
        · exact .inl
    · rw [mks_get hn]
      congr 1
      rw [decide_eq_decide, List.mem_append, List.mem_singleton]
      constructor
      · rintro (h | h)
        · exact h
        · omega
      · exact .inl
  · rw [List.getElem?_eq_none (by rw [mks_len]; omega)]
    split
    · rw [List.getElem?_eq_none (by rw [List.length_set, mks_len]; omega)]
    · rw [List.getElem?_eq_none (by rw [mks_len]; omega)]
end Rg
/-- a row of truth values of one's own. -/
def BOwn (base : Nat) (W : World) (v : Value) (s : List Bool) : Prop := ∃ g c, v = .slice (some ⟨g, 0, none⟩) s.length c ∧ s.length ≤ c ∧ c ≤ maxLen ∧ base ≤ g ∧ BRow W g s
theorem BOwn.sl {base : Nat} {W : World} {v : Value} {s : List Bool} (h : BOwn base W v s) : Sl W.heap.size W v s := by
  obtain ⟨g, c, rfl, h1, h2, h3, h4⟩ := h
  exact h4.sl h1 h2
theorem rmarks14_any (l : List Int) (hlen : l.length ≤ 1000000) (long : Int) (hl : 1 ≤ long ∧ long ≤ 16) (M : Nat) (hM : 3 * (2 * long + 1) * (2 * long + 1) = M) (a : Option Addr) (ca : Nat) (w : World) (hS : Sl w.heap.size w (.slice a l.length ca) l) :
    Calls Tryz.prog 177 #[.slice a l.length ca, .int .i64 long] w (Ret w fun v w' => BOwn w.heap.size w' v (Rg.mks l M l.length)) := by
  refine fun_ret 0 w Tryz.func177 (args := [.val (.slice a l.length ca), .val (.int .i64 long)]) rfl rfl ?_
  have st := Stay.first (w := w)
  have hmm := Fr.mul_bd (u := 3 * (2 * long + 1)) (v := 2 * long + 1) (m := 99) (n := 33) (by omega) (by omega) (by omega) (by omega)
  have hM4 : M ≤ 3267 := by omega
  have hM0 : 0 < M := by
    have h : 9 * 3 ≤ 3 * (2 * long + 1) * (2 * long + 1) := Int.mul_le_mul (by omega) (by omega) (by omega) (by omega)
    omega
  apply CallI.use1
  focus (exact fun w2 h2 => rcount14_any long hl w2)
  intro w2 v2 h2 hB2
  have st := st.next h2 (fun x hx => by simp at hx <;> omega) hB2
  rw [hM]
  refine GenV.mks (α := Bool) elBo false infoBo M rfl (by simp [Enc.size]; omega) (by omega) fun v w3 v3 h3 hB3 hOw => ?_
  have st := st.next h3 (fun x hx => by simp at hx <;> omega) hB3
  obtain ⟨ab, cb, rfl⟩ := hOw.form
  have hBk := Rg.mks_zero l M
  rw [← hBk] at hOw ⊢
  obtain ⟨g, rfl, hgb, hcb1, hcb2, hRow⟩ := BRow.of hOw (by rw [Rg.mks_len]; omega)
  have hgw : w.heap.size ≤ g := by have := h3.below.size; simp only at this; omega
  rw [Rg.mks_len] at hcb1 ⊢
  refine LoopI.invC (α := Nat × World) (fun y => [(6, .val (.int .i64 y.1))]) (fun y => y.2) (fun y => y.1 ≤ l.length ∧ Below w.heap.size w y.2 ∧ BRow y.2 g (Rg.mks l M y.1)) (fun y => l.length - y.1) ?_ ?_
  · intro w5 h5
    exact ⟨(0, w5), Cov.mk (by repeat' (first | exact trivial | refine And.intro rfl ?_)) rfl rfl rfl rfl rfl, rfl, Nat.zero_le _, h5.below, hRow.at h5 (by simp)⟩
  rintro ⟨k, W⟩ ⟨hk, hW, hRk⟩
  simp only at hk hW hRk
  refine Branch.mk (fun hb => ?_) (fun hb => ?_)
  · have hlt : k < l.length := by have := of_decide_eq_true hb; simp only at this; omega
    have hx := List.getElem?_eq_getElem (l := l) (i := k) hlt
    generalize l[k] = x at hx
    have hes := Rg.mks_step (M := M) hx
    have hSW := hS.go hW hW.size
    refine hSW.idx hx fun ad had => ?_
    refine hSW.ld1 hx had (Below.refl _ _) (by simp) ?_
    refine Branch.mk (fun z1 => ?_) (fun z1 => ?_)
    · have z1' : 0 ≤ x := of_decide_eq_true z1
      refine hSW.idx hx fun ad had => ?_
      refine hSW.ld1 hx had (Below.refl _ _) (by simp) ?_
      refine Branch.mk (fun z2 => ?_) (fun z2 => ?_)
      · have z2' : x < M := of_decide_eq_true z2
        rw [if_pos ⟨z1', z2'⟩] at hes
        refine hSW.idx hx fun ad had => ?_
        refine hSW.ld1 hx had (Below.refl _ _) (by simp) ?_
        obtain ⟨f, rfl⟩ : ∃ f : Nat, x = f := ⟨x.toNat, by omega⟩
        refine IdxI.mk ⟨_, ⟨rfl, by omega, by omega⟩, ?_⟩
        refine StoreI.mk fun w5 h5 => ?_
        have r5 := hRk.at h5 (by simp)
        rw [show ((⟨g, 0, none⟩ : Addr).add ((f : Int).toNat * 1)) = ⟨g, f, none⟩ by simp [addr_addL]]
        have hfl : f < (Rg.mks l M k).length := by rw [Rg.mks_len]; omega
        refine ⟨⟨⟨_, r5.cell (List.getElem?_eq_getElem hfl)⟩, r5.frozen _⟩, keep_set hgw (by simp), ?_⟩
        have r6 := r5.set hfl true
        have B6 : Below w.heap.size w (w5.setCell ⟨g, f, none⟩ (.bool true)) := h5.below.setCell (p := ⟨g, f, none⟩) hgw _
        generalize w5.setCell ⟨g, f, none⟩ (.bool true) = w6 at r6 B6
        rw [Int.toNat_natCast] at hes
        rw [← hes] at r6
        exact Need.mk (by simp only [inK]; omega) (EndI.mk fun w7 h7 => ⟨(k + 1, w7), Cov.mk (by repeat' (first | exact trivial | refine And.intro rfl ?_)) rfl rfl rfl rfl rfl, rfl, ⟨hlt, h7.below, r6.at h7 (by simp)⟩, by simp only; omega⟩)
      · rw [if_neg (fun h => absurd (decide_eq_true h.2) (by rw [z2]; decide))] at hes
        rw [← hes] at hRk
        exact Need.mk (by simp only [inK]; omega) (EndI.mk fun w7 h7 => ⟨(k + 1, w7), Cov.mk (by repeat' (first | exact trivial | refine And.intro rfl ?_)) rfl rfl rfl rfl rfl, rfl, ⟨hlt, h7.below, hRk.at h7 (by simp)⟩, by simp only; omega⟩)
    · rw [if_neg (fun h => absurd (decide_eq_true h.1) (by rw [z1]; decide))] at hes
      rw [← hes] at hRk
      exact Need.mk (by simp only [inK]; omega) (EndI.mk fun w7 h7 => ⟨(k + 1, w7), Cov.mk (by repeat' (first | exact trivial | refine And.intro rfl ?_)) rfl rfl rfl rfl rfl, rfl, ⟨hlt, h7.below, hRk.at h7 (by simp)⟩, by simp only; omega⟩)
  · have hge : k = l.length := by have := of_decide_eq_false hb; simp only at this; omega
    subst hge
    exact EndI.mk fun w7 h7 => ⟨g, cb, by rw [Rg.mks_len], by rw [Rg.mks_len]; exact hcb1, hcb2, hgw, hRk.at h7 (by simp)⟩
end Go.Proofs.YtjbhpfmnfdebkaaGreat

/-
  The document's answer of layer 3, by the engine: Made, Add, Mid.
-/
namespace Go.Proofs.YtjbhpfmnfdebkaaGreat
set_option linter.unusedVariables false
set_option linter.unusedSimpArgs false
set_option maxRecDepth 100000
open Go.RowKit Go.Proofs.YtjbhpfmnfdebkaaGreat.Eng Enc

namespace Fr
/-- a whole number and a part of it, as far as it may be. -/
def made (W p d : Int) : Rt × Bool :=
  if 1048576 < d ∨ 2305843009213693952 < W ∨ W < -2305843009213693952 then (⟨0, 0⟩, false)
  else if inI (W * d + p) = true then (⟨W * d + p, d⟩, okB (W * d + p) d) else (⟨0, 0⟩, false)
theorem made_finish {W p d : Int} (hg : Int.gcd p d = 1) : finish W p d = if (made W p d).2 = true then ((made W p d).1, 0) else (⟨0, 0⟩, 10) := by
  have hgW : Int.gcd (W * d + p) d = 1 := by rw [Int.add_comm, Int.gcd_add_mul_right_left]; exact hg
  unfold finish made low
  rw [hgW]
  by_cases hor : 1048576 < d ∨ 2305843009213693952 < W ∨ W < -2305843009213693952
  · simp only [if_pos hor]
    by_cases h1 : 1048576 < d
    · rw [if_pos h1]; rfl
    · rw [if_neg h1, if_pos]
      · rfl
      · unfold Num.chk Num.okB
        simp
        omega
  · simp only [if_neg hor]
    rw [if_neg (by omega), if_neg]
    · by_cases h3 : inI (W * d + p) = true
      · rw [if_pos h3, if_pos h3]; simp
      · rw [if_neg h3, if_neg h3]; rfl
    · unfold Num.chk Num.okB
      simp
      omega
end Fr
theorem rcommonI_any (P D : Int) (hP : 0 ≤ P) (hD : 0 ≤ D) (h1 : inK .i64 P) (h2 : inK .i64 D) (w : World) :
    Calls Tryz.prog 272 #[.int .i64 P, .int .i64 D] w fun e w' => e = .returned (.int .i64 (Int.gcd P D : Nat)) ∧ Below w.heap.size w w' := by
  simp only [inK] at h1 h2
  have h := rcommon03_any P.natAbs D.natAbs (by omega) (by omega) w
  rwa [show ((P.natAbs : Nat) : Int) = P by omega, show ((D.natAbs : Nat) : Int) = D by omega] at h
theorem edge_hi {K d W : Int} (hd : 1 ≤ d) (hK : 0 ≤ K) : K.tdiv d < W ↔ K < W * d := by
  rw [Int.tdiv_eq_ediv_of_nonneg hK]; exact Int.ediv_lt_iff_lt_mul (by omega)
theorem edge_lo {M d W : Int} (hd : 1 ≤ d) (hM : 0 ≤ M) : W < (-M).tdiv d ↔ W * d < -M := by
  rw [Int.neg_tdiv, Int.tdiv_eq_ediv_of_nonneg hM]
  have := Int.ediv_lt_iff_lt_mul (a := M) (b := -W) (c := d) (by omega)
  rw [Int.neg_mul] at this; omega
theorem tdiv_in {K d : Int} (hd : 1 ≤ d) (hK : inK .i64 K) : inK .i64 (K.tdiv d) := by
  simp only [inK] at hK ⊢
  by_cases h : 0 ≤ K
  · rw [Int.tdiv_eq_ediv_of_nonneg h]
    have := Int.ediv_le_self d h
    have := Int.ediv_nonneg h (by omega : 0 ≤ d)
    omega
  · have e : K = -(-K) := by omega
    rw [e, Int.neg_tdiv, Int.tdiv_eq_ediv_of_nonneg (by omega)]
    have := Int.ediv_le_self d (by omega : 0 ≤ -K)
    have := Int.ediv_nonneg (by omega : 0 ≤ -K) (by omega : 0 ≤ d)
    omega
theorem rmade03_any (W P D : Int) (hW : -9223372036854775807 ≤ W ∧ W < 9223372036854775807) (hP : 0 ≤ P ∧ P < D) (hD : D ≤ 4398046511104) (w : World) :
    Calls Tryz.prog 240 #[.int .i64 W, .int .i64 P, .int .i64 D] w fun e w' => e = .returned (.tuple #[.agg #[.int .i64 (Fr.made W (P / Int.gcd P D) (D / Int.gcd P D)).1.num, .int .i64 (Fr.made W (P / Int.gcd P D) (D / Int.gcd P D)).1.den], .bool (Fr.made W (P / Int.gcd P D) (D / Int.gcd P D)).2]) ∧ Below w.heap.size w w' := by
  refine fun_eq 0 w Tryz.func240 (args := [.val (.int .i64 W), .val (.int .i64 P), .val (.int .i64 D)]) rfl rfl ?_
  have hcm := fun w => rcommonI_any P D hP.1 (by omega) (by simp only [inK]; omega) (by simp only [inK]; omega) w
  obtain ⟨hg, _, _, hp, hd1, hd2⟩ := Fr.red (T := 0 * D + P) (W := 0) (D := D) (p := P) (by omega) hP rfl
  have t1 : P.tdiv (Int.gcd P D) = P / (Int.gcd P D : Int) := Int.tdiv_eq_ediv_of_nonneg hP.1
  have t2 : D.tdiv (Int.gcd P D) = D / (Int.gcd P D : Int) := Int.tdiv_eq_ediv_of_nonneg (by omega)
  generalize (Int.gcd P D : Int) = g at *
  refine NewI.mk fun b1 hb1 => ?_
  apply CallI.use1
  focus (exact fun w2 h2 => hcm w2)
  intro w2 v2 h2 hB2
  generalize P / g = p at *
  generalize D / g = d at *
  refine Need.mk ⟨by omega, by rw [t1]; simp only [inK]; omega⟩ ?_
  refine Need.mk ⟨by omega, by rw [t2]; simp only [inK]; omega⟩ ?_
  conv => whnf
  rw [t1, t2]
  unfold Fr.made
  refine Branch.mk (fun z1 => ?_) (fun z1 => ?_)
  · refine EndI.mk fun w9 h9 => ?_
    rw [if_pos (.inl (of_decide_eq_true z1))]
  refine Branch.mk (fun z2 => ?_) (fun z2 => ?_)
  · refine EndI.mk fun w9 h9 => ?_
    rw [if_pos (.inr (.inl (of_decide_eq_true z2)))]
  refine Branch.mk (fun z3 => ?_) (fun z3 => ?_)
  · refine EndI.mk fun w9 h9 => ?_
    rw [if_pos (.inr (.inr (of_decide_eq_true z3)))]
  replace z1 := of_decide_eq_false z1
  replace z2 := of_decide_eq_false z2
  replace z3 := of_decide_eq_false z3
  rw [if_neg (by omega)]
  have hdd : d ≤ 1048576 := by omega
  have hWd1 : W * d ≤ 2305843009213693952 * d := Int.mul_le_mul_of_nonneg_right (by omega) (by omega)
  have hWd2 : -2305843009213693952 * d ≤ W * d := Int.mul_le_mul_of_nonneg_right (by omega) (by omega)
  refine Branch.mk (fun z4 => ?_) (fun z4 => ?_)
  · replace z4 := of_decide_eq_true z4
    have em1 : maxL 0 [p - d] = 0 := by simp only [maxL]; split <;> omega
    have em2 : minL 0 [p - d] = p - d := by simp only [minL]; split <;> omega
    have hm : (W + 1) * d = W * d + d := by rw [Int.add_mul, Int.one_mul]
    have hm0 : (W + 1) * d ≤ 0 := by rw [Int.mul_comm]; exact Int.mul_nonpos_of_nonneg_of_nonpos (by omega) (by omega)
    refine Need.mk (by simp only [inK]; omega) ?_
    refine Need.mk (by simp only [inK]; omega) ?_
    conv => whnf
    rw [em1]
    refine Need.mk (by simp only [inK]; omega) ?_
    refine Need.mk ⟨by omega, tdiv_in (by omega) (by simp only [inK]; omega)⟩ ?_
    refine Branch.no (decide_eq_false ?_) ?_
    · intro h
      have := (edge_hi (by omega) (by omega)).1 h
      omega
    conv => whnf
    rw [em2]
    refine Need.mk (by simp only [inK]; omega) ?_
    refine Need.mk ⟨by omega, tdiv_in (by omega) (by simp only [inK]; omega)⟩ ?_
    have he := edge_lo (M := 9223372036854775808 + (p - d)) (d := d) (W := W + 1) (by omega) (by omega)
    rw [show -(9223372036854775808 + (p - d)) = -9223372036854775808 - (p - d) by omega] at he
    refine Branch.mk (fun z5 => ?_) (fun z5 => ?_)
    · have h5 := he.1 (of_decide_eq_true z5)
      refine EndI.mk fun w9 h9 => ?_
      rw [if_neg]
      unfold Fr.inI; simp; omega
    · have h5 : ¬ _ := fun h => of_decide_eq_false z5 (he.2 h)
      refine Need.mk (by simp only [inK]; omega) ?_
      refine Need.mk (by simp only [inK]; omega) ?_
      refine NewI.mk fun b3 hb3 => ?_
      conv => whnf
      rw [show (W + 1) * d + (p - d) = W * d + p by omega]
      have hI : Fr.inI (W * d + p) = true := by unfold Fr.inI; simp; omega
      rw [if_pos hI]
      refine DrawI.wr (.tk 0 (.tk 1 (.ev 2 (.ev 3 (.tk 4 .done))))) [0] [] (by kernel_rfl) rfl (by simp) fun w6 h6 => ?_
      apply CallI.use1
      focus (exact fun w7 h7 => rmay03_any ⟨W * d + p, d⟩ ⟨by simp only [inK]; omega, by simp only [inK]; omega⟩ w7)
      intro w7 v7 h7 hB7
      exact EndI.mk fun w9 h9 => rfl
  · replace z4 := of_decide_eq_false z4
    have em1 : maxL 0 [p] = p := by simp only [maxL]; split <;> omega
    have em2 : minL 0 [p] = 0 := by simp only [minL]; split <;> omega
    have hm0 : 0 ≤ W * d := Int.mul_nonneg (by omega) (by omega)
    conv => whnf
    rw [em1]
    refine Need.mk (by simp only [inK]; omega) ?_
    refine Need.mk ⟨by omega, tdiv_in (by omega) (by simp only [inK]; omega)⟩ ?_
    have he := edge_hi (K := 9223372036854775807 - p) (d := d) (W := W) (by omega) (by omega)
    refine Branch.mk (fun z5 => ?_) (fun z5 => ?_)
    · have h5 := he.1 (of_decide_eq_true z5)
      refine EndI.mk fun w9 h9 => ?_
      rw [if_neg]
      unfold Fr.inI; simp; omega
    have h5 : ¬ _ := fun h => of_decide_eq_false z5 (he.2 h)
    conv => whnf
    rw [em2]
    refine Need.mk (by simp only [inK]; omega) ?_
    refine Need.mk ⟨by omega, tdiv_in (by omega) (by simp only [inK]; omega)⟩ ?_
    have he := edge_lo (M := 9223372036854775808) (d := d) (W := W) (by omega) (by omega)
    refine Branch.no (decide_eq_false ?_) ?_
    · intro h
      have := he.1 h
      omega
    refine Need.mk (by simp only [inK]; omega) ?_
    refine Need.mk (by simp only [inK]; omega) ?_
    refine NewI.mk fun b3 hb3 => ?_
    have hI : Fr.inI (W * d + p) = true := by unfold Fr.inI; simp; omega
    rw [if_pos hI]
    refine DrawI.wr (.tk 0 (.tk 1 (.ev 2 (.ev 3 (.tk 4 .done))))) [0] [] (by kernel_rfl) rfl (by simp) fun w6 h6 => ?_
    apply CallI.use1
    focus (exact fun w7 h7 => rmay03_any ⟨W * d + p, d⟩ ⟨by simp only [inK]; omega, by simp only [inK]; omega⟩ w7)
    intro w7 v7 h7 hB7
    exact EndI.mk fun w9 h9 => rfl
namespace Fr
theorem made_sum {a b : Rt} {k : Int} (ha : a.ok = true) (hb : b.ok = true) (hk : k = 1 ∨ k = 2) :
    sum a b k = if (made (sW a b k) (sPart a b k / Int.gcd (sPart a b k) (sDen a b * k)) (sDen a b * k / Int.gcd (sPart a b k) (sDen a b * k))).2 = true then ((made (sW a b k) (sPart a b k / Int.gcd (sPart a b k) (sDen a b * k)) (sDen a b * k / Int.gcd (sPart a b k) (sDen a b * k))).1, 0) else (⟨0, 0⟩, 10) := by
  rw [← finish_sum ha hb hk]
  refine made_finish ?_
  have hd := dn_pos ha hb hk
  have := Int.gcd_ediv_gcd_ediv_gcd (i := sPart a b k) (j := sDen a b * k) (by have := Int.gcd_pos_of_ne_zero_right (sPart a b k) (b := sDen a b * k) (by omega); omega)
  exact this
end Fr
theorem radd03_any (a b : Rt) (ha : a.ins) (hb : b.ins) (w : World) :
    Calls Tryz.prog 179 #[.agg #[.int .i64 a.num, .int .i64 a.den], .agg #[.int .i64 b.num, .int .i64 b.den]] w fun e w' => e = .returned (.tuple #[.agg #[.int .i64 (Fr.add a b).1.num, .int .i64 (Fr.add a b).1.den], .int .i64 (Fr.add a b).2]) ∧ Below w.heap.size w w' := by
  refine fun_eq 0 w Tryz.func179 (args := [.agg [.val (.int .i64 a.num), .val (.int .i64 a.den)], .agg [.val (.int .i64 b.num), .val (.int .i64 b.den)]]) rfl rfl ?_
  refine NewI.mk fun b1 hb1 => ?_
  refine NewI.mk fun b2 hb2 => ?_
  refine NewI.mk fun b3 hb3 => ?_
  unfold Fr.add
  apply CallI.use1
  focus (exact fun x11 g11 => rmay03_any a ha x11)
  intro x11 v11 g11 hB11
  refine Branch.mk (fun z1 => ?_) (fun z1 => ?_)
  · refine EndI.mk fun w9 h9 => ?_
    rw [if_neg (by intro h; rw [h.1] at z1; cases z1)]
  apply CallI.use1
  focus (exact fun x12 g12 => rmay03_any b hb x12)
  intro x12 v12 g12 hB12
  refine Branch.mk (fun z2 => ?_) (fun z2 => ?_)
  · refine EndI.mk fun w9 h9 => ?_
    rw [if_neg (by intro h; rw [h.2] at z2; cases z2)]
  have oka : a.ok = true := by simpa using z1
  have okb : b.ok = true := by simpa using z2
  rw [if_pos ⟨oka, okb⟩]
  have h1 := Fr.ok_bd oka
  have h2 := Fr.ok_bd okb
  have hd := Fr.dn_pos oka okb (k := 1) (by decide)
  have hs := Fr.sum_bd oka okb (k := 1) (by decide)
  have hd0 : 1 ≤ a.den * b.den ∧ a.den * b.den ≤ 1099511627776 := ⟨hd.1, hd.2.1⟩
  have hm0 : Fr.sWhole a b % 1 * (a.den * b.den) ≤ 1099511627776 ∧ 0 ≤ Fr.sWhole a b % 1 * (a.den * b.den) := ⟨hs.2.2.2.1.2, hs.2.2.2.1.1⟩
  have hm := Fr.made_sum oka okb (k := 1) (by decide)
  change Fr.sum a b 1 = if (Fr.made (Fr.sWhole a b / 1 + Fr.sRest2 a b 1 / (Fr.sDen a b * 1)) _ _).2 = true then ((Fr.made (Fr.sWhole a b / 1 + Fr.sRest2 a b 1 / (Fr.sDen a b * 1)) _ _).1, 0) else (⟨0, 0⟩, 10) at hm
  have hq : (Fr.sRest2 a b 1).tdiv (Fr.sDen a b * 1) = Fr.sRest2 a b 1 / (Fr.sDen a b * 1) := Int.tdiv_eq_ediv_of_nonneg hs.2.2.2.2.1.1
  have hr : (Fr.sRest2 a b 1).tmod (Fr.sDen a b * 1) = Fr.sPart a b 1 := Int.tmod_eq_emod_of_nonneg hs.2.2.2.2.1.1
  refine Need.mk (by simp only [inK]; omega) ?_
  have eD : a.den * b.den = Fr.sDen a b * 1 := by unfold Fr.sDen; omega
  have eR : a.num % a.den * b.den + b.num % b.den * a.den = Fr.sRest2 a b 1 := by unfold Fr.sRest2 Fr.sRest; simp [Int.emod_one]
  have eN : a.num / a.den + b.num / b.den = Fr.sWhole a b / 1 := by unfold Fr.sWhole; omega
  refine DrawI.go (.tk 0 (.tk 1 (.tk 2 (.tk 3 (.tk 5 (.tk 6 (.tk 8 (.tk 9 (.tk 10 (.tk 11 (.tk 13 (.tk 14 (.ev 4 (.tk 7 (.ev 12 (.tk 15 (.tk 16 (.tk 17 .done)))))))))))))))))) (by kernel_rfl) fun w3 h3 => ?_
  apply CallI.use1
  focus (exact fun x13 g13 => rpart03_any a.num a.den h1.1 ha.2 x13)
  intro x13 v13 g13 hB13
  refine Need.mk (by simp only [inK]; omega) ?_
  apply CallI.use1
  focus (exact fun x14 g14 => rpart03_any b.num b.den h2.1 hb.2 x14)
  intro x14 v14 g14 hB14
  refine Need.mk (by simp only [inK]; omega) ?_
  refine Need.mk (by simp only [inK]; omega) ?_
  refine DrawI.go (.tk 0 (.tk 1 (.tk 2 (.tk 3 (.tk 5 (.tk 6 (.tk 7 (.tk 8 (.tk 11 (.tk 12 (.tk 13 (.tk 15 (.tk 16 (.tk 17 (.tk 18 (.two 4 (.two 9 (.tk 10 (.tk 14 (.two 19 (.tk 20 (.tk 21 (.tk 22 (.ev 23 (.ev 24 (.tk 25 .done)))))) 23 (.ev 19 (.tk 20 (.tk 21 (.tk 22 (.ev 24 (.tk 25 .done))))))))) 23 (.ev 9 (.tk 10 (.tk 14 (.ev 19 (.tk 20 (.tk 21 (.tk 22 (.ev 24 (.tk 25 .done)))))))))) 23 (.ev 4 (.ev 9 (.tk 10 (.tk 14 (.ev 19 (.tk 20 (.tk 21 (.tk 22 (.ev 24 (.tk 25 .done)))))))))))))))))))))))))) (by kernel_rfl) fun w6 h6 => ?_
  conv => whnf
  rw [eR, eD]
  refine Need.mk (by rw [hq]; simp only [inK]; omega) ?_
  refine Need.mk (by omega) ?_
  conv => whnf
  rw [hr]
  refine Both.mk ?_ ?_
  · skip
    apply CallI.use1
    focus (exact fun x21 g21 => rlow03_any a.num a.den h1.1 ha.1 x21)
    intro x21 v21 g21 hB21
    refine Both.mk ?_ ?_
    · skip
      apply CallI.use1
      focus (exact fun x22 g22 => rlow03_any b.num b.den h2.1 hb.1 x22)
      intro x22 v22 g22 hB22
      refine Need.mk (by simp only [inK]; omega) ?_
      conv => whnf
      rw [hq, eN]
      refine Need.mk (by simp only [inK]; omega) ?_
      refine Both.mk ?_ ?_
      · skip
        apply CallI.use1
        focus (exact fun x23 g23 => rmade03_any (Fr.sWhole a b / 1 + Fr.sRest2 a b 1 / (Fr.sDen a b * 1)) (Fr.sPart a b 1) (Fr.sDen a b * 1) (by omega) (by omega) (by omega) x23)
        intro x23 v23 g23 hB23
        generalize Fr.made (Fr.sWhole a b / 1 + Fr.sRest2 a b 1 / (Fr.sDen a b * 1)) (Fr.sPart a b 1 / (Int.gcd (Fr.sPart a b 1) (Fr.sDen a b * 1) : Int)) (Fr.sDen a b * 1 / (Int.gcd (Fr.sPart a b 1) (Fr.sDen a b * 1) : Int)) = M at hm ⊢
        refine NewI.mk fun c24 hc24 => ?_
        refine Branch.mk (fun zz => ?_) (fun zz => ?_)
        · exact EndI.mk fun w9 h9 => by rw [hm, if_neg (by simpa using zz)]
        · exact EndI.mk fun w9 h9 => by rw [hm, if_pos (by simpa using zz)]
      · skip
        refine NewI.mk fun c25 hc25 => ?_
        apply CallI.use1
        focus (exact fun x26 g26 => rmade03_any (Fr.sWhole a b / 1 + Fr.sRest2 a b 1 / (Fr.sDen a b * 1)) (Fr.sPart a b 1) (Fr.sDen a b * 1) (by omega) (by omega) (by omega) x26)
        intro x26 v26 g26 hB26
        generalize Fr.made (Fr.sWhole a b / 1 + Fr.sRest2 a b 1 / (Fr.sDen a b * 1)) (Fr.sPart a b 1 / (Int.gcd (Fr.sPart a b 1) (Fr.sDen a b * 1) : Int)) (Fr.sDen a b * 1 / (Int.gcd (Fr.sPart a b 1) (Fr.sDen a b * 1) : Int)) = M at hm ⊢
        refine Branch.mk (fun zz => ?_) (fun zz => ?_)
        · exact EndI.mk fun w9 h9 => by rw [hm, if_neg (by simpa using zz)]
        · exact EndI.mk fun w9 h9 => by rw [hm, if_pos (by simpa using zz)]
    · skip
      refine NewI.mk fun c27 hc27 => ?_
      apply CallI.use1
      focus (exact fun x28 g28 => rlow03_any b.num b.den h2.1 hb.1 x28)
      intro x28 v28 g28 hB28
      refine Need.mk (by simp only [inK]; omega) ?_
      conv => whnf
      rw [hq, eN]
      refine Need.mk (by simp only [inK]; omega) ?_
      apply CallI.use1
      focus (exact fun x29 g29 => rmade03_any (Fr.sWhole a b / 1 + Fr.sRest2 a b 1 / (Fr.sDen a b * 1)) (Fr.sPart a b 1) (Fr.sDen a b * 1) (by omega) (by omega) (by omega) x29)
      intro x29 v29 g29 hB29
      generalize Fr.made (Fr.sWhole a b / 1 + Fr.sRest2 a b 1 / (Fr.sDen a b * 1)) (Fr.sPart a b 1 / (Int.gcd (Fr.sPart a b 1) (Fr.sDen a b * 1) : Int)) (Fr.sDen a b * 1 / (Int.gcd (Fr.sPart a b 1) (Fr.sDen a b * 1) : Int)) = M at hm ⊢
      refine Branch.mk (fun zz => ?_) (fun zz => ?_)
      · exact EndI.mk fun w9 h9 => by rw [hm, if_neg (by simpa using zz)]
      · exact EndI.mk fun w9 h9 => by rw [hm, if_pos (by simpa using zz)]
  · skip
    refine NewI.mk fun c30 hc30 => ?_
    apply CallI.use1
    focus (exact fun x31 g31 => rlow03_any a.num a.den h1.1 ha.1 x31)
    intro x31 v31 g31 hB31
    apply CallI.use1
    focus (exact fun x32 g32 => rlow03_any b.num b.den h2.1 hb.1 x32)
    intro x32 v32 g32 hB32
    refine Need.mk (by simp only [inK]; omega) ?_
    conv => whnf
    rw [hq, eN]
    refine Need.mk (by simp only [inK]; omega) ?_
    apply CallI.use1
    focus (exact fun x33 g33 => rmade03_any (Fr.sWhole a b / 1 + Fr.sRest2 a b 1 / (Fr.sDen a b * 1)) (Fr.sPart a b 1) (Fr.sDen a b * 1) (by omega) (by omega) (by omega) x33)
    intro x33 v33 g33 hB33
    generalize Fr.made (Fr.sWhole a b / 1 + Fr.sRest2 a b 1 / (Fr.sDen a b * 1)) (Fr.sPart a b 1 / (Int.gcd (Fr.sPart a b 1) (Fr.sDen a b * 1) : Int)) (Fr.sDen a b * 1 / (Int.gcd (Fr.sPart a b 1) (Fr.sDen a b * 1) : Int)) = M at hm ⊢
    refine Branch.mk (fun zz => ?_) (fun zz => ?_)
    · exact EndI.mk fun w9 h9 => by rw [hm, if_neg (by simpa using zz)]
    · exact EndI.mk fun w9 h9 => by rw [hm, if_pos (by simpa using zz)]
end Go.Proofs.YtjbhpfmnfdebkaaGreat

/-
  The document's answer of layer 3: sixths, by the engine.
-/
namespace Go.Proofs.YtjbhpfmnfdebkaaGreat
set_option linter.unusedVariables false
set_option linter.unusedSimpArgs false
set_option maxRecDepth 100000
open Go.RowKit Go.Proofs.YtjbhpfmnfdebkaaGreat.Eng Enc

namespace Rg
/-- so many sixths. -/
def six (n : Nat) : Rt := ⟨(n : Int).tdiv (Int.gcd ((n : Int) % 6) 6 : Nat), (6 : Int).tdiv (Int.gcd ((n : Int) % 6) 6 : Nat)⟩
theorem six_all : ((List.range 97).all fun n : Nat => decide (Fr.of (n : Int) 6 = (six n, 0)) && (six n).ok && decide (1 ≤ Int.gcd ((n : Int) % 6) 6) && decide (Int.gcd ((n : Int) % 6) 6 ≤ 6)) = true := by decide +kernel
theorem six_at {n : Nat} (hn : n < 97) : Fr.of (n : Int) 6 = (six n, 0) ∧ (six n).ok = true ∧ 1 ≤ Int.gcd ((n : Int) % 6) 6 ∧ Int.gcd ((n : Int) % 6) 6 ≤ 6 := by
  have := List.all_eq_true.1 six_all n (List.mem_range.2 hn)
  simp only [Bool.and_eq_true, decide_eq_true_eq] at this
  exact ⟨this.1.1.1, this.1.1.2, this.1.2, this.2⟩
theorem six_ins {n : Nat} (hn : n < 97) : (six n).ins := by
  obtain ⟨h1, h2, h3, h4⟩ := six_at hn
  have e6 : (6 : Int).tdiv (Int.gcd ((n : Int) % 6) 6 : Nat) = 6 / (Int.gcd ((n : Int) % 6) 6 : Nat) := Int.tdiv_eq_ediv_of_nonneg (by omega)
  have en : (n : Int).tdiv (Int.gcd ((n : Int) % 6) 6 : Nat) = n / (Int.gcd ((n : Int) % 6) 6 : Nat) := Int.tdiv_eq_ediv_of_nonneg (by omega)
  have b6 : 0 ≤ (6 : Int) / (Int.gcd ((n : Int) % 6) 6 : Nat) ∧ (6 : Int) / (Int.gcd ((n : Int) % 6) 6 : Nat) ≤ 6 := ⟨Int.ediv_nonneg (by omega) (by omega), Int.ediv_le_self _ (by omega)⟩
  have bn : 0 ≤ (n : Int) / (Int.gcd ((n : Int) % 6) 6 : Nat) ∧ (n : Int) / (Int.gcd ((n : Int) % 6) 6 : Nat) ≤ n := ⟨Int.ediv_nonneg (by omega) (by omega), Int.ediv_le_self _ (by omega)⟩
  unfold six
  exact ⟨by rw [en]; simp only [inK]; omega, by rw [e6]; simp only [inK]; omega⟩
end Rg
theorem rsix03_any (n : Nat) (hn : n < 97) (w : World) :
    Calls Tryz.prog 237 #[.int .i64 (n : Int), .int .i64 6] w fun e w' => e = .returned (.tuple #[.agg #[.int .i64 (Rg.six n).num, .int .i64 (Rg.six n).den], .int .i64 0]) ∧ Below w.heap.size w w' := by
  refine fun_eq 0 w Tryz.func237 (args := [.val (.int .i64 n), .val (.int .i64 6)]) rfl rfl ?_
  obtain ⟨h1, h2, h3, h4⟩ := Rg.six_at hn
  have hgi : inK .i64 ((Int.gcd ((n : Int) % 6) 6 : Nat) : Int) := by simp only [inK]; omega
  refine NewI.mk fun b1 hb1 => ?_
  refine Branch.no (by decide) ?_
  (first
    | (refine CallI.to1 (rpart03_any (n : Int) 6 (by omega) (by simp only [inK]; omega)) fun w2 => ?_)
    | (refine Branch.yes rfl ?_)
    | (refine Branch.no rfl ?_)
    | (refine Branch.mk (fun hb => ?_) (fun hb => ?_))
    | (refine NewI.mk fun nb hnb => ?_)
    | (refine Need.mk (by show _ ∧ _; omega) ?_)
    | (refine Need.mk (by omega) ?_)
    | (refine Need.mk ?_ ?_)
    | (refine EndI.mk fun w1 h1 => ?_))
  (first
    | (refine CallI.to1 (rcommonI_any ((n : Int) % 6) 6 (by omega) (by omega) (by simp only [inK]; omega) (by simp only [inK]; omega)) fun w2 => ?_)
    | (refine Branch.yes rfl ?_)
    | (refine Branch.no rfl ?_)
    | (refine Branch.mk (fun hb => ?_) (fun hb => ?_))
    | (refine NewI.mk fun nb hnb => ?_)
    | (refine Need.mk (by show _ ∧ _; omega) ?_)
    | (refine Need.mk (by omega) ?_)
    | (refine Need.mk ?_ ?_)
    | (refine EndI.mk fun w1 h1 => ?_))
  have e6 : (6 : Int).tdiv (Int.gcd ((n : Int) % 6) 6 : Nat) = 6 / (Int.gcd ((n : Int) % 6) 6 : Nat) := Int.tdiv_eq_ediv_of_nonneg (by omega)
  have en : (n : Int).tdiv (Int.gcd ((n : Int) % 6) 6 : Nat) = n / (Int.gcd ((n : Int) % 6) 6 : Nat) := Int.tdiv_eq_ediv_of_nonneg (by omega)
  have b6 : 0 ≤ (6 : Int) / (Int.gcd ((n : Int) % 6) 6 : Nat) ∧ (6 : Int) / (Int.gcd ((n : Int) % 6) 6 : Nat) ≤ 6 := ⟨Int.ediv_nonneg (by omega) (by omega), Int.ediv_le_self _ (by omega)⟩
  have bn : 0 ≤ (n : Int) / (Int.gcd ((n : Int) % 6) 6 : Nat) ∧ (n : Int) / (Int.gcd ((n : Int) % 6) 6 : Nat) ≤ n := ⟨Int.ediv_nonneg (by omega) (by omega), Int.ediv_le_self _ (by omega)⟩
  refine Need.mk ⟨by omega, by rw [e6]; simp only [inK]; omega⟩ ?_
  refine Branch.no (by rw [e6]; simp; omega) ?_
  refine DrawI.go (.tk 0 (.tk 1 (.tk 2 (.tk 3 (.tk 4 (.tk 5 (.tk 6 (.ev 7 (.ev 8 .done))))))))) (by kernel_rfl) fun w1 h1 => ?_
  refine Need.mk ⟨by omega, by rw [en]; simp only [inK]; omega⟩ ?_
  refine Need.mk ⟨by omega, by rw [e6]; simp only [inK]; omega⟩ ?_
  refine NewI.mk fun b2 hb2 => ?_
  apply CallI.use1
  focus (exact fun w5 h5 => rmay03_any (Rg.six n) (Rg.six_ins hn) w5)
  intro w5 v5 h5 hB5
  refine Branch.no (by rw [h2]; rfl) ?_
  exact EndI.mk fun w9 h9 => rfl
end Go.Proofs.YtjbhpfmnfdebkaaGreat

/-
  The plain law of RegionPoints: whether a pair is in a zone hangs on the pair's region alone.
-/
namespace Go.Proofs.YtjbhpfmnfdebkaaGreat
set_option linter.unusedVariables false
set_option linter.unusedSimpArgs false
set_option maxRecDepth 100000
open Go.RowKit Go.Proofs.YtjbhpfmnfdebkaaGreat.Eng Enc
namespace Rg
def mg (T : Int) : Bool := (List.range 33).all fun U : Nat => (List.range 3).all fun r : Nat => !(may3 T U r) || good3 T U r
theorem mg_0 : ((List.range 17).all fun T : Nat => mg T) = true := by decide +kernel
theorem mg_1 : ((List.range 16).all fun T : Nat => mg ((T : Int) + 17)) = true := by decide +kernel
theorem may_good {T U r : Int} (hT : 0 ≤ T ∧ T < 33) (h : may3 T U r = true) : good3 T U r = true := by
  have h0 := h
  simp only [may3, Bool.and_eq_true, Bool.or_eq_true, decide_eq_true_eq] at h0
  have hm : mg T = true := by
    by_cases h17 : T < 17
    · have := List.all_eq_true.1 mg_0 T.toNat (List.mem_range.2 (by omega))
      rwa [Int.toNat_of_nonneg hT.1] at this
    · have := List.all_eq_true.1 mg_1 (T - 17).toNat (List.mem_range.2 (by omega))
      rwa [show ((T - 17).toNat : Int) + 17 = T by omega] at this
  have h1 := List.all_eq_true.1 hm U.toNat (List.mem_range.2 (by omega))
  have h2 := List.all_eq_true.1 h1 r.toNat (List.mem_range.2 (by omega))
  rw [Int.toNat_of_nonneg (by omega), Int.toNat_of_nonneg (by omega), h] at h2
  simpa using h2
/-- a pair's region has a point, in the same region. -/
theorem rep_of {p : Pt} {long : Int} (hl : 1 ≤ long ∧ long ≤ 16) (hp : 0 ≤ number p long) : may3 (place p.t) (place p.u) (order p) = true ∧ (point (number p long) long).2 = true ∧ 0 ≤ number p long ∧ number p long < (many long).1 ∧
    (pt (number p long) long).t.ok = true ∧ (pt (number p long) long).u.ok = true ∧ place (pt (number p long) long).t = place p.t ∧ place (pt (number p long) long).u = place p.u ∧ order (pt (number p long) long) = order p := by
  have hs : 3 ≤ sides long ∧ sides long ≤ 33 := by unfold sides; omega
  have hnum := hp
  obtain ⟨k1, k2, k3, k4⟩ := number_back (p := p) rfl hp hl
  obtain ⟨ht, hu, _⟩ := cmp_lt k1
  have hk1 := (cmp_iff ht hu).1 k1
  have hcd : ¬ (0 ≤ (Fr.cmp p.t p.u).1 ∨ place p.t < 0 ∨ sides long ≤ place p.u) := fun h => by
    unfold number at hp; rw [if_pos h] at hp; omega
  have hmy : may3 (place p.t) (place p.u) (order p) = true := by
    have ho : 0 ≤ order p ∧ order p ≤ 2 := order_three p
    have x1 := rX_bd ht hu
    have x2 := rX_bd hu ht
    have e1 := place_eq ht hu
    have e2 := place_eq hu ht
    have hor : ((place p.t % 2 = 1 ∧ place p.u % 2 = 1) ∧ order p = 1 + cmpI (rX p.t p.u) (rX p.u p.t)) ∨ (¬ (place p.t % 2 = 1 ∧ place p.u % 2 = 1) ∧ order p = 1) := by
      unfold order
      by_cases h : place p.t % 2 = 1 ∧ place p.u % 2 = 1
      · rw [if_pos h, cmp_part ht hu]; exact .inl ⟨h, rfl⟩
      · rw [if_neg h]; exact .inr ⟨h, rfl⟩
    have hcc : (rX p.t p.u < rX p.u p.t ∧ cmpI (rX p.t p.u) (rX p.u p.t) = -1) ∨ (rX p.t p.u = rX p.u p.t ∧ cmpI (rX p.t p.u) (rX p.u p.t) = 0) ∨ (rX p.u p.t < rX p.t p.u ∧ cmpI (rX p.t p.u) (rX p.u p.t) = 1) := by unfold cmpI; split <;> (try split) <;> omega
    simp only [may3, Bool.and_eq_true, Bool.or_eq_true, decide_eq_true_eq]
    generalize order p = o at *
    generalize cmpI (rX p.t p.u) (rX p.u p.t) = c at *
    generalize rX p.t p.u = x at *
    generalize rX p.u p.t = y at *
    generalize p.t.num / p.t.den = A at *
    generalize p.u.num / p.u.den = B at *
    generalize place p.t = T at *
    generalize place p.u = U at *
    split at e1 <;> split at e2 <;> omega
  have hT : 0 ≤ place p.t ∧ place p.t < 33 := by
    simp only [may3, Bool.and_eq_true, Bool.or_eq_true, decide_eq_true_eq] at hmy
    omega
  have hg := may_good hT hmy
  have hpt : pt (number p long) long = pt3 (place p.t) (place p.u) (order p) := by
    unfold pt pt3
    rw [← k2, ← k3, ← k4]
  unfold good3 at hg
  simp only [Bool.and_eq_true, decide_eq_true_eq] at hg
  obtain ⟨⟨⟨g1, g2⟩, g3⟩, g4⟩ := hg
  rw [← hpt] at g1 g2 g3 g4
  obtain ⟨o1, o2, _⟩ := cmp_lt g1
  have hval : number p long = 3 * (place p.t * sides long + place p.u) + order p := by
    conv => lhs; unfold number
    rw [if_neg hcd]
  have hsame : number (pt (number p long) long) long = number p long := by
    have hun : ∀ q : Pt, (Fr.cmp q.t q.u).1 < 0 → place q.t = place p.t → place q.u = place p.u → order q = order p → number q long = 3 * (place p.t * sides long + place p.u) + order p := fun q q1 q2 q3 q4 => by
      unfold number
      rw [q2, q3, q4, if_neg (by omega)]
    rw [hun _ g1 g2 g3 g4, hval]
  have hmn : number p long < (many long).1 := by
    have e : number p long = 3 * (place p.t * sides long + place p.u) + order p := by
      conv => lhs; unfold number
      rw [if_neg hcd]
    have hm : (many long).1 = 3 * sides long * sides long := by unfold many; rw [if_pos (fits_iff.2 hl)]
    have ho : 0 ≤ order p ∧ order p ≤ 2 := order_three p
    have h1 : place p.t < sides long := by
      simp only [may3, Bool.and_eq_true, Bool.or_eq_true, decide_eq_true_eq] at hmy
      omega
    have h2 : place p.t * sides long ≤ (sides long - 1) * sides long := Int.mul_le_mul_of_nonneg_right (by omega) (by omega)
    rw [Int.sub_mul, Int.one_mul] at h2
    rw [e, hm, Int.mul_assoc]
    omega
  exact ⟨hmy, by unfold point; simpa using hsame, hp, hmn, o1, o2, g2, g3, g4⟩
end Rg
end Go.Proofs.YtjbhpfmnfdebkaaGreat

/-
  The document's answer of layer 14: between, Comp, by the engine.
-/
namespace Go.Proofs.YtjbhpfmnfdebkaaGreat
set_option linter.unusedVariables false
set_option linter.unusedSimpArgs false
set_option maxRecDepth 100000
open Go.RowKit Go.Proofs.YtjbhpfmnfdebkaaGreat.Eng Enc

namespace Rg
/-- is there a time among the first k sixths, with a pair marked up to it, and one from it on? -/
def btw1 (A B : List Bool) (p : Pt) (long : Int) (n : Nat) : Bool := decide (0 ≤ number ⟨p.t, six n⟩ long) && decide (0 ≤ number ⟨six n, p.u⟩ long) && A[(number ⟨p.t, six n⟩ long).toNat]?.getD false && B[(number ⟨six n, p.u⟩ long).toNat]?.getD false
def btwB (A B : List Bool) (p : Pt) (long : Int) (k : Nat) : Bool := (List.range k).any fun n => btw1 A B p long n
theorem btwB_step (A B : List Bool) (p : Pt) (long : Int) (k : Nat) : btwB A B p long (k + 1) = (btwB A B p long k || btw1 A B p long k) := by
  unfold btwB
  rw [List.range_succ, List.any_append]
  simp
theorem btwB_found {A B : List Bool} {p : Pt} {long : Int} {k m : Nat} (h : btw1 A B p long k = true) (hk : k < m) : btwB A B p long m = true := List.any_eq_true.2 ⟨k, List.mem_range.2 hk, h⟩
end Rg
theorem rbetween_any (A B : List Bool) (long : Int) (hl : 1 ≤ long ∧ long ≤ 16) (M : Nat) (hM : (Rg.many long).1 = M) (hA : A.length = M) (hB : B.length = M) (p : Pt) (hp : p.ins) (ht : p.t.ok = true) (hu : p.u.ok = true) (a b : Option Addr) (ca cb : Nat) (w : World) (hSA : Sl w.heap.size w (.slice a A.length ca) A) (hSB : Sl w.heap.size w (.slice b B.length cb) B) :
    Calls Tryz.prog 178 #[.slice a A.length ca, .slice b B.length cb, .agg #[.int .i64 p.t.num, .int .i64 p.t.den, .int .i64 p.u.num, .int .i64 p.u.den], .int .i64 long] w fun e w' => e = .returned (.bool (Rg.btwB A B p long (6 * long + 1).toNat)) ∧ Below w.heap.size w w' := by
  refine fun_eq 0 w Tryz.func178 (args := [.val (.slice a A.length ca), .val (.slice b B.length cb), .agg [.val (.int .i64 p.t.num), .val (.int .i64 p.t.den), .val (.int .i64 p.u.num), .val (.int .i64 p.u.den)], .val (.int .i64 long)]) rfl rfl ?_
  obtain ⟨K, hK⟩ : ∃ K : Nat, 6 * long + 1 = K := ⟨(6 * long + 1).toNat, by omega⟩
  rw [hK, Int.toNat_natCast]
  refine NewI.mk fun b1 hb1 => ?_
  refine LoopI.invC (α := Nat × World) (fun y => [(9, .val (.int .i64 y.1))]) (fun y => y.2) (fun y => y.1 ≤ K ∧ Below w.heap.size w y.2 ∧ Rg.btwB A B p long y.1 = false) (fun y => K - y.1) ?_ ?_
  · intro w1 h1
    exact ⟨(0, w1), Cov.mk (by repeat' (first | exact trivial | refine And.intro rfl ?_)) rfl rfl rfl rfl rfl, rfl, Nat.zero_le _, h1.below, rfl⟩
  rintro ⟨k, V⟩ ⟨hk, hV, hno⟩
  simp only at hk hV hno
  refine Need.mk (by simp only [inK]; omega) ?_
  refine Branch.mk (fun z1 => ?_) (fun z1 => ?_)
  · have hkK : k < K := by have := of_decide_eq_true z1; simp only at this; omega
    have hk97 : k < 97 := by omega
    obtain ⟨s1, s2, s3, s4⟩ := Rg.six_at hk97
    have s5 := Rg.six_ins hk97
    have hstep := Rg.btwB_step A B p long k
    rw [hno, Bool.false_or] at hstep
    apply CallI.use1
    focus (exact fun w5 h5 => rsix03_any k hk97 w5)
    intro w5 v5 h5 hB5
    refine NewI.mk fun b2 hb2 => ?_
    have cX := fun w => rnumber14_any ⟨p.t, Rg.six k⟩ long ⟨hp.1, s5⟩ ht s2 hl w
    have cY := fun w => rnumber14_any ⟨Rg.six k, p.u⟩ long ⟨s5, hp.2⟩ s2 hu hl w
    have rX := Rg.rep_of (p := ⟨p.t, Rg.six k⟩) hl
    have rY := Rg.rep_of (p := ⟨Rg.six k, p.u⟩) hl
    unfold Rg.btw1 at hstep
    have hfound := Rg.btwB_found (A := A) (B := B) (p := p) (long := long) (k := k) (m := K)
    unfold Rg.btw1 at hfound
    generalize Rg.number ⟨p.t, Rg.six k⟩ long = X at cX hstep rX hfound
    generalize Rg.number ⟨Rg.six k, p.u⟩ long = Y at cY hstep rY hfound
    apply CallI.use1
    focus (exact fun w6 h6 => cX w6)
    intro w6 v6 h6 hB6
    apply CallI.use1
    focus (exact fun w7 h7 => cY w7)
    intro w7 v7 h7 hB7
    have hV7 : Below w.heap.size w v7 := h7.below.trans (hB7.mono h7.below.size)
    have hSA7 := hSA.go hV7 hV7.size
    have hSB7 := hSB.go hV7 hV7.size
    refine Branch.mk (fun c1 => ?_) (fun c1 => ?_)
    · have c1' : 0 ≤ X := of_decide_eq_true c1
      obtain ⟨x, rfl⟩ : ∃ x : Nat, X = x := ⟨X.toNat, by omega⟩
      have hxM : x < A.length := by have := (rX c1').2.2.2.1; omega
      refine Branch.mk (fun c2 => ?_) (fun c2 => ?_)
      · have c2' : 0 ≤ Y := of_decide_eq_true c2
        obtain ⟨y, rfl⟩ : ∃ y : Nat, Y = y := ⟨Y.toNat, by omega⟩
        have hyM : y < B.length := by have := (rY c2').2.2.2.1; omega
        have gx := List.getElem?_eq_getElem hxM
        have gy := List.getElem?_eq_getElem hyM
        generalize A[x] = ax at gx
        generalize B[y] = bx at gy
        rw [decide_eq_true c1', decide_eq_true c2', Int.toNat_natCast, Int.toNat_natCast, gx, gy] at hstep hfound
        simp only [Bool.true_and, Option.getD_some] at hstep hfound
        refine hSA7.idx gx fun ad had => ?_
        refine hSA7.ldv gx rfl had (Below.refl _ _) (by simp) ?_
        refine Branch.mk (fun c3 => ?_) (fun c3 => ?_)
        · subst c3
          refine hSB7.idx gy fun ad2 had2 => ?_
          refine hSB7.ldv gy rfl had2 (Below.refl _ _) (by simp) ?_
          refine Branch.mk (fun c4 => ?_) (fun c4 => ?_)
          · subst c4
            exact EndI.mk fun w9 h9 => by rw [hfound rfl hkK]
          · subst c4
            exact Need.mk (by simp only [inK]; omega) (EndI.mk fun w9 h9 => ⟨(k + 1, w9), Cov.mk (by repeat' (first | exact trivial | refine And.intro rfl ?_)) rfl rfl rfl rfl rfl, rfl, ⟨hkK, h9.below, by rw [hstep]; rfl⟩, by simp only; omega⟩)
        · subst c3
          exact Need.mk (by simp only [inK]; omega) (EndI.mk fun w9 h9 => ⟨(k + 1, w9), Cov.mk (by repeat' (first | exact trivial | refine And.intro rfl ?_)) rfl rfl rfl rfl rfl, rfl, ⟨hkK, h9.below, by rw [hstep]; rfl⟩, by simp only; omega⟩)
      · rw [c2] at hstep
        exact Need.mk (by simp only [inK]; omega) (EndI.mk fun w9 h9 => ⟨(k + 1, w9), Cov.mk (by repeat' (first | exact trivial | refine And.intro rfl ?_)) rfl rfl rfl rfl rfl, rfl, ⟨hkK, h9.below, by rw [hstep]; simp⟩, by simp only; omega⟩)
    · rw [c1] at hstep
      exact Need.mk (by simp only [inK]; omega) (EndI.mk fun w9 h9 => ⟨(k + 1, w9), Cov.mk (by repeat' (first | exact trivial | refine And.intro rfl ?_)) rfl rfl rfl rfl rfl, rfl, ⟨hkK, h9.below, by rw [hstep]; simp⟩, by simp only; omega⟩)
  · have hge : k = K := by have := of_decide_eq_false z1; simp only at this; omega
    subst hge
    exact EndI.mk fun w9 h9 => by rw [hno]
namespace Rg
/-- of a word on numbers, what it says of those that are done. -/
def done (f : Int → Bool) (M k : Nat) : List Bool := (List.range M).map fun n : Nat => decide (n < k) && f n
theorem done_len (f : Int → Bool) (M k : Nat) : (done f M k).length = M := by simp [done]
theorem done_get {f : Int → Bool} {M k n : Nat} (h : n < M) : (done f M k)[n]? = some (decide (n < k) && f n) := by
  unfold done
  rw [List.getElem?_map, List.getElem?_range h]; rfl
theorem done_zero (f : Int → Bool) (M : Nat) : done f M 0 = List.replicate M false := by
  unfold done
  simp only [Nat.not_lt_zero, decide_false, Bool.false_and, List.map_const', List.length_range]
theorem done_step (f : Int → Bool) {M k : Nat} (hk : k < M) : done f M (k + 1) = (done f M k).set k (f k) := by
  apply List.ext_getElem?
  intro n
  by_cases hn : n < M
  · rw [done_get hn]
    by_cases e : k = n
    · subst e
      rw [List.getElem?_set_self (by rw [done_len]; exact hn), decide_eq_true (by omega : k < k + 1)]
      simp
    · rw [List.getElem?_set_ne e, done_get hn]
      congr 2
      rw [decide_eq_decide]; omega
  · rw [List.getElem?_eq_none (by rw [done_len]; omega), List.getElem?_eq_none (by rw [List.length_set, done_len]; omega)]
theorem done_pick (f : Int → Bool) {long : Int} {M : Nat} (hM : (many long).1 = M) : pkTo (done f M M) M = up long f := by
  unfold pkTo up
  rw [hM, Int.toNat_natCast]
  congr 1
  apply List.filter_congr
  intro n hn
  have hn' := List.mem_range.1 hn
  rw [done_get hn', decide_eq_true hn']
  simp
end Rg
theorem Rg.pt_fine {n long : Int} (hl : 1 ≤ long ∧ long ≤ 16) (hn : 0 ≤ n ∧ n < 3 * (2 * long + 1) * (2 * long + 1)) : (Rg.pt n long).ins ∧ (Rg.pt n long).t.ok = true ∧ (Rg.pt n long).u.ok = true := by
  have hs : Rg.sides long = 2 * long + 1 := rfl
  have ht : 0 ≤ n / 3 / Rg.sides long ∧ n / 3 / Rg.sides long ≤ 1000 := by
    have h1 : 0 ≤ n / 3 / Rg.sides long := Int.ediv_nonneg (by omega) (by omega)
    have h2 : n / 3 / Rg.sides long < Rg.sides long := by
      refine Int.ediv_lt_of_lt_mul (by omega) ?_
      have : n < 3 * (Rg.sides long * Rg.sides long) := by rw [← Int.mul_assoc]; exact hn.2
      omega
    omega
  have hu : 0 ≤ n / 3 % Rg.sides long ∧ n / 3 % Rg.sides long ≤ 1000 := by
    have h1 := Int.emod_nonneg (n / 3) (b := Rg.sides long) (by omega)
    have h2 := Int.emod_lt_of_pos (n / 3) (b := Rg.sides long) (by omega)
    omega
  have h3 := Rg.parts_three (r := n % 3) (by omega)
  have hp : (0 ≤ (Rg.parts (n % 3)).1 ∧ (Rg.parts (n % 3)).1 ≤ 10) ∧ (0 ≤ (Rg.parts (n % 3)).2.1 ∧ (Rg.parts (n % 3)).2.1 ≤ 10) ∧ (1 ≤ (Rg.parts (n % 3)).2.2 ∧ (Rg.parts (n % 3)).2.2 ≤ 10) := by
    rcases (by omega : n % 3 = 0 ∨ n % 3 = 1 ∨ n % 3 = 2) with h | h | h <;> rw [h] <;> simp [Rg.parts]
  exact ⟨⟨Rg.time_ins ht hp.1 hp.2.2, Rg.time_ins hu hp.2.1 hp.2.2⟩, (Rg.time_doc ht h3.1).2, (Rg.time_doc hu h3.2).2⟩
theorem rcomp14_any (a b : List Int) (ha : a.length ≤ 1000000) (hb : b.length ≤ 1000000) (long : Int) (hl : 1 ≤ long ∧ long ≤ 16) (pa pb : Option Addr) (ca cb : Nat) (w : World) (hSA : Sl w.heap.size w (.slice pa a.length ca) a) (hSB : Sl w.heap.size w (.slice pb b.length cb) b) :
    Calls Tryz.prog 107 #[.slice pa a.length ca, .slice pb b.length cb, .int .i64 long] w (Ret w fun v w' => Own TKi w.heap.size w' v (Rg.up long fun x => (Rg.point x long).2 && Rg.btwB (Rg.mks a (Rg.many long).1.toNat a.length) (Rg.mks b (Rg.many long).1.toNat b.length) (Rg.pt x long) long (6 * long + 1).toNat)) := by
  refine fun_ret 0 w Tryz.func107 (args := [.val (.slice pa a.length ca), .val (.slice pb b.length cb), .val (.int .i64 long)]) rfl rfl ?_
  have st := Stay.first (w := w)
  have hmm := Fr.mul_bd (u := 3 * (2 * long + 1)) (v := 2 * long + 1) (m := 99) (n := 33) (by omega) (by omega) (by omega) (by omega)
  have hmany := Rg.many_doc hl
  obtain ⟨M, hM⟩ : ∃ M : Nat, 3 * (2 * long + 1) * (2 * long + 1) = M := ⟨(3 * (2 * long + 1) * (2 * long + 1)).toNat, by omega⟩
  have hM1 : (Rg.many long).1 = M := by rw [hmany]; exact hM
  have hM4 : M ≤ 3267 := by omega
  have hM0 : 0 < M := by
    have h : 9 * 3 ≤ 3 * (2 * long + 1) * (2 * long + 1) := Int.mul_le_mul (by omega) (by omega) (by omega) (by omega)
    omega
  rw [hM1, Int.toNat_natCast]
  apply CallI.use
  focus (exact fun w2 h2 => rmarks14_any a ha long hl M hM pa ca w2 (hSA.st (st.at h2 (fun x hx => by simp at hx <;> omega))))
  rintro v w2 v2 h2 hB2 ⟨ga, cA, rfl, qA1, qA2, qA3, qA4⟩
  have st := st.next h2 (fun x hx => by simp at hx <;> omega) hB2
  apply CallI.use
  focus (exact fun w3 h3 => rmarks14_any b hb long hl M hM pb cb w3 (hSB.st (st.at h3 (fun x hx => by simp at hx <;> omega))))
  rintro v w3 v3 h3 hB3 ⟨gb, cB, rfl, qB1, qB2, qB3, qB4⟩
  have st := st.next h3 (fun x hx => by simp at hx <;> omega) hB3
  have hSx := (qA4.sl qA1 qA2).st st
  have hSy := (qB4.sl qB1 qB2).st st
  have hlx := Rg.mks_len a M a.length
  have hly := Rg.mks_len b M b.length
  generalize Rg.mks a M a.length = x at *
  generalize Rg.mks b M b.length = y at *
  apply CallI.use1
  focus (exact fun w4 h4 => rcount14_any long hl w4)
  intro w4 v4 h4 hB4
  have st := st.next h4 (fun x hx => by simp at hx <;> omega) hB4
  rw [hM]
  refine GenV.mks (α := Bool) elBo false infoBo M rfl (by simp [Enc.size]; omega) (by omega) fun v w5 v5 h5 hB5 hOw => ?_
  have st := st.next h5 (fun x hx => by simp at hx <;> omega) hB5
  obtain ⟨ab, cb', rfl⟩ := hOw.form
  have hBk := Rg.done_zero (fun n => (Rg.point n long).2 && Rg.btwB x y (Rg.pt n long) long (6 * long + 1).toNat) M
  have hds := fun k (hk : k < M) => Rg.done_step (fun n => (Rg.point n long).2 && Rg.btwB x y (Rg.pt n long) long (6 * long + 1).toNat) hk
  have hdp := Rg.done_pick (fun n => (Rg.point n long).2 && Rg.btwB x y (Rg.pt n long) long (6 * long + 1).toNat) hM1
  have hdl := fun k => Rg.done_len (fun n => (Rg.point n long).2 && Rg.btwB x y (Rg.pt n long) long (6 * long + 1).toNat) M k
  rw [← hBk] at hOw ⊢
  rw [← hdp]
  generalize hD : Rg.done (fun n => (Rg.point n long).2 && Rg.btwB x y (Rg.pt n long) long (6 * long + 1).toNat) M = D at *
  obtain ⟨g, rfl, hgb, hcb1, hcb2, hRow⟩ := BRow.of hOw (by rw [hdl]; omega)
  have hgw : w.heap.size ≤ g := by have := h5.below.size; simp only at this; omega
  have hg4 : v3.heap.size ≤ g := by
    have := h5.size
    have := h4.size
    have := hB4.size
    omega
  rw [hdl] at hcb1 ⊢
  refine LoopI.invC (α := Nat × World) (fun y => [(10, .val (.int .i64 y.1))]) (fun y => y.2) (fun y => y.1 ≤ M ∧ Below w.heap.size w y.2 ∧ Below v3.heap.size v3 y.2 ∧ BRow y.2 g (D y.1)) (fun y => M - y.1) ?_ ?_
  · intro w6 h6
    exact ⟨(0, w6), Cov.mk (by repeat' (first | exact trivial | refine And.intro rfl ?_)) rfl rfl rfl rfl rfl, rfl, Nat.zero_le _, h6.below, (st.at h6 (fun x hx => by simp at hx <;> omega)).get (X := v3) (by simp), hRow.at h6 (by simp)⟩
  rintro ⟨k, V⟩ ⟨hk, hV, hV3, hRk⟩
  simp only at hk hV hV3 hRk
  refine Branch.mk (fun hb => ?_) (fun hb => ?_)
  · have hlt : k < M := by have := of_decide_eq_true hb; simp only at this; omega
    have hkn : 0 ≤ (k : Int) ∧ (k : Int) < 3 * (2 * long + 1) * (2 * long + 1) := by omega
    obtain ⟨hpi, hpt, hpu⟩ := Rg.pt_fine hl hkn
    have hes := hds k hlt
    have st := Stay.start (w0 := ⟨w, w.heap.size, Nat.le_refl _⟩) hV
    have hgV : g < V.heap.size := hRk.lt
    apply CallI.use1
    focus (exact fun w5 h5 => rof14_any (k : Int) long hl hkn w5)
    intro w6 v6 h6 hB6
    refine NewI.mk fun b2 hb2 => ?_
    have hb2' : v6.heap.size ≤ b2 := hb2
    have hgb2 : b2 ≠ g := by have e1 := h6.size; have e2 := hB6.size; simp only at e1; omega
    have hV6 : Below v3.heap.size v3 v6 := (hV3.trans ((h6.go.trans (hB6.mono h6.size)).mono hV3.size))
    have hR6 := (hRk.at h6 (by simp)).below hB6
    refine Branch.mk (fun c1 => ?_) (fun c1 => ?_)
    · have hes' := hes
      rw [c1, Bool.true_and] at hes'
      apply CallI.use1
      focus (exact fun w7 h7 => rbetween_any x y long hl M hM1 hlx hly (Rg.pt k long) hpi hpt hpu (some ⟨ga, 0, none⟩) (some ⟨gb, 0, none⟩) cA cB w7 (hSx.go (hV6.trans ((at_belowM h7 (fun x hx => by simp at hx <;> omega)).mono hV6.size)) (Nat.le_trans hV6.size h7.size)) (hSy.go (hV6.trans ((at_belowM h7 (fun x hx => by simp at hx <;> omega)).mono hV6.size)) (Nat.le_trans hV6.size h7.size)))
      intro w7 v7 h7 hB7
      have h7B := at_belowM h7 (fun x hx => by simp at hx <;> omega)
      have hV7 : Below v3.heap.size v3 v7 := (hV6.trans (h7B.mono hV6.size)).trans (hB7.mono (Nat.le_trans hV6.size h7.size))
      have hR7 := (hR6.below h7B).below hB7
      have hb7 : v7.heap.size ≤ b2 ∨ b2 < v7.heap.size := by omega
      generalize Rg.btwB x y (Rg.pt k long) long (6 * long + 1).toNat = bv at *
      refine IdxI.mk ⟨_, ⟨rfl, by omega, by omega⟩, ?_⟩
      refine StoreI.mk fun w8 h8 => ?_
      have h8B := at_belowM h8 (fun x hx => by simp at hx <;> omega)
      have r8 := hR7.below h8B
      rw [show ((⟨g, 0, none⟩ : Addr).add ((k : Int).toNat * 1)) = ⟨g, k, none⟩ by simp [addr_addL]]
      have hfl : k < (D k).length := by rw [hdl]; exact hlt
      refine ⟨⟨⟨_, r8.cell (List.getElem?_eq_getElem hfl)⟩, r8.frozen _⟩, keep_set hgw (by intro q hq; rw [List.mem_singleton.1 hq]; exact hgb2), ?_⟩
      have r9 := r8.set hfl bv
      have B9 : Below w.heap.size w (w8.setCell ⟨g, k, none⟩ (.bool bv)) := h8.below.setCell (p := ⟨g, k, none⟩) hgw _
      have B9' : Below v3.heap.size v3 (w8.setCell ⟨g, k, none⟩ (.bool bv)) := (hV7.trans (h8B.mono hV7.size)).setCell (p := ⟨g, k, none⟩) hg4 _
      generalize w8.setCell ⟨g, k, none⟩ (.bool bv) = w9 at r9 B9 B9'
      rw [← hes'] at r9
      exact Need.mk (by simp only [inK]; omega) (EndI.mk fun w10 h10 => ⟨(k + 1, w10), Cov.mk (by repeat' (first | exact trivial | refine And.intro rfl ?_)) rfl rfl rfl rfl rfl, rfl, ⟨hlt, h10.below, B9'.trans (h10.go.mono B9'.size), r9.at h10 (by simp)⟩, by simp only; omega⟩)
    · have hes' := hes
      rw [c1, Bool.false_and] at hes'
      refine IdxI.mk ⟨_, ⟨rfl, by omega, by omega⟩, ?_⟩
      refine StoreI.mk fun w8 h8 => ?_
      have h8B := at_belowM h8 (fun x hx => by simp at hx <;> omega)
      have r8 := hR6.below h8B
      rw [show ((⟨g, 0, none⟩ : Addr).add ((k : Int).toNat * 1)) = ⟨g, k, none⟩ by simp [addr_addL]]
      have hfl : k < (D k).length := by rw [hdl]; exact hlt
      refine ⟨⟨⟨_, r8.cell (List.getElem?_eq_getElem hfl)⟩, r8.frozen _⟩, keep_set hgw (by intro q hq; rw [List.mem_singleton.1 hq]; exact hgb2), ?_⟩
      have r9 := r8.set hfl false
      have B9 : Below w.heap.size w (w8.setCell ⟨g, k, none⟩ (.bool false)) := h8.below.setCell (p := ⟨g, k, none⟩) hgw _
      have B9' : Below v3.heap.size v3 (w8.setCell ⟨g, k, none⟩ (.bool false)) := (hV6.trans (h8B.mono hV6.size)).setCell (p := ⟨g, k, none⟩) hg4 _
      generalize w8.setCell ⟨g, k, none⟩ (.bool false) = w9 at r9 B9 B9'
      rw [← hes'] at r9
      exact Need.mk (by simp only [inK]; omega) (EndI.mk fun w10 h10 => ⟨(k + 1, w10), Cov.mk (by repeat' (first | exact trivial | refine And.intro rfl ?_)) rfl rfl rfl rfl rfl, rfl, ⟨hlt, h10.below, B9'.trans (h10.go.mono B9'.size), r9.at h10 (by simp)⟩, by simp only; omega⟩)
  · have hge : k = M := by have := of_decide_eq_false hb; simp only at this; omega
    subst hge
    have hSl := hRk.sl (c := cb') (by rw [hdl]; exact hcb1) hcb2
    have cP := rpick14_any (D k) (by rw [hdl]; omega) (some ⟨g, 0, none⟩) cb'
    rw [hdl] at cP hSl
    apply CallI.use
    focus (exact fun w6 h6 => cP w6 (hSl.go (at_belowM h6 (by simp)) h6.size))
    rintro v w6 v6 h6 hB6 hO6
    obtain ⟨a6, c6, rfl⟩ := hO6.form
    exact EndI.mk fun w9 h9 => (hO6.lower h6.below.size).below (at_belowM h9 (by simp))
end Go.Proofs.YtjbhpfmnfdebkaaGreat

/-
  The document's answer of layer 14: May, by the engine.
-/
namespace Go.Proofs.YtjbhpfmnfdebkaaGreat
set_option linter.unusedVariables false
set_option linter.unusedSimpArgs false
set_option maxRecDepth 100000
open Go.RowKit Go.Proofs.YtjbhpfmnfdebkaaGreat.Eng Enc

namespace Rg
/-- may the k-th of some regions be, behind those ahead of it? -/
def mayAt (l : List Int) (long : Int) (k : Nat) : Bool := decide ((askPoint (l[k]?.getD 0) long).2 = 0) && (decide (k = 0) || decide (l[k - 1]?.getD 0 < l[k]?.getD 0))
def mayTo (l : List Int) (long : Int) (k : Nat) : Bool := (List.range k).all fun n => mayAt l long n
def mayL (l : List Int) (long : Int) : Bool := mayTo l long l.length
theorem mayTo_step (l : List Int) (long : Int) (k : Nat) : mayTo l long (k + 1) = (mayTo l long k && mayAt l long k) := by
  unfold mayTo
  rw [List.range_succ, List.all_append]
  simp
theorem mayTo_no {l : List Int} {long : Int} {k m : Nat} (h : mayAt l long k = false) (hk : k < m) : mayTo l long m = false := by
  cases he : mayTo l long m with
  | false => rfl
  | true => exact absurd (List.all_eq_true.1 he k (List.mem_range.2 hk)) (by rw [h]; decide)
theorem mayTo_at {l : List Int} {long : Int} {k m : Nat} (h : mayTo l long m = true) (hk : k < m) : mayAt l long k = true := List.all_eq_true.1 h k (List.mem_range.2 hk)
/-- what regions that may be are: each is one, and they rise. -/
theorem mayTo_in {l : List Int} {long : Int} {m : Nat} (h : mayTo l long m = true) {x : Int} (hx : x ∈ l.take m) : (askPoint x long).2 = 0 := by
  obtain ⟨k, hk⟩ := List.getElem?_of_mem hx
  rw [List.getElem?_take] at hk
  split at hk
  · rename_i hkm
    have := mayTo_at h hkm
    unfold mayAt at this
    rw [hk] at this
    simp only [Option.getD_some, Bool.and_eq_true, decide_eq_true_eq] at this
    exact this.1
  · cases hk
end Rg
theorem rmay14_any (l : List Int) (long : Int) (a : Option Addr) (ca : Nat) (w : World) (hS : Sl w.heap.size w (.slice a l.length ca) l) :
    Calls Tryz.prog 106 #[.slice a l.length ca, .int .i64 long] w fun e w' => e = .returned (.bool (Rg.mayL l long)) ∧ Below w.heap.size w w' := by
  refine fun_eq 0 w Tryz.func106 (args := [.val (.slice a l.length ca), .val (.int .i64 long)]) rfl rfl ?_
  obtain ⟨_, _, hfe, hcap1, hcap2, _⟩ := hS.form
  injection hfe with _ _ hfe
  subst hfe
  unfold maxLen at hcap2
  refine LoopI.invC (α := Nat × World) (fun y => [(5, .val (.int .i64 y.1))]) (fun y => y.2) (fun y => y.1 ≤ l.length ∧ Below w.heap.size w y.2 ∧ Rg.mayTo l long y.1 = true) (fun y => l.length - y.1) ?_ ?_
  · intro w1 h1
    exact ⟨(0, w1), Cov.mk (by repeat' (first | exact trivial | refine And.intro rfl ?_)) rfl rfl rfl rfl rfl, rfl, Nat.zero_le _, h1.below, rfl⟩
  rintro ⟨k, V⟩ ⟨hk, hV, hall⟩
  simp only at hk hV hall
  refine Branch.mk (fun hc2 => ?_) (fun hc2 => ?_)
  · have hlt : k < l.length := by have := of_decide_eq_true hc2; simp only at this; omega
    have hx := List.getElem?_eq_getElem (l := l) (i := k) hlt
    generalize l[k] = x at hx
    have hes := Rg.mayTo_step l long k
    rw [hall, Bool.true_and] at hes
    have hno : Rg.mayAt l long k = false → Rg.mayL l long = false := fun h => Rg.mayTo_no h hlt
    unfold Rg.mayAt at hes hno
    rw [hx] at hes hno
    simp only [Option.getD_some] at hes hno
    have hSV := hS.go hV hV.size
    refine hSV.idx hx fun ad had => ?_
    refine hSV.ld1 hx had (Below.refl _ _) (by simp) ?_
    apply CallI.use1
    focus (exact fun w5 h5 => rpoint14_any x long w5)
    intro w5 v5 h5 hB5
    refine NewI.mk fun b2 hb2 => ?_
    refine DrawI.go (.tk 0 (.tk 1 (.tk 2 (.tk 3 (.tk 4 (.tk 5 (.tk 6 (.tk 7 (.tk 8 (.tk 9 (.tk 10 (.tk 11 (.tk 12 (.tk 13 (.tk 14 (.tk 15 (.tk 16 (.tk 17 .done)))))))))))))))))) (by kernel_rfl) fun w6 h6 => ?_
    have hV6 : Below w.heap.size w w6 := h6.below
    have hS6 := hS.go hV6 hV6.size
    refine Branch.mk (fun c1 => ?_) (fun c1 => ?_)
    · have c1' : (Rg.askPoint x long).2 ≠ 0 := of_decide_eq_true c1
      exact EndI.mk fun w9 h9 => by rw [hno (by rw [decide_eq_false c1']; rfl)]
    · have c1' : (Rg.askPoint x long).2 = 0 := by simpa using c1
      rw [decide_eq_true c1', Bool.true_and] at hes hno
      refine Branch.mk (fun c2 => ?_) (fun c2 => ?_)
      · obtain ⟨m, rfl⟩ : ∃ m, k = m + 1 := ⟨k - 1, by have := of_decide_eq_true c2; simp only at this; omega⟩
        have hy := List.getElem?_eq_getElem (l := l) (i := m) (by omega)
        generalize l[m]'(by omega) = y at hy
        rw [Nat.add_sub_cancel, hy] at hes hno
        refine hS6.idx hx fun ad had => ?_
        refine hS6.ld1 hx had (Below.refl _ _) (by simp) ?_
        refine Need.mk (by simp only [inK]; omega) ?_
        rw [show (((m + 1 : Nat) : Int) - 1) = (m : Int) by omega]
        refine hS6.idx hy fun ad2 had2 => ?_
        refine hS6.ld1 hy had2 (Below.refl _ _) (by simp) ?_
        rw [decide_eq_false (by omega : ¬ m + 1 = 0), Bool.false_or] at hes hno
        refine Branch.mk (fun c3 => ?_) (fun c3 => ?_)
        · have c3' : x ≤ y := of_decide_eq_true c3
          exact EndI.mk fun w9 h9 => by rw [hno (decide_eq_false (by omega : ¬ y < x))]
        · have c3' : ¬ x ≤ y := of_decide_eq_false c3
          exact Need.mk (by simp only [inK]; omega) (EndI.mk fun w9 h9 => ⟨(m + 1 + 1, w9), Cov.mk (by repeat' (first | exact trivial | refine And.intro rfl ?_)) rfl rfl rfl rfl rfl, rfl, ⟨hlt, h9.below, hes.trans (decide_eq_true (by omega : y < x))⟩, by simp only; omega⟩)
      · have c2' : k = 0 := by have := of_decide_eq_false c2; simp only at this; omega
        exact Need.mk (by simp only [inK]; omega) (EndI.mk fun w9 h9 => ⟨(k + 1, w9), Cov.mk (by repeat' (first | exact trivial | refine And.intro rfl ?_)) rfl rfl rfl rfl rfl, rfl, ⟨hlt, h9.below, by rw [hes, decide_eq_true c2']; rfl⟩, by simp only; omega⟩)
  · have hge : k = l.length := by have := of_decide_eq_false hc2; simp only at this; omega
    subst hge
    exact EndI.mk fun w9 h9 => by unfold Rg.mayL; rw [hall]
end Go.Proofs.YtjbhpfmnfdebkaaGreat

/-
  slices.IndexFunc and slices.DeleteFunc at a list of int, with a closure of region.among, by the engine.
-/
namespace Go.Proofs.YtjbhpfmnfdebkaaGreat
set_option linter.unusedVariables false
set_option linter.unusedSimpArgs false
set_option maxRecDepth 100000
open Go.RowKit Go.Proofs.YtjbhpfmnfdebkaaGreat.Eng Enc

theorem indexFunc_any (l : List Int) (so : Int → Bool) (p1 p2 : Option Addr) (a : Option Addr) (ca : Nat) (w : World) (hS : Sl w.heap.size w (.slice a l.length ca) l)
    (hF : ∀ x, x ∈ l → ∀ W, Below w.heap.size w W → Calls Tryz.prog 159 #[.int .i64 x, .pointer p1, .pointer p2] W fun e w' => e = .returned (.bool (so x)) ∧ Below W.heap.size W w') :
    Calls Tryz.prog 222 #[.slice a l.length ca, .func (.func 159) #[] #[.pointer p1, .pointer p2]] w (Ret w fun v w' => (v = .int .i64 (-1) ∧ ∀ y, y ∈ l → so y = false) ∨ ∃ i x, v = .int .i64 ((i : Nat) : Int) ∧ l[i]? = some x ∧ so x = true ∧ ∀ y, y ∈ l.take i → so y = false) := by
  refine fun_ret 0 w Tryz.func222 (args := [.val (.slice a l.length ca), .fn 159 [.val (.pointer p1), .val (.pointer p2)]]) rfl rfl ?_
  obtain ⟨_, _, hfe, hcap1, hcap2, _⟩ := hS.form
  injection hfe with _ _ hfe
  subst hfe
  unfold maxLen at hcap2
  refine LoopI.invC (α := Nat × World) (fun y => [(8, .val (.int .i64 y.1))]) (fun y => y.2) (fun y => y.1 ≤ l.length ∧ Below w.heap.size w y.2 ∧ ∀ x, x ∈ l.take y.1 → so x = false) (fun y => l.length - y.1) ?_ ?_
  · intro w5 h5
    exact ⟨(0, w5), Cov.mk (by repeat' (first | exact trivial | refine And.intro rfl ?_)) rfl rfl rfl rfl rfl, rfl, Nat.zero_le _, h5.below, by simp⟩
  rintro ⟨k, V⟩ ⟨hk, hV, hno⟩
  simp only at hk hV hno
  refine Branch.mk (fun hc2 => ?_) (fun hc2 => ?_)
  · have hlt : k < l.length := by have := of_decide_eq_true hc2; simp only at this; omega
    have hx := List.getElem?_eq_getElem (l := l) (i := k) hlt
    have hxm := List.getElem_mem hlt
    generalize l[k] = x at hx hxm
    have hts : l.take (k + 1) = l.take k ++ [x] := by rw [List.take_add_one, hx]; rfl
    have hSV := hS.go hV hV.size
    refine hSV.idx hx fun ad had => ?_
    refine hSV.ld1 hx had (Below.refl _ _) (by simp) ?_
    apply CallI.use1
    focus (exact fun w5 h5 => hF x hxm w5 h5.below)
    intro w5 v5 h5 hB5
    refine Branch.mk (fun c1 => ?_) (fun c1 => ?_)
    · exact EndI.mk fun w9 h9 => .inr ⟨k, x, rfl, hx, c1, hno⟩
    · refine Need.mk (by simp only [inK]; omega) (EndI.mk fun w11 h11 => ⟨(k + 1, w11), Cov.mk (by repeat' (first | exact trivial | refine And.intro rfl ?_)) rfl rfl rfl rfl rfl, rfl, ⟨hlt, h11.below, fun y hy => ?_⟩, by simp only; omega⟩)
      rw [hts] at hy
      rcases List.mem_append.1 hy with h | h
      · exact hno y h
      · rw [List.mem_singleton.1 h]; exact c1
  · have hge : k = l.length := by have := of_decide_eq_false hc2; simp only at this; omega
    subst hge
    rw [List.take_length] at hno
    exact EndI.mk fun w9 h9 => .inl ⟨rfl, hno⟩
theorem cellsIntD (l : List Int) : cellsL l = l.map (Value.int .i64) := by
  induction l with
  | nil => rfl
  | cons x l ih => simp only [cellsL, ih, List.map_cons]; rfl
theorem Own.setAt {base : Nat} {W : World} {g n cap : Nat} {l : List Int} (h : Own TKi base W (.slice (some ⟨g, 0, none⟩) n cap) l) {k : Nat} (hk : k < l.length) (x : Int) : Own TKi base (W.setCell ⟨g, k, none⟩ (.int .i64 x)) (.slice (some ⟨g, 0, none⟩) n cap) (l.set k x) := by
  obtain ⟨rfl, hb, hlt, cur, hg, hn, hm, hs, ht⟩ := h.at0
  refine ⟨by rw [cellsL_len, List.length_set], .inr ⟨g, cap, cur.setIfInBounds k (.int .i64 x), by rw [List.length_set], hb, ?_, by rw [List.length_set]; exact hn, hm, by simpa using hs, ?_⟩⟩
  · simp only [World.setCell]
    rw [Array.getElem?_modify, if_pos rfl, hg]
    rfl
  · rw [cellsIntD] at ht ⊢
    rw [List.length_set, Array.toList_setIfInBounds, List.take_set, ht, List.map_set]
theorem Own.cellAt {base : Nat} {W : World} {g n cap : Nat} {l : List Int} (h : Own TKi base W (.slice (some ⟨g, 0, none⟩) n cap) l) {k : Nat} {x : Int} (hk : l[k]? = some x) : W.cell? ⟨g, k, none⟩ = some (.int .i64 x) ∧ W.frozen? ⟨g, k, none⟩ = false := by
  obtain ⟨rfl, hb, hlt, cur, hg, hn, hm, hs, ht⟩ := h.at0
  have hkl := (List.getElem?_eq_some_iff.1 hk).1
  rw [cellsIntD] at ht
  have e : (cur.toList.take (l.length * size Int))[k]? = some (.int .i64 x) := by rw [ht, List.getElem?_map, hk]; rfl
  rw [List.getElem?_take_of_lt (by show k < l.length * 1; omega), Array.getElem?_toList] at e
  exact ⟨by simp [World.cell?, hg, e], by simp [World.frozen?, hg]⟩
end Go.Proofs.YtjbhpfmnfdebkaaGreat

/-
  slices.DeleteFunc at a list of int, with a closure of region.among, by the engine.
-/
namespace Go.Proofs.YtjbhpfmnfdebkaaGreat
set_option linter.unusedVariables false
set_option linter.unusedSimpArgs false
set_option maxRecDepth 100000
open Go.RowKit Go.Proofs.YtjbhpfmnfdebkaaGreat.Eng Enc

theorem tyDI2 : TyOk Tryz.prog TKi ⟨[.int .i64 0], false⟩ := tyOk_one Tryz.zeroValue3 Tryz.sizeOf3 Tryz.isAgg3 rfl
/-- of the first j, those that stay; behind them what lay there. -/
def dfF (so : Int → Bool) (l : List Int) (j : Nat) : List Int := (l.take j).filter fun x => !so x
theorem dfF_step {so : Int → Bool} {l : List Int} {j : Nat} {x : Int} (hx : l[j]? = some x) : dfF so l (j + 1) = if so x = true then dfF so l j else dfF so l j ++ [x] := by
  unfold dfF
  rw [List.take_add_one, hx, List.filter_append]
  cases h : so x <;> simp [h]
set_option maxHeartbeats 1000000 in
theorem deleteFunc_any (l : List Int) (so : Int → Bool) (p1 p2 : Option Addr) (g cap base B : Nat) (w : World) (hB : B ≤ w.heap.size) (hg : B ≤ g) (hO : Own TKi base w (.slice (some ⟨g, 0, none⟩) l.length cap) l) (hlen : l.length ≤ 1000000)
    (hF : ∀ x, x ∈ l → ∀ W, w.grownBy W (some g) → Calls Tryz.prog 159 #[.int .i64 x, .pointer p1, .pointer p2] W fun e w' => e = .returned (.bool (so x)) ∧ Below W.heap.size W w') :
    Calls Tryz.prog 157 #[.slice (some ⟨g, 0, none⟩) l.length cap, .func (.func 159) #[] #[.pointer p1, .pointer p2]] w fun e w' => ∃ v, e = .returned v ∧ Below B w w' ∧ v = .slice (some ⟨g, 0, none⟩) (dfF so l l.length).length cap ∧ Own TKi base w' (.slice (some ⟨g, 0, none⟩) (dfF so l l.length).length cap) (dfF so l l.length) ∧ w.grownBy w' (some g) := by
  obtain ⟨_, hbg, hgl, cur0, _, hcap, hmax, _, _⟩ := hO.at0
  have hm : cap ≤ 9223372036854775807 := by unfold maxLen at hmax; omega
  refine fun_at 0 B w hB Tryz.func157 (args := [.val (.slice (some ⟨g, 0, none⟩) l.length cap), .fn 159 [.val (.pointer p1), .val (.pointer p2)]]) rfl rfl ?_
  apply CallI.use
  focus (exact fun w1 h1 => indexFunc_any l so p1 p2 (some ⟨g, 0, none⟩) cap w1 (hO.below (at_belowM h1 (by simp))).sl (fun x hx W hW => hF x hx W (grown_below (grown_below (grown_refl w (some g)) (at_belowM h1 (by simp))) hW)))
  rintro v w1 v1 h1 hB1 hidx
  have g1 : w.grownBy v1 (some g) := grown_below (grown_below (grown_refl w (some g)) (at_belowM h1 (by simp))) hB1
  have hO1 := (hO.below (at_belowM h1 (by simp))).below hB1
  rcases hidx with ⟨rfl, hall⟩ | ⟨i, x0, rfl, hi0, hso, hall⟩
  · refine Branch.yes rfl ?_
    have he : dfF so l l.length = l := by
      unfold dfF
      rw [List.take_length, List.filter_eq_self]
      intro y hy; rw [hall y hy]; rfl
    rw [he]
    exact EndI.mk fun w9 h9 => ⟨rfl, hO1.below (at_belowM h9 (by simp)), grown_below g1 (at_belowM h9 (by simp))⟩
  · have hil := (List.getElem?_eq_some_iff.1 hi0).1
    refine Branch.no (by simp) ?_
    refine Need.mk (by simp only [inK]; omega) ?_
    have hFi : dfF so l i = l.take i := by
      unfold dfF
      rw [List.filter_eq_self]
      intro y hy; rw [hall y hy]; rfl
    have hFi1 : dfF so l (i + 1) = l.take i := by rw [dfF_step hi0, if_pos hso, hFi]
    refine LoopI.invC (α := Nat × Nat × World) (fun y => [(6, .val (.int .i64 (y.1 : Nat))), (5, .val (.int .i64 (y.2.1 : Nat)))]) (fun y => y.2.2) (fun y => i + 1 ≤ y.1 ∧ y.1 ≤ l.length ∧ Below B w y.2.2 ∧ w.grownBy y.2.2 (some g) ∧ (dfF so l y.1).length < y.1 ∧ y.2.1 = (dfF so l y.1).length ∧ Own TKi base y.2.2 (.slice (some ⟨g, 0, none⟩) l.length cap) (dfF so l y.1 ++ l.drop (dfF so l y.1).length)) (fun y => l.length - y.1) ?_ ?_
    · intro w5 h5
      refine ⟨(i + 1, i, w5), Cov.mk (by repeat' (first | exact trivial | refine And.intro rfl ?_)) rfl rfl rfl rfl rfl, rfl, Nat.le_refl _, by simp only; omega, h5.below, grown_below g1 (at_belowM h5 (by simp)), ?_, by simp only [hFi1]; rw [List.length_take]; omega, ?_⟩
      · simp only [hFi1]; rw [List.length_take]; omega
      · have : dfF so l (i + 1) ++ l.drop (dfF so l (i + 1)).length = l := by
          rw [hFi1, List.length_take, Nat.min_eq_left (by omega)]; exact List.take_append_drop i l
        simp only [this]
        exact hO1.below (at_belowM h5 (by simp))
    rintro ⟨j, c, V⟩ ⟨hij, hjl, hV, gV, hlt, hc, hOV⟩
    simp only at hij hjl hV gV hlt hc hOV
    refine Branch.mk (fun hc2 => ?_) (fun hc2 => ?_)
    · have hjl' : j < l.length := by have := of_decide_eq_true hc2; simp only at this; omega
      have hx := List.getElem?_eq_getElem (l := l) (i := j) hjl'
      have hxm := List.getElem_mem hjl'
      generalize l[j] = x at hx hxm
      have hes := dfF_step (so := so) hx
      have hxV : (dfF so l j ++ l.drop (dfF so l j).length)[j]? = some x := by
        rw [List.getElem?_append_right (by omega), List.getElem?_drop, show (dfF so l j).length + (j - (dfF so l j).length) = j by omega]
        exact hx
      have hSV := hOV.sl
      refine hSV.idx hxV fun ad had => ?_
      refine hSV.ld1 hxV had (Below.refl _ _) (by simp) ?_
      apply CallI.use1
      focus (exact fun w5 h5 => hF x hxm w5 (grown_below gV (at_belowM h5 (by simp))))
      intro w5 v5 h5 hB5
      have g5 : w.grownBy v5 (some g) := grown_below (grown_below gV (at_belowM h5 (by simp))) hB5
      have hO5 := (hOV.below (at_belowM h5 (by simp))).below hB5
      have hV5 : Below B w v5 := h5.below.trans (hB5.mono (Nat.le_trans hB h5.below.size))
      refine Branch.mk (fun c1 => ?_) (fun c1 => ?_)
      · have c1' : so x = false := by simpa using c1
        rw [if_neg (by rw [c1']; decide)] at hes
        have hcl : c < l.length := by omega
        refine IdxI.mk ⟨_, ⟨rfl, by omega, by simp only; omega⟩, ?_⟩
        refine StoreI.mk fun w6 h6 => ?_
        rw [show ((⟨g, 0, none⟩ : Addr).add ((c : Int).toNat * 1)) = ⟨g, c, none⟩ by simp [addr_addL]]
        have hO6 := hO5.below (at_belowM h6 (by simp))
        have hll : c < (dfF so l j ++ l.drop (dfF so l j).length).length := by
          rw [List.length_append, List.length_drop]; omega
        obtain ⟨q1, q2⟩ := hO6.cellAt (List.getElem?_eq_getElem hll)
        refine ⟨⟨⟨_, q1⟩, q2⟩, keep_set hg (by simp), ?_⟩
        have hO7 := hO6.setAt hll x
        have hls : (dfF so l j ++ l.drop (dfF so l j).length).set c x = dfF so l (j + 1) ++ l.drop (dfF so l (j + 1)).length := by
          rw [hes, hc, List.set_append_right _ _ (Nat.le_refl _), Nat.sub_self, List.length_append, List.append_assoc]
          congr 1
          rw [List.drop_eq_getElem_cons (by omega : (dfF so l j).length < l.length)]
          rfl
        have g7 : w.grownBy (w6.setCell ⟨g, c, none⟩ (.int .i64 x)) (some g) := by
          have e := grown_below g5 (at_belowM h6 (by simp))
          exact grown_trans e ⟨rfl, rfl, rfl, by simp [World.setCell], fun k _ hk => setCell_neM (fun h => hk (by rw [h]))⟩
        have hV7 : Below B w (w6.setCell ⟨g, c, none⟩ (.int .i64 x)) := h6.below.setCell (p := ⟨g, c, none⟩) hg _
        rw [hls] at hO7
        generalize w6.setCell ⟨g, c, none⟩ (.int .i64 x) = w7 at hO7 g7 hV7
        refine Need.mk (by simp only [inK]; omega) ?_
        refine Need.mk (by simp only [inK]; omega) (EndI.mk fun w8 h8 => ⟨(j + 1, c + 1, w8), Cov.mk (by repeat' (first | exact trivial | refine And.intro rfl ?_)) rfl rfl rfl rfl rfl, rfl, ⟨by simp only; omega, by simp only; omega, h8.below, grown_below g7 (at_belowM h8 (by simp)), ?_, ?_, hO7.below (at_belowM h8 (by simp))⟩, by simp only; omega⟩)
        · simp only [hes, List.length_append, List.length_singleton]; omega
        · simp only [hes, List.length_append, List.length_singleton]; omega
      · have c1' : so x = true := by simpa using c1
        rw [if_pos c1'] at hes
        refine Need.mk (by simp only [inK]; omega) (EndI.mk fun w8 h8 => ⟨(j + 1, c, w8), Cov.mk (by repeat' (first | exact trivial | refine And.intro rfl ?_)) rfl rfl rfl rfl rfl, rfl, ⟨by simp only; omega, by simp only; omega, h8.below, grown_below g5 (at_belowM h8 (by simp)), ?_, ?_, ?_⟩, by simp only; omega⟩)
        · simp only [hes]; omega
        · simp only [hes]; omega
        · simp only [hes]; exact hO5.below (at_belowM h8 (by simp))
    · have hge : j = l.length := by have := of_decide_eq_false hc2; simp only at this; omega
      subst hge
      have hFl : (dfF so l l.length).length < l.length := hlt
      refine Need.mk ⟨by simp only; omega, by simp only; omega, by omega⟩ ?_
      have hll : (dfF so l l.length ++ l.drop (dfF so l l.length).length).length = l.length := by
        rw [List.length_append, List.length_drop]; omega
      have hT : Own TKi base V (.slice (some ⟨g, 0, none⟩) (dfF so l l.length ++ l.drop (dfF so l l.length).length).length cap) (dfF so l l.length ++ l.drop (dfF so l l.length).length) := by rw [hll]; exact hOV
      have hT := hT.take (dfF so l l.length).length (by rw [hll]; omega)
      rw [List.take_left' rfl] at hT
      have hcF := hc
      generalize dfF so l l.length = F at *
      subst hc
      refine GenN.mk fun w4 h4 => ?_
      have hO4 := hT.below (at_belowM h4 (by simp))
      have g4 : w.grownBy w4 (some g) := grown_below gV (at_belowM h4 (by simp))
      obtain ⟨_, _, hgl4, cur, hc4, _, _, hs4, _⟩ := hO4.at0
      have hroom : F.length * 1 + (l.length - F.length) * 1 ≤ cur.size := by
        have : cur.size = cap * 1 := hs4
        omega
      obtain ⟨vs, hvl, hrun⟩ := run_clear (P := Tryz.prog) (c := cap - F.length) elIn.ht tyDI2 (by decide) (o := F.length * 1) (n := l.length - F.length) hc4 hroom (by omega)
      have hvl' : vs.length = (l.length - F.length) * 1 := hvl
      refine ⟨_, _, hrun _ _ _ ?_, ⟨below_setRow (Below.refl _ _) hg _, fun b hb => by cases hb⟩, ?_⟩
      · show Value.slice (if cap = _ then _ else _) _ _ = _
        rw [if_neg (by simp only [Int.toNat_natCast]; omega)]
        simp only [Int.toNat_natCast, Option.map_some, addr_addL, Nat.zero_add, Value.slice.injEq, true_and]
      refine Need.mk ⟨by omega, by omega, by simp only; omega⟩ ?_
      refine EndI.mk fun w5 h5 => ?_
      have hO5 := (hO4.setRow hc4 (F.length * 1) vs (Nat.le_refl _) (by rw [hvl']; exact hroom)).below (at_belowM h5 (by simp))
      exact ⟨rfl, hO5, grown_below (grown_trans g4 (grown_setRow w4 g _)) (at_belowM h5 (by simp))⟩
end Go.Proofs.YtjbhpfmnfdebkaaGreat

/-
  Plain laws of windows and spans: the points of what is in one. No program is in sight.
-/
namespace Go.Proofs.YtjbhpfmnfdebkaaGreat
set_option linter.unusedVariables false
set_option linter.unusedSimpArgs false
open Go.RowKit Go.Proofs.YtjbhpfmnfdebkaaGreat.Eng Enc
namespace Wn
open Mi Dbm
theorem fits_iff {n : Int} : fits n = true ↔ -288230376151711744 ≤ n ∧ n ≤ 288230376151711744 := by simp [fits]
end Wn
namespace Zs
open Mi Dbm
end Zs
end Go.Proofs.YtjbhpfmnfdebkaaGreat

/-
  Spans and windows by the document, in the program's words. No program is in sight.
-/
namespace Go.Proofs.YtjbhpfmnfdebkaaGreat
set_option linter.unusedVariables false
set_option linter.unusedSimpArgs false
open Go.RowKit Go.Proofs.YtjbhpfmnfdebkaaGreat.Eng Enc
namespace Dbm
/-- two bounds there and back are not below nothing, where a matrix has a closing. -/
theorem cyc {N : Nat} {L C : List Int} (h0 : chk N L = 0) (h : closeL N L = some C) {i j : Nat} (hi : i < N) (hj : j < N) (hij : i ≠ j) : ole (some 1) (oadd (mx N L i j) (mx N L j i)) := by
  obtain ⟨L1, a2, a3, inv, hl, hE⟩ := close_inv h0 h
  have c1 := inv.closed i i j hi hi hj
  rw [inv.diag i hi] at c1
  have e1 : mx N L1 i j = mx N L i j := by unfold mx; rw [a3 i j hi hj, if_neg hij]
  have e2 : mx N L1 j i = mx N L j i := by unfold mx; rw [a3 j i hj hi, if_neg (fun e => hij e.symm)]
  have l1 := inv.low i j hi hj
  have l2 := inv.low j i hj hi
  rw [e1] at l1
  rw [e2] at l2
  exact ole_trans c1 (oadd_mono l1 l2)
theorem ob1 : ob 1 = some 1 := by unfold ob; rw [if_neg (by unfold NO; decide)]
theorem lim1 {m : Int} (h : 1 ≤ m) : lim m 1 := .inr (by omega)
theorem clo2 {p q : Int} (hp : lim 864691128455135232 p) (hq : lim 864691128455135232 q) (h : ole (some 1) (oadd (ob p) (ob q))) : Clo 2 [1, p, q, 1] := by
  have h' : ole (some 1) (oadd (ob q) (ob p)) := by rw [oadd_comm]; exact h
  refine ⟨rfl, fun i hi => ?_, fun i j a hi hj ha => ?_, fun i j hi hj => ?_⟩
  · rcases (by omega : i = 0 ∨ i = 1) with rfl | rfl <;> rfl
  · rcases (by omega : i = 0 ∨ i = 1) with rfl | rfl <;> rcases (by omega : j = 0 ∨ j = 1) with rfl | rfl <;> rcases (by omega : a = 0 ∨ a = 1) with rfl | rfl <;> simp [mx, ob1, oadd_one, one_oadd, ole_refl, h, h']
  · rcases (by omega : i = 0 ∨ i = 1) with rfl | rfl <;> rcases (by omega : j = 0 ∨ j = 1) with rfl | rfl <;> first | exact lim1 (by decide) | exact hp | exact hq
end Dbm
namespace Wn
open Mi Dbm
/-- may a span be? -/
def spMay (s : Sp) : Bool := decide (-288230376151711744 ≤ s.lo) && decide (s.lo ≤ 288230376151711744) && (if s.op = true then decide (s.hi = 0) && !s.hs else decide (s.lo ≤ s.hi) && decide (s.hi ≤ 288230376151711744))
theorem mayC_of {b : Int} (h : b = NO ∨ (-288230376151711744 ≤ b / 2 ∧ b / 2 ≤ 288230376151711744)) : Dbm.mayC b = true := by
  unfold Dbm.mayC
  rcases h with h | h
  · rw [h]; decide
  · simp [h]
theorem ab_lim {s : Sp} (h : spMay s = true) : Rg.ab s = NO ∨ (-288230376151711744 ≤ Rg.ab s / 2 ∧ Rg.ab s / 2 ≤ 288230376151711744) := by
  unfold spMay at h
  unfold Rg.ab
  split
  · exact .inl rfl
  · rename_i ho
    rw [if_neg ho] at h
    simp only [Bool.and_eq_true, decide_eq_true_eq] at h
    right
    unfold Bd.mk
    split <;> omega
theorem be_lim {s : Sp} (h : spMay s = true) : -288230376151711744 ≤ Rg.be s / 2 ∧ Rg.be s / 2 ≤ 288230376151711744 := by
  unfold spMay at h
  simp only [Bool.and_eq_true, decide_eq_true_eq] at h
  unfold Rg.be Bd.mk
  split <;> omega
theorem sides_may (s : Sp) : (Tg.sides s).2.2 = spMay s ∧ (spMay s = true → Tg.sides s = (Rg.be s, Rg.ab s, true)) := by
  have hof : ∀ c b, -288230376151711744 ≤ c → c ≤ 288230376151711744 → Tg.of c b = Bd.mk c b := fun c b h1 h2 => by
    unfold Tg.of Bd.made Num.okB
    rw [if_pos (by simp; omega)]
  constructor
  · unfold Tg.sides spMay Tg.bad
    by_cases ho : s.op = true
    · rw [if_pos ho, if_pos ho]
      split
      · rename_i hb
        simp only [Bool.or_eq_true, decide_eq_true_eq] at hb
        symm
        simp only [Bool.and_eq_false_iff, decide_eq_false_iff_not]
        omega
      · rename_i hb
        simp only [Bool.or_eq_true, decide_eq_true_eq] at hb
        simp only
        rw [decide_eq_true (by omega : -288230376151711744 ≤ s.lo), decide_eq_true (by omega : s.lo ≤ 288230376151711744)]
        simp
    · rw [if_neg ho, if_neg ho]
      split
      · rename_i hb
        simp only [Bool.or_eq_true, decide_eq_true_eq] at hb
        symm
        simp only [Bool.and_eq_false_iff, decide_eq_false_iff_not]
        omega
      · rename_i hb
        simp only [Bool.or_eq_true, decide_eq_true_eq] at hb
        simp only
        rw [decide_eq_true (by omega : -288230376151711744 ≤ s.lo), decide_eq_true (by omega : s.lo ≤ 288230376151711744), decide_eq_true (by omega : s.hi ≤ 288230376151711744)]
        simp
  · intro h
    have h' := h
    unfold spMay at h
    simp only [Bool.and_eq_true, decide_eq_true_eq] at h
    have hnb : ¬ Tg.bad s = true := by
      unfold Tg.bad
      simp only [Bool.or_eq_true, decide_eq_true_eq]
      by_cases ho : s.op = true
      · rw [if_pos ho] at h; simp at h; omega
      · rw [if_neg ho] at h; simp at h; omega
    unfold Tg.sides
    rw [if_neg hnb]
    by_cases ho : s.op = true
    · rw [if_pos ho] at h ⊢
      unfold Rg.ab
      rw [if_pos ho, hof _ _ (by omega) (by omega), h.2]
      unfold Rg.be
      rw [Int.zero_sub]
    · rw [if_neg ho] at h ⊢
      simp at h
      unfold Rg.ab
      rw [if_neg ho, hof _ _ (by omega) (by omega), hof _ _ (by omega) (by omega), decide_eq_true (by omega : s.lo ≤ s.hi)]
      unfold Rg.be
      rw [Int.zero_sub]
/-- has a span a time? -/
def spOk (s : Sp) : Prop := ole (some 1) (oadd (ob (Rg.be s)) (ob (Rg.ab s)))
theorem lim_of {b : Int} (h : b = NO ∨ (-288230376151711744 ≤ b / 2 ∧ b / 2 ≤ 288230376151711744)) : lim 864691128455135232 b := by
  rcases h with h | h
  · exact .inl h
  · exact .inr (by omega)
theorem btw_may {s : Sp} (h : spMay s = true) : (spOk s ∧ Zo.btw s = (2, [1, Rg.be s, Rg.ab s, 1], 0)) ∨ (¬ spOk s ∧ Zo.btw s = (0, [], 6)) := by
  obtain ⟨_, h2⟩ := sides_may s
  have hs := h2 h
  have ha := ab_lim h
  have hb := be_lim h
  have k0 : Dbm.chk 2 (Dbm.topL 2) = 0 := by decide
  have ht : Dbm.topL 2 = [1, NO, NO, 1] := by decide
  have m1 : min NO (Rg.be s) = Rg.be s := by unfold NO; omega
  have m2 : min NO (Rg.ab s) = Rg.ab s := by rcases ha with ha | ha <;> unfold NO at * <;> omega
  have hmore : Tg.more (Dbm.topL 2) [⟨1, Rg.be s⟩, ⟨1 * 2, Rg.ab s⟩] = [1, Rg.be s, Rg.ab s, 1] := by
    rw [ht]
    simp [Tg.more, List.set, m1, m2]
  have hck : Dbm.chk 2 [1, Rg.be s, Rg.ab s, 1] = 0 := by
    refine chk_iff.2 ⟨by decide, by decide, rfl, ?_⟩
    have e1 : mayC 1 = true := by decide
    simp only [List.any_cons, List.any_nil, e1, mayC_of (.inr hb), mayC_of ha, Bool.not_true, Bool.or_false]
  have hbt : Zo.btw s = Dbm.close 2 [1, Rg.be s, Rg.ab s, 1] := by
    unfold Zo.btw Tg.between
    rw [if_pos k0, if_pos ⟨by decide, by decide⟩, hs, if_pos rfl, hmore]
  rw [hbt]
  unfold Dbm.close
  rw [if_pos hck]
  by_cases hok : spOk s
  · left
    have hc : Clo 2 [1, Rg.be s, Rg.ab s, 1] := clo2 (lim_of (.inr hb)) (lim_of ha) hok
    refine ⟨hok, ?_⟩
    show (match closeL 2 _ with | some L' => ((2 : Int), L', (0 : Int)) | none => (0, [], 6)) = _
    rw [hc.close]
  · right
    refine ⟨hok, ?_⟩
    show (match closeL 2 _ with | some L' => ((2 : Int), L', (0 : Int)) | none => (0, [], 6)) = _
    cases hC : closeL 2 [1, Rg.be s, Rg.ab s, 1] with
    | none => rfl
    | some C => exact absurd (cyc (N := 2) hck hC (i := 0) (j := 1) (by decide) (by decide) (by decide)) hok
theorem btw_bad {s : Sp} (h : spMay s = false) : Zo.btw s = (0, [], 8) := by
  have k0 : Dbm.chk 2 (Dbm.topL 2) = 0 := by decide
  unfold Zo.btw Tg.between
  rw [if_pos k0, if_pos ⟨by decide, by decide⟩, (sides_may s).1, h, if_neg (by decide)]
end Wn
end Go.Proofs.YtjbhpfmnfdebkaaGreat

/-
  The document's answers of layers 5 and 10: spans and windows of a zone, by the engine.
-/
namespace Go.Proofs.YtjbhpfmnfdebkaaGreat
set_option linter.unusedVariables false
set_option linter.unusedSimpArgs false
set_option maxRecDepth 100000
open Go.RowKit Go.Proofs.YtjbhpfmnfdebkaaGreat.Eng Enc

theorem Wn.fit_of {s : Sp} (h : Wn.spMay s = true) : s.fit := by
  unfold Wn.spMay at h
  simp only [Bool.and_eq_true, decide_eq_true_eq] at h
  refine ⟨h.1, ?_⟩
  by_cases ho : s.op = true
  · exact .inl ho
  · rw [if_neg ho] at h
    simp at h
    exact .inr (by omega)
theorem rmayspan_any (s : Sp) (w : World) :
    Calls Tryz.prog 108 #[.agg #[.int .i64 s.lo, .bool s.ls, .int .i64 s.hi, .bool s.hs, .bool s.op]] w fun e w' => e = .returned (.bool (Wn.spMay s)) ∧ Below w.heap.size w w' := by
  refine fun_eq 0 w Tryz.func108 (args := [.agg [.val (.int .i64 s.lo), .val (.bool s.ls), .val (.int .i64 s.hi), .val (.bool s.hs), .val (.bool s.op)]]) rfl rfl ?_
  refine NewI.mk fun b1 hb1 => ?_
  unfold Wn.spMay
  refine Branch.mk (fun z1 => ?_) (fun z1 => ?_)
  · have h1 : s.lo < -288230376151711744 := of_decide_eq_true z1
    rw [decide_eq_false (by omega : ¬ -288230376151711744 ≤ s.lo)]
    exact EndI.mk fun w9 h9 => by simp
  have h1 : ¬ s.lo < -288230376151711744 := of_decide_eq_false z1
  rw [decide_eq_true (by omega : -288230376151711744 ≤ s.lo)]
  refine Branch.mk (fun z2 => ?_) (fun z2 => ?_)
  · have h2 : 288230376151711744 < s.lo := of_decide_eq_true z2
    rw [decide_eq_false (by omega : ¬ s.lo ≤ 288230376151711744)]
    exact EndI.mk fun w9 h9 => by simp
  have h2 : ¬ 288230376151711744 < s.lo := of_decide_eq_false z2
  rw [decide_eq_true (by omega : s.lo ≤ 288230376151711744)]
  refine Branch.mk (fun z3 => ?_) (fun z3 => ?_)
  · rw [if_pos z3]
    refine Branch.mk (fun z4 => ?_) (fun z4 => ?_)
    · exact EndI.mk fun w9 h9 => by rw [z4]; simp
    · exact EndI.mk fun w9 h9 => by rw [z4]; simp
  · rw [if_neg (by rw [z3]; simp)]
    refine Branch.mk (fun z4 => ?_) (fun z4 => ?_)
    · exact EndI.mk fun w9 h9 => by rw [z4]; simp
    · exact EndI.mk fun w9 h9 => by rw [z4]; simp
end Go.Proofs.YtjbhpfmnfdebkaaGreat

/-
  Plain laws of compositions: the points of two zones one behind the other. No program is in sight.
-/
namespace Go.Proofs.YtjbhpfmnfdebkaaGreat
set_option linter.unusedVariables false
set_option linter.unusedSimpArgs false
open Go.RowKit Go.Proofs.YtjbhpfmnfdebkaaGreat.Eng Enc
namespace Dbm
def LoQ (a : Rat × Bool) (s : Rat) : Prop := if a.2 = true then a.1 < s else a.1 ≤ s
def HiQ (a : Rat × Bool) (s : Rat) : Prop := if a.2 = true then s < a.1 else s ≤ a.1
theorem LoQ.mono {a b : Rat × Bool} {s : Rat} (h : LoQ a s) (hb : b.1 < a.1 ∨ (b.1 = a.1 ∧ (b.2 = true → a.2 = true))) : LoQ b s := by
  unfold LoQ at *
  split <;> split at h <;> rcases hb with hb | ⟨hb, hc⟩ <;> first | grind | (rename_i k1 k2; exact absurd (hc k1) k2)
theorem HiQ.mono {a b : Rat × Bool} {s : Rat} (h : HiQ a s) (hb : a.1 < b.1 ∨ (b.1 = a.1 ∧ (b.2 = true → a.2 = true))) : HiQ b s := by
  unfold HiQ at *
  split <;> split at h <;> rcases hb with hb | ⟨hb, hc⟩ <;> first | grind | (rename_i k1 k2; exact absurd (hc k1) k2)
end Dbm
end Go.Proofs.YtjbhpfmnfdebkaaGreat

/-
  Plain laws of clocks that come and go: a matrix without a clock is closed again, and of two clocks that go it turns nothing which goes first. No program is in sight.
-/
namespace Go.Proofs.YtjbhpfmnfdebkaaGreat.Proj
set_option linter.unusedVariables false
open Go.Proofs.YtjbhpfmnfdebkaaGreat.Dbm

theorem sk_lt {N k j : Nat} (hj : j < N - 1) : sk k j < N := by unfold sk; split <;> omega
theorem dropL_len (N k : Nat) (C : List Int) : (dropL N k C).length = (N - 1) * (N - 1) := by simp [dropL]
theorem dropL_get {N k : Nat} (C : List Int) {i j : Nat} (hi : i < N - 1) (hj : j < N - 1) : (dropL N k C)[i * (N - 1) + j]?.getD 0 = C[sk k i * N + sk k j]?.getD 0 := by
  unfold dropL
  rw [List.getElem?_map, List.getElem?_range (place_lt hi hj)]
  simp only [Option.map_some, Option.getD_some]
  unfold dropAt
  rw [place_div hj, place_mod hj]
theorem clo_drop {N k : Nat} {C : List Int} (h : Clo N C) : Clo (N - 1) (dropL N k C) := by
  have hm : ∀ i j, i < N - 1 → j < N - 1 → mx (N - 1) (dropL N k C) i j = mx N C (sk k i) (sk k j) := fun i j hi hj => by
    unfold mx; rw [dropL_get C hi hj]
  refine ⟨dropL_len _ _ _, fun i hi => ?_, fun i j a hi hj ha => ?_, fun i j hi hj => ?_⟩
  · rw [dropL_get C hi hi]; exact h.diag _ (sk_lt hi)
  · rw [hm i j hi hj, hm i a hi ha, hm a j ha hj]
    exact h.tri _ _ _ (sk_lt hi) (sk_lt hj) (sk_lt ha)
  · rw [dropL_get C hi hj]; exact h.lim _ _ (sk_lt hi) (sk_lt hj)
theorem ext_get {A B : List Int} {n : Nat} (ha : A.length = n) (hb : B.length = n) (h : ∀ q, q < n → A[q]?.getD 0 = B[q]?.getD 0) : A = B := by
  apply List.ext_getElem?
  intro q
  rcases Nat.lt_or_ge q n with hq | hq
  · have := h q hq
    rw [List.getElem?_eq_getElem (by omega), List.getElem?_eq_getElem (by omega)] at this ⊢
    exact congrArg some this
  · rw [List.getElem?_eq_none (by omega), List.getElem?_eq_none (by omega)]
theorem sk_sk {j k i : Nat} (hjk : j < k) : sk j (sk (k - 1) i) = sk k (sk j i) := by
  unfold sk
  by_cases h1 : i < k - 1 <;> by_cases h2 : i < j <;> simp only [h1, h2, if_true, if_false] <;> (repeat' split) <;> omega
theorem dropL_dropL {N j k : Nat} (C : List Int) (hjk : j < k) : dropL (N - 1) (k - 1) (dropL N j C) = dropL (N - 1) j (dropL N k C) := by
  refine ext_get (dropL_len _ _ _) (dropL_len _ _ _) fun q hq => ?_
  have h1 := div_lt hq
  have h2 := mod_lt hq
  rw [← div_mod (p := q) (N := N - 1 - 1)]
  rw [dropL_get _ h1 h2, dropL_get _ h1 h2, dropL_get _ (sk_lt h1) (sk_lt h2), dropL_get _ (sk_lt h1) (sk_lt h2), sk_sk hjk, sk_sk hjk]

/-- a clock goes, where one may. -/
theorem drop_ok {n : Int} {L : List Int} {k : Int} (h : (drop n L k).2.2 = 0) : chk n L = 0 ∧ 1 ≤ k ∧ k < n ∧ ∃ C, closeL n.toNat L = some C ∧ drop n L k = (n - 1, dropL n.toNat k.toNat C, 0) := by
  unfold drop at h ⊢
  split at h
  · rename_i h0
    split at h
    · cases h
    · rename_i h1
      split at h
      · rename_i C hC
        refine ⟨h0, by omega, by omega, C, hC, ?_⟩
        rw [if_pos h0, if_neg h1]
      · cases h
  · cases h
theorem drop_closed {N K : Nat} {A : List Int} (h0 : chk N A = 0) (hA : Clo N A) (h1 : 1 ≤ K) (h2 : K < N) : drop N A K = ((N : Int) - 1, dropL N K A, 0) := by
  unfold drop
  rw [if_pos h0, if_neg (by omega), Int.toNat_natCast, Int.toNat_natCast, hA.close]
/-- of two clocks that go it turns nothing which goes first. -/
theorem two {n : Int} {L : List Int} {j k : Int} (hjk : j < k) (ha : (drop n L j).2.2 = 0) (hb : (drop n L k).2.2 = 0) (ca : chk (drop n L j).1 (drop n L j).2.1 = 0) (cb : chk (drop n L k).1 (drop n L k).2.1 = 0) :
    drop (drop n L j).1 (drop n L j).2.1 (k - 1) = drop (drop n L k).1 (drop n L k).2.1 j := by
  obtain ⟨h0, j1, j2, C, hC, ea⟩ := drop_ok ha
  obtain ⟨_, k1, k2, C', hC', eb⟩ := drop_ok hb
  rw [hC] at hC'; injection hC' with hC'; subst hC'
  obtain ⟨N, rfl⟩ : ∃ N : Nat, n = N := ⟨n.toNat, by omega⟩
  obtain ⟨J, rfl⟩ : ∃ J : Nat, j = J := ⟨j.toNat, by omega⟩
  obtain ⟨K, rfl⟩ : ∃ K : Nat, k = K := ⟨k.toNat, by omega⟩
  rw [Int.toNat_natCast] at hC
  have hclo := close_clo h0 hC
  rw [ea] at ca ⊢
  rw [eb] at cb ⊢
  simp only [Int.toNat_natCast] at ca cb ⊢
  have en : (N : Int) - 1 = ((N - 1 : Nat) : Int) := by omega
  have ek : (K : Int) - 1 = ((K - 1 : Nat) : Int) := by omega
  rw [en] at ca cb ⊢
  rw [ek, drop_closed ca (clo_drop hclo) (by omega) (by omega), drop_closed cb (clo_drop hclo) (by omega) (by omega), dropL_dropL C (by omega)]
end Go.Proofs.YtjbhpfmnfdebkaaGreat.Proj

/-
  Plain laws of compositions, ended: the points of two zones one behind the other. No program is in sight.
-/
namespace Go.Proofs.YtjbhpfmnfdebkaaGreat
set_option linter.unusedVariables false
set_option linter.unusedSimpArgs false
open Go.RowKit Go.Proofs.YtjbhpfmnfdebkaaGreat.Eng Enc
namespace Dbm
end Dbm
namespace Cmp
open Dbm Mi
def cl (c0 c1 c2 i : Nat) : Nat := if i = 0 then c0 else if i = 1 then c1 else c2
/-- three times. -/
def t3 (x y z : Rat) (i : Nat) : Rat := if i = 0 then x else if i = 1 then y else z
end Cmp
namespace Zs
open Mi Dbm Cmp
end Zs
end Go.Proofs.YtjbhpfmnfdebkaaGreat

/-
  The document's answer: ref09.Comp, by the engine.
-/
namespace Go.Proofs.YtjbhpfmnfdebkaaGreat
set_option linter.unusedVariables false
set_option linter.unusedSimpArgs false
set_option maxRecDepth 100000
open Go.RowKit Go.Proofs.YtjbhpfmnfdebkaaGreat.Eng Enc

namespace Cmp
open Dbm
end Cmp
end Go.Proofs.YtjbhpfmnfdebkaaGreat

/-
  Compositions by the document's closing. No program is in sight.
-/
namespace Go.Proofs.YtjbhpfmnfdebkaaGreat
set_option linter.unusedVariables false
set_option linter.unusedSimpArgs false
open Go.RowKit Go.Proofs.YtjbhpfmnfdebkaaGreat.Eng Enc
namespace Cmp
open Dbm
end Cmp
end Go.Proofs.YtjbhpfmnfdebkaaGreat

/-
  The document's answer: ref09.Comp, by the engine (the second part).
-/
namespace Go.Proofs.YtjbhpfmnfdebkaaGreat
set_option linter.unusedVariables false
set_option linter.unusedSimpArgs false
set_option maxRecDepth 100000
open Go.RowKit Go.Proofs.YtjbhpfmnfdebkaaGreat.Eng Enc

end Go.Proofs.YtjbhpfmnfdebkaaGreat

/-
  The document's answer of layer 11, by the engine: Less.
-/
namespace Go.Proofs.YtjbhpfmnfdebkaaGreat
set_option linter.unusedVariables false
set_option linter.unusedSimpArgs false
set_option maxRecDepth 100000
open Go.RowKit Go.Proofs.YtjbhpfmnfdebkaaGreat.Eng Enc

namespace Mi
open Dbm
/-- where Less stands. -/
structure LSit (w w2 V : World) (Bb : Nat) (b : Zn) (sv : Value) (out : List Zn) (X : World) : Prop where
  below : Below w.heap.size w X
  size : w2.heap.size ≤ X.heap.size
  size0 : V.heap.size ≤ X.heap.size
  ha : Holds X Bb b
  own : Own 104 w2.heap.size X sv out
section
variable {w w2 V X Y : World} {Bb : Nat} {b : Zn} {sv : Value} {out : List Zn}
theorem LSit.at {hp : List LB} {r L : List Nat} (s : LSit w w2 V Bb b sv out X) (h : At ⟨w, w.heap.size, Nat.le_refl _⟩ hp r L X Y) (hL : ∀ x, x ∈ L → X.heap.size ≤ x ∨ x ≠ Bb ∧ sv.ownBlock ≠ some x) : LSit w w2 V Bb b sv out Y := by
  refine ⟨h.below, Nat.le_trans s.size h.size, Nat.le_trans s.size0 h.size, s.ha.same (h.step Bb s.ha.lt fun hm => ?_), ?_⟩
  · rcases hL _ hm with h1 | h1
    · have := s.ha.lt; omega
    · exact h1.1 rfl
  · obtain ⟨hl, h0 | ⟨g, cap, cur, e1, e2, e3, e4⟩⟩ := s.own
    · exact ⟨hl, .inl h0⟩
    · have hg := (Array.getElem?_eq_some_iff.1 e3).1
      refine ⟨hl, .inr ⟨g, cap, cur, e1, e2, (h.step g hg (fun e => ?_)).trans e3, e4⟩⟩
      rcases hL g e with h1 | h1
      · omega
      · exact h1.2 (by rw [e1]; rfl)
theorem LSit.go (s : LSit w w2 V Bb b sv out X) (hw : w.heap.size ≤ w2.heap.size) (hB : Below X.heap.size X Y) : LSit w w2 V Bb b sv out Y :=
  ⟨s.below.trans (hB.mono s.below.size), Nat.le_trans s.size hB.size, Nat.le_trans s.size0 hB.size, s.ha.below hB, s.own.below hB⟩
end
end Mi
end Go.Proofs.YtjbhpfmnfdebkaaGreat

/-
  The document's answer of layer 11, by the engine: Rest.
-/
namespace Go.Proofs.YtjbhpfmnfdebkaaGreat
set_option linter.unusedVariables false
set_option linter.unusedSimpArgs false
set_option maxRecDepth 100000
open Go.RowKit Go.Proofs.YtjbhpfmnfdebkaaGreat.Eng Enc

end Go.Proofs.YtjbhpfmnfdebkaaGreat

/-
  The document's answer of layer 12, by the engine: Check, Covered, In, AllCovered, All.
-/
namespace Go.Proofs.YtjbhpfmnfdebkaaGreat
set_option linter.unusedVariables false
set_option linter.unusedSimpArgs false
set_option maxRecDepth 100000
open Go.RowKit Go.Proofs.YtjbhpfmnfdebkaaGreat.Eng Enc

namespace Cv
end Cv
end Go.Proofs.YtjbhpfmnfdebkaaGreat

/-
  The document's answer of layer 12, by the engine: AllCovered, All, without; the order of zones.
-/
namespace Go.Proofs.YtjbhpfmnfdebkaaGreat
set_option linter.unusedVariables false
set_option linter.unusedSimpArgs false
set_option maxRecDepth 100000
open Go.RowKit Go.Proofs.YtjbhpfmnfdebkaaGreat.Eng Enc

end Go.Proofs.YtjbhpfmnfdebkaaGreat

/-
  The document's answer of layer 8, by the engine: Cmp.
-/
namespace Go.Proofs.YtjbhpfmnfdebkaaGreat
set_option linter.unusedVariables false
set_option linter.unusedSimpArgs false
set_option maxRecDepth 100000
open Go.RowKit Go.Proofs.YtjbhpfmnfdebkaaGreat.Eng Enc

end Go.Proofs.YtjbhpfmnfdebkaaGreat

/-
  The least of a list behind a place: what the document's Sorted takes; plain.
-/
namespace Go.Proofs.YtjbhpfmnfdebkaaGreat
set_option linter.unusedVariables false
set_option linter.unusedSimpArgs false
open Go.RowKit

namespace Cv
open Zo
/-- x comes behind all of out. -/
def Nx (out : List Zn) (x : Zn) : Prop := ∀ y, out.getLast? = some y → Lt y x
/-- what the inner scan has found among the first i. -/
def Sc (l out : List Zn) (i : Nat) (b : Int) : Prop :=
  (b = -1 ∧ ∀ k x, k < i → l[k]? = some x → ¬ Nx out x) ∨
  (∃ j y, b = (j : Nat) ∧ j < i ∧ l[j]? = some y ∧ Nx out y ∧ ∀ k x, k < i → l[k]? = some x → Nx out x → ¬ Lt x y)
theorem Sc.start (l out : List Zn) : Sc l out 0 (-1) := .inl ⟨rfl, fun k x h => by omega⟩
theorem Sc.skip {l out : List Zn} {i : Nat} {b : Int} {x : Zn} (h : Sc l out i b) (hx : l[i]? = some x) (hn : ¬ Nx out x) : Sc l out (i + 1) b := by
  rcases h with ⟨rfl, h⟩ | ⟨j, y, rfl, hj, hy, hn2, h⟩
  · refine .inl ⟨rfl, fun k x' hk hx' => ?_⟩
    by_cases e : k = i
    · subst e; rw [hx] at hx'; cases hx'; exact hn
    · exact h k x' (by omega) hx'
  · refine .inr ⟨j, y, rfl, by omega, hy, hn2, fun k x' hk hx' hn' => ?_⟩
    by_cases e : k = i
    · subst e; rw [hx] at hx'; cases hx'; exact absurd hn' hn
    · exact h k x' (by omega) hx' hn'
theorem Sc.first {l out : List Zn} {i : Nat} {x : Zn} (h : Sc l out i (-1)) (hx : l[i]? = some x) (hn : Nx out x) : Sc l out (i + 1) (i : Nat) := by
  rcases h with ⟨_, h⟩ | ⟨j, y, e, _⟩
  · refine .inr ⟨i, x, rfl, by omega, hx, hn, fun k x' hk hx' hn' => ?_⟩
    by_cases e : k = i
    · subst e; rw [hx] at hx'; cases hx'; exact Lt.irrefl _
    · exact absurd hn' (h k x' (by omega) hx')
  · omega
theorem Sc.keep {l out : List Zn} {i j : Nat} {x y : Zn} (h : Sc l out i (j : Nat)) (hx : l[i]? = some x) (hy : l[j]? = some y) (hn : ¬ Lt x y) : Sc l out (i + 1) (j : Nat) := by
  rcases h with ⟨e, _⟩ | ⟨j', y', e, hj, hy', hn2, h⟩
  · omega
  · have : j' = j := by omega
    subst this
    rw [hy] at hy'; cases hy'
    refine .inr ⟨j', y, rfl, by omega, hy, hn2, fun k x' hk hx' hn' => ?_⟩
    by_cases e : k = i
    · subst e; rw [hx] at hx'; cases hx'; exact hn
    · exact h k x' (by omega) hx' hn'
theorem Sc.less {l out : List Zn} {i j : Nat} {x y : Zn} (h : Sc l out i (j : Nat)) (hx : l[i]? = some x) (hy : l[j]? = some y) (hN : Nx out x) (hn : Lt x y) : Sc l out (i + 1) (i : Nat) := by
  rcases h with ⟨e, _⟩ | ⟨j', y', e, hj, hy', hn2, h⟩
  · omega
  · have : j' = j := by omega
    subst this
    rw [hy] at hy'; cases hy'
    refine .inr ⟨i, x, rfl, by omega, hx, hN, fun k x' hk hx' hn' hlt => ?_⟩
    by_cases e : k = i
    · subst e; rw [hx] at hx'; cases hx'; exact Lt.irrefl _ hlt
    · exact h k x' (by omega) hx' hn' (Lt.trans hlt hn)
theorem last_take {S : List Zn} {p : Nat} (hp : p ≤ S.length) : (S.take p).getLast? = if p = 0 then none else S[p - 1]? := by
  rw [List.getLast?_eq_getElem?, List.length_take, Nat.min_eq_left hp]
  by_cases h : p = 0
  · subst h; simp
  · rw [if_neg h, List.getElem?_take, if_pos (by omega)]
theorem strict_at {S : List Zn} (h : S.Pairwise Lt) {i j : Nat} {x y : Zn} (hx : S[i]? = some x) (hy : S[j]? = some y) (hij : i < j) : Lt x y := by
  obtain ⟨h1, rfl⟩ := List.getElem?_eq_some_iff.1 hx
  obtain ⟨h2, rfl⟩ := List.getElem?_eq_some_iff.1 hy
  exact List.pairwise_iff_getElem.1 h i j h1 h2 hij
theorem nx_at {S : List Zn} (h : S.Pairwise Lt) {p j : Nat} {x : Zn} (hp : p ≤ S.length) (hx : S[j]? = some x) : Nx (S.take p) x ↔ p ≤ j := by
  unfold Nx
  rw [last_take hp]
  constructor
  · intro hn
    by_cases e : p = 0
    · omega
    rw [if_neg e] at hn
    obtain ⟨y, hy⟩ : ∃ y, S[p - 1]? = some y := ⟨_, List.getElem?_eq_getElem (by omega)⟩
    have hlt := hn y hy
    refine Nat.le_of_not_lt fun hj => ?_
    by_cases e2 : j = p - 1
    · subst e2; rw [hx] at hy; cases hy; exact Lt.irrefl _ hlt
    · exact Lt.irrefl _ (Lt.trans hlt (strict_at h hx hy (by omega)))
  · intro hpj y hy
    by_cases e : p = 0
    · rw [if_pos e] at hy; cases hy
    · rw [if_neg e] at hy
      exact strict_at h hy hx (by omega)
theorem Sc.done {l : List Zn} {p : Nat} (hp : p ≤ (sorted l).length) (h : Sc l ((sorted l).take p) l.length (-1)) : (sorted l).take p = sorted l := by
  rcases h with ⟨_, h⟩ | ⟨j, y, e, _⟩
  · refine List.take_of_length_le (Nat.le_of_not_lt fun hlt => ?_)
    have hx := List.getElem?_eq_getElem hlt
    obtain ⟨k, hk⟩ := List.mem_iff_getElem?.1 ((sorted_mem l _).1 (List.mem_of_getElem? hx))
    exact h k _ (List.getElem?_eq_some_iff.1 hk).1 hk ((nx_at (sorted_strict l) hp hx).2 (Nat.le_refl _))
  · omega
theorem Sc.more {l : List Zn} {p j : Nat} {y : Zn} (hp : p ≤ (sorted l).length) (h : Sc l ((sorted l).take p) l.length (j : Nat)) (hy : l[j]? = some y) : (sorted l)[p]? = some y := by
  rcases h with ⟨e, _⟩ | ⟨j', y', e, hj, hy', hn2, h⟩
  · omega
  · have : j' = j := by omega
    subst this
    rw [hy] at hy'; cases hy'
    obtain ⟨q, hq⟩ := List.mem_iff_getElem?.1 ((sorted_mem l y).2 (List.mem_of_getElem? hy))
    have hpq := (nx_at (sorted_strict l) hp hq).1 hn2
    by_cases e : p = q
    · rw [e]; exact hq
    have hql := (List.getElem?_eq_some_iff.1 hq).1
    have hx := List.getElem?_eq_getElem (l := sorted l) (i := p) (by omega)
    obtain ⟨k, hk⟩ := List.mem_iff_getElem?.1 ((sorted_mem l _).1 (List.mem_of_getElem? hx))
    exact absurd (strict_at (sorted_strict l) hx hq (by omega)) (h k _ (List.getElem?_eq_some_iff.1 hk).1 hk ((nx_at (sorted_strict l) hp hx).2 (Nat.le_refl _)))
end Cv
end Go.Proofs.YtjbhpfmnfdebkaaGreat

/-
  The document's answer of layer 12, by the engine: Sorted.
-/
namespace Go.Proofs.YtjbhpfmnfdebkaaGreat
set_option linter.unusedVariables false
set_option linter.unusedSimpArgs false
set_option maxRecDepth 100000
open Go.RowKit Go.Proofs.YtjbhpfmnfdebkaaGreat.Eng Enc

namespace Zo
end Zo
namespace Cv
theorem Sc.neg {l out : List Zn} {i : Nat} {b : Int} (h : Sc l out i b) (hb : b < 0) : b = -1 := by
  rcases h with ⟨rfl, _⟩ | ⟨j, y, rfl, _⟩ <;> omega
theorem Sc.pos {l out : List Zn} {i : Nat} {b : Int} (h : Sc l out i b) (hb : ¬ b < 0) : ∃ j y, b = (j : Nat) ∧ j < i ∧ l[j]? = some y := by
  rcases h with ⟨rfl, _⟩ | ⟨j, y, rfl, hj, hy, _⟩
  · omega
  · exact ⟨j, y, rfl, hj, hy⟩
end Cv
end Go.Proofs.YtjbhpfmnfdebkaaGreat

/-
  The document's answer of layer 12, by the engine: Wanted, Prune.
-/
namespace Go.Proofs.YtjbhpfmnfdebkaaGreat
set_option linter.unusedVariables false
set_option linter.unusedSimpArgs false
set_option maxRecDepth 100000
open Go.RowKit Go.Proofs.YtjbhpfmnfdebkaaGreat.Eng Enc

end Go.Proofs.YtjbhpfmnfdebkaaGreat

/-
  The document's answer of layer 12, by the engine: what Prune answers is a row of its own.
-/
namespace Go.Proofs.YtjbhpfmnfdebkaaGreat
set_option linter.unusedVariables false
set_option linter.unusedSimpArgs false
set_option maxRecDepth 100000
open Go.RowKit Go.Proofs.YtjbhpfmnfdebkaaGreat.Eng Enc

end Go.Proofs.YtjbhpfmnfdebkaaGreat

/-
  rallentandoref11.Same: whether two lists of zones are the same.
-/
namespace Go.Proofs.YtjbhpfmnfdebkaaGreat
set_option linter.unusedVariables false
set_option linter.unusedSimpArgs false
set_option maxRecDepth 100000
open Go.RowKit Go.Proofs.YtjbhpfmnfdebkaaGreat.Eng Enc

end Go.Proofs.YtjbhpfmnfdebkaaGreat

/-
  The document's answer of layer 13: sets of zones, by the engine.
-/
namespace Go.Proofs.YtjbhpfmnfdebkaaGreat
set_option linter.unusedVariables false
set_option linter.unusedSimpArgs false
set_option maxRecDepth 100000
open Go.RowKit Go.Proofs.YtjbhpfmnfdebkaaGreat.Eng Enc

namespace Zs
end Zs
end Go.Proofs.YtjbhpfmnfdebkaaGreat

/-
  The document's answers of layers 3, 4 and 8: what times keep, by the engine.
-/
namespace Go.Proofs.YtjbhpfmnfdebkaaGreat
set_option linter.unusedVariables false
set_option linter.unusedSimpArgs false
set_option maxRecDepth 100000
open Go.RowKit Go.Proofs.YtjbhpfmnfdebkaaGreat.Eng Enc

namespace Fr
theorem keeps_no {a b : Rt} (ha : a.ok = true) (hb : b.ok = true) {x : Int} (hx : Bd.may x = true) : (keeps a b x).1 = if x = 9223372036854775807 then true else kept a b x := by
  unfold keeps
  rw [ha, hb, hx]
  simp only [Bool.and_self, if_true]
  split <;> rfl
/-- by whole parts first, then by what is left over. -/
theorem kept_doc (a b : Rt) (x : Int) : kept a b x = if a.num / a.den - b.num / b.den ≠ x / 2 then decide (a.num / a.den - b.num / b.den < x / 2) else decide (a.num % a.den * b.den < b.num % b.den * a.den) || (decide (a.num % a.den * b.den = b.num % b.den * a.den) && !(Bd.st x)) := by
  unfold kept sign rest
  generalize a.num / a.den - b.num / b.den = n
  generalize x / 2 = c
  generalize a.num % a.den * b.den = p
  generalize b.num % b.den * a.den = q
  by_cases h : n = c
  · have e : cmpI n c = 0 := by unfold cmpI; split; omega; split; omega; rfl
    rw [if_neg (by rw [e]; decide), if_neg (by omega)]
    unfold cmpI
    by_cases h1 : p < q
    · rw [if_pos h1]; simp [h1]
    · rw [if_neg h1]
      by_cases h2 : q < p
      · rw [if_pos h2]
        have : ¬ p = q := by omega
        simp [h1, this]
      · rw [if_neg h2]
        have : p = q := by omega
        simp [this]
  · have e : cmpI n c ≠ 0 := by unfold cmpI; split; decide; split; decide; omega
    rw [if_pos e, if_pos h]
    unfold cmpI
    by_cases h1 : n < c
    · rw [if_pos h1]; simp [h1]
    · rw [if_neg h1, if_pos (by omega)]; simp [h1]
end Fr
theorem rkept03_any (a b : Rt) (ha : a.ok = true) (hb : b.ok = true) (ia : a.ins) (ib : b.ins) (x : Int) (hx : Bd.may x = true) (ix : inK .i64 x) (w : World) :
    Calls Tryz.prog 235 #[.agg #[.int .i64 a.num, .int .i64 a.den], .agg #[.int .i64 b.num, .int .i64 b.den], .int .i64 x] w fun e w' => e = .returned (.bool (Fr.keeps a b x).1) ∧ Below w.heap.size w w' := by
  rw [Fr.keeps_no ha hb hx]
  refine fun_eq 0 w Tryz.func235 (args := [.agg [.val (.int .i64 a.num), .val (.int .i64 a.den)], .agg [.val (.int .i64 b.num), .val (.int .i64 b.den)], .val (.int .i64 x)]) rfl rfl ?_
  have o1 := Fr.ok_bd ha
  have o2 := Fr.ok_bd hb
  have ix' := ix
  simp only [inK] at ix'
  have m1 := Fr.mul_bd (u := a.num % a.den) (v := b.den) (m := 1048576) (n := 1048576) (by omega) (by omega) (by omega) (by omega)
  have m2 := Fr.mul_bd (u := b.num % b.den) (v := a.den) (m := 1048576) (n := 1048576) (by omega) (by omega) (by omega) (by omega)
  refine NewI.mk fun b1 hb1 => ?_
  refine NewI.mk fun b2 hb2 => ?_
  refine Branch.mk (fun z1 => ?_) (fun z1 => ?_)
  · rw [if_pos (of_decide_eq_true z1)]
    exact EndI.mk fun w9 h9 => rfl
  rw [if_neg (of_decide_eq_false z1), Fr.kept_doc]
  refine CallI.to0 (fun w => rnumber_any x ix'.1 ix'.2 w) fun w2 => ?_
  refine DrawI.go (.tk 0 (.tk 1 (.tk 2 (.tk 3 (.tk 5 (.tk 6 (.tk 7 (.tk 8 (.ev 4 (.ev 9 (.tk 10 (.tk 11 .done)))))))))))) (by kernel_rfl) fun w3 h3 => ?_
  refine CallI.to1 (fun w => rlow03_any a.num a.den o1.1 ia.1 w) fun w4 => ?_
  refine CallI.to1 (fun w => rlow03_any b.num b.den o2.1 ib.1 w) fun w5 => ?_
  refine Need.mk (by simp only [inK]; omega) ?_
  refine Branch.mk (fun z2 => ?_) (fun z2 => ?_)
  · rw [if_pos (of_decide_eq_true z2)]
    exact EndI.mk fun w9 h9 => rfl
  rw [if_neg (of_decide_eq_false z2)]
  refine DrawI.go (.tk 0 (.tk 1 (.tk 2 (.tk 3 (.tk 5 (.tk 6 (.ev 4 (.tk 7 (.tk 8 .done))))))))) (by kernel_rfl) fun w6 h6 => ?_
  refine CallI.to1 (fun w => rpart03_any a.num a.den o1.1 ia.2 w) fun w7 => ?_
  refine Need.mk (by simp only [inK]; omega) ?_
  refine DrawI.go (.tk 0 (.tk 1 (.tk 2 (.tk 3 (.tk 5 (.tk 6 (.ev 4 (.tk 7 (.tk 8 .done))))))))) (by kernel_rfl) fun w8 h8 => ?_
  refine CallI.to1 (fun w => rpart03_any b.num b.den o2.1 ib.2 w) fun w9 => ?_
  refine Need.mk (by simp only [inK]; omega) ?_
  refine Branch.mk (fun z3 => ?_) (fun z3 => ?_)
  · exact EndI.mk fun w9 h9 => by rw [z3]; rfl
  rw [z3]
  refine Branch.mk (fun z4 => ?_) (fun z4 => ?_)
  · refine CallI.to0 (fun w => rstrict_any x w) fun w2 => ?_
    exact EndI.mk fun w9 h9 => by rw [z4]; simp
  · exact EndI.mk fun w9 h9 => by rw [z4]; simp
/-- one place of what times keep. -/
def Dbm.kp (L : List Int) (M : List Rt) (i j : Nat) : Bool := (Fr.keeps (M[i]?.getD ⟨0, 1⟩) (M[j]?.getD ⟨0, 1⟩) (L[i * 3 + j]?.getD 0)).1
theorem rkept04_any (L : List Int) (hL : L.length = 9) (hm : ∀ q, q < 9 → Bd.may (L[q]?.getD 0) = true ∧ inK .i64 (L[q]?.getD 0)) (t u : Rt) (ht : t.ok = true) (hu : u.ok = true) (it : t.ins) (iu : u.ins) (a b : Option Addr) (ca cb : Nat) (w : World) (hS : Sl w.heap.size w (.slice a L.length ca) L) (hT : Sl w.heap.size w (.slice b 2 cb) [t, u]) :
    Calls Tryz.prog 171 #[.agg #[.int .i64 3, .slice a L.length ca], .slice b 2 cb] w fun e w' => e = .returned (.bool (Dbm.keptL 3 L [t, u])) ∧ Below w.heap.size w w' := by
  have hK : Dbm.keptL 3 L [t, u] = true ↔ ∀ i j, i < 3 → j < 3 → Dbm.kp L [⟨0, 1⟩, t, u] i j = true := Dbm.keptK
  have oz : (⟨0, 1⟩ : Rt).ok = true := by decide
  have iz : (⟨0, 1⟩ : Rt).ins := ⟨by simp [inK], by simp [inK]⟩
  have hM : ∀ i, i < 3 → ∃ x, ([⟨0, 1⟩, t, u] : List Rt)[i]? = some x ∧ x.ok = true ∧ x.ins := fun i hi => by
    rcases (by omega : i = 0 ∨ i = 1 ∨ i = 2) with rfl | rfl | rfl
    · exact ⟨_, rfl, oz, iz⟩
    · exact ⟨_, rfl, ht, it⟩
    · exact ⟨_, rfl, hu, iu⟩
  generalize hKL : Dbm.keptL 3 L [t, u] = KL at hK ⊢
  refine fun_eq 0 w Tryz.func171 (args := [.agg [.val (.int .i64 3), .val (.slice a L.length ca)], .val (.slice b 2 cb)]) rfl rfl ?_
  refine NewI.mk fun b1 hb1 => ?_
  refine NewI.mk fun b2 hb2 => ?_
  refine GenN.appN (α := Rt) elR [⟨0, 1⟩] [t, u] w.heap.size rfl (fun w5 h5 => Own.own (l := [(⟨0, 1⟩ : Rt)]) h5 1 rfl rfl rfl hb2 (n := 1) rfl (by simp [maxLen])) (fun w5 h5 => (hT.go h5.below h5.below.size).src) (by simp) (by simp [maxLen]) (by simp) fun v5 w5 w6 h5 hB5 hO => ?_
  obtain ⟨a5, c5, rfl⟩ := hO.form
  have hw6 : Below w.heap.size w w6 := h5.below.trans (hB5.mono h5.below.size)
  have hO : Own TR w5.heap.size w6 (.slice a5 3 c5) [(⟨0, 1⟩ : Rt), t, u] := hO
  refine LoopI.invC (α := Nat × World) (fun y => [(6, .val (.int .i64 y.1))]) (fun y => y.2) (fun y => y.1 ≤ 3 ∧ Below w.heap.size w y.2 ∧ Own TR w5.heap.size y.2 (.slice a5 3 c5) [(⟨0, 1⟩ : Rt), t, u] ∧ ∀ i j, i < y.1 → j < 3 → Dbm.kp L [⟨0, 1⟩, t, u] i j = true) (fun y => 3 - y.1) ?_ ?_
  · intro w7 h7
    exact ⟨(0, w7), Cov.mk (by repeat' (first | exact trivial | refine And.intro rfl ?_)) rfl rfl rfl rfl rfl, rfl, Nat.zero_le _, h7.below, hO.below (at_belowM h7 (by simp)), by simp⟩
  rintro ⟨i, V⟩ ⟨hi, hV, hOV, hq⟩
  simp only at hi hV hOV hq
  refine Branch.mk (fun z1 => ?_) (fun z1 => ?_)
  · have hi3 : i < 3 := by have := of_decide_eq_true z1; simp only at this; omega
    refine LoopI.invC (α := Nat × World) (fun y => [(7, .val (.int .i64 y.1))]) (fun y => y.2) (fun y => y.1 ≤ 3 ∧ Below w.heap.size w y.2 ∧ Own TR w5.heap.size y.2 (.slice a5 3 c5) [(⟨0, 1⟩ : Rt), t, u] ∧ ∀ j, j < y.1 → Dbm.kp L [⟨0, 1⟩, t, u] i j = true) (fun y => 3 - y.1) ?_ ?_
    · intro w7 h7
      exact ⟨(0, w7), Cov.mk (by repeat' (first | exact trivial | refine And.intro rfl ?_)) rfl rfl rfl rfl rfl, rfl, Nat.zero_le _, h7.below, hOV.below (at_belowM h7 (by simp)), by simp⟩
    rintro ⟨j, U⟩ ⟨hj, hU, hOU, hq2⟩
    simp only at hj hU hOU hq2
    refine Branch.mk (fun z2 => ?_) (fun z2 => ?_)
    · have hj3 : j < 3 := by have := of_decide_eq_true z2; simp only at this; omega
      obtain ⟨x, hx, ox, ixx⟩ := hM i hi3
      obtain ⟨y, hy, oy, iy⟩ := hM j hj3
      have hb := List.getElem?_eq_getElem (l := L) (i := i * 3 + j) (by omega)
      obtain ⟨bm, bi⟩ := hm (i * 3 + j) (by omega)
      have hkp : Dbm.kp L [⟨0, 1⟩, t, u] i j = (Fr.keeps x y (L[i * 3 + j]'(by omega))).1 := by unfold Dbm.kp; rw [hx, hy, hb]; rfl
      rw [hb] at bm bi
      simp only [Option.getD_some] at bm bi
      generalize L[i * 3 + j]'(by omega) = q at hb bm bi hkp
      refine DrawI.go (.tk 0 (.tk 1 (.tk 2 (.tk 3 (.tk 4 (.tk 5 (.tk 6 (.tk 7 (.tk 8 (.tk 9 (.tk 10 (.tk 11 (.tk 12 (.tk 13 (.tk 14 (.tk 15 (.tk 16 (.tk 17 (.ev 18 (.tk 19 .done)))))))))))))))))))) (by kernel_rfl) fun w8 h8 => ?_
      have hO8 := hOU.below (at_belowM h8 (by simp))
      have hS8 : Sl w8.heap.size w8 (.slice a5 3 c5) [(⟨0, 1⟩ : Rt), t, u] := hO8.sl
      have hL8 : Sl w8.heap.size w8 (.slice a L.length ca) L := hS.go h8.below h8.below.size
      have eij : (i : Int) * 3 = ((i * 3 : Nat) : Int) := rfl
      refine hS8.idx hx fun ad had => ?_
      refine hS8.ld hx had (Below.refl _ _) (by simp) ?_
      refine hS8.idx hy fun ad2 had2 => ?_
      refine hS8.ld hy had2 (Below.refl _ _) (by simp) ?_
      refine Need.mk (by simp only; rw [eij]; simp only [inK]; omega) ?_
      refine Need.mk (by simp only; rw [eij]; simp only [inK]; omega) ?_
      refine hL8.idx hb fun ad3 had3 => ?_
      refine hL8.ld1 hb had3 (Below.refl _ _) (by simp) ?_
      apply CallI.use1
      focus (exact fun w9 h9 => rkept03_any x y ox oy ixx iy q bm bi w9)
      intro w9 v9 h9 hB9
      rw [← hkp]
      have hO9 := (hO8.below (at_belowM h9 (by simp))).below hB9
      refine Branch.mk (fun z3 => ?_) (fun z3 => ?_)
      · have hf : Dbm.kp L [⟨0, 1⟩, t, u] i j = false := by simpa using z3
        refine EndI.mk fun w10 h10 => ?_
        have : KL = false := by
          cases KL with
          | false => rfl
          | true => rw [hK.1 rfl i j hi3 hj3] at hf; cases hf
        rw [this]
      · have ht' : Dbm.kp L [⟨0, 1⟩, t, u] i j = true := by simpa using z3
        refine Need.mk (by simp only [inK]; omega) (EndI.mk fun w10 h10 => ⟨(j + 1, w10), Cov.mk (by repeat' (first | exact trivial | refine And.intro rfl ?_)) rfl rfl rfl rfl rfl, rfl, ⟨hj3, h10.below, hO9.below (at_belowM h10 (by simp)), fun j' hj' => ?_⟩, by simp only; omega⟩)
        by_cases e : j' = j
        · subst e; exact ht'
        · exact hq2 j' (by simp only at hj'; omega)
    · have hge : j = 3 := by have := of_decide_eq_false z2; simp only at this; omega
      subst hge
      refine Need.mk (by simp only [inK]; omega) (EndI.mk fun w10 h10 => ⟨(i + 1, w10), Cov.mk (by repeat' (first | exact trivial | refine And.intro rfl ?_)) rfl rfl rfl rfl rfl, rfl, ⟨hi3, h10.below, hOU.below (at_belowM h10 (by simp)), fun i' j' hi' hj' => ?_⟩, by simp only; omega⟩)
      by_cases e : i' = i
      · subst e; exact hq2 j' hj'
      · exact hq i' j' (by simp only at hi'; omega) hj'
  · have hge : i = 3 := by have := of_decide_eq_false z1; simp only at this; omega
    subst hge
    refine EndI.mk fun w10 h10 => ?_
    rw [hK.2 hq]
theorem rinside_any (z : Zn) (hz : Zo.chk z = 0) (p : Pt) (hp : p.ins) (ht : p.t.ok = true) (hu : p.u.ok = true) (w : World) :
    Calls Tryz.prog 102 #[.agg #[.int .i64 z.a, .int .i64 z.b, .int .i64 z.c, .int .i64 z.d, .int .i64 z.e, .int .i64 z.f], .agg #[.int .i64 p.t.num, .int .i64 p.t.den, .int .i64 p.u.num, .int .i64 p.u.den]] w fun e w' => e = .returned (.bool (Dbm.keptL 3 (Zo.matL z) [p.t, p.u])) ∧ Below w.heap.size w w' := by
  refine fun_eq 0 w Tryz.func102 (args := [.agg [.val (.int .i64 z.a), .val (.int .i64 z.b), .val (.int .i64 z.c), .val (.int .i64 z.d), .val (.int .i64 z.e), .val (.int .i64 z.f)], .agg [.val (.int .i64 p.t.num), .val (.int .i64 p.t.den), .val (.int .i64 p.u.num), .val (.int .i64 p.u.den)]]) rfl rfl ?_
  refine NewI.mk fun b1 hb1 => ?_
  refine NewI.mk fun b2 hb2 => ?_
  refine DrawI.go (.tk 0 (.tk 2 (.tk 3 (.tk 4 (.tk 5 (.two 1 (.ev 6 (.ev 7 (.tk 8 .done))) 6 (.ev 1 (.ev 7 (.tk 8 .done))))))))) (by kernel_rfl) fun w1 h1 => ?_
  have hc0 : Dbm.chk 3 (Zo.matL z) = 0 := by
    have hk := Zo.chk_eq.1 hz
    rcases Classical.em (Dbm.chk 3 (Zo.matL z) = 0) with h | h
    · exact h
    · exfalso
      unfold Dbm.close at hk
      rw [if_neg h] at hk
      simp at hk
  have hm : ∀ q, q < 9 → Bd.may ((Zo.matL z)[q]?.getD 0) = true ∧ inK .i64 ((Zo.matL z)[q]?.getD 0) := fun q hq => by
    have h := Dbm.chk_lim hc0 q hq
    refine ⟨Dbm.may_limK (Dbm.lim_mono h (by omega)), ?_⟩
    simp only [inK]
    rcases h with h | h
    · rw [h]; unfold Dbm.NO; omega
    · omega
  refine Both.mk ?_ ?_
  · apply CallI.use
    focus (exact fun w2 h2 => rfull_any z w2)
    rintro v w2 v2 h2 hB2 ⟨a2, c2, rfl, hS2⟩
    refine NewI.mk fun b3 hb3 => ?_
    apply CallI.use1
    focus (exact fun w3 h3 => rkept04_any (Zo.matL z) rfl hm p.t p.u ht hu hp.1 hp.2 a2 _ c2 _ w3 (hS2.go (at_belowM h3 (by simp)) h3.size) (Sl.own (l := [p.t, p.u]) h3 2 rfl rfl rfl (Nat.le_refl _) (by simp [maxLen])))
    intro w3 v3 h3 hB3
    exact EndI.mk fun w9 h9 => rfl
  · refine NewI.mk fun b3 hb3 => ?_
    apply CallI.use
    focus (exact fun w2 h2 => rfull_any z w2)
    rintro v w2 v2 h2 hB2 ⟨a2, c2, rfl, hS2⟩
    apply CallI.use1
    focus (exact fun w3 h3 => rkept04_any (Zo.matL z) rfl hm p.t p.u ht hu hp.1 hp.2 a2 _ c2 _ w3 (hS2.go (at_belowM h3 (by simp)) h3.size) (Sl.own (l := [p.t, p.u]) h3 2 rfl rfl rfl (Nat.le_refl _) (by simp [maxLen])))
    intro w3 v3 h3 hB3
    exact EndI.mk fun w9 h9 => rfl
end Go.Proofs.YtjbhpfmnfdebkaaGreat

/-
  The document's answer of layer 13: spans, windows, and what is asked, by the engine.
-/
namespace Go.Proofs.YtjbhpfmnfdebkaaGreat
set_option linter.unusedVariables false
set_option linter.unusedSimpArgs false
set_option maxRecDepth 100000
open Go.RowKit Go.Proofs.YtjbhpfmnfdebkaaGreat.Eng Enc

namespace Zs
end Zs
end Go.Proofs.YtjbhpfmnfdebkaaGreat

/-
  The document's answer of layer 14: List, by the engine.
-/
namespace Go.Proofs.YtjbhpfmnfdebkaaGreat
set_option linter.unusedVariables false
set_option linter.unusedSimpArgs false
set_option maxRecDepth 100000
open Go.RowKit Go.Proofs.YtjbhpfmnfdebkaaGreat.Eng Enc

namespace Rg
theorem has_inside {z : Zn} (hz : Zo.chk z = 0) {p : Pt} (ht : p.t.ok = true) (hu : p.u.ok = true) : (Zo.has z p).1 = Dbm.keptL 3 (Zo.matL z) [p.t, p.u] := by
  have hc0 := (Zo.clo hz).1
  unfold Zo.has
  rw [if_pos ⟨hz, ht, hu⟩]
  unfold Dbm.keeps
  rw [if_pos ⟨hc0, by simp [ht, hu]⟩, if_pos (by simp)]
  rfl
theorem up_congr {long : Int} {p q : Int → Bool} (h : ∀ x, 0 ≤ x → x < (many long).1 → p x = q x) : up long p = up long q := by
  unfold up
  congr 1
  apply List.filter_congr
  intro n hn
  have := List.mem_range.1 hn
  exact h n (by omega) (by omega)
/-- is a number a region's whose point is in one of some zones? -/
def hit (l : List Zn) (long : Int) (x : Int) : Bool := (point x long).2 && l.any fun z => (Zo.has z (pt x long)).1
theorem hit_inL (l : List Zn) (long : Int) : up long (hit l long) = up long (inL l long) := up_congr fun x h0 h1 => by
  unfold hit inL isR
  rw [decide_eq_true h0, decide_eq_true h1]; simp
end Rg
set_option maxHeartbeats 1000000 in
theorem rlist14_any (l : List Zn) (hz : ∀ z, z ∈ l → Zo.chk z = 0) (hlen : l.length ≤ 4096) (long : Int) (hl : 1 ≤ long ∧ long ≤ 16) (pa : Option Addr) (ca : Nat) (w : World) (hS : Sl w.heap.size w (.slice pa l.length ca) l) :
    Calls Tryz.prog 39 #[.slice pa l.length ca, .int .i64 long] w (Ret w fun v w' => Own TKi w.heap.size w' v (Rg.up long (Rg.inL l long))) := by
  refine fun_ret 0 w Tryz.func39 (args := [.val (.slice pa l.length ca), .val (.int .i64 long)]) rfl rfl ?_
  have st := Stay.first (w := w)
  have hmm := Fr.mul_bd (u := 3 * (2 * long + 1)) (v := 2 * long + 1) (m := 99) (n := 33) (by omega) (by omega) (by omega) (by omega)
  have hmany := Rg.many_doc hl
  obtain ⟨M, hM⟩ : ∃ M : Nat, 3 * (2 * long + 1) * (2 * long + 1) = M := ⟨(3 * (2 * long + 1) * (2 * long + 1)).toNat, by omega⟩
  have hM1 : (Rg.many long).1 = M := by rw [hmany]; exact hM
  have hM4 : M ≤ 3267 := by omega
  have hM0 : 0 < M := by
    have h : 9 * 3 ≤ 3 * (2 * long + 1) * (2 * long + 1) := Int.mul_le_mul (by omega) (by omega) (by omega) (by omega)
    omega
  rw [← Rg.hit_inL]
  apply CallI.use1
  focus (exact fun w4 h4 => rcount14_any long hl w4)
  intro w4 v4 h4 hB4
  have st := st.next h4 (fun x hx => by simp at hx <;> omega) hB4
  rw [hM]
  refine GenV.mks (α := Bool) elBo false infoBo M rfl (by simp [Enc.size]; omega) (by omega) fun v w5 v5 h5 hB5 hOw => ?_
  have st := st.next h5 (fun x hx => by simp at hx <;> omega) hB5
  obtain ⟨ab, cb', rfl⟩ := hOw.form
  have hBk := Rg.done_zero (Rg.hit l long) M
  have hds := fun k (hk : k < M) => Rg.done_step (Rg.hit l long) hk
  have hdp := Rg.done_pick (Rg.hit l long) hM1
  have hdl := fun k => Rg.done_len (Rg.hit l long) M k
  have hdg := fun k (hk : k < M) => Rg.done_get (f := Rg.hit l long) (k := k) hk
  rw [← hBk] at hOw ⊢
  rw [← hdp]
  generalize hD : Rg.done (Rg.hit l long) M = D at *
  obtain ⟨g, rfl, hgb, hcb1, hcb2, hRow⟩ := BRow.of hOw (by rw [hdl]; omega)
  have hgw : w.heap.size ≤ g := by have := h5.below.size; simp only at this; omega
  rw [hdl] at hcb1 ⊢
  refine LoopI.invC (α := Nat × World) (fun y => [(6, .val (.int .i64 y.1))]) (fun y => y.2) (fun y => y.1 ≤ M ∧ Below w.heap.size w y.2 ∧ BRow y.2 g (D y.1)) (fun y => M - y.1) ?_ ?_
  · intro w6 h6
    exact ⟨(0, w6), Cov.mk (by repeat' (first | exact trivial | refine And.intro rfl ?_)) rfl rfl rfl rfl rfl, rfl, Nat.zero_le _, h6.below, hRow.at h6 (by simp)⟩
  rintro ⟨k, V⟩ ⟨hk, hV, hRk⟩
  simp only at hk hV hRk
  refine Branch.mk (fun hb => ?_) (fun hb => ?_)
  · have hlt : k < M := by have := of_decide_eq_true hb; simp only at this; omega
    have hkn : 0 ≤ (k : Int) ∧ (k : Int) < 3 * (2 * long + 1) * (2 * long + 1) := by omega
    obtain ⟨hpi, hpt, hpu⟩ := Rg.pt_fine hl hkn
    have hes := hds k hlt
    have hgV : g < V.heap.size := hRk.lt
    apply CallI.use1
    focus (exact fun w5 h5 => rof14_any (k : Int) long hl hkn w5)
    intro w6 v6 h6 hB6
    refine NewI.mk fun b2 hb2 => ?_
    have hb2' : v6.heap.size ≤ b2 := hb2
    have hgb2 : b2 ≠ g := by have e1 := h6.size; have e2 := hB6.size; simp only at e1; omega
    have hV6 : Below w.heap.size w v6 := h6.below.trans (hB6.mono h6.below.size)
    have hR6 := (hRk.at h6 (by simp)).below hB6
    have hgv6 : v6.heap.size ≤ b2 := hb2'
    have hgr : ∀ b, b ∈ [b2] → b ≠ g := fun b hb => by rw [List.mem_singleton.1 hb]; exact hgb2
    have hset0 : (D k).set k false = D k := by
      apply List.ext_getElem?
      intro n
      by_cases e : k = n
      · subst e
        rw [List.getElem?_set_self (by rw [hdl]; exact hlt), hdg k hlt]
        simp
      · rw [List.getElem?_set_ne e]
    have hsl : ∀ b, ((D k).set k b).length = M := fun b => by rw [List.length_set, hdl]
    have hsg : ∀ b, ((D k).set k b)[k]? = some b := fun b => List.getElem?_set_self (by rw [hdl]; exact hlt)
    have hss : ∀ b c, ((D k).set k b).set k c = (D k).set k c := fun b c => by rw [List.set_set]
    refine LoopI.invC (α := Nat × World) (fun y => [(9, .val (.int .i64 y.1))]) (fun y => y.2) (fun y => y.1 ≤ l.length ∧ Below w.heap.size w y.2 ∧ BRow y.2 g ((D k).set k ((Rg.point k long).2 && (l.take y.1).any fun z => (Zo.has z (Rg.pt k long)).1))) (fun y => l.length - y.1) ?_ ?_
    · intro w7 h7
      refine ⟨(0, w7), Cov.mk (by repeat' (first | exact trivial | refine And.intro rfl ?_)) rfl rfl rfl rfl rfl, rfl, Nat.zero_le _, h7.below, ?_⟩
      simp only [List.take_zero, List.any_nil, Bool.and_false]
      rw [hset0]
      exact hR6.at h7 (by intro q; have := List.mem_singleton.1 q; exact hgb2 this.symm)
    rintro ⟨i, U⟩ ⟨hi, hU, hRi⟩
    simp only at hi hU hRi
    have exit : ((Rg.point k long).2 && (l.take i).any fun z => (Zo.has z (Rg.pt k long)).1) = Rg.hit l long k → ∀ {K : Prop}, (BRow U g (D (k + 1)) → K) → K := fun h K hK => hK (by rw [hes, ← h]; exact hRi)
    generalize hacc : ((Rg.point k long).2 && (l.take i).any fun z => (Zo.has z (Rg.pt k long)).1) = acc at *
    refine Branch.mk (fun c1 => ?_) (fun c1 => ?_)
    · have hiN : i < l.length := by have := of_decide_eq_true c1; simp only at this; omega
      refine Branch.mk (fun c2 => ?_) (fun c2 => ?_)
      · have hg1 := hsg acc
        have hSr := hRi.sl (c := cb') (by rw [hsl]; exact hcb1) hcb2
        rw [hsl] at hSr
        refine hSr.idx hg1 fun ad had => ?_
        refine hSr.ldv hg1 rfl had (Below.refl _ _) (by simp) ?_
        refine Branch.mk (fun c3 => ?_) (fun c3 => ?_)
        · have hz1 := List.getElem?_eq_getElem (l := l) (i := i) hiN
          have hts : l.take (i + 1) = l.take i ++ [l[i]'hiN] := by rw [List.take_add_one, hz1]; rfl
          have hzm := hz _ (List.getElem_mem hiN)
          generalize l[i]'hiN = z at hz1 hts hzm
          refine DrawI.wr (.tk 0 (.tk 1 (.tk 2 (.tk 3 (.tk 4 (.tk 5 (.tk 6 (.ev 7 (.tk 8 (.ev 9 .done)))))))))) [] [g] (by kernel_rfl) rfl (fun b hb h => hgr b hb (by simpa using h)) fun w7 h7 => ?_
          have hacc0 : acc = false := by simpa using c3
          have hU7 : Below w.heap.size w w7 := h7.below
          have hR7 := hRi.at h7 (by simp)
          refine hS.idx hz1 fun ad had => ?_
          refine hS.ld hz1 had hU7 (by simpa using hgw) ?_
          apply CallI.use1
          focus (exact fun w8 h8 => rinside_any z hzm (Rg.pt k long) hpi hpt hpu w8)
          intro w8 v8 h8 hB8
          rw [← Rg.has_inside hzm hpt hpu]
          have hR8 := (hR7.at h8 (by simp)).below hB8
          refine IdxI.mk ⟨_, ⟨rfl, by omega, by omega⟩, ?_⟩
          refine StoreI.mk fun w10 h10 => ?_
          have r10 := hR8.at h10 (by simp)
          rw [show ((⟨g, 0, none⟩ : Addr).add ((k : Int).toNat * 1)) = ⟨g, k, none⟩ by simp [addr_addL]]
          refine ⟨⟨⟨_, r10.cell hg1⟩, r10.frozen _⟩, Zo.kpD_set hgw hgr (by simp [locs]), ?_⟩
          have hnew : ((Rg.point k long).2 && (l.take (i + 1)).any fun z => (Zo.has z (Rg.pt k long)).1) = (Zo.has z (Rg.pt k long)).1 := by
            rw [hts, List.any_append]
            rw [hacc0, c2, Bool.true_and] at hacc
            rw [hacc, c2]; simp
          have r11 := r10.set (k := k) (by rw [hsl]; exact hlt) (Zo.has z (Rg.pt k long)).1
          rw [hss] at r11
          have B11 : Below w.heap.size w (w10.setCell ⟨g, k, none⟩ (.bool (Zo.has z (Rg.pt k long)).1)) := h10.below.setCell (p := ⟨g, k, none⟩) hgw _
          generalize w10.setCell ⟨g, k, none⟩ (.bool (Zo.has z (Rg.pt k long)).1) = w11 at r11 B11
          rw [← hnew] at r11
          exact Need.mk (by simp only [inK]; omega) (EndI.mk fun w12 h12 => ⟨(i + 1, w12), Cov.mk (by repeat' (first | exact trivial | refine And.intro rfl ?_)) rfl rfl rfl rfl rfl, rfl, ⟨hiN, h12.below, r11.at h12 (by simp)⟩, by simp only; omega⟩)
        · have hacc1 : acc = true := by simpa using c3
          refine exit (by
            rw [hacc1]
            rw [hacc1] at hacc
            simp only [Bool.and_eq_true] at hacc
            obtain ⟨z, h1, h2⟩ := List.any_eq_true.1 hacc.2
            unfold Rg.hit
            rw [c2, Bool.true_and]
            exact (List.any_eq_true.2 ⟨z, List.mem_of_mem_take h1, h2⟩).symm) fun hR9 => ?_
          exact Need.mk (by simp only [inK]; omega) (EndI.mk fun w9 h9 => ⟨(k + 1, w9), Cov.mk (by repeat' (first | exact trivial | refine And.intro rfl ?_)) rfl rfl rfl rfl rfl, rfl, ⟨hlt, h9.below, hR9.at h9 (by simp)⟩, by simp only; omega⟩)
      · refine exit (by rw [← hacc, Rg.hit, c2]; rfl) fun hR9 => ?_
        exact Need.mk (by simp only [inK]; omega) (EndI.mk fun w9 h9 => ⟨(k + 1, w9), Cov.mk (by repeat' (first | exact trivial | refine And.intro rfl ?_)) rfl rfl rfl rfl rfl, rfl, ⟨hlt, h9.below, hR9.at h9 (by simp)⟩, by simp only; omega⟩)
    · have hge : i = l.length := by have := of_decide_eq_false c1; simp only at this; omega
      refine exit (by rw [← hacc, Rg.hit, hge, List.take_length]) fun hR9 => ?_
      exact Need.mk (by simp only [inK]; omega) (EndI.mk fun w9 h9 => ⟨(k + 1, w9), Cov.mk (by repeat' (first | exact trivial | refine And.intro rfl ?_)) rfl rfl rfl rfl rfl, rfl, ⟨hlt, h9.below, hR9.at h9 (by simp)⟩, by simp only; omega⟩)
  · have hge : k = M := by have := of_decide_eq_false hb; simp only at this; omega
    subst hge
    have hSl := hRk.sl (c := cb') (by rw [hdl]; exact hcb1) hcb2
    have cP := rpick14_any (D k) (by rw [hdl]; omega) (some ⟨g, 0, none⟩) cb'
    rw [hdl] at cP hSl
    apply CallI.use
    focus (exact fun w6 h6 => cP w6 (hSl.go (at_belowM h6 (by simp)) h6.size))
    rintro v w6 v6 h6 hB6 hO6
    obtain ⟨a6, c6, rfl⟩ := hO6.form
    exact EndI.mk fun w9 h9 => (hO6.lower h6.below.size).below (at_belowM h9 (by simp))
end Go.Proofs.YtjbhpfmnfdebkaaGreat

/-
  The document's answer of layer 14: AskList, AskComp, by the engine.
-/
namespace Go.Proofs.YtjbhpfmnfdebkaaGreat
set_option linter.unusedVariables false
set_option linter.unusedSimpArgs false
set_option maxRecDepth 100000
open Go.RowKit Go.Proofs.YtjbhpfmnfdebkaaGreat.Eng Enc

theorem rasklist_any (l : List Zn) (hi : ∀ z, z ∈ l → Zo.i64 z) (hlen : l.length ≤ 4096) (long : Int) (pa : Option Addr) (ca : Nat) (w : World) (hS : Sl w.heap.size w (.slice pa l.length ca) l) :
    Calls Tryz.prog 41 #[.slice pa l.length ca, .int .i64 long] w (Ret w fun v w' => ∃ a' c', v = .tuple #[.slice a' (Rg.list l long).1.length c', .int .i64 (Rg.list l long).2] ∧ Own TKi w.heap.size w' (.slice a' (Rg.list l long).1.length c') (Rg.list l long).1) := by
  refine fun_ret 0 w Tryz.func41 (args := [.val (.slice pa l.length ca), .val (.int .i64 long)]) rfl rfl ?_
  have st := Stay.first (w := w)
  apply CallI.use1
  focus (exact fun w2 h2 => rfits14_any long w2)
  intro w2 v2 h2 hB2
  have st := st.next h2 (fun x hx => by simp at hx <;> omega) hB2
  unfold Rg.list
  refine Branch.mk (fun hc => ?_) (fun hc => ?_)
  · have hf : Rg.fits long = false := by simpa using hc
    have : Rg.many long = (0, 2) := by unfold Rg.many; rw [hf]; rfl
    rw [this, if_pos (by decide)]
    exact EndI.mk fun w9 h9 => ⟨_, _, rfl, Own.nil⟩
  have hf : Rg.fits long = true := by simpa using hc
  have hl := Rg.fits_iff.1 hf
  rw [Rg.many_doc hl, if_neg (by simp)]
  refine LoopI.invC (α := Nat × World) (fun y => [(6, .val (.int .i64 y.1))]) (fun y => y.2) (fun y => y.1 ≤ l.length ∧ Below w.heap.size w y.2 ∧ ∀ z, z ∈ l.take y.1 → Zo.chk z = 0) (fun y => l.length - y.1) ?_ ?_
  · intro w5 h5
    exact ⟨(0, w5), Cov.mk (by repeat' (first | exact trivial | refine And.intro rfl ?_)) rfl rfl rfl rfl rfl, rfl, Nat.zero_le _, h5.below, by simp⟩
  rintro ⟨i, V⟩ ⟨hiN, hV, hzs⟩
  simp only at hiN hV hzs
  refine Branch.mk (fun z1 => ?_) (fun z1 => ?_)
  · have hlt : i < l.length := by have := of_decide_eq_true z1; simp only at this; omega
    have hz := List.getElem?_eq_getElem (l := l) (i := i) hlt
    have hts : l.take (i + 1) = l.take i ++ [l[i]'hlt] := by rw [List.take_add_one, hz]; rfl
    have hzm := List.getElem_mem hlt
    generalize l[i]'hlt = z at hz hts hzm
    have hSV := hS.go hV hV.size
    refine hSV.idx hz fun ad had => ?_
    refine hSV.ld hz had (Below.refl _ _) (by simp) ?_
    apply CallI.use1
    focus (exact fun w5 h5 => rzmay_any z (hi z hzm) w5)
    intro w5 v5 h5 hB5
    refine Branch.mk (fun z2 => ?_) (fun z2 => ?_)
    · have hne : Zo.chk z ≠ 0 := by simpa using z2
      rw [if_pos (List.any_eq_true.2 ⟨z, hzm, by simpa using hne⟩)]
      exact EndI.mk fun w9 h9 => ⟨_, _, rfl, Own.nil⟩
    · have hz0 : Zo.chk z = 0 := by simpa using z2
      refine Need.mk (by simp only [inK]; omega) (EndI.mk fun w9 h9 => ⟨(i + 1, w9), Cov.mk (by repeat' (first | exact trivial | refine And.intro rfl ?_)) rfl rfl rfl rfl rfl, rfl, ⟨hlt, h9.below, fun y hy => ?_⟩, by simp only; omega⟩)
      rw [hts] at hy
      rcases List.mem_append.1 hy with h | h
      · exact hzs y h
      · rw [List.mem_singleton.1 h]; exact hz0
  · have hge : i = l.length := by have := of_decide_eq_false z1; simp only at this; omega
    subst hge
    rw [List.take_length] at hzs
    rw [if_neg (by
      intro h
      obtain ⟨z, hz, h⟩ := List.any_eq_true.1 h
      simp [hzs z hz] at h)]
    apply CallI.use
    focus (exact fun w5 h5 => rlist14_any l hzs hlen long hl pa ca w5 (hS.go h5.below h5.below.size))
    rintro v w5 v5 h5 hB5 hO5
    obtain ⟨a5, c5, rfl⟩ := hO5.form
    exact EndI.mk fun w9 h9 => ⟨_, _, rfl, (hO5.lower h5.below.size).below (at_belowM h9 (by simp))⟩
namespace Rg
/-- is there a time among the sixths with a pair of one set up to it, and one of another from it on? -/
def btw (a b : List Int) (long : Int) (x : Int) : Bool := isR long x && (List.range (6 * long + 1).toNat).any fun n => decide (number ⟨(pt x long).t, six n⟩ long ∈ a) && decide (number ⟨six n, (pt x long).u⟩ long ∈ b)
def comp (a b : List Int) (long : Int) : List Int × Int :=
  if fits long = false then ([], 2) else if mayL a long = true ∧ mayL b long = true then (up long (btw a b long), 0) else ([], 8)
theorem ask_in0 {x long : Int} (h : (askPoint x long).2 = 0) : 0 ≤ x ∧ x < (many long).1 := by
  unfold askPoint at h
  split at h
  · cases h
  · rename_i hn
    simp only [not_or, Int.not_lt, Int.not_le] at hn
    omega
theorem may_in {l : List Int} {long : Int} (h : mayL l long = true) {x : Int} (hx : x ∈ l) : 0 ≤ x ∧ x < (many long).1 := ask_in0 (mayTo_in h (by rw [List.take_length]; exact hx))
theorem mks_at {l : List Int} {M : Nat} {x : Int} (h0 : 0 ≤ x) (h1 : x < (M : Int)) : (mks l M l.length)[x.toNat]?.getD false = decide (x ∈ l) := by
  rw [mks_get (by omega), List.take_length, Option.getD_some, Int.toNat_of_nonneg h0]
theorem btw_doc {a b : List Int} {long : Int} (hl : 1 ≤ long ∧ long ≤ 16) (ha : mayL a long = true) (hb : mayL b long = true) :
    (up long fun x => (point x long).2 && btwB (mks a (many long).1.toNat a.length) (mks b (many long).1.toNat b.length) (pt x long) long (6 * long + 1).toNat) = up long (btw a b long) := up_congr fun x h0 h1 => by
  unfold btw isR btwB
  rw [decide_eq_true h0, decide_eq_true h1, Bool.true_and, Bool.true_and]
  congr 2
  funext n
  unfold btw1
  have key : ∀ (c : List Int) (p : Pt), mayL c long = true → (decide (0 ≤ number p long) && (mks c (many long).1.toNat c.length)[(number p long).toNat]?.getD false) = decide (number p long ∈ c) := fun c p hc => by
    by_cases h : 0 ≤ number p long
    · have := (rep_of hl h).2.2.2.1
      rw [decide_eq_true h, Bool.true_and, mks_at h (by omega)]
    · rw [decide_eq_false h, Bool.false_and, decide_eq_false]
      intro hm
      exact h (may_in hc hm).1
  rw [← key a _ ha, ← key b _ hb]
  cases decide (0 ≤ number ⟨(pt x long).t, six n⟩ long) <;> cases decide (0 ≤ number ⟨six n, (pt x long).u⟩ long) <;> simp
end Rg
theorem raskcomp_any (a b : List Int) (ha : a.length ≤ 1000000) (hb : b.length ≤ 1000000) (long : Int) (pa pb : Option Addr) (ca cb : Nat) (w : World) (hSA : Sl w.heap.size w (.slice pa a.length ca) a) (hSB : Sl w.heap.size w (.slice pb b.length cb) b) :
    Calls Tryz.prog 42 #[.slice pa a.length ca, .slice pb b.length cb, .int .i64 long] w (Ret w fun v w' => ∃ a' c', v = .tuple #[.slice a' (Rg.comp a b long).1.length c', .int .i64 (Rg.comp a b long).2] ∧ Own TKi w.heap.size w' (.slice a' (Rg.comp a b long).1.length c') (Rg.comp a b long).1) := by
  refine fun_ret 0 w Tryz.func42 (args := [.val (.slice pa a.length ca), .val (.slice pb b.length cb), .val (.int .i64 long)]) rfl rfl ?_
  have st := Stay.first (w := w)
  apply CallI.use1
  focus (exact fun w2 h2 => rfits14_any long w2)
  intro w2 v2 h2 hB2
  have st := st.next h2 (fun x hx => by simp at hx <;> omega) hB2
  unfold Rg.comp
  refine Branch.mk (fun hc => ?_) (fun hc => ?_)
  · have hf : Rg.fits long = false := by simpa using hc
    rw [if_pos hf]
    exact EndI.mk fun w9 h9 => ⟨_, _, rfl, Own.nil⟩
  have hf : Rg.fits long = true := by simpa using hc
  have hl := Rg.fits_iff.1 hf
  rw [if_neg (by rw [hf]; decide)]
  apply CallI.use1
  focus (exact fun w3 h3 => rmay14_any a long pa ca w3 (hSA.st (st.at h3 (fun x hx => by simp at hx <;> omega))))
  intro w3 v3 h3 hB3
  have st := st.next h3 (fun x hx => by simp at hx <;> omega) hB3
  refine Branch.mk (fun z1 => ?_) (fun z1 => ?_)
  · have z1' : Rg.mayL a long = false := by simpa using z1
    rw [if_neg (fun h => absurd h.1 (by rw [z1']; decide))]
    exact EndI.mk fun w9 h9 => ⟨_, _, rfl, Own.nil⟩
  have z1' : Rg.mayL a long = true := by simpa using z1
  apply CallI.use1
  focus (exact fun w4 h4 => rmay14_any b long pb cb w4 (hSB.st (st.at h4 (fun x hx => by simp at hx <;> omega))))
  intro w4 v4 h4 hB4
  have st := st.next h4 (fun x hx => by simp at hx <;> omega) hB4
  refine Branch.mk (fun z2 => ?_) (fun z2 => ?_)
  · have z2' : Rg.mayL b long = false := by simpa using z2
    rw [if_neg (fun h => absurd h.2 (by rw [z2']; decide))]
    exact EndI.mk fun w9 h9 => ⟨_, _, rfl, Own.nil⟩
  have z2' : Rg.mayL b long = true := by simpa using z2
  rw [if_pos ⟨z1', z2'⟩]
  rw [← Rg.btw_doc hl z1' z2']
  apply CallI.use
  focus (exact fun w5 h5 => rcomp14_any a b ha hb long hl pa pb ca cb w5 (hSA.go h5.below h5.below.size) (hSB.go h5.below h5.below.size))
  rintro v w5 v5 h5 hB5 hO5
  obtain ⟨a5, c5, rfl⟩ := hO5.form
  exact EndI.mk fun w9 h9 => ⟨_, _, rfl, (hO5.lower h5.below.size).below (at_belowM h9 (by simp))⟩
end Go.Proofs.YtjbhpfmnfdebkaaGreat

/-
  region.marked, by the engine.
-/
namespace Go.Proofs.YtjbhpfmnfdebkaaGreat
set_option linter.unusedVariables false
set_option linter.unusedSimpArgs false
set_option maxRecDepth 100000
open Go.RowKit Go.Proofs.YtjbhpfmnfdebkaaGreat.Eng Enc

theorem marked_any (l : List Int) (hlen : l.length ≤ 1000000) (hi : ∀ x, x ∈ l → inK .i64 x) (long : Int) (a : Option Addr) (ca : Nat) (w : World) (hS : Sl w.heap.size w (.slice a l.length ca) l) :
    Calls Tryz.prog 83 #[.slice a l.length ca, .int .i64 long] w (Ret w fun v w' => if Rg.mayL l long = true then ∃ b, v = .tuple #[.map (some b), .bool true] ∧ w.heap.size ≤ b ∧ MSet w' b l.length (fun x => decide (x ∈ l)) else v = .tuple #[.map none, .bool false]) := by
  refine fun_ret 0 w Tryz.func83 (args := [.val (.slice a l.length ca), .val (.int .i64 long)]) rfl rfl ?_
  obtain ⟨_, _, hfe, hcap1, hcap2, _⟩ := hS.form
  injection hfe with _ _ hfe
  subst hfe
  unfold maxLen at hcap2
  refine ⟨fun w3 h3 => ⟨_, _, run_makeMap _ w3, KpOk.ok h3 ((Below.refl _ _).alloc (Nat.le_refl _) _), ?_⟩⟩
  have hms := MSet.made w3
  have hb3 : Below w.heap.size w (w3.alloc (.map #[] 0)) := h3.below.alloc h3.below.size _
  have hwb : w.heap.size ≤ w3.heap.size := h3.below.size
  generalize w3.alloc (.map #[] 0) = w4 at hms hb3 ⊢
  generalize w3.heap.size = B at hms hwb ⊢
  refine LoopI.invC (α := Nat × World) (fun y => [(14, .val (.int .i64 y.1))]) (fun y => y.2) (fun y => y.1 ≤ l.length ∧ Below w.heap.size w y.2 ∧ Rg.mayTo l long y.1 = true ∧ MSet y.2 B y.1 (fun x => decide (x ∈ l.take y.1))) (fun y => l.length - y.1) ?_ ?_
  · intro w5 h5
    exact ⟨(0, w5), Cov.mk (by repeat' (first | exact trivial | refine And.intro rfl ?_)) rfl rfl rfl rfl rfl, rfl, Nat.zero_le _, h5.below, rfl, by simpa using hms.below (at_belowM h5 (by simp))⟩
  rintro ⟨k, V⟩ ⟨hk, hV, hall, hM⟩
  simp only at hk hV hall hM
  refine Branch.mk (fun hc2 => ?_) (fun hc2 => ?_)
  · have hlt : k < l.length := by have := of_decide_eq_true hc2; simp only at this; omega
    have hx := List.getElem?_eq_getElem (l := l) (i := k) hlt
    have hxm := List.getElem_mem hlt
    generalize l[k] = x at hx hxm
    have hts : l.take (k + 1) = l.take k ++ [x] := by rw [List.take_add_one, hx]; rfl
    have hes := Rg.mayTo_step l long k
    rw [hall, Bool.true_and] at hes
    have hno : Rg.mayAt l long k = false → Rg.mayL l long = false := fun h => Rg.mayTo_no h hlt
    unfold Rg.mayAt at hes hno
    rw [hx] at hes hno
    simp only [Option.getD_some] at hes hno
    have hSV := hS.go hV hV.size
    have hBV := hM.lt
    refine hSV.idx hx fun ad had => ?_
    refine hSV.ld1 hx had (Below.refl _ _) (by simp) ?_
    apply CallI.use1
    focus (exact fun w5 h5 => rpoint_any x long w5)
    intro w5 v5 h5 hB5
    refine NewI.mk fun b2 hb2 => ?_
    have hb2' : v5.heap.size ≤ b2 := hb2
    have hM5 := (hM.at h5 (by simp)).below hB5
    have hV5 : Below w.heap.size w v5 := h5.below.trans (hB5.mono h5.below.size)
    have hS5 := hS.go hV5 hV5.size
    have hnB : B ≠ b2 := by have := hM5.lt; omega
    refine Branch.mk (fun c1 => ?_) (fun c1 => ?_)
    · have c1' : (Rg.askPoint x long).2 ≠ 0 := of_decide_eq_true c1
      exact EndI.mk fun w9 h9 => by
        rw [if_neg (by rw [hno (by rw [decide_eq_false c1']; rfl)]; decide)]
    · have c1' : (Rg.askPoint x long).2 = 0 := by simpa using c1
      rw [decide_eq_true c1', Bool.true_and] at hes hno
      have put : ∀ {K : Prop}, K → K := fun h => h
      refine Branch.mk (fun c2 => ?_) (fun c2 => ?_)
      · obtain ⟨m, rfl⟩ : ∃ m, k = m + 1 := ⟨k - 1, by have := of_decide_eq_true c2; simp only at this; omega⟩
        have hy := List.getElem?_eq_getElem (l := l) (i := m) (by omega)
        generalize l[m]'(by omega) = y at hy
        rw [Nat.add_sub_cancel, hy] at hes hno
        refine Need.mk (by simp only [inK]; omega) ?_
        rw [show (((m + 1 : Nat) : Int) - 1) = (m : Int) by omega]
        refine hS5.idx hy fun ad2 had2 => ?_
        refine hS5.ld1 hy had2 (Below.refl _ _) (by simpa using hb2') ?_
        rw [decide_eq_false (by omega : ¬ m + 1 = 0), Bool.false_or] at hes hno
        refine Branch.mk (fun c3 => ?_) (fun c3 => ?_)
        · have c3' : x ≤ y := of_decide_eq_true c3
          exact EndI.mk fun w9 h9 => by
            rw [if_neg (by rw [hno (decide_eq_false (by omega : ¬ y < x))]; decide)]
        · have c3' : ¬ x ≤ y := of_decide_eq_false c3
          have hes' := hes.trans (decide_eq_true (by omega : y < x))
          refine ⟨fun w9 h9 => ?_⟩
          have hM9 := hM5.at h9 (by simp <;> omega)
          have hs9 := h9.size
          obtain ⟨w10, hrun, hput, hgr⟩ := hM9.put x (hi x hxm) (by omega)
          refine ⟨w10, hrun, keep_grown h9 hgr (fun q hq => by injection hq with hq; subst hq; exact ⟨hwb, by simp; exact hnB⟩), ?_⟩
          refine Need.mk (by simp only [inK]; omega) (EndI.mk fun w11 h11 => ⟨(m + 1 + 1, w11), Cov.mk (by repeat' (first | exact trivial | refine And.intro rfl ?_)) rfl rfl rfl rfl rfl, rfl, ⟨hlt, h11.below, hes', ?_⟩, by simp only; omega⟩)
          have := hput.at h11 (by simp <;> omega)
          simp only [hts, List.mem_append, List.mem_singleton, Bool.decide_or]
          exact this
      · have c2' : k = 0 := by have := of_decide_eq_false c2; simp only at this; omega
        have hes' : Rg.mayTo l long (k + 1) = true := by rw [hes, decide_eq_true c2']; rfl
        refine ⟨fun w9 h9 => ?_⟩
        have hM9 := hM5.at h9 (by simp <;> omega)
        have hs9 := h9.size
        obtain ⟨w10, hrun, hput, hgr⟩ := hM9.put x (hi x hxm) (by omega)
        refine ⟨w10, hrun, keep_grown h9 hgr (fun q hq => by injection hq with hq; subst hq; exact ⟨hwb, by simp; exact hnB⟩), ?_⟩
        refine Need.mk (by simp only [inK]; omega) (EndI.mk fun w11 h11 => ⟨(k + 1, w11), Cov.mk (by repeat' (first | exact trivial | refine And.intro rfl ?_)) rfl rfl rfl rfl rfl, rfl, ⟨hlt, h11.below, hes', ?_⟩, by simp only; omega⟩)
        have := hput.at h11 (by simp <;> omega)
        simp only [hts, List.mem_append, List.mem_singleton, Bool.decide_or]
        exact this
  · have hge : k = l.length := by have := of_decide_eq_false hc2; simp only at this; omega
    subst hge
    rw [List.take_length] at hM
    exact EndI.mk fun w9 h9 => by
      rw [if_pos (show Rg.mayL l long = true from hall)]
      exact ⟨B, rfl, hwb, hM.at h9 (by simp)⟩
end Go.Proofs.YtjbhpfmnfdebkaaGreat

/-
  slices.Clone at a list of int: a row of the call's own that shows the same list.
-/
namespace Go.Proofs.YtjbhpfmnfdebkaaGreat
set_option linter.unusedVariables false
set_option linter.unusedSimpArgs false
set_option maxRecDepth 100000
open Go.RowKit Go.Proofs.YtjbhpfmnfdebkaaGreat.Eng Enc

theorem elI : ElOk Tryz.prog 41 3 1 8 := elOk (z := .int .i64 0) Tryz.underlying41 (by kernel_rfl) rfl (by decide)
theorem cloneI_any (l : List Int) (a : Option Addr) (cap : Nat) (w : World) (hS : Sl w.heap.size w (.slice a l.length cap) l) (hlen : l.length ≤ 1000000) :
    Calls Tryz.prog 158 #[.slice a l.length cap] w (Ret w fun v w' => Own 3 w.heap.size w' v l) := by
  refine fun_ret 0 w Tryz.func158 (args := [.val (.slice a l.length cap)]) rfl rfl ?_
  refine GenV.to (fun w1 => Lib.run_eql_slice_nil w1 41 3 a l.length cap 0 0 Tryz.underlying41) fun w1 h1 => ?_
  refine Branch.mk (fun hb => ?_) (fun hb => ?_)
  · refine EndI.mk fun w2 h2 => ?_
    have ha : a = none := by cases a <;> simp_all
    obtain ⟨a', cap', e', hcap, hmax, hn⟩ := hS.form
    injection e' with e1 e2 e3
    subst e1; subst e3
    have h0 := hn ha
    obtain rfl : l = [] := List.eq_nil_of_length_eq_zero (by omega)
    exact Own.nil
  · refine NewI.mk fun b hb1 => ?_
    have hsrc : ∀ w2, At ⟨w, w.heap.size, Nat.le_refl _⟩ [⟨[], 3⟩] [b] [] w1 w2 → SrcC w2 (.slice a l.length cap) 1 l.length (cellsL l) := fun w2 h2 => (hS.below h2.below).src
    refine GenN.appF (α := Int) elI [] l w.heap.size rfl (fun w2 h2 => ?_) hsrc ?_ ?_ (fun w2 h2 => h2.below.size) fun v' w2 w3 h2 hB ho => ?_
    · exact ⟨rfl, .inr ⟨b, 0, #[], rfl, h2.fresh b (by simp), h2.blk 0 b _ rfl rfl, Nat.le_refl _, by simp [maxLen], rfl, rfl⟩⟩
    · simp [maxLen]; omega
    · simp; omega
    · exact EndI.mk fun w4 h4 => ho.below h4.go
end Go.Proofs.YtjbhpfmnfdebkaaGreat

/-
  region.among's closure, by the engine.
-/
namespace Go.Proofs.YtjbhpfmnfdebkaaGreat
set_option linter.unusedVariables false
set_option linter.unusedSimpArgs false
set_option maxRecDepth 100000
open Go.RowKit Go.Proofs.YtjbhpfmnfdebkaaGreat.Eng Enc

theorem among1N_any (q1 q2 : Option Addr) (p1 p2 : Nat) (soP : Pt → Bool) (long : Int) (hl : 1 ≤ long ∧ long ≤ 16) (x : Int) (hx : 0 ≤ x ∧ x < (Rg.many long).1) (W : World)
    (hc1 : W.cell? ⟨p1, 0, none⟩ = some (.int .i64 long)) (hc2 : W.cell? ⟨p2, 0, none⟩ = some (.func (.func 92) #[] #[.pointer q1, .pointer q2]))
    (hF : ∀ X, Below W.heap.size W X → Calls Tryz.prog 92 #[.agg #[.int .i64 (Rg.pt x long).t.num, .int .i64 (Rg.pt x long).t.den, .int .i64 (Rg.pt x long).u.num, .int .i64 (Rg.pt x long).u.den], .pointer q1, .pointer q2] X fun e w' => e = .returned (.bool (soP (Rg.pt x long))) ∧ Below X.heap.size X w') :
    Calls Tryz.prog 159 #[.int .i64 x, .pointer (some ⟨p1, 0, none⟩), .pointer (some ⟨p2, 0, none⟩)] W fun e w' => e = .returned (.bool (!soP (Rg.pt x long))) ∧ Below W.heap.size W w' := by
  have l1 := World.block_lt_of_cell? _ _ hc1
  have l2 := World.block_lt_of_cell? _ _ hc2
  simp only at l1 l2
  refine fun_eq 0 W Tryz.func159 (args := [.val (.int .i64 x), .val (.pointer (some ⟨p1, 0, none⟩)), .val (.pointer (some ⟨p2, 0, none⟩))]) rfl rfl ?_
  refine LoadI.mk ⟨_, ⟨hc1, by simp⟩, ?_⟩
  apply CallI.use1
  focus (exact fun w5 h5 => point_any x long hl hx w5)
  intro w5 v5 h5 hB5
  refine NewI.mk fun b2 hb2 => ?_
  have hb2' : v5.heap.size ≤ b2 := hb2
  have hW5 : Below W.heap.size W v5 := h5.below.trans (hB5.mono h5.below.size)
  have hc2' : v5.cell? ⟨p2, 0, none⟩ = some (.func (.func 92) #[] #[.pointer q1, .pointer q2]) := (hW5.cell (p := ⟨p2, 0, none⟩) l2).trans hc2
  refine LoadI.mk ⟨_, ⟨hc2', by have := hW5.size; simp; omega⟩, ?_⟩
  refine Need.mk (enters_of Tryz.func92 (by kernel_rfl) rfl) ?_
  apply CallI.use1
  focus (exact fun w7 h7 => hF w7 h7.below)
  intro w7 v7 h7 hB7
  exact EndI.mk fun w9 h9 => rfl
theorem among1W_any (q1 q2 : Option Addr) (p1 p2 : Nat) (soP : Pt → Bool) (long : Int) (hl : 1 ≤ long ∧ long ≤ 16) (x : Int) (hx : 0 ≤ x ∧ x < (Rg.many long).1) (W : World)
    (hc1 : W.cell? ⟨p1, 0, none⟩ = some (.int .i64 long)) (hc2 : W.cell? ⟨p2, 0, none⟩ = some (.func (.func 89) #[] #[.pointer q1, .pointer q2]))
    (hF : ∀ X, Below W.heap.size W X → Calls Tryz.prog 89 #[.agg #[.int .i64 (Rg.pt x long).t.num, .int .i64 (Rg.pt x long).t.den, .int .i64 (Rg.pt x long).u.num, .int .i64 (Rg.pt x long).u.den], .pointer q1, .pointer q2] X fun e w' => e = .returned (.bool (soP (Rg.pt x long))) ∧ Below X.heap.size X w') :
    Calls Tryz.prog 159 #[.int .i64 x, .pointer (some ⟨p1, 0, none⟩), .pointer (some ⟨p2, 0, none⟩)] W fun e w' => e = .returned (.bool (!soP (Rg.pt x long))) ∧ Below W.heap.size W w' := by
  have l1 := World.block_lt_of_cell? _ _ hc1
  have l2 := World.block_lt_of_cell? _ _ hc2
  simp only at l1 l2
  refine fun_eq 0 W Tryz.func159 (args := [.val (.int .i64 x), .val (.pointer (some ⟨p1, 0, none⟩)), .val (.pointer (some ⟨p2, 0, none⟩))]) rfl rfl ?_
  refine LoadI.mk ⟨_, ⟨hc1, by simp⟩, ?_⟩
  apply CallI.use1
  focus (exact fun w5 h5 => point_any x long hl hx w5)
  intro w5 v5 h5 hB5
  refine NewI.mk fun b2 hb2 => ?_
  have hb2' : v5.heap.size ≤ b2 := hb2
  have hW5 : Below W.heap.size W v5 := h5.below.trans (hB5.mono h5.below.size)
  have hc2' : v5.cell? ⟨p2, 0, none⟩ = some (.func (.func 89) #[] #[.pointer q1, .pointer q2]) := (hW5.cell (p := ⟨p2, 0, none⟩) l2).trans hc2
  refine LoadI.mk ⟨_, ⟨hc2', by have := hW5.size; simp; omega⟩, ?_⟩
  refine Need.mk (enters_of Tryz.func89 (by kernel_rfl) rfl) ?_
  apply CallI.use1
  focus (exact fun w7 h7 => hF w7 h7.below)
  intro w7 v7 h7 hB7
  exact EndI.mk fun w9 h9 => rfl
theorem deleteNil_any (p1 p2 : Option Addr) (w : World) : Calls Tryz.prog 157 #[.slice none 0 0, .func (.func 159) #[] #[.pointer p1, .pointer p2]] w fun e w' => e = .returned (.slice none 0 0) ∧ Below w.heap.size w w' := by
  refine fun_eq 0 w Tryz.func157 (args := [.val (.slice none 0 0), .fn 159 [.val (.pointer p1), .val (.pointer p2)]]) rfl rfl ?_
  apply CallI.use
  focus (exact fun w1 h1 => indexFunc_any [] (fun _ => false) p1 p2 none 0 w1 Sl.nil (fun x hx => by cases hx))
  rintro v w1 v1 h1 hB1 hidx
  rcases hidx with ⟨rfl, _⟩ | ⟨i, x0, rfl, hi0, _⟩
  · refine Branch.yes rfl ?_
    exact EndI.mk fun w9 h9 => rfl
  · cases hi0
namespace Rg
/-- those of some regions whose point is so. -/
def amg (l : List Int) (long : Int) (so : Pt → Bool) : List Int × Int :=
  if fits long = false then ([], 2) else if mayL l long = true then (l.filter fun x => so (pt x long), 0) else ([], 8)
end Rg
/-- region.among at the closure. -/
theorem amongN_any (l : List Int) (hlen : l.length ≤ 1000000) (hi : ∀ x, x ∈ l → inK .i64 x) (long : Int) (soP : Pt → Bool) (q1 q2 : Option Addr) (a : Option Addr) (ca : Nat) (w : World) (hS : Sl w.heap.size w (.slice a l.length ca) l)
    (hC : ∀ x, 0 ≤ x → x < (Rg.many long).1 → ∀ X, Below w.heap.size w X → Calls Tryz.prog 92 #[.agg #[.int .i64 (Rg.pt x long).t.num, .int .i64 (Rg.pt x long).t.den, .int .i64 (Rg.pt x long).u.num, .int .i64 (Rg.pt x long).u.den], .pointer q1, .pointer q2] X fun e w' => e = .returned (.bool (soP (Rg.pt x long))) ∧ Below X.heap.size X w') :
    Calls Tryz.prog 88 #[.slice a l.length ca, .int .i64 long, .func (.func 92) #[] #[.pointer q1, .pointer q2]] w (Ret w fun v w' => ∃ a' c', v = .tuple #[.slice a' (Rg.amg l long soP).1.length c', .int .i64 (Rg.amg l long soP).2] ∧ Own TKi w.heap.size w' (.slice a' (Rg.amg l long soP).1.length c') (Rg.amg l long soP).1) := by
  refine fun_ret 0 w Tryz.func88 (args := [.val (.slice a l.length ca), .val (.int .i64 long), .val (.func (.func 92) #[] #[.pointer q1, .pointer q2])]) rfl rfl ?_
  have st := Stay.first (w := w)
  refine NewI.mk fun b1 hb1 => ?_
  have hb1' : w.heap.size ≤ b1 := hb1
  refine NewI.mk fun b2 hb2 => ?_
  have hb2' : w.heap.size ≤ b2 := hb2
  apply CallI.use1
  focus (exact fun w2 h2 => fits_any long w2)
  intro w2 v2 h2 hB2
  have st := st.next h2 (fun x hx => by simp at hx <;> omega) hB2
  unfold Rg.amg
  refine Branch.mk (fun hc => ?_) (fun hc => ?_)
  · have hf : Rg.fits long = false := by simpa using hc
    rw [if_pos hf]
    exact EndI.mk fun w9 h9 => ⟨_, _, rfl, Own.nil⟩
  have hf : Rg.fits long = true := by simpa using hc
  have hl := Rg.fits_iff.1 hf
  rw [if_neg (by rw [hf]; decide)]
  apply CallI.use
  focus (exact fun w3 h3 => marked_any l hlen hi long a ca w3 (hS.go h3.below h3.below.size))
  rintro v w3 v3 h3 hB3 hmk
  by_cases hmay : Rg.mayL l long = true
  case neg =>
    rw [if_neg hmay] at hmk
    subst hmk
    rw [if_neg hmay]
    refine Branch.yes rfl ?_
    exact EndI.mk fun w9 h9 => ⟨_, _, rfl, Own.nil⟩
  rw [if_pos hmay] at hmk
  obtain ⟨bm, rfl, hbm, hM⟩ := hmk
  rw [if_pos hmay]
  refine Branch.no rfl ?_
  have hV3 : Below w.heap.size w v3 := h3.below.trans (hB3.mono h3.below.size)
  apply CallI.use
  focus (exact fun w4 h4 => cloneI_any l a ca w4 (hS.go h4.below h4.below.size) hlen)
  rintro v w4 v4 h4 hB4 hO4
  obtain ⟨_, ⟨rfl, hl0⟩ | ⟨g, cap, cur, rfl, hgw, hgc, hn, hm, hs, ht⟩⟩ := id hO4
  · have hnil : l = [] := by
      apply List.eq_nil_of_length_eq_zero
      simpa using hl0
    subst hnil
    apply CallI.use1
    focus (exact fun w5 h5 => deleteNil_any (some ⟨b1, 0, none⟩) (some ⟨b2, 0, none⟩) w5)
    intro w5 v5 h5 hB5
    exact EndI.mk fun w9 h9 => ⟨_, _, rfl, Own.nil⟩
  · have hgl : g < v4.heap.size := (Array.getElem?_eq_some_iff.1 hgc).1
    have hgb : g ≠ b1 ∧ g ≠ b2 := by
      have e1 := h4.lt b1 (by simp)
      have e2 := h4.lt b2 (by simp)
      omega
    have hgW : w.heap.size ≤ g := Nat.le_trans h4.below.size hgw
    have hO4' : Own TKi w4.heap.size v4 (.slice (some ⟨g, 0, none⟩) l.length cap) l := hO4
    apply CallI.mk
    intro w5 h5
    have c1 : w5.heap[b1]? = some (.cells #[.int .i64 long] 3 (0, 0)) := h5.blk 0 b1 _ rfl rfl
    have c2 : w5.heap[b2]? = some (.cells #[.func (.func 92) #[] #[.pointer q1, .pointer q2]] 140 (0, 0)) := h5.blk 1 b2 _ rfl rfl
    have hB5 := at_belowM h5 (by simp)
    refine (deleteFunc_any l (fun x => !soP (Rg.pt x long)) (some ⟨b1, 0, none⟩) (some ⟨b2, 0, none⟩) g cap w4.heap.size w.heap.size w5 h5.below.size hgW (hO4'.below hB5) hlen (fun x hx W hW => ?_)).mono ?_
    · have e1 := h5.lt b1 (by simp)
      have e2 := h5.lt b2 (by simp)
      have d1 : W.heap[b1]? = _ := (hW.block b1 e1 (fun h => hgb.1 (by injection h with h; exact h.symm))).trans c1
      have d2 : W.heap[b2]? = _ := (hW.block b2 e2 (fun h => hgb.2 (by injection h with h; exact h.symm))).trans c2
      have hin := Rg.may_in hmay hx
      have hwW : Below w.heap.size w W := grown_belowM h5.below hW (fun k hk => by injection hk with hk; omega) h5.below.size
      exact among1N_any q1 q2 b1 b2 soP long hl x hin W (by simp [World.cell?, d1]) (by simp [World.cell?, d2]) (fun X hX => hC x hin.1 hin.2 X (hwW.trans (hX.mono hwW.size)))
    · rintro e w6 ⟨v, rfl, hB6, rfl, hO6, hG6⟩
      refine ⟨⟨hB6, fun b hb => hG6.block b (h5.lt b hb) (fun e => ?_)⟩, _, rfl, ?_⟩
      · injection e with e
        subst e
        simp at hb
        omega
      · have hfl : dfF (fun x => !soP (Rg.pt x long)) l l.length = l.filter fun x => soP (Rg.pt x long) := by
          unfold dfF
          rw [List.take_length]
          congr 1
          funext y
          simp
        rw [hfl] at hO6 ⊢
        refine EndI.mk fun w9 h9 => ⟨_, _, rfl, ?_⟩
        exact (hO6.lower h4.below.size).below (at_belowM h9 (by simp))
/-- region.among at the closure. -/
theorem amongW_any (l : List Int) (hlen : l.length ≤ 1000000) (hi : ∀ x, x ∈ l → inK .i64 x) (long : Int) (soP : Pt → Bool) (q1 q2 : Option Addr) (a : Option Addr) (ca : Nat) (w : World) (hS : Sl w.heap.size w (.slice a l.length ca) l)
    (hC : ∀ x, 0 ≤ x → x < (Rg.many long).1 → ∀ X, Below w.heap.size w X → Calls Tryz.prog 89 #[.agg #[.int .i64 (Rg.pt x long).t.num, .int .i64 (Rg.pt x long).t.den, .int .i64 (Rg.pt x long).u.num, .int .i64 (Rg.pt x long).u.den], .pointer q1, .pointer q2] X fun e w' => e = .returned (.bool (soP (Rg.pt x long))) ∧ Below X.heap.size X w') :
    Calls Tryz.prog 88 #[.slice a l.length ca, .int .i64 long, .func (.func 89) #[] #[.pointer q1, .pointer q2]] w (Ret w fun v w' => ∃ a' c', v = .tuple #[.slice a' (Rg.amg l long soP).1.length c', .int .i64 (Rg.amg l long soP).2] ∧ Own TKi w.heap.size w' (.slice a' (Rg.amg l long soP).1.length c') (Rg.amg l long soP).1) := by
  refine fun_ret 0 w Tryz.func88 (args := [.val (.slice a l.length ca), .val (.int .i64 long), .val (.func (.func 89) #[] #[.pointer q1, .pointer q2])]) rfl rfl ?_
  have st := Stay.first (w := w)
  refine NewI.mk fun b1 hb1 => ?_
  have hb1' : w.heap.size ≤ b1 := hb1
  refine NewI.mk fun b2 hb2 => ?_
  have hb2' : w.heap.size ≤ b2 := hb2
  apply CallI.use1
  focus (exact fun w2 h2 => fits_any long w2)
  intro w2 v2 h2 hB2
  have st := st.next h2 (fun x hx => by simp at hx <;> omega) hB2
  unfold Rg.amg
  refine Branch.mk (fun hc => ?_) (fun hc => ?_)
  · have hf : Rg.fits long = false := by simpa using hc
    rw [if_pos hf]
    exact EndI.mk fun w9 h9 => ⟨_, _, rfl, Own.nil⟩
  have hf : Rg.fits long = true := by simpa using hc
  have hl := Rg.fits_iff.1 hf
  rw [if_neg (by rw [hf]; decide)]
  apply CallI.use
  focus (exact fun w3 h3 => marked_any l hlen hi long a ca w3 (hS.go h3.below h3.below.size))
  rintro v w3 v3 h3 hB3 hmk
  by_cases hmay : Rg.mayL l long = true
  case neg =>
    rw [if_neg hmay] at hmk
    subst hmk
    rw [if_neg hmay]
    refine Branch.yes rfl ?_
    exact EndI.mk fun w9 h9 => ⟨_, _, rfl, Own.nil⟩
  rw [if_pos hmay] at hmk
  obtain ⟨bm, rfl, hbm, hM⟩ := hmk
  rw [if_pos hmay]
  refine Branch.no rfl ?_
  have hV3 : Below w.heap.size w v3 := h3.below.trans (hB3.mono h3.below.size)
  apply CallI.use
  focus (exact fun w4 h4 => cloneI_any l a ca w4 (hS.go h4.below h4.below.size) hlen)
  rintro v w4 v4 h4 hB4 hO4
  obtain ⟨_, ⟨rfl, hl0⟩ | ⟨g, cap, cur, rfl, hgw, hgc, hn, hm, hs, ht⟩⟩ := id hO4
  · have hnil : l = [] := by
      apply List.eq_nil_of_length_eq_zero
      simpa using hl0
    subst hnil
    apply CallI.use1
    focus (exact fun w5 h5 => deleteNil_any (some ⟨b1, 0, none⟩) (some ⟨b2, 0, none⟩) w5)
    intro w5 v5 h5 hB5
    exact EndI.mk fun w9 h9 => ⟨_, _, rfl, Own.nil⟩
  · have hgl : g < v4.heap.size := (Array.getElem?_eq_some_iff.1 hgc).1
    have hgb : g ≠ b1 ∧ g ≠ b2 := by
      have e1 := h4.lt b1 (by simp)
      have e2 := h4.lt b2 (by simp)
      omega
    have hgW : w.heap.size ≤ g := Nat.le_trans h4.below.size hgw
    have hO4' : Own TKi w4.heap.size v4 (.slice (some ⟨g, 0, none⟩) l.length cap) l := hO4
    apply CallI.mk
    intro w5 h5
    have c1 : w5.heap[b1]? = some (.cells #[.int .i64 long] 3 (0, 0)) := h5.blk 0 b1 _ rfl rfl
    have c2 : w5.heap[b2]? = some (.cells #[.func (.func 89) #[] #[.pointer q1, .pointer q2]] 140 (0, 0)) := h5.blk 1 b2 _ rfl rfl
    have hB5 := at_belowM h5 (by simp)
    refine (deleteFunc_any l (fun x => !soP (Rg.pt x long)) (some ⟨b1, 0, none⟩) (some ⟨b2, 0, none⟩) g cap w4.heap.size w.heap.size w5 h5.below.size hgW (hO4'.below hB5) hlen (fun x hx W hW => ?_)).mono ?_
    · have e1 := h5.lt b1 (by simp)
      have e2 := h5.lt b2 (by simp)
      have d1 : W.heap[b1]? = _ := (hW.block b1 e1 (fun h => hgb.1 (by injection h with h; exact h.symm))).trans c1
      have d2 : W.heap[b2]? = _ := (hW.block b2 e2 (fun h => hgb.2 (by injection h with h; exact h.symm))).trans c2
      have hin := Rg.may_in hmay hx
      have hwW : Below w.heap.size w W := grown_belowM h5.below hW (fun k hk => by injection hk with hk; omega) h5.below.size
      exact among1W_any q1 q2 b1 b2 soP long hl x hin W (by simp [World.cell?, d1]) (by simp [World.cell?, d2]) (fun X hX => hC x hin.1 hin.2 X (hwW.trans (hX.mono hwW.size)))
    · rintro e w6 ⟨v, rfl, hB6, rfl, hO6, hG6⟩
      refine ⟨⟨hB6, fun b hb => hG6.block b (h5.lt b hb) (fun e => ?_)⟩, _, rfl, ?_⟩
      · injection e with e
        subst e
        simp at hb
        omega
      · have hfl : dfF (fun x => !soP (Rg.pt x long)) l l.length = l.filter fun x => soP (Rg.pt x long) := by
          unfold dfF
          rw [List.take_length]
          congr 1
          funext y
          simp
        rw [hfl] at hO6 ⊢
        refine EndI.mk fun w9 h9 => ⟨_, _, rfl, ?_⟩
        exact (hO6.lower h4.below.size).below (at_belowM h9 (by simp))
end Go.Proofs.YtjbhpfmnfdebkaaGreat

/-
  The document's answer of layer 14: Window, AskWindow, by the engine.
-/
namespace Go.Proofs.YtjbhpfmnfdebkaaGreat
set_option linter.unusedVariables false
set_option linter.unusedSimpArgs false
set_option maxRecDepth 100000
open Go.RowKit Go.Proofs.YtjbhpfmnfdebkaaGreat.Eng Enc

namespace Rg
/-- is a time in a window, behind its begin and not behind its end? -/
def inWin (lo hi : Int) (u : Rt) : Bool := (decide (lo < (Fr.floor u).1) || (decide ((Fr.floor u).1 = lo) && decide (u.den ≠ 1))) && (decide ((Fr.floor u).1 < hi) || (decide ((Fr.floor u).1 = hi) && decide (u.den = 1)))
def winF (lo hi long : Int) (x : Int) : Bool := inWin lo hi (pt x long).u
def window (a : List Int) (lo hi long : Int) : List Int × Int :=
  if fits long = false then ([], 2) else if mayL a long = true then (if hi ≤ lo then ([], 2) else (a.filter (winF lo hi long), 0)) else ([], 8)
theorem filt_step {l : List Int} {k : Nat} {x : Int} (f : Int → Bool) (hx : l[k]? = some x) : (l.take (k + 1)).filter f = if f x = true then (l.take k).filter f ++ [x] else (l.take k).filter f := by
  rw [List.take_add_one, hx, List.filter_append]
  cases h : f x <;> simp [h]
theorem filt_len (l : List Int) (k : Nat) (f : Int → Bool) : ((l.take k).filter f).length ≤ k := by
  have h1 := List.length_filter_le f (l.take k)
  rw [List.length_take] at h1; omega
end Rg
set_option maxHeartbeats 1000000 in
theorem rwindow14_any (l : List Int) (hlen : l.length ≤ 900000) (lo hi long : Int) (hl : 1 ≤ long ∧ long ≤ 16) (hm : Rg.mayL l long = true) (pa : Option Addr) (ca : Nat) (w : World) (hS : Sl w.heap.size w (.slice pa l.length ca) l) :
    Calls Tryz.prog 110 #[.slice pa l.length ca, .int .i64 lo, .int .i64 hi, .int .i64 long] w (Ret w fun v w' => Own TKi w.heap.size w' v (l.filter (Rg.winF lo hi long))) := by
  refine fun_ret 0 w Tryz.func110 (args := [.val (.slice pa l.length ca), .val (.int .i64 lo), .val (.int .i64 hi), .val (.int .i64 long)]) rfl rfl ?_
  have st := Stay.first (w := w)
  have hmany := Rg.many_doc hl
  refine LoopI.invC (α := Nat × World × Value) (fun y => [(10, .val (.int .i64 y.1)), (9, .val y.2.2)]) (fun y => y.2.1) (fun y => y.1 ≤ l.length ∧ Below w.heap.size w y.2.1 ∧ Own TKi w.heap.size y.2.1 y.2.2 ((l.take y.1).filter (Rg.winF lo hi long))) (fun y => l.length - y.1) ?_ ?_
  · intro w1 h1
    exact ⟨(0, w1, .slice none 0 0), Cov.mk (by repeat' (first | exact trivial | refine And.intro rfl ?_)) rfl rfl rfl rfl rfl, rfl, Nat.zero_le _, h1.below, Own.nil⟩
  rintro ⟨k, V, ov⟩ ⟨hk, hV, hO⟩
  simp only at hk hV hO
  obtain ⟨ao, co, rfl⟩ := hO.form
  have hle := Rg.filt_len l k (Rg.winF lo hi long)
  refine Branch.mk (fun z3 => ?_) (fun z3 => ?_)
  · have hlt : k < l.length := by have := of_decide_eq_true z3; simp only at this; omega
    have hx := List.getElem?_eq_getElem (l := l) (i := k) hlt
    have hxm := List.getElem_mem hlt
    generalize l[k] = x at hx hxm
    have hes := Rg.filt_step (Rg.winF lo hi long) hx
    have hxn := Rg.may_in hm hxm
    rw [hmany] at hxn
    obtain ⟨hpi, hpt, hpu⟩ := Rg.pt_fine hl hxn
    have hSV := hS.go hV hV.size
    refine hSV.idx hx fun ad had => ?_
    refine hSV.ld1 hx had (Below.refl _ _) (by simp) ?_
    apply CallI.use1
    focus (exact fun w5 h5 => rof14_any x long hl hxn w5)
    intro w5 v5 h5 hB5
    refine NewI.mk fun b2 hb2 => ?_
    have hb2' : v5.heap.size ≤ b2 := hb2
    have hV5 : Below w.heap.size w v5 := h5.below.trans (hB5.mono h5.below.size)
    have hO5 := (hO.atNe h5 (fun g hg hm => by simp at hm)).below hB5
    have hrow : ∀ g, (Value.slice ao ((l.take k).filter (Rg.winF lo hi long)).length co).ownBlock = some g → w.heap.size ≤ g ∧ g < b2 := fun g hg => by
      have e1 := hO.lt g hg
      have e2 := h5.size
      have e3 := hB5.size
      simp only at e2
      omega
    have hW : Rg.winF lo hi long x = Rg.inWin lo hi (Rg.pt x long).u := rfl
    generalize Rg.pt x long = p at hpi hpt hpu hW
    unfold Rg.inWin at hW
    have cW := fun w => rwhole14_any p.u hpi.2 w
    generalize (Fr.floor p.u).1 = f at hW cW
    apply CallI.use1
    focus (exact fun w10 h10 => cW w10)
    intro w10 v10 h10 hB10
    have hV10 : Below w.heap.size w v10 := h10.below.trans (hB10.mono h10.below.size)
    have hO10 := (hO5.atNe h10 (fun g hg hm => by have := hrow g hg; simp at hm <;> omega)).below hB10
    have hn10 : b2 < v10.heap.size ∨ v10.heap.size ≤ b2 := by omega
    refine Branch.mk (fun c1 => ?_) (fun c1 => ?_)
    · have A : (decide (lo < f) || (decide (f = lo) && decide (p.u.den ≠ 1))) = true := by rw [c1]; rfl
      apply CallI.use1
      focus (exact fun w11 h11 => cW w11)
      intro w11 v11 h11 hB11
      have hV11 : Below w.heap.size w v11 := h11.below.trans (hB11.mono h11.below.size)
      have hO11 := (hO10.atNe h11 (fun g hg hm => by have := hrow g hg; simp at hm <;> omega)).below hB11
      have hn11 : b2 < v11.heap.size ∨ v11.heap.size ≤ b2 := by omega
      refine Branch.mk (fun d1 => ?_) (fun d1 => ?_)
      · have B : (decide (f < hi) || (decide (f = hi) && decide (p.u.den = 1))) = true := by rw [d1]; rfl
        have hT : Rg.winF lo hi long x = true := by rw [hW]; simp only [A, B, Bool.true_and, Bool.and_true, Bool.false_or, Bool.true_or, Bool.false_and, Bool.and_false]
        rw [if_pos hT] at hes
        have hSZ := hS.go hV11 hV11.size
        refine hSZ.idx hx fun ad9 had9 => ?_
        refine hSZ.ld1 hx had9 (Below.refl _ _) (by simp) ?_
        refine NewI.mk fun b3 hb3 => ?_
        have hnr : ∀ g, (Value.slice ao ((l.take k).filter (Rg.winF lo hi long)).length co).ownBlock = some g → w.heap.size ≤ g ∧ g ∉ [b2, b3] := fun g hg => by
          have e0 := hrow g hg
          have e1 := hO11.lt g hg
          have e2 := hb3
          refine ⟨e0.1, fun hm => ?_⟩
          simp only [List.mem_cons, List.not_mem_nil, or_false] at hm
          omega
        refine GenN.appAt (α := Int) elIn ((l.take k).filter (Rg.winF lo hi long)) [x] w.heap.size (fun w5 h5 => hO11.atNe h5 (fun g hg hm => (hnr g hg).2 (by simp at hm ⊢ <;> omega))) (fun w5 h5 => src_own h5 1 rfl rfl rfl rfl) (by unfold maxLen; simp; omega) (by simp; omega) (fun w5 h5 => h5.below.size) (fun w5 w6 h5 hg => keep_grown h5 hg hnr) fun v1 w5 w6 h5 hg hO1 hat => ?_
        rw [← hes] at hO1
        exact Need.mk (by simp only [inK]; omega) (EndI.mk fun w10 h10 => ⟨(k + 1, w10, v1), Cov.mk (by repeat' (first | exact trivial | refine And.intro rfl ?_)) rfl rfl rfl rfl rfl, rfl, ⟨hlt, h10.below, hO1.atNe h10 (fun g hgg hm => by simp at hm)⟩, by simp only; omega⟩)
      · apply CallI.use1
        focus (exact fun w12 h12 => cW w12)
        intro w12 v12 h12 hB12
        have hV12 : Below w.heap.size w v12 := h12.below.trans (hB12.mono h12.below.size)
        have hO12 := (hO11.atNe h12 (fun g hg hm => by have := hrow g hg; simp at hm <;> omega)).below hB12
        have hn12 : b2 < v12.heap.size ∨ v12.heap.size ≤ b2 := by omega
        refine Branch.mk (fun d2 => ?_) (fun d2 => ?_)
        · have B0 : (decide (f < hi) || (decide (f = hi) && decide (p.u.den = 1))) = decide (p.u.den = 1) := by rw [d1, d2]; rfl
          refine Branch.mk (fun e2 => ?_) (fun e2 => ?_)
          · have B := B0.trans e2
            have hT : Rg.winF lo hi long x = true := by rw [hW]; simp only [A, B, Bool.true_and, Bool.and_true, Bool.false_or, Bool.true_or, Bool.false_and, Bool.and_false]
            rw [if_pos hT] at hes
            have hSZ := hS.go hV12 hV12.size
            refine hSZ.idx hx fun ad9 had9 => ?_
            refine hSZ.ld1 hx had9 (Below.refl _ _) (by simp) ?_
            refine NewI.mk fun b3 hb3 => ?_
            have hnr : ∀ g, (Value.slice ao ((l.take k).filter (Rg.winF lo hi long)).length co).ownBlock = some g → w.heap.size ≤ g ∧ g ∉ [b2, b3] := fun g hg => by
              have e0 := hrow g hg
              have e1 := hO12.lt g hg
              have e2 := hb3
              refine ⟨e0.1, fun hm => ?_⟩
              simp only [List.mem_cons, List.not_mem_nil, or_false] at hm
              omega
            refine GenN.appAt (α := Int) elIn ((l.take k).filter (Rg.winF lo hi long)) [x] w.heap.size (fun w5 h5 => hO12.atNe h5 (fun g hg hm => (hnr g hg).2 (by simp at hm ⊢ <;> omega))) (fun w5 h5 => src_own h5 1 rfl rfl rfl rfl) (by unfold maxLen; simp; omega) (by simp; omega) (fun w5 h5 => h5.below.size) (fun w5 w6 h5 hg => keep_grown h5 hg hnr) fun v1 w5 w6 h5 hg hO1 hat => ?_
            rw [← hes] at hO1
            exact Need.mk (by simp only [inK]; omega) (EndI.mk fun w10 h10 => ⟨(k + 1, w10, v1), Cov.mk (by repeat' (first | exact trivial | refine And.intro rfl ?_)) rfl rfl rfl rfl rfl, rfl, ⟨hlt, h10.below, hO1.atNe h10 (fun g hgg hm => by simp at hm)⟩, by simp only; omega⟩)
          · have B := B0.trans e2
            have hT : Rg.winF lo hi long x = false := by rw [hW]; simp only [A, B, Bool.true_and, Bool.and_true, Bool.false_or, Bool.true_or, Bool.false_and, Bool.and_false]
            rw [if_neg (by rw [hT]; decide)] at hes
            rw [← hes] at hO12 ⊢
            exact Need.mk (by simp only [inK]; omega) (EndI.mk fun w10 h10 => ⟨(k + 1, w10, .slice ao ((l.take (k + 1)).filter (Rg.winF lo hi long)).length co), Cov.mk (by repeat' (first | exact trivial | refine And.intro rfl ?_)) rfl rfl rfl rfl rfl, rfl, ⟨hlt, h10.below, hO12.atNe h10 (fun g hgg hm => by simp at hm)⟩, by simp only; omega⟩)
        · have B : (decide (f < hi) || (decide (f = hi) && decide (p.u.den = 1))) = false := by rw [d1, d2]; rfl
          have hT : Rg.winF lo hi long x = false := by rw [hW]; simp only [A, B, Bool.true_and, Bool.and_true, Bool.false_or, Bool.true_or, Bool.false_and, Bool.and_false]
          rw [if_neg (by rw [hT]; decide)] at hes
          rw [← hes] at hO12 ⊢
          exact Need.mk (by simp only [inK]; omega) (EndI.mk fun w10 h10 => ⟨(k + 1, w10, .slice ao ((l.take (k + 1)).filter (Rg.winF lo hi long)).length co), Cov.mk (by repeat' (first | exact trivial | refine And.intro rfl ?_)) rfl rfl rfl rfl rfl, rfl, ⟨hlt, h10.below, hO12.atNe h10 (fun g hgg hm => by simp at hm)⟩, by simp only; omega⟩)
    · apply CallI.use1
      focus (exact fun w13 h13 => cW w13)
      intro w13 v13 h13 hB13
      have hV13 : Below w.heap.size w v13 := h13.below.trans (hB13.mono h13.below.size)
      have hO13 := (hO10.atNe h13 (fun g hg hm => by have := hrow g hg; simp at hm <;> omega)).below hB13
      have hn13 : b2 < v13.heap.size ∨ v13.heap.size ≤ b2 := by omega
      refine Branch.mk (fun c2 => ?_) (fun c2 => ?_)
      · have A0 : (decide (lo < f) || (decide (f = lo) && decide (p.u.den ≠ 1))) = decide (p.u.den ≠ 1) := by rw [c1, c2]; rfl
        apply CallI.use1
        focus (exact fun w14 h14 => cW w14)
        intro w14 v14 h14 hB14
        have hV14 : Below w.heap.size w v14 := h14.below.trans (hB14.mono h14.below.size)
        have hO14 := (hO13.atNe h14 (fun g hg hm => by have := hrow g hg; simp at hm <;> omega)).below hB14
        have hn14 : b2 < v14.heap.size ∨ v14.heap.size ≤ b2 := by omega
        refine Branch.mk (fun d1 => ?_) (fun d1 => ?_)
        · have B : (decide (f < hi) || (decide (f = hi) && decide (p.u.den = 1))) = true := by rw [d1]; rfl
          refine Branch.mk (fun e1 => ?_) (fun e1 => ?_)
          · have A := A0.trans e1
            have hT : Rg.winF lo hi long x = true := by rw [hW]; simp only [A, B, Bool.true_and, Bool.and_true, Bool.false_or, Bool.true_or, Bool.false_and, Bool.and_false]
            rw [if_pos hT] at hes
            have hSZ := hS.go hV14 hV14.size
            refine hSZ.idx hx fun ad9 had9 => ?_
            refine hSZ.ld1 hx had9 (Below.refl _ _) (by simp) ?_
            refine NewI.mk fun b3 hb3 => ?_
            have hnr : ∀ g, (Value.slice ao ((l.take k).filter (Rg.winF lo hi long)).length co).ownBlock = some g → w.heap.size ≤ g ∧ g ∉ [b2, b3] := fun g hg => by
              have e0 := hrow g hg
              have e1 := hO14.lt g hg
              have e2 := hb3
              refine ⟨e0.1, fun hm => ?_⟩
              simp only [List.mem_cons, List.not_mem_nil, or_false] at hm
              omega
            refine GenN.appAt (α := Int) elIn ((l.take k).filter (Rg.winF lo hi long)) [x] w.heap.size (fun w5 h5 => hO14.atNe h5 (fun g hg hm => (hnr g hg).2 (by simp at hm ⊢ <;> omega))) (fun w5 h5 => src_own h5 1 rfl rfl rfl rfl) (by unfold maxLen; simp; omega) (by simp; omega) (fun w5 h5 => h5.below.size) (fun w5 w6 h5 hg => keep_grown h5 hg hnr) fun v1 w5 w6 h5 hg hO1 hat => ?_
            rw [← hes] at hO1
            exact Need.mk (by simp only [inK]; omega) (EndI.mk fun w10 h10 => ⟨(k + 1, w10, v1), Cov.mk (by repeat' (first | exact trivial | refine And.intro rfl ?_)) rfl rfl rfl rfl rfl, rfl, ⟨hlt, h10.below, hO1.atNe h10 (fun g hgg hm => by simp at hm)⟩, by simp only; omega⟩)
          · have A := A0.trans e1
            have hT : Rg.winF lo hi long x = false := by rw [hW]; simp only [A, B, Bool.true_and, Bool.and_true, Bool.false_or, Bool.true_or, Bool.false_and, Bool.and_false]
            rw [if_neg (by rw [hT]; decide)] at hes
            rw [← hes] at hO14 ⊢
            exact Need.mk (by simp only [inK]; omega) (EndI.mk fun w10 h10 => ⟨(k + 1, w10, .slice ao ((l.take (k + 1)).filter (Rg.winF lo hi long)).length co), Cov.mk (by repeat' (first | exact trivial | refine And.intro rfl ?_)) rfl rfl rfl rfl rfl, rfl, ⟨hlt, h10.below, hO14.atNe h10 (fun g hgg hm => by simp at hm)⟩, by simp only; omega⟩)
        · apply CallI.use1
          focus (exact fun w15 h15 => cW w15)
          intro w15 v15 h15 hB15
          have hV15 : Below w.heap.size w v15 := h15.below.trans (hB15.mono h15.below.size)
          have hO15 := (hO14.atNe h15 (fun g hg hm => by have := hrow g hg; simp at hm <;> omega)).below hB15
          have hn15 : b2 < v15.heap.size ∨ v15.heap.size ≤ b2 := by omega
          refine Branch.mk (fun d2 => ?_) (fun d2 => ?_)
          · have B0 : (decide (f < hi) || (decide (f = hi) && decide (p.u.den = 1))) = decide (p.u.den = 1) := by rw [d1, d2]; rfl
            refine Branch.mk (fun e1 => ?_) (fun e1 => ?_)
            · have A := A0.trans e1
              refine Branch.mk (fun e2 => ?_) (fun e2 => ?_)
              · have B := B0.trans e2
                have hT : Rg.winF lo hi long x = true := by rw [hW]; simp only [A, B, Bool.true_and, Bool.and_true, Bool.false_or, Bool.true_or, Bool.false_and, Bool.and_false]
                rw [if_pos hT] at hes
                have hSZ := hS.go hV15 hV15.size
                refine hSZ.idx hx fun ad9 had9 => ?_
                refine hSZ.ld1 hx had9 (Below.refl _ _) (by simp) ?_
                refine NewI.mk fun b3 hb3 => ?_
                have hnr : ∀ g, (Value.slice ao ((l.take k).filter (Rg.winF lo hi long)).length co).ownBlock = some g → w.heap.size ≤ g ∧ g ∉ [b2, b3] := fun g hg => by
                  have e0 := hrow g hg
                  have e1 := hO15.lt g hg
                  have e2 := hb3
                  refine ⟨e0.1, fun hm => ?_⟩
                  simp only [List.mem_cons, List.not_mem_nil, or_false] at hm
                  omega
                refine GenN.appAt (α := Int) elIn ((l.take k).filter (Rg.winF lo hi long)) [x] w.heap.size (fun w5 h5 => hO15.atNe h5 (fun g hg hm => (hnr g hg).2 (by simp at hm ⊢ <;> omega))) (fun w5 h5 => src_own h5 1 rfl rfl rfl rfl) (by unfold maxLen; simp; omega) (by simp; omega) (fun w5 h5 => h5.below.size) (fun w5 w6 h5 hg => keep_grown h5 hg hnr) fun v1 w5 w6 h5 hg hO1 hat => ?_
                rw [← hes] at hO1
                exact Need.mk (by simp only [inK]; omega) (EndI.mk fun w10 h10 => ⟨(k + 1, w10, v1), Cov.mk (by repeat' (first | exact trivial | refine And.intro rfl ?_)) rfl rfl rfl rfl rfl, rfl, ⟨hlt, h10.below, hO1.atNe h10 (fun g hgg hm => by simp at hm)⟩, by simp only; omega⟩)
              · have B := B0.trans e2
                have hT : Rg.winF lo hi long x = false := by rw [hW]; simp only [A, B, Bool.true_and, Bool.and_true, Bool.false_or, Bool.true_or, Bool.false_and, Bool.and_false]
                rw [if_neg (by rw [hT]; decide)] at hes
                rw [← hes] at hO15 ⊢
                exact Need.mk (by simp only [inK]; omega) (EndI.mk fun w10 h10 => ⟨(k + 1, w10, .slice ao ((l.take (k + 1)).filter (Rg.winF lo hi long)).length co), Cov.mk (by repeat' (first | exact trivial | refine And.intro rfl ?_)) rfl rfl rfl rfl rfl, rfl, ⟨hlt, h10.below, hO15.atNe h10 (fun g hgg hm => by simp at hm)⟩, by simp only; omega⟩)
            · have A := A0.trans e1
              have B := B0
              have hT : Rg.winF lo hi long x = false := by rw [hW]; simp only [A, B, Bool.true_and, Bool.and_true, Bool.false_or, Bool.true_or, Bool.false_and, Bool.and_false]
              rw [if_neg (by rw [hT]; decide)] at hes
              rw [← hes] at hO15 ⊢
              exact Need.mk (by simp only [inK]; omega) (EndI.mk fun w10 h10 => ⟨(k + 1, w10, .slice ao ((l.take (k + 1)).filter (Rg.winF lo hi long)).length co), Cov.mk (by repeat' (first | exact trivial | refine And.intro rfl ?_)) rfl rfl rfl rfl rfl, rfl, ⟨hlt, h10.below, hO15.atNe h10 (fun g hgg hm => by simp at hm)⟩, by simp only; omega⟩)
          · have B : (decide (f < hi) || (decide (f = hi) && decide (p.u.den = 1))) = false := by rw [d1, d2]; rfl
            refine Branch.mk (fun e1 => ?_) (fun e1 => ?_)
            · have A := A0.trans e1
              have hT : Rg.winF lo hi long x = false := by rw [hW]; simp only [A, B, Bool.true_and, Bool.and_true, Bool.false_or, Bool.true_or, Bool.false_and, Bool.and_false]
              rw [if_neg (by rw [hT]; decide)] at hes
              rw [← hes] at hO15 ⊢
              exact Need.mk (by simp only [inK]; omega) (EndI.mk fun w10 h10 => ⟨(k + 1, w10, .slice ao ((l.take (k + 1)).filter (Rg.winF lo hi long)).length co), Cov.mk (by repeat' (first | exact trivial | refine And.intro rfl ?_)) rfl rfl rfl rfl rfl, rfl, ⟨hlt, h10.below, hO15.atNe h10 (fun g hgg hm => by simp at hm)⟩, by simp only; omega⟩)
            · have A := A0.trans e1
              have hT : Rg.winF lo hi long x = false := by rw [hW]; simp only [A, B, Bool.true_and, Bool.and_true, Bool.false_or, Bool.true_or, Bool.false_and, Bool.and_false]
              rw [if_neg (by rw [hT]; decide)] at hes
              rw [← hes] at hO15 ⊢
              exact Need.mk (by simp only [inK]; omega) (EndI.mk fun w10 h10 => ⟨(k + 1, w10, .slice ao ((l.take (k + 1)).filter (Rg.winF lo hi long)).length co), Cov.mk (by repeat' (first | exact trivial | refine And.intro rfl ?_)) rfl rfl rfl rfl rfl, rfl, ⟨hlt, h10.below, hO15.atNe h10 (fun g hgg hm => by simp at hm)⟩, by simp only; omega⟩)
      · have A : (decide (lo < f) || (decide (f = lo) && decide (p.u.den ≠ 1))) = false := by rw [c1, c2]; rfl
        apply CallI.use1
        focus (exact fun w16 h16 => cW w16)
        intro w16 v16 h16 hB16
        have hV16 : Below w.heap.size w v16 := h16.below.trans (hB16.mono h16.below.size)
        have hO16 := (hO13.atNe h16 (fun g hg hm => by have := hrow g hg; simp at hm <;> omega)).below hB16
        have hn16 : b2 < v16.heap.size ∨ v16.heap.size ≤ b2 := by omega
        refine Branch.mk (fun d1 => ?_) (fun d1 => ?_)
        · have B : (decide (f < hi) || (decide (f = hi) && decide (p.u.den = 1))) = true := by rw [d1]; rfl
          have hT : Rg.winF lo hi long x = false := by rw [hW]; simp only [A, B, Bool.true_and, Bool.and_true, Bool.false_or, Bool.true_or, Bool.false_and, Bool.and_false]
          rw [if_neg (by rw [hT]; decide)] at hes
          rw [← hes] at hO16 ⊢
          exact Need.mk (by simp only [inK]; omega) (EndI.mk fun w10 h10 => ⟨(k + 1, w10, .slice ao ((l.take (k + 1)).filter (Rg.winF lo hi long)).length co), Cov.mk (by repeat' (first | exact trivial | refine And.intro rfl ?_)) rfl rfl rfl rfl rfl, rfl, ⟨hlt, h10.below, hO16.atNe h10 (fun g hgg hm => by simp at hm)⟩, by simp only; omega⟩)
        · apply CallI.use1
          focus (exact fun w17 h17 => cW w17)
          intro w17 v17 h17 hB17
          have hV17 : Below w.heap.size w v17 := h17.below.trans (hB17.mono h17.below.size)
          have hO17 := (hO16.atNe h17 (fun g hg hm => by have := hrow g hg; simp at hm <;> omega)).below hB17
          have hn17 : b2 < v17.heap.size ∨ v17.heap.size ≤ b2 := by omega
          refine Branch.mk (fun d2 => ?_) (fun d2 => ?_)
          · have B0 : (decide (f < hi) || (decide (f = hi) && decide (p.u.den = 1))) = decide (p.u.den = 1) := by rw [d1, d2]; rfl
            have B := B0
            have hT : Rg.winF lo hi long x = false := by rw [hW]; simp only [A, B, Bool.true_and, Bool.and_true, Bool.false_or, Bool.true_or, Bool.false_and, Bool.and_false]
            rw [if_neg (by rw [hT]; decide)] at hes
            rw [← hes] at hO17 ⊢
            exact Need.mk (by simp only [inK]; omega) (EndI.mk fun w10 h10 => ⟨(k + 1, w10, .slice ao ((l.take (k + 1)).filter (Rg.winF lo hi long)).length co), Cov.mk (by repeat' (first | exact trivial | refine And.intro rfl ?_)) rfl rfl rfl rfl rfl, rfl, ⟨hlt, h10.below, hO17.atNe h10 (fun g hgg hm => by simp at hm)⟩, by simp only; omega⟩)
          · have B : (decide (f < hi) || (decide (f = hi) && decide (p.u.den = 1))) = false := by rw [d1, d2]; rfl
            have hT : Rg.winF lo hi long x = false := by rw [hW]; simp only [A, B, Bool.true_and, Bool.and_true, Bool.false_or, Bool.true_or, Bool.false_and, Bool.and_false]
            rw [if_neg (by rw [hT]; decide)] at hes
            rw [← hes] at hO17 ⊢
            exact Need.mk (by simp only [inK]; omega) (EndI.mk fun w10 h10 => ⟨(k + 1, w10, .slice ao ((l.take (k + 1)).filter (Rg.winF lo hi long)).length co), Cov.mk (by repeat' (first | exact trivial | refine And.intro rfl ?_)) rfl rfl rfl rfl rfl, rfl, ⟨hlt, h10.below, hO17.atNe h10 (fun g hgg hm => by simp at hm)⟩, by simp only; omega⟩)
  · have hge : k = l.length := by have := of_decide_eq_false z3; simp only at this; omega
    subst hge
    exact EndI.mk fun w10 h10 => by
      have := hO.atNe h10 (fun g hgg hm => by simp at hm)
      simpa only [List.take_length] using this
end Go.Proofs.YtjbhpfmnfdebkaaGreat

/-
  The document's answer of layers 5 and 14: InSpan, AskWindow, Within, AskWithin, by the engine.
-/
namespace Go.Proofs.YtjbhpfmnfdebkaaGreat
set_option linter.unusedVariables false
set_option linter.unusedSimpArgs false
set_option maxRecDepth 100000
open Go.RowKit Go.Proofs.YtjbhpfmnfdebkaaGreat.Eng Enc

theorem raskwindow_any (l : List Int) (hlen : l.length ≤ 900000) (lo hi long : Int) (pa : Option Addr) (ca : Nat) (w : World) (hS : Sl w.heap.size w (.slice pa l.length ca) l) :
    Calls Tryz.prog 44 #[.slice pa l.length ca, .int .i64 lo, .int .i64 hi, .int .i64 long] w (Ret w fun v w' => ∃ a' c', v = .tuple #[.slice a' (Rg.window l lo hi long).1.length c', .int .i64 (Rg.window l lo hi long).2] ∧ Own TKi w.heap.size w' (.slice a' (Rg.window l lo hi long).1.length c') (Rg.window l lo hi long).1) := by
  refine fun_ret 0 w Tryz.func44 (args := [.val (.slice pa l.length ca), .val (.int .i64 lo), .val (.int .i64 hi), .val (.int .i64 long)]) rfl rfl ?_
  have st := Stay.first (w := w)
  apply CallI.use1
  focus (exact fun w2 h2 => rfits14_any long w2)
  intro w2 v2 h2 hB2
  have st := st.next h2 (fun x hx => by simp at hx <;> omega) hB2
  unfold Rg.window
  refine Branch.mk (fun hc => ?_) (fun hc => ?_)
  · have hf : Rg.fits long = false := by simpa using hc
    rw [if_pos hf]
    exact EndI.mk fun w9 h9 => ⟨_, _, rfl, Own.nil⟩
  have hf : Rg.fits long = true := by simpa using hc
  have hl := Rg.fits_iff.1 hf
  rw [if_neg (by rw [hf]; decide)]
  apply CallI.use1
  focus (exact fun w3 h3 => rmay14_any l long pa ca w3 (hS.st (st.at h3 (fun x hx => by simp at hx <;> omega))))
  intro w3 v3 h3 hB3
  have st := st.next h3 (fun x hx => by simp at hx <;> omega) hB3
  refine Branch.mk (fun z1 => ?_) (fun z1 => ?_)
  · have z1' : Rg.mayL l long = false := by simpa using z1
    rw [if_neg (by rw [z1']; decide)]
    exact EndI.mk fun w9 h9 => ⟨_, _, rfl, Own.nil⟩
  have z1' : Rg.mayL l long = true := by simpa using z1
  rw [if_pos z1']
  refine Branch.mk (fun z2 => ?_) (fun z2 => ?_)
  · rw [if_pos (of_decide_eq_true z2)]
    exact EndI.mk fun w9 h9 => ⟨_, _, rfl, Own.nil⟩
  rw [if_neg (of_decide_eq_false z2)]
  apply CallI.use
  focus (exact fun w5 h5 => rwindow14_any l hlen lo hi long hl z1' pa ca w5 (hS.go h5.below h5.below.size))
  rintro v w5 v5 h5 hB5 hO5
  obtain ⟨a5, c5, rfl⟩ := hO5.form
  exact EndI.mk fun w9 h9 => ⟨_, _, rfl, (hO5.lower h5.below.size).below (at_belowM h9 (by simp))⟩
namespace Rg
/-- is a time in a span that may be? -/
def inSp (s : Sp) (a : Rt) : Bool := (Fr.keeps ⟨0, 1⟩ a (be s)).1 && (Fr.keeps a ⟨0, 1⟩ (ab s)).1
theorem fit_of {s : Sp} (h : Wn.spMay s = true) : s.fit := by
  unfold Wn.spMay at h
  simp only [Bool.and_eq_true, decide_eq_true_eq] at h
  refine ⟨h.1, ?_⟩
  by_cases ho : s.op = true
  · exact .inl ho
  · rw [if_neg ho] at h
    simp only [Bool.and_eq_true, decide_eq_true_eq] at h
    exact .inr (by omega)
theorem may_half {b : Int} (h : b = 9223372036854775807 ∨ (-288230376151711744 ≤ b / 2 ∧ b / 2 ≤ 288230376151711744)) : Bd.may b = true ∧ inK .i64 b := by
  refine ⟨?_, by simp only [inK]; omega⟩
  unfold Bd.may Num.okB
  rcases h with h | h
  · rw [h]; rfl
  · simp; right; omega
end Rg
theorem rinspan_any (a : Rt) (s : Sp) (hs : Wn.spMay s = true) (ha : a.ok = true) (ia : a.ins) (w : World) :
    Calls Tryz.prog 180 #[.agg #[.int .i64 a.num, .int .i64 a.den], .agg #[.int .i64 s.lo, .bool s.ls, .int .i64 s.hi, .bool s.hs, .bool s.op]] w fun e w' => e = .returned (.bool (Rg.inSp s a)) ∧ Below w.heap.size w w' := by
  refine fun_eq 0 w Tryz.func180 (args := [.agg [.val (.int .i64 a.num), .val (.int .i64 a.den)], .agg [.val (.int .i64 s.lo), .val (.bool s.ls), .val (.int .i64 s.hi), .val (.bool s.hs), .val (.bool s.op)]]) rfl rfl ?_
  have hf := Rg.fit_of hs
  have m1 := Rg.may_half (.inr (Wn.be_lim hs))
  have m2 := Rg.may_half (Wn.ab_lim hs)
  have z1 : (⟨0, 1⟩ : Rt).ok = true := by decide
  have z2 : (⟨0, 1⟩ : Rt).ins := ⟨by simp [inK], by simp [inK]⟩
  refine NewI.mk fun b1 hb1 => ?_
  refine NewI.mk fun b2 hb2 => ?_
  refine NewI.mk fun b3 hb3 => ?_
  refine DrawI.go (.tk 0 (.tk 1 (.tk 2 (.ev 3 (.ev 4 (.tk 5 (.tk 6 (.tk 7 (.tk 8 (.ev 9 (.ev 10 (.tk 11 (.tk 12 .done))))))))))))) (by kernel_rfl) fun w1 h1 => ?_
  refine CallI.to1 (fun w => rbelow_any s hf w) fun w3 => ?_
  refine CallI.to1 (fun w => rkept03_any ⟨0, 1⟩ a z1 ha z2 ia (Rg.be s) m1.1 m1.2 w) fun w4 => ?_
  unfold Rg.inSp
  refine Branch.mk (fun c1 => ?_) (fun c1 => ?_)
  · refine CallI.to1 (fun w => rabove_any s hf w) fun w5 => ?_
    refine CallI.to1 (fun w => rkept03_any a ⟨0, 1⟩ ha z1 ia z2 (Rg.ab s) m2.1 m2.2 w) fun w6 => ?_
    exact EndI.mk fun w9 h9 => by rw [c1]; rfl
  · exact EndI.mk fun w9 h9 => by rw [c1]; rfl
end Go.Proofs.YtjbhpfmnfdebkaaGreat

