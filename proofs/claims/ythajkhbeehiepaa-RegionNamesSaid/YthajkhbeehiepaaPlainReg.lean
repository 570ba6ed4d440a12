/-
  Regions in plain words: places, numbers, points. No program is in sight.
-/
import Derived.Test.YthajkhbeehiepaaPlainSat
import Derived.Test.YthajkhbeehiepaaPlainPick
import Derived.Test.YthajkhbeehiepaaPlainBound
namespace Go.Proofs.Ythajkhbeehiepaa
set_option linter.unusedVariables false

theorem i64_and_odd (x y : Int) : bits .and .i64 (bits .and .i64 x y) 1 = 1 ↔ (x % 2 = 1 ∧ y % 2 = 1) := by
  rw [i64_and1]
  have key : (BitVec.ofInt 64 x &&& BitVec.ofInt 64 y).toNat % 2 = 1 ↔ x % 2 = 1 ∧ y % 2 = 1 := by
    rw [BitVec.toNat_and, Nat.and_mod_two_eq_one, BitVec.toNat_ofInt, BitVec.toNat_ofInt]
    constructor <;> intro h <;> omega
  have hb : bits .and .i64 x y % 2 = (((BitVec.ofInt 64 x &&& BitVec.ofInt 64 y).toNat % 2 : Nat) : Int) := by
    show IntKind.i64.wrap ((BitVec.ofInt 64 x &&& BitVec.ofInt 64 y).toNat : Nat) % 2 = _
    rw [IntKind.wrap_i64]
    omega
  rw [hb]
  omega

/-- a pair of times. -/
structure Pt where
  t : Rt
  u : Rt
deriving DecidableEq
def Pt.ins (p : Pt) : Prop := p.t.ins ∧ p.u.ins

namespace Rg
def fits (long : Int) : Bool := decide (1 ≤ long) && decide (long ≤ 16)
def sides (long : Int) : Int := 2 * long + 1
def many (long : Int) : Int × Int := if fits long = true then (3 * sides long * sides long, 0) else (0, 2)
/-- a time's fraction part, and its place. -/
def part (a : Rt) : Rt := (Fr.add a (Fr.of (-(Fr.floor a).1) 1).1).1
def place (a : Rt) : Int := if (part a).num = 0 then 2 * (Fr.floor a).1 else 2 * (Fr.floor a).1 + 1
def order (p : Pt) : Int := if place p.t % 2 = 1 ∧ place p.u % 2 = 1 then 1 + (Fr.cmp (part p.t) (part p.u)).1 else 1
def number (p : Pt) (long : Int) : Int :=
  if 0 ≤ (Fr.cmp p.t p.u).1 ∨ place p.t < 0 ∨ sides long ≤ place p.u then -1 else 3 * (place p.t * sides long + place p.u) + order p
def askNumber (p : Pt) (long : Int) : Int × Int :=
  if fits long = true then (if p.t.ok = true ∧ p.u.ok = true then (if number p long < 0 then (0, 6) else (number p long, 0)) else (0, 8)) else (0, 2)
def time (pl pa of_ : Int) : Rt := if pl % 2 = 0 then (Fr.of (pl / 2) 1).1 else (Fr.of (pl / 2 * of_ + pa) of_).1
def parts (r : Int) : Int × Int × Int := if r = 0 then (1, 2, 3) else if r = 1 then (1, 1, 2) else (2, 1, 3)
def pt (n long : Int) : Pt := ⟨time (n / 3 / sides long) (parts (n % 3)).1 (parts (n % 3)).2.2, time (n / 3 % sides long) (parts (n % 3)).2.1 (parts (n % 3)).2.2⟩
def point (n long : Int) : Pt × Bool := (pt n long, decide (number (pt n long) long = n))
def zero : Pt := ⟨⟨0, 0⟩, ⟨0, 0⟩⟩
def askPoint (n long : Int) : Pt × Int :=
  if (many long).2 ≠ 0 ∨ n < 0 ∨ (many long).1 ≤ n then (zero, 2) else if (point n long).2 = true then (pt n long, 0) else (zero, 6)

theorem part_ins (a : Rt) : (part a).ins := Fr.add_ins
theorem time_ins {pl pa of_ : Int} (h : 0 ≤ pl ∧ pl ≤ 1000) (hp : 0 ≤ pa ∧ pa ≤ 10) (ho : 1 ≤ of_ ∧ of_ ≤ 10) : (time pl pa of_).ins := by
  have hm := Fr.mul_bd (u := pl / 2) (v := of_) (m := 1000) (n := 10) (by omega) (by omega) (by omega) (by omega)
  unfold time
  split
  · exact Fr.of_ins (by simp only [Eng.inK]; omega)
  · exact Fr.of_ins (by simp only [Eng.inK]; omega)
theorem floor_bd (a : Rt) : -2305843009213693952 ≤ (Fr.floor a).1 ∧ (Fr.floor a).1 ≤ 2305843009213693952 := by
  unfold Fr.floor
  split
  · rename_i h; have := Fr.ok_bd h; simp only; omega
  · simp
theorem fits_iff {long : Int} : fits long = true ↔ 1 ≤ long ∧ long ≤ 16 := by simp [fits]
theorem cmp_lt {a b : Rt} (h : (Fr.cmp a b).1 < 0) : a.ok = true ∧ b.ok = true ∧ a.num * b.den < b.num * a.den := by
  unfold Fr.cmp at h
  split at h
  · rename_i h0
    exact ⟨h0.1, h0.2, Fr.cmpI_lt.1 h⟩
  · simp at h
theorem floor_le {a b : Rt} (h : (Fr.cmp a b).1 < 0) : (Fr.floor a).1 ≤ (Fr.floor b).1 := by
  obtain ⟨ha, hb, hlt⟩ := cmp_lt h
  have oa := Fr.ok_bd ha
  have ob := Fr.ok_bd hb
  have e1 : (Fr.floor a).1 = a.num / a.den := by unfold Fr.floor; rw [if_pos ha]
  have e2 : (Fr.floor b).1 = b.num / b.den := by unfold Fr.floor; rw [if_pos hb]
  rw [e1, e2]
  -- were it not, the difference would be too great
  rcases Int.lt_or_le (b.num / b.den) (a.num / a.den) with hc | hc
  · exfalso
    have f1 : a.num = a.den * (a.num / a.den) + a.num % a.den := (Int.mul_ediv_add_emod a.num a.den).symm
    have f2 : b.num = b.den * (b.num / b.den) + b.num % b.den := (Int.mul_ediv_add_emod b.num b.den).symm
    have hD : 0 < a.den * b.den := Int.mul_pos (by omega) (by omega)
    have r1 : 0 ≤ a.num % a.den * b.den := Int.mul_nonneg oa.2.2.2.2.1 (by omega)
    have r4 : b.num % b.den * a.den < a.den * b.den := by rw [Int.mul_comm a.den b.den]; exact Int.mul_lt_mul_of_pos_right ob.2.2.2.2.2 (by omega)
    have hm : 1 * (a.den * b.den) ≤ (a.num / a.den - b.num / b.den) * (a.den * b.den) := Int.mul_le_mul_of_nonneg_right (by omega) (by omega)
    have key : a.num * b.den - b.num * a.den = (a.num / a.den - b.num / b.den) * (a.den * b.den) + (a.num % a.den * b.den - b.num % b.den * a.den) := by
      generalize a.num / a.den = x at *
      generalize b.num / b.den = y at *
      generalize a.num % a.den = r at *
      generalize b.num % b.den = s at *
      rw [f1, f2]; grind
    omega
  · exact hc
theorem place_bd {p : Pt} (h : (Fr.cmp p.t p.u).1 < 0) : place p.t ≤ place p.u + 1 := by
  have := floor_le h
  unfold place
  split <;> split <;> omega
end Rg
end Go.Proofs.Ythajkhbeehiepaa
