/-
  What a difference of fractions keeps, by rational numbers. No program is in sight.
-/
import Derived.Test.YthajkhbeehiepaaPlainSum
import Derived.Test.YthajkhbeehiepaaPlainClose
namespace Go.Proofs.Ythajkhbeehiepaa
set_option linter.unusedVariables false

namespace Fr
open Dbm
/-- a fraction's value. -/
def v (a : Rt) : Rat := (a.num : Rat) / (a.den : Rat)
/-- does a difference keep a bound? -/
def sat (d : Rat) (b : Int) : Prop := b = NO ∨ (if Bd.st b = true then d < ((b / 2 : Int) : Rat) else d ≤ ((b / 2 : Int) : Rat))

theorem cmpI_lt {x y : Int} : cmpI x y < 0 ↔ x < y := by
  unfold cmpI; split
  · simp [*]
  · split <;> simp [*]
theorem cmpI_zero {x y : Int} : cmpI x y = 0 ↔ x = y := by
  unfold cmpI; split
  · constructor <;> intro h
    · cases h
    · omega
  · split
    · constructor <;> intro h
      · cases h
      · omega
    · constructor <;> intro h <;> omega
theorem sign_eq {a b : Rt} (ha : a.ok = true) (hb : b.ok = true) (c : Int) :
    (sign (a.num / a.den - b.num / b.den) c (rest a b) < 0 ↔ a.num * b.den - b.num * a.den < c * (a.den * b.den)) ∧ (sign (a.num / a.den - b.num / b.den) c (rest a b) = 0 ↔ a.num * b.den - b.num * a.den = c * (a.den * b.den)) := by
  have oa := ok_bd ha
  have ob := ok_bd hb
  have e1 : a.num = a.den * (a.num / a.den) + a.num % a.den := (Int.mul_ediv_add_emod a.num a.den).symm
  have e2 : b.num = b.den * (b.num / b.den) + b.num % b.den := (Int.mul_ediv_add_emod b.num b.den).symm
  have hD : 1 ≤ a.den * b.den := by
    have := Int.mul_le_mul (a := 1) (b := 1) oa.1 ob.1 (by omega) (by omega)
    omega
  have r1 : 0 ≤ a.num % a.den * b.den := Int.mul_nonneg oa.2.2.2.2.1 (by omega)
  have r2 : 0 ≤ b.num % b.den * a.den := Int.mul_nonneg ob.2.2.2.2.1 (by omega)
  have r3 : a.num % a.den * b.den < a.den * b.den := Int.mul_lt_mul_of_pos_right oa.2.2.2.2.2 (by omega)
  have r4 : b.num % b.den * a.den < a.den * b.den := by rw [Int.mul_comm a.den b.den]; exact Int.mul_lt_mul_of_pos_right ob.2.2.2.2.2 (by omega)
  have key : a.num * b.den - b.num * a.den - c * (a.den * b.den) = (a.num / a.den - b.num / b.den - c) * (a.den * b.den) + (a.num % a.den * b.den - b.num % b.den * a.den) := by
    generalize a.num / a.den = x at *
    generalize b.num / b.den = y at *
    generalize a.num % a.den = r at *
    generalize b.num % b.den = s at *
    rw [e1, e2]; grind
  unfold sign rest
  generalize a.num / a.den - b.num / b.den = q at *
  generalize a.num % a.den * b.den = r at *
  generalize b.num % b.den * a.den = s at *
  generalize a.den * b.den = D at *
  rcases Int.lt_trichotomy q c with h | h | h
  · have hc : cmpI q c < 0 := cmpI_lt.2 h
    have hm : (q - c) * D ≤ (-1) * D := Int.mul_le_mul_of_nonneg_right (by omega) (by omega)
    rw [if_pos (by omega)]
    omega
  · have hc : cmpI q c = 0 := cmpI_zero.2 h
    subst h
    rw [hc, if_neg (by simp), cmpI_lt, cmpI_zero]
    rw [Int.sub_self, Int.zero_mul] at key
    omega
  · have hc : ¬ cmpI q c < 0 := fun hh => by have := cmpI_lt.1 hh; omega
    have hc2 : cmpI q c ≠ 0 := fun hh => by have := cmpI_zero.1 hh; omega
    have hm : 1 * D ≤ (q - c) * D := Int.mul_le_mul_of_nonneg_right (by omega) (by omega)
    rw [if_pos hc2]
    omega
theorem v_sub {a b : Rt} (ha : a.ok = true) (hb : b.ok = true) : v a - v b = ((a.num * b.den - b.num * a.den : Int) : Rat) / ((a.den * b.den : Int) : Rat) := by
  have oa := ok_bd ha
  have ob := ok_bd hb
  unfold v
  have h1 : (a.den : Rat) ≠ 0 := by
    intro h; have : a.den = 0 := by exact_mod_cast h
    omega
  have h2 : (b.den : Rat) ≠ 0 := by
    intro h; have : b.den = 0 := by exact_mod_cast h
    omega
  rw [Rat.intCast_sub, Rat.intCast_mul, Rat.intCast_mul, Rat.intCast_mul]
  grind
theorem den_pos {a b : Rt} (ha : a.ok = true) (hb : b.ok = true) : (0 : Rat) < ((a.den * b.den : Int) : Rat) := by
  have oa := ok_bd ha
  have ob := ok_bd hb
  have : 0 < a.den * b.den := Int.mul_pos (by omega) (by omega)
  exact_mod_cast this
/-- a difference keeps a bound just if its value does. -/
theorem keeps_sat {a b : Rt} (ha : a.ok = true) (hb : b.ok = true) {x : Int} (hx : Bd.may x = true) : (keeps a b x).1 = true ↔ sat (v a - v b) x := by
  unfold keeps sat
  rw [ha, hb, hx]
  simp only [Bool.and_self, if_true]
  by_cases h : x = 9223372036854775807
  · rw [if_pos h]
    exact ⟨fun _ => .inl h, fun _ => rfl⟩
  · rw [if_neg h]
    simp only
    obtain ⟨s1, s2⟩ := sign_eq ha hb (x / 2)
    have hD := den_pos ha hb
    rw [v_sub ha hb]
    have e1 : ((a.num * b.den - b.num * a.den : Int) : Rat) / ((a.den * b.den : Int) : Rat) < ((x / 2 : Int) : Rat) ↔ a.num * b.den - b.num * a.den < x / 2 * (a.den * b.den) := by
      rw [Rat.div_lt_iff hD, ← Rat.intCast_mul, Rat.intCast_lt_intCast]
    have e2 : ((a.num * b.den - b.num * a.den : Int) : Rat) / ((a.den * b.den : Int) : Rat) ≤ ((x / 2 : Int) : Rat) ↔ a.num * b.den - b.num * a.den ≤ x / 2 * (a.den * b.den) := by
      rw [← Rat.not_lt, Rat.lt_div_iff hD, ← Rat.intCast_mul, Rat.intCast_lt_intCast]; omega
    have hno : ¬ x = NO := h
    unfold kept
    simp only [Bool.or_eq_true, Bool.and_eq_true, decide_eq_true_eq, Bool.not_eq_true']
    rw [s1, s2]
    cases hs : Bd.st x
    · simp only [Bool.false_eq_true, if_false, hno, false_or, and_true]
      rw [e2]; omega
    · simp only [if_true, hno, false_or]
      rw [e1]
      simp
end Fr
end Go.Proofs.Ythajkhbeehiepaa
