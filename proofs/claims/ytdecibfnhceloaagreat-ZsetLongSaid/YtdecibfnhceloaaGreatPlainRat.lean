/-
  Fractions in plain words (no program here).
-/
namespace Go.Proofs.YtdecibfnhceloaaGreat
set_option linter.unusedVariables false

namespace Fr
/-- may a fraction be? -/
def inB (n d : Int) : Bool := decide (-2305843009213693952 ≤ n / d) && (decide (n / d < 2305843009213693952) || (decide (n / d = 2305843009213693952) && decide (n % d = 0)))
def okB (n d : Int) : Bool := decide (1 ≤ d) && decide (d ≤ 1048576) && inB n d && decide (Nat.gcd n.natAbs d.natAbs = 1)
def chk (n d : Int) : Int := if okB n d = true then 0 else 8
theorem chk_yes {n d : Int} (h : okB n d = true) : chk n d = 0 := if_pos h
theorem chk_no {n d : Int} (h : okB n d = false) : chk n d = 8 := if_neg (by simp [h])
theorem chk_eq {n d : Int} : chk n d = 0 ↔ okB n d = true := by unfold chk; split <;> simp_all
theorem ok_den {n d : Int} (h : okB n d = true) : 1 ≤ d ∧ d ≤ 1048576 := by simp [okB] at h; exact h.1.1
theorem ok_in {n d : Int} (h : okB n d = true) : inB n d = true := by simp [okB] at h; exact h.1.2
theorem in_iff {n d : Int} : inB n d = true ↔ -2305843009213693952 ≤ n / d ∧ (n / d < 2305843009213693952 ∨ (n / d = 2305843009213693952 ∧ n % d = 0)) := by simp [inB]

/-- the quotient rounded down, and what is left over, out of Go's. -/
theorem floor_eq {n d : Int} (hd : 1 ≤ d) : (n.tmod d < 0 → n.tdiv d - 1 = n / d ∧ n.tmod d + d = n % d) ∧ (¬ n.tmod d < 0 → n.tdiv d = n / d ∧ n.tmod d = n % d) := by
  have e := Int.mul_tdiv_add_tmod n d
  have h2 := Int.emod_add_mul_ediv n d
  have h3 := Int.emod_nonneg n (by omega : d ≠ 0)
  have h4 := Int.emod_lt_of_pos n (by omega : 0 < d)
  have h5 : n.tmod d < d := Int.tmod_lt_of_pos _ (by omega)
  have h6 : -d < n.tmod d := Int.lt_tmod_of_pos n (by omega : 0 < d)
  have key : ∀ q r : Int, d * q + r = n → 0 ≤ r → r < d → q = n / d ∧ r = n % d := by
    intro q r e1 e2 e3
    have : n / d = q := by
      rw [← e1, Int.mul_add_ediv_left _ _ (by omega), Int.ediv_eq_zero_of_lt e2 e3]; omega
    refine ⟨this.symm, ?_⟩
    have := h2
    rw [‹n / d = q›] at this
    omega
  constructor
  · intro h
    exact key _ _ (by rw [Int.mul_sub]; omega) (by omega) (by omega)
  · intro h
    exact key _ _ e (by omega) h5
end Fr
end Go.Proofs.YtdecibfnhceloaaGreat
