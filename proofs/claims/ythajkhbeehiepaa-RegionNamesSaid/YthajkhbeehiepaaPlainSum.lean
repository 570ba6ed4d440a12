/-
  Plain laws of fractions: products in two words, sums in lowest terms. No program is in sight.
-/
import Derived.Test.YthajkhbeehiepaaRatE
namespace Go.Proofs.Ythajkhbeehiepaa
set_option linter.unusedVariables false
namespace Fr

/-- a number by another one, in lowest terms, as far as it may be. -/
def low (n d : Int) : Rt × Int := if okB (n / Int.gcd n d) (d / Int.gcd n d) = true then (⟨n / Int.gcd n d, d / Int.gcd n d⟩, 0) else (⟨0, 0⟩, 10)
def of (n d : Int) : Rt × Int := if d < 1 then (⟨0, 0⟩, 30) else low n d
def inI (z : Int) : Bool := decide (-9223372036854775808 ≤ z) && decide (z ≤ 9223372036854775807)
/-- the numerator, and what it is divided by, of a sum by k. -/
def tn (a b : Rt) : Int := a.num * b.den + b.num * a.den
def dn (a b : Rt) (k : Int) : Int := a.den * b.den * k
def sum (a b : Rt) (k : Int) : Rt × Int :=
  if okB (tn a b / Int.gcd (tn a b) (dn a b k)) (dn a b k / Int.gcd (tn a b) (dn a b k)) = true ∧ inI (tn a b / Int.gcd (tn a b) (dn a b k)) = true
  then (⟨tn a b / Int.gcd (tn a b) (dn a b k), dn a b k / Int.gcd (tn a b) (dn a b k)⟩, 0) else (⟨0, 0⟩, 10)
def add (a b : Rt) : Rt × Int := if a.ok = true ∧ b.ok = true then sum a b 1 else (⟨0, 0⟩, 8)
def mid (a b : Rt) : Rt × Int := if a.ok = true ∧ b.ok = true then sum a b 2 else (⟨0, 0⟩, 8)
def cmpR (a b : Rt) : Int := cmpI (a.num * b.den) (b.num * a.den)
def cmp (a b : Rt) : Int × Int := if a.ok = true ∧ b.ok = true then (cmpR a b, 0) else (0, 8)
def floor (a : Rt) : Int × Bool × Int := if a.ok = true then (a.num / a.den, decide (a.num % a.den = 0), 0) else (0, false, 8)

-- the code's own steps
def sWhole (a b : Rt) : Int := a.num / a.den + b.num / b.den
def sRest (a b : Rt) : Int := a.num % a.den * b.den + b.num % b.den * a.den
def sDen (a b : Rt) : Int := a.den * b.den
def sRest2 (a b : Rt) (k : Int) : Int := sRest a b + sWhole a b % k * sDen a b
def sPart (a b : Rt) (k : Int) : Int := sRest2 a b k % (sDen a b * k)
def sW (a b : Rt) (k : Int) : Int := sWhole a b / k + sRest2 a b k / (sDen a b * k)

theorem mul_bd {u v m n : Int} (h0 : 0 ≤ u) (h1 : u ≤ m) (h2 : 0 ≤ v) (h3 : v ≤ n) : 0 ≤ u * v ∧ u * v ≤ m * n :=
  ⟨Int.mul_nonneg h0 h2, Int.mul_le_mul h1 h3 h2 (Int.le_trans h0 h1)⟩
theorem ok_bd {a : Rt} (h : a.ok = true) : 1 ≤ a.den ∧ a.den ≤ 1048576 ∧ -2305843009213693952 ≤ a.num / a.den ∧ a.num / a.den ≤ 2305843009213693952 ∧ 0 ≤ a.num % a.den ∧ a.num % a.den < a.den := by
  have h1 := ok_den h
  have h2 := in_iff.1 (ok_in h)
  have h3 := Int.emod_nonneg a.num (b := a.den) (by omega)
  have h4 := Int.emod_lt_of_pos a.num (b := a.den) (by omega)
  omega
theorem sum_split {a b : Rt} {k : Int} (ha : a.ok = true) (hb : b.ok = true) (hk : k = 1 ∨ k = 2) : tn a b = sW a b k * (sDen a b * k) + sPart a b k := by
  have e1 : a.num = a.den * (a.num / a.den) + a.num % a.den := (Int.mul_ediv_add_emod a.num a.den).symm
  have e2 : b.num = b.den * (b.num / b.den) + b.num % b.den := (Int.mul_ediv_add_emod b.num b.den).symm
  have e3 : sWhole a b = k * (sWhole a b / k) + sWhole a b % k := (Int.mul_ediv_add_emod _ k).symm
  have e4 : sRest2 a b k = sDen a b * k * (sRest2 a b k / (sDen a b * k)) + sPart a b k := (Int.mul_ediv_add_emod _ _).symm
  unfold tn sW
  unfold sRest2 at e4
  unfold sRest2
  unfold sRest at e4 ⊢
  unfold sDen at e4 ⊢
  unfold sWhole at e3 e4 ⊢
  generalize a.num / a.den = x at *
  generalize b.num / b.den = y at *
  generalize a.num % a.den = r at *
  generalize b.num % b.den = s at *
  generalize (x + y) / k = q at *
  generalize (x + y) % k = t at *
  generalize (r * b.den + s * a.den + t * (a.den * b.den)) / (a.den * b.den * k) = m at *
  generalize sPart a b k = p at *
  rw [e1, e2]
  grind
theorem dn_pos {a b : Rt} {k : Int} (ha : a.ok = true) (hb : b.ok = true) (hk : k = 1 ∨ k = 2) : 1 ≤ sDen a b ∧ sDen a b ≤ 1099511627776 ∧ 1 ≤ sDen a b * k ∧ sDen a b * k ≤ 2199023255552 := by
  have h1 := ok_bd ha
  have h2 := ok_bd hb
  have h3 := mul_bd (u := a.den) (v := b.den) (m := 1048576) (n := 1048576) (by omega) (by omega) (by omega) (by omega)
  have h4 : 1 ≤ a.den * b.den := by
    have := Int.mul_le_mul (a := 1) (b := 1) h1.1 h2.1 (by omega) (by omega)
    omega
  unfold sDen
  generalize a.den * b.den = D at *
  rcases hk with rfl | rfl <;> omega
theorem sum_bd {a b : Rt} {k : Int} (ha : a.ok = true) (hb : b.ok = true) (hk : k = 1 ∨ k = 2) :
    (-4611686018427387904 ≤ sWhole a b ∧ sWhole a b ≤ 4611686018427387904) ∧ (0 ≤ a.num % a.den * b.den ∧ a.num % a.den * b.den ≤ 1099511627776) ∧ (0 ≤ b.num % b.den * a.den ∧ b.num % b.den * a.den ≤ 1099511627776) ∧ (0 ≤ sWhole a b % k * sDen a b ∧ sWhole a b % k * sDen a b ≤ 1099511627776) ∧
    (0 ≤ sRest2 a b k ∧ sRest2 a b k ≤ 3298534883328) ∧ (0 ≤ sPart a b k ∧ sPart a b k < sDen a b * k) ∧ (0 ≤ sRest2 a b k / (sDen a b * k) ∧ sRest2 a b k / (sDen a b * k) ≤ 3298534883328) ∧ (-4611686018427387904 ≤ sWhole a b / k ∧ sWhole a b / k ≤ 4611686018427387904) := by
  have h1 := ok_bd ha
  have h2 := ok_bd hb
  have h3 := dn_pos ha hb hk
  have m1 := mul_bd (u := a.num % a.den) (v := b.den) (m := 1048576) (n := 1048576) (by omega) (by omega) (by omega) (by omega)
  have m2 := mul_bd (u := b.num % b.den) (v := a.den) (m := 1048576) (n := 1048576) (by omega) (by omega) (by omega) (by omega)
  have hw : -4611686018427387904 ≤ sWhole a b ∧ sWhole a b ≤ 4611686018427387904 := by unfold sWhole; omega
  have hl : 0 ≤ sWhole a b % k ∧ sWhole a b % k ≤ 1 := by rcases hk with rfl | rfl <;> omega
  have m3 := mul_bd (u := sWhole a b % k) (v := sDen a b) (m := 1) (n := 1099511627776) hl.1 hl.2 (by omega) (by omega)
  have hr2 : 0 ≤ sRest2 a b k ∧ sRest2 a b k ≤ 3298534883328 := by unfold sRest2 sRest; omega
  have hp : 0 ≤ sPart a b k ∧ sPart a b k < sDen a b * k := ⟨Int.emod_nonneg _ (by omega), Int.emod_lt_of_pos _ (by omega)⟩
  have hn : 0 ≤ sRest2 a b k / (sDen a b * k) ∧ sRest2 a b k / (sDen a b * k) ≤ 3298534883328 := ⟨Int.ediv_nonneg (by omega) (by omega), Int.le_trans (Int.ediv_le_self _ (by omega)) (by omega)⟩
  have hq : -4611686018427387904 ≤ sWhole a b / k ∧ sWhole a b / k ≤ 4611686018427387904 := by rcases hk with rfl | rfl <;> omega
  exact ⟨hw, by omega, by omega, by omega, hr2, hp, hn, hq⟩

/-- lowest terms, part by part. -/
theorem red {T W D p : Int} (hD : 1 ≤ D) (hp : 0 ≤ p ∧ p < D) (e : T = W * D + p) :
    1 ≤ (Int.gcd p D : Int) ∧ Int.gcd T D = Int.gcd p D ∧ T / Int.gcd p D = W * (D / Int.gcd p D) + p / Int.gcd p D ∧ (0 ≤ p / Int.gcd p D ∧ p / Int.gcd p D < D / Int.gcd p D) ∧ 1 ≤ D / Int.gcd p D ∧ D / Int.gcd p D ≤ D := by
  have hg : 1 ≤ (Int.gcd p D : Int) := by
    have : 0 < Int.gcd p D := Int.gcd_pos_of_ne_zero_right _ (by omega)
    omega
  have d1 : (Int.gcd p D : Int) ∣ p := Int.gcd_dvd_left ..
  have d2 : (Int.gcd p D : Int) ∣ D := Int.gcd_dvd_right ..
  have hgT : Int.gcd T D = Int.gcd p D := by rw [e, Int.add_comm, Int.gcd_add_mul_right_left]
  generalize (Int.gcd p D : Int) = g at *
  obtain ⟨u, hu⟩ := d1
  obtain ⟨v, hv⟩ := d2
  have e1 : p / g = u := by rw [hu]; exact Int.mul_ediv_cancel_left _ (by omega)
  have e2 : D / g = v := by rw [hv]; exact Int.mul_ediv_cancel_left _ (by omega)
  have e3 : T / g = W * v + u := by
    rw [e, hu, hv, show W * (g * v) + g * u = g * (W * v + u) by grind]
    exact Int.mul_ediv_cancel_left _ (by omega)
  rw [e1, e2, e3]
  refine ⟨hg, hgT, rfl, ⟨?_, ?_⟩, ?_, ?_⟩
  · rw [← e1]; exact Int.ediv_nonneg hp.1 (by omega)
  · refine Int.lt_of_mul_lt_mul_left (a := g) ?_ (by omega)
    rw [← hu, ← hv]; exact hp.2
  · rw [← e2]
    have := Int.ediv_pos_of_pos_of_dvd (a := D) (b := g) (by omega) (by omega) ⟨v, hv⟩
    omega
  · rw [← e2]; exact Int.ediv_le_self _ (by omega)

/-- what the code comes to, from its parts: W whole, p of d more. -/
def finish (W p d : Int) : Rt × Int :=
  if 1048576 < d then (⟨0, 0⟩, 10)
  else if Num.chk W ≠ 0 then (⟨0, 0⟩, 10)
  else if inI (W * d + p) = true then low (W * d + p) d else (⟨0, 0⟩, 10)
theorem finish_sum {a b : Rt} {k : Int} (ha : a.ok = true) (hb : b.ok = true) (hk : k = 1 ∨ k = 2) :
    finish (sW a b k) (sPart a b k / Int.gcd (sPart a b k) (sDen a b * k)) (sDen a b * k / Int.gcd (sPart a b k) (sDen a b * k)) = sum a b k := by
  have hd := dn_pos ha hb hk
  have hbd := sum_bd ha hb hk
  obtain ⟨hg, hgT, eT, hp, hd1, hd2⟩ := red (T := tn a b) (W := sW a b k) (D := sDen a b * k) (p := sPart a b k) (by omega) (by omega) (sum_split ha hb hk)
  have hdn : dn a b k = sDen a b * k := rfl
  unfold sum
  rw [hdn, hgT, eT]
  have hcop : Int.gcd (sPart a b k / Int.gcd (sPart a b k) (sDen a b * k)) (sDen a b * k / Int.gcd (sPart a b k) (sDen a b * k)) = 1 := by
    have := Int.gcd_ediv_gcd_ediv_gcd (i := sPart a b k) (j := sDen a b * k) (by omega)
    exact this
  generalize sPart a b k / Int.gcd (sPart a b k) (sDen a b * k) = p at *
  generalize sDen a b * k / Int.gcd (sPart a b k) (sDen a b * k) = d at *
  generalize sW a b k = W at *
  have hq : (W * d + p) / d = W := by
    rw [Int.add_comm, Int.add_mul_ediv_right _ _ (by omega), Int.ediv_eq_zero_of_lt hp.1 hp.2]; omega
  have hg1 : Int.gcd (W * d + p) d = 1 := by rw [Int.add_comm, Int.gcd_add_mul_right_left]; exact hcop
  unfold finish
  by_cases h1 : 1048576 < d
  · rw [if_pos h1, if_neg]
    rintro ⟨h, _⟩
    have := ok_den h; omega
  rw [if_neg h1]
  by_cases h2 : Num.chk W ≠ 0
  · rw [if_pos h2, if_neg]
    rintro ⟨h, _⟩
    have := in_iff.1 (ok_in h)
    rw [hq] at this
    apply h2
    apply Num.chk_yes
    simp only [Num.okB, Bool.and_eq_true, decide_eq_true_eq]
    omega
  rw [if_neg h2]
  by_cases h3 : inI (W * d + p) = true
  · rw [if_pos h3]
    unfold low
    rw [hg1]
    simp only [Int.natCast_one, Int.ediv_one, h3, and_true]
  · rw [if_neg h3, if_neg (fun h => h3 h.2)]

/-- the word that a product's lower half is. -/
def il (P : Int) : Int := (P % 18446744073709551616 + 9223372036854775808) % 18446744073709551616 - 9223372036854775808
theorem il_ne {P t : Int} (h : P / 18446744073709551616 ≠ il P / 9223372036854775808) (hs : (0 ≤ P ∧ P ≤ t) ∨ (t ≤ P ∧ P ≤ 0)) : inI t = false := by
  unfold il at h
  unfold inI
  simp only [Bool.and_eq_false_iff, decide_eq_false_iff_not]
  omega
theorem il_eq {P : Int} (h : P / 18446744073709551616 = il P / 9223372036854775808) : il P = P ∧ -9223372036854775808 ≤ P ∧ P ≤ 9223372036854775807 := by
  unfold il at *; omega
end Fr
end Go.Proofs.Ythajkhbeehiepaa
