/-
  Plain laws of numbers that are checked: the sums of the first ones, as a list, and the last of them. No program is in sight.
-/
namespace Go.Proofs.YtdecibfnhceloaaGreat.Num
set_option linter.unusedVariables false

/-- may a number be? -/
def okB (a : Int) : Bool := decide (-2305843009213693952 ≤ a) && decide (a ≤ 2305843009213693952)
theorem okB_iff {a : Int} : okB a = true ↔ -2305843009213693952 ≤ a ∧ a ≤ 2305843009213693952 := by
  simp [okB]
theorem okB_no {a : Int} : okB a = false ↔ (a < -2305843009213693952 ∨ 2305843009213693952 < a) := by
  have h := @okB_iff a
  cases h2 : okB a
  · simp [h2] at h; simp; omega
  · simp [h2] at h; simp; omega

/-- Check's error. -/
def chk (a : Int) : Int := if okB a then 0 else 10
theorem chk_yes {a : Int} (h : okB a = true) : chk a = 0 := by simp [chk, h]
theorem chk_no {a : Int} (h : okB a = false) : chk a = 10 := by simp [chk, h]

/-- what is yielded, from a sum on. -/
def outs (s : Int) : List Int → List (Int × Int)
  | [] => []
  | a :: l => if okB a && okB (s + a) then (s + a, 0) :: outs (s + a) l else [(0, 10)]
theorem outs_yes {s a : Int} {l : List Int} (h1 : okB a = true) (h2 : okB (s + a) = true) : outs s (a :: l) = (s + a, 0) :: outs (s + a) l := by simp [outs, h1, h2]
theorem outs_no {s a : Int} {l : List Int} (h : okB a = false ∨ okB (s + a) = false) : outs s (a :: l) = [(0, 10)] := by
  rcases h with h | h <;> simp [outs, h]
/-- the sum, and the error, from a sum on. -/
def sumFrom (s : Int) : List Int → Int × Int
  | [] => (s, 0)
  | a :: l => if okB a && okB (s + a) then sumFrom (s + a) l else (0, 10)

theorem last_outs (s : Int) (l : List Int) (d : Int × Int) (h : l = [] → d = (s, 0)) : (outs s l).getLast?.getD d = sumFrom s l := by
  induction l generalizing s d with
  | nil => simp [outs, sumFrom, h rfl]
  | cons a l ih =>
    simp only [outs, sumFrom]
    by_cases c : (okB a && okB (s + a)) = true
    · rw [if_pos c, if_pos c]
      rw [List.getLast?_cons]
      simp only [Option.getD_some]
      exact ih _ _ (fun _ => rfl)
    · rw [if_neg c, if_neg c]; rfl

theorem sumFrom_err (s : Int) (l : List Int) : (sumFrom s l).2 = 0 ∨ sumFrom s l = (0, 10) := by
  induction l generalizing s with
  | nil => simp [sumFrom]
  | cons a l ih =>
    simp only [sumFrom]
    by_cases c : (okB a && okB (s + a)) = true
    · rw [if_pos c]; exact ih _
    · rw [if_neg c]; simp

theorem sumFrom_ok (s : Int) (l : List Int) (hs : okB s = true) : okB (sumFrom s l).1 = true := by
  induction l generalizing s with
  | nil => simpa [sumFrom] using hs
  | cons a l ih =>
    simp only [sumFrom]
    by_cases c : (okB a && okB (s + a)) = true
    · rw [if_pos c]; simp at c; exact ih _ c.2
    · rw [if_neg c]; rfl

theorem sumFrom_append (s : Int) (l m : List Int) : sumFrom s (l ++ m) = if (sumFrom s l).2 = 0 then sumFrom (sumFrom s l).1 m else (0, 10) := by
  induction l generalizing s with
  | nil => simp [sumFrom]
  | cons a l ih =>
    by_cases c : (okB a && okB (s + a)) = true
    · simp only [List.cons_append, sumFrom, c, if_true, ih]
    · simp [sumFrom, c]

/-- Add: the sum, and the error. -/
def add (a b : Int) : Int × Int := if okB a && okB b && okB (a + b) then (a + b, 0) else (0, 10)
theorem add_yes {a b : Int} (h1 : okB a = true) (h2 : okB b = true) (h3 : okB (a + b) = true) : add a b = (a + b, 0) := by simp [add, h1, h2, h3]
theorem add_no {a b : Int} (h : okB a = false ∨ okB b = false ∨ okB (a + b) = false) : add a b = (0, 10) := by
  rcases h with h | h | h <;> simp [add, h]
theorem add_of_sum {a b : Int} (h : okB a = true) : sumFrom 0 [a, b] = add a b := by
  cases h1 : okB b <;> cases h2 : okB (a + b) <;> simp [sumFrom, add, h, h1, h2]
theorem okB_neg (a : Int) : okB (-a) = okB a := by
  have h1 := @okB_iff a
  have h2 := @okB_iff (-a)
  cases c1 : okB a <;> cases c2 : okB (-a) <;> simp_all <;> omega
/-- Sub: the difference, and the error. -/
def sub (a b : Int) : Int × Int := if okB b then add a (-b) else (0, 10)
theorem sub_yes {a b : Int} (h1 : okB a = true) (h2 : okB b = true) (h3 : okB (a - b) = true) : sub a b = (a - b, 0) := by
  rw [sub, if_pos h2, add_yes h1 (by rw [okB_neg]; exact h2) (by rw [← Int.sub_eq_add_neg]; exact h3), Int.sub_eq_add_neg]
theorem sub_no {a b : Int} (h : okB a = false ∨ okB b = false ∨ okB (a - b) = false) : sub a b = (0, 10) := by
  cases h2 : okB b with
  | false => simp [sub, h2]
  | true =>
    rw [sub, if_pos h2]
    refine add_no ?_
    rcases h with h | h | h
    · exact .inl h
    · rw [h] at h2; cases h2
    · exact .inr (.inr (by rw [← Int.sub_eq_add_neg]; exact h))
/-- Neg: the other way round, and the error. -/
def neg (a : Int) : Int × Int := if okB a then (-a, 0) else (0, 10)
theorem neg_yes {a : Int} (h : okB a = true) : neg a = (-a, 0) := by simp [neg, h]
theorem neg_no {a : Int} (h : okB a = false) : neg a = (0, 10) := by simp [neg, h]
/-- Clamp. -/
def clamp (a : Int) : Int := if a < -2305843009213693952 then -2305843009213693952 else if 2305843009213693952 < a then 2305843009213693952 else a

theorem sub_back {a b : Int} (ha : okB a = true) (hb : okB b = true) (hc : okB (a + b) = true) : sub (a + b) b = (a, 0) := by
  rw [sub_yes hc hb (by rw [Int.add_sub_cancel]; exact ha), Int.add_sub_cancel]
theorem sumFrom_one (s a : Int) (h : okB s = true) : sumFrom s [a] = add s a := by
  cases h1 : okB a <;> cases h2 : okB (s + a) <;> simp [sumFrom, add, h, h1, h2]
theorem parts (l : List Int) (a : Int) : sumFrom 0 (l ++ [a]) = if (sumFrom 0 l).2 = 0 then add (sumFrom 0 l).1 a else (0, 10) := by
  rw [sumFrom_append, sumFrom_one _ _ (sumFrom_ok 0 l rfl)]
theorem okB_clamp (a : Int) : okB (clamp a) = true := by
  rw [okB_iff, clamp]; split <;> (try split) <;> omega
theorem clamp_mono {a b : Int} (h : a ≤ b) : clamp a ≤ clamp b := by
  unfold clamp; split <;> split <;> (try split) <;> (try split) <;> omega
theorem clamp_same (a : Int) : ((clamp a == a) == (chk a == 0)) = true := by
  cases h : okB a with
  | true =>
    have h2 := okB_iff.1 h
    have : clamp a = a := by rw [clamp, if_neg (by omega), if_neg (by omega)]
    rw [this, chk_yes h]; simp
  | false =>
    have h2 := okB_no.1 h
    have : clamp a ≠ a := by unfold clamp; split <;> (try split) <;> omega
    rw [chk_no h]; simp [this]

end Go.Proofs.YtdecibfnhceloaaGreat.Num
