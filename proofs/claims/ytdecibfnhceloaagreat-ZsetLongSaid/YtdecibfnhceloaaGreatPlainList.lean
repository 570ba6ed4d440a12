/-
  Plain laws of lists: the first place where something holds, and how many are asked for it.
-/
namespace Go.Proofs.YtdecibfnhceloaaGreat
set_option linter.unusedVariables false

/-- the first place where p holds; or -1. -/
def idxF {α : Type} (p : α → Bool) : List α → Int
  | [] => -1
  | x :: l => if p x then 0 else if idxF p l < 0 then -1 else idxF p l + 1
/-- how many are asked. -/
def cntF {α : Type} (p : α → Bool) : List α → Nat
  | [] => 0
  | x :: l => if p x then 1 else cntF p l + 1
theorem idxF_at {α : Type} (p : α → Bool) : ∀ (l : List α) (k : Nat) (x : α), l[k]? = some x → p x = true → (∀ j y, j < k → l[j]? = some y → p y = false) → idxF p l = k ∧ cntF p l = k + 1
  | [], k, x, h, _, _ => by simp at h
  | y :: l, 0, x, h, hp, _ => by
    injection h with h; subst h
    simp [idxF, cntF, hp]
  | y :: l, k + 1, x, h, hp, hn => by
    have h0 := hn 0 y (by omega) rfl
    obtain ⟨h1, h2⟩ := idxF_at p l k x h hp fun j z hj hz => hn (j + 1) z (by omega) hz
    simp only [idxF, cntF, h0, h1, h2]
    simp; omega
theorem idxF_none {α : Type} (p : α → Bool) : ∀ (l : List α), (∀ (j : Nat) y, l[j]? = some y → p y = false) → idxF p l = -1 ∧ cntF p l = l.length
  | [], _ => by simp [idxF, cntF]
  | y :: l, hn => by
    have h0 := hn 0 y rfl
    obtain ⟨h1, h2⟩ := idxF_none p l fun j z hz => hn (j + 1) z hz
    simp [idxF, cntF, h0, h1, h2]
theorem idxF_iff {α : Type} (p : α → Bool) (l : List α) : 0 ≤ idxF p l ↔ l.any p = true := by
  induction l with
  | nil => simp [idxF]
  | cons x l ih =>
    unfold idxF
    rw [List.any_cons]
    split
    · rename_i h; simp [h]
    · rename_i h
      have h' : p x = false := by simpa using h
      rw [h', Bool.false_or, ← ih]
      split <;> constructor <;> intro <;> omega
theorem idxF_any {α : Type} (p : α → Bool) (l : List α) : decide (0 ≤ idxF p l) = l.any p := by
  rw [Bool.eq_iff_iff, decide_eq_true_iff]; exact idxF_iff p l
end Go.Proofs.YtdecibfnhceloaaGreat
