/-
  Plain laws of what is picked: a time of each clock, by those ahead of it. No program is in sight.
-/
import Derived.Test.YthajkhbeehiepaaPlainSum
import Derived.Test.YthajkhbeehiepaaPlainClose
namespace Go.Proofs.Ythajkhbeehiepaa
set_option linter.unusedVariables false

namespace Fr
theorem ins_zero : (⟨0, 0⟩ : Rt).ins := by simp [Rt.ins, Eng.inK]
theorem ins_nought : (⟨0, 1⟩ : Rt).ins := by simp [Rt.ins, Eng.inK]
theorem ok_nought : (⟨0, 1⟩ : Rt).ok = true := by decide
theorem ins_den {d : Int} (h : 1 ≤ d ∧ d ≤ 1048576) : Eng.inK .i64 d := by simp only [Eng.inK]; omega
theorem low_ins {n d : Int} (hn : Eng.inK .i64 n) (hd : 1 ≤ d) : (low n d).1.ins := by
  unfold low
  split
  · rename_i h
    have hg : 1 ≤ (Int.gcd n d : Int) := by
      have : 0 < Int.gcd n d := Int.gcd_pos_of_ne_zero_right _ (by omega)
      omega
    exact ⟨ediv_in hg hn, ins_den (ok_den h)⟩
  · exact ins_zero
theorem of_ins {n d : Int} (hn : Eng.inK .i64 n) : (of n d).1.ins := by
  unfold of
  split
  · exact ins_zero
  · exact low_ins hn (by omega)
theorem sum_ins {a b : Rt} {k : Int} : (sum a b k).1.ins := by
  unfold sum
  split
  · rename_i h
    refine ⟨?_, ins_den (ok_den h.1)⟩
    have := h.2
    simp only [inI, Bool.and_eq_true, decide_eq_true_eq] at this
    simp only [Eng.inK]; exact this
  · exact ins_zero
theorem add_ins {a b : Rt} : (add a b).1.ins := by
  unfold add
  split
  · exact sum_ins
  · exact ins_zero
theorem mid_ins {a b : Rt} : (mid a b).1.ins := by
  unfold mid
  split
  · exact sum_ins
  · exact ins_zero
theorem cmpI_cases (x y : Int) : cmpI x y = -1 ∨ cmpI x y = 0 ∨ cmpI x y = 1 := by
  unfold cmpI; split
  · exact .inl rfl
  · split
    · exact .inr (.inr rfl)
    · exact .inr (.inl rfl)
theorem cmp_cases (a b : Rt) : (cmp a b).1 = -1 ∨ (cmp a b).1 = 0 ∨ (cmp a b).1 = 1 := by
  unfold cmp
  split
  · exact cmpI_cases _ _
  · exact .inr (.inl rfl)
def shift (a : Rt) (n : Int) : Rt := (add a (of n 1).1).1
end Fr

namespace Incl
/-- an end: whether there is one, where, and whether it is strict. -/
structure End where
  is : Bool
  at_ : Rt
  strict : Bool
def End.none : End := ⟨false, ⟨0, 0⟩, false⟩
def nearer (x : End) (b : Int) (from_ : Rt) (s : Int) : End :=
  if (Bd.value b).2.2 ≠ 0 then x
  else if x.is = false ∨ 0 < (Fr.cmp (Fr.shift from_ (-s * (Bd.value b).1)) x.at_).1 * s then ⟨true, Fr.shift from_ (-s * (Bd.value b).1), (Bd.value b).2.1⟩
  else if (Fr.cmp (Fr.shift from_ (-s * (Bd.value b).1)) x.at_).1 = 0 then ⟨x.is, x.at_, x.strict || (Bd.value b).2.1⟩ else x
theorem nearer_ins {x : End} {b : Int} {r : Rt} {s : Int} (h : x.at_.ins) : (nearer x b r s).at_.ins := by
  unfold nearer
  split
  · exact h
  · split
    · exact Fr.add_ins
    · split
      · exact h
      · exact h
/-- both ends, by the first so many times. -/
def ends (n : Nat) (C : List Int) (so : List Rt) : Nat → End × End
  | 0 => (End.none, End.none)
  | k + 1 => (nearer (ends n C so k).1 (C[k * n + so.length]?.getD 0) (so[k]?.getD ⟨0, 1⟩) 1, nearer (ends n C so k).2 (C[so.length * n + k]?.getD 0) (so[k]?.getD ⟨0, 1⟩) (-1))
theorem ends_ins (n : Nat) (C : List Int) (so : List Rt) (k : Nat) : (ends n C so k).1.at_.ins ∧ (ends n C so k).2.at_.ins := by
  induction k with
  | zero => exact ⟨Fr.ins_zero, Fr.ins_zero⟩
  | succ k ih => exact ⟨nearer_ins ih.1, nearer_ins ih.2⟩
def choose (l h : End) : Rt :=
  if l.is = true ∧ l.strict = false then l.at_ else if h.is = true ∧ h.strict = false then h.at_
  else if l.is = true ∧ h.is = true then (Fr.mid l.at_ h.at_).1 else if l.is = true then Fr.shift l.at_ 1 else if h.is = true then Fr.shift h.at_ (-1) else ⟨0, 1⟩
theorem choose_ins {l h : End} (hl : l.at_.ins) (hh : h.at_.ins) : (choose l h).ins := by
  unfold choose
  repeat' split
  · exact hl
  · exact hh
  · exact Fr.mid_ins
  · exact Fr.add_ins
  · exact Fr.add_ins
  · exact Fr.ins_nought
def pick (n : Nat) (C : List Int) (so : List Rt) : Rt := choose (ends n C so so.length).1 (ends n C so so.length).2
theorem pick_ins (n : Nat) (C : List Int) (so : List Rt) : (pick n C so).ins := choose_ins (ends_ins n C so _).1 (ends_ins n C so _).2
/-- the times so far, after so many clocks. -/
def sofar (n : Nat) (C : List Int) : Nat → List Rt
  | 0 => [⟨0, 1⟩]
  | k + 1 => sofar n C k ++ [pick n C (sofar n C k)]
theorem sofar_len (n : Nat) (C : List Int) (k : Nat) : (sofar n C k).length = k + 1 := by
  induction k with
  | zero => rfl
  | succ k ih => simp [sofar, ih]
theorem sofar_ins (n : Nat) (C : List Int) (k : Nat) : ∀ x ∈ sofar n C k, x.ins := by
  induction k with
  | zero => intro x hx; rw [List.mem_singleton.1 hx]; exact Fr.ins_nought
  | succ k ih =>
    intro x hx
    rcases List.mem_append.1 hx with h | h
    · exact ih x h
    · rw [List.mem_singleton.1 h]; exact pick_ins ..
def picked (n : Nat) (C : List Int) : List Rt := (sofar n C (n - 1)).drop 1
/-- Pick: times, or an error. -/
def picks (n : Int) (L : List Int) : List Rt × Int :=
  if Dbm.chk n L = 0 then (match Dbm.closeL n.toNat L with | none => ([], 6) | some C => (picked n.toNat C, 0)) else ([], 8)
end Incl
end Go.Proofs.Ythajkhbeehiepaa
