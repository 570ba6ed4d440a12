/-
  Plain laws of clocks that come and go: a matrix without a clock is closed again, and of two clocks that go it turns nothing which goes first. No program is in sight.
-/
import Derived.Test.YtnhfkodjphplfaaPlainClose
import Derived.Test.YtnhfkodjphplfaaDrop
import Derived.Test.YtnhfkodjphplfaaSame04
namespace Go.Proofs.Ytnhfkodjphplfaa.Proj
set_option linter.unusedVariables false
open Go.Proofs.Ytnhfkodjphplfaa.Dbm

theorem sk_lt {N k j : Nat} (hj : j < N - 1) : sk k j < N := by unfold sk; split <;> omega
theorem dropL_len (N k : Nat) (C : List Int) : (dropL N k C).length = (N - 1) * (N - 1) := by simp [dropL]
theorem dropL_get {N k : Nat} (C : List Int) {i j : Nat} (hi : i < N - 1) (hj : j < N - 1) : (dropL N k C)[i * (N - 1) + j]?.getD 0 = C[sk k i * N + sk k j]?.getD 0 := by
  unfold dropL
  rw [List.getElem?_map, List.getElem?_range (place_lt hi hj)]
  simp only [Option.map_some, Option.getD_some]
  unfold dropAt
  rw [place_div hj, place_mod hj]
theorem clo_drop {N k : Nat} {C : List Int} (h : Clo N C) : Clo (N - 1) (dropL N k C) := by
  have hm : ∀ i j, i < N - 1 → j < N - 1 → mx (N - 1) (dropL N k C) i j = mx N C (sk k i) (sk k j) := fun i j hi hj => by
    unfold mx; rw [dropL_get C hi hj]
  refine ⟨dropL_len _ _ _, fun i hi => ?_, fun i j a hi hj ha => ?_, fun i j hi hj => ?_⟩
  · rw [dropL_get C hi hi]; exact h.diag _ (sk_lt hi)
  · rw [hm i j hi hj, hm i a hi ha, hm a j ha hj]
    exact h.tri _ _ _ (sk_lt hi) (sk_lt hj) (sk_lt ha)
  · rw [dropL_get C hi hj]; exact h.lim _ _ (sk_lt hi) (sk_lt hj)
theorem ext_get {A B : List Int} {n : Nat} (ha : A.length = n) (hb : B.length = n) (h : ∀ q, q < n → A[q]?.getD 0 = B[q]?.getD 0) : A = B := by
  apply List.ext_getElem?
  intro q
  rcases Nat.lt_or_ge q n with hq | hq
  · have := h q hq
    rw [List.getElem?_eq_getElem (by omega), List.getElem?_eq_getElem (by omega)] at this ⊢
    exact congrArg some this
  · rw [List.getElem?_eq_none (by omega), List.getElem?_eq_none (by omega)]
theorem sk_sk {j k i : Nat} (hjk : j < k) : sk j (sk (k - 1) i) = sk k (sk j i) := by
  unfold sk
  by_cases h1 : i < k - 1 <;> by_cases h2 : i < j <;> simp only [h1, h2, if_true, if_false] <;> (repeat' split) <;> omega
theorem dropL_dropL {N j k : Nat} (C : List Int) (hjk : j < k) : dropL (N - 1) (k - 1) (dropL N j C) = dropL (N - 1) j (dropL N k C) := by
  refine ext_get (dropL_len _ _ _) (dropL_len _ _ _) fun q hq => ?_
  have h1 := div_lt hq
  have h2 := mod_lt hq
  rw [← div_mod (p := q) (N := N - 1 - 1)]
  rw [dropL_get _ h1 h2, dropL_get _ h1 h2, dropL_get _ (sk_lt h1) (sk_lt h2), dropL_get _ (sk_lt h1) (sk_lt h2), sk_sk hjk, sk_sk hjk]

/-- a clock goes, where one may. -/
theorem drop_ok {n : Int} {L : List Int} {k : Int} (h : (drop n L k).2.2 = 0) : chk n L = 0 ∧ 1 ≤ k ∧ k < n ∧ ∃ C, closeL n.toNat L = some C ∧ drop n L k = (n - 1, dropL n.toNat k.toNat C, 0) := by
  unfold drop at h ⊢
  split at h
  · rename_i h0
    split at h
    · cases h
    · rename_i h1
      split at h
      · rename_i C hC
        refine ⟨h0, by omega, by omega, C, hC, ?_⟩
        rw [if_pos h0, if_neg h1]
      · cases h
  · cases h
theorem drop_closed {N K : Nat} {A : List Int} (h0 : chk N A = 0) (hA : Clo N A) (h1 : 1 ≤ K) (h2 : K < N) : drop N A K = ((N : Int) - 1, dropL N K A, 0) := by
  unfold drop
  rw [if_pos h0, if_neg (by omega), Int.toNat_natCast, Int.toNat_natCast, hA.close]
/-- of two clocks that go it turns nothing which goes first. -/
theorem two {n : Int} {L : List Int} {j k : Int} (hjk : j < k) (ha : (drop n L j).2.2 = 0) (hb : (drop n L k).2.2 = 0) (ca : chk (drop n L j).1 (drop n L j).2.1 = 0) (cb : chk (drop n L k).1 (drop n L k).2.1 = 0) :
    drop (drop n L j).1 (drop n L j).2.1 (k - 1) = drop (drop n L k).1 (drop n L k).2.1 j := by
  obtain ⟨h0, j1, j2, C, hC, ea⟩ := drop_ok ha
  obtain ⟨_, k1, k2, C', hC', eb⟩ := drop_ok hb
  rw [hC] at hC'; injection hC' with hC'; subst hC'
  obtain ⟨N, rfl⟩ : ∃ N : Nat, n = N := ⟨n.toNat, by omega⟩
  obtain ⟨J, rfl⟩ : ∃ J : Nat, j = J := ⟨j.toNat, by omega⟩
  obtain ⟨K, rfl⟩ : ∃ K : Nat, k = K := ⟨k.toNat, by omega⟩
  rw [Int.toNat_natCast] at hC
  have hclo := close_clo h0 hC
  rw [ea] at ca ⊢
  rw [eb] at cb ⊢
  simp only [Int.toNat_natCast] at ca cb ⊢
  have en : (N : Int) - 1 = ((N - 1 : Nat) : Int) := by omega
  have ek : (K : Int) - 1 = ((K - 1 : Nat) : Int) := by omega
  rw [en] at ca cb ⊢
  rw [ek, drop_closed ca (clo_drop hclo) (by omega) (by omega), drop_closed cb (clo_drop hclo) (by omega) (by omega), dropL_dropL C (by omega)]
end Go.Proofs.Ytnhfkodjphplfaa.Proj
