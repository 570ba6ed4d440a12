/-
  Merged texts of this seat (each with its own head below).
-/
import Derived.Test.YthajkhbeehiepaaMRegionZones4
/-
  The plain law of RegionZones, all of it.
-/
namespace Go.Proofs.Ythajkhbeehiepaa
set_option linter.unusedVariables false
open Go.RowKit Go.Proofs.Ythajkhbeehiepaa.Eng Enc
namespace Rg
theorem ask_ok {n long : Int} (h : (askPoint n long).2 = 0) : ((1 ≤ long ∧ long ≤ 16) ∧ 0 ≤ n ∧ n < 3 * sides long * sides long) ∧ (askPoint n long).1 = pt n long ∧ number (pt n long) long = n := by
  unfold askPoint at h ⊢
  split at h
  · cases h
  · rename_i hn
    rw [if_neg hn]
    split at h
    · rename_i hp
      rw [if_pos hp]
      exact ⟨ask_in hn, rfl, by simpa [point] using hp⟩
    · cases h
/-- what is known of a region. -/
theorem zone_ok {n long : Int} (h : (askPoint n long).2 = 0) :
    zone n long = (cl3 (n / 3 / sides long) (n / 3 % sides long) (n % 3), 0) ∧ may3 (n / 3 / sides long) (n / 3 % sides long) (n % 3) = true ∧ Zo.chk (cl3 (n / 3 / sides long) (n / 3 % sides long) (n % 3)) = 0 := by
  obtain ⟨⟨hl, h0, h1⟩, hp, hnum⟩ := ask_ok h
  have hs : 3 ≤ sides long ∧ sides long ≤ 33 := by unfold sides; omega
  obtain ⟨c1, c2, c3, c4⟩ := number_back hnum h0 hl
  have a1 : 0 ≤ n / 3 / sides long := Int.ediv_nonneg (by omega) (by omega)
  have a2 : n / 3 / sides long < sides long := by
    refine Int.ediv_lt_of_lt_mul (by omega) ?_
    have : n < 3 * (sides long * sides long) := by rw [← Int.mul_assoc]; exact h1
    omega
  have b1 := Int.emod_nonneg (n / 3) (b := sides long) (by omega)
  have b2 := Int.emod_lt_of_pos (n / 3) (b := sides long) (by omega)
  have hf := fine_at (fine_all (T := n / 3 / sides long) ⟨a1, by omega⟩) (U := n / 3 % sides long) (r := n % 3) ⟨b1, by omega⟩ ⟨by omega, by omega⟩
  have hz : zone n long = zone3 (n / 3 / sides long) (n / 3 % sides long) (n % 3) := by
    unfold zone; rw [if_pos h]; rfl
  have hpt : pt n long = pt3 (n / 3 / sides long) (n / 3 % sides long) (n % 3) := rfl
  rw [hz]
  rw [hpt] at c1 c2 c3 c4
  generalize n / 3 / sides long = T at *
  generalize n / 3 % sides long = U at *
  generalize n % 3 = r at *
  have hg : good3 T U r = true := by
    unfold good3
    simp only [Bool.and_eq_true, decide_eq_true_eq]
    exact ⟨⟨⟨c1, c2⟩, c3⟩, c4⟩
  unfold fine3 at hf
  rw [hg] at hf
  simp only [Bool.not_true, Bool.false_or, Bool.and_eq_true, decide_eq_true_eq] at hf
  exact ⟨zeq_eq hf.1.2, hf.1.1, hf.2⟩
/-- a pair has a number just if it is in the number's zone. -/
theorem zone_has {n long : Int} (h : (askPoint n long).2 = 0) (p : Pt) (hp : (Zo.has (zone n long).1 p).2 = 0) :
    (Zo.has (zone n long).1 p).1 = (decide ((askNumber p long).2 = 0) && decide ((askNumber p long).1 = n)) := by
  obtain ⟨⟨hl, h0, h1⟩, _, hnum⟩ := ask_ok h
  obtain ⟨hz, hm, hk⟩ := zone_ok h
  have hs : 3 ≤ sides long ∧ sides long ≤ 33 := by unfold sides; omega
  rw [hz] at hp ⊢
  simp only at hp ⊢
  have a1 : 0 ≤ n / 3 / sides long := Int.ediv_nonneg (by omega) (by omega)
  have b1 := Int.emod_nonneg (n / 3) (b := sides long) (by omega)
  have b2 := Int.emod_lt_of_pos (n / 3) (b := sides long) (by omega)
  unfold Zo.has at hp ⊢
  split at hp
  · rename_i hc
    rw [if_pos hc]
    obtain ⟨_, ht, hu⟩ := hc
    have hkk := Dbm.keepsK hp
    rw [hkk.2.2.2]
    have hin := in_cl3 hm p ht hu
    have hnn : ((askNumber p long).2 = 0 ∧ (askNumber p long).1 = n) ↔ number p long = n := by
      unfold askNumber
      rw [if_pos (fits_iff.2 hl), if_pos ⟨ht, hu⟩]
      split
      · simp; omega
      · simp
    have hnum2 : number p long = n ↔ ((Fr.cmp p.t p.u).1 < 0 ∧ place p.t = n / 3 / sides long ∧ place p.u = n / 3 % sides long ∧ order p = n % 3) := by
      constructor
      · exact fun e => number_back e h0 hl
      · rintro ⟨e1, e2, e3, e4⟩
        unfold number
        rw [if_neg (by omega), e2, e3, e4]
        have := Int.mul_ediv_add_emod (n / 3) (sides long)
        rw [Int.mul_comm] at this
        omega
    have : (decide ((askNumber p long).2 = 0) && decide ((askNumber p long).1 = n)) = decide (number p long = n) := by
      rw [Bool.eq_iff_iff]; simp only [Bool.and_eq_true, decide_eq_true_eq]; exact hnn
    rw [this, Bool.eq_iff_iff]
    simp only [decide_eq_true_eq]
    rw [hnum2]
    exact hin
  · cases hp
end Rg
theorem zonesLaw (n : Int) (p : Pt) (long : Int) : ZonesLaw n p long where
  ins := Rg.ask_ins n long
  same := by
    by_cases h : (Rg.askPoint n long).2 = 0
    · rw [(Rg.zone_ok h).1, h]
    · unfold Rg.zone; rw [if_neg h]
  own := Rg.ask_own
  has := fun h => by
    obtain ⟨⟨hl, h0, h1⟩, hp, hnum⟩ := Rg.ask_ok h
    obtain ⟨hz, hm, hk⟩ := Rg.zone_ok h
    have hc := (Rg.number_back hnum h0 hl).1
    obtain ⟨o1, o2, _⟩ := Rg.cmp_lt hc
    have hb := (Rg.in_cl3 hm (Rg.pt n long) o1 o2).2 (Rg.number_back hnum h0 hl)
    rw [hz, hp]
    unfold Zo.has
    rw [if_pos ⟨hk, o1, o2⟩]
    unfold Dbm.keeps
    have hcl : Dbm.chk 3 (Zo.matL (Rg.cl3 (n / 3 / Rg.sides long) (n / 3 % Rg.sides long) (n % 3))) = 0 := by
      have hk2 := Zo.chk_eq.1 hk
      rcases Classical.em (Dbm.chk 3 (Zo.matL (Rg.cl3 (n / 3 / Rg.sides long) (n / 3 % Rg.sides long) (n % 3))) = 0) with hh | hh
      · exact hh
      · exfalso
        unfold Dbm.close at hk2
        rw [if_neg hh] at hk2
        simp at hk2
    rw [if_pos ⟨hcl, by simp [o1, o2]⟩, if_pos (by simp)]
    show (Dbm.keptL 3 _ _, 0) = _
    rw [hb]
  any := fun h hp => Rg.zone_has h p hp
end Go.Proofs.Ythajkhbeehiepaa

