/-
  Merged texts of this seat (each with its own head below).
-/
import Derived.Test.YtodpgcdandechaaGreatB3
import Derived.Test.YtodpgcdandechaaGreatB4
import Derived.Test.YtodpgcdandechaaGreatB1
import Derived.Deep.QuietTactic
import Derived.BigQuiet
import Derived.Sort.Grow
/-
  What a matrix means: the times that keep it; closing turns none of them. No program is in sight.
-/
namespace Go.Proofs.YtodpgcdandechaaGreat.Dbm
set_option linter.unusedVariables false
set_option linter.unusedSimpArgs false
open Go.Proofs.YtodpgcdandechaaGreat.Fr

def satO (d : Rat) : OB → Prop
  | none => True
  | some v => if Bd.st v = true then d < ((v / 2 : Int) : Rat) else d ≤ ((v / 2 : Int) : Rat)
theorem sat_iff (d : Rat) (b : Int) : sat d b ↔ satO d (ob b) := by
  unfold sat ob
  by_cases h : b = NO
  · rw [if_pos h]; exact ⟨fun _ => trivial, fun _ => .inl h⟩
  · rw [if_neg h]
    exact ⟨fun k => k.resolve_left h, fun k => .inr k⟩
theorem st_iff (v : Int) : Bd.st v = true ↔ v % 2 = 0 := by simp [Bd.st]
theorem satO_add {d e : Rat} {a b : OB} (h : satO d a) (k : satO e b) : satO (d + e) (oadd a b) := by
  cases a with
  | none => trivial
  | some u =>
    cases b with
    | none => trivial
    | some v =>
      simp only [satO, oadd] at h k ⊢
      rw [bsum_half]
      have hp : Bd.st (bsum u v) = true ↔ (Bd.st u = true ∨ Bd.st v = true) := by
        rw [st_iff, st_iff, st_iff]
        unfold bsum
        rcases parity u with h1 | h1 <;> rcases parity v with h2 | h2 <;> rw [h1, h2] <;> constructor <;> intro h <;> omega
      rw [Rat.intCast_add]
      generalize ((u / 2 : Int) : Rat) = x at *
      generalize ((v / 2 : Int) : Rat) = y at *
      cases hu : Bd.st u <;> cases hv : Bd.st v <;> simp only [hu, hv, Bool.false_eq_true, if_true, if_false, or_self, or_true, true_or, or_false, false_or] at h k hp ⊢
      · rw [if_neg (by rw [hp]; simp)]; grind
      · rw [if_pos (by rw [hp]; trivial)]; grind
      · rw [if_pos (by rw [hp]; trivial)]; grind
      · rw [if_pos (by rw [hp]; trivial)]; grind
theorem satO_mono {d : Rat} {a b : OB} (h : ole a b) (k : satO d a) : satO d b := by
  cases b with
  | none => trivial
  | some v =>
    cases a with
    | none => exact h.elim
    | some u =>
      have huv : u ≤ v := h
      simp only [satO] at k ⊢
      have h1 : u / 2 ≤ v / 2 := by omega
      have h2 : ((u / 2 : Int) : Rat) ≤ ((v / 2 : Int) : Rat) := by exact_mod_cast h1
      cases hu : Bd.st u <;> cases hv : Bd.st v <;> simp only [hu, hv, Bool.false_eq_true, if_true, if_false] at k ⊢
      · grind
      · have h3 : u / 2 < v / 2 := by
          have a1 : ¬ u % 2 = 0 := fun e => by rw [(st_iff u).2 e] at hu; cases hu
          have a2 := (st_iff v).1 hv
          omega
        have h4 : ((u / 2 : Int) : Rat) < ((v / 2 : Int) : Rat) := by exact_mod_cast h3
        grind
      · grind
      · grind
theorem satO_zero {v : Int} : satO 0 (some v) ↔ 1 ≤ v := by
  simp only [satO]
  cases hv : Bd.st v <;> simp only [Bool.false_eq_true, if_true, if_false]
  · have a1 : ¬ v % 2 = 0 := fun e => by rw [(st_iff v).2 e] at hv; cases hv
    constructor
    · intro h
      have : (0 : Int) ≤ v / 2 := by exact_mod_cast h
      omega
    · intro h
      have : (0 : Int) ≤ v / 2 := by omega
      exact_mod_cast this
  · have a1 := (st_iff v).1 hv
    constructor
    · intro h
      have : (0 : Int) < v / 2 := by exact_mod_cast h
      omega
    · intro h
      have : (0 : Int) < v / 2 := by omega
      exact_mod_cast this
/-- times that keep each bound. -/
def Fits (N : Nat) (E : Mx) (t : Nat → Rat) : Prop := ∀ i j, i < N → j < N → satO (t i - t j) (E i j)
theorem Fits.way {N : Nat} {E : Mx} {t : Nat → Rat} (h : Fits N E t) : ∀ (mid : List Nat) (i j : Nat), i < N → j < N → (∀ a ∈ mid, a < N) → satO (t i - t j) (Dbm.way E (i :: (mid ++ [j])))
  | [], i, j, hi, hj, _ => by
    simp only [List.nil_append, way_two]; exact h i j hi hj
  | a :: mid, i, j, hi, hj, hm => by
    have ha := hm a (by simp)
    have ih := h.way mid a j ha hj (fun b hb => hm b (by simp [hb]))
    simp only [List.cons_append, Dbm.way]
    have := satO_add (h i a hi ha) ih
    rwa [show t i - t a + (t a - t j) = t i - t j by grind] at this
theorem Inv.fits {N : Nat} {E M : Mx} {t : Nat → Rat} {k : Nat} (hk : k ≤ N) (inv : Inv N k E M) (h : Fits N E t) : Fits N M t := fun i j hi hj => by
  by_cases e : i = j
  · subst e
    rw [inv.diag i hi, Rat.sub_self]
    exact satO_zero.2 (by omega)
  · cases hv : M i j with
    | none => trivial
    | some v =>
      obtain ⟨mid, _, hm, hw⟩ := inv.wit i j hi hj e v hv
      rw [← hw]
      exact h.way mid i j hi hj fun a ha => Nat.lt_of_lt_of_le (hm a ha) hk
theorem Inv.fits_back {N : Nat} {E M : Mx} {t : Nat → Rat} {k : Nat} (inv : Inv N k E M) (h : Fits N M t) : Fits N E t := fun i j hi hj => satO_mono (inv.low i j hi hj) (h i j hi hj)

/-- with the diagonal at 0. -/
theorem fits_diag {N : Nat} {L L1 : List Int} {t : Nat → Rat} (hd : ∀ i, i < N → 1 ≤ L[i * N + i]?.getD 0) (h : ∀ i j, i < N → j < N → L1[i * N + j]?.getD 0 = if i = j then 1 else L[i * N + j]?.getD 0) :
    Fits N (mx N L1) t ↔ Fits N (mx N L) t := by
  have h1 : ∀ i j, i < N → j < N → i ≠ j → mx N L1 i j = mx N L i j := fun i j hi hj e => by unfold mx; rw [h i j hi hj, if_neg e]
  constructor
  · intro k i j hi hj
    by_cases e : i = j
    · subst e
      rw [Rat.sub_self]
      unfold mx ob
      split
      · trivial
      · exact satO_zero.2 (hd i hi)
    · rw [← h1 i j hi hj e]; exact k i j hi hj
  · intro k i j hi hj
    by_cases e : i = j
    · subst e
      unfold mx
      rw [h i i hi hi, if_pos rfl, Rat.sub_self]
      exact satO_zero.2 (by omega)
    · rw [h1 i j hi hj e]; exact k i j hi hj
/-- closing turns none of the times that keep a matrix. -/
theorem close_fits {N : Nat} {L C : List Int} (h0 : chk N L = 0) (h : closeL N L = some C) (t : Nat → Rat) : Fits N (mx N C) t ↔ Fits N (mx N L) t := by
  obtain ⟨L1, a2, a3, inv, hl, hE⟩ := close_inv h0 h
  rw [← fits_diag a2 a3]
  exact ⟨fun k => inv.fits_back k, fun k => inv.fits (Nat.le_refl _) k⟩
/-- a matrix that some times keep is not empty. -/
theorem close_some {N : Nat} {L : List Int} (h0 : chk N L = 0) {t : Nat → Rat} (ht : Fits N (mx N L) t) : ∃ C, closeL N L = some C := by
  obtain ⟨c1, c2, c3, c4⟩ := chk_iff.1 h0
  have hN4 : N ≤ 4 := by omega
  have hL : L.length = N * N := by exact_mod_cast c3
  have hdL : ∀ i, i < N → 1 ≤ L[i * N + i]?.getD 0 := fun i hi => by
    have := ht i i hi hi
    rw [Rat.sub_self] at this
    unfold mx ob at this
    split at this
    · rename_i h; rw [h]; decide
    · exact satO_zero.1 this
  have hd0 : ∀ n, n ≤ N → ∃ Ln, (List.range n).foldlM (diag1 N) L = some Ln := by
    intro n
    induction n with
    | zero => intro _; exact ⟨L, rfl⟩
    | succ n ih =>
      intro hn
      obtain ⟨Ln, e⟩ := ih (by omega)
      obtain ⟨a1, a2, a3⟩ := diag_spec hL n Ln (by omega) e
      rw [List.range_succ, List.foldlM_append, e]
      have : Ln[n * N + n]?.getD 0 = L[n * N + n]?.getD 0 := by rw [a3 n n (by omega) (by omega), if_neg (by omega)]
      refine ⟨Ln.set (n * N + n) 1, ?_⟩
      simp only [List.foldlM_cons, List.foldlM_nil, Option.bind_eq_bind, Option.bind_some, diag1]
      rw [if_neg (by rw [this]; have := hdL n (by omega); omega)]; rfl
  obtain ⟨L1, e1⟩ := hd0 N (Nat.le_refl _)
  obtain ⟨a1, a2, a3⟩ := diag_spec hL N L1 (Nat.le_refl _) e1
  have a3' : ∀ i j, i < N → j < N → L1[i * N + j]?.getD 0 = if i = j then 1 else L[i * N + j]?.getD 0 := fun i j hi hj => by
    rw [a3 i j hi hj]
    by_cases e : i = j
    · rw [if_pos ⟨e, hi⟩, if_pos e]
    · rw [if_neg (fun h => e h.1), if_neg e]
  have hd1 : ∀ i, i < N → mx N L1 i i = some 1 := fun i hi => by unfold mx; rw [a3' i i hi hi, if_pos rfl]; rfl
  have hE : ∀ i j v, i < N → j < N → mx N L1 i j = some v → -288230376151711744 ≤ v / 2 ∧ v / 2 ≤ 288230376151711744 := fun i j v hi hj hv => by
    obtain ⟨e1, e2⟩ := mx_some hv
    rw [a3' i j hi hj] at e1
    split at e1
    · subst e1; decide
    · have := chk_lim h0 (i * N + j) (by rw [hL]; exact place_lt hi hj)
      rw [e1] at this
      exact this.resolve_left e2
  have ht1 := (fits_diag (t := t) hdL a3').2 ht
  have hst : ∀ n, n ≤ N → ∃ Cn, (List.range n).foldlM (stage N) L1 = some Cn := by
    intro n
    induction n with
    | zero => intro _; exact ⟨L1, rfl⟩
    | succ n ih =>
      intro hn
      obtain ⟨M, e⟩ := ih (by omega)
      obtain ⟨b1, b2⟩ := fold_inv hN4 a1 hd1 hE n M (by omega) e
      rw [List.range_succ, List.foldlM_append, e]
      have hlM := inv_lim b2 (by omega) hN4 hE
      have hMd : M[n * N + n]?.getD 0 = 1 := (mx_some (b2.diag n (by omega))).1
      have hthr : ∀ i j, i < N → j < N → mx N (thrL N n M) i j = thr n (mx N M) i j := fun i j hi hj => thrL_mx (by omega) b1 hMd (fun q hq => lim_mono (hlM q hq) (by omega)) hi hj
      have htM := b2.fits (by omega) ht1
      have hok : diagOk N (thrL N n M) = true := by
        unfold diagOk
        rw [List.all_eq_true]
        intro i hi
        have hi := List.mem_range.1 hi
        refine decide_eq_true ?_
        have h1 : satO 0 (mx N (thrL N n M) i i) := by
          rw [hthr i i hi hi]
          rcases thr_cases n (mx N M) i i with h | ⟨h, _⟩
          · rw [h, b2.diag i hi]; exact satO_zero.2 (by omega)
          · rw [h]
            have := satO_add (htM i n hi (by omega)) (htM n i (by omega) hi)
            rwa [show t i - t n + (t n - t i) = 0 by grind] at this
        unfold mx ob at h1
        split at h1
        · rename_i h; rw [h]; decide
        · exact satO_zero.1 h1
      refine ⟨thrL N n M, ?_⟩
      simp only [List.foldlM_cons, List.foldlM_nil, Option.bind_eq_bind, Option.bind_some, stage]
      rw [if_pos hok]; rfl
  obtain ⟨C, e2⟩ := hst N (Nat.le_refl _)
  refine ⟨C, ?_⟩
  unfold closeL
  rw [e1, Option.bind_some, e2]
end Go.Proofs.YtodpgcdandechaaGreat.Dbm

/-
  What keeping a matrix says, bound by bound and by values. No program is in sight.
-/
namespace Go.Proofs.YtodpgcdandechaaGreat
set_option linter.unusedVariables false
namespace Dbm
theorem keptK {N : Nat} {L : List Int} {T : List Rt} : keptL N L T = true ↔ ∀ i j, i < N → j < N → (Fr.keeps ((moments T)[i]?.getD ⟨0, 1⟩) ((moments T)[j]?.getD ⟨0, 1⟩) (L[i * N + j]?.getD 0)).1 = true := by
  unfold keptL
  rw [List.all_eq_true]
  constructor
  · intro h i j hi hj
    have := h (i * N + j) (List.mem_range.2 (place_lt hi hj))
    unfold pairOk at this
    rwa [place_div hj, place_mod hj] at this
  · intro h q hq
    have hq := List.mem_range.1 hq
    unfold pairOk
    have := h (q / N) (q % N) (div_lt hq) (mod_lt hq)
    rwa [div_mod] at this
theorem keepsK {n : Int} {L : List Int} {T : List Rt} (h : (keeps n L T).2 = 0) : chk n L = 0 ∧ T.all Rt.ok = true ∧ (T.length : Int) = n - 1 ∧ keeps n L T = (keptL n.toNat L T, 0) := by
  unfold keeps at h ⊢
  split at h
  · rename_i h0
    split at h
    · rename_i h1
      exact ⟨h0.1, h0.2, h1, by rw [if_pos h0, if_pos h1]⟩
    · cases h
  · cases h
theorem momK {T : List Rt} (h : T.all Rt.ok = true) (i : Nat) : ((moments T)[i]?.getD ⟨0, 1⟩).ok = true := by
  have h0 : (⟨0, 1⟩ : Rt).ok = true := by decide
  cases hg : (moments T)[i]? with
  | none => exact h0
  | some x =>
    rcases List.mem_cons.1 (List.mem_of_getElem? hg) with rfl | hm
    · exact h0
    · exact List.all_eq_true.1 h x hm
/-- the times' values, that of clock 0 first. -/
def tvs (T : List Rt) (i : Nat) : Rat := Fr.v ((moments T)[i]?.getD ⟨0, 1⟩)
theorem may_limK {b : Int} (h : lim 2305843009213693951 b) : Bd.may b = true := by
  unfold Bd.may
  rcases h with h | h
  · rw [h]; rfl
  · have : Num.okB (b / 2) = true := Num.okB_iff.2 (by omega)
    rw [this]; simp
theorem kept_fitsK {N : Nat} {L : List Int} {T : List Rt} (hl : ∀ i j, i < N → j < N → lim 2305843009213693951 (L[i * N + j]?.getD 0)) (hT : T.all Rt.ok = true) : keptL N L T = true ↔ Fits N (mx N L) (tvs T) := by
  rw [keptK]
  have key : ∀ i j, i < N → j < N → ((Fr.keeps ((moments T)[i]?.getD ⟨0, 1⟩) ((moments T)[j]?.getD ⟨0, 1⟩) (L[i * N + j]?.getD 0)).1 = true ↔ satO (tvs T i - tvs T j) (mx N L i j)) := fun i j hi hj => by
    rw [Fr.keeps_sat (momK hT i) (momK hT j) (may_limK (hl i j hi hj)), sat_iff]; rfl
  exact ⟨fun h i j hi hj => (key i j hi hj).1 (h i j hi hj), fun h i j hi hj => (key i j hi hj).2 (h i j hi hj)⟩
theorem chk_lenK {N : Nat} {L : List Int} (h : chk N L = 0) : L.length = N * N := by have := (chk_iff.1 h).2.2.1; exact_mod_cast this
theorem chk_limK {N : Nat} {L : List Int} (h : chk N L = 0) (i j : Nat) (hi : i < N) (hj : j < N) : lim 2305843009213693951 (L[i * N + j]?.getD 0) :=
  lim_mono (chk_lim h _ (by rw [chk_lenK h]; exact place_lt hi hj)) (by omega)
end Dbm
end Go.Proofs.YtodpgcdandechaaGreat

/-
  The plain law of RegionZones: a point is in a region's zone just if its number is the region's (by whole parts and what is left over).
-/
namespace Go.Proofs.YtodpgcdandechaaGreat
set_option linter.unusedVariables false
set_option linter.unusedSimpArgs false
open Go.RowKit Go.Proofs.YtodpgcdandechaaGreat.Eng Enc
namespace Rg
theorem of_one {f : Int} (h : -2305843009213693952 ≤ f ∧ f ≤ 2305843009213693952) : Fr.of f 1 = (⟨f, 1⟩, 0) := by
  unfold Fr.of Fr.low
  have hg : Int.gcd f 1 = 1 := by simp
  have hok : Fr.okB f 1 = true := by
    unfold Fr.okB
    have : Fr.inB f 1 = true := Fr.in_iff.2 (by simp; omega)
    rw [this]; simp
  rw [if_neg (by omega), hg]
  simp only [Int.cast_ofNat_Int, Int.ediv_one]
  rw [if_pos hok]
/-- a time's fraction part, in lowest terms as the time is. -/
theorem part_eq {a : Rt} (ha : a.ok = true) : part a = ⟨a.num % a.den, a.den⟩ := by
  have oa := Fr.ok_bd ha
  have hf : (Fr.floor a).1 = a.num / a.den := by unfold Fr.floor; rw [if_pos ha]
  unfold part
  rw [hf, of_one (by omega)]
  have hok : (⟨-(a.num / a.den), 1⟩ : Rt).ok = true := by
    show Fr.okB _ _ = true
    unfold Fr.okB
    have : Fr.inB (-(a.num / a.den)) 1 = true := Fr.in_iff.2 (by simp; omega)
    rw [this]; simp
  have hg0 : Nat.gcd a.num.natAbs a.den.natAbs = 1 := by
    have h := ha
    simp only [Rt.ok, Fr.okB, Bool.and_eq_true, decide_eq_true_eq] at h
    exact h.2
  have hg : Int.gcd (a.num % a.den) a.den = 1 := by
    have h1 : Int.gcd a.num a.den = 1 := hg0
    have h2 : Int.gcd (a.num % a.den + a.num / a.den * a.den) a.den = Int.gcd (a.num % a.den) a.den := Int.gcd_add_mul_right_left ..
    have h3 : a.num % a.den + a.num / a.den * a.den = a.num := by
      have := Int.mul_ediv_add_emod a.num a.den
      rw [Int.mul_comm] at this; omega
    rw [h3] at h2
    rw [← h2]; exact h1
  have htn : Fr.tn a ⟨-(a.num / a.den), 1⟩ = a.num % a.den := by
    unfold Fr.tn
    have := Int.mul_ediv_add_emod a.num a.den
    simp only [Int.mul_one, Int.neg_mul]
    rw [Int.mul_comm (a.num / a.den) a.den]; omega
  have hdn : Fr.dn a ⟨-(a.num / a.den), 1⟩ 1 = a.den := by unfold Fr.dn; simp
  unfold Fr.add
  rw [if_pos ⟨ha, hok⟩]
  unfold Fr.sum
  rw [htn, hdn, hg]
  simp only [Int.cast_ofNat_Int, Int.ediv_one]
  rw [if_pos]
  refine ⟨?_, ?_⟩
  · unfold Fr.okB
    have : Fr.inB (a.num % a.den) a.den = true := Fr.in_iff.2 (by rw [Int.ediv_eq_zero_of_lt oa.2.2.2.2.1 oa.2.2.2.2.2]; omega)
    rw [this]
    have hg' : Nat.gcd (a.num % a.den).natAbs a.den.natAbs = 1 := hg
    simp only [hg']
    simp; omega
  · unfold Fr.inI; simp; omega
theorem part_ok {a : Rt} (ha : a.ok = true) : (part a).ok = true := by
  have oa := Fr.ok_bd ha
  rw [part_eq ha]
  have hg0 : Nat.gcd a.num.natAbs a.den.natAbs = 1 := by
    have h := ha
    simp only [Rt.ok, Fr.okB, Bool.and_eq_true, decide_eq_true_eq] at h
    exact h.2
  have hg : Int.gcd (a.num % a.den) a.den = 1 := by
    have h1 : Int.gcd a.num a.den = 1 := hg0
    have h2 : Int.gcd (a.num % a.den + a.num / a.den * a.den) a.den = Int.gcd (a.num % a.den) a.den := Int.gcd_add_mul_right_left ..
    have h3 : a.num % a.den + a.num / a.den * a.den = a.num := by
      have := Int.mul_ediv_add_emod a.num a.den
      rw [Int.mul_comm] at this; omega
    rw [h3] at h2
    rw [← h2]; exact h1
  show Fr.okB _ _ = true
  unfold Fr.okB
  have : Fr.inB (a.num % a.den) a.den = true := Fr.in_iff.2 (by rw [Int.ediv_eq_zero_of_lt oa.2.2.2.2.1 oa.2.2.2.2.2]; omega)
  rw [this]
  have hg' : Nat.gcd (a.num % a.den).natAbs a.den.natAbs = 1 := hg
  simp only [hg']
  simp; omega
/-- what is left over of two times, over the same. -/
def rX (t u : Rt) : Int := t.num % t.den * u.den
theorem place_eq {t u : Rt} (ht : t.ok = true) (hu : u.ok = true) : place t = 2 * (t.num / t.den) + (if rX t u = 0 then 0 else 1) := by
  have ot := Fr.ok_bd ht
  have ou := Fr.ok_bd hu
  have hf : (Fr.floor t).1 = t.num / t.den := by unfold Fr.floor; rw [if_pos ht]
  unfold place
  rw [part_eq ht, hf]
  simp only
  have : t.num % t.den = 0 ↔ rX t u = 0 := by
    unfold rX
    rw [Int.mul_eq_zero]
    constructor
    · exact .inl
    · rintro (h | h)
      · exact h
      · omega
  by_cases h : t.num % t.den = 0
  · rw [if_pos h, if_pos (this.1 h)]; omega
  · rw [if_neg h, if_neg (fun hh => h (this.2 hh))]
theorem cmp_part {t u : Rt} (ht : t.ok = true) (hu : u.ok = true) : (Fr.cmp (part t) (part u)).1 = cmpI (rX t u) (rX u t) := by
  unfold Fr.cmp
  rw [if_pos ⟨part_ok ht, part_ok hu⟩]
  unfold Fr.cmpR
  rw [part_eq ht, part_eq hu]
  rfl
theorem rX_bd {t u : Rt} (ht : t.ok = true) (hu : u.ok = true) : 0 ≤ rX t u := by
  have ot := Fr.ok_bd ht
  have ou := Fr.ok_bd hu
  exact Int.mul_nonneg ot.2.2.2.2.1 (by omega)
theorem cmp_iff {t u : Rt} (ht : t.ok = true) (hu : u.ok = true) : (Fr.cmp t u).1 < 0 ↔ t.num / t.den < u.num / u.den ∨ (t.num / t.den = u.num / u.den ∧ rX t u < rX u t) := by
  have h := (Fr.sign_eq ht hu 0).1
  have e : (Fr.cmp t u).1 < 0 ↔ t.num * u.den < u.num * t.den := by
    unfold Fr.cmp; rw [if_pos ⟨ht, hu⟩]; exact Fr.cmpI_lt
  rw [e]
  rw [Int.zero_mul] at h
  have : t.num * u.den < u.num * t.den ↔ t.num * u.den - u.num * t.den < 0 := by omega
  rw [this, ← h]
  unfold Fr.sign Fr.rest
  show (if cmpI _ 0 ≠ 0 then cmpI _ 0 else cmpI (rX t u) (rX u t)) < 0 ↔ _
  generalize rX t u = x
  generalize rX u t = y
  generalize t.num / t.den = a
  generalize u.num / u.den = b
  unfold cmpI
  split <;> split <;> omega
/-- what keeping a bound says. -/
theorem keeps_iff {t u : Rt} (ht : t.ok = true) (hu : u.ok = true) {b : Int} (hb : Bd.may b = true) (hn : b ≠ 9223372036854775807) :
    (Fr.keeps t u b).1 = true ↔ (t.num / t.den - u.num / u.den < b / 2 ∨ (t.num / t.den - u.num / u.den = b / 2 ∧ (rX t u < rX u t ∨ (rX t u = rX u t ∧ b % 2 = 1)))) := by
  unfold Fr.keeps
  rw [ht, hu, hb]
  simp only [Bool.and_self, if_true]
  rw [if_neg hn]
  simp only
  unfold Fr.kept Fr.sign Fr.rest
  show (decide ((if cmpI _ _ ≠ 0 then cmpI _ _ else cmpI (rX t u) (rX u t)) < 0) || (decide ((if cmpI _ _ ≠ 0 then cmpI _ _ else cmpI (rX t u) (rX u t)) = 0) && !Bd.st b)) = true ↔ _
  generalize rX t u = x
  generalize rX u t = y
  generalize t.num / t.den - u.num / u.den = a
  have hst : (Bd.st b = true) ↔ b % 2 = 0 := by unfold Bd.st; simp
  simp only [Bool.or_eq_true, Bool.and_eq_true, decide_eq_true_eq, Bool.not_eq_true', Bool.eq_false_iff, ne_eq, hst]
  have h1 : (a < b / 2 ∧ cmpI a (b / 2) = -1) ∨ (a = b / 2 ∧ cmpI a (b / 2) = 0) ∨ (b / 2 < a ∧ cmpI a (b / 2) = 1) := by unfold cmpI; split <;> (try split) <;> omega
  have h2 : (x < y ∧ cmpI x y = -1) ∨ (x = y ∧ cmpI x y = 0) ∨ (y < x ∧ cmpI x y = 1) := by unfold cmpI; split <;> (try split) <;> omega
  generalize cmpI a (b / 2) = p at *
  generalize cmpI x y = q at *
  rcases h1 with ⟨h, rfl⟩ | ⟨h, rfl⟩ | ⟨h, rfl⟩
  · rw [if_pos (by decide)]; omega
  · rw [if_neg (by decide)]; omega
  · rw [if_pos (by decide)]; omega
def cl3 (T U r : Int) : Zn := ⟨T + 1, 1 - T, U + 1, 1 - U, U - T + 2 - r, T - U + r⟩
/-- what a region's places and its order are. -/
def may3 (T U r : Int) : Bool := decide (0 ≤ T) && decide (T ≤ U) && decide (U ≤ 32) && decide (0 ≤ r) && decide (r ≤ 2) && (decide (T < U) || (decide (T % 2 = 1) && decide (r = 0))) && (decide (T % 2 = 1 ∧ U % 2 = 1) || decide (r = 1))
theorem may_small {b : Int} (h : -100 ≤ b ∧ b ≤ 100) : Bd.may b = true ∧ b ≠ 9223372036854775807 := by
  refine ⟨?_, by omega⟩
  unfold Bd.may Num.okB
  simp; omega
theorem pl_iff {A ra p T : Int} (h : 0 ≤ ra) (hp : (ra = 0 ∧ p = 0) ∨ (ra ≠ 0 ∧ p = 1)) :
    ((A - 0 < (T + 1) / 2 ∨ (A - 0 = (T + 1) / 2 ∧ (ra < 0 ∨ (ra = 0 ∧ (T + 1) % 2 = 1)))) ∧ (0 - A < (1 - T) / 2 ∨ (0 - A = (1 - T) / 2 ∧ (0 < ra ∨ (0 = ra ∧ (1 - T) % 2 = 1))))) ↔ 2 * A + p = T := by
  rcases hp with ⟨hp, rfl⟩ | ⟨hp, rfl⟩ <;> omega
theorem df_iff {A B x y px py c o T U r : Int} (hx0 : 0 ≤ x) (hy0 : 0 ≤ y) (h : ((((((0 ≤ T ∧ T ≤ U) ∧ U ≤ 32) ∧ 0 ≤ r) ∧ r ≤ 2) ∧ (T < U ∨ T % 2 = 1 ∧ r = 0)) ∧ (T % 2 = 1 ∧ U % 2 = 1 ∨ r = 1))) (hT : 2 * A + px = T) (hU : 2 * B + py = U)
    (hP : (x = 0 ∧ px = 0) ∨ (x ≠ 0 ∧ px = 1)) (hQ : (y = 0 ∧ py = 0) ∨ (y ≠ 0 ∧ py = 1)) (hc : (x < y ∧ c = -1) ∨ (x = y ∧ c = 0) ∨ (y < x ∧ c = 1)) (ho : (((2 * A + px) % 2 = 1 ∧ (2 * B + py) % 2 = 1) ∧ o = 1 + c) ∨ (¬ ((2 * A + px) % 2 = 1 ∧ (2 * B + py) % 2 = 1) ∧ o = 1)) :
    ((B - A < (U - T + 2 - r) / 2 ∨ (B - A = (U - T + 2 - r) / 2 ∧ (y < x ∨ (y = x ∧ (U - T + 2 - r) % 2 = 1)))) ∧ (A - B < (T - U + r) / 2 ∨ (A - B = (T - U + r) / 2 ∧ (x < y ∨ (x = y ∧ (T - U + r) % 2 = 1))))) ↔ ((A < B ∨ (A = B ∧ x < y)) ∧ o = r) := by
  subst hT hU
  have hr : r = 0 ∨ r = 1 ∨ r = 2 := by omega
  rcases hP with ⟨hx, rfl⟩ | ⟨hx, rfl⟩ <;> rcases hQ with ⟨hy, rfl⟩ | ⟨hy, rfl⟩ <;> rcases hc with ⟨hc, rfl⟩ | ⟨hc, rfl⟩ | ⟨hc, rfl⟩ <;> rcases hr with rfl | rfl | rfl <;> omega
theorem in_cl3 {T U r : Int} (h : may3 T U r = true) (p : Pt) (ht : p.t.ok = true) (hu : p.u.ok = true) :
    Dbm.keptL 3 (Zo.matL (cl3 T U r)) [p.t, p.u] = true ↔ ((Fr.cmp p.t p.u).1 < 0 ∧ place p.t = T ∧ place p.u = U ∧ order p = r) := by
  obtain ⟨t, u⟩ := p
  simp only at ht hu ⊢
  have oz : (⟨0, 1⟩ : Rt).ok = true := by decide
  simp only [may3, Bool.and_eq_true, Bool.or_eq_true, decide_eq_true_eq] at h
  rw [Dbm.keptK]
  have key : (∀ i j, i < 3 → j < 3 → (Fr.keeps ((Dbm.moments [t, u])[i]?.getD ⟨0, 1⟩) ((Dbm.moments [t, u])[j]?.getD ⟨0, 1⟩) ((Zo.matL (cl3 T U r))[i * 3 + j]?.getD 0)).1 = true) ↔
      (((Fr.keeps ⟨0, 1⟩ ⟨0, 1⟩ 1).1 = true ∧ (Fr.keeps t t 1).1 = true ∧ (Fr.keeps u u 1).1 = true) ∧ ((Fr.keeps t ⟨0, 1⟩ (T + 1)).1 = true ∧ (Fr.keeps ⟨0, 1⟩ t (1 - T)).1 = true) ∧ ((Fr.keeps u ⟨0, 1⟩ (U + 1)).1 = true ∧ (Fr.keeps ⟨0, 1⟩ u (1 - U)).1 = true) ∧ ((Fr.keeps u t (U - T + 2 - r)).1 = true ∧ (Fr.keeps t u (T - U + r)).1 = true)) := by
    constructor
    · intro H
      exact ⟨⟨H 0 0 (by omega) (by omega), H 1 1 (by omega) (by omega), H 2 2 (by omega) (by omega)⟩, ⟨H 1 0 (by omega) (by omega), H 0 1 (by omega) (by omega)⟩, ⟨H 2 0 (by omega) (by omega), H 0 2 (by omega) (by omega)⟩, ⟨H 2 1 (by omega) (by omega), H 1 2 (by omega) (by omega)⟩⟩
    · rintro ⟨⟨h0, h1, h2⟩, ⟨h3, h4⟩, ⟨h5, h6⟩, h7, h8⟩ i j hi hj
      have : i = 0 ∨ i = 1 ∨ i = 2 := by omega
      have : j = 0 ∨ j = 1 ∨ j = 2 := by omega
      rcases ‹i = 0 ∨ _› with rfl | rfl | rfl <;> rcases ‹j = 0 ∨ _› with rfl | rfl | rfl
      · exact h0
      · exact h4
      · exact h6
      · exact h3
      · exact h1
      · exact h8
      · exact h5
      · exact h7
      · exact h2
  rw [key]
  have e1 := may_small (b := 1) (by omega)
  have e2 := may_small (b := T + 1) (by omega)
  have e3 := may_small (b := 1 - T) (by omega)
  have e4 := may_small (b := U + 1) (by omega)
  have e5 := may_small (b := 1 - U) (by omega)
  have e6 := may_small (b := U - T + 2 - r) (by omega)
  have e7 := may_small (b := T - U + r) (by omega)
  rw [keeps_iff oz oz e1.1 e1.2, keeps_iff ht ht e1.1 e1.2, keeps_iff hu hu e1.1 e1.2, keeps_iff ht oz e2.1 e2.2, keeps_iff oz ht e3.1 e3.2, keeps_iff hu oz e4.1 e4.2, keeps_iff oz hu e5.1 e5.2, keeps_iff hu ht e6.1 e6.2, keeps_iff ht hu e7.1 e7.2]
  rw [cmp_iff ht hu, place_eq ht hu, place_eq hu ht]
  unfold order
  rw [cmp_part ht hu, place_eq ht hu, place_eq hu ht]
  have ot := Fr.ok_bd ht
  have ou := Fr.ok_bd hu
  -- what is left over, over nothing
  have z1 : rX ⟨0, 1⟩ t = 0 := by simp [rX]
  have z2 : rX ⟨0, 1⟩ u = 0 := by simp [rX]
  have z3 : rX t ⟨0, 1⟩ = t.num % t.den := by simp [rX]
  have z4 : rX u ⟨0, 1⟩ = u.num % u.den := by simp [rX]
  have z5 : (t.num % t.den = 0 ↔ rX t u = 0) := by
    unfold rX
    rw [Int.mul_eq_zero]
    constructor
    · exact .inl
    · rintro (h | h)
      · exact h
      · omega
  have z6 : (u.num % u.den = 0 ↔ rX u t = 0) := by
    unfold rX
    rw [Int.mul_eq_zero]
    constructor
    · exact .inl
    · rintro (h | h)
      · exact h
      · omega
  have z7 := rX_bd ht hu
  have z8 := rX_bd hu ht
  have z9 : rX ⟨0, 1⟩ ⟨0, 1⟩ = 0 := by simp [rX]
  rw [z1, z2, z3, z4]
  have d0 : ((⟨0, 1⟩ : Rt).num / (⟨0, 1⟩ : Rt).den) = 0 := by simp
  rw [d0]
  have p1 := ot.2.2.2.2.1
  have p2 := ou.2.2.2.2.1
  clear ot ou e1 e2 e3 e4 e5 e6 e7 key oz z1 z2 z3 z4 ht hu d0
  generalize rX t u = x at *
  generalize rX u t = y at *
  generalize t.num / t.den = A at *
  generalize u.num / u.den = B at *
  generalize t.num % t.den = a at *
  generalize u.num % u.den = b at *
  generalize rX ⟨0, 1⟩ ⟨0, 1⟩ = z at *
  generalize rX t t = tt at *
  generalize rX u u = uu at *
  subst z9
  have hc : (x < y ∧ cmpI x y = -1) ∨ (x = y ∧ cmpI x y = 0) ∨ (y < x ∧ cmpI x y = 1) := by unfold cmpI; split <;> (try split) <;> omega
  have hP : (x = 0 ∧ (if x = 0 then (0 : Int) else 1) = 0) ∨ (x ≠ 0 ∧ (if x = 0 then (0 : Int) else 1) = 1) := by split <;> omega
  have hQ : (y = 0 ∧ (if y = 0 then (0 : Int) else 1) = 0) ∨ (y ≠ 0 ∧ (if y = 0 then (0 : Int) else 1) = 1) := by split <;> omega
  generalize (if x = 0 then (0 : Int) else 1) = px at *
  generalize (if y = 0 then (0 : Int) else 1) = py at *
  generalize cmpI x y = c at *
  have ho : (((2 * A + px) % 2 = 1 ∧ (2 * B + py) % 2 = 1) ∧ (if (2 * A + px) % 2 = 1 ∧ (2 * B + py) % 2 = 1 then 1 + c else 1) = 1 + c) ∨ (¬ ((2 * A + px) % 2 = 1 ∧ (2 * B + py) % 2 = 1) ∧ (if (2 * A + px) % 2 = 1 ∧ (2 * B + py) % 2 = 1 then 1 + c else 1) = 1) := by
    split
    · exact .inl ⟨by assumption, rfl⟩
    · exact .inr ⟨by assumption, rfl⟩
  generalize (if (2 * A + px) % 2 = 1 ∧ (2 * B + py) % 2 = 1 then 1 + c else 1) = o at *
  have kT := pl_iff (A := A) (ra := a) (p := px) (T := T) p1 (by omega)
  have kU := pl_iff (A := B) (ra := b) (p := py) (T := U) p2 (by omega)
  rw [kT, kU]
  constructor
  · rintro ⟨_, hT, hU, hd⟩
    have := (df_iff z7 z8 (h := h) hT hU hP hQ hc ho).1 hd
    exact ⟨this.1, hT, hU, this.2⟩
  · rintro ⟨h1, hT, hU, h2⟩
    exact ⟨by omega, hT, hU, (df_iff z7 z8 (h := h) hT hU hP hQ hc ho).2 ⟨h1, h2⟩⟩
end Rg
end Go.Proofs.YtodpgcdandechaaGreat

/-
  The document's answer of layer 3, by the engine: Low, Part, common, alone, May.
-/
namespace Go.Proofs.YtodpgcdandechaaGreat
set_option linter.unusedVariables false
set_option linter.unusedSimpArgs false
set_option maxRecDepth 100000
open Go.RowKit Go.Proofs.YtodpgcdandechaaGreat.Eng Enc

theorem rlow03_any (n d : Int) (hd : 1 ≤ d) (hn : inK .i64 n) (w : World) :
    Calls Tryz.prog 187 #[.int .i64 n, .int .i64 d] w fun e w' => e = .returned (.int .i64 (n / d)) ∧ Below w.heap.size w w' := by
  refine fun_eq 0 w Tryz.func187 (args := [.val (.int .i64 n), .val (.int .i64 d)]) rfl rfl ?_
  obtain ⟨k1, k2⟩ := Fr.floor_eq (n := n) hd
  have k3 : inK .i64 (n.tdiv d) ∧ (n.tmod d < 0 → inK .i64 (n.tdiv d - 1)) := by
    have hq := Fr.ediv_in hd hn
    refine ⟨?_, fun h => by rw [(k1 h).1]; exact hq⟩
    by_cases h : n.tmod d < 0
    · have e := (k1 h).1
      have h0 : n < 0 := by
        rcases Int.lt_or_le n 0 with h | h'
        · exact h
        · have := Int.tmod_nonneg d h'; omega
      have : n / d < 0 := Int.ediv_neg_of_neg_of_pos h0 (by omega)
      simp only [inK] at hq ⊢; omega
    · rw [(k2 h).1]; exact hq
  refine Need.mk ⟨by omega, k3.1⟩ ?_
  refine Need.mk (by omega) ?_
  refine Branch.mk (fun hb => ?_) (fun hb => ?_)
  · obtain ⟨e1, e2⟩ := k1 (by simpa using hb)
    refine Need.mk (k3.2 (by simpa using hb)) ?_
    exact EndI.mk fun w1 h1 => by rw [e1]
  · obtain ⟨e1, e2⟩ := k2 (by simpa using hb)
    exact EndI.mk fun w1 h1 => by rw [e1]
theorem rpart03_any (n d : Int) (hd : 1 ≤ d) (hd2 : inK .i64 d) (w : World) :
    Calls Tryz.prog 188 #[.int .i64 n, .int .i64 d] w fun e w' => e = .returned (.int .i64 (n % d)) ∧ Below w.heap.size w w' := by
  refine fun_eq 0 w Tryz.func188 (args := [.val (.int .i64 n), .val (.int .i64 d)]) rfl rfl ?_
  obtain ⟨k1, k2⟩ := Fr.floor_eq (n := n) hd
  have k4 := Int.emod_nonneg n (by omega : d ≠ 0)
  have k5 := Int.emod_lt_of_pos n (by omega : 0 < d)
  refine Need.mk (by omega) ?_
  refine Branch.mk (fun hb => ?_) (fun hb => ?_)
  · obtain ⟨e1, e2⟩ := k1 (by simpa using hb)
    refine Need.mk ?_ ?_
    · simp only [inK] at hd2 ⊢; omega
    exact EndI.mk fun w1 h1 => by rw [e2]
  · obtain ⟨e1, e2⟩ := k2 (by simpa using hb)
    exact EndI.mk fun w1 h1 => by rw [e2]
theorem rcommon03_any (a b : Nat) (ha : a < 9223372036854775808) (hb : b < 9223372036854775808) (w : World) :
    Calls Tryz.prog 238 #[.int .i64 (a : Nat), .int .i64 (b : Nat)] w fun e w' => e = .returned (.int .i64 (Nat.gcd a b : Nat)) ∧ Below w.heap.size w w' := by
  refine fun_eq 0 w Tryz.func238 (args := [.val (.int .i64 (a : Nat)), .val (.int .i64 (b : Nat))]) rfl rfl ?_
  refine LoopI.invC (α := (Nat × Nat) × World) (fun y => [(0, .val (.int .i64 y.1.1)), (1, .val (.int .i64 y.1.2))]) (fun y => y.2) (fun y => y.1.1 < 9223372036854775808 ∧ y.1.2 < 9223372036854775808 ∧ Nat.gcd y.1.1 y.1.2 = Nat.gcd a b) (fun y => y.1.2) ?_ ?_
  · intro w1 h1
    exact ⟨((a, b), w1), Cov.mk (by repeat' (first | exact trivial | refine And.intro rfl ?_)) rfl rfl rfl rfl rfl, rfl, ha, hb, rfl⟩
  rintro ⟨⟨x, y⟩, W⟩ ⟨hx, hy, hg⟩
  refine Branch.mk (fun hc => ?_) (fun hc => ?_)
  · have hy0 : 0 < y := by
      have : ¬ y = 0 := by simpa using hc
      omega
    have em : ((x : Int)).tmod y = ((x % y : Nat) : Int) := rfl
    have hm : x % y < y := Nat.mod_lt _ hy0
    refine DrawI.go (.tk 0 (.tk 1 (.tk 2 (.tk 3 (.tk 4 (.tk 5 .done)))))) (by kernel_rfl) fun w1 h1 => ?_
    refine Need.mk ?_ ?_
    · show (y : Int) ≠ 0
      omega
    refine EndI.mk fun w2 h2 => ⟨((y, x % y), w2), Cov.mk (by repeat' (first | exact trivial | refine And.intro rfl ?_)) rfl rfl rfl rfl rfl, rfl, ⟨hy, ?_, ?_⟩, hm⟩
    · exact Nat.lt_trans hm hy
    · refine Eq.trans ?_ hg
      show Nat.gcd y (x % y) = Nat.gcd x y
      rw [Nat.gcd_comm x y, Nat.gcd_comm y (x % y)]; exact (Nat.gcd_rec y x).symm
  · refine EndI.mk fun w1 h1 => ?_
    have hy0 : y = 0 := by simpa using hc
    subst hy0
    rw [← hg]
    simp
/-- the numbers of a fraction have no common divisor but one. -/
def Fr.alone (n d : Int) : Bool := decide (((Nat.gcd (n % d).toNat d.toNat : Nat) : Int) = 1)
theorem ralone_any (n d : Int) (hd : 1 ≤ d) (hd2 : inK .i64 d) (w : World) :
    Calls Tryz.prog 186 #[.agg #[.int .i64 n, .int .i64 d]] w fun e w' => e = .returned (.bool (Fr.alone n d)) ∧ Below w.heap.size w w' := by
  refine fun_eq 0 w Tryz.func186 (args := [.agg [.val (.int .i64 n), .val (.int .i64 d)]]) rfl rfl ?_
  have k4 := Int.emod_nonneg n (by omega : d ≠ 0)
  have k5 := Int.emod_lt_of_pos n (by omega : 0 < d)
  have hc : ∀ w, Calls Tryz.prog 238 #[.int .i64 (n % d), .int .i64 d] w fun e w' => e = .returned (.int .i64 (Nat.gcd (n % d).toNat d.toNat : Nat)) ∧ Below w.heap.size w w' := fun w => by
    simp only [inK] at hd2
    have h := rcommon03_any (n % d).toNat d.toNat (by omega) (by omega) w
    rwa [Int.toNat_of_nonneg k4, Int.toNat_of_nonneg (by omega)] at h
  refine NewI.mk fun b1 hb1 => ?_
  refine DrawI.go (.tk 0 (.tk 1 (.tk 2 (.tk 3 (.tk 5 (.tk 6 (.ev 4 (.ev 7 (.tk 8 (.tk 9 .done)))))))))) (by kernel_rfl) fun w1 h1 => ?_
  apply CallI.use1
  focus (exact fun w2 h2 => rpart03_any n d hd hd2 w2)
  intro w2 v2 h2 hB2
  apply CallI.use1
  focus (exact fun w3 h3 => hc w3)
  intro w3 v3 h3 hB3
  exact EndI.mk fun w9 h9 => rfl
theorem Fr.alone_gcd {n d : Int} (hd : 1 ≤ d) : Fr.alone n d = decide (Nat.gcd n.natAbs d.natAbs = 1) := by
  unfold Fr.alone
  have e : Nat.gcd (n % d).toNat d.toNat = Nat.gcd n.natAbs d.natAbs := by
    have h3 : Int.gcd n d = Int.gcd (n % d) d := by
      conv => lhs; rw [← Int.emod_add_mul_ediv n d, Int.mul_comm d, Int.gcd_add_mul_right_left]
    have h4 := Int.emod_nonneg n (by omega : d ≠ 0)
    have h5 : Nat.gcd n.natAbs d.natAbs = Nat.gcd (n % d).natAbs d.natAbs := h3
    rw [h5, show (n % d).natAbs = (n % d).toNat by omega, show d.natAbs = d.toNat by omega]
  rw [e, decide_eq_decide]
  omega
theorem rmay03_any (x : Rt) (hx : x.ins) (w : World) :
    Calls Tryz.prog 112 #[.agg #[.int .i64 x.num, .int .i64 x.den]] w fun e w' => e = .returned (.bool x.ok) ∧ Below w.heap.size w w' := by
  obtain ⟨n, d⟩ := x
  obtain ⟨hn, hd⟩ := hx
  simp only at hn hd
  unfold Rt.ok Fr.okB Fr.inB
  simp only
  refine fun_eq 0 w Tryz.func112 (args := [.agg [.val (.int .i64 n), .val (.int .i64 d)]]) rfl rfl ?_
  refine NewI.mk fun b1 hb1 => ?_
  refine Branch.mk (fun z1 => ?_) (fun z1 => ?_)
  · have h1 : d < 1 := of_decide_eq_true z1
    refine EndI.mk fun w9 h9 => ?_
    rw [decide_eq_false (by omega : ¬ 1 ≤ d)]; rfl
  have h1 : 1 ≤ d := by have := of_decide_eq_false z1; omega
  refine Branch.mk (fun z2 => ?_) (fun z2 => ?_)
  · have h2 : 1048576 < d := of_decide_eq_true z2
    refine EndI.mk fun w9 h9 => ?_
    rw [decide_eq_false (by omega : ¬ d ≤ 1048576)]; simp
  have h2 : d ≤ 1048576 := by have := of_decide_eq_false z2; omega
  have k4 := Int.emod_nonneg n (by omega : d ≠ 0)
  have k5 := Int.emod_lt_of_pos n (by omega : 0 < d)
  rw [decide_eq_true h1, decide_eq_true h2]
  apply CallI.use1
  focus (exact fun w3 h3 => ralone_any n d h1 hd w3)
  intro w3 v3 h3 hB3
  rw [Fr.alone_gcd h1]
  refine Branch.mk (fun z3 => ?_) (fun z3 => ?_)
  · have h3 : decide (n.natAbs.gcd d.natAbs = 1) = false := by simpa using z3
    refine EndI.mk fun w9 h9 => ?_
    rw [h3]; simp
  have h3 : decide (n.natAbs.gcd d.natAbs = 1) = true := by simpa using z3
  rw [h3]
  clear z1 z2 z3 h3
  apply CallI.use1
  focus (exact fun w4 h4 => rlow03_any n d h1 hn w4)
  intro w4 v4 h4 hB4
  refine Branch.mk (fun z4 => ?_) (fun z4 => ?_)
  · have h4 : -2305843009213693952 ≤ n / d := of_decide_eq_true z4
    rw [decide_eq_true h4]
    refine Branch.mk (fun z5 => ?_) (fun z5 => ?_)
    · have h5 : n / d < 2305843009213693952 := of_decide_eq_true z5
      refine EndI.mk fun w9 h9 => ?_
      rw [decide_eq_true h5]; rfl
    have h5 : ¬ n / d < 2305843009213693952 := of_decide_eq_false z5
    rw [decide_eq_false h5]
    refine Branch.mk (fun z6 => ?_) (fun z6 => ?_)
    · rw [z6]
      apply CallI.use1
      focus (exact fun w5 h5 => rpart03_any n d h1 hd w5)
      intro w5 v5 h5 hB5
      exact EndI.mk fun w9 h9 => by simp
    · rw [z6]
      exact EndI.mk fun w9 h9 => rfl
  · have h4 : ¬ -2305843009213693952 ≤ n / d := of_decide_eq_false z4
    refine EndI.mk fun w9 h9 => ?_
    rw [decide_eq_false h4]; rfl
theorem cmpR_low {a b : Rt} (ha : a.ok = true) (hb : b.ok = true) : Fr.cmpR a b = if a.num / a.den = b.num / b.den then cmpI (a.num % a.den * b.den) (b.num % b.den * a.den) else cmpI (a.num / a.den) (b.num / b.den) := by
  have h1 := Fr.ok_bd ha
  have h2 := Fr.ok_bd hb
  have e1 := Int.emod_add_mul_ediv a.num a.den
  have e2 := Int.emod_add_mul_ediv b.num b.den
  unfold Fr.cmpR cmpI
  generalize a.num / a.den = x at *
  generalize b.num / b.den = y at *
  generalize a.num % a.den = r at *
  generalize b.num % b.den = s at *
  rw [← e1, ← e2]
  generalize a.den = p at *
  generalize b.den = q at *
  have hpq : 0 < p * q := Int.mul_pos (by omega) (by omega)
  have hr : r * q < p * q := Int.mul_lt_mul_of_pos_right (by omega) (by omega)
  have hr0 : 0 ≤ r * q := Int.mul_nonneg (by omega) (by omega)
  have hs : s * p < q * p := Int.mul_lt_mul_of_pos_right (by omega) (by omega)
  have hs0 : 0 ≤ s * p := Int.mul_nonneg (by omega) (by omega)
  have E1 : (r + p * x) * q = r * q + x * (p * q) := by grind
  have E2 : (s + q * y) * p = s * p + y * (p * q) := by grind
  rw [Int.mul_comm q p] at hs
  rw [E1, E2]
  generalize r * q = R at *
  generalize s * p = S at *
  generalize p * q = D at *
  by_cases h : x = y
  · subst h
    rw [if_pos rfl]
    generalize x * D = T
    split <;> split <;> (try split) <;> (try split) <;> omega
  rw [if_neg h]
  by_cases h' : x < y
  · have : (x + 1) * D ≤ y * D := Int.mul_le_mul_of_nonneg_right (by omega) (by omega)
    rw [Int.add_mul] at this
    generalize x * D = X at *
    generalize y * D = Y at *
    rw [if_pos (by omega), if_pos h']
  · have : (y + 1) * D ≤ x * D := Int.mul_le_mul_of_nonneg_right (by omega) (by omega)
    rw [Int.add_mul] at this
    generalize x * D = X at *
    generalize y * D = Y at *
    rw [if_neg (by omega), if_pos (by omega), if_neg h', if_pos (by omega)]
theorem rcompared_any (a b : Rt) (ha : a.ok = true) (hb : b.ok = true) (hai : a.ins) (hbi : b.ins) (w : World) :
    Calls Tryz.prog 113 #[.agg #[.int .i64 a.num, .int .i64 a.den], .agg #[.int .i64 b.num, .int .i64 b.den]] w fun e w' => e = .returned (.int .i64 (Fr.cmpR a b)) ∧ Below w.heap.size w w' := by
  rw [cmpR_low ha hb]
  have h1 := Fr.ok_bd ha
  have h2 := Fr.ok_bd hb
  have m1 := Fr.mul_bd (u := a.num % a.den) (v := b.den) (m := 1048576) (n := 1048576) (by omega) (by omega) (by omega) (by omega)
  have m2 := Fr.mul_bd (u := b.num % b.den) (v := a.den) (m := 1048576) (n := 1048576) (by omega) (by omega) (by omega) (by omega)
  refine fun_eq 0 w Tryz.func113 (args := [.agg [.val (.int .i64 a.num), .val (.int .i64 a.den)], .agg [.val (.int .i64 b.num), .val (.int .i64 b.den)]]) rfl rfl ?_
  refine NewI.mk fun b1 hb1 => ?_
  refine NewI.mk fun b2 hb2 => ?_
  apply CallI.use1
  focus (exact fun w4 h4 => rlow03_any a.num a.den h1.1 hai.1 w4)
  intro w4 v4 h4 hB4
  apply CallI.use1
  focus (exact fun w5 h5 => rlow03_any b.num b.den h2.1 hbi.1 w5)
  intro w5 v5 h5 hB5
  have fin : ∀ x y : Int, (if x < y then (-1 : Int) else if y < x then 1 else 0) = cmpI x y := fun x y => rfl
  refine Branch.mk (fun z1 => ?_) (fun z1 => ?_)
  · have he : a.num / a.den = b.num / b.den := of_decide_eq_true z1
    rw [if_pos he]
    refine DrawI.go (.tk 0 (.tk 1 (.tk 2 (.tk 3 (.tk 5 (.tk 6 (.ev 4 (.tk 7 (.tk 8 .done))))))))) (by kernel_rfl) fun w6 h6 => ?_
    apply CallI.use1
    focus (exact fun w6 h6 => rpart03_any a.num a.den h1.1 hai.2 w6)
    intro w7 v7 h7 hB7
    refine Need.mk (by simp only [inK]; omega) ?_
    refine DrawI.go (.tk 0 (.tk 1 (.tk 2 (.tk 3 (.tk 5 (.tk 6 (.ev 4 (.tk 7 (.tk 8 .done))))))))) (by kernel_rfl) fun w8 h8 => ?_
    apply CallI.use1
    focus (exact fun w6 h6 => rpart03_any b.num b.den h2.1 hbi.2 w6)
    intro w9 v9 h9 hB9
    refine Need.mk (by simp only [inK]; omega) ?_
    unfold cmpI
    refine Branch.mk (fun z2 => ?_) (fun z2 => ?_)
    · rw [if_pos (of_decide_eq_true z2)]
      exact EndI.mk fun w9 h9 => rfl
    rw [if_neg (of_decide_eq_false z2)]
    refine Branch.mk (fun z3 => ?_) (fun z3 => ?_)
    · rw [if_pos (of_decide_eq_true z3)]
      exact EndI.mk fun w9 h9 => rfl
    rw [if_neg (of_decide_eq_false z3)]
    exact EndI.mk fun w9 h9 => rfl
  · rw [if_neg (of_decide_eq_false z1)]
    unfold cmpI
    refine Branch.mk (fun z2 => ?_) (fun z2 => ?_)
    · rw [if_pos (of_decide_eq_true z2)]
      exact EndI.mk fun w9 h9 => rfl
    rw [if_neg (of_decide_eq_false z2)]
    refine Branch.mk (fun z3 => ?_) (fun z3 => ?_)
    · rw [if_pos (of_decide_eq_true z3)]
      exact EndI.mk fun w9 h9 => rfl
    rw [if_neg (of_decide_eq_false z3)]
    exact EndI.mk fun w9 h9 => rfl
end Go.Proofs.YtodpgcdandechaaGreat

/-
  What the document's answer of layer 14 reckons, in the program's words: parts, places, numbers, times.
-/
namespace Go.Proofs.YtodpgcdandechaaGreat
set_option linter.unusedVariables false
set_option linter.unusedSimpArgs false
open Go.RowKit Go.Proofs.YtodpgcdandechaaGreat.Eng Enc
namespace Rg
theorem den_one {a : Rt} (ha : a.ok = true) : a.num % a.den = 0 ↔ a.den = 1 := by
  have oa := Fr.ok_bd ha
  constructor
  · intro h
    have hg0 : Nat.gcd a.num.natAbs a.den.natAbs = 1 := by
      have h := ha
      simp only [Rt.ok, Fr.okB, Bool.and_eq_true, decide_eq_true_eq] at h
      exact h.2
    have hd : a.den ∣ a.num := Int.dvd_of_emod_eq_zero h
    have hg : Int.gcd a.num a.den = a.den.natAbs := Int.gcd_eq_right_iff_dvd (by omega) |>.2 hd |> fun h => by
      have : (Int.gcd a.num a.den : Int) = a.den := h
      omega
    have : Int.gcd a.num a.den = 1 := hg0
    omega
  · intro h; rw [h]; omega
theorem floor_ok {a : Rt} (ha : a.ok = true) : (Fr.floor a).1 = a.num / a.den := by unfold Fr.floor; rw [if_pos ha]
theorem place_den {a : Rt} (ha : a.ok = true) : place a = if a.den = 1 then 2 * a.num else 2 * (Fr.floor a).1 + 1 := by
  unfold place
  rw [part_eq ha, floor_ok ha]
  simp only
  by_cases h : a.den = 1
  · rw [if_pos ((den_one ha).2 h), if_pos h, h]; simp
  · rw [if_neg (fun h' => h ((den_one ha).1 h')), if_neg h]
theorem part_num {a : Rt} (ha : a.ok = true) : a.num - (Fr.floor a).1 * a.den = (part a).num ∧ (part a).den = a.den := by
  rw [part_eq ha, floor_ok ha]
  have := Int.mul_ediv_add_emod a.num a.den
  rw [Int.mul_comm] at this
  exact ⟨by simp only; omega, rfl⟩
theorem odd_den {a : Rt} (ha : a.ok = true) : place a % 2 = 1 ↔ a.den ≠ 1 := by
  rw [place_den ha]
  split <;> omega
theorem place_neg {a : Rt} (ha : a.ok = true) : place a < 0 ↔ a.num < 0 := by
  have oa := Fr.ok_bd ha
  rw [place_den ha, floor_ok ha]
  split
  · omega
  · have h1 : a.num / a.den < 0 ↔ a.num < 0 := by
      constructor
      · intro h
        rcases Int.lt_or_le a.num 0 with h' | h'
        · exact h'
        · have := Int.ediv_nonneg h' (by omega : 0 ≤ a.den); omega
      · intro h; exact Int.ediv_neg_of_neg_of_pos h (by omega)
    omega
theorem ofI_ok {k : Int} (h : -1000 ≤ k ∧ k ≤ 1000) : (⟨k, 1⟩ : Rt).ok = true := by
  show Fr.okB _ _ = true
  unfold Fr.okB
  have : Fr.inB k 1 = true := Fr.in_iff.2 (by simp; omega)
  rw [this]; simp
theorem place_top {a : Rt} (ha : a.ok = true) {long : Int} (hl : 1 ≤ long ∧ long ≤ 16) : sides long ≤ place a ↔ 0 < Fr.cmpR a ⟨long, 1⟩ := by
  have oa := Fr.ok_bd ha
  have hr : (0 < Fr.cmpR a ⟨long, 1⟩) ↔ long * a.den < a.num := by
    unfold Fr.cmpR cmpI
    simp only [Int.mul_one]
    split
    · omega
    · split <;> omega
  rw [hr, place_den ha, floor_ok ha]
  have e := Int.mul_ediv_add_emod a.num a.den
  rw [Int.mul_comm] at e
  unfold sides
  split
  · rename_i h; rw [h]; omega
  · rename_i h
    have hn : a.num % a.den ≠ 0 := fun h' => h ((den_one ha).1 h')
    generalize a.num / a.den = q at *
    generalize a.num % a.den = r at *
    generalize a.den = d at *
    generalize a.num = x at *
    constructor
    · intro h1
      have : long * d ≤ q * d := Int.mul_le_mul_of_nonneg_right (by omega) (by omega)
      omega
    · intro h1
      rcases Int.lt_or_le q long with h2 | h2
      · have : (q + 1) * d ≤ long * d := Int.mul_le_mul_of_nonneg_right (by omega) (by omega)
        rw [Int.add_mul] at this
        omega
      · omega
theorem cmp_ok {a b : Rt} (ha : a.ok = true) (hb : b.ok = true) : (Fr.cmp a b).1 = Fr.cmpR a b := by unfold Fr.cmp; rw [if_pos ⟨ha, hb⟩]
/-- the number, as the document reckons it. -/
theorem number_doc {p : Pt} (ht : p.t.ok = true) (hu : p.u.ok = true) {long : Int} (hl : 1 ≤ long ∧ long ≤ 16) :
    number p long = if 0 ≤ Fr.cmpR p.t p.u ∨ p.t.num < 0 ∨ 0 < Fr.cmpR p.u ⟨long, 1⟩ then -1 else 3 * (place p.t * (2 * long + 1) + place p.u) + (if p.t.den ≠ 1 ∧ p.u.den ≠ 1 then 1 + Fr.cmpR (part p.t) (part p.u) else 1) := by
  unfold number order
  rw [cmp_ok ht hu, cmp_ok (part_ok ht) (part_ok hu)]
  simp only [place_neg ht, place_top hu hl, odd_den ht, odd_den hu]
  rfl
/-- the fractions that are drawn. -/
def Three (pa d : Int) : Prop := (pa = 1 ∧ d = 2) ∨ (pa = 1 ∧ d = 3) ∨ (pa = 2 ∧ d = 3)
theorem of_low {n d : Int} (hd : 1 ≤ d ∧ d ≤ 10) (hn : -20000 ≤ n ∧ n ≤ 20000) (hg : Int.gcd n d = 1) : Fr.of n d = (⟨n, d⟩, 0) ∧ (⟨n, d⟩ : Rt).ok = true := by
  have hq : -20000 ≤ n / d ∧ n / d ≤ 20000 := by
    constructor
    · exact Int.le_ediv_of_mul_le (by omega) (by
        have : -20000 * d ≤ -20000 * 1 := Int.mul_le_mul_of_nonpos_left (by omega) (by omega)
        omega)
    · rcases Int.lt_or_le n 0 with h | h
      · have := Int.ediv_neg_of_neg_of_pos h (by omega : 0 < d); omega
      · have := Int.ediv_le_self d h; omega
  have hok : Fr.okB n d = true := by
    unfold Fr.okB
    have : Fr.inB n d = true := Fr.in_iff.2 (by omega)
    have hg' : Nat.gcd n.natAbs d.natAbs = 1 := hg
    rw [this, decide_eq_true hg']
    simp; omega
  refine ⟨?_, hok⟩
  unfold Fr.of Fr.low
  rw [if_neg (by omega), hg]
  simp only [Int.cast_ofNat_Int, Int.ediv_one]
  rw [if_pos hok]
theorem time_doc {pl pa d : Int} (h : 0 ≤ pl ∧ pl ≤ 1000) (h3 : Three pa d) : time pl pa d = (if pl % 2 = 0 then ⟨pl / 2, 1⟩ else ⟨pl / 2 * d + pa, d⟩) ∧ (time pl pa d).ok = true := by
  unfold time
  split
  · have := of_low (n := pl / 2) (d := 1) (by omega) (by omega) (by simp)
    rw [this.1]; exact ⟨rfl, this.2⟩
  · have hg : Int.gcd (pl / 2 * d + pa) d = 1 := by
      rw [Int.add_comm, Int.gcd_add_mul_right_left]
      rcases h3 with ⟨rfl, rfl⟩ | ⟨rfl, rfl⟩ | ⟨rfl, rfl⟩ <;> decide
    have := of_low (n := pl / 2 * d + pa) (d := d) (by rcases h3 with ⟨rfl, rfl⟩ | ⟨rfl, rfl⟩ | ⟨rfl, rfl⟩ <;> omega) (by rcases h3 with ⟨rfl, rfl⟩ | ⟨rfl, rfl⟩ | ⟨rfl, rfl⟩ <;> omega) hg
    rw [this.1]; exact ⟨rfl, this.2⟩
theorem parts_three {r : Int} (h : 0 ≤ r ∧ r < 3) : Three (parts r).1 (parts r).2.2 ∧ Three (parts r).2.1 (parts r).2.2 := by
  rcases (by omega : r = 0 ∨ r = 1 ∨ r = 2) with rfl | rfl | rfl <;> simp [parts, Three]
end Rg
end Go.Proofs.YtodpgcdandechaaGreat

/-
  The document's answer of layer 14: numbers and points, by the engine.
-/
namespace Go.Proofs.YtodpgcdandechaaGreat
set_option linter.unusedVariables false
set_option linter.unusedSimpArgs false
set_option maxRecDepth 100000
open Go.RowKit Go.Proofs.YtodpgcdandechaaGreat.Eng Enc

theorem rfloor03_any (a : Rt) (ha : a.ins) (w : World) :
    Calls Tryz.prog 218 #[.agg #[.int .i64 a.num, .int .i64 a.den]] w fun e w' => e = .returned (.tuple #[.int .i64 (Fr.floor a).1, .bool (a.ok && decide (a.den = 1)), .int .i64 (Fr.floor a).2.2]) ∧ Below w.heap.size w w' := by
  refine fun_eq 0 w Tryz.func218 (args := [.agg [.val (.int .i64 a.num), .val (.int .i64 a.den)]]) rfl rfl ?_
  refine NewI.mk fun b1 hb1 => ?_
  (first
    | (refine CallI.to1 (rmay03_any a ha) fun w2 => ?_)
    | (refine Branch.yes rfl ?_)
    | (refine Branch.no rfl ?_)
    | (refine Branch.mk (fun hb => ?_) (fun hb => ?_))
    | (refine NewI.mk fun nb hnb => ?_)
    | (refine Need.mk (by show _ ∧ _; omega) ?_)
    | (refine Need.mk (by omega) ?_)
    | (refine Need.mk ?_ ?_)
    | (refine EndI.mk fun w1 h1 => ?_))
  unfold Fr.floor
  refine Branch.mk (fun hc => ?_) (fun hc => ?_)
  · have hno : a.ok = false := by simpa using hc
    rw [hno]
    exact EndI.mk fun w3 h3 => rfl
  · have hok : a.ok = true := by simpa using hc
    have oa := Fr.ok_bd hok
    rw [if_pos hok, hok]
    refine DrawI.go (.tk 0 (.tk 1 (.tk 2 (.tk 3 (.tk 5 (.tk 6 (.tk 7 (.ev 4 (.tk 8 (.tk 9 (.tk 10 .done))))))))))) (by kernel_rfl) fun w1 h1 => ?_
    (first
      | (refine CallI.to1 (rlow03_any a.num a.den oa.1 ha.1) fun w2 => ?_)
      | (refine Branch.yes rfl ?_)
      | (refine Branch.no rfl ?_)
      | (refine Branch.mk (fun hb => ?_) (fun hb => ?_))
      | (refine NewI.mk fun nb hnb => ?_)
      | (refine Need.mk (by show _ ∧ _; omega) ?_)
      | (refine Need.mk (by omega) ?_)
      | (refine Need.mk ?_ ?_)
      | (refine EndI.mk fun w1 h1 => ?_))
    exact EndI.mk fun w3 h3 => rfl
theorem rfits14_any (long : Int) (w : World) : Calls Tryz.prog 49 #[.int .i64 long] w fun e w' => e = .returned (.bool (Rg.fits long)) ∧ Below w.heap.size w w' := by
  refine fun_eq 0 w Tryz.func49 (args := [.val (.int .i64 long)]) rfl rfl ?_
  unfold Rg.fits
  refine Branch.mk (fun hc => ?_) (fun hc => ?_)
  · refine EndI.mk fun w3 h3 => ?_
    have : decide (1 ≤ long) = true := hc
    rw [this]; rfl
  · refine EndI.mk fun w3 h3 => ?_
    have : decide (1 ≤ long) = false := hc
    rw [this]; rfl
theorem rcount14_any (long : Int) (h : 1 ≤ long ∧ long ≤ 16) (w : World) : Calls Tryz.prog 50 #[.int .i64 long] w fun e w' => e = .returned (.int .i64 (3 * (2 * long + 1) * (2 * long + 1))) ∧ Below w.heap.size w w' := by
  refine fun_eq 0 w Tryz.func50 (args := [.val (.int .i64 long)]) rfl rfl ?_
  have hm := Fr.mul_bd (u := 3 * (2 * long + 1)) (v := 2 * long + 1) (m := 99) (n := 33) (by omega) (by omega) (by omega) (by omega)
  refine Need.mk (by simp only [inK]; omega) ?_
  refine Need.mk (by simp only [inK]; omega) ?_
  refine Need.mk (by simp only [inK]; omega) ?_
  refine Need.mk (by simp only [inK]; omega) ?_
  refine Need.mk (by simp only [inK]; omega) ?_
  refine Need.mk (by simp only [inK]; omega) ?_
  exact EndI.mk fun w3 h3 => rfl
theorem Rg.many_doc {long : Int} (hl : 1 ≤ long ∧ long ≤ 16) : Rg.many long = (3 * (2 * long + 1) * (2 * long + 1), 0) := by
  unfold Rg.many; rw [if_pos (Rg.fits_iff.2 hl)]; rfl
theorem rmany14_any (long : Int) (w : World) : Calls Tryz.prog 9 #[.int .i64 long] w fun e w' => e = .returned (.tuple #[.int .i64 (Rg.many long).1, .int .i64 (Rg.many long).2]) ∧ Below w.heap.size w w' := by
  refine fun_eq 0 w Tryz.func9 (args := [.val (.int .i64 long)]) rfl rfl ?_
  (first
    | (refine CallI.to1 (rfits14_any long) fun w2 => ?_)
    | (refine Branch.yes rfl ?_)
    | (refine Branch.no rfl ?_)
    | (refine Branch.mk (fun hb => ?_) (fun hb => ?_))
    | (refine NewI.mk fun nb hnb => ?_)
    | (refine Need.mk (by show _ ∧ _; omega) ?_)
    | (refine Need.mk (by omega) ?_)
    | (refine Need.mk ?_ ?_)
    | (refine EndI.mk fun w1 h1 => ?_))
  refine Branch.mk (fun hc => ?_) (fun hc => ?_)
  · refine EndI.mk fun w3 h3 => ?_
    have : Rg.fits long = false := by simpa using hc
    unfold Rg.many
    rw [if_neg (by rw [this]; simp)]
  have hf : Rg.fits long = true := by simpa using hc
  have hl := Rg.fits_iff.1 hf
  rw [Rg.many_doc hl]
  (first
    | (refine CallI.to1 (rcount14_any long hl) fun w2 => ?_)
    | (refine Branch.yes rfl ?_)
    | (refine Branch.no rfl ?_)
    | (refine Branch.mk (fun hb => ?_) (fun hb => ?_))
    | (refine NewI.mk fun nb hnb => ?_)
    | (refine Need.mk (by show _ ∧ _; omega) ?_)
    | (refine Need.mk (by omega) ?_)
    | (refine Need.mk ?_ ?_)
    | (refine EndI.mk fun w1 h1 => ?_))
  exact EndI.mk fun w3 h3 => rfl
theorem rwhole14_any (a : Rt) (ha : a.ins) (w : World) :
    Calls Tryz.prog 156 #[.agg #[.int .i64 a.num, .int .i64 a.den]] w fun e w' => e = .returned (.int .i64 (Fr.floor a).1) ∧ Below w.heap.size w w' := by
  refine fun_eq 0 w Tryz.func156 (args := [.agg [.val (.int .i64 a.num), .val (.int .i64 a.den)]]) rfl rfl ?_
  refine NewI.mk fun b1 hb1 => ?_
  (first
    | (refine CallI.to1 (rfloor03_any a ha) fun w2 => ?_)
    | (refine Branch.yes rfl ?_)
    | (refine Branch.no rfl ?_)
    | (refine Branch.mk (fun hb => ?_) (fun hb => ?_))
    | (refine NewI.mk fun nb hnb => ?_)
    | (refine Need.mk (by show _ ∧ _; omega) ?_)
    | (refine Need.mk (by omega) ?_)
    | (refine Need.mk ?_ ?_)
    | (refine EndI.mk fun w1 h1 => ?_))
  exact EndI.mk fun w3 h3 => rfl
theorem rpart14_any (a : Rt) (ha : a.ins) (hok : a.ok = true) (hn : 0 ≤ a.num) (w : World) :
    Calls Tryz.prog 114 #[.agg #[.int .i64 a.num, .int .i64 a.den]] w fun e w' => e = .returned (.agg #[.int .i64 (Rg.part a).num, .int .i64 (Rg.part a).den]) ∧ Below w.heap.size w w' := by
  refine fun_eq 0 w Tryz.func114 (args := [.agg [.val (.int .i64 a.num), .val (.int .i64 a.den)]]) rfl rfl ?_
  have hp := Rg.part_num hok
  have oa := Fr.ok_bd hok
  have hm : 0 ≤ (Fr.floor a).1 * a.den ∧ (Fr.floor a).1 * a.den ≤ a.num ∧ a.num < (Fr.floor a).1 * a.den + a.den := by
    rw [Rg.floor_ok hok]
    have := Int.mul_ediv_add_emod a.num a.den
    rw [Int.mul_comm] at this
    have h0 := Int.mul_nonneg (Int.ediv_nonneg hn (by omega : 0 ≤ a.den)) (by omega : 0 ≤ a.den)
    omega
  have h2 := ha.1
  simp only [inK] at h2
  refine NewI.mk fun b1 hb1 => ?_
  refine NewI.mk fun b2 hb2 => ?_
  refine DrawI.wr (.tk 0 (.tk 1 (.tk 2 (.tk 4 (.tk 5 (.tk 8 (.tk 9 (.ev 3 (.tk 6 (.tk 7 (.tk 10 (.ev 11 .done)))))))))))) [1] [] (by kernel_rfl) rfl (by simp) fun w1 h1 => ?_
  (first
    | (refine CallI.to1 (rwhole14_any a ha) fun w2 => ?_)
    | (refine Branch.yes rfl ?_)
    | (refine Branch.no rfl ?_)
    | (refine Branch.mk (fun hb => ?_) (fun hb => ?_))
    | (refine NewI.mk fun nb hnb => ?_)
    | (refine Need.mk (by show _ ∧ _; omega) ?_)
    | (refine Need.mk (by omega) ?_)
    | (refine Need.mk ?_ ?_)
    | (refine EndI.mk fun w1 h1 => ?_))
  refine Need.mk (by simp only [inK]; omega) ?_
  refine Need.mk (by simp only [inK]; omega) ?_
  exact EndI.mk fun w3 h3 => by rw [hp.1, hp.2]
theorem rplace14_any (a : Rt) (ha : a.ins) (hok : a.ok = true) (hpl : 0 ≤ Rg.place a ∧ Rg.place a ≤ 1000) (w : World) :
    Calls Tryz.prog 115 #[.agg #[.int .i64 a.num, .int .i64 a.den]] w fun e w' => e = .returned (.int .i64 (Rg.place a)) ∧ Below w.heap.size w w' := by
  refine fun_eq 0 w Tryz.func115 (args := [.agg [.val (.int .i64 a.num), .val (.int .i64 a.den)]]) rfl rfl ?_
  refine NewI.mk fun b1 hb1 => ?_
  rw [Rg.place_den hok] at hpl ⊢
  refine Branch.mk (fun hc => ?_) (fun hc => ?_)
  · have h1 : a.den = 1 := by simpa using hc
    rw [if_pos h1] at hpl ⊢
    refine Need.mk (by simp only [inK]; omega) ?_
    exact EndI.mk fun w3 h3 => rfl
  · have h1 : ¬ a.den = 1 := by simpa using hc
    rw [if_neg h1] at hpl ⊢
    (first
      | (refine CallI.to1 (rwhole14_any a ha) fun w2 => ?_)
      | (refine Branch.yes rfl ?_)
      | (refine Branch.no rfl ?_)
      | (refine Branch.mk (fun hb => ?_) (fun hb => ?_))
      | (refine NewI.mk fun nb hnb => ?_)
      | (refine Need.mk (by show _ ∧ _; omega) ?_)
      | (refine Need.mk (by omega) ?_)
      | (refine Need.mk ?_ ?_)
      | (refine EndI.mk fun w1 h1 => ?_))
    refine Need.mk (by simp only [inK]; omega) ?_
    refine Need.mk (by simp only [inK]; omega) ?_
    exact EndI.mk fun w3 h3 => rfl
theorem rnumber14_any (p : Pt) (long : Int) (hp : p.ins) (ht : p.t.ok = true) (hu : p.u.ok = true) (hl : 1 ≤ long ∧ long ≤ 16) (w : World) :
    Calls Tryz.prog 54 #[.agg #[.int .i64 p.t.num, .int .i64 p.t.den, .int .i64 p.u.num, .int .i64 p.u.den], .int .i64 long] w fun e w' => e = .returned (.int .i64 (Rg.number p long)) ∧ Below w.heap.size w w' := by
  refine fun_eq 0 w Tryz.func54 (args := [.agg [.val (.int .i64 p.t.num), .val (.int .i64 p.t.den), .val (.int .i64 p.u.num), .val (.int .i64 p.u.den)], .val (.int .i64 long)]) rfl rfl ?_
  refine NewI.mk fun b1 hb1 => ?_
  have hlo : (⟨long, 1⟩ : Rt).ok = true := Rg.ofI_ok (by omega)
  have hli : (⟨long, 1⟩ : Rt).ins := ⟨by simp only [inK]; omega, by simp only [inK]; omega⟩
  rw [Rg.number_doc ht hu hl]
  (first
    | (refine CallI.to1 (rcompared_any p.t p.u ht hu hp.1 hp.2) fun w2 => ?_)
    | (refine Branch.yes rfl ?_)
    | (refine Branch.no rfl ?_)
    | (refine Branch.mk (fun hb => ?_) (fun hb => ?_))
    | (refine NewI.mk fun nb hnb => ?_)
    | (refine Need.mk (by show _ ∧ _; omega) ?_)
    | (refine Need.mk (by omega) ?_)
    | (refine Need.mk ?_ ?_)
    | (refine EndI.mk fun w1 h1 => ?_))
  refine Branch.mk (fun hc => ?_) (fun hc => ?_)
  · rw [if_pos (.inl (by simpa using hc))]
    exact EndI.mk fun w3 h3 => rfl
  have c1 : ¬ 0 ≤ Fr.cmpR p.t p.u := by simpa using hc
  refine Branch.mk (fun hc2 => ?_) (fun hc2 => ?_)
  · rw [if_pos (.inr (.inl (by simpa using hc2)))]
    exact EndI.mk fun w3 h3 => rfl
  have c2 : ¬ p.t.num < 0 := by simpa using hc2
  (first
    | (refine CallI.to1 (rcompared_any p.u ⟨long, 1⟩ hu hlo hp.2 hli) fun w2 => ?_)
    | (refine Branch.yes rfl ?_)
    | (refine Branch.no rfl ?_)
    | (refine Branch.mk (fun hb => ?_) (fun hb => ?_))
    | (refine NewI.mk fun nb hnb => ?_)
    | (refine Need.mk (by show _ ∧ _; omega) ?_)
    | (refine Need.mk (by omega) ?_)
    | (refine Need.mk ?_ ?_)
    | (refine EndI.mk fun w1 h1 => ?_))
  refine Branch.mk (fun hc3 => ?_) (fun hc3 => ?_)
  · rw [if_pos (.inr (.inr (by simpa using hc3)))]
    exact EndI.mk fun w3 h3 => rfl
  have c3 : ¬ 0 < Fr.cmpR p.u ⟨long, 1⟩ := by simpa using hc3
  rw [if_neg (by omega)]
  have hcmp : (Fr.cmp p.t p.u).1 < 0 := by rw [Rg.cmp_ok ht hu]; omega
  have hpt : 0 ≤ Rg.place p.t := by have := Rg.place_neg ht; omega
  have hpu : Rg.place p.u < Rg.sides long := by have := Rg.place_top hu hl; omega
  have hpb := Rg.place_bd hcmp
  have hs : 3 ≤ Rg.sides long ∧ Rg.sides long ≤ 33 := by unfold Rg.sides; omega
  have hnu : 0 ≤ p.u.num := by
    have h1 := Fr.ok_bd ht
    have h2 := Fr.ok_bd hu
    have h3 := (Rg.cmp_lt hcmp).2.2
    rcases Int.lt_or_le p.u.num 0 with h | h
    · have h4 : 0 ≤ p.t.num * p.u.den := Int.mul_nonneg (by omega) (by omega)
      have h5 : p.u.num * p.t.den ≤ 0 := Int.mul_nonpos_of_nonpos_of_nonneg (by omega) (by omega)
      omega
    · exact h
  have hpu0 : 0 ≤ Rg.place p.u := by have := Rg.place_neg hu; omega
  have hm := Fr.mul_bd (u := Rg.place p.t) (v := 2 * long + 1) (m := 34) (n := 33) (by omega) (by omega) (by omega) (by omega)
  have hcc : -1 ≤ Fr.cmpR (Rg.part p.t) (Rg.part p.u) ∧ Fr.cmpR (Rg.part p.t) (Rg.part p.u) ≤ 1 := by
    unfold Fr.cmpR cmpI
    split
    · omega
    · split <;> omega
  have fin : ∀ (o : Int), 0 ≤ o ∧ o ≤ 2 → ∀ w : World, True := fun _ _ _ => trivial
  refine Branch.mk (fun hc4 => ?_) (fun hc4 => ?_)
  · have d1 : p.t.den ≠ 1 := by simpa using hc4
    refine Branch.mk (fun hc5 => ?_) (fun hc5 => ?_)
    · have d2 : p.u.den ≠ 1 := by simpa using hc5
      rw [if_pos ⟨d1, d2⟩]
      refine DrawI.go (.tk 0 (.tk 1 (.tk 3 (.tk 4 (.ev 2 (.ev 5 (.ev 6 (.tk 7 (.tk 8 .done))))))))) (by kernel_rfl) fun w1 h1 => ?_
      (first
        | (refine CallI.to1 (rpart14_any p.t hp.1 ht (by omega)) fun w2 => ?_)
        | (refine Branch.yes rfl ?_)
        | (refine Branch.no rfl ?_)
        | (refine Branch.mk (fun hb => ?_) (fun hb => ?_))
        | (refine NewI.mk fun nb hnb => ?_)
        | (refine Need.mk (by show _ ∧ _; omega) ?_)
        | (refine Need.mk (by omega) ?_)
        | (refine Need.mk ?_ ?_)
        | (refine EndI.mk fun w1 h1 => ?_))
      (first
        | (refine CallI.to1 (rpart14_any p.u hp.2 hu hnu) fun w2 => ?_)
        | (refine Branch.yes rfl ?_)
        | (refine Branch.no rfl ?_)
        | (refine Branch.mk (fun hb => ?_) (fun hb => ?_))
        | (refine NewI.mk fun nb hnb => ?_)
        | (refine Need.mk (by show _ ∧ _; omega) ?_)
        | (refine Need.mk (by omega) ?_)
        | (refine Need.mk ?_ ?_)
        | (refine EndI.mk fun w1 h1 => ?_))
      (first
        | (refine CallI.to1 (rcompared_any (Rg.part p.t) (Rg.part p.u) (Rg.part_ok ht) (Rg.part_ok hu) (Rg.part_ins _) (Rg.part_ins _)) fun w2 => ?_)
        | (refine Branch.yes rfl ?_)
        | (refine Branch.no rfl ?_)
        | (refine Branch.mk (fun hb => ?_) (fun hb => ?_))
        | (refine NewI.mk fun nb hnb => ?_)
        | (refine Need.mk (by show _ ∧ _; omega) ?_)
        | (refine Need.mk (by omega) ?_)
        | (refine Need.mk ?_ ?_)
        | (refine EndI.mk fun w1 h1 => ?_))
      refine Need.mk (by simp only [inK]; omega) ?_
      refine DrawI.go (.tk 0 (.tk 1 (.tk 3 (.tk 4 (.tk 5 (.tk 7 (.tk 8 (.tk 12 (.ev 2 (.tk 6 (.ev 9 (.tk 10 (.tk 11 (.tk 13 (.tk 14 .done))))))))))))))) (by kernel_rfl) fun w1 h1 => ?_
      refine Need.mk (by simp only [inK]; omega) ?_
      refine Need.mk (by simp only [inK]; omega) ?_
      (first
        | (refine CallI.to1 (rplace14_any p.t hp.1 ht (by omega)) fun w2 => ?_)
        | (refine Branch.yes rfl ?_)
        | (refine Branch.no rfl ?_)
        | (refine Branch.mk (fun hb => ?_) (fun hb => ?_))
        | (refine NewI.mk fun nb hnb => ?_)
        | (refine Need.mk (by show _ ∧ _; omega) ?_)
        | (refine Need.mk (by omega) ?_)
        | (refine Need.mk ?_ ?_)
        | (refine EndI.mk fun w1 h1 => ?_))
      refine Need.mk (by simp only [inK]; omega) ?_
      (first
        | (refine CallI.to1 (rplace14_any p.u hp.2 hu (by omega)) fun w2 => ?_)
        | (refine Branch.yes rfl ?_)
        | (refine Branch.no rfl ?_)
        | (refine Branch.mk (fun hb => ?_) (fun hb => ?_))
        | (refine NewI.mk fun nb hnb => ?_)
        | (refine Need.mk (by show _ ∧ _; omega) ?_)
        | (refine Need.mk (by omega) ?_)
        | (refine Need.mk ?_ ?_)
        | (refine EndI.mk fun w1 h1 => ?_))
      refine Need.mk (by simp only [inK]; omega) ?_
      refine Need.mk (by simp only [inK]; omega) ?_
      refine Need.mk (by simp only [inK]; omega) ?_
      exact EndI.mk fun w3 h3 => rfl
    · have d2 : ¬ p.u.den ≠ 1 := by simpa using hc5
      rw [if_neg (fun h => d2 h.2)]
      refine DrawI.go (.tk 0 (.tk 1 (.tk 3 (.tk 4 (.tk 5 (.tk 7 (.tk 8 (.tk 12 (.ev 2 (.tk 6 (.ev 9 (.tk 10 (.tk 11 (.tk 13 (.tk 14 .done))))))))))))))) (by kernel_rfl) fun w1 h1 => ?_
      refine Need.mk (by simp only [inK]; omega) ?_
      refine Need.mk (by simp only [inK]; omega) ?_
      (first
        | (refine CallI.to1 (rplace14_any p.t hp.1 ht (by omega)) fun w2 => ?_)
        | (refine Branch.yes rfl ?_)
        | (refine Branch.no rfl ?_)
        | (refine Branch.mk (fun hb => ?_) (fun hb => ?_))
        | (refine NewI.mk fun nb hnb => ?_)
        | (refine Need.mk (by show _ ∧ _; omega) ?_)
        | (refine Need.mk (by omega) ?_)
        | (refine Need.mk ?_ ?_)
        | (refine EndI.mk fun w1 h1 => ?_))
      refine Need.mk (by simp only [inK]; omega) ?_
      (first
        | (refine CallI.to1 (rplace14_any p.u hp.2 hu (by omega)) fun w2 => ?_)
        | (refine Branch.yes rfl ?_)
        | (refine Branch.no rfl ?_)
        | (refine Branch.mk (fun hb => ?_) (fun hb => ?_))
        | (refine NewI.mk fun nb hnb => ?_)
        | (refine Need.mk (by show _ ∧ _; omega) ?_)
        | (refine Need.mk (by omega) ?_)
        | (refine Need.mk ?_ ?_)
        | (refine EndI.mk fun w1 h1 => ?_))
      refine Need.mk (by simp only [inK]; omega) ?_
      refine Need.mk (by simp only [inK]; omega) ?_
      refine Need.mk (by simp only [inK]; omega) ?_
      exact EndI.mk fun w3 h3 => rfl
  · have d1 : ¬ p.t.den ≠ 1 := by simpa using hc4
    rw [if_neg (fun h => d1 h.1)]
    refine DrawI.go (.tk 0 (.tk 1 (.tk 3 (.tk 4 (.tk 5 (.tk 7 (.tk 8 (.tk 12 (.ev 2 (.tk 6 (.ev 9 (.tk 10 (.tk 11 (.tk 13 (.tk 14 .done))))))))))))))) (by kernel_rfl) fun w1 h1 => ?_
    refine Need.mk (by simp only [inK]; omega) ?_
    refine Need.mk (by simp only [inK]; omega) ?_
    (first
      | (refine CallI.to1 (rplace14_any p.t hp.1 ht (by omega)) fun w2 => ?_)
      | (refine Branch.yes rfl ?_)
      | (refine Branch.no rfl ?_)
      | (refine Branch.mk (fun hb => ?_) (fun hb => ?_))
      | (refine NewI.mk fun nb hnb => ?_)
      | (refine Need.mk (by show _ ∧ _; omega) ?_)
      | (refine Need.mk (by omega) ?_)
      | (refine Need.mk ?_ ?_)
      | (refine EndI.mk fun w1 h1 => ?_))
    refine Need.mk (by simp only [inK]; omega) ?_
    (first
      | (refine CallI.to1 (rplace14_any p.u hp.2 hu (by omega)) fun w2 => ?_)
      | (refine Branch.yes rfl ?_)
      | (refine Branch.no rfl ?_)
      | (refine Branch.mk (fun hb => ?_) (fun hb => ?_))
      | (refine NewI.mk fun nb hnb => ?_)
      | (refine Need.mk (by show _ ∧ _; omega) ?_)
      | (refine Need.mk (by omega) ?_)
      | (refine Need.mk ?_ ?_)
      | (refine EndI.mk fun w1 h1 => ?_))
    refine Need.mk (by simp only [inK]; omega) ?_
    refine Need.mk (by simp only [inK]; omega) ?_
    refine Need.mk (by simp only [inK]; omega) ?_
    exact EndI.mk fun w3 h3 => rfl
theorem rmaypoint_any (p : Pt) (hp : p.ins) (w : World) :
    Calls Tryz.prog 53 #[.agg #[.int .i64 p.t.num, .int .i64 p.t.den, .int .i64 p.u.num, .int .i64 p.u.den]] w fun e w' => e = .returned (.bool (p.t.ok && p.u.ok)) ∧ Below w.heap.size w w' := by
  refine fun_eq 0 w Tryz.func53 (args := [.agg [.val (.int .i64 p.t.num), .val (.int .i64 p.t.den), .val (.int .i64 p.u.num), .val (.int .i64 p.u.den)]]) rfl rfl ?_
  refine NewI.mk fun b1 hb1 => ?_
  (first
    | (refine CallI.to1 (rmay03_any p.t hp.1) fun w2 => ?_)
    | (refine Branch.yes rfl ?_)
    | (refine Branch.no rfl ?_)
    | (refine Branch.mk (fun hb => ?_) (fun hb => ?_))
    | (refine NewI.mk fun nb hnb => ?_)
    | (refine Need.mk (by show _ ∧ _; omega) ?_)
    | (refine Need.mk (by omega) ?_)
    | (refine Need.mk ?_ ?_)
    | (refine EndI.mk fun w1 h1 => ?_))
  refine Branch.mk (fun hc => ?_) (fun hc => ?_)
  · (first
    | (refine CallI.to1 (rmay03_any p.u hp.2) fun w2 => ?_)
    | (refine Branch.yes rfl ?_)
    | (refine Branch.no rfl ?_)
    | (refine Branch.mk (fun hb => ?_) (fun hb => ?_))
    | (refine NewI.mk fun nb hnb => ?_)
    | (refine Need.mk (by show _ ∧ _; omega) ?_)
    | (refine Need.mk (by omega) ?_)
    | (refine Need.mk ?_ ?_)
    | (refine EndI.mk fun w1 h1 => ?_))
    exact EndI.mk fun w3 h3 => by rw [hc]; rfl
  · exact EndI.mk fun w3 h3 => by rw [hc]; rfl
theorem rasknumber14_any (p : Pt) (long : Int) (hp : p.ins) (w : World) :
    Calls Tryz.prog 11 #[.agg #[.int .i64 p.t.num, .int .i64 p.t.den, .int .i64 p.u.num, .int .i64 p.u.den], .int .i64 long] w fun e w' => e = .returned (.tuple #[.int .i64 (Rg.askNumber p long).1, .int .i64 (Rg.askNumber p long).2]) ∧ Below w.heap.size w w' := by
  refine fun_eq 0 w Tryz.func11 (args := [.agg [.val (.int .i64 p.t.num), .val (.int .i64 p.t.den), .val (.int .i64 p.u.num), .val (.int .i64 p.u.den)], .val (.int .i64 long)]) rfl rfl ?_
  refine NewI.mk fun b1 hb1 => ?_
  (first
    | (refine CallI.to1 (rfits14_any long) fun w2 => ?_)
    | (refine Branch.yes rfl ?_)
    | (refine Branch.no rfl ?_)
    | (refine Branch.mk (fun hb => ?_) (fun hb => ?_))
    | (refine NewI.mk fun nb hnb => ?_)
    | (refine Need.mk (by show _ ∧ _; omega) ?_)
    | (refine Need.mk (by omega) ?_)
    | (refine Need.mk ?_ ?_)
    | (refine EndI.mk fun w1 h1 => ?_))
  unfold Rg.askNumber
  refine Branch.mk (fun hc => ?_) (fun hc => ?_)
  · refine EndI.mk fun w3 h3 => ?_
    have : Rg.fits long = false := by simpa using hc
    rw [if_neg (by rw [this]; simp)]
  have hf : Rg.fits long = true := by simpa using hc
  rw [if_pos hf]
  (first
    | (refine CallI.to1 (rmaypoint_any p hp) fun w2 => ?_)
    | (refine Branch.yes rfl ?_)
    | (refine Branch.no rfl ?_)
    | (refine Branch.mk (fun hb => ?_) (fun hb => ?_))
    | (refine NewI.mk fun nb hnb => ?_)
    | (refine Need.mk (by show _ ∧ _; omega) ?_)
    | (refine Need.mk (by omega) ?_)
    | (refine Need.mk ?_ ?_)
    | (refine EndI.mk fun w1 h1 => ?_))
  refine Branch.mk (fun hc2 => ?_) (fun hc2 => ?_)
  · refine EndI.mk fun w3 h3 => ?_
    have : (p.t.ok && p.u.ok) = false := by revert hc2; cases p.t.ok <;> cases p.u.ok <;> simp
    rw [if_neg (fun h => by rw [h.1, h.2] at this; cases this)]
  have hok : p.t.ok = true ∧ p.u.ok = true := by simpa using hc2
  rw [if_pos hok]
  (first
    | (refine CallI.to1 (rnumber14_any p long hp hok.1 hok.2 (Rg.fits_iff.1 hf)) fun w2 => ?_)
    | (refine Branch.yes rfl ?_)
    | (refine Branch.no rfl ?_)
    | (refine Branch.mk (fun hb => ?_) (fun hb => ?_))
    | (refine NewI.mk fun nb hnb => ?_)
    | (refine Need.mk (by show _ ∧ _; omega) ?_)
    | (refine Need.mk (by omega) ?_)
    | (refine Need.mk ?_ ?_)
    | (refine EndI.mk fun w1 h1 => ?_))
  refine Branch.mk (fun hc4 => ?_) (fun hc4 => ?_)
  · refine EndI.mk fun w3 h3 => ?_
    rw [if_pos (by simpa using hc4)]
  · refine EndI.mk fun w3 h3 => ?_
    rw [if_neg (by simpa using hc4)]
end Go.Proofs.YtodpgcdandechaaGreat

/-
  A region's zone in closed form: what is gone through, case by case, in the texts Zones6 and on.
-/
namespace Go.Proofs.YtodpgcdandechaaGreat
open Go.RowKit Go.Proofs.YtodpgcdandechaaGreat.Eng Enc
namespace Rg
/-- a region's zone and point, out of its places and its order. -/
def diff3 (T U r : Int) : Sp := if T % 2 = 1 ∧ U % 2 = 1 then around (U - T + 1 - r) else ⟨-16, false, 16, false, false⟩
def zone3 (T U r : Int) : Zn × Int := Zo.make (around T) (around U) (diff3 T U r)
def pt3 (T U r : Int) : Pt := ⟨time T (parts r).1 (parts r).2.2, time U (parts r).2.1 (parts r).2.2⟩
def good3 (T U r : Int) : Bool := decide ((Fr.cmp (pt3 T U r).t (pt3 T U r).u).1 < 0) && decide (place (pt3 T U r).t = T) && decide (place (pt3 T U r).u = U) && decide (order (pt3 T U r) = r)
/-- a zone and an error, compared. -/
def zeq (x : Zn × Int) (z : Zn) : Bool := decide (Zo.matL x.1 = Zo.matL z) && decide (x.2 = 0)
def fine3 (T U r : Int) : Bool := !(good3 T U r) || (may3 T U r && zeq (zone3 T U r) (cl3 T U r) && decide (Zo.chk (cl3 T U r) = 0))
def fine (T : Int) : Bool := (List.range 33).all fun U : Nat => (List.range 3).all fun r : Nat => fine3 T U r
theorem zeq_eq {x : Zn × Int} {z : Zn} (h : zeq x z = true) : x = (z, 0) := by
  simp only [zeq, Bool.and_eq_true, decide_eq_true_eq, Zo.matL, List.cons.injEq, and_true, true_and] at h
  obtain ⟨⟨h1, h2, h3, h4, h5, h6⟩, h7⟩ := h
  obtain ⟨⟨a, b, c, d, e, f⟩, g⟩ := x
  obtain ⟨a', b', c', d', e', f'⟩ := z
  simp only at h1 h2 h3 h4 h5 h6 h7
  subst h1; subst h2; subst h3; subst h4; subst h5; subst h6; subst h7
  rfl
theorem fine_at {T U r : Int} (h : fine T = true) (hU : 0 ≤ U ∧ U < 33) (hr : 0 ≤ r ∧ r < 3) : fine3 T U r = true := by
  have h1 := List.all_eq_true.1 h U.toNat (List.mem_range.2 (by omega))
  have h2 := List.all_eq_true.1 h1 r.toNat (List.mem_range.2 (by omega))
  rwa [Int.toNat_of_nonneg hU.1, Int.toNat_of_nonneg hr.1] at h2
end Rg
end Go.Proofs.YtodpgcdandechaaGreat

/-
  A region's zone by the document: what is gone through, case by case, in the texts ZonesR0 and on.
-/
namespace Go.Proofs.YtodpgcdandechaaGreat
open Go.RowKit Go.Proofs.YtodpgcdandechaaGreat.Eng Enc
namespace Rg
/-- a span's bounds, by the document. -/
def ab (s : Sp) : Int := if s.op = true then 9223372036854775807 else Bd.mk s.hi s.hs
def be (s : Sp) : Int := Bd.mk (0 - s.lo) s.ls
def raw (t u d : Sp) : Zn := ⟨ab t, be t, ab u, be u, ab d, be d⟩
def rdiff3 (T U r : Int) : Sp := if T % 2 = 1 ∧ U % 2 = 1 then around (U - T + 1 - r) else ⟨0, false, 0, false, true⟩
def raw3 (T U r : Int) : Zn := raw (around T) (around U) (rdiff3 T U r)
def fineR3 (T U r : Int) : Bool := !(may3 T U r) || (decide (Dbm.chk 3 (Zo.matL (raw3 T U r)) = 0) && zeq (Zo.of 3 (Zo.matL (raw3 T U r))) (cl3 T U r))
def fineR (T : Int) : Bool := (List.range 33).all fun U : Nat => (List.range 3).all fun r : Nat => fineR3 T U r
theorem fineR_at {T U r : Int} (h : fineR T = true) (hU : 0 ≤ U ∧ U < 33) (hr : 0 ≤ r ∧ r < 3) : fineR3 T U r = true := by
  have h1 := List.all_eq_true.1 h U.toNat (List.mem_range.2 (by omega))
  have h2 := List.all_eq_true.1 h1 r.toNat (List.mem_range.2 (by omega))
  rwa [Int.toNat_of_nonneg hU.1, Int.toNat_of_nonneg hr.1] at h2
end Rg
end Go.Proofs.YtodpgcdandechaaGreat

/-
  A region's zone by the document: the cases of some places.
-/
namespace Go.Proofs.YtodpgcdandechaaGreat
set_option maxRecDepth 100000
namespace Rg
theorem fineR_0 : fineR 0 = true := by decide +kernel
theorem fineR_1 : fineR 1 = true := by decide +kernel
theorem fineR_2 : fineR 2 = true := by decide +kernel
theorem fineR_3 : fineR 3 = true := by decide +kernel
theorem fineR_4 : fineR 4 = true := by decide +kernel
theorem fineR_5 : fineR 5 = true := by decide +kernel
theorem fineR_6 : fineR 6 = true := by decide +kernel
theorem fineR_7 : fineR 7 = true := by decide +kernel
theorem fineR_8 : fineR 8 = true := by decide +kernel
end Rg
end Go.Proofs.YtodpgcdandechaaGreat

/-
  A region's zone by the document: the cases of some places.
-/
namespace Go.Proofs.YtodpgcdandechaaGreat
set_option maxRecDepth 100000
namespace Rg
theorem fineR_9 : fineR 9 = true := by decide +kernel
theorem fineR_10 : fineR 10 = true := by decide +kernel
theorem fineR_11 : fineR 11 = true := by decide +kernel
theorem fineR_12 : fineR 12 = true := by decide +kernel
theorem fineR_13 : fineR 13 = true := by decide +kernel
theorem fineR_14 : fineR 14 = true := by decide +kernel
theorem fineR_15 : fineR 15 = true := by decide +kernel
theorem fineR_16 : fineR 16 = true := by decide +kernel
theorem fineR_17 : fineR 17 = true := by decide +kernel
end Rg
end Go.Proofs.YtodpgcdandechaaGreat

/-
  A region's zone by the document: the cases of some places.
-/
namespace Go.Proofs.YtodpgcdandechaaGreat
set_option maxRecDepth 100000
namespace Rg
theorem fineR_18 : fineR 18 = true := by decide +kernel
theorem fineR_19 : fineR 19 = true := by decide +kernel
theorem fineR_20 : fineR 20 = true := by decide +kernel
theorem fineR_21 : fineR 21 = true := by decide +kernel
theorem fineR_22 : fineR 22 = true := by decide +kernel
theorem fineR_23 : fineR 23 = true := by decide +kernel
theorem fineR_24 : fineR 24 = true := by decide +kernel
theorem fineR_25 : fineR 25 = true := by decide +kernel
theorem fineR_26 : fineR 26 = true := by decide +kernel
end Rg
end Go.Proofs.YtodpgcdandechaaGreat

/-
  A region's zone by the document: the cases of some places.
-/
namespace Go.Proofs.YtodpgcdandechaaGreat
set_option maxRecDepth 100000
namespace Rg
theorem fineR_27 : fineR 27 = true := by decide +kernel
theorem fineR_28 : fineR 28 = true := by decide +kernel
theorem fineR_29 : fineR 29 = true := by decide +kernel
theorem fineR_30 : fineR 30 = true := by decide +kernel
theorem fineR_31 : fineR 31 = true := by decide +kernel
theorem fineR_32 : fineR 32 = true := by decide +kernel
end Rg
end Go.Proofs.YtodpgcdandechaaGreat

/-
  A region's zone by the document, of all places.
-/
namespace Go.Proofs.YtodpgcdandechaaGreat
set_option linter.unusedVariables false
namespace Rg
theorem fineR_all {T : Int} (h : 0 ≤ T ∧ T < 33) : fineR T = true := by
  have h2 : T = 0 ∨ T = 1 ∨ T = 2 ∨ T = 3 ∨ T = 4 ∨ T = 5 ∨ T = 6 ∨ T = 7 ∨ T = 8 ∨ T = 9 ∨ T = 10 ∨ T = 11 ∨ T = 12 ∨ T = 13 ∨ T = 14 ∨ T = 15 ∨ T = 16 ∨ T = 17 ∨ T = 18 ∨ T = 19 ∨ T = 20 ∨ T = 21 ∨ T = 22 ∨ T = 23 ∨ T = 24 ∨ T = 25 ∨ T = 26 ∨ T = 27 ∨ T = 28 ∨ T = 29 ∨ T = 30 ∨ T = 31 ∨ T = 32 := by omega
  rcases h2 with rfl | rfl | rfl | rfl | rfl | rfl | rfl | rfl | rfl | rfl | rfl | rfl | rfl | rfl | rfl | rfl | rfl | rfl | rfl | rfl | rfl | rfl | rfl | rfl | rfl | rfl | rfl | rfl | rfl | rfl | rfl | rfl | rfl
  · exact fineR_0
  · exact fineR_1
  · exact fineR_2
  · exact fineR_3
  · exact fineR_4
  · exact fineR_5
  · exact fineR_6
  · exact fineR_7
  · exact fineR_8
  · exact fineR_9
  · exact fineR_10
  · exact fineR_11
  · exact fineR_12
  · exact fineR_13
  · exact fineR_14
  · exact fineR_15
  · exact fineR_16
  · exact fineR_17
  · exact fineR_18
  · exact fineR_19
  · exact fineR_20
  · exact fineR_21
  · exact fineR_22
  · exact fineR_23
  · exact fineR_24
  · exact fineR_25
  · exact fineR_26
  · exact fineR_27
  · exact fineR_28
  · exact fineR_29
  · exact fineR_30
  · exact fineR_31
  · exact fineR_32
end Rg
end Go.Proofs.YtodpgcdandechaaGreat

/-
  A region's zone in closed form: the cases of some places.
-/
namespace Go.Proofs.YtodpgcdandechaaGreat
set_option maxRecDepth 100000
namespace Rg
theorem fine_0 : fine 0 = true := by decide +kernel
theorem fine_1 : fine 1 = true := by decide +kernel
theorem fine_2 : fine 2 = true := by decide +kernel
end Rg
end Go.Proofs.YtodpgcdandechaaGreat

/-
  A region's zone in closed form: the cases of some places.
-/
namespace Go.Proofs.YtodpgcdandechaaGreat
set_option maxRecDepth 100000
namespace Rg
theorem fine_3 : fine 3 = true := by decide +kernel
theorem fine_4 : fine 4 = true := by decide +kernel
theorem fine_5 : fine 5 = true := by decide +kernel
end Rg
end Go.Proofs.YtodpgcdandechaaGreat

/-
  A region's zone in closed form: the cases of some places.
-/
namespace Go.Proofs.YtodpgcdandechaaGreat
set_option maxRecDepth 100000
namespace Rg
theorem fine_6 : fine 6 = true := by decide +kernel
theorem fine_7 : fine 7 = true := by decide +kernel
theorem fine_8 : fine 8 = true := by decide +kernel
end Rg
end Go.Proofs.YtodpgcdandechaaGreat

/-
  A region's zone in closed form: the cases of some places.
-/
namespace Go.Proofs.YtodpgcdandechaaGreat
set_option maxRecDepth 100000
namespace Rg
theorem fine_9 : fine 9 = true := by decide +kernel
theorem fine_10 : fine 10 = true := by decide +kernel
theorem fine_11 : fine 11 = true := by decide +kernel
end Rg
end Go.Proofs.YtodpgcdandechaaGreat

/-
  A region's zone in closed form: the cases of some places.
-/
namespace Go.Proofs.YtodpgcdandechaaGreat
set_option maxRecDepth 100000
namespace Rg
theorem fine_12 : fine 12 = true := by decide +kernel
theorem fine_13 : fine 13 = true := by decide +kernel
theorem fine_14 : fine 14 = true := by decide +kernel
end Rg
end Go.Proofs.YtodpgcdandechaaGreat

/-
  A region's zone in closed form: the cases of some places.
-/
namespace Go.Proofs.YtodpgcdandechaaGreat
set_option maxRecDepth 100000
namespace Rg
theorem fine_15 : fine 15 = true := by decide +kernel
theorem fine_16 : fine 16 = true := by decide +kernel
theorem fine_17 : fine 17 = true := by decide +kernel
end Rg
end Go.Proofs.YtodpgcdandechaaGreat

/-
  A region's zone in closed form: the cases of some places.
-/
namespace Go.Proofs.YtodpgcdandechaaGreat
set_option maxRecDepth 100000
namespace Rg
theorem fine_18 : fine 18 = true := by decide +kernel
theorem fine_19 : fine 19 = true := by decide +kernel
theorem fine_20 : fine 20 = true := by decide +kernel
end Rg
end Go.Proofs.YtodpgcdandechaaGreat

/-
  A region's zone in closed form: the cases of some places.
-/
namespace Go.Proofs.YtodpgcdandechaaGreat
set_option maxRecDepth 100000
namespace Rg
theorem fine_21 : fine 21 = true := by decide +kernel
theorem fine_22 : fine 22 = true := by decide +kernel
theorem fine_23 : fine 23 = true := by decide +kernel
end Rg
end Go.Proofs.YtodpgcdandechaaGreat

/-
  A region's zone in closed form: the cases of some places.
-/
namespace Go.Proofs.YtodpgcdandechaaGreat
set_option maxRecDepth 100000
namespace Rg
theorem fine_24 : fine 24 = true := by decide +kernel
theorem fine_25 : fine 25 = true := by decide +kernel
theorem fine_26 : fine 26 = true := by decide +kernel
end Rg
end Go.Proofs.YtodpgcdandechaaGreat

/-
  A region's zone in closed form: the cases of some places.
-/
namespace Go.Proofs.YtodpgcdandechaaGreat
set_option maxRecDepth 100000
namespace Rg
theorem fine_27 : fine 27 = true := by decide +kernel
theorem fine_28 : fine 28 = true := by decide +kernel
theorem fine_29 : fine 29 = true := by decide +kernel
end Rg
end Go.Proofs.YtodpgcdandechaaGreat

/-
  A region's zone in closed form: the cases of some places.
-/
namespace Go.Proofs.YtodpgcdandechaaGreat
set_option maxRecDepth 100000
namespace Rg
theorem fine_30 : fine 30 = true := by decide +kernel
theorem fine_31 : fine 31 = true := by decide +kernel
theorem fine_32 : fine 32 = true := by decide +kernel
end Rg
end Go.Proofs.YtodpgcdandechaaGreat

/-
  A region's zone in closed form, of all places.
-/
namespace Go.Proofs.YtodpgcdandechaaGreat
set_option linter.unusedVariables false
namespace Rg
theorem fine_all {T : Int} (h : 0 ≤ T ∧ T < 33) : fine T = true := by
  have h2 : T = 0 ∨ T = 1 ∨ T = 2 ∨ T = 3 ∨ T = 4 ∨ T = 5 ∨ T = 6 ∨ T = 7 ∨ T = 8 ∨ T = 9 ∨ T = 10 ∨ T = 11 ∨ T = 12 ∨ T = 13 ∨ T = 14 ∨ T = 15 ∨ T = 16 ∨ T = 17 ∨ T = 18 ∨ T = 19 ∨ T = 20 ∨ T = 21 ∨ T = 22 ∨ T = 23 ∨ T = 24 ∨ T = 25 ∨ T = 26 ∨ T = 27 ∨ T = 28 ∨ T = 29 ∨ T = 30 ∨ T = 31 ∨ T = 32 := by omega
  rcases h2 with rfl | rfl | rfl | rfl | rfl | rfl | rfl | rfl | rfl | rfl | rfl | rfl | rfl | rfl | rfl | rfl | rfl | rfl | rfl | rfl | rfl | rfl | rfl | rfl | rfl | rfl | rfl | rfl | rfl | rfl | rfl | rfl | rfl
  · exact fine_0
  · exact fine_1
  · exact fine_2
  · exact fine_3
  · exact fine_4
  · exact fine_5
  · exact fine_6
  · exact fine_7
  · exact fine_8
  · exact fine_9
  · exact fine_10
  · exact fine_11
  · exact fine_12
  · exact fine_13
  · exact fine_14
  · exact fine_15
  · exact fine_16
  · exact fine_17
  · exact fine_18
  · exact fine_19
  · exact fine_20
  · exact fine_21
  · exact fine_22
  · exact fine_23
  · exact fine_24
  · exact fine_25
  · exact fine_26
  · exact fine_27
  · exact fine_28
  · exact fine_29
  · exact fine_30
  · exact fine_31
  · exact fine_32
end Rg
end Go.Proofs.YtodpgcdandechaaGreat

/-
  The plain law of RegionZones, all of it.
-/
namespace Go.Proofs.YtodpgcdandechaaGreat
set_option linter.unusedVariables false
open Go.RowKit Go.Proofs.YtodpgcdandechaaGreat.Eng Enc
namespace Rg
theorem ask_ok {n long : Int} (h : (askPoint n long).2 = 0) : ((1 ≤ long ∧ long ≤ 16) ∧ 0 ≤ n ∧ n < 3 * sides long * sides long) ∧ (askPoint n long).1 = pt n long ∧ number (pt n long) long = n := by
  unfold askPoint at h ⊢
  split at h
  · cases h
  · rename_i hn
    rw [if_neg hn]
    split at h
    · rename_i hp
      rw [if_pos hp]
      exact ⟨ask_in hn, rfl, by simpa [point] using hp⟩
    · cases h
/-- what is known of a region. -/
theorem zone_ok {n long : Int} (h : (askPoint n long).2 = 0) :
    zone n long = (cl3 (n / 3 / sides long) (n / 3 % sides long) (n % 3), 0) ∧ may3 (n / 3 / sides long) (n / 3 % sides long) (n % 3) = true ∧ Zo.chk (cl3 (n / 3 / sides long) (n / 3 % sides long) (n % 3)) = 0 := by
  obtain ⟨⟨hl, h0, h1⟩, hp, hnum⟩ := ask_ok h
  have hs : 3 ≤ sides long ∧ sides long ≤ 33 := by unfold sides; omega
  obtain ⟨c1, c2, c3, c4⟩ := number_back hnum h0 hl
  have a1 : 0 ≤ n / 3 / sides long := Int.ediv_nonneg (by omega) (by omega)
  have a2 : n / 3 / sides long < sides long := by
    refine Int.ediv_lt_of_lt_mul (by omega) ?_
    have : n < 3 * (sides long * sides long) := by rw [← Int.mul_assoc]; exact h1
    omega
  have b1 := Int.emod_nonneg (n / 3) (b := sides long) (by omega)
  have b2 := Int.emod_lt_of_pos (n / 3) (b := sides long) (by omega)
  have hf := fine_at (fine_all (T := n / 3 / sides long) ⟨a1, by omega⟩) (U := n / 3 % sides long) (r := n % 3) ⟨b1, by omega⟩ ⟨by omega, by omega⟩
  have hz : zone n long = zone3 (n / 3 / sides long) (n / 3 % sides long) (n % 3) := by
    unfold zone; rw [if_pos h]; rfl
  have hpt : pt n long = pt3 (n / 3 / sides long) (n / 3 % sides long) (n % 3) := rfl
  rw [hz]
  rw [hpt] at c1 c2 c3 c4
  generalize n / 3 / sides long = T at *
  generalize n / 3 % sides long = U at *
  generalize n % 3 = r at *
  have hg : good3 T U r = true := by
    unfold good3
    simp only [Bool.and_eq_true, decide_eq_true_eq]
    exact ⟨⟨⟨c1, c2⟩, c3⟩, c4⟩
  unfold fine3 at hf
  rw [hg] at hf
  simp only [Bool.not_true, Bool.false_or, Bool.and_eq_true, decide_eq_true_eq] at hf
  exact ⟨zeq_eq hf.1.2, hf.1.1, hf.2⟩
/-- a pair has a number just if it is in the number's zone. -/
theorem zone_has {n long : Int} (h : (askPoint n long).2 = 0) (p : Pt) (hp : (Zo.has (zone n long).1 p).2 = 0) :
    (Zo.has (zone n long).1 p).1 = (decide ((askNumber p long).2 = 0) && decide ((askNumber p long).1 = n)) := by
  obtain ⟨⟨hl, h0, h1⟩, _, hnum⟩ := ask_ok h
  obtain ⟨hz, hm, hk⟩ := zone_ok h
  have hs : 3 ≤ sides long ∧ sides long ≤ 33 := by unfold sides; omega
  rw [hz] at hp ⊢
  simp only at hp ⊢
  have a1 : 0 ≤ n / 3 / sides long := Int.ediv_nonneg (by omega) (by omega)
  have b1 := Int.emod_nonneg (n / 3) (b := sides long) (by omega)
  have b2 := Int.emod_lt_of_pos (n / 3) (b := sides long) (by omega)
  unfold Zo.has at hp ⊢
  split at hp
  · rename_i hc
    rw [if_pos hc]
    obtain ⟨_, ht, hu⟩ := hc
    have hkk := Dbm.keepsK hp
    rw [hkk.2.2.2]
    have hin := in_cl3 hm p ht hu
    have hnn : ((askNumber p long).2 = 0 ∧ (askNumber p long).1 = n) ↔ number p long = n := by
      unfold askNumber
      rw [if_pos (fits_iff.2 hl), if_pos ⟨ht, hu⟩]
      split
      · simp; omega
      · simp
    have hnum2 : number p long = n ↔ ((Fr.cmp p.t p.u).1 < 0 ∧ place p.t = n / 3 / sides long ∧ place p.u = n / 3 % sides long ∧ order p = n % 3) := by
      constructor
      · exact fun e => number_back e h0 hl
      · rintro ⟨e1, e2, e3, e4⟩
        unfold number
        rw [if_neg (by omega), e2, e3, e4]
        have := Int.mul_ediv_add_emod (n / 3) (sides long)
        rw [Int.mul_comm] at this
        omega
    have : (decide ((askNumber p long).2 = 0) && decide ((askNumber p long).1 = n)) = decide (number p long = n) := by
      rw [Bool.eq_iff_iff]; simp only [Bool.and_eq_true, decide_eq_true_eq]; exact hnn
    rw [this, Bool.eq_iff_iff]
    simp only [decide_eq_true_eq]
    rw [hnum2]
    exact hin
  · cases hp
end Rg
theorem zonesLaw (n : Int) (p : Pt) (long : Int) : ZonesLaw n p long where
  ins := Rg.ask_ins n long
  same := by
    by_cases h : (Rg.askPoint n long).2 = 0
    · rw [(Rg.zone_ok h).1, h]
    · unfold Rg.zone; rw [if_neg h]
  own := Rg.ask_own
  has := fun h => by
    obtain ⟨⟨hl, h0, h1⟩, hp, hnum⟩ := Rg.ask_ok h
    obtain ⟨hz, hm, hk⟩ := Rg.zone_ok h
    have hc := (Rg.number_back hnum h0 hl).1
    obtain ⟨o1, o2, _⟩ := Rg.cmp_lt hc
    have hb := (Rg.in_cl3 hm (Rg.pt n long) o1 o2).2 (Rg.number_back hnum h0 hl)
    rw [hz, hp]
    unfold Zo.has
    rw [if_pos ⟨hk, o1, o2⟩]
    unfold Dbm.keeps
    have hcl : Dbm.chk 3 (Zo.matL (Rg.cl3 (n / 3 / Rg.sides long) (n / 3 % Rg.sides long) (n % 3))) = 0 := by
      have hk2 := Zo.chk_eq.1 hk
      rcases Classical.em (Dbm.chk 3 (Zo.matL (Rg.cl3 (n / 3 / Rg.sides long) (n / 3 % Rg.sides long) (n % 3))) = 0) with hh | hh
      · exact hh
      · exfalso
        unfold Dbm.close at hk2
        rw [if_neg hh] at hk2
        simp at hk2
    rw [if_pos ⟨hcl, by simp [o1, o2]⟩, if_pos (by simp)]
    show (Dbm.keptL 3 _ _, 0) = _
    rw [hb]
  any := fun h hp => Rg.zone_has h p hp
end Go.Proofs.YtodpgcdandechaaGreat

/-
  The document's own closing: the least simple way between two clocks; it is the closing of XPlainDbm.
-/
namespace Go.Proofs.YtodpgcdandechaaGreat
set_option linter.unusedVariables false
set_option linter.unusedSimpArgs false
namespace Dbm
/-- is a clock among some (bits)? -/
def inS (S k : Nat) : Bool := decide (S / 2 ^ k % 2 = 1)
def pc (S : Nat) : Nat := (if inS S 0 then 1 else 0) + (if inS S 1 then 1 else 0) + (if inS S 2 then 1 else 0) + (if inS S 3 then 1 else 0)
theorem four {k : Nat} (h : k < 4) : k = 0 ∨ k = 1 ∨ k = 2 ∨ k = 3 := by omega
theorem inS_less {S k a : Nat} (hk : inS S k = true) (hS : S < 16) (hk4 : k < 4) (ha : a < 4) : (inS (S - 2 ^ k) a = true ↔ inS S a = true ∧ a ≠ k) ∧ pc (S - 2 ^ k) + 1 = pc S := by
  have key : ∀ S : Fin 16, ∀ k a : Fin 4, inS S.1 k.1 = true → (inS (S.1 - 2 ^ k.1) a.1 = true ↔ inS S.1 a.1 = true ∧ a.1 ≠ k.1) ∧ pc (S.1 - 2 ^ k.1) + 1 = pc S.1 := by decide +kernel
  exact key ⟨S, hS⟩ ⟨k, hk4⟩ ⟨a, ha⟩ hk
theorem inS_zero {S k : Nat} (hS : S < 16) (hp : pc S = 0) (hk : k < 4) : inS S k = false := by
  have key : ∀ S : Fin 16, ∀ k : Fin 4, pc S.1 = 0 → inS S.1 k.1 = false := by decide +kernel
  exact key ⟨S, hS⟩ ⟨k, hk⟩ hp
def cand (N : Nat) (L : List Int) (i : Nat) (rc : Nat → Int) (k : Nat) : Int := (Bd.add (L[i * N + k]?.getD 0) (rc k)).1
def pstep (sk : Nat → Bool) (cd : Nat → Int) (best : Int) (k : Nat) : Int := if sk k = true then best else if cd k < best then cd k else best
def skip (i j S k : Nat) : Bool := !(inS S k) || decide (k = i) || decide (k = j)
/-- the least sum of bounds by clocks among some, no clock twice; as deep as there are clocks. -/
def pth (N : Nat) (L : List Int) : Nat → Nat → Nat → Nat → Int
  | 0, i, j, _ => L[i * N + j]?.getD 0
  | f + 1, i, j, S => (List.range N).foldl (pstep (skip i j S) (cand N L i fun k => pth N L f k j (S - 2 ^ k))) (L[i * N + j]?.getD 0)
theorem fold_min {sk : Nat → Bool} {cd : Nat → Int} {G : Int → Prop} : ∀ (l : List Nat) (b : Int), G b → (∀ k, k ∈ l → sk k = false → G (cd k)) →
    G (l.foldl (pstep sk cd) b) ∧ l.foldl (pstep sk cd) b ≤ b ∧ ∀ k, k ∈ l → sk k = false → l.foldl (pstep sk cd) b ≤ cd k
  | [], b, hb, _ => ⟨hb, Int.le_refl _, by simp⟩
  | k :: l, b, hb, hc => by
    rw [List.foldl_cons]
    have hs : G (pstep sk cd b k) ∧ pstep sk cd b k ≤ b ∧ (sk k = false → pstep sk cd b k ≤ cd k) := by
      unfold pstep
      by_cases h1 : sk k = true
      · rw [if_pos h1]; exact ⟨hb, Int.le_refl _, fun h => by rw [h1] at h; cases h⟩
      · rw [if_neg h1]
        have h1' : sk k = false := by simpa using h1
        by_cases h2 : cd k < b
        · rw [if_pos h2]; exact ⟨hc k (by simp) h1', by omega, fun _ => Int.le_refl _⟩
        · rw [if_neg h2]; exact ⟨hb, Int.le_refl _, fun _ => by omega⟩
    obtain ⟨k1, k2, k3⟩ := fold_min l (pstep sk cd b k) hs.1 (fun a ha => hc a (by simp [ha]))
    refine ⟨k1, by omega, fun a ha hsa => ?_⟩
    rcases List.mem_cons.1 ha with rfl | ha
    · have := hs.2.2 hsa; omega
    · exact k3 a ha hsa
theorem le_ole {m : Int} (hm : m ≤ 2305843009213693952) {u v : Int} (hu : lim m u) (hv : lim m v) (h : u ≤ v) : ole (ob u) (ob v) :=
  not_olt.1 fun h2 => by have := (lt_iff hm hv hu).2 h2; omega
structure POk (N : Nat) (L : List Int) (i j S f : Nat) (v : Int) : Prop where
  lim : Dbm.lim 1152921504606846976 v
  wit : ∀ u, ob v = some u → ∃ mid : List Nat, mid.Nodup ∧ i ∉ mid ∧ j ∉ mid ∧ (∀ a, a ∈ mid → a < N ∧ inS S a = true) ∧ way (mx N L) (i :: (mid ++ [j])) = some u
  low : ∀ mid : List Nat, mid.Nodup → i ∉ mid → j ∉ mid → (∀ a, a ∈ mid → a < N ∧ inS S a = true) → mid.length ≤ f → ole (ob v) (way (mx N L) (i :: (mid ++ [j])))
section
variable {N : Nat} {L : List Int}
theorem mx_lim (h0 : chk N L = 0) : ∀ i j v, i < N → j < N → mx N L i j = some v → -288230376151711744 ≤ v / 2 ∧ v / 2 ≤ 288230376151711744 := fun i j v hi hj hv => by
  obtain ⟨c1, c2, c3, c4⟩ := chk_iff.1 h0
  have hL : L.length = N * N := by exact_mod_cast c3
  obtain ⟨e1, e2⟩ := mx_some hv
  have := chk_lim h0 (i * N + j) (by rw [hL]; exact place_lt hi hj)
  rw [e1] at this
  exact this.resolve_left e2
theorem way_lim3 (h0 : chk N L = 0) {i j : Nat} (hi : i < N) (hj : j < N) {mid : List Nat} (hn : mid.Nodup) (him : i ∉ mid) (hm : ∀ a, a ∈ mid → a < N) {u : Int} (hu : way (mx N L) (i :: (mid ++ [j])) = some u) : -1152921504606846976 ≤ u / 2 ∧ u / 2 ≤ 1152921504606846976 := by
  obtain ⟨c1, c2, c3, c4⟩ := chk_iff.1 h0
  have hlt : ∀ a ∈ i :: (mid ++ [j]), a < N := by
    intro a ha
    simp only [List.mem_cons, List.mem_append, List.not_mem_nil, or_false] at ha
    rcases ha with rfl | ha | rfl
    · exact hi
    · exact hm a ha
    · exact hj
  have hw := way_lim (by omega) (mx_lim h0) _ u hlt hu
  have hl := nodup_len N (i :: mid) (List.nodup_cons.2 ⟨him, hn⟩) (fun a ha => by rcases List.mem_cons.1 ha with rfl | ha; exact hi; exact hm a ha)
  have hl' : ((i :: (mid ++ [j])).length - 1 : Nat) ≤ 4 := by simp at hl ⊢; omega
  generalize ((i :: (mid ++ [j])).length - 1 : Nat) = x at hw hl'
  omega
theorem ob_lim {v m : Int} (h : ∀ u, ob v = some u → -m ≤ u / 2 ∧ u / 2 ≤ m) : lim m v := by
  by_cases hv : v = NO
  · exact .inl hv
  · exact .inr (h v (by unfold ob; rw [if_neg hv]))
theorem pth_ok (h0 : chk N L = 0) : ∀ (f i j S : Nat), i < N → j < N → S < 16 → inS S i = false → POk N L i j S f (pth N L f i j S)
  | 0, i, j, S, hi, hj, hS, hiS => by
    have hw : ∀ u, ob (pth N L 0 i j S) = some u → way (mx N L) (i :: ([] ++ [j])) = some u := fun u hu => by rw [List.nil_append, way_two]; exact hu
    refine ⟨ob_lim fun u hu => way_lim3 h0 hi hj (by simp) (by simp) (by simp) (hw u hu), fun u hu => ⟨[], by simp, by simp, by simp, by simp, hw u hu⟩, fun mid _ _ _ _ hl => ?_⟩
    have : mid = [] := List.eq_nil_of_length_eq_zero (by omega)
    subst this
    rw [List.nil_append, way_two]
    exact ole_refl _
  | f + 1, i, j, S, hi, hj, hS, hiS => by
    obtain ⟨c1, c2, c3, c4⟩ := chk_iff.1 h0
    have hN4 : N ≤ 4 := by omega
    have hL : L.length = N * N := by exact_mod_cast c3
    let G : Int → Prop := fun v => ∀ u, ob v = some u → ∃ mid : List Nat, mid.Nodup ∧ i ∉ mid ∧ j ∉ mid ∧ (∀ a, a ∈ mid → a < N ∧ inS S a = true) ∧ way (mx N L) (i :: (mid ++ [j])) = some u
    have Glim : ∀ v, G v → lim 1152921504606846976 v := fun v hv => ob_lim fun u hu => by
      obtain ⟨mid, m1, m2, m3, m4, m5⟩ := hv u hu
      exact way_lim3 h0 hi hj m1 m2 (fun a ha => (m4 a ha).1) m5
    have hsk : ∀ k, k < N → skip i j S k = false → inS S k = true ∧ k ≠ i ∧ k ≠ j := fun k hk h => by
      unfold skip at h
      simpa [and_assoc] using h
    have rc : ∀ k, k < N → skip i j S k = false → POk N L k j (S - 2 ^ k) f (pth N L f k j (S - 2 ^ k)) := fun k hk h => by
      obtain ⟨h1, h2, h3⟩ := hsk k hk h
      have hl := inS_less (a := k) h1 hS (by omega) (by omega)
      refine pth_ok h0 f k j (S - 2 ^ k) hk hj (Nat.lt_of_le_of_lt (Nat.sub_le _ _) hS) ?_
      cases hh : inS (S - 2 ^ k) k with
      | false => rfl
      | true => exact absurd rfl ((hl.1.1 hh).2)
    have cdE : ∀ k, k < N → skip i j S k = false → ob (cand N L i (fun k => pth N L f k j (S - 2 ^ k)) k) = oadd (mx N L i k) (ob (pth N L f k j (S - 2 ^ k))) := fun k hk h => by
      have l1 : lim 1152921504606846976 (L[i * N + k]?.getD 0) := lim_mono (chk_lim h0 (i * N + k) (by rw [hL]; exact place_lt hi hk)) (by omega)
      exact (add_eq l1 (rc k hk h).lim).1
    have cdG : ∀ k, k ∈ List.range N → skip i j S k = false → G (cand N L i (fun k => pth N L f k j (S - 2 ^ k)) k) := fun k hk h u hu => by
      have hk := List.mem_range.1 hk
      obtain ⟨h1, h2, h3⟩ := hsk k hk h
      rw [cdE k hk h] at hu
      cases he : mx N L i k with
      | none => rw [he] at hu; cases hu
      | some x =>
        cases hp : ob (pth N L f k j (S - 2 ^ k)) with
        | none => rw [he, hp] at hu; cases hu
        | some y =>
          obtain ⟨mid, m1, m2, m3, m4, m5⟩ := (rc k hk h).wit y hp
          have hl := fun a (ha : a < 4) => (inS_less (a := a) h1 hS (by omega) ha).1
          have hin : ∀ a, a ∈ mid → a < N ∧ inS S a = true ∧ a ≠ k := fun a ha => ⟨(m4 a ha).1, (hl a (by have := (m4 a ha).1; omega)).1 (m4 a ha).2⟩
          refine ⟨k :: mid, List.nodup_cons.2 ⟨m2, m1⟩, ?_, ?_, ?_, ?_⟩
          · intro hm
            rcases List.mem_cons.1 hm with rfl | hm
            · exact h2 rfl
            · have := (hin i hm).2.1; rw [hiS] at this; cases this
          · intro hm
            rcases List.mem_cons.1 hm with rfl | hm
            · exact h3 rfl
            · exact m3 hm
          · intro a ha
            rcases List.mem_cons.1 ha with rfl | ha
            · exact ⟨hk, h1⟩
            · exact ⟨(hin a ha).1, (hin a ha).2.1⟩
          · show oadd (mx N L i k) (way (mx N L) (k :: (mid ++ [j]))) = some u
            rw [m5, he]
            rw [he, hp] at hu
            exact hu
    have b0 : G (L[i * N + j]?.getD 0) := fun u hu => ⟨[], by simp, by simp, by simp, by simp, by rw [List.nil_append, way_two]; exact hu⟩
    obtain ⟨k1, k2, k3⟩ := fold_min (sk := skip i j S) (cd := cand N L i fun k => pth N L f k j (S - 2 ^ k)) (G := G) (List.range N) _ b0 cdG
    refine ⟨Glim _ k1, k1, fun mid m1 m2 m3 m4 hl => ?_⟩
    cases mid with
    | nil =>
      rw [List.nil_append, way_two]
      exact le_ole (by omega) (Glim _ k1) (Glim _ b0) k2
    | cons k mid =>
      have hkN := (m4 k (by simp)).1
      have hkS := (m4 k (by simp)).2
      have hki : k ≠ i := fun e => m2 (by simp [e])
      have hkj : k ≠ j := fun e => m3 (by simp [e])
      have hs : skip i j S k = false := by unfold skip; simp [hkS, hki, hkj]
      have h1 := k3 k (List.mem_range.2 hkN) hs
      have h2 := le_ole (m := 1152921504606846976) (by omega) (Glim _ k1) (Glim _ (cdG k (List.mem_range.2 hkN) hs)) h1
      rw [cdE k hkN hs] at h2
      refine ole_trans h2 ?_
      show ole _ (oadd (mx N L i k) (way (mx N L) (k :: (mid ++ [j]))))
      have hnd := List.nodup_cons.1 m1
      refine oadd_mono (ole_refl _) ((rc k hkN hs).low mid hnd.2 hnd.1 (fun h => m3 (by simp [h])) (fun a ha => ?_) (by simp at hl; omega))
      have ha4 := m4 a (by simp [ha])
      exact ⟨ha4.1, (inS_less hkS hS (by omega) (by omega)).1.2 ⟨ha4.2, fun e => hnd.1 (e ▸ ha)⟩⟩
end
end Dbm
end Go.Proofs.YtodpgcdandechaaGreat

/-
  The document's own closing is the closing of XPlainDbm.
-/
namespace Go.Proofs.YtodpgcdandechaaGreat
set_option linter.unusedVariables false
set_option linter.unusedSimpArgs false
namespace Dbm
def full (N i : Nat) : Nat := 2 ^ N - 1 - 2 ^ i
theorem full_ok {N i : Nat} (hN : N ≤ 4) (hi : i < N) : full N i < 16 ∧ inS (full N i) i = false ∧ pc (full N i) ≤ N ∧ ∀ a, a < N → a ≠ i → inS (full N i) a = true := by
  have key : ∀ N : Fin 5, ∀ i a : Fin 4, i.1 < N.1 → full N.1 i.1 < 16 ∧ inS (full N.1 i.1) i.1 = false ∧ pc (full N.1 i.1) ≤ N.1 ∧ (a.1 < N.1 → a.1 ≠ i.1 → inS (full N.1 i.1) a.1 = true) := by decide +kernel
  have k := fun a ha => key ⟨N, by omega⟩ ⟨i, by omega⟩ ⟨a, ha⟩ hi
  have k0 := k 0 (by omega)
  exact ⟨k0.1, k0.2.1, k0.2.2.1, fun a ha => (k a (by omega)).2.2.2 ha⟩
def closedR (N : Nat) (L : List Int) : Option (List Int) :=
  if (List.range N).all (fun i => decide (1 ≤ pth N L N i i (full N i))) = true then some ((List.range (N * N)).map fun p => if p / N = p % N then 1 else pth N L N (p / N) (p % N) (full N (p / N))) else none
/-- no clock behind itself. -/
def dis : List Nat → Prop
  | a :: b :: t => a ≠ b ∧ dis (b :: t)
  | _ => True
theorem dis_way {N : Nat} {L L1 : List Int} (h : ∀ i j, i < N → j < N → i ≠ j → L1[i * N + j]?.getD 0 = L[i * N + j]?.getD 0) : ∀ (p : List Nat), dis p → (∀ a, a ∈ p → a < N) → way (mx N L1) p = way (mx N L) p
  | [], _, _ => rfl
  | [_], _, _ => rfl
  | a :: b :: t, hd, hp => by
    have h1 : mx N L1 a b = mx N L a b := by unfold mx; rw [h a b (hp a (by simp)) (hp b (by simp)) hd.1]
    simp only [way, h1, dis_way h (b :: t) hd.2 (fun c hc => hp c (List.mem_cons_of_mem a hc))]
theorem dis_simple : ∀ (mid : List Nat) (i j : Nat), mid.Nodup → i ∉ mid → j ∉ mid → (i ≠ j ∨ mid ≠ []) → dis (i :: (mid ++ [j]))
  | [], i, j, _, _, _, h => ⟨h.resolve_right (fun h => h rfl), trivial⟩
  | k :: mid, i, j, hn, hi, hj, _ => by
    have hnd := List.nodup_cons.1 hn
    exact ⟨fun e => hi (by simp [e]), dis_simple mid k j hnd.2 hnd.1 (fun h => hj (by simp [h])) (.inl fun e => hj (by simp [e]))⟩
/-- there and back again is no less than 0, where no simple way round is. -/
theorem cyc_ok {N n : Nat} {E M : Mx} (inv : Inv N n E M) (hn : n < N) (H : ∀ i mid, i < N → mid.Nodup → i ∉ mid → (∀ a, a ∈ mid → a < N) → ole (some 1) (way E (i :: (mid ++ [i])))) :
    ∀ (m : Nat) (p q : List Nat) (i : Nat), p.length + q.length ≤ m → (i :: (p ++ [n])).Nodup → (n :: (q ++ [i])).Nodup → (∀ a, a ∈ p → a < n) → (∀ a, a ∈ q → a < n) → i < N → ole (some 1) (oadd (way E (i :: (p ++ [n]))) (way E (n :: (q ++ [i]))))
  | m, p, q, i, hm, hp, hq, hpn, hqn, hi => by
    have hp' := List.nodup_cons.1 hp
    have hq' := List.nodup_cons.1 hq
    have hpa := List.nodup_append.1 hp'.2
    have hqa := List.nodup_append.1 hq'.2
    have hip : i ∉ p := fun h => hp'.1 (List.mem_append.2 (.inl h))
    have hin : i ≠ n := fun h => hp'.1 (List.mem_append.2 (.inr (by simp [h])))
    have hnq : n ∉ q := fun h => hq'.1 (List.mem_append.2 (.inl h))
    have hnp : n ∉ p := fun h => hpa.2.2 n h n (by simp) rfl
    have hiq : i ∉ q := fun h => hqa.2.2 i h i (by simp) rfl
    by_cases hd : ∃ v, v ∈ p ∧ v ∈ q
    · obtain ⟨v, hv1, hv2⟩ := hd
      obtain ⟨p1, p2, rfl⟩ := List.append_of_mem hv1
      obtain ⟨q1, q2, rfl⟩ := List.append_of_mem hv2
      have hvn : v < n := hpn v hv1
      have e1 : way E (i :: ((p1 ++ v :: p2) ++ [n])) = oadd (way E (i :: (p1 ++ [v]))) (way E (v :: (p2 ++ [n]))) := by
        have := way_split E (i :: p1) v (p2 ++ [n])
        simpa using this
      have e2 : way E (n :: ((q1 ++ v :: q2) ++ [i])) = oadd (way E (n :: (q1 ++ [v]))) (way E (v :: (q2 ++ [i]))) := by
        have := way_split E (n :: q1) v (q2 ++ [i])
        simpa using this
      have e3 : way E (i :: ((p1 ++ v :: q2) ++ [i])) = oadd (way E (i :: (p1 ++ [v]))) (way E (v :: (q2 ++ [i]))) := by
        have := way_split E (i :: p1) v (q2 ++ [i])
        simpa using this
      have h1 : ole (some 1) (way E (i :: ((p1 ++ v :: q2) ++ [i]))) := by
        have := inv.le_way (by omega) (p1 ++ v :: q2) i i hi hi (fun a ha => by
          rcases List.mem_append.1 ha with h | h
          · exact hpn a (List.mem_append.2 (.inl h))
          · rcases List.mem_cons.1 h with rfl | h
            · exact hvn
            · exact hqn a (List.mem_append.2 (.inr (List.mem_cons_of_mem _ h))))
        rwa [inv.diag i hi] at this
      have hm' : p2.length + q1.length < p1.length + (p2.length + 1) + (q1.length + (q2.length + 1)) := by omega
      have h2 : ole (some 1) (oadd (way E (v :: (p2 ++ [n]))) (way E (n :: (q1 ++ [v])))) := by
        match m, hm with
        | 0, hm => simp at hm
        | m + 1, hm =>
          refine cyc_ok inv hn H m p2 q1 v (by simp at hm; omega) ?_ ?_ (fun a ha => hpn a (by simp [ha])) (fun a ha => hqn a (by simp [ha])) (by omega)
          · refine hp'.2.sublist ?_
            have : (p1 ++ v :: p2) ++ [n] = p1 ++ (v :: (p2 ++ [n])) := by simp
            rw [this]; exact List.sublist_append_right _ _
          · refine hq.sublist ?_
            have : (q1 ++ v :: q2) ++ [i] = (q1 ++ [v]) ++ (q2 ++ [i]) := by simp
            rw [this]; exact List.Sublist.cons_cons n (List.sublist_append_left _ _)
      rw [e1, e2]
      generalize way E (i :: (p1 ++ [v])) = A at *
      generalize way E (v :: (p2 ++ [n])) = B at *
      generalize way E (n :: (q1 ++ [v])) = C at *
      generalize way E (v :: (q2 ++ [i])) = D at *
      have e4 : oadd (oadd A B) (oadd C D) = oadd (oadd A D) (oadd B C) := by
        rw [oadd_assoc, oadd_comm C D, ← oadd_assoc B D C, oadd_comm B D, oadd_assoc D B C, ← oadd_assoc A D]
      rw [e4, ← e3]
      have := oadd_mono h1 h2
      rwa [oadd_one] at this
    · have h1 := H i (p ++ n :: q) hi (List.nodup_append.2 ⟨hpa.1, List.nodup_cons.2 ⟨hnq, hqa.1⟩, fun a ha b hb e => by
          subst e
          rcases List.mem_cons.1 hb with rfl | hb
          · exact hnp ha
          · exact hd ⟨a, ha, hb⟩⟩) (fun h => by
          rcases List.mem_append.1 h with h | h
          · exact hip h
          · rcases List.mem_cons.1 h with h | h
            · exact hin h
            · exact hiq h) (fun a ha => by
          rcases List.mem_append.1 ha with h | h
          · have := hpn a h; omega
          · rcases List.mem_cons.1 h with rfl | h
            · exact hn
            · have := hqn a h; omega)
      have e := way_split E (i :: p) n (q ++ [i])
      have e' : way E (i :: ((p ++ n :: q) ++ [i])) = oadd (way E (i :: (p ++ [n]))) (way E (n :: (q ++ [i]))) := by simpa using e
      rwa [e'] at h1
theorem there_back {N n : Nat} {E M : Mx} (inv : Inv N n E M) (hn : n < N) (H : ∀ i mid, i < N → mid.Nodup → i ∉ mid → (∀ a, a ∈ mid → a < N) → ole (some 1) (way E (i :: (mid ++ [i])))) (i : Nat) (hi : i < N) : ole (some 1) (oadd (M i n) (M n i)) := by
  by_cases hin : i = n
  · subst hin; rw [inv.diag i hi, oadd_one]; exact ole_refl _
  cases h1 : M i n with
  | none => trivial
  | some u =>
    cases h2 : M n i with
    | none => trivial
    | some v =>
      obtain ⟨p, p1, p2, p3⟩ := inv.wit i n hi hn hin u h1
      obtain ⟨q, q1, q2, q3⟩ := inv.wit n i hn hi (fun e => hin e.symm) v h2
      have := cyc_ok inv hn H (p.length + q.length) p q i (Nat.le_refl _) p1 q1 p2 q2 hi
      rwa [p3, q3] at this
end Dbm
end Go.Proofs.YtodpgcdandechaaGreat

/-
  The document's own closing is the closing of XPlainDbm: both ways.
-/
namespace Go.Proofs.YtodpgcdandechaaGreat
set_option linter.unusedVariables false
set_option linter.unusedSimpArgs false
namespace Dbm
section
variable {N : Nat} {L : List Int}
theorem pth_full (h0 : chk N L = 0) {i j : Nat} (hi : i < N) (hj : j < N) : POk N L i j (full N i) N (pth N L N i j (full N i)) := by
  obtain ⟨c1, c2, c3, c4⟩ := chk_iff.1 h0
  obtain ⟨f1, f2, _, _⟩ := full_ok (N := N) (i := i) (by omega) hi
  exact pth_ok h0 N i j (full N i) hi hj f1 f2
theorem low_full (h0 : chk N L = 0) {i j : Nat} (hi : i < N) (hj : j < N) {mid : List Nat} (hn : mid.Nodup) (him : i ∉ mid) (hjm : j ∉ mid) (hm : ∀ a, a ∈ mid → a < N) : ole (ob (pth N L N i j (full N i))) (way (mx N L) (i :: (mid ++ [j]))) := by
  obtain ⟨c1, c2, c3, c4⟩ := chk_iff.1 h0
  obtain ⟨_, _, _, f4⟩ := full_ok (N := N) (i := i) (by omega) hi
  exact (pth_full h0 hi hj).low mid hn him hjm (fun a ha => ⟨hm a ha, f4 a (hm a ha) (fun e => him (e ▸ ha))⟩) (nodup_len N mid hn hm)
theorem ole_one {v : Int} (h : 1 ≤ v) : ole (some 1) (ob v) := by
  unfold ob; split
  · trivial
  · exact h
theorem one_of_ole {v : Int} (h : ole (some 1) (ob v)) : 1 ≤ v := by
  unfold ob at h
  split at h
  · rename_i e; rw [e]; decide
  · exact h
theorem diag_some (hL : L.length = N * N) (hd : ∀ i, i < N → 1 ≤ L[i * N + i]?.getD 0) : ∀ n, n ≤ N → ∃ Ln, (List.range n).foldlM (diag1 N) L = some Ln := by
  intro n
  induction n with
  | zero => intro _; exact ⟨L, rfl⟩
  | succ n ih =>
    intro hn
    obtain ⟨Ln, hLn⟩ := ih (by omega)
    obtain ⟨a1, a2, a3⟩ := diag_spec hL n Ln (by omega) hLn
    refine ⟨Ln.set (n * N + n) 1, ?_⟩
    have h1 : Ln[n * N + n]?.getD 0 = L[n * N + n]?.getD 0 := by rw [a3 n n (by omega) (by omega), if_neg (by omega)]
    have h2 := hd n (by omega)
    rw [List.range_succ, List.foldlM_append, hLn]
    have h3 : diag1 N Ln n = some (Ln.set (n * N + n) 1) := by unfold diag1; rw [if_neg (by omega)]
    simp [h3]
theorem stage_some {L1 : List Int} (hN4 : N ≤ 4) (a1 : L1.length = N * N) (hd1 : ∀ i, i < N → mx N L1 i i = some 1) (hE : ∀ i j v, i < N → j < N → mx N L1 i j = some v → -288230376151711744 ≤ v / 2 ∧ v / 2 ≤ 288230376151711744)
    (H : ∀ i mid, i < N → mid.Nodup → i ∉ mid → (∀ a, a ∈ mid → a < N) → ole (some 1) (way (mx N L1) (i :: (mid ++ [i])))) : ∀ n, n ≤ N → ∃ Cn, (List.range n).foldlM (stage N) L1 = some Cn := by
  intro n
  induction n with
  | zero => intro _; exact ⟨L1, rfl⟩
  | succ n ih =>
    intro hn
    obtain ⟨Cn, hCn⟩ := ih (by omega)
    obtain ⟨b1, b2⟩ := fold_inv hN4 a1 hd1 hE n Cn (by omega) hCn
    have hq := inv_lim b2 (by omega) hN4 hE
    have hq' : ∀ q, q < N * N → lim 1152921504606846976 (Cn[q]?.getD 0) := fun q h => lim_mono (hq q h) (by omega)
    have hkk := (mx_some (b2.diag n (by omega))).1
    have hok : diagOk N (thrL N n Cn) = true := by
      unfold diagOk
      rw [List.all_eq_true]
      intro i hi
      have hi := List.mem_range.1 hi
      have ht := thrL_mx (k := n) (by omega) b1 hkk hq' hi hi
      have h1 : thr n (mx N Cn) i i = some 1 := by
        rcases thr_cases n (mx N Cn) i i with e | ⟨_, e⟩
        · rw [e]; exact b2.diag i hi
        · exfalso
          rw [b2.diag i hi] at e
          exact olt_irrefl e (there_back b2 (by omega) H i hi)
      rw [h1] at ht
      rw [(mx_some ht).1]; decide
    refine ⟨thrL N n Cn, ?_⟩
    rw [List.range_succ, List.foldlM_append, hCn]
    have h3 : stage N Cn n = some (thrL N n Cn) := by unfold stage; rw [if_pos hok]
    simp [h3]
theorem closedR_eq (h0 : chk N L = 0) : closedR N L = closeL N L := by
  obtain ⟨c1, c2, c3, c4⟩ := chk_iff.1 h0
  have hN4 : N ≤ 4 := by omega
  have hL : L.length = N * N := by exact_mod_cast c3
  cases hC : closeL N L with
  | some C =>
    obtain ⟨L1, a2, a3, inv, hl, hE⟩ := close_inv h0 hC
    have hoff : ∀ i j, i < N → j < N → i ≠ j → L1[i * N + j]?.getD 0 = L[i * N + j]?.getD 0 := fun i j hi hj h => by rw [a3 i j hi hj, if_neg h]
    have hw : ∀ i j mid, i < N → j < N → mid.Nodup → i ∉ mid → j ∉ mid → (∀ a, a ∈ mid → a < N) → (i ≠ j ∨ mid ≠ []) → way (mx N L1) (i :: (mid ++ [j])) = way (mx N L) (i :: (mid ++ [j])) := fun i j mid hi hj hn him hjm hm h =>
      dis_way hoff _ (dis_simple mid i j hn him hjm h) (fun a ha => by
        simp only [List.mem_cons, List.mem_append, List.not_mem_nil, or_false] at ha
        rcases ha with rfl | ha | rfl
        · exact hi
        · exact hm a ha
        · exact hj)
    have hne : ∀ i j, i < N → j < N → i ≠ j → mx N C i j = ob (pth N L N i j (full N i)) := fun i j hi hj hij => by
      have hp := pth_full h0 hi hj
      refine ole_antisymm ?_ ?_
      · cases hv : ob (pth N L N i j (full N i)) with
        | none => cases mx N C i j <;> trivial
        | some u =>
          obtain ⟨mid, m1, m2, m3, m4, m5⟩ := hp.wit u hv
          rw [← m5, ← hw i j mid hi hj m1 m2 m3 (fun a ha => (m4 a ha).1) (.inl hij)]
          exact inv.le_way (Nat.le_refl _) mid i j hi hj (fun a ha => (m4 a ha).1)
      · cases hv : mx N C i j with
        | none => cases ob (pth N L N i j (full N i)) <;> trivial
        | some u =>
          obtain ⟨mid, m1, m2, m3⟩ := inv.wit i j hi hj hij u hv
          have n1 := List.nodup_cons.1 m1
          have n2 := List.nodup_append.1 n1.2
          have him : i ∉ mid := fun h => n1.1 (List.mem_append.2 (.inl h))
          have hjm : j ∉ mid := fun h => n2.2.2 j h j (by simp) rfl
          rw [← m3, hw i j mid hi hj n2.1 him hjm m2 (.inl hij)]
          exact low_full h0 hi hj n2.1 him hjm m2
    have hdg : ∀ i, i < N → 1 ≤ pth N L N i i (full N i) := fun i hi => by
      have hp := pth_full h0 hi hi
      apply one_of_ole
      cases hv : ob (pth N L N i i (full N i)) with
      | none => trivial
      | some u =>
        obtain ⟨mid, m1, m2, m3, m4, m5⟩ := hp.wit u hv
        cases mid with
        | nil =>
          rw [List.nil_append, way_two] at m5
          have := a2 i hi
          rw [(mx_some m5).1] at this
          exact this
        | cons k mid =>
          rw [← m5, ← hw i i (k :: mid) hi hi m1 m2 m3 (fun a ha => (m4 a ha).1) (.inr (by simp))]
          have := inv.le_way (Nat.le_refl _) (k :: mid) i i hi hi (fun a ha => (m4 a ha).1)
          rwa [inv.diag i hi] at this
    unfold closedR
    rw [if_pos (by rw [List.all_eq_true]; intro i hi; simpa using hdg i (List.mem_range.1 hi))]
    congr 1
    apply List.ext_getElem
    · simp [hl]
    · intro q hq1 hq2
      have hq : q < N * N := by rw [← hl]; exact hq2
      have hdi := div_lt hq
      have hmo := mod_lt hq
      simp only [List.getElem_map, List.getElem_range]
      have hCq : C[q]?.getD 0 = C[q] := by rw [List.getElem?_eq_getElem hq2]; rfl
      by_cases e : q / N = q % N
      · rw [if_pos e]
        have := (mx_some (inv.diag (q / N) hdi)).1
        rw [show q / N * N + q / N = q by have := div_mod (N := N) (p := q); omega, hCq] at this
        exact this.symm
      · rw [if_neg e]
        have := hne (q / N) (q % N) hdi hmo e
        unfold mx at this
        rw [div_mod, hCq] at this
        exact (ob_inj this).symm
  | none =>
    unfold closedR
    rw [if_neg]
    intro hall
    rw [List.all_eq_true] at hall
    have hdg : ∀ i, i < N → 1 ≤ pth N L N i i (full N i) := fun i hi => by simpa using hall i (List.mem_range.2 hi)
    have H0 : ∀ i mid, i < N → mid.Nodup → i ∉ mid → (∀ a, a ∈ mid → a < N) → ole (some 1) (way (mx N L) (i :: (mid ++ [i]))) := fun i mid hi hn him hm =>
      ole_trans (ole_one (hdg i hi)) (low_full h0 hi hi hn him him hm)
    have hd : ∀ i, i < N → 1 ≤ L[i * N + i]?.getD 0 := fun i hi => by
      have := H0 i [] hi (by simp) (by simp) (by simp)
      rw [List.nil_append, way_two] at this
      exact one_of_ole this
    obtain ⟨L1, hL1⟩ := diag_some hL hd N (Nat.le_refl _)
    obtain ⟨a1, a2, a3⟩ := diag_spec hL N L1 (Nat.le_refl _) hL1
    have a3' : ∀ i j, i < N → j < N → L1[i * N + j]?.getD 0 = if i = j then 1 else L[i * N + j]?.getD 0 := fun i j hi hj => by
      rw [a3 i j hi hj]
      by_cases e : i = j
      · rw [if_pos ⟨e, hi⟩, if_pos e]
      · rw [if_neg (fun h => e h.1), if_neg e]
    have hd1 : ∀ i, i < N → mx N L1 i i = some 1 := fun i hi => by unfold mx; rw [a3' i i hi hi, if_pos rfl]; rfl
    have hE : ∀ i j v, i < N → j < N → mx N L1 i j = some v → -288230376151711744 ≤ v / 2 ∧ v / 2 ≤ 288230376151711744 := fun i j v hi hj hv => by
      obtain ⟨e1, e2⟩ := mx_some hv
      rw [a3' i j hi hj] at e1
      split at e1
      · subst e1; decide
      · have := chk_lim h0 (i * N + j) (by rw [hL]; exact place_lt hi hj)
        rw [e1] at this
        exact this.resolve_left e2
    have hoff : ∀ i j, i < N → j < N → i ≠ j → L1[i * N + j]?.getD 0 = L[i * N + j]?.getD 0 := fun i j hi hj h => by rw [a3' i j hi hj, if_neg h]
    have H1 : ∀ i mid, i < N → mid.Nodup → i ∉ mid → (∀ a, a ∈ mid → a < N) → ole (some 1) (way (mx N L1) (i :: (mid ++ [i]))) := fun i mid hi hn him hm => by
      cases mid with
      | nil => rw [List.nil_append, way_two, hd1 i hi]; exact ole_refl _
      | cons k mid =>
        rw [dis_way hoff _ (dis_simple (k :: mid) i i hn him him (.inr (by simp))) (fun a ha => by
          simp only [List.mem_cons, List.mem_append, List.not_mem_nil, or_false] at ha
          rcases ha with rfl | (rfl | ha) | rfl
          · exact hi
          · exact hm a (by simp)
          · exact hm a (by simp [ha])
          · exact hi)]
        exact H0 i (k :: mid) hi hn him hm
    obtain ⟨Cn, hCn⟩ := stage_some hN4 a1 hd1 hE H1 N (Nat.le_refl _)
    unfold closeL at hC
    rw [hL1, Option.bind_some, hCn] at hC
    cases hC
end
end Dbm
end Go.Proofs.YtodpgcdandechaaGreat

/-
  The contract of rallentandoref01.May at every number.
-/
namespace Go.Proofs.YtodpgcdandechaaGreat
set_option linter.unusedVariables false
open Go.RowKit

theorem may_any (a : Int) (w : World) :
    Calls Tryz.prog 260 #[.int .i64 a] w fun e w' => e = .returned (.bool (Num.okB a)) ∧ w = w' := by
  by_cases h1 : -2305843009213693952 ≤ a
  · by_cases h2 : a ≤ 2305843009213693952
    · have hr := Lib.hid (Num.okB_iff.2 ⟨h1, h2⟩)
      go_enter Tryz.func260, Tryz.ntmps260
      go_wp2
      go_ret
      exact ⟨by rw [hr.out]; rfl, rfl⟩
    · have hr := Lib.hid (Num.okB_no.2 (.inr (Int.not_le.1 h2)))
      go_enter Tryz.func260, Tryz.ntmps260
      go_wp2
      go_ret
      exact ⟨by rw [hr.out]; rfl, rfl⟩
  · have hr := Lib.hid (Num.okB_no.2 (.inl (Int.not_le.1 h1)))
    go_enter Tryz.func260, Tryz.ntmps260
    go_wp2
    go_ret
    exact ⟨by rw [hr.out]; rfl, rfl⟩

end Go.Proofs.YtodpgcdandechaaGreat

/-
  The contracts of the reference of chapter 2 (rallentandoref02), at every bound that is an int64, and every number.
-/
namespace Go.Proofs.YtodpgcdandechaaGreat
set_option linter.unusedVariables false
open Go.RowKit

theorem tmod2_even {b : Int} (h : b % 2 = 0) : b.tmod 2 = 0 := Int.tmod_eq_zero_of_dvd (Int.dvd_of_emod_eq_zero h)
theorem tmod2_odd {b : Int} (h : ¬ b % 2 = 0) : (b.tmod 2 == 0) = false := by
  simp only [beq_eq_false_iff_ne, ne_eq]
  intro e
  exact h (Int.emod_eq_zero_of_dvd (Int.dvd_of_tmod_eq_zero e))
theorem tdiv2_even {b : Int} (h : b % 2 = 0) : b.tdiv 2 = b / 2 := by
  obtain ⟨k, rfl⟩ := Int.dvd_of_emod_eq_zero h
  rw [Int.mul_tdiv_cancel_left _ (by decide), Int.mul_ediv_cancel_left _ (by decide)]

theorem rnumber_any (b : Int) (hlo : -9223372036854775808 ≤ b) (hhi : b ≤ 9223372036854775807) (w : World) :
    Calls Tryz.prog 203 #[.int .i64 b] w fun e w' => e = .returned (.int .i64 (b / 2)) ∧ w = w' := by
  by_cases h : b % 2 = 0
  · have h1 := tmod2_even h
    have h2 := Lib.hid (tdiv2_even h)
    clear h
    go_enter Tryz.func203, Tryz.ntmps203
    go_wp2
    go_ret
    exact ⟨ret_int h2.out, rfl⟩
  · have h1 := tmod2_odd h
    have h3 : (b.tmod 2 != 0) = true := by simp only [bne, h1]; rfl
    have h2 := Lib.hid (show (b - 1).tdiv 2 = b / 2 by rw [tdiv2_even (by omega)]; omega)
    have h4 : -9223372036854775808 ≤ b - 1 := by omega
    clear h
    go_enter Tryz.func203, Tryz.ntmps203
    go_wp2
    go_ret
    exact ⟨ret_int h2.out, rfl⟩

theorem rstrict_any (b : Int) (w : World) :
    Calls Tryz.prog 250 #[.int .i64 b] w fun e w' => e = .returned (.bool (Bd.st b)) ∧ w = w' := by
  by_cases h : b % 2 = 0
  · have h1 := tmod2_even h
    have hr := Lib.hid (show Bd.st b = true by simp [Bd.st, h])
    clear h
    go_enter Tryz.func250, Tryz.ntmps250
    go_wp2
    go_ret
    exact ⟨by rw [hr.out]; rfl, rfl⟩
  · have h1 := tmod2_odd h
    have hr := Lib.hid (show Bd.st b = false by simp [Bd.st, h])
    clear h
    go_enter Tryz.func250, Tryz.ntmps250
    go_wp2
    go_ret
    exact ⟨by rw [hr.out]; rfl, rfl⟩

theorem rmade_any (c : Int) (s : Bool) (h1 : -4611686018427387904 ≤ c) (h2 : c ≤ 4611686018427387903) (w : World) :
    Calls Tryz.prog 182 #[.int .i64 c, .bool s] w fun e w' => e = .returned (.int .i64 (Bd.mk c s)) ∧ w = w' := by
  cases s
  all_goals
    go_enter Tryz.func182, Tryz.ntmps182
    go_wp2
    go_ret
    exact ⟨ret_int (by simp [Bd.mk]; omega), rfl⟩

/-- Sum: the sum, and whether it may be, of two bounds that may be. -/
def Bd.sum (a b : Int) : Int × Bool :=
  if a = 9223372036854775807 ∨ b = 9223372036854775807 then (9223372036854775807, true) else if Num.okB (a / 2 + b / 2) then (Bd.mk (a / 2 + b / 2) (Bd.st a || Bd.st b), true) else (0, false)

theorem rbsum_any (a b : Int) (ha : Bd.may a = true) (hb : Bd.may b = true) (alo : -9223372036854775808 ≤ a) (ahi : a ≤ 9223372036854775807) (blo : -9223372036854775808 ≤ b) (bhi : b ≤ 9223372036854775807) (w : World) :
    Calls Tryz.prog 239 #[.int .i64 a, .int .i64 b] w fun e w' => e = .returned (.tuple #[.int .i64 (Bd.sum a b).1, .bool (Bd.sum a b).2]) ∧ w = w' := by
  by_cases na : a = 9223372036854775807
  · have hr := Lib.hid (show Bd.sum a b = (9223372036854775807, true) by simp [Bd.sum, na])
    subst na
    clear ha hb
    go_enter Tryz.func239, Tryz.ntmps239
    go_wp2
    go_ret2
    exact ⟨ibtup hr.out rfl rfl, rfl⟩
  · have na1 : (a == 9223372036854775807) = false := by simpa using na
    by_cases nb : b = 9223372036854775807
    · have hr := Lib.hid (show Bd.sum a b = (9223372036854775807, true) by simp [Bd.sum, nb])
      subst nb
      clear ha hb na
      go_enter Tryz.func239, Tryz.ntmps239
      go_wp2
      go_ret2
      exact ⟨ibtup hr.out rfl rfl, rfl⟩
    · have nb1 : (b == 9223372036854775807) = false := by simpa using nb
      obtain ⟨a1, a2⟩ := Num.okB_iff.1 (Bd.okB_of_may ha na)
      obtain ⟨b1, b2⟩ := Num.okB_iff.1 (Bd.okB_of_may hb nb)
      cases hs : Num.okB (a / 2 + b / 2) with
      | false =>
        have hr := Lib.hid (show Bd.sum a b = (0, false) by simp [Bd.sum, na, nb, hs])
        clear ha hb na nb
        go_enter Tryz.func239, Tryz.ntmps239
        go_wp2_with (first
          | (go_at_call 203; refine (rnumber_any _ (by assumption) (by assumption) _).mono ?_; rintro e w' ⟨rfl, rfl⟩)
          | (go_at_call 260; refine (may_any _ _).mono ?_; rintro e w' ⟨rfl, rfl⟩))
        go_ret2
        exact ⟨ibtup hr.out rfl rfl, rfl⟩
      | true =>
        have hr := Lib.hid (show Bd.sum a b = (Bd.mk (a / 2 + b / 2) (Bd.st a || Bd.st b), true) by simp [Bd.sum, na, nb, hs])
        obtain ⟨s1, s2⟩ := Num.okB_iff.1 hs
        clear ha hb na nb
        cases hst : Bd.st a
        all_goals
          go_enter Tryz.func239, Tryz.ntmps239
          go_wp2_with (first
            | (go_at_call 203; refine (rnumber_any _ (by assumption) (by assumption) _).mono ?_; rintro e w' ⟨rfl, rfl⟩)
            | (go_at_call 250; refine (rstrict_any _ _).mono ?_; rintro e w' ⟨rfl, rfl⟩)
            | (go_at_call 182; refine (rmade_any _ _ (by omega) (by omega) _).mono ?_; rintro e w' ⟨rfl, rfl⟩)
            | (go_at_call 260; refine (may_any _ _).mono ?_; rintro e w' ⟨rfl, rfl⟩))
          go_ret2
          exact ⟨ibtup hr.out rfl (by rw [hst]; rfl), rfl⟩

theorem Bd.add_sum {a b : Int} (ha : Bd.may a = true) (hb : Bd.may b = true) : Bd.add a b = if (Bd.sum a b).2 then ((Bd.sum a b).1, 0) else (0, 10) := by
  by_cases h : a = 9223372036854775807 ∨ b = 9223372036854775807
  · simp [Bd.add, Bd.sum, ha, hb, h]
  · cases hs : Num.okB (a / 2 + b / 2) <;> simp [Bd.add, Bd.sum, ha, hb, h, Bd.made, hs]

end Go.Proofs.YtodpgcdandechaaGreat

/-
  The document's answer of layer 4, by the engine: May, path, Closed.
-/
namespace Go.Proofs.YtodpgcdandechaaGreat
set_option linter.unusedVariables false
set_option linter.unusedSimpArgs false
set_option maxRecDepth 100000
open Go.RowKit Go.Proofs.YtodpgcdandechaaGreat.Eng Enc

namespace Dbm
def int64 (b : Int) : Prop := -9223372036854775808 ≤ b ∧ b ≤ 9223372036854775807
end Dbm
theorem atB {w0 : Base} {hp : List LB} {r L : List Nat} {w w1 : World} (h : At w0 hp r L w w1) (hL : ∀ b, b ∈ L → w.heap.size ≤ b) : Below w.heap.size w w1 :=
  ⟨h.below.os.trans h.base.os.symm, h.below.tape.trans h.base.tape.symm, h.below.output.trans h.base.output.symm, h.size, fun k hk => h.step k hk fun hm => by have := hL k hm; omega⟩
theorem rmay04_any (n : Int) (L : List Int) (hn : Dbm.int64 n) (hL : ∀ b, b ∈ L → Dbm.int64 b) (a : Option Addr) (cap : Nat) (w : World) (hS : Sl w.heap.size w (.slice a L.length cap) L) :
    Calls Tryz.prog 133 #[.agg #[.int .i64 n, .slice a L.length cap]] w fun e w' => e = .returned (.bool (decide (Dbm.chk n L = 0))) ∧ Below w.heap.size w w' := by
  refine fun_eq 0 w Tryz.func133 (args := [.agg [.val (.int .i64 n), .val (.slice a L.length cap)]]) rfl rfl ?_
  obtain ⟨_, _, hfe, hcap1, hcap2, _⟩ := hS.form
  injection hfe with _ _ hfe
  subst hfe
  unfold maxLen at hcap2
  refine NewI.mk fun b1 hb1 => ?_
  have no : ¬ (1 ≤ n ∧ n ≤ 4 ∧ (L.length : Int) = n * n ∧ L.any (fun b => !(Dbm.mayC b)) = false) → decide (Dbm.chk n L = 0) = false := fun h => decide_eq_false (fun e => h (Dbm.chk_iff.1 e))
  refine Branch.mk (fun z1 => ?_) (fun z1 => ?_)
  · have h1 : n < 1 := of_decide_eq_true z1
    rw [no (by omega)]
    exact EndI.mk fun w9 h9 => rfl
  have h1 : ¬ n < 1 := of_decide_eq_false z1
  refine Branch.mk (fun z2 => ?_) (fun z2 => ?_)
  · have h2 : 4 < n := of_decide_eq_true z2
    rw [no (by omega)]
    exact EndI.mk fun w9 h9 => rfl
  have h2 : ¬ 4 < n := of_decide_eq_false z2
  have hnn : 0 ≤ n * n ∧ n * n ≤ 16 := by
    have : n = 1 ∨ n = 2 ∨ n = 3 ∨ n = 4 := by omega
    rcases this with rfl | rfl | rfl | rfl <;> decide
  refine Need.mk (by simp only [inK]; omega) ?_
  refine Branch.mk (fun z3 => ?_) (fun z3 => ?_)
  · have h3 : (L.length : Int) ≠ n * n := of_decide_eq_true z3
    rw [no (fun h => h3 h.2.2.1)]
    exact EndI.mk fun w9 h9 => rfl
  have h3 : (L.length : Int) = n * n := by have := of_decide_eq_false z3; omega
  refine LoopI.invC (α := Nat × World) (fun y => [(3, .val (.int .i64 y.1))]) (fun y => y.2) (fun y => y.1 ≤ L.length ∧ Below w.heap.size w y.2 ∧ ∀ b, b ∈ L.take y.1 → Dbm.mayC b = true) (fun y => L.length - y.1) ?_ ?_
  · intro w1 h1
    exact ⟨(0, w1), Cov.mk (by repeat' (first | exact trivial | refine And.intro rfl ?_)) rfl rfl rfl rfl rfl, rfl, Nat.zero_le _, h1.below, by simp⟩
  rintro ⟨k, V⟩ ⟨hk, hV, hall⟩
  simp only at hk hV hall
  refine Branch.mk (fun z4 => ?_) (fun z4 => ?_)
  · have hlt : k < L.length := by have := of_decide_eq_true z4; simp only at this; omega
    have hx := List.getElem?_eq_getElem (l := L) (i := k) hlt
    generalize L[k] = x at hx
    have hxi := hL x (List.mem_of_getElem? hx)
    have hSV := hS.go hV hV.size
    refine hSV.idx hx fun ad had => ?_
    refine hSV.ld1 hx had (Below.refl _ _) (by simp) ?_
    have bad : Dbm.mayC x = false → decide (Dbm.chk n L = 0) = false := fun h => no (fun h4 => by
      have := List.any_eq_false.1 h4.2.2.2 x (List.mem_of_getElem? hx)
      simp [h] at this)
    have good : Dbm.mayC x = true → ∀ b, b ∈ L.take (k + 1) → Dbm.mayC b = true := fun h b hb => by
      rw [List.take_add_one, hx] at hb
      rcases List.mem_append.1 hb with hb | hb
      · exact hall b hb
      · rw [List.mem_singleton.1 hb]; exact h
    refine Branch.mk (fun z5 => ?_) (fun z5 => ?_)
    · have hne : x ≠ 9223372036854775807 := of_decide_eq_true z5
      have hmC : Dbm.mayC x = (decide (-288230376151711744 ≤ x / 2) && decide (x / 2 ≤ 288230376151711744)) := by unfold Dbm.mayC; simp [hne]
      refine CallI.to0 (fun w => rnumber_any x hxi.1 hxi.2 w) fun w2 => ?_
      refine Branch.mk (fun z6 => ?_) (fun z6 => ?_)
      · have h6 : x / 2 < -288230376151711744 := of_decide_eq_true z6
        rw [bad (by rw [hmC]; simp; omega)]
        exact EndI.mk fun w9 h9 => rfl
      have h6 : ¬ x / 2 < -288230376151711744 := of_decide_eq_false z6
      refine CallI.to0 (fun w => rnumber_any x hxi.1 hxi.2 w) fun w3 => ?_
      refine Branch.mk (fun z7 => ?_) (fun z7 => ?_)
      · have h7 : 288230376151711744 < x / 2 := of_decide_eq_true z7
        rw [bad (by rw [hmC]; simp; omega)]
        exact EndI.mk fun w9 h9 => rfl
      have h7 : ¬ 288230376151711744 < x / 2 := of_decide_eq_false z7
      refine Need.mk (by simp only [inK]; omega) (EndI.mk fun w9 h9 => ⟨(k + 1, w9), Cov.mk (by repeat' (first | exact trivial | refine And.intro rfl ?_)) rfl rfl rfl rfl rfl, rfl, ⟨hlt, h9.below, good (by rw [hmC]; simp; omega)⟩, by simp only; omega⟩)
    · have heq : x = 9223372036854775807 := by have := of_decide_eq_false z5; simpa using this
      refine Need.mk (by simp only [inK]; omega) (EndI.mk fun w9 h9 => ⟨(k + 1, w9), Cov.mk (by repeat' (first | exact trivial | refine And.intro rfl ?_)) rfl rfl rfl rfl rfl, rfl, ⟨hlt, h9.below, good (by rw [heq]; decide)⟩, by simp only; omega⟩)
  · have hge : k = L.length := by have := of_decide_eq_false z4; simp only at this; omega
    subst hge
    rw [List.take_length] at hall
    have hc : Dbm.chk n L = 0 := Dbm.chk_iff.2 ⟨by omega, by omega, h3, by rw [List.any_eq_false]; intro b hb; simp [hall b hb]⟩
    refine EndI.mk fun w9 h9 => ?_
    rw [decide_eq_true hc]
section
variable {N : Nat} {L : List Int}
theorem chk_int64 (h0 : Dbm.chk N L = 0) (q : Nat) : Dbm.int64 (L[q]?.getD 0) := by
  rcases Nat.lt_or_ge q L.length with h | h
  · rcases Dbm.chk_lim h0 q h with h1 | h1
    · rw [h1]; unfold Dbm.NO Dbm.int64; omega
    · unfold Dbm.int64; omega
  · rw [List.getElem?_eq_none h]; unfold Dbm.int64; simp
theorem lim_int64 {v : Int} (h : Dbm.lim 1152921504606846976 v) : Dbm.int64 v ∧ Bd.may v = true := by
  rcases h with h | h
  · rw [h]; exact ⟨by unfold Dbm.NO Dbm.int64; omega, by decide⟩
  · exact ⟨by unfold Dbm.int64; omega, Bd.may_of (Num.okB_iff.2 (by omega))⟩
/-- Sum is the program's sum where bounds are far enough below what may be. -/
theorem sum_add {u v : Int} (hu : Dbm.lim 1152921504606846976 u) (hv : Dbm.lim 1152921504606846976 v) : Bd.sum u v = ((Bd.add u v).1, true) := by
  have h := Bd.add_sum (lim_int64 hu).2 (lim_int64 hv).2
  have h2 : (Bd.sum u v).2 = true := by
    unfold Bd.sum
    split
    · rfl
    · rename_i hn
      have hu' := hu.resolve_left (fun e => hn (.inl e))
      have hv' := hv.resolve_left (fun e => hn (.inr e))
      rw [if_pos (Num.okB_iff.2 (by omega))]
  rw [h, if_pos h2]
  exact Prod.ext rfl h2
theorem pathStep_any (h0 : Dbm.chk N L = 0) (a : Option Addr) (cap : Nat) (i j S : Nat) (hi : i < N) (hj : j < N) (hS16 : S < 16) (p : Nat → Int) (hp : ∀ k, k < N → Dbm.skip i j S k = false → Dbm.lim 1152921504606846976 (p k)) (w : World) (hS : Sl w.heap.size w (.slice a L.length cap) L)
    (hcall : ∀ k, k < N → Dbm.skip i j S k = false → ∀ w1, Sl w1.heap.size w1 (.slice a L.length cap) L → Calls Tryz.prog 191 #[.agg #[.int .i64 N, .slice a L.length cap], .int .i64 k, .int .i64 j, .int .i64 (S - 2 ^ k : Nat)] w1 fun e w' => e = .returned (.int .i64 (p k)) ∧ Below w1.heap.size w1 w') :
    Calls Tryz.prog 191 #[.agg #[.int .i64 N, .slice a L.length cap], .int .i64 i, .int .i64 j, .int .i64 S] w fun e w' => e = .returned (.int .i64 ((List.range N).foldl (Dbm.pstep (Dbm.skip i j S) (Dbm.cand N L i p)) (L[i * N + j]?.getD 0))) ∧ Below w.heap.size w w' := by
  obtain ⟨c1, c2, c3, c4⟩ := Dbm.chk_iff.1 h0
  have hN4 : N ≤ 4 := by omega
  have hLN : L.length = N * N := by exact_mod_cast c3
  have hNN : N * N ≤ 16 := Nat.mul_le_mul hN4 hN4
  refine fun_eq 0 w Tryz.func191 (args := [.agg [.val (.int .i64 N), .val (.slice a L.length cap)], .val (.int .i64 i), .val (.int .i64 j), .val (.int .i64 S)]) rfl rfl ?_
  have hpl := fun k (hk : k < N) => Dbm.place_lt (N := N) (i := i) (j := k) hi hk
  have hget := fun k (hk : k < N) => show L[i * N + k]? = some (L[i * N + k]?.getD 0) by rw [List.getElem?_eq_getElem (by rw [hLN]; exact hpl k hk)]; rfl
  have hiN : ((i : Int) * (N : Int)) = ((i * N : Nat) : Int) := (Int.natCast_mul i N).symm
  have hiN16 : i * N < 16 := by have := hpl j hj; omega
  refine NewI.mk fun b1 hb1 => ?_
  refine Need.mk (by rw [hiN]; simp only [inK]; omega) ?_
  have hpj := hpl j hj
  refine Need.mk (by rw [hiN]; simp only [inK]; omega) ?_
  refine hS.idx (k := i * N + j) (hget j hj) fun ad had => ?_
  refine hS.ld1 (k := i * N + j) (hget j hj) had (Below.refl _ _) (by simp) ?_
  refine LoopI.invC (α := (Nat × Int) × World) (fun y => [(10, .val (.int .i64 y.1.1)), (9, .val (.int .i64 y.1.2))]) (fun y => y.2) (fun y => y.1.1 ≤ N ∧ Below w.heap.size w y.2 ∧ y.1.2 = (List.range y.1.1).foldl (Dbm.pstep (Dbm.skip i j S) (Dbm.cand N L i p)) (L[i * N + j]?.getD 0)) (fun y => N - y.1.1) ?_ ?_
  · intro w1 h1
    exact ⟨((0, L[i * N + j]?.getD 0), w1), Cov.mk (by repeat' (first | exact trivial | refine And.intro rfl ?_)) rfl rfl rfl rfl rfl, rfl, Nat.zero_le _, h1.below, rfl⟩
  rintro ⟨⟨k, best⟩, V⟩ ⟨hk, hV, hbest⟩
  simp only at hk hV hbest
  refine Branch.mk (fun z1 => ?_) (fun z1 => ?_)
  · have hlt : k < N := by have := of_decide_eq_true z1; simp only at this; omega
    have hnext : (List.range (k + 1)).foldl (Dbm.pstep (Dbm.skip i j S) (Dbm.cand N L i p)) (L[i * N + j]?.getD 0) = Dbm.pstep (Dbm.skip i j S) (Dbm.cand N L i p) best k := by
      rw [List.range_succ, List.foldl_append, ← hbest]; rfl
    have hbit : bits .and .i64 ((S : Int) / 2 ^ ((k : Int).toNat)) 1 = ((S / 2 ^ k % 2 : Nat) : Int) := by
      rw [i64_and1, Int.toNat_natCast]; norm_cast
    have hsame : Dbm.skip i j S k = true → (List.range (k + 1)).foldl (Dbm.pstep (Dbm.skip i j S) (Dbm.cand N L i p)) (L[i * N + j]?.getD 0) = best := fun h => by rw [hnext]; unfold Dbm.pstep; rw [if_pos h]
    refine Need.mk (by simp only [Int.toNat_natCast, IntKind.bits]; omega) ?_
    conv => whnf
    rw [hbit]
    refine Branch.mk (fun z2 => ?_) (fun z2 => ?_)
    · have h2 : Dbm.inS S k = false := by have := of_decide_eq_true z2; unfold Dbm.inS; simp; omega
      refine Need.mk (by simp only [inK]; omega) (EndI.mk fun w9 h9 => ⟨((k + 1, best), w9), Cov.mk (by repeat' (first | exact trivial | refine And.intro rfl ?_)) rfl rfl rfl rfl rfl, rfl, ⟨hlt, h9.below, (hsame (by simp [Dbm.skip, h2])).symm⟩, by simp only; omega⟩)
    have h2 : Dbm.inS S k = true := by have := of_decide_eq_false z2; unfold Dbm.inS; simp; omega
    refine Branch.mk (fun z3 => ?_) (fun z3 => ?_)
    · have h3 : k = i := by have := of_decide_eq_true z3; simp only at this; omega
      refine Need.mk (by simp only [inK]; omega) (EndI.mk fun w9 h9 => ⟨((k + 1, best), w9), Cov.mk (by repeat' (first | exact trivial | refine And.intro rfl ?_)) rfl rfl rfl rfl rfl, rfl, ⟨hlt, h9.below, (hsame (by simp [Dbm.skip, h3])).symm⟩, by simp only; omega⟩)
    have h3 : k ≠ i := by have := of_decide_eq_false z3; simp only at this; omega
    refine Branch.mk (fun z4 => ?_) (fun z4 => ?_)
    · have h4 : k = j := by have := of_decide_eq_true z4; simp only at this; omega
      refine Need.mk (by simp only [inK]; omega) (EndI.mk fun w9 h9 => ⟨((k + 1, best), w9), Cov.mk (by repeat' (first | exact trivial | refine And.intro rfl ?_)) rfl rfl rfl rfl rfl, rfl, ⟨hlt, h9.below, (hsame (by simp [Dbm.skip, h4])).symm⟩, by simp only; omega⟩)
    have h4 : k ≠ j := by have := of_decide_eq_false z4; simp only at this; omega
    have hsk : Dbm.skip i j S k = false := by simp [Dbm.skip, h2, h3, h4]
    have hSk : 2 ^ k ≤ S ∧ 2 ^ k ≤ 8 := by
      have key : ∀ S : Fin 16, ∀ k : Fin 4, Dbm.inS S.1 k.1 = true → 2 ^ k.1 ≤ S.1 ∧ 2 ^ k.1 ≤ 8 := by decide +kernel
      exact key ⟨S, hS16⟩ ⟨k, by omega⟩ h2
    have hpow : (2 : Int) ^ ((k : Int).toNat) = ((2 ^ k : Nat) : Int) := by rw [Int.toNat_natCast]; norm_cast
    have hc := hcall k hlt hsk
    generalize hP : 2 ^ k = P at hSk hpow hc
    have hsub : (S : Int) - 1 * (P : Int) = ((S - P : Nat) : Int) := by omega
    refine DrawI.go (.tk 0 (.tk 1 (.tk 2 (.tk 3 (.tk 4 (.tk 5 (.tk 6 (.tk 7 (.tk 8 (.tk 9 (.tk 10 (.tk 11 (.tk 12 (.tk 13 (.tk 14 (.tk 15 (.tk 16 (.ev 17 (.ev 18 (.tk 19 (.tk 20 (.tk 21 (.tk 22 (.tk 23 .done)))))))))))))))))))))))) (by kernel_rfl) fun w2 h2' => ?_
    have hpk := hpl k hlt
    have hw2 : Below w.heap.size w w2 := hV.trans (h2'.go.mono hV.size)
    have hS2 := hS.go hw2 hw2.size
    refine Need.mk (by rw [hiN]; simp only [inK]; omega) ?_
    refine Need.mk (by rw [hiN]; simp only [inK]; omega) ?_
    refine hS2.idx (k := i * N + k) (hget k hlt) fun ad2 had2 => ?_
    refine hS2.ld1 (k := i * N + k) (hget k hlt) had2 (Below.refl _ _) (by simp) ?_
    refine Need.mk (by rw [hpow]; simp only [Int.toNat_natCast, IntKind.bits, inK]; omega) ?_
    conv => whnf
    rw [hpow]
    refine Need.mk (by rw [hsub]; simp only [inK]; omega) ?_
    conv => whnf
    rw [hsub]
    apply CallI.use1
    focus (exact fun w3 h3 => hc w3 (hS.go h3.below h3.below.size))
    intro w3 v3 h3' hB3
    have hlu : Dbm.lim 1152921504606846976 (L[i * N + k]?.getD 0) := Dbm.lim_mono (Dbm.chk_lim h0 (i * N + k) (by rw [hLN]; exact hpk)) (by omega)
    have hlp := hp k hlt hsk
    have hsum := fun w => rbsum_any (L[i * N + k]?.getD 0) (p k) (lim_int64 hlu).2 (lim_int64 hlp).2 (lim_int64 hlu).1.1 (lim_int64 hlu).1.2 (lim_int64 hlp).1.1 (lim_int64 hlp).1.2 w
    rw [sum_add hlu hlp] at hsum
    refine CallI.to0 (fun w => hsum w) fun w4 => ?_
    refine Branch.yes rfl ?_
    refine Branch.mk (fun z5 => ?_) (fun z5 => ?_)
    · have h5 : Dbm.cand N L i p k < best := of_decide_eq_true z5
      refine Need.mk (by simp only [inK]; omega) (EndI.mk fun w9 h9 => ⟨((k + 1, Dbm.cand N L i p k), w9), Cov.mk (by repeat' (first | exact trivial | refine And.intro rfl ?_)) rfl rfl rfl rfl rfl, rfl, ⟨hlt, h9.below, ?_⟩, by simp only; omega⟩)
      simp only
      rw [hnext]; unfold Dbm.pstep; rw [if_neg (by simp [hsk]), if_pos h5]
    · have h5 : ¬ Dbm.cand N L i p k < best := of_decide_eq_false z5
      refine Need.mk (by simp only [inK]; omega) (EndI.mk fun w9 h9 => ⟨((k + 1, best), w9), Cov.mk (by repeat' (first | exact trivial | refine And.intro rfl ?_)) rfl rfl rfl rfl rfl, rfl, ⟨hlt, h9.below, ?_⟩, by simp only; omega⟩)
      simp only
      rw [hnext]; unfold Dbm.pstep; rw [if_neg (by simp [hsk]), if_neg h5]
  · have hge : k = N := by have := of_decide_eq_false z1; simp only at this; omega
    subst hge
    refine EndI.mk fun w9 h9 => ?_
    rw [hbest]
theorem path_any (h0 : Dbm.chk N L = 0) (a : Option Addr) (cap : Nat) : ∀ (f i j S : Nat), i < N → j < N → S < 16 → Dbm.inS S i = false → Dbm.pc S ≤ f → ∀ w, Sl w.heap.size w (.slice a L.length cap) L →
    Calls Tryz.prog 191 #[.agg #[.int .i64 N, .slice a L.length cap], .int .i64 i, .int .i64 j, .int .i64 S] w fun e w' => e = .returned (.int .i64 (Dbm.pth N L f i j S)) ∧ Below w.heap.size w w'
  | 0, i, j, S, hi, hj, hS, hiS, hf, w, hSl => by
    obtain ⟨c1, c2, c3, c4⟩ := Dbm.chk_iff.1 h0
    have hsk : ∀ k, k < N → Dbm.skip i j S k = true := fun k hk => by
      have := Dbm.inS_zero hS (by omega) (show k < 4 by omega)
      simp [Dbm.skip, this]
    have hno : ∀ k, k < N → Dbm.skip i j S k = false → False := fun k hk h => by rw [hsk k hk] at h; cases h
    have hfold : ∀ n, n ≤ N → (List.range n).foldl (Dbm.pstep (Dbm.skip i j S) (Dbm.cand N L i fun _ => 0)) (L[i * N + j]?.getD 0) = L[i * N + j]?.getD 0 := by
      intro n
      induction n with
      | zero => intro _; rfl
      | succ n ih =>
        intro hn
        rw [List.range_succ, List.foldl_append, ih (by omega)]
        show Dbm.pstep _ _ _ n = _
        unfold Dbm.pstep; rw [if_pos (hsk n (by omega))]
    have h := pathStep_any h0 a cap i j S hi hj hS (fun _ => 0) (fun k hk h => (hno k hk h).elim) w hSl (fun k hk h => (hno k hk h).elim)
    rw [hfold N (Nat.le_refl _)] at h
    exact h
  | f + 1, i, j, S, hi, hj, hS, hiS, hf, w, hSl => by
    obtain ⟨c1, c2, c3, c4⟩ := Dbm.chk_iff.1 h0
    have hin : ∀ k, k < N → Dbm.skip i j S k = false → Dbm.inS S k = true ∧ Dbm.inS (S - 2 ^ k) k = false ∧ Dbm.pc (S - 2 ^ k) ≤ f := fun k hk h => by
      have h1 : Dbm.inS S k = true := by unfold Dbm.skip at h; simp at h; exact h.1.1
      have h2 := Dbm.inS_less (a := k) h1 hS (by omega) (by omega)
      refine ⟨h1, ?_, by omega⟩
      cases hh : Dbm.inS (S - 2 ^ k) k with
      | false => rfl
      | true => exact absurd rfl ((h2.1.1 hh).2)
    exact pathStep_any h0 a cap i j S hi hj hS (fun k => Dbm.pth N L f k j (S - 2 ^ k)) (fun k hk h => (Dbm.pth_ok h0 f k j (S - 2 ^ k) hk hj (Nat.lt_of_le_of_lt (Nat.sub_le _ _) hS) (hin k hk h).2.1).lim) w hSl
      (fun k hk h w1 hS1 => path_any h0 a cap f k j (S - 2 ^ k) hk hj (Nat.lt_of_le_of_lt (Nat.sub_le _ _) hS) (hin k hk h).2.1 (hin k hk h).2.2 w1 hS1)
end
end Go.Proofs.YtodpgcdandechaaGreat

/-
  The document's answer of layer 4, by the engine: Closed.
-/
namespace Go.Proofs.YtodpgcdandechaaGreat
set_option linter.unusedVariables false
set_option linter.unusedSimpArgs false
set_option maxRecDepth 100000
open Go.RowKit Go.Proofs.YtodpgcdandechaaGreat.Eng Enc

namespace Dbm
def ent (N : Nat) (L : List Int) (q : Nat) : Int := if q / N = q % N then 1 else pth N L N (q / N) (q % N) (full N (q / N))
def ents (N : Nat) (L : List Int) (p : Nat) : List Int := (List.range p).map (ent N L)
theorem ents_len (N : Nat) (L : List Int) (p : Nat) : (ents N L p).length = p := by simp [ents]
theorem ents_succ (N : Nat) (L : List Int) (p : Nat) : ents N L (p + 1) = ents N L p ++ [ent N L p] := by simp [ents, List.range_succ]
/-- what the document's closing answers: clocks, bounds, whether there is one. -/
def rc (N : Nat) (L : List Int) : Int × List Int × Bool := match closeL N L with | some C => (N, C, true) | none => (0, [], false)
theorem rc_no {N : Nat} {L : List Int} (h0 : chk N L = 0) {i : Nat} (hi : i < N) (h : pth N L N i i (full N i) < 1) : rc N L = (0, [], false) := by
  have : closedR N L = none := by
    unfold closedR
    rw [if_neg]
    intro hall
    have := (List.all_eq_true.1 hall) i (List.mem_range.2 hi)
    simp at this; omega
  unfold rc; rw [← closedR_eq h0, this]
theorem rc_yes {N : Nat} {L : List Int} (h0 : chk N L = 0) (h : ∀ i, i < N → 1 ≤ pth N L N i i (full N i)) : rc N L = ((N : Int), ents N L (N * N), true) := by
  have : closedR N L = some (ents N L (N * N)) := by
    unfold closedR
    rw [if_pos (by rw [List.all_eq_true]; intro i hi; simpa using h i (List.mem_range.1 hi))]
    rfl
  unfold rc; rw [← closedR_eq h0, this]
theorem full_bits {N i : Nat} (hN : N ≤ 4) (hi : i < N) : bits .andNot .i64 (1 * 2 ^ ((N : Int).toNat) - 1) (1 * 2 ^ ((i : Int).toNat)) = ((full N i : Nat) : Int) ∧ full N i ≤ 15 := by
  have key : ∀ N : Fin 5, ∀ i : Fin 4, i.1 < N.1 → bits .andNot .i64 (1 * 2 ^ (((N.1 : Nat) : Int).toNat) - 1) (1 * 2 ^ (((i.1 : Nat) : Int).toNat)) = ((full N.1 i.1 : Nat) : Int) ∧ full N.1 i.1 ≤ 15 := by decide +kernel
  exact key ⟨N, by omega⟩ ⟨i, by omega⟩ hi
theorem shl_one {N : Nat} (hN : N ≤ 4) : (1 : Int) * 2 ^ ((N : Int).toNat) ≤ 16 ∧ 1 ≤ (1 : Int) * 2 ^ ((N : Int).toNat) := by
  have key : ∀ N : Fin 5, (1 : Int) * 2 ^ (((N.1 : Nat) : Int).toNat) ≤ 16 ∧ 1 ≤ (1 : Int) * 2 ^ (((N.1 : Nat) : Int).toNat) := by decide +kernel
  exact key ⟨N, by omega⟩
end Dbm
section
variable {N : Nat} {L : List Int}
theorem rclosed_any (h0 : Dbm.chk N L = 0) (a : Option Addr) (cap : Nat) (w : World) (hS : Sl w.heap.size w (.slice a L.length cap) L) :
    Calls Tryz.prog 122 #[.agg #[.int .i64 N, .slice a L.length cap]] w (Ret w fun v w' => ∃ a' c', v = .tuple #[.agg #[.int .i64 (Dbm.rc N L).1, .slice a' (Dbm.rc N L).2.1.length c'], .bool (Dbm.rc N L).2.2] ∧ Own 37 w.heap.size w' (.slice a' (Dbm.rc N L).2.1.length c') (Dbm.rc N L).2.1) := by
  obtain ⟨c1, c2, c3, c4⟩ := Dbm.chk_iff.1 h0
  have hN4 : N ≤ 4 := by omega
  have hLN : L.length = N * N := by exact_mod_cast c3
  have hNN : N * N ≤ 16 := Nat.mul_le_mul hN4 hN4
  refine fun_ret 0 w Tryz.func122 (args := [.agg [.val (.int .i64 N), .val (.slice a L.length cap)]]) rfl rfl ?_
  refine NewI.mk fun b1 hb1 => ?_
  refine NewI.mk fun b2 hb2 => ?_
  refine NewI.mk fun b3 hb3 => ?_
  obtain ⟨X, hX1, hX2, hX3, hXw, hXm⟩ : ∃ X, b1 < X ∧ b2 < X ∧ b3 < X ∧ w.heap.size ≤ X ∧ ∀ n, b1 < n → b2 < n → b3 < n → w.heap.size ≤ n → X ≤ n := ⟨max (max (max b1 b2) b3 + 1) w.heap.size, by omega, by omega, by omega, by omega, fun n h1 h2 h3 h4 => by omega⟩
  refine LoopI.inv (α := Nat × World × Value) (fun y => [(5, .val (.int .i64 y.1))]) (fun y => [⟨[.val (.int .i64 N), .val (.slice a L.length cap)], 101⟩, ⟨[.val (.int .i64 0), .val (.slice none 0 0)], 101⟩, ⟨[.val (.int .i64 N), .val y.2.2], 101⟩]) (fun y => y.2.1)
    (fun y => y.1 ≤ N ∧ Below w.heap.size w y.2.1 ∧ X ≤ y.2.1.heap.size ∧ Own 37 X y.2.1 y.2.2 (Dbm.ents N L (y.1 * N)) ∧ ∀ i, i < y.1 → 1 ≤ Dbm.pth N L N i i (Dbm.full N i)) (fun y => N - y.1) ?_ ?_
  · intro w1 h1
    exact ⟨(0, w1, .slice none 0 0), Cov.mk (by repeat' (first | exact trivial | refine And.intro rfl ?_)) rfl rfl rfl rfl rfl, rfl, Nat.zero_le _, h1.below, hXm _ (h1.lt b1 (by simp)) (h1.lt b2 (by simp)) (h1.lt b3 (by simp)) h1.below.size, by simp only [Nat.zero_mul]; exact Own.nil, fun i hi => by simp at hi⟩
  rintro ⟨i, V, sv⟩ ⟨hi, hV, hXV, hO, hd⟩
  simp only at hi hV hXV hO hd
  refine Branch.mk (fun z1 => ?_) (fun z1 => ?_)
  · have hiN : i < N := by have := of_decide_eq_true z1; simp only at this; omega
    refine LoopI.inv (α := Nat × World × Value) (fun y => [(6, .val (.int .i64 y.1))]) (fun y => [⟨[.val (.int .i64 N), .val (.slice a L.length cap)], 101⟩, ⟨[.val (.int .i64 0), .val (.slice none 0 0)], 101⟩, ⟨[.val (.int .i64 N), .val y.2.2], 101⟩]) (fun y => y.2.1)
      (fun y => y.1 ≤ N ∧ Below w.heap.size w y.2.1 ∧ X ≤ y.2.1.heap.size ∧ Own 37 X y.2.1 y.2.2 (Dbm.ents N L (i * N + y.1)) ∧ (i < y.1 → 1 ≤ Dbm.pth N L N i i (Dbm.full N i))) (fun y => N - y.1) ?_ ?_
    · intro w1 h1
      exact ⟨(0, w1, sv), Cov.mk (by repeat' (first | exact trivial | refine And.intro rfl ?_)) rfl rfl rfl rfl rfl, rfl, Nat.zero_le _, h1.below, Nat.le_trans hXV h1.size, hO.at h1 (by simp), fun h => by simp at h⟩
    rintro ⟨j, U, tv⟩ ⟨hj, hU, hXU, hO2, hd2⟩
    simp only at hj hU hXU hO2 hd2
    refine Branch.mk (fun z2 => ?_) (fun z2 => ?_)
    · have hjN : j < N := by have := of_decide_eq_true z2; simp only at this; omega
      obtain ⟨fb, fb15⟩ := Dbm.full_bits hN4 hiN
      obtain ⟨f1, f2, f3, _⟩ := Dbm.full_ok (N := N) (i := i) hN4 hiN
      have sN := Dbm.shl_one hN4
      have si := Dbm.shl_one (N := i) (by omega)
      refine DrawI.go (.tk 0 (.tk 1 (.tk 2 (.tk 3 (.tk 4 (.tk 5 (.tk 6 (.tk 7 .done)))))))) (by kernel_rfl) fun w2 h2 => ?_
      refine Need.mk ⟨by omega, by simp only [Int.toNat_natCast, IntKind.bits]; omega, by simp only [inK]; omega⟩ ?_
      refine Need.mk (by simp only [inK]; omega) ?_
      refine Need.mk ⟨by simp only; omega, by simp only [Int.toNat_natCast, IntKind.bits]; omega, by simp only [inK]; omega⟩ ?_
      conv => whnf
      rw [fb]
      apply CallI.use1
      focus (exact fun w3 h3 => path_any h0 a cap N i j (Dbm.full N i) hiN hjN f1 f2 f3 w3 (hS.go h3.below h3.below.size))
      intro w3 v3 h3 hB3
      have hv3 : Below w.heap.size w v3 := h3.below.trans (hB3.mono h3.below.size)
      have hO3 := (hO2.below ((atB h2 (by simp)))).below (atB h3 (by simp)) |>.below hB3
      have hXv3 : X ≤ v3.heap.size := Nat.le_trans hXU (Nat.le_trans h2.size (Nat.le_trans h3.size hB3.size))
      have hq1 : (i * N + j) / N = i := Dbm.place_div hjN
      have hq2 : (i * N + j) % N = j := Dbm.place_mod hjN
      have hpl : i * N + j < N * N := Dbm.place_lt hiN hjN
      have hb1 : b1 < v3.heap.size := by omega
      refine Branch.mk (fun z3 => ?_) (fun z3 => ?_)
      · have hij : i = j := by have := of_decide_eq_true z3; simp only at this; omega
        refine Branch.mk (fun z4 => ?_) (fun z4 => ?_)
        · have hlt1 := of_decide_eq_true z4
          rw [Dbm.rc_no h0 hiN (by rw [← hij] at hlt1; exact hlt1)]
          exact EndI.mk fun w9 h9 => ⟨_, _, rfl, Own.nil⟩
        have hge1 : 1 ≤ Dbm.pth N L N i i (Dbm.full N i) := by have := of_decide_eq_false z4; rw [← hij] at this; omega
        have hent : Dbm.ent N L (i * N + j) = 1 := by unfold Dbm.ent; rw [hq1, hq2, if_pos hij]
        have hes : Dbm.ents N L (i * N + (j + 1)) = Dbm.ents N L (i * N + j) ++ [1] := by rw [← Nat.add_assoc, Dbm.ents_succ, hent]
        refine NewI.mk fun b5 hb5 => ?_
        have hb5' : v3.heap.size ≤ b5 := hb5
        have hr : ∀ g, tv.ownBlock = some g → w.heap.size ≤ g ∧ g ∉ [b1, b2, b3, b5] := fun g hg => by
          have := hO3.lt g hg
          refine ⟨Nat.le_trans hXw this.1, fun hm => ?_⟩
          simp only [List.mem_cons, List.not_mem_nil, or_false] at hm
          omega
        refine GenN.app (α := Int) elB (Dbm.ents N L (i * N + j)) [(1 : Int)] X (fun w5 h5 => hO3.below h5.go) (fun w5 h5 => src_own h5 3 rfl rfl rfl rfl) (by rw [Dbm.ents_len]; unfold maxLen; simp; omega) (by rw [Dbm.ents_len]; simp; omega) (fun w5 h5 => Nat.le_trans hXv3 h5.size)
          (fun w5 w6 h5 hg => keep_grown h5 hg hr) fun sv' w5 w6 h5 hg hO' => ?_
        obtain ⟨a', c', rfl⟩ := hO'.form
        rw [← hes] at hO' ⊢
        have hX6 : X ≤ w6.heap.size := Nat.le_trans hXv3 (Nat.le_trans h5.size hg.size)
        refine Need.mk (by simp only [inK]; omega) (EndI.mk fun w7 h7 => ⟨(j + 1, w7, .slice a' (Dbm.ents N L (i * N + (j + 1))).length c'), Cov.mk (by repeat' (first | exact trivial | refine And.intro rfl ?_)) rfl rfl rfl rfl rfl, rfl, ⟨hjN, h7.below, Nat.le_trans hX6 h7.size, ?_, fun h => hge1⟩, by simp only; omega⟩)
        exact hO'.at h7 (by intro b hb; simp at hb; subst hb; exact hX3)
      · have hij : i ≠ j := by have := of_decide_eq_false z3; simp only at this; omega
        have hent : Dbm.ent N L (i * N + j) = Dbm.pth N L N i j (Dbm.full N i) := by unfold Dbm.ent; rw [hq1, hq2, if_neg hij]
        have hes : Dbm.ents N L (i * N + (j + 1)) = Dbm.ents N L (i * N + j) ++ [Dbm.pth N L N i j (Dbm.full N i)] := by rw [← Nat.add_assoc, Dbm.ents_succ, hent]
        refine NewI.mk fun b5 hb5 => ?_
        have hb5' : v3.heap.size ≤ b5 := hb5
        have hr : ∀ g, tv.ownBlock = some g → w.heap.size ≤ g ∧ g ∉ [b1, b2, b3, b5] := fun g hg => by
          have := hO3.lt g hg
          refine ⟨Nat.le_trans hXw this.1, fun hm => ?_⟩
          simp only [List.mem_cons, List.not_mem_nil, or_false] at hm
          omega
        refine GenN.app (α := Int) elB (Dbm.ents N L (i * N + j)) [Dbm.pth N L N i j (Dbm.full N i)] X (fun w5 h5 => hO3.below h5.go) (fun w5 h5 => src_own h5 3 rfl rfl rfl rfl) (by rw [Dbm.ents_len]; unfold maxLen; simp; omega) (by rw [Dbm.ents_len]; simp; omega) (fun w5 h5 => Nat.le_trans hXv3 h5.size)
          (fun w5 w6 h5 hg => keep_grown h5 hg hr) fun sv' w5 w6 h5 hg hO' => ?_
        obtain ⟨a', c', rfl⟩ := hO'.form
        rw [← hes] at hO' ⊢
        have hX6 : X ≤ w6.heap.size := Nat.le_trans hXv3 (Nat.le_trans h5.size hg.size)
        refine Need.mk (by simp only [inK]; omega) (EndI.mk fun w7 h7 => ⟨(j + 1, w7, .slice a' (Dbm.ents N L (i * N + (j + 1))).length c'), Cov.mk (by repeat' (first | exact trivial | refine And.intro rfl ?_)) rfl rfl rfl rfl rfl, rfl, ⟨hjN, h7.below, Nat.le_trans hX6 h7.size, ?_, fun h => hd2 (by simp only at h; omega)⟩, by simp only; omega⟩)
        exact hO'.at h7 (by intro b hb; simp at hb; subst hb; exact hX3)
    · have hge : j = N := by have := of_decide_eq_false z2; simp only at this; omega
      subst hge
      have hnx : i * j + j = (i + 1) * j := by rw [Nat.add_mul, Nat.one_mul]
      refine Need.mk (by simp only [inK]; omega) (EndI.mk fun w9 h9 => ⟨(i + 1, w9, tv), Cov.mk (by repeat' (first | exact trivial | refine And.intro rfl ?_)) rfl rfl rfl rfl rfl, rfl, ⟨hiN, h9.below, Nat.le_trans hXU h9.size, ?_, fun k hk => ?_⟩, by simp only; omega⟩)
      · simp only; rw [← hnx]; exact hO2.at h9 (by simp)
      · by_cases hki : k = i
        · subst hki; exact hd2 hiN
        · exact hd k (by simp only at hk; omega)
  · have hge : i = N := by have := of_decide_eq_false z1; simp only at this; omega
    subst hge
    rw [Dbm.rc_yes h0 hd]
    obtain ⟨a', c', rfl⟩ := hO.form
    refine EndI.mk fun w9 h9 => ⟨a', c', rfl, ?_⟩
    exact (hO.at h9 (by intro b hb; simp at hb; subst hb; exact hX2)).lower hXw
end
end Go.Proofs.YtodpgcdandechaaGreat

/-
  Plain laws: the lesser bounds of two matrices, one by one. No program is in sight.
-/
namespace Go.Proofs.YtodpgcdandechaaGreat
set_option linter.unusedVariables false
namespace Dbm
def lessr (L M : List Int) : List Int := (List.range L.length).map fun q => min (L[q]?.getD 0) (M[q]?.getD 0)
theorem lessr_len (L M : List Int) : (lessr L M).length = L.length := by simp [lessr]
def lessTo (L M : List Int) (k : Nat) : List Int := (List.range L.length).map fun q => if q < k then min (L[q]?.getD 0) (M[q]?.getD 0) else L[q]?.getD 0
theorem lessTo_len (L M : List Int) (k : Nat) : (lessTo L M k).length = L.length := by simp [lessTo]
theorem lessTo_zero (L M : List Int) : lessTo L M 0 = L := by
  apply List.ext_getElem
  · simp [lessTo]
  · intro i h1 h2; simp [lessTo, h2]
theorem lessTo_all (L M : List Int) : lessTo L M L.length = lessr L M := by
  unfold lessTo lessr
  exact List.map_congr_left fun q hq => by rw [if_pos (List.mem_range.1 hq)]
theorem lessTo_get (L M : List Int) {k : Nat} (hk : k < L.length) : (lessTo L M k)[k]?.getD 0 = L[k]?.getD 0 := by
  unfold lessTo
  rw [List.getElem?_map, List.getElem?_range hk]
  simp
theorem lessTo_succ (L M : List Int) {k : Nat} (hk : k < L.length) : lessTo L M (k + 1) = (lessTo L M k).set k (min (L[k]?.getD 0) (M[k]?.getD 0)) := by
  apply List.ext_getElem
  · simp [lessTo]
  · intro i h1 h2
    have hi : i < L.length := by simpa [lessTo] using h1
    rw [List.getElem_set]
    simp only [lessTo, List.getElem_map, List.getElem_range]
    by_cases e : k = i
    · subst e; rw [if_pos rfl, if_pos (by omega)]
    · rw [if_neg e]
      by_cases h : i < k
      · rw [if_pos h, if_pos (by omega)]
      · rw [if_neg h, if_neg (by omega)]
end Dbm
namespace Tg
/-- all bounds of a matrix, each at its place, from one place on. -/
def enumF (M : List Int) : Nat → List Rt
  | 0 => []
  | k + 1 => enumF M k ++ [⟨(k : Nat), M[k]?.getD 0⟩]
theorem enumF_len (M : List Int) (k : Nat) : (enumF M k).length = k := by
  induction k with
  | zero => rfl
  | succ k ih => simp [enumF, ih]
theorem enumF_mem {M : List Int} {k : Nat} {x : Rt} (h : x ∈ enumF M k) : 0 ≤ x.num ∧ x.num < k := by
  induction k with
  | zero => cases h
  | succ k ih =>
    rcases List.mem_append.1 h with h | h
    · have := ih h; omega
    · rw [List.mem_singleton.1 h]; simp only; omega
theorem more_enum (L M : List Int) (k : Nat) (hk : k ≤ L.length) : more L (enumF M k) = Dbm.lessTo L M k := by
  induction k with
  | zero => rw [Dbm.lessTo_zero]; rfl
  | succ k ih =>
    rw [Dbm.lessTo_succ L M (by omega), ← ih (by omega)]
    show (enumF M k ++ [_]).foldl _ L = _
    rw [List.foldl_append]
    show (more L (enumF M k)).set _ (min ((more L (enumF M k))[_]?.getD 0) _) = _
    rw [Int.toNat_natCast, ih (by omega), Dbm.lessTo_get L M (by omega)]
/-- what two matrices have in common. -/
def meet (n : Int) (L : List Int) (m : Int) (M : List Int) : Int × List Int × Int :=
  if Dbm.chk n L ≠ 0 ∨ Dbm.chk m M ≠ 0 then (0, [], 8) else if n ≠ m then (0, [], 40) else Dbm.close n (Dbm.lessr L M)
end Tg
end Go.Proofs.YtodpgcdandechaaGreat

/-
  The document's answer of layer 5, by the engine: the lesser bounds of two matrices, what they have in common.
-/
namespace Go.Proofs.YtodpgcdandechaaGreat
set_option linter.unusedVariables false
set_option linter.unusedSimpArgs false
set_option maxRecDepth 100000
open Go.RowKit Go.Proofs.YtodpgcdandechaaGreat.Eng Enc

/-- a load of a row of numbers that is none of the blocks that are written. -/
theorem ld1_row {n : Nat} {W w : World} {L : List Nat} {a : Option Addr} {ad : Addr} {m cap : Nat} {l : List Int} (h : Sl n W (.slice a m cap) l) {k : Nat} {x : Int} (hk : l[k]? = some x) (had : a = some ad) (hB : Below n W w) (hL : ∀ b, b ∈ L → n ≤ b) {K : Value → Prop} (hK : K (.int .i64 x)) :
    LoadI w L (ad.add ((k : Int).toNat * 1)) K := by
  subst had
  obtain ⟨h1, h2⟩ := h.cell hk hB
  have h3 := h2 0 (.int .i64 x) rfl
  have e0 : ∀ q : Addr, q.add 0 = q := fun q => by simp [Addr.add]
  rw [e0] at h3
  refine ⟨⟨_, ⟨h3, fun e => ?_⟩, hK⟩⟩
  have hb : (ad.add ((k : Int).toNat * 1)).block = ad.block := by unfold Addr.add; split <;> rfl
  rw [hb] at e
  have := hL _ e; omega
theorem rtwin_any (n : Int) (a : Option Addr) (cap : Nat) (L : List Int) (hlen : L.length ≤ 1000000) (w : World) (hS : Sl w.heap.size w (.slice a L.length cap) L) :
    Calls Tryz.prog 257 #[.agg #[.int .i64 n, .slice a L.length cap]] w (Ret w fun v w' => ∃ a' c', v = .agg #[.int .i64 n, .slice a' L.length c'] ∧ Own TB w.heap.size w' (.slice a' L.length c') L) := by
  refine fun_ret 0 w Tryz.func257 (args := [.agg [.val (.int .i64 n), .val (.slice a L.length cap)]]) rfl rfl ?_
  refine NewI.mk fun b1 hb1 => ?_
  refine NewI.mk fun b2 hb2 => ?_
  refine DrawI.wr (.tk 0 (.tk 1 (.tk 2 (.tk 3 (.ev 4 (.tk 5 (.ev 6 .done))))))) [1] [] (by kernel_rfl) rfl (by simp) fun w1 h1 => ?_
  have hlb : ∀ b, b ∈ [b1, b2] → b < w1.heap.size := fun b hb => h1.lt b hb
  refine GenN.app (α := Int) elB [] L w1.heap.size (fun w5 h5 => Own.nil) (fun w5 h5 => (hS.go h5.below h5.below.size).src) (by unfold maxLen; simp; omega) (by simp; omega) (fun w5 h5 => h5.size) (fun w5 w6 h5 hg => kpD_grown h5 hg (fun k hk => by cases hk)) fun v1 w5 w6 h5 hg hO1 => ?_
  rw [List.nil_append] at hO1
  obtain ⟨a1, c1, rfl⟩ := hO1.form
  refine EndI.mk fun w9 h9 => ⟨a1, c1, rfl, ?_⟩
  exact (hO1.at h9 (by intro b hb; rw [List.mem_singleton.1 hb]; exact hlb b2 (by simp))).lower h1.below.size
theorem rlesser_any (n m : Int) (a b : Option Addr) (cap cb : Nat) (L M : List Int) (hpos : 0 < L.length) (hlen : L.length ≤ 1000000) (hLM : L.length ≤ M.length) (w : World) (hS : Sl w.heap.size w (.slice a L.length cap) L) (hT : Sl w.heap.size w (.slice b M.length cb) M) :
    Calls Tryz.prog 233 #[.agg #[.int .i64 n, .slice a L.length cap], .agg #[.int .i64 m, .slice b M.length cb]] w (Ret w fun v w' => ∃ a' c', v = .agg #[.int .i64 n, .slice a' (Dbm.lessr L M).length c'] ∧ Sl w'.heap.size w' (.slice a' (Dbm.lessr L M).length c') (Dbm.lessr L M)) := by
  refine fun_ret 0 w Tryz.func233 (args := [.agg [.val (.int .i64 n), .val (.slice a L.length cap)], .agg [.val (.int .i64 m), .val (.slice b M.length cb)]]) rfl rfl ?_
  refine NewI.mk fun b1 hb1 => ?_
  refine NewI.mk fun b2 hb2 => ?_
  refine NewI.mk fun b3 hb3 => ?_
  apply CallI.use
  focus (exact fun w3 h3 => rtwin_any n a cap L hlen w3 (hS.go h3.below h3.below.size))
  rintro v w3 w4 h3 hB4 ⟨a', cap', rfl, hO⟩
  have hgb : ∀ b, b ∈ [b1, b2, b3] → b < w3.heap.size := fun b hb => h3.lt b hb
  have hwb : w.heap.size ≤ w3.heap.size := h3.below.size
  refine NewI.mk fun b4 hb4 => ?_
  have hb4' : w4.heap.size ≤ b4 := hb4
  obtain ⟨g, rfl, hg, hr⟩ := hO.row hpos
  obtain ⟨_, ⟨h0, _⟩ | ⟨g', c', cur', e0, _, hgc, hlc, hm, hs, _⟩⟩ := id hO
  · cases h0
  injection e0 with e0 e1 e2
  injection e0 with e0; injection e0 with e0; subst e0; subst e2
  have hglt := hr.lt
  have hgr : ∀ b, b ∈ [b1, b2, b3, b4] → b ≠ g := fun b hb e => by
    simp only [List.mem_cons, List.not_mem_nil, or_false] at hb
    have h1 := hgb b1 (by simp)
    have h2 := hgb b2 (by simp)
    have h3 := hgb b3 (by simp)
    omega
  have hgw : w.heap.size ≤ g := Nat.le_trans hwb hg
  have hw4 : Below w.heap.size w w4 := h3.below.trans (hB4.mono hwb)
  refine LoopI.invC (α := Nat × World) (fun y => [(6, .val (.int .i64 y.1))]) (fun y => y.2) (fun y => y.1 ≤ L.length ∧ Below w.heap.size w y.2 ∧ RowAt TB y.2 g (Dbm.lessTo L M y.1)) (fun y => L.length - y.1) ?_ ?_
  · intro w5 h5
    exact ⟨(0, w5), Cov.mk (by repeat' (first | exact trivial | refine And.intro rfl ?_)) rfl rfl rfl rfl rfl, rfl, Nat.zero_le _, h5.below, by simp only [Dbm.lessTo_zero]; exact hr.at h5 (fun hm => by simp at hm; exact hgr b4 (by simp) hm.symm)⟩
  rintro ⟨k, V⟩ ⟨hk, hV, hR⟩
  simp only at hk hV hR
  have hll := Dbm.lessTo_len L M k
  refine Branch.mk (fun z1 => ?_) (fun z1 => ?_)
  · have hlt : k < L.length := by have := of_decide_eq_true z1; simp only at this; omega
    have hy := List.getElem?_eq_getElem (l := M) (i := k) (by omega)
    generalize hyv : M[k]'(by omega) = y at hy
    have hM : M[k]?.getD 0 = y := by rw [hy]; rfl
    have hTV := hT.go hV hV.size
    refine DrawI.go (.tk 0 (.tk 1 (.tk 2 (.tk 3 (.tk 4 (.tk 5 (.tk 6 (.tk 7 (.tk 8 (.tk 9 (.tk 10 .done))))))))))) (by kernel_rfl) fun w5 h5 => ?_
    have r5 := hR.at h5 (by simp)
    have hT5 := hTV.go h5.go h5.size
    refine hT5.idx hy fun ad had => ?_
    refine hT5.ld1 hy had (Below.refl _ _) (by simp) ?_
    refine IdxI.mk ⟨_, ⟨rfl, by simp only; omega, by simp only; omega⟩, ?_⟩
    have ead : (⟨g, 0, none⟩ : Addr).add ((k : Int).toNat * 1) = ⟨g, k, none⟩ := by simp [addr_addL]
    refine LoadI.mk ⟨_, ⟨by rw [show ((⟨g, 0, none⟩ : Addr).add ((((k, V).1 : Nat) : Int).toNat * 1)) = ⟨g, k, none⟩ from ead]; exact r5.cell (j := k) (by omega), by simp⟩, ?_⟩
    rw [Dbm.lessTo_get L M hlt]
    refine Branch.mk (fun z2 => ?_) (fun z2 => ?_)
    · have hlt2 : y < L[k]?.getD 0 := of_decide_eq_true z2
      refine DrawI.wr (.tk 0 (.tk 1 (.tk 2 (.tk 3 (.tk 4 (.tk 5 (.tk 6 (.tk 7 (.tk 8 (.ev 9 .done)))))))))) [] [g] (by kernel_rfl) rfl (fun b hb h => hgr b hb (by simpa using h)) fun w6 h6 => ?_
      have r6 := r5.at h6 (by simp)
      have hT6 := hT5.go h6.go h6.size
      refine hT6.idx hy fun ad2 had2 => ?_
      refine ld1_row hT hy had2 h6.below (fun b hb => by rw [List.mem_singleton.1 hb]; exact hgw) ?_
      refine IdxI.mk ⟨_, ⟨rfl, by simp only; omega, by simp only; omega⟩, ?_⟩
      refine StoreI.mk fun w7 h7 => ?_
      have r7 := r6.at h7 (by simp)
      rw [show ((⟨g, 0, none⟩ : Addr).add ((((k, V).1 : Nat) : Int).toNat * 1)) = ⟨g, k, none⟩ from ead]
      refine ⟨⟨⟨_, r7.cell (j := k) (by omega)⟩, r7.frozen _⟩, Zo.kpD_set hgw hgr (by simp [locs]), ?_⟩
      refine Need.mk (by simp only [inK]; omega) (EndI.mk fun w9 h9 => ⟨(k + 1, w9), Cov.mk (by repeat' (first | exact trivial | refine And.intro rfl ?_)) rfl rfl rfl rfl rfl, rfl, ⟨hlt, h9.below, ?_⟩, by simp only; omega⟩)
      show RowAt TB w9 g (Dbm.lessTo L M (k + 1))
      rw [Dbm.lessTo_succ L M hlt, hM, show min (L[k]?.getD 0) y = y by omega]
      exact (r7.set (by omega) _).at h9 (by simp)
    · have hge2 : ¬ y < L[k]?.getD 0 := of_decide_eq_false z2
      refine Need.mk (by simp only [inK]; omega) (EndI.mk fun w9 h9 => ⟨(k + 1, w9), Cov.mk (by repeat' (first | exact trivial | refine And.intro rfl ?_)) rfl rfl rfl rfl rfl, rfl, ⟨hlt, h9.below, ?_⟩, by simp only; omega⟩)
      show RowAt TB w9 g (Dbm.lessTo L M (k + 1))
      have e1 : Dbm.lessTo L M (k + 1) = Dbm.lessTo L M k := by
        rw [Dbm.lessTo_succ L M hlt, hM, show min (L[k]?.getD 0) y = L[k]?.getD 0 by omega]
        apply List.ext_getElem?
        intro i
        by_cases e : i = k
        · subst e
          have h1 : (Dbm.lessTo L M i)[i]? = some ((Dbm.lessTo L M i)[i]?.getD 0) := by rw [List.getElem?_eq_getElem (by omega)]; rfl
          rw [List.getElem?_set_self (by omega), h1, Dbm.lessTo_get L M hlt]
        · rw [List.getElem?_set_ne (fun h => e h.symm)]
      rw [e1]
      exact r5.at h9 (by simp)
  · have hge : k = L.length := by have := of_decide_eq_false z1; simp only at this; omega
    subst hge
    rw [Dbm.lessTo_all] at hR
    have hlr := Dbm.lessr_len L M
    refine EndI.mk fun w9 h9 => ⟨_, cap', by rw [hlr], ?_⟩
    exact Fresh.sl (e := TB) (base := w.heap.size) (.inr ⟨g, cap', rfl, by omega, hm, hgw, hR.at h9 (fun hm => hgr b3 (by simp) (List.mem_singleton.1 hm).symm)⟩)
/-- what two matrices have in common: the closing of the lesser bounds. -/
theorem rcommon_any (N : Nat) (m : Int) (a b : Option Addr) (cap cb : Nat) (L M : List Int) (h0 : Dbm.chk N (Dbm.lessr L M) = 0) (hLM : L.length ≤ M.length) (w : World) (hS : Sl w.heap.size w (.slice a L.length cap) L) (hT : Sl w.heap.size w (.slice b M.length cb) M) :
    Calls Tryz.prog 178 #[.agg #[.int .i64 N, .slice a L.length cap], .agg #[.int .i64 m, .slice b M.length cb]] w (Ret w fun v w' => ∃ a' c', v = .tuple #[.agg #[.int .i64 (Dbm.rc N (Dbm.lessr L M)).1, .slice a' (Dbm.rc N (Dbm.lessr L M)).2.1.length c'], .bool (Dbm.rc N (Dbm.lessr L M)).2.2] ∧ Own TB w.heap.size w' (.slice a' (Dbm.rc N (Dbm.lessr L M)).2.1.length c') (Dbm.rc N (Dbm.lessr L M)).2.1) := by
  obtain ⟨c1, c2, c3, c4⟩ := Dbm.chk_iff.1 h0
  have hlr := Dbm.lessr_len L M
  have hN : N = 1 ∨ N = 2 ∨ N = 3 ∨ N = 4 := by omega
  have hLpos : 0 < L.length ∧ L.length ≤ 16 := by rcases hN with rfl | rfl | rfl | rfl <;> simp at c3 <;> omega
  refine fun_ret 0 w Tryz.func178 (args := [.agg [.val (.int .i64 N), .val (.slice a L.length cap)], .agg [.val (.int .i64 m), .val (.slice b M.length cb)]]) rfl rfl ?_
  refine NewI.mk fun b1 hb1 => ?_
  refine NewI.mk fun b2 hb2 => ?_
  refine NewI.mk fun b3 hb3 => ?_
  apply CallI.use
  focus (exact fun w1 h1 => rlesser_any N m a b cap cb L M hLpos.1 (by omega) hLM w1 (hS.go h1.below h1.below.size) (hT.go h1.below h1.below.size))
  rintro v w1 v1 h1 hB1 ⟨a1, c1', rfl, hS1⟩
  apply CallI.use
  focus (exact fun w2 h2 => rclosed_any h0 a1 c1' w2 (hS1.go (atB h2 (by simp)) h2.size))
  rintro v w2 v2 h2 hB2 ⟨a2, c2', rfl, hO2⟩
  refine EndI.mk fun w9 h9 => ⟨a2, c2', rfl, ?_⟩
  exact (hO2.at h9 (fun b hb => by rw [List.mem_singleton.1 hb]; exact h2.lt b3 (by simp))).lower h2.below.size
end Go.Proofs.YtodpgcdandechaaGreat

/-
  The contract of the document's comparison of matrices (rallentandoref04.Same), by the engine.
-/
namespace Go.Proofs.YtodpgcdandechaaGreat
set_option linter.unusedVariables false
set_option linter.unusedSimpArgs false
set_option maxRecDepth 100000
open Go.RowKit Go.Proofs.YtodpgcdandechaaGreat.Eng Enc

def sameB (m n : Int) (L M : List Int) : Bool := decide (m = n) && decide (L = M)
theorem same04_any (m n : Int) (L M : List Int) (a b : Option Addr) (ca cb : Nat) (w : World) (hA : Sl w.heap.size w (.slice a L.length ca) L) (hB : Sl w.heap.size w (.slice b M.length cb) M) :
    Calls Tryz.prog 134 #[.agg #[.int .i64 m, .slice a L.length ca], .agg #[.int .i64 n, .slice b M.length cb]] w fun e w' => e = .returned (.bool (sameB m n L M)) ∧ Below w.heap.size w w' := by
  obtain ⟨_, _, ea, hca, hma, _⟩ := hA.form
  injection ea with e1 e2 e3
  subst e1; subst e3
  unfold maxLen at hma
  refine fun_eq 0 w Tryz.func134 (args := [.agg [.val (.int .i64 m), .val (.slice a L.length ca)], .agg [.val (.int .i64 n), .val (.slice b M.length cb)]]) rfl rfl ?_
  refine NewI.mk fun b1 hb1 => ?_
  refine NewI.mk fun b2 hb2 => ?_
  refine Branch.mk (fun hc => ?_) (fun hc => ?_)
  · refine EndI.mk fun w1 h1 => ?_
    have : m ≠ n := by simpa using hc
    simp [sameB, this]
  have hmn : m = n := by simpa using hc
  refine Branch.mk (fun hc => ?_) (fun hc => ?_)
  · refine EndI.mk fun w1 h1 => ?_
    have h1 : (L.length : Int) ≠ M.length := by simpa using hc
    have : L ≠ M := fun e => h1 (by rw [e])
    simp [sameB, this]
  have hlm : L.length = M.length := by have : (L.length : Int) = M.length := by simpa using hc
                                       omega
  refine LoopI.invC (α := Nat × World) (fun y => [(5, .val (.int .i64 y.1))]) (fun y => y.2) (fun y => y.1 ≤ L.length ∧ Below w.heap.size w y.2 ∧ ∀ j, j < y.1 → L[j]? = M[j]?) (fun y => L.length - y.1) ?_ ?_
  · intro w1 h1
    exact ⟨(0, w1), Cov.mk (by repeat' (first | exact trivial | refine And.intro rfl ?_)) rfl rfl rfl rfl rfl, rfl, Nat.zero_le _, h1.below, fun j hj => by omega⟩
  rintro ⟨k, W⟩ ⟨hk, hW, hall⟩
  refine Branch.mk (fun hb => ?_) (fun hb => ?_)
  · have hlt : k < L.length := by simpa using hb
    have hkm : k < M.length := by omega
    refine DrawI.go (.tk 0 (.tk 1 (.tk 2 (.tk 3 (.tk 4 (.tk 5 (.tk 6 (.tk 7 (.tk 8 (.tk 9 (.tk 10 .done))))))))))) (by kernel_rfl) fun w2 h2 => ?_
    refine hA.idx (List.getElem?_eq_getElem hlt) fun ad had => ?_
    refine hA.ld1 (List.getElem?_eq_getElem hlt) had h2.below (by simp) ?_
    refine hB.idx (List.getElem?_eq_getElem hkm) fun bd hbd => ?_
    refine hB.ld1 (List.getElem?_eq_getElem hkm) hbd h2.below (by simp) ?_
    refine Branch.mk (fun hc => ?_) (fun hc => ?_)
    · refine EndI.mk fun w3 h3 => ?_
      have h1 : L[k] ≠ M[k] := by simpa using hc
      have : L ≠ M := fun e => by subst e; exact h1 rfl
      simp [sameB, this]
    · have h1 : L[k] = M[k] := by simpa using hc
      refine Need.mk (by show _ ∧ _; omega) (EndI.mk fun w3 h3 => ⟨(k + 1, w3), Cov.mk (by repeat' (first | exact trivial | refine And.intro rfl ?_)) rfl rfl rfl rfl rfl, rfl, ⟨hlt, h3.below, fun j hj => ?_⟩, by simp only; omega⟩)
      by_cases hjk : j = k
      · subst hjk; rw [List.getElem?_eq_getElem hlt, List.getElem?_eq_getElem hkm, h1]
      · exact hall j (by omega)
  · have hge : k = L.length := by have : ¬ k < L.length := by simpa using hb
                                  omega
    refine EndI.mk fun w3 h3 => ?_
    have : L = M := by
      apply List.ext_getElem?
      intro j
      rcases Nat.lt_or_ge j L.length with h | h
      · exact hall j (by omega)
      · rw [List.getElem?_eq_none h, List.getElem?_eq_none (by omega)]
    simp [sameB, this, hmn]
end Go.Proofs.YtodpgcdandechaaGreat

/-
  The contract of bound.Not, by the engine.
-/
namespace Go.Proofs.YtodpgcdandechaaGreat
set_option linter.unusedVariables false
set_option linter.unusedSimpArgs false
set_option maxRecDepth 100000
open Go.RowKit Go.Proofs.YtodpgcdandechaaGreat.Eng Enc

theorem bnot_any (b : Int) (w : World) :
    Calls Tryz.prog 293 #[.int .i64 b] w fun e w' => e = .returned (.tuple #[.int .i64 (Bd.not b).1, .int .i64 (Bd.not b).2]) ∧ Below w.heap.size w w' := by
  refine fun_eq 0 w Tryz.func293 (args := [.val (.int .i64 b)]) rfl rfl ?_
  have st := Stay.first (w := w)
  unfold Bd.not
  have hbd : -2305843009213693952 ≤ (Bd.value b).1 ∧ (Bd.value b).1 ≤ 2305843009213693952 := by
    unfold Bd.value
    cases hm : Bd.may b with
    | false => simp
    | true =>
      simp only [if_true]
      split
      · simp
      · rename_i hn
        have := Num.okB_iff.1 (Bd.okB_of_may hm hn)
        simp only; omega
  apply CallI.use1
  focus (exact fun w1 h1 => value_any b w1)
  intro w1 v1 h1 hB1
  have st := st.next h1 (fun x hx => by simp at hx <;> omega) hB1
  generalize Bd.value b = V at *
  obtain ⟨c, s, e⟩ := V
  refine Branch.mk (fun hc => ?_) (fun hc => ?_)
  · rw [if_neg (by simpa using hc)]
    exact EndI.mk fun w9 h9 => rfl
  rw [if_pos (by simpa using hc)]
  refine Need.mk (by simp only at hbd; simp only [inK]; omega) ?_
  apply CallI.use1
  focus (exact fun w2 h2 => made_any (-c) (!s) w2)
  intro w2 v2 h2 hB2
  have st := st.next h2 (fun x hx => by simp at hx <;> omega) hB2
  exact EndI.mk fun w9 h9 => rfl
end Go.Proofs.YtodpgcdandechaaGreat

/-
  The contracts of zone.Matrix, minus.other, minus.with, by the engine.
-/
namespace Go.Proofs.YtodpgcdandechaaGreat
set_option linter.unusedVariables false
set_option linter.unusedSimpArgs false
set_option maxRecDepth 100000
open Go.RowKit Go.Proofs.YtodpgcdandechaaGreat.Eng Enc

namespace Zo
def mat (z : Zn) : Int × List Int × Int := if Dbm.chk 3 (matL z) = 0 then (3, matL z, 0) else (0, [], 8)
def get (z : Zn) (i : Nat) : Int := if i = 0 then z.a else if i = 1 then z.b else if i = 2 then z.c else if i = 3 then z.d else if i = 4 then z.e else z.f
def set (z : Zn) (i : Nat) (x : Int) : Zn :=
  if i = 0 then { z with a := x } else if i = 1 then { z with b := x } else if i = 2 then { z with c := x } else if i = 3 then { z with d := x } else if i = 4 then { z with e := x } else { z with f := x }
end Zo
namespace Mi
/-- a zone with a bound more, as it is; closed. -/
def cut (z : Zn) (i : Nat) (b : Int) : Zn := Zo.set z i (min (Zo.get z i) b)
def wth (z : Zn) (i : Nat) (b : Int) : Zn × Int := if Dbm.chk 3 (Zo.matL (cut z i b)) = 0 then Zo.of 3 (Zo.matL (cut z i b)) else (Zo.nought, 8)
def other (i : Nat) : Nat := if i % 2 = 0 then i + 1 else i - 1
end Mi

theorem zMatrix_any (z : Zn) (w : World) :
    Calls Tryz.prog 165 #[.agg #[.int .i64 z.a, .int .i64 z.b, .int .i64 z.c, .int .i64 z.d, .int .i64 z.e, .int .i64 z.f]] w (Ret w fun v w' => ∃ a' c', v = .tuple #[.agg #[.int .i64 (Zo.mat z).1, .slice a' (Zo.mat z).2.1.length c'], .int .i64 (Zo.mat z).2.2] ∧ Sl w'.heap.size w' (.slice a' (Zo.mat z).2.1.length c') (Zo.mat z).2.1) := by
  refine fun_ret 0 w Tryz.func165 (args := [.agg [.val (.int .i64 z.a), .val (.int .i64 z.b), .val (.int .i64 z.c), .val (.int .i64 z.d), .val (.int .i64 z.e), .val (.int .i64 z.f)]]) rfl rfl ?_
  have st := Stay.first (w := w)
  refine NewI.mk fun b1 hb1 => ?_
  refine NewI.mk fun b2 hb2 => ?_
  apply CallI.use
  focus (exact fun w1 h1 => zmatrix_any z w1)
  rintro v w1 v1 h1 hB1 ⟨a1, c1, rfl, hF1⟩
  have st := st.next h1 (fun x hx => by simp at hx <;> omega) hB1
  refine NewI.mk fun b3 hb3 => ?_
  unfold Zo.mat
  apply CallI.use1
  focus (exact fun w2 h2 => dcheck_any 3 a1 c1 (Zo.matL z) w2 (hF1.sl.st (st.at h2 (fun x hx => by simp at hx <;> omega))))
  intro w2 v2 h2 hB2
  have st := st.next h2 (fun x hx => by simp at hx <;> omega) hB2
  refine Branch.mk (fun hc => ?_) (fun hc => ?_)
  · have h0 : ¬ Dbm.chk 3 (Zo.matL z) = 0 := by simpa using hc
    have h8 := (Dbm.chk_cases 3 (Zo.matL z)).resolve_left h0
    rw [if_neg h0, h8]
    exact EndI.mk fun w9 h9 => ⟨_, _, rfl, Sl.nil⟩
  have h0 : Dbm.chk 3 (Zo.matL z) = 0 := by simpa using hc
  rw [if_pos h0]
  exact EndI.mk fun w9 h9 => ⟨_, _, rfl, ((hF1.st st).at h9 (fun b hb => by have := h1.lt b1 (by simp); have := h1.lt b2 (by simp); simp at hb; omega)).sl⟩
theorem mother_any (i : Nat) (hi : i < 6) (w : World) :
    Calls Tryz.prog 295 #[.int .i64 (i : Nat)] w fun e w' => e = .returned (.int .i64 (Mi.other i : Nat)) ∧ Below w.heap.size w w' := by
  have h6 : i = 0 ∨ i = 1 ∨ i = 2 ∨ i = 3 ∨ i = 4 ∨ i = 5 := by omega
  rcases h6 with rfl | rfl | rfl | rfl | rfl | rfl
  all_goals (refine fun_eq 0 w Tryz.func295 (args := [.val (.int .i64 _)]) rfl rfl ?_)
  all_goals (exact EndI.mk fun w9 h9 => rfl)
theorem mwith_any (z : Zn) (i : Nat) (hi : i < 6) (b : Int) (w : World) :
    Calls Tryz.prog 294 #[.agg #[.int .i64 z.a, .int .i64 z.b, .int .i64 z.c, .int .i64 z.d, .int .i64 z.e, .int .i64 z.f], .int .i64 (i : Nat), .int .i64 b] w fun e w' => e = .returned (.tuple #[.agg #[.int .i64 (Mi.wth z i b).1.a, .int .i64 (Mi.wth z i b).1.b, .int .i64 (Mi.wth z i b).1.c, .int .i64 (Mi.wth z i b).1.d, .int .i64 (Mi.wth z i b).1.e, .int .i64 (Mi.wth z i b).1.f], .int .i64 (Mi.wth z i b).2]) ∧ Below w.heap.size w w' := by
  have h6 : i = 0 ∨ i = 1 ∨ i = 2 ∨ i = 3 ∨ i = 4 ∨ i = 5 := by omega
  have fin : ∀ (y : Zn), Mi.cut z i b = y → Mi.wth z i b = if Dbm.chk 3 (Zo.matL y) = 0 then Zo.of 3 (Zo.matL y) else (Zo.nought, 8) := fun y h => by unfold Mi.wth; rw [h]
  have em : ∀ x : Int, minL x [b] = min x b := fun x => by simp [minL]; omega
  rcases h6 with rfl | rfl | rfl | rfl | rfl | rfl
  · rw [fin ⟨minL z.a [b], z.b, z.c, z.d, z.e, z.f⟩ (by unfold Mi.cut; rw [← em]; rfl)]
    refine fun_eq 0 w Tryz.func294 (args := [.agg [.val (.int .i64 z.a), .val (.int .i64 z.b), .val (.int .i64 z.c), .val (.int .i64 z.d), .val (.int .i64 z.e), .val (.int .i64 z.f)], .val (.int .i64 0), .val (.int .i64 b)]) rfl rfl ?_
    have hz := fun w => zMatrix_any ⟨minL z.a [b], z.b, z.c, z.d, z.e, z.f⟩ w
    have st := Stay.first (w := w)
    refine NewI.mk fun b1 hb1 => ?_
    have hb1 : w.heap.size ≤ b1 := hb1
    refine NewI.mk fun b2 hb2 => ?_
    refine Need.mk (by decide) ?_
    refine Need.mk (by decide) ?_
    unfold Zo.mat at hz
    by_cases h0 : Dbm.chk 3 (Zo.matL ⟨minL z.a [b], z.b, z.c, z.d, z.e, z.f⟩) = 0
    · rw [if_pos h0] at hz ⊢
      apply CallI.use
      focus (exact fun w1 h1 => hz w1)
      rintro v w1 v1 h1 hB1 ⟨a1, c1, rfl, hS1⟩
      have st := st.next h1 (fun x hx => by simp at hx <;> omega) hB1
      refine NewI.mk fun b3 hb3 => ?_
      refine Branch.no rfl ?_
      apply CallI.use1
      · exact fun w2 h2 => zof_any 3 a1 c1 (Zo.matL ⟨minL z.a [b], z.b, z.c, z.d, z.e, z.f⟩) w2 (hS1.st (st.at h2 (fun x hx => by simp at hx <;> omega)))
      intro w2 v2 h2 hB2
      exact EndI.mk fun w9 h9 => rfl
    · rw [if_neg h0] at hz ⊢
      apply CallI.use
      focus (exact fun w1 h1 => hz w1)
      rintro v w1 v1 h1 hB1 ⟨a1, c1, rfl, hS1⟩
      refine NewI.mk fun b3 hb3 => ?_
      refine Branch.yes rfl ?_
      exact EndI.mk fun w9 h9 => rfl
  · rw [fin ⟨z.a, minL z.b [b], z.c, z.d, z.e, z.f⟩ (by unfold Mi.cut; rw [← em]; rfl)]
    refine fun_eq 0 w Tryz.func294 (args := [.agg [.val (.int .i64 z.a), .val (.int .i64 z.b), .val (.int .i64 z.c), .val (.int .i64 z.d), .val (.int .i64 z.e), .val (.int .i64 z.f)], .val (.int .i64 1), .val (.int .i64 b)]) rfl rfl ?_
    have hz := fun w => zMatrix_any ⟨z.a, minL z.b [b], z.c, z.d, z.e, z.f⟩ w
    have st := Stay.first (w := w)
    refine NewI.mk fun b1 hb1 => ?_
    have hb1 : w.heap.size ≤ b1 := hb1
    refine NewI.mk fun b2 hb2 => ?_
    refine Need.mk (by decide) ?_
    refine Need.mk (by decide) ?_
    unfold Zo.mat at hz
    by_cases h0 : Dbm.chk 3 (Zo.matL ⟨z.a, minL z.b [b], z.c, z.d, z.e, z.f⟩) = 0
    · rw [if_pos h0] at hz ⊢
      apply CallI.use
      focus (exact fun w1 h1 => hz w1)
      rintro v w1 v1 h1 hB1 ⟨a1, c1, rfl, hS1⟩
      have st := st.next h1 (fun x hx => by simp at hx <;> omega) hB1
      refine NewI.mk fun b3 hb3 => ?_
      refine Branch.no rfl ?_
      apply CallI.use1
      · exact fun w2 h2 => zof_any 3 a1 c1 (Zo.matL ⟨z.a, minL z.b [b], z.c, z.d, z.e, z.f⟩) w2 (hS1.st (st.at h2 (fun x hx => by simp at hx <;> omega)))
      intro w2 v2 h2 hB2
      exact EndI.mk fun w9 h9 => rfl
    · rw [if_neg h0] at hz ⊢
      apply CallI.use
      focus (exact fun w1 h1 => hz w1)
      rintro v w1 v1 h1 hB1 ⟨a1, c1, rfl, hS1⟩
      refine NewI.mk fun b3 hb3 => ?_
      refine Branch.yes rfl ?_
      exact EndI.mk fun w9 h9 => rfl
  · rw [fin ⟨z.a, z.b, minL z.c [b], z.d, z.e, z.f⟩ (by unfold Mi.cut; rw [← em]; rfl)]
    refine fun_eq 0 w Tryz.func294 (args := [.agg [.val (.int .i64 z.a), .val (.int .i64 z.b), .val (.int .i64 z.c), .val (.int .i64 z.d), .val (.int .i64 z.e), .val (.int .i64 z.f)], .val (.int .i64 2), .val (.int .i64 b)]) rfl rfl ?_
    have hz := fun w => zMatrix_any ⟨z.a, z.b, minL z.c [b], z.d, z.e, z.f⟩ w
    have st := Stay.first (w := w)
    refine NewI.mk fun b1 hb1 => ?_
    have hb1 : w.heap.size ≤ b1 := hb1
    refine NewI.mk fun b2 hb2 => ?_
    refine Need.mk (by decide) ?_
    refine Need.mk (by decide) ?_
    unfold Zo.mat at hz
    by_cases h0 : Dbm.chk 3 (Zo.matL ⟨z.a, z.b, minL z.c [b], z.d, z.e, z.f⟩) = 0
    · rw [if_pos h0] at hz ⊢
      apply CallI.use
      focus (exact fun w1 h1 => hz w1)
      rintro v w1 v1 h1 hB1 ⟨a1, c1, rfl, hS1⟩
      have st := st.next h1 (fun x hx => by simp at hx <;> omega) hB1
      refine NewI.mk fun b3 hb3 => ?_
      refine Branch.no rfl ?_
      apply CallI.use1
      · exact fun w2 h2 => zof_any 3 a1 c1 (Zo.matL ⟨z.a, z.b, minL z.c [b], z.d, z.e, z.f⟩) w2 (hS1.st (st.at h2 (fun x hx => by simp at hx <;> omega)))
      intro w2 v2 h2 hB2
      exact EndI.mk fun w9 h9 => rfl
    · rw [if_neg h0] at hz ⊢
      apply CallI.use
      focus (exact fun w1 h1 => hz w1)
      rintro v w1 v1 h1 hB1 ⟨a1, c1, rfl, hS1⟩
      refine NewI.mk fun b3 hb3 => ?_
      refine Branch.yes rfl ?_
      exact EndI.mk fun w9 h9 => rfl
  · rw [fin ⟨z.a, z.b, z.c, minL z.d [b], z.e, z.f⟩ (by unfold Mi.cut; rw [← em]; rfl)]
    refine fun_eq 0 w Tryz.func294 (args := [.agg [.val (.int .i64 z.a), .val (.int .i64 z.b), .val (.int .i64 z.c), .val (.int .i64 z.d), .val (.int .i64 z.e), .val (.int .i64 z.f)], .val (.int .i64 3), .val (.int .i64 b)]) rfl rfl ?_
    have hz := fun w => zMatrix_any ⟨z.a, z.b, z.c, minL z.d [b], z.e, z.f⟩ w
    have st := Stay.first (w := w)
    refine NewI.mk fun b1 hb1 => ?_
    have hb1 : w.heap.size ≤ b1 := hb1
    refine NewI.mk fun b2 hb2 => ?_
    refine Need.mk (by decide) ?_
    refine Need.mk (by decide) ?_
    unfold Zo.mat at hz
    by_cases h0 : Dbm.chk 3 (Zo.matL ⟨z.a, z.b, z.c, minL z.d [b], z.e, z.f⟩) = 0
    · rw [if_pos h0] at hz ⊢
      apply CallI.use
      focus (exact fun w1 h1 => hz w1)
      rintro v w1 v1 h1 hB1 ⟨a1, c1, rfl, hS1⟩
      have st := st.next h1 (fun x hx => by simp at hx <;> omega) hB1
      refine NewI.mk fun b3 hb3 => ?_
      refine Branch.no rfl ?_
      apply CallI.use1
      · exact fun w2 h2 => zof_any 3 a1 c1 (Zo.matL ⟨z.a, z.b, z.c, minL z.d [b], z.e, z.f⟩) w2 (hS1.st (st.at h2 (fun x hx => by simp at hx <;> omega)))
      intro w2 v2 h2 hB2
      exact EndI.mk fun w9 h9 => rfl
    · rw [if_neg h0] at hz ⊢
      apply CallI.use
      focus (exact fun w1 h1 => hz w1)
      rintro v w1 v1 h1 hB1 ⟨a1, c1, rfl, hS1⟩
      refine NewI.mk fun b3 hb3 => ?_
      refine Branch.yes rfl ?_
      exact EndI.mk fun w9 h9 => rfl
  · rw [fin ⟨z.a, z.b, z.c, z.d, minL z.e [b], z.f⟩ (by unfold Mi.cut; rw [← em]; rfl)]
    refine fun_eq 0 w Tryz.func294 (args := [.agg [.val (.int .i64 z.a), .val (.int .i64 z.b), .val (.int .i64 z.c), .val (.int .i64 z.d), .val (.int .i64 z.e), .val (.int .i64 z.f)], .val (.int .i64 4), .val (.int .i64 b)]) rfl rfl ?_
    have hz := fun w => zMatrix_any ⟨z.a, z.b, z.c, z.d, minL z.e [b], z.f⟩ w
    have st := Stay.first (w := w)
    refine NewI.mk fun b1 hb1 => ?_
    have hb1 : w.heap.size ≤ b1 := hb1
    refine NewI.mk fun b2 hb2 => ?_
    refine Need.mk (by decide) ?_
    refine Need.mk (by decide) ?_
    unfold Zo.mat at hz
    by_cases h0 : Dbm.chk 3 (Zo.matL ⟨z.a, z.b, z.c, z.d, minL z.e [b], z.f⟩) = 0
    · rw [if_pos h0] at hz ⊢
      apply CallI.use
      focus (exact fun w1 h1 => hz w1)
      rintro v w1 v1 h1 hB1 ⟨a1, c1, rfl, hS1⟩
      have st := st.next h1 (fun x hx => by simp at hx <;> omega) hB1
      refine NewI.mk fun b3 hb3 => ?_
      refine Branch.no rfl ?_
      apply CallI.use1
      · exact fun w2 h2 => zof_any 3 a1 c1 (Zo.matL ⟨z.a, z.b, z.c, z.d, minL z.e [b], z.f⟩) w2 (hS1.st (st.at h2 (fun x hx => by simp at hx <;> omega)))
      intro w2 v2 h2 hB2
      exact EndI.mk fun w9 h9 => rfl
    · rw [if_neg h0] at hz ⊢
      apply CallI.use
      focus (exact fun w1 h1 => hz w1)
      rintro v w1 v1 h1 hB1 ⟨a1, c1, rfl, hS1⟩
      refine NewI.mk fun b3 hb3 => ?_
      refine Branch.yes rfl ?_
      exact EndI.mk fun w9 h9 => rfl
  · rw [fin ⟨z.a, z.b, z.c, z.d, z.e, minL z.f [b]⟩ (by unfold Mi.cut; rw [← em]; rfl)]
    refine fun_eq 0 w Tryz.func294 (args := [.agg [.val (.int .i64 z.a), .val (.int .i64 z.b), .val (.int .i64 z.c), .val (.int .i64 z.d), .val (.int .i64 z.e), .val (.int .i64 z.f)], .val (.int .i64 5), .val (.int .i64 b)]) rfl rfl ?_
    have hz := fun w => zMatrix_any ⟨z.a, z.b, z.c, z.d, z.e, minL z.f [b]⟩ w
    have st := Stay.first (w := w)
    refine NewI.mk fun b1 hb1 => ?_
    have hb1 : w.heap.size ≤ b1 := hb1
    refine NewI.mk fun b2 hb2 => ?_
    refine Need.mk (by decide) ?_
    refine Need.mk (by decide) ?_
    unfold Zo.mat at hz
    by_cases h0 : Dbm.chk 3 (Zo.matL ⟨z.a, z.b, z.c, z.d, z.e, minL z.f [b]⟩) = 0
    · rw [if_pos h0] at hz ⊢
      apply CallI.use
      focus (exact fun w1 h1 => hz w1)
      rintro v w1 v1 h1 hB1 ⟨a1, c1, rfl, hS1⟩
      have st := st.next h1 (fun x hx => by simp at hx <;> omega) hB1
      refine NewI.mk fun b3 hb3 => ?_
      refine Branch.no rfl ?_
      apply CallI.use1
      · exact fun w2 h2 => zof_any 3 a1 c1 (Zo.matL ⟨z.a, z.b, z.c, z.d, z.e, minL z.f [b]⟩) w2 (hS1.st (st.at h2 (fun x hx => by simp at hx <;> omega)))
      intro w2 v2 h2 hB2
      exact EndI.mk fun w9 h9 => rfl
    · rw [if_neg h0] at hz ⊢
      apply CallI.use
      focus (exact fun w1 h1 => hz w1)
      rintro v w1 v1 h1 hB1 ⟨a1, c1, rfl, hS1⟩
      refine NewI.mk fun b3 hb3 => ?_
      refine Branch.yes rfl ?_
      exact EndI.mk fun w9 h9 => rfl
end Go.Proofs.YtodpgcdandechaaGreat

/-
  zone.Cmp: its contract, the world told exactly (blocks laid, draws made).
-/
namespace Go.Proofs.YtodpgcdandechaaGreat
set_option linter.unusedVariables false
set_option linter.unusedSimpArgs false
set_option maxRecDepth 100000
open Go.RowKit Go.Shelf

namespace Zo
/-- which of two zones comes first: by the first bound in which they part. -/
def cmp (x y : Zn) : Int :=
  if cmpI x.a y.a ≠ 0 then cmpI x.a y.a else if cmpI x.b y.b ≠ 0 then cmpI x.b y.b else if cmpI x.c y.c ≠ 0 then cmpI x.c y.c
  else if cmpI x.d y.d ≠ 0 then cmpI x.d y.d else if cmpI x.e y.e ≠ 0 then cmpI x.e y.e else if cmpI x.f y.f ≠ 0 then cmpI x.f y.f else 0
end Zo
theorem nanB_at (a : Int) (w : World) : Calls Tryz.prog 280 #[.int .i64 a] w fun e w' => e = .returned (.bool false) ∧ w' = w := by
  go_enter Tryz.func280, Tryz.ntmps280
  go_wp2
  go_ret
  exact ⟨by simp, rfl⟩
theorem cmpB_at (x y : Int) (w : World) : Calls Tryz.prog 253 #[.int .i64 x, .int .i64 y] w fun e w' => e = .returned (.int .i64 (cmpI x y)) ∧ w' = w := by
  have key : (x < y ∧ cmpI x y = -1) ∨ (¬ x < y ∧ y < x ∧ cmpI x y = 1) ∨ (¬ x < y ∧ ¬ y < x ∧ cmpI x y = 0) := by unfold cmpI; split <;> (try split) <;> omega
  rcases key with ⟨h1, h⟩ | ⟨h1, h2, h⟩ | ⟨h1, h2, h⟩
  all_goals (rw [h]; clear h)
  all_goals (go_enter Tryz.func253, Tryz.ntmps253)
  all_goals (go_wp2_with (go_at_call 280; refine (nanB_at _ _).mono ?_; rintro e w' ⟨rfl, rfl⟩))
  all_goals (go_ret; exact ⟨rfl, rfl⟩)
set_option maxHeartbeats 2000000 in
theorem compareB_at (bx b_y : Nat) (x y : Zn) (w : World)
    (x0 : w.cell? ⟨bx, 0, none⟩ = some (.int .i64 x.a)) (x1 : w.cell? ⟨bx, 1, none⟩ = some (.int .i64 x.b)) (x2 : w.cell? ⟨bx, 2, none⟩ = some (.int .i64 x.c)) (x3 : w.cell? ⟨bx, 3, none⟩ = some (.int .i64 x.d)) (x4 : w.cell? ⟨bx, 4, none⟩ = some (.int .i64 x.e)) (x5 : w.cell? ⟨bx, 5, none⟩ = some (.int .i64 x.f))
    (y0 : w.cell? ⟨b_y, 0, none⟩ = some (.int .i64 y.a)) (y1 : w.cell? ⟨b_y, 1, none⟩ = some (.int .i64 y.b)) (y2 : w.cell? ⟨b_y, 2, none⟩ = some (.int .i64 y.c)) (y3 : w.cell? ⟨b_y, 3, none⟩ = some (.int .i64 y.d)) (y4 : w.cell? ⟨b_y, 4, none⟩ = some (.int .i64 y.e)) (y5 : w.cell? ⟨b_y, 5, none⟩ = some (.int .i64 y.f)) :
    Calls Tryz.prog 228 #[.slice (some ⟨bx, 0, none⟩) 6 6, .slice (some ⟨b_y, 0, none⟩) 6 6] w fun e w' => e = .returned (.int .i64 (Zo.cmp x y)) ∧ w' = w := by
  unfold Zo.cmp
  by_cases h0 : cmpI x.a y.a = 0
  case neg =>
    rw [if_pos h0]
    have q0 := fun W => cmpB_at x.a y.a W
    generalize cmpI x.a y.a = c at *
    go_enter Tryz.func228, Tryz.ntmps228
    go_wp2
    refine wp_loop_rounds 1 ?_
    rw [rounds_succ]
    go_wp2_with (go_at_call 253; refine (q0 _).mono ?_; rintro e w' ⟨rfl, rfl⟩)
    go_ret
    exact ⟨rfl, rfl⟩
  rw [if_neg (by simp [h0])]
  by_cases h1 : cmpI x.b y.b = 0
  case neg =>
    rw [if_pos h1]
    have q0 := fun W => cmpB_at x.a y.a W
    rw [h0] at q0
    have q1 := fun W => cmpB_at x.b y.b W
    generalize cmpI x.b y.b = c at *
    go_enter Tryz.func228, Tryz.ntmps228
    go_wp2
    refine wp_loop_rounds 2 ?_
    rw [rounds_succ]
    go_wp2_with (go_at_call 253; refine (q0 _).mono ?_; rintro e w' ⟨rfl, rfl⟩)
    rw [rounds_succ]
    go_wp2_with (go_at_call 253; refine (q1 _).mono ?_; rintro e w' ⟨rfl, rfl⟩)
    go_ret
    exact ⟨rfl, rfl⟩
  rw [if_neg (by simp [h1])]
  by_cases h2 : cmpI x.c y.c = 0
  case neg =>
    rw [if_pos h2]
    have q0 := fun W => cmpB_at x.a y.a W
    rw [h0] at q0
    have q1 := fun W => cmpB_at x.b y.b W
    rw [h1] at q1
    have q2 := fun W => cmpB_at x.c y.c W
    generalize cmpI x.c y.c = c at *
    go_enter Tryz.func228, Tryz.ntmps228
    go_wp2
    refine wp_loop_rounds 3 ?_
    rw [rounds_succ]
    go_wp2_with (go_at_call 253; refine (q0 _).mono ?_; rintro e w' ⟨rfl, rfl⟩)
    rw [rounds_succ]
    go_wp2_with (go_at_call 253; refine (q1 _).mono ?_; rintro e w' ⟨rfl, rfl⟩)
    rw [rounds_succ]
    go_wp2_with (go_at_call 253; refine (q2 _).mono ?_; rintro e w' ⟨rfl, rfl⟩)
    go_ret
    exact ⟨rfl, rfl⟩
  rw [if_neg (by simp [h2])]
  by_cases h3 : cmpI x.d y.d = 0
  case neg =>
    rw [if_pos h3]
    have q0 := fun W => cmpB_at x.a y.a W
    rw [h0] at q0
    have q1 := fun W => cmpB_at x.b y.b W
    rw [h1] at q1
    have q2 := fun W => cmpB_at x.c y.c W
    rw [h2] at q2
    have q3 := fun W => cmpB_at x.d y.d W
    generalize cmpI x.d y.d = c at *
    go_enter Tryz.func228, Tryz.ntmps228
    go_wp2
    refine wp_loop_rounds 4 ?_
    rw [rounds_succ]
    go_wp2_with (go_at_call 253; refine (q0 _).mono ?_; rintro e w' ⟨rfl, rfl⟩)
    rw [rounds_succ]
    go_wp2_with (go_at_call 253; refine (q1 _).mono ?_; rintro e w' ⟨rfl, rfl⟩)
    rw [rounds_succ]
    go_wp2_with (go_at_call 253; refine (q2 _).mono ?_; rintro e w' ⟨rfl, rfl⟩)
    rw [rounds_succ]
    go_wp2_with (go_at_call 253; refine (q3 _).mono ?_; rintro e w' ⟨rfl, rfl⟩)
    go_ret
    exact ⟨rfl, rfl⟩
  rw [if_neg (by simp [h3])]
  by_cases h4 : cmpI x.e y.e = 0
  case neg =>
    rw [if_pos h4]
    have q0 := fun W => cmpB_at x.a y.a W
    rw [h0] at q0
    have q1 := fun W => cmpB_at x.b y.b W
    rw [h1] at q1
    have q2 := fun W => cmpB_at x.c y.c W
    rw [h2] at q2
    have q3 := fun W => cmpB_at x.d y.d W
    rw [h3] at q3
    have q4 := fun W => cmpB_at x.e y.e W
    generalize cmpI x.e y.e = c at *
    go_enter Tryz.func228, Tryz.ntmps228
    go_wp2
    refine wp_loop_rounds 5 ?_
    rw [rounds_succ]
    go_wp2_with (go_at_call 253; refine (q0 _).mono ?_; rintro e w' ⟨rfl, rfl⟩)
    rw [rounds_succ]
    go_wp2_with (go_at_call 253; refine (q1 _).mono ?_; rintro e w' ⟨rfl, rfl⟩)
    rw [rounds_succ]
    go_wp2_with (go_at_call 253; refine (q2 _).mono ?_; rintro e w' ⟨rfl, rfl⟩)
    rw [rounds_succ]
    go_wp2_with (go_at_call 253; refine (q3 _).mono ?_; rintro e w' ⟨rfl, rfl⟩)
    rw [rounds_succ]
    go_wp2_with (go_at_call 253; refine (q4 _).mono ?_; rintro e w' ⟨rfl, rfl⟩)
    go_ret
    exact ⟨rfl, rfl⟩
  rw [if_neg (by simp [h4])]
  by_cases h5 : cmpI x.f y.f = 0
  case neg =>
    rw [if_pos h5]
    have q0 := fun W => cmpB_at x.a y.a W
    rw [h0] at q0
    have q1 := fun W => cmpB_at x.b y.b W
    rw [h1] at q1
    have q2 := fun W => cmpB_at x.c y.c W
    rw [h2] at q2
    have q3 := fun W => cmpB_at x.d y.d W
    rw [h3] at q3
    have q4 := fun W => cmpB_at x.e y.e W
    rw [h4] at q4
    have q5 := fun W => cmpB_at x.f y.f W
    generalize cmpI x.f y.f = c at *
    go_enter Tryz.func228, Tryz.ntmps228
    go_wp2
    refine wp_loop_rounds 6 ?_
    rw [rounds_succ]
    go_wp2_with (go_at_call 253; refine (q0 _).mono ?_; rintro e w' ⟨rfl, rfl⟩)
    rw [rounds_succ]
    go_wp2_with (go_at_call 253; refine (q1 _).mono ?_; rintro e w' ⟨rfl, rfl⟩)
    rw [rounds_succ]
    go_wp2_with (go_at_call 253; refine (q2 _).mono ?_; rintro e w' ⟨rfl, rfl⟩)
    rw [rounds_succ]
    go_wp2_with (go_at_call 253; refine (q3 _).mono ?_; rintro e w' ⟨rfl, rfl⟩)
    rw [rounds_succ]
    go_wp2_with (go_at_call 253; refine (q4 _).mono ?_; rintro e w' ⟨rfl, rfl⟩)
    rw [rounds_succ]
    go_wp2_with (go_at_call 253; refine (q5 _).mono ?_; rintro e w' ⟨rfl, rfl⟩)
    go_ret
    exact ⟨rfl, rfl⟩
  rw [if_neg (by simp [h5])]
  have q0 := fun W => cmpB_at x.a y.a W
  rw [h0] at q0
  have q1 := fun W => cmpB_at x.b y.b W
  rw [h1] at q1
  have q2 := fun W => cmpB_at x.c y.c W
  rw [h2] at q2
  have q3 := fun W => cmpB_at x.d y.d W
  rw [h3] at q3
  have q4 := fun W => cmpB_at x.e y.e W
  rw [h4] at q4
  have q5 := fun W => cmpB_at x.f y.f W
  rw [h5] at q5
  go_enter Tryz.func228, Tryz.ntmps228
  go_wp2
  refine wp_loop_rounds 7 ?_
  rw [rounds_succ]
  go_wp2_with (go_at_call 253; refine (q0 _).mono ?_; rintro e w' ⟨rfl, rfl⟩)
  rw [rounds_succ]
  go_wp2_with (go_at_call 253; refine (q1 _).mono ?_; rintro e w' ⟨rfl, rfl⟩)
  rw [rounds_succ]
  go_wp2_with (go_at_call 253; refine (q2 _).mono ?_; rintro e w' ⟨rfl, rfl⟩)
  rw [rounds_succ]
  go_wp2_with (go_at_call 253; refine (q3 _).mono ?_; rintro e w' ⟨rfl, rfl⟩)
  rw [rounds_succ]
  go_wp2_with (go_at_call 253; refine (q4 _).mono ?_; rintro e w' ⟨rfl, rfl⟩)
  rw [rounds_succ]
  go_wp2_with (go_at_call 253; refine (q5 _).mono ?_; rintro e w' ⟨rfl, rfl⟩)
  rw [rounds_succ]
  go_wp2
  go_ret
  exact ⟨rfl, rfl⟩
theorem zcmp_at (x y : Zn) (w : World) : Calls Tryz.prog 171 #[.agg #[.int .i64 x.a, .int .i64 x.b, .int .i64 x.c, .int .i64 x.d, .int .i64 x.e, .int .i64 x.f], .agg #[.int .i64 y.a, .int .i64 y.b, .int .i64 y.c, .int .i64 y.d, .int .i64 y.e, .int .i64 y.f]] w fun e w' => e = .returned (.int .i64 (Zo.cmp x y)) ∧ ∃ q os', w' = Go.Sort.grow (w.drewN q) os' := by
  have hcon := fun W x0 x1 x2 x3 x4 x5 y0 y1 y2 y3 y4 y5 => compareB_at w.heap.size (w.heap.size + 1) x y W x0 x1 x2 x3 x4 x5 y0 y1 y2 y3 y4 y5
  generalize Zo.cmp x y = c at *
  go_enter Tryz.func171, Tryz.ntmps171
  go_wp2
  go_quiet ((go_at_call 228; exact Calls.quiet_of_same (hcon _ (by simp) (by simp) (by simp) (by simp) (by simp) (by simp) (by simp) (by simp) (by simp) (by simp) (by simp) (by simp))))
  go_wp2
  go_ret
  exact ⟨rfl, _, _, by rw [Go.Sort.alloc_eq_grow, Go.Sort.alloc_eq_grow, Go.Sort.grow_grow]; rfl⟩
end Go.Proofs.YtodpgcdandechaaGreat

/-
  The document's answer of layer 8, by the engine: Full, Short, May, Cmp.
-/
namespace Go.Proofs.YtodpgcdandechaaGreat
set_option linter.unusedVariables false
set_option linter.unusedSimpArgs false
set_option maxRecDepth 100000
open Go.RowKit Go.Proofs.YtodpgcdandechaaGreat.Eng Enc

theorem rfull_any (z : Zn) (w : World) :
    Calls Tryz.prog 123 #[.agg #[.int .i64 z.a, .int .i64 z.b, .int .i64 z.c, .int .i64 z.d, .int .i64 z.e, .int .i64 z.f]] w (Ret w fun v w' => ∃ a' c', v = .agg #[.int .i64 3, .slice a' (Zo.matL z).length c'] ∧ Sl w'.heap.size w' (.slice a' (Zo.matL z).length c') (Zo.matL z)) := by
  refine fun_ret 0 w Tryz.func123 (args := [.agg [.val (.int .i64 z.a), .val (.int .i64 z.b), .val (.int .i64 z.c), .val (.int .i64 z.d), .val (.int .i64 z.e), .val (.int .i64 z.f)]]) rfl rfl ?_
  refine NewI.mk fun b1 hb1 => ?_
  refine NewI.mk fun b2 hb2 => ?_
  refine Need.mk (by decide) ?_
  refine Need.mk (by decide) ?_
  refine Need.mk (by decide) ?_
  refine Need.mk (by decide) ?_
  refine Need.mk (by decide) ?_
  refine Need.mk (by decide) ?_
  refine NewI.mk fun b3 hb3 => ?_
  exact EndI.mk fun w9 h9 => ⟨_, _, rfl, Sl.own (l := Zo.matL z) h9 2 rfl rfl rfl (Nat.le_refl _) (by simp [maxLen, Zo.matL])⟩
theorem rshort_any (n : Int) (a : Option Addr) (cap : Nat) (L : List Int) (hL : L.length = 9) (w : World) (hS : Sl w.heap.size w (.slice a L.length cap) L) :
    Calls Tryz.prog 190 #[.agg #[.int .i64 n, .slice a L.length cap]] w fun e w' => e = .returned (.agg #[.int .i64 (Zo.ofL L).a, .int .i64 (Zo.ofL L).b, .int .i64 (Zo.ofL L).c, .int .i64 (Zo.ofL L).d, .int .i64 (Zo.ofL L).e, .int .i64 (Zo.ofL L).f]) ∧ Below w.heap.size w w' := by
  refine fun_eq 0 w Tryz.func190 (args := [.agg [.val (.int .i64 n), .val (.slice a L.length cap)]]) rfl rfl ?_
  have g : ∀ k, k < 9 → L[k]? = some (L[k]?.getD 0) := fun k hk => by rw [List.getElem?_eq_getElem (by omega)]; rfl
  refine NewI.mk fun b1 hb1 => ?_
  refine NewI.mk fun b2 hb2 => ?_
  refine DrawI.wr (.tk 0 (.tk 1 (.tk 2 (.tk 3 (.tk 4 (.tk 5 (.tk 6 (.tk 7 (.tk 8 (.tk 9 (.tk 10 (.tk 11 (.tk 12 (.tk 13 (.tk 14 (.tk 15 (.tk 16 (.tk 17 (.tk 18 (.ev 19 .done)))))))))))))))))))) [1] [] (by kernel_rfl) rfl (by simp) fun w1 h1 => ?_
  have hlb2 : b2 < w1.heap.size := h1.lt b2 (by simp)
  have hw1 : w.heap.size ≤ b2 := hb2
  have hB1 := h1.below
  refine (hS.go hB1 hB1.size).idx (k := 3) (g 3 (by omega)) fun ad3 had3 => ?_
  refine ld1_row hS (k := 3) (g 3 (by omega)) had3 hB1 (fun b hb => by simp [locs] at hb; omega) ?_
  refine (hS.go hB1 hB1.size).idx (k := 1) (g 1 (by omega)) fun ad1 had1 => ?_
  refine ld1_row hS (k := 1) (g 1 (by omega)) had1 hB1 (fun b hb => by simp [locs] at hb; omega) ?_
  refine (hS.go hB1 hB1.size).idx (k := 6) (g 6 (by omega)) fun ad6 had6 => ?_
  refine ld1_row hS (k := 6) (g 6 (by omega)) had6 hB1 (fun b hb => by simp [locs] at hb; omega) ?_
  refine (hS.go hB1 hB1.size).idx (k := 2) (g 2 (by omega)) fun ad2 had2 => ?_
  refine ld1_row hS (k := 2) (g 2 (by omega)) had2 hB1 (fun b hb => by simp [locs] at hb; omega) ?_
  refine (hS.go hB1 hB1.size).idx (k := 7) (g 7 (by omega)) fun ad7 had7 => ?_
  refine ld1_row hS (k := 7) (g 7 (by omega)) had7 hB1 (fun b hb => by simp [locs] at hb; omega) ?_
  refine (hS.go hB1 hB1.size).idx (k := 5) (g 5 (by omega)) fun ad5 had5 => ?_
  refine ld1_row hS (k := 5) (g 5 (by omega)) had5 hB1 (fun b hb => by simp [locs] at hb; omega) ?_
  exact EndI.mk fun w9 h9 => rfl
namespace Zo
def i64 (z : Zn) : Prop := ∀ b, b ∈ matL z → Dbm.int64 b
theorem close_rc {L : List Int} (h0 : Dbm.chk 3 L = 0) : (Dbm.close 3 L = (3, L, 0) ∧ Dbm.rc 3 L = (3, L, true)) ∨ Dbm.close 3 L ≠ (3, L, 0) ∧ ((Dbm.rc 3 L).2.2 = false ∨ (Dbm.rc 3 L).2.1 ≠ L) := by
  have hcl : Dbm.close 3 L = (match Dbm.closeL 3 L with | some L' => (3, L', 0) | none => (0, [], 6)) := by unfold Dbm.close; rw [if_pos h0]; rfl
  unfold Dbm.rc
  cases hC : Dbm.closeL 3 L with
  | none =>
    rw [hC] at hcl
    right
    rw [hcl]
    exact ⟨by simp, .inl rfl⟩
  | some C =>
    rw [hC] at hcl
    rw [hcl]
    by_cases e : C = L
    · subst e; left; exact ⟨rfl, rfl⟩
    · right; exact ⟨fun h => e (by simpa using h), .inr e⟩
theorem chk_rc (z : Zn) : (Dbm.chk 3 (matL z) = 0 ∧ chk z = 0 ∧ Dbm.rc 3 (matL z) = (3, matL z, true)) ∨ chk z ≠ 0 ∧ (Dbm.chk 3 (matL z) ≠ 0 ∨ Dbm.chk 3 (matL z) = 0 ∧ ((Dbm.rc 3 (matL z)).2.2 = false ∨ (Dbm.rc 3 (matL z)).2.1 ≠ matL z)) := by
  have hk : chk z = 0 ↔ Dbm.close 3 (matL z) = (3, matL z, 0) := chk_eq
  generalize matL z = L at hk ⊢
  by_cases h0 : Dbm.chk 3 L = 0
  · rcases close_rc h0 with ⟨h1, h2⟩ | ⟨h1, h2⟩
    · exact .inl ⟨h0, hk.2 h1, h2⟩
    · exact .inr ⟨fun h => h1 (hk.1 h), .inr ⟨h0, h2⟩⟩
  · right
    refine ⟨fun h => ?_, .inl h0⟩
    have := hk.1 h
    unfold Dbm.close at this
    rw [if_neg h0] at this
    simp at this
end Zo
theorem rzmay_any (z : Zn) (hz : Zo.i64 z) (w : World) :
    Calls Tryz.prog 70 #[.agg #[.int .i64 z.a, .int .i64 z.b, .int .i64 z.c, .int .i64 z.d, .int .i64 z.e, .int .i64 z.f]] w fun e w' => e = .returned (.bool (decide (Zo.chk z = 0))) ∧ Below w.heap.size w w' := by
  refine fun_eq 0 w Tryz.func70 (args := [.agg [.val (.int .i64 z.a), .val (.int .i64 z.b), .val (.int .i64 z.c), .val (.int .i64 z.d), .val (.int .i64 z.e), .val (.int .i64 z.f)]]) rfl rfl ?_
  refine NewI.mk fun b1 hb1 => ?_
  apply CallI.use
  focus (exact fun w1 h1 => rfull_any z w1)
  rintro v w1 v1 h1 hB1 ⟨a1, c1, rfl, hS1⟩
  refine NewI.mk fun b2 hb2 => ?_
  have hb2' : v1.heap.size ≤ b2 := hb2
  apply CallI.use1
  focus (exact fun w2 h2 => rmay04_any 3 (Zo.matL z) ⟨by omega, by omega⟩ hz a1 c1 w2 (hS1.go (atB h2 (by simp; omega)) h2.size))
  intro w2 v2 h2 hB2
  have hS2 := (hS1.go (atB h2 (by simp; omega)) h2.size).go hB2 hB2.size
  rcases Zo.chk_rc z with ⟨h0, hc, hr⟩ | ⟨hc, hor⟩
  · rw [h0, hc]
    have hrc := fun w h => rclosed_any (N := 3) (L := Zo.matL z) h0 a1 c1 w h
    rw [hr] at hrc
    refine Branch.no rfl ?_
    apply CallI.use
    focus (exact fun w3 h3 => hrc w3 (hS2.go (atB h3 (by simp)) h3.size))
    rintro v w3 v3 h3 hB3 ⟨a3, c3, rfl, hO3⟩
    have hS3 := (hS2.go (atB h3 (by simp)) h3.size).go hB3 hB3.size
    refine NewI.mk fun b3 hb3 => ?_
    have hb3' : v3.heap.size ≤ b3 := hb3
    refine Branch.yes rfl ?_
    apply CallI.use1
    focus (exact fun w4 h4 => same04_any 3 3 (Zo.matL z) (Zo.matL z) a3 a1 c3 c1 w4 (hO3.below (atB h4 (by simp; omega))).sl (hS3.go (atB h4 (by simp; omega)) h4.size))
    intro w4 v4 h4 hB4
    refine EndI.mk fun w9 h9 => ?_
    simp [sameB]
  · rw [decide_eq_false hc]
    rcases hor with h0 | ⟨h0, hor⟩
    · rw [decide_eq_false h0]
      refine Branch.yes rfl ?_
      exact EndI.mk fun w9 h9 => rfl
    · rw [decide_eq_true h0]
      have hrc := fun w h => rclosed_any (N := 3) (L := Zo.matL z) h0 a1 c1 w h
      generalize Dbm.rc 3 (Zo.matL z) = R at hrc hor
      obtain ⟨n3, C, is⟩ := R
      simp only at hrc hor
      refine Branch.no rfl ?_
      apply CallI.use
      focus (exact fun w3 h3 => hrc w3 (hS2.go (atB h3 (by simp)) h3.size))
      rintro v w3 v3 h3 hB3 ⟨a3, c3, rfl, hO3⟩
      have hS3 := (hS2.go (atB h3 (by simp)) h3.size).go hB3 hB3.size
      refine NewI.mk fun b3 hb3 => ?_
      have hb3' : v3.heap.size ≤ b3 := hb3
      refine Branch.mk (fun z1 => ?_) (fun z1 => ?_)
      · have hne : C ≠ Zo.matL z := hor.resolve_left (fun h => by rw [h] at z1; cases z1)
        apply CallI.use1
        focus (exact fun w4 h4 => same04_any n3 3 C (Zo.matL z) a3 a1 c3 c1 w4 (hO3.below (atB h4 (by simp; omega))).sl (hS3.go (atB h4 (by simp; omega)) h4.size))
        intro w4 v4 h4 hB4
        refine EndI.mk fun w9 h9 => ?_
        simp [sameB, hne]
      · exact EndI.mk fun w9 h9 => rfl
end Go.Proofs.YtodpgcdandechaaGreat

/-
  Ranges over functions whose iterator writes a box of its own (a variable that it holds), in the run; rounds may lay blocks where they take their variables.
-/
namespace Go.Proofs.YtodpgcdandechaaGreat.Eng
set_option linter.unusedVariables false
set_option linter.unusedSimpArgs false
open Go Go.RowKit Go.Shelf Go.Proofs

/-- an iterator's contract: it may turn block Bx, and lay blocks; what it is asked of, J, stays through that. -/
def SeqStopsB {α : Type} (n : Nat) (P : Program) (g : Nat) (lb : Array Value) (encs : α → Array Value) (Kp : World → World → Prop) (S Sp : List α → Prop) (N Bx n₀ : Nat) (w : World) : Prop :=
  ∀ (l : Nat) (J Jx : List α → World → Prop) (W : World), Below w.heap.size w W → (∀ pre A B, J pre A → A.grownBy B (some Bx) → J pre B) → (∀ pre A B, Jx pre A → A.grownBy B none → Jx pre B) →
    (∀ pre x W1, J pre W1 → pre.length < N → YieldAt Fence.wide (n - 1) P l (encs x) W1 fun e W' => (e = .returned (.bool true) ∧ J (pre ++ [x]) W' ∧ Kp W1 W') ∨ (e = .returned (.bool false) ∧ Jx (pre ++ [x]) W' ∧ Below n₀ W1 W')) →
    J [] W → CallsIn Fence.wide n P g (#[.func (.yield l) #[] #[]] ++ lb) W fun e W' => (∃ v, e = .returned v) ∧ ((∃ xs, S xs ∧ J xs W') ∨ (∃ pre, Sp pre ∧ Jx pre W'))

/-- the two blocks of a range's book-keeping: the loop's record, the rounds' deferred calls. -/
def Kept2 (B : Nat) (o : Loop) (W : World) : Prop := W.heap[B + 1]? = some (.loop o) ∧ W.heap[B]? = some (.deferred (some []))
theorem Kept2.turn {B : Nat} {o : Loop} {A C : World} {row : Option Nat} (h : Kept2 B o A) (hg : A.grownBy C row) (hr : ∀ r, row = some r → r < B) : Kept2 B o C :=
  ⟨(hg.block _ (Array.getElem?_eq_some_iff.1 h.1).1 (fun e => by have := hr _ e.symm; omega)).trans h.1, (hg.block _ (Array.getElem?_eq_some_iff.1 h.2).1 (fun e => by have := hr _ e.symm; omega)).trans h.2⟩
theorem Kept2.from {B : Nat} {o : Loop} {A C : World} (h : Kept2 B o A) (hk : KeepsFrom B A C) : Kept2 B o C := ⟨hk.same _ _ (by omega) h.1 rfl, hk.same _ _ (Nat.le_refl _) h.2 rfl⟩
theorem Kept2.put {B : Nat} {o : Loop} {A : World} (h : Kept2 B o A) (o' : Loop) : Kept2 B o' (A.putObj (B + 1) (.loop o')) :=
  ⟨World.putObj_heap_same (Array.getElem?_eq_some_iff.1 h.1).1, (World.putObj_heap_other (by omega)).trans h.2⟩

/-- what a row may be that the caller's invariant abides. -/
def RowB (B Bx : Nat) (A : World) (row : Option Nat) : Prop := ∀ r, row = some r → r = Bx ∨ (B ≤ r ∧ ∃ o : Obj, A.heap[r]? = some o ∧ o.isCells = false)

theorem below_between {n : Nat} {X A C : World} (h1 : Below n X A) (h2 : Below n X C) (hs : A.heap.size ≤ C.heap.size) : Below n A C :=
  ⟨h2.os.trans h1.os.symm, h2.tape.trans h1.tape.symm, h2.output.trans h1.output.symm, hs, fun k hk => (h2.block k hk).trans (h1.block k hk).symm⟩
theorem range_law {n : Nat} {P : Program} {α : Type} {g : Operand} {ps : Array Tmp} {x y : Code} {Q : Exit → Act → World → Prop} {a : Act} {w : World} (h1 : 1 ≤ n) {gf : Nat} {lb : Array Value}
    (hg : a.eval g = .func (.func gf) #[] lb) (eg : ∀ args w, (callFunc gf args).run P w = .ok (.enter gf args) w) {encs : α → Array Value} {Kp : World → World → Prop} {S Sp : List α → Prop} {N Bx n₀ : Nat}
    (hseq : SeqStopsB (n - 1) P gf lb encs Kp S Sp N Bx n₀ w) (hBx : Bx < w.heap.size) (hKt : ∀ {A B C : World}, Kp A B → Kp B C → Kp A C)
    (hKb : ∀ (W : World) (l : Nat) (o o' : Obj), w.heap.size ≤ l → W.heap[l]? = some o → o.isCells = false → o.isWalk = false → Kp W (W.putObj l o')) (hps : ∀ z, (encs z).size = ps.size)
    (I : List α → World → Prop) (Ix : Code → List α → World → Prop) (Ax : List α → α → Act → World → Prop) (hI : ∀ pre A B row, I pre A → A.grownBy B row → RowB w.heap.size Bx A row → I pre B) (hIx : ∀ c, OwnFrom w.heap.size (Ix c))
    (hAx : ∀ pre z a', OwnFrom w.heap.size (fun (_ : Unit) W => Ax pre z a' W)) (h0 : I [] w) (hIB : ∀ pre A, I pre A → Below n₀ w A) (hIxB : ∀ c pre A, Ix c pre A → Below n₀ w A)
    (hassign : ∀ (l : Nat) (pre : List α) (z : α) (W : World), I pre W → pre.length < N →
      x.wpIn (Fence.wide.inRound l) (n - 1 - 1) P (fun e a' W' => e = .normal ∧ KeepsFrom w.heap.size W W' ∧ Kp W W' ∧ I pre W' ∧ Ax pre z a' W') { tmps := (ps.zip (encs z)).foldl (fun t (p, v) => t.setIfInBounds p v) a.tmps, defers := [] } W)
    (hbody : ∀ (l : Nat) (pre : List α) (z : α) (a' : Act) (W : World), I pre W → Ax pre z a' W → pre.length < N → y.wpIn (Fence.wide.inRound l) (n - 1 - 1) P (ownPostG w.heap.size Kp I Ix (pre ++ [z]) W) a' W)
    (hdone : ∀ (D : Nat) (xs : List α) (W : World), w.heap.size ≤ D → S xs → I xs W → W.heap[D]? = some (.deferred (some [])) → Q .normal { a with defers := { target := .collected D, args := #[] } :: a.defers } W)
    (hstop : ∀ (D : Nat) (c : Code) (pre : List α) (W : World), w.heap.size ≤ D → Sp pre → Ix c pre W → W.heap[D]? = some (.deferred (some [])) → c.wpIn Fence.wide n P Q { a with defers := { target := .collected D, args := #[] } :: a.defers } W) :
    (Code.rangeFunc g ps x y).wpIn Fence.wide n P Q a w := by
  refine wpIn_rangeFunc fun fn hfn => ?_
  have hro : Fence.wide.round = none := rfl
  rw [hro]
  let lp : LoopState → Option Code → Loop := fun st pe => { state := st, pending := pe, fn, tmps := a.tmps, params := ps, assign := x, body := y, defers := w.heap.size }
  have two : Kept2 w.heap.size (lp .ready none) ((w.alloc (.deferred (some []))).alloc (.loop (lp .ready none))) := by
    constructor
    · have := World.alloc_heap_new (w.alloc (.deferred (some []))) (.loop (lp .ready none))
      rwa [World.size_alloc] at this
    · exact (Below.heap_alloc _ _ _ (by simp)).trans (World.alloc_heap_new w _)
  have g1 : w.grownBy (w.alloc (.deferred (some []))) none := World.grownBy_alloc w _ none
  have g2 : (w.alloc (.deferred (some []))).grownBy ((w.alloc (.deferred (some []))).alloc (.loop (lp .ready none))) none := World.grownBy_alloc _ _ none
  have hI1 : I [] ((w.alloc (.deferred (some []))).alloc (.loop (lp .ready none))) := hI _ _ _ none (hI _ _ _ none h0 g1 (fun r e => nomatch e)) g2 (fun r e => nomatch e)
  have hb1 : Below w.heap.size w ((w.alloc (.deferred (some []))).alloc (.loop (lp .ready none))) := (((Below.refl _ w).alloc (Nat.le_refl _) _).alloc (by simp) _)
  have hent : (Instr.enterLoop fn a.tmps ps x y none).run P w = .ok (w.heap.size + 1, [{ target := .collected w.heap.size, args := #[] }]) ((w.alloc (.deferred (some []))).alloc (.loop (lp .ready none))) := run_enterLoop_outer _ _ _ _ _
  generalize (w.alloc (.deferred (some []))).alloc (.loop (lp .ready none)) = W1 at *
  refine ⟨w.heap.size + 1, [{ target := .collected w.heap.size, args := #[] }], W1, { target := .fn (.func gf) lb, args := #[.func (.yield (w.heap.size + 1)) #[] #[]] }, W1, gf,
    #[.func (.yield (w.heap.size + 1)) #[] #[]] ++ lb, W1, hent, by simp only [resolve, hg]; simp [go_sem], fun f' _ => trivial, by simp [invoke, go_sem, eg], fun _ => h1, ?_⟩
  have hS1 : W1.heap.size ≥ w.heap.size := hb1.size
  refine (hseq (w.heap.size + 1) (fun pre W => I pre W ∧ Kept2 w.heap.size (lp .ready none) W) (fun pre W => ∃ c, Ix c pre W ∧ Kept2 w.heap.size (lp .done (some c)) W) W1 hb1
    (fun pre A C h hgr => ⟨hI _ _ _ _ h.1 hgr (fun r e => .inl (by injection e with e; exact e.symm)), h.2.turn hgr (fun r e => by injection e with e; omega)⟩)
    (fun pre A C h hgr => by obtain ⟨c, hc, hk⟩ := h; exact ⟨c, hIx c _ _ _ _ hc hgr (fun r e => nomatch e), hk.turn hgr (fun r e => nomatch e)⟩) ?_ ⟨hI1, two⟩).mono ?_
  · -- a round
    rintro pre z W ⟨hi, hk⟩ hlen
    refine ⟨fn, _, x, y, run_yield (P := P) (args := encs z) hk.1 (hps z), roundIn_of_wpIn hfn (wpIn_mono (hassign (w.heap.size + 1) pre z W hi hlen) ?_)⟩
    rintro e a' Wa ⟨rfl, kf, kp, hia, hax⟩
    have hka := hk.from kf
    refine ⟨_, run_beginRound hka.1 rfl, ?_⟩
    have hkb := hka.put { lp .ready none with state := .busy }
    have rowL : ∀ {A : World} {o : Loop}, Kept2 w.heap.size o A → RowB w.heap.size Bx A (some (w.heap.size + 1)) := fun {A} {o} h r e => .inr (by injection e with e; subst e; exact ⟨by omega, _, h.1, rfl⟩)
    have own : ∀ {A : World} {o : Loop}, Kept2 w.heap.size o A → ∀ r, some (w.heap.size + 1) = some r → w.heap.size ≤ r ∧ ∃ o' : Obj, A.heap[r]? = some o' ∧ o'.isCells = false := fun {A} {o} h r e => by injection e with e; subst e; exact ⟨by omega, _, h.1, rfl⟩
    have kpb : Kp Wa (Wa.putObj (w.heap.size + 1) (.loop { lp .ready none with state := .busy })) := hKb _ _ _ _ (by omega) hka.1 rfl rfl
    refine wpIn_mono (hbody (w.heap.size + 1) pre z a' _ (hI _ _ _ _ hia (grownBy_putObj' _ _ _) (rowL hka)) (hAx pre z a' () _ _ _ hax (grownBy_putObj' _ _ _) (own hka)) hlen) ?_
    intro e a3 W3 hp
    have fin : ∀ (jump : Option Code), KeepsFrom w.heap.size (Wa.putObj (w.heap.size + 1) (.loop { lp .ready none with state := .busy })) W3 →
        (Instr.endRound (w.heap.size + 1) jump).run P W3 = .ok (.bool jump.isNone) (W3.putObj (w.heap.size + 1) (.loop (lp (if jump.isNone then .ready else .done) jump))) ∧ Kept2 w.heap.size { lp .ready none with state := .busy } W3 := fun jump k3 => by
      have h3 := hkb.from k3
      exact ⟨run_endRound (P := P) jump h3.1, h3⟩
    have bel : ∀ (jump : Option Code) {c : Code}, Ix c (pre ++ [z]) W3 → Kept2 w.heap.size { lp .ready none with state := .busy } W3 → KeepsFrom w.heap.size (Wa.putObj (w.heap.size + 1) (.loop { lp .ready none with state := .busy })) W3 →
        Below n₀ W (W3.putObj (w.heap.size + 1) (.loop (lp (if jump.isNone then .ready else .done) jump))) := fun jump {c} i3 h3 k3 =>
      below_between (hIB _ _ hi) (hIxB _ _ _ (hIx c _ _ _ _ i3 (grownBy_putObj' _ _ _) (own h3))) (by
        have := k3.size
        have := kf.size
        simp only [World.putObj_size] at *
        omega)
    cases e with
    | normal =>
      obtain ⟨k3, p3, i3⟩ := hp
      obtain ⟨hr, h3⟩ := fin none k3
      exact ⟨_, _, hr, .inl ⟨rfl, ⟨hI _ _ _ _ i3 (grownBy_putObj' _ _ _) (rowL h3), h3.put _⟩, hKt kp (hKt (hKt kpb p3) (hKb _ _ _ _ (by omega) h3.1 rfl rfl))⟩⟩
    | ret =>
      obtain ⟨k3, i3⟩ := hp
      obtain ⟨hr, h3⟩ := fin (some .ret) k3
      exact ⟨_, _, hr, .inr ⟨rfl, ⟨.ret, hIx _ _ _ _ _ i3 (grownBy_putObj' _ _ _) (own h3), h3.put _⟩, bel _ i3 h3 k3⟩⟩
    | exit id =>
      obtain ⟨k3, i3⟩ := hp
      obtain ⟨hr, h3⟩ := fin (some (.exit id)) k3
      exact ⟨_, _, hr, .inr ⟨rfl, ⟨.exit id, hIx _ _ _ _ _ i3 (grownBy_putObj' _ _ _) (own h3), h3.put _⟩, bel _ i3 h3 k3⟩⟩
    | goto t =>
      obtain ⟨k3, i3⟩ := hp
      obtain ⟨hr, h3⟩ := fin (some (.goto t)) k3
      exact ⟨_, _, hr, .inr ⟨rfl, ⟨.goto t, hIx _ _ _ _ _ i3 (grownBy_putObj' _ _ _) (own h3), h3.put _⟩, bel _ i3 h3 k3⟩⟩
    | panic ch => exact hp.elim
    | outgrown => exact hp.elim
  · -- behind the iterator
    rintro e W2 ⟨⟨v, rfl⟩, ⟨xs, hS, hi, hk⟩ | ⟨pre, hSp, c, hi, hk⟩⟩
    · have hput := hk.put (lp .ready none)
      exact ⟨none, _, run_endLoop (P := P) hk.1 (by simp [lp]), hdone _ xs _ (Nat.le_refl _) hS (hI _ _ _ _ hi (grownBy_putObj' _ _ _) (fun r e => .inr (by injection e with e; subst e; exact ⟨by omega, _, hk.1, rfl⟩))) ((World.putObj_heap_other (by omega)).trans hk.2)⟩
    · exact ⟨some c, _, run_endLoop (P := P) hk.1 (by simp [lp]), hstop _ c pre _ (Nat.le_refl _) hSp (hIx c _ _ _ _ hi (grownBy_putObj' _ _ _) (fun r e => by injection e with e; subst e; exact ⟨by omega, _, hk.1, rfl⟩)) ((World.putObj_heap_other (by omega)).trans hk.2)⟩

section
variable {cx : Cx} {w0 : Base}
theorem rel_turn {s : St} {a : Act} {W W' : World} {B Bx : Nat} {row : Option Nat} (hR : Rel w0 s a W) (hB : w0.B ≤ B) (hBx0 : w0.B ≤ Bx) (hBxr : Bx ∉ s.r) (hg : W.grownBy W' row) (hr : RowB B Bx W row) : Keep w0 s.r W W' := by
  have hne : ∀ k, row = some k → w0.B ≤ k ∧ k ∉ s.r := fun k e => by
    rcases hr k e with rfl | ⟨hk, o, ho, hc⟩
    · exact ⟨hBx0, hBxr⟩
    · refine ⟨Nat.le_trans hB hk, fun hb => ?_⟩
      obtain ⟨i, hi, hib⟩ := List.getElem_of_mem hb
      have hil : i < s.hp.length := by rw [← hR.len]; exact hi
      have h1 := hR.blk [] i k (s.hp[i]) (by rw [List.getElem?_eq_getElem hi, hib]) (by rw [hget_eq, List.getElem?_eq_getElem hil])
      rw [h1] at ho; injection ho with ho; subst ho; cases hc
  refine ⟨⟨hg.os, hg.tape, hg.output, hg.size, fun k hk => hg.block k (Nat.lt_of_lt_of_le hk (Nat.le_trans w0.le hR.at_.below.size)) fun e => ?_⟩, fun b hb => hg.block b (hR.at_.lt b hb) fun e => (hne b e.symm).2 hb⟩
  have := (hne k e.symm).1; omega

/-- A RANGE OVER A FUNCTION whose iterator writes its own box; rounds take their variables into blocks of their own. -/
theorem rangeB (hcx : CxOk cx) {n : Nat} (h1 : 1 ≤ n) {s : St} {a : Act} {w : World} (hR : Rel w0 s a w) {g : Operand} {ps : Array Tmp} {x y : Code} {K : Exit → St → Prop} {gf : Nat} {lb : Array Value}
    (hg : ev s.fr g = .val (.func (.func gf) #[] lb)) (eg : Enters cx.P gf)
    {α : Type} {encs : α → List Value} {Kp : World → World → Prop} {S Sp : List α → Prop} {N Bx : Nat} (hseq : SeqStopsB (n - 1) cx.P gf lb (fun x => (encs x).toArray) Kp S Sp N Bx w0.B w) (hBx : Bx < w.heap.size) (hBx0 : w0.B ≤ Bx) (hBxr : Bx ∉ s.r)
    (hKt : ∀ {A B C : World}, Kp A B → Kp B C → Kp A C) (hKb : ∀ (W : World) (l : Nat) (o o' : Obj), w.heap.size ≤ l → W.heap[l]? = some o → o.isCells = false → o.isWalk = false → Kp W (W.putObj l o'))
    (hps : ∀ x, (encs x).length = ps.size)
    {γ : Type} (hpf : γ → List LB) (Φ : List α → γ → World → Prop) (hΦ : ∀ c pre A B row, Φ pre c A → A.grownBy B row → RowB w.heap.size Bx A row → Φ pre c B) (c0 : γ) (hp0 : hpf c0 = s.hp) (hΦ0 : Φ [] c0 w)
    (Ix : Code → List α → γ → World → Prop) (hpx : Code → γ → List LB) (hIx : ∀ c q, OwnFrom w.heap.size (fun pre W => Ix c pre q W))
    (frx : α → Fr) (hpa : α → List LB) (Ψ : γ → List Nat → Prop)
    (hassign : ∀ l pre z c W, Φ pre c W → Below w0.B w0.W W → w.heap.size ≤ W.heap.size → pre.length < N → codeD (Fence.wide.inRound l) (n - 1 - 1) cx w0 x
      (fun e s' => e = .normal ∧ s'.on fun fr2 hp2 r2 L2 w2 df2 => ∃ bs, bs.length = (hpa z).length ∧ Ψ c bs ∧ Need (fr2 = frx z ∧ hp2 = hpf c ++ hpa z ∧ r2 = s.r ++ bs ∧ df2 = []) (EndI w0 hp2 r2 L2 w2 undef fun _ w1 => KeepsFrom w.heap.size W w1 ∧ Kp W w1 ∧ Φ pre c w1)) ⟨setP s.fr ps.toList (encs z), hpf c, s.r, [], W, []⟩)
    (hbody : ∀ l pre x c bs W, bs.length = (hpa x).length → Ψ c bs → Φ pre c W → Below w0.B w0.W W → w.heap.size ≤ W.heap.size → pre.length < N → codeD (Fence.wide.inRound l) (n - 1 - 1) cx w0 y
      (fun e s' => match e with
        | .normal => s'.on fun fr2 hp2 r2 L2 w2 df2 => ∃ c', Need (CovH (hpf c') s.r ⟨fr2, hp2, r2, L2, w2, df2⟩) (EndI w0 hp2 r2 L2 w2 undef fun _ w1 => KeepsFrom w.heap.size W w1 ∧ Kp W w1 ∧ Φ (pre ++ [x]) c' w1)
        | .ret => s'.on fun fr2 hp2 r2 L2 w2 df2 => ∃ c', Need (CovH (hpx .ret c') s.r ⟨fr2, hp2, r2, L2, w2, df2⟩) (EndI w0 hp2 r2 L2 w2 undef fun _ w1 => KeepsFrom w.heap.size W w1 ∧ Ix .ret (pre ++ [x]) c' w1)
        | .exit id => s'.on fun fr2 hp2 r2 L2 w2 df2 => ∃ c', Need (CovH (hpx (.exit id) c') s.r ⟨fr2, hp2, r2, L2, w2, df2⟩) (EndI w0 hp2 r2 L2 w2 undef fun _ w1 => KeepsFrom w.heap.size W w1 ∧ Ix (.exit id) (pre ++ [x]) c' w1)
        | _ => False) ⟨frx x, hpf c ++ hpa x, s.r ++ bs, [], W, []⟩)
    (hdone : ∀ D xs c W, w.heap.size ≤ D → S xs → Φ xs c W → W.heap[D]? = some (.deferred (some [])) → K .normal ⟨s.fr, hpf c, s.r, [], W, { target := .collected D, args := #[] } :: s.df⟩)
    (hstop : ∀ D c e pre q W, w.heap.size ≤ D → Sp pre → Ix c pre q W → exitOf c = some e → W.heap[D]? = some (.deferred (some [])) → K e ⟨s.fr, hpx c q, s.r, [], W, { target := .collected D, args := #[] } :: s.df⟩) :
    (Code.rangeFunc g ps x y).wpIn Fence.wide n cx.P (fun e a' w' => ∃ s', Rel w0 s' a' w' ∧ K e s') a w := by
  have hev := hR.ev1 hg (by simp) []
  simp only [SV.den] at hev
  have hB : w0.B ≤ w.heap.size := Nat.le_trans w0.le hR.at_.below.size
  have withD : ∀ {hp : List LB} {W : World} (D : Nat), Rel w0 ⟨s.fr, hp, s.r, [], W, s.df⟩ a W → Rel w0 ⟨s.fr, hp, s.r, [], W, { target := .collected D, args := #[] } :: s.df⟩ { a with defers := { target := .collected D, args := #[] } :: a.defers } W := fun {hp} {W} D h =>
    ⟨congrArg (_ :: ·) h.df, h.fits, ⟨h.at_.below, h.at_.size, h.at_.step, h.at_.blk, h.at_.fresh, h.at_.lt, h.at_.base⟩, h.blk, h.nod, h.len⟩
  have inner : ∀ {hp : List LB} {W : World} {a' : Act} {fr : Fr}, Rel w0 ⟨s.fr, hp, s.r, [], W, s.df⟩ a W → a'.defers = [] → (∀ t, Fits (s.r ++ t) fr a'.tmps) → Rel w0 ⟨fr, hp, s.r, [], W, []⟩ a' W := fun {hp} {W} {a'} {fr} h hd hf =>
    ⟨hd, hf, ⟨h.at_.below, h.at_.size, h.at_.step, h.at_.blk, h.at_.fresh, h.at_.lt, h.at_.base⟩, h.blk, h.nod, h.len⟩
  have rowO : ∀ {A : World} {row : Option Nat}, (∀ r, row = some r → w.heap.size ≤ r ∧ ∃ o : Obj, A.heap[r]? = some o ∧ o.isCells = false) → RowB w.heap.size Bx A row := fun h r e => .inr (h r e)
  refine range_law h1 hev eg hseq hBx hKt hKb (fun z => by simp [hps]) (fun pre W => ∃ c, Rel w0 ⟨s.fr, hpf c, s.r, [], W, s.df⟩ a W ∧ w.heap.size ≤ W.heap.size ∧ Φ pre c W)
    (fun c pre W => (∃ e, exitOf c = some e) ∧ ∃ q, Rel w0 ⟨s.fr, hpx c q, s.r, [], W, s.df⟩ a W ∧ Ix c pre q W ∧ w.heap.size ≤ W.heap.size)
    (fun pre z a' W => ∃ c bs, (bs.length = (hpa z).length ∧ Ψ c bs) ∧ Rel w0 ⟨s.fr, hpf c, s.r, [], W, s.df⟩ a W ∧ Rel w0 ⟨frx z, hpf c ++ hpa z, s.r ++ bs, [], W, []⟩ a' W ∧ w.heap.size ≤ W.heap.size ∧ Φ pre c W) ?_ ?_ ?_ ?_ (fun pre A ⟨c, hr, hs, hf⟩ => below_between hR.at_.below hr.at_.below hs) (fun c pre A ⟨_, q, hr, hx, hs⟩ => below_between hR.at_.below hr.at_.below hs) ?_ ?_ ?_ ?_
  · rintro pre A C row ⟨c, hr, hs, hf⟩ hgr hrow
    exact ⟨c, hr.keep (rel_turn hr hB hBx0 hBxr hgr hrow), Nat.le_trans hs hgr.size, hΦ c pre A C row hf hgr hrow⟩
  · rintro c pre A C row ⟨h0, q, hr, hx, hs⟩ hgr hrow
    exact ⟨h0, q, hr.keep (grown_keep hr hB hgr hrow), hIx c q pre A C row hx hgr hrow, Nat.le_trans hs hgr.size⟩
  · rintro pre z a' _ A C row ⟨c, bs, hl, hr, hr2, hs, hf⟩ hgr hrow
    exact ⟨c, bs, hl, hr.keep (grown_keep hr hB hgr hrow), hr2.keep (grown_keep hr2 hB hgr hrow), Nat.le_trans hs hgr.size, hΦ c pre A C row hf hgr (rowO hrow)⟩
  · refine ⟨c0, ?_, Nat.le_refl _, hΦ0⟩
    have h0 := hR.keep keep_refl
    rw [hp0]; exact h0
  · rintro l pre z W ⟨c, hr, hs, hf⟩ hN
    have hr1 := rel_sets (w0 := w0) (s := ⟨s.fr, hpf c, s.r, [], W, []⟩) (a := ⟨a.tmps, []⟩) (inner hr rfl hr.fits) ps.toList (encs z)
    have e1 : (ps.zip (encs z).toArray).foldl (fun (t : Array Value) (x : Nat × Value) => t.setIfInBounds x.1 x.2) a.tmps = sets a.tmps ps.toList (encs z) := by
      rw [← sets_eq]
    show x.wpIn _ _ _ _ ({ tmps := (ps.zip (encs z).toArray).foldl (fun (t : Array Value) (x : Nat × Value) => t.setIfInBounds x.1 x.2) a.tmps, defers := [] } : Act) W
    rw [e1]
    refine codeD_round hcx l _ _ _ _ _ W _ (hassign l pre z c W hf hr.at_.below hs hN) hr1 ?_
    rintro e s' a' W' ⟨rfl, hK⟩ hR'
    obtain ⟨fr2, hp2, r2, L2, w2, df2⟩ := s'
    rw [St.on_eq] at hK
    obtain ⟨bs, hl, hψ, ⟨e1, e2, e3, e4⟩, h2⟩ := hK
    simp only at e1 e2 e3 e4
    subst e1; subst e2; subst e3; subst e4
    obtain ⟨k1, k2, k3⟩ := h2.h W' hR'.at_
    have hcov : Keep w0 s.r W W' := by
      refine ⟨?_, fun b hb => ?_⟩
      · exact ⟨hR'.at_.below.os.trans hr.at_.below.os.symm, hR'.at_.below.tape.trans hr.at_.below.tape.symm, hR'.at_.below.output.trans hr.at_.below.output.symm, k1.size, fun k hk => (hR'.at_.below.block k hk).trans (hr.at_.below.block k hk).symm⟩
      · obtain ⟨i, hi, hib⟩ := List.getElem_of_mem hb
        have hil : i < (hpf c).length := by have := hr.len; simp only at this; omega
        have g1 := hr.blk [] i b (hpf c)[i] (by show s.r[i]? = _; rw [List.getElem?_eq_getElem hi, hib]) (by show hget (hpf c) i = _; rw [hget_eq, List.getElem?_eq_getElem hil])
        have g2 := hR'.blk [] i b (hpf c)[i] (by show (s.r ++ bs)[i]? = _; rw [List.getElem?_append_left hi, List.getElem?_eq_getElem hi, hib]) (by show hget (hpf c ++ hpa z) i = _; rw [hget_eq, List.getElem?_append_left hil, List.getElem?_eq_getElem hil])
        have g3 := hr.blk bs i b (hpf c)[i] (by show s.r[i]? = _; rw [List.getElem?_eq_getElem hi, hib]) (by show hget (hpf c) i = _; rw [hget_eq, List.getElem?_eq_getElem hil])
        simp only [List.append_nil] at g1 g2
        rw [g2, ← g3]
    exact ⟨rfl, k1, k2, ⟨c, hr.keep hcov, Nat.le_trans hs k1.size, k3⟩, c, bs, ⟨hl, hψ⟩, hr.keep hcov, hR'.keep keep_refl, Nat.le_trans hs k1.size, k3⟩
  · rintro l pre z a' W _ ⟨c, bs, hl, hr, hr2, hs, hf⟩ hN
    refine codeD_round hcx l _ y _ _ _ W _ (hbody l pre z c bs W hl.1 hl.2 hf hr.at_.below hs hN) hr2 ?_
    intro e s' a2 w1 hK hR'
    cases e with
    | normal =>
      simp only [St.on_eq] at hK
      obtain ⟨c', h1, h2⟩ := hK
      obtain ⟨h3, h4, h5⟩ := h2.h w1 hR'.at_
      exact ⟨h3, h4, c', covH_rel (s := ⟨s.fr, hpf c, s.r, [], W, s.df⟩) hr hR' h1, Nat.le_trans hs h3.size, h5⟩
    | ret =>
      simp only [St.on_eq] at hK
      obtain ⟨c', h1, h2⟩ := hK
      obtain ⟨h3, h5⟩ := h2.h w1 hR'.at_
      exact ⟨h3, ⟨_, rfl⟩, c', covH_rel (s := ⟨s.fr, hpf c, s.r, [], W, s.df⟩) hr hR' h1, h5, Nat.le_trans hs h3.size⟩
    | exit id =>
      simp only [St.on_eq] at hK
      obtain ⟨c', h1, h2⟩ := hK
      obtain ⟨h3, h5⟩ := h2.h w1 hR'.at_
      exact ⟨h3, ⟨_, rfl⟩, c', covH_rel (s := ⟨s.fr, hpf c, s.r, [], W, s.df⟩) hr hR' h1, h5, Nat.le_trans hs h3.size⟩
    | goto l => exact hK.elim
    | panic ch => exact hK.elim
    | outgrown => exact hK.elim
  · rintro D xs W hD hS ⟨c, hr, hs, hf⟩ hd
    exact ⟨_, withD D hr, hdone D xs c W hD hS hf hd⟩
  · intro D c pre W hD hS hI hd
    obtain ⟨⟨e, he⟩, q, hRx, hix, hs⟩ := hI
    have hk := hstop D c e pre q W hD hS hix he hd
    cases c <;> simp only [exitOf] at he <;> try (cases he; done)
    · injection he with he; subst he; exact wpIn_exit ⟨_, withD D hRx, hk⟩
    · injection he with he; subst he; exact wpIn_ret ⟨_, withD D hRx, hk⟩
/-- the like where the frame that a round begins with is told by what its variables are. -/
theorem rangeBu (hcx : CxOk cx) {n : Nat} (h1 : 1 ≤ n) {s : St} {a : Act} {w : World} (hR : Rel w0 s a w) {g : Operand} {ps : Array Tmp} {x y : Code} {K : Exit → St → Prop} {gf : Nat} {lb : Array Value}
    (hg : ev s.fr g = .val (.func (.func gf) #[] lb)) (eg : Enters cx.P gf)
    {α : Type} {encs : α → List Value} {Kp : World → World → Prop} {S Sp : List α → Prop} {N Bx : Nat} (hseq : SeqStopsB (n - 1) cx.P gf lb (fun x => (encs x).toArray) Kp S Sp N Bx w0.B w) (hBx : Bx < w.heap.size) (hBx0 : w0.B ≤ Bx) (hBxr : Bx ∉ s.r)
    (hKt : ∀ {A B C : World}, Kp A B → Kp B C → Kp A C) (hKb : ∀ (W : World) (l : Nat) (o o' : Obj), w.heap.size ≤ l → W.heap[l]? = some o → o.isCells = false → o.isWalk = false → Kp W (W.putObj l o'))
    (hps : ∀ x, (encs x).length = ps.size)
    {γ : Type} (hpf : γ → List LB) (Φ : List α → γ → World → Prop) (hΦ : ∀ c pre A B row, Φ pre c A → A.grownBy B row → RowB w.heap.size Bx A row → Φ pre c B) (c0 : γ) (hp0 : hpf c0 = s.hp) (hΦ0 : Φ [] c0 w)
    (Ix : Code → List α → γ → World → Prop) (hpx : Code → γ → List LB) (hIx : ∀ c q, OwnFrom w.heap.size (fun pre W => Ix c pre q W))
    (upd : α → List (Nat × SV)) (hpa : α → List LB) (Ψ : γ → List Nat → Prop)
    (hassign : ∀ l pre z c W, Φ pre c W → Below w0.B w0.W W → w.heap.size ≤ W.heap.size → pre.length < N → codeD (Fence.wide.inRound l) (n - 1 - 1) cx w0 x
      (fun e s' => e = .normal ∧ s'.on fun fr2 hp2 r2 L2 w2 df2 => ∃ bs, bs.length = (hpa z).length ∧ Ψ c bs ∧ Need (fr2 = setM (setP s.fr ps.toList (encs z)) (upd z) ∧ hp2 = hpf c ++ hpa z ∧ r2 = s.r ++ bs ∧ df2 = []) (EndI w0 hp2 r2 L2 w2 undef fun _ w1 => KeepsFrom w.heap.size W w1 ∧ Kp W w1 ∧ Φ pre c w1)) ⟨setP s.fr ps.toList (encs z), hpf c, s.r, [], W, []⟩)
    (hbody : ∀ l pre x c bs W, bs.length = (hpa x).length → Ψ c bs → Φ pre c W → Below w0.B w0.W W → w.heap.size ≤ W.heap.size → pre.length < N → codeD (Fence.wide.inRound l) (n - 1 - 1) cx w0 y
      (fun e s' => match e with
        | .normal => s'.on fun fr2 hp2 r2 L2 w2 df2 => ∃ c', Need (CovH (hpf c') s.r ⟨fr2, hp2, r2, L2, w2, df2⟩) (EndI w0 hp2 r2 L2 w2 undef fun _ w1 => KeepsFrom w.heap.size W w1 ∧ Kp W w1 ∧ Φ (pre ++ [x]) c' w1)
        | .ret => s'.on fun fr2 hp2 r2 L2 w2 df2 => ∃ c', Need (CovH (hpx .ret c') s.r ⟨fr2, hp2, r2, L2, w2, df2⟩) (EndI w0 hp2 r2 L2 w2 undef fun _ w1 => KeepsFrom w.heap.size W w1 ∧ Ix .ret (pre ++ [x]) c' w1)
        | .exit id => s'.on fun fr2 hp2 r2 L2 w2 df2 => ∃ c', Need (CovH (hpx (.exit id) c') s.r ⟨fr2, hp2, r2, L2, w2, df2⟩) (EndI w0 hp2 r2 L2 w2 undef fun _ w1 => KeepsFrom w.heap.size W w1 ∧ Ix (.exit id) (pre ++ [x]) c' w1)
        | _ => False) ⟨setM (setP s.fr ps.toList (encs x)) (upd x), hpf c ++ hpa x, s.r ++ bs, [], W, []⟩)
    (hdone : ∀ D xs c W, w.heap.size ≤ D → S xs → Φ xs c W → W.heap[D]? = some (.deferred (some [])) → K .normal ⟨s.fr, hpf c, s.r, [], W, { target := .collected D, args := #[] } :: s.df⟩)
    (hstop : ∀ D c e pre q W, w.heap.size ≤ D → Sp pre → Ix c pre q W → exitOf c = some e → W.heap[D]? = some (.deferred (some [])) → K e ⟨s.fr, hpx c q, s.r, [], W, { target := .collected D, args := #[] } :: s.df⟩) :
    (Code.rangeFunc g ps x y).wpIn Fence.wide n cx.P (fun e a' w' => ∃ s', Rel w0 s' a' w' ∧ K e s') a w :=
  rangeB hcx h1 hR hg eg hseq hBx hBx0 hBxr (fun h k => hKt h k) hKb hps hpf Φ hΦ c0 hp0 hΦ0 Ix hpx hIx (fun z => setM (setP s.fr ps.toList (encs z)) (upd z)) hpa Ψ hassign hbody hdone hstop
end
end Go.Proofs.YtodpgcdandechaaGreat.Eng

