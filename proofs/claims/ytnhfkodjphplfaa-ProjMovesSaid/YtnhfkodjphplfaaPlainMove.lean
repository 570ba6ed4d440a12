/-
  Plain laws of a matrix with its clocks in another order: there and back, and what is kept. No program is in sight.
-/
import Derived.Test.YtnhfkodjphplfaaPlainGrow
namespace Go.Proofs.Ytnhfkodjphplfaa.Proj
set_option linter.unusedVariables false
open Go.Proofs.Ytnhfkodjphplfaa.Dbm

def sortI (l : List Int) : List Int := l.mergeSort fun x y => decide (x ≤ y)
def og (O : List Int) (i : Nat) : Int := O[i]?.getD 0
def moveF (N : Nat) (O : List Int) (k : Nat) : Int := og O (k / N) * N + og O (k % N)
def moveL (N : Nat) (L O : List Int) : List Int := madeL L (moveF N O) (N * N)
def moveOk (n : Int) (O : List Int) : Bool := decide ((O.length : Int) = n) && decide (O[0]?.getD 1 = 0) && decide (sortI O = upto n.toNat)
/-- Move: the clocks, the bounds, and the error. -/
def move (n : Int) (L O : List Int) : Int × List Int × Int :=
  if chk n L = 0 then (if moveOk n O = true then (n, moveL n.toNat L O, 0) else (0, [], 2)) else (0, [], 8)

/-- an order of so many clocks: where each goes, and whence. -/
structure Ord (N : Nat) (O : List Int) : Prop where
  len : O.length = N
  zero : og O 0 = 0
  lt : ∀ i, i < N → 0 ≤ og O i ∧ og O i < N
  inj : ∀ i j, i < N → j < N → og O i = og O j → i = j
  surj : ∀ k : Nat, k < N → ∃ i, i < N ∧ og O i = k

theorem sortI_perm (l : List Int) : (sortI l).Perm l := List.mergeSort_perm l _
theorem upto_nodup (N : Nat) : (upto N).Nodup := by
  unfold upto
  rw [List.nodup_iff_pairwise_ne, List.pairwise_map]
  exact (List.nodup_iff_pairwise_ne.1 List.nodup_range).imp fun h e => h (Int.ofNat.inj e)
theorem mem_upto {N : Nat} {x : Int} : x ∈ upto N ↔ 0 ≤ x ∧ x < N := by
  unfold upto
  rw [List.mem_map]
  constructor
  · rintro ⟨k, hk, rfl⟩
    have := List.mem_range.1 hk
    exact ⟨Int.natCast_nonneg _, by show (k : Int) < N; omega⟩
  · rintro ⟨h0, h1⟩
    exact ⟨x.toNat, List.mem_range.2 (by omega), by show ((x.toNat : Nat) : Int) = x; omega⟩
theorem upto_sorted (N : Nat) : (upto N).Pairwise fun a b => (decide (a ≤ b)) = true := by
  unfold upto
  rw [List.pairwise_map]
  exact List.pairwise_lt_range.imp fun h => decide_eq_true (by show (Int.ofNat _ : Int) ≤ Int.ofNat _; exact Int.ofNat_le.2 (Nat.le_of_lt h))
theorem sortI_sorted (l : List Int) : (sortI l).Pairwise fun a b => (decide (a ≤ b)) = true :=
  List.pairwise_mergeSort (fun a b c h1 h2 => by simp at *; omega) (fun a b => by simp; omega) l
theorem sortI_upto {N : Nat} {O : List Int} : sortI O = upto N ↔ O.Perm (upto N) := by
  constructor
  · intro h; exact (sortI_perm O).symm.trans (h ▸ List.Perm.refl _)
  · intro h
    exact List.Perm.eq_of_pairwise (fun a b _ _ h1 h2 => by simp at h1 h2; omega) (sortI_sorted O) (upto_sorted N) ((sortI_perm O).trans h)
theorem og_get {O : List Int} {i : Nat} (hi : i < O.length) : O[i]? = some (og O i) := by
  unfold og; rw [List.getElem?_eq_getElem hi]; rfl
theorem ord_perm {N : Nat} {O : List Int} (hl : O.length = N) (h0 : og O 0 = 0) (hp : O.Perm (upto N)) : Ord N O := by
  have hn : O.Nodup := hp.symm.nodup (upto_nodup N)
  refine ⟨hl, h0, fun i hi => ?_, fun i j hi hj e => ?_, fun k hk => ?_⟩
  · exact mem_upto.1 (hp.subset (List.mem_of_getElem? (og_get (by omega))))
  · have key : ∀ i j, i < j → j < N → og O i ≠ og O j := fun i j h1 h2 e => by
      have := List.pairwise_iff_getElem.1 hn i j (by omega) (by omega) h1
      have h1 := og_get (O := O) (i := i) (by omega)
      have h2 := og_get (O := O) (i := j) (by omega)
      rw [List.getElem?_eq_getElem (by omega)] at h1 h2
      rw [Option.some.inj h1, Option.some.inj h2] at this
      exact this e
    rcases Nat.lt_trichotomy i j with h | h | h
    · exact absurd e (key i j h hj)
    · exact h
    · exact absurd e.symm (key j i h hi)
  · obtain ⟨i, hi, e⟩ := List.getElem_of_mem (hp.symm.subset (mem_upto.2 ⟨Int.natCast_nonneg k, by omega⟩))
    refine ⟨i, by omega, ?_⟩
    unfold og; rw [List.getElem?_eq_getElem hi, e]; rfl
theorem Ord.perm {N : Nat} {O : List Int} (h : Ord N O) : O.Perm (upto N) := by
  have hn : O.Nodup := by
    refine List.pairwise_iff_getElem.2 fun i j hi hj hij e => ?_
    have h1 := og_get (O := O) (i := i) hi
    have h2 := og_get (O := O) (i := j) hj
    rw [List.getElem?_eq_getElem (by omega)] at h1 h2
    have := h.inj i j (by have := h.len; omega) (by have := h.len; omega) (by rw [← Option.some.inj h1, ← Option.some.inj h2, e])
    omega
  refine (List.perm_ext_iff_of_nodup hn (upto_nodup N)).2 fun a => ?_
  rw [mem_upto]
  constructor
  · intro ha
    obtain ⟨i, hi, e⟩ := List.getElem_of_mem ha
    have := h.lt i (by have := h.len; omega)
    have e2 := og_get hi
    rw [List.getElem?_eq_getElem hi, e] at e2
    rw [Option.some.inj e2]; exact this
  · rintro ⟨h0, h1⟩
    obtain ⟨i, hi, e⟩ := h.surj a.toNat (by omega)
    have := List.mem_of_getElem? (og_get (O := O) (i := i) (by have := h.len; omega))
    rwa [e, Int.toNat_of_nonneg h0] at this
theorem moveOk_iff {n : Int} {O : List Int} (hn : 1 ≤ n) : moveOk n O = true ↔ ∃ N : Nat, n = N ∧ Ord N O := by
  unfold moveOk
  simp only [Bool.and_eq_true, decide_eq_true_eq]
  constructor
  · rintro ⟨⟨h1, h2⟩, h3⟩
    refine ⟨n.toNat, by omega, ord_perm (by omega) ?_ (sortI_upto.1 h3)⟩
    unfold og
    rw [List.getElem?_eq_getElem (by omega)] at h2 ⊢
    exact h2
  · rintro ⟨N, rfl, h⟩
    refine ⟨⟨by rw [h.len], ?_⟩, by rw [Int.toNat_natCast]; exact sortI_upto.2 h.perm⟩
    rw [og_get (by have := h.len; omega), Option.getD_some, h.zero]

theorem moveL_len (N : Nat) (L O : List Int) : (moveL N L O).length = N * N := madeL_len _ _ _
theorem moveL_get {N : Nat} (L : List Int) {O : List Int} (h : Ord N O) {i j : Nat} (hi : i < N) (hj : j < N) : (moveL N L O)[i * N + j]?.getD 0 = L[(og O i).toNat * N + (og O j).toNat]?.getD 0 := by
  have h1 := h.lt i hi
  have h2 := h.lt j hj
  unfold moveL madeL
  rw [List.getElem?_map, List.getElem?_range (place_lt hi hj)]
  simp only [Option.map_some, Option.getD_some]
  have hF : moveF N O (i * N + j) = (((og O i).toNat * N + (og O j).toNat : Nat) : Int) := by
    unfold moveF
    rw [place_div hj, place_mod hj, Int.natCast_add, Int.natCast_mul, Int.toNat_of_nonneg h1.1, Int.toNat_of_nonneg h2.1]
  rw [hF, if_pos (Int.natCast_nonneg _), Int.toNat_natCast]
theorem moveF_lt {N : Nat} {O : List Int} (h : Ord N O) {k : Nat} (hk : k < N * N) : 0 ≤ moveF N O k ∧ moveF N O k < (N * N : Nat) := by
  have h1 := h.lt _ (div_lt hk)
  have h2 := h.lt _ (mod_lt hk)
  have e : moveF N O k = (((og O (k / N)).toNat * N + (og O (k % N)).toNat : Nat) : Int) := by
    unfold moveF
    rw [Int.natCast_add, Int.natCast_mul, Int.toNat_of_nonneg h1.1, Int.toNat_of_nonneg h2.1]
  rw [e]
  exact ⟨Int.natCast_nonneg _, Int.ofNat_lt.2 (place_lt (by omega) (by omega))⟩
theorem moveL_mem {N : Nat} {L O : List Int} (hL : L.length = N * N) (h : Ord N O) {x : Int} (hx : x ∈ moveL N L O) : x ∈ L := by
  obtain ⟨k, hk, rfl⟩ := List.mem_map.1 hx
  have hk := moveF_lt h (List.mem_range.1 hk)
  rw [if_pos hk.1, List.getElem?_eq_getElem (by omega), Option.getD_some]
  exact List.getElem_mem _
theorem chk_move {N : Nat} {L O : List Int} (h0 : chk N L = 0) (h : Ord N O) : chk N (moveL N L O) = 0 := by
  obtain ⟨c1, c2, c3, c4⟩ := chk_iff.1 h0
  refine chk_iff.2 ⟨c1, c2, by rw [moveL_len]; exact_mod_cast rfl, ?_⟩
  rw [List.any_eq_false] at c4 ⊢
  exact fun x hx => c4 x (moveL_mem (by exact_mod_cast c3) h hx)
theorem move_ok {n : Int} {L O : List Int} (h : (move n L O).2.2 = 0) : ∃ N : Nat, n = N ∧ chk N L = 0 ∧ Ord N O ∧ move n L O = ((N : Int), moveL N L O, 0) := by
  unfold move at h ⊢
  split at h
  · rename_i h0
    split at h
    · rename_i h1
      obtain ⟨N, rfl, hO⟩ := (moveOk_iff (chk_iff.1 h0).1).1 h1
      exact ⟨N, rfl, h0, hO, by rw [if_pos h0, if_pos h1]; rfl⟩
    · cases h
  · cases h
theorem move_err {n : Int} {L O : List Int} (h : (move n L O).2.2 ≠ 0) : (move n L O).2.1 = [] := by
  unfold move at h ⊢
  split
  · rename_i h0
    split
    · rename_i h1; exact absurd (by rw [if_pos h0, if_pos h1]) h
    · rfl
  · rfl
theorem move_of {N : Nat} {L O : List Int} (h0 : chk N L = 0) (h : Ord N O) : move N L O = ((N : Int), moveL N L O, 0) := by
  unfold move
  rw [if_pos h0, if_pos ((moveOk_iff (chk_iff.1 h0).1).2 ⟨N, rfl, h⟩)]; rfl

/-- the way back: i stands at the place where i went. -/
structure Inverse (N : Nat) (O B : List Int) : Prop where
  len : B.length = N
  at_ : ∀ i, i < N → og B (og O i).toNat = i
theorem Inverse.back {N : Nat} {O B : List Int} (h : Ord N O) (hB : Inverse N O B) {k : Nat} (hk : k < N) : ∃ i, i < N ∧ og O i = k ∧ og B k = i := by
  obtain ⟨i, hi, e⟩ := h.surj k hk
  refine ⟨i, hi, e, ?_⟩
  have := hB.at_ i hi
  rwa [e, Int.toNat_natCast] at this
theorem Inverse.ord {N : Nat} {O B : List Int} (hN : 1 ≤ N) (h : Ord N O) (hB : Inverse N O B) : Ord N B := by
  refine ⟨hB.len, ?_, fun k hk => ?_, fun k l hk hl e => ?_, fun i hi => ?_⟩
  · have := hB.at_ 0 (by omega)
    rwa [h.zero] at this
  · obtain ⟨i, hi, _, e⟩ := hB.back h hk
    omega
  · obtain ⟨i, hi, e1, e2⟩ := hB.back h hk
    obtain ⟨j, hj, e3, e4⟩ := hB.back h hl
    have : i = j := by omega
    subst this; omega
  · have h1 := h.lt i hi
    exact ⟨(og O i).toNat, by omega, hB.at_ i hi⟩
theorem move_back {N : Nat} {L O B : List Int} (hL : L.length = N * N) (hN : 1 ≤ N) (h : Ord N O) (hB : Inverse N O B) : moveL N (moveL N L O) B = L := by
  refine ext_get (moveL_len _ _ _) hL fun q hq => ?_
  have h1 := div_lt hq
  have h2 := mod_lt hq
  have hb := hB.ord hN h
  rw [← div_mod (p := q) (N := N)]
  have l1 := hb.lt _ h1
  have l2 := hb.lt _ h2
  rw [moveL_get _ hb h1 h2, moveL_get _ h (by omega) (by omega)]
  obtain ⟨i, hi, e1, e2⟩ := hB.back h h1
  obtain ⟨j, hj, e3, e4⟩ := hB.back h h2
  rw [e2, e4, Int.toNat_natCast, Int.toNat_natCast, e1, e3, Int.toNat_natCast, Int.toNat_natCast]
/-- the way back after so many places. -/
def backP (O : List Int) (k : Nat) : List Int := (List.range k).foldl (fun B i => B.set (og O i).toNat i) (List.replicate O.length 0)
theorem backP_zero (O : List Int) : backP O 0 = List.replicate O.length 0 := rfl
theorem backP_succ (O : List Int) (k : Nat) : backP O (k + 1) = (backP O k).set (og O k).toNat k := by
  unfold backP; rw [List.range_succ, List.foldl_append]; rfl
theorem backP_len (O : List Int) (k : Nat) : (backP O k).length = O.length := by
  induction k with
  | zero => simp [backP]
  | succ k ih => rw [backP_succ, List.length_set, ih]
theorem backP_get {N : Nat} {O : List Int} (h : Ord N O) : ∀ k, k ≤ N → ∀ i, i < k → og (backP O k) (og O i).toNat = i
  | 0, _, i, hi => by omega
  | k + 1, hk, i, hi => by
    rw [backP_succ]
    have l1 := h.lt k (by omega)
    have l2 := h.lt i (by omega)
    unfold og
    rw [List.getElem?_set]
    by_cases e : i = k
    · subst e
      rw [if_pos rfl, if_pos (by rw [backP_len, h.len]; show (og O i).toNat < N; omega)]; rfl
    · rw [if_neg (fun e' => e (h.inj i k (by omega) (by omega) (by show og O i = og O k; unfold og; unfold og at l1 l2; omega)))]
      exact backP_get h k (by omega) i (by omega)
theorem backP_inv {N : Nat} {O : List Int} (h : Ord N O) : Inverse N O (backP O N) := ⟨by rw [backP_len, h.len], fun i hi => backP_get h N (Nat.le_refl _) i hi⟩

/-- times, moved alike. -/
def movedT (O : List Int) (T : List Rt) (k : Nat) : List Rt := (List.range k).map fun i => T[(og O (i + 1) - 1).toNat]?.getD ⟨0, 1⟩
theorem movedT_len (O : List Int) (T : List Rt) (k : Nat) : (movedT O T k).length = k := by simp [movedT]
theorem movedT_succ (O : List Int) (T : List Rt) (k : Nat) : movedT O T (k + 1) = movedT O T k ++ [T[(og O (k + 1) - 1).toNat]?.getD ⟨0, 1⟩] := by
  unfold movedT; rw [List.range_succ, List.map_append]; rfl
theorem Ord.pos {N : Nat} {O : List Int} (h : Ord N O) {i : Nat} (h0 : i ≠ 0) (hi : i < N) : 1 ≤ og O i := by
  have h1 := h.lt i hi
  have h2 : og O i ≠ 0 := fun e => h0 (h.inj i 0 hi (by omega) (e.trans h.zero.symm))
  omega
theorem moments_moved {N : Nat} {O : List Int} {T : List Rt} (h : Ord N O) (hT : T.length + 1 = N) {i : Nat} (hi : i < N) : (moments (movedT O T (N - 1)))[i]?.getD ⟨0, 1⟩ = (moments T)[(og O i).toNat]?.getD ⟨0, 1⟩ := by
  cases i with
  | zero => rw [h.zero]; rfl
  | succ i =>
    have hp := h.pos (i := i + 1) (by omega) hi
    have hlt := h.lt (i + 1) hi
    unfold moments
    rw [List.getElem?_cons_succ]
    obtain ⟨m, hm⟩ : ∃ m, (og O (i + 1)).toNat = m + 1 := ⟨(og O (i + 1)).toNat - 1, by omega⟩
    rw [hm, List.getElem?_cons_succ]
    unfold movedT
    rw [List.getElem?_map, List.getElem?_range (by omega)]
    simp only [Option.map_some, Option.getD_some]
    rw [show (og O (i + 1) - 1).toNat = m by omega]
theorem moved_ok {N : Nat} {O : List Int} {T : List Rt} (h : Ord N O) (hT : T.length + 1 = N) (hall : T.all Rt.ok = true) : (movedT O T (N - 1)).all Rt.ok = true := by
  rw [List.all_eq_true]
  intro x hx
  obtain ⟨i, hi, rfl⟩ := List.mem_map.1 hx
  have hi := List.mem_range.1 hi
  have hp := h.pos (i := i + 1) (by omega) (by omega)
  have hlt := h.lt (i + 1) (by omega)
  rw [List.getElem?_eq_getElem (by omega)]
  exact List.all_eq_true.1 hall _ (List.getElem_mem _)
/-- times are moved alike. -/
theorem move_keeps {N : Nat} {L O : List Int} {T : List Rt} (h0 : chk N L = 0) (h : Ord N O) (h1 : (keeps N L T).2 = 0) :
    keeps N (moveL N L O) (movedT O T (N - 1)) = keeps N L T := by
  obtain ⟨_, t1, l1, e1⟩ := keeps_ok h1
  have hN := (chk_iff.1 h0).1
  rw [e1]
  unfold keeps
  rw [if_pos ⟨chk_move h0 h, moved_ok h (by omega) t1⟩, if_pos (by rw [movedT_len]; omega)]
  rw [Int.toNat_natCast]
  congr 1
  rw [Bool.eq_iff_iff, keptL_iff, keptL_iff]
  constructor
  · intro hk i j hi hj
    obtain ⟨a, ha, ea⟩ := h.surj i hi
    obtain ⟨b, hb, eb⟩ := h.surj j hj
    have := hk a b ha hb
    rw [moments_moved h (by omega) ha, moments_moved h (by omega) hb, moveL_get L h ha hb, ea, eb, Int.toNat_natCast, Int.toNat_natCast] at this
    exact this
  · intro hk i j hi hj
    have l1 := h.lt i hi
    have l2 := h.lt j hj
    rw [moments_moved h (by omega) hi, moments_moved h (by omega) hj, moveL_get L h hi hj]
    exact hk _ _ (by omega) (by omega)
end Go.Proofs.Ytnhfkodjphplfaa.Proj
