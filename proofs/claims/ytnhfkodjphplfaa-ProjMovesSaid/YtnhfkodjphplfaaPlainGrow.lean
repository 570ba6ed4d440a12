/-
  Plain laws of a clock more: closing goes alike, and what is kept. No program is in sight.
-/
import Derived.Test.YtnhfkodjphplfaaPlainProj
import Derived.Test.YtnhfkodjphplfaaGrow
import Derived.Test.YtnhfkodjphplfaaKeeps
namespace Go.Proofs.Ytnhfkodjphplfaa.Proj
set_option linter.unusedVariables false
open Go.Proofs.Ytnhfkodjphplfaa.Dbm

/-- G is L with a clock more. -/
structure Sim (N : Nat) (L G : List Int) : Prop where
  l : L.length = N * N
  g : G.length = (N + 1) * (N + 1)
  in_ : ∀ i j, i < N → j < N → G[i * (N + 1) + j]?.getD 0 = L[i * N + j]?.getD 0
  row : ∀ j, j < N → G[N * (N + 1) + j]?.getD 0 = NO
  col : ∀ i, i < N → G[i * (N + 1) + N]?.getD 0 = NO
  own : G[N * (N + 1) + N]?.getD 0 = 1

theorem growL_len (N : Nat) (L : List Int) : (growL N L).length = (N + 1) * (N + 1) := by simp [growL, madeL_len]
theorem growL_get {N : Nat} (L : List Int) {i j : Nat} (hi : i < N + 1) (hj : j < N + 1) : (growL N L)[i * (N + 1) + j]?.getD 0 = if i = N ∧ j = N then 1 else if i = N ∨ j = N then NO else L[i * N + j]?.getD 0 := by
  have hp := place_lt hi hj
  have hl : N * (N + 1) + N = (N + 1) * (N + 1) - 1 := by rw [Nat.succ_mul]; omega
  unfold growL
  rw [List.getElem?_set]
  by_cases h : i = N ∧ j = N
  · obtain ⟨rfl, rfl⟩ := h
    rw [if_pos hl.symm, if_pos (by rw [madeL_len]; omega), if_pos ⟨rfl, rfl⟩]; rfl
  · rw [if_neg (fun e => h (place_inj hj (by omega : N < N + 1) (e.symm.trans hl.symm))), if_neg h]
    unfold madeL
    rw [List.getElem?_map, List.getElem?_range hp]
    simp only [Option.map_some, Option.getD_some]
    have hF : growF N (i * (N + 1) + j) = if max i j = N then -1 else ((i * N + j : Nat) : Int) := by unfold growF; rw [place_div hj, place_mod hj]
    rw [hF]
    by_cases h2 : i = N ∨ j = N
    · rw [if_pos h2, if_pos (by omega : max i j = N), if_neg (by omega)]; rfl
    · rw [if_neg h2, if_neg (by omega : ¬ max i j = N), if_pos (Int.natCast_nonneg _), Int.toNat_natCast]
theorem Sim.start {N : Nat} {L : List Int} (hL : L.length = N * N) : Sim N L (growL N L) := by
  refine ⟨hL, growL_len N L, fun i j hi hj => ?_, fun j hj => ?_, fun i hi => ?_, ?_⟩
  · rw [growL_get L (by omega) (by omega), if_neg (by omega), if_neg (by omega)]
  · rw [growL_get L (by omega) (by omega), if_neg (by omega), if_pos (by omega)]
  · rw [growL_get L (by omega) (by omega), if_neg (by omega), if_pos (by omega)]
  · rw [growL_get L (by omega) (by omega), if_pos ⟨rfl, rfl⟩]

theorem get_set {L : List Int} {p q : Nat} {x : Int} (hp : p < L.length) : (L.set p x)[q]?.getD 0 = if p = q then x else L[q]?.getD 0 := by
  rw [List.getElem?_set]
  by_cases h : p = q
  · rw [if_pos h, if_pos hp, if_pos h]; rfl
  · rw [if_neg h, if_neg h]
theorem Sim.set {N : Nat} {L G : List Int} (h : Sim N L G) {a : Nat} (ha : a < N) (x : Int) : Sim N (L.set (a * N + a) x) (G.set (a * (N + 1) + a) x) := by
  have p1 : a * N + a < L.length := by rw [h.l]; exact place_lt ha ha
  have p2 : a * (N + 1) + a < G.length := by rw [h.g]; exact place_lt (by omega) (by omega)
  refine ⟨by simp [h.l], by simp [h.g], fun i j hi hj => ?_, fun j hj => ?_, fun i hi => ?_, ?_⟩
  · rw [get_set p1, get_set p2, h.in_ i j hi hj]
    by_cases e : a = i ∧ a = j
    · obtain ⟨rfl, rfl⟩ := e; rw [if_pos rfl, if_pos rfl]
    · rw [if_neg (fun e' => e (place_inj (by omega) (by omega) e')), if_neg (fun e' => e (place_inj ha hj e'))]
  · rw [get_set p2, if_neg (fun e' => by have := place_inj (by omega) (by omega) e'; omega)]; exact h.row j hj
  · rw [get_set p2, if_neg (fun e' => by have := place_inj (by omega) (by omega) e'; omega)]; exact h.col i hi
  · rw [get_set p2, if_neg (fun e' => by have := place_inj (by omega) (by omega) e'; omega)]; exact h.own

/-- two that go alike. -/
def Alike (N : Nat) (a b : Option (List Int)) : Prop := (a = none ∧ b = none) ∨ ∃ L G, a = some L ∧ b = some G ∧ Sim N L G
theorem diag_alike {N : Nat} {L G : List Int} (h : Sim N L G) : ∀ n, n ≤ N → Alike N ((List.range n).foldlM (diag1 N) L) ((List.range n).foldlM (diag1 (N + 1)) G) := by
  intro n
  induction n with
  | zero => intro _; exact .inr ⟨L, G, rfl, rfl, h⟩
  | succ n ih =>
    intro hn
    rw [List.range_succ, List.foldlM_append, List.foldlM_append]
    rcases ih (by omega) with ⟨e1, e2⟩ | ⟨L', G', e1, e2, h'⟩
    · rw [e1, e2]; exact .inl ⟨rfl, rfl⟩
    · rw [e1, e2]
      have e := h'.in_ n n (by omega) (by omega)
      simp only [Option.bind_eq_bind, Option.bind_some, List.foldlM_cons, List.foldlM_nil, diag1, e]
      by_cases hx : L'[n * N + n]?.getD 0 < 1
      · rw [if_pos hx, if_pos hx]; exact .inl ⟨rfl, rfl⟩
      · rw [if_neg hx, if_neg hx]; exact .inr ⟨_, _, rfl, rfl, h'.set (by omega) 1⟩
theorem last_diag {N : Nat} {L G : List Int} (h : Sim N L G) : diag1 (N + 1) G N = some G := by
  unfold diag1
  rw [h.own, if_neg (by omega)]
  congr 1
  apply ext_get (n := (N + 1) * (N + 1)) (by simp [h.g]) h.g
  intro q hq
  rw [get_set (by rw [h.g]; exact place_lt (by omega) (by omega))]
  split
  · rename_i e; rw [← e, h.own]
  · rfl

theorem ob_NO : ob NO = none := if_pos rfl
theorem ob_none {x : Int} (h : ob x = none) : x = NO := by unfold ob at h; split at h; assumption; cases h
theorem Sim.mx {N : Nat} {L G : List Int} (h : Sim N L G) : (∀ i j, i < N → j < N → Dbm.mx (N + 1) G i j = Dbm.mx N L i j) ∧ (∀ j, j < N → Dbm.mx (N + 1) G N j = none) ∧ (∀ i, i < N → Dbm.mx (N + 1) G i N = none) ∧ Dbm.mx (N + 1) G N N = some 1 := by
  refine ⟨fun i j hi hj => ?_, fun j hj => ?_, fun i hi => ?_, ?_⟩ <;> unfold Dbm.mx
  · rw [h.in_ i j hi hj]
  · rw [h.row j hj, ob_NO]
  · rw [h.col i hi, ob_NO]
  · rw [h.own]; rfl
theorem Sim.lim {N : Nat} {L G : List Int} (h : Sim N L G) {m : Int} (hm : 1 ≤ m) (hl : ∀ q, q < N * N → lim m (L[q]?.getD 0)) : ∀ q, q < (N + 1) * (N + 1) → Dbm.lim m (G[q]?.getD 0) := by
  refine lim_q fun i j hi hj => ?_
  by_cases h1 : i = N
  · by_cases h2 : j = N
    · subst h1; subst h2; rw [h.own]; exact .inr (by omega)
    · subst h1; rw [h.row j (by omega)]; exact .inl rfl
  · by_cases h2 : j = N
    · subst h2; rw [h.col i (by omega)]; exact .inl rfl
    · rw [h.in_ i j (by omega) (by omega)]; exact hl _ (place_lt (by omega) (by omega))

/-- one clock of those that there were. -/
theorem Sim.thr {N : Nat} {L G : List Int} (h : Sim N L G) {k : Nat} (hk : k < N) (hd : L[k * N + k]?.getD 0 = 1) (hl : ∀ q, q < N * N → Dbm.lim 864691128455135232 (L[q]?.getD 0)) : Sim N (thrL N k L) (thrL (N + 1) k G) := by
  have hlL : ∀ q, q < N * N → Dbm.lim 1152921504606846976 (L[q]?.getD 0) := fun q hq => lim_mono (hl q hq) (by omega)
  have hlG := h.lim (by omega) hlL
  have hdG : G[k * (N + 1) + k]?.getD 0 = 1 := by rw [h.in_ k k hk hk, hd]
  obtain ⟨m1, m2, m3, m4⟩ := h.mx
  have tL : ∀ i j, i < N → j < N → Dbm.mx N (thrL N k L) i j = Dbm.thr k (Dbm.mx N L) i j := fun i j hi hj => thrL_mx hk h.l hd hlL hi hj
  have tG : ∀ i j, i < N + 1 → j < N + 1 → Dbm.mx (N + 1) (thrL (N + 1) k G) i j = Dbm.thr k (Dbm.mx (N + 1) G) i j := fun i j hi hj => thrL_mx (by omega) h.g hdG hlG hi hj
  refine ⟨by rw [thrL, foldl_upd_length, h.l], by rw [thrL, foldl_upd_length, h.g], fun i j hi hj => ?_, fun j hj => ?_, fun i hi => ?_, ?_⟩
  · have e : Dbm.mx (N + 1) (thrL (N + 1) k G) i j = Dbm.mx N (thrL N k L) i j := by
      rw [tG i j (by omega) (by omega), tL i j hi hj]
      unfold Dbm.thr
      rw [m1 i j hi hj, m1 i k hi hk, m1 k j hk hj]
    exact ob_inj e
  · refine ob_none ?_
    show Dbm.mx (N + 1) (thrL (N + 1) k G) N j = none
    rw [tG N j (by omega) (by omega)]
    unfold Dbm.thr
    rw [m2 k hk, m2 j hj]; rfl
  · refine ob_none ?_
    show Dbm.mx (N + 1) (thrL (N + 1) k G) i N = none
    rw [tG i N (by omega) (by omega)]
    unfold Dbm.thr
    rw [m3 k hk, m3 i hi, oadd_none]; rfl
  · refine ob_inj (u := (thrL (N + 1) k G)[N * (N + 1) + N]?.getD 0) (v := 1) ?_
    show Dbm.mx (N + 1) (thrL (N + 1) k G) N N = some 1
    rw [tG N N (by omega) (by omega)]
    unfold Dbm.thr
    rw [m2 k hk, m4]; rfl
/-- the new clock. -/
theorem Sim.last {N : Nat} {L G : List Int} (h : Sim N L G) (hl : ∀ q, q < N * N → Dbm.lim 864691128455135232 (L[q]?.getD 0)) : thrL (N + 1) N G = G := by
  have hlG := h.lim (m := 1152921504606846976) (by omega) (fun q hq => lim_mono (hl q hq) (by omega))
  obtain ⟨m1, m2, m3, m4⟩ := h.mx
  refine ext_get (n := (N + 1) * (N + 1)) (by rw [thrL, foldl_upd_length, h.g]) h.g fun q hq => ?_
  rw [← div_mod (p := q) (N := N + 1)]
  have hi := div_lt hq
  have hj := mod_lt hq
  generalize q / (N + 1) = i at hi
  generalize q % (N + 1) = j at hj
  refine ob_inj ?_
  show Dbm.mx (N + 1) (thrL (N + 1) N G) i j = Dbm.mx (N + 1) G i j
  rw [thrL_mx (by omega) h.g h.own hlG hi hj]
  unfold Dbm.thr
  by_cases h1 : i = N
  · subst h1
    rw [m4, one_oadd]
    split
    · rfl
    · rfl
  · rw [m3 i (by omega), none_oadd]; rfl
theorem Sim.diagOk {N : Nat} {L G : List Int} (h : Sim N L G) : diagOk (N + 1) G = Dbm.diagOk N L := by
  have e : ∀ i, i ∈ List.range N → decide (1 ≤ G[i * (N + 1) + i]?.getD 0) = decide (1 ≤ L[i * N + i]?.getD 0) := fun i hi => by
    rw [h.in_ i i (List.mem_range.1 hi) (List.mem_range.1 hi)]
  unfold Dbm.diagOk
  rw [List.range_succ, List.all_append]
  have : ([N].all fun i => decide (1 ≤ G[i * (N + 1) + i]?.getD 0)) = true := by simp [h.own]
  rw [this, Bool.and_true]
  rw [Bool.eq_iff_iff, List.all_eq_true, List.all_eq_true]
  exact ⟨fun h' i hi => (e i hi) ▸ h' i hi, fun h' i hi => (e i hi).symm ▸ h' i hi⟩

theorem close_alike {N : Nat} {L : List Int} (h0 : chk N L = 0) : Alike N (closeL N L) (closeL (N + 1) (growL N L)) := by
  obtain ⟨c1, c2, c3, c4⟩ := chk_iff.1 h0
  have hN4 : N ≤ 4 := by omega
  have hL : L.length = N * N := by exact_mod_cast c3
  unfold closeL
  have hs := Sim.start hL
  have e0 : (List.range (N + 1)).foldlM (diag1 (N + 1)) (growL N L) = (List.range N).foldlM (diag1 (N + 1)) (growL N L) := by
    rw [List.range_succ, List.foldlM_append]
    rcases diag_alike hs N (Nat.le_refl _) with ⟨e1, e2⟩ | ⟨L', G', e1, e2, h'⟩
    · rw [e2]; rfl
    · rw [e2]
      simp [last_diag h']
  rw [e0]
  rcases diag_alike hs N (Nat.le_refl _) with ⟨e1, e2⟩ | ⟨L1, G1, e1, e2, h1⟩
  · rw [e1, e2]; exact .inl ⟨rfl, rfl⟩
  rw [e1, e2, Option.bind_some, Option.bind_some]
  obtain ⟨a1, a2, a3⟩ := diag_spec hL N L1 (Nat.le_refl _) e1
  have hd1 : ∀ i, i < N → Dbm.mx N L1 i i = some 1 := fun i hi => by unfold Dbm.mx; rw [a3 i i hi hi, if_pos ⟨rfl, hi⟩]; rfl
  have hE : ∀ i j v, i < N → j < N → Dbm.mx N L1 i j = some v → -288230376151711744 ≤ v / 2 ∧ v / 2 ≤ 288230376151711744 := fun i j v hi hj hv => by
    obtain ⟨e1, e2⟩ := mx_some hv
    rw [a3 i j hi hj] at e1
    split at e1
    · subst e1; decide
    · have := chk_lim h0 (i * N + j) (by rw [hL]; exact place_lt hi hj)
      rw [e1] at this
      exact this.resolve_left e2
  have key : ∀ n, n ≤ N → Alike N ((List.range n).foldlM (stage N) L1) ((List.range n).foldlM (stage (N + 1)) G1) := by
    intro n
    induction n with
    | zero => intro _; exact .inr ⟨L1, G1, rfl, rfl, h1⟩
    | succ n ih =>
      intro hn
      rw [List.range_succ, List.foldlM_append, List.foldlM_append]
      rcases ih (by omega) with ⟨e1, e2⟩ | ⟨M, G', e1, e2, h'⟩
      · rw [e1, e2]; exact .inl ⟨rfl, rfl⟩
      · obtain ⟨b1, b2⟩ := fold_inv hN4 a1 hd1 hE n M (by omega) e1
        have hlM := inv_lim b2 (by omega) hN4 hE
        have hMd : M[n * N + n]?.getD 0 = 1 := (mx_some (b2.diag n (by omega))).1
        have ht := h'.thr (by omega) hMd hlM
        rw [e1, e2]
        simp only [Option.bind_eq_bind, Option.bind_some, List.foldlM_cons, List.foldlM_nil, stage, ht.diagOk]
        cases hdk : Dbm.diagOk N (thrL N n M)
        · exact .inl ⟨rfl, rfl⟩
        · exact .inr ⟨_, _, rfl, rfl, ht⟩
  rw [List.range_succ, List.foldlM_append]
  rcases key N (Nat.le_refl _) with ⟨e1, e2⟩ | ⟨C, G', e1, e2, h'⟩
  · rw [e1, e2]; exact .inl ⟨rfl, rfl⟩
  · obtain ⟨b1, b2⟩ := fold_inv hN4 a1 hd1 hE N C (Nat.le_refl _) e1
    have hl := h'.last (inv_lim b2 (Nat.le_refl _) hN4 hE)
    have hdk : Dbm.diagOk (N + 1) G' = true := by
      rw [h'.diagOk, Dbm.diagOk, List.all_eq_true]
      intro i hi
      rw [(mx_some (b2.diag i (List.mem_range.1 hi))).1]; decide
    rw [e1, e2]
    refine .inr ⟨C, G', rfl, ?_, h'⟩
    simp [stage, hl, hdk]

/-- a clock that came, and goes, leaves the closed one. -/
theorem drop_grow {N : Nat} {C G : List Int} (h : Sim N C G) : dropL (N + 1) N G = C := by
  refine ext_get (dropL_len _ _ _) (by rw [h.l]; rfl) fun q hq => ?_
  have hi := div_lt hq
  have hj := mod_lt hq
  rw [← div_mod (p := q) (N := N + 1 - 1), dropL_get G hi hj]
  simp only [Nat.add_sub_cancel] at hi hj ⊢
  rw [show sk N (q / N) = q / N by unfold sk; rw [if_pos hi], show sk N (q % N) = q % N by unfold sk; rw [if_pos hj], h.in_ _ _ hi hj]
theorem chk_grow {N : Nat} {L : List Int} (h0 : chk N L = 0) (hN : N ≠ 4) : chk ((N : Int) + 1) (growL N L) = 0 := by
  obtain ⟨c1, c2, c3, c4⟩ := chk_iff.1 h0
  have hL : L.length = N * N := by exact_mod_cast c3
  refine chk_iff.2 ⟨by omega, by omega, by rw [growL_len]; rfl, ?_⟩
  rw [List.any_eq_false] at c4 ⊢
  intro x hx
  obtain ⟨q, hq, rfl⟩ := List.mem_iff_getElem.1 hx
  have hq' : q < (N + 1) * (N + 1) := by rw [← growL_len N L]; exact hq
  have e := growL_get L (div_lt hq') (mod_lt hq')
  rw [div_mod, List.getElem?_eq_getElem hq, Option.getD_some] at e
  rw [e]
  split
  · decide
  · split
    · decide
    · have hp : q / (N + 1) * N + q % (N + 1) < L.length := by rw [hL]; exact place_lt (by have := div_lt hq'; omega) (by have := mod_lt hq'; omega)
      rw [List.getElem?_eq_getElem hp]
      exact c4 _ (List.getElem_mem hp)

/-- Grow, where it may be. -/
theorem grow_ok {n : Int} {L : List Int} (h : (grow n L).2.2 = 0) : ∃ N : Nat, n = N ∧ chk N L = 0 ∧ N ≠ 4 ∧ grow n L = ((N : Int) + 1, growL N L, 0) := by
  unfold grow at h ⊢
  split at h
  · rename_i h0
    split at h
    · cases h
    · rename_i h1
      obtain ⟨N, rfl⟩ : ∃ N : Nat, n = N := ⟨n.toNat, by have := (chk_iff.1 h0).1; omega⟩
      exact ⟨N, rfl, h0, by omega, by rw [if_pos h0, if_neg h1, Int.toNat_natCast]⟩
  · cases h
theorem grow_err {n : Int} {L : List Int} (h : (grow n L).2.2 ≠ 0) : (grow n L).2.1 = [] := by
  unfold grow at h ⊢
  split
  · rename_i h0
    rw [if_pos h0] at h
    split
    · rfl
    · rename_i h1; rw [if_neg h1] at h; exact absurd rfl h
  · rfl
/-- there and back. -/
theorem grow_drop {n : Int} {L : List Int} (h : (grow n L).2.2 = 0) : drop (grow n L).1 (grow n L).2.1 n = close n L := by
  obtain ⟨N, rfl, h0, h4, e⟩ := grow_ok h
  have hc := chk_grow h0 h4
  have hN := (chk_iff.1 h0).1
  rw [e]
  unfold drop close
  simp only
  rw [if_pos hc, if_neg (by omega), if_pos h0, show ((N : Int) + 1).toNat = N + 1 by omega, Int.toNat_natCast]
  rcases close_alike h0 with ⟨e1, e2⟩ | ⟨C, G, e1, e2, hs⟩
  · rw [e1, e2]
  · rw [e1, e2]
    simp only
    rw [drop_grow hs, show (N : Int) + 1 - 1 = N by omega]

theorem keeps_NO {a b : Rt} (ha : a.ok = true) (hb : b.ok = true) : (Fr.keeps a b NO).1 = true := by
  unfold Fr.keeps
  rw [ha, hb, show Bd.may NO = true from Bd.may_none]; rfl
theorem keeps_self {a : Rt} (ha : a.ok = true) : (Fr.keeps a a 1).1 = true := by
  unfold Fr.keeps
  rw [ha, show Bd.may 1 = true by decide]
  have h1 : Fr.kept a a 1 = true := by
    have hr : Fr.rest a a = 0 := by simp [Fr.rest, cmpI]
    have hs : Fr.sign (a.num / a.den - a.num / a.den) (1 / 2) (Fr.rest a a) = 0 := by
      unfold Fr.sign
      rw [hr, Int.sub_self, show cmpI 0 (1 / 2) = 0 by decide]; rfl
    unfold Fr.kept
    rw [hs]; decide
  rw [h1]; rfl
theorem keptL_iff {N : Nat} {L : List Int} {T : List Rt} : keptL N L T = true ↔ ∀ i j, i < N → j < N → (Fr.keeps ((moments T)[i]?.getD ⟨0, 1⟩) ((moments T)[j]?.getD ⟨0, 1⟩) (L[i * N + j]?.getD 0)).1 = true := by
  unfold keptL
  rw [List.all_eq_true]
  constructor
  · intro h i j hi hj
    have := h (i * N + j) (List.mem_range.2 (place_lt hi hj))
    unfold pairOk at this
    rwa [place_div hj, place_mod hj] at this
  · intro h q hq
    have hq := List.mem_range.1 hq
    unfold pairOk
    have := h (q / N) (q % N) (div_lt hq) (mod_lt hq)
    rwa [div_mod] at this
theorem keeps_ok {n : Int} {L : List Int} {T : List Rt} (h : (keeps n L T).2 = 0) : chk n L = 0 ∧ T.all Rt.ok = true ∧ (T.length : Int) = n - 1 ∧ keeps n L T = (keptL n.toNat L T, 0) := by
  unfold keeps at h ⊢
  split at h
  · rename_i h0
    split at h
    · rename_i h1
      exact ⟨h0.1, h0.2, h1, by rw [if_pos h0, if_pos h1]⟩
    · cases h
  · cases h
theorem mom_ok {T : List Rt} (h : T.all Rt.ok = true) (i : Nat) : ((moments T)[i]?.getD ⟨0, 1⟩).ok = true := by
  have h0 : (⟨0, 1⟩ : Rt).ok = true := by decide
  cases hg : (moments T)[i]? with
  | none => exact h0
  | some x =>
    rcases List.mem_cons.1 (List.mem_of_getElem? hg) with rfl | hm
    · exact h0
    · exact List.all_eq_true.1 h x hm
/-- times keep one with a clock more just if the others keep it. -/
theorem grow_keeps {n : Int} {L : List Int} {T : List Rt} {m : Rt} (h : (grow n L).2.2 = 0) (h1 : (keeps n L T).2 = 0) (h2 : (keeps (grow n L).1 (grow n L).2.1 (T ++ [m])).2 = 0) : (keeps n L T).1 = (keeps (grow n L).1 (grow n L).2.1 (T ++ [m])).1 := by
  obtain ⟨N, rfl, h0, h4, e⟩ := grow_ok h
  obtain ⟨_, t1, l1, e1⟩ := keeps_ok h1
  rw [e] at h2 ⊢
  obtain ⟨_, t2, l2, e2⟩ := keeps_ok h2
  have hL : L.length = N * N := by have := (chk_iff.1 h0).2.2.1; exact_mod_cast this
  have hs := Sim.start hL
  rw [e1, e2]
  simp only
  rw [show ((N : Int) + 1).toNat = N + 1 by omega, Int.toNat_natCast, Bool.eq_iff_iff, keptL_iff, keptL_iff]
  have hN := (chk_iff.1 h0).1
  have hlen : (moments T).length = N := by simp [moments]; omega
  have hm : ∀ i, i < N → (moments (T ++ [m]))[i]? = (moments T)[i]? := fun i hi => by
    rw [show moments (T ++ [m]) = moments T ++ [m] from rfl, List.getElem?_append_left (by omega)]
  constructor
  · intro hk i j hi hj
    by_cases c1 : i = N
    · by_cases c2 : j = N
      · subst c1; subst c2; rw [hs.own]; exact keeps_self (mom_ok t2 _)
      · subst c1; rw [hs.row j (by omega)]; exact keeps_NO (mom_ok t2 _) (mom_ok t2 _)
    · by_cases c2 : j = N
      · subst c2; rw [hs.col i (by omega)]; exact keeps_NO (mom_ok t2 _) (mom_ok t2 _)
      · rw [hs.in_ i j (by omega) (by omega), hm i (by omega), hm j (by omega)]
        exact hk i j (by omega) (by omega)
  · intro hk i j hi hj
    have := hk i j (by omega) (by omega)
    rwa [hs.in_ i j hi hj, hm i hi, hm j hj] at this
end Go.Proofs.Ytnhfkodjphplfaa.Proj
