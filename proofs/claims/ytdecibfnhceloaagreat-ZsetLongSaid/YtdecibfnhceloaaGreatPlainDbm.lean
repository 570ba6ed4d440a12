/-
  Plain laws of matrices of bounds: sums of bounds without limits, closing a matrix clock by clock, what is answered is closed, and is the least sum over ways that come to no clock twice. No program is in sight.
-/
import Derived.Test.YtdecibfnhceloaaGreatPlainBound
namespace Go.Proofs.YtdecibfnhceloaaGreat.Dbm
set_option linter.unusedVariables false

/-- a bound: none, or twice a number, and 1 more if the number itself may be. -/
abbrev OB := Option Int

/-- the sum of two bounds that are there. -/
def bsum (u v : Int) : Int := (u / 2 + v / 2) * 2 + (u % 2) * (v % 2)
def oadd : OB → OB → OB
  | some u, some v => some (bsum u v)
  | _, _ => none
/-- at most. -/
def ole : OB → OB → Prop
  | _, none => True
  | some u, some v => u ≤ v
  | none, some _ => False
def olt : OB → OB → Prop
  | some u, some v => u < v
  | some _, none => True
  | none, _ => False

theorem parity (u : Int) : u % 2 = 0 ∨ u % 2 = 1 := by omega
theorem bsum_comm (u v : Int) : bsum u v = bsum v u := by simp only [bsum, Int.add_comm, Int.mul_comm]
theorem bsum_one (u : Int) : bsum u 1 = u := by unfold bsum; omega
theorem bsum_assoc (u v x : Int) : bsum (bsum u v) x = bsum u (bsum v x) := by
  unfold bsum
  rcases parity u with h1 | h1 <;> rcases parity v with h2 | h2 <;> rcases parity x with h3 | h3 <;> simp only [h1, h2, h3, Int.zero_mul, Int.mul_zero, Int.mul_one, Int.add_zero] <;> omega
theorem bsum_mono {u u' v v' : Int} (h : u ≤ u') (k : v ≤ v') : bsum u v ≤ bsum u' v' := by
  unfold bsum
  rcases parity u with h1 | h1 <;> rcases parity v with h2 | h2 <;> rcases parity u' with h3 | h3 <;> rcases parity v' with h4 | h4 <;> simp only [h1, h2, h3, h4, Int.mul_zero, Int.mul_one, Int.add_zero] <;> omega

theorem ole_refl (a : OB) : ole a a := by cases a <;> simp [ole]
theorem ole_trans {a b c : OB} (h : ole a b) (k : ole b c) : ole a c := by
  cases a <;> cases b <;> cases c <;> simp_all [ole]; omega
theorem ole_antisymm {a b : OB} (h : ole a b) (k : ole b a) : a = b := by
  cases a <;> cases b <;> simp_all [ole]; omega
theorem not_olt {a b : OB} : ¬ olt a b ↔ ole b a := by cases a <;> cases b <;> simp [ole, olt]
theorem ole_of_olt {a b : OB} (h : olt a b) : ole a b := by cases a <;> cases b <;> simp_all [ole, olt]; omega
theorem olt_irrefl {a b : OB} (h : olt a b) (k : ole b a) : False := not_olt.2 k h
theorem oadd_comm (a b : OB) : oadd a b = oadd b a := by cases a <;> cases b <;> simp [oadd, bsum_comm]
theorem oadd_assoc (a b c : OB) : oadd (oadd a b) c = oadd a (oadd b c) := by cases a <;> cases b <;> cases c <;> simp [oadd, bsum_assoc]
theorem oadd_one (a : OB) : oadd a (some 1) = a := by cases a <;> simp [oadd, bsum_one]
theorem one_oadd (a : OB) : oadd (some 1) a = a := by rw [oadd_comm, oadd_one]
theorem oadd_mono {a a' b b' : OB} (h : ole a a') (k : ole b b') : ole (oadd a b) (oadd a' b') := by
  cases a <;> cases b <;> cases a' <;> cases b' <;> simp_all [ole, oadd, bsum_mono]
theorem oadd_none (a : OB) : oadd a none = none := by cases a <;> rfl
theorem none_oadd (a : OB) : oadd none a = none := rfl

/-- a matrix. -/
abbrev Mx := Nat → Nat → OB

/-- the sum of the bounds of a way. -/
def way (E : Mx) : List Nat → OB
  | [] => some 1
  | [_] => some 1
  | a :: b :: t => oadd (E a b) (way E (b :: t))
theorem way_two (E : Mx) (a b : Nat) : way E [a, b] = E a b := by simp [way, oadd_one]
theorem way_split (E : Mx) (p : List Nat) (a : Nat) (q : List Nat) : way E (p ++ a :: q) = oadd (way E (p ++ [a])) (way E (a :: q)) := by
  induction p with
  | nil => simp [way, one_oadd]
  | cons x p ih =>
    cases p with
    | nil => simp [way, oadd_one]
    | cons y p => simp only [List.cons_append, way] at ih ⊢; rw [ih, oadd_assoc]

/-- one clock: each bound is at most that by the clock. -/
def olt' (a b : OB) : Bool := match a, b with | some u, some v => decide (u < v) | some _, none => true | none, _ => false
theorem olt'_iff {a b : OB} : olt' a b = true ↔ olt a b := by cases a <;> cases b <;> simp [olt', olt]
def thr (k : Nat) (M : Mx) : Mx := fun i j => if olt' (oadd (M i k) (M k j)) (M i j) then oadd (M i k) (M k j) else M i j
theorem thr_le (k : Nat) (M : Mx) (i j : Nat) : ole (thr k M i j) (M i j) := by
  unfold thr; split
  · rename_i h; exact ole_of_olt (olt'_iff.1 h)
  · exact ole_refl _
theorem thr_by (k : Nat) (M : Mx) (i j : Nat) : ole (thr k M i j) (oadd (M i k) (M k j)) := by
  unfold thr; split
  · exact ole_refl _
  · rename_i h; exact not_olt.1 (fun e => h (olt'_iff.2 e))
theorem thr_cases (k : Nat) (M : Mx) (i j : Nat) : (thr k M i j = M i j) ∨ (thr k M i j = oadd (M i k) (M k j) ∧ olt (oadd (M i k) (M k j)) (M i j)) := by
  unfold thr; split
  · rename_i h; exact .inr ⟨rfl, olt'_iff.1 h⟩
  · exact .inl rfl
theorem thr_row {k : Nat} {M : Mx} (h : M k k = some 1) (j : Nat) : thr k M k j = M k j := by
  rcases thr_cases k M k j with e | ⟨_, e⟩
  · exact e
  · rw [h, one_oadd] at e; exact (olt_irrefl e (ole_refl _)).elim
theorem thr_col {k : Nat} {M : Mx} (h : M k k = some 1) (i : Nat) : thr k M i k = M i k := by
  rcases thr_cases k M i k with e | ⟨_, e⟩
  · exact e
  · rw [h, oadd_one] at e; exact (olt_irrefl e (ole_refl _)).elim

/-- after the clocks below k: the diagonal; each bound that is there is that of a way that comes to no clock twice, by clocks below k; and it is at most each by a clock below k. -/
structure Inv (n k : Nat) (E M : Mx) : Prop where
  diag : ∀ i, i < n → M i i = some 1
  low : ∀ i j, i < n → j < n → ole (M i j) (E i j)
  wit : ∀ i j, i < n → j < n → i ≠ j → ∀ v, M i j = some v → ∃ mid, (i :: (mid ++ [j])).Nodup ∧ (∀ a ∈ mid, a < k) ∧ way E (i :: (mid ++ [j])) = some v
  closed : ∀ i j a, i < n → j < n → a < k → ole (M i j) (oadd (M i a) (M a j))

theorem Inv.start {n : Nat} {E : Mx} (h : ∀ i, i < n → E i i = some 1) : Inv n 0 E E :=
  ⟨h, fun _ _ _ _ => ole_refl _, fun i j hi hj hne v hv => ⟨[], by simp [hne], by simp, by simp [way_two, hv]⟩, fun _ _ _ _ _ h => by omega⟩

/-- a way by clocks below k is at least the bound. -/
theorem Inv.le_way {n k : Nat} {E M : Mx} (h : Inv n k E M) (hk : k ≤ n) : ∀ (mid : List Nat) (i j : Nat), i < n → j < n → (∀ a ∈ mid, a < k) → ole (M i j) (way E (i :: (mid ++ [j])))
  | [], i, j, hi, hj, _ => by simpa [way_two] using h.low i j hi hj
  | a :: mid, i, j, hi, hj, hm => by
    have ha : a < k := hm a (by simp)
    have ih := h.le_way hk mid a j (by omega) hj (fun b hb => hm b (by simp [hb]))
    simp only [List.cons_append, way]
    exact ole_trans (h.closed i j a hi hj ha) (oadd_mono (h.low i a hi (by omega)) ih)

theorem ge_one {a : OB} (h : ¬ olt a (some 1)) : ole (some 1) a := not_olt.1 h

/-- one clock more, where no clock's own bound comes below 0. -/
theorem Inv.step {n k : Nat} {E M : Mx} (h : Inv n k E M) (hk : k < n) (hd : ∀ i, i < n → thr k M i i = some 1) : Inv n (k + 1) E (thr k M) := by
  have hkk := h.diag k hk
  have cyc : ∀ a, a < n → ole (some 1) (oadd (M a k) (M k a)) := fun a ha => by
    have := thr_by k M a a; rwa [hd a ha] at this
  refine ⟨hd, fun i j hi hj => ole_trans (thr_le k M i j) (h.low i j hi hj), ?_, ?_⟩
  · intro i j hi hj hne v hv
    rcases thr_cases k M i j with e | ⟨e, hlt⟩
    · rw [e] at hv
      obtain ⟨mid, h1, h2, h3⟩ := h.wit i j hi hj hne v hv
      exact ⟨mid, h1, fun a ha => by have := h2 a ha; omega, h3⟩
    · have hik : i ≠ k := fun c => by subst c; rw [hkk, one_oadd] at hlt; exact olt_irrefl hlt (ole_refl _)
      have hjk : k ≠ j := fun c => by subst c; rw [hkk, oadd_one] at hlt; exact olt_irrefl hlt (ole_refl _)
      rw [e] at hv
      cases hu : M i k with
      | none => rw [hu] at hv; cases hv
      | some u =>
      cases hw : M k j with
      | none => rw [hw, hu] at hv; cases hv
      | some x =>
      obtain ⟨m1, a1, a2, a3⟩ := h.wit i k hi hk hik u hu
      obtain ⟨m2, b1, b2, b3⟩ := h.wit k j hk hj hjk x hw
      -- a clock on both ways: then the sum is not below what was there
      have both : ∀ a, a < n → ole (oadd (M i a) (M a k)) (M i k) → ole (oadd (M k a) (M a j)) (M k j) → ole (M i j) (oadd (M i a) (M a j)) → False := fun a ha c1 c2 c3 => by
        have s1 : ole (oadd (oadd (M i a) (M a k)) (oadd (M k a) (M a j))) (oadd (M i k) (M k j)) := oadd_mono c1 c2
        have s2 : oadd (oadd (M i a) (M a k)) (oadd (M k a) (M a j)) = oadd (M i a) (oadd (oadd (M a k) (M k a)) (M a j)) := by simp only [oadd_assoc]
        rw [s2] at s1
        have s3 : ole (oadd (M i a) (oadd (some 1) (M a j))) (oadd (M i a) (oadd (oadd (M a k) (M k a)) (M a j))) := oadd_mono (ole_refl _) (oadd_mono (cyc a ha) (ole_refl _))
        rw [one_oadd] at s3
        exact olt_irrefl hlt (ole_trans c3 (ole_trans s3 s1))
      have cut1 : ∀ p a q, m1 = p ++ a :: q → a < k ∧ ole (oadd (M i a) (M a k)) (M i k) := fun p a q e1 => by
        subst e1
        have ha : a < k := a2 a (by simp)
        refine ⟨ha, ?_⟩
        rw [hu, ← a3]
        have e2 : i :: ((p ++ a :: q) ++ [k]) = (i :: p) ++ a :: (q ++ [k]) := by simp
        rw [e2, way_split]
        exact oadd_mono (h.le_way (by omega) p i a hi (by omega) (fun b hb => a2 b (by simp [hb]))) (h.le_way (by omega) q a k (by omega) hk (fun b hb => a2 b (by simp [hb])))
      have cut2 : ∀ p a q, m2 = p ++ a :: q → a < k ∧ ole (oadd (M k a) (M a j)) (M k j) := fun p a q e1 => by
        subst e1
        have ha : a < k := b2 a (by simp)
        refine ⟨ha, ?_⟩
        rw [hw, ← b3]
        have e2 : k :: ((p ++ a :: q) ++ [j]) = (k :: p) ++ a :: (q ++ [j]) := by simp
        rw [e2, way_split]
        exact oadd_mono (h.le_way (by omega) p k a hk (by omega) (fun b hb => b2 b (by simp [hb]))) (h.le_way (by omega) q a j (by omega) hj (fun b hb => b2 b (by simp [hb])))
      have d12 : ∀ a ∈ m1, a ∉ m2 := fun a h1 h2 => by
        obtain ⟨p, q, e1⟩ := List.append_of_mem h1
        obtain ⟨p', q', e2⟩ := List.append_of_mem h2
        obtain ⟨ha, c1⟩ := cut1 p a q e1
        obtain ⟨_, c2⟩ := cut2 p' a q' e2
        exact both a (by omega) c1 c2 (h.closed i j a hi hj ha)
      have i2 : i ∉ m2 := fun h2 => by
        obtain ⟨p', q', e2⟩ := List.append_of_mem h2
        obtain ⟨_, c2⟩ := cut2 p' i q' e2
        have c1 : ole (oadd (M i i) (M i k)) (M i k) := by rw [h.diag i hi, one_oadd]; exact ole_refl _
        exact both i hi c1 c2 (by rw [h.diag i hi, one_oadd]; exact ole_refl _)
      have j1 : j ∉ m1 := fun h1 => by
        obtain ⟨p, q, e1⟩ := List.append_of_mem h1
        obtain ⟨_, c1⟩ := cut1 p j q e1
        have c2 : ole (oadd (M k j) (M j j)) (M k j) := by rw [h.diag j hj, oadd_one]; exact ole_refl _
        exact both j hj c1 c2 (by rw [h.diag j hj, oadd_one]; exact ole_refl _)
      have k1 : k ∉ m1 := fun c => by have := a2 k c; omega
      have k2 : k ∉ m2 := fun c => by have := b2 k c; omega
      refine ⟨m1 ++ k :: m2, ?_, ?_, ?_⟩
      · simp only [List.nodup_cons, List.mem_append, List.nodup_append, List.mem_cons, List.not_mem_nil, or_false, List.append_assoc, List.cons_append, ne_eq] at a1 b1 ⊢
        grind
      · intro a ha
        simp only [List.mem_append, List.mem_cons] at ha
        rcases ha with ha | rfl | ha
        · have := a2 a ha; omega
        · omega
        · have := b2 a ha; omega
      · have e2 : i :: ((m1 ++ k :: m2) ++ [j]) = (i :: m1) ++ k :: (m2 ++ [j]) := by simp
        rw [e2, way_split, ← hv, hu, hw]
        have a3' : way E ((i :: m1) ++ [k]) = some u := a3
        rw [a3', b3]
  · intro i j a hi hj ha
    have hck : ∀ x y, x < n → y < n → ∀ b, b < k → ole (M x y) (oadd (M x b) (M b y)) := fun x y hx hy b hb => h.closed x y b hx hy hb
    by_cases hak : a = k
    · subst hak
      rw [thr_col hkk, thr_row hkk]
      exact thr_by a M i j
    · have hak' : a < k := by omega
      have han : a < n := by omega
      have c0 := h.closed i j a hi hj hak'
      have cik := h.closed i k a hi hk hak'
      have ckj := h.closed k j a hk hj hak'
      rcases thr_cases k M i a with e1 | ⟨e1, _⟩ <;> rcases thr_cases k M a j with e2 | ⟨e2, _⟩ <;> rw [e1, e2]
      · exact ole_trans (thr_le k M i j) c0
      · -- by a to k to j
        refine ole_trans (thr_by k M i j) ?_
        rw [← oadd_assoc]
        exact oadd_mono cik (ole_refl _)
      · refine ole_trans (thr_by k M i j) ?_
        rw [oadd_assoc]
        exact oadd_mono (ole_refl _) ckj
      · refine ole_trans (thr_by k M i j) ?_
        have s2 : oadd (oadd (M i k) (M k a)) (oadd (M a k) (M k j)) = oadd (M i k) (oadd (oadd (M k a) (M a k)) (M k j)) := by simp only [oadd_assoc]
        rw [s2]
        have s3 : ole (oadd (M i k) (oadd (some 1) (M k j))) (oadd (M i k) (oadd (oadd (M k a) (M a k)) (M k j))) := oadd_mono (ole_refl _) (oadd_mono (by rw [oadd_comm]; exact cyc a han) (ole_refl _))
        rwa [one_oadd] at s3

/-- one place of a matrix of n clocks, by the clock k: in place. -/
def upd (n k : Nat) (L : List Int) (p : Nat) : List Int :=
  if (Bd.add (L[p / n * n + k]?.getD 0) (L[k * n + p % n]?.getD 0)).1 < L[p]?.getD 0 then L.set p (Bd.add (L[p / n * n + k]?.getD 0) (L[k * n + p % n]?.getD 0)).1 else L
def thrL (n k : Nat) (L : List Int) : List Int := (List.range (n * n)).foldl (upd n k) L
theorem upd_length (n k : Nat) (L : List Int) (p : Nat) : (upd n k L p).length = L.length := by unfold upd; split <;> simp
theorem foldl_upd_length (n k : Nat) (ps : List Nat) (L : List Int) : (ps.foldl (upd n k) L).length = L.length := by
  induction ps generalizing L with
  | nil => rfl
  | cons p ps ih => rw [List.foldl_cons, ih, upd_length]
/-- is no clock's own bound below 0? -/
def diagOk (n : Nat) (L : List Int) : Bool := (List.range n).all fun i => decide (1 ≤ L[i * n + i]?.getD 0)

/-- may a bound be in a matrix? -/
def mayC (b : Int) : Bool := b == 9223372036854775807 || (decide (-288230376151711744 ≤ b / 2) && decide (b / 2 ≤ 288230376151711744))
/-- Check's error of a matrix of n clocks, with the bounds L. -/
def chk (n : Int) (L : List Int) : Int := if 1 ≤ n ∧ n ≤ 4 ∧ (L.length : Int) = n * n ∧ L.any (fun b => !(mayC b)) = false then 0 else 8


/-- the diagonal, clock by clock: each own bound lets 0 be, and is at most 0. -/
def diag1 (n : Nat) (L : List Int) (i : Nat) : Option (List Int) := if L[i * n + i]?.getD 0 < 1 then none else some (L.set (i * n + i) 1)
def stage (n : Nat) (L : List Int) (k : Nat) : Option (List Int) := if diagOk n (thrL n k L) then some (thrL n k L) else none
def closeL (n : Nat) (L : List Int) : Option (List Int) := ((List.range n).foldlM (diag1 n) L).bind fun L1 => (List.range n).foldlM (stage n) L1
/-- Close: the clocks, the bounds, and the error. -/
def close (n : Int) (L : List Int) : Int × List Int × Int :=
  if chk n L = 0 then (match closeL n.toNat L with | some L' => (n, L', 0) | none => (0, [], 6)) else (0, [], 8)
theorem diag1_len {n : Nat} {L L' : List Int} {i : Nat} (h : diag1 n L i = some L') : L'.length = L.length := by
  unfold diag1 at h; split at h
  · cases h
  · injection h with h; subst h; simp
theorem stage_len {n : Nat} {L L' : List Int} {k : Nat} (h : stage n L k = some L') : L'.length = L.length := by
  unfold stage at h; split at h
  · injection h with h; subst h; rw [thrL, foldl_upd_length]
  · cases h
theorem foldlM_len {f : List Int → Nat → Option (List Int)} (hf : ∀ {L L' i}, f L i = some L' → L'.length = L.length) : ∀ {l : List Nat} {L L' : List Int}, l.foldlM f L = some L' → L'.length = L.length
  | [], L, L', h => by simp at h; rw [h]
  | i :: l, L, L', h => by
    simp only [List.foldlM_cons] at h
    cases h1 : f L i with
    | none => rw [h1] at h; cases h
    | some L1 => rw [h1] at h; exact (foldlM_len hf h).trans (hf h1)
theorem chk_iff {n : Int} {L : List Int} : chk n L = 0 ↔ (1 ≤ n ∧ n ≤ 4 ∧ (L.length : Int) = n * n ∧ L.any (fun b => !(mayC b)) = false) := by
  unfold chk; split <;> simp_all
theorem chk_cases (n : Int) (L : List Int) : chk n L = 0 ∨ chk n L = 8 := by unfold chk; split <;> simp
theorem closeL_len {n : Nat} {L L' : List Int} (h : closeL n L = some L') : L'.length = L.length := by
  unfold closeL at h
  cases h1 : (List.range n).foldlM (diag1 n) L with
  | none => rw [h1] at h; cases h
  | some L1 => rw [h1] at h; exact (foldlM_len stage_len h).trans (foldlM_len diag1_len h1)
theorem foldlM_none {f : List Int → Nat → Option (List Int)} {L : List Int} {i N : Nat} (h : (List.range (i + 1)).foldlM f L = none) (hi : i < N) : (List.range N).foldlM f L = none := by
  obtain ⟨d, rfl⟩ : ∃ d, N = i + 1 + d := ⟨N - (i + 1), by omega⟩
  rw [List.range_add, List.foldlM_append, h]; rfl
theorem close_cases {n : Int} {L : List Int} (h : chk n L = 0) : (closeL n.toNat L = none ∧ close n L = (0, [], 6)) ∨ ∃ c, closeL n.toNat L = some c ∧ close n L = (n, c, 0) ∧ c.length = L.length := by
  cases h1 : closeL n.toNat L with
  | none => exact .inl ⟨rfl, by rw [close, if_pos h, h1]⟩
  | some c => exact .inr ⟨c, rfl, by rw [close, if_pos h, h1], closeL_len h1⟩
end Go.Proofs.YtdecibfnhceloaaGreat.Dbm
