/-
  Plain laws of closing a matrix that is a list: each stage on the list is a stage of the theory, and what is answered is closed. No program is in sight.
-/
import Derived.Test.YthajkhbeehiepaaPlainDbm
namespace Go.Proofs.Ythajkhbeehiepaa.Dbm
set_option linter.unusedVariables false

def NO : Int := 9223372036854775807
def ob (b : Int) : OB := if b = NO then none else some b
def mx (N : Nat) (L : List Int) : Mx := fun i j => ob (L[i * N + j]?.getD 0)
/-- a bound's number is at most m. -/
def lim (m : Int) (b : Int) : Prop := b = NO ∨ (-m ≤ b / 2 ∧ b / 2 ≤ m)

theorem lim_mono {m m' b : Int} (h : lim m b) (hm : m ≤ m') : lim m' b := by
  rcases h with h | h
  · exact .inl h
  · exact .inr (by omega)
theorem add_eq {u v : Int} (hu : lim 1152921504606846976 u) (hv : lim 1152921504606846976 v) : ob (Bd.add u v).1 = oadd (ob u) (ob v) ∧ lim 2305843009213693952 (Bd.add u v).1 := by
  have mu : Bd.may u = true := by
    rcases hu with rfl | h
    · rfl
    · exact Bd.may_of (Num.okB_iff.2 (by omega))
  have mv : Bd.may v = true := by
    rcases hv with rfl | h
    · rfl
    · exact Bd.may_of (Num.okB_iff.2 (by omega))
  by_cases nu : u = NO
  · have := Bd.add_none mu mv (.inl nu)
    rw [this]; subst nu; exact ⟨by simp [ob, NO, oadd], .inl rfl⟩
  · by_cases nv : v = NO
    · have := Bd.add_none mu mv (.inr nv)
      rw [this]; subst nv; exact ⟨by rw [show ob NO = none from rfl, oadd_none]; rfl, .inl rfl⟩
    · have hu' := hu.resolve_left nu
      have hv' := hv.resolve_left nv
      have := Bd.add_yes mu mv nu nv
      rw [this, Bd.made_yes (Num.okB_iff.2 (by omega))]
      have e1 : Bd.mk (u / 2 + v / 2) (Bd.st u || Bd.st v) = bsum u v := by
        unfold Bd.mk Bd.st bsum
        rcases parity u with h1 | h1 <;> rcases parity v with h2 | h2 <;> simp [h1, h2]
      simp only [e1]
      have e2 : bsum u v ≠ NO := by
        unfold bsum NO
        rcases parity u with h1 | h1 <;> rcases parity v with h2 | h2 <;> simp only [h1, h2] <;> omega
      refine ⟨by simp [ob, nu, nv, e2, oadd], .inr ?_⟩
      unfold bsum
      rcases parity u with h1 | h1 <;> rcases parity v with h2 | h2 <;> simp only [h1, h2] <;> omega
theorem lt_iff {m : Int} (hm : m ≤ 2305843009213693952) {u v : Int} (hu : lim m u) (hv : lim m v) : u < v ↔ olt (ob u) (ob v) := by
  unfold ob olt
  rcases hu with rfl | h1 <;> rcases hv with rfl | h2
  · simp
  · have : v ≠ NO := by unfold NO; omega
    simp [this]; unfold NO; omega
  · have : u ≠ NO := by unfold NO; omega
    simp [this]; unfold NO; omega
  · have a1 : u ≠ NO := by unfold NO; omega
    have a2 : v ≠ NO := by unfold NO; omega
    simp [a1, a2]
theorem ob_inj {u v : Int} (h : ob u = ob v) : u = v := by
  unfold ob at h
  split at h <;> split at h
  · omega
  · cases h
  · cases h
  · injection h

/-! ### numbers of places -/
theorem place_lt {N i j : Nat} (hi : i < N) (hj : j < N) : i * N + j < N * N := by
  calc _ < i * N + N := by omega
    _ = (i + 1) * N := by rw [Nat.succ_mul]
    _ ≤ N * N := Nat.mul_le_mul_right _ hi
theorem place_div {N i j : Nat} (hj : j < N) : (i * N + j) / N = i := by
  rw [Nat.add_comm, Nat.add_mul_div_right _ _ (by omega), Nat.div_eq_of_lt hj]; omega
theorem place_mod {N i j : Nat} (hj : j < N) : (i * N + j) % N = j := by
  rw [Nat.add_comm, Nat.add_mul_mod_self_right, Nat.mod_eq_of_lt hj]
theorem place_inj {N i j i' j' : Nat} (hj : j < N) (hj' : j' < N) (h : i * N + j = i' * N + j') : i = i' ∧ j = j' := by
  have h1 := congrArg (· / N) h
  have h2 := congrArg (· % N) h
  simp only [place_div hj, place_div hj', place_mod hj, place_mod hj'] at h1 h2
  exact ⟨h1, h2⟩
theorem div_lt {N p : Nat} (h : p < N * N) : p / N < N := Nat.div_lt_of_lt_mul h
theorem mod_lt {N p : Nat} (h : p < N * N) : p % N < N := Nat.mod_lt _ (by
  rcases Nat.eq_zero_or_pos N with rfl | h0
  · simp at h
  · exact h0)
theorem div_mod {N p : Nat} : p / N * N + p % N = p := Nat.div_add_mod' p N

/-! ### a stage -/
/-- the values of a stage, place by place. -/
theorem upd_get {N k : Nat} {L : List Int} {p : Nat} (hp : p < L.length) (q : Nat) : (upd N k L p)[q]?.getD 0 = if q = p then (if (Bd.add (L[p / N * N + k]?.getD 0) (L[k * N + p % N]?.getD 0)).1 < L[p]?.getD 0 then (Bd.add (L[p / N * N + k]?.getD 0) (L[k * N + p % N]?.getD 0)).1 else L[p]?.getD 0) else L[q]?.getD 0 := by
  unfold upd
  split
  · rw [List.getElem?_set]
    by_cases h : p = q
    · subst h; simp [hp]
    · rw [if_neg h, if_neg (fun e => h e.symm)]
  · by_cases h : q = p
    · subst h; simp
    · simp [h]
theorem stage_eq {N k : Nat} {L : List Int} (hk : k < N) (hL : L.length = N * N) (hkk : L[k * N + k]?.getD 0 = 1) (hlim : ∀ q, q < N * N → lim 1152921504606846976 (L[q]?.getD 0)) :
    ∀ n, n ≤ N * N → ∀ q, q < N * N → ob (((List.range n).foldl (upd N k) L)[q]?.getD 0) = (if q < n then thr k (mx N L) (q / N) (q % N) else ob (L[q]?.getD 0)) := by
  intro n
  induction n with
  | zero => intro _ q hq; simp
  | succ n ih =>
    intro hn q hq
    have ihn := ih (by omega)
    rw [List.range_succ, List.foldl_append, List.foldl_cons, List.foldl_nil]
    generalize hM : (List.range n).foldl (upd N k) L = M at *
    have hMl : M.length = N * N := by rw [← hM, foldl_upd_length, hL]
    have hn' : n < N * N := by omega
    have di := div_lt hn'
    have mi := mod_lt hn'
    -- the row and the column of k stand as they stood
    have same : ∀ i j, i < N → j < N → (i = k ∨ j = k) → M[i * N + j]?.getD 0 = L[i * N + j]?.getD 0 := by
      intro i j hi hj hij
      have h1 := ihn (i * N + j) (place_lt hi hj)
      rw [place_div hj, place_mod hj] at h1
      have hd : mx N L k k = some 1 := by unfold mx ob; rw [hkk]; rfl
      have h2 : ob (M[i * N + j]?.getD 0) = ob (L[i * N + j]?.getD 0) := by
        rw [h1]; split
        · rcases hij with rfl | rfl
          · exact thr_row hd j
          · exact thr_col hd i
        · rfl
      exact ob_inj h2
    rw [upd_get (by omega)]
    by_cases hqn : q = n
    · subst hqn
      rw [if_pos rfl, show (if q < q + 1 then thr k (mx N L) (q / N) (q % N) else ob (L[q]?.getD 0)) = thr k (mx N L) (q / N) (q % N) from if_pos (by omega)]
      have e1 := same (q / N) k di hk (.inr rfl)
      have e2 := same k (q % N) hk mi (.inl rfl)
      have e3 : M[q]?.getD 0 = L[q]?.getD 0 := ob_inj (by rw [ihn q hq, if_neg (by omega)])
      rw [e1, e2, e3]
      obtain ⟨a1, a2⟩ := add_eq (hlim _ (place_lt di hk)) (hlim _ (place_lt hk mi))
      have e4 : mx N L (q / N) (q % N) = ob (L[q]?.getD 0) := by unfold mx; rw [div_mod]
      have hlt := lt_iff (m := 2305843009213693952) (by omega) a2 (lim_mono (hlim q hq) (by omega))
      rw [a1] at hlt
      have e5 : mx N L (q / N) k = ob (L[q / N * N + k]?.getD 0) := rfl
      have e6 : mx N L k (q % N) = ob (L[k * N + q % N]?.getD 0) := rfl
      unfold thr
      rw [e4, e5, e6]
      by_cases hc : (Bd.add (L[q / N * N + k]?.getD 0) (L[k * N + q % N]?.getD 0)).1 < L[q]?.getD 0
      · rw [if_pos hc, if_pos (olt'_iff.2 (hlt.1 hc)), a1]
      · rw [if_neg hc, if_neg (fun h => hc (hlt.2 (olt'_iff.1 h)))]
    · rw [if_neg hqn, ihn q hq]
      by_cases h : q < n
      · rw [if_pos h, if_pos (by omega)]
      · rw [if_neg h, if_neg (by omega)]
theorem thrL_mx {N k : Nat} {L : List Int} (hk : k < N) (hL : L.length = N * N) (hkk : L[k * N + k]?.getD 0 = 1) (hlim : ∀ q, q < N * N → lim 1152921504606846976 (L[q]?.getD 0)) {i j : Nat} (hi : i < N) (hj : j < N) : mx N (thrL N k L) i j = thr k (mx N L) i j := by
  have := stage_eq hk hL hkk hlim (N * N) (Nat.le_refl _) (i * N + j) (place_lt hi hj)
  rw [if_pos (place_lt hi hj), place_div hj, place_mod hj] at this
  exact this

/-! ### how great bounds become -/
theorem nodup_len : ∀ (n : Nat) (l : List Nat), l.Nodup → (∀ a ∈ l, a < n) → l.length ≤ n := by
  intro n
  induction n with
  | zero => intro l _ h; cases l with
    | nil => simp
    | cons a l => exact absurd (h a (by simp)) (by omega)
  | succ n ih =>
    intro l hl h
    by_cases hn : n ∈ l
    · have h1 := List.length_erase_of_mem hn
      have h2 := ih (l.erase n) (hl.erase n) (fun a ha => by
        have h3 := (hl.mem_erase_iff.1 ha)
        have := h a h3.2
        omega)
      have := List.length_pos_of_mem hn
      omega
    · have := ih l hl (fun a ha => by
        have h1 := h a ha
        rcases Nat.lt_or_ge a n with h2 | h2
        · exact h2
        · exact absurd (by have : a = n := by omega
                           subst this; exact ha) hn)
      omega
theorem bsum_half (u v : Int) : bsum u v / 2 = u / 2 + v / 2 := by
  unfold bsum
  rcases parity u with h1 | h1 <;> rcases parity v with h2 | h2 <;> simp only [h1, h2] <;> omega
theorem way_lim {n : Nat} {E : Mx} {m : Int} (hm : 0 ≤ m) (hE : ∀ i j v, i < n → j < n → E i j = some v → -m ≤ v / 2 ∧ v / 2 ≤ m) : ∀ (p : List Nat) (v : Int), (∀ a ∈ p, a < n) → way E p = some v → -(m * (p.length - 1 : Nat)) ≤ v / 2 ∧ v / 2 ≤ m * (p.length - 1 : Nat)
  | [], v, _, h => by simp only [way] at h; injection h with h; subst h; simp
  | [a], v, _, h => by simp only [way] at h; injection h with h; subst h; simp
  | a :: b :: t, v, hp, h => by
    simp only [way] at h
    cases hu : E a b with
    | none => rw [hu] at h; cases h
    | some u =>
      cases hx : way E (b :: t) with
      | none => rw [hu, hx] at h; cases h
      | some x =>
        rw [hu, hx] at h
        injection h with h
        subst h
        have h1 := hE a b u (hp a (by simp)) (hp b (by simp)) hu
        have h2 := way_lim hm hE (b :: t) x (fun c hc => hp c (List.mem_cons_of_mem a hc)) hx
        rw [bsum_half]
        simp only [List.length_cons, Nat.add_sub_cancel] at h2 ⊢
        have e1 : m * ((t.length + 1 : Nat) : Int) = m * (t.length : Int) + m := by rw [Int.natCast_succ, Int.mul_add, Int.mul_one]
        omega
theorem Inv.lim {n k : Nat} {E M : Mx} (h : Inv n k E M) (hk : k ≤ n) (hn : n ≤ 4) (hE : ∀ i j v, i < n → j < n → E i j = some v → -288230376151711744 ≤ v / 2 ∧ v / 2 ≤ 288230376151711744) {i j : Nat} (hi : i < n) (hj : j < n) {v : Int} (hv : M i j = some v) : -864691128455135232 ≤ v / 2 ∧ v / 2 ≤ 864691128455135232 := by
  by_cases hij : i = j
  · subst hij; rw [h.diag i hi] at hv; injection hv with hv; subst hv; decide
  · obtain ⟨mid, h1, h2, h3⟩ := h.wit i j hi hj hij v hv
    have hlt : ∀ a ∈ i :: (mid ++ [j]), a < n := by
      intro a ha
      simp only [List.mem_cons, List.mem_append, List.not_mem_nil, or_false] at ha
      rcases ha with rfl | ha | rfl
      · exact hi
      · have := h2 a ha; omega
      · exact hj
    have hl := nodup_len n _ h1 hlt
    have hw := way_lim (by omega) hE _ v hlt h3
    have hl' : ((i :: (mid ++ [j])).length - 1 : Nat) ≤ 3 := by omega
    generalize ((i :: (mid ++ [j])).length - 1 : Nat) = x at hw hl'
    omega

/-! ### the whole -/
theorem mayC_lim {b : Int} (h : mayC b = true) : lim 288230376151711744 b := by
  unfold mayC at h
  simp only [Bool.or_eq_true, beq_iff_eq, Bool.and_eq_true, decide_eq_true_eq] at h
  exact h
theorem chk_lim {n : Int} {L : List Int} (h : chk n L = 0) (q : Nat) (hq : q < L.length) : lim 288230376151711744 (L[q]?.getD 0) := by
  obtain ⟨_, _, _, h4⟩ := chk_iff.1 h
  rw [List.any_eq_false] at h4
  have := h4 L[q] (List.getElem_mem hq)
  rw [List.getElem?_eq_getElem hq]
  exact mayC_lim (by simpa using this)
theorem diag_spec {N : Nat} {L : List Int} (hL : L.length = N * N) : ∀ (n : Nat) (Ln : List Int), n ≤ N → (List.range n).foldlM (diag1 N) L = some Ln → Ln.length = N * N ∧ (∀ i, i < n → 1 ≤ L[i * N + i]?.getD 0) ∧ ∀ i j, i < N → j < N → Ln[i * N + j]?.getD 0 = if i = j ∧ i < n then 1 else L[i * N + j]?.getD 0 := by
  intro n
  induction n with
  | zero => intro Ln _ h; simp at h; subst h; exact ⟨hL, fun i hi => by omega, fun i j _ _ => by simp⟩
  | succ n ih =>
    intro Ln hn h
    rw [List.range_succ, List.foldlM_append] at h
    cases h1 : (List.range n).foldlM (diag1 N) L with
    | none => rw [h1] at h; cases h
    | some M =>
      obtain ⟨a1, a2, a3⟩ := ih M (by omega) h1
      rw [h1] at h
      have h2 : diag1 N M n = some Ln := by simpa using h
      unfold diag1 at h2
      have e0 := a3 n n (by omega) (by omega)
      rw [if_neg (by omega)] at e0
      split at h2
      · cases h2
      · rename_i hc
        injection h2 with h2; subst h2
        rw [e0] at hc
        refine ⟨by simp [a1], fun i hi => ?_, fun i j hi hj => ?_⟩
        · by_cases e : i = n
          · subst e; omega
          · exact a2 i (by omega)
        · rw [List.getElem?_set]
          by_cases e : n * N + n = i * N + j
          · obtain ⟨rfl, rfl⟩ := place_inj (by omega) hj e
            rw [if_pos rfl, if_pos (by rw [a1]; exact place_lt (by omega) (by omega)), if_pos ⟨rfl, by omega⟩]; rfl
          · rw [if_neg e, a3 i j hi hj]
            by_cases e2 : i = j ∧ i < n
            · rw [if_pos e2, if_pos ⟨e2.1, by omega⟩]
            · rw [if_neg e2, if_neg]
              rintro ⟨rfl, h3⟩
              have : i = n := by
                rcases Nat.lt_or_ge i n with h4 | h4
                · exact absurd ⟨rfl, h4⟩ e2
                · omega
              subst this
              exact e rfl
/-- a closed matrix. -/
structure Clo (N : Nat) (C : List Int) : Prop where
  len : C.length = N * N
  diag : ∀ i, i < N → C[i * N + i]?.getD 0 = 1
  tri : ∀ i j a, i < N → j < N → a < N → ole (mx N C i j) (oadd (mx N C i a) (mx N C a j))
  lim : ∀ i j, i < N → j < N → lim 864691128455135232 (C[i * N + j]?.getD 0)
theorem mx_some {N : Nat} {L : List Int} {i j : Nat} {v : Int} (h : mx N L i j = some v) : L[i * N + j]?.getD 0 = v ∧ v ≠ NO := by
  unfold mx ob at h
  split at h
  · cases h
  · rename_i hn
    injection h with h
    exact ⟨h, h ▸ hn⟩
theorem lim_q {N : Nat} {L : List Int} {m : Int} (h : ∀ i j, i < N → j < N → lim m (L[i * N + j]?.getD 0)) : ∀ q, q < N * N → lim m (L[q]?.getD 0) := fun q hq => by
  have := h (q / N) (q % N) (div_lt hq) (mod_lt hq)
  rwa [div_mod] at this
/-- how far bounds lie under way. -/
theorem inv_lim {N n : Nat} {E : Mx} {M : List Int} (b2 : Inv N n E (mx N M)) (hn : n ≤ N) (hN4 : N ≤ 4) (hE : ∀ i j v, i < N → j < N → E i j = some v → -288230376151711744 ≤ v / 2 ∧ v / 2 ≤ 288230376151711744) : ∀ q, q < N * N → lim 864691128455135232 (M[q]?.getD 0) :=
  lim_q (fun i j hi hj => by
    cases hv : mx N M i j with
    | none =>
      unfold mx ob at hv
      split at hv
      · rename_i e; exact .inl e
      · cases hv
    | some v =>
      have h4 := b2.lim hn hN4 hE hi hj hv
      obtain ⟨e1, e2⟩ := mx_some hv
      rw [e1]; exact .inr h4)
/-- so many clocks gone through. -/
theorem fold_inv {N : Nat} {L1 : List Int} (hN4 : N ≤ 4) (a1 : L1.length = N * N) (hd1 : ∀ i, i < N → mx N L1 i i = some 1) (hE : ∀ i j v, i < N → j < N → mx N L1 i j = some v → -288230376151711744 ≤ v / 2 ∧ v / 2 ≤ 288230376151711744) :
    ∀ (n : Nat) (Cn : List Int), n ≤ N → (List.range n).foldlM (stage N) L1 = some Cn → Cn.length = N * N ∧ Inv N n (mx N L1) (mx N Cn) := by
    intro n
    induction n with
    | zero => intro Cn _ hc; simp at hc; subst hc; exact ⟨a1, Inv.start hd1⟩
    | succ n ih =>
      intro Cn hn hc
      rw [List.range_succ, List.foldlM_append] at hc
      cases h2 : (List.range n).foldlM (stage N) L1 with
      | none => rw [h2] at hc; cases hc
      | some M =>
        obtain ⟨b1, b2⟩ := ih M (by omega) h2
        rw [h2] at hc
        have h3 : stage N M n = some Cn := by simpa using hc
        unfold stage at h3
        split at h3
        case isFalse => cases h3
        rename_i hdok
        injection h3 with h3; subst h3
        have hlM := inv_lim b2 (by omega) hN4 hE
        have hMd : M[n * N + n]?.getD 0 = 1 := (mx_some (b2.diag n (by omega))).1
        have hthr : ∀ i j, i < N → j < N → mx N (thrL N n M) i j = thr n (mx N M) i j := fun i j hi hj => thrL_mx (by omega) b1 hMd (fun q hq => lim_mono (hlM q hq) (by omega)) hi hj
        have hd : ∀ i, i < N → thr n (mx N M) i i = some 1 := fun i hi => by
          rw [← hthr i i hi hi]
          have h5 : 1 ≤ (thrL N n M)[i * N + i]?.getD 0 := by
            rw [diagOk, List.all_eq_true] at hdok
            simpa using hdok i (List.mem_range.2 hi)
          have h6 := thr_le n (mx N M) i i
          rw [← hthr i i hi hi, b2.diag i hi] at h6
          unfold mx ob at h6 ⊢
          split at h6
          · exact h6.elim
          · rename_i hne
            rw [if_neg hne]
            have h7 : (thrL N n M)[i * N + i]?.getD 0 ≤ 1 := h6
            congr 1; omega
        have hstep := b2.step (by omega) hd
        refine ⟨by rw [thrL, foldl_upd_length, b1], ⟨fun i hi => by rw [hthr i i hi hi]; exact hd i hi, fun i j hi hj => by rw [hthr i j hi hj]; exact hstep.low i j hi hj, fun i j hi hj hne v hv => hstep.wit i j hi hj hne v (by rw [← hthr i j hi hj]; exact hv), fun i j a hi hj ha => by
          rw [hthr i j hi hj, hthr i a hi (by omega), hthr a j (by omega) hj]; exact hstep.closed i j a hi hj ha⟩⟩
/-- what closing answers: the theory's invariant. -/
theorem close_inv {N : Nat} {L C : List Int} (h0 : chk N L = 0) (h : closeL N L = some C) : ∃ L1, (∀ i, i < N → 1 ≤ L[i * N + i]?.getD 0) ∧ (∀ i j, i < N → j < N → L1[i * N + j]?.getD 0 = if i = j then 1 else L[i * N + j]?.getD 0) ∧ Inv N N (mx N L1) (mx N C) ∧ C.length = N * N ∧
    ∀ i j v, i < N → j < N → mx N L1 i j = some v → -288230376151711744 ≤ v / 2 ∧ v / 2 ≤ 288230376151711744 := by
  obtain ⟨c1, c2, c3, c4⟩ := chk_iff.1 h0
  have hN4 : N ≤ 4 := by omega
  have hL : L.length = N * N := by exact_mod_cast c3
  unfold closeL at h
  cases h1 : (List.range N).foldlM (diag1 N) L with
  | none => rw [h1] at h; cases h
  | some L1 =>
    rw [h1, Option.bind_some] at h
    obtain ⟨a1, a2, a3⟩ := diag_spec hL N L1 (Nat.le_refl _) h1
    have a3' : ∀ i j, i < N → j < N → L1[i * N + j]?.getD 0 = if i = j then 1 else L[i * N + j]?.getD 0 := fun i j hi hj => by
      rw [a3 i j hi hj]
      by_cases e : i = j
      · rw [if_pos ⟨e, hi⟩, if_pos e]
      · rw [if_neg (fun h => e h.1), if_neg e]
    have hd1 : ∀ i, i < N → mx N L1 i i = some 1 := fun i hi => by unfold mx; rw [a3' i i hi hi, if_pos rfl]; rfl
    have hE : ∀ i j v, i < N → j < N → mx N L1 i j = some v → -288230376151711744 ≤ v / 2 ∧ v / 2 ≤ 288230376151711744 := fun i j v hi hj hv => by
      obtain ⟨e1, e2⟩ := mx_some hv
      rw [a3' i j hi hj] at e1
      split at e1
      · subst e1; decide
      · have := chk_lim h0 (i * N + j) (by rw [hL]; exact place_lt hi hj)
        rw [e1] at this
        exact this.resolve_left e2
    obtain ⟨k1, k2⟩ := fold_inv hN4 a1 hd1 hE N C (Nat.le_refl _) h
    exact ⟨L1, a2, a3', k2, k1, hE⟩
theorem close_clo {N : Nat} {L C : List Int} (h0 : chk N L = 0) (h : closeL N L = some C) : Clo N C := by
  obtain ⟨L1, a2, a3, inv, hl, hE⟩ := close_inv h0 h
  obtain ⟨c1, c2, c3, c4⟩ := chk_iff.1 h0
  refine ⟨hl, fun i hi => (mx_some (inv.diag i hi)).1, fun i j a hi hj ha => inv.closed i j a hi hj ha, fun i j hi hj => ?_⟩
  cases hv : mx N C i j with
  | none =>
    unfold mx ob at hv
    split at hv
    · rename_i e; exact .inl e
    · cases hv
  | some v =>
    obtain ⟨e1, e2⟩ := mx_some hv
    rw [e1]; exact .inr (inv.lim (Nat.le_refl _) (by omega) hE hi hj hv)
/-- a closed one is its own. -/
theorem Clo.close {N : Nat} {C : List Int} (h : Clo N C) : closeL N C = some C := by
  have hq := lim_q h.lim
  have st : ∀ k, k < N → stage N C k = some C := fun k hk => by
    have e : thrL N k C = C := by
      apply List.ext_getElem?
      intro q
      rcases Nat.lt_or_ge q (N * N) with hq1 | hq1
      · have h1 := stage_eq hk h.len (h.diag k hk) (fun q hq' => lim_mono (hq q hq') (by omega)) (N * N) (Nat.le_refl _) q hq1
        rw [if_pos hq1] at h1
        have h2 : thr k (mx N C) (q / N) (q % N) = mx N C (q / N) (q % N) := by
          rcases thr_cases k (mx N C) (q / N) (q % N) with e | ⟨_, e⟩
          · exact e
          · exact (olt_irrefl e (h.tri _ _ k (div_lt hq1) (mod_lt hq1) hk)).elim
        have h3 : mx N C (q / N) (q % N) = ob (C[q]?.getD 0) := by unfold mx; rw [div_mod]
        rw [h2, h3] at h1
        have h4 := ob_inj h1
        have l1 : q < (thrL N k C).length := by rw [thrL, foldl_upd_length, h.len]; exact hq1
        have l2 : q < C.length := by rw [h.len]; exact hq1
        rw [List.getElem?_eq_getElem l1, List.getElem?_eq_getElem l2]
        change (thrL N k C)[q]?.getD 0 = _ at h4
        rw [List.getElem?_eq_getElem l1, List.getElem?_eq_getElem l2] at h4
        exact congrArg some h4
      · rw [List.getElem?_eq_none (by rw [thrL, foldl_upd_length, h.len]; exact hq1), List.getElem?_eq_none (by rw [h.len]; exact hq1)]
    unfold stage
    rw [e, if_pos]
    rw [diagOk, List.all_eq_true]
    intro i hi
    rw [h.diag i (List.mem_range.1 hi)]; decide
  have dg : ∀ i, i < N → diag1 N C i = some C := fun i hi => by
    unfold diag1
    rw [h.diag i hi, if_neg (by omega)]
    congr 1
    apply List.ext_getElem?
    intro q
    rw [List.getElem?_set]
    by_cases e : i * N + i = q
    · subst e
      have l2 : i * N + i < C.length := by rw [h.len]; exact place_lt hi hi
      have h1 := h.diag i hi
      rw [List.getElem?_eq_getElem l2] at h1
      rw [if_pos rfl, if_pos l2, List.getElem?_eq_getElem l2]
      exact congrArg some h1.symm
    · rw [if_neg e]
  have all : ∀ (f : List Int → Nat → Option (List Int)) (n : Nat), (∀ i, i < n → f C i = some C) → (List.range n).foldlM f C = some C := by
    intro f n
    induction n with
    | zero => intro _; rfl
    | succ n ih =>
      intro hf
      rw [List.range_succ, List.foldlM_append, ih (fun i hi => hf i (by omega))]
      simp [hf n (by omega)]
  unfold closeL
  rw [all _ N dg, Option.bind_some, all _ N st]
end Go.Proofs.Ythajkhbeehiepaa.Dbm
