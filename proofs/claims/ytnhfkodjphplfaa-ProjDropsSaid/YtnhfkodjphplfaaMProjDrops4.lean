/-
  Merged texts of this seat (each with its own head below).
-/
import Derived.Test.YtnhfkodjphplfaaMProjDrops3
import Derived.Sort.OwnSortedInts
import Derived.Shelf.Bits.Mul64
import Derived.Shelf.Spec.BitsCarry
import Derived.Ground.NamesProg
import Derived.Test.YtnhfkodjphplfaaProg
/-
  Plain laws of closing a matrix that is a list: each stage on the list is a stage of the theory, and what is answered is closed. No program is in sight.
-/
namespace Go.Proofs.Ytnhfkodjphplfaa.Dbm
set_option linter.unusedVariables false

def NO : Int := 9223372036854775807
def ob (b : Int) : OB := if b = NO then none else some b
def mx (N : Nat) (L : List Int) : Mx := fun i j => ob (L[i * N + j]?.getD 0)
/-- a bound's number is at most m. -/
def lim (m : Int) (b : Int) : Prop := b = NO ∨ (-m ≤ b / 2 ∧ b / 2 ≤ m)

theorem lim_mono {m m' b : Int} (h : lim m b) (hm : m ≤ m') : lim m' b := by
  rcases h with h | h
  · exact .inl h
  · exact .inr (by omega)
theorem add_eq {u v : Int} (hu : lim 1152921504606846976 u) (hv : lim 1152921504606846976 v) : ob (Bd.add u v).1 = oadd (ob u) (ob v) ∧ lim 2305843009213693952 (Bd.add u v).1 := by
  have mu : Bd.may u = true := by
    rcases hu with rfl | h
    · rfl
    · exact Bd.may_of (Num.okB_iff.2 (by omega))
  have mv : Bd.may v = true := by
    rcases hv with rfl | h
    · rfl
    · exact Bd.may_of (Num.okB_iff.2 (by omega))
  by_cases nu : u = NO
  · have := Bd.add_none mu mv (.inl nu)
    rw [this]; subst nu; exact ⟨by simp [ob, NO, oadd], .inl rfl⟩
  · by_cases nv : v = NO
    · have := Bd.add_none mu mv (.inr nv)
      rw [this]; subst nv; exact ⟨by rw [show ob NO = none from rfl, oadd_none]; rfl, .inl rfl⟩
    · have hu' := hu.resolve_left nu
      have hv' := hv.resolve_left nv
      have := Bd.add_yes mu mv nu nv
      rw [this, Bd.made_yes (Num.okB_iff.2 (by omega))]
      have e1 : Bd.mk (u / 2 + v / 2) (Bd.st u || Bd.st v) = bsum u v := by
        unfold Bd.mk Bd.st bsum
        rcases parity u with h1 | h1 <;> rcases parity v with h2 | h2 <;> simp [h1, h2]
      simp only [e1]
      have e2 : bsum u v ≠ NO := by
        unfold bsum NO
        rcases parity u with h1 | h1 <;> rcases parity v with h2 | h2 <;> simp only [h1, h2] <;> omega
      refine ⟨by simp [ob, nu, nv, e2, oadd], .inr ?_⟩
      unfold bsum
      rcases parity u with h1 | h1 <;> rcases parity v with h2 | h2 <;> simp only [h1, h2] <;> omega
theorem lt_iff {m : Int} (hm : m ≤ 2305843009213693952) {u v : Int} (hu : lim m u) (hv : lim m v) : u < v ↔ olt (ob u) (ob v) := by
  unfold ob olt
  rcases hu with rfl | h1 <;> rcases hv with rfl | h2
  · simp
  · have : v ≠ NO := by unfold NO; omega
    simp [this]; unfold NO; omega
  · have : u ≠ NO := by unfold NO; omega
    simp [this]; unfold NO; omega
  · have a1 : u ≠ NO := by unfold NO; omega
    have a2 : v ≠ NO := by unfold NO; omega
    simp [a1, a2]
theorem ob_inj {u v : Int} (h : ob u = ob v) : u = v := by
  unfold ob at h
  split at h <;> split at h
  · omega
  · cases h
  · cases h
  · injection h

/-! ### numbers of places -/
theorem place_lt {N i j : Nat} (hi : i < N) (hj : j < N) : i * N + j < N * N := by
  calc _ < i * N + N := by omega
    _ = (i + 1) * N := by rw [Nat.succ_mul]
    _ ≤ N * N := Nat.mul_le_mul_right _ hi
theorem place_div {N i j : Nat} (hj : j < N) : (i * N + j) / N = i := by
  rw [Nat.add_comm, Nat.add_mul_div_right _ _ (by omega), Nat.div_eq_of_lt hj]; omega
theorem place_mod {N i j : Nat} (hj : j < N) : (i * N + j) % N = j := by
  rw [Nat.add_comm, Nat.add_mul_mod_self_right, Nat.mod_eq_of_lt hj]
theorem place_inj {N i j i' j' : Nat} (hj : j < N) (hj' : j' < N) (h : i * N + j = i' * N + j') : i = i' ∧ j = j' := by
  have h1 := congrArg (· / N) h
  have h2 := congrArg (· % N) h
  simp only [place_div hj, place_div hj', place_mod hj, place_mod hj'] at h1 h2
  exact ⟨h1, h2⟩
theorem div_lt {N p : Nat} (h : p < N * N) : p / N < N := Nat.div_lt_of_lt_mul h
theorem mod_lt {N p : Nat} (h : p < N * N) : p % N < N := Nat.mod_lt _ (by
  rcases Nat.eq_zero_or_pos N with rfl | h0
  · simp at h
  · exact h0)
theorem div_mod {N p : Nat} : p / N * N + p % N = p := Nat.div_add_mod' p N

/-! ### a stage -/
/-- the values of a stage, place by place. -/
theorem upd_get {N k : Nat} {L : List Int} {p : Nat} (hp : p < L.length) (q : Nat) : (upd N k L p)[q]?.getD 0 = if q = p then (if (Bd.add (L[p / N * N + k]?.getD 0) (L[k * N + p % N]?.getD 0)).1 < L[p]?.getD 0 then (Bd.add (L[p / N * N + k]?.getD 0) (L[k * N + p % N]?.getD 0)).1 else L[p]?.getD 0) else L[q]?.getD 0 := by
  unfold upd
  split
  · rw [List.getElem?_set]
    by_cases h : p = q
    · subst h; simp [hp]
    · rw [if_neg h, if_neg (fun e => h e.symm)]
  · by_cases h : q = p
    · subst h; simp
    · simp [h]
theorem stage_eq {N k : Nat} {L : List Int} (hk : k < N) (hL : L.length = N * N) (hkk : L[k * N + k]?.getD 0 = 1) (hlim : ∀ q, q < N * N → lim 1152921504606846976 (L[q]?.getD 0)) :
    ∀ n, n ≤ N * N → ∀ q, q < N * N → ob (((List.range n).foldl (upd N k) L)[q]?.getD 0) = (if q < n then thr k (mx N L) (q / N) (q % N) else ob (L[q]?.getD 0)) := by
  intro n
  induction n with
  | zero => intro _ q hq; simp
  | succ n ih =>
    intro hn q hq
    have ihn := ih (by omega)
    rw [List.range_succ, List.foldl_append, List.foldl_cons, List.foldl_nil]
    generalize hM : (List.range n).foldl (upd N k) L = M at *
    have hMl : M.length = N * N := by rw [← hM, foldl_upd_length, hL]
    have hn' : n < N * N := by omega
    have di := div_lt hn'
    have mi := mod_lt hn'
    -- the row and the column of k stand as they stood
    have same : ∀ i j, i < N → j < N → (i = k ∨ j = k) → M[i * N + j]?.getD 0 = L[i * N + j]?.getD 0 := by
      intro i j hi hj hij
      have h1 := ihn (i * N + j) (place_lt hi hj)
      rw [place_div hj, place_mod hj] at h1
      have hd : mx N L k k = some 1 := by unfold mx ob; rw [hkk]; rfl
      have h2 : ob (M[i * N + j]?.getD 0) = ob (L[i * N + j]?.getD 0) := by
        rw [h1]; split
        · rcases hij with rfl | rfl
          · exact thr_row hd j
          · exact thr_col hd i
        · rfl
      exact ob_inj h2
    rw [upd_get (by omega)]
    by_cases hqn : q = n
    · subst hqn
      rw [if_pos rfl, show (if q < q + 1 then thr k (mx N L) (q / N) (q % N) else ob (L[q]?.getD 0)) = thr k (mx N L) (q / N) (q % N) from if_pos (by omega)]
      have e1 := same (q / N) k di hk (.inr rfl)
      have e2 := same k (q % N) hk mi (.inl rfl)
      have e3 : M[q]?.getD 0 = L[q]?.getD 0 := ob_inj (by rw [ihn q hq, if_neg (by omega)])
      rw [e1, e2, e3]
      obtain ⟨a1, a2⟩ := add_eq (hlim _ (place_lt di hk)) (hlim _ (place_lt hk mi))
      have e4 : mx N L (q / N) (q % N) = ob (L[q]?.getD 0) := by unfold mx; rw [div_mod]
      have hlt := lt_iff (m := 2305843009213693952) (by omega) a2 (lim_mono (hlim q hq) (by omega))
      rw [a1] at hlt
      have e5 : mx N L (q / N) k = ob (L[q / N * N + k]?.getD 0) := rfl
      have e6 : mx N L k (q % N) = ob (L[k * N + q % N]?.getD 0) := rfl
      unfold thr
      rw [e4, e5, e6]
      by_cases hc : (Bd.add (L[q / N * N + k]?.getD 0) (L[k * N + q % N]?.getD 0)).1 < L[q]?.getD 0
      · rw [if_pos hc, if_pos (olt'_iff.2 (hlt.1 hc)), a1]
      · rw [if_neg hc, if_neg (fun h => hc (hlt.2 (olt'_iff.1 h)))]
    · rw [if_neg hqn, ihn q hq]
      by_cases h : q < n
      · rw [if_pos h, if_pos (by omega)]
      · rw [if_neg h, if_neg (by omega)]
theorem thrL_mx {N k : Nat} {L : List Int} (hk : k < N) (hL : L.length = N * N) (hkk : L[k * N + k]?.getD 0 = 1) (hlim : ∀ q, q < N * N → lim 1152921504606846976 (L[q]?.getD 0)) {i j : Nat} (hi : i < N) (hj : j < N) : mx N (thrL N k L) i j = thr k (mx N L) i j := by
  have := stage_eq hk hL hkk hlim (N * N) (Nat.le_refl _) (i * N + j) (place_lt hi hj)
  rw [if_pos (place_lt hi hj), place_div hj, place_mod hj] at this
  exact this

/-! ### how great bounds become -/
theorem nodup_len : ∀ (n : Nat) (l : List Nat), l.Nodup → (∀ a ∈ l, a < n) → l.length ≤ n := by
  intro n
  induction n with
  | zero => intro l _ h; cases l with
    | nil => simp
    | cons a l => exact absurd (h a (by simp)) (by omega)
  | succ n ih =>
    intro l hl h
    by_cases hn : n ∈ l
    · have h1 := List.length_erase_of_mem hn
      have h2 := ih (l.erase n) (hl.erase n) (fun a ha => by
        have h3 := (hl.mem_erase_iff.1 ha)
        have := h a h3.2
        omega)
      have := List.length_pos_of_mem hn
      omega
    · have := ih l hl (fun a ha => by
        have h1 := h a ha
        rcases Nat.lt_or_ge a n with h2 | h2
        · exact h2
        · exact absurd (by have : a = n := by omega
                           subst this; exact ha) hn)
      omega
theorem bsum_half (u v : Int) : bsum u v / 2 = u / 2 + v / 2 := by
  unfold bsum
  rcases parity u with h1 | h1 <;> rcases parity v with h2 | h2 <;> simp only [h1, h2] <;> omega
theorem way_lim {n : Nat} {E : Mx} {m : Int} (hm : 0 ≤ m) (hE : ∀ i j v, i < n → j < n → E i j = some v → -m ≤ v / 2 ∧ v / 2 ≤ m) : ∀ (p : List Nat) (v : Int), (∀ a ∈ p, a < n) → way E p = some v → -(m * (p.length - 1 : Nat)) ≤ v / 2 ∧ v / 2 ≤ m * (p.length - 1 : Nat)
  | [], v, _, h => by simp only [way] at h; injection h with h; subst h; simp
  | [a], v, _, h => by simp only [way] at h; injection h with h; subst h; simp
  | a :: b :: t, v, hp, h => by
    simp only [way] at h
    cases hu : E a b with
    | none => rw [hu] at h; cases h
    | some u =>
      cases hx : way E (b :: t) with
      | none => rw [hu, hx] at h; cases h
      | some x =>
        rw [hu, hx] at h
        injection h with h
        subst h
        have h1 := hE a b u (hp a (by simp)) (hp b (by simp)) hu
        have h2 := way_lim hm hE (b :: t) x (fun c hc => hp c (List.mem_cons_of_mem a hc)) hx
        rw [bsum_half]
        simp only [List.length_cons, Nat.add_sub_cancel] at h2 ⊢
        have e1 : m * ((t.length + 1 : Nat) : Int) = m * (t.length : Int) + m := by rw [Int.natCast_succ, Int.mul_add, Int.mul_one]
        omega
theorem Inv.lim {n k : Nat} {E M : Mx} (h : Inv n k E M) (hk : k ≤ n) (hn : n ≤ 4) (hE : ∀ i j v, i < n → j < n → E i j = some v → -288230376151711744 ≤ v / 2 ∧ v / 2 ≤ 288230376151711744) {i j : Nat} (hi : i < n) (hj : j < n) {v : Int} (hv : M i j = some v) : -864691128455135232 ≤ v / 2 ∧ v / 2 ≤ 864691128455135232 := by
  by_cases hij : i = j
  · subst hij; rw [h.diag i hi] at hv; injection hv with hv; subst hv; decide
  · obtain ⟨mid, h1, h2, h3⟩ := h.wit i j hi hj hij v hv
    have hlt : ∀ a ∈ i :: (mid ++ [j]), a < n := by
      intro a ha
      simp only [List.mem_cons, List.mem_append, List.not_mem_nil, or_false] at ha
      rcases ha with rfl | ha | rfl
      · exact hi
      · have := h2 a ha; omega
      · exact hj
    have hl := nodup_len n _ h1 hlt
    have hw := way_lim (by omega) hE _ v hlt h3
    have hl' : ((i :: (mid ++ [j])).length - 1 : Nat) ≤ 3 := by omega
    generalize ((i :: (mid ++ [j])).length - 1 : Nat) = x at hw hl'
    omega

/-! ### the whole -/
theorem mayC_lim {b : Int} (h : mayC b = true) : lim 288230376151711744 b := by
  unfold mayC at h
  simp only [Bool.or_eq_true, beq_iff_eq, Bool.and_eq_true, decide_eq_true_eq] at h
  exact h
theorem chk_lim {n : Int} {L : List Int} (h : chk n L = 0) (q : Nat) (hq : q < L.length) : lim 288230376151711744 (L[q]?.getD 0) := by
  obtain ⟨_, _, _, h4⟩ := chk_iff.1 h
  rw [List.any_eq_false] at h4
  have := h4 L[q] (List.getElem_mem hq)
  rw [List.getElem?_eq_getElem hq]
  exact mayC_lim (by simpa using this)
theorem diag_spec {N : Nat} {L : List Int} (hL : L.length = N * N) : ∀ (n : Nat) (Ln : List Int), n ≤ N → (List.range n).foldlM (diag1 N) L = some Ln → Ln.length = N * N ∧ (∀ i, i < n → 1 ≤ L[i * N + i]?.getD 0) ∧ ∀ i j, i < N → j < N → Ln[i * N + j]?.getD 0 = if i = j ∧ i < n then 1 else L[i * N + j]?.getD 0 := by
  intro n
  induction n with
  | zero => intro Ln _ h; simp at h; subst h; exact ⟨hL, fun i hi => by omega, fun i j _ _ => by simp⟩
  | succ n ih =>
    intro Ln hn h
    rw [List.range_succ, List.foldlM_append] at h
    cases h1 : (List.range n).foldlM (diag1 N) L with
    | none => rw [h1] at h; cases h
    | some M =>
      obtain ⟨a1, a2, a3⟩ := ih M (by omega) h1
      rw [h1] at h
      have h2 : diag1 N M n = some Ln := by simpa using h
      unfold diag1 at h2
      have e0 := a3 n n (by omega) (by omega)
      rw [if_neg (by omega)] at e0
      split at h2
      · cases h2
      · rename_i hc
        injection h2 with h2; subst h2
        rw [e0] at hc
        refine ⟨by simp [a1], fun i hi => ?_, fun i j hi hj => ?_⟩
        · by_cases e : i = n
          · subst e; omega
          · exact a2 i (by omega)
        · rw [List.getElem?_set]
          by_cases e : n * N + n = i * N + j
          · obtain ⟨rfl, rfl⟩ := place_inj (by omega) hj e
            rw [if_pos rfl, if_pos (by rw [a1]; exact place_lt (by omega) (by omega)), if_pos ⟨rfl, by omega⟩]; rfl
          · rw [if_neg e, a3 i j hi hj]
            by_cases e2 : i = j ∧ i < n
            · rw [if_pos e2, if_pos ⟨e2.1, by omega⟩]
            · rw [if_neg e2, if_neg]
              rintro ⟨rfl, h3⟩
              have : i = n := by
                rcases Nat.lt_or_ge i n with h4 | h4
                · exact absurd ⟨rfl, h4⟩ e2
                · omega
              subst this
              exact e rfl
/-- a closed matrix. -/
structure Clo (N : Nat) (C : List Int) : Prop where
  len : C.length = N * N
  diag : ∀ i, i < N → C[i * N + i]?.getD 0 = 1
  tri : ∀ i j a, i < N → j < N → a < N → ole (mx N C i j) (oadd (mx N C i a) (mx N C a j))
  lim : ∀ i j, i < N → j < N → lim 864691128455135232 (C[i * N + j]?.getD 0)
theorem mx_some {N : Nat} {L : List Int} {i j : Nat} {v : Int} (h : mx N L i j = some v) : L[i * N + j]?.getD 0 = v ∧ v ≠ NO := by
  unfold mx ob at h
  split at h
  · cases h
  · rename_i hn
    injection h with h
    exact ⟨h, h ▸ hn⟩
theorem lim_q {N : Nat} {L : List Int} {m : Int} (h : ∀ i j, i < N → j < N → lim m (L[i * N + j]?.getD 0)) : ∀ q, q < N * N → lim m (L[q]?.getD 0) := fun q hq => by
  have := h (q / N) (q % N) (div_lt hq) (mod_lt hq)
  rwa [div_mod] at this
/-- how far bounds lie under way. -/
theorem inv_lim {N n : Nat} {E : Mx} {M : List Int} (b2 : Inv N n E (mx N M)) (hn : n ≤ N) (hN4 : N ≤ 4) (hE : ∀ i j v, i < N → j < N → E i j = some v → -288230376151711744 ≤ v / 2 ∧ v / 2 ≤ 288230376151711744) : ∀ q, q < N * N → lim 864691128455135232 (M[q]?.getD 0) :=
  lim_q (fun i j hi hj => by
    cases hv : mx N M i j with
    | none =>
      unfold mx ob at hv
      split at hv
      · rename_i e; exact .inl e
      · cases hv
    | some v =>
      have h4 := b2.lim hn hN4 hE hi hj hv
      obtain ⟨e1, e2⟩ := mx_some hv
      rw [e1]; exact .inr h4)
/-- so many clocks gone through. -/
theorem fold_inv {N : Nat} {L1 : List Int} (hN4 : N ≤ 4) (a1 : L1.length = N * N) (hd1 : ∀ i, i < N → mx N L1 i i = some 1) (hE : ∀ i j v, i < N → j < N → mx N L1 i j = some v → -288230376151711744 ≤ v / 2 ∧ v / 2 ≤ 288230376151711744) :
    ∀ (n : Nat) (Cn : List Int), n ≤ N → (List.range n).foldlM (stage N) L1 = some Cn → Cn.length = N * N ∧ Inv N n (mx N L1) (mx N Cn) := by
    intro n
    induction n with
    | zero => intro Cn _ hc; simp at hc; subst hc; exact ⟨a1, Inv.start hd1⟩
    | succ n ih =>
      intro Cn hn hc
      rw [List.range_succ, List.foldlM_append] at hc
      cases h2 : (List.range n).foldlM (stage N) L1 with
      | none => rw [h2] at hc; cases hc
      | some M =>
        obtain ⟨b1, b2⟩ := ih M (by omega) h2
        rw [h2] at hc
        have h3 : stage N M n = some Cn := by simpa using hc
        unfold stage at h3
        split at h3
        case isFalse => cases h3
        rename_i hdok
        injection h3 with h3; subst h3
        have hlM := inv_lim b2 (by omega) hN4 hE
        have hMd : M[n * N + n]?.getD 0 = 1 := (mx_some (b2.diag n (by omega))).1
        have hthr : ∀ i j, i < N → j < N → mx N (thrL N n M) i j = thr n (mx N M) i j := fun i j hi hj => thrL_mx (by omega) b1 hMd (fun q hq => lim_mono (hlM q hq) (by omega)) hi hj
        have hd : ∀ i, i < N → thr n (mx N M) i i = some 1 := fun i hi => by
          rw [← hthr i i hi hi]
          have h5 : 1 ≤ (thrL N n M)[i * N + i]?.getD 0 := by
            rw [diagOk, List.all_eq_true] at hdok
            simpa using hdok i (List.mem_range.2 hi)
          have h6 := thr_le n (mx N M) i i
          rw [← hthr i i hi hi, b2.diag i hi] at h6
          unfold mx ob at h6 ⊢
          split at h6
          · exact h6.elim
          · rename_i hne
            rw [if_neg hne]
            have h7 : (thrL N n M)[i * N + i]?.getD 0 ≤ 1 := h6
            congr 1; omega
        have hstep := b2.step (by omega) hd
        refine ⟨by rw [thrL, foldl_upd_length, b1], ⟨fun i hi => by rw [hthr i i hi hi]; exact hd i hi, fun i j hi hj => by rw [hthr i j hi hj]; exact hstep.low i j hi hj, fun i j hi hj hne v hv => hstep.wit i j hi hj hne v (by rw [← hthr i j hi hj]; exact hv), fun i j a hi hj ha => by
          rw [hthr i j hi hj, hthr i a hi (by omega), hthr a j (by omega) hj]; exact hstep.closed i j a hi hj ha⟩⟩
/-- what closing answers: the theory's invariant. -/
theorem close_inv {N : Nat} {L C : List Int} (h0 : chk N L = 0) (h : closeL N L = some C) : ∃ L1, (∀ i, i < N → 1 ≤ L[i * N + i]?.getD 0) ∧ (∀ i j, i < N → j < N → L1[i * N + j]?.getD 0 = if i = j then 1 else L[i * N + j]?.getD 0) ∧ Inv N N (mx N L1) (mx N C) ∧ C.length = N * N ∧
    ∀ i j v, i < N → j < N → mx N L1 i j = some v → -288230376151711744 ≤ v / 2 ∧ v / 2 ≤ 288230376151711744 := by
  obtain ⟨c1, c2, c3, c4⟩ := chk_iff.1 h0
  have hN4 : N ≤ 4 := by omega
  have hL : L.length = N * N := by exact_mod_cast c3
  unfold closeL at h
  cases h1 : (List.range N).foldlM (diag1 N) L with
  | none => rw [h1] at h; cases h
  | some L1 =>
    rw [h1, Option.bind_some] at h
    obtain ⟨a1, a2, a3⟩ := diag_spec hL N L1 (Nat.le_refl _) h1
    have a3' : ∀ i j, i < N → j < N → L1[i * N + j]?.getD 0 = if i = j then 1 else L[i * N + j]?.getD 0 := fun i j hi hj => by
      rw [a3 i j hi hj]
      by_cases e : i = j
      · rw [if_pos ⟨e, hi⟩, if_pos e]
      · rw [if_neg (fun h => e h.1), if_neg e]
    have hd1 : ∀ i, i < N → mx N L1 i i = some 1 := fun i hi => by unfold mx; rw [a3' i i hi hi, if_pos rfl]; rfl
    have hE : ∀ i j v, i < N → j < N → mx N L1 i j = some v → -288230376151711744 ≤ v / 2 ∧ v / 2 ≤ 288230376151711744 := fun i j v hi hj hv => by
      obtain ⟨e1, e2⟩ := mx_some hv
      rw [a3' i j hi hj] at e1
      split at e1
      · subst e1; decide
      · have := chk_lim h0 (i * N + j) (by rw [hL]; exact place_lt hi hj)
        rw [e1] at this
        exact this.resolve_left e2
    obtain ⟨k1, k2⟩ := fold_inv hN4 a1 hd1 hE N C (Nat.le_refl _) h
    exact ⟨L1, a2, a3', k2, k1, hE⟩
theorem close_clo {N : Nat} {L C : List Int} (h0 : chk N L = 0) (h : closeL N L = some C) : Clo N C := by
  obtain ⟨L1, a2, a3, inv, hl, hE⟩ := close_inv h0 h
  obtain ⟨c1, c2, c3, c4⟩ := chk_iff.1 h0
  refine ⟨hl, fun i hi => (mx_some (inv.diag i hi)).1, fun i j a hi hj ha => inv.closed i j a hi hj ha, fun i j hi hj => ?_⟩
  cases hv : mx N C i j with
  | none =>
    unfold mx ob at hv
    split at hv
    · rename_i e; exact .inl e
    · cases hv
  | some v =>
    obtain ⟨e1, e2⟩ := mx_some hv
    rw [e1]; exact .inr (inv.lim (Nat.le_refl _) (by omega) hE hi hj hv)
/-- a closed one is its own. -/
theorem Clo.close {N : Nat} {C : List Int} (h : Clo N C) : closeL N C = some C := by
  have hq := lim_q h.lim
  have st : ∀ k, k < N → stage N C k = some C := fun k hk => by
    have e : thrL N k C = C := by
      apply List.ext_getElem?
      intro q
      rcases Nat.lt_or_ge q (N * N) with hq1 | hq1
      · have h1 := stage_eq hk h.len (h.diag k hk) (fun q hq' => lim_mono (hq q hq') (by omega)) (N * N) (Nat.le_refl _) q hq1
        rw [if_pos hq1] at h1
        have h2 : thr k (mx N C) (q / N) (q % N) = mx N C (q / N) (q % N) := by
          rcases thr_cases k (mx N C) (q / N) (q % N) with e | ⟨_, e⟩
          · exact e
          · exact (olt_irrefl e (h.tri _ _ k (div_lt hq1) (mod_lt hq1) hk)).elim
        have h3 : mx N C (q / N) (q % N) = ob (C[q]?.getD 0) := by unfold mx; rw [div_mod]
        rw [h2, h3] at h1
        have h4 := ob_inj h1
        have l1 : q < (thrL N k C).length := by rw [thrL, foldl_upd_length, h.len]; exact hq1
        have l2 : q < C.length := by rw [h.len]; exact hq1
        rw [List.getElem?_eq_getElem l1, List.getElem?_eq_getElem l2]
        change (thrL N k C)[q]?.getD 0 = _ at h4
        rw [List.getElem?_eq_getElem l1, List.getElem?_eq_getElem l2] at h4
        exact congrArg some h4
      · rw [List.getElem?_eq_none (by rw [thrL, foldl_upd_length, h.len]; exact hq1), List.getElem?_eq_none (by rw [h.len]; exact hq1)]
    unfold stage
    rw [e, if_pos]
    rw [diagOk, List.all_eq_true]
    intro i hi
    rw [h.diag i (List.mem_range.1 hi)]; decide
  have dg : ∀ i, i < N → diag1 N C i = some C := fun i hi => by
    unfold diag1
    rw [h.diag i hi, if_neg (by omega)]
    congr 1
    apply List.ext_getElem?
    intro q
    rw [List.getElem?_set]
    by_cases e : i * N + i = q
    · subst e
      have l2 : i * N + i < C.length := by rw [h.len]; exact place_lt hi hi
      have h1 := h.diag i hi
      rw [List.getElem?_eq_getElem l2] at h1
      rw [if_pos rfl, if_pos l2, List.getElem?_eq_getElem l2]
      exact congrArg some h1.symm
    · rw [if_neg e]
  have all : ∀ (f : List Int → Nat → Option (List Int)) (n : Nat), (∀ i, i < n → f C i = some C) → (List.range n).foldlM f C = some C := by
    intro f n
    induction n with
    | zero => intro _; rfl
    | succ n ih =>
      intro hf
      rw [List.range_succ, List.foldlM_append, ih (fun i hi => hf i (by omega))]
      simp [hf n (by omega)]
  unfold closeL
  rw [all _ N dg, Option.bind_some, all _ N st]
end Go.Proofs.Ytnhfkodjphplfaa.Dbm

/-
  Plain laws of clocks that come and go: a matrix without a clock is closed again, and of two clocks that go it turns nothing which goes first. No program is in sight.
-/
namespace Go.Proofs.Ytnhfkodjphplfaa.Proj
set_option linter.unusedVariables false
open Go.Proofs.Ytnhfkodjphplfaa.Dbm

theorem sk_lt {N k j : Nat} (hj : j < N - 1) : sk k j < N := by unfold sk; split <;> omega
theorem dropL_len (N k : Nat) (C : List Int) : (dropL N k C).length = (N - 1) * (N - 1) := by simp [dropL]
theorem dropL_get {N k : Nat} (C : List Int) {i j : Nat} (hi : i < N - 1) (hj : j < N - 1) : (dropL N k C)[i * (N - 1) + j]?.getD 0 = C[sk k i * N + sk k j]?.getD 0 := by
  unfold dropL
  rw [List.getElem?_map, List.getElem?_range (place_lt hi hj)]
  simp only [Option.map_some, Option.getD_some]
  unfold dropAt
  rw [place_div hj, place_mod hj]
theorem clo_drop {N k : Nat} {C : List Int} (h : Clo N C) : Clo (N - 1) (dropL N k C) := by
  have hm : ∀ i j, i < N - 1 → j < N - 1 → mx (N - 1) (dropL N k C) i j = mx N C (sk k i) (sk k j) := fun i j hi hj => by
    unfold mx; rw [dropL_get C hi hj]
  refine ⟨dropL_len _ _ _, fun i hi => ?_, fun i j a hi hj ha => ?_, fun i j hi hj => ?_⟩
  · rw [dropL_get C hi hi]; exact h.diag _ (sk_lt hi)
  · rw [hm i j hi hj, hm i a hi ha, hm a j ha hj]
    exact h.tri _ _ _ (sk_lt hi) (sk_lt hj) (sk_lt ha)
  · rw [dropL_get C hi hj]; exact h.lim _ _ (sk_lt hi) (sk_lt hj)
theorem ext_get {A B : List Int} {n : Nat} (ha : A.length = n) (hb : B.length = n) (h : ∀ q, q < n → A[q]?.getD 0 = B[q]?.getD 0) : A = B := by
  apply List.ext_getElem?
  intro q
  rcases Nat.lt_or_ge q n with hq | hq
  · have := h q hq
    rw [List.getElem?_eq_getElem (by omega), List.getElem?_eq_getElem (by omega)] at this ⊢
    exact congrArg some this
  · rw [List.getElem?_eq_none (by omega), List.getElem?_eq_none (by omega)]
theorem sk_sk {j k i : Nat} (hjk : j < k) : sk j (sk (k - 1) i) = sk k (sk j i) := by
  unfold sk
  by_cases h1 : i < k - 1 <;> by_cases h2 : i < j <;> simp only [h1, h2, if_true, if_false] <;> (repeat' split) <;> omega
theorem dropL_dropL {N j k : Nat} (C : List Int) (hjk : j < k) : dropL (N - 1) (k - 1) (dropL N j C) = dropL (N - 1) j (dropL N k C) := by
  refine ext_get (dropL_len _ _ _) (dropL_len _ _ _) fun q hq => ?_
  have h1 := div_lt hq
  have h2 := mod_lt hq
  rw [← div_mod (p := q) (N := N - 1 - 1)]
  rw [dropL_get _ h1 h2, dropL_get _ h1 h2, dropL_get _ (sk_lt h1) (sk_lt h2), dropL_get _ (sk_lt h1) (sk_lt h2), sk_sk hjk, sk_sk hjk]

/-- a clock goes, where one may. -/
theorem drop_ok {n : Int} {L : List Int} {k : Int} (h : (drop n L k).2.2 = 0) : chk n L = 0 ∧ 1 ≤ k ∧ k < n ∧ ∃ C, closeL n.toNat L = some C ∧ drop n L k = (n - 1, dropL n.toNat k.toNat C, 0) := by
  unfold drop at h ⊢
  split at h
  · rename_i h0
    split at h
    · cases h
    · rename_i h1
      split at h
      · rename_i C hC
        refine ⟨h0, by omega, by omega, C, hC, ?_⟩
        rw [if_pos h0, if_neg h1]
      · cases h
  · cases h
theorem drop_closed {N K : Nat} {A : List Int} (h0 : chk N A = 0) (hA : Clo N A) (h1 : 1 ≤ K) (h2 : K < N) : drop N A K = ((N : Int) - 1, dropL N K A, 0) := by
  unfold drop
  rw [if_pos h0, if_neg (by omega), Int.toNat_natCast, Int.toNat_natCast, hA.close]
/-- of two clocks that go it turns nothing which goes first. -/
theorem two {n : Int} {L : List Int} {j k : Int} (hjk : j < k) (ha : (drop n L j).2.2 = 0) (hb : (drop n L k).2.2 = 0) (ca : chk (drop n L j).1 (drop n L j).2.1 = 0) (cb : chk (drop n L k).1 (drop n L k).2.1 = 0) :
    drop (drop n L j).1 (drop n L j).2.1 (k - 1) = drop (drop n L k).1 (drop n L k).2.1 j := by
  obtain ⟨h0, j1, j2, C, hC, ea⟩ := drop_ok ha
  obtain ⟨_, k1, k2, C', hC', eb⟩ := drop_ok hb
  rw [hC] at hC'; injection hC' with hC'; subst hC'
  obtain ⟨N, rfl⟩ : ∃ N : Nat, n = N := ⟨n.toNat, by omega⟩
  obtain ⟨J, rfl⟩ : ∃ J : Nat, j = J := ⟨j.toNat, by omega⟩
  obtain ⟨K, rfl⟩ : ∃ K : Nat, k = K := ⟨k.toNat, by omega⟩
  rw [Int.toNat_natCast] at hC
  have hclo := close_clo h0 hC
  rw [ea] at ca ⊢
  rw [eb] at cb ⊢
  simp only [Int.toNat_natCast] at ca cb ⊢
  have en : (N : Int) - 1 = ((N - 1 : Nat) : Int) := by omega
  have ek : (K : Int) - 1 = ((K - 1 : Nat) : Int) := by omega
  rw [en] at ca cb ⊢
  rw [ek, drop_closed ca (clo_drop hclo) (by omega) (by omega), drop_closed cb (clo_drop hclo) (by omega) (by omega), dropL_dropL C (by omega)]
end Go.Proofs.Ytnhfkodjphplfaa.Proj

/-
  Fractions in plain words (no program here).
-/
namespace Go.Proofs.Ytnhfkodjphplfaa
set_option linter.unusedVariables false

namespace Fr
/-- may a fraction be? -/
def inB (n d : Int) : Bool := decide (-2305843009213693952 ≤ n / d) && (decide (n / d < 2305843009213693952) || (decide (n / d = 2305843009213693952) && decide (n % d = 0)))
def okB (n d : Int) : Bool := decide (1 ≤ d) && decide (d ≤ 1048576) && inB n d && decide (Nat.gcd n.natAbs d.natAbs = 1)
def chk (n d : Int) : Int := if okB n d = true then 0 else 8
theorem chk_yes {n d : Int} (h : okB n d = true) : chk n d = 0 := if_pos h
theorem chk_no {n d : Int} (h : okB n d = false) : chk n d = 8 := if_neg (by simp [h])
theorem chk_eq {n d : Int} : chk n d = 0 ↔ okB n d = true := by unfold chk; split <;> simp_all
theorem ok_den {n d : Int} (h : okB n d = true) : 1 ≤ d ∧ d ≤ 1048576 := by simp [okB] at h; exact h.1.1
theorem ok_in {n d : Int} (h : okB n d = true) : inB n d = true := by simp [okB] at h; exact h.1.2
theorem in_iff {n d : Int} : inB n d = true ↔ -2305843009213693952 ≤ n / d ∧ (n / d < 2305843009213693952 ∨ (n / d = 2305843009213693952 ∧ n % d = 0)) := by simp [inB]

/-- the quotient rounded down, and what is left over, out of Go's. -/
theorem floor_eq {n d : Int} (hd : 1 ≤ d) : (n.tmod d < 0 → n.tdiv d - 1 = n / d ∧ n.tmod d + d = n % d) ∧ (¬ n.tmod d < 0 → n.tdiv d = n / d ∧ n.tmod d = n % d) := by
  have e := Int.mul_tdiv_add_tmod n d
  have h2 := Int.emod_add_mul_ediv n d
  have h3 := Int.emod_nonneg n (by omega : d ≠ 0)
  have h4 := Int.emod_lt_of_pos n (by omega : 0 < d)
  have h5 : n.tmod d < d := Int.tmod_lt_of_pos _ (by omega)
  have h6 : -d < n.tmod d := Int.lt_tmod_of_pos n (by omega : 0 < d)
  have key : ∀ q r : Int, d * q + r = n → 0 ≤ r → r < d → q = n / d ∧ r = n % d := by
    intro q r e1 e2 e3
    have : n / d = q := by
      rw [← e1, Int.mul_add_ediv_left _ _ (by omega), Int.ediv_eq_zero_of_lt e2 e3]; omega
    refine ⟨this.symm, ?_⟩
    have := h2
    rw [‹n / d = q›] at this
    omega
  constructor
  · intro h
    exact key _ _ (by rw [Int.mul_sub]; omega) (by omega) (by omega)
  · intro h
    exact key _ _ e (by omega) h5
end Fr
end Go.Proofs.Ytnhfkodjphplfaa

/-
  The contracts of package rat that ask whether fractions may be, by the engine.
-/
namespace Go.Proofs.Ytnhfkodjphplfaa
set_option linter.unusedVariables false
set_option linter.unusedSimpArgs false
set_option maxRecDepth 100000
open Go.RowKit Go.Proofs.Ytnhfkodjphplfaa.Eng Enc

theorem gcd_any (a b : Nat) (ha : a < 18446744073709551616) (hb : b < 18446744073709551616) (w : World) :
    Calls Try.prog 58 #[.int .u64 a, .int .u64 b] w fun e w' => e = .returned (.int .u64 (Nat.gcd a b)) ∧ Below w.heap.size w w' := by
  refine fun_eq 0 w Try.func58 (args := [.val (.int .u64 a), .val (.int .u64 b)]) rfl rfl ?_
  refine LoopI.invC (α := (Nat × Nat) × World) (fun y => [(0, .val (.int .u64 y.1.1)), (1, .val (.int .u64 y.1.2))]) (fun y => y.2) (fun y => y.1.1 < 18446744073709551616 ∧ y.1.2 < 18446744073709551616 ∧ Nat.gcd y.1.1 y.1.2 = Nat.gcd a b) (fun y => y.1.2) ?_ ?_
  · intro w1 h1
    exact ⟨((a, b), w1), Cov.mk (by repeat' (first | exact trivial | refine And.intro rfl ?_)) rfl rfl rfl rfl rfl, rfl, ha, hb, rfl⟩
  rintro ⟨⟨x, y⟩, W⟩ ⟨hx, hy, hg⟩
  refine Branch.mk (fun hc => ?_) (fun hc => ?_)
  · have hy0 : 0 < y := by simpa using hc
    have em : ((x : Int)).tmod y = ((x % y : Nat) : Int) := rfl
    have hm : x % y < y := Nat.mod_lt _ hy0
    refine DrawI.go (.tk 0 (.tk 1 (.tk 2 (.tk 3 (.tk 4 (.tk 5 .done)))))) (by kernel_rfl) fun w1 h1 => ?_
    refine Need.mk ?_ ?_
    · show (y : Int) ≠ 0
      omega
    refine EndI.mk fun w2 h2 => ⟨((y, x % y), w2), Cov.mk (by repeat' (first | exact trivial | refine And.intro rfl ?_)) rfl rfl rfl rfl rfl, rfl, ⟨hy, ?_, ?_⟩, hm⟩
    · exact Nat.lt_trans hm hy
    · refine Eq.trans ?_ hg
      show Nat.gcd y (x % y) = Nat.gcd x y
      rw [Nat.gcd_comm x y, Nat.gcd_comm y (x % y)]; exact (Nat.gcd_rec y x).symm
  · refine EndI.mk fun w1 h1 => ?_
    have hy0 : y = 0 := by simpa using hc
    subst hy0
    rw [← hg]
    simp

theorem size_any (n : Int) (hn : inK .i64 n) (w : World) :
    Calls Try.prog 59 #[.int .i64 n] w fun e w' => e = .returned (.int .u64 (n.natAbs : Nat)) ∧ Below w.heap.size w w' := by
  refine fun_eq 0 w Try.func59 (args := [.val (.int .i64 n)]) rfl rfl ?_
  simp only [inK] at hn
  repeat' (first
    | (refine Branch.yes rfl ?_)
    | (refine Branch.no rfl ?_)
    | (refine Branch.mk (fun hb => ?_) (fun hb => ?_))
    | (refine NewI.mk fun nb hnb => ?_)
    | (refine Need.mk (by show _ ∧ _; omega) ?_)
    | (refine Need.mk (by omega) ?_)
    | (refine Need.mk ?_ ?_)
    | (refine EndI.mk fun w1 h1 => ?_))
  all_goals
    congr 1
    simp only [decide_eq_true_eq, decide_eq_false_iff_not] at hb
    omega

theorem Fr.ediv_in {n d : Int} (hd : 1 ≤ d) (hn : inK .i64 n) : inK .i64 (n / d) := by
  simp only [inK] at hn ⊢
  have e := Int.emod_add_mul_ediv n d
  have h3 := Int.emod_nonneg n (by omega : d ≠ 0)
  have h4 := Int.emod_lt_of_pos n (by omega : 0 < d)
  constructor
  · have : (-9223372036854775808) / d ≤ n / d := Int.ediv_le_ediv (by omega) hn.1
    have h5 : (-9223372036854775808) * 1 ≤ (-9223372036854775808) / d := by
      rw [Int.le_ediv_iff_mul_le (by omega)]
      have : 1 ≤ d := hd
      omega
    omega
  · have : n / d ≤ 9223372036854775807 / d := Int.ediv_le_ediv (by omega) hn.2
    have h5 : 9223372036854775807 / d ≤ 9223372036854775807 := Int.ediv_le_self _ (by omega)
    omega
theorem floor_any (n d : Int) (hd : 1 ≤ d) (hn : inK .i64 n) (hd2 : inK .i64 d) (w : World) :
    Calls Try.prog 63 #[.int .i64 n, .int .i64 d] w fun e w' => e = .returned (.tuple #[.int .i64 (n / d), .int .i64 (n % d)]) ∧ Below w.heap.size w w' := by
  refine fun_eq 0 w Try.func63 (args := [.val (.int .i64 n), .val (.int .i64 d)]) rfl rfl ?_
  obtain ⟨k1, k2⟩ := Fr.floor_eq (n := n) hd
  have k3 : inK .i64 (n.tdiv d) ∧ (n.tmod d < 0 → inK .i64 (n.tdiv d - 1)) := by
    have hq := Fr.ediv_in hd hn
    refine ⟨?_, fun h => by rw [(k1 h).1]; exact hq⟩
    by_cases h : n.tmod d < 0
    · have e := (k1 h).1
      have h0 : n < 0 := by
        rcases Int.lt_or_le n 0 with h | h'
        · exact h
        · have := Int.tmod_nonneg d h'; omega
      have : n / d < 0 := Int.ediv_neg_of_neg_of_pos h0 (by omega)
      simp only [inK] at hq ⊢; omega
    · rw [(k2 h).1]; exact hq
  have k4 := Int.emod_nonneg n (by omega : d ≠ 0)
  have k5 := Int.emod_lt_of_pos n (by omega : 0 < d)
  refine DrawI.go (.tk 0 (.tk 1 (.tk 2 (.tk 3 (.tk 4 (.tk 5 (.tk 6 (.tk 7 .done)))))))) (by kernel_rfl) fun w1 h1 => ?_
  refine Need.mk ⟨by omega, k3.1⟩ ?_
  refine Need.mk (by omega) ?_
  refine Branch.mk (fun hb => ?_) (fun hb => ?_)
  · obtain ⟨e1, e2⟩ := k1 (by simpa using hb)
    refine Need.mk (k3.2 (by simpa using hb)) ?_
    refine Need.mk ?_ ?_
    · simp only [inK] at hd2 ⊢; omega
    exact EndI.mk fun w1 h1 => by rw [e1, e2]
  · obtain ⟨e1, e2⟩ := k2 (by simpa using hb)
    exact EndI.mk fun w1 h1 => by rw [e1, e2]

theorem within_any (n d : Int) (hd : 1 ≤ d) (hn : inK .i64 n) (hd2 : inK .i64 d) (w : World) :
    Calls Try.prog 57 #[.agg #[.int .i64 n, .int .i64 d]] w fun e w' => e = .returned (.bool (Fr.inB n d)) ∧ Below w.heap.size w w' := by
  refine fun_eq 0 w Try.func57 (args := [.agg [.val (.int .i64 n), .val (.int .i64 d)]]) rfl rfl ?_
  repeat' (first
    | (refine CallI.to1 (floor_any n d hd hn hd2) fun w2 => ?_)
    | (refine Branch.yes rfl ?_)
    | (refine Branch.no rfl ?_)
    | (refine Branch.mk (fun hb => ?_) (fun hb => ?_))
    | (refine NewI.mk fun nb hnb => ?_)
    | (refine Need.mk (by show _ ∧ _; omega) ?_)
    | (refine Need.mk (by omega) ?_)
    | (refine Need.mk ?_ ?_)
    | (refine EndI.mk fun w1 h1 => ?_))
  all_goals
    congr 1
    simp only [decide_eq_true_eq, decide_eq_false_iff_not] at *
    simp only [Fr.inB]
    grind

theorem rcheck_any (n d : Int) (hn : inK .i64 n) (hd : inK .i64 d) (w : World) :
    Calls Try.prog 37 #[.agg #[.int .i64 n, .int .i64 d]] w fun e w' => e = .returned (.int .i64 (Fr.chk n d)) ∧ Below w.heap.size w w' := by
  refine fun_eq 0 w Try.func37 (args := [.agg [.val (.int .i64 n), .val (.int .i64 d)]]) rfl rfl ?_
  refine NewI.mk fun b1 hb1 => ?_
  refine DrawI.go (.tk 0 (.tk 1 (.tk 2 (.tk 3 (.tk 4 (.tk 5 (.tk 6 (.tk 7 (.tk 8 (.tk 9 (.ev 10 (.tk 11 (.tk 12 (.tk 13 (.tk 14 (.tk 15 (.tk 17 (.tk 18 (.tk 19 (.ev 16 (.ev 20 (.tk 21 (.tk 22 .done))))))))))))))))))))))) (by kernel_rfl) fun w1 h1 => ?_
  refine Branch.mk (fun hb => ?_) (fun hb => ?_)
  · refine EndI.mk fun w2 h2 => ?_
    congr 1; simp only [decide_eq_true_eq] at hb; rw [Fr.chk_no]; simp [Fr.okB]; omega
  have hd1 : 1 ≤ d := by simp only [decide_eq_false_iff_not] at hb; omega
  refine Branch.mk (fun hb2 => ?_) (fun hb2 => ?_)
  · refine EndI.mk fun w2 h2 => ?_
    congr 1; simp only [decide_eq_true_eq] at hb2; rw [Fr.chk_no]; simp [Fr.okB]; omega
  have hd2 : d ≤ 1048576 := by simp only [decide_eq_false_iff_not] at hb2; omega
  apply CallI.use1
  · exact fun w2 h2 => within_any n d hd1 hn hd w2
  intro w2 w3 h2 hB3
  have key : ∀ w4, Calls Try.prog 58 #[.int .u64 (n.natAbs : Nat), .int .u64 (d % 18446744073709551616)] w4 fun e w' => e = .returned (.int .u64 (Nat.gcd n.natAbs d.natAbs)) ∧ Below w4.heap.size w4 w' := fun w4 => by
    have h := gcd_any n.natAbs d.natAbs (by simp only [inK] at hn; omega) (by omega) w4
    rwa [show ((d.natAbs : Nat) : Int) = d % 18446744073709551616 by omega] at h
  refine Branch.mk (fun hb3 => ?_) (fun hb3 => ?_)
  · refine EndI.mk fun w4 h4 => ?_
    congr 1; rw [Fr.chk_no]; simp [Fr.okB]; simp at hb3; simp [hb3]
  have hi : Fr.inB n d = true := by simpa using hb3
  apply CallI.use1
  · exact fun w4 h4 => size_any n hn w4
  intro w4 w5 h4 hB5
  apply CallI.use1
  · exact fun w6 h6 => key w6
  intro w6 w7 h6 hB7
  refine Branch.mk (fun hb4 => ?_) (fun hb4 => ?_)
  · refine EndI.mk fun w8 h8 => ?_
    congr 1; rw [Fr.chk_no]; simp [Fr.okB]
    simp at hb4; intros; omega
  · refine EndI.mk fun w8 h8 => ?_
    congr 1; rw [Fr.chk_yes]; simp [Fr.okB, hi]
    simp at hb4; refine ⟨by omega, by omega⟩

/-- the numbers of a fraction are ints. -/
def Rt.ins (x : Rt) : Prop := inK .i64 x.num ∧ inK .i64 x.den
def Rt.ok (x : Rt) : Bool := Fr.okB x.num x.den

theorem rchecked_any (l : List Rt) (hl : ∀ x ∈ l, x.ins) (a : Option Addr) (cap : Nat) (w : World) (hS : Sl w.heap.size w (.slice a l.length cap) l) :
    Calls Try.prog 61 #[.slice a l.length cap] w fun e w' => e = .returned (.int .i64 (if l.all Rt.ok then 0 else 8)) ∧ Below w.heap.size w w' := by
  refine fun_eq 0 w Try.func61 (args := [.val (.slice a l.length cap)]) rfl rfl ?_
  refine LoopI.invC (α := Nat × World) (fun y => [(8, .val (.int .i64 y.1))]) (fun y => y.2) (fun y => y.1 ≤ l.length ∧ Below w.heap.size w y.2 ∧ (l.take y.1).all Rt.ok = true) (fun y => l.length - y.1) ?_ ?_
  · intro w1 h1
    exact ⟨(0, w1), Cov.mk (by repeat' (first | exact trivial | refine And.intro rfl ?_)) rfl rfl rfl rfl rfl, rfl, Nat.zero_le _, h1.below, by simp⟩
  rintro ⟨i, W⟩ ⟨hi, hW, hok⟩
  refine Branch.mk (fun hc => ?_) (fun hc => ?_)
  · have hlt : i < l.length := by simpa using hc
    have hx := List.getElem?_eq_getElem hlt
    generalize l[i] = x at hx
    have hxi := hl x (List.mem_of_getElem? hx)
    refine hS.idx hx fun ad had => ?_
    refine hS.ld hx had hW (by simp) ?_
    refine NewI.mk fun b1 hb1 => ?_
    apply CallI.use1
    · exact fun w2 h2 => rcheck_any x.num x.den hxi.1 hxi.2 w2
    intro w2 w3 h2 hB3
    refine Branch.mk (fun hc2 => ?_) (fun hc2 => ?_)
    · have hx0 : Rt.ok x = false := by
        cases h : Rt.ok x
        · rfl
        · exact absurd (Fr.chk_yes h) (by simpa using hc2)
      refine EndI.mk fun w4 h4 => ?_
      rw [Fr.chk_no hx0, if_neg]
      rw [List.all_eq_true]
      intro h
      rw [h x (List.mem_of_getElem? hx)] at hx0
      cases hx0
    · have hx1 : Rt.ok x = true := Fr.chk_eq.1 (by simpa using hc2)
      obtain ⟨_, _, e0, h1, h2, _⟩ := hS.form
      unfold maxLen at h2
      injection e0 with _ _ e0
      refine Need.mk (by show _ ∧ _; omega) (EndI.mk fun w4 h4 => ⟨(i + 1, w4), Cov.mk (by repeat' (first | exact trivial | refine And.intro rfl ?_)) rfl rfl rfl rfl rfl, rfl, ⟨hlt, h4.below, ?_⟩, by simp only; omega⟩)
      have e : l.take (i + 1) = l.take i ++ [x] := by rw [List.take_add_one, hx]; rfl
      show (l.take (i + 1)).all Rt.ok = true
      rw [e, List.all_append, hok]
      simp [hx1]
  · have hge : i = l.length := by have : ¬ i < l.length := by simpa using hc
                                  omega
    refine EndI.mk fun w4 h4 => ?_
    rw [hge, List.take_length] at hok
    rw [if_pos hok]

def cmpI (a b : Int) : Int := if a < b then -1 else if b < a then 1 else 0
theorem nan_any (a : Int) (w : World) : Calls Try.prog 81 #[.int .i64 a] w fun e w' => e = .returned (.bool false) ∧ Below w.heap.size w w' := by
  refine fun_eq 0 w Try.func81 (args := [.val (.int .i64 a)]) rfl rfl ?_
  repeat' (first
    | (refine Branch.yes rfl ?_)
    | (refine Branch.no rfl ?_)
    | (refine Branch.mk (fun hb => ?_) (fun hb => ?_))
    | (refine NewI.mk fun nb hnb => ?_)
    | (refine Need.mk (by show _ ∧ _; omega) ?_)
    | (refine Need.mk (by omega) ?_)
    | (refine Need.mk ?_ ?_)
    | (refine EndI.mk fun w1 h1 => ?_))
  simp
theorem cmp_any (a b : Int) (w : World) : Calls Try.prog 66 #[.int .i64 a, .int .i64 b] w fun e w' => e = .returned (.int .i64 (cmpI a b)) ∧ Below w.heap.size w w' := by
  refine fun_eq 0 w Try.func66 (args := [.val (.int .i64 a), .val (.int .i64 b)]) rfl rfl ?_
  repeat' (first
    | (refine CallI.to1 (nan_any _) fun w2 => ?_)
    | (refine Branch.yes rfl ?_)
    | (refine Branch.no rfl ?_)
    | (refine Branch.mk (fun hb => ?_) (fun hb => ?_))
    | (refine NewI.mk fun nb hnb => ?_)
    | (refine Need.mk (by show _ ∧ _; omega) ?_)
    | (refine Need.mk (by omega) ?_)
    | (refine Need.mk ?_ ?_)
    | (refine EndI.mk fun w1 h1 => ?_))
  all_goals
    simp only [decide_eq_true_eq, decide_eq_false_iff_not] at *
    simp [cmpI, *]
theorem first_any (a b : Int) (fid : FuncId) (caps : Array Value) (en : Enters Try.prog fid) (c : Int) (w : World)
    (hcall : ∀ W, Below w.heap.size w W → Calls Try.prog fid caps W fun e W' => e = .returned (.int .i64 c) ∧ Below W.heap.size W W') :
    Calls Try.prog 64 #[.int .i64 a, .int .i64 b, .func (.func fid) #[] caps] w fun e w' => e = .returned (.int .i64 (if cmpI a b ≠ 0 then cmpI a b else c)) ∧ Below w.heap.size w w' := by
  refine fun_eq 0 w Try.func64 (args := [.val (.int .i64 a), .val (.int .i64 b), .val (.func (.func fid) #[] caps)]) rfl rfl ?_
  apply CallI.use1
  · exact fun w1 h1 => cmp_any a b w1
  intro w1 w2 h1 hB2
  refine Branch.mk (fun hc => ?_) (fun hc => ?_)
  · refine EndI.mk fun w3 h3 => ?_
    rw [if_pos (by simpa using hc)]
  refine Need.mk en ?_
  apply CallI.use1
  · exact fun w3 h3 => hcall w3 h3.below
  intro w3 w4 h3 hB4
  refine EndI.mk fun w3 h3 => ?_
  rw [if_neg (by simpa using hc)]

namespace Fr
def sign (x y c : Int) : Int := if cmpI x y ≠ 0 then cmpI x y else c
/-- the last of three comparisons: of what is left over. -/
def rest (a b : Rt) : Int := cmpI (a.num % a.den * b.den) (b.num % b.den * a.den)
def kept (a b : Rt) (x : Int) : Bool :=
  decide (sign (a.num / a.den - b.num / b.den) (x / 2) (rest a b) < 0) || (decide (sign (a.num / a.den - b.num / b.den) (x / 2) (rest a b) = 0) && !(Bd.st x))
def keeps (a b : Rt) (x : Int) : Bool × Int :=
  if a.ok && b.ok && Bd.may x then (if x = 9223372036854775807 then (true, 0) else (kept a b x, 0)) else (false, 8)
end Fr
theorem Fr.rest_in {a b : Rt} (ha : a.ok = true) (hb : b.ok = true) : inK .i64 (a.num % a.den * b.den) := by
  have h1 := Fr.ok_den ha
  have h2 := Fr.ok_den hb
  have k4 := Int.emod_nonneg a.num (by omega : a.den ≠ 0)
  have k5 := Int.emod_lt_of_pos a.num (by omega : 0 < a.den)
  have h3 : a.num % a.den * b.den ≤ 1048576 * 1048576 := Int.mul_le_mul (by omega) (by omega) (by omega) (by omega)
  have h4 : 0 ≤ a.num % a.den * b.den := Int.mul_nonneg k4 (by omega)
  simp only [inK]; omega
theorem rkeeps1_any (a b : Rt) (ha : a.ok = true) (hb : b.ok = true) (p q s t : Nat) (w : World) (c0 : w.cell? ⟨p, 0, none⟩ = some (.int .i64 (a.num % a.den))) (c1 : w.cell? ⟨q, 1, none⟩ = some (.int .i64 b.den))
    (c2 : w.cell? ⟨s, 0, none⟩ = some (.int .i64 (b.num % b.den))) (c3 : w.cell? ⟨t, 1, none⟩ = some (.int .i64 a.den)) :
    Calls Try.prog 65 #[.pointer (some ⟨p, 0, none⟩), .pointer (some ⟨q, 0, none⟩), .pointer (some ⟨s, 0, none⟩), .pointer (some ⟨t, 0, none⟩)] w fun e w' => e = .returned (.int .i64 (Fr.rest a b)) ∧ Below w.heap.size w w' := by
  refine fun_eq 0 w Try.func65 (args := [.val (.pointer (some ⟨p, 0, none⟩)), .val (.pointer (some ⟨q, 0, none⟩)), .val (.pointer (some ⟨s, 0, none⟩)), .val (.pointer (some ⟨t, 0, none⟩))]) rfl rfl ?_
  have m1 : inK .i64 (a.num % a.den * b.den) := Fr.rest_in ha hb
  have m2 : inK .i64 (b.num % b.den * a.den) := Fr.rest_in hb ha
  refine LoadI.mk ⟨_, ⟨c0, by simp⟩, ?_⟩
  refine LoadI.mk ⟨_, ⟨c1, by simp⟩, ?_⟩
  refine Need.mk m1 ?_
  refine LoadI.mk ⟨_, ⟨c2, by simp⟩, ?_⟩
  refine LoadI.mk ⟨_, ⟨c3, by simp⟩, ?_⟩
  refine Need.mk m2 ?_
  apply CallI.use1
  · exact fun w3 h3 => cmp_any _ _ w3
  intro w3 w4 h3 hB4
  exact EndI.mk fun w5 h5 => rfl

theorem rkeeps_any (a b : Rt) (ha : a.ins) (hb : b.ins) (x : Int) (w : World) :
    Calls Try.prog 39 #[.agg #[.int .i64 a.num, .int .i64 a.den], .agg #[.int .i64 b.num, .int .i64 b.den], .int .i64 x] w fun e w' => e = .returned (.tuple #[.bool (Fr.keeps a b x).1, .int .i64 (Fr.keeps a b x).2]) ∧ Below w.heap.size w w' := by
  refine fun_eq 0 w Try.func39 (args := [.agg [.val (.int .i64 a.num), .val (.int .i64 a.den)], .agg [.val (.int .i64 b.num), .val (.int .i64 b.den)], .val (.int .i64 x)]) rfl rfl ?_
  refine NewI.mk fun b1 hb1 => ?_
  refine NewI.mk fun b2 hb2 => ?_
  refine NewI.mk fun b3 hb3 => ?_
  apply CallI.use1
  · exact fun w1 h1 => rchecked_any [a, b] (by intro y hy; simp at hy; rcases hy with rfl | rfl <;> assumption) _ _ w1 (Sl.own (l := [a, b]) h1 2 rfl rfl rfl (Nat.le_refl _) (by simp [maxLen]))
  intro w1 w2 h1 hB2
  refine Branch.mk (fun hc => ?_) (fun hc => ?_)
  · refine EndI.mk fun w3 h3 => ?_
    have : (a.ok && b.ok) = false := by simp at hc; simp; intro h; simp_all
    rw [Fr.keeps, this]; rfl
  have hok : (a.ok && b.ok) = true := by simpa using hc
  have hoa : a.ok = true := by simp at hok; exact hok.1
  have hob : b.ok = true := by simp at hok; exact hok.2
  apply CallI.use1
  · exact fun w3 h3 => bcheck_any x w3
  intro w3 w4 h3 hB4
  refine Branch.mk (fun hc2 => ?_) (fun hc2 => ?_)
  · refine EndI.mk fun w5 h5 => ?_
    have : Bd.may x = false := by
      cases h : Bd.may x
      · rfl
      · rw [Bd.chk_yes h] at hc2; cases hc2
    rw [Fr.keeps, this]; simp
  have hm : Bd.may x = true := by
    cases h : Bd.may x
    · rw [Bd.chk_no h] at hc2; cases hc2
    · rfl
  apply CallI.use1
  · exact fun w5 h5 => value_any x w5
  intro w5 w6 h5 hB6
  refine Branch.mk (fun hc3 => ?_) (fun hc3 => ?_)
  · refine EndI.mk fun w7 h7 => ?_
    have hx : x = 9223372036854775807 := by
      rcases Classical.em (x = 9223372036854775807) with h | h
      · exact h
      · rw [Bd.value_yes hm h] at hc3; cases hc3
    subst hx; simp [Fr.keeps, hoa, hob, Bd.may_none]
  have hx : x ≠ 9223372036854775807 := by
    rintro rfl
    rw [Bd.value_none] at hc3; cases hc3
  have ea := Fr.ok_den hoa
  have eb := Fr.ok_den hob
  apply CallI.use1
  · exact fun w7 h7 => floor_any a.num a.den ea.1 ha.1 ha.2 w7
  intro w7 w8 h7 hB8
  refine NewI.mk fun b4 hb4 => ?_
  apply CallI.use1
  · exact fun w9 h9 => floor_any b.num b.den eb.1 hb.1 hb.2 w9
  intro w9 w10 h9 hB10
  refine NewI.mk fun b5 hb5 => ?_
  have ia := Fr.in_iff.1 (Fr.ok_in hoa)
  have ib := Fr.in_iff.1 (Fr.ok_in hob)
  refine Need.mk (by simp only [inK]; omega) ?_
  apply CallI.use1
  · refine fun w11 h11 => first_any _ _ _ _ Try.call65 (Fr.rest a b) w11 fun W hW => ?_
    refine rkeeps1_any a b hoa hob _ _ _ _ W ?_ ?_ ?_ ?_
    · exact (hW.cell (p := ⟨b4, 0, none⟩) (h11.lt b4 (by simp))).trans (h11.own (i := 3) (o := 0) rfl rfl rfl)
    · exact (hW.cell (p := ⟨b2, 1, none⟩) (h11.lt b2 (by simp))).trans (h11.own (i := 1) (o := 1) rfl rfl rfl)
    · exact (hW.cell (p := ⟨b5, 0, none⟩) (h11.lt b5 (by simp))).trans (h11.own (i := 4) (o := 0) rfl rfl rfl)
    · exact (hW.cell (p := ⟨b1, 1, none⟩) (h11.lt b1 (by simp))).trans (h11.own (i := 0) (o := 1) rfl rfl rfl)
  intro w11 w12 h11 hB12
  have hk : Fr.keeps a b x = (Fr.kept a b x, 0) := by simp [Fr.keeps, hoa, hob, hm, hx]
  rw [hk]
  have hv := Bd.value_yes hm hx
  simp only [hv]
  refine Branch.mk (fun hc4 => ?_) (fun hc4 => ?_)
  · refine EndI.mk fun w13 h13 => ?_
    have : Fr.kept a b x = true := by
      rw [Fr.kept, show (decide (Fr.sign (a.num / a.den - b.num / b.den) (x / 2) (Fr.rest a b) < 0)) = true by exact hc4]; rfl
    rw [this]
  have n1 : (decide (Fr.sign (a.num / a.den - b.num / b.den) (x / 2) (Fr.rest a b) < 0)) = false := by exact hc4
  refine Branch.mk (fun hc5 => ?_) (fun hc5 => ?_)
  · refine EndI.mk fun w13 h13 => ?_
    have n2 : (decide (Fr.sign (a.num / a.den - b.num / b.den) (x / 2) (Fr.rest a b) = 0)) = true := by exact hc5
    rw [Fr.kept, n1, n2]
    simp
  · refine EndI.mk fun w13 h13 => ?_
    have n2 : (decide (Fr.sign (a.num / a.den - b.num / b.den) (x / 2) (Fr.rest a b) = 0)) = false := by exact hc5
    rw [Fr.kept, n1, n2]
    simp
end Go.Proofs.Ytnhfkodjphplfaa

/-
  slices.IndexFunc and ContainsFunc at a list of api.Rat: with a function that answers p of an element, and goes from T k to T (k + 1).
-/
namespace Go.Proofs.Ytnhfkodjphplfaa
set_option linter.unusedVariables false
set_option linter.unusedSimpArgs false
set_option maxRecDepth 100000
open Go.RowKit Go.Proofs.Ytnhfkodjphplfaa.Eng Enc

theorem indexR_any (l : List Rt) (p : Rt → Bool) (a : Option Addr) (cap : Nat) (fid : FuncId) (caps : Array Value) (B : Nat) (w : World) (hB : B ≤ w.heap.size) (hS : Sl B w (.slice a l.length cap) l)
    (T : Nat → World → Prop) (h0 : T 0 w) (hst : ∀ k W W', T k W → Below W.heap.size W W' → T k W') (en : Enters Try.prog fid)
    (hcall : ∀ k x W, l[k]? = some x → Below B w W → T k W → Calls Try.prog fid (val x :: caps.toList).toArray W fun e W' => e = .returned (.bool (p x)) ∧ Below B W W' ∧ T (k + 1) W') :
    Calls Try.prog 56 #[.slice a l.length cap, .func (.func fid) #[] caps] w fun e w' => ∃ v, e = .returned v ∧ Below B w w' ∧ v = .int .i64 (idxF p l) ∧ T (cntF p l) w' := by
  obtain ⟨a', cap', e', hcap, hmax, _⟩ := hS.form
  injection e' with e1 e2 e3
  subst e1; subst e3
  unfold maxLen at hmax
  refine fun_at 0 B w hB Try.func56 (args := [.val (.slice a l.length cap), .val (.func (.func fid) #[] caps)]) rfl rfl ?_
  refine LoopI.inv (α := Nat × World) (fun x => [(8, .val (.int .i64 x.1))]) (fun _ => []) (fun x => x.2) (fun x => x.1 ≤ l.length ∧ T x.1 x.2 ∧ Below B w x.2 ∧ ∀ j y, j < x.1 → l[j]? = some y → p y = false) (fun x => l.length - x.1) ?_ ?_
  · intro w1 h1
    exact ⟨(0, w1), Cov.mk (by repeat' (first | exact trivial | refine And.intro rfl ?_)) rfl rfl rfl rfl rfl, rfl, Nat.zero_le _, hst _ _ _ h0 h1.go, h1.below, fun j y hj => by omega⟩
  · rintro ⟨k, W⟩ ⟨hk, hT, hBw, hno⟩
    refine Branch.mk (fun hb => ?_) (fun hb => ?_)
    · have hlt : k < l.length := by simpa using hb
      obtain ⟨x, hx⟩ : ∃ x, l[k]? = some x := ⟨l[k], List.getElem?_eq_getElem hlt⟩
      refine hS.idx hx fun ad had => ?_
      refine hS.ld hx had hBw (by simp) ?_
      refine Need.mk en ?_
      refine CallI.mk fun w1 h1 => ?_
      have hT1 := hst _ _ _ hT h1.go
      refine (hcall k x w1 hx h1.below hT1).mono ?_
      rintro e w2 ⟨rfl, hB2, hT2⟩
      refine ⟨⟨hB2, by simp⟩, _, rfl, ?_⟩
      refine Branch.mk (fun hp => ?_) (fun hp => ?_)
      · refine EndI.mk fun w3 h3 => ?_
        obtain ⟨i1, i2⟩ := idxF_at p l k x hx hp hno
        refine ⟨by rw [i1], by rw [i2]; exact hst _ _ _ hT2 h3.go⟩
      · refine Need.mk (by show _ ∧ _; omega) (EndI.mk fun w3 h3 => ?_)
        refine ⟨(k + 1, w3), Cov.mk (by repeat' (first | exact trivial | refine And.intro rfl ?_)) rfl rfl rfl rfl rfl, rfl, ⟨hlt, hst _ _ _ hT2 h3.go, h3.below, fun j y hj hy => ?_⟩, by simp only; omega⟩
        by_cases hjk : j = k
        · subst hjk; rw [hx] at hy; injection hy with hy; subst hy; exact hp
        · exact hno j y (by omega) hy
    · have hge : k = l.length := by have : ¬ k < l.length := by simpa using hb
                                    omega
      subst hge
      refine EndI.mk fun w3 h3 => ?_
      obtain ⟨i1, i2⟩ := idxF_none p l fun j y hy => hno j y (List.getElem?_eq_some_iff.1 hy).1 hy
      exact ⟨by rw [i1], by rw [i2]; exact hst _ _ _ hT h3.go⟩

theorem containsR_any (l : List Rt) (p : Rt → Bool) (a : Option Addr) (cap : Nat) (fid : FuncId) (caps : Array Value) (B : Nat) (w : World) (hB : B ≤ w.heap.size) (hS : Sl B w (.slice a l.length cap) l)
    (T : Nat → World → Prop) (h0 : T 0 w) (hst : ∀ k W W', T k W → Below W.heap.size W W' → T k W') (en : Enters Try.prog fid)
    (hcall : ∀ k x W, l[k]? = some x → Below B w W → T k W → Calls Try.prog fid (val x :: caps.toList).toArray W fun e W' => e = .returned (.bool (p x)) ∧ Below B W W' ∧ T (k + 1) W') :
    Calls Try.prog 35 #[.slice a l.length cap, .func (.func fid) #[] caps] w fun e w' => ∃ v, e = .returned v ∧ Below B w w' ∧ v = .bool (l.any p) ∧ T (cntF p l) w' := by
  refine fun_at 0 B w hB Try.func35 (args := [.val (.slice a l.length cap), .val (.func (.func fid) #[] caps)]) rfl rfl ?_
  refine CallI.mk fun w1 h1 => ?_
  have hB1 : B ≤ w1.heap.size := Nat.le_trans hB h1.size
  refine (indexR_any l p a cap fid caps B w1 hB1 (hS.below h1.below) T (hst _ _ _ h0 h1.go) hst en fun k x W hx hW hT => hcall k x W hx (h1.below.trans hW) hT).mono ?_
  rintro e w2 ⟨v, rfl, hB2, rfl, hT⟩
  refine ⟨⟨hB2, by simp⟩, _, rfl, ?_⟩
  refine EndI.mk fun w3 h3 => ⟨?_, hst _ _ _ hT h3.go⟩
  rw [← idxF_any]

/-- with a function that leaves the memory alone. -/
theorem containsR_pure (l : List Rt) (p : Rt → Bool) (a : Option Addr) (cap : Nat) (fid : FuncId) (caps : Array Value) (w : World) (hS : Sl w.heap.size w (.slice a l.length cap) l) (en : Enters Try.prog fid)
    (hcall : ∀ x W, x ∈ l → Below w.heap.size w W → Calls Try.prog fid (val x :: caps.toList).toArray W fun e W' => e = .returned (.bool (p x)) ∧ Below W.heap.size W W') :
    Calls Try.prog 35 #[.slice a l.length cap, .func (.func fid) #[] caps] w fun e w' => e = .returned (.bool (l.any p)) ∧ Below w.heap.size w w' := by
  refine (containsR_any l p a cap fid caps w.heap.size w (Nat.le_refl _) hS (fun _ _ => True) trivial (fun _ _ _ _ _ => trivial) en fun k x W hx hB _ => ?_).mono ?_
  · refine (hcall x W (List.mem_of_getElem? hx) hB).mono ?_
    rintro e W' ⟨rfl, hB'⟩
    exact ⟨rfl, hB'.mono hB.size, trivial⟩
  · rintro e w' ⟨v, rfl, hB, rfl, _⟩
    exact ⟨rfl, hB⟩
end Go.Proofs.Ytnhfkodjphplfaa

/-
  The contract of dbm.Keeps, by the engine.
-/
namespace Go.Proofs.Ytnhfkodjphplfaa
set_option linter.unusedVariables false
set_option linter.unusedSimpArgs false
set_option maxRecDepth 100000
open Go.RowKit Go.Proofs.Ytnhfkodjphplfaa.Eng Enc

namespace Dbm
/-- all moments of times: 0 and they. -/
def moments (T : List Rt) : List Rt := ⟨0, 1⟩ :: T
def pairOk (n : Nat) (L : List Int) (A : List Rt) (x : Nat) : Bool := (Fr.keeps (A[x / n]?.getD ⟨0, 1⟩) (A[x % n]?.getD ⟨0, 1⟩) (L[x]?.getD 0)).1
def keptL (n : Nat) (L : List Int) (T : List Rt) : Bool := (List.range (n * n)).all (pairOk n L (moments T))
def keeps (n : Int) (L : List Int) (T : List Rt) : Bool × Int :=
  if Dbm.chk n L = 0 ∧ T.all Rt.ok = true then (if (T.length : Int) = n - 1 then (keptL n.toNat L T, 0) else (false, 40)) else (false, 8)
end Dbm

theorem keeps1_any (x : Rt) (hx : x.ins) (w : World) : Calls Try.prog 36 #[.agg #[.int .i64 x.num, .int .i64 x.den]] w fun e w' => e = .returned (.bool (!x.ok)) ∧ Below w.heap.size w w' := by
  refine fun_eq 0 w Try.func36 (args := [.agg [.val (.int .i64 x.num), .val (.int .i64 x.den)]]) rfl rfl ?_
  repeat' (first
    | (refine CallI.to1 (rcheck_any x.num x.den hx.1 hx.2) fun w2 => ?_)
    | (refine Branch.yes rfl ?_)
    | (refine Branch.no rfl ?_)
    | (refine Branch.mk (fun hb => ?_) (fun hb => ?_))
    | (refine NewI.mk fun nb hnb => ?_)
    | (refine Need.mk (by show _ ∧ _; omega) ?_)
    | (refine Need.mk (by omega) ?_)
    | (refine Need.mk ?_ ?_)
    | (refine EndI.mk fun w1 h1 => ?_))
  cases h : x.ok
  · rw [Fr.chk_no h]; rfl
  · rw [Fr.chk_yes h]; rfl

theorem at2_any (n i j : Int) (h : Nat) (ad : Addr) (len cap : Nat) (h0 : 0 ≤ i * n + j) (h1 : i * n + j < len) (hin : inK .i64 (i * n) ∧ inK .i64 (i * n + j)) (w : World) (c0 : w.cell? ⟨h, 0, none⟩ = some (.int .i64 n)) (c1 : w.cell? ⟨h, 1, none⟩ = some (.slice (some ad) len cap)) :
    Calls Try.prog 33 #[.pointer (some ⟨h, 0, none⟩), .int .i64 i, .int .i64 j] w fun e w' => e = .returned (.pointer (some (ad.add ((i * n + j).toNat * 1)))) ∧ Below w.heap.size w w' := by
  refine fun_eq 0 w Try.func33 (args := [.val (.pointer (some ⟨h, 0, none⟩)), .val (.int .i64 i), .val (.int .i64 j)]) rfl rfl ?_
  refine DrawI.go (.tk 0 (.tk 1 (.tk 2 (.tk 3 (.tk 4 (.tk 5 (.tk 6 (.tk 7 (.tk 8 (.tk 9 (.tk 10 (.tk 11 (.tk 12 (.tk 13 (.tk 14 (.tk 15 .done)))))))))))))))) (by kernel_rfl) fun w1 k1 => ?_
  have hB := k1.go
  refine LoadI.mk ⟨_, ⟨(hB.cell (p := ⟨h, 1, none⟩) (World.block_lt_of_cell? _ _ c1)).trans c1, by simp⟩, ?_⟩
  refine LoadI.mk ⟨_, ⟨(hB.cell (p := ⟨h, 0, none⟩) (World.block_lt_of_cell? _ _ c0)).trans c0, by simp⟩, ?_⟩
  refine Need.mk hin.1 ?_
  refine Need.mk hin.2 ?_
  refine IdxI.mk ⟨_, ⟨rfl, h0, h1⟩, ?_⟩
  exact EndI.mk fun w2 k2 => rfl

theorem infoRat : (Try.prog.info? 34).map (fun i => (i.zero, i.size, i.bytes)) = some (some (.agg #[.int .i64 0, .int .i64 0]), 2, 16) := by kernel_rfl
theorem elR : ElOk Try.prog 32 34 2 16 := elOk (by kernel_rfl) infoRat rfl (by decide)
abbrev TR : TypeId := 34

theorem keepsFrom_below {B : Nat} {W W' : World} (h : Below W.heap.size W W') : KeepsFrom B W W' := ⟨h.size, fun k o _ hk hc => (h.block k (Array.getElem?_eq_some_iff.1 hk).1).trans hk⟩
theorem keepsFrom_own {B : Nat} {L : List Nat} {W w1 w2 : World} (h : Below W.heap.size W w1) (hs : w1.heap.size ≤ w2.heap.size) (hst : ∀ k, k < w1.heap.size → k ∉ L → w2.heap[k]? = w1.heap[k]?) (hL : ∀ b, b ∈ L → ∃ cs t f, W.heap[b]? = some (.cells cs t f)) : KeepsFrom B W w2 :=
  ⟨Nat.le_trans h.size hs, fun k o _ hk hc => by
    have hkW := (Array.getElem?_eq_some_iff.1 hk).1
    refine ((hst k (Nat.lt_of_lt_of_le hkW h.size) fun hm => ?_).trans (h.block k hkW)).trans hk
    obtain ⟨cs, t, f, e⟩ := hL k hm
    rw [hk] at e; injection e with e; subst e; cases hc⟩
theorem Own.own {α : Type} [Enc α] {w0 : Base} {hp : List LB} {r L : List Nat} {w w1 : World} {l : List α} (h : At w0 hp r L w w1) (i : Nat) {b n : Nat} {c : LB} (hi : r[i]? = some b) (hc : hget hp i = some c) (hm : denL r c.cells = cellsL l) (hb : w0.B ≤ b) (hn : n = l.length := by rfl) (hmax : n ≤ maxLen := by decide) : Own c.ty w0.B w1 (.slice (some ⟨b, 0, none⟩) n n) l := by
  subst hn
  have h1 := h.blk i b c hi hc
  refine ⟨cellsL_len l, .inr ⟨b, _, _, rfl, hb, h1, Nat.le_refl _, hmax, ?_, ?_⟩⟩
  · rw [hm, List.size_toArray, cellsL_len]
  · rw [hm, List.take_of_length_le (by rw [cellsL_len]; exact Nat.le_refl _)]
theorem dkeeps_any (n : Int) (a : Option Addr) (cap : Nat) (L : List Int) (T : List Rt) (at_ : Option Addr) (ct : Nat) (w : World) (hT : ∀ x ∈ T, x.ins) (hS : Sl w.heap.size w (.slice a L.length cap) L) (hST : Sl w.heap.size w (.slice at_ T.length ct) T) :
    Calls Try.prog 15 #[.agg #[.int .i64 n, .slice a L.length cap], .slice at_ T.length ct] w (Ret w fun v w' => v = .tuple #[.bool (Dbm.keeps n L T).1, .int .i64 (Dbm.keeps n L T).2]) := by
  refine fun_at 9 w.heap.size w (Nat.le_refl _) Try.func15 (args := [.agg [.val (.int .i64 n), .val (.slice a L.length cap)], .val (.slice at_ T.length ct)]) rfl rfl ?_
  refine NewI.mk fun b1 hb1 => ?_
  refine NewI.mk fun b2 hb2 => ?_
  refine NewI.mk fun b3 hb3 => ?_
  apply CallI.use1
  · exact fun w1 h1 => dcheck_any n a cap L w1 (Sl.at h1 hS)
  intro w1 w2 h1 hB2
  refine Branch.mk (fun hc => ?_) (fun hc => ?_)
  · refine EndI.mk fun w3 h3 => ?_
    have h0 : Dbm.chk n L ≠ 0 := by simpa using hc
    rw [Dbm.keeps, if_neg (fun h => h0 h.1)]
  have hc0 : Dbm.chk n L = 0 := by simpa using hc
  apply CallI.use1
  · exact fun w3 h3 => containsR_pure T (fun x => !x.ok) at_ ct 36 #[] w3 (Sl.at h3 hST) Try.call36 fun x W hx _ => keeps1_any x (hT x hx) W
  intro w3 w4 h3 hB4
  refine Branch.mk (fun hc2 => ?_) (fun hc2 => ?_)
  · refine EndI.mk fun w5 h5 => ?_
    have h0 : ¬ T.all Rt.ok = true := by
      simp only [List.any_eq_true] at hc2
      obtain ⟨x, hx, h⟩ := hc2
      rw [List.all_eq_true]
      intro h'
      rw [h' x hx] at h; cases h
    rw [Dbm.keeps, if_neg (fun h => h0 h.2)]
  have hok : T.all Rt.ok = true := by
    rw [List.all_eq_true]
    intro x hx
    cases h : Rt.ok x
    · have : (T.any fun x => !x.ok) = true := List.any_eq_true.2 ⟨x, hx, by rw [h]; rfl⟩
      rw [this] at hc2; cases hc2
    · rfl
  obtain ⟨c1, c2, c3, c4⟩ := Dbm.chk_iff.1 hc0
  refine Need.mk (by show _ ∧ _; omega) ?_
  refine Branch.mk (fun hc3 => ?_) (fun hc3 => ?_)
  · refine EndI.mk fun w5 h5 => ?_
    have h0 : ¬ ((T.length : Int) = n - 1) := by simpa using hc3
    rw [Dbm.keeps, if_pos ⟨hc0, hok⟩, if_neg h0]
  have hlen : (T.length : Int) = n - 1 := by simpa using hc3
  have hkp : Dbm.keeps n L T = (Dbm.keptL n.toNat L T, 0) := by rw [Dbm.keeps, if_pos ⟨hc0, hok⟩, if_pos hlen]
  rw [hkp]
  refine NewI.mk fun b4 hb4 => ?_
  refine GenN.appF (α := Rt) elR [⟨0, 1⟩] T w.heap.size rfl ?_ (fun w5 h5 => (Sl.at h5 hST).src) (by unfold maxLen; simp; omega) (by simp; omega) (fun w5 h5 => h5.below.size) ?_
  · exact fun w5 h5 => Own.own h5 3 rfl rfl rfl (Nat.le_trans (Nat.le_trans h3.below.size hB4.size) hb4)
  intro v w5 w6 h5 hB6 hO
  obtain ⟨av, cv, rfl⟩ := hO.form
  refine NewI.mk fun b5 hb5 => ?_
  refine NewI.mk fun b6 hb6 => ?_
  refine NewI.mk fun b7 hb7 => ?_
  apply CallI.mk
  intro w7 h7
  refine (callsIn_wide.1 (pairs_any n w7)).mono ?_
  rintro e w8 ⟨rfl, rfl⟩
  have hB1 : Below w7.heap.size w7 (w7.alloc (.cells #[.int .i64 n] 3)) := below_al (Below.refl _ _)
  refine ⟨h7.keep hB1, _, rfl, ?_⟩
  have hBs : (w7.alloc (.cells #[.int .i64 (n : Int)] 3)).cell? ⟨w7.heap.size, 0, none⟩ = some (.int .i64 n) := by simp
  have hsz : w7.heap.size < (w7.alloc (.cells #[.int .i64 (n : Int)] 3)).heap.size := by simp
  generalize hw2 : w7.alloc (.cells #[.int .i64 (n : Int)] 3) = w8 at hBs hsz hB1
  generalize hbs : w7.heap.size = Bs at hBs hsz
  refine RawI.mk fun ac w9 hR => ?_
  have h9 := hR.at_
  have hB9 : Below w8.heap.size w8 w9 := h9.go
  have hBs9 : Bs < w9.heap.size := Nat.lt_of_lt_of_le hsz hB9.size
  have hc9 : w9.cell? ⟨Bs, 0, none⟩ = some (.int .i64 n) := (hB9.cell (p := ⟨Bs, 0, none⟩) hsz).trans hBs
  have hw6 : Below w.heap.size w w6 := h5.below.trans (hB6.mono h5.below.size)
  have hB7 : Below w6.heap.size w6 w7 := h7.from hw6 (Below.refl _ _) (by intro b hb; simp at hb; rcases hb with rfl | rfl | rfl <;> assumption)
  have hSA : Sl w9.heap.size w9 (.slice av ([(⟨0, 1⟩ : Rt)] ++ T).length cv) ([⟨0, 1⟩] ++ T) := ((hO.sl.go hB7 hB7.size).go hB1 hB1.size).go hB9 hB9.size
  obtain ⟨N, rfl⟩ : ∃ N : Nat, n = N := ⟨n.toNat, by omega⟩
  have hN1 : 1 ≤ N := by omega
  have hN4 : N ≤ 4 := by omega
  have hLl : L.length = N * N := by exact_mod_cast c3
  refine rangeD cxOk (by decide) hR rfl Try.call60 (pairs_stops N (by omega) (by omega) (N * N) rfl Bs w9 hBs9 hc9) (fun h k => k.trans h) (fun W l o o' => keepsBox_put hBs9 W l o o')
    (fun W W' hs hg => World.cell?_of_block (hg.block Bs (Nat.lt_of_lt_of_le hBs9 hs) (by rintro ⟨⟩))) (fun x => rfl) (fun _ => _) (fun pre W => w9.grownBy W none ∧ ∀ x ∈ pre, Dbm.pairOk N L (Dbm.moments T) x.1 = true) ?_ rfl ⟨grown_refl _ _, by simp⟩ (fun c _ _ => c = .ret ∧ Dbm.keptL N L T = false) (fun _ _ => [⟨[.val (.int .i64 N), .val (.slice a L.length cap)], 24⟩, ⟨[.kb false], 4⟩, ⟨[.val (.int .i64 0)], 26⟩, ⟨[.val (.int .i64 0), .val (.int .i64 1)], 34⟩, ⟨[.val (.slice av ([(⟨0, 1⟩ : Rt)] ++ T).length cv)], 32⟩, ⟨[.val (.int .i64 N), .val (.slice a L.length cap)], 62⟩, ⟨[.loc 5 0], 60⟩]) (fun _ _ _ _ _ h _ _ => h) _
    (fun l z hp W => And.intro rfl rfl) ?_ ?_ ?_
  · intro pre W W' row hs hg' hr'
    exact ⟨ownFrom_grown (row0 := none) (w := w9) (Nat.le_refl _) pre W W' row hs.1 hg' hr', hs.2⟩
  · rintro l pre x W ⟨gW, hall⟩ hBW hsW hlen
    obtain ⟨x, hx⟩ := x
    have e3 := idx_ij hN1 hN4 hx
    have hxi : x / N < N := Nat.div_lt_of_lt_mul hx
    have hxj : x % N < N := Nat.mod_lt _ hN1
    have hAl : ([(⟨0, 1⟩ : Rt)] ++ T).length = N := by simp; omega
    have hAi : ∀ y ∈ [(⟨0, 1⟩ : Rt)] ++ T, y.ins := by
      intro y hy
      rcases List.mem_append.1 hy with h | h
      · rw [List.mem_singleton.1 h]; simp [Rt.ins, inK]
      · exact hT y h
    have hg1 := List.getElem?_eq_getElem (l := [(⟨0, 1⟩ : Rt)] ++ T) (i := x / N) (by rw [hAl]; exact hxi)
    have hg2 := List.getElem?_eq_getElem (l := [(⟨0, 1⟩ : Rt)] ++ T) (i := x % N) (by rw [hAl]; exact hxj)
    generalize ([(⟨0, 1⟩ : Rt)] ++ T)[x / N]'_ = y1 at hg1
    generalize ([(⟨0, 1⟩ : Rt)] ++ T)[x % N]'_ = y2 at hg2
    have hgL := List.getElem?_eq_getElem (l := L) (i := x) (by rw [hLl]; exact hx)
    generalize L[x]'_ = bx at hgL
    have hok1 : Dbm.pairOk N L (Dbm.moments T) x = (Fr.keeps y1 y2 bx).1 := by
      unfold Dbm.pairOk Dbm.moments
      have e1 : (⟨0, 1⟩ :: T : List Rt) = [⟨0, 1⟩] ++ T := rfl
      rw [e1, hg1, hg2, hgL]; rfl
    have B9 : Below w9.heap.size w9 W := ⟨gW.os, gW.tape, gW.output, gW.size, fun k hk => gW.block k hk (by simp)⟩
    refine DrawI.go (.tk 0 (.tk 1 (.tk 2 (.tk 3 (.tk 4 (.tk 5 (.tk 6 (.tk 7 (.tk 8 (.tk 9 (.tk 10 (.ev 11 (.tk 12 (.tk 13 (.ev 14 (.tk 15 (.tk 16 (.tk 17 (.tk 18 (.tk 19 .done)))))))))))))))))))) (by kernel_rfl) fun w10 h10 => ?_
    have hA10 : Sl w10.heap.size w10 (.slice av ([(⟨0, 1⟩ : Rt)] ++ T).length cv) ([⟨0, 1⟩] ++ T) := (hSA.go B9 B9.size).go h10.go h10.go.size
    have e1 : ((x : Int) / N) = ((x / N : Nat) : Int) := rfl
    have e2 : ((x : Int) % N) = ((x % N : Nat) : Int) := rfl
    refine hA10.idx hg1 fun ad had => ?_
    refine hA10.ld hg1 had (Below.refl _ _) (by simp) ?_
    refine hA10.idx hg2 fun ad2 had2 => ?_
    refine hA10.ld hg2 had2 (Below.refl _ _) (by simp) ?_
    have hS10 := hS.go h10.below h10.below.size
    obtain ⟨al, hal⟩ : ∃ al, a = some al := by
      obtain ⟨_, _, e0, _, _, _, h4⟩ := hS10
      obtain ⟨b, o, h, _⟩ := h4 x bx hgL
      injection e0 with e0
      exact ⟨_, e0.trans h⟩
    subst hal
    apply CallI.use1
    · exact fun w11 h11 => at2_any N _ _ b6 al L.length cap e3.1 (by rw [hLl]; exact e3.2.1) ⟨e3.2.2.1, e3.2.2.2.1⟩ w11 (h11.own (i := 5) (o := 0) rfl rfl rfl) (h11.own (i := 5) (o := 1) rfl rfl rfl)
    intro w11 w12 h11 hB12
    rw [e3.2.2.2.2]
    refine hS10.ld1 hgL rfl (Below.refl _ _) (by simp) ?_
    apply CallI.use1
    · exact fun w13 h13 => rkeeps_any y1 y2 (hAi y1 (List.mem_of_getElem? hg1)) (hAi y2 (List.mem_of_getElem? hg2)) bx w13
    intro w13 w14 h13 hB14
    refine Branch.mk (fun hb => ?_) (fun hb => ?_)
    · have hno : (Fr.keeps y1 y2 bx).1 = false := by simpa using hb
      refine Need.mk (CovH.mk rfl rfl rfl) (EndI.mk fun w15 h15 => ⟨?_, rfl, ?_⟩)
      · have k12 := h11.step2 hB12
        have B10 := h10.go
        have B14 : Below W.heap.size W w14 := B10.trans ((k12.trans ((h13.step2 hB14).mono k12.size)).mono B10.size)
        refine keepsFrom_own B14 h15.size h15.step fun b hb => ?_
        simp at hb
        rcases hb with rfl | rfl
        · exact ⟨_, _, _, (gW.block _ (h9.lt _ (by simp)) (by simp)).trans (h9.blk 2 _ ⟨_, _⟩ (by rfl) (by rfl))⟩
        · exact ⟨_, _, _, (gW.block _ (h9.lt _ (by simp)) (by simp)).trans (h9.blk 1 _ ⟨_, _⟩ (by rfl) (by rfl))⟩
      · rw [Dbm.keptL, List.all_eq_false]
        exact ⟨x, List.mem_range.2 hx, by rw [hok1, hno]; simp⟩
    · have hyes : (Fr.keeps y1 y2 bx).1 = true := by simpa using hb
      have k12 := h11.step2 hB12
      have B10 := h10.go
      have B14 : Below W.heap.size W w14 := B10.trans ((k12.trans ((h13.step2 hB14).mono k12.size)).mono B10.size)
      refine Need.mk (CovH.mk rfl rfl rfl) (EndI.mk fun w15 h15 => ?_)
      have B15 : Below W.heap.size W w15 := B14.trans (h15.go.mono B14.size)
      refine ⟨keepsFrom_below B15, World.cell?_of_block (B15.block Bs (Nat.lt_of_lt_of_le hBs9 hsW)), grown_below gW B15, ?_⟩
      intro z hz
      rcases List.mem_append.1 hz with h | h
      · exact hall z h
      · rw [List.mem_singleton.1 h]
        show Dbm.pairOk N L (Dbm.moments T) x = true
        rw [hok1, hyes]
  · rintro D xs W hD hSx ⟨gW, hall⟩ hmark
    have hk : Dbm.keptL N L T = true := by
      rw [Dbm.keptL, List.all_eq_true]
      intro x hx
      rw [← hSx] at hx
      obtain ⟨y, hy, rfl⟩ := List.mem_map.1 hx
      exact hall y hy
    have hDW : D < W.heap.size := (Array.getElem?_eq_some_iff.1 hmark).1
    have hl2 := h9.lt b2 (by simp)
    have hl3 := h9.lt b3 (by simp)
    refine EndM.mk fun w10 h10 => ⟨⟨Nat.le_trans h9.below.size hD, (h10.step D hDW (by intro hm; simp at hm; omega)).trans hmark⟩, fun w11 hu => ?_⟩
    rw [Int.toNat_natCast, hk]
  · rintro D c e pre W hD hSp ⟨rfl, hk⟩ he hmark
    cases he
    have hDW : D < W.heap.size := (Array.getElem?_eq_some_iff.1 hmark).1
    refine EndM.mk fun w10 h10 => ⟨⟨Nat.le_trans h9.below.size hD, (h10.step D hDW (by simp)).trans hmark⟩, fun w11 hu => ?_⟩
    rw [Int.toNat_natCast, hk]
end Go.Proofs.Ytnhfkodjphplfaa

/-
  Plain laws of a clock more: closing goes alike, and what is kept. No program is in sight.
-/
namespace Go.Proofs.Ytnhfkodjphplfaa.Proj
set_option linter.unusedVariables false
open Go.Proofs.Ytnhfkodjphplfaa.Dbm

/-- G is L with a clock more. -/
structure Sim (N : Nat) (L G : List Int) : Prop where
  l : L.length = N * N
  g : G.length = (N + 1) * (N + 1)
  in_ : ∀ i j, i < N → j < N → G[i * (N + 1) + j]?.getD 0 = L[i * N + j]?.getD 0
  row : ∀ j, j < N → G[N * (N + 1) + j]?.getD 0 = NO
  col : ∀ i, i < N → G[i * (N + 1) + N]?.getD 0 = NO
  own : G[N * (N + 1) + N]?.getD 0 = 1

theorem growL_len (N : Nat) (L : List Int) : (growL N L).length = (N + 1) * (N + 1) := by simp [growL, madeL_len]
theorem growL_get {N : Nat} (L : List Int) {i j : Nat} (hi : i < N + 1) (hj : j < N + 1) : (growL N L)[i * (N + 1) + j]?.getD 0 = if i = N ∧ j = N then 1 else if i = N ∨ j = N then NO else L[i * N + j]?.getD 0 := by
  have hp := place_lt hi hj
  have hl : N * (N + 1) + N = (N + 1) * (N + 1) - 1 := by rw [Nat.succ_mul]; omega
  unfold growL
  rw [List.getElem?_set]
  by_cases h : i = N ∧ j = N
  · obtain ⟨rfl, rfl⟩ := h
    rw [if_pos hl.symm, if_pos (by rw [madeL_len]; omega), if_pos ⟨rfl, rfl⟩]; rfl
  · rw [if_neg (fun e => h (place_inj hj (by omega : N < N + 1) (e.symm.trans hl.symm))), if_neg h]
    unfold madeL
    rw [List.getElem?_map, List.getElem?_range hp]
    simp only [Option.map_some, Option.getD_some]
    have hF : growF N (i * (N + 1) + j) = if max i j = N then -1 else ((i * N + j : Nat) : Int) := by unfold growF; rw [place_div hj, place_mod hj]
    rw [hF]
    by_cases h2 : i = N ∨ j = N
    · rw [if_pos h2, if_pos (by omega : max i j = N), if_neg (by omega)]; rfl
    · rw [if_neg h2, if_neg (by omega : ¬ max i j = N), if_pos (Int.natCast_nonneg _), Int.toNat_natCast]
theorem Sim.start {N : Nat} {L : List Int} (hL : L.length = N * N) : Sim N L (growL N L) := by
  refine ⟨hL, growL_len N L, fun i j hi hj => ?_, fun j hj => ?_, fun i hi => ?_, ?_⟩
  · rw [growL_get L (by omega) (by omega), if_neg (by omega), if_neg (by omega)]
  · rw [growL_get L (by omega) (by omega), if_neg (by omega), if_pos (by omega)]
  · rw [growL_get L (by omega) (by omega), if_neg (by omega), if_pos (by omega)]
  · rw [growL_get L (by omega) (by omega), if_pos ⟨rfl, rfl⟩]

theorem get_set {L : List Int} {p q : Nat} {x : Int} (hp : p < L.length) : (L.set p x)[q]?.getD 0 = if p = q then x else L[q]?.getD 0 := by
  rw [List.getElem?_set]
  by_cases h : p = q
  · rw [if_pos h, if_pos hp, if_pos h]; rfl
  · rw [if_neg h, if_neg h]
theorem Sim.set {N : Nat} {L G : List Int} (h : Sim N L G) {a : Nat} (ha : a < N) (x : Int) : Sim N (L.set (a * N + a) x) (G.set (a * (N + 1) + a) x) := by
  have p1 : a * N + a < L.length := by rw [h.l]; exact place_lt ha ha
  have p2 : a * (N + 1) + a < G.length := by rw [h.g]; exact place_lt (by omega) (by omega)
  refine ⟨by simp [h.l], by simp [h.g], fun i j hi hj => ?_, fun j hj => ?_, fun i hi => ?_, ?_⟩
  · rw [get_set p1, get_set p2, h.in_ i j hi hj]
    by_cases e : a = i ∧ a = j
    · obtain ⟨rfl, rfl⟩ := e; rw [if_pos rfl, if_pos rfl]
    · rw [if_neg (fun e' => e (place_inj (by omega) (by omega) e')), if_neg (fun e' => e (place_inj ha hj e'))]
  · rw [get_set p2, if_neg (fun e' => by have := place_inj (by omega) (by omega) e'; omega)]; exact h.row j hj
  · rw [get_set p2, if_neg (fun e' => by have := place_inj (by omega) (by omega) e'; omega)]; exact h.col i hi
  · rw [get_set p2, if_neg (fun e' => by have := place_inj (by omega) (by omega) e'; omega)]; exact h.own

/-- two that go alike. -/
def Alike (N : Nat) (a b : Option (List Int)) : Prop := (a = none ∧ b = none) ∨ ∃ L G, a = some L ∧ b = some G ∧ Sim N L G
theorem diag_alike {N : Nat} {L G : List Int} (h : Sim N L G) : ∀ n, n ≤ N → Alike N ((List.range n).foldlM (diag1 N) L) ((List.range n).foldlM (diag1 (N + 1)) G) := by
  intro n
  induction n with
  | zero => intro _; exact .inr ⟨L, G, rfl, rfl, h⟩
  | succ n ih =>
    intro hn
    rw [List.range_succ, List.foldlM_append, List.foldlM_append]
    rcases ih (by omega) with ⟨e1, e2⟩ | ⟨L', G', e1, e2, h'⟩
    · rw [e1, e2]; exact .inl ⟨rfl, rfl⟩
    · rw [e1, e2]
      have e := h'.in_ n n (by omega) (by omega)
      simp only [Option.bind_eq_bind, Option.bind_some, List.foldlM_cons, List.foldlM_nil, diag1, e]
      by_cases hx : L'[n * N + n]?.getD 0 < 1
      · rw [if_pos hx, if_pos hx]; exact .inl ⟨rfl, rfl⟩
      · rw [if_neg hx, if_neg hx]; exact .inr ⟨_, _, rfl, rfl, h'.set (by omega) 1⟩
theorem last_diag {N : Nat} {L G : List Int} (h : Sim N L G) : diag1 (N + 1) G N = some G := by
  unfold diag1
  rw [h.own, if_neg (by omega)]
  congr 1
  apply ext_get (n := (N + 1) * (N + 1)) (by simp [h.g]) h.g
  intro q hq
  rw [get_set (by rw [h.g]; exact place_lt (by omega) (by omega))]
  split
  · rename_i e; rw [← e, h.own]
  · rfl

theorem ob_NO : ob NO = none := if_pos rfl
theorem ob_none {x : Int} (h : ob x = none) : x = NO := by unfold ob at h; split at h; assumption; cases h
theorem Sim.mx {N : Nat} {L G : List Int} (h : Sim N L G) : (∀ i j, i < N → j < N → Dbm.mx (N + 1) G i j = Dbm.mx N L i j) ∧ (∀ j, j < N → Dbm.mx (N + 1) G N j = none) ∧ (∀ i, i < N → Dbm.mx (N + 1) G i N = none) ∧ Dbm.mx (N + 1) G N N = some 1 := by
  refine ⟨fun i j hi hj => ?_, fun j hj => ?_, fun i hi => ?_, ?_⟩ <;> unfold Dbm.mx
  · rw [h.in_ i j hi hj]
  · rw [h.row j hj, ob_NO]
  · rw [h.col i hi, ob_NO]
  · rw [h.own]; rfl
theorem Sim.lim {N : Nat} {L G : List Int} (h : Sim N L G) {m : Int} (hm : 1 ≤ m) (hl : ∀ q, q < N * N → lim m (L[q]?.getD 0)) : ∀ q, q < (N + 1) * (N + 1) → Dbm.lim m (G[q]?.getD 0) := by
  refine lim_q fun i j hi hj => ?_
  by_cases h1 : i = N
  · by_cases h2 : j = N
    · subst h1; subst h2; rw [h.own]; exact .inr (by omega)
    · subst h1; rw [h.row j (by omega)]; exact .inl rfl
  · by_cases h2 : j = N
    · subst h2; rw [h.col i (by omega)]; exact .inl rfl
    · rw [h.in_ i j (by omega) (by omega)]; exact hl _ (place_lt (by omega) (by omega))

/-- one clock of those that there were. -/
theorem Sim.thr {N : Nat} {L G : List Int} (h : Sim N L G) {k : Nat} (hk : k < N) (hd : L[k * N + k]?.getD 0 = 1) (hl : ∀ q, q < N * N → Dbm.lim 864691128455135232 (L[q]?.getD 0)) : Sim N (thrL N k L) (thrL (N + 1) k G) := by
  have hlL : ∀ q, q < N * N → Dbm.lim 1152921504606846976 (L[q]?.getD 0) := fun q hq => lim_mono (hl q hq) (by omega)
  have hlG := h.lim (by omega) hlL
  have hdG : G[k * (N + 1) + k]?.getD 0 = 1 := by rw [h.in_ k k hk hk, hd]
  obtain ⟨m1, m2, m3, m4⟩ := h.mx
  have tL : ∀ i j, i < N → j < N → Dbm.mx N (thrL N k L) i j = Dbm.thr k (Dbm.mx N L) i j := fun i j hi hj => thrL_mx hk h.l hd hlL hi hj
  have tG : ∀ i j, i < N + 1 → j < N + 1 → Dbm.mx (N + 1) (thrL (N + 1) k G) i j = Dbm.thr k (Dbm.mx (N + 1) G) i j := fun i j hi hj => thrL_mx (by omega) h.g hdG hlG hi hj
  refine ⟨by rw [thrL, foldl_upd_length, h.l], by rw [thrL, foldl_upd_length, h.g], fun i j hi hj => ?_, fun j hj => ?_, fun i hi => ?_, ?_⟩
  · have e : Dbm.mx (N + 1) (thrL (N + 1) k G) i j = Dbm.mx N (thrL N k L) i j := by
      rw [tG i j (by omega) (by omega), tL i j hi hj]
      unfold Dbm.thr
      rw [m1 i j hi hj, m1 i k hi hk, m1 k j hk hj]
    exact ob_inj e
  · refine ob_none ?_
    show Dbm.mx (N + 1) (thrL (N + 1) k G) N j = none
    rw [tG N j (by omega) (by omega)]
    unfold Dbm.thr
    rw [m2 k hk, m2 j hj]; rfl
  · refine ob_none ?_
    show Dbm.mx (N + 1) (thrL (N + 1) k G) i N = none
    rw [tG i N (by omega) (by omega)]
    unfold Dbm.thr
    rw [m3 k hk, m3 i hi, oadd_none]; rfl
  · refine ob_inj (u := (thrL (N + 1) k G)[N * (N + 1) + N]?.getD 0) (v := 1) ?_
    show Dbm.mx (N + 1) (thrL (N + 1) k G) N N = some 1
    rw [tG N N (by omega) (by omega)]
    unfold Dbm.thr
    rw [m2 k hk, m4]; rfl
/-- the new clock. -/
theorem Sim.last {N : Nat} {L G : List Int} (h : Sim N L G) (hl : ∀ q, q < N * N → Dbm.lim 864691128455135232 (L[q]?.getD 0)) : thrL (N + 1) N G = G := by
  have hlG := h.lim (m := 1152921504606846976) (by omega) (fun q hq => lim_mono (hl q hq) (by omega))
  obtain ⟨m1, m2, m3, m4⟩ := h.mx
  refine ext_get (n := (N + 1) * (N + 1)) (by rw [thrL, foldl_upd_length, h.g]) h.g fun q hq => ?_
  rw [← div_mod (p := q) (N := N + 1)]
  have hi := div_lt hq
  have hj := mod_lt hq
  generalize q / (N + 1) = i at hi
  generalize q % (N + 1) = j at hj
  refine ob_inj ?_
  show Dbm.mx (N + 1) (thrL (N + 1) N G) i j = Dbm.mx (N + 1) G i j
  rw [thrL_mx (by omega) h.g h.own hlG hi hj]
  unfold Dbm.thr
  by_cases h1 : i = N
  · subst h1
    rw [m4, one_oadd]
    split
    · rfl
    · rfl
  · rw [m3 i (by omega), none_oadd]; rfl
theorem Sim.diagOk {N : Nat} {L G : List Int} (h : Sim N L G) : diagOk (N + 1) G = Dbm.diagOk N L := by
  have e : ∀ i, i ∈ List.range N → decide (1 ≤ G[i * (N + 1) + i]?.getD 0) = decide (1 ≤ L[i * N + i]?.getD 0) := fun i hi => by
    rw [h.in_ i i (List.mem_range.1 hi) (List.mem_range.1 hi)]
  unfold Dbm.diagOk
  rw [List.range_succ, List.all_append]
  have : ([N].all fun i => decide (1 ≤ G[i * (N + 1) + i]?.getD 0)) = true := by simp [h.own]
  rw [this, Bool.and_true]
  rw [Bool.eq_iff_iff, List.all_eq_true, List.all_eq_true]
  exact ⟨fun h' i hi => (e i hi) ▸ h' i hi, fun h' i hi => (e i hi).symm ▸ h' i hi⟩

theorem close_alike {N : Nat} {L : List Int} (h0 : chk N L = 0) : Alike N (closeL N L) (closeL (N + 1) (growL N L)) := by
  obtain ⟨c1, c2, c3, c4⟩ := chk_iff.1 h0
  have hN4 : N ≤ 4 := by omega
  have hL : L.length = N * N := by exact_mod_cast c3
  unfold closeL
  have hs := Sim.start hL
  have e0 : (List.range (N + 1)).foldlM (diag1 (N + 1)) (growL N L) = (List.range N).foldlM (diag1 (N + 1)) (growL N L) := by
    rw [List.range_succ, List.foldlM_append]
    rcases diag_alike hs N (Nat.le_refl _) with ⟨e1, e2⟩ | ⟨L', G', e1, e2, h'⟩
    · rw [e2]; rfl
    · rw [e2]
      simp [last_diag h']
  rw [e0]
  rcases diag_alike hs N (Nat.le_refl _) with ⟨e1, e2⟩ | ⟨L1, G1, e1, e2, h1⟩
  · rw [e1, e2]; exact .inl ⟨rfl, rfl⟩
  rw [e1, e2, Option.bind_some, Option.bind_some]
  obtain ⟨a1, a2, a3⟩ := diag_spec hL N L1 (Nat.le_refl _) e1
  have hd1 : ∀ i, i < N → Dbm.mx N L1 i i = some 1 := fun i hi => by unfold Dbm.mx; rw [a3 i i hi hi, if_pos ⟨rfl, hi⟩]; rfl
  have hE : ∀ i j v, i < N → j < N → Dbm.mx N L1 i j = some v → -288230376151711744 ≤ v / 2 ∧ v / 2 ≤ 288230376151711744 := fun i j v hi hj hv => by
    obtain ⟨e1, e2⟩ := mx_some hv
    rw [a3 i j hi hj] at e1
    split at e1
    · subst e1; decide
    · have := chk_lim h0 (i * N + j) (by rw [hL]; exact place_lt hi hj)
      rw [e1] at this
      exact this.resolve_left e2
  have key : ∀ n, n ≤ N → Alike N ((List.range n).foldlM (stage N) L1) ((List.range n).foldlM (stage (N + 1)) G1) := by
    intro n
    induction n with
    | zero => intro _; exact .inr ⟨L1, G1, rfl, rfl, h1⟩
    | succ n ih =>
      intro hn
      rw [List.range_succ, List.foldlM_append, List.foldlM_append]
      rcases ih (by omega) with ⟨e1, e2⟩ | ⟨M, G', e1, e2, h'⟩
      · rw [e1, e2]; exact .inl ⟨rfl, rfl⟩
      · obtain ⟨b1, b2⟩ := fold_inv hN4 a1 hd1 hE n M (by omega) e1
        have hlM := inv_lim b2 (by omega) hN4 hE
        have hMd : M[n * N + n]?.getD 0 = 1 := (mx_some (b2.diag n (by omega))).1
        have ht := h'.thr (by omega) hMd hlM
        rw [e1, e2]
        simp only [Option.bind_eq_bind, Option.bind_some, List.foldlM_cons, List.foldlM_nil, stage, ht.diagOk]
        cases hdk : Dbm.diagOk N (thrL N n M)
        · exact .inl ⟨rfl, rfl⟩
        · exact .inr ⟨_, _, rfl, rfl, ht⟩
  rw [List.range_succ, List.foldlM_append]
  rcases key N (Nat.le_refl _) with ⟨e1, e2⟩ | ⟨C, G', e1, e2, h'⟩
  · rw [e1, e2]; exact .inl ⟨rfl, rfl⟩
  · obtain ⟨b1, b2⟩ := fold_inv hN4 a1 hd1 hE N C (Nat.le_refl _) e1
    have hl := h'.last (inv_lim b2 (Nat.le_refl _) hN4 hE)
    have hdk : Dbm.diagOk (N + 1) G' = true := by
      rw [h'.diagOk, Dbm.diagOk, List.all_eq_true]
      intro i hi
      rw [(mx_some (b2.diag i (List.mem_range.1 hi))).1]; decide
    rw [e1, e2]
    refine .inr ⟨C, G', rfl, ?_, h'⟩
    simp [stage, hl, hdk]

/-- a clock that came, and goes, leaves the closed one. -/
theorem drop_grow {N : Nat} {C G : List Int} (h : Sim N C G) : dropL (N + 1) N G = C := by
  refine ext_get (dropL_len _ _ _) (by rw [h.l]; rfl) fun q hq => ?_
  have hi := div_lt hq
  have hj := mod_lt hq
  rw [← div_mod (p := q) (N := N + 1 - 1), dropL_get G hi hj]
  simp only [Nat.add_sub_cancel] at hi hj ⊢
  rw [show sk N (q / N) = q / N by unfold sk; rw [if_pos hi], show sk N (q % N) = q % N by unfold sk; rw [if_pos hj], h.in_ _ _ hi hj]
theorem chk_grow {N : Nat} {L : List Int} (h0 : chk N L = 0) (hN : N ≠ 4) : chk ((N : Int) + 1) (growL N L) = 0 := by
  obtain ⟨c1, c2, c3, c4⟩ := chk_iff.1 h0
  have hL : L.length = N * N := by exact_mod_cast c3
  refine chk_iff.2 ⟨by omega, by omega, by rw [growL_len]; rfl, ?_⟩
  rw [List.any_eq_false] at c4 ⊢
  intro x hx
  obtain ⟨q, hq, rfl⟩ := List.mem_iff_getElem.1 hx
  have hq' : q < (N + 1) * (N + 1) := by rw [← growL_len N L]; exact hq
  have e := growL_get L (div_lt hq') (mod_lt hq')
  rw [div_mod, List.getElem?_eq_getElem hq, Option.getD_some] at e
  rw [e]
  split
  · decide
  · split
    · decide
    · have hp : q / (N + 1) * N + q % (N + 1) < L.length := by rw [hL]; exact place_lt (by have := div_lt hq'; omega) (by have := mod_lt hq'; omega)
      rw [List.getElem?_eq_getElem hp]
      exact c4 _ (List.getElem_mem hp)

/-- Grow, where it may be. -/
theorem grow_ok {n : Int} {L : List Int} (h : (grow n L).2.2 = 0) : ∃ N : Nat, n = N ∧ chk N L = 0 ∧ N ≠ 4 ∧ grow n L = ((N : Int) + 1, growL N L, 0) := by
  unfold grow at h ⊢
  split at h
  · rename_i h0
    split at h
    · cases h
    · rename_i h1
      obtain ⟨N, rfl⟩ : ∃ N : Nat, n = N := ⟨n.toNat, by have := (chk_iff.1 h0).1; omega⟩
      exact ⟨N, rfl, h0, by omega, by rw [if_pos h0, if_neg h1, Int.toNat_natCast]⟩
  · cases h
theorem grow_err {n : Int} {L : List Int} (h : (grow n L).2.2 ≠ 0) : (grow n L).2.1 = [] := by
  unfold grow at h ⊢
  split
  · rename_i h0
    rw [if_pos h0] at h
    split
    · rfl
    · rename_i h1; rw [if_neg h1] at h; exact absurd rfl h
  · rfl
/-- there and back. -/
theorem grow_drop {n : Int} {L : List Int} (h : (grow n L).2.2 = 0) : drop (grow n L).1 (grow n L).2.1 n = close n L := by
  obtain ⟨N, rfl, h0, h4, e⟩ := grow_ok h
  have hc := chk_grow h0 h4
  have hN := (chk_iff.1 h0).1
  rw [e]
  unfold drop close
  simp only
  rw [if_pos hc, if_neg (by omega), if_pos h0, show ((N : Int) + 1).toNat = N + 1 by omega, Int.toNat_natCast]
  rcases close_alike h0 with ⟨e1, e2⟩ | ⟨C, G, e1, e2, hs⟩
  · rw [e1, e2]
  · rw [e1, e2]
    simp only
    rw [drop_grow hs, show (N : Int) + 1 - 1 = N by omega]

theorem keeps_NO {a b : Rt} (ha : a.ok = true) (hb : b.ok = true) : (Fr.keeps a b NO).1 = true := by
  unfold Fr.keeps
  rw [ha, hb, show Bd.may NO = true from Bd.may_none]; rfl
theorem keeps_self {a : Rt} (ha : a.ok = true) : (Fr.keeps a a 1).1 = true := by
  unfold Fr.keeps
  rw [ha, show Bd.may 1 = true by decide]
  have h1 : Fr.kept a a 1 = true := by
    have hr : Fr.rest a a = 0 := by simp [Fr.rest, cmpI]
    have hs : Fr.sign (a.num / a.den - a.num / a.den) (1 / 2) (Fr.rest a a) = 0 := by
      unfold Fr.sign
      rw [hr, Int.sub_self, show cmpI 0 (1 / 2) = 0 by decide]; rfl
    unfold Fr.kept
    rw [hs]; decide
  rw [h1]; rfl
theorem keptL_iff {N : Nat} {L : List Int} {T : List Rt} : keptL N L T = true ↔ ∀ i j, i < N → j < N → (Fr.keeps ((moments T)[i]?.getD ⟨0, 1⟩) ((moments T)[j]?.getD ⟨0, 1⟩) (L[i * N + j]?.getD 0)).1 = true := by
  unfold keptL
  rw [List.all_eq_true]
  constructor
  · intro h i j hi hj
    have := h (i * N + j) (List.mem_range.2 (place_lt hi hj))
    unfold pairOk at this
    rwa [place_div hj, place_mod hj] at this
  · intro h q hq
    have hq := List.mem_range.1 hq
    unfold pairOk
    have := h (q / N) (q % N) (div_lt hq) (mod_lt hq)
    rwa [div_mod] at this
theorem keeps_ok {n : Int} {L : List Int} {T : List Rt} (h : (keeps n L T).2 = 0) : chk n L = 0 ∧ T.all Rt.ok = true ∧ (T.length : Int) = n - 1 ∧ keeps n L T = (keptL n.toNat L T, 0) := by
  unfold keeps at h ⊢
  split at h
  · rename_i h0
    split at h
    · rename_i h1
      exact ⟨h0.1, h0.2, h1, by rw [if_pos h0, if_pos h1]⟩
    · cases h
  · cases h
theorem mom_ok {T : List Rt} (h : T.all Rt.ok = true) (i : Nat) : ((moments T)[i]?.getD ⟨0, 1⟩).ok = true := by
  have h0 : (⟨0, 1⟩ : Rt).ok = true := by decide
  cases hg : (moments T)[i]? with
  | none => exact h0
  | some x =>
    rcases List.mem_cons.1 (List.mem_of_getElem? hg) with rfl | hm
    · exact h0
    · exact List.all_eq_true.1 h x hm
/-- times keep one with a clock more just if the others keep it. -/
theorem grow_keeps {n : Int} {L : List Int} {T : List Rt} {m : Rt} (h : (grow n L).2.2 = 0) (h1 : (keeps n L T).2 = 0) (h2 : (keeps (grow n L).1 (grow n L).2.1 (T ++ [m])).2 = 0) : (keeps n L T).1 = (keeps (grow n L).1 (grow n L).2.1 (T ++ [m])).1 := by
  obtain ⟨N, rfl, h0, h4, e⟩ := grow_ok h
  obtain ⟨_, t1, l1, e1⟩ := keeps_ok h1
  rw [e] at h2 ⊢
  obtain ⟨_, t2, l2, e2⟩ := keeps_ok h2
  have hL : L.length = N * N := by have := (chk_iff.1 h0).2.2.1; exact_mod_cast this
  have hs := Sim.start hL
  rw [e1, e2]
  simp only
  rw [show ((N : Int) + 1).toNat = N + 1 by omega, Int.toNat_natCast, Bool.eq_iff_iff, keptL_iff, keptL_iff]
  have hN := (chk_iff.1 h0).1
  have hlen : (moments T).length = N := by simp [moments]; omega
  have hm : ∀ i, i < N → (moments (T ++ [m]))[i]? = (moments T)[i]? := fun i hi => by
    rw [show moments (T ++ [m]) = moments T ++ [m] from rfl, List.getElem?_append_left (by omega)]
  constructor
  · intro hk i j hi hj
    by_cases c1 : i = N
    · by_cases c2 : j = N
      · subst c1; subst c2; rw [hs.own]; exact keeps_self (mom_ok t2 _)
      · subst c1; rw [hs.row j (by omega)]; exact keeps_NO (mom_ok t2 _) (mom_ok t2 _)
    · by_cases c2 : j = N
      · subst c2; rw [hs.col i (by omega)]; exact keeps_NO (mom_ok t2 _) (mom_ok t2 _)
      · rw [hs.in_ i j (by omega) (by omega), hm i (by omega), hm j (by omega)]
        exact hk i j (by omega) (by omega)
  · intro hk i j hi hj
    have := hk i j (by omega) (by omega)
    rwa [hs.in_ i j hi hj, hm i hi, hm j hj] at this
end Go.Proofs.Ytnhfkodjphplfaa.Proj

/-
  Plain laws of a matrix with its clocks in another order: there and back, and what is kept. No program is in sight.
-/
namespace Go.Proofs.Ytnhfkodjphplfaa.Proj
set_option linter.unusedVariables false
open Go.Proofs.Ytnhfkodjphplfaa.Dbm

def sortI (l : List Int) : List Int := l.mergeSort fun x y => decide (x ≤ y)
def og (O : List Int) (i : Nat) : Int := O[i]?.getD 0
def moveF (N : Nat) (O : List Int) (k : Nat) : Int := og O (k / N) * N + og O (k % N)
def moveL (N : Nat) (L O : List Int) : List Int := madeL L (moveF N O) (N * N)
def moveOk (n : Int) (O : List Int) : Bool := decide ((O.length : Int) = n) && decide (O[0]?.getD 1 = 0) && decide (sortI O = upto n.toNat)
/-- Move: the clocks, the bounds, and the error. -/
def move (n : Int) (L O : List Int) : Int × List Int × Int :=
  if chk n L = 0 then (if moveOk n O = true then (n, moveL n.toNat L O, 0) else (0, [], 2)) else (0, [], 8)

/-- an order of so many clocks: where each goes, and whence. -/
structure Ord (N : Nat) (O : List Int) : Prop where
  len : O.length = N
  zero : og O 0 = 0
  lt : ∀ i, i < N → 0 ≤ og O i ∧ og O i < N
  inj : ∀ i j, i < N → j < N → og O i = og O j → i = j
  surj : ∀ k : Nat, k < N → ∃ i, i < N ∧ og O i = k

theorem sortI_perm (l : List Int) : (sortI l).Perm l := List.mergeSort_perm l _
theorem upto_nodup (N : Nat) : (upto N).Nodup := by
  unfold upto
  rw [List.nodup_iff_pairwise_ne, List.pairwise_map]
  exact (List.nodup_iff_pairwise_ne.1 List.nodup_range).imp fun h e => h (Int.ofNat.inj e)
theorem mem_upto {N : Nat} {x : Int} : x ∈ upto N ↔ 0 ≤ x ∧ x < N := by
  unfold upto
  rw [List.mem_map]
  constructor
  · rintro ⟨k, hk, rfl⟩
    have := List.mem_range.1 hk
    exact ⟨Int.natCast_nonneg _, by show (k : Int) < N; omega⟩
  · rintro ⟨h0, h1⟩
    exact ⟨x.toNat, List.mem_range.2 (by omega), by show ((x.toNat : Nat) : Int) = x; omega⟩
theorem upto_sorted (N : Nat) : (upto N).Pairwise fun a b => (decide (a ≤ b)) = true := by
  unfold upto
  rw [List.pairwise_map]
  exact List.pairwise_lt_range.imp fun h => decide_eq_true (by show (Int.ofNat _ : Int) ≤ Int.ofNat _; exact Int.ofNat_le.2 (Nat.le_of_lt h))
theorem sortI_sorted (l : List Int) : (sortI l).Pairwise fun a b => (decide (a ≤ b)) = true :=
  List.pairwise_mergeSort (fun a b c h1 h2 => by simp at *; omega) (fun a b => by simp; omega) l
theorem sortI_upto {N : Nat} {O : List Int} : sortI O = upto N ↔ O.Perm (upto N) := by
  constructor
  · intro h; exact (sortI_perm O).symm.trans (h ▸ List.Perm.refl _)
  · intro h
    exact List.Perm.eq_of_pairwise (fun a b _ _ h1 h2 => by simp at h1 h2; omega) (sortI_sorted O) (upto_sorted N) ((sortI_perm O).trans h)
theorem og_get {O : List Int} {i : Nat} (hi : i < O.length) : O[i]? = some (og O i) := by
  unfold og; rw [List.getElem?_eq_getElem hi]; rfl
theorem ord_perm {N : Nat} {O : List Int} (hl : O.length = N) (h0 : og O 0 = 0) (hp : O.Perm (upto N)) : Ord N O := by
  have hn : O.Nodup := hp.symm.nodup (upto_nodup N)
  refine ⟨hl, h0, fun i hi => ?_, fun i j hi hj e => ?_, fun k hk => ?_⟩
  · exact mem_upto.1 (hp.subset (List.mem_of_getElem? (og_get (by omega))))
  · have key : ∀ i j, i < j → j < N → og O i ≠ og O j := fun i j h1 h2 e => by
      have := List.pairwise_iff_getElem.1 hn i j (by omega) (by omega) h1
      have h1 := og_get (O := O) (i := i) (by omega)
      have h2 := og_get (O := O) (i := j) (by omega)
      rw [List.getElem?_eq_getElem (by omega)] at h1 h2
      rw [Option.some.inj h1, Option.some.inj h2] at this
      exact this e
    rcases Nat.lt_trichotomy i j with h | h | h
    · exact absurd e (key i j h hj)
    · exact h
    · exact absurd e.symm (key j i h hi)
  · obtain ⟨i, hi, e⟩ := List.getElem_of_mem (hp.symm.subset (mem_upto.2 ⟨Int.natCast_nonneg k, by omega⟩))
    refine ⟨i, by omega, ?_⟩
    unfold og; rw [List.getElem?_eq_getElem hi, e]; rfl
theorem Ord.perm {N : Nat} {O : List Int} (h : Ord N O) : O.Perm (upto N) := by
  have hn : O.Nodup := by
    refine List.pairwise_iff_getElem.2 fun i j hi hj hij e => ?_
    have h1 := og_get (O := O) (i := i) hi
    have h2 := og_get (O := O) (i := j) hj
    rw [List.getElem?_eq_getElem (by omega)] at h1 h2
    have := h.inj i j (by have := h.len; omega) (by have := h.len; omega) (by rw [← Option.some.inj h1, ← Option.some.inj h2, e])
    omega
  refine (List.perm_ext_iff_of_nodup hn (upto_nodup N)).2 fun a => ?_
  rw [mem_upto]
  constructor
  · intro ha
    obtain ⟨i, hi, e⟩ := List.getElem_of_mem ha
    have := h.lt i (by have := h.len; omega)
    have e2 := og_get hi
    rw [List.getElem?_eq_getElem hi, e] at e2
    rw [Option.some.inj e2]; exact this
  · rintro ⟨h0, h1⟩
    obtain ⟨i, hi, e⟩ := h.surj a.toNat (by omega)
    have := List.mem_of_getElem? (og_get (O := O) (i := i) (by have := h.len; omega))
    rwa [e, Int.toNat_of_nonneg h0] at this
theorem moveOk_iff {n : Int} {O : List Int} (hn : 1 ≤ n) : moveOk n O = true ↔ ∃ N : Nat, n = N ∧ Ord N O := by
  unfold moveOk
  simp only [Bool.and_eq_true, decide_eq_true_eq]
  constructor
  · rintro ⟨⟨h1, h2⟩, h3⟩
    refine ⟨n.toNat, by omega, ord_perm (by omega) ?_ (sortI_upto.1 h3)⟩
    unfold og
    rw [List.getElem?_eq_getElem (by omega)] at h2 ⊢
    exact h2
  · rintro ⟨N, rfl, h⟩
    refine ⟨⟨by rw [h.len], ?_⟩, by rw [Int.toNat_natCast]; exact sortI_upto.2 h.perm⟩
    rw [og_get (by have := h.len; omega), Option.getD_some, h.zero]

theorem moveL_len (N : Nat) (L O : List Int) : (moveL N L O).length = N * N := madeL_len _ _ _
theorem moveL_get {N : Nat} (L : List Int) {O : List Int} (h : Ord N O) {i j : Nat} (hi : i < N) (hj : j < N) : (moveL N L O)[i * N + j]?.getD 0 = L[(og O i).toNat * N + (og O j).toNat]?.getD 0 := by
  have h1 := h.lt i hi
  have h2 := h.lt j hj
  unfold moveL madeL
  rw [List.getElem?_map, List.getElem?_range (place_lt hi hj)]
  simp only [Option.map_some, Option.getD_some]
  have hF : moveF N O (i * N + j) = (((og O i).toNat * N + (og O j).toNat : Nat) : Int) := by
    unfold moveF
    rw [place_div hj, place_mod hj, Int.natCast_add, Int.natCast_mul, Int.toNat_of_nonneg h1.1, Int.toNat_of_nonneg h2.1]
  rw [hF, if_pos (Int.natCast_nonneg _), Int.toNat_natCast]
theorem moveF_lt {N : Nat} {O : List Int} (h : Ord N O) {k : Nat} (hk : k < N * N) : 0 ≤ moveF N O k ∧ moveF N O k < (N * N : Nat) := by
  have h1 := h.lt _ (div_lt hk)
  have h2 := h.lt _ (mod_lt hk)
  have e : moveF N O k = (((og O (k / N)).toNat * N + (og O (k % N)).toNat : Nat) : Int) := by
    unfold moveF
    rw [Int.natCast_add, Int.natCast_mul, Int.toNat_of_nonneg h1.1, Int.toNat_of_nonneg h2.1]
  rw [e]
  exact ⟨Int.natCast_nonneg _, Int.ofNat_lt.2 (place_lt (by omega) (by omega))⟩
theorem moveL_mem {N : Nat} {L O : List Int} (hL : L.length = N * N) (h : Ord N O) {x : Int} (hx : x ∈ moveL N L O) : x ∈ L := by
  obtain ⟨k, hk, rfl⟩ := List.mem_map.1 hx
  have hk := moveF_lt h (List.mem_range.1 hk)
  rw [if_pos hk.1, List.getElem?_eq_getElem (by omega), Option.getD_some]
  exact List.getElem_mem _
theorem chk_move {N : Nat} {L O : List Int} (h0 : chk N L = 0) (h : Ord N O) : chk N (moveL N L O) = 0 := by
  obtain ⟨c1, c2, c3, c4⟩ := chk_iff.1 h0
  refine chk_iff.2 ⟨c1, c2, by rw [moveL_len]; exact_mod_cast rfl, ?_⟩
  rw [List.any_eq_false] at c4 ⊢
  exact fun x hx => c4 x (moveL_mem (by exact_mod_cast c3) h hx)
theorem move_ok {n : Int} {L O : List Int} (h : (move n L O).2.2 = 0) : ∃ N : Nat, n = N ∧ chk N L = 0 ∧ Ord N O ∧ move n L O = ((N : Int), moveL N L O, 0) := by
  unfold move at h ⊢
  split at h
  · rename_i h0
    split at h
    · rename_i h1
      obtain ⟨N, rfl, hO⟩ := (moveOk_iff (chk_iff.1 h0).1).1 h1
      exact ⟨N, rfl, h0, hO, by rw [if_pos h0, if_pos h1]; rfl⟩
    · cases h
  · cases h
theorem move_err {n : Int} {L O : List Int} (h : (move n L O).2.2 ≠ 0) : (move n L O).2.1 = [] := by
  unfold move at h ⊢
  split
  · rename_i h0
    split
    · rename_i h1; exact absurd (by rw [if_pos h0, if_pos h1]) h
    · rfl
  · rfl
theorem move_of {N : Nat} {L O : List Int} (h0 : chk N L = 0) (h : Ord N O) : move N L O = ((N : Int), moveL N L O, 0) := by
  unfold move
  rw [if_pos h0, if_pos ((moveOk_iff (chk_iff.1 h0).1).2 ⟨N, rfl, h⟩)]; rfl

/-- the way back: i stands at the place where i went. -/
structure Inverse (N : Nat) (O B : List Int) : Prop where
  len : B.length = N
  at_ : ∀ i, i < N → og B (og O i).toNat = i
theorem Inverse.back {N : Nat} {O B : List Int} (h : Ord N O) (hB : Inverse N O B) {k : Nat} (hk : k < N) : ∃ i, i < N ∧ og O i = k ∧ og B k = i := by
  obtain ⟨i, hi, e⟩ := h.surj k hk
  refine ⟨i, hi, e, ?_⟩
  have := hB.at_ i hi
  rwa [e, Int.toNat_natCast] at this
theorem Inverse.ord {N : Nat} {O B : List Int} (hN : 1 ≤ N) (h : Ord N O) (hB : Inverse N O B) : Ord N B := by
  refine ⟨hB.len, ?_, fun k hk => ?_, fun k l hk hl e => ?_, fun i hi => ?_⟩
  · have := hB.at_ 0 (by omega)
    rwa [h.zero] at this
  · obtain ⟨i, hi, _, e⟩ := hB.back h hk
    omega
  · obtain ⟨i, hi, e1, e2⟩ := hB.back h hk
    obtain ⟨j, hj, e3, e4⟩ := hB.back h hl
    have : i = j := by omega
    subst this; omega
  · have h1 := h.lt i hi
    exact ⟨(og O i).toNat, by omega, hB.at_ i hi⟩
theorem move_back {N : Nat} {L O B : List Int} (hL : L.length = N * N) (hN : 1 ≤ N) (h : Ord N O) (hB : Inverse N O B) : moveL N (moveL N L O) B = L := by
  refine ext_get (moveL_len _ _ _) hL fun q hq => ?_
  have h1 := div_lt hq
  have h2 := mod_lt hq
  have hb := hB.ord hN h
  rw [← div_mod (p := q) (N := N)]
  have l1 := hb.lt _ h1
  have l2 := hb.lt _ h2
  rw [moveL_get _ hb h1 h2, moveL_get _ h (by omega) (by omega)]
  obtain ⟨i, hi, e1, e2⟩ := hB.back h h1
  obtain ⟨j, hj, e3, e4⟩ := hB.back h h2
  rw [e2, e4, Int.toNat_natCast, Int.toNat_natCast, e1, e3, Int.toNat_natCast, Int.toNat_natCast]
/-- the way back after so many places. -/
def backP (O : List Int) (k : Nat) : List Int := (List.range k).foldl (fun B i => B.set (og O i).toNat i) (List.replicate O.length 0)
theorem backP_zero (O : List Int) : backP O 0 = List.replicate O.length 0 := rfl
theorem backP_succ (O : List Int) (k : Nat) : backP O (k + 1) = (backP O k).set (og O k).toNat k := by
  unfold backP; rw [List.range_succ, List.foldl_append]; rfl
theorem backP_len (O : List Int) (k : Nat) : (backP O k).length = O.length := by
  induction k with
  | zero => simp [backP]
  | succ k ih => rw [backP_succ, List.length_set, ih]
theorem backP_get {N : Nat} {O : List Int} (h : Ord N O) : ∀ k, k ≤ N → ∀ i, i < k → og (backP O k) (og O i).toNat = i
  | 0, _, i, hi => by omega
  | k + 1, hk, i, hi => by
    rw [backP_succ]
    have l1 := h.lt k (by omega)
    have l2 := h.lt i (by omega)
    unfold og
    rw [List.getElem?_set]
    by_cases e : i = k
    · subst e
      rw [if_pos rfl, if_pos (by rw [backP_len, h.len]; show (og O i).toNat < N; omega)]; rfl
    · rw [if_neg (fun e' => e (h.inj i k (by omega) (by omega) (by show og O i = og O k; unfold og; unfold og at l1 l2; omega)))]
      exact backP_get h k (by omega) i (by omega)
theorem backP_inv {N : Nat} {O : List Int} (h : Ord N O) : Inverse N O (backP O N) := ⟨by rw [backP_len, h.len], fun i hi => backP_get h N (Nat.le_refl _) i hi⟩

/-- times, moved alike. -/
def movedT (O : List Int) (T : List Rt) (k : Nat) : List Rt := (List.range k).map fun i => T[(og O (i + 1) - 1).toNat]?.getD ⟨0, 1⟩
theorem movedT_len (O : List Int) (T : List Rt) (k : Nat) : (movedT O T k).length = k := by simp [movedT]
theorem movedT_succ (O : List Int) (T : List Rt) (k : Nat) : movedT O T (k + 1) = movedT O T k ++ [T[(og O (k + 1) - 1).toNat]?.getD ⟨0, 1⟩] := by
  unfold movedT; rw [List.range_succ, List.map_append]; rfl
theorem Ord.pos {N : Nat} {O : List Int} (h : Ord N O) {i : Nat} (h0 : i ≠ 0) (hi : i < N) : 1 ≤ og O i := by
  have h1 := h.lt i hi
  have h2 : og O i ≠ 0 := fun e => h0 (h.inj i 0 hi (by omega) (e.trans h.zero.symm))
  omega
theorem moments_moved {N : Nat} {O : List Int} {T : List Rt} (h : Ord N O) (hT : T.length + 1 = N) {i : Nat} (hi : i < N) : (moments (movedT O T (N - 1)))[i]?.getD ⟨0, 1⟩ = (moments T)[(og O i).toNat]?.getD ⟨0, 1⟩ := by
  cases i with
  | zero => rw [h.zero]; rfl
  | succ i =>
    have hp := h.pos (i := i + 1) (by omega) hi
    have hlt := h.lt (i + 1) hi
    unfold moments
    rw [List.getElem?_cons_succ]
    obtain ⟨m, hm⟩ : ∃ m, (og O (i + 1)).toNat = m + 1 := ⟨(og O (i + 1)).toNat - 1, by omega⟩
    rw [hm, List.getElem?_cons_succ]
    unfold movedT
    rw [List.getElem?_map, List.getElem?_range (by omega)]
    simp only [Option.map_some, Option.getD_some]
    rw [show (og O (i + 1) - 1).toNat = m by omega]
theorem moved_ok {N : Nat} {O : List Int} {T : List Rt} (h : Ord N O) (hT : T.length + 1 = N) (hall : T.all Rt.ok = true) : (movedT O T (N - 1)).all Rt.ok = true := by
  rw [List.all_eq_true]
  intro x hx
  obtain ⟨i, hi, rfl⟩ := List.mem_map.1 hx
  have hi := List.mem_range.1 hi
  have hp := h.pos (i := i + 1) (by omega) (by omega)
  have hlt := h.lt (i + 1) (by omega)
  rw [List.getElem?_eq_getElem (by omega)]
  exact List.all_eq_true.1 hall _ (List.getElem_mem _)
/-- times are moved alike. -/
theorem move_keeps {N : Nat} {L O : List Int} {T : List Rt} (h0 : chk N L = 0) (h : Ord N O) (h1 : (keeps N L T).2 = 0) :
    keeps N (moveL N L O) (movedT O T (N - 1)) = keeps N L T := by
  obtain ⟨_, t1, l1, e1⟩ := keeps_ok h1
  have hN := (chk_iff.1 h0).1
  rw [e1]
  unfold keeps
  rw [if_pos ⟨chk_move h0 h, moved_ok h (by omega) t1⟩, if_pos (by rw [movedT_len]; omega)]
  rw [Int.toNat_natCast]
  congr 1
  rw [Bool.eq_iff_iff, keptL_iff, keptL_iff]
  constructor
  · intro hk i j hi hj
    obtain ⟨a, ha, ea⟩ := h.surj i hi
    obtain ⟨b, hb, eb⟩ := h.surj j hj
    have := hk a b ha hb
    rw [moments_moved h (by omega) ha, moments_moved h (by omega) hb, moveL_get L h ha hb, ea, eb, Int.toNat_natCast, Int.toNat_natCast] at this
    exact this
  · intro hk i j hi hj
    have l1 := h.lt i hi
    have l2 := h.lt j hj
    rw [moments_moved h (by omega) hi, moments_moved h (by omega) hj, moveL_get L h hi hj]
    exact hk _ _ (by omega) (by omega)
end Go.Proofs.Ytnhfkodjphplfaa.Proj

/-
  What stays: the worlds that a run has come by, each of which still stands below; one list, lengthened call by call.
-/
namespace Go.Proofs.Ytnhfkodjphplfaa
set_option linter.unusedVariables false
open Go.RowKit Go.Proofs.Ytnhfkodjphplfaa.Eng Enc

/-- the worlds that the run has come by; w: the last one. -/
structure Stay (w0 : Base) (l : List World) (w : World) : Prop where
  base : ∀ X, X ∈ l → Below w0.B w0.W X
  all : ∀ X, X ∈ l → Below X.heap.size X w
theorem Stay.start {w0 : Base} {w : World} (h : Below w0.B w0.W w) : Stay w0 [w] w :=
  ⟨fun X hX => by rw [List.mem_singleton.1 hX]; exact h, fun X hX => by rw [List.mem_singleton.1 hX]; exact Below.refl _ _⟩
theorem Stay.first {w : World} : Stay ⟨w, w.heap.size, Nat.le_refl _⟩ [w] w := Stay.start (Below.refl _ _)
section
variable {w0 : Base} {l : List World} {hp : List LB} {r L : List Nat} {w w1 w2 : World}
/-- at a world at hand. -/
theorem Stay.at (st : Stay w0 l w) (h : At w0 hp r L w w1) (hL : ∀ b, b ∈ L → w.heap.size ≤ b) : Stay w0 (w1 :: l) w1 := by
  refine ⟨fun X hX => ?_, fun X hX => ?_⟩
  · rcases List.mem_cons.1 hX with rfl | hX
    · exact h.below
    · exact st.base X hX
  · rcases List.mem_cons.1 hX with rfl | hX
    · exact Below.refl _ _
    · exact h.from (st.base X hX) (st.all X hX) fun b hb => Nat.le_trans (st.all X hX).size (hL b hb)
/-- the like where a block of the run's own has been written that those worlds know nothing of. -/
theorem Stay.at' (st : Stay w0 l w) (h : At w0 hp r L w w1) (hL : ∀ X, X ∈ l → ∀ b, b ∈ L → X.heap.size ≤ b) : Stay w0 (w1 :: l) w1 := by
  refine ⟨fun X hX => ?_, fun X hX => ?_⟩
  · rcases List.mem_cons.1 hX with rfl | hX
    · exact h.below
    · exact st.base X hX
  · rcases List.mem_cons.1 hX with rfl | hX
    · exact Below.refl _ _
    · exact h.from (st.base X hX) (st.all X hX) (hL X hX)
theorem Stay.go (st : Stay w0 l w) (h : w0.B ≤ w.heap.size) (hb : Below w0.B w0.W w) (hB : Below w.heap.size w w2) : Stay w0 (w2 :: l) w2 := by
  refine ⟨fun X hX => ?_, fun X hX => ?_⟩
  · rcases List.mem_cons.1 hX with rfl | hX
    · exact hb.trans (hB.mono h)
    · exact st.base X hX
  · rcases List.mem_cons.1 hX with rfl | hX
    · exact Below.refl _ _
    · exact (st.all X hX).trans (hB.mono (st.all X hX).size)
theorem Stay.next (st : Stay w0 l w) (h : At w0 hp r L w w1) (hL : ∀ b, b ∈ L → w.heap.size ≤ b) (hB : Below w1.heap.size w1 w2) : Stay w0 (w2 :: w1 :: l) w2 :=
  (st.at h hL).go (Nat.le_trans w0.le h.below.size) h.below hB
theorem Stay.sub {m : List World} (st : Stay w0 l w) (h : ∀ X, X ∈ m → X ∈ l) : Stay w0 m w := ⟨fun X hX => st.base X (h X hX), fun X hX => st.all X (h X hX)⟩
theorem Stay.here (st : Stay w0 l w) (hb : Below w0.B w0.W w) : Stay w0 (w :: l) w := ⟨fun X hX => by rcases List.mem_cons.1 hX with rfl | hX; exact hb; exact st.base X hX, fun X hX => by rcases List.mem_cons.1 hX with rfl | hX; exact Below.refl _ _; exact st.all X hX⟩
theorem Stay.get (st : Stay w0 l w) {X : World} (hX : X ∈ l) : Below X.heap.size X w := st.all X hX
end
/-- a list that was shown at a world that the run has come by. -/
theorem Sl.st {α : Type} [Enc α] {w0 : Base} {l : List World} {X w : World} {sv : Value} {m : List α} (h : Sl X.heap.size X sv m) (st : Stay w0 l w) (hX : X ∈ l := by simp) : Sl w.heap.size w sv m := h.go (st.get hX) (st.get hX).size
/-- a slice's beginning. -/
theorem Sl.pre {α : Type} [Enc α] {n : Nat} {W : World} {a : Option Addr} {m cap : Nat} {l : List α} (h : Sl n W (.slice a m cap) l) (hi : Nat) (h2 : hi ≤ l.length) : Sl n W (.slice a hi cap) (l.take hi) := by
  obtain ⟨a', cap', e, c1, c2, c3, c4⟩ := h
  injection e with e1 e2 e3
  subst e1; subst e2; subst e3
  have hl : (l.take hi).length = hi := by simp; omega
  refine ⟨_, _, by rw [hl], by rw [hl]; omega, c2, c3, fun k x hk => ?_⟩
  rw [List.getElem?_take] at hk
  split at hk
  case isFalse => cases hk
  exact c4 k x hk
theorem Fresh.st {w0 : Base} {l : List World} {X w : World} {e : TypeId} {base : Nat} {sv : Value} {m : List Int} (h : Fresh e base X sv m) (st : Stay w0 l w) (hX : X ∈ l := by simp) : Fresh e base w sv m := h.below (st.get hX)
theorem Own.st {α : Type} [Enc α] {w0 : Base} {l : List World} {X w : World} {e : TypeId} {base : Nat} {sv : Value} {m : List α} (h : Own e base X sv m) (st : Stay w0 l w) (hX : X ∈ l := by simp) : Own e base w sv m := h.below (st.get hX)

theorem infoB0 : (Try.prog.info? 41).map (fun i => i.zero.map fun v => v.cells.toList) = some (some [Value.int .i64 0]) := by kernel_rfl
/-- a slice that is made: all zeros. -/
theorem cells_rep {α : Type} [Enc α] (z : α) (n : Nat) : cellsL (List.replicate n z) = (List.range (n * size α)).map fun k => (enc z)[k % size α]?.getD undef := by
  induction n with
  | zero => simp [cellsL]
  | succ n ih =>
    rw [List.replicate_succ', cellsL_append, ih, Nat.succ_mul, List.range_add, List.map_append]
    congr 1
    simp only [cellsL, List.append_nil, List.map_map]
    apply List.ext_getElem?
    intro k
    rw [List.getElem?_map]
    rcases Nat.lt_or_ge k (size α) with h | h
    · rw [List.getElem?_range h]
      simp only [Option.map_some, Function.comp]
      rw [Nat.add_comm, Nat.add_mul_mod_self_right, Nat.mod_eq_of_lt h, List.getElem?_eq_getElem (by rw [len]; exact h)]; rfl
    · rw [List.getElem?_eq_none (by rw [len]; exact h), List.getElem?_eq_none (l := List.range (size α)) (by simpa using h)]; rfl
theorem GenV.mks {α : Type} [Enc α] {P : Program} {w0 : Base} {kp : List Nat → World → World → Prop} [hkp : KpOk w0 kp] {hp : List LB} {r L : List Nat} {w : World} {K : Value → World → Prop} {t e : TypeId} {bytes : Nat} (hE : ElOk P t e (size α) bytes) (z : α)
    (hz : (P.info? e).map (fun i => i.zero.map fun v => v.cells.toList) = some (some (enc z))) (n : Nat) {i : Int} (hi : i = n) (hbig : n * size α ≤ 16777216) (hbytes : bytes * n ≤ 281474976710656)
    (hk : ∀ v w1 w2, At w0 hp r L w w1 → Below w1.heap.size w1 w2 → Own e w1.heap.size w2 v (List.replicate n z) → K v w2) : GenV P w0 kp (Instr.makeSlice t (.int .i64 i) (.int .i64 i)) hp r L w K := ⟨fun w1 h1 => by
  subst hi
  obtain ⟨ht, ⟨inf, zv, hi, hzv, hss, hby, hzs⟩, hp⟩ := hE
  obtain ⟨w2, hr2, hown, hg2⟩ := run_makeSlice_full (P := P) w1 w1.heap.size _ _ inf zv (size α) ht hi hzv hss .i64 .i64 n hbig (by rw [hby]; exact hbytes) (by
    have h1 : n * 1 ≤ n * size α := Nat.mul_le_mul_left n hp
    unfold maxLen; omega) (Nat.le_refl _)
  have hB2 : Below w1.heap.size w1 w2 := ⟨hg2.os, hg2.tape, hg2.output, hg2.size, fun k hk => hg2.block k hk (by simp)⟩
  refine ⟨_, w2, hr2, hkp.ok h1 hB2, hk _ w1 w2 h1 hB2 ?_⟩
  have hzc : zv.cells.toList = enc z := by
    rw [hi] at hz
    simp only [Option.map_some, Option.some.injEq, hzv] at hz
    exact hz
  unfold Own
  rw [List.length_replicate, cells_rep]
  have e1 : (madeCells zv.cells (n * size α)).toList = (List.range (n * size α)).map fun k => (enc z)[k % size α]?.getD undef := by
    unfold madeCells
    simp only [Array.toList_map, Array.toList_range]
    refine List.map_congr_left fun k _ => ?_
    rw [← hzc]
    have hm : k % size α < zv.cells.size := by rw [hzs]; exact Nat.mod_lt _ hp
    rw [hzs, getElem!_pos zv.cells _ hm, Array.getElem?_toList, Array.getElem?_eq_getElem hm]; rfl
  rw [← e1]
  exact hown⟩
/-- a loop's invariant, behind rounds that are gone through one by one. -/
theorem LoopI.invC0 {w0 : Base} {body : (Exit → St → Prop) → St → Prop} {cb : Code} {K : Exit → St → Prop} {fr : Fr} {hp : List LB} {r L : List Nat} {w : World} {df : List Deferred}
    {α : Type} (vals : α → List (Nat × SV)) (wd : α → World) (Φ : α → Prop) (μ : α → Nat)
    (h0 : ∀ w1, At w0 hp r L w w1 → ∃ x, headK cb (vals x) fr (fun fr' => Cov fr' hp r df ⟨fr, hp, r, L, w, df⟩) ∧ wd x = w1 ∧ Φ x)
    (h1 : ∀ x, Φ x → headK cb (vals x) fr fun fr' => body
        (fun e s2 => match e with
          | .normal => s2.on fun fr2 hp2 r2 L2 w2 df2 => EndI w0 hp2 r2 L2 w2 undef fun _ w1 => ∃ y, headK cb (vals y) fr (fun fr' => Cov fr' hp r df ⟨fr2, hp2, r2, L2, w2, df2⟩) ∧ wd y = w1 ∧ Φ y ∧ μ y < μ x
          | e => K e s2) ⟨fr', hp, r, [], wd x, df⟩) : unrD w0 body cb K 0 ⟨fr, hp, r, L, w, df⟩ := ⟨α, vals, fun _ => hp, wd, Φ, μ, h0, h1⟩
/-- a list that a loop makes longer, in a row of the run's own: the worlds that stay; the row lies behind base, and base behind them and behind the run's blocks. -/
structure Lp {α : Type} [Enc α] (w0 : Base) (l : List World) (r : List Nat) (e : TypeId) (base : Nat) (W : World) (v : Value) (xs : List α) : Prop where
  st : Stay w0 l W
  own : Own e base W v xs
  anc : ∀ X, X ∈ l → X.heap.size ≤ base
  blk : ∀ b, b ∈ r → b < base
  size : base ≤ W.heap.size
  b0 : w0.B ≤ base
section
variable {α : Type} [Enc α] {w0 : Base} {l : List World} {hp : List LB} {r r0 L : List Nat} {w w1 w2 : World} {e : TypeId} {base : Nat} {v sv : Value} {xs : List α}
theorem Lp.start (st : Stay w0 l w) (h : At w0 hp r L w w1) (hL : ∀ b, b ∈ L → w.heap.size ≤ b) : Lp w0 l r e w1.heap.size w1 (.slice none 0 0) ([] : List α) := by
  have s1 := st.at h hL
  refine ⟨⟨fun X hX => st.base X hX, fun X hX => s1.all X (List.mem_cons_of_mem _ hX)⟩, Own.nil, fun X hX => (s1.all X (List.mem_cons_of_mem _ hX)).size, fun b hb => h.lt b hb, Nat.le_refl _, Nat.le_trans w0.le h.below.size⟩
theorem Lp.here (st : Stay w0 l w) (hr : ∀ b, b ∈ r → b < w.heap.size) (hb : w0.B ≤ w.heap.size) : Lp w0 l r e w.heap.size w (.slice none 0 0) ([] : List α) :=
  ⟨st, Own.nil, fun X hX => (st.all X hX).size, hr, Nat.le_refl _, hb⟩
theorem Lp.go (lp : Lp w0 l r0 e base w v xs) (hB : Below w.heap.size w w2) : Lp w0 l r0 e base w2 v xs :=
  ⟨⟨lp.st.base, fun X hX => (lp.st.all X hX).trans (hB.mono (lp.st.all X hX).size)⟩, lp.own.below hB, lp.anc, lp.blk, Nat.le_trans lp.size hB.size, lp.b0⟩
theorem Lp.at (lp : Lp w0 l r0 e base w v xs) (h : At w0 hp r L w w1) (hL : ∀ b, b ∈ L → w.heap.size ≤ b ∨ b < base ∧ ∀ X, X ∈ l → X.heap.size ≤ b) : Lp w0 l r0 e base w1 v xs := by
  refine ⟨⟨lp.st.base, fun X hX => h.from (lp.st.base X hX) (lp.st.all X hX) fun b hb => ?_⟩, ?_, lp.anc, lp.blk, Nat.le_trans lp.size h.size, lp.b0⟩
  · rcases hL b hb with h1 | h1
    · exact Nat.le_trans (lp.st.all X hX).size h1
    · exact h1.2 X hX
  · obtain ⟨hl, h0 | ⟨g, cap, cur, e1, e2, e3, e4⟩⟩ := lp.own
    · exact ⟨hl, .inl h0⟩
    · have hg := (Array.getElem?_eq_some_iff.1 e3).1
      exact ⟨hl, .inr ⟨g, cap, cur, e1, e2, (h.step g hg (fun e => by have := hL g e; omega)).trans e3, e4⟩⟩
theorem Lp.ofNew (st : Stay w0 l w) (h : At w0 hp r L w w1) (hL : ∀ b, b ∈ L → w.heap.size ≤ b) (hB : Below w1.heap.size w1 w2) (hO : Own e w1.heap.size w2 v xs) : Lp w0 l r e w1.heap.size w2 v xs := by
  have s1 := st.at h hL
  refine ⟨⟨fun X hX => st.base X hX, fun X hX => (s1.all X (List.mem_cons_of_mem _ hX)).trans (hB.mono (s1.all X (List.mem_cons_of_mem _ hX)).size)⟩, hO, fun X hX => (s1.all X (List.mem_cons_of_mem _ hX)).size, fun b hb => h.lt b hb, hB.size, Nat.le_trans w0.le h.below.size⟩
theorem Lp.stay (lp : Lp w0 l r0 e base w v xs) : Stay w0 l w := lp.st
theorem GenN.appL {P : Program} {K : Value → World → Prop} {t ty : TypeId} {bytes : Nat} {consts : Array Bool} (hE : ElOk P t e (size α) bytes) (lp : Lp w0 l r0 e base w v xs) (hr : ∀ b, b ∈ r → b ∈ r0 ∨ w.heap.size ≤ b) (hL : ∀ b, b ∈ L → w.heap.size ≤ b)
    (ms : List α) (hsrc : ∀ w1, At w0 hp r L w w1 → SrcC w1 sv (size α) ms.length (cellsL ms)) (h63 : xs.length + ms.length ≤ 1000000) (hby : bytes ≤ 1000000)
    (hk : ∀ a' c' w5 w6, At w0 hp r L w w5 → Lp w0 l r0 e base w6 (.slice a' (xs ++ ms).length c') (xs ++ ms) → w5.heap.size ≤ w6.heap.size → (∀ k, k < w5.heap.size → k < base ∨ w.heap.size ≤ k → w6.heap[k]? = w5.heap[k]?) → K (.slice a' (xs ++ ms).length c') w6) :
    GenN P w0 (Keep w0) (builtin .append #[t, t] ty consts #[v, sv]) hp r L w K := by
  have hLp : ∀ w1, At w0 hp r L w w1 → Lp w0 l r0 e base w1 v xs := fun w1 h1 => lp.at h1 fun b hb => .inl (hL b hb)
  have hrow : ∀ k, v.ownBlock = some k → w0.B ≤ k ∧ k ∉ r := fun k hk => by
    have h1 := lp.own.lt k hk
    refine ⟨Nat.le_trans lp.b0 h1.1, fun hm => ?_⟩
    rcases hr k hm with h2 | h2
    · have := lp.blk k h2; omega
    · omega
  refine GenN.app (α := α) hE xs ms base (fun w1 h1 => (hLp w1 h1).own) hsrc (by unfold maxLen; omega) ?_ (fun w1 h1 => Nat.le_trans lp.size h1.size) (fun w1 w2 h1 hg => keep_grown h1 hg hrow) fun v' w5 w6 h5 hg hO => ?_
  · calc _ ≤ 1000000 * 1000000 := Nat.mul_le_mul h63 hby
      _ ≤ _ := by decide
  · obtain ⟨a', c', rfl⟩ := hO.form
    have h5' := hLp w5 h5
    refine hk a' c' w5 w6 h5 ⟨⟨lp.st.base, fun X hX => ?_⟩, hO, lp.anc, lp.blk, Nat.le_trans h5'.size hg.size, lp.b0⟩ hg.size fun k hk hkb => ?_
    · have hX5 := h5'.st.all X hX
      refine ⟨hg.os.trans hX5.os, hg.tape.trans hX5.tape, hg.output.trans hX5.output, Nat.le_trans hX5.size hg.size, fun k hk => ?_⟩
      refine (hg.block k (Nat.lt_of_lt_of_le hk hX5.size) (fun e => ?_)).trans (hX5.block k hk)
      have h1 := lp.own.lt k e.symm
      have h2 := lp.anc X hX
      omega
    · refine hg.block k hk (fun e => ?_)
      have h1 := lp.own.lt k e.symm
      omega
/-- a list that begins as a block of the run's own that is full, and is lengthened. -/
def Lq (α : Type) [Enc α] (w0 : Base) (l : List World) (r : List Nat) (e : TypeId) (W : World) (v : Value) (b : Nat) (x0 xs : List α) : Prop :=
  (v = .slice (some ⟨b, 0, none⟩) x0.length x0.length ∧ xs = x0 ∧ Stay w0 l W) ∨ ∃ base, Lp w0 l r e base W v xs
theorem Lq.st {b : Nat} {x0 : List α} (h : Lq α w0 l r e w v b x0 xs) : Stay w0 l w := by
  rcases h with ⟨_, _, h⟩ | ⟨_, h⟩
  · exact h
  · exact h.st
theorem Lq.at {b : Nat} {x0 : List α} (lq : Lq α w0 l r0 e w v b x0 xs) (h : At w0 hp r [] w w1) : Lq α w0 l r0 e w1 v b x0 xs := by
  rcases lq with ⟨e1, e2, h1⟩ | ⟨base, h1⟩
  · exact .inl ⟨e1, e2, (h1.at h (by simp)).sub fun X hX => List.mem_cons_of_mem _ hX⟩
  · exact .inr ⟨base, h1.at h (by simp)⟩
theorem Lq.go {b : Nat} {x0 : List α} (lq : Lq α w0 l r0 e w v b x0 xs) (hB : Below w.heap.size w w2) : Lq α w0 l r0 e w2 v b x0 xs := by
  rcases lq with ⟨e1, e2, h1⟩ | ⟨base, h1⟩
  · exact .inl ⟨e1, e2, h1.base, fun X hX => (h1.all X hX).trans (hB.mono (h1.all X hX).size)⟩
  · exact .inr ⟨base, h1.go hB⟩
theorem Lq.form {b : Nat} {x0 : List α} (lq : Lq α w0 l r0 e w v b x0 xs) : ∃ a c, v = .slice a xs.length c := by
  rcases lq with ⟨e1, e2, h1⟩ | ⟨base, h1⟩
  · subst e2; exact ⟨_, _, e1⟩
  · exact h1.own.form
/-- the list, as it is shown; the run's block number i holds what it begins with. -/
theorem Lq.sl {b : Nat} {x0 : List α} (lq : Lq α w0 l r0 e w v b x0 xs) (h : At w0 hp r [] w w1) (i : Nat) {c : LB} (hi : r[i]? = some b) (hc : hget hp i = some c) (hm : denL r c.cells = cellsL x0) (hmax : x0.length ≤ maxLen) : Sl w1.heap.size w1 v xs := by
  rcases lq with ⟨e1, e2, h1⟩ | ⟨base, h1⟩
  · subst e1; subst e2
    exact Sl.own h i hi hc hm (Nat.le_refl _) hmax
  · exact (h1.at h (by simp)).own.sl
theorem GenN.appQ {P : Program} {K : Value → World → Prop} {t ty : TypeId} {bytes : Nat} {consts : Array Bool} {b : Nat} {x0 : List α} (hE : ElOk P t e (size α) bytes) (lq : Lq α w0 l r0 e w v b x0 xs) (i : Nat) {c : LB} (hi : r[i]? = some b) (hc : hget hp i = some c) (hm : denL r c.cells = cellsL x0) (hct : c.ty = e)
    (hb : w0.B ≤ b) (hr : ∀ b, b ∈ r → b ∈ r0 ∨ w.heap.size ≤ b) (hr0 : ∀ b, b ∈ r0 → b ∈ r) (ms : List α) (hms : ms ≠ []) (hsrc : ∀ w1, At w0 hp r [] w w1 → SrcC w1 sv (size α) ms.length (cellsL ms)) (h63 : xs.length + ms.length ≤ 1000000) (hby : bytes ≤ 1000000)
    (hk : ∀ a' c' w5 w6, At w0 hp r [] w w5 → Lq α w0 l r0 e w6 (.slice a' (xs ++ ms).length c') b x0 (xs ++ ms) → (∃ base, Lp w0 l r0 e base w6 (.slice a' (xs ++ ms).length c') (xs ++ ms)) → w5.heap.size ≤ w6.heap.size → K (.slice a' (xs ++ ms).length c') w6) :
    GenN P w0 (Keep w0) (builtin .append #[t, t] ty consts #[v, sv]) hp r [] w K := by
  rcases lq with ⟨rfl, rfl, st⟩ | ⟨base, lp⟩
  · refine GenN.appN (α := α) hE xs ms w0.B rfl (fun w1 h1 => ?_) hsrc hms (by unfold maxLen; omega) ?_ fun v' w5 w6 h5 hB hO => ?_
    · have := Own.own h1 i hi hc hm hb (n := xs.length) rfl (by unfold maxLen; omega)
      rwa [hct] at this
    · calc _ ≤ 1000000 * 1000000 := Nat.mul_le_mul h63 hby
        _ ≤ _ := by decide
    · obtain ⟨a', c', rfl⟩ := hO.form
      have lp := Lp.ofNew st h5 (by simp) hB hO
      have lp' : Lp w0 l r0 e w5.heap.size w6 (.slice a' (xs ++ ms).length c') (xs ++ ms) := ⟨lp.st, lp.own, lp.anc, fun b hb => lp.blk b (hr0 b hb), lp.size, lp.b0⟩
      exact hk a' c' w5 w6 h5 (.inr ⟨_, lp'⟩) ⟨_, lp'⟩ hB.size
  · exact GenN.appL hE lp hr (by simp) ms hsrc h63 hby fun a' c' w5 w6 h5 hlp hsz _ => hk a' c' w5 w6 h5 (.inr ⟨_, hlp⟩) ⟨_, hlp⟩ hsz
end
end Go.Proofs.Ytnhfkodjphplfaa

/-
  slices.Sorted over slices.Values, at int; proj.Move: their contracts.
-/
namespace Go.Proofs.Ytnhfkodjphplfaa
set_option linter.unusedVariables false
set_option linter.unusedSimpArgs false
set_option maxRecDepth 100000
open Go.RowKit Go.Proofs.Ytnhfkodjphplfaa.Eng Enc

theorem cellsInt (l : List Int) : cellsL l = l.map (Value.int .i64) := by
  induction l with
  | nil => rfl
  | cons x l ih => simp only [cellsL, ih, List.map_cons]; rfl

/-- slices.Sort, at a row of the run's own. -/
theorem sort_own (base : Nat) (v : Value) (l : List Int) (hl : l.length ≤ 1000000) (w : World) (hO : Own 3 base w v l) :
    Calls Try.prog 68 #[v] w fun e w' => e = .returned (.tuple #[]) ∧ Own 3 base w' v (Proj.sortI l) ∧ w.grownBy w' v.ownBlock := by
  obtain ⟨hc, ⟨rfl, h0⟩ | ⟨g, cap, cur, rfl, hb, hg, hn, hm, hs, ht⟩⟩ := id hO
  · obtain rfl := List.eq_nil_of_length_eq_zero h0
    refine (AnyM.slices_Sort_int_none Try.sort5 none 0 w).mono ?_
    rintro e w' ⟨rfl, rfl⟩
    exact ⟨rfl, by rw [show Proj.sortI [] = [] by simp [Proj.sortI]]; exact hO, rfl, rfl, rfl, Nat.le_refl _, fun _ _ _ => rfl⟩
  · rw [cellsInt] at ht
    have ht' : cur.toList.take l.length = l.map (Value.int .i64) := by simpa [Enc.size] using ht
    refine (AnyM.slices_Sort_int Try.sort5 g 0 cap l w (holds_of_blockI hg ht') (Array.getElem?_eq_some_iff.1 hg).1 (by omega)).mono ?_
    rintro e w' ⟨rfl, n, os, rfl⟩
    refine ⟨rfl, ?_, grownBy_sortedI _⟩
    have hlen : (l.mergeSort fun x y => decide (x ≤ y)).length = l.length := List.length_mergeSort _
    have := ownsRow_sortedI (w := w) (n := n) (os := os) hlen hb hg hn hm hs
    unfold Own
    rw [cellsInt]
    unfold Proj.sortI
    rw [hlen]
    exact this

theorem sorted_any (Bs : Nat) (a : Option Addr) (cap : Nat) (zs : List Int) (hlen : zs.length ≤ 1000000) (w : World) (hc : w.cell? ⟨Bs, 0, none⟩ = some (.slice a zs.length cap)) (hS : Sl w.heap.size w (.slice a zs.length cap) zs) :
    Calls Try.prog 40 #[.func (.func 69) #[] #[.pointer (some ⟨Bs, 0, none⟩)]] w (Ret w fun v w' => Own 3 w.heap.size w' v (Proj.sortI zs)) := by
  have hBs : Bs < w.heap.size := World.block_lt_of_cell? _ _ hc
  refine fun_ret 0 w Try.func40 (args := [.val (.func (.func 69) #[] #[.pointer (some ⟨Bs, 0, none⟩)])]) rfl rfl ?_
  apply CallI.use
  · exact fun w1 h1 => collect_any Bs a cap zs hlen w1 ((h1.below.cell (p := ⟨Bs, 0, none⟩) hBs).trans hc) (Sl.at h1 hS)
  intro v w1 w2 h1 hB hO
  obtain ⟨a', c', rfl⟩ := hO.form
  refine CallI.mk fun w3 h3 => (sort_own w1.heap.size _ zs hlen w3 (hO.at h3 (by simp))).mono ?_
  rintro e w4 ⟨rfl, hO4, hg⟩
  have hlen2 : (Proj.sortI zs).length = zs.length := (Proj.sortI_perm zs).length_eq
  refine ⟨keep_grown h3 hg fun k hk => ⟨Nat.le_trans h1.below.size (hO.lt k hk).1, by simp⟩, _, rfl, ?_⟩
  exact EndI.mk fun w5 h5 => (hO4.at h5 (by simp)).lower h1.below.size
end Go.Proofs.Ytnhfkodjphplfaa

/-
  The contract of proj.Move, by the engine.
-/
namespace Go.Proofs.Ytnhfkodjphplfaa
set_option linter.unusedVariables false
set_option linter.unusedSimpArgs false
set_option maxRecDepth 100000
open Go.RowKit Go.Proofs.Ytnhfkodjphplfaa.Eng Enc

theorem move1_any (i j : Nat) (p q : Nat) (a : Option Addr) (cap : Nat) (l : List Int) (n x y : Int) (hx : l[i]? = some x) (hy : l[j]? = some y) (hr : inK .i64 (x * n) ∧ inK .i64 (x * n + y)) (w : World) (hp : w.cell? ⟨p, 0, none⟩ = some (.slice a l.length cap)) (hS : Sl w.heap.size w (.slice a l.length cap) l) (hq : w.cell? ⟨q, 0, none⟩ = some (.int .i64 n)) :
    Calls Try.prog 42 #[.int .i64 i, .int .i64 j, .pointer (some ⟨p, 0, none⟩), .pointer (some ⟨q, 0, none⟩)] w fun e w' => e = .returned (.int .i64 (x * n + y)) ∧ Below w.heap.size w w' := by
  refine fun_eq 0 w Try.func42 (args := [.val (.int .i64 i), .val (.int .i64 j), .val (.pointer (some ⟨p, 0, none⟩)), .val (.pointer (some ⟨q, 0, none⟩))]) rfl rfl ?_
  refine DrawI.go (.tk 0 (.tk 1 (.tk 2 (.tk 3 (.tk 4 (.tk 5 (.tk 6 (.tk 7 (.tk 8 (.tk 9 (.tk 10 (.tk 11 (.tk 12 .done))))))))))))) (by kernel_rfl) fun w1 k1 => ?_
  have hb := k1.go
  refine LoadI.mk ⟨_, ⟨(hb.cell (p := ⟨p, 0, none⟩) (World.block_lt_of_cell? _ _ hp)).trans hp, by simp⟩, ?_⟩
  refine hS.idx hx fun ad had => ?_
  refine hS.ld1 hx had hb (by simp) ?_
  refine LoadI.mk ⟨_, ⟨(hb.cell (p := ⟨q, 0, none⟩) (World.block_lt_of_cell? _ _ hq)).trans hq, by simp⟩, ?_⟩
  refine Need.mk hr.1 ?_
  refine LoadI.mk ⟨_, ⟨(hb.cell (p := ⟨p, 0, none⟩) (World.block_lt_of_cell? _ _ hp)).trans hp, by simp⟩, ?_⟩
  refine hS.idx hy fun ad had => ?_
  refine hS.ld1 hy had hb (by simp) ?_
  refine Need.mk hr.2 ?_
  exact EndI.mk fun w2 h2 => rfl

theorem move_any (n : Int) (a : Option Addr) (cap : Nat) (L : List Int) (ao : Option Addr) (co : Nat) (O : List Int) (hlen : O.length ≤ 1000000) (w : World) (hS : Sl w.heap.size w (.slice a L.length cap) L) (hSO : Sl w.heap.size w (.slice ao O.length co) O) :
    Calls Try.prog 16 #[.agg #[.int .i64 n, .slice a L.length cap], .slice ao O.length co] w (Ret w fun v w' => ∃ a' cap', v = .tuple #[.agg #[.int .i64 (Proj.move n L O).1, .slice a' (Proj.move n L O).2.1.length cap'], .int .i64 (Proj.move n L O).2.2] ∧ Fresh TB w.heap.size w' (.slice a' (Proj.move n L O).2.1.length cap') (Proj.move n L O).2.1) := by
  refine fun_ret 9 w Try.func16 (args := [.agg [.val (.int .i64 n), .val (.slice a L.length cap)], .val (.slice ao O.length co)]) rfl rfl ?_
  refine NewI.mk fun b1 hb1 => ?_
  refine NewI.mk fun b2 hb2 => ?_
  refine NewI.mk fun b3 hb3 => ?_
  apply CallI.use1
  · exact fun w1 h1 => dcheck_any n a cap L w1 (Sl.at h1 hS)
  intro w1 w2 h1 hB2
  have err : ∀ (e : Int) (w' : World), Proj.move n L O = (0, [], e) → ∃ a' cap', Value.tuple #[.agg #[.int .i64 0, .slice none 0 0], .int .i64 e] = .tuple #[.agg #[.int .i64 (Proj.move n L O).1, .slice a' (Proj.move n L O).2.1.length cap'], .int .i64 (Proj.move n L O).2.2] ∧ Fresh TB w.heap.size w' (.slice a' (Proj.move n L O).2.1.length cap') (Proj.move n L O).2.1 := fun e w' he => by
    rw [he]; exact ⟨_, _, rfl, .inl ⟨rfl, rfl⟩⟩
  refine Branch.mk (fun hc => ?_) (fun hc => ?_)
  · have hc' : ¬ Dbm.chk n L = 0 := by simpa using hc
    have h8 : Dbm.chk n L = 8 := (Dbm.chk_cases n L).resolve_left hc'
    rw [h8]
    exact EndI.mk fun w3 h3 => err 8 w3 (by rw [Proj.move, if_neg hc'])
  have hc0 : Dbm.chk n L = 0 := by simpa using hc
  obtain ⟨c1, c2, c3, c4⟩ := Dbm.chk_iff.1 hc0
  apply CallI.mk
  intro w3 h3
  refine (callsIn_wide.1 (values_in 9 ao O.length co w3)).mono ?_
  rintro e w4 ⟨rfl, rfl⟩
  have hB1 : Below w3.heap.size w3 (w3.alloc (.cells #[.slice ao O.length co] 42)) := below_al (Below.refl _ _)
  refine ⟨h3.keep hB1, _, rfl, ?_⟩
  have hBs : (w3.alloc (.cells #[.slice ao O.length co] 42)).cell? ⟨w3.heap.size, 0, none⟩ = some (.slice ao O.length co) := by simp
  have hsz : w3.heap.size < (w3.alloc (.cells #[.slice ao O.length co] 42)).heap.size := by simp
  generalize w3.alloc (.cells #[.slice ao O.length co] 42) = w4 at hBs hsz hB1
  generalize w3.heap.size = Bs at hBs hsz
  apply CallI.use
  · exact fun w5 h5 => sorted_any Bs ao co O hlen w5 ((h5.go.cell (p := ⟨Bs, 0, none⟩) hsz).trans hBs) (Sl.at h5 hSO)
  intro v w5 w6 h5 hB6 hOw
  obtain ⟨aS, cS, rfl⟩ := hOw.form
  have hsl : (Proj.sortI O).length = O.length := (Proj.sortI_perm O).length_eq
  have hSS : Sl w6.heap.size w6 (.slice aS (Proj.sortI O).length cS) (Proj.sortI O) := hOw.sl
  have e2 : ∀ (w' : World), ¬ Proj.moveOk n O = true → ∃ a' cap', Value.tuple #[.agg #[.int .i64 0, .slice none 0 0], .int .i64 2] = .tuple #[.agg #[.int .i64 (Proj.move n L O).1, .slice a' (Proj.move n L O).2.1.length cap'], .int .i64 (Proj.move n L O).2.2] ∧ Fresh TB w.heap.size w' (.slice a' (Proj.move n L O).2.1.length cap') (Proj.move n L O).2.1 := fun w' hno =>
    err 2 w' (by rw [Proj.move, if_pos hc0, if_neg hno])
  refine Branch.mk (fun hc1 => ?_) (fun hc1 => ?_)
  · have hl : ¬ (O.length : Int) = n := by simpa using hc1
    exact EndI.mk fun w7 h7 => e2 w7 fun h => by simp [Proj.moveOk, hl] at h
  have hl : (O.length : Int) = n := by simpa using hc1
  obtain ⟨N, rfl⟩ : ∃ N : Nat, n = N := ⟨n.toNat, by omega⟩
  have hlen' : L.length = N * N := by exact_mod_cast c3
  have hg0 := Proj.og_get (O := O) (i := 0) (by omega)
  have hw6 : Below w.heap.size w w6 := h5.below.trans (hB6.mono h5.below.size)
  have hSO6 := hSO.go hw6 hw6.size
  refine hSO6.idx (k := 0) hg0 fun ad had => ?_
  refine hSO6.ld1 (k := 0) hg0 had (Below.refl _ _) (by simp) ?_
  refine Branch.mk (fun hc2 => ?_) (fun hc2 => ?_)
  · have hz : ¬ Proj.og O 0 = 0 := by simpa using hc2
    exact EndI.mk fun w7 h7 => e2 w7 fun h => by
      obtain ⟨M, hM, hO'⟩ := (Proj.moveOk_iff c1).1 h
      exact hz hO'.zero
  have hz : Proj.og O 0 = 0 := by simpa using hc2
  have hsN : (Proj.sortI O).length = N := by omega
  refine LoopI.invC (α := Nat × World) (fun y => [(33, .val (.int .i64 y.1))]) (fun y => y.2) (fun y => y.1 ≤ N ∧ Below w6.heap.size w6 y.2 ∧ Below w.heap.size w y.2 ∧ ∀ j, j < y.1 → Proj.og (Proj.sortI O) j = j) (fun y => N - y.1) ?_ ?_
  · intro w7 h7
    exact ⟨(0, w7), Cov.mk (by repeat' (first | exact trivial | refine And.intro rfl ?_)) rfl rfl rfl rfl rfl, rfl, Nat.zero_le _, h7.go, h7.below, fun j hj => by omega⟩
  rintro ⟨k, W⟩ ⟨hk, hW6, hW, hall⟩
  refine Branch.mk (fun hb => ?_) (fun hb => ?_)
  · have hlt : k < N := by have : (k : Int) < (Proj.sortI O).length := by simpa using hb
                           omega
    have hgk := Proj.og_get (O := Proj.sortI O) (i := k) (by omega)
    have hSW := hSS.go hW6 hW6.size
    refine hSW.idx hgk fun ad' had' => ?_
    refine hSW.ld1 hgk had' (Below.refl _ _) (by simp) ?_
    refine Branch.mk (fun hc3 => ?_) (fun hc3 => ?_)
    · have hne : ¬ (k : Int) = Proj.og (Proj.sortI O) k := by simpa using hc3
      exact EndI.mk fun w7 h7 => e2 w7 fun h => by
        obtain ⟨M, hM, hO'⟩ := (Proj.moveOk_iff c1).1 h
        have hM' : N = M := by exact_mod_cast hM
        subst hM'
        have := Proj.sortI_upto.2 hO'.perm
        apply hne
        rw [this]
        unfold Proj.og upto
        rw [List.getElem?_map, List.getElem?_range hlt]; rfl
    · have heq : (k : Int) = Proj.og (Proj.sortI O) k := by simpa using hc3
      refine Need.mk (by show _ ∧ _; omega) (EndI.mk fun w7 h7 => ⟨(k + 1, w7), Cov.mk (by repeat' (first | exact trivial | refine And.intro rfl ?_)) rfl rfl rfl rfl rfl, rfl, ⟨hlt, hW6.trans (h7.go.mono hW6.size), h7.below, fun j hj => ?_⟩, by simp only; omega⟩)
      rcases Nat.lt_succ_iff_lt_or_eq.1 hj with h | h
      · exact hall j h
      · rw [h]; exact heq.symm
  have hge : k = N := by have : ¬ (k : Int) < (Proj.sortI O).length := by simpa using hb
                         omega
  subst hge
  have hsu : Proj.sortI O = upto k := by
    refine Proj.ext_get hsN (upto_len k) fun q hq => ?_
    have := hall q hq
    unfold Proj.og at this
    rw [this]
    unfold upto
    rw [List.getElem?_map, List.getElem?_range hq]; rfl
  have hO : Proj.Ord k O := Proj.ord_perm (by omega) hz (Proj.sortI_upto.1 hsu)
  apply CallI.use
  · intro w7 h7
    have hF : ∀ q, q < k * k → Proj.moveF k O q < L.length := fun q hq => by
      have := (Proj.moveF_lt hO hq).2
      rw [hlen']; exact this
    refine pmade_any k L a cap k (by omega) (by omega) 42 #[.pointer (some ⟨b2, 0, none⟩), .pointer (some ⟨b1, 0, none⟩)] Try.call42 (Proj.moveF k O) w7 (Sl.at h7 hS) hF (fun q W' hq hW' => ?_)
    have e1 : q / k < O.length := by have := Dbm.div_lt hq; omega
    have e2 : q % k < O.length := by have := Dbm.mod_lt hq; omega
    have r1 := hO.lt _ (Dbm.div_lt hq)
    have r2 := hO.lt _ (Dbm.mod_lt hq)
    have r3 := Proj.moveF_lt hO hq
    have hk4 : k * k ≤ 4 * 4 := Nat.mul_le_mul (by omega) (by omega)
    have r4 : 0 ≤ Proj.og O (q / k) * (k : Int) := Int.mul_nonneg r1.1 (by omega)
    have hr3 : Proj.og O (q / k) * (k : Int) + Proj.og O (q % k) < 16 := by have := r3.2; unfold Proj.moveF at this; omega
    have hW7 := hSO.go (h7.below.trans (hW'.mono h7.below.size)) (Nat.le_trans h7.below.size hW'.size)
    exact move1_any (q / k) (q % k) b2 b1 ao co O k (Proj.og O (q / k)) (Proj.og O (q % k)) (Proj.og_get e1) (Proj.og_get e2) ⟨by show _ ∧ _; omega, by show _ ∧ _; omega⟩ W'
      ((hW'.cell (p := ⟨b2, 0, none⟩) (h7.lt b2 (by simp))).trans (h7.own (i := 1) (o := 0) rfl rfl rfl)) hW7 ((hW'.cell (p := ⟨b1, 0, none⟩) (h7.lt b1 (by simp))).trans (h7.own (i := 0) (o := 0) rfl rfl rfl))
  rintro v w7 w8 h7 hB8 ⟨am, cm, rfl, hF⟩
  refine EndI.mk fun w9 h9 => ?_
  rw [Proj.move_of hc0 hO]
  refine ⟨_, _, rfl, ?_⟩
  exact (hF.at h9 (fun x hx => by rw [List.mem_singleton.1 hx]; exact h7.lt b3 (by simp))).lower h7.below.size
end Go.Proofs.Ytnhfkodjphplfaa

/-
  Plain laws of fractions: products in two words, sums in lowest terms. No program is in sight.
-/
namespace Go.Proofs.Ytnhfkodjphplfaa
set_option linter.unusedVariables false
namespace Fr

/-- a number by another one, in lowest terms, as far as it may be. -/
def low (n d : Int) : Rt × Int := if okB (n / Int.gcd n d) (d / Int.gcd n d) = true then (⟨n / Int.gcd n d, d / Int.gcd n d⟩, 0) else (⟨0, 0⟩, 10)
def of (n d : Int) : Rt × Int := if d < 1 then (⟨0, 0⟩, 30) else low n d
def inI (z : Int) : Bool := decide (-9223372036854775808 ≤ z) && decide (z ≤ 9223372036854775807)
/-- the numerator, and what it is divided by, of a sum by k. -/
def tn (a b : Rt) : Int := a.num * b.den + b.num * a.den
def dn (a b : Rt) (k : Int) : Int := a.den * b.den * k
def sum (a b : Rt) (k : Int) : Rt × Int :=
  if okB (tn a b / Int.gcd (tn a b) (dn a b k)) (dn a b k / Int.gcd (tn a b) (dn a b k)) = true ∧ inI (tn a b / Int.gcd (tn a b) (dn a b k)) = true
  then (⟨tn a b / Int.gcd (tn a b) (dn a b k), dn a b k / Int.gcd (tn a b) (dn a b k)⟩, 0) else (⟨0, 0⟩, 10)
def add (a b : Rt) : Rt × Int := if a.ok = true ∧ b.ok = true then sum a b 1 else (⟨0, 0⟩, 8)
def mid (a b : Rt) : Rt × Int := if a.ok = true ∧ b.ok = true then sum a b 2 else (⟨0, 0⟩, 8)
def cmpR (a b : Rt) : Int := cmpI (a.num * b.den) (b.num * a.den)
def cmp (a b : Rt) : Int × Int := if a.ok = true ∧ b.ok = true then (cmpR a b, 0) else (0, 8)
def floor (a : Rt) : Int × Bool × Int := if a.ok = true then (a.num / a.den, decide (a.num % a.den = 0), 0) else (0, false, 8)

-- the code's own steps
def sWhole (a b : Rt) : Int := a.num / a.den + b.num / b.den
def sRest (a b : Rt) : Int := a.num % a.den * b.den + b.num % b.den * a.den
def sDen (a b : Rt) : Int := a.den * b.den
def sRest2 (a b : Rt) (k : Int) : Int := sRest a b + sWhole a b % k * sDen a b
def sPart (a b : Rt) (k : Int) : Int := sRest2 a b k % (sDen a b * k)
def sW (a b : Rt) (k : Int) : Int := sWhole a b / k + sRest2 a b k / (sDen a b * k)

theorem mul_bd {u v m n : Int} (h0 : 0 ≤ u) (h1 : u ≤ m) (h2 : 0 ≤ v) (h3 : v ≤ n) : 0 ≤ u * v ∧ u * v ≤ m * n :=
  ⟨Int.mul_nonneg h0 h2, Int.mul_le_mul h1 h3 h2 (Int.le_trans h0 h1)⟩
theorem ok_bd {a : Rt} (h : a.ok = true) : 1 ≤ a.den ∧ a.den ≤ 1048576 ∧ -2305843009213693952 ≤ a.num / a.den ∧ a.num / a.den ≤ 2305843009213693952 ∧ 0 ≤ a.num % a.den ∧ a.num % a.den < a.den := by
  have h1 := ok_den h
  have h2 := in_iff.1 (ok_in h)
  have h3 := Int.emod_nonneg a.num (b := a.den) (by omega)
  have h4 := Int.emod_lt_of_pos a.num (b := a.den) (by omega)
  omega
theorem sum_split {a b : Rt} {k : Int} (ha : a.ok = true) (hb : b.ok = true) (hk : k = 1 ∨ k = 2) : tn a b = sW a b k * (sDen a b * k) + sPart a b k := by
  have e1 : a.num = a.den * (a.num / a.den) + a.num % a.den := (Int.mul_ediv_add_emod a.num a.den).symm
  have e2 : b.num = b.den * (b.num / b.den) + b.num % b.den := (Int.mul_ediv_add_emod b.num b.den).symm
  have e3 : sWhole a b = k * (sWhole a b / k) + sWhole a b % k := (Int.mul_ediv_add_emod _ k).symm
  have e4 : sRest2 a b k = sDen a b * k * (sRest2 a b k / (sDen a b * k)) + sPart a b k := (Int.mul_ediv_add_emod _ _).symm
  unfold tn sW
  unfold sRest2 at e4
  unfold sRest2
  unfold sRest at e4 ⊢
  unfold sDen at e4 ⊢
  unfold sWhole at e3 e4 ⊢
  generalize a.num / a.den = x at *
  generalize b.num / b.den = y at *
  generalize a.num % a.den = r at *
  generalize b.num % b.den = s at *
  generalize (x + y) / k = q at *
  generalize (x + y) % k = t at *
  generalize (r * b.den + s * a.den + t * (a.den * b.den)) / (a.den * b.den * k) = m at *
  generalize sPart a b k = p at *
  rw [e1, e2]
  grind
theorem dn_pos {a b : Rt} {k : Int} (ha : a.ok = true) (hb : b.ok = true) (hk : k = 1 ∨ k = 2) : 1 ≤ sDen a b ∧ sDen a b ≤ 1099511627776 ∧ 1 ≤ sDen a b * k ∧ sDen a b * k ≤ 2199023255552 := by
  have h1 := ok_bd ha
  have h2 := ok_bd hb
  have h3 := mul_bd (u := a.den) (v := b.den) (m := 1048576) (n := 1048576) (by omega) (by omega) (by omega) (by omega)
  have h4 : 1 ≤ a.den * b.den := by
    have := Int.mul_le_mul (a := 1) (b := 1) h1.1 h2.1 (by omega) (by omega)
    omega
  unfold sDen
  generalize a.den * b.den = D at *
  rcases hk with rfl | rfl <;> omega
theorem sum_bd {a b : Rt} {k : Int} (ha : a.ok = true) (hb : b.ok = true) (hk : k = 1 ∨ k = 2) :
    (-4611686018427387904 ≤ sWhole a b ∧ sWhole a b ≤ 4611686018427387904) ∧ (0 ≤ a.num % a.den * b.den ∧ a.num % a.den * b.den ≤ 1099511627776) ∧ (0 ≤ b.num % b.den * a.den ∧ b.num % b.den * a.den ≤ 1099511627776) ∧ (0 ≤ sWhole a b % k * sDen a b ∧ sWhole a b % k * sDen a b ≤ 1099511627776) ∧
    (0 ≤ sRest2 a b k ∧ sRest2 a b k ≤ 3298534883328) ∧ (0 ≤ sPart a b k ∧ sPart a b k < sDen a b * k) ∧ (0 ≤ sRest2 a b k / (sDen a b * k) ∧ sRest2 a b k / (sDen a b * k) ≤ 3298534883328) ∧ (-4611686018427387904 ≤ sWhole a b / k ∧ sWhole a b / k ≤ 4611686018427387904) := by
  have h1 := ok_bd ha
  have h2 := ok_bd hb
  have h3 := dn_pos ha hb hk
  have m1 := mul_bd (u := a.num % a.den) (v := b.den) (m := 1048576) (n := 1048576) (by omega) (by omega) (by omega) (by omega)
  have m2 := mul_bd (u := b.num % b.den) (v := a.den) (m := 1048576) (n := 1048576) (by omega) (by omega) (by omega) (by omega)
  have hw : -4611686018427387904 ≤ sWhole a b ∧ sWhole a b ≤ 4611686018427387904 := by unfold sWhole; omega
  have hl : 0 ≤ sWhole a b % k ∧ sWhole a b % k ≤ 1 := by rcases hk with rfl | rfl <;> omega
  have m3 := mul_bd (u := sWhole a b % k) (v := sDen a b) (m := 1) (n := 1099511627776) hl.1 hl.2 (by omega) (by omega)
  have hr2 : 0 ≤ sRest2 a b k ∧ sRest2 a b k ≤ 3298534883328 := by unfold sRest2 sRest; omega
  have hp : 0 ≤ sPart a b k ∧ sPart a b k < sDen a b * k := ⟨Int.emod_nonneg _ (by omega), Int.emod_lt_of_pos _ (by omega)⟩
  have hn : 0 ≤ sRest2 a b k / (sDen a b * k) ∧ sRest2 a b k / (sDen a b * k) ≤ 3298534883328 := ⟨Int.ediv_nonneg (by omega) (by omega), Int.le_trans (Int.ediv_le_self _ (by omega)) (by omega)⟩
  have hq : -4611686018427387904 ≤ sWhole a b / k ∧ sWhole a b / k ≤ 4611686018427387904 := by rcases hk with rfl | rfl <;> omega
  exact ⟨hw, by omega, by omega, by omega, hr2, hp, hn, hq⟩

/-- lowest terms, part by part. -/
theorem red {T W D p : Int} (hD : 1 ≤ D) (hp : 0 ≤ p ∧ p < D) (e : T = W * D + p) :
    1 ≤ (Int.gcd p D : Int) ∧ Int.gcd T D = Int.gcd p D ∧ T / Int.gcd p D = W * (D / Int.gcd p D) + p / Int.gcd p D ∧ (0 ≤ p / Int.gcd p D ∧ p / Int.gcd p D < D / Int.gcd p D) ∧ 1 ≤ D / Int.gcd p D ∧ D / Int.gcd p D ≤ D := by
  have hg : 1 ≤ (Int.gcd p D : Int) := by
    have : 0 < Int.gcd p D := Int.gcd_pos_of_ne_zero_right _ (by omega)
    omega
  have d1 : (Int.gcd p D : Int) ∣ p := Int.gcd_dvd_left ..
  have d2 : (Int.gcd p D : Int) ∣ D := Int.gcd_dvd_right ..
  have hgT : Int.gcd T D = Int.gcd p D := by rw [e, Int.add_comm, Int.gcd_add_mul_right_left]
  generalize (Int.gcd p D : Int) = g at *
  obtain ⟨u, hu⟩ := d1
  obtain ⟨v, hv⟩ := d2
  have e1 : p / g = u := by rw [hu]; exact Int.mul_ediv_cancel_left _ (by omega)
  have e2 : D / g = v := by rw [hv]; exact Int.mul_ediv_cancel_left _ (by omega)
  have e3 : T / g = W * v + u := by
    rw [e, hu, hv, show W * (g * v) + g * u = g * (W * v + u) by grind]
    exact Int.mul_ediv_cancel_left _ (by omega)
  rw [e1, e2, e3]
  refine ⟨hg, hgT, rfl, ⟨?_, ?_⟩, ?_, ?_⟩
  · rw [← e1]; exact Int.ediv_nonneg hp.1 (by omega)
  · refine Int.lt_of_mul_lt_mul_left (a := g) ?_ (by omega)
    rw [← hu, ← hv]; exact hp.2
  · rw [← e2]
    have := Int.ediv_pos_of_pos_of_dvd (a := D) (b := g) (by omega) (by omega) ⟨v, hv⟩
    omega
  · rw [← e2]; exact Int.ediv_le_self _ (by omega)

/-- what the code comes to, from its parts: W whole, p of d more. -/
def finish (W p d : Int) : Rt × Int :=
  if 1048576 < d then (⟨0, 0⟩, 10)
  else if Num.chk W ≠ 0 then (⟨0, 0⟩, 10)
  else if inI (W * d + p) = true then low (W * d + p) d else (⟨0, 0⟩, 10)
theorem finish_sum {a b : Rt} {k : Int} (ha : a.ok = true) (hb : b.ok = true) (hk : k = 1 ∨ k = 2) :
    finish (sW a b k) (sPart a b k / Int.gcd (sPart a b k) (sDen a b * k)) (sDen a b * k / Int.gcd (sPart a b k) (sDen a b * k)) = sum a b k := by
  have hd := dn_pos ha hb hk
  have hbd := sum_bd ha hb hk
  obtain ⟨hg, hgT, eT, hp, hd1, hd2⟩ := red (T := tn a b) (W := sW a b k) (D := sDen a b * k) (p := sPart a b k) (by omega) (by omega) (sum_split ha hb hk)
  have hdn : dn a b k = sDen a b * k := rfl
  unfold sum
  rw [hdn, hgT, eT]
  have hcop : Int.gcd (sPart a b k / Int.gcd (sPart a b k) (sDen a b * k)) (sDen a b * k / Int.gcd (sPart a b k) (sDen a b * k)) = 1 := by
    have := Int.gcd_ediv_gcd_ediv_gcd (i := sPart a b k) (j := sDen a b * k) (by omega)
    exact this
  generalize sPart a b k / Int.gcd (sPart a b k) (sDen a b * k) = p at *
  generalize sDen a b * k / Int.gcd (sPart a b k) (sDen a b * k) = d at *
  generalize sW a b k = W at *
  have hq : (W * d + p) / d = W := by
    rw [Int.add_comm, Int.add_mul_ediv_right _ _ (by omega), Int.ediv_eq_zero_of_lt hp.1 hp.2]; omega
  have hg1 : Int.gcd (W * d + p) d = 1 := by rw [Int.add_comm, Int.gcd_add_mul_right_left]; exact hcop
  unfold finish
  by_cases h1 : 1048576 < d
  · rw [if_pos h1, if_neg]
    rintro ⟨h, _⟩
    have := ok_den h; omega
  rw [if_neg h1]
  by_cases h2 : Num.chk W ≠ 0
  · rw [if_pos h2, if_neg]
    rintro ⟨h, _⟩
    have := in_iff.1 (ok_in h)
    rw [hq] at this
    apply h2
    apply Num.chk_yes
    simp only [Num.okB, Bool.and_eq_true, decide_eq_true_eq]
    omega
  rw [if_neg h2]
  by_cases h3 : inI (W * d + p) = true
  · rw [if_pos h3]
    unfold low
    rw [hg1]
    simp only [Int.natCast_one, Int.ediv_one, h3, and_true]
  · rw [if_neg h3, if_neg (fun h => h3 h.2)]

/-- the word that a product's lower half is. -/
def il (P : Int) : Int := (P % 18446744073709551616 + 9223372036854775808) % 18446744073709551616 - 9223372036854775808
theorem il_ne {P t : Int} (h : P / 18446744073709551616 ≠ il P / 9223372036854775808) (hs : (0 ≤ P ∧ P ≤ t) ∨ (t ≤ P ∧ P ≤ 0)) : inI t = false := by
  unfold il at h
  unfold inI
  simp only [Bool.and_eq_false_iff, decide_eq_false_iff_not]
  omega
theorem il_eq {P : Int} (h : P / 18446744073709551616 = il P / 9223372036854775808) : il P = P ∧ -9223372036854775808 ≤ P ∧ P ≤ 9223372036854775807 := by
  unfold il at *; omega
end Fr
end Go.Proofs.Ytnhfkodjphplfaa

/-
  Plain laws of what is picked: a time of each clock, by those ahead of it. No program is in sight.
-/
namespace Go.Proofs.Ytnhfkodjphplfaa
set_option linter.unusedVariables false

namespace Fr
theorem ins_zero : (⟨0, 0⟩ : Rt).ins := by simp [Rt.ins, Eng.inK]
theorem ins_nought : (⟨0, 1⟩ : Rt).ins := by simp [Rt.ins, Eng.inK]
theorem ok_nought : (⟨0, 1⟩ : Rt).ok = true := by decide
theorem ins_den {d : Int} (h : 1 ≤ d ∧ d ≤ 1048576) : Eng.inK .i64 d := by simp only [Eng.inK]; omega
theorem low_ins {n d : Int} (hn : Eng.inK .i64 n) (hd : 1 ≤ d) : (low n d).1.ins := by
  unfold low
  split
  · rename_i h
    have hg : 1 ≤ (Int.gcd n d : Int) := by
      have : 0 < Int.gcd n d := Int.gcd_pos_of_ne_zero_right _ (by omega)
      omega
    exact ⟨ediv_in hg hn, ins_den (ok_den h)⟩
  · exact ins_zero
theorem of_ins {n d : Int} (hn : Eng.inK .i64 n) : (of n d).1.ins := by
  unfold of
  split
  · exact ins_zero
  · exact low_ins hn (by omega)
theorem sum_ins {a b : Rt} {k : Int} : (sum a b k).1.ins := by
  unfold sum
  split
  · rename_i h
    refine ⟨?_, ins_den (ok_den h.1)⟩
    have := h.2
    simp only [inI, Bool.and_eq_true, decide_eq_true_eq] at this
    simp only [Eng.inK]; exact this
  · exact ins_zero
theorem add_ins {a b : Rt} : (add a b).1.ins := by
  unfold add
  split
  · exact sum_ins
  · exact ins_zero
theorem mid_ins {a b : Rt} : (mid a b).1.ins := by
  unfold mid
  split
  · exact sum_ins
  · exact ins_zero
theorem cmpI_cases (x y : Int) : cmpI x y = -1 ∨ cmpI x y = 0 ∨ cmpI x y = 1 := by
  unfold cmpI; split
  · exact .inl rfl
  · split
    · exact .inr (.inr rfl)
    · exact .inr (.inl rfl)
theorem cmp_cases (a b : Rt) : (cmp a b).1 = -1 ∨ (cmp a b).1 = 0 ∨ (cmp a b).1 = 1 := by
  unfold cmp
  split
  · exact cmpI_cases _ _
  · exact .inr (.inl rfl)
def shift (a : Rt) (n : Int) : Rt := (add a (of n 1).1).1
end Fr

namespace Incl
/-- an end: whether there is one, where, and whether it is strict. -/
structure End where
  is : Bool
  at_ : Rt
  strict : Bool
def End.none : End := ⟨false, ⟨0, 0⟩, false⟩
def nearer (x : End) (b : Int) (from_ : Rt) (s : Int) : End :=
  if (Bd.value b).2.2 ≠ 0 then x
  else if x.is = false ∨ 0 < (Fr.cmp (Fr.shift from_ (-s * (Bd.value b).1)) x.at_).1 * s then ⟨true, Fr.shift from_ (-s * (Bd.value b).1), (Bd.value b).2.1⟩
  else if (Fr.cmp (Fr.shift from_ (-s * (Bd.value b).1)) x.at_).1 = 0 then ⟨x.is, x.at_, x.strict || (Bd.value b).2.1⟩ else x
theorem nearer_ins {x : End} {b : Int} {r : Rt} {s : Int} (h : x.at_.ins) : (nearer x b r s).at_.ins := by
  unfold nearer
  split
  · exact h
  · split
    · exact Fr.add_ins
    · split
      · exact h
      · exact h
/-- both ends, by the first so many times. -/
def ends (n : Nat) (C : List Int) (so : List Rt) : Nat → End × End
  | 0 => (End.none, End.none)
  | k + 1 => (nearer (ends n C so k).1 (C[k * n + so.length]?.getD 0) (so[k]?.getD ⟨0, 1⟩) 1, nearer (ends n C so k).2 (C[so.length * n + k]?.getD 0) (so[k]?.getD ⟨0, 1⟩) (-1))
theorem ends_ins (n : Nat) (C : List Int) (so : List Rt) (k : Nat) : (ends n C so k).1.at_.ins ∧ (ends n C so k).2.at_.ins := by
  induction k with
  | zero => exact ⟨Fr.ins_zero, Fr.ins_zero⟩
  | succ k ih => exact ⟨nearer_ins ih.1, nearer_ins ih.2⟩
def choose (l h : End) : Rt :=
  if l.is = true ∧ l.strict = false then l.at_ else if h.is = true ∧ h.strict = false then h.at_
  else if l.is = true ∧ h.is = true then (Fr.mid l.at_ h.at_).1 else if l.is = true then Fr.shift l.at_ 1 else if h.is = true then Fr.shift h.at_ (-1) else ⟨0, 1⟩
theorem choose_ins {l h : End} (hl : l.at_.ins) (hh : h.at_.ins) : (choose l h).ins := by
  unfold choose
  repeat' split
  · exact hl
  · exact hh
  · exact Fr.mid_ins
  · exact Fr.add_ins
  · exact Fr.add_ins
  · exact Fr.ins_nought
def pick (n : Nat) (C : List Int) (so : List Rt) : Rt := choose (ends n C so so.length).1 (ends n C so so.length).2
theorem pick_ins (n : Nat) (C : List Int) (so : List Rt) : (pick n C so).ins := choose_ins (ends_ins n C so _).1 (ends_ins n C so _).2
/-- the times so far, after so many clocks. -/
def sofar (n : Nat) (C : List Int) : Nat → List Rt
  | 0 => [⟨0, 1⟩]
  | k + 1 => sofar n C k ++ [pick n C (sofar n C k)]
theorem sofar_len (n : Nat) (C : List Int) (k : Nat) : (sofar n C k).length = k + 1 := by
  induction k with
  | zero => rfl
  | succ k ih => simp [sofar, ih]
theorem sofar_ins (n : Nat) (C : List Int) (k : Nat) : ∀ x ∈ sofar n C k, x.ins := by
  induction k with
  | zero => intro x hx; rw [List.mem_singleton.1 hx]; exact Fr.ins_nought
  | succ k ih =>
    intro x hx
    rcases List.mem_append.1 hx with h | h
    · exact ih x h
    · rw [List.mem_singleton.1 h]; exact pick_ins ..
def picked (n : Nat) (C : List Int) : List Rt := (sofar n C (n - 1)).drop 1
/-- Pick: times, or an error. -/
def picks (n : Int) (L : List Int) : List Rt × Int :=
  if Dbm.chk n L = 0 then (match Dbm.closeL n.toNat L with | none => ([], 6) | some C => (picked n.toNat C, 0)) else ([], 8)
end Incl
end Go.Proofs.Ytnhfkodjphplfaa

/-
  DERIVED: THE SHELF's CONTRACTS AT THIS DUMP, IN PLAIN WORDS (tools/lay-plain.mjs out of 'YtnhfkodjphplfaaShelf0.lean', which tools/lay-shelf.mjs wrote): THE SAME DECLARATIONS UNDER THE SAME NAMES: 'import', 'namespace', 'open', 'def', 'theorem' AND NOTHING ELSE: no command of the shelf's: FOR A HAND-IN. Each laying: the table of numbers ('.._ren') and one theorem, a field a fact of the dump's own or the kernel's comparison; each contract: ONE APPLICATION.
-/
namespace Go.Proofs
open Go.Shelf
def Try.mul64_ren : Go.Shelf.Ren := ⟨fun | 264 => 115 | n => n, fun | 53 => 94 | 46 => 125 | n => n, fun | n => n⟩
theorem Try.mul64 : Go.Proofs.Lays.n264 Try.prog Try.mul64_ren := {
  mixed := by kernel_rfl
  f264 := Try.func115.trans (congrArg some (by kernel_rfl))
  t46 := Try.underlying125
  a46 := Try.isAgg125
  z46 := Try.sizeOf125
  v46 := Try.zeroValue125
  t53 := Try.underlying94
  a53 := Try.isAgg94
  z53 := Try.sizeOf94
  v53 := Try.zeroValue94 }
end Go.Proofs

/-
  The contracts of package rat that compare: product, compare, Cmp, by the engine.
-/
namespace Go.Proofs.Ytnhfkodjphplfaa
set_option linter.unusedVariables false
set_option linter.unusedSimpArgs false
set_option maxRecDepth 100000
open Go.RowKit Go.Proofs.Ytnhfkodjphplfaa.Eng Enc

theorem mul64_any (x y : Nat) (hx : x < 18446744073709551616) (hy : y < 18446744073709551616) (w : World) :
    Calls Try.prog 115 #[.int .u64 x, .int .u64 y] w fun e w' => e = .returned (.tuple #[.int .u64 ((x * y / 18446744073709551616 : Nat) : Int), .int .u64 ((x * y % 18446744073709551616 : Nat) : Int)]) ∧ w = w' :=
  (Any.bits_Mul64 Try.mul64 x y hx hy w).mono fun e w' ⟨h1, h2⟩ => ⟨h1, h2.symm⟩

theorem tupP {a b c d : Int} (h : a = c) (k : b = d) : Value.tuple #[.int .i64 a, .int .u64 b] = .tuple #[.int .i64 c, .int .u64 d] := by rw [h, k]
theorem sub64_run (x y b : Nat) (hb : b ≤ 1) (w : World) : (callFunc 116 #[.int .u64 x, .int .u64 y, .int .u64 b]).run Try.prog w = .ok (.value (.tuple #[.int .u64 (((x + 18446744073709551616 - y - b) % 18446744073709551616 : Nat) : Int), .int .u64 ((if x < y + b then 1 else 0 : Nat) : Int)])) w := by
  rw [run_callFunc_extern Try.func116 (by kernel_rfl) (by kernel_rfl) (by kernel_rfl) (e := sub64Entry) (by kernel_rfl), run_sub64 x y b hb]; rfl

theorem product_any (a b : Int) (ha : inK .i64 a) (hb : inK .i64 b) (w : World) :
    Calls Try.prog 106 #[.int .i64 a, .int .i64 b] w fun e w' => e = .returned (.tuple #[.int .i64 (a * b / 18446744073709551616), .int .u64 (a * b % 18446744073709551616)]) ∧ Below w.heap.size w w' := by
  refine fun_eqW 0 w Try.func106 (args := [.val (.int .i64 a), .val (.int .i64 b)]) rfl rfl ?_
  simp only [inK] at ha hb
  (first
    | (refine CallI.to1 (size_any a ha) fun w2 => ?_)
    | (refine Branch.yes rfl ?_)
    | (refine Branch.no rfl ?_)
    | (refine Branch.mk (fun hb => ?_) (fun hb => ?_))
    | (refine NewI.mk fun nb hnb => ?_)
    | (refine Need.mk (by show _ ∧ _; omega) ?_)
    | (refine Need.mk (by omega) ?_)
    | (refine Need.mk ?_ ?_)
    | (refine EndI.mk fun w1 h1 => ?_))
  (first
    | (refine CallI.to1 (size_any b hb) fun w2 => ?_)
    | (refine Branch.yes rfl ?_)
    | (refine Branch.no rfl ?_)
    | (refine Branch.mk (fun hb => ?_) (fun hb => ?_))
    | (refine NewI.mk fun nb hnb => ?_)
    | (refine Need.mk (by show _ ∧ _; omega) ?_)
    | (refine Need.mk (by omega) ?_)
    | (refine Need.mk ?_ ?_)
    | (refine EndI.mk fun w1 h1 => ?_))
  refine CallI.to0 (mul64_any a.natAbs b.natAbs (by omega) (by omega)) fun w2 => ?_
  have hP : a.natAbs * b.natAbs ≤ 9223372036854775808 * 9223372036854775808 := Nat.mul_le_mul (by omega) (by omega)
  have habs : (a * b).natAbs = a.natAbs * b.natAbs := Int.natAbs_mul a b
  have hneg : a * b < 0 → (a < 0 ↔ ¬ b < 0) := fun h => by
    constructor
    · intro h1 h2
      have := Int.mul_pos_of_neg_of_neg h1 h2; omega
    · intro h1
      rcases Int.lt_or_le a 0 with h2 | h2
      · exact h2
      · have := Int.mul_nonneg h2 (by omega : 0 ≤ b); omega
  have hpos : 0 < a * b → (a < 0 ↔ b < 0) := fun h => by
    rcases Int.lt_or_le a 0 with h1 | h1 <;> rcases Int.lt_or_le b 0 with h2 | h2
    · simp [h1, h2]
    · have := Int.mul_nonpos_of_nonpos_of_nonneg (Int.le_of_lt h1) h2; omega
    · have := Int.mul_nonpos_of_nonneg_of_nonpos h1 (Int.le_of_lt h2); omega
    · omega
  generalize a.natAbs * b.natAbs = Q at *
  generalize a * b = Z at *
  refine Branch.mk (fun hc => ?_) (fun hc => ?_)
  · have hs : ¬ (a < 0 ↔ b < 0) := by simpa using hc
    refine GenN.to (fun w1 => sub64_run 0 (Q % 18446744073709551616) 0 (by decide) w1) fun w3 h3 => ?_
    refine GenN.to (fun w1 => sub64_run 0 (Q / 18446744073709551616) (if 0 < Q % 18446744073709551616 + 0 then 1 else 0) (by split <;> decide) w1) fun w4 h4 => ?_
    refine EndI.mk fun w5 h5 => ?_
    have hZ : Z = -(Q : Int) := by
      rcases Int.lt_or_le 0 Z with h | h
      · exact absurd (hpos h) hs
      · omega
    refine tupP ?_ ?_
    · split <;> omega
    · omega
  · have hs : (a < 0 ↔ b < 0) := by simpa using hc
    have hZ : Z = (Q : Int) := by
      rcases Int.lt_or_le Z 0 with h | h
      · have := hneg h; omega
      · omega
    refine EndI.mk fun w5 h5 => ?_
    refine tupP ?_ ?_
    · omega
    · omega

theorem nanU_any (a : Int) (w : World) : Calls Try.prog 119 #[.int .u64 a] w fun e w' => e = .returned (.bool false) ∧ Below w.heap.size w w' := by
  refine fun_eq 0 w Try.func119 (args := [.val (.int .u64 a)]) rfl rfl ?_
  repeat' (first
    | (refine Branch.yes rfl ?_)
    | (refine Branch.no rfl ?_)
    | (refine Branch.mk (fun hb => ?_) (fun hb => ?_))
    | (refine NewI.mk fun nb hnb => ?_)
    | (refine Need.mk (by show _ ∧ _; omega) ?_)
    | (refine Need.mk (by omega) ?_)
    | (refine Need.mk ?_ ?_)
    | (refine EndI.mk fun w1 h1 => ?_))
  simp
theorem cmpU_any (a b : Int) (w : World) : Calls Try.prog 117 #[.int .u64 a, .int .u64 b] w fun e w' => e = .returned (.int .i64 (cmpI a b)) ∧ Below w.heap.size w w' := by
  refine fun_eq 0 w Try.func117 (args := [.val (.int .u64 a), .val (.int .u64 b)]) rfl rfl ?_
  repeat' (first
    | (refine CallI.to1 (nanU_any _) fun w2 => ?_)
    | (refine Branch.yes rfl ?_)
    | (refine Branch.no rfl ?_)
    | (refine Branch.mk (fun hb => ?_) (fun hb => ?_))
    | (refine NewI.mk fun nb hnb => ?_)
    | (refine Need.mk (by show _ ∧ _; omega) ?_)
    | (refine Need.mk (by omega) ?_)
    | (refine Need.mk ?_ ?_)
    | (refine EndI.mk fun w1 h1 => ?_))
  all_goals
    simp only [decide_eq_true_eq, decide_eq_false_iff_not] at *
    simp [cmpI, *]
theorem firstU_any (a b : Int) (fid : FuncId) (caps : Array Value) (en : Enters Try.prog fid) (c : Int) (w : World)
    (hcall : ∀ W, Below w.heap.size w W → Calls Try.prog fid caps W fun e W' => e = .returned (.int .i64 c) ∧ Below W.heap.size W W') :
    Calls Try.prog 108 #[.int .u64 a, .int .u64 b, .func (.func fid) #[] caps] w fun e w' => e = .returned (.int .i64 (if cmpI a b ≠ 0 then cmpI a b else c)) ∧ Below w.heap.size w w' := by
  refine fun_eq 0 w Try.func108 (args := [.val (.int .u64 a), .val (.int .u64 b), .val (.func (.func fid) #[] caps)]) rfl rfl ?_
  apply CallI.use1
  · exact fun w1 h1 => cmpU_any a b w1
  intro w1 w2 h1 hB2
  refine Branch.mk (fun hc => ?_) (fun hc => ?_)
  · refine EndI.mk fun w3 h3 => ?_
    rw [if_pos (by simpa using hc)]
  refine Need.mk en ?_
  apply CallI.use1
  · exact fun w3 h3 => hcall w3 h3.below
  intro w3 w4 h3 hB4
  refine EndI.mk fun w3 h3 => ?_
  rw [if_neg (by simpa using hc)]
theorem zero_any (w : World) : Calls Try.prog 109 #[] w fun e w' => e = .returned (.int .i64 0) ∧ Below w.heap.size w w' := by
  refine fun_eq 0 w Try.func109 (args := []) rfl rfl ?_
  repeat' (first
    | (refine Branch.yes rfl ?_)
    | (refine Branch.no rfl ?_)
    | (refine Branch.mk (fun hb => ?_) (fun hb => ?_))
    | (refine NewI.mk fun nb hnb => ?_)
    | (refine Need.mk (by show _ ∧ _; omega) ?_)
    | (refine Need.mk (by omega) ?_)
    | (refine Need.mk ?_ ?_)
    | (refine EndI.mk fun w1 h1 => ?_))
  rfl
theorem compare1_any (p q : Nat) (l m : Int) (w : World) (hp : w.cell? ⟨p, 0, none⟩ = some (.int .u64 l)) (hq : w.cell? ⟨q, 0, none⟩ = some (.int .u64 m)) :
    Calls Try.prog 107 #[.pointer (some ⟨p, 0, none⟩), .pointer (some ⟨q, 0, none⟩)] w fun e w' => e = .returned (.int .i64 (cmpI l m)) ∧ Below w.heap.size w w' := by
  refine fun_eq 0 w Try.func107 (args := [.val (.pointer (some ⟨p, 0, none⟩)), .val (.pointer (some ⟨q, 0, none⟩))]) rfl rfl ?_
  refine LoadI.mk ⟨_, ⟨hp, by simp⟩, ?_⟩
  refine LoadI.mk ⟨_, ⟨hq, by simp⟩, ?_⟩
  apply CallI.use1
  · exact fun w1 h1 => firstU_any l m 109 #[] Try.call109 0 w1 fun W _ => zero_any W
  intro w1 w2 h1 hB2
  refine EndI.mk fun w3 h3 => ?_
  split
  · rfl
  · rename_i h
    rw [Decidable.not_not] at h
    rw [h]
theorem cmp_words (P Q : Int) : (if cmpI (P / 18446744073709551616) (Q / 18446744073709551616) ≠ 0 then cmpI (P / 18446744073709551616) (Q / 18446744073709551616) else cmpI (P % 18446744073709551616) (Q % 18446744073709551616)) = cmpI P Q := by
  have e1 := Int.mul_ediv_add_emod P 18446744073709551616
  have e2 := Int.mul_ediv_add_emod Q 18446744073709551616
  have h1 := Int.emod_nonneg P (b := 18446744073709551616) (by decide)
  have h2 := Int.emod_lt_of_pos P (b := 18446744073709551616) (by decide)
  have h3 := Int.emod_nonneg Q (b := 18446744073709551616) (by decide)
  have h4 := Int.emod_lt_of_pos Q (b := 18446744073709551616) (by decide)
  generalize P / 18446744073709551616 = p at *
  generalize Q / 18446744073709551616 = q at *
  generalize P % 18446744073709551616 = r at *
  generalize Q % 18446744073709551616 = s at *
  subst e1; subst e2
  have lt : ∀ {x y : Int}, x < y → cmpI x y = -1 := fun h => if_pos h
  have gt : ∀ {x y : Int}, y < x → cmpI x y = 1 := fun h => by unfold cmpI; rw [if_neg (by omega), if_pos h]
  have eq : ∀ x : Int, cmpI x x = 0 := fun x => by unfold cmpI; rw [if_neg (by omega), if_neg (by omega)]
  rcases Int.lt_trichotomy p q with h | h | h
  · rw [lt h, if_pos (by decide), lt (by omega)]
  · subst h
    rw [eq p, if_neg (by decide)]
    rcases Int.lt_trichotomy r s with h | h | h
    · rw [lt h, lt (by omega)]
    · subst h; rw [eq, eq]
    · rw [gt h, gt (by omega)]
  · rw [gt h, if_pos (by decide), gt (by omega)]
theorem compare_any (a b : Rt) (ha : a.ins) (hb : b.ins) (w : World) :
    Calls Try.prog 88 #[.agg #[.int .i64 a.num, .int .i64 a.den], .agg #[.int .i64 b.num, .int .i64 b.den]] w fun e w' => e = .returned (.int .i64 (Fr.cmpR a b)) ∧ Below w.heap.size w w' := by
  refine fun_eq 0 w Try.func88 (args := [.agg [.val (.int .i64 a.num), .val (.int .i64 a.den)], .agg [.val (.int .i64 b.num), .val (.int .i64 b.den)]]) rfl rfl ?_
  refine NewI.mk fun b1 hb1 => ?_
  refine NewI.mk fun b2 hb2 => ?_
  (first
    | (apply CallI.use1; (focus (exact fun w1 h1 => product_any a.num b.den ha.1 hb.2 w1)); intro w1 w2 h1 hB)
    | (refine Branch.yes rfl ?_)
    | (refine Branch.no rfl ?_)
    | (refine Branch.mk (fun hb => ?_) (fun hb => ?_))
    | (refine NewI.mk fun nb hnb => ?_)
    | (refine Need.mk (by show _ ∧ _; omega) ?_)
    | (refine Need.mk (by omega) ?_)
    | (refine Need.mk ?_ ?_)
    | (refine EndI.mk fun w1 h1 => ?_))
  refine NewI.mk fun b3 hb3 => ?_
  apply CallI.use1
  · exact fun w3 h3 => product_any b.num a.den hb.1 ha.2 w3
  intro w3 w4 h3 hB4
  refine NewI.mk fun b4 hb4 => ?_
  apply CallI.use1
  · exact fun w5 h5 => first_any _ _ 107 #[.pointer (some ⟨b3, 0, none⟩), .pointer (some ⟨b4, 0, none⟩)] Try.call107 (cmpI (a.num * b.den % 18446744073709551616) (b.num * a.den % 18446744073709551616)) w5 fun W hW =>
      compare1_any b3 b4 _ _ W ((hW.cell (p := ⟨b3, 0, none⟩) (h5.lt b3 (by simp))).trans (h5.own (i := 2) (o := 0) rfl rfl rfl)) ((hW.cell (p := ⟨b4, 0, none⟩) (h5.lt b4 (by simp))).trans (h5.own (i := 3) (o := 0) rfl rfl rfl))
  intro w5 w6 h5 hB6
  refine EndI.mk fun w7 h7 => ?_
  rw [cmp_words]; rfl
theorem two_all (a b : Rt) : (if [a, b].all Rt.ok = true then (0 : Int) else 8) = if a.ok = true ∧ b.ok = true then 0 else 8 := by simp
theorem rcmp_any (a b : Rt) (ha : a.ins) (hb : b.ins) (w : World) :
    Calls Try.prog 75 #[.agg #[.int .i64 a.num, .int .i64 a.den], .agg #[.int .i64 b.num, .int .i64 b.den]] w fun e w' => e = .returned (.tuple #[.int .i64 (Fr.cmp a b).1, .int .i64 (Fr.cmp a b).2]) ∧ Below w.heap.size w w' := by
  refine fun_eq 0 w Try.func75 (args := [.agg [.val (.int .i64 a.num), .val (.int .i64 a.den)], .agg [.val (.int .i64 b.num), .val (.int .i64 b.den)]]) rfl rfl ?_
  refine NewI.mk fun b1 hb1 => ?_
  refine NewI.mk fun b2 hb2 => ?_
  refine NewI.mk fun b3 hb3 => ?_
  apply CallI.use1
  · exact fun w1 h1 => rchecked_any [a, b] (by intro y hy; simp at hy; rcases hy with rfl | rfl <;> assumption) _ _ w1 (Sl.own (l := [a, b]) h1 2 rfl rfl rfl (Nat.le_refl _) (by simp [maxLen]))
  intro w1 w2 h1 hB2
  rw [two_all]
  refine Branch.mk (fun hc => ?_) (fun hc => ?_)
  · refine EndI.mk fun w3 h3 => ?_
    have hno : ¬ (a.ok = true ∧ b.ok = true) := fun h => by rw [if_pos h] at hc; cases hc
    rw [Fr.cmp, if_neg hno, if_neg hno]
  have hok : a.ok = true ∧ b.ok = true := by
    by_cases h : a.ok = true ∧ b.ok = true
    · exact h
    · rw [if_neg h] at hc; cases hc
  apply CallI.use1
  · exact fun w3 h3 => compare_any a b ha hb w3
  intro w3 w4 h3 hB4
  refine EndI.mk fun w5 h5 => ?_
  rw [Fr.cmp, if_pos hok]
end Go.Proofs.Ytnhfkodjphplfaa

/-
  The contracts of package rat that make fractions: low, Of, sum, Add, by the engine.
-/
namespace Go.Proofs.Ytnhfkodjphplfaa
set_option linter.unusedVariables false
set_option linter.unusedSimpArgs false
set_option maxRecDepth 100000
open Go.RowKit Go.Proofs.Ytnhfkodjphplfaa.Eng Enc

theorem div_in {n g : Int} (hn : inK .i64 n) (hg : 1 ≤ g) : inK .i64 (n / g) := Fr.ediv_in hg hn
theorem gcdI_any (x y : Int) (a b : Nat) (hx : x = a) (hy : y = b) (ha : a < 18446744073709551616) (hb : b < 18446744073709551616) (w : World) :
    Calls Try.prog 58 #[.int .u64 x, .int .u64 y] w fun e w' => e = .returned (.int .u64 (Nat.gcd a b)) ∧ Below w.heap.size w w' := by
  subst hx; subst hy; exact gcd_any a b ha hb w
theorem low_any (n d : Int) (hd : 1 ≤ d) (hn : inK .i64 n) (hd2 : inK .i64 d) (w : World) :
    Calls Try.prog 105 #[.int .i64 n, .int .i64 d] w fun e w' => e = .returned (.tuple #[.agg #[.int .i64 (Fr.low n d).1.num, .int .i64 (Fr.low n d).1.den], .int .i64 (Fr.low n d).2]) ∧ Below w.heap.size w w' := by
  refine fun_eq 0 w Try.func105 (args := [.val (.int .i64 n), .val (.int .i64 d)]) rfl rfl ?_
  have hn' := hn
  have hd' := hd2
  simp only [inK] at hn' hd'
  refine NewI.mk fun b1 hb1 => ?_
  (first
    | (refine CallI.to1 (size_any n hn) fun w2 => ?_)
    | (refine Branch.yes rfl ?_)
    | (refine Branch.no rfl ?_)
    | (refine Branch.mk (fun hb => ?_) (fun hb => ?_))
    | (refine NewI.mk fun nb hnb => ?_)
    | (refine Need.mk (by show _ ∧ _; omega) ?_)
    | (refine Need.mk (by omega) ?_)
    | (refine Need.mk ?_ ?_)
    | (refine EndI.mk fun w1 h1 => ?_))
  obtain ⟨D, rfl⟩ : ∃ D : Nat, d = D := ⟨d.toNat, by omega⟩
  (first
    | (refine CallI.to1 (gcdI_any _ _ n.natAbs D rfl (by omega) (by omega) (by omega)) fun w2 => ?_)
    | (refine Branch.yes rfl ?_)
    | (refine Branch.no rfl ?_)
    | (refine Branch.mk (fun hb => ?_) (fun hb => ?_))
    | (refine NewI.mk fun nb hnb => ?_)
    | (refine Need.mk (by show _ ∧ _; omega) ?_)
    | (refine Need.mk (by omega) ?_)
    | (refine Need.mk ?_ ?_)
    | (refine EndI.mk fun w1 h1 => ?_))
  have hgD : (Nat.gcd n.natAbs D : Int) ∣ (D : Int) := Int.natCast_dvd_natCast.2 (Nat.gcd_dvd_right ..)
  have hgn : (Nat.gcd n.natAbs D : Int) ∣ n := Int.ofNat_dvd_left.2 (Nat.gcd_dvd_left ..)
  have hg1 : 1 ≤ (Nat.gcd n.natAbs D : Int) := by
    have : 0 < Nat.gcd n.natAbs D := Nat.gcd_pos_of_pos_right _ (by omega)
    omega
  have hgle : (Nat.gcd n.natAbs D : Int) ≤ D := Int.le_of_dvd (by omega) hgD
  have hl : Fr.low n D = if Fr.okB (n / (Nat.gcd n.natAbs D : Int)) ((D : Int) / (Nat.gcd n.natAbs D : Int)) = true then (⟨n / (Nat.gcd n.natAbs D : Int), (D : Int) / (Nat.gcd n.natAbs D : Int)⟩, 0) else (⟨0, 0⟩, 10) := rfl
  rw [hl]
  generalize (Nat.gcd n.natAbs D : Int) = g at *
  have e1 : n.tdiv g = n / g := Int.tdiv_eq_ediv_of_dvd hgn
  have e2 : (D : Int).tdiv g = (D : Int) / g := Int.tdiv_eq_ediv_of_dvd hgD
  conv => whnf
  rw [show (g + 9223372036854775808) % 18446744073709551616 - 9223372036854775808 = g by omega]
  refine DrawI.go (.tk 0 (.tk 1 (.tk 2 (.tk 3 (.tk 4 (.tk 5 (.tk 6 (.ev 7 (.ev 8 .done))))))))) (by kernel_rfl) fun w1 h1 => ?_
  refine Need.mk ⟨by omega, by rw [e1]; exact div_in hn hg1⟩ ?_
  refine Need.mk ⟨by omega, by rw [e2]; exact div_in hd2 hg1⟩ ?_
  rw [e1, e2]
  refine NewI.mk fun b2 hb2 => ?_
  apply CallI.use1
  · exact fun w3 h3 => rcheck_any (n / g) (D / g) (div_in hn hg1) (div_in hd2 hg1) w3
  intro w3 w4 h3 hB4
  refine Branch.mk (fun hc => ?_) (fun hc => ?_)
  · refine EndI.mk fun w5 h5 => ?_
    rw [if_pos (Fr.chk_eq.1 (by simpa using hc))]
  · refine EndI.mk fun w5 h5 => ?_
    rw [if_neg (fun h => by rw [Fr.chk_yes h] at hc; cases hc)]
theorem rof_any (n d : Int) (hn : inK .i64 n) (hd2 : inK .i64 d) (w : World) :
    Calls Try.prog 86 #[.int .i64 n, .int .i64 d] w fun e w' => e = .returned (.tuple #[.agg #[.int .i64 (Fr.of n d).1.num, .int .i64 (Fr.of n d).1.den], .int .i64 (Fr.of n d).2]) ∧ Below w.heap.size w w' := by
  refine fun_eq 0 w Try.func86 (args := [.val (.int .i64 n), .val (.int .i64 d)]) rfl rfl ?_
  refine NewI.mk fun b1 hb1 => ?_
  unfold Fr.of
  refine Branch.mk (fun hc => ?_) (fun hc => ?_)
  · refine EndI.mk fun w5 h5 => ?_
    rw [if_pos (by simpa using hc)]
  have hd : ¬ d < 1 := by simpa using hc
  rw [if_neg hd]
  (first
    | (refine CallI.to1 (low_any n d (by omega) hn hd2) fun w2 => ?_)
    | (refine Branch.yes rfl ?_)
    | (refine Branch.no rfl ?_)
    | (refine Branch.mk (fun hb => ?_) (fun hb => ?_))
    | (refine NewI.mk fun nb hnb => ?_)
    | (refine Need.mk (by show _ ∧ _; omega) ?_)
    | (refine Need.mk (by omega) ?_)
    | (refine Need.mk ?_ ?_)
    | (refine EndI.mk fun w1 h1 => ?_))
  exact EndI.mk fun w5 h5 => rfl

theorem sum_any (a b : Rt) (k : Int) (ha : a.ok = true) (hb : b.ok = true) (ia : a.ins) (ib : b.ins) (hk : k = 1 ∨ k = 2) (w : World) :
    Calls Try.prog 89 #[.agg #[.int .i64 a.num, .int .i64 a.den], .agg #[.int .i64 b.num, .int .i64 b.den], .int .i64 k] w fun e w' => e = .returned (.tuple #[.agg #[.int .i64 (Fr.sum a b k).1.num, .int .i64 (Fr.sum a b k).1.den], .int .i64 (Fr.sum a b k).2]) ∧ Below w.heap.size w w' := by
  refine fun_eqW 0 w Try.func89 (args := [.agg [.val (.int .i64 a.num), .val (.int .i64 a.den)], .agg [.val (.int .i64 b.num), .val (.int .i64 b.den)], .val (.int .i64 k)]) rfl rfl ?_
  have oa := Fr.ok_bd ha
  have ob := Fr.ok_bd hb
  have hd := Fr.dn_pos ha hb hk
  obtain ⟨s1, s2, s3, s4, s5, s6, s7, s8⟩ := Fr.sum_bd ha hb hk
  have hfin := Fr.finish_sum ha hb hk
  obtain ⟨hg, _, _, hp, hd1, hd2⟩ := Fr.red (T := Fr.tn a b) (W := Fr.sW a b k) (D := Fr.sDen a b * k) (p := Fr.sPart a b k) (by omega) (by omega) (Fr.sum_split ha hb hk)
  have hk1 : 1 ≤ k := by omega
  refine NewI.mk fun b1 hb1 => ?_
  refine NewI.mk fun b2 hb2 => ?_
  refine NewI.mk fun b3 hb3 => ?_
  apply CallI.use1
  · exact fun w1 h1 => floor_any a.num a.den oa.1 ia.1 ia.2 w1
  intro w1 w2 h1 hB2
  apply CallI.use1
  · exact fun w3 h3 => floor_any b.num b.den ob.1 ib.1 ib.2 w3
  intro w3 w4 h3 hB4
  refine DrawI.go (.tk 0 (.tk 1 (.tk 2 (.tk 3 (.tk 4 (.tk 5 (.tk 6 (.tk 7 (.tk 8 (.tk 9 (.tk 10 (.tk 11 (.tk 12 (.tk 13 .done)))))))))))))) (by kernel_rfl) fun w5 h5 => ?_
  refine Wr.fit (by have := s1; unfold Fr.sWhole at this; omega) ?_
  refine Wr.fit (by omega) ?_
  refine Wr.fit (by omega) ?_
  refine Wr.fit (by omega) ?_
  refine Wr.fit (by have := hd; unfold Fr.sDen at this; omega) ?_
  apply CallI.use1
  · exact fun w3 h3 => floor_any (Fr.sWhole a b) k (by omega) (by simp only [inK]; omega) (by simp only [inK]; omega) w3
  intro w6 w7 h6 hB7
  refine Wr.fit (by have := s4; unfold Fr.sDen at this; omega) ?_
  refine Wr.fit (by have := s5; unfold Fr.sRest2 Fr.sRest Fr.sDen at this; omega) ?_
  refine Wr.fit (by have := hd; unfold Fr.sDen at this; omega) ?_
  apply CallI.use1
  · exact fun w3 h3 => floor_any (Fr.sRest2 a b k) (Fr.sDen a b * k) (by omega) (by simp only [inK]; omega) (by simp only [inK]; omega) w3
  intro w8 w9 h8 hB9
  refine Wr.fit (by have := hd; unfold Fr.sDen at this; omega) ?_
  apply CallI.use1
  · exact fun w3 h3 => gcdI_any _ _ (Fr.sPart a b k).natAbs (Fr.sDen a b * k).natAbs (by show Fr.sPart a b k % 18446744073709551616 = _; omega) (by show Fr.sDen a b * k % 18446744073709551616 = _; omega) (by omega) (by omega) w3
  intro w10 w11 h10 hB11
  conv => whnf
  rw [show (((Nat.gcd (Fr.sPart a b k).natAbs (Fr.sDen a b * k).natAbs : Nat) : Int) + 9223372036854775808) % 18446744073709551616 - 9223372036854775808 = Int.gcd (Fr.sPart a b k) (Fr.sDen a b * k) by
    have hle : (Int.gcd (Fr.sPart a b k) (Fr.sDen a b * k) : Int) ≤ Fr.sDen a b * k := Int.le_of_dvd (by omega) (Int.gcd_dvd_right ..)
    show ((Int.gcd (Fr.sPart a b k) (Fr.sDen a b * k) : Int) + 9223372036854775808) % 18446744073709551616 - 9223372036854775808 = _
    omega]
  have t1 : (Fr.sPart a b k).tdiv (Int.gcd (Fr.sPart a b k) (Fr.sDen a b * k)) = Fr.sPart a b k / (Int.gcd (Fr.sPart a b k) (Fr.sDen a b * k)) := Int.tdiv_eq_ediv_of_dvd (Int.gcd_dvd_left ..)
  have t2 : (a.den * b.den * k).tdiv (Int.gcd (Fr.sPart a b k) (Fr.sDen a b * k)) = Fr.sDen a b * k / (Int.gcd (Fr.sPart a b k) (Fr.sDen a b * k)) := Int.tdiv_eq_ediv_of_dvd (Int.gcd_dvd_right ..)
  refine DrawI.go (.tk 0 (.tk 1 (.tk 2 (.tk 3 (.tk 4 (.tk 5 (.tk 6 (.tk 7 (.tk 8 (.tk 9 .done)))))))))) (by kernel_rfl) fun w12 h12 => ?_
  refine Need.mk ⟨by omega, by show inK .i64 ((Fr.sPart a b k).tdiv _); rw [t1]; simp only [inK]; omega⟩ ?_
  refine Wr.fit (by have := hd; unfold Fr.sDen at this; omega) ?_
  refine Need.mk ⟨by omega, by rw [t2]; simp only [inK]; omega⟩ ?_
  rw [show ((Fr.sRest2 a b k) % (Fr.sDen a b * k)) = Fr.sPart a b k from rfl, t1, t2]
  rw [← hfin]
  have hW : -4611686018427387904 ≤ Fr.sW a b k ∧ Fr.sW a b k ≤ 4611689316962271232 := by unfold Fr.sW; omega
  generalize Fr.sPart a b k / (Int.gcd (Fr.sPart a b k) (Fr.sDen a b * k) : Int) = p at *
  generalize Fr.sDen a b * k / (Int.gcd (Fr.sPart a b k) (Fr.sDen a b * k) : Int) = d at *
  clear t1 t2 hfin
  unfold Fr.finish
  refine Branch.mk (fun hc => ?_) (fun hc => ?_)
  · refine EndI.mk fun w5 h5 => ?_
    rw [if_pos (by simpa using hc)]
  have hd20 : ¬ 1048576 < d := by simpa using hc
  rw [if_neg hd20]
  refine Wr.fit (by have := hW; unfold Fr.sW at this; omega) ?_
  refine CallI.to0 (check_any (Fr.sW a b k)) fun w14 => ?_
  conv => whnf
  rw [show Fr.sWhole a b / k + Fr.sRest2 a b k / (Fr.sDen a b * k) = Fr.sW a b k from rfl]
  generalize Fr.sW a b k = W at *
  refine Branch.mk (fun hc => ?_) (fun hc => ?_)
  · refine EndI.mk fun w5 h5 => ?_
    rw [if_pos (by simpa using hc)]
  have hW0 : Num.chk W = 0 := by simpa using hc
  rw [if_neg (by omega)]
  have hWb : -2305843009213693952 ≤ W ∧ W ≤ 2305843009213693952 := by
    rcases hk : Num.okB W with _ | _
    · rw [Num.chk_no hk] at hW0; cases hW0
    · exact Num.okB_iff.1 hk
  refine Branch.mk (fun hneg => ?_) (fun hneg => ?_)
  · have hn : W < 0 := by simpa using hneg
    refine Wr.fit (by omega) ?_
    refine Wr.fit (by omega) ?_
    have hP : (W + 1) * d + (p - d) = W * d + p := by grind
    have hs : (W + 1) * d ≤ 0 := Int.mul_nonpos_of_nonpos_of_nonneg (by omega) (by omega)
    apply CallI.use1
    · exact fun w3 h3 => product_any (W + 1) d (by simp only [inK]; omega) (by simp only [inK]; omega) w3
    intro w15 w16 h15 hB16
    generalize (W + 1) * d = P at *
    generalize W * d = WD at *
    have hsg : (0 ≤ P ∧ 0 ≤ p - d) ∨ (P ≤ 0 ∧ p - d < 0) := by omega
    have hqb : -1048576 ≤ p - d ∧ p - d ≤ 1048576 := by omega
    generalize p - d = q at *
    rw [← hP]
    refine Wr.mk ?_
    refine Need.mk (by decide) ?_
    conv => whnf
    rw [show (2 : Int) ^ Int.toNat 63 = 9223372036854775808 by decide, show (P % 18446744073709551616 + 9223372036854775808) % 18446744073709551616 - 9223372036854775808 = Fr.il P from rfl]
    refine Branch.mk (fun hc2 => ?_) (fun hc2 => ?_)
    · refine EndI.mk fun w5 h5 => ?_
      rw [if_neg (fun h => by rw [Fr.il_ne (P := P) (by simpa using hc2) (by omega)] at h; cases h)]
    obtain ⟨hil, hPb⟩ := Fr.il_eq (P := P) (by simpa using hc2)
    rw [hil]
    refine Branch.mk (fun hc3 => ?_) (fun hc3 => ?_)
    · refine Branch.mk (fun hc4 => ?_) (fun hc4 => ?_)
      · refine EndI.mk fun w5 h5 => ?_
        rw [if_neg]
        intro h
        simp only [Fr.inI, Bool.and_eq_true, decide_eq_true_eq] at h
        have hc4 : q ≠ 0 := by simpa using hc4
        simp at hc3
        omega
      · have hq0 : q = 0 := by simpa using hc4
        subst hq0
        rw [if_pos (by simp only [Fr.inI, Bool.and_eq_true, decide_eq_true_eq]; omega)]
        rw [show (P + 0 + 9223372036854775808) % 18446744073709551616 - 9223372036854775808 = P + 0 by omega]
        apply CallI.use1
        · exact fun w3 h3 => low_any (P + 0) d (by omega) (by simp only [inK]; omega) (by simp only [inK]; omega) w3
        intro w17 w18 h17 hB18
        exact EndI.mk fun w19 h19 => rfl
    · simp at hc3
      rw [if_pos (by simp only [Fr.inI, Bool.and_eq_true, decide_eq_true_eq]; omega)]
      rw [show (P + q + 9223372036854775808) % 18446744073709551616 - 9223372036854775808 = P + q by omega]
      apply CallI.use1
      · exact fun w3 h3 => low_any (P + q) d (by omega) (by simp only [inK]; omega) (by simp only [inK]; omega) w3
      intro w17 w18 h17 hB18
      exact EndI.mk fun w19 h19 => rfl
  · have hn : 0 ≤ W := by have : ¬ W < 0 := by simpa using hneg
                          omega
    have hs : 0 ≤ W * d := Int.mul_nonneg hn (by omega)
    apply CallI.use1
    · exact fun w3 h3 => product_any W d (by simp only [inK]; omega) (by simp only [inK]; omega) w3
    intro w15 w16 h15 hB16
    have hsg : (0 ≤ W * d ∧ 0 ≤ p) ∨ (W * d ≤ 0 ∧ p < 0) := by omega
    have hpb : -1048576 ≤ p ∧ p ≤ 1048576 := by omega
    generalize W * d = P at *
    refine Wr.mk ?_
    refine Need.mk (by decide) ?_
    conv => whnf
    rw [show (2 : Int) ^ Int.toNat 63 = 9223372036854775808 by decide, show (P % 18446744073709551616 + 9223372036854775808) % 18446744073709551616 - 9223372036854775808 = Fr.il P from rfl]
    refine Branch.mk (fun hc2 => ?_) (fun hc2 => ?_)
    · refine EndI.mk fun w5 h5 => ?_
      rw [if_neg (fun h => by rw [Fr.il_ne (P := P) (by simpa using hc2) (by omega)] at h; cases h)]
    obtain ⟨hil, hPb⟩ := Fr.il_eq (P := P) (by simpa using hc2)
    rw [hil]
    refine Branch.mk (fun hc3 => ?_) (fun hc3 => ?_)
    · refine Branch.mk (fun hc4 => ?_) (fun hc4 => ?_)
      · refine EndI.mk fun w5 h5 => ?_
        rw [if_neg]
        intro h
        simp only [Fr.inI, Bool.and_eq_true, decide_eq_true_eq] at h
        have hc4 : p ≠ 0 := by simpa using hc4
        simp at hc3
        omega
      · have hp0 : p = 0 := by simpa using hc4
        subst hp0
        rw [if_pos (by simp only [Fr.inI, Bool.and_eq_true, decide_eq_true_eq]; omega)]
        rw [show (P + 0 + 9223372036854775808) % 18446744073709551616 - 9223372036854775808 = P + 0 by omega]
        apply CallI.use1
        · exact fun w3 h3 => low_any (P + 0) d (by omega) (by simp only [inK]; omega) (by simp only [inK]; omega) w3
        intro w17 w18 h17 hB18
        exact EndI.mk fun w19 h19 => rfl
    · simp at hc3
      rw [if_pos (by simp only [Fr.inI, Bool.and_eq_true, decide_eq_true_eq]; omega)]
      rw [show (P + p + 9223372036854775808) % 18446744073709551616 - 9223372036854775808 = P + p by omega]
      apply CallI.use1
      · exact fun w3 h3 => low_any (P + p) d (by omega) (by simp only [inK]; omega) (by simp only [inK]; omega) w3
      intro w17 w18 h17 hB18
      exact EndI.mk fun w19 h19 => rfl

theorem radd_any (a b : Rt) (ha : a.ins) (hb : b.ins) (w : World) :
    Calls Try.prog 87 #[.agg #[.int .i64 a.num, .int .i64 a.den], .agg #[.int .i64 b.num, .int .i64 b.den]] w fun e w' => e = .returned (.tuple #[.agg #[.int .i64 (Fr.add a b).1.num, .int .i64 (Fr.add a b).1.den], .int .i64 (Fr.add a b).2]) ∧ Below w.heap.size w w' := by
  refine fun_eq 0 w Try.func87 (args := [.agg [.val (.int .i64 a.num), .val (.int .i64 a.den)], .agg [.val (.int .i64 b.num), .val (.int .i64 b.den)]]) rfl rfl ?_
  refine NewI.mk fun b1 hb1 => ?_
  refine NewI.mk fun b2 hb2 => ?_
  refine NewI.mk fun b3 hb3 => ?_
  refine NewI.mk fun b4 hb4 => ?_
  apply CallI.use1
  · exact fun w1 h1 => rchecked_any [a, b] (by intro y hy; simp at hy; rcases hy with rfl | rfl <;> assumption) _ _ w1 (Sl.own (l := [a, b]) h1 3 rfl rfl rfl (Nat.le_refl _) (by simp [maxLen]))
  intro w1 w2 h1 hB2
  rw [two_all]
  refine Branch.mk (fun hc => ?_) (fun hc => ?_)
  · refine EndI.mk fun w3 h3 => ?_
    have hno : ¬ (a.ok = true ∧ b.ok = true) := fun h => by rw [if_pos h] at hc; cases hc
    rw [Fr.add, if_neg hno, if_neg hno]
  have hok : a.ok = true ∧ b.ok = true := by
    by_cases h : a.ok = true ∧ b.ok = true
    · exact h
    · rw [if_neg h] at hc; cases hc
  apply CallI.use1
  · exact fun w3 h3 => sum_any a b 1 hok.1 hok.2 ha hb (.inl rfl) w3
  intro w3 w4 h3 hB4
  refine EndI.mk fun w5 h5 => ?_
  rw [Fr.add, if_pos hok]
end Go.Proofs.Ytnhfkodjphplfaa

/-
  The contract of rat.Mid, by the engine.
-/
namespace Go.Proofs.Ytnhfkodjphplfaa
set_option linter.unusedVariables false
set_option linter.unusedSimpArgs false
set_option maxRecDepth 100000
open Go.RowKit Go.Proofs.Ytnhfkodjphplfaa.Eng Enc

theorem rmid_any (a b : Rt) (ha : a.ins) (hb : b.ins) (w : World) :
    Calls Try.prog 76 #[.agg #[.int .i64 a.num, .int .i64 a.den], .agg #[.int .i64 b.num, .int .i64 b.den]] w fun e w' => e = .returned (.tuple #[.agg #[.int .i64 (Fr.mid a b).1.num, .int .i64 (Fr.mid a b).1.den], .int .i64 (Fr.mid a b).2]) ∧ Below w.heap.size w w' := by
  refine fun_eq 0 w Try.func76 (args := [.agg [.val (.int .i64 a.num), .val (.int .i64 a.den)], .agg [.val (.int .i64 b.num), .val (.int .i64 b.den)]]) rfl rfl ?_
  refine NewI.mk fun b1 hb1 => ?_
  refine NewI.mk fun b2 hb2 => ?_
  refine NewI.mk fun b3 hb3 => ?_
  refine NewI.mk fun b4 hb4 => ?_
  apply CallI.use1
  · exact fun w1 h1 => rchecked_any [a, b] (by intro y hy; simp at hy; rcases hy with rfl | rfl <;> assumption) _ _ w1 (Sl.own (l := [a, b]) h1 3 rfl rfl rfl (Nat.le_refl _) (by simp [maxLen]))
  intro w1 w2 h1 hB2
  rw [two_all]
  refine Branch.mk (fun hc => ?_) (fun hc => ?_)
  · refine EndI.mk fun w3 h3 => ?_
    have hno : ¬ (a.ok = true ∧ b.ok = true) := fun h => by rw [if_pos h] at hc; cases hc
    rw [Fr.mid, if_neg hno, if_neg hno]
  have hok : a.ok = true ∧ b.ok = true := by
    by_cases h : a.ok = true ∧ b.ok = true
    · exact h
    · rw [if_neg h] at hc; cases hc
  apply CallI.use1
  · exact fun w3 h3 => sum_any a b 2 hok.1 hok.2 ha hb (.inr rfl) w3
  intro w3 w4 h3 hB4
  refine EndI.mk fun w5 h5 => ?_
  rw [Fr.mid, if_pos hok]
end Go.Proofs.Ytnhfkodjphplfaa

/-
  The contract of incl.Pick and what it calls, by the engine.
-/
namespace Go.Proofs.Ytnhfkodjphplfaa
set_option linter.unusedVariables false
set_option linter.unusedSimpArgs false
set_option maxRecDepth 100000
open Go.RowKit Go.Proofs.Ytnhfkodjphplfaa.Eng Enc

theorem shift_any (a : Rt) (n : Int) (ha : a.ins) (hn : inK .i64 n) (w : World) :
    Calls Try.prog 74 #[.agg #[.int .i64 a.num, .int .i64 a.den], .int .i64 n] w fun e w' => e = .returned (.agg #[.int .i64 (Fr.shift a n).num, .int .i64 (Fr.shift a n).den]) ∧ Below w.heap.size w w' := by
  refine fun_eq 0 w Try.func74 (args := [.agg [.val (.int .i64 a.num), .val (.int .i64 a.den)], .val (.int .i64 n)]) rfl rfl ?_
  refine NewI.mk fun b1 hb1 => ?_
  refine NewI.mk fun b2 hb2 => ?_
  apply CallI.use1
  · exact fun w1 h1 => rof_any n 1 hn (by simp [inK]) w1
  intro w1 w2 h1 hB2
  refine NewI.mk fun b3 hb3 => ?_
  apply CallI.use1
  · exact fun w1 h1 => radd_any a (Fr.of n 1).1 ha (Fr.of_ins hn) w1
  intro w3 w4 h3 hB4
  refine NewI.mk fun b4 hb4 => ?_
  exact EndI.mk fun w5 h5 => rfl

def Incl.End.val (x : Incl.End) : Value := .agg #[.bool x.is, .int .i64 x.at_.num, .int .i64 x.at_.den, .bool x.strict]

theorem value_bd (b : Int) : -2305843009213693952 ≤ (Bd.value b).1 ∧ (Bd.value b).1 ≤ 2305843009213693952 := by
  unfold Bd.value
  split
  · rename_i h
    split
    · simp
    · rename_i h2
      simp only [Bd.may, Bool.or_eq_true, beq_iff_eq, h2, false_or] at h
      exact Num.okB_iff.1 h
  · simp
theorem nearer_any (x : Incl.End) (hx : x.at_.ins) (b : Int) (r : Rt) (hr : r.ins) (s : Int) (hs : s = 1 ∨ s = -1) (w : World) :
    Calls Try.prog 73 #[.agg #[.bool x.is, .int .i64 x.at_.num, .int .i64 x.at_.den, .bool x.strict], .int .i64 b, .agg #[.int .i64 r.num, .int .i64 r.den], .int .i64 s] w fun e w' => e = .returned (Incl.nearer x b r s).val ∧ Below w.heap.size w w' := by
  refine fun_eq 0 w Try.func73 (args := [.agg [.val (.bool x.is), .val (.int .i64 x.at_.num), .val (.int .i64 x.at_.den), .val (.bool x.strict)], .val (.int .i64 b), .agg [.val (.int .i64 r.num), .val (.int .i64 r.den)], .val (.int .i64 s)]) rfl rfl ?_
  refine NewI.mk fun b1 hb1 => ?_
  refine NewI.mk fun b2 hb2 => ?_
  refine NewI.mk fun b3 hb3 => ?_
  apply CallI.use1
  · exact fun w1 h1 => value_any b w1
  intro w1 w2 h1 hB2
  unfold Incl.nearer
  refine Branch.mk (fun hc => ?_) (fun hc => ?_)
  · refine EndI.mk fun w3 h3 => ?_
    rw [if_pos (by simpa using hc)]; rfl
  rw [if_neg (by simpa using hc)]
  have hv := value_bd b
  refine Need.mk (by show _ ∧ _; omega) ?_
  refine Need.mk (by rcases hs with rfl | rfl <;> (show _ ∧ _; omega)) ?_
  apply CallI.use1
  · exact fun w1 h1 => shift_any r (-s * (Bd.value b).1) hr (by rcases hs with rfl | rfl <;> simp only [inK] <;> omega) w1
  intro w3 w4 h3 hB4
  refine NewI.mk fun b4 hb4 => ?_
  have hsi : (Fr.shift r (-s * (Bd.value b).1)).ins := Fr.add_ins
  generalize Fr.shift r (-s * (Bd.value b).1) = q at *
  apply CallI.use1
  · exact fun w1 h1 => rcmp_any q x.at_ hsi hx w1
  intro w5 w6 h5 hB6
  have hcc := Fr.cmp_cases q x.at_
  generalize (Fr.cmp q x.at_).2 = e2 at *
  generalize (Fr.cmp q x.at_).1 = le at *
  refine Branch.mk (fun hi => ?_) (fun hi => ?_)
  · refine EndI.mk fun w3 h3 => ?_
    rw [if_pos (.inl (by simpa using hi))]; rfl
  have hi : x.is = true := by simpa using hi
  refine Need.mk (by rcases hs with rfl | rfl <;> rcases hcc with rfl | rfl | rfl <;> (simp only [inK]; omega)) ?_
  refine Branch.mk (fun hl => ?_) (fun hl => ?_)
  · refine EndI.mk fun w3 h3 => ?_
    rw [if_pos (.inr (by simpa using hl))]; rfl
  rw [if_neg (fun h => by rcases h with h | h; rw [hi] at h; cases h; simp at hl; omega)]
  refine Branch.mk (fun he => ?_) (fun he => ?_)
  · rw [if_pos (by simpa using he)]
    refine Branch.mk (fun h2 => ?_) (fun h2 => ?_)
    · have h2 : x.strict = true := h2
      rw [h2]
      exact EndI.mk fun w3 h3 => rfl
    · have h2 : x.strict = false := h2
      rw [h2]
      exact EndI.mk fun w3 h3 => rfl
  · rw [if_neg (by simpa using he)]
    refine EndI.mk fun w3 h3 => ?_
    rfl

set_option maxHeartbeats 2000000 in
theorem pick_any (N : Nat) (hN1 : 1 ≤ N) (hN4 : N ≤ 4) (C : List Int) (hC : C.length = N * N) (so : List Rt) (hso : so.length < N) (hin : ∀ x ∈ so, x.ins) (a b : Option Addr) (ca cb : Nat) (w : World) (hA : Sl w.heap.size w (.slice a C.length ca) C) (hB : Sl w.heap.size w (.slice b so.length cb) so) :
    Calls Try.prog 49 #[.agg #[.int .i64 N, .slice a C.length ca], .slice b so.length cb] w fun e w' => e = .returned (.agg #[.int .i64 (Incl.pick N C so).num, .int .i64 (Incl.pick N C so).den]) ∧ Below w.heap.size w w' := by
  refine fun_eq 0 w Try.func49 (args := [.agg [.val (.int .i64 N), .val (.slice a C.length ca)], .val (.slice b so.length cb)]) rfl rfl ?_
  have hNN : N * N ≤ 4 * 4 := Nat.mul_le_mul hN4 hN4
  refine NewI.mk fun b1 hb1 => ?_
  refine NewI.mk fun b2 hb2 => ?_
  refine NewI.mk fun b3 hb3 => ?_
  refine NewI.mk fun b4 hb4 => ?_
  refine LoopI.inv (α := Nat × World) (fun y => [(17, .val (.int .i64 y.1))]) (fun y => [⟨[.val (.int .i64 N), .val (.slice a C.length ca)], 24⟩, ⟨[.val (.int .i64 0), .val (.int .i64 0)], 34⟩,
    ⟨[.val (.bool (Incl.ends N C so y.1).1.is), .val (.int .i64 (Incl.ends N C so y.1).1.at_.num), .val (.int .i64 (Incl.ends N C so y.1).1.at_.den), .val (.bool (Incl.ends N C so y.1).1.strict)], 109⟩,
    ⟨[.val (.bool (Incl.ends N C so y.1).2.is), .val (.int .i64 (Incl.ends N C so y.1).2.at_.num), .val (.int .i64 (Incl.ends N C so y.1).2.at_.den), .val (.bool (Incl.ends N C so y.1).2.strict)], 109⟩]) (fun y => y.2)
    (fun y => y.1 ≤ so.length ∧ Below w.heap.size w y.2) (fun y => so.length - y.1) ?_ ?_
  · intro w1 h1
    exact ⟨(0, w1), Cov.mk (by repeat' (first | exact trivial | refine And.intro rfl ?_)) rfl rfl rfl rfl rfl, rfl, Nat.zero_le _, h1.below⟩
  rintro ⟨k, W⟩ ⟨hk, hW⟩
  have hk : k ≤ so.length := hk
  have hW : Below w.heap.size w W := hW
  obtain ⟨ie1, ie2⟩ := Incl.ends_ins N C so k
  refine Branch.mk (fun hc => ?_) (fun hc => ?_)
  · have hlt : k < so.length := by simpa using hc
    have hg := List.getElem?_eq_getElem (l := so) (i := k) hlt
    have hri := hin _ (List.getElem_mem hlt)
    have hp1 : k * N + so.length < N * N := Dbm.place_lt (by omega) hso
    have hp2 : so.length * N + k < N * N := Dbm.place_lt hso (by omega)
    have hg1 := List.getElem?_eq_getElem (l := C) (i := k * N + so.length) (by omega)
    have hg2 := List.getElem?_eq_getElem (l := C) (i := so.length * N + k) (by omega)
    have f1 : (Incl.ends N C so (k + 1)).1 = Incl.nearer (Incl.ends N C so k).1 (C[k * N + so.length]'(by omega)) (so[k]'hlt) 1 := by
      show Incl.nearer _ (C[k * N + so.length]?.getD 0) (so[k]?.getD ⟨0, 1⟩) 1 = _
      rw [hg1, hg]; rfl
    have f2 : (Incl.ends N C so (k + 1)).2 = Incl.nearer (Incl.ends N C so k).2 (C[so.length * N + k]'(by omega)) (so[k]'hlt) (-1) := by
      show Incl.nearer _ (C[so.length * N + k]?.getD 0) (so[k]?.getD ⟨0, 1⟩) (-1) = _
      rw [hg2, hg]; rfl
    generalize C[k * N + so.length]'_ = x1 at *
    generalize C[so.length * N + k]'_ = x2 at *
    generalize so[k]'_ = rk at *
    have hAW := hA.go hW hW.size
    have hBW := hB.go hW hW.size
    refine hBW.idx hg fun ad had => ?_
    refine hBW.ld hg had (Below.refl _ _) (by simp) ?_
    refine NewI.mk fun b5 hb5 => ?_
    refine DrawI.wr (.tk 0 (.tk 2 (.tk 3 (.tk 4 (.tk 5 (.tk 6 (.tk 7 (.tk 8 (.tk 9 (.tk 10 (.tk 11 (.tk 12 (.ev 1 (.ev 13 (.ev 14 .done))))))))))))))) [2] [] (by kernel_rfl) rfl (by simp) fun w5 h5 => ?_
    have hA5 := hA.below h5.below
    have e1 : (k : Int) * N + so.length = ((k * N + so.length : Nat) : Int) := by simp
    have e2 : (so.length : Int) * N + k = ((so.length * N + k : Nat) : Int) := by simp
    have e3 : (k : Int) * N = ((k * N : Nat) : Int) := by simp
    have e4 : (so.length : Int) * N = ((so.length * N : Nat) : Int) := by simp
    refine Need.mk (by show inK .i64 ((k : Int) * N); rw [e3]; simp only [inK]; omega) ?_
    refine Need.mk (by show inK .i64 ((k : Int) * N + so.length); rw [e1]; simp only [inK]; omega) ?_
    conv => whnf
    rw [e1]
    refine hA5.idx hg1 fun ad1 had1 => ?_
    refine hA5.ld1 hg1 had1 (Below.refl _ _) (fun x hx => by simp [locs] at hx; rw [hx]; exact hb3) ?_
    apply CallI.use1
    · exact fun w6 h6 => nearer_any (Incl.ends N C so k).1 ie1 x1 rk hri 1 (.inl rfl) w6
    intro w6 w7 h6 hB7
    rw [← f1]
    have B7 : Below w.heap.size w w7 := h6.below.trans (hB7.mono h6.below.size)
    refine DrawI.wr (.tk 0 (.tk 2 (.tk 3 (.tk 4 (.tk 5 (.tk 6 (.tk 7 (.tk 8 (.tk 9 (.tk 10 (.tk 11 (.tk 12 (.ev 1 (.ev 13 (.ev 14 .done))))))))))))))) [3] [] (by kernel_rfl) rfl (by simp) fun w8 h8 => ?_
    have hA8 := hA.below h8.below
    refine Need.mk (by show inK .i64 ((so.length : Int) * N); rw [e4]; simp only [inK]; omega) ?_
    refine Need.mk (by show inK .i64 ((so.length : Int) * N + k); rw [e2]; simp only [inK]; omega) ?_
    conv => whnf
    rw [e2]
    refine hA8.idx hg2 fun ad1 had1 => ?_
    refine hA8.ld1 hg2 had1 (Below.refl _ _) (fun x hx => by simp [locs] at hx; rw [hx]; exact hb4) ?_
    apply CallI.use1
    · exact fun w6 h6 => nearer_any (Incl.ends N C so k).2 ie2 x2 rk hri (-1) (.inr rfl) w6
    intro w9 w10 h9 hB10
    rw [← f2]
    refine Need.mk (by show _ ∧ _; omega) (EndI.mk fun w11 h11 => ⟨(k + 1, w11), Cov.mk (by repeat' (first | exact trivial | refine And.intro rfl ?_)) rfl rfl rfl rfl rfl, rfl, ⟨hlt, h11.below⟩, by simp only; omega⟩)
  · have hge : k = so.length := by have : ¬ k < so.length := by simpa using hc
                                   omega
    subst hge
    have hpk : Incl.pick N C so = Incl.choose (Incl.ends N C so so.length).1 (Incl.ends N C so so.length).2 := rfl
    rw [hpk]
    simp only
    generalize (Incl.ends N C so so.length).1 = lo at *
    generalize (Incl.ends N C so so.length).2 = hi at *
    obtain ⟨li, la, ls⟩ := lo
    obtain ⟨hi, ha, hs⟩ := hi
    simp only at ie1 ie2
    unfold Incl.choose
    cases li
    · cases ls <;> cases hi <;> cases hs <;> (simp only [Bool.false_eq_true, and_self, and_true, true_and, and_false, false_and, if_true, if_false, reduceCtorEq]; (conv => whnf); repeat' (first | (refine Branch.yes rfl ?_; conv => whnf) | (refine Branch.no rfl ?_; conv => whnf)))
      all_goals first
        | exact EndI.mk fun w3 h3 => rfl
        | (apply CallI.use1; (focus (exact fun w1 h1 => shift_any ha (-1) ie2 (by simp [inK]) w1)); intro w1 w2 h1 hB; exact EndI.mk fun w3 h3 => rfl)
    · cases ls
      · cases hi <;> cases hs <;> (simp only [Bool.false_eq_true, and_self, and_true, true_and, and_false, false_and, if_true, if_false, reduceCtorEq]; (conv => whnf); repeat' (first | (refine Branch.yes rfl ?_; conv => whnf) | (refine Branch.no rfl ?_; conv => whnf))) <;> exact EndI.mk fun w3 h3 => rfl
      · cases hi
        · cases hs <;> (simp only [Bool.false_eq_true, and_self, and_true, true_and, and_false, false_and, if_true, if_false, reduceCtorEq]; (conv => whnf); repeat' (first | (refine Branch.yes rfl ?_; conv => whnf) | (refine Branch.no rfl ?_; conv => whnf))) <;> (apply CallI.use1; (focus (exact fun w1 h1 => shift_any la 1 ie1 (by simp [inK]) w1)); intro w1 w2 h1 hB; exact EndI.mk fun w3 h3 => rfl)
        · cases hs
          · (simp only [Bool.false_eq_true, and_self, and_true, true_and, and_false, false_and, if_true, if_false, reduceCtorEq]; (conv => whnf); repeat' (first | (refine Branch.yes rfl ?_; conv => whnf) | (refine Branch.no rfl ?_; conv => whnf))); exact EndI.mk fun w3 h3 => rfl
          · (simp only [Bool.false_eq_true, and_self, and_true, true_and, and_false, false_and, if_true, if_false, reduceCtorEq]; (conv => whnf); repeat' (first | (refine Branch.yes rfl ?_; conv => whnf) | (refine Branch.no rfl ?_; conv => whnf))); (apply CallI.use1; (focus (exact fun w1 h1 => rmid_any la ha ie1 ie2 w1)); intro w1 w2 h1 hB; refine NewI.mk fun b9 hb9 => ?_; exact EndI.mk fun w3 h3 => rfl)

theorem ipick_any (n : Int) (a : Option Addr) (cap : Nat) (L : List Int) (w : World) (hS : Sl w.heap.size w (.slice a L.length cap) L) :
    Calls Try.prog 23 #[.agg #[.int .i64 n, .slice a L.length cap]] w (Ret w fun v w' => ∃ a' cap', v = .tuple #[.slice a' (Incl.picks n L).1.length cap', .int .i64 (Incl.picks n L).2] ∧ Sl w'.heap.size w' (.slice a' (Incl.picks n L).1.length cap') (Incl.picks n L).1) := by
  refine fun_ret 0 w Try.func23 (args := [.agg [.val (.int .i64 n), .val (.slice a L.length cap)]]) rfl rfl ?_
  have st := Stay.first (w := w)
  refine NewI.mk fun b1 hb1 => ?_
  have hcl := fun (w : World) (h : Sl w.heap.size w (.slice a L.length cap) L) => close_any n a cap L w h
  unfold Incl.picks
  by_cases h0 : Dbm.chk n L = 0
  case neg =>
    have he : Dbm.close n L = (0, [], 8) := by rw [Dbm.close, if_neg h0]
    rw [he] at hcl
    rw [if_neg h0]
    apply CallI.use
    focus (exact fun w2 h2 => hcl w2 (hS.st (st.at h2 (fun x hx => by simp at hx <;> omega))))
    rintro v w2 v2 h2 hB2 ⟨a1, q1, rfl, hF1⟩
    have st := st.next h2 (fun x hx => by simp at hx <;> omega) hB2
    refine Branch.yes rfl ?_
    exact EndI.mk fun w3 h3 => ⟨_, _, rfl, Sl.nil⟩
  rw [if_pos h0]
  obtain ⟨c1, c2, c3, c4⟩ := Dbm.chk_iff.1 h0
  obtain ⟨N, rfl⟩ : ∃ N : Nat, n = N := ⟨n.toNat, by omega⟩
  have hL : L.length = N * N := by exact_mod_cast c3
  rw [Int.toNat_natCast]
  rcases Dbm.close_cases h0 with ⟨e1, e2⟩ | ⟨C, e1, e2, e3⟩
  · rw [e2] at hcl
    rw [Int.toNat_natCast] at e1
    rw [e1]
    apply CallI.use
    focus (exact fun w2 h2 => hcl w2 (hS.st (st.at h2 (fun x hx => by simp at hx <;> omega))))
    rintro v w2 v2 h2 hB2 ⟨a1, q1, rfl, hF1⟩
    have st := st.next h2 (fun x hx => by simp at hx <;> omega) hB2
    refine Branch.yes rfl ?_
    exact EndI.mk fun w3 h3 => ⟨_, _, rfl, Sl.nil⟩
  rw [e2] at hcl
  rw [Int.toNat_natCast] at e1
  rw [e1]
  have hCl : C.length = N * N := by omega
  apply CallI.use
  focus (exact fun w2 h2 => hcl w2 (hS.st (st.at h2 (fun x hx => by simp at hx <;> omega))))
  rintro v w2 v2 h2 hB2 ⟨a1, q1, rfl, hF1⟩
  have st := st.next h2 (fun x hx => by simp at hx <;> omega) hB2
  refine Branch.no rfl ?_
  refine NewI.mk fun b2 hb2 => ?_
  refine Need.mk (by show _ ∧ _; omega) ?_
  have hb2w : w.heap.size ≤ b2 := Nat.le_trans (st.get (X := w) (by simp)).size hb2
  have st := st.sub (m := [w]) (by simp)
  have F3 : ∀ {hp r w3}, At ⟨w, w.heap.size, Nat.le_refl _⟩ hp r [b1] v2 w3 → Fresh TB w2.heap.size w3 (.slice a1 C.length q1) C := fun h3 => hF1.at h3 (fun x hx => by rw [List.mem_singleton.1 hx]; exact h2.lt b1 (by simp))
  refine LoopI.rounds 1 ?_
  refine Branch.mk (fun hc => ?_) (fun hc => ?_)
  · have hlt : 1 < N := by have : (0 : Int) < N - 1 := by simpa using hc
                           omega
    apply CallI.use1
    · exact fun w3 h3 => pick_any N (by omega) (by omega) C hCl [⟨0, 1⟩] (by simpa using hlt) (by intro x hx; rw [List.mem_singleton.1 hx]; exact Fr.ins_nought) a1 _ q1 _ w3 (F3 h3).sl (Sl.own (l := [(⟨0, 1⟩ : Rt)]) h3 1 rfl rfl rfl (Nat.le_refl _) (by simp [maxLen]))
    intro w3 v3 h3 hB3
    have hF3 := F3 h3
    have st := (st.at' h3 (fun X hX b hb => by simp at hX hb; subst hX; subst hb; exact hb1)).go (Nat.le_trans (Nat.le_refl _) h3.below.size) h3.below hB3
    refine NewI.mk fun b3 hb3 => ?_
    have hins := Incl.pick_ins N C [⟨0, 1⟩]
    refine GenN.appN (α := Rt) elR [⟨0, 1⟩] [Incl.pick N C [⟨0, 1⟩]] w.heap.size rfl (fun w5 h5 => Own.own (l := [(⟨0, 1⟩ : Rt)]) h5 1 rfl rfl rfl hb2w) (fun w5 h5 => src_own h5 2 rfl rfl rfl rfl) (by simp) (by simp [maxLen]) (by simp) fun v w5 v5 h5 hB5 hO => ?_
    obtain ⟨av, cv, rfl⟩ := hO.form
    have hlp := Lp.ofNew (st.sub (m := [v3, w3, w]) (by simp)) h5 (fun x hx => by simp at hx <;> omega) hB5 hO
    have hb5 : w5.heap.size ≤ v5.heap.size := hB5.size
    refine Need.mk (by show _ ∧ _; omega) ?_
    generalize w5.heap.size = base at *
    refine LoopI.invC0 (α := Nat × World × Value) (fun y => [(19, .val (.int .i64 ((y.1 + 1 : Nat) : Int))), (5, .val y.2.2)]) (fun y => y.2.1) (fun y => y.1 + 2 ≤ N ∧ Lp ⟨w, w.heap.size, Nat.le_refl _⟩ [v3, w3, w] [b1, b2, b3] TR base y.2.1 y.2.2 (Incl.sofar N C (y.1 + 1))) (fun y => N - y.1) ?_ ?_
    · intro w7 h7
      exact ⟨(0, w7, .slice av ([⟨0, 1⟩] ++ [Incl.pick N C [⟨0, 1⟩]] : List Rt).length cv), Cov.mk (by repeat' (first | exact trivial | refine And.intro rfl ?_)) rfl rfl rfl rfl rfl, rfl, hlt, hlp.at h7 (by simp)⟩
    rintro ⟨i, W, sv⟩ ⟨hi, hlp⟩
    have hi : i + 2 ≤ N := hi
    have hlp : Lp ⟨w, w.heap.size, Nat.le_refl _⟩ [v3, w3, w] [b1, b2, b3] TR base W sv (Incl.sofar N C (i + 1)) := hlp
    obtain ⟨asv, csv, rfl⟩ := hlp.own.form
    refine Branch.mk (fun hc2 => ?_) (fun hc2 => ?_)
    · have hlt2 : i + 2 < N := by have : ((i + 1 : Nat) : Int) < N - 1 := by simpa using hc2
                                  omega
      have hsl := Incl.sofar_len N C (i + 1)
      apply CallI.use1
      · exact fun w7 h7 => pick_any N (by omega) (by omega) C hCl (Incl.sofar N C (i + 1)) (by omega) (Incl.sofar_ins N C _) a1 _ q1 _ w7 ((hF3.st (hlp.at h7 (by simp)).st).sl) (hlp.at h7 (by simp)).own.sl
      intro w7 v7 h7 hB7
      have hlp7 := (hlp.at h7 (by simp)).go hB7
      refine NewI.mk fun b4 hb4 => ?_
      have hins2 := Incl.pick_ins N C (Incl.sofar N C (i + 1))
      refine GenN.appL (α := Rt) elR hlp7 (fun x hx => by simp at hx ⊢; rcases hx with h | h | h | h <;> simp [h]; exact .inr hb4) (fun x hx => by simp at hx <;> omega) [Incl.pick N C (Incl.sofar N C (i + 1))] (fun w8 h8 => src_own h8 3 rfl rfl rfl rfl) (by rw [hsl]; simp; omega) (by decide) fun a' c' w8 w9 h8 hlp9 hsz hbl => ?_
      refine Need.mk (by show _ ∧ _; omega) (EndI.mk fun w10 h10 => ⟨(i + 1, w10, .slice a' (Incl.sofar N C (i + 1) ++ [Incl.pick N C (Incl.sofar N C (i + 1))]).length c'), Cov.mk (by repeat' (first | exact trivial | refine And.intro rfl ?_)) rfl rfl rfl rfl rfl, rfl, ⟨hlt2, hlp9.at h10 (by simp)⟩, by simp only; omega⟩)
    · have hge : i + 2 = N := by have : ¬ ((i + 1 : Nat) : Int) < N - 1 := by simpa using hc2
                                 omega
      obtain rfl : i + 2 = N := hge
      have hsl := Incl.sofar_len (i + 2) C (i + 1)
      have hcap : (Incl.sofar (i + 2) C (i + 1)).length ≤ csv := by
        obtain ⟨_, _, e, h1, _⟩ := hlp.own.sl.form
        injection e with _ _ e
        omega
      refine Need.mk ⟨by omega, by omega, by omega⟩ ?_
      refine EndI.mk fun w7 h7 => ?_
      have hS7 := (hlp.at h7 (by simp)).own.sl
      have hsub := hS7.sub 1 (Incl.sofar (i + 2) C (i + 1)).length (by omega) (Nat.le_refl _)
      have epk : ((Incl.sofar (i + 2) C (i + 1)).drop 1).take ((Incl.sofar (i + 2) C (i + 1)).length - 1) = Incl.picked (i + 2) C := by
        rw [List.take_of_length_le (by simp)]; rfl
      rw [epk] at hsub
      have hpl : (Incl.picked (i + 2) C).length = (Incl.sofar (i + 2) C (i + 1)).length - 1 := by rw [← epk]; simp
      show ∃ a' cap', Value.tuple #[.slice _ ((Incl.sofar (i + 2) C (i + 1)).length - 1) (csv - 1), .int .i64 0] = .tuple #[.slice a' (Incl.picked (i + 2) C).length cap', .int .i64 0] ∧ Sl w7.heap.size w7 (.slice a' (Incl.picked (i + 2) C).length cap') (Incl.picked (i + 2) C)
      rw [hpl]
      exact ⟨_, _, rfl, hsub⟩
  · have hN : N = 1 := by have : ¬ (0 : Int) < N - 1 := by simpa using hc
                          omega
    subst hN
    refine Need.mk (by omega) ?_
    refine EndI.mk fun w7 h7 => ?_
    have hS7 : Sl w7.heap.size w7 (.slice (some ⟨b2, 0, none⟩) 1 1) [(⟨0, 1⟩ : Rt)] := Sl.own (l := [(⟨0, 1⟩ : Rt)]) h7 1 rfl rfl rfl (Nat.le_refl _) (by simp [maxLen])
    have hsub := hS7.sub 1 1 (by omega) (by simp)
    exact ⟨_, _, rfl, hsub⟩
end Go.Proofs.Ytnhfkodjphplfaa

/-
  What a difference of fractions keeps, by rational numbers. No program is in sight.
-/
namespace Go.Proofs.Ytnhfkodjphplfaa
set_option linter.unusedVariables false

namespace Fr
open Dbm
/-- a fraction's value. -/
def v (a : Rt) : Rat := (a.num : Rat) / (a.den : Rat)
/-- does a difference keep a bound? -/
def sat (d : Rat) (b : Int) : Prop := b = NO ∨ (if Bd.st b = true then d < ((b / 2 : Int) : Rat) else d ≤ ((b / 2 : Int) : Rat))

theorem cmpI_lt {x y : Int} : cmpI x y < 0 ↔ x < y := by
  unfold cmpI; split
  · simp [*]
  · split <;> simp [*]
theorem cmpI_zero {x y : Int} : cmpI x y = 0 ↔ x = y := by
  unfold cmpI; split
  · constructor <;> intro h
    · cases h
    · omega
  · split
    · constructor <;> intro h
      · cases h
      · omega
    · constructor <;> intro h <;> omega
theorem sign_eq {a b : Rt} (ha : a.ok = true) (hb : b.ok = true) (c : Int) :
    (sign (a.num / a.den - b.num / b.den) c (rest a b) < 0 ↔ a.num * b.den - b.num * a.den < c * (a.den * b.den)) ∧ (sign (a.num / a.den - b.num / b.den) c (rest a b) = 0 ↔ a.num * b.den - b.num * a.den = c * (a.den * b.den)) := by
  have oa := ok_bd ha
  have ob := ok_bd hb
  have e1 : a.num = a.den * (a.num / a.den) + a.num % a.den := (Int.mul_ediv_add_emod a.num a.den).symm
  have e2 : b.num = b.den * (b.num / b.den) + b.num % b.den := (Int.mul_ediv_add_emod b.num b.den).symm
  have hD : 1 ≤ a.den * b.den := by
    have := Int.mul_le_mul (a := 1) (b := 1) oa.1 ob.1 (by omega) (by omega)
    omega
  have r1 : 0 ≤ a.num % a.den * b.den := Int.mul_nonneg oa.2.2.2.2.1 (by omega)
  have r2 : 0 ≤ b.num % b.den * a.den := Int.mul_nonneg ob.2.2.2.2.1 (by omega)
  have r3 : a.num % a.den * b.den < a.den * b.den := Int.mul_lt_mul_of_pos_right oa.2.2.2.2.2 (by omega)
  have r4 : b.num % b.den * a.den < a.den * b.den := by rw [Int.mul_comm a.den b.den]; exact Int.mul_lt_mul_of_pos_right ob.2.2.2.2.2 (by omega)
  have key : a.num * b.den - b.num * a.den - c * (a.den * b.den) = (a.num / a.den - b.num / b.den - c) * (a.den * b.den) + (a.num % a.den * b.den - b.num % b.den * a.den) := by
    generalize a.num / a.den = x at *
    generalize b.num / b.den = y at *
    generalize a.num % a.den = r at *
    generalize b.num % b.den = s at *
    rw [e1, e2]; grind
  unfold sign rest
  generalize a.num / a.den - b.num / b.den = q at *
  generalize a.num % a.den * b.den = r at *
  generalize b.num % b.den * a.den = s at *
  generalize a.den * b.den = D at *
  rcases Int.lt_trichotomy q c with h | h | h
  · have hc : cmpI q c < 0 := cmpI_lt.2 h
    have hm : (q - c) * D ≤ (-1) * D := Int.mul_le_mul_of_nonneg_right (by omega) (by omega)
    rw [if_pos (by omega)]
    omega
  · have hc : cmpI q c = 0 := cmpI_zero.2 h
    subst h
    rw [hc, if_neg (by simp), cmpI_lt, cmpI_zero]
    rw [Int.sub_self, Int.zero_mul] at key
    omega
  · have hc : ¬ cmpI q c < 0 := fun hh => by have := cmpI_lt.1 hh; omega
    have hc2 : cmpI q c ≠ 0 := fun hh => by have := cmpI_zero.1 hh; omega
    have hm : 1 * D ≤ (q - c) * D := Int.mul_le_mul_of_nonneg_right (by omega) (by omega)
    rw [if_pos hc2]
    omega
theorem v_sub {a b : Rt} (ha : a.ok = true) (hb : b.ok = true) : v a - v b = ((a.num * b.den - b.num * a.den : Int) : Rat) / ((a.den * b.den : Int) : Rat) := by
  have oa := ok_bd ha
  have ob := ok_bd hb
  unfold v
  have h1 : (a.den : Rat) ≠ 0 := by
    intro h; have : a.den = 0 := by exact_mod_cast h
    omega
  have h2 : (b.den : Rat) ≠ 0 := by
    intro h; have : b.den = 0 := by exact_mod_cast h
    omega
  rw [Rat.intCast_sub, Rat.intCast_mul, Rat.intCast_mul, Rat.intCast_mul]
  grind
theorem den_pos {a b : Rt} (ha : a.ok = true) (hb : b.ok = true) : (0 : Rat) < ((a.den * b.den : Int) : Rat) := by
  have oa := ok_bd ha
  have ob := ok_bd hb
  have : 0 < a.den * b.den := Int.mul_pos (by omega) (by omega)
  exact_mod_cast this
/-- a difference keeps a bound just if its value does. -/
theorem keeps_sat {a b : Rt} (ha : a.ok = true) (hb : b.ok = true) {x : Int} (hx : Bd.may x = true) : (keeps a b x).1 = true ↔ sat (v a - v b) x := by
  unfold keeps sat
  rw [ha, hb, hx]
  simp only [Bool.and_self, if_true]
  by_cases h : x = 9223372036854775807
  · rw [if_pos h]
    exact ⟨fun _ => .inl h, fun _ => rfl⟩
  · rw [if_neg h]
    simp only
    obtain ⟨s1, s2⟩ := sign_eq ha hb (x / 2)
    have hD := den_pos ha hb
    rw [v_sub ha hb]
    have e1 : ((a.num * b.den - b.num * a.den : Int) : Rat) / ((a.den * b.den : Int) : Rat) < ((x / 2 : Int) : Rat) ↔ a.num * b.den - b.num * a.den < x / 2 * (a.den * b.den) := by
      rw [Rat.div_lt_iff hD, ← Rat.intCast_mul, Rat.intCast_lt_intCast]
    have e2 : ((a.num * b.den - b.num * a.den : Int) : Rat) / ((a.den * b.den : Int) : Rat) ≤ ((x / 2 : Int) : Rat) ↔ a.num * b.den - b.num * a.den ≤ x / 2 * (a.den * b.den) := by
      rw [← Rat.not_lt, Rat.lt_div_iff hD, ← Rat.intCast_mul, Rat.intCast_lt_intCast]; omega
    have hno : ¬ x = NO := h
    unfold kept
    simp only [Bool.or_eq_true, Bool.and_eq_true, decide_eq_true_eq, Bool.not_eq_true']
    rw [s1, s2]
    cases hs : Bd.st x
    · simp only [Bool.false_eq_true, if_false, hno, false_or, and_true]
      rw [e2]; omega
    · simp only [if_true, hno, false_or]
      rw [e1]
      simp
end Fr
end Go.Proofs.Ytnhfkodjphplfaa

/-
  What a matrix means: the times that keep it; closing turns none of them. No program is in sight.
-/
namespace Go.Proofs.Ytnhfkodjphplfaa.Dbm
set_option linter.unusedVariables false
set_option linter.unusedSimpArgs false
open Go.Proofs.Ytnhfkodjphplfaa.Fr

def satO (d : Rat) : OB → Prop
  | none => True
  | some v => if Bd.st v = true then d < ((v / 2 : Int) : Rat) else d ≤ ((v / 2 : Int) : Rat)
theorem sat_iff (d : Rat) (b : Int) : sat d b ↔ satO d (ob b) := by
  unfold sat ob
  by_cases h : b = NO
  · rw [if_pos h]; exact ⟨fun _ => trivial, fun _ => .inl h⟩
  · rw [if_neg h]
    exact ⟨fun k => k.resolve_left h, fun k => .inr k⟩
theorem st_iff (v : Int) : Bd.st v = true ↔ v % 2 = 0 := by simp [Bd.st]
theorem satO_add {d e : Rat} {a b : OB} (h : satO d a) (k : satO e b) : satO (d + e) (oadd a b) := by
  cases a with
  | none => trivial
  | some u =>
    cases b with
    | none => trivial
    | some v =>
      simp only [satO, oadd] at h k ⊢
      rw [bsum_half]
      have hp : Bd.st (bsum u v) = true ↔ (Bd.st u = true ∨ Bd.st v = true) := by
        rw [st_iff, st_iff, st_iff]
        unfold bsum
        rcases parity u with h1 | h1 <;> rcases parity v with h2 | h2 <;> rw [h1, h2] <;> constructor <;> intro h <;> omega
      rw [Rat.intCast_add]
      generalize ((u / 2 : Int) : Rat) = x at *
      generalize ((v / 2 : Int) : Rat) = y at *
      cases hu : Bd.st u <;> cases hv : Bd.st v <;> simp only [hu, hv, Bool.false_eq_true, if_true, if_false, or_self, or_true, true_or, or_false, false_or] at h k hp ⊢
      · rw [if_neg (by rw [hp]; simp)]; grind
      · rw [if_pos (by rw [hp]; trivial)]; grind
      · rw [if_pos (by rw [hp]; trivial)]; grind
      · rw [if_pos (by rw [hp]; trivial)]; grind
theorem satO_mono {d : Rat} {a b : OB} (h : ole a b) (k : satO d a) : satO d b := by
  cases b with
  | none => trivial
  | some v =>
    cases a with
    | none => exact h.elim
    | some u =>
      have huv : u ≤ v := h
      simp only [satO] at k ⊢
      have h1 : u / 2 ≤ v / 2 := by omega
      have h2 : ((u / 2 : Int) : Rat) ≤ ((v / 2 : Int) : Rat) := by exact_mod_cast h1
      cases hu : Bd.st u <;> cases hv : Bd.st v <;> simp only [hu, hv, Bool.false_eq_true, if_true, if_false] at k ⊢
      · grind
      · have h3 : u / 2 < v / 2 := by
          have a1 : ¬ u % 2 = 0 := fun e => by rw [(st_iff u).2 e] at hu; cases hu
          have a2 := (st_iff v).1 hv
          omega
        have h4 : ((u / 2 : Int) : Rat) < ((v / 2 : Int) : Rat) := by exact_mod_cast h3
        grind
      · grind
      · grind
theorem satO_zero {v : Int} : satO 0 (some v) ↔ 1 ≤ v := by
  simp only [satO]
  cases hv : Bd.st v <;> simp only [Bool.false_eq_true, if_true, if_false]
  · have a1 : ¬ v % 2 = 0 := fun e => by rw [(st_iff v).2 e] at hv; cases hv
    constructor
    · intro h
      have : (0 : Int) ≤ v / 2 := by exact_mod_cast h
      omega
    · intro h
      have : (0 : Int) ≤ v / 2 := by omega
      exact_mod_cast this
  · have a1 := (st_iff v).1 hv
    constructor
    · intro h
      have : (0 : Int) < v / 2 := by exact_mod_cast h
      omega
    · intro h
      have : (0 : Int) < v / 2 := by omega
      exact_mod_cast this
/-- times that keep each bound. -/
def Fits (N : Nat) (E : Mx) (t : Nat → Rat) : Prop := ∀ i j, i < N → j < N → satO (t i - t j) (E i j)
theorem Fits.way {N : Nat} {E : Mx} {t : Nat → Rat} (h : Fits N E t) : ∀ (mid : List Nat) (i j : Nat), i < N → j < N → (∀ a ∈ mid, a < N) → satO (t i - t j) (Dbm.way E (i :: (mid ++ [j])))
  | [], i, j, hi, hj, _ => by
    simp only [List.nil_append, way_two]; exact h i j hi hj
  | a :: mid, i, j, hi, hj, hm => by
    have ha := hm a (by simp)
    have ih := h.way mid a j ha hj (fun b hb => hm b (by simp [hb]))
    simp only [List.cons_append, Dbm.way]
    have := satO_add (h i a hi ha) ih
    rwa [show t i - t a + (t a - t j) = t i - t j by grind] at this
theorem Inv.fits {N : Nat} {E M : Mx} {t : Nat → Rat} {k : Nat} (hk : k ≤ N) (inv : Inv N k E M) (h : Fits N E t) : Fits N M t := fun i j hi hj => by
  by_cases e : i = j
  · subst e
    rw [inv.diag i hi, Rat.sub_self]
    exact satO_zero.2 (by omega)
  · cases hv : M i j with
    | none => trivial
    | some v =>
      obtain ⟨mid, _, hm, hw⟩ := inv.wit i j hi hj e v hv
      rw [← hw]
      exact h.way mid i j hi hj fun a ha => Nat.lt_of_lt_of_le (hm a ha) hk
theorem Inv.fits_back {N : Nat} {E M : Mx} {t : Nat → Rat} {k : Nat} (inv : Inv N k E M) (h : Fits N M t) : Fits N E t := fun i j hi hj => satO_mono (inv.low i j hi hj) (h i j hi hj)

/-- with the diagonal at 0. -/
theorem fits_diag {N : Nat} {L L1 : List Int} {t : Nat → Rat} (hd : ∀ i, i < N → 1 ≤ L[i * N + i]?.getD 0) (h : ∀ i j, i < N → j < N → L1[i * N + j]?.getD 0 = if i = j then 1 else L[i * N + j]?.getD 0) :
    Fits N (mx N L1) t ↔ Fits N (mx N L) t := by
  have h1 : ∀ i j, i < N → j < N → i ≠ j → mx N L1 i j = mx N L i j := fun i j hi hj e => by unfold mx; rw [h i j hi hj, if_neg e]
  constructor
  · intro k i j hi hj
    by_cases e : i = j
    · subst e
      rw [Rat.sub_self]
      unfold mx ob
      split
      · trivial
      · exact satO_zero.2 (hd i hi)
    · rw [← h1 i j hi hj e]; exact k i j hi hj
  · intro k i j hi hj
    by_cases e : i = j
    · subst e
      unfold mx
      rw [h i i hi hi, if_pos rfl, Rat.sub_self]
      exact satO_zero.2 (by omega)
    · rw [h1 i j hi hj e]; exact k i j hi hj
/-- closing turns none of the times that keep a matrix. -/
theorem close_fits {N : Nat} {L C : List Int} (h0 : chk N L = 0) (h : closeL N L = some C) (t : Nat → Rat) : Fits N (mx N C) t ↔ Fits N (mx N L) t := by
  obtain ⟨L1, a2, a3, inv, hl, hE⟩ := close_inv h0 h
  rw [← fits_diag a2 a3]
  exact ⟨fun k => inv.fits_back k, fun k => inv.fits (Nat.le_refl _) k⟩
/-- a matrix that some times keep is not empty. -/
theorem close_some {N : Nat} {L : List Int} (h0 : chk N L = 0) {t : Nat → Rat} (ht : Fits N (mx N L) t) : ∃ C, closeL N L = some C := by
  obtain ⟨c1, c2, c3, c4⟩ := chk_iff.1 h0
  have hN4 : N ≤ 4 := by omega
  have hL : L.length = N * N := by exact_mod_cast c3
  have hdL : ∀ i, i < N → 1 ≤ L[i * N + i]?.getD 0 := fun i hi => by
    have := ht i i hi hi
    rw [Rat.sub_self] at this
    unfold mx ob at this
    split at this
    · rename_i h; rw [h]; decide
    · exact satO_zero.1 this
  have hd0 : ∀ n, n ≤ N → ∃ Ln, (List.range n).foldlM (diag1 N) L = some Ln := by
    intro n
    induction n with
    | zero => intro _; exact ⟨L, rfl⟩
    | succ n ih =>
      intro hn
      obtain ⟨Ln, e⟩ := ih (by omega)
      obtain ⟨a1, a2, a3⟩ := diag_spec hL n Ln (by omega) e
      rw [List.range_succ, List.foldlM_append, e]
      have : Ln[n * N + n]?.getD 0 = L[n * N + n]?.getD 0 := by rw [a3 n n (by omega) (by omega), if_neg (by omega)]
      refine ⟨Ln.set (n * N + n) 1, ?_⟩
      simp only [List.foldlM_cons, List.foldlM_nil, Option.bind_eq_bind, Option.bind_some, diag1]
      rw [if_neg (by rw [this]; have := hdL n (by omega); omega)]; rfl
  obtain ⟨L1, e1⟩ := hd0 N (Nat.le_refl _)
  obtain ⟨a1, a2, a3⟩ := diag_spec hL N L1 (Nat.le_refl _) e1
  have a3' : ∀ i j, i < N → j < N → L1[i * N + j]?.getD 0 = if i = j then 1 else L[i * N + j]?.getD 0 := fun i j hi hj => by
    rw [a3 i j hi hj]
    by_cases e : i = j
    · rw [if_pos ⟨e, hi⟩, if_pos e]
    · rw [if_neg (fun h => e h.1), if_neg e]
  have hd1 : ∀ i, i < N → mx N L1 i i = some 1 := fun i hi => by unfold mx; rw [a3' i i hi hi, if_pos rfl]; rfl
  have hE : ∀ i j v, i < N → j < N → mx N L1 i j = some v → -288230376151711744 ≤ v / 2 ∧ v / 2 ≤ 288230376151711744 := fun i j v hi hj hv => by
    obtain ⟨e1, e2⟩ := mx_some hv
    rw [a3' i j hi hj] at e1
    split at e1
    · subst e1; decide
    · have := chk_lim h0 (i * N + j) (by rw [hL]; exact place_lt hi hj)
      rw [e1] at this
      exact this.resolve_left e2
  have ht1 := (fits_diag (t := t) hdL a3').2 ht
  have hst : ∀ n, n ≤ N → ∃ Cn, (List.range n).foldlM (stage N) L1 = some Cn := by
    intro n
    induction n with
    | zero => intro _; exact ⟨L1, rfl⟩
    | succ n ih =>
      intro hn
      obtain ⟨M, e⟩ := ih (by omega)
      obtain ⟨b1, b2⟩ := fold_inv hN4 a1 hd1 hE n M (by omega) e
      rw [List.range_succ, List.foldlM_append, e]
      have hlM := inv_lim b2 (by omega) hN4 hE
      have hMd : M[n * N + n]?.getD 0 = 1 := (mx_some (b2.diag n (by omega))).1
      have hthr : ∀ i j, i < N → j < N → mx N (thrL N n M) i j = thr n (mx N M) i j := fun i j hi hj => thrL_mx (by omega) b1 hMd (fun q hq => lim_mono (hlM q hq) (by omega)) hi hj
      have htM := b2.fits (by omega) ht1
      have hok : diagOk N (thrL N n M) = true := by
        unfold diagOk
        rw [List.all_eq_true]
        intro i hi
        have hi := List.mem_range.1 hi
        refine decide_eq_true ?_
        have h1 : satO 0 (mx N (thrL N n M) i i) := by
          rw [hthr i i hi hi]
          rcases thr_cases n (mx N M) i i with h | ⟨h, _⟩
          · rw [h, b2.diag i hi]; exact satO_zero.2 (by omega)
          · rw [h]
            have := satO_add (htM i n hi (by omega)) (htM n i (by omega) hi)
            rwa [show t i - t n + (t n - t i) = 0 by grind] at this
        unfold mx ob at h1
        split at h1
        · rename_i h; rw [h]; decide
        · exact satO_zero.1 h1
      refine ⟨thrL N n M, ?_⟩
      simp only [List.foldlM_cons, List.foldlM_nil, Option.bind_eq_bind, Option.bind_some, stage]
      rw [if_pos hok]; rfl
  obtain ⟨C, e2⟩ := hst N (Nat.le_refl _)
  refine ⟨C, ?_⟩
  unfold closeL
  rw [e1, Option.bind_some, e2]
end Go.Proofs.Ytnhfkodjphplfaa.Dbm

/-
  The contracts of incl.In and what it calls, by the engine.
-/
namespace Go.Proofs.Ytnhfkodjphplfaa
set_option linter.unusedVariables false
set_option linter.unusedSimpArgs false
set_option maxRecDepth 100000
open Go.RowKit Go.Proofs.Ytnhfkodjphplfaa.Eng Enc

namespace Incl
def two (n m : Int) (L M : List Int) : Int := if Dbm.chk n L = 0 ∧ Dbm.chk m M = 0 then (if n = m then 0 else 40) else 8
def under (N : Nat) (C M : List Int) : Bool := (List.range (N * N)).all fun i => decide (i % (N + 1) = 0) || decide (C[i]?.getD 0 ≤ M[i]?.getD 0)
def inn (n : Int) (L : List Int) (m : Int) (M : List Int) : Bool × Int :=
  if two n m L M = 0 then (match Dbm.closeL n.toNat L with | none => (true, 0) | some C => (Dbm.diagOk m.toNat M && under n.toNat C M, 0)) else (false, two n m L M)
end Incl

theorem ichecked_any (n m : Int) (L M : List Int) (a b : Option Addr) (ca cb : Nat) (w : World) (hA : Sl w.heap.size w (.slice a L.length ca) L) (hB : Sl w.heap.size w (.slice b M.length cb) M) :
    Calls Try.prog 50 #[.agg #[.int .i64 n, .slice a L.length ca], .agg #[.int .i64 m, .slice b M.length cb]] w fun e w' => e = .returned (.int .i64 (Incl.two n m L M)) ∧ Below w.heap.size w w' := by
  refine fun_eq 0 w Try.func50 (args := [.agg [.val (.int .i64 n), .val (.slice a L.length ca)], .agg [.val (.int .i64 m), .val (.slice b M.length cb)]]) rfl rfl ?_
  have st := Stay.first (w := w)
  refine NewI.mk fun b1 hb1 => ?_
  refine NewI.mk fun b2 hb2 => ?_
  unfold Incl.two
  apply CallI.use1
  focus (exact fun w1 h1 => dcheck_any n a ca L w1 (hA.st (st.at h1 (fun x hx => by simp at hx <;> omega))))
  intro w1 v1 h1 hB1
  have st := st.next h1 (fun x hx => by simp at hx <;> omega) hB1
  refine Branch.mk (fun hc => ?_) (fun hc => ?_)
  · refine EndI.mk fun w3 h3 => ?_
    rw [if_neg (fun h => by rw [h.1] at hc; cases hc)]
  have h1 : Dbm.chk n L = 0 := by simpa using hc
  apply CallI.use1
  focus (exact fun w2 h2 => dcheck_any m b cb M w2 (hB.st (st.at h2 (fun x hx => by simp at hx <;> omega))))
  intro w2 v2 h2 hB2
  have st := st.next h2 (fun x hx => by simp at hx <;> omega) hB2
  refine Branch.mk (fun hc => ?_) (fun hc => ?_)
  · refine EndI.mk fun w3 h3 => ?_
    rw [if_neg (fun h => by rw [h.2] at hc; cases hc)]
  have h2 : Dbm.chk m M = 0 := by simpa using hc
  rw [if_pos ⟨h1, h2⟩]
  refine Branch.mk (fun hc => ?_) (fun hc => ?_)
  · refine EndI.mk fun w3 h3 => ?_
    rw [if_neg (by simpa using hc)]
  · refine EndI.mk fun w3 h3 => ?_
    rw [if_pos (by simpa using hc)]

theorem root_any (N : Nat) (hN : N ≤ 4) (w : World) : Calls Try.prog 77 #[.int .i64 ((N * N : Nat) : Int)] w fun e w' => e = .returned (.int .i64 N) ∧ Below w.heap.size w w' := by
  refine fun_eq 0 w Try.func77 (args := [.val (.int .i64 ((N * N : Nat) : Int))]) rfl rfl ?_
  refine LoopI.invC (α := Nat × World) (fun y => [(2, .val (.int .i64 y.1))]) (fun y => y.2) (fun y => y.1 ≤ N) (fun y => N - y.1) ?_ ?_
  · intro w1 h1
    exact ⟨(0, w1), Cov.mk (by repeat' (first | exact trivial | refine And.intro rfl ?_)) rfl rfl rfl rfl rfl, rfl, Nat.zero_le _⟩
  rintro ⟨k, W⟩ hk
  have hk : k ≤ N := hk
  have hkk : k * k ≤ 4 * 4 := Nat.mul_le_mul (by omega) (by omega)
  have e1 : (k : Int) * k = ((k * k : Nat) : Int) := rfl
  refine Need.mk (by show inK .i64 ((k : Int) * k); rw [e1]; simp only [inK]; omega) ?_
  refine Branch.mk (fun hc => ?_) (fun hc => ?_)
  · have hlt : k * k < N * N := by
      have : (k : Int) * k < ((N * N : Nat) : Int) := by simpa using hc
      rw [e1] at this; omega
    have hkN : k < N := Nat.lt_of_not_le fun h => by have := Nat.mul_le_mul h h; omega
    refine Need.mk (by show _ ∧ _; omega) (EndI.mk fun w2 h2 => ⟨(k + 1, w2), Cov.mk (by repeat' (first | exact trivial | refine And.intro rfl ?_)) rfl rfl rfl rfl rfl, rfl, hkN, by simp only; omega⟩)
  · have hge : N * N ≤ k * k := by
      have : ¬ (k : Int) * k < ((N * N : Nat) : Int) := by simpa using hc
      rw [e1] at this; omega
    have : k = N := by
      rcases Nat.lt_or_ge k N with h | h
      · have := Nat.mul_lt_mul'' h h; omega
      · omega
    subst this
    exact EndI.mk fun w2 h2 => rfl

theorem rootI_any (z : Int) (N : Nat) (hz : z = ((N * N : Nat) : Int)) (hN : N ≤ 4) (w : World) : Calls Try.prog 77 #[.int .i64 z] w fun e w' => e = .returned (.int .i64 N) ∧ Below w.heap.size w w' := by
  subst hz; exact root_any N hN w
theorem under_any (N : Nat) (hN1 : 1 ≤ N) (hN : N ≤ 4) (C M : List Int) (hC : C.length = N * N) (hM : M.length = N * N) (a b : Option Addr) (ca cb : Nat) (w : World) (hA : Sl w.heap.size w (.slice a C.length ca) C) (hB : Sl w.heap.size w (.slice b M.length cb) M) :
    Calls Try.prog 51 #[.slice a C.length ca, .slice b M.length cb] w fun e w' => e = .returned (.bool (Incl.under N C M)) ∧ Below w.heap.size w w' := by
  refine fun_eq 0 w Try.func51 (args := [.val (.slice a C.length ca), .val (.slice b M.length cb)]) rfl rfl ?_
  have hNN : N * N ≤ 4 * 4 := Nat.mul_le_mul hN hN
  refine LoopI.invC (α := Nat × World) (fun y => [(9, .val (.int .i64 y.1))]) (fun y => y.2) (fun y => y.1 ≤ N * N ∧ Below w.heap.size w y.2 ∧ ∀ i, i < y.1 → i % (N + 1) = 0 ∨ C[i]?.getD 0 ≤ M[i]?.getD 0) (fun y => N * N - y.1) ?_ ?_
  · intro w1 h1
    exact ⟨(0, w1), Cov.mk (by repeat' (first | exact trivial | refine And.intro rfl ?_)) rfl rfl rfl rfl rfl, rfl, Nat.zero_le _, h1.below, fun i hi => by omega⟩
  rintro ⟨k, W⟩ ⟨hk, hW, hall⟩
  refine Branch.mk (fun hc => ?_) (fun hc => ?_)
  · have hlt : k < N * N := by have : (k : Int) < C.length := by simpa using hc
                               omega
    have hgC := List.getElem?_eq_getElem (l := C) (i := k) (by omega)
    have hgM := List.getElem?_eq_getElem (l := M) (i := k) (by omega)
    have hAW := hA.go hW hW.size
    have hBW := hB.go hW hW.size
    refine hAW.idx hgC fun ad had => ?_
    refine hAW.ld1 hgC had (Below.refl _ _) (by simp) ?_
    have next : ∀ (w7 : World), Below w.heap.size w w7 → (k % (N + 1) = 0 ∨ C[k]?.getD 0 ≤ M[k]?.getD 0) → (k + 1 ≤ N * N ∧ Below w.heap.size w w7 ∧ ∀ i, i < k + 1 → i % (N + 1) = 0 ∨ C[i]?.getD 0 ≤ M[i]?.getD 0) := fun w7 hB7 h => by
      refine ⟨hlt, hB7, fun i hi => ?_⟩
      rcases Nat.lt_succ_iff_lt_or_eq.1 hi with h' | h'
      · exact hall i h'
      · rw [h']; exact h
    apply CallI.use1
    · exact fun w2 h2 => rootI_any _ N (by rw [hC]) hN w2
    intro w2 w3 h2 hB3
    have em : (k : Int).tmod (N + 1) = ((k % (N + 1) : Nat) : Int) := rfl
    refine Need.mk (by show _ ∧ _; omega) ?_
    refine Need.mk (by omega) ?_
    refine Branch.mk (fun hc1 => ?_) (fun hc1 => ?_)
    · have hne : ¬ k % (N + 1) = 0 := by
        have h1 : ¬ (k : Int).tmod ((N : Int) + 1) = 0 := by simpa using hc1
        intro h; apply h1; show ((k % (N + 1) : Nat) : Int) = 0; omega
      have k3 := h2.step2 hB3
      have hBW3 := hBW.go k3 k3.size
      refine hBW3.idx hgM fun ad had => ?_
      refine hBW3.ld1 hgM had (Below.refl _ _) (by simp) ?_
      refine Branch.mk (fun hc2 => ?_) (fun hc2 => ?_)
      · refine EndI.mk fun w5 h5 => ?_
        have hlt2 : M[k]'(by omega) < C[k]'(by omega) := by simpa using hc2
        congr 1
        symm
        unfold Incl.under
        rw [List.all_eq_false]
        refine ⟨k, List.mem_range.2 hlt, ?_⟩
        rw [hgC, hgM]
        simp only [Option.getD_some, Bool.or_eq_true, decide_eq_true_eq, not_or]
        exact ⟨hne, by omega⟩
      · have hle : C[k]'(by omega) ≤ M[k]'(by omega) := by simpa using hc2
        refine Need.mk (by show _ ∧ _; omega) (EndI.mk fun w7 h7 => ⟨(k + 1, w7), Cov.mk (by repeat' (first | exact trivial | refine And.intro rfl ?_)) rfl rfl rfl rfl rfl, rfl, next w7 h7.below (.inr (by rw [hgC, hgM]; exact hle)), by simp only; omega⟩)
    · have he : k % (N + 1) = 0 := by
        have h1 : (k : Int).tmod ((N : Int) + 1) = 0 := by simpa using hc1
        have h2 : ((k % (N + 1) : Nat) : Int) = 0 := h1
        omega
      refine Need.mk (by show _ ∧ _; omega) (EndI.mk fun w7 h7 => ⟨(k + 1, w7), Cov.mk (by repeat' (first | exact trivial | refine And.intro rfl ?_)) rfl rfl rfl rfl rfl, rfl, next w7 h7.below (.inl he), by simp only; omega⟩)
  · have hge : k = N * N := by have : ¬ (k : Int) < C.length := by simpa using hc
                               omega
    refine EndI.mk fun w5 h5 => ?_
    congr 1
    symm
    unfold Incl.under
    rw [List.all_eq_true]
    intro i hi
    have := hall i (by have := List.mem_range.1 hi; show i < k; omega)
    simpa using this

theorem in_any (n m : Int) (L M : List Int) (a b : Option Addr) (ca cb : Nat) (w : World) (hA : Sl w.heap.size w (.slice a L.length ca) L) (hB : Sl w.heap.size w (.slice b M.length cb) M) :
    Calls Try.prog 24 #[.agg #[.int .i64 n, .slice a L.length ca], .agg #[.int .i64 m, .slice b M.length cb]] w fun e w' => e = .returned (.tuple #[.bool (Incl.inn n L m M).1, .int .i64 (Incl.inn n L m M).2]) ∧ Below w.heap.size w w' := by
  refine fun_eq 0 w Try.func24 (args := [.agg [.val (.int .i64 n), .val (.slice a L.length ca)], .agg [.val (.int .i64 m), .val (.slice b M.length cb)]]) rfl rfl ?_
  have st := Stay.first (w := w)
  refine NewI.mk fun b1 hb1 => ?_
  refine NewI.mk fun b2 hb2 => ?_
  unfold Incl.inn
  apply CallI.use1
  focus (exact fun w1 h1 => ichecked_any n m L M a b ca cb w1 (hA.st (st.at h1 (fun x hx => by simp at hx <;> omega))) (hB.st (st.at h1 (fun x hx => by simp at hx <;> omega))))
  intro w1 v1 h1 hB1
  have st := st.next h1 (fun x hx => by simp at hx <;> omega) hB1
  refine Branch.mk (fun hc => ?_) (fun hc => ?_)
  · refine EndI.mk fun w3 h3 => ?_
    rw [if_neg (by simpa using hc)]
  have h2 : Incl.two n m L M = 0 := by simpa using hc
  rw [if_pos h2]
  have hchk : Dbm.chk n L = 0 ∧ Dbm.chk m M = 0 := by
    by_cases h : Dbm.chk n L = 0 ∧ Dbm.chk m M = 0
    · exact h
    · unfold Incl.two at h2; rw [if_neg h] at h2; cases h2
  have hnm : n = m := by
    by_cases h : n = m
    · exact h
    · unfold Incl.two at h2; rw [if_pos hchk, if_neg h] at h2; cases h2
  subst hnm
  obtain ⟨c1, c2, c3, c4⟩ := Dbm.chk_iff.1 hchk.1
  obtain ⟨_, _, d3, _⟩ := Dbm.chk_iff.1 hchk.2
  obtain ⟨N, rfl⟩ : ∃ N : Nat, n = N := ⟨n.toNat, by omega⟩
  have hL : L.length = N * N := by exact_mod_cast c3
  have hM : M.length = N * N := by exact_mod_cast d3
  have hcl := fun (w : World) (h : Sl w.heap.size w (.slice a L.length ca) L) => close_any N a ca L w h
  rw [Int.toNat_natCast]
  rcases Dbm.close_cases hchk.1 with ⟨e1, e2⟩ | ⟨C, e1, e2, e3⟩
  · rw [e2] at hcl
    rw [Int.toNat_natCast] at e1
    rw [e1]
    apply CallI.use
    focus (exact fun w2 h2 => hcl w2 (hA.st (st.at h2 (fun x hx => by simp at hx <;> omega))))
    rintro v w2 v2 h2 hB2 ⟨a1, q1, rfl, hF1⟩
    have st := st.next h2 (fun x hx => by simp at hx <;> omega) hB2
    refine NewI.mk fun b3 hb3 => ?_
    refine Branch.yes rfl ?_
    exact EndI.mk fun w3 h3 => rfl
  rw [e2] at hcl
  rw [Int.toNat_natCast] at e1
  rw [e1]
  have hCl : C.length = N * N := by omega
  apply CallI.use
  focus (exact fun w2 h2 => hcl w2 (hA.st (st.at h2 (fun x hx => by simp at hx <;> omega))))
  rintro v w2 v2 h2 hB2 ⟨a1, q1, rfl, hF1⟩
  have st := st.next h2 (fun x hx => by simp at hx <;> omega) hB2
  refine NewI.mk fun b3 hb3 => ?_
  refine Branch.no rfl ?_
  refine LoopI.invC (α := Nat × World) (fun y => [(26, .val (.int .i64 y.1))]) (fun y => y.2) (fun y => y.1 ≤ N ∧ Stay ⟨w, w.heap.size, Nat.le_refl _⟩ [v2, w] y.2 ∧ ∀ i, i < y.1 → 1 ≤ M[i * N + i]?.getD 0) (fun y => N - y.1) ?_ ?_
  · intro w5 h5
    exact ⟨(0, w5), Cov.mk (by repeat' (first | exact trivial | refine And.intro rfl ?_)) rfl rfl rfl rfl rfl, rfl, Nat.zero_le _, (st.at h5 (fun x hx => by simp at hx <;> omega)).sub (by simp), fun i hi => by omega⟩
  rintro ⟨k, W⟩ ⟨hk, stW, hall⟩
  have hk : k ≤ N := hk
  have stW : Stay ⟨w, w.heap.size, Nat.le_refl _⟩ [v2, w] W := stW
  refine Branch.mk (fun hc3 => ?_) (fun hc3 => ?_)
  · have hlt : k < N := by simpa using hc3
    have ek : (k : Int) * ((N : Int) + 1) = ((k * N + k : Nat) : Int) := by
      rw [Int.mul_add]; simp
    have hp := Dbm.place_lt hlt hlt
    have hNN : N * N ≤ 4 * 4 := Nat.mul_le_mul (by omega) (by omega)
    refine Need.mk (by show _ ∧ _; omega) ?_
    refine Need.mk (by rw [ek]; show _ ∧ _; omega) ?_
    rw [ek]
    have hg := List.getElem?_eq_getElem (l := M) (i := k * N + k) (by omega)
    have hMW := hB.st stW
    refine hMW.idx hg fun ad had => ?_
    refine hMW.ld1 hg had (Below.refl _ _) (by simp) ?_
    refine Branch.mk (fun hc4 => ?_) (fun hc4 => ?_)
    · refine EndI.mk fun w5 h5 => ?_
      have hlo : M[k * N + k]'(by omega) < 1 := by simpa using hc4
      have : Dbm.diagOk N M = false := by
        unfold Dbm.diagOk
        rw [List.all_eq_false]
        refine ⟨k, List.mem_range.2 hlt, ?_⟩
        rw [hg]
        simp only [Option.getD_some, decide_eq_true_eq]; omega
      rw [this]; rfl
    · have hhi : ¬ M[k * N + k]'(by omega) < 1 := by simpa using hc4
      refine Need.mk (by show _ ∧ _; omega) (EndI.mk fun w7 h7 => ⟨(k + 1, w7), Cov.mk (by repeat' (first | exact trivial | refine And.intro rfl ?_)) rfl rfl rfl rfl rfl, rfl, ⟨hlt, (stW.at h7 (by simp)).sub (by simp), fun i hi => ?_⟩, by simp only; omega⟩)
      rcases Nat.lt_succ_iff_lt_or_eq.1 hi with h' | h'
      · exact hall i h'
      · rw [h', hg]; simp only [Option.getD_some]; omega
  have hge : k = N := by have : ¬ k < N := by simpa using hc3
                         omega
  subst hge
  have hdia : Dbm.diagOk k M = true := by
    unfold Dbm.diagOk
    rw [List.all_eq_true]
    intro i hi
    exact decide_eq_true (hall i (List.mem_range.1 hi))
  rw [hdia]
  have st := stW.here (stW.get (X := w) (by simp))
  refine GenV.to (x := .func (.func 51) #[.slice a1 C.length q1] #[]) (fun w1 => rfl) fun w5 h5 => ?_
  have st := st.at h5 (fun x hx => by simp at hx <;> omega)
  refine Need.mk Try.call51 ?_
  apply CallI.use1
  · exact fun w6 h6 => under_any k (by omega) (by omega) C M hCl hM a1 b q1 cb w6 (hF1.sl.st (st.at h6 (fun x hx => by simp at hx <;> omega))) (hB.st (st.at h6 (fun x hx => by simp at hx <;> omega)))
  intro w6 w7 h6 hB7
  exact EndI.mk fun w8 h8 => rfl
end Go.Proofs.Ytnhfkodjphplfaa

