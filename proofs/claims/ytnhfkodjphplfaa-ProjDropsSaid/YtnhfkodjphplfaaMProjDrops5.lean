/-
  Merged texts of this seat (each with its own head below).
-/
import Derived.Test.YtnhfkodjphplfaaMProjDrops4
import Derived.Test.YtnhfkodjphplfaaMProjDrops3
/-
  Plain laws of a matrix without a clock: its times, and what it lies in. No program is in sight.
-/
namespace Go.Proofs.Ytnhfkodjphplfaa.Proj
set_option linter.unusedVariables false
open Go.Proofs.Ytnhfkodjphplfaa.Dbm

/-- the times' values, that of clock 0 first. -/
def tv (T : List Rt) (i : Nat) : Rat := Fr.v ((moments T)[i]?.getD ⟨0, 1⟩)
theorem may_of_lim {b : Int} (h : lim 2305843009213693951 b) : Bd.may b = true := by
  unfold Bd.may
  rcases h with h | h
  · rw [h]; rfl
  · have : Num.okB (b / 2) = true := Num.okB_iff.2 (by omega)
    rw [this]; simp
theorem kept_fits {N : Nat} {L : List Int} {T : List Rt} (hl : ∀ i j, i < N → j < N → lim 2305843009213693951 (L[i * N + j]?.getD 0)) (hT : T.all Rt.ok = true) : keptL N L T = true ↔ Fits N (mx N L) (tv T) := by
  rw [keptL_iff]
  have key : ∀ i j, i < N → j < N → ((Fr.keeps ((moments T)[i]?.getD ⟨0, 1⟩) ((moments T)[j]?.getD ⟨0, 1⟩) (L[i * N + j]?.getD 0)).1 = true ↔ satO (tv T i - tv T j) (mx N L i j)) := fun i j hi hj => by
    rw [Fr.keeps_sat (mom_ok hT i) (mom_ok hT j) (may_of_lim (hl i j hi hj)), sat_iff]; rfl
  exact ⟨fun h i j hi hj => (key i j hi hj).1 (h i j hi hj), fun h i j hi hj => (key i j hi hj).2 (h i j hi hj)⟩
theorem chk_len {N : Nat} {L : List Int} (h : chk N L = 0) : L.length = N * N := by have := (chk_iff.1 h).2.2.1; exact_mod_cast this
theorem chk_lim' {N : Nat} {L : List Int} (h : chk N L = 0) (i j : Nat) (hi : i < N) (hj : j < N) : lim 2305843009213693951 (L[i * N + j]?.getD 0) :=
  lim_mono (chk_lim h _ (by rw [chk_len h]; exact place_lt hi hj)) (by omega)
theorem clo_lim' {N : Nat} {C : List Int} (h : Clo N C) (i j : Nat) (hi : i < N) (hj : j < N) : lim 2305843009213693951 (C[i * N + j]?.getD 0) := lim_mono (h.lim i j hi hj) (by omega)

/-- times without one. -/
def lessT (K : Nat) (T : List Rt) : List Rt := T.take (K - 1) ++ T.drop K
theorem lessT_len {K : Nat} {T : List Rt} (h1 : 1 ≤ K) (h2 : K ≤ T.length) : (lessT K T).length = T.length - 1 := by simp [lessT]; omega
theorem moments_less {K : Nat} {T : List Rt} (h1 : 1 ≤ K) (h2 : K ≤ T.length) (i : Nat) : (moments (lessT K T))[i]? = (moments T)[sk K i]? := by
  have e : moments (lessT K T) = (moments T).take K ++ (moments T).drop (K + 1) := by
    unfold moments lessT
    obtain ⟨k, rfl⟩ : ∃ k, K = k + 1 := ⟨K - 1, by omega⟩
    simp
  rw [e]
  have hl : (moments T).length = T.length + 1 := by simp [moments]
  unfold sk
  split
  · rename_i h
    rw [List.getElem?_append_left (by simp [hl]; omega), List.getElem?_take, if_pos h]
  · rename_i h
    rw [List.getElem?_append_right (by simp [hl]; omega), List.getElem?_drop]
    congr 1
    simp [hl]; omega
theorem less_ok {K : Nat} {T : List Rt} (h : T.all Rt.ok = true) : (lessT K T).all Rt.ok = true := by
  rw [List.all_eq_true] at h ⊢
  intro x hx
  rcases List.mem_append.1 hx with hx | hx
  · exact h x (List.mem_of_mem_take hx)
  · exact h x (List.mem_of_mem_drop hx)
/-- if times keep a matrix, they keep it without a clock. -/
theorem drops_keeps {n : Int} {L : List Int} {k : Int} {T : List Rt} (h : (drop n L k).2.2 = 0) (hc : chk (drop n L k).1 (drop n L k).2.1 = 0) (hk : keeps n L T = (true, 0)) :
    keeps (drop n L k).1 (drop n L k).2.1 (lessT k.toNat T) = (true, 0) := by
  obtain ⟨h0, k1, k2, C, hC, e⟩ := drop_ok h
  obtain ⟨N, rfl⟩ : ∃ N : Nat, n = N := ⟨n.toNat, by omega⟩
  obtain ⟨K, rfl⟩ : ∃ K : Nat, k = K := ⟨k.toNat, by omega⟩
  rw [Int.toNat_natCast] at hC
  rw [e] at hc ⊢
  simp only [Int.toNat_natCast] at hc ⊢
  obtain ⟨_, t1, l1, e1⟩ := keeps_ok (n := N) (L := L) (T := T) (by rw [hk])
  rw [e1, Int.toNat_natCast] at hk
  have hkl : keptL N L T = true := congrArg Prod.fst hk
  have en : (N : Int) - 1 = ((N - 1 : Nat) : Int) := by omega
  rw [en] at hc ⊢
  unfold keeps
  rw [if_pos ⟨hc, less_ok t1⟩, if_pos (by rw [lessT_len (by omega) (by omega)]; omega), Int.toNat_natCast]
  have hclo := close_clo h0 hC
  have hf := (close_fits h0 hC (tv T)).2 ((kept_fits (chk_lim' h0) t1).1 hkl)
  have : keptL (N - 1) (dropL N K C) (lessT K T) = true := by
    rw [kept_fits (chk_lim' hc) (less_ok t1)]
    intro i j hi hj
    have := hf (sk K i) (sk K j) (sk_lt hi) (sk_lt hj)
    have e1 : ∀ i, tv (lessT K T) i = tv T (sk K i) := fun i => by unfold tv; rw [moments_less (by omega) (by omega)]
    have e2 : mx (N - 1) (dropL N K C) i j = mx N C (sk K i) (sk K j) := by unfold mx; rw [dropL_get C hi hj]
    rw [e1, e1, e2]; exact this
  rw [this]

/-- where the clocks go again. -/
def orderL (N K : Nat) : List Int := (List.range N).map fun i => if i = 0 then 0 else if i = K then (N : Int) - 1 else if K < i then (i : Int) - 1 else (i : Int)
theorem orderL_len (N K : Nat) : (orderL N K).length = N := by simp [orderL]
theorem orderL_get {N K i : Nat} (hi : i < N) : og (orderL N K) i = if i = 0 then 0 else if i = K then (N : Int) - 1 else if K < i then (i : Int) - 1 else (i : Int) := by
  unfold og orderL
  rw [List.getElem?_map, List.getElem?_range hi]; rfl
theorem orderL_ord {N K : Nat} (h1 : 1 ≤ K) (h2 : K < N) : Ord N (orderL N K) := by
  refine ⟨orderL_len _ _, by rw [orderL_get (by omega), if_pos rfl], fun i hi => ?_, fun i j hi hj e => ?_, fun k hk => ?_⟩
  · rw [orderL_get hi]; repeat' split
    all_goals omega
  · rw [orderL_get hi, orderL_get hj] at e
    repeat' split at e
    all_goals omega
  · by_cases c1 : k = 0
    · exact ⟨0, by omega, by rw [orderL_get (by omega), if_pos rfl, c1]; rfl⟩
    · by_cases c2 : k = N - 1
      · exact ⟨K, h2, by rw [orderL_get h2, if_neg (by omega), if_pos rfl]; omega⟩
      · by_cases c3 : k < K
        · exact ⟨k, hk, by rw [orderL_get hk, if_neg c1, if_neg (by omega), if_neg (by omega)]⟩
        · exact ⟨k + 1, by omega, by rw [orderL_get (by omega), if_neg (by omega), if_neg (by omega), if_pos (by omega)]; omega⟩
/-- of what is left of a matrix each choice can be gone on with: the matrix lies in it, with a clock that is free. -/
theorem drops_in {N K : Nat} {L C : List Int} (h0 : chk N L = 0) (hC : closeL N L = some C) (h1 : 1 ≤ K) (h2 : K < N) (hc : chk ((N - 1 : Nat) : Int) (dropL N K C) = 0) :
    move N (growL (N - 1) (dropL N K C)) (orderL N K) = ((N : Int), moveL N (growL (N - 1) (dropL N K C)) (orderL N K), 0) ∧
    Incl.inn N L N (moveL N (growL (N - 1) (dropL N K C)) (orderL N K)) = (true, 0) := by
  have hN4 := (chk_iff.1 h0).2.1
  have hO := orderL_ord h1 h2
  have hg : chk N (growL (N - 1) (dropL N K C)) = 0 := by
    have := chk_grow hc (by omega)
    rwa [show ((N - 1 : Nat) : Int) + 1 = N by omega] at this
  have hclo := close_clo h0 hC
  refine ⟨move_of hg hO, ?_⟩
  have hm := chk_move hg hO
  have h2' : Incl.two N N L (moveL N (growL (N - 1) (dropL N K C)) (orderL N K)) = 0 := by unfold Incl.two; rw [if_pos ⟨h0, hm⟩, if_pos rfl]
  unfold Incl.inn
  rw [if_pos h2', Int.toNat_natCast, hC]
  have hget : ∀ i j, i < N → j < N → (moveL N (growL (N - 1) (dropL N K C)) (orderL N K))[i * N + j]?.getD 0 = if i = K ∧ j = K then 1 else if i = K ∨ j = K then NO else C[i * N + j]?.getD 0 := fun i j hi hj => by
    have o1 := hO.lt i hi
    have o2 := hO.lt j hj
    have hNN : N - 1 + 1 = N := by omega
    rw [moveL_get _ hO hi hj]
    have hgr := growL_get (N := N - 1) (dropL N K C) (i := (og (orderL N K) i).toNat) (j := (og (orderL N K) j).toNat) (by omega) (by omega)
    rw [hNN] at hgr
    rw [hgr]
    have q : ∀ i, i < N → ((og (orderL N K) i).toNat = N - 1 ↔ i = K) ∧ (i ≠ K → sk K (og (orderL N K) i).toNat = i) := fun i hi => by
      rw [orderL_get hi]
      unfold sk
      constructor
      · repeat' split
        all_goals omega
      · intro hne
        repeat' split
        all_goals omega
    obtain ⟨q1, q2⟩ := q i hi
    obtain ⟨q3, q4⟩ := q j hj
    by_cases c1 : i = K
    · have d1 := q1.2 c1
      by_cases c2 : j = K
      · rw [if_pos ⟨d1, q3.2 c2⟩, if_pos ⟨c1, c2⟩]
      · rw [if_neg (fun h => c2 (q3.1 h.2)), if_pos (.inl d1), if_neg (fun h => c2 h.2), if_pos (.inl c1)]
    · have d1 := mt q1.1 c1
      by_cases c2 : j = K
      · rw [if_neg (fun h => d1 h.1), if_pos (.inr (q3.2 c2)), if_neg (fun h => c1 h.1), if_pos (.inr c2)]
      · have d2 := mt q3.1 c2
        rw [if_neg (fun h => d1 h.1), if_neg (fun h => h.elim d1 d2), if_neg (fun h => c1 h.1), if_neg (fun h => h.elim c1 c2)]
        have n1 : (og (orderL N K) i).toNat < N - 1 := by have := mt q1.1 c1; omega
        have n2 : (og (orderL N K) j).toNat < N - 1 := by have := mt q3.1 c2; omega
        rw [dropL_get C n1 n2, q2 c1, q4 c2]
  have hd : diagOk N (moveL N (growL (N - 1) (dropL N K C)) (orderL N K)) = true := by
    unfold diagOk
    rw [List.all_eq_true]
    intro i hi
    have hi := List.mem_range.1 hi
    rw [hget i i hi hi]
    by_cases c1 : i = K
    · rw [if_pos ⟨c1, c1⟩]; decide
    · rw [if_neg (fun h => c1 h.1), if_neg (fun h => h.elim c1 c1), hclo.diag i hi]; decide
  have hu : Incl.under N C (moveL N (growL (N - 1) (dropL N K C)) (orderL N K)) = true := by
    unfold Incl.under
    rw [List.all_eq_true]
    intro q hq
    have hq := List.mem_range.1 hq
    have d1 := div_lt hq
    have d2 := mod_lt hq
    rw [Bool.or_eq_true, decide_eq_true_eq, decide_eq_true_eq]
    have hg2 := hget _ _ d1 d2
    rw [div_mod] at hg2
    rw [hg2]
    by_cases c : q / N = q % N
    · left
      have : q = q / N * (N + 1) := by
        have := div_mod (p := q) (N := N)
        rw [Nat.mul_succ]; omega
      rw [this, Nat.mul_mod_left]
    · right
      rw [if_neg (fun h => c (h.1.trans h.2.symm))]
      split
      · have := hclo.lim _ _ d1 d2
        rw [div_mod] at this
        rcases this with h | h
        · rw [h]; exact Int.le_refl _
        · show _ ≤ (9223372036854775807 : Int); omega
      · exact Int.le_refl _
  show (diagOk N _ && Incl.under N C _, (0 : Int)) = _
  rw [hd, hu]; rfl
theorem picks_closed {N : Nat} {A : List Int} (h0 : chk N A = 0) (hA : Clo N A) : (Incl.picks N A).2 = 0 ∧ (Incl.picks N A).1.length = N - 1 := by
  unfold Incl.picks
  rw [if_pos h0, Int.toNat_natCast, hA.close]
  refine ⟨rfl, ?_⟩
  simp only [Incl.picked, List.length_drop, Incl.sofar_len]
  have := (chk_iff.1 h0).1
  omega
end Go.Proofs.Ytnhfkodjphplfaa.Proj

/-
  The walk of rallentandolaw07.ProjDrops, by the engine.
-/
namespace Go.Proofs.Ytnhfkodjphplfaa
set_option linter.unusedVariables false
set_option linter.unusedSimpArgs false
set_option maxRecDepth 100000
open Go.RowKit Go.Proofs.Ytnhfkodjphplfaa.Eng Enc

theorem take_order {N K i : Nat} (h : i + 1 < N) : (Proj.orderL N K).take (i + 1) ++ [Proj.og (Proj.orderL N K) (i + 1)] = (Proj.orderL N K).take (i + 2) := by
  rw [List.take_add_one (i := i + 1), Proj.og_get (by rw [Proj.orderL_len]; exact h)]; rfl
theorem take_order1 {N K : Nat} (h : 1 ≤ N) (hK : 1 ≤ K) : (Proj.orderL N K).take (0 + 1) = [0] := by
  rw [List.take_add_one (i := 0), Proj.og_get (by rw [Proj.orderL_len]; omega), Proj.orderL_get (by omega)]; rfl
set_option maxHeartbeats 4000000 in
theorem projDrops_walk (n k : Int) (a : Option Addr) (cap : Nat) (L : List Int) (at_ : Option Addr) (ct : Nat) (T : List Rt) (hT : ∀ x ∈ T, x.ins) (w : World) (hS : Sl w.heap.size w (.slice a L.length cap) L) (hST : Sl w.heap.size w (.slice at_ T.length ct) T) :
    Calls Try.prog 8 #[.agg #[.int .i64 n, .slice a L.length cap], .int .i64 k, .slice at_ T.length ct] w fun e w' => e = .returned (.bool true) ∧ Below w.heap.size w w' := by
  refine fun_eq 0 w Try.func8 (args := [.agg [.val (.int .i64 n), .val (.slice a L.length cap)], .val (.int .i64 k), .val (.slice at_ T.length ct)]) rfl rfl ?_
  have st := Stay.first (w := w)
  refine NewI.mk fun b1 hb1 => ?_
  apply CallI.use1
  focus (exact fun w1 h1 => alive07_any w1)
  intro w1 v1 h1 hB1
  have st := st.next h1 (fun x hx => by simp at hx <;> omega) hB1
  refine Branch.mk (fun hc => ?_) (fun hc => ?_)
  · exact EndI.mk fun _ _ => rfl
  refine Branch.mk (fun hcT => ?_) (fun hcT => ?_)
  · exact EndI.mk fun _ _ => rfl
  refine Branch.no rfl ?_
  have hTl : T.length ≤ 100 := by simp only [decide_eq_false_iff_not] at hcT; omega
  apply CallI.use
  focus (exact fun w2 h2 => drop_any n a cap L k w2 (hS.st (st.at h2 (fun x hx => by simp at hx <;> omega))))
  rintro v w2 v2 h2 hB2 ⟨a1, q1, rfl, hF1⟩
  have st := st.next h2 (fun x hx => by simp at hx <;> omega) hB2
  refine NewI.mk fun b2 hb2 => ?_
  refine Branch.mk (fun hc1 => ?_) (fun hc1 => ?_)
  · exact EndI.mk fun _ _ => rfl
  have hd0 : (Proj.drop n L k).2.2 = 0 := by simpa using hc1
  apply CallI.use1
  focus (exact fun w3 h3 => dcheck_any _ a1 q1 _ w3 (hF1.sl.st (st.at h3 (fun x hx => by simp at hx <;> omega))))
  intro w3 v3 h3 hB3
  have st := st.next h3 (fun x hx => by simp at hx <;> omega) hB3
  refine Branch.mk (fun hc2 => ?_) (fun hc2 => ?_)
  · exact EndI.mk fun _ _ => rfl
  have hdc : Dbm.chk (Proj.drop n L k).1 (Proj.drop n L k).2.1 = 0 := by simpa using hc2
  have hkeep := fun (T : List Rt) (h : Dbm.keeps n L T = (true, 0)) => Proj.drops_keeps hd0 hdc h
  obtain ⟨h0, k1, k2, C, hC, e⟩ := Proj.drop_ok hd0
  obtain ⟨N, rfl⟩ : ∃ N : Nat, n = N := ⟨n.toNat, by omega⟩
  obtain ⟨K, rfl⟩ : ∃ K : Nat, k = K := ⟨k.toNat, by omega⟩
  rw [Int.toNat_natCast] at hC
  have en : (N : Int) - 1 = ((N - 1 : Nat) : Int) := by omega
  rw [e, Int.toNat_natCast, Int.toNat_natCast] at hF1 hdc hkeep ⊢
  simp only at hF1 hdc hkeep ⊢
  rw [en] at hdc hkeep ⊢
  have hN4 := (Dbm.chk_iff.1 h0).2.1
  have hclo := Proj.clo_drop (k := K) (Dbm.close_clo h0 hC)
  have hpk := Proj.picks_closed hdc hclo
  have hdi := Proj.drops_in h0 hC (by omega) (by omega) hdc
  have hgr : Proj.grow ((N - 1 : Nat) : Int) (Proj.dropL N K C) = ((N : Int), Proj.growL (N - 1) (Proj.dropL N K C), 0) := by
    unfold Proj.grow
    rw [if_pos hdc, if_neg (by omega), Int.toNat_natCast, show ((N - 1 : Nat) : Int) + 1 = N by omega]
  generalize hA : Proj.dropL N K C = A at *
  apply CallI.use
  focus (exact fun w4 h4 => dkeeps_any N a cap L T at_ ct w4 hT (hS.st (st.at h4 (fun x hx => by simp at hx <;> omega))) (hST.st (st.at h4 (fun x hx => by simp at hx <;> omega))))
  rintro v w4 v4 h4 hB4 rfl
  have st := st.next h4 (fun x hx => by simp at hx <;> omega) hB4
  refine Branch.mk (fun hk1 => ?_) (fun hk1 => ?_)
  · have hk0 : (Dbm.keeps N L T).2 = 0 := by simpa using hk1
    refine Branch.mk (fun hk2 => ?_) (fun hk2 => ?_)
    · have hkk : Dbm.keeps N L T = (true, 0) := Prod.ext (by simpa using hk2) hk0
      have hTn : T.length = N - 1 := by have := (Proj.keeps_ok hk0).2.2.1; omega
      have hkl := hkeep T hkk
      refine Need.mk (by show _ ∧ _; omega) ?_
      have hcapT : T.length ≤ ct := by
        obtain ⟨_, _, e, h1, _⟩ := hST.form
        injection e with _ _ e; omega
      refine Need.mk ⟨by omega, by omega, by omega⟩ ?_
      have hlp0 := Lp.here (α := Rt) (e := TR) (r := [b1, b2]) st (fun b hb => Nat.lt_of_lt_of_le (h4.lt b hb) hB4.size) (st.get (X := w) (by simp)).size
      conv => whnf
      rw [show ((K : Int) - 1).toNat = K - 1 by omega]
      refine GenN.appL (α := Rt) elR hlp0 (fun x hx => .inl hx) (by simp) (T.take (K - 1)) (fun w5 h5 => by have := ((Sl.at h5 hST).pre (K - 1) (by omega)).src; rw [List.length_take, Nat.min_eq_left (by omega)] at *; exact this) (by simp; omega) (by decide) fun a5 c5 w5 v5 h5 hlp5 hsz5 hbl5 => ?_
      refine Need.mk ⟨by omega, by omega, by omega⟩ ?_
      conv => whnf
      rw [show ((K : Int)).toNat = K from rfl]
      -- the second append
      refine GenN.appL (α := Rt) elR hlp5 (fun x hx => .inl hx) (by simp) (T.drop K) (fun w6 h6 => by
        have := ((Sl.at h6 hST).sub K T.length (by omega) (Nat.le_refl _)).src
        rw [List.length_take, List.length_drop, Nat.min_self] at *
        rw [show ((T.drop K).take (T.length - K)) = T.drop K from List.take_of_length_le (by simp)] at this
        exact this) (by simp; omega) (by decide) fun a6 c6 w6 v6 h6 hlp6 hsz6 hbl6 => ?_
      have hlp6 : Lp ⟨w, w.heap.size, Nat.le_refl _⟩ _ [b1, b2] TR _ v6 (.slice a6 (Proj.lessT K T).length c6) (Proj.lessT K T) := hlp6
      have st := hlp6.st.here (hlp6.st.get (X := w) (by simp))
      have hL6 : Sl v6.heap.size v6 (.slice a6 (Proj.lessT K T).length c6) (Proj.lessT K T) := hlp6.own.sl
      have hLi : ∀ x ∈ Proj.lessT K T, x.ins := fun x hx => by
        rcases List.mem_append.1 hx with h | h
        · exact hT x (List.mem_of_mem_take h)
        · exact hT x (List.mem_of_mem_drop h)
      apply CallI.use
      focus (exact fun w7 h7 => dkeeps_any _ a1 q1 _ _ a6 c6 w7 hLi (hF1.sl.st (st.at h7 (fun x hx => by simp at hx <;> omega))) (hL6.st (st.at h7 (fun x hx => by simp at hx <;> omega))))
      rintro v w7 v7 h7 hB7 rfl
      have st := st.next h7 (fun x hx => by simp at hx <;> omega) hB7
      refine Branch.no (by show decide ((Dbm.keeps _ A (Proj.lessT K T)).2 ≠ 0) = false; rw [hkl]; rfl) ?_
      refine Branch.no (by show (!(Dbm.keeps _ A (Proj.lessT K T)).1) = false; rw [hkl]; rfl) ?_
      apply CallI.use
      focus (exact fun w20 h20 => ipick_any _ a1 q1 _ w20 (hF1.sl.st (st.at h20 (fun x hx => by simp at hx <;> omega))))
      rintro v w20 v20 h20 hB20 ⟨ap, qp, rfl, hSp⟩
      have st := st.next h20 (fun x hx => by simp at hx <;> omega) hB20
      apply CallI.use
      focus (exact fun w21 h21 => grow_any _ a1 q1 _ w21 (hF1.sl.st (st.at h21 (fun x hx => by simp at hx <;> omega))))
      rintro v w21 v21 h21 hB21 ⟨a2, q2, rfl, hF2⟩
      have st := st.next h21 (fun x hx => by simp at hx <;> omega) hB21
      refine NewI.mk fun b3 hb3 => ?_
      refine Branch.no (by rw [hpk.1]; rfl) ?_
      refine Branch.no (by rw [hgr]; rfl) ?_
      rw [hgr] at hF2 ⊢
      simp only at hF2 ⊢
      refine NewI.mk fun b4 hb4 => ?_
      have hb4w : w.heap.size ≤ b4 := Nat.le_trans (st.get (X := w) (by simp)).size hb4
      refine LoopI.invC (α := Nat × World × Value) (fun y => [(20, .val (.int .i64 ((y.1 + 1 : Nat) : Int))), (19, .val y.2.2)]) (fun y => y.2.1) (fun y => y.1 + 1 ≤ N ∧ Lq Int ⟨w, w.heap.size, Nat.le_refl _⟩ [v21, w] [b1, b2, b3, b4] TI y.2.1 y.2.2 b4 [0] ((Proj.orderL N K).take (y.1 + 1))) (fun y => N - y.1) ?_ ?_
      · intro w7 h7
        exact ⟨(0, w7, .slice (some ⟨b4, 0, none⟩) 1 1), Cov.mk (by repeat' (first | exact trivial | refine And.intro rfl ?_)) rfl rfl rfl rfl rfl, rfl, by omega, .inl ⟨rfl, take_order1 (by omega) (by omega), (st.at h7 (fun x hx => by simp at hx <;> omega)).sub (by simp)⟩⟩
      rintro ⟨i, W, sv⟩ ⟨hi, hlq⟩
      have hi : i + 1 ≤ N := hi
      have hlq : Lq Int ⟨w, w.heap.size, Nat.le_refl _⟩ [v21, w] [b1, b2, b3, b4] TI W sv b4 [0] ((Proj.orderL N K).take (i + 1)) := hlq
      have htl : ((Proj.orderL N K).take (i + 1)).length = i + 1 := by simp [Proj.orderL_len]; omega
      refine Branch.mk (fun hc3 => ?_) (fun hc3 => ?_)
      · have hlt : i + 1 < N := by have : ((i + 1 : Nat) : Int) < N := by simpa using hc3
                                   omega
        have elem := Proj.orderL_get (K := K) hlt
        rw [if_neg (by omega)] at elem
        have app : ∀ (x : Int), Proj.og (Proj.orderL N K) (i + 1) = x → (Proj.orderL N K).take (i + 1) ++ [x] = (Proj.orderL N K).take (i + 2) := fun x hx => by rw [← hx]; exact take_order hlt
        refine Branch.mk (fun hc4 => ?_) (fun hc4 => ?_)
        · have hik : i + 1 = K := by have : ((i + 1 : Nat) : Int) = K := by simpa using hc4
                                     omega
          rw [if_pos hik] at elem
          refine Need.mk (by show _ ∧ _; omega) ?_
          refine NewI.mk fun b5 hb5 => ?_
          refine GenN.appQ (α := Int) elDI hlq 3 rfl rfl rfl rfl hb4w (fun x hx => by simp at hx ⊢; rcases hx with h | h | h | h | h <;> simp [h]; exact .inr hb5) (by simp) [(N : Int) - 1] (by simp) (fun w8 h8 => src_own h8 4 rfl rfl rfl rfl) (by rw [htl]; simp; omega) (by decide) fun a' c' w8 w9 h8 hlq9 hlp9 hsz => ?_
          rw [app _ elem] at hlq9 ⊢
          exact Need.mk (by show _ ∧ _; omega) (EndI.mk fun w10 h10 => ⟨(i + 1, w10, .slice a' ((Proj.orderL N K).take (i + 2)).length c'), Cov.mk (by repeat' (first | exact trivial | refine And.intro rfl ?_)) rfl rfl rfl rfl rfl, rfl, ⟨by omega, hlq9.at h10⟩, by simp only; omega⟩)
        refine Branch.mk (fun hc5 => ?_) (fun hc5 => ?_)
        · have hik : K < i + 1 := by have : (K : Int) < ((i + 1 : Nat) : Int) := by simpa using hc5
                                     omega
          rw [if_neg (by omega), if_pos hik] at elem
          refine Need.mk (by show _ ∧ _; omega) ?_
          refine NewI.mk fun b5 hb5 => ?_
          refine GenN.appQ (α := Int) elDI hlq 3 rfl rfl rfl rfl hb4w (fun x hx => by simp at hx ⊢; rcases hx with h | h | h | h | h <;> simp [h]; exact .inr hb5) (by simp) [((i + 1 : Nat) : Int) - 1] (by simp) (fun w8 h8 => src_own h8 4 rfl rfl rfl rfl) (by rw [htl]; simp; omega) (by decide) fun a' c' w8 w9 h8 hlq9 hlp9 hsz => ?_
          rw [app _ elem] at hlq9 ⊢
          exact Need.mk (by show _ ∧ _; omega) (EndI.mk fun w10 h10 => ⟨(i + 1, w10, .slice a' ((Proj.orderL N K).take (i + 2)).length c'), Cov.mk (by repeat' (first | exact trivial | refine And.intro rfl ?_)) rfl rfl rfl rfl rfl, rfl, ⟨by omega, hlq9.at h10⟩, by simp only; omega⟩)
        · have hik : ¬ K < i + 1 := by have : ¬ (K : Int) < ((i + 1 : Nat) : Int) := by simpa using hc5
                                       omega
          have hik2 : ¬ i + 1 = K := by have : ¬ ((i + 1 : Nat) : Int) = K := by simpa using hc4
                                        omega
          rw [if_neg hik2, if_neg hik] at elem
          refine NewI.mk fun b5 hb5 => ?_
          refine GenN.appQ (α := Int) elDI hlq 3 rfl rfl rfl rfl hb4w (fun x hx => by simp at hx ⊢; rcases hx with h | h | h | h | h <;> simp [h]; exact .inr hb5) (by simp) [((i + 1 : Nat) : Int)] (by simp) (fun w8 h8 => src_own h8 4 rfl rfl rfl rfl) (by rw [htl]; simp; omega) (by decide) fun a' c' w8 w9 h8 hlq9 hlp9 hsz => ?_
          rw [app _ elem] at hlq9 ⊢
          exact Need.mk (by show _ ∧ _; omega) (EndI.mk fun w10 h10 => ⟨(i + 1, w10, .slice a' ((Proj.orderL N K).take (i + 2)).length c'), Cov.mk (by repeat' (first | exact trivial | refine And.intro rfl ?_)) rfl rfl rfl rfl rfl, rfl, ⟨by omega, hlq9.at h10⟩, by simp only; omega⟩)
      have hge : i + 1 = N := by have : ¬ ((i + 1 : Nat) : Int) < N := by simpa using hc3
                                 omega
      have hO : (Proj.orderL N K).take (i + 1) = Proj.orderL N K := List.take_of_length_le (by rw [Proj.orderL_len]; omega)
      rw [hO] at hlq
      obtain ⟨ao, co, rfl⟩ := hlq.form
      have hmv := fun (a : Option Addr) (cap : Nat) (ao : Option Addr) (co : Nat) (w : World) => move_any N a cap (Proj.growL (N - 1) A) ao co (Proj.orderL N K) (by rw [Proj.orderL_len]; omega) w
      rw [hdi.1] at hmv
      apply CallI.use
      focus (exact fun w22 h22 => hmv a2 q2 ao co w22 (hF2.sl.st (hlq.at h22).st) (hlq.sl h22 3 rfl rfl rfl (by simp [maxLen])))
      rintro v w22 v22 h22 hB22 ⟨a3, q3, rfl, hF3⟩
      have st := ((hlq.at h22).go hB22).st
      have st := st.here (h22.below.trans (hB22.mono h22.below.size))
      refine NewI.mk fun b6 hb6 => ?_
      have hin := fun (a b : Option Addr) (ca cb : Nat) (w : World) => in_any N N L (Proj.moveL N (Proj.growL (N - 1) A) (Proj.orderL N K)) a b ca cb w
      rw [hdi.2] at hin
      apply CallI.use1
      focus (exact fun w23 h23 => hin a a3 cap q3 w23 (hS.st (st.at h23 (fun x hx => by simp at hx <;> omega))) (hF3.sl.st (st.at h23 (fun x hx => by simp at hx <;> omega))))
      intro w23 v23 h23 hB23
      have st := st.next h23 (fun x hx => by simp at hx <;> omega) hB23
      refine Branch.yes rfl ?_
      refine Branch.yes rfl ?_
      refine Branch.yes rfl ?_
      refine Need.mk (by show _ ∧ _; omega) ?_
      refine EndI.mk fun w24 h24 => ?_
      rw [hpk.2]
      congr 1
      exact decide_eq_true (by omega)
    · skip
      apply CallI.use
      focus (exact fun w20 h20 => ipick_any _ a1 q1 _ w20 (hF1.sl.st (st.at h20 (fun x hx => by simp at hx <;> omega))))
      rintro v w20 v20 h20 hB20 ⟨ap, qp, rfl, hSp⟩
      have st := st.next h20 (fun x hx => by simp at hx <;> omega) hB20
      apply CallI.use
      focus (exact fun w21 h21 => grow_any _ a1 q1 _ w21 (hF1.sl.st (st.at h21 (fun x hx => by simp at hx <;> omega))))
      rintro v w21 v21 h21 hB21 ⟨a2, q2, rfl, hF2⟩
      have st := st.next h21 (fun x hx => by simp at hx <;> omega) hB21
      refine NewI.mk fun b3 hb3 => ?_
      refine Branch.no (by rw [hpk.1]; rfl) ?_
      refine Branch.no (by rw [hgr]; rfl) ?_
      rw [hgr] at hF2 ⊢
      simp only at hF2 ⊢
      refine NewI.mk fun b4 hb4 => ?_
      have hb4w : w.heap.size ≤ b4 := Nat.le_trans (st.get (X := w) (by simp)).size hb4
      refine LoopI.invC (α := Nat × World × Value) (fun y => [(20, .val (.int .i64 ((y.1 + 1 : Nat) : Int))), (19, .val y.2.2)]) (fun y => y.2.1) (fun y => y.1 + 1 ≤ N ∧ Lq Int ⟨w, w.heap.size, Nat.le_refl _⟩ [v21, w] [b1, b2, b3, b4] TI y.2.1 y.2.2 b4 [0] ((Proj.orderL N K).take (y.1 + 1))) (fun y => N - y.1) ?_ ?_
      · intro w7 h7
        exact ⟨(0, w7, .slice (some ⟨b4, 0, none⟩) 1 1), Cov.mk (by repeat' (first | exact trivial | refine And.intro rfl ?_)) rfl rfl rfl rfl rfl, rfl, by omega, .inl ⟨rfl, take_order1 (by omega) (by omega), (st.at h7 (fun x hx => by simp at hx <;> omega)).sub (by simp)⟩⟩
      rintro ⟨i, W, sv⟩ ⟨hi, hlq⟩
      have hi : i + 1 ≤ N := hi
      have hlq : Lq Int ⟨w, w.heap.size, Nat.le_refl _⟩ [v21, w] [b1, b2, b3, b4] TI W sv b4 [0] ((Proj.orderL N K).take (i + 1)) := hlq
      have htl : ((Proj.orderL N K).take (i + 1)).length = i + 1 := by simp [Proj.orderL_len]; omega
      refine Branch.mk (fun hc3 => ?_) (fun hc3 => ?_)
      · have hlt : i + 1 < N := by have : ((i + 1 : Nat) : Int) < N := by simpa using hc3
                                   omega
        have elem := Proj.orderL_get (K := K) hlt
        rw [if_neg (by omega)] at elem
        have app : ∀ (x : Int), Proj.og (Proj.orderL N K) (i + 1) = x → (Proj.orderL N K).take (i + 1) ++ [x] = (Proj.orderL N K).take (i + 2) := fun x hx => by rw [← hx]; exact take_order hlt
        refine Branch.mk (fun hc4 => ?_) (fun hc4 => ?_)
        · have hik : i + 1 = K := by have : ((i + 1 : Nat) : Int) = K := by simpa using hc4
                                     omega
          rw [if_pos hik] at elem
          refine Need.mk (by show _ ∧ _; omega) ?_
          refine NewI.mk fun b5 hb5 => ?_
          refine GenN.appQ (α := Int) elDI hlq 3 rfl rfl rfl rfl hb4w (fun x hx => by simp at hx ⊢; rcases hx with h | h | h | h | h <;> simp [h]; exact .inr hb5) (by simp) [(N : Int) - 1] (by simp) (fun w8 h8 => src_own h8 4 rfl rfl rfl rfl) (by rw [htl]; simp; omega) (by decide) fun a' c' w8 w9 h8 hlq9 hlp9 hsz => ?_
          rw [app _ elem] at hlq9 ⊢
          exact Need.mk (by show _ ∧ _; omega) (EndI.mk fun w10 h10 => ⟨(i + 1, w10, .slice a' ((Proj.orderL N K).take (i + 2)).length c'), Cov.mk (by repeat' (first | exact trivial | refine And.intro rfl ?_)) rfl rfl rfl rfl rfl, rfl, ⟨by omega, hlq9.at h10⟩, by simp only; omega⟩)
        refine Branch.mk (fun hc5 => ?_) (fun hc5 => ?_)
        · have hik : K < i + 1 := by have : (K : Int) < ((i + 1 : Nat) : Int) := by simpa using hc5
                                     omega
          rw [if_neg (by omega), if_pos hik] at elem
          refine Need.mk (by show _ ∧ _; omega) ?_
          refine NewI.mk fun b5 hb5 => ?_
          refine GenN.appQ (α := Int) elDI hlq 3 rfl rfl rfl rfl hb4w (fun x hx => by simp at hx ⊢; rcases hx with h | h | h | h | h <;> simp [h]; exact .inr hb5) (by simp) [((i + 1 : Nat) : Int) - 1] (by simp) (fun w8 h8 => src_own h8 4 rfl rfl rfl rfl) (by rw [htl]; simp; omega) (by decide) fun a' c' w8 w9 h8 hlq9 hlp9 hsz => ?_
          rw [app _ elem] at hlq9 ⊢
          exact Need.mk (by show _ ∧ _; omega) (EndI.mk fun w10 h10 => ⟨(i + 1, w10, .slice a' ((Proj.orderL N K).take (i + 2)).length c'), Cov.mk (by repeat' (first | exact trivial | refine And.intro rfl ?_)) rfl rfl rfl rfl rfl, rfl, ⟨by omega, hlq9.at h10⟩, by simp only; omega⟩)
        · have hik : ¬ K < i + 1 := by have : ¬ (K : Int) < ((i + 1 : Nat) : Int) := by simpa using hc5
                                       omega
          have hik2 : ¬ i + 1 = K := by have : ¬ ((i + 1 : Nat) : Int) = K := by simpa using hc4
                                        omega
          rw [if_neg hik2, if_neg hik] at elem
          refine NewI.mk fun b5 hb5 => ?_
          refine GenN.appQ (α := Int) elDI hlq 3 rfl rfl rfl rfl hb4w (fun x hx => by simp at hx ⊢; rcases hx with h | h | h | h | h <;> simp [h]; exact .inr hb5) (by simp) [((i + 1 : Nat) : Int)] (by simp) (fun w8 h8 => src_own h8 4 rfl rfl rfl rfl) (by rw [htl]; simp; omega) (by decide) fun a' c' w8 w9 h8 hlq9 hlp9 hsz => ?_
          rw [app _ elem] at hlq9 ⊢
          exact Need.mk (by show _ ∧ _; omega) (EndI.mk fun w10 h10 => ⟨(i + 1, w10, .slice a' ((Proj.orderL N K).take (i + 2)).length c'), Cov.mk (by repeat' (first | exact trivial | refine And.intro rfl ?_)) rfl rfl rfl rfl rfl, rfl, ⟨by omega, hlq9.at h10⟩, by simp only; omega⟩)
      have hge : i + 1 = N := by have : ¬ ((i + 1 : Nat) : Int) < N := by simpa using hc3
                                 omega
      have hO : (Proj.orderL N K).take (i + 1) = Proj.orderL N K := List.take_of_length_le (by rw [Proj.orderL_len]; omega)
      rw [hO] at hlq
      obtain ⟨ao, co, rfl⟩ := hlq.form
      have hmv := fun (a : Option Addr) (cap : Nat) (ao : Option Addr) (co : Nat) (w : World) => move_any N a cap (Proj.growL (N - 1) A) ao co (Proj.orderL N K) (by rw [Proj.orderL_len]; omega) w
      rw [hdi.1] at hmv
      apply CallI.use
      focus (exact fun w22 h22 => hmv a2 q2 ao co w22 (hF2.sl.st (hlq.at h22).st) (hlq.sl h22 3 rfl rfl rfl (by simp [maxLen])))
      rintro v w22 v22 h22 hB22 ⟨a3, q3, rfl, hF3⟩
      have st := ((hlq.at h22).go hB22).st
      have st := st.here (h22.below.trans (hB22.mono h22.below.size))
      refine NewI.mk fun b6 hb6 => ?_
      have hin := fun (a b : Option Addr) (ca cb : Nat) (w : World) => in_any N N L (Proj.moveL N (Proj.growL (N - 1) A) (Proj.orderL N K)) a b ca cb w
      rw [hdi.2] at hin
      apply CallI.use1
      focus (exact fun w23 h23 => hin a a3 cap q3 w23 (hS.st (st.at h23 (fun x hx => by simp at hx <;> omega))) (hF3.sl.st (st.at h23 (fun x hx => by simp at hx <;> omega))))
      intro w23 v23 h23 hB23
      have st := st.next h23 (fun x hx => by simp at hx <;> omega) hB23
      refine Branch.yes rfl ?_
      refine Branch.yes rfl ?_
      refine Branch.yes rfl ?_
      refine Need.mk (by show _ ∧ _; omega) ?_
      refine EndI.mk fun w24 h24 => ?_
      rw [hpk.2]
      congr 1
      exact decide_eq_true (by omega)
  · skip
    apply CallI.use
    focus (exact fun w20 h20 => ipick_any _ a1 q1 _ w20 (hF1.sl.st (st.at h20 (fun x hx => by simp at hx <;> omega))))
    rintro v w20 v20 h20 hB20 ⟨ap, qp, rfl, hSp⟩
    have st := st.next h20 (fun x hx => by simp at hx <;> omega) hB20
    apply CallI.use
    focus (exact fun w21 h21 => grow_any _ a1 q1 _ w21 (hF1.sl.st (st.at h21 (fun x hx => by simp at hx <;> omega))))
    rintro v w21 v21 h21 hB21 ⟨a2, q2, rfl, hF2⟩
    have st := st.next h21 (fun x hx => by simp at hx <;> omega) hB21
    refine NewI.mk fun b3 hb3 => ?_
    refine Branch.no (by rw [hpk.1]; rfl) ?_
    refine Branch.no (by rw [hgr]; rfl) ?_
    rw [hgr] at hF2 ⊢
    simp only at hF2 ⊢
    refine NewI.mk fun b4 hb4 => ?_
    have hb4w : w.heap.size ≤ b4 := Nat.le_trans (st.get (X := w) (by simp)).size hb4
    refine LoopI.invC (α := Nat × World × Value) (fun y => [(20, .val (.int .i64 ((y.1 + 1 : Nat) : Int))), (19, .val y.2.2)]) (fun y => y.2.1) (fun y => y.1 + 1 ≤ N ∧ Lq Int ⟨w, w.heap.size, Nat.le_refl _⟩ [v21, w] [b1, b2, b3, b4] TI y.2.1 y.2.2 b4 [0] ((Proj.orderL N K).take (y.1 + 1))) (fun y => N - y.1) ?_ ?_
    · intro w7 h7
      exact ⟨(0, w7, .slice (some ⟨b4, 0, none⟩) 1 1), Cov.mk (by repeat' (first | exact trivial | refine And.intro rfl ?_)) rfl rfl rfl rfl rfl, rfl, by omega, .inl ⟨rfl, take_order1 (by omega) (by omega), (st.at h7 (fun x hx => by simp at hx <;> omega)).sub (by simp)⟩⟩
    rintro ⟨i, W, sv⟩ ⟨hi, hlq⟩
    have hi : i + 1 ≤ N := hi
    have hlq : Lq Int ⟨w, w.heap.size, Nat.le_refl _⟩ [v21, w] [b1, b2, b3, b4] TI W sv b4 [0] ((Proj.orderL N K).take (i + 1)) := hlq
    have htl : ((Proj.orderL N K).take (i + 1)).length = i + 1 := by simp [Proj.orderL_len]; omega
    refine Branch.mk (fun hc3 => ?_) (fun hc3 => ?_)
    · have hlt : i + 1 < N := by have : ((i + 1 : Nat) : Int) < N := by simpa using hc3
                                 omega
      have elem := Proj.orderL_get (K := K) hlt
      rw [if_neg (by omega)] at elem
      have app : ∀ (x : Int), Proj.og (Proj.orderL N K) (i + 1) = x → (Proj.orderL N K).take (i + 1) ++ [x] = (Proj.orderL N K).take (i + 2) := fun x hx => by rw [← hx]; exact take_order hlt
      refine Branch.mk (fun hc4 => ?_) (fun hc4 => ?_)
      · have hik : i + 1 = K := by have : ((i + 1 : Nat) : Int) = K := by simpa using hc4
                                   omega
        rw [if_pos hik] at elem
        refine Need.mk (by show _ ∧ _; omega) ?_
        refine NewI.mk fun b5 hb5 => ?_
        refine GenN.appQ (α := Int) elDI hlq 3 rfl rfl rfl rfl hb4w (fun x hx => by simp at hx ⊢; rcases hx with h | h | h | h | h <;> simp [h]; exact .inr hb5) (by simp) [(N : Int) - 1] (by simp) (fun w8 h8 => src_own h8 4 rfl rfl rfl rfl) (by rw [htl]; simp; omega) (by decide) fun a' c' w8 w9 h8 hlq9 hlp9 hsz => ?_
        rw [app _ elem] at hlq9 ⊢
        exact Need.mk (by show _ ∧ _; omega) (EndI.mk fun w10 h10 => ⟨(i + 1, w10, .slice a' ((Proj.orderL N K).take (i + 2)).length c'), Cov.mk (by repeat' (first | exact trivial | refine And.intro rfl ?_)) rfl rfl rfl rfl rfl, rfl, ⟨by omega, hlq9.at h10⟩, by simp only; omega⟩)
      refine Branch.mk (fun hc5 => ?_) (fun hc5 => ?_)
      · have hik : K < i + 1 := by have : (K : Int) < ((i + 1 : Nat) : Int) := by simpa using hc5
                                   omega
        rw [if_neg (by omega), if_pos hik] at elem
        refine Need.mk (by show _ ∧ _; omega) ?_
        refine NewI.mk fun b5 hb5 => ?_
        refine GenN.appQ (α := Int) elDI hlq 3 rfl rfl rfl rfl hb4w (fun x hx => by simp at hx ⊢; rcases hx with h | h | h | h | h <;> simp [h]; exact .inr hb5) (by simp) [((i + 1 : Nat) : Int) - 1] (by simp) (fun w8 h8 => src_own h8 4 rfl rfl rfl rfl) (by rw [htl]; simp; omega) (by decide) fun a' c' w8 w9 h8 hlq9 hlp9 hsz => ?_
        rw [app _ elem] at hlq9 ⊢
        exact Need.mk (by show _ ∧ _; omega) (EndI.mk fun w10 h10 => ⟨(i + 1, w10, .slice a' ((Proj.orderL N K).take (i + 2)).length c'), Cov.mk (by repeat' (first | exact trivial | refine And.intro rfl ?_)) rfl rfl rfl rfl rfl, rfl, ⟨by omega, hlq9.at h10⟩, by simp only; omega⟩)
      · have hik : ¬ K < i + 1 := by have : ¬ (K : Int) < ((i + 1 : Nat) : Int) := by simpa using hc5
                                     omega
        have hik2 : ¬ i + 1 = K := by have : ¬ ((i + 1 : Nat) : Int) = K := by simpa using hc4
                                      omega
        rw [if_neg hik2, if_neg hik] at elem
        refine NewI.mk fun b5 hb5 => ?_
        refine GenN.appQ (α := Int) elDI hlq 3 rfl rfl rfl rfl hb4w (fun x hx => by simp at hx ⊢; rcases hx with h | h | h | h | h <;> simp [h]; exact .inr hb5) (by simp) [((i + 1 : Nat) : Int)] (by simp) (fun w8 h8 => src_own h8 4 rfl rfl rfl rfl) (by rw [htl]; simp; omega) (by decide) fun a' c' w8 w9 h8 hlq9 hlp9 hsz => ?_
        rw [app _ elem] at hlq9 ⊢
        exact Need.mk (by show _ ∧ _; omega) (EndI.mk fun w10 h10 => ⟨(i + 1, w10, .slice a' ((Proj.orderL N K).take (i + 2)).length c'), Cov.mk (by repeat' (first | exact trivial | refine And.intro rfl ?_)) rfl rfl rfl rfl rfl, rfl, ⟨by omega, hlq9.at h10⟩, by simp only; omega⟩)
    have hge : i + 1 = N := by have : ¬ ((i + 1 : Nat) : Int) < N := by simpa using hc3
                               omega
    have hO : (Proj.orderL N K).take (i + 1) = Proj.orderL N K := List.take_of_length_le (by rw [Proj.orderL_len]; omega)
    rw [hO] at hlq
    obtain ⟨ao, co, rfl⟩ := hlq.form
    have hmv := fun (a : Option Addr) (cap : Nat) (ao : Option Addr) (co : Nat) (w : World) => move_any N a cap (Proj.growL (N - 1) A) ao co (Proj.orderL N K) (by rw [Proj.orderL_len]; omega) w
    rw [hdi.1] at hmv
    apply CallI.use
    focus (exact fun w22 h22 => hmv a2 q2 ao co w22 (hF2.sl.st (hlq.at h22).st) (hlq.sl h22 3 rfl rfl rfl (by simp [maxLen])))
    rintro v w22 v22 h22 hB22 ⟨a3, q3, rfl, hF3⟩
    have st := ((hlq.at h22).go hB22).st
    have st := st.here (h22.below.trans (hB22.mono h22.below.size))
    refine NewI.mk fun b6 hb6 => ?_
    have hin := fun (a b : Option Addr) (ca cb : Nat) (w : World) => in_any N N L (Proj.moveL N (Proj.growL (N - 1) A) (Proj.orderL N K)) a b ca cb w
    rw [hdi.2] at hin
    apply CallI.use1
    focus (exact fun w23 h23 => hin a a3 cap q3 w23 (hS.st (st.at h23 (fun x hx => by simp at hx <;> omega))) (hF3.sl.st (st.at h23 (fun x hx => by simp at hx <;> omega))))
    intro w23 v23 h23 hB23
    have st := st.next h23 (fun x hx => by simp at hx <;> omega) hB23
    refine Branch.yes rfl ?_
    refine Branch.yes rfl ?_
    refine Branch.yes rfl ?_
    refine Need.mk (by show _ ∧ _; omega) ?_
    refine EndI.mk fun w24 h24 => ?_
    rw [hpk.2]
    congr 1
    exact decide_eq_true (by omega)
end Go.Proofs.Ytnhfkodjphplfaa

