/-
  Merged texts of this seat (each with its own head below).
-/
import Derived.Test.YthajkhbeehiepaaMCoverOrder5
/-
  slices.Compact at a list of zones: in place.
-/
namespace Go.Proofs.Ythajkhbeehiepaa
set_option linter.unusedVariables false
set_option linter.unusedSimpArgs false
set_option maxRecDepth 100000
open Go.RowKit Go.Proofs.Ythajkhbeehiepaa.Eng Enc

theorem compactZ_few (v : Value) (l : List Zn) (a : Option Addr) (cap : Nat) (hl : l.length < 2) (w : World) :
    Calls Try.prog 35 #[.slice a l.length cap] w fun e w' => e = .returned (.slice a l.length cap) ∧ Below w.heap.size w w' := by
  refine fun_eq 0 w Try.func35 (args := [.val (.slice a l.length cap)]) rfl rfl ?_
  refine Branch.yes (by simp; omega) ?_
  exact EndI.mk fun w9 h9 => rfl
theorem compactZ_any (l : List Zn) (g cap base : Nat) (h2 : 2 ≤ l.length) (B : Nat) (w : World) (hB : B ≤ w.heap.size) (hg : B ≤ g) (hO : Own 37 base w (.slice (some ⟨g, 0, none⟩) l.length cap) l) (hlen : l.length ≤ 1000000) :
    Calls Try.prog 35 #[.slice (some ⟨g, 0, none⟩) l.length cap] w fun e w' => ∃ v, e = .returned v ∧ Below B w w' ∧ v = .slice (some ⟨g, 0, none⟩) (Cv.cpt l).length cap ∧ Own 37 base w' (.slice (some ⟨g, 0, none⟩) (Cv.cpt l).length cap) (Cv.cpt l) ∧ w.grownBy w' (some g) := by
  obtain ⟨_, hbg, hgl, cur0, _, hcap, hmax, _, _⟩ := hO.at0
  have hm : cap ≤ 9223372036854775807 := by unfold maxLen at hmax; omega
  refine fun_at 0 B w hB Try.func35 (args := [.val (.slice (some ⟨g, 0, none⟩) l.length cap)]) rfl rfl ?_
  refine Branch.no (by simp; omega) ?_
  refine LoopI.invC (α := Nat × World) (fun y => [(3, .val (.int .i64 (y.1 + 1 : Nat)))]) (fun y => y.2) (fun y => y.1 + 1 ≤ l.length ∧ Below w.heap.size w y.2 ∧ ∀ j x y0, j < y.1 → l[j]? = some y0 → l[j + 1]? = some x → x ≠ y0) (fun y => l.length - y.1) ?_ ?_
  · intro w1 h1
    exact ⟨(0, w1), Cov.mk (by repeat' (first | exact trivial | refine And.intro rfl ?_)) rfl rfl rfl rfl rfl, rfl, by omega, h1.go, fun j x y hj => by omega⟩
  rintro ⟨k, V⟩ ⟨hk, hV, hall⟩
  simp only at hk hV hall
  refine Branch.mk (fun hc => ?_) (fun hc => ?_)
  · have hlt : k + 1 < l.length := by simp only at hc; have := of_decide_eq_true hc; omega
    refine DrawI.go (.tk 0 (.tk 1 (.tk 2 (.tk 3 (.tk 4 (.tk 5 (.tk 6 (.tk 7 (.tk 8 (.ev 9 .done)))))))))) (by kernel_rfl) fun w2 h2 => ?_
    have hV2 : Below w.heap.size w w2 := hV.trans (h2.go.mono hV.size)
    have hO2 := hO.below hV2
    have hS2 := hO2.sl
    have hx := List.getElem?_eq_getElem (l := l) (i := k + 1) hlt
    have hy := List.getElem?_eq_getElem (l := l) (i := k) (by omega)
    generalize l[k + 1] = x at hx
    generalize l[k]'(by omega) = y at hy
    refine hS2.idx hx fun ad had => ?_
    refine hS2.ld hx had (Below.refl _ _) (by simp) ?_
    refine Need.mk (by simp only [inK]; omega) ?_
    conv => whnf
    rw [show (((k + 1 : Nat) : Int) - 1) = ((k : Nat) : Int) by omega]
    refine hS2.idx hy fun ad2 had2 => ?_
    refine hS2.ld hy had2 (Below.refl _ _) (by simp) ?_
    refine GenV.to (x := .bool (decide (x = y))) (fun w => run_eql_znG _ _ x y w) fun w3 h3 => ?_
    have hV3 : Below w.heap.size w w3 := hV2.trans (h3.go.mono hV2.size)
    refine Branch.mk (fun hc2 => ?_) (fun hc2 => ?_)
    · have hxy : x = y := by simpa using hc2
      have hnd : Cv.cpt (l.take (k + 2)) = l.take (k + 1) := by
        rw [Cv.cpt_step hy hx, if_pos hxy]
        refine Cv.cpt_all fun j x y hy hx => ?_
        rw [List.getElem?_take] at hy hx
        split at hx
        · rename_i hj
          rw [if_pos (by omega)] at hy
          exact hall j x y (by omega) hy hx
        · cases hx
      refine Need.mk ⟨by omega, by omega, by omega⟩ ?_
      refine LoopI.invC (α := (Nat × Nat × List Zn) × World) (fun y => [(3, .val (.int .i64 (y.1.1 : Nat))), (5, .val (.int .i64 (y.1.2.1 + 1 : Nat)))]) (fun y => y.2)
        (fun y => k + 1 + y.1.2.1 + 1 ≤ l.length ∧ y.1.1 ≤ k + 1 + y.1.2.1 ∧ 1 ≤ y.1.1 ∧ y.1.2.2.length = l.length ∧ (∀ j, k + 1 + y.1.2.1 ≤ j → y.1.2.2[j]? = l[j]?) ∧ y.1.2.2.take y.1.1 = Cv.cpt (l.take (k + 1 + y.1.2.1 + 1)) ∧ Own 37 base y.2 (.slice (some ⟨g, 0, none⟩) l.length cap) y.1.2.2 ∧ Below B w y.2 ∧ w.grownBy y.2 (some g)) (fun y => l.length - y.1.2.1) ?_ ?_
      · intro w4 h4
        have h4' : Below w.heap.size w w4 := hV3.trans (h4.go.mono hV3.size)
        exact ⟨((k + 1, 0, l), w4), Cov.mk (by repeat' (first | exact trivial | refine And.intro rfl ?_)) rfl rfl rfl rfl rfl, rfl, ⟨by show k + 1 + 0 + 1 ≤ l.length; omega, by show k + 1 ≤ k + 1 + 0; omega, by show 1 ≤ k + 1; omega, rfl, fun _ _ => rfl, hnd.symm, hO.below h4', h4'.mono hB, below_grown h4' _⟩⟩
      rintro ⟨⟨kw, q, m⟩, U⟩ ⟨i1, i2, i3, i4, i5, i6, i7, i8, i9⟩
      simp only at i1 i2 i3 i4 i5 i6 i7 i8 i9
      refine Branch.mk (fun hc3 => ?_) (fun hc3 => ?_)
      · have hlt2 : k + 1 + q + 1 < l.length := by simp only at hc3; have := of_decide_eq_true hc3; omega
        refine DrawI.go (.tk 0 (.tk 1 (.tk 2 (.tk 3 (.tk 4 (.tk 5 (.tk 6 (.tk 7 (.tk 8 (.ev 9 .done)))))))))) (by kernel_rfl) fun w5 h5 => ?_
        have hg5 : Below U.heap.size U w5 := h5.go
        have j7 := i7.below hg5
        have hT := fun (X : World) (hX : Own 37 base X (.slice (some ⟨g, 0, none⟩) l.length cap) m) => (hX.sl).sub (k + 1) l.length (by omega) (by omega)
        have eT : ∀ j z, m[k + 1 + j]? = some z → ((m.drop (k + 1)).take (l.length - (k + 1)))[j]? = some z := fun j z hz => by
          have := (List.getElem?_eq_some_iff.1 hz).1
          rw [List.getElem?_take, if_pos (by omega), List.getElem?_drop]; exact hz
        have hx1 := List.getElem?_eq_getElem (l := l) (i := k + 1 + (q + 1)) (by omega)
        have hy1 := List.getElem?_eq_getElem (l := l) (i := k + 1 + q) (by omega)
        generalize l[k + 1 + (q + 1)]'(by omega) = x1 at hx1
        generalize l[k + 1 + q]'(by omega) = y1 at hy1
        have hS5 := hT w5 j7
        refine hS5.idx (eT (q + 1) x1 ((i5 _ (by omega)).trans hx1)) fun ad3 had3 => ?_
        refine hS5.ld (eT (q + 1) x1 ((i5 _ (by omega)).trans hx1)) had3 (Below.refl _ _) (by simp) ?_
        refine Need.mk (by simp only [inK]; omega) ?_
        conv => whnf
        rw [show (((q + 1 : Nat) : Int) - 1) = ((q : Nat) : Int) by omega]
        refine hS5.idx (eT q y1 ((i5 _ (by omega)).trans hy1)) fun ad4 had4 => ?_
        refine hS5.ld (eT q y1 ((i5 _ (by omega)).trans hy1)) had4 (Below.refl _ _) (by simp) ?_
        refine GenV.to (x := .bool (decide (x1 ≠ y1))) (fun w => run_neq_znG _ _ x1 y1 w) fun w6 h6 => ?_
        have hg6 : Below w5.heap.size w5 w6 := h6.go
        have j8 := j7.below hg6
        have hcp := Cv.cpt_step (l := l) (k := k + 1 + q) hy1 (by rw [Nat.add_assoc]; exact hx1)
        have hU6 : Below U.heap.size U w6 := hg5.trans (hg6.mono hg5.size)
        have hUs : B ≤ U.heap.size := Nat.le_trans hB i8.size
        refine Branch.mk (fun hc4 => ?_) (fun hc4 => ?_)
        · have hne : x1 ≠ y1 := by simpa using hc4
          rw [if_neg hne] at hcp
          have hS6 := hT w6 j8
          refine hS6.idx (eT (q + 1) x1 ((i5 _ (by omega)).trans hx1)) fun ad5 had5 => ?_
          refine hS6.ld (eT (q + 1) x1 ((i5 _ (by omega)).trans hx1)) had5 (Below.refl _ _) (by simp) ?_
          have hmk := List.getElem?_eq_getElem (l := m) (i := kw) (by omega)
          refine (j8.sl).idx hmk fun ad6 had6 => ?_
          injection had6 with had6; subst had6
          refine Need.mk rfl ?_
          refine ⟨fun w7 h7 => ?_⟩
          have hg7 : Below w6.heap.size w6 w7 := h7.go
          have j9 := j8.below hg7
          obtain ⟨_, _, _, cur, hcur, _, _, hcs, _⟩ := j9.at0
          have eo : (⟨g, 0, none⟩ : Addr).add ((kw : Int).toNat * 6) = ⟨g, kw * 6, none⟩ := by rw [addr_addL, Nat.zero_add, Int.toNat_natCast]
          have hset := j9.set hcur kw (by omega) x1
          have hU7 : Below U.heap.size U w7 := hU6.trans (hg7.mono hU6.size)
          refine ⟨g, kw * 6, cur, _, eo, hcur, ?_, ⟨below_setRow (Below.refl _ _) hg _, fun b hb => by cases hb⟩, ?_⟩
          · have := Nat.mul_le_mul_right 6 (show kw + 1 ≤ cap by omega)
            have hcs' : cur.size = cap * 6 := hcs
            show kw * 6 + 6 ≤ cur.size
            omega
          have hg8 : w.grownBy (w7.setRow g (cur.toList.take (kw * size Zn) ++ enc x1 ++ cur.toList.drop (kw * size Zn + (enc x1).length)).toArray) (some g) := grown_trans (grown_below i9 hU7) (grown_setRow _ _ _)
          have hb8 : Below B w (w7.setRow g (cur.toList.take (kw * size Zn) ++ enc x1 ++ cur.toList.drop (kw * size Zn + (enc x1).length)).toArray) := below_setRow (i8.trans (hU7.mono hUs)) hg _
          refine Need.mk (by simp only [inK]; omega) ?_
          refine Need.mk (by simp only [inK]; omega) (EndI.mk fun w9 h9 => ⟨((kw + 1, q + 1, m.set kw x1), w9), Cov.mk (by repeat' (first | exact trivial | refine And.intro rfl ?_)) rfl rfl rfl rfl rfl, rfl, ?_, by simp only; omega⟩)
          have h9g := h9.go
          refine ⟨by simp only; omega, by simp only; omega, by simp only; omega, by simp only [List.length_set]; exact i4, fun j hj => ?_, ?_, hset.below h9g, hb8.trans (h9g.mono (Nat.le_trans hB hb8.size)), grown_below hg8 h9g⟩
          · simp only at hj ⊢
            rw [List.getElem?_set_ne (by omega)]; exact i5 j (by omega)
          · simp only
            rw [← Nat.add_assoc, hcp, ← i6, List.take_add_one, List.getElem?_set_self (by omega), List.take_set_of_le (by omega)]; rfl
        · have heq : x1 = y1 := by simpa using hc4
          rw [if_pos heq] at hcp
          refine Need.mk (by simp only [inK]; omega) (EndI.mk fun w9 h9 => ⟨((kw, q + 1, m), w9), Cov.mk (by repeat' (first | exact trivial | refine And.intro rfl ?_)) rfl rfl rfl rfl rfl, rfl, ?_, by simp only; omega⟩)
          have hU9 : Below U.heap.size U w9 := hU6.trans (h9.go.mono hU6.size)
          exact ⟨by simp only; omega, by simp only; omega, i3, i4, fun j hj => i5 j (by simp only at hj; omega), by simp only; rw [i6, ← Nat.add_assoc, hcp], i7.below hU9, i8.trans (hU9.mono hUs), grown_below i9 hU9⟩
      · have hge : k + 1 + q + 1 = l.length := by simp only at hc3; have := of_decide_eq_false hc3; omega
        rw [hge, List.take_length] at i6
        have hlk : (Cv.cpt l).length = kw := by rw [← i6, List.length_take]; omega
        have hkw : kw < l.length := by omega
        rw [hlk]
        refine Need.mk (by refine ⟨?_, ?_, ?_⟩ <;> (try simp only) <;> omega) ?_
        refine GenN.mk fun w4 h4 => ?_
        have hO4 := i7.below h4.go
        have g4 : w.grownBy w4 (some g) := grown_below i9 h4.go
        have b4 : Below B w w4 := i8.trans (h4.go.mono (Nat.le_trans hB i8.size))
        obtain ⟨_, _, hgl4, cur, hc4, _, _, hs4, _⟩ := hO4.at0
        have hroom : kw * size Zn + (l.length - kw) * size Zn ≤ cur.size := by
          rw [hs4, ← Nat.add_mul]; exact Nat.mul_le_mul_right _ (by omega)
        obtain ⟨vs, hvl, hrun⟩ := run_clear (P := Try.prog) (c := cap - kw) elDZ.ht tyDZ (by decide) (o := kw * size Zn) (n := l.length - kw) hc4 hroom (by omega)
        have hvl' : vs.length = (l.length - kw) * size Zn := hvl
        refine ⟨_, _, hrun _ _ _ ?_, ⟨below_setRow (Below.refl _ _) hg _, fun b hb => by cases hb⟩, ?_⟩
        · show Value.slice (if cap = _ then _ else _) _ _ = _
          rw [if_neg (by simp only [Int.toNat_natCast]; omega)]
          simp only [Int.toNat_natCast, Option.map_some, addr_addL, Nat.zero_add, Value.slice.injEq, true_and]
          exact ⟨rfl, trivial⟩
        have hml : (m.take kw).length = kw := by rw [List.length_take]; omega
        have hO4' := hO4
        rw [← i4] at hO4'
        have hOt := hO4'.take kw (by omega)
        rw [i6] at hOt
        refine Need.mk (by refine ⟨?_, ?_, ?_⟩ <;> (try simp only) <;> omega) ?_
        refine EndI.mk fun w5 h5 => ?_
        refine ⟨rfl, (hOt.setRow hc4 _ vs (by rw [hlk]; exact Nat.le_refl _) (by rw [hvl']; exact hroom)).below h5.go, ?_⟩
        exact grown_below (grown_trans g4 (grown_setRow w4 g _)) h5.go
    · have hxy : x ≠ y := by simpa using hc2
      refine Need.mk (by simp only [inK]; omega) (EndI.mk fun w9 h9 => ⟨(k + 1, w9), Cov.mk (by repeat' (first | exact trivial | refine And.intro rfl ?_)) rfl rfl rfl rfl rfl, rfl, ⟨hlt, hV3.trans (h9.go.mono hV3.size), fun j x' y' hj hy' hx' => ?_⟩, by simp only; omega⟩)
      by_cases hjk : j = k
      · subst hjk; rw [hy] at hy'; rw [hx] at hx'; injection hy' with e1; injection hx' with e2; subst e1; subst e2; exact hxy
      · exact hall j x' y' (by omega) hy' hx'
  · have hge : k + 1 = l.length := by simp only at hc; have := of_decide_eq_false hc; omega
    have hall' : Cv.cpt l = l := Cv.cpt_all fun j x y hy hx => hall j x y (by have := (List.getElem?_eq_some_iff.1 hx).1; omega) hy hx
    rw [hall']
    refine EndI.mk fun w9 h9 => ?_
    have h9' : Below w.heap.size w w9 := hV.trans (h9.go.mono hV.size)
    exact ⟨rfl, hO.below h9', below_grown h9' _⟩
end Go.Proofs.Ythajkhbeehiepaa

/-
  The contract of cover.Prune, by the engine.
-/
namespace Go.Proofs.Ythajkhbeehiepaa
set_option linter.unusedVariables false
set_option linter.unusedSimpArgs false
set_option maxRecDepth 100000
open Go.RowKit Go.Proofs.Ythajkhbeehiepaa.Eng Enc

theorem compactZ_own (l : List Zn) (v : Value) (base B : Nat) (w : World) (hB : B ≤ w.heap.size) (hBb : B ≤ base) (hO : Own 37 base w v l) (hlen : l.length ≤ 1000000) :
    Calls Try.prog 35 #[v] w fun e w' => ∃ v', e = .returned v' ∧ Below B w w' ∧ Own 37 base w' v' (Cv.cpt l) ∧ w.grownBy w' v.ownBlock := by
  have hl1 : l.length < 2 → Cv.cpt l = l := fun h => Cv.cpt_all fun j x y hy hx => by have := (List.getElem?_eq_some_iff.1 hx).1; omega
  obtain ⟨a, c, rfl⟩ := hO.form
  by_cases h2 : l.length < 2
  · refine (compactZ_few (.slice a l.length c) l a c h2 w).mono ?_
    rintro e w' ⟨rfl, hB'⟩
    exact ⟨_, rfl, hB'.mono hB, by rw [hl1 h2]; exact hO.below hB', below_grown hB' _⟩
  · obtain ⟨_, ⟨e, h0⟩ | ⟨g, cap, cur, e, hbg, _⟩⟩ := id hO
    · omega
    injection e with e1 e2 e3
    subst e1; subst e3
    refine (compactZ_any l g c base (by omega) B w hB (by omega) hO hlen).mono ?_
    rintro e w' ⟨v, rfl, hB', rfl, hO', hg⟩
    exact ⟨_, rfl, hB', hO', hg⟩
theorem prune_any (l : List Zn) (a : Option Addr) (cap : Nat) (w : World) (hS : Sl w.heap.size w (.slice a l.length cap) l) :
    Calls Try.prog 18 #[.slice a l.length cap] w (Ret w fun v w' => ∃ a' c', v = .tuple #[.slice a' (Cv.prune l).1.length c', .int .i64 (Cv.prune l).2] ∧ Own 37 w.heap.size w' (.slice a' (Cv.prune l).1.length c') (Cv.prune l).1) := by
  refine fun_ret 9 w Try.func18 (args := [.val (.slice a l.length cap)]) rfl rfl ?_
  refine NewI.mk fun b2 hb2 => ?_
  apply CallI.use1
  · exact fun w1 h1 => checked_any [⟨a, l.length, cap⟩] [l] _ _ w1 (shown_one (hS.go h1.below h1.below.size) rfl) (Sl.own (l := [(⟨a, l.length, cap⟩ : Svl)]) h1 0 rfl rfl rfl (Nat.le_refl _) (by simp [maxLen]))
  intro w1 v1 h1 hB1
  have hv1 : Below w.heap.size w v1 := h1.below.trans (hB1.mono h1.below.size)
  unfold Cv.prune
  refine Branch.mk (fun hc => ?_) (fun hc => ?_)
  · have h0 : Cv.checked [l] ≠ 0 := by simpa using hc
    rw [if_pos h0]
    exact EndI.mk fun w3 h3 => ⟨_, _, rfl, Own.nil⟩
  have h0 : Cv.checked [l] = 0 := by simpa using hc
  rw [if_neg (by simp [h0])]
  obtain ⟨hl4, _⟩ := Cv.checked_one.1 h0
  apply CallI.mk
  intro w3 h3
  refine (callsIn_wide.1 (valuesZ_in 9 a l.length cap w3)).mono ?_
  rintro e w4 ⟨rfl, rfl⟩
  have hB4 : Below w3.heap.size w3 (w3.alloc (.cells #[.slice a l.length cap] 43)) := below_al (Below.refl _ _)
  refine ⟨h3.keep hB4, _, rfl, ?_⟩
  have hBs : (w3.alloc (.cells #[.slice a l.length cap] 43)).cell? ⟨w3.heap.size, 0, none⟩ = some (.slice a l.length cap) := by simp
  have hsz : w3.heap.size < (w3.alloc (.cells #[.slice a l.length cap] 43)).heap.size := by simp
  have hw3 : Below w.heap.size w w3 := h3.below
  have hw4 := hw3.trans (hB4.mono hw3.size)
  have hb3 := h3.lt b2 (by simp)
  have hw3s := hw3.size
  generalize w3.alloc (.cells #[.slice a l.length cap] 43) = w4 at hBs hsz hw4 hB4
  generalize hgs : w3.heap.size = Bs at hBs hsz hb3 hw3s
  refine CallI.mk fun w5 h5 => ?_
  have hg5 : Below w4.heap.size w4 w5 := at_below h5 (by simp)
  have hw5 := hw4.trans (hg5.mono hw4.size)
  refine (sortedZ_any Bs a cap l (by omega) w5 ((hg5.cell (p := ⟨Bs, 0, none⟩) hsz).trans hBs) (hS.go hw5 hw5.size)).mono ?_
  rintro e w6 ⟨v6, rfl, hB6, hO6⟩
  refine ⟨⟨hB6.mono hw3s, fun b hb => hB6.block b (by simp at hb; subst hb; exact hb3)⟩, _, rfl, ?_⟩
  have hw6 := hw5.trans (hB6.mono hw3s)
  have hg5s := hg5.size
  have hl6 : (Zo.sort l).length = l.length := Zo.sort_len l
  obtain ⟨a6, c6, rfl⟩ := hO6.form
  refine CallI.mk fun w7 h7 => ?_
  have hg7 : Below w6.heap.size w6 w7 := at_below h7 (by simp)
  refine (compactZ_own (Zo.sort l) _ w5.heap.size w5.heap.size w7 (Nat.le_trans hB6.size hg7.size) (Nat.le_refl _) (hO6.below hg7) (by omega)).mono ?_
  rintro e w8 ⟨v8, rfl, hB8, hO8, hg8⟩
  refine ⟨⟨hB8.mono hw5.size, fun b hb => hB8.block b (by simp at hb; subst hb; omega)⟩, _, rfl, ?_⟩
  have hw7 := hw6.trans (hg7.mono hw6.size)
  have hw8 := hw7.trans (hB8.mono hw5.size)
  change Own 37 w5.heap.size w8 v8 (Cv.sorted l) at hO8
  have hls : (Cv.sorted l).length ≤ l.length := Cv.sorted_len l
  obtain ⟨a8, c8, rfl⟩ := hO8.form
  generalize hso : Cv.sorted l = so at hO8 hls ⊢
  refine Need.mk (by simp only [inK]; omega) ?_
  refine LoopI.invC (α := Int × Value × List Zn × World) (fun y => [(6, .val (.int .i64 y.1)), (5, .val y.2.1)]) (fun y => y.2.2.2)
    (fun y => -1 ≤ y.1 ∧ y.1 < y.2.2.1.length ∧ y.2.2.1.length ≤ 4096 ∧ Own 37 w.heap.size y.2.2.2 y.2.1 y.2.2.1 ∧ Below w.heap.size w y.2.2.2 ∧ Cv.pgo so.length so = Cv.pgo (y.1 + 1).toNat y.2.2.1) (fun y => (y.1 + 1).toNat) ?_ ?_
  · intro w9 h9
    have hg9 : Below w8.heap.size w8 w9 := at_below h9 (by simp)
    exact ⟨((so.length : Int) - 1, .slice a8 so.length c8, so, w9), Cov.mk (by repeat' (first | exact trivial | refine And.intro rfl ?_)) rfl rfl rfl rfl rfl, rfl, by show -1 ≤ (so.length : Int) - 1; omega, by show (so.length : Int) - 1 < so.length; omega, by show so.length ≤ 4096; omega, (hO8.below hg9).lower hw5.size, hw8.trans (hg9.mono hw8.size), by show _ = Cv.pgo ((so.length : Int) - 1 + 1).toNat so; rw [show ((so.length : Int) - 1 + 1).toNat = so.length by omega]⟩
  rintro ⟨t, ov, out, U⟩ ⟨i1, i2, i3, i4, i5, i6⟩
  simp only at i1 i2 i3 i4 i5 i6
  obtain ⟨ao, co, rfl⟩ := i4.form
  refine Branch.mk (fun hc2 => ?_) (fun hc2 => ?_)
  · have ht0 : 0 ≤ t := by simp only at hc2; exact of_decide_eq_true hc2
    obtain ⟨m, rfl⟩ : ∃ m : Nat, t = m := ⟨t.toNat, by omega⟩
    have hm : m < out.length := by omega
    have hgm := List.getElem?_eq_getElem (l := out) (i := m) hm
    generalize out[m] = z at hgm
    rw [show ((m : Int) + 1).toNat = m + 1 by omega, Cv.pgo_succ hgm] at i6
    apply CallI.use
    focus (exact fun w10 h10 => cloneZ_any out ao co w10 ((i4.sl).go h10.go h10.size) (by omega))
    rintro v w10 v10 h10 hB10 hO10
    have hg10 : Below U.heap.size U w10 := at_below h10 (by simp)
    have hU10 := i5.trans (hg10.mono i5.size)
    obtain ⟨ag, cg, rfl⟩ := hO10.form
    obtain ⟨g, rfl⟩ : ∃ g, ag = some ⟨g, 0, none⟩ := by
      obtain ⟨_, ⟨e, h0⟩ | ⟨g, cap, cur, e, _⟩⟩ := id hO10
      · omega
      · injection e with e1 e2 e3; exact ⟨g, e1⟩
    have hgb := (hO10.lt g rfl).1
    refine Need.mk (by simp only [inK]; omega) ?_
    refine CallI.mk fun w11 h11 => ?_
    have hg11 : Below v10.heap.size v10 w11 := at_below h11 (by simp)
    refine (deleteZ_any out g cg w10.heap.size m (m + 1) _ rfl (by omega) (by omega) w10.heap.size w11 (Nat.le_trans hB10.size hg11.size) hgb (hO10.below hg11) (by omega)).mono ?_
    rintro e w12 ⟨v, rfl, hB12, rfl, hO12, _⟩
    refine ⟨⟨hB12.mono hU10.size, fun b hb => hB12.block b (by have := h10.lt b hb; exact this)⟩, _, rfl, ?_⟩
    have hU12 := (hU10.trans (hB10.mono hU10.size)).trans (hg11.mono (Nat.le_trans hU10.size hB10.size)) |>.trans (hB12.mono hU10.size)
    have hel : (out.take m ++ out.drop (m + 1)) = out.eraseIdx m := (List.eraseIdx_eq_take_drop_succ out m).symm
    have hell : m + (out.length - (m + 1)) = (out.eraseIdx m).length := by rw [List.length_eraseIdx, if_pos hm]; omega
    rw [hel, hell] at hO12
    rw [hell]
    have hUU : Below U.heap.size U w12 := ((hg10.trans (hB10.mono hg10.size)).trans (hg11.mono (Nat.le_trans hg10.size hB10.size))).trans (hB12.mono hg10.size)
    have j4 := i4.below hUU
    refine (j4.sl).idx hgm fun ad had => ?_
    refine (j4.sl).ld hgm had (Below.refl _ _) (by simp) ?_
    apply CallI.use1
    focus (exact fun w13 h13 => cin_any z (out.eraseIdx m) (some ⟨g, 0, none⟩) cg w13 ((hO12.below (at_below h13 (by simp))).sl))
    intro w13 v13 h13 hB13
    have hg13 : Below w12.heap.size w12 w13 := at_below h13 (by simp)
    have hU13 : Below w12.heap.size w12 v13 := hg13.trans (hB13.mono hg13.size)
    generalize hI : Cv.in_ z (out.eraseIdx m) = I at *
    obtain ⟨is, e⟩ := I
    simp only at i6
    refine Branch.mk (fun hc3 => ?_) (fun hc3 => ?_)
    · have he : e ≠ 0 := by simpa using hc3
      rw [if_pos he] at i6
      rw [i6]
      exact EndI.mk fun w9 h9 => ⟨_, _, rfl, Own.nil⟩
    have he : e = 0 := by simpa using hc3
    subst he
    rw [if_neg (by simp)] at i6
    refine Branch.mk (fun hc4 => ?_) (fun hc4 => ?_)
    · have his : is = true := by simpa using hc4
      subst his
      rw [if_pos rfl] at i6
      refine Need.mk (by simp only [inK]; omega) (EndI.mk fun w9 h9 => ⟨((m : Int) - 1, .slice (some ⟨g, 0, none⟩) (out.eraseIdx m).length cg, out.eraseIdx m, w9), Cov.mk (by repeat' (first | exact trivial | refine And.intro rfl ?_)) rfl rfl rfl rfl rfl, rfl, ?_, ?_⟩)
      · have hg9 : Below v13.heap.size v13 w9 := at_below h9 (by simp)
        have hle : (out.eraseIdx m).length = out.length - 1 := by rw [List.length_eraseIdx, if_pos hm]
        refine ⟨by simp only; omega, by simp only; omega, by simp only; omega, ?_, ?_, ?_⟩
        · exact ((hO12.below hU13).below hg9).lower hU10.size
        · exact (hU12.trans (hU13.mono hU12.size)).trans (hg9.mono (Nat.le_trans hU12.size hU13.size))
        · simp only; rw [i6, show ((m : Int) - 1 + 1).toNat = m by omega]
      · simp only; omega
    · have his : is = false := by simpa using hc4
      subst his
      rw [if_neg (by simp)] at i6
      refine Need.mk (by simp only [inK]; omega) (EndI.mk fun w9 h9 => ⟨((m : Int) - 1, .slice ao out.length co, out, w9), Cov.mk (by repeat' (first | exact trivial | refine And.intro rfl ?_)) rfl rfl rfl rfl rfl, rfl, ?_, ?_⟩)
      · have hg9 : Below v13.heap.size v13 w9 := at_below h9 (by simp)
        refine ⟨by simp only; omega, by simp only; omega, by simp only; omega, ?_, ?_, ?_⟩
        · exact (j4.below hU13).below hg9
        · exact (hU12.trans (hU13.mono hU12.size)).trans (hg9.mono (Nat.le_trans hU12.size hU13.size))
        · simp only; rw [i6, show ((m : Int) - 1 + 1).toNat = m by omega]
      · simp only; omega
  · have htm : t = -1 := by simp only at hc2; have := of_decide_eq_false hc2; omega
    subst htm
    have hp : Cv.pgo so.length so = (out, 0) := i6
    rw [hp]
    exact EndI.mk fun w9 h9 => ⟨_, _, rfl, i4.below (at_below h9 (by simp))⟩
end Go.Proofs.Ythajkhbeehiepaa

/-
  rallentandoref11.Same: whether two lists of zones are the same.
-/
namespace Go.Proofs.Ythajkhbeehiepaa
set_option linter.unusedVariables false
set_option linter.unusedSimpArgs false
set_option maxRecDepth 100000
open Go.RowKit Go.Proofs.Ythajkhbeehiepaa.Eng Enc

theorem same11_any (l m : List Zn) (a : Option Addr) (cap : Nat) (b : Option Addr) (cb : Nat) (w : World) (hS : Sl w.heap.size w (.slice a l.length cap) l) (hT : Sl w.heap.size w (.slice b m.length cb) m) :
    Calls Try.prog 19 #[.slice a l.length cap, .slice b m.length cb] w fun e w' => e = .returned (.bool (decide (l = m))) ∧ Below w.heap.size w w' := by
  refine fun_eq 0 w Try.func19 (args := [.val (.slice a l.length cap), .val (.slice b m.length cb)]) rfl rfl ?_
  obtain ⟨_, _, hfe, hcap1, hcap2, _⟩ := hS.form
  injection hfe with _ _ hfe
  subst hfe
  unfold maxLen at hcap2
  refine Branch.mk (fun hc => ?_) (fun hc => ?_)
  · have hne : l.length ≠ m.length := by have := of_decide_eq_true hc; omega
    refine EndI.mk fun w9 h9 => ?_
    rw [decide_eq_false (fun e => hne (by rw [e]))]
  have hlm : l.length = m.length := by have := of_decide_eq_false hc; omega
  refine LoopI.invC (α := Nat × World) (fun y => [(5, .val (.int .i64 y.1))]) (fun y => y.2) (fun y => y.1 ≤ l.length ∧ Below w.heap.size w y.2 ∧ l.take y.1 = m.take y.1) (fun y => l.length - y.1) ?_ ?_
  · intro w1 h1
    exact ⟨(0, w1), Cov.mk (by repeat' (first | exact trivial | refine And.intro rfl ?_)) rfl rfl rfl rfl rfl, rfl, Nat.zero_le _, h1.below, rfl⟩
  rintro ⟨k, V⟩ ⟨hk, hV, hall⟩
  simp only at hk hV hall
  refine Branch.mk (fun hc2 => ?_) (fun hc2 => ?_)
  · have hlt : k < l.length := by have := of_decide_eq_true hc2; simp only at this; omega
    have hx := List.getElem?_eq_getElem (l := l) (i := k) hlt
    have hy := List.getElem?_eq_getElem (l := m) (i := k) (by omega)
    generalize l[k] = x at hx
    generalize m[k]'(by omega) = y at hy
    refine DrawI.go (.tk 0 (.tk 1 (.tk 2 (.tk 3 (.tk 4 (.tk 5 (.tk 6 (.tk 7 (.ev 8 .done))))))))) (by kernel_rfl) fun w4 h4 => ?_
    have hg4 : Below V.heap.size V w4 := h4.go
    have hw4 := hV.trans (hg4.mono hV.size)
    have hS4 := hS.go hw4 hw4.size
    have hT4 := hT.go hw4 hw4.size
    refine hS4.idx hx fun ad had => ?_
    refine hS4.ld hx had (Below.refl _ _) (by simp) ?_
    refine hT4.idx hy fun ad2 had2 => ?_
    refine hT4.ld hy had2 (Below.refl _ _) (by simp) ?_
    refine GenV.to (x := .bool (decide (x ≠ y))) (fun w => run_neq_znG _ _ x y w) fun w5 h5 => ?_
    refine Branch.mk (fun hc3 => ?_) (fun hc3 => ?_)
    · have hne : x ≠ y := by simpa using hc3
      refine EndI.mk fun w9 h9 => ?_
      rw [decide_eq_false (fun e => hne (by rw [e, hy] at hx; injection hx with hx; exact hx.symm))]
    · have he : x = y := by simpa using hc3
      refine Need.mk (by simp only [inK]; omega) (EndI.mk fun w9 h9 => ⟨(k + 1, w9), Cov.mk (by repeat' (first | exact trivial | refine And.intro rfl ?_)) rfl rfl rfl rfl rfl, rfl, ⟨hlt, h9.below, ?_⟩, by simp only; omega⟩)
      simp only
      rw [List.take_add_one, List.take_add_one, hall, hx, hy, he]
  · have hge : k = l.length := by have := of_decide_eq_false hc2; simp only at this; omega
    subst hge
    rw [List.take_length, hlm, List.take_length] at hall
    refine EndI.mk fun w9 h9 => ?_
    rw [decide_eq_true hall]
end Go.Proofs.Ythajkhbeehiepaa

/-
  The walk of rallentandolaw12.CoverOrder, by the engine.
-/
namespace Go.Proofs.Ythajkhbeehiepaa
set_option linter.unusedVariables false
set_option linter.unusedSimpArgs false
set_option maxRecDepth 100000
open Go.RowKit Go.Proofs.Ythajkhbeehiepaa.Eng Enc

theorem coverOrder_walk (l : List Zn) (at_ : Int) (hat : 0 ≤ at_ ∧ at_ ≤ 255) (a : Option Addr) (cap : Nat) (w : World) (hS : Sl w.heap.size w (.slice a l.length cap) l) :
    Calls Try.prog 6 #[.slice a l.length cap, .int .u8 at_] w fun e w' => e = .returned (.bool true) ∧ Below w.heap.size w w' := by
  refine fun_eq 0 w Try.func6 (args := [.val (.slice a l.length cap), .val (.int .u8 at_)]) rfl rfl ?_
  refine CallI.to1 alive12_any fun w1 => ?_
  refine Branch.mk (fun hc => ?_) (fun hc => ?_)
  · repeat' (first
    | (refine Branch.yes rfl ?_)
    | (refine Branch.no rfl ?_)
    | (refine Branch.mk (fun hb => ?_) (fun hb => ?_))
    | (refine NewI.mk fun nb hnb => ?_)
    | (refine Need.mk (by show _ ∧ _; omega) ?_)
    | (refine Need.mk (by omega) ?_)
    | (refine Need.mk ?_ ?_)
    | (refine EndI.mk fun w1 h1 => ?_))
    all_goals rfl
  have h0 : l.length ≠ 0 := by have := of_decide_eq_false hc; omega
  refine Branch.mk (fun hc2 => ?_) (fun hc2 => ?_)
  · repeat' (first
    | (refine Branch.yes rfl ?_)
    | (refine Branch.no rfl ?_)
    | (refine Branch.mk (fun hb => ?_) (fun hb => ?_))
    | (refine NewI.mk fun nb hnb => ?_)
    | (refine Need.mk (by show _ ∧ _; omega) ?_)
    | (refine Need.mk (by omega) ?_)
    | (refine Need.mk ?_ ?_)
    | (refine EndI.mk fun w1 h1 => ?_))
    all_goals rfl
  have h6 : l.length ≤ 6 := by have := of_decide_eq_false hc2; omega
  refine Branch.no rfl ?_
  refine Need.mk (by simp only [inK]; omega) ?_
  refine Need.mk (by omega) ?_
  obtain ⟨k, hk, hkl⟩ : ∃ k : Nat, at_.tmod l.length = k ∧ k < l.length := by
    refine ⟨(at_.tmod l.length).toNat, ?_, ?_⟩
    · have := Int.tmod_nonneg (l.length : Int) hat.1; omega
    · have := Int.tmod_lt_of_pos at_ (show (0 : Int) < l.length by omega); have h1 := Int.tmod_nonneg (l.length : Int) hat.1; omega
  conv => whnf
  rw [hk]
  obtain ⟨_, _, hfe, hcap1, hcap2, _⟩ := hS.form
  injection hfe with _ _ hfe
  subst hfe
  unfold maxLen at hcap2
  refine Need.mk ⟨by omega, by omega, by omega⟩ ?_
  have hsub := hS.sub k l.length (by omega) (Nat.le_refl _)
  rw [List.take_of_length_le (by simp)] at hsub
  have hdl : (l.drop k).length = l.length - k := by simp
  refine GenN.app (α := Zn) elZ [] (l.drop k) w.heap.size (fun w5 h5 => Own.nil) (fun w5 h5 => (hsub.go h5.below h5.below.size).src) (by unfold maxLen; simp; omega) (by simp; omega) (fun w5 h5 => h5.below.size) (fun w5 w6 h5 hg => keep_grown h5 hg (fun k hk => by cases hk)) fun v1 w5 w6 h5 hg hO1 => ?_
  rw [List.nil_append] at hO1
  obtain ⟨a1, c1, rfl⟩ := hO1.form
  refine GenN.app (α := Zn) elZ (l.drop k) l w.heap.size (fun w7 h7 => hO1.below (at_below h7 (by simp))) (fun w7 h7 => (hS.go h7.below h7.below.size).src) (by unfold maxLen; simp; omega) (by simp; omega) (fun w7 h7 => h7.below.size) (fun w7 w8 h7 hg => keep_grown h7 hg (fun k hk => ⟨(hO1.lt k hk).1, by simp⟩)) fun v2 w7 w8 h7 hg7 hO2 => ?_
  obtain ⟨a2, c2, rfl⟩ := hO2.form
  apply CallI.use
  focus (exact fun w9 h9 => prune_any l a cap w9 (hS.go h9.below h9.below.size))
  rintro v w9 v9 h9 hB9 ⟨a3, c3, rfl, hO3⟩
  have hO2' : Own 37 w.heap.size v9 (.slice a2 (l.drop k ++ l).length c2) (l.drop k ++ l) := (hO2.below (at_below h9 (by simp))).below hB9
  apply CallI.use
  focus (exact fun w10 h10 => prune_any (l.drop k ++ l) a2 c2 w10 (hO2'.below (at_below h10 (by simp))).sl)
  rintro v w10 v10 h10 hB10 ⟨a4, c4, rfl, hO4⟩
  have hO3' : Own 37 w9.heap.size v10 (.slice a3 (Cv.prune l).1.length c3) (Cv.prune l).1 := (hO3.below (at_below h10 (by simp))).below hB10
  have heq : Cv.prune (l.drop k ++ l) = Cv.prune l := (Cv.prune_order (fun x => ⟨fun hx => List.mem_append.2 (.inr hx), fun hx => (List.mem_append.1 hx).elim (fun h => List.mem_of_mem_drop h) id⟩) (by omega) (by rw [List.length_append]; omega)).symm
  rw [heq] at hO4 ⊢
  refine Branch.yes (by simp) ?_
  apply CallI.use1
  focus (exact fun w11 h11 => same11_any (Cv.prune l).1 (Cv.prune l).1 a3 c3 a4 c4 w11 (hO3'.below (at_below h11 (by simp))).sl (hO4.below (at_below h11 (by simp))).sl)
  intro w11 v11 h11 hB11
  refine EndI.mk fun w12 h12 => ?_
  simp
end Go.Proofs.Ythajkhbeehiepaa

