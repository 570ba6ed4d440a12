/-
  Merged texts of this law (each with its own head below).
-/
import Derived.Test.YtanhnllkccldhaaGreatLTableAdds4
import Derived.Test.YtanhnllkccldhaaGreatLTableAdds3
import Derived.Maps.AppendAt
import Derived.Test.YtanhnllkccldhaaGreatLTableAdds1
namespace Go.Proofs.YtanhnllkccldhaaGreat
set_option linter.unusedVariables false
set_option linter.unusedSimpArgs false
set_option maxRecDepth 100000
section
open Go.RowKit Go.Proofs.YtanhnllkccldhaaGreat.Eng Enc
theorem compactZ_few (v : Value) (l : List Zn) (a : Option Addr) (cap : Nat) (hl : l.length < 2) (w : World) :
 Calls Tryz.prog 137 #[.slice a l.length cap] w fun e w' => e = .returned (.slice a l.length cap) /\ Below w.heap.size w w' := by
 refine fun_eq 0 w Tryz.func137 (args := [.val (.slice a l.length cap)]) rfl rfl ?_;refine Branch.yes (by simp; omega) ?_;exact EndI.mk fun w9 h9 => rfl
theorem compactZ_any (l : List Zn) (g cap base : Nat) (h2 : 2 <= l.length) (B : Nat) (w : World) (hB : B <= w.heap.size) (hg : B <= g) (hO : Own 86 base w (.slice (some ⟨g, 0, none⟩) l.length cap) l) (hlen : l.length <= 1000000) :
 Calls Tryz.prog 137 #[.slice (some ⟨g, 0, none⟩) l.length cap] w fun e w' => ∃ v, e = .returned v /\ Below B w w' /\ v = .slice (some ⟨g, 0, none⟩) (Cv.cpt l).length cap /\ Own 86 base w' (.slice (some ⟨g, 0, none⟩) (Cv.cpt l).length cap) (Cv.cpt l) /\ w.grownBy w' (some g) := by
 obtain ⟨_, hbg, hgl, cur0, _, hcap, hmax, _, _⟩ := hO.at0;have hm : cap <= 9223372036854775807 := by unfold maxLen at hmax; omega
 refine fun_at 0 B w hB Tryz.func137 (args := [.val (.slice (some ⟨g, 0, none⟩) l.length cap)]) rfl rfl ?_;refine Branch.no (by simp; omega) ?_;refine LoopI.invC (α := Nat × World) (fun y => [(3, .val (.int .i64 (y.1 + 1 : Nat)))]) (fun y => y.2) (fun y => y.1 + 1 <= l.length /\ Below w.heap.size w y.2 /\ ∀ j x y0, j < y.1 -> l[j]? = some y0 -> l[j + 1]? = some x -> x ≠ y0) (fun y => l.length - y.1) ?_ ?_
 ·intro w1 h1
  exact ⟨(0, w1), Cov.au rfl rfl rfl rfl rfl, rfl, by omega, h1.go, fun j x y hj => by omega⟩
 rintro ⟨k, V⟩ ⟨hk, hV, hall⟩;simp only at hk hV hall;refine Branch.mk (fun hc => ?_) (fun hc => ?_)
 ·have hlt : k + 1 < l.length := by simp only at hc; have := of_decide_eq_true hc; omega
  refine DrawI.go (.tk 0 (.tk 1 (.tk 2 (.tk 3 (.tk 4 (.tk 5 (.tk 6 (.tk 7 (.tk 8 (.ev 9 .done)))))))))) (by kernel_rfl) fun w2 h2 => ?_;have hV2 : Below w.heap.size w w2 := hV.trans (h2.go.mono hV.size);have hO2 := hO.below hV2;have hS2 := hO2.sl;have hx := List.getElem?_eq_getElem (l := l) (i := k + 1) hlt;have hy := List.getElem?_eq_getElem (l := l) (i := k) (by omega);generalize l[k + 1] = x at hx;generalize l[k]'(by omega) = y at hy;refine hS2.idx hx fun ad had => ?_;refine hS2.ld hx had (Below.refl _ _) (by simp) ?_;refine Need.ok ?_
  conv => whnf
  rw [show (((k + 1 : Nat) : Int) - 1) = ((k : Nat) : Int) by omega];refine hS2.idx hy fun ad2 had2 => ?_;refine hS2.ld hy had2 (Below.refl _ _) (by simp) ?_;refine GenV.to (x := .bool (decide (x = y))) (fun w => run_eql_znG _ _ x y w) fun w3 h3 => ?_;have hV3 : Below w.heap.size w w3 := hV2.trans (h3.go.mono hV2.size);refine Branch.mk (fun hc2 => ?_) (fun hc2 => ?_)
  ·have hxy : x = y := by simpa using hc2
   have hnd : Cv.cpt (l.take (k + 2)) = l.take (k + 1) := by
    rw [Cv.cpt_step hy hx, if_pos hxy];refine Cv.cpt_all fun j x y hy hx => ?_;rw [List.getElem?_take] at hy hx;split at hx
    ·rename_i hj
     rw [if_pos (by omega)] at hy;exact hall j x y (by omega) hy hx
    ·cases hx
   refine Need.mk ⟨by omega, by omega, by omega⟩ ?_
   refine LoopI.invC (α := (Nat × Nat × List Zn) × World) (fun y => [(3, .val (.int .i64 (y.1.1 : Nat))), (5, .val (.int .i64 (y.1.2.1 + 1 : Nat)))]) (fun y => y.2)
    (fun y => k + 1 + y.1.2.1 + 1 <= l.length /\ y.1.1 <= k + 1 + y.1.2.1 /\ 1 <= y.1.1 /\ y.1.2.2.length = l.length /\ (∀ j, k + 1 + y.1.2.1 <= j -> y.1.2.2[j]? = l[j]?) /\ y.1.2.2.take y.1.1 = Cv.cpt (l.take (k + 1 + y.1.2.1 + 1)) /\ Own 86 base y.2 (.slice (some ⟨g, 0, none⟩) l.length cap) y.1.2.2 /\ Below B w y.2 /\ w.grownBy y.2 (some g)) (fun y => l.length - y.1.2.1) ?_ ?_
   ·intro w4 h4
    have h4' : Below w.heap.size w w4 := hV3.trans (h4.go.mono hV3.size);exact ⟨((k + 1, 0, l), w4), Cov.au rfl rfl rfl rfl rfl, rfl, ⟨by show k + 1 + 0 + 1 <= l.length; omega, by show k + 1 <= k + 1 + 0; omega, by show 1 <= k + 1; omega, rfl, fun _ _ => rfl, hnd.symm, hO.below h4', h4'.mono hB, below_grown h4' _⟩⟩
   rintro ⟨⟨kw, q, m⟩, U⟩ ⟨i1, i2, i3, i4, i5, i6, i7, i8, i9⟩;simp only at i1 i2 i3 i4 i5 i6 i7 i8 i9;refine Branch.mk (fun hc3 => ?_) (fun hc3 => ?_)
   ·have hlt2 : k + 1 + q + 1 < l.length := by simp only at hc3; have := of_decide_eq_true hc3; omega
    refine DrawI.go (.tk 0 (.tk 1 (.tk 2 (.tk 3 (.tk 4 (.tk 5 (.tk 6 (.tk 7 (.tk 8 (.ev 9 .done)))))))))) (by kernel_rfl) fun w5 h5 => ?_;have hg5 : Below U.heap.size U w5 := h5.go;have j7 := i7.below hg5;have hT := fun (X : World) (hX : Own 86 base X (.slice (some ⟨g, 0, none⟩) l.length cap) m) => (hX.sl).sub (k + 1) l.length (by omega) (by omega);have eT : ∀ j z, m[k + 1 + j]? = some z -> ((m.drop (k + 1)).take (l.length - (k + 1)))[j]? = some z := fun j z hz => by
     have := (List.getElem?_eq_some_iff.1 hz).1;rw [List.getElem?_take, if_pos (by omega), List.getElem?_drop]; exact hz
    have hx1 := List.getElem?_eq_getElem (l := l) (i := k + 1 + (q + 1)) (by omega);have hy1 := List.getElem?_eq_getElem (l := l) (i := k + 1 + q) (by omega);generalize l[k + 1 + (q + 1)]'(by omega) = x1 at hx1;generalize l[k + 1 + q]'(by omega) = y1 at hy1;have hS5 := hT w5 j7;refine hS5.idx (eT (q + 1) x1 ((i5 _ (by omega)).trans hx1)) fun ad3 had3 => ?_;refine hS5.ld (eT (q + 1) x1 ((i5 _ (by omega)).trans hx1)) had3 (Below.refl _ _) (by simp) ?_;refine Need.ok ?_
    conv => whnf
    rw [show (((q + 1 : Nat) : Int) - 1) = ((q : Nat) : Int) by omega];refine hS5.idx (eT q y1 ((i5 _ (by omega)).trans hy1)) fun ad4 had4 => ?_;refine hS5.ld (eT q y1 ((i5 _ (by omega)).trans hy1)) had4 (Below.refl _ _) (by simp) ?_;refine GenV.to (x := .bool (decide (x1 ≠ y1))) (fun w => run_neq_znG _ _ x1 y1 w) fun w6 h6 => ?_;have hg6 : Below w5.heap.size w5 w6 := h6.go;have j8 := j7.below hg6;have hcp := Cv.cpt_step (l := l) (k := k + 1 + q) hy1 (by rw [Nat.add_assoc]; exact hx1);have hU6 : Below U.heap.size U w6 := hg5.trans (hg6.mono hg5.size);have hUs : B <= U.heap.size := Nat.le_trans hB i8.size;refine Branch.mk (fun hc4 => ?_) (fun hc4 => ?_)
    ·have hne : x1 ≠ y1 := by simpa using hc4
     rw [if_neg hne] at hcp;have hS6 := hT w6 j8;refine hS6.idx (eT (q + 1) x1 ((i5 _ (by omega)).trans hx1)) fun ad5 had5 => ?_;refine hS6.ld (eT (q + 1) x1 ((i5 _ (by omega)).trans hx1)) had5 (Below.refl _ _) (by simp) ?_;have hmk := List.getElem?_eq_getElem (l := m) (i := kw) (by omega);refine (j8.sl).idx hmk fun ad6 had6 => ?_;injection had6 with had6; subst had6;refine Need.mk rfl ?_;refine ⟨fun w7 h7 => ?_⟩;have hg7 : Below w6.heap.size w6 w7 := h7.go;have j9 := j8.below hg7;obtain ⟨_, _, _, cur, hcur, _, _, hcs, _⟩ := j9.at0;have eo : (⟨g, 0, none⟩ : Addr).add ((kw : Int).toNat * 6) = ⟨g, kw * 6, none⟩ := by rw [addr_addL, Nat.zero_add, Int.toNat_natCast]
     have hset := j9.set hcur kw (by omega) x1;have hU7 : Below U.heap.size U w7 := hU6.trans (hg7.mono hU6.size);refine ⟨g, kw * 6, cur, _, eo, hcur, ?_, ⟨below_setRow (Below.refl _ _) hg _, fun b hb => by cases hb⟩, ?_⟩
     ·have := Nat.mul_le_mul_right 6 (show kw + 1 <= cap by omega)
      have hcs' : cur.size = cap * 6 := hcs;show kw * 6 + 6 <= cur.size;omega
     have hg8 : w.grownBy (w7.setRow g (cur.toList.take (kw * size Zn) ++ enc x1 ++ cur.toList.drop (kw * size Zn + (enc x1).length)).toArray) (some g) := grown_trans (grown_below i9 hU7) (grown_setRow _ _ _);have hb8 : Below B w (w7.setRow g (cur.toList.take (kw * size Zn) ++ enc x1 ++ cur.toList.drop (kw * size Zn + (enc x1).length)).toArray) := below_setRow (i8.trans (hU7.mono hUs)) hg _;refine Need.ok ?_;refine Need.ok (EndI.mk fun w9 h9 => ⟨((kw + 1, q + 1, m.set kw x1), w9), Cov.au rfl rfl rfl rfl rfl, rfl, ?_, by simp only; omega⟩);have h9g := h9.go;refine ⟨by simp only; omega, by simp only; omega, by simp only; omega, by simp only [List.length_set]; exact i4, fun j hj => ?_, ?_, hset.below h9g, hb8.trans (h9g.mono (Nat.le_trans hB hb8.size)), grown_below hg8 h9g⟩
     ·simp only at hj ⊢
      rw [List.getElem?_set_ne (by omega)]; exact i5 j (by omega)
     ·simp only
      rw [<- Nat.add_assoc, hcp, <- i6, List.take_add_one, List.getElem?_set_self (by omega), List.take_set_of_le (by omega)]; rfl
    ·have heq : x1 = y1 := by simpa using hc4
     rw [if_pos heq] at hcp;refine Need.ok (EndI.mk fun w9 h9 => ⟨((kw, q + 1, m), w9), Cov.au rfl rfl rfl rfl rfl, rfl, ?_, by simp only; omega⟩);have hU9 : Below U.heap.size U w9 := hU6.trans (h9.go.mono hU6.size);exact ⟨by simp only; omega, by simp only; omega, i3, i4, fun j hj => i5 j (by simp only at hj; omega), by simp only; rw [i6, <- Nat.add_assoc, hcp], i7.below hU9, i8.trans (hU9.mono hUs), grown_below i9 hU9⟩
   ·have hge : k + 1 + q + 1 = l.length := by simp only at hc3; have := of_decide_eq_false hc3; omega
    rw [hge, List.take_length] at i6;have hlk : (Cv.cpt l).length = kw := by rw [<- i6, List.length_take]; omega
    have hkw : kw < l.length := by omega
    rw [hlk];refine Need.mk (by refine ⟨?_, ?_, ?_⟩ <;> (try simp only) <;> omega) ?_;refine GenN.mk fun w4 h4 => ?_;have hO4 := i7.below h4.go;have g4 : w.grownBy w4 (some g) := grown_below i9 h4.go;have b4 : Below B w w4 := i8.trans (h4.go.mono (Nat.le_trans hB i8.size));obtain ⟨_, _, hgl4, cur, hc4, _, _, hs4, _⟩ := hO4.at0;have hroom : kw * size Zn + (l.length - kw) * size Zn <= cur.size := by
     rw [hs4, <- Nat.add_mul]; exact Nat.mul_le_mul_right _ (by omega)
    obtain ⟨vs, hvl, hrun⟩ := run_clear (P := Tryz.prog) (c := cap - kw) elDZ.ht tyDZ (by decide) (o := kw * size Zn) (n := l.length - kw) hc4 hroom (by omega);have hvl' : vs.length = (l.length - kw) * size Zn := hvl;refine ⟨_, _, hrun _ _ _ ?_, ⟨below_setRow (Below.refl _ _) hg _, fun b hb => by cases hb⟩, ?_⟩
    ·show Value.slice (if cap = _ then _ else _) _ _ = _
     rw [if_neg (by simp only [Int.toNat_natCast]; omega)];simp only [Int.toNat_natCast, Option.map_some, addr_addL, Nat.zero_add, Value.slice.injEq, true_and];exact ⟨rfl, trivial⟩
    have hml : (m.take kw).length = kw := by rw [List.length_take]; omega
    have hO4' := hO4;rw [<- i4] at hO4';have hOt := hO4'.take kw (by omega);rw [i6] at hOt;refine Need.mk (by refine ⟨?_, ?_, ?_⟩ <;> (try simp only) <;> omega) ?_;refine EndI.mk fun w5 h5 => ?_;refine ⟨rfl, (hOt.setRow hc4 _ vs (by rw [hlk]; exact Nat.le_refl _) (by rw [hvl']; exact hroom)).below h5.go, ?_⟩;exact grown_below (grown_trans g4 (grown_setRow w4 g _)) h5.go
  ·have hxy : x ≠ y := by simpa using hc2
   refine Need.ok (EndI.mk fun w9 h9 => ⟨(k + 1, w9), Cov.au rfl rfl rfl rfl rfl, rfl, ⟨hlt, hV3.trans (h9.go.mono hV3.size), fun j x' y' hj hy' hx' => ?_⟩, by simp only; omega⟩)
   by_cases hjk : j = k
   ·subst hjk; rw [hy] at hy'; rw [hx] at hx'; injection hy' with e1; injection hx' with e2; subst e1; subst e2; exact hxy
   ·exact hall j x' y' (by omega) hy' hx'
 ·have hge : k + 1 = l.length := by simp only at hc; have := of_decide_eq_false hc; omega
  have hall' : Cv.cpt l = l := Cv.cpt_all fun j x y hy hx => hall j x y (by have := (List.getElem?_eq_some_iff.1 hx).1; omega) hy hx;rw [hall'];refine EndI.mk fun w9 h9 => ?_;have h9' : Below w.heap.size w w9 := hV.trans (h9.go.mono hV.size);exact ⟨rfl, hO.below h9', below_grown h9' _⟩
theorem compactZ_own (l : List Zn) (v : Value) (base B : Nat) (w : World) (hB : B <= w.heap.size) (hBb : B <= base) (hO : Own 86 base w v l) (hlen : l.length <= 1000000) :
 Calls Tryz.prog 137 #[v] w fun e w' => ∃ v', e = .returned v' /\ Below B w w' /\ Own 86 base w' v' (Cv.cpt l) /\ w.grownBy w' v.ownBlock := by
 have hl1 : l.length < 2 -> Cv.cpt l = l := fun h => Cv.cpt_all fun j x y hy hx => by have := (List.getElem?_eq_some_iff.1 hx).1; omega
 obtain ⟨a, c, rfl⟩ := hO.form
 by_cases h2 : l.length < 2
 ·refine (compactZ_few (.slice a l.length c) l a c h2 w).mono ?_
  rintro e w' ⟨rfl, hB'⟩;exact ⟨_, rfl, hB'.mono hB, by rw [hl1 h2]; exact hO.below hB', below_grown hB' _⟩
 ·obtain ⟨_, ⟨e, h0⟩ | ⟨g, cap, cur, e, hbg, _⟩⟩ := id hO
  ·omega
  injection e with e1 e2 e3;subst e1; subst e3;refine (compactZ_any l g c base (by omega) B w hB (by omega) hO hlen).mono ?_;rintro e w' ⟨v, rfl, hB', rfl, hO', hg⟩;exact ⟨_, rfl, hB', hO', hg⟩
theorem prune_any (l : List Zn) (a : Option Addr) (cap : Nat) (w : World) (hS : Sl w.heap.size w (.slice a l.length cap) l) :
 Calls Tryz.prog 94 #[.slice a l.length cap] w (Ret w fun v w' => ∃ a' c', v = .tuple #[.slice a' (Cv.prune l).1.length c', .int .i64 (Cv.prune l).2] /\ Own 86 w.heap.size w' (.slice a' (Cv.prune l).1.length c') (Cv.prune l).1) := by
 refine fun_ret 9 w Tryz.func94 (args := [.val (.slice a l.length cap)]) rfl rfl ?_;refine NewI.mk fun b2 hb2 => ?_;apply CallI.use1
 ·exact fun w1 h1 => checked_any [⟨a, l.length, cap⟩] [l] _ _ w1 (shown_one (hS.go h1.below h1.below.size) rfl) (Sl.own (l := [(⟨a, l.length, cap⟩ : Svl)]) h1 0 rfl rfl rfl (Nat.le_refl _) (by simp [maxLen]))
 intro w1 v1 h1 hB1;have hv1 : Below w.heap.size w v1 := h1.below.trans (hB1.mono h1.below.size);unfold Cv.prune;refine Branch.mk (fun hc => ?_) (fun hc => ?_)
 ·have h0 : Cv.checked [l] ≠ 0 := by simpa using hc
  rw [if_pos h0];exact EndI.mk fun w3 h3 => ⟨_, _, rfl, Own.nil⟩
 have h0 : Cv.checked [l] = 0 := by simpa using hc
 rw [if_neg (by simp [h0])];obtain ⟨hl4, _⟩ := Cv.checked_one.1 h0;apply CallI.mk;intro w3 h3;refine (callsIn_wide.1 (valuesZ_in 9 a l.length cap w3)).mono ?_;rintro e w4 ⟨rfl, rfl⟩;have hB4 : Below w3.heap.size w3 (w3.alloc (.cells #[.slice a l.length cap] 22)) := below_al (Below.refl _ _);refine ⟨h3.keep hB4, _, rfl, ?_⟩;have hBs : (w3.alloc (.cells #[.slice a l.length cap] 22)).cell? ⟨w3.heap.size, 0, none⟩ = some (.slice a l.length cap) := by simp
 have hsz : w3.heap.size < (w3.alloc (.cells #[.slice a l.length cap] 22)).heap.size := by simp
 have hw3 : Below w.heap.size w w3 := h3.below;have hw4 := hw3.trans (hB4.mono hw3.size);have hb3 := h3.lt b2 (by simp);have hw3s := hw3.size;generalize w3.alloc (.cells #[.slice a l.length cap] 22) = w4 at hBs hsz hw4 hB4;generalize hgs : w3.heap.size = Bs at hBs hsz hb3 hw3s;refine CallI.mk fun w5 h5 => ?_;have hg5 : Below w4.heap.size w4 w5 := at_below h5 (by simp);have hw5 := hw4.trans (hg5.mono hw4.size);refine (sortedZ_any Bs a cap l (by omega) w5 ((hg5.cell (p := ⟨Bs, 0, none⟩) hsz).trans hBs) (hS.go hw5 hw5.size)).mono ?_;rintro e w6 ⟨v6, rfl, hB6, hO6⟩;refine ⟨⟨hB6.mono hw3s, fun b hb => hB6.block b (by simp at hb; subst hb; exact hb3)⟩, _, rfl, ?_⟩;have hw6 := hw5.trans (hB6.mono hw3s);have hg5s := hg5.size;have hl6 : (Zo.sort l).length = l.length := Zo.sort_len l;obtain ⟨a6, c6, rfl⟩ := hO6.form;refine CallI.mk fun w7 h7 => ?_;have hg7 : Below w6.heap.size w6 w7 := at_below h7 (by simp);refine (compactZ_own (Zo.sort l) _ w5.heap.size w5.heap.size w7 (Nat.le_trans hB6.size hg7.size) (Nat.le_refl _) (hO6.below hg7) (by omega)).mono ?_;rintro e w8 ⟨v8, rfl, hB8, hO8, hg8⟩;refine ⟨⟨hB8.mono hw5.size, fun b hb => hB8.block b (by simp at hb; subst hb; omega)⟩, _, rfl, ?_⟩;have hw7 := hw6.trans (hg7.mono hw6.size);have hw8 := hw7.trans (hB8.mono hw5.size);change Own 86 w5.heap.size w8 v8 (Cv.sorted l) at hO8;have hls : (Cv.sorted l).length <= l.length := Cv.sorted_len l;obtain ⟨a8, c8, rfl⟩ := hO8.form;generalize hso : Cv.sorted l = so at hO8 hls ⊢;refine Need.ok ?_
 refine LoopI.invC (α := Int × Value × List Zn × World) (fun y => [(6, .val (.int .i64 y.1)), (5, .val y.2.1)]) (fun y => y.2.2.2)
  (fun y => -1 <= y.1 /\ y.1 < y.2.2.1.length /\ y.2.2.1.length <= 4096 /\ Own 86 w.heap.size y.2.2.2 y.2.1 y.2.2.1 /\ Below w.heap.size w y.2.2.2 /\ Cv.pgo so.length so = Cv.pgo (y.1 + 1).toNat y.2.2.1) (fun y => (y.1 + 1).toNat) ?_ ?_
 ·intro w9 h9
  have hg9 : Below w8.heap.size w8 w9 := at_below h9 (by simp);exact ⟨((so.length : Int) - 1, .slice a8 so.length c8, so, w9), Cov.au rfl rfl rfl rfl rfl, rfl, by show -1 <= (so.length : Int) - 1; omega, by show (so.length : Int) - 1 < so.length; omega, by show so.length <= 4096; omega, (hO8.below hg9).lower hw5.size, hw8.trans (hg9.mono hw8.size), by show _ = Cv.pgo ((so.length : Int) - 1 + 1).toNat so; rw [show ((so.length : Int) - 1 + 1).toNat = so.length by omega]⟩
 rintro ⟨t, ov, out, U⟩ ⟨i1, i2, i3, i4, i5, i6⟩;simp only at i1 i2 i3 i4 i5 i6;obtain ⟨ao, co, rfl⟩ := i4.form;refine Branch.mk (fun hc2 => ?_) (fun hc2 => ?_)
 ·have ht0 : 0 <= t := by simp only at hc2; exact of_decide_eq_true hc2
  obtain ⟨m, rfl⟩ : ∃ m : Nat, t = m := ⟨t.toNat, by omega⟩;have hm : m < out.length := by omega
  have hgm := List.getElem?_eq_getElem (l := out) (i := m) hm;generalize out[m] = z at hgm;rw [show ((m : Int) + 1).toNat = m + 1 by omega, Cv.pgo_succ hgm] at i6;apply CallI.use
  focus (exact fun w10 h10 => cloneZ_any out ao co w10 ((i4.sl).go h10.go h10.size) (by omega))
  rintro v w10 v10 h10 hB10 hO10;have hg10 : Below U.heap.size U w10 := at_below h10 (by simp);have hU10 := i5.trans (hg10.mono i5.size);obtain ⟨ag, cg, rfl⟩ := hO10.form;obtain ⟨g, rfl⟩ : ∃ g, ag = some ⟨g, 0, none⟩ := by
   obtain ⟨_, ⟨e, h0⟩ | ⟨g, cap, cur, e, _⟩⟩ := id hO10
   ·omega
   ·injection e with e1 e2 e3; exact ⟨g, e1⟩
  have hgb := (hO10.lt g rfl).1;refine Need.ok ?_;refine CallI.mk fun w11 h11 => ?_;have hg11 : Below v10.heap.size v10 w11 := at_below h11 (by simp);refine (deleteZ_any out g cg w10.heap.size m (m + 1) _ rfl (by omega) (by omega) w10.heap.size w11 (Nat.le_trans hB10.size hg11.size) hgb (hO10.below hg11) (by omega)).mono ?_;rintro e w12 ⟨v, rfl, hB12, rfl, hO12, _⟩;refine ⟨⟨hB12.mono hU10.size, fun b hb => hB12.block b (by have := h10.lt b hb; exact this)⟩, _, rfl, ?_⟩;have hU12 := (hU10.trans (hB10.mono hU10.size)).trans (hg11.mono (Nat.le_trans hU10.size hB10.size)) |>.trans (hB12.mono hU10.size);have hel : (out.take m ++ out.drop (m + 1)) = out.eraseIdx m := (List.eraseIdx_eq_take_drop_succ out m).symm;have hell : m + (out.length - (m + 1)) = (out.eraseIdx m).length := by rw [List.length_eraseIdx, if_pos hm]; omega
  rw [hel, hell] at hO12;rw [hell];have hUU : Below U.heap.size U w12 := ((hg10.trans (hB10.mono hg10.size)).trans (hg11.mono (Nat.le_trans hg10.size hB10.size))).trans (hB12.mono hg10.size);have j4 := i4.below hUU;refine (j4.sl).idx hgm fun ad had => ?_;refine (j4.sl).ld hgm had (Below.refl _ _) (by simp) ?_;apply CallI.use1
  focus (exact fun w13 h13 => cin_any z (out.eraseIdx m) (some ⟨g, 0, none⟩) cg w13 ((hO12.below (at_below h13 (by simp))).sl))
  intro w13 v13 h13 hB13;have hg13 : Below w12.heap.size w12 w13 := at_below h13 (by simp);have hU13 : Below w12.heap.size w12 v13 := hg13.trans (hB13.mono hg13.size);generalize hI : Cv.in_ z (out.eraseIdx m) = I at *;obtain ⟨is, e⟩ := I;simp only at i6;refine Branch.mk (fun hc3 => ?_) (fun hc3 => ?_)
  ·have he : e ≠ 0 := by simpa using hc3
   rw [if_pos he] at i6;rw [i6];exact EndI.mk fun w9 h9 => ⟨_, _, rfl, Own.nil⟩
  have he : e = 0 := by simpa using hc3
  subst he;rw [if_neg (by simp)] at i6;refine Branch.mk (fun hc4 => ?_) (fun hc4 => ?_)
  ·have his : is = true := by simpa using hc4
   subst his;rw [if_pos rfl] at i6;refine Need.ok (EndI.mk fun w9 h9 => ⟨((m : Int) - 1, .slice (some ⟨g, 0, none⟩) (out.eraseIdx m).length cg, out.eraseIdx m, w9), Cov.au rfl rfl rfl rfl rfl, rfl, ?_, ?_⟩)
   ·have hg9 : Below v13.heap.size v13 w9 := at_below h9 (by simp)
    have hle : (out.eraseIdx m).length = out.length - 1 := by rw [List.length_eraseIdx, if_pos hm]
    refine ⟨by simp only; omega, by simp only; omega, by simp only; omega, ?_, ?_, ?_⟩
    ·exact ((hO12.below hU13).below hg9).lower hU10.size
    ·exact (hU12.trans (hU13.mono hU12.size)).trans (hg9.mono (Nat.le_trans hU12.size hU13.size))
    ·simp only; rw [i6, show ((m : Int) - 1 + 1).toNat = m by omega]
   ·simp only; omega
  ·have his : is = false := by simpa using hc4
   subst his;rw [if_neg (by simp)] at i6;refine Need.ok (EndI.mk fun w9 h9 => ⟨((m : Int) - 1, .slice ao out.length co, out, w9), Cov.au rfl rfl rfl rfl rfl, rfl, ?_, ?_⟩)
   ·have hg9 : Below v13.heap.size v13 w9 := at_below h9 (by simp)
    refine ⟨by simp only; omega, by simp only; omega, by simp only; omega, ?_, ?_, ?_⟩
    ·exact (j4.below hU13).below hg9
    ·exact (hU12.trans (hU13.mono hU12.size)).trans (hg9.mono (Nat.le_trans hU12.size hU13.size))
    ·simp only; rw [i6, show ((m : Int) - 1 + 1).toNat = m by omega]
   ·simp only; omega
 ·have htm : t = -1 := by simp only at hc2; have := of_decide_eq_false hc2; omega
  subst htm;have hp : Cv.pgo so.length so = (out, 0) := i6;rw [hp];exact EndI.mk fun w9 h9 => ⟨_, _, rfl, i4.below (at_below h9 (by simp))⟩
theorem any_flat (p : Zn -> Bool) (ls : List (List Zn)) : ls.any (fun l => l.any p) = ls.flatten.any p := by
 induction ls with
 | nil => rfl
 | cons x m ih => rw [List.any_cons, List.flatten_cons, List.any_append, ih]
theorem zschecked_any (ss : List Svl) (ls : List (List Zn)) (h8 : ls.length <= 8) (a : Option Addr) (cap : Nat) (w : World) (hA : Shown w.heap.size w ss ls) (hS : Sl w.heap.size w (.slice a ss.length cap) ss) :
 Calls Tryz.prog 35 #[.slice a ss.length cap] w fun e w' => e = .returned (.int .i64 (Cv.checked ls)) /\ Below w.heap.size w w' := by
 refine fun_eq 0 w Tryz.func35 (args := [.val (.slice a ss.length cap)]) rfl rfl ?_;have hA' := hA;obtain ⟨hlen, hA⟩ := hA;have hform := hS.form;obtain ⟨_, _, hfe, hcap1, hcap2, _⟩ := hform;injection hfe with _ _ hfe;subst hfe;unfold maxLen at hcap2;unfold Cv.checked;refine LoopI.invC (α := Nat × World) (fun y => [(10, .val (.int .i64 y.1))]) (fun y => y.2) (fun y => y.1 <= ss.length /\ Below w.heap.size w y.2 /\ ∀ l, l ∈ ls.take y.1 -> l.length <= 4096) (fun y => ss.length - y.1) ?_ ?_
 ·intro w1 h1
  exact ⟨(0, w1), Cov.au rfl rfl rfl rfl rfl, rfl, Nat.zero_le _, h1.below, by simp⟩
 rintro ⟨k, W⟩ ⟨hk, hW, hall⟩;refine Branch.mk (fun hc => ?_) (fun hc => ?_)
 ·have hlt : k < ss.length := by simpa using hc
  have hg := List.getElem?_eq_getElem (l := ss) (i := k) hlt;have hl := List.getElem?_eq_getElem (l := ls) (i := k) (by omega);obtain ⟨hs1, hs2⟩ := hA k _ _ hg hl;generalize ls[k]'(by omega) = l at hl hs1 hs2;have hSW := hS.go hW hW.size;refine hSW.idx hg fun ad had => ?_;refine hSW.ldv hg rfl had (Below.refl _ _) (by simp) ?_;refine Branch.mk (fun hc2 => ?_) (fun hc2 => ?_)
  ·have h4 : 4096 < l.length := by (have : (4096 : Int) < (ss[k]'hlt).len := by simpa using hc2); omega
   rw [if_pos (by rw [List.any_eq_true]; exact ⟨l, List.mem_of_getElem? hl, by simpa using h4⟩)];exact EndI.mk fun w3 h3 => rfl
  ·have hle : l.length <= 4096 := by (have : ¬ (4096 : Int) < (ss[k]'hlt).len := by simpa using hc2); omega
   refine Need.ok (EndI.mk fun w7 h7 => ⟨(k + 1, w7), Cov.au rfl rfl rfl rfl rfl, rfl, ⟨hlt, h7.below, fun y hy => ?_⟩, by simp only; omega⟩);have e : ls.take (k + 1) = ls.take k ++ [l] := by rw [List.take_add_one, hl]; rfl
   rw [e] at hy;rcases List.mem_append.1 hy with hy | hy
   ·exact hall y hy
   ·rw [List.mem_singleton.1 hy]; exact hle
 have hge : k = ls.length := by (have : ¬ k < ss.length := by simpa using hc); omega
 subst hge;rw [List.take_length] at hall;rw [if_neg (by rw [List.any_eq_true]; rintro ⟨x, hx, h⟩; have := hall x hx; simp at h; omega)];have hfl : ls.flatten.length <= 100000 := by
  have : ∀ (m : List (List Zn)), (∀ l, l ∈ m -> l.length <= 4096) -> m.flatten.length <= m.length * 4096 := fun m => by
   induction m with
   | nil => intro _; simp
   | cons x m ih =>
     intro h;have h1 := ih fun l hl => h l (List.mem_cons_of_mem _ hl);have h2 := h x (by simp);rw [List.flatten_cons, List.length_append, List.length_cons, Nat.succ_mul];omega
  have h1 := this ls hall;have h2 : ls.length * 4096 <= 8 * 4096 := Nat.mul_le_mul_right _ h8;omega
 clear hc hk;have hW : Below w.heap.size w W := hW;apply CallI.use
 focus (exact fun w2 h2 => concat_any ss ls hfl a cap w2 ⟨hlen, fun k s l hs hl => ⟨(hA k s l hs hl).1.go h2.below h2.below.size, (hA k s l hs hl).2⟩⟩ (hS.go h2.below h2.below.size))
 rintro v w2 v2 h2 hB2 ⟨a2, c2, rfl, hO2⟩;have hv2 : Below w.heap.size w v2 := h2.below.trans (hB2.mono h2.below.size);rw [any_flat];generalize ls.flatten = m at *;refine LoopI.invC (α := Nat × World) (fun y => [(21, .val (.int .i64 y.1))]) (fun y => y.2) (fun y => y.1 <= m.length /\ Below w.heap.size w y.2 /\ Below v2.heap.size v2 y.2 /\ (m.take y.1).any Cv.odd = false) (fun y => m.length - y.1) ?_ ?_
 ·intro w1 h1
  exact ⟨(0, w1), Cov.au rfl rfl rfl rfl rfl, rfl, Nat.zero_le _, h1.below, at_belowM h1 (by simp), by simp⟩
 rintro ⟨k, V⟩ ⟨hk, hV, hV2, hall2⟩;simp only at hk hV hV2 hall2;refine Branch.mk (fun hc => ?_) (fun hc => ?_)
 ·have hlt : k < m.length := by simpa using hc
  have hg := List.getElem?_eq_getElem (l := m) (i := k) hlt;generalize m[k] = x at hg;have hSV := (hO2.below hV2).sl;refine hSV.idx hg fun ad had => ?_;refine hSV.ld hg had (Below.refl _ _) (by simp) ?_;refine NewI.mk fun b1 hb1 => ?_;apply CallI.use1
  focus (exact fun w4 h4 => zcheck_any x w4)
  intro w4 v4 h4 hB4;refine Branch.mk (fun hc2 => ?_) (fun hc2 => ?_)
  ·have h1 : Zo.chk x ≠ 0 := by simpa using hc2
   have h8 : Zo.chk x = 8 := by unfold Zo.chk at h1 ⊢; split at h1 <;> simp_all
   rw [if_pos (by rw [List.any_eq_true]; exact ⟨x, List.mem_of_getElem? hg, by unfold Cv.odd; simpa using h1⟩), h8];exact EndI.mk fun w9 h9 => rfl
  ·have h1 : Zo.chk x = 0 := by simpa using hc2
   refine Need.ok (EndI.mk fun w9 h9 => ⟨(k + 1, w9), Cov.au rfl rfl rfl rfl rfl, rfl, ⟨hlt, h9.below, (hV2.trans ((at_belowM h4 (by simp <;> omega)).mono hV2.size)).trans ((hB4.mono (Nat.le_trans hV2.size h4.size)).trans ((at_belowM h9 (by simp <;> omega)).mono (Nat.le_trans hV2.size (Nat.le_trans h4.size hB4.size)))), ?_⟩, by simp only; omega⟩);simp only;rw [List.take_add_one, hg, List.any_append, hall2];simp [Cv.odd, h1]
 ·have hge : k = m.length := by (have : ¬ k < m.length := by simpa using hc); omega
  subst hge;rw [List.take_length] at hall2;rw [if_neg (by rw [hall2]; decide)];exact EndI.mk fun w9 h9 => rfl
theorem zsof_any (l : List Zn) (a : Option Addr) (cap : Nat) (w : World) (hS : Sl w.heap.size w (.slice a l.length cap) l) :
 Calls Tryz.prog 54 #[.slice a l.length cap] w (Ret w fun v w' => ∃ a' c', v = .tuple #[.slice a' (Cv.prune l).1.length c', .int .i64 (Cv.prune l).2] /\ Own TZ w.heap.size w' (.slice a' (Cv.prune l).1.length c') (Cv.prune l).1) := by
 refine fun_ret 0 w Tryz.func54 (args := [.val (.slice a l.length cap)]) rfl rfl ?_;apply CallI.use
 focus (exact fun w2 h2 => prune_any l a cap w2 (hS.go h2.below h2.below.size))
 rintro v w2 v2 h2 hB2 ⟨a2, c2, rfl, hO2⟩;exact EndI.mk fun w9 h9 => ⟨a2, c2, rfl, (hO2.lower h2.below.size).below (at_belowM h9 (by simp))⟩
namespace Zs
def come (f : Zn -> Zn × Int) : List Zn -> List Zn -> List Zn × Int
 | out, [] => Cv.prune out
 | out, x :: l => if (f x).2 = 0 then come f (out ++ [(f x).1]) l else if (f x).2 = 6 then come f out l else ([], (f x).2)
theorem come_cons (f : Zn -> Zn × Int) (out l : List Zn) (x : Zn) : come f out (x :: l) = if (f x).2 = 0 then come f (out ++ [(f x).1]) l else if (f x).2 = 6 then come f out l else ([], (f x).2) := rfl
end Zs
def KeptBut (row : Option Nat) (w W : World) : Prop := w.heap.size <= W.heap.size /\ ∀ k, k < w.heap.size -> some k ≠ row -> W.heap[k]? = w.heap[k]?
theorem KeptBut.refl (row : Option Nat) (w : World) : KeptBut row w w := ⟨Nat.le_refl _, fun _ _ _ => rfl⟩
theorem KeptBut.go {row : Option Nat} {w W X : World} (h : KeptBut row w W) (hB : Below W.heap.size W X) : KeptBut row w X :=
 ⟨Nat.le_trans h.1 hB.size, fun k hk hr => (hB.block k (Nat.lt_of_lt_of_le hk h.1)).trans (h.2 k hk hr)⟩
theorem KeptBut.at {w0 : Base} {hp : List LB} {r L : List Nat} {row : Option Nat} {w W X : World} (h : KeptBut row w W) (h1 : At w0 hp r L W X) (hL : ∀ b, b ∈ L -> w.heap.size <= b) : KeptBut row w X :=
 ⟨Nat.le_trans h.1 h1.size, fun k hk hr => (h1.step k (Nat.lt_of_lt_of_le hk h.1) (fun hm => by have := hL k hm; omega)).trans (h.2 k hk hr)⟩
end
section
namespace Dbm
def lessr (L M : List Int) : List Int := (List.range L.length).map fun q => min (L[q]?.getD 0) (M[q]?.getD 0)
theorem lessr_len (L M : List Int) : (lessr L M).length = L.length := by simp [lessr]
def lessTo (L M : List Int) (k : Nat) : List Int := (List.range L.length).map fun q => if q < k then min (L[q]?.getD 0) (M[q]?.getD 0) else L[q]?.getD 0
theorem lessTo_len (L M : List Int) (k : Nat) : (lessTo L M k).length = L.length := by simp [lessTo]
theorem lessTo_zero (L M : List Int) : lessTo L M 0 = L := by
 apply List.ext_getElem
 ·simp [lessTo]
 ·intro i h1 h2; simp [lessTo, h2]
theorem lessTo_all (L M : List Int) : lessTo L M L.length = lessr L M := by
 unfold lessTo lessr;exact List.map_congr_left fun q hq => by rw [if_pos (List.mem_range.1 hq)]
theorem lessTo_get (L M : List Int) {k : Nat} (hk : k < L.length) : (lessTo L M k)[k]?.getD 0 = L[k]?.getD 0 := by
 unfold lessTo;rw [List.getElem?_map, List.getElem?_range hk];simp
theorem lessTo_succ (L M : List Int) {k : Nat} (hk : k < L.length) : lessTo L M (k + 1) = (lessTo L M k).set k (min (L[k]?.getD 0) (M[k]?.getD 0)) := by
 apply List.ext_getElem
 ·simp [lessTo]
 ·intro i h1 h2
  have hi : i < L.length := by simpa [lessTo] using h1
  rw [List.getElem_set];simp only [lessTo, List.getElem_map, List.getElem_range]
  by_cases e : k = i
  ·subst e; rw [if_pos rfl, if_pos (by omega)]
  ·rw [if_neg e]
   by_cases h : i < k
   ·rw [if_pos h, if_pos (by omega)]
   ·rw [if_neg h, if_neg (by omega)]
end Dbm
namespace Tg
def meet (n : Int) (L : List Int) (m : Int) (M : List Int) : Int × List Int × Int :=
 if Dbm.chk n L ≠ 0 \/ Dbm.chk m M ≠ 0 then (0, [], 8) else if n ≠ m then (0, [], 40) else Dbm.close n (Dbm.lessr L M)
end Tg
end
section
open Go.RowKit Go.Proofs.YtanhnllkccldhaaGreat.Eng Enc
namespace Cmp
def pl (c0 c1 c2 : Nat) (k : Nat) : Nat := 4 * (if k / 3 = 0 then c0 else if k / 3 = 1 then c1 else c2) + (if k % 3 = 0 then c0 else if k % 3 = 1 then c1 else c2)
def put (c0 c1 c2 : Nat) (M L : List Int) : Nat -> List Int
 | 0 => L
 | k + 1 => (put c0 c1 c2 M L k).set (pl c0 c1 c2 k) (min ((put c0 c1 c2 M L k)[pl c0 c1 c2 k]?.getD 0) (M[k]?.getD 0))
end Cmp
structure Cmp.At (B g g1 cap : Nat) (M0 : List Int) (X : World) (row : List Int) : Prop where
 box : X.heap[B]? = some (.cells #[.int .i64 4, .slice (some ⟨g, 0, none⟩) 16 cap] 81 (0, 0))
 row : RowAt TB X g row
 mat : RowAt TB X g1 M0
section
variable {B g g1 cap : Nat} {M0 : List Int} {X Y : World} {row : List Int}
theorem Cmp.At.to (h : Cmp.At B g g1 cap M0 X row) (k : ∀ j, j = B \/ j = g \/ j = g1 -> Y.heap[j]? = X.heap[j]?) : Cmp.At B g g1 cap M0 Y row :=
 ⟨(k B (.inl rfl)).trans h.box, h.row.kept (k g (.inr (.inl rfl))), h.mat.kept (k g1 (.inr (.inr rfl)))⟩
theorem Cmp.At.at {w0 : Base} {hp : List LB} {r L : List Nat} (h : Cmp.At B g g1 cap M0 X row) (h1 : Eng.At w0 hp r L X Y) (hL : ∀ b, b ∈ L -> b ≠ B /\ b ≠ g /\ b ≠ g1) : Cmp.At B g g1 cap M0 Y row :=
 h.to fun j hj => h1.step j (by rcases hj with rfl | rfl | rfl; exact lt_cellsM h.box; exact h.row.lt; exact h.mat.lt) (fun hm => by have := hL j hm; rcases hj with rfl | rfl | rfl <;> omega)
theorem Cmp.At.set (h : Cmp.At B g g1 cap M0 X row) {j : Nat} (hj : j < row.length) (x : Int) (h1 : g ≠ B) (h2 : g1 ≠ g) : Cmp.At B g g1 cap M0 (X.setCell ⟨g, j, none⟩ (.int .i64 x)) (row.set j x) :=
 ⟨(setCell_neM (fun e => h1 e.symm)).trans h.box, h.row.set hj x, h.mat.kept (setCell_neM h2)⟩
theorem Cmp.At.cell (h : Cmp.At B g g1 cap M0 X row) : X.cell? ⟨B, 1, none⟩ = some (.slice (some ⟨g, 0, none⟩) 16 cap) := by simp [World.cell?, h.box]
end
namespace Zo
def odd (z : Zn) : Bool := decide (chk z ≠ 0)
def checks (l : List Zn) : Int := if l.any odd = true then 8 else 0
theorem chk_cases (z : Zn) : chk z = 0 \/ chk z = 8 := by unfold chk; split <;> simp
def meet (a b : Zn) : Zn × Int :=
 if checks [a, b] = 0 then (if (Tg.meet 3 (matL a) 3 (matL b)).2.2 = 0 then told (Tg.meet 3 (matL a) 3 (matL b)).2.1 else (nought, (Tg.meet 3 (matL a) 3 (matL b)).2.2)) else (nought, checks [a, b])
theorem checks_two {a b : Zn} : checks [a, b] = 0 ↔ chk a = 0 /\ chk b = 0 := by
 unfold checks odd;rcases chk_cases a with h | h <;> rcases chk_cases b with k | k <;> simp [h, k]
end Zo
namespace Proj
def sk (k j : Nat) : Nat := if j < k then j else j + 1
def dropAt (N k idx : Nat) : Nat := sk k (idx / (N - 1)) * N + sk k (idx % (N - 1))
def dropL (N k : Nat) (c : List Int) : List Int := (List.range ((N - 1) * (N - 1))).map fun idx => c[dropAt N k idx]?.getD 0
def drop (n : Int) (L : List Int) (k : Int) : Int × List Int × Int :=
 if Dbm.chk n L = 0 then (if k < 1 \/ n <= k then (0, [], 2) else (match Dbm.closeL n.toNat L with | some c => (n - 1, dropL n.toNat k.toNat c, 0) | none => (0, [], 6))) else (0, [], 8)
end Proj
abbrev TI : TypeId := 3
namespace Cmp
def mat (a b : Zn) : List Int := put 0 2 3 (Zo.matL b) (put 0 1 2 (Zo.matL a) (Dbm.topL 4) 9) 9
def comp (a b : Zn) : Zn × Int :=
 if Zo.chk a = 0 /\ Zo.chk b = 0 then (if (Proj.drop 4 (mat a b) 2).2.2 = 0 then Zo.of (Proj.drop 4 (mat a b) 2).1 (Proj.drop 4 (mat a b) 2).2.1 else (Zo.nought, (Proj.drop 4 (mat a b) 2).2.2)) else (Zo.nought, 8)
end Cmp
namespace Zs
def pairGo (f : Zn -> Zn -> Zn × Int) (b : List Zn) : List Zn -> List Zn -> List Zn × Int
 | out, [] => (out, 0)
 | out, x :: a => if (come (f x) out b).2 = 0 then pairGo f b (come (f x) out b).1 a else ([], (come (f x) out b).2)
theorem pairGo_cons (f : Zn -> Zn -> Zn × Int) (b out a : List Zn) (x : Zn) : pairGo f b out (x :: a) = if (come (f x) out b).2 = 0 then pairGo f b (come (f x) out b).1 a else ([], (come (f x) out b).2) := rfl
def paired (f : Zn -> Zn -> Zn × Int) (a b : List Zn) : List Zn × Int := if Cv.checked [a, b] = 0 then pairGo f b [] a else ([], Cv.checked [a, b])
def or (a b : List Zn) : List Zn × Int := if Cv.checked [a, b] = 0 then Cv.prune (a ++ b) else ([], Cv.checked [a, b])
def and (a b : List Zn) : List Zn × Int := paired Zo.meet a b
def comp (a b : List Zn) : List Zn × Int := paired Cmp.comp a b
theorem checked_len {l m : List Zn} (h0 : Cv.checked [l, m] = 0) : l.length <= 4096 /\ m.length <= 4096 := by
 unfold Cv.checked at h0;split at h0
 ·cases h0
 ·rename_i hn
  rw [List.any_eq_true] at hn;constructor
  ·apply Classical.byContradiction; intro hh; exact hn ⟨l, by simp, decide_eq_true (by omega)⟩
  ·apply Classical.byContradiction; intro hh; exact hn ⟨m, by simp, decide_eq_true (by omega)⟩
end Zs
theorem zsor_any (l m : List Zn) (a b : Option Addr) (ca cb : Nat) (w : World) (hS : Sl w.heap.size w (.slice a l.length ca) l) (hT : Sl w.heap.size w (.slice b m.length cb) m) :
 Calls Tryz.prog 43 #[.slice a l.length ca, .slice b m.length cb] w (Ret w fun v w' => ∃ a' c', v = .tuple #[.slice a' (Zs.or l m).1.length c', .int .i64 (Zs.or l m).2] /\ Own TZ w.heap.size w' (.slice a' (Zs.or l m).1.length c') (Zs.or l m).1) := by
 refine fun_ret 0 w Tryz.func43 (args := [.val (.slice a l.length ca), .val (.slice b m.length cb)]) rfl rfl ?_;refine NewI.mk fun b1 hb1 => ?_;apply CallI.use1
 ·exact fun w3 h3 => zschecked_any [⟨a, l.length, ca⟩, ⟨b, m.length, cb⟩] [l, m] (by simp) _ _ w3 (shown_two (hS.go h3.below h3.below.size) rfl (hT.go h3.below h3.below.size) rfl) (Sl.own (l := [(⟨a, l.length, ca⟩ : Svl), ⟨b, m.length, cb⟩]) h3 0 rfl rfl rfl (Nat.le_refl _) (by simp [maxLen]))
 intro w3 v3 h3 hB3;unfold Zs.or;refine Branch.mk (fun hc => ?_) (fun hc => ?_)
 ·have h0 : Cv.checked [l, m] ≠ 0 := by simpa using hc
  rw [if_neg h0];exact EndI.mk fun w9 h9 => ⟨_, _, rfl, Own.nil⟩
 have h0 : Cv.checked [l, m] = 0 := by simpa using hc
 rw [if_pos h0];obtain ⟨hl4, hm4⟩ := Zs.checked_len h0;refine NewI.mk fun b2 hb2 => ?_;have hfl : ([l, m] : List (List Zn)).flatten = l ++ m := by simp
 have hcc := fun (w : World) (a' : Option Addr) (c' : Nat) h1 h2 => concat_any [⟨a, l.length, ca⟩, ⟨b, m.length, cb⟩] [l, m] (by rw [hfl, List.length_append]; omega) a' c' w h1 h2;rw [hfl] at hcc;apply CallI.use
 ·exact fun w4 h4 => hcc w4 _ _ (shown_two (hS.go h4.below h4.below.size) rfl (hT.go h4.below h4.below.size) rfl) (Sl.own (l := [(⟨a, l.length, ca⟩ : Svl), ⟨b, m.length, cb⟩]) h4 1 rfl rfl rfl (Nat.le_refl _) (by simp [maxLen]))
 rintro v w4 v4 h4 hB4 ⟨a4, c4, rfl, hO4⟩;apply CallI.use
 focus (exact fun w5 h5 => zsof_any (l ++ m) a4 c4 w5 (hO4.below (at_belowM h5 (by simp <;> omega))).sl)
 rintro v w5 v5 h5 hB5 ⟨a5, c5, rfl, hO5⟩;exact EndI.mk fun w9 h9 => ⟨a5, c5, rfl, (hO5.lower h5.below.size).below (at_belowM h9 (by simp <;> omega))⟩
namespace Wn
def less (z : Zn) (i : Nat) (x : Int) : Zn := Zo.set z i (min (Zo.get z i) x)
def with2 (z : Zn) (i : Nat) (x : Int) (j : Nat) (y : Int) : Zn × Int :=
 if (Zo.mat (less (less z i x) j y)).2.2 = 0 then Zo.of (Zo.mat (less (less z i x) j y)).1 (Zo.mat (less (less z i x) j y)).2.1 else (Zo.nought, (Zo.mat (less (less z i x) j y)).2.2)
end Wn
namespace Wn
def fits (n : Int) : Bool := decide (-288230376151711744 <= n) && decide (n <= 288230376151711744)
def within (z : Zn) (s : Sp) : Zn × Int :=
 if Zo.chk z = 0 then (if (Zo.btw s).2.2 = 0 then with2 z 4 ((Zo.btw s).2.1[2]?.getD 0) 5 ((Zo.btw s).2.1[1]?.getD 0) else (Zo.nought, (Zo.btw s).2.2)) else (Zo.nought, Zo.chk z)
end Wn
namespace Cv
open Mi Zo
def misses (b : List Zn) (z : Zn) : Bool := decide ((in_ z b).2 ≠ 0) || !(in_ z b).1
def allGo (b : List Zn) : List Zn -> Bool × Int
 | [] => (true, 0)
 | z :: a => if misses b z = true then (false, (in_ z b).2) else allGo b a
def all_ (a b : List Zn) : Bool × Int := if checked [a, b] ≠ 0 then (false, checked [a, b]) else allGo b a
def told (b l : List Zn) : Nat -> Int
 | 0 => 0
 | k + 1 => match l[k]? with | some z => (in_ z b).2 | none => 0
theorem allGo_eq (b : List Zn) : ∀ l, allGo b l = (!(l.any (misses b)), told b l (cntF (misses b) l))
 | [] => rfl
 | z :: a => by
   rw [allGo, List.any_cons, cntF]
   by_cases hm : misses b z = true
   ·rw [if_pos hm, if_pos hm, hm]; rfl
   ·rw [if_neg hm, if_neg hm, allGo_eq b a]
    have hm' : misses b z = false := by simpa using hm
    rw [hm', Bool.false_or]
    congr 1
    have he : (in_ z b).2 = 0 := by unfold misses at hm'; simp at hm'; exact hm'.1
    cases hc : cntF (misses b) a with
    | zero => simp [told, he]
    | succ k => simp [told]
theorem allGo_ok {b : List Zn} : ∀ {a : List Zn}, (allGo b a).2 = 0 -> ((allGo b a).1 = true ↔ ∀ z, z ∈ a -> Cov z b)
 | [], _ => by simp [allGo]
 | z :: a, h => by
   rw [allGo] at h ⊢
   by_cases hm : misses b z = true
   ·rw [if_pos hm] at h ⊢
    simp only at h;obtain ⟨_, _, hc⟩ := in_ok h;constructor
    ·intro h1; cases h1
    ·intro hall
     have h1 := hc.2 (hall z (by simp));unfold misses at hm;rw [h1, h] at hm;simp at hm
   ·rw [if_neg hm] at h ⊢
    have he : (in_ z b).2 = 0 /\ (in_ z b).1 = true := by
     unfold misses at hm
     simpa using hm
    obtain ⟨_, _, hc⟩ := in_ok he.1;rw [allGo_ok h];constructor
    ·intro hall x hx
     rcases List.mem_cons.1 hx with rfl | hx
     ·exact hc.1 he.2
     ·exact hall x hx
    ·exact fun hall x hx => hall x (by simp [hx])
theorem all_ok {a b : List Zn} (h : (all_ a b).2 = 0) : (all_ a b).1 = true ↔ ∀ z, z ∈ a -> Cov z b := by
 unfold all_ at h ⊢
 by_cases h1 : checked [a, b] ≠ 0
 ·rw [if_pos h1] at h; exact absurd h h1
 ·rw [if_neg h1] at h ⊢; exact allGo_ok h
structure PrunesLaw (l : List Zn) (p : Pt) : Prop where
 among : (Cv.among l p).2 = true -> (Cv.among (prune l).1 p).2 = true -> (Cv.among l p).1 = (Cv.among (prune l).1 p).1
 order : ∀ i x y, (prune l).1[i]? = some x -> (prune l).1[i + 1]? = some y -> Zo.cmp x y < 0
 bare : ∀ i z, (prune l).1[i]? = some z -> (in_ z ((prune l).1.take i ++ (prune l).1.drop (i + 1))).2 = 0 -> (in_ z ((prune l).1.take i ++ (prune l).1.drop (i + 1))).1 = false
 all : (all_ l (prune l).1).2 = 0 -> (all_ l (prune l).1).1 = true
 again : (prune (prune l).1).2 = 0 -> (prune (prune l).1).1 = (prune l).1
end Cv
structure Cv.AllAt (Bb Be : Nat) (sv : Value) (b : List Zn) (e : Int) (W : World) : Prop where
 hb : W.heap[Bb]? = some (.cells #[sv] 22 (0, 0))
 he : W.heap[Be]? = some (.cells #[.int .i64 e] 28 (0, 0))
 sl : Sl W.heap.size W sv b
theorem cell_one {W : World} {B : Nat} {v : Value} {t : TypeId} (h : W.heap[B]? = some (.cells #[v] t (0, 0))) : W.cell? ⟨B, 0, none⟩ = some v := by simp [World.cell?, h]
theorem lt_of_cells {W : World} {B : Nat} {o : Obj} (h : W.heap[B]? = some o) : B < W.heap.size := (Array.getElem?_eq_some_iff.1 h).1
theorem setCell_one {W : World} {B : Nat} {v u : Value} {t : TypeId} (h : W.heap[B]? = some (.cells #[v] t (0, 0))) : (W.setCell ⟨B, 0, none⟩ u).heap[B]? = some (.cells #[u] t (0, 0)) := by
 simp [World.setCell, Array.getElem?_modify, h, Go.Sort.onCells]
theorem setCell_ne {W : World} {B k : Nat} {u : Value} (h : k ≠ B) : (W.setCell ⟨B, 0, none⟩ u).heap[k]? = W.heap[k]? := Below.heap_setCell _ _ _ _ (by simpa using h)
theorem below_setCell' {n : Nat} {W X : World} {B : Nat} {u : Value} (h : Below n W X) (hB : n <= B) : Below n W (X.setCell ⟨B, 0, none⟩ u) :=
 ⟨h.os, h.tape, h.output, by simpa [World.setCell] using h.size, fun k hk => (setCell_ne (by omega)).trans (h.block k hk)⟩
section
variable {Bb Be : Nat} {sv : Value} {b : List Zn} {e : Int} {W X : World}
theorem Cv.AllAt.go (h : Cv.AllAt Bb Be sv b e W) (hB : Below W.heap.size W X) : Cv.AllAt Bb Be sv b e X :=
 ⟨(hB.block _ (lt_of_cells h.hb)).trans h.hb, (hB.block _ (lt_of_cells h.he)).trans h.he, h.sl.go hB hB.size⟩
end
theorem misses_any (z : Zn) (b : List Zn) (a : Option Addr) (cap : Nat) (e : Int) (Bb Be B : Nat) (hne : Bb ≠ Be) (w : World) (hB : B <= w.heap.size) (hBe : B <= Be) (h : Cv.AllAt Bb Be (.slice a b.length cap) b e w) (hsl : Sl B w (.slice a b.length cap) b) :
 Calls Tryz.prog 178 #[.agg #[.int .i64 z.a, .int .i64 z.b, .int .i64 z.c, .int .i64 z.d, .int .i64 z.e, .int .i64 z.f], .pointer (some ⟨Bb, 0, none⟩), .pointer (some ⟨Be, 0, none⟩)] w fun x w' => ∃ v, x = .returned v /\ Below B w w' /\ v = .bool (Cv.misses b z) /\ Cv.AllAt Bb Be (.slice a b.length cap) b (Cv.in_ z b).2 w' := by
 refine fun_at 0 B w hB Tryz.func178 (args := [.agg [.val (.int .i64 z.a), .val (.int .i64 z.b), .val (.int .i64 z.c), .val (.int .i64 z.d), .val (.int .i64 z.e), .val (.int .i64 z.f)], .val (.pointer (some ⟨Bb, 0, none⟩)), .val (.pointer (some ⟨Be, 0, none⟩))]) rfl rfl ?_;refine NewI.mk fun b1 hb1 => ?_;refine ⟨⟨_, ⟨cell_one h.hb, by simp⟩, ?_⟩⟩;apply CallI.use1
 focus (exact fun w1 h1 => cin_any z b a cap w1 (h.go (at_below h1 (by simp))).sl)
 intro w1 v1 h1 hB1;have g1 := (h.go (at_below h1 (by simp))).go hB1;have b1' : Below B w v1 := h1.below.trans (hB1.mono (Nat.le_trans hB h1.below.size));have hlt := h1.lt b1 (by simp);have hbe : Be < w.heap.size := lt_of_cells h.he;refine ⟨fun w2 h2 => ?_⟩;have g2 := g1.go (at_below h2 (by simp));have b2 : Below B w w2 := b1'.trans ((at_below h2 (by simp)).mono (Nat.le_trans hB (Nat.le_trans h1.size hB1.size)));refine ⟨⟨⟨_, cell_one g2.he⟩, by simp [World.frozen?, g2.he]⟩, ⟨below_setCell' (Below.refl _ _) hBe, fun k hk => setCell_ne (by have hb1' : w.heap.size <= b1 := hb1; simp at hk; omega)⟩, ?_⟩;have b3 : Below B w (w2.setCell ⟨Be, 0, none⟩ (.int .i64 (Cv.in_ z b).2)) := below_setCell' b2 hBe;have g3 : Cv.AllAt Bb Be (.slice a b.length cap) b (Cv.in_ z b).2 (w2.setCell ⟨Be, 0, none⟩ (.int .i64 (Cv.in_ z b).2)) := ⟨(setCell_ne hne).trans g2.hb, setCell_one g2.he, hsl.go b3 (Nat.le_trans hB b3.size)⟩;have end_ : ∀ w9, At ⟨w, B, hB⟩ [⟨[.val (.int .i64 z.a), .val (.int .i64 z.b), .val (.int .i64 z.c), .val (.int .i64 z.d), .val (.int .i64 z.e), .val (.int .i64 z.f)], 86⟩] [b1] [] (w2.setCell ⟨Be, 0, none⟩ (.int .i64 (Cv.in_ z b).2)) w9 -> Cv.AllAt Bb Be (.slice a b.length cap) b (Cv.in_ z b).2 w9 := fun w9 h9 => g3.go (at_below h9 (by simp));unfold Cv.misses;refine Branch.mk (fun hc => ?_) (fun hc => ?_)
 ·refine EndI.mk fun w9 h9 => ⟨?_, end_ w9 h9⟩
  rw [hc]; rfl
 ·refine EndI.mk fun w9 h9 => ⟨?_, end_ w9 h9⟩
  rw [hc]; rfl
theorem all_any (l b : List Zn) (a : Option Addr) (cap : Nat) (c : Option Addr) (cc : Nat) (w : World) (hS : Sl w.heap.size w (.slice a l.length cap) l) (hT : Sl w.heap.size w (.slice c b.length cc) b) :
 Calls Tryz.prog 135 #[.slice a l.length cap, .slice c b.length cc] w fun e w' => e = .returned (.tuple #[.bool (Cv.all_ l b).1, .int .i64 (Cv.all_ l b).2]) /\ Below w.heap.size w w' := by
 refine fun_eq 0 w Tryz.func135 (args := [.val (.slice a l.length cap), .val (.slice c b.length cc)]) rfl rfl ?_;refine NewI.frn fun w1 h1 => ?_;have hbox : (w1.alloc (.cells #[.slice c b.length cc] 22)).heap[w1.heap.size]? = some (.cells #[.slice c b.length cc] 22 (0, 0)) := World.alloc_heap_new w1 _;have hw1 : Below w.heap.size w (w1.alloc (.cells #[.slice c b.length cc] 22)) := h1.below.alloc h1.below.size _;have hwB : w.heap.size <= w1.heap.size := h1.below.size;generalize hgB : w1.heap.size = Bb at hbox hwB;generalize w1.alloc (.cells #[.slice c b.length cc] 22) = w2 at hbox hw1;refine ⟨⟨_, ⟨cell_one hbox, by simp⟩, ?_⟩⟩;refine NewI.mk fun b2 hb2 => ?_;have hBb2 : Bb < w2.heap.size := lt_of_cells hbox;have hb2' : w2.heap.size <= b2 := hb2;apply CallI.use1
 ·exact fun w3 h3 => checked_any [⟨a, l.length, cap⟩, ⟨c, b.length, cc⟩] [l, b] _ _ w3 (shown_two (hS.go h3.below h3.below.size) rfl (hT.go h3.below h3.below.size) rfl) (Sl.own (l := [(⟨a, l.length, cap⟩ : Svl), ⟨c, b.length, cc⟩]) h3 0 rfl rfl rfl (Nat.le_refl _) (by simp [maxLen]))
 intro w3 v3 h3 hB3;have hv3 : Below w.heap.size w v3 := h3.below.trans (hB3.mono h3.below.size);have hbox3 : v3.heap[Bb]? = some (.cells #[.slice c b.length cc] 22 (0, 0)) := (hB3.block _ (Nat.lt_of_lt_of_le hBb2 h3.size)).trans (((at_below h3 (by simp)).block _ hBb2).trans hbox);have hlt2 := h3.lt b2 (by simp);unfold Cv.all_;refine Branch.mk (fun hc => ?_) (fun hc => ?_)
 ·have h0 : Cv.checked [l, b] ≠ 0 := by simpa using hc
  rw [if_pos h0];exact EndI.mk fun w9 h9 => rfl
 have h0 : Cv.checked [l, b] = 0 := by simpa using hc
 rw [if_neg (by simp [h0]), Cv.allGo_eq];refine NewI.frn fun w4 h4 => ?_;have g4 : Below v3.heap.size v3 w4 := at_below h4 (by simp);have hw4 : Below w.heap.size w w4 := h4.below;have hboxe : (w4.alloc (.cells #[.int .i64 0] 28)).heap[w4.heap.size]? = some (.cells #[.int .i64 0] 28 (0, 0)) := World.alloc_heap_new w4 _;have hw5 : Below w.heap.size w (w4.alloc (.cells #[.int .i64 0] 28)) := hw4.alloc hw4.size _;have hbox5 : (w4.alloc (.cells #[.int .i64 0] 28)).heap[Bb]? = some (.cells #[.slice c b.length cc] 22 (0, 0)) :=
  (Below.heap_alloc w4 _ _ (Nat.lt_of_lt_of_le (lt_of_cells hbox3) g4.size)).trans ((g4.block _ (lt_of_cells hbox3)).trans hbox3)
 have hne : Bb ≠ w4.heap.size := by have := lt_of_cells hbox3; have := g4.size; omega
 have hwe : w.heap.size <= w4.heap.size := hw4.size;have hb2e : b2 < w4.heap.size := h4.lt b2 (by simp);generalize w4.alloc (.cells #[.int .i64 0] 28) = w5 at hboxe hw5 hbox5;generalize w4.heap.size = Be at hboxe hne hwe hb2e;have all5 : Cv.AllAt Bb Be (.slice c b.length cc) b 0 w5 := ⟨hbox5, hboxe, hT.go hw5 hw5.size⟩;refine CallI.mk fun w6 h6 => ?_;have g6 : Below w5.heap.size w5 w6 := at_below h6 (by simp);have hw6 := hw5.trans (g6.mono hw5.size);refine (containsZ_any l (Cv.misses b) a cap 178 #[.pointer (some ⟨Bb, 0, none⟩), .pointer (some ⟨Be, 0, none⟩)] Be w6 (Nat.le_trans (Nat.le_of_lt (lt_of_cells hboxe)) g6.size) ((hS.below hw6).upto hwe) (fun k W => Cv.AllAt Bb Be (.slice c b.length cc) b (Cv.told b l k) W) (all5.go g6) (fun k W W' h hb => h.go hb) Tryz.call178 (fun k x W hx hW h => ?_)).mono ?_
 ·refine (misses_any x b c cc (Cv.told b l k) Bb Be Be hne W (Nat.le_trans (Nat.le_trans (Nat.le_of_lt (lt_of_cells hboxe)) g6.size) hW.size) (Nat.le_refl _) h ((hT.below (hw6.trans (hW.mono hwe))).upto hwe)).mono ?_
  rintro e W' ⟨v, rfl, hB', rfl, h'⟩;refine ⟨rfl, hB', ?_⟩;have : Cv.told b l (k + 1) = (Cv.in_ x b).2 := by simp [Cv.told, hx]
  rw [this]; exact h'
 rintro e w7 ⟨v, rfl, hB7, rfl, h7⟩;refine ⟨⟨hB7.mono hwe, fun k hk => hB7.block k (by simp at hk; omega)⟩, _, rfl, ?_⟩;refine DrawI.go (.tk 0 (.tk 1 (.tk 2 (.tk 3 .done)))) (by kernel_rfl) fun w8 h8 => ?_;have g8 := h7.go (at_below h8 (by simp));refine ⟨⟨_, ⟨cell_one g8.he, by simp⟩, ?_⟩⟩;exact EndI.mk fun w9 h9 => rfl
namespace Zs
def free : Zn := ⟨9223372036854775807, 9223372036854775807, 9223372036854775807, 9223372036854775807, 9223372036854775807, 9223372036854775807⟩
def each (f : Zn -> Zn × Int) (l : List Zn) : List Zn × Int :=
 if Cv.checked [l] = 0 then (if (f free).2 ≠ 0 /\ (f free).2 ≠ 6 then ([], (f free).2) else come f [] l) else ([], Cv.checked [l])
def within (l : List Zn) (s : Sp) : List Zn × Int := each (fun z => Wn.within z s) l
def same (a b : List Zn) : Bool × Int := if (Cv.all_ a b).2 = 0 /\ (Cv.all_ a b).1 = true then Cv.all_ b a else (false, (Cv.all_ a b).2)
end Zs
theorem zsin_any (l m : List Zn) (a b : Option Addr) (ca cb : Nat) (w : World) (hS : Sl w.heap.size w (.slice a l.length ca) l) (hT : Sl w.heap.size w (.slice b m.length cb) m) :
 Calls Tryz.prog 93 #[.slice a l.length ca, .slice b m.length cb] w fun e w' => e = .returned (.tuple #[.bool (Cv.all_ l m).1, .int .i64 (Cv.all_ l m).2]) /\ Below w.heap.size w w' := by
 refine fun_eq 0 w Tryz.func93 (args := [.val (.slice a l.length ca), .val (.slice b m.length cb)]) rfl rfl ?_;apply CallI.use1
 focus (exact fun w2 h2 => all_any l m a ca b cb w2 (hS.go h2.below h2.below.size) (hT.go h2.below h2.below.size))
 intro w2 v2 h2 hB2;exact EndI.mk fun w9 h9 => rfl
theorem equalZ_any (l m : List Zn) (a : Option Addr) (cap : Nat) (b : Option Addr) (cb : Nat) (w : World) (hS : Sl w.heap.size w (.slice a l.length cap) l) (hT : Sl w.heap.size w (.slice b m.length cb) m) :
 Calls Tryz.prog 133 #[.slice a l.length cap, .slice b m.length cb] w fun e w' => e = .returned (.bool (decide (l = m))) /\ Below w.heap.size w w' := by
 refine fun_eq 0 w Tryz.func133 (args := [.val (.slice a l.length cap), .val (.slice b m.length cb)]) rfl rfl ?_;obtain ⟨_, _, hfe, hcap1, hcap2, _⟩ := hS.form;injection hfe with _ _ hfe;subst hfe;unfold maxLen at hcap2;refine Branch.mk (fun hc => ?_) (fun hc => ?_)
 ·have hne : l.length ≠ m.length := by have := of_decide_eq_true hc; omega
  refine EndI.mk fun w9 h9 => ?_;rw [decide_eq_false (fun e => hne (by rw [e]))]
 have hlm : l.length = m.length := by have := of_decide_eq_false hc; omega
 refine LoopI.invC (α := Nat × World) (fun y => [(13, .val (.int .i64 y.1))]) (fun y => y.2) (fun y => y.1 <= l.length /\ Below w.heap.size w y.2 /\ l.take y.1 = m.take y.1) (fun y => l.length - y.1) ?_ ?_
 ·intro w1 h1
  exact ⟨(0, w1), Cov.au rfl rfl rfl rfl rfl, rfl, Nat.zero_le _, h1.below, rfl⟩
 rintro ⟨k, V⟩ ⟨hk, hV, hall⟩;simp only at hk hV hall;refine Branch.mk (fun hc2 => ?_) (fun hc2 => ?_)
 ·have hlt : k < l.length := by have := of_decide_eq_true hc2; simp only at this; omega
  have hx := List.getElem?_eq_getElem (l := l) (i := k) hlt;have hy := List.getElem?_eq_getElem (l := m) (i := k) (by omega);generalize l[k] = x at hx;generalize m[k]'(by omega) = y at hy;refine DrawI.go (.tk 0 (.tk 1 (.tk 2 (.tk 3 (.tk 4 (.tk 5 (.tk 6 (.tk 7 (.ev 8 .done))))))))) (by kernel_rfl) fun w4 h4 => ?_;have hg4 : Below V.heap.size V w4 := h4.go;have hw4 := hV.trans (hg4.mono hV.size);have hS4 := hS.go hw4 hw4.size;have hT4 := hT.go hw4 hw4.size;refine hS4.idx hx fun ad had => ?_;refine hS4.ld hx had (Below.refl _ _) (by simp) ?_;refine hT4.idx hy fun ad2 had2 => ?_;refine hT4.ld hy had2 (Below.refl _ _) (by simp) ?_;refine GenV.to (x := .bool (decide (x ≠ y))) (fun w => run_neq_znG _ _ x y w) fun w5 h5 => ?_;refine Branch.mk (fun hc3 => ?_) (fun hc3 => ?_)
  ·have hne : x ≠ y := by simpa using hc3
   refine EndI.mk fun w9 h9 => ?_;rw [decide_eq_false (fun e => hne (by rw [e, hy] at hx; injection hx with hx; exact hx.symm))]
  ·have he : x = y := by simpa using hc3
   refine Need.ok (EndI.mk fun w9 h9 => ⟨(k + 1, w9), Cov.au rfl rfl rfl rfl rfl, rfl, ⟨hlt, h9.below, ?_⟩, by simp only; omega⟩);simp only;rw [List.take_add_one, List.take_add_one, hall, hx, hy, he]
 ·have hge : k = l.length := by have := of_decide_eq_false hc2; simp only at this; omega
  subst hge;rw [List.take_length, hlm, List.take_length] at hall;refine EndI.mk fun w9 h9 => ?_;rw [decide_eq_true hall]
namespace Zs
def check (l : List Zn) : Int := if (Cv.prune l).2 = 0 /\ (Cv.prune l).1 = l then 0 else 8
def has (l : List Zn) (p : Pt) : Bool × Int :=
 if Cv.checked [l] = 0 then (if (Zo.has free p).2 = 0 then (l.any (fun z => decide ((Zo.has z p).2 = 0) && (Zo.has z p).1), 0) else (false, (Zo.has free p).2)) else (false, Cv.checked [l])
end Zs
theorem zscheck_any (l : List Zn) (a : Option Addr) (cap : Nat) (w : World) (hS : Sl w.heap.size w (.slice a l.length cap) l) :
 Calls Tryz.prog 89 #[.slice a l.length cap] w fun e w' => e = .returned (.int .i64 (Zs.check l)) /\ Below w.heap.size w w' := by
 refine fun_eq 0 w Tryz.func89 (args := [.val (.slice a l.length cap)]) rfl rfl ?_;apply CallI.use
 focus (exact fun w2 h2 => zsof_any l a cap w2 (hS.go h2.below h2.below.size))
 rintro v w2 v2 h2 hB2 ⟨a2, c2, rfl, hO2⟩;unfold Zs.check;generalize Cv.prune l = X at *;obtain ⟨m, e⟩ := X;simp only at hO2 ⊢;refine Branch.mk (fun hc => ?_) (fun hc => ?_)
 ·have h1 : e ≠ 0 := by simpa using hc
  rw [if_neg (fun h => h1 h.1)];exact EndI.mk fun w9 h9 => rfl
 have h1 : e = 0 := by simpa using hc
 apply CallI.use1
 focus (exact fun w3 h3 => equalZ_any l m a cap a2 c2 w3 (hS.go h3.below h3.below.size) (hO2.below (at_belowM h3 (by simp))).sl)
 intro w3 v3 h3 hB3;refine Branch.mk (fun hc2 => ?_) (fun hc2 => ?_)
 ·have h2 : ¬ l = m := by simpa using hc2
  rw [if_neg (fun h => h2 h.2.symm)];exact EndI.mk fun w9 h9 => rfl
 ·have h2 : l = m := by simpa using hc2
  rw [if_pos ⟨h1, h2.symm⟩];exact EndI.mk fun w9 h9 => rfl
namespace Cl
def oddZ (z : Zn) : Bool := decide (1 < z.b) || decide (0 < z.f)
def odd (l : List Zn) : Bool := l.any oddZ
def chk (old part : List Zn) (cz cr : Int) : Int :=
 if ¬ (1 <= cz /\ cz <= 4096) \/ ¬ (1 <= cr /\ cr <= 4096) then 2 else if Zs.check old ≠ 0 \/ Zs.check part ≠ 0 \/ odd old = true \/ odd part = true then 8 else 0
def longer (l by_ part : List Zn) (cz : Int) : List Zn × List Zn × Int :=
 if (Zs.comp by_ part).2 ≠ 0 \/ cz < ((Zs.comp by_ part).1.length : Int) then ([], [], 300)
 else if (Zs.or l (Zs.comp by_ part).1).2 ≠ 0 \/ cz < ((Zs.or l (Zs.comp by_ part).1).1.length : Int) then ([], [], 300)
 else ((Zs.or l (Zs.comp by_ part).1).1, (Zs.comp by_ part).1, 0)
end Cl
end
section
namespace Dbm
def inS (S k : Nat) : Bool := decide (S / 2 ^ k % 2 = 1)
def pc (S : Nat) : Nat := (if inS S 0 then 1 else 0) + (if inS S 1 then 1 else 0) + (if inS S 2 then 1 else 0) + (if inS S 3 then 1 else 0)
theorem inS_less {S k a : Nat} (hk : inS S k = true) (hS : S < 16) (hk4 : k < 4) (ha : a < 4) : (inS (S - 2 ^ k) a = true ↔ inS S a = true /\ a ≠ k) /\ pc (S - 2 ^ k) + 1 = pc S := by
 have key : ∀ S : Fin 16, ∀ k a : Fin 4, inS S.1 k.1 = true -> (inS (S.1 - 2 ^ k.1) a.1 = true ↔ inS S.1 a.1 = true /\ a.1 ≠ k.1) /\ pc (S.1 - 2 ^ k.1) + 1 = pc S.1 := by decide +kernel
 exact key ⟨S, hS⟩ ⟨k, hk4⟩ ⟨a, ha⟩ hk
theorem inS_zero {S k : Nat} (hS : S < 16) (hp : pc S = 0) (hk : k < 4) : inS S k = false := by
 have key : ∀ S : Fin 16, ∀ k : Fin 4, pc S.1 = 0 -> inS S.1 k.1 = false := by decide +kernel
 exact key ⟨S, hS⟩ ⟨k, hk⟩ hp
def cand (N : Nat) (L : List Int) (i : Nat) (rc : Nat -> Int) (k : Nat) : Int := (Bd.add (L[i * N + k]?.getD 0) (rc k)).1
def pstep (sk : Nat -> Bool) (cd : Nat -> Int) (best : Int) (k : Nat) : Int := if sk k = true then best else if cd k < best then cd k else best
def skip (i j S k : Nat) : Bool := !(inS S k) || decide (k = i) || decide (k = j)
def pth (N : Nat) (L : List Int) : Nat -> Nat -> Nat -> Nat -> Int
 | 0, i, j, _ => L[i * N + j]?.getD 0
 | f + 1, i, j, S => (List.range N).foldl (pstep (skip i j S) (cand N L i fun k => pth N L f k j (S - 2 ^ k))) (L[i * N + j]?.getD 0)
theorem fold_min {sk : Nat -> Bool} {cd : Nat -> Int} {G : Int -> Prop} : ∀ (l : List Nat) (b : Int), G b -> (∀ k, k ∈ l -> sk k = false -> G (cd k)) ->
 G (l.foldl (pstep sk cd) b) /\ l.foldl (pstep sk cd) b <= b /\ ∀ k, k ∈ l -> sk k = false -> l.foldl (pstep sk cd) b <= cd k
 | [], b, hb, _ => ⟨hb, Int.le_refl _, by simp⟩
 | k :: l, b, hb, hc => by
   rw [List.foldl_cons];have hs : G (pstep sk cd b k) /\ pstep sk cd b k <= b /\ (sk k = false -> pstep sk cd b k <= cd k) := by
    unfold pstep
    by_cases h1 : sk k = true
    ·rw [if_pos h1]; exact ⟨hb, Int.le_refl _, fun h => by rw [h1] at h; cases h⟩
    ·rw [if_neg h1]
     have h1' : sk k = false := by simpa using h1
     by_cases h2 : cd k < b
     ·rw [if_pos h2]; exact ⟨hc k (by simp) h1', by omega, fun _ => Int.le_refl _⟩
     ·rw [if_neg h2]; exact ⟨hb, Int.le_refl _, fun _ => by omega⟩
   obtain ⟨k1, k2, k3⟩ := fold_min l (pstep sk cd b k) hs.1 (fun a ha => hc a (by simp [ha]));refine ⟨k1, by omega, fun a ha hsa => ?_⟩;rcases List.mem_cons.1 ha with rfl | ha
   ·have := hs.2.2 hsa; omega
   ·exact k3 a ha hsa
theorem le_ole {m : Int} (hm : m <= 2305843009213693952) {u v : Int} (hu : lim m u) (hv : lim m v) (h : u <= v) : ole (ob u) (ob v) :=
 not_olt.1 fun h2 => by have := (lt_iff hm hv hu).2 h2; omega
structure POk (N : Nat) (L : List Int) (i j S f : Nat) (v : Int) : Prop where
 lim : Dbm.lim 1152921504606846976 v
 wit : ∀ u, ob v = some u -> ∃ mid : List Nat, mid.Nodup /\ i ∉ mid /\ j ∉ mid /\ (∀ a, a ∈ mid -> a < N /\ inS S a = true) /\ way (mx N L) (i :: (mid ++ [j])) = some u
 low : ∀ mid : List Nat, mid.Nodup -> i ∉ mid -> j ∉ mid -> (∀ a, a ∈ mid -> a < N /\ inS S a = true) -> mid.length <= f -> ole (ob v) (way (mx N L) (i :: (mid ++ [j])))
section
variable {N : Nat} {L : List Int}
theorem mx_lim (h0 : chk N L = 0) : ∀ i j v, i < N -> j < N -> mx N L i j = some v -> -288230376151711744 <= v / 2 /\ v / 2 <= 288230376151711744 := fun i j v hi hj hv => by
 obtain ⟨c1, c2, c3, c4⟩ := chk_iff.1 h0;have hL : L.length = N * N := by exact_mod_cast c3
 obtain ⟨e1, e2⟩ := mx_some hv;have := chk_lim h0 (i * N + j) (by rw [hL]; exact place_lt hi hj);rw [e1] at this;exact this.resolve_left e2
theorem way_lim3 (h0 : chk N L = 0) {i j : Nat} (hi : i < N) (hj : j < N) {mid : List Nat} (hn : mid.Nodup) (him : i ∉ mid) (hm : ∀ a, a ∈ mid -> a < N) {u : Int} (hu : way (mx N L) (i :: (mid ++ [j])) = some u) : -1152921504606846976 <= u / 2 /\ u / 2 <= 1152921504606846976 := by
 obtain ⟨c1, c2, c3, c4⟩ := chk_iff.1 h0;have hlt : ∀ a ∈ i :: (mid ++ [j]), a < N := by
  intro a ha;simp only [List.mem_cons, List.mem_append, List.not_mem_nil, or_false] at ha;rcases ha with rfl | ha | rfl
  ·exact hi
  ·exact hm a ha
  ·exact hj
 have hw := way_lim (by omega) (mx_lim h0) _ u hlt hu;have hl := nodup_len N (i :: mid) (List.nodup_cons.2 ⟨him, hn⟩) (fun a ha => by rcases List.mem_cons.1 ha with rfl | ha; exact hi; exact hm a ha);have hl' : ((i :: (mid ++ [j])).length - 1 : Nat) <= 4 := by simp at hl ⊢; omega
 generalize ((i :: (mid ++ [j])).length - 1 : Nat) = x at hw hl';omega
theorem ob_lim {v m : Int} (h : ∀ u, ob v = some u -> -m <= u / 2 /\ u / 2 <= m) : lim m v := by
 by_cases hv : v = NO
 ·exact .inl hv
 ·exact .inr (h v (by unfold ob; rw [if_neg hv]))
theorem pth_ok (h0 : chk N L = 0) : ∀ (f i j S : Nat), i < N -> j < N -> S < 16 -> inS S i = false -> POk N L i j S f (pth N L f i j S)
 | 0, i, j, S, hi, hj, hS, hiS => by
   have hw : ∀ u, ob (pth N L 0 i j S) = some u -> way (mx N L) (i :: ([] ++ [j])) = some u := fun u hu => by rw [List.nil_append, way_two]; exact hu
   refine ⟨ob_lim fun u hu => way_lim3 h0 hi hj (by simp) (by simp) (by simp) (hw u hu), fun u hu => ⟨[], by simp, by simp, by simp, by simp, hw u hu⟩, fun mid _ _ _ _ hl => ?_⟩;have : mid = [] := List.eq_nil_of_length_eq_zero (by omega);subst this;rw [List.nil_append, way_two];exact ole_refl _
 | f + 1, i, j, S, hi, hj, hS, hiS => by
   obtain ⟨c1, c2, c3, c4⟩ := chk_iff.1 h0;have hN4 : N <= 4 := by omega
   have hL : L.length = N * N := by exact_mod_cast c3
   let G : Int -> Prop := fun v => ∀ u, ob v = some u -> ∃ mid : List Nat, mid.Nodup /\ i ∉ mid /\ j ∉ mid /\ (∀ a, a ∈ mid -> a < N /\ inS S a = true) /\ way (mx N L) (i :: (mid ++ [j])) = some u
   have Glim : ∀ v, G v -> lim 1152921504606846976 v := fun v hv => ob_lim fun u hu => by
    obtain ⟨mid, m1, m2, m3, m4, m5⟩ := hv u hu;exact way_lim3 h0 hi hj m1 m2 (fun a ha => (m4 a ha).1) m5
   have hsk : ∀ k, k < N -> skip i j S k = false -> inS S k = true /\ k ≠ i /\ k ≠ j := fun k hk h => by
    unfold skip at h
    simpa [and_assoc] using h
   have rc : ∀ k, k < N -> skip i j S k = false -> POk N L k j (S - 2 ^ k) f (pth N L f k j (S - 2 ^ k)) := fun k hk h => by
    obtain ⟨h1, h2, h3⟩ := hsk k hk h;have hl := inS_less (a := k) h1 hS (by omega) (by omega);refine pth_ok h0 f k j (S - 2 ^ k) hk hj (Nat.lt_of_le_of_lt (Nat.sub_le _ _) hS) ?_;cases hh : inS (S - 2 ^ k) k with
    | false => rfl
    | true => exact absurd rfl ((hl.1.1 hh).2)
   have cdE : ∀ k, k < N -> skip i j S k = false -> ob (cand N L i (fun k => pth N L f k j (S - 2 ^ k)) k) = oadd (mx N L i k) (ob (pth N L f k j (S - 2 ^ k))) := fun k hk h => by
    have l1 : lim 1152921504606846976 (L[i * N + k]?.getD 0) := lim_mono (chk_lim h0 (i * N + k) (by rw [hL]; exact place_lt hi hk)) (by omega);exact (add_eq l1 (rc k hk h).lim).1
   have cdG : ∀ k, k ∈ List.range N -> skip i j S k = false -> G (cand N L i (fun k => pth N L f k j (S - 2 ^ k)) k) := fun k hk h u hu => by
    have hk := List.mem_range.1 hk;obtain ⟨h1, h2, h3⟩ := hsk k hk h;rw [cdE k hk h] at hu;cases he : mx N L i k with
    | none => rw [he] at hu; cases hu
    | some x =>
      cases hp : ob (pth N L f k j (S - 2 ^ k)) with
      | none => rw [he, hp] at hu; cases hu
      | some y =>
        obtain ⟨mid, m1, m2, m3, m4, m5⟩ := (rc k hk h).wit y hp;have hl := fun a (ha : a < 4) => (inS_less (a := a) h1 hS (by omega) ha).1;have hin : ∀ a, a ∈ mid -> a < N /\ inS S a = true /\ a ≠ k := fun a ha => ⟨(m4 a ha).1, (hl a (by have := (m4 a ha).1; omega)).1 (m4 a ha).2⟩;refine ⟨k :: mid, List.nodup_cons.2 ⟨m2, m1⟩, ?_, ?_, ?_, ?_⟩
        ·intro hm
         rcases List.mem_cons.1 hm with rfl | hm
         ·exact h2 rfl
         ·have := (hin i hm).2.1; rw [hiS] at this; cases this
        ·intro hm
         rcases List.mem_cons.1 hm with rfl | hm
         ·exact h3 rfl
         ·exact m3 hm
        ·intro a ha
         rcases List.mem_cons.1 ha with rfl | ha
         ·exact ⟨hk, h1⟩
         ·exact ⟨(hin a ha).1, (hin a ha).2.1⟩
        ·show oadd (mx N L i k) (way (mx N L) (k :: (mid ++ [j]))) = some u
         rw [m5, he];rw [he, hp] at hu;exact hu
   have b0 : G (L[i * N + j]?.getD 0) := fun u hu => ⟨[], by simp, by simp, by simp, by simp, by rw [List.nil_append, way_two]; exact hu⟩;obtain ⟨k1, k2, k3⟩ := fold_min (sk := skip i j S) (cd := cand N L i fun k => pth N L f k j (S - 2 ^ k)) (G := G) (List.range N) _ b0 cdG;refine ⟨Glim _ k1, k1, fun mid m1 m2 m3 m4 hl => ?_⟩;cases mid with
   | nil =>
     rw [List.nil_append, way_two];exact le_ole (by omega) (Glim _ k1) (Glim _ b0) k2
   | cons k mid =>
     have hkN := (m4 k (by simp)).1;have hkS := (m4 k (by simp)).2;have hki : k ≠ i := fun e => m2 (by simp [e]);have hkj : k ≠ j := fun e => m3 (by simp [e]);have hs : skip i j S k = false := by unfold skip; simp [hkS, hki, hkj]
     have h1 := k3 k (List.mem_range.2 hkN) hs;have h2 := le_ole (m := 1152921504606846976) (by omega) (Glim _ k1) (Glim _ (cdG k (List.mem_range.2 hkN) hs)) h1;rw [cdE k hkN hs] at h2;refine ole_trans h2 ?_;show ole _ (oadd (mx N L i k) (way (mx N L) (k :: (mid ++ [j]))));have hnd := List.nodup_cons.1 m1;refine oadd_mono (ole_refl _) ((rc k hkN hs).low mid hnd.2 hnd.1 (fun h => m3 (by simp [h])) (fun a ha => ?_) (by simp at hl; omega));have ha4 := m4 a (by simp [ha]);exact ⟨ha4.1, (inS_less hkS hS (by omega) (by omega)).1.2 ⟨ha4.2, fun e => hnd.1 (e ▸ ha)⟩⟩
end
end Dbm
namespace Dbm
def full (N i : Nat) : Nat := 2 ^ N - 1 - 2 ^ i
theorem full_ok {N i : Nat} (hN : N <= 4) (hi : i < N) : full N i < 16 /\ inS (full N i) i = false /\ pc (full N i) <= N /\ ∀ a, a < N -> a ≠ i -> inS (full N i) a = true := by
 have key : ∀ N : Fin 5, ∀ i a : Fin 4, i.1 < N.1 -> full N.1 i.1 < 16 /\ inS (full N.1 i.1) i.1 = false /\ pc (full N.1 i.1) <= N.1 /\ (a.1 < N.1 -> a.1 ≠ i.1 -> inS (full N.1 i.1) a.1 = true) := by decide +kernel
 have k := fun a ha => key ⟨N, by omega⟩ ⟨i, by omega⟩ ⟨a, ha⟩ hi;have k0 := k 0 (by omega);exact ⟨k0.1, k0.2.1, k0.2.2.1, fun a ha => (k a (by omega)).2.2.2 ha⟩
def closedR (N : Nat) (L : List Int) : Option (List Int) :=
 if (List.range N).all (fun i => decide (1 <= pth N L N i i (full N i))) = true then some ((List.range (N * N)).map fun p => if p / N = p % N then 1 else pth N L N (p / N) (p % N) (full N (p / N))) else none
def dis : List Nat -> Prop
 | a :: b :: t => a ≠ b /\ dis (b :: t)
 | _ => True
theorem dis_way {N : Nat} {L L1 : List Int} (h : ∀ i j, i < N -> j < N -> i ≠ j -> L1[i * N + j]?.getD 0 = L[i * N + j]?.getD 0) : ∀ (p : List Nat), dis p -> (∀ a, a ∈ p -> a < N) -> way (mx N L1) p = way (mx N L) p
 | [], _, _ => rfl
 | [_], _, _ => rfl
 | a :: b :: t, hd, hp => by
   have h1 : mx N L1 a b = mx N L a b := by unfold mx; rw [h a b (hp a (by simp)) (hp b (by simp)) hd.1]
   simp only [way, h1, dis_way h (b :: t) hd.2 (fun c hc => hp c (List.mem_cons_of_mem a hc))]
theorem dis_simple : ∀ (mid : List Nat) (i j : Nat), mid.Nodup -> i ∉ mid -> j ∉ mid -> (i ≠ j \/ mid ≠ []) -> dis (i :: (mid ++ [j]))
 | [], i, j, _, _, _, h => ⟨h.resolve_right (fun h => h rfl), trivial⟩
 | k :: mid, i, j, hn, hi, hj, _ => by
   have hnd := List.nodup_cons.1 hn;exact ⟨fun e => hi (by simp [e]), dis_simple mid k j hnd.2 hnd.1 (fun h => hj (by simp [h])) (.inl fun e => hj (by simp [e]))⟩
theorem cyc_ok {N n : Nat} {E M : Mx} (inv : Inv N n E M) (hn : n < N) (H : ∀ i mid, i < N -> mid.Nodup -> i ∉ mid -> (∀ a, a ∈ mid -> a < N) -> ole (some 1) (way E (i :: (mid ++ [i])))) :
 ∀ (m : Nat) (p q : List Nat) (i : Nat), p.length + q.length <= m -> (i :: (p ++ [n])).Nodup -> (n :: (q ++ [i])).Nodup -> (∀ a, a ∈ p -> a < n) -> (∀ a, a ∈ q -> a < n) -> i < N -> ole (some 1) (oadd (way E (i :: (p ++ [n]))) (way E (n :: (q ++ [i]))))
 | m, p, q, i, hm, hp, hq, hpn, hqn, hi => by
   have hp' := List.nodup_cons.1 hp;have hq' := List.nodup_cons.1 hq;have hpa := List.nodup_append.1 hp'.2;have hqa := List.nodup_append.1 hq'.2;have hip : i ∉ p := fun h => hp'.1 (List.mem_append.2 (.inl h));have hin : i ≠ n := fun h => hp'.1 (List.mem_append.2 (.inr (by simp [h])));have hnq : n ∉ q := fun h => hq'.1 (List.mem_append.2 (.inl h));have hnp : n ∉ p := fun h => hpa.2.2 n h n (by simp) rfl;have hiq : i ∉ q := fun h => hqa.2.2 i h i (by simp) rfl
   by_cases hd : ∃ v, v ∈ p /\ v ∈ q
   ·obtain ⟨v, hv1, hv2⟩ := hd
    obtain ⟨p1, p2, rfl⟩ := List.append_of_mem hv1;obtain ⟨q1, q2, rfl⟩ := List.append_of_mem hv2;have hvn : v < n := hpn v hv1;have e1 : way E (i :: ((p1 ++ v :: p2) ++ [n])) = oadd (way E (i :: (p1 ++ [v]))) (way E (v :: (p2 ++ [n]))) := by
     have := way_split E (i :: p1) v (p2 ++ [n])
     simpa using this
    have e2 : way E (n :: ((q1 ++ v :: q2) ++ [i])) = oadd (way E (n :: (q1 ++ [v]))) (way E (v :: (q2 ++ [i]))) := by
     have := way_split E (n :: q1) v (q2 ++ [i])
     simpa using this
    have e3 : way E (i :: ((p1 ++ v :: q2) ++ [i])) = oadd (way E (i :: (p1 ++ [v]))) (way E (v :: (q2 ++ [i]))) := by
     have := way_split E (i :: p1) v (q2 ++ [i])
     simpa using this
    have h1 : ole (some 1) (way E (i :: ((p1 ++ v :: q2) ++ [i]))) := by
     have := inv.le_way (by omega) (p1 ++ v :: q2) i i hi hi (fun a ha => by
      rcases List.mem_append.1 ha with h | h
      ·exact hpn a (List.mem_append.2 (.inl h))
      ·rcases List.mem_cons.1 h with rfl | h
       ·exact hvn
       ·exact hqn a (List.mem_append.2 (.inr (List.mem_cons_of_mem _ h))))
     rwa [inv.diag i hi] at this
    have hm' : p2.length + q1.length < p1.length + (p2.length + 1) + (q1.length + (q2.length + 1)) := by omega
    have h2 : ole (some 1) (oadd (way E (v :: (p2 ++ [n]))) (way E (n :: (q1 ++ [v])))) := by
     match m, hm with
     | 0, hm => simp at hm
     | m + 1, hm =>
       refine cyc_ok inv hn H m p2 q1 v (by simp at hm; omega) ?_ ?_ (fun a ha => hpn a (by simp [ha])) (fun a ha => hqn a (by simp [ha])) (by omega)
       ·refine hp'.2.sublist ?_
        have : (p1 ++ v :: p2) ++ [n] = p1 ++ (v :: (p2 ++ [n])) := by simp
        rw [this]; exact List.sublist_append_right _ _
       ·refine hq.sublist ?_
        have : (q1 ++ v :: q2) ++ [i] = (q1 ++ [v]) ++ (q2 ++ [i]) := by simp
        rw [this]; exact List.Sublist.cons_cons n (List.sublist_append_left _ _)
    rw [e1, e2];generalize way E (i :: (p1 ++ [v])) = A at *;generalize way E (v :: (p2 ++ [n])) = B at *;generalize way E (n :: (q1 ++ [v])) = C at *;generalize way E (v :: (q2 ++ [i])) = D at *;have e4 : oadd (oadd A B) (oadd C D) = oadd (oadd A D) (oadd B C) := by
     rw [oadd_assoc, oadd_comm C D, <- oadd_assoc B D C, oadd_comm B D, oadd_assoc D B C, <- oadd_assoc A D]
    rw [e4, <- e3];have := oadd_mono h1 h2
    rwa [oadd_one] at this
   ·have h1 := H i (p ++ n :: q) hi (List.nodup_append.2 ⟨hpa.1, List.nodup_cons.2 ⟨hnq, hqa.1⟩, fun a ha b hb e => by
     subst e;rcases List.mem_cons.1 hb with rfl | hb
     ·exact hnp ha
     ·exact hd ⟨a, ha, hb⟩⟩) (fun h => by
     rcases List.mem_append.1 h with h | h
     ·exact hip h
     ·rcases List.mem_cons.1 h with h | h
      ·exact hin h
      ·exact hiq h) (fun a ha => by
     rcases List.mem_append.1 ha with h | h
     ·have := hpn a h; omega
     ·rcases List.mem_cons.1 h with rfl | h
      ·exact hn
      ·have := hqn a h; omega)
    have e := way_split E (i :: p) n (q ++ [i]);have e' : way E (i :: ((p ++ n :: q) ++ [i])) = oadd (way E (i :: (p ++ [n]))) (way E (n :: (q ++ [i]))) := by simpa using e
    rwa [e'] at h1
theorem there_back {N n : Nat} {E M : Mx} (inv : Inv N n E M) (hn : n < N) (H : ∀ i mid, i < N -> mid.Nodup -> i ∉ mid -> (∀ a, a ∈ mid -> a < N) -> ole (some 1) (way E (i :: (mid ++ [i])))) (i : Nat) (hi : i < N) : ole (some 1) (oadd (M i n) (M n i)) := by
 by_cases hin : i = n
 ·subst hin; rw [inv.diag i hi, oadd_one]; exact ole_refl _
 cases h1 : M i n with
 | none => trivial
 | some u =>
   cases h2 : M n i with
   | none => trivial
   | some v =>
     obtain ⟨p, p1, p2, p3⟩ := inv.wit i n hi hn hin u h1;obtain ⟨q, q1, q2, q3⟩ := inv.wit n i hn hi (fun e => hin e.symm) v h2;have := cyc_ok inv hn H (p.length + q.length) p q i (Nat.le_refl _) p1 q1 p2 q2 hi
     rwa [p3, q3] at this
end Dbm
namespace Dbm
section
variable {N : Nat} {L : List Int}
theorem pth_full (h0 : chk N L = 0) {i j : Nat} (hi : i < N) (hj : j < N) : POk N L i j (full N i) N (pth N L N i j (full N i)) := by
 obtain ⟨c1, c2, c3, c4⟩ := chk_iff.1 h0;obtain ⟨f1, f2, _, _⟩ := full_ok (N := N) (i := i) (by omega) hi;exact pth_ok h0 N i j (full N i) hi hj f1 f2
theorem low_full (h0 : chk N L = 0) {i j : Nat} (hi : i < N) (hj : j < N) {mid : List Nat} (hn : mid.Nodup) (him : i ∉ mid) (hjm : j ∉ mid) (hm : ∀ a, a ∈ mid -> a < N) : ole (ob (pth N L N i j (full N i))) (way (mx N L) (i :: (mid ++ [j]))) := by
 obtain ⟨c1, c2, c3, c4⟩ := chk_iff.1 h0;obtain ⟨_, _, _, f4⟩ := full_ok (N := N) (i := i) (by omega) hi;exact (pth_full h0 hi hj).low mid hn him hjm (fun a ha => ⟨hm a ha, f4 a (hm a ha) (fun e => him (e ▸ ha))⟩) (nodup_len N mid hn hm)
theorem ole_one {v : Int} (h : 1 <= v) : ole (some 1) (ob v) := by
 unfold ob; split
 ·trivial
 ·exact h
theorem one_of_ole {v : Int} (h : ole (some 1) (ob v)) : 1 <= v := by
 unfold ob at h;split at h
 ·rename_i e; rw [e]; decide
 ·exact h
theorem diag_some (hL : L.length = N * N) (hd : ∀ i, i < N -> 1 <= L[i * N + i]?.getD 0) : ∀ n, n <= N -> ∃ Ln, (List.range n).foldlM (diag1 N) L = some Ln := by
 intro n
 induction n with
 | zero => intro _; exact ⟨L, rfl⟩
 | succ n ih =>
   intro hn;obtain ⟨Ln, hLn⟩ := ih (by omega);obtain ⟨a1, a2, a3⟩ := diag_spec hL n Ln (by omega) hLn;refine ⟨Ln.set (n * N + n) 1, ?_⟩;have h1 : Ln[n * N + n]?.getD 0 = L[n * N + n]?.getD 0 := by rw [a3 n n (by omega) (by omega), if_neg (by omega)]
   have h2 := hd n (by omega);rw [List.range_succ, List.foldlM_append, hLn];have h3 : diag1 N Ln n = some (Ln.set (n * N + n) 1) := by unfold diag1; rw [if_neg (by omega)]
   simp [h3]
theorem stage_some {L1 : List Int} (hN4 : N <= 4) (a1 : L1.length = N * N) (hd1 : ∀ i, i < N -> mx N L1 i i = some 1) (hE : ∀ i j v, i < N -> j < N -> mx N L1 i j = some v -> -288230376151711744 <= v / 2 /\ v / 2 <= 288230376151711744)
 (H : ∀ i mid, i < N -> mid.Nodup -> i ∉ mid -> (∀ a, a ∈ mid -> a < N) -> ole (some 1) (way (mx N L1) (i :: (mid ++ [i])))) : ∀ n, n <= N -> ∃ Cn, (List.range n).foldlM (stage N) L1 = some Cn := by
 intro n
 induction n with
 | zero => intro _; exact ⟨L1, rfl⟩
 | succ n ih =>
   intro hn;obtain ⟨Cn, hCn⟩ := ih (by omega);obtain ⟨b1, b2⟩ := fold_inv hN4 a1 hd1 hE n Cn (by omega) hCn;have hq := inv_lim b2 (by omega) hN4 hE;have hq' : ∀ q, q < N * N -> lim 1152921504606846976 (Cn[q]?.getD 0) := fun q h => lim_mono (hq q h) (by omega);have hkk := (mx_some (b2.diag n (by omega))).1;have hok : diagOk N (thrL N n Cn) = true := by
    unfold diagOk;rw [List.all_eq_true];intro i hi;have hi := List.mem_range.1 hi;have ht := thrL_mx (k := n) (by omega) b1 hkk hq' hi hi;have h1 : thr n (mx N Cn) i i = some 1 := by
     rcases thr_cases n (mx N Cn) i i with e | ⟨_, e⟩
     ·rw [e]; exact b2.diag i hi
     ·exfalso
      rw [b2.diag i hi] at e;exact olt_irrefl e (there_back b2 (by omega) H i hi)
    rw [h1] at ht;rw [(mx_some ht).1]; decide
   refine ⟨thrL N n Cn, ?_⟩;rw [List.range_succ, List.foldlM_append, hCn];have h3 : stage N Cn n = some (thrL N n Cn) := by unfold stage; rw [if_pos hok]
   simp [h3]
theorem closedR_eq (h0 : chk N L = 0) : closedR N L = closeL N L := by
 obtain ⟨c1, c2, c3, c4⟩ := chk_iff.1 h0;have hN4 : N <= 4 := by omega
 have hL : L.length = N * N := by exact_mod_cast c3
 cases hC : closeL N L with
 | some C =>
   obtain ⟨L1, a2, a3, inv, hl, hE⟩ := close_inv h0 hC;have hoff : ∀ i j, i < N -> j < N -> i ≠ j -> L1[i * N + j]?.getD 0 = L[i * N + j]?.getD 0 := fun i j hi hj h => by rw [a3 i j hi hj, if_neg h]
   have hw : ∀ i j mid, i < N -> j < N -> mid.Nodup -> i ∉ mid -> j ∉ mid -> (∀ a, a ∈ mid -> a < N) -> (i ≠ j \/ mid ≠ []) -> way (mx N L1) (i :: (mid ++ [j])) = way (mx N L) (i :: (mid ++ [j])) := fun i j mid hi hj hn him hjm hm h =>
    dis_way hoff _ (dis_simple mid i j hn him hjm h) (fun a ha => by
     simp only [List.mem_cons, List.mem_append, List.not_mem_nil, or_false] at ha;rcases ha with rfl | ha | rfl
     ·exact hi
     ·exact hm a ha
     ·exact hj)
   have hne : ∀ i j, i < N -> j < N -> i ≠ j -> mx N C i j = ob (pth N L N i j (full N i)) := fun i j hi hj hij => by
    have hp := pth_full h0 hi hj;refine ole_antisymm ?_ ?_
    ·cases hv : ob (pth N L N i j (full N i)) with
     | none => cases mx N C i j <;> trivial
     | some u =>
       obtain ⟨mid, m1, m2, m3, m4, m5⟩ := hp.wit u hv;rw [<- m5, <- hw i j mid hi hj m1 m2 m3 (fun a ha => (m4 a ha).1) (.inl hij)];exact inv.le_way (Nat.le_refl _) mid i j hi hj (fun a ha => (m4 a ha).1)
    ·cases hv : mx N C i j with
     | none => cases ob (pth N L N i j (full N i)) <;> trivial
     | some u =>
       obtain ⟨mid, m1, m2, m3⟩ := inv.wit i j hi hj hij u hv;have n1 := List.nodup_cons.1 m1;have n2 := List.nodup_append.1 n1.2;have him : i ∉ mid := fun h => n1.1 (List.mem_append.2 (.inl h));have hjm : j ∉ mid := fun h => n2.2.2 j h j (by simp) rfl;rw [<- m3, hw i j mid hi hj n2.1 him hjm m2 (.inl hij)];exact low_full h0 hi hj n2.1 him hjm m2
   have hdg : ∀ i, i < N -> 1 <= pth N L N i i (full N i) := fun i hi => by
    have hp := pth_full h0 hi hi;apply one_of_ole;cases hv : ob (pth N L N i i (full N i)) with
    | none => trivial
    | some u =>
      obtain ⟨mid, m1, m2, m3, m4, m5⟩ := hp.wit u hv;cases mid with
      | nil =>
        rw [List.nil_append, way_two] at m5;have := a2 i hi;rw [(mx_some m5).1] at this;exact this
      | cons k mid =>
        rw [<- m5, <- hw i i (k :: mid) hi hi m1 m2 m3 (fun a ha => (m4 a ha).1) (.inr (by simp))];have := inv.le_way (Nat.le_refl _) (k :: mid) i i hi hi (fun a ha => (m4 a ha).1)
        rwa [inv.diag i hi] at this
   unfold closedR;rw [if_pos (by rw [List.all_eq_true]; intro i hi; simpa using hdg i (List.mem_range.1 hi))]
   congr 1
   apply List.ext_getElem
   ·simp [hl]
   ·intro q hq1 hq2
    have hq : q < N * N := by rw [<- hl]; exact hq2
    have hdi := div_lt hq;have hmo := mod_lt hq;simp only [List.getElem_map, List.getElem_range];have hCq : C[q]?.getD 0 = C[q] := by rw [List.getElem?_eq_getElem hq2]; rfl
    by_cases e : q / N = q % N
    ·rw [if_pos e]
     have := (mx_some (inv.diag (q / N) hdi)).1;rw [show q / N * N + q / N = q by have := div_mod (N := N) (p := q); omega, hCq] at this;exact this.symm
    ·rw [if_neg e]
     have := hne (q / N) (q % N) hdi hmo e;unfold mx at this;rw [div_mod, hCq] at this;exact (ob_inj this).symm
 | none =>
   unfold closedR;rw [if_neg];intro hall;rw [List.all_eq_true] at hall;have hdg : ∀ i, i < N -> 1 <= pth N L N i i (full N i) := fun i hi => by simpa using hall i (List.mem_range.2 hi)
   have H0 : ∀ i mid, i < N -> mid.Nodup -> i ∉ mid -> (∀ a, a ∈ mid -> a < N) -> ole (some 1) (way (mx N L) (i :: (mid ++ [i]))) := fun i mid hi hn him hm =>
    ole_trans (ole_one (hdg i hi)) (low_full h0 hi hi hn him him hm)
   have hd : ∀ i, i < N -> 1 <= L[i * N + i]?.getD 0 := fun i hi => by
    have := H0 i [] hi (by simp) (by simp) (by simp);rw [List.nil_append, way_two] at this;exact one_of_ole this
   obtain ⟨L1, hL1⟩ := diag_some hL hd N (Nat.le_refl _);obtain ⟨a1, a2, a3⟩ := diag_spec hL N L1 (Nat.le_refl _) hL1;have a3' : ∀ i j, i < N -> j < N -> L1[i * N + j]?.getD 0 = if i = j then 1 else L[i * N + j]?.getD 0 := fun i j hi hj => by
    rw [a3 i j hi hj]
    by_cases e : i = j
    ·rw [if_pos ⟨e, hi⟩, if_pos e]
    ·rw [if_neg (fun h => e h.1), if_neg e]
   have hd1 : ∀ i, i < N -> mx N L1 i i = some 1 := fun i hi => by unfold mx; rw [a3' i i hi hi, if_pos rfl]; rfl
   have hE : ∀ i j v, i < N -> j < N -> mx N L1 i j = some v -> -288230376151711744 <= v / 2 /\ v / 2 <= 288230376151711744 := fun i j v hi hj hv => by
    obtain ⟨e1, e2⟩ := mx_some hv;rw [a3' i j hi hj] at e1;split at e1
    ·subst e1; decide
    ·have := chk_lim h0 (i * N + j) (by rw [hL]; exact place_lt hi hj)
     rw [e1] at this;exact this.resolve_left e2
   have hoff : ∀ i j, i < N -> j < N -> i ≠ j -> L1[i * N + j]?.getD 0 = L[i * N + j]?.getD 0 := fun i j hi hj h => by rw [a3' i j hi hj, if_neg h]
   have H1 : ∀ i mid, i < N -> mid.Nodup -> i ∉ mid -> (∀ a, a ∈ mid -> a < N) -> ole (some 1) (way (mx N L1) (i :: (mid ++ [i]))) := fun i mid hi hn him hm => by
    cases mid with
    | nil => rw [List.nil_append, way_two, hd1 i hi]; exact ole_refl _
    | cons k mid =>
      rw [dis_way hoff _ (dis_simple (k :: mid) i i hn him him (.inr (by simp))) (fun a ha => by
       simp only [List.mem_cons, List.mem_append, List.not_mem_nil, or_false] at ha;rcases ha with rfl | (rfl | ha) | rfl
       ·exact hi
       ·exact hm a (by simp)
       ·exact hm a (by simp [ha])
       ·exact hi)]
      exact H0 i (k :: mid) hi hn him hm
   obtain ⟨Cn, hCn⟩ := stage_some hN4 a1 hd1 hE H1 N (Nat.le_refl _);unfold closeL at hC;rw [hL1, Option.bind_some, hCn] at hC;cases hC
end
end Dbm
end
section
open Go.RowKit
theorem may_any (a : Int) (w : World) :
 Calls Tryz.prog 243 #[.int .i64 a] w fun e w' => e = .returned (.bool (Num.okB a)) /\ w = w' := by
 by_cases h1 : -2305843009213693952 <= a
 ·by_cases h2 : a <= 2305843009213693952
  ·have hr := Lib.hid (Num.okB_iff.2 ⟨h1, h2⟩)
   go_enter Tryz.func243, Tryz.ntmps243
   go_wp2
   go_ret
   exact ⟨by rw [hr.out]; rfl, rfl⟩
  ·have hr := Lib.hid (Num.okB_no.2 (.inr (Int.not_le.1 h2)))
   go_enter Tryz.func243, Tryz.ntmps243
   go_wp2
   go_ret
   exact ⟨by rw [hr.out]; rfl, rfl⟩
 ·have hr := Lib.hid (Num.okB_no.2 (.inl (Int.not_le.1 h1)))
  go_enter Tryz.func243, Tryz.ntmps243
  go_wp2
  go_ret
  exact ⟨by rw [hr.out]; rfl, rfl⟩
theorem tmod2_even {b : Int} (h : b % 2 = 0) : b.tmod 2 = 0 := Int.tmod_eq_zero_of_dvd (Int.dvd_of_emod_eq_zero h)
theorem tmod2_odd {b : Int} (h : ¬ b % 2 = 0) : (b.tmod 2 == 0) = false := by
 simp only [beq_eq_false_iff_ne, ne_eq];intro e;exact h (Int.emod_eq_zero_of_dvd (Int.dvd_of_tmod_eq_zero e))
theorem tdiv2_even {b : Int} (h : b % 2 = 0) : b.tdiv 2 = b / 2 := by
 obtain ⟨k, rfl⟩ := Int.dvd_of_emod_eq_zero h;rw [Int.mul_tdiv_cancel_left _ (by decide), Int.mul_ediv_cancel_left _ (by decide)]
theorem rnumber_any (b : Int) (hlo : -9223372036854775808 <= b) (hhi : b <= 9223372036854775807) (w : World) :
 Calls Tryz.prog 42 #[.int .i64 b] w fun e w' => e = .returned (.int .i64 (b / 2)) /\ w = w' := by
 by_cases h : b % 2 = 0
 ·have h1 := tmod2_even h
  have h2 := Lib.hid (tdiv2_even h);clear h
  go_enter Tryz.func42, Tryz.ntmps42
  go_wp2
  go_ret
  exact ⟨ret_int h2.out, rfl⟩
 ·have h1 := tmod2_odd h
  have h3 : (b.tmod 2 != 0) = true := by simp only [bne, h1]; rfl
  have h2 := Lib.hid (show (b - 1).tdiv 2 = b / 2 by rw [tdiv2_even (by omega)]; omega);have h4 : -9223372036854775808 <= b - 1 := by omega
  clear h
  go_enter Tryz.func42, Tryz.ntmps42
  go_wp2
  go_ret
  exact ⟨ret_int h2.out, rfl⟩
theorem rstrict_any (b : Int) (w : World) :
 Calls Tryz.prog 177 #[.int .i64 b] w fun e w' => e = .returned (.bool (Bd.st b)) /\ w = w' := by
 by_cases h : b % 2 = 0
 ·have h1 := tmod2_even h
  have hr := Lib.hid (show Bd.st b = true by simp [Bd.st, h]);clear h
  go_enter Tryz.func177, Tryz.ntmps177
  go_wp2
  go_ret
  exact ⟨by rw [hr.out]; rfl, rfl⟩
 ·have h1 := tmod2_odd h
  have hr := Lib.hid (show Bd.st b = false by simp [Bd.st, h]);clear h
  go_enter Tryz.func177, Tryz.ntmps177
  go_wp2
  go_ret
  exact ⟨by rw [hr.out]; rfl, rfl⟩
theorem rmade_any (c : Int) (s : Bool) (h1 : -4611686018427387904 <= c) (h2 : c <= 4611686018427387903) (w : World) :
 Calls Tryz.prog 187 #[.int .i64 c, .bool s] w fun e w' => e = .returned (.int .i64 (Bd.mk c s)) /\ w = w' := by
 cases s
 all_goals
  go_enter Tryz.func187, Tryz.ntmps187
  go_wp2
  go_ret
  exact ⟨ret_int (by simp [Bd.mk]; omega), rfl⟩
def Bd.sum (a b : Int) : Int × Bool :=
 if a = 9223372036854775807 \/ b = 9223372036854775807 then (9223372036854775807, true) else if Num.okB (a / 2 + b / 2) then (Bd.mk (a / 2 + b / 2) (Bd.st a || Bd.st b), true) else (0, false)
theorem rbsum_any (a b : Int) (ha : Bd.may a = true) (hb : Bd.may b = true) (alo : -9223372036854775808 <= a) (ahi : a <= 9223372036854775807) (blo : -9223372036854775808 <= b) (bhi : b <= 9223372036854775807) (w : World) :
 Calls Tryz.prog 238 #[.int .i64 a, .int .i64 b] w fun e w' => e = .returned (.tuple #[.int .i64 (Bd.sum a b).1, .bool (Bd.sum a b).2]) /\ w = w' := by
 by_cases na : a = 9223372036854775807
 ·have hr := Lib.hid (show Bd.sum a b = (9223372036854775807, true) by simp [Bd.sum, na])
  subst na;clear ha hb
  go_enter Tryz.func238, Tryz.ntmps238
  go_wp2
  go_ret2
  exact ⟨ibtup hr.out rfl rfl, rfl⟩
 ·have na1 : (a == 9223372036854775807) = false := by simpa using na
  by_cases nb : b = 9223372036854775807
  ·have hr := Lib.hid (show Bd.sum a b = (9223372036854775807, true) by simp [Bd.sum, nb])
   subst nb;clear ha hb na
   go_enter Tryz.func238, Tryz.ntmps238
   go_wp2
   go_ret2
   exact ⟨ibtup hr.out rfl rfl, rfl⟩
  ·have nb1 : (b == 9223372036854775807) = false := by simpa using nb
   obtain ⟨a1, a2⟩ := Num.okB_iff.1 (Bd.okB_of_may ha na);obtain ⟨b1, b2⟩ := Num.okB_iff.1 (Bd.okB_of_may hb nb);cases hs : Num.okB (a / 2 + b / 2) with
   | false =>
     have hr := Lib.hid (show Bd.sum a b = (0, false) by simp [Bd.sum, na, nb, hs]);clear ha hb na nb
     go_enter Tryz.func238, Tryz.ntmps238
     go_wp2_with (first
      | (go_at_call 42; refine (rnumber_any _ (by assumption) (by assumption) _).mono ?_; rintro e w' ⟨rfl, rfl⟩)
      | (go_at_call 243; refine (may_any _ _).mono ?_; rintro e w' ⟨rfl, rfl⟩))
     go_ret2
     exact ⟨ibtup hr.out rfl rfl, rfl⟩
   | true =>
     have hr := Lib.hid (show Bd.sum a b = (Bd.mk (a / 2 + b / 2) (Bd.st a || Bd.st b), true) by simp [Bd.sum, na, nb, hs]);obtain ⟨s1, s2⟩ := Num.okB_iff.1 hs;clear ha hb na nb;cases hst : Bd.st a
     all_goals
      go_enter Tryz.func238, Tryz.ntmps238
      go_wp2_with (first
       | (go_at_call 42; refine (rnumber_any _ (by assumption) (by assumption) _).mono ?_; rintro e w' ⟨rfl, rfl⟩)
       | (go_at_call 177; refine (rstrict_any _ _).mono ?_; rintro e w' ⟨rfl, rfl⟩)
       | (go_at_call 187; refine (rmade_any _ _ (by omega) (by omega) _).mono ?_; rintro e w' ⟨rfl, rfl⟩)
       | (go_at_call 243; refine (may_any _ _).mono ?_; rintro e w' ⟨rfl, rfl⟩))
      go_ret2
      exact ⟨ibtup hr.out rfl (by rw [hst]; rfl), rfl⟩
theorem Bd.add_sum {a b : Int} (ha : Bd.may a = true) (hb : Bd.may b = true) : Bd.add a b = if (Bd.sum a b).2 then ((Bd.sum a b).1, 0) else (0, 10) := by
 by_cases h : a = 9223372036854775807 \/ b = 9223372036854775807
 ·simp [Bd.add, Bd.sum, ha, hb, h]
 ·cases hs : Num.okB (a / 2 + b / 2) <;> simp [Bd.add, Bd.sum, ha, hb, h, Bd.made, hs]
end
section
open Go.RowKit Go.Proofs.YtanhnllkccldhaaGreat.Eng Enc
namespace Dbm
def int64 (b : Int) : Prop := -9223372036854775808 <= b /\ b <= 9223372036854775807
end Dbm
theorem atB {w0 : Base} {hp : List LB} {r L : List Nat} {w w1 : World} (h : At w0 hp r L w w1) (hL : ∀ b, b ∈ L -> w.heap.size <= b) : Below w.heap.size w w1 :=
 ⟨h.below.os.trans h.base.os.symm, h.below.tape.trans h.base.tape.symm, h.below.output.trans h.base.output.symm, h.size, fun k hk => h.step k hk fun hm => by have := hL k hm; omega⟩
theorem rmay04_any (n : Int) (L : List Int) (hn : Dbm.int64 n) (hL : ∀ b, b ∈ L -> Dbm.int64 b) (a : Option Addr) (cap : Nat) (w : World) (hS : Sl w.heap.size w (.slice a L.length cap) L) :
 Calls Tryz.prog 210 #[.agg #[.int .i64 n, .slice a L.length cap]] w fun e w' => e = .returned (.bool (decide (Dbm.chk n L = 0))) /\ Below w.heap.size w w' := by
 refine fun_eq 0 w Tryz.func210 (args := [.agg [.val (.int .i64 n), .val (.slice a L.length cap)]]) rfl rfl ?_;obtain ⟨_, _, hfe, hcap1, hcap2, _⟩ := hS.form;injection hfe with _ _ hfe;subst hfe;unfold maxLen at hcap2;refine NewI.mk fun b1 hb1 => ?_;have no : ¬ (1 <= n /\ n <= 4 /\ (L.length : Int) = n * n /\ L.any (fun b => !(Dbm.mayC b)) = false) -> decide (Dbm.chk n L = 0) = false := fun h => decide_eq_false (fun e => h (Dbm.chk_iff.1 e));refine Branch.mk (fun z1 => ?_) (fun z1 => ?_)
 ·have h1 : n < 1 := of_decide_eq_true z1
  rw [no (by omega)];exact EndI.mk fun w9 h9 => rfl
 have h1 : ¬ n < 1 := of_decide_eq_false z1;refine Branch.mk (fun z2 => ?_) (fun z2 => ?_)
 ·have h2 : 4 < n := of_decide_eq_true z2
  rw [no (by omega)];exact EndI.mk fun w9 h9 => rfl
 have h2 : ¬ 4 < n := of_decide_eq_false z2;have hnn : 0 <= n * n /\ n * n <= 16 := by
  have : n = 1 \/ n = 2 \/ n = 3 \/ n = 4 := by omega
  rcases this with rfl | rfl | rfl | rfl <;> decide
 refine Need.ok ?_;refine Branch.mk (fun z3 => ?_) (fun z3 => ?_)
 ·have h3 : (L.length : Int) ≠ n * n := of_decide_eq_true z3
  rw [no (fun h => h3 h.2.2.1)];exact EndI.mk fun w9 h9 => rfl
 have h3 : (L.length : Int) = n * n := by have := of_decide_eq_false z3; omega
 refine LoopI.invC (α := Nat × World) (fun y => [(3, .val (.int .i64 y.1))]) (fun y => y.2) (fun y => y.1 <= L.length /\ Below w.heap.size w y.2 /\ ∀ b, b ∈ L.take y.1 -> Dbm.mayC b = true) (fun y => L.length - y.1) ?_ ?_
 ·intro w1 h1
  exact ⟨(0, w1), Cov.au rfl rfl rfl rfl rfl, rfl, Nat.zero_le _, h1.below, by simp⟩
 rintro ⟨k, V⟩ ⟨hk, hV, hall⟩;simp only at hk hV hall;refine Branch.mk (fun z4 => ?_) (fun z4 => ?_)
 ·have hlt : k < L.length := by have := of_decide_eq_true z4; simp only at this; omega
  have hx := List.getElem?_eq_getElem (l := L) (i := k) hlt;generalize L[k] = x at hx;have hxi := hL x (List.mem_of_getElem? hx);have hSV := hS.go hV hV.size;refine hSV.idx hx fun ad had => ?_;refine hSV.ld1 hx had (Below.refl _ _) (by simp) ?_
  have bad : Dbm.mayC x = false -> decide (Dbm.chk n L = 0) = false := fun h => no (fun h4 => by
   have := List.any_eq_false.1 h4.2.2.2 x (List.mem_of_getElem? hx);simp [h] at this)
  have good : Dbm.mayC x = true -> ∀ b, b ∈ L.take (k + 1) -> Dbm.mayC b = true := fun h b hb => by
   rw [List.take_add_one, hx] at hb;rcases List.mem_append.1 hb with hb | hb
   ·exact hall b hb
   ·rw [List.mem_singleton.1 hb]; exact h
  refine Branch.mk (fun z5 => ?_) (fun z5 => ?_)
  ·have hne : x ≠ 9223372036854775807 := of_decide_eq_true z5
   have hmC : Dbm.mayC x = (decide (-288230376151711744 <= x / 2) && decide (x / 2 <= 288230376151711744)) := by unfold Dbm.mayC; simp [hne]
   refine CallI.to0 (fun w => rnumber_any x hxi.1 hxi.2 w) fun w2 => ?_;refine Branch.mk (fun z6 => ?_) (fun z6 => ?_)
   ·have h6 : x / 2 < -288230376151711744 := of_decide_eq_true z6
    rw [bad (by rw [hmC]; simp; omega)];exact EndI.mk fun w9 h9 => rfl
   have h6 : ¬ x / 2 < -288230376151711744 := of_decide_eq_false z6;refine CallI.to0 (fun w => rnumber_any x hxi.1 hxi.2 w) fun w3 => ?_;refine Branch.mk (fun z7 => ?_) (fun z7 => ?_)
   ·have h7 : 288230376151711744 < x / 2 := of_decide_eq_true z7
    rw [bad (by rw [hmC]; simp; omega)];exact EndI.mk fun w9 h9 => rfl
   have h7 : ¬ 288230376151711744 < x / 2 := of_decide_eq_false z7;refine Need.ok (EndI.mk fun w9 h9 => ⟨(k + 1, w9), Cov.au rfl rfl rfl rfl rfl, rfl, ⟨hlt, h9.below, good (by rw [hmC]; simp; omega)⟩, by simp only; omega⟩)
  ·have heq : x = 9223372036854775807 := by have := of_decide_eq_false z5; simpa using this
   refine Need.ok (EndI.mk fun w9 h9 => ⟨(k + 1, w9), Cov.au rfl rfl rfl rfl rfl, rfl, ⟨hlt, h9.below, good (by rw [heq]; decide)⟩, by simp only; omega⟩)
 ·have hge : k = L.length := by have := of_decide_eq_false z4; simp only at this; omega
  subst hge;rw [List.take_length] at hall;have hc : Dbm.chk n L = 0 := Dbm.chk_iff.2 ⟨by omega, by omega, h3, by rw [List.any_eq_false]; intro b hb; simp [hall b hb]⟩;refine EndI.mk fun w9 h9 => ?_;rw [decide_eq_true hc]
section
variable {N : Nat} {L : List Int}
theorem lim_int64 {v : Int} (h : Dbm.lim 1152921504606846976 v) : Dbm.int64 v /\ Bd.may v = true := by
 rcases h with h | h
 ·rw [h]; exact ⟨by unfold Dbm.NO Dbm.int64; omega, by decide⟩
 ·exact ⟨by unfold Dbm.int64; omega, Bd.may_of (Num.okB_iff.2 (by omega))⟩
theorem sum_add {u v : Int} (hu : Dbm.lim 1152921504606846976 u) (hv : Dbm.lim 1152921504606846976 v) : Bd.sum u v = ((Bd.add u v).1, true) := by
 have h := Bd.add_sum (lim_int64 hu).2 (lim_int64 hv).2;have h2 : (Bd.sum u v).2 = true := by
  unfold Bd.sum;split
  ·rfl
  ·rename_i hn
   have hu' := hu.resolve_left (fun e => hn (.inl e));have hv' := hv.resolve_left (fun e => hn (.inr e));rw [if_pos (Num.okB_iff.2 (by omega))]
 rw [h, if_pos h2];exact Prod.ext rfl h2
theorem pathStep_any (h0 : Dbm.chk N L = 0) (a : Option Addr) (cap : Nat) (i j S : Nat) (hi : i < N) (hj : j < N) (hS16 : S < 16) (p : Nat -> Int) (hp : ∀ k, k < N -> Dbm.skip i j S k = false -> Dbm.lim 1152921504606846976 (p k)) (w : World) (hS : Sl w.heap.size w (.slice a L.length cap) L)
 (hcall : ∀ k, k < N -> Dbm.skip i j S k = false -> ∀ w1, Sl w1.heap.size w1 (.slice a L.length cap) L -> Calls Tryz.prog 227 #[.agg #[.int .i64 N, .slice a L.length cap], .int .i64 k, .int .i64 j, .int .i64 (S - 2 ^ k : Nat)] w1 fun e w' => e = .returned (.int .i64 (p k)) /\ Below w1.heap.size w1 w') :
 Calls Tryz.prog 227 #[.agg #[.int .i64 N, .slice a L.length cap], .int .i64 i, .int .i64 j, .int .i64 S] w fun e w' => e = .returned (.int .i64 ((List.range N).foldl (Dbm.pstep (Dbm.skip i j S) (Dbm.cand N L i p)) (L[i * N + j]?.getD 0))) /\ Below w.heap.size w w' := by
 obtain ⟨c1, c2, c3, c4⟩ := Dbm.chk_iff.1 h0;have hN4 : N <= 4 := by omega
 have hLN : L.length = N * N := by exact_mod_cast c3
 have hNN : N * N <= 16 := Nat.mul_le_mul hN4 hN4;refine fun_eq 0 w Tryz.func227 (args := [.agg [.val (.int .i64 N), .val (.slice a L.length cap)], .val (.int .i64 i), .val (.int .i64 j), .val (.int .i64 S)]) rfl rfl ?_;have hpl := fun k (hk : k < N) => Dbm.place_lt (N := N) (i := i) (j := k) hi hk;have hget := fun k (hk : k < N) => show L[i * N + k]? = some (L[i * N + k]?.getD 0) by rw [List.getElem?_eq_getElem (by rw [hLN]; exact hpl k hk)]; rfl
 have hiN : ((i : Int) * (N : Int)) = ((i * N : Nat) : Int) := (Int.natCast_mul i N).symm;have hiN16 : i * N < 16 := by have := hpl j hj; omega
 refine NewI.mk fun b1 hb1 => ?_;refine Need.mk (by rw [hiN]; simp only [inK]; omega) ?_;have hpj := hpl j hj;refine Need.mk (by rw [hiN]; simp only [inK]; omega) ?_;refine hS.idx (k := i * N + j) (hget j hj) fun ad had => ?_;refine hS.ld1 (k := i * N + j) (hget j hj) had (Below.refl _ _) (by simp) ?_;refine LoopI.invC (α := (Nat × Int) × World) (fun y => [(10, .val (.int .i64 y.1.1)), (9, .val (.int .i64 y.1.2))]) (fun y => y.2) (fun y => y.1.1 <= N /\ Below w.heap.size w y.2 /\ y.1.2 = (List.range y.1.1).foldl (Dbm.pstep (Dbm.skip i j S) (Dbm.cand N L i p)) (L[i * N + j]?.getD 0)) (fun y => N - y.1.1) ?_ ?_
 ·intro w1 h1
  exact ⟨((0, L[i * N + j]?.getD 0), w1), Cov.au rfl rfl rfl rfl rfl, rfl, Nat.zero_le _, h1.below, rfl⟩
 rintro ⟨⟨k, best⟩, V⟩ ⟨hk, hV, hbest⟩;simp only at hk hV hbest;refine Branch.mk (fun z1 => ?_) (fun z1 => ?_)
 ·have hlt : k < N := by have := of_decide_eq_true z1; simp only at this; omega
  have hnext : (List.range (k + 1)).foldl (Dbm.pstep (Dbm.skip i j S) (Dbm.cand N L i p)) (L[i * N + j]?.getD 0) = Dbm.pstep (Dbm.skip i j S) (Dbm.cand N L i p) best k := by
   rw [List.range_succ, List.foldl_append, <- hbest]; rfl
  have hbit : bits .and .i64 ((S : Int) / 2 ^ ((k : Int).toNat)) 1 = ((S / 2 ^ k % 2 : Nat) : Int) := by
   rw [i64_and1, Int.toNat_natCast]; norm_cast
  have hsame : Dbm.skip i j S k = true -> (List.range (k + 1)).foldl (Dbm.pstep (Dbm.skip i j S) (Dbm.cand N L i p)) (L[i * N + j]?.getD 0) = best := fun h => by rw [hnext]; unfold Dbm.pstep; rw [if_pos h]
  refine Need.mk (by simp only [Int.toNat_natCast, IntKind.bits]; omega) ?_
  conv => whnf
  rw [hbit];refine Branch.mk (fun z2 => ?_) (fun z2 => ?_)
  ·have h2 : Dbm.inS S k = false := by have := of_decide_eq_true z2; unfold Dbm.inS; simp; omega
   refine Need.ok (EndI.mk fun w9 h9 => ⟨((k + 1, best), w9), Cov.au rfl rfl rfl rfl rfl, rfl, ⟨hlt, h9.below, (hsame (by simp [Dbm.skip, h2])).symm⟩, by simp only; omega⟩)
  have h2 : Dbm.inS S k = true := by have := of_decide_eq_false z2; unfold Dbm.inS; simp; omega
  refine Branch.mk (fun z3 => ?_) (fun z3 => ?_)
  ·have h3 : k = i := by have := of_decide_eq_true z3; simp only at this; omega
   refine Need.ok (EndI.mk fun w9 h9 => ⟨((k + 1, best), w9), Cov.au rfl rfl rfl rfl rfl, rfl, ⟨hlt, h9.below, (hsame (by simp [Dbm.skip, h3])).symm⟩, by simp only; omega⟩)
  have h3 : k ≠ i := by have := of_decide_eq_false z3; simp only at this; omega
  refine Branch.mk (fun z4 => ?_) (fun z4 => ?_)
  ·have h4 : k = j := by have := of_decide_eq_true z4; simp only at this; omega
   refine Need.ok (EndI.mk fun w9 h9 => ⟨((k + 1, best), w9), Cov.au rfl rfl rfl rfl rfl, rfl, ⟨hlt, h9.below, (hsame (by simp [Dbm.skip, h4])).symm⟩, by simp only; omega⟩)
  have h4 : k ≠ j := by have := of_decide_eq_false z4; simp only at this; omega
  have hsk : Dbm.skip i j S k = false := by simp [Dbm.skip, h2, h3, h4]
  have hSk : 2 ^ k <= S /\ 2 ^ k <= 8 := by
   have key : ∀ S : Fin 16, ∀ k : Fin 4, Dbm.inS S.1 k.1 = true -> 2 ^ k.1 <= S.1 /\ 2 ^ k.1 <= 8 := by decide +kernel
   exact key ⟨S, hS16⟩ ⟨k, by omega⟩ h2
  have hpow : (2 : Int) ^ ((k : Int).toNat) = ((2 ^ k : Nat) : Int) := by rw [Int.toNat_natCast]; norm_cast
  have hc := hcall k hlt hsk;generalize hP : 2 ^ k = P at hSk hpow hc;have hsub : (S : Int) - 1 * (P : Int) = ((S - P : Nat) : Int) := by omega
  refine DrawI.go (.tk 0 (.tk 1 (.tk 2 (.tk 3 (.tk 4 (.tk 5 (.tk 6 (.tk 7 (.tk 8 (.tk 9 (.tk 10 (.tk 11 (.tk 12 (.tk 13 (.tk 14 (.tk 15 (.tk 16 (.ev 17 (.ev 18 (.tk 19 (.tk 20 (.tk 21 (.tk 22 (.tk 23 .done)))))))))))))))))))))))) (by kernel_rfl) fun w2 h2' => ?_;have hpk := hpl k hlt;have hw2 : Below w.heap.size w w2 := hV.trans (h2'.go.mono hV.size);have hS2 := hS.go hw2 hw2.size;refine Need.mk (by rw [hiN]; simp only [inK]; omega) ?_;refine Need.mk (by rw [hiN]; simp only [inK]; omega) ?_;refine hS2.idx (k := i * N + k) (hget k hlt) fun ad2 had2 => ?_;refine hS2.ld1 (k := i * N + k) (hget k hlt) had2 (Below.refl _ _) (by simp) ?_;refine Need.mk (by rw [hpow]; simp only [Int.toNat_natCast, IntKind.bits, inK]; omega) ?_
  conv => whnf
  rw [hpow];refine Need.mk (by rw [hsub]; simp only [inK]; omega) ?_
  conv => whnf
  rw [hsub];apply CallI.use1
  focus (exact fun w3 h3 => hc w3 (hS.go h3.below h3.below.size))
  intro w3 v3 h3' hB3;have hlu : Dbm.lim 1152921504606846976 (L[i * N + k]?.getD 0) := Dbm.lim_mono (Dbm.chk_lim h0 (i * N + k) (by rw [hLN]; exact hpk)) (by omega);have hlp := hp k hlt hsk;have hsum := fun w => rbsum_any (L[i * N + k]?.getD 0) (p k) (lim_int64 hlu).2 (lim_int64 hlp).2 (lim_int64 hlu).1.1 (lim_int64 hlu).1.2 (lim_int64 hlp).1.1 (lim_int64 hlp).1.2 w;rw [sum_add hlu hlp] at hsum;refine CallI.to0 (fun w => hsum w) fun w4 => ?_;refine Branch.yes rfl ?_;refine Branch.mk (fun z5 => ?_) (fun z5 => ?_)
  ·have h5 : Dbm.cand N L i p k < best := of_decide_eq_true z5
   refine Need.ok (EndI.mk fun w9 h9 => ⟨((k + 1, Dbm.cand N L i p k), w9), Cov.au rfl rfl rfl rfl rfl, rfl, ⟨hlt, h9.below, ?_⟩, by simp only; omega⟩);simp only;rw [hnext]; unfold Dbm.pstep; rw [if_neg (by simp [hsk]), if_pos h5]
  ·have h5 : ¬ Dbm.cand N L i p k < best := of_decide_eq_false z5
   refine Need.ok (EndI.mk fun w9 h9 => ⟨((k + 1, best), w9), Cov.au rfl rfl rfl rfl rfl, rfl, ⟨hlt, h9.below, ?_⟩, by simp only; omega⟩);simp only;rw [hnext]; unfold Dbm.pstep; rw [if_neg (by simp [hsk]), if_neg h5]
 ·have hge : k = N := by have := of_decide_eq_false z1; simp only at this; omega
  subst hge;refine EndI.mk fun w9 h9 => ?_;rw [hbest]
theorem path_any (h0 : Dbm.chk N L = 0) (a : Option Addr) (cap : Nat) : ∀ (f i j S : Nat), i < N -> j < N -> S < 16 -> Dbm.inS S i = false -> Dbm.pc S <= f -> ∀ w, Sl w.heap.size w (.slice a L.length cap) L ->
 Calls Tryz.prog 227 #[.agg #[.int .i64 N, .slice a L.length cap], .int .i64 i, .int .i64 j, .int .i64 S] w fun e w' => e = .returned (.int .i64 (Dbm.pth N L f i j S)) /\ Below w.heap.size w w'
 | 0, i, j, S, hi, hj, hS, hiS, hf, w, hSl => by
   obtain ⟨c1, c2, c3, c4⟩ := Dbm.chk_iff.1 h0;have hsk : ∀ k, k < N -> Dbm.skip i j S k = true := fun k hk => by
    have := Dbm.inS_zero hS (by omega) (show k < 4 by omega);simp [Dbm.skip, this]
   have hno : ∀ k, k < N -> Dbm.skip i j S k = false -> False := fun k hk h => by rw [hsk k hk] at h; cases h
   have hfold : ∀ n, n <= N -> (List.range n).foldl (Dbm.pstep (Dbm.skip i j S) (Dbm.cand N L i fun _ => 0)) (L[i * N + j]?.getD 0) = L[i * N + j]?.getD 0 := by
    intro n
    induction n with
    | zero => intro _; rfl
    | succ n ih =>
      intro hn;rw [List.range_succ, List.foldl_append, ih (by omega)];show Dbm.pstep _ _ _ n = _;unfold Dbm.pstep; rw [if_pos (hsk n (by omega))]
   have h := pathStep_any h0 a cap i j S hi hj hS (fun _ => 0) (fun k hk h => (hno k hk h).elim) w hSl (fun k hk h => (hno k hk h).elim);rw [hfold N (Nat.le_refl _)] at h;exact h
 | f + 1, i, j, S, hi, hj, hS, hiS, hf, w, hSl => by
   obtain ⟨c1, c2, c3, c4⟩ := Dbm.chk_iff.1 h0;have hin : ∀ k, k < N -> Dbm.skip i j S k = false -> Dbm.inS S k = true /\ Dbm.inS (S - 2 ^ k) k = false /\ Dbm.pc (S - 2 ^ k) <= f := fun k hk h => by
    have h1 : Dbm.inS S k = true := by unfold Dbm.skip at h; simp at h; exact h.1.1
    have h2 := Dbm.inS_less (a := k) h1 hS (by omega) (by omega);refine ⟨h1, ?_, by omega⟩;cases hh : Dbm.inS (S - 2 ^ k) k with
    | false => rfl
    | true => exact absurd rfl ((h2.1.1 hh).2)
   exact pathStep_any h0 a cap i j S hi hj hS (fun k => Dbm.pth N L f k j (S - 2 ^ k)) (fun k hk h => (Dbm.pth_ok h0 f k j (S - 2 ^ k) hk hj (Nat.lt_of_le_of_lt (Nat.sub_le _ _) hS) (hin k hk h).2.1).lim) w hSl
    (fun k hk h w1 hS1 => path_any h0 a cap f k j (S - 2 ^ k) hk hj (Nat.lt_of_le_of_lt (Nat.sub_le _ _) hS) (hin k hk h).2.1 (hin k hk h).2.2 w1 hS1)
end
namespace Dbm
def ent (N : Nat) (L : List Int) (q : Nat) : Int := if q / N = q % N then 1 else pth N L N (q / N) (q % N) (full N (q / N))
def ents (N : Nat) (L : List Int) (p : Nat) : List Int := (List.range p).map (ent N L)
theorem ents_len (N : Nat) (L : List Int) (p : Nat) : (ents N L p).length = p := by simp [ents]
theorem ents_succ (N : Nat) (L : List Int) (p : Nat) : ents N L (p + 1) = ents N L p ++ [ent N L p] := by simp [ents, List.range_succ]
def rc (N : Nat) (L : List Int) : Int × List Int × Bool := match closeL N L with | some C => (N, C, true) | none => (0, [], false)
theorem rc_no {N : Nat} {L : List Int} (h0 : chk N L = 0) {i : Nat} (hi : i < N) (h : pth N L N i i (full N i) < 1) : rc N L = (0, [], false) := by
 have : closedR N L = none := by
  unfold closedR;rw [if_neg];intro hall;have := (List.all_eq_true.1 hall) i (List.mem_range.2 hi);simp at this; omega
 unfold rc; rw [<- closedR_eq h0, this]
theorem rc_yes {N : Nat} {L : List Int} (h0 : chk N L = 0) (h : ∀ i, i < N -> 1 <= pth N L N i i (full N i)) : rc N L = ((N : Int), ents N L (N * N), true) := by
 have : closedR N L = some (ents N L (N * N)) := by
  unfold closedR;rw [if_pos (by rw [List.all_eq_true]; intro i hi; simpa using h i (List.mem_range.1 hi))]
  rfl
 unfold rc; rw [<- closedR_eq h0, this]
theorem full_bits {N i : Nat} (hN : N <= 4) (hi : i < N) : bits .andNot .i64 (1 * 2 ^ ((N : Int).toNat) - 1) (1 * 2 ^ ((i : Int).toNat)) = ((full N i : Nat) : Int) /\ full N i <= 15 := by
 have key : ∀ N : Fin 5, ∀ i : Fin 4, i.1 < N.1 -> bits .andNot .i64 (1 * 2 ^ (((N.1 : Nat) : Int).toNat) - 1) (1 * 2 ^ (((i.1 : Nat) : Int).toNat)) = ((full N.1 i.1 : Nat) : Int) /\ full N.1 i.1 <= 15 := by decide +kernel
 exact key ⟨N, by omega⟩ ⟨i, by omega⟩ hi
theorem shl_one {N : Nat} (hN : N <= 4) : (1 : Int) * 2 ^ ((N : Int).toNat) <= 16 /\ 1 <= (1 : Int) * 2 ^ ((N : Int).toNat) := by
 have key : ∀ N : Fin 5, (1 : Int) * 2 ^ (((N.1 : Nat) : Int).toNat) <= 16 /\ 1 <= (1 : Int) * 2 ^ (((N.1 : Nat) : Int).toNat) := by decide +kernel
 exact key ⟨N, by omega⟩
end Dbm
section
variable {N : Nat} {L : List Int}
theorem rclosed_any (h0 : Dbm.chk N L = 0) (a : Option Addr) (cap : Nat) (w : World) (hS : Sl w.heap.size w (.slice a L.length cap) L) :
 Calls Tryz.prog 211 #[.agg #[.int .i64 N, .slice a L.length cap]] w (Ret w fun v w' => ∃ a' c', v = .tuple #[.agg #[.int .i64 (Dbm.rc N L).1, .slice a' (Dbm.rc N L).2.1.length c'], .bool (Dbm.rc N L).2.2] /\ Own 84 w.heap.size w' (.slice a' (Dbm.rc N L).2.1.length c') (Dbm.rc N L).2.1) := by
 obtain ⟨c1, c2, c3, c4⟩ := Dbm.chk_iff.1 h0;have hN4 : N <= 4 := by omega
 have hLN : L.length = N * N := by exact_mod_cast c3
 have hNN : N * N <= 16 := Nat.mul_le_mul hN4 hN4;refine fun_ret 0 w Tryz.func211 (args := [.agg [.val (.int .i64 N), .val (.slice a L.length cap)]]) rfl rfl ?_;refine NewI.mk fun b1 hb1 => ?_;refine NewI.mk fun b2 hb2 => ?_;refine NewI.mk fun b3 hb3 => ?_;obtain ⟨X, hX1, hX2, hX3, hXw, hXm⟩ : ∃ X, b1 < X /\ b2 < X /\ b3 < X /\ w.heap.size <= X /\ ∀ n, b1 < n -> b2 < n -> b3 < n -> w.heap.size <= n -> X <= n := ⟨max (max (max b1 b2) b3 + 1) w.heap.size, by omega, by omega, by omega, by omega, fun n h1 h2 h3 h4 => by omega⟩
 refine LoopI.inv (α := Nat × World × Value) (fun y => [(5, .val (.int .i64 y.1))]) (fun y => [⟨[.val (.int .i64 N), .val (.slice a L.length cap)], 81⟩, ⟨[.val (.int .i64 0), .val (.slice none 0 0)], 81⟩, ⟨[.val (.int .i64 N), .val y.2.2], 81⟩]) (fun y => y.2.1)
  (fun y => y.1 <= N /\ Below w.heap.size w y.2.1 /\ X <= y.2.1.heap.size /\ Own 84 X y.2.1 y.2.2 (Dbm.ents N L (y.1 * N)) /\ ∀ i, i < y.1 -> 1 <= Dbm.pth N L N i i (Dbm.full N i)) (fun y => N - y.1) ?_ ?_
 ·intro w1 h1
  exact ⟨(0, w1, .slice none 0 0), Cov.au rfl rfl rfl rfl rfl, rfl, Nat.zero_le _, h1.below, hXm _ (h1.lt b1 (by simp)) (h1.lt b2 (by simp)) (h1.lt b3 (by simp)) h1.below.size, by simp only [Nat.zero_mul]; exact Own.nil, fun i hi => by simp at hi⟩
 rintro ⟨i, V, sv⟩ ⟨hi, hV, hXV, hO, hd⟩;simp only at hi hV hXV hO hd;refine Branch.mk (fun z1 => ?_) (fun z1 => ?_)
 ·have hiN : i < N := by have := of_decide_eq_true z1; simp only at this; omega
  refine LoopI.inv (α := Nat × World × Value) (fun y => [(6, .val (.int .i64 y.1))]) (fun y => [⟨[.val (.int .i64 N), .val (.slice a L.length cap)], 81⟩, ⟨[.val (.int .i64 0), .val (.slice none 0 0)], 81⟩, ⟨[.val (.int .i64 N), .val y.2.2], 81⟩]) (fun y => y.2.1)
   (fun y => y.1 <= N /\ Below w.heap.size w y.2.1 /\ X <= y.2.1.heap.size /\ Own 84 X y.2.1 y.2.2 (Dbm.ents N L (i * N + y.1)) /\ (i < y.1 -> 1 <= Dbm.pth N L N i i (Dbm.full N i))) (fun y => N - y.1) ?_ ?_
  ·intro w1 h1
   exact ⟨(0, w1, sv), Cov.au rfl rfl rfl rfl rfl, rfl, Nat.zero_le _, h1.below, Nat.le_trans hXV h1.size, hO.at h1 (by simp), fun h => by simp at h⟩
  rintro ⟨j, U, tv⟩ ⟨hj, hU, hXU, hO2, hd2⟩;simp only at hj hU hXU hO2 hd2;refine Branch.mk (fun z2 => ?_) (fun z2 => ?_)
  ·have hjN : j < N := by have := of_decide_eq_true z2; simp only at this; omega
   obtain ⟨fb, fb15⟩ := Dbm.full_bits hN4 hiN;obtain ⟨f1, f2, f3, _⟩ := Dbm.full_ok (N := N) (i := i) hN4 hiN;have sN := Dbm.shl_one hN4;have si := Dbm.shl_one (N := i) (by omega);refine DrawI.go (.tk 0 (.tk 1 (.tk 2 (.tk 3 (.tk 4 (.tk 5 (.tk 6 (.tk 7 .done)))))))) (by kernel_rfl) fun w2 h2 => ?_;refine Need.mk ⟨by omega, by simp only [Int.toNat_natCast, IntKind.bits]; omega, by simp only [inK]; omega⟩ ?_;refine Need.ok ?_;refine Need.mk ⟨by simp only; omega, by simp only [Int.toNat_natCast, IntKind.bits]; omega, by simp only [inK]; omega⟩ ?_
   conv => whnf
   rw [fb];apply CallI.use1
   focus (exact fun w3 h3 => path_any h0 a cap N i j (Dbm.full N i) hiN hjN f1 f2 f3 w3 (hS.go h3.below h3.below.size))
   intro w3 v3 h3 hB3;have hv3 : Below w.heap.size w v3 := h3.below.trans (hB3.mono h3.below.size);have hO3 := (hO2.below ((atB h2 (by simp)))).below (atB h3 (by simp)) |>.below hB3;have hXv3 : X <= v3.heap.size := Nat.le_trans hXU (Nat.le_trans h2.size (Nat.le_trans h3.size hB3.size));have hq1 : (i * N + j) / N = i := Dbm.place_div hjN;have hq2 : (i * N + j) % N = j := Dbm.place_mod hjN;have hpl : i * N + j < N * N := Dbm.place_lt hiN hjN;have hb1 : b1 < v3.heap.size := by omega
   refine Branch.mk (fun z3 => ?_) (fun z3 => ?_)
   ·have hij : i = j := by have := of_decide_eq_true z3; simp only at this; omega
    refine Branch.mk (fun z4 => ?_) (fun z4 => ?_)
    ·have hlt1 := of_decide_eq_true z4
     rw [Dbm.rc_no h0 hiN (by rw [<- hij] at hlt1; exact hlt1)];exact EndI.mk fun w9 h9 => ⟨_, _, rfl, Own.nil⟩
    have hge1 : 1 <= Dbm.pth N L N i i (Dbm.full N i) := by have := of_decide_eq_false z4; rw [<- hij] at this; omega
    have hent : Dbm.ent N L (i * N + j) = 1 := by unfold Dbm.ent; rw [hq1, hq2, if_pos hij]
    have hes : Dbm.ents N L (i * N + (j + 1)) = Dbm.ents N L (i * N + j) ++ [1] := by rw [<- Nat.add_assoc, Dbm.ents_succ, hent]
    refine NewI.mk fun b5 hb5 => ?_;have hb5' : v3.heap.size <= b5 := hb5;have hr : ∀ g, tv.ownBlock = some g -> w.heap.size <= g /\ g ∉ [b1, b2, b3, b5] := fun g hg => by
     have := hO3.lt g hg;refine ⟨Nat.le_trans hXw this.1, fun hm => ?_⟩;simp only [List.mem_cons, List.not_mem_nil, or_false] at hm;omega
    refine GenN.app (α := Int) elB (Dbm.ents N L (i * N + j)) [(1 : Int)] X (fun w5 h5 => hO3.below h5.go) (fun w5 h5 => src_own h5 3 rfl rfl rfl rfl) (by rw [Dbm.ents_len]; unfold maxLen; simp; omega) (by rw [Dbm.ents_len]; simp; omega) (fun w5 h5 => Nat.le_trans hXv3 h5.size)
     (fun w5 w6 h5 hg => keep_grown h5 hg hr) fun sv' w5 w6 h5 hg hO' => ?_
    obtain ⟨a', c', rfl⟩ := hO'.form;rw [<- hes] at hO' ⊢;have hX6 : X <= w6.heap.size := Nat.le_trans hXv3 (Nat.le_trans h5.size hg.size);refine Need.ok (EndI.mk fun w7 h7 => ⟨(j + 1, w7, .slice a' (Dbm.ents N L (i * N + (j + 1))).length c'), Cov.au rfl rfl rfl rfl rfl, rfl, ⟨hjN, h7.below, Nat.le_trans hX6 h7.size, ?_, fun h => hge1⟩, by simp only; omega⟩);exact hO'.at h7 (by intro b hb; simp at hb; subst hb; exact hX3)
   ·have hij : i ≠ j := by have := of_decide_eq_false z3; simp only at this; omega
    have hent : Dbm.ent N L (i * N + j) = Dbm.pth N L N i j (Dbm.full N i) := by unfold Dbm.ent; rw [hq1, hq2, if_neg hij]
    have hes : Dbm.ents N L (i * N + (j + 1)) = Dbm.ents N L (i * N + j) ++ [Dbm.pth N L N i j (Dbm.full N i)] := by rw [<- Nat.add_assoc, Dbm.ents_succ, hent]
    refine NewI.mk fun b5 hb5 => ?_;have hb5' : v3.heap.size <= b5 := hb5;have hr : ∀ g, tv.ownBlock = some g -> w.heap.size <= g /\ g ∉ [b1, b2, b3, b5] := fun g hg => by
     have := hO3.lt g hg;refine ⟨Nat.le_trans hXw this.1, fun hm => ?_⟩;simp only [List.mem_cons, List.not_mem_nil, or_false] at hm;omega
    refine GenN.app (α := Int) elB (Dbm.ents N L (i * N + j)) [Dbm.pth N L N i j (Dbm.full N i)] X (fun w5 h5 => hO3.below h5.go) (fun w5 h5 => src_own h5 3 rfl rfl rfl rfl) (by rw [Dbm.ents_len]; unfold maxLen; simp; omega) (by rw [Dbm.ents_len]; simp; omega) (fun w5 h5 => Nat.le_trans hXv3 h5.size)
     (fun w5 w6 h5 hg => keep_grown h5 hg hr) fun sv' w5 w6 h5 hg hO' => ?_
    obtain ⟨a', c', rfl⟩ := hO'.form;rw [<- hes] at hO' ⊢;have hX6 : X <= w6.heap.size := Nat.le_trans hXv3 (Nat.le_trans h5.size hg.size);refine Need.ok (EndI.mk fun w7 h7 => ⟨(j + 1, w7, .slice a' (Dbm.ents N L (i * N + (j + 1))).length c'), Cov.au rfl rfl rfl rfl rfl, rfl, ⟨hjN, h7.below, Nat.le_trans hX6 h7.size, ?_, fun h => hd2 (by simp only at h; omega)⟩, by simp only; omega⟩);exact hO'.at h7 (by intro b hb; simp at hb; subst hb; exact hX3)
  ·have hge : j = N := by have := of_decide_eq_false z2; simp only at this; omega
   subst hge;have hnx : i * j + j = (i + 1) * j := by rw [Nat.add_mul, Nat.one_mul]
   refine Need.ok (EndI.mk fun w9 h9 => ⟨(i + 1, w9, tv), Cov.au rfl rfl rfl rfl rfl, rfl, ⟨hiN, h9.below, Nat.le_trans hXU h9.size, ?_, fun k hk => ?_⟩, by simp only; omega⟩)
   ·simp only; rw [<- hnx]; exact hO2.at h9 (by simp)
   ·by_cases hki : k = i
    ·subst hki; exact hd2 hiN
    ·exact hd k (by simp only at hk; omega)
 ·have hge : i = N := by have := of_decide_eq_false z1; simp only at this; omega
  subst hge;rw [Dbm.rc_yes h0 hd];obtain ⟨a', c', rfl⟩ := hO.form;refine EndI.mk fun w9 h9 => ⟨a', c', rfl, ?_⟩;exact (hO.at h9 (by intro b hb; simp at hb; subst hb; exact hX2)).lower hXw
end
theorem ld1_row {n : Nat} {W w : World} {L : List Nat} {a : Option Addr} {ad : Addr} {m cap : Nat} {l : List Int} (h : Sl n W (.slice a m cap) l) {k : Nat} {x : Int} (hk : l[k]? = some x) (had : a = some ad) (hB : Below n W w) (hL : ∀ b, b ∈ L -> n <= b) {K : Value -> Prop} (hK : K (.int .i64 x)) :
 LoadI w L (ad.add ((k : Int).toNat * 1)) K := by
 subst had;obtain ⟨h1, h2⟩ := h.cell hk hB;have h3 := h2 0 (.int .i64 x) rfl;have e0 : ∀ q : Addr, q.add 0 = q := fun q => by simp [Addr.add]
 rw [e0] at h3;refine ⟨⟨_, ⟨h3, fun e => ?_⟩, hK⟩⟩;have hb : (ad.add ((k : Int).toNat * 1)).block = ad.block := by unfold Addr.add; split <;> rfl
 rw [hb] at e;have := hL _ e; omega
theorem rtwin_any (n : Int) (a : Option Addr) (cap : Nat) (L : List Int) (hlen : L.length <= 1000000) (w : World) (hS : Sl w.heap.size w (.slice a L.length cap) L) :
 Calls Tryz.prog 248 #[.agg #[.int .i64 n, .slice a L.length cap]] w (Ret w fun v w' => ∃ a' c', v = .agg #[.int .i64 n, .slice a' L.length c'] /\ Own TB w.heap.size w' (.slice a' L.length c') L) := by
 refine fun_ret 0 w Tryz.func248 (args := [.agg [.val (.int .i64 n), .val (.slice a L.length cap)]]) rfl rfl ?_;refine NewI.mk fun b1 hb1 => ?_;refine NewI.mk fun b2 hb2 => ?_;refine DrawI.wr (.tk 0 (.tk 1 (.tk 2 (.tk 3 (.ev 4 (.tk 5 (.ev 6 .done))))))) [1] [] (by kernel_rfl) rfl (by simp) fun w1 h1 => ?_;have hlb : ∀ b, b ∈ [b1, b2] -> b < w1.heap.size := fun b hb => h1.lt b hb;refine GenN.app (α := Int) elB [] L w1.heap.size (fun w5 h5 => Own.nil) (fun w5 h5 => (hS.go h5.below h5.below.size).src) (by unfold maxLen; simp; omega) (by simp; omega) (fun w5 h5 => h5.size) (fun w5 w6 h5 hg => kpD_grown h5 hg (fun k hk => by cases hk)) fun v1 w5 w6 h5 hg hO1 => ?_;rw [List.nil_append] at hO1;obtain ⟨a1, c1, rfl⟩ := hO1.form;refine EndI.mk fun w9 h9 => ⟨a1, c1, rfl, ?_⟩;exact (hO1.at h9 (by intro b hb; rw [List.mem_singleton.1 hb]; exact hlb b2 (by simp))).lower h1.below.size
theorem rlesser_any (n m : Int) (a b : Option Addr) (cap cb : Nat) (L M : List Int) (hpos : 0 < L.length) (hlen : L.length <= 1000000) (hLM : L.length <= M.length) (w : World) (hS : Sl w.heap.size w (.slice a L.length cap) L) (hT : Sl w.heap.size w (.slice b M.length cb) M) :
 Calls Tryz.prog 247 #[.agg #[.int .i64 n, .slice a L.length cap], .agg #[.int .i64 m, .slice b M.length cb]] w (Ret w fun v w' => ∃ a' c', v = .agg #[.int .i64 n, .slice a' (Dbm.lessr L M).length c'] /\ Sl w'.heap.size w' (.slice a' (Dbm.lessr L M).length c') (Dbm.lessr L M)) := by
 refine fun_ret 0 w Tryz.func247 (args := [.agg [.val (.int .i64 n), .val (.slice a L.length cap)], .agg [.val (.int .i64 m), .val (.slice b M.length cb)]]) rfl rfl ?_;refine NewI.mk fun b1 hb1 => ?_;refine NewI.mk fun b2 hb2 => ?_;refine NewI.mk fun b3 hb3 => ?_;apply CallI.use
 focus (exact fun w3 h3 => rtwin_any n a cap L hlen w3 (hS.go h3.below h3.below.size))
 rintro v w3 w4 h3 hB4 ⟨a', cap', rfl, hO⟩;have hgb : ∀ b, b ∈ [b1, b2, b3] -> b < w3.heap.size := fun b hb => h3.lt b hb;have hwb : w.heap.size <= w3.heap.size := h3.below.size;refine NewI.mk fun b4 hb4 => ?_;have hb4' : w4.heap.size <= b4 := hb4;obtain ⟨g, rfl, hg, hr⟩ := hO.row hpos;obtain ⟨_, ⟨h0, _⟩ | ⟨g', c', cur', e0, _, hgc, hlc, hm, hs, _⟩⟩ := id hO
 ·cases h0
 injection e0 with e0 e1 e2;injection e0 with e0; injection e0 with e0; subst e0; subst e2;have hglt := hr.lt;have hgr : ∀ b, b ∈ [b1, b2, b3, b4] -> b ≠ g := fun b hb e => by
  simp only [List.mem_cons, List.not_mem_nil, or_false] at hb;have h1 := hgb b1 (by simp);have h2 := hgb b2 (by simp);have h3 := hgb b3 (by simp);omega
 have hgw : w.heap.size <= g := Nat.le_trans hwb hg;have hw4 : Below w.heap.size w w4 := h3.below.trans (hB4.mono hwb);refine LoopI.invC (α := Nat × World) (fun y => [(6, .val (.int .i64 y.1))]) (fun y => y.2) (fun y => y.1 <= L.length /\ Below w.heap.size w y.2 /\ RowAt TB y.2 g (Dbm.lessTo L M y.1)) (fun y => L.length - y.1) ?_ ?_
 ·intro w5 h5
  exact ⟨(0, w5), Cov.au rfl rfl rfl rfl rfl, rfl, Nat.zero_le _, h5.below, by simp only [Dbm.lessTo_zero]; exact hr.at h5 (fun hm => by simp at hm; exact hgr b4 (by simp) hm.symm)⟩
 rintro ⟨k, V⟩ ⟨hk, hV, hR⟩;simp only at hk hV hR;have hll := Dbm.lessTo_len L M k;refine Branch.mk (fun z1 => ?_) (fun z1 => ?_)
 ·have hlt : k < L.length := by have := of_decide_eq_true z1; simp only at this; omega
  have hy := List.getElem?_eq_getElem (l := M) (i := k) (by omega);generalize hyv : M[k]'(by omega) = y at hy;have hM : M[k]?.getD 0 = y := by rw [hy]; rfl
  have hTV := hT.go hV hV.size;refine DrawI.go (.tk 0 (.tk 1 (.tk 2 (.tk 3 (.tk 4 (.tk 5 (.tk 6 (.tk 7 (.tk 8 (.tk 9 (.tk 10 .done))))))))))) (by kernel_rfl) fun w5 h5 => ?_;have r5 := hR.at h5 (by simp);have hT5 := hTV.go h5.go h5.size;refine hT5.idx hy fun ad had => ?_;refine hT5.ld1 hy had (Below.refl _ _) (by simp) ?_;refine IdxI.mk ⟨_, ⟨rfl, by simp only; omega, by simp only; omega⟩, ?_⟩;have ead : (⟨g, 0, none⟩ : Addr).add ((k : Int).toNat * 1) = ⟨g, k, none⟩ := by simp [addr_addL]
  refine LoadI.mk ⟨_, ⟨by rw [show ((⟨g, 0, none⟩ : Addr).add ((((k, V).1 : Nat) : Int).toNat * 1)) = ⟨g, k, none⟩ from ead]; exact r5.cell (j := k) (by omega), by simp⟩, ?_⟩;rw [Dbm.lessTo_get L M hlt];refine Branch.mk (fun z2 => ?_) (fun z2 => ?_)
  ·have hlt2 : y < L[k]?.getD 0 := of_decide_eq_true z2
   refine DrawI.wr (.tk 0 (.tk 1 (.tk 2 (.tk 3 (.tk 4 (.tk 5 (.tk 6 (.tk 7 (.tk 8 (.ev 9 .done)))))))))) [] [g] (by kernel_rfl) rfl (fun b hb h => hgr b hb (by simpa using h)) fun w6 h6 => ?_;have r6 := r5.at h6 (by simp);have hT6 := hT5.go h6.go h6.size;refine hT6.idx hy fun ad2 had2 => ?_;refine ld1_row hT hy had2 h6.below (fun b hb => by rw [List.mem_singleton.1 hb]; exact hgw) ?_;refine IdxI.mk ⟨_, ⟨rfl, by simp only; omega, by simp only; omega⟩, ?_⟩;refine StoreI.mk fun w7 h7 => ?_;have r7 := r6.at h7 (by simp);rw [show ((⟨g, 0, none⟩ : Addr).add ((((k, V).1 : Nat) : Int).toNat * 1)) = ⟨g, k, none⟩ from ead];refine ⟨⟨⟨_, r7.cell (j := k) (by omega)⟩, r7.frozen _⟩, Zo.kpD_set hgw hgr (by simp [locs]), ?_⟩;refine Need.ok (EndI.mk fun w9 h9 => ⟨(k + 1, w9), Cov.au rfl rfl rfl rfl rfl, rfl, ⟨hlt, h9.below, ?_⟩, by simp only; omega⟩);show RowAt TB w9 g (Dbm.lessTo L M (k + 1));rw [Dbm.lessTo_succ L M hlt, hM, show min (L[k]?.getD 0) y = y by omega];exact (r7.set (by omega) _).at h9 (by simp)
  ·have hge2 : ¬ y < L[k]?.getD 0 := of_decide_eq_false z2
   refine Need.ok (EndI.mk fun w9 h9 => ⟨(k + 1, w9), Cov.au rfl rfl rfl rfl rfl, rfl, ⟨hlt, h9.below, ?_⟩, by simp only; omega⟩);show RowAt TB w9 g (Dbm.lessTo L M (k + 1));have e1 : Dbm.lessTo L M (k + 1) = Dbm.lessTo L M k := by
    rw [Dbm.lessTo_succ L M hlt, hM, show min (L[k]?.getD 0) y = L[k]?.getD 0 by omega];apply List.ext_getElem?;intro i
    by_cases e : i = k
    ·subst e
     have h1 : (Dbm.lessTo L M i)[i]? = some ((Dbm.lessTo L M i)[i]?.getD 0) := by rw [List.getElem?_eq_getElem (by omega)]; rfl
     rw [List.getElem?_set_self (by omega), h1, Dbm.lessTo_get L M hlt]
    ·rw [List.getElem?_set_ne (fun h => e h.symm)]
   rw [e1];exact r5.at h9 (by simp)
 ·have hge : k = L.length := by have := of_decide_eq_false z1; simp only at this; omega
  subst hge;rw [Dbm.lessTo_all] at hR;have hlr := Dbm.lessr_len L M;refine EndI.mk fun w9 h9 => ⟨_, cap', by rw [hlr], ?_⟩;exact Fresh.sl (e := TB) (base := w.heap.size) (.inr ⟨g, cap', rfl, by omega, hm, hgw, hR.at h9 (fun hm => hgr b3 (by simp) (List.mem_singleton.1 hm).symm)⟩)
theorem rcommon_any (N : Nat) (m : Int) (a b : Option Addr) (cap cb : Nat) (L M : List Int) (h0 : Dbm.chk N (Dbm.lessr L M) = 0) (hLM : L.length <= M.length) (w : World) (hS : Sl w.heap.size w (.slice a L.length cap) L) (hT : Sl w.heap.size w (.slice b M.length cb) M) :
 Calls Tryz.prog 245 #[.agg #[.int .i64 N, .slice a L.length cap], .agg #[.int .i64 m, .slice b M.length cb]] w (Ret w fun v w' => ∃ a' c', v = .tuple #[.agg #[.int .i64 (Dbm.rc N (Dbm.lessr L M)).1, .slice a' (Dbm.rc N (Dbm.lessr L M)).2.1.length c'], .bool (Dbm.rc N (Dbm.lessr L M)).2.2] /\ Own TB w.heap.size w' (.slice a' (Dbm.rc N (Dbm.lessr L M)).2.1.length c') (Dbm.rc N (Dbm.lessr L M)).2.1) := by
 obtain ⟨c1, c2, c3, c4⟩ := Dbm.chk_iff.1 h0;have hlr := Dbm.lessr_len L M;have hN : N = 1 \/ N = 2 \/ N = 3 \/ N = 4 := by omega
 have hLpos : 0 < L.length /\ L.length <= 16 := by rcases hN with rfl | rfl | rfl | rfl <;> simp at c3 <;> omega
 refine fun_ret 0 w Tryz.func245 (args := [.agg [.val (.int .i64 N), .val (.slice a L.length cap)], .agg [.val (.int .i64 m), .val (.slice b M.length cb)]]) rfl rfl ?_;refine NewI.mk fun b1 hb1 => ?_;refine NewI.mk fun b2 hb2 => ?_;refine NewI.mk fun b3 hb3 => ?_;apply CallI.use
 focus (exact fun w1 h1 => rlesser_any N m a b cap cb L M hLpos.1 (by omega) hLM w1 (hS.go h1.below h1.below.size) (hT.go h1.below h1.below.size))
 rintro v w1 v1 h1 hB1 ⟨a1, c1', rfl, hS1⟩;apply CallI.use
 focus (exact fun w2 h2 => rclosed_any h0 a1 c1' w2 (hS1.go (atB h2 (by simp)) h2.size))
 rintro v w2 v2 h2 hB2 ⟨a2, c2', rfl, hO2⟩;refine EndI.mk fun w9 h9 => ⟨a2, c2', rfl, ?_⟩;exact (hO2.at h9 (fun b hb => by rw [List.mem_singleton.1 hb]; exact h2.lt b3 (by simp))).lower h2.below.size
def sameB (m n : Int) (L M : List Int) : Bool := decide (m = n) && decide (L = M)
theorem same04_any (m n : Int) (L M : List Int) (a b : Option Addr) (ca cb : Nat) (w : World) (hA : Sl w.heap.size w (.slice a L.length ca) L) (hB : Sl w.heap.size w (.slice b M.length cb) M) :
 Calls Tryz.prog 212 #[.agg #[.int .i64 m, .slice a L.length ca], .agg #[.int .i64 n, .slice b M.length cb]] w fun e w' => e = .returned (.bool (sameB m n L M)) /\ Below w.heap.size w w' := by
 obtain ⟨_, _, ea, hca, hma, _⟩ := hA.form;injection ea with e1 e2 e3;subst e1; subst e3;unfold maxLen at hma;refine fun_eq 0 w Tryz.func212 (args := [.agg [.val (.int .i64 m), .val (.slice a L.length ca)], .agg [.val (.int .i64 n), .val (.slice b M.length cb)]]) rfl rfl ?_;refine NewI.mk fun b1 hb1 => ?_;refine NewI.mk fun b2 hb2 => ?_;refine Branch.mk (fun hc => ?_) (fun hc => ?_)
 ·refine EndI.mk fun w1 h1 => ?_
  have : m ≠ n := by simpa using hc
  simp [sameB, this]
 have hmn : m = n := by simpa using hc
 refine Branch.mk (fun hc => ?_) (fun hc => ?_)
 ·refine EndI.mk fun w1 h1 => ?_
  have h1 : (L.length : Int) ≠ M.length := by simpa using hc
  have : L ≠ M := fun e => h1 (by rw [e]);simp [sameB, this]
 have hlm : L.length = M.length := by (have : (L.length : Int) = M.length := by simpa using hc); omega
 refine LoopI.invC (α := Nat × World) (fun y => [(5, .val (.int .i64 y.1))]) (fun y => y.2) (fun y => y.1 <= L.length /\ Below w.heap.size w y.2 /\ ∀ j, j < y.1 -> L[j]? = M[j]?) (fun y => L.length - y.1) ?_ ?_
 ·intro w1 h1
  exact ⟨(0, w1), Cov.au rfl rfl rfl rfl rfl, rfl, Nat.zero_le _, h1.below, fun j hj => by omega⟩
 rintro ⟨k, W⟩ ⟨hk, hW, hall⟩;refine Branch.mk (fun hb => ?_) (fun hb => ?_)
 ·have hlt : k < L.length := by simpa using hb
  have hkm : k < M.length := by omega
  refine DrawI.go (.tk 0 (.tk 1 (.tk 2 (.tk 3 (.tk 4 (.tk 5 (.tk 6 (.tk 7 (.tk 8 (.tk 9 (.tk 10 .done))))))))))) (by kernel_rfl) fun w2 h2 => ?_;refine hA.idx (List.getElem?_eq_getElem hlt) fun ad had => ?_;refine hA.ld1 (List.getElem?_eq_getElem hlt) had h2.below (by simp) ?_;refine hB.idx (List.getElem?_eq_getElem hkm) fun bd hbd => ?_;refine hB.ld1 (List.getElem?_eq_getElem hkm) hbd h2.below (by simp) ?_;refine Branch.mk (fun hc => ?_) (fun hc => ?_)
  ·refine EndI.mk fun w3 h3 => ?_
   have h1 : L[k] ≠ M[k] := by simpa using hc
   have : L ≠ M := fun e => by subst e; exact h1 rfl
   simp [sameB, this]
  ·have h1 : L[k] = M[k] := by simpa using hc
   refine Need.mk (by show _ /\ _; omega) (EndI.mk fun w3 h3 => ⟨(k + 1, w3), Cov.au rfl rfl rfl rfl rfl, rfl, ⟨hlt, h3.below, fun j hj => ?_⟩, by simp only; omega⟩)
   by_cases hjk : j = k
   ·subst hjk; rw [List.getElem?_eq_getElem hlt, List.getElem?_eq_getElem hkm, h1]
   ·exact hall j (by omega)
 ·have hge : k = L.length := by (have : ¬ k < L.length := by simpa using hb); omega
  refine EndI.mk fun w3 h3 => ?_;have : L = M := by
   apply List.ext_getElem?;intro j;rcases Nat.lt_or_ge j L.length with h | h
   ·exact hall j (by omega)
   ·rw [List.getElem?_eq_none h, List.getElem?_eq_none (by omega)]
  simp [sameB, this, hmn]
theorem rfull_any (z : Zn) (w : World) :
 Calls Tryz.prog 87 #[.agg #[.int .i64 z.a, .int .i64 z.b, .int .i64 z.c, .int .i64 z.d, .int .i64 z.e, .int .i64 z.f]] w (Ret w fun v w' => ∃ a' c', v = .agg #[.int .i64 3, .slice a' (Zo.matL z).length c'] /\ Sl w'.heap.size w' (.slice a' (Zo.matL z).length c') (Zo.matL z)) := by
 refine fun_ret 0 w Tryz.func87 (args := [.agg [.val (.int .i64 z.a), .val (.int .i64 z.b), .val (.int .i64 z.c), .val (.int .i64 z.d), .val (.int .i64 z.e), .val (.int .i64 z.f)]]) rfl rfl ?_;refine NewI.mk fun b1 hb1 => ?_;refine NewI.mk fun b2 hb2 => ?_;refine Need.mk (by decide) ?_;refine Need.mk (by decide) ?_;refine Need.mk (by decide) ?_;refine Need.mk (by decide) ?_;refine Need.mk (by decide) ?_;refine Need.mk (by decide) ?_;refine NewI.mk fun b3 hb3 => ?_;exact EndI.mk fun w9 h9 => ⟨_, _, rfl, Sl.own (l := Zo.matL z) h9 2 rfl rfl rfl (Nat.le_refl _) (by simp [maxLen, Zo.matL])⟩
theorem rshort_any (n : Int) (a : Option Addr) (cap : Nat) (L : List Int) (hL : L.length = 9) (w : World) (hS : Sl w.heap.size w (.slice a L.length cap) L) :
 Calls Tryz.prog 246 #[.agg #[.int .i64 n, .slice a L.length cap]] w fun e w' => e = .returned (.agg #[.int .i64 (Zo.ofL L).a, .int .i64 (Zo.ofL L).b, .int .i64 (Zo.ofL L).c, .int .i64 (Zo.ofL L).d, .int .i64 (Zo.ofL L).e, .int .i64 (Zo.ofL L).f]) /\ Below w.heap.size w w' := by
 refine fun_eq 0 w Tryz.func246 (args := [.agg [.val (.int .i64 n), .val (.slice a L.length cap)]]) rfl rfl ?_;have g : ∀ k, k < 9 -> L[k]? = some (L[k]?.getD 0) := fun k hk => by rw [List.getElem?_eq_getElem (by omega)]; rfl
 refine NewI.mk fun b1 hb1 => ?_;refine NewI.mk fun b2 hb2 => ?_;refine DrawI.wr (.tk 0 (.tk 1 (.tk 2 (.tk 3 (.tk 4 (.tk 5 (.tk 6 (.tk 7 (.tk 8 (.tk 9 (.tk 10 (.tk 11 (.tk 12 (.tk 13 (.tk 14 (.tk 15 (.tk 16 (.tk 17 (.tk 18 (.ev 19 .done)))))))))))))))))))) [1] [] (by kernel_rfl) rfl (by simp) fun w1 h1 => ?_;have hlb2 : b2 < w1.heap.size := h1.lt b2 (by simp);have hw1 : w.heap.size <= b2 := hb2;have hB1 := h1.below;refine (hS.go hB1 hB1.size).idx (k := 3) (g 3 (by omega)) fun ad3 had3 => ?_;refine ld1_row hS (k := 3) (g 3 (by omega)) had3 hB1 (fun b hb => by simp [locs] at hb; omega) ?_;refine (hS.go hB1 hB1.size).idx (k := 1) (g 1 (by omega)) fun ad1 had1 => ?_;refine ld1_row hS (k := 1) (g 1 (by omega)) had1 hB1 (fun b hb => by simp [locs] at hb; omega) ?_;refine (hS.go hB1 hB1.size).idx (k := 6) (g 6 (by omega)) fun ad6 had6 => ?_;refine ld1_row hS (k := 6) (g 6 (by omega)) had6 hB1 (fun b hb => by simp [locs] at hb; omega) ?_;refine (hS.go hB1 hB1.size).idx (k := 2) (g 2 (by omega)) fun ad2 had2 => ?_;refine ld1_row hS (k := 2) (g 2 (by omega)) had2 hB1 (fun b hb => by simp [locs] at hb; omega) ?_;refine (hS.go hB1 hB1.size).idx (k := 7) (g 7 (by omega)) fun ad7 had7 => ?_;refine ld1_row hS (k := 7) (g 7 (by omega)) had7 hB1 (fun b hb => by simp [locs] at hb; omega) ?_;refine (hS.go hB1 hB1.size).idx (k := 5) (g 5 (by omega)) fun ad5 had5 => ?_;refine ld1_row hS (k := 5) (g 5 (by omega)) had5 hB1 (fun b hb => by simp [locs] at hb; omega) ?_;exact EndI.mk fun w9 h9 => rfl
namespace Zo
def i64 (z : Zn) : Prop := ∀ b, b ∈ matL z -> Dbm.int64 b
theorem close_rc {L : List Int} (h0 : Dbm.chk 3 L = 0) : (Dbm.close 3 L = (3, L, 0) /\ Dbm.rc 3 L = (3, L, true)) \/ Dbm.close 3 L ≠ (3, L, 0) /\ ((Dbm.rc 3 L).2.2 = false \/ (Dbm.rc 3 L).2.1 ≠ L) := by
 have hcl : Dbm.close 3 L = (match Dbm.closeL 3 L with | some L' => (3, L', 0) | none => (0, [], 6)) := by unfold Dbm.close; rw [if_pos h0]; rfl
 unfold Dbm.rc;cases hC : Dbm.closeL 3 L with
 | none =>
   rw [hC] at hcl;right;rw [hcl];exact ⟨by simp, .inl rfl⟩
 | some C =>
   rw [hC] at hcl;rw [hcl]
   by_cases e : C = L
   ·subst e; left; exact ⟨rfl, rfl⟩
   ·right; exact ⟨fun h => e (by simpa using h), .inr e⟩
theorem chk_rc (z : Zn) : (Dbm.chk 3 (matL z) = 0 /\ chk z = 0 /\ Dbm.rc 3 (matL z) = (3, matL z, true)) \/ chk z ≠ 0 /\ (Dbm.chk 3 (matL z) ≠ 0 \/ Dbm.chk 3 (matL z) = 0 /\ ((Dbm.rc 3 (matL z)).2.2 = false \/ (Dbm.rc 3 (matL z)).2.1 ≠ matL z)) := by
 have hk : chk z = 0 ↔ Dbm.close 3 (matL z) = (3, matL z, 0) := chk_eq;generalize matL z = L at hk ⊢
 by_cases h0 : Dbm.chk 3 L = 0
 ·rcases close_rc h0 with ⟨h1, h2⟩ | ⟨h1, h2⟩
  ·exact .inl ⟨h0, hk.2 h1, h2⟩
  ·exact .inr ⟨fun h => h1 (hk.1 h), .inr ⟨h0, h2⟩⟩
 ·right
  refine ⟨fun h => ?_, .inl h0⟩;have := hk.1 h;unfold Dbm.close at this;rw [if_neg h0] at this;simp at this
end Zo
theorem rzmay_any (z : Zn) (hz : Zo.i64 z) (w : World) :
 Calls Tryz.prog 197 #[.agg #[.int .i64 z.a, .int .i64 z.b, .int .i64 z.c, .int .i64 z.d, .int .i64 z.e, .int .i64 z.f]] w fun e w' => e = .returned (.bool (decide (Zo.chk z = 0))) /\ Below w.heap.size w w' := by
 refine fun_eq 0 w Tryz.func197 (args := [.agg [.val (.int .i64 z.a), .val (.int .i64 z.b), .val (.int .i64 z.c), .val (.int .i64 z.d), .val (.int .i64 z.e), .val (.int .i64 z.f)]]) rfl rfl ?_;refine NewI.mk fun b1 hb1 => ?_;apply CallI.use
 focus (exact fun w1 h1 => rfull_any z w1)
 rintro v w1 v1 h1 hB1 ⟨a1, c1, rfl, hS1⟩;refine NewI.mk fun b2 hb2 => ?_;have hb2' : v1.heap.size <= b2 := hb2;apply CallI.use1
 focus (exact fun w2 h2 => rmay04_any 3 (Zo.matL z) ⟨by omega, by omega⟩ hz a1 c1 w2 (hS1.go (atB h2 (by simp; omega)) h2.size))
 intro w2 v2 h2 hB2;have hS2 := (hS1.go (atB h2 (by simp; omega)) h2.size).go hB2 hB2.size;rcases Zo.chk_rc z with ⟨h0, hc, hr⟩ | ⟨hc, hor⟩
 ·rw [h0, hc]
  have hrc := fun w h => rclosed_any (N := 3) (L := Zo.matL z) h0 a1 c1 w h;rw [hr] at hrc;refine Branch.no rfl ?_;apply CallI.use
  focus (exact fun w3 h3 => hrc w3 (hS2.go (atB h3 (by simp)) h3.size))
  rintro v w3 v3 h3 hB3 ⟨a3, c3, rfl, hO3⟩;have hS3 := (hS2.go (atB h3 (by simp)) h3.size).go hB3 hB3.size;refine NewI.mk fun b3 hb3 => ?_;have hb3' : v3.heap.size <= b3 := hb3;refine Branch.yes rfl ?_;apply CallI.use1
  focus (exact fun w4 h4 => same04_any 3 3 (Zo.matL z) (Zo.matL z) a3 a1 c3 c1 w4 (hO3.below (atB h4 (by simp; omega))).sl (hS3.go (atB h4 (by simp; omega)) h4.size))
  intro w4 v4 h4 hB4;refine EndI.mk fun w9 h9 => ?_;simp [sameB]
 ·rw [decide_eq_false hc]
  rcases hor with h0 | ⟨h0, hor⟩
  ·rw [decide_eq_false h0]
   refine Branch.yes rfl ?_;exact EndI.mk fun w9 h9 => rfl
  ·rw [decide_eq_true h0]
   have hrc := fun w h => rclosed_any (N := 3) (L := Zo.matL z) h0 a1 c1 w h;generalize Dbm.rc 3 (Zo.matL z) = R at hrc hor;obtain ⟨n3, C, is⟩ := R;simp only at hrc hor;refine Branch.no rfl ?_;apply CallI.use
   focus (exact fun w3 h3 => hrc w3 (hS2.go (atB h3 (by simp)) h3.size))
   rintro v w3 v3 h3 hB3 ⟨a3, c3, rfl, hO3⟩;have hS3 := (hS2.go (atB h3 (by simp)) h3.size).go hB3 hB3.size;refine NewI.mk fun b3 hb3 => ?_;have hb3' : v3.heap.size <= b3 := hb3;refine Branch.mk (fun z1 => ?_) (fun z1 => ?_)
   ·have hne : C ≠ Zo.matL z := hor.resolve_left (fun h => by rw [h] at z1; cases z1)
    apply CallI.use1
    focus (exact fun w4 h4 => same04_any n3 3 C (Zo.matL z) a3 a1 c3 c1 w4 (hO3.below (atB h4 (by simp; omega))).sl (hS3.go (atB h4 (by simp; omega)) h4.size))
    intro w4 v4 h4 hB4;refine EndI.mk fun w9 h9 => ?_;simp [sameB, hne]
   ·exact EndI.mk fun w9 h9 => rfl
end
section
open Go.RowKit
theorem rother02_any (b : Int) (h1 : -4611686018427387903 <= b / 2) (h2 : b / 2 <= 4611686018427387903) (w : World) :
 Calls Tryz.prog 241 #[.int .i64 b] w fun e w' => e = .returned (.int .i64 (Bd.mk (-(b / 2)) (!(Bd.st b)))) /\ w = w' := by
 go_enter Tryz.func241, Tryz.ntmps241
 go_wp2_with (first
  | (go_at_call 42; refine (rnumber_any _ (by omega) (by omega) _).mono ?_; rintro e w' ⟨rfl, rfl⟩)
  | (go_at_call 177; refine (rstrict_any _ _).mono ?_; rintro e w' ⟨rfl, rfl⟩)
  | (go_at_call 187; refine (rmade_any _ _ (by omega) (by omega) _).mono ?_; rintro e w' ⟨rfl, rfl⟩))
 go_ret
 exact ⟨rfl, rfl⟩
end
section
open Go.RowKit Go.Proofs.YtanhnllkccldhaaGreat.Eng Enc
namespace Mi
open Dbm
def none6 : Zn := ⟨NO, NO, NO, NO, NO, NO⟩
theorem min_no {x : Int} (h : lim 288230376151711744 x) : min x NO = x := by
 rcases h with h | h
 ·rw [h]; exact Int.min_self _
 ·unfold NO; omega
theorem lessr_cut {z : Zn} (hz : chk 3 (Zo.matL z) = 0) {i : Nat} (hi : i < 6) (b : Int) : lessr (Zo.matL z) (Zo.matL (Zo.set none6 i b)) = Zo.matL (cut z i b) := by
 have m0 : min z.a NO = z.a := min_no (get_lim hz (show 0 < 6 by decide));have m1 : min z.b NO = z.b := min_no (get_lim hz (show 1 < 6 by decide));have m2 : min z.c NO = z.c := min_no (get_lim hz (show 2 < 6 by decide));have m3 : min z.d NO = z.d := min_no (get_lim hz (show 3 < 6 by decide));have m4 : min z.e NO = z.e := min_no (get_lim hz (show 4 < 6 by decide));have m5 : min z.f NO = z.f := min_no (get_lim hz (show 5 < 6 by decide));rcases six hi with rfl | rfl | rfl | rfl | rfl | rfl
 all_goals
  simp [lessr, Zo.matL, Zo.set, none6, cut, Zo.get, List.range, List.range.loop];simp [m0, m1, m2, m3, m4, m5]
theorem mayC_min {x b : Int} (hx : mayC x = true) (hb : mayC b = true) : mayC (min x b) = true := by
 rcases Int.le_total x b with h | h
 ·rw [Int.min_eq_left h]; exact hx
 ·rw [Int.min_eq_right h]; exact hb
theorem chk_cut {z : Zn} (hz : chk 3 (Zo.matL z) = 0) {i : Nat} (hi : i < 6) {b : Int} (hb : mayC b = true) : chk 3 (Zo.matL (cut z i b)) = 0 := by
 obtain ⟨_, _, _, c4⟩ := chk_iff.1 hz;have hm : ∀ x, x ∈ Zo.matL z -> mayC x = true := fun x hx => by have := List.any_eq_false.1 c4 x hx; simpa using this
 have o1 : mayC 1 = true := by decide
 have ha := hm z.a (by simp [Zo.matL]);have hbb := hm z.b (by simp [Zo.matL]);have hc := hm z.c (by simp [Zo.matL]);have hd := hm z.d (by simp [Zo.matL]);have he := hm z.e (by simp [Zo.matL]);have hf := hm z.f (by simp [Zo.matL]);refine chk_iff.2 ⟨by omega, by omega, rfl, ?_⟩;rw [List.any_eq_false];rcases six hi with rfl | rfl | rfl | rfl | rfl | rfl
 all_goals
  intro x hx;simp [Zo.matL, cut, Zo.set, Zo.get] at hx;rcases hx with rfl | rfl | rfl | rfl | rfl | rfl | rfl | rfl | rfl <;> simp [ha, hbb, hc, hd, he, hf, o1, mayC_min, hb]
theorem clo_int64 {C : List Int} (h : Clo 3 C) : ∀ x, x ∈ C -> Dbm.int64 x := fun x hx => by
 obtain ⟨q, hq, rfl⟩ := List.mem_iff_getElem.1 hx;have := lim_q h.lim q (by rw [h.len] at hq; exact hq);rw [List.getElem?_eq_getElem hq] at this;exact (lim_int64 (lim_mono this (by omega))).1
theorem wth_rc {z : Zn} {i : Nat} {b : Int} (h0 : chk 3 (Zo.matL (cut z i b)) = 0) :
 ((rc 3 (Zo.matL (cut z i b))).2.2 = false /\ wth z i b = (Zo.nought, 6)) \/ ((rc 3 (Zo.matL (cut z i b))).2.2 = true /\ (rc 3 (Zo.matL (cut z i b))).1 = 3 /\ (rc 3 (Zo.matL (cut z i b))).2.1.length = 9 /\ (∀ x, x ∈ (rc 3 (Zo.matL (cut z i b))).2.1 -> Dbm.int64 x) /\ wth z i b = if chk 3 (rc 3 (Zo.matL (cut z i b))).2.1 = 0 then (Zo.ofL (rc 3 (Zo.matL (cut z i b))).2.1, 0) else (Zo.nought, 8)) := by
 unfold wth;rw [if_pos h0];generalize Zo.matL (cut z i b) = L at h0 ⊢;have hcl : close 3 L = (match closeL 3 L with | some L' => (3, L', 0) | none => (0, [], 6)) := by unfold close; rw [if_pos h0]; rfl
 unfold Zo.of rc;rw [if_pos h0, if_pos rfl];cases hC : closeL 3 L with
 | none =>
   rw [hC] at hcl; rw [hcl]
   left; exact ⟨rfl, rfl⟩
 | some C =>
   rw [hC] at hcl; rw [hcl];right;have clo := close_clo (N := 3) h0 hC;exact ⟨rfl, rfl, clo.len, clo_int64 clo, rfl⟩
end Mi
theorem rnone_any (w : World) : Calls Tryz.prog 244 #[] w fun e w' => e = .returned (.agg #[.int .i64 Mi.none6.a, .int .i64 Mi.none6.b, .int .i64 Mi.none6.c, .int .i64 Mi.none6.d, .int .i64 Mi.none6.e, .int .i64 Mi.none6.f]) /\ Below w.heap.size w w' := by
 refine fun_eq 0 w Tryz.func244 (args := []) rfl rfl ?_;refine NewI.mk fun b1 hb1 => ?_;exact EndI.mk fun w9 h9 => rfl
theorem rother11_any (i : Nat) (hi : i < 6) (w : World) : Calls Tryz.prog 240 #[.int .i64 (i : Nat)] w fun e w' => e = .returned (.int .i64 (Mi.other i : Nat)) /\ Below w.heap.size w w' := by
 rcases Mi.six hi with rfl | rfl | rfl | rfl | rfl | rfl
 all_goals (refine fun_eq 0 w Tryz.func240 (args := [.val (.int .i64 _)]) rfl rfl ?_)
 all_goals
  refine Need.mk (by simp) ?_
  first | refine Branch.yes rfl ?_ | refine Branch.no rfl ?_
  refine Need.mk (by simp [inK]) ?_;exact EndI.mk fun w9 h9 => rfl
set_option maxHeartbeats 16000000 in
theorem rwith_any (z : Zn) (hz : Dbm.chk 3 (Zo.matL z) = 0) (i : Nat) (hi : i < 6) (b : Int) (hb : Dbm.mayC b = true) (w : World) :
 Calls Tryz.prog 239 #[.agg #[.int .i64 z.a, .int .i64 z.b, .int .i64 z.c, .int .i64 z.d, .int .i64 z.e, .int .i64 z.f], .int .i64 (i : Nat), .int .i64 b] w fun e w' => e = .returned (.tuple #[.agg #[.int .i64 (Mi.wth z i b).1.a, .int .i64 (Mi.wth z i b).1.b, .int .i64 (Mi.wth z i b).1.c, .int .i64 (Mi.wth z i b).1.d, .int .i64 (Mi.wth z i b).1.e, .int .i64 (Mi.wth z i b).1.f], .int .i64 (Mi.wth z i b).2]) /\ Below w.heap.size w w' := by
 have hst : ∀ w1 : World, True := fun _ => trivial;have hcut := Mi.lessr_cut hz hi b;have hnone := fun w => rnone_any w;generalize Mi.none6 = n6 at hcut hnone;have h0 := Mi.chk_cut hz hi hb;have hcom := fun (a c : Option Addr) (ca cc : Nat) (w : World) h k => rcommon_any 3 3 a c ca cc (Zo.matL z) (Zo.matL (Zo.set n6 i b)) (by rw [hcut]; exact h0) (Nat.le_refl 9) w h k;rw [hcut] at hcom;have hor := Mi.wth_rc h0;generalize Dbm.rc 3 (Zo.matL (Mi.cut z i b)) = R at hcom hor;generalize hW : Mi.wth z i b = W at hor ⊢;obtain ⟨n3, C, is⟩ := R;simp only at hcom hor;rcases Mi.six hi with rfl | rfl | rfl | rfl | rfl | rfl;refine fun_eq 0 w Tryz.func239 (args := [.agg [.val (.int .i64 z.a), .val (.int .i64 z.b), .val (.int .i64 z.c), .val (.int .i64 z.d), .val (.int .i64 z.e), .val (.int .i64 z.f)], .val (.int .i64 0), .val (.int .i64 b)]) rfl rfl ?_;have hf2 := fun (w : World) => rfull_any ⟨b, n6.b, n6.c, n6.d, n6.e, n6.f⟩ w;rotate_left;refine fun_eq 0 w Tryz.func239 (args := [.agg [.val (.int .i64 z.a), .val (.int .i64 z.b), .val (.int .i64 z.c), .val (.int .i64 z.d), .val (.int .i64 z.e), .val (.int .i64 z.f)], .val (.int .i64 1), .val (.int .i64 b)]) rfl rfl ?_;have hf2 := fun (w : World) => rfull_any ⟨n6.a, b, n6.c, n6.d, n6.e, n6.f⟩ w;rotate_left;refine fun_eq 0 w Tryz.func239 (args := [.agg [.val (.int .i64 z.a), .val (.int .i64 z.b), .val (.int .i64 z.c), .val (.int .i64 z.d), .val (.int .i64 z.e), .val (.int .i64 z.f)], .val (.int .i64 2), .val (.int .i64 b)]) rfl rfl ?_;have hf2 := fun (w : World) => rfull_any ⟨n6.a, n6.b, b, n6.d, n6.e, n6.f⟩ w;rotate_left;refine fun_eq 0 w Tryz.func239 (args := [.agg [.val (.int .i64 z.a), .val (.int .i64 z.b), .val (.int .i64 z.c), .val (.int .i64 z.d), .val (.int .i64 z.e), .val (.int .i64 z.f)], .val (.int .i64 3), .val (.int .i64 b)]) rfl rfl ?_;have hf2 := fun (w : World) => rfull_any ⟨n6.a, n6.b, n6.c, b, n6.e, n6.f⟩ w;rotate_left;refine fun_eq 0 w Tryz.func239 (args := [.agg [.val (.int .i64 z.a), .val (.int .i64 z.b), .val (.int .i64 z.c), .val (.int .i64 z.d), .val (.int .i64 z.e), .val (.int .i64 z.f)], .val (.int .i64 4), .val (.int .i64 b)]) rfl rfl ?_;have hf2 := fun (w : World) => rfull_any ⟨n6.a, n6.b, n6.c, n6.d, b, n6.f⟩ w;rotate_left;refine fun_eq 0 w Tryz.func239 (args := [.agg [.val (.int .i64 z.a), .val (.int .i64 z.b), .val (.int .i64 z.c), .val (.int .i64 z.d), .val (.int .i64 z.e), .val (.int .i64 z.f)], .val (.int .i64 5), .val (.int .i64 b)]) rfl rfl ?_;have hf2 := fun (w : World) => rfull_any ⟨n6.a, n6.b, n6.c, n6.d, n6.e, b⟩ w;rotate_left
 all_goals
  refine NewI.mk fun b1 hb1 => ?_;refine NewI.mk fun b2 hb2 => ?_;refine CallI.to1 (fun w => hnone w) fun w1 => ?_;refine NewI.mk fun b3 hb3 => ?_;have hb3' : w1.heap.size <= b3 := hb3;refine Need.mk (by decide) ?_;refine DrawI.go (.tk 0 (.tk 2 (.two 1 (.two 3 (.two 4 (.tk 5 (.tk 6 (.tk 7 (.ev 8 (.ev 9 (.tk 10 .done)))))) 8 (.ev 4 (.tk 5 (.tk 6 (.tk 7 (.ev 9 (.tk 10 .done))))))) 8 (.ev 3 (.ev 4 (.tk 5 (.tk 6 (.tk 7 (.ev 9 (.tk 10 .done)))))))) 8 (.ev 1 (.ev 3 (.ev 4 (.tk 5 (.tk 6 (.tk 7 (.ev 9 (.tk 10 .done))))))))))) (by kernel_rfl) fun w2 h2 => ?_;have st := Stay.start h2.below;refine Both.mk ?_ ?_;apply CallI.use
  focus (exact fun w3 h3 => rfull_any z w3)
  rintro v w3 v3 h3 hB3 ⟨a1, c1, rfl, hS1⟩;have st := st.nx h3 hB3;refine Both.mk ?_ ?_;apply CallI.use
  focus (exact fun w4 h4 => hf2 w4)
  rintro v w4 v4 h4 hB4 ⟨a2, c2, rfl, hS2⟩;have st := st.nx h4 hB4;refine Both.mk ?_ ?_;apply CallI.use
  focus (exact fun w5 h5 => hcom a1 a2 c1 c2 w5 (hS1.st (st.at h5)) (hS2.st (st.at h5)))
  rintro v w5 v5 h5 hB5 ⟨a3, c3, rfl, hO3⟩;have st := st.nx h5 hB5;refine NewI.mk fun b9 hb9 => ?_;rotate_left;refine NewI.mk fun b9 hb9 => ?_;apply CallI.use
  focus (exact fun w5 h5 => hcom a1 a2 c1 c2 w5 (hS1.st (st.at h5)) (hS2.st (st.at h5)))
  rintro v w5 v5 h5 hB5 ⟨a3, c3, rfl, hO3⟩;have st := st.nx h5 hB5;rotate_left;refine NewI.mk fun b9 hb9 => ?_;apply CallI.use
  focus (exact fun w4 h4 => hf2 w4)
  rintro v w4 v4 h4 hB4 ⟨a2, c2, rfl, hS2⟩;have st := st.nx h4 hB4;apply CallI.use
  focus (exact fun w5 h5 => hcom a1 a2 c1 c2 w5 (hS1.st (st.at h5)) (hS2.st (st.at h5)))
  rintro v w5 v5 h5 hB5 ⟨a3, c3, rfl, hO3⟩;have st := st.nx h5 hB5;rotate_left;refine NewI.mk fun b9 hb9 => ?_;apply CallI.use
  focus (exact fun w3 h3 => rfull_any z w3)
  rintro v w3 v3 h3 hB3 ⟨a1, c1, rfl, hS1⟩;have st := st.nx h3 hB3;apply CallI.use
  focus (exact fun w4 h4 => hf2 w4)
  rintro v w4 v4 h4 hB4 ⟨a2, c2, rfl, hS2⟩;have st := st.nx h4 hB4;apply CallI.use
  focus (exact fun w5 h5 => hcom a1 a2 c1 c2 w5 (hS1.st (st.at h5)) (hS2.st (st.at h5)))
  rintro v w5 v5 h5 hB5 ⟨a3, c3, rfl, hO3⟩;have st := st.nx h5 hB5
 all_goals
  rcases hor with ⟨e1, e2⟩ | ⟨e1, e2, e3, e5, e4⟩
  ·subst e1; subst e2
   refine Branch.yes rfl ?_;exact EndI.mk fun w9 h9 => rfl
  ·subst e1; subst e2
   refine Branch.no rfl ?_;have pO : ∀ (hp : List LB) (r L : List Nat) (w6 : World), At ⟨w, w.heap.size, Nat.le_refl _⟩ hp r L v5 w6 -> (∀ x, x ∈ L -> x = b9) -> Own TB w5.heap.size w6 (.slice a3 C.length c3) C := fun hp r L w6 h6 hL => by
    first
     | exact hO3.below (atB h6 (fun x hx => by rw [hL x hx]; exact hb9))
     | exact hO3.at h6 (fun x hx => by rw [hL x hx]; exact h5.lt b9 (by simp))
   apply CallI.use1
   focus (exact fun w6 h6 => rmay04_any 3 C ⟨by omega, by omega⟩ e5 a3 c3 w6 (pO _ _ _ w6 h6 (by simp)).sl)
   intro w6 v6 h6 hB6;have hO6 := (pO _ _ _ w6 h6 (by simp)).below hB6
   by_cases hk : Dbm.chk 3 C = 0
   ·rw [decide_eq_true hk]
    rw [if_pos hk] at e4;subst e4;refine Branch.no rfl ?_;apply CallI.use1
    focus (exact fun w7 h7 => rshort_any 3 a3 c3 C e3 w7 (hO6.below (atB h7 (by simp))).sl)
    intro w7 v7 h7 hB7;exact EndI.mk fun w9 h9 => rfl
   ·rw [decide_eq_false hk]
    rw [if_neg hk] at e4;subst e4;refine Branch.yes rfl ?_;exact EndI.mk fun w9 h9 => rfl
namespace Zo
open Mi Dbm
theorem mayC_min {x y : Int} (hx : mayC x = true) (hy : mayC y = true) : mayC (min x y) = true := by
 by_cases h : x <= y
 ·rw [Int.min_eq_left h]; exact hx
 ·rw [Int.min_eq_right (by omega)]; exact hy
theorem chk_lessr {n : Int} {L M : List Int} (h1 : Dbm.chk n L = 0) (h2 : Dbm.chk n M = 0) : Dbm.chk n (lessr L M) = 0 := by
 obtain ⟨a1, a2, a3, a4⟩ := chk_iff.1 h1;obtain ⟨b1, b2, b3, b4⟩ := chk_iff.1 h2;refine chk_iff.2 ⟨a1, a2, by rw [lessr_len]; exact a3, ?_⟩;rw [List.any_eq_false] at a4 b4 ⊢;intro z hz;unfold lessr at hz;obtain ⟨q, hq, rfl⟩ := List.mem_map.1 hz;have hq := List.mem_range.1 hq;have e1 := List.getElem?_eq_getElem (l := L) (i := q) hq;have e2 := List.getElem?_eq_getElem (l := M) (i := q) (by omega);have k1 := a4 _ (List.getElem_mem hq);have k2 := b4 _ (List.getElem_mem (by omega : q < M.length));rw [e1, e2];simp only [Option.getD_some, Bool.not_eq_true', Bool.not_eq_true, Bool.not_eq_false] at k1 k2 ⊢;exact mayC_min k1 k2
theorem fits_lessr {N : Nat} {L M : List Int} (h1 : Dbm.chk N L = 0) (h2 : Dbm.chk N M = 0) (t : Nat -> Rat) : Fits N (mx N (lessr L M)) t ↔ Fits N (mx N L) t /\ Fits N (mx N M) t := by
 have l1 := chk_lenK h1;have l2 := chk_lenK h2;have key : ∀ i j, i < N -> j < N -> (satO (t i - t j) (mx N (lessr L M) i j) ↔ satO (t i - t j) (mx N L i j) /\ satO (t i - t j) (mx N M i j)) := fun i j hi hj => by
  have hp := place_lt hi hj;have e : (lessr L M)[i * N + j]?.getD 0 = min (L[i * N + j]?.getD 0) (M[i * N + j]?.getD 0) := by
   unfold lessr;rw [List.getElem?_map, List.getElem?_range (by omega)]; rfl
  unfold mx;rw [e];exact satO_min _ _ _ (lim_lt (chk_limK h1 i j hi hj) (by decide)) (lim_lt (chk_limK h2 i j hi hj) (by decide))
 constructor
 ·exact fun h => ⟨fun i j hi hj => ((key i j hi hj).1 (h i j hi hj)).1, fun i j hi hj => ((key i j hi hj).1 (h i j hi hj)).2⟩
 ·exact fun h i j hi hj => (key i j hi hj).2 ⟨h.1 i j hi hj, h.2 i j hi hj⟩
theorem meet_of {a b : Zn} (ha : chk a = 0) (hb : chk b = 0) : meet a b = of 3 (lessr (matL a) (matL b)) := by
 have h1 := (clo ha).1;have h2 := (clo hb).1;have e : Tg.meet 3 (matL a) 3 (matL b) = Dbm.close 3 (lessr (matL a) (matL b)) := by
  unfold Tg.meet;rw [if_neg (by rintro (h | h); exact h h1; exact h h2), if_neg (by decide)]
 have c3 : Dbm.chk 3 (lessr (matL a) (matL b)) = 0 := chk_lessr h1 h2;unfold meet of;rw [if_pos (checks_two.2 ⟨ha, hb⟩), if_pos c3, if_pos rfl, e]
theorem meet_ok {a b : Zn} (ha : chk a = 0) (hb : chk b = 0) (h : (meet a b).2 = 0) : chk (meet a b).1 = 0 /\ ∀ t, Fz (meet a b).1 t ↔ Fz a t /\ Fz b t := by
 rw [meet_of ha hb] at h ⊢;obtain ⟨h1, h2⟩ := of_ok h;exact ⟨h1, fun t => (h2 t).trans (fits_lessr (N := 3) (clo ha).1 (clo hb).1 t)⟩
theorem meet_none {a b : Zn} (ha : chk a = 0) (hb : chk b = 0) (h : (meet a b).2 = 6) (t : Nat -> Rat) : ¬ (Fz a t /\ Fz b t) := by
 rw [meet_of ha hb] at h;intro hf;exact of_none h t ((fits_lessr (N := 3) (clo ha).1 (clo hb).1 t).2 hf)
end Zo
namespace Zs
open Mi Dbm
def Pts (l : List Zn) (t : Nat -> Rat) : Prop := ∃ z, z ∈ l /\ Fz z t
theorem checked_ok {ls : List (List Zn)} : Cv.checked ls = 0 ↔ ∀ l, l ∈ ls -> l.length <= 4096 /\ ∀ z, z ∈ l -> Zo.chk z = 0 := by
 unfold Cv.checked;constructor
 ·intro h l hl
  split at h
  ·cases h
  ·rename_i h1
   split at h
   ·cases h
   ·rename_i h2
    rw [List.any_eq_true] at h1 h2;refine ⟨?_, fun z hz => ?_⟩
    ·apply Classical.byContradiction; intro hh; exact h1 ⟨l, hl, decide_eq_true (by omega)⟩
    ·apply Classical.byContradiction; intro hh; exact h2 ⟨l, hl, List.any_eq_true.2 ⟨z, hz, by simpa [Cv.odd] using hh⟩⟩
 ·intro h
  rw [if_neg, if_neg]
  ·rw [List.any_eq_true]
   rintro ⟨l, hl, k⟩;obtain ⟨z, hz, k⟩ := List.any_eq_true.1 k;have := (h l hl).2 z hz;simp [Cv.odd, this] at k
  ·rw [List.any_eq_true]
   rintro ⟨l, hl, k⟩;have := (h l hl).1;simp at k; omega
theorem pts_prune {l : List Zn} (h : (Cv.prune l).2 = 0) (t : Nat -> Rat) : Pts (Cv.prune l).1 t ↔ Pts l t := ((Cv.prune_ok h).pts t).symm
theorem come_ok (f : Zn -> Zn × Int) : ∀ (l out : List Zn), (come f out l).2 = 0 ->
 (∃ m, (Cv.prune m).2 = 0 /\ come f out l = Cv.prune m) /\ (∀ x, x ∈ l -> (f x).2 = 0 \/ (f x).2 = 6) /\ ∀ t, Pts (come f out l).1 t ↔ Pts out t \/ ∃ x, x ∈ l /\ (f x).2 = 0 /\ Fz (f x).1 t
 | [], out, h => by
   change (Cv.prune out).2 = 0 at h;refine ⟨⟨out, h, rfl⟩, (fun x hx => (nomatch hx)), fun t => ?_⟩;show Pts (Cv.prune out).1 t ↔ _;rw [pts_prune h t];exact ⟨.inl, fun k => k.elim id fun ⟨x, hx, _⟩ => (nomatch hx)⟩
 | x :: l, out, h => by
   rw [come_cons] at h ⊢
   by_cases h0 : (f x).2 = 0
   ·rw [if_pos h0] at h ⊢
    obtain ⟨k1, k2, k3⟩ := come_ok f l _ h;refine ⟨k1, fun y hy => (List.mem_cons.1 hy).elim (fun e => e ▸ .inl h0) (k2 y), fun t => (k3 t).trans ?_⟩;constructor
    ·rintro (⟨z, hz, hf⟩ | ⟨y, hy, hf⟩)
     ·rcases List.mem_append.1 hz with hz | hz
      ·exact .inl ⟨z, hz, hf⟩
      ·rw [List.mem_singleton.1 hz] at hf; exact .inr ⟨x, by simp, h0, hf⟩
     ·exact .inr ⟨y, List.mem_cons_of_mem _ hy, hf⟩
    ·rintro (⟨z, hz, hf⟩ | ⟨y, hy, h1, hf⟩)
     ·exact .inl ⟨z, List.mem_append_left _ hz, hf⟩
     ·rcases List.mem_cons.1 hy with rfl | hy
      ·exact .inl ⟨_, List.mem_append_right _ (by simp), hf⟩
      ·exact .inr ⟨y, hy, h1, hf⟩
   ·rw [if_neg h0] at h ⊢
    by_cases h6 : (f x).2 = 6
    ·rw [if_pos h6] at h ⊢
     obtain ⟨k1, k2, k3⟩ := come_ok f l _ h;refine ⟨k1, fun y hy => (List.mem_cons.1 hy).elim (fun e => e ▸ .inr h6) (k2 y), fun t => (k3 t).trans ?_⟩;constructor
     ·rintro (hf | ⟨y, hy, hf⟩)
      ·exact .inl hf
      ·exact .inr ⟨y, List.mem_cons_of_mem _ hy, hf⟩
     ·rintro (hf | ⟨y, hy, h1, hf⟩)
      ·exact .inl hf
      ·rcases List.mem_cons.1 hy with rfl | hy
       ·exact absurd h1 h0
       ·exact .inr ⟨y, hy, h1, hf⟩
    ·rw [if_neg h6] at h
     exact absurd h h0
theorem pairGo_ok (f : Zn -> Zn -> Zn × Int) (b : List Zn) : ∀ (a out : List Zn), (pairGo f b out a).2 = 0 ->
 ((a = [] /\ (pairGo f b out a).1 = out) \/ ∃ m, (Cv.prune m).2 = 0 /\ (pairGo f b out a).1 = (Cv.prune m).1) /\ (∀ x y, x ∈ a -> y ∈ b -> (f x y).2 = 0 \/ (f x y).2 = 6) /\ ∀ t, Pts (pairGo f b out a).1 t ↔ Pts out t \/ ∃ x y, x ∈ a /\ y ∈ b /\ (f x y).2 = 0 /\ Fz (f x y).1 t
 | [], out, h => ⟨.inl ⟨rfl, rfl⟩, (fun x y hx => (nomatch hx)), fun t => ⟨.inl, fun k => k.elim id fun ⟨x, y, hx, _⟩ => (nomatch hx)⟩⟩
 | x :: a, out, h => by
   rw [pairGo_cons] at h ⊢
   by_cases h0 : (come (f x) out b).2 = 0
   ·rw [if_pos h0] at h ⊢
    obtain ⟨⟨m, hm1, hm2⟩, c2, c3⟩ := come_ok (f x) b out h0;obtain ⟨k1, k2, k3⟩ := pairGo_ok f b a _ h;refine ⟨.inr ?_, fun y z hy hz => (List.mem_cons.1 hy).elim (fun e => e ▸ c2 z hz) fun hy => k2 y z hy hz, fun t => (k3 t).trans ?_⟩
    ·rcases k1 with ⟨_, e⟩ | k
     ·exact ⟨m, hm1, by rw [e, hm2]⟩
     ·exact k
    ·rw [c3 t]
     constructor
     ·rintro ((hf | ⟨y, hy, h1, hf⟩) | ⟨z, y, hz, hy, h1, hf⟩)
      ·exact .inl hf
      ·exact .inr ⟨x, y, by simp, hy, h1, hf⟩
      ·exact .inr ⟨z, y, List.mem_cons_of_mem _ hz, hy, h1, hf⟩
     ·rintro (hf | ⟨z, y, hz, hy, h1, hf⟩)
      ·exact .inl (.inl hf)
      ·rcases List.mem_cons.1 hz with rfl | hz
       ·exact .inl (.inr ⟨y, hy, h1, hf⟩)
       ·exact .inr ⟨z, y, hz, hy, h1, hf⟩
   ·rw [if_neg h0] at h
    exact absurd h h0
def Fine (m : List Zn) : Prop := m.length <= 4096 /\ (∀ z, z ∈ m -> Zo.chk z = 0) /\ ((Cv.prune m).2 = 0 -> (Cv.prune m).1 = m)
theorem fine_nil : Fine [] := ⟨by simp, fun z hz => (nomatch hz), fun h => List.eq_nil_iff_forall_not_mem.2 fun x hx => nomatch (Cv.prune_ok h).mem x hx⟩
theorem fine_prune {l : List Zn} (h : (Cv.prune l).2 = 0) : Fine (Cv.prune l).1 := by
 have hw := Cv.prune_ok h;exact ⟨Nat.le_trans hw.mlen hw.len, fun z hz => hw.chk z (hw.mem z hz), fun h2 => hw.again h2⟩
theorem paired_ok {f : Zn -> Zn -> Zn × Int} {a b : List Zn} (h : (paired f a b).2 = 0) : Cv.checked [a, b] = 0 /\ Fine (paired f a b).1 /\ (∀ x y, x ∈ a -> y ∈ b -> (f x y).2 = 0 \/ (f x y).2 = 6) /\ ∀ t, Pts (paired f a b).1 t ↔ ∃ x y, x ∈ a /\ y ∈ b /\ (f x y).2 = 0 /\ Fz (f x y).1 t := by
 unfold paired at h ⊢
 by_cases h0 : Cv.checked [a, b] = 0
 ·rw [if_pos h0] at h ⊢
  obtain ⟨k1, k2, k3⟩ := pairGo_ok f b a [] h;refine ⟨h0, ?_, k2, fun t => (k3 t).trans ⟨fun k => k.elim (fun ⟨z, hz, _⟩ => (nomatch hz)) id, .inr⟩⟩;rcases k1 with ⟨_, e⟩ | ⟨m, hm, e⟩
  ·rw [e]; exact fine_nil
  ·rw [e]; exact fine_prune hm
 ·rw [if_neg h0] at h
  exact absurd h h0
theorem or_ok {a b : List Zn} (h : (or a b).2 = 0) : Cv.checked [a, b] = 0 /\ Fine (or a b).1 /\ ∀ t, Pts (or a b).1 t ↔ Pts a t \/ Pts b t := by
 unfold or at h ⊢
 by_cases h0 : Cv.checked [a, b] = 0
 ·rw [if_pos h0] at h ⊢
  refine ⟨h0, fine_prune h, fun t => (pts_prune h t).trans ?_⟩;constructor
  ·rintro ⟨z, hz, hf⟩
   exact (List.mem_append.1 hz).elim (fun hz => .inl ⟨z, hz, hf⟩) fun hz => .inr ⟨z, hz, hf⟩
  ·rintro (⟨z, hz, hf⟩ | ⟨z, hz, hf⟩)
   ·exact ⟨z, List.mem_append_left _ hz, hf⟩
   ·exact ⟨z, List.mem_append_right _ hz, hf⟩
 ·rw [if_neg h0] at h
  exact absurd h h0
theorem checked2 {a b : List Zn} (h : Cv.checked [a, b] = 0) : (∀ z, z ∈ a -> Zo.chk z = 0) /\ ∀ z, z ∈ b -> Zo.chk z = 0 := ⟨(checked_ok.1 h a (by simp)).2, (checked_ok.1 h b (by simp)).2⟩
theorem and_ok {a b : List Zn} (h : (and a b).2 = 0) : Cv.checked [a, b] = 0 /\ Fine (and a b).1 /\ ∀ t, Pts (and a b).1 t ↔ Pts a t /\ Pts b t := by
 obtain ⟨h0, h1, h2, h3⟩ := paired_ok h;obtain ⟨ca, cb⟩ := checked2 h0;refine ⟨h0, h1, fun t => (h3 t).trans ?_⟩;constructor
 ·rintro ⟨x, y, hx, hy, he, hf⟩
  have := ((Zo.meet_ok (ca x hx) (cb y hy) he).2 t).1 hf;exact ⟨⟨x, hx, this.1⟩, y, hy, this.2⟩
 ·rintro ⟨⟨x, hx, h1⟩, y, hy, hf⟩
  rcases h2 x y hx hy with he | he
  ·exact ⟨x, y, hx, hy, he, ((Zo.meet_ok (ca x hx) (cb y hy) he).2 t).2 ⟨h1, hf⟩⟩
  ·exact absurd ⟨h1, hf⟩ (Zo.meet_none (ca x hx) (cb y hy) he t)
end Zs
namespace Zo
open Dbm
end Zo
namespace Dbm
def LoQ (a : Rat × Bool) (s : Rat) : Prop := if a.2 = true then a.1 < s else a.1 <= s
def HiQ (a : Rat × Bool) (s : Rat) : Prop := if a.2 = true then s < a.1 else s <= a.1
theorem LoQ.mono {a b : Rat × Bool} {s : Rat} (h : LoQ a s) (hb : b.1 < a.1 \/ (b.1 = a.1 /\ (b.2 = true -> a.2 = true))) : LoQ b s := by
 unfold LoQ at *;split <;> split at h <;> rcases hb with hb | ⟨hb, hc⟩ <;> first | grind | (rename_i k1 k2; exact absurd (hc k1) k2)
theorem HiQ.mono {a b : Rat × Bool} {s : Rat} (h : HiQ a s) (hb : a.1 < b.1 \/ (b.1 = a.1 /\ (b.2 = true -> a.2 = true))) : HiQ b s := by
 unfold HiQ at *;split <;> split at h <;> rcases hb with hb | ⟨hb, hc⟩ <;> first | grind | (rename_i k1 k2; exact absurd (hc k1) k2)
end Dbm
end
end Go.Proofs.YtanhnllkccldhaaGreat
namespace Go.Proofs.YtanhnllkccldhaaGreat.Proj
set_option linter.unusedVariables false
open Go.Proofs.YtanhnllkccldhaaGreat.Dbm
theorem sk_lt {N k j : Nat} (hj : j < N - 1) : sk k j < N := by unfold sk; split <;> omega
theorem dropL_len (N k : Nat) (C : List Int) : (dropL N k C).length = (N - 1) * (N - 1) := by simp [dropL]
theorem dropL_get {N k : Nat} (C : List Int) {i j : Nat} (hi : i < N - 1) (hj : j < N - 1) : (dropL N k C)[i * (N - 1) + j]?.getD 0 = C[sk k i * N + sk k j]?.getD 0 := by
 unfold dropL;rw [List.getElem?_map, List.getElem?_range (place_lt hi hj)];simp only [Option.map_some, Option.getD_some];unfold dropAt;rw [place_div hj, place_mod hj]
theorem clo_drop {N k : Nat} {C : List Int} (h : Clo N C) : Clo (N - 1) (dropL N k C) := by
 have hm : ∀ i j, i < N - 1 -> j < N - 1 -> mx (N - 1) (dropL N k C) i j = mx N C (sk k i) (sk k j) := fun i j hi hj => by
  unfold mx; rw [dropL_get C hi hj]
 refine ⟨dropL_len _ _ _, fun i hi => ?_, fun i j a hi hj ha => ?_, fun i j hi hj => ?_⟩
 ·rw [dropL_get C hi hi]; exact h.diag _ (sk_lt hi)
 ·rw [hm i j hi hj, hm i a hi ha, hm a j ha hj]
  exact h.tri _ _ _ (sk_lt hi) (sk_lt hj) (sk_lt ha)
 ·rw [dropL_get C hi hj]; exact h.lim _ _ (sk_lt hi) (sk_lt hj)
theorem ext_get {A B : List Int} {n : Nat} (ha : A.length = n) (hb : B.length = n) (h : ∀ q, q < n -> A[q]?.getD 0 = B[q]?.getD 0) : A = B := by
 apply List.ext_getElem?;intro q;rcases Nat.lt_or_ge q n with hq | hq
 ·have := h q hq
  rw [List.getElem?_eq_getElem (by omega), List.getElem?_eq_getElem (by omega)] at this ⊢;exact congrArg some this
 ·rw [List.getElem?_eq_none (by omega), List.getElem?_eq_none (by omega)]
theorem sk_sk {j k i : Nat} (hjk : j < k) : sk j (sk (k - 1) i) = sk k (sk j i) := by
 unfold sk
 by_cases h1 : i < k - 1 <;> by_cases h2 : i < j <;> simp only [h1, h2, if_true, if_false] <;> (repeat' split) <;> omega
theorem dropL_dropL {N j k : Nat} (C : List Int) (hjk : j < k) : dropL (N - 1) (k - 1) (dropL N j C) = dropL (N - 1) j (dropL N k C) := by
 refine ext_get (dropL_len _ _ _) (dropL_len _ _ _) fun q hq => ?_;have h1 := div_lt hq;have h2 := mod_lt hq;rw [<- div_mod (p := q) (N := N - 1 - 1)];rw [dropL_get _ h1 h2, dropL_get _ h1 h2, dropL_get _ (sk_lt h1) (sk_lt h2), dropL_get _ (sk_lt h1) (sk_lt h2), sk_sk hjk, sk_sk hjk]
theorem drop_ok {n : Int} {L : List Int} {k : Int} (h : (drop n L k).2.2 = 0) : chk n L = 0 /\ 1 <= k /\ k < n /\ ∃ C, closeL n.toNat L = some C /\ drop n L k = (n - 1, dropL n.toNat k.toNat C, 0) := by
 unfold drop at h ⊢;split at h
 ·rename_i h0
  split at h
  ·cases h
  ·rename_i h1
   split at h
   ·rename_i C hC
    refine ⟨h0, by omega, by omega, C, hC, ?_⟩;rw [if_pos h0, if_neg h1]
   ·cases h
 ·cases h
theorem drop_closed {N K : Nat} {A : List Int} (h0 : chk N A = 0) (hA : Clo N A) (h1 : 1 <= K) (h2 : K < N) : drop N A K = ((N : Int) - 1, dropL N K A, 0) := by
 unfold drop;rw [if_pos h0, if_neg (by omega), Int.toNat_natCast, Int.toNat_natCast, hA.close]
theorem two {n : Int} {L : List Int} {j k : Int} (hjk : j < k) (ha : (drop n L j).2.2 = 0) (hb : (drop n L k).2.2 = 0) (ca : chk (drop n L j).1 (drop n L j).2.1 = 0) (cb : chk (drop n L k).1 (drop n L k).2.1 = 0) :
 drop (drop n L j).1 (drop n L j).2.1 (k - 1) = drop (drop n L k).1 (drop n L k).2.1 j := by
 obtain ⟨h0, j1, j2, C, hC, ea⟩ := drop_ok ha;obtain ⟨_, k1, k2, C', hC', eb⟩ := drop_ok hb;rw [hC] at hC'; injection hC' with hC'; subst hC';obtain ⟨N, rfl⟩ : ∃ N : Nat, n = N := ⟨n.toNat, by omega⟩;obtain ⟨J, rfl⟩ : ∃ J : Nat, j = J := ⟨j.toNat, by omega⟩;obtain ⟨K, rfl⟩ : ∃ K : Nat, k = K := ⟨k.toNat, by omega⟩;rw [Int.toNat_natCast] at hC;have hclo := close_clo h0 hC;rw [ea] at ca ⊢;rw [eb] at cb ⊢;simp only [Int.toNat_natCast] at ca cb ⊢;have en : (N : Int) - 1 = ((N - 1 : Nat) : Int) := by omega
 have ek : (K : Int) - 1 = ((K - 1 : Nat) : Int) := by omega
 rw [en] at ca cb ⊢;rw [ek, drop_closed ca (clo_drop hclo) (by omega) (by omega), drop_closed cb (clo_drop hclo) (by omega) (by omega), dropL_dropL C (by omega)]
end Go.Proofs.YtanhnllkccldhaaGreat.Proj
namespace Go.Proofs.YtanhnllkccldhaaGreat
set_option linter.unusedVariables false
set_option linter.unusedSimpArgs false
set_option maxRecDepth 100000
section
open Go.RowKit Go.Proofs.YtanhnllkccldhaaGreat.Eng Enc
namespace Dbm
end Dbm
namespace Cmp
open Dbm Mi
def t3 (x y z : Rat) (i : Nat) : Rat := if i = 0 then x else if i = 1 then y else z
def Thru (P Q : (Nat -> Rat) -> Prop) (t : Nat -> Rat) : Prop := ∃ s, P (t3 (t 0) (t 1) s) /\ Q (t3 (t 0) s (t 2))
end Cmp
namespace Zs
open Mi Dbm Cmp
end Zs
namespace Cmp
open Dbm
end Cmp
namespace Cmp
open Dbm
end Cmp
namespace Mi
open Dbm
theorem minus_err {a b : Zn} (ha : Zo.chk a = 0) (hb : Zo.chk b = 0) {p q : List (Zn × Int)} {y : Zn × Int} (h : p ++ y :: q = parts a b) (hp : ∀ x, x ∈ p -> x.2 = 0) (hy : y.2 ≠ 0) : minus a b = ([], y.2) := by
 have hf : (parts a b).find? (fun x => decide (x.2 ≠ 0)) = some y := by
  rw [<- h, List.find?_append, List.find?_eq_none.2 (fun x hx => by simp [hp x hx])];simp [hy]
 unfold minus;rw [if_pos ⟨ha, hb⟩, hf]
theorem minus_fin {a b : Zn} (ha : Zo.chk a = 0) (hb : Zo.chk b = 0) {p : List (Zn × Int)} (h : p = parts a b) (hp : ∀ x, x ∈ p -> x.2 = 0) : minus a b = (p.map (·.1), 0) := by
 have hf : (parts a b).find? (fun x => decide (x.2 ≠ 0)) = none := by
  rw [<- h]; exact List.find?_eq_none.2 (fun x hx => by simp [hp x hx])
 unfold minus;rw [if_pos ⟨ha, hb⟩, hf, h]
theorem of_cases (L : List Int) : (Zo.of 3 L).2 = 0 \/ (Zo.of 3 L).2 = 6 \/ (Zo.of 3 L).2 = 8 := by
 unfold Zo.of
 by_cases h0 : chk 3 L = 0
 ·rw [if_pos h0, if_pos rfl]
  have hcl : close 3 L = (match closeL 3 L with | some L' => (3, L', 0) | none => (0, [], 6)) := by unfold close; rw [if_pos h0]; rfl
  cases hC : closeL 3 L with
  | none => rw [hC] at hcl; rw [hcl]; right; left; rfl
  | some C =>
    rw [hC] at hcl; rw [hcl];show (Zo.told C).2 = 0 \/ _;unfold Zo.told;split
    ·exact .inl rfl
    ·exact .inr (.inr rfl)
 ·rw [if_neg h0]; exact .inr (.inr rfl)
theorem wth_cases (z : Zn) (i : Nat) (b : Int) : (wth z i b).2 = 0 \/ (wth z i b).2 = 6 \/ (wth z i b).2 = 8 := by
 unfold wth;split
 ·exact of_cases _
 ·exact .inr (.inr rfl)
theorem cell_get (b : Zn) {k : Nat} (hk : k < 6) : [Value.int .i64 b.a, .int .i64 b.b, .int .i64 b.c, .int .i64 b.d, .int .i64 b.e, .int .i64 b.f][k]? = some (.int .i64 (Zo.get b k)) := by
 rcases six hk with rfl | rfl | rfl | rfl | rfl | rfl <;> rfl
theorem not_no {b : Int} (h : b = NO) : (Bd.not b).2 ≠ 0 := by subst h; decide
theorem not_mayC {b : Int} (hl : lim 288230376151711744 b) (hn : b ≠ NO) : Bd.not b = (Bd.mk (-(b / 2)) (!(Bd.st b)), 0) /\ mayC (Bd.not b).1 = true := by
 have hb := hl.resolve_left hn;have e : Bd.not b = (Bd.mk (-(b / 2)) (!(Bd.st b)), 0) := by
  unfold Bd.not;rw [Incl.value_of hl hn];have hok : Num.okB (-(b / 2)) = true := Num.okB_iff.2 (by omega);simp only [if_true];unfold Bd.made;rw [if_pos hok]
 refine ⟨e, ?_⟩;rw [e];unfold mayC;rw [Bd.half_mk]
 simp; omega
theorem lim_mayC {b : Int} (h : lim 288230376151711744 b) : mayC b = true := by
 unfold mayC;rcases h with h | h
 ·rw [h]; rfl
 ·simp; omega
structure LSit (w w2 V : World) (Bb : Nat) (b : Zn) (sv : Value) (out : List Zn) (X : World) : Prop where
 below : Below w.heap.size w X
 size : w2.heap.size <= X.heap.size
 size0 : V.heap.size <= X.heap.size
 ha : Holds X Bb b
 own : Own 86 w2.heap.size X sv out
section
variable {w w2 V X Y : World} {Bb : Nat} {b : Zn} {sv : Value} {out : List Zn}
theorem LSit.at {hp : List LB} {r L : List Nat} (s : LSit w w2 V Bb b sv out X) (h : At ⟨w, w.heap.size, Nat.le_refl _⟩ hp r L X Y) (hL : ∀ x, x ∈ L -> X.heap.size <= x \/ x ≠ Bb /\ sv.ownBlock ≠ some x) : LSit w w2 V Bb b sv out Y := by
 refine ⟨h.below, Nat.le_trans s.size h.size, Nat.le_trans s.size0 h.size, s.ha.same (h.step Bb s.ha.lt fun hm => ?_), ?_⟩
 ·rcases hL _ hm with h1 | h1
  ·have := s.ha.lt; omega
  ·exact h1.1 rfl
 ·obtain ⟨hl, h0 | ⟨g, cap, cur, e1, e2, e3, e4⟩⟩ := s.own
  ·exact ⟨hl, .inl h0⟩
  ·have hg := (Array.getElem?_eq_some_iff.1 e3).1
   refine ⟨hl, .inr ⟨g, cap, cur, e1, e2, (h.step g hg (fun e => ?_)).trans e3, e4⟩⟩;rcases hL g e with h1 | h1
   ·omega
   ·exact h1.2 (by rw [e1]; rfl)
theorem LSit.go (s : LSit w w2 V Bb b sv out X) (hw : w.heap.size <= w2.heap.size) (hB : Below X.heap.size X Y) : LSit w w2 V Bb b sv out Y :=
 ⟨s.below.trans (hB.mono s.below.size), Nat.le_trans s.size hB.size, Nat.le_trans s.size0 hB.size, s.ha.below hB, s.own.below hB⟩
theorem LSit.grow {Z : World} {tv : Value} {out2 : List Zn} (s : LSit w w2 V Bb b sv out Y) (hw : w.heap.size <= w2.heap.size) (hBb : sv.ownBlock ≠ some Bb) (hg : Y.grownBy Z sv.ownBlock) (hO : Own 86 w2.heap.size Z tv out2) : LSit w w2 V Bb b tv out2 Z :=
 ⟨⟨hg.os.trans s.below.os, hg.tape.trans s.below.tape, hg.output.trans s.below.output, Nat.le_trans s.below.size hg.size, fun k hk => (hg.block k (Nat.lt_of_lt_of_le hk s.below.size) (fun e => by have := (s.own.lt k e.symm).1; omega)).trans (s.below.block k hk)⟩,
  Nat.le_trans s.size hg.size, Nat.le_trans s.size0 hg.size, s.ha.same (hg.block Bb s.ha.lt (fun e => hBb e.symm)), hO⟩
end
end Mi
set_option maxHeartbeats 40000000 in
theorem rless_any (a b : Zn) (ha : Zo.chk a = 0) (hb : Zo.chk b = 0) (w : World) :
 Calls Tryz.prog 228 #[.agg #[.int .i64 a.a, .int .i64 a.b, .int .i64 a.c, .int .i64 a.d, .int .i64 a.e, .int .i64 a.f], .agg #[.int .i64 b.a, .int .i64 b.b, .int .i64 b.c, .int .i64 b.d, .int .i64 b.e, .int .i64 b.f]] w (Ret w fun v w' => ∃ a' c', v = .tuple #[.slice a' (Mi.minus a b).1.length c', .int .i64 (Mi.minus a b).2] /\ Own 86 w.heap.size w' (.slice a' (Mi.minus a b).1.length c') (Mi.minus a b).1) := by
 refine fun_ret 0 w Tryz.func228 (args := [.agg [.val (.int .i64 a.a), .val (.int .i64 a.b), .val (.int .i64 a.c), .val (.int .i64 a.d), .val (.int .i64 a.e), .val (.int .i64 a.f)], .agg [.val (.int .i64 b.a), .val (.int .i64 b.b), .val (.int .i64 b.c), .val (.int .i64 b.d), .val (.int .i64 b.e), .val (.int .i64 b.f)]]) rfl rfl ?_;refine NewI.mk fun b1 hb1 => ?_;have hb1' : w.heap.size <= b1 := hb1;refine NewI.frn fun w1 h1 => ?_;have hbox : (w1.alloc (.cells #[.int .i64 b.a, .int .i64 b.b, .int .i64 b.c, .int .i64 b.d, .int .i64 b.e, .int .i64 b.f] 86)).heap[w1.heap.size]? = some (.cells #[.int .i64 b.a, .int .i64 b.b, .int .i64 b.c, .int .i64 b.d, .int .i64 b.e, .int .i64 b.f] 86 (0, 0)) := World.alloc_heap_new w1 _;have hw1 : Below w.heap.size w (w1.alloc (.cells #[.int .i64 b.a, .int .i64 b.b, .int .i64 b.c, .int .i64 b.d, .int .i64 b.e, .int .i64 b.f] 86)) := h1.below.alloc h1.below.size _;have hwB : w.heap.size <= w1.heap.size := h1.below.size;have hb1w : b1 < w1.heap.size := h1.lt b1 (by simp);generalize hgB : w1.heap.size = Bb at hbox hwB hb1w;generalize w1.alloc (.cells #[.int .i64 b.a, .int .i64 b.b, .int .i64 b.c, .int .i64 b.d, .int .i64 b.e, .int .i64 b.f] 86) = w2 at hbox hw1;have hw2s := hw1.size;have hbox : Mi.Holds w2 Bb b := hbox;have hBb : Bb < w2.heap.size := hbox.lt
 refine LoopI.inv (α := (Nat × Zn × List (Zn × Int)) × World × Value) (fun y => [(7, .val (.int .i64 y.1.1)), (6, .val y.2.2)]) (fun y => [⟨[.val (.int .i64 y.1.2.1.a), .val (.int .i64 y.1.2.1.b), .val (.int .i64 y.1.2.1.c), .val (.int .i64 y.1.2.1.d), .val (.int .i64 y.1.2.1.e), .val (.int .i64 y.1.2.1.f)], 86⟩]) (fun y => y.2.1)
  (fun y => y.1.1 <= 6 /\ Below w.heap.size w y.2.1 /\ w2.heap.size <= y.2.1.heap.size /\ Mi.Holds y.2.1 Bb b /\ Own 86 w2.heap.size y.2.1 y.2.2 (y.1.2.2.map (·.1)) /\ Zo.chk y.1.2.1 = 0 /\ (∀ x : Zn × Int, x ∈ y.1.2.2 -> x.2 = 0) /\ y.1.2.2.length <= 2 * y.1.1 /\ y.1.2.2 ++ Mi.go b ([0, 1, 2, 3, 4, 5].drop y.1.1) y.1.2.1 = Mi.parts a b) (fun y => 6 - y.1.1) ?_ ?_
 ·intro w3 h3
  have g3 := atB h3 (by simp);exact ⟨((0, a, []), w3, .slice none 0 0), Cov.au rfl rfl rfl rfl rfl, rfl, Nat.zero_le _, h3.below, g3.size, hbox.below g3, Own.nil, ha, by simp, by simp, rfl⟩
 rintro ⟨⟨k, x, pre⟩, V, sv⟩ ⟨hk, hV, hV2, hbx, hO, hx, hz, hpl, hpre⟩;simp only at hk hV hV2 hbx hO hx hz hpl hpre;refine Branch.mk (fun z1 => ?_) (fun z1 => ?_)
 ·have hlt : k < 6 := by have := of_decide_eq_true z1; simp only at this; omega
  have hbl := Mi.get_lim (Zo.clo hb).1 hlt;have hbm := Mi.lim_mayC hbl;have hx0 := (Zo.clo hx).1;have hok : Mi.other k < 6 := by unfold Mi.other; split <;> omega
  have hrow := fun g (h : sv.ownBlock = some g) => hO.lt g h;rw [Mi.drop_six hlt] at hpre;have n1 : sv.ownBlock ≠ some b1 := fun e => by have := (hrow b1 e).1; omega
  have nB : sv.ownBlock ≠ some Bb := fun e => by have := (hrow Bb e).1; omega
  have sit : Mi.LSit w w2 V Bb b sv (pre.map (·.1)) V := ⟨hV, hV2, Nat.le_refl _, hbx, hO⟩;refine Need.mk (by simp only; omega) ?_;refine LoadI.mk ⟨_, ⟨by rw [show (((k : Nat) : Int).toNat * 1) = k by simp]; exact sit.ha.cells k _ (Mi.cell_get b hlt), by simp⟩, ?_⟩;refine Branch.mk (fun z2 => ?_) (fun z2 => ?_)
  ·have hno : Zo.get b k = Dbm.NO := of_decide_eq_true z2
   rw [Mi.go, if_pos (Mi.not_no hno)] at hpre;refine Need.ok (EndI.mk fun w9 h9 => ⟨((k + 1, x, pre), w9, sv), Cov.au rfl rfl rfl rfl rfl, rfl, ?_, by simp only; omega⟩);have sit9 := sit.at h9 (by simp);exact ⟨hlt, sit9.below, sit9.size, sit9.ha, sit9.own, hx, hz, by simp only; omega, hpre⟩
  have hne : Zo.get b k ≠ Dbm.NO := of_decide_eq_false z2;obtain ⟨hn1, hnm⟩ := Mi.not_mayC hbl hne;rw [Mi.go, if_neg (by rw [hn1]; simp)] at hpre;have hbn := hbl.resolve_left hne;have hother : ∀ w, Calls Tryz.prog 241 #[.int .i64 (Zo.get b k)] w fun e w' => e = .returned (.int .i64 (Bd.not (Zo.get b k)).1) /\ Below w.heap.size w w' := fun w => by
   refine (rother02_any (Zo.get b k) (by omega) (by omega) w).mono ?_;rintro e w' ⟨rfl, rfl⟩;rw [hn1];exact ⟨rfl, Below.refl _ _⟩
  generalize hr1v : Mi.wth x (Mi.other k) (Bd.not (Zo.get b k)).1 = r1 at hpre;generalize hr2v : Mi.wth x k (Zo.get b k) = r2 at hpre;have hc1 := Mi.wth_cases x (Mi.other k) (Bd.not (Zo.get b k)).1;have hc2 := Mi.wth_cases x k (Zo.get b k);have hr2 : r2.2 = 0 -> Zo.chk r2.1 = 0 := fun h => by rw [<- hr2v] at h ⊢; exact (Mi.wth_ok hx0 hlt (Mi.lim_lt hbl (by omega)) h).1
  rw [hr1v] at hc1;rw [hr2v] at hc2;refine DrawI.go (.tk 0 (.tk 1 (.tk 3 (.tk 4 (.tk 5 (.two 2 (.two 6 (.two 7 (.tk 8 (.tk 9 (.tk 10 (.ev 11 (.ev 12 (.tk 13 .done)))))) 11 (.ev 7 (.tk 8 (.tk 9 (.tk 10 (.ev 12 (.tk 13 .done))))))) 11 (.ev 6 (.ev 7 (.tk 8 (.tk 9 (.tk 10 (.ev 12 (.tk 13 .done)))))))) 11 (.ev 2 (.ev 6 (.ev 7 (.tk 8 (.tk 9 (.tk 10 (.ev 12 (.tk 13 .done)))))))))))))) (by kernel_rfl) fun w3 h3 => ?_;have sit := sit.at h3 (by simp);refine Need.mk (by simp only; omega) ?_;refine LoadI.mk ⟨_, ⟨by rw [show (((k : Nat) : Int).toNat * 1) = k by simp]; exact sit.ha.cells k _ (Mi.cell_get b hlt), by simp⟩, ?_⟩;refine Both.mk ?_ ?_;apply CallI.use1
  focus (exact fun w3 h3 => rother11_any k hlt w3)
  intro w3 v3 h3 hB3;have sit := (sit.at h3 (fun x hx => by simp at hx <;> first | omega | (subst hx; exact .inr ⟨by omega, by assumption⟩) | (rcases hx with rfl | rfl <;> first | exact .inl (by omega) | exact .inr ⟨by omega, by assumption⟩))).go hw2s hB3;refine Both.mk ?_ ?_;apply CallI.use1
  focus (exact fun w4 h4 => hother w4)
  intro w4 v4 h4 hB4;have sit := (sit.at h4 (fun x hx => by simp at hx <;> first | omega | (subst hx; exact .inr ⟨by omega, by assumption⟩) | (rcases hx with rfl | rfl <;> first | exact .inl (by omega) | exact .inr ⟨by omega, by assumption⟩))).go hw2s hB4;refine Both.mk ?_ ?_;apply CallI.use1
  focus (exact fun w5 h5 => rwith_any x hx0 (Mi.other k) hok (Bd.not (Zo.get b k)).1 hnm w5)
  intro w5 v5 h5 hB5;have sit := (sit.at h5 (fun x hx => by simp at hx <;> first | omega | (subst hx; exact .inr ⟨by omega, by assumption⟩) | (rcases hx with rfl | rfl <;> first | exact .inl (by omega) | exact .inr ⟨by omega, by assumption⟩))).go hw2s hB5;rw [hr1v];refine NewI.mk fun b9 hb9 => ?_;have hb9' := Nat.le_trans sit.size0 hb9;have n9 : sv.ownBlock ≠ some b9 := fun e => by have := (hrow b9 e).2; omega
  have m9 := hbx.lt;rotate_left;refine NewI.mk fun b9 hb9 => ?_;have hb9' := Nat.le_trans sit.size0 hb9;have n9 : sv.ownBlock ≠ some b9 := fun e => by have := (hrow b9 e).2; omega
  have m9 := hbx.lt;apply CallI.use1
  focus (exact fun w5 h5 => rwith_any x hx0 (Mi.other k) hok (Bd.not (Zo.get b k)).1 hnm w5)
  intro w5 v5 h5 hB5;have sit := (sit.at h5 (fun x hx => by simp at hx <;> first | omega | (subst hx; exact .inr ⟨by omega, by assumption⟩) | (rcases hx with rfl | rfl <;> first | exact .inl (by omega) | exact .inr ⟨by omega, by assumption⟩))).go hw2s hB5;rw [hr1v];rotate_left;refine NewI.mk fun b9 hb9 => ?_;have hb9' := Nat.le_trans sit.size0 hb9;have n9 : sv.ownBlock ≠ some b9 := fun e => by have := (hrow b9 e).2; omega
  have m9 := hbx.lt;apply CallI.use1
  focus (exact fun w4 h4 => hother w4)
  intro w4 v4 h4 hB4;have sit := (sit.at h4 (fun x hx => by simp at hx <;> first | omega | (subst hx; exact .inr ⟨by omega, by assumption⟩) | (rcases hx with rfl | rfl <;> first | exact .inl (by omega) | exact .inr ⟨by omega, by assumption⟩))).go hw2s hB4;apply CallI.use1
  focus (exact fun w5 h5 => rwith_any x hx0 (Mi.other k) hok (Bd.not (Zo.get b k)).1 hnm w5)
  intro w5 v5 h5 hB5;have sit := (sit.at h5 (fun x hx => by simp at hx <;> first | omega | (subst hx; exact .inr ⟨by omega, by assumption⟩) | (rcases hx with rfl | rfl <;> first | exact .inl (by omega) | exact .inr ⟨by omega, by assumption⟩))).go hw2s hB5;rw [hr1v];rotate_left;refine NewI.mk fun b9 hb9 => ?_;have hb9' := Nat.le_trans sit.size0 hb9;have n9 : sv.ownBlock ≠ some b9 := fun e => by have := (hrow b9 e).2; omega
  have m9 := hbx.lt;apply CallI.use1
  focus (exact fun w3 h3 => rother11_any k hlt w3)
  intro w3 v3 h3 hB3;have sit := (sit.at h3 (fun x hx => by simp at hx <;> first | omega | (subst hx; exact .inr ⟨by omega, by assumption⟩) | (rcases hx with rfl | rfl <;> first | exact .inl (by omega) | exact .inr ⟨by omega, by assumption⟩))).go hw2s hB3;apply CallI.use1
  focus (exact fun w4 h4 => hother w4)
  intro w4 v4 h4 hB4;have sit := (sit.at h4 (fun x hx => by simp at hx <;> first | omega | (subst hx; exact .inr ⟨by omega, by assumption⟩) | (rcases hx with rfl | rfl <;> first | exact .inl (by omega) | exact .inr ⟨by omega, by assumption⟩))).go hw2s hB4;apply CallI.use1
  focus (exact fun w5 h5 => rwith_any x hx0 (Mi.other k) hok (Bd.not (Zo.get b k)).1 hnm w5)
  intro w5 v5 h5 hB5;have sit := (sit.at h5 (fun x hx => by simp at hx <;> first | omega | (subst hx; exact .inr ⟨by omega, by assumption⟩) | (rcases hx with rfl | rfl <;> first | exact .inl (by omega) | exact .inr ⟨by omega, by assumption⟩))).go hw2s hB5;rw [hr1v]
  all_goals
   refine Branch.mk (fun z3 => ?_) (fun z3 => ?_)
   ·have e8 : r1.2 = 8 := by simpa using z3
    rw [if_neg (by omega)] at hpre;rw [Mi.minus_err ha hb (p := pre) (y := r1) (by rw [<- hpre]; simp; rfl) hz (by omega), e8];exact EndI.mk fun w9 h9 => ⟨_, _, rfl, Own.nil⟩
   have e8 : ¬ r1.2 = 8 := by simpa using z3
   refine Branch.mk (fun z4 => ?_) (fun z4 => ?_);have e0 : r1.2 = 0 := by simpa using z4
   rw [if_neg (by omega)] at hpre;obtain ⟨pre1, hpre1⟩ : ∃ p, p = pre ++ [r1] := ⟨_, rfl⟩;have hp1 : pre1 ++ (if r2.2 = 6 then [] else (if r2.2 = 0 then [] else [r2]) ++ Mi.go b ([0, 1, 2, 3, 4, 5].drop (k + 1)) r2.1) = Mi.parts a b := by rw [hpre1, List.append_assoc]; exact hpre
   have hz1 : ∀ x : Zn × Int, x ∈ pre1 -> x.2 = 0 := fun y hy => by
    rw [hpre1] at hy;rcases List.mem_append.1 hy with hy | hy
    ·exact hz y hy
    ·rw [List.mem_singleton.1 hy]; exact e0
   have hpl1 : pre1.length <= 2 * k + 1 := by rw [hpre1]; simp; omega
   refine NewI.mk fun b10 hb10 => ?_;have hb10' := Nat.le_trans sit.size0 hb10
   refine GenN.app (α := Zn) elZ (pre.map (·.1)) [r1.1] w2.heap.size (fun w5 h5 => (sit.at h5 (fun x hx => by simp at hx <;> first | omega | (subst hx; exact .inr ⟨by omega, by assumption⟩) | (rcases hx with rfl | rfl <;> first | exact .inl (by omega) | exact .inr ⟨by omega, by assumption⟩))).own) (fun w5 h5 => src_own h5 2 rfl rfl rfl rfl) (by unfold maxLen; simp; omega) (by simp; omega) (fun w5 h5 => Nat.le_trans sit.size h5.size)
    (fun w5 w6 h5 hg => keep_grown h5 hg (fun g hg' => ⟨Nat.le_trans hw2s (hrow g hg').1, fun hm => by have := hrow g hg'; simp at hm; omega⟩)) fun tv w5 w6 h5 hg hO' => ?_
   obtain ⟨at_, ct, rfl⟩ := hO'.form;have emap : pre.map (·.1) ++ [r1.1] = pre1.map (·.1) := by rw [hpre1]; simp
   rw [emap] at hO' ⊢;have sit := (sit.at h5 (fun x hx => by simp at hx <;> first | omega | (subst hx; exact .inr ⟨by omega, by assumption⟩) | (rcases hx with rfl | rfl <;> first | exact .inl (by omega) | exact .inr ⟨by omega, by assumption⟩))).grow hw2s nB hg hO';have n1 : (Value.slice at_ (pre1.map (·.1)).length ct).ownBlock ≠ some b1 := fun e => by have := (sit.own.lt b1 e).1; omega
   generalize Value.slice at_ (pre1.map (·.1)).length ct = tv at sit n1 ⊢;rotate_left;have e0 : ¬ r1.2 = 0 := by simpa using z4
   have e6 : r1.2 = 6 := by omega
   rw [if_pos e6, List.nil_append] at hpre;obtain ⟨pre1, hpre1⟩ : ∃ p, p = pre := ⟨_, rfl⟩;rw [<- hpre1] at hpre hz sit;have hp1 := hpre;have hz1 := hz;have hpl1 : pre1.length <= 2 * k + 1 := by rw [hpre1]; omega
   generalize sv = tv at sit n1 n9 ⊢
  all_goals
   refine DrawI.go (.tk 0 (.tk 1 (.tk 2 (.tk 3 (.tk 4 (.two 5 (.tk 6 (.tk 7 (.tk 8 (.ev 9 (.ev 10 (.tk 11 .done)))))) 9 (.ev 5 (.tk 6 (.tk 7 (.tk 8 (.ev 10 (.tk 11 .done)))))))))))) (by kernel_rfl) fun w8 h8 => ?_;have sit := sit.at h8 (fun x hx => by simp at hx <;> first | omega | (subst hx; exact .inr ⟨by omega, by assumption⟩) | (rcases hx with rfl | rfl <;> first | exact .inl (by omega) | exact .inr ⟨by omega, by assumption⟩));refine Need.mk (by simp only; omega) ?_;refine LoadI.mk ⟨_, ⟨by rw [show (((k : Nat) : Int).toNat * 1) = k by simp]; exact sit.ha.cells k _ (Mi.cell_get b hlt), by simp⟩, ?_⟩;refine Both.mk ?_ ?_;apply CallI.use1
   focus (exact fun w6 h6 => rwith_any x hx0 k hlt (Zo.get b k) hbm w6)
   intro w6 v6 h6 hB6;have sit := (sit.at h6 (fun x hx => by simp at hx <;> first | omega | (subst hx; exact .inr ⟨by omega, by assumption⟩) | (rcases hx with rfl | rfl <;> first | exact .inl (by omega) | exact .inr ⟨by omega, by assumption⟩))).go hw2s hB6;rw [hr2v];refine NewI.mk fun b11 hb11 => ?_;have hb11' := Nat.le_trans sit.size0 hb11;have n11 : tv.ownBlock ≠ some b11 := fun e => by have := (sit.own.lt b11 e).2; omega
   have m11 := sit.ha.lt;rotate_left;refine NewI.mk fun b11 hb11 => ?_;have hb11' := Nat.le_trans sit.size0 hb11;have n11 : tv.ownBlock ≠ some b11 := fun e => by have := (sit.own.lt b11 e).2; omega
   have m11 := sit.ha.lt;apply CallI.use1
   focus (exact fun w6 h6 => rwith_any x hx0 k hlt (Zo.get b k) hbm w6)
   intro w6 v6 h6 hB6;have sit := (sit.at h6 (fun x hx => by simp at hx <;> first | omega | (subst hx; exact .inr ⟨by omega, by assumption⟩) | (rcases hx with rfl | rfl <;> first | exact .inl (by omega) | exact .inr ⟨by omega, by assumption⟩))).go hw2s hB6;rw [hr2v]
  all_goals
   refine Branch.mk (fun z5 => ?_) (fun z5 => ?_)
   ·have e6 : r2.2 = 6 := by simpa using z5
    rw [if_pos e6, List.append_nil] at hp1;rw [Mi.minus_fin ha hb hp1 hz1];obtain ⟨ao, co, rfl⟩ := sit.own.form;exact EndI.mk fun w9 h9 => ⟨ao, co, rfl, ((sit.at h9 (fun x hx => by simp at hx <;> first | omega | (subst hx; exact .inr ⟨by omega, by assumption⟩) | (rcases hx with rfl | rfl <;> first | exact .inl (by omega) | exact .inr ⟨by omega, by assumption⟩))).own).lower hw2s⟩
   have e6 : ¬ r2.2 = 6 := by simpa using z5
   rw [if_neg e6] at hp1;refine Branch.mk (fun z6 => ?_) (fun z6 => ?_)
   ·have e0 : ¬ r2.2 = 0 := by simpa using z6
    rw [if_neg e0] at hp1;rw [Mi.minus_err ha hb (p := pre1) (y := r2) (q := Mi.go b ([0, 1, 2, 3, 4, 5].drop (k + 1)) r2.1) (by rw [<- hp1]; simp) hz1 e0];exact EndI.mk fun w9 h9 => ⟨_, _, rfl, Own.nil⟩
   have e0 : r2.2 = 0 := by simpa using z6
   rw [if_pos e0, List.nil_append] at hp1;refine Need.ok (EndI.mk fun w9 h9 => ⟨((k + 1, r2.1, pre1), w9, tv), Cov.au rfl rfl rfl rfl rfl, rfl, ?_, by simp only; omega⟩);have sit9 := sit.at h9 (fun x hx => by simp at hx <;> first | omega | (subst hx; exact .inr ⟨by omega, by assumption⟩) | (rcases hx with rfl | rfl <;> first | exact .inl (by omega) | exact .inr ⟨by omega, by assumption⟩));exact ⟨hlt, sit9.below, sit9.size, sit9.ha, sit9.own, hr2 e0, hz1, by simp only; omega, hp1⟩
 ·have hge : k = 6 := by have := of_decide_eq_false z1; simp only at this; omega
  subst hge;have hp : pre = Mi.parts a b := by simpa [Mi.go] using hpre
  rw [Mi.minus_fin ha hb hp hz];obtain ⟨ao, co, rfl⟩ := hO.form;exact EndI.mk fun w9 h9 => ⟨ao, co, rfl, (hO.below (atB h9 (by simp))).lower hw1.size⟩
theorem Mi.minus_chk {x b : Zn} (hx : Zo.chk x = 0) (hb : Zo.chk b = 0) (h : (Mi.minus x b).2 = 0) : ∀ y, y ∈ (Mi.minus x b).1 -> Zo.chk y = 0 := fun y hy => (Mi.minus_ok hx hb h y hy).1
open Mi in
theorem rrest_any (z : Zn) (hz : Zo.chk z = 0) (l : List Zn) (hl : ∀ b, b ∈ l -> Zo.chk b = 0) (a : Option Addr) (cap : Nat) (w : World) (hS : Sl w.heap.size w (.slice a l.length cap) l) :
 Calls Tryz.prog 214 #[.agg #[.int .i64 z.a, .int .i64 z.b, .int .i64 z.c, .int .i64 z.d, .int .i64 z.e, .int .i64 z.f], .slice a l.length cap] w (Ret w fun v w' => ∃ a' c', v = .tuple #[.slice a' (Mi.outer l [z]).1.length c', .int .i64 (Mi.outer l [z]).2] /\ Sl w'.heap.size w' (.slice a' (Mi.outer l [z]).1.length c') (Mi.outer l [z]).1) := by
 refine fun_ret 0 w Tryz.func214 (args := [.agg [.val (.int .i64 z.a), .val (.int .i64 z.b), .val (.int .i64 z.c), .val (.int .i64 z.d), .val (.int .i64 z.e), .val (.int .i64 z.f)], .val (.slice a l.length cap)]) rfl rfl ?_;obtain ⟨_, _, hfe, hcap1, hcap2, _⟩ := hS.form;injection hfe with _ _ hfe;subst hfe;unfold maxLen at hcap2;refine NewI.mk fun b1 hb1 => ?_;refine NewI.mk fun b2 hb2 => ?_;have hb2w : w.heap.size <= b2 := hb2
 refine LoopI.invC (α := Nat × World × Value × List Zn) (fun y => [(7, .val (.int .i64 y.1)), (6, .val y.2.2.1)]) (fun y => y.2.1)
  (fun y => y.1 <= l.length /\ Below w.heap.size w y.2.1 /\ Sl y.2.1.heap.size y.2.1 y.2.2.1 y.2.2.2 /\ y.2.2.2.length <= 4096 /\ (∀ x, x ∈ y.2.2.2 -> Zo.chk x = 0) /\ b1 < y.2.1.heap.size /\ b2 < y.2.1.heap.size /\ outer l [z] = outer (l.drop y.1) y.2.2.2) (fun y => l.length - y.1) ?_ ?_
 ·intro w3 h3
  exact ⟨(0, w3, .slice (some ⟨b2, 0, none⟩) 1 1, [z]), Cov.au rfl rfl rfl rfl rfl, rfl, Nat.zero_le _, h3.below, Sl.own (l := [z]) h3 1 rfl rfl rfl (Nat.le_refl _) (by simp [maxLen]), by simp, by simp [hz], h3.lt b1 (by simp), h3.lt b2 (by simp), rfl⟩
 rintro ⟨i, V2, ov, out⟩ ⟨hi, hV2, hSo, hol, hoc, hq1, hq2, heq⟩;simp only at hi hV2 hSo hol hoc hq1 hq2 heq;obtain ⟨ao, co, rfl, _⟩ := hSo.form;refine Branch.mk (fun hc3 => ?_) (fun hc3 => ?_)
 ·have hlt : i < l.length := by have := of_decide_eq_true hc3; simp only at this; omega
  have hg := List.getElem?_eq_getElem (l := l) (i := i) hlt;have hd := List.drop_eq_getElem_cons hlt;generalize l[i] = b at hg hd;have hbc := hl b (List.mem_of_getElem? hg);rw [hd, outer_cons] at heq;have st2 := Stay.start (w0 := ⟨w, w.heap.size, Nat.le_refl _⟩) hV2
  refine LoopI.invC (α := Nat × World × Value × List Zn) (fun y => [(9, .val (.int .i64 y.1)), (8, .val y.2.2.1)]) (fun y => y.2.1)
   (fun y => y.1 <= out.length /\ (∃ base, Lp ⟨w, w.heap.size, Nat.le_refl _⟩ [V2] [b1, b2] 86 base y.2.1 y.2.2.1 y.2.2.2) /\ y.2.2.2.length <= 4096 /\ (∀ x, x ∈ y.2.2.2 -> Zo.chk x = 0) /\ inner b out [] = inner b (out.drop y.1) y.2.2.2) (fun y => out.length - y.1) ?_ ?_
  ·intro w5 h5
   exact ⟨(0, w5, .slice none 0 0, []), Cov.au rfl rfl rfl rfl rfl, rfl, Nat.zero_le _, ⟨_, Lp.start st2 h5 (fun x hx => by simp at hx <;> omega)⟩, by simp, by simp, rfl⟩
  rintro ⟨j, V5, nv, next⟩ ⟨hj, ⟨base, lp⟩, hnl, hnc, hin⟩;simp only at hj lp hnl hnc hin;obtain ⟨an, cn, rfl⟩ := lp.own.form;refine Branch.mk (fun hc4 => ?_) (fun hc4 => ?_)
  ·have hlt2 : j < out.length := by have := of_decide_eq_true hc4; simp only at this; omega
   have hg2 := List.getElem?_eq_getElem (l := out) (i := j) hlt2;have hd2 := List.drop_eq_getElem_cons hlt2;generalize out[j] = x at hg2 hd2;have hxc := hoc x (List.mem_of_getElem? hg2);rw [hd2, inner_cons] at hin;refine DrawI.go (.tk 0 (.tk 1 (.tk 2 (.tk 3 (.tk 4 (.tk 5 (.tk 6 (.tk 7 (.ev 8 (.tk 9 (.tk 10 (.tk 11 (.tk 12 (.tk 13 .done)))))))))))))) (by kernel_rfl) fun w4 h4 => ?_;have lp4 := lp.at h4 (by simp);have hSo5 := hSo.st lp4.st;have hS5 := hS.go h4.below h4.below.size;refine hSo5.idx hg2 fun ad2 had2 => ?_;refine hSo5.ld hg2 had2 (Below.refl _ _) (by simp) ?_;refine hS5.idx hg fun ad had => ?_;refine hS5.ld hg had (Below.refl _ _) (by simp) ?_;apply CallI.use
   focus (exact fun w6 h6 => rless_any x b hxc hbc w6)
   rintro v w6 v6 h6 hB6 ⟨am, cm, rfl, hOm⟩;have lp6 := (lp4.at h6 (by simp)).go hB6;have hml := minus_len x b;refine Branch.mk (fun hc5 => ?_) (fun hc5 => ?_)
   ·have he : (minus x b).2 ≠ 0 := by simpa using hc5
    rw [if_pos he] at hin;rw [hin, if_pos he] at heq;rw [heq];exact EndI.mk fun w9 h9 => ⟨_, _, rfl, Sl.nil⟩
   have he : (minus x b).2 = 0 := by simpa using hc5
   rw [if_neg (by simp [he])] at hin;have hmc := Mi.minus_chk hxc hbc he;have h66 := h6.size;have h67 := hB6.size;refine GenN.appR (α := Zn) elZ lp6 (fun y hy hm => by have h1 := lp.own.lt y hy; have q1 := lp.blk b1 (by simp); have q2 := lp.blk b2 (by simp); simp at hm; omega) (by simp) (minus x b).1 (fun w8 h8 => (hOm.sl.go h8.go h8.size).src) (by omega) (by decide) fun a' c' w8 w9 h8 lp9 hsz hbl => ?_;refine Branch.mk (fun hc6 => ?_) (fun hc6 => ?_)
   ·have h4 : 4096 < (next ++ (minus x b).1).length := by (have : (4096 : Int) < (next ++ (minus x b).1).length := by simpa using hc6); omega
    rw [if_pos h4] at hin;rw [hin, if_pos (by decide)] at heq;rw [heq];exact EndI.mk fun w9 h9 => ⟨_, _, rfl, Sl.nil⟩
   have h4 : ¬ 4096 < (next ++ (minus x b).1).length := by (have : ¬ (4096 : Int) < (next ++ (minus x b).1).length := by simpa using hc6); omega
   rw [if_neg h4] at hin;have ho : (out.length : Int) <= 4096 := by omega
   refine Need.ok (EndI.mk fun w10 h10 => ⟨(j + 1, w10, .slice a' (next ++ (minus x b).1).length c', next ++ (minus x b).1), Cov.au rfl rfl rfl rfl rfl, rfl, ⟨hlt2, ⟨base, ?_⟩, Nat.le_of_not_lt h4, fun y hy => (List.mem_append.1 hy).elim (hnc y) (hmc y), hin⟩, by simp only; omega⟩);exact lp9.at h10 (by simp)
  ·have hge2 : j = out.length := by have := of_decide_eq_false hc4; simp only at this; omega
   subst hge2;rw [List.drop_length] at hin;have hin : inner b out [] = (next, 0) := hin;rw [hin, if_neg (by simp)] at heq;have hs5 := lp.size;have q1 := lp.blk b1 (by simp);have q2 := lp.blk b2 (by simp);refine Need.ok (EndI.mk fun w10 h10 => ⟨(i + 1, w10, .slice an next.length cn, next), Cov.au rfl rfl rfl rfl rfl, rfl, ⟨hlt, h10.below, (lp.at h10 (by simp)).own.sl, hnl, hnc, Nat.lt_of_lt_of_le (Nat.lt_of_lt_of_le q1 hs5) h10.size, Nat.lt_of_lt_of_le (Nat.lt_of_lt_of_le q2 hs5) h10.size, heq⟩, by simp only; omega⟩)
 ·have hge : i = l.length := by have := of_decide_eq_false hc3; simp only at this; omega
  subst hge;rw [List.drop_length] at heq;rw [heq];exact EndI.mk fun w9 h9 => ⟨_, _, rfl, hSo.go h9.go h9.size⟩
namespace Cv
theorem checked_two {a b : List Zn} : (a.length <= 4096 /\ b.length <= 4096 /\ (∀ z, z ∈ a -> Zo.chk z = 0) /\ (∀ z, z ∈ b -> Zo.chk z = 0) -> checked [a, b] = 0) /\ (4096 < a.length \/ 4096 < b.length -> checked [a, b] = 4) /\ (a.length <= 4096 -> b.length <= 4096 -> ((∃ z, z ∈ a /\ Zo.chk z ≠ 0) \/ ∃ z, z ∈ b /\ Zo.chk z ≠ 0) -> checked [a, b] = 8) := by
 unfold checked;simp only [List.any_cons, List.any_nil, Bool.or_false, Bool.or_eq_true, decide_eq_true_eq];have ho : ∀ l : List Zn, l.any odd = true ↔ ∃ z, z ∈ l /\ Zo.chk z ≠ 0 := fun l => by
  rw [List.any_eq_true];simp [odd]
 simp only [ho];refine ⟨fun ⟨h1, h2, h3, h4⟩ => ?_, fun h => ?_, fun h1 h2 h3 => ?_⟩
 ·rw [if_neg (by omega), if_neg]
  rintro (⟨z, hz, hc⟩ | ⟨z, hz, hc⟩)
  ·exact hc (h3 z hz)
  ·exact hc (h4 z hz)
 ·rw [if_pos h]
 ·rw [if_neg (by omega), if_pos h3]
def covered (z : Zn) (l : List Zn) : Bool × Int := (decide ((Mi.outer l [z]).2 = 0) && decide ((Mi.outer l [z]).1.length = 0), (Mi.outer l [z]).2)
theorem left_outer {z : Zn} {l : List Zn} (hz : Zo.chk z = 0) (hl : ∀ b, b ∈ l -> Zo.chk b = 0) : Mi.left z l = Mi.outer l [z] := by
 unfold Mi.left;rw [if_neg (by simp [hz]), if_neg (by rw [List.any_eq_true]; rintro ⟨x, hx, h⟩; simp [hl x hx] at h)]
theorem covered_in {z : Zn} {l : List Zn} (h4 : l.length <= 4096) (hz : Zo.chk z = 0) (hl : ∀ b, b ∈ l -> Zo.chk b = 0) : covered z l = in_ z l := by
 unfold in_ covered;rw [checked_two.1 ⟨h4, by simp, hl, by simp [hz]⟩, if_pos rfl, left_outer hz hl]
end Cv
theorem rcheck12_any (l m : List Zn) (hl : ∀ z, z ∈ l -> Zo.i64 z) (hm : ∀ z, z ∈ m -> Zo.i64 z) (a b : Option Addr) (ca cb : Nat) (w : World) (hS : Sl w.heap.size w (.slice a l.length ca) l) (hT : Sl w.heap.size w (.slice b m.length cb) m) :
 Calls Tryz.prog 174 #[.slice a l.length ca, .slice b m.length cb] w fun e w' => e = .returned (.int .i64 (Cv.checked [l, m])) /\ Below w.heap.size w w' := by
 obtain ⟨k1, k2, k3⟩ := Cv.checked_two (a := l) (b := m);refine fun_eq 0 w Tryz.func174 (args := [.val (.slice a l.length ca), .val (.slice b m.length cb)]) rfl rfl ?_;refine Branch.mk (fun z1 => ?_) (fun z1 => ?_)
 ·have h1 : 4096 < l.length := by have := of_decide_eq_true z1; omega
  rw [k2 (.inl h1)];exact EndI.mk fun w9 h9 => rfl
 have h1 : l.length <= 4096 := by have := of_decide_eq_false z1; omega
 refine Branch.mk (fun z2 => ?_) (fun z2 => ?_)
 ·have h2 : 4096 < m.length := by have := of_decide_eq_true z2; omega
  rw [k2 (.inr h2)];exact EndI.mk fun w9 h9 => rfl
 have h2 : m.length <= 4096 := by have := of_decide_eq_false z2; omega
 refine LoopI.invC (α := Nat × World) (fun y => [(5, .val (.int .i64 y.1))]) (fun y => y.2) (fun y => y.1 <= l.length /\ Below w.heap.size w y.2 /\ ∀ z, z ∈ l.take y.1 -> Zo.chk z = 0) (fun y => l.length - y.1) ?_ ?_
 ·intro w1 h1
  exact ⟨(0, w1), Cov.au rfl rfl rfl rfl rfl, rfl, Nat.zero_le _, h1.below, by simp⟩
 rintro ⟨k, V⟩ ⟨hk, hV, hall⟩;simp only at hk hV hall;refine Branch.mk (fun z3 => ?_) (fun z3 => ?_)
 ·have hlt : k < l.length := by have := of_decide_eq_true z3; simp only at this; omega
  have hx := List.getElem?_eq_getElem (l := l) (i := k) hlt;generalize l[k] = x at hx;have hSV := hS.go hV hV.size;refine hSV.idx hx fun ad had => ?_;refine hSV.ld hx had (Below.refl _ _) (by simp) ?_;apply CallI.use1
  focus (exact fun w3 h3 => rzmay_any x (hl x (List.mem_of_getElem? hx)) w3)
  intro w3 v3 h3 hB3
  by_cases hc : Zo.chk x = 0
  ·rw [decide_eq_true hc]
   refine Branch.no rfl ?_;refine Need.ok (EndI.mk fun w9 h9 => ⟨(k + 1, w9), Cov.au rfl rfl rfl rfl rfl, rfl, ⟨hlt, h9.below, fun y hy => ?_⟩, by simp only; omega⟩);simp only at hy;rw [List.take_add_one, hx] at hy;rcases List.mem_append.1 hy with hy | hy
   ·exact hall y hy
   ·rw [List.mem_singleton.1 hy]; exact hc
  ·rw [decide_eq_false hc]
   refine Branch.yes rfl ?_;rw [k3 h1 h2 (.inl ⟨x, List.mem_of_getElem? hx, hc⟩)];exact EndI.mk fun w9 h9 => rfl
 have hge : k = l.length := by have := of_decide_eq_false z3; simp only at this; omega
 subst hge;rw [List.take_length] at hall;refine LoopI.invC (α := Nat × World) (fun y => [(6, .val (.int .i64 y.1))]) (fun y => y.2) (fun y => y.1 <= m.length /\ Below w.heap.size w y.2 /\ ∀ z, z ∈ m.take y.1 -> Zo.chk z = 0) (fun y => m.length - y.1) ?_ ?_
 ·intro w1 h1
  exact ⟨(0, w1), Cov.au rfl rfl rfl rfl rfl, rfl, Nat.zero_le _, h1.below, by simp⟩
 rintro ⟨k, V2⟩ ⟨hk2, hV2, hall2⟩;simp only at hk2 hV2 hall2;refine Branch.mk (fun z4 => ?_) (fun z4 => ?_)
 ·have hlt : k < m.length := by have := of_decide_eq_true z4; simp only at this; omega
  have hx := List.getElem?_eq_getElem (l := m) (i := k) hlt;generalize m[k] = x at hx;have hSV := hT.go hV2 hV2.size;refine hSV.idx hx fun ad had => ?_;refine hSV.ld hx had (Below.refl _ _) (by simp) ?_;apply CallI.use1
  focus (exact fun w3 h3 => rzmay_any x (hm x (List.mem_of_getElem? hx)) w3)
  intro w3 v3 h3 hB3
  by_cases hc : Zo.chk x = 0
  ·rw [decide_eq_true hc]
   refine Branch.no rfl ?_;refine Need.ok (EndI.mk fun w9 h9 => ⟨(k + 1, w9), Cov.au rfl rfl rfl rfl rfl, rfl, ⟨hlt, h9.below, fun y hy => ?_⟩, by simp only; omega⟩);simp only at hy;rw [List.take_add_one, hx] at hy;rcases List.mem_append.1 hy with hy | hy
   ·exact hall2 y hy
   ·rw [List.mem_singleton.1 hy]; exact hc
  ·rw [decide_eq_false hc]
   refine Branch.yes rfl ?_;rw [k3 h1 h2 (.inr ⟨x, List.mem_of_getElem? hx, hc⟩)];exact EndI.mk fun w9 h9 => rfl
 have hge2 : k = m.length := by have := of_decide_eq_false z4; simp only at this; omega
 subst hge2;rw [List.take_length] at hall2;rw [k1 ⟨h1, h2, hall, hall2⟩];exact EndI.mk fun w9 h9 => rfl
theorem rcovered_any (z : Zn) (hz : Zo.chk z = 0) (l : List Zn) (hl : ∀ b, b ∈ l -> Zo.chk b = 0) (a : Option Addr) (cap : Nat) (w : World) (hS : Sl w.heap.size w (.slice a l.length cap) l) :
 Calls Tryz.prog 199 #[.agg #[.int .i64 z.a, .int .i64 z.b, .int .i64 z.c, .int .i64 z.d, .int .i64 z.e, .int .i64 z.f], .slice a l.length cap] w fun e w' => e = .returned (.tuple #[.bool (Cv.covered z l).1, .int .i64 (Cv.covered z l).2]) /\ Below w.heap.size w w' := by
 refine fun_eq 0 w Tryz.func199 (args := [.agg [.val (.int .i64 z.a), .val (.int .i64 z.b), .val (.int .i64 z.c), .val (.int .i64 z.d), .val (.int .i64 z.e), .val (.int .i64 z.f)], .val (.slice a l.length cap)]) rfl rfl ?_;refine NewI.mk fun b1 hb1 => ?_;apply CallI.use
 focus (exact fun w2 h2 => rrest_any z hz l hl a cap w2 (hS.go h2.below h2.below.size))
 rintro v w2 v2 h2 hB2 ⟨a2, c2, rfl, hS2⟩;unfold Cv.covered;generalize Mi.outer l [z] = X at *;obtain ⟨x, e⟩ := X;refine Branch.mk (fun hc2 => ?_) (fun hc2 => ?_)
 ·have h1 : e = 0 := by simpa using hc2
  subst h1;exact EndI.mk fun w3 h3 => by simp
 ·have h1 : ¬ e = 0 := by simpa using hc2
  exact EndI.mk fun w3 h3 => by simp [h1]
theorem erase_step {l : List Zn} {k i : Nat} {x : Zn} (hx : l[k]? = some x) : (l.take (k + 1)).eraseIdx i = if k = i then (l.take k).eraseIdx i else (l.take k).eraseIdx i ++ [x] := by
 have hk := (List.getElem?_eq_some_iff.1 hx).1;have hl : (l.take k).length = k := by rw [List.length_take]; omega
 rw [List.take_add_one, hx];show (l.take k ++ [x]).eraseIdx i = _
 by_cases h1 : i < k
 ·rw [if_neg (by omega), List.eraseIdx_append_of_lt_length (by omega)]
 ·by_cases h2 : k = i
  ·subst h2
   have h3 : (l.take k).eraseIdx k = l.take k := List.eraseIdx_of_length_le (by omega);rw [if_pos rfl, List.eraseIdx_append_of_length_le (by omega), hl, Nat.sub_self, h3];simp
  ·rw [if_neg h2, List.eraseIdx_of_length_le (by rw [List.length_append, hl]; simp; omega), List.eraseIdx_of_length_le (by omega)]
theorem rwithout_any (l : List Zn) (i : Nat) (hlen : l.length <= 4096) (a : Option Addr) (ca : Nat) (w : World) (hS : Sl w.heap.size w (.slice a l.length ca) l) :
 Calls Tryz.prog 200 #[.slice a l.length ca, .int .i64 (i : Nat)] w (Ret w fun v w' => Own 86 w.heap.size w' v (l.eraseIdx i)) := by
 refine fun_ret 0 w Tryz.func200 (args := [.val (.slice a l.length ca), .val (.int .i64 (i : Nat))]) rfl rfl ?_;have st := Stay.first (w := w)
 refine LoopI.invC (α := Nat × World × Value) (fun y => [(6, .val (.int .i64 y.1)), (5, .val y.2.2)]) (fun y => y.2.1) (fun y => y.1 <= l.length /\ Below w.heap.size w y.2.1 /\ ∃ base, Lp ⟨w, w.heap.size, Nat.le_refl _⟩ [w] [] 86 base y.2.1 y.2.2 ((l.take y.1).eraseIdx i)) (fun y => l.length - y.1) ?_ ?_
 ·intro w1 h1
  exact ⟨(0, w1, .slice none 0 0), Cov.au rfl rfl rfl rfl rfl, rfl, Nat.zero_le _, h1.below, _, by simp only [List.take_zero, List.eraseIdx_nil]; exact Lp.start st h1 (by simp)⟩
 rintro ⟨k, V, ov⟩ ⟨hk, hV, base, lp⟩;simp only at hk hV lp;obtain ⟨ao, co, rfl⟩ := lp.own.form;have hle : ((l.take k).eraseIdx i).length <= k := by
  have := List.length_eraseIdx_le (l.take k) i;rw [List.length_take] at this; omega
 refine Branch.mk (fun z3 => ?_) (fun z3 => ?_)
 ·have hlt : k < l.length := by have := of_decide_eq_true z3; simp only at this; omega
  have hx := List.getElem?_eq_getElem (l := l) (i := k) hlt;generalize l[k] = x at hx;have hes := erase_step (i := i) hx;refine Branch.mk (fun z4 => ?_) (fun z4 => ?_)
  ·have hne : k ≠ i := by have := of_decide_eq_true z4; simp only at this; omega
   rw [if_neg hne] at hes;have hSV := hS.go hV hV.size;refine hSV.idx hx fun ad had => ?_;refine hSV.ld hx had (Below.refl _ _) (by simp) ?_;refine NewI.mk fun b1 hb1 => ?_;have hb1' : V.heap.size <= b1 := hb1;refine GenN.appL (α := Zn) elZ lp (fun y hy => .inr (by simp at hy; omega)) (by simp) [x] (fun w8 h8 => src_own h8 0 rfl rfl rfl rfl) (by simp; omega) (by decide) fun a' c' w8 w9 h8 lp9 hsz hbl => ?_;rw [<- hes] at lp9 ⊢;refine Need.ok (EndI.mk fun w10 h10 => ⟨(k + 1, w10, .slice a' ((l.take (k + 1)).eraseIdx i).length c'), Cov.au rfl rfl rfl rfl rfl, rfl, ⟨hlt, h10.below, base, lp9.at h10 (by simp)⟩, by simp only; omega⟩)
  ·have he : k = i := by have := of_decide_eq_false z4; simp only at this; omega
   rw [if_pos he] at hes;rw [<- hes] at lp ⊢;refine Need.ok (EndI.mk fun w10 h10 => ⟨(k + 1, w10, .slice ao ((l.take (k + 1)).eraseIdx i).length co), Cov.au rfl rfl rfl rfl rfl, rfl, ⟨hlt, h10.below, base, lp.at h10 (by simp)⟩, by simp only; omega⟩)
 ·have hge : k = l.length := by have := of_decide_eq_false z3; simp only at this; omega
  subst hge;rw [List.take_length] at lp ⊢;refine EndI.mk fun w10 h10 => (lp.at h10 (by simp)).own.lower ?_;exact lp.anc w (by simp)
theorem cmp_if (x y : Zn) : Zo.cmp x y = if x.a < y.a then -1 else if y.a < x.a then 1 else if x.b < y.b then -1 else if y.b < x.b then 1 else if x.c < y.c then -1 else if y.c < x.c then 1 else if x.d < y.d then -1 else if y.d < x.d then 1 else if x.e < y.e then -1 else if y.e < x.e then 1 else if x.f < y.f then -1 else if y.f < x.f then 1 else 0 := by
 have one : ∀ (a b t : Int), (if cmpI a b ≠ 0 then cmpI a b else t) = if a < b then -1 else if b < a then 1 else t := by
  intro a b t;unfold cmpI;split <;> (try split) <;> simp_all
 unfold Zo.cmp;rw [one, one, one, one, one, one]
theorem rcmp08_any (x y : Zn) (w : World) :
 Calls Tryz.prog 213 #[.agg #[.int .i64 x.a, .int .i64 x.b, .int .i64 x.c, .int .i64 x.d, .int .i64 x.e, .int .i64 x.f], .agg #[.int .i64 y.a, .int .i64 y.b, .int .i64 y.c, .int .i64 y.d, .int .i64 y.e, .int .i64 y.f]] w fun e w' => e = .returned (.int .i64 (Zo.cmp x y)) /\ Below w.heap.size w w' := by
 refine fun_eq 0 w Tryz.func213 (args := [.agg [.val (.int .i64 x.a), .val (.int .i64 x.b), .val (.int .i64 x.c), .val (.int .i64 x.d), .val (.int .i64 x.e), .val (.int .i64 x.f)], .agg [.val (.int .i64 y.a), .val (.int .i64 y.b), .val (.int .i64 y.c), .val (.int .i64 y.d), .val (.int .i64 y.e), .val (.int .i64 y.f)]]) rfl rfl ?_;refine NewI.mk fun b1 hb1 => ?_;refine NewI.mk fun b2 hb2 => ?_;refine LoopI.rounds 7 ?_;rw [cmp_if];obtain ⟨xa, xb, xc, xd, xe, xf⟩ := x;obtain ⟨ya, yb, yc, yd, ye, yf⟩ := y;refine Branch.yes rfl ?_;refine DrawI.go (.tk 0 (.tk 1 (.tk 2 (.tk 3 (.tk 4 (.tk 5 (.tk 6 .done))))))) (by kernel_rfl) fun w1 h1 => ?_;refine Need.mk (by decide) ?_;refine Need.mk (by decide) ?_;refine Branch.mk (fun z1 => ?_) (fun z1 => ?_)
 ·have hl : xa < ya := of_decide_eq_true z1
  simp only [if_pos hl];exact EndI.mk fun w9 h9 => rfl
 have hl : ¬ xa < ya := of_decide_eq_false z1;simp only [if_neg hl];clear z1 hl;refine DrawI.go (.tk 0 (.tk 1 (.tk 2 (.tk 3 (.tk 4 (.tk 5 (.tk 6 .done))))))) (by kernel_rfl) fun w1 h1 => ?_;refine Need.mk (by decide) ?_;refine Need.mk (by decide) ?_;refine Branch.mk (fun z1 => ?_) (fun z1 => ?_)
 ·have hl : ya < xa := of_decide_eq_true z1
  simp only [if_pos hl];exact EndI.mk fun w9 h9 => rfl
 have hl : ¬ ya < xa := of_decide_eq_false z1;simp only [if_neg hl];clear z1 hl;refine Need.ok ?_;refine Branch.yes rfl ?_;refine DrawI.go (.tk 0 (.tk 1 (.tk 2 (.tk 3 (.tk 4 (.tk 5 (.tk 6 .done))))))) (by kernel_rfl) fun w1 h1 => ?_;refine Need.mk (by decide) ?_;refine Need.mk (by decide) ?_;refine Branch.mk (fun z1 => ?_) (fun z1 => ?_)
 ·have hl : xb < yb := of_decide_eq_true z1
  simp only [if_pos hl];exact EndI.mk fun w9 h9 => rfl
 have hl : ¬ xb < yb := of_decide_eq_false z1;simp only [if_neg hl];clear z1 hl;refine DrawI.go (.tk 0 (.tk 1 (.tk 2 (.tk 3 (.tk 4 (.tk 5 (.tk 6 .done))))))) (by kernel_rfl) fun w1 h1 => ?_;refine Need.mk (by decide) ?_;refine Need.mk (by decide) ?_;refine Branch.mk (fun z1 => ?_) (fun z1 => ?_)
 ·have hl : yb < xb := of_decide_eq_true z1
  simp only [if_pos hl];exact EndI.mk fun w9 h9 => rfl
 have hl : ¬ yb < xb := of_decide_eq_false z1;simp only [if_neg hl];clear z1 hl;refine Need.ok ?_;refine Branch.yes rfl ?_;refine DrawI.go (.tk 0 (.tk 1 (.tk 2 (.tk 3 (.tk 4 (.tk 5 (.tk 6 .done))))))) (by kernel_rfl) fun w1 h1 => ?_;refine Need.mk (by decide) ?_;refine Need.mk (by decide) ?_;refine Branch.mk (fun z1 => ?_) (fun z1 => ?_)
 ·have hl : xc < yc := of_decide_eq_true z1
  simp only [if_pos hl];exact EndI.mk fun w9 h9 => rfl
 have hl : ¬ xc < yc := of_decide_eq_false z1;simp only [if_neg hl];clear z1 hl;refine DrawI.go (.tk 0 (.tk 1 (.tk 2 (.tk 3 (.tk 4 (.tk 5 (.tk 6 .done))))))) (by kernel_rfl) fun w1 h1 => ?_;refine Need.mk (by decide) ?_;refine Need.mk (by decide) ?_;refine Branch.mk (fun z1 => ?_) (fun z1 => ?_)
 ·have hl : yc < xc := of_decide_eq_true z1
  simp only [if_pos hl];exact EndI.mk fun w9 h9 => rfl
 have hl : ¬ yc < xc := of_decide_eq_false z1;simp only [if_neg hl];clear z1 hl;refine Need.ok ?_;refine Branch.yes rfl ?_;refine DrawI.go (.tk 0 (.tk 1 (.tk 2 (.tk 3 (.tk 4 (.tk 5 (.tk 6 .done))))))) (by kernel_rfl) fun w1 h1 => ?_;refine Need.mk (by decide) ?_;refine Need.mk (by decide) ?_;refine Branch.mk (fun z1 => ?_) (fun z1 => ?_)
 ·have hl : xd < yd := of_decide_eq_true z1
  simp only [if_pos hl];exact EndI.mk fun w9 h9 => rfl
 have hl : ¬ xd < yd := of_decide_eq_false z1;simp only [if_neg hl];clear z1 hl;refine DrawI.go (.tk 0 (.tk 1 (.tk 2 (.tk 3 (.tk 4 (.tk 5 (.tk 6 .done))))))) (by kernel_rfl) fun w1 h1 => ?_;refine Need.mk (by decide) ?_;refine Need.mk (by decide) ?_;refine Branch.mk (fun z1 => ?_) (fun z1 => ?_)
 ·have hl : yd < xd := of_decide_eq_true z1
  simp only [if_pos hl];exact EndI.mk fun w9 h9 => rfl
 have hl : ¬ yd < xd := of_decide_eq_false z1;simp only [if_neg hl];clear z1 hl;refine Need.ok ?_;refine Branch.yes rfl ?_;refine DrawI.go (.tk 0 (.tk 1 (.tk 2 (.tk 3 (.tk 4 (.tk 5 (.tk 6 .done))))))) (by kernel_rfl) fun w1 h1 => ?_;refine Need.mk (by decide) ?_;refine Need.mk (by decide) ?_;refine Branch.mk (fun z1 => ?_) (fun z1 => ?_)
 ·have hl : xe < ye := of_decide_eq_true z1
  simp only [if_pos hl];exact EndI.mk fun w9 h9 => rfl
 have hl : ¬ xe < ye := of_decide_eq_false z1;simp only [if_neg hl];clear z1 hl;refine DrawI.go (.tk 0 (.tk 1 (.tk 2 (.tk 3 (.tk 4 (.tk 5 (.tk 6 .done))))))) (by kernel_rfl) fun w1 h1 => ?_;refine Need.mk (by decide) ?_;refine Need.mk (by decide) ?_;refine Branch.mk (fun z1 => ?_) (fun z1 => ?_)
 ·have hl : ye < xe := of_decide_eq_true z1
  simp only [if_pos hl];exact EndI.mk fun w9 h9 => rfl
 have hl : ¬ ye < xe := of_decide_eq_false z1;simp only [if_neg hl];clear z1 hl;refine Need.ok ?_;refine Branch.yes rfl ?_;refine DrawI.go (.tk 0 (.tk 1 (.tk 2 (.tk 3 (.tk 4 (.tk 5 (.tk 6 .done))))))) (by kernel_rfl) fun w1 h1 => ?_;refine Need.mk (by decide) ?_;refine Need.mk (by decide) ?_;refine Branch.mk (fun z1 => ?_) (fun z1 => ?_)
 ·have hl : xf < yf := of_decide_eq_true z1
  simp only [if_pos hl];exact EndI.mk fun w9 h9 => rfl
 have hl : ¬ xf < yf := of_decide_eq_false z1;simp only [if_neg hl];clear z1 hl;refine DrawI.go (.tk 0 (.tk 1 (.tk 2 (.tk 3 (.tk 4 (.tk 5 (.tk 6 .done))))))) (by kernel_rfl) fun w1 h1 => ?_;refine Need.mk (by decide) ?_;refine Need.mk (by decide) ?_;refine Branch.mk (fun z1 => ?_) (fun z1 => ?_)
 ·have hl : yf < xf := of_decide_eq_true z1
  simp only [if_pos hl];exact EndI.mk fun w9 h9 => rfl
 have hl : ¬ yf < xf := of_decide_eq_false z1;simp only [if_neg hl];clear z1 hl;refine Need.ok ?_;refine Branch.no rfl ?_;exact EndI.mk fun w9 h9 => rfl
end
section
open Go.RowKit
namespace Cv
open Zo
def Nx (out : List Zn) (x : Zn) : Prop := ∀ y, out.getLast? = some y -> Lt y x
def Sc (l out : List Zn) (i : Nat) (b : Int) : Prop :=
 (b = -1 /\ ∀ k x, k < i -> l[k]? = some x -> ¬ Nx out x) \/
 (∃ j y, b = (j : Nat) /\ j < i /\ l[j]? = some y /\ Nx out y /\ ∀ k x, k < i -> l[k]? = some x -> Nx out x -> ¬ Lt x y)
theorem Sc.start (l out : List Zn) : Sc l out 0 (-1) := .inl ⟨rfl, fun k x h => by omega⟩
theorem Sc.skip {l out : List Zn} {i : Nat} {b : Int} {x : Zn} (h : Sc l out i b) (hx : l[i]? = some x) (hn : ¬ Nx out x) : Sc l out (i + 1) b := by
 rcases h with ⟨rfl, h⟩ | ⟨j, y, rfl, hj, hy, hn2, h⟩
 ·refine .inl ⟨rfl, fun k x' hk hx' => ?_⟩
  by_cases e : k = i
  ·subst e; rw [hx] at hx'; cases hx'; exact hn
  ·exact h k x' (by omega) hx'
 ·refine .inr ⟨j, y, rfl, by omega, hy, hn2, fun k x' hk hx' hn' => ?_⟩
  by_cases e : k = i
  ·subst e; rw [hx] at hx'; cases hx'; exact absurd hn' hn
  ·exact h k x' (by omega) hx' hn'
theorem Sc.first {l out : List Zn} {i : Nat} {x : Zn} (h : Sc l out i (-1)) (hx : l[i]? = some x) (hn : Nx out x) : Sc l out (i + 1) (i : Nat) := by
 rcases h with ⟨_, h⟩ | ⟨j, y, e, _⟩
 ·refine .inr ⟨i, x, rfl, by omega, hx, hn, fun k x' hk hx' hn' => ?_⟩
  by_cases e : k = i
  ·subst e; rw [hx] at hx'; cases hx'; exact Lt.irrefl _
  ·exact absurd hn' (h k x' (by omega) hx')
 ·omega
theorem Sc.keep {l out : List Zn} {i j : Nat} {x y : Zn} (h : Sc l out i (j : Nat)) (hx : l[i]? = some x) (hy : l[j]? = some y) (hn : ¬ Lt x y) : Sc l out (i + 1) (j : Nat) := by
 rcases h with ⟨e, _⟩ | ⟨j', y', e, hj, hy', hn2, h⟩
 ·omega
 ·have : j' = j := by omega
  subst this;rw [hy] at hy'; cases hy';refine .inr ⟨j', y, rfl, by omega, hy, hn2, fun k x' hk hx' hn' => ?_⟩
  by_cases e : k = i
  ·subst e; rw [hx] at hx'; cases hx'; exact hn
  ·exact h k x' (by omega) hx' hn'
theorem Sc.less {l out : List Zn} {i j : Nat} {x y : Zn} (h : Sc l out i (j : Nat)) (hx : l[i]? = some x) (hy : l[j]? = some y) (hN : Nx out x) (hn : Lt x y) : Sc l out (i + 1) (i : Nat) := by
 rcases h with ⟨e, _⟩ | ⟨j', y', e, hj, hy', hn2, h⟩
 ·omega
 ·have : j' = j := by omega
  subst this;rw [hy] at hy'; cases hy';refine .inr ⟨i, x, rfl, by omega, hx, hN, fun k x' hk hx' hn' hlt => ?_⟩
  by_cases e : k = i
  ·subst e; rw [hx] at hx'; cases hx'; exact Lt.irrefl _ hlt
  ·exact h k x' (by omega) hx' hn' (Lt.trans hlt hn)
theorem last_take {S : List Zn} {p : Nat} (hp : p <= S.length) : (S.take p).getLast? = if p = 0 then none else S[p - 1]? := by
 rw [List.getLast?_eq_getElem?, List.length_take, Nat.min_eq_left hp]
 by_cases h : p = 0
 ·subst h; simp
 ·rw [if_neg h, List.getElem?_take, if_pos (by omega)]
theorem strict_at {S : List Zn} (h : S.Pairwise Lt) {i j : Nat} {x y : Zn} (hx : S[i]? = some x) (hy : S[j]? = some y) (hij : i < j) : Lt x y := by
 obtain ⟨h1, rfl⟩ := List.getElem?_eq_some_iff.1 hx;obtain ⟨h2, rfl⟩ := List.getElem?_eq_some_iff.1 hy;exact List.pairwise_iff_getElem.1 h i j h1 h2 hij
theorem nx_at {S : List Zn} (h : S.Pairwise Lt) {p j : Nat} {x : Zn} (hp : p <= S.length) (hx : S[j]? = some x) : Nx (S.take p) x ↔ p <= j := by
 unfold Nx;rw [last_take hp];constructor
 ·intro hn
  by_cases e : p = 0
  ·omega
  rw [if_neg e] at hn;obtain ⟨y, hy⟩ : ∃ y, S[p - 1]? = some y := ⟨_, List.getElem?_eq_getElem (by omega)⟩;have hlt := hn y hy;refine Nat.le_of_not_lt fun hj => ?_
  by_cases e2 : j = p - 1
  ·subst e2; rw [hx] at hy; cases hy; exact Lt.irrefl _ hlt
  ·exact Lt.irrefl _ (Lt.trans hlt (strict_at h hx hy (by omega)))
 ·intro hpj y hy
  by_cases e : p = 0
  ·rw [if_pos e] at hy; cases hy
  ·rw [if_neg e] at hy
   exact strict_at h hy hx (by omega)
theorem Sc.done {l : List Zn} {p : Nat} (hp : p <= (sorted l).length) (h : Sc l ((sorted l).take p) l.length (-1)) : (sorted l).take p = sorted l := by
 rcases h with ⟨_, h⟩ | ⟨j, y, e, _⟩
 ·refine List.take_of_length_le (Nat.le_of_not_lt fun hlt => ?_)
  have hx := List.getElem?_eq_getElem hlt;obtain ⟨k, hk⟩ := List.mem_iff_getElem?.1 ((sorted_mem l _).1 (List.mem_of_getElem? hx));exact h k _ (List.getElem?_eq_some_iff.1 hk).1 hk ((nx_at (sorted_strict l) hp hx).2 (Nat.le_refl _))
 ·omega
theorem Sc.more {l : List Zn} {p j : Nat} {y : Zn} (hp : p <= (sorted l).length) (h : Sc l ((sorted l).take p) l.length (j : Nat)) (hy : l[j]? = some y) : (sorted l)[p]? = some y := by
 rcases h with ⟨e, _⟩ | ⟨j', y', e, hj, hy', hn2, h⟩
 ·omega
 ·have : j' = j := by omega
  subst this;rw [hy] at hy'; cases hy';obtain ⟨q, hq⟩ := List.mem_iff_getElem?.1 ((sorted_mem l y).2 (List.mem_of_getElem? hy));have hpq := (nx_at (sorted_strict l) hp hq).1 hn2
  by_cases e : p = q
  ·rw [e]; exact hq
  have hql := (List.getElem?_eq_some_iff.1 hq).1;have hx := List.getElem?_eq_getElem (l := sorted l) (i := p) (by omega);obtain ⟨k, hk⟩ := List.mem_iff_getElem?.1 ((sorted_mem l _).1 (List.mem_of_getElem? hx));exact absurd (strict_at (sorted_strict l) hx hq (by omega)) (h k _ (List.getElem?_eq_some_iff.1 hk).1 hk ((nx_at (sorted_strict l) hp hx).2 (Nat.le_refl _)))
end Cv
end
section
open Go.RowKit Go.Proofs.YtanhnllkccldhaaGreat.Eng Enc
namespace Zo
theorem cmpI_gt (x y : Int) : 0 < cmpI x y ↔ y < x := by unfold cmpI; split <;> (try split) <;> omega
theorem step_gt {x y c : Int} {P : Prop} (h : 0 < c ↔ P) : 0 < (if cmpI x y ≠ 0 then cmpI x y else c) ↔ (y < x \/ y = x /\ P) := by
 have h1 := cmpI_gt x y;have h2 := cmpI_eq x y
 by_cases hc : cmpI x y = 0
 ·rw [if_neg (by simp [hc]), h]
  have := h2.1 hc;constructor
  ·intro hp; exact .inr ⟨this.symm, hp⟩
  ·rintro (hl | ⟨_, hp⟩)
   ·omega
   ·exact hp
 ·rw [if_pos hc, h1]
  constructor
  ·exact .inl
  ·rintro (hl | ⟨he, _⟩)
   ·exact hl
   ·exact absurd (h2.2 he.symm) hc
theorem cmp_gt (x y : Zn) : 0 < cmp x y ↔ Lt y x := by
 unfold cmp Lt;exact step_gt (step_gt (step_gt (step_gt (step_gt (step_gt (by simp))))))
end Zo
namespace Cv
theorem Sc.neg {l out : List Zn} {i : Nat} {b : Int} (h : Sc l out i b) (hb : b < 0) : b = -1 := by
 rcases h with ⟨rfl, _⟩ | ⟨j, y, rfl, _⟩ <;> omega
theorem Sc.pos {l out : List Zn} {i : Nat} {b : Int} (h : Sc l out i b) (hb : ¬ b < 0) : ∃ j y, b = (j : Nat) /\ j < i /\ l[j]? = some y := by
 rcases h with ⟨rfl, _⟩ | ⟨j, y, rfl, hj, hy, _⟩
 ·omega
 ·exact ⟨j, y, rfl, hj, hy⟩
end Cv
theorem rsorted_any (l : List Zn) (hlen : l.length <= 4096) (a : Option Addr) (ca : Nat) (w : World) (hS : Sl w.heap.size w (.slice a l.length ca) l) :
 Calls Tryz.prog 198 #[.slice a l.length ca] w (Ret w fun v w' => Own 86 w.heap.size w' v (Cv.sorted l)) := by
 refine fun_ret 0 w Tryz.func198 (args := [.val (.slice a l.length ca)]) rfl rfl ?_;have st := Stay.first (w := w)
 have hsl : (Cv.sorted l).length <= 4096 := Nat.le_trans (Cv.sorted_len l) hlen;refine LoopI.invC (α := Nat × World × Value) (fun y => [(3, .val y.2.2)]) (fun y => y.2.1) (fun y => y.1 <= (Cv.sorted l).length /\ Below w.heap.size w y.2.1 /\ ∃ base, Lp ⟨w, w.heap.size, Nat.le_refl _⟩ [w] [] 86 base y.2.1 y.2.2 ((Cv.sorted l).take y.1)) (fun y => (Cv.sorted l).length - y.1) ?_ ?_
 ·intro w1 h1
  exact ⟨(0, w1, .slice none 0 0), Cov.au rfl rfl rfl rfl rfl, rfl, Nat.zero_le _, h1.below, _, by simp only [List.take_zero]; exact Lp.start st h1 (by simp)⟩
 rintro ⟨p, V, ov⟩ ⟨hp, hV, base, lp0⟩;simp only at hp hV lp0;obtain ⟨ao, co, rfl⟩ := lp0.own.form;have hlenT : ((Cv.sorted l).take p).length = p := by rw [List.length_take, Nat.min_eq_left hp]
 generalize hout : (Cv.sorted l).take p = out at *;refine LoopI.invC (α := Nat × World × Int) (fun y => [(4, .val (.int .i64 y.2.2)), (5, .val (.int .i64 y.1))]) (fun y => y.2.1) (fun y => y.1 <= l.length /\ Below w.heap.size w y.2.1 /\ Lp ⟨w, w.heap.size, Nat.le_refl _⟩ [w] [] 86 base y.2.1 (.slice ao out.length co) out /\ Cv.Sc l out y.1 y.2.2) (fun y => l.length - y.1) ?_ ?_
 ·intro w1 h1
  exact ⟨(0, w1, -1), Cov.au rfl rfl rfl rfl rfl, rfl, Nat.zero_le _, h1.below, lp0.at h1 (by simp), Cv.Sc.start _ _⟩
 rintro ⟨k, U, best⟩ ⟨hk, hU, lp, hSc⟩;simp only at hk hU lp hSc;have hSU := hS.go hU hU.size;refine Branch.mk (fun z3 => ?_) (fun z3 => ?_)
 ·have hlt : k < l.length := by have := of_decide_eq_true z3; simp only at this; omega
  have hx := List.getElem?_eq_getElem (l := l) (i := k) hlt;generalize l[k] = x at hx;refine DrawI.go (.tk 0 (.tk 1 (.tk 2 (.tk 3 (.tk 4 (.tk 5 (.tk 6 (.tk 7 (.tk 8 (.tk 9 (.tk 10 (.tk 11 (.tk 12 (.tk 13 (.ev 14 (.tk 15 (.tk 16 (.tk 17 .done)))))))))))))))))) (by kernel_rfl) fun w2 h2 => ?_;refine Branch.mk (fun z4 => ?_) (fun z4 => ?_)
  ·have hz : out.length = 0 := by have := of_decide_eq_true z4; omega
   have hN : Cv.Nx out x := fun y hy => by rw [List.length_eq_zero_iff.1 hz] at hy; cases hy
   refine DrawI.go (.tk 0 (.tk 1 (.tk 2 (.tk 3 (.tk 4 (.tk 5 (.tk 6 (.tk 7 (.tk 8 (.tk 9 (.tk 10 (.tk 11 (.tk 12 (.ev 13 (.tk 14 (.tk 15 (.tk 16 .done))))))))))))))))) (by kernel_rfl) fun w4 h4 => ?_;have lpT := (lp.at h2 (by simp)).at h4 (by simp);have hST := hS.go h4.below h4.below.size;refine Branch.mk (fun z6 => ?_) (fun z6 => ?_)
   ·have hb : best = -1 := hSc.neg (of_decide_eq_true z6)
    subst hb;have hSc2 := hSc.first hx hN
    refine Need.ok (EndI.mk fun w10 h10 => ⟨(k + 1, w10, (k : Nat)), Cov.au rfl rfl rfl rfl rfl, rfl, ⟨hlt, h10.below, lpT.at h10 (by simp), hSc2⟩, by simp only; omega⟩)
   ·obtain ⟨j, y2, rfl, hjk, hy2⟩ := hSc.pos (of_decide_eq_false z6)
    refine hST.idx hx fun ad5 had5 => ?_;refine hST.ld hx had5 (Below.refl _ _) (by simp) ?_;refine hST.idx hy2 fun ad6 had6 => ?_;refine hST.ld hy2 had6 (Below.refl _ _) (by simp) ?_;apply CallI.use1
    focus (exact fun w5 h5 => rcmp08_any x y2 w5)
    intro w5 v5 h5 hB5;refine Branch.mk (fun z7 => ?_) (fun z7 => ?_)
    ·have hl : Zo.Lt x y2 := (Zo.cmp_lt x y2).1 (of_decide_eq_true z7)
     have hSc2 := hSc.less hx hy2 hN hl;refine Need.ok (EndI.mk fun w10 h10 => ⟨(k + 1, w10, (k : Nat)), Cov.au rfl rfl rfl rfl rfl, rfl, ⟨hlt, h10.below, ((lpT.at h5 (by simp)).go hB5).at h10 (by simp), hSc2⟩, by simp only; omega⟩)
    ·have hl : ¬ Zo.Lt x y2 := fun h => of_decide_eq_false z7 ((Zo.cmp_lt x y2).2 h)
     have hSc2 := hSc.keep hx hy2 hl;refine Need.ok (EndI.mk fun w10 h10 => ⟨(k + 1, w10, (j : Nat)), Cov.au rfl rfl rfl rfl rfl, rfl, ⟨hlt, h10.below, ((lpT.at h5 (by simp)).go hB5).at h10 (by simp), hSc2⟩, by simp only; omega⟩)
  ·have hz : out.length ≠ 0 := by have := of_decide_eq_false z4; omega
   have hSw := hSU.go h2.go h2.go.size;refine hSw.idx hx fun ad had => ?_;refine hSw.ld hx had (Below.refl _ _) (by simp) ?_;refine Need.ok ?_;have hlpw := lp.at h2 (by simp);obtain ⟨y, hy⟩ : ∃ y, out[out.length - 1]? = some y := ⟨_, List.getElem?_eq_getElem (by omega)⟩;have hix : ((out.length : Nat) : Int) - 1 = ((out.length - 1 : Nat) : Int) := by omega
   conv => whnf
   rw [hix];refine hlpw.own.sl.idx (k := out.length - 1) hy fun ad2 had2 => ?_;refine hlpw.own.sl.ld hy had2 (Below.refl _ _) (by simp) ?_;apply CallI.use1
   focus (exact fun w3 h3 => rcmp08_any x y w3)
   intro w3 v3 h3 hB3;have hNx : Cv.Nx out x ↔ 0 < Zo.cmp x y := by
    rw [Zo.cmp_gt];unfold Cv.Nx;rw [List.getLast?_eq_getElem?, hy];exact ⟨fun h => h y rfl, fun h y2 e => by cases e; exact h⟩
   refine DrawI.go (.tk 0 (.tk 1 (.tk 2 (.tk 3 (.tk 4 (.tk 5 (.tk 6 (.tk 7 (.tk 8 (.tk 9 (.tk 10 (.tk 11 (.tk 12 (.ev 13 (.tk 14 (.tk 15 (.tk 16 .done))))))))))))))))) (by kernel_rfl) fun w4 h4 => ?_;have lpT := ((hlpw.at h3 (by simp)).go hB3).at h4 (by simp);refine Branch.mk (fun z5 => ?_) (fun z5 => ?_)
   ·have hN := hNx.2 (of_decide_eq_true z5)
    have hST := hS.go h4.below h4.below.size;refine Branch.mk (fun z6 => ?_) (fun z6 => ?_)
    ·have hb : best = -1 := hSc.neg (of_decide_eq_true z6)
     subst hb;have hSc2 := hSc.first hx hN
     refine Need.ok (EndI.mk fun w10 h10 => ⟨(k + 1, w10, (k : Nat)), Cov.au rfl rfl rfl rfl rfl, rfl, ⟨hlt, h10.below, lpT.at h10 (by simp), hSc2⟩, by simp only; omega⟩)
    ·obtain ⟨j, y2, rfl, hjk, hy2⟩ := hSc.pos (of_decide_eq_false z6)
     refine hST.idx hx fun ad5 had5 => ?_;refine hST.ld hx had5 (Below.refl _ _) (by simp) ?_;refine hST.idx hy2 fun ad6 had6 => ?_;refine hST.ld hy2 had6 (Below.refl _ _) (by simp) ?_;apply CallI.use1
     focus (exact fun w5 h5 => rcmp08_any x y2 w5)
     intro w5 v5 h5 hB5;refine Branch.mk (fun z7 => ?_) (fun z7 => ?_)
     ·have hl : Zo.Lt x y2 := (Zo.cmp_lt x y2).1 (of_decide_eq_true z7)
      have hSc2 := hSc.less hx hy2 hN hl;refine Need.ok (EndI.mk fun w10 h10 => ⟨(k + 1, w10, (k : Nat)), Cov.au rfl rfl rfl rfl rfl, rfl, ⟨hlt, h10.below, ((lpT.at h5 (by simp)).go hB5).at h10 (by simp), hSc2⟩, by simp only; omega⟩)
     ·have hl : ¬ Zo.Lt x y2 := fun h => of_decide_eq_false z7 ((Zo.cmp_lt x y2).2 h)
      have hSc2 := hSc.keep hx hy2 hl;refine Need.ok (EndI.mk fun w10 h10 => ⟨(k + 1, w10, (j : Nat)), Cov.au rfl rfl rfl rfl rfl, rfl, ⟨hlt, h10.below, ((lpT.at h5 (by simp)).go hB5).at h10 (by simp), hSc2⟩, by simp only; omega⟩)
   ·have hN : ¬ Cv.Nx out x := fun h => of_decide_eq_false z5 (hNx.1 h)
    have hSc2 := hSc.skip hx hN;refine Need.ok (EndI.mk fun w10 h10 => ⟨(k + 1, w10, best), Cov.au rfl rfl rfl rfl rfl, rfl, ⟨hlt, h10.below, lpT.at h10 (by simp), hSc2⟩, by simp only; omega⟩)
 ·have hge : k = l.length := by have := of_decide_eq_false z3; simp only at this; omega
  subst hge;refine Branch.mk (fun z4 => ?_) (fun z4 => ?_)
  ·have hb : best = -1 := hSc.neg (of_decide_eq_true z4)
   subst hb;have he : out = Cv.sorted l := by rw [<- hout] at hSc ⊢; exact hSc.done hp
   rw [he] at lp;refine EndI.mk fun w10 h10 => ?_;have := (lp.at h10 (by simp)).own.lower (lp.anc w (by simp));rw [<- he] at this ⊢;exact this
  ·obtain ⟨j, y, rfl, hjk, hy⟩ := hSc.pos (of_decide_eq_false z4)
   have hm : (Cv.sorted l)[p]? = some y := by rw [<- hout] at hSc; exact hSc.more hp hy
   have hpl := (List.getElem?_eq_some_iff.1 hm).1;have htk : (Cv.sorted l).take (p + 1) = out ++ [y] := by rw [List.take_add_one, hm, hout]; rfl
   refine hSU.idx hy fun ad had => ?_;refine hSU.ld hy had (Below.refl _ _) (by simp) ?_;refine NewI.mk fun b1 hb1 => ?_;have hb1' : U.heap.size <= b1 := hb1;refine GenN.appL (α := Zn) elZ lp (fun y hy => .inr (by simp at hy; omega)) (by simp) [y] (fun w8 h8 => src_own h8 0 rfl rfl rfl rfl) (by simp; omega) (by decide) fun a' c' w8 w9 h8 lp9 hsz hbl => ?_;refine EndI.mk fun w10 h10 => ⟨(p + 1, w10, .slice a' (out ++ [y]).length c'), Cov.au rfl rfl rfl rfl rfl, rfl, ⟨hpl, h10.below, base, by simp only [htk]; exact lp9.at h10 (by simp)⟩, by simp only; omega⟩
end
end Go.Proofs.YtanhnllkccldhaaGreat
