/-
  rallentando/rallentandolaw25.CloseDoes: the law.
-/
import Derived.Test.YtanhnllkccldhaaGreatLCloseDoes8
import Derived.Test.YtanhnllkccldhaaGreatLCloseDoes3
namespace Go.Proofs.YtanhnllkccldhaaGreat
set_option linter.unusedVariables false
set_option linter.unusedSimpArgs false
set_option maxRecDepth 100000
open Go.RowKit Go.Proofs.YtanhnllkccldhaaGreat.Eng Enc
namespace Cl
open Ky
theorem rs_hitG (l : List Zn) (long : Int) : Rs long (Rg.up long (Rg.hitG l long)) := ⟨Rg.up_rising _ _, fun n hn => by
 unfold Rg.up at hn
 obtain ⟨m, hm, rfl⟩ := List.mem_map.1 hn
 obtain ⟨h1, h2⟩ := List.mem_filter.1 hm
 unfold Rg.hitG at h2
 simp only [Bool.and_eq_true] at h2
 have h3 := List.mem_range.1 h1
 refine mem_regs.2 ?_
 unfold Rg.isR
 show (decide (0 ≤ (m : Int)) && decide ((m : Int) < _) && (Rg.point (m : Int) long).2) = true
 rw [decide_eq_true (by omega), decide_eq_true (by omega), h2.1]; rfl⟩
theorem chk_val (old p : List Zn) (cz cr : Int) : chk old p cz cr = 0 ∨ chk old p cz cr = 2 ∨ chk old p cz cr = 8 := by
 unfold chk
 split
 ·exact .inr (.inl rfl)
 split
 ·exact .inr (.inr rfl)
 ·exact .inl rfl
theorem RowsI.get {n₁ : Nat} {W : World} {ss : List Svl} {ls : List (List Int)} (h : RowsI n₁ W ss ls) (he : ss.length = ls.length) {k : Nat} {l : List Int} (hk : ls[k]? = some l) : ∃ a c, ss[k]? = some ⟨a, l.length, c⟩ ∧ Own TKi n₁ W (.slice a l.length c) l := by
 have h1 := (List.getElem?_eq_some_iff.1 hk).1
 have h2 := List.getElem?_eq_getElem (l := ss) (i := k) (by omega)
 generalize ss[k]'(by omega) = s at h2
 have h3 := h k s l h2 hk
 obtain ⟨a, c, e⟩ := id h3.form
 injection e with e1 e2 e3
 obtain ⟨sa, sl, sc⟩ := s
 simp only at e1 e2 e3 h3
 subst e2
 exact ⟨sa, sc, h2, h3⟩
end Cl
set_option maxHeartbeats 8000000 in
open Cl Ky in
theorem closeDoes_walk (old p : List Zn) (io : ∀ z, z ∈ old → Zo.i64 z) (ip : ∀ z, z ∈ p → Zo.i64 z) (cz cr : Int) (hz : inK .i64 cz) (hr' : inK .i64 cr) (a b : Option Addr) (ca cb : Nat) (w : World) (hS : Sl w.heap.size w (.slice a old.length ca) old) (hT : Sl w.heap.size w (.slice b p.length cb) p) :
 Calls Tryz.prog 5 #[.slice a old.length ca, .slice b p.length cb, .agg #[.int .i64 cz, .int .i64 cr]] w fun e w' => e = .returned (.bool true) ∧ Below w.heap.size w w' := by
 refine fun_eq 0 w Tryz.func5 (args := [.val (.slice a old.length ca), .val (.slice b p.length cb), .agg [.val (.int .i64 cz), .val (.int .i64 cr)]]) rfl rfl ?_
 have st := Stay.first (w := w)
 refine NewI.mk fun b1 hb1 => ?_
 apply CallI.use1
 focus (exact fun w1 h1 => great25_any old p io ip a b ca cb w1 (hS.st (st.at h1)) (hT.st (st.at h1)))
 intro w1 v1 h1 hB1
 have st := st.nx h1 hB1
 refine Branch.mk (fun h1 => ?_) (fun h1 => ?_)
 ·exact EndI.mk fun w9 h9 => rfl
 have hng : great old p = false := by simpa using h1
 obtain ⟨⟨lo40, lp40⟩, hl, hco, hcp⟩ := great_no hng
 have hml : maxL 1 [Tb.lng 0 old, Tb.lng 0 p] = longOf old p := by
  unfold longOf
  simp only [maxL]
  split <;> split <;> omega
 have hl16 : 1 ≤ longOf old p ∧ longOf old p ≤ 16 := by omega
 apply CallI.use1
 focus (exact fun w2 h2 => rlong24_any old io a ca w2 (hS.st (st.at h2)))
 intro w2 v2 h2 hB2
 have st := st.nx h2 hB2
 apply CallI.use1
 focus (exact fun w3 h3 => rlong24_any p ip b cb w3 (hT.st (st.at h3)))
 intro w3 v3 h3 hB3
 have st := st.nx h3 hB3
 (conv => whnf)
 rw [hml]
 have hc := fun (w : World) hs ht => cclose_any old p cz cr a b ca cb w hs ht
 have hr := fun (w : World) hs ht => crounds_any old p cz cr a b ca cb w hs ht
 have hch := fun (w : World) hs ht => rcheck25_any old p io ip cz cr a b ca cb w hs ht
 by_cases h0 : chk old p cz cr = 0
 case neg =>
  have k1 : close old p cz cr = ([], 0, chk old p cz cr) := by unfold close; rw [if_pos h0]
  have k2 : rounds old p cz cr = ([], chk old p cz cr) := by unfold rounds; rw [if_pos h0]
  have hv := chk_val old p cz cr
  rw [k1] at hc
  rw [k2] at hr
  generalize chk old p cz cr = g at hc hr hch h0 hv
  apply CallI.use
  focus (exact fun w4 h4 => hc w4 (hS.st (st.at h4)) (hT.st (st.at h4)))
  rintro v w4 v4 h4 hB4 ⟨a4, c4, rfl, hO4⟩
  have st := st.nx h4 hB4
  apply CallI.use
  focus (exact fun w5 h5 => hr w5 (hS.st (st.at h5)) (hT.st (st.at h5)))
  rintro v w5 v5 h5 hB5 ⟨a5, c5, ss, rfl, hsl, hO5, hR5⟩
  have st := st.nx h5 hB5
  apply CallI.use1
  focus (exact fun w6 h6 => hch w6 (hS.st (st.at h6)) (hT.st (st.at h6)))
  intro w6 v6 h6 hB6
  have st := st.nx h6 hB6
  refine Branch.no (by simp) ?_
  refine Branch.yes (by simpa using h0) ?_
  obtain ⟨R, hR⟩ := RestR.ex (Rg.up (longOf old p) (Rg.hitG p (longOf old p))) (longOf old p) (Rg.orI (Rg.up (longOf old p) (Rg.hitG p (longOf old p))) (cmpV (Rg.up (longOf old p) (Rg.hitG old (longOf old p))) (Rg.up (longOf old p) (Rg.hitG p (longOf old p))) (longOf old p))) (rs_or (rs_hitG p _) (rs_cmp _ _))
  have rO := rs_hitG old (longOf old p)
  have rP := rs_hitG p (longOf old p)
  apply CallI.use
  focus (exact fun w7 h7 => rlist14_gen old io (by omega) (longOf old p) hl16 a ca w7 (hS.st (st.at h7)))
  rintro v w7 v7 h7 hB7 hO7
  have st := st.nx h7 hB7
  apply CallI.use
  focus (exact fun w8 h8 => rlist14_gen p ip (by omega) (longOf old p) hl16 b cb w8 (hT.st (st.at h8)))
  rintro v w8 v8 h8 hB8 hO8
  have st := st.nx h8 hB8
  generalize Rg.up (longOf old p) (Rg.hitG old (longOf old p)) = xo at hO7 hR rO ⊢
  generalize Rg.up (longOf old p) (Rg.hitG p (longOf old p)) = xp at hO8 hR rP ⊢
  obtain ⟨a7, c7, rfl⟩ := hO7.form
  obtain ⟨a8, c8, rfl⟩ := hO8.form
  apply CallI.use
  focus (exact fun w9 h9 => rrounds25_any xo xp (longOf old p) hl16 rO rP R hR a7 a8 c7 c8 w9 ((hO7.st (st.at h9)).sl) ((hO8.st (st.at h9)).sl))
  rintro v w9 v9 h9 hB9 ⟨a9, c9, sr, rfl, hsl9, hO9, hR9⟩
  have st := st.nx h9 hB9
  refine Branch.no (by rcases hv with h | h | h <;> simp [h]) ?_
  refine Branch.no (by rcases hv with h | h | h <;> simp [h]) ?_
  refine Branch.yes (by simp) ?_
  refine Branch.yes rfl ?_
  refine Branch.yes (by simp [hsl]) ?_
  refine Branch.yes rfl ?_
  refine Branch.yes (by simpa using h0) ?_
  refine Branch.yes (by simp) ?_
  exact EndI.mk fun w9 h9 => by simp
 obtain ⟨hcz, hcr⟩ := chk_zero h0
 obtain ⟨ho, hp⟩ := chk_good hng h0
 rw [h0] at hch
 have hlo := fun (w : World) hs => rlist14_any old ho.chk (by omega) (longOf old p) hl16 a ca w hs
 have hlp := fun (w : World) hs => rlist14_any p hp.chk (by omega) (longOf old p) hl16 b cb w hs
 have rO := rs_rl ho.chk hl16
 have rP := rs_rl hp.chk hl16
 obtain ⟨R, hR⟩ := RestR.ex (rl p (longOf old p)) (longOf old p) (Rg.orI (rl p (longOf old p)) (cmpV (rl old (longOf old p)) (rl p (longOf old p)) (longOf old p))) (rs_or rP (rs_cmp _ _))
 have hD := close_does hng h0 hcr R hR
 have eo : Rg.up (longOf old p) (Rg.inL old (longOf old p)) = rl old (longOf old p) := rfl
 have ep : Rg.up (longOf old p) (Rg.inL p (longOf old p)) = rl p (longOf old p) := rfl
 rw [eo] at hlo
 rw [ep] at hlp
 generalize rl old (longOf old p) = xo at *
 generalize rl p (longOf old p) = xp at *
 rcases hD with ⟨e, k1, k2, k3, k4⟩ | ⟨l, ls, k1, k2, k5, gl, gs, kR, kn, kl⟩
 ·rw [k1] at hc
  rw [k2] at hr
  apply CallI.use
  focus (exact fun w4 h4 => hc w4 (hS.st (st.at h4)) (hT.st (st.at h4)))
  rintro v w4 v4 h4 hB4 ⟨a4, c4, rfl, hO4⟩
  have st := st.nx h4 hB4
  apply CallI.use
  focus (exact fun w5 h5 => hr w5 (hS.st (st.at h5)) (hT.st (st.at h5)))
  rintro v w5 v5 h5 hB5 ⟨a5, c5, ss, rfl, hsl, hO5, hR5⟩
  have st := st.nx h5 hB5
  apply CallI.use1
  focus (exact fun w6 h6 => hch w6 (hS.st (st.at h6)) (hT.st (st.at h6)))
  intro w6 v6 h6 hB6
  have st := st.nx h6 hB6
  refine Branch.no (by simp) ?_
  refine Branch.no rfl ?_
  refine Branch.yes (by simpa using k3) ?_
  apply CallI.use
  focus (exact fun w7 h7 => hlo w7 (hS.st (st.at h7)))
  rintro v w7 v7 h7 hB7 hO7
  have st := st.nx h7 hB7
  apply CallI.use
  focus (exact fun w8 h8 => hlp w8 (hT.st (st.at h8)))
  rintro v w8 v8 h8 hB8 hO8
  have st := st.nx h8 hB8
  obtain ⟨a7, c7, rfl⟩ := hO7.form
  obtain ⟨a8, c8, rfl⟩ := hO8.form
  apply CallI.use
  focus (exact fun w9 h9 => rrounds25_any xo xp (longOf old p) hl16 rO rP R hR a7 a8 c7 c8 w9 ((hO7.st (st.at h9)).sl) ((hO8.st (st.at h9)).sl))
  rintro v w9 v9 h9 hB9 ⟨a9, c9, sr, rfl, hsl9, hO9, hR9⟩
  have st := st.nx h9 hB9
  rcases k4 with ⟨rfl, kz⟩ | ⟨rfl, kr⟩
  ·refine Branch.yes rfl ?_
   have hcrw : Tb.crowded cz (longOf old p) = true := by unfold Tb.crowded; simp [kz]
   have hcd := fun (w : World) => rcrowded24_any cz (longOf old p) hl16 w
   rw [hcrw] at hcd
   apply CallI.use1
   focus (exact fun w10 h10 => hcd w10)
   intro w10 v10 h10 hB10
   have st := st.nx h10 hB10
   refine Branch.no rfl ?_
   refine Branch.yes rfl ?_
   refine Branch.yes rfl ?_
   refine Branch.yes (by simp [hsl]) ?_
   refine Branch.yes rfl ?_
   refine Branch.no rfl ?_
   refine Branch.yes rfl ?_
   refine Branch.yes rfl ?_
   exact EndI.mk fun w9 h9 => rfl
  ·refine Branch.no rfl ?_
   refine Branch.yes rfl ?_
   refine Branch.yes rfl ?_
   refine Branch.yes rfl ?_
   refine Branch.yes (by simp [hsl]) ?_
   refine Branch.yes rfl ?_
   refine Branch.no rfl ?_
   refine Branch.yes rfl ?_
   exact EndI.mk fun w9 h9 => by simp; omega
 rw [k1] at hc
 rw [k2] at hr
 subst kR
 apply CallI.use
 focus (exact fun w4 h4 => hc w4 (hS.st (st.at h4)) (hT.st (st.at h4)))
 rintro v w4 v4 h4 hB4 ⟨a4, c4, rfl, hO4⟩
 have st := st.nx h4 hB4
 apply CallI.use
 focus (exact fun w5 h5 => hr w5 (hS.st (st.at h5)) (hT.st (st.at h5)))
 rintro v w5 v5 h5 hB5 ⟨a5, c5, ss, rfl, hsl, hO5, hR5⟩
 have st := st.nx h5 hB5
 simp only at hsl hR5
 apply CallI.use1
 focus (exact fun w6 h6 => hch w6 (hS.st (st.at h6)) (hT.st (st.at h6)))
 intro w6 v6 h6 hB6
 have st := st.nx h6 hB6
 refine Branch.no rfl ?_
 refine Branch.no rfl ?_
 refine Branch.no rfl ?_
 apply CallI.use
 focus (exact fun w7 h7 => hlo w7 (hS.st (st.at h7)))
 rintro v w7 v7 h7 hB7 hO7
 have st := st.nx h7 hB7
 apply CallI.use
 focus (exact fun w8 h8 => hlp w8 (hT.st (st.at h8)))
 rintro v w8 v8 h8 hB8 hO8
 have st := st.nx h8 hB8
 obtain ⟨a7, c7, rfl⟩ := hO7.form
 obtain ⟨a8, c8, rfl⟩ := hO8.form
 apply CallI.use
 focus (exact fun w9 h9 => rrounds25_any xo xp (longOf old p) hl16 rO rP _ hR a7 a8 c7 c8 w9 ((hO7.st (st.at h9)).sl) ((hO8.st (st.at h9)).sl))
 rintro v w9 v9 h9 hB9 ⟨a9, c9, sr, rfl, hsl9, hO9, hR9⟩
 have st := st.nx h9 hB9
 have hsl9' : sr.length = ls.length := by rw [hsl9, List.length_map]
 refine Branch.no (by simp [hsl9']) ?_
 refine Branch.no (by simp [hsl]) ?_
 refine Branch.no (by simpa using k5) ?_
 have my : ∀ z : List Zn, Cl.Good (longOf old p) z → Tb.may z = true := fun z hg => (Tb.may_iff z).2 ⟨good_check0 hg, good_odd hg⟩
 have hmy := fun (z : List Zn) (hg : Cl.Good (longOf old p) z) (a : Option Addr) (c : Nat) (w : World) hs => rmaylist_any z (fun y hy => Zs.chk_i64 (hg.chk y hy)) a c w hs
 have hm1 := hmy l gl
 rw [my l gl] at hm1
 apply CallI.use1
 focus (exact fun w10 h10 => hm1 a4 c4 w10 ((hO4.st (st.at h10)).sl))
 intro w10 v10 h10 hB10
 have st := st.nx h10 hB10
 refine Branch.no rfl ?_
 have S4 := ((hO4.st st).sl)
 have S5 := ((hO5.st st).sl)
 have S9 := ((hO9.st st).sl)
 have R5 : Cl.Rows w5.heap.size v10 ss ls := Cl.Rows.below hR5 (st.get (by simp))
 have R9 : Cl.RowsI w9.heap.size v10 sr (ls.map fun x => rl x (longOf old p)) := Cl.RowsI.below hR9 (st.get (by simp))
 obtain ⟨_, _, hfe, hcap1, hcap2, _⟩ := id S5.form
 injection hfe with _ _ hfe
 subst hfe
 unfold maxLen at hcap2
 have hrl : ∀ (x : List Zn), Rg.up (longOf old p) (Rg.inL x (longOf old p)) = rl x (longOf old p) := fun x => rfl
 refine LoopI.invC (α := Nat × World) (fun y => [(18, .val (.int .i64 y.1))]) (fun y => y.2) (fun y => y.1 ≤ ls.length ∧ Below v10.heap.size v10 y.2) (fun y => ls.length - y.1) ?_ ?_
 ·intro w11 h11
  exact ⟨(0, w11), Cov.au rfl rfl rfl rfl rfl, rfl, Nat.zero_le _, at_belowM h11 (by simp)⟩
 rintro ⟨m, U⟩ ⟨hm2, hU⟩
 simp only at hm2 hU
 refine Branch.mk (fun z1 => ?_) (fun z1 => ?_)
 ·have hlt : m < ls.length := by have := of_decide_eq_true z1; simp only at this; omega
  have hA := List.getElem?_eq_getElem (l := ls) (i := m) hlt
  generalize ls[m]'hlt = A at hA
  have gA := gs A (List.mem_of_getElem? hA)
  obtain ⟨sA, cA, eA, oA⟩ := Cl.Rows.get R5 hsl hA
  have hB : (ls.map fun x => rl x (longOf old p))[m]? = some (rl A (longOf old p)) := by rw [List.getElem?_map, hA]; rfl
  obtain ⟨sB, cB, eB, oB⟩ := Cl.RowsI.get R9 hsl9 hB
  have hm3 := hmy A gA
  rw [my A gA] at hm3
  have hli := fun (w : World) hs => rlist14_any A gA.chk (by have := gA.len hl; omega) (longOf old p) hl16 sA cA w hs
  rw [hrl A] at hli
  generalize hxA : rl A (longOf old p) = xA at eB oB hli
  refine DrawI.go (.tk 0 (.tk 1 (.tk 2 (.tk 3 (.ev 4 (.tk 5 (.tk 6 (.tk 7 (.tk 8 (.tk 9 (.tk 10 (.tk 11 (.tk 13 (.tk 14 (.tk 15 (.tk 16 (.ev 12 (.ev 17 (.tk 18 (.tk 19 .done)))))))))))))))))))) (by kernel_rfl) fun w3 h3 => ?_
  have b3 : Below v10.heap.size v10 w3 := hU.trans ((at_belowM h3 (by simp)).mono hU.size)
  have S53 := S5.go b3 b3.size
  refine S53.idx eA fun ad had => ?_
  refine S53.ldv eA (v := .slice sA A.length cA) rfl had (Below.refl _ _) (by simp) ?_
  apply CallI.use1
  focus (exact fun w5 h5 => hm3 sA cA w5 (Sl.go ((oA.below b3).sl) (at_belowM h5 (by simp)) (at_belowM h5 (by simp)).size))
  intro w11 v11 h11 hB11
  have b11 : Below v10.heap.size v10 v11 := (b3.trans ((at_belowM h11 (by simp)).mono b3.size)).trans (hB11.mono (Nat.le_trans b3.size (at_belowM h11 (by simp)).size))
  refine Branch.no rfl ?_
  have S93 := S9.go b3 b3.size
  refine S53.idx eA fun ad2 had2 => ?_
  refine S53.ldv eA (v := .slice sA A.length cA) rfl had2 (Below.refl _ _) (by simp) ?_
  refine S93.idx eB fun ad3 had3 => ?_
  refine S93.ldv eB (v := .slice sB xA.length cB) rfl had3 (Below.refl _ _) (by simp) ?_
  apply CallI.use
  focus (exact fun w12 h12 => hli w12 (Sl.go ((oA.below b11).sl) (at_belowM h12 (by simp)) (at_belowM h12 (by simp)).size))
  rintro v w12 v12 h12 hB12 hO12
  obtain ⟨a12, c12, rfl⟩ := hO12.form
  have b12 : Below v10.heap.size v10 v12 := (b11.trans ((at_belowM h12 (by simp)).mono b11.size)).trans (hB12.mono (Nat.le_trans b11.size (at_belowM h12 (by simp)).size))
  apply CallI.use1
  focus (exact fun w13 h13 => rsame14_any xA xA a12 c12 sB cB w13 (Sl.go hO12.sl (at_belowM h13 (by simp)) (at_belowM h13 (by simp)).size) (Sl.go ((oB.below b12).sl) (at_belowM h13 (by simp)) (at_belowM h13 (by simp)).size))
  intro w13 v13 h13 hB13
  have b13 : Below v10.heap.size v10 v13 := (b12.trans ((at_belowM h13 (by simp)).mono b12.size)).trans (hB13.mono (Nat.le_trans b12.size (at_belowM h13 (by simp)).size))
  refine Branch.no (by simp) ?_
  refine Need.mk (by simp only [inK]; omega) (EndI.mk fun w19 h19 => ⟨(m + 1, w19), Cov.au rfl rfl rfl rfl rfl, rfl, ⟨hlt, b13.trans ((at_belowM h19 (by simp)).mono b13.size)⟩, by simp only; omega⟩)
 ·refine Branch.mk (fun z2 => ?_) (fun z2 => ?_)
  ·have h0' : ls = [] := by have := of_decide_eq_true z2; simp only at this; exact List.eq_nil_of_length_eq_zero (by omega)
   have := kn h0'
   subst this
   exact EndI.mk fun w19 h19 => rfl
  have hne : ls ≠ [] := fun h => by subst h; simp at z2
  have hpos : 0 < ls.length := List.length_pos_iff.2 hne
  have hB : (ls.map fun x => rl x (longOf old p))[ls.length - 1]? = some (rl l (longOf old p)) := by rw [List.getElem?_map, kl hne]; rfl
  obtain ⟨sB, cB, eB, oB⟩ := Cl.RowsI.get R9 hsl9 hB
  have el : (ls.length : Int) - 1 = ((ls.length - 1 : Nat) : Int) := by omega
  have hli := fun (w : World) hs => rlist14_any l gl.chk (by have := gl.len hl; omega) (longOf old p) hl16 a4 c4 w hs
  rw [hrl l] at hli
  generalize hxA : rl l (longOf old p) = xA at eB oB hli
  refine DrawI.go (.tk 0 (.tk 1 (.tk 3 (.tk 4 (.tk 5 (.tk 6 (.tk 7 (.ev 2 (.ev 8 (.tk 9 .done)))))))))) (by kernel_rfl) fun w3 h3 => ?_
  have b3 : Below v10.heap.size v10 w3 := hU.trans ((at_belowM h3 (by simp)).mono hU.size)
  have S93 := S9.go b3 b3.size
  refine Need.mk (by simp only [inK]; omega) ?_
  refine S93.idxE eB el fun ad3 had3 => ?_
  refine S93.ldvE eB el (v := .slice sB xA.length cB) rfl had3 (Below.refl _ _) (by simp) ?_
  apply CallI.use
  focus (exact fun w12 h12 => hli w12 (Sl.go (S4.go b3 b3.size) (at_belowM h12 (by simp)) (at_belowM h12 (by simp)).size))
  rintro v w12 v12 h12 hB12 hO12
  obtain ⟨a12, c12, rfl⟩ := hO12.form
  have b12 : Below v10.heap.size v10 v12 := (b3.trans ((at_belowM h12 (by simp)).mono b3.size)).trans (hB12.mono (Nat.le_trans b3.size (at_belowM h12 (by simp)).size))
  apply CallI.use1
  focus (exact fun w13 h13 => rsame14_any xA xA a12 c12 sB cB w13 (Sl.go hO12.sl (at_belowM h13 (by simp)) (at_belowM h13 (by simp)).size) (Sl.go ((oB.below b12).sl) (at_belowM h13 (by simp)) (at_belowM h13 (by simp)).size))
  intro w13 v13 h13 hB13
  exact EndI.mk fun w19 h19 => by simp
end Go.Proofs.YtanhnllkccldhaaGreat
namespace Go.Proofs.YtanhnllkccldhaaGreat
set_option linter.unusedVariables false
open Go.ChangeShapes Go.WideShapes Go.ChangeAt Go.RowKit Go.Deep
set_option maxRecDepth 100000 in
theorem closeDoes_lifted (os : Os) (started : os.Started) (H : Type) (enc : TypeId × Value → H) :
 ReturnsInHanded {} Tryz.checked os 5 .any (Rows.closeDoesSpec.pre6 enc Tryz.prog Tryz.f5 Rows.closeDoesRow.domain false) (Rows.closeDoesSpec.post enc Tryz.prog Tryz.f5 false true false false) := by
 refine returnsInHanded_of_change (C := Tryz.checked) own started (by kernel_rfl) Tryz.func5
  (ChangeSpec.witness6 (enc := enc) (C := Tryz.checked) false ⟨#[], #[.slice none 0 0, .slice none 0 0, .agg #[.int .i64 0, .int .i64 0]], []⟩ 8 (by kernel_rfl) (by kernel_rfl) (by kernel_rfl) (by kernel_rfl)) ?_
 intro W base args ds gs before hval0 hW _ _
 have hval : ∀ (j : Nat) t v, Tryz.f5.params[j]? = some t → args[j]? = some v → Value.okWide Tryz.prog W .any base t v := hval0
 have hW' := hW
 obtain ⟨p, q, hA0, hV, rfl, hfz, hnd⟩ := hW
 have hA : DataW.TrodAll enc Tryz.prog W 0 (fun _ => true) true Tryz.f5.params.toList args.toList ds p := hA0
 rw [Tryz.params5] at hA hval
 obtain ⟨v0, vs0, d0, ds0, p0_, q0_, hargs, rfl, rfl, h0, r0⟩ := trodAll_cons hA
 obtain ⟨v1, vs1, d1, ds1, p1_, q1_, rfl, rfl, rfl, h1, r1⟩ := trodAll_cons r0
 obtain ⟨v2, vs2, d2, ds2, p2_, q2_, rfl, rfl, rfl, h2, r2⟩ := trodAll_cons r1
 obtain ⟨rfl, rfl, rfl⟩ := trodAll_nil r2
 obtain rfl : args = #[v0, v1, v2] := by cases args; simp_all
 obtain ⟨rfl, rfl⟩ := trodVars_none hV
 obtain ⟨x0, L0, c0, rfl, S0, G0⟩ := open_lst Tryz.underlying22 (opens_zn Tryz.underlying86 (by kernel_rfl) Tryz.underlying84 (by kernel_rfl)) (hval 0 22 v0 rfl rfl) h0
 obtain ⟨x1, L1, c1, rfl, S1, G1⟩ := open_lst Tryz.underlying22 (opens_zn Tryz.underlying86 (by kernel_rfl) Tryz.underlying84 (by kernel_rfl)) (hval 1 22 v1 rfl rfl) h1
 obtain ⟨p2, q2, rfl, wp2, wq2⟩ := open_rt Tryz.underlying54 (by kernel_rfl) rfl rfl (by kernel_rfl) (by kernel_rfl) Tryz.underlying3 Tryz.underlying3 (hval 2 54 v2 rfl rfl) h2
 clear hA0 hval0
 exact (closeDoes_walk L0 L1 (fun z hz => Cl.ins_i64 (G0 z hz)) (fun z hz => Cl.ins_i64 (G1 z hz)) p2 q2 wp2 wq2 x0 x1 c0 c1 W S0 S1).mono fun e W' ⟨he, hg⟩ => ⟨_, he, law_post laidOut (by kernel_rfl) rfl rfl Tryz.underlying4 hW' rfl hg⟩
set_option maxRecDepth 100000 in
theorem closeDoes_k1 : (Rows.closeDoesRow.inPlace == Tryz.pinned.checked.prog.inPlace 5) = true := by kernel_rfl
set_option maxRecDepth 100000 in
theorem closeDoes_k2 : (Rows.closeDoesRow.unfollowed == Tryz.pinned.checked.prog.unfollowed 5) = true := by kernel_rfl
set_option maxRecDepth 100000 in
theorem closeDoes_k3 : (Rows.closeDoesRow.recurses == Tryz.pinned.checked.prog.recurses 5) = true := by kernel_rfl
set_option maxRecDepth 100000 in
theorem closeDoes_k4 : (Rows.closeDoesRow.named == Tryz.pinned.checked.prog.varsNamed 5) = true := by kernel_rfl
set_option maxRecDepth 100000 in
theorem closeDoes_closed : joinedFacts Tryz.pinned.checked.prog 5 Tryz.f5 Rows.closeDoesSpec Rows.closeDoesRow = true := by
 unfold joinedFacts
 rw [closeDoes_k1, closeDoes_k2, closeDoes_k3, closeDoes_k4]
 kernel_rfl
set_option maxRecDepth 100000 in
theorem closeDoes_over : Rows.closeDoesRow.holds Tryz.pinned (OpenSpec.ofChange Rows.closeDoesSpec) :=
 OpenClaim.holds_of_wide 5 Tryz.f5 rfl rfl rfl rfl rfl rfl rfl ⟨rfl, rfl, rfl, rfl, rfl⟩ rfl rfl rfl rfl rfl (by kernel_rfl) Tryz.func5 closeDoes_closed
  (of_decide_eq_true (by kernel_rfl)) (by unfold Func.isWrapper; first | (rw [if_pos (by decide +kernel)]; kernel_rfl) | (rw [if_neg (by decide +kernel)]; exact ⟨rfl, rfl⟩))
  (fun os started H enc _ => closeDoes_lifted os started H enc)
theorem closeDoes.proved : Rows.CloseDoesSaid := closeDoes_over
#print axioms closeDoes.proved
end Go.Proofs.YtanhnllkccldhaaGreat
