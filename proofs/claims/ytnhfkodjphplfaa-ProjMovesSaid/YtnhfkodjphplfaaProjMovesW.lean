/-
  The walk of rallentandolaw07.ProjMoves, by the engine.
-/
import Derived.Test.YtnhfkodjphplfaaAlive07
import Derived.Test.YtnhfkodjphplfaaMove
import Derived.Test.YtnhfkodjphplfaaKeeps
namespace Go.Proofs.Ytnhfkodjphplfaa
set_option linter.unusedVariables false
set_option linter.unusedSimpArgs false
set_option maxRecDepth 100000
open Go.RowKit Go.Proofs.Ytnhfkodjphplfaa.Eng Enc

theorem infoI0 : (Try.prog.info? 3).map (fun i => i.zero.map fun v => v.cells.toList) = some (some [Value.int .i64 0]) := by kernel_rfl

theorem projMoves_walk (n : Int) (a : Option Addr) (cap : Nat) (L : List Int) (ao : Option Addr) (co : Nat) (O : List Int) (at_ : Option Addr) (ct : Nat) (T : List Rt) (hT : ∀ x ∈ T, x.ins) (w : World) (hS : Sl w.heap.size w (.slice a L.length cap) L) (hSO : Sl w.heap.size w (.slice ao O.length co) O) (hST : Sl w.heap.size w (.slice at_ T.length ct) T) :
    Calls Try.prog 7 #[.agg #[.int .i64 n, .slice a L.length cap], .slice ao O.length co, .slice at_ T.length ct] w fun e w' => e = .returned (.bool true) ∧ Below w.heap.size w w' := by
  refine fun_eq 0 w Try.func7 (args := [.agg [.val (.int .i64 n), .val (.slice a L.length cap)], .val (.slice ao O.length co), .val (.slice at_ T.length ct)]) rfl rfl ?_
  have st := Stay.first (w := w)
  refine NewI.mk fun b1 hb1 => ?_
  apply CallI.use1
  focus (exact fun w1 h1 => alive07_any w1)
  intro w1 v1 h1 hB1
  have st := st.next h1 (fun x hx => by simp at hx <;> omega) hB1
  refine Branch.mk (fun hc => ?_) (fun hc => ?_)
  · exact EndI.mk fun _ _ => rfl
  refine Branch.mk (fun hcT => ?_) (fun hcT => ?_)
  · exact EndI.mk fun _ _ => rfl
  refine Branch.mk (fun hcO => ?_) (fun hcO => ?_)
  · exact EndI.mk fun _ _ => rfl
  refine Branch.no rfl ?_
  have hOl : O.length ≤ 100 := by simp only [decide_eq_false_iff_not] at hcO; omega
  apply CallI.use
  focus (exact fun w2 h2 => move_any n a cap L ao co O (by omega) w2 (hS.st (st.at h2 (fun x hx => by simp at hx <;> omega))) (hSO.st (st.at h2 (fun x hx => by simp at hx <;> omega))))
  rintro v w2 v2 h2 hB2 ⟨a1, c1, rfl, hF1⟩
  have st := st.next h2 (fun x hx => by simp at hx <;> omega) hB2
  refine NewI.mk fun b2 hb2 => ?_
  refine Branch.mk (fun hc1 => ?_) (fun hc1 => ?_)
  · refine EndI.mk fun w5 h5 => ?_
    rw [Proj.move_err (by simpa using hc1)]; rfl
  obtain ⟨N, rfl, hc0, hO, hmv⟩ := Proj.move_ok (n := n) (L := L) (O := O) (by simpa using hc1)
  rw [hmv] at hF1 ⊢
  obtain ⟨c1', c2', c3', c4'⟩ := Dbm.chk_iff.1 hc0
  have hlen : L.length = N * N := by exact_mod_cast c3'
  have hOlen := hO.len
  have hN1 : 1 ≤ N := by omega
  have hSO' : Sl w.heap.size w (.slice ao N co) O := by rw [hOlen] at hSO; exact hSO
  rw [hOlen]
  refine GenV.mks (α := Int) elDI 0 infoI0 N rfl (by simp [Enc.size]; omega) (by omega) fun v w3 v3 h3 hB3 hOw => ?_
  have st := st.next h3 (fun x hx => by simp at hx <;> omega) hB3
  obtain ⟨ab, cb, rfl⟩ := hOw.form
  have hBk : Proj.backP O 0 = List.replicate N 0 := by rw [Proj.backP_zero, hOlen]
  have hcb : N ≤ cb ∧ cb ≤ maxLen := by
    obtain ⟨_, ⟨h0, _⟩ | ⟨g', cap', cur, h0, _, _, hn, hm, _⟩⟩ := id hOw
    · injection h0 with _ h0; simp at h0; omega
    · injection h0 with _ _ h0; subst h0; simp at hn; exact ⟨hn, hm⟩
  rw [← hBk] at hOw ⊢
  obtain ⟨g, rfl, hgb, hRow⟩ := hOw.row (by rw [Proj.backP_len]; omega)
  have hg2 : v2.heap.size ≤ g := by have := h3.size; omega
  have hgw : w.heap.size ≤ g := by have := h3.below.size; simp only at this; omega
  have hgr : ∀ b, b ∈ [b1, b2] → b ≠ g := fun b hb e => by have := h3.lt b hb; omega
  rw [Proj.backP_len, hOlen]
  have s2 := st.get (X := v2) (by simp)
  have sw := st.get (X := w) (by simp)
  refine LoopI.invC (α := Nat × World) (fun y => [(11, .val (.int .i64 y.1))]) (fun y => y.2) (fun y => y.1 ≤ N ∧ Below w.heap.size w y.2 ∧ Below v2.heap.size v2 y.2 ∧ RowAt TI y.2 g (Proj.backP O y.1)) (fun y => N - y.1) ?_ ?_
  · intro w5 h5
    exact ⟨(0, w5), Cov.mk (by repeat' (first | exact trivial | refine And.intro rfl ?_)) rfl rfl rfl rfl rfl, rfl, Nat.zero_le _, h5.below, (st.at h5 (fun x hx => by simp at hx <;> omega)).get (X := v2) (by simp), hRow.at h5 (by simp)⟩
  rintro ⟨k, W⟩ ⟨hk, hW, hW2, hRk⟩
  refine Branch.mk (fun hb => ?_) (fun hb => ?_)
  · have hlt : k < N := by simpa using hb
    have hgk := Proj.og_get (O := O) (i := k) (by omega)
    have hr := hO.lt k hlt
    have hSOW := hSO'.go hW hW.size
    refine hSOW.idx hgk fun ad had => ?_
    refine hSOW.ld1 hgk had (Below.refl _ _) (by simp) ?_
    obtain ⟨f, hf⟩ : ∃ f : Nat, Proj.og O k = f := ⟨(Proj.og O k).toNat, by omega⟩
    rw [hf] at hr ⊢
    refine IdxI.mk ⟨_, ⟨rfl, by omega, by omega⟩, ?_⟩
    refine StoreI.mk fun w5 h5 => ?_
    have r5 := hRk.below h5.go hRk.lt
    rw [show ((⟨g, 0, none⟩ : Addr).add ((f : Int).toNat * 1)) = ⟨g, f, none⟩ by simp [addr_addL]]
    have hkl : f < (Proj.backP O k).length := by rw [Proj.backP_len]; omega
    refine ⟨⟨⟨_, r5.cell hkl⟩, r5.frozen _⟩, keep_set hgw hgr, ?_⟩
    have r6 := r5.set hkl (k : Int)
    have B6 : Below w.heap.size w (w5.setCell ⟨g, f, none⟩ (.int .i64 k)) := h5.below.setCell (p := ⟨g, f, none⟩) hgw _
    have B6' : Below v2.heap.size v2 (w5.setCell ⟨g, f, none⟩ (.int .i64 k)) := (hW2.trans (h5.go.mono hW2.size)).setCell (p := ⟨g, f, none⟩) hg2 _
    generalize w5.setCell ⟨g, f, none⟩ (.int .i64 k) = w6 at r6 B6 B6'
    refine Need.mk (by show _ ∧ _; omega) (EndI.mk fun w7 h7 => ⟨(k + 1, w7), Cov.mk (by repeat' (first | exact trivial | refine And.intro rfl ?_)) rfl rfl rfl rfl rfl, rfl, ⟨hlt, h7.below, B6'.trans (h7.go.mono B6'.size), ?_⟩, by simp only; omega⟩)
    rw [Proj.backP_succ, hf, Int.toNat_natCast]
    exact r6.below h7.go r6.lt
  have hge : k = N := by have : ¬ k < N := by simpa using hb
                         omega
  subst hge
  have hInv := Proj.backP_inv hO
  generalize Proj.backP O k = B at hRk hInv
  have hBl := hInv.len
  have hFb : Fresh TI w.heap.size W (.slice (some ⟨g, 0, none⟩) B.length cb) B := .inr ⟨g, cb, rfl, by omega, hcb.2, hgw, hRk⟩
  have hwv2 : Below w.heap.size w v2 := st.base v2 (by simp)
  have st : Stay ⟨w, w.heap.size, Nat.le_refl _⟩ [W, v2, w] W := ⟨by simp; exact ⟨hW, hwv2, Below.refl _ _⟩, by simp; exact ⟨Below.refl _ _, hW2, hW⟩⟩
  clear hW hW2 sw s2
  have mb := fun (a : Option Addr) (cap : Nat) (w : World) => move_any k a cap (Proj.moveL k L O) (some ⟨g, 0, none⟩) cb B (by omega) w
  rw [hBl, Proj.move_of (Proj.chk_move hc0 hO) (hInv.ord hN1 hO), Proj.move_back hlen hN1 hO hInv] at mb
  rw [hBl] at hFb
  apply CallI.use
  focus (exact fun w4 h4 => mb a1 c1 w4 (hF1.sl.st (st.at h4 (fun x hx => by simp at hx <;> omega))) (hFb.sl.st (st.at h4 (fun x hx => by simp at hx <;> omega))))
  rintro v w4 v4 h4 hB4 ⟨a2, c2, rfl, hF2⟩
  have st := st.next h4 (fun x hx => by simp at hx <;> omega) hB4
  refine NewI.mk fun b3 hb3 => ?_
  refine Branch.no (by simp) ?_
  apply CallI.use1
  focus (exact fun w5 h5 => same04_any k k L L a2 a c2 cap w5 (hF2.sl.st (st.at h5 (fun x hx => by simp at hx <;> omega))) (hS.st (st.at h5 (fun x hx => by simp at hx <;> omega))))
  intro w5 v5 h5 hB5
  have st := st.next h5 (fun x hx => by simp at hx <;> omega) hB5
  refine Branch.no (by simp [sameB]) ?_
  apply CallI.use
  focus (exact fun w6 h6 => dkeeps_any k a cap L T at_ ct w6 hT (hS.st (st.at h6 (fun x hx => by simp at hx <;> omega))) (hST.st (st.at h6 (fun x hx => by simp at hx <;> omega))))
  rintro v w6 v6 h6 hB6 rfl
  have st := st.next h6 (fun x hx => by simp at hx <;> omega) hB6
  refine Branch.mk (fun hk1 => ?_) (fun hk1 => ?_)
  · exact EndI.mk fun _ _ => rfl
  have hk0 : (Dbm.keeps k L T).2 = 0 := by simpa using hk1
  have hTl : (T.length : Int) = k - 1 := (Proj.keeps_ok hk0).2.2.1
  refine LoopI.invC (α := Nat × World × Value × Nat) (fun y => [(17, .val (.int .i64 ((y.1 + 1 : Nat) : Int))), (16, .val y.2.2.1)]) (fun y => y.2.1) (fun y => y.1 + 1 ≤ k ∧ Lp ⟨w, w.heap.size, Nat.le_refl _⟩ [v2, w] [b1, b2, b3] TR y.2.2.2 y.2.1 y.2.2.1 (Proj.movedT O T y.1)) (fun y => k - y.1) ?_ ?_
  · intro w7 h7
    exact ⟨(0, w7, .slice none 0 0, w7.heap.size), Cov.mk (by repeat' (first | exact trivial | refine And.intro rfl ?_)) rfl rfl rfl rfl rfl, rfl, hN1, Lp.start (st.sub (by simp)) h7 (fun x hx => by simp at hx <;> omega)⟩
  rintro ⟨i, W2, sv, base⟩ ⟨hi, hlp⟩
  refine Branch.mk (fun hb => ?_) (fun hb => ?_)
  · have hlt : i + 1 < k := by have : ((i + 1 : Nat) : Int) < k := by simpa using hb
                               omega
    have hlp : Lp ⟨w, w.heap.size, Nat.le_refl _⟩ [v2, w] [b1, b2, b3] TR base W2 sv (Proj.movedT O T i) := hlp
    have hgk := Proj.og_get (O := O) (i := i + 1) (by omega)
    have hpo := hO.pos (i := i + 1) (by omega) hlt
    have hlo := hO.lt (i + 1) hlt
    have hSO2 := hSO'.st hlp.st
    have hST2 := hST.st hlp.st
    refine hSO2.idx hgk fun ad had => ?_
    refine hSO2.ld1 hgk had (Below.refl _ _) (by simp) ?_
    refine Need.mk (by show _ ∧ _; omega) ?_
    obtain ⟨f, hf⟩ : ∃ f : Nat, Proj.og O (i + 1) - 1 = f := ⟨(Proj.og O (i + 1) - 1).toNat, by omega⟩
    rw [hf]
    have hgT := List.getElem?_eq_getElem (l := T) (i := f) (by omega)
    refine hST2.idx hgT fun ad2 had2 => ?_
    refine hST2.ld hgT had2 (Below.refl _ _) (by simp) ?_
    refine NewI.mk fun b4 hb4 => ?_
    refine GenN.appL (α := Rt) elR hlp (fun x hx => by simp at hx ⊢; rcases hx with h | h | h | h <;> simp [h]; exact .inr hb4) (fun x hx => by simp at hx <;> omega) [T[f]'(by omega)] (fun w8 h8 => src_own h8 3 rfl rfl rfl rfl) (by rw [Proj.movedT_len]; simp; omega) (by decide) fun a' c' w8 w9 h8 hlp9 hsz hbl => ?_
    have hst : Proj.movedT O T (i + 1) = Proj.movedT O T i ++ [T[f]'(by omega)] := by
      rw [Proj.movedT_succ, hf, Int.toNat_natCast, hgT]; rfl
    rw [← hst] at hlp9 ⊢
    refine Need.mk (by show _ ∧ _; omega) (EndI.mk fun w10 h10 => ⟨(i + 1, w10, .slice a' (Proj.movedT O T (i + 1)).length c', base), Cov.mk (by repeat' (first | exact trivial | refine And.intro rfl ?_)) rfl rfl rfl rfl rfl, rfl, ⟨by omega, hlp9.at h10 (by simp)⟩, by simp only; omega⟩)
  have hge : i + 1 = k := by have : ¬ ((i + 1 : Nat) : Int) < k := by simpa using hb
                             omega
  have hlp : Lp ⟨w, w.heap.size, Nat.le_refl _⟩ [v2, w] [b1, b2, b3] TR base W2 sv (Proj.movedT O T i) := hlp
  obtain rfl : i = k - 1 := by omega
  obtain ⟨am, cm, rfl⟩ := hlp.own.form
  have st := hlp.st.here (hlp.st.get (X := w) (by simp))
  have hTm : ∀ x ∈ Proj.movedT O T (k - 1), x.ins := fun x hx => by
    obtain ⟨j, hj, rfl⟩ := List.mem_map.1 hx
    have hj := List.mem_range.1 hj
    have hp := hO.pos (i := j + 1) (by omega) (by omega)
    have hl := hO.lt (j + 1) (by omega)
    rw [List.getElem?_eq_getElem (by omega)]
    exact hT _ (List.getElem_mem _)
  have hOm : Sl W2.heap.size W2 (.slice am (Proj.movedT O T (k - 1)).length cm) (Proj.movedT O T (k - 1)) := hlp.own.sl
  apply CallI.use
  focus (exact fun w10 h10 => dkeeps_any k a1 c1 _ _ am cm w10 hTm (hF1.sl.st (st.at h10 (fun x hx => by simp at hx <;> omega))) (hOm.st (st.at h10 (fun x hx => by simp at hx <;> omega))))
  rintro v w10 v10 h10 hB10 rfl
  have st := st.next h10 (fun x hx => by simp at hx <;> omega) hB10
  have hfin := Proj.move_keeps hc0 hO hk0
  refine Branch.yes (by simp only; rw [hfin]; simp [hk0]) ?_
  refine EndI.mk fun w11 h11 => ?_
  simp only
  rw [hfin]
  simp
end Go.Proofs.Ytnhfkodjphplfaa
